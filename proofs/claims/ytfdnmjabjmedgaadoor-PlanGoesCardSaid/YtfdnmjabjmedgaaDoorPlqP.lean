/- Part of a proof: plain readings of Go functions, their contracts, or plain facts of them. -/
import Derived.Test.YtfdnmjabjmedgaaDoorDen3
namespace Go.Proofs.YtfdnmjabjmedgaaDoor
open Go.Den Go.RowKit Go.ChangeShapes

abbrev I64 := Ty.int .i64
abbrev PI64 : Type := Int
abbrev Bo := Ty.bool
abbrev PBo : Type := Bool
abbrev U8 := Ty.int .u8
abbrev PU8 : Type := Int
abbrev SGroup := Ty.pair U8 (Ty.pair I64 I64)
abbrev PSGroup : Type := Int × (Int × Int)
abbrev SGroups := Ty.slice SGroup
abbrev PSGroups : Type := List PSGroup
abbrev U32 := Ty.int .u32
abbrev PU32 : Type := Int
abbrev U32s := Ty.slice U32
abbrev PU32s : Type := List Int
abbrev I64s := Ty.slice I64
abbrev PI64s : Type := List Int
abbrev I64ss := Ty.slice I64s
abbrev PI64ss : Type := List (List Int)
abbrev SPhase := Ty.pair U32 (Ty.pair I64 (Ty.pair I64 (Ty.pair I64 Bo)))
abbrev PSPhase : Type := Int × (Int × (Int × (Int × Bool)))
abbrev SPhases := Ty.slice SPhase
abbrev PSPhases : Type := List PSPhase
abbrev SEye := Ty.pair I64 (Ty.pair I64 (Ty.pair I64 I64))
abbrev PSEye : Type := Int × (Int × (Int × Int))
abbrev SEyes := Ty.slice SEye
abbrev PSEyes : Type := List PSEye
abbrev SPlan := Ty.pair I64 (Ty.pair I64 I64s)
abbrev PSPlan : Type := Int × (Int × List Int)
abbrev SPlans := Ty.slice SPlan
abbrev PSPlans : Type := List PSPlan
abbrev SSite := Ty.pair I64 (Ty.pair SGroups (Ty.pair U32s (Ty.pair I64ss (Ty.pair SPhases (Ty.pair SEyes (Ty.pair I64 (Ty.pair I64 (Ty.pair I64 (Ty.pair I64 (Ty.pair I64 SPlans))))))))))
abbrev PSSite : Type := Int × (List PSGroup × (List Int × (List (List Int) × (List PSPhase × (List PSEye × (Int × (Int × (Int × (Int × (Int × List PSPlan))))))))))
abbrev SSeen := Ty.pair U8 (Ty.pair I64 I64)
abbrev PSSeen : Type := Int × (Int × Int)
abbrev SSeens := Ty.slice SSeen
abbrev PSSeens : Type := List PSSeen
abbrev SSafe := Ty.pair SSeens (Ty.pair I64 Bo)
abbrev PSSafe : Type := List PSSeen × (Int × Bool)
abbrev U8s := Ty.slice U8
abbrev PU8s : Type := List Int

/-- site.in -/
def site_in_t (x : Int × Int × Int) : Option (Bool) :=
(some ((decide (x.2.1 ≤ x.1)) && (decide (x.1 ≤ x.2.2))))
def site_in (x : Int × Int × Int) : Bool :=
(((decide (x.2.1 ≤ x.1)) && (decide (x.1 ≤ x.2.2))))
theorem site_in_e (x : Int × Int × Int) : site_in_t x = some (site_in x) := by
  unfold site_in_t site_in
  rfl

/-- site.shape -/
def site_shape_t (x : PSSite) : Option (Bool) :=
(letK (site_in ((llen x.2.1), (1, 16))) (fun y =>
(cnd ((((((!y) || (!((llen x.2.2.1) == (llen x.2.1)))) || (!((llen x.2.2.2.1) == (llen x.2.1)))) || (!(site_in ((llen x.2.2.2.2.1), (1, 8))))) || (decide (24 < (llen x.2.2.2.2.2.1)))) || (decide (8 < (llen x.2.2.2.2.2.2.2.2.2.2.2))))
(some false)
(iter none (fun x1 =>
(cnd (decide (x1 < (llen x.2.2.2.1)))
(elimO (idx x.2.2.2.1 x1) (.done none) (fun x2 =>
(cnd (!((llen x2) == (llen x.2.1)))
(.done (some false))
(elimO (idx x.2.2.1 x1) (.done none) (fun x3 =>
(cnd (decide (0 ≤ (llen x.2.1)))
(cnd (!((shrop Go.IntKind.u32 x3 (llen x.2.1)) == 0))
(.done (some false))
(.next (wr .i64 (x1 + 1))))
(.done none)))))))
(.done (some true)))) lots 0))))

/-- site.ticks -/
def site_ticks_t (x : List Int) : Option (Bool) :=
(iter none (fun x1 =>
(cnd (decide (x1 < (llen x)))
(elimO (idx x x1) (.done none) (fun x2 =>
(letK (site_in (x2, (1, 1048576))) (fun y =>
(cnd (!y)
(.done (some false))
(.next (wr .i64 (x1 + 1))))))))
(.done (some true)))) lots 0)
def site_ticks (x : List Int) : Bool := x.all fun n => decide (1 ≤ n) && decide (n ≤ 1048576)
theorem site_ticks_e (x : List Int) (hf : FitsAll [I64s] x) : site_ticks_t x = some (site_ticks x) := by
  unfold site_ticks_t
  obtain ⟨b, h1, h2⟩ := iter_allP (l := x) (bad := none) (no := some false) (yes := some true) (f := fun x1 =>
(cnd (decide (x1 < (llen x)))
(elimO (idx x x1) (.done none) (fun x2 =>
(letK (site_in (x2, (1, 1048576))) (fun y =>
(cnd (!y)
(.done (some false))
(.next (wr .i64 (x1 + 1))))))))
(.done (some true)))) (fun _ n => site_in (n, (1, 1048576)) = true) hf.1 (fun i n h0 h1 hn => by
      simp only [h1, decide_true, cnd, hn, elimO, letK]
      cases site_in (n, (1, 1048576)) <;> simp) (fun i hi => by simp [hi, cnd])
  rw [h1]
  have : b = site_ticks x := by
    apply Bool.eq_iff_iff.2
    rw [h2]
    unfold site_ticks site_in
    simp only [List.all_eq_true]
    exact ⟨fun h n hn => by obtain ⟨i, hi⟩ := mem_idx hn; exact h i n hi, fun h i n hi => h n (idx_some_iff hi).2.2⟩
  rw [this]
  cases site_ticks x <;> rfl

/-- ring.bit -/
def ring_bit_t (x : Int) : Option (Int) :=
(cnd ((decide (x < 0)) || (decide (31 < x)))
(some 0)
(cnd (decide (0 ≤ x))
(some (shlop Go.IntKind.u32 1 x))
 none))
theorem shl_fits (x : Int) (h : ¬ (x < 0)) : decide (0 ≤ x) = true := by simp; omega
def ring_bit (x : Int) : Int := cnd (decide (x < 0) || decide (31 < x)) 0 (shlop .u32 1 x)
theorem ring_bit_e (x : Int) (_ : FitsAll [I64] x) : ring_bit_t x = some (ring_bit x) := by
  unfold ring_bit_t ring_bit
  by_cases h : x < 0
  · simp [h, cnd]
  · have h' : 0 ≤ x := by omega
    by_cases h2 : 31 < x
    · simp [h2, cnd]
    · simp [h, h2, h', cnd]

/-- ring.Has -/
def ring_Has_t (x : Int × Int) : Option (Bool) :=
(letK (ring_bit x.2) (fun y =>
(some (!((bitop Go.BinOp.and Go.IntKind.u32 x.1 y) == 0)))))
def ring_Has (x : Int × Int) : Bool :=
(letK (ring_bit x.2) (fun y =>
((!((bitop Go.BinOp.and Go.IntKind.u32 x.1 y) == 0)))))
theorem ring_Has_e (x : Int × Int) : ring_Has_t x = some (ring_Has x) := by
  unfold ring_Has_t ring_Has
  simp only [letK]

/-- site.apart -/
def site_apart_t (x : PSSite) : Option (Bool) :=
(iter none (fun x1 =>
(cnd (decide (x1 < (llen x.2.1)))
(elimO (idx x.2.1 x1) (.done none) (fun x2 =>
(cnd (((!(x2.1 == 1)) && (!(x2.1 == 2))) || (!(site_ticks (x2.2.1 :: (x2.2.2 :: [])))))
(.done (some false))
(elimO (idx x.2.2.2.1 x1) (.done none) (fun x3 =>
(iter (.done none) (fun x4 =>
(cnd (decide (x4 < (llen x3)))
(elimO (idx x3 x4) (.done (.done none)) (fun x5 =>
(elimO (idx x.2.2.1 x1) (.done (.done none)) (fun x6 =>
(letK (ring_Has (x6, x4)) (fun y =>
(elimO (idx x.2.2.1 x4) (.done (.done none)) (fun x7 =>
(letK (ring_Has (x7, x1)) (fun y1 =>
(cnd (!(y == y1))
(.done (.done (some false)))
(cnd (y && (x1 == x4))
(.done (.done (some false)))
(cnd (y && (!(site_in (x5, (x2.2.2, 1048576)))))
(.done (.done (some false)))
(cnd ((!y) && (!(x5 == 0)))
(.done (.done (some false)))
(.next (wr .i64 (x4 + 1)))))))))))))))))
(.done (.next (wr .i64 (x1 + 1)))))) lots 0))))))
(.done (some true)))) lots 0)

def bits_TrailingZeros32 (x : Int) : Int := low x

/-- ring.Least -/
def ring_Least_t (x : Int) : Option (Int) :=
(cnd (x == 0)
(some (-1))
(letK (bits_TrailingZeros32 x) (fun y =>
(some y))))
def ring_Least (x : Int) : Int :=
(cnd (x == 0)
((-1))
(letK (bits_TrailingZeros32 x) (fun y =>
(y))))
theorem ring_Least_e (x : Int) : ring_Least_t x = some (ring_Least x) := by
  unfold ring_Least_t ring_Least
  simp only [letK, cnd_some]

/-- ring.Without -/
def ring_Without_t (x : Int × Int) : Option (Int) :=
(letK (ring_bit x.2) (fun y =>
(some (bitop Go.BinOp.andNot Go.IntKind.u32 x.1 y))))
def ring_Without (x : Int × Int) : Int :=
(letK (ring_bit x.2) (fun y =>
((bitop Go.BinOp.andNot Go.IntKind.u32 x.1 y))))
theorem ring_Without_e (x : Int × Int) : ring_Without_t x = some (ring_Without x) := by
  unfold ring_Without_t ring_Without
  simp only [letK]

def bits_OnesCount32 (x : Int) : Int := cnt x

/-- ring.Count -/
def ring_Count_t (x : Int) : Option (Int) :=
(letK (bits_OnesCount32 x) (fun y =>
(some y)))
def ring_Count (x : Int) : Int :=
(letK (bits_OnesCount32 x) (fun y =>
(y)))
theorem ring_Count_e (x : Int) : ring_Count_t x = some (ring_Count x) := by
  unfold ring_Count_t ring_Count
  simp only [letK]

/-- site.phased -/
def site_phased_t (x : PSSite) : Option (Bool) :=
(iter none (fun x1 =>
(cnd (decide (x1.2 < (llen x.2.2.2.2.1)))
(elimO (idx x.2.2.2.2.1 x1.2) (.done none) (fun x2 =>
(cnd (x2.1 == 0)
(.done (some false))
(cnd (decide (0 ≤ (llen x.2.1)))
(cnd (((!((shrop Go.IntKind.u32 x2.1 (llen x.2.1)) == 0)) || (!(site_ticks (x2.2.1 :: (x2.2.2.1 :: (x2.2.2.2.1 :: [])))))) || (decide (x2.2.2.1 < x2.2.1)))
(.done (some false))
(iter (.done none) (fun x3 =>
(cnd (!(x3 == 0))
(letK (ring_Least x3) (fun y =>
(letK (ring_Without (x3, y)) (fun y1 =>
(elimO (idx x.2.1 y) (.done (.done none)) (fun x4 =>
(cnd (decide (x2.2.1 < x4.2.1))
(.done (.done (some false)))
(elimO (idx x.2.2.1 y) (.done (.done none)) (fun x5 =>
(cnd (!((bitop Go.BinOp.and Go.IntKind.u32 x5 x2.1) == 0))
(.done (.done (some false)))
(.next y1)))))))))))
(.done (.next ((bitop Go.BinOp.or Go.IntKind.u32 x1.1 x2.1), (wr .i64 (x1.2 + 1))))))) lots x2.1))
(.done none)))))
(.done (letK (ring_Count x1.1) (fun y =>
(some (y == (llen x.2.1)))))))) lots (0, 0))

/-- site.eyed -/
def site_eyed_t (x : PSSite) : Option (Bool) :=
(iter none (fun x1 =>
(cnd (decide (x1 < (llen x.2.2.2.2.2.1)))
(elimO (idx x.2.2.2.2.2.1 x1) (.done none) (fun x2 =>
(letK (site_in (x2.1, (0, (wr .i64 ((llen x.2.2.2.2.1) - 1))))) (fun y =>
(cnd (((!y) || (!(site_ticks (x2.2.1 :: (x2.2.2.1 :: []))))) || (!(site_in (x2.2.2.2, (1, 64)))))
(.done (some false))
(.next (wr .i64 (x1 + 1))))))))
(.done (some true)))) lots 0)

/-- site.clear -/
def site_clear_t (x : PSSite × Int × Int) : Option (Int) :=
(iter none (fun x1 =>
(cnd (decide (x1.2 < (llen x.1.2.1)))
(elimO (idx x.1.2.2.2.2.1 x.2.1) (.done none) (fun x2 =>
(letK (ring_Has (x2.1, x1.2)) (fun y =>
(cnd (!y)
(.next (x1.1, (wr .i64 (x1.2 + 1))))
(elimO (idx x.1.2.2.1 x1.2) (.done none) (fun x3 =>
(elimO (idx x.1.2.2.2.2.1 x.2.2) (.done none) (fun x4 =>
(iter (.done none) (fun x5 =>
(cnd (!(x5.2 == 0))
(letK (ring_Least x5.2) (fun y1 =>
(letK (ring_Without (x5.2, y1)) (fun y2 =>
(elimO (idx x.1.2.2.2.1 x1.2) (.done (.done none)) (fun x6 =>
(elimO (idx x6 y1) (.done (.done none)) (fun x7 =>
(.next ((gmax x5.1 x7), y2))))))))))
(.done (.next (x5.1, (wr .i64 (x1.2 + 1))))))) lots (x1.1, (bitop Go.BinOp.and Go.IntKind.u32 x3 x4.1))))))))))))
(.done (some x1.1)))) lots (0, 0))

/-- site.needs -/
def site_needs_t (x : PSSite × Int) : Option (Int) :=
(elimO (idx x.1.2.2.2.2.1 x.2) none (fun x1 =>
(cnd (!((llen x.1.2.2.2.2.1) == 0))
(elimO (site_clear_t (x.1, (x.2, (irem (wr .i64 (x.2 + 1)) (llen x.1.2.2.2.2.1))))) none (fun x2 =>
(some (wr .i64 (x1.2.1 + x2)))))
 none)))

/-- site.timed -/
def site_timed_t (x : PSSite) : Option (Bool) :=
(iter none (fun x1 =>
(cnd (decide (x1.2 < (llen x.2.2.2.2.1)))
(elimO (site_needs_t (x, x1.2)) (.done none) (fun x2 =>
(.next ((wr .i64 (x1.1 + x2)), (wr .i64 (x1.2 + 1))))))
(.done (letK (site_ticks (x.2.2.2.2.2.2.1 :: (x.2.2.2.2.2.2.2.1 :: (x.2.2.2.2.2.2.2.2.1 :: (x.2.2.2.2.2.2.2.2.2.1 :: (x.2.2.2.2.2.2.2.2.2.2.1 :: [])))))) (fun y =>
(some ((y && (decide (x1.1 ≤ x.2.2.2.2.2.2.2.2.2.1))) && (decide (x.2.2.2.2.2.2.2.2.2.1 ≤ x.2.2.2.2.2.2.2.2.2.2.1))))))))) lots (0, 0))

/-- site.fits -/
def site_fits_t (x : PSSite × PSPlan) : Option (Bool) :=
(letK (site_in (x.2.1, (x.1.2.2.2.2.2.2.2.2.2.1, x.1.2.2.2.2.2.2.2.2.2.2.1))) (fun y =>
(cnd (((!y) || (!(site_in (x.2.2.1, (0, (wr .i64 (x.2.1 - 1))))))) || (!((llen x.2.2.2) == (llen x.1.2.2.2.2.1))))
(some false)
(iter none (fun x1 =>
(cnd (decide (x1.2 < (llen x.2.2.2)))
(elimO (idx x.2.2.2 x1.2) (.done none) (fun x2 =>
(elimO (site_needs_t (x.1, x1.2)) (.done none) (fun x3 =>
(letK (site_in (x2, (x3, x1.1))) (fun y1 =>
(cnd (!y1)
(.done (some false))
(.next ((wr .i64 (x1.1 - x2)), (wr .i64 (x1.2 + 1)))))))))))
(.done (some (x1.1 == 0))))) lots (x.2.1, 0)))))

/-- site.planned -/
def site_planned_t (x : PSSite) : Option (Bool) :=
(iter none (fun x1 =>
(cnd (decide (x1 < (llen x.2.2.2.2.2.2.2.2.2.2.2)))
(elimO (idx x.2.2.2.2.2.2.2.2.2.2.2 x1) (.done none) (fun x2 =>
(elimO (site_fits_t (x, x2)) (.done none) (fun x3 =>
(cnd (!x3)
(.done (some false))
(.next (wr .i64 (x1 + 1))))))))
(.done (some true)))) lots 0)

/-- site.Check -/
def site_Check_t (x : PSSite) : Option (Int) :=
(iter none (fun x1 =>
(cnd (decide (x1.2 < 6))
(cnd (x1.2 == 0)
(letK (site_in (x.1, (0, 65535))) (fun y =>
(cnd (!y)
(.done (some 50))
(elimO (site_shape_t x) (.done none) (fun x2 =>
(cnd (!x2)
(.done (cnd (!x2)
(some 50)
(some 0)))
(.next ((!x2), (wr .i64 (x1.2 + 1))))))))))
(cnd (x1.2 == 1)
(elimO (site_apart_t x) (.done none) (fun x2 =>
(cnd (!x2)
(.done (cnd (!x2)
(some 50)
(some 0)))
(.next ((!x2), (wr .i64 (x1.2 + 1)))))))
(cnd (x1.2 == 2)
(elimO (site_phased_t x) (.done none) (fun x2 =>
(cnd (!x2)
(.done (cnd (!x2)
(some 50)
(some 0)))
(.next ((!x2), (wr .i64 (x1.2 + 1)))))))
(cnd (x1.2 == 3)
(elimO (site_eyed_t x) (.done none) (fun x2 =>
(cnd (!x2)
(.done (cnd (!x2)
(some 50)
(some 0)))
(.next ((!x2), (wr .i64 (x1.2 + 1)))))))
(cnd (x1.2 == 4)
(elimO (site_timed_t x) (.done none) (fun x2 =>
(cnd (!x2)
(.done (cnd (!x2)
(some 50)
(some 0)))
(.next ((!x2), (wr .i64 (x1.2 + 1)))))))
(cnd (x1.2 == 5)
(elimO (site_planned_t x) (.done none) (fun x2 =>
(cnd (!x2)
(.done (cnd (!x2)
(some 50)
(some 0)))
(.next ((!x2), (wr .i64 (x1.2 + 1)))))))
(cnd x1.1
(.done (cnd x1.1
(some 50)
(some 0)))
(.next (x1.1, (wr .i64 (x1.2 + 1)))))))))))
(.done (cnd x1.1
(some 50)
(some 0))))) lots (false, 0))

/-- site.Plan -/
def site_Plan_t (x : PSSite × PSPlan) : Option (Bool × Int) :=
(elimO (site_Check_t x.1) none (fun x1 =>
(cnd (!(x1 == 0))
(some (false, x1))
(elimO (site_fits_t x) none (fun x2 =>
(some (x2, 0)))))))

/-- stoplinelaw17.three -/
def law17_three_t (_ : Unit) : Option (PSSite) :=
(some (1, (((1, (2, 1)) :: ((1, (2, 1)) :: ((2, (3, 2)) :: []))), ((6 :: (1 :: (1 :: []))), (((0 :: (2 :: (3 :: []))) :: ((2 :: (0 :: (0 :: []))) :: ((4 :: (0 :: (0 :: []))) :: []))), (((1, (2, (9, (1, false)))) :: ((6, (3, (9, (1, false)))) :: [])), ([], (9, (2, (3, (30, (60, []))))))))))))
def law17_three (_ : Unit) : PSSite :=
((1, (((1, (2, 1)) :: ((1, (2, 1)) :: ((2, (3, 2)) :: []))), ((6 :: (1 :: (1 :: []))), (((0 :: (2 :: (3 :: []))) :: ((2 :: (0 :: (0 :: []))) :: ((4 :: (0 :: (0 :: []))) :: []))), (((1, (2, (9, (1, false)))) :: ((6, (3, (9, (1, false)))) :: [])), ([], (9, (2, (3, (30, (60, []))))))))))))
theorem law17_three_e (x : Unit) : law17_three_t x = some (law17_three x) := by
  unfold law17_three_t law17_three
  rfl

/-- plan.next -/
def plan_next_t (x : PSSite × Int) : Option (Int) :=
(cnd (!((llen x.1.2.2.2.2.1) == 0))
(some (irem (wr .i64 (x.2 + 1)) (llen x.1.2.2.2.2.1)))
 none)

/-- site.Clear -/
def site_Clear_t (x : PSSite × Int × Int) : Option (Int × Int) :=
(joinPt (fun x1 =>
(cnd (!(x1 == 0))
(some (0, x1))
(elimO (site_clear_t x) none (fun x2 =>
(some (x2, 0)))))) (fun k =>
(elimO (site_Check_t x.1) none (fun x1 =>
(cnd (!(x1 == 0))
(k x1)
(iter none (fun x2 =>
(cnd (decide (x2 < (llen (x.2.1 :: (x.2.2 :: [])))))
(elimO (idx (x.2.1 :: (x.2.2 :: [])) x2) (.done none) (fun x3 =>
(letK (site_in (x3, (0, (wr .i64 ((llen x.1.2.2.2.2.1) - 1))))) (fun y =>
(cnd (!y)
(.done (k 2))
(.next (wr .i64 (x2 + 1))))))))
(.done (k 0)))) lots 0))))))

/-- plan.clear -/
def plan_clear_t (x : PSSite × Int) : Option (Int) :=
(elimO (plan_next_t x) none (fun x1 =>
(elimO (site_Clear_t (x.1, (x.2, x1))) none (fun x2 =>
(some x2.1)))))

/-- plan.Clamp -/
def plan_Clamp_t (x : PSSite × PSPlan) : Option (PSPlan × Int) :=
(elimO (site_Check_t x.1) none (fun x1 =>
(cnd (!(x1 == 0))
(some ((0, (0, [])), x1))
(cnd (!((gmin (gmax x.2.1 x.1.2.2.2.2.2.2.2.2.2.1) x.1.2.2.2.2.2.2.2.2.2.2.1) == 0))
(cnd (!((gmin (gmax x.2.1 x.1.2.2.2.2.2.2.2.2.2.1) x.1.2.2.2.2.2.2.2.2.2.2.1) == 0))
(cnd ((decide (0 ≤ (llen x.1.2.2.2.2.1))) && ((decide ((llen x.1.2.2.2.2.1) ≤ (llen x.1.2.2.2.2.1))) && (makeOK (llen x.1.2.2.2.2.1) 8)))
(iter none (fun x2 =>
(cnd (decide (x2.1 < (llen x.1.2.2.2.2.1)))
(elimO (idx x.1.2.2.2.2.1 x2.1) (.done none) (fun x3 =>
(elimO (plan_clear_t (x.1, x2.1)) (.done none) (fun x4 =>
(joinPt (fun x5 =>
(joinPt (fun x6 =>
(elimO (idx x6.2.2 x2.1) (.done none) (fun _ =>
(elimO (idx x6.2.2 x2.1) (.done none) (fun x8 =>
(cnd (true && (roomOK ((llen x6.2.1.2.1) + (llen ((wr .i64 (x3.2.1 + x4)) :: []))) 8))
(.next ((wr .i64 (x2.1 + 1)), ((wr .i64 (x2.2.1 - (wr .i64 (x3.2.1 + x4)))), ((wr .i64 (x2.2.2.1 + x8)), (x6.1, ((x6.2.1.1, ((x6.2.1.2.1 ++ ((wr .i64 (x3.2.1 + x4)) :: [])), ())), x6.2.2))))))
(.done none))))))) (fun k =>
(elimO (idx x5.2 x2.1) (.done none) (fun _ =>
(elimO (idx x5.2 x2.1) (.done none) (fun x7 =>
(cnd ((decide (0 < x7)) && (decide (x2.2.2.2.1 < 0)))
(k (x2.1, ((x5.1.1, (x5.1.2.1, ())), x5.2)))
(k (x2.2.2.2.1, ((x5.1.1, (x5.1.2.1, ())), x5.2))))))))))) (fun k =>
(cnd (decide (x2.1 < (llen x.2.2.2)))
(elimO (idx x.2.2.2 x2.1) (.done none) (fun x5 =>
(elimO (idx x2.2.2.2.2.2 x2.1) (.done none) (fun _ =>
(elimO (idx x2.2.2.2.2.2 x2.1) (.done none) (fun _ =>
(k ((x2.2.2.2.2.1.1, (x2.2.2.2.2.1.2.1, ())), (lset x2.2.2.2.2.2 x2.1 (gmax 0 (wr .i64 ((gmin (gmax 0 x5) x.1.2.2.2.2.2.2.2.2.2.2.1) - (wr .i64 (x3.2.1 + x4))))))))))))))
(k ((x2.2.2.2.2.1.1, (x2.2.2.2.2.1.2.1, ())), x2.2.2.2.2.2)))))))))
(.done (iter none (fun x3 =>
(cnd (decide (x3.1 < (llen x2.2.2.2.2.1.2.1)))
(cnd (decide (0 < x2.2.2.1))
(elimO (idx x2.2.2.2.2.2 x3.1) (.done none) (fun x4 =>
(cnd (!(x2.2.2.1 == 0))
(elimO (idx x3.2.2.2.1 x3.1) (.done none) (fun _ =>
(elimO (idx x3.2.2.2.1 x3.1) (.done none) (fun x6 =>
(elimO (idx x3.2.2.2.1 x3.1) (.done none) (fun _ =>
(elimO (idx x3.2.2.2.1 x3.1) (.done none) (fun _ =>
(.next ((wr .i64 (x3.1 + 1)), ((wr .i64 (x3.2.1 - (quoop Go.IntKind.i64 (wr .i64 (x2.2.1 * x4)) x2.2.2.1))), (x3.2.2.1, ((lset x3.2.2.2.1 x3.1 (wr .i64 (x6 + (quoop Go.IntKind.i64 (wr .i64 (x2.2.1 * x4)) x2.2.2.1)))), ())))))))))))))
(.done none))))
(.next ((wr .i64 (x3.1 + 1)), (x3.2.1, (x3.2.2.1, (x3.2.2.2.1, ()))))))
(.done (elimO (idx x3.2.2.2.1 (gmax 0 x2.2.2.2.1)) none (fun _ =>
(elimO (idx x3.2.2.2.1 (gmax 0 x2.2.2.2.1)) none (fun x5 =>
(elimO (idx x3.2.2.2.1 (gmax 0 x2.2.2.2.1)) none (fun _ =>
(elimO (idx x3.2.2.2.1 (gmax 0 x2.2.2.2.1)) none (fun _ =>
(some ((x3.2.2.1.1, (x3.2.2.1.2, (lset x3.2.2.2.1 (gmax 0 x2.2.2.2.1) (wr .i64 (x5 + x3.2.1))))), 0))))))))))))) lots (0, (x2.2.1, (x2.2.2.2.2.1.1, (x2.2.2.2.2.1.2.1, ())))))))) lots (0, ((gmin (gmax x.2.1 x.1.2.2.2.2.2.2.2.2.2.1) x.1.2.2.2.2.2.2.2.2.2.2.1), (0, ((-1), ((((gmin (gmax x.2.1 x.1.2.2.2.2.2.2.2.2.2.1) x.1.2.2.2.2.2.2.2.2.2.2.1), (irem (wr .i64 ((irem x.2.2.1 (gmin (gmax x.2.1 x.1.2.2.2.2.2.2.2.2.2.1) x.1.2.2.2.2.2.2.2.2.2.2.1)) + (gmin (gmax x.2.1 x.1.2.2.2.2.2.2.2.2.2.1) x.1.2.2.2.2.2.2.2.2.2.2.1))) (gmin (gmax x.2.1 x.1.2.2.2.2.2.2.2.2.2.1) x.1.2.2.2.2.2.2.2.2.2.2.1))), ([], ())), (lrep (llen x.1.2.2.2.2.1) 0)))))))
 none)
 none)
 none))))

/-- stoplinelaw17.alive -/
def law17_alive_t (_ : Unit) : Option (Bool) :=
(some true)

/-- stoplineref05.Great -/
def ref05_Great_t (x : PSSite) : Option (Bool) :=
(cnd ((((((decide (40 < (llen x.2.1))) || (decide (40 < (llen x.2.2.1)))) || (decide (40 < (llen x.2.2.2.1)))) || (decide (40 < (llen x.2.2.2.2.1)))) || (decide (60 < (llen x.2.2.2.2.2.1)))) || (decide (40 < (llen x.2.2.2.2.2.2.2.2.2.2.2))))
(some true)
(iter none (fun x1 =>
(cnd (decide (x1 < (llen x.2.2.2.1)))
(elimO (idx x.2.2.2.1 x1) (.done none) (fun x2 =>
(cnd (decide (40 < (llen x2)))
(.done (some true))
(.next (wr .i64 (x1 + 1))))))
(.done (iter none (fun x2 =>
(cnd (decide (x2 < (llen x.2.2.2.2.2.2.2.2.2.2.2)))
(elimO (idx x.2.2.2.2.2.2.2.2.2.2.2 x2) (.done none) (fun x3 =>
(cnd (decide (40 < (llen x3.2.2)))
(.done (some true))
(.next (wr .i64 (x2 + 1))))))
(.done (some false)))) lots 0)))) lots 0))

/-- where the parts end, one behind the other -/
def at_ends (l : List Int) : Nat → Int
  | 0 => 0
  | k + 1 => wr .i64 (at_ends l k + (l[k]?).getD 0)
/-- the first part that ends behind a place, from the k-th on -/
def at_go (l : List Int) (place : Int) : Nat → Nat → Int × Int × Int
  | 0, _ => (0, (0, 170))
  | n + 1, k => if place < at_ends l (k + 1) then ((k : Int), (wr .i64 (wr .i64 (place - at_ends l (k + 1)) + (l[k]?).getD 0), 0)) else at_go l place n (k + 1)
/-- plan.At -/
def plan_At_t (x : PSSite × PSPlan × Int) : Option (Int × Int × Int) :=
  match site_Plan_t (x.1, x.2.1) with
  | none => none
  | some (is, e) => if e ≠ 0 then some (0, (0, e)) else if is = false then some (0, (0, 170)) else if x.2.2 < 0 ∨ 1073741824 < x.2.2 then some (0, (0, 2)) else if x.2.1.1 = 0 ∨ 1000000 < llen x.2.1.2.2 then none else
    some (at_go x.2.1.2.2 (irem (wr .i64 (wr .i64 (x.2.2 + x.2.1.1) - x.2.1.2.1)) x.2.1.1) x.2.1.2.2.length 0)

/-- stoplinelaw17.PlanParts -/
def law17_PlanParts_t (x : PSSite × PSPlan × Int) : Option (Bool) :=
(elimO (law17_alive_t ()) none (fun x1 =>
(elimO (ref05_Great_t x.1) none (fun x2 =>
(cnd (((((x2 || (decide (100 < (llen x.2.1.2.2)))) || (decide (300 < x.2.1.1))) || (decide (x.2.2 < 0))) || (decide (1000000000 < x.2.2))) || (!x1))
(some x1)
(elimO (plan_At_t x) none (fun x3 =>
(cnd (!(x3.2.2 == 0))
(some true)
(iter none (fun x4 =>
(cnd (decide (x4.1 < x.2.1.1))
(elimO (plan_At_t (x.1, (x.2.1, (wr .i64 (x.2.2 + x4.1))))) (.done none) (fun x5 =>
(cnd ((((!(x5.2.2 == 0)) || (decide (x5.1 < 0))) || (decide ((llen x.2.1.2.2) ≤ x5.1))) || (decide (x5.2.1 < 0)))
(.done (some false))
(elimO (idx x.2.1.2.2 x5.1) (.done none) (fun x6 =>
(cnd (decide (x6 ≤ x5.2.1))
(.done (some false))
(elimO (idxN x4.2 8 x5.1) (.done none) (fun _ =>
(elimO (idx x4.2 x5.1) (.done none) (fun x8 =>
(elimO (idxN x4.2 8 x5.1) (.done none) (fun _ =>
(elimO (idx x4.2 x5.1) (.done none) (fun _ =>
(.next ((wr .i64 (x4.1 + 1)), (lset x4.2 x5.1 (wr .i64 (x8 + 1)))))))))))))))))))
(.done (iter none (fun x5 =>
(cnd (decide (x5.1 < (llen x.2.1.2.2)))
(elimO (idxN x5.2 8 x5.1) (.done none) (fun _ =>
(elimO (idx x5.2 x5.1) (.done none) (fun x7 =>
(elimO (idx x.2.1.2.2 x5.1) (.done none) (fun x8 =>
(cnd (!(x7 == x8))
(.done (some false))
(.next ((wr .i64 (x5.1 + 1)), x5.2)))))))))
(.done (some true)))) lots (0, x4.2))))) lots (0, (lrep 8 0)))))))))))

/-- plan.Wants -/
def plan_Wants_t (x : PSSite × PSPlan × Int) : Option (Int × Int) :=
(elimO (plan_At_t x) none (fun x1 =>
(cnd (!(x1.2.2 == 0))
(some (0, x1.2.2))
(elimO (idx x.2.1.2.2 x1.1) none (fun x2 =>
(elimO (plan_clear_t (x.1, x1.1)) none (fun x3 =>
(cnd (decide ((wr .i64 (x2 - x3)) ≤ x1.2.1))
(elimO (plan_next_t (x.1, x1.1)) none (fun x4 =>
(some (x4, 0))))
(some (x1.1, 0))))))))))

/-- stoplinelaw17.PlanNames -/
def law17_PlanNames_t (_ : Unit) : Option (Bool) :=
(some true)

/-- stoplineref05.in -/
def ref05_in_t (x : Int × Int × Int) : Option (Bool) :=
(some ((decide (x.2.1 ≤ x.1)) && (decide (x.1 ≤ x.2.2))))
def ref05_in (x : Int × Int × Int) : Bool :=
(((decide (x.2.1 ≤ x.1)) && (decide (x.1 ≤ x.2.2))))
theorem ref05_in_e (x : Int × Int × Int) : ref05_in_t x = some (ref05_in x) := by
  unfold ref05_in_t ref05_in
  rfl

/-- stoplineref02.Has -/
def ref02_Has_t (x : Int × Int) : Option (Bool) :=
(cnd ((decide (0 ≤ x.2)) && (decide (x.2 < 32)))
(cnd (!(2 == 0))
(some ((irem (shrop Go.IntKind.u32 x.1 (wr .u64 x.2)) 2) == 1))
 none)
(some false))
def ref02_Has (x : Int × Int) : Bool := cnd ((decide (0 ≤ x.2)) && (decide (x.2 < 32))) ((irem (shrop Go.IntKind.u32 x.1 (wr .u64 x.2)) 2) == 1) false
theorem ref02_Has_e (x : Int × Int) (_ : FitsAll [U32, I64] x) : ref02_Has_t x = some (ref02_Has x) := by
  unfold ref02_Has_t ref02_Has
  cases (decide (0 ≤ x.2)) && (decide (x.2 < 32)) <;> rfl

/-- stoplineref05.Apart -/
def ref05_Apart_t (x : PSSite × Int × Int) : Option (Bool) :=
(elimO (idx x.1.2.2.1 x.2.1) none (fun x1 =>
(letK (ref02_Has (x1, x.2.2)) (fun y =>
(some y)))))

/-- stoplineref05.groups -/
def ref05_groups_t (x : PSSite) : Option (Bool) :=
(letK (ref05_in (x.1, (0, 65535))) (fun y =>
(cnd ((((!y) || (!(ref05_in ((llen x.2.1), (1, 16))))) || (!((llen x.2.2.1) == (llen x.2.1)))) || (!((llen x.2.2.2.1) == (llen x.2.1))))
(some false)
(iter none (fun x1 =>
(cnd (decide (x1 < (llen x.2.1)))
(elimO (idx x.2.1 x1) (.done none) (fun x2 =>
(cnd ((((!(x2.1 == 1)) && (!(x2.1 == 2))) || (!(ref05_in (x2.2.1, (1, 1048576))))) || (!(ref05_in (x2.2.2, (1, 1048576)))))
(.done (some false))
(elimO (idx x.2.2.2.1 x1) (.done none) (fun x3 =>
(cnd (!((llen x3) == (llen x.2.1)))
(.done (some false))
(elimO (idx x.2.2.1 x1) (.done none) (fun x4 =>
(cnd (decide ((shlop Go.IntKind.u32 1 (wr .u64 (llen x.2.1))) ≤ x4))
(.done (some false))
(.next (wr .i64 (x1 + 1))))))))))))
(.done (iter none (fun x2 =>
(cnd (decide (x2 < (llen x.2.1)))
(iter (.done none) (fun x3 =>
(cnd (decide (x3 < (llen x.2.1)))
(elimO (ref05_Apart_t (x, (x2, x3))) (.done (.done none)) (fun x4 =>
(elimO (ref05_Apart_t (x, (x3, x2))) (.done (.done none)) (fun x5 =>
(cnd (!(x4 == x5))
(.done (.done (some false)))
(cnd (x2 == x3)
(elimO (ref05_Apart_t (x, (x2, x3))) (.done (.done none)) (fun x6 =>
(cnd x6
(.done (.done (some false)))
(elimO (ref05_Apart_t (x, (x2, x3))) (.done (.done none)) (fun x7 =>
(cnd x7
(elimO (idx x.2.2.2.1 x2) (.done (.done none)) (fun x8 =>
(elimO (idx x8 x3) (.done (.done none)) (fun x9 =>
(elimO (idx x.2.1 x2) (.done (.done none)) (fun x10 =>
(letK (ref05_in (x9, (x10.2.2, 1048576))) (fun y1 =>
(cnd (!y1)
(.done (.done (some false)))
(elimO (ref05_Apart_t (x, (x2, x3))) (.done (.done none)) (fun x11 =>
(cnd (!x11)
(elimO (idx x.2.2.2.1 x2) (.done (.done none)) (fun x12 =>
(elimO (idx x12 x3) (.done (.done none)) (fun x13 =>
(cnd (!(x13 == 0))
(.done (.done (some false)))
(.next (wr .i64 (x3 + 1))))))))
(.next (wr .i64 (x3 + 1)))))))))))))))
(elimO (ref05_Apart_t (x, (x2, x3))) (.done (.done none)) (fun x8 =>
(cnd (!x8)
(elimO (idx x.2.2.2.1 x2) (.done (.done none)) (fun x9 =>
(elimO (idx x9 x3) (.done (.done none)) (fun x10 =>
(cnd (!(x10 == 0))
(.done (.done (some false)))
(.next (wr .i64 (x3 + 1))))))))
(.next (wr .i64 (x3 + 1))))))))))))
(elimO (ref05_Apart_t (x, (x2, x3))) (.done (.done none)) (fun x6 =>
(cnd x6
(elimO (idx x.2.2.2.1 x2) (.done (.done none)) (fun x7 =>
(elimO (idx x7 x3) (.done (.done none)) (fun x8 =>
(elimO (idx x.2.1 x2) (.done (.done none)) (fun x9 =>
(letK (ref05_in (x8, (x9.2.2, 1048576))) (fun y1 =>
(cnd (!y1)
(.done (.done (some false)))
(elimO (ref05_Apart_t (x, (x2, x3))) (.done (.done none)) (fun x10 =>
(cnd (!x10)
(elimO (idx x.2.2.2.1 x2) (.done (.done none)) (fun x11 =>
(elimO (idx x11 x3) (.done (.done none)) (fun x12 =>
(cnd (!(x12 == 0))
(.done (.done (some false)))
(.next (wr .i64 (x3 + 1))))))))
(.next (wr .i64 (x3 + 1)))))))))))))))
(elimO (ref05_Apart_t (x, (x2, x3))) (.done (.done none)) (fun x7 =>
(cnd (!x7)
(elimO (idx x.2.2.2.1 x2) (.done (.done none)) (fun x8 =>
(elimO (idx x8 x3) (.done (.done none)) (fun x9 =>
(cnd (!(x9 == 0))
(.done (.done (some false)))
(.next (wr .i64 (x3 + 1))))))))
(.next (wr .i64 (x3 + 1)))))))))))))))
(.done (.next (wr .i64 (x2 + 1)))))) lots 0)
(.done (some true)))) lots 0)))) lots 0))))

/-- stoplineref02.With -/
def ref02_With_t (x : Int × Int) : Option (Int) :=
(cnd (((decide (x.2 < 0)) || (decide (31 < x.2))) || (ref02_Has x))
(some x.1)
(some (wr .u32 (x.1 + (shlop Go.IntKind.u32 1 (wr .u64 x.2))))))
def ref02_With (x : Int × Int) : Int :=
(cnd (((decide (x.2 < 0)) || (decide (31 < x.2))) || (ref02_Has x))
(x.1)
((wr .u32 (x.1 + (shlop Go.IntKind.u32 1 (wr .u64 x.2))))))
theorem ref02_With_e (x : Int × Int) : ref02_With_t x = some (ref02_With x) := by
  unfold ref02_With_t ref02_With
  simp only [cnd_some]

/-- stoplineref02.Count -/
def ref02_Count_t (x : Int) : Option (Int) :=
(iter none (fun x1 =>
(cnd (decide (x1.2 < 32))
(letK (ref02_Has (x, x1.2)) (fun y =>
(cnd y
(.next ((wr .i64 (x1.1 + 1)), (wr .i64 (x1.2 + 1))))
(.next (x1.1, (wr .i64 (x1.2 + 1)))))))
(.done (some x1.1)))) lots (0, 0))

/-- stoplineref05.phases -/
def ref05_phases_t (x : PSSite) : Option (Bool) :=
(letK (ref05_in ((llen x.2.2.2.2.1), (1, 8))) (fun y =>
(cnd (!y)
(some false)
(iter none (fun x1 =>
(cnd (decide (x1.2 < (llen x.2.2.2.2.1)))
(elimO (idx x.2.2.2.2.1 x1.2) (.done none) (fun x2 =>
(cnd ((x2.1 == 0) || (decide ((shlop Go.IntKind.u32 1 (wr .u64 (llen x.2.1))) ≤ x2.1)))
(.done (some false))
(iter (.done none) (fun x3 =>
(cnd (decide (x3.2.2 < (llen x.2.1)))
(letK (ref02_Has (x2.1, x3.2.2)) (fun y1 =>
(cnd (!y1)
(.next (x3.1, (x3.2.1, (wr .i64 (x3.2.2 + 1)))))
(letK (ref02_With (x3.1, x3.2.2)) (fun y2 =>
(elimO (idx x.2.1 x3.2.2) (.done (.done none)) (fun x4 =>
(iter (.done (.done none)) (fun x5 =>
(cnd (decide (x5 < (llen x.2.1)))
(letK (ref02_Has (x2.1, x5)) (fun y3 =>
(cnd y3
(elimO (ref05_Apart_t (x, (x3.2.2, x5))) (.done (.done (.done none))) (fun x6 =>
(cnd x6
(.done (.done (.done (some false))))
(.next (wr .i64 (x5 + 1))))))
(.next (wr .i64 (x5 + 1))))))
(.done (.next (y2, ((gmax x3.2.1 x4.2.1), (wr .i64 (x3.2.2 + 1)))))))) lots 0))))))))
(.done (letK (ref05_in (x2.2.1, (x3.2.1, 1048576))) (fun y1 =>
(cnd (((!y1) || (!(ref05_in (x2.2.2.1, (x2.2.1, 1048576))))) || (!(ref05_in (x2.2.2.2.1, (1, 1048576)))))
(.done (some false))
(.next (x3.1, (wr .i64 (x1.2 + 1)))))))))) lots (x1.1, (1, 0))))))
(.done (elimO (ref02_Count_t x1.1) none (fun x2 =>
(some (x2 == (llen x.2.1)))))))) lots (0, 0)))))

/-- stoplineref05.Clear -/
def ref05_Clear_t (x : PSSite × Int × Int) : Option (Int) :=
(iter none (fun x1 =>
(cnd (decide (x1.2 < (llen x.1.2.1)))
(iter (.done none) (fun x2 =>
(cnd (decide (x2.2 < (llen x.1.2.1)))
(elimO (idx x.1.2.2.2.2.1 x.2.1) (.done (.done none)) (fun x3 =>
(letK (ref02_Has (x3.1, x1.2)) (fun y =>
(cnd y
(elimO (idx x.1.2.2.2.2.1 x.2.2) (.done (.done none)) (fun x4 =>
(letK (ref02_Has (x4.1, x2.2)) (fun y1 =>
(cnd y1
(elimO (ref05_Apart_t (x.1, (x1.2, x2.2))) (.done (.done none)) (fun x5 =>
(cnd x5
(elimO (idx x.1.2.2.2.1 x1.2) (.done (.done none)) (fun x6 =>
(elimO (idx x6 x2.2) (.done (.done none)) (fun x7 =>
(.next ((gmax x2.1 x7), (wr .i64 (x2.2 + 1))))))))
(.next (x2.1, (wr .i64 (x2.2 + 1)))))))
(.next (x2.1, (wr .i64 (x2.2 + 1)))))))))
(.next (x2.1, (wr .i64 (x2.2 + 1)))))))))
(.done (.next (x2.1, (wr .i64 (x1.2 + 1))))))) lots (x1.1, 0))
(.done (some x1.1)))) lots (0, 0))

/-- stoplineref05.needs -/
def ref05_needs_t (x : PSSite × Int) : Option (Int) :=
(elimO (idx x.1.2.2.2.2.1 x.2) none (fun x1 =>
(cnd (!((llen x.1.2.2.2.2.1) == 0))
(elimO (ref05_Clear_t (x.1, (x.2, (irem (wr .i64 (x.2 + 1)) (llen x.1.2.2.2.2.1))))) none (fun x2 =>
(some (wr .i64 (x1.2.1 + x2)))))
 none)))

/-- stoplineref05.Round -/
def ref05_Round_t (x : PSSite) : Option (Int) :=
(iter none (fun x1 =>
(cnd (decide (x1.2 < (llen x.2.2.2.2.1)))
(elimO (ref05_needs_t (x, x1.2)) (.done none) (fun x2 =>
(.next ((wr .i64 (x1.1 + x2)), (wr .i64 (x1.2 + 1))))))
(.done (some x1.1)))) lots (0, 0))

/-- stoplineref05.PlanMay -/
def ref05_PlanMay_t (x : PSSite × PSPlan) : Option (Bool) :=
(letK (ref05_in (x.2.1, (x.1.2.2.2.2.2.2.2.2.2.1, x.1.2.2.2.2.2.2.2.2.2.2.1))) (fun y =>
(cnd (((!y) || (!(ref05_in (x.2.2.1, (0, (wr .i64 (x.2.1 - 1))))))) || (!((llen x.2.2.2) == (llen x.1.2.2.2.2.1))))
(some false)
(iter none (fun x1 =>
(cnd (decide (x1.2 < (llen x.2.2.2)))
(elimO (idx x.2.2.2 x1.2) (.done none) (fun x2 =>
(elimO (ref05_needs_t (x.1, x1.2)) (.done none) (fun x3 =>
(letK (ref05_in (x2, (x3, x1.1))) (fun y1 =>
(cnd (!y1)
(.done (some false))
(elimO (idx x.2.2.2 x1.2) (.done none) (fun x4 =>
(.next ((wr .i64 (x1.1 - x4)), (wr .i64 (x1.2 + 1)))))))))))))
(.done (some (x1.1 == 0))))) lots (x.2.1, 0)))))

/-- stoplineref05.Check -/
def ref05_Check_t (x : PSSite) : Option (Int) :=
(elimO (ref05_groups_t x) none (fun x1 =>
(cnd (!x1)
(some 50)
(elimO (ref05_phases_t x) none (fun x2 =>
(cnd (((!x2) || (decide (24 < (llen x.2.2.2.2.2.1)))) || (decide (8 < (llen x.2.2.2.2.2.2.2.2.2.2.2))))
(some 50)
(iter none (fun x3 =>
(cnd (decide (x3 < (llen x.2.2.2.2.2.1)))
(elimO (idx x.2.2.2.2.2.1 x3) (.done none) (fun x4 =>
(letK (ref05_in (x4.1, (0, (wr .i64 ((llen x.2.2.2.2.1) - 1))))) (fun y =>
(cnd ((((!y) || (!(ref05_in (x4.2.1, (1, 1048576))))) || (!(ref05_in (x4.2.2.1, (1, 1048576))))) || (!(ref05_in (x4.2.2.2, (1, 64)))))
(.done (some 50))
(.next (wr .i64 (x3 + 1))))))))
(.done (letK (ref05_in (x.2.2.2.2.2.2.1, (1, 1048576))) (fun y =>
(cnd (((!y) || (!(ref05_in (x.2.2.2.2.2.2.2.1, (1, 1048576))))) || (!(ref05_in (x.2.2.2.2.2.2.2.2.1, (1, 1048576)))))
(some 50)
(elimO (ref05_Round_t x) none (fun x4 =>
(letK (ref05_in (x.2.2.2.2.2.2.2.2.2.1, (x4, 1048576))) (fun y1 =>
(cnd ((!y1) || (!(ref05_in (x.2.2.2.2.2.2.2.2.2.2.1, (x.2.2.2.2.2.2.2.2.2.1, 1048576)))))
(some 50)
(iter none (fun x5 =>
(cnd (decide (x5 < (llen x.2.2.2.2.2.2.2.2.2.2.2)))
(elimO (idx x.2.2.2.2.2.2.2.2.2.2.2 x5) (.done none) (fun x6 =>
(elimO (ref05_PlanMay_t (x, x6)) (.done none) (fun x7 =>
(cnd (!x7)
(.done (some 50))
(.next (wr .i64 (x5 + 1))))))))
(.done (some 0)))) lots 0)))))))))))) lots 0)))))))

/-- stoplineref17.After -/
def ref17_After_t (x : PSSite × Int) : Option (Int) :=
(cnd (x.2 == (wr .i64 ((llen x.1.2.2.2.2.1) - 1)))
(some 0)
(some (wr .i64 (x.2 + 1))))
def ref17_After (x : PSSite × Int) : Int :=
(cnd (x.2 == (wr .i64 ((llen x.1.2.2.2.2.1) - 1)))
(0)
((wr .i64 (x.2 + 1))))
theorem ref17_After_e (x : PSSite × Int) : ref17_After_t x = some (ref17_After x) := by
  unfold ref17_After_t ref17_After
  simp only [cnd_some]

/-- stoplineref17.in -/
def ref17_in_t (x : PSSite × Int × Int) : Option (Bool) :=
(elimO (idx x.1.2.2.2.2.1 x.2.1) none (fun x1 =>
(some ((bitop Go.BinOp.and Go.IntKind.u32 (shrop Go.IntKind.u32 x1.1 (wr .u64 x.2.2)) 1) == 1))))

/-- stoplineref08.Apart -/
def ref08_Apart_t (x : PSSite × Int × Int) : Option (Bool) :=
(elimO (idx x.1.2.2.1 x.2.1) none (fun x1 =>
(some ((bitop Go.BinOp.and Go.IntKind.u32 (shrop Go.IntKind.u32 x1 (wr .u64 x.2.2)) 1) == 1))))

/-- stoplineref08.Between -/
def ref08_Between_t (x : PSSite × Int × Int) : Option (Int) :=
(elimO (idx x.1.2.2.2.1 x.2.1) none (fun x1 =>
(elimO (idx x1 x.2.2) none (fun x2 =>
(some x2)))))

/-- stoplineref17.Gap -/
def ref17_Gap_t (x : PSSite × Int) : Option (Int) :=
(letK (ref17_After x) (fun y =>
(iter none (fun x1 =>
(cnd (decide (x1.2 < (llen x.1.2.1)))
(iter (.done none) (fun x2 =>
(cnd (decide (x2.2 < (llen x.1.2.1)))
(elimO (ref17_in_t (x.1, (x.2, x1.2))) (.done (.done none)) (fun x3 =>
(cnd x3
(elimO (ref17_in_t (x.1, (y, x2.2))) (.done (.done none)) (fun x4 =>
(cnd x4
(elimO (ref08_Apart_t (x.1, (x1.2, x2.2))) (.done (.done none)) (fun x5 =>
(cnd x5
(elimO (ref08_Between_t (x.1, (x1.2, x2.2))) (.done (.done none)) (fun x6 =>
(cnd (decide (x2.1 < x6))
(elimO (ref08_Between_t (x.1, (x1.2, x2.2))) (.done (.done none)) (fun x7 =>
(.next (x7, (wr .i64 (x2.2 + 1))))))
(.next (x2.1, (wr .i64 (x2.2 + 1)))))))
(.next (x2.1, (wr .i64 (x2.2 + 1)))))))
(.next (x2.1, (wr .i64 (x2.2 + 1)))))))
(.next (x2.1, (wr .i64 (x2.2 + 1)))))))
(.done (.next (x2.1, (wr .i64 (x1.2 + 1))))))) lots (x1.1, 0))
(.done (some x1.1)))) lots (0, 0))))

/-- stoplineref17.Near -/
def ref17_Near_t (x : PSSite × PSPlan) : Option (PSPlan) :=
(joinPt (fun (x1 : (Int × Int) × List Int × Unit) =>
(joinPt (fun (x2 : (Int × Int) × List Int × Unit) =>
(cnd (!(x2.1.1 == 0))
(joinPt (fun x3 =>
(iter none (fun x4 =>
(cnd (decide (x4.2.2.2.1 < (llen x.1.2.2.2.2.1)))
(elimO (idx x.1.2.2.2.2.1 x4.2.2.2.1) (.done none) (fun x5 =>
(elimO (ref17_Gap_t (x.1, x4.2.2.2.1)) (.done none) (fun x6 =>
(joinPt (fun x7 =>
(joinPt (fun x8 =>
(cnd (true && (roomOK ((llen x8.2.1) + (llen (x8.1 :: []))) 8))
(cnd (true && (roomOK ((llen x8.2.2.2.1) + (llen ((wr .i64 (x5.2.1 + x6)) :: []))) 8))
(.next ((wr .i64 (x4.1 - (wr .i64 (x5.2.1 + x6)))), ((wr .i64 (x4.2.1 + x8.1)), ((x8.2.1 ++ (x8.1 :: [])), ((wr .i64 (x4.2.2.2.1 + 1)), (x8.2.2.1, ((x8.2.2.2.1 ++ ((wr .i64 (x5.2.1 + x6)) :: [])), ())))))))
(.done none))
(.done none))) (fun k =>
(cnd (decide (x7.1 < 0))
(k (0, (x7.2.1, (x7.2.2.1, (x7.2.2.2.1, ())))))
(k (x7.1, (x7.2.1, (x7.2.2.1, (x7.2.2.2.1, ()))))))))) (fun k =>
(cnd (decide (x4.2.2.2.1 < (llen x.2.2.2)))
(elimO (idx x.2.2.2 x4.2.2.2.1) (.done none) (fun x7 =>
(cnd (decide ((wr .i64 (x5.2.1 + x6)) < x7))
(elimO (idx x.2.2.2 x4.2.2.2.1) (.done none) (fun x8 =>
(elimO (idx x.2.2.2 x4.2.2.2.1) (.done none) (fun x9 =>
(cnd (decide (x.1.2.2.2.2.2.2.2.2.2.2.1 < x9))
(k ((wr .i64 (x.1.2.2.2.2.2.2.2.2.2.2.1 - (wr .i64 (x5.2.1 + x6)))), (x4.2.2.1, (x4.2.2.2.2.1, (x4.2.2.2.2.2.1, ())))))
(k ((wr .i64 (x8 - (wr .i64 (x5.2.1 + x6)))), (x4.2.2.1, (x4.2.2.2.2.1, (x4.2.2.2.2.2.1, ()))))))))))
(k (0, (x4.2.2.1, (x4.2.2.2.2.1, (x4.2.2.2.2.2.1, ()))))))))
(k (0, (x4.2.2.1, (x4.2.2.2.2.1, (x4.2.2.2.2.2.1, ()))))))))))))
(.done (cnd (x4.2.1 == 0)
(elimO (idx x4.2.2.2.2.2.1 0) none (fun _ =>
(elimO (idx x4.2.2.2.2.2.1 0) none (fun x6 =>
(elimO (idx x4.2.2.2.2.2.1 0) none (fun _ =>
(elimO (idx x4.2.2.2.2.2.1 0) none (fun _ =>
(some (x4.2.2.2.2.1.1, (x4.2.2.2.2.1.2, (lset x4.2.2.2.2.2.1 0 (wr .i64 (x6 + x4.1))))))))))))))
(iter none (fun x5 =>
(cnd (decide (x5.2.2.1 < (llen x4.2.2.1)))
(joinPt (fun x6 =>
(.next (x6.1, (x6.2.1, ((wr .i64 (x5.2.2.1 + 1)), (x6.2.2.1, (x6.2.2.2.1, ()))))))) (fun k =>
(elimO (idx x4.2.2.1 x5.2.2.1) (.done none) (fun x6 =>
(cnd (!(x4.2.1 == 0))
(elimO (idx x5.2.2.2.2.1 x5.2.2.1) (.done none) (fun _ =>
(elimO (idx x5.2.2.2.2.1 x5.2.2.1) (.done none) (fun x8 =>
(elimO (idx x5.2.2.2.2.1 x5.2.2.1) (.done none) (fun _ =>
(elimO (idx x5.2.2.2.2.1 x5.2.2.1) (.done none) (fun _ =>
(cnd (decide (x5.2.1 < 0))
(elimO (idx x4.2.2.1 x5.2.2.1) (.done none) (fun x11 =>
(cnd (decide (0 < x11))
(k ((wr .i64 (x5.1 - (quoop Go.IntKind.i64 (wr .i64 (x4.1 * x6)) x4.2.1))), (x5.2.2.1, (x5.2.2.2.1, ((lset x5.2.2.2.2.1 x5.2.2.1 (wr .i64 (x8 + (quoop Go.IntKind.i64 (wr .i64 (x4.1 * x6)) x4.2.1)))), ())))))
(k ((wr .i64 (x5.1 - (quoop Go.IntKind.i64 (wr .i64 (x4.1 * x6)) x4.2.1))), (x5.2.1, (x5.2.2.2.1, ((lset x5.2.2.2.2.1 x5.2.2.1 (wr .i64 (x8 + (quoop Go.IntKind.i64 (wr .i64 (x4.1 * x6)) x4.2.1)))), ()))))))))
(k ((wr .i64 (x5.1 - (quoop Go.IntKind.i64 (wr .i64 (x4.1 * x6)) x4.2.1))), (x5.2.1, (x5.2.2.2.1, ((lset x5.2.2.2.2.1 x5.2.2.1 (wr .i64 (x8 + (quoop Go.IntKind.i64 (wr .i64 (x4.1 * x6)) x4.2.1)))), ()))))))))))))))
(.done none))))))
(.done (elimO (idx x5.2.2.2.2.1 x5.2.1) none (fun _ =>
(elimO (idx x5.2.2.2.2.1 x5.2.1) none (fun x7 =>
(elimO (idx x5.2.2.2.2.1 x5.2.1) none (fun _ =>
(elimO (idx x5.2.2.2.2.1 x5.2.1) none (fun _ =>
(some (x5.2.2.2.1.1, (x5.2.2.2.1.2, (lset x5.2.2.2.2.1 x5.2.1 (wr .i64 (x7 + x5.1))))))))))))))))) lots (x4.1, ((-1), (0, (x4.2.2.2.2.1, (x4.2.2.2.2.2.1, ())))))))))) lots (x3.1.1, (0, ([], (0, (x3.1, (x3.2.1, ())))))))) (fun k =>
(cnd (decide ((irem x.2.2.1 x2.1.1) < 0))
(k ((x2.1.1, (wr .i64 ((irem x.2.2.1 x2.1.1) + x2.1.1))), (x2.2.1, ())))
(k ((x2.1.1, (irem x.2.2.1 x2.1.1)), (x2.2.1, ()))))))
 none)) (fun k =>
(cnd (decide (x.1.2.2.2.2.2.2.2.2.2.2.1 < x1.1.1))
(k ((x.1.2.2.2.2.2.2.2.2.2.2.1, x1.1.2), (x1.2.1, ())))
(k (x1.1, (x1.2.1, ()))))))) (fun k =>
(cnd (decide (x.2.1 < x.1.2.2.2.2.2.2.2.2.2.1))
(k ((x.1.2.2.2.2.2.2.2.2.2.1, 0), ([], ())))
(k ((x.2.1, 0), ([], ()))))))

/-- stoplineref17.Clamp -/
def ref17_Clamp_t (x : PSSite × PSPlan) : Option (PSPlan × Int) :=
(elimO (ref05_Check_t x.1) none (fun x1 =>
(cnd (!(x1 == 0))
(some ((0, (0, [])), x1))
(elimO (ref17_Near_t x) none (fun x2 =>
(some (x2, 0)))))))

/-- stoplineref17.Fits -/
def ref17_Fits_t (x : PSSite × PSPlan) : Option (Bool) :=
(cnd (((((decide (x.2.1 < x.1.2.2.2.2.2.2.2.2.2.1)) || (decide (x.1.2.2.2.2.2.2.2.2.2.2.1 < x.2.1))) || (decide (x.2.2.1 < 0))) || (decide (x.2.1 ≤ x.2.2.1))) || (!((llen x.2.2.2) == (llen x.1.2.2.2.2.1))))
(some false)
(iter none (fun x1 =>
(cnd (decide (x1.2 < (llen x.2.2.2)))
(elimO (idx x.2.2.2 x1.2) (.done none) (fun x2 =>
(elimO (idx x.1.2.2.2.2.1 x1.2) (.done none) (fun x3 =>
(elimO (ref17_Gap_t (x.1, x1.2)) (.done none) (fun x4 =>
(cnd (decide (x2 < (wr .i64 (x3.2.1 + x4))))
(.done (some false))
(elimO (idx x.2.2.2 x1.2) (.done none) (fun x5 =>
(cnd (decide (x.2.1 < x5))
(.done (some false))
(elimO (idx x.2.2.2 x1.2) (.done none) (fun x6 =>
(.next ((wr .i64 (x1.1 + x6)), (wr .i64 (x1.2 + 1))))))))))))))))
(.done (some (x1.1 == x.2.1))))) lots (0, 0)))

/-- stoplineref17.Part -/
def ref17_Part_t (x : PSPlan × Int) : Option (Int × Int) :=
(cnd (!(x.1.1 == 0))
(cnd (!(x.1.1 == 0))
(iter none (fun x1 =>
(elimO (idx x.1.2.2 x1.2) (.done none) (fun x2 =>
(cnd (decide (x2 ≤ x1.1))
(elimO (idx x.1.2.2 x1.2) (.done none) (fun x3 =>
(.next ((wr .i64 (x1.1 - x3)), (wr .i64 (x1.2 + 1))))))
(.done (some (x1.2, x1.1))))))) lots ((irem (wr .i64 ((wr .i64 ((irem x.2 x.1.1) + x.1.1)) - x.1.2.1)) x.1.1), 0))
 none)
 none)

/-- stoplineref17.At -/
def ref17_At_t (x : PSSite × PSPlan × Int) : Option (Int × Int × Int) :=
(elimO (ref05_Check_t x.1) none (fun x1 =>
(cnd (!(x1 == 0))
(some (0, (0, x1)))
(elimO (ref17_Fits_t (x.1, x.2.1)) none (fun x2 =>
(cnd (!x2)
(some (0, (0, 170)))
(cnd ((decide (x.2.2 < 0)) || (decide (1073741824 < x.2.2)))
(some (0, (0, 2)))
(elimO (ref17_Part_t x.2) none (fun x3 =>
(some (x3.1, (x3.2, 0))))))))))))

/-- stoplineref17.Wants -/
def ref17_Wants_t (x : PSSite × PSPlan × Int) : Option (Int × Int) :=
(elimO (ref17_At_t x) none (fun x1 =>
(cnd (!(x1.2.2 == 0))
(some (0, x1.2.2))
(elimO (idx x.2.1.2.2 x1.1) none (fun x2 =>
(elimO (ref17_Gap_t (x.1, x1.1)) none (fun x3 =>
(cnd (decide ((wr .i64 (x2 - x3)) ≤ x1.2.1))
(letK (ref17_After (x.1, x1.1)) (fun y =>
(some (y, 0))))
(some (x1.1, 0))))))))))

/-- stoplineref17.Same -/
def ref17_Same_t (x : PSPlan × PSPlan) : Option (Bool) :=
(cnd (((!(x.1.1 == x.2.1)) || (!(x.1.2.1 == x.2.2.1))) || (!((llen x.1.2.2) == (llen x.2.2.2))))
(some false)
(iter none (fun x1 =>
(cnd (decide (x1 < (llen x.1.2.2)))
(elimO (idx x.1.2.2 x1) (.done none) (fun x2 =>
(elimO (idx x.2.2.2 x1) (.done none) (fun x3 =>
(cnd (!(x2 == x3))
(.done (some false))
(.next (wr .i64 (x1 + 1))))))))
(.done (some true)))) lots 0))

/-- stoplinelaw17.PlanGoes -/
def law17_PlanGoes_t (x : PSSite × PSPlan × Int) : Option (Bool) :=
(elimO (ref05_Great_t x.1) none (fun x1 =>
(cnd (x1 || (decide (100 < (llen x.2.1.2.2))))
(some true)
(cnd (true && (roomOK (0 + (llen x.2.1.2.2)) 8))
(elimO (site_Check_t x.1) none (fun x2 =>
(cnd (!(x2 == 0))
(elimO (ref17_Clamp_t (x.1, x.2.1)) none (fun x3 =>
(elimO (plan_At_t (x.1, ((x.2.1.1, (x.2.1.2.1, ([] ++ x.2.1.2.2))), x.2.2))) none (fun x4 =>
(elimO (ref17_At_t x) none (fun x5 =>
(elimO (plan_Wants_t (x.1, ((x.2.1.1, (x.2.1.2.1, ([] ++ x.2.1.2.2))), x.2.2))) none (fun x6 =>
(elimO (ref17_Wants_t x) none (fun x7 =>
(elimO (ref17_Same_t ((0, (0, [])), x3.1)) none (fun x8 =>
(iter none (fun x9 =>
(cnd (decide (x9.1 < (llen x9.2.2.1)))
(elimO (idx x9.2.2.1 x9.1) (.done none) (fun _ =>
(elimO (idx x9.2.2.1 x9.1) (.done none) (fun _ =>
(.next ((wr .i64 (x9.1 + 1)), (x9.2.1, ((lset x9.2.2.1 x9.1 (-77)), ()))))))))
(.done (cnd ((((((x8 && (x2 == x3.2)) && (x4.1 == x5.1)) && (x4.2.1 == x5.2.1)) && (x4.2.2 == x5.2.2)) && (x6.1 == x7.1)) && (x6.2 == x7.2))
(elimO (ref17_Same_t ((x.2.1.1, (x.2.1.2.1, ([] ++ x.2.1.2.2))), x.2.1)) none (fun x10 =>
(some x10)))
(some false))))) lots (0, ((0, 0), ([], ()))))))))))))))))
(cnd (!((gmin (gmax x.2.1.1 x.1.2.2.2.2.2.2.2.2.2.1) x.1.2.2.2.2.2.2.2.2.2.2.1) == 0))
(cnd (!((gmin (gmax x.2.1.1 x.1.2.2.2.2.2.2.2.2.2.1) x.1.2.2.2.2.2.2.2.2.2.2.1) == 0))
(cnd ((decide (0 ≤ (llen x.1.2.2.2.2.1))) && ((decide ((llen x.1.2.2.2.2.1) ≤ (llen x.1.2.2.2.2.1))) && (makeOK (llen x.1.2.2.2.2.1) 8)))
(iter none (fun x3 =>
(cnd (decide (x3.1 < (llen x.1.2.2.2.2.1)))
(elimO (idx x.1.2.2.2.2.1 x3.1) (.done none) (fun x4 =>
(elimO (plan_clear_t (x.1, x3.1)) (.done none) (fun x5 =>
(joinPt (fun x6 =>
(joinPt (fun x7 =>
(elimO (idx x7.2.2 x3.1) (.done none) (fun _ =>
(elimO (idx x7.2.2 x3.1) (.done none) (fun x9 =>
(cnd (true && (roomOK ((llen x7.2.1.2.1) + (llen ((wr .i64 (x4.2.1 + x5)) :: []))) 8))
(.next ((wr .i64 (x3.1 + 1)), ((wr .i64 (x3.2.1 - (wr .i64 (x4.2.1 + x5)))), ((wr .i64 (x3.2.2.1 + x9)), (x7.1, ((x7.2.1.1, ((x7.2.1.2.1 ++ ((wr .i64 (x4.2.1 + x5)) :: [])), ())), x7.2.2))))))
(.done none))))))) (fun k =>
(elimO (idx x6.2 x3.1) (.done none) (fun _ =>
(elimO (idx x6.2 x3.1) (.done none) (fun x8 =>
(cnd ((decide (0 < x8)) && (decide (x3.2.2.2.1 < 0)))
(k (x3.1, ((x6.1.1, (x6.1.2.1, ())), x6.2)))
(k (x3.2.2.2.1, ((x6.1.1, (x6.1.2.1, ())), x6.2))))))))))) (fun k =>
(cnd (decide (x3.1 < (llen ([] ++ x.2.1.2.2))))
(elimO (idx ([] ++ x.2.1.2.2) x3.1) (.done none) (fun x6 =>
(elimO (idx x3.2.2.2.2.2 x3.1) (.done none) (fun _ =>
(elimO (idx x3.2.2.2.2.2 x3.1) (.done none) (fun _ =>
(k ((x3.2.2.2.2.1.1, (x3.2.2.2.2.1.2.1, ())), (lset x3.2.2.2.2.2 x3.1 (gmax 0 (wr .i64 ((gmin (gmax 0 x6) x.1.2.2.2.2.2.2.2.2.2.2.1) - (wr .i64 (x4.2.1 + x5))))))))))))))
(k ((x3.2.2.2.2.1.1, (x3.2.2.2.2.1.2.1, ())), x3.2.2.2.2.2)))))))))
(.done (iter none (fun x4 =>
(cnd (decide (x4.1 < (llen x3.2.2.2.2.1.2.1)))
(cnd (decide (0 < x3.2.2.1))
(elimO (idx x3.2.2.2.2.2 x4.1) (.done none) (fun x5 =>
(cnd (!(x3.2.2.1 == 0))
(elimO (idx x4.2.2.2.1 x4.1) (.done none) (fun _ =>
(elimO (idx x4.2.2.2.1 x4.1) (.done none) (fun x7 =>
(elimO (idx x4.2.2.2.1 x4.1) (.done none) (fun _ =>
(elimO (idx x4.2.2.2.1 x4.1) (.done none) (fun _ =>
(.next ((wr .i64 (x4.1 + 1)), ((wr .i64 (x4.2.1 - (quoop Go.IntKind.i64 (wr .i64 (x3.2.1 * x5)) x3.2.2.1))), (x4.2.2.1, ((lset x4.2.2.2.1 x4.1 (wr .i64 (x7 + (quoop Go.IntKind.i64 (wr .i64 (x3.2.1 * x5)) x3.2.2.1)))), ())))))))))))))
(.done none))))
(.next ((wr .i64 (x4.1 + 1)), (x4.2.1, (x4.2.2.1, (x4.2.2.2.1, ()))))))
(.done (elimO (idx x4.2.2.2.1 (gmax 0 x3.2.2.2.1)) none (fun _ =>
(elimO (idx x4.2.2.2.1 (gmax 0 x3.2.2.2.1)) none (fun x6 =>
(elimO (idx x4.2.2.2.1 (gmax 0 x3.2.2.2.1)) none (fun _ =>
(elimO (idx x4.2.2.2.1 (gmax 0 x3.2.2.2.1)) none (fun _ =>
(elimO (ref17_Clamp_t (x.1, x.2.1)) none (fun x9 =>
(elimO (plan_At_t (x.1, ((x.2.1.1, (x.2.1.2.1, ([] ++ x.2.1.2.2))), x.2.2))) none (fun x10 =>
(elimO (ref17_At_t x) none (fun x11 =>
(elimO (plan_Wants_t (x.1, ((x.2.1.1, (x.2.1.2.1, ([] ++ x.2.1.2.2))), x.2.2))) none (fun x12 =>
(elimO (ref17_Wants_t x) none (fun x13 =>
(elimO (ref17_Same_t ((x4.2.2.1.1, (x4.2.2.1.2, (lset x4.2.2.2.1 (gmax 0 x3.2.2.2.1) (wr .i64 (x6 + x4.2.1))))), x9.1)) none (fun x14 =>
(iter none (fun x15 =>
(cnd (decide (x15.1 < (llen x15.2.2.1)))
(elimO (idx x15.2.2.1 x15.1) (.done none) (fun _ =>
(elimO (idx x15.2.2.1 x15.1) (.done none) (fun _ =>
(.next ((wr .i64 (x15.1 + 1)), (x15.2.1, ((lset x15.2.2.1 x15.1 (-77)), ()))))))))
(.done (cnd ((((((x14 && (0 == x9.2)) && (x10.1 == x11.1)) && (x10.2.1 == x11.2.1)) && (x10.2.2 == x11.2.2)) && (x12.1 == x13.1)) && (x12.2 == x13.2))
(elimO (ref17_Same_t ((x.2.1.1, (x.2.1.2.1, ([] ++ x.2.1.2.2))), x.2.1)) none (fun x16 =>
(some x16)))
(some false))))) lots (0, (x4.2.2.1, ((lset x4.2.2.2.1 (gmax 0 x3.2.2.2.1) (wr .i64 (x6 + x4.2.1))), ()))))))))))))))))))))))))))) lots (0, (x3.2.1, (x3.2.2.2.2.1.1, (x3.2.2.2.2.1.2.1, ())))))))) lots (0, ((gmin (gmax x.2.1.1 x.1.2.2.2.2.2.2.2.2.2.1) x.1.2.2.2.2.2.2.2.2.2.2.1), (0, ((-1), ((((gmin (gmax x.2.1.1 x.1.2.2.2.2.2.2.2.2.2.1) x.1.2.2.2.2.2.2.2.2.2.2.1), (irem (wr .i64 ((irem x.2.1.2.1 (gmin (gmax x.2.1.1 x.1.2.2.2.2.2.2.2.2.2.1) x.1.2.2.2.2.2.2.2.2.2.2.1)) + (gmin (gmax x.2.1.1 x.1.2.2.2.2.2.2.2.2.2.1) x.1.2.2.2.2.2.2.2.2.2.2.1))) (gmin (gmax x.2.1.1 x.1.2.2.2.2.2.2.2.2.2.1) x.1.2.2.2.2.2.2.2.2.2.2.1))), ([], ())), (lrep (llen x.1.2.2.2.2.1) 0)))))))
 none)
 none)
 none))))
 none))))

/-- safe.apart -/
def safe_apart_t (x : PSSite × Int × Int) : Option (Bool) :=
(elimO (idx x.1.2.2.1 x.2.1) none (fun x1 =>
(cnd (decide (0 ≤ x.2.2))
(some ((bitop Go.BinOp.and Go.IntKind.u32 (shrop Go.IntKind.u32 x1 x.2.2) 1) == 1))
 none)))

/-- safe.between -/
def safe_between_t (x : PSSite × Int × Int) : Option (Int) :=
(elimO (idx x.1.2.2.2.1 x.2.1) none (fun x1 =>
(elimO (idx x1 x.2.2) none (fun x2 =>
(some x2)))))

/-- safe.greatest -/
def safe_greatest_t (x : PSSite) : Option (Int) :=
(iter none (fun x1 =>
(cnd (decide (x1.2 < (llen x.2.1)))
(iter (.done none) (fun x2 =>
(cnd (decide (x2.2 < (llen x.2.1)))
(elimO (safe_apart_t (x, (x1.2, x2.2))) (.done (.done none)) (fun x3 =>
(cnd x3
(elimO (safe_between_t (x, (x1.2, x2.2))) (.done (.done none)) (fun x4 =>
(.next ((gmax x2.1 x4), (wr .i64 (x2.2 + 1))))))
(.next (x2.1, (wr .i64 (x2.2 + 1)))))))
(.done (.next (x2.1, (wr .i64 (x1.2 + 1))))))) lots (x1.1, 0))
(.done (some x1.1)))) lots (0, 0))

/-- safe.first -/
def safe_first_t (x : PSSite) : Option (PSSafe) :=
(elimO (safe_greatest_t x) none (fun x1 =>
(iter none (fun x2 =>
(cnd (decide (x2.1 < (llen x.2.1)))
(cnd (true && (roomOK ((llen x2.2.2.1) + (llen ((1, (1, 1048576)) :: []))) 24))
(.next ((wr .i64 (x2.1 + 1)), ((), ((x2.2.2.1 ++ ((1, (1, 1048576)) :: [])), x2.2.2.2))))
(.done none))
(.done (some x2.2.2)))) lots (0, ((), ([], (x1, false)))))))

/-- safe.First -/
def safe_First_t (x : PSSite) : Option (PSSafe × Int) :=
(elimO (site_Check_t x) none (fun x1 =>
(cnd (!(x1 == 0))
(some (([], (0, false)), x1))
(elimO (safe_first_t x) none (fun x2 =>
(some (x2, 0)))))))

/-- stoplinelaw17.short -/
def law17_short_t (x : PSSite) : Option (Bool) :=
(iter none (fun x1 =>
(cnd (decide (x1 < (llen x.2.2.2.2.1)))
(iter (.done none) (fun x2 =>
(cnd (decide (x2 < (llen x.2.1)))
(elimO (idx x.2.1 x2) (.done (.done none)) (fun x3 =>
(elimO (idx x.2.2.2.2.1 x1) (.done (.done none)) (fun x4 =>
(cnd (decide (x4.2.1 ≤ x3.2.2))
(.done (.done (some false)))
(iter (.done (.done none)) (fun x5 =>
(cnd (decide (x5 < (llen x.2.1)))
(elimO (idx x.2.2.2.1 x2) (.done (.done (.done none))) (fun x6 =>
(elimO (idx x6 x5) (.done (.done (.done none))) (fun x7 =>
(elimO (idx x.2.2.2.2.1 x1) (.done (.done (.done none))) (fun x8 =>
(cnd (decide (x8.2.1 ≤ x7))
(.done (.done (.done (some false))))
(.next (wr .i64 (x5 + 1))))))))))
(.done (.next (wr .i64 (x2 + 1)))))) lots 0))))))
(.done (.next (wr .i64 (x1 + 1)))))) lots 0)
(.done (some true)))) lots 0)

/-- turn.wants -/
def turn_wants_t (x : PSSite × Int × Int) : Option (Bool) :=
(elimO (idx x.1.2.2.2.2.1 x.2.1) none (fun x1 =>
(cnd (decide (0 ≤ x.2.2))
(some ((bitop Go.BinOp.and Go.IntKind.u32 (shrop Go.IntKind.u32 x1.1 x.2.2) 1) == 1))
 none)))

/-- turn.asks -/
def turn_asks_t (x : PSSite × Int) : Option (List Int) :=
(cnd ((decide (0 ≤ (llen x.1.2.1))) && ((decide ((llen x.1.2.1) ≤ (llen x.1.2.1))) && (makeOK (llen x.1.2.1) 1)))
(iter none (fun x1 =>
(cnd (decide (x1.1 < (llen (lrep (llen x.1.2.1) (0 : Int)))))
(elimO (idx x1.2 x1.1) (.done none) (fun _ =>
(elimO (idx x1.2 x1.1) (.done none) (fun _ =>
(elimO (turn_wants_t (x.1, (x.2, x1.1))) (.done none) (fun x4 =>
(cnd x4
(elimO (idx (lset x1.2 x1.1 1) x1.1) (.done none) (fun _ =>
(elimO (idx (lset x1.2 x1.1 1) x1.1) (.done none) (fun _ =>
(.next ((wr .i64 (x1.1 + 1)), (lset (lset x1.2 x1.1 1) x1.1 2)))))))
(.next ((wr .i64 (x1.1 + 1)), (lset x1.2 x1.1 1))))))))))
(.done (some x1.2)))) lots (0, (lrep (llen x.1.2.1) 0)))
 none)

/-- turn.Asks -/
def turn_Asks_t (x : PSSite × Int) : Option (List Int × Int) :=
(joinPt (fun x1 =>
(cnd (!(x1 == 0))
(some ([], x1))
(elimO (turn_asks_t x) none (fun x2 =>
(some (x2, 0)))))) (fun k =>
(elimO (site_Check_t x.1) none (fun x1 =>
(cnd (!(x1 == 0))
(k x1)
(cnd (!(0 == 0))
(k 0)
(cnd ((decide (x.2 < 0)) || (decide ((llen x.1.2.2.2.2.1) ≤ x.2)))
(k 2)
(k 0))))))))

/-- safe.shown -/
def safe_shown_t (x : PSSafe) : Option (List Int) :=
(cnd ((decide (0 ≤ (llen x.1))) && ((decide ((llen x.1) ≤ (llen x.1))) && (makeOK (llen x.1) 1)))
(iter none (fun x1 =>
(cnd (decide (x1.1 < (llen x.1)))
(elimO (idx x.1 x1.1) (.done none) (fun x2 =>
(elimO (idx x1.2 x1.1) (.done none) (fun _ =>
(elimO (idx x1.2 x1.1) (.done none) (fun _ =>
(.next ((wr .i64 (x1.1 + 1)), (lset x1.2 x1.1 x2.1)))))))))
(.done (some x1.2)))) lots (0, (lrep (llen x.1) 0)))
 none)

/-- safe.flash -/
def safe_flash_t (x : List Int) : Option (Bool) :=
(iter none (fun x1 =>
(cnd (decide (x1 < (llen x)))
(elimO (idx x x1) (.done none) (fun x2 =>
(cnd (!(x2 == 4))
(.done (some (!(decide (0 ≤ x1)))))
(.next (wr .i64 (x1 + 1))))))
(.done (some (!(decide (0 ≤ (-1)))))))) lots 0)

/-- safe.red -/
def safe_red_t (x : Int) : Option (Bool) :=
(some (x == 1))
def safe_red (x : Int) : Bool :=
((x == 1))
theorem safe_red_e (x : Int) : safe_red_t x = some (safe_red x) := by
  unfold safe_red_t safe_red
  rfl

/-- safe.meet -/
def safe_meet_t (x : PSSite × List Int) : Option (Bool) :=
(iter none (fun x1 =>
(cnd (decide (x1 < (llen x.2)))
(elimO (idx x.2 x1) (.done none) (fun x2 =>
(letK (safe_red x2) (fun y =>
(cnd y
(.next (wr .i64 (x1 + 1)))
(iter (.done none) (fun x3 =>
(cnd (decide (x3 < x1))
(elimO (idx x.2 x3) (.done (.done none)) (fun x4 =>
(letK (safe_red x4) (fun y1 =>
(cnd (!y1)
(elimO (safe_apart_t (x.1, (x1, x3))) (.done (.done none)) (fun x5 =>
(cnd x5
(.done (.done (some true)))
(.next (wr .i64 (x3 + 1))))))
(.next (wr .i64 (x3 + 1))))))))
(.done (.next (wr .i64 (x1 + 1)))))) lots 0))))))
(.done (some false)))) lots 0)

/-- safe.may -/
def safe_may_t (x : PSSite × PSSafe) : Option (Bool) :=
(elimO (safe_shown_t x.2) none (fun x1 =>
(cnd ((((llen x1) == (llen x.1.2.1)) && (decide (0 ≤ x.2.2.1))) && (decide (x.2.2.1 ≤ 1048576)))
(elimO (safe_flash_t x1) none (fun x2 =>
(cnd x2
(some true)
(elimO (safe_meet_t (x.1, x1)) none (fun x3 =>
(some (!x3)))))))
(some false))))

/-- slices.Index[[]uint8,uint8] -/
def slices_Index___uint8_uint8__t (x : List Int × Int) : Option (Int) :=
(iter none (fun x1 =>
(cnd (decide (x1 < (llen x.1)))
(elimO (idx x.1 x1) (.done none) (fun x2 =>
(cnd (x.2 == x2)
(.done (some x1))
(.next (wr .i64 (x1 + 1))))))
(.done (some (-1))))) lots 0)

/-- slices.Contains[[]uint8,uint8] -/
def slices_Contains___uint8_uint8__t (x : List Int × Int) : Option (Bool) :=
(elimO (slices_Index___uint8_uint8__t x) none (fun x1 =>
(some (decide (0 ≤ x1)))))

/-- lamp.kept -/
def lamp_kept_t (x : Int) : Option (Int) :=
(some (gmin (gmax x 0) 1048576))
def lamp_kept (x : Int) : Int :=
((gmin (gmax x 0) 1048576))
theorem lamp_kept_e (x : Int) : lamp_kept_t x = some (lamp_kept x) := by
  unfold lamp_kept_t lamp_kept
  rfl

/-- lamp.goes -/
def lamp_goes_t (x : Int) : Option (Bool) :=
(some ((decide (1 ≤ x)) && (decide (x ≤ 3))))
def lamp_goes (x : Int) : Bool :=
(((decide (1 ≤ x)) && (decide (x ≤ 3))))
theorem lamp_goes_e (x : Int) : lamp_goes_t x = some (lamp_goes x) := by
  unfold lamp_goes_t lamp_goes
  rfl

/-- lamp.Follows -/
def lamp_Follows_t (x : Int × Int) : Option (Bool) :=
(some ((((x.1 == 1) && ((x.2 == 2) && true)) || ((x.1 == 2) && ((x.2 == 3) && true))) || ((x.1 == 3) && ((x.2 == 1) && true))))
def lamp_Follows (x : Int × Int) : Bool :=
(((((x.1 == 1) && ((x.2 == 2) && true)) || ((x.1 == 2) && ((x.2 == 3) && true))) || ((x.1 == 3) && ((x.2 == 1) && true))))
theorem lamp_Follows_e (x : Int × Int) : lamp_Follows_t x = some (lamp_Follows x) := by
  unfold lamp_Follows_t lamp_Follows
  rfl

/-- lamp.May -/
def lamp_May_t (x : PSGroup × PSSeen × Int) : Option (Int) :=
(letK (lamp_kept x.2.1.2.1) (fun y =>
(letK (lamp_goes x.2.1.1) (fun y1 =>
(cnd (!y1)
(some 2)
(letK (lamp_goes x.2.2) (fun y2 =>
(cnd (!y2)
(some 2)
(cnd ((!(x.2.2 == x.2.1.1)) && (!(lamp_Follows (x.2.1.1, x.2.2))))
(some 2)
(cnd (((x.2.1.1 == 2) && (x.2.2 == 3)) && (decide (y < x.1.2.1)))
(some 5)
(cnd ((x.2.1.1 == 3) && ((x.2.2 == 3) == (decide (x.1.2.2 ≤ y))))
(some 6)
(some 0))))))))))))
def lamp_May (x : PSGroup × PSSeen × Int) : Int :=
(letK (lamp_kept x.2.1.2.1) (fun y =>
(letK (lamp_goes x.2.1.1) (fun y1 =>
(cnd (!y1)
(2)
(letK (lamp_goes x.2.2) (fun y2 =>
(cnd (!y2)
(2)
(cnd ((!(x.2.2 == x.2.1.1)) && (!(lamp_Follows (x.2.1.1, x.2.2))))
(2)
(cnd (((x.2.1.1 == 2) && (x.2.2 == 3)) && (decide (y < x.1.2.1)))
(5)
(cnd ((x.2.1.1 == 3) && ((x.2.2 == 3) == (decide (x.1.2.2 ≤ y))))
(6)
(0))))))))))))
theorem lamp_May_e (x : PSGroup × PSSeen × Int) : lamp_May_t x = some (lamp_May x) := by
  unfold lamp_May_t lamp_May
  simp only [letK, cnd_some]

/-- safe.close -/
def safe_close_t (x : PSSite × PSSafe × List Int) : Option (Bool) :=
(iter none (fun x1 =>
(cnd (decide (x1 < (llen x.2.1.1)))
(elimO (idx x.2.1.1 x1) (.done none) (fun x2 =>
(elimO (idx x.2.2 x1) (.done none) (fun x3 =>
(cnd ((!(x3 == 2)) || (x2.1 == 2))
(.next (wr .i64 (x1 + 1)))
(iter (.done none) (fun x4 =>
(cnd (decide (x4 < (llen x.2.1.1)))
(elimO (idx x.2.1.1 x4) (.done (.done none)) (fun x5 =>
(elimO (safe_apart_t (x.1, (x4, x1))) (.done (.done none)) (fun x6 =>
(cnd x6
(elimO (safe_between_t (x.1, (x4, x1))) (.done (.done none)) (fun x7 =>
(cnd (decide (x5.2.2 < x7))
(.done (.done (some true)))
(.next (wr .i64 (x4 + 1))))))
(.next (wr .i64 (x4 + 1))))))))
(.done (.next (wr .i64 (x1 + 1)))))) lots 0))))))
(.done (some false)))) lots 0)

/-- safe.fault -/
def safe_fault_t (x : PSSite × PSSafe × List Int) : Option (Int) :=
(cnd (!((llen x.2.2) == (llen x.1.2.1)))
(some 1)
(elimO (safe_flash_t x.2.2) none (fun x1 =>
(cnd x1
(some 0)
(elimO (slices_Contains___uint8_uint8__t (x.2.2, 4)) none (fun x2 =>
(cnd x2
(some 7)
(joinPt (fun x3 =>
(cnd x3
(some 8)
(iter none (fun x4 =>
(cnd (decide (x4 < (llen x.2.1.1)))
(elimO (idx x.2.1.1 x4) (.done none) (fun x5 =>
(elimO (idx x.1.2.1 x4) (.done none) (fun x6 =>
(elimO (idx x.2.2 x4) (.done none) (fun x7 =>
(letK (lamp_May (x6, (x5, x7))) (fun y =>
(cnd ((!(y == 0)) && (!x.2.1.2.2))
(.done (some y))
(.next (wr .i64 (x4 + 1))))))))))))
(.done (elimO (safe_meet_t (x.1, x.2.2)) none (fun x5 =>
(cnd x5
(some 3)
(elimO (safe_close_t x) none (fun x6 =>
(cnd x6
(some 4)
(some 0)))))))))) lots 0))) (fun k =>
(cnd (x.2.1.2.2 || (decide (0 < x.2.1.2.1)))
(iter none (fun x3 =>
(cnd (decide (x3 < (llen x.2.2)))
(elimO (idx x.2.2 x3) (.done none) (fun x4 =>
(letK (safe_red x4) (fun y =>
(cnd (!y)
(.done (k (decide (0 ≤ x3))))
(.next (wr .i64 (x3 + 1))))))))
(.done (k (decide (0 ≤ (-1))))))) lots 0)
(k false)))))))))))

/-- slices.Clone[[]api.Seen,api.Seen] -/
def clone_Seen_t (x : List PSSeen) : Option (List PSSeen) :=
(cnd (true && (roomOK (0 + (llen x)) 24))
(some ([] ++ x))
 none)

/-- lamp.more -/
def lamp_more_t (x : Int) : Option (Int) :=
(letK (lamp_kept x) (fun y =>
(letK (lamp_kept (wr .i64 (y + 1))) (fun y1 =>
(some y1)))))
def lamp_more (x : Int) : Int :=
(letK (lamp_kept x) (fun y =>
(letK (lamp_kept (wr .i64 (y + 1))) (fun y1 =>
(y1)))))
theorem lamp_more_e (x : Int) : lamp_more_t x = some (lamp_more x) := by
  unfold lamp_more_t lamp_more
  simp only [letK]

/-- lamp.Next -/
def lamp_Next_t (x : PSGroup × PSSeen × Int) : Option (PSSeen) :=
(letK (lamp_more x.2.1.2.2) (fun y =>
(cnd (x.2.2 == x.2.1.1)
(letK (lamp_more x.2.1.2.1) (fun y1 =>
(cnd (x.2.2 == 2)
(some (x.2.2, (y1, 0)))
(some (x.2.2, (y1, y))))))
(cnd (x.2.2 == 2)
(some (x.2.2, (1, 0)))
(some (x.2.2, (1, y)))))))
def lamp_Next (x : PSGroup × PSSeen × Int) : PSSeen :=
(letK (lamp_more x.2.1.2.2) (fun y =>
(cnd (x.2.2 == x.2.1.1)
(letK (lamp_more x.2.1.2.1) (fun y1 =>
(cnd (x.2.2 == 2)
((x.2.2, (y1, 0)))
((x.2.2, (y1, y))))))
(cnd (x.2.2 == 2)
((x.2.2, (1, 0)))
((x.2.2, (1, y)))))))
theorem lamp_Next_e (x : PSGroup × PSSeen × Int) : lamp_Next_t x = some (lamp_Next x) := by
  unfold lamp_Next_t lamp_Next
  simp only [letK, cnd_some]

/-- safe.behind -/
def safe_behind_t (x : PSSite × PSSafe × List Int) : Option (PSSafe) :=
(elimO (clone_Seen_t x.2.1.1) none (fun x1 =>
(elimO (safe_flash_t x.2.2) none (fun x2 =>
(iter none (fun x3 =>
(cnd (decide (x3.1 < (llen x1)))
(elimO (idx x3.2 x3.1) (.done none) (fun _ =>
(elimO (idx x3.2 x3.1) (.done none) (fun x5 =>
(elimO (idx x.1.2.1 x3.1) (.done none) (fun x6 =>
(elimO (idx x.2.2 x3.1) (.done none) (fun x7 =>
(letK (lamp_Next (x6, (x5, x7))) (fun y =>
(elimO (idx x3.2 x3.1) (.done none) (fun _ =>
(elimO (idx x3.2 x3.1) (.done none) (fun _ =>
(.next ((wr .i64 (x3.1 + 1)), (lset x3.2 x3.1 y)))))))))))))))))
(.done (cnd x2
(elimO (safe_greatest_t x.1) none (fun x4 =>
(some (x3.2, (x4, x2)))))
(cnd x.2.1.2.2
(elimO (safe_greatest_t x.1) none (fun x4 =>
(some (x3.2, ((gmax 0 (wr .i64 (x4 - 1))), x2)))))
(some (x3.2, ((gmax 0 (wr .i64 (x.2.1.2.1 - 1))), x2)))))))) lots (0, x1))))))

/-- safe.Next -/
def safe_Next_t (x : PSSite × PSSafe × List Int) : Option (PSSafe × Int × Int) :=
(elimO (site_Check_t x.1) none (fun x1 =>
(cnd (!(x1 == 0))
(some (([], (0, false)), (0, x1)))
(elimO (safe_may_t (x.1, x.2.1)) none (fun x2 =>
(cnd (!x2)
(some (([], (0, false)), (0, 8)))
(elimO (safe_fault_t x) none (fun x3 =>
(cnd (!(x3 == 0))
(elimO (clone_Seen_t x.2.1.1) none (fun x4 =>
(some ((x4, x.2.1.2), (x3, 0)))))
(elimO (safe_behind_t x) none (fun x4 =>
(some (x4, (0, 0))))))))))))))

/-- gate.goes -/
def gate_goes_t (x : PSSite × PSSafe) : Option (Bool) :=
(cnd (!((llen x.2.1) == (llen x.1.2.1)))
(some false)
(cnd ((decide (0 ≤ (llen x.2.1))) && ((decide ((llen x.2.1) ≤ (llen x.2.1))) && (makeOK (llen x.2.1) 1)))
(joinPt (fun x1 =>
(elimO (safe_Next_t (x.1, (x.2, x1))) none (fun x2 =>
(cnd (!(x2.2.2 == 0))
(some false)
(iter none (fun x3 =>
(cnd (decide (x3 < (llen x.2.1)))
(elimO (idx x.2.1 x3) (.done none) (fun x4 =>
(cnd x.2.2.2
(cnd (!(x4.1 == 4))
(.done (some (!(decide (0 ≤ x3)))))
(.next (wr .i64 (x3 + 1))))
(cnd (((decide (x4.1 < 1)) || (decide (3 < x4.1))) || ((decide (0 < x.2.2.1)) && (!(x4.1 == 1))))
(.done (some (!(decide (0 ≤ x3)))))
(.next (wr .i64 (x3 + 1)))))))
(.done (some (!(decide (0 ≤ (-1)))))))) lots 0))))) (fun k =>
(iter none (fun x1 =>
(cnd (decide (x1.1 < (llen (lrep (llen x.2.1) (0 : Int)))))
(elimO (idx x1.2 x1.1) (.done none) (fun _ =>
(elimO (idx x1.2 x1.1) (.done none) (fun _ =>
(.next ((wr .i64 (x1.1 + 1)), (lset x1.2 x1.1 4)))))))
(.done (k x1.2)))) lots (0, (lrep (llen x.2.1) 0)))))
 none))

/-- gate.asked -/
def gate_asked_t (x : PSSite × PSSafe) : Option (Int) :=
(elimO (site_Check_t x.1) none (fun x1 =>
(cnd (!(x1 == 0))
(some x1)
(elimO (gate_goes_t x) none (fun x2 =>
(cnd (!x2)
(some 8)
(some 0)))))))

/-- slices.Clone[[]uint8,uint8] -/
def clone_U8_t (x : List Int) : Option (List Int) :=
(cnd (true && (roomOK (0 + (llen x)) 1))
(some ([] ++ x))
 none)

/-- gate.all -/
def gate_all_t (x : Int × Int) : Option (List Int) :=
(cnd ((decide (0 ≤ x.1)) && ((decide (x.1 ≤ x.1)) && (makeOK x.1 1)))
(iter none (fun x1 =>
(cnd (decide (x1.1 < (llen (lrep x.1 (0 : Int)))))
(elimO (idx x1.2 x1.1) (.done none) (fun _ =>
(elimO (idx x1.2 x1.1) (.done none) (fun _ =>
(.next ((wr .i64 (x1.1 + 1)), (lset x1.2 x1.1 x.2)))))))
(.done (some x1.2)))) lots (0, (lrep x.1 0)))
 none)

/-- lamp.Want -/
def lamp_Want_t (x : PSGroup × PSSeen × Int) : Option (Int) :=
(letK (lamp_kept x.2.1.2.1) (fun y =>
(cnd (x.2.1.1 == 1)
(cnd (x.2.2 == 2)
(some 2)
(some 1))
(cnd (x.2.1.1 == 2)
(cnd ((x.2.2 == 2) || (decide (y < x.1.2.1)))
(some 2)
(some 3))
(cnd (x.2.1.1 == 3)
(cnd (decide (y < x.1.2.2))
(some 3)
(some 1))
(some 1))))))
def lamp_Want (x : PSGroup × PSSeen × Int) : Int :=
(letK (lamp_kept x.2.1.2.1) (fun y =>
(cnd (x.2.1.1 == 1)
(cnd (x.2.2 == 2)
(2)
(1))
(cnd (x.2.1.1 == 2)
(cnd ((x.2.2 == 2) || (decide (y < x.1.2.1)))
(2)
(3))
(cnd (x.2.1.1 == 3)
(cnd (decide (y < x.1.2.2))
(3)
(1))
(1))))))
theorem lamp_Want_e (x : PSGroup × PSSeen × Int) : lamp_Want_t x = some (lamp_Want x) := by
  unfold lamp_Want_t lamp_Want
  simp only [letK, cnd_some]

/-- gate.admit -/
def gate_admit_t (x : PSSite × PSSafe × List Int) : Option (List Int) :=
(joinPt (fun x1 =>
(cnd x1
(elimO (clone_U8_t x.2.2) none (fun x2 =>
(some x2)))
(cnd x.2.1.2.2
(elimO (gate_all_t ((llen x.2.2), 1)) none (fun x2 =>
(some x2)))
(cnd (decide (0 < x.2.1.2.1))
(elimO (gate_all_t ((llen x.2.2), 1)) none (fun x2 =>
(some x2)))
(elimO (gate_all_t ((llen x.2.2), 1)) none (fun x2 =>
(iter none (fun x3 =>
(cnd (decide (x3.1 < (llen x.2.1.1)))
(elimO (idx x.2.1.1 x3.1) (.done none) (fun x4 =>
(cnd (!(x4.1 == 1))
(elimO (idx x.1.2.1 x3.1) (.done none) (fun x5 =>
(elimO (idx x.2.2 x3.1) (.done none) (fun x6 =>
(letK (lamp_Want (x5, (x4, x6))) (fun y =>
(elimO (idx x3.2 x3.1) (.done none) (fun _ =>
(elimO (idx x3.2 x3.1) (.done none) (fun _ =>
(.next ((wr .i64 (x3.1 + 1)), (lset x3.2 x3.1 y)))))))))))))
(.next ((wr .i64 (x3.1 + 1)), x3.2)))))
(.done (iter none (fun x4 =>
(cnd (decide (x4.1 < (llen x.2.1.1)))
(elimO (idx x.2.1.1 x4.1) (.done none) (fun x5 =>
(cnd (x5.1 == 1)
(elimO (idx x.2.2 x4.1) (.done none) (fun x6 =>
(cnd (x6 == 2)
(iter (.done none) (fun x7 =>
(cnd (decide (x7.1 < (llen x.2.1.1)))
(elimO (idx x.2.1.1 x7.1) (.done (.done none)) (fun x8 =>
(elimO (idx x.1.2.2.1 x4.1) (.done (.done none)) (fun x9 =>
(cnd (decide (0 ≤ x7.1))
(cnd ((bitop Go.BinOp.and Go.IntKind.u32 (shrop Go.IntKind.u32 x9 x7.1) 1) == 1)
(elimO (idx x7.2 x7.1) (.done (.done none)) (fun _ =>
(elimO (idx x7.2 x7.1) (.done (.done none)) (fun x11 =>
(cnd (!(x11 == 1))
(.done (.next ((wr .i64 (x4.1 + 1)), x7.2)))
(elimO (idx x.1.2.2.2.1 x7.1) (.done (.done none)) (fun x12 =>
(elimO (idx x12 x4.1) (.done (.done none)) (fun x13 =>
(cnd (decide (x8.2.2 < x13))
(.done (.next ((wr .i64 (x4.1 + 1)), x7.2)))
(.next ((wr .i64 (x7.1 + 1)), x7.2))))))))))))
(.next ((wr .i64 (x7.1 + 1)), x7.2)))
(.done (.done none)))))))
(.done (elimO (idx x7.2 x4.1) (.done none) (fun _ =>
(elimO (idx x7.2 x4.1) (.done none) (fun _ =>
(.next ((wr .i64 (x4.1 + 1)), (lset x7.2 x4.1 2)))))))))) lots (0, x4.2))
(.next ((wr .i64 (x4.1 + 1)), x4.2)))))
(.next ((wr .i64 (x4.1 + 1)), x4.2)))))
(.done (some x4.2)))) lots (0, x3.2))))) lots (0, x2)))))))) (fun k =>
(iter none (fun x1 =>
(cnd (decide (x1 < (llen x.2.2)))
(elimO (idx x.2.2 x1) (.done none) (fun x2 =>
(cnd (!(x2 == 4))
(.done (k (!(decide (0 ≤ x1)))))
(.next (wr .i64 (x1 + 1))))))
(.done (k (!(decide (0 ≤ (-1)))))))) lots 0)))

/-- gate.Admit -/
def gate_Admit_t (x : PSSite × PSSafe × List Int) : Option (List Int × Int) :=
(elimO (gate_asked_t (x.1, x.2.1)) none (fun x1 =>
(cnd (!(x1 == 0))
(some ([], x1))
(cnd (!((llen x.2.2) == (llen x.1.2.1)))
(some ([], 90))
(elimO (gate_admit_t x) none (fun x2 =>
(some (x2, 0))))))))

/-- turn.full -/
def turn_full_t (x : PSSite × PSSafe × Int) : Option (Bool) :=
(iter none (fun x1 =>
(cnd (decide (x1 < (llen x.2.1.1)))
(elimO (idx x.2.1.1 x1) (.done none) (fun x2 =>
(elimO (turn_wants_t (x.1, (x.2.2, x1))) (.done none) (fun x3 =>
(cnd (x3 && (!(x2.1 == 2)))
(.done (some false))
(.next (wr .i64 (x1 + 1))))))))
(.done (some true)))) lots 0)

/-- turn.Full -/
def turn_Full_t (x : PSSite × PSSafe × Int) : Option (Bool × Int) :=
(joinPt (fun x1 =>
(cnd (x1 == 0)
(elimO (turn_full_t x) none (fun x2 =>
(some (x2, x1))))
(some (false, x1)))) (fun k =>
(elimO (site_Check_t x.1) none (fun x1 =>
(cnd (!(x1 == 0))
(k x1)
(cnd (!((llen x.2.1.1) == (llen x.1.2.1)))
(cnd (!(8 == 0))
(k 8)
(cnd ((decide (x.2.2 < 0)) || (decide ((llen x.1.2.2.2.2.1) ≤ x.2.2)))
(k 2)
(k 0)))
(cnd (!(0 == 0))
(k 0)
(cnd ((decide (x.2.2 < 0)) || (decide ((llen x.1.2.2.2.2.1) ≤ x.2.2)))
(k 2)
(k 0)))))))))

/-- stoplinelaw17.PlanLocks -/
def law17_PlanLocks_t (x : PSSite × PSPlan) : Option (Bool) :=
(elimO (law17_alive_t ()) none (fun x1 =>
(elimO (ref05_Great_t x.1) none (fun x2 =>
(cnd (((x2 || (decide (100 < (llen x.2.2.2)))) || (decide (100 < x.2.1))) || (!x1))
(some x1)
(elimO (plan_Wants_t (x.1, (x.2, 0))) none (fun x3 =>
(elimO (safe_First_t x.1) none (fun x4 =>
(cnd ((!(x3.2 == 0)) || (!(x4.2 == 0)))
(some true)
(elimO (law17_short_t x.1) none (fun x5 =>
(cnd (!x5)
(some true)
(iter none (fun x6 =>
(cnd (decide (x6.2.1 < (wr .i64 (4 * x.2.1))))
(elimO (plan_At_t (x.1, (x.2, x6.2.1))) (.done none) (fun x7 =>
(elimO (plan_Wants_t (x.1, (x.2, x6.2.1))) (.done none) (fun x8 =>
(elimO (turn_Asks_t (x.1, x8.1)) (.done none) (fun x9 =>
(elimO (gate_Admit_t (x.1, (x6.2.2, x9.1))) (.done none) (fun x10 =>
(elimO (safe_Next_t (x.1, (x6.2.2, x10.1))) (.done none) (fun x11 =>
(elimO (turn_Full_t (x.1, (x11.1, x7.1))) (.done none) (fun x12 =>
(cnd (((((((!(x7.2.2 == 0)) || (!(x8.2 == 0))) || (!(x9.2 == 0))) || (!(x10.2 == 0))) || (!(x11.2.2 == 0))) || (!(x12.2 == 0))) || (!(x11.2.1 == 0)))
(.done (some false))
(cnd (x7.2.1 == 0)
(cnd (!x12.1)
(cnd (((decide ((llen x.1.2.2.2.2.1) ≤ x6.1)) && (x8.1 == x7.1)) && (!x12.1))
(.done (some false))
(.next (0, ((wr .i64 (x6.2.1 + 1)), x11.1))))
(cnd (((decide ((llen x.1.2.2.2.2.1) ≤ x6.1)) && (x8.1 == x7.1)) && (!x12.1))
(.done (some false))
(.next ((wr .i64 (x6.1 + 1)), ((wr .i64 (x6.2.1 + 1)), x11.1)))))
(cnd (((decide ((llen x.1.2.2.2.2.1) ≤ x6.1)) && (x8.1 == x7.1)) && (!x12.1))
(.done (some false))
(.next (x6.1, ((wr .i64 (x6.2.1 + 1)), x11.1))))))))))))))))))
(.done (some true)))) lots (0, (0, x4.1))))))))))))))))

end Go.Proofs.YtfdnmjabjmedgaaDoor
