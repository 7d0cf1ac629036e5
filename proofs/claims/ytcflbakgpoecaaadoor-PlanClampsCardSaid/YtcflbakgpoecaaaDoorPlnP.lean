/- Part of a proof: plain readings of Go functions, their contracts, or plain facts of them. -/
import Derived.Test.YtcflbakgpoecaaaDoorDen3
namespace Go.Proofs.YtcflbakgpoecaaaDoor
open Go.Den Go.RowKit Go.ChangeShapes

abbrev I64 := Ty.int .i64
abbrev PI64 : Type := Int
abbrev U8 := Ty.int .u8
abbrev PU8 : Type := Int
abbrev SGroup := Ty.pair U8 (Ty.pair I64 I64)
abbrev PSGroup : Type := Int × (Int × Int)
abbrev SGroups := Ty.slice SGroup
abbrev PSGroups : Type := List PSGroup
abbrev U32 := Ty.int .u32
abbrev PU32 : Type := Int
abbrev U32s := Ty.slice U32
abbrev PU32s : Type := List Int
abbrev I64s := Ty.slice I64
abbrev PI64s : Type := List Int
abbrev I64ss := Ty.slice I64s
abbrev PI64ss : Type := List (List Int)
abbrev Bo := Ty.bool
abbrev PBo : Type := Bool
abbrev SPhase := Ty.pair U32 (Ty.pair I64 (Ty.pair I64 (Ty.pair I64 Bo)))
abbrev PSPhase : Type := Int × (Int × (Int × (Int × Bool)))
abbrev SPhases := Ty.slice SPhase
abbrev PSPhases : Type := List PSPhase
abbrev SEye := Ty.pair I64 (Ty.pair I64 (Ty.pair I64 I64))
abbrev PSEye : Type := Int × (Int × (Int × Int))
abbrev SEyes := Ty.slice SEye
abbrev PSEyes : Type := List PSEye
abbrev SPlan := Ty.pair I64 (Ty.pair I64 I64s)
abbrev PSPlan : Type := Int × (Int × List Int)
abbrev SPlans := Ty.slice SPlan
abbrev PSPlans : Type := List PSPlan
abbrev SSite := Ty.pair I64 (Ty.pair SGroups (Ty.pair U32s (Ty.pair I64ss (Ty.pair SPhases (Ty.pair SEyes (Ty.pair I64 (Ty.pair I64 (Ty.pair I64 (Ty.pair I64 (Ty.pair I64 SPlans))))))))))
abbrev PSSite : Type := Int × (List PSGroup × (List Int × (List (List Int) × (List PSPhase × (List PSEye × (Int × (Int × (Int × (Int × (Int × List PSPlan))))))))))

/-- stoplinelaw17.three -/
def law17_three_t (_ : Unit) : Option (PSSite) :=
(some (1, (((1, (2, 1)) :: ((1, (2, 1)) :: ((2, (3, 2)) :: []))), ((6 :: (1 :: (1 :: []))), (((0 :: (2 :: (3 :: []))) :: ((2 :: (0 :: (0 :: []))) :: ((4 :: (0 :: (0 :: []))) :: []))), (((1, (2, (9, (1, false)))) :: ((6, (3, (9, (1, false)))) :: [])), ([], (9, (2, (3, (30, (60, []))))))))))))
def law17_three (_ : Unit) : PSSite :=
((1, (((1, (2, 1)) :: ((1, (2, 1)) :: ((2, (3, 2)) :: []))), ((6 :: (1 :: (1 :: []))), (((0 :: (2 :: (3 :: []))) :: ((2 :: (0 :: (0 :: []))) :: ((4 :: (0 :: (0 :: []))) :: []))), (((1, (2, (9, (1, false)))) :: ((6, (3, (9, (1, false)))) :: [])), ([], (9, (2, (3, (30, (60, []))))))))))))
theorem law17_three_e (x : Unit) : law17_three_t x = some (law17_three x) := by
  unfold law17_three_t law17_three
  rfl

/-- site.in -/
def site_in_t (x : Int × Int × Int) : Option (Bool) :=
(some ((decide (x.2.1 ≤ x.1)) && (decide (x.1 ≤ x.2.2))))
def site_in (x : Int × Int × Int) : Bool :=
(((decide (x.2.1 ≤ x.1)) && (decide (x.1 ≤ x.2.2))))
theorem site_in_e (x : Int × Int × Int) : site_in_t x = some (site_in x) := by
  unfold site_in_t site_in
  rfl

/-- site.shape -/
def site_shape_t (x : PSSite) : Option (Bool) :=
(letK (site_in ((llen x.2.1), (1, 16))) (fun y =>
(cnd ((((((!y) || (!((llen x.2.2.1) == (llen x.2.1)))) || (!((llen x.2.2.2.1) == (llen x.2.1)))) || (!(site_in ((llen x.2.2.2.2.1), (1, 8))))) || (decide (24 < (llen x.2.2.2.2.2.1)))) || (decide (8 < (llen x.2.2.2.2.2.2.2.2.2.2.2))))
(some false)
(iter none (fun x1 =>
(cnd (decide (x1 < (llen x.2.2.2.1)))
(elimO (idx x.2.2.2.1 x1) (.done none) (fun x2 =>
(cnd (!((llen x2) == (llen x.2.1)))
(.done (some false))
(elimO (idx x.2.2.1 x1) (.done none) (fun x3 =>
(cnd (decide (0 ≤ (llen x.2.1)))
(cnd (!((shrop Go.IntKind.u32 x3 (llen x.2.1)) == 0))
(.done (some false))
(.next (wr .i64 (x1 + 1))))
(.done none)))))))
(.done (some true)))) lots 0))))

/-- site.ticks -/
def site_ticks_t (x : List Int) : Option (Bool) :=
(iter none (fun x1 =>
(cnd (decide (x1 < (llen x)))
(elimO (idx x x1) (.done none) (fun x2 =>
(letK (site_in (x2, (1, 1048576))) (fun y =>
(cnd (!y)
(.done (some false))
(.next (wr .i64 (x1 + 1))))))))
(.done (some true)))) lots 0)
def site_ticks (x : List Int) : Bool := x.all fun n => decide (1 ≤ n) && decide (n ≤ 1048576)
theorem site_ticks_e (x : List Int) (hf : FitsAll [I64s] x) : site_ticks_t x = some (site_ticks x) := by
  unfold site_ticks_t
  obtain ⟨b, h1, h2⟩ := iter_allP (l := x) (bad := none) (no := some false) (yes := some true) (f := fun x1 =>
(cnd (decide (x1 < (llen x)))
(elimO (idx x x1) (.done none) (fun x2 =>
(letK (site_in (x2, (1, 1048576))) (fun y =>
(cnd (!y)
(.done (some false))
(.next (wr .i64 (x1 + 1))))))))
(.done (some true)))) (fun _ n => site_in (n, (1, 1048576)) = true) hf.1 (fun i n h0 h1 hn => by
      simp only [h1, decide_true, cnd, hn, elimO, letK]
      cases site_in (n, (1, 1048576)) <;> simp) (fun i hi => by simp [hi, cnd])
  rw [h1]
  have : b = site_ticks x := by
    apply Bool.eq_iff_iff.2
    rw [h2]
    unfold site_ticks site_in
    simp only [List.all_eq_true]
    exact ⟨fun h n hn => by obtain ⟨i, hi⟩ := mem_idx hn; exact h i n hi, fun h i n hi => h n (idx_some_iff hi).2.2⟩
  rw [this]
  cases site_ticks x <;> rfl

/-- ring.bit -/
def ring_bit_t (x : Int) : Option (Int) :=
(cnd ((decide (x < 0)) || (decide (31 < x)))
(some 0)
(cnd (decide (0 ≤ x))
(some (shlop Go.IntKind.u32 1 x))
 none))
theorem shl_fits (x : Int) (h : ¬ (x < 0)) : decide (0 ≤ x) = true := by simp; omega
def ring_bit (x : Int) : Int := cnd (decide (x < 0) || decide (31 < x)) 0 (shlop .u32 1 x)
theorem ring_bit_e (x : Int) (_ : FitsAll [I64] x) : ring_bit_t x = some (ring_bit x) := by
  unfold ring_bit_t ring_bit
  by_cases h : x < 0
  · simp [h, cnd]
  · have h' : 0 ≤ x := by omega
    by_cases h2 : 31 < x
    · simp [h2, cnd]
    · simp [h, h2, h', cnd]

/-- ring.Has -/
def ring_Has_t (x : Int × Int) : Option (Bool) :=
(letK (ring_bit x.2) (fun y =>
(some (!((bitop Go.BinOp.and Go.IntKind.u32 x.1 y) == 0)))))
def ring_Has (x : Int × Int) : Bool :=
(letK (ring_bit x.2) (fun y =>
((!((bitop Go.BinOp.and Go.IntKind.u32 x.1 y) == 0)))))
theorem ring_Has_e (x : Int × Int) : ring_Has_t x = some (ring_Has x) := by
  unfold ring_Has_t ring_Has
  simp only [letK]

/-- site.apart -/
def site_apart_t (x : PSSite) : Option (Bool) :=
(iter none (fun x1 =>
(cnd (decide (x1 < (llen x.2.1)))
(elimO (idx x.2.1 x1) (.done none) (fun x2 =>
(cnd (((!(x2.1 == 1)) && (!(x2.1 == 2))) || (!(site_ticks (x2.2.1 :: (x2.2.2 :: [])))))
(.done (some false))
(elimO (idx x.2.2.2.1 x1) (.done none) (fun x3 =>
(iter (.done none) (fun x4 =>
(cnd (decide (x4 < (llen x3)))
(elimO (idx x3 x4) (.done (.done none)) (fun x5 =>
(elimO (idx x.2.2.1 x1) (.done (.done none)) (fun x6 =>
(letK (ring_Has (x6, x4)) (fun y =>
(elimO (idx x.2.2.1 x4) (.done (.done none)) (fun x7 =>
(letK (ring_Has (x7, x1)) (fun y1 =>
(cnd (!(y == y1))
(.done (.done (some false)))
(cnd (y && (x1 == x4))
(.done (.done (some false)))
(cnd (y && (!(site_in (x5, (x2.2.2, 1048576)))))
(.done (.done (some false)))
(cnd ((!y) && (!(x5 == 0)))
(.done (.done (some false)))
(.next (wr .i64 (x4 + 1)))))))))))))))))
(.done (.next (wr .i64 (x1 + 1)))))) lots 0))))))
(.done (some true)))) lots 0)

def bits_TrailingZeros32 (x : Int) : Int := low x

/-- ring.Least -/
def ring_Least_t (x : Int) : Option (Int) :=
(cnd (x == 0)
(some (-1))
(letK (bits_TrailingZeros32 x) (fun y =>
(some y))))
def ring_Least (x : Int) : Int :=
(cnd (x == 0)
((-1))
(letK (bits_TrailingZeros32 x) (fun y =>
(y))))
theorem ring_Least_e (x : Int) : ring_Least_t x = some (ring_Least x) := by
  unfold ring_Least_t ring_Least
  simp only [letK, cnd_some]

/-- ring.Without -/
def ring_Without_t (x : Int × Int) : Option (Int) :=
(letK (ring_bit x.2) (fun y =>
(some (bitop Go.BinOp.andNot Go.IntKind.u32 x.1 y))))
def ring_Without (x : Int × Int) : Int :=
(letK (ring_bit x.2) (fun y =>
((bitop Go.BinOp.andNot Go.IntKind.u32 x.1 y))))
theorem ring_Without_e (x : Int × Int) : ring_Without_t x = some (ring_Without x) := by
  unfold ring_Without_t ring_Without
  simp only [letK]

def bits_OnesCount32 (x : Int) : Int := cnt x

/-- ring.Count -/
def ring_Count_t (x : Int) : Option (Int) :=
(letK (bits_OnesCount32 x) (fun y =>
(some y)))
def ring_Count (x : Int) : Int :=
(letK (bits_OnesCount32 x) (fun y =>
(y)))
theorem ring_Count_e (x : Int) : ring_Count_t x = some (ring_Count x) := by
  unfold ring_Count_t ring_Count
  simp only [letK]

/-- site.phased -/
def site_phased_t (x : PSSite) : Option (Bool) :=
(iter none (fun x1 =>
(cnd (decide (x1.2 < (llen x.2.2.2.2.1)))
(elimO (idx x.2.2.2.2.1 x1.2) (.done none) (fun x2 =>
(cnd (x2.1 == 0)
(.done (some false))
(cnd (decide (0 ≤ (llen x.2.1)))
(cnd (((!((shrop Go.IntKind.u32 x2.1 (llen x.2.1)) == 0)) || (!(site_ticks (x2.2.1 :: (x2.2.2.1 :: (x2.2.2.2.1 :: [])))))) || (decide (x2.2.2.1 < x2.2.1)))
(.done (some false))
(iter (.done none) (fun x3 =>
(cnd (!(x3 == 0))
(letK (ring_Least x3) (fun y =>
(letK (ring_Without (x3, y)) (fun y1 =>
(elimO (idx x.2.1 y) (.done (.done none)) (fun x4 =>
(cnd (decide (x2.2.1 < x4.2.1))
(.done (.done (some false)))
(elimO (idx x.2.2.1 y) (.done (.done none)) (fun x5 =>
(cnd (!((bitop Go.BinOp.and Go.IntKind.u32 x5 x2.1) == 0))
(.done (.done (some false)))
(.next y1)))))))))))
(.done (.next ((bitop Go.BinOp.or Go.IntKind.u32 x1.1 x2.1), (wr .i64 (x1.2 + 1))))))) lots x2.1))
(.done none)))))
(.done (letK (ring_Count x1.1) (fun y =>
(some (y == (llen x.2.1)))))))) lots (0, 0))

/-- site.eyed -/
def site_eyed_t (x : PSSite) : Option (Bool) :=
(iter none (fun x1 =>
(cnd (decide (x1 < (llen x.2.2.2.2.2.1)))
(elimO (idx x.2.2.2.2.2.1 x1) (.done none) (fun x2 =>
(letK (site_in (x2.1, (0, (wr .i64 ((llen x.2.2.2.2.1) - 1))))) (fun y =>
(cnd (((!y) || (!(site_ticks (x2.2.1 :: (x2.2.2.1 :: []))))) || (!(site_in (x2.2.2.2, (1, 64)))))
(.done (some false))
(.next (wr .i64 (x1 + 1))))))))
(.done (some true)))) lots 0)

/-- site.clear -/
def site_clear_t (x : PSSite × Int × Int) : Option (Int) :=
(iter none (fun x1 =>
(cnd (decide (x1.2 < (llen x.1.2.1)))
(elimO (idx x.1.2.2.2.2.1 x.2.1) (.done none) (fun x2 =>
(letK (ring_Has (x2.1, x1.2)) (fun y =>
(cnd (!y)
(.next (x1.1, (wr .i64 (x1.2 + 1))))
(elimO (idx x.1.2.2.1 x1.2) (.done none) (fun x3 =>
(elimO (idx x.1.2.2.2.2.1 x.2.2) (.done none) (fun x4 =>
(iter (.done none) (fun x5 =>
(cnd (!(x5.2 == 0))
(letK (ring_Least x5.2) (fun y1 =>
(letK (ring_Without (x5.2, y1)) (fun y2 =>
(elimO (idx x.1.2.2.2.1 x1.2) (.done (.done none)) (fun x6 =>
(elimO (idx x6 y1) (.done (.done none)) (fun x7 =>
(.next ((gmax x5.1 x7), y2))))))))))
(.done (.next (x5.1, (wr .i64 (x1.2 + 1))))))) lots (x1.1, (bitop Go.BinOp.and Go.IntKind.u32 x3 x4.1))))))))))))
(.done (some x1.1)))) lots (0, 0))

/-- site.needs -/
def site_needs_t (x : PSSite × Int) : Option (Int) :=
(elimO (idx x.1.2.2.2.2.1 x.2) none (fun x1 =>
(cnd (!((llen x.1.2.2.2.2.1) == 0))
(elimO (site_clear_t (x.1, (x.2, (irem (wr .i64 (x.2 + 1)) (llen x.1.2.2.2.2.1))))) none (fun x2 =>
(some (wr .i64 (x1.2.1 + x2)))))
 none)))

/-- site.timed -/
def site_timed_t (x : PSSite) : Option (Bool) :=
(iter none (fun x1 =>
(cnd (decide (x1.2 < (llen x.2.2.2.2.1)))
(elimO (site_needs_t (x, x1.2)) (.done none) (fun x2 =>
(.next ((wr .i64 (x1.1 + x2)), (wr .i64 (x1.2 + 1))))))
(.done (letK (site_ticks (x.2.2.2.2.2.2.1 :: (x.2.2.2.2.2.2.2.1 :: (x.2.2.2.2.2.2.2.2.1 :: (x.2.2.2.2.2.2.2.2.2.1 :: (x.2.2.2.2.2.2.2.2.2.2.1 :: [])))))) (fun y =>
(some ((y && (decide (x1.1 ≤ x.2.2.2.2.2.2.2.2.2.1))) && (decide (x.2.2.2.2.2.2.2.2.2.1 ≤ x.2.2.2.2.2.2.2.2.2.2.1))))))))) lots (0, 0))

/-- site.fits -/
def site_fits_t (x : PSSite × PSPlan) : Option (Bool) :=
(letK (site_in (x.2.1, (x.1.2.2.2.2.2.2.2.2.2.1, x.1.2.2.2.2.2.2.2.2.2.2.1))) (fun y =>
(cnd (((!y) || (!(site_in (x.2.2.1, (0, (wr .i64 (x.2.1 - 1))))))) || (!((llen x.2.2.2) == (llen x.1.2.2.2.2.1))))
(some false)
(iter none (fun x1 =>
(cnd (decide (x1.2 < (llen x.2.2.2)))
(elimO (idx x.2.2.2 x1.2) (.done none) (fun x2 =>
(elimO (site_needs_t (x.1, x1.2)) (.done none) (fun x3 =>
(letK (site_in (x2, (x3, x1.1))) (fun y1 =>
(cnd (!y1)
(.done (some false))
(.next ((wr .i64 (x1.1 - x2)), (wr .i64 (x1.2 + 1)))))))))))
(.done (some (x1.1 == 0))))) lots (x.2.1, 0)))))

/-- site.planned -/
def site_planned_t (x : PSSite) : Option (Bool) :=
(iter none (fun x1 =>
(cnd (decide (x1 < (llen x.2.2.2.2.2.2.2.2.2.2.2)))
(elimO (idx x.2.2.2.2.2.2.2.2.2.2.2 x1) (.done none) (fun x2 =>
(elimO (site_fits_t (x, x2)) (.done none) (fun x3 =>
(cnd (!x3)
(.done (some false))
(.next (wr .i64 (x1 + 1))))))))
(.done (some true)))) lots 0)

/-- site.Check -/
def site_Check_t (x : PSSite) : Option (Int) :=
(iter none (fun x1 =>
(cnd (decide (x1.2 < 6))
(cnd (x1.2 == 0)
(letK (site_in (x.1, (0, 65535))) (fun y =>
(cnd (!y)
(.done (some 50))
(elimO (site_shape_t x) (.done none) (fun x2 =>
(cnd (!x2)
(.done (cnd (!x2)
(some 50)
(some 0)))
(.next ((!x2), (wr .i64 (x1.2 + 1))))))))))
(cnd (x1.2 == 1)
(elimO (site_apart_t x) (.done none) (fun x2 =>
(cnd (!x2)
(.done (cnd (!x2)
(some 50)
(some 0)))
(.next ((!x2), (wr .i64 (x1.2 + 1)))))))
(cnd (x1.2 == 2)
(elimO (site_phased_t x) (.done none) (fun x2 =>
(cnd (!x2)
(.done (cnd (!x2)
(some 50)
(some 0)))
(.next ((!x2), (wr .i64 (x1.2 + 1)))))))
(cnd (x1.2 == 3)
(elimO (site_eyed_t x) (.done none) (fun x2 =>
(cnd (!x2)
(.done (cnd (!x2)
(some 50)
(some 0)))
(.next ((!x2), (wr .i64 (x1.2 + 1)))))))
(cnd (x1.2 == 4)
(elimO (site_timed_t x) (.done none) (fun x2 =>
(cnd (!x2)
(.done (cnd (!x2)
(some 50)
(some 0)))
(.next ((!x2), (wr .i64 (x1.2 + 1)))))))
(cnd (x1.2 == 5)
(elimO (site_planned_t x) (.done none) (fun x2 =>
(cnd (!x2)
(.done (cnd (!x2)
(some 50)
(some 0)))
(.next ((!x2), (wr .i64 (x1.2 + 1)))))))
(cnd x1.1
(.done (cnd x1.1
(some 50)
(some 0)))
(.next (x1.1, (wr .i64 (x1.2 + 1)))))))))))
(.done (cnd x1.1
(some 50)
(some 0))))) lots (false, 0))

/-- plan.next -/
def plan_next_t (x : PSSite × Int) : Option (Int) :=
(cnd (!((llen x.1.2.2.2.2.1) == 0))
(some (irem (wr .i64 (x.2 + 1)) (llen x.1.2.2.2.2.1)))
 none)

/-- site.Clear -/
def site_Clear_t (x : PSSite × Int × Int) : Option (Int × Int) :=
(joinPt (fun x1 =>
(cnd (!(x1 == 0))
(some (0, x1))
(elimO (site_clear_t x) none (fun x2 =>
(some (x2, 0)))))) (fun k =>
(elimO (site_Check_t x.1) none (fun x1 =>
(cnd (!(x1 == 0))
(k x1)
(iter none (fun x2 =>
(cnd (decide (x2 < (llen (x.2.1 :: (x.2.2 :: [])))))
(elimO (idx (x.2.1 :: (x.2.2 :: [])) x2) (.done none) (fun x3 =>
(letK (site_in (x3, (0, (wr .i64 ((llen x.1.2.2.2.2.1) - 1))))) (fun y =>
(cnd (!y)
(.done (k 2))
(.next (wr .i64 (x2 + 1))))))))
(.done (k 0)))) lots 0))))))

/-- plan.clear -/
def plan_clear_t (x : PSSite × Int) : Option (Int) :=
(elimO (plan_next_t x) none (fun x1 =>
(elimO (site_Clear_t (x.1, (x.2, x1))) none (fun x2 =>
(some x2.1)))))

/-- plan.Clamp -/
def plan_Clamp_t (x : PSSite × PSPlan) : Option (PSPlan × Int) :=
(elimO (site_Check_t x.1) none (fun x1 =>
(cnd (!(x1 == 0))
(some ((0, (0, [])), x1))
(cnd (!((gmin (gmax x.2.1 x.1.2.2.2.2.2.2.2.2.2.1) x.1.2.2.2.2.2.2.2.2.2.2.1) == 0))
(cnd (!((gmin (gmax x.2.1 x.1.2.2.2.2.2.2.2.2.2.1) x.1.2.2.2.2.2.2.2.2.2.2.1) == 0))
(cnd ((decide (0 ≤ (llen x.1.2.2.2.2.1))) && ((decide ((llen x.1.2.2.2.2.1) ≤ (llen x.1.2.2.2.2.1))) && (makeOK (llen x.1.2.2.2.2.1) 8)))
(iter none (fun x2 =>
(cnd (decide (x2.1 < (llen x.1.2.2.2.2.1)))
(elimO (idx x.1.2.2.2.2.1 x2.1) (.done none) (fun x3 =>
(elimO (plan_clear_t (x.1, x2.1)) (.done none) (fun x4 =>
(joinPt (fun x5 =>
(joinPt (fun x6 =>
(elimO (idx x6.2.2 x2.1) (.done none) (fun _ =>
(elimO (idx x6.2.2 x2.1) (.done none) (fun x8 =>
(cnd (true && (roomOK ((llen x6.2.1.2.1) + (llen ((wr .i64 (x3.2.1 + x4)) :: []))) 8))
(.next ((wr .i64 (x2.1 + 1)), ((wr .i64 (x2.2.1 - (wr .i64 (x3.2.1 + x4)))), ((wr .i64 (x2.2.2.1 + x8)), (x6.1, ((x6.2.1.1, ((x6.2.1.2.1 ++ ((wr .i64 (x3.2.1 + x4)) :: [])), ())), x6.2.2))))))
(.done none))))))) (fun k =>
(elimO (idx x5.2 x2.1) (.done none) (fun _ =>
(elimO (idx x5.2 x2.1) (.done none) (fun x7 =>
(cnd ((decide (0 < x7)) && (decide (x2.2.2.2.1 < 0)))
(k (x2.1, ((x5.1.1, (x5.1.2.1, ())), x5.2)))
(k (x2.2.2.2.1, ((x5.1.1, (x5.1.2.1, ())), x5.2))))))))))) (fun k =>
(cnd (decide (x2.1 < (llen x.2.2.2)))
(elimO (idx x.2.2.2 x2.1) (.done none) (fun x5 =>
(elimO (idx x2.2.2.2.2.2 x2.1) (.done none) (fun _ =>
(elimO (idx x2.2.2.2.2.2 x2.1) (.done none) (fun _ =>
(k ((x2.2.2.2.2.1.1, (x2.2.2.2.2.1.2.1, ())), (lset x2.2.2.2.2.2 x2.1 (gmax 0 (wr .i64 ((gmin (gmax 0 x5) x.1.2.2.2.2.2.2.2.2.2.2.1) - (wr .i64 (x3.2.1 + x4))))))))))))))
(k ((x2.2.2.2.2.1.1, (x2.2.2.2.2.1.2.1, ())), x2.2.2.2.2.2)))))))))
(.done (iter none (fun x3 =>
(cnd (decide (x3.1 < (llen x2.2.2.2.2.1.2.1)))
(cnd (decide (0 < x2.2.2.1))
(elimO (idx x2.2.2.2.2.2 x3.1) (.done none) (fun x4 =>
(cnd (!(x2.2.2.1 == 0))
(elimO (idx x3.2.2.2.1 x3.1) (.done none) (fun _ =>
(elimO (idx x3.2.2.2.1 x3.1) (.done none) (fun x6 =>
(elimO (idx x3.2.2.2.1 x3.1) (.done none) (fun _ =>
(elimO (idx x3.2.2.2.1 x3.1) (.done none) (fun _ =>
(.next ((wr .i64 (x3.1 + 1)), ((wr .i64 (x3.2.1 - (quoop Go.IntKind.i64 (wr .i64 (x2.2.1 * x4)) x2.2.2.1))), (x3.2.2.1, ((lset x3.2.2.2.1 x3.1 (wr .i64 (x6 + (quoop Go.IntKind.i64 (wr .i64 (x2.2.1 * x4)) x2.2.2.1)))), ())))))))))))))
(.done none))))
(.next ((wr .i64 (x3.1 + 1)), (x3.2.1, (x3.2.2.1, (x3.2.2.2.1, ()))))))
(.done (elimO (idx x3.2.2.2.1 (gmax 0 x2.2.2.2.1)) none (fun _ =>
(elimO (idx x3.2.2.2.1 (gmax 0 x2.2.2.2.1)) none (fun x5 =>
(elimO (idx x3.2.2.2.1 (gmax 0 x2.2.2.2.1)) none (fun _ =>
(elimO (idx x3.2.2.2.1 (gmax 0 x2.2.2.2.1)) none (fun _ =>
(some ((x3.2.2.1.1, (x3.2.2.1.2, (lset x3.2.2.2.1 (gmax 0 x2.2.2.2.1) (wr .i64 (x5 + x3.2.1))))), 0))))))))))))) lots (0, (x2.2.1, (x2.2.2.2.2.1.1, (x2.2.2.2.2.1.2.1, ())))))))) lots (0, ((gmin (gmax x.2.1 x.1.2.2.2.2.2.2.2.2.2.1) x.1.2.2.2.2.2.2.2.2.2.2.1), (0, ((-1), ((((gmin (gmax x.2.1 x.1.2.2.2.2.2.2.2.2.2.1) x.1.2.2.2.2.2.2.2.2.2.2.1), (irem (wr .i64 ((irem x.2.2.1 (gmin (gmax x.2.1 x.1.2.2.2.2.2.2.2.2.2.1) x.1.2.2.2.2.2.2.2.2.2.2.1)) + (gmin (gmax x.2.1 x.1.2.2.2.2.2.2.2.2.2.1) x.1.2.2.2.2.2.2.2.2.2.2.1))) (gmin (gmax x.2.1 x.1.2.2.2.2.2.2.2.2.2.1) x.1.2.2.2.2.2.2.2.2.2.2.1))), ([], ())), (lrep (llen x.1.2.2.2.2.1) 0)))))))
 none)
 none)
 none))))

/-- stoplinelaw17.alive -/
def law17_alive_t (_ : Unit) : Option (Bool) :=
(some true)

/-- stoplineref05.Great -/
def ref05_Great_t (x : PSSite) : Option (Bool) :=
(cnd ((((((decide (40 < (llen x.2.1))) || (decide (40 < (llen x.2.2.1)))) || (decide (40 < (llen x.2.2.2.1)))) || (decide (40 < (llen x.2.2.2.2.1)))) || (decide (60 < (llen x.2.2.2.2.2.1)))) || (decide (40 < (llen x.2.2.2.2.2.2.2.2.2.2.2))))
(some true)
(iter none (fun x1 =>
(cnd (decide (x1 < (llen x.2.2.2.1)))
(elimO (idx x.2.2.2.1 x1) (.done none) (fun x2 =>
(cnd (decide (40 < (llen x2)))
(.done (some true))
(.next (wr .i64 (x1 + 1))))))
(.done (iter none (fun x2 =>
(cnd (decide (x2 < (llen x.2.2.2.2.2.2.2.2.2.2.2)))
(elimO (idx x.2.2.2.2.2.2.2.2.2.2.2 x2) (.done none) (fun x3 =>
(cnd (decide (40 < (llen x3.2.2)))
(.done (some true))
(.next (wr .i64 (x2 + 1))))))
(.done (some false)))) lots 0)))) lots 0))

/-- stoplinelaw17.same -/
def law17_same_t (x : PSPlan × PSPlan) : Option (Bool) :=
(cnd (((!(x.1.1 == x.2.1)) || (!(x.1.2.1 == x.2.2.1))) || (!((llen x.1.2.2) == (llen x.2.2.2))))
(some false)
(iter none (fun x1 =>
(cnd (decide (x1 < (llen x.1.2.2)))
(elimO (idx x.1.2.2 x1) (.done none) (fun x2 =>
(elimO (idx x.2.2.2 x1) (.done none) (fun x3 =>
(cnd (!(x2 == x3))
(.done (some false))
(.next (wr .i64 (x1 + 1))))))))
(.done (some true)))) lots 0))

/-- site.Plan -/
def site_Plan_t (x : PSSite × PSPlan) : Option (Bool × Int) :=
(elimO (site_Check_t x.1) none (fun x1 =>
(cnd (!(x1 == 0))
(some (false, x1))
(elimO (site_fits_t x) none (fun x2 =>
(some (x2, 0)))))))

/-- stoplinelaw17.PlanClamps -/
def law17_PlanClamps_t (x : PSSite × PSPlan) : Option (Bool) :=
(elimO (law17_alive_t ()) none (fun x1 =>
(elimO (ref05_Great_t x.1) none (fun x2 =>
(cnd ((x2 || (decide (100 < (llen x.2.2.2)))) || (!x1))
(some x1)
(elimO (plan_Clamp_t x) none (fun x3 =>
(cnd (!(x3.2 == 0))
(elimO (law17_same_t (x3.1, (0, (0, [])))) none (fun x4 =>
(cnd x4
(elimO (site_Check_t x.1) none (fun x5 =>
(some (x3.2 == x5))))
(some false))))
(elimO (site_Plan_t (x.1, x3.1)) none (fun x4 =>
(elimO (plan_Clamp_t (x.1, x3.1)) none (fun x5 =>
(elimO (site_Plan_t x) none (fun x6 =>
(cnd (((x4.2 == 0) && x4.1) && (x5.2 == 0))
(elimO (law17_same_t (x5.1, x3.1)) none (fun x7 =>
(cnd (x7 && (x6.2 == 0))
(cnd (!x6.1)
(some true)
(elimO (law17_same_t (x3.1, x.2)) none (fun x8 =>
(some x8))))
(some false))))
(some false))))))))))))))))

end Go.Proofs.YtcflbakgpoecaaaDoor
