/- Part of a proof: plain readings of Go functions, their contracts, or plain facts of them. -/
import Derived.Test.YtnkhijnppfnomaaDoorDen2
namespace Go.Proofs.YtnkhijnppfnomaaDoor
open Go.Den Go.RowKit Go.ChangeShapes

abbrev I64 := Ty.int .i64
abbrev PI64 : Type := Int
abbrev U8 := Ty.int .u8
abbrev PU8 : Type := Int
abbrev SGroup := Ty.pair U8 (Ty.pair I64 I64)
abbrev PSGroup : Type := Int × (Int × Int)
abbrev SGroups := Ty.slice SGroup
abbrev PSGroups : Type := List PSGroup
abbrev U32 := Ty.int .u32
abbrev PU32 : Type := Int
abbrev U32s := Ty.slice U32
abbrev PU32s : Type := List Int
abbrev I64s := Ty.slice I64
abbrev PI64s : Type := List Int
abbrev I64ss := Ty.slice I64s
abbrev PI64ss : Type := List (List Int)
abbrev Bo := Ty.bool
abbrev PBo : Type := Bool
abbrev SPhase := Ty.pair U32 (Ty.pair I64 (Ty.pair I64 (Ty.pair I64 Bo)))
abbrev PSPhase : Type := Int × (Int × (Int × (Int × Bool)))
abbrev SPhases := Ty.slice SPhase
abbrev PSPhases : Type := List PSPhase
abbrev SEye := Ty.pair I64 (Ty.pair I64 (Ty.pair I64 I64))
abbrev PSEye : Type := Int × (Int × (Int × Int))
abbrev SEyes := Ty.slice SEye
abbrev PSEyes : Type := List PSEye
abbrev SPlan := Ty.pair I64 (Ty.pair I64 I64s)
abbrev PSPlan : Type := Int × (Int × List Int)
abbrev SPlans := Ty.slice SPlan
abbrev PSPlans : Type := List PSPlan
abbrev SSite := Ty.pair I64 (Ty.pair SGroups (Ty.pair U32s (Ty.pair I64ss (Ty.pair SPhases (Ty.pair SEyes (Ty.pair I64 (Ty.pair I64 (Ty.pair I64 (Ty.pair I64 (Ty.pair I64 SPlans))))))))))
abbrev PSSite : Type := Int × (List PSGroup × (List Int × (List (List Int) × (List PSPhase × (List PSEye × (Int × (Int × (Int × (Int × (Int × List PSPlan))))))))))
abbrev SFacts := Ty.pair Bo (Ty.pair Bo (Ty.pair Bo Bo))
abbrev PSFacts : Type := Bool × (Bool × (Bool × Bool))
abbrev SRung := Ty.pair U8 (Ty.pair I64 Bo)
abbrev PSRung : Type := Int × (Int × Bool)
abbrev SFactss := Ty.slice SFacts
abbrev PSFactss : Type := List PSFacts
abbrev SRungs := Ty.slice SRung
abbrev PSRungs : Type := List PSRung
abbrev U8s := Ty.slice U8
abbrev PU8s : Type := List Int
abbrev Bos := Ty.slice Bo
abbrev PBos : Type := List Bool

/-- stoplinelaw22.two -/
def law22_two_t (_ : Unit) : Option (PSSite) :=
(some (0, (((1, (2, 1)) :: ((1, (2, 1)) :: [])), ((2 :: (1 :: [])), (((0 :: (2 :: [])) :: ((2 :: (0 :: [])) :: [])), (((1, (2, (5, (1, false)))) :: ((2, (2, (5, (1, false)))) :: [])), ([], (3, (2, (4, (8, (20, []))))))))))))
def law22_two (_ : Unit) : PSSite :=
((0, (((1, (2, 1)) :: ((1, (2, 1)) :: [])), ((2 :: (1 :: [])), (((0 :: (2 :: [])) :: ((2 :: (0 :: [])) :: [])), (((1, (2, (5, (1, false)))) :: ((2, (2, (5, (1, false)))) :: [])), ([], (3, (2, (4, (8, (20, []))))))))))))
theorem law22_two_e (x : Unit) : law22_two_t x = some (law22_two x) := by
  unfold law22_two_t law22_two
  rfl

/-- stoplinelaw22.all -/
def law22_all_t (_ : Unit) : Option (PSFacts) :=
(some (true, (true, (true, true))))
def law22_all (_ : Unit) : PSFacts :=
((true, (true, (true, true))))
theorem law22_all_e (x : Unit) : law22_all_t x = some (law22_all x) := by
  unfold law22_all_t law22_all
  rfl

/-- site.in -/
def site_in_t (x : Int × Int × Int) : Option (Bool) :=
(some ((decide (x.2.1 ≤ x.1)) && (decide (x.1 ≤ x.2.2))))
def site_in (x : Int × Int × Int) : Bool :=
(((decide (x.2.1 ≤ x.1)) && (decide (x.1 ≤ x.2.2))))
theorem site_in_e (x : Int × Int × Int) : site_in_t x = some (site_in x) := by
  unfold site_in_t site_in
  rfl

/-- site.shape -/
def site_shape_t (x : PSSite) : Option (Bool) :=
(letK (site_in ((llen x.2.1), (1, 16))) (fun y =>
(cnd ((((((!y) || (!((llen x.2.2.1) == (llen x.2.1)))) || (!((llen x.2.2.2.1) == (llen x.2.1)))) || (!(site_in ((llen x.2.2.2.2.1), (1, 8))))) || (decide (24 < (llen x.2.2.2.2.2.1)))) || (decide (8 < (llen x.2.2.2.2.2.2.2.2.2.2.2))))
(some false)
(iter none (fun x1 =>
(cnd (decide (x1 < (llen x.2.2.2.1)))
(elimO (idx x.2.2.2.1 x1) (.done none) (fun x2 =>
(cnd (!((llen x2) == (llen x.2.1)))
(.done (some false))
(elimO (idx x.2.2.1 x1) (.done none) (fun x3 =>
(cnd (decide (0 ≤ (llen x.2.1)))
(cnd (!((shrop Go.IntKind.u32 x3 (llen x.2.1)) == 0))
(.done (some false))
(.next (wr .i64 (x1 + 1))))
(.done none)))))))
(.done (some true)))) lots 0))))

/-- site.ticks -/
def site_ticks_t (x : List Int) : Option (Bool) :=
(iter none (fun x1 =>
(cnd (decide (x1 < (llen x)))
(elimO (idx x x1) (.done none) (fun x2 =>
(letK (site_in (x2, (1, 1048576))) (fun y =>
(cnd (!y)
(.done (some false))
(.next (wr .i64 (x1 + 1))))))))
(.done (some true)))) lots 0)
def site_ticks (x : List Int) : Bool := x.all fun n => decide (1 ≤ n) && decide (n ≤ 1048576)
theorem site_ticks_e (x : List Int) (hf : FitsAll [I64s] x) : site_ticks_t x = some (site_ticks x) := by
  unfold site_ticks_t
  obtain ⟨b, h1, h2⟩ := iter_allP (l := x) (bad := none) (no := some false) (yes := some true) (f := fun x1 =>
(cnd (decide (x1 < (llen x)))
(elimO (idx x x1) (.done none) (fun x2 =>
(letK (site_in (x2, (1, 1048576))) (fun y =>
(cnd (!y)
(.done (some false))
(.next (wr .i64 (x1 + 1))))))))
(.done (some true)))) (fun _ n => site_in (n, (1, 1048576)) = true) hf.1 (fun i n h0 h1 hn => by
      simp only [h1, decide_true, cnd, hn, elimO, letK]
      cases site_in (n, (1, 1048576)) <;> simp) (fun i hi => by simp [hi, cnd])
  rw [h1]
  have : b = site_ticks x := by
    apply Bool.eq_iff_iff.2
    rw [h2]
    unfold site_ticks site_in
    simp only [List.all_eq_true]
    exact ⟨fun h n hn => by obtain ⟨i, hi⟩ := mem_idx hn; exact h i n hi, fun h i n hi => h n (idx_some_iff hi).2.2⟩
  rw [this]
  cases site_ticks x <;> rfl

/-- ring.bit -/
def ring_bit_t (x : Int) : Option (Int) :=
(cnd ((decide (x < 0)) || (decide (31 < x)))
(some 0)
(cnd (decide (0 ≤ x))
(some (shlop Go.IntKind.u32 1 x))
 none))
theorem shl_fits (x : Int) (h : ¬ (x < 0)) : decide (0 ≤ x) = true := by simp; omega
def ring_bit (x : Int) : Int := cnd (decide (x < 0) || decide (31 < x)) 0 (shlop .u32 1 x)
theorem ring_bit_e (x : Int) (_ : FitsAll [I64] x) : ring_bit_t x = some (ring_bit x) := by
  unfold ring_bit_t ring_bit
  by_cases h : x < 0
  · simp [h, cnd]
  · have h' : 0 ≤ x := by omega
    by_cases h2 : 31 < x
    · simp [h2, cnd]
    · simp [h, h2, h', cnd]

/-- ring.Has -/
def ring_Has_t (x : Int × Int) : Option (Bool) :=
(letK (ring_bit x.2) (fun y =>
(some (!((bitop Go.BinOp.and Go.IntKind.u32 x.1 y) == 0)))))
def ring_Has (x : Int × Int) : Bool :=
(letK (ring_bit x.2) (fun y =>
((!((bitop Go.BinOp.and Go.IntKind.u32 x.1 y) == 0)))))
theorem ring_Has_e (x : Int × Int) : ring_Has_t x = some (ring_Has x) := by
  unfold ring_Has_t ring_Has
  simp only [letK]

/-- site.apart -/
def site_apart_t (x : PSSite) : Option (Bool) :=
(iter none (fun x1 =>
(cnd (decide (x1 < (llen x.2.1)))
(elimO (idx x.2.1 x1) (.done none) (fun x2 =>
(cnd (((!(x2.1 == 1)) && (!(x2.1 == 2))) || (!(site_ticks (x2.2.1 :: (x2.2.2 :: [])))))
(.done (some false))
(elimO (idx x.2.2.2.1 x1) (.done none) (fun x3 =>
(iter (.done none) (fun x4 =>
(cnd (decide (x4 < (llen x3)))
(elimO (idx x3 x4) (.done (.done none)) (fun x5 =>
(elimO (idx x.2.2.1 x1) (.done (.done none)) (fun x6 =>
(letK (ring_Has (x6, x4)) (fun y =>
(elimO (idx x.2.2.1 x4) (.done (.done none)) (fun x7 =>
(letK (ring_Has (x7, x1)) (fun y1 =>
(cnd (!(y == y1))
(.done (.done (some false)))
(cnd (y && (x1 == x4))
(.done (.done (some false)))
(cnd (y && (!(site_in (x5, (x2.2.2, 1048576)))))
(.done (.done (some false)))
(cnd ((!y) && (!(x5 == 0)))
(.done (.done (some false)))
(.next (wr .i64 (x4 + 1)))))))))))))))))
(.done (.next (wr .i64 (x1 + 1)))))) lots 0))))))
(.done (some true)))) lots 0)

def bits_TrailingZeros32 (x : Int) : Int := low x

/-- ring.Least -/
def ring_Least_t (x : Int) : Option (Int) :=
(cnd (x == 0)
(some (-1))
(letK (bits_TrailingZeros32 x) (fun y =>
(some y))))
def ring_Least (x : Int) : Int :=
(cnd (x == 0)
((-1))
(letK (bits_TrailingZeros32 x) (fun y =>
(y))))
theorem ring_Least_e (x : Int) : ring_Least_t x = some (ring_Least x) := by
  unfold ring_Least_t ring_Least
  simp only [letK, cnd_some]

/-- ring.Without -/
def ring_Without_t (x : Int × Int) : Option (Int) :=
(letK (ring_bit x.2) (fun y =>
(some (bitop Go.BinOp.andNot Go.IntKind.u32 x.1 y))))
def ring_Without (x : Int × Int) : Int :=
(letK (ring_bit x.2) (fun y =>
((bitop Go.BinOp.andNot Go.IntKind.u32 x.1 y))))
theorem ring_Without_e (x : Int × Int) : ring_Without_t x = some (ring_Without x) := by
  unfold ring_Without_t ring_Without
  simp only [letK]

def bits_OnesCount32 (x : Int) : Int := cnt x

/-- ring.Count -/
def ring_Count_t (x : Int) : Option (Int) :=
(letK (bits_OnesCount32 x) (fun y =>
(some y)))
def ring_Count (x : Int) : Int :=
(letK (bits_OnesCount32 x) (fun y =>
(y)))
theorem ring_Count_e (x : Int) : ring_Count_t x = some (ring_Count x) := by
  unfold ring_Count_t ring_Count
  simp only [letK]

/-- site.phased -/
def site_phased_t (x : PSSite) : Option (Bool) :=
(iter none (fun x1 =>
(cnd (decide (x1.2 < (llen x.2.2.2.2.1)))
(elimO (idx x.2.2.2.2.1 x1.2) (.done none) (fun x2 =>
(cnd (x2.1 == 0)
(.done (some false))
(cnd (decide (0 ≤ (llen x.2.1)))
(cnd (((!((shrop Go.IntKind.u32 x2.1 (llen x.2.1)) == 0)) || (!(site_ticks (x2.2.1 :: (x2.2.2.1 :: (x2.2.2.2.1 :: [])))))) || (decide (x2.2.2.1 < x2.2.1)))
(.done (some false))
(iter (.done none) (fun x3 =>
(cnd (!(x3 == 0))
(letK (ring_Least x3) (fun y =>
(letK (ring_Without (x3, y)) (fun y1 =>
(elimO (idx x.2.1 y) (.done (.done none)) (fun x4 =>
(cnd (decide (x2.2.1 < x4.2.1))
(.done (.done (some false)))
(elimO (idx x.2.2.1 y) (.done (.done none)) (fun x5 =>
(cnd (!((bitop Go.BinOp.and Go.IntKind.u32 x5 x2.1) == 0))
(.done (.done (some false)))
(.next y1)))))))))))
(.done (.next ((bitop Go.BinOp.or Go.IntKind.u32 x1.1 x2.1), (wr .i64 (x1.2 + 1))))))) lots x2.1))
(.done none)))))
(.done (letK (ring_Count x1.1) (fun y =>
(some (y == (llen x.2.1)))))))) lots (0, 0))

/-- site.eyed -/
def site_eyed_t (x : PSSite) : Option (Bool) :=
(iter none (fun x1 =>
(cnd (decide (x1 < (llen x.2.2.2.2.2.1)))
(elimO (idx x.2.2.2.2.2.1 x1) (.done none) (fun x2 =>
(letK (site_in (x2.1, (0, (wr .i64 ((llen x.2.2.2.2.1) - 1))))) (fun y =>
(cnd (((!y) || (!(site_ticks (x2.2.1 :: (x2.2.2.1 :: []))))) || (!(site_in (x2.2.2.2, (1, 64)))))
(.done (some false))
(.next (wr .i64 (x1 + 1))))))))
(.done (some true)))) lots 0)

/-- site.clear -/
def site_clear_t (x : PSSite × Int × Int) : Option (Int) :=
(iter none (fun x1 =>
(cnd (decide (x1.2 < (llen x.1.2.1)))
(elimO (idx x.1.2.2.2.2.1 x.2.1) (.done none) (fun x2 =>
(letK (ring_Has (x2.1, x1.2)) (fun y =>
(cnd (!y)
(.next (x1.1, (wr .i64 (x1.2 + 1))))
(elimO (idx x.1.2.2.1 x1.2) (.done none) (fun x3 =>
(elimO (idx x.1.2.2.2.2.1 x.2.2) (.done none) (fun x4 =>
(iter (.done none) (fun x5 =>
(cnd (!(x5.2 == 0))
(letK (ring_Least x5.2) (fun y1 =>
(letK (ring_Without (x5.2, y1)) (fun y2 =>
(elimO (idx x.1.2.2.2.1 x1.2) (.done (.done none)) (fun x6 =>
(elimO (idx x6 y1) (.done (.done none)) (fun x7 =>
(.next ((gmax x5.1 x7), y2))))))))))
(.done (.next (x5.1, (wr .i64 (x1.2 + 1))))))) lots (x1.1, (bitop Go.BinOp.and Go.IntKind.u32 x3 x4.1))))))))))))
(.done (some x1.1)))) lots (0, 0))

/-- site.needs -/
def site_needs_t (x : PSSite × Int) : Option (Int) :=
(elimO (idx x.1.2.2.2.2.1 x.2) none (fun x1 =>
(cnd (!((llen x.1.2.2.2.2.1) == 0))
(elimO (site_clear_t (x.1, (x.2, (irem (wr .i64 (x.2 + 1)) (llen x.1.2.2.2.2.1))))) none (fun x2 =>
(some (wr .i64 (x1.2.1 + x2)))))
 none)))

/-- site.timed -/
def site_timed_t (x : PSSite) : Option (Bool) :=
(iter none (fun x1 =>
(cnd (decide (x1.2 < (llen x.2.2.2.2.1)))
(elimO (site_needs_t (x, x1.2)) (.done none) (fun x2 =>
(.next ((wr .i64 (x1.1 + x2)), (wr .i64 (x1.2 + 1))))))
(.done (letK (site_ticks (x.2.2.2.2.2.2.1 :: (x.2.2.2.2.2.2.2.1 :: (x.2.2.2.2.2.2.2.2.1 :: (x.2.2.2.2.2.2.2.2.2.1 :: (x.2.2.2.2.2.2.2.2.2.2.1 :: [])))))) (fun y =>
(some ((y && (decide (x1.1 ≤ x.2.2.2.2.2.2.2.2.2.1))) && (decide (x.2.2.2.2.2.2.2.2.2.1 ≤ x.2.2.2.2.2.2.2.2.2.2.1))))))))) lots (0, 0))

/-- site.fits -/
def site_fits_t (x : PSSite × PSPlan) : Option (Bool) :=
(letK (site_in (x.2.1, (x.1.2.2.2.2.2.2.2.2.2.1, x.1.2.2.2.2.2.2.2.2.2.2.1))) (fun y =>
(cnd (((!y) || (!(site_in (x.2.2.1, (0, (wr .i64 (x.2.1 - 1))))))) || (!((llen x.2.2.2) == (llen x.1.2.2.2.2.1))))
(some false)
(iter none (fun x1 =>
(cnd (decide (x1.2 < (llen x.2.2.2)))
(elimO (idx x.2.2.2 x1.2) (.done none) (fun x2 =>
(elimO (site_needs_t (x.1, x1.2)) (.done none) (fun x3 =>
(letK (site_in (x2, (x3, x1.1))) (fun y1 =>
(cnd (!y1)
(.done (some false))
(.next ((wr .i64 (x1.1 - x2)), (wr .i64 (x1.2 + 1)))))))))))
(.done (some (x1.1 == 0))))) lots (x.2.1, 0)))))

/-- site.planned -/
def site_planned_t (x : PSSite) : Option (Bool) :=
(iter none (fun x1 =>
(cnd (decide (x1 < (llen x.2.2.2.2.2.2.2.2.2.2.2)))
(elimO (idx x.2.2.2.2.2.2.2.2.2.2.2 x1) (.done none) (fun x2 =>
(elimO (site_fits_t (x, x2)) (.done none) (fun x3 =>
(cnd (!x3)
(.done (some false))
(.next (wr .i64 (x1 + 1))))))))
(.done (some true)))) lots 0)

/-- site.Check -/
def site_Check_t (x : PSSite) : Option (Int) :=
(iter none (fun x1 =>
(cnd (decide (x1.2 < 6))
(cnd (x1.2 == 0)
(letK (site_in (x.1, (0, 65535))) (fun y =>
(cnd (!y)
(.done (some 50))
(elimO (site_shape_t x) (.done none) (fun x2 =>
(cnd (!x2)
(.done (cnd (!x2)
(some 50)
(some 0)))
(.next ((!x2), (wr .i64 (x1.2 + 1))))))))))
(cnd (x1.2 == 1)
(elimO (site_apart_t x) (.done none) (fun x2 =>
(cnd (!x2)
(.done (cnd (!x2)
(some 50)
(some 0)))
(.next ((!x2), (wr .i64 (x1.2 + 1)))))))
(cnd (x1.2 == 2)
(elimO (site_phased_t x) (.done none) (fun x2 =>
(cnd (!x2)
(.done (cnd (!x2)
(some 50)
(some 0)))
(.next ((!x2), (wr .i64 (x1.2 + 1)))))))
(cnd (x1.2 == 3)
(elimO (site_eyed_t x) (.done none) (fun x2 =>
(cnd (!x2)
(.done (cnd (!x2)
(some 50)
(some 0)))
(.next ((!x2), (wr .i64 (x1.2 + 1)))))))
(cnd (x1.2 == 4)
(elimO (site_timed_t x) (.done none) (fun x2 =>
(cnd (!x2)
(.done (cnd (!x2)
(some 50)
(some 0)))
(.next ((!x2), (wr .i64 (x1.2 + 1)))))))
(cnd (x1.2 == 5)
(elimO (site_planned_t x) (.done none) (fun x2 =>
(cnd (!x2)
(.done (cnd (!x2)
(some 50)
(some 0)))
(.next ((!x2), (wr .i64 (x1.2 + 1)))))))
(cnd x1.1
(.done (cnd x1.1
(some 50)
(some 0)))
(.next (x1.1, (wr .i64 (x1.2 + 1)))))))))))
(.done (cnd x1.1
(some 50)
(some 0))))) lots (false, 0))

/-- ladder.asked -/
def ladder_asked_t (x : PSSite × PSRung) : Option (Int) :=
(elimO (site_Check_t x.1) none (fun x1 =>
(cnd (!(x1 == 0))
(some x1)
(cnd ((((decide (3 < x.2.1)) || (decide (x.2.2.1 < 0))) || (decide (1048576 < x.2.2.1))) || (x.2.2.2 && ((!(x.2.1 == 0)) || (!(x.2.2.1 == 0)))))
(some 8)
(some 0)))))

/-- ladder.may -/
def ladder_may_t (x : PSRung × PSFacts) : Option (Int) :=
(cnd (x.1.2.2 || (!x.2.2.2.2))
(some 0)
(cnd ((x.2.1 && x.2.2.1) && x.2.2.2.1)
(some 3)
(cnd x.2.2.1
(some 2)
(some 1))))
def ladder_may (x : PSRung × PSFacts) : Int :=
(cnd (x.1.2.2 || (!x.2.2.2.2))
(0)
(cnd ((x.2.1 && x.2.2.1) && x.2.2.2.1)
(3)
(cnd x.2.2.1
(2)
(1))))
theorem ladder_may_e (x : PSRung × PSFacts) : ladder_may_t x = some (ladder_may x) := by
  unfold ladder_may_t ladder_may
  simp only [cnd_some]

/-- ladder.step -/
def ladder_step_t (x : PSSite × PSRung × PSFacts) : Option (PSRung) :=
(letK (ladder_may ((x.2.1.1, (x.2.1.2.1, (x.2.1.2.2 || (!x.2.2.2.2.2)))), x.2.2)) (fun y =>
(cnd (decide (y ≤ x.2.1.1))
(some (y, (0, (x.2.1.2.2 || (!x.2.2.2.2.2)))))
(cnd (decide (x.1.2.2.2.2.2.2.2.2.1 ≤ (wr .i64 (x.2.1.2.1 + 1))))
(some ((wr .u8 (x.2.1.1 + 1)), (0, (x.2.1.2.2 || (!x.2.2.2.2.2)))))
(some (x.2.1.1, ((wr .i64 (x.2.1.2.1 + 1)), (x.2.1.2.2 || (!x.2.2.2.2.2)))))))))
def ladder_step (x : PSSite × PSRung × PSFacts) : PSRung :=
(letK (ladder_may ((x.2.1.1, (x.2.1.2.1, (x.2.1.2.2 || (!x.2.2.2.2.2)))), x.2.2)) (fun y =>
(cnd (decide (y ≤ x.2.1.1))
((y, (0, (x.2.1.2.2 || (!x.2.2.2.2.2)))))
(cnd (decide (x.1.2.2.2.2.2.2.2.2.1 ≤ (wr .i64 (x.2.1.2.1 + 1))))
(((wr .u8 (x.2.1.1 + 1)), (0, (x.2.1.2.2 || (!x.2.2.2.2.2)))))
((x.2.1.1, ((wr .i64 (x.2.1.2.1 + 1)), (x.2.1.2.2 || (!x.2.2.2.2.2)))))))))
theorem ladder_step_e (x : PSSite × PSRung × PSFacts) : ladder_step_t x = some (ladder_step x) := by
  unfold ladder_step_t ladder_step
  simp only [letK, cnd_some]

/-- ladder.Run -/
def ladder_Run_t (x : PSSite × PSRung × List PSFacts) : Option (List PSRung × Int) :=
(elimO (ladder_asked_t (x.1, x.2.1)) none (fun x1 =>
(cnd (!(x1 == 0))
(some ([], x1))
(cnd (decide (4096 < (llen x.2.2)))
(some ([], 4))
(cnd ((decide (0 ≤ 0)) && ((decide (0 ≤ (llen x.2.2))) && (makeOK (llen x.2.2) 24)))
(iter none (fun x2 =>
(cnd (decide (x2.2.1 < (llen x.2.2)))
(elimO (idx x.2.2 x2.2.1) (.done none) (fun x3 =>
(letK (ladder_step (x.1, (x2.2.2, x3))) (fun y =>
(cnd (true && roomOK ((llen x2.1) + (llen (y :: []))) 24)
(.next ((x2.1 ++ (y :: [])), ((wr .i64 (x2.2.1 + 1)), y)))
(.done none))))))
(.done (some (x2.1, 0))))) lots ((lrep 0 (0, (0, false))), (0, x.2.1)))
 none)))))

/-- stoplinelaw22.alive -/
def law22_alive_t (_ : Unit) : Option (Bool) :=
(letK (law22_two ()) (fun y =>
(letK (law22_all ()) (fun y1 =>
(letK (law22_all ()) (fun y2 =>
(letK (law22_all ()) (fun y3 =>
(letK (law22_all ()) (fun y4 =>
(elimO (ladder_Run_t (y, ((2, (0, false)), (y1 :: (y2 :: (y3 :: (y4 :: []))))))) none (fun x1 =>
(cnd ((x1.2 == 0) && ((llen x1.1) == 4))
(elimO (idx x1.1 2) none (fun x2 =>
(cnd ((x2.1 == 2) && ((x2.2.1 == 3) && ((x2.2.2 == false) && true)))
(elimO (idx x1.1 3) none (fun x3 =>
(some ((x3.1 == 3) && ((x3.2.1 == 0) && ((x3.2.2 == false) && true))))))
(some false))))
(some false))))))))))))))

/-- stoplineref05.Great -/
def ref05_Great_t (x : PSSite) : Option (Bool) :=
(cnd ((((((decide (40 < (llen x.2.1))) || (decide (40 < (llen x.2.2.1)))) || (decide (40 < (llen x.2.2.2.1)))) || (decide (40 < (llen x.2.2.2.2.1)))) || (decide (60 < (llen x.2.2.2.2.2.1)))) || (decide (40 < (llen x.2.2.2.2.2.2.2.2.2.2.2))))
(some true)
(iter none (fun x1 =>
(cnd (decide (x1 < (llen x.2.2.2.1)))
(elimO (idx x.2.2.2.1 x1) (.done none) (fun x2 =>
(cnd (decide (40 < (llen x2)))
(.done (some true))
(.next (wr .i64 (x1 + 1))))))
(.done (iter none (fun x2 =>
(cnd (decide (x2 < (llen x.2.2.2.2.2.2.2.2.2.2.2)))
(elimO (idx x.2.2.2.2.2.2.2.2.2.2.2 x2) (.done none) (fun x3 =>
(cnd (decide (40 < (llen x3.2.2)))
(.done (some true))
(.next (wr .i64 (x2 + 1))))))
(.done (some false)))) lots 0)))) lots 0))

/-- ladder.May -/
def ladder_May_t (x : PSRung × PSFacts) : Option (Int) :=
(letK (ladder_may x) (fun y =>
(some y)))
def ladder_May (x : PSRung × PSFacts) : Int :=
(letK (ladder_may x) (fun y =>
(y)))
theorem ladder_May_e (x : PSRung × PSFacts) : ladder_May_t x = some (ladder_May x) := by
  unfold ladder_May_t ladder_May
  simp only [letK]

/-- stoplinelaw22.LadderDown -/
def law22_LadderDown_t (x : PSSite × PSRung × List PSFacts) : Option (Bool) :=
(elimO (law22_alive_t ()) none (fun x1 =>
(cnd (!x1)
(some false)
(elimO (ref05_Great_t x.1) none (fun x2 =>
(cnd (x2 || (decide (300 < (llen x.2.2))))
(some x1)
(elimO (site_Check_t x.1) none (fun x3 =>
(cnd (!(x3 == 0))
(some x1)
(elimO (ladder_Run_t x) none (fun x4 =>
(cnd (!(x4.2 == 0))
(some (x1 && ((llen x4.1) == 0)))
(cnd (!((llen x4.1) == (llen x.2.2)))
(some false)
(iter none (fun x5 =>
(cnd (decide (x5.1 < (llen x.2.2)))
(elimO (idx x4.1 x5.1) (.done none) (fun x6 =>
(elimO (idx x.2.2 x5.1) (.done none) (fun x7 =>
(letK (ladder_May (x5.2, x7)) (fun y =>
(cnd (((decide (y < x6.1)) || (decide ((wr .u8 (x5.2.1 + 1)) < x6.1))) || (x5.2.2.2 && (!x6.2.2)))
(.done (some false))
(elimO (idx x.2.2 x5.1) (.done none) (fun x8 =>
(cnd (((!x8.2.2.2) && (!x6.2.2)) || (x6.2.2 && (!(x6.1 == 0))))
(.done (some false))
(cnd (x6.1 == 3)
(elimO (idx x.2.2 x5.1) (.done none) (fun x9 =>
(cnd x9.1
(elimO (idx x.2.2 x5.1) (.done none) (fun x10 =>
(cnd x10.2.1
(elimO (idx x.2.2 x5.1) (.done none) (fun x11 =>
(cnd x11.2.2.1
(elimO (idx x.2.2 x5.1) (.done none) (fun x12 =>
(cnd (!x12.2.2.2)
(.done (some false))
(cnd (x6.1 == 2)
(elimO (idx x.2.2 x5.1) (.done none) (fun x13 =>
(cnd x13.2.1
(elimO (idx x.2.2 x5.1) (.done none) (fun x14 =>
(cnd (!x14.2.2.2)
(.done (some false))
(cnd (x6.2.2 && (!x5.2.2.2))
(elimO (idx x.2.2 x5.1) (.done none) (fun x15 =>
(cnd x15.2.2.2
(.done (some false))
(.next ((wr .i64 (x5.1 + 1)), x6)))))
(.next ((wr .i64 (x5.1 + 1)), x6))))))
(.done (some false)))))
(cnd (x6.2.2 && (!x5.2.2.2))
(elimO (idx x.2.2 x5.1) (.done none) (fun x13 =>
(cnd x13.2.2.2
(.done (some false))
(.next ((wr .i64 (x5.1 + 1)), x6)))))
(.next ((wr .i64 (x5.1 + 1)), x6)))))))
(.done (some false)))))
(.done (some false)))))
(.done (some false)))))
(cnd (x6.1 == 2)
(elimO (idx x.2.2 x5.1) (.done none) (fun x9 =>
(cnd x9.2.1
(elimO (idx x.2.2 x5.1) (.done none) (fun x10 =>
(cnd (!x10.2.2.2)
(.done (some false))
(cnd (x6.2.2 && (!x5.2.2.2))
(elimO (idx x.2.2 x5.1) (.done none) (fun x11 =>
(cnd x11.2.2.2
(.done (some false))
(.next ((wr .i64 (x5.1 + 1)), x6)))))
(.next ((wr .i64 (x5.1 + 1)), x6))))))
(.done (some false)))))
(cnd (x6.2.2 && (!x5.2.2.2))
(elimO (idx x.2.2 x5.1) (.done none) (fun x9 =>
(cnd x9.2.2.2
(.done (some false))
(.next ((wr .i64 (x5.1 + 1)), x6)))))
(.next ((wr .i64 (x5.1 + 1)), x6)))))))))))))))
(.done (some x1)))) lots (0, x.2.1)))))))))))))))

/-- stoplinelaw22.LadderUp -/
def law22_LadderUp_t (x : PSSite × Int × List PSFacts) : Option (Bool) :=
(elimO (law22_alive_t ()) none (fun x1 =>
(cnd (!x1)
(some false)
(elimO (ref05_Great_t x.1) none (fun x2 =>
(cnd ((x2 || (decide (300 < (llen x.2.2)))) || (decide (3 < x.2.1)))
(some x1)
(elimO (site_Check_t x.1) none (fun x3 =>
(cnd (!(x3 == 0))
(some x1)
(elimO (ladder_Run_t (x.1, ((x.2.1, (0, false)), x.2.2))) none (fun x4 =>
(cnd ((!(x4.2 == 0)) || (!((llen x4.1) == (llen x.2.2))))
(some false)
(iter none (fun x5 =>
(cnd (decide (x5.2.1 < (llen x.2.2)))
(elimO (idx x.2.2 x5.2.1) (.done none) (fun x6 =>
(letK (ladder_May (x5.2.2, x6)) (fun y =>
(cnd (decide (x5.2.2.1 < y))
(elimO (idx x4.1 x5.2.1) (.done none) (fun x7 =>
(cnd (!((decide (x5.2.2.1 < x7.1)) == (decide (x.1.2.2.2.2.2.2.2.2.1 ≤ (wr .i64 (x5.1 + 1))))))
(.done (some false))
(elimO (idx x4.1 x5.2.1) (.done none) (fun x8 =>
(cnd (decide (x5.2.2.1 < x8.1))
(elimO (idx x4.1 x5.2.1) (.done none) (fun x9 =>
(cnd (!(x9.1 == (wr .u8 (x5.2.2.1 + 1))))
(.done (some false))
(elimO (idx x4.1 x5.2.1) (.done none) (fun x10 =>
(cnd (!(x10.1 == x5.2.2.1))
(elimO (idx x4.1 x5.2.1) (.done none) (fun x11 =>
(cnd (!(x11.2.1 == 0))
(.done (some false))
(elimO (idx x4.1 x5.2.1) (.done none) (fun x12 =>
(.next (0, ((wr .i64 (x5.2.1 + 1)), x12))))))))
(elimO (idx x4.1 x5.2.1) (.done none) (fun x11 =>
(cnd (!(x11.2.1 == (wr .i64 (x5.1 + 1))))
(.done (some false))
(elimO (idx x4.1 x5.2.1) (.done none) (fun x12 =>
(.next ((wr .i64 (x5.1 + 1)), ((wr .i64 (x5.2.1 + 1)), x12))))))))))))))
(elimO (idx x4.1 x5.2.1) (.done none) (fun x9 =>
(cnd (!(x9.1 == x5.2.2.1))
(elimO (idx x4.1 x5.2.1) (.done none) (fun x10 =>
(cnd (!(x10.2.1 == 0))
(.done (some false))
(elimO (idx x4.1 x5.2.1) (.done none) (fun x11 =>
(.next (0, ((wr .i64 (x5.2.1 + 1)), x11))))))))
(elimO (idx x4.1 x5.2.1) (.done none) (fun x10 =>
(cnd (!(x10.2.1 == (wr .i64 (x5.1 + 1))))
(.done (some false))
(elimO (idx x4.1 x5.2.1) (.done none) (fun x11 =>
(.next ((wr .i64 (x5.1 + 1)), ((wr .i64 (x5.2.1 + 1)), x11)))))))))))))))))
(elimO (idx x4.1 x5.2.1) (.done none) (fun x7 =>
(cnd (!((decide (x5.2.2.1 < x7.1)) == (decide (x.1.2.2.2.2.2.2.2.2.1 ≤ 0))))
(.done (some false))
(elimO (idx x4.1 x5.2.1) (.done none) (fun x8 =>
(cnd (decide (x5.2.2.1 < x8.1))
(elimO (idx x4.1 x5.2.1) (.done none) (fun x9 =>
(cnd (!(x9.1 == (wr .u8 (x5.2.2.1 + 1))))
(.done (some false))
(elimO (idx x4.1 x5.2.1) (.done none) (fun x10 =>
(cnd (!(x10.1 == x5.2.2.1))
(elimO (idx x4.1 x5.2.1) (.done none) (fun x11 =>
(cnd (!(x11.2.1 == 0))
(.done (some false))
(elimO (idx x4.1 x5.2.1) (.done none) (fun x12 =>
(.next (0, ((wr .i64 (x5.2.1 + 1)), x12))))))))
(elimO (idx x4.1 x5.2.1) (.done none) (fun x11 =>
(cnd (!(x11.2.1 == 0))
(.done (some false))
(elimO (idx x4.1 x5.2.1) (.done none) (fun x12 =>
(.next (0, ((wr .i64 (x5.2.1 + 1)), x12))))))))))))))
(elimO (idx x4.1 x5.2.1) (.done none) (fun x9 =>
(cnd (!(x9.1 == x5.2.2.1))
(elimO (idx x4.1 x5.2.1) (.done none) (fun x10 =>
(cnd (!(x10.2.1 == 0))
(.done (some false))
(elimO (idx x4.1 x5.2.1) (.done none) (fun x11 =>
(.next (0, ((wr .i64 (x5.2.1 + 1)), x11))))))))
(elimO (idx x4.1 x5.2.1) (.done none) (fun x10 =>
(cnd (!(x10.2.1 == 0))
(.done (some false))
(elimO (idx x4.1 x5.2.1) (.done none) (fun x11 =>
(.next (0, ((wr .i64 (x5.2.1 + 1)), x11))))))))))))))))))))))
(.done (some x1)))) lots (0, (0, (x.2.1, (0, false)))))))))))))))))

/-- stoplinelaw22.LadderReaches -/
def law22_LadderReaches_t (x : PSSite × PSRung × PSFacts) : Option (Bool) :=
(elimO (law22_alive_t ()) none (fun x1 =>
(cnd (!x1)
(some false)
(elimO (ref05_Great_t x.1) none (fun x2 =>
(cnd x2
(some x1)
(elimO (site_Check_t x.1) none (fun x3 =>
(cnd (((!(x3 == 0)) || (decide (60 < x.1.2.2.2.2.2.2.2.2.1))) || x.2.1.2.2)
(some x1)
(cnd ((decide (0 ≤ (wr .i64 ((wr .i64 (3 * x.1.2.2.2.2.2.2.2.2.1)) + 2)))) && ((decide ((wr .i64 ((wr .i64 (3 * x.1.2.2.2.2.2.2.2.2.1)) + 2)) ≤ (wr .i64 ((wr .i64 (3 * x.1.2.2.2.2.2.2.2.2.1)) + 2)))) && (makeOK (wr .i64 ((wr .i64 (3 * x.1.2.2.2.2.2.2.2.2.1)) + 2)) 4)))
(iter none (fun x4 =>
(cnd (decide (x4.1 < (llen x4.2)))
(elimO (idx x4.2 x4.1) (.done none) (fun _ =>
(elimO (idx x4.2 x4.1) (.done none) (fun _ =>
(.next ((wr .i64 (x4.1 + 1)), (lset x4.2 x4.1 x.2.2)))))))
(.done (elimO (ladder_Run_t (x.1, (x.2.1, x4.2))) none (fun x5 =>
(cnd (!(x5.2 == 0))
(some (x1 && ((llen x5.1) == 0)))
(letK (ladder_May ((0, (0, false)), x.2.2)) (fun y =>
(iter none (fun x6 =>
(cnd (decide (x6 < (llen x5.1)))
(elimO (idx x5.1 x6) (.done none) (fun x7 =>
(cnd (!(x7.1 == y))
(.done (some false))
(.next (wr .i64 (x6 + 1))))))
(.done (some (x1 && ((llen x5.1) == (llen x4.2))))))) lots (wr .i64 ((wr .i64 (3 * x.1.2.2.2.2.2.2.2.2.1)) - 1))))))))))) lots (0, (lrep (wr .i64 ((wr .i64 (3 * x.1.2.2.2.2.2.2.2.2.1)) + 2)) (false, (false, (false, false))))))
 none))))))))))

/-- ladder.First -/
def ladder_First_t (x : Int) : Option (PSRung) :=
(cnd ((x == 2) || (x == 3))
(some (2, (0, false)))
(some (1, (0, false))))
def ladder_First (x : Int) : PSRung :=
(cnd ((x == 2) || (x == 3))
((2, (0, false)))
((1, (0, false))))
theorem ladder_First_e (x : Int) : ladder_First_t x = some (ladder_First x) := by
  unfold ladder_First_t ladder_First
  simp only [cnd_some]

/-- ladder.Next -/
def ladder_Next_t (x : PSSite × PSRung × PSFacts) : Option (PSRung × Int) :=
(elimO (ladder_asked_t (x.1, x.2.1)) none (fun x1 =>
(cnd (!(x1 == 0))
(some ((0, (0, false)), x1))
(letK (ladder_step x) (fun y =>
(some (y, 0)))))))

/-- stoplinelaw22.LadderFirst -/
def law22_LadderFirst_t (x : PSSite × Int × PSFacts) : Option (Bool) :=
(elimO (law22_alive_t ()) none (fun x1 =>
(cnd (!x1)
(some false)
(letK (ladder_First x.2.1) (fun y =>
(cnd ((((decide (y.1 < 1)) || (decide (2 < y.1))) || (!(y.2.1 == 0))) || y.2.2)
(some false)
(elimO (ref05_Great_t x.1) none (fun x2 =>
(cnd x2
(some x1)
(elimO (site_Check_t x.1) none (fun x3 =>
(cnd (!(x3 == 0))
(some x1)
(elimO (ladder_Next_t (x.1, (y, x.2.2))) none (fun x4 =>
(some ((x1 && (x4.2 == 0)) && ((x.1.2.2.2.2.2.2.2.2.1 == 1) || (decide (x4.1.1 < 3)))))))))))))))))))

/-- stoplinelaw22.LadderNames -/
def law22_LadderNames_t (_ : Unit) : Option (Bool) :=
(letK (law22_two ()) (fun y =>
(letK (law22_all ()) (fun y1 =>
(letK (law22_all ()) (fun y2 =>
(letK (law22_all ()) (fun y3 =>
(elimO (ladder_Next_t (y, ((3, (0, false)), (false, y1.2)))) none (fun _ =>
(elimO (ladder_Next_t (y, ((3, (0, false)), (y2.1, (false, y2.2.2))))) none (fun _ =>
(elimO (ladder_Next_t (y, ((3, (0, false)), (y3.1, (y3.2.1, (y3.2.2.1, false)))))) none (fun _ =>
(letK (law22_all ()) (fun y4 =>
(elimO (ladder_Next_t (y, ((0, (0, false)), y4))) none (fun _ =>
(letK (law22_all ()) (fun y5 =>
(elimO (ladder_Next_t (y, ((4, (0, false)), y5))) none (fun _ =>
(letK (law22_all ()) (fun y6 =>
(elimO (ladder_Next_t ((0, ([], ([], ([], ([], ([], (0, (0, (0, (0, (0, []))))))))))), ((0, (0, false)), y6))) none (fun _ =>
(cnd ((decide (0 ≤ 4097)) && ((decide (4097 ≤ 4097)) && (makeOK 4097 4)))
(elimO (ladder_Run_t (y, ((0, (0, false)), (lrep 4097 (false, (false, (false, false))))))) none (fun _ =>
 none))
 none)))))))))))))))))))))))))))

/-- stoplineref05.in -/
def ref05_in_t (x : Int × Int × Int) : Option (Bool) :=
(some ((decide (x.2.1 ≤ x.1)) && (decide (x.1 ≤ x.2.2))))
def ref05_in (x : Int × Int × Int) : Bool :=
(((decide (x.2.1 ≤ x.1)) && (decide (x.1 ≤ x.2.2))))
theorem ref05_in_e (x : Int × Int × Int) : ref05_in_t x = some (ref05_in x) := by
  unfold ref05_in_t ref05_in
  rfl

/-- stoplineref02.Has -/
def ref02_Has_t (x : Int × Int) : Option (Bool) :=
(cnd ((decide (0 ≤ x.2)) && (decide (x.2 < 32)))
(cnd (!(2 == 0))
(some ((irem (shrop Go.IntKind.u32 x.1 (wr .u64 x.2)) 2) == 1))
 none)
(some false))
def ref02_Has (x : Int × Int) : Bool := cnd ((decide (0 ≤ x.2)) && (decide (x.2 < 32))) ((irem (shrop Go.IntKind.u32 x.1 (wr .u64 x.2)) 2) == 1) false
theorem ref02_Has_e (x : Int × Int) (_ : FitsAll [U32, I64] x) : ref02_Has_t x = some (ref02_Has x) := by
  unfold ref02_Has_t ref02_Has
  cases (decide (0 ≤ x.2)) && (decide (x.2 < 32)) <;> rfl

/-- stoplineref05.Apart -/
def ref05_Apart_t (x : PSSite × Int × Int) : Option (Bool) :=
(elimO (idx x.1.2.2.1 x.2.1) none (fun x1 =>
(letK (ref02_Has (x1, x.2.2)) (fun y =>
(some y)))))

/-- stoplineref05.groups -/
def ref05_groups_t (x : PSSite) : Option (Bool) :=
(letK (ref05_in (x.1, (0, 65535))) (fun y =>
(cnd ((((!y) || (!(ref05_in ((llen x.2.1), (1, 16))))) || (!((llen x.2.2.1) == (llen x.2.1)))) || (!((llen x.2.2.2.1) == (llen x.2.1))))
(some false)
(iter none (fun x1 =>
(cnd (decide (x1 < (llen x.2.1)))
(elimO (idx x.2.1 x1) (.done none) (fun x2 =>
(cnd ((((!(x2.1 == 1)) && (!(x2.1 == 2))) || (!(ref05_in (x2.2.1, (1, 1048576))))) || (!(ref05_in (x2.2.2, (1, 1048576)))))
(.done (some false))
(elimO (idx x.2.2.2.1 x1) (.done none) (fun x3 =>
(cnd (!((llen x3) == (llen x.2.1)))
(.done (some false))
(elimO (idx x.2.2.1 x1) (.done none) (fun x4 =>
(cnd (decide ((shlop Go.IntKind.u32 1 (wr .u64 (llen x.2.1))) ≤ x4))
(.done (some false))
(.next (wr .i64 (x1 + 1))))))))))))
(.done (iter none (fun x2 =>
(cnd (decide (x2 < (llen x.2.1)))
(iter (.done none) (fun x3 =>
(cnd (decide (x3 < (llen x.2.1)))
(elimO (ref05_Apart_t (x, (x2, x3))) (.done (.done none)) (fun x4 =>
(elimO (ref05_Apart_t (x, (x3, x2))) (.done (.done none)) (fun x5 =>
(cnd (!(x4 == x5))
(.done (.done (some false)))
(cnd (x2 == x3)
(elimO (ref05_Apart_t (x, (x2, x3))) (.done (.done none)) (fun x6 =>
(cnd x6
(.done (.done (some false)))
(elimO (ref05_Apart_t (x, (x2, x3))) (.done (.done none)) (fun x7 =>
(cnd x7
(elimO (idx x.2.2.2.1 x2) (.done (.done none)) (fun x8 =>
(elimO (idx x8 x3) (.done (.done none)) (fun x9 =>
(elimO (idx x.2.1 x2) (.done (.done none)) (fun x10 =>
(letK (ref05_in (x9, (x10.2.2, 1048576))) (fun y1 =>
(cnd (!y1)
(.done (.done (some false)))
(elimO (ref05_Apart_t (x, (x2, x3))) (.done (.done none)) (fun x11 =>
(cnd (!x11)
(elimO (idx x.2.2.2.1 x2) (.done (.done none)) (fun x12 =>
(elimO (idx x12 x3) (.done (.done none)) (fun x13 =>
(cnd (!(x13 == 0))
(.done (.done (some false)))
(.next (wr .i64 (x3 + 1))))))))
(.next (wr .i64 (x3 + 1)))))))))))))))
(elimO (ref05_Apart_t (x, (x2, x3))) (.done (.done none)) (fun x8 =>
(cnd (!x8)
(elimO (idx x.2.2.2.1 x2) (.done (.done none)) (fun x9 =>
(elimO (idx x9 x3) (.done (.done none)) (fun x10 =>
(cnd (!(x10 == 0))
(.done (.done (some false)))
(.next (wr .i64 (x3 + 1))))))))
(.next (wr .i64 (x3 + 1))))))))))))
(elimO (ref05_Apart_t (x, (x2, x3))) (.done (.done none)) (fun x6 =>
(cnd x6
(elimO (idx x.2.2.2.1 x2) (.done (.done none)) (fun x7 =>
(elimO (idx x7 x3) (.done (.done none)) (fun x8 =>
(elimO (idx x.2.1 x2) (.done (.done none)) (fun x9 =>
(letK (ref05_in (x8, (x9.2.2, 1048576))) (fun y1 =>
(cnd (!y1)
(.done (.done (some false)))
(elimO (ref05_Apart_t (x, (x2, x3))) (.done (.done none)) (fun x10 =>
(cnd (!x10)
(elimO (idx x.2.2.2.1 x2) (.done (.done none)) (fun x11 =>
(elimO (idx x11 x3) (.done (.done none)) (fun x12 =>
(cnd (!(x12 == 0))
(.done (.done (some false)))
(.next (wr .i64 (x3 + 1))))))))
(.next (wr .i64 (x3 + 1)))))))))))))))
(elimO (ref05_Apart_t (x, (x2, x3))) (.done (.done none)) (fun x7 =>
(cnd (!x7)
(elimO (idx x.2.2.2.1 x2) (.done (.done none)) (fun x8 =>
(elimO (idx x8 x3) (.done (.done none)) (fun x9 =>
(cnd (!(x9 == 0))
(.done (.done (some false)))
(.next (wr .i64 (x3 + 1))))))))
(.next (wr .i64 (x3 + 1)))))))))))))))
(.done (.next (wr .i64 (x2 + 1)))))) lots 0)
(.done (some true)))) lots 0)))) lots 0))))

/-- stoplineref02.With -/
def ref02_With_t (x : Int × Int) : Option (Int) :=
(cnd (((decide (x.2 < 0)) || (decide (31 < x.2))) || (ref02_Has x))
(some x.1)
(some (wr .u32 (x.1 + (shlop Go.IntKind.u32 1 (wr .u64 x.2))))))
def ref02_With (x : Int × Int) : Int :=
(cnd (((decide (x.2 < 0)) || (decide (31 < x.2))) || (ref02_Has x))
(x.1)
((wr .u32 (x.1 + (shlop Go.IntKind.u32 1 (wr .u64 x.2))))))
theorem ref02_With_e (x : Int × Int) : ref02_With_t x = some (ref02_With x) := by
  unfold ref02_With_t ref02_With
  simp only [cnd_some]

/-- stoplineref02.Count -/
def ref02_Count_t (x : Int) : Option (Int) :=
(iter none (fun x1 =>
(cnd (decide (x1.2 < 32))
(letK (ref02_Has (x, x1.2)) (fun y =>
(cnd y
(.next ((wr .i64 (x1.1 + 1)), (wr .i64 (x1.2 + 1))))
(.next (x1.1, (wr .i64 (x1.2 + 1)))))))
(.done (some x1.1)))) lots (0, 0))

/-- stoplineref05.phases -/
def ref05_phases_t (x : PSSite) : Option (Bool) :=
(letK (ref05_in ((llen x.2.2.2.2.1), (1, 8))) (fun y =>
(cnd (!y)
(some false)
(iter none (fun x1 =>
(cnd (decide (x1.2 < (llen x.2.2.2.2.1)))
(elimO (idx x.2.2.2.2.1 x1.2) (.done none) (fun x2 =>
(cnd ((x2.1 == 0) || (decide ((shlop Go.IntKind.u32 1 (wr .u64 (llen x.2.1))) ≤ x2.1)))
(.done (some false))
(iter (.done none) (fun x3 =>
(cnd (decide (x3.2.2 < (llen x.2.1)))
(letK (ref02_Has (x2.1, x3.2.2)) (fun y1 =>
(cnd (!y1)
(.next (x3.1, (x3.2.1, (wr .i64 (x3.2.2 + 1)))))
(letK (ref02_With (x3.1, x3.2.2)) (fun y2 =>
(elimO (idx x.2.1 x3.2.2) (.done (.done none)) (fun x4 =>
(iter (.done (.done none)) (fun x5 =>
(cnd (decide (x5 < (llen x.2.1)))
(letK (ref02_Has (x2.1, x5)) (fun y3 =>
(cnd y3
(elimO (ref05_Apart_t (x, (x3.2.2, x5))) (.done (.done (.done none))) (fun x6 =>
(cnd x6
(.done (.done (.done (some false))))
(.next (wr .i64 (x5 + 1))))))
(.next (wr .i64 (x5 + 1))))))
(.done (.next (y2, ((gmax x3.2.1 x4.2.1), (wr .i64 (x3.2.2 + 1)))))))) lots 0))))))))
(.done (letK (ref05_in (x2.2.1, (x3.2.1, 1048576))) (fun y1 =>
(cnd (((!y1) || (!(ref05_in (x2.2.2.1, (x2.2.1, 1048576))))) || (!(ref05_in (x2.2.2.2.1, (1, 1048576)))))
(.done (some false))
(.next (x3.1, (wr .i64 (x1.2 + 1)))))))))) lots (x1.1, (1, 0))))))
(.done (elimO (ref02_Count_t x1.1) none (fun x2 =>
(some (x2 == (llen x.2.1)))))))) lots (0, 0)))))

/-- stoplineref05.Clear -/
def ref05_Clear_t (x : PSSite × Int × Int) : Option (Int) :=
(iter none (fun x1 =>
(cnd (decide (x1.2 < (llen x.1.2.1)))
(iter (.done none) (fun x2 =>
(cnd (decide (x2.2 < (llen x.1.2.1)))
(elimO (idx x.1.2.2.2.2.1 x.2.1) (.done (.done none)) (fun x3 =>
(letK (ref02_Has (x3.1, x1.2)) (fun y =>
(cnd y
(elimO (idx x.1.2.2.2.2.1 x.2.2) (.done (.done none)) (fun x4 =>
(letK (ref02_Has (x4.1, x2.2)) (fun y1 =>
(cnd y1
(elimO (ref05_Apart_t (x.1, (x1.2, x2.2))) (.done (.done none)) (fun x5 =>
(cnd x5
(elimO (idx x.1.2.2.2.1 x1.2) (.done (.done none)) (fun x6 =>
(elimO (idx x6 x2.2) (.done (.done none)) (fun x7 =>
(.next ((gmax x2.1 x7), (wr .i64 (x2.2 + 1))))))))
(.next (x2.1, (wr .i64 (x2.2 + 1)))))))
(.next (x2.1, (wr .i64 (x2.2 + 1)))))))))
(.next (x2.1, (wr .i64 (x2.2 + 1)))))))))
(.done (.next (x2.1, (wr .i64 (x1.2 + 1))))))) lots (x1.1, 0))
(.done (some x1.1)))) lots (0, 0))

/-- stoplineref05.needs -/
def ref05_needs_t (x : PSSite × Int) : Option (Int) :=
(elimO (idx x.1.2.2.2.2.1 x.2) none (fun x1 =>
(cnd (!((llen x.1.2.2.2.2.1) == 0))
(elimO (ref05_Clear_t (x.1, (x.2, (irem (wr .i64 (x.2 + 1)) (llen x.1.2.2.2.2.1))))) none (fun x2 =>
(some (wr .i64 (x1.2.1 + x2)))))
 none)))

/-- stoplineref05.Round -/
def ref05_Round_t (x : PSSite) : Option (Int) :=
(iter none (fun x1 =>
(cnd (decide (x1.2 < (llen x.2.2.2.2.1)))
(elimO (ref05_needs_t (x, x1.2)) (.done none) (fun x2 =>
(.next ((wr .i64 (x1.1 + x2)), (wr .i64 (x1.2 + 1))))))
(.done (some x1.1)))) lots (0, 0))

/-- stoplineref05.PlanMay -/
def ref05_PlanMay_t (x : PSSite × PSPlan) : Option (Bool) :=
(letK (ref05_in (x.2.1, (x.1.2.2.2.2.2.2.2.2.2.1, x.1.2.2.2.2.2.2.2.2.2.2.1))) (fun y =>
(cnd (((!y) || (!(ref05_in (x.2.2.1, (0, (wr .i64 (x.2.1 - 1))))))) || (!((llen x.2.2.2) == (llen x.1.2.2.2.2.1))))
(some false)
(iter none (fun x1 =>
(cnd (decide (x1.2 < (llen x.2.2.2)))
(elimO (idx x.2.2.2 x1.2) (.done none) (fun x2 =>
(elimO (ref05_needs_t (x.1, x1.2)) (.done none) (fun x3 =>
(letK (ref05_in (x2, (x3, x1.1))) (fun y1 =>
(cnd (!y1)
(.done (some false))
(elimO (idx x.2.2.2 x1.2) (.done none) (fun x4 =>
(.next ((wr .i64 (x1.1 - x4)), (wr .i64 (x1.2 + 1)))))))))))))
(.done (some (x1.1 == 0))))) lots (x.2.1, 0)))))

/-- stoplineref05.Check -/
def ref05_Check_t (x : PSSite) : Option (Int) :=
(elimO (ref05_groups_t x) none (fun x1 =>
(cnd (!x1)
(some 50)
(elimO (ref05_phases_t x) none (fun x2 =>
(cnd (((!x2) || (decide (24 < (llen x.2.2.2.2.2.1)))) || (decide (8 < (llen x.2.2.2.2.2.2.2.2.2.2.2))))
(some 50)
(iter none (fun x3 =>
(cnd (decide (x3 < (llen x.2.2.2.2.2.1)))
(elimO (idx x.2.2.2.2.2.1 x3) (.done none) (fun x4 =>
(letK (ref05_in (x4.1, (0, (wr .i64 ((llen x.2.2.2.2.1) - 1))))) (fun y =>
(cnd ((((!y) || (!(ref05_in (x4.2.1, (1, 1048576))))) || (!(ref05_in (x4.2.2.1, (1, 1048576))))) || (!(ref05_in (x4.2.2.2, (1, 64)))))
(.done (some 50))
(.next (wr .i64 (x3 + 1))))))))
(.done (letK (ref05_in (x.2.2.2.2.2.2.1, (1, 1048576))) (fun y =>
(cnd (((!y) || (!(ref05_in (x.2.2.2.2.2.2.2.1, (1, 1048576))))) || (!(ref05_in (x.2.2.2.2.2.2.2.2.1, (1, 1048576)))))
(some 50)
(elimO (ref05_Round_t x) none (fun x4 =>
(letK (ref05_in (x.2.2.2.2.2.2.2.2.2.1, (x4, 1048576))) (fun y1 =>
(cnd ((!y1) || (!(ref05_in (x.2.2.2.2.2.2.2.2.2.2.1, (x.2.2.2.2.2.2.2.2.2.1, 1048576)))))
(some 50)
(iter none (fun x5 =>
(cnd (decide (x5 < (llen x.2.2.2.2.2.2.2.2.2.2.2)))
(elimO (idx x.2.2.2.2.2.2.2.2.2.2.2 x5) (.done none) (fun x6 =>
(elimO (ref05_PlanMay_t (x, x6)) (.done none) (fun x7 =>
(cnd (!x7)
(.done (some 50))
(.next (wr .i64 (x5 + 1))))))))
(.done (some 0)))) lots 0)))))))))))) lots 0)))))))

/-- stoplineref22.RungMay -/
def ref22_RungMay_t (x : PSRung) : Option (Bool) :=
(cnd (((decide (3 < x.1)) || (decide (x.2.1 < 0))) || (decide (1048576 < x.2.1)))
(some false)
(some ((!x.2.2) || ((x.1 == 0) && (x.2.1 == 0)))))
def ref22_RungMay (x : PSRung) : Bool :=
(cnd (((decide (3 < x.1)) || (decide (x.2.1 < 0))) || (decide (1048576 < x.2.1)))
(false)
(((!x.2.2) || ((x.1 == 0) && (x.2.1 == 0)))))
theorem ref22_RungMay_e (x : PSRung) : ref22_RungMay_t x = some (ref22_RungMay x) := by
  unfold ref22_RungMay_t ref22_RungMay
  simp only [cnd_some]

/-- stoplineref22.May -/
def ref22_May_t (x : PSRung × PSFacts) : Option (Int) :=
(cnd (x.1.2.2 || (!x.2.2.2.2))
(some 0)
(cnd ((x.2.1 && x.2.2.1) && x.2.2.2.1)
(some 3)
(cnd x.2.2.1
(some 2)
(some 1))))
def ref22_May (x : PSRung × PSFacts) : Int :=
(cnd (x.1.2.2 || (!x.2.2.2.2))
(0)
(cnd ((x.2.1 && x.2.2.1) && x.2.2.2.1)
(3)
(cnd x.2.2.1
(2)
(1))))
theorem ref22_May_e (x : PSRung × PSFacts) : ref22_May_t x = some (ref22_May x) := by
  unfold ref22_May_t ref22_May
  simp only [cnd_some]

/-- stoplineref22.step -/
def ref22_step_t (x : PSSite × PSRung × PSFacts) : Option (PSRung) :=
(cnd (x.2.1.2.2 || (!x.2.2.2.2.2))
(some (0, (0, true)))
(letK (ref22_May x.2) (fun y =>
(cnd (decide (y < x.2.1.1))
(some (y, (0, false)))
(cnd (y == x.2.1.1)
(some (x.2.1.1, (0, false)))
(cnd (decide (x.1.2.2.2.2.2.2.2.2.1 ≤ (wr .i64 (x.2.1.2.1 + 1))))
(some ((wr .u8 (x.2.1.1 + 1)), (0, false)))
(some (x.2.1.1, ((wr .i64 (x.2.1.2.1 + 1)), false)))))))))
def ref22_step (x : PSSite × PSRung × PSFacts) : PSRung :=
(cnd (x.2.1.2.2 || (!x.2.2.2.2.2))
((0, (0, true)))
(letK (ref22_May x.2) (fun y =>
(cnd (decide (y < x.2.1.1))
((y, (0, false)))
(cnd (y == x.2.1.1)
((x.2.1.1, (0, false)))
(cnd (decide (x.1.2.2.2.2.2.2.2.2.1 ≤ (wr .i64 (x.2.1.2.1 + 1))))
(((wr .u8 (x.2.1.1 + 1)), (0, false)))
((x.2.1.1, ((wr .i64 (x.2.1.2.1 + 1)), false)))))))))
theorem ref22_step_e (x : PSSite × PSRung × PSFacts) : ref22_step_t x = some (ref22_step x) := by
  unfold ref22_step_t ref22_step
  simp only [letK, cnd_some]

/-- stoplineref22.Next -/
def ref22_Next_t (x : PSSite × PSRung × PSFacts) : Option (PSRung × Int) :=
(elimO (ref05_Check_t x.1) none (fun x1 =>
(cnd (!(x1 == 0))
(some ((0, (0, false)), x1))
(letK (ref22_RungMay x.2.1) (fun y =>
(cnd (!y)
(some ((0, (0, false)), 8))
(letK (ref22_step x) (fun y1 =>
(some (y1, 0))))))))))

/-- stoplineref22.Run -/
def ref22_Run_t (x : PSSite × PSRung × List PSFacts) : Option (List PSRung × Int) :=
(elimO (ref05_Check_t x.1) none (fun x1 =>
(cnd (!(x1 == 0))
(some ([], x1))
(letK (ref22_RungMay x.2.1) (fun y =>
(cnd (!y)
(some ([], 8))
(cnd (decide (4096 < (llen x.2.2)))
(some ([], 4))
(iter none (fun x2 =>
(cnd (decide (x2.2.1 < (llen x.2.2)))
(elimO (idx x.2.2 x2.2.1) (.done none) (fun x3 =>
(letK (ref22_step (x.1, (x2.2.2, x3))) (fun y1 =>
(cnd (true && roomOK ((llen x2.1) + (llen (y1 :: []))) 24)
(.next ((x2.1 ++ (y1 :: [])), ((wr .i64 (x2.2.1 + 1)), y1)))
(.done none))))))
(.done (some (x2.1, 0))))) lots ([], (0, x.2.1))))))))))

/-- stoplineref22.Same -/
def ref22_Same_t (x : List PSRung × List PSRung) : Option (Bool) :=
(cnd (!((llen x.1) == (llen x.2)))
(some false)
(iter none (fun x1 =>
(cnd (decide (x1 < (llen x.1)))
(elimO (idx x.1 x1) (.done none) (fun x2 =>
(elimO (idx x.2 x1) (.done none) (fun x3 =>
(cnd (!((x2.1 == x3.1) && ((x2.2.1 == x3.2.1) && ((x2.2.2 == x3.2.2) && true))))
(.done (some false))
(.next (wr .i64 (x1 + 1))))))))
(.done (some true)))) lots 0))

/-- stoplineref22.First -/
def ref22_First_t (x : Int) : Option (PSRung) :=
(cnd ((x == 2) || (x == 3))
(some (2, (0, false)))
(some (1, (0, false))))
def ref22_First (x : Int) : PSRung :=
(cnd ((x == 2) || (x == 3))
((2, (0, false)))
((1, (0, false))))
theorem ref22_First_e (x : Int) : ref22_First_t x = some (ref22_First x) := by
  unfold ref22_First_t ref22_First
  simp only [cnd_some]

/-- stoplinelaw22.LadderSteps -/
def law22_LadderSteps_t (x : PSSite × PSRung × PSFacts × List PSFacts × Int) : Option (Bool) :=
(elimO (ref05_Great_t x.1) none (fun x1 =>
(cnd (x1 || (decide (5000 < (llen x.2.2.2.1))))
(some true)
(cnd (true && roomOK (0 + (llen x.2.2.2.1)) 4)
(elimO (ladder_Next_t (x.1, (x.2.1, x.2.2.1))) none (fun x2 =>
(elimO (ref22_Next_t (x.1, (x.2.1, x.2.2.1))) none (fun x3 =>
(elimO (ladder_Run_t (x.1, (x.2.1, ([] ++ x.2.2.2.1)))) none (fun x4 =>
(elimO (ref22_Run_t (x.1, (x.2.1, x.2.2.2.1))) none (fun x5 =>
(iter none (fun x6 =>
(cnd (decide (x6 < (llen x.2.2.2.1)))
(elimO (idx ([] ++ x.2.2.2.1) x6) (.done none) (fun x7 =>
(elimO (idx x.2.2.2.1 x6) (.done none) (fun x8 =>
(cnd (!((x7.1 == x8.1) && ((x7.2.1 == x8.2.1) && ((x7.2.2.1 == x8.2.2.1) && ((x7.2.2.2 == x8.2.2.2) && true)))))
(.done (some false))
(.next (wr .i64 (x6 + 1))))))))
(.done (cnd (((x2.1.1 == x3.1.1) && ((x2.1.2.1 == x3.1.2.1) && ((x2.1.2.2 == x3.1.2.2) && true))) && (x2.2 == x3.2))
(elimO (ref22_Same_t (x4.1, x5.1)) none (fun x7 =>
(some (((x7 && (x4.2 == x5.2)) && ((ladder_May (x.2.1, x.2.2.1)) == (ref22_May (x.2.1, x.2.2.1)))) && (((ladder_First x.2.2.2.2).1 == (ref22_First x.2.2.2.2).1) && (((ladder_First x.2.2.2.2).2.1 == (ref22_First x.2.2.2.2).2.1) && (((ladder_First x.2.2.2.2).2.2 == (ref22_First x.2.2.2.2).2.2) && true)))))))
(some false))))) lots 0)))))))))
 none))))

/-- stoplinelaw10.two -/
def law10_two_t (_ : Unit) : Option (PSSite) :=
(some (0, (((1, (2, 1)) :: ((1, (2, 1)) :: [])), ((2 :: (1 :: [])), (((0 :: (2 :: [])) :: ((2 :: (0 :: [])) :: [])), (((1, (2, (5, (1, false)))) :: ((2, (2, (5, (1, false)))) :: [])), ([], (3, (2, (4, (8, (20, []))))))))))))
def law10_two (_ : Unit) : PSSite :=
((0, (((1, (2, 1)) :: ((1, (2, 1)) :: [])), ((2 :: (1 :: [])), (((0 :: (2 :: [])) :: ((2 :: (0 :: [])) :: [])), (((1, (2, (5, (1, false)))) :: ((2, (2, (5, (1, false)))) :: [])), ([], (3, (2, (4, (8, (20, []))))))))))))
theorem law10_two_e (x : Unit) : law10_two_t x = some (law10_two x) := by
  unfold law10_two_t law10_two
  rfl

/-- back.counted -/
def back_counted_t (x : PSSite × Int) : Option (Int) :=
(elimO (site_Check_t x.1) none (fun x1 =>
(cnd (!(x1 == 0))
(some x1)
(cnd ((decide (x.2 < 0)) || (decide (1048576 < x.2)))
(some 2)
(some 0)))))

/-- back.lights -/
def back_lights_t (x : PSSite × List Int) : Option (Int) :=
(cnd (!((llen x.2) == (llen x.1.2.1)))
(some 4)
(iter none (fun x1 =>
(cnd (decide (x1 < (llen x.2)))
(elimO (idx x.2 x1) (.done none) (fun x2 =>
(cnd (decide (4 < x2))
(.done (some 2))
(.next (wr .i64 (x1 + 1))))))
(.done (some 0)))) lots 0))

/-- back.wrong -/
def back_wrong_t (x : PSSite × List Int × List Int) : Option (Bool × Int) :=
(iter none (fun x1 =>
(cnd (decide (x1 < (llen (x.2.1 :: (x.2.2 :: [])))))
(elimO (idx (x.2.1 :: (x.2.2 :: [])) x1) (.done none) (fun x2 =>
(cnd ((x1 == 1) && ((llen x2) == 0))
(.next (wr .i64 (x1 + 1)))
(elimO (back_lights_t (x.1, x2)) (.done none) (fun x3 =>
(cnd (!(x3 == 0))
(.done (some (false, x3)))
(.next (wr .i64 (x1 + 1)))))))))
(.done (iter none (fun x2 =>
(cnd (decide (x2 < (llen x.2.2)))
(elimO (idx x.2.2 x2) (.done none) (fun x3 =>
(elimO (idx x.2.1 x2) (.done none) (fun x4 =>
(cnd (!(x4 == x3))
(.done (some (true, 0)))
(.next (wr .i64 (x2 + 1))))))))
(.done (some (false, 0))))) lots 0)))) lots 0)

/-- back.Next -/
def back_Next_t (x : PSSite × Int × List Int × List Int) : Option (Int × Int) :=
(elimO (back_counted_t (x.1, x.2.1)) none (fun x1 =>
(cnd (!(x1 == 0))
(some (0, x1))
(elimO (back_wrong_t (x.1, x.2.2)) none (fun x2 =>
(cnd ((!(x2.2 == 0)) || (!x2.1))
(some (0, x2.2))
(some ((gmin (wr .i64 (x.2.1 + 1)) 1048576), 0))))))))

/-- back.Latches -/
def back_Latches_t (x : PSSite × Int) : Option (Bool × Int) :=
(elimO (back_counted_t x) none (fun x1 =>
(cnd (!(x1 == 0))
(some (false, x1))
(some ((decide (x.1.2.2.2.2.2.2.2.1 ≤ x.2)), 0)))))

/-- stoplinelaw10.alive -/
def law10_alive_t (_ : Unit) : Option (Bool) :=
(letK (law10_two ()) (fun y =>
(elimO (back_Next_t (y, (1, ((1 :: (2 :: [])), (2 :: (2 :: [])))))) none (fun x1 =>
(letK (law10_two ()) (fun y1 =>
(elimO (back_Latches_t (y1, x1.1)) none (fun x2 =>
(some ((((x1.2 == 0) && (x1.1 == 2)) && (x2.2 == 0)) && x2.1))))))))))

/-- stoplinelaw10.BackFeed -/
def law10_BackFeed_t (x : PSSite × List Bool) : Option (Bool) :=
(elimO (law10_alive_t ()) none (fun x1 =>
(cnd (!x1)
(some false)
(elimO (ref05_Great_t x.1) none (fun x2 =>
(cnd (x2 || (decide (200 < (llen x.2))))
(some x1)
(elimO (site_Check_t x.1) none (fun x3 =>
(cnd (!(x3 == 0))
(some x1)
(cnd ((decide (0 ≤ (llen x.1.2.1))) && ((decide ((llen x.1.2.1) ≤ (llen x.1.2.1))) && (makeOK (llen x.1.2.1) 1)))
(cnd ((decide (0 ≤ (llen x.1.2.1))) && ((decide ((llen x.1.2.1) ≤ (llen x.1.2.1))) && (makeOK (llen x.1.2.1) 1)))
(iter none (fun x4 =>
(cnd (decide (x4.1 < (llen x4.2.1)))
(elimO (idx x4.2.1 x4.1) (.done none) (fun _ =>
(elimO (idx x4.2.1 x4.1) (.done none) (fun _ =>
(elimO (idx x4.2.2 x4.1) (.done none) (fun _ =>
(elimO (idx x4.2.2 x4.1) (.done none) (fun _ =>
(.next ((wr .i64 (x4.1 + 1)), ((lset x4.2.1 x4.1 1), (lset x4.2.2 x4.1 1))))))))))))
(.done (elimO (idx x4.2.2 0) none (fun _ =>
(elimO (idx x4.2.2 0) none (fun _ =>
(iter none (fun x7 =>
(cnd (decide (x7.2.2 < (llen x.2)))
(elimO (idx x.2 x7.2.2) (.done none) (fun x8 =>
(cnd (!x8)
(elimO (back_Next_t (x.1, (x7.1, (x4.2.1, x4.2.1)))) (.done none) (fun x9 =>
(elimO (back_Latches_t (x.1, x9.1)) (.done none) (fun x10 =>
(cnd ((((!(x9.2 == 0)) || (!(x10.2 == 0))) || (!(x10.1 == (decide (x.1.2.2.2.2.2.2.2.1 ≤ 0))))) || (!(x9.1 == 0)))
(.done (some false))
(.next (x9.1, (0, (wr .i64 (x7.2.2 + 1))))))))))
(elimO (back_Next_t (x.1, (x7.1, (x4.2.1, (lset x4.2.2 0 2))))) (.done none) (fun x9 =>
(elimO (back_Latches_t (x.1, x9.1)) (.done none) (fun x10 =>
(cnd ((((!(x9.2 == 0)) || (!(x10.2 == 0))) || (!(x10.1 == (decide (x.1.2.2.2.2.2.2.2.1 ≤ (wr .i64 (x7.2.1 + 1))))))) || (!(x9.1 == (wr .i64 (x7.2.1 + 1)))))
(.done (some false))
(.next (x9.1, ((wr .i64 (x7.2.1 + 1)), (wr .i64 (x7.2.2 + 1)))))))))))))
(.done (some x1)))) lots (0, (0, 0)))))))))) lots (0, ((lrep (llen x.1.2.1) 0), (lrep (llen x.1.2.1) 0))))
 none)
 none))))))))))

/-- back.Wrong -/
def back_Wrong_t (x : PSSite × List Int × List Int) : Option (Bool × Int) :=
(elimO (site_Check_t x.1) none (fun x1 =>
(cnd (!(x1 == 0))
(some (false, x1))
(elimO (back_wrong_t x) none (fun x2 =>
(some x2))))))

/-- stoplinelaw10.BackNames -/
def law10_BackNames_t (_ : Unit) : Option (Bool) :=
(letK (law10_two ()) (fun y =>
(elimO (back_Wrong_t (y, ((1 :: (2 :: [])), (1 :: (2 :: []))))) none (fun x1 =>
(elimO (back_Wrong_t (y, ((1 :: (2 :: [])), []))) none (fun x2 =>
(elimO (back_Wrong_t (y, ((1 :: (2 :: [])), (2 :: (2 :: []))))) none (fun x3 =>
(elimO (back_Next_t (y, (0, ((1 :: (2 :: [])), (2 :: (2 :: [])))))) none (fun x4 =>
(elimO (back_Next_t (y, (1, ((1 :: (2 :: [])), (1 :: (2 :: [])))))) none (fun x5 =>
(elimO (back_Latches_t (y, 1)) none (fun x6 =>
(elimO (back_Wrong_t (y, ((1 :: []), []))) none (fun x7 =>
(elimO (back_Wrong_t (y, ((1 :: (5 :: [])), []))) none (fun x8 =>
(elimO (back_Next_t (y, ((-1), ((1 :: (2 :: [])), [])))) none (fun x9 =>
(elimO (back_Wrong_t ((0, ([], ([], ([], ([], ([], (0, (0, (0, (0, (0, []))))))))))), ([], []))) none (fun x10 =>
(elimO (law10_alive_t ()) none (fun x11 =>
(some ((((((((((((((((x11 && (!x1.1)) && (x1.2 == 0)) && (!x2.1)) && (x2.2 == 0)) && x3.1) && (x3.2 == 0)) && (x4.1 == 1)) && (x4.2 == 0)) && (x5.1 == 0)) && (x5.2 == 0)) && (!x6.1)) && (x6.2 == 0)) && (x7.2 == 4)) && (x8.2 == 2)) && (x9.2 == 2)) && (x10.2 == 50)))))))))))))))))))))))))))

/-- stoplinelaw10.BackRight -/
def law10_BackRight_t (x : PSSite × Int × List Int × Int × Int) : Option (Bool) :=
(elimO (law10_alive_t ()) none (fun x1 =>
(cnd (!x1)
(some false)
(elimO (ref05_Great_t x.1) none (fun x2 =>
(cnd (x2 || (decide (100 < (llen x.2.2.1))))
(some x1)
(elimO (site_Check_t x.1) none (fun x3 =>
(cnd (((!(x3 == 0)) || (decide (x.2.1 < 0))) || (decide (1048576 < x.2.1)))
(some x1)
(elimO (back_Wrong_t (x.1, (x.2.2.1, x.2.2.1))) none (fun x4 =>
(elimO (back_Next_t (x.1, (x.2.1, (x.2.2.1, [])))) none (fun x5 =>
(cnd ((!(x4.2 == 0)) || (!(x5.2 == 0)))
(some (((x1 && (x4.2 == x5.2)) && (!x4.1)) && (x5.1 == 0)))
(cnd (x4.1 || (!(x5.1 == 0)))
(some false)
(cnd (((decide (x.2.2.2.1 < 0)) || (decide ((llen x.2.2.1) ≤ x.2.2.2.1))) || (decide (4 < x.2.2.2.2)))
(some x1)
(elimO (idx x.2.2.1 x.2.2.2.1) none (fun x6 =>
(cnd (x.2.2.2.2 == x6)
(some x1)
(cnd (true && roomOK (0 + (llen x.2.2.1)) 1)
(elimO (idx ([] ++ x.2.2.1) x.2.2.2.1) none (fun _ =>
(elimO (idx ([] ++ x.2.2.1) x.2.2.2.1) none (fun _ =>
(elimO (back_Wrong_t (x.1, (x.2.2.1, (lset ([] ++ x.2.2.1) x.2.2.2.1 x.2.2.2.2)))) none (fun x9 =>
(elimO (back_Next_t (x.1, (x.2.1, (x.2.2.1, (lset ([] ++ x.2.2.1) x.2.2.2.1 x.2.2.2.2))))) none (fun x10 =>
(some ((((x1 && (x9.2 == 0)) && x9.1) && (x10.2 == 0)) && (x10.1 == (gmin (wr .i64 (x.2.1 + 1)) 1048576))))))))))))
 none))))))))))))))))))))

/-- stoplineref10.lights -/
def ref10_lights_t (x : PSSite × List Int) : Option (Int) :=
(cnd (!((llen x.2) == (llen x.1.2.1)))
(some 4)
(iter none (fun x1 =>
(cnd (decide (x1 < (llen x.2)))
(elimO (idx x.2 x1) (.done none) (fun x2 =>
(cnd (decide (4 < x2))
(.done (some 2))
(.next (wr .i64 (x1 + 1))))))
(.done (some 0)))) lots 0))

/-- stoplineref10.Wrong -/
def ref10_Wrong_t (x : PSSite × List Int × List Int) : Option (Bool × Int) :=
(elimO (ref05_Check_t x.1) none (fun x1 =>
(cnd (x1 == 0)
(elimO (ref10_lights_t (x.1, x.2.1)) none (fun x2 =>
(cnd ((x2 == 0) && (decide (0 < (llen x.2.2))))
(elimO (ref10_lights_t (x.1, x.2.2)) none (fun x3 =>
(cnd (!(x3 == 0))
(some (false, x3))
(iter none (fun x4 =>
(cnd (decide (x4 < (llen x.2.2)))
(elimO (idx x.2.2 x4) (.done none) (fun x5 =>
(elimO (idx x.2.1 x4) (.done none) (fun x6 =>
(cnd (!(x5 == x6))
(.done (some (true, 0)))
(.next (wr .i64 (x4 + 1))))))))
(.done (some (false, 0))))) lots 0))))
(cnd (!(x2 == 0))
(some (false, x2))
(iter none (fun x3 =>
(cnd (decide (x3 < (llen x.2.2)))
(elimO (idx x.2.2 x3) (.done none) (fun x4 =>
(elimO (idx x.2.1 x3) (.done none) (fun x5 =>
(cnd (!(x4 == x5))
(.done (some (true, 0)))
(.next (wr .i64 (x3 + 1))))))))
(.done (some (false, 0))))) lots 0)))))
(cnd ((x1 == 0) && (decide (0 < (llen x.2.2))))
(elimO (ref10_lights_t (x.1, x.2.2)) none (fun x2 =>
(cnd (!(x2 == 0))
(some (false, x2))
(iter none (fun x3 =>
(cnd (decide (x3 < (llen x.2.2)))
(elimO (idx x.2.2 x3) (.done none) (fun x4 =>
(elimO (idx x.2.1 x3) (.done none) (fun x5 =>
(cnd (!(x4 == x5))
(.done (some (true, 0)))
(.next (wr .i64 (x3 + 1))))))))
(.done (some (false, 0))))) lots 0))))
(cnd (!(x1 == 0))
(some (false, x1))
(iter none (fun x2 =>
(cnd (decide (x2 < (llen x.2.2)))
(elimO (idx x.2.2 x2) (.done none) (fun x3 =>
(elimO (idx x.2.1 x2) (.done none) (fun x4 =>
(cnd (!(x3 == x4))
(.done (some (true, 0)))
(.next (wr .i64 (x2 + 1))))))))
(.done (some (false, 0))))) lots 0))))))

/-- stoplineref10.Next -/
def ref10_Next_t (x : PSSite × Int × List Int × List Int) : Option (Int × Int) :=
(elimO (ref05_Check_t x.1) none (fun x1 =>
(cnd ((x1 == 0) && ((decide (x.2.1 < 0)) || (decide (1048576 < x.2.1))))
(some (0, 2))
(elimO (ref10_Wrong_t (x.1, x.2.2)) none (fun x2 =>
(cnd ((!(x2.2 == 0)) || (!x2.1))
(some (0, x2.2))
(some ((gmin (wr .i64 (x.2.1 + 1)) 1048576), 0))))))))

/-- stoplineref10.Latches -/
def ref10_Latches_t (x : PSSite × Int) : Option (Bool × Int) :=
(elimO (ref05_Check_t x.1) none (fun x1 =>
(cnd (!(x1 == 0))
(some (false, x1))
(cnd ((decide (x.2 < 0)) || (decide (1048576 < x.2)))
(some (false, 2))
(some ((decide (x.1.2.2.2.2.2.2.2.1 ≤ x.2)), 0))))))

/-- stoplinelaw10.BackWrong -/
def law10_BackWrong_t (x : PSSite × Int × List Int × List Int) : Option (Bool) :=
(elimO (ref05_Great_t x.1) none (fun x1 =>
(cnd ((x1 || (decide (100 < (llen x.2.2.1)))) || (decide (100 < (llen x.2.2.2))))
(some true)
(cnd (true && roomOK (0 + (llen x.2.2.1)) 1)
(cnd (true && roomOK (0 + (llen x.2.2.2)) 1)
(elimO (back_Wrong_t (x.1, (([] ++ x.2.2.1), ([] ++ x.2.2.2)))) none (fun x2 =>
(elimO (ref10_Wrong_t (x.1, x.2.2)) none (fun x3 =>
(elimO (back_Next_t (x.1, (x.2.1, (([] ++ x.2.2.1), ([] ++ x.2.2.2))))) none (fun x4 =>
(elimO (ref10_Next_t x) none (fun x5 =>
(elimO (back_Latches_t (x.1, x.2.1)) none (fun x6 =>
(elimO (ref10_Latches_t (x.1, x.2.1)) none (fun x7 =>
(some ((((((((x2.1 == x3.1) && (x2.2 == x3.2)) && (x4.1 == x5.1)) && (x4.2 == x5.2)) && (x6.1 == x7.1)) && (x6.2 == x7.2)) && ((bytesOf ([] ++ x.2.2.1)) == (bytesOf x.2.2.1))) && ((bytesOf ([] ++ x.2.2.2)) == (bytesOf x.2.2.2))))))))))))))))
 none)
 none))))

end Go.Proofs.YtnkhijnppfnomaaDoor
