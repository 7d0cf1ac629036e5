/- Part of a proof: plain readings of Go functions, their contracts, or plain facts of them. -/
import Derived.Test.YtiacnaijablgcaaDoorDen3
namespace Go.Proofs.YtiacnaijablgcaaDoor
open Go.Den Go.RowKit Go.ChangeShapes

abbrev I64 := Ty.int .i64
abbrev PI64 : Type := Int
abbrev U8 := Ty.int .u8
abbrev PU8 : Type := Int
abbrev SGroup := Ty.pair U8 (Ty.pair I64 I64)
abbrev PSGroup : Type := Int × (Int × Int)
abbrev SGroups := Ty.slice SGroup
abbrev PSGroups : Type := List PSGroup
abbrev U32 := Ty.int .u32
abbrev PU32 : Type := Int
abbrev U32s := Ty.slice U32
abbrev PU32s : Type := List Int
abbrev I64s := Ty.slice I64
abbrev PI64s : Type := List Int
abbrev I64ss := Ty.slice I64s
abbrev PI64ss : Type := List (List Int)
abbrev Bo := Ty.bool
abbrev PBo : Type := Bool
abbrev SPhase := Ty.pair U32 (Ty.pair I64 (Ty.pair I64 (Ty.pair I64 Bo)))
abbrev PSPhase : Type := Int × (Int × (Int × (Int × Bool)))
abbrev SPhases := Ty.slice SPhase
abbrev PSPhases : Type := List PSPhase
abbrev SEye := Ty.pair I64 (Ty.pair I64 (Ty.pair I64 I64))
abbrev PSEye : Type := Int × (Int × (Int × Int))
abbrev SEyes := Ty.slice SEye
abbrev PSEyes : Type := List PSEye
abbrev SPlan := Ty.pair I64 (Ty.pair I64 I64s)
abbrev PSPlan : Type := Int × (Int × List Int)
abbrev SPlans := Ty.slice SPlan
abbrev PSPlans : Type := List PSPlan
abbrev SSite := Ty.pair I64 (Ty.pair SGroups (Ty.pair U32s (Ty.pair I64ss (Ty.pair SPhases (Ty.pair SEyes (Ty.pair I64 (Ty.pair I64 (Ty.pair I64 (Ty.pair I64 (Ty.pair I64 SPlans))))))))))
abbrev PSSite : Type := Int × (List PSGroup × (List Int × (List (List Int) × (List PSPhase × (List PSEye × (Int × (Int × (Int × (Int × (Int × List PSPlan))))))))))
abbrev U64 := Ty.int .u64
abbrev PU64 : Type := Int
abbrev SLooked := Ty.pair Bo (Ty.pair I64 (Ty.pair U64 (Ty.pair Bo I64)))
abbrev PSLooked : Type := Bool × (Int × (Int × (Bool × Int)))
abbrev Bos := Ty.slice Bo
abbrev PBos : Type := List Bool
abbrev SLookeds := Ty.slice SLooked
abbrev PSLookeds : Type := List PSLooked

/-- stoplinelaw13.seen -/
def law13_seen_t (_ : Unit) : Option (PSSite) :=
(some (0, (((1, (2, 1)) :: ((1, (2, 1)) :: [])), ((2 :: (1 :: [])), (((0 :: (2 :: [])) :: ((2 :: (0 :: [])) :: [])), (((1, (2, (5, (1, false)))) :: ((2, (2, (5, (1, false)))) :: [])), (((0, (3, (9, 2))) :: []), (3, (2, (4, (8, (20, []))))))))))))
def law13_seen (_ : Unit) : PSSite :=
((0, (((1, (2, 1)) :: ((1, (2, 1)) :: [])), ((2 :: (1 :: [])), (((0 :: (2 :: [])) :: ((2 :: (0 :: [])) :: [])), (((1, (2, (5, (1, false)))) :: ((2, (2, (5, (1, false)))) :: [])), (((0, (3, (9, 2))) :: []), (3, (2, (4, (8, (20, []))))))))))))
theorem law13_seen_e (x : Unit) : law13_seen_t x = some (law13_seen x) := by
  unfold law13_seen_t law13_seen
  rfl

/-- site.in -/
def site_in_t (x : Int × Int × Int) : Option (Bool) :=
(some ((decide (x.2.1 ≤ x.1)) && (decide (x.1 ≤ x.2.2))))
def site_in (x : Int × Int × Int) : Bool :=
(((decide (x.2.1 ≤ x.1)) && (decide (x.1 ≤ x.2.2))))
theorem site_in_e (x : Int × Int × Int) : site_in_t x = some (site_in x) := by
  unfold site_in_t site_in
  rfl

/-- site.shape -/
def site_shape_t (x : PSSite) : Option (Bool) :=
(letK (site_in ((llen x.2.1), (1, 16))) (fun y =>
(cnd ((((((!y) || (!((llen x.2.2.1) == (llen x.2.1)))) || (!((llen x.2.2.2.1) == (llen x.2.1)))) || (!(site_in ((llen x.2.2.2.2.1), (1, 8))))) || (decide (24 < (llen x.2.2.2.2.2.1)))) || (decide (8 < (llen x.2.2.2.2.2.2.2.2.2.2.2))))
(some false)
(iter none (fun x1 =>
(cnd (decide (x1 < (llen x.2.2.2.1)))
(elimO (idx x.2.2.2.1 x1) (.done none) (fun x2 =>
(cnd (!((llen x2) == (llen x.2.1)))
(.done (some false))
(elimO (idx x.2.2.1 x1) (.done none) (fun x3 =>
(cnd (decide (0 ≤ (llen x.2.1)))
(cnd (!((shrop Go.IntKind.u32 x3 (llen x.2.1)) == 0))
(.done (some false))
(.next (wr .i64 (x1 + 1))))
(.done none)))))))
(.done (some true)))) lots 0))))

/-- site.ticks -/
def site_ticks_t (x : List Int) : Option (Bool) :=
(iter none (fun x1 =>
(cnd (decide (x1 < (llen x)))
(elimO (idx x x1) (.done none) (fun x2 =>
(letK (site_in (x2, (1, 1048576))) (fun y =>
(cnd (!y)
(.done (some false))
(.next (wr .i64 (x1 + 1))))))))
(.done (some true)))) lots 0)
def site_ticks (x : List Int) : Bool := x.all fun n => decide (1 ≤ n) && decide (n ≤ 1048576)
theorem site_ticks_e (x : List Int) (hf : FitsAll [I64s] x) : site_ticks_t x = some (site_ticks x) := by
  unfold site_ticks_t
  obtain ⟨b, h1, h2⟩ := iter_allP (l := x) (bad := none) (no := some false) (yes := some true) (f := fun x1 =>
(cnd (decide (x1 < (llen x)))
(elimO (idx x x1) (.done none) (fun x2 =>
(letK (site_in (x2, (1, 1048576))) (fun y =>
(cnd (!y)
(.done (some false))
(.next (wr .i64 (x1 + 1))))))))
(.done (some true)))) (fun _ n => site_in (n, (1, 1048576)) = true) hf.1 (fun i n h0 h1 hn => by
      simp only [h1, decide_true, cnd, hn, elimO, letK]
      cases site_in (n, (1, 1048576)) <;> simp) (fun i hi => by simp [hi, cnd])
  rw [h1]
  have : b = site_ticks x := by
    apply Bool.eq_iff_iff.2
    rw [h2]
    unfold site_ticks site_in
    simp only [List.all_eq_true]
    exact ⟨fun h n hn => by obtain ⟨i, hi⟩ := mem_idx hn; exact h i n hi, fun h i n hi => h n (idx_some_iff hi).2.2⟩
  rw [this]
  cases site_ticks x <;> rfl

/-- ring.bit -/
def ring_bit_t (x : Int) : Option (Int) :=
(cnd ((decide (x < 0)) || (decide (31 < x)))
(some 0)
(cnd (decide (0 ≤ x))
(some (shlop Go.IntKind.u32 1 x))
 none))
theorem shl_fits (x : Int) (h : ¬ (x < 0)) : decide (0 ≤ x) = true := by simp; omega
def ring_bit (x : Int) : Int := cnd (decide (x < 0) || decide (31 < x)) 0 (shlop .u32 1 x)
theorem ring_bit_e (x : Int) (_ : FitsAll [I64] x) : ring_bit_t x = some (ring_bit x) := by
  unfold ring_bit_t ring_bit
  by_cases h : x < 0
  · simp [h, cnd]
  · have h' : 0 ≤ x := by omega
    by_cases h2 : 31 < x
    · simp [h2, cnd]
    · simp [h, h2, h', cnd]

/-- ring.Has -/
def ring_Has_t (x : Int × Int) : Option (Bool) :=
(letK (ring_bit x.2) (fun y =>
(some (!((bitop Go.BinOp.and Go.IntKind.u32 x.1 y) == 0)))))
def ring_Has (x : Int × Int) : Bool :=
(letK (ring_bit x.2) (fun y =>
((!((bitop Go.BinOp.and Go.IntKind.u32 x.1 y) == 0)))))
theorem ring_Has_e (x : Int × Int) : ring_Has_t x = some (ring_Has x) := by
  unfold ring_Has_t ring_Has
  simp only [letK]

/-- site.apart -/
def site_apart_t (x : PSSite) : Option (Bool) :=
(iter none (fun x1 =>
(cnd (decide (x1 < (llen x.2.1)))
(elimO (idx x.2.1 x1) (.done none) (fun x2 =>
(cnd (((!(x2.1 == 1)) && (!(x2.1 == 2))) || (!(site_ticks (x2.2.1 :: (x2.2.2 :: [])))))
(.done (some false))
(elimO (idx x.2.2.2.1 x1) (.done none) (fun x3 =>
(iter (.done none) (fun x4 =>
(cnd (decide (x4 < (llen x3)))
(elimO (idx x3 x4) (.done (.done none)) (fun x5 =>
(elimO (idx x.2.2.1 x1) (.done (.done none)) (fun x6 =>
(letK (ring_Has (x6, x4)) (fun y =>
(elimO (idx x.2.2.1 x4) (.done (.done none)) (fun x7 =>
(letK (ring_Has (x7, x1)) (fun y1 =>
(cnd (!(y == y1))
(.done (.done (some false)))
(cnd (y && (x1 == x4))
(.done (.done (some false)))
(cnd (y && (!(site_in (x5, (x2.2.2, 1048576)))))
(.done (.done (some false)))
(cnd ((!y) && (!(x5 == 0)))
(.done (.done (some false)))
(.next (wr .i64 (x4 + 1)))))))))))))))))
(.done (.next (wr .i64 (x1 + 1)))))) lots 0))))))
(.done (some true)))) lots 0)

def bits_TrailingZeros32 (x : Int) : Int := low x

/-- ring.Least -/
def ring_Least_t (x : Int) : Option (Int) :=
(cnd (x == 0)
(some (-1))
(letK (bits_TrailingZeros32 x) (fun y =>
(some y))))
def ring_Least (x : Int) : Int :=
(cnd (x == 0)
((-1))
(letK (bits_TrailingZeros32 x) (fun y =>
(y))))
theorem ring_Least_e (x : Int) : ring_Least_t x = some (ring_Least x) := by
  unfold ring_Least_t ring_Least
  simp only [letK, cnd_some]

/-- ring.Without -/
def ring_Without_t (x : Int × Int) : Option (Int) :=
(letK (ring_bit x.2) (fun y =>
(some (bitop Go.BinOp.andNot Go.IntKind.u32 x.1 y))))
def ring_Without (x : Int × Int) : Int :=
(letK (ring_bit x.2) (fun y =>
((bitop Go.BinOp.andNot Go.IntKind.u32 x.1 y))))
theorem ring_Without_e (x : Int × Int) : ring_Without_t x = some (ring_Without x) := by
  unfold ring_Without_t ring_Without
  simp only [letK]

def bits_OnesCount32 (x : Int) : Int := cnt x

/-- ring.Count -/
def ring_Count_t (x : Int) : Option (Int) :=
(letK (bits_OnesCount32 x) (fun y =>
(some y)))
def ring_Count (x : Int) : Int :=
(letK (bits_OnesCount32 x) (fun y =>
(y)))
theorem ring_Count_e (x : Int) : ring_Count_t x = some (ring_Count x) := by
  unfold ring_Count_t ring_Count
  simp only [letK]

/-- site.phased -/
def site_phased_t (x : PSSite) : Option (Bool) :=
(iter none (fun x1 =>
(cnd (decide (x1.2 < (llen x.2.2.2.2.1)))
(elimO (idx x.2.2.2.2.1 x1.2) (.done none) (fun x2 =>
(cnd (x2.1 == 0)
(.done (some false))
(cnd (decide (0 ≤ (llen x.2.1)))
(cnd (((!((shrop Go.IntKind.u32 x2.1 (llen x.2.1)) == 0)) || (!(site_ticks (x2.2.1 :: (x2.2.2.1 :: (x2.2.2.2.1 :: [])))))) || (decide (x2.2.2.1 < x2.2.1)))
(.done (some false))
(iter (.done none) (fun x3 =>
(cnd (!(x3 == 0))
(letK (ring_Least x3) (fun y =>
(letK (ring_Without (x3, y)) (fun y1 =>
(elimO (idx x.2.1 y) (.done (.done none)) (fun x4 =>
(cnd (decide (x2.2.1 < x4.2.1))
(.done (.done (some false)))
(elimO (idx x.2.2.1 y) (.done (.done none)) (fun x5 =>
(cnd (!((bitop Go.BinOp.and Go.IntKind.u32 x5 x2.1) == 0))
(.done (.done (some false)))
(.next y1)))))))))))
(.done (.next ((bitop Go.BinOp.or Go.IntKind.u32 x1.1 x2.1), (wr .i64 (x1.2 + 1))))))) lots x2.1))
(.done none)))))
(.done (letK (ring_Count x1.1) (fun y =>
(some (y == (llen x.2.1)))))))) lots (0, 0))

/-- site.eyed -/
def site_eyed_t (x : PSSite) : Option (Bool) :=
(iter none (fun x1 =>
(cnd (decide (x1 < (llen x.2.2.2.2.2.1)))
(elimO (idx x.2.2.2.2.2.1 x1) (.done none) (fun x2 =>
(letK (site_in (x2.1, (0, (wr .i64 ((llen x.2.2.2.2.1) - 1))))) (fun y =>
(cnd (((!y) || (!(site_ticks (x2.2.1 :: (x2.2.2.1 :: []))))) || (!(site_in (x2.2.2.2, (1, 64)))))
(.done (some false))
(.next (wr .i64 (x1 + 1))))))))
(.done (some true)))) lots 0)

/-- site.clear -/
def site_clear_t (x : PSSite × Int × Int) : Option (Int) :=
(iter none (fun x1 =>
(cnd (decide (x1.2 < (llen x.1.2.1)))
(elimO (idx x.1.2.2.2.2.1 x.2.1) (.done none) (fun x2 =>
(letK (ring_Has (x2.1, x1.2)) (fun y =>
(cnd (!y)
(.next (x1.1, (wr .i64 (x1.2 + 1))))
(elimO (idx x.1.2.2.1 x1.2) (.done none) (fun x3 =>
(elimO (idx x.1.2.2.2.2.1 x.2.2) (.done none) (fun x4 =>
(iter (.done none) (fun x5 =>
(cnd (!(x5.2 == 0))
(letK (ring_Least x5.2) (fun y1 =>
(letK (ring_Without (x5.2, y1)) (fun y2 =>
(elimO (idx x.1.2.2.2.1 x1.2) (.done (.done none)) (fun x6 =>
(elimO (idx x6 y1) (.done (.done none)) (fun x7 =>
(.next ((gmax x5.1 x7), y2))))))))))
(.done (.next (x5.1, (wr .i64 (x1.2 + 1))))))) lots (x1.1, (bitop Go.BinOp.and Go.IntKind.u32 x3 x4.1))))))))))))
(.done (some x1.1)))) lots (0, 0))

/-- site.needs -/
def site_needs_t (x : PSSite × Int) : Option (Int) :=
(elimO (idx x.1.2.2.2.2.1 x.2) none (fun x1 =>
(cnd (!((llen x.1.2.2.2.2.1) == 0))
(elimO (site_clear_t (x.1, (x.2, (irem (wr .i64 (x.2 + 1)) (llen x.1.2.2.2.2.1))))) none (fun x2 =>
(some (wr .i64 (x1.2.1 + x2)))))
 none)))

/-- site.timed -/
def site_timed_t (x : PSSite) : Option (Bool) :=
(iter none (fun x1 =>
(cnd (decide (x1.2 < (llen x.2.2.2.2.1)))
(elimO (site_needs_t (x, x1.2)) (.done none) (fun x2 =>
(.next ((wr .i64 (x1.1 + x2)), (wr .i64 (x1.2 + 1))))))
(.done (letK (site_ticks (x.2.2.2.2.2.2.1 :: (x.2.2.2.2.2.2.2.1 :: (x.2.2.2.2.2.2.2.2.1 :: (x.2.2.2.2.2.2.2.2.2.1 :: (x.2.2.2.2.2.2.2.2.2.2.1 :: [])))))) (fun y =>
(some ((y && (decide (x1.1 ≤ x.2.2.2.2.2.2.2.2.2.1))) && (decide (x.2.2.2.2.2.2.2.2.2.1 ≤ x.2.2.2.2.2.2.2.2.2.2.1))))))))) lots (0, 0))

/-- site.fits -/
def site_fits_t (x : PSSite × PSPlan) : Option (Bool) :=
(letK (site_in (x.2.1, (x.1.2.2.2.2.2.2.2.2.2.1, x.1.2.2.2.2.2.2.2.2.2.2.1))) (fun y =>
(cnd (((!y) || (!(site_in (x.2.2.1, (0, (wr .i64 (x.2.1 - 1))))))) || (!((llen x.2.2.2) == (llen x.1.2.2.2.2.1))))
(some false)
(iter none (fun x1 =>
(cnd (decide (x1.2 < (llen x.2.2.2)))
(elimO (idx x.2.2.2 x1.2) (.done none) (fun x2 =>
(elimO (site_needs_t (x.1, x1.2)) (.done none) (fun x3 =>
(letK (site_in (x2, (x3, x1.1))) (fun y1 =>
(cnd (!y1)
(.done (some false))
(.next ((wr .i64 (x1.1 - x2)), (wr .i64 (x1.2 + 1)))))))))))
(.done (some (x1.1 == 0))))) lots (x.2.1, 0)))))

/-- site.planned -/
def site_planned_t (x : PSSite) : Option (Bool) :=
(iter none (fun x1 =>
(cnd (decide (x1 < (llen x.2.2.2.2.2.2.2.2.2.2.2)))
(elimO (idx x.2.2.2.2.2.2.2.2.2.2.2 x1) (.done none) (fun x2 =>
(elimO (site_fits_t (x, x2)) (.done none) (fun x3 =>
(cnd (!x3)
(.done (some false))
(.next (wr .i64 (x1 + 1))))))))
(.done (some true)))) lots 0)

/-- site.Check -/
def site_Check_t (x : PSSite) : Option (Int) :=
(iter none (fun x1 =>
(cnd (decide (x1.2 < 6))
(cnd (x1.2 == 0)
(letK (site_in (x.1, (0, 65535))) (fun y =>
(cnd (!y)
(.done (some 50))
(elimO (site_shape_t x) (.done none) (fun x2 =>
(cnd (!x2)
(.done (cnd (!x2)
(some 50)
(some 0)))
(.next ((!x2), (wr .i64 (x1.2 + 1))))))))))
(cnd (x1.2 == 1)
(elimO (site_apart_t x) (.done none) (fun x2 =>
(cnd (!x2)
(.done (cnd (!x2)
(some 50)
(some 0)))
(.next ((!x2), (wr .i64 (x1.2 + 1)))))))
(cnd (x1.2 == 2)
(elimO (site_phased_t x) (.done none) (fun x2 =>
(cnd (!x2)
(.done (cnd (!x2)
(some 50)
(some 0)))
(.next ((!x2), (wr .i64 (x1.2 + 1)))))))
(cnd (x1.2 == 3)
(elimO (site_eyed_t x) (.done none) (fun x2 =>
(cnd (!x2)
(.done (cnd (!x2)
(some 50)
(some 0)))
(.next ((!x2), (wr .i64 (x1.2 + 1)))))))
(cnd (x1.2 == 4)
(elimO (site_timed_t x) (.done none) (fun x2 =>
(cnd (!x2)
(.done (cnd (!x2)
(some 50)
(some 0)))
(.next ((!x2), (wr .i64 (x1.2 + 1)))))))
(cnd (x1.2 == 5)
(elimO (site_planned_t x) (.done none) (fun x2 =>
(cnd (!x2)
(.done (cnd (!x2)
(some 50)
(some 0)))
(.next ((!x2), (wr .i64 (x1.2 + 1)))))))
(cnd x1.1
(.done (cnd x1.1
(some 50)
(some 0)))
(.next (x1.1, (wr .i64 (x1.2 + 1)))))))))))
(.done (cnd x1.1
(some 50)
(some 0))))) lots (false, 0))

/-- eye.may -/
def eye_may_t (x : PSLooked) : Option (Bool) :=
(some (((decide (0 ≤ (gmin x.2.1 x.2.2.2.2))) && (decide ((gmax x.2.1 x.2.2.2.2) ≤ 1048576))) && (x.2.2.2.1 || (x.2.2.2.2 == 0))))
def eye_may (x : PSLooked) : Bool :=
((((decide (0 ≤ (gmin x.2.1 x.2.2.2.2))) && (decide ((gmax x.2.1 x.2.2.2.2) ≤ 1048576))) && (x.2.2.2.1 || (x.2.2.2.2 == 0))))
theorem eye_may_e (x : PSLooked) : eye_may_t x = some (eye_may x) := by
  unfold eye_may_t eye_may
  rfl

/-- math/bits.OnesCount64 -/
def bits_OnesCount64_t (x : Int) : Option (Int) :=
(some (bitop Go.BinOp.and Go.IntKind.i64 (wr .i64 (wr .u64 ((wr .u64 ((wr .u64 ((bitop Go.BinOp.and Go.IntKind.u64 (wr .u64 ((shrop Go.IntKind.u64 (wr .u64 ((bitop Go.BinOp.and Go.IntKind.u64 (shrop Go.IntKind.u64 (wr .u64 ((bitop Go.BinOp.and Go.IntKind.u64 (shrop Go.IntKind.u64 x 1) 6148914691236517205) + (bitop Go.BinOp.and Go.IntKind.u64 x 6148914691236517205))) 2) 3689348814741910323) + (bitop Go.BinOp.and Go.IntKind.u64 (wr .u64 ((bitop Go.BinOp.and Go.IntKind.u64 (shrop Go.IntKind.u64 x 1) 6148914691236517205) + (bitop Go.BinOp.and Go.IntKind.u64 x 6148914691236517205))) 3689348814741910323))) 4) + (wr .u64 ((bitop Go.BinOp.and Go.IntKind.u64 (shrop Go.IntKind.u64 (wr .u64 ((bitop Go.BinOp.and Go.IntKind.u64 (shrop Go.IntKind.u64 x 1) 6148914691236517205) + (bitop Go.BinOp.and Go.IntKind.u64 x 6148914691236517205))) 2) 3689348814741910323) + (bitop Go.BinOp.and Go.IntKind.u64 (wr .u64 ((bitop Go.BinOp.and Go.IntKind.u64 (shrop Go.IntKind.u64 x 1) 6148914691236517205) + (bitop Go.BinOp.and Go.IntKind.u64 x 6148914691236517205))) 3689348814741910323))))) 1085102592571150095) + (shrop Go.IntKind.u64 (bitop Go.BinOp.and Go.IntKind.u64 (wr .u64 ((shrop Go.IntKind.u64 (wr .u64 ((bitop Go.BinOp.and Go.IntKind.u64 (shrop Go.IntKind.u64 (wr .u64 ((bitop Go.BinOp.and Go.IntKind.u64 (shrop Go.IntKind.u64 x 1) 6148914691236517205) + (bitop Go.BinOp.and Go.IntKind.u64 x 6148914691236517205))) 2) 3689348814741910323) + (bitop Go.BinOp.and Go.IntKind.u64 (wr .u64 ((bitop Go.BinOp.and Go.IntKind.u64 (shrop Go.IntKind.u64 x 1) 6148914691236517205) + (bitop Go.BinOp.and Go.IntKind.u64 x 6148914691236517205))) 3689348814741910323))) 4) + (wr .u64 ((bitop Go.BinOp.and Go.IntKind.u64 (shrop Go.IntKind.u64 (wr .u64 ((bitop Go.BinOp.and Go.IntKind.u64 (shrop Go.IntKind.u64 x 1) 6148914691236517205) + (bitop Go.BinOp.and Go.IntKind.u64 x 6148914691236517205))) 2) 3689348814741910323) + (bitop Go.BinOp.and Go.IntKind.u64 (wr .u64 ((bitop Go.BinOp.and Go.IntKind.u64 (shrop Go.IntKind.u64 x 1) 6148914691236517205) + (bitop Go.BinOp.and Go.IntKind.u64 x 6148914691236517205))) 3689348814741910323))))) 1085102592571150095) 8))) + (shrop Go.IntKind.u64 (wr .u64 ((bitop Go.BinOp.and Go.IntKind.u64 (wr .u64 ((shrop Go.IntKind.u64 (wr .u64 ((bitop Go.BinOp.and Go.IntKind.u64 (shrop Go.IntKind.u64 (wr .u64 ((bitop Go.BinOp.and Go.IntKind.u64 (shrop Go.IntKind.u64 x 1) 6148914691236517205) + (bitop Go.BinOp.and Go.IntKind.u64 x 6148914691236517205))) 2) 3689348814741910323) + (bitop Go.BinOp.and Go.IntKind.u64 (wr .u64 ((bitop Go.BinOp.and Go.IntKind.u64 (shrop Go.IntKind.u64 x 1) 6148914691236517205) + (bitop Go.BinOp.and Go.IntKind.u64 x 6148914691236517205))) 3689348814741910323))) 4) + (wr .u64 ((bitop Go.BinOp.and Go.IntKind.u64 (shrop Go.IntKind.u64 (wr .u64 ((bitop Go.BinOp.and Go.IntKind.u64 (shrop Go.IntKind.u64 x 1) 6148914691236517205) + (bitop Go.BinOp.and Go.IntKind.u64 x 6148914691236517205))) 2) 3689348814741910323) + (bitop Go.BinOp.and Go.IntKind.u64 (wr .u64 ((bitop Go.BinOp.and Go.IntKind.u64 (shrop Go.IntKind.u64 x 1) 6148914691236517205) + (bitop Go.BinOp.and Go.IntKind.u64 x 6148914691236517205))) 3689348814741910323))))) 1085102592571150095) + (shrop Go.IntKind.u64 (bitop Go.BinOp.and Go.IntKind.u64 (wr .u64 ((shrop Go.IntKind.u64 (wr .u64 ((bitop Go.BinOp.and Go.IntKind.u64 (shrop Go.IntKind.u64 (wr .u64 ((bitop Go.BinOp.and Go.IntKind.u64 (shrop Go.IntKind.u64 x 1) 6148914691236517205) + (bitop Go.BinOp.and Go.IntKind.u64 x 6148914691236517205))) 2) 3689348814741910323) + (bitop Go.BinOp.and Go.IntKind.u64 (wr .u64 ((bitop Go.BinOp.and Go.IntKind.u64 (shrop Go.IntKind.u64 x 1) 6148914691236517205) + (bitop Go.BinOp.and Go.IntKind.u64 x 6148914691236517205))) 3689348814741910323))) 4) + (wr .u64 ((bitop Go.BinOp.and Go.IntKind.u64 (shrop Go.IntKind.u64 (wr .u64 ((bitop Go.BinOp.and Go.IntKind.u64 (shrop Go.IntKind.u64 x 1) 6148914691236517205) + (bitop Go.BinOp.and Go.IntKind.u64 x 6148914691236517205))) 2) 3689348814741910323) + (bitop Go.BinOp.and Go.IntKind.u64 (wr .u64 ((bitop Go.BinOp.and Go.IntKind.u64 (shrop Go.IntKind.u64 x 1) 6148914691236517205) + (bitop Go.BinOp.and Go.IntKind.u64 x 6148914691236517205))) 3689348814741910323))))) 1085102592571150095) 8))) 16))) + (shrop Go.IntKind.u64 (wr .u64 ((wr .u64 ((bitop Go.BinOp.and Go.IntKind.u64 (wr .u64 ((shrop Go.IntKind.u64 (wr .u64 ((bitop Go.BinOp.and Go.IntKind.u64 (shrop Go.IntKind.u64 (wr .u64 ((bitop Go.BinOp.and Go.IntKind.u64 (shrop Go.IntKind.u64 x 1) 6148914691236517205) + (bitop Go.BinOp.and Go.IntKind.u64 x 6148914691236517205))) 2) 3689348814741910323) + (bitop Go.BinOp.and Go.IntKind.u64 (wr .u64 ((bitop Go.BinOp.and Go.IntKind.u64 (shrop Go.IntKind.u64 x 1) 6148914691236517205) + (bitop Go.BinOp.and Go.IntKind.u64 x 6148914691236517205))) 3689348814741910323))) 4) + (wr .u64 ((bitop Go.BinOp.and Go.IntKind.u64 (shrop Go.IntKind.u64 (wr .u64 ((bitop Go.BinOp.and Go.IntKind.u64 (shrop Go.IntKind.u64 x 1) 6148914691236517205) + (bitop Go.BinOp.and Go.IntKind.u64 x 6148914691236517205))) 2) 3689348814741910323) + (bitop Go.BinOp.and Go.IntKind.u64 (wr .u64 ((bitop Go.BinOp.and Go.IntKind.u64 (shrop Go.IntKind.u64 x 1) 6148914691236517205) + (bitop Go.BinOp.and Go.IntKind.u64 x 6148914691236517205))) 3689348814741910323))))) 1085102592571150095) + (shrop Go.IntKind.u64 (bitop Go.BinOp.and Go.IntKind.u64 (wr .u64 ((shrop Go.IntKind.u64 (wr .u64 ((bitop Go.BinOp.and Go.IntKind.u64 (shrop Go.IntKind.u64 (wr .u64 ((bitop Go.BinOp.and Go.IntKind.u64 (shrop Go.IntKind.u64 x 1) 6148914691236517205) + (bitop Go.BinOp.and Go.IntKind.u64 x 6148914691236517205))) 2) 3689348814741910323) + (bitop Go.BinOp.and Go.IntKind.u64 (wr .u64 ((bitop Go.BinOp.and Go.IntKind.u64 (shrop Go.IntKind.u64 x 1) 6148914691236517205) + (bitop Go.BinOp.and Go.IntKind.u64 x 6148914691236517205))) 3689348814741910323))) 4) + (wr .u64 ((bitop Go.BinOp.and Go.IntKind.u64 (shrop Go.IntKind.u64 (wr .u64 ((bitop Go.BinOp.and Go.IntKind.u64 (shrop Go.IntKind.u64 x 1) 6148914691236517205) + (bitop Go.BinOp.and Go.IntKind.u64 x 6148914691236517205))) 2) 3689348814741910323) + (bitop Go.BinOp.and Go.IntKind.u64 (wr .u64 ((bitop Go.BinOp.and Go.IntKind.u64 (shrop Go.IntKind.u64 x 1) 6148914691236517205) + (bitop Go.BinOp.and Go.IntKind.u64 x 6148914691236517205))) 3689348814741910323))))) 1085102592571150095) 8))) + (shrop Go.IntKind.u64 (wr .u64 ((bitop Go.BinOp.and Go.IntKind.u64 (wr .u64 ((shrop Go.IntKind.u64 (wr .u64 ((bitop Go.BinOp.and Go.IntKind.u64 (shrop Go.IntKind.u64 (wr .u64 ((bitop Go.BinOp.and Go.IntKind.u64 (shrop Go.IntKind.u64 x 1) 6148914691236517205) + (bitop Go.BinOp.and Go.IntKind.u64 x 6148914691236517205))) 2) 3689348814741910323) + (bitop Go.BinOp.and Go.IntKind.u64 (wr .u64 ((bitop Go.BinOp.and Go.IntKind.u64 (shrop Go.IntKind.u64 x 1) 6148914691236517205) + (bitop Go.BinOp.and Go.IntKind.u64 x 6148914691236517205))) 3689348814741910323))) 4) + (wr .u64 ((bitop Go.BinOp.and Go.IntKind.u64 (shrop Go.IntKind.u64 (wr .u64 ((bitop Go.BinOp.and Go.IntKind.u64 (shrop Go.IntKind.u64 x 1) 6148914691236517205) + (bitop Go.BinOp.and Go.IntKind.u64 x 6148914691236517205))) 2) 3689348814741910323) + (bitop Go.BinOp.and Go.IntKind.u64 (wr .u64 ((bitop Go.BinOp.and Go.IntKind.u64 (shrop Go.IntKind.u64 x 1) 6148914691236517205) + (bitop Go.BinOp.and Go.IntKind.u64 x 6148914691236517205))) 3689348814741910323))))) 1085102592571150095) + (shrop Go.IntKind.u64 (bitop Go.BinOp.and Go.IntKind.u64 (wr .u64 ((shrop Go.IntKind.u64 (wr .u64 ((bitop Go.BinOp.and Go.IntKind.u64 (shrop Go.IntKind.u64 (wr .u64 ((bitop Go.BinOp.and Go.IntKind.u64 (shrop Go.IntKind.u64 x 1) 6148914691236517205) + (bitop Go.BinOp.and Go.IntKind.u64 x 6148914691236517205))) 2) 3689348814741910323) + (bitop Go.BinOp.and Go.IntKind.u64 (wr .u64 ((bitop Go.BinOp.and Go.IntKind.u64 (shrop Go.IntKind.u64 x 1) 6148914691236517205) + (bitop Go.BinOp.and Go.IntKind.u64 x 6148914691236517205))) 3689348814741910323))) 4) + (wr .u64 ((bitop Go.BinOp.and Go.IntKind.u64 (shrop Go.IntKind.u64 (wr .u64 ((bitop Go.BinOp.and Go.IntKind.u64 (shrop Go.IntKind.u64 x 1) 6148914691236517205) + (bitop Go.BinOp.and Go.IntKind.u64 x 6148914691236517205))) 2) 3689348814741910323) + (bitop Go.BinOp.and Go.IntKind.u64 (wr .u64 ((bitop Go.BinOp.and Go.IntKind.u64 (shrop Go.IntKind.u64 x 1) 6148914691236517205) + (bitop Go.BinOp.and Go.IntKind.u64 x 6148914691236517205))) 3689348814741910323))))) 1085102592571150095) 8))) 16))) 32)))) 127))
def bits_OnesCount64 (x : Int) : Int := cnt64 x
theorem bits_OnesCount64_e (x : Int) (hf : FitsAll [U64] x) : bits_OnesCount64_t x = some (bits_OnesCount64 x) := by
  have h : bits_OnesCount64_t x = some (oc64 x) := id rfl
  rw [h, oc64_eq hf]; rfl

/-- eye.step -/
def eye_step_t (x : PSSite × Int × PSLooked × Bool) : Option (PSLooked) :=
(cnd (!(x.2.2.2 == x.2.2.1.1))
(elimO (idx x.1.2.2.2.2.2.1 x.2.1) none (fun x1 =>
(cnd (x.2.2.2 && (decide (x1.2.1 ≤ (gmin (wr .i64 (0 + 1)) 1048576))))
(some (x.2.2.2, ((gmin (wr .i64 (0 + 1)) 1048576), ((bitop Go.BinOp.or Go.IntKind.u64 (shlop Go.IntKind.u64 x.2.2.1.2.2.1 1) 1), (true, 0)))))
(cnd ((!x.2.2.2) && (decide (x1.2.2.1 ≤ (gmin (wr .i64 (0 + 1)) 1048576))))
(some (x.2.2.2, ((gmin (wr .i64 (0 + 1)) 1048576), ((bitop Go.BinOp.or Go.IntKind.u64 (shlop Go.IntKind.u64 x.2.2.1.2.2.1 1) 1), (true, 0)))))
(letK (bits_OnesCount64 (bitop Go.BinOp.or Go.IntKind.u64 (shlop Go.IntKind.u64 x.2.2.1.2.2.1 1) 1)) (fun y =>
(cnd (decide (x1.2.2.2 < y))
(some (x.2.2.2, ((gmin (wr .i64 (0 + 1)) 1048576), ((bitop Go.BinOp.or Go.IntKind.u64 (shlop Go.IntKind.u64 x.2.2.1.2.2.1 1) 1), (true, 0)))))
(cnd x.2.2.1.2.2.2.1
(cnd (decide (x.1.2.2.2.2.2.2.2.2.1 ≤ (wr .i64 (x.2.2.1.2.2.2.2 + 1))))
(some (x.2.2.2, ((gmin (wr .i64 (0 + 1)) 1048576), ((bitop Go.BinOp.or Go.IntKind.u64 (shlop Go.IntKind.u64 x.2.2.1.2.2.1 1) 1), (false, 0)))))
(some (x.2.2.2, ((gmin (wr .i64 (0 + 1)) 1048576), ((bitop Go.BinOp.or Go.IntKind.u64 (shlop Go.IntKind.u64 x.2.2.1.2.2.1 1) 1), (x.2.2.1.2.2.2.1, (wr .i64 (x.2.2.1.2.2.2.2 + 1))))))))
(some (x.2.2.2, ((gmin (wr .i64 (0 + 1)) 1048576), ((bitop Go.BinOp.or Go.IntKind.u64 (shlop Go.IntKind.u64 x.2.2.1.2.2.1 1) 1), x.2.2.1.2.2.2))))))))))))
(elimO (idx x.1.2.2.2.2.2.1 x.2.1) none (fun x1 =>
(cnd (x.2.2.2 && (decide (x1.2.1 ≤ (gmin (wr .i64 (x.2.2.1.2.1 + 1)) 1048576))))
(some (x.2.2.1.1, ((gmin (wr .i64 (x.2.2.1.2.1 + 1)) 1048576), ((shlop Go.IntKind.u64 x.2.2.1.2.2.1 1), (true, 0)))))
(cnd ((!x.2.2.2) && (decide (x1.2.2.1 ≤ (gmin (wr .i64 (x.2.2.1.2.1 + 1)) 1048576))))
(some (x.2.2.1.1, ((gmin (wr .i64 (x.2.2.1.2.1 + 1)) 1048576), ((shlop Go.IntKind.u64 x.2.2.1.2.2.1 1), (true, 0)))))
(letK (bits_OnesCount64 (shlop Go.IntKind.u64 x.2.2.1.2.2.1 1)) (fun y =>
(cnd (decide (x1.2.2.2 < y))
(some (x.2.2.1.1, ((gmin (wr .i64 (x.2.2.1.2.1 + 1)) 1048576), ((shlop Go.IntKind.u64 x.2.2.1.2.2.1 1), (true, 0)))))
(cnd x.2.2.1.2.2.2.1
(cnd (decide (x.1.2.2.2.2.2.2.2.2.1 ≤ (wr .i64 (x.2.2.1.2.2.2.2 + 1))))
(some (x.2.2.1.1, ((gmin (wr .i64 (x.2.2.1.2.1 + 1)) 1048576), ((shlop Go.IntKind.u64 x.2.2.1.2.2.1 1), (false, 0)))))
(some (x.2.2.1.1, ((gmin (wr .i64 (x.2.2.1.2.1 + 1)) 1048576), ((shlop Go.IntKind.u64 x.2.2.1.2.2.1 1), (x.2.2.1.2.2.2.1, (wr .i64 (x.2.2.1.2.2.2.2 + 1))))))))
(some (x.2.2.1.1, ((gmin (wr .i64 (x.2.2.1.2.1 + 1)) 1048576), ((shlop Go.IntKind.u64 x.2.2.1.2.2.1 1), x.2.2.1.2.2.2)))))))))))))

/-- eye.Next -/
def eye_Next_t (x : PSSite × Int × PSLooked × Bool) : Option (PSLooked × Int) :=
(elimO (site_Check_t x.1) none (fun x1 =>
(cnd (!(x1 == 0))
(some ((false, (0, (0, (false, 0)))), x1))
(cnd ((decide (x.2.1 < 0)) || (decide ((llen x.1.2.2.2.2.2.1) ≤ x.2.1)))
(some ((false, (0, (0, (false, 0)))), 2))
(letK (eye_may x.2.2.1) (fun y =>
(cnd (!y)
(some ((false, (0, (0, (false, 0)))), 8))
(elimO (eye_step_t x) none (fun x2 =>
(some (x2, 0)))))))))))

/-- stoplinelaw13.behind -/
def law13_behind_t (x : PSSite × Int × List Bool) : Option (PSLooked × Bool) :=
(iter none (fun (x1 : Int × PSLooked × PSLooked) =>
(cnd (decide (x1.1 < (llen x.2.2)))
(elimO (idx x.2.2 x1.1) (.done none) (fun x2 =>
(elimO (eye_Next_t (x.1, (x.2.1, (x1.2.2, x2)))) (.done none) (fun x3 =>
(cnd (!(x3.2 == 0))
(.done (some ((false, (0, (0, (false, 0)))), false)))
(.next ((wr .i64 (x1.1 + 1)), (x1.2.1, x3.1))))))))
(.done (some (x1.2.2, true))))) lots (0, ((false, (0, (0, (false, 0)))), (false, (0, (0, (false, 0)))))))

/-- stoplinelaw13.alive -/
def law13_alive_t (_ : Unit) : Option (Bool) :=
(letK (law13_seen ()) (fun y =>
(elimO (law13_behind_t (y, (0, (true :: (true :: []))))) none (fun x1 =>
(letK (law13_seen ()) (fun y1 =>
(elimO (law13_behind_t (y1, (0, (true :: (true :: (true :: [])))))) none (fun x2 =>
(some (((((x1.2 && x2.2) && (!x1.1.2.2.2.1)) && (x1.1.2.1 == 2)) && x2.1.2.2.2.1) && (x2.1.2.1 == 3)))))))))))

/-- stoplineref05.Great -/
def ref05_Great_t (x : PSSite) : Option (Bool) :=
(cnd ((((((decide (40 < (llen x.2.1))) || (decide (40 < (llen x.2.2.1)))) || (decide (40 < (llen x.2.2.2.1)))) || (decide (40 < (llen x.2.2.2.2.1)))) || (decide (60 < (llen x.2.2.2.2.2.1)))) || (decide (40 < (llen x.2.2.2.2.2.2.2.2.2.2.2))))
(some true)
(iter none (fun x1 =>
(cnd (decide (x1 < (llen x.2.2.2.1)))
(elimO (idx x.2.2.2.1 x1) (.done none) (fun x2 =>
(cnd (decide (40 < (llen x2)))
(.done (some true))
(.next (wr .i64 (x1 + 1))))))
(.done (iter none (fun x2 =>
(cnd (decide (x2 < (llen x.2.2.2.2.2.2.2.2.2.2.2)))
(elimO (idx x.2.2.2.2.2.2.2.2.2.2.2 x2) (.done none) (fun x3 =>
(cnd (decide (40 < (llen x3.2.2)))
(.done (some true))
(.next (wr .i64 (x2 + 1))))))
(.done (some false)))) lots 0)))) lots 0))

/-- stoplinelaw13.EyeStays -/
def law13_EyeStays_t (x : PSSite × Int × PSLooked × Bool × Bool) : Option (Bool) :=
(elimO (law13_alive_t ()) none (fun x1 =>
(cnd (!x1)
(some false)
(elimO (ref05_Great_t x.1) none (fun x2 =>
(cnd x2
(some x1)
(elimO (eye_Next_t (x.1, (x.2.1, (x.2.2.1, x.2.2.2.1)))) none (fun x3 =>
(cnd (!(x3.2 == 0))
(some (x1 && ((x3.1.1 == false) && ((x3.1.2.1 == 0) && ((x3.1.2.2.1 == 0) && ((x3.1.2.2.2.1 == false) && ((x3.1.2.2.2.2 == 0) && true)))))))
(elimO (eye_Next_t (x.1, (x.2.1, (x3.1, x.2.2.2.2)))) none (fun x4 =>
(some (((((((((x1 && (x4.2 == 0)) && (x3.1.1 == x.2.2.2.1)) && (x4.1.1 == x.2.2.2.2)) && (decide (1 ≤ x3.1.2.1))) && (decide (x3.1.2.1 ≤ 1048576))) && (decide (0 ≤ x3.1.2.2.2.2))) && (decide (x3.1.2.2.2.2 ≤ 1048576))) && (x3.1.2.2.2.1 || (x3.1.2.2.2.2 == 0))) && ((shrop Go.IntKind.u64 x4.1.2.2.1 1) == (bitop Go.BinOp.and Go.IntKind.u64 x3.1.2.2.1 9223372036854775807)))))))))))))))

/-- stoplinelaw13.turns -/
def law13_turns_t (x : List Bool × Int) : Option (Int) :=
(iter none (fun x1 =>
(cnd (decide (x1.2 ≤ x.2))
(cnd (decide (0 < x1.2))
(elimO (idx x.1 (wr .i64 (x1.2 - 1))) (.done none) (fun x2 =>
(elimO (idx x.1 x1.2) (.done none) (fun x3 =>
(cnd (!(x3 == x2))
(.next ((wr .i64 (x1.1 + 1)), (wr .i64 (x1.2 + 1))))
(.next (x1.1, (wr .i64 (x1.2 + 1)))))))))
(elimO (idx x.1 x1.2) (.done none) (fun x2 =>
(cnd (!(x2 == false))
(.next ((wr .i64 (x1.1 + 1)), (wr .i64 (x1.2 + 1))))
(.next (x1.1, (wr .i64 (x1.2 + 1))))))))
(.done (some x1.1)))) lots (0, (gmax 0 (wr .i64 (x.2 - 63)))))

/-- stoplinelaw13.ill -/
def law13_ill_t (x : PSEye × List Bool × Int) : Option (Bool) :=
(iter none (fun x1 =>
(cnd (decide (0 ≤ x1.2))
(elimO (idx x.2.1 x1.2) (.done none) (fun x2 =>
(elimO (idx x.2.1 x.2.2) (.done none) (fun x3 =>
(cnd (x2 == x3)
(.next ((wr .i64 (x1.1 + 1)), (wr .i64 (x1.2 - 1))))
(.done (elimO (idx x.2.1 x.2.2) none (fun x4 =>
(cnd (x4 && (decide (x.1.2.1 ≤ x1.1)))
(some true)
(elimO (idx x.2.1 x.2.2) none (fun x5 =>
(cnd ((!x5) && (decide (x.1.2.2.1 ≤ x1.1)))
(some true)
(elimO (law13_turns_t x.2) none (fun x6 =>
(some (decide (x.1.2.2.2 < x6)))))))))))))))))
(.done (elimO (idx x.2.1 x.2.2) none (fun x2 =>
(cnd (x2 && (decide (x.1.2.1 ≤ x1.1)))
(some true)
(elimO (idx x.2.1 x.2.2) none (fun x3 =>
(cnd ((!x3) && (decide (x.1.2.2.1 ≤ x1.1)))
(some true)
(elimO (law13_turns_t x.2) none (fun x4 =>
(some (decide (x.1.2.2.2 < x4)))))))))))))) lots (0, x.2.2))

/-- eye.Believed -/
def eye_Believed_t (x : PSLooked) : Option (Bool) :=
(some (!x.2.2.2.1))
def eye_Believed (x : PSLooked) : Bool :=
((!x.2.2.2.1))
theorem eye_Believed_e (x : PSLooked) : eye_Believed_t x = some (eye_Believed x) := by
  unfold eye_Believed_t eye_Believed
  rfl

/-- eye.Wants -/
def eye_Wants_t (x : PSLooked) : Option (Bool) :=
(some (x.1 || x.2.2.2.1))
def eye_Wants (x : PSLooked) : Bool :=
((x.1 || x.2.2.2.1))
theorem eye_Wants_e (x : PSLooked) : eye_Wants_t x = some (eye_Wants x) := by
  unfold eye_Wants_t eye_Wants
  rfl

/-- stoplinelaw13.EyeIll -/
def law13_EyeIll_t (x : PSSite × Int × List Bool) : Option (Bool) :=
(elimO (law13_alive_t ()) none (fun x1 =>
(cnd (!x1)
(some false)
(elimO (ref05_Great_t x.1) none (fun x2 =>
(cnd (x2 || (decide (160 < (llen x.2.2))))
(some x1)
(elimO (site_Check_t x.1) none (fun x3 =>
(cnd (((!(x3 == 0)) || (decide (x.2.1 < 0))) || (decide ((llen x.1.2.2.2.2.2.1) ≤ x.2.1)))
(some x1)
(iter none (fun x4 =>
(cnd (decide (x4.2.2.1 < (llen x.2.2)))
(elimO (idx x.2.2 x4.2.2.1) (.done none) (fun x5 =>
(elimO (eye_Next_t (x.1, (x.2.1, (x4.2.2.2, x5)))) (.done none) (fun x6 =>
(cnd (!(x6.2 == 0))
(.done (some false))
(elimO (idx x.1.2.2.2.2.2.1 x.2.1) (.done none) (fun x7 =>
(elimO (law13_ill_t (x7, (x.2.2, x4.2.2.1))) (.done none) (fun x8 =>
(cnd x8
(cnd (decide (x.1.2.2.2.2.2.2.2.2.1 ≤ 0))
(cnd ((!(x6.1.2.2.2.1 == false)) || ((eye_Believed x6.1) == false))
(.done (some false))
(letK (eye_Wants x6.1) (fun y =>
(elimO (idx x.2.2 x4.2.2.1) (.done none) (fun x9 =>
(cnd ((!(y == x9)) || false)
(.done (some false))
(.next (false, (0, ((wr .i64 (x4.2.2.1 + 1)), x6.1))))))))))
(cnd ((!(x6.1.2.2.2.1 == true)) || ((eye_Believed x6.1) == true))
(.done (some false))
(letK (eye_Wants x6.1) (fun y =>
(cnd ((!(y == true)) || (!(x6.1.2.2.2.2 == 0)))
(.done (some false))
(.next (true, (0, ((wr .i64 (x4.2.2.1 + 1)), x6.1)))))))))
(cnd (x4.1 && (decide (x.1.2.2.2.2.2.2.2.2.1 ≤ (wr .i64 (x4.2.1 + 1)))))
(cnd ((!(x6.1.2.2.2.1 == false)) || ((eye_Believed x6.1) == false))
(.done (some false))
(letK (eye_Wants x6.1) (fun y =>
(elimO (idx x.2.2 x4.2.2.1) (.done none) (fun x9 =>
(cnd ((!(y == x9)) || false)
(.done (some false))
(.next (false, ((wr .i64 (x4.2.1 + 1)), ((wr .i64 (x4.2.2.1 + 1)), x6.1))))))))))
(cnd ((!(x6.1.2.2.2.1 == x4.1)) || ((eye_Believed x6.1) == x4.1))
(.done (some false))
(letK (eye_Wants x6.1) (fun y =>
(cnd x4.1
(cnd ((!(y == true)) || (x4.1 && (!(x6.1.2.2.2.2 == (wr .i64 (x4.2.1 + 1))))))
(.done (some false))
(.next (x4.1, ((wr .i64 (x4.2.1 + 1)), ((wr .i64 (x4.2.2.1 + 1)), x6.1)))))
(elimO (idx x.2.2 x4.2.2.1) (.done none) (fun x9 =>
(cnd ((!(y == x9)) || (x4.1 && (!(x6.1.2.2.2.2 == (wr .i64 (x4.2.1 + 1))))))
(.done (some false))
(.next (x4.1, ((wr .i64 (x4.2.1 + 1)), ((wr .i64 (x4.2.2.1 + 1)), x6.1))))))))))))))))))))))
(.done (some x1)))) lots (false, (0, (0, (false, (0, (0, (false, 0)))))))))))))))))

/-- eye.asked -/
def eye_asked_t (x : PSSite × List PSLooked) : Option (Int) :=
(elimO (site_Check_t x.1) none (fun x1 =>
(cnd (!(x1 == 0))
(some x1)
(cnd (!((llen x.2) == (llen x.1.2.2.2.2.2.1)))
(some 4)
(iter none (fun x2 =>
(cnd (decide (x2 < (llen x.2)))
(elimO (idx x.2 x2) (.done none) (fun x3 =>
(letK (eye_may x3) (fun y =>
(cnd (!y)
(.done (some 8))
(.next (wr .i64 (x2 + 1))))))))
(.done (some 0)))) lots 0)))))

/-- eye.All -/
def eye_All_t (x : PSSite × List PSLooked × Int) : Option (List PSLooked × Int) :=
(elimO (eye_asked_t (x.1, x.2.1)) none (fun x1 =>
(cnd (!(x1 == 0))
(some ([], x1))
(cnd ((decide (0 ≤ (llen x.2.1))) && ((decide ((llen x.2.1) ≤ (llen x.2.1))) && (makeOK (llen x.2.1) 40)))
(iter none (fun x2 =>
(cnd (decide (x2.1 < (llen x.2.1)))
(elimO (idx x.2.1 x2.1) (.done none) (fun x3 =>
(letK (ring_Has (x.2.2, x2.1)) (fun y =>
(elimO (eye_step_t (x.1, (x2.1, (x3, y)))) (.done none) (fun x4 =>
(elimO (idx x2.2 x2.1) (.done none) (fun _ =>
(elimO (idx x2.2 x2.1) (.done none) (fun _ =>
(.next ((wr .i64 (x2.1 + 1)), (lset x2.2 x2.1 x4)))))))))))))
(.done (some (x2.2, 0))))) lots (0, (lrep (llen x.2.1) (false, (0, (0, (false, 0)))))))
 none))))

/-- ring.With -/
def ring_With_t (x : Int × Int) : Option (Int) :=
(letK (ring_bit x.2) (fun y =>
(some (bitop Go.BinOp.or Go.IntKind.u32 x.1 y))))
def ring_With (x : Int × Int) : Int :=
(letK (ring_bit x.2) (fun y =>
((bitop Go.BinOp.or Go.IntKind.u32 x.1 y))))
theorem ring_With_e (x : Int × Int) : ring_With_t x = some (ring_With x) := by
  unfold ring_With_t ring_With
  simp only [letK]

/-- eye.Well -/
def eye_Well_t (x : PSSite × List PSLooked) : Option (Bool × Int) :=
(elimO (eye_asked_t x) none (fun x1 =>
(cnd (!(x1 == 0))
(some (false, x1))
(iter none (fun x2 =>
(cnd (decide (x2.2.2 < (llen x.2)))
(elimO (idx x.2 x2.2.2) (.done none) (fun x3 =>
(elimO (idx x.1.2.2.2.2.2.1 x2.2.2) (.done none) (fun x4 =>
(letK (ring_With (x2.1, x4.1)) (fun y =>
(letK (eye_Believed x3) (fun y1 =>
(cnd y1
(letK (ring_With (x2.2.1, x4.1)) (fun y2 =>
(.next (y, (y2, (wr .i64 (x2.2.2 + 1)))))))
(.next (y, (x2.2.1, (wr .i64 (x2.2.2 + 1))))))))))))))
(.done (some ((x2.1 == x2.2.1), 0))))) lots (0, (0, 0))))))

/-- stoplinelaw13.EyeAll -/
def law13_EyeAll_t (x : PSSite × List PSLooked × Int) : Option (Bool) :=
(elimO (law13_alive_t ()) none (fun x1 =>
(cnd (!x1)
(some false)
(elimO (ref05_Great_t x.1) none (fun x2 =>
(cnd (x2 || (decide (60 < (llen x.2.1))))
(some x1)
(elimO (site_Check_t x.1) none (fun x3 =>
(cnd (!(x3 == 0))
(some x1)
(elimO (eye_All_t x) none (fun x4 =>
(cnd (!(x4.2 == 0))
(some (x1 && ((llen x4.1) == 0)))
(cnd ((!((llen x4.1) == (llen x.1.2.2.2.2.2.1))) || (!((llen x.2.1) == (llen x.1.2.2.2.2.2.1))))
(some false)
(iter none (fun x5 =>
(cnd (decide (x5 < (llen x.2.1)))
(elimO (idx x.2.1 x5) (.done none) (fun x6 =>
(cnd (!(2 == 0))
(elimO (eye_Next_t (x.1, (x5, (x6, ((irem (shrop Go.IntKind.u32 x.2.2 (wr .u64 x5)) 2) == 1))))) (.done none) (fun x7 =>
(cnd (!(x7.2 == 0))
(.done (some false))
(elimO (idx x4.1 x5) (.done none) (fun x8 =>
(cnd (!((x7.1.1 == x8.1) && ((x7.1.2.1 == x8.2.1) && ((x7.1.2.2.1 == x8.2.2.1) && ((x7.1.2.2.2.1 == x8.2.2.2.1) && ((x7.1.2.2.2.2 == x8.2.2.2.2) && true))))))
(.done (some false))
(.next (wr .i64 (x5 + 1)))))))))
(.done none))))
(.done (elimO (eye_Well_t (x.1, x4.1)) none (fun x6 =>
(iter none (fun x7 =>
(cnd (decide (x7.2 < (llen x4.1)))
(iter (.done none) (fun x8 =>
(cnd (decide (x8.2 < (llen x4.1)))
(cnd x8.1
(.next (true, (wr .i64 (x8.2 + 1))))
(elimO (idx x.1.2.2.2.2.2.1 x8.2) (.done (.done none)) (fun x9 =>
(elimO (idx x.1.2.2.2.2.2.1 x7.2) (.done (.done none)) (fun x10 =>
(cnd (x9.1 == x10.1)
(elimO (idx x4.1 x8.2) (.done (.done none)) (fun x11 =>
(.next ((!x11.2.2.2.1), (wr .i64 (x8.2 + 1))))))
(.next (false, (wr .i64 (x8.2 + 1))))))))))
(.done (.next ((x7.1 && x8.1), (wr .i64 (x7.2 + 1))))))) lots (false, 0))
(.done (some ((x1 && (x6.2 == 0)) && (x6.1 == x7.1)))))) lots (true, 0))))))) lots 0))))))))))))))

/-- stoplinelaw13.EyeNames -/
def law13_EyeNames_t (_ : Unit) : Option (Bool) :=
(letK (law13_seen ()) (fun y =>
(elimO (law13_behind_t (y, (0, (true :: (true :: (true :: (false :: (false :: (false :: []))))))))) none (fun x1 =>
(elimO (law13_behind_t (y, (0, (true :: (true :: (true :: (false :: (false :: (false :: (false :: [])))))))))) none (fun x2 =>
(elimO (law13_behind_t (y, (0, (true :: (false :: (true :: [])))))) none (fun x3 =>
(elimO (law13_behind_t (y, (0, (true :: (false :: []))))) none (fun x4 =>
(elimO (eye_Next_t (y, (1, ((false, (0, (0, (false, 0)))), true)))) none (fun x5 =>
(elimO (eye_Next_t (y, (0, ((false, (0, (0, (false, 1)))), true)))) none (fun x6 =>
(elimO (eye_All_t (y, ([], 0))) none (fun x7 =>
(elimO (eye_Well_t ((0, ([], ([], ([], ([], ([], (0, (0, (0, (0, (0, []))))))))))), [])) none (fun x8 =>
(elimO (law13_alive_t ()) none (fun x9 =>
(some (((((((((x9 && (((((((((x1.2 && x1.1.2.2.2.1) && (x1.1.2.2.2.2 == 3)) && x2.2) && (!x2.1.2.2.2.1)) && (x2.1.2.2.2.2 == 0)) && x3.2) && x3.1.2.2.2.1) && x4.2) && (!x4.1.2.2.2.1))) && (x5.2 == 2)) && (x6.2 == 8)) && (x7.2 == 4)) && (x8.2 == 50)) && (eye_Wants (false, (0, (0, (true, 0)))))) && (eye_Wants (true, (0, (0, (false, 0)))))) && (!(eye_Wants (false, (0, (0, (false, 0))))))) && (eye_Believed (true, (0, (0, (false, 0)))))))))))))))))))))))))))

/-- stoplineref05.in -/
def ref05_in_t (x : Int × Int × Int) : Option (Bool) :=
(some ((decide (x.2.1 ≤ x.1)) && (decide (x.1 ≤ x.2.2))))
def ref05_in (x : Int × Int × Int) : Bool :=
(((decide (x.2.1 ≤ x.1)) && (decide (x.1 ≤ x.2.2))))
theorem ref05_in_e (x : Int × Int × Int) : ref05_in_t x = some (ref05_in x) := by
  unfold ref05_in_t ref05_in
  rfl

/-- stoplineref02.Has -/
def ref02_Has_t (x : Int × Int) : Option (Bool) :=
(cnd ((decide (0 ≤ x.2)) && (decide (x.2 < 32)))
(cnd (!(2 == 0))
(some ((irem (shrop Go.IntKind.u32 x.1 (wr .u64 x.2)) 2) == 1))
 none)
(some false))
def ref02_Has (x : Int × Int) : Bool := cnd ((decide (0 ≤ x.2)) && (decide (x.2 < 32))) ((irem (shrop Go.IntKind.u32 x.1 (wr .u64 x.2)) 2) == 1) false
theorem ref02_Has_e (x : Int × Int) (_ : FitsAll [U32, I64] x) : ref02_Has_t x = some (ref02_Has x) := by
  unfold ref02_Has_t ref02_Has
  cases (decide (0 ≤ x.2)) && (decide (x.2 < 32)) <;> rfl

/-- stoplineref05.Apart -/
def ref05_Apart_t (x : PSSite × Int × Int) : Option (Bool) :=
(elimO (idx x.1.2.2.1 x.2.1) none (fun x1 =>
(letK (ref02_Has (x1, x.2.2)) (fun y =>
(some y)))))

/-- stoplineref05.groups -/
def ref05_groups_t (x : PSSite) : Option (Bool) :=
(letK (ref05_in (x.1, (0, 65535))) (fun y =>
(cnd ((((!y) || (!(ref05_in ((llen x.2.1), (1, 16))))) || (!((llen x.2.2.1) == (llen x.2.1)))) || (!((llen x.2.2.2.1) == (llen x.2.1))))
(some false)
(iter none (fun x1 =>
(cnd (decide (x1 < (llen x.2.1)))
(elimO (idx x.2.1 x1) (.done none) (fun x2 =>
(cnd ((((!(x2.1 == 1)) && (!(x2.1 == 2))) || (!(ref05_in (x2.2.1, (1, 1048576))))) || (!(ref05_in (x2.2.2, (1, 1048576)))))
(.done (some false))
(elimO (idx x.2.2.2.1 x1) (.done none) (fun x3 =>
(cnd (!((llen x3) == (llen x.2.1)))
(.done (some false))
(elimO (idx x.2.2.1 x1) (.done none) (fun x4 =>
(cnd (decide ((shlop Go.IntKind.u32 1 (wr .u64 (llen x.2.1))) ≤ x4))
(.done (some false))
(.next (wr .i64 (x1 + 1))))))))))))
(.done (iter none (fun x2 =>
(cnd (decide (x2 < (llen x.2.1)))
(iter (.done none) (fun x3 =>
(cnd (decide (x3 < (llen x.2.1)))
(elimO (ref05_Apart_t (x, (x2, x3))) (.done (.done none)) (fun x4 =>
(elimO (ref05_Apart_t (x, (x3, x2))) (.done (.done none)) (fun x5 =>
(cnd (!(x4 == x5))
(.done (.done (some false)))
(cnd (x2 == x3)
(elimO (ref05_Apart_t (x, (x2, x3))) (.done (.done none)) (fun x6 =>
(cnd x6
(.done (.done (some false)))
(elimO (ref05_Apart_t (x, (x2, x3))) (.done (.done none)) (fun x7 =>
(cnd x7
(elimO (idx x.2.2.2.1 x2) (.done (.done none)) (fun x8 =>
(elimO (idx x8 x3) (.done (.done none)) (fun x9 =>
(elimO (idx x.2.1 x2) (.done (.done none)) (fun x10 =>
(letK (ref05_in (x9, (x10.2.2, 1048576))) (fun y1 =>
(cnd (!y1)
(.done (.done (some false)))
(elimO (ref05_Apart_t (x, (x2, x3))) (.done (.done none)) (fun x11 =>
(cnd (!x11)
(elimO (idx x.2.2.2.1 x2) (.done (.done none)) (fun x12 =>
(elimO (idx x12 x3) (.done (.done none)) (fun x13 =>
(cnd (!(x13 == 0))
(.done (.done (some false)))
(.next (wr .i64 (x3 + 1))))))))
(.next (wr .i64 (x3 + 1)))))))))))))))
(elimO (ref05_Apart_t (x, (x2, x3))) (.done (.done none)) (fun x8 =>
(cnd (!x8)
(elimO (idx x.2.2.2.1 x2) (.done (.done none)) (fun x9 =>
(elimO (idx x9 x3) (.done (.done none)) (fun x10 =>
(cnd (!(x10 == 0))
(.done (.done (some false)))
(.next (wr .i64 (x3 + 1))))))))
(.next (wr .i64 (x3 + 1))))))))))))
(elimO (ref05_Apart_t (x, (x2, x3))) (.done (.done none)) (fun x6 =>
(cnd x6
(elimO (idx x.2.2.2.1 x2) (.done (.done none)) (fun x7 =>
(elimO (idx x7 x3) (.done (.done none)) (fun x8 =>
(elimO (idx x.2.1 x2) (.done (.done none)) (fun x9 =>
(letK (ref05_in (x8, (x9.2.2, 1048576))) (fun y1 =>
(cnd (!y1)
(.done (.done (some false)))
(elimO (ref05_Apart_t (x, (x2, x3))) (.done (.done none)) (fun x10 =>
(cnd (!x10)
(elimO (idx x.2.2.2.1 x2) (.done (.done none)) (fun x11 =>
(elimO (idx x11 x3) (.done (.done none)) (fun x12 =>
(cnd (!(x12 == 0))
(.done (.done (some false)))
(.next (wr .i64 (x3 + 1))))))))
(.next (wr .i64 (x3 + 1)))))))))))))))
(elimO (ref05_Apart_t (x, (x2, x3))) (.done (.done none)) (fun x7 =>
(cnd (!x7)
(elimO (idx x.2.2.2.1 x2) (.done (.done none)) (fun x8 =>
(elimO (idx x8 x3) (.done (.done none)) (fun x9 =>
(cnd (!(x9 == 0))
(.done (.done (some false)))
(.next (wr .i64 (x3 + 1))))))))
(.next (wr .i64 (x3 + 1)))))))))))))))
(.done (.next (wr .i64 (x2 + 1)))))) lots 0)
(.done (some true)))) lots 0)))) lots 0))))

/-- stoplineref02.With -/
def ref02_With_t (x : Int × Int) : Option (Int) :=
(cnd (((decide (x.2 < 0)) || (decide (31 < x.2))) || (ref02_Has x))
(some x.1)
(some (wr .u32 (x.1 + (shlop Go.IntKind.u32 1 (wr .u64 x.2))))))
def ref02_With (x : Int × Int) : Int :=
(cnd (((decide (x.2 < 0)) || (decide (31 < x.2))) || (ref02_Has x))
(x.1)
((wr .u32 (x.1 + (shlop Go.IntKind.u32 1 (wr .u64 x.2))))))
theorem ref02_With_e (x : Int × Int) : ref02_With_t x = some (ref02_With x) := by
  unfold ref02_With_t ref02_With
  simp only [cnd_some]

/-- stoplineref02.Count -/
def ref02_Count_t (x : Int) : Option (Int) :=
(iter none (fun x1 =>
(cnd (decide (x1.2 < 32))
(letK (ref02_Has (x, x1.2)) (fun y =>
(cnd y
(.next ((wr .i64 (x1.1 + 1)), (wr .i64 (x1.2 + 1))))
(.next (x1.1, (wr .i64 (x1.2 + 1)))))))
(.done (some x1.1)))) lots (0, 0))

/-- stoplineref05.phases -/
def ref05_phases_t (x : PSSite) : Option (Bool) :=
(letK (ref05_in ((llen x.2.2.2.2.1), (1, 8))) (fun y =>
(cnd (!y)
(some false)
(iter none (fun x1 =>
(cnd (decide (x1.2 < (llen x.2.2.2.2.1)))
(elimO (idx x.2.2.2.2.1 x1.2) (.done none) (fun x2 =>
(cnd ((x2.1 == 0) || (decide ((shlop Go.IntKind.u32 1 (wr .u64 (llen x.2.1))) ≤ x2.1)))
(.done (some false))
(iter (.done none) (fun x3 =>
(cnd (decide (x3.2.2 < (llen x.2.1)))
(letK (ref02_Has (x2.1, x3.2.2)) (fun y1 =>
(cnd (!y1)
(.next (x3.1, (x3.2.1, (wr .i64 (x3.2.2 + 1)))))
(letK (ref02_With (x3.1, x3.2.2)) (fun y2 =>
(elimO (idx x.2.1 x3.2.2) (.done (.done none)) (fun x4 =>
(iter (.done (.done none)) (fun x5 =>
(cnd (decide (x5 < (llen x.2.1)))
(letK (ref02_Has (x2.1, x5)) (fun y3 =>
(cnd y3
(elimO (ref05_Apart_t (x, (x3.2.2, x5))) (.done (.done (.done none))) (fun x6 =>
(cnd x6
(.done (.done (.done (some false))))
(.next (wr .i64 (x5 + 1))))))
(.next (wr .i64 (x5 + 1))))))
(.done (.next (y2, ((gmax x3.2.1 x4.2.1), (wr .i64 (x3.2.2 + 1)))))))) lots 0))))))))
(.done (letK (ref05_in (x2.2.1, (x3.2.1, 1048576))) (fun y1 =>
(cnd (((!y1) || (!(ref05_in (x2.2.2.1, (x2.2.1, 1048576))))) || (!(ref05_in (x2.2.2.2.1, (1, 1048576)))))
(.done (some false))
(.next (x3.1, (wr .i64 (x1.2 + 1)))))))))) lots (x1.1, (1, 0))))))
(.done (elimO (ref02_Count_t x1.1) none (fun x2 =>
(some (x2 == (llen x.2.1)))))))) lots (0, 0)))))

/-- stoplineref05.Clear -/
def ref05_Clear_t (x : PSSite × Int × Int) : Option (Int) :=
(iter none (fun x1 =>
(cnd (decide (x1.2 < (llen x.1.2.1)))
(iter (.done none) (fun x2 =>
(cnd (decide (x2.2 < (llen x.1.2.1)))
(elimO (idx x.1.2.2.2.2.1 x.2.1) (.done (.done none)) (fun x3 =>
(letK (ref02_Has (x3.1, x1.2)) (fun y =>
(cnd y
(elimO (idx x.1.2.2.2.2.1 x.2.2) (.done (.done none)) (fun x4 =>
(letK (ref02_Has (x4.1, x2.2)) (fun y1 =>
(cnd y1
(elimO (ref05_Apart_t (x.1, (x1.2, x2.2))) (.done (.done none)) (fun x5 =>
(cnd x5
(elimO (idx x.1.2.2.2.1 x1.2) (.done (.done none)) (fun x6 =>
(elimO (idx x6 x2.2) (.done (.done none)) (fun x7 =>
(.next ((gmax x2.1 x7), (wr .i64 (x2.2 + 1))))))))
(.next (x2.1, (wr .i64 (x2.2 + 1)))))))
(.next (x2.1, (wr .i64 (x2.2 + 1)))))))))
(.next (x2.1, (wr .i64 (x2.2 + 1)))))))))
(.done (.next (x2.1, (wr .i64 (x1.2 + 1))))))) lots (x1.1, 0))
(.done (some x1.1)))) lots (0, 0))

/-- stoplineref05.needs -/
def ref05_needs_t (x : PSSite × Int) : Option (Int) :=
(elimO (idx x.1.2.2.2.2.1 x.2) none (fun x1 =>
(cnd (!((llen x.1.2.2.2.2.1) == 0))
(elimO (ref05_Clear_t (x.1, (x.2, (irem (wr .i64 (x.2 + 1)) (llen x.1.2.2.2.2.1))))) none (fun x2 =>
(some (wr .i64 (x1.2.1 + x2)))))
 none)))

/-- stoplineref05.Round -/
def ref05_Round_t (x : PSSite) : Option (Int) :=
(iter none (fun x1 =>
(cnd (decide (x1.2 < (llen x.2.2.2.2.1)))
(elimO (ref05_needs_t (x, x1.2)) (.done none) (fun x2 =>
(.next ((wr .i64 (x1.1 + x2)), (wr .i64 (x1.2 + 1))))))
(.done (some x1.1)))) lots (0, 0))

/-- stoplineref05.PlanMay -/
def ref05_PlanMay_t (x : PSSite × PSPlan) : Option (Bool) :=
(letK (ref05_in (x.2.1, (x.1.2.2.2.2.2.2.2.2.2.1, x.1.2.2.2.2.2.2.2.2.2.2.1))) (fun y =>
(cnd (((!y) || (!(ref05_in (x.2.2.1, (0, (wr .i64 (x.2.1 - 1))))))) || (!((llen x.2.2.2) == (llen x.1.2.2.2.2.1))))
(some false)
(iter none (fun x1 =>
(cnd (decide (x1.2 < (llen x.2.2.2)))
(elimO (idx x.2.2.2 x1.2) (.done none) (fun x2 =>
(elimO (ref05_needs_t (x.1, x1.2)) (.done none) (fun x3 =>
(letK (ref05_in (x2, (x3, x1.1))) (fun y1 =>
(cnd (!y1)
(.done (some false))
(elimO (idx x.2.2.2 x1.2) (.done none) (fun x4 =>
(.next ((wr .i64 (x1.1 - x4)), (wr .i64 (x1.2 + 1)))))))))))))
(.done (some (x1.1 == 0))))) lots (x.2.1, 0)))))

/-- stoplineref05.Check -/
def ref05_Check_t (x : PSSite) : Option (Int) :=
(elimO (ref05_groups_t x) none (fun x1 =>
(cnd (!x1)
(some 50)
(elimO (ref05_phases_t x) none (fun x2 =>
(cnd (((!x2) || (decide (24 < (llen x.2.2.2.2.2.1)))) || (decide (8 < (llen x.2.2.2.2.2.2.2.2.2.2.2))))
(some 50)
(iter none (fun x3 =>
(cnd (decide (x3 < (llen x.2.2.2.2.2.1)))
(elimO (idx x.2.2.2.2.2.1 x3) (.done none) (fun x4 =>
(letK (ref05_in (x4.1, (0, (wr .i64 ((llen x.2.2.2.2.1) - 1))))) (fun y =>
(cnd ((((!y) || (!(ref05_in (x4.2.1, (1, 1048576))))) || (!(ref05_in (x4.2.2.1, (1, 1048576))))) || (!(ref05_in (x4.2.2.2, (1, 64)))))
(.done (some 50))
(.next (wr .i64 (x3 + 1))))))))
(.done (letK (ref05_in (x.2.2.2.2.2.2.1, (1, 1048576))) (fun y =>
(cnd (((!y) || (!(ref05_in (x.2.2.2.2.2.2.2.1, (1, 1048576))))) || (!(ref05_in (x.2.2.2.2.2.2.2.2.1, (1, 1048576)))))
(some 50)
(elimO (ref05_Round_t x) none (fun x4 =>
(letK (ref05_in (x.2.2.2.2.2.2.2.2.2.1, (x4, 1048576))) (fun y1 =>
(cnd ((!y1) || (!(ref05_in (x.2.2.2.2.2.2.2.2.2.2.1, (x.2.2.2.2.2.2.2.2.2.1, 1048576)))))
(some 50)
(iter none (fun x5 =>
(cnd (decide (x5 < (llen x.2.2.2.2.2.2.2.2.2.2.2)))
(elimO (idx x.2.2.2.2.2.2.2.2.2.2.2 x5) (.done none) (fun x6 =>
(elimO (ref05_PlanMay_t (x, x6)) (.done none) (fun x7 =>
(cnd (!x7)
(.done (some 50))
(.next (wr .i64 (x5 + 1))))))))
(.done (some 0)))) lots 0)))))))))))) lots 0)))))))

/-- stoplineref13.May -/
def ref13_May_t (x : PSLooked) : Option (Bool) :=
(some (((((decide (0 ≤ x.2.1)) && (decide (x.2.1 ≤ 1048576))) && (decide (0 ≤ x.2.2.2.2))) && (decide (x.2.2.2.2 ≤ 1048576))) && (x.2.2.2.1 || (x.2.2.2.2 == 0))))
def ref13_May (x : PSLooked) : Bool :=
((((((decide (0 ≤ x.2.1)) && (decide (x.2.1 ≤ 1048576))) && (decide (0 ≤ x.2.2.2.2))) && (decide (x.2.2.2.2 ≤ 1048576))) && (x.2.2.2.1 || (x.2.2.2.2 == 0))))
theorem ref13_May_e (x : PSLooked) : ref13_May_t x = some (ref13_May x) := by
  unfold ref13_May_t ref13_May
  rfl

/-- stoplineref13.count -/
def ref13_count_t (x : Int) : Option (Int) :=
(cnd (!(4294967296 == 0))
(elimO (ref02_Count_t (wr .u32 (irem x 4294967296))) none (fun x1 =>
(cnd (!(4294967296 == 0))
(elimO (ref02_Count_t (wr .u32 (quoop Go.IntKind.u64 x 4294967296))) none (fun x2 =>
(some (wr .i64 (x1 + x2)))))
 none)))
 none)

/-- stoplineref13.step -/
def ref13_step_t (x : PSSite × Int × PSLooked × Bool) : Option (PSLooked) :=
(elimO (idx x.1.2.2.2.2.2.1 x.2.1) none (fun x1 =>
(cnd (!(x.2.2.2 == x.2.2.1.1))
(cnd ((x.2.2.2 && (decide (x1.2.1 ≤ 1))) || ((!x.2.2.2) && (decide (x1.2.2.1 ≤ 1))))
(some (x.2.2.2, (1, ((wr .u64 ((wr .u64 (x.2.2.1.2.2.1 * 2)) + 1)), (true, 0)))))
(elimO (ref13_count_t (wr .u64 ((wr .u64 (x.2.2.1.2.2.1 * 2)) + 1))) none (fun x2 =>
(cnd (decide (x1.2.2.2 < x2))
(some (x.2.2.2, (1, ((wr .u64 ((wr .u64 (x.2.2.1.2.2.1 * 2)) + 1)), (true, 0)))))
(cnd x.2.2.1.2.2.2.1
(cnd (decide (x.1.2.2.2.2.2.2.2.2.1 ≤ (wr .i64 (x.2.2.1.2.2.2.2 + 1))))
(some (x.2.2.2, (1, ((wr .u64 ((wr .u64 (x.2.2.1.2.2.1 * 2)) + 1)), (false, 0)))))
(some (x.2.2.2, (1, ((wr .u64 ((wr .u64 (x.2.2.1.2.2.1 * 2)) + 1)), (x.2.2.1.2.2.2.1, (wr .i64 (x.2.2.1.2.2.2.2 + 1))))))))
(some (x.2.2.2, (1, ((wr .u64 ((wr .u64 (x.2.2.1.2.2.1 * 2)) + 1)), x.2.2.1.2.2.2)))))))))
(cnd ((x.2.2.2 && (decide (x1.2.1 ≤ (gmin (wr .i64 (x.2.2.1.2.1 + 1)) 1048576)))) || ((!x.2.2.2) && (decide (x1.2.2.1 ≤ (gmin (wr .i64 (x.2.2.1.2.1 + 1)) 1048576)))))
(some (x.2.2.2, ((gmin (wr .i64 (x.2.2.1.2.1 + 1)) 1048576), ((wr .u64 (x.2.2.1.2.2.1 * 2)), (true, 0)))))
(elimO (ref13_count_t (wr .u64 (x.2.2.1.2.2.1 * 2))) none (fun x2 =>
(cnd (decide (x1.2.2.2 < x2))
(some (x.2.2.2, ((gmin (wr .i64 (x.2.2.1.2.1 + 1)) 1048576), ((wr .u64 (x.2.2.1.2.2.1 * 2)), (true, 0)))))
(cnd x.2.2.1.2.2.2.1
(cnd (decide (x.1.2.2.2.2.2.2.2.2.1 ≤ (wr .i64 (x.2.2.1.2.2.2.2 + 1))))
(some (x.2.2.2, ((gmin (wr .i64 (x.2.2.1.2.1 + 1)) 1048576), ((wr .u64 (x.2.2.1.2.2.1 * 2)), (false, 0)))))
(some (x.2.2.2, ((gmin (wr .i64 (x.2.2.1.2.1 + 1)) 1048576), ((wr .u64 (x.2.2.1.2.2.1 * 2)), (x.2.2.1.2.2.2.1, (wr .i64 (x.2.2.1.2.2.2.2 + 1))))))))
(some (x.2.2.2, ((gmin (wr .i64 (x.2.2.1.2.1 + 1)) 1048576), ((wr .u64 (x.2.2.1.2.2.1 * 2)), x.2.2.1.2.2.2))))))))))))

/-- stoplineref13.Next -/
def ref13_Next_t (x : PSSite × Int × PSLooked × Bool) : Option (PSLooked × Int) :=
(elimO (ref05_Check_t x.1) none (fun x1 =>
(cnd (!(x1 == 0))
(some ((false, (0, (0, (false, 0)))), x1))
(cnd ((decide (x.2.1 < 0)) || (decide ((llen x.1.2.2.2.2.2.1) ≤ x.2.1)))
(some ((false, (0, (0, (false, 0)))), 2))
(letK (ref13_May x.2.2.1) (fun y =>
(cnd (!y)
(some ((false, (0, (0, (false, 0)))), 8))
(elimO (ref13_step_t x) none (fun x2 =>
(some (x2, 0)))))))))))

/-- stoplineref13.Asked -/
def ref13_Asked_t (x : PSSite × List PSLooked) : Option (Int) :=
(elimO (ref05_Check_t x.1) none (fun x1 =>
(cnd (!(x1 == 0))
(some x1)
(cnd (!((llen x.2) == (llen x.1.2.2.2.2.2.1)))
(some 4)
(iter none (fun x2 =>
(cnd (decide (x2 < (llen x.2)))
(elimO (idx x.2 x2) (.done none) (fun x3 =>
(letK (ref13_May x3) (fun y =>
(cnd (!y)
(.done (some 8))
(.next (wr .i64 (x2 + 1))))))))
(.done (some 0)))) lots 0)))))

/-- stoplineref13.All -/
def ref13_All_t (x : PSSite × List PSLooked × Int) : Option (List PSLooked × Int) :=
(elimO (ref13_Asked_t (x.1, x.2.1)) none (fun x1 =>
(cnd (!(x1 == 0))
(some ([], x1))
(iter none (fun x2 =>
(cnd (decide (x2.2 < (llen x.2.1)))
(elimO (idx x.2.1 x2.2) (.done none) (fun x3 =>
(letK (ref02_Has (x.2.2, x2.2)) (fun y =>
(elimO (ref13_step_t (x.1, (x2.2, (x3, y)))) (.done none) (fun x4 =>
(cnd (true && (roomOK ((llen x2.1) + (llen (x4 :: []))) 40))
(.next ((x2.1 ++ (x4 :: [])), (wr .i64 (x2.2 + 1))))
(.done none))))))))
(.done (some (x2.1, 0))))) lots ([], 0)))))

/-- stoplineref13.Well -/
def ref13_Well_t (x : PSSite × List PSLooked) : Option (Bool × Int) :=
(elimO (ref13_Asked_t x) none (fun x1 =>
(cnd (!(x1 == 0))
(some (false, x1))
(iter none (fun x2 =>
(cnd (decide (x2 < (llen x.1.2.2.2.2.1)))
(iter (.done none) (fun x3 =>
(cnd (decide (x3.2.2 < (llen x.2)))
(elimO (idx x.1.2.2.2.2.2.1 x3.2.2) (.done (.done none)) (fun x4 =>
(cnd (x4.1 == x2)
(cnd x3.2.1
(.next (true, (true, (wr .i64 (x3.2.2 + 1)))))
(elimO (idx x.2 x3.2.2) (.done (.done none)) (fun x5 =>
(.next (true, ((!x5.2.2.2.1), (wr .i64 (x3.2.2 + 1))))))))
(.next (x3.1, (x3.2.1, (wr .i64 (x3.2.2 + 1))))))))
(.done (cnd (x3.1 && (!x3.2.1))
(.done (some (false, 0)))
(.next (wr .i64 (x2 + 1))))))) lots (false, (false, 0)))
(.done (some (true, 0))))) lots 0))))

/-- stoplineref13.Same -/
def ref13_Same_t (x : List PSLooked × List PSLooked) : Option (Bool) :=
(cnd (!((llen x.1) == (llen x.2)))
(some false)
(iter none (fun x1 =>
(cnd (decide (x1 < (llen x.1)))
(elimO (idx x.1 x1) (.done none) (fun x2 =>
(elimO (idx x.2 x1) (.done none) (fun x3 =>
(cnd (!((x2.1 == x3.1) && ((x2.2.1 == x3.2.1) && ((x2.2.2.1 == x3.2.2.1) && ((x2.2.2.2.1 == x3.2.2.2.1) && ((x2.2.2.2.2 == x3.2.2.2.2) && true))))))
(.done (some false))
(.next (wr .i64 (x1 + 1))))))))
(.done (some true)))) lots 0))

/-- stoplineref13.Wants -/
def ref13_Wants_t (x : PSLooked) : Option (Bool) :=
(some (x.1 || x.2.2.2.1))
def ref13_Wants (x : PSLooked) : Bool :=
((x.1 || x.2.2.2.1))
theorem ref13_Wants_e (x : PSLooked) : ref13_Wants_t x = some (ref13_Wants x) := by
  unfold ref13_Wants_t ref13_Wants
  rfl

/-- stoplinelaw13.EyeTicks -/
def law13_EyeTicks_t (x : PSSite × Int × PSLooked × List PSLooked × Int) : Option (Bool) :=
(elimO (ref05_Great_t x.1) none (fun x1 =>
(cnd (x1 || (decide (60 < (llen x.2.2.2.1))))
(some true)
(cnd (true && (roomOK (0 + (llen x.2.2.2.1)) 40))
(cnd (!(2 == 0))
(elimO (eye_Next_t (x.1, (x.2.1, (x.2.2.1, ((irem x.2.2.2.2 2) == 1))))) none (fun x2 =>
(elimO (ref13_Next_t (x.1, (x.2.1, (x.2.2.1, ((irem x.2.2.2.2 2) == 1))))) none (fun x3 =>
(elimO (eye_All_t (x.1, (([] ++ x.2.2.2.1), x.2.2.2.2))) none (fun x4 =>
(elimO (ref13_All_t (x.1, x.2.2.2)) none (fun x5 =>
(elimO (eye_Well_t (x.1, ([] ++ x.2.2.2.1))) none (fun x6 =>
(elimO (ref13_Well_t (x.1, x.2.2.2.1)) none (fun x7 =>
(cnd ((!((x2.1.1 == x3.1.1) && ((x2.1.2.1 == x3.1.2.1) && ((x2.1.2.2.1 == x3.1.2.2.1) && ((x2.1.2.2.2.1 == x3.1.2.2.2.1) && ((x2.1.2.2.2.2 == x3.1.2.2.2.2) && true)))))) || (!(x2.2 == x3.2)))
(some false)
(elimO (ref13_Same_t (x4.1, x5.1)) none (fun x8 =>
(cnd ((((((!x8) || (!(x4.2 == x5.2))) || (!(x6.1 == x7.1))) || (!(x6.2 == x7.2))) || ((eye_Believed x.2.2.1) == x.2.2.1.2.2.2.1)) || (!((eye_Wants x.2.2.1) == (ref13_Wants x.2.2.1))))
(some false)
(iter none (fun x9 =>
(cnd (decide (x9.1 < (llen x9.2)))
(elimO (idx x9.2 x9.1) (.done none) (fun _ =>
(elimO (idx x9.2 x9.1) (.done none) (fun _ =>
(.next ((wr .i64 (x9.1 + 1)), (lset x9.2 x9.1 (false, (77, (0, (false, 0)))))))))))
(.done (elimO (ref13_Same_t (([] ++ x.2.2.2.1), x.2.2.2.1)) none (fun x10 =>
(some x10)))))) lots (0, x4.1))))))))))))))))))
 none)
 none))))

/-- stoplinelaw14.seen -/
def law14_seen_t (_ : Unit) : Option (PSSite) :=
(some (0, (((1, (2, 1)) :: ((1, (2, 1)) :: [])), ((2 :: (1 :: [])), (((0 :: (2 :: [])) :: ((2 :: (0 :: [])) :: [])), (((1, (2, (5, (1, false)))) :: ((2, (2, (5, (1, true)))) :: [])), (((0, (3, (9, 2))) :: []), (3, (2, (4, (8, (20, []))))))))))))
def law14_seen (_ : Unit) : PSSite :=
((0, (((1, (2, 1)) :: ((1, (2, 1)) :: [])), ((2 :: (1 :: [])), (((0 :: (2 :: [])) :: ((2 :: (0 :: [])) :: [])), (((1, (2, (5, (1, false)))) :: ((2, (2, (5, (1, true)))) :: [])), (((0, (3, (9, 2))) :: []), (3, (2, (4, (8, (20, []))))))))))))
theorem law14_seen_e (x : Unit) : law14_seen_t x = some (law14_seen x) := by
  unfold law14_seen_t law14_seen
  rfl

/-- call.Real -/
def call_Real_t (x : PSSite × List PSLooked) : Option (Int × Int) :=
(elimO (eye_Well_t x) none (fun x1 =>
(cnd (!(x1.2 == 0))
(some (0, x1.2))
(iter none (fun x2 =>
(cnd (decide (x2.2 < (llen x.1.2.2.2.2.1)))
(elimO (idx x.1.2.2.2.2.1 x2.2) (.done none) (fun x3 =>
(cnd x3.2.2.2.2
(cnd (decide (0 ≤ x2.2))
(.next ((bitop Go.BinOp.or Go.IntKind.u32 x2.1 (shlop Go.IntKind.u32 1 x2.2)), (wr .i64 (x2.2 + 1))))
(.done none))
(.next (x2.1, (wr .i64 (x2.2 + 1)))))))
(.done (iter none (fun x3 =>
(cnd (decide (x3.2 < (llen x.2)))
(elimO (idx x.2 x3.2) (.done none) (fun x4 =>
(letK (eye_Wants x4) (fun y =>
(cnd y
(elimO (idx x.1.2.2.2.2.2.1 x3.2) (.done none) (fun x5 =>
(cnd (decide (0 ≤ x5.1))
(.next ((bitop Go.BinOp.or Go.IntKind.u32 x3.1 (shlop Go.IntKind.u32 1 x5.1)), (wr .i64 (x3.2 + 1))))
(.done none))))
(.next (x3.1, (wr .i64 (x3.2 + 1)))))))))
(.done (some (x3.1, 0))))) lots (x2.1, 0))))) lots (0, 0)))))

/-- stoplinelaw14.up -/
def law14_up_t (_ : Unit) : Option (List PSLooked) :=
(some ((true, (0, (0, (false, 0)))) :: []))
def law14_up (_ : Unit) : List PSLooked :=
(((true, (0, (0, (false, 0)))) :: []))
theorem law14_up_e (x : Unit) : law14_up_t x = some (law14_up x) := by
  unfold law14_up_t law14_up
  rfl

/-- call.asked -/
def call_asked_t (x : PSSite × Int × Int) : Option (Int) :=
(cnd (decide (0 ≤ (llen x.1.2.2.2.2.1)))
(cnd (!((shrop Go.IntKind.u32 x.2.1 (llen x.1.2.2.2.2.1)) == 0))
(some 8)
(cnd ((decide (x.2.2 < (-1))) || (decide ((llen x.1.2.2.2.2.1) ≤ x.2.2)))
(some 2)
(some 0)))
 none)

/-- call.Next -/
def call_Next_t (x : PSSite × Int × List PSLooked × Int) : Option (Int × Int) :=
(elimO (call_Real_t (x.1, x.2.2.1)) none (fun x1 =>
(cnd (!(x1.2 == 0))
(some (0, x1.2))
(elimO (call_asked_t (x.1, (x.2.1, x.2.2.2))) none (fun x2 =>
(cnd (!(x2 == 0))
(some (0, x2))
(letK (ring_Without ((bitop Go.BinOp.or Go.IntKind.u32 x.2.1 x1.1), x.2.2.2)) (fun y =>
(some (y, 0))))))))))

/-- call.First -/
def call_First_t (x : PSSite × Int × Int) : Option (Int × Int) :=
(elimO (site_Check_t x.1) none (fun x1 =>
(cnd (!(x1 == 0))
(some (0, x1))
(elimO (call_asked_t x) none (fun x2 =>
(cnd (!(x2 == 0))
(some (0, x2))
(iter none (fun x3 =>
(cnd (decide (x3 ≤ (llen x.1.2.2.2.2.1)))
(cnd (!((llen x.1.2.2.2.2.1) == 0))
(letK (ring_Has (x.2.1, (irem (wr .i64 ((wr .i64 (x.2.2 + x3)) + (llen x.1.2.2.2.2.1))) (llen x.1.2.2.2.2.1)))) (fun y =>
(cnd y
(.done (some ((irem (wr .i64 ((wr .i64 (x.2.2 + x3)) + (llen x.1.2.2.2.2.1))) (llen x.1.2.2.2.2.1)), 0)))
(.next (wr .i64 (x3 + 1))))))
(.done none))
(.done (some ((-1), 0))))) lots 1)))))))

/-- stoplinelaw14.alive -/
def law14_alive_t (_ : Unit) : Option (Bool) :=
(letK (law14_seen ()) (fun y =>
(letK (law14_up ()) (fun y1 =>
(elimO (call_Next_t (y, (0, (y1, (-1))))) none (fun x1 =>
(letK (law14_seen ()) (fun y2 =>
(elimO (call_First_t (y2, (x1.1, 0))) none (fun x2 =>
(some ((((x1.2 == 0) && (x1.1 == 3)) && (x2.2 == 0)) && (x2.1 == 1)))))))))))))

/-- stoplinelaw14.CallNames -/
def law14_CallNames_t (_ : Unit) : Option (Bool) :=
(letK (law14_seen ()) (fun y =>
(cnd ((decide (0 ≤ 1)) && ((decide (1 ≤ 1)) && (makeOK 1 40)))
(elimO (call_Real_t (y, (lrep 1 (false, (0, (0, (false, 0))))))) none (fun x1 =>
(letK (law14_up ()) (fun y1 =>
(elimO (call_Real_t (y, y1)) none (fun x2 =>
(letK (law14_up ()) (fun y2 =>
(elimO (call_Next_t (y, (0, (y2, 0)))) none (fun x3 =>
(elimO (call_Next_t (y, (1, ((lrep 1 (false, (0, (0, (false, 0))))), (-1))))) none (fun x4 =>
(elimO (call_Next_t (y, (1, ((lrep 1 (false, (0, (0, (false, 0))))), 1)))) none (fun x5 =>
(elimO (call_First_t (y, (1, 0))) none (fun x6 =>
(elimO (call_First_t (y, (0, 1))) none (fun x7 =>
(elimO (call_First_t (y, (3, (-1)))) none (fun x8 =>
(elimO (call_Next_t (y, (4, ((lrep 1 (false, (0, (0, (false, 0))))), 0)))) none (fun x9 =>
(elimO (call_First_t (y, (0, 2))) none (fun x10 =>
(elimO (call_Real_t (y, [])) none (fun x11 =>
(elimO (call_First_t ((0, ([], ([], ([], ([], ([], (0, (0, (0, (0, (0, []))))))))))), (0, 0))) none (fun x12 =>
(elimO (law14_alive_t ()) none (fun x13 =>
(some ((((((((((((((((((((x13 && (x1.1 == 2)) && (x1.2 == 0)) && (x2.1 == 3)) && (x2.2 == 0)) && (x3.1 == 2)) && (x3.2 == 0)) && (x4.1 == 3)) && (x4.2 == 0)) && (x5.1 == 1)) && (x5.2 == 0)) && (x6.1 == 0)) && (x6.2 == 0)) && (x7.1 == (-1))) && (x7.2 == 0)) && (x8.1 == 0)) && (x8.2 == 0)) && (x9.2 == 8)) && (x10.2 == 2)) && (x11.2 == 4)) && (x12.2 == 50)))))))))))))))))))))))))))))))))
 none)))

/-- stoplineref14.Real -/
def ref14_Real_t (x : PSSite × List PSLooked) : Option (Int × Int) :=
(elimO (ref13_Asked_t x) none (fun x1 =>
(cnd (!(x1 == 0))
(some (0, x1))
(iter none (fun x2 =>
(cnd (decide (x2.2 < (llen x.1.2.2.2.2.1)))
(elimO (idx x.1.2.2.2.2.1 x2.2) (.done none) (fun x3 =>
(iter (.done none) (fun x4 =>
(cnd (decide (x4.2 < (llen x.2)))
(cnd x4.1
(.next (true, (wr .i64 (x4.2 + 1))))
(elimO (idx x.1.2.2.2.2.2.1 x4.2) (.done (.done none)) (fun x5 =>
(cnd (x5.1 == x2.2)
(elimO (idx x.2 x4.2) (.done (.done none)) (fun x6 =>
(letK (ref13_Wants x6) (fun y =>
(.next (y, (wr .i64 (x4.2 + 1))))))))
(.next (false, (wr .i64 (x4.2 + 1))))))))
(.done (cnd x4.1
(letK (ref02_With x2) (fun y =>
(.next (y, (wr .i64 (x2.2 + 1))))))
(.next (x2.1, (wr .i64 (x2.2 + 1)))))))) lots (x3.2.2.2.2, 0))))
(.done (some (x2.1, 0))))) lots (0, 0)))))

/-- stoplineref14.May -/
def ref14_May_t (x : PSSite × Int) : Option (Bool) :=
(some (decide (x.2 < (shlop Go.IntKind.u32 1 (wr .u64 (llen x.1.2.2.2.2.1))))))
def ref14_May (x : PSSite × Int) : Bool :=
((decide (x.2 < (shlop Go.IntKind.u32 1 (wr .u64 (llen x.1.2.2.2.2.1))))))
theorem ref14_May_e (x : PSSite × Int) : ref14_May_t x = some (ref14_May x) := by
  unfold ref14_May_t ref14_May
  rfl

/-- stoplineref14.Next -/
def ref14_Next_t (x : PSSite × Int × List PSLooked × Int) : Option (Int × Int) :=
(elimO (ref14_Real_t (x.1, x.2.2.1)) none (fun x1 =>
(cnd (!(x1.2 == 0))
(some (0, x1.2))
(letK (ref14_May (x.1, x.2.1)) (fun y =>
(cnd (!y)
(some (0, 8))
(cnd ((decide (x.2.2.2 < (-1))) || (decide ((llen x.1.2.2.2.2.1) ≤ x.2.2.2)))
(some (0, 2))
(iter none (fun x2 =>
(cnd (decide (x2.2 < (llen x.1.2.2.2.2.1)))
(cnd ((!(x2.2 == x.2.2.2)) && ((ref02_Has (x.2.1, x2.2)) || (ref02_Has (x1.1, x2.2))))
(letK (ref02_With x2) (fun y1 =>
(.next (y1, (wr .i64 (x2.2 + 1))))))
(.next (x2.1, (wr .i64 (x2.2 + 1)))))
(.done (some (x2.1, 0))))) lots (0, 0)))))))))

/-- stoplineref14.First -/
def ref14_First_t (x : PSSite × Int × Int) : Option (Int × Int) :=
(elimO (ref05_Check_t x.1) none (fun x1 =>
(cnd (!(x1 == 0))
(some (0, x1))
(letK (ref14_May (x.1, x.2.1)) (fun y =>
(cnd (!y)
(some (0, 8))
(cnd ((decide (x.2.2 < (-1))) || (decide ((llen x.1.2.2.2.2.1) ≤ x.2.2)))
(some (0, 2))
(iter none (fun x2 =>
(cnd (decide (x2 < (llen x.1.2.2.2.2.1)))
(letK (ref02_Has (x.2.1, x2)) (fun y1 =>
(cnd y1
(.done (some (x2, 0)))
(.next (wr .i64 (x2 + 1))))))
(.done (iter none (fun x3 =>
(cnd (decide (x3 ≤ x.2.2))
(letK (ref02_Has (x.2.1, x3)) (fun y1 =>
(cnd y1
(.done (some (x3, 0)))
(.next (wr .i64 (x3 + 1))))))
(.done (some ((-1), 0))))) lots 0)))) lots (wr .i64 (x.2.2 + 1))))))))))

/-- stoplinelaw14.CallTells -/
def law14_CallTells_t (x : PSSite × Int × List PSLooked × Int) : Option (Bool) :=
(elimO (ref05_Great_t x.1) none (fun x1 =>
(cnd (x1 || (decide (60 < (llen x.2.2.1))))
(some true)
(cnd (true && (roomOK (0 + (llen x.2.2.1)) 40))
(elimO (call_Real_t (x.1, ([] ++ x.2.2.1))) none (fun x2 =>
(elimO (ref14_Real_t (x.1, x.2.2.1)) none (fun x3 =>
(elimO (call_Next_t (x.1, (x.2.1, (([] ++ x.2.2.1), x.2.2.2)))) none (fun x4 =>
(elimO (ref14_Next_t x) none (fun x5 =>
(elimO (call_First_t (x.1, (x.2.1, x.2.2.2))) none (fun x6 =>
(elimO (ref14_First_t (x.1, (x.2.1, x.2.2.2))) none (fun x7 =>
(cnd ((((((x2.1 == x3.1) && (x2.2 == x3.2)) && (x4.1 == x5.1)) && (x4.2 == x5.2)) && (x6.1 == x7.1)) && (x6.2 == x7.2))
(elimO (ref13_Same_t (([] ++ x.2.2.1), x.2.2.1)) none (fun x8 =>
(some x8)))
(some false))))))))))))))
 none))))

/-- stoplinelaw14.CallKept -/
def law14_CallKept_t (x : PSSite × Int × List PSLooked × Int) : Option (Bool) :=
(elimO (law14_alive_t ()) none (fun x1 =>
(cnd (!x1)
(some false)
(elimO (ref05_Great_t x.1) none (fun x2 =>
(cnd (x2 || (decide (60 < (llen x.2.2.1))))
(some x1)
(elimO (site_Check_t x.1) none (fun x3 =>
(cnd (!(x3 == 0))
(some x1)
(elimO (call_Next_t x) none (fun x4 =>
(cnd (!(x4.2 == 0))
(some (x1 && (x4.1 == 0)))
(cnd (!((llen x.2.2.1) == (llen x.1.2.2.2.2.2.1)))
(some false)
(iter none (fun x5 =>
(cnd (decide (x5 < 32))
(joinPt (fun x6 =>
(iter (.done none) (fun x7 =>
(cnd (decide (x7.2 < (llen x.2.2.1)))
(joinPt (fun x8 =>
(.next (x8, (wr .i64 (x7.2 + 1))))) (fun k =>
(cnd x7.1
(k true)
(elimO (idx x.1.2.2.2.2.2.1 x7.2) (.done (.done none)) (fun x8 =>
(cnd (x8.1 == x5)
(elimO (idx x.2.2.1 x7.2) (.done (.done none)) (fun x9 =>
(cnd x9.1
(k true)
(elimO (idx x.2.2.1 x7.2) (.done (.done none)) (fun x10 =>
(k x10.2.2.2.1))))))
(k false)))))))
(.done (cnd (!(2 == 0))
(cnd (!(x5 == x.2.2.2))
(cnd x7.1
(cnd (!(((irem (shrop Go.IntKind.u32 x4.1 (wr .u64 x5)) 2) == 1) == true))
(.done (some false))
(.next (wr .i64 (x5 + 1))))
(cnd (!(2 == 0))
(cnd (!(((irem (shrop Go.IntKind.u32 x4.1 (wr .u64 x5)) 2) == 1) == ((irem (shrop Go.IntKind.u32 x.2.1 (wr .u64 x5)) 2) == 1)))
(.done (some false))
(.next (wr .i64 (x5 + 1))))
(.done none)))
(cnd (!(((irem (shrop Go.IntKind.u32 x4.1 (wr .u64 x5)) 2) == 1) == false))
(.done (some false))
(.next (wr .i64 (x5 + 1)))))
(.done none))))) lots (x6, 0))) (fun k =>
(cnd (decide (x5 < (llen x.1.2.2.2.2.1)))
(elimO (idx x.1.2.2.2.2.1 x5) (.done none) (fun x6 =>
(k x6.2.2.2.2)))
(k false))))
(.done (some x1)))) lots 0))))))))))))))

/-- stoplinelaw14.CallRound -/
def law14_CallRound_t (x : PSSite × Int × Int) : Option (Bool) :=
(elimO (law14_alive_t ()) none (fun x1 =>
(cnd (!x1)
(some false)
(elimO (ref05_Great_t x.1) none (fun x2 =>
(cnd x2
(some x1)
(elimO (site_Check_t x.1) none (fun x3 =>
(cnd (!(x3 == 0))
(some x1)
(elimO (call_First_t x) none (fun x4 =>
(cnd (!(x4.2 == 0))
(some (x1 && (x4.1 == 0)))
(cnd (x.2.1 == 0)
(some (x1 && (x4.1 == (-1))))
(iter none (fun x5 =>
(cnd (!(x5.2 == x.2.1))
(cnd ((decide (x5.1 < 0)) || (decide (31 < x5.1)))
(.done (some false))
(cnd (!(2 == 0))
(cnd ((irem (shrop Go.IntKind.u32 x.2.1 (wr .u64 x5.1)) 2) == 0)
(.done (some false))
(cnd (!(2 == 0))
(cnd ((irem (shrop Go.IntKind.u32 x5.2 (wr .u64 x5.1)) 2) == 1)
(.done (some false))
(elimO (call_First_t (x.1, (x.2.1, x5.1))) (.done none) (fun x6 =>
(cnd (!(x6.2 == 0))
(.done (some false))
(.next (x6.1, (bitop Go.BinOp.or Go.IntKind.u32 x5.2 (shlop Go.IntKind.u32 1 (wr .u64 x5.1)))))))))
(.done none)))
(.done none)))
(.done (elimO (call_First_t x) none (fun x6 =>
(some ((x1 && (x6.2 == 0)) && (x5.1 == x6.1)))))))) lots (x4.1, 0)))))))))))))))

/-- stoplinelaw14.CallNearest -/
def law14_CallNearest_t (x : PSSite × Int × Int) : Option (Bool) :=
(elimO (law14_alive_t ()) none (fun x1 =>
(cnd (!x1)
(some false)
(elimO (ref05_Great_t x.1) none (fun x2 =>
(cnd x2
(some x1)
(elimO (site_Check_t x.1) none (fun x3 =>
(cnd (!(x3 == 0))
(some x1)
(elimO (call_First_t x) none (fun x4 =>
(cnd ((!(x4.2 == 0)) || (decide (x4.1 < 0)))
(some (x1 && ((!(x4.2 == 0)) || (x.2.1 == 0))))
(iter none (fun x5 =>
(cnd (decide (x5 ≤ (llen x.1.2.2.2.2.1)))
(cnd (!((llen x.1.2.2.2.2.1) == 0))
(cnd ((irem (wr .i64 ((wr .i64 (x.2.2 + x5)) + (llen x.1.2.2.2.2.1))) (llen x.1.2.2.2.2.1)) == x4.1)
(cnd x1
(cnd (!(2 == 0))
(.done (some ((irem (shrop Go.IntKind.u32 x.2.1 (wr .u64 x4.1)) 2) == 1)))
(.done none))
(.done (some false)))
(cnd (!(2 == 0))
(cnd ((irem (shrop Go.IntKind.u32 x.2.1 (wr .u64 (irem (wr .i64 ((wr .i64 (x.2.2 + x5)) + (llen x.1.2.2.2.2.1))) (llen x.1.2.2.2.2.1)))) 2) == 1)
(.done (some false))
(.next (wr .i64 (x5 + 1))))
(.done none)))
(.done none))
(.done (some false)))) lots 1)))))))))))))

end Go.Proofs.YtiacnaijablgcaaDoor
