/- Part of a proof: plain readings of Go functions, their contracts, or plain facts of them. -/
import Derived.Test.YtnkhijnppfnomaaDoorRows
import Derived.Test.YtnkhijnppfnomaaDoorLadP
import Derived.Lib.Walk
import Derived.Tactics
namespace Go.Proofs.YtnkhijnppfnomaaDoor
open Go.Den Go.RowKit Go.ChangeShapes

theorem hmix : Tryd.prog.follows .mixedOrders = true := by kernel_rfl
theorem laidOut : laidOutB Tryd.prog = true := by kernel_rfl
theorem own : ownKnob Tryd.prog.godebug = none := by kernel_rfl
def V : World → Prop := fun w => ∃ cs t, w.heap[0]? = some (.cells cs t (0, 0)) ∧ cs.toList = Lib.deBruijn32tab.map fun (n : Nat) => Value.int .u8 (n : Int)
theorem stays : Stays V := fun w w' hb ⟨cs, t, h1, h2⟩ => ⟨cs, t, by rw [hb.block 0 ((Array.getElem?_eq_some_iff.1 h1).1)]; exact h1, h2⟩
def law22_two_L : List (Nat × FSpec) := []
theorem law22_two_l : AllMeet Tryd.prog V law22_two_L := .nil
set_option maxRecDepth 100000 in
theorem law22_two_d : ∀ x : Unit, denote (mkC Tryd.prog V law22_two_L) 1 (inlOf Tryd.f23 {}) [] [SSite] false x = law22_two_t x := fun x => by kernel_rfl
theorem law22_two_m : Meets Tryd.prog V 23 (spT [] [SSite] law22_two) := meets_tot law22_two_l stays hmix (hs := {}) (fnOK Tryd.func23 (by kernel_rfl) (by kernel_rfl) (by kernel_rfl)) false fun x => (law22_two_d x).trans (law22_two_e x)
def law22_all_L : List (Nat × FSpec) := []
theorem law22_all_l : AllMeet Tryd.prog V law22_all_L := .nil
set_option maxRecDepth 100000 in
theorem law22_all_d : ∀ x : Unit, denote (mkC Tryd.prog V law22_all_L) 1 (inlOf Tryd.f24 {}) [] [SFacts] false x = law22_all_t x := fun x => by kernel_rfl
theorem law22_all_m : Meets Tryd.prog V 24 (spT [] [SFacts] law22_all) := meets_tot law22_all_l stays hmix (hs := {}) (fnOK Tryd.func24 (by kernel_rfl) (by kernel_rfl) (by kernel_rfl)) false fun x => (law22_all_d x).trans (law22_all_e x)
def site_in_L : List (Nat × FSpec) := []
theorem site_in_l : AllMeet Tryd.prog V site_in_L := .nil
set_option maxRecDepth 100000 in
theorem site_in_d : ∀ x : Int × Int × Int, denote (mkC Tryd.prog V site_in_L) 1 (inlOf Tryd.f35 {}) [I64, I64, I64] [Bo] false x = site_in_t x := fun x => by kernel_rfl
theorem site_in_m : Meets Tryd.prog V 35 (spT [I64, I64, I64] [Bo] site_in) := meets_tot site_in_l stays hmix (hs := {}) (fnOK Tryd.func35 (by kernel_rfl) (by kernel_rfl) (by kernel_rfl)) false fun x => (site_in_d x).trans (site_in_e x)
def site_shape_L : List (Nat × FSpec) := [(35, (spT [I64, I64, I64] [Bo] site_in))]
theorem site_shape_l : AllMeet Tryd.prog V site_shape_L := (.cons site_in_m .nil)
set_option maxRecDepth 100000 in
theorem site_shape_d : ∀ x : PSSite, denote (mkC Tryd.prog V site_shape_L) 1 (inlOf Tryd.f36 { loops := [(0, [.slot 48 I64])] }) [SSite] [Bo] false x = site_shape_t x := fun x => by kernel_rfl
theorem site_shape_m : Meets Tryd.prog V 36 (spP [SSite] [Bo] site_shape_t) := meets_part site_shape_l stays hmix (hs := { loops := [(0, [.slot 48 I64])] }) (fnOK Tryd.func36 (by kernel_rfl) (by kernel_rfl) (by kernel_rfl)) false site_shape_d
def site_ticks_L : List (Nat × FSpec) := [(35, (spT [I64, I64, I64] [Bo] site_in))]
theorem site_ticks_l : AllMeet Tryd.prog V site_ticks_L := (.cons site_in_m .nil)
set_option maxRecDepth 100000 in
theorem site_ticks_d : ∀ x : List Int, denote (mkC Tryd.prog V site_ticks_L) 1 (inlOf Tryd.f51 { loops := [(0, [.slot 7 I64])] }) [I64s] [Bo] false x = site_ticks_t x := fun x => by kernel_rfl
theorem site_ticks_m : Meets Tryd.prog V 51 (spT [I64s] [Bo] site_ticks) := meets_up (meets_part site_ticks_l stays hmix (hs := { loops := [(0, [.slot 7 I64])] }) (fnOK Tryd.func51 (by kernel_rfl) (by kernel_rfl) (by kernel_rfl)) false site_ticks_d) site_ticks_e
def ring_bit_L : List (Nat × FSpec) := []
theorem ring_bit_l : AllMeet Tryd.prog V ring_bit_L := .nil
set_option maxRecDepth 100000 in
theorem ring_bit_d : ∀ x : Int, denote (mkC Tryd.prog V ring_bit_L) 1 (inlOf Tryd.f64 {}) [I64] [U32] false x = ring_bit_t x := fun x => by kernel_rfl
theorem ring_bit_m : Meets Tryd.prog V 64 (spT [I64] [U32] ring_bit) := meets_up (meets_part ring_bit_l stays hmix (hs := {}) (fnOK Tryd.func64 (by kernel_rfl) (by kernel_rfl) (by kernel_rfl)) false ring_bit_d) ring_bit_e
def ring_Has_L : List (Nat × FSpec) := [(64, (spT [I64] [U32] ring_bit))]
theorem ring_Has_l : AllMeet Tryd.prog V ring_Has_L := (.cons ring_bit_m .nil)
set_option maxRecDepth 100000 in
theorem ring_Has_d : ∀ x : Int × Int, denote (mkC Tryd.prog V ring_Has_L) 1 (inlOf Tryd.f52 {}) [U32, I64] [Bo] false x = ring_Has_t x := fun x => by kernel_rfl
theorem ring_Has_m : Meets Tryd.prog V 52 (spT [U32, I64] [Bo] ring_Has) := meets_tot ring_Has_l stays hmix (hs := {}) (fnOK Tryd.func52 (by kernel_rfl) (by kernel_rfl) (by kernel_rfl)) false fun x => (ring_Has_d x).trans (ring_Has_e x)
def site_apart_L : List (Nat × FSpec) := [(51, (spT [I64s] [Bo] site_ticks)), (52, (spT [U32, I64] [Bo] ring_Has)), (35, (spT [I64, I64, I64] [Bo] site_in))]
theorem site_apart_l : AllMeet Tryd.prog V site_apart_L := (.cons site_ticks_m (.cons ring_Has_m (.cons site_in_m .nil)))
set_option maxRecDepth 100000 in
theorem site_apart_d : ∀ x : PSSite, denote (mkC Tryd.prog V site_apart_L) 1 (inlOf Tryd.f37 { loops := [(0, [.slot 11 I64]), (2, [.slot 39 I64])] }) [SSite] [Bo] false x = site_apart_t x := fun x => by kernel_rfl
theorem site_apart_m : Meets Tryd.prog V 37 (spP [SSite] [Bo] site_apart_t) := meets_part site_apart_l stays hmix (hs := { loops := [(0, [.slot 11 I64]), (2, [.slot 39 I64])] }) (fnOK Tryd.func37 (by kernel_rfl) (by kernel_rfl) (by kernel_rfl)) false site_apart_d
theorem V.cell {w : World} (h : V w) (i : Nat) (hi : i < 32) : w.cell? ⟨0, i, none⟩ = some (.int .u8 (Lib.deBruijn32tab.getD i 0 : Nat)) := by
  obtain ⟨cs, t, h1, h2⟩ := h
  unfold World.cell?
  rw [h1]
  have : cs[i]? = some (Value.int .u8 (Lib.deBruijn32tab.getD i 0 : Nat)) := by
    rw [← Array.getElem?_toList, h2, List.getElem?_map, List.getD_eq_getElem?_getD]
    have hl : i < Lib.deBruijn32tab.length := hi
    rw [List.getElem?_eq_getElem hl]; rfl
  simpa using this
theorem tz_arith {x : Int} (hx : U32ok x) (h0 : x ≠ 0) : bits .and .u32 x (-x % 4294967296) * 125613361 % 4294967296 / 134217728 = ((2 ^ (Lib.ctz 32 x.toNat) * 125613361 % 4294967296 / 134217728 : Nat) : Int) ∧ Lib.ctz 32 x.toNat < 32 := by
  have hn : x.toNat ≠ 0 := by have := hx.1; omega
  obtain ⟨h1, h2⟩ := Lib.lowest_bit 32 x.toNat hn (natlt hx)
  refine ⟨?_, h2⟩
  have e : -x % 4294967296 = 4294967296 - x := by have := hx.1; have := hx.2; omega
  have hy : U32ok (4294967296 - x) := ⟨by have := hx.2; omega, by have := hx.1; omega⟩
  have hb : bits .and .u32 x (-x % 4294967296) = ((2 ^ Lib.ctz 32 x.toNat : Nat) : Int) := by
    rw [e]
    have hk : bits .and .u32 x (4294967296 - x) = bitop .and .u32 x (4294967296 - x) := rfl
    rw [hk, and_u32 hx hy, ← h1]
    congr 2
    have := hx.1; have := hx.2
    have : (2 : Nat) ^ 32 = 4294967296 := by decide
    omega
  rw [hb]
  simp
theorem inR_u32 {x : Int} (h : inR .u32 x = true) : U32ok x := by
  simpa [inR, IntKind.min, IntKind.max, IntKind.signed, IntKind.bits, U32ok] using h
theorem inR_i64 {y : Int} (h0 : 0 ≤ y) (h1 : y ≤ 1000000) : inR .i64 y = true := by
  simp only [inR, IntKind.min, IntKind.max, IntKind.signed, IntKind.bits, Bool.and_eq_true, decide_eq_true_eq]
  simp
  omega
theorem tz_bound {x : Int} (hx : U32ok x) : 0 ≤ bits_TrailingZeros32 x ∧ bits_TrailingZeros32 x ≤ 32 := by
  unfold bits_TrailingZeros32
  by_cases hz : x = 0
  · simp [low, hz]
  · have := low_spec hx hz; omega
theorem tz_walk (x : Int) (w : World) (hx : U32ok x) (hv : V w) :
    Calls Tryd.prog 65 #[.int .u32 x] w fun e w' => e = .returned (.int .i64 (bits_TrailingZeros32 x)) ∧ w' = w := by
  have hc := hv.cell
  have h0 := hx.1
  have h1 := hx.2
  by_cases hz : x = 0
  · subst hz
    go_enter Tryd.func65, Tryd.ntmps65
    go_wp2
    all_goals first | (go_ret; exact ⟨rfl, rfl⟩) | (rename_i h; exact absurd h (by decide))
  · go_enter Tryd.func65, Tryd.ntmps65
    go_wp2
    · rename_i h
      exact absurd (by simpa using h) hz
    · go_ret
      refine ⟨?_, rfl⟩
      obtain ⟨h2, h3⟩ := tz_arith hx hz
      obtain ⟨h4, h5⟩ := Lib.deBruijn32_at _ h3
      have e : ((Lib.deBruijn32tab[(bits BinOp.and IntKind.u32 x (-x % 4294967296) * 125613361 % 4294967296 / 134217728).toNat]?.getD 0 : Nat) : Int) = Lib.ctz 32 x.toNat := by
        rw [h2, Int.toNat_natCast, ← List.getD_eq_getElem?_getD, h5]
      have hn : x.toNat ≠ 0 := by omega
      have hl : bits_TrailingZeros32 x = Lib.ctz 32 x.toNat := by simp [bits_TrailingZeros32, low, hz]
      rw [hl, e]
      have e3 : ((Lib.ctz 32 x.toNat : Int) + 9223372036854775808) % 18446744073709551616 - 9223372036854775808 = Lib.ctz 32 x.toNat := by omega
      rw [e3]
      rfl
theorem bits_TrailingZeros32_m : Meets Tryd.prog V 65 (spT [U32] [I64] bits_TrailingZeros32) where
  enters := fun args w => by
    have h : FnOK Tryd.prog 65 (inlOf Tryd.f65 {}) := fnOK Tryd.func65 (by kernel_rfl) (by kernel_rfl) (by kernel_rfl)
    exact h.enters args w
  tot := fun g hg x => by cases hg; rfl
  calls := fun w F vals x y hv hF hr hy => by
    have hy' : some (bits_TrailingZeros32 x) = some y := hy
    cases hy'
    obtain ⟨us, h1, h2⟩ := hr
    have h1' : us = [.int .u32 x] ∧ inR .u32 x = true := h1
    obtain ⟨rfl, hin⟩ := h1'
    have hx : U32ok x := inR_u32 hin
    have : vals = [.int .u32 x] := h2
    subst this
    have hb : inR .i64 (bits_TrailingZeros32 x) = true := inR_i64 (tz_bound hx).1 (by have := (tz_bound hx).2; omega)
    refine (tz_walk x w hx hv).mono fun e w' ⟨he, hw⟩ => ?_
    subst hw
    exact ⟨[.int .i64 (bits_TrailingZeros32 x)], by rw [he]; rfl, Below.refl _ _, ⟨_, ⟨rfl, hb⟩, rfl⟩⟩

def ring_Least_L : List (Nat × FSpec) := [(65, (spT [U32] [I64] bits_TrailingZeros32))]
theorem ring_Least_l : AllMeet Tryd.prog V ring_Least_L := (.cons bits_TrailingZeros32_m .nil)
set_option maxRecDepth 100000 in
theorem ring_Least_d : ∀ x : Int, denote (mkC Tryd.prog V ring_Least_L) 1 (inlOf Tryd.f53 {}) [U32] [I64] false x = ring_Least_t x := fun x => by kernel_rfl
theorem ring_Least_m : Meets Tryd.prog V 53 (spT [U32] [I64] ring_Least) := meets_tot ring_Least_l stays hmix (hs := {}) (fnOK Tryd.func53 (by kernel_rfl) (by kernel_rfl) (by kernel_rfl)) false fun x => (ring_Least_d x).trans (ring_Least_e x)
def ring_Without_L : List (Nat × FSpec) := [(64, (spT [I64] [U32] ring_bit))]
theorem ring_Without_l : AllMeet Tryd.prog V ring_Without_L := (.cons ring_bit_m .nil)
set_option maxRecDepth 100000 in
theorem ring_Without_d : ∀ x : Int × Int, denote (mkC Tryd.prog V ring_Without_L) 1 (inlOf Tryd.f54 {}) [U32, I64] [U32] false x = ring_Without_t x := fun x => by kernel_rfl
theorem ring_Without_m : Meets Tryd.prog V 54 (spT [U32, I64] [U32] ring_Without) := meets_tot ring_Without_l stays hmix (hs := {}) (fnOK Tryd.func54 (by kernel_rfl) (by kernel_rfl) (by kernel_rfl)) false fun x => (ring_Without_d x).trans (ring_Without_e x)
theorem bits_OnesCount32_d : ∀ x : Int, denote (mkC Tryd.prog V []) 1 (inlOf Tryd.f66 {}) [U32] [I64] false x = ocTree x := fun x => by kernel_rfl
theorem bits_OnesCount32_m : Meets Tryd.prog V 66 (spT [U32] [I64] bits_OnesCount32) := meets_up (meets_part .nil stays hmix (hs := {}) (fnOK Tryd.func66 (by kernel_rfl) (by kernel_rfl) (by kernel_rfl)) false bits_OnesCount32_d) (fun x hf => ocTree_eq (fits_u32 hf))

def ring_Count_L : List (Nat × FSpec) := [(66, (spT [U32] [I64] bits_OnesCount32))]
theorem ring_Count_l : AllMeet Tryd.prog V ring_Count_L := (.cons bits_OnesCount32_m .nil)
set_option maxRecDepth 100000 in
theorem ring_Count_d : ∀ x : Int, denote (mkC Tryd.prog V ring_Count_L) 1 (inlOf Tryd.f55 {}) [U32] [I64] false x = ring_Count_t x := fun x => by kernel_rfl
theorem ring_Count_m : Meets Tryd.prog V 55 (spT [U32] [I64] ring_Count) := meets_tot ring_Count_l stays hmix (hs := {}) (fnOK Tryd.func55 (by kernel_rfl) (by kernel_rfl) (by kernel_rfl)) false fun x => (ring_Count_d x).trans (ring_Count_e x)
def site_phased_L : List (Nat × FSpec) := [(51, (spT [I64s] [Bo] site_ticks)), (53, (spT [U32] [I64] ring_Least)), (54, (spT [U32, I64] [U32] ring_Without)), (55, (spT [U32] [I64] ring_Count))]
theorem site_phased_l : AllMeet Tryd.prog V site_phased_L := (.cons site_ticks_m (.cons ring_Least_m (.cons ring_Without_m (.cons ring_Count_m .nil))))
set_option maxRecDepth 100000 in
theorem site_phased_d : ∀ x : PSSite, denote (mkC Tryd.prog V site_phased_L) 1 (inlOf Tryd.f38 { loops := [(0, [.slot 3 U32, .slot 11 I64]), (2, [.slot 6 U32])] }) [SSite] [Bo] false x = site_phased_t x := fun x => by kernel_rfl
theorem site_phased_m : Meets Tryd.prog V 38 (spP [SSite] [Bo] site_phased_t) := meets_part site_phased_l stays hmix (hs := { loops := [(0, [.slot 3 U32, .slot 11 I64]), (2, [.slot 6 U32])] }) (fnOK Tryd.func38 (by kernel_rfl) (by kernel_rfl) (by kernel_rfl)) false site_phased_d
def site_eyed_L : List (Nat × FSpec) := [(35, (spT [I64, I64, I64] [Bo] site_in)), (51, (spT [I64s] [Bo] site_ticks))]
theorem site_eyed_l : AllMeet Tryd.prog V site_eyed_L := (.cons site_in_m (.cons site_ticks_m .nil))
set_option maxRecDepth 100000 in
theorem site_eyed_d : ∀ x : PSSite, denote (mkC Tryd.prog V site_eyed_L) 1 (inlOf Tryd.f39 { loops := [(0, [.slot 8 I64])] }) [SSite] [Bo] false x = site_eyed_t x := fun x => by kernel_rfl
theorem site_eyed_m : Meets Tryd.prog V 39 (spP [SSite] [Bo] site_eyed_t) := meets_part site_eyed_l stays hmix (hs := { loops := [(0, [.slot 8 I64])] }) (fnOK Tryd.func39 (by kernel_rfl) (by kernel_rfl) (by kernel_rfl)) false site_eyed_d
def site_clear_L : List (Nat × FSpec) := [(52, (spT [U32, I64] [Bo] ring_Has)), (53, (spT [U32] [I64] ring_Least)), (54, (spT [U32, I64] [U32] ring_Without))]
theorem site_clear_l : AllMeet Tryd.prog V site_clear_L := (.cons ring_Has_m (.cons ring_Least_m (.cons ring_Without_m .nil)))
set_option maxRecDepth 100000 in
theorem site_clear_d : ∀ x : PSSite × Int × Int, denote (mkC Tryd.prog V site_clear_L) 1 (inlOf Tryd.f67 { loops := [(0, [.slot 6 I64, .slot 13 I64]), (2, [.slot 6 I64, .slot 8 U32])] }) [SSite, I64, I64] [I64] false x = site_clear_t x := fun x => by kernel_rfl
theorem site_clear_m : Meets Tryd.prog V 67 (spP [SSite, I64, I64] [I64] site_clear_t) := meets_part site_clear_l stays hmix (hs := { loops := [(0, [.slot 6 I64, .slot 13 I64]), (2, [.slot 6 I64, .slot 8 U32])] }) (fnOK Tryd.func67 (by kernel_rfl) (by kernel_rfl) (by kernel_rfl)) false site_clear_d
def site_needs_L : List (Nat × FSpec) := [(67, (spP [SSite, I64, I64] [I64] site_clear_t))]
theorem site_needs_l : AllMeet Tryd.prog V site_needs_L := (.cons site_clear_m .nil)
set_option maxRecDepth 100000 in
theorem site_needs_d : ∀ x : PSSite × Int, denote (mkC Tryd.prog V site_needs_L) 1 (inlOf Tryd.f56 {}) [SSite, I64] [I64] false x = site_needs_t x := fun x => by kernel_rfl
theorem site_needs_m : Meets Tryd.prog V 56 (spP [SSite, I64] [I64] site_needs_t) := meets_part site_needs_l stays hmix (hs := {}) (fnOK Tryd.func56 (by kernel_rfl) (by kernel_rfl) (by kernel_rfl)) false site_needs_d
def site_timed_L : List (Nat × FSpec) := [(56, (spP [SSite, I64] [I64] site_needs_t)), (51, (spT [I64s] [Bo] site_ticks))]
theorem site_timed_l : AllMeet Tryd.prog V site_timed_L := (.cons site_needs_m (.cons site_ticks_m .nil))
set_option maxRecDepth 100000 in
theorem site_timed_d : ∀ x : PSSite, denote (mkC Tryd.prog V site_timed_L) 1 (inlOf Tryd.f40 { loops := [(0, [.slot 3 I64, .slot 8 I64])] }) [SSite] [Bo] false x = site_timed_t x := fun x => by kernel_rfl
theorem site_timed_m : Meets Tryd.prog V 40 (spP [SSite] [Bo] site_timed_t) := meets_part site_timed_l stays hmix (hs := { loops := [(0, [.slot 3 I64, .slot 8 I64])] }) (fnOK Tryd.func40 (by kernel_rfl) (by kernel_rfl) (by kernel_rfl)) false site_timed_d
def site_fits_L : List (Nat × FSpec) := [(35, (spT [I64, I64, I64] [Bo] site_in)), (56, (spP [SSite, I64] [I64] site_needs_t))]
theorem site_fits_l : AllMeet Tryd.prog V site_fits_L := (.cons site_in_m (.cons site_needs_m .nil))
set_option maxRecDepth 100000 in
theorem site_fits_d : ∀ x : PSSite × PSPlan, denote (mkC Tryd.prog V site_fits_L) 1 (inlOf Tryd.f57 { loops := [(0, [.slot 5 I64, .slot 39 I64])] }) [SSite, SPlan] [Bo] false x = site_fits_t x := fun x => by kernel_rfl
theorem site_fits_m : Meets Tryd.prog V 57 (spP [SSite, SPlan] [Bo] site_fits_t) := meets_part site_fits_l stays hmix (hs := { loops := [(0, [.slot 5 I64, .slot 39 I64])] }) (fnOK Tryd.func57 (by kernel_rfl) (by kernel_rfl) (by kernel_rfl)) false site_fits_d
def site_planned_L : List (Nat × FSpec) := [(57, (spP [SSite, SPlan] [Bo] site_fits_t))]
theorem site_planned_l : AllMeet Tryd.prog V site_planned_L := (.cons site_fits_m .nil)
set_option maxRecDepth 100000 in
theorem site_planned_d : ∀ x : PSSite, denote (mkC Tryd.prog V site_planned_L) 1 (inlOf Tryd.f41 { loops := [(0, [.slot 8 I64])] }) [SSite] [Bo] false x = site_planned_t x := fun x => by kernel_rfl
theorem site_planned_m : Meets Tryd.prog V 41 (spP [SSite] [Bo] site_planned_t) := meets_part site_planned_l stays hmix (hs := { loops := [(0, [.slot 8 I64])] }) (fnOK Tryd.func41 (by kernel_rfl) (by kernel_rfl) (by kernel_rfl)) false site_planned_d
def site_Check_L : List (Nat × FSpec) := [(35, (spT [I64, I64, I64] [Bo] site_in)), (36, (spP [SSite] [Bo] site_shape_t)), (37, (spP [SSite] [Bo] site_apart_t)), (38, (spP [SSite] [Bo] site_phased_t)), (39, (spP [SSite] [Bo] site_eyed_t)), (40, (spP [SSite] [Bo] site_timed_t)), (41, (spP [SSite] [Bo] site_planned_t))]
theorem site_Check_l : AllMeet Tryd.prog V site_Check_L := (.cons site_in_m (.cons site_shape_m (.cons site_apart_m (.cons site_phased_m (.cons site_eyed_m (.cons site_timed_m (.cons site_planned_m .nil)))))))
set_option maxRecDepth 100000 in
theorem site_Check_d : ∀ x : PSSite, denote (mkC Tryd.prog V site_Check_L) 1 (inlOf Tryd.f15 { loops := [(0, [.slot 3 Bo, .slot 5 I64])] }) [SSite] [I64] false x = site_Check_t x := fun x => by kernel_rfl
theorem site_Check_m : Meets Tryd.prog V 15 (spP [SSite] [I64] site_Check_t) := meets_part site_Check_l stays hmix (hs := { loops := [(0, [.slot 3 Bo, .slot 5 I64])] }) (fnOK Tryd.func15 (by kernel_rfl) (by kernel_rfl) (by kernel_rfl)) false site_Check_d
def ladder_asked_L : List (Nat × FSpec) := [(15, (spP [SSite] [I64] site_Check_t))]
theorem ladder_asked_l : AllMeet Tryd.prog V ladder_asked_L := (.cons site_Check_m .nil)
set_option maxRecDepth 100000 in
theorem ladder_asked_d : ∀ x : PSSite × PSRung, denote (mkC Tryd.prog V ladder_asked_L) 1 (inlOf Tryd.f42 {}) [SSite, SRung] [I64] false x = ladder_asked_t x := fun x => by kernel_rfl
theorem ladder_asked_m : Meets Tryd.prog V 42 (spP [SSite, SRung] [I64] ladder_asked_t) := meets_part ladder_asked_l stays hmix (hs := {}) (fnOK Tryd.func42 (by kernel_rfl) (by kernel_rfl) (by kernel_rfl)) false ladder_asked_d
def ladder_may_L : List (Nat × FSpec) := []
theorem ladder_may_l : AllMeet Tryd.prog V ladder_may_L := .nil
set_option maxRecDepth 100000 in
theorem ladder_may_d : ∀ x : PSRung × PSFacts, denote (mkC Tryd.prog V ladder_may_L) 1 (inlOf Tryd.f44 {}) [SRung, SFacts] [U8] false x = ladder_may_t x := fun x => by kernel_rfl
theorem ladder_may_m : Meets Tryd.prog V 44 (spT [SRung, SFacts] [U8] ladder_may) := meets_tot ladder_may_l stays hmix (hs := {}) (fnOK Tryd.func44 (by kernel_rfl) (by kernel_rfl) (by kernel_rfl)) false fun x => (ladder_may_d x).trans (ladder_may_e x)
def ladder_step_L : List (Nat × FSpec) := [(44, (spT [SRung, SFacts] [U8] ladder_may))]
theorem ladder_step_l : AllMeet Tryd.prog V ladder_step_L := (.cons ladder_may_m .nil)
set_option maxRecDepth 100000 in
theorem ladder_step_d : ∀ x : PSSite × PSRung × PSFacts, denote (mkC Tryd.prog V ladder_step_L) 1 (inlOf Tryd.f43 {}) [SSite, SRung, SFacts] [SRung] false x = ladder_step_t x := fun x => by kernel_rfl
theorem ladder_step_m : Meets Tryd.prog V 43 (spT [SSite, SRung, SFacts] [SRung] ladder_step) := meets_tot ladder_step_l stays hmix (hs := {}) (fnOK Tryd.func43 (by kernel_rfl) (by kernel_rfl) (by kernel_rfl)) false fun x => (ladder_step_d x).trans (ladder_step_e x)
def ladder_Run_L : List (Nat × FSpec) := [(42, (spP [SSite, SRung] [I64] ladder_asked_t)), (43, (spT [SSite, SRung, SFacts] [SRung] ladder_step))]
theorem ladder_Run_l : AllMeet Tryd.prog V ladder_Run_L := (.cons ladder_asked_m (.cons ladder_step_m .nil))
set_option maxRecDepth 100000 in
theorem ladder_Run_d : ∀ x : PSSite × PSRung × List PSFacts, denote (mkC Tryd.prog V ladder_Run_L) 1 (inlOf Tryd.f16 { loops := [(0, [.own 9 SRung, .slot 26 I64, .box 4 SRung])] }) [SSite, SRung, SFactss] [SRungs, I64] false x = ladder_Run_t x := fun x => by kernel_rfl
theorem ladder_Run_m : Meets Tryd.prog V 16 (spP [SSite, SRung, SFactss] [SRungs, I64] ladder_Run_t) := meets_part ladder_Run_l stays hmix (hs := { loops := [(0, [.own 9 SRung, .slot 26 I64, .box 4 SRung])] }) (fnOK Tryd.func16 (by kernel_rfl) (by kernel_rfl) (by kernel_rfl)) false ladder_Run_d
def law22_alive_L : List (Nat × FSpec) := [(23, (spT [] [SSite] law22_two)), (24, (spT [] [SFacts] law22_all)), (16, (spP [SSite, SRung, SFactss] [SRungs, I64] ladder_Run_t))]
theorem law22_alive_l : AllMeet Tryd.prog V law22_alive_L := (.cons law22_two_m (.cons law22_all_m (.cons ladder_Run_m .nil)))
set_option maxRecDepth 100000 in
theorem law22_alive_d : ∀ x : Unit, denote (mkC Tryd.prog V law22_alive_L) 1 (inlOf Tryd.f13 {}) [] [Bo] false x = law22_alive_t x := fun x => by kernel_rfl
theorem law22_alive_m : Meets Tryd.prog V 13 (spP [] [Bo] law22_alive_t) := meets_part law22_alive_l stays hmix (hs := {}) (fnOK Tryd.func13 (by kernel_rfl) (by kernel_rfl) (by kernel_rfl)) false law22_alive_d
def ref05_Great_L : List (Nat × FSpec) := []
theorem ref05_Great_l : AllMeet Tryd.prog V ref05_Great_L := .nil
set_option maxRecDepth 100000 in
theorem ref05_Great_d : ∀ x : PSSite, denote (mkC Tryd.prog V ref05_Great_L) 1 (inlOf Tryd.f14 { loops := [(0, [.slot 3 I64]), (2, [.slot 4 I64])] }) [SSite] [Bo] false x = ref05_Great_t x := fun x => by kernel_rfl
theorem ref05_Great_m : Meets Tryd.prog V 14 (spP [SSite] [Bo] ref05_Great_t) := meets_part ref05_Great_l stays hmix (hs := { loops := [(0, [.slot 3 I64]), (2, [.slot 4 I64])] }) (fnOK Tryd.func14 (by kernel_rfl) (by kernel_rfl) (by kernel_rfl)) false ref05_Great_d
def ladder_May_L : List (Nat × FSpec) := [(44, (spT [SRung, SFacts] [U8] ladder_may))]
theorem ladder_May_l : AllMeet Tryd.prog V ladder_May_L := (.cons ladder_may_m .nil)
set_option maxRecDepth 100000 in
theorem ladder_May_d : ∀ x : PSRung × PSFacts, denote (mkC Tryd.prog V ladder_May_L) 1 (inlOf Tryd.f17 {}) [SRung, SFacts] [U8] false x = ladder_May_t x := fun x => by kernel_rfl
theorem ladder_May_m : Meets Tryd.prog V 17 (spT [SRung, SFacts] [U8] ladder_May) := meets_tot ladder_May_l stays hmix (hs := {}) (fnOK Tryd.func17 (by kernel_rfl) (by kernel_rfl) (by kernel_rfl)) false fun x => (ladder_May_d x).trans (ladder_May_e x)
def law22_LadderDown_L : List (Nat × FSpec) := [(13, (spP [] [Bo] law22_alive_t)), (14, (spP [SSite] [Bo] ref05_Great_t)), (15, (spP [SSite] [I64] site_Check_t)), (16, (spP [SSite, SRung, SFactss] [SRungs, I64] ladder_Run_t)), (17, (spT [SRung, SFacts] [U8] ladder_May))]
theorem law22_LadderDown_l : AllMeet Tryd.prog V law22_LadderDown_L := (.cons law22_alive_m (.cons ref05_Great_m (.cons site_Check_m (.cons ladder_Run_m (.cons ladder_May_m .nil)))))
set_option maxRecDepth 100000 in
theorem law22_LadderDown_d : ∀ x : PSSite × PSRung × List PSFacts, denote (mkC Tryd.prog V law22_LadderDown_L) 1 (inlOf Tryd.f3 { loops := [(0, [.slot 11 I64, .box 10 SRung])] }) [SSite, SRung, SFactss] [Bo] false x = law22_LadderDown_t x := fun x => by kernel_rfl
theorem law22_LadderDown_m : Meets Tryd.prog V 3 (spP [SSite, SRung, SFactss] [Bo] law22_LadderDown_t) := meets_part law22_LadderDown_l stays hmix (hs := { loops := [(0, [.slot 11 I64, .box 10 SRung])] }) (fnOK Tryd.func3 (by kernel_rfl) (by kernel_rfl) (by kernel_rfl)) false law22_LadderDown_d
def law22_LadderUp_L : List (Nat × FSpec) := [(13, (spP [] [Bo] law22_alive_t)), (14, (spP [SSite] [Bo] ref05_Great_t)), (15, (spP [SSite] [I64] site_Check_t)), (16, (spP [SSite, SRung, SFactss] [SRungs, I64] ladder_Run_t)), (17, (spT [SRung, SFacts] [U8] ladder_May))]
theorem law22_LadderUp_l : AllMeet Tryd.prog V law22_LadderUp_L := (.cons law22_alive_m (.cons ref05_Great_m (.cons site_Check_m (.cons ladder_Run_m (.cons ladder_May_m .nil)))))
set_option maxRecDepth 100000 in
theorem law22_LadderUp_d : ∀ x : PSSite × Int × List PSFacts, denote (mkC Tryd.prog V law22_LadderUp_L) 1 (inlOf Tryd.f4 { loops := [(0, [.slot 11 I64, .slot 12 I64, .box 10 SRung])] }) [SSite, U8, SFactss] [Bo] false x = law22_LadderUp_t x := fun x => by kernel_rfl
theorem law22_LadderUp_m : Meets Tryd.prog V 4 (spP [SSite, U8, SFactss] [Bo] law22_LadderUp_t) := meets_part law22_LadderUp_l stays hmix (hs := { loops := [(0, [.slot 11 I64, .slot 12 I64, .box 10 SRung])] }) (fnOK Tryd.func4 (by kernel_rfl) (by kernel_rfl) (by kernel_rfl)) false law22_LadderUp_d
def law22_LadderReaches_L : List (Nat × FSpec) := [(13, (spP [] [Bo] law22_alive_t)), (14, (spP [SSite] [Bo] ref05_Great_t)), (15, (spP [SSite] [I64] site_Check_t)), (16, (spP [SSite, SRung, SFactss] [SRungs, I64] ladder_Run_t)), (17, (spT [SRung, SFacts] [U8] ladder_May))]
theorem law22_LadderReaches_l : AllMeet Tryd.prog V law22_LadderReaches_L := (.cons law22_alive_m (.cons ref05_Great_m (.cons site_Check_m (.cons ladder_Run_m (.cons ladder_May_m .nil)))))
set_option maxRecDepth 100000 in
theorem law22_LadderReaches_d : ∀ x : PSSite × PSRung × PSFacts, denote (mkC Tryd.prog V law22_LadderReaches_L) 1 (inlOf Tryd.f5 { loops := [(0, [.slot 9 I64, .arr 38 SFacts]), (2, [.slot 13 I64])] }) [SSite, SRung, SFacts] [Bo] false x = law22_LadderReaches_t x := fun x => by kernel_rfl
theorem law22_LadderReaches_m : Meets Tryd.prog V 5 (spP [SSite, SRung, SFacts] [Bo] law22_LadderReaches_t) := meets_part law22_LadderReaches_l stays hmix (hs := { loops := [(0, [.slot 9 I64, .arr 38 SFacts]), (2, [.slot 13 I64])] }) (fnOK Tryd.func5 (by kernel_rfl) (by kernel_rfl) (by kernel_rfl)) false law22_LadderReaches_d
def ladder_First_L : List (Nat × FSpec) := []
theorem ladder_First_l : AllMeet Tryd.prog V ladder_First_L := .nil
set_option maxRecDepth 100000 in
theorem ladder_First_d : ∀ x : Int, denote (mkC Tryd.prog V ladder_First_L) 1 (inlOf Tryd.f21 {}) [U8] [SRung] false x = ladder_First_t x := fun x => by kernel_rfl
theorem ladder_First_m : Meets Tryd.prog V 21 (spT [U8] [SRung] ladder_First) := meets_tot ladder_First_l stays hmix (hs := {}) (fnOK Tryd.func21 (by kernel_rfl) (by kernel_rfl) (by kernel_rfl)) false fun x => (ladder_First_d x).trans (ladder_First_e x)
def ladder_Next_L : List (Nat × FSpec) := [(42, (spP [SSite, SRung] [I64] ladder_asked_t)), (43, (spT [SSite, SRung, SFacts] [SRung] ladder_step))]
theorem ladder_Next_l : AllMeet Tryd.prog V ladder_Next_L := (.cons ladder_asked_m (.cons ladder_step_m .nil))
set_option maxRecDepth 100000 in
theorem ladder_Next_d : ∀ x : PSSite × PSRung × PSFacts, denote (mkC Tryd.prog V ladder_Next_L) 1 (inlOf Tryd.f22 {}) [SSite, SRung, SFacts] [SRung, I64] false x = ladder_Next_t x := fun x => by kernel_rfl
theorem ladder_Next_m : Meets Tryd.prog V 22 (spP [SSite, SRung, SFacts] [SRung, I64] ladder_Next_t) := meets_part ladder_Next_l stays hmix (hs := {}) (fnOK Tryd.func22 (by kernel_rfl) (by kernel_rfl) (by kernel_rfl)) false ladder_Next_d
def law22_LadderFirst_L : List (Nat × FSpec) := [(13, (spP [] [Bo] law22_alive_t)), (21, (spT [U8] [SRung] ladder_First)), (14, (spP [SSite] [Bo] ref05_Great_t)), (15, (spP [SSite] [I64] site_Check_t)), (22, (spP [SSite, SRung, SFacts] [SRung, I64] ladder_Next_t))]
theorem law22_LadderFirst_l : AllMeet Tryd.prog V law22_LadderFirst_L := (.cons law22_alive_m (.cons ladder_First_m (.cons ref05_Great_m (.cons site_Check_m (.cons ladder_Next_m .nil)))))
set_option maxRecDepth 100000 in
theorem law22_LadderFirst_d : ∀ x : PSSite × Int × PSFacts, denote (mkC Tryd.prog V law22_LadderFirst_L) 1 (inlOf Tryd.f7 {}) [SSite, U8, SFacts] [Bo] false x = law22_LadderFirst_t x := fun x => by kernel_rfl
theorem law22_LadderFirst_m : Meets Tryd.prog V 7 (spP [SSite, U8, SFacts] [Bo] law22_LadderFirst_t) := meets_part law22_LadderFirst_l stays hmix (hs := {}) (fnOK Tryd.func7 (by kernel_rfl) (by kernel_rfl) (by kernel_rfl)) false law22_LadderFirst_d
def law22_LadderNames_L : List (Nat × FSpec) := [(23, (spT [] [SSite] law22_two)), (24, (spT [] [SFacts] law22_all)), (22, (spP [SSite, SRung, SFacts] [SRung, I64] ladder_Next_t)), (16, (spP [SSite, SRung, SFactss] [SRungs, I64] ladder_Run_t)), (13, (spP [] [Bo] law22_alive_t)), (17, (spT [SRung, SFacts] [U8] ladder_May)), (21, (spT [U8] [SRung] ladder_First))]
theorem law22_LadderNames_l : AllMeet Tryd.prog V law22_LadderNames_L := (.cons law22_two_m (.cons law22_all_m (.cons ladder_Next_m (.cons ladder_Run_m (.cons law22_alive_m (.cons ladder_May_m (.cons ladder_First_m .nil)))))))
set_option maxRecDepth 100000 in
theorem law22_LadderNames_d : ∀ x : Unit, denote (mkC Tryd.prog V law22_LadderNames_L) 1 (inlOf Tryd.f8 {}) [] [Bo] false x = law22_LadderNames_t x := fun x => by kernel_rfl
theorem law22_LadderNames_m : Meets Tryd.prog V 8 (spP [] [Bo] law22_LadderNames_t) := meets_part law22_LadderNames_l stays hmix (hs := {}) (fnOK Tryd.func8 (by kernel_rfl) (by kernel_rfl) (by kernel_rfl)) false law22_LadderNames_d
def ref05_in_L : List (Nat × FSpec) := []
theorem ref05_in_l : AllMeet Tryd.prog V ref05_in_L := .nil
set_option maxRecDepth 100000 in
theorem ref05_in_d : ∀ x : Int × Int × Int, denote (mkC Tryd.prog V ref05_in_L) 1 (inlOf Tryd.f61 {}) [I64, I64, I64] [Bo] false x = ref05_in_t x := fun x => by kernel_rfl
theorem ref05_in_m : Meets Tryd.prog V 61 (spT [I64, I64, I64] [Bo] ref05_in) := meets_tot ref05_in_l stays hmix (hs := {}) (fnOK Tryd.func61 (by kernel_rfl) (by kernel_rfl) (by kernel_rfl)) false fun x => (ref05_in_d x).trans (ref05_in_e x)
def ref02_Has_L : List (Nat × FSpec) := []
theorem ref02_Has_l : AllMeet Tryd.prog V ref02_Has_L := .nil
set_option maxRecDepth 100000 in
theorem ref02_Has_d : ∀ x : Int × Int, denote (mkC Tryd.prog V ref02_Has_L) 1 (inlOf Tryd.f69 {}) [U32, I64] [Bo] false x = ref02_Has_t x := fun x => by kernel_rfl
theorem ref02_Has_m : Meets Tryd.prog V 69 (spT [U32, I64] [Bo] ref02_Has) := meets_up (meets_part ref02_Has_l stays hmix (hs := {}) (fnOK Tryd.func69 (by kernel_rfl) (by kernel_rfl) (by kernel_rfl)) false ref02_Has_d) ref02_Has_e
def ref05_Apart_L : List (Nat × FSpec) := [(69, (spT [U32, I64] [Bo] ref02_Has))]
theorem ref05_Apart_l : AllMeet Tryd.prog V ref05_Apart_L := (.cons ref02_Has_m .nil)
set_option maxRecDepth 100000 in
theorem ref05_Apart_d : ∀ x : PSSite × Int × Int, denote (mkC Tryd.prog V ref05_Apart_L) 1 (inlOf Tryd.f68 {}) [SSite, I64, I64] [Bo] false x = ref05_Apart_t x := fun x => by kernel_rfl
theorem ref05_Apart_m : Meets Tryd.prog V 68 (spP [SSite, I64, I64] [Bo] ref05_Apart_t) := meets_part ref05_Apart_l stays hmix (hs := {}) (fnOK Tryd.func68 (by kernel_rfl) (by kernel_rfl) (by kernel_rfl)) false ref05_Apart_d
def ref05_groups_L : List (Nat × FSpec) := [(61, (spT [I64, I64, I64] [Bo] ref05_in)), (68, (spP [SSite, I64, I64] [Bo] ref05_Apart_t))]
theorem ref05_groups_l : AllMeet Tryd.prog V ref05_groups_L := (.cons ref05_in_m (.cons ref05_Apart_m .nil))
set_option maxRecDepth 100000 in
theorem ref05_groups_d : ∀ x : PSSite, denote (mkC Tryd.prog V ref05_groups_L) 1 (inlOf Tryd.f59 { loops := [(0, [.slot 4 I64]), (2, [.slot 6 I64]), (4, [.slot 7 I64])] }) [SSite] [Bo] false x = ref05_groups_t x := fun x => by kernel_rfl
theorem ref05_groups_m : Meets Tryd.prog V 59 (spP [SSite] [Bo] ref05_groups_t) := meets_part ref05_groups_l stays hmix (hs := { loops := [(0, [.slot 4 I64]), (2, [.slot 6 I64]), (4, [.slot 7 I64])] }) (fnOK Tryd.func59 (by kernel_rfl) (by kernel_rfl) (by kernel_rfl)) false ref05_groups_d
def ref02_With_L : List (Nat × FSpec) := [(69, (spT [U32, I64] [Bo] ref02_Has))]
theorem ref02_With_l : AllMeet Tryd.prog V ref02_With_L := (.cons ref02_Has_m .nil)
set_option maxRecDepth 100000 in
theorem ref02_With_d : ∀ x : Int × Int, denote (mkC Tryd.prog V ref02_With_L) 1 (inlOf Tryd.f70 {}) [U32, I64] [U32] false x = ref02_With_t x := fun x => by kernel_rfl
theorem ref02_With_m : Meets Tryd.prog V 70 (spT [U32, I64] [U32] ref02_With) := meets_tot ref02_With_l stays hmix (hs := {}) (fnOK Tryd.func70 (by kernel_rfl) (by kernel_rfl) (by kernel_rfl)) false fun x => (ref02_With_d x).trans (ref02_With_e x)
def ref02_Count_L : List (Nat × FSpec) := [(69, (spT [U32, I64] [Bo] ref02_Has))]
theorem ref02_Count_l : AllMeet Tryd.prog V ref02_Count_L := (.cons ref02_Has_m .nil)
set_option maxRecDepth 100000 in
theorem ref02_Count_d : ∀ x : Int, denote (mkC Tryd.prog V ref02_Count_L) 1 (inlOf Tryd.f71 { loops := [(0, [.slot 3 I64, .slot 4 I64])] }) [U32] [I64] false x = ref02_Count_t x := fun x => by kernel_rfl
theorem ref02_Count_m : Meets Tryd.prog V 71 (spP [U32] [I64] ref02_Count_t) := meets_part ref02_Count_l stays hmix (hs := { loops := [(0, [.slot 3 I64, .slot 4 I64])] }) (fnOK Tryd.func71 (by kernel_rfl) (by kernel_rfl) (by kernel_rfl)) false ref02_Count_d
def ref05_phases_L : List (Nat × FSpec) := [(61, (spT [I64, I64, I64] [Bo] ref05_in)), (69, (spT [U32, I64] [Bo] ref02_Has)), (70, (spT [U32, I64] [U32] ref02_With)), (68, (spP [SSite, I64, I64] [Bo] ref05_Apart_t)), (71, (spP [U32] [I64] ref02_Count_t))]
theorem ref05_phases_l : AllMeet Tryd.prog V ref05_phases_L := (.cons ref05_in_m (.cons ref02_Has_m (.cons ref02_With_m (.cons ref05_Apart_m (.cons ref02_Count_m .nil)))))
set_option maxRecDepth 100000 in
theorem ref05_phases_d : ∀ x : PSSite, denote (mkC Tryd.prog V ref05_phases_L) 1 (inlOf Tryd.f60 { loops := [(0, [.slot 3 U32, .slot 4 I64]), (2, [.slot 3 U32, .slot 6 I64, .slot 7 I64]), (4, [.slot 8 I64])] }) [SSite] [Bo] false x = ref05_phases_t x := fun x => by kernel_rfl
theorem ref05_phases_m : Meets Tryd.prog V 60 (spP [SSite] [Bo] ref05_phases_t) := meets_part ref05_phases_l stays hmix (hs := { loops := [(0, [.slot 3 U32, .slot 4 I64]), (2, [.slot 3 U32, .slot 6 I64, .slot 7 I64]), (4, [.slot 8 I64])] }) (fnOK Tryd.func60 (by kernel_rfl) (by kernel_rfl) (by kernel_rfl)) false ref05_phases_d
def ref05_Clear_L : List (Nat × FSpec) := [(69, (spT [U32, I64] [Bo] ref02_Has)), (68, (spP [SSite, I64, I64] [Bo] ref05_Apart_t))]
theorem ref05_Clear_l : AllMeet Tryd.prog V ref05_Clear_L := (.cons ref02_Has_m (.cons ref05_Apart_m .nil))
set_option maxRecDepth 100000 in
theorem ref05_Clear_d : ∀ x : PSSite × Int × Int, denote (mkC Tryd.prog V ref05_Clear_L) 1 (inlOf Tryd.f73 { loops := [(0, [.slot 7 I64, .slot 8 I64]), (2, [.slot 7 I64, .slot 9 I64])] }) [SSite, I64, I64] [I64] false x = ref05_Clear_t x := fun x => by kernel_rfl
theorem ref05_Clear_m : Meets Tryd.prog V 73 (spP [SSite, I64, I64] [I64] ref05_Clear_t) := meets_part ref05_Clear_l stays hmix (hs := { loops := [(0, [.slot 7 I64, .slot 8 I64]), (2, [.slot 7 I64, .slot 9 I64])] }) (fnOK Tryd.func73 (by kernel_rfl) (by kernel_rfl) (by kernel_rfl)) false ref05_Clear_d
def ref05_needs_L : List (Nat × FSpec) := [(73, (spP [SSite, I64, I64] [I64] ref05_Clear_t))]
theorem ref05_needs_l : AllMeet Tryd.prog V ref05_needs_L := (.cons ref05_Clear_m .nil)
set_option maxRecDepth 100000 in
theorem ref05_needs_d : ∀ x : PSSite × Int, denote (mkC Tryd.prog V ref05_needs_L) 1 (inlOf Tryd.f72 {}) [SSite, I64] [I64] false x = ref05_needs_t x := fun x => by kernel_rfl
theorem ref05_needs_m : Meets Tryd.prog V 72 (spP [SSite, I64] [I64] ref05_needs_t) := meets_part ref05_needs_l stays hmix (hs := {}) (fnOK Tryd.func72 (by kernel_rfl) (by kernel_rfl) (by kernel_rfl)) false ref05_needs_d
def ref05_Round_L : List (Nat × FSpec) := [(72, (spP [SSite, I64] [I64] ref05_needs_t))]
theorem ref05_Round_l : AllMeet Tryd.prog V ref05_Round_L := (.cons ref05_needs_m .nil)
set_option maxRecDepth 100000 in
theorem ref05_Round_d : ∀ x : PSSite, denote (mkC Tryd.prog V ref05_Round_L) 1 (inlOf Tryd.f62 { loops := [(0, [.slot 3 I64, .slot 4 I64])] }) [SSite] [I64] false x = ref05_Round_t x := fun x => by kernel_rfl
theorem ref05_Round_m : Meets Tryd.prog V 62 (spP [SSite] [I64] ref05_Round_t) := meets_part ref05_Round_l stays hmix (hs := { loops := [(0, [.slot 3 I64, .slot 4 I64])] }) (fnOK Tryd.func62 (by kernel_rfl) (by kernel_rfl) (by kernel_rfl)) false ref05_Round_d
def ref05_PlanMay_L : List (Nat × FSpec) := [(61, (spT [I64, I64, I64] [Bo] ref05_in)), (72, (spP [SSite, I64] [I64] ref05_needs_t))]
theorem ref05_PlanMay_l : AllMeet Tryd.prog V ref05_PlanMay_L := (.cons ref05_in_m (.cons ref05_needs_m .nil))
set_option maxRecDepth 100000 in
theorem ref05_PlanMay_d : ∀ x : PSSite × PSPlan, denote (mkC Tryd.prog V ref05_PlanMay_L) 1 (inlOf Tryd.f63 { loops := [(0, [.slot 5 I64, .slot 6 I64])] }) [SSite, SPlan] [Bo] false x = ref05_PlanMay_t x := fun x => by kernel_rfl
theorem ref05_PlanMay_m : Meets Tryd.prog V 63 (spP [SSite, SPlan] [Bo] ref05_PlanMay_t) := meets_part ref05_PlanMay_l stays hmix (hs := { loops := [(0, [.slot 5 I64, .slot 6 I64])] }) (fnOK Tryd.func63 (by kernel_rfl) (by kernel_rfl) (by kernel_rfl)) false ref05_PlanMay_d
def ref05_Check_L : List (Nat × FSpec) := [(59, (spP [SSite] [Bo] ref05_groups_t)), (60, (spP [SSite] [Bo] ref05_phases_t)), (61, (spT [I64, I64, I64] [Bo] ref05_in)), (62, (spP [SSite] [I64] ref05_Round_t)), (63, (spP [SSite, SPlan] [Bo] ref05_PlanMay_t))]
theorem ref05_Check_l : AllMeet Tryd.prog V ref05_Check_L := (.cons ref05_groups_m (.cons ref05_phases_m (.cons ref05_in_m (.cons ref05_Round_m (.cons ref05_PlanMay_m .nil)))))
set_option maxRecDepth 100000 in
theorem ref05_Check_d : ∀ x : PSSite, denote (mkC Tryd.prog V ref05_Check_L) 1 (inlOf Tryd.f47 { loops := [(0, [.slot 3 I64]), (2, [.slot 5 I64])] }) [SSite] [I64] false x = ref05_Check_t x := fun x => by kernel_rfl
theorem ref05_Check_m : Meets Tryd.prog V 47 (spP [SSite] [I64] ref05_Check_t) := meets_part ref05_Check_l stays hmix (hs := { loops := [(0, [.slot 3 I64]), (2, [.slot 5 I64])] }) (fnOK Tryd.func47 (by kernel_rfl) (by kernel_rfl) (by kernel_rfl)) false ref05_Check_d
def ref22_RungMay_L : List (Nat × FSpec) := []
theorem ref22_RungMay_l : AllMeet Tryd.prog V ref22_RungMay_L := .nil
set_option maxRecDepth 100000 in
theorem ref22_RungMay_d : ∀ x : PSRung, denote (mkC Tryd.prog V ref22_RungMay_L) 1 (inlOf Tryd.f48 {}) [SRung] [Bo] false x = ref22_RungMay_t x := fun x => by kernel_rfl
theorem ref22_RungMay_m : Meets Tryd.prog V 48 (spT [SRung] [Bo] ref22_RungMay) := meets_tot ref22_RungMay_l stays hmix (hs := {}) (fnOK Tryd.func48 (by kernel_rfl) (by kernel_rfl) (by kernel_rfl)) false fun x => (ref22_RungMay_d x).trans (ref22_RungMay_e x)
def ref22_May_L : List (Nat × FSpec) := []
theorem ref22_May_l : AllMeet Tryd.prog V ref22_May_L := .nil
set_option maxRecDepth 100000 in
theorem ref22_May_d : ∀ x : PSRung × PSFacts, denote (mkC Tryd.prog V ref22_May_L) 1 (inlOf Tryd.f28 {}) [SRung, SFacts] [U8] false x = ref22_May_t x := fun x => by kernel_rfl
theorem ref22_May_m : Meets Tryd.prog V 28 (spT [SRung, SFacts] [U8] ref22_May) := meets_tot ref22_May_l stays hmix (hs := {}) (fnOK Tryd.func28 (by kernel_rfl) (by kernel_rfl) (by kernel_rfl)) false fun x => (ref22_May_d x).trans (ref22_May_e x)
def ref22_step_L : List (Nat × FSpec) := [(28, (spT [SRung, SFacts] [U8] ref22_May))]
theorem ref22_step_l : AllMeet Tryd.prog V ref22_step_L := (.cons ref22_May_m .nil)
set_option maxRecDepth 100000 in
theorem ref22_step_d : ∀ x : PSSite × PSRung × PSFacts, denote (mkC Tryd.prog V ref22_step_L) 1 (inlOf Tryd.f49 {}) [SSite, SRung, SFacts] [SRung] false x = ref22_step_t x := fun x => by kernel_rfl
theorem ref22_step_m : Meets Tryd.prog V 49 (spT [SSite, SRung, SFacts] [SRung] ref22_step) := meets_tot ref22_step_l stays hmix (hs := {}) (fnOK Tryd.func49 (by kernel_rfl) (by kernel_rfl) (by kernel_rfl)) false fun x => (ref22_step_d x).trans (ref22_step_e x)
def ref22_Next_L : List (Nat × FSpec) := [(47, (spP [SSite] [I64] ref05_Check_t)), (48, (spT [SRung] [Bo] ref22_RungMay)), (49, (spT [SSite, SRung, SFacts] [SRung] ref22_step))]
theorem ref22_Next_l : AllMeet Tryd.prog V ref22_Next_L := (.cons ref05_Check_m (.cons ref22_RungMay_m (.cons ref22_step_m .nil)))
set_option maxRecDepth 100000 in
theorem ref22_Next_d : ∀ x : PSSite × PSRung × PSFacts, denote (mkC Tryd.prog V ref22_Next_L) 1 (inlOf Tryd.f25 {}) [SSite, SRung, SFacts] [SRung, I64] false x = ref22_Next_t x := fun x => by kernel_rfl
theorem ref22_Next_m : Meets Tryd.prog V 25 (spP [SSite, SRung, SFacts] [SRung, I64] ref22_Next_t) := meets_part ref22_Next_l stays hmix (hs := {}) (fnOK Tryd.func25 (by kernel_rfl) (by kernel_rfl) (by kernel_rfl)) false ref22_Next_d
def ref22_Run_L : List (Nat × FSpec) := [(47, (spP [SSite] [I64] ref05_Check_t)), (48, (spT [SRung] [Bo] ref22_RungMay)), (49, (spT [SSite, SRung, SFacts] [SRung] ref22_step))]
theorem ref22_Run_l : AllMeet Tryd.prog V ref22_Run_L := (.cons ref05_Check_m (.cons ref22_RungMay_m (.cons ref22_step_m .nil)))
set_option maxRecDepth 100000 in
theorem ref22_Run_d : ∀ x : PSSite × PSRung × List PSFacts, denote (mkC Tryd.prog V ref22_Run_L) 1 (inlOf Tryd.f26 { loops := [(0, [.own 9 SRung, .slot 10 I64, .box 4 SRung])] }) [SSite, SRung, SFactss] [SRungs, I64] false x = ref22_Run_t x := fun x => by kernel_rfl
theorem ref22_Run_m : Meets Tryd.prog V 26 (spP [SSite, SRung, SFactss] [SRungs, I64] ref22_Run_t) := meets_part ref22_Run_l stays hmix (hs := { loops := [(0, [.own 9 SRung, .slot 10 I64, .box 4 SRung])] }) (fnOK Tryd.func26 (by kernel_rfl) (by kernel_rfl) (by kernel_rfl)) false ref22_Run_d
def ref22_Same_L : List (Nat × FSpec) := []
theorem ref22_Same_l : AllMeet Tryd.prog V ref22_Same_L := .nil
set_option maxRecDepth 100000 in
theorem ref22_Same_d : ∀ x : List PSRung × List PSRung, denote (mkC Tryd.prog V ref22_Same_L) 1 (inlOf Tryd.f27 { loops := [(0, [.slot 5 I64])] }) [SRungs, SRungs] [Bo] false x = ref22_Same_t x := fun x => by kernel_rfl
theorem ref22_Same_m : Meets Tryd.prog V 27 (spP [SRungs, SRungs] [Bo] ref22_Same_t) := meets_part ref22_Same_l stays hmix (hs := { loops := [(0, [.slot 5 I64])] }) (fnOK Tryd.func27 (by kernel_rfl) (by kernel_rfl) (by kernel_rfl)) false ref22_Same_d
def ref22_First_L : List (Nat × FSpec) := []
theorem ref22_First_l : AllMeet Tryd.prog V ref22_First_L := .nil
set_option maxRecDepth 100000 in
theorem ref22_First_d : ∀ x : Int, denote (mkC Tryd.prog V ref22_First_L) 1 (inlOf Tryd.f29 {}) [U8] [SRung] false x = ref22_First_t x := fun x => by kernel_rfl
theorem ref22_First_m : Meets Tryd.prog V 29 (spT [U8] [SRung] ref22_First) := meets_tot ref22_First_l stays hmix (hs := {}) (fnOK Tryd.func29 (by kernel_rfl) (by kernel_rfl) (by kernel_rfl)) false fun x => (ref22_First_d x).trans (ref22_First_e x)
def law22_LadderSteps_L : List (Nat × FSpec) := [(14, (spP [SSite] [Bo] ref05_Great_t)), (22, (spP [SSite, SRung, SFacts] [SRung, I64] ladder_Next_t)), (25, (spP [SSite, SRung, SFacts] [SRung, I64] ref22_Next_t)), (16, (spP [SSite, SRung, SFactss] [SRungs, I64] ladder_Run_t)), (26, (spP [SSite, SRung, SFactss] [SRungs, I64] ref22_Run_t)), (27, (spP [SRungs, SRungs] [Bo] ref22_Same_t)), (17, (spT [SRung, SFacts] [U8] ladder_May)), (28, (spT [SRung, SFacts] [U8] ref22_May)), (21, (spT [U8] [SRung] ladder_First)), (29, (spT [U8] [SRung] ref22_First))]
theorem law22_LadderSteps_l : AllMeet Tryd.prog V law22_LadderSteps_L := (.cons ref05_Great_m (.cons ladder_Next_m (.cons ref22_Next_m (.cons ladder_Run_m (.cons ref22_Run_m (.cons ref22_Same_m (.cons ladder_May_m (.cons ref22_May_m (.cons ladder_First_m (.cons ref22_First_m .nil))))))))))
set_option maxRecDepth 100000 in
theorem law22_LadderSteps_d : ∀ x : PSSite × PSRung × PSFacts × List PSFacts × Int, denote (mkC Tryd.prog V law22_LadderSteps_L) 1 (inlOf Tryd.f9 { loops := [(0, [.slot 20 I64])] }) [SSite, SRung, SFacts, SFactss, U8] [Bo] false x = law22_LadderSteps_t x := fun x => by kernel_rfl
theorem law22_LadderSteps_m : Meets Tryd.prog V 9 (spP [SSite, SRung, SFacts, SFactss, U8] [Bo] law22_LadderSteps_t) := meets_part law22_LadderSteps_l stays hmix (hs := { loops := [(0, [.slot 20 I64])] }) (fnOK Tryd.func9 (by kernel_rfl) (by kernel_rfl) (by kernel_rfl)) false law22_LadderSteps_d
def law10_two_L : List (Nat × FSpec) := []
theorem law10_two_l : AllMeet Tryd.prog V law10_two_L := .nil
set_option maxRecDepth 100000 in
theorem law10_two_d : ∀ x : Unit, denote (mkC Tryd.prog V law10_two_L) 1 (inlOf Tryd.f30 {}) [] [SSite] false x = law10_two_t x := fun x => by kernel_rfl
theorem law10_two_m : Meets Tryd.prog V 30 (spT [] [SSite] law10_two) := meets_tot law10_two_l stays hmix (hs := {}) (fnOK Tryd.func30 (by kernel_rfl) (by kernel_rfl) (by kernel_rfl)) false fun x => (law10_two_d x).trans (law10_two_e x)
def back_counted_L : List (Nat × FSpec) := [(15, (spP [SSite] [I64] site_Check_t))]
theorem back_counted_l : AllMeet Tryd.prog V back_counted_L := (.cons site_Check_m .nil)
set_option maxRecDepth 100000 in
theorem back_counted_d : ∀ x : PSSite × Int, denote (mkC Tryd.prog V back_counted_L) 1 (inlOf Tryd.f45 {}) [SSite, I64] [I64] false x = back_counted_t x := fun x => by kernel_rfl
theorem back_counted_m : Meets Tryd.prog V 45 (spP [SSite, I64] [I64] back_counted_t) := meets_part back_counted_l stays hmix (hs := {}) (fnOK Tryd.func45 (by kernel_rfl) (by kernel_rfl) (by kernel_rfl)) false back_counted_d
def back_lights_L : List (Nat × FSpec) := []
theorem back_lights_l : AllMeet Tryd.prog V back_lights_L := .nil
set_option maxRecDepth 100000 in
theorem back_lights_d : ∀ x : PSSite × List Int, denote (mkC Tryd.prog V back_lights_L) 1 (inlOf Tryd.f58 { loops := [(0, [.slot 15 I64])] }) [SSite, U8s] [I64] false x = back_lights_t x := fun x => by kernel_rfl
theorem back_lights_m : Meets Tryd.prog V 58 (spP [SSite, U8s] [I64] back_lights_t) := meets_part back_lights_l stays hmix (hs := { loops := [(0, [.slot 15 I64])] }) (fnOK Tryd.func58 (by kernel_rfl) (by kernel_rfl) (by kernel_rfl)) false back_lights_d
def back_wrong_L : List (Nat × FSpec) := [(58, (spP [SSite, U8s] [I64] back_lights_t))]
theorem back_wrong_l : AllMeet Tryd.prog V back_wrong_L := (.cons back_lights_m .nil)
set_option maxRecDepth 100000 in
theorem back_wrong_d : ∀ x : PSSite × List Int × List Int, denote (mkC Tryd.prog V back_wrong_L) 1 (inlOf Tryd.f46 { loops := [(0, [.slot 19 I64]), (2, [.slot 40 I64])] }) [SSite, U8s, U8s] [Bo, I64] false x = back_wrong_t x := fun x => by kernel_rfl
theorem back_wrong_m : Meets Tryd.prog V 46 (spP [SSite, U8s, U8s] [Bo, I64] back_wrong_t) := meets_part back_wrong_l stays hmix (hs := { loops := [(0, [.slot 19 I64]), (2, [.slot 40 I64])] }) (fnOK Tryd.func46 (by kernel_rfl) (by kernel_rfl) (by kernel_rfl)) false back_wrong_d
def back_Next_L : List (Nat × FSpec) := [(45, (spP [SSite, I64] [I64] back_counted_t)), (46, (spP [SSite, U8s, U8s] [Bo, I64] back_wrong_t))]
theorem back_Next_l : AllMeet Tryd.prog V back_Next_L := (.cons back_counted_m (.cons back_wrong_m .nil))
set_option maxRecDepth 100000 in
theorem back_Next_d : ∀ x : PSSite × Int × List Int × List Int, denote (mkC Tryd.prog V back_Next_L) 1 (inlOf Tryd.f19 {}) [SSite, I64, U8s, U8s] [I64, I64] false x = back_Next_t x := fun x => by kernel_rfl
theorem back_Next_m : Meets Tryd.prog V 19 (spP [SSite, I64, U8s, U8s] [I64, I64] back_Next_t) := meets_part back_Next_l stays hmix (hs := {}) (fnOK Tryd.func19 (by kernel_rfl) (by kernel_rfl) (by kernel_rfl)) false back_Next_d
def back_Latches_L : List (Nat × FSpec) := [(45, (spP [SSite, I64] [I64] back_counted_t))]
theorem back_Latches_l : AllMeet Tryd.prog V back_Latches_L := (.cons back_counted_m .nil)
set_option maxRecDepth 100000 in
theorem back_Latches_d : ∀ x : PSSite × Int, denote (mkC Tryd.prog V back_Latches_L) 1 (inlOf Tryd.f20 {}) [SSite, I64] [Bo, I64] false x = back_Latches_t x := fun x => by kernel_rfl
theorem back_Latches_m : Meets Tryd.prog V 20 (spP [SSite, I64] [Bo, I64] back_Latches_t) := meets_part back_Latches_l stays hmix (hs := {}) (fnOK Tryd.func20 (by kernel_rfl) (by kernel_rfl) (by kernel_rfl)) false back_Latches_d
def law10_alive_L : List (Nat × FSpec) := [(30, (spT [] [SSite] law10_two)), (19, (spP [SSite, I64, U8s, U8s] [I64, I64] back_Next_t)), (20, (spP [SSite, I64] [Bo, I64] back_Latches_t))]
theorem law10_alive_l : AllMeet Tryd.prog V law10_alive_L := (.cons law10_two_m (.cons back_Next_m (.cons back_Latches_m .nil)))
set_option maxRecDepth 100000 in
theorem law10_alive_d : ∀ x : Unit, denote (mkC Tryd.prog V law10_alive_L) 1 (inlOf Tryd.f18 {}) [] [Bo] false x = law10_alive_t x := fun x => by kernel_rfl
theorem law10_alive_m : Meets Tryd.prog V 18 (spP [] [Bo] law10_alive_t) := meets_part law10_alive_l stays hmix (hs := {}) (fnOK Tryd.func18 (by kernel_rfl) (by kernel_rfl) (by kernel_rfl)) false law10_alive_d
def law10_BackFeed_L : List (Nat × FSpec) := [(18, (spP [] [Bo] law10_alive_t)), (14, (spP [SSite] [Bo] ref05_Great_t)), (15, (spP [SSite] [I64] site_Check_t)), (19, (spP [SSite, I64, U8s, U8s] [I64, I64] back_Next_t)), (20, (spP [SSite, I64] [Bo, I64] back_Latches_t))]
theorem law10_BackFeed_l : AllMeet Tryd.prog V law10_BackFeed_L := (.cons law10_alive_m (.cons ref05_Great_m (.cons site_Check_m (.cons back_Next_m (.cons back_Latches_m .nil)))))
set_option maxRecDepth 100000 in
theorem law10_BackFeed_d : ∀ x : PSSite × List Bool, denote (mkC Tryd.prog V law10_BackFeed_L) 1 (inlOf Tryd.f6 { loops := [(0, [.slot 8 I64, .arr 36 U8, .arr 40 U8]), (2, [.slot 9 I64, .slot 10 I64, .slot 11 I64])] }) [SSite, Bos] [Bo] false x = law10_BackFeed_t x := fun x => by kernel_rfl
theorem law10_BackFeed_m : Meets Tryd.prog V 6 (spP [SSite, Bos] [Bo] law10_BackFeed_t) := meets_part law10_BackFeed_l stays hmix (hs := { loops := [(0, [.slot 8 I64, .arr 36 U8, .arr 40 U8]), (2, [.slot 9 I64, .slot 10 I64, .slot 11 I64])] }) (fnOK Tryd.func6 (by kernel_rfl) (by kernel_rfl) (by kernel_rfl)) false law10_BackFeed_d
def back_Wrong_L : List (Nat × FSpec) := [(15, (spP [SSite] [I64] site_Check_t)), (46, (spP [SSite, U8s, U8s] [Bo, I64] back_wrong_t))]
theorem back_Wrong_l : AllMeet Tryd.prog V back_Wrong_L := (.cons site_Check_m (.cons back_wrong_m .nil))
set_option maxRecDepth 100000 in
theorem back_Wrong_d : ∀ x : PSSite × List Int × List Int, denote (mkC Tryd.prog V back_Wrong_L) 1 (inlOf Tryd.f31 {}) [SSite, U8s, U8s] [Bo, I64] false x = back_Wrong_t x := fun x => by kernel_rfl
theorem back_Wrong_m : Meets Tryd.prog V 31 (spP [SSite, U8s, U8s] [Bo, I64] back_Wrong_t) := meets_part back_Wrong_l stays hmix (hs := {}) (fnOK Tryd.func31 (by kernel_rfl) (by kernel_rfl) (by kernel_rfl)) false back_Wrong_d
def law10_BackNames_L : List (Nat × FSpec) := [(30, (spT [] [SSite] law10_two)), (31, (spP [SSite, U8s, U8s] [Bo, I64] back_Wrong_t)), (19, (spP [SSite, I64, U8s, U8s] [I64, I64] back_Next_t)), (20, (spP [SSite, I64] [Bo, I64] back_Latches_t)), (18, (spP [] [Bo] law10_alive_t))]
theorem law10_BackNames_l : AllMeet Tryd.prog V law10_BackNames_L := (.cons law10_two_m (.cons back_Wrong_m (.cons back_Next_m (.cons back_Latches_m (.cons law10_alive_m .nil)))))
set_option maxRecDepth 100000 in
theorem law10_BackNames_d : ∀ x : Unit, denote (mkC Tryd.prog V law10_BackNames_L) 1 (inlOf Tryd.f10 {}) [] [Bo] false x = law10_BackNames_t x := fun x => by kernel_rfl
theorem law10_BackNames_m : Meets Tryd.prog V 10 (spP [] [Bo] law10_BackNames_t) := meets_part law10_BackNames_l stays hmix (hs := {}) (fnOK Tryd.func10 (by kernel_rfl) (by kernel_rfl) (by kernel_rfl)) false law10_BackNames_d
def law10_BackRight_L : List (Nat × FSpec) := [(18, (spP [] [Bo] law10_alive_t)), (14, (spP [SSite] [Bo] ref05_Great_t)), (15, (spP [SSite] [I64] site_Check_t)), (31, (spP [SSite, U8s, U8s] [Bo, I64] back_Wrong_t)), (19, (spP [SSite, I64, U8s, U8s] [I64, I64] back_Next_t))]
theorem law10_BackRight_l : AllMeet Tryd.prog V law10_BackRight_L := (.cons law10_alive_m (.cons ref05_Great_m (.cons site_Check_m (.cons back_Wrong_m (.cons back_Next_m .nil)))))
set_option maxRecDepth 100000 in
theorem law10_BackRight_d : ∀ x : PSSite × Int × List Int × Int × Int, denote (mkC Tryd.prog V law10_BackRight_L) 1 (inlOf Tryd.f12 {}) [SSite, I64, U8s, I64, U8] [Bo] false x = law10_BackRight_t x := fun x => by kernel_rfl
theorem law10_BackRight_m : Meets Tryd.prog V 12 (spP [SSite, I64, U8s, I64, U8] [Bo] law10_BackRight_t) := meets_part law10_BackRight_l stays hmix (hs := {}) (fnOK Tryd.func12 (by kernel_rfl) (by kernel_rfl) (by kernel_rfl)) false law10_BackRight_d
def ref10_lights_L : List (Nat × FSpec) := []
theorem ref10_lights_l : AllMeet Tryd.prog V ref10_lights_L := .nil
set_option maxRecDepth 100000 in
theorem ref10_lights_d : ∀ x : PSSite × List Int, denote (mkC Tryd.prog V ref10_lights_L) 1 (inlOf Tryd.f50 { loops := [(0, [.slot 5 I64])] }) [SSite, U8s] [I64] false x = ref10_lights_t x := fun x => by kernel_rfl
theorem ref10_lights_m : Meets Tryd.prog V 50 (spP [SSite, U8s] [I64] ref10_lights_t) := meets_part ref10_lights_l stays hmix (hs := { loops := [(0, [.slot 5 I64])] }) (fnOK Tryd.func50 (by kernel_rfl) (by kernel_rfl) (by kernel_rfl)) false ref10_lights_d
def ref10_Wrong_L : List (Nat × FSpec) := [(47, (spP [SSite] [I64] ref05_Check_t)), (50, (spP [SSite, U8s] [I64] ref10_lights_t))]
theorem ref10_Wrong_l : AllMeet Tryd.prog V ref10_Wrong_L := (.cons ref05_Check_m (.cons ref10_lights_m .nil))
set_option maxRecDepth 100000 in
theorem ref10_Wrong_d : ∀ x : PSSite × List Int × List Int, denote (mkC Tryd.prog V ref10_Wrong_L) 1 (inlOf Tryd.f32 { loops := [(0, [.slot 9 I64])] }) [SSite, U8s, U8s] [Bo, I64] false x = ref10_Wrong_t x := fun x => by kernel_rfl
theorem ref10_Wrong_m : Meets Tryd.prog V 32 (spP [SSite, U8s, U8s] [Bo, I64] ref10_Wrong_t) := meets_part ref10_Wrong_l stays hmix (hs := { loops := [(0, [.slot 9 I64])] }) (fnOK Tryd.func32 (by kernel_rfl) (by kernel_rfl) (by kernel_rfl)) false ref10_Wrong_d
def ref10_Next_L : List (Nat × FSpec) := [(47, (spP [SSite] [I64] ref05_Check_t)), (32, (spP [SSite, U8s, U8s] [Bo, I64] ref10_Wrong_t))]
theorem ref10_Next_l : AllMeet Tryd.prog V ref10_Next_L := (.cons ref05_Check_m (.cons ref10_Wrong_m .nil))
set_option maxRecDepth 100000 in
theorem ref10_Next_d : ∀ x : PSSite × Int × List Int × List Int, denote (mkC Tryd.prog V ref10_Next_L) 1 (inlOf Tryd.f33 {}) [SSite, I64, U8s, U8s] [I64, I64] false x = ref10_Next_t x := fun x => by kernel_rfl
theorem ref10_Next_m : Meets Tryd.prog V 33 (spP [SSite, I64, U8s, U8s] [I64, I64] ref10_Next_t) := meets_part ref10_Next_l stays hmix (hs := {}) (fnOK Tryd.func33 (by kernel_rfl) (by kernel_rfl) (by kernel_rfl)) false ref10_Next_d
def ref10_Latches_L : List (Nat × FSpec) := [(47, (spP [SSite] [I64] ref05_Check_t))]
theorem ref10_Latches_l : AllMeet Tryd.prog V ref10_Latches_L := (.cons ref05_Check_m .nil)
set_option maxRecDepth 100000 in
theorem ref10_Latches_d : ∀ x : PSSite × Int, denote (mkC Tryd.prog V ref10_Latches_L) 1 (inlOf Tryd.f34 {}) [SSite, I64] [Bo, I64] false x = ref10_Latches_t x := fun x => by kernel_rfl
theorem ref10_Latches_m : Meets Tryd.prog V 34 (spP [SSite, I64] [Bo, I64] ref10_Latches_t) := meets_part ref10_Latches_l stays hmix (hs := {}) (fnOK Tryd.func34 (by kernel_rfl) (by kernel_rfl) (by kernel_rfl)) false ref10_Latches_d
def law10_BackWrong_L : List (Nat × FSpec) := [(14, (spP [SSite] [Bo] ref05_Great_t)), (31, (spP [SSite, U8s, U8s] [Bo, I64] back_Wrong_t)), (32, (spP [SSite, U8s, U8s] [Bo, I64] ref10_Wrong_t)), (19, (spP [SSite, I64, U8s, U8s] [I64, I64] back_Next_t)), (33, (spP [SSite, I64, U8s, U8s] [I64, I64] ref10_Next_t)), (20, (spP [SSite, I64] [Bo, I64] back_Latches_t)), (34, (spP [SSite, I64] [Bo, I64] ref10_Latches_t))]
theorem law10_BackWrong_l : AllMeet Tryd.prog V law10_BackWrong_L := (.cons ref05_Great_m (.cons back_Wrong_m (.cons ref10_Wrong_m (.cons back_Next_m (.cons ref10_Next_m (.cons back_Latches_m (.cons ref10_Latches_m .nil)))))))
set_option maxRecDepth 100000 in
theorem law10_BackWrong_d : ∀ x : PSSite × Int × List Int × List Int, denote (mkC Tryd.prog V law10_BackWrong_L) 1 (inlOf Tryd.f11 {}) [SSite, I64, U8s, U8s] [Bo] false x = law10_BackWrong_t x := fun x => by kernel_rfl
theorem law10_BackWrong_m : Meets Tryd.prog V 11 (spP [SSite, I64, U8s, U8s] [Bo] law10_BackWrong_t) := meets_part law10_BackWrong_l stays hmix (hs := {}) (fnOK Tryd.func11 (by kernel_rfl) (by kernel_rfl) (by kernel_rfl)) false law10_BackWrong_d
end Go.Proofs.YtnkhijnppfnomaaDoor
