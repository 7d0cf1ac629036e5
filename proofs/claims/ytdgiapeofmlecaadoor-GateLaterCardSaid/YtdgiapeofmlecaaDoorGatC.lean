/- Part of a proof: plain readings of Go functions, their contracts, or plain facts of them. -/
import Derived.Test.YtdgiapeofmlecaaDoorRows
import Derived.Test.YtdgiapeofmlecaaDoorGatP
import Derived.Lib.Walk
import Derived.Tactics
namespace Go.Proofs.YtdgiapeofmlecaaDoor
open Go.Den Go.RowKit Go.ChangeShapes

theorem hmix : Tryd.prog.follows .mixedOrders = true := by kernel_rfl
theorem laidOut : laidOutB Tryd.prog = true := by kernel_rfl
theorem own : ownKnob Tryd.prog.godebug = none := by kernel_rfl
def V : World → Prop := fun w => ∃ cs t, w.heap[0]? = some (.cells cs t (0, 0)) ∧ cs.toList = Lib.deBruijn32tab.map fun (n : Nat) => Value.int .u8 (n : Int)
theorem stays : Stays V := fun w w' hb ⟨cs, t, h1, h2⟩ => ⟨cs, t, by rw [hb.block 0 ((Array.getElem?_eq_some_iff.1 h1).1)]; exact h1, h2⟩
def ref05_Great_L : List (Nat × FSpec) := []
theorem ref05_Great_l : AllMeet Tryd.prog V ref05_Great_L := .nil
set_option maxRecDepth 100000 in
theorem ref05_Great_d : ∀ x : PSSite, denote (mkC Tryd.prog V ref05_Great_L) 1 (inlOf Tryd.f12 { loops := [(0, [.slot 3 I64]), (2, [.slot 4 I64])] }) [SSite] [Bo] false x = ref05_Great_t x := fun x => by kernel_rfl
theorem ref05_Great_m : Meets Tryd.prog V 12 (spP [SSite] [Bo] ref05_Great_t) := meets_part ref05_Great_l stays hmix (hs := { loops := [(0, [.slot 3 I64]), (2, [.slot 4 I64])] }) (fnOK Tryd.func12 (by kernel_rfl) (by kernel_rfl) (by kernel_rfl)) false ref05_Great_d
def site_in_L : List (Nat × FSpec) := []
theorem site_in_l : AllMeet Tryd.prog V site_in_L := .nil
set_option maxRecDepth 100000 in
theorem site_in_d : ∀ x : Int × Int × Int, denote (mkC Tryd.prog V site_in_L) 1 (inlOf Tryd.f84 {}) [I64, I64, I64] [Bo] false x = site_in_t x := fun x => by kernel_rfl
theorem site_in_m : Meets Tryd.prog V 84 (spT [I64, I64, I64] [Bo] site_in) := meets_tot site_in_l stays hmix (hs := {}) (fnOK Tryd.func84 (by kernel_rfl) (by kernel_rfl) (by kernel_rfl)) false fun x => (site_in_d x).trans (site_in_e x)
def site_shape_L : List (Nat × FSpec) := [(84, (spT [I64, I64, I64] [Bo] site_in))]
theorem site_shape_l : AllMeet Tryd.prog V site_shape_L := (.cons site_in_m .nil)
set_option maxRecDepth 100000 in
theorem site_shape_d : ∀ x : PSSite, denote (mkC Tryd.prog V site_shape_L) 1 (inlOf Tryd.f85 { loops := [(0, [.slot 48 I64])] }) [SSite] [Bo] false x = site_shape_t x := fun x => by kernel_rfl
theorem site_shape_m : Meets Tryd.prog V 85 (spP [SSite] [Bo] site_shape_t) := meets_part site_shape_l stays hmix (hs := { loops := [(0, [.slot 48 I64])] }) (fnOK Tryd.func85 (by kernel_rfl) (by kernel_rfl) (by kernel_rfl)) false site_shape_d
def site_ticks_L : List (Nat × FSpec) := [(84, (spT [I64, I64, I64] [Bo] site_in))]
theorem site_ticks_l : AllMeet Tryd.prog V site_ticks_L := (.cons site_in_m .nil)
set_option maxRecDepth 100000 in
theorem site_ticks_d : ∀ x : List Int, denote (mkC Tryd.prog V site_ticks_L) 1 (inlOf Tryd.f118 { loops := [(0, [.slot 7 I64])] }) [I64s] [Bo] false x = site_ticks_t x := fun x => by kernel_rfl
theorem site_ticks_m : Meets Tryd.prog V 118 (spT [I64s] [Bo] site_ticks) := meets_up (meets_part site_ticks_l stays hmix (hs := { loops := [(0, [.slot 7 I64])] }) (fnOK Tryd.func118 (by kernel_rfl) (by kernel_rfl) (by kernel_rfl)) false site_ticks_d) site_ticks_e
def ring_bit_L : List (Nat × FSpec) := []
theorem ring_bit_l : AllMeet Tryd.prog V ring_bit_L := .nil
set_option maxRecDepth 100000 in
theorem ring_bit_d : ∀ x : Int, denote (mkC Tryd.prog V ring_bit_L) 1 (inlOf Tryd.f134 {}) [I64] [U32] false x = ring_bit_t x := fun x => by kernel_rfl
theorem ring_bit_m : Meets Tryd.prog V 134 (spT [I64] [U32] ring_bit) := meets_up (meets_part ring_bit_l stays hmix (hs := {}) (fnOK Tryd.func134 (by kernel_rfl) (by kernel_rfl) (by kernel_rfl)) false ring_bit_d) ring_bit_e
def ring_Has_L : List (Nat × FSpec) := [(134, (spT [I64] [U32] ring_bit))]
theorem ring_Has_l : AllMeet Tryd.prog V ring_Has_L := (.cons ring_bit_m .nil)
set_option maxRecDepth 100000 in
theorem ring_Has_d : ∀ x : Int × Int, denote (mkC Tryd.prog V ring_Has_L) 1 (inlOf Tryd.f119 {}) [U32, I64] [Bo] false x = ring_Has_t x := fun x => by kernel_rfl
theorem ring_Has_m : Meets Tryd.prog V 119 (spT [U32, I64] [Bo] ring_Has) := meets_tot ring_Has_l stays hmix (hs := {}) (fnOK Tryd.func119 (by kernel_rfl) (by kernel_rfl) (by kernel_rfl)) false fun x => (ring_Has_d x).trans (ring_Has_e x)
def site_apart_L : List (Nat × FSpec) := [(118, (spT [I64s] [Bo] site_ticks)), (119, (spT [U32, I64] [Bo] ring_Has)), (84, (spT [I64, I64, I64] [Bo] site_in))]
theorem site_apart_l : AllMeet Tryd.prog V site_apart_L := (.cons site_ticks_m (.cons ring_Has_m (.cons site_in_m .nil)))
set_option maxRecDepth 100000 in
theorem site_apart_d : ∀ x : PSSite, denote (mkC Tryd.prog V site_apart_L) 1 (inlOf Tryd.f86 { loops := [(0, [.slot 11 I64]), (2, [.slot 39 I64])] }) [SSite] [Bo] false x = site_apart_t x := fun x => by kernel_rfl
theorem site_apart_m : Meets Tryd.prog V 86 (spP [SSite] [Bo] site_apart_t) := meets_part site_apart_l stays hmix (hs := { loops := [(0, [.slot 11 I64]), (2, [.slot 39 I64])] }) (fnOK Tryd.func86 (by kernel_rfl) (by kernel_rfl) (by kernel_rfl)) false site_apart_d
theorem V.cell {w : World} (h : V w) (i : Nat) (hi : i < 32) : w.cell? ⟨0, i, none⟩ = some (.int .u8 (Lib.deBruijn32tab.getD i 0 : Nat)) := by
  obtain ⟨cs, t, h1, h2⟩ := h
  unfold World.cell?
  rw [h1]
  have : cs[i]? = some (Value.int .u8 (Lib.deBruijn32tab.getD i 0 : Nat)) := by
    rw [← Array.getElem?_toList, h2, List.getElem?_map, List.getD_eq_getElem?_getD]
    have hl : i < Lib.deBruijn32tab.length := hi
    rw [List.getElem?_eq_getElem hl]; rfl
  simpa using this
theorem tz_arith {x : Int} (hx : U32ok x) (h0 : x ≠ 0) : bits .and .u32 x (-x % 4294967296) * 125613361 % 4294967296 / 134217728 = ((2 ^ (Lib.ctz 32 x.toNat) * 125613361 % 4294967296 / 134217728 : Nat) : Int) ∧ Lib.ctz 32 x.toNat < 32 := by
  have hn : x.toNat ≠ 0 := by have := hx.1; omega
  obtain ⟨h1, h2⟩ := Lib.lowest_bit 32 x.toNat hn (natlt hx)
  refine ⟨?_, h2⟩
  have e : -x % 4294967296 = 4294967296 - x := by have := hx.1; have := hx.2; omega
  have hy : U32ok (4294967296 - x) := ⟨by have := hx.2; omega, by have := hx.1; omega⟩
  have hb : bits .and .u32 x (-x % 4294967296) = ((2 ^ Lib.ctz 32 x.toNat : Nat) : Int) := by
    rw [e]
    have hk : bits .and .u32 x (4294967296 - x) = bitop .and .u32 x (4294967296 - x) := rfl
    rw [hk, and_u32 hx hy, ← h1]
    congr 2
    have := hx.1; have := hx.2
    have : (2 : Nat) ^ 32 = 4294967296 := by decide
    omega
  rw [hb]
  simp
theorem inR_u32 {x : Int} (h : inR .u32 x = true) : U32ok x := by
  simpa [inR, IntKind.min, IntKind.max, IntKind.signed, IntKind.bits, U32ok] using h
theorem inR_i64 {y : Int} (h0 : 0 ≤ y) (h1 : y ≤ 1000000) : inR .i64 y = true := by
  simp only [inR, IntKind.min, IntKind.max, IntKind.signed, IntKind.bits, Bool.and_eq_true, decide_eq_true_eq]
  simp
  omega
theorem tz_bound {x : Int} (hx : U32ok x) : 0 ≤ bits_TrailingZeros32 x ∧ bits_TrailingZeros32 x ≤ 32 := by
  unfold bits_TrailingZeros32
  by_cases hz : x = 0
  · simp [low, hz]
  · have := low_spec hx hz; omega
theorem tz_walk (x : Int) (w : World) (hx : U32ok x) (hv : V w) :
    Calls Tryd.prog 135 #[.int .u32 x] w fun e w' => e = .returned (.int .i64 (bits_TrailingZeros32 x)) ∧ w' = w := by
  have hc := hv.cell
  have h0 := hx.1
  have h1 := hx.2
  by_cases hz : x = 0
  · subst hz
    go_enter Tryd.func135, Tryd.ntmps135
    go_wp2
    all_goals first | (go_ret; exact ⟨rfl, rfl⟩) | (rename_i h; exact absurd h (by decide))
  · go_enter Tryd.func135, Tryd.ntmps135
    go_wp2
    · rename_i h
      exact absurd (by simpa using h) hz
    · go_ret
      refine ⟨?_, rfl⟩
      obtain ⟨h2, h3⟩ := tz_arith hx hz
      obtain ⟨h4, h5⟩ := Lib.deBruijn32_at _ h3
      have e : ((Lib.deBruijn32tab[(bits BinOp.and IntKind.u32 x (-x % 4294967296) * 125613361 % 4294967296 / 134217728).toNat]?.getD 0 : Nat) : Int) = Lib.ctz 32 x.toNat := by
        rw [h2, Int.toNat_natCast, ← List.getD_eq_getElem?_getD, h5]
      have hn : x.toNat ≠ 0 := by omega
      have hl : bits_TrailingZeros32 x = Lib.ctz 32 x.toNat := by simp [bits_TrailingZeros32, low, hz]
      rw [hl, e]
      have e3 : ((Lib.ctz 32 x.toNat : Int) + 9223372036854775808) % 18446744073709551616 - 9223372036854775808 = Lib.ctz 32 x.toNat := by omega
      rw [e3]
      rfl
theorem bits_TrailingZeros32_m : Meets Tryd.prog V 135 (spT [U32] [I64] bits_TrailingZeros32) where
  enters := fun args w => by
    have h : FnOK Tryd.prog 135 (inlOf Tryd.f135 {}) := fnOK Tryd.func135 (by kernel_rfl) (by kernel_rfl) (by kernel_rfl)
    exact h.enters args w
  tot := fun g hg x => by cases hg; rfl
  calls := fun w F vals x y hv hF hr hy => by
    have hy' : some (bits_TrailingZeros32 x) = some y := hy
    cases hy'
    obtain ⟨us, h1, h2⟩ := hr
    have h1' : us = [.int .u32 x] ∧ inR .u32 x = true := h1
    obtain ⟨rfl, hin⟩ := h1'
    have hx : U32ok x := inR_u32 hin
    have : vals = [.int .u32 x] := h2
    subst this
    have hb : inR .i64 (bits_TrailingZeros32 x) = true := inR_i64 (tz_bound hx).1 (by have := (tz_bound hx).2; omega)
    refine (tz_walk x w hx hv).mono fun e w' ⟨he, hw⟩ => ?_
    subst hw
    exact ⟨[.int .i64 (bits_TrailingZeros32 x)], by rw [he]; rfl, Below.refl _ _, ⟨_, ⟨rfl, hb⟩, rfl⟩⟩

def ring_Least_L : List (Nat × FSpec) := [(135, (spT [U32] [I64] bits_TrailingZeros32))]
theorem ring_Least_l : AllMeet Tryd.prog V ring_Least_L := (.cons bits_TrailingZeros32_m .nil)
set_option maxRecDepth 100000 in
theorem ring_Least_d : ∀ x : Int, denote (mkC Tryd.prog V ring_Least_L) 1 (inlOf Tryd.f120 {}) [U32] [I64] false x = ring_Least_t x := fun x => by kernel_rfl
theorem ring_Least_m : Meets Tryd.prog V 120 (spT [U32] [I64] ring_Least) := meets_tot ring_Least_l stays hmix (hs := {}) (fnOK Tryd.func120 (by kernel_rfl) (by kernel_rfl) (by kernel_rfl)) false fun x => (ring_Least_d x).trans (ring_Least_e x)
def ring_Without_L : List (Nat × FSpec) := [(134, (spT [I64] [U32] ring_bit))]
theorem ring_Without_l : AllMeet Tryd.prog V ring_Without_L := (.cons ring_bit_m .nil)
set_option maxRecDepth 100000 in
theorem ring_Without_d : ∀ x : Int × Int, denote (mkC Tryd.prog V ring_Without_L) 1 (inlOf Tryd.f121 {}) [U32, I64] [U32] false x = ring_Without_t x := fun x => by kernel_rfl
theorem ring_Without_m : Meets Tryd.prog V 121 (spT [U32, I64] [U32] ring_Without) := meets_tot ring_Without_l stays hmix (hs := {}) (fnOK Tryd.func121 (by kernel_rfl) (by kernel_rfl) (by kernel_rfl)) false fun x => (ring_Without_d x).trans (ring_Without_e x)
theorem bits_OnesCount32_d : ∀ x : Int, denote (mkC Tryd.prog V []) 1 (inlOf Tryd.f136 {}) [U32] [I64] false x = ocTree x := fun x => by kernel_rfl
theorem bits_OnesCount32_m : Meets Tryd.prog V 136 (spT [U32] [I64] bits_OnesCount32) := meets_up (meets_part .nil stays hmix (hs := {}) (fnOK Tryd.func136 (by kernel_rfl) (by kernel_rfl) (by kernel_rfl)) false bits_OnesCount32_d) (fun x hf => ocTree_eq (fits_u32 hf))

def ring_Count_L : List (Nat × FSpec) := [(136, (spT [U32] [I64] bits_OnesCount32))]
theorem ring_Count_l : AllMeet Tryd.prog V ring_Count_L := (.cons bits_OnesCount32_m .nil)
set_option maxRecDepth 100000 in
theorem ring_Count_d : ∀ x : Int, denote (mkC Tryd.prog V ring_Count_L) 1 (inlOf Tryd.f122 {}) [U32] [I64] false x = ring_Count_t x := fun x => by kernel_rfl
theorem ring_Count_m : Meets Tryd.prog V 122 (spT [U32] [I64] ring_Count) := meets_tot ring_Count_l stays hmix (hs := {}) (fnOK Tryd.func122 (by kernel_rfl) (by kernel_rfl) (by kernel_rfl)) false fun x => (ring_Count_d x).trans (ring_Count_e x)
def site_phased_L : List (Nat × FSpec) := [(118, (spT [I64s] [Bo] site_ticks)), (120, (spT [U32] [I64] ring_Least)), (121, (spT [U32, I64] [U32] ring_Without)), (122, (spT [U32] [I64] ring_Count))]
theorem site_phased_l : AllMeet Tryd.prog V site_phased_L := (.cons site_ticks_m (.cons ring_Least_m (.cons ring_Without_m (.cons ring_Count_m .nil))))
set_option maxRecDepth 100000 in
theorem site_phased_d : ∀ x : PSSite, denote (mkC Tryd.prog V site_phased_L) 1 (inlOf Tryd.f87 { loops := [(0, [.slot 3 U32, .slot 11 I64]), (2, [.slot 6 U32])] }) [SSite] [Bo] false x = site_phased_t x := fun x => by kernel_rfl
theorem site_phased_m : Meets Tryd.prog V 87 (spP [SSite] [Bo] site_phased_t) := meets_part site_phased_l stays hmix (hs := { loops := [(0, [.slot 3 U32, .slot 11 I64]), (2, [.slot 6 U32])] }) (fnOK Tryd.func87 (by kernel_rfl) (by kernel_rfl) (by kernel_rfl)) false site_phased_d
def site_eyed_L : List (Nat × FSpec) := [(84, (spT [I64, I64, I64] [Bo] site_in)), (118, (spT [I64s] [Bo] site_ticks))]
theorem site_eyed_l : AllMeet Tryd.prog V site_eyed_L := (.cons site_in_m (.cons site_ticks_m .nil))
set_option maxRecDepth 100000 in
theorem site_eyed_d : ∀ x : PSSite, denote (mkC Tryd.prog V site_eyed_L) 1 (inlOf Tryd.f88 { loops := [(0, [.slot 8 I64])] }) [SSite] [Bo] false x = site_eyed_t x := fun x => by kernel_rfl
theorem site_eyed_m : Meets Tryd.prog V 88 (spP [SSite] [Bo] site_eyed_t) := meets_part site_eyed_l stays hmix (hs := { loops := [(0, [.slot 8 I64])] }) (fnOK Tryd.func88 (by kernel_rfl) (by kernel_rfl) (by kernel_rfl)) false site_eyed_d
def site_clear_L : List (Nat × FSpec) := [(119, (spT [U32, I64] [Bo] ring_Has)), (120, (spT [U32] [I64] ring_Least)), (121, (spT [U32, I64] [U32] ring_Without))]
theorem site_clear_l : AllMeet Tryd.prog V site_clear_L := (.cons ring_Has_m (.cons ring_Least_m (.cons ring_Without_m .nil)))
set_option maxRecDepth 100000 in
theorem site_clear_d : ∀ x : PSSite × Int × Int, denote (mkC Tryd.prog V site_clear_L) 1 (inlOf Tryd.f137 { loops := [(0, [.slot 6 I64, .slot 13 I64]), (2, [.slot 6 I64, .slot 8 U32])] }) [SSite, I64, I64] [I64] false x = site_clear_t x := fun x => by kernel_rfl
theorem site_clear_m : Meets Tryd.prog V 137 (spP [SSite, I64, I64] [I64] site_clear_t) := meets_part site_clear_l stays hmix (hs := { loops := [(0, [.slot 6 I64, .slot 13 I64]), (2, [.slot 6 I64, .slot 8 U32])] }) (fnOK Tryd.func137 (by kernel_rfl) (by kernel_rfl) (by kernel_rfl)) false site_clear_d
def site_needs_L : List (Nat × FSpec) := [(137, (spP [SSite, I64, I64] [I64] site_clear_t))]
theorem site_needs_l : AllMeet Tryd.prog V site_needs_L := (.cons site_clear_m .nil)
set_option maxRecDepth 100000 in
theorem site_needs_d : ∀ x : PSSite × Int, denote (mkC Tryd.prog V site_needs_L) 1 (inlOf Tryd.f123 {}) [SSite, I64] [I64] false x = site_needs_t x := fun x => by kernel_rfl
theorem site_needs_m : Meets Tryd.prog V 123 (spP [SSite, I64] [I64] site_needs_t) := meets_part site_needs_l stays hmix (hs := {}) (fnOK Tryd.func123 (by kernel_rfl) (by kernel_rfl) (by kernel_rfl)) false site_needs_d
def site_timed_L : List (Nat × FSpec) := [(123, (spP [SSite, I64] [I64] site_needs_t)), (118, (spT [I64s] [Bo] site_ticks))]
theorem site_timed_l : AllMeet Tryd.prog V site_timed_L := (.cons site_needs_m (.cons site_ticks_m .nil))
set_option maxRecDepth 100000 in
theorem site_timed_d : ∀ x : PSSite, denote (mkC Tryd.prog V site_timed_L) 1 (inlOf Tryd.f89 { loops := [(0, [.slot 3 I64, .slot 8 I64])] }) [SSite] [Bo] false x = site_timed_t x := fun x => by kernel_rfl
theorem site_timed_m : Meets Tryd.prog V 89 (spP [SSite] [Bo] site_timed_t) := meets_part site_timed_l stays hmix (hs := { loops := [(0, [.slot 3 I64, .slot 8 I64])] }) (fnOK Tryd.func89 (by kernel_rfl) (by kernel_rfl) (by kernel_rfl)) false site_timed_d
def site_fits_L : List (Nat × FSpec) := [(84, (spT [I64, I64, I64] [Bo] site_in)), (123, (spP [SSite, I64] [I64] site_needs_t))]
theorem site_fits_l : AllMeet Tryd.prog V site_fits_L := (.cons site_in_m (.cons site_needs_m .nil))
set_option maxRecDepth 100000 in
theorem site_fits_d : ∀ x : PSSite × PSPlan, denote (mkC Tryd.prog V site_fits_L) 1 (inlOf Tryd.f124 { loops := [(0, [.slot 5 I64, .slot 39 I64])] }) [SSite, SPlan] [Bo] false x = site_fits_t x := fun x => by kernel_rfl
theorem site_fits_m : Meets Tryd.prog V 124 (spP [SSite, SPlan] [Bo] site_fits_t) := meets_part site_fits_l stays hmix (hs := { loops := [(0, [.slot 5 I64, .slot 39 I64])] }) (fnOK Tryd.func124 (by kernel_rfl) (by kernel_rfl) (by kernel_rfl)) false site_fits_d
def site_planned_L : List (Nat × FSpec) := [(124, (spP [SSite, SPlan] [Bo] site_fits_t))]
theorem site_planned_l : AllMeet Tryd.prog V site_planned_L := (.cons site_fits_m .nil)
set_option maxRecDepth 100000 in
theorem site_planned_d : ∀ x : PSSite, denote (mkC Tryd.prog V site_planned_L) 1 (inlOf Tryd.f90 { loops := [(0, [.slot 8 I64])] }) [SSite] [Bo] false x = site_planned_t x := fun x => by kernel_rfl
theorem site_planned_m : Meets Tryd.prog V 90 (spP [SSite] [Bo] site_planned_t) := meets_part site_planned_l stays hmix (hs := { loops := [(0, [.slot 8 I64])] }) (fnOK Tryd.func90 (by kernel_rfl) (by kernel_rfl) (by kernel_rfl)) false site_planned_d
def site_Check_L : List (Nat × FSpec) := [(84, (spT [I64, I64, I64] [Bo] site_in)), (85, (spP [SSite] [Bo] site_shape_t)), (86, (spP [SSite] [Bo] site_apart_t)), (87, (spP [SSite] [Bo] site_phased_t)), (88, (spP [SSite] [Bo] site_eyed_t)), (89, (spP [SSite] [Bo] site_timed_t)), (90, (spP [SSite] [Bo] site_planned_t))]
theorem site_Check_l : AllMeet Tryd.prog V site_Check_L := (.cons site_in_m (.cons site_shape_m (.cons site_apart_m (.cons site_phased_m (.cons site_eyed_m (.cons site_timed_m (.cons site_planned_m .nil)))))))
set_option maxRecDepth 100000 in
theorem site_Check_d : ∀ x : PSSite, denote (mkC Tryd.prog V site_Check_L) 1 (inlOf Tryd.f47 { loops := [(0, [.slot 3 Bo, .slot 5 I64])] }) [SSite] [I64] false x = site_Check_t x := fun x => by kernel_rfl
theorem site_Check_m : Meets Tryd.prog V 47 (spP [SSite] [I64] site_Check_t) := meets_part site_Check_l stays hmix (hs := { loops := [(0, [.slot 3 Bo, .slot 5 I64])] }) (fnOK Tryd.func47 (by kernel_rfl) (by kernel_rfl) (by kernel_rfl)) false site_Check_d
def safe_apart_L : List (Nat × FSpec) := []
theorem safe_apart_l : AllMeet Tryd.prog V safe_apart_L := .nil
set_option maxRecDepth 100000 in
theorem safe_apart_d : ∀ x : PSSite × Int × Int, denote (mkC Tryd.prog V safe_apart_L) 1 (inlOf Tryd.f103 {}) [SSite, I64, I64] [Bo] false x = safe_apart_t x := fun x => by kernel_rfl
theorem safe_apart_m : Meets Tryd.prog V 103 (spP [SSite, I64, I64] [Bo] safe_apart_t) := meets_part safe_apart_l stays hmix (hs := {}) (fnOK Tryd.func103 (by kernel_rfl) (by kernel_rfl) (by kernel_rfl)) false safe_apart_d
def safe_between_L : List (Nat × FSpec) := []
theorem safe_between_l : AllMeet Tryd.prog V safe_between_L := .nil
set_option maxRecDepth 100000 in
theorem safe_between_d : ∀ x : PSSite × Int × Int, denote (mkC Tryd.prog V safe_between_L) 1 (inlOf Tryd.f104 {}) [SSite, I64, I64] [I64] false x = safe_between_t x := fun x => by kernel_rfl
theorem safe_between_m : Meets Tryd.prog V 104 (spP [SSite, I64, I64] [I64] safe_between_t) := meets_part safe_between_l stays hmix (hs := {}) (fnOK Tryd.func104 (by kernel_rfl) (by kernel_rfl) (by kernel_rfl)) false safe_between_d
def safe_greatest_L : List (Nat × FSpec) := [(103, (spP [SSite, I64, I64] [Bo] safe_apart_t)), (104, (spP [SSite, I64, I64] [I64] safe_between_t))]
theorem safe_greatest_l : AllMeet Tryd.prog V safe_greatest_L := (.cons safe_apart_m (.cons safe_between_m .nil))
set_option maxRecDepth 100000 in
theorem safe_greatest_d : ∀ x : PSSite, denote (mkC Tryd.prog V safe_greatest_L) 1 (inlOf Tryd.f64 { loops := [(0, [.slot 3 I64, .slot 9 I64]), (2, [.slot 3 I64, .slot 15 I64])] }) [SSite] [I64] false x = safe_greatest_t x := fun x => by kernel_rfl
theorem safe_greatest_m : Meets Tryd.prog V 64 (spP [SSite] [I64] safe_greatest_t) := meets_part safe_greatest_l stays hmix (hs := { loops := [(0, [.slot 3 I64, .slot 9 I64]), (2, [.slot 3 I64, .slot 15 I64])] }) (fnOK Tryd.func64 (by kernel_rfl) (by kernel_rfl) (by kernel_rfl)) false safe_greatest_d
def safe_first_L : List (Nat × FSpec) := [(64, (spP [SSite] [I64] safe_greatest_t))]
theorem safe_first_l : AllMeet Tryd.prog V safe_first_L := (.cons safe_greatest_m .nil)
set_option maxRecDepth 100000 in
theorem safe_first_d : ∀ x : PSSite, denote (mkC Tryd.prog V safe_first_L) 1 (inlOf Tryd.f48 { loops := [(0, [.slot 10 I64, .fown 3 .unit SSeen (.pair I64 Bo)])] }) [SSite] [SSafe] false x = safe_first_t x := fun x => by kernel_rfl
theorem safe_first_m : Meets Tryd.prog V 48 (spP [SSite] [SSafe] safe_first_t) := meets_part safe_first_l stays hmix (hs := { loops := [(0, [.slot 10 I64, .fown 3 .unit SSeen (.pair I64 Bo)])] }) (fnOK Tryd.func48 (by kernel_rfl) (by kernel_rfl) (by kernel_rfl)) false safe_first_d
def safe_First_L : List (Nat × FSpec) := [(47, (spP [SSite] [I64] site_Check_t)), (48, (spP [SSite] [SSafe] safe_first_t))]
theorem safe_First_l : AllMeet Tryd.prog V safe_First_L := (.cons site_Check_m (.cons safe_first_m .nil))
set_option maxRecDepth 100000 in
theorem safe_First_d : ∀ x : PSSite, denote (mkC Tryd.prog V safe_First_L) 1 (inlOf Tryd.f28 {}) [SSite] [SSafe, I64] false x = safe_First_t x := fun x => by kernel_rfl
theorem safe_First_m : Meets Tryd.prog V 28 (spP [SSite] [SSafe, I64] safe_First_t) := meets_part safe_First_l stays hmix (hs := {}) (fnOK Tryd.func28 (by kernel_rfl) (by kernel_rfl) (by kernel_rfl)) false safe_First_d
theorem clone_U8_m : Meets Tryd.prog V 68 (spP [Ty.slice U8] [Ty.slice U8] clone_U8_t true) :=
  clone_meets (e := 5) (T := U8) stays hmix Tryd.func68 ⟨by kernel_rfl, rfl, by kernel_rfl, by kernel_rfl, by decide, ⟨0, 1, 2, _, _, _, _, rfl, ⟨rfl, rfl, rfl⟩, ⟨rfl, rfl, rfl⟩, ⟨rfl, ⟨_, rfl⟩, rfl⟩, ⟨rfl, rfl, rfl⟩⟩⟩ (fun l => by kernel_rfl) (fun y h => (Option.some.inj ((show clone_U8_t [] = some [] by kernel_rfl).symm.trans h)).symm)
def gate_all_L : List (Nat × FSpec) := []
theorem gate_all_l : AllMeet Tryd.prog V gate_all_L := .nil
set_option maxRecDepth 100000 in
theorem gate_all_d : ∀ x : Int × Int, denote (mkC Tryd.prog V gate_all_L) 1 (inlOf Tryd.f46 { loops := [(0, [.slot 11 I64, .arr 8 U8])] }) [I64, U8] [U8s] true x = gate_all_t x := fun x => by kernel_rfl
theorem gate_all_m : Meets Tryd.prog V 46 (spP [I64, U8] [U8s] gate_all_t true) := meets_part gate_all_l stays hmix (hs := { loops := [(0, [.slot 11 I64, .arr 8 U8])] }) (fnOK Tryd.func46 (by kernel_rfl) (by kernel_rfl) (by kernel_rfl)) true gate_all_d
def lamp_kept_L : List (Nat × FSpec) := []
theorem lamp_kept_l : AllMeet Tryd.prog V lamp_kept_L := .nil
set_option maxRecDepth 100000 in
theorem lamp_kept_d : ∀ x : Int, denote (mkC Tryd.prog V lamp_kept_L) 1 (inlOf Tryd.f106 {}) [I64] [I64] false x = lamp_kept_t x := fun x => by kernel_rfl
theorem lamp_kept_m : Meets Tryd.prog V 106 (spT [I64] [I64] lamp_kept) := meets_tot lamp_kept_l stays hmix (hs := {}) (fnOK Tryd.func106 (by kernel_rfl) (by kernel_rfl) (by kernel_rfl)) false fun x => (lamp_kept_d x).trans (lamp_kept_e x)
def lamp_Want_L : List (Nat × FSpec) := [(106, (spT [I64] [I64] lamp_kept))]
theorem lamp_Want_l : AllMeet Tryd.prog V lamp_Want_L := (.cons lamp_kept_m .nil)
set_option maxRecDepth 100000 in
theorem lamp_Want_d : ∀ x : PSGroup × PSSeen × Int, denote (mkC Tryd.prog V lamp_Want_L) 1 (inlOf Tryd.f69 {}) [SGroup, SSeen, U8] [U8] false x = lamp_Want_t x := fun x => by kernel_rfl
theorem lamp_Want_m : Meets Tryd.prog V 69 (spT [SGroup, SSeen, U8] [U8] lamp_Want) := meets_tot lamp_Want_l stays hmix (hs := {}) (fnOK Tryd.func69 (by kernel_rfl) (by kernel_rfl) (by kernel_rfl)) false fun x => (lamp_Want_d x).trans (lamp_Want_e x)
def gate_admit_L : List (Nat × FSpec) := [(68, (spP [U8s] [U8s] clone_U8_t true)), (46, (spP [I64, U8] [U8s] gate_all_t true)), (69, (spT [SGroup, SSeen, U8] [U8] lamp_Want))]
theorem gate_admit_l : AllMeet Tryd.prog V gate_admit_L := (.cons clone_U8_m (.cons gate_all_m (.cons lamp_Want_m .nil)))
noncomputable def gate_admit_I : List (Nat × Inl) := [(66, inlOf Tryd.f66 {}), (105, inlOf Tryd.f105 { loops := [(0, [.slot 8 I64])] }), (67, inlOf Tryd.f67 {}), (70, inlOf Tryd.f70 { loops := [(0, [.slot 11 I64, .barr 3 U8])] })]
theorem gate_admit_i : AllOK Tryd.prog gate_admit_I := (.cons (fnOK Tryd.func66 (by kernel_rfl) (by kernel_rfl) (by kernel_rfl)) (.cons (fnOK Tryd.func105 (by kernel_rfl) (by kernel_rfl) (by kernel_rfl)) (.cons (fnOK Tryd.func67 (by kernel_rfl) (by kernel_rfl) (by kernel_rfl)) (.cons (fnOK Tryd.func70 (by kernel_rfl) (by kernel_rfl) (by kernel_rfl)) .nil))))
set_option maxRecDepth 100000 in
theorem gate_admit_d : ∀ x : PSSite × PSSafe × List Int, denote (mkC Tryd.prog V gate_admit_L gate_admit_I) 5 (inlOf Tryd.f39 { loops := [(1, [.slot 36 I64, .barr 8 U8]), (3, [.slot 63 I64, .barr 8 U8])], joins := [(2, [])], outs := [(2, [(7, Bo)])] }) [SSite, SSafe, U8s] [U8s] true x = gate_admit_t x := fun x => by kernel_rfl
theorem gate_admit_m : Meets Tryd.prog V 39 (spP [SSite, SSafe, U8s] [U8s] gate_admit_t true) := meets_part_il gate_admit_l stays hmix gate_admit_i (hs := { loops := [(1, [.slot 36 I64, .barr 8 U8]), (3, [.slot 63 I64, .barr 8 U8])], joins := [(2, [])], outs := [(2, [(7, Bo)])] }) (fnOK Tryd.func39 (by kernel_rfl) (by kernel_rfl) (by kernel_rfl)) true 5 gate_admit_d
def safe_shown_L : List (Nat × FSpec) := []
theorem safe_shown_l : AllMeet Tryd.prog V safe_shown_L := .nil
set_option maxRecDepth 100000 in
theorem safe_shown_d : ∀ x : PSSafe, denote (mkC Tryd.prog V safe_shown_L) 1 (inlOf Tryd.f99 { loops := [(0, [.slot 13 I64, .arr 9 U8])] }) [SSafe] [U8s] true x = safe_shown_t x := fun x => by kernel_rfl
theorem safe_shown_m : Meets Tryd.prog V 99 (spP [SSafe] [U8s] safe_shown_t true) := meets_part safe_shown_l stays hmix (hs := { loops := [(0, [.slot 13 I64, .arr 9 U8])] }) (fnOK Tryd.func99 (by kernel_rfl) (by kernel_rfl) (by kernel_rfl)) true safe_shown_d
def safe_flash_L : List (Nat × FSpec) := []
theorem safe_flash_l : AllMeet Tryd.prog V safe_flash_L := .nil
noncomputable def safe_flash_I : List (Nat × Inl) := [(66, inlOf Tryd.f66 {}), (105, inlOf Tryd.f105 { loops := [(0, [.slot 8 I64])] }), (125, inlOf Tryd.f125 {})]
theorem safe_flash_i : AllOK Tryd.prog safe_flash_I := (.cons (fnOK Tryd.func66 (by kernel_rfl) (by kernel_rfl) (by kernel_rfl)) (.cons (fnOK Tryd.func105 (by kernel_rfl) (by kernel_rfl) (by kernel_rfl)) (.cons (fnOK Tryd.func125 (by kernel_rfl) (by kernel_rfl) (by kernel_rfl)) .nil)))
set_option maxRecDepth 100000 in
theorem safe_flash_d : ∀ x : List Int, denote (mkC Tryd.prog V safe_flash_L safe_flash_I) 4 (inlOf Tryd.f91 {}) [U8s] [Bo] false x = safe_flash_t x := fun x => by kernel_rfl
theorem safe_flash_m : Meets Tryd.prog V 91 (spP [U8s] [Bo] safe_flash_t) := meets_part_il safe_flash_l stays hmix safe_flash_i (hs := {}) (fnOK Tryd.func91 (by kernel_rfl) (by kernel_rfl) (by kernel_rfl)) false 4 safe_flash_d
def safe_red_L : List (Nat × FSpec) := []
theorem safe_red_l : AllMeet Tryd.prog V safe_red_L := .nil
set_option maxRecDepth 100000 in
theorem safe_red_d : ∀ x : Int, denote (mkC Tryd.prog V safe_red_L) 1 (inlOf Tryd.f94 {}) [U8] [Bo] false x = safe_red_t x := fun x => by kernel_rfl
theorem safe_red_m : Meets Tryd.prog V 94 (spT [U8] [Bo] safe_red) := meets_tot safe_red_l stays hmix (hs := {}) (fnOK Tryd.func94 (by kernel_rfl) (by kernel_rfl) (by kernel_rfl)) false fun x => (safe_red_d x).trans (safe_red_e x)
def safe_meet_L : List (Nat × FSpec) := [(94, (spT [U8] [Bo] safe_red)), (103, (spP [SSite, I64, I64] [Bo] safe_apart_t))]
theorem safe_meet_l : AllMeet Tryd.prog V safe_meet_L := (.cons safe_red_m (.cons safe_apart_m .nil))
set_option maxRecDepth 100000 in
theorem safe_meet_d : ∀ x : PSSite × List Int, denote (mkC Tryd.prog V safe_meet_L) 1 (inlOf Tryd.f96 { loops := [(0, [.slot 9 I64]), (2, [.slot 18 I64])] }) [SSite, U8s] [Bo] false x = safe_meet_t x := fun x => by kernel_rfl
theorem safe_meet_m : Meets Tryd.prog V 96 (spP [SSite, U8s] [Bo] safe_meet_t) := meets_part safe_meet_l stays hmix (hs := { loops := [(0, [.slot 9 I64]), (2, [.slot 18 I64])] }) (fnOK Tryd.func96 (by kernel_rfl) (by kernel_rfl) (by kernel_rfl)) false safe_meet_d
def safe_may_L : List (Nat × FSpec) := [(99, (spP [SSafe] [U8s] safe_shown_t true)), (91, (spP [U8s] [Bo] safe_flash_t)), (96, (spP [SSite, U8s] [Bo] safe_meet_t))]
theorem safe_may_l : AllMeet Tryd.prog V safe_may_L := (.cons safe_shown_m (.cons safe_flash_m (.cons safe_meet_m .nil)))
set_option maxRecDepth 100000 in
theorem safe_may_d : ∀ x : PSSite × PSSafe, denote (mkC Tryd.prog V safe_may_L) 1 (inlOf Tryd.f51 {}) [SSite, SSafe] [Bo] false x = safe_may_t x := fun x => by kernel_rfl
theorem safe_may_m : Meets Tryd.prog V 51 (spP [SSite, SSafe] [Bo] safe_may_t) := meets_part safe_may_l stays hmix (hs := {}) (fnOK Tryd.func51 (by kernel_rfl) (by kernel_rfl) (by kernel_rfl)) false safe_may_d
def slices_Index___uint8_uint8__L : List (Nat × FSpec) := []
theorem slices_Index___uint8_uint8__l : AllMeet Tryd.prog V slices_Index___uint8_uint8__L := .nil
set_option maxRecDepth 100000 in
theorem slices_Index___uint8_uint8__d : ∀ x : List Int × Int, denote (mkC Tryd.prog V slices_Index___uint8_uint8__L) 1 (inlOf Tryd.f126 { loops := [(0, [.slot 8 I64])] }) [U8s, U8] [I64] false x = slices_Index___uint8_uint8__t x := fun x => by kernel_rfl
theorem slices_Index___uint8_uint8__m : Meets Tryd.prog V 126 (spP [U8s, U8] [I64] slices_Index___uint8_uint8__t) := meets_part slices_Index___uint8_uint8__l stays hmix (hs := { loops := [(0, [.slot 8 I64])] }) (fnOK Tryd.func126 (by kernel_rfl) (by kernel_rfl) (by kernel_rfl)) false slices_Index___uint8_uint8__d
def slices_Contains___uint8_uint8__L : List (Nat × FSpec) := [(126, (spP [U8s, U8] [I64] slices_Index___uint8_uint8__t))]
theorem slices_Contains___uint8_uint8__l : AllMeet Tryd.prog V slices_Contains___uint8_uint8__L := (.cons slices_Index___uint8_uint8__m .nil)
set_option maxRecDepth 100000 in
theorem slices_Contains___uint8_uint8__d : ∀ x : List Int × Int, denote (mkC Tryd.prog V slices_Contains___uint8_uint8__L) 1 (inlOf Tryd.f92 {}) [U8s, U8] [Bo] false x = slices_Contains___uint8_uint8__t x := fun x => by kernel_rfl
theorem slices_Contains___uint8_uint8__m : Meets Tryd.prog V 92 (spP [U8s, U8] [Bo] slices_Contains___uint8_uint8__t) := meets_part slices_Contains___uint8_uint8__l stays hmix (hs := {}) (fnOK Tryd.func92 (by kernel_rfl) (by kernel_rfl) (by kernel_rfl)) false slices_Contains___uint8_uint8__d
def lamp_goes_L : List (Nat × FSpec) := []
theorem lamp_goes_l : AllMeet Tryd.prog V lamp_goes_L := .nil
set_option maxRecDepth 100000 in
theorem lamp_goes_d : ∀ x : Int, denote (mkC Tryd.prog V lamp_goes_L) 1 (inlOf Tryd.f127 {}) [U8] [Bo] false x = lamp_goes_t x := fun x => by kernel_rfl
theorem lamp_goes_m : Meets Tryd.prog V 127 (spT [U8] [Bo] lamp_goes) := meets_tot lamp_goes_l stays hmix (hs := {}) (fnOK Tryd.func127 (by kernel_rfl) (by kernel_rfl) (by kernel_rfl)) false fun x => (lamp_goes_d x).trans (lamp_goes_e x)
def lamp_Follows_L : List (Nat × FSpec) := []
theorem lamp_Follows_l : AllMeet Tryd.prog V lamp_Follows_L := .nil
set_option maxRecDepth 100000 in
theorem lamp_Follows_d : ∀ x : Int × Int, denote (mkC Tryd.prog V lamp_Follows_L) 1 (inlOf Tryd.f128 {}) [U8, U8] [Bo] false x = lamp_Follows_t x := fun x => by kernel_rfl
theorem lamp_Follows_m : Meets Tryd.prog V 128 (spT [U8, U8] [Bo] lamp_Follows) := meets_tot lamp_Follows_l stays hmix (hs := {}) (fnOK Tryd.func128 (by kernel_rfl) (by kernel_rfl) (by kernel_rfl)) false fun x => (lamp_Follows_d x).trans (lamp_Follows_e x)
def lamp_May_L : List (Nat × FSpec) := [(106, (spT [I64] [I64] lamp_kept)), (127, (spT [U8] [Bo] lamp_goes)), (128, (spT [U8, U8] [Bo] lamp_Follows))]
theorem lamp_May_l : AllMeet Tryd.prog V lamp_May_L := (.cons lamp_kept_m (.cons lamp_goes_m (.cons lamp_Follows_m .nil)))
set_option maxRecDepth 100000 in
theorem lamp_May_d : ∀ x : PSGroup × PSSeen × Int, denote (mkC Tryd.prog V lamp_May_L) 1 (inlOf Tryd.f95 {}) [SGroup, SSeen, U8] [U8] false x = lamp_May_t x := fun x => by kernel_rfl
theorem lamp_May_m : Meets Tryd.prog V 95 (spT [SGroup, SSeen, U8] [U8] lamp_May) := meets_tot lamp_May_l stays hmix (hs := {}) (fnOK Tryd.func95 (by kernel_rfl) (by kernel_rfl) (by kernel_rfl)) false fun x => (lamp_May_d x).trans (lamp_May_e x)
def safe_close_L : List (Nat × FSpec) := [(103, (spP [SSite, I64, I64] [Bo] safe_apart_t)), (104, (spP [SSite, I64, I64] [I64] safe_between_t))]
theorem safe_close_l : AllMeet Tryd.prog V safe_close_L := (.cons safe_apart_m (.cons safe_between_m .nil))
set_option maxRecDepth 100000 in
theorem safe_close_d : ∀ x : PSSite × PSSafe × List Int, denote (mkC Tryd.prog V safe_close_L) 1 (inlOf Tryd.f97 { loops := [(0, [.slot 14 I64]), (2, [.slot 32 I64])] }) [SSite, SSafe, U8s] [Bo] false x = safe_close_t x := fun x => by kernel_rfl
theorem safe_close_m : Meets Tryd.prog V 97 (spP [SSite, SSafe, U8s] [Bo] safe_close_t) := meets_part safe_close_l stays hmix (hs := { loops := [(0, [.slot 14 I64]), (2, [.slot 32 I64])] }) (fnOK Tryd.func97 (by kernel_rfl) (by kernel_rfl) (by kernel_rfl)) false safe_close_d
def safe_fault_L : List (Nat × FSpec) := [(91, (spP [U8s] [Bo] safe_flash_t)), (92, (spP [U8s, U8] [Bo] slices_Contains___uint8_uint8__t)), (95, (spT [SGroup, SSeen, U8] [U8] lamp_May)), (96, (spP [SSite, U8s] [Bo] safe_meet_t)), (97, (spP [SSite, SSafe, U8s] [Bo] safe_close_t)), (94, (spT [U8] [Bo] safe_red))]
theorem safe_fault_l : AllMeet Tryd.prog V safe_fault_L := (.cons safe_flash_m (.cons slices_Contains___uint8_uint8__m (.cons lamp_May_m (.cons safe_meet_m (.cons safe_close_m (.cons safe_red_m .nil))))))
noncomputable def safe_fault_I : List (Nat × Inl) := [(66, inlOf Tryd.f66 {}), (105, inlOf Tryd.f105 { loops := [(0, [.slot 8 I64])] }), (93, inlOf Tryd.f93 {})]
theorem safe_fault_i : AllOK Tryd.prog safe_fault_I := (.cons (fnOK Tryd.func66 (by kernel_rfl) (by kernel_rfl) (by kernel_rfl)) (.cons (fnOK Tryd.func105 (by kernel_rfl) (by kernel_rfl) (by kernel_rfl)) (.cons (fnOK Tryd.func93 (by kernel_rfl) (by kernel_rfl) (by kernel_rfl)) .nil)))
set_option maxRecDepth 100000 in
theorem safe_fault_d : ∀ x : PSSite × PSSafe × List Int, denote (mkC Tryd.prog V safe_fault_L safe_fault_I) 4 (inlOf Tryd.f49 { loops := [(1, [.slot 38 I64])], joins := [(8, [])], outs := [(8, [(23, Bo)])] }) [SSite, SSafe, U8s] [U8] false x = safe_fault_t x := fun x => by kernel_rfl
theorem safe_fault_m : Meets Tryd.prog V 49 (spP [SSite, SSafe, U8s] [U8] safe_fault_t) := meets_part_il safe_fault_l stays hmix safe_fault_i (hs := { loops := [(1, [.slot 38 I64])], joins := [(8, [])], outs := [(8, [(23, Bo)])] }) (fnOK Tryd.func49 (by kernel_rfl) (by kernel_rfl) (by kernel_rfl)) false 4 safe_fault_d
theorem clone_Seen_m : Meets Tryd.prog V 52 (spP [Ty.slice SSeen] [Ty.slice SSeen] clone_Seen_t true) :=
  clone_meets (e := 61) (T := SSeen) stays hmix Tryd.func52 ⟨by kernel_rfl, rfl, by kernel_rfl, by kernel_rfl, by decide, ⟨0, 1, 2, _, _, _, _, rfl, ⟨rfl, rfl, rfl⟩, ⟨rfl, rfl, rfl⟩, ⟨rfl, ⟨_, rfl⟩, rfl⟩, ⟨rfl, rfl, rfl⟩⟩⟩ (fun l => by kernel_rfl) (fun y h => (Option.some.inj ((show clone_Seen_t [] = some [] by kernel_rfl).symm.trans h)).symm)
def lamp_more_L : List (Nat × FSpec) := [(106, (spT [I64] [I64] lamp_kept))]
theorem lamp_more_l : AllMeet Tryd.prog V lamp_more_L := (.cons lamp_kept_m .nil)
set_option maxRecDepth 100000 in
theorem lamp_more_d : ∀ x : Int, denote (mkC Tryd.prog V lamp_more_L) 1 (inlOf Tryd.f129 {}) [I64] [I64] false x = lamp_more_t x := fun x => by kernel_rfl
theorem lamp_more_m : Meets Tryd.prog V 129 (spT [I64] [I64] lamp_more) := meets_tot lamp_more_l stays hmix (hs := {}) (fnOK Tryd.func129 (by kernel_rfl) (by kernel_rfl) (by kernel_rfl)) false fun x => (lamp_more_d x).trans (lamp_more_e x)
def lamp_Next_L : List (Nat × FSpec) := [(129, (spT [I64] [I64] lamp_more))]
theorem lamp_Next_l : AllMeet Tryd.prog V lamp_Next_L := (.cons lamp_more_m .nil)
set_option maxRecDepth 100000 in
theorem lamp_Next_d : ∀ x : PSGroup × PSSeen × Int, denote (mkC Tryd.prog V lamp_Next_L) 1 (inlOf Tryd.f98 {}) [SGroup, SSeen, U8] [SSeen] false x = lamp_Next_t x := fun x => by kernel_rfl
theorem lamp_Next_m : Meets Tryd.prog V 98 (spT [SGroup, SSeen, U8] [SSeen] lamp_Next) := meets_tot lamp_Next_l stays hmix (hs := {}) (fnOK Tryd.func98 (by kernel_rfl) (by kernel_rfl) (by kernel_rfl)) false fun x => (lamp_Next_d x).trans (lamp_Next_e x)
def safe_behind_L : List (Nat × FSpec) := [(52, (spP [SSeens] [SSeens] clone_Seen_t true)), (91, (spP [U8s] [Bo] safe_flash_t)), (98, (spT [SGroup, SSeen, U8] [SSeen] lamp_Next)), (64, (spP [SSite] [I64] safe_greatest_t))]
theorem safe_behind_l : AllMeet Tryd.prog V safe_behind_L := (.cons clone_Seen_m (.cons safe_flash_m (.cons lamp_Next_m (.cons safe_greatest_m .nil))))
set_option maxRecDepth 100000 in
theorem safe_behind_d : ∀ x : PSSite × PSSafe × List Int, denote (mkC Tryd.prog V safe_behind_L) 1 (inlOf Tryd.f50 { loops := [(0, [.slot 23 I64, .arr 21 SSeen])] }) [SSite, SSafe, U8s] [SSafe] false x = safe_behind_t x := fun x => by kernel_rfl
theorem safe_behind_m : Meets Tryd.prog V 50 (spP [SSite, SSafe, U8s] [SSafe] safe_behind_t) := meets_part safe_behind_l stays hmix (hs := { loops := [(0, [.slot 23 I64, .arr 21 SSeen])] }) (fnOK Tryd.func50 (by kernel_rfl) (by kernel_rfl) (by kernel_rfl)) false safe_behind_d
def safe_Next_L : List (Nat × FSpec) := [(47, (spP [SSite] [I64] site_Check_t)), (51, (spP [SSite, SSafe] [Bo] safe_may_t)), (49, (spP [SSite, SSafe, U8s] [U8] safe_fault_t)), (52, (spP [SSeens] [SSeens] clone_Seen_t true)), (50, (spP [SSite, SSafe, U8s] [SSafe] safe_behind_t))]
theorem safe_Next_l : AllMeet Tryd.prog V safe_Next_L := (.cons site_Check_m (.cons safe_may_m (.cons safe_fault_m (.cons clone_Seen_m (.cons safe_behind_m .nil)))))
set_option maxRecDepth 100000 in
theorem safe_Next_d : ∀ x : PSSite × PSSafe × List Int, denote (mkC Tryd.prog V safe_Next_L) 1 (inlOf Tryd.f24 {}) [SSite, SSafe, U8s] [SSafe, U8, I64] false x = safe_Next_t x := fun x => by kernel_rfl
theorem safe_Next_m : Meets Tryd.prog V 24 (spP [SSite, SSafe, U8s] [SSafe, U8, I64] safe_Next_t) := meets_part safe_Next_l stays hmix (hs := {}) (fnOK Tryd.func24 (by kernel_rfl) (by kernel_rfl) (by kernel_rfl)) false safe_Next_d
def gate_Run_L : List (Nat × FSpec) := [(28, (spP [SSite] [SSafe, I64] safe_First_t)), (39, (spP [SSite, SSafe, U8s] [U8s] gate_admit_t true)), (24, (spP [SSite, SSafe, U8s] [SSafe, U8, I64] safe_Next_t))]
theorem gate_Run_l : AllMeet Tryd.prog V gate_Run_L := (.cons safe_First_m (.cons gate_admit_m (.cons safe_Next_m .nil)))
noncomputable def gate_Run_I : List (Nat × Inl) := [(37, inlOf Tryd.f37 {}), (65, inlOf Tryd.f65 { loops := [(0, [.slot 8 I64])] }), (38, inlOf Tryd.f38 {})]
theorem gate_Run_i : AllOK Tryd.prog gate_Run_I := (.cons (fnOK Tryd.func37 (by kernel_rfl) (by kernel_rfl) (by kernel_rfl)) (.cons (fnOK Tryd.func65 (by kernel_rfl) (by kernel_rfl) (by kernel_rfl)) (.cons (fnOK Tryd.func38 (by kernel_rfl) (by kernel_rfl) (by kernel_rfl)) .nil)))
set_option maxRecDepth 100000 in
theorem gate_Run_d : ∀ x : PSSite × List (List Int), denote (mkC Tryd.prog V gate_Run_L gate_Run_I) 4 (inlOf Tryd.f13 { loops := [(1, [.own 8 U8s, .slot 30 I64, .box 6 SSafe])] }) [SSite, U8ss] [U8ss, I64] false x = gate_Run_t x := fun x => by kernel_rfl
theorem gate_Run_m : Meets Tryd.prog V 13 (spP [SSite, U8ss] [U8ss, I64] gate_Run_t) := meets_part_il gate_Run_l stays hmix gate_Run_i (hs := { loops := [(1, [.own 8 U8s, .slot 30 I64, .box 6 SSafe])] }) (fnOK Tryd.func13 (by kernel_rfl) (by kernel_rfl) (by kernel_rfl)) false 4 gate_Run_d
def ref05_in_L : List (Nat × FSpec) := []
theorem ref05_in_l : AllMeet Tryd.prog V ref05_in_L := .nil
set_option maxRecDepth 100000 in
theorem ref05_in_d : ∀ x : Int × Int × Int, denote (mkC Tryd.prog V ref05_in_L) 1 (inlOf Tryd.f73 {}) [I64, I64, I64] [Bo] false x = ref05_in_t x := fun x => by kernel_rfl
theorem ref05_in_m : Meets Tryd.prog V 73 (spT [I64, I64, I64] [Bo] ref05_in) := meets_tot ref05_in_l stays hmix (hs := {}) (fnOK Tryd.func73 (by kernel_rfl) (by kernel_rfl) (by kernel_rfl)) false fun x => (ref05_in_d x).trans (ref05_in_e x)
def ref02_Has_L : List (Nat × FSpec) := []
theorem ref02_Has_l : AllMeet Tryd.prog V ref02_Has_L := .nil
set_option maxRecDepth 100000 in
theorem ref02_Has_d : ∀ x : Int × Int, denote (mkC Tryd.prog V ref02_Has_L) 1 (inlOf Tryd.f108 {}) [U32, I64] [Bo] false x = ref02_Has_t x := fun x => by kernel_rfl
theorem ref02_Has_m : Meets Tryd.prog V 108 (spT [U32, I64] [Bo] ref02_Has) := meets_up (meets_part ref02_Has_l stays hmix (hs := {}) (fnOK Tryd.func108 (by kernel_rfl) (by kernel_rfl) (by kernel_rfl)) false ref02_Has_d) ref02_Has_e
def ref05_Apart_L : List (Nat × FSpec) := [(108, (spT [U32, I64] [Bo] ref02_Has))]
theorem ref05_Apart_l : AllMeet Tryd.prog V ref05_Apart_L := (.cons ref02_Has_m .nil)
set_option maxRecDepth 100000 in
theorem ref05_Apart_d : ∀ x : PSSite × Int × Int, denote (mkC Tryd.prog V ref05_Apart_L) 1 (inlOf Tryd.f107 {}) [SSite, I64, I64] [Bo] false x = ref05_Apart_t x := fun x => by kernel_rfl
theorem ref05_Apart_m : Meets Tryd.prog V 107 (spP [SSite, I64, I64] [Bo] ref05_Apart_t) := meets_part ref05_Apart_l stays hmix (hs := {}) (fnOK Tryd.func107 (by kernel_rfl) (by kernel_rfl) (by kernel_rfl)) false ref05_Apart_d
def ref05_groups_L : List (Nat × FSpec) := [(73, (spT [I64, I64, I64] [Bo] ref05_in)), (107, (spP [SSite, I64, I64] [Bo] ref05_Apart_t))]
theorem ref05_groups_l : AllMeet Tryd.prog V ref05_groups_L := (.cons ref05_in_m (.cons ref05_Apart_m .nil))
set_option maxRecDepth 100000 in
theorem ref05_groups_d : ∀ x : PSSite, denote (mkC Tryd.prog V ref05_groups_L) 1 (inlOf Tryd.f71 { loops := [(0, [.slot 4 I64]), (2, [.slot 6 I64]), (4, [.slot 7 I64])] }) [SSite] [Bo] false x = ref05_groups_t x := fun x => by kernel_rfl
theorem ref05_groups_m : Meets Tryd.prog V 71 (spP [SSite] [Bo] ref05_groups_t) := meets_part ref05_groups_l stays hmix (hs := { loops := [(0, [.slot 4 I64]), (2, [.slot 6 I64]), (4, [.slot 7 I64])] }) (fnOK Tryd.func71 (by kernel_rfl) (by kernel_rfl) (by kernel_rfl)) false ref05_groups_d
def ref02_With_L : List (Nat × FSpec) := [(108, (spT [U32, I64] [Bo] ref02_Has))]
theorem ref02_With_l : AllMeet Tryd.prog V ref02_With_L := (.cons ref02_Has_m .nil)
set_option maxRecDepth 100000 in
theorem ref02_With_d : ∀ x : Int × Int, denote (mkC Tryd.prog V ref02_With_L) 1 (inlOf Tryd.f109 {}) [U32, I64] [U32] false x = ref02_With_t x := fun x => by kernel_rfl
theorem ref02_With_m : Meets Tryd.prog V 109 (spT [U32, I64] [U32] ref02_With) := meets_tot ref02_With_l stays hmix (hs := {}) (fnOK Tryd.func109 (by kernel_rfl) (by kernel_rfl) (by kernel_rfl)) false fun x => (ref02_With_d x).trans (ref02_With_e x)
def ref02_Count_L : List (Nat × FSpec) := [(108, (spT [U32, I64] [Bo] ref02_Has))]
theorem ref02_Count_l : AllMeet Tryd.prog V ref02_Count_L := (.cons ref02_Has_m .nil)
set_option maxRecDepth 100000 in
theorem ref02_Count_d : ∀ x : Int, denote (mkC Tryd.prog V ref02_Count_L) 1 (inlOf Tryd.f110 { loops := [(0, [.slot 3 I64, .slot 4 I64])] }) [U32] [I64] false x = ref02_Count_t x := fun x => by kernel_rfl
theorem ref02_Count_m : Meets Tryd.prog V 110 (spP [U32] [I64] ref02_Count_t) := meets_part ref02_Count_l stays hmix (hs := { loops := [(0, [.slot 3 I64, .slot 4 I64])] }) (fnOK Tryd.func110 (by kernel_rfl) (by kernel_rfl) (by kernel_rfl)) false ref02_Count_d
def ref05_phases_L : List (Nat × FSpec) := [(73, (spT [I64, I64, I64] [Bo] ref05_in)), (108, (spT [U32, I64] [Bo] ref02_Has)), (109, (spT [U32, I64] [U32] ref02_With)), (107, (spP [SSite, I64, I64] [Bo] ref05_Apart_t)), (110, (spP [U32] [I64] ref02_Count_t))]
theorem ref05_phases_l : AllMeet Tryd.prog V ref05_phases_L := (.cons ref05_in_m (.cons ref02_Has_m (.cons ref02_With_m (.cons ref05_Apart_m (.cons ref02_Count_m .nil)))))
set_option maxRecDepth 100000 in
theorem ref05_phases_d : ∀ x : PSSite, denote (mkC Tryd.prog V ref05_phases_L) 1 (inlOf Tryd.f72 { loops := [(0, [.slot 3 U32, .slot 4 I64]), (2, [.slot 3 U32, .slot 6 I64, .slot 7 I64]), (4, [.slot 8 I64])] }) [SSite] [Bo] false x = ref05_phases_t x := fun x => by kernel_rfl
theorem ref05_phases_m : Meets Tryd.prog V 72 (spP [SSite] [Bo] ref05_phases_t) := meets_part ref05_phases_l stays hmix (hs := { loops := [(0, [.slot 3 U32, .slot 4 I64]), (2, [.slot 3 U32, .slot 6 I64, .slot 7 I64]), (4, [.slot 8 I64])] }) (fnOK Tryd.func72 (by kernel_rfl) (by kernel_rfl) (by kernel_rfl)) false ref05_phases_d
def ref05_Clear_L : List (Nat × FSpec) := [(108, (spT [U32, I64] [Bo] ref02_Has)), (107, (spP [SSite, I64, I64] [Bo] ref05_Apart_t))]
theorem ref05_Clear_l : AllMeet Tryd.prog V ref05_Clear_L := (.cons ref02_Has_m (.cons ref05_Apart_m .nil))
set_option maxRecDepth 100000 in
theorem ref05_Clear_d : ∀ x : PSSite × Int × Int, denote (mkC Tryd.prog V ref05_Clear_L) 1 (inlOf Tryd.f132 { loops := [(0, [.slot 7 I64, .slot 8 I64]), (2, [.slot 7 I64, .slot 9 I64])] }) [SSite, I64, I64] [I64] false x = ref05_Clear_t x := fun x => by kernel_rfl
theorem ref05_Clear_m : Meets Tryd.prog V 132 (spP [SSite, I64, I64] [I64] ref05_Clear_t) := meets_part ref05_Clear_l stays hmix (hs := { loops := [(0, [.slot 7 I64, .slot 8 I64]), (2, [.slot 7 I64, .slot 9 I64])] }) (fnOK Tryd.func132 (by kernel_rfl) (by kernel_rfl) (by kernel_rfl)) false ref05_Clear_d
def ref05_needs_L : List (Nat × FSpec) := [(132, (spP [SSite, I64, I64] [I64] ref05_Clear_t))]
theorem ref05_needs_l : AllMeet Tryd.prog V ref05_needs_L := (.cons ref05_Clear_m .nil)
set_option maxRecDepth 100000 in
theorem ref05_needs_d : ∀ x : PSSite × Int, denote (mkC Tryd.prog V ref05_needs_L) 1 (inlOf Tryd.f111 {}) [SSite, I64] [I64] false x = ref05_needs_t x := fun x => by kernel_rfl
theorem ref05_needs_m : Meets Tryd.prog V 111 (spP [SSite, I64] [I64] ref05_needs_t) := meets_part ref05_needs_l stays hmix (hs := {}) (fnOK Tryd.func111 (by kernel_rfl) (by kernel_rfl) (by kernel_rfl)) false ref05_needs_d
def ref05_Round_L : List (Nat × FSpec) := [(111, (spP [SSite, I64] [I64] ref05_needs_t))]
theorem ref05_Round_l : AllMeet Tryd.prog V ref05_Round_L := (.cons ref05_needs_m .nil)
set_option maxRecDepth 100000 in
theorem ref05_Round_d : ∀ x : PSSite, denote (mkC Tryd.prog V ref05_Round_L) 1 (inlOf Tryd.f74 { loops := [(0, [.slot 3 I64, .slot 4 I64])] }) [SSite] [I64] false x = ref05_Round_t x := fun x => by kernel_rfl
theorem ref05_Round_m : Meets Tryd.prog V 74 (spP [SSite] [I64] ref05_Round_t) := meets_part ref05_Round_l stays hmix (hs := { loops := [(0, [.slot 3 I64, .slot 4 I64])] }) (fnOK Tryd.func74 (by kernel_rfl) (by kernel_rfl) (by kernel_rfl)) false ref05_Round_d
def ref05_PlanMay_L : List (Nat × FSpec) := [(73, (spT [I64, I64, I64] [Bo] ref05_in)), (111, (spP [SSite, I64] [I64] ref05_needs_t))]
theorem ref05_PlanMay_l : AllMeet Tryd.prog V ref05_PlanMay_L := (.cons ref05_in_m (.cons ref05_needs_m .nil))
set_option maxRecDepth 100000 in
theorem ref05_PlanMay_d : ∀ x : PSSite × PSPlan, denote (mkC Tryd.prog V ref05_PlanMay_L) 1 (inlOf Tryd.f75 { loops := [(0, [.slot 5 I64, .slot 6 I64])] }) [SSite, SPlan] [Bo] false x = ref05_PlanMay_t x := fun x => by kernel_rfl
theorem ref05_PlanMay_m : Meets Tryd.prog V 75 (spP [SSite, SPlan] [Bo] ref05_PlanMay_t) := meets_part ref05_PlanMay_l stays hmix (hs := { loops := [(0, [.slot 5 I64, .slot 6 I64])] }) (fnOK Tryd.func75 (by kernel_rfl) (by kernel_rfl) (by kernel_rfl)) false ref05_PlanMay_d
def ref05_Check_L : List (Nat × FSpec) := [(71, (spP [SSite] [Bo] ref05_groups_t)), (72, (spP [SSite] [Bo] ref05_phases_t)), (73, (spT [I64, I64, I64] [Bo] ref05_in)), (74, (spP [SSite] [I64] ref05_Round_t)), (75, (spP [SSite, SPlan] [Bo] ref05_PlanMay_t))]
theorem ref05_Check_l : AllMeet Tryd.prog V ref05_Check_L := (.cons ref05_groups_m (.cons ref05_phases_m (.cons ref05_in_m (.cons ref05_Round_m (.cons ref05_PlanMay_m .nil)))))
set_option maxRecDepth 100000 in
theorem ref05_Check_d : ∀ x : PSSite, denote (mkC Tryd.prog V ref05_Check_L) 1 (inlOf Tryd.f40 { loops := [(0, [.slot 3 I64]), (2, [.slot 5 I64])] }) [SSite] [I64] false x = ref05_Check_t x := fun x => by kernel_rfl
theorem ref05_Check_m : Meets Tryd.prog V 40 (spP [SSite] [I64] ref05_Check_t) := meets_part ref05_Check_l stays hmix (hs := { loops := [(0, [.slot 3 I64]), (2, [.slot 5 I64])] }) (fnOK Tryd.func40 (by kernel_rfl) (by kernel_rfl) (by kernel_rfl)) false ref05_Check_d
def ref08_Apart_L : List (Nat × FSpec) := []
theorem ref08_Apart_l : AllMeet Tryd.prog V ref08_Apart_L := .nil
set_option maxRecDepth 100000 in
theorem ref08_Apart_d : ∀ x : PSSite × Int × Int, denote (mkC Tryd.prog V ref08_Apart_L) 1 (inlOf Tryd.f78 {}) [SSite, I64, I64] [Bo] false x = ref08_Apart_t x := fun x => by kernel_rfl
theorem ref08_Apart_m : Meets Tryd.prog V 78 (spP [SSite, I64, I64] [Bo] ref08_Apart_t) := meets_part ref08_Apart_l stays hmix (hs := {}) (fnOK Tryd.func78 (by kernel_rfl) (by kernel_rfl) (by kernel_rfl)) false ref08_Apart_d
def ref08_Between_L : List (Nat × FSpec) := []
theorem ref08_Between_l : AllMeet Tryd.prog V ref08_Between_L := .nil
set_option maxRecDepth 100000 in
theorem ref08_Between_d : ∀ x : PSSite × Int × Int, denote (mkC Tryd.prog V ref08_Between_L) 1 (inlOf Tryd.f79 {}) [SSite, I64, I64] [I64] false x = ref08_Between_t x := fun x => by kernel_rfl
theorem ref08_Between_m : Meets Tryd.prog V 79 (spP [SSite, I64, I64] [I64] ref08_Between_t) := meets_part ref08_Between_l stays hmix (hs := {}) (fnOK Tryd.func79 (by kernel_rfl) (by kernel_rfl) (by kernel_rfl)) false ref08_Between_d
def ref08_Great_L : List (Nat × FSpec) := [(78, (spP [SSite, I64, I64] [Bo] ref08_Apart_t)), (79, (spP [SSite, I64, I64] [I64] ref08_Between_t))]
theorem ref08_Great_l : AllMeet Tryd.prog V ref08_Great_L := (.cons ref08_Apart_m (.cons ref08_Between_m .nil))
set_option maxRecDepth 100000 in
theorem ref08_Great_d : ∀ x : PSSite, denote (mkC Tryd.prog V ref08_Great_L) 1 (inlOf Tryd.f76 { loops := [(0, [.slot 3 I64, .slot 4 I64]), (2, [.slot 3 I64, .slot 5 I64])] }) [SSite] [I64] false x = ref08_Great_t x := fun x => by kernel_rfl
theorem ref08_Great_m : Meets Tryd.prog V 76 (spP [SSite] [I64] ref08_Great_t) := meets_part ref08_Great_l stays hmix (hs := { loops := [(0, [.slot 3 I64, .slot 4 I64]), (2, [.slot 3 I64, .slot 5 I64])] }) (fnOK Tryd.func76 (by kernel_rfl) (by kernel_rfl) (by kernel_rfl)) false ref08_Great_d
def ref08_Start_L : List (Nat × FSpec) := [(76, (spP [SSite] [I64] ref08_Great_t))]
theorem ref08_Start_l : AllMeet Tryd.prog V ref08_Start_L := (.cons ref08_Great_m .nil)
set_option maxRecDepth 100000 in
theorem ref08_Start_d : ∀ x : PSSite, denote (mkC Tryd.prog V ref08_Start_L) 1 (inlOf Tryd.f41 { loops := [(0, [.slot 4 I64, .fown 3 .unit SSeen (.pair I64 Bo)])] }) [SSite] [SSafe] false x = ref08_Start_t x := fun x => by kernel_rfl
theorem ref08_Start_m : Meets Tryd.prog V 41 (spP [SSite] [SSafe] ref08_Start_t) := meets_part ref08_Start_l stays hmix (hs := { loops := [(0, [.slot 4 I64, .fown 3 .unit SSeen (.pair I64 Bo)])] }) (fnOK Tryd.func41 (by kernel_rfl) (by kernel_rfl) (by kernel_rfl)) false ref08_Start_d
def ref07_Kept_L : List (Nat × FSpec) := []
theorem ref07_Kept_l : AllMeet Tryd.prog V ref07_Kept_L := .nil
set_option maxRecDepth 100000 in
theorem ref07_Kept_d : ∀ x : Int, denote (mkC Tryd.prog V ref07_Kept_L) 1 (inlOf Tryd.f112 {}) [I64] [I64] false x = ref07_Kept_t x := fun x => by kernel_rfl
theorem ref07_Kept_m : Meets Tryd.prog V 112 (spT [I64] [I64] ref07_Kept) := meets_tot ref07_Kept_l stays hmix (hs := {}) (fnOK Tryd.func112 (by kernel_rfl) (by kernel_rfl) (by kernel_rfl)) false fun x => (ref07_Kept_d x).trans (ref07_Kept_e x)
def ref07_Want_L : List (Nat × FSpec) := [(112, (spT [I64] [I64] ref07_Kept))]
theorem ref07_Want_l : AllMeet Tryd.prog V ref07_Want_L := (.cons ref07_Kept_m .nil)
set_option maxRecDepth 100000 in
theorem ref07_Want_d : ∀ x : PSGroup × PSSeen × Int, denote (mkC Tryd.prog V ref07_Want_L) 1 (inlOf Tryd.f77 {}) [SGroup, SSeen, U8] [U8] false x = ref07_Want_t x := fun x => by kernel_rfl
theorem ref07_Want_m : Meets Tryd.prog V 77 (spT [SGroup, SSeen, U8] [U8] ref07_Want) := meets_tot ref07_Want_l stays hmix (hs := {}) (fnOK Tryd.func77 (by kernel_rfl) (by kernel_rfl) (by kernel_rfl)) false fun x => (ref07_Want_d x).trans (ref07_Want_e x)
def ref09_Let_L : List (Nat × FSpec) := [(77, (spT [SGroup, SSeen, U8] [U8] ref07_Want)), (78, (spP [SSite, I64, I64] [Bo] ref08_Apart_t)), (79, (spP [SSite, I64, I64] [I64] ref08_Between_t))]
theorem ref09_Let_l : AllMeet Tryd.prog V ref09_Let_L := (.cons ref07_Want_m (.cons ref08_Apart_m (.cons ref08_Between_m .nil)))
set_option maxRecDepth 100000 in
theorem ref09_Let_d : ∀ x : PSSite × PSSafe × List Int, denote (mkC Tryd.prog V ref09_Let_L) 1 (inlOf Tryd.f42 { loops := [(0, [.slot 7 I64, .slot 8 I64]), (2, [.own 9 U8, .slot 11 I64]), (4, [.slot 13 I64, .arr 9 U8]), (6, [.slot 14 Bo, .slot 15 I64, .arr 9 U8])], joins := [(7, [.slot 7 I64]), (17, [.own 9 U8, .slot 12 U8]), (18, [.own 9 U8])] }) [SSite, SSafe, U8s] [U8s] false x = ref09_Let_t x := fun x => by kernel_rfl
theorem ref09_Let_m : Meets Tryd.prog V 42 (spP [SSite, SSafe, U8s] [U8s] ref09_Let_t) := meets_part ref09_Let_l stays hmix (hs := { loops := [(0, [.slot 7 I64, .slot 8 I64]), (2, [.own 9 U8, .slot 11 I64]), (4, [.slot 13 I64, .arr 9 U8]), (6, [.slot 14 Bo, .slot 15 I64, .arr 9 U8])], joins := [(7, [.slot 7 I64]), (17, [.own 9 U8, .slot 12 U8]), (18, [.own 9 U8])] }) (fnOK Tryd.func42 (by kernel_rfl) (by kernel_rfl) (by kernel_rfl)) false ref09_Let_d
def ref08_flashes_L : List (Nat × FSpec) := []
theorem ref08_flashes_l : AllMeet Tryd.prog V ref08_flashes_L := .nil
set_option maxRecDepth 100000 in
theorem ref08_flashes_d : ∀ x : List Int, denote (mkC Tryd.prog V ref08_flashes_L) 1 (inlOf Tryd.f80 { loops := [(0, [.slot 3 I64, .slot 4 I64])] }) [U8s] [I64] false x = ref08_flashes_t x := fun x => by kernel_rfl
theorem ref08_flashes_m : Meets Tryd.prog V 80 (spP [U8s] [I64] ref08_flashes_t) := meets_part ref08_flashes_l stays hmix (hs := { loops := [(0, [.slot 3 I64, .slot 4 I64])] }) (fnOK Tryd.func80 (by kernel_rfl) (by kernel_rfl) (by kernel_rfl)) false ref08_flashes_d
def ref07_more_L : List (Nat × FSpec) := [(112, (spT [I64] [I64] ref07_Kept))]
theorem ref07_more_l : AllMeet Tryd.prog V ref07_more_L := (.cons ref07_Kept_m .nil)
set_option maxRecDepth 100000 in
theorem ref07_more_d : ∀ x : Int, denote (mkC Tryd.prog V ref07_more_L) 1 (inlOf Tryd.f113 {}) [I64] [I64] false x = ref07_more_t x := fun x => by kernel_rfl
theorem ref07_more_m : Meets Tryd.prog V 113 (spT [I64] [I64] ref07_more) := meets_tot ref07_more_l stays hmix (hs := {}) (fnOK Tryd.func113 (by kernel_rfl) (by kernel_rfl) (by kernel_rfl)) false fun x => (ref07_more_d x).trans (ref07_more_e x)
def ref07_Next_L : List (Nat × FSpec) := [(113, (spT [I64] [I64] ref07_more))]
theorem ref07_Next_l : AllMeet Tryd.prog V ref07_Next_L := (.cons ref07_more_m .nil)
set_option maxRecDepth 100000 in
theorem ref07_Next_d : ∀ x : PSSeen × Int, denote (mkC Tryd.prog V ref07_Next_L) 1 (inlOf Tryd.f81 {}) [SSeen, U8] [SSeen] false x = ref07_Next_t x := fun x => by kernel_rfl
theorem ref07_Next_m : Meets Tryd.prog V 81 (spT [SSeen, U8] [SSeen] ref07_Next) := meets_tot ref07_Next_l stays hmix (hs := {}) (fnOK Tryd.func81 (by kernel_rfl) (by kernel_rfl) (by kernel_rfl)) false fun x => (ref07_Next_d x).trans (ref07_Next_e x)
def ref08_Behind_L : List (Nat × FSpec) := [(80, (spP [U8s] [I64] ref08_flashes_t)), (81, (spT [SSeen, U8] [SSeen] ref07_Next)), (76, (spP [SSite] [I64] ref08_Great_t))]
theorem ref08_Behind_l : AllMeet Tryd.prog V ref08_Behind_L := (.cons ref08_flashes_m (.cons ref07_Next_m (.cons ref08_Great_m .nil)))
set_option maxRecDepth 100000 in
theorem ref08_Behind_d : ∀ x : PSSite × PSSafe × List Int, denote (mkC Tryd.prog V ref08_Behind_L) 1 (inlOf Tryd.f43 { loops := [(0, [.slot 8 I64, .fown 7 .unit SSeen (.pair I64 Bo)])], joins := [(9, [.slot 9 I64])] }) [SSite, SSafe, U8s] [SSafe] false x = ref08_Behind_t x := fun x => by kernel_rfl
theorem ref08_Behind_m : Meets Tryd.prog V 43 (spP [SSite, SSafe, U8s] [SSafe] ref08_Behind_t) := meets_part ref08_Behind_l stays hmix (hs := { loops := [(0, [.slot 8 I64, .fown 7 .unit SSeen (.pair I64 Bo)])], joins := [(9, [.slot 9 I64])] }) (fnOK Tryd.func43 (by kernel_rfl) (by kernel_rfl) (by kernel_rfl)) false ref08_Behind_d
def ref09_Run_L : List (Nat × FSpec) := [(40, (spP [SSite] [I64] ref05_Check_t)), (41, (spP [SSite] [SSafe] ref08_Start_t)), (42, (spP [SSite, SSafe, U8s] [U8s] ref09_Let_t)), (43, (spP [SSite, SSafe, U8s] [SSafe] ref08_Behind_t))]
theorem ref09_Run_l : AllMeet Tryd.prog V ref09_Run_L := (.cons ref05_Check_m (.cons ref08_Start_m (.cons ref09_Let_m (.cons ref08_Behind_m .nil))))
set_option maxRecDepth 100000 in
theorem ref09_Run_d : ∀ x : PSSite × List (List Int), denote (mkC Tryd.prog V ref09_Run_L) 1 (inlOf Tryd.f14 { loops := [(0, [.slot 7 I64]), (2, [.own 8 U8s, .slot 10 I64, .box 9 SSafe])] }) [SSite, U8ss] [U8ss, I64] false x = ref09_Run_t x := fun x => by kernel_rfl
theorem ref09_Run_m : Meets Tryd.prog V 14 (spP [SSite, U8ss] [U8ss, I64] ref09_Run_t) := meets_part ref09_Run_l stays hmix (hs := { loops := [(0, [.slot 7 I64]), (2, [.own 8 U8s, .slot 10 I64, .box 9 SSafe])] }) (fnOK Tryd.func14 (by kernel_rfl) (by kernel_rfl) (by kernel_rfl)) false ref09_Run_d
def ref09_Same_L : List (Nat × FSpec) := []
theorem ref09_Same_l : AllMeet Tryd.prog V ref09_Same_L := .nil
set_option maxRecDepth 100000 in
theorem ref09_Same_d : ∀ x : List Int × List Int, denote (mkC Tryd.prog V ref09_Same_L) 1 (inlOf Tryd.f15 {}) [U8s, U8s] [Bo] false x = ref09_Same_t x := fun x => by kernel_rfl
theorem ref09_Same_m : Meets Tryd.prog V 15 (spT [U8s, U8s] [Bo] ref09_Same) := meets_tot ref09_Same_l stays hmix (hs := {}) (fnOK Tryd.func15 (by kernel_rfl) (by kernel_rfl) (by kernel_rfl)) false fun x => (ref09_Same_d x).trans (ref09_Same_e x)
def law09_GateRuns_L : List (Nat × FSpec) := [(12, (spP [SSite] [Bo] ref05_Great_t)), (13, (spP [SSite, U8ss] [U8ss, I64] gate_Run_t)), (14, (spP [SSite, U8ss] [U8ss, I64] ref09_Run_t)), (15, (spT [U8s, U8s] [Bo] ref09_Same))]
theorem law09_GateRuns_l : AllMeet Tryd.prog V law09_GateRuns_L := (.cons ref05_Great_m (.cons gate_Run_m (.cons ref09_Run_m (.cons ref09_Same_m .nil))))
set_option maxRecDepth 100000 in
theorem law09_GateRuns_d : ∀ x : PSSite × List (List Int), denote (mkC Tryd.prog V law09_GateRuns_L) 1 (inlOf Tryd.f3 { loops := [(0, [.slot 5 I64]), (2, [.slot 10 I64])] }) [SSite, U8ss] [Bo] false x = law09_GateRuns_t x := fun x => by kernel_rfl
theorem law09_GateRuns_m : Meets Tryd.prog V 3 (spP [SSite, U8ss] [Bo] law09_GateRuns_t) := meets_part law09_GateRuns_l stays hmix (hs := { loops := [(0, [.slot 5 I64]), (2, [.slot 10 I64])] }) (fnOK Tryd.func3 (by kernel_rfl) (by kernel_rfl) (by kernel_rfl)) false law09_GateRuns_d
def ref08_Twin_L : List (Nat × FSpec) := []
theorem ref08_Twin_l : AllMeet Tryd.prog V ref08_Twin_L := .nil
set_option maxRecDepth 100000 in
theorem ref08_Twin_d : ∀ x : PSSafe, denote (mkC Tryd.prog V ref08_Twin_L) 1 (inlOf Tryd.f16 {}) [SSafe] [SSafe] false x = ref08_Twin_t x := fun x => by kernel_rfl
theorem ref08_Twin_m : Meets Tryd.prog V 16 (spP [SSafe] [SSafe] ref08_Twin_t) := meets_part ref08_Twin_l stays hmix (hs := {}) (fnOK Tryd.func16 (by kernel_rfl) (by kernel_rfl) (by kernel_rfl)) false ref08_Twin_d
def gate_goes_L : List (Nat × FSpec) := [(24, (spP [SSite, SSafe, U8s] [SSafe, U8, I64] safe_Next_t))]
theorem gate_goes_l : AllMeet Tryd.prog V gate_goes_L := (.cons safe_Next_m .nil)
noncomputable def gate_goes_I : List (Nat × Inl) := [(114, inlOf Tryd.f114 {}), (133, inlOf Tryd.f133 { loops := [(0, [.slot 8 I64])] }), (115, inlOf Tryd.f115 {})]
theorem gate_goes_i : AllOK Tryd.prog gate_goes_I := (.cons (fnOK Tryd.func114 (by kernel_rfl) (by kernel_rfl) (by kernel_rfl)) (.cons (fnOK Tryd.func133 (by kernel_rfl) (by kernel_rfl) (by kernel_rfl)) (.cons (fnOK Tryd.func115 (by kernel_rfl) (by kernel_rfl) (by kernel_rfl)) .nil)))
set_option maxRecDepth 100000 in
theorem gate_goes_d : ∀ x : PSSite × PSSafe, denote (mkC Tryd.prog V gate_goes_L gate_goes_I) 4 (inlOf Tryd.f82 { loops := [(0, [.slot 23 I64, .arr 20 U8])], joins := [(9, [.arr 20 U8])] }) [SSite, SSafe] [Bo] false x = gate_goes_t x := fun x => by kernel_rfl
theorem gate_goes_m : Meets Tryd.prog V 82 (spP [SSite, SSafe] [Bo] gate_goes_t) := meets_part_il gate_goes_l stays hmix gate_goes_i (hs := { loops := [(0, [.slot 23 I64, .arr 20 U8])], joins := [(9, [.arr 20 U8])] }) (fnOK Tryd.func82 (by kernel_rfl) (by kernel_rfl) (by kernel_rfl)) false 4 gate_goes_d
def gate_asked_L : List (Nat × FSpec) := [(47, (spP [SSite] [I64] site_Check_t)), (82, (spP [SSite, SSafe] [Bo] gate_goes_t))]
theorem gate_asked_l : AllMeet Tryd.prog V gate_asked_L := (.cons site_Check_m (.cons gate_goes_m .nil))
set_option maxRecDepth 100000 in
theorem gate_asked_d : ∀ x : PSSite × PSSafe, denote (mkC Tryd.prog V gate_asked_L) 1 (inlOf Tryd.f44 {}) [SSite, SSafe] [I64] false x = gate_asked_t x := fun x => by kernel_rfl
theorem gate_asked_m : Meets Tryd.prog V 44 (spP [SSite, SSafe] [I64] gate_asked_t) := meets_part gate_asked_l stays hmix (hs := {}) (fnOK Tryd.func44 (by kernel_rfl) (by kernel_rfl) (by kernel_rfl)) false gate_asked_d
def gate_Admit_L : List (Nat × FSpec) := [(44, (spP [SSite, SSafe] [I64] gate_asked_t)), (39, (spP [SSite, SSafe, U8s] [U8s] gate_admit_t true))]
theorem gate_Admit_l : AllMeet Tryd.prog V gate_Admit_L := (.cons gate_asked_m (.cons gate_admit_m .nil))
set_option maxRecDepth 100000 in
theorem gate_Admit_d : ∀ x : PSSite × PSSafe × List Int, denote (mkC Tryd.prog V gate_Admit_L) 1 (inlOf Tryd.f17 {}) [SSite, SSafe, U8s] [U8s, I64] true x = gate_Admit_t x := fun x => by kernel_rfl
theorem gate_Admit_m : Meets Tryd.prog V 17 (spP [SSite, SSafe, U8s] [U8s, I64] gate_Admit_t true) := meets_part gate_Admit_l stays hmix (hs := {}) (fnOK Tryd.func17 (by kernel_rfl) (by kernel_rfl) (by kernel_rfl)) true gate_Admit_d
def ref08_Shown_L : List (Nat × FSpec) := []
theorem ref08_Shown_l : AllMeet Tryd.prog V ref08_Shown_L := .nil
set_option maxRecDepth 100000 in
theorem ref08_Shown_d : ∀ x : PSSafe, denote (mkC Tryd.prog V ref08_Shown_L) 1 (inlOf Tryd.f116 { loops := [(0, [.own 3 U8, .slot 4 I64])] }) [SSafe] [U8s] false x = ref08_Shown_t x := fun x => by kernel_rfl
theorem ref08_Shown_m : Meets Tryd.prog V 116 (spP [SSafe] [U8s] ref08_Shown_t) := meets_part ref08_Shown_l stays hmix (hs := { loops := [(0, [.own 3 U8, .slot 4 I64])] }) (fnOK Tryd.func116 (by kernel_rfl) (by kernel_rfl) (by kernel_rfl)) false ref08_Shown_d
def ref08_meet_L : List (Nat × FSpec) := [(78, (spP [SSite, I64, I64] [Bo] ref08_Apart_t))]
theorem ref08_meet_l : AllMeet Tryd.prog V ref08_meet_L := (.cons ref08_Apart_m .nil)
set_option maxRecDepth 100000 in
theorem ref08_meet_d : ∀ x : PSSite × List Int, denote (mkC Tryd.prog V ref08_meet_L) 1 (inlOf Tryd.f117 { loops := [(0, [.slot 5 I64]), (2, [.slot 6 I64])] }) [SSite, U8s] [Bo] false x = ref08_meet_t x := fun x => by kernel_rfl
theorem ref08_meet_m : Meets Tryd.prog V 117 (spP [SSite, U8s] [Bo] ref08_meet_t) := meets_part ref08_meet_l stays hmix (hs := { loops := [(0, [.slot 5 I64]), (2, [.slot 6 I64])] }) (fnOK Tryd.func117 (by kernel_rfl) (by kernel_rfl) (by kernel_rfl)) false ref08_meet_d
def ref08_May_L : List (Nat × FSpec) := [(116, (spP [SSafe] [U8s] ref08_Shown_t)), (80, (spP [U8s] [I64] ref08_flashes_t)), (117, (spP [SSite, U8s] [Bo] ref08_meet_t))]
theorem ref08_May_l : AllMeet Tryd.prog V ref08_May_L := (.cons ref08_Shown_m (.cons ref08_flashes_m (.cons ref08_meet_m .nil)))
set_option maxRecDepth 100000 in
theorem ref08_May_d : ∀ x : PSSite × PSSafe, denote (mkC Tryd.prog V ref08_May_L) 1 (inlOf Tryd.f83 {}) [SSite, SSafe] [Bo] false x = ref08_May_t x := fun x => by kernel_rfl
theorem ref08_May_m : Meets Tryd.prog V 83 (spP [SSite, SSafe] [Bo] ref08_May_t) := meets_part ref08_May_l stays hmix (hs := {}) (fnOK Tryd.func83 (by kernel_rfl) (by kernel_rfl) (by kernel_rfl)) false ref08_May_d
def ref09_Goes_L : List (Nat × FSpec) := [(83, (spP [SSite, SSafe] [Bo] ref08_May_t))]
theorem ref09_Goes_l : AllMeet Tryd.prog V ref09_Goes_L := (.cons ref08_May_m .nil)
set_option maxRecDepth 100000 in
theorem ref09_Goes_d : ∀ x : PSSite × PSSafe, denote (mkC Tryd.prog V ref09_Goes_L) 1 (inlOf Tryd.f45 { loops := [(0, [.slot 5 I64])] }) [SSite, SSafe] [Bo] false x = ref09_Goes_t x := fun x => by kernel_rfl
theorem ref09_Goes_m : Meets Tryd.prog V 45 (spP [SSite, SSafe] [Bo] ref09_Goes_t) := meets_part ref09_Goes_l stays hmix (hs := { loops := [(0, [.slot 5 I64])] }) (fnOK Tryd.func45 (by kernel_rfl) (by kernel_rfl) (by kernel_rfl)) false ref09_Goes_d
def ref09_Admit_L : List (Nat × FSpec) := [(40, (spP [SSite] [I64] ref05_Check_t)), (45, (spP [SSite, SSafe] [Bo] ref09_Goes_t)), (42, (spP [SSite, SSafe, U8s] [U8s] ref09_Let_t))]
theorem ref09_Admit_l : AllMeet Tryd.prog V ref09_Admit_L := (.cons ref05_Check_m (.cons ref09_Goes_m (.cons ref09_Let_m .nil)))
set_option maxRecDepth 100000 in
theorem ref09_Admit_d : ∀ x : PSSite × PSSafe × List Int, denote (mkC Tryd.prog V ref09_Admit_L) 1 (inlOf Tryd.f18 {}) [SSite, SSafe, U8s] [U8s, I64] false x = ref09_Admit_t x := fun x => by kernel_rfl
theorem ref09_Admit_m : Meets Tryd.prog V 18 (spP [SSite, SSafe, U8s] [U8s, I64] ref09_Admit_t) := meets_part ref09_Admit_l stays hmix (hs := {}) (fnOK Tryd.func18 (by kernel_rfl) (by kernel_rfl) (by kernel_rfl)) false ref09_Admit_d
def gate_Open_L : List (Nat × FSpec) := [(44, (spP [SSite, SSafe] [I64] gate_asked_t)), (46, (spP [I64, U8] [U8s] gate_all_t true)), (39, (spP [SSite, SSafe, U8s] [U8s] gate_admit_t true))]
theorem gate_Open_l : AllMeet Tryd.prog V gate_Open_L := (.cons gate_asked_m (.cons gate_all_m (.cons gate_admit_m .nil)))
set_option maxRecDepth 100000 in
theorem gate_Open_d : ∀ x : PSSite × PSSafe × Int, denote (mkC Tryd.prog V gate_Open_L) 1 (inlOf Tryd.f19 {}) [SSite, SSafe, I64] [Bo, I64] false x = gate_Open_t x := fun x => by kernel_rfl
theorem gate_Open_m : Meets Tryd.prog V 19 (spP [SSite, SSafe, I64] [Bo, I64] gate_Open_t) := meets_part gate_Open_l stays hmix (hs := {}) (fnOK Tryd.func19 (by kernel_rfl) (by kernel_rfl) (by kernel_rfl)) false gate_Open_d
def ref09_Open_L : List (Nat × FSpec) := [(40, (spP [SSite] [I64] ref05_Check_t)), (45, (spP [SSite, SSafe] [Bo] ref09_Goes_t)), (42, (spP [SSite, SSafe, U8s] [U8s] ref09_Let_t))]
theorem ref09_Open_l : AllMeet Tryd.prog V ref09_Open_L := (.cons ref05_Check_m (.cons ref09_Goes_m (.cons ref09_Let_m .nil)))
set_option maxRecDepth 100000 in
theorem ref09_Open_d : ∀ x : PSSite × PSSafe × Int, denote (mkC Tryd.prog V ref09_Open_L) 1 (inlOf Tryd.f20 { loops := [(0, [.own 9 U8, .slot 10 I64])] }) [SSite, SSafe, I64] [Bo, I64] false x = ref09_Open_t x := fun x => by kernel_rfl
theorem ref09_Open_m : Meets Tryd.prog V 20 (spP [SSite, SSafe, I64] [Bo, I64] ref09_Open_t) := meets_part ref09_Open_l stays hmix (hs := { loops := [(0, [.own 9 U8, .slot 10 I64])] }) (fnOK Tryd.func20 (by kernel_rfl) (by kernel_rfl) (by kernel_rfl)) false ref09_Open_d
def ref08_Same_L : List (Nat × FSpec) := []
theorem ref08_Same_l : AllMeet Tryd.prog V ref08_Same_L := .nil
set_option maxRecDepth 100000 in
theorem ref08_Same_d : ∀ x : PSSafe × PSSafe, denote (mkC Tryd.prog V ref08_Same_L) 1 (inlOf Tryd.f21 { loops := [(0, [.slot 5 I64])] }) [SSafe, SSafe] [Bo] false x = ref08_Same_t x := fun x => by kernel_rfl
theorem ref08_Same_m : Meets Tryd.prog V 21 (spP [SSafe, SSafe] [Bo] ref08_Same_t) := meets_part ref08_Same_l stays hmix (hs := { loops := [(0, [.slot 5 I64])] }) (fnOK Tryd.func21 (by kernel_rfl) (by kernel_rfl) (by kernel_rfl)) false ref08_Same_d
def law09_GateAdmits_L : List (Nat × FSpec) := [(12, (spP [SSite] [Bo] ref05_Great_t)), (16, (spP [SSafe] [SSafe] ref08_Twin_t)), (17, (spP [SSite, SSafe, U8s] [U8s, I64] gate_Admit_t true)), (18, (spP [SSite, SSafe, U8s] [U8s, I64] ref09_Admit_t)), (19, (spP [SSite, SSafe, I64] [Bo, I64] gate_Open_t)), (20, (spP [SSite, SSafe, I64] [Bo, I64] ref09_Open_t)), (15, (spT [U8s, U8s] [Bo] ref09_Same)), (21, (spP [SSafe, SSafe] [Bo] ref08_Same_t))]
theorem law09_GateAdmits_l : AllMeet Tryd.prog V law09_GateAdmits_L := (.cons ref05_Great_m (.cons ref08_Twin_m (.cons gate_Admit_m (.cons ref09_Admit_m (.cons gate_Open_m (.cons ref09_Open_m (.cons ref09_Same_m (.cons ref08_Same_m .nil))))))))
set_option maxRecDepth 100000 in
theorem law09_GateAdmits_d : ∀ x : PSSite × PSSafe × List Int × Int, denote (mkC Tryd.prog V law09_GateAdmits_L) 1 (inlOf Tryd.f4 { loops := [(0, [.slot 20 I64, .arr 11 U8])] }) [SSite, SSafe, U8s, I64] [Bo] false x = law09_GateAdmits_t x := fun x => by kernel_rfl
theorem law09_GateAdmits_m : Meets Tryd.prog V 4 (spP [SSite, SSafe, U8s, I64] [Bo] law09_GateAdmits_t) := meets_part law09_GateAdmits_l stays hmix (hs := { loops := [(0, [.slot 20 I64, .arr 11 U8])] }) (fnOK Tryd.func4 (by kernel_rfl) (by kernel_rfl) (by kernel_rfl)) false law09_GateAdmits_d
def law09_two_L : List (Nat × FSpec) := []
theorem law09_two_l : AllMeet Tryd.prog V law09_two_L := .nil
set_option maxRecDepth 100000 in
theorem law09_two_d : ∀ x : Unit, denote (mkC Tryd.prog V law09_two_L) 1 (inlOf Tryd.f27 {}) [] [SSite] false x = law09_two_t x := fun x => by kernel_rfl
theorem law09_two_m : Meets Tryd.prog V 27 (spT [] [SSite] law09_two) := meets_tot law09_two_l stays hmix (hs := {}) (fnOK Tryd.func27 (by kernel_rfl) (by kernel_rfl) (by kernel_rfl)) false fun x => (law09_two_d x).trans (law09_two_e x)
def law09_aspect_L : List (Nat × FSpec) := []
theorem law09_aspect_l : AllMeet Tryd.prog V law09_aspect_L := .nil
set_option maxRecDepth 100000 in
theorem law09_aspect_d : ∀ x : Int, denote (mkC Tryd.prog V law09_aspect_L) 1 (inlOf Tryd.f100 {}) [U8] [U8] false x = law09_aspect_t x := fun x => by kernel_rfl
theorem law09_aspect_m : Meets Tryd.prog V 100 (spT [U8] [U8] law09_aspect) := meets_tot law09_aspect_l stays hmix (hs := {}) (fnOK Tryd.func100 (by kernel_rfl) (by kernel_rfl) (by kernel_rfl)) false fun x => (law09_aspect_d x).trans (law09_aspect_e x)
def law09_alive_L : List (Nat × FSpec) := [(27, (spT [] [SSite] law09_two)), (13, (spP [SSite, U8ss] [U8ss, I64] gate_Run_t)), (100, (spT [U8] [U8] law09_aspect))]
theorem law09_alive_l : AllMeet Tryd.prog V law09_alive_L := (.cons law09_two_m (.cons gate_Run_m (.cons law09_aspect_m .nil)))
noncomputable def law09_alive_I : List (Nat × Inl) := [(26, inlOf Tryd.f26 {}), (53, inlOf Tryd.f53 { loops := [(0, [.own 3 U8s, .slot 4 I64])] }), (54, inlOf Tryd.f54 { loops := [(0, [.own 3 U8, .slot 4 I64]), (2, [.own 3 U8, .slot 5 I64])] })]
theorem law09_alive_i : AllOK Tryd.prog law09_alive_I := (.cons (fnOK Tryd.func26 (by kernel_rfl) (by kernel_rfl) (by kernel_rfl)) (.cons (fnOK Tryd.func53 (by kernel_rfl) (by kernel_rfl) (by kernel_rfl)) (.cons (fnOK Tryd.func54 (by kernel_rfl) (by kernel_rfl) (by kernel_rfl)) .nil)))
set_option maxRecDepth 100000 in
theorem law09_alive_d : ∀ x : Unit, denote (mkC Tryd.prog V law09_alive_L law09_alive_I) 4 (inlOf Tryd.f22 {}) [] [Bo] false x = law09_alive_t x := fun x => by kernel_rfl
theorem law09_alive_m : Meets Tryd.prog V 22 (spP [] [Bo] law09_alive_t) := meets_part_il law09_alive_l stays hmix law09_alive_i (hs := {}) (fnOK Tryd.func22 (by kernel_rfl) (by kernel_rfl) (by kernel_rfl)) false 4 law09_alive_d
def law09_same_L : List (Nat × FSpec) := []
theorem law09_same_l : AllMeet Tryd.prog V law09_same_L := .nil
set_option maxRecDepth 100000 in
theorem law09_same_d : ∀ x : List Int × List Int, denote (mkC Tryd.prog V law09_same_L) 1 (inlOf Tryd.f25 {}) [U8s, U8s] [Bo] false x = law09_same_t x := fun x => by kernel_rfl
theorem law09_same_m : Meets Tryd.prog V 25 (spT [U8s, U8s] [Bo] law09_same) := meets_tot law09_same_l stays hmix (hs := {}) (fnOK Tryd.func25 (by kernel_rfl) (by kernel_rfl) (by kernel_rfl)) false fun x => (law09_same_d x).trans (law09_same_e x)
def law09_GateSafe_L : List (Nat × FSpec) := [(22, (spP [] [Bo] law09_alive_t)), (12, (spP [SSite] [Bo] ref05_Great_t)), (17, (spP [SSite, SSafe, U8s] [U8s, I64] gate_Admit_t true)), (24, (spP [SSite, SSafe, U8s] [SSafe, U8, I64] safe_Next_t)), (25, (spT [U8s, U8s] [Bo] law09_same))]
theorem law09_GateSafe_l : AllMeet Tryd.prog V law09_GateSafe_L := (.cons law09_alive_m (.cons ref05_Great_m (.cons gate_Admit_m (.cons safe_Next_m (.cons law09_same_m .nil)))))
set_option maxRecDepth 100000 in
theorem law09_GateSafe_d : ∀ x : PSSite × PSSafe × List Int, denote (mkC Tryd.prog V law09_GateSafe_L) 1 (inlOf Tryd.f6 {}) [SSite, SSafe, U8s] [Bo] false x = law09_GateSafe_t x := fun x => by kernel_rfl
theorem law09_GateSafe_m : Meets Tryd.prog V 6 (spP [SSite, SSafe, U8s] [Bo] law09_GateSafe_t) := meets_part law09_GateSafe_l stays hmix (hs := {}) (fnOK Tryd.func6 (by kernel_rfl) (by kernel_rfl) (by kernel_rfl)) false law09_GateSafe_d
def safe_Check_L : List (Nat × FSpec) := [(47, (spP [SSite] [I64] site_Check_t)), (48, (spP [SSite] [SSafe] safe_first_t)), (49, (spP [SSite, SSafe, U8s] [U8] safe_fault_t)), (50, (spP [SSite, SSafe, U8s] [SSafe] safe_behind_t))]
theorem safe_Check_l : AllMeet Tryd.prog V safe_Check_L := (.cons site_Check_m (.cons safe_first_m (.cons safe_fault_m (.cons safe_behind_m .nil))))
set_option maxRecDepth 100000 in
theorem safe_Check_d : ∀ x : PSSite × List (List Int), denote (mkC Tryd.prog V safe_Check_L) 1 (inlOf Tryd.f23 { loops := [(0, [.slot 24 I64, .box 8 SSafe])] }) [SSite, U8ss] [I64, U8, I64] false x = safe_Check_t x := fun x => by kernel_rfl
theorem safe_Check_m : Meets Tryd.prog V 23 (spP [SSite, U8ss] [I64, U8, I64] safe_Check_t) := meets_part safe_Check_l stays hmix (hs := { loops := [(0, [.slot 24 I64, .box 8 SSafe])] }) (fnOK Tryd.func23 (by kernel_rfl) (by kernel_rfl) (by kernel_rfl)) false safe_Check_d
def law09_GateTraces_L : List (Nat × FSpec) := [(22, (spP [] [Bo] law09_alive_t)), (12, (spP [SSite] [Bo] ref05_Great_t)), (13, (spP [SSite, U8ss] [U8ss, I64] gate_Run_t)), (23, (spP [SSite, U8ss] [I64, U8, I64] safe_Check_t))]
theorem law09_GateTraces_l : AllMeet Tryd.prog V law09_GateTraces_L := (.cons law09_alive_m (.cons ref05_Great_m (.cons gate_Run_m (.cons safe_Check_m .nil))))
set_option maxRecDepth 100000 in
theorem law09_GateTraces_d : ∀ x : PSSite × List (List Int), denote (mkC Tryd.prog V law09_GateTraces_L) 1 (inlOf Tryd.f5 {}) [SSite, U8ss] [Bo] false x = law09_GateTraces_t x := fun x => by kernel_rfl
theorem law09_GateTraces_m : Meets Tryd.prog V 5 (spP [SSite, U8ss] [Bo] law09_GateTraces_t) := meets_part law09_GateTraces_l stays hmix (hs := {}) (fnOK Tryd.func5 (by kernel_rfl) (by kernel_rfl) (by kernel_rfl)) false law09_GateTraces_d
def law09_GateLater_L : List (Nat × FSpec) := [(22, (spP [] [Bo] law09_alive_t)), (12, (spP [SSite] [Bo] ref05_Great_t)), (17, (spP [SSite, SSafe, U8s] [U8s, I64] gate_Admit_t true))]
theorem law09_GateLater_l : AllMeet Tryd.prog V law09_GateLater_L := (.cons law09_alive_m (.cons ref05_Great_m (.cons gate_Admit_m .nil)))
set_option maxRecDepth 100000 in
theorem law09_GateLater_d : ∀ x : PSSite × PSSafe × List Int × List Int × Int, denote (mkC Tryd.prog V law09_GateLater_L) 1 (inlOf Tryd.f7 { loops := [(0, [.slot 13 I64, .arr 12 U8]), (2, [.slot 18 I64])] }) [SSite, SSafe, U8s, U8s, I64] [Bo] false x = law09_GateLater_t x := fun x => by kernel_rfl
theorem law09_GateLater_m : Meets Tryd.prog V 7 (spP [SSite, SSafe, U8s, U8s, I64] [Bo] law09_GateLater_t) := meets_part law09_GateLater_l stays hmix (hs := { loops := [(0, [.slot 13 I64, .arr 12 U8]), (2, [.slot 18 I64])] }) (fnOK Tryd.func7 (by kernel_rfl) (by kernel_rfl) (by kernel_rfl)) false law09_GateLater_d
def law09_GateNames_L : List (Nat × FSpec) := [(27, (spT [] [SSite] law09_two)), (13, (spP [SSite, U8ss] [U8ss, I64] gate_Run_t)), (17, (spP [SSite, SSafe, U8s] [U8s, I64] gate_Admit_t true)), (28, (spP [SSite] [SSafe, I64] safe_First_t)), (19, (spP [SSite, SSafe, I64] [Bo, I64] gate_Open_t)), (22, (spP [] [Bo] law09_alive_t)), (100, (spT [U8] [U8] law09_aspect))]
theorem law09_GateNames_l : AllMeet Tryd.prog V law09_GateNames_L := (.cons law09_two_m (.cons gate_Run_m (.cons gate_Admit_m (.cons safe_First_m (.cons gate_Open_m (.cons law09_alive_m (.cons law09_aspect_m .nil)))))))
noncomputable def law09_GateNames_I : List (Nat × Inl) := [(26, inlOf Tryd.f26 {}), (53, inlOf Tryd.f53 { loops := [(0, [.own 3 U8s, .slot 4 I64])] }), (54, inlOf Tryd.f54 { loops := [(0, [.own 3 U8, .slot 4 I64]), (2, [.own 3 U8, .slot 5 I64])] })]
theorem law09_GateNames_i : AllOK Tryd.prog law09_GateNames_I := (.cons (fnOK Tryd.func26 (by kernel_rfl) (by kernel_rfl) (by kernel_rfl)) (.cons (fnOK Tryd.func53 (by kernel_rfl) (by kernel_rfl) (by kernel_rfl)) (.cons (fnOK Tryd.func54 (by kernel_rfl) (by kernel_rfl) (by kernel_rfl)) .nil)))
set_option maxRecDepth 100000 in
theorem law09_GateNames_d : ∀ x : Unit, denote (mkC Tryd.prog V law09_GateNames_L law09_GateNames_I) 4 (inlOf Tryd.f8 {}) [] [Bo] false x = law09_GateNames_t x := fun x => by kernel_rfl
theorem law09_GateNames_m : Meets Tryd.prog V 8 (spP [] [Bo] law09_GateNames_t) := meets_part_il law09_GateNames_l stays hmix law09_GateNames_i (hs := {}) (fnOK Tryd.func8 (by kernel_rfl) (by kernel_rfl) (by kernel_rfl)) false 4 law09_GateNames_d
end Go.Proofs.YtdgiapeofmlecaaDoor
