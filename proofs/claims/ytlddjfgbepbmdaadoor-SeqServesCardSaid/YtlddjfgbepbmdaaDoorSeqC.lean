/- Part of a proof: plain readings of Go functions, their contracts, or plain facts of them. -/
import Derived.Test.YtlddjfgbepbmdaaDoorRows
import Derived.Test.YtlddjfgbepbmdaaDoorSeqP
import Derived.Lib.Walk
import Derived.Tactics
namespace Go.Proofs.YtlddjfgbepbmdaaDoor
open Go.Den Go.RowKit Go.ChangeShapes

theorem hmix : Tryd.prog.follows .mixedOrders = true := by kernel_rfl
theorem laidOut : laidOutB Tryd.prog = true := by kernel_rfl
theorem own : ownKnob Tryd.prog.godebug = none := by kernel_rfl
def V : World → Prop := fun w => (∃ cs t, w.heap[0]? = some (.cells cs t (0, 0)) ∧ cs.toList = Lib.deBruijn64tab.map fun (n : Nat) => Value.int .u8 (n : Int)) ∧ ∃ cs t, w.heap[1]? = some (.cells cs t (0, 0)) ∧ cs.toList = Lib.deBruijn32tab.map fun (n : Nat) => Value.int .u8 (n : Int)
theorem stays : Stays V := fun w w' hb ⟨⟨cs, t, h1, h2⟩, ds, u, h3, h4⟩ => ⟨⟨cs, t, by rw [hb.block 0 ((Array.getElem?_eq_some_iff.1 h1).1)]; exact h1, h2⟩, ds, u, by rw [hb.block 1 ((Array.getElem?_eq_some_iff.1 h3).1)]; exact h3, h4⟩
def ref05_Great_L : List (Nat × FSpec) := []
theorem ref05_Great_l : AllMeet Tryd.prog V ref05_Great_L := .nil
set_option maxRecDepth 100000 in
theorem ref05_Great_d : ∀ x : PSSite, denote (mkC Tryd.prog V ref05_Great_L) 1 (inlOf Tryd.f12 { loops := [(0, [.slot 3 I64]), (2, [.slot 4 I64])] }) [SSite] [Bo] false x = ref05_Great_t x := fun x => by kernel_rfl
theorem ref05_Great_m : Meets Tryd.prog V 12 (spP [SSite] [Bo] ref05_Great_t) := meets_part ref05_Great_l stays hmix (hs := { loops := [(0, [.slot 3 I64]), (2, [.slot 4 I64])] }) (fnOK Tryd.func12 (by kernel_rfl) (by kernel_rfl) (by kernel_rfl)) false ref05_Great_d
def ref08_Twin_L : List (Nat × FSpec) := []
theorem ref08_Twin_l : AllMeet Tryd.prog V ref08_Twin_L := .nil
set_option maxRecDepth 100000 in
theorem ref08_Twin_d : ∀ x : PSSafe, denote (mkC Tryd.prog V ref08_Twin_L) 1 (inlOf Tryd.f13 {}) [SSafe] [SSafe] false x = ref08_Twin_t x := fun x => by kernel_rfl
theorem ref08_Twin_m : Meets Tryd.prog V 13 (spP [SSafe] [SSafe] ref08_Twin_t) := meets_part ref08_Twin_l stays hmix (hs := {}) (fnOK Tryd.func13 (by kernel_rfl) (by kernel_rfl) (by kernel_rfl)) false ref08_Twin_d
def site_in_L : List (Nat × FSpec) := []
theorem site_in_l : AllMeet Tryd.prog V site_in_L := .nil
set_option maxRecDepth 100000 in
theorem site_in_d : ∀ x : Int × Int × Int, denote (mkC Tryd.prog V site_in_L) 1 (inlOf Tryd.f58 {}) [I64, I64, I64] [Bo] false x = site_in_t x := fun x => by kernel_rfl
theorem site_in_m : Meets Tryd.prog V 58 (spT [I64, I64, I64] [Bo] site_in) := meets_tot site_in_l stays hmix (hs := {}) (fnOK Tryd.func58 (by kernel_rfl) (by kernel_rfl) (by kernel_rfl)) false fun x => (site_in_d x).trans (site_in_e x)
def site_shape_L : List (Nat × FSpec) := [(58, (spT [I64, I64, I64] [Bo] site_in))]
theorem site_shape_l : AllMeet Tryd.prog V site_shape_L := (.cons site_in_m .nil)
set_option maxRecDepth 100000 in
theorem site_shape_d : ∀ x : PSSite, denote (mkC Tryd.prog V site_shape_L) 1 (inlOf Tryd.f59 { loops := [(0, [.slot 48 I64])] }) [SSite] [Bo] false x = site_shape_t x := fun x => by kernel_rfl
theorem site_shape_m : Meets Tryd.prog V 59 (spP [SSite] [Bo] site_shape_t) := meets_part site_shape_l stays hmix (hs := { loops := [(0, [.slot 48 I64])] }) (fnOK Tryd.func59 (by kernel_rfl) (by kernel_rfl) (by kernel_rfl)) false site_shape_d
def site_ticks_L : List (Nat × FSpec) := [(58, (spT [I64, I64, I64] [Bo] site_in))]
theorem site_ticks_l : AllMeet Tryd.prog V site_ticks_L := (.cons site_in_m .nil)
set_option maxRecDepth 100000 in
theorem site_ticks_d : ∀ x : List Int, denote (mkC Tryd.prog V site_ticks_L) 1 (inlOf Tryd.f95 { loops := [(0, [.slot 7 I64])] }) [I64s] [Bo] false x = site_ticks_t x := fun x => by kernel_rfl
theorem site_ticks_m : Meets Tryd.prog V 95 (spT [I64s] [Bo] site_ticks) := meets_up (meets_part site_ticks_l stays hmix (hs := { loops := [(0, [.slot 7 I64])] }) (fnOK Tryd.func95 (by kernel_rfl) (by kernel_rfl) (by kernel_rfl)) false site_ticks_d) site_ticks_e
def ring_bit_L : List (Nat × FSpec) := []
theorem ring_bit_l : AllMeet Tryd.prog V ring_bit_L := .nil
set_option maxRecDepth 100000 in
theorem ring_bit_d : ∀ x : Int, denote (mkC Tryd.prog V ring_bit_L) 1 (inlOf Tryd.f122 {}) [I64] [U32] false x = ring_bit_t x := fun x => by kernel_rfl
theorem ring_bit_m : Meets Tryd.prog V 122 (spT [I64] [U32] ring_bit) := meets_up (meets_part ring_bit_l stays hmix (hs := {}) (fnOK Tryd.func122 (by kernel_rfl) (by kernel_rfl) (by kernel_rfl)) false ring_bit_d) ring_bit_e
def ring_Has_L : List (Nat × FSpec) := [(122, (spT [I64] [U32] ring_bit))]
theorem ring_Has_l : AllMeet Tryd.prog V ring_Has_L := (.cons ring_bit_m .nil)
set_option maxRecDepth 100000 in
theorem ring_Has_d : ∀ x : Int × Int, denote (mkC Tryd.prog V ring_Has_L) 1 (inlOf Tryd.f96 {}) [U32, I64] [Bo] false x = ring_Has_t x := fun x => by kernel_rfl
theorem ring_Has_m : Meets Tryd.prog V 96 (spT [U32, I64] [Bo] ring_Has) := meets_tot ring_Has_l stays hmix (hs := {}) (fnOK Tryd.func96 (by kernel_rfl) (by kernel_rfl) (by kernel_rfl)) false fun x => (ring_Has_d x).trans (ring_Has_e x)
def site_apart_L : List (Nat × FSpec) := [(95, (spT [I64s] [Bo] site_ticks)), (96, (spT [U32, I64] [Bo] ring_Has)), (58, (spT [I64, I64, I64] [Bo] site_in))]
theorem site_apart_l : AllMeet Tryd.prog V site_apart_L := (.cons site_ticks_m (.cons ring_Has_m (.cons site_in_m .nil)))
set_option maxRecDepth 100000 in
theorem site_apart_d : ∀ x : PSSite, denote (mkC Tryd.prog V site_apart_L) 1 (inlOf Tryd.f60 { loops := [(0, [.slot 11 I64]), (2, [.slot 39 I64])] }) [SSite] [Bo] false x = site_apart_t x := fun x => by kernel_rfl
theorem site_apart_m : Meets Tryd.prog V 60 (spP [SSite] [Bo] site_apart_t) := meets_part site_apart_l stays hmix (hs := { loops := [(0, [.slot 11 I64]), (2, [.slot 39 I64])] }) (fnOK Tryd.func60 (by kernel_rfl) (by kernel_rfl) (by kernel_rfl)) false site_apart_d
theorem V.cell {w : World} (h : V w) (i : Nat) (hi : i < 32) : w.cell? ⟨1, i, none⟩ = some (.int .u8 (Lib.deBruijn32tab.getD i 0 : Nat)) := by
  obtain ⟨cs, t, h1, h2⟩ := h.2
  unfold World.cell?
  rw [h1]
  have : cs[i]? = some (Value.int .u8 (Lib.deBruijn32tab.getD i 0 : Nat)) := by
    rw [← Array.getElem?_toList, h2, List.getElem?_map, List.getD_eq_getElem?_getD]
    have hl : i < Lib.deBruijn32tab.length := hi
    rw [List.getElem?_eq_getElem hl]; rfl
  simpa using this
theorem tz_arith {x : Int} (hx : U32ok x) (h0 : x ≠ 0) : bits .and .u32 x (-x % 4294967296) * 125613361 % 4294967296 / 134217728 = ((2 ^ (Lib.ctz 32 x.toNat) * 125613361 % 4294967296 / 134217728 : Nat) : Int) ∧ Lib.ctz 32 x.toNat < 32 := by
  have hn : x.toNat ≠ 0 := by have := hx.1; omega
  obtain ⟨h1, h2⟩ := Lib.lowest_bit 32 x.toNat hn (natlt hx)
  refine ⟨?_, h2⟩
  have e : -x % 4294967296 = 4294967296 - x := by have := hx.1; have := hx.2; omega
  have hy : U32ok (4294967296 - x) := ⟨by have := hx.2; omega, by have := hx.1; omega⟩
  have hb : bits .and .u32 x (-x % 4294967296) = ((2 ^ Lib.ctz 32 x.toNat : Nat) : Int) := by
    rw [e]
    have hk : bits .and .u32 x (4294967296 - x) = bitop .and .u32 x (4294967296 - x) := rfl
    rw [hk, and_u32 hx hy, ← h1]
    congr 2
    have := hx.1; have := hx.2
    have : (2 : Nat) ^ 32 = 4294967296 := by decide
    omega
  rw [hb]
  simp
theorem inR_u32 {x : Int} (h : inR .u32 x = true) : U32ok x := by
  simpa [inR, IntKind.min, IntKind.max, IntKind.signed, IntKind.bits, U32ok] using h
theorem inR_i64 {y : Int} (h0 : 0 ≤ y) (h1 : y ≤ 1000000) : inR .i64 y = true := by
  simp only [inR, IntKind.min, IntKind.max, IntKind.signed, IntKind.bits, Bool.and_eq_true, decide_eq_true_eq]
  simp
  omega
theorem tz_bound {x : Int} (hx : U32ok x) : 0 ≤ bits_TrailingZeros32 x ∧ bits_TrailingZeros32 x ≤ 32 := by
  unfold bits_TrailingZeros32
  by_cases hz : x = 0
  · simp [low, hz]
  · have := low_spec hx hz; omega
theorem tz_walk (x : Int) (w : World) (hx : U32ok x) (hv : V w) :
    Calls Tryd.prog 123 #[.int .u32 x] w fun e w' => e = .returned (.int .i64 (bits_TrailingZeros32 x)) ∧ w' = w := by
  have hc := hv.cell
  have h0 := hx.1
  have h1 := hx.2
  by_cases hz : x = 0
  · subst hz
    go_enter Tryd.func123, Tryd.ntmps123
    go_wp2
    all_goals first | (go_ret; exact ⟨rfl, rfl⟩) | (rename_i h; exact absurd h (by decide))
  · go_enter Tryd.func123, Tryd.ntmps123
    go_wp2
    · rename_i h
      exact absurd (by simpa using h) hz
    · go_ret
      refine ⟨?_, rfl⟩
      obtain ⟨h2, h3⟩ := tz_arith hx hz
      obtain ⟨h4, h5⟩ := Lib.deBruijn32_at _ h3
      have e : ((Lib.deBruijn32tab[(bits BinOp.and IntKind.u32 x (-x % 4294967296) * 125613361 % 4294967296 / 134217728).toNat]?.getD 0 : Nat) : Int) = Lib.ctz 32 x.toNat := by
        rw [h2, Int.toNat_natCast, ← List.getD_eq_getElem?_getD, h5]
      have hn : x.toNat ≠ 0 := by omega
      have hl : bits_TrailingZeros32 x = Lib.ctz 32 x.toNat := by simp [bits_TrailingZeros32, low, hz]
      rw [hl, e]
      have e3 : ((Lib.ctz 32 x.toNat : Int) + 9223372036854775808) % 18446744073709551616 - 9223372036854775808 = Lib.ctz 32 x.toNat := by omega
      rw [e3]
      rfl
theorem bits_TrailingZeros32_m : Meets Tryd.prog V 123 (spT [U32] [I64] bits_TrailingZeros32) where
  enters := fun args w => by
    have h : FnOK Tryd.prog 123 (inlOf Tryd.f123 {}) := fnOK Tryd.func123 (by kernel_rfl) (by kernel_rfl) (by kernel_rfl)
    exact h.enters args w
  tot := fun g hg x => by cases hg; rfl
  calls := fun w F vals x y hv hF hr hy => by
    have hy' : some (bits_TrailingZeros32 x) = some y := hy
    cases hy'
    obtain ⟨us, h1, h2⟩ := hr
    have h1' : us = [.int .u32 x] ∧ inR .u32 x = true := h1
    obtain ⟨rfl, hin⟩ := h1'
    have hx : U32ok x := inR_u32 hin
    have : vals = [.int .u32 x] := h2
    subst this
    have hb : inR .i64 (bits_TrailingZeros32 x) = true := inR_i64 (tz_bound hx).1 (by have := (tz_bound hx).2; omega)
    refine (tz_walk x w hx hv).mono fun e w' ⟨he, hw⟩ => ?_
    subst hw
    exact ⟨[.int .i64 (bits_TrailingZeros32 x)], by rw [he]; rfl, Below.refl _ _, ⟨_, ⟨rfl, hb⟩, rfl⟩⟩

def ring_Least_L : List (Nat × FSpec) := [(123, (spT [U32] [I64] bits_TrailingZeros32))]
theorem ring_Least_l : AllMeet Tryd.prog V ring_Least_L := (.cons bits_TrailingZeros32_m .nil)
set_option maxRecDepth 100000 in
theorem ring_Least_d : ∀ x : Int, denote (mkC Tryd.prog V ring_Least_L) 1 (inlOf Tryd.f97 {}) [U32] [I64] false x = ring_Least_t x := fun x => by kernel_rfl
theorem ring_Least_m : Meets Tryd.prog V 97 (spT [U32] [I64] ring_Least) := meets_tot ring_Least_l stays hmix (hs := {}) (fnOK Tryd.func97 (by kernel_rfl) (by kernel_rfl) (by kernel_rfl)) false fun x => (ring_Least_d x).trans (ring_Least_e x)
def ring_Without_L : List (Nat × FSpec) := [(122, (spT [I64] [U32] ring_bit))]
theorem ring_Without_l : AllMeet Tryd.prog V ring_Without_L := (.cons ring_bit_m .nil)
set_option maxRecDepth 100000 in
theorem ring_Without_d : ∀ x : Int × Int, denote (mkC Tryd.prog V ring_Without_L) 1 (inlOf Tryd.f98 {}) [U32, I64] [U32] false x = ring_Without_t x := fun x => by kernel_rfl
theorem ring_Without_m : Meets Tryd.prog V 98 (spT [U32, I64] [U32] ring_Without) := meets_tot ring_Without_l stays hmix (hs := {}) (fnOK Tryd.func98 (by kernel_rfl) (by kernel_rfl) (by kernel_rfl)) false fun x => (ring_Without_d x).trans (ring_Without_e x)
theorem bits_OnesCount32_d : ∀ x : Int, denote (mkC Tryd.prog V []) 1 (inlOf Tryd.f124 {}) [U32] [I64] false x = ocTree x := fun x => by kernel_rfl
theorem bits_OnesCount32_m : Meets Tryd.prog V 124 (spT [U32] [I64] bits_OnesCount32) := meets_up (meets_part .nil stays hmix (hs := {}) (fnOK Tryd.func124 (by kernel_rfl) (by kernel_rfl) (by kernel_rfl)) false bits_OnesCount32_d) (fun x hf => ocTree_eq (fits_u32 hf))

def ring_Count_L : List (Nat × FSpec) := [(124, (spT [U32] [I64] bits_OnesCount32))]
theorem ring_Count_l : AllMeet Tryd.prog V ring_Count_L := (.cons bits_OnesCount32_m .nil)
set_option maxRecDepth 100000 in
theorem ring_Count_d : ∀ x : Int, denote (mkC Tryd.prog V ring_Count_L) 1 (inlOf Tryd.f99 {}) [U32] [I64] false x = ring_Count_t x := fun x => by kernel_rfl
theorem ring_Count_m : Meets Tryd.prog V 99 (spT [U32] [I64] ring_Count) := meets_tot ring_Count_l stays hmix (hs := {}) (fnOK Tryd.func99 (by kernel_rfl) (by kernel_rfl) (by kernel_rfl)) false fun x => (ring_Count_d x).trans (ring_Count_e x)
def site_phased_L : List (Nat × FSpec) := [(95, (spT [I64s] [Bo] site_ticks)), (97, (spT [U32] [I64] ring_Least)), (98, (spT [U32, I64] [U32] ring_Without)), (99, (spT [U32] [I64] ring_Count))]
theorem site_phased_l : AllMeet Tryd.prog V site_phased_L := (.cons site_ticks_m (.cons ring_Least_m (.cons ring_Without_m (.cons ring_Count_m .nil))))
set_option maxRecDepth 100000 in
theorem site_phased_d : ∀ x : PSSite, denote (mkC Tryd.prog V site_phased_L) 1 (inlOf Tryd.f61 { loops := [(0, [.slot 3 U32, .slot 11 I64]), (2, [.slot 6 U32])] }) [SSite] [Bo] false x = site_phased_t x := fun x => by kernel_rfl
theorem site_phased_m : Meets Tryd.prog V 61 (spP [SSite] [Bo] site_phased_t) := meets_part site_phased_l stays hmix (hs := { loops := [(0, [.slot 3 U32, .slot 11 I64]), (2, [.slot 6 U32])] }) (fnOK Tryd.func61 (by kernel_rfl) (by kernel_rfl) (by kernel_rfl)) false site_phased_d
def site_eyed_L : List (Nat × FSpec) := [(58, (spT [I64, I64, I64] [Bo] site_in)), (95, (spT [I64s] [Bo] site_ticks))]
theorem site_eyed_l : AllMeet Tryd.prog V site_eyed_L := (.cons site_in_m (.cons site_ticks_m .nil))
set_option maxRecDepth 100000 in
theorem site_eyed_d : ∀ x : PSSite, denote (mkC Tryd.prog V site_eyed_L) 1 (inlOf Tryd.f62 { loops := [(0, [.slot 8 I64])] }) [SSite] [Bo] false x = site_eyed_t x := fun x => by kernel_rfl
theorem site_eyed_m : Meets Tryd.prog V 62 (spP [SSite] [Bo] site_eyed_t) := meets_part site_eyed_l stays hmix (hs := { loops := [(0, [.slot 8 I64])] }) (fnOK Tryd.func62 (by kernel_rfl) (by kernel_rfl) (by kernel_rfl)) false site_eyed_d
def site_clear_L : List (Nat × FSpec) := [(96, (spT [U32, I64] [Bo] ring_Has)), (97, (spT [U32] [I64] ring_Least)), (98, (spT [U32, I64] [U32] ring_Without))]
theorem site_clear_l : AllMeet Tryd.prog V site_clear_L := (.cons ring_Has_m (.cons ring_Least_m (.cons ring_Without_m .nil)))
set_option maxRecDepth 100000 in
theorem site_clear_d : ∀ x : PSSite × Int × Int, denote (mkC Tryd.prog V site_clear_L) 1 (inlOf Tryd.f116 { loops := [(0, [.slot 6 I64, .slot 13 I64]), (2, [.slot 6 I64, .slot 8 U32])] }) [SSite, I64, I64] [I64] false x = site_clear_t x := fun x => by kernel_rfl
theorem site_clear_m : Meets Tryd.prog V 116 (spP [SSite, I64, I64] [I64] site_clear_t) := meets_part site_clear_l stays hmix (hs := { loops := [(0, [.slot 6 I64, .slot 13 I64]), (2, [.slot 6 I64, .slot 8 U32])] }) (fnOK Tryd.func116 (by kernel_rfl) (by kernel_rfl) (by kernel_rfl)) false site_clear_d
def site_needs_L : List (Nat × FSpec) := [(116, (spP [SSite, I64, I64] [I64] site_clear_t))]
theorem site_needs_l : AllMeet Tryd.prog V site_needs_L := (.cons site_clear_m .nil)
set_option maxRecDepth 100000 in
theorem site_needs_d : ∀ x : PSSite × Int, denote (mkC Tryd.prog V site_needs_L) 1 (inlOf Tryd.f100 {}) [SSite, I64] [I64] false x = site_needs_t x := fun x => by kernel_rfl
theorem site_needs_m : Meets Tryd.prog V 100 (spP [SSite, I64] [I64] site_needs_t) := meets_part site_needs_l stays hmix (hs := {}) (fnOK Tryd.func100 (by kernel_rfl) (by kernel_rfl) (by kernel_rfl)) false site_needs_d
def site_timed_L : List (Nat × FSpec) := [(100, (spP [SSite, I64] [I64] site_needs_t)), (95, (spT [I64s] [Bo] site_ticks))]
theorem site_timed_l : AllMeet Tryd.prog V site_timed_L := (.cons site_needs_m (.cons site_ticks_m .nil))
set_option maxRecDepth 100000 in
theorem site_timed_d : ∀ x : PSSite, denote (mkC Tryd.prog V site_timed_L) 1 (inlOf Tryd.f63 { loops := [(0, [.slot 3 I64, .slot 8 I64])] }) [SSite] [Bo] false x = site_timed_t x := fun x => by kernel_rfl
theorem site_timed_m : Meets Tryd.prog V 63 (spP [SSite] [Bo] site_timed_t) := meets_part site_timed_l stays hmix (hs := { loops := [(0, [.slot 3 I64, .slot 8 I64])] }) (fnOK Tryd.func63 (by kernel_rfl) (by kernel_rfl) (by kernel_rfl)) false site_timed_d
def site_fits_L : List (Nat × FSpec) := [(58, (spT [I64, I64, I64] [Bo] site_in)), (100, (spP [SSite, I64] [I64] site_needs_t))]
theorem site_fits_l : AllMeet Tryd.prog V site_fits_L := (.cons site_in_m (.cons site_needs_m .nil))
set_option maxRecDepth 100000 in
theorem site_fits_d : ∀ x : PSSite × PSPlan, denote (mkC Tryd.prog V site_fits_L) 1 (inlOf Tryd.f84 { loops := [(0, [.slot 5 I64, .slot 39 I64])] }) [SSite, SPlan] [Bo] false x = site_fits_t x := fun x => by kernel_rfl
theorem site_fits_m : Meets Tryd.prog V 84 (spP [SSite, SPlan] [Bo] site_fits_t) := meets_part site_fits_l stays hmix (hs := { loops := [(0, [.slot 5 I64, .slot 39 I64])] }) (fnOK Tryd.func84 (by kernel_rfl) (by kernel_rfl) (by kernel_rfl)) false site_fits_d
def site_planned_L : List (Nat × FSpec) := [(84, (spP [SSite, SPlan] [Bo] site_fits_t))]
theorem site_planned_l : AllMeet Tryd.prog V site_planned_L := (.cons site_fits_m .nil)
set_option maxRecDepth 100000 in
theorem site_planned_d : ∀ x : PSSite, denote (mkC Tryd.prog V site_planned_L) 1 (inlOf Tryd.f64 { loops := [(0, [.slot 8 I64])] }) [SSite] [Bo] false x = site_planned_t x := fun x => by kernel_rfl
theorem site_planned_m : Meets Tryd.prog V 64 (spP [SSite] [Bo] site_planned_t) := meets_part site_planned_l stays hmix (hs := { loops := [(0, [.slot 8 I64])] }) (fnOK Tryd.func64 (by kernel_rfl) (by kernel_rfl) (by kernel_rfl)) false site_planned_d
def site_Check_L : List (Nat × FSpec) := [(58, (spT [I64, I64, I64] [Bo] site_in)), (59, (spP [SSite] [Bo] site_shape_t)), (60, (spP [SSite] [Bo] site_apart_t)), (61, (spP [SSite] [Bo] site_phased_t)), (62, (spP [SSite] [Bo] site_eyed_t)), (63, (spP [SSite] [Bo] site_timed_t)), (64, (spP [SSite] [Bo] site_planned_t))]
theorem site_Check_l : AllMeet Tryd.prog V site_Check_L := (.cons site_in_m (.cons site_shape_m (.cons site_apart_m (.cons site_phased_m (.cons site_eyed_m (.cons site_timed_m (.cons site_planned_m .nil)))))))
set_option maxRecDepth 100000 in
theorem site_Check_d : ∀ x : PSSite, denote (mkC Tryd.prog V site_Check_L) 1 (inlOf Tryd.f30 { loops := [(0, [.slot 3 Bo, .slot 5 I64])] }) [SSite] [I64] false x = site_Check_t x := fun x => by kernel_rfl
theorem site_Check_m : Meets Tryd.prog V 30 (spP [SSite] [I64] site_Check_t) := meets_part site_Check_l stays hmix (hs := { loops := [(0, [.slot 3 Bo, .slot 5 I64])] }) (fnOK Tryd.func30 (by kernel_rfl) (by kernel_rfl) (by kernel_rfl)) false site_Check_d
def turn_wants_L : List (Nat × FSpec) := []
theorem turn_wants_l : AllMeet Tryd.prog V turn_wants_L := .nil
set_option maxRecDepth 100000 in
theorem turn_wants_d : ∀ x : PSSite × Int × Int, denote (mkC Tryd.prog V turn_wants_L) 1 (inlOf Tryd.f76 {}) [SSite, I64, I64] [Bo] false x = turn_wants_t x := fun x => by kernel_rfl
theorem turn_wants_m : Meets Tryd.prog V 76 (spP [SSite, I64, I64] [Bo] turn_wants_t) := meets_part turn_wants_l stays hmix (hs := {}) (fnOK Tryd.func76 (by kernel_rfl) (by kernel_rfl) (by kernel_rfl)) false turn_wants_d
def turn_full_L : List (Nat × FSpec) := [(76, (spP [SSite, I64, I64] [Bo] turn_wants_t))]
theorem turn_full_l : AllMeet Tryd.prog V turn_full_L := (.cons turn_wants_m .nil)
set_option maxRecDepth 100000 in
theorem turn_full_d : ∀ x : PSSite × PSSafe × Int, denote (mkC Tryd.prog V turn_full_L) 1 (inlOf Tryd.f40 { loops := [(0, [.slot 12 I64])] }) [SSite, SSafe, I64] [Bo] false x = turn_full_t x := fun x => by kernel_rfl
theorem turn_full_m : Meets Tryd.prog V 40 (spP [SSite, SSafe, I64] [Bo] turn_full_t) := meets_part turn_full_l stays hmix (hs := { loops := [(0, [.slot 12 I64])] }) (fnOK Tryd.func40 (by kernel_rfl) (by kernel_rfl) (by kernel_rfl)) false turn_full_d
def turn_Full_L : List (Nat × FSpec) := [(40, (spP [SSite, SSafe, I64] [Bo] turn_full_t)), (30, (spP [SSite] [I64] site_Check_t))]
theorem turn_Full_l : AllMeet Tryd.prog V turn_Full_L := (.cons turn_full_m (.cons site_Check_m .nil))
noncomputable def turn_Full_I : List (Nat × Inl) := [(38, inlOf Tryd.f38 {}), (39, inlOf Tryd.f39 {})]
theorem turn_Full_i : AllOK Tryd.prog turn_Full_I := (.cons (fnOK Tryd.func38 (by kernel_rfl) (by kernel_rfl) (by kernel_rfl)) (.cons (fnOK Tryd.func39 (by kernel_rfl) (by kernel_rfl) (by kernel_rfl)) .nil))
set_option maxRecDepth 100000 in
theorem turn_Full_d : ∀ x : PSSite × PSSafe × Int, denote (mkC Tryd.prog V turn_Full_L turn_Full_I) 3 (inlOf Tryd.f18 { joins := [(2, [])], outs := [(2, [(8, I64)])] }) [SSite, SSafe, I64] [Bo, I64] false x = turn_Full_t x := fun x => by kernel_rfl
theorem turn_Full_m : Meets Tryd.prog V 18 (spP [SSite, SSafe, I64] [Bo, I64] turn_Full_t) := meets_part_il turn_Full_l stays hmix turn_Full_i (hs := { joins := [(2, [])], outs := [(2, [(8, I64)])] }) (fnOK Tryd.func18 (by kernel_rfl) (by kernel_rfl) (by kernel_rfl)) false 3 turn_Full_d
def seq_called_L : List (Nat × FSpec) := []
theorem seq_called_l : AllMeet Tryd.prog V seq_called_L := .nil
set_option maxRecDepth 100000 in
theorem seq_called_d : ∀ x : PSSite × Int, denote (mkC Tryd.prog V seq_called_L) 1 (inlOf Tryd.f31 { loops := [(0, [.slot 5 U32, .slot 11 I64])] }) [SSite, U32] [U32] false x = seq_called_t x := fun x => by kernel_rfl
theorem seq_called_m : Meets Tryd.prog V 31 (spP [SSite, U32] [U32] seq_called_t) := meets_part seq_called_l stays hmix (hs := { loops := [(0, [.slot 5 U32, .slot 11 I64])] }) (fnOK Tryd.func31 (by kernel_rfl) (by kernel_rfl) (by kernel_rfl)) false seq_called_d
theorem V.cell64 {w : World} (h : V w) (i : Nat) (hi : i < 64) : w.cell? ⟨0, i, none⟩ = some (.int .u8 (Lib.deBruijn64tab.getD i 0 : Nat)) := by
  obtain ⟨cs, t, h1, h2⟩ := h.1
  unfold World.cell?
  rw [h1]
  have : cs[i]? = some (Value.int .u8 (Lib.deBruijn64tab.getD i 0 : Nat)) := by
    rw [← Array.getElem?_toList, h2, List.getElem?_map, List.getD_eq_getElem?_getD]
    have hl : i < Lib.deBruijn64tab.length := hi
    rw [List.getElem?_eq_getElem hl]; rfl
  simpa using this
theorem tz_arith64 {x : Int} (hx : U64ok x) (h0 : x ≠ 0) : bits .and .u64 x (-x % 18446744073709551616) * 285870213051353865 % 18446744073709551616 / 288230376151711744 = ((2 ^ (Lib.ctz 64 x.toNat) * 285870213051353865 % 18446744073709551616 / 288230376151711744 : Nat) : Int) ∧ Lib.ctz 64 x.toNat < 64 := by
  have hn : x.toNat ≠ 0 := by have := hx.1; omega
  obtain ⟨h1, h2⟩ := Lib.lowest_bit 64 x.toNat hn (natlt64 hx)
  refine ⟨?_, h2⟩
  have e : -x % 18446744073709551616 = 18446744073709551616 - x := by have := hx.1; have := hx.2; omega
  have hb : bits .and .u64 x (-x % 18446744073709551616) = ((2 ^ Lib.ctz 64 x.toNat : Nat) : Int) := by
    rw [e]
    have hk : bits .and .u64 x (18446744073709551616 - x) = bitop .and .u64 x (18446744073709551616 - x) := rfl
    have hy : (18446744073709551616 - x) = ((2 ^ 64 - x.toNat : Nat) : Int) := by
      have := hx.1; have := hx.2
      have : (2 : Nat) ^ 64 = 18446744073709551616 := by decide
      omega
    have hxx : x = ((x.toNat : Nat) : Int) := by have := hx.1; omega
    rw [hk, hy, hxx, Int.toNat_natCast, and_u64 (natlt64 hx) (by have := natlt64 hx; omega), h1]
  rw [hb]
  simp
theorem inR_u64 {x : Int} (h : inR .u64 x = true) : U64ok x := by
  simpa [inR, IntKind.min, IntKind.max, IntKind.signed, IntKind.bits, U64ok] using h
theorem tz_bound64 {x : Int} (hx : U64ok x) : 0 ≤ bits_TrailingZeros64 x ∧ bits_TrailingZeros64 x ≤ 64 := by
  unfold bits_TrailingZeros64
  by_cases hz : x = 0
  · simp [hz]
  · rw [if_neg hz]
    have := (tz_arith64 hx hz).2
    omega
theorem tz_walk64 (x : Int) (w : World) (hx : U64ok x) (hv : V w) :
    Calls Tryd.prog 65 #[.int .u64 x] w fun e w' => e = .returned (.int .i64 (bits_TrailingZeros64 x)) ∧ w' = w := by
  have hc := hv.cell64
  have h0 := hx.1
  have h1 := hx.2
  by_cases hz : x = 0
  · subst hz
    go_enter Tryd.func65, Tryd.ntmps65
    go_wp2
    all_goals first | (go_ret; exact ⟨rfl, rfl⟩) | (rename_i h; exact absurd h (by decide))
  · go_enter Tryd.func65, Tryd.ntmps65
    go_wp2
    · rename_i h
      exact absurd (by simpa using h) hz
    · go_ret
      refine ⟨?_, rfl⟩
      obtain ⟨h2, h3⟩ := tz_arith64 hx hz
      obtain ⟨h4, h5⟩ := Lib.deBruijn64_at _ h3
      have e : ((Lib.deBruijn64tab[(bits BinOp.and IntKind.u64 x (-x % 18446744073709551616) * 285870213051353865 % 18446744073709551616 / 288230376151711744).toNat]?.getD 0 : Nat) : Int) = Lib.ctz 64 x.toNat := by
        rw [h2, Int.toNat_natCast, ← List.getD_eq_getElem?_getD, h5]
      have hl : bits_TrailingZeros64 x = Lib.ctz 64 x.toNat := by simp [bits_TrailingZeros64, hz]
      simp only [wrap_u64]
      rw [hl, e]
      have e3 : ((Lib.ctz 64 x.toNat : Int) + 9223372036854775808) % 18446744073709551616 - 9223372036854775808 = Lib.ctz 64 x.toNat := by omega
      rw [e3]
      rfl
    · rename_i h
      exfalso
      obtain ⟨h2, h3⟩ := tz_arith64 hx hz
      obtain ⟨h4, h5⟩ := Lib.deBruijn64_at _ h3
      simp only [wrap_u64, h2] at h
      omega
theorem bits_TrailingZeros64_m : Meets Tryd.prog V 65 (spT [U64] [I64] bits_TrailingZeros64) where
  enters := fun args w => by
    have h : FnOK Tryd.prog 65 (inlOf Tryd.f65 {}) := fnOK Tryd.func65 (by kernel_rfl) (by kernel_rfl) (by kernel_rfl)
    exact h.enters args w
  tot := fun g hg x => by cases hg; rfl
  calls := fun w F vals x y hv hF hr hy => by
    have hy' : some (bits_TrailingZeros64 x) = some y := hy
    cases hy'
    obtain ⟨us, h1, h2⟩ := hr
    have h1' : us = [.int .u64 x] ∧ inR .u64 x = true := h1
    obtain ⟨rfl, hin⟩ := h1'
    have hx : U64ok x := inR_u64 hin
    have : vals = [.int .u64 x] := h2
    subst this
    have hb : inR .i64 (bits_TrailingZeros64 x) = true := inR_i64 (tz_bound64 hx).1 (by have := (tz_bound64 hx).2; omega)
    refine (tz_walk64 x w hx hv).mono fun e w' ⟨he, hw⟩ => ?_
    subst hw
    exact ⟨[.int .i64 (bits_TrailingZeros64 x)], by rw [he]; rfl, Below.refl _ _, ⟨_, ⟨rfl, hb⟩, rfl⟩⟩

def seq_behind_L : List (Nat × FSpec) := [(65, (spT [U64] [I64] bits_TrailingZeros64))]
theorem seq_behind_l : AllMeet Tryd.prog V seq_behind_L := (.cons bits_TrailingZeros64_m .nil)
set_option maxRecDepth 100000 in
theorem seq_behind_d : ∀ x : Int × Int × Int, denote (mkC Tryd.prog V seq_behind_L) 1 (inlOf Tryd.f32 {}) [U32, I64, I64] [I64] false x = seq_behind_t x := fun x => by kernel_rfl
theorem seq_behind_m : Meets Tryd.prog V 32 (spP [U32, I64, I64] [I64] seq_behind_t) := meets_part seq_behind_l stays hmix (hs := {}) (fnOK Tryd.func32 (by kernel_rfl) (by kernel_rfl) (by kernel_rfl)) false seq_behind_d
def turn_asks_L : List (Nat × FSpec) := [(76, (spP [SSite, I64, I64] [Bo] turn_wants_t))]
theorem turn_asks_l : AllMeet Tryd.prog V turn_asks_L := (.cons turn_wants_m .nil)
set_option maxRecDepth 100000 in
theorem turn_asks_d : ∀ x : PSSite × Int, denote (mkC Tryd.prog V turn_asks_L) 1 (inlOf Tryd.f52 { loops := [(0, [.slot 13 I64, .arr 10 U8])] }) [SSite, I64] [U8s] false x = turn_asks_t x := fun x => by kernel_rfl
theorem turn_asks_m : Meets Tryd.prog V 52 (spP [SSite, I64] [U8s] turn_asks_t) := meets_part turn_asks_l stays hmix (hs := { loops := [(0, [.slot 13 I64, .arr 10 U8])] }) (fnOK Tryd.func52 (by kernel_rfl) (by kernel_rfl) (by kernel_rfl)) false turn_asks_d
def turn_Asks_L : List (Nat × FSpec) := [(52, (spP [SSite, I64] [U8s] turn_asks_t)), (30, (spP [SSite] [I64] site_Check_t))]
theorem turn_Asks_l : AllMeet Tryd.prog V turn_Asks_L := (.cons turn_asks_m (.cons site_Check_m .nil))
noncomputable def turn_Asks_I : List (Nat × Inl) := [(38, inlOf Tryd.f38 {}), (51, inlOf Tryd.f51 {})]
theorem turn_Asks_i : AllOK Tryd.prog turn_Asks_I := (.cons (fnOK Tryd.func38 (by kernel_rfl) (by kernel_rfl) (by kernel_rfl)) (.cons (fnOK Tryd.func51 (by kernel_rfl) (by kernel_rfl) (by kernel_rfl)) .nil))
set_option maxRecDepth 100000 in
theorem turn_Asks_d : ∀ x : PSSite × Int, denote (mkC Tryd.prog V turn_Asks_L turn_Asks_I) 3 (inlOf Tryd.f26 { joins := [(2, [])], outs := [(2, [(6, I64)])] }) [SSite, I64] [U8s, I64] false x = turn_Asks_t x := fun x => by kernel_rfl
theorem turn_Asks_m : Meets Tryd.prog V 26 (spP [SSite, I64] [U8s, I64] turn_Asks_t) := meets_part_il turn_Asks_l stays hmix turn_Asks_i (hs := { joins := [(2, [])], outs := [(2, [(6, I64)])] }) (fnOK Tryd.func26 (by kernel_rfl) (by kernel_rfl) (by kernel_rfl)) false 3 turn_Asks_d
def seq_Next_L : List (Nat × FSpec) := [(30, (spP [SSite] [I64] site_Check_t)), (18, (spP [SSite, SSafe, I64] [Bo, I64] turn_Full_t)), (31, (spP [SSite, U32] [U32] seq_called_t)), (32, (spP [U32, I64, I64] [I64] seq_behind_t)), (26, (spP [SSite, I64] [U8s, I64] turn_Asks_t))]
theorem seq_Next_l : AllMeet Tryd.prog V seq_Next_L := (.cons site_Check_m (.cons turn_Full_m (.cons seq_called_m (.cons seq_behind_m (.cons turn_Asks_m .nil)))))
set_option maxRecDepth 100000 in
theorem seq_Next_d : ∀ x : PSSite × PSSeq × PSSafe × Int × Int, denote (mkC Tryd.prog V seq_Next_L) 1 (inlOf Tryd.f10 {}) [SSite, SSeq, SSafe, U32, U32] [SSeq, U8s, I64] false x = seq_Next_t x := fun x => by kernel_rfl
theorem seq_Next_m : Meets Tryd.prog V 10 (spP [SSite, SSeq, SSafe, U32, U32] [SSeq, U8s, I64] seq_Next_t) := meets_part seq_Next_l stays hmix (hs := {}) (fnOK Tryd.func10 (by kernel_rfl) (by kernel_rfl) (by kernel_rfl)) false seq_Next_d
def ref05_in_L : List (Nat × FSpec) := []
theorem ref05_in_l : AllMeet Tryd.prog V ref05_in_L := .nil
set_option maxRecDepth 100000 in
theorem ref05_in_d : ∀ x : Int × Int × Int, denote (mkC Tryd.prog V ref05_in_L) 1 (inlOf Tryd.f68 {}) [I64, I64, I64] [Bo] false x = ref05_in_t x := fun x => by kernel_rfl
theorem ref05_in_m : Meets Tryd.prog V 68 (spT [I64, I64, I64] [Bo] ref05_in) := meets_tot ref05_in_l stays hmix (hs := {}) (fnOK Tryd.func68 (by kernel_rfl) (by kernel_rfl) (by kernel_rfl)) false fun x => (ref05_in_d x).trans (ref05_in_e x)
def ref02_Has_L : List (Nat × FSpec) := []
theorem ref02_Has_l : AllMeet Tryd.prog V ref02_Has_L := .nil
set_option maxRecDepth 100000 in
theorem ref02_Has_d : ∀ x : Int × Int, denote (mkC Tryd.prog V ref02_Has_L) 1 (inlOf Tryd.f102 {}) [U32, I64] [Bo] false x = ref02_Has_t x := fun x => by kernel_rfl
theorem ref02_Has_m : Meets Tryd.prog V 102 (spT [U32, I64] [Bo] ref02_Has) := meets_up (meets_part ref02_Has_l stays hmix (hs := {}) (fnOK Tryd.func102 (by kernel_rfl) (by kernel_rfl) (by kernel_rfl)) false ref02_Has_d) ref02_Has_e
def ref05_Apart_L : List (Nat × FSpec) := [(102, (spT [U32, I64] [Bo] ref02_Has))]
theorem ref05_Apart_l : AllMeet Tryd.prog V ref05_Apart_L := (.cons ref02_Has_m .nil)
set_option maxRecDepth 100000 in
theorem ref05_Apart_d : ∀ x : PSSite × Int × Int, denote (mkC Tryd.prog V ref05_Apart_L) 1 (inlOf Tryd.f101 {}) [SSite, I64, I64] [Bo] false x = ref05_Apart_t x := fun x => by kernel_rfl
theorem ref05_Apart_m : Meets Tryd.prog V 101 (spP [SSite, I64, I64] [Bo] ref05_Apart_t) := meets_part ref05_Apart_l stays hmix (hs := {}) (fnOK Tryd.func101 (by kernel_rfl) (by kernel_rfl) (by kernel_rfl)) false ref05_Apart_d
def ref05_groups_L : List (Nat × FSpec) := [(68, (spT [I64, I64, I64] [Bo] ref05_in)), (101, (spP [SSite, I64, I64] [Bo] ref05_Apart_t))]
theorem ref05_groups_l : AllMeet Tryd.prog V ref05_groups_L := (.cons ref05_in_m (.cons ref05_Apart_m .nil))
set_option maxRecDepth 100000 in
theorem ref05_groups_d : ∀ x : PSSite, denote (mkC Tryd.prog V ref05_groups_L) 1 (inlOf Tryd.f66 { loops := [(0, [.slot 4 I64]), (2, [.slot 6 I64]), (4, [.slot 7 I64])] }) [SSite] [Bo] false x = ref05_groups_t x := fun x => by kernel_rfl
theorem ref05_groups_m : Meets Tryd.prog V 66 (spP [SSite] [Bo] ref05_groups_t) := meets_part ref05_groups_l stays hmix (hs := { loops := [(0, [.slot 4 I64]), (2, [.slot 6 I64]), (4, [.slot 7 I64])] }) (fnOK Tryd.func66 (by kernel_rfl) (by kernel_rfl) (by kernel_rfl)) false ref05_groups_d
def ref02_With_L : List (Nat × FSpec) := [(102, (spT [U32, I64] [Bo] ref02_Has))]
theorem ref02_With_l : AllMeet Tryd.prog V ref02_With_L := (.cons ref02_Has_m .nil)
set_option maxRecDepth 100000 in
theorem ref02_With_d : ∀ x : Int × Int, denote (mkC Tryd.prog V ref02_With_L) 1 (inlOf Tryd.f103 {}) [U32, I64] [U32] false x = ref02_With_t x := fun x => by kernel_rfl
theorem ref02_With_m : Meets Tryd.prog V 103 (spT [U32, I64] [U32] ref02_With) := meets_tot ref02_With_l stays hmix (hs := {}) (fnOK Tryd.func103 (by kernel_rfl) (by kernel_rfl) (by kernel_rfl)) false fun x => (ref02_With_d x).trans (ref02_With_e x)
def ref02_Count_L : List (Nat × FSpec) := [(102, (spT [U32, I64] [Bo] ref02_Has))]
theorem ref02_Count_l : AllMeet Tryd.prog V ref02_Count_L := (.cons ref02_Has_m .nil)
set_option maxRecDepth 100000 in
theorem ref02_Count_d : ∀ x : Int, denote (mkC Tryd.prog V ref02_Count_L) 1 (inlOf Tryd.f104 { loops := [(0, [.slot 3 I64, .slot 4 I64])] }) [U32] [I64] false x = ref02_Count_t x := fun x => by kernel_rfl
theorem ref02_Count_m : Meets Tryd.prog V 104 (spP [U32] [I64] ref02_Count_t) := meets_part ref02_Count_l stays hmix (hs := { loops := [(0, [.slot 3 I64, .slot 4 I64])] }) (fnOK Tryd.func104 (by kernel_rfl) (by kernel_rfl) (by kernel_rfl)) false ref02_Count_d
def ref05_phases_L : List (Nat × FSpec) := [(68, (spT [I64, I64, I64] [Bo] ref05_in)), (102, (spT [U32, I64] [Bo] ref02_Has)), (103, (spT [U32, I64] [U32] ref02_With)), (101, (spP [SSite, I64, I64] [Bo] ref05_Apart_t)), (104, (spP [U32] [I64] ref02_Count_t))]
theorem ref05_phases_l : AllMeet Tryd.prog V ref05_phases_L := (.cons ref05_in_m (.cons ref02_Has_m (.cons ref02_With_m (.cons ref05_Apart_m (.cons ref02_Count_m .nil)))))
set_option maxRecDepth 100000 in
theorem ref05_phases_d : ∀ x : PSSite, denote (mkC Tryd.prog V ref05_phases_L) 1 (inlOf Tryd.f67 { loops := [(0, [.slot 3 U32, .slot 4 I64]), (2, [.slot 3 U32, .slot 6 I64, .slot 7 I64]), (4, [.slot 8 I64])] }) [SSite] [Bo] false x = ref05_phases_t x := fun x => by kernel_rfl
theorem ref05_phases_m : Meets Tryd.prog V 67 (spP [SSite] [Bo] ref05_phases_t) := meets_part ref05_phases_l stays hmix (hs := { loops := [(0, [.slot 3 U32, .slot 4 I64]), (2, [.slot 3 U32, .slot 6 I64, .slot 7 I64]), (4, [.slot 8 I64])] }) (fnOK Tryd.func67 (by kernel_rfl) (by kernel_rfl) (by kernel_rfl)) false ref05_phases_d
def ref05_Clear_L : List (Nat × FSpec) := [(102, (spT [U32, I64] [Bo] ref02_Has)), (101, (spP [SSite, I64, I64] [Bo] ref05_Apart_t))]
theorem ref05_Clear_l : AllMeet Tryd.prog V ref05_Clear_L := (.cons ref02_Has_m (.cons ref05_Apart_m .nil))
set_option maxRecDepth 100000 in
theorem ref05_Clear_d : ∀ x : PSSite × Int × Int, denote (mkC Tryd.prog V ref05_Clear_L) 1 (inlOf Tryd.f125 { loops := [(0, [.slot 7 I64, .slot 8 I64]), (2, [.slot 7 I64, .slot 9 I64])] }) [SSite, I64, I64] [I64] false x = ref05_Clear_t x := fun x => by kernel_rfl
theorem ref05_Clear_m : Meets Tryd.prog V 125 (spP [SSite, I64, I64] [I64] ref05_Clear_t) := meets_part ref05_Clear_l stays hmix (hs := { loops := [(0, [.slot 7 I64, .slot 8 I64]), (2, [.slot 7 I64, .slot 9 I64])] }) (fnOK Tryd.func125 (by kernel_rfl) (by kernel_rfl) (by kernel_rfl)) false ref05_Clear_d
def ref05_needs_L : List (Nat × FSpec) := [(125, (spP [SSite, I64, I64] [I64] ref05_Clear_t))]
theorem ref05_needs_l : AllMeet Tryd.prog V ref05_needs_L := (.cons ref05_Clear_m .nil)
set_option maxRecDepth 100000 in
theorem ref05_needs_d : ∀ x : PSSite × Int, denote (mkC Tryd.prog V ref05_needs_L) 1 (inlOf Tryd.f105 {}) [SSite, I64] [I64] false x = ref05_needs_t x := fun x => by kernel_rfl
theorem ref05_needs_m : Meets Tryd.prog V 105 (spP [SSite, I64] [I64] ref05_needs_t) := meets_part ref05_needs_l stays hmix (hs := {}) (fnOK Tryd.func105 (by kernel_rfl) (by kernel_rfl) (by kernel_rfl)) false ref05_needs_d
def ref05_Round_L : List (Nat × FSpec) := [(105, (spP [SSite, I64] [I64] ref05_needs_t))]
theorem ref05_Round_l : AllMeet Tryd.prog V ref05_Round_L := (.cons ref05_needs_m .nil)
set_option maxRecDepth 100000 in
theorem ref05_Round_d : ∀ x : PSSite, denote (mkC Tryd.prog V ref05_Round_L) 1 (inlOf Tryd.f69 { loops := [(0, [.slot 3 I64, .slot 4 I64])] }) [SSite] [I64] false x = ref05_Round_t x := fun x => by kernel_rfl
theorem ref05_Round_m : Meets Tryd.prog V 69 (spP [SSite] [I64] ref05_Round_t) := meets_part ref05_Round_l stays hmix (hs := { loops := [(0, [.slot 3 I64, .slot 4 I64])] }) (fnOK Tryd.func69 (by kernel_rfl) (by kernel_rfl) (by kernel_rfl)) false ref05_Round_d
def ref05_PlanMay_L : List (Nat × FSpec) := [(68, (spT [I64, I64, I64] [Bo] ref05_in)), (105, (spP [SSite, I64] [I64] ref05_needs_t))]
theorem ref05_PlanMay_l : AllMeet Tryd.prog V ref05_PlanMay_L := (.cons ref05_in_m (.cons ref05_needs_m .nil))
set_option maxRecDepth 100000 in
theorem ref05_PlanMay_d : ∀ x : PSSite × PSPlan, denote (mkC Tryd.prog V ref05_PlanMay_L) 1 (inlOf Tryd.f70 { loops := [(0, [.slot 5 I64, .slot 6 I64])] }) [SSite, SPlan] [Bo] false x = ref05_PlanMay_t x := fun x => by kernel_rfl
theorem ref05_PlanMay_m : Meets Tryd.prog V 70 (spP [SSite, SPlan] [Bo] ref05_PlanMay_t) := meets_part ref05_PlanMay_l stays hmix (hs := { loops := [(0, [.slot 5 I64, .slot 6 I64])] }) (fnOK Tryd.func70 (by kernel_rfl) (by kernel_rfl) (by kernel_rfl)) false ref05_PlanMay_d
def ref05_Check_L : List (Nat × FSpec) := [(66, (spP [SSite] [Bo] ref05_groups_t)), (67, (spP [SSite] [Bo] ref05_phases_t)), (68, (spT [I64, I64, I64] [Bo] ref05_in)), (69, (spP [SSite] [I64] ref05_Round_t)), (70, (spP [SSite, SPlan] [Bo] ref05_PlanMay_t))]
theorem ref05_Check_l : AllMeet Tryd.prog V ref05_Check_L := (.cons ref05_groups_m (.cons ref05_phases_m (.cons ref05_in_m (.cons ref05_Round_m (.cons ref05_PlanMay_m .nil)))))
set_option maxRecDepth 100000 in
theorem ref05_Check_d : ∀ x : PSSite, denote (mkC Tryd.prog V ref05_Check_L) 1 (inlOf Tryd.f33 { loops := [(0, [.slot 3 I64]), (2, [.slot 5 I64])] }) [SSite] [I64] false x = ref05_Check_t x := fun x => by kernel_rfl
theorem ref05_Check_m : Meets Tryd.prog V 33 (spP [SSite] [I64] ref05_Check_t) := meets_part ref05_Check_l stays hmix (hs := { loops := [(0, [.slot 3 I64]), (2, [.slot 5 I64])] }) (fnOK Tryd.func33 (by kernel_rfl) (by kernel_rfl) (by kernel_rfl)) false ref05_Check_d
def ref15_In_L : List (Nat × FSpec) := []
theorem ref15_In_l : AllMeet Tryd.prog V ref15_In_L := .nil
set_option maxRecDepth 100000 in
theorem ref15_In_d : ∀ x : PSSite × Int × Int, denote (mkC Tryd.prog V ref15_In_L) 1 (inlOf Tryd.f73 {}) [SSite, I64, I64] [Bo] false x = ref15_In_t x := fun x => by kernel_rfl
theorem ref15_In_m : Meets Tryd.prog V 73 (spP [SSite, I64, I64] [Bo] ref15_In_t) := meets_part ref15_In_l stays hmix (hs := {}) (fnOK Tryd.func73 (by kernel_rfl) (by kernel_rfl) (by kernel_rfl)) false ref15_In_d
def ref15_Whole_L : List (Nat × FSpec) := [(73, (spP [SSite, I64, I64] [Bo] ref15_In_t))]
theorem ref15_Whole_l : AllMeet Tryd.prog V ref15_Whole_L := (.cons ref15_In_m .nil)
set_option maxRecDepth 100000 in
theorem ref15_Whole_d : ∀ x : PSSite × PSSafe × Int, denote (mkC Tryd.prog V ref15_Whole_L) 1 (inlOf Tryd.f71 { loops := [(0, [.slot 7 I64])] }) [SSite, SSafe, I64] [Bo] false x = ref15_Whole_t x := fun x => by kernel_rfl
theorem ref15_Whole_m : Meets Tryd.prog V 71 (spP [SSite, SSafe, I64] [Bo] ref15_Whole_t) := meets_part ref15_Whole_l stays hmix (hs := { loops := [(0, [.slot 7 I64])] }) (fnOK Tryd.func71 (by kernel_rfl) (by kernel_rfl) (by kernel_rfl)) false ref15_Whole_d
def ref16_Calls_L : List (Nat × FSpec) := []
theorem ref16_Calls_l : AllMeet Tryd.prog V ref16_Calls_L := .nil
set_option maxRecDepth 100000 in
theorem ref16_Calls_d : ∀ x : PSSite × Int × Int, denote (mkC Tryd.prog V ref16_Calls_L) 1 (inlOf Tryd.f72 {}) [SSite, U32, I64] [Bo] false x = ref16_Calls_t x := fun x => by kernel_rfl
theorem ref16_Calls_m : Meets Tryd.prog V 72 (spP [SSite, U32, I64] [Bo] ref16_Calls_t) := meets_part ref16_Calls_l stays hmix (hs := {}) (fnOK Tryd.func72 (by kernel_rfl) (by kernel_rfl) (by kernel_rfl)) false ref16_Calls_d
def ref16_Go_L : List (Nat × FSpec) := [(71, (spP [SSite, SSafe, I64] [Bo] ref15_Whole_t)), (72, (spP [SSite, U32, I64] [Bo] ref16_Calls_t))]
theorem ref16_Go_l : AllMeet Tryd.prog V ref16_Go_L := (.cons ref15_Whole_m (.cons ref16_Calls_m .nil))
set_option maxRecDepth 100000 in
theorem ref16_Go_d : ∀ x : PSSite × PSSeq × PSSafe × Int × Int, denote (mkC Tryd.prog V ref16_Go_L) 1 (inlOf Tryd.f34 { loops := [(0, [.slot 12 I64, .box 10 SSeq])] }) [SSite, SSeq, SSafe, U32, U32] [SSeq] false x = ref16_Go_t x := fun x => by kernel_rfl
theorem ref16_Go_m : Meets Tryd.prog V 34 (spP [SSite, SSeq, SSafe, U32, U32] [SSeq] ref16_Go_t) := meets_part ref16_Go_l stays hmix (hs := { loops := [(0, [.slot 12 I64, .box 10 SSeq])] }) (fnOK Tryd.func34 (by kernel_rfl) (by kernel_rfl) (by kernel_rfl)) false ref16_Go_d
def ref15_Wants_L : List (Nat × FSpec) := [(73, (spP [SSite, I64, I64] [Bo] ref15_In_t))]
theorem ref15_Wants_l : AllMeet Tryd.prog V ref15_Wants_L := (.cons ref15_In_m .nil)
set_option maxRecDepth 100000 in
theorem ref15_Wants_d : ∀ x : PSSite × Int, denote (mkC Tryd.prog V ref15_Wants_L) 1 (inlOf Tryd.f35 { loops := [(0, [.own 5 U8, .slot 6 I64])] }) [SSite, I64] [U8s] false x = ref15_Wants_t x := fun x => by kernel_rfl
theorem ref15_Wants_m : Meets Tryd.prog V 35 (spP [SSite, I64] [U8s] ref15_Wants_t) := meets_part ref15_Wants_l stays hmix (hs := { loops := [(0, [.own 5 U8, .slot 6 I64])] }) (fnOK Tryd.func35 (by kernel_rfl) (by kernel_rfl) (by kernel_rfl)) false ref15_Wants_d
def ref16_Next_L : List (Nat × FSpec) := [(33, (spP [SSite] [I64] ref05_Check_t)), (34, (spP [SSite, SSeq, SSafe, U32, U32] [SSeq] ref16_Go_t)), (35, (spP [SSite, I64] [U8s] ref15_Wants_t))]
theorem ref16_Next_l : AllMeet Tryd.prog V ref16_Next_L := (.cons ref05_Check_m (.cons ref16_Go_m (.cons ref15_Wants_m .nil)))
set_option maxRecDepth 100000 in
theorem ref16_Next_d : ∀ x : PSSite × PSSeq × PSSafe × Int × Int, denote (mkC Tryd.prog V ref16_Next_L) 1 (inlOf Tryd.f14 {}) [SSite, SSeq, SSafe, U32, U32] [SSeq, U8s, I64] false x = ref16_Next_t x := fun x => by kernel_rfl
theorem ref16_Next_m : Meets Tryd.prog V 14 (spP [SSite, SSeq, SSafe, U32, U32] [SSeq, U8s, I64] ref16_Next_t) := meets_part ref16_Next_l stays hmix (hs := {}) (fnOK Tryd.func14 (by kernel_rfl) (by kernel_rfl) (by kernel_rfl)) false ref16_Next_d
def safe_apart_L : List (Nat × FSpec) := []
theorem safe_apart_l : AllMeet Tryd.prog V safe_apart_L := .nil
set_option maxRecDepth 100000 in
theorem safe_apart_d : ∀ x : PSSite × Int × Int, denote (mkC Tryd.prog V safe_apart_L) 1 (inlOf Tryd.f108 {}) [SSite, I64, I64] [Bo] false x = safe_apart_t x := fun x => by kernel_rfl
theorem safe_apart_m : Meets Tryd.prog V 108 (spP [SSite, I64, I64] [Bo] safe_apart_t) := meets_part safe_apart_l stays hmix (hs := {}) (fnOK Tryd.func108 (by kernel_rfl) (by kernel_rfl) (by kernel_rfl)) false safe_apart_d
def safe_between_L : List (Nat × FSpec) := []
theorem safe_between_l : AllMeet Tryd.prog V safe_between_L := .nil
set_option maxRecDepth 100000 in
theorem safe_between_d : ∀ x : PSSite × Int × Int, denote (mkC Tryd.prog V safe_between_L) 1 (inlOf Tryd.f109 {}) [SSite, I64, I64] [I64] false x = safe_between_t x := fun x => by kernel_rfl
theorem safe_between_m : Meets Tryd.prog V 109 (spP [SSite, I64, I64] [I64] safe_between_t) := meets_part safe_between_l stays hmix (hs := {}) (fnOK Tryd.func109 (by kernel_rfl) (by kernel_rfl) (by kernel_rfl)) false safe_between_d
def safe_greatest_L : List (Nat × FSpec) := [(108, (spP [SSite, I64, I64] [Bo] safe_apart_t)), (109, (spP [SSite, I64, I64] [I64] safe_between_t))]
theorem safe_greatest_l : AllMeet Tryd.prog V safe_greatest_L := (.cons safe_apart_m (.cons safe_between_m .nil))
set_option maxRecDepth 100000 in
theorem safe_greatest_d : ∀ x : PSSite, denote (mkC Tryd.prog V safe_greatest_L) 1 (inlOf Tryd.f75 { loops := [(0, [.slot 3 I64, .slot 9 I64]), (2, [.slot 3 I64, .slot 15 I64])] }) [SSite] [I64] false x = safe_greatest_t x := fun x => by kernel_rfl
theorem safe_greatest_m : Meets Tryd.prog V 75 (spP [SSite] [I64] safe_greatest_t) := meets_part safe_greatest_l stays hmix (hs := { loops := [(0, [.slot 3 I64, .slot 9 I64]), (2, [.slot 3 I64, .slot 15 I64])] }) (fnOK Tryd.func75 (by kernel_rfl) (by kernel_rfl) (by kernel_rfl)) false safe_greatest_d
def safe_Greatest_L : List (Nat × FSpec) := [(30, (spP [SSite] [I64] site_Check_t)), (75, (spP [SSite] [I64] safe_greatest_t))]
theorem safe_Greatest_l : AllMeet Tryd.prog V safe_Greatest_L := (.cons site_Check_m (.cons safe_greatest_m .nil))
set_option maxRecDepth 100000 in
theorem safe_Greatest_d : ∀ x : PSSite, denote (mkC Tryd.prog V safe_Greatest_L) 1 (inlOf Tryd.f57 {}) [SSite] [I64, I64] false x = safe_Greatest_t x := fun x => by kernel_rfl
theorem safe_Greatest_m : Meets Tryd.prog V 57 (spP [SSite] [I64, I64] safe_Greatest_t) := meets_part safe_Greatest_l stays hmix (hs := {}) (fnOK Tryd.func57 (by kernel_rfl) (by kernel_rfl) (by kernel_rfl)) false safe_Greatest_d
def turn_Worst_L : List (Nat × FSpec) := [(57, (spP [SSite] [I64, I64] safe_Greatest_t))]
theorem turn_Worst_l : AllMeet Tryd.prog V turn_Worst_L := (.cons safe_Greatest_m .nil)
set_option maxRecDepth 100000 in
theorem turn_Worst_d : ∀ x : PSSite, denote (mkC Tryd.prog V turn_Worst_L) 1 (inlOf Tryd.f29 { loops := [(0, [.slot 6 I64, .slot 7 I64, .slot 21 I64])] }) [SSite] [I64, I64] false x = turn_Worst_t x := fun x => by kernel_rfl
theorem turn_Worst_m : Meets Tryd.prog V 29 (spP [SSite] [I64, I64] turn_Worst_t) := meets_part turn_Worst_l stays hmix (hs := { loops := [(0, [.slot 6 I64, .slot 7 I64, .slot 21 I64])] }) (fnOK Tryd.func29 (by kernel_rfl) (by kernel_rfl) (by kernel_rfl)) false turn_Worst_d
def seq_Bound_L : List (Nat × FSpec) := [(29, (spP [SSite] [I64, I64] turn_Worst_t))]
theorem seq_Bound_l : AllMeet Tryd.prog V seq_Bound_L := (.cons turn_Worst_m .nil)
set_option maxRecDepth 100000 in
theorem seq_Bound_d : ∀ x : PSSite, denote (mkC Tryd.prog V seq_Bound_L) 1 (inlOf Tryd.f8 { loops := [(0, [.slot 6 I64, .slot 21 I64])] }) [SSite] [I64, I64] false x = seq_Bound_t x := fun x => by kernel_rfl
theorem seq_Bound_m : Meets Tryd.prog V 8 (spP [SSite] [I64, I64] seq_Bound_t) := meets_part seq_Bound_l stays hmix (hs := { loops := [(0, [.slot 6 I64, .slot 21 I64])] }) (fnOK Tryd.func8 (by kernel_rfl) (by kernel_rfl) (by kernel_rfl)) false seq_Bound_d
def ref08_Apart_L : List (Nat × FSpec) := []
theorem ref08_Apart_l : AllMeet Tryd.prog V ref08_Apart_L := .nil
set_option maxRecDepth 100000 in
theorem ref08_Apart_d : ∀ x : PSSite × Int × Int, denote (mkC Tryd.prog V ref08_Apart_L) 1 (inlOf Tryd.f106 {}) [SSite, I64, I64] [Bo] false x = ref08_Apart_t x := fun x => by kernel_rfl
theorem ref08_Apart_m : Meets Tryd.prog V 106 (spP [SSite, I64, I64] [Bo] ref08_Apart_t) := meets_part ref08_Apart_l stays hmix (hs := {}) (fnOK Tryd.func106 (by kernel_rfl) (by kernel_rfl) (by kernel_rfl)) false ref08_Apart_d
def ref08_Between_L : List (Nat × FSpec) := []
theorem ref08_Between_l : AllMeet Tryd.prog V ref08_Between_L := .nil
set_option maxRecDepth 100000 in
theorem ref08_Between_d : ∀ x : PSSite × Int × Int, denote (mkC Tryd.prog V ref08_Between_L) 1 (inlOf Tryd.f107 {}) [SSite, I64, I64] [I64] false x = ref08_Between_t x := fun x => by kernel_rfl
theorem ref08_Between_m : Meets Tryd.prog V 107 (spP [SSite, I64, I64] [I64] ref08_Between_t) := meets_part ref08_Between_l stays hmix (hs := {}) (fnOK Tryd.func107 (by kernel_rfl) (by kernel_rfl) (by kernel_rfl)) false ref08_Between_d
def ref08_Great_L : List (Nat × FSpec) := [(106, (spP [SSite, I64, I64] [Bo] ref08_Apart_t)), (107, (spP [SSite, I64, I64] [I64] ref08_Between_t))]
theorem ref08_Great_l : AllMeet Tryd.prog V ref08_Great_L := (.cons ref08_Apart_m (.cons ref08_Between_m .nil))
set_option maxRecDepth 100000 in
theorem ref08_Great_d : ∀ x : PSSite, denote (mkC Tryd.prog V ref08_Great_L) 1 (inlOf Tryd.f74 { loops := [(0, [.slot 3 I64, .slot 4 I64]), (2, [.slot 3 I64, .slot 5 I64])] }) [SSite] [I64] false x = ref08_Great_t x := fun x => by kernel_rfl
theorem ref08_Great_m : Meets Tryd.prog V 74 (spP [SSite] [I64] ref08_Great_t) := meets_part ref08_Great_l stays hmix (hs := { loops := [(0, [.slot 3 I64, .slot 4 I64]), (2, [.slot 3 I64, .slot 5 I64])] }) (fnOK Tryd.func74 (by kernel_rfl) (by kernel_rfl) (by kernel_rfl)) false ref08_Great_d
def ref15_Turn_L : List (Nat × FSpec) := [(74, (spP [SSite] [I64] ref08_Great_t))]
theorem ref15_Turn_l : AllMeet Tryd.prog V ref15_Turn_L := (.cons ref08_Great_m .nil)
set_option maxRecDepth 100000 in
theorem ref15_Turn_d : ∀ x : PSSite, denote (mkC Tryd.prog V ref15_Turn_L) 1 (inlOf Tryd.f36 { loops := [(0, [.slot 3 I64, .slot 4 I64, .slot 5 I64])] }) [SSite] [I64] false x = ref15_Turn_t x := fun x => by kernel_rfl
theorem ref15_Turn_m : Meets Tryd.prog V 36 (spP [SSite] [I64] ref15_Turn_t) := meets_part ref15_Turn_l stays hmix (hs := { loops := [(0, [.slot 3 I64, .slot 4 I64, .slot 5 I64])] }) (fnOK Tryd.func36 (by kernel_rfl) (by kernel_rfl) (by kernel_rfl)) false ref15_Turn_d
def ref16_Bound_L : List (Nat × FSpec) := [(33, (spP [SSite] [I64] ref05_Check_t)), (36, (spP [SSite] [I64] ref15_Turn_t))]
theorem ref16_Bound_l : AllMeet Tryd.prog V ref16_Bound_L := (.cons ref05_Check_m (.cons ref15_Turn_m .nil))
set_option maxRecDepth 100000 in
theorem ref16_Bound_d : ∀ x : PSSite, denote (mkC Tryd.prog V ref16_Bound_L) 1 (inlOf Tryd.f15 { loops := [(0, [.slot 6 I64, .slot 7 I64])] }) [SSite] [I64, I64] false x = ref16_Bound_t x := fun x => by kernel_rfl
theorem ref16_Bound_m : Meets Tryd.prog V 15 (spP [SSite] [I64, I64] ref16_Bound_t) := meets_part ref16_Bound_l stays hmix (hs := { loops := [(0, [.slot 6 I64, .slot 7 I64])] }) (fnOK Tryd.func15 (by kernel_rfl) (by kernel_rfl) (by kernel_rfl)) false ref16_Bound_d
def ref08_Same_L : List (Nat × FSpec) := []
theorem ref08_Same_l : AllMeet Tryd.prog V ref08_Same_L := .nil
set_option maxRecDepth 100000 in
theorem ref08_Same_d : ∀ x : PSSafe × PSSafe, denote (mkC Tryd.prog V ref08_Same_L) 1 (inlOf Tryd.f16 { loops := [(0, [.slot 5 I64])] }) [SSafe, SSafe] [Bo] false x = ref08_Same_t x := fun x => by kernel_rfl
theorem ref08_Same_m : Meets Tryd.prog V 16 (spP [SSafe, SSafe] [Bo] ref08_Same_t) := meets_part ref08_Same_l stays hmix (hs := { loops := [(0, [.slot 5 I64])] }) (fnOK Tryd.func16 (by kernel_rfl) (by kernel_rfl) (by kernel_rfl)) false ref08_Same_d
def law16_SeqGoes_L : List (Nat × FSpec) := [(12, (spP [SSite] [Bo] ref05_Great_t)), (13, (spP [SSafe] [SSafe] ref08_Twin_t)), (10, (spP [SSite, SSeq, SSafe, U32, U32] [SSeq, U8s, I64] seq_Next_t)), (14, (spP [SSite, SSeq, SSafe, U32, U32] [SSeq, U8s, I64] ref16_Next_t)), (8, (spP [SSite] [I64, I64] seq_Bound_t)), (15, (spP [SSite] [I64, I64] ref16_Bound_t)), (16, (spP [SSafe, SSafe] [Bo] ref08_Same_t))]
theorem law16_SeqGoes_l : AllMeet Tryd.prog V law16_SeqGoes_L := (.cons ref05_Great_m (.cons ref08_Twin_m (.cons seq_Next_m (.cons ref16_Next_m (.cons seq_Bound_m (.cons ref16_Bound_m (.cons ref08_Same_m .nil)))))))
set_option maxRecDepth 100000 in
theorem law16_SeqGoes_d : ∀ x : PSSite × PSSeq × PSSafe × Int × Int, denote (mkC Tryd.prog V law16_SeqGoes_L) 1 (inlOf Tryd.f4 {}) [SSite, SSeq, SSafe, U32, U32] [Bo] false x = law16_SeqGoes_t x := fun x => by kernel_rfl
theorem law16_SeqGoes_m : Meets Tryd.prog V 4 (spP [SSite, SSeq, SSafe, U32, U32] [Bo] law16_SeqGoes_t) := meets_part law16_SeqGoes_l stays hmix (hs := {}) (fnOK Tryd.func4 (by kernel_rfl) (by kernel_rfl) (by kernel_rfl)) false law16_SeqGoes_d
def law16_three_L : List (Nat × FSpec) := []
theorem law16_three_l : AllMeet Tryd.prog V law16_three_L := .nil
set_option maxRecDepth 100000 in
theorem law16_three_d : ∀ x : Unit, denote (mkC Tryd.prog V law16_three_L) 1 (inlOf Tryd.f9 {}) [] [SSite] false x = law16_three_t x := fun x => by kernel_rfl
theorem law16_three_m : Meets Tryd.prog V 9 (spT [] [SSite] law16_three) := meets_tot law16_three_l stays hmix (hs := {}) (fnOK Tryd.func9 (by kernel_rfl) (by kernel_rfl) (by kernel_rfl)) false fun x => (law16_three_d x).trans (law16_three_e x)
def law16_alive_L : List (Nat × FSpec) := [(9, (spT [] [SSite] law16_three)), (10, (spP [SSite, SSeq, SSafe, U32, U32] [SSeq, U8s, I64] seq_Next_t))]
theorem law16_alive_l : AllMeet Tryd.prog V law16_alive_L := (.cons law16_three_m (.cons seq_Next_m .nil))
set_option maxRecDepth 100000 in
theorem law16_alive_d : ∀ x : Unit, denote (mkC Tryd.prog V law16_alive_L) 1 (inlOf Tryd.f11 { frz := [2] }) [] [Bo] false x = law16_alive_t x := fun x => by kernel_rfl
theorem law16_alive_m : Meets Tryd.prog V 11 (spP [] [Bo] law16_alive_t) := meets_part law16_alive_l stays hmix (hs := { frz := [2] }) (fnOK Tryd.func11 (by kernel_rfl) (by kernel_rfl) (by kernel_rfl)) false law16_alive_d
def law16_SeqNames_L : List (Nat × FSpec) := [(9, (spT [] [SSite] law16_three)), (8, (spP [SSite] [I64, I64] seq_Bound_t)), (10, (spP [SSite, SSeq, SSafe, U32, U32] [SSeq, U8s, I64] seq_Next_t)), (11, (spP [] [Bo] law16_alive_t))]
theorem law16_SeqNames_l : AllMeet Tryd.prog V law16_SeqNames_L := (.cons law16_three_m (.cons seq_Bound_m (.cons seq_Next_m (.cons law16_alive_m .nil))))
set_option maxRecDepth 100000 in
theorem law16_SeqNames_d : ∀ x : Unit, denote (mkC Tryd.prog V law16_SeqNames_L) 1 (inlOf Tryd.f3 { frz := [3] }) [] [Bo] false x = law16_SeqNames_t x := fun x => by kernel_rfl
theorem law16_SeqNames_m : Meets Tryd.prog V 3 (spP [] [Bo] law16_SeqNames_t) := meets_part law16_SeqNames_l stays hmix (hs := { frz := [3] }) (fnOK Tryd.func3 (by kernel_rfl) (by kernel_rfl) (by kernel_rfl)) false law16_SeqNames_d
def safe_first_L : List (Nat × FSpec) := [(75, (spP [SSite] [I64] safe_greatest_t))]
theorem safe_first_l : AllMeet Tryd.prog V safe_first_L := (.cons safe_greatest_m .nil)
set_option maxRecDepth 100000 in
theorem safe_first_d : ∀ x : PSSite, denote (mkC Tryd.prog V safe_first_L) 1 (inlOf Tryd.f37 { loops := [(0, [.slot 10 I64, .fown 3 .unit SSeen (.pair I64 Bo)])] }) [SSite] [SSafe] false x = safe_first_t x := fun x => by kernel_rfl
theorem safe_first_m : Meets Tryd.prog V 37 (spP [SSite] [SSafe] safe_first_t) := meets_part safe_first_l stays hmix (hs := { loops := [(0, [.slot 10 I64, .fown 3 .unit SSeen (.pair I64 Bo)])] }) (fnOK Tryd.func37 (by kernel_rfl) (by kernel_rfl) (by kernel_rfl)) false safe_first_d
def safe_First_L : List (Nat × FSpec) := [(30, (spP [SSite] [I64] site_Check_t)), (37, (spP [SSite] [SSafe] safe_first_t))]
theorem safe_First_l : AllMeet Tryd.prog V safe_First_L := (.cons site_Check_m (.cons safe_first_m .nil))
set_option maxRecDepth 100000 in
theorem safe_First_d : ∀ x : PSSite, denote (mkC Tryd.prog V safe_First_L) 1 (inlOf Tryd.f17 {}) [SSite] [SSafe, I64] false x = safe_First_t x := fun x => by kernel_rfl
theorem safe_First_m : Meets Tryd.prog V 17 (spP [SSite] [SSafe, I64] safe_First_t) := meets_part safe_First_l stays hmix (hs := {}) (fnOK Tryd.func17 (by kernel_rfl) (by kernel_rfl) (by kernel_rfl)) false safe_First_d
def law16_at_L : List (Nat × FSpec) := []
theorem law16_at_l : AllMeet Tryd.prog V law16_at_L := .nil
set_option maxRecDepth 100000 in
theorem law16_at_d : ∀ x : List Int × Int, denote (mkC Tryd.prog V law16_at_L) 1 (inlOf Tryd.f20 {}) [U32s, I64] [U32] false x = law16_at_t x := fun x => by kernel_rfl
theorem law16_at_m : Meets Tryd.prog V 20 (spP [U32s, I64] [U32] law16_at_t) := meets_part law16_at_l stays hmix (hs := {}) (fnOK Tryd.func20 (by kernel_rfl) (by kernel_rfl) (by kernel_rfl)) false law16_at_d
def safe_shown_L : List (Nat × FSpec) := []
theorem safe_shown_l : AllMeet Tryd.prog V safe_shown_L := .nil
set_option maxRecDepth 100000 in
theorem safe_shown_d : ∀ x : PSSafe, denote (mkC Tryd.prog V safe_shown_L) 1 (inlOf Tryd.f86 { loops := [(0, [.slot 13 I64, .arr 9 U8])] }) [SSafe] [U8s] true x = safe_shown_t x := fun x => by kernel_rfl
theorem safe_shown_m : Meets Tryd.prog V 86 (spP [SSafe] [U8s] safe_shown_t true) := meets_part safe_shown_l stays hmix (hs := { loops := [(0, [.slot 13 I64, .arr 9 U8])] }) (fnOK Tryd.func86 (by kernel_rfl) (by kernel_rfl) (by kernel_rfl)) true safe_shown_d
def safe_flash_L : List (Nat × FSpec) := []
theorem safe_flash_l : AllMeet Tryd.prog V safe_flash_L := .nil
noncomputable def safe_flash_I : List (Nat × Inl) := [(78, inlOf Tryd.f78 {}), (112, inlOf Tryd.f112 { loops := [(0, [.slot 8 I64])] }), (117, inlOf Tryd.f117 {})]
theorem safe_flash_i : AllOK Tryd.prog safe_flash_I := (.cons (fnOK Tryd.func78 (by kernel_rfl) (by kernel_rfl) (by kernel_rfl)) (.cons (fnOK Tryd.func112 (by kernel_rfl) (by kernel_rfl) (by kernel_rfl)) (.cons (fnOK Tryd.func117 (by kernel_rfl) (by kernel_rfl) (by kernel_rfl)) .nil)))
set_option maxRecDepth 100000 in
theorem safe_flash_d : ∀ x : List Int, denote (mkC Tryd.prog V safe_flash_L safe_flash_I) 4 (inlOf Tryd.f87 {}) [U8s] [Bo] false x = safe_flash_t x := fun x => by kernel_rfl
theorem safe_flash_m : Meets Tryd.prog V 87 (spP [U8s] [Bo] safe_flash_t) := meets_part_il safe_flash_l stays hmix safe_flash_i (hs := {}) (fnOK Tryd.func87 (by kernel_rfl) (by kernel_rfl) (by kernel_rfl)) false 4 safe_flash_d
def safe_red_L : List (Nat × FSpec) := []
theorem safe_red_l : AllMeet Tryd.prog V safe_red_L := .nil
set_option maxRecDepth 100000 in
theorem safe_red_d : ∀ x : Int, denote (mkC Tryd.prog V safe_red_L) 1 (inlOf Tryd.f91 {}) [U8] [Bo] false x = safe_red_t x := fun x => by kernel_rfl
theorem safe_red_m : Meets Tryd.prog V 91 (spT [U8] [Bo] safe_red) := meets_tot safe_red_l stays hmix (hs := {}) (fnOK Tryd.func91 (by kernel_rfl) (by kernel_rfl) (by kernel_rfl)) false fun x => (safe_red_d x).trans (safe_red_e x)
def safe_meet_L : List (Nat × FSpec) := [(91, (spT [U8] [Bo] safe_red)), (108, (spP [SSite, I64, I64] [Bo] safe_apart_t))]
theorem safe_meet_l : AllMeet Tryd.prog V safe_meet_L := (.cons safe_red_m (.cons safe_apart_m .nil))
set_option maxRecDepth 100000 in
theorem safe_meet_d : ∀ x : PSSite × List Int, denote (mkC Tryd.prog V safe_meet_L) 1 (inlOf Tryd.f88 { loops := [(0, [.slot 9 I64]), (2, [.slot 18 I64])] }) [SSite, U8s] [Bo] false x = safe_meet_t x := fun x => by kernel_rfl
theorem safe_meet_m : Meets Tryd.prog V 88 (spP [SSite, U8s] [Bo] safe_meet_t) := meets_part safe_meet_l stays hmix (hs := { loops := [(0, [.slot 9 I64]), (2, [.slot 18 I64])] }) (fnOK Tryd.func88 (by kernel_rfl) (by kernel_rfl) (by kernel_rfl)) false safe_meet_d
def safe_may_L : List (Nat × FSpec) := [(86, (spP [SSafe] [U8s] safe_shown_t true)), (87, (spP [U8s] [Bo] safe_flash_t)), (88, (spP [SSite, U8s] [Bo] safe_meet_t))]
theorem safe_may_l : AllMeet Tryd.prog V safe_may_L := (.cons safe_shown_m (.cons safe_flash_m (.cons safe_meet_m .nil)))
set_option maxRecDepth 100000 in
theorem safe_may_d : ∀ x : PSSite × PSSafe, denote (mkC Tryd.prog V safe_may_L) 1 (inlOf Tryd.f53 {}) [SSite, SSafe] [Bo] false x = safe_may_t x := fun x => by kernel_rfl
theorem safe_may_m : Meets Tryd.prog V 53 (spP [SSite, SSafe] [Bo] safe_may_t) := meets_part safe_may_l stays hmix (hs := {}) (fnOK Tryd.func53 (by kernel_rfl) (by kernel_rfl) (by kernel_rfl)) false safe_may_d
def slices_Index___uint8_uint8__L : List (Nat × FSpec) := []
theorem slices_Index___uint8_uint8__l : AllMeet Tryd.prog V slices_Index___uint8_uint8__L := .nil
set_option maxRecDepth 100000 in
theorem slices_Index___uint8_uint8__d : ∀ x : List Int × Int, denote (mkC Tryd.prog V slices_Index___uint8_uint8__L) 1 (inlOf Tryd.f118 { loops := [(0, [.slot 8 I64])] }) [U8s, U8] [I64] false x = slices_Index___uint8_uint8__t x := fun x => by kernel_rfl
theorem slices_Index___uint8_uint8__m : Meets Tryd.prog V 118 (spP [U8s, U8] [I64] slices_Index___uint8_uint8__t) := meets_part slices_Index___uint8_uint8__l stays hmix (hs := { loops := [(0, [.slot 8 I64])] }) (fnOK Tryd.func118 (by kernel_rfl) (by kernel_rfl) (by kernel_rfl)) false slices_Index___uint8_uint8__d
def slices_Contains___uint8_uint8__L : List (Nat × FSpec) := [(118, (spP [U8s, U8] [I64] slices_Index___uint8_uint8__t))]
theorem slices_Contains___uint8_uint8__l : AllMeet Tryd.prog V slices_Contains___uint8_uint8__L := (.cons slices_Index___uint8_uint8__m .nil)
set_option maxRecDepth 100000 in
theorem slices_Contains___uint8_uint8__d : ∀ x : List Int × Int, denote (mkC Tryd.prog V slices_Contains___uint8_uint8__L) 1 (inlOf Tryd.f89 {}) [U8s, U8] [Bo] false x = slices_Contains___uint8_uint8__t x := fun x => by kernel_rfl
theorem slices_Contains___uint8_uint8__m : Meets Tryd.prog V 89 (spP [U8s, U8] [Bo] slices_Contains___uint8_uint8__t) := meets_part slices_Contains___uint8_uint8__l stays hmix (hs := {}) (fnOK Tryd.func89 (by kernel_rfl) (by kernel_rfl) (by kernel_rfl)) false slices_Contains___uint8_uint8__d
def lamp_kept_L : List (Nat × FSpec) := []
theorem lamp_kept_l : AllMeet Tryd.prog V lamp_kept_L := .nil
set_option maxRecDepth 100000 in
theorem lamp_kept_d : ∀ x : Int, denote (mkC Tryd.prog V lamp_kept_L) 1 (inlOf Tryd.f113 {}) [I64] [I64] false x = lamp_kept_t x := fun x => by kernel_rfl
theorem lamp_kept_m : Meets Tryd.prog V 113 (spT [I64] [I64] lamp_kept) := meets_tot lamp_kept_l stays hmix (hs := {}) (fnOK Tryd.func113 (by kernel_rfl) (by kernel_rfl) (by kernel_rfl)) false fun x => (lamp_kept_d x).trans (lamp_kept_e x)
def lamp_goes_L : List (Nat × FSpec) := []
theorem lamp_goes_l : AllMeet Tryd.prog V lamp_goes_L := .nil
set_option maxRecDepth 100000 in
theorem lamp_goes_d : ∀ x : Int, denote (mkC Tryd.prog V lamp_goes_L) 1 (inlOf Tryd.f119 {}) [U8] [Bo] false x = lamp_goes_t x := fun x => by kernel_rfl
theorem lamp_goes_m : Meets Tryd.prog V 119 (spT [U8] [Bo] lamp_goes) := meets_tot lamp_goes_l stays hmix (hs := {}) (fnOK Tryd.func119 (by kernel_rfl) (by kernel_rfl) (by kernel_rfl)) false fun x => (lamp_goes_d x).trans (lamp_goes_e x)
def lamp_Follows_L : List (Nat × FSpec) := []
theorem lamp_Follows_l : AllMeet Tryd.prog V lamp_Follows_L := .nil
set_option maxRecDepth 100000 in
theorem lamp_Follows_d : ∀ x : Int × Int, denote (mkC Tryd.prog V lamp_Follows_L) 1 (inlOf Tryd.f120 {}) [U8, U8] [Bo] false x = lamp_Follows_t x := fun x => by kernel_rfl
theorem lamp_Follows_m : Meets Tryd.prog V 120 (spT [U8, U8] [Bo] lamp_Follows) := meets_tot lamp_Follows_l stays hmix (hs := {}) (fnOK Tryd.func120 (by kernel_rfl) (by kernel_rfl) (by kernel_rfl)) false fun x => (lamp_Follows_d x).trans (lamp_Follows_e x)
def lamp_May_L : List (Nat × FSpec) := [(113, (spT [I64] [I64] lamp_kept)), (119, (spT [U8] [Bo] lamp_goes)), (120, (spT [U8, U8] [Bo] lamp_Follows))]
theorem lamp_May_l : AllMeet Tryd.prog V lamp_May_L := (.cons lamp_kept_m (.cons lamp_goes_m (.cons lamp_Follows_m .nil)))
set_option maxRecDepth 100000 in
theorem lamp_May_d : ∀ x : PSGroup × PSSeen × Int, denote (mkC Tryd.prog V lamp_May_L) 1 (inlOf Tryd.f92 {}) [SGroup, SSeen, U8] [U8] false x = lamp_May_t x := fun x => by kernel_rfl
theorem lamp_May_m : Meets Tryd.prog V 92 (spT [SGroup, SSeen, U8] [U8] lamp_May) := meets_tot lamp_May_l stays hmix (hs := {}) (fnOK Tryd.func92 (by kernel_rfl) (by kernel_rfl) (by kernel_rfl)) false fun x => (lamp_May_d x).trans (lamp_May_e x)
def safe_close_L : List (Nat × FSpec) := [(108, (spP [SSite, I64, I64] [Bo] safe_apart_t)), (109, (spP [SSite, I64, I64] [I64] safe_between_t))]
theorem safe_close_l : AllMeet Tryd.prog V safe_close_L := (.cons safe_apart_m (.cons safe_between_m .nil))
set_option maxRecDepth 100000 in
theorem safe_close_d : ∀ x : PSSite × PSSafe × List Int, denote (mkC Tryd.prog V safe_close_L) 1 (inlOf Tryd.f93 { loops := [(0, [.slot 14 I64]), (2, [.slot 32 I64])] }) [SSite, SSafe, U8s] [Bo] false x = safe_close_t x := fun x => by kernel_rfl
theorem safe_close_m : Meets Tryd.prog V 93 (spP [SSite, SSafe, U8s] [Bo] safe_close_t) := meets_part safe_close_l stays hmix (hs := { loops := [(0, [.slot 14 I64]), (2, [.slot 32 I64])] }) (fnOK Tryd.func93 (by kernel_rfl) (by kernel_rfl) (by kernel_rfl)) false safe_close_d
def safe_fault_L : List (Nat × FSpec) := [(87, (spP [U8s] [Bo] safe_flash_t)), (89, (spP [U8s, U8] [Bo] slices_Contains___uint8_uint8__t)), (92, (spT [SGroup, SSeen, U8] [U8] lamp_May)), (88, (spP [SSite, U8s] [Bo] safe_meet_t)), (93, (spP [SSite, SSafe, U8s] [Bo] safe_close_t)), (91, (spT [U8] [Bo] safe_red))]
theorem safe_fault_l : AllMeet Tryd.prog V safe_fault_L := (.cons safe_flash_m (.cons slices_Contains___uint8_uint8__m (.cons lamp_May_m (.cons safe_meet_m (.cons safe_close_m (.cons safe_red_m .nil))))))
noncomputable def safe_fault_I : List (Nat × Inl) := [(78, inlOf Tryd.f78 {}), (112, inlOf Tryd.f112 { loops := [(0, [.slot 8 I64])] }), (90, inlOf Tryd.f90 {})]
theorem safe_fault_i : AllOK Tryd.prog safe_fault_I := (.cons (fnOK Tryd.func78 (by kernel_rfl) (by kernel_rfl) (by kernel_rfl)) (.cons (fnOK Tryd.func112 (by kernel_rfl) (by kernel_rfl) (by kernel_rfl)) (.cons (fnOK Tryd.func90 (by kernel_rfl) (by kernel_rfl) (by kernel_rfl)) .nil)))
set_option maxRecDepth 100000 in
theorem safe_fault_d : ∀ x : PSSite × PSSafe × List Int, denote (mkC Tryd.prog V safe_fault_L safe_fault_I) 4 (inlOf Tryd.f54 { loops := [(1, [.slot 38 I64])], joins := [(8, [])], outs := [(8, [(23, Bo)])] }) [SSite, SSafe, U8s] [U8] false x = safe_fault_t x := fun x => by kernel_rfl
theorem safe_fault_m : Meets Tryd.prog V 54 (spP [SSite, SSafe, U8s] [U8] safe_fault_t) := meets_part_il safe_fault_l stays hmix safe_fault_i (hs := { loops := [(1, [.slot 38 I64])], joins := [(8, [])], outs := [(8, [(23, Bo)])] }) (fnOK Tryd.func54 (by kernel_rfl) (by kernel_rfl) (by kernel_rfl)) false 4 safe_fault_d
theorem clone_Seen_m : Meets Tryd.prog V 55 (spP [Ty.slice SSeen] [Ty.slice SSeen] clone_Seen_t true) :=
  clone_meets (e := 23) (T := SSeen) stays hmix Tryd.func55 ⟨by kernel_rfl, rfl, by kernel_rfl, by kernel_rfl, by decide, ⟨0, 1, 2, _, _, _, _, rfl, ⟨rfl, rfl, rfl⟩, ⟨rfl, rfl, rfl⟩, ⟨rfl, ⟨_, rfl⟩, rfl⟩, ⟨rfl, rfl, rfl⟩⟩⟩ (fun l => by kernel_rfl) (fun y h => (Option.some.inj ((show clone_Seen_t [] = some [] by kernel_rfl).symm.trans h)).symm)
def lamp_more_L : List (Nat × FSpec) := [(113, (spT [I64] [I64] lamp_kept))]
theorem lamp_more_l : AllMeet Tryd.prog V lamp_more_L := (.cons lamp_kept_m .nil)
set_option maxRecDepth 100000 in
theorem lamp_more_d : ∀ x : Int, denote (mkC Tryd.prog V lamp_more_L) 1 (inlOf Tryd.f121 {}) [I64] [I64] false x = lamp_more_t x := fun x => by kernel_rfl
theorem lamp_more_m : Meets Tryd.prog V 121 (spT [I64] [I64] lamp_more) := meets_tot lamp_more_l stays hmix (hs := {}) (fnOK Tryd.func121 (by kernel_rfl) (by kernel_rfl) (by kernel_rfl)) false fun x => (lamp_more_d x).trans (lamp_more_e x)
def lamp_Next_L : List (Nat × FSpec) := [(121, (spT [I64] [I64] lamp_more))]
theorem lamp_Next_l : AllMeet Tryd.prog V lamp_Next_L := (.cons lamp_more_m .nil)
set_option maxRecDepth 100000 in
theorem lamp_Next_d : ∀ x : PSGroup × PSSeen × Int, denote (mkC Tryd.prog V lamp_Next_L) 1 (inlOf Tryd.f94 {}) [SGroup, SSeen, U8] [SSeen] false x = lamp_Next_t x := fun x => by kernel_rfl
theorem lamp_Next_m : Meets Tryd.prog V 94 (spT [SGroup, SSeen, U8] [SSeen] lamp_Next) := meets_tot lamp_Next_l stays hmix (hs := {}) (fnOK Tryd.func94 (by kernel_rfl) (by kernel_rfl) (by kernel_rfl)) false fun x => (lamp_Next_d x).trans (lamp_Next_e x)
def safe_behind_L : List (Nat × FSpec) := [(55, (spP [SSeens] [SSeens] clone_Seen_t true)), (87, (spP [U8s] [Bo] safe_flash_t)), (94, (spT [SGroup, SSeen, U8] [SSeen] lamp_Next)), (75, (spP [SSite] [I64] safe_greatest_t))]
theorem safe_behind_l : AllMeet Tryd.prog V safe_behind_L := (.cons clone_Seen_m (.cons safe_flash_m (.cons lamp_Next_m (.cons safe_greatest_m .nil))))
set_option maxRecDepth 100000 in
theorem safe_behind_d : ∀ x : PSSite × PSSafe × List Int, denote (mkC Tryd.prog V safe_behind_L) 1 (inlOf Tryd.f56 { loops := [(0, [.slot 23 I64, .arr 21 SSeen])] }) [SSite, SSafe, U8s] [SSafe] false x = safe_behind_t x := fun x => by kernel_rfl
theorem safe_behind_m : Meets Tryd.prog V 56 (spP [SSite, SSafe, U8s] [SSafe] safe_behind_t) := meets_part safe_behind_l stays hmix (hs := { loops := [(0, [.slot 23 I64, .arr 21 SSeen])] }) (fnOK Tryd.func56 (by kernel_rfl) (by kernel_rfl) (by kernel_rfl)) false safe_behind_d
def safe_Next_L : List (Nat × FSpec) := [(30, (spP [SSite] [I64] site_Check_t)), (53, (spP [SSite, SSafe] [Bo] safe_may_t)), (54, (spP [SSite, SSafe, U8s] [U8] safe_fault_t)), (55, (spP [SSeens] [SSeens] clone_Seen_t true)), (56, (spP [SSite, SSafe, U8s] [SSafe] safe_behind_t))]
theorem safe_Next_l : AllMeet Tryd.prog V safe_Next_L := (.cons site_Check_m (.cons safe_may_m (.cons safe_fault_m (.cons clone_Seen_m (.cons safe_behind_m .nil)))))
set_option maxRecDepth 100000 in
theorem safe_Next_d : ∀ x : PSSite × PSSafe × List Int, denote (mkC Tryd.prog V safe_Next_L) 1 (inlOf Tryd.f28 {}) [SSite, SSafe, U8s] [SSafe, U8, I64] false x = safe_Next_t x := fun x => by kernel_rfl
theorem safe_Next_m : Meets Tryd.prog V 28 (spP [SSite, SSafe, U8s] [SSafe, U8, I64] safe_Next_t) := meets_part safe_Next_l stays hmix (hs := {}) (fnOK Tryd.func28 (by kernel_rfl) (by kernel_rfl) (by kernel_rfl)) false safe_Next_d
def gate_goes_L : List (Nat × FSpec) := [(28, (spP [SSite, SSafe, U8s] [SSafe, U8, I64] safe_Next_t))]
theorem gate_goes_l : AllMeet Tryd.prog V gate_goes_L := (.cons safe_Next_m .nil)
noncomputable def gate_goes_I : List (Nat × Inl) := [(110, inlOf Tryd.f110 {}), (126, inlOf Tryd.f126 { loops := [(0, [.slot 8 I64])] }), (111, inlOf Tryd.f111 {})]
theorem gate_goes_i : AllOK Tryd.prog gate_goes_I := (.cons (fnOK Tryd.func110 (by kernel_rfl) (by kernel_rfl) (by kernel_rfl)) (.cons (fnOK Tryd.func126 (by kernel_rfl) (by kernel_rfl) (by kernel_rfl)) (.cons (fnOK Tryd.func111 (by kernel_rfl) (by kernel_rfl) (by kernel_rfl)) .nil)))
set_option maxRecDepth 100000 in
theorem gate_goes_d : ∀ x : PSSite × PSSafe, denote (mkC Tryd.prog V gate_goes_L gate_goes_I) 4 (inlOf Tryd.f77 { loops := [(0, [.slot 23 I64, .arr 20 U8])], joins := [(9, [.arr 20 U8])] }) [SSite, SSafe] [Bo] false x = gate_goes_t x := fun x => by kernel_rfl
theorem gate_goes_m : Meets Tryd.prog V 77 (spP [SSite, SSafe] [Bo] gate_goes_t) := meets_part_il gate_goes_l stays hmix gate_goes_i (hs := { loops := [(0, [.slot 23 I64, .arr 20 U8])], joins := [(9, [.arr 20 U8])] }) (fnOK Tryd.func77 (by kernel_rfl) (by kernel_rfl) (by kernel_rfl)) false 4 gate_goes_d
def gate_asked_L : List (Nat × FSpec) := [(30, (spP [SSite] [I64] site_Check_t)), (77, (spP [SSite, SSafe] [Bo] gate_goes_t))]
theorem gate_asked_l : AllMeet Tryd.prog V gate_asked_L := (.cons site_Check_m (.cons gate_goes_m .nil))
set_option maxRecDepth 100000 in
theorem gate_asked_d : ∀ x : PSSite × PSSafe, denote (mkC Tryd.prog V gate_asked_L) 1 (inlOf Tryd.f41 {}) [SSite, SSafe] [I64] false x = gate_asked_t x := fun x => by kernel_rfl
theorem gate_asked_m : Meets Tryd.prog V 41 (spP [SSite, SSafe] [I64] gate_asked_t) := meets_part gate_asked_l stays hmix (hs := {}) (fnOK Tryd.func41 (by kernel_rfl) (by kernel_rfl) (by kernel_rfl)) false gate_asked_d
theorem clone_U8_m : Meets Tryd.prog V 80 (spP [Ty.slice U8] [Ty.slice U8] clone_U8_t true) :=
  clone_meets (e := 5) (T := U8) stays hmix Tryd.func80 ⟨by kernel_rfl, rfl, by kernel_rfl, by kernel_rfl, by decide, ⟨0, 1, 2, _, _, _, _, rfl, ⟨rfl, rfl, rfl⟩, ⟨rfl, rfl, rfl⟩, ⟨rfl, ⟨_, rfl⟩, rfl⟩, ⟨rfl, rfl, rfl⟩⟩⟩ (fun l => by kernel_rfl) (fun y h => (Option.some.inj ((show clone_U8_t [] = some [] by kernel_rfl).symm.trans h)).symm)
def gate_all_L : List (Nat × FSpec) := []
theorem gate_all_l : AllMeet Tryd.prog V gate_all_L := .nil
set_option maxRecDepth 100000 in
theorem gate_all_d : ∀ x : Int × Int, denote (mkC Tryd.prog V gate_all_L) 1 (inlOf Tryd.f42 { loops := [(0, [.slot 11 I64, .arr 8 U8])] }) [I64, U8] [U8s] true x = gate_all_t x := fun x => by kernel_rfl
theorem gate_all_m : Meets Tryd.prog V 42 (spP [I64, U8] [U8s] gate_all_t true) := meets_part gate_all_l stays hmix (hs := { loops := [(0, [.slot 11 I64, .arr 8 U8])] }) (fnOK Tryd.func42 (by kernel_rfl) (by kernel_rfl) (by kernel_rfl)) true gate_all_d
def lamp_Want_L : List (Nat × FSpec) := [(113, (spT [I64] [I64] lamp_kept))]
theorem lamp_Want_l : AllMeet Tryd.prog V lamp_Want_L := (.cons lamp_kept_m .nil)
set_option maxRecDepth 100000 in
theorem lamp_Want_d : ∀ x : PSGroup × PSSeen × Int, denote (mkC Tryd.prog V lamp_Want_L) 1 (inlOf Tryd.f81 {}) [SGroup, SSeen, U8] [U8] false x = lamp_Want_t x := fun x => by kernel_rfl
theorem lamp_Want_m : Meets Tryd.prog V 81 (spT [SGroup, SSeen, U8] [U8] lamp_Want) := meets_tot lamp_Want_l stays hmix (hs := {}) (fnOK Tryd.func81 (by kernel_rfl) (by kernel_rfl) (by kernel_rfl)) false fun x => (lamp_Want_d x).trans (lamp_Want_e x)
def gate_admit_L : List (Nat × FSpec) := [(80, (spP [U8s] [U8s] clone_U8_t true)), (42, (spP [I64, U8] [U8s] gate_all_t true)), (81, (spT [SGroup, SSeen, U8] [U8] lamp_Want))]
theorem gate_admit_l : AllMeet Tryd.prog V gate_admit_L := (.cons clone_U8_m (.cons gate_all_m (.cons lamp_Want_m .nil)))
noncomputable def gate_admit_I : List (Nat × Inl) := [(78, inlOf Tryd.f78 {}), (112, inlOf Tryd.f112 { loops := [(0, [.slot 8 I64])] }), (79, inlOf Tryd.f79 {}), (82, inlOf Tryd.f82 { loops := [(0, [.slot 11 I64, .barr 3 U8])] })]
theorem gate_admit_i : AllOK Tryd.prog gate_admit_I := (.cons (fnOK Tryd.func78 (by kernel_rfl) (by kernel_rfl) (by kernel_rfl)) (.cons (fnOK Tryd.func112 (by kernel_rfl) (by kernel_rfl) (by kernel_rfl)) (.cons (fnOK Tryd.func79 (by kernel_rfl) (by kernel_rfl) (by kernel_rfl)) (.cons (fnOK Tryd.func82 (by kernel_rfl) (by kernel_rfl) (by kernel_rfl)) .nil))))
set_option maxRecDepth 100000 in
theorem gate_admit_d : ∀ x : PSSite × PSSafe × List Int, denote (mkC Tryd.prog V gate_admit_L gate_admit_I) 5 (inlOf Tryd.f43 { loops := [(1, [.slot 36 I64, .barr 8 U8]), (3, [.slot 63 I64, .barr 8 U8])], joins := [(2, [])], outs := [(2, [(7, Bo)])] }) [SSite, SSafe, U8s] [U8s] true x = gate_admit_t x := fun x => by kernel_rfl
theorem gate_admit_m : Meets Tryd.prog V 43 (spP [SSite, SSafe, U8s] [U8s] gate_admit_t true) := meets_part_il gate_admit_l stays hmix gate_admit_i (hs := { loops := [(1, [.slot 36 I64, .barr 8 U8]), (3, [.slot 63 I64, .barr 8 U8])], joins := [(2, [])], outs := [(2, [(7, Bo)])] }) (fnOK Tryd.func43 (by kernel_rfl) (by kernel_rfl) (by kernel_rfl)) true 5 gate_admit_d
def gate_Admit_L : List (Nat × FSpec) := [(41, (spP [SSite, SSafe] [I64] gate_asked_t)), (43, (spP [SSite, SSafe, U8s] [U8s] gate_admit_t true))]
theorem gate_Admit_l : AllMeet Tryd.prog V gate_Admit_L := (.cons gate_asked_m (.cons gate_admit_m .nil))
set_option maxRecDepth 100000 in
theorem gate_Admit_d : ∀ x : PSSite × PSSafe × List Int, denote (mkC Tryd.prog V gate_Admit_L) 1 (inlOf Tryd.f27 {}) [SSite, SSafe, U8s] [U8s, I64] true x = gate_Admit_t x := fun x => by kernel_rfl
theorem gate_Admit_m : Meets Tryd.prog V 27 (spP [SSite, SSafe, U8s] [U8s, I64] gate_Admit_t true) := meets_part gate_Admit_l stays hmix (hs := {}) (fnOK Tryd.func27 (by kernel_rfl) (by kernel_rfl) (by kernel_rfl)) true gate_Admit_d
def law16_step_L : List (Nat × FSpec) := [(10, (spP [SSite, SSeq, SSafe, U32, U32] [SSeq, U8s, I64] seq_Next_t)), (27, (spP [SSite, SSafe, U8s] [U8s, I64] gate_Admit_t true)), (28, (spP [SSite, SSafe, U8s] [SSafe, U8, I64] safe_Next_t))]
theorem law16_step_l : AllMeet Tryd.prog V law16_step_L := (.cons seq_Next_m (.cons gate_Admit_m (.cons safe_Next_m .nil)))
set_option maxRecDepth 100000 in
theorem law16_step_d : ∀ x : PSSite × PSSeq × PSSafe × Int × Int, denote (mkC Tryd.prog V law16_step_L) 1 (inlOf Tryd.f19 {}) [SSite, SSeq, SSafe, U32, U32] [SSeq, SSafe, Bo] false x = law16_step_t x := fun x => by kernel_rfl
theorem law16_step_m : Meets Tryd.prog V 19 (spP [SSite, SSeq, SSafe, U32, U32] [SSeq, SSafe, Bo] law16_step_t) := meets_part law16_step_l stays hmix (hs := {}) (fnOK Tryd.func19 (by kernel_rfl) (by kernel_rfl) (by kernel_rfl)) false law16_step_d
def law16_SeqKeeps_L : List (Nat × FSpec) := [(11, (spP [] [Bo] law16_alive_t)), (12, (spP [SSite] [Bo] ref05_Great_t)), (17, (spP [SSite] [SSafe, I64] safe_First_t)), (18, (spP [SSite, SSafe, I64] [Bo, I64] turn_Full_t)), (20, (spP [U32s, I64] [U32] law16_at_t)), (19, (spP [SSite, SSeq, SSafe, U32, U32] [SSeq, SSafe, Bo] law16_step_t))]
theorem law16_SeqKeeps_l : AllMeet Tryd.prog V law16_SeqKeeps_L := (.cons law16_alive_m (.cons ref05_Great_m (.cons safe_First_m (.cons turn_Full_m (.cons law16_at_m (.cons law16_step_m .nil))))))
set_option maxRecDepth 100000 in
theorem law16_SeqKeeps_d : ∀ x : PSSite × Int × List Int × List Int, denote (mkC Tryd.prog V law16_SeqKeeps_L) 1 (inlOf Tryd.f5 { loops := [(0, [.slot 13 I64, .slot 14 I64, .box 10 SSafe, .box 12 SSeq]), (2, [.slot 19 Bo, .slot 20 I64])] }) [SSite, I64, U32s, U32s] [Bo] false x = law16_SeqKeeps_t x := fun x => by kernel_rfl
theorem law16_SeqKeeps_m : Meets Tryd.prog V 5 (spP [SSite, I64, U32s, U32s] [Bo] law16_SeqKeeps_t) := meets_part law16_SeqKeeps_l stays hmix (hs := { loops := [(0, [.slot 13 I64, .slot 14 I64, .box 10 SSafe, .box 12 SSeq]), (2, [.slot 19 Bo, .slot 20 I64])] }) (fnOK Tryd.func5 (by kernel_rfl) (by kernel_rfl) (by kernel_rfl)) false law16_SeqKeeps_d
def gate_Open_L : List (Nat × FSpec) := [(41, (spP [SSite, SSafe] [I64] gate_asked_t)), (42, (spP [I64, U8] [U8s] gate_all_t true)), (43, (spP [SSite, SSafe, U8s] [U8s] gate_admit_t true))]
theorem gate_Open_l : AllMeet Tryd.prog V gate_Open_L := (.cons gate_asked_m (.cons gate_all_m (.cons gate_admit_m .nil)))
set_option maxRecDepth 100000 in
theorem gate_Open_d : ∀ x : PSSite × PSSafe × Int, denote (mkC Tryd.prog V gate_Open_L) 1 (inlOf Tryd.f21 {}) [SSite, SSafe, I64] [Bo, I64] false x = gate_Open_t x := fun x => by kernel_rfl
theorem gate_Open_m : Meets Tryd.prog V 21 (spP [SSite, SSafe, I64] [Bo, I64] gate_Open_t) := meets_part gate_Open_l stays hmix (hs := {}) (fnOK Tryd.func21 (by kernel_rfl) (by kernel_rfl) (by kernel_rfl)) false gate_Open_d
def law16_SeqServes_L : List (Nat × FSpec) := [(11, (spP [] [Bo] law16_alive_t)), (12, (spP [SSite] [Bo] ref05_Great_t)), (8, (spP [SSite] [I64, I64] seq_Bound_t)), (10, (spP [SSite, SSeq, SSafe, U32, U32] [SSeq, U8s, I64] seq_Next_t)), (21, (spP [SSite, SSafe, I64] [Bo, I64] gate_Open_t)), (18, (spP [SSite, SSafe, I64] [Bo, I64] turn_Full_t)), (20, (spP [U32s, I64] [U32] law16_at_t)), (19, (spP [SSite, SSeq, SSafe, U32, U32] [SSeq, SSafe, Bo] law16_step_t))]
theorem law16_SeqServes_l : AllMeet Tryd.prog V law16_SeqServes_L := (.cons law16_alive_m (.cons ref05_Great_m (.cons seq_Bound_m (.cons seq_Next_m (.cons gate_Open_m (.cons turn_Full_m (.cons law16_at_m (.cons law16_step_m .nil))))))))
set_option maxRecDepth 100000 in
theorem law16_SeqServes_d : ∀ x : PSSite × PSSeq × PSSafe × Int × List Int × List Int, denote (mkC Tryd.prog V law16_SeqServes_L) 1 (inlOf Tryd.f6 { loops := [(0, [.slot 21 I64, .box 7 SSeq, .box 8 SSafe])] }) [SSite, SSeq, SSafe, I64, U32s, U32s] [Bo] false x = law16_SeqServes_t x := fun x => by kernel_rfl
theorem law16_SeqServes_m : Meets Tryd.prog V 6 (spP [SSite, SSeq, SSafe, I64, U32s, U32s] [Bo] law16_SeqServes_t) := meets_part law16_SeqServes_l stays hmix (hs := { loops := [(0, [.slot 21 I64, .box 7 SSeq, .box 8 SSafe])] }) (fnOK Tryd.func6 (by kernel_rfl) (by kernel_rfl) (by kernel_rfl)) false law16_SeqServes_d
end Go.Proofs.YtlddjfgbepbmdaaDoor
