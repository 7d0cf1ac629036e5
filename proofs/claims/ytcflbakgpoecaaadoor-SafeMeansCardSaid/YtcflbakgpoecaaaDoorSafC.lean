/- Part of a proof: plain readings of Go functions, their contracts, or plain facts of them. -/
import Derived.Test.YtcflbakgpoecaaaDoorRows
import Derived.Test.YtcflbakgpoecaaaDoorSafP
import Derived.Lib.Walk
import Derived.Tactics
namespace Go.Proofs.YtcflbakgpoecaaaDoor
open Go.Den Go.RowKit Go.ChangeShapes

theorem hmix : Tryd.prog.follows .mixedOrders = true := by kernel_rfl
theorem laidOut : laidOutB Tryd.prog = true := by kernel_rfl
theorem own : ownKnob Tryd.prog.godebug = none := by kernel_rfl
def V : World → Prop := fun w => ∃ cs t, w.heap[0]? = some (.cells cs t (0, 0)) ∧ cs.toList = Lib.deBruijn32tab.map fun (n : Nat) => Value.int .u8 (n : Int)
theorem stays : Stays V := fun w w' hb ⟨cs, t, h1, h2⟩ => ⟨cs, t, by rw [hb.block 0 ((Array.getElem?_eq_some_iff.1 h1).1)]; exact h1, h2⟩
def ref05_Great_L : List (Nat × FSpec) := []
theorem ref05_Great_l : AllMeet Tryd.prog V ref05_Great_L := .nil
set_option maxRecDepth 100000 in
theorem ref05_Great_d : ∀ x : PSSite, denote (mkC Tryd.prog V ref05_Great_L) 1 (inlOf Tryd.f13 { loops := [(0, [.slot 3 I64]), (2, [.slot 4 I64])] }) [SSite] [Bo] false x = ref05_Great_t x := fun x => by kernel_rfl
theorem ref05_Great_m : Meets Tryd.prog V 13 (spP [SSite] [Bo] ref05_Great_t) := meets_part ref05_Great_l stays hmix (hs := { loops := [(0, [.slot 3 I64]), (2, [.slot 4 I64])] }) (fnOK Tryd.func13 (by kernel_rfl) (by kernel_rfl) (by kernel_rfl)) false ref05_Great_d
def site_in_L : List (Nat × FSpec) := []
theorem site_in_l : AllMeet Tryd.prog V site_in_L := .nil
set_option maxRecDepth 100000 in
theorem site_in_d : ∀ x : Int × Int × Int, denote (mkC Tryd.prog V site_in_L) 1 (inlOf Tryd.f41 {}) [I64, I64, I64] [Bo] false x = site_in_t x := fun x => by kernel_rfl
theorem site_in_m : Meets Tryd.prog V 41 (spT [I64, I64, I64] [Bo] site_in) := meets_tot site_in_l stays hmix (hs := {}) (fnOK Tryd.func41 (by kernel_rfl) (by kernel_rfl) (by kernel_rfl)) false fun x => (site_in_d x).trans (site_in_e x)
def site_shape_L : List (Nat × FSpec) := [(41, (spT [I64, I64, I64] [Bo] site_in))]
theorem site_shape_l : AllMeet Tryd.prog V site_shape_L := (.cons site_in_m .nil)
set_option maxRecDepth 100000 in
theorem site_shape_d : ∀ x : PSSite, denote (mkC Tryd.prog V site_shape_L) 1 (inlOf Tryd.f42 { loops := [(0, [.slot 48 I64])] }) [SSite] [Bo] false x = site_shape_t x := fun x => by kernel_rfl
theorem site_shape_m : Meets Tryd.prog V 42 (spP [SSite] [Bo] site_shape_t) := meets_part site_shape_l stays hmix (hs := { loops := [(0, [.slot 48 I64])] }) (fnOK Tryd.func42 (by kernel_rfl) (by kernel_rfl) (by kernel_rfl)) false site_shape_d
def site_ticks_L : List (Nat × FSpec) := [(41, (spT [I64, I64, I64] [Bo] site_in))]
theorem site_ticks_l : AllMeet Tryd.prog V site_ticks_L := (.cons site_in_m .nil)
set_option maxRecDepth 100000 in
theorem site_ticks_d : ∀ x : List Int, denote (mkC Tryd.prog V site_ticks_L) 1 (inlOf Tryd.f72 { loops := [(0, [.slot 7 I64])] }) [I64s] [Bo] false x = site_ticks_t x := fun x => by kernel_rfl
theorem site_ticks_m : Meets Tryd.prog V 72 (spT [I64s] [Bo] site_ticks) := meets_up (meets_part site_ticks_l stays hmix (hs := { loops := [(0, [.slot 7 I64])] }) (fnOK Tryd.func72 (by kernel_rfl) (by kernel_rfl) (by kernel_rfl)) false site_ticks_d) site_ticks_e
def ring_bit_L : List (Nat × FSpec) := []
theorem ring_bit_l : AllMeet Tryd.prog V ring_bit_L := .nil
set_option maxRecDepth 100000 in
theorem ring_bit_d : ∀ x : Int, denote (mkC Tryd.prog V ring_bit_L) 1 (inlOf Tryd.f108 {}) [I64] [U32] false x = ring_bit_t x := fun x => by kernel_rfl
theorem ring_bit_m : Meets Tryd.prog V 108 (spT [I64] [U32] ring_bit) := meets_up (meets_part ring_bit_l stays hmix (hs := {}) (fnOK Tryd.func108 (by kernel_rfl) (by kernel_rfl) (by kernel_rfl)) false ring_bit_d) ring_bit_e
def ring_Has_L : List (Nat × FSpec) := [(108, (spT [I64] [U32] ring_bit))]
theorem ring_Has_l : AllMeet Tryd.prog V ring_Has_L := (.cons ring_bit_m .nil)
set_option maxRecDepth 100000 in
theorem ring_Has_d : ∀ x : Int × Int, denote (mkC Tryd.prog V ring_Has_L) 1 (inlOf Tryd.f73 {}) [U32, I64] [Bo] false x = ring_Has_t x := fun x => by kernel_rfl
theorem ring_Has_m : Meets Tryd.prog V 73 (spT [U32, I64] [Bo] ring_Has) := meets_tot ring_Has_l stays hmix (hs := {}) (fnOK Tryd.func73 (by kernel_rfl) (by kernel_rfl) (by kernel_rfl)) false fun x => (ring_Has_d x).trans (ring_Has_e x)
def site_apart_L : List (Nat × FSpec) := [(72, (spT [I64s] [Bo] site_ticks)), (73, (spT [U32, I64] [Bo] ring_Has)), (41, (spT [I64, I64, I64] [Bo] site_in))]
theorem site_apart_l : AllMeet Tryd.prog V site_apart_L := (.cons site_ticks_m (.cons ring_Has_m (.cons site_in_m .nil)))
set_option maxRecDepth 100000 in
theorem site_apart_d : ∀ x : PSSite, denote (mkC Tryd.prog V site_apart_L) 1 (inlOf Tryd.f43 { loops := [(0, [.slot 11 I64]), (2, [.slot 39 I64])] }) [SSite] [Bo] false x = site_apart_t x := fun x => by kernel_rfl
theorem site_apart_m : Meets Tryd.prog V 43 (spP [SSite] [Bo] site_apart_t) := meets_part site_apart_l stays hmix (hs := { loops := [(0, [.slot 11 I64]), (2, [.slot 39 I64])] }) (fnOK Tryd.func43 (by kernel_rfl) (by kernel_rfl) (by kernel_rfl)) false site_apart_d
theorem V.cell {w : World} (h : V w) (i : Nat) (hi : i < 32) : w.cell? ⟨0, i, none⟩ = some (.int .u8 (Lib.deBruijn32tab.getD i 0 : Nat)) := by
  obtain ⟨cs, t, h1, h2⟩ := h
  unfold World.cell?
  rw [h1]
  have : cs[i]? = some (Value.int .u8 (Lib.deBruijn32tab.getD i 0 : Nat)) := by
    rw [← Array.getElem?_toList, h2, List.getElem?_map, List.getD_eq_getElem?_getD]
    have hl : i < Lib.deBruijn32tab.length := hi
    rw [List.getElem?_eq_getElem hl]; rfl
  simpa using this
theorem tz_arith {x : Int} (hx : U32ok x) (h0 : x ≠ 0) : bits .and .u32 x (-x % 4294967296) * 125613361 % 4294967296 / 134217728 = ((2 ^ (Lib.ctz 32 x.toNat) * 125613361 % 4294967296 / 134217728 : Nat) : Int) ∧ Lib.ctz 32 x.toNat < 32 := by
  have hn : x.toNat ≠ 0 := by have := hx.1; omega
  obtain ⟨h1, h2⟩ := Lib.lowest_bit 32 x.toNat hn (natlt hx)
  refine ⟨?_, h2⟩
  have e : -x % 4294967296 = 4294967296 - x := by have := hx.1; have := hx.2; omega
  have hy : U32ok (4294967296 - x) := ⟨by have := hx.2; omega, by have := hx.1; omega⟩
  have hb : bits .and .u32 x (-x % 4294967296) = ((2 ^ Lib.ctz 32 x.toNat : Nat) : Int) := by
    rw [e]
    have hk : bits .and .u32 x (4294967296 - x) = bitop .and .u32 x (4294967296 - x) := rfl
    rw [hk, and_u32 hx hy, ← h1]
    congr 2
    have := hx.1; have := hx.2
    have : (2 : Nat) ^ 32 = 4294967296 := by decide
    omega
  rw [hb]
  simp
theorem inR_u32 {x : Int} (h : inR .u32 x = true) : U32ok x := by
  simpa [inR, IntKind.min, IntKind.max, IntKind.signed, IntKind.bits, U32ok] using h
theorem inR_i64 {y : Int} (h0 : 0 ≤ y) (h1 : y ≤ 1000000) : inR .i64 y = true := by
  simp only [inR, IntKind.min, IntKind.max, IntKind.signed, IntKind.bits, Bool.and_eq_true, decide_eq_true_eq]
  simp
  omega
theorem tz_bound {x : Int} (hx : U32ok x) : 0 ≤ bits_TrailingZeros32 x ∧ bits_TrailingZeros32 x ≤ 32 := by
  unfold bits_TrailingZeros32
  by_cases hz : x = 0
  · simp [low, hz]
  · have := low_spec hx hz; omega
theorem tz_walk (x : Int) (w : World) (hx : U32ok x) (hv : V w) :
    Calls Tryd.prog 109 #[.int .u32 x] w fun e w' => e = .returned (.int .i64 (bits_TrailingZeros32 x)) ∧ w' = w := by
  have hc := hv.cell
  have h0 := hx.1
  have h1 := hx.2
  by_cases hz : x = 0
  · subst hz
    go_enter Tryd.func109, Tryd.ntmps109
    go_wp2
    all_goals first | (go_ret; exact ⟨rfl, rfl⟩) | (rename_i h; exact absurd h (by decide))
  · go_enter Tryd.func109, Tryd.ntmps109
    go_wp2
    · rename_i h
      exact absurd (by simpa using h) hz
    · go_ret
      refine ⟨?_, rfl⟩
      obtain ⟨h2, h3⟩ := tz_arith hx hz
      obtain ⟨h4, h5⟩ := Lib.deBruijn32_at _ h3
      have e : ((Lib.deBruijn32tab[(bits BinOp.and IntKind.u32 x (-x % 4294967296) * 125613361 % 4294967296 / 134217728).toNat]?.getD 0 : Nat) : Int) = Lib.ctz 32 x.toNat := by
        rw [h2, Int.toNat_natCast, ← List.getD_eq_getElem?_getD, h5]
      have hn : x.toNat ≠ 0 := by omega
      have hl : bits_TrailingZeros32 x = Lib.ctz 32 x.toNat := by simp [bits_TrailingZeros32, low, hz]
      rw [hl, e]
      have e3 : ((Lib.ctz 32 x.toNat : Int) + 9223372036854775808) % 18446744073709551616 - 9223372036854775808 = Lib.ctz 32 x.toNat := by omega
      rw [e3]
      rfl
theorem bits_TrailingZeros32_m : Meets Tryd.prog V 109 (spT [U32] [I64] bits_TrailingZeros32) where
  enters := fun args w => by
    have h : FnOK Tryd.prog 109 (inlOf Tryd.f109 {}) := fnOK Tryd.func109 (by kernel_rfl) (by kernel_rfl) (by kernel_rfl)
    exact h.enters args w
  tot := fun g hg x => by cases hg; rfl
  calls := fun w F vals x y hv hF hr hy => by
    have hy' : some (bits_TrailingZeros32 x) = some y := hy
    cases hy'
    obtain ⟨us, h1, h2⟩ := hr
    have h1' : us = [.int .u32 x] ∧ inR .u32 x = true := h1
    obtain ⟨rfl, hin⟩ := h1'
    have hx : U32ok x := inR_u32 hin
    have : vals = [.int .u32 x] := h2
    subst this
    have hb : inR .i64 (bits_TrailingZeros32 x) = true := inR_i64 (tz_bound hx).1 (by have := (tz_bound hx).2; omega)
    refine (tz_walk x w hx hv).mono fun e w' ⟨he, hw⟩ => ?_
    subst hw
    exact ⟨[.int .i64 (bits_TrailingZeros32 x)], by rw [he]; rfl, Below.refl _ _, ⟨_, ⟨rfl, hb⟩, rfl⟩⟩

def ring_Least_L : List (Nat × FSpec) := [(109, (spT [U32] [I64] bits_TrailingZeros32))]
theorem ring_Least_l : AllMeet Tryd.prog V ring_Least_L := (.cons bits_TrailingZeros32_m .nil)
set_option maxRecDepth 100000 in
theorem ring_Least_d : ∀ x : Int, denote (mkC Tryd.prog V ring_Least_L) 1 (inlOf Tryd.f74 {}) [U32] [I64] false x = ring_Least_t x := fun x => by kernel_rfl
theorem ring_Least_m : Meets Tryd.prog V 74 (spT [U32] [I64] ring_Least) := meets_tot ring_Least_l stays hmix (hs := {}) (fnOK Tryd.func74 (by kernel_rfl) (by kernel_rfl) (by kernel_rfl)) false fun x => (ring_Least_d x).trans (ring_Least_e x)
def ring_Without_L : List (Nat × FSpec) := [(108, (spT [I64] [U32] ring_bit))]
theorem ring_Without_l : AllMeet Tryd.prog V ring_Without_L := (.cons ring_bit_m .nil)
set_option maxRecDepth 100000 in
theorem ring_Without_d : ∀ x : Int × Int, denote (mkC Tryd.prog V ring_Without_L) 1 (inlOf Tryd.f75 {}) [U32, I64] [U32] false x = ring_Without_t x := fun x => by kernel_rfl
theorem ring_Without_m : Meets Tryd.prog V 75 (spT [U32, I64] [U32] ring_Without) := meets_tot ring_Without_l stays hmix (hs := {}) (fnOK Tryd.func75 (by kernel_rfl) (by kernel_rfl) (by kernel_rfl)) false fun x => (ring_Without_d x).trans (ring_Without_e x)
theorem bits_OnesCount32_d : ∀ x : Int, denote (mkC Tryd.prog V []) 1 (inlOf Tryd.f110 {}) [U32] [I64] false x = ocTree x := fun x => by kernel_rfl
theorem bits_OnesCount32_m : Meets Tryd.prog V 110 (spT [U32] [I64] bits_OnesCount32) := meets_up (meets_part .nil stays hmix (hs := {}) (fnOK Tryd.func110 (by kernel_rfl) (by kernel_rfl) (by kernel_rfl)) false bits_OnesCount32_d) (fun x hf => ocTree_eq (fits_u32 hf))

def ring_Count_L : List (Nat × FSpec) := [(110, (spT [U32] [I64] bits_OnesCount32))]
theorem ring_Count_l : AllMeet Tryd.prog V ring_Count_L := (.cons bits_OnesCount32_m .nil)
set_option maxRecDepth 100000 in
theorem ring_Count_d : ∀ x : Int, denote (mkC Tryd.prog V ring_Count_L) 1 (inlOf Tryd.f76 {}) [U32] [I64] false x = ring_Count_t x := fun x => by kernel_rfl
theorem ring_Count_m : Meets Tryd.prog V 76 (spT [U32] [I64] ring_Count) := meets_tot ring_Count_l stays hmix (hs := {}) (fnOK Tryd.func76 (by kernel_rfl) (by kernel_rfl) (by kernel_rfl)) false fun x => (ring_Count_d x).trans (ring_Count_e x)
def site_phased_L : List (Nat × FSpec) := [(72, (spT [I64s] [Bo] site_ticks)), (74, (spT [U32] [I64] ring_Least)), (75, (spT [U32, I64] [U32] ring_Without)), (76, (spT [U32] [I64] ring_Count))]
theorem site_phased_l : AllMeet Tryd.prog V site_phased_L := (.cons site_ticks_m (.cons ring_Least_m (.cons ring_Without_m (.cons ring_Count_m .nil))))
set_option maxRecDepth 100000 in
theorem site_phased_d : ∀ x : PSSite, denote (mkC Tryd.prog V site_phased_L) 1 (inlOf Tryd.f44 { loops := [(0, [.slot 3 U32, .slot 11 I64]), (2, [.slot 6 U32])] }) [SSite] [Bo] false x = site_phased_t x := fun x => by kernel_rfl
theorem site_phased_m : Meets Tryd.prog V 44 (spP [SSite] [Bo] site_phased_t) := meets_part site_phased_l stays hmix (hs := { loops := [(0, [.slot 3 U32, .slot 11 I64]), (2, [.slot 6 U32])] }) (fnOK Tryd.func44 (by kernel_rfl) (by kernel_rfl) (by kernel_rfl)) false site_phased_d
def site_eyed_L : List (Nat × FSpec) := [(41, (spT [I64, I64, I64] [Bo] site_in)), (72, (spT [I64s] [Bo] site_ticks))]
theorem site_eyed_l : AllMeet Tryd.prog V site_eyed_L := (.cons site_in_m (.cons site_ticks_m .nil))
set_option maxRecDepth 100000 in
theorem site_eyed_d : ∀ x : PSSite, denote (mkC Tryd.prog V site_eyed_L) 1 (inlOf Tryd.f45 { loops := [(0, [.slot 8 I64])] }) [SSite] [Bo] false x = site_eyed_t x := fun x => by kernel_rfl
theorem site_eyed_m : Meets Tryd.prog V 45 (spP [SSite] [Bo] site_eyed_t) := meets_part site_eyed_l stays hmix (hs := { loops := [(0, [.slot 8 I64])] }) (fnOK Tryd.func45 (by kernel_rfl) (by kernel_rfl) (by kernel_rfl)) false site_eyed_d
def site_clear_L : List (Nat × FSpec) := [(73, (spT [U32, I64] [Bo] ring_Has)), (74, (spT [U32] [I64] ring_Least)), (75, (spT [U32, I64] [U32] ring_Without))]
theorem site_clear_l : AllMeet Tryd.prog V site_clear_L := (.cons ring_Has_m (.cons ring_Least_m (.cons ring_Without_m .nil)))
set_option maxRecDepth 100000 in
theorem site_clear_d : ∀ x : PSSite × Int × Int, denote (mkC Tryd.prog V site_clear_L) 1 (inlOf Tryd.f107 { loops := [(0, [.slot 6 I64, .slot 13 I64]), (2, [.slot 6 I64, .slot 8 U32])] }) [SSite, I64, I64] [I64] false x = site_clear_t x := fun x => by kernel_rfl
theorem site_clear_m : Meets Tryd.prog V 107 (spP [SSite, I64, I64] [I64] site_clear_t) := meets_part site_clear_l stays hmix (hs := { loops := [(0, [.slot 6 I64, .slot 13 I64]), (2, [.slot 6 I64, .slot 8 U32])] }) (fnOK Tryd.func107 (by kernel_rfl) (by kernel_rfl) (by kernel_rfl)) false site_clear_d
def site_needs_L : List (Nat × FSpec) := [(107, (spP [SSite, I64, I64] [I64] site_clear_t))]
theorem site_needs_l : AllMeet Tryd.prog V site_needs_L := (.cons site_clear_m .nil)
set_option maxRecDepth 100000 in
theorem site_needs_d : ∀ x : PSSite × Int, denote (mkC Tryd.prog V site_needs_L) 1 (inlOf Tryd.f77 {}) [SSite, I64] [I64] false x = site_needs_t x := fun x => by kernel_rfl
theorem site_needs_m : Meets Tryd.prog V 77 (spP [SSite, I64] [I64] site_needs_t) := meets_part site_needs_l stays hmix (hs := {}) (fnOK Tryd.func77 (by kernel_rfl) (by kernel_rfl) (by kernel_rfl)) false site_needs_d
def site_timed_L : List (Nat × FSpec) := [(77, (spP [SSite, I64] [I64] site_needs_t)), (72, (spT [I64s] [Bo] site_ticks))]
theorem site_timed_l : AllMeet Tryd.prog V site_timed_L := (.cons site_needs_m (.cons site_ticks_m .nil))
set_option maxRecDepth 100000 in
theorem site_timed_d : ∀ x : PSSite, denote (mkC Tryd.prog V site_timed_L) 1 (inlOf Tryd.f46 { loops := [(0, [.slot 3 I64, .slot 8 I64])] }) [SSite] [Bo] false x = site_timed_t x := fun x => by kernel_rfl
theorem site_timed_m : Meets Tryd.prog V 46 (spP [SSite] [Bo] site_timed_t) := meets_part site_timed_l stays hmix (hs := { loops := [(0, [.slot 3 I64, .slot 8 I64])] }) (fnOK Tryd.func46 (by kernel_rfl) (by kernel_rfl) (by kernel_rfl)) false site_timed_d
def site_fits_L : List (Nat × FSpec) := [(41, (spT [I64, I64, I64] [Bo] site_in)), (77, (spP [SSite, I64] [I64] site_needs_t))]
theorem site_fits_l : AllMeet Tryd.prog V site_fits_L := (.cons site_in_m (.cons site_needs_m .nil))
set_option maxRecDepth 100000 in
theorem site_fits_d : ∀ x : PSSite × PSPlan, denote (mkC Tryd.prog V site_fits_L) 1 (inlOf Tryd.f48 { loops := [(0, [.slot 5 I64, .slot 39 I64])] }) [SSite, SPlan] [Bo] false x = site_fits_t x := fun x => by kernel_rfl
theorem site_fits_m : Meets Tryd.prog V 48 (spP [SSite, SPlan] [Bo] site_fits_t) := meets_part site_fits_l stays hmix (hs := { loops := [(0, [.slot 5 I64, .slot 39 I64])] }) (fnOK Tryd.func48 (by kernel_rfl) (by kernel_rfl) (by kernel_rfl)) false site_fits_d
def site_planned_L : List (Nat × FSpec) := [(48, (spP [SSite, SPlan] [Bo] site_fits_t))]
theorem site_planned_l : AllMeet Tryd.prog V site_planned_L := (.cons site_fits_m .nil)
set_option maxRecDepth 100000 in
theorem site_planned_d : ∀ x : PSSite, denote (mkC Tryd.prog V site_planned_L) 1 (inlOf Tryd.f47 { loops := [(0, [.slot 8 I64])] }) [SSite] [Bo] false x = site_planned_t x := fun x => by kernel_rfl
theorem site_planned_m : Meets Tryd.prog V 47 (spP [SSite] [Bo] site_planned_t) := meets_part site_planned_l stays hmix (hs := { loops := [(0, [.slot 8 I64])] }) (fnOK Tryd.func47 (by kernel_rfl) (by kernel_rfl) (by kernel_rfl)) false site_planned_d
def site_Check_L : List (Nat × FSpec) := [(41, (spT [I64, I64, I64] [Bo] site_in)), (42, (spP [SSite] [Bo] site_shape_t)), (43, (spP [SSite] [Bo] site_apart_t)), (44, (spP [SSite] [Bo] site_phased_t)), (45, (spP [SSite] [Bo] site_eyed_t)), (46, (spP [SSite] [Bo] site_timed_t)), (47, (spP [SSite] [Bo] site_planned_t))]
theorem site_Check_l : AllMeet Tryd.prog V site_Check_L := (.cons site_in_m (.cons site_shape_m (.cons site_apart_m (.cons site_phased_m (.cons site_eyed_m (.cons site_timed_m (.cons site_planned_m .nil)))))))
set_option maxRecDepth 100000 in
theorem site_Check_d : ∀ x : PSSite, denote (mkC Tryd.prog V site_Check_L) 1 (inlOf Tryd.f16 { loops := [(0, [.slot 3 Bo, .slot 5 I64])] }) [SSite] [I64] false x = site_Check_t x := fun x => by kernel_rfl
theorem site_Check_m : Meets Tryd.prog V 16 (spP [SSite] [I64] site_Check_t) := meets_part site_Check_l stays hmix (hs := { loops := [(0, [.slot 3 Bo, .slot 5 I64])] }) (fnOK Tryd.func16 (by kernel_rfl) (by kernel_rfl) (by kernel_rfl)) false site_Check_d
def safe_apart_L : List (Nat × FSpec) := []
theorem safe_apart_l : AllMeet Tryd.prog V safe_apart_L := .nil
set_option maxRecDepth 100000 in
theorem safe_apart_d : ∀ x : PSSite × Int × Int, denote (mkC Tryd.prog V safe_apart_L) 1 (inlOf Tryd.f101 {}) [SSite, I64, I64] [Bo] false x = safe_apart_t x := fun x => by kernel_rfl
theorem safe_apart_m : Meets Tryd.prog V 101 (spP [SSite, I64, I64] [Bo] safe_apart_t) := meets_part safe_apart_l stays hmix (hs := {}) (fnOK Tryd.func101 (by kernel_rfl) (by kernel_rfl) (by kernel_rfl)) false safe_apart_d
def safe_between_L : List (Nat × FSpec) := []
theorem safe_between_l : AllMeet Tryd.prog V safe_between_L := .nil
set_option maxRecDepth 100000 in
theorem safe_between_d : ∀ x : PSSite × Int × Int, denote (mkC Tryd.prog V safe_between_L) 1 (inlOf Tryd.f102 {}) [SSite, I64, I64] [I64] false x = safe_between_t x := fun x => by kernel_rfl
theorem safe_between_m : Meets Tryd.prog V 102 (spP [SSite, I64, I64] [I64] safe_between_t) := meets_part safe_between_l stays hmix (hs := {}) (fnOK Tryd.func102 (by kernel_rfl) (by kernel_rfl) (by kernel_rfl)) false safe_between_d
def safe_greatest_L : List (Nat × FSpec) := [(101, (spP [SSite, I64, I64] [Bo] safe_apart_t)), (102, (spP [SSite, I64, I64] [I64] safe_between_t))]
theorem safe_greatest_l : AllMeet Tryd.prog V safe_greatest_L := (.cons safe_apart_m (.cons safe_between_m .nil))
set_option maxRecDepth 100000 in
theorem safe_greatest_d : ∀ x : PSSite, denote (mkC Tryd.prog V safe_greatest_L) 1 (inlOf Tryd.f66 { loops := [(0, [.slot 3 I64, .slot 9 I64]), (2, [.slot 3 I64, .slot 15 I64])] }) [SSite] [I64] false x = safe_greatest_t x := fun x => by kernel_rfl
theorem safe_greatest_m : Meets Tryd.prog V 66 (spP [SSite] [I64] safe_greatest_t) := meets_part safe_greatest_l stays hmix (hs := { loops := [(0, [.slot 3 I64, .slot 9 I64]), (2, [.slot 3 I64, .slot 15 I64])] }) (fnOK Tryd.func66 (by kernel_rfl) (by kernel_rfl) (by kernel_rfl)) false safe_greatest_d
def safe_first_L : List (Nat × FSpec) := [(66, (spP [SSite] [I64] safe_greatest_t))]
theorem safe_first_l : AllMeet Tryd.prog V safe_first_L := (.cons safe_greatest_m .nil)
set_option maxRecDepth 100000 in
theorem safe_first_d : ∀ x : PSSite, denote (mkC Tryd.prog V safe_first_L) 1 (inlOf Tryd.f57 { loops := [(0, [.slot 10 I64, .fown 3 .unit SSeen (.pair I64 Bo)])] }) [SSite] [SSafe] false x = safe_first_t x := fun x => by kernel_rfl
theorem safe_first_m : Meets Tryd.prog V 57 (spP [SSite] [SSafe] safe_first_t) := meets_part safe_first_l stays hmix (hs := { loops := [(0, [.slot 10 I64, .fown 3 .unit SSeen (.pair I64 Bo)])] }) (fnOK Tryd.func57 (by kernel_rfl) (by kernel_rfl) (by kernel_rfl)) false safe_first_d
def safe_flash_L : List (Nat × FSpec) := []
theorem safe_flash_l : AllMeet Tryd.prog V safe_flash_L := .nil
noncomputable def safe_flash_I : List (Nat × Inl) := [(89, inlOf Tryd.f89 {}), (118, inlOf Tryd.f118 { loops := [(0, [.slot 8 I64])] }), (116, inlOf Tryd.f116 {})]
theorem safe_flash_i : AllOK Tryd.prog safe_flash_I := (.cons (fnOK Tryd.func89 (by kernel_rfl) (by kernel_rfl) (by kernel_rfl)) (.cons (fnOK Tryd.func118 (by kernel_rfl) (by kernel_rfl) (by kernel_rfl)) (.cons (fnOK Tryd.func116 (by kernel_rfl) (by kernel_rfl) (by kernel_rfl)) .nil)))
set_option maxRecDepth 100000 in
theorem safe_flash_d : ∀ x : List Int, denote (mkC Tryd.prog V safe_flash_L safe_flash_I) 4 (inlOf Tryd.f87 {}) [U8s] [Bo] false x = safe_flash_t x := fun x => by kernel_rfl
theorem safe_flash_m : Meets Tryd.prog V 87 (spP [U8s] [Bo] safe_flash_t) := meets_part_il safe_flash_l stays hmix safe_flash_i (hs := {}) (fnOK Tryd.func87 (by kernel_rfl) (by kernel_rfl) (by kernel_rfl)) false 4 safe_flash_d
def slices_Index___uint8_uint8__L : List (Nat × FSpec) := []
theorem slices_Index___uint8_uint8__l : AllMeet Tryd.prog V slices_Index___uint8_uint8__L := .nil
set_option maxRecDepth 100000 in
theorem slices_Index___uint8_uint8__d : ∀ x : List Int × Int, denote (mkC Tryd.prog V slices_Index___uint8_uint8__L) 1 (inlOf Tryd.f117 { loops := [(0, [.slot 8 I64])] }) [U8s, U8] [I64] false x = slices_Index___uint8_uint8__t x := fun x => by kernel_rfl
theorem slices_Index___uint8_uint8__m : Meets Tryd.prog V 117 (spP [U8s, U8] [I64] slices_Index___uint8_uint8__t) := meets_part slices_Index___uint8_uint8__l stays hmix (hs := { loops := [(0, [.slot 8 I64])] }) (fnOK Tryd.func117 (by kernel_rfl) (by kernel_rfl) (by kernel_rfl)) false slices_Index___uint8_uint8__d
def slices_Contains___uint8_uint8__L : List (Nat × FSpec) := [(117, (spP [U8s, U8] [I64] slices_Index___uint8_uint8__t))]
theorem slices_Contains___uint8_uint8__l : AllMeet Tryd.prog V slices_Contains___uint8_uint8__L := (.cons slices_Index___uint8_uint8__m .nil)
set_option maxRecDepth 100000 in
theorem slices_Contains___uint8_uint8__d : ∀ x : List Int × Int, denote (mkC Tryd.prog V slices_Contains___uint8_uint8__L) 1 (inlOf Tryd.f88 {}) [U8s, U8] [Bo] false x = slices_Contains___uint8_uint8__t x := fun x => by kernel_rfl
theorem slices_Contains___uint8_uint8__m : Meets Tryd.prog V 88 (spP [U8s, U8] [Bo] slices_Contains___uint8_uint8__t) := meets_part slices_Contains___uint8_uint8__l stays hmix (hs := {}) (fnOK Tryd.func88 (by kernel_rfl) (by kernel_rfl) (by kernel_rfl)) false slices_Contains___uint8_uint8__d
def lamp_kept_L : List (Nat × FSpec) := []
theorem lamp_kept_l : AllMeet Tryd.prog V lamp_kept_L := .nil
set_option maxRecDepth 100000 in
theorem lamp_kept_d : ∀ x : Int, denote (mkC Tryd.prog V lamp_kept_L) 1 (inlOf Tryd.f119 {}) [I64] [I64] false x = lamp_kept_t x := fun x => by kernel_rfl
theorem lamp_kept_m : Meets Tryd.prog V 119 (spT [I64] [I64] lamp_kept) := meets_tot lamp_kept_l stays hmix (hs := {}) (fnOK Tryd.func119 (by kernel_rfl) (by kernel_rfl) (by kernel_rfl)) false fun x => (lamp_kept_d x).trans (lamp_kept_e x)
def lamp_goes_L : List (Nat × FSpec) := []
theorem lamp_goes_l : AllMeet Tryd.prog V lamp_goes_L := .nil
set_option maxRecDepth 100000 in
theorem lamp_goes_d : ∀ x : Int, denote (mkC Tryd.prog V lamp_goes_L) 1 (inlOf Tryd.f120 {}) [U8] [Bo] false x = lamp_goes_t x := fun x => by kernel_rfl
theorem lamp_goes_m : Meets Tryd.prog V 120 (spT [U8] [Bo] lamp_goes) := meets_tot lamp_goes_l stays hmix (hs := {}) (fnOK Tryd.func120 (by kernel_rfl) (by kernel_rfl) (by kernel_rfl)) false fun x => (lamp_goes_d x).trans (lamp_goes_e x)
def lamp_Follows_L : List (Nat × FSpec) := []
theorem lamp_Follows_l : AllMeet Tryd.prog V lamp_Follows_L := .nil
set_option maxRecDepth 100000 in
theorem lamp_Follows_d : ∀ x : Int × Int, denote (mkC Tryd.prog V lamp_Follows_L) 1 (inlOf Tryd.f121 {}) [U8, U8] [Bo] false x = lamp_Follows_t x := fun x => by kernel_rfl
theorem lamp_Follows_m : Meets Tryd.prog V 121 (spT [U8, U8] [Bo] lamp_Follows) := meets_tot lamp_Follows_l stays hmix (hs := {}) (fnOK Tryd.func121 (by kernel_rfl) (by kernel_rfl) (by kernel_rfl)) false fun x => (lamp_Follows_d x).trans (lamp_Follows_e x)
def lamp_May_L : List (Nat × FSpec) := [(119, (spT [I64] [I64] lamp_kept)), (120, (spT [U8] [Bo] lamp_goes)), (121, (spT [U8, U8] [Bo] lamp_Follows))]
theorem lamp_May_l : AllMeet Tryd.prog V lamp_May_L := (.cons lamp_kept_m (.cons lamp_goes_m (.cons lamp_Follows_m .nil)))
set_option maxRecDepth 100000 in
theorem lamp_May_d : ∀ x : PSGroup × PSSeen × Int, denote (mkC Tryd.prog V lamp_May_L) 1 (inlOf Tryd.f92 {}) [SGroup, SSeen, U8] [U8] false x = lamp_May_t x := fun x => by kernel_rfl
theorem lamp_May_m : Meets Tryd.prog V 92 (spT [SGroup, SSeen, U8] [U8] lamp_May) := meets_tot lamp_May_l stays hmix (hs := {}) (fnOK Tryd.func92 (by kernel_rfl) (by kernel_rfl) (by kernel_rfl)) false fun x => (lamp_May_d x).trans (lamp_May_e x)
def safe_red_L : List (Nat × FSpec) := []
theorem safe_red_l : AllMeet Tryd.prog V safe_red_L := .nil
set_option maxRecDepth 100000 in
theorem safe_red_d : ∀ x : Int, denote (mkC Tryd.prog V safe_red_L) 1 (inlOf Tryd.f91 {}) [U8] [Bo] false x = safe_red_t x := fun x => by kernel_rfl
theorem safe_red_m : Meets Tryd.prog V 91 (spT [U8] [Bo] safe_red) := meets_tot safe_red_l stays hmix (hs := {}) (fnOK Tryd.func91 (by kernel_rfl) (by kernel_rfl) (by kernel_rfl)) false fun x => (safe_red_d x).trans (safe_red_e x)
def safe_meet_L : List (Nat × FSpec) := [(91, (spT [U8] [Bo] safe_red)), (101, (spP [SSite, I64, I64] [Bo] safe_apart_t))]
theorem safe_meet_l : AllMeet Tryd.prog V safe_meet_L := (.cons safe_red_m (.cons safe_apart_m .nil))
set_option maxRecDepth 100000 in
theorem safe_meet_d : ∀ x : PSSite × List Int, denote (mkC Tryd.prog V safe_meet_L) 1 (inlOf Tryd.f93 { loops := [(0, [.slot 9 I64]), (2, [.slot 18 I64])] }) [SSite, U8s] [Bo] false x = safe_meet_t x := fun x => by kernel_rfl
theorem safe_meet_m : Meets Tryd.prog V 93 (spP [SSite, U8s] [Bo] safe_meet_t) := meets_part safe_meet_l stays hmix (hs := { loops := [(0, [.slot 9 I64]), (2, [.slot 18 I64])] }) (fnOK Tryd.func93 (by kernel_rfl) (by kernel_rfl) (by kernel_rfl)) false safe_meet_d
def safe_close_L : List (Nat × FSpec) := [(101, (spP [SSite, I64, I64] [Bo] safe_apart_t)), (102, (spP [SSite, I64, I64] [I64] safe_between_t))]
theorem safe_close_l : AllMeet Tryd.prog V safe_close_L := (.cons safe_apart_m (.cons safe_between_m .nil))
set_option maxRecDepth 100000 in
theorem safe_close_d : ∀ x : PSSite × PSSafe × List Int, denote (mkC Tryd.prog V safe_close_L) 1 (inlOf Tryd.f94 { loops := [(0, [.slot 14 I64]), (2, [.slot 32 I64])] }) [SSite, SSafe, U8s] [Bo] false x = safe_close_t x := fun x => by kernel_rfl
theorem safe_close_m : Meets Tryd.prog V 94 (spP [SSite, SSafe, U8s] [Bo] safe_close_t) := meets_part safe_close_l stays hmix (hs := { loops := [(0, [.slot 14 I64]), (2, [.slot 32 I64])] }) (fnOK Tryd.func94 (by kernel_rfl) (by kernel_rfl) (by kernel_rfl)) false safe_close_d
def safe_fault_L : List (Nat × FSpec) := [(87, (spP [U8s] [Bo] safe_flash_t)), (88, (spP [U8s, U8] [Bo] slices_Contains___uint8_uint8__t)), (92, (spT [SGroup, SSeen, U8] [U8] lamp_May)), (93, (spP [SSite, U8s] [Bo] safe_meet_t)), (94, (spP [SSite, SSafe, U8s] [Bo] safe_close_t)), (91, (spT [U8] [Bo] safe_red))]
theorem safe_fault_l : AllMeet Tryd.prog V safe_fault_L := (.cons safe_flash_m (.cons slices_Contains___uint8_uint8__m (.cons lamp_May_m (.cons safe_meet_m (.cons safe_close_m (.cons safe_red_m .nil))))))
noncomputable def safe_fault_I : List (Nat × Inl) := [(89, inlOf Tryd.f89 {}), (118, inlOf Tryd.f118 { loops := [(0, [.slot 8 I64])] }), (90, inlOf Tryd.f90 {})]
theorem safe_fault_i : AllOK Tryd.prog safe_fault_I := (.cons (fnOK Tryd.func89 (by kernel_rfl) (by kernel_rfl) (by kernel_rfl)) (.cons (fnOK Tryd.func118 (by kernel_rfl) (by kernel_rfl) (by kernel_rfl)) (.cons (fnOK Tryd.func90 (by kernel_rfl) (by kernel_rfl) (by kernel_rfl)) .nil)))
set_option maxRecDepth 100000 in
theorem safe_fault_d : ∀ x : PSSite × PSSafe × List Int, denote (mkC Tryd.prog V safe_fault_L safe_fault_I) 4 (inlOf Tryd.f58 { loops := [(1, [.slot 38 I64])], joins := [(8, [])], outs := [(8, [(23, Bo)])] }) [SSite, SSafe, U8s] [U8] false x = safe_fault_t x := fun x => by kernel_rfl
theorem safe_fault_m : Meets Tryd.prog V 58 (spP [SSite, SSafe, U8s] [U8] safe_fault_t) := meets_part_il safe_fault_l stays hmix safe_fault_i (hs := { loops := [(1, [.slot 38 I64])], joins := [(8, [])], outs := [(8, [(23, Bo)])] }) (fnOK Tryd.func58 (by kernel_rfl) (by kernel_rfl) (by kernel_rfl)) false 4 safe_fault_d
theorem clone_Seen_m : Meets Tryd.prog V 69 (spP [Ty.slice SSeen] [Ty.slice SSeen] clone_Seen_t true) :=
  clone_meets (e := 85) (T := SSeen) stays hmix Tryd.func69 ⟨by kernel_rfl, rfl, by kernel_rfl, by kernel_rfl, by decide, ⟨0, 1, 2, _, _, _, _, rfl, ⟨rfl, rfl, rfl⟩, ⟨rfl, rfl, rfl⟩, ⟨rfl, ⟨_, rfl⟩, rfl⟩, ⟨rfl, rfl, rfl⟩⟩⟩ (fun l => by kernel_rfl) (fun y h => (Option.some.inj ((show clone_Seen_t [] = some [] by kernel_rfl).symm.trans h)).symm)
def lamp_more_L : List (Nat × FSpec) := [(119, (spT [I64] [I64] lamp_kept))]
theorem lamp_more_l : AllMeet Tryd.prog V lamp_more_L := (.cons lamp_kept_m .nil)
set_option maxRecDepth 100000 in
theorem lamp_more_d : ∀ x : Int, denote (mkC Tryd.prog V lamp_more_L) 1 (inlOf Tryd.f122 {}) [I64] [I64] false x = lamp_more_t x := fun x => by kernel_rfl
theorem lamp_more_m : Meets Tryd.prog V 122 (spT [I64] [I64] lamp_more) := meets_tot lamp_more_l stays hmix (hs := {}) (fnOK Tryd.func122 (by kernel_rfl) (by kernel_rfl) (by kernel_rfl)) false fun x => (lamp_more_d x).trans (lamp_more_e x)
def lamp_Next_L : List (Nat × FSpec) := [(122, (spT [I64] [I64] lamp_more))]
theorem lamp_Next_l : AllMeet Tryd.prog V lamp_Next_L := (.cons lamp_more_m .nil)
set_option maxRecDepth 100000 in
theorem lamp_Next_d : ∀ x : PSGroup × PSSeen × Int, denote (mkC Tryd.prog V lamp_Next_L) 1 (inlOf Tryd.f95 {}) [SGroup, SSeen, U8] [SSeen] false x = lamp_Next_t x := fun x => by kernel_rfl
theorem lamp_Next_m : Meets Tryd.prog V 95 (spT [SGroup, SSeen, U8] [SSeen] lamp_Next) := meets_tot lamp_Next_l stays hmix (hs := {}) (fnOK Tryd.func95 (by kernel_rfl) (by kernel_rfl) (by kernel_rfl)) false fun x => (lamp_Next_d x).trans (lamp_Next_e x)
def safe_behind_L : List (Nat × FSpec) := [(69, (spP [SSeens] [SSeens] clone_Seen_t true)), (87, (spP [U8s] [Bo] safe_flash_t)), (95, (spT [SGroup, SSeen, U8] [SSeen] lamp_Next)), (66, (spP [SSite] [I64] safe_greatest_t))]
theorem safe_behind_l : AllMeet Tryd.prog V safe_behind_L := (.cons clone_Seen_m (.cons safe_flash_m (.cons lamp_Next_m (.cons safe_greatest_m .nil))))
set_option maxRecDepth 100000 in
theorem safe_behind_d : ∀ x : PSSite × PSSafe × List Int, denote (mkC Tryd.prog V safe_behind_L) 1 (inlOf Tryd.f59 { loops := [(0, [.slot 23 I64, .arr 21 SSeen])] }) [SSite, SSafe, U8s] [SSafe] false x = safe_behind_t x := fun x => by kernel_rfl
theorem safe_behind_m : Meets Tryd.prog V 59 (spP [SSite, SSafe, U8s] [SSafe] safe_behind_t) := meets_part safe_behind_l stays hmix (hs := { loops := [(0, [.slot 23 I64, .arr 21 SSeen])] }) (fnOK Tryd.func59 (by kernel_rfl) (by kernel_rfl) (by kernel_rfl)) false safe_behind_d
def safe_Check_L : List (Nat × FSpec) := [(16, (spP [SSite] [I64] site_Check_t)), (57, (spP [SSite] [SSafe] safe_first_t)), (58, (spP [SSite, SSafe, U8s] [U8] safe_fault_t)), (59, (spP [SSite, SSafe, U8s] [SSafe] safe_behind_t))]
theorem safe_Check_l : AllMeet Tryd.prog V safe_Check_L := (.cons site_Check_m (.cons safe_first_m (.cons safe_fault_m (.cons safe_behind_m .nil))))
set_option maxRecDepth 100000 in
theorem safe_Check_d : ∀ x : PSSite × List (List Int), denote (mkC Tryd.prog V safe_Check_L) 1 (inlOf Tryd.f26 { loops := [(0, [.slot 24 I64, .box 8 SSafe])] }) [SSite, U8ss] [I64, U8, I64] false x = safe_Check_t x := fun x => by kernel_rfl
theorem safe_Check_m : Meets Tryd.prog V 26 (spP [SSite, U8ss] [I64, U8, I64] safe_Check_t) := meets_part safe_Check_l stays hmix (hs := { loops := [(0, [.slot 24 I64, .box 8 SSafe])] }) (fnOK Tryd.func26 (by kernel_rfl) (by kernel_rfl) (by kernel_rfl)) false safe_Check_d
def ref05_in_L : List (Nat × FSpec) := []
theorem ref05_in_l : AllMeet Tryd.prog V ref05_in_L := .nil
set_option maxRecDepth 100000 in
theorem ref05_in_d : ∀ x : Int × Int × Int, denote (mkC Tryd.prog V ref05_in_L) 1 (inlOf Tryd.f81 {}) [I64, I64, I64] [Bo] false x = ref05_in_t x := fun x => by kernel_rfl
theorem ref05_in_m : Meets Tryd.prog V 81 (spT [I64, I64, I64] [Bo] ref05_in) := meets_tot ref05_in_l stays hmix (hs := {}) (fnOK Tryd.func81 (by kernel_rfl) (by kernel_rfl) (by kernel_rfl)) false fun x => (ref05_in_d x).trans (ref05_in_e x)
def ref02_Has_L : List (Nat × FSpec) := []
theorem ref02_Has_l : AllMeet Tryd.prog V ref02_Has_L := .nil
set_option maxRecDepth 100000 in
theorem ref02_Has_d : ∀ x : Int × Int, denote (mkC Tryd.prog V ref02_Has_L) 1 (inlOf Tryd.f112 {}) [U32, I64] [Bo] false x = ref02_Has_t x := fun x => by kernel_rfl
theorem ref02_Has_m : Meets Tryd.prog V 112 (spT [U32, I64] [Bo] ref02_Has) := meets_up (meets_part ref02_Has_l stays hmix (hs := {}) (fnOK Tryd.func112 (by kernel_rfl) (by kernel_rfl) (by kernel_rfl)) false ref02_Has_d) ref02_Has_e
def ref05_Apart_L : List (Nat × FSpec) := [(112, (spT [U32, I64] [Bo] ref02_Has))]
theorem ref05_Apart_l : AllMeet Tryd.prog V ref05_Apart_L := (.cons ref02_Has_m .nil)
set_option maxRecDepth 100000 in
theorem ref05_Apart_d : ∀ x : PSSite × Int × Int, denote (mkC Tryd.prog V ref05_Apart_L) 1 (inlOf Tryd.f111 {}) [SSite, I64, I64] [Bo] false x = ref05_Apart_t x := fun x => by kernel_rfl
theorem ref05_Apart_m : Meets Tryd.prog V 111 (spP [SSite, I64, I64] [Bo] ref05_Apart_t) := meets_part ref05_Apart_l stays hmix (hs := {}) (fnOK Tryd.func111 (by kernel_rfl) (by kernel_rfl) (by kernel_rfl)) false ref05_Apart_d
def ref05_groups_L : List (Nat × FSpec) := [(81, (spT [I64, I64, I64] [Bo] ref05_in)), (111, (spP [SSite, I64, I64] [Bo] ref05_Apart_t))]
theorem ref05_groups_l : AllMeet Tryd.prog V ref05_groups_L := (.cons ref05_in_m (.cons ref05_Apart_m .nil))
set_option maxRecDepth 100000 in
theorem ref05_groups_d : ∀ x : PSSite, denote (mkC Tryd.prog V ref05_groups_L) 1 (inlOf Tryd.f79 { loops := [(0, [.slot 4 I64]), (2, [.slot 6 I64]), (4, [.slot 7 I64])] }) [SSite] [Bo] false x = ref05_groups_t x := fun x => by kernel_rfl
theorem ref05_groups_m : Meets Tryd.prog V 79 (spP [SSite] [Bo] ref05_groups_t) := meets_part ref05_groups_l stays hmix (hs := { loops := [(0, [.slot 4 I64]), (2, [.slot 6 I64]), (4, [.slot 7 I64])] }) (fnOK Tryd.func79 (by kernel_rfl) (by kernel_rfl) (by kernel_rfl)) false ref05_groups_d
def ref02_With_L : List (Nat × FSpec) := [(112, (spT [U32, I64] [Bo] ref02_Has))]
theorem ref02_With_l : AllMeet Tryd.prog V ref02_With_L := (.cons ref02_Has_m .nil)
set_option maxRecDepth 100000 in
theorem ref02_With_d : ∀ x : Int × Int, denote (mkC Tryd.prog V ref02_With_L) 1 (inlOf Tryd.f113 {}) [U32, I64] [U32] false x = ref02_With_t x := fun x => by kernel_rfl
theorem ref02_With_m : Meets Tryd.prog V 113 (spT [U32, I64] [U32] ref02_With) := meets_tot ref02_With_l stays hmix (hs := {}) (fnOK Tryd.func113 (by kernel_rfl) (by kernel_rfl) (by kernel_rfl)) false fun x => (ref02_With_d x).trans (ref02_With_e x)
def ref02_Count_L : List (Nat × FSpec) := [(112, (spT [U32, I64] [Bo] ref02_Has))]
theorem ref02_Count_l : AllMeet Tryd.prog V ref02_Count_L := (.cons ref02_Has_m .nil)
set_option maxRecDepth 100000 in
theorem ref02_Count_d : ∀ x : Int, denote (mkC Tryd.prog V ref02_Count_L) 1 (inlOf Tryd.f114 { loops := [(0, [.slot 3 I64, .slot 4 I64])] }) [U32] [I64] false x = ref02_Count_t x := fun x => by kernel_rfl
theorem ref02_Count_m : Meets Tryd.prog V 114 (spP [U32] [I64] ref02_Count_t) := meets_part ref02_Count_l stays hmix (hs := { loops := [(0, [.slot 3 I64, .slot 4 I64])] }) (fnOK Tryd.func114 (by kernel_rfl) (by kernel_rfl) (by kernel_rfl)) false ref02_Count_d
def ref05_phases_L : List (Nat × FSpec) := [(81, (spT [I64, I64, I64] [Bo] ref05_in)), (112, (spT [U32, I64] [Bo] ref02_Has)), (113, (spT [U32, I64] [U32] ref02_With)), (111, (spP [SSite, I64, I64] [Bo] ref05_Apart_t)), (114, (spP [U32] [I64] ref02_Count_t))]
theorem ref05_phases_l : AllMeet Tryd.prog V ref05_phases_L := (.cons ref05_in_m (.cons ref02_Has_m (.cons ref02_With_m (.cons ref05_Apart_m (.cons ref02_Count_m .nil)))))
set_option maxRecDepth 100000 in
theorem ref05_phases_d : ∀ x : PSSite, denote (mkC Tryd.prog V ref05_phases_L) 1 (inlOf Tryd.f80 { loops := [(0, [.slot 3 U32, .slot 4 I64]), (2, [.slot 3 U32, .slot 6 I64, .slot 7 I64]), (4, [.slot 8 I64])] }) [SSite] [Bo] false x = ref05_phases_t x := fun x => by kernel_rfl
theorem ref05_phases_m : Meets Tryd.prog V 80 (spP [SSite] [Bo] ref05_phases_t) := meets_part ref05_phases_l stays hmix (hs := { loops := [(0, [.slot 3 U32, .slot 4 I64]), (2, [.slot 3 U32, .slot 6 I64, .slot 7 I64]), (4, [.slot 8 I64])] }) (fnOK Tryd.func80 (by kernel_rfl) (by kernel_rfl) (by kernel_rfl)) false ref05_phases_d
def ref05_Clear_L : List (Nat × FSpec) := [(112, (spT [U32, I64] [Bo] ref02_Has)), (111, (spP [SSite, I64, I64] [Bo] ref05_Apart_t))]
theorem ref05_Clear_l : AllMeet Tryd.prog V ref05_Clear_L := (.cons ref02_Has_m (.cons ref05_Apart_m .nil))
set_option maxRecDepth 100000 in
theorem ref05_Clear_d : ∀ x : PSSite × Int × Int, denote (mkC Tryd.prog V ref05_Clear_L) 1 (inlOf Tryd.f127 { loops := [(0, [.slot 7 I64, .slot 8 I64]), (2, [.slot 7 I64, .slot 9 I64])] }) [SSite, I64, I64] [I64] false x = ref05_Clear_t x := fun x => by kernel_rfl
theorem ref05_Clear_m : Meets Tryd.prog V 127 (spP [SSite, I64, I64] [I64] ref05_Clear_t) := meets_part ref05_Clear_l stays hmix (hs := { loops := [(0, [.slot 7 I64, .slot 8 I64]), (2, [.slot 7 I64, .slot 9 I64])] }) (fnOK Tryd.func127 (by kernel_rfl) (by kernel_rfl) (by kernel_rfl)) false ref05_Clear_d
def ref05_needs_L : List (Nat × FSpec) := [(127, (spP [SSite, I64, I64] [I64] ref05_Clear_t))]
theorem ref05_needs_l : AllMeet Tryd.prog V ref05_needs_L := (.cons ref05_Clear_m .nil)
set_option maxRecDepth 100000 in
theorem ref05_needs_d : ∀ x : PSSite × Int, denote (mkC Tryd.prog V ref05_needs_L) 1 (inlOf Tryd.f115 {}) [SSite, I64] [I64] false x = ref05_needs_t x := fun x => by kernel_rfl
theorem ref05_needs_m : Meets Tryd.prog V 115 (spP [SSite, I64] [I64] ref05_needs_t) := meets_part ref05_needs_l stays hmix (hs := {}) (fnOK Tryd.func115 (by kernel_rfl) (by kernel_rfl) (by kernel_rfl)) false ref05_needs_d
def ref05_Round_L : List (Nat × FSpec) := [(115, (spP [SSite, I64] [I64] ref05_needs_t))]
theorem ref05_Round_l : AllMeet Tryd.prog V ref05_Round_L := (.cons ref05_needs_m .nil)
set_option maxRecDepth 100000 in
theorem ref05_Round_d : ∀ x : PSSite, denote (mkC Tryd.prog V ref05_Round_L) 1 (inlOf Tryd.f82 { loops := [(0, [.slot 3 I64, .slot 4 I64])] }) [SSite] [I64] false x = ref05_Round_t x := fun x => by kernel_rfl
theorem ref05_Round_m : Meets Tryd.prog V 82 (spP [SSite] [I64] ref05_Round_t) := meets_part ref05_Round_l stays hmix (hs := { loops := [(0, [.slot 3 I64, .slot 4 I64])] }) (fnOK Tryd.func82 (by kernel_rfl) (by kernel_rfl) (by kernel_rfl)) false ref05_Round_d
def ref05_PlanMay_L : List (Nat × FSpec) := [(81, (spT [I64, I64, I64] [Bo] ref05_in)), (115, (spP [SSite, I64] [I64] ref05_needs_t))]
theorem ref05_PlanMay_l : AllMeet Tryd.prog V ref05_PlanMay_L := (.cons ref05_in_m (.cons ref05_needs_m .nil))
set_option maxRecDepth 100000 in
theorem ref05_PlanMay_d : ∀ x : PSSite × PSPlan, denote (mkC Tryd.prog V ref05_PlanMay_L) 1 (inlOf Tryd.f83 { loops := [(0, [.slot 5 I64, .slot 6 I64])] }) [SSite, SPlan] [Bo] false x = ref05_PlanMay_t x := fun x => by kernel_rfl
theorem ref05_PlanMay_m : Meets Tryd.prog V 83 (spP [SSite, SPlan] [Bo] ref05_PlanMay_t) := meets_part ref05_PlanMay_l stays hmix (hs := { loops := [(0, [.slot 5 I64, .slot 6 I64])] }) (fnOK Tryd.func83 (by kernel_rfl) (by kernel_rfl) (by kernel_rfl)) false ref05_PlanMay_d
def ref05_Check_L : List (Nat × FSpec) := [(79, (spP [SSite] [Bo] ref05_groups_t)), (80, (spP [SSite] [Bo] ref05_phases_t)), (81, (spT [I64, I64, I64] [Bo] ref05_in)), (82, (spP [SSite] [I64] ref05_Round_t)), (83, (spP [SSite, SPlan] [Bo] ref05_PlanMay_t))]
theorem ref05_Check_l : AllMeet Tryd.prog V ref05_Check_L := (.cons ref05_groups_m (.cons ref05_phases_m (.cons ref05_in_m (.cons ref05_Round_m (.cons ref05_PlanMay_m .nil)))))
set_option maxRecDepth 100000 in
theorem ref05_Check_d : ∀ x : PSSite, denote (mkC Tryd.prog V ref05_Check_L) 1 (inlOf Tryd.f51 { loops := [(0, [.slot 3 I64]), (2, [.slot 5 I64])] }) [SSite] [I64] false x = ref05_Check_t x := fun x => by kernel_rfl
theorem ref05_Check_m : Meets Tryd.prog V 51 (spP [SSite] [I64] ref05_Check_t) := meets_part ref05_Check_l stays hmix (hs := { loops := [(0, [.slot 3 I64]), (2, [.slot 5 I64])] }) (fnOK Tryd.func51 (by kernel_rfl) (by kernel_rfl) (by kernel_rfl)) false ref05_Check_d
def ref08_Apart_L : List (Nat × FSpec) := []
theorem ref08_Apart_l : AllMeet Tryd.prog V ref08_Apart_L := .nil
set_option maxRecDepth 100000 in
theorem ref08_Apart_d : ∀ x : PSSite × Int × Int, denote (mkC Tryd.prog V ref08_Apart_L) 1 (inlOf Tryd.f85 {}) [SSite, I64, I64] [Bo] false x = ref08_Apart_t x := fun x => by kernel_rfl
theorem ref08_Apart_m : Meets Tryd.prog V 85 (spP [SSite, I64, I64] [Bo] ref08_Apart_t) := meets_part ref08_Apart_l stays hmix (hs := {}) (fnOK Tryd.func85 (by kernel_rfl) (by kernel_rfl) (by kernel_rfl)) false ref08_Apart_d
def ref08_Between_L : List (Nat × FSpec) := []
theorem ref08_Between_l : AllMeet Tryd.prog V ref08_Between_L := .nil
set_option maxRecDepth 100000 in
theorem ref08_Between_d : ∀ x : PSSite × Int × Int, denote (mkC Tryd.prog V ref08_Between_L) 1 (inlOf Tryd.f86 {}) [SSite, I64, I64] [I64] false x = ref08_Between_t x := fun x => by kernel_rfl
theorem ref08_Between_m : Meets Tryd.prog V 86 (spP [SSite, I64, I64] [I64] ref08_Between_t) := meets_part ref08_Between_l stays hmix (hs := {}) (fnOK Tryd.func86 (by kernel_rfl) (by kernel_rfl) (by kernel_rfl)) false ref08_Between_d
def ref08_Great_L : List (Nat × FSpec) := [(85, (spP [SSite, I64, I64] [Bo] ref08_Apart_t)), (86, (spP [SSite, I64, I64] [I64] ref08_Between_t))]
theorem ref08_Great_l : AllMeet Tryd.prog V ref08_Great_L := (.cons ref08_Apart_m (.cons ref08_Between_m .nil))
set_option maxRecDepth 100000 in
theorem ref08_Great_d : ∀ x : PSSite, denote (mkC Tryd.prog V ref08_Great_L) 1 (inlOf Tryd.f67 { loops := [(0, [.slot 3 I64, .slot 4 I64]), (2, [.slot 3 I64, .slot 5 I64])] }) [SSite] [I64] false x = ref08_Great_t x := fun x => by kernel_rfl
theorem ref08_Great_m : Meets Tryd.prog V 67 (spP [SSite] [I64] ref08_Great_t) := meets_part ref08_Great_l stays hmix (hs := { loops := [(0, [.slot 3 I64, .slot 4 I64]), (2, [.slot 3 I64, .slot 5 I64])] }) (fnOK Tryd.func67 (by kernel_rfl) (by kernel_rfl) (by kernel_rfl)) false ref08_Great_d
def ref08_Start_L : List (Nat × FSpec) := [(67, (spP [SSite] [I64] ref08_Great_t))]
theorem ref08_Start_l : AllMeet Tryd.prog V ref08_Start_L := (.cons ref08_Great_m .nil)
set_option maxRecDepth 100000 in
theorem ref08_Start_d : ∀ x : PSSite, denote (mkC Tryd.prog V ref08_Start_L) 1 (inlOf Tryd.f60 { loops := [(0, [.slot 4 I64, .fown 3 .unit SSeen (.pair I64 Bo)])] }) [SSite] [SSafe] false x = ref08_Start_t x := fun x => by kernel_rfl
theorem ref08_Start_m : Meets Tryd.prog V 60 (spP [SSite] [SSafe] ref08_Start_t) := meets_part ref08_Start_l stays hmix (hs := { loops := [(0, [.slot 4 I64, .fown 3 .unit SSeen (.pair I64 Bo)])] }) (fnOK Tryd.func60 (by kernel_rfl) (by kernel_rfl) (by kernel_rfl)) false ref08_Start_d
def ref08_flashes_L : List (Nat × FSpec) := []
theorem ref08_flashes_l : AllMeet Tryd.prog V ref08_flashes_L := .nil
set_option maxRecDepth 100000 in
theorem ref08_flashes_d : ∀ x : List Int, denote (mkC Tryd.prog V ref08_flashes_L) 1 (inlOf Tryd.f96 { loops := [(0, [.slot 3 I64, .slot 4 I64])] }) [U8s] [I64] false x = ref08_flashes_t x := fun x => by kernel_rfl
theorem ref08_flashes_m : Meets Tryd.prog V 96 (spP [U8s] [I64] ref08_flashes_t) := meets_part ref08_flashes_l stays hmix (hs := { loops := [(0, [.slot 3 I64, .slot 4 I64])] }) (fnOK Tryd.func96 (by kernel_rfl) (by kernel_rfl) (by kernel_rfl)) false ref08_flashes_d
def ref07_goes_L : List (Nat × FSpec) := []
theorem ref07_goes_l : AllMeet Tryd.prog V ref07_goes_L := .nil
set_option maxRecDepth 100000 in
theorem ref07_goes_d : ∀ x : Int, denote (mkC Tryd.prog V ref07_goes_L) 1 (inlOf Tryd.f123 {}) [U8] [Bo] false x = ref07_goes_t x := fun x => by kernel_rfl
theorem ref07_goes_m : Meets Tryd.prog V 123 (spT [U8] [Bo] ref07_goes) := meets_tot ref07_goes_l stays hmix (hs := {}) (fnOK Tryd.func123 (by kernel_rfl) (by kernel_rfl) (by kernel_rfl)) false fun x => (ref07_goes_d x).trans (ref07_goes_e x)
def ref07_Follows_L : List (Nat × FSpec) := []
theorem ref07_Follows_l : AllMeet Tryd.prog V ref07_Follows_L := .nil
set_option maxRecDepth 100000 in
theorem ref07_Follows_d : ∀ x : Int × Int, denote (mkC Tryd.prog V ref07_Follows_L) 1 (inlOf Tryd.f124 {}) [U8, U8] [Bo] false x = ref07_Follows_t x := fun x => by kernel_rfl
theorem ref07_Follows_m : Meets Tryd.prog V 124 (spT [U8, U8] [Bo] ref07_Follows) := meets_tot ref07_Follows_l stays hmix (hs := {}) (fnOK Tryd.func124 (by kernel_rfl) (by kernel_rfl) (by kernel_rfl)) false fun x => (ref07_Follows_d x).trans (ref07_Follows_e x)
def ref07_Kept_L : List (Nat × FSpec) := []
theorem ref07_Kept_l : AllMeet Tryd.prog V ref07_Kept_L := .nil
set_option maxRecDepth 100000 in
theorem ref07_Kept_d : ∀ x : Int, denote (mkC Tryd.prog V ref07_Kept_L) 1 (inlOf Tryd.f125 {}) [I64] [I64] false x = ref07_Kept_t x := fun x => by kernel_rfl
theorem ref07_Kept_m : Meets Tryd.prog V 125 (spT [I64] [I64] ref07_Kept) := meets_tot ref07_Kept_l stays hmix (hs := {}) (fnOK Tryd.func125 (by kernel_rfl) (by kernel_rfl) (by kernel_rfl)) false fun x => (ref07_Kept_d x).trans (ref07_Kept_e x)
def ref07_May_L : List (Nat × FSpec) := [(123, (spT [U8] [Bo] ref07_goes)), (124, (spT [U8, U8] [Bo] ref07_Follows)), (125, (spT [I64] [I64] ref07_Kept))]
theorem ref07_May_l : AllMeet Tryd.prog V ref07_May_L := (.cons ref07_goes_m (.cons ref07_Follows_m (.cons ref07_Kept_m .nil)))
set_option maxRecDepth 100000 in
theorem ref07_May_d : ∀ x : PSGroup × PSSeen × Int, denote (mkC Tryd.prog V ref07_May_L) 1 (inlOf Tryd.f97 {}) [SGroup, SSeen, U8] [U8] false x = ref07_May_t x := fun x => by kernel_rfl
theorem ref07_May_m : Meets Tryd.prog V 97 (spT [SGroup, SSeen, U8] [U8] ref07_May) := meets_tot ref07_May_l stays hmix (hs := {}) (fnOK Tryd.func97 (by kernel_rfl) (by kernel_rfl) (by kernel_rfl)) false fun x => (ref07_May_d x).trans (ref07_May_e x)
def ref08_meet_L : List (Nat × FSpec) := [(85, (spP [SSite, I64, I64] [Bo] ref08_Apart_t))]
theorem ref08_meet_l : AllMeet Tryd.prog V ref08_meet_L := (.cons ref08_Apart_m .nil)
set_option maxRecDepth 100000 in
theorem ref08_meet_d : ∀ x : PSSite × List Int, denote (mkC Tryd.prog V ref08_meet_L) 1 (inlOf Tryd.f98 { loops := [(0, [.slot 5 I64]), (2, [.slot 6 I64])] }) [SSite, U8s] [Bo] false x = ref08_meet_t x := fun x => by kernel_rfl
theorem ref08_meet_m : Meets Tryd.prog V 98 (spP [SSite, U8s] [Bo] ref08_meet_t) := meets_part ref08_meet_l stays hmix (hs := { loops := [(0, [.slot 5 I64]), (2, [.slot 6 I64])] }) (fnOK Tryd.func98 (by kernel_rfl) (by kernel_rfl) (by kernel_rfl)) false ref08_meet_d
def ref08_Fault_L : List (Nat × FSpec) := [(96, (spP [U8s] [I64] ref08_flashes_t)), (97, (spT [SGroup, SSeen, U8] [U8] ref07_May)), (98, (spP [SSite, U8s] [Bo] ref08_meet_t)), (85, (spP [SSite, I64, I64] [Bo] ref08_Apart_t)), (86, (spP [SSite, I64, I64] [I64] ref08_Between_t))]
theorem ref08_Fault_l : AllMeet Tryd.prog V ref08_Fault_L := (.cons ref08_flashes_m (.cons ref07_May_m (.cons ref08_meet_m (.cons ref08_Apart_m (.cons ref08_Between_m .nil)))))
set_option maxRecDepth 100000 in
theorem ref08_Fault_d : ∀ x : PSSite × PSSafe × List Int, denote (mkC Tryd.prog V ref08_Fault_L) 1 (inlOf Tryd.f61 { loops := [(0, [.slot 8 I64]), (2, [.slot 9 I64]), (4, [.slot 11 I64]), (6, [.slot 12 I64])] }) [SSite, SSafe, U8s] [U8] false x = ref08_Fault_t x := fun x => by kernel_rfl
theorem ref08_Fault_m : Meets Tryd.prog V 61 (spP [SSite, SSafe, U8s] [U8] ref08_Fault_t) := meets_part ref08_Fault_l stays hmix (hs := { loops := [(0, [.slot 8 I64]), (2, [.slot 9 I64]), (4, [.slot 11 I64]), (6, [.slot 12 I64])] }) (fnOK Tryd.func61 (by kernel_rfl) (by kernel_rfl) (by kernel_rfl)) false ref08_Fault_d
def ref07_more_L : List (Nat × FSpec) := [(125, (spT [I64] [I64] ref07_Kept))]
theorem ref07_more_l : AllMeet Tryd.prog V ref07_more_L := (.cons ref07_Kept_m .nil)
set_option maxRecDepth 100000 in
theorem ref07_more_d : ∀ x : Int, denote (mkC Tryd.prog V ref07_more_L) 1 (inlOf Tryd.f126 {}) [I64] [I64] false x = ref07_more_t x := fun x => by kernel_rfl
theorem ref07_more_m : Meets Tryd.prog V 126 (spT [I64] [I64] ref07_more) := meets_tot ref07_more_l stays hmix (hs := {}) (fnOK Tryd.func126 (by kernel_rfl) (by kernel_rfl) (by kernel_rfl)) false fun x => (ref07_more_d x).trans (ref07_more_e x)
def ref07_Next_L : List (Nat × FSpec) := [(126, (spT [I64] [I64] ref07_more))]
theorem ref07_Next_l : AllMeet Tryd.prog V ref07_Next_L := (.cons ref07_more_m .nil)
set_option maxRecDepth 100000 in
theorem ref07_Next_d : ∀ x : PSSeen × Int, denote (mkC Tryd.prog V ref07_Next_L) 1 (inlOf Tryd.f99 {}) [SSeen, U8] [SSeen] false x = ref07_Next_t x := fun x => by kernel_rfl
theorem ref07_Next_m : Meets Tryd.prog V 99 (spT [SSeen, U8] [SSeen] ref07_Next) := meets_tot ref07_Next_l stays hmix (hs := {}) (fnOK Tryd.func99 (by kernel_rfl) (by kernel_rfl) (by kernel_rfl)) false fun x => (ref07_Next_d x).trans (ref07_Next_e x)
def ref08_Behind_L : List (Nat × FSpec) := [(96, (spP [U8s] [I64] ref08_flashes_t)), (99, (spT [SSeen, U8] [SSeen] ref07_Next)), (67, (spP [SSite] [I64] ref08_Great_t))]
theorem ref08_Behind_l : AllMeet Tryd.prog V ref08_Behind_L := (.cons ref08_flashes_m (.cons ref07_Next_m (.cons ref08_Great_m .nil)))
set_option maxRecDepth 100000 in
theorem ref08_Behind_d : ∀ x : PSSite × PSSafe × List Int, denote (mkC Tryd.prog V ref08_Behind_L) 1 (inlOf Tryd.f62 { loops := [(0, [.slot 8 I64, .fown 7 .unit SSeen (.pair I64 Bo)])], joins := [(9, [.slot 9 I64])] }) [SSite, SSafe, U8s] [SSafe] false x = ref08_Behind_t x := fun x => by kernel_rfl
theorem ref08_Behind_m : Meets Tryd.prog V 62 (spP [SSite, SSafe, U8s] [SSafe] ref08_Behind_t) := meets_part ref08_Behind_l stays hmix (hs := { loops := [(0, [.slot 8 I64, .fown 7 .unit SSeen (.pair I64 Bo)])], joins := [(9, [.slot 9 I64])] }) (fnOK Tryd.func62 (by kernel_rfl) (by kernel_rfl) (by kernel_rfl)) false ref08_Behind_d
def ref08_Check_L : List (Nat × FSpec) := [(51, (spP [SSite] [I64] ref05_Check_t)), (60, (spP [SSite] [SSafe] ref08_Start_t)), (61, (spP [SSite, SSafe, U8s] [U8] ref08_Fault_t)), (62, (spP [SSite, SSafe, U8s] [SSafe] ref08_Behind_t))]
theorem ref08_Check_l : AllMeet Tryd.prog V ref08_Check_L := (.cons ref05_Check_m (.cons ref08_Start_m (.cons ref08_Fault_m (.cons ref08_Behind_m .nil))))
set_option maxRecDepth 100000 in
theorem ref08_Check_d : ∀ x : PSSite × List (List Int), denote (mkC Tryd.prog V ref08_Check_L) 1 (inlOf Tryd.f27 { loops := [(0, [.slot 9 I64, .box 8 SSafe])] }) [SSite, U8ss] [I64, U8, I64] false x = ref08_Check_t x := fun x => by kernel_rfl
theorem ref08_Check_m : Meets Tryd.prog V 27 (spP [SSite, U8ss] [I64, U8, I64] ref08_Check_t) := meets_part ref08_Check_l stays hmix (hs := { loops := [(0, [.slot 9 I64, .box 8 SSafe])] }) (fnOK Tryd.func27 (by kernel_rfl) (by kernel_rfl) (by kernel_rfl)) false ref08_Check_d
def law08_SafeTraces_L : List (Nat × FSpec) := [(13, (spP [SSite] [Bo] ref05_Great_t)), (26, (spP [SSite, U8ss] [I64, U8, I64] safe_Check_t)), (27, (spP [SSite, U8ss] [I64, U8, I64] ref08_Check_t))]
theorem law08_SafeTraces_l : AllMeet Tryd.prog V law08_SafeTraces_L := (.cons ref05_Great_m (.cons safe_Check_m (.cons ref08_Check_m .nil)))
set_option maxRecDepth 100000 in
theorem law08_SafeTraces_d : ∀ x : PSSite × List (List Int), denote (mkC Tryd.prog V law08_SafeTraces_L) 1 (inlOf Tryd.f7 { loops := [(0, [.slot 5 I64])] }) [SSite, U8ss] [Bo] false x = law08_SafeTraces_t x := fun x => by kernel_rfl
theorem law08_SafeTraces_m : Meets Tryd.prog V 7 (spP [SSite, U8ss] [Bo] law08_SafeTraces_t) := meets_part law08_SafeTraces_l stays hmix (hs := { loops := [(0, [.slot 5 I64])] }) (fnOK Tryd.func7 (by kernel_rfl) (by kernel_rfl) (by kernel_rfl)) false law08_SafeTraces_d
def law08_two_L : List (Nat × FSpec) := []
theorem law08_two_l : AllMeet Tryd.prog V law08_two_L := .nil
set_option maxRecDepth 100000 in
theorem law08_two_d : ∀ x : Unit, denote (mkC Tryd.prog V law08_two_L) 1 (inlOf Tryd.f31 {}) [] [SSite] false x = law08_two_t x := fun x => by kernel_rfl
theorem law08_two_m : Meets Tryd.prog V 31 (spT [] [SSite] law08_two) := meets_tot law08_two_l stays hmix (hs := {}) (fnOK Tryd.func31 (by kernel_rfl) (by kernel_rfl) (by kernel_rfl)) false fun x => (law08_two_d x).trans (law08_two_e x)
def law08_aspect_L : List (Nat × FSpec) := []
theorem law08_aspect_l : AllMeet Tryd.prog V law08_aspect_L := .nil
set_option maxRecDepth 100000 in
theorem law08_aspect_d : ∀ x : Int, denote (mkC Tryd.prog V law08_aspect_L) 1 (inlOf Tryd.f100 {}) [U8] [U8] false x = law08_aspect_t x := fun x => by kernel_rfl
theorem law08_aspect_m : Meets Tryd.prog V 100 (spT [U8] [U8] law08_aspect) := meets_tot law08_aspect_l stays hmix (hs := {}) (fnOK Tryd.func100 (by kernel_rfl) (by kernel_rfl) (by kernel_rfl)) false fun x => (law08_aspect_d x).trans (law08_aspect_e x)
def law08_alive_L : List (Nat × FSpec) := [(31, (spT [] [SSite] law08_two)), (26, (spP [SSite, U8ss] [I64, U8, I64] safe_Check_t)), (100, (spT [U8] [U8] law08_aspect))]
theorem law08_alive_l : AllMeet Tryd.prog V law08_alive_L := (.cons law08_two_m (.cons safe_Check_m (.cons law08_aspect_m .nil)))
noncomputable def law08_alive_I : List (Nat × Inl) := [(30, inlOf Tryd.f30 {}), (65, inlOf Tryd.f65 { loops := [(0, [.own 3 U8s, .slot 4 I64])] })]
theorem law08_alive_i : AllOK Tryd.prog law08_alive_I := (.cons (fnOK Tryd.func30 (by kernel_rfl) (by kernel_rfl) (by kernel_rfl)) (.cons (fnOK Tryd.func65 (by kernel_rfl) (by kernel_rfl) (by kernel_rfl)) .nil))
set_option maxRecDepth 100000 in
theorem law08_alive_d : ∀ x : Unit, denote (mkC Tryd.prog V law08_alive_L law08_alive_I) 3 (inlOf Tryd.f28 {}) [] [Bo] false x = law08_alive_t x := fun x => by kernel_rfl
theorem law08_alive_m : Meets Tryd.prog V 28 (spP [] [Bo] law08_alive_t) := meets_part_il law08_alive_l stays hmix law08_alive_i (hs := {}) (fnOK Tryd.func28 (by kernel_rfl) (by kernel_rfl) (by kernel_rfl)) false 3 law08_alive_d
def law08_all_L : List (Nat × FSpec) := []
theorem law08_all_l : AllMeet Tryd.prog V law08_all_L := .nil
set_option maxRecDepth 100000 in
theorem law08_all_d : ∀ x : List (List Int) × Int, denote (mkC Tryd.prog V law08_all_L) 1 (inlOf Tryd.f63 {}) [U8ss, I64] [Bo] false x = law08_all_t x := fun x => by kernel_rfl
theorem law08_all_m : Meets Tryd.prog V 63 (spP [U8ss, I64] [Bo] law08_all_t) := meets_part law08_all_l stays hmix (hs := {}) (fnOK Tryd.func63 (by kernel_rfl) (by kernel_rfl) (by kernel_rfl)) false law08_all_d
def law08_lasted_L : List (Nat × FSpec) := []
theorem law08_lasted_l : AllMeet Tryd.prog V law08_lasted_L := .nil
set_option maxRecDepth 100000 in
theorem law08_lasted_d : ∀ x : List (List Int) × Int × Int, denote (mkC Tryd.prog V law08_lasted_L) 1 (inlOf Tryd.f64 { loops := [(0, [.slot 7 I64])] }) [U8ss, I64, I64] [I64] false x = law08_lasted_t x := fun x => by kernel_rfl
theorem law08_lasted_m : Meets Tryd.prog V 64 (spP [U8ss, I64, I64] [I64] law08_lasted_t) := meets_part law08_lasted_l stays hmix (hs := { loops := [(0, [.slot 7 I64])] }) (fnOK Tryd.func64 (by kernel_rfl) (by kernel_rfl) (by kernel_rfl)) false law08_lasted_d
def law08_holds_L : List (Nat × FSpec) := [(63, (spP [U8ss, I64] [Bo] law08_all_t)), (64, (spP [U8ss, I64, I64] [I64] law08_lasted_t))]
theorem law08_holds_l : AllMeet Tryd.prog V law08_holds_L := (.cons law08_all_m (.cons law08_lasted_m .nil))
set_option maxRecDepth 100000 in
theorem law08_holds_d : ∀ x : PSSite × List (List Int) × Int × Int, denote (mkC Tryd.prog V law08_holds_L) 1 (inlOf Tryd.f29 { loops := [(0, [.slot 11 I64]), (2, [.slot 13 I64])], joins := [(7, []), (9, []), (10, []), (15, []), (17, []), (20, [])], outs := [(7, [(56, Bo)]), (9, [(115, Bo)]), (15, [(144, Bo)]), (17, [(12, Bo)]), (20, [(180, Bo)])] }) [SSite, U8ss, I64, I64] [Bo] false x = law08_holds_t x := fun x => by kernel_rfl
theorem law08_holds_m : Meets Tryd.prog V 29 (spP [SSite, U8ss, I64, I64] [Bo] law08_holds_t) := meets_part law08_holds_l stays hmix (hs := { loops := [(0, [.slot 11 I64]), (2, [.slot 13 I64])], joins := [(7, []), (9, []), (10, []), (15, []), (17, []), (20, [])], outs := [(7, [(56, Bo)]), (9, [(115, Bo)]), (15, [(144, Bo)]), (17, [(12, Bo)]), (20, [(180, Bo)])] }) (fnOK Tryd.func29 (by kernel_rfl) (by kernel_rfl) (by kernel_rfl)) false law08_holds_d
def law08_SafeMeans_L : List (Nat × FSpec) := [(28, (spP [] [Bo] law08_alive_t)), (13, (spP [SSite] [Bo] ref05_Great_t)), (26, (spP [SSite, U8ss] [I64, U8, I64] safe_Check_t)), (29, (spP [SSite, U8ss, I64, I64] [Bo] law08_holds_t))]
theorem law08_SafeMeans_l : AllMeet Tryd.prog V law08_SafeMeans_L := (.cons law08_alive_m (.cons ref05_Great_m (.cons safe_Check_m (.cons law08_holds_m .nil))))
set_option maxRecDepth 100000 in
theorem law08_SafeMeans_d : ∀ x : PSSite × List (List Int), denote (mkC Tryd.prog V law08_SafeMeans_L) 1 (inlOf Tryd.f8 { loops := [(0, [.slot 9 I64]), (2, [.slot 10 I64])] }) [SSite, U8ss] [Bo] false x = law08_SafeMeans_t x := fun x => by kernel_rfl
theorem law08_SafeMeans_m : Meets Tryd.prog V 8 (spP [SSite, U8ss] [Bo] law08_SafeMeans_t) := meets_part law08_SafeMeans_l stays hmix (hs := { loops := [(0, [.slot 9 I64]), (2, [.slot 10 I64])] }) (fnOK Tryd.func8 (by kernel_rfl) (by kernel_rfl) (by kernel_rfl)) false law08_SafeMeans_d
def law08_SafeBegins_L : List (Nat × FSpec) := [(28, (spP [] [Bo] law08_alive_t)), (13, (spP [SSite] [Bo] ref05_Great_t)), (26, (spP [SSite, U8ss] [I64, U8, I64] safe_Check_t))]
theorem law08_SafeBegins_l : AllMeet Tryd.prog V law08_SafeBegins_L := (.cons law08_alive_m (.cons ref05_Great_m (.cons safe_Check_m .nil)))
set_option maxRecDepth 100000 in
theorem law08_SafeBegins_d : ∀ x : PSSite × List (List Int) × Int, denote (mkC Tryd.prog V law08_SafeBegins_L) 1 (inlOf Tryd.f9 { loops := [(0, [.slot 15 I64, .arr 96 U8])] }) [SSite, U8ss, I64] [Bo] false x = law08_SafeBegins_t x := fun x => by kernel_rfl
theorem law08_SafeBegins_m : Meets Tryd.prog V 9 (spP [SSite, U8ss, I64] [Bo] law08_SafeBegins_t) := meets_part law08_SafeBegins_l stays hmix (hs := { loops := [(0, [.slot 15 I64, .arr 96 U8])] }) (fnOK Tryd.func9 (by kernel_rfl) (by kernel_rfl) (by kernel_rfl)) false law08_SafeBegins_d
def safe_Greatest_L : List (Nat × FSpec) := [(16, (spP [SSite] [I64] site_Check_t)), (66, (spP [SSite] [I64] safe_greatest_t))]
theorem safe_Greatest_l : AllMeet Tryd.prog V safe_Greatest_L := (.cons site_Check_m (.cons safe_greatest_m .nil))
set_option maxRecDepth 100000 in
theorem safe_Greatest_d : ∀ x : PSSite, denote (mkC Tryd.prog V safe_Greatest_L) 1 (inlOf Tryd.f32 {}) [SSite] [I64, I64] false x = safe_Greatest_t x := fun x => by kernel_rfl
theorem safe_Greatest_m : Meets Tryd.prog V 32 (spP [SSite] [I64, I64] safe_Greatest_t) := meets_part safe_Greatest_l stays hmix (hs := {}) (fnOK Tryd.func32 (by kernel_rfl) (by kernel_rfl) (by kernel_rfl)) false safe_Greatest_d
def safe_First_L : List (Nat × FSpec) := [(16, (spP [SSite] [I64] site_Check_t)), (57, (spP [SSite] [SSafe] safe_first_t))]
theorem safe_First_l : AllMeet Tryd.prog V safe_First_L := (.cons site_Check_m (.cons safe_first_m .nil))
set_option maxRecDepth 100000 in
theorem safe_First_d : ∀ x : PSSite, denote (mkC Tryd.prog V safe_First_L) 1 (inlOf Tryd.f33 {}) [SSite] [SSafe, I64] false x = safe_First_t x := fun x => by kernel_rfl
theorem safe_First_m : Meets Tryd.prog V 33 (spP [SSite] [SSafe, I64] safe_First_t) := meets_part safe_First_l stays hmix (hs := {}) (fnOK Tryd.func33 (by kernel_rfl) (by kernel_rfl) (by kernel_rfl)) false safe_First_d
def law08_SafeNames_L : List (Nat × FSpec) := [(31, (spT [] [SSite] law08_two)), (26, (spP [SSite, U8ss] [I64, U8, I64] safe_Check_t)), (32, (spP [SSite] [I64, I64] safe_Greatest_t)), (33, (spP [SSite] [SSafe, I64] safe_First_t)), (28, (spP [] [Bo] law08_alive_t)), (100, (spT [U8] [U8] law08_aspect))]
theorem law08_SafeNames_l : AllMeet Tryd.prog V law08_SafeNames_L := (.cons law08_two_m (.cons safe_Check_m (.cons safe_Greatest_m (.cons safe_First_m (.cons law08_alive_m (.cons law08_aspect_m .nil))))))
noncomputable def law08_SafeNames_I : List (Nat × Inl) := [(30, inlOf Tryd.f30 {}), (65, inlOf Tryd.f65 { loops := [(0, [.own 3 U8s, .slot 4 I64])] })]
theorem law08_SafeNames_i : AllOK Tryd.prog law08_SafeNames_I := (.cons (fnOK Tryd.func30 (by kernel_rfl) (by kernel_rfl) (by kernel_rfl)) (.cons (fnOK Tryd.func65 (by kernel_rfl) (by kernel_rfl) (by kernel_rfl)) .nil))
set_option maxRecDepth 100000 in
theorem law08_SafeNames_d : ∀ x : Unit, denote (mkC Tryd.prog V law08_SafeNames_L law08_SafeNames_I) 3 (inlOf Tryd.f10 {}) [] [Bo] false x = law08_SafeNames_t x := fun x => by kernel_rfl
theorem law08_SafeNames_m : Meets Tryd.prog V 10 (spP [] [Bo] law08_SafeNames_t) := meets_part_il law08_SafeNames_l stays hmix law08_SafeNames_i (hs := {}) (fnOK Tryd.func10 (by kernel_rfl) (by kernel_rfl) (by kernel_rfl)) false 3 law08_SafeNames_d
def ref08_Twin_L : List (Nat × FSpec) := []
theorem ref08_Twin_l : AllMeet Tryd.prog V ref08_Twin_L := .nil
set_option maxRecDepth 100000 in
theorem ref08_Twin_d : ∀ x : PSSafe, denote (mkC Tryd.prog V ref08_Twin_L) 1 (inlOf Tryd.f34 {}) [SSafe] [SSafe] false x = ref08_Twin_t x := fun x => by kernel_rfl
theorem ref08_Twin_m : Meets Tryd.prog V 34 (spP [SSafe] [SSafe] ref08_Twin_t) := meets_part ref08_Twin_l stays hmix (hs := {}) (fnOK Tryd.func34 (by kernel_rfl) (by kernel_rfl) (by kernel_rfl)) false ref08_Twin_d
def ref08_First_L : List (Nat × FSpec) := [(51, (spP [SSite] [I64] ref05_Check_t)), (60, (spP [SSite] [SSafe] ref08_Start_t))]
theorem ref08_First_l : AllMeet Tryd.prog V ref08_First_L := (.cons ref05_Check_m (.cons ref08_Start_m .nil))
set_option maxRecDepth 100000 in
theorem ref08_First_d : ∀ x : PSSite, denote (mkC Tryd.prog V ref08_First_L) 1 (inlOf Tryd.f35 {}) [SSite] [SSafe, I64] false x = ref08_First_t x := fun x => by kernel_rfl
theorem ref08_First_m : Meets Tryd.prog V 35 (spP [SSite] [SSafe, I64] ref08_First_t) := meets_part ref08_First_l stays hmix (hs := {}) (fnOK Tryd.func35 (by kernel_rfl) (by kernel_rfl) (by kernel_rfl)) false ref08_First_d
def ref08_Greatest_L : List (Nat × FSpec) := [(51, (spP [SSite] [I64] ref05_Check_t)), (67, (spP [SSite] [I64] ref08_Great_t))]
theorem ref08_Greatest_l : AllMeet Tryd.prog V ref08_Greatest_L := (.cons ref05_Check_m (.cons ref08_Great_m .nil))
set_option maxRecDepth 100000 in
theorem ref08_Greatest_d : ∀ x : PSSite, denote (mkC Tryd.prog V ref08_Greatest_L) 1 (inlOf Tryd.f36 {}) [SSite] [I64, I64] false x = ref08_Greatest_t x := fun x => by kernel_rfl
theorem ref08_Greatest_m : Meets Tryd.prog V 36 (spP [SSite] [I64, I64] ref08_Greatest_t) := meets_part ref08_Greatest_l stays hmix (hs := {}) (fnOK Tryd.func36 (by kernel_rfl) (by kernel_rfl) (by kernel_rfl)) false ref08_Greatest_d
def ref08_Shown_L : List (Nat × FSpec) := []
theorem ref08_Shown_l : AllMeet Tryd.prog V ref08_Shown_L := .nil
set_option maxRecDepth 100000 in
theorem ref08_Shown_d : ∀ x : PSSafe, denote (mkC Tryd.prog V ref08_Shown_L) 1 (inlOf Tryd.f104 { loops := [(0, [.own 3 U8, .slot 4 I64])] }) [SSafe] [U8s] false x = ref08_Shown_t x := fun x => by kernel_rfl
theorem ref08_Shown_m : Meets Tryd.prog V 104 (spP [SSafe] [U8s] ref08_Shown_t) := meets_part ref08_Shown_l stays hmix (hs := { loops := [(0, [.own 3 U8, .slot 4 I64])] }) (fnOK Tryd.func104 (by kernel_rfl) (by kernel_rfl) (by kernel_rfl)) false ref08_Shown_d
def ref08_May_L : List (Nat × FSpec) := [(104, (spP [SSafe] [U8s] ref08_Shown_t)), (96, (spP [U8s] [I64] ref08_flashes_t)), (98, (spP [SSite, U8s] [Bo] ref08_meet_t))]
theorem ref08_May_l : AllMeet Tryd.prog V ref08_May_L := (.cons ref08_Shown_m (.cons ref08_flashes_m (.cons ref08_meet_m .nil)))
set_option maxRecDepth 100000 in
theorem ref08_May_d : ∀ x : PSSite × PSSafe, denote (mkC Tryd.prog V ref08_May_L) 1 (inlOf Tryd.f70 {}) [SSite, SSafe] [Bo] false x = ref08_May_t x := fun x => by kernel_rfl
theorem ref08_May_m : Meets Tryd.prog V 70 (spP [SSite, SSafe] [Bo] ref08_May_t) := meets_part ref08_May_l stays hmix (hs := {}) (fnOK Tryd.func70 (by kernel_rfl) (by kernel_rfl) (by kernel_rfl)) false ref08_May_d
def ref08_Next_L : List (Nat × FSpec) := [(51, (spP [SSite] [I64] ref05_Check_t)), (70, (spP [SSite, SSafe] [Bo] ref08_May_t)), (61, (spP [SSite, SSafe, U8s] [U8] ref08_Fault_t)), (34, (spP [SSafe] [SSafe] ref08_Twin_t)), (62, (spP [SSite, SSafe, U8s] [SSafe] ref08_Behind_t))]
theorem ref08_Next_l : AllMeet Tryd.prog V ref08_Next_L := (.cons ref05_Check_m (.cons ref08_May_m (.cons ref08_Fault_m (.cons ref08_Twin_m (.cons ref08_Behind_m .nil)))))
set_option maxRecDepth 100000 in
theorem ref08_Next_d : ∀ x : PSSite × PSSafe × List Int, denote (mkC Tryd.prog V ref08_Next_L) 1 (inlOf Tryd.f38 {}) [SSite, SSafe, U8s] [SSafe, U8, I64] false x = ref08_Next_t x := fun x => by kernel_rfl
theorem ref08_Next_m : Meets Tryd.prog V 38 (spP [SSite, SSafe, U8s] [SSafe, U8, I64] ref08_Next_t) := meets_part ref08_Next_l stays hmix (hs := {}) (fnOK Tryd.func38 (by kernel_rfl) (by kernel_rfl) (by kernel_rfl)) false ref08_Next_d
def ref08_Same_L : List (Nat × FSpec) := []
theorem ref08_Same_l : AllMeet Tryd.prog V ref08_Same_L := .nil
set_option maxRecDepth 100000 in
theorem ref08_Same_d : ∀ x : PSSafe × PSSafe, denote (mkC Tryd.prog V ref08_Same_L) 1 (inlOf Tryd.f39 { loops := [(0, [.slot 5 I64])] }) [SSafe, SSafe] [Bo] false x = ref08_Same_t x := fun x => by kernel_rfl
theorem ref08_Same_m : Meets Tryd.prog V 39 (spP [SSafe, SSafe] [Bo] ref08_Same_t) := meets_part ref08_Same_l stays hmix (hs := { loops := [(0, [.slot 5 I64])] }) (fnOK Tryd.func39 (by kernel_rfl) (by kernel_rfl) (by kernel_rfl)) false ref08_Same_d
def safe_shown_L : List (Nat × FSpec) := []
theorem safe_shown_l : AllMeet Tryd.prog V safe_shown_L := .nil
set_option maxRecDepth 100000 in
theorem safe_shown_d : ∀ x : PSSafe, denote (mkC Tryd.prog V safe_shown_L) 1 (inlOf Tryd.f103 { loops := [(0, [.slot 13 I64, .arr 9 U8])] }) [SSafe] [U8s] true x = safe_shown_t x := fun x => by kernel_rfl
theorem safe_shown_m : Meets Tryd.prog V 103 (spP [SSafe] [U8s] safe_shown_t true) := meets_part safe_shown_l stays hmix (hs := { loops := [(0, [.slot 13 I64, .arr 9 U8])] }) (fnOK Tryd.func103 (by kernel_rfl) (by kernel_rfl) (by kernel_rfl)) true safe_shown_d
def safe_may_L : List (Nat × FSpec) := [(103, (spP [SSafe] [U8s] safe_shown_t true)), (87, (spP [U8s] [Bo] safe_flash_t)), (93, (spP [SSite, U8s] [Bo] safe_meet_t))]
theorem safe_may_l : AllMeet Tryd.prog V safe_may_L := (.cons safe_shown_m (.cons safe_flash_m (.cons safe_meet_m .nil)))
set_option maxRecDepth 100000 in
theorem safe_may_d : ∀ x : PSSite × PSSafe, denote (mkC Tryd.prog V safe_may_L) 1 (inlOf Tryd.f68 {}) [SSite, SSafe] [Bo] false x = safe_may_t x := fun x => by kernel_rfl
theorem safe_may_m : Meets Tryd.prog V 68 (spP [SSite, SSafe] [Bo] safe_may_t) := meets_part safe_may_l stays hmix (hs := {}) (fnOK Tryd.func68 (by kernel_rfl) (by kernel_rfl) (by kernel_rfl)) false safe_may_d
def law08_SafeSteps_L : List (Nat × FSpec) := [(13, (spP [SSite] [Bo] ref05_Great_t)), (34, (spP [SSafe] [SSafe] ref08_Twin_t)), (33, (spP [SSite] [SSafe, I64] safe_First_t)), (35, (spP [SSite] [SSafe, I64] ref08_First_t)), (32, (spP [SSite] [I64, I64] safe_Greatest_t)), (36, (spP [SSite] [I64, I64] ref08_Greatest_t)), (38, (spP [SSite, SSafe, U8s] [SSafe, U8, I64] ref08_Next_t)), (39, (spP [SSafe, SSafe] [Bo] ref08_Same_t)), (16, (spP [SSite] [I64] site_Check_t)), (68, (spP [SSite, SSafe] [Bo] safe_may_t)), (58, (spP [SSite, SSafe, U8s] [U8] safe_fault_t)), (69, (spP [SSeens] [SSeens] clone_Seen_t true)), (87, (spP [U8s] [Bo] safe_flash_t)), (95, (spT [SGroup, SSeen, U8] [SSeen] lamp_Next)), (66, (spP [SSite] [I64] safe_greatest_t))]
theorem law08_SafeSteps_l : AllMeet Tryd.prog V law08_SafeSteps_L := (.cons ref05_Great_m (.cons ref08_Twin_m (.cons safe_First_m (.cons ref08_First_m (.cons safe_Greatest_m (.cons ref08_Greatest_m (.cons ref08_Next_m (.cons ref08_Same_m (.cons site_Check_m (.cons safe_may_m (.cons safe_fault_m (.cons clone_Seen_m (.cons safe_flash_m (.cons lamp_Next_m (.cons safe_greatest_m .nil)))))))))))))))
noncomputable def law08_SafeSteps_I : List (Nat × Inl) := [(37, inlOf Tryd.f37 {}), (59, inlOf Tryd.f59 { loops := [(0, [.slot 23 I64, .arr 21 SSeen])] })]
theorem law08_SafeSteps_i : AllOK Tryd.prog law08_SafeSteps_I := (.cons (fnOK Tryd.func37 (by kernel_rfl) (by kernel_rfl) (by kernel_rfl)) (.cons (fnOK Tryd.func59 (by kernel_rfl) (by kernel_rfl) (by kernel_rfl)) .nil))
set_option maxRecDepth 100000 in
theorem law08_SafeSteps_d : ∀ x : PSSite × PSSafe × List Int, denote (mkC Tryd.prog V law08_SafeSteps_L law08_SafeSteps_I) 3 (inlOf Tryd.f11 { loops := [(0, [.slot 23 I64, .fown 16 .unit SSeen (.pair I64 Bo)])], joins := [(11, [.fown 16 .unit SSeen (.pair I64 Bo)])], outs := [(11, [(22, Bo)])] }) [SSite, SSafe, U8s] [Bo] false x = law08_SafeSteps_t x := fun x => by kernel_rfl
theorem law08_SafeSteps_m : Meets Tryd.prog V 11 (spP [SSite, SSafe, U8s] [Bo] law08_SafeSteps_t) := meets_part_il law08_SafeSteps_l stays hmix law08_SafeSteps_i (hs := { loops := [(0, [.slot 23 I64, .fown 16 .unit SSeen (.pair I64 Bo)])], joins := [(11, [.fown 16 .unit SSeen (.pair I64 Bo)])], outs := [(11, [(22, Bo)])] }) (fnOK Tryd.func11 (by kernel_rfl) (by kernel_rfl) (by kernel_rfl)) false 3 law08_SafeSteps_d
end Go.Proofs.YtcflbakgpoecaaaDoor
