/- Part of a proof: plain readings of Go functions, their contracts, or plain facts of them. -/
import Derived.Test.YtcflbakgpoecaaaDoorRows
import Derived.Test.YtcflbakgpoecaaaDoorPlnP
import Derived.Lib.Walk
import Derived.Tactics
namespace Go.Proofs.YtcflbakgpoecaaaDoor
open Go.Den Go.RowKit Go.ChangeShapes

theorem hmix : Tryd.prog.follows .mixedOrders = true := by kernel_rfl
theorem laidOut : laidOutB Tryd.prog = true := by kernel_rfl
theorem own : ownKnob Tryd.prog.godebug = none := by kernel_rfl
def V : World → Prop := fun w => ∃ cs t, w.heap[0]? = some (.cells cs t (0, 0)) ∧ cs.toList = Lib.deBruijn32tab.map fun (n : Nat) => Value.int .u8 (n : Int)
theorem stays : Stays V := fun w w' hb ⟨cs, t, h1, h2⟩ => ⟨cs, t, by rw [hb.block 0 ((Array.getElem?_eq_some_iff.1 h1).1)]; exact h1, h2⟩
def law17_three_L : List (Nat × FSpec) := []
theorem law17_three_l : AllMeet Tryd.prog V law17_three_L := .nil
set_option maxRecDepth 100000 in
theorem law17_three_d : ∀ x : Unit, denote (mkC Tryd.prog V law17_three_L) 1 (inlOf Tryd.f19 {}) [] [SSite] false x = law17_three_t x := fun x => by kernel_rfl
theorem law17_three_m : Meets Tryd.prog V 19 (spT [] [SSite] law17_three) := meets_tot law17_three_l stays hmix (hs := {}) (fnOK Tryd.func19 (by kernel_rfl) (by kernel_rfl) (by kernel_rfl)) false fun x => (law17_three_d x).trans (law17_three_e x)
def site_in_L : List (Nat × FSpec) := []
theorem site_in_l : AllMeet Tryd.prog V site_in_L := .nil
set_option maxRecDepth 100000 in
theorem site_in_d : ∀ x : Int × Int × Int, denote (mkC Tryd.prog V site_in_L) 1 (inlOf Tryd.f41 {}) [I64, I64, I64] [Bo] false x = site_in_t x := fun x => by kernel_rfl
theorem site_in_m : Meets Tryd.prog V 41 (spT [I64, I64, I64] [Bo] site_in) := meets_tot site_in_l stays hmix (hs := {}) (fnOK Tryd.func41 (by kernel_rfl) (by kernel_rfl) (by kernel_rfl)) false fun x => (site_in_d x).trans (site_in_e x)
def site_shape_L : List (Nat × FSpec) := [(41, (spT [I64, I64, I64] [Bo] site_in))]
theorem site_shape_l : AllMeet Tryd.prog V site_shape_L := (.cons site_in_m .nil)
set_option maxRecDepth 100000 in
theorem site_shape_d : ∀ x : PSSite, denote (mkC Tryd.prog V site_shape_L) 1 (inlOf Tryd.f42 { loops := [(0, [.slot 48 I64])] }) [SSite] [Bo] false x = site_shape_t x := fun x => by kernel_rfl
theorem site_shape_m : Meets Tryd.prog V 42 (spP [SSite] [Bo] site_shape_t) := meets_part site_shape_l stays hmix (hs := { loops := [(0, [.slot 48 I64])] }) (fnOK Tryd.func42 (by kernel_rfl) (by kernel_rfl) (by kernel_rfl)) false site_shape_d
def site_ticks_L : List (Nat × FSpec) := [(41, (spT [I64, I64, I64] [Bo] site_in))]
theorem site_ticks_l : AllMeet Tryd.prog V site_ticks_L := (.cons site_in_m .nil)
set_option maxRecDepth 100000 in
theorem site_ticks_d : ∀ x : List Int, denote (mkC Tryd.prog V site_ticks_L) 1 (inlOf Tryd.f72 { loops := [(0, [.slot 7 I64])] }) [I64s] [Bo] false x = site_ticks_t x := fun x => by kernel_rfl
theorem site_ticks_m : Meets Tryd.prog V 72 (spT [I64s] [Bo] site_ticks) := meets_up (meets_part site_ticks_l stays hmix (hs := { loops := [(0, [.slot 7 I64])] }) (fnOK Tryd.func72 (by kernel_rfl) (by kernel_rfl) (by kernel_rfl)) false site_ticks_d) site_ticks_e
def ring_bit_L : List (Nat × FSpec) := []
theorem ring_bit_l : AllMeet Tryd.prog V ring_bit_L := .nil
set_option maxRecDepth 100000 in
theorem ring_bit_d : ∀ x : Int, denote (mkC Tryd.prog V ring_bit_L) 1 (inlOf Tryd.f108 {}) [I64] [U32] false x = ring_bit_t x := fun x => by kernel_rfl
theorem ring_bit_m : Meets Tryd.prog V 108 (spT [I64] [U32] ring_bit) := meets_up (meets_part ring_bit_l stays hmix (hs := {}) (fnOK Tryd.func108 (by kernel_rfl) (by kernel_rfl) (by kernel_rfl)) false ring_bit_d) ring_bit_e
def ring_Has_L : List (Nat × FSpec) := [(108, (spT [I64] [U32] ring_bit))]
theorem ring_Has_l : AllMeet Tryd.prog V ring_Has_L := (.cons ring_bit_m .nil)
set_option maxRecDepth 100000 in
theorem ring_Has_d : ∀ x : Int × Int, denote (mkC Tryd.prog V ring_Has_L) 1 (inlOf Tryd.f73 {}) [U32, I64] [Bo] false x = ring_Has_t x := fun x => by kernel_rfl
theorem ring_Has_m : Meets Tryd.prog V 73 (spT [U32, I64] [Bo] ring_Has) := meets_tot ring_Has_l stays hmix (hs := {}) (fnOK Tryd.func73 (by kernel_rfl) (by kernel_rfl) (by kernel_rfl)) false fun x => (ring_Has_d x).trans (ring_Has_e x)
def site_apart_L : List (Nat × FSpec) := [(72, (spT [I64s] [Bo] site_ticks)), (73, (spT [U32, I64] [Bo] ring_Has)), (41, (spT [I64, I64, I64] [Bo] site_in))]
theorem site_apart_l : AllMeet Tryd.prog V site_apart_L := (.cons site_ticks_m (.cons ring_Has_m (.cons site_in_m .nil)))
set_option maxRecDepth 100000 in
theorem site_apart_d : ∀ x : PSSite, denote (mkC Tryd.prog V site_apart_L) 1 (inlOf Tryd.f43 { loops := [(0, [.slot 11 I64]), (2, [.slot 39 I64])] }) [SSite] [Bo] false x = site_apart_t x := fun x => by kernel_rfl
theorem site_apart_m : Meets Tryd.prog V 43 (spP [SSite] [Bo] site_apart_t) := meets_part site_apart_l stays hmix (hs := { loops := [(0, [.slot 11 I64]), (2, [.slot 39 I64])] }) (fnOK Tryd.func43 (by kernel_rfl) (by kernel_rfl) (by kernel_rfl)) false site_apart_d
theorem V.cell {w : World} (h : V w) (i : Nat) (hi : i < 32) : w.cell? ⟨0, i, none⟩ = some (.int .u8 (Lib.deBruijn32tab.getD i 0 : Nat)) := by
  obtain ⟨cs, t, h1, h2⟩ := h
  unfold World.cell?
  rw [h1]
  have : cs[i]? = some (Value.int .u8 (Lib.deBruijn32tab.getD i 0 : Nat)) := by
    rw [← Array.getElem?_toList, h2, List.getElem?_map, List.getD_eq_getElem?_getD]
    have hl : i < Lib.deBruijn32tab.length := hi
    rw [List.getElem?_eq_getElem hl]; rfl
  simpa using this
theorem tz_arith {x : Int} (hx : U32ok x) (h0 : x ≠ 0) : bits .and .u32 x (-x % 4294967296) * 125613361 % 4294967296 / 134217728 = ((2 ^ (Lib.ctz 32 x.toNat) * 125613361 % 4294967296 / 134217728 : Nat) : Int) ∧ Lib.ctz 32 x.toNat < 32 := by
  have hn : x.toNat ≠ 0 := by have := hx.1; omega
  obtain ⟨h1, h2⟩ := Lib.lowest_bit 32 x.toNat hn (natlt hx)
  refine ⟨?_, h2⟩
  have e : -x % 4294967296 = 4294967296 - x := by have := hx.1; have := hx.2; omega
  have hy : U32ok (4294967296 - x) := ⟨by have := hx.2; omega, by have := hx.1; omega⟩
  have hb : bits .and .u32 x (-x % 4294967296) = ((2 ^ Lib.ctz 32 x.toNat : Nat) : Int) := by
    rw [e]
    have hk : bits .and .u32 x (4294967296 - x) = bitop .and .u32 x (4294967296 - x) := rfl
    rw [hk, and_u32 hx hy, ← h1]
    congr 2
    have := hx.1; have := hx.2
    have : (2 : Nat) ^ 32 = 4294967296 := by decide
    omega
  rw [hb]
  simp
theorem inR_u32 {x : Int} (h : inR .u32 x = true) : U32ok x := by
  simpa [inR, IntKind.min, IntKind.max, IntKind.signed, IntKind.bits, U32ok] using h
theorem inR_i64 {y : Int} (h0 : 0 ≤ y) (h1 : y ≤ 1000000) : inR .i64 y = true := by
  simp only [inR, IntKind.min, IntKind.max, IntKind.signed, IntKind.bits, Bool.and_eq_true, decide_eq_true_eq]
  simp
  omega
theorem tz_bound {x : Int} (hx : U32ok x) : 0 ≤ bits_TrailingZeros32 x ∧ bits_TrailingZeros32 x ≤ 32 := by
  unfold bits_TrailingZeros32
  by_cases hz : x = 0
  · simp [low, hz]
  · have := low_spec hx hz; omega
theorem tz_walk (x : Int) (w : World) (hx : U32ok x) (hv : V w) :
    Calls Tryd.prog 109 #[.int .u32 x] w fun e w' => e = .returned (.int .i64 (bits_TrailingZeros32 x)) ∧ w' = w := by
  have hc := hv.cell
  have h0 := hx.1
  have h1 := hx.2
  by_cases hz : x = 0
  · subst hz
    go_enter Tryd.func109, Tryd.ntmps109
    go_wp2
    all_goals first | (go_ret; exact ⟨rfl, rfl⟩) | (rename_i h; exact absurd h (by decide))
  · go_enter Tryd.func109, Tryd.ntmps109
    go_wp2
    · rename_i h
      exact absurd (by simpa using h) hz
    · go_ret
      refine ⟨?_, rfl⟩
      obtain ⟨h2, h3⟩ := tz_arith hx hz
      obtain ⟨h4, h5⟩ := Lib.deBruijn32_at _ h3
      have e : ((Lib.deBruijn32tab[(bits BinOp.and IntKind.u32 x (-x % 4294967296) * 125613361 % 4294967296 / 134217728).toNat]?.getD 0 : Nat) : Int) = Lib.ctz 32 x.toNat := by
        rw [h2, Int.toNat_natCast, ← List.getD_eq_getElem?_getD, h5]
      have hn : x.toNat ≠ 0 := by omega
      have hl : bits_TrailingZeros32 x = Lib.ctz 32 x.toNat := by simp [bits_TrailingZeros32, low, hz]
      rw [hl, e]
      have e3 : ((Lib.ctz 32 x.toNat : Int) + 9223372036854775808) % 18446744073709551616 - 9223372036854775808 = Lib.ctz 32 x.toNat := by omega
      rw [e3]
      rfl
theorem bits_TrailingZeros32_m : Meets Tryd.prog V 109 (spT [U32] [I64] bits_TrailingZeros32) where
  enters := fun args w => by
    have h : FnOK Tryd.prog 109 (inlOf Tryd.f109 {}) := fnOK Tryd.func109 (by kernel_rfl) (by kernel_rfl) (by kernel_rfl)
    exact h.enters args w
  tot := fun g hg x => by cases hg; rfl
  calls := fun w F vals x y hv hF hr hy => by
    have hy' : some (bits_TrailingZeros32 x) = some y := hy
    cases hy'
    obtain ⟨us, h1, h2⟩ := hr
    have h1' : us = [.int .u32 x] ∧ inR .u32 x = true := h1
    obtain ⟨rfl, hin⟩ := h1'
    have hx : U32ok x := inR_u32 hin
    have : vals = [.int .u32 x] := h2
    subst this
    have hb : inR .i64 (bits_TrailingZeros32 x) = true := inR_i64 (tz_bound hx).1 (by have := (tz_bound hx).2; omega)
    refine (tz_walk x w hx hv).mono fun e w' ⟨he, hw⟩ => ?_
    subst hw
    exact ⟨[.int .i64 (bits_TrailingZeros32 x)], by rw [he]; rfl, Below.refl _ _, ⟨_, ⟨rfl, hb⟩, rfl⟩⟩

def ring_Least_L : List (Nat × FSpec) := [(109, (spT [U32] [I64] bits_TrailingZeros32))]
theorem ring_Least_l : AllMeet Tryd.prog V ring_Least_L := (.cons bits_TrailingZeros32_m .nil)
set_option maxRecDepth 100000 in
theorem ring_Least_d : ∀ x : Int, denote (mkC Tryd.prog V ring_Least_L) 1 (inlOf Tryd.f74 {}) [U32] [I64] false x = ring_Least_t x := fun x => by kernel_rfl
theorem ring_Least_m : Meets Tryd.prog V 74 (spT [U32] [I64] ring_Least) := meets_tot ring_Least_l stays hmix (hs := {}) (fnOK Tryd.func74 (by kernel_rfl) (by kernel_rfl) (by kernel_rfl)) false fun x => (ring_Least_d x).trans (ring_Least_e x)
def ring_Without_L : List (Nat × FSpec) := [(108, (spT [I64] [U32] ring_bit))]
theorem ring_Without_l : AllMeet Tryd.prog V ring_Without_L := (.cons ring_bit_m .nil)
set_option maxRecDepth 100000 in
theorem ring_Without_d : ∀ x : Int × Int, denote (mkC Tryd.prog V ring_Without_L) 1 (inlOf Tryd.f75 {}) [U32, I64] [U32] false x = ring_Without_t x := fun x => by kernel_rfl
theorem ring_Without_m : Meets Tryd.prog V 75 (spT [U32, I64] [U32] ring_Without) := meets_tot ring_Without_l stays hmix (hs := {}) (fnOK Tryd.func75 (by kernel_rfl) (by kernel_rfl) (by kernel_rfl)) false fun x => (ring_Without_d x).trans (ring_Without_e x)
theorem bits_OnesCount32_d : ∀ x : Int, denote (mkC Tryd.prog V []) 1 (inlOf Tryd.f110 {}) [U32] [I64] false x = ocTree x := fun x => by kernel_rfl
theorem bits_OnesCount32_m : Meets Tryd.prog V 110 (spT [U32] [I64] bits_OnesCount32) := meets_up (meets_part .nil stays hmix (hs := {}) (fnOK Tryd.func110 (by kernel_rfl) (by kernel_rfl) (by kernel_rfl)) false bits_OnesCount32_d) (fun x hf => ocTree_eq (fits_u32 hf))

def ring_Count_L : List (Nat × FSpec) := [(110, (spT [U32] [I64] bits_OnesCount32))]
theorem ring_Count_l : AllMeet Tryd.prog V ring_Count_L := (.cons bits_OnesCount32_m .nil)
set_option maxRecDepth 100000 in
theorem ring_Count_d : ∀ x : Int, denote (mkC Tryd.prog V ring_Count_L) 1 (inlOf Tryd.f76 {}) [U32] [I64] false x = ring_Count_t x := fun x => by kernel_rfl
theorem ring_Count_m : Meets Tryd.prog V 76 (spT [U32] [I64] ring_Count) := meets_tot ring_Count_l stays hmix (hs := {}) (fnOK Tryd.func76 (by kernel_rfl) (by kernel_rfl) (by kernel_rfl)) false fun x => (ring_Count_d x).trans (ring_Count_e x)
def site_phased_L : List (Nat × FSpec) := [(72, (spT [I64s] [Bo] site_ticks)), (74, (spT [U32] [I64] ring_Least)), (75, (spT [U32, I64] [U32] ring_Without)), (76, (spT [U32] [I64] ring_Count))]
theorem site_phased_l : AllMeet Tryd.prog V site_phased_L := (.cons site_ticks_m (.cons ring_Least_m (.cons ring_Without_m (.cons ring_Count_m .nil))))
set_option maxRecDepth 100000 in
theorem site_phased_d : ∀ x : PSSite, denote (mkC Tryd.prog V site_phased_L) 1 (inlOf Tryd.f44 { loops := [(0, [.slot 3 U32, .slot 11 I64]), (2, [.slot 6 U32])] }) [SSite] [Bo] false x = site_phased_t x := fun x => by kernel_rfl
theorem site_phased_m : Meets Tryd.prog V 44 (spP [SSite] [Bo] site_phased_t) := meets_part site_phased_l stays hmix (hs := { loops := [(0, [.slot 3 U32, .slot 11 I64]), (2, [.slot 6 U32])] }) (fnOK Tryd.func44 (by kernel_rfl) (by kernel_rfl) (by kernel_rfl)) false site_phased_d
def site_eyed_L : List (Nat × FSpec) := [(41, (spT [I64, I64, I64] [Bo] site_in)), (72, (spT [I64s] [Bo] site_ticks))]
theorem site_eyed_l : AllMeet Tryd.prog V site_eyed_L := (.cons site_in_m (.cons site_ticks_m .nil))
set_option maxRecDepth 100000 in
theorem site_eyed_d : ∀ x : PSSite, denote (mkC Tryd.prog V site_eyed_L) 1 (inlOf Tryd.f45 { loops := [(0, [.slot 8 I64])] }) [SSite] [Bo] false x = site_eyed_t x := fun x => by kernel_rfl
theorem site_eyed_m : Meets Tryd.prog V 45 (spP [SSite] [Bo] site_eyed_t) := meets_part site_eyed_l stays hmix (hs := { loops := [(0, [.slot 8 I64])] }) (fnOK Tryd.func45 (by kernel_rfl) (by kernel_rfl) (by kernel_rfl)) false site_eyed_d
def site_clear_L : List (Nat × FSpec) := [(73, (spT [U32, I64] [Bo] ring_Has)), (74, (spT [U32] [I64] ring_Least)), (75, (spT [U32, I64] [U32] ring_Without))]
theorem site_clear_l : AllMeet Tryd.prog V site_clear_L := (.cons ring_Has_m (.cons ring_Least_m (.cons ring_Without_m .nil)))
set_option maxRecDepth 100000 in
theorem site_clear_d : ∀ x : PSSite × Int × Int, denote (mkC Tryd.prog V site_clear_L) 1 (inlOf Tryd.f107 { loops := [(0, [.slot 6 I64, .slot 13 I64]), (2, [.slot 6 I64, .slot 8 U32])] }) [SSite, I64, I64] [I64] false x = site_clear_t x := fun x => by kernel_rfl
theorem site_clear_m : Meets Tryd.prog V 107 (spP [SSite, I64, I64] [I64] site_clear_t) := meets_part site_clear_l stays hmix (hs := { loops := [(0, [.slot 6 I64, .slot 13 I64]), (2, [.slot 6 I64, .slot 8 U32])] }) (fnOK Tryd.func107 (by kernel_rfl) (by kernel_rfl) (by kernel_rfl)) false site_clear_d
def site_needs_L : List (Nat × FSpec) := [(107, (spP [SSite, I64, I64] [I64] site_clear_t))]
theorem site_needs_l : AllMeet Tryd.prog V site_needs_L := (.cons site_clear_m .nil)
set_option maxRecDepth 100000 in
theorem site_needs_d : ∀ x : PSSite × Int, denote (mkC Tryd.prog V site_needs_L) 1 (inlOf Tryd.f77 {}) [SSite, I64] [I64] false x = site_needs_t x := fun x => by kernel_rfl
theorem site_needs_m : Meets Tryd.prog V 77 (spP [SSite, I64] [I64] site_needs_t) := meets_part site_needs_l stays hmix (hs := {}) (fnOK Tryd.func77 (by kernel_rfl) (by kernel_rfl) (by kernel_rfl)) false site_needs_d
def site_timed_L : List (Nat × FSpec) := [(77, (spP [SSite, I64] [I64] site_needs_t)), (72, (spT [I64s] [Bo] site_ticks))]
theorem site_timed_l : AllMeet Tryd.prog V site_timed_L := (.cons site_needs_m (.cons site_ticks_m .nil))
set_option maxRecDepth 100000 in
theorem site_timed_d : ∀ x : PSSite, denote (mkC Tryd.prog V site_timed_L) 1 (inlOf Tryd.f46 { loops := [(0, [.slot 3 I64, .slot 8 I64])] }) [SSite] [Bo] false x = site_timed_t x := fun x => by kernel_rfl
theorem site_timed_m : Meets Tryd.prog V 46 (spP [SSite] [Bo] site_timed_t) := meets_part site_timed_l stays hmix (hs := { loops := [(0, [.slot 3 I64, .slot 8 I64])] }) (fnOK Tryd.func46 (by kernel_rfl) (by kernel_rfl) (by kernel_rfl)) false site_timed_d
def site_fits_L : List (Nat × FSpec) := [(41, (spT [I64, I64, I64] [Bo] site_in)), (77, (spP [SSite, I64] [I64] site_needs_t))]
theorem site_fits_l : AllMeet Tryd.prog V site_fits_L := (.cons site_in_m (.cons site_needs_m .nil))
set_option maxRecDepth 100000 in
theorem site_fits_d : ∀ x : PSSite × PSPlan, denote (mkC Tryd.prog V site_fits_L) 1 (inlOf Tryd.f48 { loops := [(0, [.slot 5 I64, .slot 39 I64])] }) [SSite, SPlan] [Bo] false x = site_fits_t x := fun x => by kernel_rfl
theorem site_fits_m : Meets Tryd.prog V 48 (spP [SSite, SPlan] [Bo] site_fits_t) := meets_part site_fits_l stays hmix (hs := { loops := [(0, [.slot 5 I64, .slot 39 I64])] }) (fnOK Tryd.func48 (by kernel_rfl) (by kernel_rfl) (by kernel_rfl)) false site_fits_d
def site_planned_L : List (Nat × FSpec) := [(48, (spP [SSite, SPlan] [Bo] site_fits_t))]
theorem site_planned_l : AllMeet Tryd.prog V site_planned_L := (.cons site_fits_m .nil)
set_option maxRecDepth 100000 in
theorem site_planned_d : ∀ x : PSSite, denote (mkC Tryd.prog V site_planned_L) 1 (inlOf Tryd.f47 { loops := [(0, [.slot 8 I64])] }) [SSite] [Bo] false x = site_planned_t x := fun x => by kernel_rfl
theorem site_planned_m : Meets Tryd.prog V 47 (spP [SSite] [Bo] site_planned_t) := meets_part site_planned_l stays hmix (hs := { loops := [(0, [.slot 8 I64])] }) (fnOK Tryd.func47 (by kernel_rfl) (by kernel_rfl) (by kernel_rfl)) false site_planned_d
def site_Check_L : List (Nat × FSpec) := [(41, (spT [I64, I64, I64] [Bo] site_in)), (42, (spP [SSite] [Bo] site_shape_t)), (43, (spP [SSite] [Bo] site_apart_t)), (44, (spP [SSite] [Bo] site_phased_t)), (45, (spP [SSite] [Bo] site_eyed_t)), (46, (spP [SSite] [Bo] site_timed_t)), (47, (spP [SSite] [Bo] site_planned_t))]
theorem site_Check_l : AllMeet Tryd.prog V site_Check_L := (.cons site_in_m (.cons site_shape_m (.cons site_apart_m (.cons site_phased_m (.cons site_eyed_m (.cons site_timed_m (.cons site_planned_m .nil)))))))
set_option maxRecDepth 100000 in
theorem site_Check_d : ∀ x : PSSite, denote (mkC Tryd.prog V site_Check_L) 1 (inlOf Tryd.f16 { loops := [(0, [.slot 3 Bo, .slot 5 I64])] }) [SSite] [I64] false x = site_Check_t x := fun x => by kernel_rfl
theorem site_Check_m : Meets Tryd.prog V 16 (spP [SSite] [I64] site_Check_t) := meets_part site_Check_l stays hmix (hs := { loops := [(0, [.slot 3 Bo, .slot 5 I64])] }) (fnOK Tryd.func16 (by kernel_rfl) (by kernel_rfl) (by kernel_rfl)) false site_Check_d
def plan_next_L : List (Nat × FSpec) := []
theorem plan_next_l : AllMeet Tryd.prog V plan_next_L := .nil
set_option maxRecDepth 100000 in
theorem plan_next_d : ∀ x : PSSite × Int, denote (mkC Tryd.prog V plan_next_L) 1 (inlOf Tryd.f50 {}) [SSite, I64] [I64] false x = plan_next_t x := fun x => by kernel_rfl
theorem plan_next_m : Meets Tryd.prog V 50 (spP [SSite, I64] [I64] plan_next_t) := meets_part plan_next_l stays hmix (hs := {}) (fnOK Tryd.func50 (by kernel_rfl) (by kernel_rfl) (by kernel_rfl)) false plan_next_d
def site_Clear_L : List (Nat × FSpec) := [(107, (spP [SSite, I64, I64] [I64] site_clear_t)), (16, (spP [SSite] [I64] site_Check_t)), (41, (spT [I64, I64, I64] [Bo] site_in))]
theorem site_Clear_l : AllMeet Tryd.prog V site_Clear_L := (.cons site_clear_m (.cons site_Check_m (.cons site_in_m .nil)))
noncomputable def site_Clear_I : List (Nat × Inl) := [(105, inlOf Tryd.f105 { loops := [(0, [.slot 17 I64])] }), (106, inlOf Tryd.f106 {})]
theorem site_Clear_i : AllOK Tryd.prog site_Clear_I := (.cons (fnOK Tryd.func105 (by kernel_rfl) (by kernel_rfl) (by kernel_rfl)) (.cons (fnOK Tryd.func106 (by kernel_rfl) (by kernel_rfl) (by kernel_rfl)) .nil))
set_option maxRecDepth 100000 in
theorem site_Clear_d : ∀ x : PSSite × Int × Int, denote (mkC Tryd.prog V site_Clear_L site_Clear_I) 3 (inlOf Tryd.f71 { joins := [(2, [])], outs := [(2, [(8, I64)])] }) [SSite, I64, I64] [I64, I64] false x = site_Clear_t x := fun x => by kernel_rfl
theorem site_Clear_m : Meets Tryd.prog V 71 (spP [SSite, I64, I64] [I64, I64] site_Clear_t) := meets_part_il site_Clear_l stays hmix site_Clear_i (hs := { joins := [(2, [])], outs := [(2, [(8, I64)])] }) (fnOK Tryd.func71 (by kernel_rfl) (by kernel_rfl) (by kernel_rfl)) false 3 site_Clear_d
def plan_clear_L : List (Nat × FSpec) := [(50, (spP [SSite, I64] [I64] plan_next_t)), (71, (spP [SSite, I64, I64] [I64, I64] site_Clear_t))]
theorem plan_clear_l : AllMeet Tryd.prog V plan_clear_L := (.cons plan_next_m (.cons site_Clear_m .nil))
set_option maxRecDepth 100000 in
theorem plan_clear_d : ∀ x : PSSite × Int, denote (mkC Tryd.prog V plan_clear_L) 1 (inlOf Tryd.f40 {}) [SSite, I64] [I64] false x = plan_clear_t x := fun x => by kernel_rfl
theorem plan_clear_m : Meets Tryd.prog V 40 (spP [SSite, I64] [I64] plan_clear_t) := meets_part plan_clear_l stays hmix (hs := {}) (fnOK Tryd.func40 (by kernel_rfl) (by kernel_rfl) (by kernel_rfl)) false plan_clear_d
def plan_Clamp_L : List (Nat × FSpec) := [(16, (spP [SSite] [I64] site_Check_t)), (40, (spP [SSite, I64] [I64] plan_clear_t))]
theorem plan_Clamp_l : AllMeet Tryd.prog V plan_Clamp_L := (.cons site_Check_m (.cons plan_clear_m .nil))
set_option maxRecDepth 100000 in
theorem plan_Clamp_d : ∀ x : PSSite × PSPlan, denote (mkC Tryd.prog V plan_Clamp_L) 1 (inlOf Tryd.f14 { loops := [(0, [.slot 54 I64, .slot 8 I64, .slot 9 I64, .slot 10 I64, .fown 7 (.pair I64 I64) I64 .unit, .arr 11 I64]), (2, [.slot 115 I64, .slot 15 I64, .fown 7 (.pair I64 I64) I64 .unit])], joins := [(14, [.fown 7 (.pair I64 I64) I64 .unit, .arr 11 I64]), (16, [.slot 10 I64, .fown 7 (.pair I64 I64) I64 .unit, .arr 11 I64])] }) [SSite, SPlan] [SPlan, I64] false x = plan_Clamp_t x := fun x => by kernel_rfl
theorem plan_Clamp_m : Meets Tryd.prog V 14 (spP [SSite, SPlan] [SPlan, I64] plan_Clamp_t) := meets_part plan_Clamp_l stays hmix (hs := { loops := [(0, [.slot 54 I64, .slot 8 I64, .slot 9 I64, .slot 10 I64, .fown 7 (.pair I64 I64) I64 .unit, .arr 11 I64]), (2, [.slot 115 I64, .slot 15 I64, .fown 7 (.pair I64 I64) I64 .unit])], joins := [(14, [.fown 7 (.pair I64 I64) I64 .unit, .arr 11 I64]), (16, [.slot 10 I64, .fown 7 (.pair I64 I64) I64 .unit, .arr 11 I64])] }) (fnOK Tryd.func14 (by kernel_rfl) (by kernel_rfl) (by kernel_rfl)) false plan_Clamp_d
def law17_alive_L : List (Nat × FSpec) := [(19, (spT [] [SSite] law17_three)), (14, (spP [SSite, SPlan] [SPlan, I64] plan_Clamp_t))]
theorem law17_alive_l : AllMeet Tryd.prog V law17_alive_L := (.cons law17_three_m (.cons plan_Clamp_m .nil))
noncomputable def law17_alive_I : List (Nat × Inl) := [(20, inlOf Tryd.f20 {})]
theorem law17_alive_i : AllOK Tryd.prog law17_alive_I := (.cons (fnOK Tryd.func20 (by kernel_rfl) (by kernel_rfl) (by kernel_rfl)) .nil)
set_option maxRecDepth 100000 in
theorem law17_alive_d : ∀ x : Unit, denote (mkC Tryd.prog V law17_alive_L law17_alive_I) 2 (inlOf Tryd.f12 {}) [] [Bo] false x = law17_alive_t x := fun x => by kernel_rfl
theorem law17_alive_m : Meets Tryd.prog V 12 (spP [] [Bo] law17_alive_t) := meets_part_il law17_alive_l stays hmix law17_alive_i (hs := {}) (fnOK Tryd.func12 (by kernel_rfl) (by kernel_rfl) (by kernel_rfl)) false 2 law17_alive_d
def ref05_Great_L : List (Nat × FSpec) := []
theorem ref05_Great_l : AllMeet Tryd.prog V ref05_Great_L := .nil
set_option maxRecDepth 100000 in
theorem ref05_Great_d : ∀ x : PSSite, denote (mkC Tryd.prog V ref05_Great_L) 1 (inlOf Tryd.f13 { loops := [(0, [.slot 3 I64]), (2, [.slot 4 I64])] }) [SSite] [Bo] false x = ref05_Great_t x := fun x => by kernel_rfl
theorem ref05_Great_m : Meets Tryd.prog V 13 (spP [SSite] [Bo] ref05_Great_t) := meets_part ref05_Great_l stays hmix (hs := { loops := [(0, [.slot 3 I64]), (2, [.slot 4 I64])] }) (fnOK Tryd.func13 (by kernel_rfl) (by kernel_rfl) (by kernel_rfl)) false ref05_Great_d
def law17_same_L : List (Nat × FSpec) := []
theorem law17_same_l : AllMeet Tryd.prog V law17_same_L := .nil
set_option maxRecDepth 100000 in
theorem law17_same_d : ∀ x : PSPlan × PSPlan, denote (mkC Tryd.prog V law17_same_L) 1 (inlOf Tryd.f15 { loops := [(0, [.slot 5 I64])] }) [SPlan, SPlan] [Bo] false x = law17_same_t x := fun x => by kernel_rfl
theorem law17_same_m : Meets Tryd.prog V 15 (spP [SPlan, SPlan] [Bo] law17_same_t) := meets_part law17_same_l stays hmix (hs := { loops := [(0, [.slot 5 I64])] }) (fnOK Tryd.func15 (by kernel_rfl) (by kernel_rfl) (by kernel_rfl)) false law17_same_d
def site_Plan_L : List (Nat × FSpec) := [(16, (spP [SSite] [I64] site_Check_t)), (48, (spP [SSite, SPlan] [Bo] site_fits_t))]
theorem site_Plan_l : AllMeet Tryd.prog V site_Plan_L := (.cons site_Check_m (.cons site_fits_m .nil))
set_option maxRecDepth 100000 in
theorem site_Plan_d : ∀ x : PSSite × PSPlan, denote (mkC Tryd.prog V site_Plan_L) 1 (inlOf Tryd.f17 {}) [SSite, SPlan] [Bo, I64] false x = site_Plan_t x := fun x => by kernel_rfl
theorem site_Plan_m : Meets Tryd.prog V 17 (spP [SSite, SPlan] [Bo, I64] site_Plan_t) := meets_part site_Plan_l stays hmix (hs := {}) (fnOK Tryd.func17 (by kernel_rfl) (by kernel_rfl) (by kernel_rfl)) false site_Plan_d
def law17_PlanClamps_L : List (Nat × FSpec) := [(12, (spP [] [Bo] law17_alive_t)), (13, (spP [SSite] [Bo] ref05_Great_t)), (14, (spP [SSite, SPlan] [SPlan, I64] plan_Clamp_t)), (15, (spP [SPlan, SPlan] [Bo] law17_same_t)), (16, (spP [SSite] [I64] site_Check_t)), (17, (spP [SSite, SPlan] [Bo, I64] site_Plan_t))]
theorem law17_PlanClamps_l : AllMeet Tryd.prog V law17_PlanClamps_L := (.cons law17_alive_m (.cons ref05_Great_m (.cons plan_Clamp_m (.cons law17_same_m (.cons site_Check_m (.cons site_Plan_m .nil))))))
set_option maxRecDepth 100000 in
theorem law17_PlanClamps_d : ∀ x : PSSite × PSPlan, denote (mkC Tryd.prog V law17_PlanClamps_L) 1 (inlOf Tryd.f3 {}) [SSite, SPlan] [Bo] false x = law17_PlanClamps_t x := fun x => by kernel_rfl
theorem law17_PlanClamps_m : Meets Tryd.prog V 3 (spP [SSite, SPlan] [Bo] law17_PlanClamps_t) := meets_part law17_PlanClamps_l stays hmix (hs := {}) (fnOK Tryd.func3 (by kernel_rfl) (by kernel_rfl) (by kernel_rfl)) false law17_PlanClamps_d
end Go.Proofs.YtcflbakgpoecaaaDoor
