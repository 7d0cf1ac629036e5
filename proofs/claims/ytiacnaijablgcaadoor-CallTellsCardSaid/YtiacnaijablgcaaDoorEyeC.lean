/- Part of a proof: plain readings of Go functions, their contracts, or plain facts of them. -/
import Derived.Test.YtiacnaijablgcaaDoorRows
import Derived.Test.YtiacnaijablgcaaDoorEyeP
import Derived.Lib.Walk
import Derived.Tactics
namespace Go.Proofs.YtiacnaijablgcaaDoor
open Go.Den Go.RowKit Go.ChangeShapes

theorem hmix : Tryd.prog.follows .mixedOrders = true := by kernel_rfl
theorem laidOut : laidOutB Tryd.prog = true := by kernel_rfl
theorem own : ownKnob Tryd.prog.godebug = none := by kernel_rfl
def V : World → Prop := fun w => ∃ cs t, w.heap[0]? = some (.cells cs t (0, 0)) ∧ cs.toList = Lib.deBruijn32tab.map fun (n : Nat) => Value.int .u8 (n : Int)
theorem stays : Stays V := fun w w' hb ⟨cs, t, h1, h2⟩ => ⟨cs, t, by rw [hb.block 0 ((Array.getElem?_eq_some_iff.1 h1).1)]; exact h1, h2⟩
def law13_seen_L : List (Nat × FSpec) := []
theorem law13_seen_l : AllMeet Tryd.prog V law13_seen_L := .nil
set_option maxRecDepth 100000 in
theorem law13_seen_d : ∀ x : Unit, denote (mkC Tryd.prog V law13_seen_L) 1 (inlOf Tryd.f32 {}) [] [SSite] false x = law13_seen_t x := fun x => by kernel_rfl
theorem law13_seen_m : Meets Tryd.prog V 32 (spT [] [SSite] law13_seen) := meets_tot law13_seen_l stays hmix (hs := {}) (fnOK Tryd.func32 (by kernel_rfl) (by kernel_rfl) (by kernel_rfl)) false fun x => (law13_seen_d x).trans (law13_seen_e x)
def site_in_L : List (Nat × FSpec) := []
theorem site_in_l : AllMeet Tryd.prog V site_in_L := .nil
set_option maxRecDepth 100000 in
theorem site_in_d : ∀ x : Int × Int × Int, denote (mkC Tryd.prog V site_in_L) 1 (inlOf Tryd.f40 {}) [I64, I64, I64] [Bo] false x = site_in_t x := fun x => by kernel_rfl
theorem site_in_m : Meets Tryd.prog V 40 (spT [I64, I64, I64] [Bo] site_in) := meets_tot site_in_l stays hmix (hs := {}) (fnOK Tryd.func40 (by kernel_rfl) (by kernel_rfl) (by kernel_rfl)) false fun x => (site_in_d x).trans (site_in_e x)
def site_shape_L : List (Nat × FSpec) := [(40, (spT [I64, I64, I64] [Bo] site_in))]
theorem site_shape_l : AllMeet Tryd.prog V site_shape_L := (.cons site_in_m .nil)
set_option maxRecDepth 100000 in
theorem site_shape_d : ∀ x : PSSite, denote (mkC Tryd.prog V site_shape_L) 1 (inlOf Tryd.f41 { loops := [(0, [.slot 48 I64])] }) [SSite] [Bo] false x = site_shape_t x := fun x => by kernel_rfl
theorem site_shape_m : Meets Tryd.prog V 41 (spP [SSite] [Bo] site_shape_t) := meets_part site_shape_l stays hmix (hs := { loops := [(0, [.slot 48 I64])] }) (fnOK Tryd.func41 (by kernel_rfl) (by kernel_rfl) (by kernel_rfl)) false site_shape_d
def site_ticks_L : List (Nat × FSpec) := [(40, (spT [I64, I64, I64] [Bo] site_in))]
theorem site_ticks_l : AllMeet Tryd.prog V site_ticks_L := (.cons site_in_m .nil)
set_option maxRecDepth 100000 in
theorem site_ticks_d : ∀ x : List Int, denote (mkC Tryd.prog V site_ticks_L) 1 (inlOf Tryd.f61 { loops := [(0, [.slot 7 I64])] }) [I64s] [Bo] false x = site_ticks_t x := fun x => by kernel_rfl
theorem site_ticks_m : Meets Tryd.prog V 61 (spT [I64s] [Bo] site_ticks) := meets_up (meets_part site_ticks_l stays hmix (hs := { loops := [(0, [.slot 7 I64])] }) (fnOK Tryd.func61 (by kernel_rfl) (by kernel_rfl) (by kernel_rfl)) false site_ticks_d) site_ticks_e
def ring_bit_L : List (Nat × FSpec) := []
theorem ring_bit_l : AllMeet Tryd.prog V ring_bit_L := .nil
set_option maxRecDepth 100000 in
theorem ring_bit_d : ∀ x : Int, denote (mkC Tryd.prog V ring_bit_L) 1 (inlOf Tryd.f66 {}) [I64] [U32] false x = ring_bit_t x := fun x => by kernel_rfl
theorem ring_bit_m : Meets Tryd.prog V 66 (spT [I64] [U32] ring_bit) := meets_up (meets_part ring_bit_l stays hmix (hs := {}) (fnOK Tryd.func66 (by kernel_rfl) (by kernel_rfl) (by kernel_rfl)) false ring_bit_d) ring_bit_e
def ring_Has_L : List (Nat × FSpec) := [(66, (spT [I64] [U32] ring_bit))]
theorem ring_Has_l : AllMeet Tryd.prog V ring_Has_L := (.cons ring_bit_m .nil)
set_option maxRecDepth 100000 in
theorem ring_Has_d : ∀ x : Int × Int, denote (mkC Tryd.prog V ring_Has_L) 1 (inlOf Tryd.f50 {}) [U32, I64] [Bo] false x = ring_Has_t x := fun x => by kernel_rfl
theorem ring_Has_m : Meets Tryd.prog V 50 (spT [U32, I64] [Bo] ring_Has) := meets_tot ring_Has_l stays hmix (hs := {}) (fnOK Tryd.func50 (by kernel_rfl) (by kernel_rfl) (by kernel_rfl)) false fun x => (ring_Has_d x).trans (ring_Has_e x)
def site_apart_L : List (Nat × FSpec) := [(61, (spT [I64s] [Bo] site_ticks)), (50, (spT [U32, I64] [Bo] ring_Has)), (40, (spT [I64, I64, I64] [Bo] site_in))]
theorem site_apart_l : AllMeet Tryd.prog V site_apart_L := (.cons site_ticks_m (.cons ring_Has_m (.cons site_in_m .nil)))
set_option maxRecDepth 100000 in
theorem site_apart_d : ∀ x : PSSite, denote (mkC Tryd.prog V site_apart_L) 1 (inlOf Tryd.f42 { loops := [(0, [.slot 11 I64]), (2, [.slot 39 I64])] }) [SSite] [Bo] false x = site_apart_t x := fun x => by kernel_rfl
theorem site_apart_m : Meets Tryd.prog V 42 (spP [SSite] [Bo] site_apart_t) := meets_part site_apart_l stays hmix (hs := { loops := [(0, [.slot 11 I64]), (2, [.slot 39 I64])] }) (fnOK Tryd.func42 (by kernel_rfl) (by kernel_rfl) (by kernel_rfl)) false site_apart_d
theorem V.cell {w : World} (h : V w) (i : Nat) (hi : i < 32) : w.cell? ⟨0, i, none⟩ = some (.int .u8 (Lib.deBruijn32tab.getD i 0 : Nat)) := by
  obtain ⟨cs, t, h1, h2⟩ := h
  unfold World.cell?
  rw [h1]
  have : cs[i]? = some (Value.int .u8 (Lib.deBruijn32tab.getD i 0 : Nat)) := by
    rw [← Array.getElem?_toList, h2, List.getElem?_map, List.getD_eq_getElem?_getD]
    have hl : i < Lib.deBruijn32tab.length := hi
    rw [List.getElem?_eq_getElem hl]; rfl
  simpa using this
theorem tz_arith {x : Int} (hx : U32ok x) (h0 : x ≠ 0) : bits .and .u32 x (-x % 4294967296) * 125613361 % 4294967296 / 134217728 = ((2 ^ (Lib.ctz 32 x.toNat) * 125613361 % 4294967296 / 134217728 : Nat) : Int) ∧ Lib.ctz 32 x.toNat < 32 := by
  have hn : x.toNat ≠ 0 := by have := hx.1; omega
  obtain ⟨h1, h2⟩ := Lib.lowest_bit 32 x.toNat hn (natlt hx)
  refine ⟨?_, h2⟩
  have e : -x % 4294967296 = 4294967296 - x := by have := hx.1; have := hx.2; omega
  have hy : U32ok (4294967296 - x) := ⟨by have := hx.2; omega, by have := hx.1; omega⟩
  have hb : bits .and .u32 x (-x % 4294967296) = ((2 ^ Lib.ctz 32 x.toNat : Nat) : Int) := by
    rw [e]
    have hk : bits .and .u32 x (4294967296 - x) = bitop .and .u32 x (4294967296 - x) := rfl
    rw [hk, and_u32 hx hy, ← h1]
    congr 2
    have := hx.1; have := hx.2
    have : (2 : Nat) ^ 32 = 4294967296 := by decide
    omega
  rw [hb]
  simp
theorem inR_u32 {x : Int} (h : inR .u32 x = true) : U32ok x := by
  simpa [inR, IntKind.min, IntKind.max, IntKind.signed, IntKind.bits, U32ok] using h
theorem inR_i64 {y : Int} (h0 : 0 ≤ y) (h1 : y ≤ 1000000) : inR .i64 y = true := by
  simp only [inR, IntKind.min, IntKind.max, IntKind.signed, IntKind.bits, Bool.and_eq_true, decide_eq_true_eq]
  simp
  omega
theorem tz_bound {x : Int} (hx : U32ok x) : 0 ≤ bits_TrailingZeros32 x ∧ bits_TrailingZeros32 x ≤ 32 := by
  unfold bits_TrailingZeros32
  by_cases hz : x = 0
  · simp [low, hz]
  · have := low_spec hx hz; omega
theorem tz_walk (x : Int) (w : World) (hx : U32ok x) (hv : V w) :
    Calls Tryd.prog 73 #[.int .u32 x] w fun e w' => e = .returned (.int .i64 (bits_TrailingZeros32 x)) ∧ w' = w := by
  have hc := hv.cell
  have h0 := hx.1
  have h1 := hx.2
  by_cases hz : x = 0
  · subst hz
    go_enter Tryd.func73, Tryd.ntmps73
    go_wp2
    all_goals first | (go_ret; exact ⟨rfl, rfl⟩) | (rename_i h; exact absurd h (by decide))
  · go_enter Tryd.func73, Tryd.ntmps73
    go_wp2
    · rename_i h
      exact absurd (by simpa using h) hz
    · go_ret
      refine ⟨?_, rfl⟩
      obtain ⟨h2, h3⟩ := tz_arith hx hz
      obtain ⟨h4, h5⟩ := Lib.deBruijn32_at _ h3
      have e : ((Lib.deBruijn32tab[(bits BinOp.and IntKind.u32 x (-x % 4294967296) * 125613361 % 4294967296 / 134217728).toNat]?.getD 0 : Nat) : Int) = Lib.ctz 32 x.toNat := by
        rw [h2, Int.toNat_natCast, ← List.getD_eq_getElem?_getD, h5]
      have hn : x.toNat ≠ 0 := by omega
      have hl : bits_TrailingZeros32 x = Lib.ctz 32 x.toNat := by simp [bits_TrailingZeros32, low, hz]
      rw [hl, e]
      have e3 : ((Lib.ctz 32 x.toNat : Int) + 9223372036854775808) % 18446744073709551616 - 9223372036854775808 = Lib.ctz 32 x.toNat := by omega
      rw [e3]
      rfl
theorem bits_TrailingZeros32_m : Meets Tryd.prog V 73 (spT [U32] [I64] bits_TrailingZeros32) where
  enters := fun args w => by
    have h : FnOK Tryd.prog 73 (inlOf Tryd.f73 {}) := fnOK Tryd.func73 (by kernel_rfl) (by kernel_rfl) (by kernel_rfl)
    exact h.enters args w
  tot := fun g hg x => by cases hg; rfl
  calls := fun w F vals x y hv hF hr hy => by
    have hy' : some (bits_TrailingZeros32 x) = some y := hy
    cases hy'
    obtain ⟨us, h1, h2⟩ := hr
    have h1' : us = [.int .u32 x] ∧ inR .u32 x = true := h1
    obtain ⟨rfl, hin⟩ := h1'
    have hx : U32ok x := inR_u32 hin
    have : vals = [.int .u32 x] := h2
    subst this
    have hb : inR .i64 (bits_TrailingZeros32 x) = true := inR_i64 (tz_bound hx).1 (by have := (tz_bound hx).2; omega)
    refine (tz_walk x w hx hv).mono fun e w' ⟨he, hw⟩ => ?_
    subst hw
    exact ⟨[.int .i64 (bits_TrailingZeros32 x)], by rw [he]; rfl, Below.refl _ _, ⟨_, ⟨rfl, hb⟩, rfl⟩⟩

def ring_Least_L : List (Nat × FSpec) := [(73, (spT [U32] [I64] bits_TrailingZeros32))]
theorem ring_Least_l : AllMeet Tryd.prog V ring_Least_L := (.cons bits_TrailingZeros32_m .nil)
set_option maxRecDepth 100000 in
theorem ring_Least_d : ∀ x : Int, denote (mkC Tryd.prog V ring_Least_L) 1 (inlOf Tryd.f62 {}) [U32] [I64] false x = ring_Least_t x := fun x => by kernel_rfl
theorem ring_Least_m : Meets Tryd.prog V 62 (spT [U32] [I64] ring_Least) := meets_tot ring_Least_l stays hmix (hs := {}) (fnOK Tryd.func62 (by kernel_rfl) (by kernel_rfl) (by kernel_rfl)) false fun x => (ring_Least_d x).trans (ring_Least_e x)
def ring_Without_L : List (Nat × FSpec) := [(66, (spT [I64] [U32] ring_bit))]
theorem ring_Without_l : AllMeet Tryd.prog V ring_Without_L := (.cons ring_bit_m .nil)
set_option maxRecDepth 100000 in
theorem ring_Without_d : ∀ x : Int × Int, denote (mkC Tryd.prog V ring_Without_L) 1 (inlOf Tryd.f49 {}) [U32, I64] [U32] false x = ring_Without_t x := fun x => by kernel_rfl
theorem ring_Without_m : Meets Tryd.prog V 49 (spT [U32, I64] [U32] ring_Without) := meets_tot ring_Without_l stays hmix (hs := {}) (fnOK Tryd.func49 (by kernel_rfl) (by kernel_rfl) (by kernel_rfl)) false fun x => (ring_Without_d x).trans (ring_Without_e x)
theorem bits_OnesCount32_d : ∀ x : Int, denote (mkC Tryd.prog V []) 1 (inlOf Tryd.f74 {}) [U32] [I64] false x = ocTree x := fun x => by kernel_rfl
theorem bits_OnesCount32_m : Meets Tryd.prog V 74 (spT [U32] [I64] bits_OnesCount32) := meets_up (meets_part .nil stays hmix (hs := {}) (fnOK Tryd.func74 (by kernel_rfl) (by kernel_rfl) (by kernel_rfl)) false bits_OnesCount32_d) (fun x hf => ocTree_eq (fits_u32 hf))

def ring_Count_L : List (Nat × FSpec) := [(74, (spT [U32] [I64] bits_OnesCount32))]
theorem ring_Count_l : AllMeet Tryd.prog V ring_Count_L := (.cons bits_OnesCount32_m .nil)
set_option maxRecDepth 100000 in
theorem ring_Count_d : ∀ x : Int, denote (mkC Tryd.prog V ring_Count_L) 1 (inlOf Tryd.f63 {}) [U32] [I64] false x = ring_Count_t x := fun x => by kernel_rfl
theorem ring_Count_m : Meets Tryd.prog V 63 (spT [U32] [I64] ring_Count) := meets_tot ring_Count_l stays hmix (hs := {}) (fnOK Tryd.func63 (by kernel_rfl) (by kernel_rfl) (by kernel_rfl)) false fun x => (ring_Count_d x).trans (ring_Count_e x)
def site_phased_L : List (Nat × FSpec) := [(61, (spT [I64s] [Bo] site_ticks)), (62, (spT [U32] [I64] ring_Least)), (49, (spT [U32, I64] [U32] ring_Without)), (63, (spT [U32] [I64] ring_Count))]
theorem site_phased_l : AllMeet Tryd.prog V site_phased_L := (.cons site_ticks_m (.cons ring_Least_m (.cons ring_Without_m (.cons ring_Count_m .nil))))
set_option maxRecDepth 100000 in
theorem site_phased_d : ∀ x : PSSite, denote (mkC Tryd.prog V site_phased_L) 1 (inlOf Tryd.f43 { loops := [(0, [.slot 3 U32, .slot 11 I64]), (2, [.slot 6 U32])] }) [SSite] [Bo] false x = site_phased_t x := fun x => by kernel_rfl
theorem site_phased_m : Meets Tryd.prog V 43 (spP [SSite] [Bo] site_phased_t) := meets_part site_phased_l stays hmix (hs := { loops := [(0, [.slot 3 U32, .slot 11 I64]), (2, [.slot 6 U32])] }) (fnOK Tryd.func43 (by kernel_rfl) (by kernel_rfl) (by kernel_rfl)) false site_phased_d
def site_eyed_L : List (Nat × FSpec) := [(40, (spT [I64, I64, I64] [Bo] site_in)), (61, (spT [I64s] [Bo] site_ticks))]
theorem site_eyed_l : AllMeet Tryd.prog V site_eyed_L := (.cons site_in_m (.cons site_ticks_m .nil))
set_option maxRecDepth 100000 in
theorem site_eyed_d : ∀ x : PSSite, denote (mkC Tryd.prog V site_eyed_L) 1 (inlOf Tryd.f44 { loops := [(0, [.slot 8 I64])] }) [SSite] [Bo] false x = site_eyed_t x := fun x => by kernel_rfl
theorem site_eyed_m : Meets Tryd.prog V 44 (spP [SSite] [Bo] site_eyed_t) := meets_part site_eyed_l stays hmix (hs := { loops := [(0, [.slot 8 I64])] }) (fnOK Tryd.func44 (by kernel_rfl) (by kernel_rfl) (by kernel_rfl)) false site_eyed_d
def site_clear_L : List (Nat × FSpec) := [(50, (spT [U32, I64] [Bo] ring_Has)), (62, (spT [U32] [I64] ring_Least)), (49, (spT [U32, I64] [U32] ring_Without))]
theorem site_clear_l : AllMeet Tryd.prog V site_clear_L := (.cons ring_Has_m (.cons ring_Least_m (.cons ring_Without_m .nil)))
set_option maxRecDepth 100000 in
theorem site_clear_d : ∀ x : PSSite × Int × Int, denote (mkC Tryd.prog V site_clear_L) 1 (inlOf Tryd.f75 { loops := [(0, [.slot 6 I64, .slot 13 I64]), (2, [.slot 6 I64, .slot 8 U32])] }) [SSite, I64, I64] [I64] false x = site_clear_t x := fun x => by kernel_rfl
theorem site_clear_m : Meets Tryd.prog V 75 (spP [SSite, I64, I64] [I64] site_clear_t) := meets_part site_clear_l stays hmix (hs := { loops := [(0, [.slot 6 I64, .slot 13 I64]), (2, [.slot 6 I64, .slot 8 U32])] }) (fnOK Tryd.func75 (by kernel_rfl) (by kernel_rfl) (by kernel_rfl)) false site_clear_d
def site_needs_L : List (Nat × FSpec) := [(75, (spP [SSite, I64, I64] [I64] site_clear_t))]
theorem site_needs_l : AllMeet Tryd.prog V site_needs_L := (.cons site_clear_m .nil)
set_option maxRecDepth 100000 in
theorem site_needs_d : ∀ x : PSSite × Int, denote (mkC Tryd.prog V site_needs_L) 1 (inlOf Tryd.f64 {}) [SSite, I64] [I64] false x = site_needs_t x := fun x => by kernel_rfl
theorem site_needs_m : Meets Tryd.prog V 64 (spP [SSite, I64] [I64] site_needs_t) := meets_part site_needs_l stays hmix (hs := {}) (fnOK Tryd.func64 (by kernel_rfl) (by kernel_rfl) (by kernel_rfl)) false site_needs_d
def site_timed_L : List (Nat × FSpec) := [(64, (spP [SSite, I64] [I64] site_needs_t)), (61, (spT [I64s] [Bo] site_ticks))]
theorem site_timed_l : AllMeet Tryd.prog V site_timed_L := (.cons site_needs_m (.cons site_ticks_m .nil))
set_option maxRecDepth 100000 in
theorem site_timed_d : ∀ x : PSSite, denote (mkC Tryd.prog V site_timed_L) 1 (inlOf Tryd.f45 { loops := [(0, [.slot 3 I64, .slot 8 I64])] }) [SSite] [Bo] false x = site_timed_t x := fun x => by kernel_rfl
theorem site_timed_m : Meets Tryd.prog V 45 (spP [SSite] [Bo] site_timed_t) := meets_part site_timed_l stays hmix (hs := { loops := [(0, [.slot 3 I64, .slot 8 I64])] }) (fnOK Tryd.func45 (by kernel_rfl) (by kernel_rfl) (by kernel_rfl)) false site_timed_d
def site_fits_L : List (Nat × FSpec) := [(40, (spT [I64, I64, I64] [Bo] site_in)), (64, (spP [SSite, I64] [I64] site_needs_t))]
theorem site_fits_l : AllMeet Tryd.prog V site_fits_L := (.cons site_in_m (.cons site_needs_m .nil))
set_option maxRecDepth 100000 in
theorem site_fits_d : ∀ x : PSSite × PSPlan, denote (mkC Tryd.prog V site_fits_L) 1 (inlOf Tryd.f65 { loops := [(0, [.slot 5 I64, .slot 39 I64])] }) [SSite, SPlan] [Bo] false x = site_fits_t x := fun x => by kernel_rfl
theorem site_fits_m : Meets Tryd.prog V 65 (spP [SSite, SPlan] [Bo] site_fits_t) := meets_part site_fits_l stays hmix (hs := { loops := [(0, [.slot 5 I64, .slot 39 I64])] }) (fnOK Tryd.func65 (by kernel_rfl) (by kernel_rfl) (by kernel_rfl)) false site_fits_d
def site_planned_L : List (Nat × FSpec) := [(65, (spP [SSite, SPlan] [Bo] site_fits_t))]
theorem site_planned_l : AllMeet Tryd.prog V site_planned_L := (.cons site_fits_m .nil)
set_option maxRecDepth 100000 in
theorem site_planned_d : ∀ x : PSSite, denote (mkC Tryd.prog V site_planned_L) 1 (inlOf Tryd.f46 { loops := [(0, [.slot 8 I64])] }) [SSite] [Bo] false x = site_planned_t x := fun x => by kernel_rfl
theorem site_planned_m : Meets Tryd.prog V 46 (spP [SSite] [Bo] site_planned_t) := meets_part site_planned_l stays hmix (hs := { loops := [(0, [.slot 8 I64])] }) (fnOK Tryd.func46 (by kernel_rfl) (by kernel_rfl) (by kernel_rfl)) false site_planned_d
def site_Check_L : List (Nat × FSpec) := [(40, (spT [I64, I64, I64] [Bo] site_in)), (41, (spP [SSite] [Bo] site_shape_t)), (42, (spP [SSite] [Bo] site_apart_t)), (43, (spP [SSite] [Bo] site_phased_t)), (44, (spP [SSite] [Bo] site_eyed_t)), (45, (spP [SSite] [Bo] site_timed_t)), (46, (spP [SSite] [Bo] site_planned_t))]
theorem site_Check_l : AllMeet Tryd.prog V site_Check_L := (.cons site_in_m (.cons site_shape_m (.cons site_apart_m (.cons site_phased_m (.cons site_eyed_m (.cons site_timed_m (.cons site_planned_m .nil)))))))
set_option maxRecDepth 100000 in
theorem site_Check_d : ∀ x : PSSite, denote (mkC Tryd.prog V site_Check_L) 1 (inlOf Tryd.f16 { loops := [(0, [.slot 3 Bo, .slot 5 I64])] }) [SSite] [I64] false x = site_Check_t x := fun x => by kernel_rfl
theorem site_Check_m : Meets Tryd.prog V 16 (spP [SSite] [I64] site_Check_t) := meets_part site_Check_l stays hmix (hs := { loops := [(0, [.slot 3 Bo, .slot 5 I64])] }) (fnOK Tryd.func16 (by kernel_rfl) (by kernel_rfl) (by kernel_rfl)) false site_Check_d
def eye_may_L : List (Nat × FSpec) := []
theorem eye_may_l : AllMeet Tryd.prog V eye_may_L := .nil
set_option maxRecDepth 100000 in
theorem eye_may_d : ∀ x : PSLooked, denote (mkC Tryd.prog V eye_may_L) 1 (inlOf Tryd.f38 {}) [SLooked] [Bo] false x = eye_may_t x := fun x => by kernel_rfl
theorem eye_may_m : Meets Tryd.prog V 38 (spT [SLooked] [Bo] eye_may) := meets_tot eye_may_l stays hmix (hs := {}) (fnOK Tryd.func38 (by kernel_rfl) (by kernel_rfl) (by kernel_rfl)) false fun x => (eye_may_d x).trans (eye_may_e x)
def bits_OnesCount64_L : List (Nat × FSpec) := []
theorem bits_OnesCount64_l : AllMeet Tryd.prog V bits_OnesCount64_L := .nil
set_option maxRecDepth 100000 in
theorem bits_OnesCount64_d : ∀ x : Int, denote (mkC Tryd.prog V bits_OnesCount64_L) 1 (inlOf Tryd.f60 {}) [U64] [I64] false x = bits_OnesCount64_t x := fun x => by kernel_rfl
theorem bits_OnesCount64_m : Meets Tryd.prog V 60 (spT [U64] [I64] bits_OnesCount64) := meets_up (meets_part bits_OnesCount64_l stays hmix (hs := {}) (fnOK Tryd.func60 (by kernel_rfl) (by kernel_rfl) (by kernel_rfl)) false bits_OnesCount64_d) bits_OnesCount64_e
def eye_step_L : List (Nat × FSpec) := [(60, (spT [U64] [I64] bits_OnesCount64))]
theorem eye_step_l : AllMeet Tryd.prog V eye_step_L := (.cons bits_OnesCount64_m .nil)
set_option maxRecDepth 100000 in
theorem eye_step_d : ∀ x : PSSite × Int × PSLooked × Bool, denote (mkC Tryd.prog V eye_step_L) 1 (inlOf Tryd.f39 {}) [SSite, I64, SLooked, Bo] [SLooked] false x = eye_step_t x := fun x => by kernel_rfl
theorem eye_step_m : Meets Tryd.prog V 39 (spP [SSite, I64, SLooked, Bo] [SLooked] eye_step_t) := meets_part eye_step_l stays hmix (hs := {}) (fnOK Tryd.func39 (by kernel_rfl) (by kernel_rfl) (by kernel_rfl)) false eye_step_d
def eye_Next_L : List (Nat × FSpec) := [(16, (spP [SSite] [I64] site_Check_t)), (38, (spT [SLooked] [Bo] eye_may)), (39, (spP [SSite, I64, SLooked, Bo] [SLooked] eye_step_t))]
theorem eye_Next_l : AllMeet Tryd.prog V eye_Next_L := (.cons site_Check_m (.cons eye_may_m (.cons eye_step_m .nil)))
set_option maxRecDepth 100000 in
theorem eye_Next_d : ∀ x : PSSite × Int × PSLooked × Bool, denote (mkC Tryd.prog V eye_Next_L) 1 (inlOf Tryd.f15 {}) [SSite, I64, SLooked, Bo] [SLooked, I64] false x = eye_Next_t x := fun x => by kernel_rfl
theorem eye_Next_m : Meets Tryd.prog V 15 (spP [SSite, I64, SLooked, Bo] [SLooked, I64] eye_Next_t) := meets_part eye_Next_l stays hmix (hs := {}) (fnOK Tryd.func15 (by kernel_rfl) (by kernel_rfl) (by kernel_rfl)) false eye_Next_d
def law13_behind_L : List (Nat × FSpec) := [(15, (spP [SSite, I64, SLooked, Bo] [SLooked, I64] eye_Next_t))]
theorem law13_behind_l : AllMeet Tryd.prog V law13_behind_L := (.cons eye_Next_m .nil)
set_option maxRecDepth 100000 in
theorem law13_behind_d : ∀ x : PSSite × Int × List Bool, denote (mkC Tryd.prog V law13_behind_L) 1 (inlOf Tryd.f33 { loops := [(0, [.slot 9 I64, .box 6 SLooked, .box 8 SLooked])] }) [SSite, I64, Bos] [SLooked, Bo] false x = law13_behind_t x := fun x => by kernel_rfl
theorem law13_behind_m : Meets Tryd.prog V 33 (spP [SSite, I64, Bos] [SLooked, Bo] law13_behind_t) := meets_part law13_behind_l stays hmix (hs := { loops := [(0, [.slot 9 I64, .box 6 SLooked, .box 8 SLooked])] }) (fnOK Tryd.func33 (by kernel_rfl) (by kernel_rfl) (by kernel_rfl)) false law13_behind_d
def law13_alive_L : List (Nat × FSpec) := [(32, (spT [] [SSite] law13_seen)), (33, (spP [SSite, I64, Bos] [SLooked, Bo] law13_behind_t))]
theorem law13_alive_l : AllMeet Tryd.prog V law13_alive_L := (.cons law13_seen_m (.cons law13_behind_m .nil))
set_option maxRecDepth 100000 in
theorem law13_alive_d : ∀ x : Unit, denote (mkC Tryd.prog V law13_alive_L) 1 (inlOf Tryd.f13 {}) [] [Bo] false x = law13_alive_t x := fun x => by kernel_rfl
theorem law13_alive_m : Meets Tryd.prog V 13 (spP [] [Bo] law13_alive_t) := meets_part law13_alive_l stays hmix (hs := {}) (fnOK Tryd.func13 (by kernel_rfl) (by kernel_rfl) (by kernel_rfl)) false law13_alive_d
def ref05_Great_L : List (Nat × FSpec) := []
theorem ref05_Great_l : AllMeet Tryd.prog V ref05_Great_L := .nil
set_option maxRecDepth 100000 in
theorem ref05_Great_d : ∀ x : PSSite, denote (mkC Tryd.prog V ref05_Great_L) 1 (inlOf Tryd.f14 { loops := [(0, [.slot 3 I64]), (2, [.slot 4 I64])] }) [SSite] [Bo] false x = ref05_Great_t x := fun x => by kernel_rfl
theorem ref05_Great_m : Meets Tryd.prog V 14 (spP [SSite] [Bo] ref05_Great_t) := meets_part ref05_Great_l stays hmix (hs := { loops := [(0, [.slot 3 I64]), (2, [.slot 4 I64])] }) (fnOK Tryd.func14 (by kernel_rfl) (by kernel_rfl) (by kernel_rfl)) false ref05_Great_d
def law13_EyeStays_L : List (Nat × FSpec) := [(13, (spP [] [Bo] law13_alive_t)), (14, (spP [SSite] [Bo] ref05_Great_t)), (15, (spP [SSite, I64, SLooked, Bo] [SLooked, I64] eye_Next_t))]
theorem law13_EyeStays_l : AllMeet Tryd.prog V law13_EyeStays_L := (.cons law13_alive_m (.cons ref05_Great_m (.cons eye_Next_m .nil)))
set_option maxRecDepth 100000 in
theorem law13_EyeStays_d : ∀ x : PSSite × Int × PSLooked × Bool × Bool, denote (mkC Tryd.prog V law13_EyeStays_L) 1 (inlOf Tryd.f3 {}) [SSite, I64, SLooked, Bo, Bo] [Bo] false x = law13_EyeStays_t x := fun x => by kernel_rfl
theorem law13_EyeStays_m : Meets Tryd.prog V 3 (spP [SSite, I64, SLooked, Bo, Bo] [Bo] law13_EyeStays_t) := meets_part law13_EyeStays_l stays hmix (hs := {}) (fnOK Tryd.func3 (by kernel_rfl) (by kernel_rfl) (by kernel_rfl)) false law13_EyeStays_d
def law13_turns_L : List (Nat × FSpec) := []
theorem law13_turns_l : AllMeet Tryd.prog V law13_turns_L := .nil
set_option maxRecDepth 100000 in
theorem law13_turns_d : ∀ x : List Bool × Int, denote (mkC Tryd.prog V law13_turns_L) 1 (inlOf Tryd.f47 { loops := [(0, [.slot 5 I64, .slot 6 I64])] }) [Bos, I64] [I64] false x = law13_turns_t x := fun x => by kernel_rfl
theorem law13_turns_m : Meets Tryd.prog V 47 (spP [Bos, I64] [I64] law13_turns_t) := meets_part law13_turns_l stays hmix (hs := { loops := [(0, [.slot 5 I64, .slot 6 I64])] }) (fnOK Tryd.func47 (by kernel_rfl) (by kernel_rfl) (by kernel_rfl)) false law13_turns_d
def law13_ill_L : List (Nat × FSpec) := [(47, (spP [Bos, I64] [I64] law13_turns_t))]
theorem law13_ill_l : AllMeet Tryd.prog V law13_ill_L := (.cons law13_turns_m .nil)
set_option maxRecDepth 100000 in
theorem law13_ill_d : ∀ x : PSEye × List Bool × Int, denote (mkC Tryd.prog V law13_ill_L) 1 (inlOf Tryd.f17 { loops := [(0, [.slot 7 I64, .slot 8 I64])] }) [SEye, Bos, I64] [Bo] false x = law13_ill_t x := fun x => by kernel_rfl
theorem law13_ill_m : Meets Tryd.prog V 17 (spP [SEye, Bos, I64] [Bo] law13_ill_t) := meets_part law13_ill_l stays hmix (hs := { loops := [(0, [.slot 7 I64, .slot 8 I64])] }) (fnOK Tryd.func17 (by kernel_rfl) (by kernel_rfl) (by kernel_rfl)) false law13_ill_d
def eye_Believed_L : List (Nat × FSpec) := []
theorem eye_Believed_l : AllMeet Tryd.prog V eye_Believed_L := .nil
set_option maxRecDepth 100000 in
theorem eye_Believed_d : ∀ x : PSLooked, denote (mkC Tryd.prog V eye_Believed_L) 1 (inlOf Tryd.f18 {}) [SLooked] [Bo] false x = eye_Believed_t x := fun x => by kernel_rfl
theorem eye_Believed_m : Meets Tryd.prog V 18 (spT [SLooked] [Bo] eye_Believed) := meets_tot eye_Believed_l stays hmix (hs := {}) (fnOK Tryd.func18 (by kernel_rfl) (by kernel_rfl) (by kernel_rfl)) false fun x => (eye_Believed_d x).trans (eye_Believed_e x)
def eye_Wants_L : List (Nat × FSpec) := []
theorem eye_Wants_l : AllMeet Tryd.prog V eye_Wants_L := .nil
set_option maxRecDepth 100000 in
theorem eye_Wants_d : ∀ x : PSLooked, denote (mkC Tryd.prog V eye_Wants_L) 1 (inlOf Tryd.f19 {}) [SLooked] [Bo] false x = eye_Wants_t x := fun x => by kernel_rfl
theorem eye_Wants_m : Meets Tryd.prog V 19 (spT [SLooked] [Bo] eye_Wants) := meets_tot eye_Wants_l stays hmix (hs := {}) (fnOK Tryd.func19 (by kernel_rfl) (by kernel_rfl) (by kernel_rfl)) false fun x => (eye_Wants_d x).trans (eye_Wants_e x)
def law13_EyeIll_L : List (Nat × FSpec) := [(13, (spP [] [Bo] law13_alive_t)), (14, (spP [SSite] [Bo] ref05_Great_t)), (16, (spP [SSite] [I64] site_Check_t)), (15, (spP [SSite, I64, SLooked, Bo] [SLooked, I64] eye_Next_t)), (17, (spP [SEye, Bos, I64] [Bo] law13_ill_t)), (18, (spT [SLooked] [Bo] eye_Believed)), (19, (spT [SLooked] [Bo] eye_Wants))]
theorem law13_EyeIll_l : AllMeet Tryd.prog V law13_EyeIll_L := (.cons law13_alive_m (.cons ref05_Great_m (.cons site_Check_m (.cons eye_Next_m (.cons law13_ill_m (.cons eye_Believed_m (.cons eye_Wants_m .nil)))))))
set_option maxRecDepth 100000 in
theorem law13_EyeIll_d : ∀ x : PSSite × Int × List Bool, denote (mkC Tryd.prog V law13_EyeIll_L) 1 (inlOf Tryd.f4 { loops := [(0, [.slot 9 Bo, .slot 10 I64, .slot 11 I64, .box 8 SLooked])] }) [SSite, I64, Bos] [Bo] false x = law13_EyeIll_t x := fun x => by kernel_rfl
theorem law13_EyeIll_m : Meets Tryd.prog V 4 (spP [SSite, I64, Bos] [Bo] law13_EyeIll_t) := meets_part law13_EyeIll_l stays hmix (hs := { loops := [(0, [.slot 9 Bo, .slot 10 I64, .slot 11 I64, .box 8 SLooked])] }) (fnOK Tryd.func4 (by kernel_rfl) (by kernel_rfl) (by kernel_rfl)) false law13_EyeIll_d
def eye_asked_L : List (Nat × FSpec) := [(16, (spP [SSite] [I64] site_Check_t)), (38, (spT [SLooked] [Bo] eye_may))]
theorem eye_asked_l : AllMeet Tryd.prog V eye_asked_L := (.cons site_Check_m (.cons eye_may_m .nil))
set_option maxRecDepth 100000 in
theorem eye_asked_d : ∀ x : PSSite × List PSLooked, denote (mkC Tryd.prog V eye_asked_L) 1 (inlOf Tryd.f56 { loops := [(0, [.slot 21 I64])] }) [SSite, SLookeds] [I64] false x = eye_asked_t x := fun x => by kernel_rfl
theorem eye_asked_m : Meets Tryd.prog V 56 (spP [SSite, SLookeds] [I64] eye_asked_t) := meets_part eye_asked_l stays hmix (hs := { loops := [(0, [.slot 21 I64])] }) (fnOK Tryd.func56 (by kernel_rfl) (by kernel_rfl) (by kernel_rfl)) false eye_asked_d
def eye_All_L : List (Nat × FSpec) := [(56, (spP [SSite, SLookeds] [I64] eye_asked_t)), (50, (spT [U32, I64] [Bo] ring_Has)), (39, (spP [SSite, I64, SLooked, Bo] [SLooked] eye_step_t))]
theorem eye_All_l : AllMeet Tryd.prog V eye_All_L := (.cons eye_asked_m (.cons ring_Has_m (.cons eye_step_m .nil)))
set_option maxRecDepth 100000 in
theorem eye_All_d : ∀ x : PSSite × List PSLooked × Int, denote (mkC Tryd.prog V eye_All_L) 1 (inlOf Tryd.f30 { loops := [(0, [.slot 23 I64, .arr 20 SLooked])] }) [SSite, SLookeds, U32] [SLookeds, I64] true x = eye_All_t x := fun x => by kernel_rfl
theorem eye_All_m : Meets Tryd.prog V 30 (spP [SSite, SLookeds, U32] [SLookeds, I64] eye_All_t true) := meets_part eye_All_l stays hmix (hs := { loops := [(0, [.slot 23 I64, .arr 20 SLooked])] }) (fnOK Tryd.func30 (by kernel_rfl) (by kernel_rfl) (by kernel_rfl)) true eye_All_d
def ring_With_L : List (Nat × FSpec) := [(66, (spT [I64] [U32] ring_bit))]
theorem ring_With_l : AllMeet Tryd.prog V ring_With_L := (.cons ring_bit_m .nil)
set_option maxRecDepth 100000 in
theorem ring_With_d : ∀ x : Int × Int, denote (mkC Tryd.prog V ring_With_L) 1 (inlOf Tryd.f57 {}) [U32, I64] [U32] false x = ring_With_t x := fun x => by kernel_rfl
theorem ring_With_m : Meets Tryd.prog V 57 (spT [U32, I64] [U32] ring_With) := meets_tot ring_With_l stays hmix (hs := {}) (fnOK Tryd.func57 (by kernel_rfl) (by kernel_rfl) (by kernel_rfl)) false fun x => (ring_With_d x).trans (ring_With_e x)
def eye_Well_L : List (Nat × FSpec) := [(56, (spP [SSite, SLookeds] [I64] eye_asked_t)), (57, (spT [U32, I64] [U32] ring_With)), (18, (spT [SLooked] [Bo] eye_Believed))]
theorem eye_Well_l : AllMeet Tryd.prog V eye_Well_L := (.cons eye_asked_m (.cons ring_With_m (.cons eye_Believed_m .nil)))
set_option maxRecDepth 100000 in
theorem eye_Well_d : ∀ x : PSSite × List PSLooked, denote (mkC Tryd.prog V eye_Well_L) 1 (inlOf Tryd.f31 { loops := [(0, [.slot 7 U32, .slot 8 U32, .slot 20 I64])] }) [SSite, SLookeds] [Bo, I64] false x = eye_Well_t x := fun x => by kernel_rfl
theorem eye_Well_m : Meets Tryd.prog V 31 (spP [SSite, SLookeds] [Bo, I64] eye_Well_t) := meets_part eye_Well_l stays hmix (hs := { loops := [(0, [.slot 7 U32, .slot 8 U32, .slot 20 I64])] }) (fnOK Tryd.func31 (by kernel_rfl) (by kernel_rfl) (by kernel_rfl)) false eye_Well_d
def law13_EyeAll_L : List (Nat × FSpec) := [(13, (spP [] [Bo] law13_alive_t)), (14, (spP [SSite] [Bo] ref05_Great_t)), (16, (spP [SSite] [I64] site_Check_t)), (30, (spP [SSite, SLookeds, U32] [SLookeds, I64] eye_All_t true)), (15, (spP [SSite, I64, SLooked, Bo] [SLooked, I64] eye_Next_t)), (31, (spP [SSite, SLookeds] [Bo, I64] eye_Well_t))]
theorem law13_EyeAll_l : AllMeet Tryd.prog V law13_EyeAll_L := (.cons law13_alive_m (.cons ref05_Great_m (.cons site_Check_m (.cons eye_All_m (.cons eye_Next_m (.cons eye_Well_m .nil))))))
set_option maxRecDepth 100000 in
theorem law13_EyeAll_d : ∀ x : PSSite × List PSLooked × Int, denote (mkC Tryd.prog V law13_EyeAll_L) 1 (inlOf Tryd.f10 { loops := [(0, [.slot 10 I64]), (2, [.slot 15 Bo, .slot 16 I64]), (4, [.slot 17 Bo, .slot 18 I64])] }) [SSite, SLookeds, U32] [Bo] false x = law13_EyeAll_t x := fun x => by kernel_rfl
theorem law13_EyeAll_m : Meets Tryd.prog V 10 (spP [SSite, SLookeds, U32] [Bo] law13_EyeAll_t) := meets_part law13_EyeAll_l stays hmix (hs := { loops := [(0, [.slot 10 I64]), (2, [.slot 15 Bo, .slot 16 I64]), (4, [.slot 17 Bo, .slot 18 I64])] }) (fnOK Tryd.func10 (by kernel_rfl) (by kernel_rfl) (by kernel_rfl)) false law13_EyeAll_d
def law13_EyeNames_L : List (Nat × FSpec) := [(32, (spT [] [SSite] law13_seen)), (33, (spP [SSite, I64, Bos] [SLooked, Bo] law13_behind_t)), (15, (spP [SSite, I64, SLooked, Bo] [SLooked, I64] eye_Next_t)), (30, (spP [SSite, SLookeds, U32] [SLookeds, I64] eye_All_t true)), (31, (spP [SSite, SLookeds] [Bo, I64] eye_Well_t)), (13, (spP [] [Bo] law13_alive_t)), (19, (spT [SLooked] [Bo] eye_Wants)), (18, (spT [SLooked] [Bo] eye_Believed))]
theorem law13_EyeNames_l : AllMeet Tryd.prog V law13_EyeNames_L := (.cons law13_seen_m (.cons law13_behind_m (.cons eye_Next_m (.cons eye_All_m (.cons eye_Well_m (.cons law13_alive_m (.cons eye_Wants_m (.cons eye_Believed_m .nil))))))))
set_option maxRecDepth 100000 in
theorem law13_EyeNames_d : ∀ x : Unit, denote (mkC Tryd.prog V law13_EyeNames_L) 1 (inlOf Tryd.f11 {}) [] [Bo] false x = law13_EyeNames_t x := fun x => by kernel_rfl
theorem law13_EyeNames_m : Meets Tryd.prog V 11 (spP [] [Bo] law13_EyeNames_t) := meets_part law13_EyeNames_l stays hmix (hs := {}) (fnOK Tryd.func11 (by kernel_rfl) (by kernel_rfl) (by kernel_rfl)) false law13_EyeNames_d
def ref05_in_L : List (Nat × FSpec) := []
theorem ref05_in_l : AllMeet Tryd.prog V ref05_in_L := .nil
set_option maxRecDepth 100000 in
theorem ref05_in_d : ∀ x : Int × Int × Int, denote (mkC Tryd.prog V ref05_in_L) 1 (inlOf Tryd.f69 {}) [I64, I64, I64] [Bo] false x = ref05_in_t x := fun x => by kernel_rfl
theorem ref05_in_m : Meets Tryd.prog V 69 (spT [I64, I64, I64] [Bo] ref05_in) := meets_tot ref05_in_l stays hmix (hs := {}) (fnOK Tryd.func69 (by kernel_rfl) (by kernel_rfl) (by kernel_rfl)) false fun x => (ref05_in_d x).trans (ref05_in_e x)
def ref02_Has_L : List (Nat × FSpec) := []
theorem ref02_Has_l : AllMeet Tryd.prog V ref02_Has_L := .nil
set_option maxRecDepth 100000 in
theorem ref02_Has_d : ∀ x : Int × Int, denote (mkC Tryd.prog V ref02_Has_L) 1 (inlOf Tryd.f54 {}) [U32, I64] [Bo] false x = ref02_Has_t x := fun x => by kernel_rfl
theorem ref02_Has_m : Meets Tryd.prog V 54 (spT [U32, I64] [Bo] ref02_Has) := meets_up (meets_part ref02_Has_l stays hmix (hs := {}) (fnOK Tryd.func54 (by kernel_rfl) (by kernel_rfl) (by kernel_rfl)) false ref02_Has_d) ref02_Has_e
def ref05_Apart_L : List (Nat × FSpec) := [(54, (spT [U32, I64] [Bo] ref02_Has))]
theorem ref05_Apart_l : AllMeet Tryd.prog V ref05_Apart_L := (.cons ref02_Has_m .nil)
set_option maxRecDepth 100000 in
theorem ref05_Apart_d : ∀ x : PSSite × Int × Int, denote (mkC Tryd.prog V ref05_Apart_L) 1 (inlOf Tryd.f76 {}) [SSite, I64, I64] [Bo] false x = ref05_Apart_t x := fun x => by kernel_rfl
theorem ref05_Apart_m : Meets Tryd.prog V 76 (spP [SSite, I64, I64] [Bo] ref05_Apart_t) := meets_part ref05_Apart_l stays hmix (hs := {}) (fnOK Tryd.func76 (by kernel_rfl) (by kernel_rfl) (by kernel_rfl)) false ref05_Apart_d
def ref05_groups_L : List (Nat × FSpec) := [(69, (spT [I64, I64, I64] [Bo] ref05_in)), (76, (spP [SSite, I64, I64] [Bo] ref05_Apart_t))]
theorem ref05_groups_l : AllMeet Tryd.prog V ref05_groups_L := (.cons ref05_in_m (.cons ref05_Apart_m .nil))
set_option maxRecDepth 100000 in
theorem ref05_groups_d : ∀ x : PSSite, denote (mkC Tryd.prog V ref05_groups_L) 1 (inlOf Tryd.f67 { loops := [(0, [.slot 4 I64]), (2, [.slot 6 I64]), (4, [.slot 7 I64])] }) [SSite] [Bo] false x = ref05_groups_t x := fun x => by kernel_rfl
theorem ref05_groups_m : Meets Tryd.prog V 67 (spP [SSite] [Bo] ref05_groups_t) := meets_part ref05_groups_l stays hmix (hs := { loops := [(0, [.slot 4 I64]), (2, [.slot 6 I64]), (4, [.slot 7 I64])] }) (fnOK Tryd.func67 (by kernel_rfl) (by kernel_rfl) (by kernel_rfl)) false ref05_groups_d
def ref02_With_L : List (Nat × FSpec) := [(54, (spT [U32, I64] [Bo] ref02_Has))]
theorem ref02_With_l : AllMeet Tryd.prog V ref02_With_L := (.cons ref02_Has_m .nil)
set_option maxRecDepth 100000 in
theorem ref02_With_d : ∀ x : Int × Int, denote (mkC Tryd.prog V ref02_With_L) 1 (inlOf Tryd.f52 {}) [U32, I64] [U32] false x = ref02_With_t x := fun x => by kernel_rfl
theorem ref02_With_m : Meets Tryd.prog V 52 (spT [U32, I64] [U32] ref02_With) := meets_tot ref02_With_l stays hmix (hs := {}) (fnOK Tryd.func52 (by kernel_rfl) (by kernel_rfl) (by kernel_rfl)) false fun x => (ref02_With_d x).trans (ref02_With_e x)
def ref02_Count_L : List (Nat × FSpec) := [(54, (spT [U32, I64] [Bo] ref02_Has))]
theorem ref02_Count_l : AllMeet Tryd.prog V ref02_Count_L := (.cons ref02_Has_m .nil)
set_option maxRecDepth 100000 in
theorem ref02_Count_d : ∀ x : Int, denote (mkC Tryd.prog V ref02_Count_L) 1 (inlOf Tryd.f77 { loops := [(0, [.slot 3 I64, .slot 4 I64])] }) [U32] [I64] false x = ref02_Count_t x := fun x => by kernel_rfl
theorem ref02_Count_m : Meets Tryd.prog V 77 (spP [U32] [I64] ref02_Count_t) := meets_part ref02_Count_l stays hmix (hs := { loops := [(0, [.slot 3 I64, .slot 4 I64])] }) (fnOK Tryd.func77 (by kernel_rfl) (by kernel_rfl) (by kernel_rfl)) false ref02_Count_d
def ref05_phases_L : List (Nat × FSpec) := [(69, (spT [I64, I64, I64] [Bo] ref05_in)), (54, (spT [U32, I64] [Bo] ref02_Has)), (52, (spT [U32, I64] [U32] ref02_With)), (76, (spP [SSite, I64, I64] [Bo] ref05_Apart_t)), (77, (spP [U32] [I64] ref02_Count_t))]
theorem ref05_phases_l : AllMeet Tryd.prog V ref05_phases_L := (.cons ref05_in_m (.cons ref02_Has_m (.cons ref02_With_m (.cons ref05_Apart_m (.cons ref02_Count_m .nil)))))
set_option maxRecDepth 100000 in
theorem ref05_phases_d : ∀ x : PSSite, denote (mkC Tryd.prog V ref05_phases_L) 1 (inlOf Tryd.f68 { loops := [(0, [.slot 3 U32, .slot 4 I64]), (2, [.slot 3 U32, .slot 6 I64, .slot 7 I64]), (4, [.slot 8 I64])] }) [SSite] [Bo] false x = ref05_phases_t x := fun x => by kernel_rfl
theorem ref05_phases_m : Meets Tryd.prog V 68 (spP [SSite] [Bo] ref05_phases_t) := meets_part ref05_phases_l stays hmix (hs := { loops := [(0, [.slot 3 U32, .slot 4 I64]), (2, [.slot 3 U32, .slot 6 I64, .slot 7 I64]), (4, [.slot 8 I64])] }) (fnOK Tryd.func68 (by kernel_rfl) (by kernel_rfl) (by kernel_rfl)) false ref05_phases_d
def ref05_Clear_L : List (Nat × FSpec) := [(54, (spT [U32, I64] [Bo] ref02_Has)), (76, (spP [SSite, I64, I64] [Bo] ref05_Apart_t))]
theorem ref05_Clear_l : AllMeet Tryd.prog V ref05_Clear_L := (.cons ref02_Has_m (.cons ref05_Apart_m .nil))
set_option maxRecDepth 100000 in
theorem ref05_Clear_d : ∀ x : PSSite × Int × Int, denote (mkC Tryd.prog V ref05_Clear_L) 1 (inlOf Tryd.f79 { loops := [(0, [.slot 7 I64, .slot 8 I64]), (2, [.slot 7 I64, .slot 9 I64])] }) [SSite, I64, I64] [I64] false x = ref05_Clear_t x := fun x => by kernel_rfl
theorem ref05_Clear_m : Meets Tryd.prog V 79 (spP [SSite, I64, I64] [I64] ref05_Clear_t) := meets_part ref05_Clear_l stays hmix (hs := { loops := [(0, [.slot 7 I64, .slot 8 I64]), (2, [.slot 7 I64, .slot 9 I64])] }) (fnOK Tryd.func79 (by kernel_rfl) (by kernel_rfl) (by kernel_rfl)) false ref05_Clear_d
def ref05_needs_L : List (Nat × FSpec) := [(79, (spP [SSite, I64, I64] [I64] ref05_Clear_t))]
theorem ref05_needs_l : AllMeet Tryd.prog V ref05_needs_L := (.cons ref05_Clear_m .nil)
set_option maxRecDepth 100000 in
theorem ref05_needs_d : ∀ x : PSSite × Int, denote (mkC Tryd.prog V ref05_needs_L) 1 (inlOf Tryd.f78 {}) [SSite, I64] [I64] false x = ref05_needs_t x := fun x => by kernel_rfl
theorem ref05_needs_m : Meets Tryd.prog V 78 (spP [SSite, I64] [I64] ref05_needs_t) := meets_part ref05_needs_l stays hmix (hs := {}) (fnOK Tryd.func78 (by kernel_rfl) (by kernel_rfl) (by kernel_rfl)) false ref05_needs_d
def ref05_Round_L : List (Nat × FSpec) := [(78, (spP [SSite, I64] [I64] ref05_needs_t))]
theorem ref05_Round_l : AllMeet Tryd.prog V ref05_Round_L := (.cons ref05_needs_m .nil)
set_option maxRecDepth 100000 in
theorem ref05_Round_d : ∀ x : PSSite, denote (mkC Tryd.prog V ref05_Round_L) 1 (inlOf Tryd.f70 { loops := [(0, [.slot 3 I64, .slot 4 I64])] }) [SSite] [I64] false x = ref05_Round_t x := fun x => by kernel_rfl
theorem ref05_Round_m : Meets Tryd.prog V 70 (spP [SSite] [I64] ref05_Round_t) := meets_part ref05_Round_l stays hmix (hs := { loops := [(0, [.slot 3 I64, .slot 4 I64])] }) (fnOK Tryd.func70 (by kernel_rfl) (by kernel_rfl) (by kernel_rfl)) false ref05_Round_d
def ref05_PlanMay_L : List (Nat × FSpec) := [(69, (spT [I64, I64, I64] [Bo] ref05_in)), (78, (spP [SSite, I64] [I64] ref05_needs_t))]
theorem ref05_PlanMay_l : AllMeet Tryd.prog V ref05_PlanMay_L := (.cons ref05_in_m (.cons ref05_needs_m .nil))
set_option maxRecDepth 100000 in
theorem ref05_PlanMay_d : ∀ x : PSSite × PSPlan, denote (mkC Tryd.prog V ref05_PlanMay_L) 1 (inlOf Tryd.f71 { loops := [(0, [.slot 5 I64, .slot 6 I64])] }) [SSite, SPlan] [Bo] false x = ref05_PlanMay_t x := fun x => by kernel_rfl
theorem ref05_PlanMay_m : Meets Tryd.prog V 71 (spP [SSite, SPlan] [Bo] ref05_PlanMay_t) := meets_part ref05_PlanMay_l stays hmix (hs := { loops := [(0, [.slot 5 I64, .slot 6 I64])] }) (fnOK Tryd.func71 (by kernel_rfl) (by kernel_rfl) (by kernel_rfl)) false ref05_PlanMay_d
def ref05_Check_L : List (Nat × FSpec) := [(67, (spP [SSite] [Bo] ref05_groups_t)), (68, (spP [SSite] [Bo] ref05_phases_t)), (69, (spT [I64, I64, I64] [Bo] ref05_in)), (70, (spP [SSite] [I64] ref05_Round_t)), (71, (spP [SSite, SPlan] [Bo] ref05_PlanMay_t))]
theorem ref05_Check_l : AllMeet Tryd.prog V ref05_Check_L := (.cons ref05_groups_m (.cons ref05_phases_m (.cons ref05_in_m (.cons ref05_Round_m (.cons ref05_PlanMay_m .nil)))))
set_option maxRecDepth 100000 in
theorem ref05_Check_d : ∀ x : PSSite, denote (mkC Tryd.prog V ref05_Check_L) 1 (inlOf Tryd.f55 { loops := [(0, [.slot 3 I64]), (2, [.slot 5 I64])] }) [SSite] [I64] false x = ref05_Check_t x := fun x => by kernel_rfl
theorem ref05_Check_m : Meets Tryd.prog V 55 (spP [SSite] [I64] ref05_Check_t) := meets_part ref05_Check_l stays hmix (hs := { loops := [(0, [.slot 3 I64]), (2, [.slot 5 I64])] }) (fnOK Tryd.func55 (by kernel_rfl) (by kernel_rfl) (by kernel_rfl)) false ref05_Check_d
def ref13_May_L : List (Nat × FSpec) := []
theorem ref13_May_l : AllMeet Tryd.prog V ref13_May_L := .nil
set_option maxRecDepth 100000 in
theorem ref13_May_d : ∀ x : PSLooked, denote (mkC Tryd.prog V ref13_May_L) 1 (inlOf Tryd.f58 {}) [SLooked] [Bo] false x = ref13_May_t x := fun x => by kernel_rfl
theorem ref13_May_m : Meets Tryd.prog V 58 (spT [SLooked] [Bo] ref13_May) := meets_tot ref13_May_l stays hmix (hs := {}) (fnOK Tryd.func58 (by kernel_rfl) (by kernel_rfl) (by kernel_rfl)) false fun x => (ref13_May_d x).trans (ref13_May_e x)
def ref13_count_L : List (Nat × FSpec) := [(77, (spP [U32] [I64] ref02_Count_t))]
theorem ref13_count_l : AllMeet Tryd.prog V ref13_count_L := (.cons ref02_Count_m .nil)
set_option maxRecDepth 100000 in
theorem ref13_count_d : ∀ x : Int, denote (mkC Tryd.prog V ref13_count_L) 1 (inlOf Tryd.f72 {}) [U64] [I64] false x = ref13_count_t x := fun x => by kernel_rfl
theorem ref13_count_m : Meets Tryd.prog V 72 (spP [U64] [I64] ref13_count_t) := meets_part ref13_count_l stays hmix (hs := {}) (fnOK Tryd.func72 (by kernel_rfl) (by kernel_rfl) (by kernel_rfl)) false ref13_count_d
def ref13_step_L : List (Nat × FSpec) := [(72, (spP [U64] [I64] ref13_count_t))]
theorem ref13_step_l : AllMeet Tryd.prog V ref13_step_L := (.cons ref13_count_m .nil)
set_option maxRecDepth 100000 in
theorem ref13_step_d : ∀ x : PSSite × Int × PSLooked × Bool, denote (mkC Tryd.prog V ref13_step_L) 1 (inlOf Tryd.f59 {}) [SSite, I64, SLooked, Bo] [SLooked] false x = ref13_step_t x := fun x => by kernel_rfl
theorem ref13_step_m : Meets Tryd.prog V 59 (spP [SSite, I64, SLooked, Bo] [SLooked] ref13_step_t) := meets_part ref13_step_l stays hmix (hs := {}) (fnOK Tryd.func59 (by kernel_rfl) (by kernel_rfl) (by kernel_rfl)) false ref13_step_d
def ref13_Next_L : List (Nat × FSpec) := [(55, (spP [SSite] [I64] ref05_Check_t)), (58, (spT [SLooked] [Bo] ref13_May)), (59, (spP [SSite, I64, SLooked, Bo] [SLooked] ref13_step_t))]
theorem ref13_Next_l : AllMeet Tryd.prog V ref13_Next_L := (.cons ref05_Check_m (.cons ref13_May_m (.cons ref13_step_m .nil)))
set_option maxRecDepth 100000 in
theorem ref13_Next_d : ∀ x : PSSite × Int × PSLooked × Bool, denote (mkC Tryd.prog V ref13_Next_L) 1 (inlOf Tryd.f34 {}) [SSite, I64, SLooked, Bo] [SLooked, I64] false x = ref13_Next_t x := fun x => by kernel_rfl
theorem ref13_Next_m : Meets Tryd.prog V 34 (spP [SSite, I64, SLooked, Bo] [SLooked, I64] ref13_Next_t) := meets_part ref13_Next_l stays hmix (hs := {}) (fnOK Tryd.func34 (by kernel_rfl) (by kernel_rfl) (by kernel_rfl)) false ref13_Next_d
def ref13_Asked_L : List (Nat × FSpec) := [(55, (spP [SSite] [I64] ref05_Check_t)), (58, (spT [SLooked] [Bo] ref13_May))]
theorem ref13_Asked_l : AllMeet Tryd.prog V ref13_Asked_L := (.cons ref05_Check_m (.cons ref13_May_m .nil))
set_option maxRecDepth 100000 in
theorem ref13_Asked_d : ∀ x : PSSite × List PSLooked, denote (mkC Tryd.prog V ref13_Asked_L) 1 (inlOf Tryd.f51 { loops := [(0, [.slot 6 I64])] }) [SSite, SLookeds] [I64] false x = ref13_Asked_t x := fun x => by kernel_rfl
theorem ref13_Asked_m : Meets Tryd.prog V 51 (spP [SSite, SLookeds] [I64] ref13_Asked_t) := meets_part ref13_Asked_l stays hmix (hs := { loops := [(0, [.slot 6 I64])] }) (fnOK Tryd.func51 (by kernel_rfl) (by kernel_rfl) (by kernel_rfl)) false ref13_Asked_d
def ref13_All_L : List (Nat × FSpec) := [(51, (spP [SSite, SLookeds] [I64] ref13_Asked_t)), (54, (spT [U32, I64] [Bo] ref02_Has)), (59, (spP [SSite, I64, SLooked, Bo] [SLooked] ref13_step_t))]
theorem ref13_All_l : AllMeet Tryd.prog V ref13_All_L := (.cons ref13_Asked_m (.cons ref02_Has_m (.cons ref13_step_m .nil)))
set_option maxRecDepth 100000 in
theorem ref13_All_d : ∀ x : PSSite × List PSLooked × Int, denote (mkC Tryd.prog V ref13_All_L) 1 (inlOf Tryd.f35 { loops := [(0, [.own 9 SLooked, .slot 10 I64])] }) [SSite, SLookeds, U32] [SLookeds, I64] false x = ref13_All_t x := fun x => by kernel_rfl
theorem ref13_All_m : Meets Tryd.prog V 35 (spP [SSite, SLookeds, U32] [SLookeds, I64] ref13_All_t) := meets_part ref13_All_l stays hmix (hs := { loops := [(0, [.own 9 SLooked, .slot 10 I64])] }) (fnOK Tryd.func35 (by kernel_rfl) (by kernel_rfl) (by kernel_rfl)) false ref13_All_d
def ref13_Well_L : List (Nat × FSpec) := [(51, (spP [SSite, SLookeds] [I64] ref13_Asked_t))]
theorem ref13_Well_l : AllMeet Tryd.prog V ref13_Well_L := (.cons ref13_Asked_m .nil)
set_option maxRecDepth 100000 in
theorem ref13_Well_d : ∀ x : PSSite × List PSLooked, denote (mkC Tryd.prog V ref13_Well_L) 1 (inlOf Tryd.f36 { loops := [(0, [.slot 7 I64]), (2, [.slot 8 Bo, .slot 9 Bo, .slot 10 I64])] }) [SSite, SLookeds] [Bo, I64] false x = ref13_Well_t x := fun x => by kernel_rfl
theorem ref13_Well_m : Meets Tryd.prog V 36 (spP [SSite, SLookeds] [Bo, I64] ref13_Well_t) := meets_part ref13_Well_l stays hmix (hs := { loops := [(0, [.slot 7 I64]), (2, [.slot 8 Bo, .slot 9 Bo, .slot 10 I64])] }) (fnOK Tryd.func36 (by kernel_rfl) (by kernel_rfl) (by kernel_rfl)) false ref13_Well_d
def ref13_Same_L : List (Nat × FSpec) := []
theorem ref13_Same_l : AllMeet Tryd.prog V ref13_Same_L := .nil
set_option maxRecDepth 100000 in
theorem ref13_Same_d : ∀ x : List PSLooked × List PSLooked, denote (mkC Tryd.prog V ref13_Same_L) 1 (inlOf Tryd.f29 { loops := [(0, [.slot 5 I64])] }) [SLookeds, SLookeds] [Bo] false x = ref13_Same_t x := fun x => by kernel_rfl
theorem ref13_Same_m : Meets Tryd.prog V 29 (spP [SLookeds, SLookeds] [Bo] ref13_Same_t) := meets_part ref13_Same_l stays hmix (hs := { loops := [(0, [.slot 5 I64])] }) (fnOK Tryd.func29 (by kernel_rfl) (by kernel_rfl) (by kernel_rfl)) false ref13_Same_d
def ref13_Wants_L : List (Nat × FSpec) := []
theorem ref13_Wants_l : AllMeet Tryd.prog V ref13_Wants_L := .nil
set_option maxRecDepth 100000 in
theorem ref13_Wants_d : ∀ x : PSLooked, denote (mkC Tryd.prog V ref13_Wants_L) 1 (inlOf Tryd.f37 {}) [SLooked] [Bo] false x = ref13_Wants_t x := fun x => by kernel_rfl
theorem ref13_Wants_m : Meets Tryd.prog V 37 (spT [SLooked] [Bo] ref13_Wants) := meets_tot ref13_Wants_l stays hmix (hs := {}) (fnOK Tryd.func37 (by kernel_rfl) (by kernel_rfl) (by kernel_rfl)) false fun x => (ref13_Wants_d x).trans (ref13_Wants_e x)
def law13_EyeTicks_L : List (Nat × FSpec) := [(14, (spP [SSite] [Bo] ref05_Great_t)), (15, (spP [SSite, I64, SLooked, Bo] [SLooked, I64] eye_Next_t)), (34, (spP [SSite, I64, SLooked, Bo] [SLooked, I64] ref13_Next_t)), (30, (spP [SSite, SLookeds, U32] [SLookeds, I64] eye_All_t true)), (35, (spP [SSite, SLookeds, U32] [SLookeds, I64] ref13_All_t)), (31, (spP [SSite, SLookeds] [Bo, I64] eye_Well_t)), (36, (spP [SSite, SLookeds] [Bo, I64] ref13_Well_t)), (29, (spP [SLookeds, SLookeds] [Bo] ref13_Same_t)), (18, (spT [SLooked] [Bo] eye_Believed)), (19, (spT [SLooked] [Bo] eye_Wants)), (37, (spT [SLooked] [Bo] ref13_Wants))]
theorem law13_EyeTicks_l : AllMeet Tryd.prog V law13_EyeTicks_L := (.cons ref05_Great_m (.cons eye_Next_m (.cons ref13_Next_m (.cons eye_All_m (.cons ref13_All_m (.cons eye_Well_m (.cons ref13_Well_m (.cons ref13_Same_m (.cons eye_Believed_m (.cons eye_Wants_m (.cons ref13_Wants_m .nil)))))))))))
set_option maxRecDepth 100000 in
theorem law13_EyeTicks_d : ∀ x : PSSite × Int × PSLooked × List PSLooked × Int, denote (mkC Tryd.prog V law13_EyeTicks_L) 1 (inlOf Tryd.f12 { loops := [(0, [.slot 25 I64, .arr 17 SLooked])] }) [SSite, I64, SLooked, SLookeds, U32] [Bo] false x = law13_EyeTicks_t x := fun x => by kernel_rfl
theorem law13_EyeTicks_m : Meets Tryd.prog V 12 (spP [SSite, I64, SLooked, SLookeds, U32] [Bo] law13_EyeTicks_t) := meets_part law13_EyeTicks_l stays hmix (hs := { loops := [(0, [.slot 25 I64, .arr 17 SLooked])] }) (fnOK Tryd.func12 (by kernel_rfl) (by kernel_rfl) (by kernel_rfl)) false law13_EyeTicks_d
def law14_seen_L : List (Nat × FSpec) := []
theorem law14_seen_l : AllMeet Tryd.prog V law14_seen_L := .nil
set_option maxRecDepth 100000 in
theorem law14_seen_d : ∀ x : Unit, denote (mkC Tryd.prog V law14_seen_L) 1 (inlOf Tryd.f20 {}) [] [SSite] false x = law14_seen_t x := fun x => by kernel_rfl
theorem law14_seen_m : Meets Tryd.prog V 20 (spT [] [SSite] law14_seen) := meets_tot law14_seen_l stays hmix (hs := {}) (fnOK Tryd.func20 (by kernel_rfl) (by kernel_rfl) (by kernel_rfl)) false fun x => (law14_seen_d x).trans (law14_seen_e x)
def call_Real_L : List (Nat × FSpec) := [(31, (spP [SSite, SLookeds] [Bo, I64] eye_Well_t)), (19, (spT [SLooked] [Bo] eye_Wants))]
theorem call_Real_l : AllMeet Tryd.prog V call_Real_L := (.cons eye_Well_m (.cons eye_Wants_m .nil))
set_option maxRecDepth 100000 in
theorem call_Real_d : ∀ x : PSSite × List PSLooked, denote (mkC Tryd.prog V call_Real_L) 1 (inlOf Tryd.f21 { loops := [(0, [.slot 4 U32, .slot 24 I64]), (2, [.slot 4 U32, .slot 38 I64])] }) [SSite, SLookeds] [U32, I64] false x = call_Real_t x := fun x => by kernel_rfl
theorem call_Real_m : Meets Tryd.prog V 21 (spP [SSite, SLookeds] [U32, I64] call_Real_t) := meets_part call_Real_l stays hmix (hs := { loops := [(0, [.slot 4 U32, .slot 24 I64]), (2, [.slot 4 U32, .slot 38 I64])] }) (fnOK Tryd.func21 (by kernel_rfl) (by kernel_rfl) (by kernel_rfl)) false call_Real_d
def law14_up_L : List (Nat × FSpec) := []
theorem law14_up_l : AllMeet Tryd.prog V law14_up_L := .nil
set_option maxRecDepth 100000 in
theorem law14_up_d : ∀ x : Unit, denote (mkC Tryd.prog V law14_up_L) 1 (inlOf Tryd.f22 {}) [] [SLookeds] false x = law14_up_t x := fun x => by kernel_rfl
theorem law14_up_m : Meets Tryd.prog V 22 (spT [] [SLookeds] law14_up) := meets_tot law14_up_l stays hmix (hs := {}) (fnOK Tryd.func22 (by kernel_rfl) (by kernel_rfl) (by kernel_rfl)) false fun x => (law14_up_d x).trans (law14_up_e x)
def call_asked_L : List (Nat × FSpec) := []
theorem call_asked_l : AllMeet Tryd.prog V call_asked_L := .nil
set_option maxRecDepth 100000 in
theorem call_asked_d : ∀ x : PSSite × Int × Int, denote (mkC Tryd.prog V call_asked_L) 1 (inlOf Tryd.f48 {}) [SSite, U32, I64] [I64] false x = call_asked_t x := fun x => by kernel_rfl
theorem call_asked_m : Meets Tryd.prog V 48 (spP [SSite, U32, I64] [I64] call_asked_t) := meets_part call_asked_l stays hmix (hs := {}) (fnOK Tryd.func48 (by kernel_rfl) (by kernel_rfl) (by kernel_rfl)) false call_asked_d
def call_Next_L : List (Nat × FSpec) := [(21, (spP [SSite, SLookeds] [U32, I64] call_Real_t)), (48, (spP [SSite, U32, I64] [I64] call_asked_t)), (49, (spT [U32, I64] [U32] ring_Without))]
theorem call_Next_l : AllMeet Tryd.prog V call_Next_L := (.cons call_Real_m (.cons call_asked_m (.cons ring_Without_m .nil)))
set_option maxRecDepth 100000 in
theorem call_Next_d : ∀ x : PSSite × Int × List PSLooked × Int, denote (mkC Tryd.prog V call_Next_L) 1 (inlOf Tryd.f23 {}) [SSite, U32, SLookeds, I64] [U32, I64] false x = call_Next_t x := fun x => by kernel_rfl
theorem call_Next_m : Meets Tryd.prog V 23 (spP [SSite, U32, SLookeds, I64] [U32, I64] call_Next_t) := meets_part call_Next_l stays hmix (hs := {}) (fnOK Tryd.func23 (by kernel_rfl) (by kernel_rfl) (by kernel_rfl)) false call_Next_d
def call_First_L : List (Nat × FSpec) := [(16, (spP [SSite] [I64] site_Check_t)), (48, (spP [SSite, U32, I64] [I64] call_asked_t)), (50, (spT [U32, I64] [Bo] ring_Has))]
theorem call_First_l : AllMeet Tryd.prog V call_First_L := (.cons site_Check_m (.cons call_asked_m (.cons ring_Has_m .nil)))
set_option maxRecDepth 100000 in
theorem call_First_d : ∀ x : PSSite × Int × Int, denote (mkC Tryd.prog V call_First_L) 1 (inlOf Tryd.f24 { loops := [(0, [.slot 11 I64])] }) [SSite, U32, I64] [I64, I64] false x = call_First_t x := fun x => by kernel_rfl
theorem call_First_m : Meets Tryd.prog V 24 (spP [SSite, U32, I64] [I64, I64] call_First_t) := meets_part call_First_l stays hmix (hs := { loops := [(0, [.slot 11 I64])] }) (fnOK Tryd.func24 (by kernel_rfl) (by kernel_rfl) (by kernel_rfl)) false call_First_d
def law14_alive_L : List (Nat × FSpec) := [(20, (spT [] [SSite] law14_seen)), (22, (spT [] [SLookeds] law14_up)), (23, (spP [SSite, U32, SLookeds, I64] [U32, I64] call_Next_t)), (24, (spP [SSite, U32, I64] [I64, I64] call_First_t))]
theorem law14_alive_l : AllMeet Tryd.prog V law14_alive_L := (.cons law14_seen_m (.cons law14_up_m (.cons call_Next_m (.cons call_First_m .nil))))
set_option maxRecDepth 100000 in
theorem law14_alive_d : ∀ x : Unit, denote (mkC Tryd.prog V law14_alive_L) 1 (inlOf Tryd.f25 {}) [] [Bo] false x = law14_alive_t x := fun x => by kernel_rfl
theorem law14_alive_m : Meets Tryd.prog V 25 (spP [] [Bo] law14_alive_t) := meets_part law14_alive_l stays hmix (hs := {}) (fnOK Tryd.func25 (by kernel_rfl) (by kernel_rfl) (by kernel_rfl)) false law14_alive_d
def law14_CallNames_L : List (Nat × FSpec) := [(20, (spT [] [SSite] law14_seen)), (21, (spP [SSite, SLookeds] [U32, I64] call_Real_t)), (22, (spT [] [SLookeds] law14_up)), (23, (spP [SSite, U32, SLookeds, I64] [U32, I64] call_Next_t)), (24, (spP [SSite, U32, I64] [I64, I64] call_First_t)), (25, (spP [] [Bo] law14_alive_t))]
theorem law14_CallNames_l : AllMeet Tryd.prog V law14_CallNames_L := (.cons law14_seen_m (.cons call_Real_m (.cons law14_up_m (.cons call_Next_m (.cons call_First_m (.cons law14_alive_m .nil))))))
set_option maxRecDepth 100000 in
theorem law14_CallNames_d : ∀ x : Unit, denote (mkC Tryd.prog V law14_CallNames_L) 1 (inlOf Tryd.f5 {}) [] [Bo] false x = law14_CallNames_t x := fun x => by kernel_rfl
theorem law14_CallNames_m : Meets Tryd.prog V 5 (spP [] [Bo] law14_CallNames_t) := meets_part law14_CallNames_l stays hmix (hs := {}) (fnOK Tryd.func5 (by kernel_rfl) (by kernel_rfl) (by kernel_rfl)) false law14_CallNames_d
def ref14_Real_L : List (Nat × FSpec) := [(51, (spP [SSite, SLookeds] [I64] ref13_Asked_t)), (37, (spT [SLooked] [Bo] ref13_Wants)), (52, (spT [U32, I64] [U32] ref02_With))]
theorem ref14_Real_l : AllMeet Tryd.prog V ref14_Real_L := (.cons ref13_Asked_m (.cons ref13_Wants_m (.cons ref02_With_m .nil)))
set_option maxRecDepth 100000 in
theorem ref14_Real_d : ∀ x : PSSite × List PSLooked, denote (mkC Tryd.prog V ref14_Real_L) 1 (inlOf Tryd.f26 { loops := [(0, [.slot 7 U32, .slot 8 I64]), (2, [.slot 9 Bo, .slot 10 I64])] }) [SSite, SLookeds] [U32, I64] false x = ref14_Real_t x := fun x => by kernel_rfl
theorem ref14_Real_m : Meets Tryd.prog V 26 (spP [SSite, SLookeds] [U32, I64] ref14_Real_t) := meets_part ref14_Real_l stays hmix (hs := { loops := [(0, [.slot 7 U32, .slot 8 I64]), (2, [.slot 9 Bo, .slot 10 I64])] }) (fnOK Tryd.func26 (by kernel_rfl) (by kernel_rfl) (by kernel_rfl)) false ref14_Real_d
def ref14_May_L : List (Nat × FSpec) := []
theorem ref14_May_l : AllMeet Tryd.prog V ref14_May_L := .nil
set_option maxRecDepth 100000 in
theorem ref14_May_d : ∀ x : PSSite × Int, denote (mkC Tryd.prog V ref14_May_L) 1 (inlOf Tryd.f53 {}) [SSite, U32] [Bo] false x = ref14_May_t x := fun x => by kernel_rfl
theorem ref14_May_m : Meets Tryd.prog V 53 (spT [SSite, U32] [Bo] ref14_May) := meets_tot ref14_May_l stays hmix (hs := {}) (fnOK Tryd.func53 (by kernel_rfl) (by kernel_rfl) (by kernel_rfl)) false fun x => (ref14_May_d x).trans (ref14_May_e x)
def ref14_Next_L : List (Nat × FSpec) := [(26, (spP [SSite, SLookeds] [U32, I64] ref14_Real_t)), (53, (spT [SSite, U32] [Bo] ref14_May)), (54, (spT [U32, I64] [Bo] ref02_Has)), (52, (spT [U32, I64] [U32] ref02_With))]
theorem ref14_Next_l : AllMeet Tryd.prog V ref14_Next_L := (.cons ref14_Real_m (.cons ref14_May_m (.cons ref02_Has_m (.cons ref02_With_m .nil))))
set_option maxRecDepth 100000 in
theorem ref14_Next_d : ∀ x : PSSite × Int × List PSLooked × Int, denote (mkC Tryd.prog V ref14_Next_L) 1 (inlOf Tryd.f27 { loops := [(0, [.slot 12 U32, .slot 13 I64])] }) [SSite, U32, SLookeds, I64] [U32, I64] false x = ref14_Next_t x := fun x => by kernel_rfl
theorem ref14_Next_m : Meets Tryd.prog V 27 (spP [SSite, U32, SLookeds, I64] [U32, I64] ref14_Next_t) := meets_part ref14_Next_l stays hmix (hs := { loops := [(0, [.slot 12 U32, .slot 13 I64])] }) (fnOK Tryd.func27 (by kernel_rfl) (by kernel_rfl) (by kernel_rfl)) false ref14_Next_d
def ref14_First_L : List (Nat × FSpec) := [(55, (spP [SSite] [I64] ref05_Check_t)), (53, (spT [SSite, U32] [Bo] ref14_May)), (54, (spT [U32, I64] [Bo] ref02_Has))]
theorem ref14_First_l : AllMeet Tryd.prog V ref14_First_L := (.cons ref05_Check_m (.cons ref14_May_m (.cons ref02_Has_m .nil)))
set_option maxRecDepth 100000 in
theorem ref14_First_d : ∀ x : PSSite × Int × Int, denote (mkC Tryd.prog V ref14_First_L) 1 (inlOf Tryd.f28 { loops := [(0, [.slot 9 I64]), (2, [.slot 10 I64])] }) [SSite, U32, I64] [I64, I64] false x = ref14_First_t x := fun x => by kernel_rfl
theorem ref14_First_m : Meets Tryd.prog V 28 (spP [SSite, U32, I64] [I64, I64] ref14_First_t) := meets_part ref14_First_l stays hmix (hs := { loops := [(0, [.slot 9 I64]), (2, [.slot 10 I64])] }) (fnOK Tryd.func28 (by kernel_rfl) (by kernel_rfl) (by kernel_rfl)) false ref14_First_d
def law14_CallTells_L : List (Nat × FSpec) := [(14, (spP [SSite] [Bo] ref05_Great_t)), (21, (spP [SSite, SLookeds] [U32, I64] call_Real_t)), (26, (spP [SSite, SLookeds] [U32, I64] ref14_Real_t)), (23, (spP [SSite, U32, SLookeds, I64] [U32, I64] call_Next_t)), (27, (spP [SSite, U32, SLookeds, I64] [U32, I64] ref14_Next_t)), (24, (spP [SSite, U32, I64] [I64, I64] call_First_t)), (28, (spP [SSite, U32, I64] [I64, I64] ref14_First_t)), (29, (spP [SLookeds, SLookeds] [Bo] ref13_Same_t))]
theorem law14_CallTells_l : AllMeet Tryd.prog V law14_CallTells_L := (.cons ref05_Great_m (.cons call_Real_m (.cons ref14_Real_m (.cons call_Next_m (.cons ref14_Next_m (.cons call_First_m (.cons ref14_First_m (.cons ref13_Same_m .nil))))))))
set_option maxRecDepth 100000 in
theorem law14_CallTells_d : ∀ x : PSSite × Int × List PSLooked × Int, denote (mkC Tryd.prog V law14_CallTells_L) 1 (inlOf Tryd.f6 {}) [SSite, U32, SLookeds, I64] [Bo] false x = law14_CallTells_t x := fun x => by kernel_rfl
theorem law14_CallTells_m : Meets Tryd.prog V 6 (spP [SSite, U32, SLookeds, I64] [Bo] law14_CallTells_t) := meets_part law14_CallTells_l stays hmix (hs := {}) (fnOK Tryd.func6 (by kernel_rfl) (by kernel_rfl) (by kernel_rfl)) false law14_CallTells_d
def law14_CallKept_L : List (Nat × FSpec) := [(25, (spP [] [Bo] law14_alive_t)), (14, (spP [SSite] [Bo] ref05_Great_t)), (16, (spP [SSite] [I64] site_Check_t)), (23, (spP [SSite, U32, SLookeds, I64] [U32, I64] call_Next_t))]
theorem law14_CallKept_l : AllMeet Tryd.prog V law14_CallKept_L := (.cons law14_alive_m (.cons ref05_Great_m (.cons site_Check_m (.cons call_Next_m .nil))))
set_option maxRecDepth 100000 in
theorem law14_CallKept_d : ∀ x : PSSite × Int × List PSLooked × Int, denote (mkC Tryd.prog V law14_CallKept_L) 1 (inlOf Tryd.f7 { loops := [(0, [.slot 12 I64]), (2, [.slot 13 Bo, .slot 14 I64])], joins := [(15, []), (17, [.slot 13 Bo])], outs := [(15, [(13, Bo)])] }) [SSite, U32, SLookeds, I64] [Bo] false x = law14_CallKept_t x := fun x => by kernel_rfl
theorem law14_CallKept_m : Meets Tryd.prog V 7 (spP [SSite, U32, SLookeds, I64] [Bo] law14_CallKept_t) := meets_part law14_CallKept_l stays hmix (hs := { loops := [(0, [.slot 12 I64]), (2, [.slot 13 Bo, .slot 14 I64])], joins := [(15, []), (17, [.slot 13 Bo])], outs := [(15, [(13, Bo)])] }) (fnOK Tryd.func7 (by kernel_rfl) (by kernel_rfl) (by kernel_rfl)) false law14_CallKept_d
def law14_CallRound_L : List (Nat × FSpec) := [(25, (spP [] [Bo] law14_alive_t)), (14, (spP [SSite] [Bo] ref05_Great_t)), (16, (spP [SSite] [I64] site_Check_t)), (24, (spP [SSite, U32, I64] [I64, I64] call_First_t))]
theorem law14_CallRound_l : AllMeet Tryd.prog V law14_CallRound_L := (.cons law14_alive_m (.cons ref05_Great_m (.cons site_Check_m (.cons call_First_m .nil))))
set_option maxRecDepth 100000 in
theorem law14_CallRound_d : ∀ x : PSSite × Int × Int, denote (mkC Tryd.prog V law14_CallRound_L) 1 (inlOf Tryd.f8 { loops := [(0, [.slot 8 I64, .slot 10 U32])] }) [SSite, U32, I64] [Bo] false x = law14_CallRound_t x := fun x => by kernel_rfl
theorem law14_CallRound_m : Meets Tryd.prog V 8 (spP [SSite, U32, I64] [Bo] law14_CallRound_t) := meets_part law14_CallRound_l stays hmix (hs := { loops := [(0, [.slot 8 I64, .slot 10 U32])] }) (fnOK Tryd.func8 (by kernel_rfl) (by kernel_rfl) (by kernel_rfl)) false law14_CallRound_d
def law14_CallNearest_L : List (Nat × FSpec) := [(25, (spP [] [Bo] law14_alive_t)), (14, (spP [SSite] [Bo] ref05_Great_t)), (16, (spP [SSite] [I64] site_Check_t)), (24, (spP [SSite, U32, I64] [I64, I64] call_First_t))]
theorem law14_CallNearest_l : AllMeet Tryd.prog V law14_CallNearest_L := (.cons law14_alive_m (.cons ref05_Great_m (.cons site_Check_m (.cons call_First_m .nil))))
set_option maxRecDepth 100000 in
theorem law14_CallNearest_d : ∀ x : PSSite × Int × Int, denote (mkC Tryd.prog V law14_CallNearest_L) 1 (inlOf Tryd.f9 { loops := [(0, [.slot 11 I64])] }) [SSite, U32, I64] [Bo] false x = law14_CallNearest_t x := fun x => by kernel_rfl
theorem law14_CallNearest_m : Meets Tryd.prog V 9 (spP [SSite, U32, I64] [Bo] law14_CallNearest_t) := meets_part law14_CallNearest_l stays hmix (hs := { loops := [(0, [.slot 11 I64])] }) (fnOK Tryd.func9 (by kernel_rfl) (by kernel_rfl) (by kernel_rfl)) false law14_CallNearest_d
end Go.Proofs.YtiacnaijablgcaaDoor
