/- Part of a proof: plain readings of Go functions, their contracts, or plain facts of them. -/
import Derived.Test.YtdgiapeofmlecaaDoorTrnB
import Derived.Lib.Walk
import Derived.Tactics
import Derived.WalkKit
import Derived.Laws.CopyOwn
import Derived.Laws.MakeOwn
import Derived.LoopTactic
import Derived.RangeFuncRecord
import Derived.Shelf.Bits.Mul64
namespace Go.Proofs.YtdgiapeofmlecaaDoor
open Go.Den Go.RowKit Go.ChangeShapes Go.Shelf

def law15_three_L : List (Nat × FSpec) := []
theorem law15_three_l : AllMeet Tryd.prog V law15_three_L := .nil
set_option maxRecDepth 100000 in
theorem law15_three_d : ∀ x : Unit, denote (mkC Tryd.prog V law15_three_L) 1 (inlOf Tryd.f36 {}) [] [SSite] false x = law15_three_t x := fun x => by kernel_rfl
theorem law15_three_m : Meets Tryd.prog V 36 (spT [] [SSite] law15_three) := meets_tot law15_three_l stays hmix (hs := {}) (fnOK Tryd.func36 (by kernel_rfl) (by kernel_rfl) (by kernel_rfl)) false fun x => (law15_three_d x).trans (law15_three_e x)
def site_in_L : List (Nat × FSpec) := []
theorem site_in_l : AllMeet Tryd.prog V site_in_L := .nil
set_option maxRecDepth 100000 in
theorem site_in_d : ∀ x : Int × Int × Int, denote (mkC Tryd.prog V site_in_L) 1 (inlOf Tryd.f84 {}) [I64, I64, I64] [Bo] false x = site_in_t x := fun x => by kernel_rfl
theorem site_in_m : Meets Tryd.prog V 84 (spT [I64, I64, I64] [Bo] site_in) := meets_tot site_in_l stays hmix (hs := {}) (fnOK Tryd.func84 (by kernel_rfl) (by kernel_rfl) (by kernel_rfl)) false fun x => (site_in_d x).trans (site_in_e x)
def site_shape_L : List (Nat × FSpec) := [(84, (spT [I64, I64, I64] [Bo] site_in))]
theorem site_shape_l : AllMeet Tryd.prog V site_shape_L := (.cons site_in_m .nil)
set_option maxRecDepth 100000 in
theorem site_shape_d : ∀ x : PSSite, denote (mkC Tryd.prog V site_shape_L) 1 (inlOf Tryd.f85 { loops := [(0, [.slot 48 I64])] }) [SSite] [Bo] false x = site_shape_t x := fun x => by kernel_rfl
theorem site_shape_m : Meets Tryd.prog V 85 (spP [SSite] [Bo] site_shape_t) := meets_part site_shape_l stays hmix (hs := { loops := [(0, [.slot 48 I64])] }) (fnOK Tryd.func85 (by kernel_rfl) (by kernel_rfl) (by kernel_rfl)) false site_shape_d
def site_ticks_L : List (Nat × FSpec) := [(84, (spT [I64, I64, I64] [Bo] site_in))]
theorem site_ticks_l : AllMeet Tryd.prog V site_ticks_L := (.cons site_in_m .nil)
set_option maxRecDepth 100000 in
theorem site_ticks_d : ∀ x : List Int, denote (mkC Tryd.prog V site_ticks_L) 1 (inlOf Tryd.f118 { loops := [(0, [.slot 7 I64])] }) [I64s] [Bo] false x = site_ticks_t x := fun x => by kernel_rfl
theorem site_ticks_m : Meets Tryd.prog V 118 (spT [I64s] [Bo] site_ticks) := meets_up (meets_part site_ticks_l stays hmix (hs := { loops := [(0, [.slot 7 I64])] }) (fnOK Tryd.func118 (by kernel_rfl) (by kernel_rfl) (by kernel_rfl)) false site_ticks_d) site_ticks_e
def ring_bit_L : List (Nat × FSpec) := []
theorem ring_bit_l : AllMeet Tryd.prog V ring_bit_L := .nil
set_option maxRecDepth 100000 in
theorem ring_bit_d : ∀ x : Int, denote (mkC Tryd.prog V ring_bit_L) 1 (inlOf Tryd.f134 {}) [I64] [U32] false x = ring_bit_t x := fun x => by kernel_rfl
theorem ring_bit_m : Meets Tryd.prog V 134 (spT [I64] [U32] ring_bit) := meets_up (meets_part ring_bit_l stays hmix (hs := {}) (fnOK Tryd.func134 (by kernel_rfl) (by kernel_rfl) (by kernel_rfl)) false ring_bit_d) ring_bit_e
def ring_Has_L : List (Nat × FSpec) := [(134, (spT [I64] [U32] ring_bit))]
theorem ring_Has_l : AllMeet Tryd.prog V ring_Has_L := (.cons ring_bit_m .nil)
set_option maxRecDepth 100000 in
theorem ring_Has_d : ∀ x : Int × Int, denote (mkC Tryd.prog V ring_Has_L) 1 (inlOf Tryd.f119 {}) [U32, I64] [Bo] false x = ring_Has_t x := fun x => by kernel_rfl
theorem ring_Has_m : Meets Tryd.prog V 119 (spT [U32, I64] [Bo] ring_Has) := meets_tot ring_Has_l stays hmix (hs := {}) (fnOK Tryd.func119 (by kernel_rfl) (by kernel_rfl) (by kernel_rfl)) false fun x => (ring_Has_d x).trans (ring_Has_e x)
def site_apart_L : List (Nat × FSpec) := [(118, (spT [I64s] [Bo] site_ticks)), (119, (spT [U32, I64] [Bo] ring_Has)), (84, (spT [I64, I64, I64] [Bo] site_in))]
theorem site_apart_l : AllMeet Tryd.prog V site_apart_L := (.cons site_ticks_m (.cons ring_Has_m (.cons site_in_m .nil)))
set_option maxRecDepth 100000 in
theorem site_apart_d : ∀ x : PSSite, denote (mkC Tryd.prog V site_apart_L) 1 (inlOf Tryd.f86 { loops := [(0, [.slot 11 I64]), (2, [.slot 39 I64])] }) [SSite] [Bo] false x = site_apart_t x := fun x => by kernel_rfl
theorem site_apart_m : Meets Tryd.prog V 86 (spP [SSite] [Bo] site_apart_t) := meets_part site_apart_l stays hmix (hs := { loops := [(0, [.slot 11 I64]), (2, [.slot 39 I64])] }) (fnOK Tryd.func86 (by kernel_rfl) (by kernel_rfl) (by kernel_rfl)) false site_apart_d
def ring_Least_L : List (Nat × FSpec) := [(135, (spT [U32] [I64] bits_TrailingZeros32))]
theorem ring_Least_l : AllMeet Tryd.prog V ring_Least_L := (.cons bits_TrailingZeros32_m .nil)
set_option maxRecDepth 100000 in
theorem ring_Least_d : ∀ x : Int, denote (mkC Tryd.prog V ring_Least_L) 1 (inlOf Tryd.f120 {}) [U32] [I64] false x = ring_Least_t x := fun x => by kernel_rfl
theorem ring_Least_m : Meets Tryd.prog V 120 (spT [U32] [I64] ring_Least) := meets_tot ring_Least_l stays hmix (hs := {}) (fnOK Tryd.func120 (by kernel_rfl) (by kernel_rfl) (by kernel_rfl)) false fun x => (ring_Least_d x).trans (ring_Least_e x)
def ring_Without_L : List (Nat × FSpec) := [(134, (spT [I64] [U32] ring_bit))]
theorem ring_Without_l : AllMeet Tryd.prog V ring_Without_L := (.cons ring_bit_m .nil)
set_option maxRecDepth 100000 in
theorem ring_Without_d : ∀ x : Int × Int, denote (mkC Tryd.prog V ring_Without_L) 1 (inlOf Tryd.f121 {}) [U32, I64] [U32] false x = ring_Without_t x := fun x => by kernel_rfl
theorem ring_Without_m : Meets Tryd.prog V 121 (spT [U32, I64] [U32] ring_Without) := meets_tot ring_Without_l stays hmix (hs := {}) (fnOK Tryd.func121 (by kernel_rfl) (by kernel_rfl) (by kernel_rfl)) false fun x => (ring_Without_d x).trans (ring_Without_e x)
theorem bits_OnesCount32_d : ∀ x : Int, denote (mkC Tryd.prog V []) 1 (inlOf Tryd.f136 {}) [U32] [I64] false x = ocTree x := fun x => by kernel_rfl
theorem bits_OnesCount32_m : Meets Tryd.prog V 136 (spT [U32] [I64] bits_OnesCount32) := meets_up (meets_part .nil stays hmix (hs := {}) (fnOK Tryd.func136 (by kernel_rfl) (by kernel_rfl) (by kernel_rfl)) false bits_OnesCount32_d) (fun x hf => ocTree_eq (fits_u32 hf))

def ring_Count_L : List (Nat × FSpec) := [(136, (spT [U32] [I64] bits_OnesCount32))]
theorem ring_Count_l : AllMeet Tryd.prog V ring_Count_L := (.cons bits_OnesCount32_m .nil)
set_option maxRecDepth 100000 in
theorem ring_Count_d : ∀ x : Int, denote (mkC Tryd.prog V ring_Count_L) 1 (inlOf Tryd.f122 {}) [U32] [I64] false x = ring_Count_t x := fun x => by kernel_rfl
theorem ring_Count_m : Meets Tryd.prog V 122 (spT [U32] [I64] ring_Count) := meets_tot ring_Count_l stays hmix (hs := {}) (fnOK Tryd.func122 (by kernel_rfl) (by kernel_rfl) (by kernel_rfl)) false fun x => (ring_Count_d x).trans (ring_Count_e x)
def site_phased_L : List (Nat × FSpec) := [(118, (spT [I64s] [Bo] site_ticks)), (120, (spT [U32] [I64] ring_Least)), (121, (spT [U32, I64] [U32] ring_Without)), (122, (spT [U32] [I64] ring_Count))]
theorem site_phased_l : AllMeet Tryd.prog V site_phased_L := (.cons site_ticks_m (.cons ring_Least_m (.cons ring_Without_m (.cons ring_Count_m .nil))))
set_option maxRecDepth 100000 in
theorem site_phased_d : ∀ x : PSSite, denote (mkC Tryd.prog V site_phased_L) 1 (inlOf Tryd.f87 { loops := [(0, [.slot 3 U32, .slot 11 I64]), (2, [.slot 6 U32])] }) [SSite] [Bo] false x = site_phased_t x := fun x => by kernel_rfl
theorem site_phased_m : Meets Tryd.prog V 87 (spP [SSite] [Bo] site_phased_t) := meets_part site_phased_l stays hmix (hs := { loops := [(0, [.slot 3 U32, .slot 11 I64]), (2, [.slot 6 U32])] }) (fnOK Tryd.func87 (by kernel_rfl) (by kernel_rfl) (by kernel_rfl)) false site_phased_d
def site_eyed_L : List (Nat × FSpec) := [(84, (spT [I64, I64, I64] [Bo] site_in)), (118, (spT [I64s] [Bo] site_ticks))]
theorem site_eyed_l : AllMeet Tryd.prog V site_eyed_L := (.cons site_in_m (.cons site_ticks_m .nil))
set_option maxRecDepth 100000 in
theorem site_eyed_d : ∀ x : PSSite, denote (mkC Tryd.prog V site_eyed_L) 1 (inlOf Tryd.f88 { loops := [(0, [.slot 8 I64])] }) [SSite] [Bo] false x = site_eyed_t x := fun x => by kernel_rfl
theorem site_eyed_m : Meets Tryd.prog V 88 (spP [SSite] [Bo] site_eyed_t) := meets_part site_eyed_l stays hmix (hs := { loops := [(0, [.slot 8 I64])] }) (fnOK Tryd.func88 (by kernel_rfl) (by kernel_rfl) (by kernel_rfl)) false site_eyed_d
def site_clear_L : List (Nat × FSpec) := [(119, (spT [U32, I64] [Bo] ring_Has)), (120, (spT [U32] [I64] ring_Least)), (121, (spT [U32, I64] [U32] ring_Without))]
theorem site_clear_l : AllMeet Tryd.prog V site_clear_L := (.cons ring_Has_m (.cons ring_Least_m (.cons ring_Without_m .nil)))
set_option maxRecDepth 100000 in
theorem site_clear_d : ∀ x : PSSite × Int × Int, denote (mkC Tryd.prog V site_clear_L) 1 (inlOf Tryd.f137 { loops := [(0, [.slot 6 I64, .slot 13 I64]), (2, [.slot 6 I64, .slot 8 U32])] }) [SSite, I64, I64] [I64] false x = site_clear_t x := fun x => by kernel_rfl
theorem site_clear_m : Meets Tryd.prog V 137 (spP [SSite, I64, I64] [I64] site_clear_t) := meets_part site_clear_l stays hmix (hs := { loops := [(0, [.slot 6 I64, .slot 13 I64]), (2, [.slot 6 I64, .slot 8 U32])] }) (fnOK Tryd.func137 (by kernel_rfl) (by kernel_rfl) (by kernel_rfl)) false site_clear_d
def site_needs_L : List (Nat × FSpec) := [(137, (spP [SSite, I64, I64] [I64] site_clear_t))]
theorem site_needs_l : AllMeet Tryd.prog V site_needs_L := (.cons site_clear_m .nil)
set_option maxRecDepth 100000 in
theorem site_needs_d : ∀ x : PSSite × Int, denote (mkC Tryd.prog V site_needs_L) 1 (inlOf Tryd.f123 {}) [SSite, I64] [I64] false x = site_needs_t x := fun x => by kernel_rfl
theorem site_needs_m : Meets Tryd.prog V 123 (spP [SSite, I64] [I64] site_needs_t) := meets_part site_needs_l stays hmix (hs := {}) (fnOK Tryd.func123 (by kernel_rfl) (by kernel_rfl) (by kernel_rfl)) false site_needs_d
def site_timed_L : List (Nat × FSpec) := [(123, (spP [SSite, I64] [I64] site_needs_t)), (118, (spT [I64s] [Bo] site_ticks))]
theorem site_timed_l : AllMeet Tryd.prog V site_timed_L := (.cons site_needs_m (.cons site_ticks_m .nil))
set_option maxRecDepth 100000 in
theorem site_timed_d : ∀ x : PSSite, denote (mkC Tryd.prog V site_timed_L) 1 (inlOf Tryd.f89 { loops := [(0, [.slot 3 I64, .slot 8 I64])] }) [SSite] [Bo] false x = site_timed_t x := fun x => by kernel_rfl
theorem site_timed_m : Meets Tryd.prog V 89 (spP [SSite] [Bo] site_timed_t) := meets_part site_timed_l stays hmix (hs := { loops := [(0, [.slot 3 I64, .slot 8 I64])] }) (fnOK Tryd.func89 (by kernel_rfl) (by kernel_rfl) (by kernel_rfl)) false site_timed_d
def site_fits_L : List (Nat × FSpec) := [(84, (spT [I64, I64, I64] [Bo] site_in)), (123, (spP [SSite, I64] [I64] site_needs_t))]
theorem site_fits_l : AllMeet Tryd.prog V site_fits_L := (.cons site_in_m (.cons site_needs_m .nil))
set_option maxRecDepth 100000 in
theorem site_fits_d : ∀ x : PSSite × PSPlan, denote (mkC Tryd.prog V site_fits_L) 1 (inlOf Tryd.f124 { loops := [(0, [.slot 5 I64, .slot 39 I64])] }) [SSite, SPlan] [Bo] false x = site_fits_t x := fun x => by kernel_rfl
theorem site_fits_m : Meets Tryd.prog V 124 (spP [SSite, SPlan] [Bo] site_fits_t) := meets_part site_fits_l stays hmix (hs := { loops := [(0, [.slot 5 I64, .slot 39 I64])] }) (fnOK Tryd.func124 (by kernel_rfl) (by kernel_rfl) (by kernel_rfl)) false site_fits_d
def site_planned_L : List (Nat × FSpec) := [(124, (spP [SSite, SPlan] [Bo] site_fits_t))]
theorem site_planned_l : AllMeet Tryd.prog V site_planned_L := (.cons site_fits_m .nil)
set_option maxRecDepth 100000 in
theorem site_planned_d : ∀ x : PSSite, denote (mkC Tryd.prog V site_planned_L) 1 (inlOf Tryd.f90 { loops := [(0, [.slot 8 I64])] }) [SSite] [Bo] false x = site_planned_t x := fun x => by kernel_rfl
theorem site_planned_m : Meets Tryd.prog V 90 (spP [SSite] [Bo] site_planned_t) := meets_part site_planned_l stays hmix (hs := { loops := [(0, [.slot 8 I64])] }) (fnOK Tryd.func90 (by kernel_rfl) (by kernel_rfl) (by kernel_rfl)) false site_planned_d
def site_Check_L : List (Nat × FSpec) := [(84, (spT [I64, I64, I64] [Bo] site_in)), (85, (spP [SSite] [Bo] site_shape_t)), (86, (spP [SSite] [Bo] site_apart_t)), (87, (spP [SSite] [Bo] site_phased_t)), (88, (spP [SSite] [Bo] site_eyed_t)), (89, (spP [SSite] [Bo] site_timed_t)), (90, (spP [SSite] [Bo] site_planned_t))]
theorem site_Check_l : AllMeet Tryd.prog V site_Check_L := (.cons site_in_m (.cons site_shape_m (.cons site_apart_m (.cons site_phased_m (.cons site_eyed_m (.cons site_timed_m (.cons site_planned_m .nil)))))))
set_option maxRecDepth 100000 in
theorem site_Check_d : ∀ x : PSSite, denote (mkC Tryd.prog V site_Check_L) 1 (inlOf Tryd.f47 { loops := [(0, [.slot 3 Bo, .slot 5 I64])] }) [SSite] [I64] false x = site_Check_t x := fun x => by kernel_rfl
theorem site_Check_m : Meets Tryd.prog V 47 (spP [SSite] [I64] site_Check_t) := meets_part site_Check_l stays hmix (hs := { loops := [(0, [.slot 3 Bo, .slot 5 I64])] }) (fnOK Tryd.func47 (by kernel_rfl) (by kernel_rfl) (by kernel_rfl)) false site_Check_d
def safe_apart_L : List (Nat × FSpec) := []
theorem safe_apart_l : AllMeet Tryd.prog V safe_apart_L := .nil
set_option maxRecDepth 100000 in
theorem safe_apart_d : ∀ x : PSSite × Int × Int, denote (mkC Tryd.prog V safe_apart_L) 1 (inlOf Tryd.f103 {}) [SSite, I64, I64] [Bo] false x = safe_apart_t x := fun x => by kernel_rfl
theorem safe_apart_m : Meets Tryd.prog V 103 (spP [SSite, I64, I64] [Bo] safe_apart_t) := meets_part safe_apart_l stays hmix (hs := {}) (fnOK Tryd.func103 (by kernel_rfl) (by kernel_rfl) (by kernel_rfl)) false safe_apart_d
def safe_between_L : List (Nat × FSpec) := []
theorem safe_between_l : AllMeet Tryd.prog V safe_between_L := .nil
set_option maxRecDepth 100000 in
theorem safe_between_d : ∀ x : PSSite × Int × Int, denote (mkC Tryd.prog V safe_between_L) 1 (inlOf Tryd.f104 {}) [SSite, I64, I64] [I64] false x = safe_between_t x := fun x => by kernel_rfl
theorem safe_between_m : Meets Tryd.prog V 104 (spP [SSite, I64, I64] [I64] safe_between_t) := meets_part safe_between_l stays hmix (hs := {}) (fnOK Tryd.func104 (by kernel_rfl) (by kernel_rfl) (by kernel_rfl)) false safe_between_d
def safe_greatest_L : List (Nat × FSpec) := [(103, (spP [SSite, I64, I64] [Bo] safe_apart_t)), (104, (spP [SSite, I64, I64] [I64] safe_between_t))]
theorem safe_greatest_l : AllMeet Tryd.prog V safe_greatest_L := (.cons safe_apart_m (.cons safe_between_m .nil))
set_option maxRecDepth 100000 in
theorem safe_greatest_d : ∀ x : PSSite, denote (mkC Tryd.prog V safe_greatest_L) 1 (inlOf Tryd.f64 { loops := [(0, [.slot 3 I64, .slot 9 I64]), (2, [.slot 3 I64, .slot 15 I64])] }) [SSite] [I64] false x = safe_greatest_t x := fun x => by kernel_rfl
theorem safe_greatest_m : Meets Tryd.prog V 64 (spP [SSite] [I64] safe_greatest_t) := meets_part safe_greatest_l stays hmix (hs := { loops := [(0, [.slot 3 I64, .slot 9 I64]), (2, [.slot 3 I64, .slot 15 I64])] }) (fnOK Tryd.func64 (by kernel_rfl) (by kernel_rfl) (by kernel_rfl)) false safe_greatest_d
def safe_first_L : List (Nat × FSpec) := [(64, (spP [SSite] [I64] safe_greatest_t))]
theorem safe_first_l : AllMeet Tryd.prog V safe_first_L := (.cons safe_greatest_m .nil)
set_option maxRecDepth 100000 in
theorem safe_first_d : ∀ x : PSSite, denote (mkC Tryd.prog V safe_first_L) 1 (inlOf Tryd.f48 { loops := [(0, [.slot 10 I64, .fown 3 .unit SSeen (.pair I64 Bo)])] }) [SSite] [SSafe] false x = safe_first_t x := fun x => by kernel_rfl
theorem safe_first_m : Meets Tryd.prog V 48 (spP [SSite] [SSafe] safe_first_t) := meets_part safe_first_l stays hmix (hs := { loops := [(0, [.slot 10 I64, .fown 3 .unit SSeen (.pair I64 Bo)])] }) (fnOK Tryd.func48 (by kernel_rfl) (by kernel_rfl) (by kernel_rfl)) false safe_first_d
def safe_First_L : List (Nat × FSpec) := [(47, (spP [SSite] [I64] site_Check_t)), (48, (spP [SSite] [SSafe] safe_first_t))]
theorem safe_First_l : AllMeet Tryd.prog V safe_First_L := (.cons site_Check_m (.cons safe_first_m .nil))
set_option maxRecDepth 100000 in
theorem safe_First_d : ∀ x : PSSite, denote (mkC Tryd.prog V safe_First_L) 1 (inlOf Tryd.f28 {}) [SSite] [SSafe, I64] false x = safe_First_t x := fun x => by kernel_rfl
theorem safe_First_m : Meets Tryd.prog V 28 (spP [SSite] [SSafe, I64] safe_First_t) := meets_part safe_First_l stays hmix (hs := {}) (fnOK Tryd.func28 (by kernel_rfl) (by kernel_rfl) (by kernel_rfl)) false safe_First_d
def turn_wants_L : List (Nat × FSpec) := []
theorem turn_wants_l : AllMeet Tryd.prog V turn_wants_L := .nil
set_option maxRecDepth 100000 in
theorem turn_wants_d : ∀ x : PSSite × Int × Int, denote (mkC Tryd.prog V turn_wants_L) 1 (inlOf Tryd.f102 {}) [SSite, I64, I64] [Bo] false x = turn_wants_t x := fun x => by kernel_rfl
theorem turn_wants_m : Meets Tryd.prog V 102 (spP [SSite, I64, I64] [Bo] turn_wants_t) := meets_part turn_wants_l stays hmix (hs := {}) (fnOK Tryd.func102 (by kernel_rfl) (by kernel_rfl) (by kernel_rfl)) false turn_wants_d
def turn_asks_L : List (Nat × FSpec) := [(102, (spP [SSite, I64, I64] [Bo] turn_wants_t))]
theorem turn_asks_l : AllMeet Tryd.prog V turn_asks_L := (.cons turn_wants_m .nil)
set_option maxRecDepth 100000 in
theorem turn_asks_d : ∀ x : PSSite × Int, denote (mkC Tryd.prog V turn_asks_L) 1 (inlOf Tryd.f59 { loops := [(0, [.slot 13 I64, .arr 10 U8])] }) [SSite, I64] [U8s] false x = turn_asks_t x := fun x => by kernel_rfl
theorem turn_asks_m : Meets Tryd.prog V 59 (spP [SSite, I64] [U8s] turn_asks_t) := meets_part turn_asks_l stays hmix (hs := { loops := [(0, [.slot 13 I64, .arr 10 U8])] }) (fnOK Tryd.func59 (by kernel_rfl) (by kernel_rfl) (by kernel_rfl)) false turn_asks_d
def turn_full_L : List (Nat × FSpec) := [(102, (spP [SSite, I64, I64] [Bo] turn_wants_t))]
theorem turn_full_l : AllMeet Tryd.prog V turn_full_L := (.cons turn_wants_m .nil)
set_option maxRecDepth 100000 in
theorem turn_full_d : ∀ x : PSSite × PSSafe × Int, denote (mkC Tryd.prog V turn_full_L) 1 (inlOf Tryd.f61 { loops := [(0, [.slot 12 I64])] }) [SSite, SSafe, I64] [Bo] false x = turn_full_t x := fun x => by kernel_rfl
theorem turn_full_m : Meets Tryd.prog V 61 (spP [SSite, SSafe, I64] [Bo] turn_full_t) := meets_part turn_full_l stays hmix (hs := { loops := [(0, [.slot 12 I64])] }) (fnOK Tryd.func61 (by kernel_rfl) (by kernel_rfl) (by kernel_rfl)) false turn_full_d
theorem rep_masks (n : Nat) (hn : n ≤ 1000000) : bits .and .u64 (n : Int) 4294967295 = n := by
  have h := Mul64.maskN n (by omega)
  rw [h]; omega

theorem rep_mul64 (n : Nat) (hn : n ≤ 1000000) (w : World) : Calls Tryd.prog 131 #[.int .u64 1, .int .u64 n] w fun e w' => e = .returned (.tuple #[.int .u64 0, .int .u64 n]) ∧ w' = w := by
  have h1 := rep_masks 1 (by omega)
  have h0 := rep_masks 0 (by omega)
  have hm := rep_masks n hn
  have e1 : ((1 : Nat) : Int) = 1 := rfl
  have e0 : ((0 : Nat) : Int) = 0 := rfl
  rw [e1] at h1
  rw [e0] at h0
  have d1 : (1 : Int) / 4294967296 = 0 := by decide
  have d2 : (n : Int) / 4294967296 = 0 := by omega
  have wn : IntKind.u64.wrap (n : Int) = n := by rw [IntKind.wrap_u64]; omega
  go_enter Tryd.func131, Tryd.ntmps131
  go_wp2
  go_ret2
  exact ⟨rfl, rfl⟩

theorem rep_mul (n : Nat) (hn : n ≤ 1000000) (w : World) : Calls Tryd.prog 101 #[.int .u64 1, .int .u64 n] w fun e w' => e = .returned (.tuple #[.int .u64 0, .int .u64 n]) ∧ w' = w := by
  have c64 := rep_mul64 n hn w
  have e131 : ∀ args w, (callFunc 131 args).run Tryd.prog w = .ok (.enter 131 args) w := enters_of Tryd.func131 (by kernel_rfl) rfl
  go_enter Tryd.func101, Tryd.ntmps101
  go_wp2_with (go_at_fn 131; refine c64.mono ?_; rintro e w' ⟨rfl, hw⟩; rw [hw])
  go_ret2
  exact ⟨rfl, rfl⟩

def rep_row (n m : Nat) (v : Int) : List Value := List.replicate m (.int .u8 v) ++ List.replicate (n - m) (.int .u8 0)
theorem rep_row_len {n m : Nat} {v : Int} (h : m ≤ n) : (rep_row n m v).length = n := by simp [rep_row]; omega
theorem rep_row_grow {n m k : Nat} {v : Int} (h : m + k ≤ n) : (rep_row n m v).take m ++ List.replicate k (.int .u8 v) ++ (rep_row n m v).drop (m + k) = rep_row n (m + k) v := by
  unfold rep_row
  rw [List.take_append_of_le_length (by simp), List.take_of_length_le (by simp), List.drop_append, List.drop_of_length_le (by simp)]
  simp only [List.length_replicate, List.nil_append, List.drop_replicate, List.replicate_append_replicate]
  congr 2
  omega

theorem rep_made (n : Nat) : madeCells (Value.int .u8 0).cells n = (rep_row n 0 0).toArray := by
  apply Array.ext
  · simp [madeCells, rep_row]
  · intro j h1 h2
    simp [madeCells, rep_row, Value.cells, Nat.mod_one]

theorem rep_info5 : (Tryd.prog.info? 5).map (fun i => (i.zero, i.size, i.bytes)) = some (some (.int .u8 0), 1, 1) := by kernel_rfl
theorem rep_make (n : Nat) (hn : n ≤ 1000000) (w : World) : (Instr.makeSlice 32 (.int .i64 n) (.int .i64 n)).run Tryd.prog w = .ok (.slice (some ⟨w.heap.size, 0, none⟩) n n) (w.alloc (.cells (rep_row n 0 0).toArray 5)) := by
  obtain ⟨i, hi, hz, hs, hb⟩ := info_parts rep_info5
  have h := run_makeSlice (P := Tryd.prog) w 32 5 i (.int .u8 0) (by kernel_rfl) hi hz .i64 .i64 (n : Int) (n : Int) (by omega) (Int.le_refl _) (by rw [hs]; omega) (by rw [hb]; omega) (by omega)
  rw [h, hs, Int.toNat_natCast, Nat.mul_one, rep_made]

theorem rep_copy1 (n : Nat) (v : Int) (h1 : 1 ≤ n) (w : World) (p : Addr) (c : Nat) (hc : w.cell? p = some (.int .u8 v)) (g : Nat) (hg : w.heap[g]? = some (.cells (rep_row n 0 0).toArray 5 (0, 0))) (ty : TypeId) :
    (Builtin.copy_ #[32, 32] ty #[.slice (some ⟨g, 0, none⟩) n n, .slice (some p) 1 c]).run Tryd.prog w = .ok (.int .i64 1) (w.setRow g (rep_row n 1 v).toArray) := by
  have h := run_copy_row (P := Tryd.prog) w 32 32 ty 5 g 0 n n p 1 c (rep_row n 0 0).toArray 5 [.int .u8 v] (by kernel_rfl) (by kernel_rfl) hg (by show 1 = min 1 n; omega) (fun j x hx => by
    cases j with
    | zero => simp at hx; subst hx; rw [show p.add 0 = p by unfold Addr.add; split <;> simp_all]; exact hc
    | succ j => simp at hx) (by simp [rep_row]; omega) (by simp [Value.oneCell'])
  rw [h]
  have e := rep_row_grow (n := n) (m := 0) (k := 1) (v := v) (by omega)
  have e2 : (rep_row n 0 0) = (rep_row n 0 v) := by simp [rep_row]
  rw [List.toList_toArray, e2, Nat.zero_add, List.length_singleton]
  simp only [List.replicate_one, Nat.zero_add] at e
  rw [e]
  rfl

theorem rep_copy2 (n m : Nat) (v : Int) (h1 : m < n) (w : World) (g : Nat) (hg : w.heap[g]? = some (.cells (rep_row n m v).toArray 5 (0, 0))) (ty : TypeId) (c1 c2 : Nat) :
    (Builtin.copy_ #[32, 32] ty #[.slice (some ⟨g, m, none⟩) (n - m) c1, .slice (some ⟨g, 0, none⟩) m c2]).run Tryd.prog w = .ok (.int .i64 (min m (n - m) : Nat)) (w.setRow g (rep_row n (m + min m (n - m)) v).toArray) := by
  have hk : m + min m (n - m) ≤ n := by omega
  have h := run_copy_row (P := Tryd.prog) w 32 32 ty 5 g m (n - m) c1 ⟨g, 0, none⟩ m c2 (rep_row n m v).toArray 5 (List.replicate (min m (n - m)) (.int .u8 v)) (by kernel_rfl) (by kernel_rfl) hg (by rw [List.length_replicate]) (fun j x hx => by
    obtain ⟨hj, rfl⟩ := List.getElem?_eq_some_iff.1 hx
    rw [List.length_replicate] at hj
    have hjm : j < m := by omega
    have hcell : w.cell? ⟨g, j, none⟩ = some (.int .u8 v) := by
      simp only [World.cell?, hg]
      simp [rep_row, List.getElem?_append, hjm]
    rw [List.getElem_replicate, ← hcell]
    by_cases hj0 : j = 0 <;> simp [Addr.add, hj0]) (by simp only [List.length_replicate, List.size_toArray]; rw [rep_row_len (by omega)]; omega) (fun x hx => by rw [(List.mem_replicate.1 hx).2]; rfl)
  rw [h, List.toList_toArray, List.length_replicate, rep_row_grow hk]
  rfl

set_option maxHeartbeats 4000000 in
set_option maxRecDepth 100000 in
theorem rep_walk (n : Nat) (v : Int) (hn1 : 1 ≤ n) (hn : n ≤ 1000000) (w : World) (p : Addr) (c : Nat) (hc : w.cell? p = some (.int .u8 v)) : Calls Tryd.prog 58 #[.slice (some p) 1 c, .int .i64 n] w fun e w' => e = .returned (.slice (some ⟨w.heap.size, 0, none⟩) n n) ∧ Below w.heap.size w w' ∧ w'.heap[w.heap.size]? = some (.cells (rep_row n n v).toArray 5 (0, 0)) := by
  have c64 := rep_mul n hn w
  have hmk := rep_make n hn w
  have e131 : ∀ args w, (callFunc 101 args).run Tryd.prog w = .ok (.enter 101 args) w := enters_of Tryd.func101 (by kernel_rfl) rfl
  have hg1 : (w.alloc (.cells (rep_row n 0 0).toArray 5)).heap[w.heap.size]? = some (.cells (rep_row n 0 0).toArray 5 (0, 0)) := World.alloc_heap_new _ _
  have hcp := fun ty => rep_copy1 n v hn1 (w.alloc (.cells (rep_row n 0 0).toArray 5)) p c ((Below.refl _ w).alloc (Nat.le_refl _) _ |>.cell (World.block_lt_of_cell? w p hc) |>.trans hc) w.heap.size hg1 ty
  go_enter Tryd.func58, Tryd.ntmps58
  go_wp2_with (go_at_fn 101; refine c64.mono ?_; rintro e w' ⟨rfl, hw⟩; rw [hw])
  go_loopw [8] (fun i wr => ∃ m : Nat, 1 ≤ m ∧ m ≤ n ∧ i = .int .i64 m ∧ wr.heap[w.heap.size]? = some (.cells (rep_row n m v).toArray 5 (0, 0)) ∧ Below w.heap.size w wr) (fun i _ => n - (intOf i).toNat)
  case atStart => exact ⟨1, Nat.le_refl _, hn1, rfl, setRow_heap _ _ _ _ _ _ hg1, below_setRow ((Below.refl _ w).alloc (Nat.le_refl _) _) (Nat.le_refl _) _⟩
  case round =>
    obtain ⟨m, h0, h1, rfl, hg, hB⟩ := hrel
    have hcp2 := fun h ty => rep_copy2 n m v h wr w.heap.size hg ty
    go_wp2
    · have hlt : m < n := by assumption
      have hcp3 := rep_copy2 n m v hlt wr.drew w.heap.size hg 3 (n - m) n
      go_region
      go_wp2
      go_roundw
      case rel => exact ⟨m + min m (n - m), by omega, by omega, by simp, setRow_heap _ _ _ _ _ _ (show wr.drew.heap[w.heap.size]? = _ from hg), below_setRow (hB.drew) (Nat.le_refl _) _⟩
      case measure => simp [intOf]; omega
    · have hmn : m = n := by omega
      subst hmn
      go_ret
      exact ⟨rfl, hB, hg⟩
theorem rep_rows {w : World} {O : Nat → Prop} {v : Int} (hv : inR .u8 v = true) : ∀ n : Nat, RowOf (Reads w O U8) (List.replicate n v) (List.replicate n (Value.int .u8 v))
  | 0 => rfl
  | n + 1 => ⟨[.int .u8 v], List.replicate n (.int .u8 v), by rw [List.replicate_succ]; rfl, ⟨rfl, hv⟩, rep_rows hv n⟩
theorem rep_calls (w : World) (F : Nat → Prop) (vals : List Value) (l : List Int) (k : Int) (y : List Int) (hr : ReadArgs w F [Ty.slice U8, I64] (l, k) vals) (hy : slices_Repeat_t (l, k) = some y) :
  Calls Tryd.prog 58 vals.toArray w fun e w' => ∃ rs, e = .returned (retVal rs) ∧ Below w.heap.size w w' ∧ ResOK w.heap.size w' F true [Ty.slice U8] y rs := by
  obtain ⟨v, rfl, h1, h2, rfl⟩ := repeat_some hy
  obtain ⟨us, vs', hus, rfl, us2, hus2, rfl⟩ := hr
  obtain ⟨rfl, _⟩ := (show us2 = [.int .i64 k] ∧ inR .i64 k = true from hus2)
  obtain ⟨a, cap, rfl, hl, hm, hrow⟩ := hus
  rcases hrow with h0 | ⟨b, off, cells, rfl, _, hb, hat, hrw⟩
  · exact absurd h0 (by simp)
  · obtain ⟨v1, v2, rfl, ⟨rfl, hv⟩, h3⟩ := hrw
    have hc : w.cell? ⟨b, off, none⟩ = some (.int .u8 v) := hat 0 _ rfl
    obtain ⟨n, rfl⟩ : ∃ n : Nat, k = n := ⟨k.toNat, by omega⟩
    refine (rep_walk n v (by omega) (by omega) w ⟨b, off, none⟩ cap hc).mono fun e w' ⟨he, hB, hg⟩ => ?_
    refine ⟨[.slice (some ⟨w.heap.size, 0, none⟩) n n], he, hB, .slice (some ⟨w.heap.size, 0, none⟩) n n, some w.heap.size, rfl, some ⟨w.heap.size, 0, none⟩, n, ?_, ?_, ?_, .inr ⟨w.heap.size, _, _, by omega, rfl, rfl, Nat.le_refl _, (Array.getElem?_eq_some_iff.1 hg).1, hg, ?_, ?_⟩⟩
    · show Value.slice _ n n = Value.slice _ (List.length (List.replicate ((n : Int)).toNat v)) n
      simp
    · show List.length (List.replicate ((n : Int)).toNat v) ≤ n
      simp
    · unfold maxLen; omega
    · rw [List.size_toArray, rep_row_len (Nat.le_refl _)]; exact (Nat.mul_one n).symm
    · show RowOf _ (List.replicate ((n : Int)).toNat v) ((rep_row n n v).toArray.toList.take (List.length (List.replicate ((n : Int)).toNat v) * 1))
      simp only [Int.toNat_natCast, List.length_replicate, Nat.mul_one, List.toList_toArray]
      rw [List.take_of_length_le (by rw [rep_row_len (Nat.le_refl _)]; exact Nat.le_refl _)]
      unfold rep_row
      rw [Nat.sub_self, List.replicate_zero, List.append_nil]
      exact rep_rows hv n
theorem slices_Repeat_m : Meets Tryd.prog V 58 (spP [Ty.slice U8, I64] [Ty.slice U8] slices_Repeat_t true) where
  enters := fun args w => by
    have h : FnOK Tryd.prog 58 (inlOf Tryd.f58 {}) := fnOK Tryd.func58 (by kernel_rfl) (by kernel_rfl) (by kernel_rfl)
    exact h.enters args w
  tot := fun g hg => by cases hg
  calls := fun w F vals x y _ _ hr hy => rep_calls w F vals x.1 x.2 y hr hy

def safe_shown_L : List (Nat × FSpec) := []
theorem safe_shown_l : AllMeet Tryd.prog V safe_shown_L := .nil
set_option maxRecDepth 100000 in
theorem safe_shown_d : ∀ x : PSSafe, denote (mkC Tryd.prog V safe_shown_L) 1 (inlOf Tryd.f99 { loops := [(0, [.slot 13 I64, .arr 9 U8])] }) [SSafe] [U8s] true x = safe_shown_t x := fun x => by kernel_rfl
theorem safe_shown_m : Meets Tryd.prog V 99 (spP [SSafe] [U8s] safe_shown_t true) := meets_part safe_shown_l stays hmix (hs := { loops := [(0, [.slot 13 I64, .arr 9 U8])] }) (fnOK Tryd.func99 (by kernel_rfl) (by kernel_rfl) (by kernel_rfl)) true safe_shown_d
def safe_flash_L : List (Nat × FSpec) := []
theorem safe_flash_l : AllMeet Tryd.prog V safe_flash_L := .nil
noncomputable def safe_flash_I : List (Nat × Inl) := [(66, inlOf Tryd.f66 {}), (105, inlOf Tryd.f105 { loops := [(0, [.slot 8 I64])] }), (125, inlOf Tryd.f125 {})]
theorem safe_flash_i : AllOK Tryd.prog safe_flash_I := (.cons (fnOK Tryd.func66 (by kernel_rfl) (by kernel_rfl) (by kernel_rfl)) (.cons (fnOK Tryd.func105 (by kernel_rfl) (by kernel_rfl) (by kernel_rfl)) (.cons (fnOK Tryd.func125 (by kernel_rfl) (by kernel_rfl) (by kernel_rfl)) .nil)))
set_option maxRecDepth 100000 in
theorem safe_flash_d : ∀ x : List Int, denote (mkC Tryd.prog V safe_flash_L safe_flash_I) 4 (inlOf Tryd.f91 {}) [U8s] [Bo] false x = safe_flash_t x := fun x => by kernel_rfl
theorem safe_flash_m : Meets Tryd.prog V 91 (spP [U8s] [Bo] safe_flash_t) := meets_part_il safe_flash_l stays hmix safe_flash_i (hs := {}) (fnOK Tryd.func91 (by kernel_rfl) (by kernel_rfl) (by kernel_rfl)) false 4 safe_flash_d
def safe_red_L : List (Nat × FSpec) := []
theorem safe_red_l : AllMeet Tryd.prog V safe_red_L := .nil
set_option maxRecDepth 100000 in
theorem safe_red_d : ∀ x : Int, denote (mkC Tryd.prog V safe_red_L) 1 (inlOf Tryd.f94 {}) [U8] [Bo] false x = safe_red_t x := fun x => by kernel_rfl
theorem safe_red_m : Meets Tryd.prog V 94 (spT [U8] [Bo] safe_red) := meets_tot safe_red_l stays hmix (hs := {}) (fnOK Tryd.func94 (by kernel_rfl) (by kernel_rfl) (by kernel_rfl)) false fun x => (safe_red_d x).trans (safe_red_e x)
def safe_meet_L : List (Nat × FSpec) := [(94, (spT [U8] [Bo] safe_red)), (103, (spP [SSite, I64, I64] [Bo] safe_apart_t))]
theorem safe_meet_l : AllMeet Tryd.prog V safe_meet_L := (.cons safe_red_m (.cons safe_apart_m .nil))
set_option maxRecDepth 100000 in
theorem safe_meet_d : ∀ x : PSSite × List Int, denote (mkC Tryd.prog V safe_meet_L) 1 (inlOf Tryd.f96 { loops := [(0, [.slot 9 I64]), (2, [.slot 18 I64])] }) [SSite, U8s] [Bo] false x = safe_meet_t x := fun x => by kernel_rfl
theorem safe_meet_m : Meets Tryd.prog V 96 (spP [SSite, U8s] [Bo] safe_meet_t) := meets_part safe_meet_l stays hmix (hs := { loops := [(0, [.slot 9 I64]), (2, [.slot 18 I64])] }) (fnOK Tryd.func96 (by kernel_rfl) (by kernel_rfl) (by kernel_rfl)) false safe_meet_d
def safe_may_L : List (Nat × FSpec) := [(99, (spP [SSafe] [U8s] safe_shown_t true)), (91, (spP [U8s] [Bo] safe_flash_t)), (96, (spP [SSite, U8s] [Bo] safe_meet_t))]
theorem safe_may_l : AllMeet Tryd.prog V safe_may_L := (.cons safe_shown_m (.cons safe_flash_m (.cons safe_meet_m .nil)))
set_option maxRecDepth 100000 in
theorem safe_may_d : ∀ x : PSSite × PSSafe, denote (mkC Tryd.prog V safe_may_L) 1 (inlOf Tryd.f51 {}) [SSite, SSafe] [Bo] false x = safe_may_t x := fun x => by kernel_rfl
theorem safe_may_m : Meets Tryd.prog V 51 (spP [SSite, SSafe] [Bo] safe_may_t) := meets_part safe_may_l stays hmix (hs := {}) (fnOK Tryd.func51 (by kernel_rfl) (by kernel_rfl) (by kernel_rfl)) false safe_may_d
def slices_Index___uint8_uint8__L : List (Nat × FSpec) := []
theorem slices_Index___uint8_uint8__l : AllMeet Tryd.prog V slices_Index___uint8_uint8__L := .nil
set_option maxRecDepth 100000 in
theorem slices_Index___uint8_uint8__d : ∀ x : List Int × Int, denote (mkC Tryd.prog V slices_Index___uint8_uint8__L) 1 (inlOf Tryd.f126 { loops := [(0, [.slot 8 I64])] }) [U8s, U8] [I64] false x = slices_Index___uint8_uint8__t x := fun x => by kernel_rfl
theorem slices_Index___uint8_uint8__m : Meets Tryd.prog V 126 (spP [U8s, U8] [I64] slices_Index___uint8_uint8__t) := meets_part slices_Index___uint8_uint8__l stays hmix (hs := { loops := [(0, [.slot 8 I64])] }) (fnOK Tryd.func126 (by kernel_rfl) (by kernel_rfl) (by kernel_rfl)) false slices_Index___uint8_uint8__d
def slices_Contains___uint8_uint8__L : List (Nat × FSpec) := [(126, (spP [U8s, U8] [I64] slices_Index___uint8_uint8__t))]
theorem slices_Contains___uint8_uint8__l : AllMeet Tryd.prog V slices_Contains___uint8_uint8__L := (.cons slices_Index___uint8_uint8__m .nil)
set_option maxRecDepth 100000 in
theorem slices_Contains___uint8_uint8__d : ∀ x : List Int × Int, denote (mkC Tryd.prog V slices_Contains___uint8_uint8__L) 1 (inlOf Tryd.f92 {}) [U8s, U8] [Bo] false x = slices_Contains___uint8_uint8__t x := fun x => by kernel_rfl
theorem slices_Contains___uint8_uint8__m : Meets Tryd.prog V 92 (spP [U8s, U8] [Bo] slices_Contains___uint8_uint8__t) := meets_part slices_Contains___uint8_uint8__l stays hmix (hs := {}) (fnOK Tryd.func92 (by kernel_rfl) (by kernel_rfl) (by kernel_rfl)) false slices_Contains___uint8_uint8__d
def lamp_kept_L : List (Nat × FSpec) := []
theorem lamp_kept_l : AllMeet Tryd.prog V lamp_kept_L := .nil
set_option maxRecDepth 100000 in
theorem lamp_kept_d : ∀ x : Int, denote (mkC Tryd.prog V lamp_kept_L) 1 (inlOf Tryd.f106 {}) [I64] [I64] false x = lamp_kept_t x := fun x => by kernel_rfl
theorem lamp_kept_m : Meets Tryd.prog V 106 (spT [I64] [I64] lamp_kept) := meets_tot lamp_kept_l stays hmix (hs := {}) (fnOK Tryd.func106 (by kernel_rfl) (by kernel_rfl) (by kernel_rfl)) false fun x => (lamp_kept_d x).trans (lamp_kept_e x)
def lamp_goes_L : List (Nat × FSpec) := []
theorem lamp_goes_l : AllMeet Tryd.prog V lamp_goes_L := .nil
set_option maxRecDepth 100000 in
theorem lamp_goes_d : ∀ x : Int, denote (mkC Tryd.prog V lamp_goes_L) 1 (inlOf Tryd.f127 {}) [U8] [Bo] false x = lamp_goes_t x := fun x => by kernel_rfl
theorem lamp_goes_m : Meets Tryd.prog V 127 (spT [U8] [Bo] lamp_goes) := meets_tot lamp_goes_l stays hmix (hs := {}) (fnOK Tryd.func127 (by kernel_rfl) (by kernel_rfl) (by kernel_rfl)) false fun x => (lamp_goes_d x).trans (lamp_goes_e x)
def lamp_Follows_L : List (Nat × FSpec) := []
theorem lamp_Follows_l : AllMeet Tryd.prog V lamp_Follows_L := .nil
set_option maxRecDepth 100000 in
theorem lamp_Follows_d : ∀ x : Int × Int, denote (mkC Tryd.prog V lamp_Follows_L) 1 (inlOf Tryd.f128 {}) [U8, U8] [Bo] false x = lamp_Follows_t x := fun x => by kernel_rfl
theorem lamp_Follows_m : Meets Tryd.prog V 128 (spT [U8, U8] [Bo] lamp_Follows) := meets_tot lamp_Follows_l stays hmix (hs := {}) (fnOK Tryd.func128 (by kernel_rfl) (by kernel_rfl) (by kernel_rfl)) false fun x => (lamp_Follows_d x).trans (lamp_Follows_e x)
def lamp_May_L : List (Nat × FSpec) := [(106, (spT [I64] [I64] lamp_kept)), (127, (spT [U8] [Bo] lamp_goes)), (128, (spT [U8, U8] [Bo] lamp_Follows))]
theorem lamp_May_l : AllMeet Tryd.prog V lamp_May_L := (.cons lamp_kept_m (.cons lamp_goes_m (.cons lamp_Follows_m .nil)))
set_option maxRecDepth 100000 in
theorem lamp_May_d : ∀ x : PSGroup × PSSeen × Int, denote (mkC Tryd.prog V lamp_May_L) 1 (inlOf Tryd.f95 {}) [SGroup, SSeen, U8] [U8] false x = lamp_May_t x := fun x => by kernel_rfl
theorem lamp_May_m : Meets Tryd.prog V 95 (spT [SGroup, SSeen, U8] [U8] lamp_May) := meets_tot lamp_May_l stays hmix (hs := {}) (fnOK Tryd.func95 (by kernel_rfl) (by kernel_rfl) (by kernel_rfl)) false fun x => (lamp_May_d x).trans (lamp_May_e x)
def safe_close_L : List (Nat × FSpec) := [(103, (spP [SSite, I64, I64] [Bo] safe_apart_t)), (104, (spP [SSite, I64, I64] [I64] safe_between_t))]
theorem safe_close_l : AllMeet Tryd.prog V safe_close_L := (.cons safe_apart_m (.cons safe_between_m .nil))
set_option maxRecDepth 100000 in
theorem safe_close_d : ∀ x : PSSite × PSSafe × List Int, denote (mkC Tryd.prog V safe_close_L) 1 (inlOf Tryd.f97 { loops := [(0, [.slot 14 I64]), (2, [.slot 32 I64])] }) [SSite, SSafe, U8s] [Bo] false x = safe_close_t x := fun x => by kernel_rfl
theorem safe_close_m : Meets Tryd.prog V 97 (spP [SSite, SSafe, U8s] [Bo] safe_close_t) := meets_part safe_close_l stays hmix (hs := { loops := [(0, [.slot 14 I64]), (2, [.slot 32 I64])] }) (fnOK Tryd.func97 (by kernel_rfl) (by kernel_rfl) (by kernel_rfl)) false safe_close_d
def safe_fault_L : List (Nat × FSpec) := [(91, (spP [U8s] [Bo] safe_flash_t)), (92, (spP [U8s, U8] [Bo] slices_Contains___uint8_uint8__t)), (95, (spT [SGroup, SSeen, U8] [U8] lamp_May)), (96, (spP [SSite, U8s] [Bo] safe_meet_t)), (97, (spP [SSite, SSafe, U8s] [Bo] safe_close_t)), (94, (spT [U8] [Bo] safe_red))]
theorem safe_fault_l : AllMeet Tryd.prog V safe_fault_L := (.cons safe_flash_m (.cons slices_Contains___uint8_uint8__m (.cons lamp_May_m (.cons safe_meet_m (.cons safe_close_m (.cons safe_red_m .nil))))))
noncomputable def safe_fault_I : List (Nat × Inl) := [(66, inlOf Tryd.f66 {}), (105, inlOf Tryd.f105 { loops := [(0, [.slot 8 I64])] }), (93, inlOf Tryd.f93 {})]
theorem safe_fault_i : AllOK Tryd.prog safe_fault_I := (.cons (fnOK Tryd.func66 (by kernel_rfl) (by kernel_rfl) (by kernel_rfl)) (.cons (fnOK Tryd.func105 (by kernel_rfl) (by kernel_rfl) (by kernel_rfl)) (.cons (fnOK Tryd.func93 (by kernel_rfl) (by kernel_rfl) (by kernel_rfl)) .nil)))
set_option maxRecDepth 100000 in
theorem safe_fault_d : ∀ x : PSSite × PSSafe × List Int, denote (mkC Tryd.prog V safe_fault_L safe_fault_I) 4 (inlOf Tryd.f49 { loops := [(1, [.slot 38 I64])], joins := [(8, [])], outs := [(8, [(23, Bo)])] }) [SSite, SSafe, U8s] [U8] false x = safe_fault_t x := fun x => by kernel_rfl
theorem safe_fault_m : Meets Tryd.prog V 49 (spP [SSite, SSafe, U8s] [U8] safe_fault_t) := meets_part_il safe_fault_l stays hmix safe_fault_i (hs := { loops := [(1, [.slot 38 I64])], joins := [(8, [])], outs := [(8, [(23, Bo)])] }) (fnOK Tryd.func49 (by kernel_rfl) (by kernel_rfl) (by kernel_rfl)) false 4 safe_fault_d
theorem clone_Seen_m : Meets Tryd.prog V 52 (spP [Ty.slice SSeen] [Ty.slice SSeen] clone_Seen_t true) :=
  clone_meets (e := 61) (T := SSeen) stays hmix Tryd.func52 ⟨by kernel_rfl, rfl, by kernel_rfl, by kernel_rfl, by decide, ⟨0, 1, 2, _, _, _, _, rfl, ⟨rfl, rfl, rfl⟩, ⟨rfl, rfl, rfl⟩, ⟨rfl, ⟨_, rfl⟩, rfl⟩, ⟨rfl, rfl, rfl⟩⟩⟩ (fun l => by kernel_rfl) (fun y h => (Option.some.inj ((show clone_Seen_t [] = some [] by kernel_rfl).symm.trans h)).symm)
def lamp_more_L : List (Nat × FSpec) := [(106, (spT [I64] [I64] lamp_kept))]
theorem lamp_more_l : AllMeet Tryd.prog V lamp_more_L := (.cons lamp_kept_m .nil)
set_option maxRecDepth 100000 in
theorem lamp_more_d : ∀ x : Int, denote (mkC Tryd.prog V lamp_more_L) 1 (inlOf Tryd.f129 {}) [I64] [I64] false x = lamp_more_t x := fun x => by kernel_rfl
theorem lamp_more_m : Meets Tryd.prog V 129 (spT [I64] [I64] lamp_more) := meets_tot lamp_more_l stays hmix (hs := {}) (fnOK Tryd.func129 (by kernel_rfl) (by kernel_rfl) (by kernel_rfl)) false fun x => (lamp_more_d x).trans (lamp_more_e x)
def lamp_Next_L : List (Nat × FSpec) := [(129, (spT [I64] [I64] lamp_more))]
theorem lamp_Next_l : AllMeet Tryd.prog V lamp_Next_L := (.cons lamp_more_m .nil)
set_option maxRecDepth 100000 in
theorem lamp_Next_d : ∀ x : PSGroup × PSSeen × Int, denote (mkC Tryd.prog V lamp_Next_L) 1 (inlOf Tryd.f98 {}) [SGroup, SSeen, U8] [SSeen] false x = lamp_Next_t x := fun x => by kernel_rfl
theorem lamp_Next_m : Meets Tryd.prog V 98 (spT [SGroup, SSeen, U8] [SSeen] lamp_Next) := meets_tot lamp_Next_l stays hmix (hs := {}) (fnOK Tryd.func98 (by kernel_rfl) (by kernel_rfl) (by kernel_rfl)) false fun x => (lamp_Next_d x).trans (lamp_Next_e x)
def safe_behind_L : List (Nat × FSpec) := [(52, (spP [SSeens] [SSeens] clone_Seen_t true)), (91, (spP [U8s] [Bo] safe_flash_t)), (98, (spT [SGroup, SSeen, U8] [SSeen] lamp_Next)), (64, (spP [SSite] [I64] safe_greatest_t))]
theorem safe_behind_l : AllMeet Tryd.prog V safe_behind_L := (.cons clone_Seen_m (.cons safe_flash_m (.cons lamp_Next_m (.cons safe_greatest_m .nil))))
set_option maxRecDepth 100000 in
theorem safe_behind_d : ∀ x : PSSite × PSSafe × List Int, denote (mkC Tryd.prog V safe_behind_L) 1 (inlOf Tryd.f50 { loops := [(0, [.slot 23 I64, .arr 21 SSeen])] }) [SSite, SSafe, U8s] [SSafe] false x = safe_behind_t x := fun x => by kernel_rfl
theorem safe_behind_m : Meets Tryd.prog V 50 (spP [SSite, SSafe, U8s] [SSafe] safe_behind_t) := meets_part safe_behind_l stays hmix (hs := { loops := [(0, [.slot 23 I64, .arr 21 SSeen])] }) (fnOK Tryd.func50 (by kernel_rfl) (by kernel_rfl) (by kernel_rfl)) false safe_behind_d
def safe_Next_L : List (Nat × FSpec) := [(47, (spP [SSite] [I64] site_Check_t)), (51, (spP [SSite, SSafe] [Bo] safe_may_t)), (49, (spP [SSite, SSafe, U8s] [U8] safe_fault_t)), (52, (spP [SSeens] [SSeens] clone_Seen_t true)), (50, (spP [SSite, SSafe, U8s] [SSafe] safe_behind_t))]
theorem safe_Next_l : AllMeet Tryd.prog V safe_Next_L := (.cons site_Check_m (.cons safe_may_m (.cons safe_fault_m (.cons clone_Seen_m (.cons safe_behind_m .nil)))))
set_option maxRecDepth 100000 in
theorem safe_Next_d : ∀ x : PSSite × PSSafe × List Int, denote (mkC Tryd.prog V safe_Next_L) 1 (inlOf Tryd.f24 {}) [SSite, SSafe, U8s] [SSafe, U8, I64] false x = safe_Next_t x := fun x => by kernel_rfl
theorem safe_Next_m : Meets Tryd.prog V 24 (spP [SSite, SSafe, U8s] [SSafe, U8, I64] safe_Next_t) := meets_part safe_Next_l stays hmix (hs := {}) (fnOK Tryd.func24 (by kernel_rfl) (by kernel_rfl) (by kernel_rfl)) false safe_Next_d
def gate_goes_L : List (Nat × FSpec) := [(24, (spP [SSite, SSafe, U8s] [SSafe, U8, I64] safe_Next_t))]
theorem gate_goes_l : AllMeet Tryd.prog V gate_goes_L := (.cons safe_Next_m .nil)
noncomputable def gate_goes_I : List (Nat × Inl) := [(114, inlOf Tryd.f114 {}), (133, inlOf Tryd.f133 { loops := [(0, [.slot 8 I64])] }), (115, inlOf Tryd.f115 {})]
theorem gate_goes_i : AllOK Tryd.prog gate_goes_I := (.cons (fnOK Tryd.func114 (by kernel_rfl) (by kernel_rfl) (by kernel_rfl)) (.cons (fnOK Tryd.func133 (by kernel_rfl) (by kernel_rfl) (by kernel_rfl)) (.cons (fnOK Tryd.func115 (by kernel_rfl) (by kernel_rfl) (by kernel_rfl)) .nil)))
set_option maxRecDepth 100000 in
theorem gate_goes_d : ∀ x : PSSite × PSSafe, denote (mkC Tryd.prog V gate_goes_L gate_goes_I) 4 (inlOf Tryd.f82 { loops := [(0, [.slot 23 I64, .arr 20 U8])], joins := [(9, [.arr 20 U8])] }) [SSite, SSafe] [Bo] false x = gate_goes_t x := fun x => by kernel_rfl
theorem gate_goes_m : Meets Tryd.prog V 82 (spP [SSite, SSafe] [Bo] gate_goes_t) := meets_part_il gate_goes_l stays hmix gate_goes_i (hs := { loops := [(0, [.slot 23 I64, .arr 20 U8])], joins := [(9, [.arr 20 U8])] }) (fnOK Tryd.func82 (by kernel_rfl) (by kernel_rfl) (by kernel_rfl)) false 4 gate_goes_d
def gate_asked_L : List (Nat × FSpec) := [(47, (spP [SSite] [I64] site_Check_t)), (82, (spP [SSite, SSafe] [Bo] gate_goes_t))]
theorem gate_asked_l : AllMeet Tryd.prog V gate_asked_L := (.cons site_Check_m (.cons gate_goes_m .nil))
set_option maxRecDepth 100000 in
theorem gate_asked_d : ∀ x : PSSite × PSSafe, denote (mkC Tryd.prog V gate_asked_L) 1 (inlOf Tryd.f44 {}) [SSite, SSafe] [I64] false x = gate_asked_t x := fun x => by kernel_rfl
theorem gate_asked_m : Meets Tryd.prog V 44 (spP [SSite, SSafe] [I64] gate_asked_t) := meets_part gate_asked_l stays hmix (hs := {}) (fnOK Tryd.func44 (by kernel_rfl) (by kernel_rfl) (by kernel_rfl)) false gate_asked_d
theorem clone_U8_m : Meets Tryd.prog V 68 (spP [Ty.slice U8] [Ty.slice U8] clone_U8_t true) :=
  clone_meets (e := 5) (T := U8) stays hmix Tryd.func68 ⟨by kernel_rfl, rfl, by kernel_rfl, by kernel_rfl, by decide, ⟨0, 1, 2, _, _, _, _, rfl, ⟨rfl, rfl, rfl⟩, ⟨rfl, rfl, rfl⟩, ⟨rfl, ⟨_, rfl⟩, rfl⟩, ⟨rfl, rfl, rfl⟩⟩⟩ (fun l => by kernel_rfl) (fun y h => (Option.some.inj ((show clone_U8_t [] = some [] by kernel_rfl).symm.trans h)).symm)
def gate_all_L : List (Nat × FSpec) := []
theorem gate_all_l : AllMeet Tryd.prog V gate_all_L := .nil
set_option maxRecDepth 100000 in
theorem gate_all_d : ∀ x : Int × Int, denote (mkC Tryd.prog V gate_all_L) 1 (inlOf Tryd.f46 { loops := [(0, [.slot 11 I64, .arr 8 U8])] }) [I64, U8] [U8s] true x = gate_all_t x := fun x => by kernel_rfl
theorem gate_all_m : Meets Tryd.prog V 46 (spP [I64, U8] [U8s] gate_all_t true) := meets_part gate_all_l stays hmix (hs := { loops := [(0, [.slot 11 I64, .arr 8 U8])] }) (fnOK Tryd.func46 (by kernel_rfl) (by kernel_rfl) (by kernel_rfl)) true gate_all_d
def lamp_Want_L : List (Nat × FSpec) := [(106, (spT [I64] [I64] lamp_kept))]
theorem lamp_Want_l : AllMeet Tryd.prog V lamp_Want_L := (.cons lamp_kept_m .nil)
set_option maxRecDepth 100000 in
theorem lamp_Want_d : ∀ x : PSGroup × PSSeen × Int, denote (mkC Tryd.prog V lamp_Want_L) 1 (inlOf Tryd.f69 {}) [SGroup, SSeen, U8] [U8] false x = lamp_Want_t x := fun x => by kernel_rfl
theorem lamp_Want_m : Meets Tryd.prog V 69 (spT [SGroup, SSeen, U8] [U8] lamp_Want) := meets_tot lamp_Want_l stays hmix (hs := {}) (fnOK Tryd.func69 (by kernel_rfl) (by kernel_rfl) (by kernel_rfl)) false fun x => (lamp_Want_d x).trans (lamp_Want_e x)
def gate_admit_L : List (Nat × FSpec) := [(68, (spP [U8s] [U8s] clone_U8_t true)), (46, (spP [I64, U8] [U8s] gate_all_t true)), (69, (spT [SGroup, SSeen, U8] [U8] lamp_Want))]
theorem gate_admit_l : AllMeet Tryd.prog V gate_admit_L := (.cons clone_U8_m (.cons gate_all_m (.cons lamp_Want_m .nil)))
noncomputable def gate_admit_I : List (Nat × Inl) := [(66, inlOf Tryd.f66 {}), (105, inlOf Tryd.f105 { loops := [(0, [.slot 8 I64])] }), (67, inlOf Tryd.f67 {}), (70, inlOf Tryd.f70 { loops := [(0, [.slot 11 I64, .barr 3 U8])] })]
theorem gate_admit_i : AllOK Tryd.prog gate_admit_I := (.cons (fnOK Tryd.func66 (by kernel_rfl) (by kernel_rfl) (by kernel_rfl)) (.cons (fnOK Tryd.func105 (by kernel_rfl) (by kernel_rfl) (by kernel_rfl)) (.cons (fnOK Tryd.func67 (by kernel_rfl) (by kernel_rfl) (by kernel_rfl)) (.cons (fnOK Tryd.func70 (by kernel_rfl) (by kernel_rfl) (by kernel_rfl)) .nil))))
set_option maxRecDepth 100000 in
theorem gate_admit_d : ∀ x : PSSite × PSSafe × List Int, denote (mkC Tryd.prog V gate_admit_L gate_admit_I) 5 (inlOf Tryd.f39 { loops := [(1, [.slot 36 I64, .barr 8 U8]), (3, [.slot 63 I64, .barr 8 U8])], joins := [(2, [])], outs := [(2, [(7, Bo)])] }) [SSite, SSafe, U8s] [U8s] true x = gate_admit_t x := fun x => by kernel_rfl
theorem gate_admit_m : Meets Tryd.prog V 39 (spP [SSite, SSafe, U8s] [U8s] gate_admit_t true) := meets_part_il gate_admit_l stays hmix gate_admit_i (hs := { loops := [(1, [.slot 36 I64, .barr 8 U8]), (3, [.slot 63 I64, .barr 8 U8])], joins := [(2, [])], outs := [(2, [(7, Bo)])] }) (fnOK Tryd.func39 (by kernel_rfl) (by kernel_rfl) (by kernel_rfl)) true 5 gate_admit_d
def gate_Admit_L : List (Nat × FSpec) := [(44, (spP [SSite, SSafe] [I64] gate_asked_t)), (39, (spP [SSite, SSafe, U8s] [U8s] gate_admit_t true))]
theorem gate_Admit_l : AllMeet Tryd.prog V gate_Admit_L := (.cons gate_asked_m (.cons gate_admit_m .nil))
set_option maxRecDepth 100000 in
theorem gate_Admit_d : ∀ x : PSSite × PSSafe × List Int, denote (mkC Tryd.prog V gate_Admit_L) 1 (inlOf Tryd.f17 {}) [SSite, SSafe, U8s] [U8s, I64] true x = gate_Admit_t x := fun x => by kernel_rfl
theorem gate_Admit_m : Meets Tryd.prog V 17 (spP [SSite, SSafe, U8s] [U8s, I64] gate_Admit_t true) := meets_part gate_Admit_l stays hmix (hs := {}) (fnOK Tryd.func17 (by kernel_rfl) (by kernel_rfl) (by kernel_rfl)) true gate_Admit_d
def turn_Steps_L : List (Nat × FSpec) := [(59, (spP [SSite, I64] [U8s] turn_asks_t)), (61, (spP [SSite, SSafe, I64] [Bo] turn_full_t)), (47, (spP [SSite] [I64] site_Check_t)), (58, (spP [U8s, I64] [U8s] slices_Repeat_t true)), (17, (spP [SSite, SSafe, U8s] [U8s, I64] gate_Admit_t true)), (24, (spP [SSite, SSafe, U8s] [SSafe, U8, I64] safe_Next_t))]
theorem turn_Steps_l : AllMeet Tryd.prog V turn_Steps_L := (.cons turn_asks_m (.cons turn_full_m (.cons site_Check_m (.cons slices_Repeat_m (.cons gate_Admit_m (.cons safe_Next_m .nil))))))
noncomputable def turn_Steps_I : List (Nat × Inl) := [(56, inlOf Tryd.f56 {}), (57, inlOf Tryd.f57 {}), (60, inlOf Tryd.f60 {})]
theorem turn_Steps_i : AllOK Tryd.prog turn_Steps_I := (.cons (fnOK Tryd.func56 (by kernel_rfl) (by kernel_rfl) (by kernel_rfl)) (.cons (fnOK Tryd.func57 (by kernel_rfl) (by kernel_rfl) (by kernel_rfl)) (.cons (fnOK Tryd.func60 (by kernel_rfl) (by kernel_rfl) (by kernel_rfl)) .nil)))
set_option maxRecDepth 100000 in
theorem turn_Steps_d : ∀ x : PSSite × PSSafe × Int, denote (mkC Tryd.prog V turn_Steps_L turn_Steps_I) 4 (inlOf Tryd.f31 { loops := [(0, [.slot 23 I64, .box 4 SSafe])], joins := [(2, [])], outs := [(2, [(8, I64)])] }) [SSite, SSafe, I64] [I64, I64] false x = turn_Steps_t x := fun x => by kernel_rfl
theorem turn_Steps_m : Meets Tryd.prog V 31 (spP [SSite, SSafe, I64] [I64, I64] turn_Steps_t) := meets_part_il turn_Steps_l stays hmix turn_Steps_i (hs := { loops := [(0, [.slot 23 I64, .box 4 SSafe])], joins := [(2, [])], outs := [(2, [(8, I64)])] }) (fnOK Tryd.func31 (by kernel_rfl) (by kernel_rfl) (by kernel_rfl)) false 4 turn_Steps_d
def law15_alive_L : List (Nat × FSpec) := [(36, (spT [] [SSite] law15_three)), (28, (spP [SSite] [SSafe, I64] safe_First_t)), (31, (spP [SSite, SSafe, I64] [I64, I64] turn_Steps_t))]
theorem law15_alive_l : AllMeet Tryd.prog V law15_alive_L := (.cons law15_three_m (.cons safe_First_m (.cons turn_Steps_m .nil)))
set_option maxRecDepth 100000 in
theorem law15_alive_d : ∀ x : Unit, denote (mkC Tryd.prog V law15_alive_L) 1 (inlOf Tryd.f29 {}) [] [Bo] false x = law15_alive_t x := fun x => by kernel_rfl
theorem law15_alive_m : Meets Tryd.prog V 29 (spP [] [Bo] law15_alive_t) := meets_part law15_alive_l stays hmix (hs := {}) (fnOK Tryd.func29 (by kernel_rfl) (by kernel_rfl) (by kernel_rfl)) false law15_alive_d
def ref05_Great_L : List (Nat × FSpec) := []
theorem ref05_Great_l : AllMeet Tryd.prog V ref05_Great_L := .nil
set_option maxRecDepth 100000 in
theorem ref05_Great_d : ∀ x : PSSite, denote (mkC Tryd.prog V ref05_Great_L) 1 (inlOf Tryd.f12 { loops := [(0, [.slot 3 I64]), (2, [.slot 4 I64])] }) [SSite] [Bo] false x = ref05_Great_t x := fun x => by kernel_rfl
theorem ref05_Great_m : Meets Tryd.prog V 12 (spP [SSite] [Bo] ref05_Great_t) := meets_part ref05_Great_l stays hmix (hs := { loops := [(0, [.slot 3 I64]), (2, [.slot 4 I64])] }) (fnOK Tryd.func12 (by kernel_rfl) (by kernel_rfl) (by kernel_rfl)) false ref05_Great_d
def ref05_in_L : List (Nat × FSpec) := []
theorem ref05_in_l : AllMeet Tryd.prog V ref05_in_L := .nil
set_option maxRecDepth 100000 in
theorem ref05_in_d : ∀ x : Int × Int × Int, denote (mkC Tryd.prog V ref05_in_L) 1 (inlOf Tryd.f73 {}) [I64, I64, I64] [Bo] false x = ref05_in_t x := fun x => by kernel_rfl
theorem ref05_in_m : Meets Tryd.prog V 73 (spT [I64, I64, I64] [Bo] ref05_in) := meets_tot ref05_in_l stays hmix (hs := {}) (fnOK Tryd.func73 (by kernel_rfl) (by kernel_rfl) (by kernel_rfl)) false fun x => (ref05_in_d x).trans (ref05_in_e x)
def ref02_Has_L : List (Nat × FSpec) := []
theorem ref02_Has_l : AllMeet Tryd.prog V ref02_Has_L := .nil
set_option maxRecDepth 100000 in
theorem ref02_Has_d : ∀ x : Int × Int, denote (mkC Tryd.prog V ref02_Has_L) 1 (inlOf Tryd.f108 {}) [U32, I64] [Bo] false x = ref02_Has_t x := fun x => by kernel_rfl
theorem ref02_Has_m : Meets Tryd.prog V 108 (spT [U32, I64] [Bo] ref02_Has) := meets_up (meets_part ref02_Has_l stays hmix (hs := {}) (fnOK Tryd.func108 (by kernel_rfl) (by kernel_rfl) (by kernel_rfl)) false ref02_Has_d) ref02_Has_e
def ref05_Apart_L : List (Nat × FSpec) := [(108, (spT [U32, I64] [Bo] ref02_Has))]
theorem ref05_Apart_l : AllMeet Tryd.prog V ref05_Apart_L := (.cons ref02_Has_m .nil)
set_option maxRecDepth 100000 in
theorem ref05_Apart_d : ∀ x : PSSite × Int × Int, denote (mkC Tryd.prog V ref05_Apart_L) 1 (inlOf Tryd.f107 {}) [SSite, I64, I64] [Bo] false x = ref05_Apart_t x := fun x => by kernel_rfl
theorem ref05_Apart_m : Meets Tryd.prog V 107 (spP [SSite, I64, I64] [Bo] ref05_Apart_t) := meets_part ref05_Apart_l stays hmix (hs := {}) (fnOK Tryd.func107 (by kernel_rfl) (by kernel_rfl) (by kernel_rfl)) false ref05_Apart_d
def ref05_groups_L : List (Nat × FSpec) := [(73, (spT [I64, I64, I64] [Bo] ref05_in)), (107, (spP [SSite, I64, I64] [Bo] ref05_Apart_t))]
theorem ref05_groups_l : AllMeet Tryd.prog V ref05_groups_L := (.cons ref05_in_m (.cons ref05_Apart_m .nil))
set_option maxRecDepth 100000 in
theorem ref05_groups_d : ∀ x : PSSite, denote (mkC Tryd.prog V ref05_groups_L) 1 (inlOf Tryd.f71 { loops := [(0, [.slot 4 I64]), (2, [.slot 6 I64]), (4, [.slot 7 I64])] }) [SSite] [Bo] false x = ref05_groups_t x := fun x => by kernel_rfl
theorem ref05_groups_m : Meets Tryd.prog V 71 (spP [SSite] [Bo] ref05_groups_t) := meets_part ref05_groups_l stays hmix (hs := { loops := [(0, [.slot 4 I64]), (2, [.slot 6 I64]), (4, [.slot 7 I64])] }) (fnOK Tryd.func71 (by kernel_rfl) (by kernel_rfl) (by kernel_rfl)) false ref05_groups_d
def ref02_With_L : List (Nat × FSpec) := [(108, (spT [U32, I64] [Bo] ref02_Has))]
theorem ref02_With_l : AllMeet Tryd.prog V ref02_With_L := (.cons ref02_Has_m .nil)
set_option maxRecDepth 100000 in
theorem ref02_With_d : ∀ x : Int × Int, denote (mkC Tryd.prog V ref02_With_L) 1 (inlOf Tryd.f109 {}) [U32, I64] [U32] false x = ref02_With_t x := fun x => by kernel_rfl
theorem ref02_With_m : Meets Tryd.prog V 109 (spT [U32, I64] [U32] ref02_With) := meets_tot ref02_With_l stays hmix (hs := {}) (fnOK Tryd.func109 (by kernel_rfl) (by kernel_rfl) (by kernel_rfl)) false fun x => (ref02_With_d x).trans (ref02_With_e x)
def ref02_Count_L : List (Nat × FSpec) := [(108, (spT [U32, I64] [Bo] ref02_Has))]
theorem ref02_Count_l : AllMeet Tryd.prog V ref02_Count_L := (.cons ref02_Has_m .nil)
set_option maxRecDepth 100000 in
theorem ref02_Count_d : ∀ x : Int, denote (mkC Tryd.prog V ref02_Count_L) 1 (inlOf Tryd.f110 { loops := [(0, [.slot 3 I64, .slot 4 I64])] }) [U32] [I64] false x = ref02_Count_t x := fun x => by kernel_rfl
theorem ref02_Count_m : Meets Tryd.prog V 110 (spP [U32] [I64] ref02_Count_t) := meets_part ref02_Count_l stays hmix (hs := { loops := [(0, [.slot 3 I64, .slot 4 I64])] }) (fnOK Tryd.func110 (by kernel_rfl) (by kernel_rfl) (by kernel_rfl)) false ref02_Count_d
def ref05_phases_L : List (Nat × FSpec) := [(73, (spT [I64, I64, I64] [Bo] ref05_in)), (108, (spT [U32, I64] [Bo] ref02_Has)), (109, (spT [U32, I64] [U32] ref02_With)), (107, (spP [SSite, I64, I64] [Bo] ref05_Apart_t)), (110, (spP [U32] [I64] ref02_Count_t))]
theorem ref05_phases_l : AllMeet Tryd.prog V ref05_phases_L := (.cons ref05_in_m (.cons ref02_Has_m (.cons ref02_With_m (.cons ref05_Apart_m (.cons ref02_Count_m .nil)))))
set_option maxRecDepth 100000 in
theorem ref05_phases_d : ∀ x : PSSite, denote (mkC Tryd.prog V ref05_phases_L) 1 (inlOf Tryd.f72 { loops := [(0, [.slot 3 U32, .slot 4 I64]), (2, [.slot 3 U32, .slot 6 I64, .slot 7 I64]), (4, [.slot 8 I64])] }) [SSite] [Bo] false x = ref05_phases_t x := fun x => by kernel_rfl
theorem ref05_phases_m : Meets Tryd.prog V 72 (spP [SSite] [Bo] ref05_phases_t) := meets_part ref05_phases_l stays hmix (hs := { loops := [(0, [.slot 3 U32, .slot 4 I64]), (2, [.slot 3 U32, .slot 6 I64, .slot 7 I64]), (4, [.slot 8 I64])] }) (fnOK Tryd.func72 (by kernel_rfl) (by kernel_rfl) (by kernel_rfl)) false ref05_phases_d
def ref05_Clear_L : List (Nat × FSpec) := [(108, (spT [U32, I64] [Bo] ref02_Has)), (107, (spP [SSite, I64, I64] [Bo] ref05_Apart_t))]
theorem ref05_Clear_l : AllMeet Tryd.prog V ref05_Clear_L := (.cons ref02_Has_m (.cons ref05_Apart_m .nil))
set_option maxRecDepth 100000 in
theorem ref05_Clear_d : ∀ x : PSSite × Int × Int, denote (mkC Tryd.prog V ref05_Clear_L) 1 (inlOf Tryd.f132 { loops := [(0, [.slot 7 I64, .slot 8 I64]), (2, [.slot 7 I64, .slot 9 I64])] }) [SSite, I64, I64] [I64] false x = ref05_Clear_t x := fun x => by kernel_rfl
theorem ref05_Clear_m : Meets Tryd.prog V 132 (spP [SSite, I64, I64] [I64] ref05_Clear_t) := meets_part ref05_Clear_l stays hmix (hs := { loops := [(0, [.slot 7 I64, .slot 8 I64]), (2, [.slot 7 I64, .slot 9 I64])] }) (fnOK Tryd.func132 (by kernel_rfl) (by kernel_rfl) (by kernel_rfl)) false ref05_Clear_d
def ref05_needs_L : List (Nat × FSpec) := [(132, (spP [SSite, I64, I64] [I64] ref05_Clear_t))]
theorem ref05_needs_l : AllMeet Tryd.prog V ref05_needs_L := (.cons ref05_Clear_m .nil)
set_option maxRecDepth 100000 in
theorem ref05_needs_d : ∀ x : PSSite × Int, denote (mkC Tryd.prog V ref05_needs_L) 1 (inlOf Tryd.f111 {}) [SSite, I64] [I64] false x = ref05_needs_t x := fun x => by kernel_rfl
theorem ref05_needs_m : Meets Tryd.prog V 111 (spP [SSite, I64] [I64] ref05_needs_t) := meets_part ref05_needs_l stays hmix (hs := {}) (fnOK Tryd.func111 (by kernel_rfl) (by kernel_rfl) (by kernel_rfl)) false ref05_needs_d
def ref05_Round_L : List (Nat × FSpec) := [(111, (spP [SSite, I64] [I64] ref05_needs_t))]
theorem ref05_Round_l : AllMeet Tryd.prog V ref05_Round_L := (.cons ref05_needs_m .nil)
set_option maxRecDepth 100000 in
theorem ref05_Round_d : ∀ x : PSSite, denote (mkC Tryd.prog V ref05_Round_L) 1 (inlOf Tryd.f74 { loops := [(0, [.slot 3 I64, .slot 4 I64])] }) [SSite] [I64] false x = ref05_Round_t x := fun x => by kernel_rfl
theorem ref05_Round_m : Meets Tryd.prog V 74 (spP [SSite] [I64] ref05_Round_t) := meets_part ref05_Round_l stays hmix (hs := { loops := [(0, [.slot 3 I64, .slot 4 I64])] }) (fnOK Tryd.func74 (by kernel_rfl) (by kernel_rfl) (by kernel_rfl)) false ref05_Round_d
def ref05_PlanMay_L : List (Nat × FSpec) := [(73, (spT [I64, I64, I64] [Bo] ref05_in)), (111, (spP [SSite, I64] [I64] ref05_needs_t))]
theorem ref05_PlanMay_l : AllMeet Tryd.prog V ref05_PlanMay_L := (.cons ref05_in_m (.cons ref05_needs_m .nil))
set_option maxRecDepth 100000 in
theorem ref05_PlanMay_d : ∀ x : PSSite × PSPlan, denote (mkC Tryd.prog V ref05_PlanMay_L) 1 (inlOf Tryd.f75 { loops := [(0, [.slot 5 I64, .slot 6 I64])] }) [SSite, SPlan] [Bo] false x = ref05_PlanMay_t x := fun x => by kernel_rfl
theorem ref05_PlanMay_m : Meets Tryd.prog V 75 (spP [SSite, SPlan] [Bo] ref05_PlanMay_t) := meets_part ref05_PlanMay_l stays hmix (hs := { loops := [(0, [.slot 5 I64, .slot 6 I64])] }) (fnOK Tryd.func75 (by kernel_rfl) (by kernel_rfl) (by kernel_rfl)) false ref05_PlanMay_d
def ref05_Check_L : List (Nat × FSpec) := [(71, (spP [SSite] [Bo] ref05_groups_t)), (72, (spP [SSite] [Bo] ref05_phases_t)), (73, (spT [I64, I64, I64] [Bo] ref05_in)), (74, (spP [SSite] [I64] ref05_Round_t)), (75, (spP [SSite, SPlan] [Bo] ref05_PlanMay_t))]
theorem ref05_Check_l : AllMeet Tryd.prog V ref05_Check_L := (.cons ref05_groups_m (.cons ref05_phases_m (.cons ref05_in_m (.cons ref05_Round_m (.cons ref05_PlanMay_m .nil)))))
set_option maxRecDepth 100000 in
theorem ref05_Check_d : ∀ x : PSSite, denote (mkC Tryd.prog V ref05_Check_L) 1 (inlOf Tryd.f40 { loops := [(0, [.slot 3 I64]), (2, [.slot 5 I64])] }) [SSite] [I64] false x = ref05_Check_t x := fun x => by kernel_rfl
theorem ref05_Check_m : Meets Tryd.prog V 40 (spP [SSite] [I64] ref05_Check_t) := meets_part ref05_Check_l stays hmix (hs := { loops := [(0, [.slot 3 I64]), (2, [.slot 5 I64])] }) (fnOK Tryd.func40 (by kernel_rfl) (by kernel_rfl) (by kernel_rfl)) false ref05_Check_d
def ref08_Apart_L : List (Nat × FSpec) := []
theorem ref08_Apart_l : AllMeet Tryd.prog V ref08_Apart_L := .nil
set_option maxRecDepth 100000 in
theorem ref08_Apart_d : ∀ x : PSSite × Int × Int, denote (mkC Tryd.prog V ref08_Apart_L) 1 (inlOf Tryd.f78 {}) [SSite, I64, I64] [Bo] false x = ref08_Apart_t x := fun x => by kernel_rfl
theorem ref08_Apart_m : Meets Tryd.prog V 78 (spP [SSite, I64, I64] [Bo] ref08_Apart_t) := meets_part ref08_Apart_l stays hmix (hs := {}) (fnOK Tryd.func78 (by kernel_rfl) (by kernel_rfl) (by kernel_rfl)) false ref08_Apart_d
def ref08_Between_L : List (Nat × FSpec) := []
theorem ref08_Between_l : AllMeet Tryd.prog V ref08_Between_L := .nil
set_option maxRecDepth 100000 in
theorem ref08_Between_d : ∀ x : PSSite × Int × Int, denote (mkC Tryd.prog V ref08_Between_L) 1 (inlOf Tryd.f79 {}) [SSite, I64, I64] [I64] false x = ref08_Between_t x := fun x => by kernel_rfl
theorem ref08_Between_m : Meets Tryd.prog V 79 (spP [SSite, I64, I64] [I64] ref08_Between_t) := meets_part ref08_Between_l stays hmix (hs := {}) (fnOK Tryd.func79 (by kernel_rfl) (by kernel_rfl) (by kernel_rfl)) false ref08_Between_d
def ref08_Great_L : List (Nat × FSpec) := [(78, (spP [SSite, I64, I64] [Bo] ref08_Apart_t)), (79, (spP [SSite, I64, I64] [I64] ref08_Between_t))]
theorem ref08_Great_l : AllMeet Tryd.prog V ref08_Great_L := (.cons ref08_Apart_m (.cons ref08_Between_m .nil))
set_option maxRecDepth 100000 in
theorem ref08_Great_d : ∀ x : PSSite, denote (mkC Tryd.prog V ref08_Great_L) 1 (inlOf Tryd.f76 { loops := [(0, [.slot 3 I64, .slot 4 I64]), (2, [.slot 3 I64, .slot 5 I64])] }) [SSite] [I64] false x = ref08_Great_t x := fun x => by kernel_rfl
theorem ref08_Great_m : Meets Tryd.prog V 76 (spP [SSite] [I64] ref08_Great_t) := meets_part ref08_Great_l stays hmix (hs := { loops := [(0, [.slot 3 I64, .slot 4 I64]), (2, [.slot 3 I64, .slot 5 I64])] }) (fnOK Tryd.func76 (by kernel_rfl) (by kernel_rfl) (by kernel_rfl)) false ref08_Great_d
def ref15_Turn_L : List (Nat × FSpec) := [(76, (spP [SSite] [I64] ref08_Great_t))]
theorem ref15_Turn_l : AllMeet Tryd.prog V ref15_Turn_L := (.cons ref08_Great_m .nil)
set_option maxRecDepth 100000 in
theorem ref15_Turn_d : ∀ x : PSSite, denote (mkC Tryd.prog V ref15_Turn_L) 1 (inlOf Tryd.f55 { loops := [(0, [.slot 3 I64, .slot 4 I64, .slot 5 I64])] }) [SSite] [I64] false x = ref15_Turn_t x := fun x => by kernel_rfl
theorem ref15_Turn_m : Meets Tryd.prog V 55 (spP [SSite] [I64] ref15_Turn_t) := meets_part ref15_Turn_l stays hmix (hs := { loops := [(0, [.slot 3 I64, .slot 4 I64, .slot 5 I64])] }) (fnOK Tryd.func55 (by kernel_rfl) (by kernel_rfl) (by kernel_rfl)) false ref15_Turn_d
def law15_far_L : List (Nat × FSpec) := [(40, (spP [SSite] [I64] ref05_Check_t)), (55, (spP [SSite] [I64] ref15_Turn_t))]
theorem law15_far_l : AllMeet Tryd.prog V law15_far_L := (.cons ref05_Check_m (.cons ref15_Turn_m .nil))
set_option maxRecDepth 100000 in
theorem law15_far_d : ∀ x : PSSite × PSSafe, denote (mkC Tryd.prog V law15_far_L) 1 (inlOf Tryd.f30 {}) [SSite, SSafe] [Bo] false x = law15_far_t x := fun x => by kernel_rfl
theorem law15_far_m : Meets Tryd.prog V 30 (spP [SSite, SSafe] [Bo] law15_far_t) := meets_part law15_far_l stays hmix (hs := {}) (fnOK Tryd.func30 (by kernel_rfl) (by kernel_rfl) (by kernel_rfl)) false law15_far_d
def turn_Asks_L : List (Nat × FSpec) := [(59, (spP [SSite, I64] [U8s] turn_asks_t)), (47, (spP [SSite] [I64] site_Check_t))]
theorem turn_Asks_l : AllMeet Tryd.prog V turn_Asks_L := (.cons turn_asks_m (.cons site_Check_m .nil))
noncomputable def turn_Asks_I : List (Nat × Inl) := [(56, inlOf Tryd.f56 {}), (62, inlOf Tryd.f62 {})]
theorem turn_Asks_i : AllOK Tryd.prog turn_Asks_I := (.cons (fnOK Tryd.func56 (by kernel_rfl) (by kernel_rfl) (by kernel_rfl)) (.cons (fnOK Tryd.func62 (by kernel_rfl) (by kernel_rfl) (by kernel_rfl)) .nil))
set_option maxRecDepth 100000 in
theorem turn_Asks_d : ∀ x : PSSite × Int, denote (mkC Tryd.prog V turn_Asks_L turn_Asks_I) 3 (inlOf Tryd.f32 { joins := [(2, [])], outs := [(2, [(6, I64)])] }) [SSite, I64] [U8s, I64] false x = turn_Asks_t x := fun x => by kernel_rfl
theorem turn_Asks_m : Meets Tryd.prog V 32 (spP [SSite, I64] [U8s, I64] turn_Asks_t) := meets_part_il turn_Asks_l stays hmix turn_Asks_i (hs := { joins := [(2, [])], outs := [(2, [(6, I64)])] }) (fnOK Tryd.func32 (by kernel_rfl) (by kernel_rfl) (by kernel_rfl)) false 3 turn_Asks_d
def turn_Full_L : List (Nat × FSpec) := [(61, (spP [SSite, SSafe, I64] [Bo] turn_full_t)), (47, (spP [SSite] [I64] site_Check_t))]
theorem turn_Full_l : AllMeet Tryd.prog V turn_Full_L := (.cons turn_full_m (.cons site_Check_m .nil))
noncomputable def turn_Full_I : List (Nat × Inl) := [(56, inlOf Tryd.f56 {}), (63, inlOf Tryd.f63 {})]
theorem turn_Full_i : AllOK Tryd.prog turn_Full_I := (.cons (fnOK Tryd.func56 (by kernel_rfl) (by kernel_rfl) (by kernel_rfl)) (.cons (fnOK Tryd.func63 (by kernel_rfl) (by kernel_rfl) (by kernel_rfl)) .nil))
set_option maxRecDepth 100000 in
theorem turn_Full_d : ∀ x : PSSite × PSSafe × Int, denote (mkC Tryd.prog V turn_Full_L turn_Full_I) 3 (inlOf Tryd.f33 { joins := [(2, [])], outs := [(2, [(8, I64)])] }) [SSite, SSafe, I64] [Bo, I64] false x = turn_Full_t x := fun x => by kernel_rfl
theorem turn_Full_m : Meets Tryd.prog V 33 (spP [SSite, SSafe, I64] [Bo, I64] turn_Full_t) := meets_part_il turn_Full_l stays hmix turn_Full_i (hs := { joins := [(2, [])], outs := [(2, [(8, I64)])] }) (fnOK Tryd.func33 (by kernel_rfl) (by kernel_rfl) (by kernel_rfl)) false 3 turn_Full_d
def law15_TurnStays_L : List (Nat × FSpec) := [(29, (spP [] [Bo] law15_alive_t)), (12, (spP [SSite] [Bo] ref05_Great_t)), (30, (spP [SSite, SSafe] [Bo] law15_far_t)), (31, (spP [SSite, SSafe, I64] [I64, I64] turn_Steps_t)), (32, (spP [SSite, I64] [U8s, I64] turn_Asks_t)), (33, (spP [SSite, SSafe, I64] [Bo, I64] turn_Full_t)), (17, (spP [SSite, SSafe, U8s] [U8s, I64] gate_Admit_t true)), (24, (spP [SSite, SSafe, U8s] [SSafe, U8, I64] safe_Next_t))]
theorem law15_TurnStays_l : AllMeet Tryd.prog V law15_TurnStays_L := (.cons law15_alive_m (.cons ref05_Great_m (.cons law15_far_m (.cons turn_Steps_m (.cons turn_Asks_m (.cons turn_Full_m (.cons gate_Admit_m (.cons safe_Next_m .nil))))))))
set_option maxRecDepth 100000 in
theorem law15_TurnStays_d : ∀ x : PSSite × PSSafe × Int × Int, denote (mkC Tryd.prog V law15_TurnStays_L) 1 (inlOf Tryd.f9 { loops := [(0, [.slot 14 I64, .box 5 SSafe])] }) [SSite, SSafe, I64, U8] [Bo] false x = law15_TurnStays_t x := fun x => by kernel_rfl
theorem law15_TurnStays_m : Meets Tryd.prog V 9 (spP [SSite, SSafe, I64, U8] [Bo] law15_TurnStays_t) := meets_part law15_TurnStays_l stays hmix (hs := { loops := [(0, [.slot 14 I64, .box 5 SSafe])] }) (fnOK Tryd.func9 (by kernel_rfl) (by kernel_rfl) (by kernel_rfl)) false law15_TurnStays_d
def safe_Greatest_L : List (Nat × FSpec) := [(47, (spP [SSite] [I64] site_Check_t)), (64, (spP [SSite] [I64] safe_greatest_t))]
theorem safe_Greatest_l : AllMeet Tryd.prog V safe_Greatest_L := (.cons site_Check_m (.cons safe_greatest_m .nil))
set_option maxRecDepth 100000 in
theorem safe_Greatest_d : ∀ x : PSSite, denote (mkC Tryd.prog V safe_Greatest_L) 1 (inlOf Tryd.f35 {}) [SSite] [I64, I64] false x = safe_Greatest_t x := fun x => by kernel_rfl
theorem safe_Greatest_m : Meets Tryd.prog V 35 (spP [SSite] [I64, I64] safe_Greatest_t) := meets_part safe_Greatest_l stays hmix (hs := {}) (fnOK Tryd.func35 (by kernel_rfl) (by kernel_rfl) (by kernel_rfl)) false safe_Greatest_d
def turn_Worst_L : List (Nat × FSpec) := [(35, (spP [SSite] [I64, I64] safe_Greatest_t))]
theorem turn_Worst_l : AllMeet Tryd.prog V turn_Worst_L := (.cons safe_Greatest_m .nil)
set_option maxRecDepth 100000 in
theorem turn_Worst_d : ∀ x : PSSite, denote (mkC Tryd.prog V turn_Worst_L) 1 (inlOf Tryd.f34 { loops := [(0, [.slot 6 I64, .slot 7 I64, .slot 21 I64])] }) [SSite] [I64, I64] false x = turn_Worst_t x := fun x => by kernel_rfl
theorem turn_Worst_m : Meets Tryd.prog V 34 (spP [SSite] [I64, I64] turn_Worst_t) := meets_part turn_Worst_l stays hmix (hs := { loops := [(0, [.slot 6 I64, .slot 7 I64, .slot 21 I64])] }) (fnOK Tryd.func34 (by kernel_rfl) (by kernel_rfl) (by kernel_rfl)) false turn_Worst_d
def law15_TurnEnds_L : List (Nat × FSpec) := [(29, (spP [] [Bo] law15_alive_t)), (12, (spP [SSite] [Bo] ref05_Great_t)), (30, (spP [SSite, SSafe] [Bo] law15_far_t)), (31, (spP [SSite, SSafe, I64] [I64, I64] turn_Steps_t)), (34, (spP [SSite] [I64, I64] turn_Worst_t)), (35, (spP [SSite] [I64, I64] safe_Greatest_t))]
theorem law15_TurnEnds_l : AllMeet Tryd.prog V law15_TurnEnds_L := (.cons law15_alive_m (.cons ref05_Great_m (.cons law15_far_m (.cons turn_Steps_m (.cons turn_Worst_m (.cons safe_Greatest_m .nil))))))
set_option maxRecDepth 100000 in
theorem law15_TurnEnds_d : ∀ x : PSSite × PSSafe × Int, denote (mkC Tryd.prog V law15_TurnEnds_L) 1 (inlOf Tryd.f10 {}) [SSite, SSafe, I64] [Bo] false x = law15_TurnEnds_t x := fun x => by kernel_rfl
theorem law15_TurnEnds_m : Meets Tryd.prog V 10 (spP [SSite, SSafe, I64] [Bo] law15_TurnEnds_t) := meets_part law15_TurnEnds_l stays hmix (hs := {}) (fnOK Tryd.func10 (by kernel_rfl) (by kernel_rfl) (by kernel_rfl)) false law15_TurnEnds_d
def law15_TurnNames_L : List (Nat × FSpec) := [(36, (spT [] [SSite] law15_three)), (32, (spP [SSite, I64] [U8s, I64] turn_Asks_t)), (34, (spP [SSite] [I64, I64] turn_Worst_t)), (28, (spP [SSite] [SSafe, I64] safe_First_t)), (17, (spP [SSite, SSafe, U8s] [U8s, I64] gate_Admit_t true)), (24, (spP [SSite, SSafe, U8s] [SSafe, U8, I64] safe_Next_t)), (31, (spP [SSite, SSafe, I64] [I64, I64] turn_Steps_t)), (33, (spP [SSite, SSafe, I64] [Bo, I64] turn_Full_t)), (29, (spP [] [Bo] law15_alive_t))]
theorem law15_TurnNames_l : AllMeet Tryd.prog V law15_TurnNames_L := (.cons law15_three_m (.cons turn_Asks_m (.cons turn_Worst_m (.cons safe_First_m (.cons gate_Admit_m (.cons safe_Next_m (.cons turn_Steps_m (.cons turn_Full_m (.cons law15_alive_m .nil)))))))))
set_option maxRecDepth 100000 in
theorem law15_TurnNames_d : ∀ x : Unit, denote (mkC Tryd.prog V law15_TurnNames_L) 1 (inlOf Tryd.f11 { loops := [(0, [.slot 10 I64, .box 5 SSafe])], frz := [12] }) [] [Bo] false x = law15_TurnNames_t x := fun x => by kernel_rfl
theorem law15_TurnNames_m : Meets Tryd.prog V 11 (spP [] [Bo] law15_TurnNames_t) := meets_part law15_TurnNames_l stays hmix (hs := { loops := [(0, [.slot 10 I64, .box 5 SSafe])], frz := [12] }) (fnOK Tryd.func11 (by kernel_rfl) (by kernel_rfl) (by kernel_rfl)) false law15_TurnNames_d
end Go.Proofs.YtdgiapeofmlecaaDoor
