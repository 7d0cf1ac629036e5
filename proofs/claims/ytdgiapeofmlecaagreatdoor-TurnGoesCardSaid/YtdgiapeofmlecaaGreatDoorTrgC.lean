/- Part of a proof: plain readings of Go functions, their contracts, or plain facts of them. -/
import Derived.Test.YtdgiapeofmlecaaGreatDoorTrgB
import Derived.Lib.Walk
import Derived.Tactics
import Derived.WalkKit
import Derived.Laws.CopyOwn
import Derived.Laws.MakeOwn
import Derived.LoopTactic
import Derived.RangeFuncRecord
import Derived.Shelf.Bits.Mul64
namespace Go.Proofs.YtdgiapeofmlecaaGreatDoor
open Go.Den Go.RowKit Go.ChangeShapes Go.Shelf

def ref05_Great_L : List (Nat × FSpec) := []
theorem ref05_Great_l : AllMeet Tryz.prog V ref05_Great_L := .nil
set_option maxRecDepth 100000 in
theorem ref05_Great_d : ∀ x : PSSite, denote (mkC Tryz.prog V ref05_Great_L) 1 (inlOf Tryz.f4 { loops := [(0, [.slot 3 I64]), (2, [.slot 4 I64])] }) [SSite] [Bo] false x = ref05_Great_t x := fun x => by kernel_rfl
theorem ref05_Great_m : Meets Tryz.prog V 4 (spP [SSite] [Bo] ref05_Great_t) := meets_part ref05_Great_l stays hmix (hs := { loops := [(0, [.slot 3 I64]), (2, [.slot 4 I64])] }) (fnOK Tryz.func4 (by kernel_rfl) (by kernel_rfl) (by kernel_rfl)) false ref05_Great_d
def ref05_in_L : List (Nat × FSpec) := []
theorem ref05_in_l : AllMeet Tryz.prog V ref05_in_L := .nil
set_option maxRecDepth 100000 in
theorem ref05_in_d : ∀ x : Int × Int × Int, denote (mkC Tryz.prog V ref05_in_L) 1 (inlOf Tryz.f36 {}) [I64, I64, I64] [Bo] false x = ref05_in_t x := fun x => by kernel_rfl
theorem ref05_in_m : Meets Tryz.prog V 36 (spT [I64, I64, I64] [Bo] ref05_in) := meets_tot ref05_in_l stays hmix (hs := {}) (fnOK Tryz.func36 (by kernel_rfl) (by kernel_rfl) (by kernel_rfl)) false fun x => (ref05_in_d x).trans (ref05_in_e x)
def ref02_Has_L : List (Nat × FSpec) := []
theorem ref02_Has_l : AllMeet Tryz.prog V ref02_Has_L := .nil
set_option maxRecDepth 100000 in
theorem ref02_Has_d : ∀ x : Int × Int, denote (mkC Tryz.prog V ref02_Has_L) 1 (inlOf Tryz.f58 {}) [U32, I64] [Bo] false x = ref02_Has_t x := fun x => by kernel_rfl
theorem ref02_Has_m : Meets Tryz.prog V 58 (spT [U32, I64] [Bo] ref02_Has) := meets_up (meets_part ref02_Has_l stays hmix (hs := {}) (fnOK Tryz.func58 (by kernel_rfl) (by kernel_rfl) (by kernel_rfl)) false ref02_Has_d) ref02_Has_e
def ref05_Apart_L : List (Nat × FSpec) := [(58, (spT [U32, I64] [Bo] ref02_Has))]
theorem ref05_Apart_l : AllMeet Tryz.prog V ref05_Apart_L := (.cons ref02_Has_m .nil)
set_option maxRecDepth 100000 in
theorem ref05_Apart_d : ∀ x : PSSite × Int × Int, denote (mkC Tryz.prog V ref05_Apart_L) 1 (inlOf Tryz.f57 {}) [SSite, I64, I64] [Bo] false x = ref05_Apart_t x := fun x => by kernel_rfl
theorem ref05_Apart_m : Meets Tryz.prog V 57 (spP [SSite, I64, I64] [Bo] ref05_Apart_t) := meets_part ref05_Apart_l stays hmix (hs := {}) (fnOK Tryz.func57 (by kernel_rfl) (by kernel_rfl) (by kernel_rfl)) false ref05_Apart_d
def ref05_groups_L : List (Nat × FSpec) := [(36, (spT [I64, I64, I64] [Bo] ref05_in)), (57, (spP [SSite, I64, I64] [Bo] ref05_Apart_t))]
theorem ref05_groups_l : AllMeet Tryz.prog V ref05_groups_L := (.cons ref05_in_m (.cons ref05_Apart_m .nil))
set_option maxRecDepth 100000 in
theorem ref05_groups_d : ∀ x : PSSite, denote (mkC Tryz.prog V ref05_groups_L) 1 (inlOf Tryz.f34 { loops := [(0, [.slot 4 I64]), (2, [.slot 6 I64]), (4, [.slot 7 I64])] }) [SSite] [Bo] false x = ref05_groups_t x := fun x => by kernel_rfl
theorem ref05_groups_m : Meets Tryz.prog V 34 (spP [SSite] [Bo] ref05_groups_t) := meets_part ref05_groups_l stays hmix (hs := { loops := [(0, [.slot 4 I64]), (2, [.slot 6 I64]), (4, [.slot 7 I64])] }) (fnOK Tryz.func34 (by kernel_rfl) (by kernel_rfl) (by kernel_rfl)) false ref05_groups_d
def ref02_With_L : List (Nat × FSpec) := [(58, (spT [U32, I64] [Bo] ref02_Has))]
theorem ref02_With_l : AllMeet Tryz.prog V ref02_With_L := (.cons ref02_Has_m .nil)
set_option maxRecDepth 100000 in
theorem ref02_With_d : ∀ x : Int × Int, denote (mkC Tryz.prog V ref02_With_L) 1 (inlOf Tryz.f59 {}) [U32, I64] [U32] false x = ref02_With_t x := fun x => by kernel_rfl
theorem ref02_With_m : Meets Tryz.prog V 59 (spT [U32, I64] [U32] ref02_With) := meets_tot ref02_With_l stays hmix (hs := {}) (fnOK Tryz.func59 (by kernel_rfl) (by kernel_rfl) (by kernel_rfl)) false fun x => (ref02_With_d x).trans (ref02_With_e x)
def ref02_Count_L : List (Nat × FSpec) := [(58, (spT [U32, I64] [Bo] ref02_Has))]
theorem ref02_Count_l : AllMeet Tryz.prog V ref02_Count_L := (.cons ref02_Has_m .nil)
set_option maxRecDepth 100000 in
theorem ref02_Count_d : ∀ x : Int, denote (mkC Tryz.prog V ref02_Count_L) 1 (inlOf Tryz.f60 { loops := [(0, [.slot 3 I64, .slot 4 I64])] }) [U32] [I64] false x = ref02_Count_t x := fun x => by kernel_rfl
theorem ref02_Count_m : Meets Tryz.prog V 60 (spP [U32] [I64] ref02_Count_t) := meets_part ref02_Count_l stays hmix (hs := { loops := [(0, [.slot 3 I64, .slot 4 I64])] }) (fnOK Tryz.func60 (by kernel_rfl) (by kernel_rfl) (by kernel_rfl)) false ref02_Count_d
def ref05_phases_L : List (Nat × FSpec) := [(36, (spT [I64, I64, I64] [Bo] ref05_in)), (58, (spT [U32, I64] [Bo] ref02_Has)), (59, (spT [U32, I64] [U32] ref02_With)), (57, (spP [SSite, I64, I64] [Bo] ref05_Apart_t)), (60, (spP [U32] [I64] ref02_Count_t))]
theorem ref05_phases_l : AllMeet Tryz.prog V ref05_phases_L := (.cons ref05_in_m (.cons ref02_Has_m (.cons ref02_With_m (.cons ref05_Apart_m (.cons ref02_Count_m .nil)))))
set_option maxRecDepth 100000 in
theorem ref05_phases_d : ∀ x : PSSite, denote (mkC Tryz.prog V ref05_phases_L) 1 (inlOf Tryz.f35 { loops := [(0, [.slot 3 U32, .slot 4 I64]), (2, [.slot 3 U32, .slot 6 I64, .slot 7 I64]), (4, [.slot 8 I64])] }) [SSite] [Bo] false x = ref05_phases_t x := fun x => by kernel_rfl
theorem ref05_phases_m : Meets Tryz.prog V 35 (spP [SSite] [Bo] ref05_phases_t) := meets_part ref05_phases_l stays hmix (hs := { loops := [(0, [.slot 3 U32, .slot 4 I64]), (2, [.slot 3 U32, .slot 6 I64, .slot 7 I64]), (4, [.slot 8 I64])] }) (fnOK Tryz.func35 (by kernel_rfl) (by kernel_rfl) (by kernel_rfl)) false ref05_phases_d
def ref05_Clear_L : List (Nat × FSpec) := [(58, (spT [U32, I64] [Bo] ref02_Has)), (57, (spP [SSite, I64, I64] [Bo] ref05_Apart_t))]
theorem ref05_Clear_l : AllMeet Tryz.prog V ref05_Clear_L := (.cons ref02_Has_m (.cons ref05_Apart_m .nil))
set_option maxRecDepth 100000 in
theorem ref05_Clear_d : ∀ x : PSSite × Int × Int, denote (mkC Tryz.prog V ref05_Clear_L) 1 (inlOf Tryz.f93 { loops := [(0, [.slot 7 I64, .slot 8 I64]), (2, [.slot 7 I64, .slot 9 I64])] }) [SSite, I64, I64] [I64] false x = ref05_Clear_t x := fun x => by kernel_rfl
theorem ref05_Clear_m : Meets Tryz.prog V 93 (spP [SSite, I64, I64] [I64] ref05_Clear_t) := meets_part ref05_Clear_l stays hmix (hs := { loops := [(0, [.slot 7 I64, .slot 8 I64]), (2, [.slot 7 I64, .slot 9 I64])] }) (fnOK Tryz.func93 (by kernel_rfl) (by kernel_rfl) (by kernel_rfl)) false ref05_Clear_d
def ref05_needs_L : List (Nat × FSpec) := [(93, (spP [SSite, I64, I64] [I64] ref05_Clear_t))]
theorem ref05_needs_l : AllMeet Tryz.prog V ref05_needs_L := (.cons ref05_Clear_m .nil)
set_option maxRecDepth 100000 in
theorem ref05_needs_d : ∀ x : PSSite × Int, denote (mkC Tryz.prog V ref05_needs_L) 1 (inlOf Tryz.f61 {}) [SSite, I64] [I64] false x = ref05_needs_t x := fun x => by kernel_rfl
theorem ref05_needs_m : Meets Tryz.prog V 61 (spP [SSite, I64] [I64] ref05_needs_t) := meets_part ref05_needs_l stays hmix (hs := {}) (fnOK Tryz.func61 (by kernel_rfl) (by kernel_rfl) (by kernel_rfl)) false ref05_needs_d
def ref05_Round_L : List (Nat × FSpec) := [(61, (spP [SSite, I64] [I64] ref05_needs_t))]
theorem ref05_Round_l : AllMeet Tryz.prog V ref05_Round_L := (.cons ref05_needs_m .nil)
set_option maxRecDepth 100000 in
theorem ref05_Round_d : ∀ x : PSSite, denote (mkC Tryz.prog V ref05_Round_L) 1 (inlOf Tryz.f37 { loops := [(0, [.slot 3 I64, .slot 4 I64])] }) [SSite] [I64] false x = ref05_Round_t x := fun x => by kernel_rfl
theorem ref05_Round_m : Meets Tryz.prog V 37 (spP [SSite] [I64] ref05_Round_t) := meets_part ref05_Round_l stays hmix (hs := { loops := [(0, [.slot 3 I64, .slot 4 I64])] }) (fnOK Tryz.func37 (by kernel_rfl) (by kernel_rfl) (by kernel_rfl)) false ref05_Round_d
def ref05_PlanMay_L : List (Nat × FSpec) := [(36, (spT [I64, I64, I64] [Bo] ref05_in)), (61, (spP [SSite, I64] [I64] ref05_needs_t))]
theorem ref05_PlanMay_l : AllMeet Tryz.prog V ref05_PlanMay_L := (.cons ref05_in_m (.cons ref05_needs_m .nil))
set_option maxRecDepth 100000 in
theorem ref05_PlanMay_d : ∀ x : PSSite × PSPlan, denote (mkC Tryz.prog V ref05_PlanMay_L) 1 (inlOf Tryz.f38 { loops := [(0, [.slot 5 I64, .slot 6 I64])] }) [SSite, SPlan] [Bo] false x = ref05_PlanMay_t x := fun x => by kernel_rfl
theorem ref05_PlanMay_m : Meets Tryz.prog V 38 (spP [SSite, SPlan] [Bo] ref05_PlanMay_t) := meets_part ref05_PlanMay_l stays hmix (hs := { loops := [(0, [.slot 5 I64, .slot 6 I64])] }) (fnOK Tryz.func38 (by kernel_rfl) (by kernel_rfl) (by kernel_rfl)) false ref05_PlanMay_d
def ref05_Check_L : List (Nat × FSpec) := [(34, (spP [SSite] [Bo] ref05_groups_t)), (35, (spP [SSite] [Bo] ref05_phases_t)), (36, (spT [I64, I64, I64] [Bo] ref05_in)), (37, (spP [SSite] [I64] ref05_Round_t)), (38, (spP [SSite, SPlan] [Bo] ref05_PlanMay_t))]
theorem ref05_Check_l : AllMeet Tryz.prog V ref05_Check_L := (.cons ref05_groups_m (.cons ref05_phases_m (.cons ref05_in_m (.cons ref05_Round_m (.cons ref05_PlanMay_m .nil)))))
set_option maxRecDepth 100000 in
theorem ref05_Check_d : ∀ x : PSSite, denote (mkC Tryz.prog V ref05_Check_L) 1 (inlOf Tryz.f16 { loops := [(0, [.slot 3 I64]), (2, [.slot 5 I64])] }) [SSite] [I64] false x = ref05_Check_t x := fun x => by kernel_rfl
theorem ref05_Check_m : Meets Tryz.prog V 16 (spP [SSite] [I64] ref05_Check_t) := meets_part ref05_Check_l stays hmix (hs := { loops := [(0, [.slot 3 I64]), (2, [.slot 5 I64])] }) (fnOK Tryz.func16 (by kernel_rfl) (by kernel_rfl) (by kernel_rfl)) false ref05_Check_d
def ref08_Apart_L : List (Nat × FSpec) := []
theorem ref08_Apart_l : AllMeet Tryz.prog V ref08_Apart_L := .nil
set_option maxRecDepth 100000 in
theorem ref08_Apart_d : ∀ x : PSSite × Int × Int, denote (mkC Tryz.prog V ref08_Apart_L) 1 (inlOf Tryz.f55 {}) [SSite, I64, I64] [Bo] false x = ref08_Apart_t x := fun x => by kernel_rfl
theorem ref08_Apart_m : Meets Tryz.prog V 55 (spP [SSite, I64, I64] [Bo] ref08_Apart_t) := meets_part ref08_Apart_l stays hmix (hs := {}) (fnOK Tryz.func55 (by kernel_rfl) (by kernel_rfl) (by kernel_rfl)) false ref08_Apart_d
def ref08_Between_L : List (Nat × FSpec) := []
theorem ref08_Between_l : AllMeet Tryz.prog V ref08_Between_L := .nil
set_option maxRecDepth 100000 in
theorem ref08_Between_d : ∀ x : PSSite × Int × Int, denote (mkC Tryz.prog V ref08_Between_L) 1 (inlOf Tryz.f56 {}) [SSite, I64, I64] [I64] false x = ref08_Between_t x := fun x => by kernel_rfl
theorem ref08_Between_m : Meets Tryz.prog V 56 (spP [SSite, I64, I64] [I64] ref08_Between_t) := meets_part ref08_Between_l stays hmix (hs := {}) (fnOK Tryz.func56 (by kernel_rfl) (by kernel_rfl) (by kernel_rfl)) false ref08_Between_d
def ref08_Great_L : List (Nat × FSpec) := [(55, (spP [SSite, I64, I64] [Bo] ref08_Apart_t)), (56, (spP [SSite, I64, I64] [I64] ref08_Between_t))]
theorem ref08_Great_l : AllMeet Tryz.prog V ref08_Great_L := (.cons ref08_Apart_m (.cons ref08_Between_m .nil))
set_option maxRecDepth 100000 in
theorem ref08_Great_d : ∀ x : PSSite, denote (mkC Tryz.prog V ref08_Great_L) 1 (inlOf Tryz.f39 { loops := [(0, [.slot 3 I64, .slot 4 I64]), (2, [.slot 3 I64, .slot 5 I64])] }) [SSite] [I64] false x = ref08_Great_t x := fun x => by kernel_rfl
theorem ref08_Great_m : Meets Tryz.prog V 39 (spP [SSite] [I64] ref08_Great_t) := meets_part ref08_Great_l stays hmix (hs := { loops := [(0, [.slot 3 I64, .slot 4 I64]), (2, [.slot 3 I64, .slot 5 I64])] }) (fnOK Tryz.func39 (by kernel_rfl) (by kernel_rfl) (by kernel_rfl)) false ref08_Great_d
def ref15_Turn_L : List (Nat × FSpec) := [(39, (spP [SSite] [I64] ref08_Great_t))]
theorem ref15_Turn_l : AllMeet Tryz.prog V ref15_Turn_L := (.cons ref08_Great_m .nil)
set_option maxRecDepth 100000 in
theorem ref15_Turn_d : ∀ x : PSSite, denote (mkC Tryz.prog V ref15_Turn_L) 1 (inlOf Tryz.f17 { loops := [(0, [.slot 3 I64, .slot 4 I64, .slot 5 I64])] }) [SSite] [I64] false x = ref15_Turn_t x := fun x => by kernel_rfl
theorem ref15_Turn_m : Meets Tryz.prog V 17 (spP [SSite] [I64] ref15_Turn_t) := meets_part ref15_Turn_l stays hmix (hs := { loops := [(0, [.slot 3 I64, .slot 4 I64, .slot 5 I64])] }) (fnOK Tryz.func17 (by kernel_rfl) (by kernel_rfl) (by kernel_rfl)) false ref15_Turn_d
def law15_far_L : List (Nat × FSpec) := [(16, (spP [SSite] [I64] ref05_Check_t)), (17, (spP [SSite] [I64] ref15_Turn_t))]
theorem law15_far_l : AllMeet Tryz.prog V law15_far_L := (.cons ref05_Check_m (.cons ref15_Turn_m .nil))
set_option maxRecDepth 100000 in
theorem law15_far_d : ∀ x : PSSite × PSSafe, denote (mkC Tryz.prog V law15_far_L) 1 (inlOf Tryz.f5 {}) [SSite, SSafe] [Bo] false x = law15_far_t x := fun x => by kernel_rfl
theorem law15_far_m : Meets Tryz.prog V 5 (spP [SSite, SSafe] [Bo] law15_far_t) := meets_part law15_far_l stays hmix (hs := {}) (fnOK Tryz.func5 (by kernel_rfl) (by kernel_rfl) (by kernel_rfl)) false law15_far_d
def ref08_Twin_L : List (Nat × FSpec) := []
theorem ref08_Twin_l : AllMeet Tryz.prog V ref08_Twin_L := .nil
set_option maxRecDepth 100000 in
theorem ref08_Twin_d : ∀ x : PSSafe, denote (mkC Tryz.prog V ref08_Twin_L) 1 (inlOf Tryz.f6 {}) [SSafe] [SSafe] false x = ref08_Twin_t x := fun x => by kernel_rfl
theorem ref08_Twin_m : Meets Tryz.prog V 6 (spP [SSafe] [SSafe] ref08_Twin_t) := meets_part ref08_Twin_l stays hmix (hs := {}) (fnOK Tryz.func6 (by kernel_rfl) (by kernel_rfl) (by kernel_rfl)) false ref08_Twin_d
def turn_wants_L : List (Nat × FSpec) := []
theorem turn_wants_l : AllMeet Tryz.prog V turn_wants_L := .nil
set_option maxRecDepth 100000 in
theorem turn_wants_d : ∀ x : PSSite × Int × Int, denote (mkC Tryz.prog V turn_wants_L) 1 (inlOf Tryz.f41 {}) [SSite, I64, I64] [Bo] false x = turn_wants_t x := fun x => by kernel_rfl
theorem turn_wants_m : Meets Tryz.prog V 41 (spP [SSite, I64, I64] [Bo] turn_wants_t) := meets_part turn_wants_l stays hmix (hs := {}) (fnOK Tryz.func41 (by kernel_rfl) (by kernel_rfl) (by kernel_rfl)) false turn_wants_d
def turn_asks_L : List (Nat × FSpec) := [(41, (spP [SSite, I64, I64] [Bo] turn_wants_t))]
theorem turn_asks_l : AllMeet Tryz.prog V turn_asks_L := (.cons turn_wants_m .nil)
set_option maxRecDepth 100000 in
theorem turn_asks_d : ∀ x : PSSite × Int, denote (mkC Tryz.prog V turn_asks_L) 1 (inlOf Tryz.f20 { loops := [(0, [.slot 13 I64, .arr 10 U8])] }) [SSite, I64] [U8s] false x = turn_asks_t x := fun x => by kernel_rfl
theorem turn_asks_m : Meets Tryz.prog V 20 (spP [SSite, I64] [U8s] turn_asks_t) := meets_part turn_asks_l stays hmix (hs := { loops := [(0, [.slot 13 I64, .arr 10 U8])] }) (fnOK Tryz.func20 (by kernel_rfl) (by kernel_rfl) (by kernel_rfl)) false turn_asks_d
def site_in_L : List (Nat × FSpec) := []
theorem site_in_l : AllMeet Tryz.prog V site_in_L := .nil
set_option maxRecDepth 100000 in
theorem site_in_d : ∀ x : Int × Int × Int, denote (mkC Tryz.prog V site_in_L) 1 (inlOf Tryz.f62 {}) [I64, I64, I64] [Bo] false x = site_in_t x := fun x => by kernel_rfl
theorem site_in_m : Meets Tryz.prog V 62 (spT [I64, I64, I64] [Bo] site_in) := meets_tot site_in_l stays hmix (hs := {}) (fnOK Tryz.func62 (by kernel_rfl) (by kernel_rfl) (by kernel_rfl)) false fun x => (site_in_d x).trans (site_in_e x)
def site_shape_L : List (Nat × FSpec) := [(62, (spT [I64, I64, I64] [Bo] site_in))]
theorem site_shape_l : AllMeet Tryz.prog V site_shape_L := (.cons site_in_m .nil)
set_option maxRecDepth 100000 in
theorem site_shape_d : ∀ x : PSSite, denote (mkC Tryz.prog V site_shape_L) 1 (inlOf Tryz.f63 { loops := [(0, [.slot 48 I64])] }) [SSite] [Bo] false x = site_shape_t x := fun x => by kernel_rfl
theorem site_shape_m : Meets Tryz.prog V 63 (spP [SSite] [Bo] site_shape_t) := meets_part site_shape_l stays hmix (hs := { loops := [(0, [.slot 48 I64])] }) (fnOK Tryz.func63 (by kernel_rfl) (by kernel_rfl) (by kernel_rfl)) false site_shape_d
def site_ticks_L : List (Nat × FSpec) := [(62, (spT [I64, I64, I64] [Bo] site_in))]
theorem site_ticks_l : AllMeet Tryz.prog V site_ticks_L := (.cons site_in_m .nil)
set_option maxRecDepth 100000 in
theorem site_ticks_d : ∀ x : List Int, denote (mkC Tryz.prog V site_ticks_L) 1 (inlOf Tryz.f94 { loops := [(0, [.slot 7 I64])] }) [I64s] [Bo] false x = site_ticks_t x := fun x => by kernel_rfl
theorem site_ticks_m : Meets Tryz.prog V 94 (spT [I64s] [Bo] site_ticks) := meets_up (meets_part site_ticks_l stays hmix (hs := { loops := [(0, [.slot 7 I64])] }) (fnOK Tryz.func94 (by kernel_rfl) (by kernel_rfl) (by kernel_rfl)) false site_ticks_d) site_ticks_e
def ring_bit_L : List (Nat × FSpec) := []
theorem ring_bit_l : AllMeet Tryz.prog V ring_bit_L := .nil
set_option maxRecDepth 100000 in
theorem ring_bit_d : ∀ x : Int, denote (mkC Tryz.prog V ring_bit_L) 1 (inlOf Tryz.f110 {}) [I64] [U32] false x = ring_bit_t x := fun x => by kernel_rfl
theorem ring_bit_m : Meets Tryz.prog V 110 (spT [I64] [U32] ring_bit) := meets_up (meets_part ring_bit_l stays hmix (hs := {}) (fnOK Tryz.func110 (by kernel_rfl) (by kernel_rfl) (by kernel_rfl)) false ring_bit_d) ring_bit_e
def ring_Has_L : List (Nat × FSpec) := [(110, (spT [I64] [U32] ring_bit))]
theorem ring_Has_l : AllMeet Tryz.prog V ring_Has_L := (.cons ring_bit_m .nil)
set_option maxRecDepth 100000 in
theorem ring_Has_d : ∀ x : Int × Int, denote (mkC Tryz.prog V ring_Has_L) 1 (inlOf Tryz.f95 {}) [U32, I64] [Bo] false x = ring_Has_t x := fun x => by kernel_rfl
theorem ring_Has_m : Meets Tryz.prog V 95 (spT [U32, I64] [Bo] ring_Has) := meets_tot ring_Has_l stays hmix (hs := {}) (fnOK Tryz.func95 (by kernel_rfl) (by kernel_rfl) (by kernel_rfl)) false fun x => (ring_Has_d x).trans (ring_Has_e x)
def site_apart_L : List (Nat × FSpec) := [(94, (spT [I64s] [Bo] site_ticks)), (95, (spT [U32, I64] [Bo] ring_Has)), (62, (spT [I64, I64, I64] [Bo] site_in))]
theorem site_apart_l : AllMeet Tryz.prog V site_apart_L := (.cons site_ticks_m (.cons ring_Has_m (.cons site_in_m .nil)))
set_option maxRecDepth 100000 in
theorem site_apart_d : ∀ x : PSSite, denote (mkC Tryz.prog V site_apart_L) 1 (inlOf Tryz.f64 { loops := [(0, [.slot 11 I64]), (2, [.slot 39 I64])] }) [SSite] [Bo] false x = site_apart_t x := fun x => by kernel_rfl
theorem site_apart_m : Meets Tryz.prog V 64 (spP [SSite] [Bo] site_apart_t) := meets_part site_apart_l stays hmix (hs := { loops := [(0, [.slot 11 I64]), (2, [.slot 39 I64])] }) (fnOK Tryz.func64 (by kernel_rfl) (by kernel_rfl) (by kernel_rfl)) false site_apart_d
def ring_Least_L : List (Nat × FSpec) := [(111, (spT [U32] [I64] bits_TrailingZeros32))]
theorem ring_Least_l : AllMeet Tryz.prog V ring_Least_L := (.cons bits_TrailingZeros32_m .nil)
set_option maxRecDepth 100000 in
theorem ring_Least_d : ∀ x : Int, denote (mkC Tryz.prog V ring_Least_L) 1 (inlOf Tryz.f96 {}) [U32] [I64] false x = ring_Least_t x := fun x => by kernel_rfl
theorem ring_Least_m : Meets Tryz.prog V 96 (spT [U32] [I64] ring_Least) := meets_tot ring_Least_l stays hmix (hs := {}) (fnOK Tryz.func96 (by kernel_rfl) (by kernel_rfl) (by kernel_rfl)) false fun x => (ring_Least_d x).trans (ring_Least_e x)
def ring_Without_L : List (Nat × FSpec) := [(110, (spT [I64] [U32] ring_bit))]
theorem ring_Without_l : AllMeet Tryz.prog V ring_Without_L := (.cons ring_bit_m .nil)
set_option maxRecDepth 100000 in
theorem ring_Without_d : ∀ x : Int × Int, denote (mkC Tryz.prog V ring_Without_L) 1 (inlOf Tryz.f97 {}) [U32, I64] [U32] false x = ring_Without_t x := fun x => by kernel_rfl
theorem ring_Without_m : Meets Tryz.prog V 97 (spT [U32, I64] [U32] ring_Without) := meets_tot ring_Without_l stays hmix (hs := {}) (fnOK Tryz.func97 (by kernel_rfl) (by kernel_rfl) (by kernel_rfl)) false fun x => (ring_Without_d x).trans (ring_Without_e x)
theorem bits_OnesCount32_d : ∀ x : Int, denote (mkC Tryz.prog V []) 1 (inlOf Tryz.f112 {}) [U32] [I64] false x = ocTree x := fun x => by kernel_rfl
theorem bits_OnesCount32_m : Meets Tryz.prog V 112 (spT [U32] [I64] bits_OnesCount32) := meets_up (meets_part .nil stays hmix (hs := {}) (fnOK Tryz.func112 (by kernel_rfl) (by kernel_rfl) (by kernel_rfl)) false bits_OnesCount32_d) (fun x hf => ocTree_eq (fits_u32 hf))

def ring_Count_L : List (Nat × FSpec) := [(112, (spT [U32] [I64] bits_OnesCount32))]
theorem ring_Count_l : AllMeet Tryz.prog V ring_Count_L := (.cons bits_OnesCount32_m .nil)
set_option maxRecDepth 100000 in
theorem ring_Count_d : ∀ x : Int, denote (mkC Tryz.prog V ring_Count_L) 1 (inlOf Tryz.f98 {}) [U32] [I64] false x = ring_Count_t x := fun x => by kernel_rfl
theorem ring_Count_m : Meets Tryz.prog V 98 (spT [U32] [I64] ring_Count) := meets_tot ring_Count_l stays hmix (hs := {}) (fnOK Tryz.func98 (by kernel_rfl) (by kernel_rfl) (by kernel_rfl)) false fun x => (ring_Count_d x).trans (ring_Count_e x)
def site_phased_L : List (Nat × FSpec) := [(94, (spT [I64s] [Bo] site_ticks)), (96, (spT [U32] [I64] ring_Least)), (97, (spT [U32, I64] [U32] ring_Without)), (98, (spT [U32] [I64] ring_Count))]
theorem site_phased_l : AllMeet Tryz.prog V site_phased_L := (.cons site_ticks_m (.cons ring_Least_m (.cons ring_Without_m (.cons ring_Count_m .nil))))
set_option maxRecDepth 100000 in
theorem site_phased_d : ∀ x : PSSite, denote (mkC Tryz.prog V site_phased_L) 1 (inlOf Tryz.f65 { loops := [(0, [.slot 3 U32, .slot 11 I64]), (2, [.slot 6 U32])] }) [SSite] [Bo] false x = site_phased_t x := fun x => by kernel_rfl
theorem site_phased_m : Meets Tryz.prog V 65 (spP [SSite] [Bo] site_phased_t) := meets_part site_phased_l stays hmix (hs := { loops := [(0, [.slot 3 U32, .slot 11 I64]), (2, [.slot 6 U32])] }) (fnOK Tryz.func65 (by kernel_rfl) (by kernel_rfl) (by kernel_rfl)) false site_phased_d
def site_eyed_L : List (Nat × FSpec) := [(62, (spT [I64, I64, I64] [Bo] site_in)), (94, (spT [I64s] [Bo] site_ticks))]
theorem site_eyed_l : AllMeet Tryz.prog V site_eyed_L := (.cons site_in_m (.cons site_ticks_m .nil))
set_option maxRecDepth 100000 in
theorem site_eyed_d : ∀ x : PSSite, denote (mkC Tryz.prog V site_eyed_L) 1 (inlOf Tryz.f66 { loops := [(0, [.slot 8 I64])] }) [SSite] [Bo] false x = site_eyed_t x := fun x => by kernel_rfl
theorem site_eyed_m : Meets Tryz.prog V 66 (spP [SSite] [Bo] site_eyed_t) := meets_part site_eyed_l stays hmix (hs := { loops := [(0, [.slot 8 I64])] }) (fnOK Tryz.func66 (by kernel_rfl) (by kernel_rfl) (by kernel_rfl)) false site_eyed_d
def site_clear_L : List (Nat × FSpec) := [(95, (spT [U32, I64] [Bo] ring_Has)), (96, (spT [U32] [I64] ring_Least)), (97, (spT [U32, I64] [U32] ring_Without))]
theorem site_clear_l : AllMeet Tryz.prog V site_clear_L := (.cons ring_Has_m (.cons ring_Least_m (.cons ring_Without_m .nil)))
set_option maxRecDepth 100000 in
theorem site_clear_d : ∀ x : PSSite × Int × Int, denote (mkC Tryz.prog V site_clear_L) 1 (inlOf Tryz.f113 { loops := [(0, [.slot 6 I64, .slot 13 I64]), (2, [.slot 6 I64, .slot 8 U32])] }) [SSite, I64, I64] [I64] false x = site_clear_t x := fun x => by kernel_rfl
theorem site_clear_m : Meets Tryz.prog V 113 (spP [SSite, I64, I64] [I64] site_clear_t) := meets_part site_clear_l stays hmix (hs := { loops := [(0, [.slot 6 I64, .slot 13 I64]), (2, [.slot 6 I64, .slot 8 U32])] }) (fnOK Tryz.func113 (by kernel_rfl) (by kernel_rfl) (by kernel_rfl)) false site_clear_d
def site_needs_L : List (Nat × FSpec) := [(113, (spP [SSite, I64, I64] [I64] site_clear_t))]
theorem site_needs_l : AllMeet Tryz.prog V site_needs_L := (.cons site_clear_m .nil)
set_option maxRecDepth 100000 in
theorem site_needs_d : ∀ x : PSSite × Int, denote (mkC Tryz.prog V site_needs_L) 1 (inlOf Tryz.f99 {}) [SSite, I64] [I64] false x = site_needs_t x := fun x => by kernel_rfl
theorem site_needs_m : Meets Tryz.prog V 99 (spP [SSite, I64] [I64] site_needs_t) := meets_part site_needs_l stays hmix (hs := {}) (fnOK Tryz.func99 (by kernel_rfl) (by kernel_rfl) (by kernel_rfl)) false site_needs_d
def site_timed_L : List (Nat × FSpec) := [(99, (spP [SSite, I64] [I64] site_needs_t)), (94, (spT [I64s] [Bo] site_ticks))]
theorem site_timed_l : AllMeet Tryz.prog V site_timed_L := (.cons site_needs_m (.cons site_ticks_m .nil))
set_option maxRecDepth 100000 in
theorem site_timed_d : ∀ x : PSSite, denote (mkC Tryz.prog V site_timed_L) 1 (inlOf Tryz.f67 { loops := [(0, [.slot 3 I64, .slot 8 I64])] }) [SSite] [Bo] false x = site_timed_t x := fun x => by kernel_rfl
theorem site_timed_m : Meets Tryz.prog V 67 (spP [SSite] [Bo] site_timed_t) := meets_part site_timed_l stays hmix (hs := { loops := [(0, [.slot 3 I64, .slot 8 I64])] }) (fnOK Tryz.func67 (by kernel_rfl) (by kernel_rfl) (by kernel_rfl)) false site_timed_d
def site_fits_L : List (Nat × FSpec) := [(62, (spT [I64, I64, I64] [Bo] site_in)), (99, (spP [SSite, I64] [I64] site_needs_t))]
theorem site_fits_l : AllMeet Tryz.prog V site_fits_L := (.cons site_in_m (.cons site_needs_m .nil))
set_option maxRecDepth 100000 in
theorem site_fits_d : ∀ x : PSSite × PSPlan, denote (mkC Tryz.prog V site_fits_L) 1 (inlOf Tryz.f100 { loops := [(0, [.slot 5 I64, .slot 39 I64])] }) [SSite, SPlan] [Bo] false x = site_fits_t x := fun x => by kernel_rfl
theorem site_fits_m : Meets Tryz.prog V 100 (spP [SSite, SPlan] [Bo] site_fits_t) := meets_part site_fits_l stays hmix (hs := { loops := [(0, [.slot 5 I64, .slot 39 I64])] }) (fnOK Tryz.func100 (by kernel_rfl) (by kernel_rfl) (by kernel_rfl)) false site_fits_d
def site_planned_L : List (Nat × FSpec) := [(100, (spP [SSite, SPlan] [Bo] site_fits_t))]
theorem site_planned_l : AllMeet Tryz.prog V site_planned_L := (.cons site_fits_m .nil)
set_option maxRecDepth 100000 in
theorem site_planned_d : ∀ x : PSSite, denote (mkC Tryz.prog V site_planned_L) 1 (inlOf Tryz.f68 { loops := [(0, [.slot 8 I64])] }) [SSite] [Bo] false x = site_planned_t x := fun x => by kernel_rfl
theorem site_planned_m : Meets Tryz.prog V 68 (spP [SSite] [Bo] site_planned_t) := meets_part site_planned_l stays hmix (hs := { loops := [(0, [.slot 8 I64])] }) (fnOK Tryz.func68 (by kernel_rfl) (by kernel_rfl) (by kernel_rfl)) false site_planned_d
def site_Check_L : List (Nat × FSpec) := [(62, (spT [I64, I64, I64] [Bo] site_in)), (63, (spP [SSite] [Bo] site_shape_t)), (64, (spP [SSite] [Bo] site_apart_t)), (65, (spP [SSite] [Bo] site_phased_t)), (66, (spP [SSite] [Bo] site_eyed_t)), (67, (spP [SSite] [Bo] site_timed_t)), (68, (spP [SSite] [Bo] site_planned_t))]
theorem site_Check_l : AllMeet Tryz.prog V site_Check_L := (.cons site_in_m (.cons site_shape_m (.cons site_apart_m (.cons site_phased_m (.cons site_eyed_m (.cons site_timed_m (.cons site_planned_m .nil)))))))
set_option maxRecDepth 100000 in
theorem site_Check_d : ∀ x : PSSite, denote (mkC Tryz.prog V site_Check_L) 1 (inlOf Tryz.f40 { loops := [(0, [.slot 3 Bo, .slot 5 I64])] }) [SSite] [I64] false x = site_Check_t x := fun x => by kernel_rfl
theorem site_Check_m : Meets Tryz.prog V 40 (spP [SSite] [I64] site_Check_t) := meets_part site_Check_l stays hmix (hs := { loops := [(0, [.slot 3 Bo, .slot 5 I64])] }) (fnOK Tryz.func40 (by kernel_rfl) (by kernel_rfl) (by kernel_rfl)) false site_Check_d
def turn_Asks_L : List (Nat × FSpec) := [(20, (spP [SSite, I64] [U8s] turn_asks_t)), (40, (spP [SSite] [I64] site_Check_t))]
theorem turn_Asks_l : AllMeet Tryz.prog V turn_Asks_L := (.cons turn_asks_m (.cons site_Check_m .nil))
noncomputable def turn_Asks_I : List (Nat × Inl) := [(18, inlOf Tryz.f18 {}), (19, inlOf Tryz.f19 {})]
theorem turn_Asks_i : AllOK Tryz.prog turn_Asks_I := (.cons (fnOK Tryz.func18 (by kernel_rfl) (by kernel_rfl) (by kernel_rfl)) (.cons (fnOK Tryz.func19 (by kernel_rfl) (by kernel_rfl) (by kernel_rfl)) .nil))
set_option maxRecDepth 100000 in
theorem turn_Asks_d : ∀ x : PSSite × Int, denote (mkC Tryz.prog V turn_Asks_L turn_Asks_I) 3 (inlOf Tryz.f7 { joins := [(2, [])], outs := [(2, [(6, I64)])] }) [SSite, I64] [U8s, I64] false x = turn_Asks_t x := fun x => by kernel_rfl
theorem turn_Asks_m : Meets Tryz.prog V 7 (spP [SSite, I64] [U8s, I64] turn_Asks_t) := meets_part_il turn_Asks_l stays hmix turn_Asks_i (hs := { joins := [(2, [])], outs := [(2, [(6, I64)])] }) (fnOK Tryz.func7 (by kernel_rfl) (by kernel_rfl) (by kernel_rfl)) false 3 turn_Asks_d
def ref15_In_L : List (Nat × FSpec) := []
theorem ref15_In_l : AllMeet Tryz.prog V ref15_In_L := .nil
set_option maxRecDepth 100000 in
theorem ref15_In_d : ∀ x : PSSite × Int × Int, denote (mkC Tryz.prog V ref15_In_L) 1 (inlOf Tryz.f42 {}) [SSite, I64, I64] [Bo] false x = ref15_In_t x := fun x => by kernel_rfl
theorem ref15_In_m : Meets Tryz.prog V 42 (spP [SSite, I64, I64] [Bo] ref15_In_t) := meets_part ref15_In_l stays hmix (hs := {}) (fnOK Tryz.func42 (by kernel_rfl) (by kernel_rfl) (by kernel_rfl)) false ref15_In_d
def ref15_Wants_L : List (Nat × FSpec) := [(42, (spP [SSite, I64, I64] [Bo] ref15_In_t))]
theorem ref15_Wants_l : AllMeet Tryz.prog V ref15_Wants_L := (.cons ref15_In_m .nil)
set_option maxRecDepth 100000 in
theorem ref15_Wants_d : ∀ x : PSSite × Int, denote (mkC Tryz.prog V ref15_Wants_L) 1 (inlOf Tryz.f21 { loops := [(0, [.own 5 U8, .slot 6 I64])] }) [SSite, I64] [U8s] false x = ref15_Wants_t x := fun x => by kernel_rfl
theorem ref15_Wants_m : Meets Tryz.prog V 21 (spP [SSite, I64] [U8s] ref15_Wants_t) := meets_part ref15_Wants_l stays hmix (hs := { loops := [(0, [.own 5 U8, .slot 6 I64])] }) (fnOK Tryz.func21 (by kernel_rfl) (by kernel_rfl) (by kernel_rfl)) false ref15_Wants_d
def ref15_Asks_L : List (Nat × FSpec) := [(16, (spP [SSite] [I64] ref05_Check_t)), (21, (spP [SSite, I64] [U8s] ref15_Wants_t))]
theorem ref15_Asks_l : AllMeet Tryz.prog V ref15_Asks_L := (.cons ref05_Check_m (.cons ref15_Wants_m .nil))
set_option maxRecDepth 100000 in
theorem ref15_Asks_d : ∀ x : PSSite × Int, denote (mkC Tryz.prog V ref15_Asks_L) 1 (inlOf Tryz.f8 {}) [SSite, I64] [U8s, I64] false x = ref15_Asks_t x := fun x => by kernel_rfl
theorem ref15_Asks_m : Meets Tryz.prog V 8 (spP [SSite, I64] [U8s, I64] ref15_Asks_t) := meets_part ref15_Asks_l stays hmix (hs := {}) (fnOK Tryz.func8 (by kernel_rfl) (by kernel_rfl) (by kernel_rfl)) false ref15_Asks_d
def turn_full_L : List (Nat × FSpec) := [(41, (spP [SSite, I64, I64] [Bo] turn_wants_t))]
theorem turn_full_l : AllMeet Tryz.prog V turn_full_L := (.cons turn_wants_m .nil)
set_option maxRecDepth 100000 in
theorem turn_full_d : ∀ x : PSSite × PSSafe × Int, denote (mkC Tryz.prog V turn_full_L) 1 (inlOf Tryz.f23 { loops := [(0, [.slot 12 I64])] }) [SSite, SSafe, I64] [Bo] false x = turn_full_t x := fun x => by kernel_rfl
theorem turn_full_m : Meets Tryz.prog V 23 (spP [SSite, SSafe, I64] [Bo] turn_full_t) := meets_part turn_full_l stays hmix (hs := { loops := [(0, [.slot 12 I64])] }) (fnOK Tryz.func23 (by kernel_rfl) (by kernel_rfl) (by kernel_rfl)) false turn_full_d
def turn_Full_L : List (Nat × FSpec) := [(23, (spP [SSite, SSafe, I64] [Bo] turn_full_t)), (40, (spP [SSite] [I64] site_Check_t))]
theorem turn_Full_l : AllMeet Tryz.prog V turn_Full_L := (.cons turn_full_m (.cons site_Check_m .nil))
noncomputable def turn_Full_I : List (Nat × Inl) := [(18, inlOf Tryz.f18 {}), (22, inlOf Tryz.f22 {})]
theorem turn_Full_i : AllOK Tryz.prog turn_Full_I := (.cons (fnOK Tryz.func18 (by kernel_rfl) (by kernel_rfl) (by kernel_rfl)) (.cons (fnOK Tryz.func22 (by kernel_rfl) (by kernel_rfl) (by kernel_rfl)) .nil))
set_option maxRecDepth 100000 in
theorem turn_Full_d : ∀ x : PSSite × PSSafe × Int, denote (mkC Tryz.prog V turn_Full_L turn_Full_I) 3 (inlOf Tryz.f9 { joins := [(2, [])], outs := [(2, [(8, I64)])] }) [SSite, SSafe, I64] [Bo, I64] false x = turn_Full_t x := fun x => by kernel_rfl
theorem turn_Full_m : Meets Tryz.prog V 9 (spP [SSite, SSafe, I64] [Bo, I64] turn_Full_t) := meets_part_il turn_Full_l stays hmix turn_Full_i (hs := { joins := [(2, [])], outs := [(2, [(8, I64)])] }) (fnOK Tryz.func9 (by kernel_rfl) (by kernel_rfl) (by kernel_rfl)) false 3 turn_Full_d
def ref15_Whole_L : List (Nat × FSpec) := [(42, (spP [SSite, I64, I64] [Bo] ref15_In_t))]
theorem ref15_Whole_l : AllMeet Tryz.prog V ref15_Whole_L := (.cons ref15_In_m .nil)
set_option maxRecDepth 100000 in
theorem ref15_Whole_d : ∀ x : PSSite × PSSafe × Int, denote (mkC Tryz.prog V ref15_Whole_L) 1 (inlOf Tryz.f24 { loops := [(0, [.slot 7 I64])] }) [SSite, SSafe, I64] [Bo] false x = ref15_Whole_t x := fun x => by kernel_rfl
theorem ref15_Whole_m : Meets Tryz.prog V 24 (spP [SSite, SSafe, I64] [Bo] ref15_Whole_t) := meets_part ref15_Whole_l stays hmix (hs := { loops := [(0, [.slot 7 I64])] }) (fnOK Tryz.func24 (by kernel_rfl) (by kernel_rfl) (by kernel_rfl)) false ref15_Whole_d
def ref15_Full_L : List (Nat × FSpec) := [(16, (spP [SSite] [I64] ref05_Check_t)), (24, (spP [SSite, SSafe, I64] [Bo] ref15_Whole_t))]
theorem ref15_Full_l : AllMeet Tryz.prog V ref15_Full_L := (.cons ref05_Check_m (.cons ref15_Whole_m .nil))
set_option maxRecDepth 100000 in
theorem ref15_Full_d : ∀ x : PSSite × PSSafe × Int, denote (mkC Tryz.prog V ref15_Full_L) 1 (inlOf Tryz.f10 {}) [SSite, SSafe, I64] [Bo, I64] false x = ref15_Full_t x := fun x => by kernel_rfl
theorem ref15_Full_m : Meets Tryz.prog V 10 (spP [SSite, SSafe, I64] [Bo, I64] ref15_Full_t) := meets_part ref15_Full_l stays hmix (hs := {}) (fnOK Tryz.func10 (by kernel_rfl) (by kernel_rfl) (by kernel_rfl)) false ref15_Full_d
def safe_apart_L : List (Nat × FSpec) := []
theorem safe_apart_l : AllMeet Tryz.prog V safe_apart_L := .nil
set_option maxRecDepth 100000 in
theorem safe_apart_d : ∀ x : PSSite × Int × Int, denote (mkC Tryz.prog V safe_apart_L) 1 (inlOf Tryz.f69 {}) [SSite, I64, I64] [Bo] false x = safe_apart_t x := fun x => by kernel_rfl
theorem safe_apart_m : Meets Tryz.prog V 69 (spP [SSite, I64, I64] [Bo] safe_apart_t) := meets_part safe_apart_l stays hmix (hs := {}) (fnOK Tryz.func69 (by kernel_rfl) (by kernel_rfl) (by kernel_rfl)) false safe_apart_d
def safe_between_L : List (Nat × FSpec) := []
theorem safe_between_l : AllMeet Tryz.prog V safe_between_L := .nil
set_option maxRecDepth 100000 in
theorem safe_between_d : ∀ x : PSSite × Int × Int, denote (mkC Tryz.prog V safe_between_L) 1 (inlOf Tryz.f70 {}) [SSite, I64, I64] [I64] false x = safe_between_t x := fun x => by kernel_rfl
theorem safe_between_m : Meets Tryz.prog V 70 (spP [SSite, I64, I64] [I64] safe_between_t) := meets_part safe_between_l stays hmix (hs := {}) (fnOK Tryz.func70 (by kernel_rfl) (by kernel_rfl) (by kernel_rfl)) false safe_between_d
def safe_greatest_L : List (Nat × FSpec) := [(69, (spP [SSite, I64, I64] [Bo] safe_apart_t)), (70, (spP [SSite, I64, I64] [I64] safe_between_t))]
theorem safe_greatest_l : AllMeet Tryz.prog V safe_greatest_L := (.cons safe_apart_m (.cons safe_between_m .nil))
set_option maxRecDepth 100000 in
theorem safe_greatest_d : ∀ x : PSSite, denote (mkC Tryz.prog V safe_greatest_L) 1 (inlOf Tryz.f43 { loops := [(0, [.slot 3 I64, .slot 9 I64]), (2, [.slot 3 I64, .slot 15 I64])] }) [SSite] [I64] false x = safe_greatest_t x := fun x => by kernel_rfl
theorem safe_greatest_m : Meets Tryz.prog V 43 (spP [SSite] [I64] safe_greatest_t) := meets_part safe_greatest_l stays hmix (hs := { loops := [(0, [.slot 3 I64, .slot 9 I64]), (2, [.slot 3 I64, .slot 15 I64])] }) (fnOK Tryz.func43 (by kernel_rfl) (by kernel_rfl) (by kernel_rfl)) false safe_greatest_d
def safe_Greatest_L : List (Nat × FSpec) := [(40, (spP [SSite] [I64] site_Check_t)), (43, (spP [SSite] [I64] safe_greatest_t))]
theorem safe_Greatest_l : AllMeet Tryz.prog V safe_Greatest_L := (.cons site_Check_m (.cons safe_greatest_m .nil))
set_option maxRecDepth 100000 in
theorem safe_Greatest_d : ∀ x : PSSite, denote (mkC Tryz.prog V safe_Greatest_L) 1 (inlOf Tryz.f25 {}) [SSite] [I64, I64] false x = safe_Greatest_t x := fun x => by kernel_rfl
theorem safe_Greatest_m : Meets Tryz.prog V 25 (spP [SSite] [I64, I64] safe_Greatest_t) := meets_part safe_Greatest_l stays hmix (hs := {}) (fnOK Tryz.func25 (by kernel_rfl) (by kernel_rfl) (by kernel_rfl)) false safe_Greatest_d
def turn_Worst_L : List (Nat × FSpec) := [(25, (spP [SSite] [I64, I64] safe_Greatest_t))]
theorem turn_Worst_l : AllMeet Tryz.prog V turn_Worst_L := (.cons safe_Greatest_m .nil)
set_option maxRecDepth 100000 in
theorem turn_Worst_d : ∀ x : PSSite, denote (mkC Tryz.prog V turn_Worst_L) 1 (inlOf Tryz.f11 { loops := [(0, [.slot 6 I64, .slot 7 I64, .slot 21 I64])] }) [SSite] [I64, I64] false x = turn_Worst_t x := fun x => by kernel_rfl
theorem turn_Worst_m : Meets Tryz.prog V 11 (spP [SSite] [I64, I64] turn_Worst_t) := meets_part turn_Worst_l stays hmix (hs := { loops := [(0, [.slot 6 I64, .slot 7 I64, .slot 21 I64])] }) (fnOK Tryz.func11 (by kernel_rfl) (by kernel_rfl) (by kernel_rfl)) false turn_Worst_d
def ref15_Worst_L : List (Nat × FSpec) := [(16, (spP [SSite] [I64] ref05_Check_t)), (17, (spP [SSite] [I64] ref15_Turn_t))]
theorem ref15_Worst_l : AllMeet Tryz.prog V ref15_Worst_L := (.cons ref05_Check_m (.cons ref15_Turn_m .nil))
set_option maxRecDepth 100000 in
theorem ref15_Worst_d : ∀ x : PSSite, denote (mkC Tryz.prog V ref15_Worst_L) 1 (inlOf Tryz.f12 {}) [SSite] [I64, I64] false x = ref15_Worst_t x := fun x => by kernel_rfl
theorem ref15_Worst_m : Meets Tryz.prog V 12 (spP [SSite] [I64, I64] ref15_Worst_t) := meets_part ref15_Worst_l stays hmix (hs := {}) (fnOK Tryz.func12 (by kernel_rfl) (by kernel_rfl) (by kernel_rfl)) false ref15_Worst_d
theorem rep_masks (n : Nat) (hn : n ≤ 1000000) : bits .and .u64 (n : Int) 4294967295 = n := by
  have h := Mul64.maskN n (by omega)
  rw [h]; omega

theorem rep_mul64 (n : Nat) (hn : n ≤ 1000000) (w : World) : Calls Tryz.prog 72 #[.int .u64 1, .int .u64 n] w fun e w' => e = .returned (.tuple #[.int .u64 0, .int .u64 n]) ∧ w' = w := by
  have h1 := rep_masks 1 (by omega)
  have h0 := rep_masks 0 (by omega)
  have hm := rep_masks n hn
  have e1 : ((1 : Nat) : Int) = 1 := rfl
  have e0 : ((0 : Nat) : Int) = 0 := rfl
  rw [e1] at h1
  rw [e0] at h0
  have d1 : (1 : Int) / 4294967296 = 0 := by decide
  have d2 : (n : Int) / 4294967296 = 0 := by omega
  have wn : IntKind.u64.wrap (n : Int) = n := by rw [IntKind.wrap_u64]; omega
  go_enter Tryz.func72, Tryz.ntmps72
  go_wp2
  go_ret2
  exact ⟨rfl, rfl⟩

theorem rep_mul (n : Nat) (hn : n ≤ 1000000) (w : World) : Calls Tryz.prog 44 #[.int .u64 1, .int .u64 n] w fun e w' => e = .returned (.tuple #[.int .u64 0, .int .u64 n]) ∧ w' = w := by
  have c64 := rep_mul64 n hn w
  have e131 : ∀ args w, (callFunc 72 args).run Tryz.prog w = .ok (.enter 72 args) w := enters_of Tryz.func72 (by kernel_rfl) rfl
  go_enter Tryz.func44, Tryz.ntmps44
  go_wp2_with (go_at_fn 72; refine c64.mono ?_; rintro e w' ⟨rfl, hw⟩; rw [hw])
  go_ret2
  exact ⟨rfl, rfl⟩

def rep_row (n m : Nat) (v : Int) : List Value := List.replicate m (.int .u8 v) ++ List.replicate (n - m) (.int .u8 0)
theorem rep_row_len {n m : Nat} {v : Int} (h : m ≤ n) : (rep_row n m v).length = n := by simp [rep_row]; omega
theorem rep_row_grow {n m k : Nat} {v : Int} (h : m + k ≤ n) : (rep_row n m v).take m ++ List.replicate k (.int .u8 v) ++ (rep_row n m v).drop (m + k) = rep_row n (m + k) v := by
  unfold rep_row
  rw [List.take_append_of_le_length (by simp), List.take_of_length_le (by simp), List.drop_append, List.drop_of_length_le (by simp)]
  simp only [List.length_replicate, List.nil_append, List.drop_replicate, List.replicate_append_replicate]
  congr 2
  omega

theorem rep_made (n : Nat) : madeCells (Value.int .u8 0).cells n = (rep_row n 0 0).toArray := by
  apply Array.ext
  · simp [madeCells, rep_row]
  · intro j h1 h2
    simp [madeCells, rep_row, Value.cells, Nat.mod_one]

theorem rep_info5 : (Tryz.prog.info? 5).map (fun i => (i.zero, i.size, i.bytes)) = some (some (.int .u8 0), 1, 1) := by kernel_rfl
theorem rep_make (n : Nat) (hn : n ≤ 1000000) (w : World) : (Instr.makeSlice 36 (.int .i64 n) (.int .i64 n)).run Tryz.prog w = .ok (.slice (some ⟨w.heap.size, 0, none⟩) n n) (w.alloc (.cells (rep_row n 0 0).toArray 5)) := by
  obtain ⟨i, hi, hz, hs, hb⟩ := info_parts rep_info5
  have h := run_makeSlice (P := Tryz.prog) w 36 5 i (.int .u8 0) (by kernel_rfl) hi hz .i64 .i64 (n : Int) (n : Int) (by omega) (Int.le_refl _) (by rw [hs]; omega) (by rw [hb]; omega) (by omega)
  rw [h, hs, Int.toNat_natCast, Nat.mul_one, rep_made]

theorem rep_copy1 (n : Nat) (v : Int) (h1 : 1 ≤ n) (w : World) (p : Addr) (c : Nat) (hc : w.cell? p = some (.int .u8 v)) (g : Nat) (hg : w.heap[g]? = some (.cells (rep_row n 0 0).toArray 5 (0, 0))) (ty : TypeId) :
    (Builtin.copy_ #[36, 36] ty #[.slice (some ⟨g, 0, none⟩) n n, .slice (some p) 1 c]).run Tryz.prog w = .ok (.int .i64 1) (w.setRow g (rep_row n 1 v).toArray) := by
  have h := run_copy_row (P := Tryz.prog) w 36 36 ty 5 g 0 n n p 1 c (rep_row n 0 0).toArray 5 [.int .u8 v] (by kernel_rfl) (by kernel_rfl) hg (by show 1 = min 1 n; omega) (fun j x hx => by
    cases j with
    | zero => simp at hx; subst hx; rw [show p.add 0 = p by unfold Addr.add; split <;> simp_all]; exact hc
    | succ j => simp at hx) (by simp [rep_row]; omega) (by simp [Value.oneCell'])
  rw [h]
  have e := rep_row_grow (n := n) (m := 0) (k := 1) (v := v) (by omega)
  have e2 : (rep_row n 0 0) = (rep_row n 0 v) := by simp [rep_row]
  rw [List.toList_toArray, e2, Nat.zero_add, List.length_singleton]
  simp only [List.replicate_one, Nat.zero_add] at e
  rw [e]
  rfl

theorem rep_copy2 (n m : Nat) (v : Int) (h1 : m < n) (w : World) (g : Nat) (hg : w.heap[g]? = some (.cells (rep_row n m v).toArray 5 (0, 0))) (ty : TypeId) (c1 c2 : Nat) :
    (Builtin.copy_ #[36, 36] ty #[.slice (some ⟨g, m, none⟩) (n - m) c1, .slice (some ⟨g, 0, none⟩) m c2]).run Tryz.prog w = .ok (.int .i64 (min m (n - m) : Nat)) (w.setRow g (rep_row n (m + min m (n - m)) v).toArray) := by
  have hk : m + min m (n - m) ≤ n := by omega
  have h := run_copy_row (P := Tryz.prog) w 36 36 ty 5 g m (n - m) c1 ⟨g, 0, none⟩ m c2 (rep_row n m v).toArray 5 (List.replicate (min m (n - m)) (.int .u8 v)) (by kernel_rfl) (by kernel_rfl) hg (by rw [List.length_replicate]) (fun j x hx => by
    obtain ⟨hj, rfl⟩ := List.getElem?_eq_some_iff.1 hx
    rw [List.length_replicate] at hj
    have hjm : j < m := by omega
    have hcell : w.cell? ⟨g, j, none⟩ = some (.int .u8 v) := by
      simp only [World.cell?, hg]
      simp [rep_row, List.getElem?_append, hjm]
    rw [List.getElem_replicate, ← hcell]
    by_cases hj0 : j = 0 <;> simp [Addr.add, hj0]) (by simp only [List.length_replicate, List.size_toArray]; rw [rep_row_len (by omega)]; omega) (fun x hx => by rw [(List.mem_replicate.1 hx).2]; rfl)
  rw [h, List.toList_toArray, List.length_replicate, rep_row_grow hk]
  rfl

set_option maxHeartbeats 4000000 in
set_option maxRecDepth 100000 in
theorem rep_walk (n : Nat) (v : Int) (hn1 : 1 ≤ n) (hn : n ≤ 1000000) (w : World) (p : Addr) (c : Nat) (hc : w.cell? p = some (.int .u8 v)) : Calls Tryz.prog 27 #[.slice (some p) 1 c, .int .i64 n] w fun e w' => e = .returned (.slice (some ⟨w.heap.size, 0, none⟩) n n) ∧ Below w.heap.size w w' ∧ w'.heap[w.heap.size]? = some (.cells (rep_row n n v).toArray 5 (0, 0)) := by
  have c64 := rep_mul n hn w
  have hmk := rep_make n hn w
  have e131 : ∀ args w, (callFunc 44 args).run Tryz.prog w = .ok (.enter 44 args) w := enters_of Tryz.func44 (by kernel_rfl) rfl
  have hg1 : (w.alloc (.cells (rep_row n 0 0).toArray 5)).heap[w.heap.size]? = some (.cells (rep_row n 0 0).toArray 5 (0, 0)) := World.alloc_heap_new _ _
  have hcp := fun ty => rep_copy1 n v hn1 (w.alloc (.cells (rep_row n 0 0).toArray 5)) p c ((Below.refl _ w).alloc (Nat.le_refl _) _ |>.cell (World.block_lt_of_cell? w p hc) |>.trans hc) w.heap.size hg1 ty
  go_enter Tryz.func27, Tryz.ntmps27
  go_wp2_with (go_at_fn 44; refine c64.mono ?_; rintro e w' ⟨rfl, hw⟩; rw [hw])
  go_loopw [8] (fun i wr => ∃ m : Nat, 1 ≤ m ∧ m ≤ n ∧ i = .int .i64 m ∧ wr.heap[w.heap.size]? = some (.cells (rep_row n m v).toArray 5 (0, 0)) ∧ Below w.heap.size w wr) (fun i _ => n - (intOf i).toNat)
  case atStart => exact ⟨1, Nat.le_refl _, hn1, rfl, setRow_heap _ _ _ _ _ _ hg1, below_setRow ((Below.refl _ w).alloc (Nat.le_refl _) _) (Nat.le_refl _) _⟩
  case round =>
    obtain ⟨m, h0, h1, rfl, hg, hB⟩ := hrel
    have hcp2 := fun h ty => rep_copy2 n m v h wr w.heap.size hg ty
    go_wp2
    · have hlt : m < n := by assumption
      have hcp3 := rep_copy2 n m v hlt wr.drew w.heap.size hg 3 (n - m) n
      go_region
      go_wp2
      go_roundw
      case rel => exact ⟨m + min m (n - m), by omega, by omega, by simp, setRow_heap _ _ _ _ _ _ (show wr.drew.heap[w.heap.size]? = _ from hg), below_setRow (hB.drew) (Nat.le_refl _) _⟩
      case measure => simp [intOf]; omega
    · have hmn : m = n := by omega
      subst hmn
      go_ret
      exact ⟨rfl, hB, hg⟩
theorem rep_rows {w : World} {O : Nat → Prop} {v : Int} (hv : inR .u8 v = true) : ∀ n : Nat, RowOf (Reads w O U8) (List.replicate n v) (List.replicate n (Value.int .u8 v))
  | 0 => rfl
  | n + 1 => ⟨[.int .u8 v], List.replicate n (.int .u8 v), by rw [List.replicate_succ]; rfl, ⟨rfl, hv⟩, rep_rows hv n⟩
theorem rep_calls (w : World) (F : Nat → Prop) (vals : List Value) (l : List Int) (k : Int) (y : List Int) (hr : ReadArgs w F [Ty.slice U8, I64] (l, k) vals) (hy : slices_Repeat_t (l, k) = some y) :
  Calls Tryz.prog 27 vals.toArray w fun e w' => ∃ rs, e = .returned (retVal rs) ∧ Below w.heap.size w w' ∧ ResOK w.heap.size w' F true [Ty.slice U8] y rs := by
  obtain ⟨v, rfl, h1, h2, rfl⟩ := repeat_some hy
  obtain ⟨us, vs', hus, rfl, us2, hus2, rfl⟩ := hr
  obtain ⟨rfl, _⟩ := (show us2 = [.int .i64 k] ∧ inR .i64 k = true from hus2)
  obtain ⟨a, cap, rfl, hl, hm, hrow⟩ := hus
  rcases hrow with h0 | ⟨b, off, cells, rfl, _, hb, hat, hrw⟩
  · exact absurd h0 (by simp)
  · obtain ⟨v1, v2, rfl, ⟨rfl, hv⟩, h3⟩ := hrw
    have hc : w.cell? ⟨b, off, none⟩ = some (.int .u8 v) := hat 0 _ rfl
    obtain ⟨n, rfl⟩ : ∃ n : Nat, k = n := ⟨k.toNat, by omega⟩
    refine (rep_walk n v (by omega) (by omega) w ⟨b, off, none⟩ cap hc).mono fun e w' ⟨he, hB, hg⟩ => ?_
    refine ⟨[.slice (some ⟨w.heap.size, 0, none⟩) n n], he, hB, .slice (some ⟨w.heap.size, 0, none⟩) n n, some w.heap.size, rfl, some ⟨w.heap.size, 0, none⟩, n, ?_, ?_, ?_, .inr ⟨w.heap.size, _, _, by omega, rfl, rfl, Nat.le_refl _, (Array.getElem?_eq_some_iff.1 hg).1, hg, ?_, ?_⟩⟩
    · show Value.slice _ n n = Value.slice _ (List.length (List.replicate ((n : Int)).toNat v)) n
      simp
    · show List.length (List.replicate ((n : Int)).toNat v) ≤ n
      simp
    · unfold maxLen; omega
    · rw [List.size_toArray, rep_row_len (Nat.le_refl _)]; exact (Nat.mul_one n).symm
    · show RowOf _ (List.replicate ((n : Int)).toNat v) ((rep_row n n v).toArray.toList.take (List.length (List.replicate ((n : Int)).toNat v) * 1))
      simp only [Int.toNat_natCast, List.length_replicate, Nat.mul_one, List.toList_toArray]
      rw [List.take_of_length_le (by rw [rep_row_len (Nat.le_refl _)]; exact Nat.le_refl _)]
      unfold rep_row
      rw [Nat.sub_self, List.replicate_zero, List.append_nil]
      exact rep_rows hv n
theorem slices_Repeat_m : Meets Tryz.prog V 27 (spP [Ty.slice U8, I64] [Ty.slice U8] slices_Repeat_t true) where
  enters := fun args w => by
    have h : FnOK Tryz.prog 27 (inlOf Tryz.f27 {}) := fnOK Tryz.func27 (by kernel_rfl) (by kernel_rfl) (by kernel_rfl)
    exact h.enters args w
  tot := fun g hg => by cases hg
  calls := fun w F vals x y _ _ hr hy => rep_calls w F vals x.1 x.2 y hr hy

def safe_shown_L : List (Nat × FSpec) := []
theorem safe_shown_l : AllMeet Tryz.prog V safe_shown_L := .nil
set_option maxRecDepth 100000 in
theorem safe_shown_d : ∀ x : PSSafe, denote (mkC Tryz.prog V safe_shown_L) 1 (inlOf Tryz.f80 { loops := [(0, [.slot 13 I64, .arr 9 U8])] }) [SSafe] [U8s] true x = safe_shown_t x := fun x => by kernel_rfl
theorem safe_shown_m : Meets Tryz.prog V 80 (spP [SSafe] [U8s] safe_shown_t true) := meets_part safe_shown_l stays hmix (hs := { loops := [(0, [.slot 13 I64, .arr 9 U8])] }) (fnOK Tryz.func80 (by kernel_rfl) (by kernel_rfl) (by kernel_rfl)) true safe_shown_d
def safe_flash_L : List (Nat × FSpec) := []
theorem safe_flash_l : AllMeet Tryz.prog V safe_flash_L := .nil
noncomputable def safe_flash_I : List (Nat × Inl) := [(74, inlOf Tryz.f74 {}), (103, inlOf Tryz.f103 { loops := [(0, [.slot 8 I64])] }), (105, inlOf Tryz.f105 {})]
theorem safe_flash_i : AllOK Tryz.prog safe_flash_I := (.cons (fnOK Tryz.func74 (by kernel_rfl) (by kernel_rfl) (by kernel_rfl)) (.cons (fnOK Tryz.func103 (by kernel_rfl) (by kernel_rfl) (by kernel_rfl)) (.cons (fnOK Tryz.func105 (by kernel_rfl) (by kernel_rfl) (by kernel_rfl)) .nil)))
set_option maxRecDepth 100000 in
theorem safe_flash_d : ∀ x : List Int, denote (mkC Tryz.prog V safe_flash_L safe_flash_I) 4 (inlOf Tryz.f81 {}) [U8s] [Bo] false x = safe_flash_t x := fun x => by kernel_rfl
theorem safe_flash_m : Meets Tryz.prog V 81 (spP [U8s] [Bo] safe_flash_t) := meets_part_il safe_flash_l stays hmix safe_flash_i (hs := {}) (fnOK Tryz.func81 (by kernel_rfl) (by kernel_rfl) (by kernel_rfl)) false 4 safe_flash_d
def safe_red_L : List (Nat × FSpec) := []
theorem safe_red_l : AllMeet Tryz.prog V safe_red_L := .nil
set_option maxRecDepth 100000 in
theorem safe_red_d : ∀ x : Int, denote (mkC Tryz.prog V safe_red_L) 1 (inlOf Tryz.f85 {}) [U8] [Bo] false x = safe_red_t x := fun x => by kernel_rfl
theorem safe_red_m : Meets Tryz.prog V 85 (spT [U8] [Bo] safe_red) := meets_tot safe_red_l stays hmix (hs := {}) (fnOK Tryz.func85 (by kernel_rfl) (by kernel_rfl) (by kernel_rfl)) false fun x => (safe_red_d x).trans (safe_red_e x)
def safe_meet_L : List (Nat × FSpec) := [(85, (spT [U8] [Bo] safe_red)), (69, (spP [SSite, I64, I64] [Bo] safe_apart_t))]
theorem safe_meet_l : AllMeet Tryz.prog V safe_meet_L := (.cons safe_red_m (.cons safe_apart_m .nil))
set_option maxRecDepth 100000 in
theorem safe_meet_d : ∀ x : PSSite × List Int, denote (mkC Tryz.prog V safe_meet_L) 1 (inlOf Tryz.f82 { loops := [(0, [.slot 9 I64]), (2, [.slot 18 I64])] }) [SSite, U8s] [Bo] false x = safe_meet_t x := fun x => by kernel_rfl
theorem safe_meet_m : Meets Tryz.prog V 82 (spP [SSite, U8s] [Bo] safe_meet_t) := meets_part safe_meet_l stays hmix (hs := { loops := [(0, [.slot 9 I64]), (2, [.slot 18 I64])] }) (fnOK Tryz.func82 (by kernel_rfl) (by kernel_rfl) (by kernel_rfl)) false safe_meet_d
def safe_may_L : List (Nat × FSpec) := [(80, (spP [SSafe] [U8s] safe_shown_t true)), (81, (spP [U8s] [Bo] safe_flash_t)), (82, (spP [SSite, U8s] [Bo] safe_meet_t))]
theorem safe_may_l : AllMeet Tryz.prog V safe_may_L := (.cons safe_shown_m (.cons safe_flash_m (.cons safe_meet_m .nil)))
set_option maxRecDepth 100000 in
theorem safe_may_d : ∀ x : PSSite × PSSafe, denote (mkC Tryz.prog V safe_may_L) 1 (inlOf Tryz.f47 {}) [SSite, SSafe] [Bo] false x = safe_may_t x := fun x => by kernel_rfl
theorem safe_may_m : Meets Tryz.prog V 47 (spP [SSite, SSafe] [Bo] safe_may_t) := meets_part safe_may_l stays hmix (hs := {}) (fnOK Tryz.func47 (by kernel_rfl) (by kernel_rfl) (by kernel_rfl)) false safe_may_d
def slices_Index___uint8_uint8__L : List (Nat × FSpec) := []
theorem slices_Index___uint8_uint8__l : AllMeet Tryz.prog V slices_Index___uint8_uint8__L := .nil
set_option maxRecDepth 100000 in
theorem slices_Index___uint8_uint8__d : ∀ x : List Int × Int, denote (mkC Tryz.prog V slices_Index___uint8_uint8__L) 1 (inlOf Tryz.f106 { loops := [(0, [.slot 8 I64])] }) [U8s, U8] [I64] false x = slices_Index___uint8_uint8__t x := fun x => by kernel_rfl
theorem slices_Index___uint8_uint8__m : Meets Tryz.prog V 106 (spP [U8s, U8] [I64] slices_Index___uint8_uint8__t) := meets_part slices_Index___uint8_uint8__l stays hmix (hs := { loops := [(0, [.slot 8 I64])] }) (fnOK Tryz.func106 (by kernel_rfl) (by kernel_rfl) (by kernel_rfl)) false slices_Index___uint8_uint8__d
def slices_Contains___uint8_uint8__L : List (Nat × FSpec) := [(106, (spP [U8s, U8] [I64] slices_Index___uint8_uint8__t))]
theorem slices_Contains___uint8_uint8__l : AllMeet Tryz.prog V slices_Contains___uint8_uint8__L := (.cons slices_Index___uint8_uint8__m .nil)
set_option maxRecDepth 100000 in
theorem slices_Contains___uint8_uint8__d : ∀ x : List Int × Int, denote (mkC Tryz.prog V slices_Contains___uint8_uint8__L) 1 (inlOf Tryz.f83 {}) [U8s, U8] [Bo] false x = slices_Contains___uint8_uint8__t x := fun x => by kernel_rfl
theorem slices_Contains___uint8_uint8__m : Meets Tryz.prog V 83 (spP [U8s, U8] [Bo] slices_Contains___uint8_uint8__t) := meets_part slices_Contains___uint8_uint8__l stays hmix (hs := {}) (fnOK Tryz.func83 (by kernel_rfl) (by kernel_rfl) (by kernel_rfl)) false slices_Contains___uint8_uint8__d
def lamp_kept_L : List (Nat × FSpec) := []
theorem lamp_kept_l : AllMeet Tryz.prog V lamp_kept_L := .nil
set_option maxRecDepth 100000 in
theorem lamp_kept_d : ∀ x : Int, denote (mkC Tryz.prog V lamp_kept_L) 1 (inlOf Tryz.f104 {}) [I64] [I64] false x = lamp_kept_t x := fun x => by kernel_rfl
theorem lamp_kept_m : Meets Tryz.prog V 104 (spT [I64] [I64] lamp_kept) := meets_tot lamp_kept_l stays hmix (hs := {}) (fnOK Tryz.func104 (by kernel_rfl) (by kernel_rfl) (by kernel_rfl)) false fun x => (lamp_kept_d x).trans (lamp_kept_e x)
def lamp_goes_L : List (Nat × FSpec) := []
theorem lamp_goes_l : AllMeet Tryz.prog V lamp_goes_L := .nil
set_option maxRecDepth 100000 in
theorem lamp_goes_d : ∀ x : Int, denote (mkC Tryz.prog V lamp_goes_L) 1 (inlOf Tryz.f107 {}) [U8] [Bo] false x = lamp_goes_t x := fun x => by kernel_rfl
theorem lamp_goes_m : Meets Tryz.prog V 107 (spT [U8] [Bo] lamp_goes) := meets_tot lamp_goes_l stays hmix (hs := {}) (fnOK Tryz.func107 (by kernel_rfl) (by kernel_rfl) (by kernel_rfl)) false fun x => (lamp_goes_d x).trans (lamp_goes_e x)
def lamp_Follows_L : List (Nat × FSpec) := []
theorem lamp_Follows_l : AllMeet Tryz.prog V lamp_Follows_L := .nil
set_option maxRecDepth 100000 in
theorem lamp_Follows_d : ∀ x : Int × Int, denote (mkC Tryz.prog V lamp_Follows_L) 1 (inlOf Tryz.f108 {}) [U8, U8] [Bo] false x = lamp_Follows_t x := fun x => by kernel_rfl
theorem lamp_Follows_m : Meets Tryz.prog V 108 (spT [U8, U8] [Bo] lamp_Follows) := meets_tot lamp_Follows_l stays hmix (hs := {}) (fnOK Tryz.func108 (by kernel_rfl) (by kernel_rfl) (by kernel_rfl)) false fun x => (lamp_Follows_d x).trans (lamp_Follows_e x)
def lamp_May_L : List (Nat × FSpec) := [(104, (spT [I64] [I64] lamp_kept)), (107, (spT [U8] [Bo] lamp_goes)), (108, (spT [U8, U8] [Bo] lamp_Follows))]
theorem lamp_May_l : AllMeet Tryz.prog V lamp_May_L := (.cons lamp_kept_m (.cons lamp_goes_m (.cons lamp_Follows_m .nil)))
set_option maxRecDepth 100000 in
theorem lamp_May_d : ∀ x : PSGroup × PSSeen × Int, denote (mkC Tryz.prog V lamp_May_L) 1 (inlOf Tryz.f86 {}) [SGroup, SSeen, U8] [U8] false x = lamp_May_t x := fun x => by kernel_rfl
theorem lamp_May_m : Meets Tryz.prog V 86 (spT [SGroup, SSeen, U8] [U8] lamp_May) := meets_tot lamp_May_l stays hmix (hs := {}) (fnOK Tryz.func86 (by kernel_rfl) (by kernel_rfl) (by kernel_rfl)) false fun x => (lamp_May_d x).trans (lamp_May_e x)
def safe_close_L : List (Nat × FSpec) := [(69, (spP [SSite, I64, I64] [Bo] safe_apart_t)), (70, (spP [SSite, I64, I64] [I64] safe_between_t))]
theorem safe_close_l : AllMeet Tryz.prog V safe_close_L := (.cons safe_apart_m (.cons safe_between_m .nil))
set_option maxRecDepth 100000 in
theorem safe_close_d : ∀ x : PSSite × PSSafe × List Int, denote (mkC Tryz.prog V safe_close_L) 1 (inlOf Tryz.f87 { loops := [(0, [.slot 14 I64]), (2, [.slot 32 I64])] }) [SSite, SSafe, U8s] [Bo] false x = safe_close_t x := fun x => by kernel_rfl
theorem safe_close_m : Meets Tryz.prog V 87 (spP [SSite, SSafe, U8s] [Bo] safe_close_t) := meets_part safe_close_l stays hmix (hs := { loops := [(0, [.slot 14 I64]), (2, [.slot 32 I64])] }) (fnOK Tryz.func87 (by kernel_rfl) (by kernel_rfl) (by kernel_rfl)) false safe_close_d
def safe_fault_L : List (Nat × FSpec) := [(81, (spP [U8s] [Bo] safe_flash_t)), (83, (spP [U8s, U8] [Bo] slices_Contains___uint8_uint8__t)), (86, (spT [SGroup, SSeen, U8] [U8] lamp_May)), (82, (spP [SSite, U8s] [Bo] safe_meet_t)), (87, (spP [SSite, SSafe, U8s] [Bo] safe_close_t)), (85, (spT [U8] [Bo] safe_red))]
theorem safe_fault_l : AllMeet Tryz.prog V safe_fault_L := (.cons safe_flash_m (.cons slices_Contains___uint8_uint8__m (.cons lamp_May_m (.cons safe_meet_m (.cons safe_close_m (.cons safe_red_m .nil))))))
noncomputable def safe_fault_I : List (Nat × Inl) := [(74, inlOf Tryz.f74 {}), (103, inlOf Tryz.f103 { loops := [(0, [.slot 8 I64])] }), (84, inlOf Tryz.f84 {})]
theorem safe_fault_i : AllOK Tryz.prog safe_fault_I := (.cons (fnOK Tryz.func74 (by kernel_rfl) (by kernel_rfl) (by kernel_rfl)) (.cons (fnOK Tryz.func103 (by kernel_rfl) (by kernel_rfl) (by kernel_rfl)) (.cons (fnOK Tryz.func84 (by kernel_rfl) (by kernel_rfl) (by kernel_rfl)) .nil)))
set_option maxRecDepth 100000 in
theorem safe_fault_d : ∀ x : PSSite × PSSafe × List Int, denote (mkC Tryz.prog V safe_fault_L safe_fault_I) 4 (inlOf Tryz.f48 { loops := [(1, [.slot 38 I64])], joins := [(8, [])], outs := [(8, [(23, Bo)])] }) [SSite, SSafe, U8s] [U8] false x = safe_fault_t x := fun x => by kernel_rfl
theorem safe_fault_m : Meets Tryz.prog V 48 (spP [SSite, SSafe, U8s] [U8] safe_fault_t) := meets_part_il safe_fault_l stays hmix safe_fault_i (hs := { loops := [(1, [.slot 38 I64])], joins := [(8, [])], outs := [(8, [(23, Bo)])] }) (fnOK Tryz.func48 (by kernel_rfl) (by kernel_rfl) (by kernel_rfl)) false 4 safe_fault_d
theorem clone_Seen_m : Meets Tryz.prog V 49 (spP [Ty.slice SSeen] [Ty.slice SSeen] clone_Seen_t true) :=
  clone_meets (e := 70) (T := SSeen) stays hmix Tryz.func49 ⟨by kernel_rfl, rfl, by kernel_rfl, by kernel_rfl, by decide, ⟨0, 1, 2, _, _, _, _, rfl, ⟨rfl, rfl, rfl⟩, ⟨rfl, rfl, rfl⟩, ⟨rfl, ⟨_, rfl⟩, rfl⟩, ⟨rfl, rfl, rfl⟩⟩⟩ (fun l => by kernel_rfl) (fun y h => (Option.some.inj ((show clone_Seen_t [] = some [] by kernel_rfl).symm.trans h)).symm)
def lamp_more_L : List (Nat × FSpec) := [(104, (spT [I64] [I64] lamp_kept))]
theorem lamp_more_l : AllMeet Tryz.prog V lamp_more_L := (.cons lamp_kept_m .nil)
set_option maxRecDepth 100000 in
theorem lamp_more_d : ∀ x : Int, denote (mkC Tryz.prog V lamp_more_L) 1 (inlOf Tryz.f109 {}) [I64] [I64] false x = lamp_more_t x := fun x => by kernel_rfl
theorem lamp_more_m : Meets Tryz.prog V 109 (spT [I64] [I64] lamp_more) := meets_tot lamp_more_l stays hmix (hs := {}) (fnOK Tryz.func109 (by kernel_rfl) (by kernel_rfl) (by kernel_rfl)) false fun x => (lamp_more_d x).trans (lamp_more_e x)
def lamp_Next_L : List (Nat × FSpec) := [(109, (spT [I64] [I64] lamp_more))]
theorem lamp_Next_l : AllMeet Tryz.prog V lamp_Next_L := (.cons lamp_more_m .nil)
set_option maxRecDepth 100000 in
theorem lamp_Next_d : ∀ x : PSGroup × PSSeen × Int, denote (mkC Tryz.prog V lamp_Next_L) 1 (inlOf Tryz.f88 {}) [SGroup, SSeen, U8] [SSeen] false x = lamp_Next_t x := fun x => by kernel_rfl
theorem lamp_Next_m : Meets Tryz.prog V 88 (spT [SGroup, SSeen, U8] [SSeen] lamp_Next) := meets_tot lamp_Next_l stays hmix (hs := {}) (fnOK Tryz.func88 (by kernel_rfl) (by kernel_rfl) (by kernel_rfl)) false fun x => (lamp_Next_d x).trans (lamp_Next_e x)
def safe_behind_L : List (Nat × FSpec) := [(49, (spP [SSeens] [SSeens] clone_Seen_t true)), (81, (spP [U8s] [Bo] safe_flash_t)), (88, (spT [SGroup, SSeen, U8] [SSeen] lamp_Next)), (43, (spP [SSite] [I64] safe_greatest_t))]
theorem safe_behind_l : AllMeet Tryz.prog V safe_behind_L := (.cons clone_Seen_m (.cons safe_flash_m (.cons lamp_Next_m (.cons safe_greatest_m .nil))))
set_option maxRecDepth 100000 in
theorem safe_behind_d : ∀ x : PSSite × PSSafe × List Int, denote (mkC Tryz.prog V safe_behind_L) 1 (inlOf Tryz.f50 { loops := [(0, [.slot 23 I64, .arr 21 SSeen])] }) [SSite, SSafe, U8s] [SSafe] false x = safe_behind_t x := fun x => by kernel_rfl
theorem safe_behind_m : Meets Tryz.prog V 50 (spP [SSite, SSafe, U8s] [SSafe] safe_behind_t) := meets_part safe_behind_l stays hmix (hs := { loops := [(0, [.slot 23 I64, .arr 21 SSeen])] }) (fnOK Tryz.func50 (by kernel_rfl) (by kernel_rfl) (by kernel_rfl)) false safe_behind_d
def safe_Next_L : List (Nat × FSpec) := [(40, (spP [SSite] [I64] site_Check_t)), (47, (spP [SSite, SSafe] [Bo] safe_may_t)), (48, (spP [SSite, SSafe, U8s] [U8] safe_fault_t)), (49, (spP [SSeens] [SSeens] clone_Seen_t true)), (50, (spP [SSite, SSafe, U8s] [SSafe] safe_behind_t))]
theorem safe_Next_l : AllMeet Tryz.prog V safe_Next_L := (.cons site_Check_m (.cons safe_may_m (.cons safe_fault_m (.cons clone_Seen_m (.cons safe_behind_m .nil)))))
set_option maxRecDepth 100000 in
theorem safe_Next_d : ∀ x : PSSite × PSSafe × List Int, denote (mkC Tryz.prog V safe_Next_L) 1 (inlOf Tryz.f30 {}) [SSite, SSafe, U8s] [SSafe, U8, I64] false x = safe_Next_t x := fun x => by kernel_rfl
theorem safe_Next_m : Meets Tryz.prog V 30 (spP [SSite, SSafe, U8s] [SSafe, U8, I64] safe_Next_t) := meets_part safe_Next_l stays hmix (hs := {}) (fnOK Tryz.func30 (by kernel_rfl) (by kernel_rfl) (by kernel_rfl)) false safe_Next_d
def gate_goes_L : List (Nat × FSpec) := [(30, (spP [SSite, SSafe, U8s] [SSafe, U8, I64] safe_Next_t))]
theorem gate_goes_l : AllMeet Tryz.prog V gate_goes_L := (.cons safe_Next_m .nil)
noncomputable def gate_goes_I : List (Nat × Inl) := [(101, inlOf Tryz.f101 {}), (114, inlOf Tryz.f114 { loops := [(0, [.slot 8 I64])] }), (102, inlOf Tryz.f102 {})]
theorem gate_goes_i : AllOK Tryz.prog gate_goes_I := (.cons (fnOK Tryz.func101 (by kernel_rfl) (by kernel_rfl) (by kernel_rfl)) (.cons (fnOK Tryz.func114 (by kernel_rfl) (by kernel_rfl) (by kernel_rfl)) (.cons (fnOK Tryz.func102 (by kernel_rfl) (by kernel_rfl) (by kernel_rfl)) .nil)))
set_option maxRecDepth 100000 in
theorem gate_goes_d : ∀ x : PSSite × PSSafe, denote (mkC Tryz.prog V gate_goes_L gate_goes_I) 4 (inlOf Tryz.f73 { loops := [(0, [.slot 23 I64, .arr 20 U8])], joins := [(9, [.arr 20 U8])] }) [SSite, SSafe] [Bo] false x = gate_goes_t x := fun x => by kernel_rfl
theorem gate_goes_m : Meets Tryz.prog V 73 (spP [SSite, SSafe] [Bo] gate_goes_t) := meets_part_il gate_goes_l stays hmix gate_goes_i (hs := { loops := [(0, [.slot 23 I64, .arr 20 U8])], joins := [(9, [.arr 20 U8])] }) (fnOK Tryz.func73 (by kernel_rfl) (by kernel_rfl) (by kernel_rfl)) false 4 gate_goes_d
def gate_asked_L : List (Nat × FSpec) := [(40, (spP [SSite] [I64] site_Check_t)), (73, (spP [SSite, SSafe] [Bo] gate_goes_t))]
theorem gate_asked_l : AllMeet Tryz.prog V gate_asked_L := (.cons site_Check_m (.cons gate_goes_m .nil))
set_option maxRecDepth 100000 in
theorem gate_asked_d : ∀ x : PSSite × PSSafe, denote (mkC Tryz.prog V gate_asked_L) 1 (inlOf Tryz.f45 {}) [SSite, SSafe] [I64] false x = gate_asked_t x := fun x => by kernel_rfl
theorem gate_asked_m : Meets Tryz.prog V 45 (spP [SSite, SSafe] [I64] gate_asked_t) := meets_part gate_asked_l stays hmix (hs := {}) (fnOK Tryz.func45 (by kernel_rfl) (by kernel_rfl) (by kernel_rfl)) false gate_asked_d
theorem clone_U8_m : Meets Tryz.prog V 76 (spP [Ty.slice U8] [Ty.slice U8] clone_U8_t true) :=
  clone_meets (e := 5) (T := U8) stays hmix Tryz.func76 ⟨by kernel_rfl, rfl, by kernel_rfl, by kernel_rfl, by decide, ⟨0, 1, 2, _, _, _, _, rfl, ⟨rfl, rfl, rfl⟩, ⟨rfl, rfl, rfl⟩, ⟨rfl, ⟨_, rfl⟩, rfl⟩, ⟨rfl, rfl, rfl⟩⟩⟩ (fun l => by kernel_rfl) (fun y h => (Option.some.inj ((show clone_U8_t [] = some [] by kernel_rfl).symm.trans h)).symm)
def gate_all_L : List (Nat × FSpec) := []
theorem gate_all_l : AllMeet Tryz.prog V gate_all_L := .nil
set_option maxRecDepth 100000 in
theorem gate_all_d : ∀ x : Int × Int, denote (mkC Tryz.prog V gate_all_L) 1 (inlOf Tryz.f77 { loops := [(0, [.slot 11 I64, .arr 8 U8])] }) [I64, U8] [U8s] true x = gate_all_t x := fun x => by kernel_rfl
theorem gate_all_m : Meets Tryz.prog V 77 (spP [I64, U8] [U8s] gate_all_t true) := meets_part gate_all_l stays hmix (hs := { loops := [(0, [.slot 11 I64, .arr 8 U8])] }) (fnOK Tryz.func77 (by kernel_rfl) (by kernel_rfl) (by kernel_rfl)) true gate_all_d
def lamp_Want_L : List (Nat × FSpec) := [(104, (spT [I64] [I64] lamp_kept))]
theorem lamp_Want_l : AllMeet Tryz.prog V lamp_Want_L := (.cons lamp_kept_m .nil)
set_option maxRecDepth 100000 in
theorem lamp_Want_d : ∀ x : PSGroup × PSSeen × Int, denote (mkC Tryz.prog V lamp_Want_L) 1 (inlOf Tryz.f78 {}) [SGroup, SSeen, U8] [U8] false x = lamp_Want_t x := fun x => by kernel_rfl
theorem lamp_Want_m : Meets Tryz.prog V 78 (spT [SGroup, SSeen, U8] [U8] lamp_Want) := meets_tot lamp_Want_l stays hmix (hs := {}) (fnOK Tryz.func78 (by kernel_rfl) (by kernel_rfl) (by kernel_rfl)) false fun x => (lamp_Want_d x).trans (lamp_Want_e x)
def gate_admit_L : List (Nat × FSpec) := [(76, (spP [U8s] [U8s] clone_U8_t true)), (77, (spP [I64, U8] [U8s] gate_all_t true)), (78, (spT [SGroup, SSeen, U8] [U8] lamp_Want))]
theorem gate_admit_l : AllMeet Tryz.prog V gate_admit_L := (.cons clone_U8_m (.cons gate_all_m (.cons lamp_Want_m .nil)))
noncomputable def gate_admit_I : List (Nat × Inl) := [(74, inlOf Tryz.f74 {}), (103, inlOf Tryz.f103 { loops := [(0, [.slot 8 I64])] }), (75, inlOf Tryz.f75 {}), (79, inlOf Tryz.f79 { loops := [(0, [.slot 11 I64, .barr 3 U8])] })]
theorem gate_admit_i : AllOK Tryz.prog gate_admit_I := (.cons (fnOK Tryz.func74 (by kernel_rfl) (by kernel_rfl) (by kernel_rfl)) (.cons (fnOK Tryz.func103 (by kernel_rfl) (by kernel_rfl) (by kernel_rfl)) (.cons (fnOK Tryz.func75 (by kernel_rfl) (by kernel_rfl) (by kernel_rfl)) (.cons (fnOK Tryz.func79 (by kernel_rfl) (by kernel_rfl) (by kernel_rfl)) .nil))))
set_option maxRecDepth 100000 in
theorem gate_admit_d : ∀ x : PSSite × PSSafe × List Int, denote (mkC Tryz.prog V gate_admit_L gate_admit_I) 5 (inlOf Tryz.f46 { loops := [(1, [.slot 36 I64, .barr 8 U8]), (3, [.slot 63 I64, .barr 8 U8])], joins := [(2, [])], outs := [(2, [(7, Bo)])] }) [SSite, SSafe, U8s] [U8s] true x = gate_admit_t x := fun x => by kernel_rfl
theorem gate_admit_m : Meets Tryz.prog V 46 (spP [SSite, SSafe, U8s] [U8s] gate_admit_t true) := meets_part_il gate_admit_l stays hmix gate_admit_i (hs := { loops := [(1, [.slot 36 I64, .barr 8 U8]), (3, [.slot 63 I64, .barr 8 U8])], joins := [(2, [])], outs := [(2, [(7, Bo)])] }) (fnOK Tryz.func46 (by kernel_rfl) (by kernel_rfl) (by kernel_rfl)) true 5 gate_admit_d
def gate_Admit_L : List (Nat × FSpec) := [(45, (spP [SSite, SSafe] [I64] gate_asked_t)), (46, (spP [SSite, SSafe, U8s] [U8s] gate_admit_t true))]
theorem gate_Admit_l : AllMeet Tryz.prog V gate_Admit_L := (.cons gate_asked_m (.cons gate_admit_m .nil))
set_option maxRecDepth 100000 in
theorem gate_Admit_d : ∀ x : PSSite × PSSafe × List Int, denote (mkC Tryz.prog V gate_Admit_L) 1 (inlOf Tryz.f28 {}) [SSite, SSafe, U8s] [U8s, I64] true x = gate_Admit_t x := fun x => by kernel_rfl
theorem gate_Admit_m : Meets Tryz.prog V 28 (spP [SSite, SSafe, U8s] [U8s, I64] gate_Admit_t true) := meets_part gate_Admit_l stays hmix (hs := {}) (fnOK Tryz.func28 (by kernel_rfl) (by kernel_rfl) (by kernel_rfl)) true gate_Admit_d
def turn_Steps_L : List (Nat × FSpec) := [(20, (spP [SSite, I64] [U8s] turn_asks_t)), (23, (spP [SSite, SSafe, I64] [Bo] turn_full_t)), (40, (spP [SSite] [I64] site_Check_t)), (27, (spP [U8s, I64] [U8s] slices_Repeat_t true)), (28, (spP [SSite, SSafe, U8s] [U8s, I64] gate_Admit_t true)), (30, (spP [SSite, SSafe, U8s] [SSafe, U8, I64] safe_Next_t))]
theorem turn_Steps_l : AllMeet Tryz.prog V turn_Steps_L := (.cons turn_asks_m (.cons turn_full_m (.cons site_Check_m (.cons slices_Repeat_m (.cons gate_Admit_m (.cons safe_Next_m .nil))))))
noncomputable def turn_Steps_I : List (Nat × Inl) := [(18, inlOf Tryz.f18 {}), (26, inlOf Tryz.f26 {}), (29, inlOf Tryz.f29 {})]
theorem turn_Steps_i : AllOK Tryz.prog turn_Steps_I := (.cons (fnOK Tryz.func18 (by kernel_rfl) (by kernel_rfl) (by kernel_rfl)) (.cons (fnOK Tryz.func26 (by kernel_rfl) (by kernel_rfl) (by kernel_rfl)) (.cons (fnOK Tryz.func29 (by kernel_rfl) (by kernel_rfl) (by kernel_rfl)) .nil)))
set_option maxRecDepth 100000 in
theorem turn_Steps_d : ∀ x : PSSite × PSSafe × Int, denote (mkC Tryz.prog V turn_Steps_L turn_Steps_I) 4 (inlOf Tryz.f13 { loops := [(0, [.slot 23 I64, .box 4 SSafe])], joins := [(2, [])], outs := [(2, [(8, I64)])] }) [SSite, SSafe, I64] [I64, I64] false x = turn_Steps_t x := fun x => by kernel_rfl
theorem turn_Steps_m : Meets Tryz.prog V 13 (spP [SSite, SSafe, I64] [I64, I64] turn_Steps_t) := meets_part_il turn_Steps_l stays hmix turn_Steps_i (hs := { loops := [(0, [.slot 23 I64, .box 4 SSafe])], joins := [(2, [])], outs := [(2, [(8, I64)])] }) (fnOK Tryz.func13 (by kernel_rfl) (by kernel_rfl) (by kernel_rfl)) false 4 turn_Steps_d
def ref08_Shown_L : List (Nat × FSpec) := []
theorem ref08_Shown_l : AllMeet Tryz.prog V ref08_Shown_L := .nil
set_option maxRecDepth 100000 in
theorem ref08_Shown_d : ∀ x : PSSafe, denote (mkC Tryz.prog V ref08_Shown_L) 1 (inlOf Tryz.f89 { loops := [(0, [.own 3 U8, .slot 4 I64])] }) [SSafe] [U8s] false x = ref08_Shown_t x := fun x => by kernel_rfl
theorem ref08_Shown_m : Meets Tryz.prog V 89 (spP [SSafe] [U8s] ref08_Shown_t) := meets_part ref08_Shown_l stays hmix (hs := { loops := [(0, [.own 3 U8, .slot 4 I64])] }) (fnOK Tryz.func89 (by kernel_rfl) (by kernel_rfl) (by kernel_rfl)) false ref08_Shown_d
def ref08_flashes_L : List (Nat × FSpec) := []
theorem ref08_flashes_l : AllMeet Tryz.prog V ref08_flashes_L := .nil
set_option maxRecDepth 100000 in
theorem ref08_flashes_d : ∀ x : List Int, denote (mkC Tryz.prog V ref08_flashes_L) 1 (inlOf Tryz.f52 { loops := [(0, [.slot 3 I64, .slot 4 I64])] }) [U8s] [I64] false x = ref08_flashes_t x := fun x => by kernel_rfl
theorem ref08_flashes_m : Meets Tryz.prog V 52 (spP [U8s] [I64] ref08_flashes_t) := meets_part ref08_flashes_l stays hmix (hs := { loops := [(0, [.slot 3 I64, .slot 4 I64])] }) (fnOK Tryz.func52 (by kernel_rfl) (by kernel_rfl) (by kernel_rfl)) false ref08_flashes_d
def ref08_meet_L : List (Nat × FSpec) := [(55, (spP [SSite, I64, I64] [Bo] ref08_Apart_t))]
theorem ref08_meet_l : AllMeet Tryz.prog V ref08_meet_L := (.cons ref08_Apart_m .nil)
set_option maxRecDepth 100000 in
theorem ref08_meet_d : ∀ x : PSSite × List Int, denote (mkC Tryz.prog V ref08_meet_L) 1 (inlOf Tryz.f90 { loops := [(0, [.slot 5 I64]), (2, [.slot 6 I64])] }) [SSite, U8s] [Bo] false x = ref08_meet_t x := fun x => by kernel_rfl
theorem ref08_meet_m : Meets Tryz.prog V 90 (spP [SSite, U8s] [Bo] ref08_meet_t) := meets_part ref08_meet_l stays hmix (hs := { loops := [(0, [.slot 5 I64]), (2, [.slot 6 I64])] }) (fnOK Tryz.func90 (by kernel_rfl) (by kernel_rfl) (by kernel_rfl)) false ref08_meet_d
def ref08_May_L : List (Nat × FSpec) := [(89, (spP [SSafe] [U8s] ref08_Shown_t)), (52, (spP [U8s] [I64] ref08_flashes_t)), (90, (spP [SSite, U8s] [Bo] ref08_meet_t))]
theorem ref08_May_l : AllMeet Tryz.prog V ref08_May_L := (.cons ref08_Shown_m (.cons ref08_flashes_m (.cons ref08_meet_m .nil)))
set_option maxRecDepth 100000 in
theorem ref08_May_d : ∀ x : PSSite × PSSafe, denote (mkC Tryz.prog V ref08_May_L) 1 (inlOf Tryz.f51 {}) [SSite, SSafe] [Bo] false x = ref08_May_t x := fun x => by kernel_rfl
theorem ref08_May_m : Meets Tryz.prog V 51 (spP [SSite, SSafe] [Bo] ref08_May_t) := meets_part ref08_May_l stays hmix (hs := {}) (fnOK Tryz.func51 (by kernel_rfl) (by kernel_rfl) (by kernel_rfl)) false ref08_May_d
def ref09_Goes_L : List (Nat × FSpec) := [(51, (spP [SSite, SSafe] [Bo] ref08_May_t))]
theorem ref09_Goes_l : AllMeet Tryz.prog V ref09_Goes_L := (.cons ref08_May_m .nil)
set_option maxRecDepth 100000 in
theorem ref09_Goes_d : ∀ x : PSSite × PSSafe, denote (mkC Tryz.prog V ref09_Goes_L) 1 (inlOf Tryz.f31 { loops := [(0, [.slot 5 I64])] }) [SSite, SSafe] [Bo] false x = ref09_Goes_t x := fun x => by kernel_rfl
theorem ref09_Goes_m : Meets Tryz.prog V 31 (spP [SSite, SSafe] [Bo] ref09_Goes_t) := meets_part ref09_Goes_l stays hmix (hs := { loops := [(0, [.slot 5 I64])] }) (fnOK Tryz.func31 (by kernel_rfl) (by kernel_rfl) (by kernel_rfl)) false ref09_Goes_d
def ref07_Kept_L : List (Nat × FSpec) := []
theorem ref07_Kept_l : AllMeet Tryz.prog V ref07_Kept_L := .nil
set_option maxRecDepth 100000 in
theorem ref07_Kept_d : ∀ x : Int, denote (mkC Tryz.prog V ref07_Kept_L) 1 (inlOf Tryz.f92 {}) [I64] [I64] false x = ref07_Kept_t x := fun x => by kernel_rfl
theorem ref07_Kept_m : Meets Tryz.prog V 92 (spT [I64] [I64] ref07_Kept) := meets_tot ref07_Kept_l stays hmix (hs := {}) (fnOK Tryz.func92 (by kernel_rfl) (by kernel_rfl) (by kernel_rfl)) false fun x => (ref07_Kept_d x).trans (ref07_Kept_e x)
def ref07_Want_L : List (Nat × FSpec) := [(92, (spT [I64] [I64] ref07_Kept))]
theorem ref07_Want_l : AllMeet Tryz.prog V ref07_Want_L := (.cons ref07_Kept_m .nil)
set_option maxRecDepth 100000 in
theorem ref07_Want_d : ∀ x : PSGroup × PSSeen × Int, denote (mkC Tryz.prog V ref07_Want_L) 1 (inlOf Tryz.f54 {}) [SGroup, SSeen, U8] [U8] false x = ref07_Want_t x := fun x => by kernel_rfl
theorem ref07_Want_m : Meets Tryz.prog V 54 (spT [SGroup, SSeen, U8] [U8] ref07_Want) := meets_tot ref07_Want_l stays hmix (hs := {}) (fnOK Tryz.func54 (by kernel_rfl) (by kernel_rfl) (by kernel_rfl)) false fun x => (ref07_Want_d x).trans (ref07_Want_e x)
def ref09_Let_L : List (Nat × FSpec) := [(54, (spT [SGroup, SSeen, U8] [U8] ref07_Want)), (55, (spP [SSite, I64, I64] [Bo] ref08_Apart_t)), (56, (spP [SSite, I64, I64] [I64] ref08_Between_t))]
theorem ref09_Let_l : AllMeet Tryz.prog V ref09_Let_L := (.cons ref07_Want_m (.cons ref08_Apart_m (.cons ref08_Between_m .nil)))
set_option maxRecDepth 100000 in
theorem ref09_Let_d : ∀ x : PSSite × PSSafe × List Int, denote (mkC Tryz.prog V ref09_Let_L) 1 (inlOf Tryz.f33 { loops := [(0, [.slot 7 I64, .slot 8 I64]), (2, [.own 9 U8, .slot 11 I64]), (4, [.slot 13 I64, .arr 9 U8]), (6, [.slot 14 Bo, .slot 15 I64, .arr 9 U8])], joins := [(7, [.slot 7 I64]), (17, [.own 9 U8, .slot 12 U8]), (18, [.own 9 U8])] }) [SSite, SSafe, U8s] [U8s] false x = ref09_Let_t x := fun x => by kernel_rfl
theorem ref09_Let_m : Meets Tryz.prog V 33 (spP [SSite, SSafe, U8s] [U8s] ref09_Let_t) := meets_part ref09_Let_l stays hmix (hs := { loops := [(0, [.slot 7 I64, .slot 8 I64]), (2, [.own 9 U8, .slot 11 I64]), (4, [.slot 13 I64, .arr 9 U8]), (6, [.slot 14 Bo, .slot 15 I64, .arr 9 U8])], joins := [(7, [.slot 7 I64]), (17, [.own 9 U8, .slot 12 U8]), (18, [.own 9 U8])] }) (fnOK Tryz.func33 (by kernel_rfl) (by kernel_rfl) (by kernel_rfl)) false ref09_Let_d
def ref07_more_L : List (Nat × FSpec) := [(92, (spT [I64] [I64] ref07_Kept))]
theorem ref07_more_l : AllMeet Tryz.prog V ref07_more_L := (.cons ref07_Kept_m .nil)
set_option maxRecDepth 100000 in
theorem ref07_more_d : ∀ x : Int, denote (mkC Tryz.prog V ref07_more_L) 1 (inlOf Tryz.f91 {}) [I64] [I64] false x = ref07_more_t x := fun x => by kernel_rfl
theorem ref07_more_m : Meets Tryz.prog V 91 (spT [I64] [I64] ref07_more) := meets_tot ref07_more_l stays hmix (hs := {}) (fnOK Tryz.func91 (by kernel_rfl) (by kernel_rfl) (by kernel_rfl)) false fun x => (ref07_more_d x).trans (ref07_more_e x)
def ref07_Next_L : List (Nat × FSpec) := [(91, (spT [I64] [I64] ref07_more))]
theorem ref07_Next_l : AllMeet Tryz.prog V ref07_Next_L := (.cons ref07_more_m .nil)
set_option maxRecDepth 100000 in
theorem ref07_Next_d : ∀ x : PSSeen × Int, denote (mkC Tryz.prog V ref07_Next_L) 1 (inlOf Tryz.f53 {}) [SSeen, U8] [SSeen] false x = ref07_Next_t x := fun x => by kernel_rfl
theorem ref07_Next_m : Meets Tryz.prog V 53 (spT [SSeen, U8] [SSeen] ref07_Next) := meets_tot ref07_Next_l stays hmix (hs := {}) (fnOK Tryz.func53 (by kernel_rfl) (by kernel_rfl) (by kernel_rfl)) false fun x => (ref07_Next_d x).trans (ref07_Next_e x)
def ref08_Behind_L : List (Nat × FSpec) := [(52, (spP [U8s] [I64] ref08_flashes_t)), (53, (spT [SSeen, U8] [SSeen] ref07_Next)), (39, (spP [SSite] [I64] ref08_Great_t))]
theorem ref08_Behind_l : AllMeet Tryz.prog V ref08_Behind_L := (.cons ref08_flashes_m (.cons ref07_Next_m (.cons ref08_Great_m .nil)))
set_option maxRecDepth 100000 in
theorem ref08_Behind_d : ∀ x : PSSite × PSSafe × List Int, denote (mkC Tryz.prog V ref08_Behind_L) 1 (inlOf Tryz.f32 { loops := [(0, [.slot 8 I64, .fown 7 .unit SSeen (.pair I64 Bo)])], joins := [(9, [.slot 9 I64])] }) [SSite, SSafe, U8s] [SSafe] false x = ref08_Behind_t x := fun x => by kernel_rfl
theorem ref08_Behind_m : Meets Tryz.prog V 32 (spP [SSite, SSafe, U8s] [SSafe] ref08_Behind_t) := meets_part ref08_Behind_l stays hmix (hs := { loops := [(0, [.slot 8 I64, .fown 7 .unit SSeen (.pair I64 Bo)])], joins := [(9, [.slot 9 I64])] }) (fnOK Tryz.func32 (by kernel_rfl) (by kernel_rfl) (by kernel_rfl)) false ref08_Behind_d
def ref15_Steps_L : List (Nat × FSpec) := [(16, (spP [SSite] [I64] ref05_Check_t)), (31, (spP [SSite, SSafe] [Bo] ref09_Goes_t)), (21, (spP [SSite, I64] [U8s] ref15_Wants_t)), (24, (spP [SSite, SSafe, I64] [Bo] ref15_Whole_t)), (33, (spP [SSite, SSafe, U8s] [U8s] ref09_Let_t)), (32, (spP [SSite, SSafe, U8s] [SSafe] ref08_Behind_t))]
theorem ref15_Steps_l : AllMeet Tryz.prog V ref15_Steps_L := (.cons ref05_Check_m (.cons ref09_Goes_m (.cons ref15_Wants_m (.cons ref15_Whole_m (.cons ref09_Let_m (.cons ref08_Behind_m .nil))))))
set_option maxRecDepth 100000 in
theorem ref15_Steps_d : ∀ x : PSSite × PSSafe × Int, denote (mkC Tryz.prog V ref15_Steps_L) 1 (inlOf Tryz.f14 { loops := [(0, [.slot 10 I64, .box 4 SSafe])] }) [SSite, SSafe, I64] [I64, I64] false x = ref15_Steps_t x := fun x => by kernel_rfl
theorem ref15_Steps_m : Meets Tryz.prog V 14 (spP [SSite, SSafe, I64] [I64, I64] ref15_Steps_t) := meets_part ref15_Steps_l stays hmix (hs := { loops := [(0, [.slot 10 I64, .box 4 SSafe])] }) (fnOK Tryz.func14 (by kernel_rfl) (by kernel_rfl) (by kernel_rfl)) false ref15_Steps_d
def ref08_Same_L : List (Nat × FSpec) := []
theorem ref08_Same_l : AllMeet Tryz.prog V ref08_Same_L := .nil
set_option maxRecDepth 100000 in
theorem ref08_Same_d : ∀ x : PSSafe × PSSafe, denote (mkC Tryz.prog V ref08_Same_L) 1 (inlOf Tryz.f15 { loops := [(0, [.slot 5 I64])] }) [SSafe, SSafe] [Bo] false x = ref08_Same_t x := fun x => by kernel_rfl
theorem ref08_Same_m : Meets Tryz.prog V 15 (spP [SSafe, SSafe] [Bo] ref08_Same_t) := meets_part ref08_Same_l stays hmix (hs := { loops := [(0, [.slot 5 I64])] }) (fnOK Tryz.func15 (by kernel_rfl) (by kernel_rfl) (by kernel_rfl)) false ref08_Same_d
def law15_TurnGoes_L : List (Nat × FSpec) := [(4, (spP [SSite] [Bo] ref05_Great_t)), (5, (spP [SSite, SSafe] [Bo] law15_far_t)), (6, (spP [SSafe] [SSafe] ref08_Twin_t)), (7, (spP [SSite, I64] [U8s, I64] turn_Asks_t)), (8, (spP [SSite, I64] [U8s, I64] ref15_Asks_t)), (9, (spP [SSite, SSafe, I64] [Bo, I64] turn_Full_t)), (10, (spP [SSite, SSafe, I64] [Bo, I64] ref15_Full_t)), (11, (spP [SSite] [I64, I64] turn_Worst_t)), (12, (spP [SSite] [I64, I64] ref15_Worst_t)), (13, (spP [SSite, SSafe, I64] [I64, I64] turn_Steps_t)), (14, (spP [SSite, SSafe, I64] [I64, I64] ref15_Steps_t)), (15, (spP [SSafe, SSafe] [Bo] ref08_Same_t))]
theorem law15_TurnGoes_l : AllMeet Tryz.prog V law15_TurnGoes_L := (.cons ref05_Great_m (.cons law15_far_m (.cons ref08_Twin_m (.cons turn_Asks_m (.cons ref15_Asks_m (.cons turn_Full_m (.cons ref15_Full_m (.cons turn_Worst_m (.cons ref15_Worst_m (.cons turn_Steps_m (.cons ref15_Steps_m (.cons ref08_Same_m .nil))))))))))))
set_option maxRecDepth 100000 in
theorem law15_TurnGoes_d : ∀ x : PSSite × PSSafe × Int, denote (mkC Tryz.prog V law15_TurnGoes_L) 1 (inlOf Tryz.f3 {}) [SSite, SSafe, I64] [Bo] false x = law15_TurnGoes_t x := fun x => by kernel_rfl
theorem law15_TurnGoes_m : Meets Tryz.prog V 3 (spP [SSite, SSafe, I64] [Bo] law15_TurnGoes_t) := meets_part law15_TurnGoes_l stays hmix (hs := {}) (fnOK Tryz.func3 (by kernel_rfl) (by kernel_rfl) (by kernel_rfl)) false law15_TurnGoes_d
end Go.Proofs.YtdgiapeofmlecaaGreatDoor
