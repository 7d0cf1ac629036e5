/- Part of a proof: plain readings of Go functions, their contracts, or plain facts of them. -/
import Derived.Test.YtfdnmjabjmedgaaDoorPlqB
import Derived.RangeFuncFrom
import Derived.RangeFuncBound
import Derived.RangeFuncCalls
import Derived.RangeFuncLeaves
import Derived.RangeFuncBox
import Derived.RangeFuncRecord
import Derived.Shelf.Abstract
import Derived.WalkKit
import Derived.OwnWalkIn
import Derived.TacticsInMore
import Derived.LoopNIn
import Derived.LoopIn
import Derived.Deep.RegionHeld
namespace Go.Proofs.YtfdnmjabjmedgaaDoor
open Go.Den Go.RowKit Go.ChangeShapes Go.Shelf

def site_in_L : List (Nat × FSpec) := []
theorem site_in_l : AllMeet Tryd.prog V site_in_L := .nil
set_option maxRecDepth 100000 in
theorem site_in_d : ∀ x : Int × Int × Int, denote (mkC Tryd.prog V site_in_L) 1 (inlOf Tryd.f49 {}) [I64, I64, I64] [Bo] false x = site_in_t x := fun x => by kernel_rfl
theorem site_in_m : Meets Tryd.prog V 49 (spT [I64, I64, I64] [Bo] site_in) := meets_tot site_in_l stays hmix (hs := {}) (fnOK Tryd.func49 (by kernel_rfl) (by kernel_rfl) (by kernel_rfl)) false fun x => (site_in_d x).trans (site_in_e x)
def site_shape_L : List (Nat × FSpec) := [(49, (spT [I64, I64, I64] [Bo] site_in))]
theorem site_shape_l : AllMeet Tryd.prog V site_shape_L := (.cons site_in_m .nil)
set_option maxRecDepth 100000 in
theorem site_shape_d : ∀ x : PSSite, denote (mkC Tryd.prog V site_shape_L) 1 (inlOf Tryd.f50 { loops := [(0, [.slot 48 I64])] }) [SSite] [Bo] false x = site_shape_t x := fun x => by kernel_rfl
theorem site_shape_m : Meets Tryd.prog V 50 (spP [SSite] [Bo] site_shape_t) := meets_part site_shape_l stays hmix (hs := { loops := [(0, [.slot 48 I64])] }) (fnOK Tryd.func50 (by kernel_rfl) (by kernel_rfl) (by kernel_rfl)) false site_shape_d
def site_ticks_L : List (Nat × FSpec) := [(49, (spT [I64, I64, I64] [Bo] site_in))]
theorem site_ticks_l : AllMeet Tryd.prog V site_ticks_L := (.cons site_in_m .nil)
set_option maxRecDepth 100000 in
theorem site_ticks_d : ∀ x : List Int, denote (mkC Tryd.prog V site_ticks_L) 1 (inlOf Tryd.f84 { loops := [(0, [.slot 7 I64])] }) [I64s] [Bo] false x = site_ticks_t x := fun x => by kernel_rfl
theorem site_ticks_m : Meets Tryd.prog V 84 (spT [I64s] [Bo] site_ticks) := meets_up (meets_part site_ticks_l stays hmix (hs := { loops := [(0, [.slot 7 I64])] }) (fnOK Tryd.func84 (by kernel_rfl) (by kernel_rfl) (by kernel_rfl)) false site_ticks_d) site_ticks_e
def ring_bit_L : List (Nat × FSpec) := []
theorem ring_bit_l : AllMeet Tryd.prog V ring_bit_L := .nil
set_option maxRecDepth 100000 in
theorem ring_bit_d : ∀ x : Int, denote (mkC Tryd.prog V ring_bit_L) 1 (inlOf Tryd.f108 {}) [I64] [U32] false x = ring_bit_t x := fun x => by kernel_rfl
theorem ring_bit_m : Meets Tryd.prog V 108 (spT [I64] [U32] ring_bit) := meets_up (meets_part ring_bit_l stays hmix (hs := {}) (fnOK Tryd.func108 (by kernel_rfl) (by kernel_rfl) (by kernel_rfl)) false ring_bit_d) ring_bit_e
def ring_Has_L : List (Nat × FSpec) := [(108, (spT [I64] [U32] ring_bit))]
theorem ring_Has_l : AllMeet Tryd.prog V ring_Has_L := (.cons ring_bit_m .nil)
set_option maxRecDepth 100000 in
theorem ring_Has_d : ∀ x : Int × Int, denote (mkC Tryd.prog V ring_Has_L) 1 (inlOf Tryd.f85 {}) [U32, I64] [Bo] false x = ring_Has_t x := fun x => by kernel_rfl
theorem ring_Has_m : Meets Tryd.prog V 85 (spT [U32, I64] [Bo] ring_Has) := meets_tot ring_Has_l stays hmix (hs := {}) (fnOK Tryd.func85 (by kernel_rfl) (by kernel_rfl) (by kernel_rfl)) false fun x => (ring_Has_d x).trans (ring_Has_e x)
def site_apart_L : List (Nat × FSpec) := [(84, (spT [I64s] [Bo] site_ticks)), (85, (spT [U32, I64] [Bo] ring_Has)), (49, (spT [I64, I64, I64] [Bo] site_in))]
theorem site_apart_l : AllMeet Tryd.prog V site_apart_L := (.cons site_ticks_m (.cons ring_Has_m (.cons site_in_m .nil)))
set_option maxRecDepth 100000 in
theorem site_apart_d : ∀ x : PSSite, denote (mkC Tryd.prog V site_apart_L) 1 (inlOf Tryd.f51 { loops := [(0, [.slot 11 I64]), (2, [.slot 39 I64])] }) [SSite] [Bo] false x = site_apart_t x := fun x => by kernel_rfl
theorem site_apart_m : Meets Tryd.prog V 51 (spP [SSite] [Bo] site_apart_t) := meets_part site_apart_l stays hmix (hs := { loops := [(0, [.slot 11 I64]), (2, [.slot 39 I64])] }) (fnOK Tryd.func51 (by kernel_rfl) (by kernel_rfl) (by kernel_rfl)) false site_apart_d
def ring_Least_L : List (Nat × FSpec) := [(109, (spT [U32] [I64] bits_TrailingZeros32))]
theorem ring_Least_l : AllMeet Tryd.prog V ring_Least_L := (.cons bits_TrailingZeros32_m .nil)
set_option maxRecDepth 100000 in
theorem ring_Least_d : ∀ x : Int, denote (mkC Tryd.prog V ring_Least_L) 1 (inlOf Tryd.f86 {}) [U32] [I64] false x = ring_Least_t x := fun x => by kernel_rfl
theorem ring_Least_m : Meets Tryd.prog V 86 (spT [U32] [I64] ring_Least) := meets_tot ring_Least_l stays hmix (hs := {}) (fnOK Tryd.func86 (by kernel_rfl) (by kernel_rfl) (by kernel_rfl)) false fun x => (ring_Least_d x).trans (ring_Least_e x)
def ring_Without_L : List (Nat × FSpec) := [(108, (spT [I64] [U32] ring_bit))]
theorem ring_Without_l : AllMeet Tryd.prog V ring_Without_L := (.cons ring_bit_m .nil)
set_option maxRecDepth 100000 in
theorem ring_Without_d : ∀ x : Int × Int, denote (mkC Tryd.prog V ring_Without_L) 1 (inlOf Tryd.f87 {}) [U32, I64] [U32] false x = ring_Without_t x := fun x => by kernel_rfl
theorem ring_Without_m : Meets Tryd.prog V 87 (spT [U32, I64] [U32] ring_Without) := meets_tot ring_Without_l stays hmix (hs := {}) (fnOK Tryd.func87 (by kernel_rfl) (by kernel_rfl) (by kernel_rfl)) false fun x => (ring_Without_d x).trans (ring_Without_e x)
theorem bits_OnesCount32_d : ∀ x : Int, denote (mkC Tryd.prog V []) 1 (inlOf Tryd.f110 {}) [U32] [I64] false x = ocTree x := fun x => by kernel_rfl
theorem bits_OnesCount32_m : Meets Tryd.prog V 110 (spT [U32] [I64] bits_OnesCount32) := meets_up (meets_part .nil stays hmix (hs := {}) (fnOK Tryd.func110 (by kernel_rfl) (by kernel_rfl) (by kernel_rfl)) false bits_OnesCount32_d) (fun x hf => ocTree_eq (fits_u32 hf))

def ring_Count_L : List (Nat × FSpec) := [(110, (spT [U32] [I64] bits_OnesCount32))]
theorem ring_Count_l : AllMeet Tryd.prog V ring_Count_L := (.cons bits_OnesCount32_m .nil)
set_option maxRecDepth 100000 in
theorem ring_Count_d : ∀ x : Int, denote (mkC Tryd.prog V ring_Count_L) 1 (inlOf Tryd.f88 {}) [U32] [I64] false x = ring_Count_t x := fun x => by kernel_rfl
theorem ring_Count_m : Meets Tryd.prog V 88 (spT [U32] [I64] ring_Count) := meets_tot ring_Count_l stays hmix (hs := {}) (fnOK Tryd.func88 (by kernel_rfl) (by kernel_rfl) (by kernel_rfl)) false fun x => (ring_Count_d x).trans (ring_Count_e x)
def site_phased_L : List (Nat × FSpec) := [(84, (spT [I64s] [Bo] site_ticks)), (86, (spT [U32] [I64] ring_Least)), (87, (spT [U32, I64] [U32] ring_Without)), (88, (spT [U32] [I64] ring_Count))]
theorem site_phased_l : AllMeet Tryd.prog V site_phased_L := (.cons site_ticks_m (.cons ring_Least_m (.cons ring_Without_m (.cons ring_Count_m .nil))))
set_option maxRecDepth 100000 in
theorem site_phased_d : ∀ x : PSSite, denote (mkC Tryd.prog V site_phased_L) 1 (inlOf Tryd.f52 { loops := [(0, [.slot 3 U32, .slot 11 I64]), (2, [.slot 6 U32])] }) [SSite] [Bo] false x = site_phased_t x := fun x => by kernel_rfl
theorem site_phased_m : Meets Tryd.prog V 52 (spP [SSite] [Bo] site_phased_t) := meets_part site_phased_l stays hmix (hs := { loops := [(0, [.slot 3 U32, .slot 11 I64]), (2, [.slot 6 U32])] }) (fnOK Tryd.func52 (by kernel_rfl) (by kernel_rfl) (by kernel_rfl)) false site_phased_d
def site_eyed_L : List (Nat × FSpec) := [(49, (spT [I64, I64, I64] [Bo] site_in)), (84, (spT [I64s] [Bo] site_ticks))]
theorem site_eyed_l : AllMeet Tryd.prog V site_eyed_L := (.cons site_in_m (.cons site_ticks_m .nil))
set_option maxRecDepth 100000 in
theorem site_eyed_d : ∀ x : PSSite, denote (mkC Tryd.prog V site_eyed_L) 1 (inlOf Tryd.f53 { loops := [(0, [.slot 8 I64])] }) [SSite] [Bo] false x = site_eyed_t x := fun x => by kernel_rfl
theorem site_eyed_m : Meets Tryd.prog V 53 (spP [SSite] [Bo] site_eyed_t) := meets_part site_eyed_l stays hmix (hs := { loops := [(0, [.slot 8 I64])] }) (fnOK Tryd.func53 (by kernel_rfl) (by kernel_rfl) (by kernel_rfl)) false site_eyed_d
def site_clear_L : List (Nat × FSpec) := [(85, (spT [U32, I64] [Bo] ring_Has)), (86, (spT [U32] [I64] ring_Least)), (87, (spT [U32, I64] [U32] ring_Without))]
theorem site_clear_l : AllMeet Tryd.prog V site_clear_L := (.cons ring_Has_m (.cons ring_Least_m (.cons ring_Without_m .nil)))
set_option maxRecDepth 100000 in
theorem site_clear_d : ∀ x : PSSite × Int × Int, denote (mkC Tryd.prog V site_clear_L) 1 (inlOf Tryd.f91 { loops := [(0, [.slot 6 I64, .slot 13 I64]), (2, [.slot 6 I64, .slot 8 U32])] }) [SSite, I64, I64] [I64] false x = site_clear_t x := fun x => by kernel_rfl
theorem site_clear_m : Meets Tryd.prog V 91 (spP [SSite, I64, I64] [I64] site_clear_t) := meets_part site_clear_l stays hmix (hs := { loops := [(0, [.slot 6 I64, .slot 13 I64]), (2, [.slot 6 I64, .slot 8 U32])] }) (fnOK Tryd.func91 (by kernel_rfl) (by kernel_rfl) (by kernel_rfl)) false site_clear_d
def site_needs_L : List (Nat × FSpec) := [(91, (spP [SSite, I64, I64] [I64] site_clear_t))]
theorem site_needs_l : AllMeet Tryd.prog V site_needs_L := (.cons site_clear_m .nil)
set_option maxRecDepth 100000 in
theorem site_needs_d : ∀ x : PSSite × Int, denote (mkC Tryd.prog V site_needs_L) 1 (inlOf Tryd.f83 {}) [SSite, I64] [I64] false x = site_needs_t x := fun x => by kernel_rfl
theorem site_needs_m : Meets Tryd.prog V 83 (spP [SSite, I64] [I64] site_needs_t) := meets_part site_needs_l stays hmix (hs := {}) (fnOK Tryd.func83 (by kernel_rfl) (by kernel_rfl) (by kernel_rfl)) false site_needs_d
def site_timed_L : List (Nat × FSpec) := [(83, (spP [SSite, I64] [I64] site_needs_t)), (84, (spT [I64s] [Bo] site_ticks))]
theorem site_timed_l : AllMeet Tryd.prog V site_timed_L := (.cons site_needs_m (.cons site_ticks_m .nil))
set_option maxRecDepth 100000 in
theorem site_timed_d : ∀ x : PSSite, denote (mkC Tryd.prog V site_timed_L) 1 (inlOf Tryd.f54 { loops := [(0, [.slot 3 I64, .slot 8 I64])] }) [SSite] [Bo] false x = site_timed_t x := fun x => by kernel_rfl
theorem site_timed_m : Meets Tryd.prog V 54 (spP [SSite] [Bo] site_timed_t) := meets_part site_timed_l stays hmix (hs := { loops := [(0, [.slot 3 I64, .slot 8 I64])] }) (fnOK Tryd.func54 (by kernel_rfl) (by kernel_rfl) (by kernel_rfl)) false site_timed_d
def site_fits_L : List (Nat × FSpec) := [(49, (spT [I64, I64, I64] [Bo] site_in)), (83, (spP [SSite, I64] [I64] site_needs_t))]
theorem site_fits_l : AllMeet Tryd.prog V site_fits_L := (.cons site_in_m (.cons site_needs_m .nil))
set_option maxRecDepth 100000 in
theorem site_fits_d : ∀ x : PSSite × PSPlan, denote (mkC Tryd.prog V site_fits_L) 1 (inlOf Tryd.f47 { loops := [(0, [.slot 5 I64, .slot 39 I64])] }) [SSite, SPlan] [Bo] false x = site_fits_t x := fun x => by kernel_rfl
theorem site_fits_m : Meets Tryd.prog V 47 (spP [SSite, SPlan] [Bo] site_fits_t) := meets_part site_fits_l stays hmix (hs := { loops := [(0, [.slot 5 I64, .slot 39 I64])] }) (fnOK Tryd.func47 (by kernel_rfl) (by kernel_rfl) (by kernel_rfl)) false site_fits_d
def site_planned_L : List (Nat × FSpec) := [(47, (spP [SSite, SPlan] [Bo] site_fits_t))]
theorem site_planned_l : AllMeet Tryd.prog V site_planned_L := (.cons site_fits_m .nil)
set_option maxRecDepth 100000 in
theorem site_planned_d : ∀ x : PSSite, denote (mkC Tryd.prog V site_planned_L) 1 (inlOf Tryd.f55 { loops := [(0, [.slot 8 I64])] }) [SSite] [Bo] false x = site_planned_t x := fun x => by kernel_rfl
theorem site_planned_m : Meets Tryd.prog V 55 (spP [SSite] [Bo] site_planned_t) := meets_part site_planned_l stays hmix (hs := { loops := [(0, [.slot 8 I64])] }) (fnOK Tryd.func55 (by kernel_rfl) (by kernel_rfl) (by kernel_rfl)) false site_planned_d
def site_Check_L : List (Nat × FSpec) := [(49, (spT [I64, I64, I64] [Bo] site_in)), (50, (spP [SSite] [Bo] site_shape_t)), (51, (spP [SSite] [Bo] site_apart_t)), (52, (spP [SSite] [Bo] site_phased_t)), (53, (spP [SSite] [Bo] site_eyed_t)), (54, (spP [SSite] [Bo] site_timed_t)), (55, (spP [SSite] [Bo] site_planned_t))]
theorem site_Check_l : AllMeet Tryd.prog V site_Check_L := (.cons site_in_m (.cons site_shape_m (.cons site_apart_m (.cons site_phased_m (.cons site_eyed_m (.cons site_timed_m (.cons site_planned_m .nil)))))))
set_option maxRecDepth 100000 in
theorem site_Check_d : ∀ x : PSSite, denote (mkC Tryd.prog V site_Check_L) 1 (inlOf Tryd.f26 { loops := [(0, [.slot 3 Bo, .slot 5 I64])] }) [SSite] [I64] false x = site_Check_t x := fun x => by kernel_rfl
theorem site_Check_m : Meets Tryd.prog V 26 (spP [SSite] [I64] site_Check_t) := meets_part site_Check_l stays hmix (hs := { loops := [(0, [.slot 3 Bo, .slot 5 I64])] }) (fnOK Tryd.func26 (by kernel_rfl) (by kernel_rfl) (by kernel_rfl)) false site_Check_d
def site_Plan_L : List (Nat × FSpec) := [(26, (spP [SSite] [I64] site_Check_t)), (47, (spP [SSite, SPlan] [Bo] site_fits_t))]
theorem site_Plan_l : AllMeet Tryd.prog V site_Plan_L := (.cons site_Check_m (.cons site_fits_m .nil))
set_option maxRecDepth 100000 in
theorem site_Plan_d : ∀ x : PSSite × PSPlan, denote (mkC Tryd.prog V site_Plan_L) 1 (inlOf Tryd.f24 {}) [SSite, SPlan] [Bo, I64] false x = site_Plan_t x := fun x => by kernel_rfl
theorem site_Plan_m : Meets Tryd.prog V 24 (spP [SSite, SPlan] [Bo, I64] site_Plan_t) := meets_part site_Plan_l stays hmix (hs := {}) (fnOK Tryd.func24 (by kernel_rfl) (by kernel_rfl) (by kernel_rfl)) false site_Plan_d
def law17_three_L : List (Nat × FSpec) := []
theorem law17_three_l : AllMeet Tryd.prog V law17_three_L := .nil
set_option maxRecDepth 100000 in
theorem law17_three_d : ∀ x : Unit, denote (mkC Tryd.prog V law17_three_L) 1 (inlOf Tryd.f11 {}) [] [SSite] false x = law17_three_t x := fun x => by kernel_rfl
theorem law17_three_m : Meets Tryd.prog V 11 (spT [] [SSite] law17_three) := meets_tot law17_three_l stays hmix (hs := {}) (fnOK Tryd.func11 (by kernel_rfl) (by kernel_rfl) (by kernel_rfl)) false fun x => (law17_three_d x).trans (law17_three_e x)
def plan_next_L : List (Nat × FSpec) := []
theorem plan_next_l : AllMeet Tryd.prog V plan_next_L := .nil
set_option maxRecDepth 100000 in
theorem plan_next_d : ∀ x : PSSite × Int, denote (mkC Tryd.prog V plan_next_L) 1 (inlOf Tryd.f28 {}) [SSite, I64] [I64] false x = plan_next_t x := fun x => by kernel_rfl
theorem plan_next_m : Meets Tryd.prog V 28 (spP [SSite, I64] [I64] plan_next_t) := meets_part plan_next_l stays hmix (hs := {}) (fnOK Tryd.func28 (by kernel_rfl) (by kernel_rfl) (by kernel_rfl)) false plan_next_d
def site_Clear_L : List (Nat × FSpec) := [(91, (spP [SSite, I64, I64] [I64] site_clear_t)), (26, (spP [SSite] [I64] site_Check_t)), (49, (spT [I64, I64, I64] [Bo] site_in))]
theorem site_Clear_l : AllMeet Tryd.prog V site_Clear_L := (.cons site_clear_m (.cons site_Check_m (.cons site_in_m .nil)))
noncomputable def site_Clear_I : List (Nat × Inl) := [(89, inlOf Tryd.f89 { loops := [(0, [.slot 17 I64])] }), (90, inlOf Tryd.f90 {})]
theorem site_Clear_i : AllOK Tryd.prog site_Clear_I := (.cons (fnOK Tryd.func89 (by kernel_rfl) (by kernel_rfl) (by kernel_rfl)) (.cons (fnOK Tryd.func90 (by kernel_rfl) (by kernel_rfl) (by kernel_rfl)) .nil))
set_option maxRecDepth 100000 in
theorem site_Clear_d : ∀ x : PSSite × Int × Int, denote (mkC Tryd.prog V site_Clear_L site_Clear_I) 3 (inlOf Tryd.f56 { joins := [(2, [])], outs := [(2, [(8, I64)])] }) [SSite, I64, I64] [I64, I64] false x = site_Clear_t x := fun x => by kernel_rfl
theorem site_Clear_m : Meets Tryd.prog V 56 (spP [SSite, I64, I64] [I64, I64] site_Clear_t) := meets_part_il site_Clear_l stays hmix site_Clear_i (hs := { joins := [(2, [])], outs := [(2, [(8, I64)])] }) (fnOK Tryd.func56 (by kernel_rfl) (by kernel_rfl) (by kernel_rfl)) false 3 site_Clear_d
def plan_clear_L : List (Nat × FSpec) := [(28, (spP [SSite, I64] [I64] plan_next_t)), (56, (spP [SSite, I64, I64] [I64, I64] site_Clear_t))]
theorem plan_clear_l : AllMeet Tryd.prog V plan_clear_L := (.cons plan_next_m (.cons site_Clear_m .nil))
set_option maxRecDepth 100000 in
theorem plan_clear_d : ∀ x : PSSite × Int, denote (mkC Tryd.prog V plan_clear_L) 1 (inlOf Tryd.f27 {}) [SSite, I64] [I64] false x = plan_clear_t x := fun x => by kernel_rfl
theorem plan_clear_m : Meets Tryd.prog V 27 (spP [SSite, I64] [I64] plan_clear_t) := meets_part plan_clear_l stays hmix (hs := {}) (fnOK Tryd.func27 (by kernel_rfl) (by kernel_rfl) (by kernel_rfl)) false plan_clear_d
def plan_Clamp_L : List (Nat × FSpec) := [(26, (spP [SSite] [I64] site_Check_t)), (27, (spP [SSite, I64] [I64] plan_clear_t))]
theorem plan_Clamp_l : AllMeet Tryd.prog V plan_Clamp_L := (.cons site_Check_m (.cons plan_clear_m .nil))
set_option maxRecDepth 100000 in
theorem plan_Clamp_d : ∀ x : PSSite × PSPlan, denote (mkC Tryd.prog V plan_Clamp_L) 1 (inlOf Tryd.f10 { loops := [(0, [.slot 54 I64, .slot 8 I64, .slot 9 I64, .slot 10 I64, .fown 7 (.pair I64 I64) I64 .unit, .arr 11 I64]), (2, [.slot 115 I64, .slot 15 I64, .fown 7 (.pair I64 I64) I64 .unit])], joins := [(14, [.fown 7 (.pair I64 I64) I64 .unit, .arr 11 I64]), (16, [.slot 10 I64, .fown 7 (.pair I64 I64) I64 .unit, .arr 11 I64])] }) [SSite, SPlan] [SPlan, I64] false x = plan_Clamp_t x := fun x => by kernel_rfl
theorem plan_Clamp_m : Meets Tryd.prog V 10 (spP [SSite, SPlan] [SPlan, I64] plan_Clamp_t) := meets_part plan_Clamp_l stays hmix (hs := { loops := [(0, [.slot 54 I64, .slot 8 I64, .slot 9 I64, .slot 10 I64, .fown 7 (.pair I64 I64) I64 .unit, .arr 11 I64]), (2, [.slot 115 I64, .slot 15 I64, .fown 7 (.pair I64 I64) I64 .unit])], joins := [(14, [.fown 7 (.pair I64 I64) I64 .unit, .arr 11 I64]), (16, [.slot 10 I64, .fown 7 (.pair I64 I64) I64 .unit, .arr 11 I64])] }) (fnOK Tryd.func10 (by kernel_rfl) (by kernel_rfl) (by kernel_rfl)) false plan_Clamp_d
def law17_alive_L : List (Nat × FSpec) := [(11, (spT [] [SSite] law17_three)), (10, (spP [SSite, SPlan] [SPlan, I64] plan_Clamp_t))]
theorem law17_alive_l : AllMeet Tryd.prog V law17_alive_L := (.cons law17_three_m (.cons plan_Clamp_m .nil))
noncomputable def law17_alive_I : List (Nat × Inl) := [(12, inlOf Tryd.f12 {})]
theorem law17_alive_i : AllOK Tryd.prog law17_alive_I := (.cons (fnOK Tryd.func12 (by kernel_rfl) (by kernel_rfl) (by kernel_rfl)) .nil)
set_option maxRecDepth 100000 in
theorem law17_alive_d : ∀ x : Unit, denote (mkC Tryd.prog V law17_alive_L law17_alive_I) 2 (inlOf Tryd.f7 {}) [] [Bo] false x = law17_alive_t x := fun x => by kernel_rfl
theorem law17_alive_m : Meets Tryd.prog V 7 (spP [] [Bo] law17_alive_t) := meets_part_il law17_alive_l stays hmix law17_alive_i (hs := {}) (fnOK Tryd.func7 (by kernel_rfl) (by kernel_rfl) (by kernel_rfl)) false 2 law17_alive_d
def ref05_Great_L : List (Nat × FSpec) := []
theorem ref05_Great_l : AllMeet Tryd.prog V ref05_Great_L := .nil
set_option maxRecDepth 100000 in
theorem ref05_Great_d : ∀ x : PSSite, denote (mkC Tryd.prog V ref05_Great_L) 1 (inlOf Tryd.f8 { loops := [(0, [.slot 3 I64]), (2, [.slot 4 I64])] }) [SSite] [Bo] false x = ref05_Great_t x := fun x => by kernel_rfl
theorem ref05_Great_m : Meets Tryd.prog V 8 (spP [SSite] [Bo] ref05_Great_t) := meets_part ref05_Great_l stays hmix (hs := { loops := [(0, [.slot 3 I64]), (2, [.slot 4 I64])] }) (fnOK Tryd.func8 (by kernel_rfl) (by kernel_rfl) (by kernel_rfl)) false ref05_Great_d
attribute [local go_sem] Oper.semAt_some
attribute [local go_sem] Oper.semAt_some

abbrev AtIx (L : Nat) : Type := { k : Nat // k < L }
def at_upto (L k : Nat) : List (AtIx L) := (List.range k).filterMap fun j => if h : j < L then some ⟨j, h⟩ else none
theorem at_upto_succ {L k : Nat} (h : k < L) : at_upto L (k + 1) = at_upto L k ++ [⟨k, h⟩] := by
  unfold at_upto
  rw [List.range_succ, List.filterMap_append]
  simp [h]
theorem at_upto_length {L : Nat} : ∀ k : Nat, k ≤ L → (at_upto L k).length = k
  | 0, _ => rfl
  | k + 1, h => by rw [at_upto_succ (by omega), List.length_append, at_upto_length k (by omega)]; rfl
theorem at_upto_mem {L k : Nat} (j : AtIx L) (h : j.1 < k) : j ∈ at_upto L k := by
  unfold at_upto
  rw [List.mem_filterMap]
  exact ⟨j.1, by simpa using h, by simp [j.2]⟩

theorem wr_wrap (n : Int) : wr .i64 n = wrap64 n := by unfold wr wrap64; rw [IntKind.wrap_i64]
theorem at_ends_succ (zs : List Int) (k : Nat) : at_ends zs (k + 1) = wrap64 (at_ends zs k + (zs[k]?).getD 0) := wr_wrap _

set_option maxRecDepth 100000 in
set_option maxHeartbeats 4000000 in
theorem at_rounds (F : Fence) (n : Nat) (h8 : F.fn 48) (hro : F.round = none) (hn : 1 ≤ n) (l Bs n₀ b off len cap : Nat) (c0 o0 : Int) (zs : List Int) (hreach : len ≤ 1000000) (hb : b < n₀) (J Jx : List (AtIx len) → World → Prop)
    (hY : ∀ pre x W, J pre W → pre.length < len → YieldAt F (n - 1) Tryd.prog l #[.int .i64 (x.1 : Int), .int .i64 (at_ends zs (x.1 + 1))] W fun e W' =>
      (e = .returned (.bool true) ∧ J (pre ++ [x]) W' ∧ Below n₀ W W') ∨ (e = .returned (.bool false) ∧ Jx (pre ++ [x]) W'))
    (W : World) (hBs : W.heap[Bs]? = some (.cells #[.int .i64 c0, .int .i64 o0, .slice (some ⟨b, off, none⟩) len cap] 32 (0, 0))) (hc : ∀ j, j < len → W.cell? ⟨b, off + j, none⟩ = some (.int .i64 (zs[j]?.getD 0))) (h0 : J [] W) :
    CallsIn F n Tryd.prog 48 #[.func (.yield l) #[] #[], .pointer (some ⟨Bs, 0, none⟩)] W fun e W' => (∃ v, e = .returned v) ∧
      ((∃ ys, ys = at_upto len len ∧ J ys W') ∨ (∃ pre, (∃ k, k ≤ len ∧ pre = at_upto len k) ∧ Jx pre W')) := by
  have hs2 : W.cell? ⟨Bs, 2, none⟩ = some (.slice (some ⟨b, off, none⟩) len cap) := by simp [World.cell?, hBs]
  refine callsIn_of_wp Tryd.func48 rfl h8 ?_ hro
  simp only [Tryd.ntmps48, List.size_toArray, List.length_cons, List.length_nil, Nat.reduceAdd, Nat.reduceSub, Array.replicate_succ, Array.replicate_zero, List.push_toArray, List.append_toArray, List.nil_append, List.cons_append]
  gi_wp2
  gi_loopw [3, 9] (fun e i wr => ∃ k : Nat, k ≤ len ∧ e = .int .i64 (at_ends zs k) ∧ i = .int .i64 k ∧ J (at_upto len k) wr ∧ Below n₀ W wr)
    (fun _ i _ => len - (intOf i).toNat)
  case atStart => exact ⟨0, Nat.zero_le _, rfl, rfl, h0, Below.refl _ _⟩
  case round =>
    obtain ⟨k, hk, rfl, rfl, hJs, hnx⟩ := hrel
    have hcx : k < len → wr.cell? ⟨b, off + k, none⟩ = some (.int .i64 (zs[k]?.getD 0)) := fun h => (hnx.cell (p := ⟨b, off + k, none⟩) hb).trans (hc k h)
    by_cases hlt : k < len
    · obtain ⟨fn, tmps, assign, body, hy, hR⟩ := hY _ ⟨k, hlt⟩ wr hJs (by rw [at_upto_length _ hk]; exact hlt)
      simp only [at_ends_succ] at hy
      have hcx' := hcx hlt
      gi_wp2
      refine hR.mono ?_
      rintro e W3 (⟨rfl, hJ3, hk3⟩ | ⟨rfl, hJx3⟩)
      · gi_wp2
        go_roundw
        case rel => exact ⟨k + 1, by omega, by rw [at_ends_succ], by simp, by rw [at_upto_succ hlt]; exact hJ3, hnx.trans hk3⟩
        case measure => simp [intOf]; omega
      · gi_wp2
        refine bodyPost_ret (results_none rfl _ _ _) rfl ?_
        exact ⟨⟨_, rfl⟩, .inr ⟨_, ⟨k + 1, by omega, (at_upto_succ hlt).symm⟩, hJx3⟩⟩
    · obtain rfl : k = len := by omega
      gi_wp2
      go_end0
      exact ⟨⟨_, rfl⟩, .inl ⟨_, rfl, hJs⟩⟩
set_option maxRecDepth 100000 in
set_option maxHeartbeats 1000000 in
/-- at no part: no round -/
theorem at_rounds_nil (F : Fence) (n : Nat) (h8 : F.fn 48) (hro : F.round = none) (l Bs : Nat) (c0 o0 : Int) (ad : Option Addr) (cap : Nat) {L : Nat} (J : List (AtIx L) → World → Prop) (W : World) (hBs : W.heap[Bs]? = some (.cells #[.int .i64 c0, .int .i64 o0, .slice ad 0 cap] 32 (0, 0))) (h0 : J [] W) :
    CallsIn F n Tryd.prog 48 #[.func (.yield l) #[] #[], .pointer (some ⟨Bs, 0, none⟩)] W fun e W' => (∃ v, e = .returned v) ∧ J [] W' := by
  have hs2 : W.cell? ⟨Bs, 2, none⟩ = some (.slice ad 0 cap) := by simp [World.cell?, hBs]
  refine callsIn_of_wp Tryd.func48 rfl h8 ?_ hro
  simp only [Tryd.ntmps48, List.size_toArray, List.length_cons, List.length_nil, Nat.reduceAdd, Nat.reduceSub, Array.replicate_succ, Array.replicate_zero, List.push_toArray, List.append_toArray, List.nil_append, List.cons_append]
  gi_wp2
  gi_loopw [9] (fun i wr => i = .int .i64 0 ∧ J [] wr) (fun _ _ => 0)
  case atStart => exact ⟨rfl, h0⟩
  case round =>
    obtain ⟨rfl, hJs⟩ := hrel
    gi_wp2
    go_end0
    exact ⟨⟨_, rfl⟩, hJs⟩

set_option maxHeartbeats 1000000 in
theorem at_parts (F : Fence) (n : Nat) (h5 : F.fn 25) (hro : F.round = none) (c0 o0 : Int) (sv : Value) (w : World) :
    CallsIn F n Tryd.prog 25 #[.agg #[.int .i64 c0, .int .i64 o0, sv]] w fun e w' => e = .returned (.func (.func 48) #[] #[.pointer (some ⟨w.heap.size, 0, none⟩)]) ∧ w' = w.alloc (.cells #[.int .i64 c0, .int .i64 o0, sv] 32) := by
  refine callsIn_of_wp Tryd.func25 rfl h5 ?_ hro
  simp only [Tryd.ntmps25, List.size_toArray, List.length_cons, List.length_nil, Nat.reduceAdd, Nat.reduceSub, Array.replicate_succ, Array.replicate_zero, List.push_toArray, List.append_toArray, List.nil_append, List.cons_append]
  gi_wp2
  go_ret
  exact ⟨rfl, rfl⟩

/-- the slice value holds these numbers, in a block below n₀ (or holds none) -/
def AtInts (n₀ : Nat) (W : World) (sv : Value) (zs : List Int) : Prop :=
  (∃ ad cap, sv = .slice ad 0 cap ∧ zs = []) ∨ ∃ b off cap, sv = .slice (some ⟨b, off, none⟩) zs.length cap ∧ b < n₀ ∧ ∀ j, j < zs.length → W.cell? ⟨b, off + j, none⟩ = some (.int .i64 (zs[j]?.getD 0))
theorem AtInts.below {n₀ : Nat} {A B : World} (h : Below n₀ A B) {sv : Value} {zs : List Int} : AtInts n₀ A sv zs → AtInts n₀ B sv zs
  | .inl e => .inl e
  | .inr ⟨b, off, cap, e, hb, hc⟩ => .inr ⟨b, off, cap, e, hb, fun j hj => (h.cell (p := ⟨b, off + j, none⟩) hb).trans (hc j hj)⟩

theorem at_stops (F : Fence) (n : Nat) (h8 : F.fn 48) (hro : F.round = none) (hn : 1 ≤ n) (Bs n₀ : Nat) (c0 o0 : Int) (sv : Value) (zs : List Int) (hreach : zs.length ≤ 1000000) (w : World) (hn₀ : n₀ ≤ w.heap.size)
    (hc : w.heap[Bs]? = some (.cells #[.int .i64 c0, .int .i64 o0, sv] 32 (0, 0))) (hI : AtInts n₀ w sv zs) :
    SeqStopsK F n Tryd.prog 48 #[.pointer (some ⟨Bs, 0, none⟩)] (fun x : AtIx zs.length => #[Value.int .i64 (x.1 : Int), Value.int .i64 (at_ends zs (x.1 + 1))]) (Below n₀) (fun ys => ys = at_upto zs.length zs.length) (fun pre => ∃ k, k ≤ zs.length ∧ pre = at_upto zs.length k) zs.length w := fun l J Jx W hW _ _ hY h0 => by
  have hc' : W.heap[Bs]? = some (.cells #[.int .i64 c0, .int .i64 o0, sv] 32 (0, 0)) := by rw [hW.block Bs ((Array.getElem?_eq_some_iff.1 hc).1)]; exact hc
  rcases hI.below (hW.mono hn₀) with ⟨ad, cap, rfl, rfl⟩ | ⟨b, off, cap, rfl, hb, hcs⟩
  · exact (at_rounds_nil F n h8 hro l Bs c0 o0 ad cap J W hc' h0).mono fun e W' ⟨he, hj⟩ => ⟨he, .inl ⟨_, rfl, hj⟩⟩
  · refine (at_rounds F n h8 hro hn l Bs n₀ b off zs.length cap c0 o0 zs hreach hb J Jx hY W hc' hcs h0).mono ?_
    rintro e W' ⟨he, ⟨ys, rfl, hj⟩ | ⟨pre, ⟨k, hk, rfl⟩, hj⟩⟩
    · exact ⟨he, .inl ⟨_, rfl, hj⟩⟩
    · exact ⟨he, .inr ⟨_, ⟨k, hk, rfl⟩, hj⟩⟩



/-! # A drawn region, order by order, by what holds of every beginning of it -/
theorem wpAnyIn_inv {F : Fence} {n : Nat} {P : Program} {ops : Array Oper} {Q : Exit → Act → World → Prop} (Inv : Array Bool → Act → World → Prop)
    (hstep : ∀ L a w i, Inv L a w → i ∈ Region.ready .any ops L → wpOpIn F n P ops Q i (Inv (L.setIfInBounds i true)) a w)
    (hdone : ∀ L a w, Inv L a w → Region.ready .any ops L = [] → Q .normal a w) :
    ∀ (fuel : Nat) (L : Array Bool) (a : Act) (w : World), Inv L a w → L.toList.countP (fun b => !b) ≤ fuel → wpAnyIn F n P .any ops Q fuel L a w
  | 0, L, a, w, hI, hc => by
    have hr : Region.ready .any ops L = [] := by
      cases hr : Region.ready .any ops L with
      | nil => rfl
      | cons i r =>
        obtain ⟨o, _, h2, _⟩ := ready_iff.1 (show i ∈ Region.ready .any ops L by rw [hr]; simp)
        have hm : false ∈ L.toList := by
          obtain ⟨hlt, he⟩ := Array.getElem?_eq_some_iff.1 h2
          rw [← he]; simp
        have := List.countP_pos_iff (p := fun b => !b) |>.2 ⟨false, hm, rfl⟩
        omega
    exact ⟨hr, hdone L a w hI hr⟩
  | fuel + 1, L, a, w, hI, hc => by
    refine ⟨hdone L a w hI, fun i hi => ?_⟩
    obtain ⟨o, _, h2, _⟩ := ready_iff.1 hi
    obtain ⟨hlt, he⟩ := Array.getElem?_eq_some_iff.1 h2
    refine wpOpIn_mono (fun a' w' hI' => wpAnyIn_inv Inv hstep hdone fuel _ a' w' hI' ?_) (hstep L a w i hI hi)
    rw [Array.toList_setIfInBounds, List.countP_set (by simpa using hlt)]
    have e2 : L.toList[i]'(by simpa using hlt) = false := by simpa using he
    rw [e2]
    have hm : false ∈ L.toList := by rw [← e2]; exact List.getElem_mem _
    have := List.countP_pos_iff (p := fun b => !b) |>.2 ⟨false, hm, rfl⟩
    simp only [Bool.not_false, if_true, Bool.not_true, Bool.false_eq_true, if_false]
    omega

theorem all_listed {ops : Array Oper} {L : Array Bool} (hr : Region.ready .any ops L = []) (hsz : L.size = ops.size) (hback : backAll 0 ops.toList = true) : ∀ i, i < ops.size → L[i]? = some true := by
  intro i
  induction i using Nat.strongRecOn with
  | _ i ih =>
    intro hi
    have hlt : i < L.size := by omega
    cases hv : L[i]'hlt with
    | true => rw [Array.getElem?_eq_getElem hlt, hv]
    | false =>
      exfalso
      have hm : i ∈ Region.ready .any ops L := ready_iff.2 ⟨ops[i], by simp [hi], by rw [Array.getElem?_eq_getElem hlt, hv], fun e he hb => by
        have hlt2 := backAll_spec hback i ops[i] (by simp [hi]) e he hb
        rw [Nat.zero_add] at hlt2
        exact ih e.on hlt2 (by omega)⟩
      rw [hr] at hm; cases hm

def atVal (pp b off cap n k : Nat) (en pl z : Int) : Nat → Value
  | 0 => .int .i64 k
  | 1 => .int .i64 pl
  | 2 => .int .i64 en
  | 3 => .int .i64 (wrap64 (pl - en))
  | 4 => .pointer (some ⟨pp, 2, none⟩)
  | 5 => .slice (some ⟨b, off, none⟩) n cap
  | 6 => .int .i64 k
  | 7 => .pointer (some ⟨b, off + k, none⟩)
  | 8 => .int .i64 z
  | _ => .int .i64 (wrap64 (wrap64 (pl - en) + z))

structure AtReg (H : Nat) (w0 : World) (ip jp ep cp pp b off cap n k : Nat) (en pl z : Int) (V0 : World) (L : Array Bool) (a : Act) (U : World) : Prop where
  others : KeepsOthers V0 U
  size : L.size = 13
  len : a.tmps.size = 58
  t4 : a.tmps.getD 4 undef = .pointer (some ⟨pp, 0, none⟩)
  t6 : a.tmps.getD 6 undef = .pointer (some ⟨ip, 0, none⟩)
  t7 : a.tmps.getD 7 undef = .pointer (some ⟨jp, 0, none⟩)
  t8 : a.tmps.getD 8 undef = .pointer (some ⟨ep, 0, none⟩)
  t10 : a.tmps.getD 10 undef = .pointer (some ⟨cp, 0, none⟩)
  t11 : a.tmps.getD 11 undef = .int .i64 k
  t12 : a.tmps.getD 12 undef = .int .i64 en
  v : ∀ j, j < 10 → L[j]? = some true → a.tmps.getD (48 + j) undef = atVal pp b off cap n k en pl z j
  cpl : U.cell? ⟨cp, 0, none⟩ = some (.int .i64 pl)
  csl : U.cell? ⟨pp, 2, none⟩ = some (.slice (some ⟨b, off, none⟩) n cap)
  cz : U.cell? ⟨b, off + k, none⟩ = some (.int .i64 z)
  fi : U.frozen? ⟨ip, 0, none⟩ = false
  fj : U.frozen? ⟨jp, 0, none⟩ = false
  fe : U.frozen? ⟨ep, 0, none⟩ = false
  ci : (U.cell? ⟨ip, 0, none⟩).isSome = true
  cj : (U.cell? ⟨jp, 0, none⟩).isSome = true
  ce : (U.cell? ⟨ep, 0, none⟩).isSome = true
  di : L[10]? = some true → U.cell? ⟨ip, 0, none⟩ = some (.int .i64 k)
  dj : L[11]? = some true → U.cell? ⟨jp, 0, none⟩ = some (.int .i64 (wrap64 (wrap64 (pl - en) + z)))
  de : L[12]? = some true → U.cell? ⟨ep, 0, none⟩ = some (.int .i64 0)
  below : Below H w0 U

section
variable {H : Nat} {w0 : World} {ip jp ep cp pp b off cap n k : Nat} {en pl z : Int} {V0 : World} {L : Array Bool} {a : Act} {U : World} {l m : Nat} {P : Program} {ops : Array Oper} {Q : Exit → Act → World → Prop}

theorem getD_put {a : Act} {s t : Nat} {v : Value} (hs : s < a.tmps.size) : (a.put (some s) v).tmps.getD t undef = if t = s then v else a.tmps.getD t undef := by
  simp only [Act.put, Array.getD_eq_getD_getElem?, Array.getElem?_setIfInBounds]
  by_cases h : s = t
  · subst h; simp [hs]
  · have : ¬ t = s := fun e => h e.symm
    simp [h, this]

theorem AtReg.put (h : AtReg H w0 ip jp ep cp pp b off cap n k en pl z V0 L a U) {i : Nat} (hi : i < 10) : AtReg H w0 ip jp ep cp pp b off cap n k en pl z V0 (L.setIfInBounds i true) (a.put (some (48 + i)) (atVal pp b off cap n k en pl z i)) U := by
  have hs : 48 + i < a.tmps.size := by rw [h.len]; omega
  have hL : ∀ j, j ≠ i → (L.setIfInBounds i true)[j]? = L[j]? := fun j hj => by
    rw [Array.getElem?_setIfInBounds]
    simp [Ne.symm hj]
  refine ⟨h.others, by simp [h.size], by simp [Act.put, h.len], ?_, ?_, ?_, ?_, ?_, ?_, ?_, ?_, h.cpl, h.csl, h.cz, h.fi, h.fj, h.fe, h.ci, h.cj, h.ce, ?_, ?_, ?_, h.below⟩
  · rw [getD_put hs, if_neg (by omega)]; exact h.t4
  · rw [getD_put hs, if_neg (by omega)]; exact h.t6
  · rw [getD_put hs, if_neg (by omega)]; exact h.t7
  · rw [getD_put hs, if_neg (by omega)]; exact h.t8
  · rw [getD_put hs, if_neg (by omega)]; exact h.t10
  · rw [getD_put hs, if_neg (by omega)]; exact h.t11
  · rw [getD_put hs, if_neg (by omega)]; exact h.t12
  · intro j hj hl
    rw [getD_put hs]
    by_cases e : j = i
    · rw [if_pos (by omega), e]
    · rw [if_neg (by omega)]
      exact h.v j hj (by rw [← hL j e]; exact hl)
  · rw [hL 10 (by omega)]; exact h.di
  · rw [hL 11 (by omega)]; exact h.dj
  · rw [hL 12 (by omega)]; exact h.de

theorem at_val (h : AtReg H w0 ip jp ep cp pp b off cap n k en pl z V0 L a U) {i : Nat} {o : Oper} (ho : ops[i]? = some o) (hg : o.guard = none) (hnd : ∀ c, o.op ≠ .defer c) (hab : ∀ w ρ, o.about P w ρ = none) (hi : i < 10) (hdst : o.dst = some (48 + i))
    (hrun : (execOp a.eval o).run P U = .ok (.value (atVal pp b off cap n k en pl z i)) U) : wpOpIn (Fence.wide.inRound l) m P ops Q i (AtReg H w0 ip jp ep cp pp b off cap n k en pl z V0 (L.setIfInBounds i true)) a U := by
  refine wpOpIn_step ho fun K' hK => ?_
  rw [if_pos (by simp [Region.wanted, hg])]
  refine ⟨fun f hf => (by rw [hab] at hf; cases hf), ?_⟩
  rw [Fence.inRound_round, Oper.semAt_some _ _ _ hnd, hrun, Oper.uponIn_value, hdst]
  exact hK _ _ (h.put hi)

theorem at_skip {i : Nat} {o : Oper} {U' : World} (ho : ops[i]? = some o) (hg : o.guard = none) (hnd : ∀ c, o.op ≠ .defer c) (hab : ∀ w ρ, o.about P w ρ = none) (hdst : o.dst = none)
    (hrun : (execOp a.eval o).run P U = .ok .skip U') (h : AtReg H w0 ip jp ep cp pp b off cap n k en pl z V0 (L.setIfInBounds i true) a U') : wpOpIn (Fence.wide.inRound l) m P ops Q i (AtReg H w0 ip jp ep cp pp b off cap n k en pl z V0 (L.setIfInBounds i true)) a U := by
  refine wpOpIn_step ho fun K' hK => ?_
  rw [if_pos (by simp [Region.wanted, hg])]
  refine ⟨fun f hf => (by rw [hab] at hf; cases hf), ?_⟩
  rw [Fence.inRound_round, Oper.semAt_some _ _ _ hnd, hrun, Oper.uponIn_skip, hdst]
  exact hK _ _ h

theorem AtReg.mark (h : AtReg H w0 ip jp ep cp pp b off cap n k en pl z V0 L a U) {i : Nat} (hi : 10 ≤ i) {c : Nat} {v : Value} (hc : (i = 10 ∧ c = ip ∧ v = .int .i64 k) ∨ (i = 11 ∧ c = jp ∧ v = .int .i64 (wrap64 (wrap64 (pl - en) + z))) ∨ (i = 12 ∧ c = ep ∧ v = .int .i64 0))
    (hd : ip ≠ jp ∧ ip ≠ ep ∧ jp ≠ ep ∧ (cp ≠ ip ∧ cp ≠ jp ∧ cp ≠ ep) ∧ (pp ≠ ip ∧ pp ≠ jp ∧ pp ≠ ep) ∧ b ≠ ip ∧ b ≠ jp ∧ b ≠ ep) (hH : H ≤ ip ∧ H ≤ jp ∧ H ≤ ep) :
    AtReg H w0 ip jp ep cp pp b off cap n k en pl z V0 (L.setIfInBounds i true) a (U.setCell ⟨c, 0, none⟩ v) := by
  have hL : ∀ j, j ≠ i → (L.setIfInBounds i true)[j]? = L[j]? := fun j hj => by
    rw [Array.getElem?_setIfInBounds]
    simp [Ne.symm hj]
  have hcH : H ≤ c := by omega
  have hne : ∀ q o, q ≠ c → (U.setCell ⟨c, 0, none⟩ v).cell? ⟨q, o, none⟩ = U.cell? ⟨q, o, none⟩ := fun q o hq => World.cell?_setCell_far _ _ _ _ (fun e => hq e.symm)
  have hfz : ∀ q, (U.setCell ⟨c, 0, none⟩ v).frozen? ⟨q, 0, none⟩ = U.frozen? ⟨q, 0, none⟩ := fun q => World.frozen?_setCell _ _ _ _
  have hsame : (U.cell? ⟨c, 0, none⟩).isSome = true → (U.setCell ⟨c, 0, none⟩ v).cell? ⟨c, 0, none⟩ = some v := fun hs => World.cell?_setCell_same' _ _ _ hs
  have hbel : Below H w0 (U.setCell ⟨c, 0, none⟩ v) := h.below.setCell hcH v
  obtain ⟨d1, d2, d3, ⟨d4, d5, d6⟩, ⟨d7, d8, d9⟩, d10, d11, d12⟩ := hd
  have some_of : ∀ q, (U.cell? ⟨q, 0, none⟩).isSome = true → ((U.setCell ⟨c, 0, none⟩ v).cell? ⟨q, 0, none⟩).isSome = true := fun q hq => by
    by_cases e : q = c
    · subst e; rw [hsame hq]; rfl
    · rw [hne q 0 e]; exact hq
  refine ⟨h.others.trans (KeepsOthers.setCell _ _ _), by simp [h.size], h.len, h.t4, h.t6, h.t7, h.t8, h.t10, h.t11, h.t12, fun j hj hl => h.v j hj (by rw [← hL j (by omega)]; exact hl), ?_, ?_, ?_, by rw [hfz]; exact h.fi, by rw [hfz]; exact h.fj, by rw [hfz]; exact h.fe, some_of _ h.ci, some_of _ h.cj, some_of _ h.ce, ?_, ?_, ?_, hbel⟩
  · rw [hne _ _ (by omega)]; exact h.cpl
  · rw [hne _ _ (by omega)]; exact h.csl
  · rw [hne _ _ (by omega)]; exact h.cz
  · intro hl
    rcases hc with ⟨rfl, rfl, rfl⟩ | ⟨rfl, rfl, rfl⟩ | ⟨rfl, rfl, rfl⟩
    · exact hsame h.ci
    · rw [hne _ _ (by omega)]; exact h.di (by rw [← hL 10 (by omega)]; exact hl)
    · rw [hne _ _ (by omega)]; exact h.di (by rw [← hL 10 (by omega)]; exact hl)
  · intro hl
    rcases hc with ⟨rfl, rfl, rfl⟩ | ⟨rfl, rfl, rfl⟩ | ⟨rfl, rfl, rfl⟩
    · rw [hne _ _ (by omega)]; exact h.dj (by rw [← hL 11 (by omega)]; exact hl)
    · exact hsame h.cj
    · rw [hne _ _ (by omega)]; exact h.dj (by rw [← hL 11 (by omega)]; exact hl)
  · intro hl
    rcases hc with ⟨rfl, rfl, rfl⟩ | ⟨rfl, rfl, rfl⟩ | ⟨rfl, rfl, rfl⟩
    · rw [hne _ _ (by omega)]; exact h.de (by rw [← hL 12 (by omega)]; exact hl)
    · rw [hne _ _ (by omega)]; exact h.de (by rw [← hL 12 (by omega)]; exact hl)
    · exact hsame h.ce
end

/-! ## what holds from round to round of plan.At's range -/
def AtI (H : Nat) (w0 : World) (pp ip jp ep cp : Nat) (sv : Value) (pl : Int) (zs : List Int) (pre : List (AtIx zs.length)) (W : World) : Prop :=
  ((∀ k ∈ pre, ¬ pl < at_ends zs (k.1 + 1)) ∧ W.cell? ⟨pp, 2, none⟩ = some sv ∧ W.cell? ⟨ip, 0, none⟩ = some (.int .i64 0) ∧ W.frozen? ⟨ip, 0, none⟩ = false ∧
    W.cell? ⟨jp, 0, none⟩ = some (.int .i64 0) ∧ W.frozen? ⟨jp, 0, none⟩ = false ∧ W.cell? ⟨ep, 0, none⟩ = some (.int .i64 0) ∧ W.frozen? ⟨ep, 0, none⟩ = false ∧ W.cell? ⟨cp, 0, none⟩ = some (.int .i64 pl)) ∧ Below H w0 W
def AtX (H : Nat) (w0 : World) (ip jp ep : Nat) (pl : Int) (zs : List Int) (c : Code) (pre : List (AtIx zs.length)) (W : World) : Prop :=
  (c = .ret ∧ ∃ (pre' : List (AtIx zs.length)) (k : AtIx zs.length), pre = pre' ++ [k] ∧ (∀ j ∈ pre', ¬ pl < at_ends zs (j.1 + 1)) ∧ pl < at_ends zs (k.1 + 1) ∧ W.cell? ⟨ip, 0, none⟩ = some (.int .i64 (k.1 : Int)) ∧
    W.cell? ⟨jp, 0, none⟩ = some (.int .i64 (wrap64 (wrap64 (pl - at_ends zs (k.1 + 1)) + (zs[k.1]?).getD 0))) ∧ W.cell? ⟨ep, 0, none⟩ = some (.int .i64 0)) ∧ Below H w0 W

theorem at_go_found {l : List Int} {pl : Int} : ∀ (n k j : Nat), k ≤ j → j < k + n → (∀ i, k ≤ i → i < j → ¬ pl < at_ends l (i + 1)) → pl < at_ends l (j + 1) → at_go l pl n k = ((j : Int), (wr .i64 (wr .i64 (pl - at_ends l (j + 1)) + (l[j]?).getD 0), 0))
  | 0, k, j, h1, h2, _, _ => by omega
  | n + 1, k, j, h1, h2, hno, hy => by
    rw [at_go]
    by_cases e : k = j
    · subst e; rw [if_pos hy]
    · rw [if_neg (hno k (Nat.le_refl _) (by omega))]
      exact at_go_found n (k + 1) j (by omega) (by omega) (fun i hi hj => hno i (by omega) hj) hy
theorem at_go_none {l : List Int} {pl : Int} : ∀ (n k : Nat), (∀ i, k ≤ i → i < k + n → ¬ pl < at_ends l (i + 1)) → at_go l pl n k = (0, (0, 170))
  | 0, k, _ => rfl
  | n + 1, k, hno => by
    rw [at_go, if_neg (hno k (Nat.le_refl _) (by omega))]
    exact at_go_none n (k + 1) (fun i hi hj => hno i (by omega) (by omega))
def at_res (zs : List Int) (cy of tk er : Int) (is : Bool) : Int × Int × Int :=
  if er ≠ 0 then (0, (0, er)) else if is = false then (0, (0, 170)) else if tk < 0 ∨ 1073741824 < tk then (0, (0, 2)) else at_go zs ((wrap64 (wrap64 (tk + cy) - of)).tmod cy) zs.length 0
theorem at_set3 {H : Nat} {w0 W : World} {ip jp ep : Nat} {x y z : Int} (hB : Below H w0 W) (hH : H ≤ ip ∧ H ≤ jp ∧ H ≤ ep) (hd : ip ≠ jp ∧ ip ≠ ep ∧ jp ≠ ep) (ci : (W.cell? ⟨ip, 0, none⟩).isSome = true) (cj : (W.cell? ⟨jp, 0, none⟩).isSome = true) (ce : (W.cell? ⟨ep, 0, none⟩).isSome = true) :
    Below H w0 (((W.setCell ⟨ip, 0, none⟩ (.int .i64 x)).setCell ⟨jp, 0, none⟩ (.int .i64 y)).setCell ⟨ep, 0, none⟩ (.int .i64 z)) ∧
    (((W.setCell ⟨ip, 0, none⟩ (.int .i64 x)).setCell ⟨jp, 0, none⟩ (.int .i64 y)).setCell ⟨ep, 0, none⟩ (.int .i64 z)).cell? ⟨ip, 0, none⟩ = some (.int .i64 x) ∧
    (((W.setCell ⟨ip, 0, none⟩ (.int .i64 x)).setCell ⟨jp, 0, none⟩ (.int .i64 y)).setCell ⟨ep, 0, none⟩ (.int .i64 z)).cell? ⟨jp, 0, none⟩ = some (.int .i64 y) ∧
    (((W.setCell ⟨ip, 0, none⟩ (.int .i64 x)).setCell ⟨jp, 0, none⟩ (.int .i64 y)).setCell ⟨ep, 0, none⟩ (.int .i64 z)).cell? ⟨ep, 0, none⟩ = some (.int .i64 z) := by
  obtain ⟨d1, d2, d3⟩ := hd
  have f : ∀ (U : World) (p q : Nat) (v : Value), p ≠ q → (U.setCell ⟨p, 0, none⟩ v).cell? ⟨q, 0, none⟩ = U.cell? ⟨q, 0, none⟩ := fun U p q v h => World.cell?_setCell_far _ _ _ _ h
  have s : ∀ (U : World) (p : Nat) (v : Value), (U.cell? ⟨p, 0, none⟩).isSome = true → (U.setCell ⟨p, 0, none⟩ v).cell? ⟨p, 0, none⟩ = some v := fun U p v h => World.cell?_setCell_same' _ _ _ h
  refine ⟨((hB.setCell hH.1 _).setCell hH.2.1 _).setCell hH.2.2 _, ?_, ?_, ?_⟩
  · rw [f _ _ _ _ (Ne.symm d2), f _ _ _ _ (Ne.symm d1), s _ _ _ ci]
  · rw [f _ _ _ _ (Ne.symm d3), s]
    rw [f _ _ _ _ d1]; exact cj
  · rw [s]
    rw [f _ _ _ _ d3, f _ _ _ _ d2]; exact ce
theorem at_D {W : World} {D q : Nat} {v : Value} {ds : Option (List Deferred)} (hdf : W.heap[D]? = some (.deferred ds)) (hq : W.cell? ⟨q, 0, none⟩ = some v) (e : D = q) : False := by
  subst e
  simp [World.cell?, hdf] at hq
def AtEnd (zs : List Int) (cy of tk er : Int) (is : Bool) (e : Ending) : Prop := inR .i64 er = true ∧ ∃ x y z : Int, (x, (y, z)) = at_res zs cy of tk er is ∧ e = .returned (.tuple #[.int .i64 x, .int .i64 y, .int .i64 z])
set_option maxRecDepth 100000 in
set_option maxHeartbeats 8000000 in
theorem at_walk (w : World) (c1 c2 c3 c4 c5 c6 c7 c8 c9 c10 c11 c12 : Value) (cy of tk er : Int) (is : Bool) (sv : Value) (zs : List Int)
    (hI : AtInts w.heap.size w sv zs)
    (hP : ∀ W, Below w.heap.size w W → CallsIn Fence.wide 3 Tryd.prog 24 #[.agg #[c1, c2, c3, c4, c5, c6, c7, c8, c9, c10, c11, c12], .agg #[.int .i64 cy, .int .i64 of, sv]] W fun e W' => e = .returned (.tuple #[.bool is, .int .i64 er]) ∧ Below W.heap.size W W' ∧ inR .i64 er = true) (hgo : er = 0 → is = true → 0 ≤ tk → tk ≤ 1073741824 → cy ≠ 0 ∧ zs.length ≤ 1000000) :
    CallsIn Fence.wide 4 Tryd.prog 9 #[.agg #[c1, c2, c3, c4, c5, c6, c7, c8, c9, c10, c11, c12], .agg #[.int .i64 cy, .int .i64 of, sv], .int .i64 tk] w fun e W' => AtEnd zs cy of tk er is e ∧ Below w.heap.size w W' := by
  refine callsIn_of_wp_marks Tryd.func9 rfl trivial ?_ rfl
  simp only [Tryd.ntmps9, List.size_toArray, List.length_cons, List.length_nil, Nat.reduceAdd, Nat.reduceSub, Array.replicate_succ, Array.replicate_zero, List.push_toArray, List.append_toArray, List.nil_append, List.cons_append]
  gi_wp2
  obtain ⟨W0, hW0⟩ : ∃ W0, (((((w.alloc (.cells #[c1, c2, c3, c4, c5, c6, c7, c8, c9, c10, c11, c12] 29)).alloc (.cells #[.int .i64 cy, .int .i64 of, sv] 32)).alloc (.cells #[.int .i64 0] 3)).alloc (.cells #[.int .i64 0] 3)).alloc (.cells #[.int .i64 0] 35)) = W0 := ⟨_, rfl⟩
  have hs0 : W0.heap.size = w.heap.size + 5 := by rw [← hW0]; simp
  have hbw : Below w.heap.size w W0 := by
    rw [← hW0]
    exact ((((((Below.refl _ w).alloc (Nat.le_refl _) _).alloc (by simp) _).alloc (by simp; omega) _).alloc (by simp; omega) _).alloc (by simp; omega) _)
  have hbox : W0.heap[w.heap.size + 1]? = some (.cells #[.int .i64 cy, .int .i64 of, sv] 32 (0, 0)) ∧ W0.heap[w.heap.size + 1 + 1]? = some (.cells #[.int .i64 0] 3 (0, 0)) ∧ W0.heap[w.heap.size + 1 + 1 + 1]? = some (.cells #[.int .i64 0] 3 (0, 0)) ∧ W0.heap[w.heap.size + 1 + 1 + 1 + 1]? = some (.cells #[.int .i64 0] 35 (0, 0)) := by
    rw [← hW0]
    refine ⟨?_, ?_, ?_, ?_⟩
    · refine (Below.heap_alloc _ _ _ (by simp)).trans ((Below.heap_alloc _ _ _ (by simp)).trans ((Below.heap_alloc _ _ _ (by simp)).trans ?_))
      have := World.alloc_heap_new (w.alloc (.cells #[c1, c2, c3, c4, c5, c6, c7, c8, c9, c10, c11, c12] 29)) (.cells #[.int .i64 cy, .int .i64 of, sv] 32)
      rwa [World.size_alloc] at this
    · refine (Below.heap_alloc _ _ _ (by simp)).trans ((Below.heap_alloc _ _ _ (by simp)).trans ?_)
      have := World.alloc_heap_new ((w.alloc (.cells #[c1, c2, c3, c4, c5, c6, c7, c8, c9, c10, c11, c12] 29)).alloc (.cells #[.int .i64 cy, .int .i64 of, sv] 32)) (.cells #[.int .i64 0] 3)
      rwa [World.size_alloc, World.size_alloc] at this
    · refine (Below.heap_alloc _ _ _ (by simp)).trans ?_
      have := World.alloc_heap_new (((w.alloc (.cells #[c1, c2, c3, c4, c5, c6, c7, c8, c9, c10, c11, c12] 29)).alloc (.cells #[.int .i64 cy, .int .i64 of, sv] 32)).alloc (.cells #[.int .i64 0] 3)) (.cells #[.int .i64 0] 3)
      rwa [World.size_alloc, World.size_alloc, World.size_alloc] at this
    · have := World.alloc_heap_new ((((w.alloc (.cells #[c1, c2, c3, c4, c5, c6, c7, c8, c9, c10, c11, c12] 29)).alloc (.cells #[.int .i64 cy, .int .i64 of, sv] 32)).alloc (.cells #[.int .i64 0] 3)).alloc (.cells #[.int .i64 0] 3)) (.cells #[.int .i64 0] 35)
      rwa [World.size_alloc, World.size_alloc, World.size_alloc, World.size_alloc] at this
  rw [hW0]
  refine ⟨trivial, (hP W0 hbw).mono ?_⟩
  rintro e W1 ⟨rfl, hB1, her⟩
  obtain ⟨q1, q2, q3, q4⟩ := hbox
  have r1 := (hB1.block _ (show w.heap.size + 1 < W0.heap.size by omega)).trans q1
  have r2 := (hB1.block _ (show w.heap.size + 1 + 1 < W0.heap.size by omega)).trans q2
  have r3 := (hB1.block _ (show w.heap.size + 1 + 1 + 1 < W0.heap.size by omega)).trans q3
  have r4 := (hB1.block _ (show w.heap.size + 1 + 1 + 1 + 1 < W0.heap.size by omega)).trans q4
  have hsz := hB1.size
  have hbw1 : Below w.heap.size w W1 := hbw.trans (hB1.mono (by omega))
  have hI1 := hI.below hbw1
  have hI0 := hI
  clear hP q1 q2 q3 q4 hB1 hbw hI
  have m10 : W1.cell? ⟨w.heap.size + 1, 0, none⟩ = some (.int .i64 cy) := by simp [World.cell?, r1]
  have m11 : W1.cell? ⟨w.heap.size + 1, 1, none⟩ = some (.int .i64 of) := by simp [World.cell?, r1]
  have m12 : W1.cell? ⟨w.heap.size + 1, 2, none⟩ = some sv := by simp [World.cell?, r1]
  have m2 : W1.cell? ⟨w.heap.size + 1 + 1, 0, none⟩ = some (.int .i64 0) := by simp [World.cell?, r2]
  have m3 : W1.cell? ⟨w.heap.size + 1 + 1 + 1, 0, none⟩ = some (.int .i64 0) := by simp [World.cell?, r3]
  have m4 : W1.cell? ⟨w.heap.size + 1 + 1 + 1 + 1, 0, none⟩ = some (.int .i64 0) := by simp [World.cell?, r4]
  have f2 : W1.frozen? ⟨w.heap.size + 1 + 1, 0, none⟩ = false := by simp [World.frozen?, r2]
  have f3 : W1.frozen? ⟨w.heap.size + 1 + 1 + 1, 0, none⟩ = false := by simp [World.frozen?, r3]
  have f4 : W1.frozen? ⟨w.heap.size + 1 + 1 + 1 + 1, 0, none⟩ = false := by simp [World.frozen?, r4]
  have fin : ∀ (W : World) (x y z : Int) (tm : Array Value), Below w.heap.size w W → tm[6]? = some (.pointer (some ⟨w.heap.size + 1 + 1, 0, none⟩)) → tm[7]? = some (.pointer (some ⟨w.heap.size + 1 + 1 + 1, 0, none⟩)) → tm[8]? = some (.pointer (some ⟨w.heap.size + 1 + 1 + 1 + 1, 0, none⟩)) →
      W.cell? ⟨w.heap.size + 1 + 1, 0, none⟩ = some (.int .i64 x) → W.cell? ⟨w.heap.size + 1 + 1 + 1, 0, none⟩ = some (.int .i64 y) → W.cell? ⟨w.heap.size + 1 + 1 + 1 + 1, 0, none⟩ = some (.int .i64 z) → (x, (y, z)) = at_res zs cy of tk er is →
      ∃ v, (results Tryd.f9 tm).run Tryd.prog W = .ok v W ∧ AtEnd zs cy of tk er is (.returned v) ∧ Below w.heap.size w W := fun W x y z tm hB t6 t7 t8 h1 h2 h3 hr => by
    refine ⟨_, ?_, ⟨her, x, y, z, hr, rfl⟩, hB⟩
    simp [results, Tryd.f9, go_sem, t6, t7, t8, h1, h2, h3]
  have fin2 : ∀ (W : World) (x y z : Int) (tm : Array Value) (D : Nat), Below w.heap.size w W → tm[6]? = some (.pointer (some ⟨w.heap.size + 1 + 1, 0, none⟩)) → tm[7]? = some (.pointer (some ⟨w.heap.size + 1 + 1 + 1, 0, none⟩)) → tm[8]? = some (.pointer (some ⟨w.heap.size + 1 + 1 + 1 + 1, 0, none⟩)) →
      W.cell? ⟨w.heap.size + 1 + 1, 0, none⟩ = some (.int .i64 x) → W.cell? ⟨w.heap.size + 1 + 1 + 1, 0, none⟩ = some (.int .i64 y) → W.cell? ⟨w.heap.size + 1 + 1 + 1 + 1, 0, none⟩ = some (.int .i64 z) → w.heap.size ≤ D → W.heap[D]? = some (.deferred (some [])) → (x, (y, z)) = at_res zs cy of tk er is →
      LeavesInM Fence.wide 4 Tryd.prog Tryd.f9 tm (fun e W' => AtEnd zs cy of tk er is e ∧ Below w.heap.size w W') [{ target := .collected D, args := #[] }] .returning W := fun W x y z tm D hB t6 t7 t8 h1 h2 h3 hD hdf hr => by
    refine ⟨by simp, .inl ⟨D, W.putObj D (.deferred none), rfl, run_takeDeferred hdf, ?_⟩⟩
    have pc : ∀ q v, W.cell? ⟨q, 0, none⟩ = some v → (W.putObj D (.deferred none)).cell? ⟨q, 0, none⟩ = some v := fun q v hv =>
      (World.cell?_of_block (World.putObj_heap_other (k := q) (fun e => at_D hdf hv e.symm))).trans hv
    obtain ⟨v, r1, r2, r3⟩ := fin (W.putObj D (.deferred none)) x y z tm (hB.trans (belowK_b (n₀ := w.heap.size) (w := w) (Nat.le_refl _) W D _ _ hD hdf rfl rfl)) t6 t7 t8 (pc _ _ h1) (pc _ _ h2) (pc _ _ h3) hr
    exact ⟨v, r1, r2, r3⟩
  by_cases hz : er = 0
  · subst hz
    cases his : is with
    | false =>
      subst his
      gi_wp2
      have s4 := World.cell?_setCell_same' W1 ⟨w.heap.size + 1 + 1 + 1 + 1, 0, none⟩ (.int .i64 0) (by rw [m4]; rfl)
      obtain ⟨b1, b2, b3, b4⟩ := at_set3 (W := W1.setCell ⟨w.heap.size + 1 + 1 + 1 + 1, 0, none⟩ (.int .i64 0)) (x := 0) (y := 0) (z := 170) (hbw1.setCell (by show w.heap.size ≤ w.heap.size + 1 + 1 + 1 + 1; omega) _) (ip := w.heap.size + 1 + 1) (jp := w.heap.size + 1 + 1 + 1) (ep := w.heap.size + 1 + 1 + 1 + 1) (by omega) (by omega)
        (by rw [World.cell?_setCell_far _ _ _ _ (by show w.heap.size + 1 + 1 + 1 + 1 ≠ w.heap.size + 1 + 1; omega), m2]; rfl) (by rw [World.cell?_setCell_far _ _ _ _ (by show w.heap.size + 1 + 1 + 1 + 1 ≠ w.heap.size + 1 + 1 + 1; omega), m3]; rfl) (by rw [s4]; rfl)
      exact fin _ 0 0 170 _ b1 rfl rfl rfl b2 b3 b4 rfl
    | true =>
      subst his
      by_cases ht : tk < 0
      · gi_wp2
        have s4 := World.cell?_setCell_same' W1 ⟨w.heap.size + 1 + 1 + 1 + 1, 0, none⟩ (.int .i64 0) (by rw [m4]; rfl)
        obtain ⟨b1, b2, b3, b4⟩ := at_set3 (W := W1.setCell ⟨w.heap.size + 1 + 1 + 1 + 1, 0, none⟩ (.int .i64 0)) (x := 0) (y := 0) (z := 2) (hbw1.setCell (by show w.heap.size ≤ w.heap.size + 1 + 1 + 1 + 1; omega) _) (ip := w.heap.size + 1 + 1) (jp := w.heap.size + 1 + 1 + 1) (ep := w.heap.size + 1 + 1 + 1 + 1) (by omega) (by omega)
          (by rw [World.cell?_setCell_far _ _ _ _ (by show w.heap.size + 1 + 1 + 1 + 1 ≠ w.heap.size + 1 + 1; omega), m2]; rfl) (by rw [World.cell?_setCell_far _ _ _ _ (by show w.heap.size + 1 + 1 + 1 + 1 ≠ w.heap.size + 1 + 1 + 1; omega), m3]; rfl) (by rw [s4]; rfl)
        exact fin _ 0 0 2 _ b1 rfl rfl rfl b2 b3 b4 (by unfold at_res; rw [if_neg (by simp), if_neg (by simp), if_pos (by omega)])
      · by_cases ht2 : 1073741824 < tk
        · gi_wp2
          have s4 := World.cell?_setCell_same' W1 ⟨w.heap.size + 1 + 1 + 1 + 1, 0, none⟩ (.int .i64 0) (by rw [m4]; rfl)
          obtain ⟨b1, b2, b3, b4⟩ := at_set3 (W := W1.setCell ⟨w.heap.size + 1 + 1 + 1 + 1, 0, none⟩ (.int .i64 0)) (x := 0) (y := 0) (z := 2) (hbw1.setCell (by show w.heap.size ≤ w.heap.size + 1 + 1 + 1 + 1; omega) _) (ip := w.heap.size + 1 + 1) (jp := w.heap.size + 1 + 1 + 1) (ep := w.heap.size + 1 + 1 + 1 + 1) (by omega) (by omega)
            (by rw [World.cell?_setCell_far _ _ _ _ (by show w.heap.size + 1 + 1 + 1 + 1 ≠ w.heap.size + 1 + 1; omega), m2]; rfl) (by rw [World.cell?_setCell_far _ _ _ _ (by show w.heap.size + 1 + 1 + 1 + 1 ≠ w.heap.size + 1 + 1 + 1; omega), m3]; rfl) (by rw [s4]; rfl)
          exact fin _ 0 0 2 _ b1 rfl rfl rfl b2 b3 b4 (by unfold at_res; rw [if_neg (by simp), if_neg (by simp), if_pos (by omega)])
        · obtain ⟨hcy0, hlen⟩ := hgo rfl rfl (by omega) (by omega)
          obtain ⟨pl, hpl⟩ : ∃ pl, (wrap64 (wrap64 (tk + cy) - of)).tmod cy = pl := ⟨_, rfl⟩
          obtain ⟨W2, hW2⟩ : ∃ W2, (W1.setCell ⟨w.heap.size + 1 + 1 + 1 + 1, 0, none⟩ (.int .i64 0)).alloc (.cells #[.int .i64 pl] 3) = W2 := ⟨_, rfl⟩
          have hA1 : w.heap.size + 5 ≤ W1.heap.size := by omega
          have hbS : Below w.heap.size w (W1.setCell ⟨w.heap.size + 1 + 1 + 1 + 1, 0, none⟩ (.int .i64 0)) := hbw1.setCell (by show w.heap.size ≤ w.heap.size + 1 + 1 + 1 + 1; omega) _
          have hs2 : W1.heap.size < W2.heap.size := by rw [← hW2]; simp
          have hb2 : Below w.heap.size w W2 := by rw [← hW2]; exact hbS.alloc (by simp; omega) _
          have old : ∀ q o v, q ≠ w.heap.size + 1 + 1 + 1 + 1 → q < W1.heap.size → W1.cell? ⟨q, o, none⟩ = some v → W2.cell? ⟨q, o, none⟩ = some v := fun q o v hq hlt hv => by
            rw [← hW2]
            refine ((Below.refl _ _).alloc (Nat.le_refl _) _ |>.cell (p := ⟨q, o, none⟩) (by simpa using hlt)).trans ?_
            rw [World.cell?_setCell_far _ _ _ _ (fun e => hq e.symm)]; exact hv
          have oldf : ∀ q o, q < W1.heap.size → W2.frozen? ⟨q, o, none⟩ = W1.frozen? ⟨q, o, none⟩ := fun q o hlt => by
            rw [← hW2, ← World.frozen?_setCell W1 ⟨w.heap.size + 1 + 1 + 1 + 1, 0, none⟩ ⟨q, o, none⟩ (.int .i64 0)]
            exact (Below.refl (W1.setCell ⟨w.heap.size + 1 + 1 + 1 + 1, 0, none⟩ (.int .i64 0)).heap.size _).alloc (Nat.le_refl _) _ |>.frozen (p := ⟨q, o, none⟩) (by simpa using hlt)
          have k10 : W2.cell? ⟨w.heap.size + 1, 0, none⟩ = some (.int .i64 cy) := old _ _ _ (by omega) (by omega) m10
          have k11 : W2.cell? ⟨w.heap.size + 1, 1, none⟩ = some (.int .i64 of) := old _ _ _ (by omega) (by omega) m11
          have k12 : W2.cell? ⟨w.heap.size + 1, 2, none⟩ = some sv := old _ _ _ (by omega) (by omega) m12
          have k2 : W2.cell? ⟨w.heap.size + 1 + 1, 0, none⟩ = some (.int .i64 0) := old _ _ _ (by omega) (by omega) m2
          have k3 : W2.cell? ⟨w.heap.size + 1 + 1 + 1, 0, none⟩ = some (.int .i64 0) := old _ _ _ (by omega) (by omega) m3
          have k4 : W2.cell? ⟨w.heap.size + 1 + 1 + 1 + 1, 0, none⟩ = some (.int .i64 0) := by
            rw [← hW2]
            refine ((Below.refl _ _).alloc (Nat.le_refl _) _ |>.cell (p := ⟨_, 0, none⟩) (by simp; omega)).trans ?_
            exact World.cell?_setCell_same' W1 ⟨w.heap.size + 1 + 1 + 1 + 1, 0, none⟩ (.int .i64 0) (by rw [m4]; rfl)
          have k20 : W2.cell? ⟨W1.heap.size, 0, none⟩ = some (.int .i64 pl) := by
            have := World.alloc_heap_new (W1.setCell ⟨w.heap.size + 1 + 1 + 1 + 1, 0, none⟩ (.int .i64 0)) (.cells #[.int .i64 pl] 3)
            rw [hW2, World.size_setCell] at this
            simp [World.cell?, this]
          gi_wp2
          refine ⟨trivial, (at_parts Fence.wide 3 trivial rfl cy of sv W2).mono ?_⟩
          rintro e W3 ⟨rfl, rfl⟩
          gi_wp2
          have hA2 : w.heap.size ≤ W2.heap.size := by omega
          obtain ⟨W3, hW3⟩ : ∃ W3, W2.alloc (.cells #[.int .i64 cy, .int .i64 of, sv] 32) = W3 := ⟨_, rfl⟩
          have hb3 : Below w.heap.size w W3 := by rw [← hW3]; exact hb2.alloc hA2 _
          have new : ∀ q o v, q < W2.heap.size → W2.cell? ⟨q, o, none⟩ = some v → W3.cell? ⟨q, o, none⟩ = some v := fun q o v hlt hv => by
            rw [← hW3]
            exact ((Below.refl _ _).alloc (Nat.le_refl _) _ |>.cell (p := ⟨q, o, none⟩) hlt).trans hv
          have newf : ∀ q o, q < W2.heap.size → W3.frozen? ⟨q, o, none⟩ = W2.frozen? ⟨q, o, none⟩ := fun q o hlt => by
            rw [← hW3]
            exact (Below.refl _ _).alloc (Nat.le_refl _) _ |>.frozen (p := ⟨q, o, none⟩) hlt
          have p1 : W3.cell? ⟨w.heap.size + 1, 2, none⟩ = some sv := new _ _ _ (by omega) k12
          have p2 : W3.cell? ⟨w.heap.size + 1 + 1, 0, none⟩ = some (.int .i64 0) ∧ W3.frozen? ⟨w.heap.size + 1 + 1, 0, none⟩ = false := ⟨new _ _ _ (by omega) k2, by rw [newf _ _ (by omega), oldf _ _ (by omega)]; exact f2⟩
          have p3 : W3.cell? ⟨w.heap.size + 1 + 1 + 1, 0, none⟩ = some (.int .i64 0) ∧ W3.frozen? ⟨w.heap.size + 1 + 1 + 1, 0, none⟩ = false := ⟨new _ _ _ (by omega) k3, by rw [newf _ _ (by omega), oldf _ _ (by omega)]; exact f3⟩
          have p4 : W3.cell? ⟨w.heap.size + 1 + 1 + 1 + 1, 0, none⟩ = some (.int .i64 0) ∧ W3.frozen? ⟨w.heap.size + 1 + 1 + 1 + 1, 0, none⟩ = false := ⟨new _ _ _ (by omega) k4, by rw [newf _ _ (by omega), oldf _ _ (by omega)]; exact f4⟩
          have p5 : W3.cell? ⟨W1.heap.size, 0, none⟩ = some (.int .i64 pl) := new _ _ _ (by omega) k20
          have hs3 : W2.heap.size < W3.heap.size := by rw [← hW3]; simp
          have p6 : W3.heap[W2.heap.size]? = some (.cells #[.int .i64 cy, .int .i64 of, sv] 32 (0, 0)) := by rw [← hW3]; exact World.alloc_heap_new _ _
          rw [hW3]
          refine wpIn_rangeFunc_ownF rfl (by omega) (gf := 48) (lb := #[.pointer (some ⟨W2.heap.size, 0, none⟩)]) rfl trivial (enters_of Tryd.func48 (by kernel_rfl) rfl)
            (at_stops Fence.wide 3 trivial rfl (by omega) W2.heap.size w.heap.size cy of sv zs hlen W3 (by omega) p6 (hI0.below hb3)) (fun h k => belowK_t h k) (belowK_b (by omega)) (Below.refl _ _) (fun _ => rfl)
            (fun pre W => AtI w.heap.size w (w.heap.size + 1) (w.heap.size + 1 + 1) (w.heap.size + 1 + 1 + 1) (w.heap.size + 1 + 1 + 1 + 1) W1.heap.size sv pl zs pre W) (fun c pre W => AtX w.heap.size w (w.heap.size + 1 + 1) (w.heap.size + 1 + 1 + 1) (w.heap.size + 1 + 1 + 1 + 1) pl zs c pre W)
            (OwnFrom.and (Own.from (fun s A B row hs hg hr => ⟨hs.1, cell_kept hs.2.1 hg hr, cell_kept hs.2.2.1 hg hr, (frozen_kept hs.2.2.1 hg hr).trans hs.2.2.2.1, cell_kept hs.2.2.2.2.1 hg hr, (frozen_kept hs.2.2.2.2.1 hg hr).trans hs.2.2.2.2.2.1, cell_kept hs.2.2.2.2.2.2.1 hg hr, (frozen_kept hs.2.2.2.2.2.2.1 hg hr).trans hs.2.2.2.2.2.2.2.1, cell_kept hs.2.2.2.2.2.2.2.2 hg hr⟩) _) (ownFrom_below (Nat.le_refl _) (by omega)))
            (fun c => OwnFrom.and (Own.from (fun s A B row hs hg hr => by
              obtain ⟨hc, pre', k, e1, e2, e3, e4, e5, e6⟩ := hs
              exact ⟨hc, pre', k, e1, e2, e3, cell_kept e4 hg hr, cell_kept e5 hg hr, cell_kept e6 hg hr⟩) _) (ownFrom_below (Nat.le_refl _) (by omega)))
            ⟨⟨fun k hk => (by cases hk), p1, p2.1, p2.2, p3.1, p3.2, p4.1, p4.2, p5⟩, hb3⟩ ?a₁ ?assign ?body ?done ?stop
          case assign =>
            intro l x W K hK
            gi_wp2
            exact hK
          case body =>
            rintro l pre x W ⟨⟨hp, q1, q2, g2, q3, g3, q4, g4, q5⟩, hB⟩ _
            rcases hI0.below hB with ⟨ad, cap, _, hz0⟩ | ⟨b, off, cap, hsv, hb, hcs⟩
            · exact absurd x.2 (fun hh => by
                have : zs.length = 0 := by rw [hz0]; rfl
                omega)
            · subst hsv
              have hx := x.2
              have hcx := hcs x.1 hx
              by_cases hlt : pl < at_ends zs (x.1 + 1)
              · have hp' := hp
                gi_wp2
                have hmx : Tryd.prog.follows .mixedOrders = true := by kernel_rfl
                have hg3 : isAgg? Tryd.prog 3 = some false := by kernel_rfl
                have hg30 : isAgg? Tryd.prog 30 = some false := by kernel_rfl
                have hbx : b ≠ w.heap.size + 1 + 1 ∧ b ≠ w.heap.size + 1 + 1 + 1 ∧ b ≠ w.heap.size + 1 + 1 + 1 + 1 := by omega
                refine wpIn_region_any hmx ?_
                refine wpAnyIn_inv (AtReg w.heap.size w (w.heap.size + 1 + 1) (w.heap.size + 1 + 1 + 1) (w.heap.size + 1 + 1 + 1 + 1) W1.heap.size (w.heap.size + 1) b off cap zs.length x.1 (at_ends zs (x.1 + 1)) pl ((zs[x.1]?).getD 0) W) ?_ ?_ _ _ _ _ ?_ ?_
                · intro L a U i hI hi
                  obtain ⟨o, ho, hu, hdp⟩ := ready_iff.1 hi
                  have hi13 : i < 13 := by simpa using (Array.getElem?_eq_some_iff.1 ho).1
                  have hi' : i = 0 ∨ i = 1 ∨ i = 2 ∨ i = 3 ∨ i = 4 ∨ i = 5 ∨ i = 6 ∨ i = 7 ∨ i = 8 ∨ i = 9 ∨ i = 10 ∨ i = 11 ∨ i = 12 := by omega
                  rcases hi' with rfl | rfl | rfl | rfl | rfl | rfl | rfl | rfl | rfl | rfl | rfl | rfl | rfl
                  all_goals (simp only [List.getElem?_toArray, List.getElem?_cons_zero, List.getElem?_cons_succ, Option.some.injEq] at ho; subst ho)
                  · refine at_val hI rfl rfl (by intro c h; cases h) (fun _ _ => rfl) (by omega) rfl ?_
                    simp [execOp, Act.eval, hI.t11, atVal]
                  · refine at_val hI rfl rfl (by intro c h; cases h) (fun _ _ => rfl) (by omega) rfl ?_
                    have := loadAt_one (P := Tryd.prog) hg3 hI.cpl
                    simp [execOp, Act.eval, hI.t10, atVal, this]
                  · refine at_val hI rfl rfl (by intro c h; cases h) (fun _ _ => rfl) (by omega) rfl ?_
                    simp [execOp, Act.eval, hI.t12, atVal]
                  · refine at_val hI rfl rfl (by intro c h; cases h) (fun _ _ => rfl) (by omega) rfl ?_
                    have v1 := hI.v 1 (by omega) (hdp _ (by simp; exact .inl rfl) rfl)
                    have v2 := hI.v 2 (by omega) (hdp _ (by simp; exact .inr rfl) rfl)
                    simp [execOp, Act.eval, v1, v2, atVal, go_sem, wrap64, IntKind.wrap_i64]
                  · refine at_val hI rfl rfl (by intro c h; cases h) (fun _ _ => rfl) (by omega) rfl ?_
                    simp [execOp, Act.eval, hI.t4, atVal, go_sem]
                  · refine at_val hI rfl rfl (by intro c h; cases h) (fun _ _ => rfl) (by omega) rfl ?_
                    have v4 := hI.v 4 (by omega) (hdp _ (by simp; exact rfl) rfl)
                    have := loadAt_one (P := Tryd.prog) hg30 hI.csl
                    simp [execOp, Act.eval, v4, atVal, this]
                  · refine at_val hI rfl rfl (by intro c h; cases h) (fun _ _ => rfl) (by omega) rfl ?_
                    simp [execOp, Act.eval, hI.t11, atVal]
                  · refine at_val hI rfl rfl (by intro c h; cases h) (fun _ _ => rfl) (by omega) rfl ?_
                    have v5 := hI.v 5 (by omega) (hdp _ (by simp; exact .inl rfl) rfl)
                    have v6 := hI.v 6 (by omega) (hdp _ (by simp; exact .inr rfl) rfl)
                    simp [execOp, Act.eval, v5, v6, atVal, go_sem, hx]
                  · refine at_val hI rfl rfl (by intro c h; cases h) (fun _ _ => rfl) (by omega) rfl ?_
                    have v7 := hI.v 7 (by omega) (hdp _ (by simp; exact rfl) rfl)
                    have := loadAt_one (P := Tryd.prog) hg3 hI.cz
                    simp [execOp, Act.eval, v7, atVal, this]
                  · refine at_val hI rfl rfl (by intro c h; cases h) (fun _ _ => rfl) (by omega) rfl ?_
                    have v3 := hI.v 3 (by omega) (hdp _ (by simp; exact .inl rfl) rfl)
                    have v8 := hI.v 8 (by omega) (hdp _ (by simp; exact .inr rfl) rfl)
                    simp [execOp, Act.eval, v3, v8, atVal, go_sem, wrap64, IntKind.wrap_i64]
                  · obtain ⟨cu, hcell⟩ := Option.isSome_iff_exists.1 hI.ci
                    have v0 := hI.v 0 (by omega) (hdp _ (by simp; exact .inl rfl) rfl)
                    refine at_skip (U' := U.setCell ⟨w.heap.size + 1 + 1, 0, none⟩ (.int .i64 (x.1 : Int))) rfl rfl (by intro c h; cases h) (fun _ _ => rfl) rfl ?_ (hI.mark (by omega) (.inl ⟨rfl, rfl, rfl⟩) (by omega) (by omega))
                    simp [execOp, Act.eval, v0, hI.t6, hI.fi, hcell, atVal, go_sem]
                  · obtain ⟨cu, hcell⟩ := Option.isSome_iff_exists.1 hI.cj
                    have v9 := hI.v 9 (by omega) (hdp _ (by simp; exact .inl rfl) rfl)
                    refine at_skip (U' := U.setCell ⟨w.heap.size + 1 + 1 + 1, 0, none⟩ (.int .i64 (wrap64 (wrap64 (pl - at_ends zs (x.1 + 1)) + (zs[x.1]?).getD 0)))) rfl rfl (by intro c h; cases h) (fun _ _ => rfl) rfl ?_ (hI.mark (by omega) (.inr (.inl ⟨rfl, rfl, rfl⟩)) (by omega) (by omega))
                    simp [execOp, Act.eval, v9, hI.t7, hI.fj, hcell, atVal, go_sem]
                  · obtain ⟨cu, hcell⟩ := Option.isSome_iff_exists.1 hI.ce
                    refine at_skip (U' := U.setCell ⟨w.heap.size + 1 + 1 + 1 + 1, 0, none⟩ (.int .i64 0)) rfl rfl (by intro c h; cases h) (fun _ _ => rfl) rfl ?_ (hI.mark (by omega) (.inr (.inr ⟨rfl, rfl, rfl⟩)) (by omega) (by omega))
                    simp [execOp, Act.eval, hI.t8, hI.fe, hcell, atVal, go_sem]
                · intro L a U hI hr
                  have key := all_listed hr (by rw [hI.size]; rfl) (by kernel_rfl)
                  rename_i hK
                  refine hK _ _ ?_
                  gi_wp2
                  refine ⟨hI.others, ⟨rfl, pre, x, rfl, (fun j hj => Int.not_lt.2 (hp' j hj)), hlt, hI.di (key 10 (by decide)), hI.dj (key 11 (by decide)), hI.de (key 12 (by decide))⟩, hI.below⟩
                · exact ⟨KeepsOthers.drew _, rfl, rfl, rfl, rfl, rfl, rfl, rfl, rfl, rfl, fun j _ hl => (by
                    rw [Array.getElem?_replicate] at hl
                    split at hl <;> cases hl), q5, q1, hcx, g2, g3, g4, (by show (W.cell? _).isSome = true; rw [q2]; rfl), (by show (W.cell? _).isSome = true; rw [q3]; rfl), (by show (W.cell? _).isSome = true; rw [q4]; rfl),
                    fun hl => (by rw [Array.getElem?_replicate] at hl; split at hl <;> cases hl), fun hl => (by rw [Array.getElem?_replicate] at hl; split at hl <;> cases hl), fun hl => (by rw [Array.getElem?_replicate] at hl; split at hl <;> cases hl), hB.drew⟩
                · decide
              · have hp' := hp
                gi_wp2
                exact ⟨KeepsOthers.refl _, Below.refl _ _, ⟨fun k hk => (by
                  rcases List.mem_append.1 hk with hk | hk
                  · exact Int.not_lt.2 (hp' k hk)
                  · simp only [List.mem_singleton] at hk
                    subst hk; omega), q1, q2, g2, q3, g3, q4, g4, q5⟩, hB⟩
          case done =>
            rintro D xs W hD hxs ⟨⟨hp, q1, q2, g2, q3, g3, q4, g4, q5⟩, hB⟩ hdf
            subst hxs
            have hres : at_res zs cy of tk 0 true = (0, (0, 170)) := by
              unfold at_res
              rw [if_neg (by simp), if_neg (by simp), if_neg (by omega), hpl]
              exact at_go_none _ _ fun i _ hi => hp ⟨i, by omega⟩ (at_upto_mem _ (by show i < zs.length; omega))
            gi_wp2
            obtain ⟨b1, b2, b3, b4⟩ := at_set3 (W := W) (x := 0) (y := 0) (z := 170) hB (ip := w.heap.size + 1 + 1) (jp := w.heap.size + 1 + 1 + 1) (ep := w.heap.size + 1 + 1 + 1 + 1) (by omega) (by omega) (by rw [q2]; rfl) (by rw [q3]; rfl) (by rw [q4]; rfl)
            refine fin2 _ 0 0 170 _ D b1 rfl rfl rfl b2 b3 b4 (Nat.le_trans hb3.size hD) ?_ hres.symm
            rw [heap_setCell_other _ _ _ _ (fun e => at_D hdf q4 e), heap_setCell_other _ _ _ _ (fun e => at_D hdf q3 e), heap_setCell_other _ _ _ _ (fun e => at_D hdf q2 e)]
            exact hdf
          case stop =>
            rintro D c pre W hD ⟨k0, hk0, rfl⟩ ⟨⟨rfl, pre', k, e1, e2, e3, e4, e5, e6⟩, hB⟩ hdf
            have hk1 : pre'.length + 1 = k0 := by
              have := congrArg List.length e1
              rw [at_upto_length _ hk0] at this
              simp at this; omega
            obtain rfl : k0 = pre'.length + 1 := by omega
            rw [at_upto_succ (by omega)] at e1
            obtain ⟨e7, e8⟩ := List.append_inj' e1 rfl
            have hkv : k.1 = pre'.length := by
              have := List.head_eq_of_cons_eq e8
              rw [← this]
            have hres : at_res zs cy of tk 0 true = ((k.1 : Int), (wrap64 (wrap64 (pl - at_ends zs (k.1 + 1)) + (zs[k.1]?).getD 0), 0)) := by
              unfold at_res
              rw [if_neg (by simp), if_neg (by simp), if_neg (by omega), hpl, ← wr_wrap, ← wr_wrap]
              exact at_go_found _ _ _ (Nat.zero_le _) (by have := k.2; omega) (fun i _ hi => e2 ⟨i, by have := k.2; omega⟩ (by have := at_upto_mem (k := pre'.length) (⟨i, by have := k.2; omega⟩ : AtIx zs.length) (by show i < pre'.length; omega); rwa [e7] at this)) e3
            gi_wp2
            exact fin2 _ _ _ _ _ D hB rfl rfl rfl e4 e5 e6 (Nat.le_trans hb3.size hD) hdf hres.symm
  · gi_wp2
    have sE := World.cell?_setCell_same' W1 ⟨w.heap.size + 1 + 1 + 1 + 1, 0, none⟩ (.int .i64 er) (by rw [m4]; rfl)
    have hmx : Tryd.prog.follows .mixedOrders = true := by kernel_rfl
    obtain ⟨b1, b2, b3, b4⟩ := at_set3 (W := W1.setCell ⟨w.heap.size + 1 + 1 + 1 + 1, 0, none⟩ (.int .i64 er)) (x := 0) (y := 0) (z := er) (hbw1.setCell (by show w.heap.size ≤ w.heap.size + 1 + 1 + 1 + 1; omega) _) (ip := w.heap.size + 1 + 1) (jp := w.heap.size + 1 + 1 + 1) (ep := w.heap.size + 1 + 1 + 1 + 1) (by omega) (by omega)
      (by rw [World.cell?_setCell_far _ _ _ _ (by show w.heap.size + 1 + 1 + 1 + 1 ≠ w.heap.size + 1 + 1; omega), m2]; rfl) (by rw [World.cell?_setCell_far _ _ _ _ (by show w.heap.size + 1 + 1 + 1 + 1 ≠ w.heap.size + 1 + 1 + 1; omega), m3]; rfl) (by rw [sE]; rfl)
    gi_region
    gi_wp2
    exact fin _ 0 0 er _ b1.drew rfl rfl rfl b2 b3 b4 (by unfold at_res; rw [if_pos hz])

theorem len12 {α : Type} : ∀ {l : List α}, l.length = 12 → ∃ a b c d e f g h i j k m, l = [a, b, c, d, e, f, g, h, i, j, k, m]
  | [a, b, c, d, e, f, g, h, i, j, k, m], _ => ⟨a, b, c, d, e, f, g, h, i, j, k, m, rfl⟩
  | [], h => by cases h
  | [_], h => by cases h
  | [_, _], h => by cases h
  | [_, _, _], h => by cases h
  | [_, _, _, _], h => by cases h
  | [_, _, _, _, _], h => by cases h
  | [_, _, _, _, _, _], h => by cases h
  | [_, _, _, _, _, _, _], h => by cases h
  | [_, _, _, _, _, _, _, _], h => by cases h
  | [_, _, _, _, _, _, _, _, _], h => by cases h
  | [_, _, _, _, _, _, _, _, _, _], h => by cases h
  | [_, _, _, _, _, _, _, _, _, _, _], h => by cases h
  | _ :: _ :: _ :: _ :: _ :: _ :: _ :: _ :: _ :: _ :: _ :: _ :: _ :: _, h => by simp at h

theorem at_ints {w : World} {O : Nat → Prop} {l : List Int} {v : Value} (h : Reads w O I64s l [v]) : AtInts w.heap.size w v l := by
  obtain ⟨a, cap, e, hl, hm, hr⟩ := h
  simp only [List.cons.injEq, and_true] at e
  subst e
  rcases hr with hr | ⟨b, off, cells, ea, hO, hb, hc, hrow⟩
  · have : l = [] := List.eq_nil_of_length_eq_zero hr
    subst this
    exact .inl ⟨a, cap, rfl, rfl⟩
  · subst ea
    refine .inr ⟨b, off, cap, rfl, hb, fun j hj => ?_⟩
    obtain ⟨pre, u, post, ec, hp, hu, hrd⟩ := RowOf.get (n := 1) (fun x vs => reads_length I64) hrow (List.getElem?_eq_getElem hj)
    obtain ⟨rfl, _⟩ := hrd
    refine hc j _ ?_
    rw [ec, List.getElem?_eq_getElem hj]
    simp
    rw [List.getElem?_append_right (by omega)]
    simp [show j - pre.length = 0 by omega]

theorem at_go_in {l : List Int} {pl : Int} : ∀ (n k : Nat), k + n ≤ 1000000 → inR .i64 (at_go l pl n k).1 = true ∧ inR .i64 (at_go l pl n k).2.1 = true ∧ inR .i64 (at_go l pl n k).2.2 = true
  | 0, k, _ => ⟨rfl, rfl, rfl⟩
  | n + 1, k, h => by
    rw [at_go]
    split
    · exact ⟨inR_len (by unfold maxLen; omega), inR_wrap _ _, rfl⟩
    · exact at_go_in n (k + 1) (by omega)
theorem at_res_in {zs : List Int} {cy of tk er : Int} {is : Bool} (her : inR .i64 er = true) (hlen : er = 0 → is = true → 0 ≤ tk → tk ≤ 1073741824 → zs.length ≤ 1000000) :
    inR .i64 (at_res zs cy of tk er is).1 = true ∧ inR .i64 (at_res zs cy of tk er is).2.1 = true ∧ inR .i64 (at_res zs cy of tk er is).2.2 = true := by
  unfold at_res
  by_cases h1 : er = 0
  · rw [if_neg (by simpa using h1)]
    cases is with
    | false => exact ⟨rfl, rfl, rfl⟩
    | true =>
      rw [if_neg (by simp)]
      split
      · exact ⟨rfl, rfl, rfl⟩
      · exact at_go_in _ _ (by have := hlen h1 rfl (by omega) (by omega); omega)
  · rw [if_pos h1]; exact ⟨rfl, rfl, her⟩

set_option maxRecDepth 100000 in
theorem at_calls (w : World) (F : Nat → Prop) (vals : List Value) (x : PSSite × PSPlan × Int) (y : Int × Int × Int) (hV : V w) (hF : ∀ b, F b → b < w.heap.size) (hr : ReadArgs w F [SSite, SPlan, I64] x vals) (hy : plan_At_t x = some y) :
    Calls Tryd.prog 9 vals.toArray w fun e w' => ∃ rs, e = .returned (retVal rs) ∧ Below w.heap.size w w' ∧ ResOK w.heap.size w' F false [I64, I64, I64] y rs := by
  obtain ⟨s, p, tk⟩ := x
  obtain ⟨us, vs1, h1, rfl, us2, vs2, h2, rfl, us3, h3, rfl⟩ := hr
  obtain ⟨rfl, _⟩ := (show us3 = [.int .i64 tk] ∧ inR .i64 tk = true from h3)
  obtain ⟨a1, a2, a3, a4, a5, a6, a7, a8, a9, a10, a11, a12, rfl⟩ := len12 (reads_length SSite h1)
  have h1' := h1
  have h2' := h2
  obtain ⟨u1, r1, rfl, ⟨rfl, _⟩, u2, u3, rfl, ⟨rfl, _⟩, h4⟩ := h2
  obtain ⟨v, rfl⟩ : ∃ v, u3 = [v] := by obtain ⟨a, cap, e, _⟩ := h4; exact ⟨_, e⟩
  have hI := at_ints h4
  have key : ∀ is er, site_Plan_t (s, p) = some (is, er) → (er = 0 → is = true → 0 ≤ tk → tk ≤ 1073741824 → p.1 ≠ 0 ∧ p.2.2.length ≤ 1000000) → y = at_res p.2.2 p.1 p.2.1 tk er is →
      Calls Tryd.prog 9 (Go.Den.valOf SSite [a1, a2, a3, a4, a5, a6, a7, a8, a9, a10, a11, a12] :: Go.Den.valOf SPlan ([.int .i64 p.1] ++ ([.int .i64 p.2.1] ++ [v])) :: [Go.Den.valOf I64 [.int .i64 tk]]).toArray w fun e w' => ∃ rs, e = .returned (retVal rs) ∧ Below w.heap.size w w' ∧ ResOK w.heap.size w' F false [I64, I64, I64] y rs := fun is er hpl hgo hyr => by
    refine (callsIn_wide.1 (at_walk w a1 a2 a3 a4 a5 a6 a7 a8 a9 a10 a11 a12 p.1 p.2.1 tk er is v p.2.2 hI (fun W hB => callsIn_wide.2 ?_) hgo)).mono ?_
    · have hk : Keeps w F W F := ⟨hB.size, fun b hlt hO => ⟨hO, hB.block b hlt⟩⟩
      refine (site_Plan_m.calls W F _ (s, p) (is, er) (stays w W hB hV) (fun b hb => Nat.lt_of_lt_of_le (hF b hb) hB.size) ⟨_, _, reads_keeps hk SSite h1', rfl, _, reads_keeps hk SPlan h2', rfl⟩ hpl).mono ?_
      rintro e W' ⟨rs, rfl, hB2, hres⟩
      obtain ⟨us4, vs4, g1, rfl, us5, g2, rfl⟩ := (show ReadArgs W' F [Bo, I64] (is, er) rs from hres)
      have : us4 = [.bool is] := g1
      subst this
      obtain ⟨rfl, hin⟩ := (show us5 = [.int .i64 er] ∧ inR .i64 er = true from g2)
      exact ⟨rfl, hB2, hin⟩
    · rintro e w' ⟨⟨her, r1, r2, r3, hr, rfl⟩, hB⟩
      have hin := at_res_in (zs := p.2.2) (cy := p.1) (of := p.2.1) (tk := tk) (is := is) her (fun a b c d => (hgo a b c d).2)
      rw [hyr]
      rw [← hr] at hin ⊢
      exact ⟨[.int .i64 r1, .int .i64 r2, .int .i64 r3], rfl, hB, [.int .i64 r1], _, ⟨rfl, hin.1⟩, rfl, [.int .i64 r2], _, ⟨rfl, hin.2.1⟩, rfl, [.int .i64 r3], ⟨rfl, hin.2.2⟩, rfl⟩
  unfold plan_At_t at hy
  split at hy
  · cases hy
  · rename_i is er hpl
    refine key is er hpl ?_ ?_
    · rintro rfl rfl t0 t1
      rw [if_neg (by simp), if_neg (by simp), if_neg (by simp only; omega)] at hy
      split at hy
      · cases hy
      · rename_i hc
        simp only at hc
        unfold llen at hc
        exact ⟨by omega, by omega⟩
    · unfold at_res
      by_cases h0 : er = 0
      · subst h0
        rw [if_neg (by simp)] at hy ⊢
        cases is with
        | false => rw [if_pos rfl] at hy ⊢; cases hy; rfl
        | true =>
          rw [if_neg (by simp)] at hy ⊢
          simp only at hy
          by_cases ht : tk < 0 ∨ 1073741824 < tk
          · rw [if_pos ht] at hy ⊢; cases hy; rfl
          · rw [if_neg ht] at hy ⊢
            split at hy
            · cases hy
            · cases hy
              simp only [wr_wrap]
              rfl
      · rw [if_pos h0] at hy ⊢; cases hy; rfl
theorem plan_At_m : Meets Tryd.prog V 9 (spP [SSite, SPlan, I64] [I64, I64, I64] plan_At_t) where
  enters := enters_of Tryd.func9 (by kernel_rfl) rfl
  tot := fun g hg => by cases hg
  calls := fun w F vals x y hV hF hr hy => at_calls w F vals x y hV hF hr hy

def law17_PlanParts_L : List (Nat × FSpec) := [(7, (spP [] [Bo] law17_alive_t)), (8, (spP [SSite] [Bo] ref05_Great_t)), (9, (spP [SSite, SPlan, I64] [I64, I64, I64] plan_At_t))]
theorem law17_PlanParts_l : AllMeet Tryd.prog V law17_PlanParts_L := (.cons law17_alive_m (.cons ref05_Great_m (.cons plan_At_m .nil)))
set_option maxRecDepth 100000 in
theorem law17_PlanParts_d : ∀ x : PSSite × PSPlan × Int, denote (mkC Tryd.prog V law17_PlanParts_L) 1 (inlOf Tryd.f3 { loops := [(0, [.slot 12 I64, .arr 11 I64]), (2, [.slot 16 I64, .arr 11 I64])] }) [SSite, SPlan, I64] [Bo] false x = law17_PlanParts_t x := fun x => by kernel_rfl
theorem law17_PlanParts_m : Meets Tryd.prog V 3 (spP [SSite, SPlan, I64] [Bo] law17_PlanParts_t) := meets_part law17_PlanParts_l stays hmix (hs := { loops := [(0, [.slot 12 I64, .arr 11 I64]), (2, [.slot 16 I64, .arr 11 I64])] }) (fnOK Tryd.func3 (by kernel_rfl) (by kernel_rfl) (by kernel_rfl)) false law17_PlanParts_d
def plan_Wants_L : List (Nat × FSpec) := [(9, (spP [SSite, SPlan, I64] [I64, I64, I64] plan_At_t)), (27, (spP [SSite, I64] [I64] plan_clear_t)), (28, (spP [SSite, I64] [I64] plan_next_t))]
theorem plan_Wants_l : AllMeet Tryd.prog V plan_Wants_L := (.cons plan_At_m (.cons plan_clear_m (.cons plan_next_m .nil)))
set_option maxRecDepth 100000 in
theorem plan_Wants_d : ∀ x : PSSite × PSPlan × Int, denote (mkC Tryd.prog V plan_Wants_L) 1 (inlOf Tryd.f13 {}) [SSite, SPlan, I64] [I64, I64] false x = plan_Wants_t x := fun x => by kernel_rfl
theorem plan_Wants_m : Meets Tryd.prog V 13 (spP [SSite, SPlan, I64] [I64, I64] plan_Wants_t) := meets_part plan_Wants_l stays hmix (hs := {}) (fnOK Tryd.func13 (by kernel_rfl) (by kernel_rfl) (by kernel_rfl)) false plan_Wants_d
def law17_PlanNames_L : List (Nat × FSpec) := [(11, (spT [] [SSite] law17_three)), (10, (spP [SSite, SPlan] [SPlan, I64] plan_Clamp_t)), (9, (spP [SSite, SPlan, I64] [I64, I64, I64] plan_At_t)), (13, (spP [SSite, SPlan, I64] [I64, I64] plan_Wants_t)), (7, (spP [] [Bo] law17_alive_t))]
theorem law17_PlanNames_l : AllMeet Tryd.prog V law17_PlanNames_L := (.cons law17_three_m (.cons plan_Clamp_m (.cons plan_At_m (.cons plan_Wants_m (.cons law17_alive_m .nil)))))
noncomputable def law17_PlanNames_I : List (Nat × Inl) := [(12, inlOf Tryd.f12 {})]
theorem law17_PlanNames_i : AllOK Tryd.prog law17_PlanNames_I := (.cons (fnOK Tryd.func12 (by kernel_rfl) (by kernel_rfl) (by kernel_rfl)) .nil)
set_option maxRecDepth 100000 in
theorem law17_PlanNames_d : ∀ x : Unit, denote (mkC Tryd.prog V law17_PlanNames_L law17_PlanNames_I) 2 (inlOf Tryd.f4 { loops := [(0, [.slot 5 Bo, .slot 10 I64, .arr 7 I64, .arr 8 I64, .arr 9 I64]), (2, [.slot 5 Bo, .slot 16 I64, .arr 14 I64, .arr 15 I64])] }) [] [Bo] false x = law17_PlanNames_t x := fun x => by kernel_rfl
theorem law17_PlanNames_m : Meets Tryd.prog V 4 (spP [] [Bo] law17_PlanNames_t) := meets_part_il law17_PlanNames_l stays hmix law17_PlanNames_i (hs := { loops := [(0, [.slot 5 Bo, .slot 10 I64, .arr 7 I64, .arr 8 I64, .arr 9 I64]), (2, [.slot 5 Bo, .slot 16 I64, .arr 14 I64, .arr 15 I64])] }) (fnOK Tryd.func4 (by kernel_rfl) (by kernel_rfl) (by kernel_rfl)) false 2 law17_PlanNames_d
def ref05_in_L : List (Nat × FSpec) := []
theorem ref05_in_l : AllMeet Tryd.prog V ref05_in_L := .nil
set_option maxRecDepth 100000 in
theorem ref05_in_d : ∀ x : Int × Int × Int, denote (mkC Tryd.prog V ref05_in_L) 1 (inlOf Tryd.f59 {}) [I64, I64, I64] [Bo] false x = ref05_in_t x := fun x => by kernel_rfl
theorem ref05_in_m : Meets Tryd.prog V 59 (spT [I64, I64, I64] [Bo] ref05_in) := meets_tot ref05_in_l stays hmix (hs := {}) (fnOK Tryd.func59 (by kernel_rfl) (by kernel_rfl) (by kernel_rfl)) false fun x => (ref05_in_d x).trans (ref05_in_e x)
def ref02_Has_L : List (Nat × FSpec) := []
theorem ref02_Has_l : AllMeet Tryd.prog V ref02_Has_L := .nil
set_option maxRecDepth 100000 in
theorem ref02_Has_d : ∀ x : Int × Int, denote (mkC Tryd.prog V ref02_Has_L) 1 (inlOf Tryd.f93 {}) [U32, I64] [Bo] false x = ref02_Has_t x := fun x => by kernel_rfl
theorem ref02_Has_m : Meets Tryd.prog V 93 (spT [U32, I64] [Bo] ref02_Has) := meets_up (meets_part ref02_Has_l stays hmix (hs := {}) (fnOK Tryd.func93 (by kernel_rfl) (by kernel_rfl) (by kernel_rfl)) false ref02_Has_d) ref02_Has_e
def ref05_Apart_L : List (Nat × FSpec) := [(93, (spT [U32, I64] [Bo] ref02_Has))]
theorem ref05_Apart_l : AllMeet Tryd.prog V ref05_Apart_L := (.cons ref02_Has_m .nil)
set_option maxRecDepth 100000 in
theorem ref05_Apart_d : ∀ x : PSSite × Int × Int, denote (mkC Tryd.prog V ref05_Apart_L) 1 (inlOf Tryd.f92 {}) [SSite, I64, I64] [Bo] false x = ref05_Apart_t x := fun x => by kernel_rfl
theorem ref05_Apart_m : Meets Tryd.prog V 92 (spP [SSite, I64, I64] [Bo] ref05_Apart_t) := meets_part ref05_Apart_l stays hmix (hs := {}) (fnOK Tryd.func92 (by kernel_rfl) (by kernel_rfl) (by kernel_rfl)) false ref05_Apart_d
def ref05_groups_L : List (Nat × FSpec) := [(59, (spT [I64, I64, I64] [Bo] ref05_in)), (92, (spP [SSite, I64, I64] [Bo] ref05_Apart_t))]
theorem ref05_groups_l : AllMeet Tryd.prog V ref05_groups_L := (.cons ref05_in_m (.cons ref05_Apart_m .nil))
set_option maxRecDepth 100000 in
theorem ref05_groups_d : ∀ x : PSSite, denote (mkC Tryd.prog V ref05_groups_L) 1 (inlOf Tryd.f57 { loops := [(0, [.slot 4 I64]), (2, [.slot 6 I64]), (4, [.slot 7 I64])] }) [SSite] [Bo] false x = ref05_groups_t x := fun x => by kernel_rfl
theorem ref05_groups_m : Meets Tryd.prog V 57 (spP [SSite] [Bo] ref05_groups_t) := meets_part ref05_groups_l stays hmix (hs := { loops := [(0, [.slot 4 I64]), (2, [.slot 6 I64]), (4, [.slot 7 I64])] }) (fnOK Tryd.func57 (by kernel_rfl) (by kernel_rfl) (by kernel_rfl)) false ref05_groups_d
def ref02_With_L : List (Nat × FSpec) := [(93, (spT [U32, I64] [Bo] ref02_Has))]
theorem ref02_With_l : AllMeet Tryd.prog V ref02_With_L := (.cons ref02_Has_m .nil)
set_option maxRecDepth 100000 in
theorem ref02_With_d : ∀ x : Int × Int, denote (mkC Tryd.prog V ref02_With_L) 1 (inlOf Tryd.f94 {}) [U32, I64] [U32] false x = ref02_With_t x := fun x => by kernel_rfl
theorem ref02_With_m : Meets Tryd.prog V 94 (spT [U32, I64] [U32] ref02_With) := meets_tot ref02_With_l stays hmix (hs := {}) (fnOK Tryd.func94 (by kernel_rfl) (by kernel_rfl) (by kernel_rfl)) false fun x => (ref02_With_d x).trans (ref02_With_e x)
def ref02_Count_L : List (Nat × FSpec) := [(93, (spT [U32, I64] [Bo] ref02_Has))]
theorem ref02_Count_l : AllMeet Tryd.prog V ref02_Count_L := (.cons ref02_Has_m .nil)
set_option maxRecDepth 100000 in
theorem ref02_Count_d : ∀ x : Int, denote (mkC Tryd.prog V ref02_Count_L) 1 (inlOf Tryd.f95 { loops := [(0, [.slot 3 I64, .slot 4 I64])] }) [U32] [I64] false x = ref02_Count_t x := fun x => by kernel_rfl
theorem ref02_Count_m : Meets Tryd.prog V 95 (spP [U32] [I64] ref02_Count_t) := meets_part ref02_Count_l stays hmix (hs := { loops := [(0, [.slot 3 I64, .slot 4 I64])] }) (fnOK Tryd.func95 (by kernel_rfl) (by kernel_rfl) (by kernel_rfl)) false ref02_Count_d
def ref05_phases_L : List (Nat × FSpec) := [(59, (spT [I64, I64, I64] [Bo] ref05_in)), (93, (spT [U32, I64] [Bo] ref02_Has)), (94, (spT [U32, I64] [U32] ref02_With)), (92, (spP [SSite, I64, I64] [Bo] ref05_Apart_t)), (95, (spP [U32] [I64] ref02_Count_t))]
theorem ref05_phases_l : AllMeet Tryd.prog V ref05_phases_L := (.cons ref05_in_m (.cons ref02_Has_m (.cons ref02_With_m (.cons ref05_Apart_m (.cons ref02_Count_m .nil)))))
set_option maxRecDepth 100000 in
theorem ref05_phases_d : ∀ x : PSSite, denote (mkC Tryd.prog V ref05_phases_L) 1 (inlOf Tryd.f58 { loops := [(0, [.slot 3 U32, .slot 4 I64]), (2, [.slot 3 U32, .slot 6 I64, .slot 7 I64]), (4, [.slot 8 I64])] }) [SSite] [Bo] false x = ref05_phases_t x := fun x => by kernel_rfl
theorem ref05_phases_m : Meets Tryd.prog V 58 (spP [SSite] [Bo] ref05_phases_t) := meets_part ref05_phases_l stays hmix (hs := { loops := [(0, [.slot 3 U32, .slot 4 I64]), (2, [.slot 3 U32, .slot 6 I64, .slot 7 I64]), (4, [.slot 8 I64])] }) (fnOK Tryd.func58 (by kernel_rfl) (by kernel_rfl) (by kernel_rfl)) false ref05_phases_d
def ref05_Clear_L : List (Nat × FSpec) := [(93, (spT [U32, I64] [Bo] ref02_Has)), (92, (spP [SSite, I64, I64] [Bo] ref05_Apart_t))]
theorem ref05_Clear_l : AllMeet Tryd.prog V ref05_Clear_L := (.cons ref02_Has_m (.cons ref05_Apart_m .nil))
set_option maxRecDepth 100000 in
theorem ref05_Clear_d : ∀ x : PSSite × Int × Int, denote (mkC Tryd.prog V ref05_Clear_L) 1 (inlOf Tryd.f111 { loops := [(0, [.slot 7 I64, .slot 8 I64]), (2, [.slot 7 I64, .slot 9 I64])] }) [SSite, I64, I64] [I64] false x = ref05_Clear_t x := fun x => by kernel_rfl
theorem ref05_Clear_m : Meets Tryd.prog V 111 (spP [SSite, I64, I64] [I64] ref05_Clear_t) := meets_part ref05_Clear_l stays hmix (hs := { loops := [(0, [.slot 7 I64, .slot 8 I64]), (2, [.slot 7 I64, .slot 9 I64])] }) (fnOK Tryd.func111 (by kernel_rfl) (by kernel_rfl) (by kernel_rfl)) false ref05_Clear_d
def ref05_needs_L : List (Nat × FSpec) := [(111, (spP [SSite, I64, I64] [I64] ref05_Clear_t))]
theorem ref05_needs_l : AllMeet Tryd.prog V ref05_needs_L := (.cons ref05_Clear_m .nil)
set_option maxRecDepth 100000 in
theorem ref05_needs_d : ∀ x : PSSite × Int, denote (mkC Tryd.prog V ref05_needs_L) 1 (inlOf Tryd.f96 {}) [SSite, I64] [I64] false x = ref05_needs_t x := fun x => by kernel_rfl
theorem ref05_needs_m : Meets Tryd.prog V 96 (spP [SSite, I64] [I64] ref05_needs_t) := meets_part ref05_needs_l stays hmix (hs := {}) (fnOK Tryd.func96 (by kernel_rfl) (by kernel_rfl) (by kernel_rfl)) false ref05_needs_d
def ref05_Round_L : List (Nat × FSpec) := [(96, (spP [SSite, I64] [I64] ref05_needs_t))]
theorem ref05_Round_l : AllMeet Tryd.prog V ref05_Round_L := (.cons ref05_needs_m .nil)
set_option maxRecDepth 100000 in
theorem ref05_Round_d : ∀ x : PSSite, denote (mkC Tryd.prog V ref05_Round_L) 1 (inlOf Tryd.f60 { loops := [(0, [.slot 3 I64, .slot 4 I64])] }) [SSite] [I64] false x = ref05_Round_t x := fun x => by kernel_rfl
theorem ref05_Round_m : Meets Tryd.prog V 60 (spP [SSite] [I64] ref05_Round_t) := meets_part ref05_Round_l stays hmix (hs := { loops := [(0, [.slot 3 I64, .slot 4 I64])] }) (fnOK Tryd.func60 (by kernel_rfl) (by kernel_rfl) (by kernel_rfl)) false ref05_Round_d
def ref05_PlanMay_L : List (Nat × FSpec) := [(59, (spT [I64, I64, I64] [Bo] ref05_in)), (96, (spP [SSite, I64] [I64] ref05_needs_t))]
theorem ref05_PlanMay_l : AllMeet Tryd.prog V ref05_PlanMay_L := (.cons ref05_in_m (.cons ref05_needs_m .nil))
set_option maxRecDepth 100000 in
theorem ref05_PlanMay_d : ∀ x : PSSite × PSPlan, denote (mkC Tryd.prog V ref05_PlanMay_L) 1 (inlOf Tryd.f61 { loops := [(0, [.slot 5 I64, .slot 6 I64])] }) [SSite, SPlan] [Bo] false x = ref05_PlanMay_t x := fun x => by kernel_rfl
theorem ref05_PlanMay_m : Meets Tryd.prog V 61 (spP [SSite, SPlan] [Bo] ref05_PlanMay_t) := meets_part ref05_PlanMay_l stays hmix (hs := { loops := [(0, [.slot 5 I64, .slot 6 I64])] }) (fnOK Tryd.func61 (by kernel_rfl) (by kernel_rfl) (by kernel_rfl)) false ref05_PlanMay_d
def ref05_Check_L : List (Nat × FSpec) := [(57, (spP [SSite] [Bo] ref05_groups_t)), (58, (spP [SSite] [Bo] ref05_phases_t)), (59, (spT [I64, I64, I64] [Bo] ref05_in)), (60, (spP [SSite] [I64] ref05_Round_t)), (61, (spP [SSite, SPlan] [Bo] ref05_PlanMay_t))]
theorem ref05_Check_l : AllMeet Tryd.prog V ref05_Check_L := (.cons ref05_groups_m (.cons ref05_phases_m (.cons ref05_in_m (.cons ref05_Round_m (.cons ref05_PlanMay_m .nil)))))
set_option maxRecDepth 100000 in
theorem ref05_Check_d : ∀ x : PSSite, denote (mkC Tryd.prog V ref05_Check_L) 1 (inlOf Tryd.f29 { loops := [(0, [.slot 3 I64]), (2, [.slot 5 I64])] }) [SSite] [I64] false x = ref05_Check_t x := fun x => by kernel_rfl
theorem ref05_Check_m : Meets Tryd.prog V 29 (spP [SSite] [I64] ref05_Check_t) := meets_part ref05_Check_l stays hmix (hs := { loops := [(0, [.slot 3 I64]), (2, [.slot 5 I64])] }) (fnOK Tryd.func29 (by kernel_rfl) (by kernel_rfl) (by kernel_rfl)) false ref05_Check_d
def ref17_After_L : List (Nat × FSpec) := []
theorem ref17_After_l : AllMeet Tryd.prog V ref17_After_L := .nil
set_option maxRecDepth 100000 in
theorem ref17_After_d : ∀ x : PSSite × Int, denote (mkC Tryd.prog V ref17_After_L) 1 (inlOf Tryd.f34 {}) [SSite, I64] [I64] false x = ref17_After_t x := fun x => by kernel_rfl
theorem ref17_After_m : Meets Tryd.prog V 34 (spT [SSite, I64] [I64] ref17_After) := meets_tot ref17_After_l stays hmix (hs := {}) (fnOK Tryd.func34 (by kernel_rfl) (by kernel_rfl) (by kernel_rfl)) false fun x => (ref17_After_d x).trans (ref17_After_e x)
def ref17_in_L : List (Nat × FSpec) := []
theorem ref17_in_l : AllMeet Tryd.prog V ref17_in_L := .nil
set_option maxRecDepth 100000 in
theorem ref17_in_d : ∀ x : PSSite × Int × Int, denote (mkC Tryd.prog V ref17_in_L) 1 (inlOf Tryd.f62 {}) [SSite, I64, I64] [Bo] false x = ref17_in_t x := fun x => by kernel_rfl
theorem ref17_in_m : Meets Tryd.prog V 62 (spP [SSite, I64, I64] [Bo] ref17_in_t) := meets_part ref17_in_l stays hmix (hs := {}) (fnOK Tryd.func62 (by kernel_rfl) (by kernel_rfl) (by kernel_rfl)) false ref17_in_d
def ref08_Apart_L : List (Nat × FSpec) := []
theorem ref08_Apart_l : AllMeet Tryd.prog V ref08_Apart_L := .nil
set_option maxRecDepth 100000 in
theorem ref08_Apart_d : ∀ x : PSSite × Int × Int, denote (mkC Tryd.prog V ref08_Apart_L) 1 (inlOf Tryd.f63 {}) [SSite, I64, I64] [Bo] false x = ref08_Apart_t x := fun x => by kernel_rfl
theorem ref08_Apart_m : Meets Tryd.prog V 63 (spP [SSite, I64, I64] [Bo] ref08_Apart_t) := meets_part ref08_Apart_l stays hmix (hs := {}) (fnOK Tryd.func63 (by kernel_rfl) (by kernel_rfl) (by kernel_rfl)) false ref08_Apart_d
def ref08_Between_L : List (Nat × FSpec) := []
theorem ref08_Between_l : AllMeet Tryd.prog V ref08_Between_L := .nil
set_option maxRecDepth 100000 in
theorem ref08_Between_d : ∀ x : PSSite × Int × Int, denote (mkC Tryd.prog V ref08_Between_L) 1 (inlOf Tryd.f64 {}) [SSite, I64, I64] [I64] false x = ref08_Between_t x := fun x => by kernel_rfl
theorem ref08_Between_m : Meets Tryd.prog V 64 (spP [SSite, I64, I64] [I64] ref08_Between_t) := meets_part ref08_Between_l stays hmix (hs := {}) (fnOK Tryd.func64 (by kernel_rfl) (by kernel_rfl) (by kernel_rfl)) false ref08_Between_d
def ref17_Gap_L : List (Nat × FSpec) := [(34, (spT [SSite, I64] [I64] ref17_After)), (62, (spP [SSite, I64, I64] [Bo] ref17_in_t)), (63, (spP [SSite, I64, I64] [Bo] ref08_Apart_t)), (64, (spP [SSite, I64, I64] [I64] ref08_Between_t))]
theorem ref17_Gap_l : AllMeet Tryd.prog V ref17_Gap_L := (.cons ref17_After_m (.cons ref17_in_m (.cons ref08_Apart_m (.cons ref08_Between_m .nil))))
set_option maxRecDepth 100000 in
theorem ref17_Gap_d : ∀ x : PSSite × Int, denote (mkC Tryd.prog V ref17_Gap_L) 1 (inlOf Tryd.f33 { loops := [(0, [.slot 6 I64, .slot 7 I64]), (2, [.slot 6 I64, .slot 8 I64])] }) [SSite, I64] [I64] false x = ref17_Gap_t x := fun x => by kernel_rfl
theorem ref17_Gap_m : Meets Tryd.prog V 33 (spP [SSite, I64] [I64] ref17_Gap_t) := meets_part ref17_Gap_l stays hmix (hs := { loops := [(0, [.slot 6 I64, .slot 7 I64]), (2, [.slot 6 I64, .slot 8 I64])] }) (fnOK Tryd.func33 (by kernel_rfl) (by kernel_rfl) (by kernel_rfl)) false ref17_Gap_d
def ref17_Near_L : List (Nat × FSpec) := [(33, (spP [SSite, I64] [I64] ref17_Gap_t))]
theorem ref17_Near_l : AllMeet Tryd.prog V ref17_Near_L := (.cons ref17_Gap_m .nil)
set_option maxRecDepth 100000 in
theorem ref17_Near_d : ∀ x : PSSite × PSPlan, denote (mkC Tryd.prog V ref17_Near_L) 1 (inlOf Tryd.f30 { loops := [(0, [.slot 6 I64, .slot 7 I64, .own 8 I64, .slot 9 I64, .fown 5 (.pair I64 I64) I64 .unit]), (2, [.slot 12 I64, .slot 13 I64, .slot 14 I64, .fown 5 (.pair I64 I64) I64 .unit])], joins := [(4, [.fown 5 (.pair I64 I64) I64 .unit]), (6, [.fown 5 (.pair I64 I64) I64 .unit]), (9, [.fown 5 (.pair I64 I64) I64 .unit]), (21, [.slot 11 I64, .own 8 I64, .fown 5 (.pair I64 I64) I64 .unit]), (23, [.slot 11 I64, .own 8 I64, .fown 5 (.pair I64 I64) I64 .unit]), (34, [.slot 12 I64, .slot 13 I64, .fown 5 (.pair I64 I64) I64 .unit])] }) [SSite, SPlan] [SPlan] false x = ref17_Near_t x := fun x => by kernel_rfl
theorem ref17_Near_m : Meets Tryd.prog V 30 (spP [SSite, SPlan] [SPlan] ref17_Near_t) := meets_part ref17_Near_l stays hmix (hs := { loops := [(0, [.slot 6 I64, .slot 7 I64, .own 8 I64, .slot 9 I64, .fown 5 (.pair I64 I64) I64 .unit]), (2, [.slot 12 I64, .slot 13 I64, .slot 14 I64, .fown 5 (.pair I64 I64) I64 .unit])], joins := [(4, [.fown 5 (.pair I64 I64) I64 .unit]), (6, [.fown 5 (.pair I64 I64) I64 .unit]), (9, [.fown 5 (.pair I64 I64) I64 .unit]), (21, [.slot 11 I64, .own 8 I64, .fown 5 (.pair I64 I64) I64 .unit]), (23, [.slot 11 I64, .own 8 I64, .fown 5 (.pair I64 I64) I64 .unit]), (34, [.slot 12 I64, .slot 13 I64, .fown 5 (.pair I64 I64) I64 .unit])] }) (fnOK Tryd.func30 (by kernel_rfl) (by kernel_rfl) (by kernel_rfl)) false ref17_Near_d
def ref17_Clamp_L : List (Nat × FSpec) := [(29, (spP [SSite] [I64] ref05_Check_t)), (30, (spP [SSite, SPlan] [SPlan] ref17_Near_t))]
theorem ref17_Clamp_l : AllMeet Tryd.prog V ref17_Clamp_L := (.cons ref05_Check_m (.cons ref17_Near_m .nil))
set_option maxRecDepth 100000 in
theorem ref17_Clamp_d : ∀ x : PSSite × PSPlan, denote (mkC Tryd.prog V ref17_Clamp_L) 1 (inlOf Tryd.f14 {}) [SSite, SPlan] [SPlan, I64] false x = ref17_Clamp_t x := fun x => by kernel_rfl
theorem ref17_Clamp_m : Meets Tryd.prog V 14 (spP [SSite, SPlan] [SPlan, I64] ref17_Clamp_t) := meets_part ref17_Clamp_l stays hmix (hs := {}) (fnOK Tryd.func14 (by kernel_rfl) (by kernel_rfl) (by kernel_rfl)) false ref17_Clamp_d
def ref17_Fits_L : List (Nat × FSpec) := [(33, (spP [SSite, I64] [I64] ref17_Gap_t))]
theorem ref17_Fits_l : AllMeet Tryd.prog V ref17_Fits_L := (.cons ref17_Gap_m .nil)
set_option maxRecDepth 100000 in
theorem ref17_Fits_d : ∀ x : PSSite × PSPlan, denote (mkC Tryd.prog V ref17_Fits_L) 1 (inlOf Tryd.f31 { loops := [(0, [.slot 5 I64, .slot 6 I64])] }) [SSite, SPlan] [Bo] false x = ref17_Fits_t x := fun x => by kernel_rfl
theorem ref17_Fits_m : Meets Tryd.prog V 31 (spP [SSite, SPlan] [Bo] ref17_Fits_t) := meets_part ref17_Fits_l stays hmix (hs := { loops := [(0, [.slot 5 I64, .slot 6 I64])] }) (fnOK Tryd.func31 (by kernel_rfl) (by kernel_rfl) (by kernel_rfl)) false ref17_Fits_d
def ref17_Part_L : List (Nat × FSpec) := []
theorem ref17_Part_l : AllMeet Tryd.prog V ref17_Part_L := .nil
set_option maxRecDepth 100000 in
theorem ref17_Part_d : ∀ x : PSPlan × Int, denote (mkC Tryd.prog V ref17_Part_L) 1 (inlOf Tryd.f32 { loops := [(0, [.slot 6 I64, .slot 7 I64])] }) [SPlan, I64] [I64, I64] false x = ref17_Part_t x := fun x => by kernel_rfl
theorem ref17_Part_m : Meets Tryd.prog V 32 (spP [SPlan, I64] [I64, I64] ref17_Part_t) := meets_part ref17_Part_l stays hmix (hs := { loops := [(0, [.slot 6 I64, .slot 7 I64])] }) (fnOK Tryd.func32 (by kernel_rfl) (by kernel_rfl) (by kernel_rfl)) false ref17_Part_d
def ref17_At_L : List (Nat × FSpec) := [(29, (spP [SSite] [I64] ref05_Check_t)), (31, (spP [SSite, SPlan] [Bo] ref17_Fits_t)), (32, (spP [SPlan, I64] [I64, I64] ref17_Part_t))]
theorem ref17_At_l : AllMeet Tryd.prog V ref17_At_L := (.cons ref05_Check_m (.cons ref17_Fits_m (.cons ref17_Part_m .nil)))
set_option maxRecDepth 100000 in
theorem ref17_At_d : ∀ x : PSSite × PSPlan × Int, denote (mkC Tryd.prog V ref17_At_L) 1 (inlOf Tryd.f15 {}) [SSite, SPlan, I64] [I64, I64, I64] false x = ref17_At_t x := fun x => by kernel_rfl
theorem ref17_At_m : Meets Tryd.prog V 15 (spP [SSite, SPlan, I64] [I64, I64, I64] ref17_At_t) := meets_part ref17_At_l stays hmix (hs := {}) (fnOK Tryd.func15 (by kernel_rfl) (by kernel_rfl) (by kernel_rfl)) false ref17_At_d
def ref17_Wants_L : List (Nat × FSpec) := [(15, (spP [SSite, SPlan, I64] [I64, I64, I64] ref17_At_t)), (33, (spP [SSite, I64] [I64] ref17_Gap_t)), (34, (spT [SSite, I64] [I64] ref17_After))]
theorem ref17_Wants_l : AllMeet Tryd.prog V ref17_Wants_L := (.cons ref17_At_m (.cons ref17_Gap_m (.cons ref17_After_m .nil)))
set_option maxRecDepth 100000 in
theorem ref17_Wants_d : ∀ x : PSSite × PSPlan × Int, denote (mkC Tryd.prog V ref17_Wants_L) 1 (inlOf Tryd.f16 {}) [SSite, SPlan, I64] [I64, I64] false x = ref17_Wants_t x := fun x => by kernel_rfl
theorem ref17_Wants_m : Meets Tryd.prog V 16 (spP [SSite, SPlan, I64] [I64, I64] ref17_Wants_t) := meets_part ref17_Wants_l stays hmix (hs := {}) (fnOK Tryd.func16 (by kernel_rfl) (by kernel_rfl) (by kernel_rfl)) false ref17_Wants_d
def ref17_Same_L : List (Nat × FSpec) := []
theorem ref17_Same_l : AllMeet Tryd.prog V ref17_Same_L := .nil
set_option maxRecDepth 100000 in
theorem ref17_Same_d : ∀ x : PSPlan × PSPlan, denote (mkC Tryd.prog V ref17_Same_L) 1 (inlOf Tryd.f17 { loops := [(0, [.slot 5 I64])] }) [SPlan, SPlan] [Bo] false x = ref17_Same_t x := fun x => by kernel_rfl
theorem ref17_Same_m : Meets Tryd.prog V 17 (spP [SPlan, SPlan] [Bo] ref17_Same_t) := meets_part ref17_Same_l stays hmix (hs := { loops := [(0, [.slot 5 I64])] }) (fnOK Tryd.func17 (by kernel_rfl) (by kernel_rfl) (by kernel_rfl)) false ref17_Same_d
def law17_PlanGoes_L : List (Nat × FSpec) := [(8, (spP [SSite] [Bo] ref05_Great_t)), (14, (spP [SSite, SPlan] [SPlan, I64] ref17_Clamp_t)), (9, (spP [SSite, SPlan, I64] [I64, I64, I64] plan_At_t)), (15, (spP [SSite, SPlan, I64] [I64, I64, I64] ref17_At_t)), (13, (spP [SSite, SPlan, I64] [I64, I64] plan_Wants_t)), (16, (spP [SSite, SPlan, I64] [I64, I64] ref17_Wants_t)), (17, (spP [SPlan, SPlan] [Bo] ref17_Same_t)), (26, (spP [SSite] [I64] site_Check_t)), (27, (spP [SSite, I64] [I64] plan_clear_t))]
theorem law17_PlanGoes_l : AllMeet Tryd.prog V law17_PlanGoes_L := (.cons ref05_Great_m (.cons ref17_Clamp_m (.cons plan_At_m (.cons ref17_At_m (.cons plan_Wants_m (.cons ref17_Wants_m (.cons ref17_Same_m (.cons site_Check_m (.cons plan_clear_m .nil)))))))))
noncomputable def law17_PlanGoes_I : List (Nat × Inl) := [(10, inlOf Tryd.f10 { loops := [(0, [.slot 54 I64, .slot 8 I64, .slot 9 I64, .slot 10 I64, .fown 7 (.pair I64 I64) I64 .unit, .arr 11 I64]), (2, [.slot 115 I64, .slot 15 I64, .fown 7 (.pair I64 I64) I64 .unit])], joins := [(14, [.fown 7 (.pair I64 I64) I64 .unit, .arr 11 I64]), (16, [.slot 10 I64, .fown 7 (.pair I64 I64) I64 .unit, .arr 11 I64])] })]
theorem law17_PlanGoes_i : AllOK Tryd.prog law17_PlanGoes_I := (.cons (fnOK Tryd.func10 (by kernel_rfl) (by kernel_rfl) (by kernel_rfl)) .nil)
set_option maxRecDepth 100000 in
theorem law17_PlanGoes_d : ∀ x : PSSite × PSPlan × Int, denote (mkC Tryd.prog V law17_PlanGoes_L law17_PlanGoes_I) 2 (inlOf Tryd.f5 { loops := [(0, [.slot 23 I64, .fown 8 (.pair I64 I64) I64 .unit])] }) [SSite, SPlan, I64] [Bo] false x = law17_PlanGoes_t x := fun x => by kernel_rfl
theorem law17_PlanGoes_m : Meets Tryd.prog V 5 (spP [SSite, SPlan, I64] [Bo] law17_PlanGoes_t) := meets_part_il law17_PlanGoes_l stays hmix law17_PlanGoes_i (hs := { loops := [(0, [.slot 23 I64, .fown 8 (.pair I64 I64) I64 .unit])] }) (fnOK Tryd.func5 (by kernel_rfl) (by kernel_rfl) (by kernel_rfl)) false 2 law17_PlanGoes_d
def safe_apart_L : List (Nat × FSpec) := []
theorem safe_apart_l : AllMeet Tryd.prog V safe_apart_L := .nil
set_option maxRecDepth 100000 in
theorem safe_apart_d : ∀ x : PSSite × Int × Int, denote (mkC Tryd.prog V safe_apart_L) 1 (inlOf Tryd.f97 {}) [SSite, I64, I64] [Bo] false x = safe_apart_t x := fun x => by kernel_rfl
theorem safe_apart_m : Meets Tryd.prog V 97 (spP [SSite, I64, I64] [Bo] safe_apart_t) := meets_part safe_apart_l stays hmix (hs := {}) (fnOK Tryd.func97 (by kernel_rfl) (by kernel_rfl) (by kernel_rfl)) false safe_apart_d
def safe_between_L : List (Nat × FSpec) := []
theorem safe_between_l : AllMeet Tryd.prog V safe_between_L := .nil
set_option maxRecDepth 100000 in
theorem safe_between_d : ∀ x : PSSite × Int × Int, denote (mkC Tryd.prog V safe_between_L) 1 (inlOf Tryd.f98 {}) [SSite, I64, I64] [I64] false x = safe_between_t x := fun x => by kernel_rfl
theorem safe_between_m : Meets Tryd.prog V 98 (spP [SSite, I64, I64] [I64] safe_between_t) := meets_part safe_between_l stays hmix (hs := {}) (fnOK Tryd.func98 (by kernel_rfl) (by kernel_rfl) (by kernel_rfl)) false safe_between_d
def safe_greatest_L : List (Nat × FSpec) := [(97, (spP [SSite, I64, I64] [Bo] safe_apart_t)), (98, (spP [SSite, I64, I64] [I64] safe_between_t))]
theorem safe_greatest_l : AllMeet Tryd.prog V safe_greatest_L := (.cons safe_apart_m (.cons safe_between_m .nil))
set_option maxRecDepth 100000 in
theorem safe_greatest_d : ∀ x : PSSite, denote (mkC Tryd.prog V safe_greatest_L) 1 (inlOf Tryd.f65 { loops := [(0, [.slot 3 I64, .slot 9 I64]), (2, [.slot 3 I64, .slot 15 I64])] }) [SSite] [I64] false x = safe_greatest_t x := fun x => by kernel_rfl
theorem safe_greatest_m : Meets Tryd.prog V 65 (spP [SSite] [I64] safe_greatest_t) := meets_part safe_greatest_l stays hmix (hs := { loops := [(0, [.slot 3 I64, .slot 9 I64]), (2, [.slot 3 I64, .slot 15 I64])] }) (fnOK Tryd.func65 (by kernel_rfl) (by kernel_rfl) (by kernel_rfl)) false safe_greatest_d
def safe_first_L : List (Nat × FSpec) := [(65, (spP [SSite] [I64] safe_greatest_t))]
theorem safe_first_l : AllMeet Tryd.prog V safe_first_L := (.cons safe_greatest_m .nil)
set_option maxRecDepth 100000 in
theorem safe_first_d : ∀ x : PSSite, denote (mkC Tryd.prog V safe_first_L) 1 (inlOf Tryd.f35 { loops := [(0, [.slot 10 I64, .fown 3 .unit SSeen (.pair I64 Bo)])] }) [SSite] [SSafe] false x = safe_first_t x := fun x => by kernel_rfl
theorem safe_first_m : Meets Tryd.prog V 35 (spP [SSite] [SSafe] safe_first_t) := meets_part safe_first_l stays hmix (hs := { loops := [(0, [.slot 10 I64, .fown 3 .unit SSeen (.pair I64 Bo)])] }) (fnOK Tryd.func35 (by kernel_rfl) (by kernel_rfl) (by kernel_rfl)) false safe_first_d
def safe_First_L : List (Nat × FSpec) := [(26, (spP [SSite] [I64] site_Check_t)), (35, (spP [SSite] [SSafe] safe_first_t))]
theorem safe_First_l : AllMeet Tryd.prog V safe_First_L := (.cons site_Check_m (.cons safe_first_m .nil))
set_option maxRecDepth 100000 in
theorem safe_First_d : ∀ x : PSSite, denote (mkC Tryd.prog V safe_First_L) 1 (inlOf Tryd.f18 {}) [SSite] [SSafe, I64] false x = safe_First_t x := fun x => by kernel_rfl
theorem safe_First_m : Meets Tryd.prog V 18 (spP [SSite] [SSafe, I64] safe_First_t) := meets_part safe_First_l stays hmix (hs := {}) (fnOK Tryd.func18 (by kernel_rfl) (by kernel_rfl) (by kernel_rfl)) false safe_First_d
def law17_short_L : List (Nat × FSpec) := []
theorem law17_short_l : AllMeet Tryd.prog V law17_short_L := .nil
set_option maxRecDepth 100000 in
theorem law17_short_d : ∀ x : PSSite, denote (mkC Tryd.prog V law17_short_L) 1 (inlOf Tryd.f19 { loops := [(0, [.slot 3 I64]), (2, [.slot 4 I64]), (4, [.slot 5 I64])] }) [SSite] [Bo] false x = law17_short_t x := fun x => by kernel_rfl
theorem law17_short_m : Meets Tryd.prog V 19 (spP [SSite] [Bo] law17_short_t) := meets_part law17_short_l stays hmix (hs := { loops := [(0, [.slot 3 I64]), (2, [.slot 4 I64]), (4, [.slot 5 I64])] }) (fnOK Tryd.func19 (by kernel_rfl) (by kernel_rfl) (by kernel_rfl)) false law17_short_d
def turn_wants_L : List (Nat × FSpec) := []
theorem turn_wants_l : AllMeet Tryd.prog V turn_wants_L := .nil
set_option maxRecDepth 100000 in
theorem turn_wants_d : ∀ x : PSSite × Int × Int, denote (mkC Tryd.prog V turn_wants_L) 1 (inlOf Tryd.f66 {}) [SSite, I64, I64] [Bo] false x = turn_wants_t x := fun x => by kernel_rfl
theorem turn_wants_m : Meets Tryd.prog V 66 (spP [SSite, I64, I64] [Bo] turn_wants_t) := meets_part turn_wants_l stays hmix (hs := {}) (fnOK Tryd.func66 (by kernel_rfl) (by kernel_rfl) (by kernel_rfl)) false turn_wants_d
def turn_asks_L : List (Nat × FSpec) := [(66, (spP [SSite, I64, I64] [Bo] turn_wants_t))]
theorem turn_asks_l : AllMeet Tryd.prog V turn_asks_L := (.cons turn_wants_m .nil)
set_option maxRecDepth 100000 in
theorem turn_asks_d : ∀ x : PSSite × Int, denote (mkC Tryd.prog V turn_asks_L) 1 (inlOf Tryd.f38 { loops := [(0, [.slot 13 I64, .arr 10 U8])] }) [SSite, I64] [U8s] false x = turn_asks_t x := fun x => by kernel_rfl
theorem turn_asks_m : Meets Tryd.prog V 38 (spP [SSite, I64] [U8s] turn_asks_t) := meets_part turn_asks_l stays hmix (hs := { loops := [(0, [.slot 13 I64, .arr 10 U8])] }) (fnOK Tryd.func38 (by kernel_rfl) (by kernel_rfl) (by kernel_rfl)) false turn_asks_d
def turn_Asks_L : List (Nat × FSpec) := [(38, (spP [SSite, I64] [U8s] turn_asks_t)), (26, (spP [SSite] [I64] site_Check_t))]
theorem turn_Asks_l : AllMeet Tryd.prog V turn_Asks_L := (.cons turn_asks_m (.cons site_Check_m .nil))
noncomputable def turn_Asks_I : List (Nat × Inl) := [(36, inlOf Tryd.f36 {}), (37, inlOf Tryd.f37 {})]
theorem turn_Asks_i : AllOK Tryd.prog turn_Asks_I := (.cons (fnOK Tryd.func36 (by kernel_rfl) (by kernel_rfl) (by kernel_rfl)) (.cons (fnOK Tryd.func37 (by kernel_rfl) (by kernel_rfl) (by kernel_rfl)) .nil))
set_option maxRecDepth 100000 in
theorem turn_Asks_d : ∀ x : PSSite × Int, denote (mkC Tryd.prog V turn_Asks_L turn_Asks_I) 3 (inlOf Tryd.f20 { joins := [(2, [])], outs := [(2, [(6, I64)])] }) [SSite, I64] [U8s, I64] false x = turn_Asks_t x := fun x => by kernel_rfl
theorem turn_Asks_m : Meets Tryd.prog V 20 (spP [SSite, I64] [U8s, I64] turn_Asks_t) := meets_part_il turn_Asks_l stays hmix turn_Asks_i (hs := { joins := [(2, [])], outs := [(2, [(6, I64)])] }) (fnOK Tryd.func20 (by kernel_rfl) (by kernel_rfl) (by kernel_rfl)) false 3 turn_Asks_d
def safe_shown_L : List (Nat × FSpec) := []
theorem safe_shown_l : AllMeet Tryd.prog V safe_shown_L := .nil
set_option maxRecDepth 100000 in
theorem safe_shown_d : ∀ x : PSSafe, denote (mkC Tryd.prog V safe_shown_L) 1 (inlOf Tryd.f74 { loops := [(0, [.slot 13 I64, .arr 9 U8])] }) [SSafe] [U8s] true x = safe_shown_t x := fun x => by kernel_rfl
theorem safe_shown_m : Meets Tryd.prog V 74 (spP [SSafe] [U8s] safe_shown_t true) := meets_part safe_shown_l stays hmix (hs := { loops := [(0, [.slot 13 I64, .arr 9 U8])] }) (fnOK Tryd.func74 (by kernel_rfl) (by kernel_rfl) (by kernel_rfl)) true safe_shown_d
def safe_flash_L : List (Nat × FSpec) := []
theorem safe_flash_l : AllMeet Tryd.prog V safe_flash_L := .nil
noncomputable def safe_flash_I : List (Nat × Inl) := [(68, inlOf Tryd.f68 {}), (101, inlOf Tryd.f101 { loops := [(0, [.slot 8 I64])] }), (103, inlOf Tryd.f103 {})]
theorem safe_flash_i : AllOK Tryd.prog safe_flash_I := (.cons (fnOK Tryd.func68 (by kernel_rfl) (by kernel_rfl) (by kernel_rfl)) (.cons (fnOK Tryd.func101 (by kernel_rfl) (by kernel_rfl) (by kernel_rfl)) (.cons (fnOK Tryd.func103 (by kernel_rfl) (by kernel_rfl) (by kernel_rfl)) .nil)))
set_option maxRecDepth 100000 in
theorem safe_flash_d : ∀ x : List Int, denote (mkC Tryd.prog V safe_flash_L safe_flash_I) 4 (inlOf Tryd.f75 {}) [U8s] [Bo] false x = safe_flash_t x := fun x => by kernel_rfl
theorem safe_flash_m : Meets Tryd.prog V 75 (spP [U8s] [Bo] safe_flash_t) := meets_part_il safe_flash_l stays hmix safe_flash_i (hs := {}) (fnOK Tryd.func75 (by kernel_rfl) (by kernel_rfl) (by kernel_rfl)) false 4 safe_flash_d
def safe_red_L : List (Nat × FSpec) := []
theorem safe_red_l : AllMeet Tryd.prog V safe_red_L := .nil
set_option maxRecDepth 100000 in
theorem safe_red_d : ∀ x : Int, denote (mkC Tryd.prog V safe_red_L) 1 (inlOf Tryd.f79 {}) [U8] [Bo] false x = safe_red_t x := fun x => by kernel_rfl
theorem safe_red_m : Meets Tryd.prog V 79 (spT [U8] [Bo] safe_red) := meets_tot safe_red_l stays hmix (hs := {}) (fnOK Tryd.func79 (by kernel_rfl) (by kernel_rfl) (by kernel_rfl)) false fun x => (safe_red_d x).trans (safe_red_e x)
def safe_meet_L : List (Nat × FSpec) := [(79, (spT [U8] [Bo] safe_red)), (97, (spP [SSite, I64, I64] [Bo] safe_apart_t))]
theorem safe_meet_l : AllMeet Tryd.prog V safe_meet_L := (.cons safe_red_m (.cons safe_apart_m .nil))
set_option maxRecDepth 100000 in
theorem safe_meet_d : ∀ x : PSSite × List Int, denote (mkC Tryd.prog V safe_meet_L) 1 (inlOf Tryd.f76 { loops := [(0, [.slot 9 I64]), (2, [.slot 18 I64])] }) [SSite, U8s] [Bo] false x = safe_meet_t x := fun x => by kernel_rfl
theorem safe_meet_m : Meets Tryd.prog V 76 (spP [SSite, U8s] [Bo] safe_meet_t) := meets_part safe_meet_l stays hmix (hs := { loops := [(0, [.slot 9 I64]), (2, [.slot 18 I64])] }) (fnOK Tryd.func76 (by kernel_rfl) (by kernel_rfl) (by kernel_rfl)) false safe_meet_d
def safe_may_L : List (Nat × FSpec) := [(74, (spP [SSafe] [U8s] safe_shown_t true)), (75, (spP [U8s] [Bo] safe_flash_t)), (76, (spP [SSite, U8s] [Bo] safe_meet_t))]
theorem safe_may_l : AllMeet Tryd.prog V safe_may_L := (.cons safe_shown_m (.cons safe_flash_m (.cons safe_meet_m .nil)))
set_option maxRecDepth 100000 in
theorem safe_may_d : ∀ x : PSSite × PSSafe, denote (mkC Tryd.prog V safe_may_L) 1 (inlOf Tryd.f41 {}) [SSite, SSafe] [Bo] false x = safe_may_t x := fun x => by kernel_rfl
theorem safe_may_m : Meets Tryd.prog V 41 (spP [SSite, SSafe] [Bo] safe_may_t) := meets_part safe_may_l stays hmix (hs := {}) (fnOK Tryd.func41 (by kernel_rfl) (by kernel_rfl) (by kernel_rfl)) false safe_may_d
def slices_Index___uint8_uint8__L : List (Nat × FSpec) := []
theorem slices_Index___uint8_uint8__l : AllMeet Tryd.prog V slices_Index___uint8_uint8__L := .nil
set_option maxRecDepth 100000 in
theorem slices_Index___uint8_uint8__d : ∀ x : List Int × Int, denote (mkC Tryd.prog V slices_Index___uint8_uint8__L) 1 (inlOf Tryd.f104 { loops := [(0, [.slot 8 I64])] }) [U8s, U8] [I64] false x = slices_Index___uint8_uint8__t x := fun x => by kernel_rfl
theorem slices_Index___uint8_uint8__m : Meets Tryd.prog V 104 (spP [U8s, U8] [I64] slices_Index___uint8_uint8__t) := meets_part slices_Index___uint8_uint8__l stays hmix (hs := { loops := [(0, [.slot 8 I64])] }) (fnOK Tryd.func104 (by kernel_rfl) (by kernel_rfl) (by kernel_rfl)) false slices_Index___uint8_uint8__d
def slices_Contains___uint8_uint8__L : List (Nat × FSpec) := [(104, (spP [U8s, U8] [I64] slices_Index___uint8_uint8__t))]
theorem slices_Contains___uint8_uint8__l : AllMeet Tryd.prog V slices_Contains___uint8_uint8__L := (.cons slices_Index___uint8_uint8__m .nil)
set_option maxRecDepth 100000 in
theorem slices_Contains___uint8_uint8__d : ∀ x : List Int × Int, denote (mkC Tryd.prog V slices_Contains___uint8_uint8__L) 1 (inlOf Tryd.f77 {}) [U8s, U8] [Bo] false x = slices_Contains___uint8_uint8__t x := fun x => by kernel_rfl
theorem slices_Contains___uint8_uint8__m : Meets Tryd.prog V 77 (spP [U8s, U8] [Bo] slices_Contains___uint8_uint8__t) := meets_part slices_Contains___uint8_uint8__l stays hmix (hs := {}) (fnOK Tryd.func77 (by kernel_rfl) (by kernel_rfl) (by kernel_rfl)) false slices_Contains___uint8_uint8__d
def lamp_kept_L : List (Nat × FSpec) := []
theorem lamp_kept_l : AllMeet Tryd.prog V lamp_kept_L := .nil
set_option maxRecDepth 100000 in
theorem lamp_kept_d : ∀ x : Int, denote (mkC Tryd.prog V lamp_kept_L) 1 (inlOf Tryd.f102 {}) [I64] [I64] false x = lamp_kept_t x := fun x => by kernel_rfl
theorem lamp_kept_m : Meets Tryd.prog V 102 (spT [I64] [I64] lamp_kept) := meets_tot lamp_kept_l stays hmix (hs := {}) (fnOK Tryd.func102 (by kernel_rfl) (by kernel_rfl) (by kernel_rfl)) false fun x => (lamp_kept_d x).trans (lamp_kept_e x)
def lamp_goes_L : List (Nat × FSpec) := []
theorem lamp_goes_l : AllMeet Tryd.prog V lamp_goes_L := .nil
set_option maxRecDepth 100000 in
theorem lamp_goes_d : ∀ x : Int, denote (mkC Tryd.prog V lamp_goes_L) 1 (inlOf Tryd.f105 {}) [U8] [Bo] false x = lamp_goes_t x := fun x => by kernel_rfl
theorem lamp_goes_m : Meets Tryd.prog V 105 (spT [U8] [Bo] lamp_goes) := meets_tot lamp_goes_l stays hmix (hs := {}) (fnOK Tryd.func105 (by kernel_rfl) (by kernel_rfl) (by kernel_rfl)) false fun x => (lamp_goes_d x).trans (lamp_goes_e x)
def lamp_Follows_L : List (Nat × FSpec) := []
theorem lamp_Follows_l : AllMeet Tryd.prog V lamp_Follows_L := .nil
set_option maxRecDepth 100000 in
theorem lamp_Follows_d : ∀ x : Int × Int, denote (mkC Tryd.prog V lamp_Follows_L) 1 (inlOf Tryd.f106 {}) [U8, U8] [Bo] false x = lamp_Follows_t x := fun x => by kernel_rfl
theorem lamp_Follows_m : Meets Tryd.prog V 106 (spT [U8, U8] [Bo] lamp_Follows) := meets_tot lamp_Follows_l stays hmix (hs := {}) (fnOK Tryd.func106 (by kernel_rfl) (by kernel_rfl) (by kernel_rfl)) false fun x => (lamp_Follows_d x).trans (lamp_Follows_e x)
def lamp_May_L : List (Nat × FSpec) := [(102, (spT [I64] [I64] lamp_kept)), (105, (spT [U8] [Bo] lamp_goes)), (106, (spT [U8, U8] [Bo] lamp_Follows))]
theorem lamp_May_l : AllMeet Tryd.prog V lamp_May_L := (.cons lamp_kept_m (.cons lamp_goes_m (.cons lamp_Follows_m .nil)))
set_option maxRecDepth 100000 in
theorem lamp_May_d : ∀ x : PSGroup × PSSeen × Int, denote (mkC Tryd.prog V lamp_May_L) 1 (inlOf Tryd.f80 {}) [SGroup, SSeen, U8] [U8] false x = lamp_May_t x := fun x => by kernel_rfl
theorem lamp_May_m : Meets Tryd.prog V 80 (spT [SGroup, SSeen, U8] [U8] lamp_May) := meets_tot lamp_May_l stays hmix (hs := {}) (fnOK Tryd.func80 (by kernel_rfl) (by kernel_rfl) (by kernel_rfl)) false fun x => (lamp_May_d x).trans (lamp_May_e x)
def safe_close_L : List (Nat × FSpec) := [(97, (spP [SSite, I64, I64] [Bo] safe_apart_t)), (98, (spP [SSite, I64, I64] [I64] safe_between_t))]
theorem safe_close_l : AllMeet Tryd.prog V safe_close_L := (.cons safe_apart_m (.cons safe_between_m .nil))
set_option maxRecDepth 100000 in
theorem safe_close_d : ∀ x : PSSite × PSSafe × List Int, denote (mkC Tryd.prog V safe_close_L) 1 (inlOf Tryd.f81 { loops := [(0, [.slot 14 I64]), (2, [.slot 32 I64])] }) [SSite, SSafe, U8s] [Bo] false x = safe_close_t x := fun x => by kernel_rfl
theorem safe_close_m : Meets Tryd.prog V 81 (spP [SSite, SSafe, U8s] [Bo] safe_close_t) := meets_part safe_close_l stays hmix (hs := { loops := [(0, [.slot 14 I64]), (2, [.slot 32 I64])] }) (fnOK Tryd.func81 (by kernel_rfl) (by kernel_rfl) (by kernel_rfl)) false safe_close_d
def safe_fault_L : List (Nat × FSpec) := [(75, (spP [U8s] [Bo] safe_flash_t)), (77, (spP [U8s, U8] [Bo] slices_Contains___uint8_uint8__t)), (80, (spT [SGroup, SSeen, U8] [U8] lamp_May)), (76, (spP [SSite, U8s] [Bo] safe_meet_t)), (81, (spP [SSite, SSafe, U8s] [Bo] safe_close_t)), (79, (spT [U8] [Bo] safe_red))]
theorem safe_fault_l : AllMeet Tryd.prog V safe_fault_L := (.cons safe_flash_m (.cons slices_Contains___uint8_uint8__m (.cons lamp_May_m (.cons safe_meet_m (.cons safe_close_m (.cons safe_red_m .nil))))))
noncomputable def safe_fault_I : List (Nat × Inl) := [(68, inlOf Tryd.f68 {}), (101, inlOf Tryd.f101 { loops := [(0, [.slot 8 I64])] }), (78, inlOf Tryd.f78 {})]
theorem safe_fault_i : AllOK Tryd.prog safe_fault_I := (.cons (fnOK Tryd.func68 (by kernel_rfl) (by kernel_rfl) (by kernel_rfl)) (.cons (fnOK Tryd.func101 (by kernel_rfl) (by kernel_rfl) (by kernel_rfl)) (.cons (fnOK Tryd.func78 (by kernel_rfl) (by kernel_rfl) (by kernel_rfl)) .nil)))
set_option maxRecDepth 100000 in
theorem safe_fault_d : ∀ x : PSSite × PSSafe × List Int, denote (mkC Tryd.prog V safe_fault_L safe_fault_I) 4 (inlOf Tryd.f42 { loops := [(1, [.slot 38 I64])], joins := [(8, [])], outs := [(8, [(23, Bo)])] }) [SSite, SSafe, U8s] [U8] false x = safe_fault_t x := fun x => by kernel_rfl
theorem safe_fault_m : Meets Tryd.prog V 42 (spP [SSite, SSafe, U8s] [U8] safe_fault_t) := meets_part_il safe_fault_l stays hmix safe_fault_i (hs := { loops := [(1, [.slot 38 I64])], joins := [(8, [])], outs := [(8, [(23, Bo)])] }) (fnOK Tryd.func42 (by kernel_rfl) (by kernel_rfl) (by kernel_rfl)) false 4 safe_fault_d
theorem clone_Seen_m : Meets Tryd.prog V 43 (spP [Ty.slice SSeen] [Ty.slice SSeen] clone_Seen_t true) :=
  clone_meets (e := 93) (T := SSeen) stays hmix Tryd.func43 ⟨by kernel_rfl, rfl, by kernel_rfl, by kernel_rfl, by decide, ⟨0, 1, 2, _, _, _, _, rfl, ⟨rfl, rfl, rfl⟩, ⟨rfl, rfl, rfl⟩, ⟨rfl, ⟨_, rfl⟩, rfl⟩, ⟨rfl, rfl, rfl⟩⟩⟩ (fun l => by kernel_rfl) (fun y h => (Option.some.inj ((show clone_Seen_t [] = some [] by kernel_rfl).symm.trans h)).symm)
def lamp_more_L : List (Nat × FSpec) := [(102, (spT [I64] [I64] lamp_kept))]
theorem lamp_more_l : AllMeet Tryd.prog V lamp_more_L := (.cons lamp_kept_m .nil)
set_option maxRecDepth 100000 in
theorem lamp_more_d : ∀ x : Int, denote (mkC Tryd.prog V lamp_more_L) 1 (inlOf Tryd.f107 {}) [I64] [I64] false x = lamp_more_t x := fun x => by kernel_rfl
theorem lamp_more_m : Meets Tryd.prog V 107 (spT [I64] [I64] lamp_more) := meets_tot lamp_more_l stays hmix (hs := {}) (fnOK Tryd.func107 (by kernel_rfl) (by kernel_rfl) (by kernel_rfl)) false fun x => (lamp_more_d x).trans (lamp_more_e x)
def lamp_Next_L : List (Nat × FSpec) := [(107, (spT [I64] [I64] lamp_more))]
theorem lamp_Next_l : AllMeet Tryd.prog V lamp_Next_L := (.cons lamp_more_m .nil)
set_option maxRecDepth 100000 in
theorem lamp_Next_d : ∀ x : PSGroup × PSSeen × Int, denote (mkC Tryd.prog V lamp_Next_L) 1 (inlOf Tryd.f82 {}) [SGroup, SSeen, U8] [SSeen] false x = lamp_Next_t x := fun x => by kernel_rfl
theorem lamp_Next_m : Meets Tryd.prog V 82 (spT [SGroup, SSeen, U8] [SSeen] lamp_Next) := meets_tot lamp_Next_l stays hmix (hs := {}) (fnOK Tryd.func82 (by kernel_rfl) (by kernel_rfl) (by kernel_rfl)) false fun x => (lamp_Next_d x).trans (lamp_Next_e x)
def safe_behind_L : List (Nat × FSpec) := [(43, (spP [SSeens] [SSeens] clone_Seen_t true)), (75, (spP [U8s] [Bo] safe_flash_t)), (82, (spT [SGroup, SSeen, U8] [SSeen] lamp_Next)), (65, (spP [SSite] [I64] safe_greatest_t))]
theorem safe_behind_l : AllMeet Tryd.prog V safe_behind_L := (.cons clone_Seen_m (.cons safe_flash_m (.cons lamp_Next_m (.cons safe_greatest_m .nil))))
set_option maxRecDepth 100000 in
theorem safe_behind_d : ∀ x : PSSite × PSSafe × List Int, denote (mkC Tryd.prog V safe_behind_L) 1 (inlOf Tryd.f44 { loops := [(0, [.slot 23 I64, .arr 21 SSeen])] }) [SSite, SSafe, U8s] [SSafe] false x = safe_behind_t x := fun x => by kernel_rfl
theorem safe_behind_m : Meets Tryd.prog V 44 (spP [SSite, SSafe, U8s] [SSafe] safe_behind_t) := meets_part safe_behind_l stays hmix (hs := { loops := [(0, [.slot 23 I64, .arr 21 SSeen])] }) (fnOK Tryd.func44 (by kernel_rfl) (by kernel_rfl) (by kernel_rfl)) false safe_behind_d
def safe_Next_L : List (Nat × FSpec) := [(26, (spP [SSite] [I64] site_Check_t)), (41, (spP [SSite, SSafe] [Bo] safe_may_t)), (42, (spP [SSite, SSafe, U8s] [U8] safe_fault_t)), (43, (spP [SSeens] [SSeens] clone_Seen_t true)), (44, (spP [SSite, SSafe, U8s] [SSafe] safe_behind_t))]
theorem safe_Next_l : AllMeet Tryd.prog V safe_Next_L := (.cons site_Check_m (.cons safe_may_m (.cons safe_fault_m (.cons clone_Seen_m (.cons safe_behind_m .nil)))))
set_option maxRecDepth 100000 in
theorem safe_Next_d : ∀ x : PSSite × PSSafe × List Int, denote (mkC Tryd.prog V safe_Next_L) 1 (inlOf Tryd.f22 {}) [SSite, SSafe, U8s] [SSafe, U8, I64] false x = safe_Next_t x := fun x => by kernel_rfl
theorem safe_Next_m : Meets Tryd.prog V 22 (spP [SSite, SSafe, U8s] [SSafe, U8, I64] safe_Next_t) := meets_part safe_Next_l stays hmix (hs := {}) (fnOK Tryd.func22 (by kernel_rfl) (by kernel_rfl) (by kernel_rfl)) false safe_Next_d
def gate_goes_L : List (Nat × FSpec) := [(22, (spP [SSite, SSafe, U8s] [SSafe, U8, I64] safe_Next_t))]
theorem gate_goes_l : AllMeet Tryd.prog V gate_goes_L := (.cons safe_Next_m .nil)
noncomputable def gate_goes_I : List (Nat × Inl) := [(99, inlOf Tryd.f99 {}), (112, inlOf Tryd.f112 { loops := [(0, [.slot 8 I64])] }), (100, inlOf Tryd.f100 {})]
theorem gate_goes_i : AllOK Tryd.prog gate_goes_I := (.cons (fnOK Tryd.func99 (by kernel_rfl) (by kernel_rfl) (by kernel_rfl)) (.cons (fnOK Tryd.func112 (by kernel_rfl) (by kernel_rfl) (by kernel_rfl)) (.cons (fnOK Tryd.func100 (by kernel_rfl) (by kernel_rfl) (by kernel_rfl)) .nil)))
set_option maxRecDepth 100000 in
theorem gate_goes_d : ∀ x : PSSite × PSSafe, denote (mkC Tryd.prog V gate_goes_L gate_goes_I) 4 (inlOf Tryd.f67 { loops := [(0, [.slot 23 I64, .arr 20 U8])], joins := [(9, [.arr 20 U8])] }) [SSite, SSafe] [Bo] false x = gate_goes_t x := fun x => by kernel_rfl
theorem gate_goes_m : Meets Tryd.prog V 67 (spP [SSite, SSafe] [Bo] gate_goes_t) := meets_part_il gate_goes_l stays hmix gate_goes_i (hs := { loops := [(0, [.slot 23 I64, .arr 20 U8])], joins := [(9, [.arr 20 U8])] }) (fnOK Tryd.func67 (by kernel_rfl) (by kernel_rfl) (by kernel_rfl)) false 4 gate_goes_d
def gate_asked_L : List (Nat × FSpec) := [(26, (spP [SSite] [I64] site_Check_t)), (67, (spP [SSite, SSafe] [Bo] gate_goes_t))]
theorem gate_asked_l : AllMeet Tryd.prog V gate_asked_L := (.cons site_Check_m (.cons gate_goes_m .nil))
set_option maxRecDepth 100000 in
theorem gate_asked_d : ∀ x : PSSite × PSSafe, denote (mkC Tryd.prog V gate_asked_L) 1 (inlOf Tryd.f39 {}) [SSite, SSafe] [I64] false x = gate_asked_t x := fun x => by kernel_rfl
theorem gate_asked_m : Meets Tryd.prog V 39 (spP [SSite, SSafe] [I64] gate_asked_t) := meets_part gate_asked_l stays hmix (hs := {}) (fnOK Tryd.func39 (by kernel_rfl) (by kernel_rfl) (by kernel_rfl)) false gate_asked_d
theorem clone_U8_m : Meets Tryd.prog V 70 (spP [Ty.slice U8] [Ty.slice U8] clone_U8_t true) :=
  clone_meets (e := 5) (T := U8) stays hmix Tryd.func70 ⟨by kernel_rfl, rfl, by kernel_rfl, by kernel_rfl, by decide, ⟨0, 1, 2, _, _, _, _, rfl, ⟨rfl, rfl, rfl⟩, ⟨rfl, rfl, rfl⟩, ⟨rfl, ⟨_, rfl⟩, rfl⟩, ⟨rfl, rfl, rfl⟩⟩⟩ (fun l => by kernel_rfl) (fun y h => (Option.some.inj ((show clone_U8_t [] = some [] by kernel_rfl).symm.trans h)).symm)
def gate_all_L : List (Nat × FSpec) := []
theorem gate_all_l : AllMeet Tryd.prog V gate_all_L := .nil
set_option maxRecDepth 100000 in
theorem gate_all_d : ∀ x : Int × Int, denote (mkC Tryd.prog V gate_all_L) 1 (inlOf Tryd.f71 { loops := [(0, [.slot 11 I64, .arr 8 U8])] }) [I64, U8] [U8s] true x = gate_all_t x := fun x => by kernel_rfl
theorem gate_all_m : Meets Tryd.prog V 71 (spP [I64, U8] [U8s] gate_all_t true) := meets_part gate_all_l stays hmix (hs := { loops := [(0, [.slot 11 I64, .arr 8 U8])] }) (fnOK Tryd.func71 (by kernel_rfl) (by kernel_rfl) (by kernel_rfl)) true gate_all_d
def lamp_Want_L : List (Nat × FSpec) := [(102, (spT [I64] [I64] lamp_kept))]
theorem lamp_Want_l : AllMeet Tryd.prog V lamp_Want_L := (.cons lamp_kept_m .nil)
set_option maxRecDepth 100000 in
theorem lamp_Want_d : ∀ x : PSGroup × PSSeen × Int, denote (mkC Tryd.prog V lamp_Want_L) 1 (inlOf Tryd.f72 {}) [SGroup, SSeen, U8] [U8] false x = lamp_Want_t x := fun x => by kernel_rfl
theorem lamp_Want_m : Meets Tryd.prog V 72 (spT [SGroup, SSeen, U8] [U8] lamp_Want) := meets_tot lamp_Want_l stays hmix (hs := {}) (fnOK Tryd.func72 (by kernel_rfl) (by kernel_rfl) (by kernel_rfl)) false fun x => (lamp_Want_d x).trans (lamp_Want_e x)
def gate_admit_L : List (Nat × FSpec) := [(70, (spP [U8s] [U8s] clone_U8_t true)), (71, (spP [I64, U8] [U8s] gate_all_t true)), (72, (spT [SGroup, SSeen, U8] [U8] lamp_Want))]
theorem gate_admit_l : AllMeet Tryd.prog V gate_admit_L := (.cons clone_U8_m (.cons gate_all_m (.cons lamp_Want_m .nil)))
noncomputable def gate_admit_I : List (Nat × Inl) := [(68, inlOf Tryd.f68 {}), (101, inlOf Tryd.f101 { loops := [(0, [.slot 8 I64])] }), (69, inlOf Tryd.f69 {}), (73, inlOf Tryd.f73 { loops := [(0, [.slot 11 I64, .barr 3 U8])] })]
theorem gate_admit_i : AllOK Tryd.prog gate_admit_I := (.cons (fnOK Tryd.func68 (by kernel_rfl) (by kernel_rfl) (by kernel_rfl)) (.cons (fnOK Tryd.func101 (by kernel_rfl) (by kernel_rfl) (by kernel_rfl)) (.cons (fnOK Tryd.func69 (by kernel_rfl) (by kernel_rfl) (by kernel_rfl)) (.cons (fnOK Tryd.func73 (by kernel_rfl) (by kernel_rfl) (by kernel_rfl)) .nil))))
set_option maxRecDepth 100000 in
theorem gate_admit_d : ∀ x : PSSite × PSSafe × List Int, denote (mkC Tryd.prog V gate_admit_L gate_admit_I) 5 (inlOf Tryd.f40 { loops := [(1, [.slot 36 I64, .barr 8 U8]), (3, [.slot 63 I64, .barr 8 U8])], joins := [(2, [])], outs := [(2, [(7, Bo)])] }) [SSite, SSafe, U8s] [U8s] true x = gate_admit_t x := fun x => by kernel_rfl
theorem gate_admit_m : Meets Tryd.prog V 40 (spP [SSite, SSafe, U8s] [U8s] gate_admit_t true) := meets_part_il gate_admit_l stays hmix gate_admit_i (hs := { loops := [(1, [.slot 36 I64, .barr 8 U8]), (3, [.slot 63 I64, .barr 8 U8])], joins := [(2, [])], outs := [(2, [(7, Bo)])] }) (fnOK Tryd.func40 (by kernel_rfl) (by kernel_rfl) (by kernel_rfl)) true 5 gate_admit_d
def gate_Admit_L : List (Nat × FSpec) := [(39, (spP [SSite, SSafe] [I64] gate_asked_t)), (40, (spP [SSite, SSafe, U8s] [U8s] gate_admit_t true))]
theorem gate_Admit_l : AllMeet Tryd.prog V gate_Admit_L := (.cons gate_asked_m (.cons gate_admit_m .nil))
set_option maxRecDepth 100000 in
theorem gate_Admit_d : ∀ x : PSSite × PSSafe × List Int, denote (mkC Tryd.prog V gate_Admit_L) 1 (inlOf Tryd.f21 {}) [SSite, SSafe, U8s] [U8s, I64] true x = gate_Admit_t x := fun x => by kernel_rfl
theorem gate_Admit_m : Meets Tryd.prog V 21 (spP [SSite, SSafe, U8s] [U8s, I64] gate_Admit_t true) := meets_part gate_Admit_l stays hmix (hs := {}) (fnOK Tryd.func21 (by kernel_rfl) (by kernel_rfl) (by kernel_rfl)) true gate_Admit_d
def turn_full_L : List (Nat × FSpec) := [(66, (spP [SSite, I64, I64] [Bo] turn_wants_t))]
theorem turn_full_l : AllMeet Tryd.prog V turn_full_L := (.cons turn_wants_m .nil)
set_option maxRecDepth 100000 in
theorem turn_full_d : ∀ x : PSSite × PSSafe × Int, denote (mkC Tryd.prog V turn_full_L) 1 (inlOf Tryd.f46 { loops := [(0, [.slot 12 I64])] }) [SSite, SSafe, I64] [Bo] false x = turn_full_t x := fun x => by kernel_rfl
theorem turn_full_m : Meets Tryd.prog V 46 (spP [SSite, SSafe, I64] [Bo] turn_full_t) := meets_part turn_full_l stays hmix (hs := { loops := [(0, [.slot 12 I64])] }) (fnOK Tryd.func46 (by kernel_rfl) (by kernel_rfl) (by kernel_rfl)) false turn_full_d
def turn_Full_L : List (Nat × FSpec) := [(46, (spP [SSite, SSafe, I64] [Bo] turn_full_t)), (26, (spP [SSite] [I64] site_Check_t))]
theorem turn_Full_l : AllMeet Tryd.prog V turn_Full_L := (.cons turn_full_m (.cons site_Check_m .nil))
noncomputable def turn_Full_I : List (Nat × Inl) := [(36, inlOf Tryd.f36 {}), (45, inlOf Tryd.f45 {})]
theorem turn_Full_i : AllOK Tryd.prog turn_Full_I := (.cons (fnOK Tryd.func36 (by kernel_rfl) (by kernel_rfl) (by kernel_rfl)) (.cons (fnOK Tryd.func45 (by kernel_rfl) (by kernel_rfl) (by kernel_rfl)) .nil))
set_option maxRecDepth 100000 in
theorem turn_Full_d : ∀ x : PSSite × PSSafe × Int, denote (mkC Tryd.prog V turn_Full_L turn_Full_I) 3 (inlOf Tryd.f23 { joins := [(2, [])], outs := [(2, [(8, I64)])] }) [SSite, SSafe, I64] [Bo, I64] false x = turn_Full_t x := fun x => by kernel_rfl
theorem turn_Full_m : Meets Tryd.prog V 23 (spP [SSite, SSafe, I64] [Bo, I64] turn_Full_t) := meets_part_il turn_Full_l stays hmix turn_Full_i (hs := { joins := [(2, [])], outs := [(2, [(8, I64)])] }) (fnOK Tryd.func23 (by kernel_rfl) (by kernel_rfl) (by kernel_rfl)) false 3 turn_Full_d
def law17_PlanLocks_L : List (Nat × FSpec) := [(7, (spP [] [Bo] law17_alive_t)), (8, (spP [SSite] [Bo] ref05_Great_t)), (13, (spP [SSite, SPlan, I64] [I64, I64] plan_Wants_t)), (18, (spP [SSite] [SSafe, I64] safe_First_t)), (19, (spP [SSite] [Bo] law17_short_t)), (9, (spP [SSite, SPlan, I64] [I64, I64, I64] plan_At_t)), (20, (spP [SSite, I64] [U8s, I64] turn_Asks_t)), (21, (spP [SSite, SSafe, U8s] [U8s, I64] gate_Admit_t true)), (22, (spP [SSite, SSafe, U8s] [SSafe, U8, I64] safe_Next_t)), (23, (spP [SSite, SSafe, I64] [Bo, I64] turn_Full_t))]
theorem law17_PlanLocks_l : AllMeet Tryd.prog V law17_PlanLocks_L := (.cons law17_alive_m (.cons ref05_Great_m (.cons plan_Wants_m (.cons safe_First_m (.cons law17_short_m (.cons plan_At_m (.cons turn_Asks_m (.cons gate_Admit_m (.cons safe_Next_m (.cons turn_Full_m .nil))))))))))
set_option maxRecDepth 100000 in
theorem law17_PlanLocks_d : ∀ x : PSSite × PSPlan, denote (mkC Tryd.prog V law17_PlanLocks_L) 1 (inlOf Tryd.f6 { loops := [(0, [.slot 10 I64, .slot 11 I64, .box 8 SSafe])] }) [SSite, SPlan] [Bo] false x = law17_PlanLocks_t x := fun x => by kernel_rfl
theorem law17_PlanLocks_m : Meets Tryd.prog V 6 (spP [SSite, SPlan] [Bo] law17_PlanLocks_t) := meets_part law17_PlanLocks_l stays hmix (hs := { loops := [(0, [.slot 10 I64, .slot 11 I64, .box 8 SSafe])] }) (fnOK Tryd.func6 (by kernel_rfl) (by kernel_rfl) (by kernel_rfl)) false law17_PlanLocks_d
end Go.Proofs.YtfdnmjabjmedgaaDoor
