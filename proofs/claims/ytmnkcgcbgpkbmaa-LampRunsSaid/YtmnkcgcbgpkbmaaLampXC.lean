/- Part of a proof: plain readings of Go functions, their contracts, or plain facts of them. -/
import Derived.Test.YtmnkcgcbgpkbmaaRows
import Derived.Test.YtmnkcgcbgpkbmaaLampXP
namespace Go.Proofs.Ytmnkcgcbgpkbmaa
open Go.Den Go.RowKit Go.ChangeShapes

theorem hmix : Try.prog.follows .mixedOrders = true := by kernel_rfl
theorem laidOut : laidOutB Try.prog = true := by kernel_rfl
theorem own : ownKnob Try.prog.godebug = none := by kernel_rfl
def Tb : List (Nat × FSpec) := []
theorem tb : AllMeet Try.prog Tb := .nil
theorem kept_d : ∀ x : Int, denote (mkC Try.prog Tb) 1 (inlOf Try.f16 {}) [I] [I] false x = kept_t x := fun x => by kernel_rfl
theorem kept_m : Meets Try.prog 16 (spT [I] [I] kept) := meets_tot tb hmix (hs := {}) (fnOK Try.func16 (by kernel_rfl) (by kernel_rfl) (by kernel_rfl)) false fun x => (kept_d x).trans (kept_e x)
def Tb0 : List (Nat × FSpec) := (16, (spT [I] [I] kept)) :: Tb
theorem tb0 : AllMeet Try.prog Tb0 := .cons kept_m tb
theorem more_d : ∀ x : Int, denote (mkC Try.prog Tb0) 1 (inlOf Try.f17 {}) [I] [I] false x = more_t x := fun x => by kernel_rfl
theorem more_m : Meets Try.prog 17 (spT [I] [I] more) := meets_tot tb0 hmix (hs := {}) (fnOK Try.func17 (by kernel_rfl) (by kernel_rfl) (by kernel_rfl)) false fun x => (more_d x).trans (more_e x)
def Tb1 : List (Nat × FSpec) := (17, (spT [I] [I] more)) :: Tb0
theorem tb1 : AllMeet Try.prog Tb1 := .cons more_m tb0
theorem goes_d : ∀ x : Int, denote (mkC Try.prog Tb1) 1 (inlOf Try.f18 {}) [U8] [B] false x = goes_t x := fun x => by kernel_rfl
theorem goes_m : Meets Try.prog 18 (spT [U8] [B] goes) := meets_tot tb1 hmix (hs := {}) (fnOK Try.func18 (by kernel_rfl) (by kernel_rfl) (by kernel_rfl)) false fun x => (goes_d x).trans (goes_e x)
def Tb2 : List (Nat × FSpec) := (18, (spT [U8] [B] goes)) :: Tb1
theorem tb2 : AllMeet Try.prog Tb2 := .cons goes_m tb1
theorem follows_d : ∀ x : Int × Int, denote (mkC Try.prog Tb2) 1 (inlOf Try.f9 {}) [U8, U8] [B] false x = follows_t x := fun x => by kernel_rfl
theorem follows_m : Meets Try.prog 9 (spT [U8, U8] [B] follows) := meets_tot tb2 hmix (hs := {}) (fnOK Try.func9 (by kernel_rfl) (by kernel_rfl) (by kernel_rfl)) false fun x => (follows_d x).trans (follows_e x)
def Tb3 : List (Nat × FSpec) := (9, (spT [U8, U8] [B] follows)) :: Tb2
theorem tb3 : AllMeet Try.prog Tb3 := .cons follows_m tb2
theorem next_d : ∀ x : (Int × Int × Int) × (Int × Int × Int) × Int, denote (mkC Try.prog Tb3) 1 (inlOf Try.f10 {}) [Group, Seen, U8] [Seen] false x = next_t x := fun x => by kernel_rfl
theorem next_m : Meets Try.prog 10 (spT [Group, Seen, U8] [Seen] next) := meets_tot tb3 hmix (hs := {}) (fnOK Try.func10 (by kernel_rfl) (by kernel_rfl) (by kernel_rfl)) false fun x => (next_d x).trans (next_e x)
def Tb4 : List (Nat × FSpec) := (10, (spT [Group, Seen, U8] [Seen] next)) :: Tb3
theorem tb4 : AllMeet Try.prog Tb4 := .cons next_m tb3
theorem may_d : ∀ x : (Int × Int × Int) × (Int × Int × Int) × Int, denote (mkC Try.prog Tb4) 1 (inlOf Try.f11 {}) [Group, Seen, U8] [U8] false x = may_t x := fun x => by kernel_rfl
theorem may_m : Meets Try.prog 11 (spT [Group, Seen, U8] [U8] may) := meets_tot tb4 hmix (hs := {}) (fnOK Try.func11 (by kernel_rfl) (by kernel_rfl) (by kernel_rfl)) false fun x => (may_d x).trans (may_e x)
def Tb5 : List (Nat × FSpec) := (11, (spT [Group, Seen, U8] [U8] may)) :: Tb4
theorem tb5 : AllMeet Try.prog Tb5 := .cons may_m tb4
theorem want_d : ∀ x : (Int × Int × Int) × (Int × Int × Int) × Int, denote (mkC Try.prog Tb5) 1 (inlOf Try.f8 {}) [Group, Seen, U8] [U8] false x = want_t x := fun x => by kernel_rfl
theorem want_m : Meets Try.prog 8 (spT [Group, Seen, U8] [U8] want) := meets_tot tb5 hmix (hs := {}) (fnOK Try.func8 (by kernel_rfl) (by kernel_rfl) (by kernel_rfl)) false fun x => (want_d x).trans (want_e x)
def Tb6 : List (Nat × FSpec) := (8, (spT [Group, Seen, U8] [U8] want)) :: Tb5
theorem tb6 : AllMeet Try.prog Tb6 := .cons want_m tb5
theorem rkept_d : ∀ x : Int, denote (mkC Try.prog Tb6) 1 (inlOf Try.f21 {}) [I] [I] false x = rkept_t x := fun x => by kernel_rfl
theorem rkept_m : Meets Try.prog 21 (spT [I] [I] rkept) := meets_tot tb6 hmix (hs := {}) (fnOK Try.func21 (by kernel_rfl) (by kernel_rfl) (by kernel_rfl)) false fun x => (rkept_d x).trans (rkept_e x)
def Tb7 : List (Nat × FSpec) := (21, (spT [I] [I] rkept)) :: Tb6
theorem tb7 : AllMeet Try.prog Tb7 := .cons rkept_m tb6
theorem rmore_d : ∀ x : Int, denote (mkC Try.prog Tb7) 1 (inlOf Try.f19 {}) [I] [I] false x = rmore_t x := fun x => by kernel_rfl
theorem rmore_m : Meets Try.prog 19 (spT [I] [I] rmore) := meets_tot tb7 hmix (hs := {}) (fnOK Try.func19 (by kernel_rfl) (by kernel_rfl) (by kernel_rfl)) false fun x => (rmore_d x).trans (rmore_e x)
def Tb8 : List (Nat × FSpec) := (19, (spT [I] [I] rmore)) :: Tb7
theorem tb8 : AllMeet Try.prog Tb8 := .cons rmore_m tb7
theorem rgoes_d : ∀ x : Int, denote (mkC Try.prog Tb8) 1 (inlOf Try.f20 {}) [U8] [B] false x = rgoes_t x := fun x => by kernel_rfl
theorem rgoes_m : Meets Try.prog 20 (spT [U8] [B] rgoes) := meets_tot tb8 hmix (hs := {}) (fnOK Try.func20 (by kernel_rfl) (by kernel_rfl) (by kernel_rfl)) false fun x => (rgoes_d x).trans (rgoes_e x)
def Tb9 : List (Nat × FSpec) := (20, (spT [U8] [B] rgoes)) :: Tb8
theorem tb9 : AllMeet Try.prog Tb9 := .cons rgoes_m tb8
theorem rfollows_d : ∀ x : Int × Int, denote (mkC Try.prog Tb9) 1 (inlOf Try.f15 {}) [U8, U8] [B] false x = rfollows_t x := fun x => by kernel_rfl
theorem rfollows_m : Meets Try.prog 15 (spT [U8, U8] [B] rfollows) := meets_tot tb9 hmix (hs := {}) (fnOK Try.func15 (by kernel_rfl) (by kernel_rfl) (by kernel_rfl)) false fun x => (rfollows_d x).trans (rfollows_e x)
def Tb10 : List (Nat × FSpec) := (15, (spT [U8, U8] [B] rfollows)) :: Tb9
theorem tb10 : AllMeet Try.prog Tb10 := .cons rfollows_m tb9
theorem rnext_d : ∀ x : (Int × Int × Int) × Int, denote (mkC Try.prog Tb10) 1 (inlOf Try.f12 {}) [Seen, U8] [Seen] false x = rnext_t x := fun x => by kernel_rfl
theorem rnext_m : Meets Try.prog 12 (spT [Seen, U8] [Seen] rnext) := meets_tot tb10 hmix (hs := {}) (fnOK Try.func12 (by kernel_rfl) (by kernel_rfl) (by kernel_rfl)) false fun x => (rnext_d x).trans (rnext_e x)
def Tb11 : List (Nat × FSpec) := (12, (spT [Seen, U8] [Seen] rnext)) :: Tb10
theorem tb11 : AllMeet Try.prog Tb11 := .cons rnext_m tb10
theorem rmay_d : ∀ x : (Int × Int × Int) × (Int × Int × Int) × Int, denote (mkC Try.prog Tb11) 1 (inlOf Try.f13 {}) [Group, Seen, U8] [U8] false x = rmay_t x := fun x => by kernel_rfl
theorem rmay_m : Meets Try.prog 13 (spT [Group, Seen, U8] [U8] rmay) := meets_tot tb11 hmix (hs := {}) (fnOK Try.func13 (by kernel_rfl) (by kernel_rfl) (by kernel_rfl)) false fun x => (rmay_d x).trans (rmay_e x)
def Tb12 : List (Nat × FSpec) := (13, (spT [Group, Seen, U8] [U8] rmay)) :: Tb11
theorem tb12 : AllMeet Try.prog Tb12 := .cons rmay_m tb11
theorem rwant_d : ∀ x : (Int × Int × Int) × (Int × Int × Int) × Int, denote (mkC Try.prog Tb12) 1 (inlOf Try.f14 {}) [Group, Seen, U8] [U8] false x = rwant_t x := fun x => by kernel_rfl
theorem rwant_m : Meets Try.prog 14 (spT [Group, Seen, U8] [U8] rwant) := meets_tot tb12 hmix (hs := {}) (fnOK Try.func14 (by kernel_rfl) (by kernel_rfl) (by kernel_rfl)) false fun x => (rwant_d x).trans (rwant_e x)
def Tb13 : List (Nat × FSpec) := (14, (spT [Group, Seen, U8] [U8] rwant)) :: Tb12
theorem tb13 : AllMeet Try.prog Tb13 := .cons rwant_m tb12
theorem alive_d : ∀ x : Unit, denote (mkC Try.prog Tb13) 1 (inlOf Try.f7 {}) [] [B] false x = alive_t x := fun x => by kernel_rfl
theorem alive_m : Meets Try.prog 7 (spT [] [B] alive) := meets_tot tb13 hmix (hs := {}) (fnOK Try.func7 (by kernel_rfl) (by kernel_rfl) (by kernel_rfl)) false fun x => (alive_d x).trans (alive_e x)
def Tb14 : List (Nat × FSpec) := (7, (spT [] [B] alive)) :: Tb13
theorem tb14 : AllMeet Try.prog Tb14 := .cons alive_m tb13
theorem lampNames_d : ∀ x : Unit, denote (mkC Try.prog Tb14) 1 (inlOf Try.f5 {}) [] [B] false x = lampNames_t x := fun x => by kernel_rfl
theorem lampNames_m : Meets Try.prog 5 (spT [] [B] lampNames) := meets_tot tb14 hmix (hs := {}) (fnOK Try.func5 (by kernel_rfl) (by kernel_rfl) (by kernel_rfl)) false fun x => (lampNames_d x).trans (lampNames_e x)
def Tb15 : List (Nat × FSpec) := (5, (spT [] [B] lampNames)) :: Tb14
theorem tb15 : AllMeet Try.prog Tb15 := .cons lampNames_m tb14
theorem lampSteps_d : ∀ x : (Int × Int × Int) × (Int × Int × Int) × Int, denote (mkC Try.prog Tb15) 1 (inlOf Try.f6 {}) [Group, Seen, U8] [B] false x = lampSteps_t x := fun x => by kernel_rfl
theorem lampSteps_m : Meets Try.prog 6 (spT [Group, Seen, U8] [B] lampSteps) := meets_tot tb15 hmix (hs := {}) (fnOK Try.func6 (by kernel_rfl) (by kernel_rfl) (by kernel_rfl)) false fun x => (lampSteps_d x).trans (lampSteps_e x)
def Tb16 : List (Nat × FSpec) := (6, (spT [Group, Seen, U8] [B] lampSteps)) :: Tb15
theorem tb16 : AllMeet Try.prog Tb16 := .cons lampSteps_m tb15
theorem lampWants_d : ∀ x : (Int × Int × Int) × (Int × Int × Int) × Int, denote (mkC Try.prog Tb16) 1 (inlOf Try.f4 {}) [Group, Seen, U8] [B] false x = lampWants_t x := fun x => by kernel_rfl
theorem lampWants_m : Meets Try.prog 4 (spT [Group, Seen, U8] [B] lampWants) := meets_tot tb16 hmix (hs := {}) (fnOK Try.func4 (by kernel_rfl) (by kernel_rfl) (by kernel_rfl)) false fun x => (lampWants_d x).trans (lampWants_e x)
def Tb17 : List (Nat × FSpec) := (4, (spT [Group, Seen, U8] [B] lampWants)) :: Tb16
theorem tb17 : AllMeet Try.prog Tb17 := .cons lampWants_m tb16
theorem lampRuns_d : ∀ x : (Int × Int × Int) × (List Int), denote (mkC Try.prog Tb17) 1 (inlOf Try.f3 { loops := [(0, [.slot 7 I, .slot 8 I, .box 6 Seen])] }) [Group, U8s] [B] false x = lampRuns_t x := fun x => by kernel_rfl
theorem lampRuns_m : Meets Try.prog 3 (spP [Group, U8s] [B] lampRuns_t) := meets_part tb17 hmix (hs := { loops := [(0, [.slot 7 I, .slot 8 I, .box 6 Seen])] }) (fnOK Try.func3 (by kernel_rfl) (by kernel_rfl) (by kernel_rfl)) false lampRuns_d
def Tb18 : List (Nat × FSpec) := (3, (spP [Group, U8s] [B] lampRuns_t)) :: Tb17
theorem tb18 : AllMeet Try.prog Tb18 := .cons lampRuns_m tb17
end Go.Proofs.Ytmnkcgcbgpkbmaa
