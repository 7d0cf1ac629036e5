/- The statement holds: for every input the law returns true, and each argument reads behind the call as it did before; the package-level variable is as the text lays it. -/
import Derived.Test.YtfdnmjabjmedgaaDoorPlqC
import Derived.Test.YtfdnmjabjmedgaaDoorCards
import Derived.Test.YtfdnmjabjmedgaaDoorTie
import Derived.Test.YtfdnmjabjmedgaaDoorPlqV
import Derived.Test.YtfdnmjabjmedgaaDoorPlqX7

namespace Go.Proofs.YtfdnmjabjmedgaaDoor
open Go.Den Go.RowKit Go.ChangeShapes

set_option maxRecDepth 100000 in
theorem planGoes_lifted (os : Os) (started : os.Started) (H : Type) (enc : TypeId × Value → H) :
    ReturnsInHanded {} Tryd.checked os 5 .any (fun w args => (Rows.planGoesSpec.pre enc Tryd.prog Tryd.f5 [] false w args ∧ laidMetH Tryd.prog Rows.planGoesRow.laid w) ∧ sizedMet enc Tryd.prog Tryd.f5 (OpenSpec.ofChange Rows.planGoesSpec) false w args)
      (Rows.planGoesSpec.post enc Tryd.prog Tryd.f5 false true false false) := by
  refine returnsInHanded_of_change_and (C := Tryd.checked) (X := fun w _ => laidMetH Tryd.prog Rows.planGoesRow.laid w) (fun _ _ _ hh h => h.of_heap hh) own started (by kernel_rfl) Tryd.func5
    (ChangeSpec.witness_at (enc := enc) (C := Tryd.checked) (os := os) (X := fun w _ => laidMetH Tryd.prog Rows.planGoesRow.laid w) false (laidWorld os) #[.agg #[.int .i64 0, .slice none 0 0, .slice none 0 0, .slice none 0 0, .slice none 0 0, .slice none 0 0, .int .i64 0, .int .i64 0, .int .i64 0, .int .i64 0, .int .i64 0, .slice none 0 0], .agg #[.int .i64 0, .int .i64 0, .slice none 0 0], .int .i64 0] 8 rfl (by kernel_rfl) (by kernel_rfl) (by kernel_rfl) (by kernel_rfl) (by kernel_rfl) (laidWorld_met os _)) ?_
  intro W base args ds gs before hval hW _ _ hL _
  exact law_calls (n := 40) law17_PlanGoes_m laidOut (by kernel_rfl) rfl (by kernel_rfl) Tryd.underlying4 hval hW (V_of_laid hL) (fun hl => by
    match ds, hl with
    | [_, _, _], _ => rfl) (fun x hf _ => planGoes_law x hf)

theorem planGoes_holds : Rows.PlanGoesSaid :=
  OpenClaim.holds_of_wide 5 Tryd.f5 rfl rfl rfl rfl rfl rfl rfl ⟨rfl, rfl, rfl, rfl, rfl⟩ rfl rfl rfl rfl rfl (by kernel_rfl) Tryd.func5 (by kernel_rfl)
    (of_decide_eq_true (by kernel_rfl)) (by unfold Func.isWrapper; first | (rw [if_pos (by decide +kernel)]; kernel_rfl) | (rw [if_neg (by decide +kernel)]; exact ⟨rfl, rfl⟩))
    (fun os started H enc _ => planGoes_lifted os started H enc)

theorem planGoes_card : Rows.PlanGoesCardSaid :=
  Claim7.holds_tied_plain_at .later [] [.data] true (true, "e859a7787089f6e2f7842dd28d769b4f1494275cbb3fdee1f45d9d3a6f0a3153") false
    planGoes_holds (fun _ h => by cases h) (by kernel_rfl) (fun _ h => by cases h) planGoes_row_tie rfl ⟨rfl, rfl⟩ (by kernel_rfl) rfl
    (fun f fn hf hfn => by
      obtain rfl : f = 5 := Option.some.inj ((show Tryd.prog.funcNamed Rows.planGoesRow.func = some 5 by kernel_rfl).symm.trans hf) |>.symm
      obtain rfl : fn = Tryd.f5 := (Option.some.inj (Tryd.func5.symm.trans hfn)).symm
      exact ⟨by kernel_rfl, fun j t ht => by
        have hall : Tryd.f5.params.toList.all (fun t => !Tryd.prog.wantsStandIn t) = true := by kernel_rfl
        have hm : t ∈ Tryd.f5.params.toList := by
          rw [← Array.getElem?_toList] at ht
          exact List.mem_of_getElem? ht
        have h2 : Tryd.prog.wantsStandIn t = false := by simpa using List.all_eq_true.1 hall t hm
        exact h2⟩)
    (by kernel_rfl)

end Go.Proofs.YtfdnmjabjmedgaaDoor
