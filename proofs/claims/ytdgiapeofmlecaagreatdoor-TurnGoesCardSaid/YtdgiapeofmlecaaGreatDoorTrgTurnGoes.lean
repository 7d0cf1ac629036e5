/- The statement holds: for every input the law returns true, and each argument reads behind the call as it did before; the package-level variable is as the text lays it. -/
import Derived.Test.YtdgiapeofmlecaaGreatDoorTrgC
import Derived.Test.YtdgiapeofmlecaaGreatDoorCards
import Derived.Test.YtdgiapeofmlecaaGreatDoorTie
import Derived.Test.YtdgiapeofmlecaaGreatDoorTrgV
import Derived.Test.YtdgiapeofmlecaaGreatDoorTrgX

namespace Go.Proofs.YtdgiapeofmlecaaGreatDoor
open Go.Den Go.RowKit Go.ChangeShapes

set_option maxRecDepth 100000 in
theorem turnGoes_lifted (os : Os) (started : os.Started) (H : Type) (enc : TypeId × Value → H) :
    ReturnsInHanded {} Tryz.checked os 3 .any (fun w args => (Rows.turnGoesSpec.pre enc Tryz.prog Tryz.f3 [] false w args ∧ laidMetH Tryz.prog Rows.turnGoesRow.laid w) ∧ sizedMet enc Tryz.prog Tryz.f3 (OpenSpec.ofChange Rows.turnGoesSpec) false w args)
      (Rows.turnGoesSpec.post enc Tryz.prog Tryz.f3 false true false false) := by
  refine returnsInHanded_of_change_and (C := Tryz.checked) (X := fun w _ => laidMetH Tryz.prog Rows.turnGoesRow.laid w) (fun _ _ _ hh h => h.of_heap hh) own started (by kernel_rfl) Tryz.func3
    (ChangeSpec.witness_at (enc := enc) (C := Tryz.checked) (os := os) (X := fun w _ => laidMetH Tryz.prog Rows.turnGoesRow.laid w) false (laidWorld os) #[.agg #[.int .i64 0, .slice none 0 0, .slice none 0 0, .slice none 0 0, .slice none 0 0, .slice none 0 0, .int .i64 0, .int .i64 0, .int .i64 0, .int .i64 0, .int .i64 0, .slice none 0 0], .agg #[.slice none 0 0, .int .i64 0, .bool false], .int .i64 0] 8 rfl (by kernel_rfl) (by kernel_rfl) (by kernel_rfl) (by kernel_rfl) (by kernel_rfl) (laidWorld_met os _)) ?_
  intro W base args ds gs before hval hW _ _ hL _
  exact law_calls (n := 40) law15_TurnGoes_m laidOut (by kernel_rfl) rfl (by kernel_rfl) Tryz.underlying4 hval hW (V_of_laid hL) (fun hl => by
    match ds, hl with
    | [_, _, _], _ => rfl) (fun x hf _ => turnGoes_law x hf)

theorem turnGoes_holds : Rows.TurnGoesSaid :=
  OpenClaim.holds_of_wide 3 Tryz.f3 rfl rfl rfl rfl rfl rfl rfl ⟨rfl, rfl, rfl, rfl, rfl⟩ rfl rfl rfl rfl rfl (by kernel_rfl) Tryz.func3 (by kernel_rfl)
    (of_decide_eq_true (by kernel_rfl)) (by unfold Func.isWrapper; first | (rw [if_pos (by decide +kernel)]; kernel_rfl) | (rw [if_neg (by decide +kernel)]; exact ⟨rfl, rfl⟩))
    (fun os started H enc _ => turnGoes_lifted os started H enc)

theorem turnGoes_card : Rows.TurnGoesCardSaid :=
  Claim7.holds_tied_plain_at .later [] [.data] true (true, "8641a107675c21b771c0fdf65a56901e596526c77d06a9ccf8b102c7be55ab4e") false
    turnGoes_holds (fun _ h => by cases h) (by kernel_rfl) (fun _ h => by cases h) turnGoes_row_tie rfl ⟨rfl, rfl⟩ (by kernel_rfl) rfl
    (fun f fn hf hfn => by
      obtain rfl : f = 3 := Option.some.inj ((show Tryz.prog.funcNamed Rows.turnGoesRow.func = some 3 by kernel_rfl).symm.trans hf) |>.symm
      obtain rfl : fn = Tryz.f3 := (Option.some.inj (Tryz.func3.symm.trans hfn)).symm
      exact ⟨by kernel_rfl, fun j t ht => by
        have hall : Tryz.f3.params.toList.all (fun t => !Tryz.prog.wantsStandIn t) = true := by kernel_rfl
        have hm : t ∈ Tryz.f3.params.toList := by
          rw [← Array.getElem?_toList] at ht
          exact List.mem_of_getElem? ht
        have h2 : Tryz.prog.wantsStandIn t = false := by simpa using List.all_eq_true.1 hall t hm
        exact h2⟩)
    (by kernel_rfl)

end Go.Proofs.YtdgiapeofmlecaaGreatDoor
