/- The statement holds: for every input the law returns true, and each argument reads behind the call as it did before; the package-level variable is as the text lays it. -/
import Derived.Test.YtdgiapeofmlecaaDoorTrnC
import Derived.Test.YtdgiapeofmlecaaDoorCards
import Derived.Test.YtdgiapeofmlecaaDoorTie
import Derived.Test.YtdgiapeofmlecaaDoorTrnV
import Derived.Test.YtdgiapeofmlecaaDoorTrnW

namespace Go.Proofs.YtdgiapeofmlecaaDoor
open Go.Den Go.RowKit Go.ChangeShapes

set_option maxRecDepth 100000 in
theorem turnStays_lifted (os : Os) (started : os.Started) (H : Type) (enc : TypeId × Value → H) :
    ReturnsInHanded {} Tryd.checked os 9 .any (fun w args => (Rows.turnStaysSpec.pre enc Tryd.prog Tryd.f9 [] false w args ∧ laidMetH Tryd.prog Rows.turnStaysRow.laid w) ∧ sizedMet enc Tryd.prog Tryd.f9 (OpenSpec.ofChange Rows.turnStaysSpec) false w args)
      (Rows.turnStaysSpec.post enc Tryd.prog Tryd.f9 false true false false) := by
  refine returnsInHanded_of_change_and (C := Tryd.checked) (X := fun w _ => laidMetH Tryd.prog Rows.turnStaysRow.laid w) (fun _ _ _ hh h => h.of_heap hh) own started (by kernel_rfl) Tryd.func9
    (ChangeSpec.witness_at (enc := enc) (C := Tryd.checked) (os := os) (X := fun w _ => laidMetH Tryd.prog Rows.turnStaysRow.laid w) false (laidWorld os) #[.agg #[.int .i64 0, .slice none 0 0, .slice none 0 0, .slice none 0 0, .slice none 0 0, .slice none 0 0, .int .i64 0, .int .i64 0, .int .i64 0, .int .i64 0, .int .i64 0, .slice none 0 0], .agg #[.slice none 0 0, .int .i64 0, .bool false], .int .i64 0, .int .u8 0] 8 rfl (by kernel_rfl) (by kernel_rfl) (by kernel_rfl) (by kernel_rfl) (by kernel_rfl) (laidWorld_met os _)) ?_
  intro W base args ds gs before hval hW _ _ hL _
  exact law_calls (n := 40) law15_TurnStays_m laidOut (by kernel_rfl) rfl (by kernel_rfl) Tryd.underlying4 hval hW (V_of_laid hL) (fun hl => by
    match ds, hl with
    | [_, _, _, _], _ => rfl) (fun x hf _ => turnStays_law x hf)

theorem turnStays_holds : Rows.TurnStaysSaid :=
  OpenClaim.holds_of_wide 9 Tryd.f9 rfl rfl rfl rfl rfl rfl rfl ⟨rfl, rfl, rfl, rfl, rfl⟩ rfl rfl rfl rfl rfl (by kernel_rfl) Tryd.func9 (by kernel_rfl)
    (of_decide_eq_true (by kernel_rfl)) (by unfold Func.isWrapper; first | (rw [if_pos (by decide +kernel)]; kernel_rfl) | (rw [if_neg (by decide +kernel)]; exact ⟨rfl, rfl⟩))
    (fun os started H enc _ => turnStays_lifted os started H enc)

theorem turnStays_card : Rows.TurnStaysCardSaid :=
  Claim7.holds_tied_plain_at .later [] [.data] true (true, "f8f2f521ad9e6a88eb6f512c96b9b2bccaefdc8db2b550fc95daff4ed3c58f53") false
    turnStays_holds (fun _ h => by cases h) (by kernel_rfl) (fun _ h => by cases h) turnStays_row_tie rfl ⟨rfl, rfl⟩ (by kernel_rfl) rfl
    (fun f fn hf hfn => by
      obtain rfl : f = 9 := Option.some.inj ((show Tryd.prog.funcNamed Rows.turnStaysRow.func = some 9 by kernel_rfl).symm.trans hf) |>.symm
      obtain rfl : fn = Tryd.f9 := (Option.some.inj (Tryd.func9.symm.trans hfn)).symm
      exact ⟨by kernel_rfl, fun j t ht => by
        have hall : Tryd.f9.params.toList.all (fun t => !Tryd.prog.wantsStandIn t) = true := by kernel_rfl
        have hm : t ∈ Tryd.f9.params.toList := by
          rw [← Array.getElem?_toList] at ht
          exact List.mem_of_getElem? ht
        have h2 : Tryd.prog.wantsStandIn t = false := by simpa using List.all_eq_true.1 hall t hm
        exact h2⟩)
    (by kernel_rfl)

end Go.Proofs.YtdgiapeofmlecaaDoor
