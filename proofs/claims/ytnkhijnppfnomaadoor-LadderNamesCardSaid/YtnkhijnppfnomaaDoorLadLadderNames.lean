/- The statement holds: for every input the law returns true, and each argument reads behind the call as it did before; the package-level variable is as the text lays it. -/
import Derived.Test.YtnkhijnppfnomaaDoorLadC
import Derived.Test.YtnkhijnppfnomaaDoorCards
import Derived.Test.YtnkhijnppfnomaaDoorTie
import Derived.Test.YtnkhijnppfnomaaDoorLadV
import Derived.Test.YtnkhijnppfnomaaDoorLadNm

namespace Go.Proofs.YtnkhijnppfnomaaDoor
open Go.Den Go.RowKit Go.ChangeShapes

set_option maxRecDepth 100000 in
theorem ladderNames_lifted (os : Os) (started : os.Started) (H : Type) (enc : TypeId × Value → H) :
    ReturnsInHanded {} Tryd.checked os 8 .any (fun w args => (Rows.ladderNamesSpec.pre enc Tryd.prog Tryd.f8 [] false w args ∧ laidMetH Tryd.prog Rows.ladderNamesRow.laid w) ∧ sizedMet enc Tryd.prog Tryd.f8 (OpenSpec.ofChange Rows.ladderNamesSpec) false w args)
      (Rows.ladderNamesSpec.post enc Tryd.prog Tryd.f8 false true false false) := by
  refine returnsInHanded_of_change_and (C := Tryd.checked) (X := fun w _ => laidMetH Tryd.prog Rows.ladderNamesRow.laid w) (fun _ _ _ hh h => h.of_heap hh) own started (by kernel_rfl) Tryd.func8
    (ChangeSpec.witness_at (enc := enc) (C := Tryd.checked) (os := os) (X := fun w _ => laidMetH Tryd.prog Rows.ladderNamesRow.laid w) false (laidWorld os) #[] 8 rfl (by kernel_rfl) (by kernel_rfl) (by kernel_rfl) (by kernel_rfl) (by kernel_rfl) (laidWorld_met os _)) ?_
  intro W base args ds gs before hval hW _ _ hL _
  exact law_calls (n := 40) law22_LadderNames_m laidOut (by kernel_rfl) rfl (by kernel_rfl) Tryd.underlying4 hval hW (V_of_laid hL) (fun hl => by
    match ds, hl with
    | [], _ => rfl) (fun x hf _ => ladderNames_law x hf)

theorem ladderNames_holds : Rows.LadderNamesSaid :=
  OpenClaim.holds_of_wide 8 Tryd.f8 rfl rfl rfl rfl rfl rfl rfl ⟨rfl, rfl, rfl, rfl, rfl⟩ rfl rfl rfl rfl rfl (by kernel_rfl) Tryd.func8 (by kernel_rfl)
    (of_decide_eq_true (by kernel_rfl)) (by unfold Func.isWrapper; first | (rw [if_pos (by decide +kernel)]; kernel_rfl) | (rw [if_neg (by decide +kernel)]; exact ⟨rfl, rfl⟩))
    (fun os started H enc _ => ladderNames_lifted os started H enc)

theorem ladderNames_card : Rows.LadderNamesCardSaid :=
  Claim7.holds_tied_plain_at .later [] [.data] true (true, "af3dcde21d81a40418d604895c7dcad7113c12e9c74510738f101a7e8b14cb66") false
    ladderNames_holds (fun _ h => by cases h) (by kernel_rfl) (fun _ h => by cases h) ladderNames_row_tie rfl ⟨rfl, rfl⟩ (by kernel_rfl) rfl
    (fun f fn hf hfn => by
      obtain rfl : f = 8 := Option.some.inj ((show Tryd.prog.funcNamed Rows.ladderNamesRow.func = some 8 by kernel_rfl).symm.trans hf) |>.symm
      obtain rfl : fn = Tryd.f8 := (Option.some.inj (Tryd.func8.symm.trans hfn)).symm
      exact ⟨by kernel_rfl, fun j t ht => by
        have hall : Tryd.f8.params.toList.all (fun t => !Tryd.prog.wantsStandIn t) = true := by kernel_rfl
        have hm : t ∈ Tryd.f8.params.toList := by
          rw [← Array.getElem?_toList] at ht
          exact List.mem_of_getElem? ht
        have h2 : Tryd.prog.wantsStandIn t = false := by simpa using List.all_eq_true.1 hall t hm
        exact h2⟩)
    (by kernel_rfl)

end Go.Proofs.YtnkhijnppfnomaaDoor
