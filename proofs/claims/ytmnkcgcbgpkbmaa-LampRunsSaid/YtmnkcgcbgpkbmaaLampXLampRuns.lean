/- The statement holds: for every input the law returns true, and each argument reads behind the call as it did before; there is no condition. -/
import Derived.Test.YtmnkcgcbgpkbmaaLampXC
import Derived.Test.YtmnkcgcbgpkbmaaLampXL

namespace Go.Proofs.Ytmnkcgcbgpkbmaa
open Go.Den Go.RowKit Go.ChangeShapes

set_option maxRecDepth 100000 in
theorem lampRuns_lifted (os : Os) (started : os.Started) (H : Type) (enc : TypeId × Value → H) :
    ReturnsInHanded {} Try.checked os 3 .any (Rows.lampRunsSpec.pre6 enc Try.prog Try.f3 Rows.lampRunsRow.domain false) (Rows.lampRunsSpec.post enc Try.prog Try.f3 false true false false) := by
  refine returnsInHanded_of_change (C := Try.checked) own started (by kernel_rfl) Try.func3
    (ChangeSpec.witness6 (enc := enc) (C := Try.checked) false ⟨#[], #[.agg #[.int .u8 0, .int .i64 0, .int .i64 0], .slice none 0 0], []⟩ 8 (by kernel_rfl) (by kernel_rfl) (by kernel_rfl) (by kernel_rfl)) ?_
  intro W base args ds gs before hval hW _ _
  exact law_calls (n := 12) lampRuns_m laidOut (by kernel_rfl) rfl (by kernel_rfl) Try.underlying4 hval hW (fun hl => by
    match ds, hl with
    | [_, _], _ => rfl) (fun x hf _ => lampRuns_law x)

theorem lampRuns_holds : Rows.LampRunsSaid :=
  OpenClaim.holds_of_wide 3 Try.f3 rfl rfl rfl rfl rfl rfl rfl ⟨rfl, rfl, rfl, rfl, rfl⟩ rfl rfl rfl rfl rfl (by kernel_rfl) Try.func3 (by kernel_rfl)
    (of_decide_eq_true (by kernel_rfl)) (by unfold Func.isWrapper; first | (rw [if_pos (by decide +kernel)]; kernel_rfl) | (rw [if_neg (by decide +kernel)]; exact ⟨rfl, rfl⟩))
    (fun os started H enc _ => lampRuns_lifted os started H enc)

end Go.Proofs.Ytmnkcgcbgpkbmaa
