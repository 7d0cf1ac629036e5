/-
  No cell of these rows narrows 'for every input' (looked for: loops, veiled, ifaces, maps, wideKeys, modest, calm, conditions, laid).
  DERIVED. THE GIVEN ROWS OF THIS SEAT. 4 by the template 'for every input the law returns true; each argument reads behind the call as it read before'; 0 by the template 'total and deterministic' (their statements: YtmnkcgcbgpkbmaaTotals.lean).
  GIVEN WITH THE SEED: the statements are not yours to turn. If you find one false, say at which input.
  Laid BY PROGRAM, IN A SANDBOX (cutbox-rows.mjs): the forced cells as the released guide's own fill.sh prints them over the translation 7972ed649ea08466… (all of the seat's roots in one cut). By AI agents, Wed Nov 11 2026. No macro, syntax, notation, axiom, sorry.
-/
import Derived.Test.YtmnkcgcbgpkbmaaChecked
import GoSem.Claim
import GoSem.ClaimJoined
import GoSem.ClaimMapViews
import Derived.JoinedTies
import Derived.KernelRfl
namespace Go.Proofs.Ytmnkcgcbgpkbmaa
/- THE CELL 'sum', in the pinned program and in every row, IS THE sha256 OF THE DUMP (.gsa) THAT YtmnkcgcbgpkbmaaProg.lean LOADS. Nothing in Lean hashes anything: it is a label: what it is worth is what the hold of that sum in a sandbox is worth. -/
noncomputable def Try.pinned : Pinned := { name := "ytmnkcgcbgpkbmaa", sum := "7972ed649ea08466c8c95228043b851c037e705a558a6a918dd84ed56c2c30b7", checked := Try.checked }
namespace Rows
def none {H : Type} : Left H := { results := [], args := [] }

/-- 'stoplinelaw07.LampRuns': WHATEVER THE INPUT: true; the input reads as it did. -/
def lampRunsSpec : ChangeSpec := { name := "lampRuns", fn := fun _ => fun
  | [d1, d2] => { results := [.lit (.bool true)], args := [d1, d2] }
  | _ => none }
def lampRunsRow : OpenClaim := { program := "ytmnkcgcbgpkbmaa", sum := "7972ed649ea08466c8c95228043b851c037e705a558a6a918dd84ed56c2c30b7", func := "stopline/stoplinelaw07.LampRuns", spec := "lampRuns", apart := false }
def LampRunsSaid : Prop := lampRunsRow.holds Try.pinned (OpenSpec.ofChange lampRunsSpec)

/-- ITS FALSE NEIGHBOUR: 'it returns false'. Refute it at one input. -/
def lampRunsWrong : ChangeSpec := { name := "lampRuns", fn := fun _ => fun
  | [d1, d2] => { results := [.lit (.bool false)], args := [d1, d2] }
  | _ => none }
def LampRunsWrongFalsely : Prop := lampRunsRow.holds Try.pinned (OpenSpec.ofChange lampRunsWrong)

/-- 'stoplinelaw07.LampWants': WHATEVER THE INPUT: true; the input reads as it did. -/
def lampWantsSpec : ChangeSpec := { name := "lampWants", fn := fun _ => fun
  | [d1, d2, d3] => { results := [.lit (.bool true)], args := [d1, d2, d3] }
  | _ => none }
def lampWantsRow : OpenClaim := { program := "ytmnkcgcbgpkbmaa", sum := "7972ed649ea08466c8c95228043b851c037e705a558a6a918dd84ed56c2c30b7", func := "stopline/stoplinelaw07.LampWants", spec := "lampWants", apart := false }
def LampWantsSaid : Prop := lampWantsRow.holds Try.pinned (OpenSpec.ofChange lampWantsSpec)

/-- ITS FALSE NEIGHBOUR: 'it returns false'. Refute it at one input. -/
def lampWantsWrong : ChangeSpec := { name := "lampWants", fn := fun _ => fun
  | [d1, d2, d3] => { results := [.lit (.bool false)], args := [d1, d2, d3] }
  | _ => none }
def LampWantsWrongFalsely : Prop := lampWantsRow.holds Try.pinned (OpenSpec.ofChange lampWantsWrong)

/-- 'stoplinelaw07.LampNames': WHATEVER THE INPUT: true; the input reads as it did. -/
def lampNamesSpec : ChangeSpec := { name := "lampNames", fn := fun _ => fun
  | [] => { results := [.lit (.bool true)], args := [] }
  | _ => none }
def lampNamesRow : OpenClaim := { program := "ytmnkcgcbgpkbmaa", sum := "7972ed649ea08466c8c95228043b851c037e705a558a6a918dd84ed56c2c30b7", func := "stopline/stoplinelaw07.LampNames", spec := "lampNames", apart := false }
def LampNamesSaid : Prop := lampNamesRow.holds Try.pinned (OpenSpec.ofChange lampNamesSpec)

/-- ITS FALSE NEIGHBOUR: 'it returns false'. Refute it at one input. -/
def lampNamesWrong : ChangeSpec := { name := "lampNames", fn := fun _ => fun
  | [] => { results := [.lit (.bool false)], args := [] }
  | _ => none }
def LampNamesWrongFalsely : Prop := lampNamesRow.holds Try.pinned (OpenSpec.ofChange lampNamesWrong)

/-- 'stoplinelaw07.LampSteps': WHATEVER THE INPUT: true; the input reads as it did. -/
def lampStepsSpec : ChangeSpec := { name := "lampSteps", fn := fun _ => fun
  | [d1, d2, d3] => { results := [.lit (.bool true)], args := [d1, d2, d3] }
  | _ => none }
def lampStepsRow : OpenClaim := { program := "ytmnkcgcbgpkbmaa", sum := "7972ed649ea08466c8c95228043b851c037e705a558a6a918dd84ed56c2c30b7", func := "stopline/stoplinelaw07.LampSteps", spec := "lampSteps", apart := false }
def LampStepsSaid : Prop := lampStepsRow.holds Try.pinned (OpenSpec.ofChange lampStepsSpec)

/-- ITS FALSE NEIGHBOUR: 'it returns false'. Refute it at one input. -/
def lampStepsWrong : ChangeSpec := { name := "lampSteps", fn := fun _ => fun
  | [d1, d2, d3] => { results := [.lit (.bool false)], args := [d1, d2, d3] }
  | _ => none }
def LampStepsWrongFalsely : Prop := lampStepsRow.holds Try.pinned (OpenSpec.ofChange lampStepsWrong)

/- THE SECOND FORM. 'bulk': how many values and letters a reading holds, each counted each time it is reached (what is shared counts as often as it is met; a slice's spare places count too). A statement '..UptoSaid' is the law's where the arguments, and the package variables that the reading takes, are together of bulk at most 1048576: NARROWER than '..Said'. Prove '..Said' where nothing that the law and all that it calls make is longer than what came in: it says more and counts as full. Else prove '..UptoSaid'. A law counts once. -/
mutual
def uptoBulk {H : Type} : DataW H → Nat
  | .lit (.string bytes) => bytes.length + 1
  | .lit _ => 1
  | .nil => 1
  | .ptr d => uptoBulk d + 1
  | .slice elems spare => uptoBulkAll elems + uptoBulkAll spare + 1
  | .agg parts => uptoBulkAll parts + 1
  | .iface _ d => uptoBulk d + 1
  | .map entries => uptoBulkEntries entries + 1
  | .held _ => 1
def uptoBulkAll {H : Type} : List (DataW H) → Nat
  | [] => 0
  | d :: r => uptoBulk d + uptoBulkAll r
def uptoBulkEntries {H : Type} : List (Lit × DataW H) → Nat
  | [] => 0
  | x :: r => uptoBulkEntry x + uptoBulkEntries r
def uptoBulkEntry {H : Type} : Lit × DataW H → Nat
  | (.string bytes, d) => bytes.length + uptoBulk d + 1
  | (_, d) => uptoBulk d + 1
 end
def uptoSmall : (H : Type) → List (DataW H) → Bool := fun _ ds => decide (uptoBulkAll ds ≤ 1048576)
def OpenSpec.upto (s : _root_.Go.ChangeSpec) : _root_.Go.OpenSpec := { _root_.Go.OpenSpec.ofChange s with cond := some uptoSmall }

/-- 'stoplinelaw07.LampRuns', WHERE WHAT IT READS IS OF BULK AT MOST 1048576: true; the input reads as it did. -/
def lampRunsUptoRow : OpenClaim := { program := "ytmnkcgcbgpkbmaa", sum := "7972ed649ea08466c8c95228043b851c037e705a558a6a918dd84ed56c2c30b7", func := "stopline/stoplinelaw07.LampRuns", spec := "lampRuns", apart := false, narrowed := true }
def LampRunsUptoSaid : Prop := lampRunsUptoRow.holds Try.pinned (OpenSpec.upto lampRunsSpec)

/-- 'stoplinelaw07.LampWants', WHERE WHAT IT READS IS OF BULK AT MOST 1048576: true; the input reads as it did. -/
def lampWantsUptoRow : OpenClaim := { program := "ytmnkcgcbgpkbmaa", sum := "7972ed649ea08466c8c95228043b851c037e705a558a6a918dd84ed56c2c30b7", func := "stopline/stoplinelaw07.LampWants", spec := "lampWants", apart := false, narrowed := true }
def LampWantsUptoSaid : Prop := lampWantsUptoRow.holds Try.pinned (OpenSpec.upto lampWantsSpec)

/-- 'stoplinelaw07.LampNames', WHERE WHAT IT READS IS OF BULK AT MOST 1048576: true; the input reads as it did. -/
def lampNamesUptoRow : OpenClaim := { program := "ytmnkcgcbgpkbmaa", sum := "7972ed649ea08466c8c95228043b851c037e705a558a6a918dd84ed56c2c30b7", func := "stopline/stoplinelaw07.LampNames", spec := "lampNames", apart := false, narrowed := true }
def LampNamesUptoSaid : Prop := lampNamesUptoRow.holds Try.pinned (OpenSpec.upto lampNamesSpec)

/-- 'stoplinelaw07.LampSteps', WHERE WHAT IT READS IS OF BULK AT MOST 1048576: true; the input reads as it did. -/
def lampStepsUptoRow : OpenClaim := { program := "ytmnkcgcbgpkbmaa", sum := "7972ed649ea08466c8c95228043b851c037e705a558a6a918dd84ed56c2c30b7", func := "stopline/stoplinelaw07.LampSteps", spec := "lampSteps", apart := false, narrowed := true }
def LampStepsUptoSaid : Prop := lampStepsUptoRow.holds Try.pinned (OpenSpec.upto lampStepsSpec)

end Rows
end Go.Proofs.Ytmnkcgcbgpkbmaa
