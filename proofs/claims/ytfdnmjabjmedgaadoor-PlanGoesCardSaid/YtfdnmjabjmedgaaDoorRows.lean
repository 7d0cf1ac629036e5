/-
  NARROWER THAN 'FOR EVERY INPUT', by the rows' own cells (each row's printed sentence says how): PlanParts: laid · PlanNames: laid · PlanGoes: laid · PlanLocks: laid.
  DERIVED. THE GIVEN ROWS OF THIS SEAT. 4 by the template 'for every input the law returns true; each argument reads behind the call as it read before'; 0 by the template 'total and deterministic' (their statements: YtfdnmjabjmedgaaDoorTotals.lean).
  GIVEN WITH THE SEED: the statements are not yours to turn. If you find one false, say at which input.
  Laid BY PROGRAM, IN A SANDBOX (cutbox-rows.mjs): the forced cells as the released guide's own fill.sh prints them over the translation 0797e6283240c4bd… (all of the seat's roots in one cut). By AI agents, Wed Nov 11 2026. No macro, syntax, notation, axiom, sorry.
-/
import Derived.Test.YtfdnmjabjmedgaaDoorChecked
import GoSem.Claim
import GoSem.ClaimJoined
import GoSem.ClaimMapViews
import Derived.JoinedTies
import Derived.KernelRfl
namespace Go.Proofs.YtfdnmjabjmedgaaDoor
/- THE CELL 'sum', in the pinned program and in every row, IS THE sha256 OF THE DUMP (.gsa) THAT YtfdnmjabjmedgaaDoorProg.lean LOADS. Nothing in Lean hashes anything: it is a label: what it is worth is what the hold of that sum in a sandbox is worth. -/
noncomputable def Tryd.pinned : Pinned := { name := "ytfdnmjabjmedgaadoor", sum := "0797e6283240c4bdb9e562b5f5afe0b114b512f47ae95b66cf48293e71c79a81", checked := Tryd.checked }
namespace Rows
def none {H : Type} : Left H := { results := [], args := [] }

/- WHAT THE LISTED PACKAGE-LEVEL VARIABLES READ AS WHEN THE CALL BEGINS. Each datum BY PROGRAM (the guide's laid-datum.mjs) off the statement by which the dump's own 'gosem.cut.vars' lays the variable. In a bare row this is a premise. The card (YtfdnmjabjmedgaaDoorCards.lean) ties it to the program's text. -/
def laid_math_bits_deBruijn32tab {H : Type} : DataW H := .agg [.lit (.int .u8 0), .lit (.int .u8 1), .lit (.int .u8 28), .lit (.int .u8 2), .lit (.int .u8 29), .lit (.int .u8 14), .lit (.int .u8 24), .lit (.int .u8 3), .lit (.int .u8 30), .lit (.int .u8 22), .lit (.int .u8 20), .lit (.int .u8 15), .lit (.int .u8 25), .lit (.int .u8 17), .lit (.int .u8 4), .lit (.int .u8 8), .lit (.int .u8 31), .lit (.int .u8 27), .lit (.int .u8 13), .lit (.int .u8 23), .lit (.int .u8 21), .lit (.int .u8 19), .lit (.int .u8 16), .lit (.int .u8 7), .lit (.int .u8 26), .lit (.int .u8 12), .lit (.int .u8 18), .lit (.int .u8 6), .lit (.int .u8 11), .lit (.int .u8 5), .lit (.int .u8 10), .lit (.int .u8 9)]

/-- 'stoplinelaw17.PlanParts': WHATEVER THE INPUT: true; the input reads as it did. -/
def planPartsSpec : ChangeSpec := { name := "planParts", fn := fun _ => fun
  | [d1, d2, d3] => { results := [.lit (.bool true)], args := [d1, d2, d3] }
  | _ => none }
def planPartsRow : OpenClaim := { program := "ytfdnmjabjmedgaadoor", sum := "0797e6283240c4bdb9e562b5f5afe0b114b512f47ae95b66cf48293e71c79a81", func := "stopline/stoplinelaw17.PlanParts", spec := "planParts", unfollowed := true, recurses := true, named := ["math/bits.deBruijn32tab"], apart := false, laid := [("math/bits.deBruijn32tab", laid_math_bits_deBruijn32tab)] }
def PlanPartsSaid : Prop := planPartsRow.holds Tryd.pinned (OpenSpec.ofChange planPartsSpec)

/-- ITS FALSE NEIGHBOUR: 'it returns false'. Refute it at one input. -/
def planPartsWrong : ChangeSpec := { name := "planParts", fn := fun _ => fun
  | [d1, d2, d3] => { results := [.lit (.bool false)], args := [d1, d2, d3] }
  | _ => none }
def PlanPartsWrongFalsely : Prop := planPartsRow.holds Tryd.pinned (OpenSpec.ofChange planPartsWrong)

/-- 'stoplinelaw17.PlanNames': WHATEVER THE INPUT: true; the input reads as it did. -/
def planNamesSpec : ChangeSpec := { name := "planNames", fn := fun _ => fun
  | [] => { results := [.lit (.bool true)], args := [] }
  | _ => none }
def planNamesRow : OpenClaim := { program := "ytfdnmjabjmedgaadoor", sum := "0797e6283240c4bdb9e562b5f5afe0b114b512f47ae95b66cf48293e71c79a81", func := "stopline/stoplinelaw17.PlanNames", spec := "planNames", unfollowed := true, recurses := true, named := ["math/bits.deBruijn32tab"], apart := false, laid := [("math/bits.deBruijn32tab", laid_math_bits_deBruijn32tab)] }
def PlanNamesSaid : Prop := planNamesRow.holds Tryd.pinned (OpenSpec.ofChange planNamesSpec)

/-- ITS FALSE NEIGHBOUR: 'it returns false'. Refute it at one input. -/
def planNamesWrong : ChangeSpec := { name := "planNames", fn := fun _ => fun
  | [] => { results := [.lit (.bool false)], args := [] }
  | _ => none }
def PlanNamesWrongFalsely : Prop := planNamesRow.holds Tryd.pinned (OpenSpec.ofChange planNamesWrong)

/-- 'stoplinelaw17.PlanGoes': WHATEVER THE INPUT: true; the input reads as it did. -/
def planGoesSpec : ChangeSpec := { name := "planGoes", fn := fun _ => fun
  | [d1, d2, d3] => { results := [.lit (.bool true)], args := [d1, d2, d3] }
  | _ => none }
def planGoesRow : OpenClaim := { program := "ytfdnmjabjmedgaadoor", sum := "0797e6283240c4bdb9e562b5f5afe0b114b512f47ae95b66cf48293e71c79a81", func := "stopline/stoplinelaw17.PlanGoes", spec := "planGoes", unfollowed := true, recurses := true, named := ["math/bits.deBruijn32tab"], apart := false, laid := [("math/bits.deBruijn32tab", laid_math_bits_deBruijn32tab)] }
def PlanGoesSaid : Prop := planGoesRow.holds Tryd.pinned (OpenSpec.ofChange planGoesSpec)

/-- ITS FALSE NEIGHBOUR: 'it returns false'. Refute it at one input. -/
def planGoesWrong : ChangeSpec := { name := "planGoes", fn := fun _ => fun
  | [d1, d2, d3] => { results := [.lit (.bool false)], args := [d1, d2, d3] }
  | _ => none }
def PlanGoesWrongFalsely : Prop := planGoesRow.holds Tryd.pinned (OpenSpec.ofChange planGoesWrong)

/-- 'stoplinelaw17.PlanLocks': WHATEVER THE INPUT: true; the input reads as it did. -/
def planLocksSpec : ChangeSpec := { name := "planLocks", fn := fun _ => fun
  | [d1, d2] => { results := [.lit (.bool true)], args := [d1, d2] }
  | _ => none }
def planLocksRow : OpenClaim := { program := "ytfdnmjabjmedgaadoor", sum := "0797e6283240c4bdb9e562b5f5afe0b114b512f47ae95b66cf48293e71c79a81", func := "stopline/stoplinelaw17.PlanLocks", spec := "planLocks", unfollowed := true, recurses := true, named := ["math/bits.deBruijn32tab"], apart := false, laid := [("math/bits.deBruijn32tab", laid_math_bits_deBruijn32tab)] }
def PlanLocksSaid : Prop := planLocksRow.holds Tryd.pinned (OpenSpec.ofChange planLocksSpec)

/-- ITS FALSE NEIGHBOUR: 'it returns false'. Refute it at one input. -/
def planLocksWrong : ChangeSpec := { name := "planLocks", fn := fun _ => fun
  | [d1, d2] => { results := [.lit (.bool false)], args := [d1, d2] }
  | _ => none }
def PlanLocksWrongFalsely : Prop := planLocksRow.holds Tryd.pinned (OpenSpec.ofChange planLocksWrong)

/- THE SECOND FORM. 'bulk': how many values and letters a reading holds, each counted each time it is reached (what is shared counts as often as it is met; a slice's spare places count too). A statement '..UptoSaid' is the law's where the arguments, and the package variables that the reading takes, are together of bulk at most 1048576: NARROWER than '..Said'. Prove '..Said' where nothing that the law and all that it calls make is longer than what came in: it says more and counts as full. Else prove '..UptoSaid'. A law counts once. -/
mutual
def uptoBulk {H : Type} : DataW H → Nat
  | .lit (.string bytes) => bytes.length + 1
  | .lit _ => 1
  | .nil => 1
  | .ptr d => uptoBulk d + 1
  | .slice elems spare => uptoBulkAll elems + uptoBulkAll spare + 1
  | .agg parts => uptoBulkAll parts + 1
  | .iface _ d => uptoBulk d + 1
  | .map entries => uptoBulkEntries entries + 1
  | .held _ => 1
def uptoBulkAll {H : Type} : List (DataW H) → Nat
  | [] => 0
  | d :: r => uptoBulk d + uptoBulkAll r
def uptoBulkEntries {H : Type} : List (Lit × DataW H) → Nat
  | [] => 0
  | x :: r => uptoBulkEntry x + uptoBulkEntries r
def uptoBulkEntry {H : Type} : Lit × DataW H → Nat
  | (.string bytes, d) => bytes.length + uptoBulk d + 1
  | (_, d) => uptoBulk d + 1
 end
def uptoSmall : (H : Type) → List (DataW H) → Bool := fun _ ds => decide (uptoBulkAll ds ≤ 1048576)
def OpenSpec.upto (s : _root_.Go.ChangeSpec) : _root_.Go.OpenSpec := { _root_.Go.OpenSpec.ofChange s with cond := some uptoSmall }

/-- 'stoplinelaw17.PlanParts', WHERE WHAT IT READS IS OF BULK AT MOST 1048576: true; the input reads as it did. -/
def planPartsUptoRow : OpenClaim := { program := "ytfdnmjabjmedgaadoor", sum := "0797e6283240c4bdb9e562b5f5afe0b114b512f47ae95b66cf48293e71c79a81", func := "stopline/stoplinelaw17.PlanParts", spec := "planParts", unfollowed := true, recurses := true, named := ["math/bits.deBruijn32tab"], apart := false, laid := [("math/bits.deBruijn32tab", laid_math_bits_deBruijn32tab)], narrowed := true }
def PlanPartsUptoSaid : Prop := planPartsUptoRow.holds Tryd.pinned (OpenSpec.upto planPartsSpec)

/-- 'stoplinelaw17.PlanNames', WHERE WHAT IT READS IS OF BULK AT MOST 1048576: true; the input reads as it did. -/
def planNamesUptoRow : OpenClaim := { program := "ytfdnmjabjmedgaadoor", sum := "0797e6283240c4bdb9e562b5f5afe0b114b512f47ae95b66cf48293e71c79a81", func := "stopline/stoplinelaw17.PlanNames", spec := "planNames", unfollowed := true, recurses := true, named := ["math/bits.deBruijn32tab"], apart := false, laid := [("math/bits.deBruijn32tab", laid_math_bits_deBruijn32tab)], narrowed := true }
def PlanNamesUptoSaid : Prop := planNamesUptoRow.holds Tryd.pinned (OpenSpec.upto planNamesSpec)

/-- 'stoplinelaw17.PlanGoes', WHERE WHAT IT READS IS OF BULK AT MOST 1048576: true; the input reads as it did. -/
def planGoesUptoRow : OpenClaim := { program := "ytfdnmjabjmedgaadoor", sum := "0797e6283240c4bdb9e562b5f5afe0b114b512f47ae95b66cf48293e71c79a81", func := "stopline/stoplinelaw17.PlanGoes", spec := "planGoes", unfollowed := true, recurses := true, named := ["math/bits.deBruijn32tab"], apart := false, laid := [("math/bits.deBruijn32tab", laid_math_bits_deBruijn32tab)], narrowed := true }
def PlanGoesUptoSaid : Prop := planGoesUptoRow.holds Tryd.pinned (OpenSpec.upto planGoesSpec)

/-- 'stoplinelaw17.PlanLocks', WHERE WHAT IT READS IS OF BULK AT MOST 1048576: true; the input reads as it did. -/
def planLocksUptoRow : OpenClaim := { program := "ytfdnmjabjmedgaadoor", sum := "0797e6283240c4bdb9e562b5f5afe0b114b512f47ae95b66cf48293e71c79a81", func := "stopline/stoplinelaw17.PlanLocks", spec := "planLocks", unfollowed := true, recurses := true, named := ["math/bits.deBruijn32tab"], apart := false, laid := [("math/bits.deBruijn32tab", laid_math_bits_deBruijn32tab)], narrowed := true }
def PlanLocksUptoSaid : Prop := planLocksUptoRow.holds Tryd.pinned (OpenSpec.upto planLocksSpec)

end Rows
end Go.Proofs.YtfdnmjabjmedgaaDoor
