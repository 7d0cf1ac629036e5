/-
  NARROWER THAN 'FOR EVERY INPUT', by the rows' own cells (each row's printed sentence says how): LadderDown: laid · LadderUp: laid · LadderReaches: laid · BackFeed: laid · LadderFirst: laid · LadderNames: laid · LadderSteps: laid · BackNames: laid · BackWrong: laid · BackRight: laid.
  DERIVED. THE GIVEN ROWS OF THIS SEAT. 10 by the template 'for every input the law returns true; each argument reads behind the call as it read before'; 0 by the template 'total and deterministic' (their statements: YtnkhijnppfnomaaDoorTotals.lean).
  GIVEN WITH THE SEED: the statements are not yours to turn. If you find one false, say at which input.
  Laid BY PROGRAM, IN A SANDBOX (cutbox-rows.mjs): the forced cells as the released guide's own fill.sh prints them over the translation a892ceeb32a88824… (all of the seat's roots in one cut). By AI agents, Wed Nov 11 2026. No macro, syntax, notation, axiom, sorry.
-/
import Derived.Test.YtnkhijnppfnomaaDoorChecked
import GoSem.Claim
import GoSem.ClaimJoined
import GoSem.ClaimMapViews
import Derived.JoinedTies
import Derived.KernelRfl
namespace Go.Proofs.YtnkhijnppfnomaaDoor
/- THE CELL 'sum', in the pinned program and in every row, IS THE sha256 OF THE DUMP (.gsa) THAT YtnkhijnppfnomaaDoorProg.lean LOADS. Nothing in Lean hashes anything: it is a label: what it is worth is what the hold of that sum in a sandbox is worth. -/
noncomputable def Tryd.pinned : Pinned := { name := "ytnkhijnppfnomaadoor", sum := "a892ceeb32a888241605e09ac3e8ef910e64a79afd14958948a9f05ad0934c43", checked := Tryd.checked }
namespace Rows
def none {H : Type} : Left H := { results := [], args := [] }

/- WHAT THE LISTED PACKAGE-LEVEL VARIABLES READ AS WHEN THE CALL BEGINS. Each datum BY PROGRAM (the guide's laid-datum.mjs) off the statement by which the dump's own 'gosem.cut.vars' lays the variable. In a bare row this is a premise. The card (YtnkhijnppfnomaaDoorCards.lean) ties it to the program's text. -/
def laid_math_bits_deBruijn32tab {H : Type} : DataW H := .agg [.lit (.int .u8 0), .lit (.int .u8 1), .lit (.int .u8 28), .lit (.int .u8 2), .lit (.int .u8 29), .lit (.int .u8 14), .lit (.int .u8 24), .lit (.int .u8 3), .lit (.int .u8 30), .lit (.int .u8 22), .lit (.int .u8 20), .lit (.int .u8 15), .lit (.int .u8 25), .lit (.int .u8 17), .lit (.int .u8 4), .lit (.int .u8 8), .lit (.int .u8 31), .lit (.int .u8 27), .lit (.int .u8 13), .lit (.int .u8 23), .lit (.int .u8 21), .lit (.int .u8 19), .lit (.int .u8 16), .lit (.int .u8 7), .lit (.int .u8 26), .lit (.int .u8 12), .lit (.int .u8 18), .lit (.int .u8 6), .lit (.int .u8 11), .lit (.int .u8 5), .lit (.int .u8 10), .lit (.int .u8 9)]

/-- 'stoplinelaw22.LadderDown': WHATEVER THE INPUT: true; the input reads as it did. -/
def ladderDownSpec : ChangeSpec := { name := "ladderDown", fn := fun _ => fun
  | [d1, d2, d3] => { results := [.lit (.bool true)], args := [d1, d2, d3] }
  | _ => none }
def ladderDownRow : OpenClaim := { program := "ytnkhijnppfnomaadoor", sum := "a892ceeb32a888241605e09ac3e8ef910e64a79afd14958948a9f05ad0934c43", func := "stopline/stoplinelaw22.LadderDown", spec := "ladderDown", named := ["math/bits.deBruijn32tab"], apart := false, laid := [("math/bits.deBruijn32tab", laid_math_bits_deBruijn32tab)] }
def LadderDownSaid : Prop := ladderDownRow.holds Tryd.pinned (OpenSpec.ofChange ladderDownSpec)

/-- ITS FALSE NEIGHBOUR: 'it returns false'. Refute it at one input. -/
def ladderDownWrong : ChangeSpec := { name := "ladderDown", fn := fun _ => fun
  | [d1, d2, d3] => { results := [.lit (.bool false)], args := [d1, d2, d3] }
  | _ => none }
def LadderDownWrongFalsely : Prop := ladderDownRow.holds Tryd.pinned (OpenSpec.ofChange ladderDownWrong)

/-- 'stoplinelaw22.LadderUp': WHATEVER THE INPUT: true; the input reads as it did. -/
def ladderUpSpec : ChangeSpec := { name := "ladderUp", fn := fun _ => fun
  | [d1, d2, d3] => { results := [.lit (.bool true)], args := [d1, d2, d3] }
  | _ => none }
def ladderUpRow : OpenClaim := { program := "ytnkhijnppfnomaadoor", sum := "a892ceeb32a888241605e09ac3e8ef910e64a79afd14958948a9f05ad0934c43", func := "stopline/stoplinelaw22.LadderUp", spec := "ladderUp", named := ["math/bits.deBruijn32tab"], apart := false, laid := [("math/bits.deBruijn32tab", laid_math_bits_deBruijn32tab)] }
def LadderUpSaid : Prop := ladderUpRow.holds Tryd.pinned (OpenSpec.ofChange ladderUpSpec)

/-- ITS FALSE NEIGHBOUR: 'it returns false'. Refute it at one input. -/
def ladderUpWrong : ChangeSpec := { name := "ladderUp", fn := fun _ => fun
  | [d1, d2, d3] => { results := [.lit (.bool false)], args := [d1, d2, d3] }
  | _ => none }
def LadderUpWrongFalsely : Prop := ladderUpRow.holds Tryd.pinned (OpenSpec.ofChange ladderUpWrong)

/-- 'stoplinelaw22.LadderReaches': WHATEVER THE INPUT: true; the input reads as it did. -/
def ladderReachesSpec : ChangeSpec := { name := "ladderReaches", fn := fun _ => fun
  | [d1, d2, d3] => { results := [.lit (.bool true)], args := [d1, d2, d3] }
  | _ => none }
def ladderReachesRow : OpenClaim := { program := "ytnkhijnppfnomaadoor", sum := "a892ceeb32a888241605e09ac3e8ef910e64a79afd14958948a9f05ad0934c43", func := "stopline/stoplinelaw22.LadderReaches", spec := "ladderReaches", named := ["math/bits.deBruijn32tab"], apart := false, laid := [("math/bits.deBruijn32tab", laid_math_bits_deBruijn32tab)] }
def LadderReachesSaid : Prop := ladderReachesRow.holds Tryd.pinned (OpenSpec.ofChange ladderReachesSpec)

/-- ITS FALSE NEIGHBOUR: 'it returns false'. Refute it at one input. -/
def ladderReachesWrong : ChangeSpec := { name := "ladderReaches", fn := fun _ => fun
  | [d1, d2, d3] => { results := [.lit (.bool false)], args := [d1, d2, d3] }
  | _ => none }
def LadderReachesWrongFalsely : Prop := ladderReachesRow.holds Tryd.pinned (OpenSpec.ofChange ladderReachesWrong)

/-- 'stoplinelaw10.BackFeed': WHATEVER THE INPUT: true; the input reads as it did. -/
def backFeedSpec : ChangeSpec := { name := "backFeed", fn := fun _ => fun
  | [d1, d2] => { results := [.lit (.bool true)], args := [d1, d2] }
  | _ => none }
def backFeedRow : OpenClaim := { program := "ytnkhijnppfnomaadoor", sum := "a892ceeb32a888241605e09ac3e8ef910e64a79afd14958948a9f05ad0934c43", func := "stopline/stoplinelaw10.BackFeed", spec := "backFeed", named := ["math/bits.deBruijn32tab"], apart := false, laid := [("math/bits.deBruijn32tab", laid_math_bits_deBruijn32tab)] }
def BackFeedSaid : Prop := backFeedRow.holds Tryd.pinned (OpenSpec.ofChange backFeedSpec)

/-- ITS FALSE NEIGHBOUR: 'it returns false'. Refute it at one input. -/
def backFeedWrong : ChangeSpec := { name := "backFeed", fn := fun _ => fun
  | [d1, d2] => { results := [.lit (.bool false)], args := [d1, d2] }
  | _ => none }
def BackFeedWrongFalsely : Prop := backFeedRow.holds Tryd.pinned (OpenSpec.ofChange backFeedWrong)

/-- 'stoplinelaw22.LadderFirst': WHATEVER THE INPUT: true; the input reads as it did. -/
def ladderFirstSpec : ChangeSpec := { name := "ladderFirst", fn := fun _ => fun
  | [d1, d2, d3] => { results := [.lit (.bool true)], args := [d1, d2, d3] }
  | _ => none }
def ladderFirstRow : OpenClaim := { program := "ytnkhijnppfnomaadoor", sum := "a892ceeb32a888241605e09ac3e8ef910e64a79afd14958948a9f05ad0934c43", func := "stopline/stoplinelaw22.LadderFirst", spec := "ladderFirst", named := ["math/bits.deBruijn32tab"], apart := false, laid := [("math/bits.deBruijn32tab", laid_math_bits_deBruijn32tab)] }
def LadderFirstSaid : Prop := ladderFirstRow.holds Tryd.pinned (OpenSpec.ofChange ladderFirstSpec)

/-- ITS FALSE NEIGHBOUR: 'it returns false'. Refute it at one input. -/
def ladderFirstWrong : ChangeSpec := { name := "ladderFirst", fn := fun _ => fun
  | [d1, d2, d3] => { results := [.lit (.bool false)], args := [d1, d2, d3] }
  | _ => none }
def LadderFirstWrongFalsely : Prop := ladderFirstRow.holds Tryd.pinned (OpenSpec.ofChange ladderFirstWrong)

/-- 'stoplinelaw22.LadderNames': WHATEVER THE INPUT: true; the input reads as it did. -/
def ladderNamesSpec : ChangeSpec := { name := "ladderNames", fn := fun _ => fun
  | [] => { results := [.lit (.bool true)], args := [] }
  | _ => none }
def ladderNamesRow : OpenClaim := { program := "ytnkhijnppfnomaadoor", sum := "a892ceeb32a888241605e09ac3e8ef910e64a79afd14958948a9f05ad0934c43", func := "stopline/stoplinelaw22.LadderNames", spec := "ladderNames", named := ["math/bits.deBruijn32tab"], apart := false, laid := [("math/bits.deBruijn32tab", laid_math_bits_deBruijn32tab)] }
def LadderNamesSaid : Prop := ladderNamesRow.holds Tryd.pinned (OpenSpec.ofChange ladderNamesSpec)

/-- ITS FALSE NEIGHBOUR: 'it returns false'. Refute it at one input. -/
def ladderNamesWrong : ChangeSpec := { name := "ladderNames", fn := fun _ => fun
  | [] => { results := [.lit (.bool false)], args := [] }
  | _ => none }
def LadderNamesWrongFalsely : Prop := ladderNamesRow.holds Tryd.pinned (OpenSpec.ofChange ladderNamesWrong)

/-- 'stoplinelaw22.LadderSteps': WHATEVER THE INPUT: true; the input reads as it did. -/
def ladderStepsSpec : ChangeSpec := { name := "ladderSteps", fn := fun _ => fun
  | [d1, d2, d3, d4, d5] => { results := [.lit (.bool true)], args := [d1, d2, d3, d4, d5] }
  | _ => none }
def ladderStepsRow : OpenClaim := { program := "ytnkhijnppfnomaadoor", sum := "a892ceeb32a888241605e09ac3e8ef910e64a79afd14958948a9f05ad0934c43", func := "stopline/stoplinelaw22.LadderSteps", spec := "ladderSteps", named := ["math/bits.deBruijn32tab"], apart := false, laid := [("math/bits.deBruijn32tab", laid_math_bits_deBruijn32tab)] }
def LadderStepsSaid : Prop := ladderStepsRow.holds Tryd.pinned (OpenSpec.ofChange ladderStepsSpec)

/-- ITS FALSE NEIGHBOUR: 'it returns false'. Refute it at one input. -/
def ladderStepsWrong : ChangeSpec := { name := "ladderSteps", fn := fun _ => fun
  | [d1, d2, d3, d4, d5] => { results := [.lit (.bool false)], args := [d1, d2, d3, d4, d5] }
  | _ => none }
def LadderStepsWrongFalsely : Prop := ladderStepsRow.holds Tryd.pinned (OpenSpec.ofChange ladderStepsWrong)

/-- 'stoplinelaw10.BackNames': WHATEVER THE INPUT: true; the input reads as it did. -/
def backNamesSpec : ChangeSpec := { name := "backNames", fn := fun _ => fun
  | [] => { results := [.lit (.bool true)], args := [] }
  | _ => none }
def backNamesRow : OpenClaim := { program := "ytnkhijnppfnomaadoor", sum := "a892ceeb32a888241605e09ac3e8ef910e64a79afd14958948a9f05ad0934c43", func := "stopline/stoplinelaw10.BackNames", spec := "backNames", named := ["math/bits.deBruijn32tab"], apart := false, laid := [("math/bits.deBruijn32tab", laid_math_bits_deBruijn32tab)] }
def BackNamesSaid : Prop := backNamesRow.holds Tryd.pinned (OpenSpec.ofChange backNamesSpec)

/-- ITS FALSE NEIGHBOUR: 'it returns false'. Refute it at one input. -/
def backNamesWrong : ChangeSpec := { name := "backNames", fn := fun _ => fun
  | [] => { results := [.lit (.bool false)], args := [] }
  | _ => none }
def BackNamesWrongFalsely : Prop := backNamesRow.holds Tryd.pinned (OpenSpec.ofChange backNamesWrong)

/-- 'stoplinelaw10.BackWrong': WHATEVER THE INPUT: true; the input reads as it did. -/
def backWrongSpec : ChangeSpec := { name := "backWrong", fn := fun _ => fun
  | [d1, d2, d3, d4] => { results := [.lit (.bool true)], args := [d1, d2, d3, d4] }
  | _ => none }
def backWrongRow : OpenClaim := { program := "ytnkhijnppfnomaadoor", sum := "a892ceeb32a888241605e09ac3e8ef910e64a79afd14958948a9f05ad0934c43", func := "stopline/stoplinelaw10.BackWrong", spec := "backWrong", named := ["math/bits.deBruijn32tab"], apart := false, laid := [("math/bits.deBruijn32tab", laid_math_bits_deBruijn32tab)] }
def BackWrongSaid : Prop := backWrongRow.holds Tryd.pinned (OpenSpec.ofChange backWrongSpec)

/-- ITS FALSE NEIGHBOUR: 'it returns false'. Refute it at one input. -/
def backWrongWrong : ChangeSpec := { name := "backWrong", fn := fun _ => fun
  | [d1, d2, d3, d4] => { results := [.lit (.bool false)], args := [d1, d2, d3, d4] }
  | _ => none }
def BackWrongWrongFalsely : Prop := backWrongRow.holds Tryd.pinned (OpenSpec.ofChange backWrongWrong)

/-- 'stoplinelaw10.BackRight': WHATEVER THE INPUT: true; the input reads as it did. -/
def backRightSpec : ChangeSpec := { name := "backRight", fn := fun _ => fun
  | [d1, d2, d3, d4, d5] => { results := [.lit (.bool true)], args := [d1, d2, d3, d4, d5] }
  | _ => none }
def backRightRow : OpenClaim := { program := "ytnkhijnppfnomaadoor", sum := "a892ceeb32a888241605e09ac3e8ef910e64a79afd14958948a9f05ad0934c43", func := "stopline/stoplinelaw10.BackRight", spec := "backRight", named := ["math/bits.deBruijn32tab"], apart := false, laid := [("math/bits.deBruijn32tab", laid_math_bits_deBruijn32tab)] }
def BackRightSaid : Prop := backRightRow.holds Tryd.pinned (OpenSpec.ofChange backRightSpec)

/-- ITS FALSE NEIGHBOUR: 'it returns false'. Refute it at one input. -/
def backRightWrong : ChangeSpec := { name := "backRight", fn := fun _ => fun
  | [d1, d2, d3, d4, d5] => { results := [.lit (.bool false)], args := [d1, d2, d3, d4, d5] }
  | _ => none }
def BackRightWrongFalsely : Prop := backRightRow.holds Tryd.pinned (OpenSpec.ofChange backRightWrong)

/- THE SECOND FORM. 'bulk': how many values and letters a reading holds, each counted each time it is reached (what is shared counts as often as it is met; a slice's spare places count too). A statement '..UptoSaid' is the law's where the arguments, and the package variables that the reading takes, are together of bulk at most 1048576: NARROWER than '..Said'. Prove '..Said' where nothing that the law and all that it calls make is longer than what came in: it says more and counts as full. Else prove '..UptoSaid'. A law counts once. -/
mutual
def uptoBulk {H : Type} : DataW H → Nat
  | .lit (.string bytes) => bytes.length + 1
  | .lit _ => 1
  | .nil => 1
  | .ptr d => uptoBulk d + 1
  | .slice elems spare => uptoBulkAll elems + uptoBulkAll spare + 1
  | .agg parts => uptoBulkAll parts + 1
  | .iface _ d => uptoBulk d + 1
  | .map entries => uptoBulkEntries entries + 1
  | .held _ => 1
def uptoBulkAll {H : Type} : List (DataW H) → Nat
  | [] => 0
  | d :: r => uptoBulk d + uptoBulkAll r
def uptoBulkEntries {H : Type} : List (Lit × DataW H) → Nat
  | [] => 0
  | x :: r => uptoBulkEntry x + uptoBulkEntries r
def uptoBulkEntry {H : Type} : Lit × DataW H → Nat
  | (.string bytes, d) => bytes.length + uptoBulk d + 1
  | (_, d) => uptoBulk d + 1
 end
def uptoSmall : (H : Type) → List (DataW H) → Bool := fun _ ds => decide (uptoBulkAll ds ≤ 1048576)
def OpenSpec.upto (s : _root_.Go.ChangeSpec) : _root_.Go.OpenSpec := { _root_.Go.OpenSpec.ofChange s with cond := some uptoSmall }

/-- 'stoplinelaw22.LadderDown', WHERE WHAT IT READS IS OF BULK AT MOST 1048576: true; the input reads as it did. -/
def ladderDownUptoRow : OpenClaim := { program := "ytnkhijnppfnomaadoor", sum := "a892ceeb32a888241605e09ac3e8ef910e64a79afd14958948a9f05ad0934c43", func := "stopline/stoplinelaw22.LadderDown", spec := "ladderDown", named := ["math/bits.deBruijn32tab"], apart := false, laid := [("math/bits.deBruijn32tab", laid_math_bits_deBruijn32tab)], narrowed := true }
def LadderDownUptoSaid : Prop := ladderDownUptoRow.holds Tryd.pinned (OpenSpec.upto ladderDownSpec)

/-- 'stoplinelaw22.LadderUp', WHERE WHAT IT READS IS OF BULK AT MOST 1048576: true; the input reads as it did. -/
def ladderUpUptoRow : OpenClaim := { program := "ytnkhijnppfnomaadoor", sum := "a892ceeb32a888241605e09ac3e8ef910e64a79afd14958948a9f05ad0934c43", func := "stopline/stoplinelaw22.LadderUp", spec := "ladderUp", named := ["math/bits.deBruijn32tab"], apart := false, laid := [("math/bits.deBruijn32tab", laid_math_bits_deBruijn32tab)], narrowed := true }
def LadderUpUptoSaid : Prop := ladderUpUptoRow.holds Tryd.pinned (OpenSpec.upto ladderUpSpec)

/-- 'stoplinelaw22.LadderReaches', WHERE WHAT IT READS IS OF BULK AT MOST 1048576: true; the input reads as it did. -/
def ladderReachesUptoRow : OpenClaim := { program := "ytnkhijnppfnomaadoor", sum := "a892ceeb32a888241605e09ac3e8ef910e64a79afd14958948a9f05ad0934c43", func := "stopline/stoplinelaw22.LadderReaches", spec := "ladderReaches", named := ["math/bits.deBruijn32tab"], apart := false, laid := [("math/bits.deBruijn32tab", laid_math_bits_deBruijn32tab)], narrowed := true }
def LadderReachesUptoSaid : Prop := ladderReachesUptoRow.holds Tryd.pinned (OpenSpec.upto ladderReachesSpec)

/-- 'stoplinelaw10.BackFeed', WHERE WHAT IT READS IS OF BULK AT MOST 1048576: true; the input reads as it did. -/
def backFeedUptoRow : OpenClaim := { program := "ytnkhijnppfnomaadoor", sum := "a892ceeb32a888241605e09ac3e8ef910e64a79afd14958948a9f05ad0934c43", func := "stopline/stoplinelaw10.BackFeed", spec := "backFeed", named := ["math/bits.deBruijn32tab"], apart := false, laid := [("math/bits.deBruijn32tab", laid_math_bits_deBruijn32tab)], narrowed := true }
def BackFeedUptoSaid : Prop := backFeedUptoRow.holds Tryd.pinned (OpenSpec.upto backFeedSpec)

/-- 'stoplinelaw22.LadderFirst', WHERE WHAT IT READS IS OF BULK AT MOST 1048576: true; the input reads as it did. -/
def ladderFirstUptoRow : OpenClaim := { program := "ytnkhijnppfnomaadoor", sum := "a892ceeb32a888241605e09ac3e8ef910e64a79afd14958948a9f05ad0934c43", func := "stopline/stoplinelaw22.LadderFirst", spec := "ladderFirst", named := ["math/bits.deBruijn32tab"], apart := false, laid := [("math/bits.deBruijn32tab", laid_math_bits_deBruijn32tab)], narrowed := true }
def LadderFirstUptoSaid : Prop := ladderFirstUptoRow.holds Tryd.pinned (OpenSpec.upto ladderFirstSpec)

/-- 'stoplinelaw22.LadderNames', WHERE WHAT IT READS IS OF BULK AT MOST 1048576: true; the input reads as it did. -/
def ladderNamesUptoRow : OpenClaim := { program := "ytnkhijnppfnomaadoor", sum := "a892ceeb32a888241605e09ac3e8ef910e64a79afd14958948a9f05ad0934c43", func := "stopline/stoplinelaw22.LadderNames", spec := "ladderNames", named := ["math/bits.deBruijn32tab"], apart := false, laid := [("math/bits.deBruijn32tab", laid_math_bits_deBruijn32tab)], narrowed := true }
def LadderNamesUptoSaid : Prop := ladderNamesUptoRow.holds Tryd.pinned (OpenSpec.upto ladderNamesSpec)

/-- 'stoplinelaw22.LadderSteps', WHERE WHAT IT READS IS OF BULK AT MOST 1048576: true; the input reads as it did. -/
def ladderStepsUptoRow : OpenClaim := { program := "ytnkhijnppfnomaadoor", sum := "a892ceeb32a888241605e09ac3e8ef910e64a79afd14958948a9f05ad0934c43", func := "stopline/stoplinelaw22.LadderSteps", spec := "ladderSteps", named := ["math/bits.deBruijn32tab"], apart := false, laid := [("math/bits.deBruijn32tab", laid_math_bits_deBruijn32tab)], narrowed := true }
def LadderStepsUptoSaid : Prop := ladderStepsUptoRow.holds Tryd.pinned (OpenSpec.upto ladderStepsSpec)

/-- 'stoplinelaw10.BackNames', WHERE WHAT IT READS IS OF BULK AT MOST 1048576: true; the input reads as it did. -/
def backNamesUptoRow : OpenClaim := { program := "ytnkhijnppfnomaadoor", sum := "a892ceeb32a888241605e09ac3e8ef910e64a79afd14958948a9f05ad0934c43", func := "stopline/stoplinelaw10.BackNames", spec := "backNames", named := ["math/bits.deBruijn32tab"], apart := false, laid := [("math/bits.deBruijn32tab", laid_math_bits_deBruijn32tab)], narrowed := true }
def BackNamesUptoSaid : Prop := backNamesUptoRow.holds Tryd.pinned (OpenSpec.upto backNamesSpec)

/-- 'stoplinelaw10.BackWrong', WHERE WHAT IT READS IS OF BULK AT MOST 1048576: true; the input reads as it did. -/
def backWrongUptoRow : OpenClaim := { program := "ytnkhijnppfnomaadoor", sum := "a892ceeb32a888241605e09ac3e8ef910e64a79afd14958948a9f05ad0934c43", func := "stopline/stoplinelaw10.BackWrong", spec := "backWrong", named := ["math/bits.deBruijn32tab"], apart := false, laid := [("math/bits.deBruijn32tab", laid_math_bits_deBruijn32tab)], narrowed := true }
def BackWrongUptoSaid : Prop := backWrongUptoRow.holds Tryd.pinned (OpenSpec.upto backWrongSpec)

/-- 'stoplinelaw10.BackRight', WHERE WHAT IT READS IS OF BULK AT MOST 1048576: true; the input reads as it did. -/
def backRightUptoRow : OpenClaim := { program := "ytnkhijnppfnomaadoor", sum := "a892ceeb32a888241605e09ac3e8ef910e64a79afd14958948a9f05ad0934c43", func := "stopline/stoplinelaw10.BackRight", spec := "backRight", named := ["math/bits.deBruijn32tab"], apart := false, laid := [("math/bits.deBruijn32tab", laid_math_bits_deBruijn32tab)], narrowed := true }
def BackRightUptoSaid : Prop := backRightUptoRow.holds Tryd.pinned (OpenSpec.upto backRightSpec)

end Rows
end Go.Proofs.YtnkhijnppfnomaaDoor
