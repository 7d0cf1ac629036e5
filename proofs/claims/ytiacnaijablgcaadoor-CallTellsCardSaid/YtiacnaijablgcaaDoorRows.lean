/-
  NARROWER THAN 'FOR EVERY INPUT', by the rows' own cells (each row's printed sentence says how): EyeStays: laid · EyeIll: laid · CallNames: laid · CallTells: laid · CallKept: laid · CallRound: laid · CallNearest: laid · EyeAll: laid · EyeNames: laid · EyeTicks: laid.
  DERIVED. THE GIVEN ROWS OF THIS SEAT. 10 by the template 'for every input the law returns true; each argument reads behind the call as it read before'; 0 by the template 'total and deterministic' (their statements: YtiacnaijablgcaaDoorTotals.lean).
  GIVEN WITH THE SEED: the statements are not yours to turn. If you find one false, say at which input.
  Laid BY PROGRAM, IN A SANDBOX (cutbox-rows.mjs): the forced cells as the released guide's own fill.sh prints them over the translation b6b65931cbab1e98… (all of the seat's roots in one cut). By AI agents, Wed Nov 11 2026. No macro, syntax, notation, axiom, sorry.
-/
import Derived.Test.YtiacnaijablgcaaDoorChecked
import GoSem.Claim
import GoSem.ClaimJoined
import GoSem.ClaimMapViews
import Derived.JoinedTies
import Derived.KernelRfl
namespace Go.Proofs.YtiacnaijablgcaaDoor
/- THE CELL 'sum', in the pinned program and in every row, IS THE sha256 OF THE DUMP (.gsa) THAT YtiacnaijablgcaaDoorProg.lean LOADS. Nothing in Lean hashes anything: it is a label: what it is worth is what the hold of that sum in a sandbox is worth. -/
noncomputable def Tryd.pinned : Pinned := { name := "ytiacnaijablgcaadoor", sum := "b6b65931cbab1e9846aa5b9f05915a81a9352ed0b24255d4b1970163cfc8bbfa", checked := Tryd.checked }
namespace Rows
def none {H : Type} : Left H := { results := [], args := [] }

/- WHAT THE LISTED PACKAGE-LEVEL VARIABLES READ AS WHEN THE CALL BEGINS. Each datum BY PROGRAM (the guide's laid-datum.mjs) off the statement by which the dump's own 'gosem.cut.vars' lays the variable. In a bare row this is a premise. The card (YtiacnaijablgcaaDoorCards.lean) ties it to the program's text. -/
def laid_math_bits_deBruijn32tab {H : Type} : DataW H := .agg [.lit (.int .u8 0), .lit (.int .u8 1), .lit (.int .u8 28), .lit (.int .u8 2), .lit (.int .u8 29), .lit (.int .u8 14), .lit (.int .u8 24), .lit (.int .u8 3), .lit (.int .u8 30), .lit (.int .u8 22), .lit (.int .u8 20), .lit (.int .u8 15), .lit (.int .u8 25), .lit (.int .u8 17), .lit (.int .u8 4), .lit (.int .u8 8), .lit (.int .u8 31), .lit (.int .u8 27), .lit (.int .u8 13), .lit (.int .u8 23), .lit (.int .u8 21), .lit (.int .u8 19), .lit (.int .u8 16), .lit (.int .u8 7), .lit (.int .u8 26), .lit (.int .u8 12), .lit (.int .u8 18), .lit (.int .u8 6), .lit (.int .u8 11), .lit (.int .u8 5), .lit (.int .u8 10), .lit (.int .u8 9)]

/-- 'stoplinelaw13.EyeStays': WHATEVER THE INPUT: true; the input reads as it did. -/
def eyeStaysSpec : ChangeSpec := { name := "eyeStays", fn := fun _ => fun
  | [d1, d2, d3, d4, d5] => { results := [.lit (.bool true)], args := [d1, d2, d3, d4, d5] }
  | _ => none }
def eyeStaysRow : OpenClaim := { program := "ytiacnaijablgcaadoor", sum := "b6b65931cbab1e9846aa5b9f05915a81a9352ed0b24255d4b1970163cfc8bbfa", func := "stopline/stoplinelaw13.EyeStays", spec := "eyeStays", named := ["math/bits.deBruijn32tab"], apart := false, laid := [("math/bits.deBruijn32tab", laid_math_bits_deBruijn32tab)] }
def EyeStaysSaid : Prop := eyeStaysRow.holds Tryd.pinned (OpenSpec.ofChange eyeStaysSpec)

/-- ITS FALSE NEIGHBOUR: 'it returns false'. Refute it at one input. -/
def eyeStaysWrong : ChangeSpec := { name := "eyeStays", fn := fun _ => fun
  | [d1, d2, d3, d4, d5] => { results := [.lit (.bool false)], args := [d1, d2, d3, d4, d5] }
  | _ => none }
def EyeStaysWrongFalsely : Prop := eyeStaysRow.holds Tryd.pinned (OpenSpec.ofChange eyeStaysWrong)

/-- 'stoplinelaw13.EyeIll': WHATEVER THE INPUT: true; the input reads as it did. -/
def eyeIllSpec : ChangeSpec := { name := "eyeIll", fn := fun _ => fun
  | [d1, d2, d3] => { results := [.lit (.bool true)], args := [d1, d2, d3] }
  | _ => none }
def eyeIllRow : OpenClaim := { program := "ytiacnaijablgcaadoor", sum := "b6b65931cbab1e9846aa5b9f05915a81a9352ed0b24255d4b1970163cfc8bbfa", func := "stopline/stoplinelaw13.EyeIll", spec := "eyeIll", named := ["math/bits.deBruijn32tab"], apart := false, laid := [("math/bits.deBruijn32tab", laid_math_bits_deBruijn32tab)] }
def EyeIllSaid : Prop := eyeIllRow.holds Tryd.pinned (OpenSpec.ofChange eyeIllSpec)

/-- ITS FALSE NEIGHBOUR: 'it returns false'. Refute it at one input. -/
def eyeIllWrong : ChangeSpec := { name := "eyeIll", fn := fun _ => fun
  | [d1, d2, d3] => { results := [.lit (.bool false)], args := [d1, d2, d3] }
  | _ => none }
def EyeIllWrongFalsely : Prop := eyeIllRow.holds Tryd.pinned (OpenSpec.ofChange eyeIllWrong)

/-- 'stoplinelaw14.CallNames': WHATEVER THE INPUT: true; the input reads as it did. -/
def callNamesSpec : ChangeSpec := { name := "callNames", fn := fun _ => fun
  | [] => { results := [.lit (.bool true)], args := [] }
  | _ => none }
def callNamesRow : OpenClaim := { program := "ytiacnaijablgcaadoor", sum := "b6b65931cbab1e9846aa5b9f05915a81a9352ed0b24255d4b1970163cfc8bbfa", func := "stopline/stoplinelaw14.CallNames", spec := "callNames", named := ["math/bits.deBruijn32tab"], apart := false, laid := [("math/bits.deBruijn32tab", laid_math_bits_deBruijn32tab)] }
def CallNamesSaid : Prop := callNamesRow.holds Tryd.pinned (OpenSpec.ofChange callNamesSpec)

/-- ITS FALSE NEIGHBOUR: 'it returns false'. Refute it at one input. -/
def callNamesWrong : ChangeSpec := { name := "callNames", fn := fun _ => fun
  | [] => { results := [.lit (.bool false)], args := [] }
  | _ => none }
def CallNamesWrongFalsely : Prop := callNamesRow.holds Tryd.pinned (OpenSpec.ofChange callNamesWrong)

/-- 'stoplinelaw14.CallTells': WHATEVER THE INPUT: true; the input reads as it did. -/
def callTellsSpec : ChangeSpec := { name := "callTells", fn := fun _ => fun
  | [d1, d2, d3, d4] => { results := [.lit (.bool true)], args := [d1, d2, d3, d4] }
  | _ => none }
def callTellsRow : OpenClaim := { program := "ytiacnaijablgcaadoor", sum := "b6b65931cbab1e9846aa5b9f05915a81a9352ed0b24255d4b1970163cfc8bbfa", func := "stopline/stoplinelaw14.CallTells", spec := "callTells", named := ["math/bits.deBruijn32tab"], apart := false, laid := [("math/bits.deBruijn32tab", laid_math_bits_deBruijn32tab)] }
def CallTellsSaid : Prop := callTellsRow.holds Tryd.pinned (OpenSpec.ofChange callTellsSpec)

/-- ITS FALSE NEIGHBOUR: 'it returns false'. Refute it at one input. -/
def callTellsWrong : ChangeSpec := { name := "callTells", fn := fun _ => fun
  | [d1, d2, d3, d4] => { results := [.lit (.bool false)], args := [d1, d2, d3, d4] }
  | _ => none }
def CallTellsWrongFalsely : Prop := callTellsRow.holds Tryd.pinned (OpenSpec.ofChange callTellsWrong)

/-- 'stoplinelaw14.CallKept': WHATEVER THE INPUT: true; the input reads as it did. -/
def callKeptSpec : ChangeSpec := { name := "callKept", fn := fun _ => fun
  | [d1, d2, d3, d4] => { results := [.lit (.bool true)], args := [d1, d2, d3, d4] }
  | _ => none }
def callKeptRow : OpenClaim := { program := "ytiacnaijablgcaadoor", sum := "b6b65931cbab1e9846aa5b9f05915a81a9352ed0b24255d4b1970163cfc8bbfa", func := "stopline/stoplinelaw14.CallKept", spec := "callKept", named := ["math/bits.deBruijn32tab"], apart := false, laid := [("math/bits.deBruijn32tab", laid_math_bits_deBruijn32tab)] }
def CallKeptSaid : Prop := callKeptRow.holds Tryd.pinned (OpenSpec.ofChange callKeptSpec)

/-- ITS FALSE NEIGHBOUR: 'it returns false'. Refute it at one input. -/
def callKeptWrong : ChangeSpec := { name := "callKept", fn := fun _ => fun
  | [d1, d2, d3, d4] => { results := [.lit (.bool false)], args := [d1, d2, d3, d4] }
  | _ => none }
def CallKeptWrongFalsely : Prop := callKeptRow.holds Tryd.pinned (OpenSpec.ofChange callKeptWrong)

/-- 'stoplinelaw14.CallRound': WHATEVER THE INPUT: true; the input reads as it did. -/
def callRoundSpec : ChangeSpec := { name := "callRound", fn := fun _ => fun
  | [d1, d2, d3] => { results := [.lit (.bool true)], args := [d1, d2, d3] }
  | _ => none }
def callRoundRow : OpenClaim := { program := "ytiacnaijablgcaadoor", sum := "b6b65931cbab1e9846aa5b9f05915a81a9352ed0b24255d4b1970163cfc8bbfa", func := "stopline/stoplinelaw14.CallRound", spec := "callRound", named := ["math/bits.deBruijn32tab"], apart := false, laid := [("math/bits.deBruijn32tab", laid_math_bits_deBruijn32tab)] }
def CallRoundSaid : Prop := callRoundRow.holds Tryd.pinned (OpenSpec.ofChange callRoundSpec)

/-- ITS FALSE NEIGHBOUR: 'it returns false'. Refute it at one input. -/
def callRoundWrong : ChangeSpec := { name := "callRound", fn := fun _ => fun
  | [d1, d2, d3] => { results := [.lit (.bool false)], args := [d1, d2, d3] }
  | _ => none }
def CallRoundWrongFalsely : Prop := callRoundRow.holds Tryd.pinned (OpenSpec.ofChange callRoundWrong)

/-- 'stoplinelaw14.CallNearest': WHATEVER THE INPUT: true; the input reads as it did. -/
def callNearestSpec : ChangeSpec := { name := "callNearest", fn := fun _ => fun
  | [d1, d2, d3] => { results := [.lit (.bool true)], args := [d1, d2, d3] }
  | _ => none }
def callNearestRow : OpenClaim := { program := "ytiacnaijablgcaadoor", sum := "b6b65931cbab1e9846aa5b9f05915a81a9352ed0b24255d4b1970163cfc8bbfa", func := "stopline/stoplinelaw14.CallNearest", spec := "callNearest", named := ["math/bits.deBruijn32tab"], apart := false, laid := [("math/bits.deBruijn32tab", laid_math_bits_deBruijn32tab)] }
def CallNearestSaid : Prop := callNearestRow.holds Tryd.pinned (OpenSpec.ofChange callNearestSpec)

/-- ITS FALSE NEIGHBOUR: 'it returns false'. Refute it at one input. -/
def callNearestWrong : ChangeSpec := { name := "callNearest", fn := fun _ => fun
  | [d1, d2, d3] => { results := [.lit (.bool false)], args := [d1, d2, d3] }
  | _ => none }
def CallNearestWrongFalsely : Prop := callNearestRow.holds Tryd.pinned (OpenSpec.ofChange callNearestWrong)

/-- 'stoplinelaw13.EyeAll': WHATEVER THE INPUT: true; the input reads as it did. -/
def eyeAllSpec : ChangeSpec := { name := "eyeAll", fn := fun _ => fun
  | [d1, d2, d3] => { results := [.lit (.bool true)], args := [d1, d2, d3] }
  | _ => none }
def eyeAllRow : OpenClaim := { program := "ytiacnaijablgcaadoor", sum := "b6b65931cbab1e9846aa5b9f05915a81a9352ed0b24255d4b1970163cfc8bbfa", func := "stopline/stoplinelaw13.EyeAll", spec := "eyeAll", named := ["math/bits.deBruijn32tab"], apart := false, laid := [("math/bits.deBruijn32tab", laid_math_bits_deBruijn32tab)] }
def EyeAllSaid : Prop := eyeAllRow.holds Tryd.pinned (OpenSpec.ofChange eyeAllSpec)

/-- ITS FALSE NEIGHBOUR: 'it returns false'. Refute it at one input. -/
def eyeAllWrong : ChangeSpec := { name := "eyeAll", fn := fun _ => fun
  | [d1, d2, d3] => { results := [.lit (.bool false)], args := [d1, d2, d3] }
  | _ => none }
def EyeAllWrongFalsely : Prop := eyeAllRow.holds Tryd.pinned (OpenSpec.ofChange eyeAllWrong)

/-- 'stoplinelaw13.EyeNames': WHATEVER THE INPUT: true; the input reads as it did. -/
def eyeNamesSpec : ChangeSpec := { name := "eyeNames", fn := fun _ => fun
  | [] => { results := [.lit (.bool true)], args := [] }
  | _ => none }
def eyeNamesRow : OpenClaim := { program := "ytiacnaijablgcaadoor", sum := "b6b65931cbab1e9846aa5b9f05915a81a9352ed0b24255d4b1970163cfc8bbfa", func := "stopline/stoplinelaw13.EyeNames", spec := "eyeNames", named := ["math/bits.deBruijn32tab"], apart := false, laid := [("math/bits.deBruijn32tab", laid_math_bits_deBruijn32tab)] }
def EyeNamesSaid : Prop := eyeNamesRow.holds Tryd.pinned (OpenSpec.ofChange eyeNamesSpec)

/-- ITS FALSE NEIGHBOUR: 'it returns false'. Refute it at one input. -/
def eyeNamesWrong : ChangeSpec := { name := "eyeNames", fn := fun _ => fun
  | [] => { results := [.lit (.bool false)], args := [] }
  | _ => none }
def EyeNamesWrongFalsely : Prop := eyeNamesRow.holds Tryd.pinned (OpenSpec.ofChange eyeNamesWrong)

/-- 'stoplinelaw13.EyeTicks': WHATEVER THE INPUT: true; the input reads as it did. -/
def eyeTicksSpec : ChangeSpec := { name := "eyeTicks", fn := fun _ => fun
  | [d1, d2, d3, d4, d5] => { results := [.lit (.bool true)], args := [d1, d2, d3, d4, d5] }
  | _ => none }
def eyeTicksRow : OpenClaim := { program := "ytiacnaijablgcaadoor", sum := "b6b65931cbab1e9846aa5b9f05915a81a9352ed0b24255d4b1970163cfc8bbfa", func := "stopline/stoplinelaw13.EyeTicks", spec := "eyeTicks", named := ["math/bits.deBruijn32tab"], apart := false, laid := [("math/bits.deBruijn32tab", laid_math_bits_deBruijn32tab)] }
def EyeTicksSaid : Prop := eyeTicksRow.holds Tryd.pinned (OpenSpec.ofChange eyeTicksSpec)

/-- ITS FALSE NEIGHBOUR: 'it returns false'. Refute it at one input. -/
def eyeTicksWrong : ChangeSpec := { name := "eyeTicks", fn := fun _ => fun
  | [d1, d2, d3, d4, d5] => { results := [.lit (.bool false)], args := [d1, d2, d3, d4, d5] }
  | _ => none }
def EyeTicksWrongFalsely : Prop := eyeTicksRow.holds Tryd.pinned (OpenSpec.ofChange eyeTicksWrong)

/- THE SECOND FORM. 'bulk': how many values and letters a reading holds, each counted each time it is reached (what is shared counts as often as it is met; a slice's spare places count too). A statement '..UptoSaid' is the law's where the arguments, and the package variables that the reading takes, are together of bulk at most 1048576: NARROWER than '..Said'. Prove '..Said' where nothing that the law and all that it calls make is longer than what came in: it says more and counts as full. Else prove '..UptoSaid'. A law counts once. -/
mutual
def uptoBulk {H : Type} : DataW H → Nat
  | .lit (.string bytes) => bytes.length + 1
  | .lit _ => 1
  | .nil => 1
  | .ptr d => uptoBulk d + 1
  | .slice elems spare => uptoBulkAll elems + uptoBulkAll spare + 1
  | .agg parts => uptoBulkAll parts + 1
  | .iface _ d => uptoBulk d + 1
  | .map entries => uptoBulkEntries entries + 1
  | .held _ => 1
def uptoBulkAll {H : Type} : List (DataW H) → Nat
  | [] => 0
  | d :: r => uptoBulk d + uptoBulkAll r
def uptoBulkEntries {H : Type} : List (Lit × DataW H) → Nat
  | [] => 0
  | x :: r => uptoBulkEntry x + uptoBulkEntries r
def uptoBulkEntry {H : Type} : Lit × DataW H → Nat
  | (.string bytes, d) => bytes.length + uptoBulk d + 1
  | (_, d) => uptoBulk d + 1
 end
def uptoSmall : (H : Type) → List (DataW H) → Bool := fun _ ds => decide (uptoBulkAll ds ≤ 1048576)
def OpenSpec.upto (s : _root_.Go.ChangeSpec) : _root_.Go.OpenSpec := { _root_.Go.OpenSpec.ofChange s with cond := some uptoSmall }

/-- 'stoplinelaw13.EyeStays', WHERE WHAT IT READS IS OF BULK AT MOST 1048576: true; the input reads as it did. -/
def eyeStaysUptoRow : OpenClaim := { program := "ytiacnaijablgcaadoor", sum := "b6b65931cbab1e9846aa5b9f05915a81a9352ed0b24255d4b1970163cfc8bbfa", func := "stopline/stoplinelaw13.EyeStays", spec := "eyeStays", named := ["math/bits.deBruijn32tab"], apart := false, laid := [("math/bits.deBruijn32tab", laid_math_bits_deBruijn32tab)], narrowed := true }
def EyeStaysUptoSaid : Prop := eyeStaysUptoRow.holds Tryd.pinned (OpenSpec.upto eyeStaysSpec)

/-- 'stoplinelaw13.EyeIll', WHERE WHAT IT READS IS OF BULK AT MOST 1048576: true; the input reads as it did. -/
def eyeIllUptoRow : OpenClaim := { program := "ytiacnaijablgcaadoor", sum := "b6b65931cbab1e9846aa5b9f05915a81a9352ed0b24255d4b1970163cfc8bbfa", func := "stopline/stoplinelaw13.EyeIll", spec := "eyeIll", named := ["math/bits.deBruijn32tab"], apart := false, laid := [("math/bits.deBruijn32tab", laid_math_bits_deBruijn32tab)], narrowed := true }
def EyeIllUptoSaid : Prop := eyeIllUptoRow.holds Tryd.pinned (OpenSpec.upto eyeIllSpec)

/-- 'stoplinelaw14.CallNames', WHERE WHAT IT READS IS OF BULK AT MOST 1048576: true; the input reads as it did. -/
def callNamesUptoRow : OpenClaim := { program := "ytiacnaijablgcaadoor", sum := "b6b65931cbab1e9846aa5b9f05915a81a9352ed0b24255d4b1970163cfc8bbfa", func := "stopline/stoplinelaw14.CallNames", spec := "callNames", named := ["math/bits.deBruijn32tab"], apart := false, laid := [("math/bits.deBruijn32tab", laid_math_bits_deBruijn32tab)], narrowed := true }
def CallNamesUptoSaid : Prop := callNamesUptoRow.holds Tryd.pinned (OpenSpec.upto callNamesSpec)

/-- 'stoplinelaw14.CallTells', WHERE WHAT IT READS IS OF BULK AT MOST 1048576: true; the input reads as it did. -/
def callTellsUptoRow : OpenClaim := { program := "ytiacnaijablgcaadoor", sum := "b6b65931cbab1e9846aa5b9f05915a81a9352ed0b24255d4b1970163cfc8bbfa", func := "stopline/stoplinelaw14.CallTells", spec := "callTells", named := ["math/bits.deBruijn32tab"], apart := false, laid := [("math/bits.deBruijn32tab", laid_math_bits_deBruijn32tab)], narrowed := true }
def CallTellsUptoSaid : Prop := callTellsUptoRow.holds Tryd.pinned (OpenSpec.upto callTellsSpec)

/-- 'stoplinelaw14.CallKept', WHERE WHAT IT READS IS OF BULK AT MOST 1048576: true; the input reads as it did. -/
def callKeptUptoRow : OpenClaim := { program := "ytiacnaijablgcaadoor", sum := "b6b65931cbab1e9846aa5b9f05915a81a9352ed0b24255d4b1970163cfc8bbfa", func := "stopline/stoplinelaw14.CallKept", spec := "callKept", named := ["math/bits.deBruijn32tab"], apart := false, laid := [("math/bits.deBruijn32tab", laid_math_bits_deBruijn32tab)], narrowed := true }
def CallKeptUptoSaid : Prop := callKeptUptoRow.holds Tryd.pinned (OpenSpec.upto callKeptSpec)

/-- 'stoplinelaw14.CallRound', WHERE WHAT IT READS IS OF BULK AT MOST 1048576: true; the input reads as it did. -/
def callRoundUptoRow : OpenClaim := { program := "ytiacnaijablgcaadoor", sum := "b6b65931cbab1e9846aa5b9f05915a81a9352ed0b24255d4b1970163cfc8bbfa", func := "stopline/stoplinelaw14.CallRound", spec := "callRound", named := ["math/bits.deBruijn32tab"], apart := false, laid := [("math/bits.deBruijn32tab", laid_math_bits_deBruijn32tab)], narrowed := true }
def CallRoundUptoSaid : Prop := callRoundUptoRow.holds Tryd.pinned (OpenSpec.upto callRoundSpec)

/-- 'stoplinelaw14.CallNearest', WHERE WHAT IT READS IS OF BULK AT MOST 1048576: true; the input reads as it did. -/
def callNearestUptoRow : OpenClaim := { program := "ytiacnaijablgcaadoor", sum := "b6b65931cbab1e9846aa5b9f05915a81a9352ed0b24255d4b1970163cfc8bbfa", func := "stopline/stoplinelaw14.CallNearest", spec := "callNearest", named := ["math/bits.deBruijn32tab"], apart := false, laid := [("math/bits.deBruijn32tab", laid_math_bits_deBruijn32tab)], narrowed := true }
def CallNearestUptoSaid : Prop := callNearestUptoRow.holds Tryd.pinned (OpenSpec.upto callNearestSpec)

/-- 'stoplinelaw13.EyeAll', WHERE WHAT IT READS IS OF BULK AT MOST 1048576: true; the input reads as it did. -/
def eyeAllUptoRow : OpenClaim := { program := "ytiacnaijablgcaadoor", sum := "b6b65931cbab1e9846aa5b9f05915a81a9352ed0b24255d4b1970163cfc8bbfa", func := "stopline/stoplinelaw13.EyeAll", spec := "eyeAll", named := ["math/bits.deBruijn32tab"], apart := false, laid := [("math/bits.deBruijn32tab", laid_math_bits_deBruijn32tab)], narrowed := true }
def EyeAllUptoSaid : Prop := eyeAllUptoRow.holds Tryd.pinned (OpenSpec.upto eyeAllSpec)

/-- 'stoplinelaw13.EyeNames', WHERE WHAT IT READS IS OF BULK AT MOST 1048576: true; the input reads as it did. -/
def eyeNamesUptoRow : OpenClaim := { program := "ytiacnaijablgcaadoor", sum := "b6b65931cbab1e9846aa5b9f05915a81a9352ed0b24255d4b1970163cfc8bbfa", func := "stopline/stoplinelaw13.EyeNames", spec := "eyeNames", named := ["math/bits.deBruijn32tab"], apart := false, laid := [("math/bits.deBruijn32tab", laid_math_bits_deBruijn32tab)], narrowed := true }
def EyeNamesUptoSaid : Prop := eyeNamesUptoRow.holds Tryd.pinned (OpenSpec.upto eyeNamesSpec)

/-- 'stoplinelaw13.EyeTicks', WHERE WHAT IT READS IS OF BULK AT MOST 1048576: true; the input reads as it did. -/
def eyeTicksUptoRow : OpenClaim := { program := "ytiacnaijablgcaadoor", sum := "b6b65931cbab1e9846aa5b9f05915a81a9352ed0b24255d4b1970163cfc8bbfa", func := "stopline/stoplinelaw13.EyeTicks", spec := "eyeTicks", named := ["math/bits.deBruijn32tab"], apart := false, laid := [("math/bits.deBruijn32tab", laid_math_bits_deBruijn32tab)], narrowed := true }
def EyeTicksUptoSaid : Prop := eyeTicksUptoRow.holds Tryd.pinned (OpenSpec.upto eyeTicksSpec)

end Rows
end Go.Proofs.YtiacnaijablgcaaDoor
