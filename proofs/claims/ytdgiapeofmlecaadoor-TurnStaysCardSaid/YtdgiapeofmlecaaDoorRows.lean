/-
  NARROWER THAN 'FOR EVERY INPUT', by the rows' own cells (each row's printed sentence says how): GateRuns: laid · GateAdmits: laid · GateTraces: laid · GateSafe: laid · GateLater: laid · GateNames: laid · TurnStays: laid · TurnEnds: laid · TurnNames: laid.
  DERIVED. THE GIVEN ROWS OF THIS SEAT. 9 by the template 'for every input the law returns true; each argument reads behind the call as it read before'; 0 by the template 'total and deterministic' (their statements: YtdgiapeofmlecaaDoorTotals.lean).
  GIVEN WITH THE SEED: the statements are not yours to turn. If you find one false, say at which input.
  Laid BY PROGRAM, IN A SANDBOX (cutbox-rows.mjs): the forced cells as the released guide's own fill.sh prints them over the translation 8c4332a944894b80… (all of the seat's roots in one cut). By AI agents, Wed Nov 11 2026. No macro, syntax, notation, axiom, sorry.
-/
import Derived.Test.YtdgiapeofmlecaaDoorChecked
import GoSem.Claim
import GoSem.ClaimJoined
import GoSem.ClaimMapViews
import Derived.JoinedTies
import Derived.KernelRfl
namespace Go.Proofs.YtdgiapeofmlecaaDoor
/- THE CELL 'sum', in the pinned program and in every row, IS THE sha256 OF THE DUMP (.gsa) THAT YtdgiapeofmlecaaDoorProg.lean LOADS. Nothing in Lean hashes anything: it is a label: what it is worth is what the hold of that sum in a sandbox is worth. -/
noncomputable def Tryd.pinned : Pinned := { name := "ytdgiapeofmlecaadoor", sum := "8c4332a944894b805bbec63b08fd635154d5806c41bdab9d72efb045ca69803e", checked := Tryd.checked }
namespace Rows
def none {H : Type} : Left H := { results := [], args := [] }

/- WHAT THE LISTED PACKAGE-LEVEL VARIABLES READ AS WHEN THE CALL BEGINS. Each datum BY PROGRAM (the guide's laid-datum.mjs) off the statement by which the dump's own 'gosem.cut.vars' lays the variable. In a bare row this is a premise. The card (YtdgiapeofmlecaaDoorCards.lean) ties it to the program's text. -/
def laid_math_bits_deBruijn32tab {H : Type} : DataW H := .agg [.lit (.int .u8 0), .lit (.int .u8 1), .lit (.int .u8 28), .lit (.int .u8 2), .lit (.int .u8 29), .lit (.int .u8 14), .lit (.int .u8 24), .lit (.int .u8 3), .lit (.int .u8 30), .lit (.int .u8 22), .lit (.int .u8 20), .lit (.int .u8 15), .lit (.int .u8 25), .lit (.int .u8 17), .lit (.int .u8 4), .lit (.int .u8 8), .lit (.int .u8 31), .lit (.int .u8 27), .lit (.int .u8 13), .lit (.int .u8 23), .lit (.int .u8 21), .lit (.int .u8 19), .lit (.int .u8 16), .lit (.int .u8 7), .lit (.int .u8 26), .lit (.int .u8 12), .lit (.int .u8 18), .lit (.int .u8 6), .lit (.int .u8 11), .lit (.int .u8 5), .lit (.int .u8 10), .lit (.int .u8 9)]

/-- 'stoplinelaw09.GateRuns': WHATEVER THE INPUT: true; the input reads as it did. -/
def gateRunsSpec : ChangeSpec := { name := "gateRuns", fn := fun _ => fun
  | [d1, d2] => { results := [.lit (.bool true)], args := [d1, d2] }
  | _ => none }
def gateRunsRow : OpenClaim := { program := "ytdgiapeofmlecaadoor", sum := "8c4332a944894b805bbec63b08fd635154d5806c41bdab9d72efb045ca69803e", func := "stopline/stoplinelaw09.GateRuns", spec := "gateRuns", unfollowed := true, recurses := true, named := ["math/bits.deBruijn32tab"], apart := false, laid := [("math/bits.deBruijn32tab", laid_math_bits_deBruijn32tab)] }
def GateRunsSaid : Prop := gateRunsRow.holds Tryd.pinned (OpenSpec.ofChange gateRunsSpec)

/-- ITS FALSE NEIGHBOUR: 'it returns false'. Refute it at one input. -/
def gateRunsWrong : ChangeSpec := { name := "gateRuns", fn := fun _ => fun
  | [d1, d2] => { results := [.lit (.bool false)], args := [d1, d2] }
  | _ => none }
def GateRunsWrongFalsely : Prop := gateRunsRow.holds Tryd.pinned (OpenSpec.ofChange gateRunsWrong)

/-- 'stoplinelaw09.GateAdmits': WHATEVER THE INPUT: true; the input reads as it did. -/
def gateAdmitsSpec : ChangeSpec := { name := "gateAdmits", fn := fun _ => fun
  | [d1, d2, d3, d4] => { results := [.lit (.bool true)], args := [d1, d2, d3, d4] }
  | _ => none }
def gateAdmitsRow : OpenClaim := { program := "ytdgiapeofmlecaadoor", sum := "8c4332a944894b805bbec63b08fd635154d5806c41bdab9d72efb045ca69803e", func := "stopline/stoplinelaw09.GateAdmits", spec := "gateAdmits", unfollowed := true, recurses := true, named := ["math/bits.deBruijn32tab"], apart := false, laid := [("math/bits.deBruijn32tab", laid_math_bits_deBruijn32tab)] }
def GateAdmitsSaid : Prop := gateAdmitsRow.holds Tryd.pinned (OpenSpec.ofChange gateAdmitsSpec)

/-- ITS FALSE NEIGHBOUR: 'it returns false'. Refute it at one input. -/
def gateAdmitsWrong : ChangeSpec := { name := "gateAdmits", fn := fun _ => fun
  | [d1, d2, d3, d4] => { results := [.lit (.bool false)], args := [d1, d2, d3, d4] }
  | _ => none }
def GateAdmitsWrongFalsely : Prop := gateAdmitsRow.holds Tryd.pinned (OpenSpec.ofChange gateAdmitsWrong)

/-- 'stoplinelaw09.GateTraces': WHATEVER THE INPUT: true; the input reads as it did. -/
def gateTracesSpec : ChangeSpec := { name := "gateTraces", fn := fun _ => fun
  | [d1, d2] => { results := [.lit (.bool true)], args := [d1, d2] }
  | _ => none }
def gateTracesRow : OpenClaim := { program := "ytdgiapeofmlecaadoor", sum := "8c4332a944894b805bbec63b08fd635154d5806c41bdab9d72efb045ca69803e", func := "stopline/stoplinelaw09.GateTraces", spec := "gateTraces", unfollowed := true, recurses := true, named := ["math/bits.deBruijn32tab"], apart := false, laid := [("math/bits.deBruijn32tab", laid_math_bits_deBruijn32tab)] }
def GateTracesSaid : Prop := gateTracesRow.holds Tryd.pinned (OpenSpec.ofChange gateTracesSpec)

/-- ITS FALSE NEIGHBOUR: 'it returns false'. Refute it at one input. -/
def gateTracesWrong : ChangeSpec := { name := "gateTraces", fn := fun _ => fun
  | [d1, d2] => { results := [.lit (.bool false)], args := [d1, d2] }
  | _ => none }
def GateTracesWrongFalsely : Prop := gateTracesRow.holds Tryd.pinned (OpenSpec.ofChange gateTracesWrong)

/-- 'stoplinelaw09.GateSafe': WHATEVER THE INPUT: true; the input reads as it did. -/
def gateSafeSpec : ChangeSpec := { name := "gateSafe", fn := fun _ => fun
  | [d1, d2, d3] => { results := [.lit (.bool true)], args := [d1, d2, d3] }
  | _ => none }
def gateSafeRow : OpenClaim := { program := "ytdgiapeofmlecaadoor", sum := "8c4332a944894b805bbec63b08fd635154d5806c41bdab9d72efb045ca69803e", func := "stopline/stoplinelaw09.GateSafe", spec := "gateSafe", unfollowed := true, recurses := true, named := ["math/bits.deBruijn32tab"], apart := false, laid := [("math/bits.deBruijn32tab", laid_math_bits_deBruijn32tab)] }
def GateSafeSaid : Prop := gateSafeRow.holds Tryd.pinned (OpenSpec.ofChange gateSafeSpec)

/-- ITS FALSE NEIGHBOUR: 'it returns false'. Refute it at one input. -/
def gateSafeWrong : ChangeSpec := { name := "gateSafe", fn := fun _ => fun
  | [d1, d2, d3] => { results := [.lit (.bool false)], args := [d1, d2, d3] }
  | _ => none }
def GateSafeWrongFalsely : Prop := gateSafeRow.holds Tryd.pinned (OpenSpec.ofChange gateSafeWrong)

/-- 'stoplinelaw09.GateLater': WHATEVER THE INPUT: true; the input reads as it did. -/
def gateLaterSpec : ChangeSpec := { name := "gateLater", fn := fun _ => fun
  | [d1, d2, d3, d4, d5] => { results := [.lit (.bool true)], args := [d1, d2, d3, d4, d5] }
  | _ => none }
def gateLaterRow : OpenClaim := { program := "ytdgiapeofmlecaadoor", sum := "8c4332a944894b805bbec63b08fd635154d5806c41bdab9d72efb045ca69803e", func := "stopline/stoplinelaw09.GateLater", spec := "gateLater", unfollowed := true, recurses := true, named := ["math/bits.deBruijn32tab"], apart := false, laid := [("math/bits.deBruijn32tab", laid_math_bits_deBruijn32tab)] }
def GateLaterSaid : Prop := gateLaterRow.holds Tryd.pinned (OpenSpec.ofChange gateLaterSpec)

/-- ITS FALSE NEIGHBOUR: 'it returns false'. Refute it at one input. -/
def gateLaterWrong : ChangeSpec := { name := "gateLater", fn := fun _ => fun
  | [d1, d2, d3, d4, d5] => { results := [.lit (.bool false)], args := [d1, d2, d3, d4, d5] }
  | _ => none }
def GateLaterWrongFalsely : Prop := gateLaterRow.holds Tryd.pinned (OpenSpec.ofChange gateLaterWrong)

/-- 'stoplinelaw09.GateNames': WHATEVER THE INPUT: true; the input reads as it did. -/
def gateNamesSpec : ChangeSpec := { name := "gateNames", fn := fun _ => fun
  | [] => { results := [.lit (.bool true)], args := [] }
  | _ => none }
def gateNamesRow : OpenClaim := { program := "ytdgiapeofmlecaadoor", sum := "8c4332a944894b805bbec63b08fd635154d5806c41bdab9d72efb045ca69803e", func := "stopline/stoplinelaw09.GateNames", spec := "gateNames", unfollowed := true, recurses := true, named := ["math/bits.deBruijn32tab"], apart := false, laid := [("math/bits.deBruijn32tab", laid_math_bits_deBruijn32tab)] }
def GateNamesSaid : Prop := gateNamesRow.holds Tryd.pinned (OpenSpec.ofChange gateNamesSpec)

/-- ITS FALSE NEIGHBOUR: 'it returns false'. Refute it at one input. -/
def gateNamesWrong : ChangeSpec := { name := "gateNames", fn := fun _ => fun
  | [] => { results := [.lit (.bool false)], args := [] }
  | _ => none }
def GateNamesWrongFalsely : Prop := gateNamesRow.holds Tryd.pinned (OpenSpec.ofChange gateNamesWrong)

/-- 'stoplinelaw15.TurnStays': WHATEVER THE INPUT: true; the input reads as it did. -/
def turnStaysSpec : ChangeSpec := { name := "turnStays", fn := fun _ => fun
  | [d1, d2, d3, d4] => { results := [.lit (.bool true)], args := [d1, d2, d3, d4] }
  | _ => none }
def turnStaysRow : OpenClaim := { program := "ytdgiapeofmlecaadoor", sum := "8c4332a944894b805bbec63b08fd635154d5806c41bdab9d72efb045ca69803e", func := "stopline/stoplinelaw15.TurnStays", spec := "turnStays", unfollowed := true, recurses := true, named := ["math/bits.deBruijn32tab"], apart := false, laid := [("math/bits.deBruijn32tab", laid_math_bits_deBruijn32tab)] }
def TurnStaysSaid : Prop := turnStaysRow.holds Tryd.pinned (OpenSpec.ofChange turnStaysSpec)

/-- ITS FALSE NEIGHBOUR: 'it returns false'. Refute it at one input. -/
def turnStaysWrong : ChangeSpec := { name := "turnStays", fn := fun _ => fun
  | [d1, d2, d3, d4] => { results := [.lit (.bool false)], args := [d1, d2, d3, d4] }
  | _ => none }
def TurnStaysWrongFalsely : Prop := turnStaysRow.holds Tryd.pinned (OpenSpec.ofChange turnStaysWrong)

/-- 'stoplinelaw15.TurnEnds': WHATEVER THE INPUT: true; the input reads as it did. -/
def turnEndsSpec : ChangeSpec := { name := "turnEnds", fn := fun _ => fun
  | [d1, d2, d3] => { results := [.lit (.bool true)], args := [d1, d2, d3] }
  | _ => none }
def turnEndsRow : OpenClaim := { program := "ytdgiapeofmlecaadoor", sum := "8c4332a944894b805bbec63b08fd635154d5806c41bdab9d72efb045ca69803e", func := "stopline/stoplinelaw15.TurnEnds", spec := "turnEnds", unfollowed := true, recurses := true, named := ["math/bits.deBruijn32tab"], apart := false, laid := [("math/bits.deBruijn32tab", laid_math_bits_deBruijn32tab)] }
def TurnEndsSaid : Prop := turnEndsRow.holds Tryd.pinned (OpenSpec.ofChange turnEndsSpec)

/-- ITS FALSE NEIGHBOUR: 'it returns false'. Refute it at one input. -/
def turnEndsWrong : ChangeSpec := { name := "turnEnds", fn := fun _ => fun
  | [d1, d2, d3] => { results := [.lit (.bool false)], args := [d1, d2, d3] }
  | _ => none }
def TurnEndsWrongFalsely : Prop := turnEndsRow.holds Tryd.pinned (OpenSpec.ofChange turnEndsWrong)

/-- 'stoplinelaw15.TurnNames': WHATEVER THE INPUT: true; the input reads as it did. -/
def turnNamesSpec : ChangeSpec := { name := "turnNames", fn := fun _ => fun
  | [] => { results := [.lit (.bool true)], args := [] }
  | _ => none }
def turnNamesRow : OpenClaim := { program := "ytdgiapeofmlecaadoor", sum := "8c4332a944894b805bbec63b08fd635154d5806c41bdab9d72efb045ca69803e", func := "stopline/stoplinelaw15.TurnNames", spec := "turnNames", unfollowed := true, recurses := true, named := ["math/bits.deBruijn32tab"], apart := false, laid := [("math/bits.deBruijn32tab", laid_math_bits_deBruijn32tab)] }
def TurnNamesSaid : Prop := turnNamesRow.holds Tryd.pinned (OpenSpec.ofChange turnNamesSpec)

/-- ITS FALSE NEIGHBOUR: 'it returns false'. Refute it at one input. -/
def turnNamesWrong : ChangeSpec := { name := "turnNames", fn := fun _ => fun
  | [] => { results := [.lit (.bool false)], args := [] }
  | _ => none }
def TurnNamesWrongFalsely : Prop := turnNamesRow.holds Tryd.pinned (OpenSpec.ofChange turnNamesWrong)

/- THE SECOND FORM. 'bulk': how many values and letters a reading holds, each counted each time it is reached (what is shared counts as often as it is met; a slice's spare places count too). A statement '..UptoSaid' is the law's where the arguments, and the package variables that the reading takes, are together of bulk at most 1048576: NARROWER than '..Said'. Prove '..Said' where nothing that the law and all that it calls make is longer than what came in: it says more and counts as full. Else prove '..UptoSaid'. A law counts once. -/
mutual
def uptoBulk {H : Type} : DataW H → Nat
  | .lit (.string bytes) => bytes.length + 1
  | .lit _ => 1
  | .nil => 1
  | .ptr d => uptoBulk d + 1
  | .slice elems spare => uptoBulkAll elems + uptoBulkAll spare + 1
  | .agg parts => uptoBulkAll parts + 1
  | .iface _ d => uptoBulk d + 1
  | .map entries => uptoBulkEntries entries + 1
  | .held _ => 1
def uptoBulkAll {H : Type} : List (DataW H) → Nat
  | [] => 0
  | d :: r => uptoBulk d + uptoBulkAll r
def uptoBulkEntries {H : Type} : List (Lit × DataW H) → Nat
  | [] => 0
  | x :: r => uptoBulkEntry x + uptoBulkEntries r
def uptoBulkEntry {H : Type} : Lit × DataW H → Nat
  | (.string bytes, d) => bytes.length + uptoBulk d + 1
  | (_, d) => uptoBulk d + 1
 end
def uptoSmall : (H : Type) → List (DataW H) → Bool := fun _ ds => decide (uptoBulkAll ds ≤ 1048576)
def OpenSpec.upto (s : _root_.Go.ChangeSpec) : _root_.Go.OpenSpec := { _root_.Go.OpenSpec.ofChange s with cond := some uptoSmall }

/-- 'stoplinelaw09.GateRuns', WHERE WHAT IT READS IS OF BULK AT MOST 1048576: true; the input reads as it did. -/
def gateRunsUptoRow : OpenClaim := { program := "ytdgiapeofmlecaadoor", sum := "8c4332a944894b805bbec63b08fd635154d5806c41bdab9d72efb045ca69803e", func := "stopline/stoplinelaw09.GateRuns", spec := "gateRuns", unfollowed := true, recurses := true, named := ["math/bits.deBruijn32tab"], apart := false, laid := [("math/bits.deBruijn32tab", laid_math_bits_deBruijn32tab)], narrowed := true }
def GateRunsUptoSaid : Prop := gateRunsUptoRow.holds Tryd.pinned (OpenSpec.upto gateRunsSpec)

/-- 'stoplinelaw09.GateAdmits', WHERE WHAT IT READS IS OF BULK AT MOST 1048576: true; the input reads as it did. -/
def gateAdmitsUptoRow : OpenClaim := { program := "ytdgiapeofmlecaadoor", sum := "8c4332a944894b805bbec63b08fd635154d5806c41bdab9d72efb045ca69803e", func := "stopline/stoplinelaw09.GateAdmits", spec := "gateAdmits", unfollowed := true, recurses := true, named := ["math/bits.deBruijn32tab"], apart := false, laid := [("math/bits.deBruijn32tab", laid_math_bits_deBruijn32tab)], narrowed := true }
def GateAdmitsUptoSaid : Prop := gateAdmitsUptoRow.holds Tryd.pinned (OpenSpec.upto gateAdmitsSpec)

/-- 'stoplinelaw09.GateTraces', WHERE WHAT IT READS IS OF BULK AT MOST 1048576: true; the input reads as it did. -/
def gateTracesUptoRow : OpenClaim := { program := "ytdgiapeofmlecaadoor", sum := "8c4332a944894b805bbec63b08fd635154d5806c41bdab9d72efb045ca69803e", func := "stopline/stoplinelaw09.GateTraces", spec := "gateTraces", unfollowed := true, recurses := true, named := ["math/bits.deBruijn32tab"], apart := false, laid := [("math/bits.deBruijn32tab", laid_math_bits_deBruijn32tab)], narrowed := true }
def GateTracesUptoSaid : Prop := gateTracesUptoRow.holds Tryd.pinned (OpenSpec.upto gateTracesSpec)

/-- 'stoplinelaw09.GateSafe', WHERE WHAT IT READS IS OF BULK AT MOST 1048576: true; the input reads as it did. -/
def gateSafeUptoRow : OpenClaim := { program := "ytdgiapeofmlecaadoor", sum := "8c4332a944894b805bbec63b08fd635154d5806c41bdab9d72efb045ca69803e", func := "stopline/stoplinelaw09.GateSafe", spec := "gateSafe", unfollowed := true, recurses := true, named := ["math/bits.deBruijn32tab"], apart := false, laid := [("math/bits.deBruijn32tab", laid_math_bits_deBruijn32tab)], narrowed := true }
def GateSafeUptoSaid : Prop := gateSafeUptoRow.holds Tryd.pinned (OpenSpec.upto gateSafeSpec)

/-- 'stoplinelaw09.GateLater', WHERE WHAT IT READS IS OF BULK AT MOST 1048576: true; the input reads as it did. -/
def gateLaterUptoRow : OpenClaim := { program := "ytdgiapeofmlecaadoor", sum := "8c4332a944894b805bbec63b08fd635154d5806c41bdab9d72efb045ca69803e", func := "stopline/stoplinelaw09.GateLater", spec := "gateLater", unfollowed := true, recurses := true, named := ["math/bits.deBruijn32tab"], apart := false, laid := [("math/bits.deBruijn32tab", laid_math_bits_deBruijn32tab)], narrowed := true }
def GateLaterUptoSaid : Prop := gateLaterUptoRow.holds Tryd.pinned (OpenSpec.upto gateLaterSpec)

/-- 'stoplinelaw09.GateNames', WHERE WHAT IT READS IS OF BULK AT MOST 1048576: true; the input reads as it did. -/
def gateNamesUptoRow : OpenClaim := { program := "ytdgiapeofmlecaadoor", sum := "8c4332a944894b805bbec63b08fd635154d5806c41bdab9d72efb045ca69803e", func := "stopline/stoplinelaw09.GateNames", spec := "gateNames", unfollowed := true, recurses := true, named := ["math/bits.deBruijn32tab"], apart := false, laid := [("math/bits.deBruijn32tab", laid_math_bits_deBruijn32tab)], narrowed := true }
def GateNamesUptoSaid : Prop := gateNamesUptoRow.holds Tryd.pinned (OpenSpec.upto gateNamesSpec)

/-- 'stoplinelaw15.TurnStays', WHERE WHAT IT READS IS OF BULK AT MOST 1048576: true; the input reads as it did. -/
def turnStaysUptoRow : OpenClaim := { program := "ytdgiapeofmlecaadoor", sum := "8c4332a944894b805bbec63b08fd635154d5806c41bdab9d72efb045ca69803e", func := "stopline/stoplinelaw15.TurnStays", spec := "turnStays", unfollowed := true, recurses := true, named := ["math/bits.deBruijn32tab"], apart := false, laid := [("math/bits.deBruijn32tab", laid_math_bits_deBruijn32tab)], narrowed := true }
def TurnStaysUptoSaid : Prop := turnStaysUptoRow.holds Tryd.pinned (OpenSpec.upto turnStaysSpec)

/-- 'stoplinelaw15.TurnEnds', WHERE WHAT IT READS IS OF BULK AT MOST 1048576: true; the input reads as it did. -/
def turnEndsUptoRow : OpenClaim := { program := "ytdgiapeofmlecaadoor", sum := "8c4332a944894b805bbec63b08fd635154d5806c41bdab9d72efb045ca69803e", func := "stopline/stoplinelaw15.TurnEnds", spec := "turnEnds", unfollowed := true, recurses := true, named := ["math/bits.deBruijn32tab"], apart := false, laid := [("math/bits.deBruijn32tab", laid_math_bits_deBruijn32tab)], narrowed := true }
def TurnEndsUptoSaid : Prop := turnEndsUptoRow.holds Tryd.pinned (OpenSpec.upto turnEndsSpec)

/-- 'stoplinelaw15.TurnNames', WHERE WHAT IT READS IS OF BULK AT MOST 1048576: true; the input reads as it did. -/
def turnNamesUptoRow : OpenClaim := { program := "ytdgiapeofmlecaadoor", sum := "8c4332a944894b805bbec63b08fd635154d5806c41bdab9d72efb045ca69803e", func := "stopline/stoplinelaw15.TurnNames", spec := "turnNames", unfollowed := true, recurses := true, named := ["math/bits.deBruijn32tab"], apart := false, laid := [("math/bits.deBruijn32tab", laid_math_bits_deBruijn32tab)], narrowed := true }
def TurnNamesUptoSaid : Prop := turnNamesUptoRow.holds Tryd.pinned (OpenSpec.upto turnNamesSpec)

end Rows
end Go.Proofs.YtdgiapeofmlecaaDoor
