/-
  NARROWER THAN 'FOR EVERY INPUT', by the rows' own cells (each row's printed sentence says how): SeqNames: laid · SeqGoes: laid · SeqKeeps: laid · SeqServes: laid · PlanLocks: laid.
  DERIVED. THE GIVEN ROWS OF THIS SEAT. 5 by the template 'for every input the law returns true; each argument reads behind the call as it read before'; 0 by the template 'total and deterministic' (their statements: YtlddjfgbepbmdaaDoorTotals.lean).
  GIVEN WITH THE SEED: the statements are not yours to turn. If you find one false, say at which input.
  Laid BY PROGRAM, IN A SANDBOX (cutbox-rows.mjs): the forced cells as the released guide's own fill.sh prints them over the translation 273e4ab52187150b… (all of the seat's roots in one cut). By AI agents, Wed Nov 11 2026. No macro, syntax, notation, axiom, sorry.
-/
import Derived.Test.YtlddjfgbepbmdaaDoorChecked
import GoSem.Claim
import GoSem.ClaimJoined
import GoSem.ClaimMapViews
import Derived.JoinedTies
import Derived.KernelRfl
namespace Go.Proofs.YtlddjfgbepbmdaaDoor
/- THE CELL 'sum', in the pinned program and in every row, IS THE sha256 OF THE DUMP (.gsa) THAT YtlddjfgbepbmdaaDoorProg.lean LOADS. Nothing in Lean hashes anything: it is a label: what it is worth is what the hold of that sum in a sandbox is worth. -/
noncomputable def Tryd.pinned : Pinned := { name := "ytlddjfgbepbmdaadoor", sum := "273e4ab52187150b9137f414f47f88928cc96932e1df130f732133599c57d521", checked := Tryd.checked }
namespace Rows
def none {H : Type} : Left H := { results := [], args := [] }

/- WHAT THE LISTED PACKAGE-LEVEL VARIABLES READ AS WHEN THE CALL BEGINS. Each datum BY PROGRAM (the guide's laid-datum.mjs) off the statement by which the dump's own 'gosem.cut.vars' lays the variable. In a bare row this is a premise. The card (YtlddjfgbepbmdaaDoorCards.lean) ties it to the program's text. -/
def laid_math_bits_deBruijn32tab {H : Type} : DataW H := .agg [.lit (.int .u8 0), .lit (.int .u8 1), .lit (.int .u8 28), .lit (.int .u8 2), .lit (.int .u8 29), .lit (.int .u8 14), .lit (.int .u8 24), .lit (.int .u8 3), .lit (.int .u8 30), .lit (.int .u8 22), .lit (.int .u8 20), .lit (.int .u8 15), .lit (.int .u8 25), .lit (.int .u8 17), .lit (.int .u8 4), .lit (.int .u8 8), .lit (.int .u8 31), .lit (.int .u8 27), .lit (.int .u8 13), .lit (.int .u8 23), .lit (.int .u8 21), .lit (.int .u8 19), .lit (.int .u8 16), .lit (.int .u8 7), .lit (.int .u8 26), .lit (.int .u8 12), .lit (.int .u8 18), .lit (.int .u8 6), .lit (.int .u8 11), .lit (.int .u8 5), .lit (.int .u8 10), .lit (.int .u8 9)]
def laid_math_bits_deBruijn64tab {H : Type} : DataW H := .agg [.lit (.int .u8 0), .lit (.int .u8 1), .lit (.int .u8 56), .lit (.int .u8 2), .lit (.int .u8 57), .lit (.int .u8 49), .lit (.int .u8 28), .lit (.int .u8 3), .lit (.int .u8 61), .lit (.int .u8 58), .lit (.int .u8 42), .lit (.int .u8 50), .lit (.int .u8 38), .lit (.int .u8 29), .lit (.int .u8 17), .lit (.int .u8 4), .lit (.int .u8 62), .lit (.int .u8 47), .lit (.int .u8 59), .lit (.int .u8 36), .lit (.int .u8 45), .lit (.int .u8 43), .lit (.int .u8 51), .lit (.int .u8 22), .lit (.int .u8 53), .lit (.int .u8 39), .lit (.int .u8 33), .lit (.int .u8 30), .lit (.int .u8 24), .lit (.int .u8 18), .lit (.int .u8 12), .lit (.int .u8 5), .lit (.int .u8 63), .lit (.int .u8 55), .lit (.int .u8 48), .lit (.int .u8 27), .lit (.int .u8 60), .lit (.int .u8 41), .lit (.int .u8 37), .lit (.int .u8 16), .lit (.int .u8 46), .lit (.int .u8 35), .lit (.int .u8 44), .lit (.int .u8 21), .lit (.int .u8 52), .lit (.int .u8 32), .lit (.int .u8 23), .lit (.int .u8 11), .lit (.int .u8 54), .lit (.int .u8 26), .lit (.int .u8 40), .lit (.int .u8 15), .lit (.int .u8 34), .lit (.int .u8 20), .lit (.int .u8 31), .lit (.int .u8 10), .lit (.int .u8 25), .lit (.int .u8 14), .lit (.int .u8 19), .lit (.int .u8 9), .lit (.int .u8 13), .lit (.int .u8 8), .lit (.int .u8 7), .lit (.int .u8 6)]

/-- 'stoplinelaw16.SeqNames': WHATEVER THE INPUT: true; the input reads as it did. -/
def seqNamesSpec : ChangeSpec := { name := "seqNames", fn := fun _ => fun
  | [] => { results := [.lit (.bool true)], args := [] }
  | _ => none }
def seqNamesRow : OpenClaim := { program := "ytlddjfgbepbmdaadoor", sum := "273e4ab52187150b9137f414f47f88928cc96932e1df130f732133599c57d521", func := "stopline/stoplinelaw16.SeqNames", spec := "seqNames", unfollowed := true, recurses := true, named := ["math/bits.deBruijn32tab", "math/bits.deBruijn64tab"], apart := false, laid := [("math/bits.deBruijn32tab", laid_math_bits_deBruijn32tab), ("math/bits.deBruijn64tab", laid_math_bits_deBruijn64tab)] }
def SeqNamesSaid : Prop := seqNamesRow.holds Tryd.pinned (OpenSpec.ofChange seqNamesSpec)

/-- ITS FALSE NEIGHBOUR: 'it returns false'. Refute it at one input. -/
def seqNamesWrong : ChangeSpec := { name := "seqNames", fn := fun _ => fun
  | [] => { results := [.lit (.bool false)], args := [] }
  | _ => none }
def SeqNamesWrongFalsely : Prop := seqNamesRow.holds Tryd.pinned (OpenSpec.ofChange seqNamesWrong)

/-- 'stoplinelaw16.SeqGoes': WHATEVER THE INPUT: true; the input reads as it did. -/
def seqGoesSpec : ChangeSpec := { name := "seqGoes", fn := fun _ => fun
  | [d1, d2, d3, d4, d5] => { results := [.lit (.bool true)], args := [d1, d2, d3, d4, d5] }
  | _ => none }
def seqGoesRow : OpenClaim := { program := "ytlddjfgbepbmdaadoor", sum := "273e4ab52187150b9137f414f47f88928cc96932e1df130f732133599c57d521", func := "stopline/stoplinelaw16.SeqGoes", spec := "seqGoes", unfollowed := true, recurses := true, named := ["math/bits.deBruijn32tab", "math/bits.deBruijn64tab"], apart := false, laid := [("math/bits.deBruijn32tab", laid_math_bits_deBruijn32tab), ("math/bits.deBruijn64tab", laid_math_bits_deBruijn64tab)] }
def SeqGoesSaid : Prop := seqGoesRow.holds Tryd.pinned (OpenSpec.ofChange seqGoesSpec)

/-- ITS FALSE NEIGHBOUR: 'it returns false'. Refute it at one input. -/
def seqGoesWrong : ChangeSpec := { name := "seqGoes", fn := fun _ => fun
  | [d1, d2, d3, d4, d5] => { results := [.lit (.bool false)], args := [d1, d2, d3, d4, d5] }
  | _ => none }
def SeqGoesWrongFalsely : Prop := seqGoesRow.holds Tryd.pinned (OpenSpec.ofChange seqGoesWrong)

/-- 'stoplinelaw16.SeqKeeps': WHATEVER THE INPUT: true; the input reads as it did. -/
def seqKeepsSpec : ChangeSpec := { name := "seqKeeps", fn := fun _ => fun
  | [d1, d2, d3, d4] => { results := [.lit (.bool true)], args := [d1, d2, d3, d4] }
  | _ => none }
def seqKeepsRow : OpenClaim := { program := "ytlddjfgbepbmdaadoor", sum := "273e4ab52187150b9137f414f47f88928cc96932e1df130f732133599c57d521", func := "stopline/stoplinelaw16.SeqKeeps", spec := "seqKeeps", unfollowed := true, recurses := true, named := ["math/bits.deBruijn32tab", "math/bits.deBruijn64tab"], apart := false, laid := [("math/bits.deBruijn32tab", laid_math_bits_deBruijn32tab), ("math/bits.deBruijn64tab", laid_math_bits_deBruijn64tab)] }
def SeqKeepsSaid : Prop := seqKeepsRow.holds Tryd.pinned (OpenSpec.ofChange seqKeepsSpec)

/-- ITS FALSE NEIGHBOUR: 'it returns false'. Refute it at one input. -/
def seqKeepsWrong : ChangeSpec := { name := "seqKeeps", fn := fun _ => fun
  | [d1, d2, d3, d4] => { results := [.lit (.bool false)], args := [d1, d2, d3, d4] }
  | _ => none }
def SeqKeepsWrongFalsely : Prop := seqKeepsRow.holds Tryd.pinned (OpenSpec.ofChange seqKeepsWrong)

/-- 'stoplinelaw16.SeqServes': WHATEVER THE INPUT: true; the input reads as it did. -/
def seqServesSpec : ChangeSpec := { name := "seqServes", fn := fun _ => fun
  | [d1, d2, d3, d4, d5, d6] => { results := [.lit (.bool true)], args := [d1, d2, d3, d4, d5, d6] }
  | _ => none }
def seqServesRow : OpenClaim := { program := "ytlddjfgbepbmdaadoor", sum := "273e4ab52187150b9137f414f47f88928cc96932e1df130f732133599c57d521", func := "stopline/stoplinelaw16.SeqServes", spec := "seqServes", unfollowed := true, recurses := true, named := ["math/bits.deBruijn32tab", "math/bits.deBruijn64tab"], apart := false, laid := [("math/bits.deBruijn32tab", laid_math_bits_deBruijn32tab), ("math/bits.deBruijn64tab", laid_math_bits_deBruijn64tab)] }
def SeqServesSaid : Prop := seqServesRow.holds Tryd.pinned (OpenSpec.ofChange seqServesSpec)

/-- ITS FALSE NEIGHBOUR: 'it returns false'. Refute it at one input. -/
def seqServesWrong : ChangeSpec := { name := "seqServes", fn := fun _ => fun
  | [d1, d2, d3, d4, d5, d6] => { results := [.lit (.bool false)], args := [d1, d2, d3, d4, d5, d6] }
  | _ => none }
def SeqServesWrongFalsely : Prop := seqServesRow.holds Tryd.pinned (OpenSpec.ofChange seqServesWrong)

/-- 'stoplinelaw17.PlanLocks': WHATEVER THE INPUT: true; the input reads as it did. -/
def planLocksSpec : ChangeSpec := { name := "planLocks", fn := fun _ => fun
  | [d1, d2] => { results := [.lit (.bool true)], args := [d1, d2] }
  | _ => none }
def planLocksRow : OpenClaim := { program := "ytlddjfgbepbmdaadoor", sum := "273e4ab52187150b9137f414f47f88928cc96932e1df130f732133599c57d521", func := "stopline/stoplinelaw17.PlanLocks", spec := "planLocks", unfollowed := true, recurses := true, named := ["math/bits.deBruijn32tab"], apart := false, laid := [("math/bits.deBruijn32tab", laid_math_bits_deBruijn32tab)] }
def PlanLocksSaid : Prop := planLocksRow.holds Tryd.pinned (OpenSpec.ofChange planLocksSpec)

/-- ITS FALSE NEIGHBOUR: 'it returns false'. Refute it at one input. -/
def planLocksWrong : ChangeSpec := { name := "planLocks", fn := fun _ => fun
  | [d1, d2] => { results := [.lit (.bool false)], args := [d1, d2] }
  | _ => none }
def PlanLocksWrongFalsely : Prop := planLocksRow.holds Tryd.pinned (OpenSpec.ofChange planLocksWrong)

/- THE SECOND FORM. 'bulk': how many values and letters a reading holds, each counted each time it is reached (what is shared counts as often as it is met; a slice's spare places count too). A statement '..UptoSaid' is the law's where the arguments, and the package variables that the reading takes, are together of bulk at most 1048576: NARROWER than '..Said'. Prove '..Said' where nothing that the law and all that it calls make is longer than what came in: it says more and counts as full. Else prove '..UptoSaid'. A law counts once. -/
mutual
def uptoBulk {H : Type} : DataW H → Nat
  | .lit (.string bytes) => bytes.length + 1
  | .lit _ => 1
  | .nil => 1
  | .ptr d => uptoBulk d + 1
  | .slice elems spare => uptoBulkAll elems + uptoBulkAll spare + 1
  | .agg parts => uptoBulkAll parts + 1
  | .iface _ d => uptoBulk d + 1
  | .map entries => uptoBulkEntries entries + 1
  | .held _ => 1
def uptoBulkAll {H : Type} : List (DataW H) → Nat
  | [] => 0
  | d :: r => uptoBulk d + uptoBulkAll r
def uptoBulkEntries {H : Type} : List (Lit × DataW H) → Nat
  | [] => 0
  | x :: r => uptoBulkEntry x + uptoBulkEntries r
def uptoBulkEntry {H : Type} : Lit × DataW H → Nat
  | (.string bytes, d) => bytes.length + uptoBulk d + 1
  | (_, d) => uptoBulk d + 1
 end
def uptoSmall : (H : Type) → List (DataW H) → Bool := fun _ ds => decide (uptoBulkAll ds ≤ 1048576)
def OpenSpec.upto (s : _root_.Go.ChangeSpec) : _root_.Go.OpenSpec := { _root_.Go.OpenSpec.ofChange s with cond := some uptoSmall }

/-- 'stoplinelaw16.SeqNames', WHERE WHAT IT READS IS OF BULK AT MOST 1048576: true; the input reads as it did. -/
def seqNamesUptoRow : OpenClaim := { program := "ytlddjfgbepbmdaadoor", sum := "273e4ab52187150b9137f414f47f88928cc96932e1df130f732133599c57d521", func := "stopline/stoplinelaw16.SeqNames", spec := "seqNames", unfollowed := true, recurses := true, named := ["math/bits.deBruijn32tab", "math/bits.deBruijn64tab"], apart := false, laid := [("math/bits.deBruijn32tab", laid_math_bits_deBruijn32tab), ("math/bits.deBruijn64tab", laid_math_bits_deBruijn64tab)], narrowed := true }
def SeqNamesUptoSaid : Prop := seqNamesUptoRow.holds Tryd.pinned (OpenSpec.upto seqNamesSpec)

/-- 'stoplinelaw16.SeqGoes', WHERE WHAT IT READS IS OF BULK AT MOST 1048576: true; the input reads as it did. -/
def seqGoesUptoRow : OpenClaim := { program := "ytlddjfgbepbmdaadoor", sum := "273e4ab52187150b9137f414f47f88928cc96932e1df130f732133599c57d521", func := "stopline/stoplinelaw16.SeqGoes", spec := "seqGoes", unfollowed := true, recurses := true, named := ["math/bits.deBruijn32tab", "math/bits.deBruijn64tab"], apart := false, laid := [("math/bits.deBruijn32tab", laid_math_bits_deBruijn32tab), ("math/bits.deBruijn64tab", laid_math_bits_deBruijn64tab)], narrowed := true }
def SeqGoesUptoSaid : Prop := seqGoesUptoRow.holds Tryd.pinned (OpenSpec.upto seqGoesSpec)

/-- 'stoplinelaw16.SeqKeeps', WHERE WHAT IT READS IS OF BULK AT MOST 1048576: true; the input reads as it did. -/
def seqKeepsUptoRow : OpenClaim := { program := "ytlddjfgbepbmdaadoor", sum := "273e4ab52187150b9137f414f47f88928cc96932e1df130f732133599c57d521", func := "stopline/stoplinelaw16.SeqKeeps", spec := "seqKeeps", unfollowed := true, recurses := true, named := ["math/bits.deBruijn32tab", "math/bits.deBruijn64tab"], apart := false, laid := [("math/bits.deBruijn32tab", laid_math_bits_deBruijn32tab), ("math/bits.deBruijn64tab", laid_math_bits_deBruijn64tab)], narrowed := true }
def SeqKeepsUptoSaid : Prop := seqKeepsUptoRow.holds Tryd.pinned (OpenSpec.upto seqKeepsSpec)

/-- 'stoplinelaw16.SeqServes', WHERE WHAT IT READS IS OF BULK AT MOST 1048576: true; the input reads as it did. -/
def seqServesUptoRow : OpenClaim := { program := "ytlddjfgbepbmdaadoor", sum := "273e4ab52187150b9137f414f47f88928cc96932e1df130f732133599c57d521", func := "stopline/stoplinelaw16.SeqServes", spec := "seqServes", unfollowed := true, recurses := true, named := ["math/bits.deBruijn32tab", "math/bits.deBruijn64tab"], apart := false, laid := [("math/bits.deBruijn32tab", laid_math_bits_deBruijn32tab), ("math/bits.deBruijn64tab", laid_math_bits_deBruijn64tab)], narrowed := true }
def SeqServesUptoSaid : Prop := seqServesUptoRow.holds Tryd.pinned (OpenSpec.upto seqServesSpec)

/-- 'stoplinelaw17.PlanLocks', WHERE WHAT IT READS IS OF BULK AT MOST 1048576: true; the input reads as it did. -/
def planLocksUptoRow : OpenClaim := { program := "ytlddjfgbepbmdaadoor", sum := "273e4ab52187150b9137f414f47f88928cc96932e1df130f732133599c57d521", func := "stopline/stoplinelaw17.PlanLocks", spec := "planLocks", unfollowed := true, recurses := true, named := ["math/bits.deBruijn32tab"], apart := false, laid := [("math/bits.deBruijn32tab", laid_math_bits_deBruijn32tab)], narrowed := true }
def PlanLocksUptoSaid : Prop := planLocksUptoRow.holds Tryd.pinned (OpenSpec.upto planLocksSpec)

end Rows
end Go.Proofs.YtlddjfgbepbmdaaDoor
