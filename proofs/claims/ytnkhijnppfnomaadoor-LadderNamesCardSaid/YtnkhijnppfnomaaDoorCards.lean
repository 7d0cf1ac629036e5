/-
  DERIVED. GIVEN WITH THE SEED: THE CARDS: each row of YtnkhijnppfnomaaDoorRows.lean that lists a variable, with what it lists TIED to the program's text (the seventh form; the later family's looks); each row that meets fmt, with fmt's text TOLD by the authors' own Lean function (tested against real Go, not proved from fmt's source: count such statements apart). THE CARD IS WHAT COUNTS. Prove the row's statement (the work); the ties are given (YtnkhijnppfnomaaDoorTie.lean); close each card by the builder's one call (the guide's Derived/Test/ToyasCard.lean, 'card_holds'). Laid BY PROGRAM, IN A SANDBOX (cutbox-door.mjs). By AI agents, Wed Nov 11 2026. No macro, syntax, notation, axiom, sorry.
-/
import Derived.Test.YtnkhijnppfnomaaDoorRows
import GoSem.ClaimSeven
namespace Go.Proofs.YtnkhijnppfnomaaDoor
namespace Rows

/-- THE TIED CARD OF 'stoplinelaw22.LadderDown'. -/
def ladderDownCard : Claim7 := { stood := { row := ladderDownRow, standIns := [], harness := (true, "af3dcde21d81a40418d604895c7dcad7113c12e9c74510738f101a7e8b14cb66"), looks := false }, kinds := [], alts := [], laidByText := true, laidKinds := [.data], laidTests := true, laidLooks := .later }
def LadderDownCardSaid : Prop := Claim7.holds Tryd.pinned (.plain (OpenSpec.ofChange ladderDownSpec)) ladderDownCard

/-- THE TIED CARD OF 'stoplinelaw22.LadderUp'. -/
def ladderUpCard : Claim7 := { stood := { row := ladderUpRow, standIns := [], harness := (true, "af3dcde21d81a40418d604895c7dcad7113c12e9c74510738f101a7e8b14cb66"), looks := false }, kinds := [], alts := [], laidByText := true, laidKinds := [.data], laidTests := true, laidLooks := .later }
def LadderUpCardSaid : Prop := Claim7.holds Tryd.pinned (.plain (OpenSpec.ofChange ladderUpSpec)) ladderUpCard

/-- THE TIED CARD OF 'stoplinelaw22.LadderReaches'. -/
def ladderReachesCard : Claim7 := { stood := { row := ladderReachesRow, standIns := [], harness := (true, "af3dcde21d81a40418d604895c7dcad7113c12e9c74510738f101a7e8b14cb66"), looks := false }, kinds := [], alts := [], laidByText := true, laidKinds := [.data], laidTests := true, laidLooks := .later }
def LadderReachesCardSaid : Prop := Claim7.holds Tryd.pinned (.plain (OpenSpec.ofChange ladderReachesSpec)) ladderReachesCard

/-- THE TIED CARD OF 'stoplinelaw10.BackFeed'. -/
def backFeedCard : Claim7 := { stood := { row := backFeedRow, standIns := [], harness := (true, "af3dcde21d81a40418d604895c7dcad7113c12e9c74510738f101a7e8b14cb66"), looks := false }, kinds := [], alts := [], laidByText := true, laidKinds := [.data], laidTests := true, laidLooks := .later }
def BackFeedCardSaid : Prop := Claim7.holds Tryd.pinned (.plain (OpenSpec.ofChange backFeedSpec)) backFeedCard

/-- THE TIED CARD OF 'stoplinelaw22.LadderFirst'. -/
def ladderFirstCard : Claim7 := { stood := { row := ladderFirstRow, standIns := [], harness := (true, "af3dcde21d81a40418d604895c7dcad7113c12e9c74510738f101a7e8b14cb66"), looks := false }, kinds := [], alts := [], laidByText := true, laidKinds := [.data], laidTests := true, laidLooks := .later }
def LadderFirstCardSaid : Prop := Claim7.holds Tryd.pinned (.plain (OpenSpec.ofChange ladderFirstSpec)) ladderFirstCard

/-- THE TIED CARD OF 'stoplinelaw22.LadderNames'. -/
def ladderNamesCard : Claim7 := { stood := { row := ladderNamesRow, standIns := [], harness := (true, "af3dcde21d81a40418d604895c7dcad7113c12e9c74510738f101a7e8b14cb66"), looks := false }, kinds := [], alts := [], laidByText := true, laidKinds := [.data], laidTests := true, laidLooks := .later }
def LadderNamesCardSaid : Prop := Claim7.holds Tryd.pinned (.plain (OpenSpec.ofChange ladderNamesSpec)) ladderNamesCard

/-- THE TIED CARD OF 'stoplinelaw22.LadderSteps'. -/
def ladderStepsCard : Claim7 := { stood := { row := ladderStepsRow, standIns := [], harness := (true, "af3dcde21d81a40418d604895c7dcad7113c12e9c74510738f101a7e8b14cb66"), looks := false }, kinds := [], alts := [], laidByText := true, laidKinds := [.data], laidTests := true, laidLooks := .later }
def LadderStepsCardSaid : Prop := Claim7.holds Tryd.pinned (.plain (OpenSpec.ofChange ladderStepsSpec)) ladderStepsCard

/-- THE TIED CARD OF 'stoplinelaw10.BackNames'. -/
def backNamesCard : Claim7 := { stood := { row := backNamesRow, standIns := [], harness := (true, "af3dcde21d81a40418d604895c7dcad7113c12e9c74510738f101a7e8b14cb66"), looks := false }, kinds := [], alts := [], laidByText := true, laidKinds := [.data], laidTests := true, laidLooks := .later }
def BackNamesCardSaid : Prop := Claim7.holds Tryd.pinned (.plain (OpenSpec.ofChange backNamesSpec)) backNamesCard

/-- THE TIED CARD OF 'stoplinelaw10.BackWrong'. -/
def backWrongCard : Claim7 := { stood := { row := backWrongRow, standIns := [], harness := (true, "af3dcde21d81a40418d604895c7dcad7113c12e9c74510738f101a7e8b14cb66"), looks := false }, kinds := [], alts := [], laidByText := true, laidKinds := [.data], laidTests := true, laidLooks := .later }
def BackWrongCardSaid : Prop := Claim7.holds Tryd.pinned (.plain (OpenSpec.ofChange backWrongSpec)) backWrongCard

/-- THE TIED CARD OF 'stoplinelaw10.BackRight'. -/
def backRightCard : Claim7 := { stood := { row := backRightRow, standIns := [], harness := (true, "af3dcde21d81a40418d604895c7dcad7113c12e9c74510738f101a7e8b14cb66"), looks := false }, kinds := [], alts := [], laidByText := true, laidKinds := [.data], laidTests := true, laidLooks := .later }
def BackRightCardSaid : Prop := Claim7.holds Tryd.pinned (.plain (OpenSpec.ofChange backRightSpec)) backRightCard

/-- THE SECOND FORM's CARD OF 'stoplinelaw22.LadderDown'. -/
def ladderDownUptoCard : Claim7 := { stood := { row := ladderDownUptoRow, standIns := [], harness := (true, "af3dcde21d81a40418d604895c7dcad7113c12e9c74510738f101a7e8b14cb66"), looks := false }, kinds := [], alts := [], laidByText := true, laidKinds := [.data], laidTests := true, laidLooks := .later }
def LadderDownUptoCardSaid : Prop := Claim7.holds Tryd.pinned (.plain (OpenSpec.upto ladderDownSpec)) ladderDownUptoCard

/-- THE SECOND FORM's CARD OF 'stoplinelaw22.LadderUp'. -/
def ladderUpUptoCard : Claim7 := { stood := { row := ladderUpUptoRow, standIns := [], harness := (true, "af3dcde21d81a40418d604895c7dcad7113c12e9c74510738f101a7e8b14cb66"), looks := false }, kinds := [], alts := [], laidByText := true, laidKinds := [.data], laidTests := true, laidLooks := .later }
def LadderUpUptoCardSaid : Prop := Claim7.holds Tryd.pinned (.plain (OpenSpec.upto ladderUpSpec)) ladderUpUptoCard

/-- THE SECOND FORM's CARD OF 'stoplinelaw22.LadderReaches'. -/
def ladderReachesUptoCard : Claim7 := { stood := { row := ladderReachesUptoRow, standIns := [], harness := (true, "af3dcde21d81a40418d604895c7dcad7113c12e9c74510738f101a7e8b14cb66"), looks := false }, kinds := [], alts := [], laidByText := true, laidKinds := [.data], laidTests := true, laidLooks := .later }
def LadderReachesUptoCardSaid : Prop := Claim7.holds Tryd.pinned (.plain (OpenSpec.upto ladderReachesSpec)) ladderReachesUptoCard

/-- THE SECOND FORM's CARD OF 'stoplinelaw10.BackFeed'. -/
def backFeedUptoCard : Claim7 := { stood := { row := backFeedUptoRow, standIns := [], harness := (true, "af3dcde21d81a40418d604895c7dcad7113c12e9c74510738f101a7e8b14cb66"), looks := false }, kinds := [], alts := [], laidByText := true, laidKinds := [.data], laidTests := true, laidLooks := .later }
def BackFeedUptoCardSaid : Prop := Claim7.holds Tryd.pinned (.plain (OpenSpec.upto backFeedSpec)) backFeedUptoCard

/-- THE SECOND FORM's CARD OF 'stoplinelaw22.LadderFirst'. -/
def ladderFirstUptoCard : Claim7 := { stood := { row := ladderFirstUptoRow, standIns := [], harness := (true, "af3dcde21d81a40418d604895c7dcad7113c12e9c74510738f101a7e8b14cb66"), looks := false }, kinds := [], alts := [], laidByText := true, laidKinds := [.data], laidTests := true, laidLooks := .later }
def LadderFirstUptoCardSaid : Prop := Claim7.holds Tryd.pinned (.plain (OpenSpec.upto ladderFirstSpec)) ladderFirstUptoCard

/-- THE SECOND FORM's CARD OF 'stoplinelaw22.LadderNames'. -/
def ladderNamesUptoCard : Claim7 := { stood := { row := ladderNamesUptoRow, standIns := [], harness := (true, "af3dcde21d81a40418d604895c7dcad7113c12e9c74510738f101a7e8b14cb66"), looks := false }, kinds := [], alts := [], laidByText := true, laidKinds := [.data], laidTests := true, laidLooks := .later }
def LadderNamesUptoCardSaid : Prop := Claim7.holds Tryd.pinned (.plain (OpenSpec.upto ladderNamesSpec)) ladderNamesUptoCard

/-- THE SECOND FORM's CARD OF 'stoplinelaw22.LadderSteps'. -/
def ladderStepsUptoCard : Claim7 := { stood := { row := ladderStepsUptoRow, standIns := [], harness := (true, "af3dcde21d81a40418d604895c7dcad7113c12e9c74510738f101a7e8b14cb66"), looks := false }, kinds := [], alts := [], laidByText := true, laidKinds := [.data], laidTests := true, laidLooks := .later }
def LadderStepsUptoCardSaid : Prop := Claim7.holds Tryd.pinned (.plain (OpenSpec.upto ladderStepsSpec)) ladderStepsUptoCard

/-- THE SECOND FORM's CARD OF 'stoplinelaw10.BackNames'. -/
def backNamesUptoCard : Claim7 := { stood := { row := backNamesUptoRow, standIns := [], harness := (true, "af3dcde21d81a40418d604895c7dcad7113c12e9c74510738f101a7e8b14cb66"), looks := false }, kinds := [], alts := [], laidByText := true, laidKinds := [.data], laidTests := true, laidLooks := .later }
def BackNamesUptoCardSaid : Prop := Claim7.holds Tryd.pinned (.plain (OpenSpec.upto backNamesSpec)) backNamesUptoCard

/-- THE SECOND FORM's CARD OF 'stoplinelaw10.BackWrong'. -/
def backWrongUptoCard : Claim7 := { stood := { row := backWrongUptoRow, standIns := [], harness := (true, "af3dcde21d81a40418d604895c7dcad7113c12e9c74510738f101a7e8b14cb66"), looks := false }, kinds := [], alts := [], laidByText := true, laidKinds := [.data], laidTests := true, laidLooks := .later }
def BackWrongUptoCardSaid : Prop := Claim7.holds Tryd.pinned (.plain (OpenSpec.upto backWrongSpec)) backWrongUptoCard

/-- THE SECOND FORM's CARD OF 'stoplinelaw10.BackRight'. -/
def backRightUptoCard : Claim7 := { stood := { row := backRightUptoRow, standIns := [], harness := (true, "af3dcde21d81a40418d604895c7dcad7113c12e9c74510738f101a7e8b14cb66"), looks := false }, kinds := [], alts := [], laidByText := true, laidKinds := [.data], laidTests := true, laidLooks := .later }
def BackRightUptoCardSaid : Prop := Claim7.holds Tryd.pinned (.plain (OpenSpec.upto backRightSpec)) backRightUptoCard
end Rows
end Go.Proofs.YtnkhijnppfnomaaDoor
