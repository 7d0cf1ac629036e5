/-
  DERIVED. GIVEN WITH THE SEED: THE CARDS: each row of YtdgiapeofmlecaaDoorRows.lean that lists a variable, with what it lists TIED to the program's text (the seventh form; the later family's looks); each row that meets fmt, with fmt's text TOLD by the authors' own Lean function (tested against real Go, not proved from fmt's source: count such statements apart). THE CARD IS WHAT COUNTS. Prove the row's statement (the work); the ties are given (YtdgiapeofmlecaaDoorTie.lean); close each card by the builder's one call (the guide's Derived/Test/ToyasCard.lean, 'card_holds'). Laid BY PROGRAM, IN A SANDBOX (cutbox-door.mjs). By AI agents, Wed Nov 11 2026. No macro, syntax, notation, axiom, sorry.
-/
import Derived.Test.YtdgiapeofmlecaaDoorRows
import GoSem.ClaimSeven
namespace Go.Proofs.YtdgiapeofmlecaaDoor
namespace Rows

/-- THE TIED CARD OF 'stoplinelaw09.GateRuns'. -/
def gateRunsCard : Claim7 := { stood := { row := gateRunsRow, standIns := [], harness := (true, "f8f2f521ad9e6a88eb6f512c96b9b2bccaefdc8db2b550fc95daff4ed3c58f53"), looks := false }, kinds := [], alts := [], laidByText := true, laidKinds := [.data], laidTests := true, laidLooks := .later }
def GateRunsCardSaid : Prop := Claim7.holds Tryd.pinned (.plain (OpenSpec.ofChange gateRunsSpec)) gateRunsCard

/-- THE TIED CARD OF 'stoplinelaw09.GateAdmits'. -/
def gateAdmitsCard : Claim7 := { stood := { row := gateAdmitsRow, standIns := [], harness := (true, "f8f2f521ad9e6a88eb6f512c96b9b2bccaefdc8db2b550fc95daff4ed3c58f53"), looks := false }, kinds := [], alts := [], laidByText := true, laidKinds := [.data], laidTests := true, laidLooks := .later }
def GateAdmitsCardSaid : Prop := Claim7.holds Tryd.pinned (.plain (OpenSpec.ofChange gateAdmitsSpec)) gateAdmitsCard

/-- THE TIED CARD OF 'stoplinelaw09.GateTraces'. -/
def gateTracesCard : Claim7 := { stood := { row := gateTracesRow, standIns := [], harness := (true, "f8f2f521ad9e6a88eb6f512c96b9b2bccaefdc8db2b550fc95daff4ed3c58f53"), looks := false }, kinds := [], alts := [], laidByText := true, laidKinds := [.data], laidTests := true, laidLooks := .later }
def GateTracesCardSaid : Prop := Claim7.holds Tryd.pinned (.plain (OpenSpec.ofChange gateTracesSpec)) gateTracesCard

/-- THE TIED CARD OF 'stoplinelaw09.GateSafe'. -/
def gateSafeCard : Claim7 := { stood := { row := gateSafeRow, standIns := [], harness := (true, "f8f2f521ad9e6a88eb6f512c96b9b2bccaefdc8db2b550fc95daff4ed3c58f53"), looks := false }, kinds := [], alts := [], laidByText := true, laidKinds := [.data], laidTests := true, laidLooks := .later }
def GateSafeCardSaid : Prop := Claim7.holds Tryd.pinned (.plain (OpenSpec.ofChange gateSafeSpec)) gateSafeCard

/-- THE TIED CARD OF 'stoplinelaw09.GateLater'. -/
def gateLaterCard : Claim7 := { stood := { row := gateLaterRow, standIns := [], harness := (true, "f8f2f521ad9e6a88eb6f512c96b9b2bccaefdc8db2b550fc95daff4ed3c58f53"), looks := false }, kinds := [], alts := [], laidByText := true, laidKinds := [.data], laidTests := true, laidLooks := .later }
def GateLaterCardSaid : Prop := Claim7.holds Tryd.pinned (.plain (OpenSpec.ofChange gateLaterSpec)) gateLaterCard

/-- THE TIED CARD OF 'stoplinelaw09.GateNames'. -/
def gateNamesCard : Claim7 := { stood := { row := gateNamesRow, standIns := [], harness := (true, "f8f2f521ad9e6a88eb6f512c96b9b2bccaefdc8db2b550fc95daff4ed3c58f53"), looks := false }, kinds := [], alts := [], laidByText := true, laidKinds := [.data], laidTests := true, laidLooks := .later }
def GateNamesCardSaid : Prop := Claim7.holds Tryd.pinned (.plain (OpenSpec.ofChange gateNamesSpec)) gateNamesCard

/-- THE TIED CARD OF 'stoplinelaw15.TurnStays'. -/
def turnStaysCard : Claim7 := { stood := { row := turnStaysRow, standIns := [], harness := (true, "f8f2f521ad9e6a88eb6f512c96b9b2bccaefdc8db2b550fc95daff4ed3c58f53"), looks := false }, kinds := [], alts := [], laidByText := true, laidKinds := [.data], laidTests := true, laidLooks := .later }
def TurnStaysCardSaid : Prop := Claim7.holds Tryd.pinned (.plain (OpenSpec.ofChange turnStaysSpec)) turnStaysCard

/-- THE TIED CARD OF 'stoplinelaw15.TurnEnds'. -/
def turnEndsCard : Claim7 := { stood := { row := turnEndsRow, standIns := [], harness := (true, "f8f2f521ad9e6a88eb6f512c96b9b2bccaefdc8db2b550fc95daff4ed3c58f53"), looks := false }, kinds := [], alts := [], laidByText := true, laidKinds := [.data], laidTests := true, laidLooks := .later }
def TurnEndsCardSaid : Prop := Claim7.holds Tryd.pinned (.plain (OpenSpec.ofChange turnEndsSpec)) turnEndsCard

/-- THE TIED CARD OF 'stoplinelaw15.TurnNames'. -/
def turnNamesCard : Claim7 := { stood := { row := turnNamesRow, standIns := [], harness := (true, "f8f2f521ad9e6a88eb6f512c96b9b2bccaefdc8db2b550fc95daff4ed3c58f53"), looks := false }, kinds := [], alts := [], laidByText := true, laidKinds := [.data], laidTests := true, laidLooks := .later }
def TurnNamesCardSaid : Prop := Claim7.holds Tryd.pinned (.plain (OpenSpec.ofChange turnNamesSpec)) turnNamesCard

/-- THE SECOND FORM's CARD OF 'stoplinelaw09.GateRuns'. -/
def gateRunsUptoCard : Claim7 := { stood := { row := gateRunsUptoRow, standIns := [], harness := (true, "f8f2f521ad9e6a88eb6f512c96b9b2bccaefdc8db2b550fc95daff4ed3c58f53"), looks := false }, kinds := [], alts := [], laidByText := true, laidKinds := [.data], laidTests := true, laidLooks := .later }
def GateRunsUptoCardSaid : Prop := Claim7.holds Tryd.pinned (.plain (OpenSpec.upto gateRunsSpec)) gateRunsUptoCard

/-- THE SECOND FORM's CARD OF 'stoplinelaw09.GateAdmits'. -/
def gateAdmitsUptoCard : Claim7 := { stood := { row := gateAdmitsUptoRow, standIns := [], harness := (true, "f8f2f521ad9e6a88eb6f512c96b9b2bccaefdc8db2b550fc95daff4ed3c58f53"), looks := false }, kinds := [], alts := [], laidByText := true, laidKinds := [.data], laidTests := true, laidLooks := .later }
def GateAdmitsUptoCardSaid : Prop := Claim7.holds Tryd.pinned (.plain (OpenSpec.upto gateAdmitsSpec)) gateAdmitsUptoCard

/-- THE SECOND FORM's CARD OF 'stoplinelaw09.GateTraces'. -/
def gateTracesUptoCard : Claim7 := { stood := { row := gateTracesUptoRow, standIns := [], harness := (true, "f8f2f521ad9e6a88eb6f512c96b9b2bccaefdc8db2b550fc95daff4ed3c58f53"), looks := false }, kinds := [], alts := [], laidByText := true, laidKinds := [.data], laidTests := true, laidLooks := .later }
def GateTracesUptoCardSaid : Prop := Claim7.holds Tryd.pinned (.plain (OpenSpec.upto gateTracesSpec)) gateTracesUptoCard

/-- THE SECOND FORM's CARD OF 'stoplinelaw09.GateSafe'. -/
def gateSafeUptoCard : Claim7 := { stood := { row := gateSafeUptoRow, standIns := [], harness := (true, "f8f2f521ad9e6a88eb6f512c96b9b2bccaefdc8db2b550fc95daff4ed3c58f53"), looks := false }, kinds := [], alts := [], laidByText := true, laidKinds := [.data], laidTests := true, laidLooks := .later }
def GateSafeUptoCardSaid : Prop := Claim7.holds Tryd.pinned (.plain (OpenSpec.upto gateSafeSpec)) gateSafeUptoCard

/-- THE SECOND FORM's CARD OF 'stoplinelaw09.GateLater'. -/
def gateLaterUptoCard : Claim7 := { stood := { row := gateLaterUptoRow, standIns := [], harness := (true, "f8f2f521ad9e6a88eb6f512c96b9b2bccaefdc8db2b550fc95daff4ed3c58f53"), looks := false }, kinds := [], alts := [], laidByText := true, laidKinds := [.data], laidTests := true, laidLooks := .later }
def GateLaterUptoCardSaid : Prop := Claim7.holds Tryd.pinned (.plain (OpenSpec.upto gateLaterSpec)) gateLaterUptoCard

/-- THE SECOND FORM's CARD OF 'stoplinelaw09.GateNames'. -/
def gateNamesUptoCard : Claim7 := { stood := { row := gateNamesUptoRow, standIns := [], harness := (true, "f8f2f521ad9e6a88eb6f512c96b9b2bccaefdc8db2b550fc95daff4ed3c58f53"), looks := false }, kinds := [], alts := [], laidByText := true, laidKinds := [.data], laidTests := true, laidLooks := .later }
def GateNamesUptoCardSaid : Prop := Claim7.holds Tryd.pinned (.plain (OpenSpec.upto gateNamesSpec)) gateNamesUptoCard

/-- THE SECOND FORM's CARD OF 'stoplinelaw15.TurnStays'. -/
def turnStaysUptoCard : Claim7 := { stood := { row := turnStaysUptoRow, standIns := [], harness := (true, "f8f2f521ad9e6a88eb6f512c96b9b2bccaefdc8db2b550fc95daff4ed3c58f53"), looks := false }, kinds := [], alts := [], laidByText := true, laidKinds := [.data], laidTests := true, laidLooks := .later }
def TurnStaysUptoCardSaid : Prop := Claim7.holds Tryd.pinned (.plain (OpenSpec.upto turnStaysSpec)) turnStaysUptoCard

/-- THE SECOND FORM's CARD OF 'stoplinelaw15.TurnEnds'. -/
def turnEndsUptoCard : Claim7 := { stood := { row := turnEndsUptoRow, standIns := [], harness := (true, "f8f2f521ad9e6a88eb6f512c96b9b2bccaefdc8db2b550fc95daff4ed3c58f53"), looks := false }, kinds := [], alts := [], laidByText := true, laidKinds := [.data], laidTests := true, laidLooks := .later }
def TurnEndsUptoCardSaid : Prop := Claim7.holds Tryd.pinned (.plain (OpenSpec.upto turnEndsSpec)) turnEndsUptoCard

/-- THE SECOND FORM's CARD OF 'stoplinelaw15.TurnNames'. -/
def turnNamesUptoCard : Claim7 := { stood := { row := turnNamesUptoRow, standIns := [], harness := (true, "f8f2f521ad9e6a88eb6f512c96b9b2bccaefdc8db2b550fc95daff4ed3c58f53"), looks := false }, kinds := [], alts := [], laidByText := true, laidKinds := [.data], laidTests := true, laidLooks := .later }
def TurnNamesUptoCardSaid : Prop := Claim7.holds Tryd.pinned (.plain (OpenSpec.upto turnNamesSpec)) turnNamesUptoCard
end Rows
end Go.Proofs.YtdgiapeofmlecaaDoor
