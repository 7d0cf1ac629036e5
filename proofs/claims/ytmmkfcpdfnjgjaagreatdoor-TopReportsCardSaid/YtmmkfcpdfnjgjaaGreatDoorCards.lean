/-
  DERIVED. GIVEN WITH THE SEED: THE CARDS: each row of YtmmkfcpdfnjgjaaGreatDoorRows.lean that lists a variable, with what it lists TIED to the program's text (the seventh form; the later family's looks); each row that meets fmt, with fmt's text TOLD by the authors' own Lean function (tested against real Go, not proved from fmt's source: count such statements apart). THE CARD IS WHAT COUNTS. Prove the row's statement (the work); the ties are given (YtmmkfcpdfnjgjaaGreatDoorTie.lean); close each card by the builder's one call (the guide's Derived/Test/ToyasCard.lean, 'card_holds'). Laid BY PROGRAM, IN A SANDBOX (cutbox-door.mjs). By AI agents, Wed Nov 11 2026. No macro, syntax, notation, axiom, sorry.
-/
import Derived.Test.YtmmkfcpdfnjgjaaGreatDoorRows
import GoSem.ClaimSeven
namespace Go.Proofs.YtmmkfcpdfnjgjaaGreatDoor
namespace Rows

/-- THE TIED CARD OF 'stoplinetop.TopRight'. -/
def topRightCard : Claim7 := { stood := { row := topRightRow, standIns := [], harness := (true, "c5641f4afcdbcafea3ae2feda099b80b48c938a3859ffea2fb88715494d33cf8"), looks := false }, kinds := [], alts := [], laidByText := true, laidKinds := [.data, .data], laidTests := true, laidLooks := .later }
def TopRightCardSaid : Prop := Claim7.holds Tryz.pinned (.plain (OpenSpec.ofChange topRightSpec)) topRightCard

/-- THE TIED CARD OF 'stoplinetop.TopClock'. -/
def topClockCard : Claim7 := { stood := { row := topClockRow, standIns := [], harness := (true, "c5641f4afcdbcafea3ae2feda099b80b48c938a3859ffea2fb88715494d33cf8"), looks := false }, kinds := [], alts := [], laidByText := true, laidKinds := [.data, .data], laidTests := true, laidLooks := .later }
def TopClockCardSaid : Prop := Claim7.holds Tryz.pinned (.plain (OpenSpec.ofChange topClockSpec)) topClockCard

/-- THE TIED CARD OF 'stoplinetop.TopReports'. -/
def topReportsCard : Claim7 := { stood := { row := topReportsRow, standIns := [], harness := (true, "c5641f4afcdbcafea3ae2feda099b80b48c938a3859ffea2fb88715494d33cf8"), looks := false }, kinds := [], alts := [], laidByText := true, laidKinds := [.data, .data], laidTests := true, laidLooks := .later }
def TopReportsCardSaid : Prop := Claim7.holds Tryz.pinned (.plain (OpenSpec.ofChange topReportsSpec)) topReportsCard

/-- THE TIED CARD OF 'stoplinetop.TopServed'. -/
def topServedCard : Claim7 := { stood := { row := topServedRow, standIns := [], harness := (true, "c5641f4afcdbcafea3ae2feda099b80b48c938a3859ffea2fb88715494d33cf8"), looks := false }, kinds := [], alts := [], laidByText := true, laidKinds := [.data, .data], laidTests := true, laidLooks := .later }
def TopServedCardSaid : Prop := Claim7.holds Tryz.pinned (.plain (OpenSpec.ofChange topServedSpec)) topServedCard

/-- THE SECOND FORM's CARD OF 'stoplinetop.TopRight'. -/
def topRightUptoCard : Claim7 := { stood := { row := topRightUptoRow, standIns := [], harness := (true, "c5641f4afcdbcafea3ae2feda099b80b48c938a3859ffea2fb88715494d33cf8"), looks := false }, kinds := [], alts := [], laidByText := true, laidKinds := [.data, .data], laidTests := true, laidLooks := .later }
def TopRightUptoCardSaid : Prop := Claim7.holds Tryz.pinned (.plain (OpenSpec.upto topRightSpec)) topRightUptoCard

/-- THE SECOND FORM's CARD OF 'stoplinetop.TopClock'. -/
def topClockUptoCard : Claim7 := { stood := { row := topClockUptoRow, standIns := [], harness := (true, "c5641f4afcdbcafea3ae2feda099b80b48c938a3859ffea2fb88715494d33cf8"), looks := false }, kinds := [], alts := [], laidByText := true, laidKinds := [.data, .data], laidTests := true, laidLooks := .later }
def TopClockUptoCardSaid : Prop := Claim7.holds Tryz.pinned (.plain (OpenSpec.upto topClockSpec)) topClockUptoCard

/-- THE SECOND FORM's CARD OF 'stoplinetop.TopReports'. -/
def topReportsUptoCard : Claim7 := { stood := { row := topReportsUptoRow, standIns := [], harness := (true, "c5641f4afcdbcafea3ae2feda099b80b48c938a3859ffea2fb88715494d33cf8"), looks := false }, kinds := [], alts := [], laidByText := true, laidKinds := [.data, .data], laidTests := true, laidLooks := .later }
def TopReportsUptoCardSaid : Prop := Claim7.holds Tryz.pinned (.plain (OpenSpec.upto topReportsSpec)) topReportsUptoCard

/-- THE SECOND FORM's CARD OF 'stoplinetop.TopServed'. -/
def topServedUptoCard : Claim7 := { stood := { row := topServedUptoRow, standIns := [], harness := (true, "c5641f4afcdbcafea3ae2feda099b80b48c938a3859ffea2fb88715494d33cf8"), looks := false }, kinds := [], alts := [], laidByText := true, laidKinds := [.data, .data], laidTests := true, laidLooks := .later }
def TopServedUptoCardSaid : Prop := Claim7.holds Tryz.pinned (.plain (OpenSpec.upto topServedSpec)) topServedUptoCard
end Rows
end Go.Proofs.YtmmkfcpdfnjgjaaGreatDoor
