/-
  DERIVED. GIVEN WITH THE SEED: THE CARDS: each row of YtlgpjdjcbincgaaGreatDoorRows.lean that lists a variable, with what it lists TIED to the program's text (the seventh form; the later family's looks); each row that meets fmt, with fmt's text TOLD by the authors' own Lean function (tested against real Go, not proved from fmt's source: count such statements apart). THE CARD IS WHAT COUNTS. Prove the row's statement (the work); the ties are given (YtlgpjdjcbincgaaGreatDoorTie.lean); close each card by the builder's one call (the guide's Derived/Test/ToyasCard.lean, 'card_holds'). Laid BY PROGRAM, IN A SANDBOX (cutbox-door.mjs). By AI agents, Wed Nov 11 2026. No macro, syntax, notation, axiom, sorry.
-/
import Derived.Test.YtlgpjdjcbincgaaGreatDoorRows
import GoSem.ClaimSeven
namespace Go.Proofs.YtlgpjdjcbincgaaGreatDoor
namespace Rows

/-- THE TIED CARD OF 'stoplinetop.TopMaster'. -/
def topMasterCard : Claim7 := { stood := { row := topMasterRow, standIns := [], harness := (true, "86f0b56facf55d5c394bf7203704613a2ae1a6533f48cb68547f1069533f05c5"), looks := false }, kinds := [], alts := [], laidByText := true, laidKinds := [.data, .data], laidTests := true, laidLooks := .later }
def TopMasterCardSaid : Prop := Claim7.holds Tryz.pinned (.plain (OpenSpec.ofChange topMasterSpec)) topMasterCard

/-- THE TIED CARD OF 'stoplinetop.TopQuiet'. -/
def topQuietCard : Claim7 := { stood := { row := topQuietRow, standIns := [], harness := (true, "86f0b56facf55d5c394bf7203704613a2ae1a6533f48cb68547f1069533f05c5"), looks := false }, kinds := [], alts := [], laidByText := true, laidKinds := [.data, .data], laidTests := true, laidLooks := .later }
def TopQuietCardSaid : Prop := Claim7.holds Tryz.pinned (.plain (OpenSpec.ofChange topQuietSpec)) topQuietCard

/-- THE TIED CARD OF 'stoplinetop.TopKeeps'. -/
def topKeepsCard : Claim7 := { stood := { row := topKeepsRow, standIns := [], harness := (true, "86f0b56facf55d5c394bf7203704613a2ae1a6533f48cb68547f1069533f05c5"), looks := false }, kinds := [], alts := [], laidByText := true, laidKinds := [.data, .data], laidTests := true, laidLooks := .later }
def TopKeepsCardSaid : Prop := Claim7.holds Tryz.pinned (.plain (OpenSpec.ofChange topKeepsSpec)) topKeepsCard

/-- THE SECOND FORM's CARD OF 'stoplinetop.TopMaster'. -/
def topMasterUptoCard : Claim7 := { stood := { row := topMasterUptoRow, standIns := [], harness := (true, "86f0b56facf55d5c394bf7203704613a2ae1a6533f48cb68547f1069533f05c5"), looks := false }, kinds := [], alts := [], laidByText := true, laidKinds := [.data, .data], laidTests := true, laidLooks := .later }
def TopMasterUptoCardSaid : Prop := Claim7.holds Tryz.pinned (.plain (OpenSpec.upto topMasterSpec)) topMasterUptoCard

/-- THE SECOND FORM's CARD OF 'stoplinetop.TopQuiet'. -/
def topQuietUptoCard : Claim7 := { stood := { row := topQuietUptoRow, standIns := [], harness := (true, "86f0b56facf55d5c394bf7203704613a2ae1a6533f48cb68547f1069533f05c5"), looks := false }, kinds := [], alts := [], laidByText := true, laidKinds := [.data, .data], laidTests := true, laidLooks := .later }
def TopQuietUptoCardSaid : Prop := Claim7.holds Tryz.pinned (.plain (OpenSpec.upto topQuietSpec)) topQuietUptoCard

/-- THE SECOND FORM's CARD OF 'stoplinetop.TopKeeps'. -/
def topKeepsUptoCard : Claim7 := { stood := { row := topKeepsUptoRow, standIns := [], harness := (true, "86f0b56facf55d5c394bf7203704613a2ae1a6533f48cb68547f1069533f05c5"), looks := false }, kinds := [], alts := [], laidByText := true, laidKinds := [.data, .data], laidTests := true, laidLooks := .later }
def TopKeepsUptoCardSaid : Prop := Claim7.holds Tryz.pinned (.plain (OpenSpec.upto topKeepsSpec)) topKeepsUptoCard
end Rows
end Go.Proofs.YtlgpjdjcbincgaaGreatDoor
