/-
  DERIVED. GIVEN WITH THE SEED: THE CARDS: each row of YtdgiapeofmlecaaGreatDoorRows.lean that lists a variable, with what it lists TIED to the program's text (the seventh form; the later family's looks); each row that meets fmt, with fmt's text TOLD by the authors' own Lean function (tested against real Go, not proved from fmt's source: count such statements apart). THE CARD IS WHAT COUNTS. Prove the row's statement (the work); the ties are given (YtdgiapeofmlecaaGreatDoorTie.lean); close each card by the builder's one call (the guide's Derived/Test/ToyasCard.lean, 'card_holds'). Laid BY PROGRAM, IN A SANDBOX (cutbox-door.mjs). By AI agents, Wed Nov 11 2026. No macro, syntax, notation, axiom, sorry.
-/
import Derived.Test.YtdgiapeofmlecaaGreatDoorRows
import GoSem.ClaimSeven
namespace Go.Proofs.YtdgiapeofmlecaaGreatDoor
namespace Rows

/-- THE TIED CARD OF 'stoplinelaw15.TurnGoes'. -/
def turnGoesCard : Claim7 := { stood := { row := turnGoesRow, standIns := [], harness := (true, "8641a107675c21b771c0fdf65a56901e596526c77d06a9ccf8b102c7be55ab4e"), looks := false }, kinds := [], alts := [], laidByText := true, laidKinds := [.data], laidTests := true, laidLooks := .later }
def TurnGoesCardSaid : Prop := Claim7.holds Tryz.pinned (.plain (OpenSpec.ofChange turnGoesSpec)) turnGoesCard

/-- THE SECOND FORM's CARD OF 'stoplinelaw15.TurnGoes'. -/
def turnGoesUptoCard : Claim7 := { stood := { row := turnGoesUptoRow, standIns := [], harness := (true, "8641a107675c21b771c0fdf65a56901e596526c77d06a9ccf8b102c7be55ab4e"), looks := false }, kinds := [], alts := [], laidByText := true, laidKinds := [.data], laidTests := true, laidLooks := .later }
def TurnGoesUptoCardSaid : Prop := Claim7.holds Tryz.pinned (.plain (OpenSpec.upto turnGoesSpec)) turnGoesUptoCard
end Rows
end Go.Proofs.YtdgiapeofmlecaaGreatDoor
