/-
  DERIVED. GIVEN WITH THE SEED: THE CARDS: each row of YtlddjfgbepbmdaaDoorRows.lean that lists a variable, with what it lists TIED to the program's text (the seventh form; the later family's looks); each row that meets fmt, with fmt's text TOLD by the authors' own Lean function (tested against real Go, not proved from fmt's source: count such statements apart). THE CARD IS WHAT COUNTS. Prove the row's statement (the work); the ties are given (YtlddjfgbepbmdaaDoorTie.lean); close each card by the builder's one call (the guide's Derived/Test/ToyasCard.lean, 'card_holds'). Laid BY PROGRAM, IN A SANDBOX (cutbox-door.mjs). By AI agents, Wed Nov 11 2026. No macro, syntax, notation, axiom, sorry.
-/
import Derived.Test.YtlddjfgbepbmdaaDoorRows
import GoSem.ClaimSeven
namespace Go.Proofs.YtlddjfgbepbmdaaDoor
namespace Rows

/-- THE TIED CARD OF 'stoplinelaw16.SeqNames'. -/
def seqNamesCard : Claim7 := { stood := { row := seqNamesRow, standIns := [], harness := (true, "652193dfecebc149a3de9980893090c00bbd6a98288dbe3b5b6a5289d65fede3"), looks := false }, kinds := [], alts := [], laidByText := true, laidKinds := [.data, .data], laidTests := true, laidLooks := .later }
def SeqNamesCardSaid : Prop := Claim7.holds Tryd.pinned (.plain (OpenSpec.ofChange seqNamesSpec)) seqNamesCard

/-- THE TIED CARD OF 'stoplinelaw16.SeqGoes'. -/
def seqGoesCard : Claim7 := { stood := { row := seqGoesRow, standIns := [], harness := (true, "652193dfecebc149a3de9980893090c00bbd6a98288dbe3b5b6a5289d65fede3"), looks := false }, kinds := [], alts := [], laidByText := true, laidKinds := [.data, .data], laidTests := true, laidLooks := .later }
def SeqGoesCardSaid : Prop := Claim7.holds Tryd.pinned (.plain (OpenSpec.ofChange seqGoesSpec)) seqGoesCard

/-- THE TIED CARD OF 'stoplinelaw16.SeqKeeps'. -/
def seqKeepsCard : Claim7 := { stood := { row := seqKeepsRow, standIns := [], harness := (true, "652193dfecebc149a3de9980893090c00bbd6a98288dbe3b5b6a5289d65fede3"), looks := false }, kinds := [], alts := [], laidByText := true, laidKinds := [.data, .data], laidTests := true, laidLooks := .later }
def SeqKeepsCardSaid : Prop := Claim7.holds Tryd.pinned (.plain (OpenSpec.ofChange seqKeepsSpec)) seqKeepsCard

/-- THE TIED CARD OF 'stoplinelaw16.SeqServes'. -/
def seqServesCard : Claim7 := { stood := { row := seqServesRow, standIns := [], harness := (true, "652193dfecebc149a3de9980893090c00bbd6a98288dbe3b5b6a5289d65fede3"), looks := false }, kinds := [], alts := [], laidByText := true, laidKinds := [.data, .data], laidTests := true, laidLooks := .later }
def SeqServesCardSaid : Prop := Claim7.holds Tryd.pinned (.plain (OpenSpec.ofChange seqServesSpec)) seqServesCard

/-- THE TIED CARD OF 'stoplinelaw17.PlanLocks'. -/
def planLocksCard : Claim7 := { stood := { row := planLocksRow, standIns := [], harness := (true, "652193dfecebc149a3de9980893090c00bbd6a98288dbe3b5b6a5289d65fede3"), looks := false }, kinds := [], alts := [], laidByText := true, laidKinds := [.data], laidTests := true, laidLooks := .later }
def PlanLocksCardSaid : Prop := Claim7.holds Tryd.pinned (.plain (OpenSpec.ofChange planLocksSpec)) planLocksCard

/-- THE SECOND FORM's CARD OF 'stoplinelaw16.SeqNames'. -/
def seqNamesUptoCard : Claim7 := { stood := { row := seqNamesUptoRow, standIns := [], harness := (true, "652193dfecebc149a3de9980893090c00bbd6a98288dbe3b5b6a5289d65fede3"), looks := false }, kinds := [], alts := [], laidByText := true, laidKinds := [.data, .data], laidTests := true, laidLooks := .later }
def SeqNamesUptoCardSaid : Prop := Claim7.holds Tryd.pinned (.plain (OpenSpec.upto seqNamesSpec)) seqNamesUptoCard

/-- THE SECOND FORM's CARD OF 'stoplinelaw16.SeqGoes'. -/
def seqGoesUptoCard : Claim7 := { stood := { row := seqGoesUptoRow, standIns := [], harness := (true, "652193dfecebc149a3de9980893090c00bbd6a98288dbe3b5b6a5289d65fede3"), looks := false }, kinds := [], alts := [], laidByText := true, laidKinds := [.data, .data], laidTests := true, laidLooks := .later }
def SeqGoesUptoCardSaid : Prop := Claim7.holds Tryd.pinned (.plain (OpenSpec.upto seqGoesSpec)) seqGoesUptoCard

/-- THE SECOND FORM's CARD OF 'stoplinelaw16.SeqKeeps'. -/
def seqKeepsUptoCard : Claim7 := { stood := { row := seqKeepsUptoRow, standIns := [], harness := (true, "652193dfecebc149a3de9980893090c00bbd6a98288dbe3b5b6a5289d65fede3"), looks := false }, kinds := [], alts := [], laidByText := true, laidKinds := [.data, .data], laidTests := true, laidLooks := .later }
def SeqKeepsUptoCardSaid : Prop := Claim7.holds Tryd.pinned (.plain (OpenSpec.upto seqKeepsSpec)) seqKeepsUptoCard

/-- THE SECOND FORM's CARD OF 'stoplinelaw16.SeqServes'. -/
def seqServesUptoCard : Claim7 := { stood := { row := seqServesUptoRow, standIns := [], harness := (true, "652193dfecebc149a3de9980893090c00bbd6a98288dbe3b5b6a5289d65fede3"), looks := false }, kinds := [], alts := [], laidByText := true, laidKinds := [.data, .data], laidTests := true, laidLooks := .later }
def SeqServesUptoCardSaid : Prop := Claim7.holds Tryd.pinned (.plain (OpenSpec.upto seqServesSpec)) seqServesUptoCard

/-- THE SECOND FORM's CARD OF 'stoplinelaw17.PlanLocks'. -/
def planLocksUptoCard : Claim7 := { stood := { row := planLocksUptoRow, standIns := [], harness := (true, "652193dfecebc149a3de9980893090c00bbd6a98288dbe3b5b6a5289d65fede3"), looks := false }, kinds := [], alts := [], laidByText := true, laidKinds := [.data], laidTests := true, laidLooks := .later }
def PlanLocksUptoCardSaid : Prop := Claim7.holds Tryd.pinned (.plain (OpenSpec.upto planLocksSpec)) planLocksUptoCard
end Rows
end Go.Proofs.YtlddjfgbepbmdaaDoor
