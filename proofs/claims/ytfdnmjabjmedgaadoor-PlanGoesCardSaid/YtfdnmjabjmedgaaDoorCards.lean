/-
  DERIVED. GIVEN WITH THE SEED: THE CARDS: each row of YtfdnmjabjmedgaaDoorRows.lean that lists a variable, with what it lists TIED to the program's text (the seventh form; the later family's looks); each row that meets fmt, with fmt's text TOLD by the authors' own Lean function (tested against real Go, not proved from fmt's source: count such statements apart). THE CARD IS WHAT COUNTS. Prove the row's statement (the work); the ties are given (YtfdnmjabjmedgaaDoorTie.lean); close each card by the builder's one call (the guide's Derived/Test/ToyasCard.lean, 'card_holds'). Laid BY PROGRAM, IN A SANDBOX (cutbox-door.mjs). By AI agents, Wed Nov 11 2026. No macro, syntax, notation, axiom, sorry.
-/
import Derived.Test.YtfdnmjabjmedgaaDoorRows
import GoSem.ClaimSeven
namespace Go.Proofs.YtfdnmjabjmedgaaDoor
namespace Rows

/-- THE TIED CARD OF 'stoplinelaw17.PlanParts'. -/
def planPartsCard : Claim7 := { stood := { row := planPartsRow, standIns := [], harness := (true, "e859a7787089f6e2f7842dd28d769b4f1494275cbb3fdee1f45d9d3a6f0a3153"), looks := false }, kinds := [], alts := [], laidByText := true, laidKinds := [.data], laidTests := true, laidLooks := .later }
def PlanPartsCardSaid : Prop := Claim7.holds Tryd.pinned (.plain (OpenSpec.ofChange planPartsSpec)) planPartsCard

/-- THE TIED CARD OF 'stoplinelaw17.PlanNames'. -/
def planNamesCard : Claim7 := { stood := { row := planNamesRow, standIns := [], harness := (true, "e859a7787089f6e2f7842dd28d769b4f1494275cbb3fdee1f45d9d3a6f0a3153"), looks := false }, kinds := [], alts := [], laidByText := true, laidKinds := [.data], laidTests := true, laidLooks := .later }
def PlanNamesCardSaid : Prop := Claim7.holds Tryd.pinned (.plain (OpenSpec.ofChange planNamesSpec)) planNamesCard

/-- THE TIED CARD OF 'stoplinelaw17.PlanGoes'. -/
def planGoesCard : Claim7 := { stood := { row := planGoesRow, standIns := [], harness := (true, "e859a7787089f6e2f7842dd28d769b4f1494275cbb3fdee1f45d9d3a6f0a3153"), looks := false }, kinds := [], alts := [], laidByText := true, laidKinds := [.data], laidTests := true, laidLooks := .later }
def PlanGoesCardSaid : Prop := Claim7.holds Tryd.pinned (.plain (OpenSpec.ofChange planGoesSpec)) planGoesCard

/-- THE TIED CARD OF 'stoplinelaw17.PlanLocks'. -/
def planLocksCard : Claim7 := { stood := { row := planLocksRow, standIns := [], harness := (true, "e859a7787089f6e2f7842dd28d769b4f1494275cbb3fdee1f45d9d3a6f0a3153"), looks := false }, kinds := [], alts := [], laidByText := true, laidKinds := [.data], laidTests := true, laidLooks := .later }
def PlanLocksCardSaid : Prop := Claim7.holds Tryd.pinned (.plain (OpenSpec.ofChange planLocksSpec)) planLocksCard

/-- THE SECOND FORM's CARD OF 'stoplinelaw17.PlanParts'. -/
def planPartsUptoCard : Claim7 := { stood := { row := planPartsUptoRow, standIns := [], harness := (true, "e859a7787089f6e2f7842dd28d769b4f1494275cbb3fdee1f45d9d3a6f0a3153"), looks := false }, kinds := [], alts := [], laidByText := true, laidKinds := [.data], laidTests := true, laidLooks := .later }
def PlanPartsUptoCardSaid : Prop := Claim7.holds Tryd.pinned (.plain (OpenSpec.upto planPartsSpec)) planPartsUptoCard

/-- THE SECOND FORM's CARD OF 'stoplinelaw17.PlanNames'. -/
def planNamesUptoCard : Claim7 := { stood := { row := planNamesUptoRow, standIns := [], harness := (true, "e859a7787089f6e2f7842dd28d769b4f1494275cbb3fdee1f45d9d3a6f0a3153"), looks := false }, kinds := [], alts := [], laidByText := true, laidKinds := [.data], laidTests := true, laidLooks := .later }
def PlanNamesUptoCardSaid : Prop := Claim7.holds Tryd.pinned (.plain (OpenSpec.upto planNamesSpec)) planNamesUptoCard

/-- THE SECOND FORM's CARD OF 'stoplinelaw17.PlanGoes'. -/
def planGoesUptoCard : Claim7 := { stood := { row := planGoesUptoRow, standIns := [], harness := (true, "e859a7787089f6e2f7842dd28d769b4f1494275cbb3fdee1f45d9d3a6f0a3153"), looks := false }, kinds := [], alts := [], laidByText := true, laidKinds := [.data], laidTests := true, laidLooks := .later }
def PlanGoesUptoCardSaid : Prop := Claim7.holds Tryd.pinned (.plain (OpenSpec.upto planGoesSpec)) planGoesUptoCard

/-- THE SECOND FORM's CARD OF 'stoplinelaw17.PlanLocks'. -/
def planLocksUptoCard : Claim7 := { stood := { row := planLocksUptoRow, standIns := [], harness := (true, "e859a7787089f6e2f7842dd28d769b4f1494275cbb3fdee1f45d9d3a6f0a3153"), looks := false }, kinds := [], alts := [], laidByText := true, laidKinds := [.data], laidTests := true, laidLooks := .later }
def PlanLocksUptoCardSaid : Prop := Claim7.holds Tryd.pinned (.plain (OpenSpec.upto planLocksSpec)) planLocksUptoCard
end Rows
end Go.Proofs.YtfdnmjabjmedgaaDoor
