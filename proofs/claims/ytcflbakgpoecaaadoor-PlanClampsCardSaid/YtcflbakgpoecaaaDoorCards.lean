/-
  DERIVED. GIVEN WITH THE SEED: THE CARDS: each row of YtcflbakgpoecaaaDoorRows.lean that lists a variable, with what it lists TIED to the program's text (the seventh form; the later family's looks); each row that meets fmt, with fmt's text TOLD by the authors' own Lean function (tested against real Go, not proved from fmt's source: count such statements apart). THE CARD IS WHAT COUNTS. Prove the row's statement (the work); the ties are given (YtcflbakgpoecaaaDoorTie.lean); close each card by the builder's one call (the guide's Derived/Test/ToyasCard.lean, 'card_holds'). Laid BY PROGRAM, IN A SANDBOX (cutbox-door.mjs). By AI agents, Wed Nov 11 2026. No macro, syntax, notation, axiom, sorry.
-/
import Derived.Test.YtcflbakgpoecaaaDoorRows
import GoSem.ClaimSeven
namespace Go.Proofs.YtcflbakgpoecaaaDoor
namespace Rows

/-- THE TIED CARD OF 'stoplinelaw17.PlanClamps'. -/
def planClampsCard : Claim7 := { stood := { row := planClampsRow, standIns := [], harness := (true, "cc9536d6e28ef4c11a06f08da584d7d483104ad24cc65e7d7a2d35942b7c2adf"), looks := false }, kinds := [], alts := [], laidByText := true, laidKinds := [.data], laidTests := true, laidLooks := .later }
def PlanClampsCardSaid : Prop := Claim7.holds Tryd.pinned (.plain (OpenSpec.ofChange planClampsSpec)) planClampsCard

/-- THE TIED CARD OF 'stoplinelaw17.PlanParts'. -/
def planPartsCard : Claim7 := { stood := { row := planPartsRow, standIns := [], harness := (true, "cc9536d6e28ef4c11a06f08da584d7d483104ad24cc65e7d7a2d35942b7c2adf"), looks := false }, kinds := [], alts := [], laidByText := true, laidKinds := [.data], laidTests := true, laidLooks := .later }
def PlanPartsCardSaid : Prop := Claim7.holds Tryd.pinned (.plain (OpenSpec.ofChange planPartsSpec)) planPartsCard

/-- THE TIED CARD OF 'stoplinelaw17.PlanNames'. -/
def planNamesCard : Claim7 := { stood := { row := planNamesRow, standIns := [], harness := (true, "cc9536d6e28ef4c11a06f08da584d7d483104ad24cc65e7d7a2d35942b7c2adf"), looks := false }, kinds := [], alts := [], laidByText := true, laidKinds := [.data], laidTests := true, laidLooks := .later }
def PlanNamesCardSaid : Prop := Claim7.holds Tryd.pinned (.plain (OpenSpec.ofChange planNamesSpec)) planNamesCard

/-- THE TIED CARD OF 'stoplinelaw17.PlanGoes'. -/
def planGoesCard : Claim7 := { stood := { row := planGoesRow, standIns := [], harness := (true, "cc9536d6e28ef4c11a06f08da584d7d483104ad24cc65e7d7a2d35942b7c2adf"), looks := false }, kinds := [], alts := [], laidByText := true, laidKinds := [.data], laidTests := true, laidLooks := .later }
def PlanGoesCardSaid : Prop := Claim7.holds Tryd.pinned (.plain (OpenSpec.ofChange planGoesSpec)) planGoesCard

/-- THE TIED CARD OF 'stoplinelaw08.SafeTraces'. -/
def safeTracesCard : Claim7 := { stood := { row := safeTracesRow, standIns := [], harness := (true, "cc9536d6e28ef4c11a06f08da584d7d483104ad24cc65e7d7a2d35942b7c2adf"), looks := false }, kinds := [], alts := [], laidByText := true, laidKinds := [.data], laidTests := true, laidLooks := .later }
def SafeTracesCardSaid : Prop := Claim7.holds Tryd.pinned (.plain (OpenSpec.ofChange safeTracesSpec)) safeTracesCard

/-- THE TIED CARD OF 'stoplinelaw08.SafeMeans'. -/
def safeMeansCard : Claim7 := { stood := { row := safeMeansRow, standIns := [], harness := (true, "cc9536d6e28ef4c11a06f08da584d7d483104ad24cc65e7d7a2d35942b7c2adf"), looks := false }, kinds := [], alts := [], laidByText := true, laidKinds := [.data], laidTests := true, laidLooks := .later }
def SafeMeansCardSaid : Prop := Claim7.holds Tryd.pinned (.plain (OpenSpec.ofChange safeMeansSpec)) safeMeansCard

/-- THE TIED CARD OF 'stoplinelaw08.SafeBegins'. -/
def safeBeginsCard : Claim7 := { stood := { row := safeBeginsRow, standIns := [], harness := (true, "cc9536d6e28ef4c11a06f08da584d7d483104ad24cc65e7d7a2d35942b7c2adf"), looks := false }, kinds := [], alts := [], laidByText := true, laidKinds := [.data], laidTests := true, laidLooks := .later }
def SafeBeginsCardSaid : Prop := Claim7.holds Tryd.pinned (.plain (OpenSpec.ofChange safeBeginsSpec)) safeBeginsCard

/-- THE TIED CARD OF 'stoplinelaw08.SafeNames'. -/
def safeNamesCard : Claim7 := { stood := { row := safeNamesRow, standIns := [], harness := (true, "cc9536d6e28ef4c11a06f08da584d7d483104ad24cc65e7d7a2d35942b7c2adf"), looks := false }, kinds := [], alts := [], laidByText := true, laidKinds := [.data], laidTests := true, laidLooks := .later }
def SafeNamesCardSaid : Prop := Claim7.holds Tryd.pinned (.plain (OpenSpec.ofChange safeNamesSpec)) safeNamesCard

/-- THE TIED CARD OF 'stoplinelaw08.SafeSteps'. -/
def safeStepsCard : Claim7 := { stood := { row := safeStepsRow, standIns := [], harness := (true, "cc9536d6e28ef4c11a06f08da584d7d483104ad24cc65e7d7a2d35942b7c2adf"), looks := false }, kinds := [], alts := [], laidByText := true, laidKinds := [.data], laidTests := true, laidLooks := .later }
def SafeStepsCardSaid : Prop := Claim7.holds Tryd.pinned (.plain (OpenSpec.ofChange safeStepsSpec)) safeStepsCard

/-- THE SECOND FORM's CARD OF 'stoplinelaw17.PlanClamps'. -/
def planClampsUptoCard : Claim7 := { stood := { row := planClampsUptoRow, standIns := [], harness := (true, "cc9536d6e28ef4c11a06f08da584d7d483104ad24cc65e7d7a2d35942b7c2adf"), looks := false }, kinds := [], alts := [], laidByText := true, laidKinds := [.data], laidTests := true, laidLooks := .later }
def PlanClampsUptoCardSaid : Prop := Claim7.holds Tryd.pinned (.plain (OpenSpec.upto planClampsSpec)) planClampsUptoCard

/-- THE SECOND FORM's CARD OF 'stoplinelaw17.PlanParts'. -/
def planPartsUptoCard : Claim7 := { stood := { row := planPartsUptoRow, standIns := [], harness := (true, "cc9536d6e28ef4c11a06f08da584d7d483104ad24cc65e7d7a2d35942b7c2adf"), looks := false }, kinds := [], alts := [], laidByText := true, laidKinds := [.data], laidTests := true, laidLooks := .later }
def PlanPartsUptoCardSaid : Prop := Claim7.holds Tryd.pinned (.plain (OpenSpec.upto planPartsSpec)) planPartsUptoCard

/-- THE SECOND FORM's CARD OF 'stoplinelaw17.PlanNames'. -/
def planNamesUptoCard : Claim7 := { stood := { row := planNamesUptoRow, standIns := [], harness := (true, "cc9536d6e28ef4c11a06f08da584d7d483104ad24cc65e7d7a2d35942b7c2adf"), looks := false }, kinds := [], alts := [], laidByText := true, laidKinds := [.data], laidTests := true, laidLooks := .later }
def PlanNamesUptoCardSaid : Prop := Claim7.holds Tryd.pinned (.plain (OpenSpec.upto planNamesSpec)) planNamesUptoCard

/-- THE SECOND FORM's CARD OF 'stoplinelaw17.PlanGoes'. -/
def planGoesUptoCard : Claim7 := { stood := { row := planGoesUptoRow, standIns := [], harness := (true, "cc9536d6e28ef4c11a06f08da584d7d483104ad24cc65e7d7a2d35942b7c2adf"), looks := false }, kinds := [], alts := [], laidByText := true, laidKinds := [.data], laidTests := true, laidLooks := .later }
def PlanGoesUptoCardSaid : Prop := Claim7.holds Tryd.pinned (.plain (OpenSpec.upto planGoesSpec)) planGoesUptoCard

/-- THE SECOND FORM's CARD OF 'stoplinelaw08.SafeTraces'. -/
def safeTracesUptoCard : Claim7 := { stood := { row := safeTracesUptoRow, standIns := [], harness := (true, "cc9536d6e28ef4c11a06f08da584d7d483104ad24cc65e7d7a2d35942b7c2adf"), looks := false }, kinds := [], alts := [], laidByText := true, laidKinds := [.data], laidTests := true, laidLooks := .later }
def SafeTracesUptoCardSaid : Prop := Claim7.holds Tryd.pinned (.plain (OpenSpec.upto safeTracesSpec)) safeTracesUptoCard

/-- THE SECOND FORM's CARD OF 'stoplinelaw08.SafeMeans'. -/
def safeMeansUptoCard : Claim7 := { stood := { row := safeMeansUptoRow, standIns := [], harness := (true, "cc9536d6e28ef4c11a06f08da584d7d483104ad24cc65e7d7a2d35942b7c2adf"), looks := false }, kinds := [], alts := [], laidByText := true, laidKinds := [.data], laidTests := true, laidLooks := .later }
def SafeMeansUptoCardSaid : Prop := Claim7.holds Tryd.pinned (.plain (OpenSpec.upto safeMeansSpec)) safeMeansUptoCard

/-- THE SECOND FORM's CARD OF 'stoplinelaw08.SafeBegins'. -/
def safeBeginsUptoCard : Claim7 := { stood := { row := safeBeginsUptoRow, standIns := [], harness := (true, "cc9536d6e28ef4c11a06f08da584d7d483104ad24cc65e7d7a2d35942b7c2adf"), looks := false }, kinds := [], alts := [], laidByText := true, laidKinds := [.data], laidTests := true, laidLooks := .later }
def SafeBeginsUptoCardSaid : Prop := Claim7.holds Tryd.pinned (.plain (OpenSpec.upto safeBeginsSpec)) safeBeginsUptoCard

/-- THE SECOND FORM's CARD OF 'stoplinelaw08.SafeNames'. -/
def safeNamesUptoCard : Claim7 := { stood := { row := safeNamesUptoRow, standIns := [], harness := (true, "cc9536d6e28ef4c11a06f08da584d7d483104ad24cc65e7d7a2d35942b7c2adf"), looks := false }, kinds := [], alts := [], laidByText := true, laidKinds := [.data], laidTests := true, laidLooks := .later }
def SafeNamesUptoCardSaid : Prop := Claim7.holds Tryd.pinned (.plain (OpenSpec.upto safeNamesSpec)) safeNamesUptoCard

/-- THE SECOND FORM's CARD OF 'stoplinelaw08.SafeSteps'. -/
def safeStepsUptoCard : Claim7 := { stood := { row := safeStepsUptoRow, standIns := [], harness := (true, "cc9536d6e28ef4c11a06f08da584d7d483104ad24cc65e7d7a2d35942b7c2adf"), looks := false }, kinds := [], alts := [], laidByText := true, laidKinds := [.data], laidTests := true, laidLooks := .later }
def SafeStepsUptoCardSaid : Prop := Claim7.holds Tryd.pinned (.plain (OpenSpec.upto safeStepsSpec)) safeStepsUptoCard
end Rows
end Go.Proofs.YtcflbakgpoecaaaDoor
