/-
  DERIVED. GIVEN WITH THE SEED: THE CARDS: each row of YtiacnaijablgcaaDoorRows.lean that lists a variable, with what it lists TIED to the program's text (the seventh form; the later family's looks); each row that meets fmt, with fmt's text TOLD by the authors' own Lean function (tested against real Go, not proved from fmt's source: count such statements apart). THE CARD IS WHAT COUNTS. Prove the row's statement (the work); the ties are given (YtiacnaijablgcaaDoorTie.lean); close each card by the builder's one call (the guide's Derived/Test/ToyasCard.lean, 'card_holds'). Laid BY PROGRAM, IN A SANDBOX (cutbox-door.mjs). By AI agents, Wed Nov 11 2026. No macro, syntax, notation, axiom, sorry.
-/
import Derived.Test.YtiacnaijablgcaaDoorRows
import GoSem.ClaimSeven
namespace Go.Proofs.YtiacnaijablgcaaDoor
namespace Rows

/-- THE TIED CARD OF 'stoplinelaw13.EyeStays'. -/
def eyeStaysCard : Claim7 := { stood := { row := eyeStaysRow, standIns := [], harness := (true, "c5373c1aa31280eab463bf68fa2851465f4788f9726e524aea2a224aab5ce5ec"), looks := false }, kinds := [], alts := [], laidByText := true, laidKinds := [.data], laidTests := true, laidLooks := .later }
def EyeStaysCardSaid : Prop := Claim7.holds Tryd.pinned (.plain (OpenSpec.ofChange eyeStaysSpec)) eyeStaysCard

/-- THE TIED CARD OF 'stoplinelaw13.EyeIll'. -/
def eyeIllCard : Claim7 := { stood := { row := eyeIllRow, standIns := [], harness := (true, "c5373c1aa31280eab463bf68fa2851465f4788f9726e524aea2a224aab5ce5ec"), looks := false }, kinds := [], alts := [], laidByText := true, laidKinds := [.data], laidTests := true, laidLooks := .later }
def EyeIllCardSaid : Prop := Claim7.holds Tryd.pinned (.plain (OpenSpec.ofChange eyeIllSpec)) eyeIllCard

/-- THE TIED CARD OF 'stoplinelaw14.CallNames'. -/
def callNamesCard : Claim7 := { stood := { row := callNamesRow, standIns := [], harness := (true, "c5373c1aa31280eab463bf68fa2851465f4788f9726e524aea2a224aab5ce5ec"), looks := false }, kinds := [], alts := [], laidByText := true, laidKinds := [.data], laidTests := true, laidLooks := .later }
def CallNamesCardSaid : Prop := Claim7.holds Tryd.pinned (.plain (OpenSpec.ofChange callNamesSpec)) callNamesCard

/-- THE TIED CARD OF 'stoplinelaw14.CallTells'. -/
def callTellsCard : Claim7 := { stood := { row := callTellsRow, standIns := [], harness := (true, "c5373c1aa31280eab463bf68fa2851465f4788f9726e524aea2a224aab5ce5ec"), looks := false }, kinds := [], alts := [], laidByText := true, laidKinds := [.data], laidTests := true, laidLooks := .later }
def CallTellsCardSaid : Prop := Claim7.holds Tryd.pinned (.plain (OpenSpec.ofChange callTellsSpec)) callTellsCard

/-- THE TIED CARD OF 'stoplinelaw14.CallKept'. -/
def callKeptCard : Claim7 := { stood := { row := callKeptRow, standIns := [], harness := (true, "c5373c1aa31280eab463bf68fa2851465f4788f9726e524aea2a224aab5ce5ec"), looks := false }, kinds := [], alts := [], laidByText := true, laidKinds := [.data], laidTests := true, laidLooks := .later }
def CallKeptCardSaid : Prop := Claim7.holds Tryd.pinned (.plain (OpenSpec.ofChange callKeptSpec)) callKeptCard

/-- THE TIED CARD OF 'stoplinelaw14.CallRound'. -/
def callRoundCard : Claim7 := { stood := { row := callRoundRow, standIns := [], harness := (true, "c5373c1aa31280eab463bf68fa2851465f4788f9726e524aea2a224aab5ce5ec"), looks := false }, kinds := [], alts := [], laidByText := true, laidKinds := [.data], laidTests := true, laidLooks := .later }
def CallRoundCardSaid : Prop := Claim7.holds Tryd.pinned (.plain (OpenSpec.ofChange callRoundSpec)) callRoundCard

/-- THE TIED CARD OF 'stoplinelaw14.CallNearest'. -/
def callNearestCard : Claim7 := { stood := { row := callNearestRow, standIns := [], harness := (true, "c5373c1aa31280eab463bf68fa2851465f4788f9726e524aea2a224aab5ce5ec"), looks := false }, kinds := [], alts := [], laidByText := true, laidKinds := [.data], laidTests := true, laidLooks := .later }
def CallNearestCardSaid : Prop := Claim7.holds Tryd.pinned (.plain (OpenSpec.ofChange callNearestSpec)) callNearestCard

/-- THE TIED CARD OF 'stoplinelaw13.EyeAll'. -/
def eyeAllCard : Claim7 := { stood := { row := eyeAllRow, standIns := [], harness := (true, "c5373c1aa31280eab463bf68fa2851465f4788f9726e524aea2a224aab5ce5ec"), looks := false }, kinds := [], alts := [], laidByText := true, laidKinds := [.data], laidTests := true, laidLooks := .later }
def EyeAllCardSaid : Prop := Claim7.holds Tryd.pinned (.plain (OpenSpec.ofChange eyeAllSpec)) eyeAllCard

/-- THE TIED CARD OF 'stoplinelaw13.EyeNames'. -/
def eyeNamesCard : Claim7 := { stood := { row := eyeNamesRow, standIns := [], harness := (true, "c5373c1aa31280eab463bf68fa2851465f4788f9726e524aea2a224aab5ce5ec"), looks := false }, kinds := [], alts := [], laidByText := true, laidKinds := [.data], laidTests := true, laidLooks := .later }
def EyeNamesCardSaid : Prop := Claim7.holds Tryd.pinned (.plain (OpenSpec.ofChange eyeNamesSpec)) eyeNamesCard

/-- THE TIED CARD OF 'stoplinelaw13.EyeTicks'. -/
def eyeTicksCard : Claim7 := { stood := { row := eyeTicksRow, standIns := [], harness := (true, "c5373c1aa31280eab463bf68fa2851465f4788f9726e524aea2a224aab5ce5ec"), looks := false }, kinds := [], alts := [], laidByText := true, laidKinds := [.data], laidTests := true, laidLooks := .later }
def EyeTicksCardSaid : Prop := Claim7.holds Tryd.pinned (.plain (OpenSpec.ofChange eyeTicksSpec)) eyeTicksCard

/-- THE SECOND FORM's CARD OF 'stoplinelaw13.EyeStays'. -/
def eyeStaysUptoCard : Claim7 := { stood := { row := eyeStaysUptoRow, standIns := [], harness := (true, "c5373c1aa31280eab463bf68fa2851465f4788f9726e524aea2a224aab5ce5ec"), looks := false }, kinds := [], alts := [], laidByText := true, laidKinds := [.data], laidTests := true, laidLooks := .later }
def EyeStaysUptoCardSaid : Prop := Claim7.holds Tryd.pinned (.plain (OpenSpec.upto eyeStaysSpec)) eyeStaysUptoCard

/-- THE SECOND FORM's CARD OF 'stoplinelaw13.EyeIll'. -/
def eyeIllUptoCard : Claim7 := { stood := { row := eyeIllUptoRow, standIns := [], harness := (true, "c5373c1aa31280eab463bf68fa2851465f4788f9726e524aea2a224aab5ce5ec"), looks := false }, kinds := [], alts := [], laidByText := true, laidKinds := [.data], laidTests := true, laidLooks := .later }
def EyeIllUptoCardSaid : Prop := Claim7.holds Tryd.pinned (.plain (OpenSpec.upto eyeIllSpec)) eyeIllUptoCard

/-- THE SECOND FORM's CARD OF 'stoplinelaw14.CallNames'. -/
def callNamesUptoCard : Claim7 := { stood := { row := callNamesUptoRow, standIns := [], harness := (true, "c5373c1aa31280eab463bf68fa2851465f4788f9726e524aea2a224aab5ce5ec"), looks := false }, kinds := [], alts := [], laidByText := true, laidKinds := [.data], laidTests := true, laidLooks := .later }
def CallNamesUptoCardSaid : Prop := Claim7.holds Tryd.pinned (.plain (OpenSpec.upto callNamesSpec)) callNamesUptoCard

/-- THE SECOND FORM's CARD OF 'stoplinelaw14.CallTells'. -/
def callTellsUptoCard : Claim7 := { stood := { row := callTellsUptoRow, standIns := [], harness := (true, "c5373c1aa31280eab463bf68fa2851465f4788f9726e524aea2a224aab5ce5ec"), looks := false }, kinds := [], alts := [], laidByText := true, laidKinds := [.data], laidTests := true, laidLooks := .later }
def CallTellsUptoCardSaid : Prop := Claim7.holds Tryd.pinned (.plain (OpenSpec.upto callTellsSpec)) callTellsUptoCard

/-- THE SECOND FORM's CARD OF 'stoplinelaw14.CallKept'. -/
def callKeptUptoCard : Claim7 := { stood := { row := callKeptUptoRow, standIns := [], harness := (true, "c5373c1aa31280eab463bf68fa2851465f4788f9726e524aea2a224aab5ce5ec"), looks := false }, kinds := [], alts := [], laidByText := true, laidKinds := [.data], laidTests := true, laidLooks := .later }
def CallKeptUptoCardSaid : Prop := Claim7.holds Tryd.pinned (.plain (OpenSpec.upto callKeptSpec)) callKeptUptoCard

/-- THE SECOND FORM's CARD OF 'stoplinelaw14.CallRound'. -/
def callRoundUptoCard : Claim7 := { stood := { row := callRoundUptoRow, standIns := [], harness := (true, "c5373c1aa31280eab463bf68fa2851465f4788f9726e524aea2a224aab5ce5ec"), looks := false }, kinds := [], alts := [], laidByText := true, laidKinds := [.data], laidTests := true, laidLooks := .later }
def CallRoundUptoCardSaid : Prop := Claim7.holds Tryd.pinned (.plain (OpenSpec.upto callRoundSpec)) callRoundUptoCard

/-- THE SECOND FORM's CARD OF 'stoplinelaw14.CallNearest'. -/
def callNearestUptoCard : Claim7 := { stood := { row := callNearestUptoRow, standIns := [], harness := (true, "c5373c1aa31280eab463bf68fa2851465f4788f9726e524aea2a224aab5ce5ec"), looks := false }, kinds := [], alts := [], laidByText := true, laidKinds := [.data], laidTests := true, laidLooks := .later }
def CallNearestUptoCardSaid : Prop := Claim7.holds Tryd.pinned (.plain (OpenSpec.upto callNearestSpec)) callNearestUptoCard

/-- THE SECOND FORM's CARD OF 'stoplinelaw13.EyeAll'. -/
def eyeAllUptoCard : Claim7 := { stood := { row := eyeAllUptoRow, standIns := [], harness := (true, "c5373c1aa31280eab463bf68fa2851465f4788f9726e524aea2a224aab5ce5ec"), looks := false }, kinds := [], alts := [], laidByText := true, laidKinds := [.data], laidTests := true, laidLooks := .later }
def EyeAllUptoCardSaid : Prop := Claim7.holds Tryd.pinned (.plain (OpenSpec.upto eyeAllSpec)) eyeAllUptoCard

/-- THE SECOND FORM's CARD OF 'stoplinelaw13.EyeNames'. -/
def eyeNamesUptoCard : Claim7 := { stood := { row := eyeNamesUptoRow, standIns := [], harness := (true, "c5373c1aa31280eab463bf68fa2851465f4788f9726e524aea2a224aab5ce5ec"), looks := false }, kinds := [], alts := [], laidByText := true, laidKinds := [.data], laidTests := true, laidLooks := .later }
def EyeNamesUptoCardSaid : Prop := Claim7.holds Tryd.pinned (.plain (OpenSpec.upto eyeNamesSpec)) eyeNamesUptoCard

/-- THE SECOND FORM's CARD OF 'stoplinelaw13.EyeTicks'. -/
def eyeTicksUptoCard : Claim7 := { stood := { row := eyeTicksUptoRow, standIns := [], harness := (true, "c5373c1aa31280eab463bf68fa2851465f4788f9726e524aea2a224aab5ce5ec"), looks := false }, kinds := [], alts := [], laidByText := true, laidKinds := [.data], laidTests := true, laidLooks := .later }
def EyeTicksUptoCardSaid : Prop := Claim7.holds Tryd.pinned (.plain (OpenSpec.upto eyeTicksSpec)) eyeTicksUptoCard
end Rows
end Go.Proofs.YtiacnaijablgcaaDoor
