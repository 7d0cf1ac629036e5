/- Part of a proof: plain readings of Go functions, their contracts, or plain facts of them. -/
import Derived.Test.YtnkhijnppfnomaaDoorLadP
namespace Go.Proofs.YtnkhijnppfnomaaDoor
open Go.Den

theorem ladderNames_law (x : Unit) (_ : FitsAll [] x) : law22_LadderNames_t x = some true := by cases x; kernel_rfl

end Go.Proofs.YtnkhijnppfnomaaDoor
