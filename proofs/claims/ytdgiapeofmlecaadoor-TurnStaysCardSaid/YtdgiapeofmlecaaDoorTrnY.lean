/- Part of a proof: plain readings of Go functions, their contracts, or plain facts of them. -/
import Derived.Test.YtdgiapeofmlecaaDoorTrnA
namespace Go.Proofs.YtdgiapeofmlecaaDoor
open Go.Den

/-! # The document's look at standings -/
end Go.Proofs.YtdgiapeofmlecaaDoor
