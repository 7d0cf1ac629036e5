/- Part of a proof: plain readings of Go functions, their contracts, or plain facts of them. -/
import Derived.Test.YtfdnmjabjmedgaaDoorPlqA
namespace Go.Proofs.YtfdnmjabjmedgaaDoor
open Go.Den

/-! # The document's look at standings -/
end Go.Proofs.YtfdnmjabjmedgaaDoor
