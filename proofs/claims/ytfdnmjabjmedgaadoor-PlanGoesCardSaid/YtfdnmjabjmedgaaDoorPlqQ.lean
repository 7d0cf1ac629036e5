/- Part of a proof: plain readings of Go functions, their contracts, or plain facts of them. -/
import Derived.Test.YtfdnmjabjmedgaaDoorPlqL
namespace Go.Proofs.YtfdnmjabjmedgaaDoor
open Go.Den

/-! # The greatest time between -/
end Go.Proofs.YtfdnmjabjmedgaaDoor
