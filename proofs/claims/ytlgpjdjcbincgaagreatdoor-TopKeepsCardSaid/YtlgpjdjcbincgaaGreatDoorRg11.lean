/- Part of a proof: plain readings of Go functions, their contracts, or plain facts of them. -/
import Derived.Test.YtlgpjdjcbincgaaGreatDoorRg10
import Derived.JoinedOf
set_option linter.all false
namespace Go.Proofs.YtlgpjdjcbincgaaGreatDoor
open Go.Den Go.RowKit Go.ChangeShapes
set_option maxRecDepth 100000
theorem tQ:joinedFacts Tryz.checked.prog 5 Tryz.f5 Rows.topKeepsSpec Rows.topKeepsRow=true:=by show joinedFacts Tryz.prog 5 Tryz.f5 Rows.topKeepsSpec Rows.topKeepsRow=true;unfold joinedFacts;exact C8 (C8 (C8 (C8 (C8 (C8 (C8 (C8 (C8 (C8 (C8 (C8 (C8 (C8 (C8 (C8 (C8 (C8 (C8 (C8 (C8 (C8 (C8 (C8 (C8 (C8 (C8 (C8 (C8 (C8 (C8 (by kernel_rfl) (by kernel_rfl)) (by kernel_rfl)) (by kernel_rfl)) (by kernel_rfl)) (by kernel_rfl)) (by kernel_rfl)) (by kernel_rfl)) (by kernel_rfl)) tP) tT) tS) tU) (by kernel_rfl)) (by kernel_rfl)) (by kernel_rfl)) (by kernel_rfl)) (by kernel_rfl)) (by kernel_rfl)) (by kernel_rfl)) (by kernel_rfl)) (by kernel_rfl)) (by kernel_rfl)) (by kernel_rfl)) (by kernel_rfl)) (by kernel_rfl)) (by kernel_rfl)) (by kernel_rfl)) (by kernel_rfl)) (by kernel_rfl)) (by kernel_rfl)) (by kernel_rfl)
end Go.Proofs.YtlgpjdjcbincgaaGreatDoor
