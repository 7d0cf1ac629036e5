/- Part of a proof: plain readings of Go functions, their contracts, or plain facts of them. -/
import Derived.Test.YtlgpjdjcbincgaaGreatDoorRg10
import Derived.JoinedOf
set_option linter.all false
namespace Go.Proofs.YtlgpjdjcbincgaaGreatDoor
open Go.Den Go.RowKit Go.ChangeShapes
set_option maxRecDepth 100000
theorem Ah6:joinedFacts Tryz.checked.prog 3 Tryz.f3 Rows.topMasterSpec Rows.topMasterRow=true:=by show joinedFacts Tryz.prog 3 Tryz.f3 Rows.topMasterSpec Rows.topMasterRow=true;unfold joinedFacts;exact C8 (C8 (C8 (C8 (C8 (C8 (C8 (C8 (C8 (C8 (C8 (C8 (C8 (C8 (C8 (C8 (C8 (C8 (C8 (C8 (C8 (C8 (C8 (C8 (C8 (C8 (C8 (C8 (C8 (C8 (C8 (by kernel_rfl) (by kernel_rfl)) (by kernel_rfl)) (by kernel_rfl)) (by kernel_rfl)) (by kernel_rfl)) (by kernel_rfl)) (by kernel_rfl)) (by kernel_rfl)) Ah5) Ah9) Ah8) Aia) (by kernel_rfl)) (by kernel_rfl)) (by kernel_rfl)) (by kernel_rfl)) (by kernel_rfl)) (by kernel_rfl)) (by kernel_rfl)) (by kernel_rfl)) (by kernel_rfl)) (by kernel_rfl)) (by kernel_rfl)) (by kernel_rfl)) (by kernel_rfl)) (by kernel_rfl)) (by kernel_rfl)) (by kernel_rfl)) (by kernel_rfl)) (by kernel_rfl)) (by kernel_rfl)
end Go.Proofs.YtlgpjdjcbincgaaGreatDoor
