/- Part of a proof: plain readings of Go functions, their contracts, or plain facts of them. -/
import Derived.Test.YtlgpjdjcbincgaaGreatDoorRg11
import Derived.JoinedOf
set_option linter.all false
namespace Go.Proofs.YtlgpjdjcbincgaaGreatDoor
open Go.Den Go.RowKit Go.ChangeShapes
set_option maxRecDepth 100000
def Aji:joinedFacts Tryz.checked.prog 4 Tryz.f4 Rows.topQuietSpec Rows.topQuietRow=true:=by show joinedFacts Tryz.prog 4 Tryz.f4 Rows.topQuietSpec Rows.topQuietRow=true;unfold joinedFacts;exact C8 (C8 (C8 (C8 (C8 (C8 (C8 (C8 (C8 (C8 (C8 (C8 (C8 (C8 (C8 (C8 (C8 (C8 (C8 (C8 (C8 (C8 (C8 (C8 (C8 (C8 (C8 (C8 (C8 (C8 (C8 (by kernel_rfl) (by kernel_rfl)) (by kernel_rfl)) (by kernel_rfl)) (by kernel_rfl)) (by kernel_rfl)) (by kernel_rfl)) (by kernel_rfl)) (by kernel_rfl)) Ajh) Ajl) Ajk) Ajm) (by kernel_rfl)) (by kernel_rfl)) (by kernel_rfl)) (by kernel_rfl)) (by kernel_rfl)) (by kernel_rfl)) (by kernel_rfl)) (by kernel_rfl)) (by kernel_rfl)) (by kernel_rfl)) (by kernel_rfl)) (by kernel_rfl)) (by kernel_rfl)) (by kernel_rfl)) (by kernel_rfl)) (by kernel_rfl)) (by kernel_rfl)) (by kernel_rfl)) (by kernel_rfl)
end Go.Proofs.YtlgpjdjcbincgaaGreatDoor
