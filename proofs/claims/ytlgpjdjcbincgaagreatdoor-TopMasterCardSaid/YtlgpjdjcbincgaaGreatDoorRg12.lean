/- Part of a proof: plain readings of Go functions, their contracts, or plain facts of them. -/
import Derived.Test.YtlgpjdjcbincgaaGreatDoorRg11
set_option linter.all false
namespace Go.Proofs.YtlgpjdjcbincgaaGreatDoor
open Go.Den Go.RowKit Go.ChangeShapes
set_option maxRecDepth 100000
theorem Ah3:Tryz.prog.funcs.any Func.goes=false:=by kernel_rfl
theorem Ah4:(topMaster_L.any λg=>Tryz.prog.funcs[g]?.any Func.goes)=false:=by kernel_rfl
theorem Ah1:Tryz.prog.funcNamed Rows.topMasterRow.func=some 3:=by kernel_rfl
theorem Ah2:false=Rows.topMasterRow.goesBy Tryz.pinned.checked.prog:=by show false=((Tryz.prog.funcNamed Rows.topMasterRow.func).any Tryz.prog.goes||false);rw[Ah1,Option.any_some,Bool.or_false];unfold Program.goes;rw[AhO,Ah4,Ah3,AhP];rfl
theorem Ah7:false=Tryz.pinned.checked.prog.looks []:=by kernel_rfl
end Go.Proofs.YtlgpjdjcbincgaaGreatDoor
