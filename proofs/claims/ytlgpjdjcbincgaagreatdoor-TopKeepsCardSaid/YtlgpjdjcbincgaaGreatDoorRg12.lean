/- Part of a proof: plain readings of Go functions, their contracts, or plain facts of them. -/
import Derived.Test.YtlgpjdjcbincgaaGreatDoorRg11
set_option linter.all false
namespace Go.Proofs.YtlgpjdjcbincgaaGreatDoor
open Go.Den Go.RowKit Go.ChangeShapes
set_option maxRecDepth 100000
theorem tN:Tryz.prog.funcs.any Func.goes=false:=by kernel_rfl
theorem tO:(topKeeps_L.any λg=>Tryz.prog.funcs[g]?.any Func.goes)=false:=by kernel_rfl
theorem tL:Tryz.prog.funcNamed Rows.topKeepsRow.func=some 5:=by kernel_rfl
theorem tM:false=Rows.topKeepsRow.goesBy Tryz.pinned.checked.prog:=by show false=((Tryz.prog.funcNamed Rows.topKeepsRow.func).any Tryz.prog.goes||false);rw[tL,Option.any_some,Bool.or_false];unfold Program.goes;rw[Oj,tO,tN,QE];rfl
theorem tR:false=Tryz.pinned.checked.prog.looks []:=by kernel_rfl
end Go.Proofs.YtlgpjdjcbincgaaGreatDoor
