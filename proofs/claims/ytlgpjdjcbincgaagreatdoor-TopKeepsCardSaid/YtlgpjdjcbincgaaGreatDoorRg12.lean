/- Part of a proof: plain readings of Go functions, their contracts, or plain facts of them. -/
import Derived.Test.YtlgpjdjcbincgaaGreatDoorRg11
namespace Go.Proofs.YtlgpjdjcbincgaaGreatDoor
open Go.Den Go.RowKit Go.ChangeShapes
set_option maxRecDepth 100000
theorem tM:Tryz.prog.funcs.any Func.goes=false:=by kernel_rfl
theorem tN:(topKeeps_L.any λg=>(Tryz.prog.funcs[g]?).any Func.goes)=false:=by kernel_rfl
theorem tK:Tryz.prog.funcNamed Rows.topKeepsRow.func=some 5:=by kernel_rfl
theorem tL:false=Rows.topKeepsRow.goesBy Tryz.pinned.checked.prog:=by show false=((Tryz.prog.funcNamed Rows.topKeepsRow.func).any Tryz.prog.goes||false);rw[tK,Option.any_some,Bool.or_false];unfold Program.goes;rw[Oj,tN,tM,QD];rfl
theorem tQ:false=Tryz.pinned.checked.prog.looks []:=by kernel_rfl
end Go.Proofs.YtlgpjdjcbincgaaGreatDoor
