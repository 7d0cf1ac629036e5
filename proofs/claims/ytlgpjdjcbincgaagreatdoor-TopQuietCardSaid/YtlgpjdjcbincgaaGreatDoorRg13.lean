/- Part of a proof: plain readings of Go functions, their contracts, or plain facts of them. -/
import Derived.Test.YtlgpjdjcbincgaaGreatDoorRg12
set_option linter.all false
namespace Go.Proofs.YtlgpjdjcbincgaaGreatDoor
open Go.Den Go.RowKit Go.ChangeShapes
set_option maxRecDepth 100000
def Ajf:Tryz.prog.funcs.any Func.goes=false:=by kernel_rfl
def Ajg:(Wε.any λg=>Tryz.prog.funcs[g]?.any Func.goes)=false:=by kernel_rfl
def Ajd:Tryz.prog.funcNamed Rows.topQuietRow.func=some 4:=by kernel_rfl
def Aje:false=Rows.topQuietRow.goesBy Tryz.pinned.checked.prog:=by show false=((Tryz.prog.funcNamed Rows.topQuietRow.func).any Tryz.prog.goes||false);rw[Ajd,Option.any_some,Bool.or_false];unfold Program.goes;rw[AiI,Ajg,Ajf,AiL];rfl
def Ajj:false=Tryz.pinned.checked.prog.looks []:=by kernel_rfl
end Go.Proofs.YtlgpjdjcbincgaaGreatDoor
