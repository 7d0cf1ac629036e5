/- Part of a proof: plain readings of Go functions, their contracts, or plain facts of them. -/
import Derived.Test.YtlgpjdjcbincgaaGreatDoorRg8
import Derived.ArgAppend
import Derived.Deep.RegionHeld
import Derived.Laws.CopyOwn
import Derived.Laws.MakeOwn
import Derived.Lib.BytesEntry
import Derived.Lib.Walk
import Derived.LoopIn
import Derived.LoopNIn
import Derived.LoopTactic
import Derived.OwnWalkIn
import Derived.RangeFuncBound
import Derived.RangeFuncBox
import Derived.RangeFuncCalls
import Derived.RangeFuncFrom
import Derived.RangeFuncLeaves
import Derived.RangeFuncRecord
import Derived.Shelf.Abstract
import Derived.Shelf.Bits.Mul64
import Derived.Shelf.Bytes.SlJoin
import Derived.Tactics
import Derived.TacticsInMore
import Derived.WalkKit
import Derived.LaidLaws
set_option linter.all false
namespace Go.Proofs.YtlgpjdjcbincgaaGreatDoor
open Go.Den Go.RowKit Go.ChangeShapes Go.Shelf
set_option maxRecDepth 100000
noncomputable section
def iK:K:=⟨71,.t (spP [CE,Cb,Jj] [Cb,I64] E7),iL⟩
def oY:K:=kp [iX,iJ,Xo,Sv,Uc,iW,E2,nP,Vg,QU,Xn,ZN,iK] 22 Tryz.f22 {unr:=[(0,5)],joins:=[(6,[.fbox 17 R7 [6,12,13,14,15,16,21,22,23]])]} [CE,H8,Wu] [H8,Jt] MT (d:=5) (il:=[(42,AG Tryz.f42 {}),(39,AG Tryz.f39 {loops:=[(0,[.slot 54 I64,.fbox 0 R7 [6,12,13,14,15,16,21,22,23]])]}),(40,AG Tryz.f40 {loops:=[(0,[.slot 26 I64,.fbox 0 R7 [6,12,13,14,15,16,21,22,23]])]}),(41,AG Tryz.f41 {loops:=[(0,[.slot 23 I64,.fbox 0 R7 [6,12,13,14,15,16,21,22,23]]),(2,[.slot 102 I64,.fbox 0 R7 [6,12,13,14,15,16,21,22,23]])],joins:=[(8,[.fbox 0 R7 [6,12,13,14,15,16,21,22,23]])]})])
def VO:K:=kp [dI,Yq,oY] 10 Tryz.f10 {loops:=[(0,[.slot 35 I64,.box 6 H8]),(2,[.own 14 Jt,.slot 49 I64,.box 9 H8])]} [CE,Nk,Uy] [H8,Ahe,I64] Kg
def sN:K:=kp [Uf,OY] 29 Tryz.f29 {loops:=[(0,[.own 6 U8s,.own 7 U8,.slot 27 I64,.box 9 H7])]} [AS,CI,bE] [Jt,U8s,I64] Xp
def tV:K:=kp [fY,aQ,sN] 16 Tryz.f16 {loops:=[(0,[.slot 4 I64])]} [] [Bo] XC
def qF:K:=kp [zW,zX,aQ,VO,tV] 6 Tryz.f6 {frz:=[3]} [] [Bo] QF
def iT:K:=kp [] 30 Tryz.f30 {loops:=[(0,[.slot 3 I64]),(2,[.slot 4 I64])]} [AS] [Bo] F8
def iV:K:=kp [iT] 17 Tryz.f17 {loops:=[(0,[.slot 3 I64]),(2,[.slot 4 I64]),(4,[.slot 5 I64])]} [CE] [Bo] Ly
def oV:K:=kp [] 19 Tryz.f19 {loops:=[(0,[.slot 3 I64,.slot 4 I64])]} [bE] [I64] MS
def tX:K:=kp [iV,Gv,oV] 8 Tryz.f8 {loops:=[(0,[.slot 7 I64]),(2,[.slot 8 I64,.slot 9 I64]),(4,[.slot 11 I64])]} [CE,Nk,Uy] [Bo] Ok
def top_TopMaster_k:K:=kp [qF,aQ,tX,zX,VO] 3 Tryz.f3 {loops:=[(0,[.own 6 CI,.slot 7 I64]),(2,[.own 8 Wu,.slot 9 I64]),(4,[.slot 13 I64])]} [CE,I64] [Bo] AhN
end
end Go.Proofs.YtlgpjdjcbincgaaGreatDoor
namespace Go.Proofs.YtlgpjdjcbincgaaGreatDoor
open Go.Den Go.RowKit Go.ChangeShapes
theorem Rh {H P w base sp d t e n k fuel cs p} {enc:TypeId×Value->H} (Z:P.underlying t=some (.array n e)) (he:P.underlying e=some (.int k)) (hc:P.cellsOf e=1) (E:P.cellsOf t=n) {c:List Int}
 (h:DataW.trod enc P w base sp d fuel t cs=some (.agg (c.map λm=>.lit (.int k m)),p)):cs=c.map λm=>.int k m:=by
 cases fuel with
 |zero=>simp[DataW.trod] at h
 |succ fuel =>
  unfold DataW.trod at h;rw[Z] at h;simp only at h;split at h
  ·rename_i I;rw[E] at I;simp only[Qdm] at h;obtain⟨xs,J,hd⟩:=h;have g:xs.map (·.1)=c.map λm=>.lit (.int k m):=by simp_all
   have X:xs.length=n:=by simpa using mapM_some_length J
   have o:c.length=n:=by have:=congrArg List.length g<;>grind
   apply List.ext_getElem
   ·simp[I,o]
   ·intro i h1 h2;have hi:i<n:=by omega
    have hg:=mapM_some_get J i i (by simp[hi]);rw[hc] at hg;have v:xs[i]?=some xs[i]:=by simp_all
    rw[v] at hg;obtain⟨m,Y,e2,_⟩:=DataW.trod_int he hg;have e3:(cs.drop (i*1)).take 1=[cs[i]]:=by rw[Qch,List.drop_eq_getElem_cons h1];rfl
    rw[e3] at Y;have e4:cs[i]=.int k m:=by simpa using Y
    have y:(xs.map (·.1))[i]?=some (.lit (.int k m)):=by simp[v,e2]
    rw[g] at y;have e6:c[i]?=some c[i]:=by simp[o,hi]
    rw[Qbf,e6] at y;simp only[Qai,Qaf,DataW.lit.injEq,Lit.int.injEq,true_and] at y;rw[e4,List.getElem_map,y]
  ·cases h
def tab:List Int:=Lib.deBruijn32tab.map λ(n:Nat)=>(n:Int)
def tab64:List Int:=Lib.deBruijn64tab.map λ(n:Nat)=>(n:Int)
theorem Aap {W} (h:laidMet Tryz.prog Rows.topMasterRow.laid W):V W:=by
 obtain⟨ps,⟨g,t,cs,fuel,p,q,h1,h2,h3,h4,⟨g',t',cs',fuel',p',q',k1,k2,k3,k4,_,hps'⟩,hps⟩,_,hz⟩:=h;have hg:= Qag (h1.symm.trans (show _ = some 1 by kernel_rfl));subst hg;have ht:= Qag (h2.symm.trans (show Tryz.prog.globals[1]?.map (·.type)=some 405 by kernel_rfl));subst ht;have hg':= Qag (k1.symm.trans (show _ = some 2 by kernel_rfl));subst hg';have ht':= Qag (k2.symm.trans (show Tryz.prog.globals[2]?.map (·.type)=some 439 by kernel_rfl));subst ht';have hc:cs.toList=tab.map λm=>.int .u8 m:=Rh (n:=32) (e:=5) (by kernel_rfl) (by kernel_rfl) (by kernel_rfl) (by kernel_rfl) h4;have hc':cs'.toList=tab64.map λm=>.int .u8 m:=Rh (n:=64) (e:=5) (by kernel_rfl) (by kernel_rfl) (by kernel_rfl) (by kernel_rfl) k4;have hsz:cs.size=32:=by have:=congrArg List.length hc;simpa[tab,Lib.deBruijn32tab] using this
 have hsz':cs'.size=64:=by have:=congrArg List.length hc';simpa[tab64,Lib.deBruijn64tab] using this
 obtain⟨⟨c,ty,hc1⟩,_⟩:=hz 1 0 (by rw[hps,hsz];simp[MemPlace.row]);obtain⟨⟨c',ty',hc1'⟩,_⟩:=hz 2 0 (by rw[hps,hps',hsz'];simp[MemPlace.row]);have hv:=h3;unfold World.var? at hv;rw[h1] at hv;simp only[Qeh,hc1,Qaf] at hv;subst hv;have hv':=k3;unfold World.var? at hv';rw[k1] at hv';simp only[Qeh,hc1',Qaf] at hv';subst hv';exact ⟨⟨c',ty',hc1',by rw[hc'];simp[tab64]⟩,c,ty,hc1,by rw[hc];simp[tab]⟩
noncomputable def eU (os:Os):World :=
 let w0:=World.holding Tryz.prog os ⟨#[],#[],[]⟩
 {w0 with heap:=(w0.heap.modify 1 fun
   |.cells _ t frozen=>.cells (tab.map λm=>Value.int .u8 m).toArray t frozen
   |o=>o).modify 2 fun
   |.cells _ t frozen=>.cells (tab64.map λm=>Value.int .u8 m).toArray t frozen
   |o=>o}
theorem iH os args:laidMetH Tryz.prog Rows.topMasterRow.laid ((eU os).forCall (λ_ _=>0) ⟨#[],args,[]⟩).memory :=
 laidMet_of_run' 8 (by kernel_rfl) (by kernel_rfl)
end Go.Proofs.YtlgpjdjcbincgaaGreatDoor
