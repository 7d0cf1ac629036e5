/- Part of a proof: plain readings of Go functions, their contracts, or plain facts of them. -/
import Derived.Test.YtlgpjdjcbincgaaGreatDoorRg6
import Derived.ArgAppend
import Derived.Deep.RegionHeld
import Derived.Laws.CopyOwn
import Derived.Laws.MakeOwn
import Derived.Lib.BytesEntry
import Derived.Lib.Walk
import Derived.LoopIn
import Derived.LoopNIn
import Derived.LoopTactic
import Derived.OwnWalkIn
import Derived.RangeFuncBound
import Derived.RangeFuncBox
import Derived.RangeFuncCalls
import Derived.RangeFuncFrom
import Derived.RangeFuncLeaves
import Derived.RangeFuncRecord
import Derived.Shelf.Abstract
import Derived.Shelf.Bits.Mul64
import Derived.Shelf.Bytes.SlJoin
import Derived.Tactics
import Derived.TacticsInMore
import Derived.WalkKit
set_option linter.all false
namespace Go.Proofs.YtlgpjdjcbincgaaGreatDoor
open Go.Den Go.RowKit Go.ChangeShapes Go.Shelf
set_option maxRecDepth 100000
noncomputable section
def oQ:K:=⟨150,.t (spT [Mi,Bo,ζ] [Mi,ζ] CQ),oR⟩
def xV:K:=ku [Xh] 151 Tryz.f151 {} [Nl,Bo] [Nl,ζ] Tj HK λx _=>xU x
def US:K:=ku [] 288 Tryz.f288 {} [U64] [ζ] JJ GJ UR
def xO:K:=kp [US] 213 Tryz.f213 {} [AS,ζ,Nn,Bo] [Nn] Pc
def AaO:K:=kp [Xd,TS,xO] 152 Tryz.f152 {loops:=[(0,[.slot 23 ζ,.arr 20 Nn])]} [AS,LJ,U32] [LJ,ζ] QX (fr:=true)
def Wd:K:=kp [] 289 Tryz.f289 {} [AS,ζ,ζ] [Bo] Kp
def tZ:K:=kp [Wd] 216 Tryz.f216 {loops:=[(0,[.slot 12 ζ])]} [AS,Ge,ζ] [Bo] Om
def RY:K:=kp [tZ,B9] 153 Tryz.f153 {joins:=[(2,[])],outs:=[(2,[(8,ζ)])]} [AS,Ge,ζ] [Bo,ζ] GA (d:=3) (il:=[(214,AG Tryz.f214 {}),(215,AG Tryz.f215 {})])
def WY:K:=kpp [iA,b9,oQ,xV,AaO,RY,Xa] 91 Tryz.f91 {loops:=[(0,[.slot 42 ζ,.slot 2 U32,.fbox 0 Er [29,31]])]} Er [] Er [] HY
def Sh:K:=kp [B9] 219 Tryz.f219 {} [AS,ζ] [ζ] Ie
def gQ:K:=kp [] 291 Tryz.f291 {loops:=[(0,[.slot 15 ζ])]} [AS,U8s] [ζ] Lm
def lE:K:=kp [gQ] 220 Tryz.f220 {loops:=[(0,[.slot 19 ζ]),(2,[.slot 40 ζ])]} [AS,U8s,U8s] [Bo,ζ] Mp
def rH:K:=kp [Sh,lE] 155 Tryz.f155 {} [AS,ζ,U8s,U8s] [ζ,ζ] N0
def bY:K:=kp [Sh] 156 Tryz.f156 {} [AS,ζ] [Bo,ζ] KD
def Uo:K:=kpp [rH,MD,bY,Km,Zy,VD] 92 Tryz.f92 {loops:=[(0,[.own 4 U8,.slot 21 ζ])],joins:=[(10,[.slot 7 ζ])]} Er [] Er [YK,YM] G3
def VA:K:=kr [ZD] 162 Tryz.f162 {loops:=[(0,[.slot 3 U32,.slot 17 ζ]),(2,[.slot 6 Bo,.slot 28 ζ])]} Er [] [U32] Hv
def pO:K:=kp [] 224 Tryz.f224 {loops:=[(0,[.slot 5 U32,.slot 11 ζ])]} [AS,U32] [U32] M0
def pN:K:=kp [Rq] 225 Tryz.f225 {} [U32,ζ,ζ] [ζ] MZ
def tY:K:=kp [Wd] 230 Tryz.f230 {loops:=[(0,[.slot 13 ζ,.arr 10 U8])]} [AS,ζ] [U8s] Ol
def XD:K:=kp [tY,B9] 164 Tryz.f164 {joins:=[(2,[])],outs:=[(2,[(6,ζ)])]} [AS,ζ] [U8s,ζ] ES (d:=3) (il:=[(214,AG Tryz.f214 {}),(229,AG Tryz.f229 {})])
def zH:K:=kp [B9,RY,pO,pN,XD] 161 Tryz.f161 {} [AS,Acu,Ge,U32,U32] [Acu,U8s,ζ] Pk
attribute [local go_sem] Oper.semAt_some
attribute [local go_sem] Oper.semAt_some
abbrev SL (L:Nat):Type:={k:Nat // k<L}
def Ib (L k:Nat):List (SL L):=(List.range k).filterMap λj=>if h:j<L then some ⟨j,h⟩ else none
def Mo {L k} h:Ib L (k+1)=Ib L k++[⟨k,h⟩]:=by unfold Ib;rw[Qdf,List.filterMap_append];simp[h]
def Nu {L}:∀k:Nat,k<=L->(Ib L k).length=k
 |0,_=>rfl
 |k+1,h=>by rw[Mo (by omega),Qau,Nu k (by omega)];rfl
def W8 {L k} j (h:j.1<k):j∈Ib L k:=by unfold Ib<;>grind
def WR n:wr .i64 n=wrap64 n:=by unfold wr wrap64;rw[IntKind.wrap_i64]
def UJ zs k:CJ zs (k+1)=wrap64 (CJ zs k+zs[k]?.getD 0):=WR _
set_option maxRecDepth 100000 in
set_option maxHeartbeats 4000000 in
def Aaw (F:Fence) (n:Nat) (h8:F.fn 319) (E:F.round=none) (hn:1<=n) (l I n₀ b off len cap:Nat) (c0 o0:Int) (zs:List Int) (y:len<=1000000) (hb:b<n₀) (J Jx:List (SL len)->World->Prop)
 (hY:∀pre x W,J pre W->pre.length<len->YieldAt F (n-1) Tryz.prog l #[.int .i64 (x.1:Int),.int .i64 (CJ zs (x.1+1))] W λe W' =>(e=.returned (.bool true)/\J (pre++[x]) W'/\Below n₀ W W')\/(e=.returned (.bool false)/\Jx (pre++[x]) W'))
 (W:World) (X:W.heap[I]?=some (.cells #[.int .i64 c0,.int .i64 o0,.slice (some ⟨b,off,none⟩) len cap] 73 (0,0))) (hc:∀j,j<len->W.cell? ⟨b,off+j,none⟩=some (.int .i64 (zs[j]?.getD 0))) (h0:J [] W) :
 CallsIn F n Tryz.prog 319 #[.func (.yield l) #[] #[],.pointer (some ⟨I,0,none⟩)] W λe W'=>(∃v,e=.returned v) /\
  ((∃ys,ys=Ib len len/\J ys W')\/(∃pre,(∃k,k<=len/\pre=Ib len k)/\Jx pre W')):=by
 have a7:W.cell? ⟨I,2,none⟩=some (.slice (some ⟨b,off,none⟩) len cap):=by simp[World.cell?,X]
 refine callsIn_of_wp Tryz.func319 rfl h8 ?_ E
 simp only[Tryz.ntmps319,Qbk,Qay,Qbu,Nat.reduceAdd,Nat.reduceSub,Qbw,Qbx,Qcj,Qbz,Qaz,Qbs]
 gi_wp2
 gi_loopw [3,9] (λe i wr=>∃k:Nat,k<=len/\e=.int .i64 (CJ zs k)/\i=.int .i64 k/\J (Ib len k) wr/\Below n₀ W wr)
  (λ_ i _=>len-(intOf i).toNat)
 case atStart=>exact ⟨0,Qaw _,rfl,rfl,h0,Below.refl _ _⟩
 case round =>
  obtain⟨k,hk,rfl,rfl,d,g⟩:=hrel;have Y:k<len->wr.cell? ⟨b,off+k,none⟩=some (.int .i64 (zs[k]?.getD 0)):=λh=>(g.cell (p:=⟨b,off+k,none⟩) hb).trans (hc k h);by_cases c:k<len
  .obtain⟨fn,tmps,assign,body,hy,hR⟩:=hY _ ⟨k,c⟩ wr d (by rw[Nu _ hk];exact c);simp only[UJ] at hy;have a6:=Y c;gi_wp2;refine hR.mono ?_;rintro e W3 (⟨rfl,Z,a1⟩|⟨rfl,t⟩)
   .gi_wp2;go_roundw;case rel=>exact ⟨k+1,by omega,by rw[UJ],by simp,by rw[Mo c];exact Z,g.trans a1⟩
    case measure=>simp[intOf];omega
   .gi_wp2;refine bodyPost_ret (results_none rfl _ _ _) rfl ?_;exact ⟨⟨_,rfl⟩,.inr ⟨_,⟨k+1,by omega,(Mo c).symm⟩,t⟩⟩
  .obtain rfl:k=len:=by omega
   gi_wp2;go_end0;exact ⟨⟨_,rfl⟩,.inl ⟨_,rfl,d⟩⟩
set_option maxRecDepth 100000 in
set_option maxHeartbeats 1000000 in
def gP (F:Fence) (n:Nat) (t:F.fn 319) (c:F.round=none) (l d:Nat) (c0 y:Int) (ad:Option Addr) (cap:Nat) {L:Nat} (J:List (SL L)->World->Prop) (W:World) (g:W.heap[d]?=some (.cells #[.int .i64 c0,.int .i64 y,.slice ad 0 cap] 73 (0,0))) (h0:J [] W) :
 CallsIn F n Tryz.prog 319 #[.func (.yield l) #[] #[],.pointer (some ⟨d,0,none⟩)] W λe W'=>(∃v,e=.returned v)/\J [] W':=by
 have E:W.cell? ⟨d,2,none⟩=some (.slice ad 0 cap):=by simp[World.cell?,g]
 refine callsIn_of_wp Tryz.func319 rfl t ?_ c;simp only[Tryz.ntmps319,Qbk,Qay,Qbu,Nat.reduceAdd,Nat.reduceSub,Qbw,Qbx,Qcj,Qbz,Qaz,Qbs];gi_wp2;gi_loopw [9] (λi wr=>i=.int .i64 0/\J [] wr) (λ_ _=>0);case atStart=>exact ⟨rfl,h0⟩
 case round =>obtain⟨rfl,h⟩:=hrel;gi_wp2;go_end0;exact ⟨⟨_,rfl⟩,h⟩
set_option maxHeartbeats 1000000 in
def Acy (F:Fence) (n:Nat) (h:F.fn 293) (c:F.round=none) (c0 d:Int) (g:Value) (w:World) :
 CallsIn F n Tryz.prog 293 #[.agg #[.int .i64 c0,.int .i64 d,g]] w λe w'=>e=.returned (.func (.func 319) #[] #[.pointer (some ⟨w.heap.size,0,none⟩)])/\w'=w.alloc (.cells #[.int .i64 c0,.int .i64 d,g] 73):=by refine callsIn_of_wp Tryz.func293 rfl h ?_ c;simp only[Tryz.ntmps293,Qbk,Qay,Qbu,Nat.reduceAdd,Nat.reduceSub,Qbw,Qbx,Qcj,Qbz,Qaz,Qbs];gi_wp2;go_ret;exact ⟨rfl,rfl⟩
def Rε (n₀:Nat) (W:World) (c:Value) (zs:List Int):Prop :=
 (∃ad cap,c=.slice ad 0 cap/\zs=[])\/∃b off cap,c=.slice (some ⟨b,off,none⟩) zs.length cap/\b<n₀/\∀j,j<zs.length->W.cell? ⟨b,off+j,none⟩=some (.int .i64 (zs[j]?.getD 0))
def Rε.below {n₀ A B c zs} (h:Below n₀ A B):Rε n₀ A c zs->Rε n₀ B c zs
 |.inl e=>.inl e
 |.inr ⟨b,off,cap,e,d,g⟩=>.inr ⟨b,off,cap,e,d,λj t=>(h.cell d).trans (g j t)⟩
def Acz F n (X:F.fn 319) (h:F.round=none) (hn:1<=n) g n₀ c0 y E zs (c:zs.length<=1000000) w (d:n₀<=w.heap.size)
 (Y:w.heap[g]?=some (.cells #[.int .i64 c0,.int .i64 y,E] 73 (0,0))) (hI:Rε n₀ w E zs) :
 SeqStopsK F n Tryz.prog 319 #[.pointer (some ⟨g,0,none⟩)] (λx:SL zs.length=>#[Value.int .i64 (x.1:Int),Value.int .i64 (CJ zs (x.1+1))]) (Below n₀) (λys=>ys=Ib zs.length zs.length) (λpre=>∃k,k<=zs.length/\pre=Ib zs.length k) zs.length w:=λl J Jx W Z _ _ hY h0=>by
 have t:W.heap[g]?=some (.cells #[.int .i64 c0,.int .i64 y,E] 73 (0,0)):=by rw[Z.block g (Array.getElem?_eq_some_iff.1 Y).1];exact Y
 rcases hI.below (Z.mono d) with ⟨ad,cap,rfl,rfl⟩|⟨b,off,cap,rfl,hb,I⟩
 .exact (gP F n X h l g c0 y ad cap J W t h0).mono λe W' ⟨he,hj⟩=>⟨he,.inl ⟨_,rfl,hj⟩⟩
 .refine (Aaw F n X h hn l g n₀ b off zs.length cap c0 y zs c hb J Jx hY W t I h0).mono ?_<;>simp_all
def XG {F n P ops Q} (Inv:Array Bool->Act->World->Prop)
 (d:∀L a w i,Inv L a w->i∈Region.ready .any ops L->wpOpIn F n P ops Q i (Inv (L.setIfInBounds i true)) a w)
 (c:∀L a w,Inv L a w->Region.ready .any ops L=[]->Q .normal a w) :
 ∀fuel L a w,Inv L a w->L.toList.countP (λb=>!b)<=fuel->wpAnyIn F n P .any ops Q fuel L a w
 |0,L,a,w,g,E=>by
  have h:Region.ready .any ops L=[]:=by
   cases h:Region.ready .any ops L with
   |nil=>rfl
   |cons i r =>
    obtain⟨o,_,y,_⟩:=qε.1 (show i∈Region.ready .any ops L by simp_all);have I:false∈L.toList:=by grind
    have:=List.countP_pos_iff (p:=λb=>!b) |>.2 ⟨false,I,rfl⟩
    omega
  exact ⟨h,c L a w g h⟩
 |fuel+1,L,a,w,g,E=>by refine ⟨c L a w g,λi hi=>?_⟩;obtain⟨o,_,y,_⟩:=qε.1 hi;obtain⟨J,Y⟩:=Array.getElem?_eq_some_iff.1 y;refine wpOpIn_mono (λX w' t=>XG Inv d c fuel _ X w' t ?_) (d L a w i g hi)<;>grind
def wO {ops L} (I:Region.ready .any ops L=[]) (t:L.size=ops.size) (c:Nw 0 ops.toList=true):∀i,i<ops.size->L[i]?=some true:=by
 intro i;induction i using Nat.strongRecOn with
 |_ i J =>
  intro hi;have d:i<L.size:=by omega
  cases g:L[i]'d with
  |true=>rw[Array.getElem?_eq_getElem d,g]
  |false =>exfalso;have X:i∈Region.ready .any ops L:=qε.2 ⟨ops[i],by simp[hi],by rw[Array.getElem?_eq_getElem d,g],λe y E=>by have h:=PX c i ops[i] (by simp[hi]) e y E<;>grind⟩<;>simp_all
def IE (pp b off cap n k:Nat) (en pl z:Int):Nat->Value
 |0=>.int .i64 k
 |1=>.int .i64 pl
 |2=>.int .i64 en
 |3=>.int .i64 (wrap64 (pl-en))
 |4=>.pointer (some ⟨pp,2,none⟩)
 |5=>.slice (some ⟨b,off,none⟩) n cap
 |6=>.int .i64 k
 |7=>.pointer (some ⟨b,off+k,none⟩)
 |8=>.int .i64 z
 |_=>.int .i64 (wrap64 (wrap64 (pl-en)+z))
structure Fε (H:Nat) (w0:World) (ip jp ep cp pp b off cap n k:Nat) (en pl z:Int) (V0:World) (L:Array Bool) (a:Act) (U:World):Prop where
 others:KeepsOthers V0 U
 size:L.size=13
 len:a.tmps.size=58
 t4:a.tmps.getD 4 undef=.pointer (some ⟨pp,0,none⟩)
 t6:a.tmps.getD 6 undef=.pointer (some ⟨ip,0,none⟩)
 t7:a.tmps.getD 7 undef=.pointer (some ⟨jp,0,none⟩)
 t8:a.tmps.getD 8 undef=.pointer (some ⟨ep,0,none⟩)
 t10:a.tmps.getD 10 undef=.pointer (some ⟨cp,0,none⟩)
 t11:a.tmps.getD 11 undef=.int .i64 k
 t12:a.tmps.getD 12 undef=.int .i64 en
 v:∀j,j<10->L[j]?=some true->a.tmps.getD (48+j) undef=IE pp b off cap n k en pl z j
 cpl:U.cell? ⟨cp,0,none⟩=some (.int .i64 pl)
 csl:U.cell? ⟨pp,2,none⟩=some (.slice (some ⟨b,off,none⟩) n cap)
 cz:U.cell? ⟨b,off+k,none⟩=some (.int .i64 z)
 fi:U.frozen? ⟨ip,0,none⟩=false
 fj:U.frozen? ⟨jp,0,none⟩=false
 fe:U.frozen? ⟨ep,0,none⟩=false
 ci:(U.cell? ⟨ip,0,none⟩).isSome=true
 cj:(U.cell? ⟨jp,0,none⟩).isSome=true
 ce:(U.cell? ⟨ep,0,none⟩).isSome=true
 di:L[10]?=some true->U.cell? ⟨ip,0,none⟩=some (.int .i64 k)
 dj:L[11]?=some true->U.cell? ⟨jp,0,none⟩=some (.int .i64 (wrap64 (wrap64 (pl-en)+z)))
 de:L[12]?=some true->U.cell? ⟨ep,0,none⟩=some (.int .i64 0)
 below:Below H w0 U
section
variable {H:Nat} {w0:World} {ip jp ep cp pp b off cap n k:Nat} {en pl z:Int} {V0:World} {L:Array Bool} {a:Act} {U:World} {l m:Nat} {P:Program} {ops:Array Oper} {Q:Exit->Act->World->Prop}
def J3 {a:Act} {s t:Nat} {v:Value} (c:s<a.tmps.size):(a.put (some s) v).tmps.getD t undef=if t=s then v else a.tmps.getD t undef:=by simp only[Act.put,Qao,Array.getElem?_setIfInBounds]<;>grind
def Fε.put {i} (h:Fε H w0 ip jp ep cp pp b off cap n k en pl z V0 L a U) (hi:i<10):Fε H w0 ip jp ep cp pp b off cap n k en pl z V0 (L.setIfInBounds i true) (a.put (some (48+i)) (IE pp b off cap n k en pl z i)) U:=by
 have c:48+i<a.tmps.size:=by rw[h.len];omega
 have d:∀j,j≠i->(L.setIfInBounds i true)[j]?=L[j]?:=λj g=>by grind
 refine ⟨h.others,by simp[h.size],by simp[Act.put,h.len],?_,?_,?_,?_,?_,?_,?_,?_,h.cpl,h.csl,h.cz,h.fi,h.fj,h.fe,h.ci,h.cj,h.ce,?_,?_,?_,h.below⟩
 .rw[J3 c,if_neg (by omega)];exact h.t4
 .rw[J3 c,if_neg (by omega)];exact h.t6
 .rw[J3 c,if_neg (by omega)];exact h.t7
 .rw[J3 c,if_neg (by omega)];exact h.t8
 .rw[J3 c,if_neg (by omega)];exact h.t10
 .rw[J3 c,if_neg (by omega)];exact h.t11
 .rw[J3 c,if_neg (by omega)];exact h.t12
 .intro j g t;rw[J3 c];by_cases e:j=i
  .rw[if_pos (by omega),e]
  .rw[if_neg (by omega)];exact h.v j g (by rw[<-d j e];exact t)
 .rw[d 10 (by omega)];exact h.di
 .rw[d 11 (by omega)];exact h.dj
 .rw[d 12 (by omega)];exact h.de
def K0 {i o} (h:Fε H w0 ip jp ep cp pp b off cap n k en pl z V0 L a U) (y:ops[i]?=some o) (hg:o.guard=none) (t:∀c,o.op≠.defer c) (E:∀w I,o.about P w I=none) (hi:i<10) (d:o.dst=some (48+i))
 (g:(execOp a.eval o).run P U=.ok (.value (IE pp b off cap n k en pl z i)) U):wpOpIn (Fence.wide.inRound l) m P ops Q i (Fε H w0 ip jp ep cp pp b off cap n k en pl z V0 (L.setIfInBounds i true)) a U:=by refine wpOpIn_step y λX J=>?_;rw[if_pos (by simp[Region.wanted,hg])];refine ⟨λf Y=>by simp_all,?_⟩;rw[Fence.inRound_round,Oper.semAt_some _ _ _ t,g,Oper.uponIn_value,d];exact J _ _ (h.put hi)
def bW {i o U'} (y:ops[i]?=some o) (hg:o.guard=none) (t:∀c,o.op≠.defer c) (E:∀w I,o.about P w I=none) (d:o.dst=none)
 (g:(execOp a.eval o).run P U=.ok .skip U') (h:Fε H w0 ip jp ep cp pp b off cap n k en pl z V0 (L.setIfInBounds i true) a U'):wpOpIn (Fence.wide.inRound l) m P ops Q i (Fε H w0 ip jp ep cp pp b off cap n k en pl z V0 (L.setIfInBounds i true)) a U:=by refine wpOpIn_step y λX J=>?_;rw[if_pos (by simp[Region.wanted,hg])];refine ⟨λf Y=>by simp_all,?_⟩;rw[Fence.inRound_round,Oper.semAt_some _ _ _ t,g,Oper.uponIn_skip,d];exact J _ _ h
def Fε.mark {i c} (h:Fε H w0 ip jp ep cp pp b off cap n k en pl z V0 L a U) (hi:10<=i) {v} (J:i=10/\c=ip/\v=.int .i64 k\/i=11/\c=jp/\v=.int .i64 (wrap64 (wrap64 (pl-en)+z))\/i=12/\c=ep/\v=.int .i64 0)
 (hd:ip≠jp/\ip≠ep/\jp≠ep/\(cp≠ip/\cp≠jp/\cp≠ep)/\(pp≠ip/\pp≠jp/\pp≠ep)/\b≠ip/\b≠jp/\b≠ep) (hH:H<=ip/\H<=jp/\H<=ep) :
 Fε H w0 ip jp ep cp pp b off cap n k en pl z V0 (L.setIfInBounds i true) a (U.setCell ⟨c,0,none⟩ v):=by
 have I:∀j,j≠i->(L.setIfInBounds i true)[j]?=L[j]?:=λj Y=>by grind
 have X:H<=c:=by omega
 have g:∀q o,q≠c->(U.setCell ⟨c,0,none⟩ v).cell? ⟨q,o,none⟩=U.cell? ⟨q,o,none⟩:=λq o Z=>World.cell?_setCell_far _ _ _ _ λe=>Z e.symm;have E:∀q,(U.setCell ⟨c,0,none⟩ v).frozen? ⟨q,0,none⟩=U.frozen? ⟨q,0,none⟩:=λq=>World.frozen?_setCell _ _ _ _;have t:(U.cell? ⟨c,0,none⟩).isSome=true->(U.setCell ⟨c,0,none⟩ v).cell? ⟨c,0,none⟩=some v:=λhs=>World.cell?_setCell_same' _ _ _ hs;obtain⟨d1,d2,d3,⟨d4,d5,d6⟩,⟨d7,d8,d9⟩,d10,d11,d12⟩:=hd;have d:∀q,(U.cell? ⟨q,0,none⟩).isSome=true->((U.setCell ⟨c,0,none⟩ v).cell? ⟨q,0,none⟩).isSome=true:=λq Z=>by grind
 refine ⟨h.others.trans (KeepsOthers.setCell _ _ _),by simp[h.size],h.len,h.t4,h.t6,h.t7,h.t8,h.t10,h.t11,h.t12,λj Y y=>h.v j Y (by grind),?_,?_,?_,by rw[E];exact h.fi,by rw[E];exact h.fj,by rw[E];exact h.fe,d _ h.ci,d _ h.cj,d _ h.ce,?_,?_,?_,h.below.setCell X v⟩
 .rw[g _ _ (by omega)];exact h.cpl
 .rw[g _ _ (by omega)];exact h.csl
 .rw[g _ _ (by omega)];exact h.cz
 .intro y;rcases J with ⟨rfl,rfl,rfl⟩|⟨rfl,rfl,rfl⟩|⟨rfl,rfl,rfl⟩
  .exact t h.ci
  .rw[g _ _ (by omega)];exact h.di (by rw[<-I 10 (by omega)];exact y)
  .rw[g _ _ (by omega)];exact h.di (by rw[<-I 10 (by omega)];exact y)
 .intro y;rcases J with ⟨rfl,rfl,rfl⟩|⟨rfl,rfl,rfl⟩|⟨rfl,rfl,rfl⟩
  .rw[g _ _ (by omega)];exact h.dj (by rw[<-I 11 (by omega)];exact y)
  .exact t h.cj
  .rw[g _ _ (by omega)];exact h.dj (by rw[<-I 11 (by omega)];exact y)
 .intro y;rcases J with ⟨rfl,rfl,rfl⟩|⟨rfl,rfl,rfl⟩|⟨rfl,rfl,rfl⟩
  .rw[g _ _ (by omega)];exact h.de (by rw[<-I 12 (by omega)];exact y)
  .rw[g _ _ (by omega)];exact h.de (by rw[<-I 12 (by omega)];exact y)
  .exact t h.ce
end
def AtI (H:Nat) (w0:World) (pp ip jp ep cp:Nat) (c:Value) (pl:Int) (zs:List Int) (pre:List (SL zs.length)) (W:World):Prop :=
 ((∀k∈pre,¬pl<CJ zs (k.1+1))/\W.cell? ⟨pp,2,none⟩=some c/\W.cell? ⟨ip,0,none⟩=some (.int .i64 0)/\W.frozen? ⟨ip,0,none⟩=false /\
   W.cell? ⟨jp,0,none⟩=some (.int .i64 0)/\W.frozen? ⟨jp,0,none⟩=false/\W.cell? ⟨ep,0,none⟩=some (.int .i64 0)/\W.frozen? ⟨ep,0,none⟩=false/\W.cell? ⟨cp,0,none⟩=some (.int .i64 pl))/\Below H w0 W
def AtX (H:Nat) (w0:World) (ip jp ep:Nat) (pl:Int) (zs:List Int) (c:Code) (pre:List (SL zs.length)) (W:World):Prop :=
 (c=.ret/\∃(d:List (SL zs.length)) (k:SL zs.length),pre=d++[k]/\(∀j∈d,¬pl<CJ zs (j.1+1))/\pl<CJ zs (k.1+1)/\W.cell? ⟨ip,0,none⟩=some (.int .i64 (k.1:Int)) /\
   W.cell? ⟨jp,0,none⟩=some (.int .i64 (wrap64 (wrap64 (pl-CJ zs (k.1+1))+zs[k.1]?.getD 0)))/\W.cell? ⟨ep,0,none⟩=some (.int .i64 0))/\Below H w0 W
def W7 {l pl}:∀n k j,k<=j->j<k+n->(∀i,k<=i->i<j->¬pl<CJ l (i+1))->pl<CJ l (j+1)->JA l pl n k=((j:Int),(wr .i64 (wr .i64 (pl-CJ l (j+1))+l[j]?.getD 0),0))
 |0,k,j,h1,d,_,_=>by omega
 |n+1,k,j,h1,d,c,g=>by
  rw[JA];by_cases e:k=j
  .simp_all
  .rw[if_neg (c k (χ _) (by omega))];exact W7 n (k+1) j (by omega) (by omega) (λi hi h=>c i (by omega) h) g
def Zb {l pl}:∀n k,(∀i,k<=i->i<k+n->¬pl<CJ l (i+1))->JA l pl n k=(0,(0,170))
 |0,k,_=>rfl
 |n+1,k,c=>by rw[JA,if_neg (c k (χ _) (by omega))];exact Zb n (k+1) λi hi d=>c i (by omega) (by omega)
def Ga (zs:List Int) (cy of tk c:Int) (is:Bool):Int×Int×Int :=
 if c≠0 then (0,(0,c)) else if is=false then (0,(0,170)) else if tk<0\/1073741824<tk then (0,(0,2)) else JA zs ((wrap64 (wrap64 (tk+cy)-of)).tmod cy) zs.length 0
def Sf {H w0 W ip jp ep x y z} (d:Below H w0 W) (c:H<=ip/\H<=jp/\H<=ep) (g:ip≠jp/\ip≠ep/\jp≠ep) (ci:(W.cell? ⟨ip,0,none⟩).isSome=true) (cj:(W.cell? ⟨jp,0,none⟩).isSome=true) (ce:(W.cell? ⟨ep,0,none⟩).isSome=true) :
 Below H w0 (((W.setCell ⟨ip,0,none⟩ (.int .i64 x)).setCell ⟨jp,0,none⟩ (.int .i64 y)).setCell ⟨ep,0,none⟩ (.int .i64 z)) /\
 (((W.setCell ⟨ip,0,none⟩ (.int .i64 x)).setCell ⟨jp,0,none⟩ (.int .i64 y)).setCell ⟨ep,0,none⟩ (.int .i64 z)).cell? ⟨ip,0,none⟩=some (.int .i64 x) /\
 (((W.setCell ⟨ip,0,none⟩ (.int .i64 x)).setCell ⟨jp,0,none⟩ (.int .i64 y)).setCell ⟨ep,0,none⟩ (.int .i64 z)).cell? ⟨jp,0,none⟩=some (.int .i64 y) /\
 (((W.setCell ⟨ip,0,none⟩ (.int .i64 x)).setCell ⟨jp,0,none⟩ (.int .i64 y)).setCell ⟨ep,0,none⟩ (.int .i64 z)).cell? ⟨ep,0,none⟩=some (.int .i64 z):=by obtain⟨d1,t,E⟩:=g;have f:∀(U:World) (p q:Nat) (v:Value),p≠q->(U.setCell ⟨p,0,none⟩ v).cell? ⟨q,0,none⟩=U.cell? ⟨q,0,none⟩:=λU p q v h=>World.cell?_setCell_far _ _ _ _ h;have s:∀(U:World) (p:Nat) (v:Value),(U.cell? ⟨p,0,none⟩).isSome=true->(U.setCell ⟨p,0,none⟩ v).cell? ⟨p,0,none⟩=some v:=λU p v h=>World.cell?_setCell_same' _ _ _ h;refine ⟨((d.setCell c.1 _).setCell c.2.1 _).setCell c.2.2 _,?_,?_,?_⟩<;>grind
def wT {D q v ds} {W:World} (c:W.heap[D]?=some (.deferred ds)) (d:W.cell? ⟨q,0,none⟩=some v) (e:D=q):False:=by subst e;simp[World.cell?,c] at d
def vQ (zs:List Int) (cy of tk c:Int) (is:Bool) (e:Ending):Prop:=inR .i64 c=true/\∃x y z:Int,(x,(y,z))=Ga zs cy of tk c is/\e=.returned (.tuple #[.int .i64 x,.int .i64 y,.int .i64 z])
set_option maxRecDepth 100000 in
set_option maxHeartbeats 8000000 in
def Aep (w:World) (c1 c2 c3 c4 c5 c6 c7 c8 c9 a1 a6 a7:Value) (cy of tk er:Int) (is:Bool) (sv:Value) (zs:List Int)
 (d:Rε w.heap.size w sv zs)
 (hP:∀W,Below w.heap.size w W->CallsIn Fence.wide 3 Tryz.prog 27 #[.agg #[c1,c2,c3,c4,c5,c6,c7,c8,c9,a1,a6,a7],.agg #[.int .i64 cy,.int .i64 of,sv]] W λe W'=>e=.returned (.tuple #[.bool is,.int .i64 er])/\Below W.heap.size W W'/\inR .i64 er=true) (ay:er=0->is=true->0<=tk->tk<=1073741824->cy≠0/\zs.length<=1000000) :
 CallsIn Fence.wide 4 Tryz.prog 227 #[.agg #[c1,c2,c3,c4,c5,c6,c7,c8,c9,a1,a6,a7],.agg #[.int .i64 cy,.int .i64 of,sv],.int .i64 tk] w λe W'=>vQ zs cy of tk er is e/\Below w.heap.size w W':=by
 refine callsIn_of_wp_marks Tryz.func227 rfl trivial ?_ rfl;simp only[Tryz.ntmps227,Qbk,Qay,Qbu,Nat.reduceAdd,Nat.reduceSub,Qbw,Qbx,Qcj,Qbz,Qaz,Qbs];gi_wp2;obtain⟨W0,ah⟩:∃W0,(((((w.alloc (.cells #[c1,c2,c3,c4,c5,c6,c7,c8,c9,a1,a6,a7] 60)).alloc (.cells #[.int .i64 cy,.int .i64 of,sv] 73)).alloc (.cells #[.int .i64 0] 3)).alloc (.cells #[.int .i64 0] 3)).alloc (.cells #[.int .i64 0] 51))=W0:=⟨_,rfl⟩;have bo:W0.heap.size=w.heap.size+5:=by rw[<-ah];simp
 have ak:Below w.heap.size w W0:=by rw[<-ah];exact ((((((Below.refl _ w).alloc (χ _) _).alloc (by simp) _).alloc (by simp;omega) _).alloc (by simp;omega) _).alloc (by simp;omega) _)
 have an:W0.heap[w.heap.size+1]?=some (.cells #[.int .i64 cy,.int .i64 of,sv] 73 (0,0))/\W0.heap[w.heap.size+1+1]?=some (.cells #[.int .i64 0] 3 (0,0))/\W0.heap[w.heap.size+1+1+1]?=some (.cells #[.int .i64 0] 3 (0,0))/\W0.heap[w.heap.size+1+1+1+1]?=some (.cells #[.int .i64 0] 51 (0,0)):=by
  rw[<-ah];refine ⟨?_,?_,?_,?_⟩
  .refine (Below.heap_alloc _ _ _ (by simp)).trans ((Below.heap_alloc _ _ _ (by simp)).trans ((Below.heap_alloc _ _ _ (by simp)).trans ?_));have:=World.alloc_heap_new (w.alloc (.cells #[c1,c2,c3,c4,c5,c6,c7,c8,c9,a1,a6,a7] 60)) (.cells #[.int .i64 cy,.int .i64 of,sv] 73);rwa [World.size_alloc] at this
  .refine (Below.heap_alloc _ _ _ (by simp)).trans ((Below.heap_alloc _ _ _ (by simp)).trans ?_);have:=World.alloc_heap_new ((w.alloc (.cells #[c1,c2,c3,c4,c5,c6,c7,c8,c9,a1,a6,a7] 60)).alloc (.cells #[.int .i64 cy,.int .i64 of,sv] 73)) (.cells #[.int .i64 0] 3);rwa [World.size_alloc,World.size_alloc] at this
  .refine (Below.heap_alloc _ _ _ (by simp)).trans ?_;have:=World.alloc_heap_new (((w.alloc (.cells #[c1,c2,c3,c4,c5,c6,c7,c8,c9,a1,a6,a7] 60)).alloc (.cells #[.int .i64 cy,.int .i64 of,sv] 73)).alloc (.cells #[.int .i64 0] 3)) (.cells #[.int .i64 0] 3);rwa [World.size_alloc,World.size_alloc,World.size_alloc] at this
  .have:=World.alloc_heap_new ((((w.alloc (.cells #[c1,c2,c3,c4,c5,c6,c7,c8,c9,a1,a6,a7] 60)).alloc (.cells #[.int .i64 cy,.int .i64 of,sv] 73)).alloc (.cells #[.int .i64 0] 3)).alloc (.cells #[.int .i64 0] 3)) (.cells #[.int .i64 0] 51);rwa [World.size_alloc,World.size_alloc,World.size_alloc,World.size_alloc] at this
 rw[ah];refine ⟨trivial,(hP W0 ak).mono ?_⟩;rintro e g ⟨rfl,a8,az⟩;obtain⟨q1,q2,q3,q4⟩:=an;have r1:=(a8.block _ (show w.heap.size+1<W0.heap.size by omega)).trans q1;have r2:=(a8.block _ (show w.heap.size+1+1<W0.heap.size by omega)).trans q2;have r3:=(a8.block _ (show w.heap.size+1+1+1<W0.heap.size by omega)).trans q3;have r4:=(a8.block _ (show w.heap.size+1+1+1+1<W0.heap.size by omega)).trans q4;have bp:=a8.size;have Y:Below w.heap.size w g:=ak.trans (a8.mono (by omega));have bq:=d.below Y;have ao:=d;clear hP q1 q2 q3 q4 a8 ak d;have aB:g.cell? ⟨w.heap.size+1,0,none⟩=some (.int .i64 cy):=by simp[World.cell?,r1]
 have aP:g.cell? ⟨w.heap.size+1,1,none⟩=some (.int .i64 of):=by simp[World.cell?,r1]
 have b0:g.cell? ⟨w.heap.size+1,2,none⟩=some sv:=by simp[World.cell?,r1]
 have m2:g.cell? ⟨w.heap.size+1+1,0,none⟩=some (.int .i64 0):=by simp[World.cell?,r2]
 have m3:g.cell? ⟨w.heap.size+1+1+1,0,none⟩=some (.int .i64 0):=by simp[World.cell?,r3]
 have m4:g.cell? ⟨w.heap.size+1+1+1+1,0,none⟩=some (.int .i64 0):=by simp[World.cell?,r4]
 have f2:g.frozen? ⟨w.heap.size+1+1,0,none⟩=false:=by simp[World.frozen?,r2]
 have f3:g.frozen? ⟨w.heap.size+1+1+1,0,none⟩=false:=by simp[World.frozen?,r3]
 have f4:g.frozen? ⟨w.heap.size+1+1+1+1,0,none⟩=false:=by simp[World.frozen?,r4]
 have fin:∀(W:World) (x y z:Int) (tm:Array Value),Below w.heap.size w W->tm[6]?=some (.pointer (some ⟨w.heap.size+1+1,0,none⟩))->tm[7]?=some (.pointer (some ⟨w.heap.size+1+1+1,0,none⟩))->tm[8]?=some (.pointer (some ⟨w.heap.size+1+1+1+1,0,none⟩)) ->
  W.cell? ⟨w.heap.size+1+1,0,none⟩=some (.int .i64 x)->W.cell? ⟨w.heap.size+1+1+1,0,none⟩=some (.int .i64 y)->W.cell? ⟨w.heap.size+1+1+1+1,0,none⟩=some (.int .i64 z)->(x,(y,z))=Ga zs cy of tk er is ->
  ∃v,(results Tryz.f227 tm).run Tryz.prog W=.ok v W/\vQ zs cy of tk er is (.returned v)/\Below w.heap.size w W:=λW x y z tm hB t6 t7 t8 h1 h2 h3 hr=>by
  refine ⟨_,?_,⟨az,x,y,z,hr,rfl⟩,hB⟩
  simp[results,Tryz.f227,go_sem,t6,t7,t8,h1,h2,h3]
 have aj:∀(W:World) (x y z:Int) (tm:Array Value) (D:Nat),Below w.heap.size w W->tm[6]?=some (.pointer (some ⟨w.heap.size+1+1,0,none⟩))->tm[7]?=some (.pointer (some ⟨w.heap.size+1+1+1,0,none⟩))->tm[8]?=some (.pointer (some ⟨w.heap.size+1+1+1+1,0,none⟩)) ->
  W.cell? ⟨w.heap.size+1+1,0,none⟩=some (.int .i64 x)->W.cell? ⟨w.heap.size+1+1+1,0,none⟩=some (.int .i64 y)->W.cell? ⟨w.heap.size+1+1+1+1,0,none⟩=some (.int .i64 z)->w.heap.size<=D->W.heap[D]?=some (.deferred (some []))->(x,(y,z))=Ga zs cy of tk er is ->
  LeavesInM Fence.wide 4 Tryz.prog Tryz.f227 tm (λe W'=>vQ zs cy of tk er is e/\Below w.heap.size w W') [{target:=.collected D,args:=#[]}] .returning W:=λW x y z tm D hB t6 t7 t8 h1 h2 h3 hD J hr=>by
  refine ⟨by simp,.inl ⟨D,W.putObj D (.deferred none),rfl,run_takeDeferred J,?_⟩⟩
  have pc:∀q v,W.cell? ⟨q,0,none⟩=some v->(W.putObj D (.deferred none)).cell? ⟨q,0,none⟩=some v:=λq v hv =>(World.cell?_of_block (World.putObj_heap_other (k:=q) (λe=>wT J hv e.symm))).trans hv
  obtain⟨v,r1,r2,r3⟩:=fin (W.putObj D (.deferred none)) x y z tm (hB.trans (belowK_b (n₀:=w.heap.size) (w:=w) (χ _) W D _ _ hD J rfl rfl)) t6 t7 t8 (pc _ _ h1) (pc _ _ h2) (pc _ _ h3) hr
  exact ⟨v,r1,r2,r3⟩
 by_cases hz:er=0
 .subst hz;cases aq:is with
  |false =>
   subst aq;gi_wp2;have s4:=World.cell?_setCell_same' g ⟨w.heap.size+1+1+1+1,0,none⟩ (.int .i64 0) (by rw[m4];rfl);obtain⟨b1,b2,b3,b4⟩:=Sf (W:=g.setCell ⟨w.heap.size+1+1+1+1,0,none⟩ (.int .i64 0)) (x:=0) (y:=0) (z:=170) (Y.setCell (by show w.heap.size<=w.heap.size+1+1+1+1;omega) _) (ip:=w.heap.size+1+1) (jp:=w.heap.size+1+1+1) (ep:=w.heap.size+1+1+1+1) (by omega) (by omega)
    (by rw[World.cell?_setCell_far _ _ _ _ (by show w.heap.size+1+1+1+1≠w.heap.size+1+1;omega),m2];rfl) (by rw[World.cell?_setCell_far _ _ _ _ (by show w.heap.size+1+1+1+1≠w.heap.size+1+1+1;omega),m3];rfl) (by rw[s4];rfl);exact fin _ 0 0 170 _ b1 rfl rfl rfl b2 b3 b4 rfl
  |true =>
   subst aq;by_cases ht:tk<0
   .gi_wp2;have s4:=World.cell?_setCell_same' g ⟨w.heap.size+1+1+1+1,0,none⟩ (.int .i64 0) (by rw[m4];rfl);obtain⟨b1,b2,b3,b4⟩:=Sf (W:=g.setCell ⟨w.heap.size+1+1+1+1,0,none⟩ (.int .i64 0)) (x:=0) (y:=0) (z:=2) (Y.setCell (by show w.heap.size<=w.heap.size+1+1+1+1;omega) _) (ip:=w.heap.size+1+1) (jp:=w.heap.size+1+1+1) (ep:=w.heap.size+1+1+1+1) (by omega) (by omega)
     (by rw[World.cell?_setCell_far _ _ _ _ (by show w.heap.size+1+1+1+1≠w.heap.size+1+1;omega),m2];rfl) (by rw[World.cell?_setCell_far _ _ _ _ (by show w.heap.size+1+1+1+1≠w.heap.size+1+1+1;omega),m3];rfl) (by rw[s4];rfl);exact fin _ 0 0 2 _ b1 rfl rfl rfl b2 b3 b4 (by unfold Ga;rw[if_neg (by simp),if_neg (by simp),if_pos (by omega)])
   .by_cases br:1073741824<tk
    .gi_wp2;have s4:=World.cell?_setCell_same' g ⟨w.heap.size+1+1+1+1,0,none⟩ (.int .i64 0) (by rw[m4];rfl);obtain⟨b1,b2,b3,b4⟩:=Sf (W:=g.setCell ⟨w.heap.size+1+1+1+1,0,none⟩ (.int .i64 0)) (x:=0) (y:=0) (z:=2) (Y.setCell (by show w.heap.size<=w.heap.size+1+1+1+1;omega) _) (ip:=w.heap.size+1+1) (jp:=w.heap.size+1+1+1) (ep:=w.heap.size+1+1+1+1) (by omega) (by omega)
      (by rw[World.cell?_setCell_far _ _ _ _ (by show w.heap.size+1+1+1+1≠w.heap.size+1+1;omega),m2];rfl) (by rw[World.cell?_setCell_far _ _ _ _ (by show w.heap.size+1+1+1+1≠w.heap.size+1+1+1;omega),m3];rfl) (by rw[s4];rfl);exact fin _ 0 0 2 _ b1 rfl rfl rfl b2 b3 b4 (by unfold Ga;rw[if_neg (by simp),if_neg (by simp),if_pos (by omega)])
    .obtain⟨bm,ar⟩:=ay rfl rfl (by omega) (by omega);obtain⟨pl,au⟩:∃pl,(wrap64 (wrap64 (tk+cy)-of)).tmod cy=pl:=⟨_,rfl⟩;obtain⟨t,aa⟩:∃t,(g.setCell ⟨w.heap.size+1+1+1+1,0,none⟩ (.int .i64 0)).alloc (.cells #[.int .i64 pl] 3)=t:=⟨_,rfl⟩;have bs:w.heap.size+5<=g.heap.size:=by omega
     have b7:Below w.heap.size w (g.setCell ⟨w.heap.size+1+1+1+1,0,none⟩ (.int .i64 0)):=Y.setCell (by show w.heap.size<=w.heap.size+1+1+1+1;omega) _;have bt:g.heap.size<t.heap.size:=by rw[<-aa];simp
     have b8:Below w.heap.size w t:=by rw[<-aa];exact b7.alloc (by simp;omega) _
     have old:∀q o v,q≠w.heap.size+1+1+1+1->q<g.heap.size->g.cell? ⟨q,o,none⟩=some v->t.cell? ⟨q,o,none⟩=some v:=λq o v hq Z hv=>by rw[<-aa];refine ((Below.refl _ _).alloc (χ _) _ |>.cell (p:=⟨q,o,none⟩) (by simpa using Z)).trans ?_;rw[World.cell?_setCell_far _ _ _ _ (λe=>hq e.symm)];exact hv
     have ae:∀q o,q<g.heap.size->t.frozen? ⟨q,o,none⟩=g.frozen? ⟨q,o,none⟩:=λq o Z=>by rw[<-aa,<-World.frozen?_setCell g ⟨w.heap.size+1+1+1+1,0,none⟩ ⟨q,o,none⟩ (.int .i64 0)];exact (Below.refl (g.setCell ⟨w.heap.size+1+1+1+1,0,none⟩ (.int .i64 0)).heap.size _).alloc (χ _) _ |>.frozen (p:=⟨q,o,none⟩) (by simpa using Z)
     have bu:t.cell? ⟨w.heap.size+1,0,none⟩=some (.int .i64 cy):=old _ _ _ (by omega) (by omega) aB;have bx:t.cell? ⟨w.heap.size+1,1,none⟩=some (.int .i64 of):=old _ _ _ (by omega) (by omega) aP;have ba:t.cell? ⟨w.heap.size+1,2,none⟩=some sv:=old _ _ _ (by omega) (by omega) b0;have k2:t.cell? ⟨w.heap.size+1+1,0,none⟩=some (.int .i64 0):=old _ _ _ (by omega) (by omega) m2;have k3:t.cell? ⟨w.heap.size+1+1+1,0,none⟩=some (.int .i64 0):=old _ _ _ (by omega) (by omega) m3;have k4:t.cell? ⟨w.heap.size+1+1+1+1,0,none⟩=some (.int .i64 0):=by rw[<-aa];refine ((Below.refl _ _).alloc (χ _) _ |>.cell (p:=⟨_,0,none⟩) (by simp;omega)).trans ?_;exact World.cell?_setCell_same' g ⟨w.heap.size+1+1+1+1,0,none⟩ (.int .i64 0) (by rw[m4];rfl)
     have bb:t.cell? ⟨g.heap.size,0,none⟩=some (.int .i64 pl):=by have:=World.alloc_heap_new (g.setCell ⟨w.heap.size+1+1+1+1,0,none⟩ (.int .i64 0)) (.cells #[.int .i64 pl] 3);rw[aa,World.size_setCell] at this;simp[World.cell?,this]
     gi_wp2;refine ⟨trivial,(Acy Fence.wide 3 trivial rfl cy of sv t).mono ?_⟩;rintro e W3 ⟨rfl,rfl⟩;gi_wp2;have bc:w.heap.size<=t.heap.size:=by omega
     obtain⟨W3,ab⟩:∃W3,t.alloc (.cells #[.int .i64 cy,.int .i64 of,sv] 73)=W3:=⟨_,rfl⟩;have ai:Below w.heap.size w W3:=by rw[<-ab];exact b8.alloc bc _
     have new:∀q o v,q<t.heap.size->t.cell? ⟨q,o,none⟩=some v->W3.cell? ⟨q,o,none⟩=some v:=λq o v Z hv=>by rw[<-ab];exact ((Below.refl _ _).alloc (χ _) _ |>.cell (p:=⟨q,o,none⟩) Z).trans hv
     have af:∀q o,q<t.heap.size->W3.frozen? ⟨q,o,none⟩=t.frozen? ⟨q,o,none⟩:=λq o Z=>by rw[<-ab];exact (Below.refl _ _).alloc (χ _) _ |>.frozen (p:=⟨q,o,none⟩) Z
     have p1:W3.cell? ⟨w.heap.size+1,2,none⟩=some sv:=new _ _ _ (by omega) ba;have p2:W3.cell? ⟨w.heap.size+1+1,0,none⟩=some (.int .i64 0)/\W3.frozen? ⟨w.heap.size+1+1,0,none⟩=false:=⟨new _ _ _ (by omega) k2,by rw[af _ _ (by omega),ae _ _ (by omega)];exact f2⟩;have p3:W3.cell? ⟨w.heap.size+1+1+1,0,none⟩=some (.int .i64 0)/\W3.frozen? ⟨w.heap.size+1+1+1,0,none⟩=false:=⟨new _ _ _ (by omega) k3,by rw[af _ _ (by omega),ae _ _ (by omega)];exact f3⟩;have p4:W3.cell? ⟨w.heap.size+1+1+1+1,0,none⟩=some (.int .i64 0)/\W3.frozen? ⟨w.heap.size+1+1+1+1,0,none⟩=false:=⟨new _ _ _ (by omega) k4,by rw[af _ _ (by omega),ae _ _ (by omega)];exact f4⟩;have p5:W3.cell? ⟨g.heap.size,0,none⟩=some (.int .i64 pl):=new _ _ _ (by omega) bb;have bz:t.heap.size<W3.heap.size:=by rw[<-ab];simp
     have p6:W3.heap[t.heap.size]?=some (.cells #[.int .i64 cy,.int .i64 of,sv] 73 (0,0)):=by rw[<-ab];exact World.alloc_heap_new _ _
     rw[ab];refine wpIn_rangeFunc_ownF rfl (by omega) (gf:=319) (lb:=#[.pointer (some ⟨t.heap.size,0,none⟩)]) rfl trivial (enters_of Tryz.func319 (by kernel_rfl) rfl)
      (Acz Fence.wide 3 trivial rfl (by omega) t.heap.size w.heap.size cy of sv zs ar W3 (by omega) p6 (ao.below ai)) (λh k=>belowK_t h k) (belowK_b (by omega)) (Below.refl _ _) (λ_=>rfl)
      (λpre W=>AtI w.heap.size w (w.heap.size+1) (w.heap.size+1+1) (w.heap.size+1+1+1) (w.heap.size+1+1+1+1) g.heap.size sv pl zs pre W) (λc pre W=>AtX w.heap.size w (w.heap.size+1+1) (w.heap.size+1+1+1) (w.heap.size+1+1+1+1) pl zs c pre W)
      (OwnFrom.and (Own.from (λs A B row hs hg hr=>⟨hs.1,cell_kept hs.2.1 hg hr,cell_kept hs.2.2.1 hg hr,(frozen_kept hs.2.2.1 hg hr).trans hs.2.2.2.1,cell_kept hs.2.2.2.2.1 hg hr,(frozen_kept hs.2.2.2.2.1 hg hr).trans hs.2.2.2.2.2.1,cell_kept hs.2.2.2.2.2.2.1 hg hr,(frozen_kept hs.2.2.2.2.2.2.1 hg hr).trans hs.2.2.2.2.2.2.2.1,cell_kept hs.2.2.2.2.2.2.2.2 hg hr⟩) _) (ownFrom_below (χ _) (by omega)))
      (λc=>OwnFrom.and (Own.from (λs A B row hs hg hr=>by obtain⟨hc,E,k,e1,e2,e3,e4,e5,e6⟩:=hs;exact ⟨hc,E,k,e1,e2,e3,cell_kept e4 hg hr,cell_kept e5 hg hr,cell_kept e6 hg hr⟩) _) (ownFrom_below (χ _) (by omega)))
      ⟨⟨λk hk=>(by cases hk),p1,p2.1,p2.2,p3.1,p3.2,p4.1,p4.2,p5⟩,ai⟩ ?a₁ ?assign ?body ?done ?stop;case assign =>intro l x W K hK;gi_wp2;exact hK
     case body =>
      rintro l pre x W ⟨⟨hp,q1,q2,g2,q3,g3,q4,g4,q5⟩,hB⟩ _;rcases ao.below hB with ⟨ad,cap,_,bd⟩|⟨b,off,cap,bf,hb,bg⟩
      .exact absurd x.2 (λhh=>by
        have:zs.length=0:=by rw[bd];rfl
        omega)
      .subst bf;have hx:=x.2;have bh:=bg x.1 hx;by_cases Z:pl<CJ zs (x.1+1)
       .have al:=hp;gi_wp2;have av:Tryz.prog.follows .mixedOrders=true:=by kernel_rfl
        have aw:El Tryz.prog 3=some false:=by kernel_rfl
        have ax:El Tryz.prog 71=some false:=by kernel_rfl
        have bX:b≠w.heap.size+1+1/\b≠w.heap.size+1+1+1/\b≠w.heap.size+1+1+1+1:=by omega
        refine wpIn_region_any av ?_;refine XG (Fε w.heap.size w (w.heap.size+1+1) (w.heap.size+1+1+1) (w.heap.size+1+1+1+1) g.heap.size (w.heap.size+1) b off cap zs.length x.1 (CJ zs (x.1+1)) pl ((zs[x.1]?).getD 0) W) ?_ ?_ _ _ _ _ ?_ ?_
        .intro L a U i d hi;obtain⟨o,ho,hu,X⟩:=qε.1 hi;have bn:i<13:=by simpa using (Array.getElem?_eq_some_iff.1 ho).1
         have bj:i=0\/i=1\/i=2\/i=3\/i=4\/i=5\/i=6\/i=7\/i=8\/i=9\/i=10\/i=11\/i=12:=by omega
         rcases bj with rfl|rfl|rfl|rfl|rfl|rfl|rfl|rfl|rfl|rfl|rfl|rfl|rfl
         all_goals (simp only[Qcc,Qbi,Qbj,Qaf] at ho;subst ho)
         .refine K0 d rfl rfl (by intro c h;cases h) (λ_ _=>rfl) (by omega) rfl ?_;simp[execOp,Act.eval,d.t11,IE]
         .refine K0 d rfl rfl (by intro c h;cases h) (λ_ _=>rfl) (by omega) rfl ?_;have:=IT (P:=Tryz.prog) aw d.cpl;simp[execOp,Act.eval,d.t10,IE,this]
         .refine K0 d rfl rfl (by intro c h;cases h) (λ_ _=>rfl) (by omega) rfl ?_;simp[execOp,Act.eval,d.t12,IE]
         .refine K0 d rfl rfl (by intro c h;cases h) (λ_ _=>rfl) (by omega) rfl ?_;have v1:=d.v 1 (by omega) (X _ (by simp;exact .inl rfl) rfl);have v2:=d.v 2 (by omega) (X _ (by simp;exact .inr rfl) rfl);simp[execOp,Act.eval,v1,v2,IE,go_sem,wrap64,IntKind.wrap_i64]
         .refine K0 d rfl rfl (by intro c h;cases h) (λ_ _=>rfl) (by omega) rfl ?_;simp[execOp,Act.eval,d.t4,IE,go_sem]
         .refine K0 d rfl rfl (by intro c h;cases h) (λ_ _=>rfl) (by omega) rfl ?_;have v4:=d.v 4 (by omega) (X _ (by simp;exact rfl) rfl);have:=IT (P:=Tryz.prog) ax d.csl;simp[execOp,Act.eval,v4,IE,this]
         .refine K0 d rfl rfl (by intro c h;cases h) (λ_ _=>rfl) (by omega) rfl ?_;simp[execOp,Act.eval,d.t11,IE]
         .refine K0 d rfl rfl (by intro c h;cases h) (λ_ _=>rfl) (by omega) rfl ?_;have v5:=d.v 5 (by omega) (X _ (by simp;exact .inl rfl) rfl);have v6:=d.v 6 (by omega) (X _ (by simp;exact .inr rfl) rfl);simp[execOp,Act.eval,v5,v6,IE,go_sem,hx]
         .refine K0 d rfl rfl (by intro c h;cases h) (λ_ _=>rfl) (by omega) rfl ?_;have v7:=d.v 7 (by omega) (X _ (by simp;exact rfl) rfl);have:=IT (P:=Tryz.prog) aw d.cz;simp[execOp,Act.eval,v7,IE,this]
         .refine K0 d rfl rfl (by intro c h;cases h) (λ_ _=>rfl) (by omega) rfl ?_;have v3:=d.v 3 (by omega) (X _ (by simp;exact .inl rfl) rfl);have v8:=d.v 8 (by omega) (X _ (by simp;exact .inr rfl) rfl);simp[execOp,Act.eval,v3,v8,IE,go_sem,wrap64,IntKind.wrap_i64]
         .obtain⟨cu,I⟩:=Option.isSome_iff_exists.1 d.ci;have v0:=d.v 0 (by omega) (X _ (by simp;exact .inl rfl) rfl);refine bW (U':=U.setCell ⟨w.heap.size+1+1,0,none⟩ (.int .i64 (x.1:Int))) rfl rfl (by intro c h;cases h) (λ_ _=>rfl) rfl ?_ (d.mark (by omega) (.inl ⟨rfl,rfl,rfl⟩) (by omega) (by omega));simp[execOp,Act.eval,v0,d.t6,d.fi,I,IE,go_sem]
         .obtain⟨cu,I⟩:=Option.isSome_iff_exists.1 d.cj;have v9:=d.v 9 (by omega) (X _ (by simp;exact .inl rfl) rfl);refine bW (U':=U.setCell ⟨w.heap.size+1+1+1,0,none⟩ (.int .i64 (wrap64 (wrap64 (pl-CJ zs (x.1+1))+(zs[x.1]?).getD 0)))) rfl rfl (by intro c h;cases h) (λ_ _=>rfl) rfl ?_ (d.mark (by omega) (.inr (.inl ⟨rfl,rfl,rfl⟩)) (by omega) (by omega));simp[execOp,Act.eval,v9,d.t7,d.fj,I,IE,go_sem]
         .obtain⟨cu,I⟩:=Option.isSome_iff_exists.1 d.ce;refine bW (U':=U.setCell ⟨w.heap.size+1+1+1+1,0,none⟩ (.int .i64 0)) rfl rfl (by intro c h;cases h) (λ_ _=>rfl) rfl ?_ (d.mark (by omega) (.inr (.inr ⟨rfl,rfl,rfl⟩)) (by omega) (by omega));simp[execOp,Act.eval,d.t8,d.fe,I,go_sem]
        .intro L a U d hr;have key:=wO hr (by rw[d.size];rfl) (by kernel_rfl);rename_i hK;refine hK _ _ ?_;gi_wp2;refine ⟨d.others,⟨rfl,pre,x,rfl,(λj hj=>Int.not_lt.2 (al j hj)),Z,d.di (key 10 (by decide)),d.dj (key 11 (by decide)),d.de (key 12 (by decide))⟩,d.below⟩
        .exact ⟨KeepsOthers.drew _,rfl,rfl,rfl,rfl,rfl,rfl,rfl,rfl,rfl,λj _ hl=>(by
          rw[Qcl] at hl;split at hl<;>cases hl),q5,q1,bh,g2,g3,g4,(by show (W.cell? _).isSome=true;rw[q2];rfl),(by show (W.cell? _).isSome=true;rw[q3];rfl),(by show (W.cell? _).isSome=true;rw[q4];rfl),
          λhl=>(by rw[Qcl] at hl;split at hl<;>cases hl),λhl=>(by rw[Qcl] at hl;split at hl<;>cases hl),λhl=>(by rw[Qcl] at hl;split at hl<;>cases hl),hB.drew⟩
        .decide
       .have al:=hp;gi_wp2;exact ⟨KeepsOthers.refl _,Below.refl _ _,⟨λk hk=>(by
         rcases List.mem_append.1 hk with hk|hk
         .exact Int.not_lt.2 (al k hk)
         .simp only[List.mem_singleton] at hk;subst hk;omega),q1,q2,g2,q3,g3,q4,g4,q5⟩,hB⟩
     case done =>
      rintro D xs W hD bk ⟨⟨hp,q1,q2,g2,q3,g3,q4,g4,q5⟩,hB⟩ J;subst bk;have ag:Ga zs cy of tk 0 true=(0,(0,170)):=by unfold Ga;rw[if_neg (by simp),if_neg (by simp),if_neg (by omega),au];exact Zb _ _ λi _ hi=>hp ⟨i,by omega⟩ (W8 _ (by show i<zs.length;omega))
      gi_wp2;obtain⟨b1,b2,b3,b4⟩:=Sf (W:=W) (x:=0) (y:=0) (z:=170) hB (ip:=w.heap.size+1+1) (jp:=w.heap.size+1+1+1) (ep:=w.heap.size+1+1+1+1) (by omega) (by omega) (by rw[q2];rfl) (by rw[q3];rfl) (by rw[q4];rfl);refine aj _ 0 0 170 _ D b1 rfl rfl rfl b2 b3 b4 (Qbh ai.size hD) ?_ ag.symm;rw[heap_setCell_other _ _ _ _ (λe=>wT J q4 e),heap_setCell_other _ _ _ _ (λe=>wT J q3 e),heap_setCell_other _ _ _ _ (λe=>wT J q2 e)];exact J
     case stop =>
      rintro D c pre W hD ⟨k0,bl,rfl⟩ ⟨⟨rfl,E,k,e1,e2,e3,e4,e5,e6⟩,hB⟩ J;have ca:E.length+1=k0:=by have:=congrArg List.length e1;rw[Nu _ bl] at this;simp at this;omega
      obtain rfl:k0=E.length+1:=by omega
      rw[Mo (by omega)] at e1;obtain⟨e7,e8⟩:=List.append_inj' e1 rfl;have cb:k.1=E.length:=by have:=List.head_eq_of_cons_eq e8;rw[<-this]
      have ag:Ga zs cy of tk 0 true=((k.1:Int),(wrap64 (wrap64 (pl-CJ zs (k.1+1))+(zs[k.1]?).getD 0),0)):=by unfold Ga;rw[if_neg (by simp),if_neg (by simp),if_neg (by omega),au,<-WR,<-WR];exact W7 _ _ _ (Qaw _) (by have:=k.2;omega) (λi _ hi=>e2 ⟨i,by have:=k.2;omega⟩ (by have:=W8 (k:=E.length) (⟨i,by have:=k.2;omega⟩:SL zs.length) (by show i<E.length;omega);rwa [e7] at this)) e3
      gi_wp2;exact aj _ _ _ _ _ D hB rfl rfl rfl e4 e5 e6 (Qbh ai.size hD) J ag.symm
 .gi_wp2;have sE:=World.cell?_setCell_same' g ⟨w.heap.size+1+1+1+1,0,none⟩ (.int .i64 er) (by rw[m4];rfl);have av:Tryz.prog.follows .mixedOrders=true:=by kernel_rfl
  obtain⟨b1,b2,b3,b4⟩:=Sf (W:=g.setCell ⟨w.heap.size+1+1+1+1,0,none⟩ (.int .i64 er)) (x:=0) (y:=0) (z:=er) (Y.setCell (by show w.heap.size<=w.heap.size+1+1+1+1;omega) _) (ip:=w.heap.size+1+1) (jp:=w.heap.size+1+1+1) (ep:=w.heap.size+1+1+1+1) (by omega) (by omega)
   (by rw[World.cell?_setCell_far _ _ _ _ (by show w.heap.size+1+1+1+1≠w.heap.size+1+1;omega),m2];rfl) (by rw[World.cell?_setCell_far _ _ _ _ (by show w.heap.size+1+1+1+1≠w.heap.size+1+1+1;omega),m3];rfl) (by rw[sE];rfl);gi_region;gi_wp2;exact fin _ 0 0 er _ b1.drew rfl rfl rfl b2 b3 b4 (by unfold Ga;rw[if_pos hz])
def Ahn {α:Type}:∀ {l:List α},l.length=12->∃a b c d e f g h i j k m,l=[a,b,c,d,e,f,g,h,i,j,k,m]
 |[a,b,c,d,e,f,g,h,i,j,k,m],_=>⟨a,b,c,d,e,f,g,h,i,j,k,m,rfl⟩
 |[],h=>by cases h
 |[_],h=>by cases h
 |[_,_],h=>by cases h
 |[_,_,_],h=>by cases h
 |[_,_,_,_],h=>by cases h
 |[_,_,_,_,_],h=>by cases h
 |[_,_,_,_,_,_],h=>by cases h
 |[_,_,_,_,_,_,_],h=>by cases h
 |[_,_,_,_,_,_,_,_],h=>by cases h
 |[_,_,_,_,_,_,_,_,_],h=>by cases h
 |[_,_,_,_,_,_,_,_,_,_],h=>by cases h
 |[_,_,_,_,_,_,_,_,_,_,_],h=>by cases h
 |_::_::_::_::_::_::_::_::_::_::_::_::_::_,h=>by simp at h
def Aeo {w O v} {l:List Int} (h:Reads w O Λ l [v]):Rε w.heap.size w v l:=by
 obtain⟨a,cap,e,J,X,d⟩:=h;simp only[Qdo,and_true] at e;subst e;rcases d with d|⟨b,off,cells,t,Y,y,E,c⟩
 .have:= Qad d;subst this;exact .inl ⟨a,cap,rfl,rfl⟩
 .subst t;refine .inr ⟨b,off,cap,rfl,y,λj I=>?_⟩;obtain⟨pre,u,post,Z,hp,hu,g⟩:=ξ.get (n:=1) (λx vs=>AW ζ) c (Qdv I);obtain⟨rfl,_⟩:=g;refine E j _ ?_<;>simp_all
def lD {l pl}:∀n k,k+n<=1000000->inR .i64 (JA l pl n k).1=true/\inR .i64 (JA l pl n k).2.1=true/\inR .i64 (JA l pl n k).2.2=true
 |0,k,_=>⟨rfl,rfl,rfl⟩
 |n+1,k,h=>by
  rw[JA];split
  .exact ⟨PE (by unfold maxLen;omega),EV _ _,rfl⟩
  .exact lD n (k+1) (by omega)
def Aav {zs cy of tk c is} (d:inR .i64 c=true) (g:c=0->is=true->0<=tk->tk<=1073741824->zs.length<=1000000) :
 inR .i64 (Ga zs cy of tk c is).1=true/\inR .i64 (Ga zs cy of tk c is).2.1=true/\inR .i64 (Ga zs cy of tk c is).2.2=true:=by
 unfold Ga;by_cases h1:c=0
 .rw[if_neg (by simpa using h1)];cases is with
  |false=>exact ⟨rfl,rfl,rfl⟩
  |true =>
   rw[if_neg (by simp)];split
   .exact ⟨rfl,rfl,rfl⟩
   .exact lD _ _ (by simp_all)
 .rw[if_pos h1];exact ⟨rfl,rfl,d⟩
set_option maxRecDepth 100000 in
def Acw (w:World) (F:Nat->Prop) (E:List Value) (x:Al×AJ×Int) (y:Int×Int×Int) (hV:V w) (hF:∀b,F b->b<w.heap.size) (hr:BP w F [AS,EI,ζ] x E) (g:HA x=some y) :
 Calls Tryz.prog 227 E.toArray w λe w'=>∃rs,e=.returned (Cp rs)/\Below w.heap.size w w'/\Gd w.heap.size w' F false [ζ,ζ,ζ] y rs:=by
 obtain⟨s,p,tk⟩:=x;obtain⟨us,al,h1,rfl,an,ao,h2,rfl,ab,h3,rfl⟩:=hr;obtain⟨rfl,_⟩:=(show ab=[.int .i64 tk]/\inR .i64 tk=true from h3);obtain⟨a1,a2,a3,a4,a5,a6,a7,a8,a9,X,Y,a12,rfl⟩:=Ahn (AW AS h1);have ad:=h1;have ae:=h2;obtain⟨u1,r1,rfl,⟨rfl,_⟩,u2,u3,rfl,⟨rfl,_⟩,h4⟩:=h2;obtain⟨v,rfl⟩:∃v,u3=[v]:=by obtain⟨a,cap,e,_⟩:=h4;exact ⟨_,e⟩
 have hI:=Aeo h4;have key:∀is t,En (s,p)=some (is,t)->(t=0->is=true->0<=tk->tk<=1073741824->p.1≠0/\p.2.2.length<=1000000)->y=Ga p.2.2 p.1 p.2.1 tk t is ->
  Calls Tryz.prog 227 (Go.Den.valOf AS [a1,a2,a3,a4,a5,a6,a7,a8,a9,X,Y,a12]::Go.Den.valOf EI ([.int .i64 p.1]++([.int .i64 p.2.1]++[v]))::[Go.Den.valOf ζ [.int .i64 tk]]).toArray w λe w'=>∃rs,e=.returned (Cp rs)/\Below w.heap.size w w'/\Gd w.heap.size w' F false [ζ,ζ,ζ] y rs:=λis t I Z af=>by
  refine (callsIn_wide.1 (Aep w a1 a2 a3 a4 a5 a6 a7 a8 a9 X Y a12 p.1 p.2.1 tk t is v p.2.2 hI (λW J=>callsIn_wide.2 ?_) Z)).mono ?_
  .have hk:ν w F W F:=⟨J.size,λb ag hO=>⟨hO,J.block b ag⟩⟩;refine (fζ.calls W F _ (s,p) (is,t) (stays w W J hV) (λb hb=>Qac (hF b hb) J.size) ⟨_,_,Av hk AS ad,rfl,_,Av hk EI ae,rfl⟩ I).mono ?_;rintro e W' ⟨rs,rfl,ah,aa⟩;obtain⟨ai,aq,g1,rfl,aj,g2,rfl⟩:=(show BP W' F [Bo,ζ] (is,t) rs from aa);have:ai=[.bool is]:=g1;subst this;obtain⟨rfl,h⟩:=(show aj=[.int .i64 t]/\inR .i64 t=true from g2);exact ⟨rfl,ah,h⟩
  .rintro e w' ⟨⟨ak,r1,r2,r3,hr,rfl⟩,J⟩;have h:=Aav (zs:=p.2.2) (cy:=p.1) (of:=p.2.1) (tk:=tk) (is:=is) ak (λa b c d=>(Z a b c d).2);rw[af];rw[<-hr] at h ⊢;exact ⟨[.int .i64 r1,.int .i64 r2,.int .i64 r3],rfl,J,[.int .i64 r1],_,⟨rfl,h.1⟩,rfl,[.int .i64 r2],_,⟨rfl,h.2.1⟩,rfl,[.int .i64 r3],⟨rfl,h.2.2⟩,rfl⟩
 unfold HA at g;split at g
 .cases g
 .rename_i is t I;refine key is t I ?_ ?_
  .rintro rfl rfl t0 t1;rw[if_neg (by simp),if_neg (by simp),if_neg (by simp only;omega)] at g;split at g
   .cases g
   .rename_i hc;simp only at hc;unfold Aa at hc;exact ⟨by omega,by omega⟩
  .unfold Ga;by_cases h0:t=0
   .subst h0;rw[if_neg (by simp)] at g ⊢;cases is with
    |false=>rw[if_pos rfl] at g ⊢;cases g;rfl
    |true =>
     rw[if_neg (by simp)] at g ⊢;simp only at g;by_cases ht:tk<0\/1073741824<tk
     .rw[if_pos ht] at g ⊢;cases g;rfl
     .rw[if_neg ht] at g ⊢;split at g
      .cases g
      .cases g;simp only[WR];rfl
   .rw[if_pos h0] at g ⊢;cases g;rfl
def AbH:BM Tryz.prog V 227 (spP [AS,EI,ζ] [ζ,ζ,ζ] HA) where
 enters:=enters_of Tryz.func227 (by kernel_rfl) rfl
 tot:=λg hg=>by cases hg
 calls:=λw F c x y d hF h t=>Acw w F c x y d hF h t
def AbG:K:=⟨227,.t (spP [AS,EI,ζ] [ζ,ζ,ζ] HA),AbH⟩
def oO:K:=kp [AbG,VM,Xs] 163 Tryz.f163 {} [AS,EI,ζ] [ζ,ζ] FQ
def WX:K:=kpp [Nh,VA,zH,Qr,oO,XD] 94 Tryz.f94 {} Er [YM] Er [] HX
def mV:K:=kp [Vk,Vj] 95 Tryz.f95 {} [AS,Ge,U8s] [U8s,ζ] JY (fr:=true)
def AcM:K:=ku [] 172 Tryz.f172 {} [ζ] [ζ] mQ JV λx _=>AcL x
def AaU:K:=kp [Yε] 171 Tryz.f171 {} [ζ,ζ] [ζ,ζ] OE
def Ue:K:=kp [Vt,ZO] 126 Tryz.f126 {loops:=[(1,[.slot 41 ζ,.own 4 U8])]} [Jj] [U8s,ζ] G7
def OY:K:=kpp [VB,Up,VC,Zg,WY,Uo,Ud,WX,mV,RV,MD,Rt,RY,Xo,AcM,AaU,Ue,Uc] 49 Tryz.f49 {Γ:=[10],joins:=[(2,[.box 0 Er])]} Er [] Er [] Gb (d:=3) (il:=[(97,AG Tryz.f97 {loops:=[(0,[.slot 44 ζ,.fbox 0 Er [35,36,37]]),(2,[.slot 69 ζ,.slot 5 Bo,.fbox 0 Er [35,36,37]])],joins:=[(17,[.fbox 0 Er [35,36,37]])]}),(98,AG Tryz.f98 {loops:=[(0,[.slot 59 ζ,.fbox 4 Jj [3],.fbox 0 Er [35,36,37]])]})])
def nP:K:=kp [iI,Rt,OY] 66 Tryz.f66 {} [AS,H7,kC] [H7,U8s,U8s,ζ] J9
def ZN:K:=kp [OG,Ue,Ln] 70 Tryz.f70 {loops:=[(0,[.slot 24 ζ,.fbox 6 Jj [3],.box 11 SV])]} [U8s] [Jj,ζ] F0
end
end Go.Proofs.YtlgpjdjcbincgaaGreatDoor
