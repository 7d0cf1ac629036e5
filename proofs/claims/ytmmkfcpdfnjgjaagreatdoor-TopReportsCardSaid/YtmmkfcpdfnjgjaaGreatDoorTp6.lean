/- Part of a proof: plain readings of Go functions, their contracts, or plain facts of them. -/
import Derived.Test.YtmmkfcpdfnjgjaaGreatDoorTp5
import Derived.ArgAppend
import Derived.Deep.RegionHeld
import Derived.Laws.CopyOwn
import Derived.Laws.MakeOwn
import Derived.Lib.BytesEntry
import Derived.Lib.Walk
import Derived.LoopIn
import Derived.LoopNIn
import Derived.LoopTactic
import Derived.OwnWalkIn
import Derived.RangeFuncBound
import Derived.RangeFuncBox
import Derived.RangeFuncCalls
import Derived.RangeFuncFrom
import Derived.RangeFuncLeaves
import Derived.RangeFuncRecord
import Derived.Shelf.Abstract
import Derived.Shelf.Bits.Mul64
import Derived.Shelf.Bytes.SlJoin
import Derived.Tactics
import Derived.TacticsInMore
import Derived.WalkKit
import Derived.LaidLaws
namespace Go.Proofs.YtmmkfcpdfnjgjaaGreatDoor
open Go.Den Go.RowKit Go.ChangeShapes Go.Shelf
set_option maxRecDepth 100000
theorem H4:Ao Tryz.prog V 52 (spT [I64,I64,I64] [Bo] Bm):=AU .nil stays Az (As (hs:={}) Tryz.func52) false fun x=>by kernel_rfl
theorem mW:Ao Tryz.prog V 53 (spP [Aj] [Bo] HQ):=Aq (.cons H4 .nil) stays Az (As (hs:={loops:=[(0,[.slot 48 I64])]}) Tryz.func53) false fun x=>by kernel_rfl
theorem Jf:Ao Tryz.prog V 97 (spT [DN] [Bo] Bn):=QB (Aq (.cons H4 .nil) stays Az (As (hs:={loops:=[(0,[.slot 7 I64])]}) Tryz.func97) false fun x=>by kernel_rfl) mY
theorem QR:Ao Tryz.prog V 154 (spT [I64] [U32] Dg):=QB (Aq .nil stays Az (As (hs:={}) Tryz.func154) false fun x=>by kernel_rfl) xE
theorem QP:Ao Tryz.prog V 98 (spT [U32,I64] [Bo] DQ):=AU (.cons QR .nil) stays Az (As (hs:={}) Tryz.func98) false fun x=>.trans (by kernel_rfl) (xB x)
theorem mP:Ao Tryz.prog V 54 (spP [Aj] [Bo] HP):=Aq (.cons Jf (.cons QP (.cons H4 .nil))) stays Az (As (hs:={loops:=[(0,[.slot 11 I64]),(2,[.slot 39 I64])]}) Tryz.func54) false fun x=>by kernel_rfl
theorem TE:Ao Tryz.prog V 99 (spT [U32] [I64] F3):=AU (.cons OH .nil) stays Az (As (hs:={}) Tryz.func99) false fun x=>.trans (by kernel_rfl) (kY x)
theorem LA:Ao Tryz.prog V 100 (spT [U32,I64] [U32] B6):=AU (.cons QR .nil) stays Az (As (hs:={}) Tryz.func100) false fun x=>.trans (by kernel_rfl) (Z2 x)
theorem Sb:∀x:Int,denote (mkC Tryz.prog V []) 1 (Ak Tryz.f156 {}) [U32] [I64] false x=j6 x:=fun x=>by kernel_rfl
theorem Sc:Ao Tryz.prog V 156 (spT [U32] [I64] H9):=QB (Aq .nil stays Az (hs:={}) (As Tryz.func156 (by kernel_rfl) (by kernel_rfl) (by kernel_rfl)) false Sb) (fun x hf=>Aas (AbD hf))
theorem kW:Ao Tryz.prog V 101 (spT [U32] [I64] G9):=AU (.cons Sc .nil) stays Az (As (hs:={}) Tryz.func101) false fun x=>.trans (by kernel_rfl) (kU x)
theorem eD:Ao Tryz.prog V 55 (spP [Aj] [Bo] GR):=Aq (.cons Jf (.cons TE (.cons LA (.cons kW .nil)))) stays Az (As (hs:={loops:=[(0,[.slot 3 U32,.slot 11 I64]),(2,[.slot 6 U32])]}) Tryz.func55) false fun x=>by kernel_rfl
theorem rS:Ao Tryz.prog V 56 (spP [Aj] [Bo] IH):=Aq (.cons H4 (.cons Jf .nil)) stays Az (As (hs:={loops:=[(0,[.slot 8 I64])]}) Tryz.func56) false fun x=>by kernel_rfl
theorem T3:Ao Tryz.prog V 144 (spP [Aj,I64,I64] [I64] FD):=Aq (.cons QP (.cons TE (.cons LA .nil))) stays Az (As (hs:={loops:=[(0,[.slot 6 I64,.slot 13 I64]),(2,[.slot 6 I64,.slot 8 U32])]}) Tryz.func144) false fun x=>by kernel_rfl
theorem T6:Ao Tryz.prog V 79 (spP [Aj,I64] [I64] D8):=Aq (.cons T3 .nil) stays Az (As (hs:={}) Tryz.func79) false fun x=>by kernel_rfl
theorem m8:Ao Tryz.prog V 57 (spP [Aj] [Bo] HR):=Aq (.cons T6 (.cons Jf .nil)) stays Az (As (hs:={loops:=[(0,[.slot 3 I64,.slot 8 I64])]}) Tryz.func57) false fun x=>by kernel_rfl
theorem V6:Ao Tryz.prog V 34 (spP [Aj,Cl] [Bo] Gd):=Aq (.cons H4 (.cons T6 .nil)) stays Az (As (hs:={loops:=[(0,[.slot 5 I64,.slot 39 I64])]}) Tryz.func34) false fun x=>by kernel_rfl
theorem Z8:Ao Tryz.prog V 58 (spP [Aj] [Bo] Gm):=Aq (.cons V6 .nil) stays Az (As (hs:={loops:=[(0,[.slot 8 I64])]}) Tryz.func58) false fun x=>by kernel_rfl
theorem CB:Ao Tryz.prog V 28 (spP [Aj] [I64] Aw):=Aq (.cons H4 (.cons mW (.cons mP (.cons eD (.cons rS (.cons m8 (.cons Z8 .nil))))))) stays Az (As (hs:={loops:=[(0,[.slot 3 Bo,.slot 5 I64])]}) Tryz.func28) false fun x=>by kernel_rfl
theorem site_Plan_m:Ao Tryz.prog V 14 (spP [Aj,Cl] [Bo,I64] D6):=Aq (.cons CB (.cons V6 .nil)) stays Az (As (hs:={}) Tryz.func14) false fun x=>by kernel_rfl
theorem Aba:Ao Tryz.prog V 26 (spT [] [Aj] PY):=AU .nil stays Az (As (hs:={}) Tryz.func26) false fun x=>by kernel_rfl
theorem yE:Ao Tryz.prog V 16 (spP [] [AL] MT):=Aq .nil stays Az (As (hs:={}) Tryz.func16) false fun x=>by kernel_rfl
theorem Mu:Ao Tryz.prog V 60 (spT [AL] [I64] CD):=AU .nil stays Az (As (hs:={}) Tryz.func60) false fun x=>.trans (by kernel_rfl) (cM x)
theorem KD:Ao Tryz.prog V 59 (spT [AL] [I64,I64] Cc):=AU (.cons Mu .nil) stays Az (As (hs:={}) Tryz.func59) false fun x=>.trans (by kernel_rfl) (fT x)
theorem PB:Ao Tryz.prog V 29 (spT [AL] [Bo] C1):=AU (.cons KD (.cons Mu .nil)) stays Az (As (hs:={}) Tryz.func29) false fun x=>.trans (by kernel_rfl) (ZT x)
theorem Q9:Ao Tryz.prog V 117 (spT [AL,I64] [I64] Fl):=AU (.cons KD .nil) stays Az (As (hs:={}) Tryz.func117) false fun x=>.trans (by kernel_rfl) (cP x)
theorem uZ:Ao Tryz.prog V 119 (spP [AL,I64] [U8s] Jp):=Aq .nil stays Az (As (hs:={}) Tryz.func119) false fun x=>by kernel_rfl
theorem JY:Ao Tryz.prog V 118 (spP [Ty.slice U8] [Ty.slice U8] CL true) :=
 IA (e:=5) (T:=U8) stays Az Tryz.func118 ⟨by kernel_rfl,rfl,by kernel_rfl,by kernel_rfl,by decide,⟨0,1,2,_,_,_,_,rfl,⟨rfl,rfl,rfl⟩,⟨rfl,rfl,rfl⟩,⟨rfl,⟨_,rfl⟩,rfl⟩,⟨rfl,rfl,rfl⟩⟩⟩ (fun l=>by kernel_rfl) (fun y h=>(Option.some.inj ((show CL []=some [] by kernel_rfl).symm.trans h)).symm)
theorem Sj:Ao Tryz.prog V 80 (spP [AL,I64] [U8s,I64] B4):=Aq (.cons Q9 (.cons uZ (.cons JY .nil))) stays Az (As (hs:={}) Tryz.func80) false fun x=>by kernel_rfl
theorem bN:Ao Tryz.prog V 148 (spP [U8s] [U64,I64] FA):=Aq .nil stays Az (As (hs:={loops:=[(0,[.slot 2 U64,.slot 16 I64])]}) Tryz.func148) false fun x=>by kernel_rfl
theorem PW:Ao Tryz.prog V 87 (spP [U8s] [U64] Ch):=Aq (.cons bN .nil) stays Az (As (hs:={}) Tryz.func87) false fun x=>by kernel_rfl
theorem QN:Ao Tryz.prog V 93 (spP [U8s] [U64,I64,I64] DI):=Aq .nil stays Az (As (hs:={loops:=[(0,[.slot 5 U64,.slot 10 I64])]}) Tryz.func93) false fun x=>by kernel_rfl
theorem La:CH Tryz.prog V 218 (spP [CE,I64] [CE,I64] BM):=C8 (.cons QN .nil) .nil Az .nil (As (hs:={}) Tryz.func218) 1 fun x=>by kernel_rfl
theorem PN:CH Tryz.prog V 219 (spP [CE,I64] [CE,DN] Dp):=C8 .nil (.cons La .nil) Az .nil (As (hs:={loops:=[(0,[.own 5 I64,.slot 7 I64,.box 0 CE])]}) Tryz.func219) 1 fun x=>by kernel_rfl
theorem QY:CH Tryz.prog V 197 (spP [CE] [CE,FP] DL):=C8 .nil (.cons La (.cons PN .nil)) Az .nil (As (hs:={loops:=[(0,[.own 2 Cl,.slot 8 I64,.box 0 CE])]}) Tryz.func197) 1 fun x=>by kernel_rfl
theorem OX:Ao Tryz.prog V 83 (spP [U64] [U8s] Cp true):=Aq .nil stays Az (As (hs:={loops:=[(0,[.slot 0 U64,.own 3 U8])]}) Tryz.func83) true fun x=>by kernel_rfl
theorem NV:Ao Tryz.prog V 82 (spP [FP] [U8s,I64] D7):=DB (.cons Jf (.cons H4 (.cons OX .nil))) stays Az (.cons (As (hs:={loops:=[(0,[.own 0 U8,.slot 9 I64])]}) Tryz.func146) .nil) (As (hs:={loops:=[(0,[.slot 18 I64,.own 4 U8]),(2,[.slot 56 I64,.own 4 U8])]}) Tryz.func82) false 2 fun x=>by kernel_rfl
theorem JZ:Ao Tryz.prog V 50 (spT [U8s,U8s] [Bo] bytes_Equal):=AU .nil stays Az (As (hs:={}) Tryz.func50) false fun x=>by kernel_rfl
theorem mI:Ao Tryz.prog V 145 (spP [U8s] [FP,I64] HO):=Gy (.cons NV (.cons JZ .nil)) (.cons QY .nil) stays Az .nil (As (hs:={}) Tryz.func145) false 1 fun x=>by kernel_rfl
theorem bP:Ao Tryz.prog V 84 (spP [U64,I64] [U8s,I64] FB):=Aq .nil stays Az (As (hs:={loops:=[(0,[.slot 29 I64,.arr 26 U8])]}) Tryz.func84) false fun x=>by kernel_rfl
def AeU:Ren:=⟨fun n=>if n=14 then 85 else 147,fun t=>if t=22 then 30 else if t=26 then 98 else t,fun n=>n⟩
theorem Adg:SlLaysJ.n14 Tryz.prog AeU where
 mixed:=by kernel_rfl
 f14:=by kernel_rfl
 f15:=by kernel_rfl
 t0:=by kernel_rfl
 a0:=fun w=>by kernel_rfl
 z0:=fun w=>by kernel_rfl
 v0:=fun w=>by kernel_rfl
 t3:=by kernel_rfl
 a3:=fun w=>by kernel_rfl
 z3:=fun w=>by kernel_rfl
 v3:=fun w=>by kernel_rfl
 t4:=by kernel_rfl
 a4:=fun w=>by kernel_rfl
 z4:=fun w=>by kernel_rfl
 v4:=fun w=>by kernel_rfl
 t9:=by kernel_rfl
 a9:=fun w=>by kernel_rfl
 z9:=fun w=>by kernel_rfl
 v9:=fun w=>by kernel_rfl
 t20:=by kernel_rfl
 a20:=fun w=>by kernel_rfl
 z20:=fun w=>by kernel_rfl
 v20:=fun w=>by kernel_rfl
 t22:=by kernel_rfl
 a22:=fun w=>by kernel_rfl
 z22:=fun w=>by kernel_rfl
 v22:=fun w=>by kernel_rfl
 t26:=by kernel_rfl
 a26:=fun w=>by kernel_rfl
 z26:=fun w=>by kernel_rfl
 v26:=fun w=>by kernel_rfl
 t5:=by kernel_rfl
 z5:=fun w=>by kernel_rfl
 i5:=by kernel_rfl
theorem tL {w:World} {O:Nat→Prop}:∀ {l:List Int} {vs:List Value},RowOf (Reads w O U8) l vs→vs=l.map (fun n=>Value.int .u8 n)∧∀n∈l,0≤n∧n≤255
 |[],vs,h=>⟨h,fun n hn=>by cases hn⟩
 |n::l,vs,⟨v1,v2,e,⟨e1,e2⟩,h3⟩=>by
  obtain⟨k1,k2⟩:=tL h3
  subst e e1 k1
  have hn:0≤n∧n≤255:=by
   unfold inR at e2
   have e3:IntKind.u8.min≤n∧n≤IntKind.u8.max:=by simpa only[Bool.and_eq_true,decide_eq_true_eq] using e2
   exact e3
  refine ⟨rfl,fun m hm=>?_⟩
  rcases List.mem_cons.1 hm with rfl|hm
  ·exact hn
  ·exact k2 m hm
theorem ZA {n:Int} (h:0≤n∧n≤255):((UInt8.ofNat n.toNat).toNat:Int)=n:=by
 simp only[UInt8.toNat_ofNat']
 omega
theorem SM:∀ {a b:List Int},(∀n∈a,0≤n∧n≤255)→(∀n∈b,0≤n∧n≤255)→Lib.bytesOf a=Lib.bytesOf b→a=b
 |[],[],_,_,_=>rfl
 |[],_::_,_,_,h=>by simp[Lib.bytesOf] at h
 |_::_,[],_,_,h=>by simp[Lib.bytesOf] at h
 |x::a,y::b,ha,hb,h=>by
  simp only[Lib.bytesOf,List.map_cons,List.cons.injEq] at h
  have e:=congrArg (fun u:UInt8=>(u.toNat:Int)) h.1
  simp only[ZA (ha x (List.mem_cons_self ..)),ZA (hb y (List.mem_cons_self ..))] at e
  rw[e,SM (fun n hn=>ha n (List.mem_cons_of_mem _ hn)) (fun n hn=>hb n (List.mem_cons_of_mem _ hn)) h.2]
theorem iM {w:World} {O:Nat→Prop} {l:List Int} {vs:List Value} (h:Reads w O U8s l vs):∃v,vs=[v]∧Lib.HoldsBytes w v (Lib.bytesOf l)∧∀n∈l,0≤n∧n≤255:=by
 obtain⟨a,cap,rfl,hl,hm,hrow⟩:=h
 refine ⟨_,rfl,?_⟩
 rcases hrow with h0|⟨b,off,cells,rfl,_,hb,hat,hrw⟩
 ·have:l=[]:=List.eq_nil_of_length_eq_zero h0
  subst this
  exact ⟨⟨a,cap,rfl,fun _=>rfl,fun _ _ i x hx=>by simp[Lib.bytesOf] at hx⟩,fun n hn=>by cases hn⟩
 ·obtain⟨h1,h2⟩:=tL hrw
  refine ⟨⟨some ⟨b,off,none⟩,cap,(by rw[Lib.bytesOf_length];exact rfl),fun hh=>(by cases hh),fun p hp i x hx=>?_⟩,h2⟩
  cases hp
  unfold Lib.bytesOf at hx
  rw[List.getElem?_map,Option.map_eq_some_iff] at hx
  obtain⟨n,hn,rfl⟩:=hx
  rw[ZA (h2 n (List.mem_of_getElem? hn))]
  have:=hat i (.int .u8 n) (by rw[h1,List.getElem?_map,hn];rfl)
  rw[←this]
  by_cases hj0:i=0<;>simp[Addr.add,hj0]
theorem iN {w:World} {O:Nat→Prop}:∀ {l:List (List Int)} {vs:List Value},RowOf (Reads w O U8s) l vs→vs.length=l.length∧(∀(i:Nat) v x,vs[i]?=some v→l[i]?=some x→Lib.HoldsBytes w v (Lib.bytesOf x))∧∀x∈l,∀n∈x,0≤n∧n≤255
 |[],vs,h=>by
  have h':vs=[]:=h
  subst h'
  exact ⟨rfl,fun i v x h=>by simp at h,fun x hx=>by cases hx⟩
 |y::l,vs,⟨v1,v2,e,e1,h3⟩=>by
  obtain⟨k1,k2,k3⟩:=iN h3
  obtain⟨v,rfl,e2,e3⟩:=iM e1
  subst e
  refine ⟨by simp[k1],fun i u x hu hx=>?_,fun x hx=>?_⟩
  ·cases i with
   |zero=>simp at hu hx;subst hu hx;exact e2
   |succ i=>simp at hu hx;exact k2 i u x hu hx
  ·rcases List.mem_cons.1 hx with rfl|hx
   ·exact e3
   ·exact k3 x hx
theorem Adf (l:List (List Int)):Lib.join (l.map Lib.bytesOf) []=Lib.bytesOf l.flatten:=by
 cases l with
 |nil=>rfl
 |cons x r =>
  rw[List.map_cons,Lib.join_cons]
  unfold Lib.joinTail
  simp only[List.nil_append,List.map_id']
  rw[List.flatten_cons]
  unfold Lib.bytesOf
  rw[List.map_append]
  congr 1
  rw[List.map_flatten]
theorem Adh (l:List (List Int)):Lib.lens (l.map Lib.bytesOf)=l.flatten.length:=by
 unfold Lib.lens
 rw[List.length_flatten,List.map_map]
 congr 1
 exact List.map_congr_left fun x _=>Lib.bytesOf_length x
theorem iO {w:World} {O:Nat→Prop}:∀ {l:List Int},(∀n∈l,0≤n∧n≤255)→RowOf (Reads w O U8) l (l.map fun n=>Value.int .u8 n)
 |[],_=>rfl
 |n::l,h=>⟨[.int .u8 n],l.map fun n=>Value.int .u8 n,rfl,⟨rfl,by
   have:=h n (List.mem_cons_self ..)
   unfold inR
   simp only[Bool.and_eq_true,decide_eq_true_eq]
   exact this⟩,iO fun m hm=>h m (List.mem_cons_of_mem _ hm)⟩
theorem AbT (w:World) (F:Nat→Prop) (vals:List Value) (l:List (List Int)) (sep:List Int) (y:List Int) (hF:∀b,F b→b<w.heap.size) (hr:BU w F [Kw,U8s] (l,sep) vals) (hy:Gs (l,sep)=some y) :
 Calls Tryz.prog 85 vals.toArray w fun e w'=>∃rs,e=.returned (CQ rs)∧Below w.heap.size w w'∧FV w.heap.size w' F false [U8s] y rs:=by
 have hl:2≤l.length∧sep=[]∧l.length≤1000000∧l.flatten.length≤1000000∧y=l.flatten:=by
  unfold Gs at hy
  split at hy
  ·rename_i a b r e
   obtain⟨rfl,rfl⟩:=Prod.mk.inj e
   split at hy
   ·rename_i c
    unfold Aa at c
    exact ⟨by simp,rfl,by omega,by omega,(Option.some.inj hy).symm⟩
   ·cases hy
  ·cases hy
 obtain⟨h2,rfl,h3,h4,rfl⟩:=hl
 obtain⟨us,vs',hus,rfl,us2,hus2,rfl⟩:=hr
 obtain⟨sv,rfl,hsv,_⟩:=iM (show Reads w F U8s [] us2 from hus2)
 obtain⟨a,cap,rfl,hl,hm,hrow⟩:=hus
 rcases hrow with h0|⟨b,off,cells,rfl,_,hb,hat,hrw⟩
 ·have:l.length=0:=h0
  omega
 obtain⟨k1,k2,k3⟩:=iN (show RowOf (Reads w F U8s) l cells from hrw)
 have hP:Lib.PartsAt w ⟨b,off,none⟩ cells (l.map Lib.bytesOf):=by
  refine ⟨by rw[k1,List.length_map],fun i v hv=>?_,fun i v x hv hx=>?_⟩
  ·have:=hat i v hv
   rw[←this]
   by_cases hj0:i=0<;>simp[Addr.add,hj0]
  ·rw[List.getElem?_map,Option.map_eq_some_iff] at hx
   obtain⟨z,hz,rfl⟩:=hx
   exact k2 i v z hv hz
 have hby:∀n∈l.flatten,0≤n∧n≤255:=fun n hn=>by
  obtain⟨x,hx,hnx⟩:=List.mem_flatten.1 hn
  exact k3 x hx n hnx
 refine (Any.bytes_Join_many Adg b off l.length cap cells (l.map Lib.bytesOf) sv (Lib.bytesOf []) w (by rw[List.length_map]) h2 hP hl hsv (by omega) (by rw[Adh,show (Lib.bytesOf []).length=0 from rfl,Nat.zero_mul];omega)).mono ?_
 rintro e w' ⟨v',rfl,⟨g,c2,zs,rfl,hg,hle,hcm,hz,hzr,hbo,hc,_⟩,hB⟩
 rw[show Lib.bytesOf []=[] from rfl,Adf] at hbo hle ⊢
 rw[Lib.bytesOf_length] at hbo hle ⊢
 have hzy:zs.take l.flatten.length=l.flatten:=SM (fun n hn=>by have:=hzr n (List.mem_of_mem_take hn);omega) hby hbo
 refine ⟨[.slice (some ⟨g,0,none⟩) l.flatten.length c2],rfl,hB,[.slice (some ⟨g,0,none⟩) l.flatten.length c2],⟨some ⟨g,0,none⟩,c2,rfl,hle,hcm,?_⟩,rfl⟩
 by_cases hn:l.flatten.length=0
 ·exact .inl hn
 ·refine .inr ⟨g,0,l.flatten.map fun n=>Value.int .u8 n,rfl,fun hh=>by have:=hF g hh;omega,?_,fun j v hj=>?_,iO hby⟩
  ·exact World.block_lt_of_cell? w' ⟨g,0,none⟩ (hc 0 (by omega))
  ·rw[List.getElem?_map,Option.map_eq_some_iff] at hj
   obtain⟨n,hn,rfl⟩:=hj
   have hjl:j<l.flatten.length:=(List.getElem?_eq_some_iff.1 hn).1
   rw[Nat.zero_add,hc j (by omega)]
   have:zs[j]?=some n:=by
    have e:(zs.take l.flatten.length)[j]?=some n:=by rw[hzy];exact hn
    rw[List.getElem?_take,if_pos hjl] at e
    exact e
   rw[List.getD_eq_getElem?_getD,this]
   rfl
theorem fZ:Ao Tryz.prog V 85 (spP [Kw,U8s] [U8s] Gs) where
 enters:=enters_of Tryz.func85 (by kernel_rfl) rfl
 tot:=fun g hg=>by cases hg
 calls:=fun w F vals x y _ hF hr hy=>AbT w F vals x.1 x.2 y hF hr hy
theorem PT:Ao Tryz.prog V 36 (spP [Hn,I64] [Kw,I64] BP):=Aq (.cons NV (.cons OX (.cons bP (.cons fZ .nil)))) stays Az (As (hs:={loops:=[(0,[.own 12 U8s,.slot 74 I64])]}) Tryz.func36) false fun x=>by kernel_rfl
theorem Mq:CH Tryz.prog V 81 (spP [Jm] [Jm] Bd):=C8 (.cons PW (.cons QN (.cons mI (.cons PT (.cons JZ .nil))))) .nil Az .nil (As (hs:={loops:=[(0,[.own 2 U8,.slot 20 I64]),(2,[.slot 109 I64])]}) Tryz.func81) 1 fun x=>by kernel_rfl
theorem NY:Ao Tryz.prog V 61 (spP [AL] [Hn,I64] D9):=Gy (.cons KD (.cons Sj .nil)) (.cons Mq .nil) stays Az (.cons (As (hs:={unr:=[(0,3)],loops:=[(2,[.slot 30 I64,.nbox Jm [3]])]}) Tryz.func35) (.cons (As (hs:={}) Tryz.func37) (.cons (As (hs:={}) Tryz.func86) .nil))) (As (hs:={}) Tryz.func61) false 4 fun x=>by kernel_rfl
theorem NT:Ao Tryz.prog V 199 (spP [Aj,I64,I64] [Bo] CR):=Aq .nil stays Az (As (hs:={}) Tryz.func199) false fun x=>by kernel_rfl
theorem PK:Ao Tryz.prog V 200 (spP [Aj,I64,I64] [I64] C9):=Aq .nil stays Az (As (hs:={}) Tryz.func200) false fun x=>by kernel_rfl
theorem Ov:Ao Tryz.prog V 153 (spP [Aj] [I64] B0):=Aq (.cons NT (.cons PK .nil)) stays Az (As (hs:={loops:=[(0,[.slot 3 I64,.slot 9 I64]),(2,[.slot 3 I64,.slot 15 I64])]}) Tryz.func153) false fun x=>by kernel_rfl
theorem lN:Ao Tryz.prog V 102 (spP [Aj] [A7] HJ):=Aq (.cons Ov .nil) stays Az (As (hs:={loops:=[(0,[.slot 10 I64,.fown 3 .unit FF (.pair I64 Bo)])]}) Tryz.func102) false fun x=>by kernel_rfl
theorem lB:Ao Tryz.prog V 62 (spP [Aj] [A7,I64] HH):=Aq (.cons CB (.cons lN .nil)) stays Az (As (hs:={}) Tryz.func62) false fun x=>by kernel_rfl
theorem Sm:Ao Tryz.prog V 63 (spP [Ty.slice U8] [Ty.slice U8] EU true) :=
 IA (e:=5) (T:=U8) stays Az Tryz.func63 ⟨by kernel_rfl,rfl,by kernel_rfl,by kernel_rfl,by decide,⟨0,1,2,_,_,_,_,rfl,⟨rfl,rfl,rfl⟩,⟨rfl,rfl,rfl⟩,⟨rfl,⟨_,rfl⟩,rfl⟩,⟨rfl,rfl,rfl⟩⟩⟩ (fun l=>by kernel_rfl) (fun y h=>(Option.some.inj ((show EU []=some [] by kernel_rfl).symm.trans h)).symm)
theorem ZE:Ao Tryz.prog V 64 (spT [U8] [Eo] CP):=AU .nil stays Az (As (hs:={}) Tryz.func64) false fun x=>.trans (by kernel_rfl) (ZC x)
theorem Rs:Ao Tryz.prog V 30 (spP [Aj,AL] [Cj] EZ):=Aq (.cons NY (.cons lB (.cons Sm (.cons ZE .nil)))) stays Az (As (hs:={}) Tryz.func30) false fun x=>by kernel_rfl
theorem Rp:Ao Tryz.prog V 9 (spP [Aj,AL] [Cj,I64] Cx):=Aq (.cons CB (.cons PB (.cons Rs .nil))) stays Az (As (hs:={}) Tryz.func9) false fun x=>by kernel_rfl
theorem LI:Ao Tryz.prog V 110 (spP [Kw] [U8s] Cg):=DB .nil stays Az (.cons (As (hs:={}) Tryz.func161) .nil) (As (hs:={loops:=[(0,[.slot 3 I64,.slot 11 I64]),(2,[.slot 27 I64,.own 6 U8])]}) Tryz.func110) false 2 fun x=>by kernel_rfl
theorem N5:Ao Tryz.prog V 92 (spP [U8s,U8] [I64] CT):=Aq .nil stays Az (As (hs:={loops:=[(0,[.slot 5 I64])]}) Tryz.func92) false fun x=>by kernel_rfl
theorem Pp:Ao Tryz.prog V 47 (spP [U8s,U8] [I64] CN):=Aq (.cons N5 .nil) stays Az (As (hs:={}) Tryz.func47) false fun x=>by kernel_rfl
theorem gR:Ao Tryz.prog V 151 (spP [U8s] [U8s,I64] DZ true):=Aq .nil stays Az (As (hs:={loops:=[(0,[.own 4 U8,.slot 5 Bo,.slot 13 I64])]}) Tryz.func151) true fun x=>by kernel_rfl
theorem bR:Ao Tryz.prog V 198 (spP [U8s] [U32] Ga):=Aq .nil stays Az (As (hs:={loops:=[(0,[.slot 4 U32,.slot 10 I64,.arr 3 U32])],unr:=[]}) Tryz.func198) false fun x=>by kernel_rfl
theorem gU:Ao Tryz.prog V 152 (spP [U8s] [E8,I64] EC):=Aq (.cons bN (.cons bR (.cons JY .nil))) stays Az (As (hs:={}) Tryz.func152) false fun x=>by kernel_rfl
theorem Sz:Ao Tryz.prog V 21 (spP [U8s] [F4,I64,I64] Cz):=DB (.cons Pp (.cons gR (.cons gU .nil))) stays Az (.cons (As (hs:={}) Tryz.func45) (.cons (As (hs:={loops:=[(0,[.slot 25 I64,.own 6 E8,.fbox 0 Abn [0]])]}) Tryz.func46) (.cons (As (hs:={}) Tryz.func91) .nil))) (As (hs:={}) Tryz.func21) false 4 fun x=>by kernel_rfl
theorem SQ:Ao Tryz.prog V 158 (spT [GH] [I64] Fo):=AU .nil stays Az (As (hs:={}) Tryz.func158) false fun x=>.trans (by kernel_rfl) (jB x)
theorem qE:Ao Tryz.prog V 111 (spP [GH,F4] [GH,F4,I64] F9):=Aq (.cons SQ (.cons JY .nil)) stays Az (As (hs:={loops:=[(0,[.slot 25 I64,.box 4 GH]),(2,[.own 10 E8,.slot 37 I64,.box 2 GH])]}) Tryz.func111) false fun x=>by kernel_rfl
theorem Md:CH Tryz.prog V 48 (spP [FJ,I64] [FJ,I64] AY):=C8 (.cons QN .nil) .nil Az .nil (As (hs:={}) Tryz.func48) 1 fun x=>by kernel_rfl
theorem SW:Ao Tryz.prog V 94 (spT [I64] [Bo] F0):=AU .nil stays Az (As (hs:={}) Tryz.func94) false fun x=>by kernel_rfl
theorem Ye:Hq Tryz.prog V 95 (spP [U8s,DN] [U8s] Fp):=qS (.cons OX .nil) .nil Az .nil (As (hs:={loops:=[(0,[.own 0 U8,.slot 9 I64])]}) Tryz.func95) 1 fun x=>by kernel_rfl
theorem ZO:Ao Tryz.prog V 162 (spP [IW] [U8s,I64] Gk):=Tk (.cons SW (.cons NV .nil)) .nil (.cons Ye .nil) stays Az .nil (As (hs:={}) Tryz.func162) false 1 fun x=>by kernel_rfl
theorem WO:Ao Tryz.prog V 112 (spP [U8s] [IW,I64] Du):=Gy (.cons ZO (.cons JZ .nil)) (.cons Md .nil) stays Az .nil (As (hs:={loops:=[(0,[.slot 23 I64,.fbox 6 IW [3],.box 11 FJ])]}) Tryz.func112) false 1 fun x=>by kernel_rfl
theorem VT:Ao Tryz.prog V 41 (spP [Aj,I64] [I64] Eu):=Aq .nil stays Az (As (hs:={}) Tryz.func41) false fun x=>by kernel_rfl
theorem mF:Ao Tryz.prog V 89 (spP [Aj,I64,I64] [I64,I64] HN):=DB (.cons T3 (.cons CB (.cons H4 .nil))) stays Az (.cons (As (hs:={loops:=[(0,[.slot 17 I64])]}) Tryz.func149) (.cons (As (hs:={}) Tryz.func150) .nil)) (As (hs:={joins:=[(2,[])],outs:=[(2,[(8,I64)])]}) Tryz.func89) false 3 fun x=>by kernel_rfl
theorem Tu:Ao Tryz.prog V 40 (spP [Aj,I64] [I64] EI):=Aq (.cons VT (.cons mF .nil)) stays Az (As (hs:={}) Tryz.func40) false fun x=>by kernel_rfl
theorem To:Ao Tryz.prog V 113 (spP [Aj,Cl] [Cl,I64] EH):=Aq (.cons CB (.cons Tu .nil)) stays Az (As (hs:={loops:=[(0,[.slot 54 I64,.slot 8 I64,.slot 9 I64,.slot 10 I64,.fown 7 (.pair I64 I64) I64 .unit,.arr 11 I64]),(2,[.slot 115 I64,.slot 15 I64,.fown 7 (.pair I64 I64) I64 .unit])],joins:=[(14,[.fown 7 (.pair I64 I64) I64 .unit,.arr 11 I64]),(16,[.slot 10 I64,.fown 7 (.pair I64 I64) I64 .unit,.arr 11 I64])]}) Tryz.func113) false fun x=>by kernel_rfl
theorem KL:Ao Tryz.prog V 78 (spT [I64,I64] [I64] BK):=AU .nil stays Az (As (hs:={}) Tryz.func78) false fun x=>by kernel_rfl
theorem S9:CH Tryz.prog V 66 (spP [AZ] [AZ,Bo] Em):=C8 (.cons LI (.cons Sz (.cons Sm (.cons qE (.cons WO (.cons To (.cons KL .nil))))))) .nil Az .nil (As (hs:={loops:=[(0,[.slot 10 Bo,.slot 80 I64,.box 0 AZ])],joins:=[(6,[.box 0 AZ])]}) Tryz.func66) 1 fun x=>by kernel_rfl
theorem MR:Ao Tryz.prog V 163 (spP [DN,DN] [Bo] CG):=Aq .nil stays Az (As (hs:={loops:=[(0,[.slot 13 I64])]}) Tryz.func163) false fun x=>by kernel_rfl
theorem jQ:Ao Tryz.prog V 114 (spP [Cl,Cl] [Bo] HC):=Aq (.cons MR .nil) stays Az (As (hs:={}) Tryz.func114) false fun x=>by kernel_rfl
theorem Ui:CH Tryz.prog V 38 (spP [Jm,I64] [I64] CC true):=VQ (.cons PW .nil) .nil stays Az .nil (As (hs:={loops:=[(0,[.slot 1 I64,.slot 16 I64]),(2,[.slot 1 I64,.slot 28 I64]),(4,[.slot 1 I64]),(6,[.slot 49 I64])]}) Tryz.func38) 1 fun x=>by kernel_rfl
theorem rZ:Ao Tryz.prog V 15 (spP [AL,U8,FP] [N9,I64] Hj):=Gy (.cons PT (.cons KD (.cons Sj .nil))) (.cons Ui (.cons Mq .nil)) stays Az (.cons (As (hs:={unr:=[(0,3)],loops:=[(2,[.slot 30 I64,.nbox Jm [3]])]}) Tryz.func35) (.cons (As (hs:={}) Tryz.func37) (.cons (As (hs:={}) Tryz.func86) .nil))) (As (hs:={loops:=[(0,[.own 18 Abm,.slot 79 I64])]}) Tryz.func15) false 4 fun x=>by kernel_rfl
theorem RL:CH Tryz.prog V 67 (spP [AZ] [AZ] Df):=C8 (.cons NY (.cons jQ (.cons rZ .nil))) .nil Az .nil (As (hs:={}) Tryz.func67) 1 fun x=>by kernel_rfl
set_option maxRecDepth 100000 in
theorem u0:Hq Tryz.prog V 119 (spP [I64,I64] [I64,I64] P8):=Abq Tryz.func119 ⟨rfl,rfl,rfl,by kernel_rfl,by kernel_rfl,rfl,by kernel_rfl,by decide,⟨0,1,_,_,_,_,_,_,_,_,_,rfl,⟨rfl,rfl,rfl⟩,⟨rfl,rfl,rfl⟩,⟨rfl,rfl,rfl⟩,⟨rfl,rfl,rfl⟩,⟨rfl,rfl,rfl⟩,⟨rfl,⟨_,_,rfl⟩,rfl⟩,⟨rfl,rfl,rfl⟩,⟨rfl,rfl,rfl⟩,⟨rfl,rfl,rfl⟩⟩⟩
def KC:List (Nat×Al):=[(60,spT [AL] [I64] CD),(117,spT [AL,I64] [I64] Fl),(118,spP [U8s] [U8s] CL true)]
theorem uV:AllMeet Tryz.prog V KC:=(.cons Mu (.cons Q9 (.cons JY .nil)))
def Qc:List (Nat×Al):=[(119,spP [I64,I64] [I64,I64] P8)]
theorem uW:AllMeetO Tryz.prog V Qc:=.cons u0 .nil
def Xz:Hints:={loops:=[(0,[.slot 21 I64,.box 8 AL,.box 9 I64]),(2,[.slot 60 I64,.fbox 8 AL [0]])]}
set_option maxRecDepth 100000 in
theorem uU:∃i0 i1 ops0 o3 o4 rest,(Ak Tryz.f69 Xz).code=.seq (.region i0 ops0 false) (.seq (.region i1 #[o3,o4] false) rest)∧(o3.dst=some 14∧o3.op=.makeFunc (.func 116) #[] #[.tmp 9,.tmp 8]∧o3.guard=none)∧(o4.dst=none∧(∃ats,o4.op=.defer {callee:=.value (.tmp 14),args:=#[],argTypes:=ats})∧o4.guard=none) ∧
 ∀x,Zo (mkO Tryz.prog V KC [] Qc []) 1 (Ak Tryz.f69 Xz) (Ak Tryz.f116 {}) (.region i0 ops0 false) rest 14 8 9 [AL,N9,I64,I64] [AL,I64] x=G1 x :=
 ⟨_,_,_,_,_,_,rfl,⟨rfl,rfl,rfl⟩,⟨rfl,⟨_,rfl⟩,rfl⟩,fun x=>by kernel_rfl⟩
theorem XA:Ao Tryz.prog V 69 (spP [AL,N9,I64,I64] [AL,I64] G1):=by
 obtain⟨i0,i1,ops0,o3,o4,rest,hc,h3,h4,hd⟩:=uU
 exact ZX (C:=mkO Tryz.prog V KC [] Qc []) (AllMeet.tblP (pl:=[]) (il:=[]) uV) ⟨AllMeetP.ptbl (l:=KC) (il:=[]) AllMeetP.nil,fun f sp hf=>uW (f,sp) (HX hf)⟩ stays Az (AllOK.inlP (V:=V) (l:=KC) (pl:=[]) AllOK.nil)
  (As Tryz.func69 (by kernel_rfl) (by kernel_rfl) (by kernel_rfl)) (As (hs:={}) Tryz.func116 (by kernel_rfl) (by kernel_rfl) (by kernel_rfl)) rfl hc h3 h4 (by decide) 1 (fun x y hy=>(hd x).trans hy)
theorem Tx (n:Nat) (hn:n≤1000000):bits .and .u64 (n:Int) 4294967295=n:=by
 have h:=Mul64.maskN n (by omega)
 rw[h];omega
theorem AaU (n:Nat) (hn:n≤1000000) (w:World):Calls Tryz.prog 221 #[.int .u64 1,.int .u64 n] w fun e w'=>e=.returned (.tuple #[.int .u64 0,.int .u64 n])∧w'=w:=by
 have h1:=Tx 1 (by omega)
 have h0:=Tx 0 (by omega)
 have hm:=Tx n hn
 have e1:((1:Nat):Int)=1:=rfl
 have e0:((0:Nat):Int)=0:=rfl
 rw[e1] at h1
 rw[e0] at h0
 have d1:(1:Int)/4294967296=0:=by decide
 have d2:(n:Int)/4294967296=0:=by omega
 have wn:IntKind.u64.wrap (n:Int)=n:=by rw[IntKind.wrap_u64];omega
 go_enter Tryz.func221,Tryz.ntmps221
 go_wp2
 go_ret2
 exact ⟨rfl,rfl⟩
theorem AdG (n:Nat) (hn:n≤1000000) (w:World):Calls Tryz.prog 201 #[.int .u64 1,.int .u64 n] w fun e w'=>e=.returned (.tuple #[.int .u64 0,.int .u64 n])∧w'=w:=by
 have c64:=AaU n hn w
 have e131:∀args w,(callFunc 221 args).run Tryz.prog w=.ok (.enter 221 args) w:=enters_of Tryz.func221 (by kernel_rfl) rfl
 go_enter Tryz.func201,Tryz.ntmps201
 go_wp2_with (go_at_fn 221;refine c64.mono ?_;rintro e w' ⟨rfl,hw⟩;rw[hw])
 go_ret2
 exact ⟨rfl,rfl⟩
def B8 (n m:Nat) (v:Int):List Value:=List.replicate m (.int .u8 v)++List.replicate (n-m) (.int .u8 0)
theorem OY {n m:Nat} {v:Int} (h:m≤n):(B8 n m v).length=n:=by simp[B8];omega
theorem Tz {n m k:Nat} {v:Int} (h:m+k≤n):(B8 n m v).take m++List.replicate k (.int .u8 v)++(B8 n m v).drop (m+k)=B8 n (m+k) v:=by
 unfold B8
 rw[List.take_append_of_le_length (by simp),List.take_of_length_le (by simp),List.drop_append,List.drop_of_length_le (by simp)]
 simp only[List.length_replicate,List.nil_append,List.drop_replicate,List.replicate_append_replicate]
 congr 2
 omega
theorem Acd (n:Nat):madeCells (Value.int .u8 0).cells n=(B8 n 0 0).toArray:=by
 apply Array.ext
 ·simp[madeCells,B8]
 ·intro j h1 h2
  simp[madeCells,B8,Value.cells,Nat.mod_one]
theorem AaT:(Tryz.prog.info? 5).map (fun i=>(i.zero,i.size,i.bytes))=some (some (.int .u8 0),1,1):=by kernel_rfl
theorem Ace (n:Nat) (hn:n≤1000000) (w:World):(Instr.makeSlice 30 (.int .i64 n) (.int .i64 n)).run Tryz.prog w=.ok (.slice (some ⟨w.heap.size,0,none⟩) n n) (w.alloc (.cells (B8 n 0 0).toArray 5)):=by
 obtain⟨i,hi,hz,hs,hb⟩:=info_parts AaT
 have h:=run_makeSlice (P:=Tryz.prog) w 30 5 i (.int .u8 0) (by kernel_rfl) hi hz .i64 .i64 (n:Int) (n:Int) (by omega) (Int.le_refl _) (by rw[hs];omega) (by rw[hb];omega) (by omega)
 rw[h,hs,Int.toNat_natCast,Nat.mul_one,Acd]
theorem AaS (n:Nat) (v:Int) (h1:1≤n) (w:World) (p:Addr) (c:Nat) (hc:w.cell? p=some (.int .u8 v)) (g:Nat) (hg:w.heap[g]?=some (.cells (B8 n 0 0).toArray 5 (0,0))) (ty:TypeId) :
 (Builtin.copy_ #[30,30] ty #[.slice (some ⟨g,0,none⟩) n n,.slice (some p) 1 c]).run Tryz.prog w=.ok (.int .i64 1) (w.setRow g (B8 n 1 v).toArray):=by
 have h:=run_copy_row (P:=Tryz.prog) w 30 30 ty 5 g 0 n n p 1 c (B8 n 0 0).toArray 5 [.int .u8 v] (by kernel_rfl) (by kernel_rfl) hg (by show 1=min 1 n;omega) (fun j x hx=>by
  cases j with
  |zero=>simp at hx;subst hx;rw[show p.add 0=p by unfold Addr.add;split<;>simp_all];exact hc
  |succ j=>simp at hx) (by simp[B8];omega) (by simp[Value.oneCell'])
 rw[h]
 have e:=Tz (n:=n) (m:=0) (k:=1) (v:=v) (by omega)
 have e2:(B8 n 0 0)=(B8 n 0 v):=by simp[B8]
 rw[List.toList_toArray,e2,Nat.zero_add,List.length_singleton]
 simp only[List.replicate_one,Nat.zero_add] at e
 rw[e]
 rfl
theorem bU (n m:Nat) (v:Int) (h1:m<n) (w:World) (g:Nat) (hg:w.heap[g]?=some (.cells (B8 n m v).toArray 5 (0,0))) (ty:TypeId) (c1 c2:Nat) :
 (Builtin.copy_ #[30,30] ty #[.slice (some ⟨g,m,none⟩) (n-m) c1,.slice (some ⟨g,0,none⟩) m c2]).run Tryz.prog w=.ok (.int .i64 (min m (n-m):Nat)) (w.setRow g (B8 n (m+min m (n-m)) v).toArray):=by
 have hk:m+min m (n-m)≤n:=by omega
 have h:=run_copy_row (P:=Tryz.prog) w 30 30 ty 5 g m (n-m) c1 ⟨g,0,none⟩ m c2 (B8 n m v).toArray 5 (List.replicate (min m (n-m)) (.int .u8 v)) (by kernel_rfl) (by kernel_rfl) hg (by rw[List.length_replicate]) (fun j x hx=>by
  obtain⟨hj,rfl⟩:=List.getElem?_eq_some_iff.1 hx
  rw[List.length_replicate] at hj
  have hjm:j<m:=by omega
  have hcell:w.cell? ⟨g,j,none⟩=some (.int .u8 v):=by
   simp only[World.cell?,hg]
   simp[B8,List.getElem?_append,hjm]
  rw[List.getElem_replicate,←hcell]
  by_cases hj0:j=0<;>simp[Addr.add,hj0]) (by simp only[List.length_replicate,List.size_toArray];rw[OY (by omega)];omega) (fun x hx=>by rw[(List.mem_replicate.1 hx).2];rfl)
 rw[h,List.toList_toArray,List.length_replicate,Tz hk]
 rfl
set_option maxHeartbeats 4000000 in
set_option maxRecDepth 100000 in
theorem Acf (n:Nat) (v:Int) (hn1:1≤n) (hn:n≤1000000) (w:World) (p:Addr) (c:Nat) (hc:w.cell? p=some (.int .u8 v)):Calls Tryz.prog 164 #[.slice (some p) 1 c,.int .i64 n] w fun e w'=>e=.returned (.slice (some ⟨w.heap.size,0,none⟩) n n)∧Below w.heap.size w w'∧w'.heap[w.heap.size]?=some (.cells (B8 n n v).toArray 5 (0,0)):=by
 have c64:=AdG n hn w
 have hmk:=Ace n hn w
 have e131:∀args w,(callFunc 201 args).run Tryz.prog w=.ok (.enter 201 args) w:=enters_of Tryz.func201 (by kernel_rfl) rfl
 have hg1:(w.alloc (.cells (B8 n 0 0).toArray 5)).heap[w.heap.size]?=some (.cells (B8 n 0 0).toArray 5 (0,0)):=World.alloc_heap_new _ _
 have hcp:=fun ty=>AaS n v hn1 (w.alloc (.cells (B8 n 0 0).toArray 5)) p c ((Below.refl _ w).alloc (Nat.le_refl _) _ |>.cell (World.block_lt_of_cell? w p hc) |>.trans hc) w.heap.size hg1 ty
 go_enter Tryz.func164,Tryz.ntmps164
 go_wp2_with (go_at_fn 201;refine c64.mono ?_;rintro e w' ⟨rfl,hw⟩;rw[hw])
 go_loopw [8] (fun i wr=>∃m:Nat,1≤m∧m≤n∧i=.int .i64 m∧wr.heap[w.heap.size]?=some (.cells (B8 n m v).toArray 5 (0,0))∧Below w.heap.size w wr) (fun i _=>n-(intOf i).toNat)
 case atStart=>exact ⟨1,Nat.le_refl _,hn1,rfl,setRow_heap _ _ _ _ _ _ hg1,below_setRow ((Below.refl _ w).alloc (Nat.le_refl _) _) (Nat.le_refl _) _⟩
 case round =>
  obtain⟨m,h0,h1,rfl,hg,hB⟩:=hrel
  have hcp2:=fun h ty=>bU n m v h wr w.heap.size hg ty
  go_wp2
  ·have hlt:m<n:=by assumption
   have hcp3:=bU n m v hlt wr.drew w.heap.size hg 3 (n-m) n
   go_region
   go_wp2
   go_roundw
   case rel=>exact ⟨m+min m (n-m),by omega,by omega,by simp,setRow_heap _ _ _ _ _ _ (show wr.drew.heap[w.heap.size]? = _ from hg),below_setRow (hB.drew) (Nat.le_refl _) _⟩
   case measure=>simp[intOf];omega
  ·have hmn:m=n:=by omega
   subst hmn
   go_ret
   exact ⟨rfl,hB,hg⟩
theorem kS {w:World} {O:Nat→Prop} {v:Int} (hv:inR .u8 v=true):∀n:Nat,RowOf (Reads w O U8) (List.replicate n v) (List.replicate n (Value.int .u8 v))
 |0=>rfl
 |n+1=>⟨[.int .u8 v],List.replicate n (.int .u8 v),by rw[List.replicate_succ];rfl,⟨rfl,hv⟩,kS hv n⟩
theorem AaR (w:World) (F:Nat→Prop) (vals:List Value) (l:List Int) (k:Int) (y:List Int) (hr:BU w F [Ty.slice U8,I64] (l,k) vals) (hy:EL (l,k)=some y) :
 Calls Tryz.prog 164 vals.toArray w fun e w'=>∃rs,e=.returned (CQ rs)∧Below w.heap.size w w'∧FV w.heap.size w' F true [Ty.slice U8] y rs:=by
 obtain⟨v,rfl,h1,h2,rfl⟩:=rC hy
 obtain⟨us,vs',hus,rfl,us2,hus2,rfl⟩:=hr
 obtain⟨rfl,_⟩:=(show us2=[.int .i64 k]∧inR .i64 k=true from hus2)
 obtain⟨a,cap,rfl,hl,hm,hrow⟩:=hus
 rcases hrow with h0|⟨b,off,cells,rfl,_,hb,hat,hrw⟩
 ·exact absurd h0 (by simp)
 ·obtain⟨v1,v2,rfl,⟨rfl,hv⟩,h3⟩:=hrw
  have hc:w.cell? ⟨b,off,none⟩=some (.int .u8 v):=hat 0 _ rfl
  obtain⟨n,rfl⟩:∃n:Nat,k=n:=⟨k.toNat,by omega⟩
  refine (Acf n v (by omega) (by omega) w ⟨b,off,none⟩ cap hc).mono fun e w' ⟨he,hB,hg⟩=>?_
  refine ⟨[.slice (some ⟨w.heap.size,0,none⟩) n n],he,hB,.slice (some ⟨w.heap.size,0,none⟩) n n,some w.heap.size,rfl,some ⟨w.heap.size,0,none⟩,n,?_,?_,?_,.inr ⟨w.heap.size,_,_,by omega,rfl,rfl,Nat.le_refl _,(Array.getElem?_eq_some_iff.1 hg).1,hg,?_,?_⟩⟩
  ·show Value.slice _ n n=Value.slice _ (List.length (List.replicate ((n:Int)).toNat v)) n
   simp
  ·show List.length (List.replicate ((n:Int)).toNat v)≤n
   simp
  ·unfold maxLen;omega
  ·rw[List.size_toArray,OY (Nat.le_refl _)];exact (Nat.mul_one n).symm
  ·show RowOf _ (List.replicate ((n:Int)).toNat v) ((B8 n n v).toArray.toList.take (List.length (List.replicate ((n:Int)).toNat v)*1))
   simp only[Int.toNat_natCast,List.length_replicate,Nat.mul_one]
   rw[List.take_of_length_le (by rw[OY (Nat.le_refl _)];exact Nat.le_refl _)]
   unfold B8
   rw[Nat.sub_self,List.replicate_zero,List.append_nil]
   exact kS hv n
theorem YL:Ao Tryz.prog V 164 (spP [Ty.slice U8,I64] [Ty.slice U8] EL true) where
 enters:=fun args w=>by
  have h:FnOK Tryz.prog 164 (Ak Tryz.f164 {}):=As Tryz.func164 (by kernel_rfl) (by kernel_rfl) (by kernel_rfl)
  exact h.enters args w
 tot:=fun g hg=>by cases hg
 calls:=fun w F vals x y _ _ hr hy=>AaR w F vals x.1 x.2 y hr hy
theorem K5:CH Tryz.prog V 115 (spP [AZ] [AZ,U8s] CK):=C8 (.cons YL .nil) .nil Az .nil (As (hs:={}) Tryz.func115) 1 fun x=>by kernel_rfl
theorem lU:Ao Tryz.prog V 185 (spP [A7] [U8s] HK true):=Aq .nil stays Az (As (hs:={loops:=[(0,[.slot 13 I64,.arr 9 U8])]}) Tryz.func185) true fun x=>by kernel_rfl
theorem NU:Ao Tryz.prog V 186 (spP [U8s] [Bo] D5):=DB .nil stays Az (.cons (As (hs:={}) Tryz.func181) (.cons (As (hs:={loops:=[(0,[.slot 8 I64])]}) Tryz.func211) (.cons (As (hs:={}) Tryz.func213) .nil))) (As (hs:={}) Tryz.func186) false 4 fun x=>by kernel_rfl
theorem YH:Ao Tryz.prog V 190 (spT [U8] [Bo] CY):=AU .nil stays Az (As (hs:={}) Tryz.func190) false fun x=>by kernel_rfl
theorem V2:Ao Tryz.prog V 187 (spP [Aj,U8s] [Bo] Ew):=Aq (.cons YH (.cons NT .nil)) stays Az (As (hs:={loops:=[(0,[.slot 9 I64]),(2,[.slot 18 I64])]}) Tryz.func187) false fun x=>by kernel_rfl
theorem xK:Ao Tryz.prog V 136 (spP [Aj,A7] [Bo] JA):=Aq (.cons lU (.cons NU (.cons V2 .nil))) stays Az (As (hs:={}) Tryz.func136) false fun x=>by kernel_rfl
theorem K0:Ao Tryz.prog V 214 (spP [U8s,U8] [I64] B9):=Aq .nil stays Az (As (hs:={loops:=[(0,[.slot 8 I64])]}) Tryz.func214) false fun x=>by kernel_rfl
theorem Kc:Ao Tryz.prog V 188 (spP [U8s,U8] [Bo] BO):=Aq (.cons K0 .nil) stays Az (As (hs:={}) Tryz.func188) false fun x=>by kernel_rfl
theorem OP:Ao Tryz.prog V 212 (spT [I64] [I64] CJ):=AU .nil stays Az (As (hs:={}) Tryz.func212) false fun x=>by kernel_rfl
theorem pU:Ao Tryz.prog V 215 (spT [U8] [Bo] F8):=AU .nil stays Az (As (hs:={}) Tryz.func215) false fun x=>by kernel_rfl
theorem ZL:Ao Tryz.prog V 216 (spT [U8,U8] [Bo] Fz):=AU .nil stays Az (As (hs:={}) Tryz.func216) false fun x=>by kernel_rfl
theorem wM:Ao Tryz.prog V 191 (spT [JJ,FF,U8] [U8] De):=AU (.cons OP (.cons pU (.cons ZL .nil))) stays Az (As (hs:={}) Tryz.func191) false fun x=>.trans (by kernel_rfl) (wK x)
theorem lG:Ao Tryz.prog V 192 (spP [Aj,A7,U8s] [Bo] FC):=Aq (.cons NT (.cons PK .nil)) stays Az (As (hs:={loops:=[(0,[.slot 14 I64]),(2,[.slot 32 I64])]}) Tryz.func192) false fun x=>by kernel_rfl
theorem lK:Ao Tryz.prog V 137 (spP [Aj,A7,U8s] [U8] HI):=DB (.cons NU (.cons Kc (.cons wM (.cons V2 (.cons lG (.cons YH .nil)))))) stays Az (.cons (As (hs:={}) Tryz.func181) (.cons (As (hs:={loops:=[(0,[.slot 8 I64])]}) Tryz.func211) (.cons (As (hs:={}) Tryz.func189) .nil))) (As (hs:={loops:=[(1,[.slot 38 I64])],joins:=[(8,[])],outs:=[(8,[(23,Bo)])]}) Tryz.func137) false 4 fun x=>by kernel_rfl
theorem Sn:Ao Tryz.prog V 138 (spP [Ty.slice FF] [Ty.slice FF] Fu true) :=
 IA (e:=107) (T:=FF) stays Az Tryz.func138 ⟨by kernel_rfl,rfl,by kernel_rfl,by kernel_rfl,by decide,⟨0,1,2,_,_,_,_,rfl,⟨rfl,rfl,rfl⟩,⟨rfl,rfl,rfl⟩,⟨rfl,⟨_,rfl⟩,rfl⟩,⟨rfl,rfl,rfl⟩⟩⟩ (fun l=>by kernel_rfl) (fun y h=>(Option.some.inj ((show Fu []=some [] by kernel_rfl).symm.trans h)).symm)
theorem qA:Ao Tryz.prog V 217 (spT [I64] [I64] H2):=AU (.cons OP .nil) stays Az (As (hs:={}) Tryz.func217) false fun x=>.trans (by kernel_rfl) (pZ x)
theorem pM:Ao Tryz.prog V 193 (spT [JJ,FF,U8] [FF] H0):=AU (.cons qA .nil) stays Az (As (hs:={}) Tryz.func193) false fun x=>.trans (by kernel_rfl) (pK x)
theorem eA:Ao Tryz.prog V 139 (spP [Aj,A7,U8s] [A7] GQ):=Aq (.cons Sn (.cons NU (.cons pM (.cons Ov .nil)))) stays Az (As (hs:={loops:=[(0,[.slot 23 I64,.arr 21 FF])]}) Tryz.func139) false fun x=>by kernel_rfl
theorem O5:Ao Tryz.prog V 75 (spP [Aj,A7,U8s] [A7,U8,I64] D4):=Aq (.cons CB (.cons xK (.cons lK (.cons Sn (.cons eA .nil))))) stays Az (As (hs:={}) Tryz.func75) false fun x=>by kernel_rfl
theorem Td:CH Tryz.prog V 68 (spP [AZ] [AZ] En):=C8 (.cons XA (.cons Rs (.cons O5 (.cons KL .nil)))) (.cons K5 .nil) Az .nil (As (hs:={joins:=[(4,[.slot 3 I64])]}) Tryz.func68) 1 fun x=>by kernel_rfl
theorem cU:Ao Tryz.prog V 120 (spP [Ty.slice JK] [Ty.slice JK] FL true) :=
 IA (e:=212) (T:=JK) stays Az Tryz.func120 ⟨by kernel_rfl,rfl,by kernel_rfl,by kernel_rfl,by decide,⟨0,1,2,_,_,_,_,rfl,⟨rfl,rfl,rfl⟩,⟨rfl,rfl,rfl⟩,⟨rfl,⟨_,rfl⟩,rfl⟩,⟨rfl,rfl,rfl⟩⟩⟩ (fun l=>by kernel_rfl) (fun y h=>(Option.some.inj ((show FL []=some [] by kernel_rfl).symm.trans h)).symm)
theorem Zm:Ao Tryz.prog V 121 (spP [Ty.slice DU] [Ty.slice DU] Gg true) :=
 IA (e:=215) (T:=DU) stays Az Tryz.func121 ⟨by kernel_rfl,rfl,by kernel_rfl,by kernel_rfl,by decide,⟨0,1,2,_,_,_,_,rfl,⟨rfl,rfl,rfl⟩,⟨rfl,rfl,rfl⟩,⟨rfl,⟨_,rfl⟩,rfl⟩,⟨rfl,rfl,rfl⟩⟩⟩ (fun l=>by kernel_rfl) (fun y h=>(Option.some.inj ((show Gg []=some [] by kernel_rfl).symm.trans h)).symm)
section
attribute [local go_sem] Oper.semAt_some
def puS (x r:Bool) (s:Int):Int:=min ((if x=r then s else 0)+1) 1048576
def puU (x u r:Bool) (s h:Int):Bool:=if h≤puS x r s then x else u
structure Uz (Bp:Nat) (u r:Bool) (s:Int) (W W1:World):Prop where
 os:W1.os=W.os
 tape:W1.tape=W.tape
 output:W1.output=W.output
 size:W1.heap.size=W.heap.size
 same:∀k,k≠Bp→W1.heap[k]?=W.heap[k]?
 box:W1.heap[Bp]?=some (.cells #[.bool u,.bool r,.int .i64 s] 212 (0,0))
set_option maxRecDepth 100000 in
set_option maxHeartbeats 4000000 in
theorem AaD (F:Fence) (n:Nat) (h8:F.fn 222) (hro:F.round=none) (hn:1≤n) (l Br Bp Bh b off cap:Nat) (x u r:Bool) (s h:Int) (hs:0≤s∧s≤1048576) (W:World)
 (hr:W.cell? ⟨Br,0,none⟩=some (.slice (some ⟨b,off,none⟩) 1 cap)) (hx:W.cell? ⟨b,off,none⟩=some (.bool x)) (hp:W.heap[Bp]?=some (.cells #[.bool u,.bool r,.int .i64 s] 212 (0,0))) (hh:W.cell? ⟨Bh,0,none⟩=some (.int .i64 h)) (hd:Br≠Bp∧b≠Bp∧Bh≠Bp)
 (R:World→Prop) (hY:∀W1,Uz Bp (puU x u r s h) x (puS x r s) W W1→YieldAt F (n-1) Tryz.prog l #[.agg #[.bool (puU x u r s h),.bool x,.int .i64 (puS x r s)]] W1 fun e W'=>e=.returned (.bool true)∧R W') :
 CallsIn F n Tryz.prog 222 #[.func (.yield l) #[] #[],.pointer (some ⟨Br,0,none⟩),.pointer (some ⟨Bp,0,none⟩),.pointer (some ⟨Bh,0,none⟩)] W fun e W'=>(∃v,e=.returned v)∧R W':=by
 have c0:W.cell? ⟨Bp,0,none⟩=some (.bool u):=by simp[World.cell?,hp]
 have c1:W.cell? ⟨Bp,1,none⟩=some (.bool r):=by simp[World.cell?,hp]
 have c2:W.cell? ⟨Bp,2,none⟩=some (.int .i64 s):=by simp[World.cell?,hp]
 have f0:W.frozen? ⟨Bp,0,none⟩=false:=by simp[World.frozen?,hp]
 have f1:W.frozen? ⟨Bp,1,none⟩=false:=by simp[World.frozen?,hp]
 have f2:W.frozen? ⟨Bp,2,none⟩=false:=by simp[World.frozen?,hp]
 refine callsIn_of_wp Tryz.func222 rfl h8 ?_ hro
 simp only[Tryz.ntmps222,List.size_toArray,List.length_cons,List.length_nil,Nat.reduceAdd,Nat.reduceSub,Array.replicate_succ,Array.replicate_zero,List.push_toArray,List.append_toArray,List.nil_append,List.cons_append]
 gi_wp2
 gi_loopw [9] (fun i wr=>(i=.int .i64 0∧wr=W)∨(i=.int .i64 1∧R wr)) (fun i _=>1-(intOf i).toNat)
 case atStart=>exact .inl ⟨rfl,rfl⟩
 case round =>
  rcases hrel with ⟨rfl,rfl⟩|⟨rfl,hR⟩
  ·obtain⟨hs0,hs1⟩:=hs
   obtain⟨hd1,hd2,hd3⟩:=hd
   have hlt:Bp<wr.heap.size:=(Array.getElem?_eq_some_iff.1 hp).1
   by_cases hxr:x=r
   ·subst hxr
    have PS:puS x x s=min (s+1) 1048576:=by simp[puS]
    have A0:=heap_setCell_same wr Bp 2 _ _ (.int .i64 (min (s+1) 1048576)) hp
    have A2:(wr.setCell ⟨Bp,2,none⟩ (.int .i64 (min (s+1) 1048576))).cell? ⟨Bp,2,none⟩=some (.int .i64 (min (s+1) 1048576)):=by simp[World.cell?,A0]
    have A1:(wr.setCell ⟨Bp,2,none⟩ (.int .i64 (min (s+1) 1048576))).cell? ⟨Bp,1,none⟩=some (.bool x):=by simp[World.cell?,A0]
    have Ac:(wr.setCell ⟨Bp,2,none⟩ (.int .i64 (min (s+1) 1048576))).cell? ⟨Bp,0,none⟩=some (.bool u):=by simp[World.cell?,A0]
    have Ah:(wr.setCell ⟨Bp,2,none⟩ (.int .i64 (min (s+1) 1048576))).cell? ⟨Bh,0,none⟩=some (.int .i64 h):=by
     repeat rw[World.cell?_setCell_far _ _ _ _ (fun e=>hd3 e.symm)]
     exact hh
    by_cases hle:h≤(min (s+1) 1048576)
    ·have PU:puU x u x s h=x:=by unfold puU;rw[PS,if_pos hle]
     have D0:=heap_setCell_same _ Bp 0 _ _ (.bool x) A0
     have D2:((wr.setCell ⟨Bp,2,none⟩ (.int .i64 (min (s+1) 1048576))).setCell ⟨Bp,0,none⟩ (.bool x)).cell? ⟨Bp,2,none⟩=some (.int .i64 (min (s+1) 1048576)):=by simp[World.cell?,D0]
     have D1:((wr.setCell ⟨Bp,2,none⟩ (.int .i64 (min (s+1) 1048576))).setCell ⟨Bp,0,none⟩ (.bool x)).cell? ⟨Bp,1,none⟩=some (.bool x):=by simp[World.cell?,D0]
     have Dc:((wr.setCell ⟨Bp,2,none⟩ (.int .i64 (min (s+1) 1048576))).setCell ⟨Bp,0,none⟩ (.bool x)).cell? ⟨Bp,0,none⟩=some (.bool x):=by simp[World.cell?,D0]
     have hS:Uz Bp (puU x u x s h) x (puS x x s) wr ((wr.setCell ⟨Bp,2,none⟩ (.int .i64 (min (s+1) 1048576))).setCell ⟨Bp,0,none⟩ (.bool x)):=⟨rfl,rfl,rfl,by simp,fun k hk=>(by repeat rw[heap_setCell_other _ _ _ _ hk]),by rw[PU,PS,D0];rfl⟩
     obtain⟨fn,tmps,assign,body,hy,hRd⟩:=hY _ hS
     simp only[PU,PS] at hy
     gi_wp2
     refine hRd.mono ?_
     rintro e W3 ⟨rfl,hR3⟩
     gi_wp2
     go_roundw
     case rel=>exact .inr ⟨rfl,hR3⟩
     case measure=>simp[intOf]
    ·have PU:puU x u x s h=u:=by unfold puU;rw[PS,if_neg hle]
     have hS:Uz Bp (puU x u x s h) x (puS x x s) wr (wr.setCell ⟨Bp,2,none⟩ (.int .i64 (min (s+1) 1048576))):=⟨rfl,rfl,rfl,by simp,fun k hk=>(by repeat rw[heap_setCell_other _ _ _ _ hk]),by rw[PU,PS,A0];rfl⟩
     obtain⟨fn,tmps,assign,body,hy,hRd⟩:=hY _ hS
     simp only[PU,PS] at hy
     gi_wp2
     refine hRd.mono ?_
     rintro e W3 ⟨rfl,hR3⟩
     gi_wp2
     go_roundw
     case rel=>exact .inr ⟨rfl,hR3⟩
     case measure=>simp[intOf]
   ·have PS:puS x r s=min 1 1048576:=by simp[puS,hxr]
    have hne:(x==r)=false:=by simpa using hxr
    have B1:=heap_setCell_same wr Bp 1 _ _ (.bool x) hp
    have B2:=heap_setCell_same _ Bp 2 _ _ (.int .i64 0) B1
    have A0:=heap_setCell_same _ Bp 2 _ _ (.int .i64 (min 1 1048576)) B2
    have B11:(wr.setCell ⟨Bp,1,none⟩ (.bool x)).cell? ⟨Bp,2,none⟩=some (.int .i64 s):=by simp[World.cell?,B1]
    have B22:((wr.setCell ⟨Bp,1,none⟩ (.bool x)).setCell ⟨Bp,2,none⟩ (.int .i64 0)).cell? ⟨Bp,2,none⟩=some (.int .i64 0):=by simp[World.cell?,B2]
    have A2:(((wr.setCell ⟨Bp,1,none⟩ (.bool x)).setCell ⟨Bp,2,none⟩ (.int .i64 0)).setCell ⟨Bp,2,none⟩ (.int .i64 (min 1 1048576))).cell? ⟨Bp,2,none⟩=some (.int .i64 (min 1 1048576)):=by simp[World.cell?,A0]
    have A1:(((wr.setCell ⟨Bp,1,none⟩ (.bool x)).setCell ⟨Bp,2,none⟩ (.int .i64 0)).setCell ⟨Bp,2,none⟩ (.int .i64 (min 1 1048576))).cell? ⟨Bp,1,none⟩=some (.bool x):=by simp[World.cell?,A0]
    have Ac:(((wr.setCell ⟨Bp,1,none⟩ (.bool x)).setCell ⟨Bp,2,none⟩ (.int .i64 0)).setCell ⟨Bp,2,none⟩ (.int .i64 (min 1 1048576))).cell? ⟨Bp,0,none⟩=some (.bool u):=by simp[World.cell?,A0]
    have Ah:(((wr.setCell ⟨Bp,1,none⟩ (.bool x)).setCell ⟨Bp,2,none⟩ (.int .i64 0)).setCell ⟨Bp,2,none⟩ (.int .i64 (min 1 1048576))).cell? ⟨Bh,0,none⟩=some (.int .i64 h):=by
     repeat rw[World.cell?_setCell_far _ _ _ _ (fun e=>hd3 e.symm)]
     exact hh
    by_cases hle:h≤(min 1 1048576)
    ·have PU:puU x u r s h=x:=by unfold puU;rw[PS,if_pos hle]
     have D0:=heap_setCell_same _ Bp 0 _ _ (.bool x) A0
     have D2:((((wr.setCell ⟨Bp,1,none⟩ (.bool x)).setCell ⟨Bp,2,none⟩ (.int .i64 0)).setCell ⟨Bp,2,none⟩ (.int .i64 (min 1 1048576))).setCell ⟨Bp,0,none⟩ (.bool x)).cell? ⟨Bp,2,none⟩=some (.int .i64 (min 1 1048576)):=by simp[World.cell?,D0]
     have D1:((((wr.setCell ⟨Bp,1,none⟩ (.bool x)).setCell ⟨Bp,2,none⟩ (.int .i64 0)).setCell ⟨Bp,2,none⟩ (.int .i64 (min 1 1048576))).setCell ⟨Bp,0,none⟩ (.bool x)).cell? ⟨Bp,1,none⟩=some (.bool x):=by simp[World.cell?,D0]
     have Dc:((((wr.setCell ⟨Bp,1,none⟩ (.bool x)).setCell ⟨Bp,2,none⟩ (.int .i64 0)).setCell ⟨Bp,2,none⟩ (.int .i64 (min 1 1048576))).setCell ⟨Bp,0,none⟩ (.bool x)).cell? ⟨Bp,0,none⟩=some (.bool x):=by simp[World.cell?,D0]
     have hS:Uz Bp (puU x u r s h) x (puS x r s) wr ((((wr.setCell ⟨Bp,1,none⟩ (.bool x)).setCell ⟨Bp,2,none⟩ (.int .i64 0)).setCell ⟨Bp,2,none⟩ (.int .i64 (min 1 1048576))).setCell ⟨Bp,0,none⟩ (.bool x)):=⟨rfl,rfl,rfl,by simp,fun k hk=>(by repeat rw[heap_setCell_other _ _ _ _ hk]),by rw[PU,PS,D0];rfl⟩
     obtain⟨fn,tmps,assign,body,hy,hRd⟩:=hY _ hS
     simp only[PU,PS] at hy
     gi_wp2
     refine hRd.mono ?_
     rintro e W3 ⟨rfl,hR3⟩
     gi_wp2
     go_roundw
     case rel=>exact .inr ⟨rfl,hR3⟩
     case measure=>simp[intOf]
    ·have PU:puU x u r s h=u:=by unfold puU;rw[PS,if_neg hle]
     have hS:Uz Bp (puU x u r s h) x (puS x r s) wr (((wr.setCell ⟨Bp,1,none⟩ (.bool x)).setCell ⟨Bp,2,none⟩ (.int .i64 0)).setCell ⟨Bp,2,none⟩ (.int .i64 (min 1 1048576))):=⟨rfl,rfl,rfl,by simp,fun k hk=>(by repeat rw[heap_setCell_other _ _ _ _ hk]),by rw[PU,PS,A0];rfl⟩
     obtain⟨fn,tmps,assign,body,hy,hRd⟩:=hY _ hS
     simp only[PU,PS] at hy
     gi_wp2
     refine hRd.mono ?_
     rintro e W3 ⟨rfl,hR3⟩
     gi_wp2
     go_roundw
     case rel=>exact .inr ⟨rfl,hR3⟩
     case measure=>simp[intOf]
  ·gi_wp2
   go_end0
   exact ⟨⟨_,rfl⟩,hR⟩
def puE (s h:Int):Int:=if s<0∨1048576<s then 8 else if h<1∨1048576<h then 2 else 0
set_option maxHeartbeats 1000000 in
theorem Ab6 (F:Fence) (n:Nat) (hf:F.fn 202) (hro:F.round=none) (u r:Bool) (s h:Int) (w:World) :
 CallsIn F n Tryz.prog 202 #[.agg #[.bool u,.bool r,.int .i64 s],.int .i64 1,.int .i64 h] w fun e w'=>e=.returned (.int .i64 (puE s h))∧w'=w.alloc (.cells #[.bool u,.bool r,.int .i64 s] 212):=by
 refine callsIn_of_wp Tryz.func202 rfl hf ?_ hro
 simp only[Tryz.ntmps202,List.size_toArray,List.length_cons,List.length_nil,Nat.reduceAdd,Nat.reduceSub,Array.replicate_succ,Array.replicate_zero,List.push_toArray,List.append_toArray,List.nil_append,List.cons_append]
 gi_wp2
 all_goals go_ret
 all_goals refine ⟨?_,rfl⟩
 all_goals (first|(rw[show puE s h=8 from if_pos (by omega)];rfl)|(rw[show puE s h=2 from (if_neg (by omega)).trans (if_pos (by omega))];rfl)|(rw[show puE s h=0 from (if_neg (by omega)).trans (if_neg (by omega))];rfl))
set_option maxHeartbeats 1000000 in
theorem AaC (F:Fence) (n:Nat) (hf:F.fn 203) (hro:F.round=none) (u r:Bool) (s h:Int) (b off cap:Nat) (w:World) :
 CallsIn F n Tryz.prog 203 #[.agg #[.bool u,.bool r,.int .i64 s],.slice (some ⟨b,off,none⟩) 1 cap,.int .i64 h] w fun e w'=>e=.returned (.func (.func 222) #[] #[.pointer (some ⟨w.heap.size+1,0,none⟩),.pointer (some ⟨w.heap.size,0,none⟩),.pointer (some ⟨w.heap.size+1+1,0,none⟩)])∧w'=((w.alloc (.cells #[.bool u,.bool r,.int .i64 s] 212)).alloc (.cells #[.slice (some ⟨b,off,none⟩) 1 cap] 34)).alloc (.cells #[.int .i64 h] 3):=by
 refine callsIn_of_wp Tryz.func203 rfl hf ?_ hro
 simp only[Tryz.ntmps203,List.size_toArray,List.length_cons,List.length_nil,Nat.reduceAdd,Nat.reduceSub,Array.replicate_succ,Array.replicate_zero,List.push_toArray,List.append_toArray,List.nil_append,List.cons_append]
 gi_wp2
 go_ret
 exact ⟨by simp,rfl⟩
theorem C2 {W:World} {l k:Nat} {o':Obj} {o:Obj} (h:W.heap[k]?=some o) (hne:k≠l):(W.putObj l o').heap[k]?=some o:=(World.putObj_heap_other hne).trans h
theorem Aca {F:Fence} {n:Nat} {P:Program} {g:Operand} {ps:Array Tmp} {assign body:Code} {Q:Exit→Act→World→Prop} {a:Act} {w:World}
 (hro:F.round=none) (h1:1≤n) {gf:Nat} {lb:Array Value} (hg:a.eval g=.func (.func gf) #[] lb) (hFg:F.fn gf) (eg:∀args w,(callFunc gf args).run P w=.ok (.enter gf args) w)
 {args:Array Value} (hps:args.size=ps.size) (Set:World→World→Prop)
 (hS:∀W1 W2 k o,Set W1 W2→w.heap.size≤k→W1.heap[k]?=some o→W2.heap[k]?=some o)
 (hseq:∀(o:Obj) (R:World→Prop),(∀W2,Set ((w.alloc (.deferred (some []))).alloc o) W2→YieldAt F (n-1-1) P (w.heap.size+1) args W2 fun e W'=>e=.returned (.bool true)∧R W') →
   CallsIn F (n-1) P gf (#[.func (.yield (w.heap.size+1)) #[] #[]]++lb) ((w.alloc (.deferred (some []))).alloc o) fun e W'=>(∃v,e=.returned v)∧R W')
 (J:World→Prop) (hJ:∀W l o o',J W→w.heap.size≤l→W.heap[l]?=some o→o.isCells=false→J (W.putObj l o'))
 (J1:Act→World→Prop) (hJ1:∀a W l o o',J1 a W→w.heap.size≤l→W.heap[l]?=some o→o.isCells=false→J1 a (W.putObj l o'))
 (hassign:∀(l:Nat) (o:Obj) (W2:World),Set ((w.alloc (.deferred (some []))).alloc o) W2→assign.wpIn (F.inRound l) (n-1-1) P (Exit.then (fun a₁ w₁=>KeepsOthers W2 w₁∧J1 a₁ w₁) (fun _ _ _=>False)) {tmps:=(ps.zip args).foldl (fun t (p,v)=>t.setIfInBounds p v) a.tmps,defers:=[]} W2)
 (hbody:∀(l:Nat) (a₁:Act) (W:World),J1 a₁ W→body.wpIn (F.inRound l) (n-1-1) P (fun e _ W'=>e=.normal∧KeepsOthers W W'∧J W') a₁ W)
 (hdone:∀(D:Nat) (W:World),w.heap.size≤D→J W→W.heap[D]?=some (.deferred (some []))→Q .normal {a with defers:={target:=.collected D,args:=#[]}::a.defers} W) :
 (Code.rangeFunc g ps assign body).wpIn F n P Q a w:=by
 refine wpIn_rangeFunc ?_
 intro fn hfn
 rw[hro]
 obtain⟨rec,hrec⟩:∃rec:LoopState→Option Code→Loop,rec=fun st pe=>{state:=st,pending:=pe,fn,tmps:=a.tmps,params:=ps,assign,body,defers:=w.heap.size}:=⟨_,rfl⟩
 obtain⟨W1,hW1⟩:∃W1,(w.alloc (.deferred (some []))).alloc (.loop (rec .ready none))=W1:=⟨_,rfl⟩
 have hL1:W1.heap[w.heap.size+1]?=some (.loop (rec .ready none)):=by
  rw[←hW1];have:=World.alloc_heap_new (w.alloc (.deferred (some []))) (.loop (rec .ready none));rwa [World.size_alloc] at this
 have hK1:W1.heap[w.heap.size]?=some (.deferred (some [])):=by
  rw[←hW1];exact (Below.heap_alloc _ _ _ (by simp)).trans (World.alloc_heap_new w _)
 refine ⟨w.heap.size+1,[{target:=.collected w.heap.size,args:=#[]}],W1,{target:=.fn (.func gf) lb,args:=#[.func (.yield (w.heap.size+1)) #[] #[]]},W1,gf,
  #[.func (.yield (w.heap.size+1)) #[] #[]]++lb,W1,?_,?_,?_,?_,fun _=>h1,?_⟩
 ·rw[←hW1,hrec];exact run_enterLoop_outer _ _ _ _ _
 ·simp only[resolve,hg]
  simp[go_sem]
 ·intro f' hf';simp[Target.leads] at hf';subst hf';exact hFg
 ·simp[invoke,go_sem,eg]
 ·have hq:=hseq (.loop (rec .ready none)) (fun W=>J W∧W.heap[w.heap.size+1]?=some (.loop (rec .ready none))∧W.heap[w.heap.size]?=some (.deferred (some [])))
  rw[hW1] at hq
  refine (hq ?_).mono ?_
  ·intro W hset
   have hset':Set ((w.alloc (.deferred (some []))).alloc (.loop (rec .ready none))) W:=by rw[hW1];exact hset
   have hl:=hS _ _ _ _ hset (by omega) hL1
   have hk:=hS _ _ _ _ hset (Nat.le_refl _) hK1
   have hlt:w.heap.size+1<W.heap.size:=(Array.getElem?_eq_some_iff.1 hl).1
   have hy:=run_yield (P:=P) (args:=args) hl (by rw[hrec];exact hps)
   rw[hrec] at hy
   refine ⟨fn,_,assign,body,hy,roundIn_of_wpIn hfn (wpIn_mono (hassign _ _ W hset') ?_)⟩
   rintro e a1 w1 hp
   cases e with
   |normal =>
    obtain⟨hk1,hj1⟩:=hp
    have hl1:=hk1.same _ _ hl rfl
    have hd1:=hk1.same _ _ hk rfl
    have hlt1:=(Array.getElem?_eq_some_iff.1 hl1).1
    refine ⟨_,run_beginRound hl1 (by rw[hrec]),?_⟩
    have hl2:(w1.putObj (w.heap.size+1) (.loop {rec .ready none with state:=.busy})).heap[w.heap.size+1]?=some (.loop {rec .ready none with state:=.busy}):=World.putObj_heap_same hlt1
    have hk2:=C2 (l:=w.heap.size+1) (o':=.loop {rec .ready none with state:=.busy}) hd1 (by omega)
    refine wpIn_mono (hbody _ a1 _ (hJ1 _ _ _ _ _ hj1 (by omega) hl1 rfl)) ?_
    rintro e a3 W3 ⟨rfl,hk3,hj3⟩
    have hl3:=hk3.same _ _ hl2 rfl
    have hd3:=hk3.same _ _ hk2 rfl
    have hr:=run_endRound (P:=P) none hl3
    rw[hrec] at hr
    refine ⟨_,_,hr,rfl,hJ _ _ _ _ hj3 (by omega) hl3 rfl,?_,C2 hd3 (by omega)⟩
    rw[hrec]
    exact World.putObj_heap_same (Array.getElem?_eq_some_iff.1 hl3).1
   |_=>exact hp.elim
  ·rintro e W2 ⟨⟨v,rfl⟩,hj,hl,hk⟩
   exact ⟨none,_,by have:=run_endLoop (P:=P) hl (by rw[hrec];simp);rw[hrec] at this;exact this,hdone _ _ (Nat.le_refl _) (hJ _ _ _ _ hj (by omega) hl rfl) (C2 hk (by omega))⟩
def Acu (x u r:Bool) (s h:Int) (e:Ending):Prop:=∃sv,e=.returned (.tuple #[.agg (if puE s h=0 then #[.bool (puU x u r s h),.bool x,.int .i64 (puS x r s)] else #[.bool false,.bool false,.int .i64 0]),sv,.int .i64 (puE s h)])
theorem By {W:World} {o x:Obj} {k:Nat} (h:W.heap[k]?=some x):(W.alloc o).heap[k]?=some x:=(Below.heap_alloc _ _ _ (Array.getElem?_eq_some_iff.1 h).1).trans h
theorem Io {W:World} {o:Obj} {k:Nat} (h:k=W.heap.size):(W.alloc o).heap[k]?=some o:=by rw[h];exact World.alloc_heap_new W o
theorem R8 {n₀:Nat} {W:World} {l:Nat} {o':Obj} (hl:n₀≤l):Below n₀ W (W.putObj l o') :=
 ⟨rfl,rfl,rfl,by simp[World.putObj],fun k hk=>World.putObj_heap_other (by omega)⟩
theorem AdB:(Tryz.prog.info? 4).map (fun i=>(i.zero,i.size,i.bytes))=some (some (.bool false),1,1):=by kernel_rfl
theorem AdC (w:World):(Instr.makeSlice 34 (.int .i64 0) (.int .i64 1)).run Tryz.prog w=.ok (.slice (some ⟨w.heap.size,0,none⟩) 0 1) (w.alloc (.cells #[.bool false] 4)):=by
 obtain⟨i,hi,hz,hs,hb⟩:=info_parts AdB
 have h:=run_makeSlice (P:=Tryz.prog) w 34 4 i (.bool false) (by kernel_rfl) hi hz .i64 .i64 0 1 (by omega) (by omega) (by rw[hs];decide) (by rw[hb];decide) (by omega)
 rw[h,hs]
 have e:madeCells (Value.bool false).cells (Int.toNat 1*1)=#[Value.bool false]:=by
  apply Array.ext
  ·simp[madeCells]
  ·intro j h1 h2
   simp[madeCells,Value.cells,Nat.mod_one]
 rw[e]
 rfl
set_option maxRecDepth 100000 in
set_option maxHeartbeats 4000000 in
theorem AeA (x u r:Bool) (s h:Int) (b off cap:Nat) (w:World) (hb:b<w.heap.size) (hx:w.cell? ⟨b,off,none⟩=some (.bool x)) :
 CallsIn Fence.wide 4 Tryz.prog 165 #[.agg #[.bool u,.bool r,.int .i64 s],.slice (some ⟨b,off,none⟩) 1 cap,.int .i64 h] w fun e W'=>Acu x u r s h e∧Below w.heap.size w W':=by
 refine callsIn_of_wp_marks Tryz.func165 rfl trivial ?_ rfl
 simp only[Tryz.ntmps165,List.size_toArray,List.length_cons,List.length_nil,Nat.reduceAdd,Nat.reduceSub,Array.replicate_succ,Array.replicate_zero,List.push_toArray,List.append_toArray,List.nil_append,List.cons_append]
 gi_wp2
 refine ⟨trivial,(Ab6 Fence.wide 3 trivial rfl u r s h _).mono ?_⟩
 rintro e W1 ⟨rfl,rfl⟩
 by_cases hz:puE s h=0
 ·have hmk:=AdC
  gi_wp2
  refine ⟨trivial,(AaC Fence.wide 3 trivial rfl u r s h b off cap _).mono ?_⟩
  rintro e W3 ⟨rfl,hW3⟩
  have hsz:W3.heap.size=w.heap.size+8:=by rw[hW3];simp
  have hbw:Below w.heap.size w W3:=by
   rw[hW3]
   exact (((((((((Below.refl _ w).alloc (Nat.le_refl _) _).alloc (by simp) _).alloc (by simp;omega) _).alloc (by simp;omega) _).alloc (by simp;omega) _).alloc (by simp;omega) _).alloc (by simp;omega) _).alloc (by simp;omega) _)
  have at0:W3.heap[w.heap.size]?=some (.cells #[.bool u,.bool r,.int .i64 s] 212 (0,0)):=by
   rw[hW3];exact By (By (By (By (By (By (By (Io rfl)))))))
  have at1:W3.heap[w.heap.size+1]?=some (.cells #[.bool false,.bool false,.int .i64 0] 212 (0,0)):=by
   rw[hW3];exact By (By (By (By (By (By (Io (by simp only[World.size_alloc])))))))
  have at3:W3.heap[w.heap.size+1+1+1]?=some (.cells #[.bool false] 4 (0,0)):=by
   rw[hW3];exact By (By (By (By (Io (by simp only[World.size_alloc])))))
  have at4:W3.heap[w.heap.size+1+1+1+1]?=some (.cells #[.slice (some ⟨w.heap.size+1+1+1,0,none⟩) 0 1] 34 (0,0)):=by
   rw[hW3];exact By (By (By (Io (by simp only[World.size_alloc]))))
  have at5:W3.heap[w.heap.size+1+1+1+1+1]?=some (.cells #[.bool u,.bool r,.int .i64 s] 212 (0,0)):=by
   rw[hW3];exact By (By (Io (by simp only[World.size_alloc])))
  have at6:W3.heap[w.heap.size+1+1+1+1+1+1]?=some (.cells #[.slice (some ⟨b,off,none⟩) 1 cap] 34 (0,0)):=by
   rw[hW3];exact By (Io (by simp only[World.size_alloc]))
  have at7:W3.heap[w.heap.size+1+1+1+1+1+1+1]?=some (.cells #[.int .i64 h] 3 (0,0)):=by
   rw[hW3];exact Io (by simp only[World.size_alloc])
  have hs:0≤s∧s≤1048576:=by
   unfold puE at hz
   split at hz
   ·cases hz
   ·omega
  have fin:∀(W:World) (sv:Value) (tm:Array Value),Below w.heap.size w W→tm[6]?=some (.pointer (some ⟨w.heap.size+1,0,none⟩))→tm[7]?=some sv→tm[8]?=some (.int .i64 0)→W.heap[w.heap.size+1]?=some (.cells #[.bool (puU x u r s h),.bool x,.int .i64 (puS x r s)] 212 (0,0)) →
   ∃v,(results Tryz.f165 tm).run Tryz.prog W=.ok v W∧Acu x u r s h (.returned v)∧Below w.heap.size w W:=fun W sv tm hB t6 t7 t8 h1=>by
   have c0:W.cell? ⟨w.heap.size+1,0,none⟩=some (.bool (puU x u r s h)):=by simp[World.cell?,h1]
   have c1:W.cell? ⟨w.heap.size+1,1,none⟩=some (.bool x):=by simp[World.cell?,h1]
   have c2:W.cell? ⟨w.heap.size+1,2,none⟩=some (.int .i64 (puS x r s)):=by simp[World.cell?,h1]
   refine ⟨_,?_,⟨sv,rfl⟩,hB⟩
   rw[if_pos hz,hz]
   simp[results,Tryz.f165,go_sem,t6,t7,t8,c0,c1,c2]
  clear hW3
  simp only[World.size_alloc]
  gi_wp2
  refine Aca (F:=Fence.wide) (n:=4) (P:=Tryz.prog) ?h0 ?h1 (gf:=222) (lb:=#[.pointer (some ⟨w.heap.size+1+1+1+1+1+1,0,none⟩),.pointer (some ⟨w.heap.size+1+1+1+1+1,0,none⟩),.pointer (some ⟨w.heap.size+1+1+1+1+1+1+1,0,none⟩)]) ?hg ?hF ?heg
   (args:=#[.agg #[.bool (puU x u r s h),.bool x,.int .i64 (puS x r s)]]) ?hps (Uz (w.heap.size+1+1+1+1+1) (puU x u r s h) x (puS x r s)) ?hS ?hseq
   (fun W=>Below w.heap.size w W∧W.heap[w.heap.size]?=some (.cells #[.bool (puU x u r s h),.bool x,.int .i64 (puS x r s)] 212 (0,0))∧W.heap[w.heap.size+1]?=some (.cells #[.bool false,.bool false,.int .i64 0] 212 (0,0))∧W.heap[w.heap.size+1+1+1+1]?=some (.cells #[.slice (some ⟨w.heap.size+1+1+1,0,none⟩) 1 1] 34 (0,0)))
   ?hJ
   (fun a W=>∃N,w.heap.size+8≤N∧a={tmps:=#[.agg #[.bool u,.bool r,.int .i64 s],.slice (some ⟨b,off,none⟩) 1 cap,.int .i64 h,.pointer (some ⟨w.heap.size,0,none⟩),undef,undef,.pointer (some ⟨w.heap.size+1,0,none⟩),.slice none 0 0,.int .i64 0,.int .i64 0,.pointer (some ⟨w.heap.size+1+1+1+1,0,none⟩),.pointer (some ⟨N,0,none⟩),.agg #[.bool u,.bool r,.int .i64 s],.slice (some ⟨b,off,none⟩) 1 cap,.int .i64 1,.int .i64 h,.int .i64 0,.int .i64 0,.bool false,undef,undef,.slice (some ⟨b,off,none⟩) 1 cap,.int .i64 1,.slice (some ⟨w.heap.size+1+1+1,0,none⟩) 0 1,.agg #[.bool u,.bool r,.int .i64 s],.slice (some ⟨b,off,none⟩) 1 cap,.int .i64 h,.func (.func 222) #[] #[.pointer (some ⟨w.heap.size+1+1+1+1+1+1,0,none⟩),.pointer (some ⟨w.heap.size+1+1+1+1+1,0,none⟩),.pointer (some ⟨w.heap.size+1+1+1+1+1+1+1,0,none⟩)],.agg #[.bool (puU x u r s h),.bool x,.int .i64 (puS x r s)],undef,undef,undef,undef,undef,undef,undef,undef],defers:=[]} ∧
     Below w.heap.size w W∧W.heap[w.heap.size]?=some (.cells #[.bool u,.bool r,.int .i64 s] 212 (0,0))∧W.heap[w.heap.size+1]?=some (.cells #[.bool false,.bool false,.int .i64 0] 212 (0,0))∧W.heap[w.heap.size+1+1+1]?=some (.cells #[.bool false] 4 (0,0))∧W.heap[w.heap.size+1+1+1+1]?=some (.cells #[.slice (some ⟨w.heap.size+1+1+1,0,none⟩) 0 1] 34 (0,0))∧W.heap[N]?=some (.cells #[.bool (puU x u r s h),.bool x,.int .i64 (puS x r s)] 212 (0,0)))
   ?hJ1 ?assign ?body ?done
  case h0=>rfl
  case h1=>omega
  case hg=>rfl
  case hF=>trivial
  case heg=>exact enters_of Tryz.func222 (by kernel_rfl) rfl
  case hps=>rfl
  case hS =>
   intro W1 W2 k o hset hk hko
   rw[hset.same k (by omega)];exact hko
  case hseq =>
   intro o R hY
   have e6:((W3.alloc (.deferred (some []))).alloc o).cell? ⟨w.heap.size+1+1+1+1+1+1,0,none⟩=some (.slice (some ⟨b,off,none⟩) 1 cap):=by simp only[World.cell?,By (By at6)];rfl
   have e7:((W3.alloc (.deferred (some []))).alloc o).cell? ⟨w.heap.size+1+1+1+1+1+1+1,0,none⟩=some (.int .i64 h):=by simp only[World.cell?,By (By at7)];rfl
   have ex:((W3.alloc (.deferred (some []))).alloc o).cell? ⟨b,off,none⟩=some (.bool x):=((hbw.alloc (by omega) _).alloc (by simp;omega) _ |>.cell (p:=⟨b,off,none⟩) hb).trans hx
   exact AaD Fence.wide 3 trivial rfl (by omega) (W3.heap.size+1) _ _ _ b off cap x u r s h hs _ e6 ex (By (By at5)) e7 ⟨by omega,by omega,by omega⟩ R hY
  case hJ =>
   rintro W l o o' ⟨hB,q0,q1,q4⟩ hl ho hc
   exact ⟨hB.trans (R8 (by omega)),C2 q0 (by omega),C2 q1 (by omega),C2 q4 (by omega)⟩
  case hJ1 =>
   rintro a W l o o' ⟨N,hN,ha,hB,q0,q1,q3,q4,qN⟩ hl ho hc
   have hNl:N≠l:=fun e=>by
    rw[e,ho] at qN
    cases Option.some.inj qN
    exact absurd hc (by simp[Obj.isCells])
   exact ⟨N,hN,ha,hB.trans (R8 (by omega)),C2 q0 (by omega),C2 q1 (by omega),C2 q3 (by omega),C2 q4 (by omega),C2 qN hNl⟩
  case assign =>
   intro l o W2 hset
   have hsz2:W2.heap.size=w.heap.size+10:=by rw[hset.size];simp only[World.size_alloc];omega
   have hB2:Below w.heap.size w W2:=by
    have h2:=(hbw.alloc (by omega) (.deferred (some []))).alloc (by simp only[World.size_alloc];omega) o
    exact ⟨hset.os.trans h2.os,hset.tape.trans h2.tape,hset.output.trans h2.output,by rw[hset.size];exact h2.size,fun k hk=>by rw[hset.same k (by omega)];exact h2.block k hk⟩
   have g:∀k x,k≠w.heap.size+1+1+1+1+1→W3.heap[k]?=some x→W2.heap[k]?=some x:=fun k x hk hx=>by rw[hset.same k hk];exact By (By hx)
   gi_wp2
   exact ⟨KeepsOthers.alloc _ _,w.heap.size+10,by omega,rfl,hB2.alloc (by omega) _,By (g _ _ (by omega) at0),By (g _ _ (by omega) at1),By (g _ _ (by omega) at3),By (g _ _ (by omega) at4),Io hsz2.symm⟩
  case body =>
   rintro l a₁ W ⟨N,hN,rfl,hB,q0,q1,q3,q4,qN⟩
   have n0:W.cell? ⟨N,0,none⟩=some (.bool (puU x u r s h)):=by simp[World.cell?,qN]
   have n1:W.cell? ⟨N,1,none⟩=some (.bool x):=by simp[World.cell?,qN]
   have n2:W.cell? ⟨N,2,none⟩=some (.int .i64 (puS x r s)):=by simp[World.cell?,qN]
   have m0:W.cell? ⟨w.heap.size,0,none⟩=some (.bool u):=by simp[World.cell?,q0]
   have m1:W.cell? ⟨w.heap.size,1,none⟩=some (.bool r):=by simp[World.cell?,q0]
   have m2:W.cell? ⟨w.heap.size,2,none⟩=some (.int .i64 s):=by simp[World.cell?,q0]
   have f0:W.frozen? ⟨w.heap.size,0,none⟩=false:=by simp[World.frozen?,q0]
   have f1:W.frozen? ⟨w.heap.size,1,none⟩=false:=by simp[World.frozen?,q0]
   have f2:W.frozen? ⟨w.heap.size,2,none⟩=false:=by simp[World.frozen?,q0]
   have k4:W.cell? ⟨w.heap.size+1+1+1+1,0,none⟩=some (.slice (some ⟨w.heap.size+1+1+1,0,none⟩) 0 1):=by simp[World.cell?,q4]
   have f4:W.frozen? ⟨w.heap.size+1+1+1+1,0,none⟩=false:=by simp[World.frozen?,q4]
   obtain⟨V,hV⟩:∃V,(((W.setCell ⟨w.heap.size,0,none⟩ (.bool (puU x u r s h))).setCell ⟨w.heap.size,1,none⟩ (.bool x)).setCell ⟨w.heap.size,2,none⟩ (.int .i64 (puS x r s)))=V:=⟨_,rfl⟩
   have hVs:V.heap.size=W.heap.size:=by rw[←hV];simp
   have hVk:∀k,k≠w.heap.size→V.heap[k]?=W.heap[k]?:=fun k hk=>by rw[←hV,heap_setCell_other _ _ _ _ hk,heap_setCell_other _ _ _ _ hk,heap_setCell_other _ _ _ _ hk]
   have A3:(V.alloc (.cells #[.bool (puU x u r s h)] 4)).heap[w.heap.size+1+1+1]?=some (.cells #[.bool false] 4 (0,0)):=By ((hVk _ (by omega)).trans q3)
   have ac:(V.alloc (.cells #[.bool (puU x u r s h)] 4)).cell? ⟨w.heap.size+1+1+1,0,none⟩=some (.bool false):=by simp only[World.cell?,A3];rfl
   have af:(V.alloc (.cells #[.bool (puU x u r s h)] 4)).frozen? ⟨w.heap.size+1+1+1,0,none⟩=false:=by simp only[World.frozen?,A3];rfl
   obtain⟨U,hU⟩:∃U,(V.alloc (.cells #[.bool (puU x u r s h)] 4)).setCell ⟨w.heap.size+1+1+1,0,none⟩ (.bool (puU x u r s h))=U:=⟨_,rfl⟩
   have hUs:U.heap.size=W.heap.size+1:=by rw[←hU,World.size_setCell,World.size_alloc,hVs]
   have hWN:N<W.heap.size:=(Array.getElem?_eq_some_iff.1 qN).1
   have hUk:∀k,k<W.heap.size→k≠w.heap.size→k≠w.heap.size+1+1+1→U.heap[k]?=W.heap[k]?:=fun k hk h1 h2=>by
    rw[←hU,heap_setCell_other _ _ _ _ h2,Below.heap_alloc _ _ _ (by omega),hVk k h1]
   have U4:=(hUk _ (by omega) (by omega) (by omega)).trans q4
   have uc:U.cell? ⟨w.heap.size+1+1+1+1,0,none⟩=some (.slice (some ⟨w.heap.size+1+1+1,0,none⟩) 0 1):=by simp[World.cell?,U4]
   have uf:U.frozen? ⟨w.heap.size+1+1+1+1,0,none⟩=false:=by simp[World.frozen?,U4]
   have vN:=(hVk _ (by omega)).trans qN
   have v4:=(hVk _ (by omega)).trans q4
   have vn:V.cell? ⟨N,0,none⟩=some (.bool (puU x u r s h)):=by simp[World.cell?,vN]
   have vc:V.cell? ⟨w.heap.size+1+1+1+1,0,none⟩=some (.slice (some ⟨w.heap.size+1+1+1,0,none⟩) 0 1):=by simp[World.cell?,v4]
   have V0:V.heap[w.heap.size]?=some (.cells #[.bool (puU x u r s h),.bool x,.int .i64 (puS x r s)] 212 (0,0)):=by
    rw[←hV]
    exact heap_setCell_same _ _ 2 _ _ _ (heap_setCell_same _ _ 1 _ _ _ (heap_setCell_same _ _ 0 _ _ _ q0))
   have U0:U.heap[w.heap.size]?=some (.cells #[.bool (puU x u r s h),.bool x,.int .i64 (puS x r s)] 212 (0,0)):=by
    rw[←hU,heap_setCell_other _ _ _ _ (by show w.heap.size≠w.heap.size+1+1+1;omega)]
    exact By V0
   have hKU:KeepsOthers W U:=by
    rw[←hU,←hV]
    exact ((((KeepsOthers.setCell _ _ _).trans (KeepsOthers.setCell _ _ _)).trans (KeepsOthers.setCell _ _ _)).trans (KeepsOthers.alloc _ _)).trans (KeepsOthers.setCell _ _ _)
   have hBU:Below w.heap.size w U:=by
    rw[←hU,←hV]
    exact ((((hB.setCell (Nat.le_refl _) _).setCell (Nat.le_refl _) _).setCell (Nat.le_refl _) _).alloc (by simp only[World.size_setCell];omega) _).setCell (by show w.heap.size≤w.heap.size+1+1+1;omega) _
   gi_wp2
   refine ⟨hKU.trans (KeepsOthers.setCell _ _ _),hBU.setCell (by show w.heap.size≤w.heap.size+1+1+1+1;omega) _,?_,?_,heap_setCell_same _ _ 0 _ _ _ U4⟩
   ·rw[heap_setCell_other _ _ _ _ (by show w.heap.size≠w.heap.size+1+1+1+1;omega)];exact U0
   ·rw[heap_setCell_other _ _ _ _ (by show w.heap.size+1≠w.heap.size+1+1+1+1;omega)];exact (hUk _ (by omega) (by omega) (by omega)).trans q1
  case done =>
   rintro D W hD ⟨hB,q0,q1,q4⟩ hdf
   have p0:W.cell? ⟨w.heap.size,0,none⟩=some (.bool (puU x u r s h)):=by simp[World.cell?,q0]
   have p1:W.cell? ⟨w.heap.size,1,none⟩=some (.bool x):=by simp[World.cell?,q0]
   have p2:W.cell? ⟨w.heap.size,2,none⟩=some (.int .i64 (puS x r s)):=by simp[World.cell?,q0]
   have r0:W.cell? ⟨w.heap.size+1,0,none⟩=some (.bool false):=by simp[World.cell?,q1]
   have r1:W.cell? ⟨w.heap.size+1,1,none⟩=some (.bool false):=by simp[World.cell?,q1]
   have r2:W.cell? ⟨w.heap.size+1,2,none⟩=some (.int .i64 0):=by simp[World.cell?,q1]
   have g0:W.frozen? ⟨w.heap.size+1,0,none⟩=false:=by simp[World.frozen?,q1]
   have g1:W.frozen? ⟨w.heap.size+1,1,none⟩=false:=by simp[World.frozen?,q1]
   have g2:W.frozen? ⟨w.heap.size+1,2,none⟩=false:=by simp[World.frozen?,q1]
   have k4:W.cell? ⟨w.heap.size+1+1+1+1,0,none⟩=some (.slice (some ⟨w.heap.size+1+1+1,0,none⟩) 1 1):=by simp[World.cell?,q4]
   have hmx:Tryz.prog.follows .mixedOrders=true:=by kernel_rfl
   gi_wp2
   gi_region
   gi_wp2
   have E:=heap_setCell_same _ _ 2 _ _ (.int .i64 (puS x r s)) (heap_setCell_same _ _ 1 _ _ (.bool x) (heap_setCell_same _ _ 0 _ _ (.bool (puU x u r s h)) q1))
   obtain⟨Z,hZ⟩:∃Z,(((W.setCell ⟨w.heap.size+1,0,none⟩ (.bool (puU x u r s h))).setCell ⟨w.heap.size+1,1,none⟩ (.bool x)).setCell ⟨w.heap.size+1,2,none⟩ (.int .i64 (puS x r s)))=Z:=⟨_,rfl⟩
   rw[hZ] at E
   have hne:∀i,D≠(⟨w.heap.size+1,i,none⟩:Addr).block:=fun i=>by show D≠w.heap.size+1;omega
   have hDf:Z.heap[D]?=some (.deferred (some [])):=by
    rw[←hZ,heap_setCell_other _ _ _ _ (hne 2),heap_setCell_other _ _ _ _ (hne 1),heap_setCell_other _ _ _ _ (hne 0)];exact hdf
   have hBZ:Below w.heap.size w Z:=by
    rw[←hZ]
    exact ((hB.setCell (by show w.heap.size≤w.heap.size+1;omega) _).setCell (by show w.heap.size≤w.heap.size+1;omega) _).setCell (by show w.heap.size≤w.heap.size+1;omega) _
   try rw[hZ]
   refine ⟨by simp,.inl ⟨D,Z.drew.putObj D (.deferred none),rfl,run_takeDeferred (w:=Z.drew) hDf,?_⟩⟩
   exact fin (Z.drew.putObj D (.deferred none)) _ _ (hBZ.drew.trans (R8 (by omega))) rfl rfl rfl (C2 (W:=Z.drew) E (by omega))
 ·gi_wp2
  have c0:∀(W:World),W.heap[w.heap.size+1]?=some (.cells #[.bool false,.bool false,.int .i64 0] 212 (0,0))→W.cell? ⟨w.heap.size+1,0,none⟩=some (.bool false)∧W.cell? ⟨w.heap.size+1,1,none⟩=some (.bool false)∧W.cell? ⟨w.heap.size+1,2,none⟩=some (.int .i64 0):=fun W h1=>by simp[World.cell?,h1]
  obtain⟨k0,k1,k2⟩:=c0 (((w.alloc (.cells #[.bool u,.bool r,.int .i64 s] 212)).alloc (.cells #[.bool false,.bool false,.int .i64 0] 212)).alloc (.cells #[.bool u,.bool r,.int .i64 s] 212)) (By (Io (by simp only[World.size_alloc])))
  refine ⟨_,?_,⟨.slice none 0 0,rfl⟩,(((Below.refl _ w).alloc (Nat.le_refl _) _).alloc (by simp) _).alloc (by simp;omega) _⟩
  rw[if_neg hz]
  simp[results,Tryz.f165,go_sem,k0,k1,k2]
def IP (x u r:Bool) (s h:Int):Bool×Bool×Int:=if puE s h=0 then (puU x u r s h,x,puS x r s) else (false,false,0)
set_option maxRecDepth 100000 in
set_option maxHeartbeats 4000000 in
theorem AdD (x u r:Bool) (s h:Int) (w:World) :
 CallsIn Fence.wide 5 Tryz.prog 122 #[.agg #[.bool u,.bool r,.int .i64 s],.bool x,.int .i64 h] w fun e W'=>e=.returned (.tuple #[.agg #[.bool (IP x u r s h).1,.bool (IP x u r s h).2.1,.int .i64 (IP x u r s h).2.2],.int .i64 (puE s h)])∧Below w.heap.size w W':=by
 refine callsIn_of_wp_marks Tryz.func122 rfl trivial ?_ rfl
 simp only[Tryz.ntmps122,List.size_toArray,List.length_cons,List.length_nil,Nat.reduceAdd,Nat.reduceSub,Array.replicate_succ,Array.replicate_zero,List.push_toArray,List.append_toArray,List.nil_append,List.cons_append]
 gi_wp2
 obtain⟨W0,hW0⟩:∃W0,((w.alloc (.cells #[.bool u,.bool r,.int .i64 s] 212)).alloc (.cells #[.bool false,.bool false,.int .i64 0] 212)).alloc (.cells #[.bool x] 4)=W0:=⟨_,rfl⟩
 have hs0:W0.heap.size=w.heap.size+3:=by rw[←hW0];simp
 have hB0:Below w.heap.size w W0:=by rw[←hW0];exact (((Below.refl _ w).alloc (Nat.le_refl _) _).alloc (by simp) _).alloc (by simp;omega) _
 have q0:W0.heap[w.heap.size]?=some (.cells #[.bool u,.bool r,.int .i64 s] 212 (0,0)):=by rw[←hW0];exact By (By (Io rfl))
 have q1:W0.heap[w.heap.size+1]?=some (.cells #[.bool false,.bool false,.int .i64 0] 212 (0,0)):=by rw[←hW0];exact By (Io (by simp only[World.size_alloc]))
 have q2:W0.heap[w.heap.size+1+1]?=some (.cells #[.bool x] 4 (0,0)):=by rw[←hW0];exact Io (by simp only[World.size_alloc])
 have c2:W0.cell? ⟨w.heap.size+1+1,0,none⟩=some (.bool x):=by simp[World.cell?,q2]
 try rw[hW0]
 clear hW0
 refine ⟨trivial,(AeA x u r s h (w.heap.size+1+1) 0 1 W0 (by omega) c2).mono ?_⟩
 rintro e W1 ⟨⟨sv,rfl⟩,hB1⟩
 have hag:(if puE s h=0 then #[.bool (puU x u r s h),.bool x,.int .i64 (puS x r s)] else #[.bool false,.bool false,.int .i64 0])=(#[.bool (IP x u r s h).1,.bool (IP x u r s h).2.1,.int .i64 (IP x u r s h).2.2]:Array Value):=by unfold IP;split<;>rfl
 rw[hag]
 clear hag
 generalize hv:IP x u r s h=v
 obtain⟨v1,v2,v3⟩:=v
 have p0:=(hB1.block _ (show w.heap.size<W0.heap.size by omega)).trans q0
 have p1:=(hB1.block _ (show w.heap.size+1<W0.heap.size by omega)).trans q1
 have hsz:=hB1.size
 have hB:Below w.heap.size w W1:=hB0.trans (hB1.mono (by omega))
 have m0:W1.cell? ⟨w.heap.size,0,none⟩=some (.bool u):=by simp[World.cell?,p0]
 have m1:W1.cell? ⟨w.heap.size,1,none⟩=some (.bool r):=by simp[World.cell?,p0]
 have m2:W1.cell? ⟨w.heap.size,2,none⟩=some (.int .i64 s):=by simp[World.cell?,p0]
 have f0:W1.frozen? ⟨w.heap.size,0,none⟩=false:=by simp[World.frozen?,p0]
 have f1:W1.frozen? ⟨w.heap.size,1,none⟩=false:=by simp[World.frozen?,p0]
 have f2:W1.frozen? ⟨w.heap.size,2,none⟩=false:=by simp[World.frozen?,p0]
 obtain⟨V,hV⟩:∃V,((W1.setCell ⟨w.heap.size,0,none⟩ (.bool v1)).setCell ⟨w.heap.size,1,none⟩ (.bool v2)).setCell ⟨w.heap.size,2,none⟩ (.int .i64 v3)=V:=⟨_,rfl⟩
 have V0:V.heap[w.heap.size]?=some (.cells #[.bool v1,.bool v2,.int .i64 v3] 212 (0,0)):=by
  rw[←hV];exact heap_setCell_same _ _ 2 _ _ _ (heap_setCell_same _ _ 1 _ _ _ (heap_setCell_same _ _ 0 _ _ _ p0))
 have V1:V.heap[w.heap.size+1]?=some (.cells #[.bool false,.bool false,.int .i64 0] 212 (0,0)):=by
  rw[←hV,heap_setCell_other _ _ _ _ (by show w.heap.size+1≠w.heap.size;omega),heap_setCell_other _ _ _ _ (by show w.heap.size+1≠w.heap.size;omega),heap_setCell_other _ _ _ _ (by show w.heap.size+1≠w.heap.size;omega)];exact p1
 have hBV:Below w.heap.size w V:=by
  rw[←hV];exact ((hB.setCell (Nat.le_refl _) _).setCell (Nat.le_refl _) _).setCell (Nat.le_refl _) _
 have n0:V.cell? ⟨w.heap.size,0,none⟩=some (.bool v1):=by simp[World.cell?,V0]
 have n1:V.cell? ⟨w.heap.size,1,none⟩=some (.bool v2):=by simp[World.cell?,V0]
 have n2:V.cell? ⟨w.heap.size,2,none⟩=some (.int .i64 v3):=by simp[World.cell?,V0]
 have k0:V.cell? ⟨w.heap.size+1,0,none⟩=some (.bool false):=by simp[World.cell?,V1]
 have k1:V.cell? ⟨w.heap.size+1,1,none⟩=some (.bool false):=by simp[World.cell?,V1]
 have k2:V.cell? ⟨w.heap.size+1,2,none⟩=some (.int .i64 0):=by simp[World.cell?,V1]
 have g0:V.frozen? ⟨w.heap.size+1,0,none⟩=false:=by simp[World.frozen?,V1]
 have g1:V.frozen? ⟨w.heap.size+1,1,none⟩=false:=by simp[World.frozen?,V1]
 have g2:V.frozen? ⟨w.heap.size+1,2,none⟩=false:=by simp[World.frozen?,V1]
 gi_wp2
 have E:=heap_setCell_same _ _ 2 _ _ (.int .i64 v3) (heap_setCell_same _ _ 1 _ _ (.bool v2) (heap_setCell_same _ _ 0 _ _ (.bool v1) V1))
 obtain⟨Z,hZ⟩:∃Z,((V.setCell ⟨w.heap.size+1,0,none⟩ (.bool v1)).setCell ⟨w.heap.size+1,1,none⟩ (.bool v2)).setCell ⟨w.heap.size+1,2,none⟩ (.int .i64 v3)=Z:=⟨_,rfl⟩
 have hBZ:Below w.heap.size w Z:=by
  rw[←hZ]
  exact ((hBV.setCell (by show w.heap.size≤w.heap.size+1;omega) _).setCell (by show w.heap.size≤w.heap.size+1;omega) _).setCell (by show w.heap.size≤w.heap.size+1;omega) _
 rw[hZ] at E ⊢
 have z0:Z.cell? ⟨w.heap.size+1,0,none⟩=some (.bool v1):=by simp[World.cell?,E]
 have z1:Z.cell? ⟨w.heap.size+1,1,none⟩=some (.bool v2):=by simp[World.cell?,E]
 have z2:Z.cell? ⟨w.heap.size+1,2,none⟩=some (.int .i64 v3):=by simp[World.cell?,E]
 refine ⟨.tuple #[.agg #[.bool v1,.bool v2,.int .i64 v3],.int .i64 (puE s h)],?_,by rw[hv],hBZ⟩
 simp[results,Tryz.f122,go_sem,z0,z1,z2]
theorem Ab8 (x u r:Bool) (s h:Int):Cn ((u,(r,s)),(x,h))=(IP x u r s h,puE s h):=by
 unfold Cn IP puE puU puS
 simp only
 by_cases c1:s<0∨1048576<s
 ·rw[if_pos c1,if_pos c1,if_neg (by decide)]
 ·rw[if_neg c1,if_neg c1]
  by_cases c2:h<1∨1048576<h
  ·rw[if_pos c2,if_pos c2,if_neg (by decide)]
  ·rw[if_neg c2,if_neg c2,if_pos rfl,DX]
theorem Ab7 (w:World) (F:Nat→Prop) (vals:List Value) (u r x:Bool) (s h:Int) (hr:BU w F [JK,Bo,I64] ((u,(r,s)),(x,h)) vals) :
 Calls Tryz.prog 122 vals.toArray w fun e w'=>∃rs,e=.returned (CQ rs)∧Below w.heap.size w w'∧FV w.heap.size w' F false [JK,I64] (Cn ((u,(r,s)),(x,h))) rs:=by
 obtain⟨us,vs,h1,rfl,us2,vs2,h2,rfl,us3,h3,rfl⟩:=hr
 obtain⟨rfl,hh⟩:=(show us3=[.int .i64 h]∧inR .i64 h=true from h3)
 obtain rfl:=(show us2=[.bool x] from h2)
 obtain⟨a1,a2,rfl,e1,b1,b2,rfl,e2,e3⟩:=h1
 obtain rfl:=(show a1=[.bool u] from e1)
 obtain rfl:=(show b1=[.bool r] from e2)
 obtain⟨rfl,hs⟩:=(show b2=[.int .i64 s]∧inR .i64 s=true from e3)
 refine (callsIn_wide.1 (AdD x u r s h w)).mono ?_
 rintro e w' ⟨rfl,hB⟩
 rw[Ab8]
 have hE:inR .i64 (puE s h)=true:=by
  unfold puE
  split
  ·rfl
  ·split<;>rfl
 have hS:inR .i64 (IP x u r s h).2.2=true:=by
  unfold IP
  split
  ·rename_i c
   have hs2:¬(s<0∨1048576<s):=fun hh=>by unfold puE at c;rw[if_pos hh] at c;cases c
   have:0≤puS x r s∧puS x r s≤1048576:=by unfold puS;split<;>omega
   unfold inR
   simp only[Bool.and_eq_true,decide_eq_true_eq]
   show (-9223372036854775808:Int)≤puS x r s∧puS x r s≤9223372036854775807
   omega
  ·rfl
 exact ⟨[.agg #[.bool (IP x u r s h).1,.bool (IP x u r s h).2.1,.int .i64 (IP x u r s h).2.2],.int .i64 (puE s h)],rfl,hB,[.bool (IP x u r s h).1,.bool (IP x u r s h).2.1,.int .i64 (IP x u r s h).2.2],_,⟨[.bool _],_,rfl,rfl,[.bool _],_,rfl,rfl,rfl,hS⟩,rfl,[.int .i64 (puE s h)],⟨rfl,hE⟩,rfl⟩
theorem kK:Ao Tryz.prog V 122 (spT [JK,Bo,I64] [JK,I64] Cn) where
 enters:=enters_of Tryz.func122 (by kernel_rfl) rfl
 tot:=fun g hg x=>by cases hg;rfl
 calls:=fun w F vals x y _ _ hr hy=>by
  cases hy
  exact Ab7 w F vals x.1.1 x.1.2.1 x.2.1 x.1.2.2 x.2.2 hr
end
theorem Vz:Ao Tryz.prog V 166 (spT [DU] [I64] Ej):=AU .nil stays Az (As (hs:={}) Tryz.func166) false fun x=>.trans (by kernel_rfl) (o9 x)
theorem vX:Ao Tryz.prog V 123 (spT [DU,Bo] [DU,I64] Gv):=AU (.cons Vz .nil) stays Az (As (hs:={}) Tryz.func123) false fun x=>.trans (by kernel_rfl) (vV x)
theorem zO:Ao Tryz.prog V 204 (spT [DV] [Bo] Ff):=AU .nil stays Az (As (hs:={}) Tryz.func204) false fun x=>by kernel_rfl
theorem Vx:Ao Tryz.prog V 167 (spP [Aj,Cr] [I64] F7):=Aq (.cons CB (.cons zO .nil)) stays Az (As (hs:={loops:=[(0,[.slot 21 I64])]}) Tryz.func167) false fun x=>by kernel_rfl
theorem Sg:Ao Tryz.prog V 205 (spT [U64] [I64] Fc):=QB (Aq .nil stays Az (As (hs:={}) Tryz.func205) false fun x=>by kernel_rfl) Se
theorem vL:Ao Tryz.prog V 168 (spP [Aj,I64,DV,Bo] [DV] Jq):=Aq (.cons Sg .nil) stays Az (As (hs:={}) Tryz.func168) false fun x=>by kernel_rfl
theorem zK:Ao Tryz.prog V 124 (spP [Aj,Cr,U32] [Cr,I64] Kj true):=Aq (.cons Vx (.cons QP (.cons vL .nil))) stays Az (As (hs:={loops:=[(0,[.slot 23 I64,.arr 20 DV])]}) Tryz.func124) true fun x=>by kernel_rfl
theorem Up:Ao Tryz.prog V 90 (spP [Aj,I64,I64] [Bo] FE):=Aq .nil stays Az (As (hs:={}) Tryz.func90) false fun x=>by kernel_rfl
theorem sR:Ao Tryz.prog V 44 (spP [Aj,A7,I64] [Bo] IJ):=Aq (.cons Up .nil) stays Az (As (hs:={loops:=[(0,[.slot 12 I64])]}) Tryz.func44) false fun x=>by kernel_rfl
theorem O8:Ao Tryz.prog V 20 (spP [Aj,A7,I64] [Bo,I64] DC):=DB (.cons sR (.cons CB .nil)) stays Az (.cons (As (hs:={}) Tryz.func42) (.cons (As (hs:={}) Tryz.func43) .nil)) (As (hs:={joins:=[(2,[])],outs:=[(2,[(8,I64)])]}) Tryz.func20) false 3 fun x=>by kernel_rfl
theorem rH:Ao Tryz.prog V 173 (spT [U32,I64] [U32] E1):=AU (.cons QR .nil) stays Az (As (hs:={}) Tryz.func173) false fun x=>.trans (by kernel_rfl) (rF x)
theorem Zu:Ao Tryz.prog V 174 (spT [DV] [Bo] Hy):=AU .nil stays Az (As (hs:={}) Tryz.func174) false fun x=>by kernel_rfl
theorem XS:Ao Tryz.prog V 128 (spP [Aj,Cr] [Bo,I64] G3):=Aq (.cons Vx (.cons rH (.cons Zu .nil))) stays Az (As (hs:={loops:=[(0,[.slot 7 U32,.slot 8 U32,.slot 20 I64])]}) Tryz.func128) false fun x=>by kernel_rfl
theorem oW:Ao Tryz.prog V 206 (spT [DV] [Bo] HY):=AU .nil stays Az (As (hs:={}) Tryz.func206) false fun x=>by kernel_rfl
theorem oO:Ao Tryz.prog V 169 (spP [Aj,Cr] [U32,I64] Iz):=Aq (.cons XS (.cons oW .nil)) stays Az (As (hs:={loops:=[(0,[.slot 4 U32,.slot 24 I64]),(2,[.slot 4 U32,.slot 38 I64])]}) Tryz.func169) false fun x=>by kernel_rfl
theorem gC:Ao Tryz.prog V 170 (spP [Aj,U32,I64] [I64] Hv):=Aq .nil stays Az (As (hs:={}) Tryz.func170) false fun x=>by kernel_rfl
theorem Vq:Ao Tryz.prog V 125 (spP [Aj,U32,Cr,I64] [U32,I64] Es):=Aq (.cons oO (.cons gC (.cons LA .nil))) stays Az (As (hs:={}) Tryz.func125) false fun x=>by kernel_rfl
theorem Vd:CH Tryz.prog V 70 (spP [AZ] [AZ] ER):=C8 (.cons cU (.cons Zm (.cons kK (.cons vX (.cons zK (.cons O8 (.cons Vq .nil))))))) .nil Az .nil (As (hs:={loops:=[(0,[.slot 42 I64,.slot 2 U32,.fbox 0 AZ [29,31]])]}) Tryz.func70) 1 fun x=>by kernel_rfl
theorem Ph:Ao Tryz.prog V 171 (spP [Aj,I64] [I64] Eg):=Aq (.cons CB .nil) stays Az (As (hs:={}) Tryz.func171) false fun x=>by kernel_rfl
theorem cK:Ao Tryz.prog V 207 (spP [Aj,U8s] [I64] GL):=Aq .nil stays Az (As (hs:={loops:=[(0,[.slot 15 I64])]}) Tryz.func207) false fun x=>by kernel_rfl
theorem fP:Ao Tryz.prog V 172 (spP [Aj,U8s,U8s] [Bo,I64] Hu):=Aq (.cons cK .nil) stays Az (As (hs:={loops:=[(0,[.slot 19 I64]),(2,[.slot 40 I64])]}) Tryz.func172) false fun x=>by kernel_rfl
theorem oH:Ao Tryz.prog V 126 (spP [Aj,I64,U8s,U8s] [I64,I64] Iy):=Aq (.cons Ph (.cons fP .nil)) stays Az (As (hs:={}) Tryz.func126) false fun x=>by kernel_rfl
theorem Zh:Ao Tryz.prog V 127 (spP [Aj,I64] [Bo,I64] Ge):=Aq (.cons Ph .nil) stays Az (As (hs:={}) Tryz.func127) false fun x=>by kernel_rfl
theorem Tg:Ao Tryz.prog V 107 (spT [Cl] [Bo] DG):=AU .nil stays Az (As (hs:={}) Tryz.func107) false fun x=>by kernel_rfl
theorem RD:CH Tryz.prog V 71 (spP [AZ] [AZ,Hr,Hn] DY):=C8 (.cons oH (.cons KL (.cons Zh (.cons NY (.cons XS (.cons Tg .nil)))))) .nil Az .nil (As (hs:={loops:=[(0,[.own 4 U8,.slot 21 I64])],joins:=[(10,[.slot 7 I64])]}) Tryz.func71) 1 fun x=>by kernel_rfl
theorem ZH:Ao Tryz.prog V 129 (spP [Aj,Eo] [I64] Gj):=Aq (.cons CB .nil) stays Az (As (hs:={}) Tryz.func129) false fun x=>by kernel_rfl
theorem iT:Ao Tryz.prog V 175 (spT [Eo,Hr] [U8] BS):=AU .nil stays Az (As (hs:={}) Tryz.func175) false fun x=>.trans (by kernel_rfl) (iR x)
theorem dI:Ao Tryz.prog V 130 (spT [Aj,Eo,Hr] [Eo] C7):=AU (.cons iT .nil) stays Az (As (hs:={}) Tryz.func130) false fun x=>.trans (by kernel_rfl) (dG x)
theorem Rg:Ao Tryz.prog V 72 (spP [Aj,Eo,Hr] [Eo,I64] EW):=Aq (.cons ZH (.cons dI .nil)) stays Az (As (hs:={}) Tryz.func72) false fun x=>by kernel_rfl
theorem XZ:Ao Tryz.prog V 160 (spT [DU,I64] [Bo,I64] I6):=AU (.cons Vz .nil) stays Az (As (hs:={}) Tryz.func160) false fun x=>.trans (by kernel_rfl) (vZ x)
theorem S5:CH Tryz.prog V 132 (spP [AZ] [U32] El true):=VQ (.cons XZ .nil) .nil stays Az .nil (As (hs:={loops:=[(0,[.slot 3 U32,.slot 17 I64]),(2,[.slot 6 Bo,.slot 28 I64])]}) Tryz.func132) 1 fun x=>by kernel_rfl
theorem l9:Ao Tryz.prog V 176 (spP [Aj,U32] [U32] HM):=Aq .nil stays Az (As (hs:={loops:=[(0,[.slot 5 U32,.slot 11 I64])]}) Tryz.func176) false fun x=>by kernel_rfl
theorem l5:Ao Tryz.prog V 177 (spP [U32,I64,I64] [I64] HL):=Aq (.cons OI .nil) stays Az (As (hs:={}) Tryz.func177) false fun x=>by kernel_rfl
theorem sO:Ao Tryz.prog V 179 (spP [Aj,I64] [U8s] II):=Aq (.cons Up .nil) stays Az (As (hs:={loops:=[(0,[.slot 13 I64,.arr 10 U8])]}) Tryz.func179) false fun x=>by kernel_rfl
theorem Wg:Ao Tryz.prog V 133 (spP [Aj,I64] [U8s,I64] Da):=DB (.cons sO (.cons CB .nil)) stays Az (.cons (As (hs:={}) Tryz.func42) (.cons (As (hs:={}) Tryz.func178) .nil)) (As (hs:={joins:=[(2,[])],outs:=[(2,[(6,I64)])]}) Tryz.func133) false 3 fun x=>by kernel_rfl
theorem xR:Ao Tryz.prog V 131 (spP [Aj,Wr,A7,U32,U32] [Wr,U8s,I64] JB):=Aq (.cons CB (.cons O8 (.cons l9 (.cons l5 (.cons Wg .nil))))) stays Az (As (hs:={}) Tryz.func131) false fun x=>by kernel_rfl
attribute [local go_sem] Oper.semAt_some
attribute [local go_sem] Oper.semAt_some
abbrev OD (L:Nat):Type:={k:Nat // k<L}
def Ht (L k:Nat):List (OD L):=(List.range k).filterMap fun j=>if h:j<L then some ⟨j,h⟩ else none
theorem KA {L k:Nat} (h:k<L):Ht L (k+1)=Ht L k++[⟨k,h⟩]:=by
 unfold Ht
 rw[List.range_succ,List.filterMap_append]
 simp[h]
theorem Lk {L:Nat}:∀k:Nat,k≤L→(Ht L k).length=k
 |0,_=>rfl
 |k+1,h=>by rw[KA (by omega),List.length_append,Lk k (by omega)];rfl
theorem Vm {L k:Nat} (j:OD L) (h:j.1<k):j∈Ht L k:=by
 unfold Ht
 rw[List.mem_filterMap]
 exact ⟨j.1,by simpa using h,by simp[j.2]⟩
theorem UU (n:Int):wr .i64 n=wrap64 n:=by unfold wr wrap64;rw[IntKind.wrap_i64]
theorem R6 (zs:List Int) (k:Nat):Cw zs (k+1)=wrap64 (Cw zs k+(zs[k]?).getD 0):=UU _
set_option maxRecDepth 100000 in
set_option maxHeartbeats 4000000 in
theorem y5 (F:Fence) (n:Nat) (h8:F.fn 88) (hro:F.round=none) (hn:1≤n) (l Bs n₀ b off len cap:Nat) (c0 o0:Int) (zs:List Int) (hreach:len≤1000000) (hb:b<n₀) (J Jx:List (OD len)→World→Prop)
 (hY:∀pre x W,J pre W→pre.length<len→YieldAt F (n-1) Tryz.prog l #[.int .i64 (x.1:Int),.int .i64 (Cw zs (x.1+1))] W fun e W' =>
   (e=.returned (.bool true)∧J (pre++[x]) W'∧Below n₀ W W')∨(e=.returned (.bool false)∧Jx (pre++[x]) W'))
 (W:World) (hBs:W.heap[Bs]?=some (.cells #[.int .i64 c0,.int .i64 o0,.slice (some ⟨b,off,none⟩) len cap] 49 (0,0))) (hc:∀j,j<len→W.cell? ⟨b,off+j,none⟩=some (.int .i64 (zs[j]?.getD 0))) (h0:J [] W) :
 CallsIn F n Tryz.prog 88 #[.func (.yield l) #[] #[],.pointer (some ⟨Bs,0,none⟩)] W fun e W'=>(∃v,e=.returned v) ∧
  ((∃ys,ys=Ht len len∧J ys W')∨(∃pre,(∃k,k≤len∧pre=Ht len k)∧Jx pre W')):=by
 have hs2:W.cell? ⟨Bs,2,none⟩=some (.slice (some ⟨b,off,none⟩) len cap):=by simp[World.cell?,hBs]
 refine callsIn_of_wp Tryz.func88 rfl h8 ?_ hro
 simp only[Tryz.ntmps88,List.size_toArray,List.length_cons,List.length_nil,Nat.reduceAdd,Nat.reduceSub,Array.replicate_succ,Array.replicate_zero,List.push_toArray,List.append_toArray,List.nil_append,List.cons_append]
 gi_wp2
 gi_loopw [3,9] (fun e i wr=>∃k:Nat,k≤len∧e=.int .i64 (Cw zs k)∧i=.int .i64 k∧J (Ht len k) wr∧Below n₀ W wr)
  (fun _ i _=>len-(intOf i).toNat)
 case atStart=>exact ⟨0,Nat.zero_le _,rfl,rfl,h0,Below.refl _ _⟩
 case round =>
  obtain⟨k,hk,rfl,rfl,hJs,hnx⟩:=hrel
  have hcx:k<len→wr.cell? ⟨b,off+k,none⟩=some (.int .i64 (zs[k]?.getD 0)):=fun h=>(hnx.cell (p:=⟨b,off+k,none⟩) hb).trans (hc k h)
  by_cases hlt:k<len
  ·obtain⟨fn,tmps,assign,body,hy,hR⟩:=hY _ ⟨k,hlt⟩ wr hJs (by rw[Lk _ hk];exact hlt)
   simp only[R6] at hy
   have hcx':=hcx hlt
   gi_wp2
   refine hR.mono ?_
   rintro e W3 (⟨rfl,hJ3,hk3⟩|⟨rfl,hJx3⟩)
   ·gi_wp2
    go_roundw
    case rel=>exact ⟨k+1,by omega,by rw[R6],by simp,by rw[KA hlt];exact hJ3,hnx.trans hk3⟩
    case measure=>simp[intOf];omega
   ·gi_wp2
    refine bodyPost_ret (results_none rfl _ _ _) rfl ?_
    exact ⟨⟨_,rfl⟩,.inr ⟨_,⟨k+1,by omega,(KA hlt).symm⟩,hJx3⟩⟩
  ·obtain rfl:k=len:=by omega
   gi_wp2
   go_end0
   exact ⟨⟨_,rfl⟩,.inl ⟨_,rfl,hJs⟩⟩
set_option maxRecDepth 100000 in
set_option maxHeartbeats 1000000 in
theorem cH (F:Fence) (n:Nat) (h8:F.fn 88) (hro:F.round=none) (l Bs:Nat) (c0 o0:Int) (ad:Option Addr) (cap:Nat) {L:Nat} (J:List (OD L)→World→Prop) (W:World) (hBs:W.heap[Bs]?=some (.cells #[.int .i64 c0,.int .i64 o0,.slice ad 0 cap] 49 (0,0))) (h0:J [] W) :
 CallsIn F n Tryz.prog 88 #[.func (.yield l) #[] #[],.pointer (some ⟨Bs,0,none⟩)] W fun e W'=>(∃v,e=.returned v)∧J [] W':=by
 have hs2:W.cell? ⟨Bs,2,none⟩=some (.slice ad 0 cap):=by simp[World.cell?,hBs]
 refine callsIn_of_wp Tryz.func88 rfl h8 ?_ hro
 simp only[Tryz.ntmps88,List.size_toArray,List.length_cons,List.length_nil,Nat.reduceAdd,Nat.reduceSub,Array.replicate_succ,Array.replicate_zero,List.push_toArray,List.append_toArray,List.nil_append,List.cons_append]
 gi_wp2
 gi_loopw [9] (fun i wr=>i=.int .i64 0∧J [] wr) (fun _ _=>0)
 case atStart=>exact ⟨rfl,h0⟩
 case round =>
  obtain⟨rfl,hJs⟩:=hrel
  gi_wp2
  go_end0
  exact ⟨⟨_,rfl⟩,hJs⟩
set_option maxHeartbeats 1000000 in
theorem Abr (F:Fence) (n:Nat) (h5:F.fn 39) (hro:F.round=none) (c0 o0:Int) (sv:Value) (w:World) :
 CallsIn F n Tryz.prog 39 #[.agg #[.int .i64 c0,.int .i64 o0,sv]] w fun e w'=>e=.returned (.func (.func 88) #[] #[.pointer (some ⟨w.heap.size,0,none⟩)])∧w'=w.alloc (.cells #[.int .i64 c0,.int .i64 o0,sv] 49):=by
 refine callsIn_of_wp Tryz.func39 rfl h5 ?_ hro
 simp only[Tryz.ntmps39,List.size_toArray,List.length_cons,List.length_nil,Nat.reduceAdd,Nat.reduceSub,Array.replicate_succ,Array.replicate_zero,List.push_toArray,List.append_toArray,List.nil_append,List.cons_append]
 gi_wp2
 go_ret
 exact ⟨rfl,rfl⟩
def AtInts (n₀:Nat) (W:World) (sv:Value) (zs:List Int):Prop :=
 (∃ad cap,sv=.slice ad 0 cap∧zs=[])∨∃b off cap,sv=.slice (some ⟨b,off,none⟩) zs.length cap∧b<n₀∧∀j,j<zs.length→W.cell? ⟨b,off+j,none⟩=some (.int .i64 (zs[j]?.getD 0))
theorem AtInts.below {n₀:Nat} {A B:World} (h:Below n₀ A B) {sv:Value} {zs:List Int}:AtInts n₀ A sv zs→AtInts n₀ B sv zs
 |.inl e=>.inl e
 |.inr ⟨b,off,cap,e,hb,hc⟩=>.inr ⟨b,off,cap,e,hb,fun j hj=>(h.cell (p:=⟨b,off+j,none⟩) hb).trans (hc j hj)⟩
theorem Abs (F:Fence) (n:Nat) (h8:F.fn 88) (hro:F.round=none) (hn:1≤n) (Bs n₀:Nat) (c0 o0:Int) (sv:Value) (zs:List Int) (hreach:zs.length≤1000000) (w:World) (hn₀:n₀≤w.heap.size)
 (hc:w.heap[Bs]?=some (.cells #[.int .i64 c0,.int .i64 o0,sv] 49 (0,0))) (hI:AtInts n₀ w sv zs) :
 SeqStopsK F n Tryz.prog 88 #[.pointer (some ⟨Bs,0,none⟩)] (fun x:OD zs.length=>#[Value.int .i64 (x.1:Int),Value.int .i64 (Cw zs (x.1+1))]) (Below n₀) (fun ys=>ys=Ht zs.length zs.length) (fun pre=>∃k,k≤zs.length∧pre=Ht zs.length k) zs.length w:=fun l J Jx W hW _ _ hY h0=>by
 have hc':W.heap[Bs]?=some (.cells #[.int .i64 c0,.int .i64 o0,sv] 49 (0,0)):=by rw[hW.block Bs ((Array.getElem?_eq_some_iff.1 hc).1)];exact hc
 rcases hI.below (hW.mono hn₀) with ⟨ad,cap,rfl,rfl⟩|⟨b,off,cap,rfl,hb,hcs⟩
 ·exact (cH F n h8 hro l Bs c0 o0 ad cap J W hc' h0).mono fun e W' ⟨he,hj⟩=>⟨he,.inl ⟨_,rfl,hj⟩⟩
 ·refine (y5 F n h8 hro hn l Bs n₀ b off zs.length cap c0 o0 zs hreach hb J Jx hY W hc' hcs h0).mono ?_
  rintro e W' ⟨he,⟨ys,rfl,hj⟩|⟨pre,⟨k,hk,rfl⟩,hj⟩⟩
  ·exact ⟨he,.inl ⟨_,rfl,hj⟩⟩
  ·exact ⟨he,.inr ⟨_,⟨k,hk,rfl⟩,hj⟩⟩
theorem Wm {F:Fence} {n:Nat} {P:Program} {ops:Array Oper} {Q:Exit→Act→World→Prop} (Inv:Array Bool→Act→World→Prop)
 (hstep:∀L a w i,Inv L a w→i∈Region.ready .any ops L→wpOpIn F n P ops Q i (Inv (L.setIfInBounds i true)) a w)
 (hdone:∀L a w,Inv L a w→Region.ready .any ops L=[]→Q .normal a w) :
 ∀(fuel:Nat) (L:Array Bool) (a:Act) (w:World),Inv L a w→L.toList.countP (fun b=>!b)≤fuel→wpAnyIn F n P .any ops Q fuel L a w
 |0,L,a,w,hI,hc=>by
  have hr:Region.ready .any ops L=[]:=by
   cases hr:Region.ready .any ops L with
   |nil=>rfl
   |cons i r =>
    obtain⟨o,_,h2,_⟩:=ready_iff.1 (show i∈Region.ready .any ops L by rw[hr];simp)
    have hm:false∈L.toList:=by
     obtain⟨hlt,he⟩:=Array.getElem?_eq_some_iff.1 h2
     rw[←he];simp
    have:=List.countP_pos_iff (p:=fun b=>!b) |>.2 ⟨false,hm,rfl⟩
    omega
  exact ⟨hr,hdone L a w hI hr⟩
 |fuel+1,L,a,w,hI,hc=>by
  refine ⟨hdone L a w hI,fun i hi=>?_⟩
  obtain⟨o,_,h2,_⟩:=ready_iff.1 hi
  obtain⟨hlt,he⟩:=Array.getElem?_eq_some_iff.1 h2
  refine wpOpIn_mono (fun a' w' hI'=>Wm Inv hstep hdone fuel _ a' w' hI' ?_) (hstep L a w i hI hi)
  rw[Array.toList_setIfInBounds,List.countP_set (by simpa using hlt)]
  have e2:L.toList[i]'(by simpa using hlt)=false:=by simpa using he
  rw[e2]
  have hm:false∈L.toList:=by rw[←e2];exact List.getElem_mem _
  have:=List.countP_pos_iff (p:=fun b=>!b) |>.2 ⟨false,hm,rfl⟩
  simp only[Bool.not_false,if_true,Bool.not_true,Bool.false_eq_true,if_false]
  omega
theorem uL {ops:Array Oper} {L:Array Bool} (hr:Region.ready .any ops L=[]) (hsz:L.size=ops.size) (hback:Ll 0 ops.toList=true):∀i,i<ops.size→L[i]?=some true:=by
 intro i
 induction i using Nat.strongRecOn with
 |_ i ih =>
  intro hi
  have hlt:i<L.size:=by omega
  cases hv:L[i]'hlt with
  |true=>rw[Array.getElem?_eq_getElem hlt,hv]
  |false =>
   exfalso
   have hm:i∈Region.ready .any ops L:=ready_iff.2 ⟨ops[i],by simp[hi],by rw[Array.getElem?_eq_getElem hlt,hv],fun e he hb=>by
    have hlt2:=Nf hback i ops[i] (by simp[hi]) e he hb
    rw[Nat.zero_add] at hlt2
    exact ih e.on hlt2 (by omega)⟩
   rw[hr] at hm;cases hm
def H8 (pp b off cap n k:Nat) (en pl z:Int):Nat→Value
 |0=>.int .i64 k
 |1=>.int .i64 pl
 |2=>.int .i64 en
 |3=>.int .i64 (wrap64 (pl-en))
 |4=>.pointer (some ⟨pp,2,none⟩)
 |5=>.slice (some ⟨b,off,none⟩) n cap
 |6=>.int .i64 k
 |7=>.pointer (some ⟨b,off+k,none⟩)
 |8=>.int .i64 z
 |_=>.int .i64 (wrap64 (wrap64 (pl-en)+z))
structure AtReg (H:Nat) (w0:World) (ip jp ep cp pp b off cap n k:Nat) (en pl z:Int) (V0:World) (L:Array Bool) (a:Act) (U:World):Prop where
 others:KeepsOthers V0 U
 size:L.size=13
 len:a.tmps.size=58
 t4:a.tmps.getD 4 undef=.pointer (some ⟨pp,0,none⟩)
 t6:a.tmps.getD 6 undef=.pointer (some ⟨ip,0,none⟩)
 t7:a.tmps.getD 7 undef=.pointer (some ⟨jp,0,none⟩)
 t8:a.tmps.getD 8 undef=.pointer (some ⟨ep,0,none⟩)
 t10:a.tmps.getD 10 undef=.pointer (some ⟨cp,0,none⟩)
 t11:a.tmps.getD 11 undef=.int .i64 k
 t12:a.tmps.getD 12 undef=.int .i64 en
 v:∀j,j<10→L[j]?=some true→a.tmps.getD (48+j) undef=H8 pp b off cap n k en pl z j
 cpl:U.cell? ⟨cp,0,none⟩=some (.int .i64 pl)
 csl:U.cell? ⟨pp,2,none⟩=some (.slice (some ⟨b,off,none⟩) n cap)
 cz:U.cell? ⟨b,off+k,none⟩=some (.int .i64 z)
 fi:U.frozen? ⟨ip,0,none⟩=false
 fj:U.frozen? ⟨jp,0,none⟩=false
 fe:U.frozen? ⟨ep,0,none⟩=false
 ci:(U.cell? ⟨ip,0,none⟩).isSome=true
 cj:(U.cell? ⟨jp,0,none⟩).isSome=true
 ce:(U.cell? ⟨ep,0,none⟩).isSome=true
 di:L[10]?=some true→U.cell? ⟨ip,0,none⟩=some (.int .i64 k)
 dj:L[11]?=some true→U.cell? ⟨jp,0,none⟩=some (.int .i64 (wrap64 (wrap64 (pl-en)+z)))
 de:L[12]?=some true→U.cell? ⟨ep,0,none⟩=some (.int .i64 0)
 below:Below H w0 U
section
variable {H:Nat} {w0:World} {ip jp ep cp pp b off cap n k:Nat} {en pl z:Int} {V0:World} {L:Array Bool} {a:Act} {U:World} {l m:Nat} {P:Program} {ops:Array Oper} {Q:Exit→Act→World→Prop}
theorem I7 {a:Act} {s t:Nat} {v:Value} (hs:s<a.tmps.size):(a.put (some s) v).tmps.getD t undef=if t=s then v else a.tmps.getD t undef:=by
 simp only[Act.put,Array.getD_eq_getD_getElem?,Array.getElem?_setIfInBounds]
 by_cases h:s=t
 ·subst h;simp[hs]
 ·have:¬t=s:=fun e=>h e.symm
  simp[h,this]
theorem AtReg.put (h:AtReg H w0 ip jp ep cp pp b off cap n k en pl z V0 L a U) {i:Nat} (hi:i<10):AtReg H w0 ip jp ep cp pp b off cap n k en pl z V0 (L.setIfInBounds i true) (a.put (some (48+i)) (H8 pp b off cap n k en pl z i)) U:=by
 have hs:48+i<a.tmps.size:=by rw[h.len];omega
 have hL:∀j,j≠i→(L.setIfInBounds i true)[j]?=L[j]?:=fun j hj=>by
  rw[Array.getElem?_setIfInBounds]
  simp[Ne.symm hj]
 refine ⟨h.others,by simp[h.size],by simp[Act.put,h.len],?_,?_,?_,?_,?_,?_,?_,?_,h.cpl,h.csl,h.cz,h.fi,h.fj,h.fe,h.ci,h.cj,h.ce,?_,?_,?_,h.below⟩
 ·rw[I7 hs,if_neg (by omega)];exact h.t4
 ·rw[I7 hs,if_neg (by omega)];exact h.t6
 ·rw[I7 hs,if_neg (by omega)];exact h.t7
 ·rw[I7 hs,if_neg (by omega)];exact h.t8
 ·rw[I7 hs,if_neg (by omega)];exact h.t10
 ·rw[I7 hs,if_neg (by omega)];exact h.t11
 ·rw[I7 hs,if_neg (by omega)];exact h.t12
 ·intro j hj hl
  rw[I7 hs]
  by_cases e:j=i
  ·rw[if_pos (by omega),e]
  ·rw[if_neg (by omega)]
   exact h.v j hj (by rw[←hL j e];exact hl)
 ·rw[hL 10 (by omega)];exact h.di
 ·rw[hL 11 (by omega)];exact h.dj
 ·rw[hL 12 (by omega)];exact h.de
theorem JL (h:AtReg H w0 ip jp ep cp pp b off cap n k en pl z V0 L a U) {i:Nat} {o:Oper} (ho:ops[i]?=some o) (hg:o.guard=none) (hnd:∀c,o.op≠.defer c) (hab:∀w ρ,o.about P w ρ=none) (hi:i<10) (hdst:o.dst=some (48+i))
 (hrun:(execOp a.eval o).run P U=.ok (.value (H8 pp b off cap n k en pl z i)) U):wpOpIn (Fence.wide.inRound l) m P ops Q i (AtReg H w0 ip jp ep cp pp b off cap n k en pl z V0 (L.setIfInBounds i true)) a U:=by
 refine wpOpIn_step ho fun K' hK=>?_
 rw[if_pos (by simp[Region.wanted,hg])]
 refine ⟨fun f hf=>(by rw[hab] at hf;cases hf),?_⟩
 rw[Fence.inRound_round,Oper.semAt_some _ _ _ hnd,hrun,Oper.uponIn_value,hdst]
 exact hK _ _ (h.put hi)
theorem Ze {i:Nat} {o:Oper} {U':World} (ho:ops[i]?=some o) (hg:o.guard=none) (hnd:∀c,o.op≠.defer c) (hab:∀w ρ,o.about P w ρ=none) (hdst:o.dst=none)
 (hrun:(execOp a.eval o).run P U=.ok .skip U') (h:AtReg H w0 ip jp ep cp pp b off cap n k en pl z V0 (L.setIfInBounds i true) a U'):wpOpIn (Fence.wide.inRound l) m P ops Q i (AtReg H w0 ip jp ep cp pp b off cap n k en pl z V0 (L.setIfInBounds i true)) a U:=by
 refine wpOpIn_step ho fun K' hK=>?_
 rw[if_pos (by simp[Region.wanted,hg])]
 refine ⟨fun f hf=>(by rw[hab] at hf;cases hf),?_⟩
 rw[Fence.inRound_round,Oper.semAt_some _ _ _ hnd,hrun,Oper.uponIn_skip,hdst]
 exact hK _ _ h
theorem AtReg.mark (h:AtReg H w0 ip jp ep cp pp b off cap n k en pl z V0 L a U) {i:Nat} (hi:10≤i) {c:Nat} {v:Value} (hc:(i=10∧c=ip∧v=.int .i64 k)∨(i=11∧c=jp∧v=.int .i64 (wrap64 (wrap64 (pl-en)+z)))∨(i=12∧c=ep∧v=.int .i64 0))
 (hd:ip≠jp∧ip≠ep∧jp≠ep∧(cp≠ip∧cp≠jp∧cp≠ep)∧(pp≠ip∧pp≠jp∧pp≠ep)∧b≠ip∧b≠jp∧b≠ep) (hH:H≤ip∧H≤jp∧H≤ep) :
 AtReg H w0 ip jp ep cp pp b off cap n k en pl z V0 (L.setIfInBounds i true) a (U.setCell ⟨c,0,none⟩ v):=by
 have hL:∀j,j≠i→(L.setIfInBounds i true)[j]?=L[j]?:=fun j hj=>by
  rw[Array.getElem?_setIfInBounds]
  simp[Ne.symm hj]
 have hcH:H≤c:=by omega
 have hne:∀q o,q≠c→(U.setCell ⟨c,0,none⟩ v).cell? ⟨q,o,none⟩=U.cell? ⟨q,o,none⟩:=fun q o hq=>World.cell?_setCell_far _ _ _ _ (fun e=>hq e.symm)
 have hfz:∀q,(U.setCell ⟨c,0,none⟩ v).frozen? ⟨q,0,none⟩=U.frozen? ⟨q,0,none⟩:=fun q=>World.frozen?_setCell _ _ _ _
 have hsame:(U.cell? ⟨c,0,none⟩).isSome=true→(U.setCell ⟨c,0,none⟩ v).cell? ⟨c,0,none⟩=some v:=fun hs=>World.cell?_setCell_same' _ _ _ hs
 have hbel:Below H w0 (U.setCell ⟨c,0,none⟩ v):=h.below.setCell hcH v
 obtain⟨d1,d2,d3,⟨d4,d5,d6⟩,⟨d7,d8,d9⟩,d10,d11,d12⟩:=hd
 have some_of:∀q,(U.cell? ⟨q,0,none⟩).isSome=true→((U.setCell ⟨c,0,none⟩ v).cell? ⟨q,0,none⟩).isSome=true:=fun q hq=>by
  by_cases e:q=c
  ·subst e;rw[hsame hq];rfl
  ·rw[hne q 0 e];exact hq
 refine ⟨h.others.trans (KeepsOthers.setCell _ _ _),by simp[h.size],h.len,h.t4,h.t6,h.t7,h.t8,h.t10,h.t11,h.t12,fun j hj hl=>h.v j hj (by rw[←hL j (by omega)];exact hl),?_,?_,?_,by rw[hfz];exact h.fi,by rw[hfz];exact h.fj,by rw[hfz];exact h.fe,some_of _ h.ci,some_of _ h.cj,some_of _ h.ce,?_,?_,?_,hbel⟩
 ·rw[hne _ _ (by omega)];exact h.cpl
 ·rw[hne _ _ (by omega)];exact h.csl
 ·rw[hne _ _ (by omega)];exact h.cz
 ·intro hl
  rcases hc with ⟨rfl,rfl,rfl⟩|⟨rfl,rfl,rfl⟩|⟨rfl,rfl,rfl⟩
  ·exact hsame h.ci
  ·rw[hne _ _ (by omega)];exact h.di (by rw[←hL 10 (by omega)];exact hl)
  ·rw[hne _ _ (by omega)];exact h.di (by rw[←hL 10 (by omega)];exact hl)
 ·intro hl
  rcases hc with ⟨rfl,rfl,rfl⟩|⟨rfl,rfl,rfl⟩|⟨rfl,rfl,rfl⟩
  ·rw[hne _ _ (by omega)];exact h.dj (by rw[←hL 11 (by omega)];exact hl)
  ·exact hsame h.cj
  ·rw[hne _ _ (by omega)];exact h.dj (by rw[←hL 11 (by omega)];exact hl)
 ·intro hl
  rcases hc with ⟨rfl,rfl,rfl⟩|⟨rfl,rfl,rfl⟩|⟨rfl,rfl,rfl⟩
  ·rw[hne _ _ (by omega)];exact h.de (by rw[←hL 12 (by omega)];exact hl)
  ·rw[hne _ _ (by omega)];exact h.de (by rw[←hL 12 (by omega)];exact hl)
  ·exact hsame h.ce
end
def AtI (H:Nat) (w0:World) (pp ip jp ep cp:Nat) (sv:Value) (pl:Int) (zs:List Int) (pre:List (OD zs.length)) (W:World):Prop :=
 ((∀k∈pre,¬pl<Cw zs (k.1+1))∧W.cell? ⟨pp,2,none⟩=some sv∧W.cell? ⟨ip,0,none⟩=some (.int .i64 0)∧W.frozen? ⟨ip,0,none⟩=false ∧
   W.cell? ⟨jp,0,none⟩=some (.int .i64 0)∧W.frozen? ⟨jp,0,none⟩=false∧W.cell? ⟨ep,0,none⟩=some (.int .i64 0)∧W.frozen? ⟨ep,0,none⟩=false∧W.cell? ⟨cp,0,none⟩=some (.int .i64 pl))∧Below H w0 W
def AtX (H:Nat) (w0:World) (ip jp ep:Nat) (pl:Int) (zs:List Int) (c:Code) (pre:List (OD zs.length)) (W:World):Prop :=
 (c=.ret∧∃(pre':List (OD zs.length)) (k:OD zs.length),pre=pre'++[k]∧(∀j∈pre',¬pl<Cw zs (j.1+1))∧pl<Cw zs (k.1+1)∧W.cell? ⟨ip,0,none⟩=some (.int .i64 (k.1:Int)) ∧
   W.cell? ⟨jp,0,none⟩=some (.int .i64 (wrap64 (wrap64 (pl-Cw zs (k.1+1))+(zs[k.1]?).getD 0)))∧W.cell? ⟨ep,0,none⟩=some (.int .i64 0))∧Below H w0 W
theorem Vl {l:List Int} {pl:Int}:∀(n k j:Nat),k≤j→j<k+n→(∀i,k≤i→i<j→¬pl<Cw l (i+1))→pl<Cw l (j+1)→IQ l pl n k=((j:Int),(wr .i64 (wr .i64 (pl-Cw l (j+1))+(l[j]?).getD 0),0))
 |0,k,j,h1,h2,_,_=>by omega
 |n+1,k,j,h1,h2,hno,hy=>by
  rw[IQ]
  by_cases e:k=j
  ·subst e;rw[if_pos hy]
  ·rw[if_neg (hno k (Nat.le_refl _) (by omega))]
   exact Vl n (k+1) j (by omega) (by omega) (fun i hi hj=>hno i (by omega) hj) hy
theorem Xw {l:List Int} {pl:Int}:∀(n k:Nat),(∀i,k≤i→i<k+n→¬pl<Cw l (i+1))→IQ l pl n k=(0,(0,170))
 |0,k,_=>rfl
 |n+1,k,hno=>by
  rw[IQ,if_neg (hno k (Nat.le_refl _) (by omega))]
  exact Xw n (k+1) (fun i hi hj=>hno i (by omega) (by omega))
def FQ (zs:List Int) (cy of tk er:Int) (is:Bool):Int×Int×Int :=
 if er≠0 then (0,(0,er)) else if is=false then (0,(0,170)) else if tk<0∨1073741824<tk then (0,(0,2)) else IQ zs ((wrap64 (wrap64 (tk+cy)-of)).tmod cy) zs.length 0
theorem Pe {H:Nat} {w0 W:World} {ip jp ep:Nat} {x y z:Int} (hB:Below H w0 W) (hH:H≤ip∧H≤jp∧H≤ep) (hd:ip≠jp∧ip≠ep∧jp≠ep) (ci:(W.cell? ⟨ip,0,none⟩).isSome=true) (cj:(W.cell? ⟨jp,0,none⟩).isSome=true) (ce:(W.cell? ⟨ep,0,none⟩).isSome=true) :
 Below H w0 (((W.setCell ⟨ip,0,none⟩ (.int .i64 x)).setCell ⟨jp,0,none⟩ (.int .i64 y)).setCell ⟨ep,0,none⟩ (.int .i64 z)) ∧
 (((W.setCell ⟨ip,0,none⟩ (.int .i64 x)).setCell ⟨jp,0,none⟩ (.int .i64 y)).setCell ⟨ep,0,none⟩ (.int .i64 z)).cell? ⟨ip,0,none⟩=some (.int .i64 x) ∧
 (((W.setCell ⟨ip,0,none⟩ (.int .i64 x)).setCell ⟨jp,0,none⟩ (.int .i64 y)).setCell ⟨ep,0,none⟩ (.int .i64 z)).cell? ⟨jp,0,none⟩=some (.int .i64 y) ∧
 (((W.setCell ⟨ip,0,none⟩ (.int .i64 x)).setCell ⟨jp,0,none⟩ (.int .i64 y)).setCell ⟨ep,0,none⟩ (.int .i64 z)).cell? ⟨ep,0,none⟩=some (.int .i64 z):=by
 obtain⟨d1,d2,d3⟩:=hd
 have f:∀(U:World) (p q:Nat) (v:Value),p≠q→(U.setCell ⟨p,0,none⟩ v).cell? ⟨q,0,none⟩=U.cell? ⟨q,0,none⟩:=fun U p q v h=>World.cell?_setCell_far _ _ _ _ h
 have s:∀(U:World) (p:Nat) (v:Value),(U.cell? ⟨p,0,none⟩).isSome=true→(U.setCell ⟨p,0,none⟩ v).cell? ⟨p,0,none⟩=some v:=fun U p v h=>World.cell?_setCell_same' _ _ _ h
 refine ⟨((hB.setCell hH.1 _).setCell hH.2.1 _).setCell hH.2.2 _,?_,?_,?_⟩
 ·rw[f _ _ _ _ (Ne.symm d2),f _ _ _ _ (Ne.symm d1),s _ _ _ ci]
 ·rw[f _ _ _ _ (Ne.symm d3),s]
  rw[f _ _ _ _ d1];exact cj
 ·rw[s]
  rw[f _ _ _ _ d3,f _ _ _ _ d2];exact ce
theorem uQ {W:World} {D q:Nat} {v:Value} {ds:Option (List Deferred)} (hdf:W.heap[D]?=some (.deferred ds)) (hq:W.cell? ⟨q,0,none⟩=some v) (e:D=q):False:=by
 subst e
 simp[World.cell?,hdf] at hq
def tV (zs:List Int) (cy of tk er:Int) (is:Bool) (e:Ending):Prop:=inR .i64 er=true∧∃x y z:Int,(x,(y,z))=FQ zs cy of tk er is∧e=.returned (.tuple #[.int .i64 x,.int .i64 y,.int .i64 z])
set_option maxRecDepth 100000 in
set_option maxHeartbeats 8000000 in
theorem AcS (w:World) (c1 c2 c3 c4 c5 c6 c7 c8 c9 c10 c11 c12:Value) (cy of tk er:Int) (is:Bool) (sv:Value) (zs:List Int)
 (hI:AtInts w.heap.size w sv zs)
 (hP:∀W,Below w.heap.size w W→CallsIn Fence.wide 3 Tryz.prog 14 #[.agg #[c1,c2,c3,c4,c5,c6,c7,c8,c9,c10,c11,c12],.agg #[.int .i64 cy,.int .i64 of,sv]] W fun e W'=>e=.returned (.tuple #[.bool is,.int .i64 er])∧Below W.heap.size W W'∧inR .i64 er=true) (hgo:er=0→is=true→0≤tk→tk≤1073741824→cy≠0∧zs.length≤1000000) :
 CallsIn Fence.wide 4 Tryz.prog 18 #[.agg #[c1,c2,c3,c4,c5,c6,c7,c8,c9,c10,c11,c12],.agg #[.int .i64 cy,.int .i64 of,sv],.int .i64 tk] w fun e W'=>tV zs cy of tk er is e∧Below w.heap.size w W':=by
 refine callsIn_of_wp_marks Tryz.func18 rfl trivial ?_ rfl
 simp only[Tryz.ntmps18,List.size_toArray,List.length_cons,List.length_nil,Nat.reduceAdd,Nat.reduceSub,Array.replicate_succ,Array.replicate_zero,List.push_toArray,List.append_toArray,List.nil_append,List.cons_append]
 gi_wp2
 obtain⟨W0,hW0⟩:∃W0,(((((w.alloc (.cells #[c1,c2,c3,c4,c5,c6,c7,c8,c9,c10,c11,c12] 29)).alloc (.cells #[.int .i64 cy,.int .i64 of,sv] 49)).alloc (.cells #[.int .i64 0] 3)).alloc (.cells #[.int .i64 0] 3)).alloc (.cells #[.int .i64 0] 55))=W0:=⟨_,rfl⟩
 have hs0:W0.heap.size=w.heap.size+5:=by rw[←hW0];simp
 have hbw:Below w.heap.size w W0:=by
  rw[←hW0]
  exact ((((((Below.refl _ w).alloc (Nat.le_refl _) _).alloc (by simp) _).alloc (by simp;omega) _).alloc (by simp;omega) _).alloc (by simp;omega) _)
 have hbox:W0.heap[w.heap.size+1]?=some (.cells #[.int .i64 cy,.int .i64 of,sv] 49 (0,0))∧W0.heap[w.heap.size+1+1]?=some (.cells #[.int .i64 0] 3 (0,0))∧W0.heap[w.heap.size+1+1+1]?=some (.cells #[.int .i64 0] 3 (0,0))∧W0.heap[w.heap.size+1+1+1+1]?=some (.cells #[.int .i64 0] 55 (0,0)):=by
  rw[←hW0]
  refine ⟨?_,?_,?_,?_⟩
  ·refine (Below.heap_alloc _ _ _ (by simp)).trans ((Below.heap_alloc _ _ _ (by simp)).trans ((Below.heap_alloc _ _ _ (by simp)).trans ?_))
   have:=World.alloc_heap_new (w.alloc (.cells #[c1,c2,c3,c4,c5,c6,c7,c8,c9,c10,c11,c12] 29)) (.cells #[.int .i64 cy,.int .i64 of,sv] 49)
   rwa [World.size_alloc] at this
  ·refine (Below.heap_alloc _ _ _ (by simp)).trans ((Below.heap_alloc _ _ _ (by simp)).trans ?_)
   have:=World.alloc_heap_new ((w.alloc (.cells #[c1,c2,c3,c4,c5,c6,c7,c8,c9,c10,c11,c12] 29)).alloc (.cells #[.int .i64 cy,.int .i64 of,sv] 49)) (.cells #[.int .i64 0] 3)
   rwa [World.size_alloc,World.size_alloc] at this
  ·refine (Below.heap_alloc _ _ _ (by simp)).trans ?_
   have:=World.alloc_heap_new (((w.alloc (.cells #[c1,c2,c3,c4,c5,c6,c7,c8,c9,c10,c11,c12] 29)).alloc (.cells #[.int .i64 cy,.int .i64 of,sv] 49)).alloc (.cells #[.int .i64 0] 3)) (.cells #[.int .i64 0] 3)
   rwa [World.size_alloc,World.size_alloc,World.size_alloc] at this
  ·have:=World.alloc_heap_new ((((w.alloc (.cells #[c1,c2,c3,c4,c5,c6,c7,c8,c9,c10,c11,c12] 29)).alloc (.cells #[.int .i64 cy,.int .i64 of,sv] 49)).alloc (.cells #[.int .i64 0] 3)).alloc (.cells #[.int .i64 0] 3)) (.cells #[.int .i64 0] 55)
   rwa [World.size_alloc,World.size_alloc,World.size_alloc,World.size_alloc] at this
 rw[hW0]
 refine ⟨trivial,(hP W0 hbw).mono ?_⟩
 rintro e W1 ⟨rfl,hB1,her⟩
 obtain⟨q1,q2,q3,q4⟩:=hbox
 have r1:=(hB1.block _ (show w.heap.size+1<W0.heap.size by omega)).trans q1
 have r2:=(hB1.block _ (show w.heap.size+1+1<W0.heap.size by omega)).trans q2
 have r3:=(hB1.block _ (show w.heap.size+1+1+1<W0.heap.size by omega)).trans q3
 have r4:=(hB1.block _ (show w.heap.size+1+1+1+1<W0.heap.size by omega)).trans q4
 have hsz:=hB1.size
 have hbw1:Below w.heap.size w W1:=hbw.trans (hB1.mono (by omega))
 have hI1:=hI.below hbw1
 have hI0:=hI
 clear hP q1 q2 q3 q4 hB1 hbw hI
 have m10:W1.cell? ⟨w.heap.size+1,0,none⟩=some (.int .i64 cy):=by simp[World.cell?,r1]
 have m11:W1.cell? ⟨w.heap.size+1,1,none⟩=some (.int .i64 of):=by simp[World.cell?,r1]
 have m12:W1.cell? ⟨w.heap.size+1,2,none⟩=some sv:=by simp[World.cell?,r1]
 have m2:W1.cell? ⟨w.heap.size+1+1,0,none⟩=some (.int .i64 0):=by simp[World.cell?,r2]
 have m3:W1.cell? ⟨w.heap.size+1+1+1,0,none⟩=some (.int .i64 0):=by simp[World.cell?,r3]
 have m4:W1.cell? ⟨w.heap.size+1+1+1+1,0,none⟩=some (.int .i64 0):=by simp[World.cell?,r4]
 have f2:W1.frozen? ⟨w.heap.size+1+1,0,none⟩=false:=by simp[World.frozen?,r2]
 have f3:W1.frozen? ⟨w.heap.size+1+1+1,0,none⟩=false:=by simp[World.frozen?,r3]
 have f4:W1.frozen? ⟨w.heap.size+1+1+1+1,0,none⟩=false:=by simp[World.frozen?,r4]
 have fin:∀(W:World) (x y z:Int) (tm:Array Value),Below w.heap.size w W→tm[6]?=some (.pointer (some ⟨w.heap.size+1+1,0,none⟩))→tm[7]?=some (.pointer (some ⟨w.heap.size+1+1+1,0,none⟩))→tm[8]?=some (.pointer (some ⟨w.heap.size+1+1+1+1,0,none⟩)) →
  W.cell? ⟨w.heap.size+1+1,0,none⟩=some (.int .i64 x)→W.cell? ⟨w.heap.size+1+1+1,0,none⟩=some (.int .i64 y)→W.cell? ⟨w.heap.size+1+1+1+1,0,none⟩=some (.int .i64 z)→(x,(y,z))=FQ zs cy of tk er is →
  ∃v,(results Tryz.f18 tm).run Tryz.prog W=.ok v W∧tV zs cy of tk er is (.returned v)∧Below w.heap.size w W:=fun W x y z tm hB t6 t7 t8 h1 h2 h3 hr=>by
  refine ⟨_,?_,⟨her,x,y,z,hr,rfl⟩,hB⟩
  simp[results,Tryz.f18,go_sem,t6,t7,t8,h1,h2,h3]
 have fin2:∀(W:World) (x y z:Int) (tm:Array Value) (D:Nat),Below w.heap.size w W→tm[6]?=some (.pointer (some ⟨w.heap.size+1+1,0,none⟩))→tm[7]?=some (.pointer (some ⟨w.heap.size+1+1+1,0,none⟩))→tm[8]?=some (.pointer (some ⟨w.heap.size+1+1+1+1,0,none⟩)) →
  W.cell? ⟨w.heap.size+1+1,0,none⟩=some (.int .i64 x)→W.cell? ⟨w.heap.size+1+1+1,0,none⟩=some (.int .i64 y)→W.cell? ⟨w.heap.size+1+1+1+1,0,none⟩=some (.int .i64 z)→w.heap.size≤D→W.heap[D]?=some (.deferred (some []))→(x,(y,z))=FQ zs cy of tk er is →
  LeavesInM Fence.wide 4 Tryz.prog Tryz.f18 tm (fun e W'=>tV zs cy of tk er is e∧Below w.heap.size w W') [{target:=.collected D,args:=#[]}] .returning W:=fun W x y z tm D hB t6 t7 t8 h1 h2 h3 hD hdf hr=>by
  refine ⟨by simp,.inl ⟨D,W.putObj D (.deferred none),rfl,run_takeDeferred hdf,?_⟩⟩
  have pc:∀q v,W.cell? ⟨q,0,none⟩=some v→(W.putObj D (.deferred none)).cell? ⟨q,0,none⟩=some v:=fun q v hv =>
   (World.cell?_of_block (World.putObj_heap_other (k:=q) (fun e=>uQ hdf hv e.symm))).trans hv
  obtain⟨v,r1,r2,r3⟩:=fin (W.putObj D (.deferred none)) x y z tm (hB.trans (belowK_b (n₀:=w.heap.size) (w:=w) (Nat.le_refl _) W D _ _ hD hdf rfl rfl)) t6 t7 t8 (pc _ _ h1) (pc _ _ h2) (pc _ _ h3) hr
  exact ⟨v,r1,r2,r3⟩
 by_cases hz:er=0
 ·subst hz
  cases his:is with
  |false =>
   subst his
   gi_wp2
   have s4:=World.cell?_setCell_same' W1 ⟨w.heap.size+1+1+1+1,0,none⟩ (.int .i64 0) (by rw[m4];rfl)
   obtain⟨b1,b2,b3,b4⟩:=Pe (W:=W1.setCell ⟨w.heap.size+1+1+1+1,0,none⟩ (.int .i64 0)) (x:=0) (y:=0) (z:=170) (hbw1.setCell (by show w.heap.size≤w.heap.size+1+1+1+1;omega) _) (ip:=w.heap.size+1+1) (jp:=w.heap.size+1+1+1) (ep:=w.heap.size+1+1+1+1) (by omega) (by omega)
    (by rw[World.cell?_setCell_far _ _ _ _ (by show w.heap.size+1+1+1+1≠w.heap.size+1+1;omega),m2];rfl) (by rw[World.cell?_setCell_far _ _ _ _ (by show w.heap.size+1+1+1+1≠w.heap.size+1+1+1;omega),m3];rfl) (by rw[s4];rfl)
   exact fin _ 0 0 170 _ b1 rfl rfl rfl b2 b3 b4 rfl
  |true =>
   subst his
   by_cases ht:tk<0
   ·gi_wp2
    have s4:=World.cell?_setCell_same' W1 ⟨w.heap.size+1+1+1+1,0,none⟩ (.int .i64 0) (by rw[m4];rfl)
    obtain⟨b1,b2,b3,b4⟩:=Pe (W:=W1.setCell ⟨w.heap.size+1+1+1+1,0,none⟩ (.int .i64 0)) (x:=0) (y:=0) (z:=2) (hbw1.setCell (by show w.heap.size≤w.heap.size+1+1+1+1;omega) _) (ip:=w.heap.size+1+1) (jp:=w.heap.size+1+1+1) (ep:=w.heap.size+1+1+1+1) (by omega) (by omega)
     (by rw[World.cell?_setCell_far _ _ _ _ (by show w.heap.size+1+1+1+1≠w.heap.size+1+1;omega),m2];rfl) (by rw[World.cell?_setCell_far _ _ _ _ (by show w.heap.size+1+1+1+1≠w.heap.size+1+1+1;omega),m3];rfl) (by rw[s4];rfl)
    exact fin _ 0 0 2 _ b1 rfl rfl rfl b2 b3 b4 (by unfold FQ;rw[if_neg (by simp),if_neg (by simp),if_pos (by omega)])
   ·by_cases ht2:1073741824<tk
    ·gi_wp2
     have s4:=World.cell?_setCell_same' W1 ⟨w.heap.size+1+1+1+1,0,none⟩ (.int .i64 0) (by rw[m4];rfl)
     obtain⟨b1,b2,b3,b4⟩:=Pe (W:=W1.setCell ⟨w.heap.size+1+1+1+1,0,none⟩ (.int .i64 0)) (x:=0) (y:=0) (z:=2) (hbw1.setCell (by show w.heap.size≤w.heap.size+1+1+1+1;omega) _) (ip:=w.heap.size+1+1) (jp:=w.heap.size+1+1+1) (ep:=w.heap.size+1+1+1+1) (by omega) (by omega)
      (by rw[World.cell?_setCell_far _ _ _ _ (by show w.heap.size+1+1+1+1≠w.heap.size+1+1;omega),m2];rfl) (by rw[World.cell?_setCell_far _ _ _ _ (by show w.heap.size+1+1+1+1≠w.heap.size+1+1+1;omega),m3];rfl) (by rw[s4];rfl)
     exact fin _ 0 0 2 _ b1 rfl rfl rfl b2 b3 b4 (by unfold FQ;rw[if_neg (by simp),if_neg (by simp),if_pos (by omega)])
    ·obtain⟨hcy0,hlen⟩:=hgo rfl rfl (by omega) (by omega)
     obtain⟨pl,hpl⟩:∃pl,(wrap64 (wrap64 (tk+cy)-of)).tmod cy=pl:=⟨_,rfl⟩
     obtain⟨W2,hW2⟩:∃W2,(W1.setCell ⟨w.heap.size+1+1+1+1,0,none⟩ (.int .i64 0)).alloc (.cells #[.int .i64 pl] 3)=W2:=⟨_,rfl⟩
     have hA1:w.heap.size+5≤W1.heap.size:=by omega
     have hbS:Below w.heap.size w (W1.setCell ⟨w.heap.size+1+1+1+1,0,none⟩ (.int .i64 0)):=hbw1.setCell (by show w.heap.size≤w.heap.size+1+1+1+1;omega) _
     have hs2:W1.heap.size<W2.heap.size:=by rw[←hW2];simp
     have hb2:Below w.heap.size w W2:=by rw[←hW2];exact hbS.alloc (by simp;omega) _
     have old:∀q o v,q≠w.heap.size+1+1+1+1→q<W1.heap.size→W1.cell? ⟨q,o,none⟩=some v→W2.cell? ⟨q,o,none⟩=some v:=fun q o v hq hlt hv=>by
      rw[←hW2]
      refine ((Below.refl _ _).alloc (Nat.le_refl _) _ |>.cell (p:=⟨q,o,none⟩) (by simpa using hlt)).trans ?_
      rw[World.cell?_setCell_far _ _ _ _ (fun e=>hq e.symm)];exact hv
     have oldf:∀q o,q<W1.heap.size→W2.frozen? ⟨q,o,none⟩=W1.frozen? ⟨q,o,none⟩:=fun q o hlt=>by
      rw[←hW2,←World.frozen?_setCell W1 ⟨w.heap.size+1+1+1+1,0,none⟩ ⟨q,o,none⟩ (.int .i64 0)]
      exact (Below.refl (W1.setCell ⟨w.heap.size+1+1+1+1,0,none⟩ (.int .i64 0)).heap.size _).alloc (Nat.le_refl _) _ |>.frozen (p:=⟨q,o,none⟩) (by simpa using hlt)
     have k10:W2.cell? ⟨w.heap.size+1,0,none⟩=some (.int .i64 cy):=old _ _ _ (by omega) (by omega) m10
     have k11:W2.cell? ⟨w.heap.size+1,1,none⟩=some (.int .i64 of):=old _ _ _ (by omega) (by omega) m11
     have k12:W2.cell? ⟨w.heap.size+1,2,none⟩=some sv:=old _ _ _ (by omega) (by omega) m12
     have k2:W2.cell? ⟨w.heap.size+1+1,0,none⟩=some (.int .i64 0):=old _ _ _ (by omega) (by omega) m2
     have k3:W2.cell? ⟨w.heap.size+1+1+1,0,none⟩=some (.int .i64 0):=old _ _ _ (by omega) (by omega) m3
     have k4:W2.cell? ⟨w.heap.size+1+1+1+1,0,none⟩=some (.int .i64 0):=by
      rw[←hW2]
      refine ((Below.refl _ _).alloc (Nat.le_refl _) _ |>.cell (p:=⟨_,0,none⟩) (by simp;omega)).trans ?_
      exact World.cell?_setCell_same' W1 ⟨w.heap.size+1+1+1+1,0,none⟩ (.int .i64 0) (by rw[m4];rfl)
     have k20:W2.cell? ⟨W1.heap.size,0,none⟩=some (.int .i64 pl):=by
      have:=World.alloc_heap_new (W1.setCell ⟨w.heap.size+1+1+1+1,0,none⟩ (.int .i64 0)) (.cells #[.int .i64 pl] 3)
      rw[hW2,World.size_setCell] at this
      simp[World.cell?,this]
     gi_wp2
     refine ⟨trivial,(Abr Fence.wide 3 trivial rfl cy of sv W2).mono ?_⟩
     rintro e W3 ⟨rfl,rfl⟩
     gi_wp2
     have hA2:w.heap.size≤W2.heap.size:=by omega
     obtain⟨W3,hW3⟩:∃W3,W2.alloc (.cells #[.int .i64 cy,.int .i64 of,sv] 49)=W3:=⟨_,rfl⟩
     have hb3:Below w.heap.size w W3:=by rw[←hW3];exact hb2.alloc hA2 _
     have new:∀q o v,q<W2.heap.size→W2.cell? ⟨q,o,none⟩=some v→W3.cell? ⟨q,o,none⟩=some v:=fun q o v hlt hv=>by
      rw[←hW3]
      exact ((Below.refl _ _).alloc (Nat.le_refl _) _ |>.cell (p:=⟨q,o,none⟩) hlt).trans hv
     have newf:∀q o,q<W2.heap.size→W3.frozen? ⟨q,o,none⟩=W2.frozen? ⟨q,o,none⟩:=fun q o hlt=>by
      rw[←hW3]
      exact (Below.refl _ _).alloc (Nat.le_refl _) _ |>.frozen (p:=⟨q,o,none⟩) hlt
     have p1:W3.cell? ⟨w.heap.size+1,2,none⟩=some sv:=new _ _ _ (by omega) k12
     have p2:W3.cell? ⟨w.heap.size+1+1,0,none⟩=some (.int .i64 0)∧W3.frozen? ⟨w.heap.size+1+1,0,none⟩=false:=⟨new _ _ _ (by omega) k2,by rw[newf _ _ (by omega),oldf _ _ (by omega)];exact f2⟩
     have p3:W3.cell? ⟨w.heap.size+1+1+1,0,none⟩=some (.int .i64 0)∧W3.frozen? ⟨w.heap.size+1+1+1,0,none⟩=false:=⟨new _ _ _ (by omega) k3,by rw[newf _ _ (by omega),oldf _ _ (by omega)];exact f3⟩
     have p4:W3.cell? ⟨w.heap.size+1+1+1+1,0,none⟩=some (.int .i64 0)∧W3.frozen? ⟨w.heap.size+1+1+1+1,0,none⟩=false:=⟨new _ _ _ (by omega) k4,by rw[newf _ _ (by omega),oldf _ _ (by omega)];exact f4⟩
     have p5:W3.cell? ⟨W1.heap.size,0,none⟩=some (.int .i64 pl):=new _ _ _ (by omega) k20
     have hs3:W2.heap.size<W3.heap.size:=by rw[←hW3];simp
     have p6:W3.heap[W2.heap.size]?=some (.cells #[.int .i64 cy,.int .i64 of,sv] 49 (0,0)):=by rw[←hW3];exact World.alloc_heap_new _ _
     rw[hW3]
     refine wpIn_rangeFunc_ownF rfl (by omega) (gf:=88) (lb:=#[.pointer (some ⟨W2.heap.size,0,none⟩)]) rfl trivial (enters_of Tryz.func88 (by kernel_rfl) rfl)
      (Abs Fence.wide 3 trivial rfl (by omega) W2.heap.size w.heap.size cy of sv zs hlen W3 (by omega) p6 (hI0.below hb3)) (fun h k=>belowK_t h k) (belowK_b (by omega)) (Below.refl _ _) (fun _=>rfl)
      (fun pre W=>AtI w.heap.size w (w.heap.size+1) (w.heap.size+1+1) (w.heap.size+1+1+1) (w.heap.size+1+1+1+1) W1.heap.size sv pl zs pre W) (fun c pre W=>AtX w.heap.size w (w.heap.size+1+1) (w.heap.size+1+1+1) (w.heap.size+1+1+1+1) pl zs c pre W)
      (OwnFrom.and (Own.from (fun s A B row hs hg hr=>⟨hs.1,cell_kept hs.2.1 hg hr,cell_kept hs.2.2.1 hg hr,(frozen_kept hs.2.2.1 hg hr).trans hs.2.2.2.1,cell_kept hs.2.2.2.2.1 hg hr,(frozen_kept hs.2.2.2.2.1 hg hr).trans hs.2.2.2.2.2.1,cell_kept hs.2.2.2.2.2.2.1 hg hr,(frozen_kept hs.2.2.2.2.2.2.1 hg hr).trans hs.2.2.2.2.2.2.2.1,cell_kept hs.2.2.2.2.2.2.2.2 hg hr⟩) _) (ownFrom_below (Nat.le_refl _) (by omega)))
      (fun c=>OwnFrom.and (Own.from (fun s A B row hs hg hr=>by
        obtain⟨hc,pre',k,e1,e2,e3,e4,e5,e6⟩:=hs
        exact ⟨hc,pre',k,e1,e2,e3,cell_kept e4 hg hr,cell_kept e5 hg hr,cell_kept e6 hg hr⟩) _) (ownFrom_below (Nat.le_refl _) (by omega)))
      ⟨⟨fun k hk=>(by cases hk),p1,p2.1,p2.2,p3.1,p3.2,p4.1,p4.2,p5⟩,hb3⟩ ?a₁ ?assign ?body ?done ?stop
     case assign =>
      intro l x W K hK
      gi_wp2
      exact hK
     case body =>
      rintro l pre x W ⟨⟨hp,q1,q2,g2,q3,g3,q4,g4,q5⟩,hB⟩ _
      rcases hI0.below hB with ⟨ad,cap,_,hz0⟩|⟨b,off,cap,hsv,hb,hcs⟩
      ·exact absurd x.2 (fun hh=>by
        have:zs.length=0:=by rw[hz0];rfl
        omega)
      ·subst hsv
       have hx:=x.2
       have hcx:=hcs x.1 hx
       by_cases hlt:pl<Cw zs (x.1+1)
       ·have hp':=hp
        gi_wp2
        have hmx:Tryz.prog.follows .mixedOrders=true:=by kernel_rfl
        have hg3:Fy Tryz.prog 3=some false:=by kernel_rfl
        have hg30:Fy Tryz.prog 47=some false:=by kernel_rfl
        have hbx:b≠w.heap.size+1+1∧b≠w.heap.size+1+1+1∧b≠w.heap.size+1+1+1+1:=by omega
        refine wpIn_region_any hmx ?_
        refine Wm (AtReg w.heap.size w (w.heap.size+1+1) (w.heap.size+1+1+1) (w.heap.size+1+1+1+1) W1.heap.size (w.heap.size+1) b off cap zs.length x.1 (Cw zs (x.1+1)) pl ((zs[x.1]?).getD 0) W) ?_ ?_ _ _ _ _ ?_ ?_
        ·intro L a U i hI hi
         obtain⟨o,ho,hu,hdp⟩:=ready_iff.1 hi
         have hi13:i<13:=by simpa using (Array.getElem?_eq_some_iff.1 ho).1
         have hi':i=0∨i=1∨i=2∨i=3∨i=4∨i=5∨i=6∨i=7∨i=8∨i=9∨i=10∨i=11∨i=12:=by omega
         rcases hi' with rfl|rfl|rfl|rfl|rfl|rfl|rfl|rfl|rfl|rfl|rfl|rfl|rfl
         all_goals (simp only[List.getElem?_toArray,List.getElem?_cons_zero,List.getElem?_cons_succ,Option.some.injEq] at ho;subst ho)
         ·refine JL hI rfl rfl (by intro c h;cases h) (fun _ _=>rfl) (by omega) rfl ?_
          simp[execOp,Act.eval,hI.t11,H8]
         ·refine JL hI rfl rfl (by intro c h;cases h) (fun _ _=>rfl) (by omega) rfl ?_
          have:=Jr (P:=Tryz.prog) hg3 hI.cpl
          simp[execOp,Act.eval,hI.t10,H8,this]
         ·refine JL hI rfl rfl (by intro c h;cases h) (fun _ _=>rfl) (by omega) rfl ?_
          simp[execOp,Act.eval,hI.t12,H8]
         ·refine JL hI rfl rfl (by intro c h;cases h) (fun _ _=>rfl) (by omega) rfl ?_
          have v1:=hI.v 1 (by omega) (hdp _ (by simp;exact .inl rfl) rfl)
          have v2:=hI.v 2 (by omega) (hdp _ (by simp;exact .inr rfl) rfl)
          simp[execOp,Act.eval,v1,v2,H8,go_sem,wrap64,IntKind.wrap_i64]
         ·refine JL hI rfl rfl (by intro c h;cases h) (fun _ _=>rfl) (by omega) rfl ?_
          simp[execOp,Act.eval,hI.t4,H8,go_sem]
         ·refine JL hI rfl rfl (by intro c h;cases h) (fun _ _=>rfl) (by omega) rfl ?_
          have v4:=hI.v 4 (by omega) (hdp _ (by simp;exact rfl) rfl)
          have:=Jr (P:=Tryz.prog) hg30 hI.csl
          simp[execOp,Act.eval,v4,H8,this]
         ·refine JL hI rfl rfl (by intro c h;cases h) (fun _ _=>rfl) (by omega) rfl ?_
          simp[execOp,Act.eval,hI.t11,H8]
         ·refine JL hI rfl rfl (by intro c h;cases h) (fun _ _=>rfl) (by omega) rfl ?_
          have v5:=hI.v 5 (by omega) (hdp _ (by simp;exact .inl rfl) rfl)
          have v6:=hI.v 6 (by omega) (hdp _ (by simp;exact .inr rfl) rfl)
          simp[execOp,Act.eval,v5,v6,H8,go_sem,hx]
         ·refine JL hI rfl rfl (by intro c h;cases h) (fun _ _=>rfl) (by omega) rfl ?_
          have v7:=hI.v 7 (by omega) (hdp _ (by simp;exact rfl) rfl)
          have:=Jr (P:=Tryz.prog) hg3 hI.cz
          simp[execOp,Act.eval,v7,H8,this]
         ·refine JL hI rfl rfl (by intro c h;cases h) (fun _ _=>rfl) (by omega) rfl ?_
          have v3:=hI.v 3 (by omega) (hdp _ (by simp;exact .inl rfl) rfl)
          have v8:=hI.v 8 (by omega) (hdp _ (by simp;exact .inr rfl) rfl)
          simp[execOp,Act.eval,v3,v8,H8,go_sem,wrap64,IntKind.wrap_i64]
         ·obtain⟨cu,hcell⟩:=Option.isSome_iff_exists.1 hI.ci
          have v0:=hI.v 0 (by omega) (hdp _ (by simp;exact .inl rfl) rfl)
          refine Ze (U':=U.setCell ⟨w.heap.size+1+1,0,none⟩ (.int .i64 (x.1:Int))) rfl rfl (by intro c h;cases h) (fun _ _=>rfl) rfl ?_ (hI.mark (by omega) (.inl ⟨rfl,rfl,rfl⟩) (by omega) (by omega))
          simp[execOp,Act.eval,v0,hI.t6,hI.fi,hcell,H8,go_sem]
         ·obtain⟨cu,hcell⟩:=Option.isSome_iff_exists.1 hI.cj
          have v9:=hI.v 9 (by omega) (hdp _ (by simp;exact .inl rfl) rfl)
          refine Ze (U':=U.setCell ⟨w.heap.size+1+1+1,0,none⟩ (.int .i64 (wrap64 (wrap64 (pl-Cw zs (x.1+1))+(zs[x.1]?).getD 0)))) rfl rfl (by intro c h;cases h) (fun _ _=>rfl) rfl ?_ (hI.mark (by omega) (.inr (.inl ⟨rfl,rfl,rfl⟩)) (by omega) (by omega))
          simp[execOp,Act.eval,v9,hI.t7,hI.fj,hcell,H8,go_sem]
         ·obtain⟨cu,hcell⟩:=Option.isSome_iff_exists.1 hI.ce
          refine Ze (U':=U.setCell ⟨w.heap.size+1+1+1+1,0,none⟩ (.int .i64 0)) rfl rfl (by intro c h;cases h) (fun _ _=>rfl) rfl ?_ (hI.mark (by omega) (.inr (.inr ⟨rfl,rfl,rfl⟩)) (by omega) (by omega))
          simp[execOp,Act.eval,hI.t8,hI.fe,hcell,go_sem]
        ·intro L a U hI hr
         have key:=uL hr (by rw[hI.size];rfl) (by kernel_rfl)
         rename_i hK
         refine hK _ _ ?_
         gi_wp2
         refine ⟨hI.others,⟨rfl,pre,x,rfl,(fun j hj=>Int.not_lt.2 (hp' j hj)),hlt,hI.di (key 10 (by decide)),hI.dj (key 11 (by decide)),hI.de (key 12 (by decide))⟩,hI.below⟩
        ·exact ⟨KeepsOthers.drew _,rfl,rfl,rfl,rfl,rfl,rfl,rfl,rfl,rfl,fun j _ hl=>(by
          rw[Array.getElem?_replicate] at hl
          split at hl<;>cases hl),q5,q1,hcx,g2,g3,g4,(by show (W.cell? _).isSome=true;rw[q2];rfl),(by show (W.cell? _).isSome=true;rw[q3];rfl),(by show (W.cell? _).isSome=true;rw[q4];rfl),
          fun hl=>(by rw[Array.getElem?_replicate] at hl;split at hl<;>cases hl),fun hl=>(by rw[Array.getElem?_replicate] at hl;split at hl<;>cases hl),fun hl=>(by rw[Array.getElem?_replicate] at hl;split at hl<;>cases hl),hB.drew⟩
        ·decide
       ·have hp':=hp
        gi_wp2
        exact ⟨KeepsOthers.refl _,Below.refl _ _,⟨fun k hk=>(by
         rcases List.mem_append.1 hk with hk|hk
         ·exact Int.not_lt.2 (hp' k hk)
         ·simp only[List.mem_singleton] at hk
          subst hk;omega),q1,q2,g2,q3,g3,q4,g4,q5⟩,hB⟩
     case done =>
      rintro D xs W hD hxs ⟨⟨hp,q1,q2,g2,q3,g3,q4,g4,q5⟩,hB⟩ hdf
      subst hxs
      have hres:FQ zs cy of tk 0 true=(0,(0,170)):=by
       unfold FQ
       rw[if_neg (by simp),if_neg (by simp),if_neg (by omega),hpl]
       exact Xw _ _ fun i _ hi=>hp ⟨i,by omega⟩ (Vm _ (by show i<zs.length;omega))
      gi_wp2
      obtain⟨b1,b2,b3,b4⟩:=Pe (W:=W) (x:=0) (y:=0) (z:=170) hB (ip:=w.heap.size+1+1) (jp:=w.heap.size+1+1+1) (ep:=w.heap.size+1+1+1+1) (by omega) (by omega) (by rw[q2];rfl) (by rw[q3];rfl) (by rw[q4];rfl)
      refine fin2 _ 0 0 170 _ D b1 rfl rfl rfl b2 b3 b4 (Nat.le_trans hb3.size hD) ?_ hres.symm
      rw[heap_setCell_other _ _ _ _ (fun e=>uQ hdf q4 e),heap_setCell_other _ _ _ _ (fun e=>uQ hdf q3 e),heap_setCell_other _ _ _ _ (fun e=>uQ hdf q2 e)]
      exact hdf
     case stop =>
      rintro D c pre W hD ⟨k0,hk0,rfl⟩ ⟨⟨rfl,pre',k,e1,e2,e3,e4,e5,e6⟩,hB⟩ hdf
      have hk1:pre'.length+1=k0:=by
       have:=congrArg List.length e1
       rw[Lk _ hk0] at this
       simp at this;omega
      obtain rfl:k0=pre'.length+1:=by omega
      rw[KA (by omega)] at e1
      obtain⟨e7,e8⟩:=List.append_inj' e1 rfl
      have hkv:k.1=pre'.length:=by
       have:=List.head_eq_of_cons_eq e8
       rw[←this]
      have hres:FQ zs cy of tk 0 true=((k.1:Int),(wrap64 (wrap64 (pl-Cw zs (k.1+1))+(zs[k.1]?).getD 0),0)):=by
       unfold FQ
       rw[if_neg (by simp),if_neg (by simp),if_neg (by omega),hpl,←UU,←UU]
       exact Vl _ _ _ (Nat.zero_le _) (by have:=k.2;omega) (fun i _ hi=>e2 ⟨i,by have:=k.2;omega⟩ (by have:=Vm (k:=pre'.length) (⟨i,by have:=k.2;omega⟩:OD zs.length) (by show i<pre'.length;omega);rwa [e7] at this)) e3
      gi_wp2
      exact fin2 _ _ _ _ _ D hB rfl rfl rfl e4 e5 e6 (Nat.le_trans hb3.size hD) hdf hres.symm
 ·gi_wp2
  have sE:=World.cell?_setCell_same' W1 ⟨w.heap.size+1+1+1+1,0,none⟩ (.int .i64 er) (by rw[m4];rfl)
  have hmx:Tryz.prog.follows .mixedOrders=true:=by kernel_rfl
  obtain⟨b1,b2,b3,b4⟩:=Pe (W:=W1.setCell ⟨w.heap.size+1+1+1+1,0,none⟩ (.int .i64 er)) (x:=0) (y:=0) (z:=er) (hbw1.setCell (by show w.heap.size≤w.heap.size+1+1+1+1;omega) _) (ip:=w.heap.size+1+1) (jp:=w.heap.size+1+1+1) (ep:=w.heap.size+1+1+1+1) (by omega) (by omega)
   (by rw[World.cell?_setCell_far _ _ _ _ (by show w.heap.size+1+1+1+1≠w.heap.size+1+1;omega),m2];rfl) (by rw[World.cell?_setCell_far _ _ _ _ (by show w.heap.size+1+1+1+1≠w.heap.size+1+1+1;omega),m3];rfl) (by rw[sE];rfl)
  gi_region
  gi_wp2
  exact fin _ 0 0 er _ b1.drew rfl rfl rfl b2 b3 b4 (by unfold FQ;rw[if_pos hz])
theorem AeV {α:Type}:∀ {l:List α},l.length=12→∃a b c d e f g h i j k m,l=[a,b,c,d,e,f,g,h,i,j,k,m]
 |[a,b,c,d,e,f,g,h,i,j,k,m],_=>⟨a,b,c,d,e,f,g,h,i,j,k,m,rfl⟩
 |[],h=>by cases h
 |[_],h=>by cases h
 |[_,_],h=>by cases h
 |[_,_,_],h=>by cases h
 |[_,_,_,_],h=>by cases h
 |[_,_,_,_,_],h=>by cases h
 |[_,_,_,_,_,_],h=>by cases h
 |[_,_,_,_,_,_,_],h=>by cases h
 |[_,_,_,_,_,_,_,_],h=>by cases h
 |[_,_,_,_,_,_,_,_,_],h=>by cases h
 |[_,_,_,_,_,_,_,_,_,_],h=>by cases h
 |[_,_,_,_,_,_,_,_,_,_,_],h=>by cases h
 |_::_::_::_::_::_::_::_::_::_::_::_::_::_,h=>by simp at h
theorem AcR {w:World} {O:Nat→Prop} {l:List Int} {v:Value} (h:Reads w O DN l [v]):AtInts w.heap.size w v l:=by
 obtain⟨a,cap,e,hl,hm,hr⟩:=h
 simp only[List.cons.injEq,and_true] at e
 subst e
 rcases hr with hr|⟨b,off,cells,ea,hO,hb,hc,hrow⟩
 ·have:l=[]:=List.eq_nil_of_length_eq_zero hr
  subst this
  exact .inl ⟨a,cap,rfl,rfl⟩
 ·subst ea
  refine .inr ⟨b,off,cap,rfl,hb,fun j hj=>?_⟩
  obtain⟨pre,u,post,ec,hp,hu,hrd⟩:=RowOf.get (n:=1) (fun x vs=>AT I64) hrow (List.getElem?_eq_getElem hj)
  obtain⟨rfl,_⟩:=hrd
  refine hc j _ ?_
  rw[ec,List.getElem?_eq_getElem hj]
  simp
  rw[List.getElem?_append_right (by omega)]
  simp[show j-pre.length=0 by omega]
theorem fM {l:List Int} {pl:Int}:∀(n k:Nat),k+n≤1000000→inR .i64 (IQ l pl n k).1=true∧inR .i64 (IQ l pl n k).2.1=true∧inR .i64 (IQ l pl n k).2.2=true
 |0,k,_=>⟨rfl,rfl,rfl⟩
 |n+1,k,h=>by
  rw[IQ]
  split
  ·exact ⟨UL (by unfold maxLen;omega),EE _ _,rfl⟩
  ·exact fM n (k+1) (by omega)
theorem y4 {zs:List Int} {cy of tk er:Int} {is:Bool} (her:inR .i64 er=true) (hlen:er=0→is=true→0≤tk→tk≤1073741824→zs.length≤1000000) :
 inR .i64 (FQ zs cy of tk er is).1=true∧inR .i64 (FQ zs cy of tk er is).2.1=true∧inR .i64 (FQ zs cy of tk er is).2.2=true:=by
 unfold FQ
 by_cases h1:er=0
 ·rw[if_neg (by simpa using h1)]
  cases is with
  |false=>exact ⟨rfl,rfl,rfl⟩
  |true =>
   rw[if_neg (by simp)]
   split
   ·exact ⟨rfl,rfl,rfl⟩
   ·exact fM _ _ (by have:=hlen h1 rfl (by omega) (by omega);omega)
 ·rw[if_pos h1];exact ⟨rfl,rfl,her⟩
set_option maxRecDepth 100000 in
theorem Abp (w:World) (F:Nat→Prop) (vals:List Value) (x:Ae×AB×Int) (y:Int×Int×Int) (hV:V w) (hF:∀b,F b→b<w.heap.size) (hr:BU w F [Aj,Cl,I64] x vals) (hy:G7 x=some y) :
 Calls Tryz.prog 18 vals.toArray w fun e w'=>∃rs,e=.returned (CQ rs)∧Below w.heap.size w w'∧FV w.heap.size w' F false [I64,I64,I64] y rs:=by
 obtain⟨s,p,tk⟩:=x
 obtain⟨us,vs1,h1,rfl,us2,vs2,h2,rfl,us3,h3,rfl⟩:=hr
 obtain⟨rfl,_⟩:=(show us3=[.int .i64 tk]∧inR .i64 tk=true from h3)
 obtain⟨a1,a2,a3,a4,a5,a6,a7,a8,a9,a10,a11,a12,rfl⟩:=AeV (AT Aj h1)
 have h1':=h1
 have h2':=h2
 obtain⟨u1,r1,rfl,⟨rfl,_⟩,u2,u3,rfl,⟨rfl,_⟩,h4⟩:=h2
 obtain⟨v,rfl⟩:∃v,u3=[v]:=by obtain⟨a,cap,e,_⟩:=h4;exact ⟨_,e⟩
 have hI:=AcR h4
 have key:∀is er,D6 (s,p)=some (is,er)→(er=0→is=true→0≤tk→tk≤1073741824→p.1≠0∧p.2.2.length≤1000000)→y=FQ p.2.2 p.1 p.2.1 tk er is →
  Calls Tryz.prog 18 (Go.Den.valOf Aj [a1,a2,a3,a4,a5,a6,a7,a8,a9,a10,a11,a12]::Go.Den.valOf Cl ([.int .i64 p.1]++([.int .i64 p.2.1]++[v]))::[Go.Den.valOf I64 [.int .i64 tk]]).toArray w fun e w'=>∃rs,e=.returned (CQ rs)∧Below w.heap.size w w'∧FV w.heap.size w' F false [I64,I64,I64] y rs:=fun is er hpl hgo hyr=>by
  refine (callsIn_wide.1 (AcS w a1 a2 a3 a4 a5 a6 a7 a8 a9 a10 a11 a12 p.1 p.2.1 tk er is v p.2.2 hI (fun W hB=>callsIn_wide.2 ?_) hgo)).mono ?_
  ·have hk:Keeps w F W F:=⟨hB.size,fun b hlt hO=>⟨hO,hB.block b hlt⟩⟩
   refine (site_Plan_m.calls W F _ (s,p) (is,er) (stays w W hB hV) (fun b hb=>Nat.lt_of_lt_of_le (hF b hb) hB.size) ⟨_,_,Bt hk Aj h1',rfl,_,Bt hk Cl h2',rfl⟩ hpl).mono ?_
   rintro e W' ⟨rs,rfl,hB2,hres⟩
   obtain⟨us4,vs4,g1,rfl,us5,g2,rfl⟩:=(show BU W' F [Bo,I64] (is,er) rs from hres)
   have:us4=[.bool is]:=g1
   subst this
   obtain⟨rfl,hin⟩:=(show us5=[.int .i64 er]∧inR .i64 er=true from g2)
   exact ⟨rfl,hB2,hin⟩
  ·rintro e w' ⟨⟨her,r1,r2,r3,hr,rfl⟩,hB⟩
   have hin:=y4 (zs:=p.2.2) (cy:=p.1) (of:=p.2.1) (tk:=tk) (is:=is) her (fun a b c d=>(hgo a b c d).2)
   rw[hyr]
   rw[←hr] at hin ⊢
   exact ⟨[.int .i64 r1,.int .i64 r2,.int .i64 r3],rfl,hB,[.int .i64 r1],_,⟨rfl,hin.1⟩,rfl,[.int .i64 r2],_,⟨rfl,hin.2.1⟩,rfl,[.int .i64 r3],⟨rfl,hin.2.2⟩,rfl⟩
 unfold G7 at hy
 split at hy
 ·cases hy
 ·rename_i is er hpl
  refine key is er hpl ?_ ?_
  ·rintro rfl rfl t0 t1
   rw[if_neg (by simp),if_neg (by simp),if_neg (by simp only;omega)] at hy
   split at hy
   ·cases hy
   ·rename_i hc
    simp only at hc
    unfold Aa at hc
    exact ⟨by omega,by omega⟩
  ·unfold FQ
   by_cases h0:er=0
   ·subst h0
    rw[if_neg (by simp)] at hy ⊢
    cases is with
    |false=>rw[if_pos rfl] at hy ⊢;cases hy;rfl
    |true =>
     rw[if_neg (by simp)] at hy ⊢
     simp only at hy
     by_cases ht:tk<0∨1073741824<tk
     ·rw[if_pos ht] at hy ⊢;cases hy;rfl
     ·rw[if_neg ht] at hy ⊢
      split at hy
      ·cases hy
      ·cases hy
       simp only[UU]
       rfl
   ·rw[if_pos h0] at hy ⊢;cases hy;rfl
theorem AaA:Ao Tryz.prog V 18 (spP [Aj,Cl,I64] [I64,I64,I64] G7) where
 enters:=enters_of Tryz.func18 (by kernel_rfl) rfl
 tot:=fun g hg=>by cases hg
 calls:=fun w F vals x y hV hF hr hy=>Abp w F vals x y hV hF hr hy
theorem kG:Ao Tryz.prog V 19 (spP [Aj,Cl,I64] [I64,I64] D3):=Aq (.cons AaA (.cons Tu (.cons VT .nil))) stays Az (As (hs:={}) Tryz.func19) false fun x=>by kernel_rfl
theorem U3:CH Tryz.prog V 73 (spP [AZ,Hn] [AZ] EP):=C8 (.cons xR (.cons To (.cons kG (.cons Wg .nil)))) (.cons K5 (.cons S5 .nil)) Az .nil (As (hs:={}) Tryz.func73) 1 fun x=>by kernel_rfl
theorem pH:Ao Tryz.prog V 180 (spP [Aj,A7] [Bo] ID):=DB (.cons O5 .nil) stays Az (.cons (As (hs:={}) Tryz.func209) (.cons (As (hs:={loops:=[(0,[.slot 8 I64])]}) Tryz.func223) (.cons (As (hs:={}) Tryz.func210) .nil))) (As (hs:={loops:=[(0,[.slot 23 I64,.arr 20 U8])],joins:=[(9,[.arr 20 U8])]}) Tryz.func180) false 4 fun x=>by kernel_rfl
theorem SG:Ao Tryz.prog V 134 (spP [Aj,A7] [I64] Fx):=Aq (.cons CB (.cons pH .nil)) stays Az (As (hs:={}) Tryz.func134) false fun x=>by kernel_rfl
theorem X1:Ao Tryz.prog V 157 (spP [I64,U8] [U8s] Fm true):=Aq .nil stays Az (As (hs:={loops:=[(0,[.slot 11 I64,.arr 8 U8])]}) Tryz.func157) true fun x=>by kernel_rfl
theorem pQ:Ao Tryz.prog V 183 (spT [JJ,FF,U8] [U8] EX):=AU (.cons OP .nil) stays Az (As (hs:={}) Tryz.func183) false fun x=>.trans (by kernel_rfl) (pO x)
theorem SE:Ao Tryz.prog V 135 (spP [Aj,A7,U8s] [U8s] Fw true):=DB (.cons Sm (.cons X1 (.cons pQ .nil))) stays Az (.cons (As (hs:={}) Tryz.func181) (.cons (As (hs:={loops:=[(0,[.slot 8 I64])]}) Tryz.func211) (.cons (As (hs:={}) Tryz.func182) (.cons (As (hs:={loops:=[(0,[.slot 11 I64,.barr 3 U8])]}) Tryz.func184) .nil)))) (As (hs:={loops:=[(1,[.slot 36 I64,.barr 8 U8]),(3,[.slot 63 I64,.barr 8 U8])],joins:=[(2,[])],outs:=[(2,[(7,Bo)])]}) Tryz.func135) true 5 fun x=>by kernel_rfl
theorem iB:Ao Tryz.prog V 74 (spP [Aj,A7,U8s] [U8s,I64] Gw true):=Aq (.cons SG (.cons SE .nil)) stays Az (As (hs:={}) Tryz.func74) true fun x=>by kernel_rfl
theorem Vs:Ao Tryz.prog V 32 (spP [Ty.slice I64] [Ty.slice I64] Et true) :=
 IA (e:=3) (T:=I64) stays Az Tryz.func32 ⟨by kernel_rfl,rfl,by kernel_rfl,by kernel_rfl,by decide,⟨0,1,2,_,_,_,_,rfl,⟨rfl,rfl,rfl⟩,⟨rfl,rfl,rfl⟩,⟨rfl,⟨_,rfl⟩,rfl⟩,⟨rfl,rfl,rfl⟩⟩⟩ (fun l=>by kernel_rfl) (fun y h=>(Option.some.inj ((show Et []=some [] by kernel_rfl).symm.trans h)).symm)
theorem qI:Ao Tryz.prog V 140 (spT [U32] [U32,I64] H3):=AU .nil stays Az (As (hs:={}) Tryz.func140) false fun x=>.trans (by kernel_rfl) (qG x)
theorem AbH:Ao Tryz.prog V 142 (spT [I64] [I64] Ip):=AU .nil stays Az (As (hs:={}) Tryz.func142) false fun x=>by kernel_rfl
theorem vQ:Ao Tryz.prog V 194 (spT [I64] [I64] Hd):=AU .nil stays Az (As (hs:={}) Tryz.func194) false fun x=>by kernel_rfl
theorem zU:Ao Tryz.prog V 141 (spP [I64,I64] [I64,I64] I3):=Aq (.cons vQ .nil) stays Az (As (hs:={}) Tryz.func141) false fun x=>by kernel_rfl
theorem Rl:Ao Tryz.prog V 49 (spP [Ix] [U8s,I64] Eb):=Tk (.cons SW .nil) .nil (.cons Ye .nil) stays Az .nil (As (hs:={loops:=[(1,[.slot 41 I64,.own 4 U8])]}) Tryz.func49) false 1 fun x=>by kernel_rfl
theorem Zy:Ao Tryz.prog V 195 (spP [E8] [U8s,I64] Gh true):=Aq (.cons bP (.cons bR .nil)) stays Az (As (hs:={}) Tryz.func195) true fun x=>by kernel_rfl
theorem cX:Ao Tryz.prog V 196 (spP [U8s] [U8s] GN true):=Aq .nil stays Az (As (hs:={loops:=[(0,[.own 3 U8,.slot 11 I64])]}) Tryz.func196) true fun x=>by kernel_rfl
theorem dA:Ao Tryz.prog V 143 (spP [E8] [U8s,I64] FM):=Aq (.cons Zy (.cons cX .nil)) stays Az (As (hs:={}) Tryz.func143) false fun x=>by kernel_rfl
theorem MG:CH Tryz.prog V 33 (spP [AZ] [AZ] Db):=C8 (.cons XA (.cons Rg (.cons iB (.cons O5 (.cons KL (.cons Vs (.cons O8 (.cons qI (.cons AbH (.cons zU (.cons Rl (.cons dA .nil)))))))))))) (.cons S9 (.cons RL (.cons Td (.cons Vd (.cons RD (.cons U3 .nil)))))) Az (.cons (As (hs:={loops:=[(0,[.slot 44 I64,.fbox 0 AZ [35,36,37]]),(2,[.slot 69 I64,.slot 5 Bo,.fbox 0 AZ [35,36,37]])],joins:=[(17,[.fbox 0 AZ [35,36,37]])]}) Tryz.func76) (.cons (As (hs:={loops:=[(0,[.slot 59 I64,.fbox 4 Ix [3],.fbox 0 AZ [35,36,37]])]}) Tryz.func77) .nil)) (As (hs:={frz:=[10],joins:=[(2,[.box 0 AZ])]}) Tryz.func33) 3 fun x=>by kernel_rfl
theorem qM:Ao Tryz.prog V 25 (spP [Aj,AL,GK] [Kw,U8s,I64] LR):=Gy (.cons Rp .nil) (.cons MG .nil) stays Az .nil (As (hs:={loops:=[(0,[.own 6 U8s,.own 7 U8,.slot 27 I64,.box 9 Cj])]}) Tryz.func25) false 1 fun x=>by kernel_rfl
theorem sF:Ao Tryz.prog V 7 (spP [] [Bo] JT):=Aq (.cons Aba (.cons yE (.cons qM .nil))) stays Az (As (hs:={loops:=[(0,[.slot 4 I64])]}) Tryz.func7) false fun x=>by kernel_rfl
theorem dX:Ao Tryz.prog V 13 (spP [Aj] [Bo] E0):=Aq .nil stays Az (As (hs:={loops:=[(0,[.slot 3 I64]),(2,[.slot 4 I64])]}) Tryz.func13) false fun x=>by kernel_rfl
theorem kO:Ao Tryz.prog V 27 (spP [GK] [I64] HG):=Aq .nil stays Az (As (hs:={loops:=[(0,[.slot 3 I64,.slot 4 I64])]}) Tryz.func27) false fun x=>by kernel_rfl
theorem yH:Ao Tryz.prog V 8 (spP [Aj,AL,GK] [Bo] JD):=Aq (.cons dX (.cons kO .nil)) stays Az (As (hs:={}) Tryz.func8) false fun x=>by kernel_rfl
theorem NJ:Ao Tryz.prog V 103 (spT [I64] [Bo] CA):=AU .nil stays Az (As (hs:={}) Tryz.func103) false fun x=>by kernel_rfl
theorem pD:Ao Tryz.prog V 104 (spP [Aj,A7,I64] [Bo,I64] IC):=Aq (.cons SG (.cons X1 (.cons SE .nil))) stays Az (As (hs:={}) Tryz.func104) false fun x=>by kernel_rfl
theorem iZ:Ao Tryz.prog V 105 (spT [GH,I64] [Bo,I64] Ig):=AU (.cons SQ .nil) stays Az (As (hs:={}) Tryz.func105) false fun x=>.trans (by kernel_rfl) (iX x)
theorem Zz {w:World} {O:Nat→Prop}:∀ {l:List Int} {vs:List Value},RowOf (Reads w O U8) l vs→vs=l.map (fun n=>Value.int .u8 n)∧∀n∈l,0≤n∧n≤255
 |[],vs,h=>⟨h,fun n hn=>by cases hn⟩
 |n::l,vs,⟨v1,v2,e,⟨e1,e2⟩,h3⟩=>by
  obtain⟨k1,k2⟩:=Zz h3
  subst e e1 k1
  have hn:0≤n∧n≤255:=by
   unfold inR at e2
   have e3:IntKind.u8.min≤n∧n≤IntKind.u8.max:=by simpa only[Bool.and_eq_true,decide_eq_true_eq] using e2
   exact e3
  refine ⟨rfl,fun m hm=>?_⟩
  rcases List.mem_cons.1 hm with rfl|hm
  ·exact hn
  ·exact k2 m hm
theorem Ada {a b:Int} (ha:0≤a∧a≤255) (hb:0≤b∧b≤255):(UInt8.ofNat a.toNat==b.toNat.toUInt8)=decide (a=b):=by
 obtain⟨m,rfl⟩:∃m:Nat,a=m:=⟨a.toNat,by omega⟩
 obtain⟨n,rfl⟩:∃n:Nat,b=n:=⟨b.toNat,by omega⟩
 by_cases h:(m:Int)=n
 ·rw[h];simp
 ·rw[decide_eq_false h]
  have h2:m≠n:=by omega
  simp only[Int.toNat_natCast,beq_eq_false_iff_ne,ne_eq]
  intro hh
  have:=congrArg UInt8.toNat hh
  simp only[UInt8.toNat_ofNat',Nat.toUInt8] at this
  omega
theorem AeS {c:Int} (hc:0≤c∧c≤255):∀(l:List Int) (i:Int),0≤i→(∀n∈l,0≤n∧n≤255)→Ie l c i=if Lib.indexByte (Lib.bytesOf l) c.toNat.toUInt8 = -1 then -1 else Lib.indexByte (Lib.bytesOf l) c.toNat.toUInt8+i:=by
 intro l
 induction l with
 |nil=>intro i _ _;rfl
 |cons a l ih =>
  intro i hi h
  have ha:=h a (List.mem_cons_self ..)
  have hl:=ih (i+1) (by omega) fun n hn=>h n (List.mem_cons_of_mem _ hn)
  have ge:=Lib.indexByte_ge (Lib.bytesOf l) c.toNat.toUInt8
  unfold Ie
  rw[show Lib.bytesOf (a::l)=UInt8.ofNat a.toNat::Lib.bytesOf l from rfl,Lib.indexByte,Ada ha hc]
  by_cases e:a=c
  ·rw[if_pos e,decide_eq_true e,if_pos rfl,if_neg (by decide)];omega
  ·rw[if_neg e,decide_eq_false e,hl]
   simp only[Bool.false_eq_true,if_false,beq_iff_eq]
   split
   ·rw[if_pos rfl]
   ·rw[if_neg (by omega)];omega
theorem Aen (w:World) (p:Option Addr) (cap:Nat) (xs:List Int) (c:Int) (hp:xs.length=0∨∃a,p=some a∧∀j x,xs[j]?=some x→w.cell? (a.add j)=some (.int .u8 x)) :
 (Extern.BytealgIndexByte.indexByte #[.slice p xs.length cap,.int .u8 c]).run Tryz.prog w=.ok (.int .i64 (Lib.indexByte (Lib.bytesOf xs) c.toNat.toUInt8)) w:=by
 have h:p=none∧xs=[]∨∃a,p=some a∧∀j x,xs[j]?=some x→w.cell? (a.add j)=some (.int .u8 x):=by
  rcases hp with h0|h
  ·have:=List.eq_nil_of_length_eq_zero h0
   subst this
   cases p with
   |none=>exact .inl ⟨rfl,rfl⟩
   |some a=>exact .inr ⟨a,rfl,fun j x hj=>by simp at hj⟩
  ·exact .inr h
 rcases h with ⟨rfl,rfl⟩|⟨a,rfl,h⟩
 ·exact Lib.run_indexByteNil w 0 cap c
 ·have hl:=Lib.run_loadBytesX (P:=Tryz.prog) w xs a .empty h
  have hs:=Lib.run_indexByteString (P:=Tryz.prog) ⟨(Lib.bytesOf xs).toArray⟩ c w
  have he:(⟨ByteArray.empty.data++(Lib.bytesOf xs).toArray⟩:ByteArray)=⟨(Lib.bytesOf xs).toArray⟩:=by
   apply ByteArray.ext
   show (#[]:Array UInt8)++(Lib.bytesOf xs).toArray=(Lib.bytesOf xs).toArray
   simp
  rw[he] at hl
  change Sem.run Tryz.prog (do
   let b ←Extern.Bytes.bytesOf (.slice (some a) xs.length cap)
   let c ←Extern.Bytes.asByte (.int .u8 c)
   match (List.range b.size).find? fun i=>b[i]! == c with
   |some i=>pure (goInt i)
   |none=>pure (goInt (-1))) w = _
  change Sem.run Tryz.prog (do
   let b ←Extern.Bytes.bytesOf (.string ⟨(Lib.bytesOf xs).toArray⟩)
   let c ←Extern.Bytes.asByte (.int .u8 c)
   match (List.range b.size).find? fun i=>b[i]! == c with
   |some i=>pure (goInt i)
   |none=>pure (goInt (-1))) w = _ at hs
  simp only[Extern.Bytes.bytesOf,Sem.run_bind,Sem.run_pure,hl,Result.andThen] at hs ⊢
  exact hs
set_option maxHeartbeats 1000000 in
set_option maxRecDepth 100000 in
theorem Adb (w:World) (p:Option Addr) (cap:Nat) (xs:List Int) (c:Int) (hp:xs.length=0∨∃a,p=some a∧∀j x,xs[j]?=some x→w.cell? (a.add j)=some (.int .u8 x)) :
 Calls Tryz.prog 106 #[.slice p xs.length cap,.int .u8 c] w fun e w'=>e=.returned (.int .i64 (Lib.indexByte (Lib.bytesOf xs) c.toNat.toUInt8))∧w'=w:=by
 have hr:=Aen w p cap xs c hp
 go_enter Tryz.func106,Tryz.ntmps106
 go_wp2
 rw[run_callFunc_extern Tryz.func159 (by kernel_rfl) (by kernel_rfl) (by kernel_rfl) (e:=Extern.BytealgIndexByte.indexByte) (by kernel_rfl),hr]
 simp only[Result.andThen]
 rw[Oper.upon_value]
 go_wp2
 go_ret
 exact ⟨rfl,rfl⟩
theorem AeT {c:Int}:∀(l:List Int) (i:Int),0≤i→-1≤Ie l c i∧Ie l c i≤i+l.length:=by
 intro l
 induction l with
 |nil=>intro i _;unfold Ie;simp;omega
 |cons a l ih =>
  intro i hi
  have:=ih (i+1) (by omega)
  unfold Ie
  rw[List.length_cons]
  split<;>omega
theorem AbP (w:World) (F:Nat→Prop) (vals:List Value) (l:List Int) (c:Int) (hr:BU w F [U8s,U8] (l,c) vals) :
 Calls Tryz.prog 106 vals.toArray w fun e w'=>∃rs,e=.returned (CQ rs)∧Below w.heap.size w w'∧FV w.heap.size w' F false [I64] (Ie l c 0) rs:=by
 obtain⟨us,vs',hus,rfl,us2,hus2,rfl⟩:=hr
 obtain⟨rfl,hc⟩:=(show us2=[.int .u8 c]∧inR .u8 c=true from hus2)
 obtain⟨a,cap,rfl,hl,hm,hrow⟩:=hus
 have hcc:0≤c∧c≤255:=by
  unfold inR at hc
  have e3:IntKind.u8.min≤c∧c≤IntKind.u8.max:=by simpa only[Bool.and_eq_true,decide_eq_true_eq] using hc
  exact e3
 have hin:=AeT (c:=c) l 0 (by omega)
 have hle:List.length l≤maxLen:=Nat.le_trans hl hm
 have hp:l.length=0∨∃p,a=some p∧∀j x,l[j]?=some x→w.cell? (p.add j)=some (.int .u8 x):=by
  rcases hrow with h0|⟨b,off,cells,rfl,_,hb,hat,hrw⟩
  ·exact .inl h0
  ·refine .inr ⟨_,rfl,fun j x hj=>?_⟩
   obtain⟨h1,_⟩:=Zz hrw
   have:=hat j (.int .u8 x) (by rw[h1,List.getElem?_map,hj];rfl)
   rw[←this]
   by_cases hj0:j=0<;>simp[Addr.add,hj0]
 have hb:∀n∈l,0≤n∧n≤255:=by
  rcases hrow with h0|⟨b,off,cells,rfl,_,hb,hat,hrw⟩
  ·have:l=[]:=List.eq_nil_of_length_eq_zero h0
   intro n hn;rw[this] at hn;cases hn
  ·exact (Zz hrw).2
 refine (Adb w a cap l c hp).mono fun e w' ⟨he,hw⟩=>?_
 subst hw
 refine ⟨[.int .i64 (Ie l c 0)],?_,Below.refl _ _,?_⟩
 ·rw[he,AeS hcc l 0 (by omega) hb]
  congr 2
  split
  ·rename_i e1;rw[e1]
  ·simp
 ·refine ⟨[.int .i64 (Ie l c 0)],⟨rfl,?_⟩,rfl⟩
  unfold inR
  simp only[Bool.and_eq_true,decide_eq_true_eq]
  unfold maxLen at hle
  show (-9223372036854775808:Int)≤Ie l c 0∧Ie l c 0≤9223372036854775807
  omega
theorem UZ:Ao Tryz.prog V 106 (spT [U8s,U8] [I64] bytes_IndexByte) where
 enters:=fun args w=>by
  have h:FnOK Tryz.prog 106 (Ak Tryz.f106 {}):=As Tryz.func106 (by kernel_rfl) (by kernel_rfl) (by kernel_rfl)
  exact h.enters args w
 tot:=fun g hg x=>by cases hg;rfl
 calls:=fun w F vals x y _ _ hr hy=>by
  cases hy
  exact AbP w F vals x.1 x.2 hr
theorem Yl:Ao Tryz.prog V 108 (spP [Aj,Cj] [Bo] DS):=Aq (.cons XZ (.cons NJ (.cons Vq .nil))) stays Az (As (hs:={loops:=[(0,[.slot 29 I64])]}) Tryz.func108) false fun x=>by kernel_rfl
theorem Yi:Ao Tryz.prog V 109 (spP [Aj,Cj] [Bo] DR):=Aq (.cons NJ .nil) stays Az (As (hs:={loops:=[(0,[.slot 30 I64])]}) Tryz.func109) false fun x=>by kernel_rfl
theorem qR:Ao Tryz.prog V 65 (spP [Aj,Cj] [Bo] IE):=Aq (.cons PB (.cons NJ (.cons pD (.cons Rg (.cons iZ (.cons UZ (.cons site_Plan_m (.cons Tg (.cons Yl (.cons Yi .nil)))))))))) stays Az (As (hs:={}) Tryz.func65) false fun x=>by kernel_rfl
theorem dQ:Ao Tryz.prog V 31 (spP [Aj,Cj] [I64] Iq):=Aq (.cons CB (.cons qR .nil)) stays Az (As (hs:={}) Tryz.func31) false fun x=>by kernel_rfl
theorem jJ:Ao Tryz.prog V 11 (spP [Aj,Cj,RW] [Cj,U8s,U8s,I64] Gx):=Gy (.cons dQ (.cons Vs .nil)) (.cons MG .nil) stays Az .nil (As (hs:={}) Tryz.func11) false 1 fun x=>by kernel_rfl
theorem Ya:Ao Tryz.prog V 22 (spP [U8s] [Ix,I64] FI):=Gy (.cons Rl (.cons JZ .nil)) (.cons Md .nil) stays Az .nil (As (hs:={loops:=[(0,[.slot 24 I64,.fbox 6 Ix [3],.box 11 FJ])]}) Tryz.func22) false 1 fun x=>by kernel_rfl
theorem Xc:Ao Tryz.prog V 5 (spP [Aj,AL,GK] [Bo] GD):=Aq (.cons sF (.cons yH (.cons Rp (.cons jJ (.cons Sz (.cons Ya .nil)))))) stays Az (As (hs:={loops:=[(0,[.slot 10 U32,.slot 11 I64,.box 8 Cj]),(2,[.slot 21 I64])]}) Tryz.func5) false fun x=>by kernel_rfl
end Go.Proofs.YtmmkfcpdfnjgjaaGreatDoor
namespace Go.Proofs.YtmmkfcpdfnjgjaaGreatDoor
open Go.Den Go.RowKit Go.ChangeShapes
theorem OA {H:Type} {enc:TypeId×Value→H} {P:Program} {w:World} {base:Nat} {sp:Nat→Bool} {held:Bool} {t e:TypeId} {n:Nat} {k:IntKind} (ht:P.underlying t=some (.array n e)) (he:P.underlying e=some (.int k)) (hc:P.cellsOf e=1) (hct:P.cellsOf t=n) {fuel:Nat} {cs:List Value} {ns:List Int} {p:List MemPlace}
 (h:DataW.trod enc P w base sp held fuel t cs=some (.agg (ns.map fun m=>.lit (.int k m)),p)):cs=ns.map fun m=>.int k m:=by
 cases fuel with
 |zero=>simp[DataW.trod] at h
 |succ fuel =>
  unfold DataW.trod at h
  rw[ht] at h
  simp only at h
  split at h
  ·rename_i hl
   rw[hct] at hl
   simp only[Option.map_eq_some_iff] at h
   obtain⟨xs,hx,hd⟩:=h
   have hd1:xs.map (·.1)=ns.map fun m=>.lit (.int k m):=by
    have:=congrArg Prod.fst hd
    simpa using this
   have hlen:xs.length=n:=by simpa using mapM_some_length hx
   have hnl:ns.length=n:=by
    have:=congrArg List.length hd1
    simpa[hlen] using this.symm
   apply List.ext_getElem
   ·simp[hl,hnl]
   ·intro i h1 h2
    have hi:i<n:=by omega
    have hg:=mapM_some_get hx i i (by simp[hi])
    rw[hc] at hg
    have hxi:xs[i]?=some xs[i]:=by simp[hlen,hi]
    rw[hxi] at hg
    obtain⟨m,e1,e2,_⟩:=DataW.trod_int he hg
    have e3:(cs.drop (i*1)).take 1=[cs[i]]:=by
     rw[Nat.mul_one,List.drop_eq_getElem_cons h1];rfl
    rw[e3] at e1
    have e4:cs[i]=.int k m:=by simpa using e1
    have e5:(xs.map (·.1))[i]?=some (.lit (.int k m)):=by
     simp[hxi,e2]
    rw[hd1] at e5
    have e6:ns[i]?=some ns[i]:=by simp[hnl,hi]
    rw[List.getElem?_map,e6] at e5
    simp only[Option.map_some,Option.some.injEq,DataW.lit.injEq,Lit.int.injEq,true_and] at e5
    rw[e4,List.getElem_map,e5]
  ·cases h
def tab:List Int:=Lib.deBruijn32tab.map fun (n:Nat)=>(n:Int)
def tab64:List Int:=Lib.deBruijn64tab.map fun (n:Nat)=>(n:Int)
theorem yU {W:World} (h:laidMet Tryz.prog Rows.topRightRow.laid W):V W:=by
 obtain⟨ps,⟨g,t,cs,fuel,p,q,h1,h2,h3,h4,⟨g',t',cs',fuel',p',q',k1,k2,k3,k4,_,hps'⟩,hps⟩,_,hz⟩:=h
 have hg:g=1:=Option.some.inj (h1.symm.trans (show _ = some 1 by kernel_rfl))
 subst hg
 have ht:t=295:=Option.some.inj (h2.symm.trans (show (Tryz.prog.globals[1]?).map (·.type)=some 295 by kernel_rfl))
 subst ht
 have hg':g'=2:=Option.some.inj (k1.symm.trans (show _ = some 2 by kernel_rfl))
 subst hg'
 have ht':t'=315:=Option.some.inj (k2.symm.trans (show (Tryz.prog.globals[2]?).map (·.type)=some 315 by kernel_rfl))
 subst ht'
 have hc:cs.toList=tab.map fun m=>.int .u8 m:=OA (n:=32) (e:=5) (k:=.u8) (by kernel_rfl) (by kernel_rfl) (by kernel_rfl) (by kernel_rfl) h4
 have hc':cs'.toList=tab64.map fun m=>.int .u8 m:=OA (n:=64) (e:=5) (k:=.u8) (by kernel_rfl) (by kernel_rfl) (by kernel_rfl) (by kernel_rfl) k4
 have hsz:cs.size=32:=by
  have:=congrArg List.length hc
  simpa[tab,Lib.deBruijn32tab] using this
 have hsz':cs'.size=64:=by
  have:=congrArg List.length hc'
  simpa[tab64,Lib.deBruijn64tab] using this
 obtain⟨⟨c,ty,hc1⟩,_⟩:=hz 1 0 (by
  rw[hps,hsz]
  simp[MemPlace.row])
 obtain⟨⟨c',ty',hc1'⟩,_⟩:=hz 2 0 (by
  rw[hps,hps',hsz']
  simp[MemPlace.row])
 have hv:=h3
 unfold World.var? at hv
 rw[h1] at hv
 simp only[Option.bind_some,hc1,Option.some.injEq] at hv
 subst hv
 have hv':=k3
 unfold World.var? at hv'
 rw[k1] at hv'
 simp only[Option.bind_some,hc1',Option.some.injEq] at hv'
 subst hv'
 exact ⟨⟨c',ty',hc1',by rw[hc'];simp[tab64]⟩,c,ty,hc1,by rw[hc];simp[tab]⟩
noncomputable def aZ (os:Os):World :=
 let w0:=World.holding Tryz.prog os ⟨#[],#[],[]⟩
 {w0 with heap:=(w0.heap.modify 1 fun
   |.cells _ t frozen=>.cells (tab.map fun m=>Value.int .u8 m).toArray t frozen
   |o=>o).modify 2 fun
   |.cells _ t frozen=>.cells (tab64.map fun m=>Value.int .u8 m).toArray t frozen
   |o=>o}
theorem dJ (os:Os) (args:Array Value):laidMetH Tryz.prog Rows.topRightRow.laid ((aZ os).forCall (fun _ _=>0) ⟨#[],args,[]⟩).memory :=
 laidMet_of_run' 8 (by kernel_rfl) (by kernel_rfl)
end Go.Proofs.YtmmkfcpdfnjgjaaGreatDoor
