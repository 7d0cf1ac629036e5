/- Part of a proof: plain readings of Go functions, their contracts, or plain facts of them. -/
import Derived.Test.YtmmkfcpdfnjgjaaGreatDoorTp1
namespace Go.Proofs.YtmmkfcpdfnjgjaaGreatDoor
open Go.Den
theorem C0 (a b c:Int):Bm (a,(b,c))=true↔b≤a∧a≤c:=by
 unfold Bm;simp
structure BZ (x:Ae):Prop where
 id:-9223372036854775808≤x.1∧x.1≤9223372036854775807
 g:x.2.1.length≤maxLen
 gs:∀g∈x.2.1,(0≤g.1∧g.1≤255)∧(-9223372036854775808≤g.2.1∧g.2.1≤9223372036854775807)∧(-9223372036854775808≤g.2.2∧g.2.2≤9223372036854775807)
 a:x.2.2.1.length≤maxLen
 as:∀s∈x.2.2.1,Ax s
 b:x.2.2.2.1.length≤maxLen
 bs:∀r∈x.2.2.2.1,r.length≤maxLen∧∀m∈r,-9223372036854775808≤m∧m≤9223372036854775807
 p:x.2.2.2.2.1.length≤maxLen
 ps:∀p∈x.2.2.2.2.1,Ax p.1∧(-9223372036854775808≤p.2.1∧p.2.1≤9223372036854775807)
 e:x.2.2.2.2.2.1.length≤maxLen
 q:x.2.2.2.2.2.2.2.2.2.2.2.length≤maxLen
 qs:∀p∈x.2.2.2.2.2.2.2.2.2.2.2,(-9223372036854775808≤p.1∧p.1≤9223372036854775807)∧p.2.2.length≤maxLen∧∀m∈p.2.2,-9223372036854775808≤m∧m≤9223372036854775807
theorem Ae2 {x:Ae} (h:Fits Aj x):BZ x:=by
 obtain⟨h1,⟨h2,h2'⟩,⟨h3,h3'⟩,⟨h4,h4'⟩,⟨h5,h5'⟩,⟨h6,_⟩,_,_,_,_,_,⟨h7,h7'⟩⟩:=h
 exact ⟨h1,h2,fun g hg=>h2' g hg,h3,fun s hs=>h3' s hs,h4,fun r hr=>⟨(h4' r hr).1,fun m hm=>(h4' r hr).2 m hm⟩,h5,fun p hp=>⟨(h5' p hp).1,(h5' p hp).2.1⟩,h6,h7,
  fun p hp=>⟨(h7' p hp).1,(h7' p hp).2.2.1,fun m hm=>(h7' p hp).2.2.2 m hm⟩⟩
structure ShapeOK (x:Ae):Prop where
 n1:1≤Aa x.2.1
 n2:Aa x.2.1≤16
 a:Aa x.2.2.1=Aa x.2.1
 b:Aa x.2.2.2.1=Aa x.2.1
 p1:1≤Aa x.2.2.2.2.1
 p2:Aa x.2.2.2.2.1≤8
 e:Aa x.2.2.2.2.2.1≤24
 q:Aa x.2.2.2.2.2.2.2.2.2.2.2≤8
 rows:∀i r,idx x.2.2.2.1 i=some r→Aa r=Aa x.2.1
 aps:∀i s,idx x.2.2.1 i=some s→Av .u32 s (Aa x.2.1)=0
theorem AdJ {x:Ae} (hx:BZ x):∃b,HQ x=some b∧(b=true↔ShapeOK x):=by
 unfold HQ
 simp only[Ay]
 rw[AS]
 split
 ·rename_i h
  refine ⟨false,rfl,fun hh=>(by cases hh),fun hh=>?_⟩
  exfalso
  have i1:=(C0 (Aa x.2.1) 1 16).2 ⟨hh.n1,hh.n2⟩
  have i2:=(C0 (Aa x.2.2.2.2.1) 1 8).2 ⟨hh.p1,hh.p2⟩
  have:=hh.e;have:=hh.q
  simp[i1,i2,hh.a,hh.b] at h
  omega
 ·rename_i h
  simp only[Bool.or_eq_true,Bool.not_eq_true',decide_eq_true_eq,beq_eq_false_iff_ne,not_or,Bool.not_eq_false,ne_eq,Int.not_lt,Decidable.not_not] at h
  obtain⟨⟨⟨⟨⟨g1,g2⟩,g3⟩,g4⟩,g5⟩,g6⟩:=h
  have g1:=(C0 _ _ _).1 g1
  have g4:=(C0 _ _ _).1 g4
  obtain⟨b,h1,h2⟩:=L9 (A:=Option Bool) (l:=x.2.2.2.1) (bad:=none) (no:=some false) (yes:=some true) (f:=fun x1 =>
(cnd (decide (x1<(Aa x.2.2.2.1)))
(Ad (idx x.2.2.2.1 x1) (.done none) (fun x2 =>
(cnd (!((Aa x2)==(Aa x.2.1)))
(.done (some false))
(Ad (idx x.2.2.1 x1) (.done none) (fun x3 =>
(cnd (decide (0≤(Aa x.2.1)))
(cnd (!((Av Go.IntKind.u32 x3 (Aa x.2.1))==0))
(.done (some false))
(.next (wr .i64 (x1+1))))
(.done none)))))))
(.done (some true)))) (fun i r=>Aa r=Aa x.2.1∧∀s,idx x.2.2.1 i=some s→Av .u32 s (Aa x.2.1)=0) hx.b (fun i r h0 h1 hr=>by
   obtain⟨s,hs,_⟩:=Au (l:=x.2.2.1) h0 (by omega)
   have hp:decide (0≤Aa x.2.1)=true:=by simp;exact Ap _
   simp only[h1,decide_true,cnd,hi2_eq,hr,Ad,hs,hp]
   by_cases e1:Aa r=Aa x.2.1
   ·by_cases e2:Av .u32 s (Aa x.2.1)=0
    ·exact .inl ⟨⟨e1,fun s' hs'=>by cases hs';exact e2⟩,by simp only[beq_iff_eq.2 e1,beq_iff_eq.2 e2,Bool.not_true]⟩
    ·exact .inr ⟨fun hh=>e2 (hh.2 s rfl),by simp only[beq_iff_eq.2 e1,beq_false_of_ne e2,Bool.not_true,Bool.not_false]⟩
   ·exact .inr ⟨fun hh=>e1 hh.1,by simp only[beq_false_of_ne e1,Bool.not_false]⟩) (fun i hi=>by simp[hi,cnd,hi2_eq])
  rw[h1]
  refine ⟨b,by cases b<;>rfl,h2.trans ⟨fun hh=>⟨g1.1,g1.2,by simpa using g2,by simpa using g3,g4.1,g4.2,g5,g6,fun i r hr=>(hh i r hr).1,fun i s hs=>?_⟩,fun hh i r hr=>⟨hh.rows i r hr,fun s hs=>hh.aps i s hs⟩⟩⟩
  obtain⟨i0,i1,_⟩:=An hs
  obtain⟨r,hr,_⟩:=Au (l:=x.2.2.2.1) i0 (by
   have g2':Aa x.2.2.1=Aa x.2.1:=by simpa using g2
   have g3':Aa x.2.2.2.1=Aa x.2.1:=by simpa using g3
   omega)
  exact (hh i r hr).2 s hs
theorem O3 {i:Int} (h0:0≤i) (h1:i≤31):Dg i=((2 ^ i.toNat:Nat):Int):=by
 unfold Dg
 rw[AS,if_neg (by simp;omega),xT h0 h1]
theorem LV {s i:Int} (hs:Ax s):DQ (s,i)=AD s i:=by
 unfold DQ
 simp only[Ay]
 by_cases h:0≤i∧i≤31
 ·rw[O3 h.1 h.2]
  have hp:=Is h.1 h.2
  apply Bool.eq_iff_iff.2
  rw[Bool.not_eq_true',beq_eq_false_iff_ne]
  constructor
  ·intro hne
   cases hb:AD s i with
   |true=>rfl
   |false =>
    exfalso;apply hne
    refine UF (fH hs hp) ⟨by decide,by decide⟩ fun j _ _=>?_
    rw[Pj hs hp,Lm h.1,FK]
    by_cases e:i=j
    ·subst e;simp[hb]
    ·simp[e]
  ·intro hb he
   have:=Pj hs hp i
   rw[he,FK,hb,Lm h.1] at this
   simp at this
 ·have hz:Dg i=0:=by
   unfold Dg
   rw[AS,if_pos (by simp;omega)]
  rw[hz]
  have:Ai .and .u32 s 0=0:=by
   refine UF (fH hs ⟨by decide,by decide⟩) ⟨by decide,by decide⟩ fun j _ _=>?_
   rw[Pj hs ⟨by decide,by decide⟩,FK];simp
  rw[this]
  by_cases h2:i<0
  ·rw[Zk h2];rfl
  ·rw[Qb hs (by omega)];rfl
theorem Rw {x:Int} (h:x≠0):F3 x=low x:=by
 unfold F3
 rw[AS,if_neg (by simpa using h)]
 rfl
theorem KQ {x k:Int} (h0:0≤k) (h1:k≤31):B6 (x,k)=clr x k:=by
 unfold B6 clr
 simp only[Ay]
 rw[O3 h0 h1]
structure Y3 (x:Ae) (a:Int) (g:Co):Prop where
 kind:g.1=1∨g.1=2
 min:1≤g.2.1∧g.2.1≤1048576
 yellow:1≤g.2.2∧g.2.2≤1048576
 row:∀r sa b m sb,idx x.2.2.2.1 a=some r→idx x.2.2.1 a=some sa→idx r b=some m→idx x.2.2.1 b=some sb →
  AD sa b=AD sb a∧(AD sa b=true→a≠b∧g.2.2≤m∧m≤1048576)∧(AD sa b=false→m=0)
def Jj (x:Ae):Prop:=∀a g,idx x.2.1 a=some g→Y3 x a g
theorem YS (a b:Int):Bn (a::(b::[]))=true↔(1≤a∧a≤1048576)∧(1≤b∧b≤1048576):=by
 unfold Bn;simp
theorem AcN {x:Ae} (hx:BZ x) (hs:ShapeOK x):∃b,HP x=some b∧(b=true↔Jj x):=by
 unfold HP
 obtain⟨b,h1,h2⟩:=L9 (A:=Option Bool) (l:=x.2.1) (bad:=none) (no:=some false) (yes:=some true) (f:=fun x1 =>
(cnd (decide (x1<(Aa x.2.1)))
(Ad (idx x.2.1 x1) (.done none) (fun x2 =>
(cnd (((!(x2.1==1))&&(!(x2.1==2)))||(!(Bn (x2.2.1::(x2.2.2::[])))))
(.done (some false))
(Ad (idx x.2.2.2.1 x1) (.done none) (fun x3 =>
(iter (.done none) (fun x4 =>
(cnd (decide (x4<(Aa x3)))
(Ad (idx x3 x4) (.done (.done none)) (fun x5 =>
(Ad (idx x.2.2.1 x1) (.done (.done none)) (fun x6 =>
(Ay (DQ (x6,x4)) (fun y =>
(Ad (idx x.2.2.1 x4) (.done (.done none)) (fun x7 =>
(Ay (DQ (x7,x1)) (fun y1 =>
(cnd (!(y==y1))
(.done (.done (some false)))
(cnd (y&&(x1==x4))
(.done (.done (some false)))
(cnd (y&&(!(Bm (x5,(x2.2.2,1048576)))))
(.done (.done (some false)))
(cnd ((!y)&&(!(x5==0)))
(.done (.done (some false)))
(.next (wr .i64 (x4+1)))))))))))))))))
(.done (.next (wr .i64 (x1+1)))))) AA 0))))))
(.done (some true)))) (Y3 x) hx.g (fun a g h0 ha hg=>by
  obtain⟨r,hr,hrm⟩:=Au (l:=x.2.2.2.1) h0 (by rw[hs.b];exact ha)
  obtain⟨sa,hsa,hsam⟩:=Au (l:=x.2.2.1) h0 (by rw[hs.a];exact ha)
  have hrl:=hs.rows a r hr
  simp only[ha,decide_true,AP,hg,A4,hr]
  by_cases hk:(((!(g.1==1))&&(!(g.1==2)))||(!(Bn (g.2.1::(g.2.2::[])))))=true
  ·refine .inr ⟨fun hh=>?_,by simp only[hk,AP]⟩
   have ht:=(YS g.2.1 g.2.2).2 ⟨hh.min,hh.yellow⟩
   have:=hh.kind
   simp[ht] at hk
   omega
  ·have hk':=Bool.eq_false_iff.2 hk
   simp only[hk',AR]
   simp only[Bool.or_eq_false_iff,Bool.and_eq_false_iff,Bool.not_eq_false',beq_iff_eq] at hk'
   obtain⟨k1,k2⟩:=hk'
   have k2:=(YS _ _).1 k2
   obtain⟨b,b1,b2⟩:=L9 (A:=Step Int (Option Bool)) (l:=r) (bad:=.done none) (no:=.done (some false)) (yes:=.next (wr .i64 (a+1))) (f:=fun x4 =>
    (cnd (decide (x4<(Aa r)))
    (Ad (idx r x4) (.done (.done none)) (fun x5 =>
    (Ad (idx x.2.2.1 a) (.done (.done none)) (fun x6 =>
    (Ay (DQ (x6,x4)) (fun y =>
    (Ad (idx x.2.2.1 x4) (.done (.done none)) (fun x7 =>
    (Ay (DQ (x7,a)) (fun y1 =>
    (cnd (!(y==y1))
    (.done (.done (some false)))
    (cnd (y&&(a==x4))
    (.done (.done (some false)))
    (cnd (y&&(!(Bm (x5,(g.2.2,1048576)))))
    (.done (.done (some false)))
    (cnd ((!y)&&(!(x5==0)))
    (.done (.done (some false)))
    (.next (wr .i64 (x4+1)))))))))))))))))
    (.done (.next (wr .i64 (a+1)))))) (fun b m=>∀sb,idx x.2.2.1 b=some sb→AD sa b=AD sb a∧(AD sa b=true→a≠b∧g.2.2≤m∧m≤1048576)∧(AD sa b=false→m=0)) (hx.bs r hrm).1 (fun b m h0' hb hm=>by
      obtain⟨sb,hsb,hsbm⟩:=Au (l:=x.2.2.1) h0' (by rw[hs.a,←hrl];exact hb)
      simp only[hb,decide_true,AP,hm,A4,hsa,Ay,hsb,LV (hx.as sa hsam),LV (hx.as sb hsbm)]
      have only:∀ {p:Prop},(∀sb',some sb=some sb'→AD sa b=AD sb' a∧p)↔(AD sa b=AD sb a∧p):=fun {p}=>⟨fun h=>h sb rfl,fun h sb' e=>by cases e;exact h⟩
      rw[only]
      by_cases e1:AD sa b=AD sb a
      ·simp only[beq_iff_eq.2 e1,Bool.not_true]
       cases hbit:AD sa b with
       |true =>
        by_cases e2:a=b
        ·refine .inr ⟨fun hh=>(hh.2.1 rfl).1 e2,by simp only[AP,AR,beq_iff_eq.2 e2,Bool.and_self]⟩
        ·by_cases e3:Bm (m,(g.2.2,1048576))=true
         ·have e3':=(C0 _ _ _).1 e3
          exact .inl ⟨⟨by rw[←e1,hbit],fun _=>⟨e2,e3'⟩,fun h=>(by cases h)⟩,by simp only[AR,beq_false_of_ne e2,e3,Bool.and_false,Bool.not_true,Bool.false_and]⟩
         ·have e3':=Bool.eq_false_iff.2 e3
          exact .inr ⟨fun hh=>e3 ((C0 _ _ _).2 (hh.2.1 rfl).2),by simp only[AP,AR,beq_false_of_ne e2,e3',Bool.and_false,Bool.not_false,Bool.and_self]⟩
       |false =>
        by_cases e4:m=0
        ·exact .inl ⟨⟨by rw[←e1,hbit],fun h=>(by cases h),fun _=>e4⟩,by simp only[AR,beq_iff_eq.2 e4,Bool.false_and,Bool.not_true,Bool.and_false]⟩
        ·exact .inr ⟨fun hh=>e4 (hh.2.2 rfl),by simp only[AP,AR,beq_false_of_ne e4,Bool.false_and,Bool.not_false,Bool.and_self]⟩
      ·exact .inr ⟨fun hh=>e1 hh.1,by simp only[AP,beq_false_of_ne e1,Bool.not_false]⟩) (fun b hb=>by simp[hb,cnd,hi2_eq])
   have hgood:Y3 x a g↔b=true:=by
    rw[b2]
    constructor
    ·intro hh b m hm sb hsb
     exact hh.row r sa b m sb hr hsa hm hsb
    ·intro hh
     refine ⟨by omega,k2.1,k2.2,fun r' sa' b m sb e1 e2 e3 e4=>?_⟩
     rw[hr] at e1;cases e1
     rw[hsa] at e2;cases e2
     exact hh b m e3 sb e4
   rw[b1]
   cases hbb:b with
   |true=>exact .inl ⟨hgood.2 hbb,rfl⟩
   |false=>exact .inr ⟨fun hh=>(by rw[hgood.1 hh] at hbb;cases hbb),rfl⟩) (fun i hi=>by simp[hi,cnd,hi2_eq])
 rw[h1]
 exact ⟨b,by cases b<;>rfl,h2⟩
structure Uy (x:Ae) (p:Jl):Prop where
 ne:p.1≠0
 hi:Av .u32 p.1 (Aa x.2.1)=0
 min:1≤p.2.1∧p.2.1≤1048576
 max:1≤p.2.2.1∧p.2.2.1≤1048576
 gap:1≤p.2.2.2.1∧p.2.2.2.1≤1048576
 le:p.2.1≤p.2.2.1
 bits:∀a,AD p.1 a=true→∀g s,idx x.2.1 a=some g→idx x.2.2.1 a=some s→g.2.1≤p.2.1∧Ai .and .u32 s p.1=0
def Acw (x:Ae):Int:=x.2.2.2.2.1.foldl (fun s p=>Ai .or .u32 s p.1) 0
def H6 (x:Ae):Prop:=(∀k p,idx x.2.2.2.2.1 k=some p→Uy x p)∧G9 (Acw x)=Aa x.2.1
theorem Aa5 (a b c:Int):Bn (a::(b::(c::[])))=true↔(1≤a∧a≤1048576)∧(1≤b∧b≤1048576)∧(1≤c∧c≤1048576):=by
 unfold Bn;simp
theorem R9 {x:Ae} (hs:ShapeOK x) {s:Int} (hu:Ax s) (h:Av .u32 s (Aa x.2.1)=0) {k:Int} (hk:AD s k=true):0≤k∧k<Aa x.2.1:=by
 have h2:=(W8 hu (Ap x.2.1) (by have:=hs.n2;omega)).1 h k
 refine ⟨?_,?_⟩
 ·apply Int.not_lt.1
  intro hn
  rw[Zk hn] at hk;cases hk
 ·apply Int.not_le.1
  intro hn
  rw[h2 hn] at hk;cases hk
theorem Ab3 {x:Ae} (hx:BZ x) (hs:ShapeOK x):∃b,GR x=some b∧(b=true↔H6 x):=by
 unfold GR
 refine Aab (l:=x.2.2.2.2.1) (fun a:Option Bool=>∃b,a=some b∧(b=true↔H6 x)) (fun _ p=>Uy x p) (fun s p=>Ai .or .u32 s p.1) Ax (fun s=>Ay (G9 s) (fun y=>(some (y==(Aa x.2.1))))) (some false) ⟨by decide,by decide⟩ hx.p (fun s i p hI h0 hi hp=>?_) (fun s i hI hi=>by simp[hi,cnd,hi2_eq]) (fun h=>⟨_,rfl,?_⟩) (fun h=>⟨false,rfl,fun hh=>(by cases hh),fun hh=>absurd hh.1 h⟩)
 ·obtain⟨pu,pm⟩:=hx.ps p (An hp).2.2
  simp only[hi,decide_true,AP,hp,A4]
  by_cases h1:p.1=0
  ·exact .inr ⟨fun hh=>hh.ne h1,by simp only[beq_iff_eq.2 h1,AP]⟩
  simp only[beq_false_of_ne h1,AR]
  have hp0:decide (0≤Aa x.2.1)=true:=by simp;exact Ap _
  simp only[hp0,AP]
  by_cases h2:(((!((Av Go.IntKind.u32 p.1 (Aa x.2.1))==0))||(!(Bn (p.2.1::(p.2.2.1::(p.2.2.2.1::[]))))))||(decide (p.2.2.1<p.2.1)))=true
  ·refine .inr ⟨fun hh=>?_,by simp only[h2,AP]⟩
   have t:=(Aa5 p.2.1 p.2.2.1 p.2.2.2.1).2 ⟨hh.min,hh.max,hh.gap⟩
   have:=hh.le
   simp[t,hh.hi] at h2
   omega
  ·have h2':=Bool.eq_false_iff.2 h2
   simp only[h2',AR]
   simp only[Bool.or_eq_false_iff,Bool.not_eq_false',beq_iff_eq,decide_eq_false_iff_not] at h2'
   obtain⟨⟨k1,k2⟩,k3⟩:=h2'
   have k2:=(Aa5 _ _ _).1 k2
   refine wH (fun a:Step (Int×Int) (Option Bool)=>(Uy x p∧a=.next (Ai .or .u32 s p.1,wr .i64 (i+1))∧Ax (Ai .or .u32 s p.1))∨(¬Uy x p∧a=.done (some false)))
    (fun k=>∀g s,idx x.2.1 k=some g→idx x.2.2.1 k=some s→g.2.1≤p.2.1∧Ai .and .u32 s p.1=0) (.done (some false)) (.next (Ai .or .u32 s p.1,wr .i64 (i+1))) pu (fun y yu yz ys l0 l1 lb=>?_) (by simp[cnd,hi2_eq]) (fun h=>.inl ⟨⟨h1,k1,k2.1,k2.2.1,k2.2.2,by omega,h⟩,rfl,Yp hI pu⟩) (fun h=>.inr ⟨fun hh=>h hh.bits,rfl⟩)
   obtain⟨b0,b1⟩:=R9 hs pu k1 lb
   obtain⟨g,hg,_⟩:=Au (l:=x.2.1) b0 b1
   obtain⟨sa,hsa,_⟩:=Au (l:=x.2.2.1) b0 (by rw[hs.a];exact b1)
   simp only[beq_false_of_ne yz,Bool.not_false,AP,Ay,Rw yz,KQ l0 l1,hg,hsa,A4]
   by_cases e1:p.2.1<g.2.1
   ·exact .inr ⟨fun hh=>by have:=(hh g sa rfl rfl).1;omega,by simp only[e1,decide_true,AP]⟩
   ·by_cases e2:Ai .and .u32 sa p.1=0
    ·exact .inl ⟨fun g' s' a1 a2=>by cases a1;cases a2;exact ⟨by omega,e2⟩,by simp only[e1,decide_false,AR,beq_iff_eq.2 e2,Bool.not_true]⟩
    ·exact .inr ⟨fun hh=>e2 (hh g sa rfl rfl).2,by simp only[e1,decide_false,AR,beq_false_of_ne e2,Bool.not_false,AP]⟩
 ·show (G9 (Acw x)==Aa x.2.1)=true↔_
  rw[beq_iff_eq]
  exact ⟨fun hh=>⟨h,hh⟩,fun hh=>hh.2⟩
structure Acr (x:Ae) (e:Ux):Prop where
 phase:0≤e.1∧e.1≤Aa x.2.2.2.2.1-1
 on:1≤e.2.1∧e.2.1≤1048576
 off:1≤e.2.2.1∧e.2.2.1≤1048576
 turns:1≤e.2.2.2∧e.2.2.2≤64
def Xe (x:Ae):Prop:=∀i e,idx x.2.2.2.2.2.1 i=some e→Acr x e
theorem Aeg {x:Ae} (hx:BZ x) (hs:ShapeOK x):∃b,IH x=some b∧(b=true↔Xe x):=by
 unfold IH
 refine Ds (l:=x.2.2.2.2.2.1) (fun a:Option Bool=>∃b,a=some b∧(b=true↔Xe x)) (fun _ e=>Acr x e) (some false) (some true) hx.e (fun i e h0 hi he=>?_) (fun i hi=>by simp[hi,cnd,hi2_eq]) (fun h=>⟨true,rfl,fun _=>h,fun _=>rfl⟩) (fun h=>⟨false,rfl,fun hh=>(by cases hh),fun hh=>absurd hh h⟩)
 have hw:wr .i64 (Aa x.2.2.2.2.1-1)=Aa x.2.2.2.2.1-1:=by have:=hs.p1;have:=hs.p2;exact Am _ (by omega) (by omega)
 simp only[hi,decide_true,AP,he,A4,Ay,hw]
 by_cases h1:(((!(Bm (e.1,0,Aa x.2.2.2.2.1-1)))||(!(Bn (e.2.1::(e.2.2.1::[])))))||(!(Bm (e.2.2.2,(1,64)))))=true
 ·refine .inr ⟨fun hh=>?_,by simp only[h1,AP]⟩
  have t1:=(C0 _ _ _).2 hh.phase
  have t2:=(YS e.2.1 e.2.2.1).2 ⟨hh.on,hh.off⟩
  have t3:=(C0 _ _ _).2 hh.turns
  simp[t1,t2,t3] at h1
 ·have h1':=Bool.eq_false_iff.2 h1
  refine .inl ⟨?_,by simp only[h1',AR]⟩
  simp only[Bool.or_eq_false_iff,Bool.not_eq_false'] at h1'
  have t2:=(YS _ _).1 h1'.1.2
  exact ⟨(C0 _ _ _).1 h1'.1.1,t2.1,t2.2,(C0 _ _ _).1 h1'.2⟩
def uB (x:Ae) (pf pt:Jl) (a v:Int):Prop :=
 AD pf.1 a=true∧∃s r b,idx x.2.2.1 a=some s∧idx x.2.2.2.1 a=some r∧AD s b=true∧AD pt.1 b=true∧idx r b=some v
def Iw (x:Ae) (pf pt:Jl) (n m:Int):Prop :=
 0≤m∧(∀a v,0≤a→a<n→uB x pf pt a v→v≤m)∧(m=0∨∃a,0≤a∧a<n∧uB x pf pt a m)
theorem gF {x:Ae} {pf pt:Jl} {n m m':Int} (h:Iw x pf pt n m) (h':Iw x pf pt n m'):m=m':=by
 obtain⟨h1,h2,h3⟩:=h
 obtain⟨g1,g2,g3⟩:=h'
 have a1:m≤m':=by
  rcases h3 with h3|⟨a,h3,h4,h5⟩
  ·omega
  ·exact g2 a m h3 h4 h5
 have a2:m'≤m:=by
  rcases g3 with g3|⟨a,g3,g4,g5⟩
  ·omega
  ·exact h2 a m' g3 g4 g5
 omega
theorem tB {x:Ae} (hx:BZ x) (hs:ShapeOK x) {f t:Int} {pf pt:Jl} (hf:idx x.2.2.2.2.1 f=some pf) (ht:idx x.2.2.2.2.1 t=some pt) :
 ∃m,FD (x,(f,t))=some m∧Iw x pf pt (Aa x.2.1) m:=by
 obtain⟨uf,_⟩:=hx.ps pf (An hf).2.2
 obtain⟨ut,_⟩:=hx.ps pt (An ht).2.2
 unfold FD
 refine EG (fun s=>0≤s.2∧s.2≤Aa x.2.1∧Iw x pf pt s.2 s.1) (fun s=>(Aa x.2.1-s.2).toNat) (fun a:Option Int=>∃m,a=some m∧Iw x pf pt (Aa x.2.1) m) ?_ AA (0,0) ⟨by simp,Ap _,by simp,fun a v h0 h1=>by simp only at h1;omega,.inl rfl⟩ (by have:=hs.n2;rw[Gl];simp only;omega)
 rintro⟨m,a⟩ ⟨h0,h1,h2,h3,h4⟩
 simp only at h0 h1 h2 h3 h4
 by_cases ha:a<Aa x.2.1
 ·have hw:wr .i64 (a+1)=a+1:=by have:=hs.n2;exact Am _ (by omega) (by omega)
  simp only[ha,decide_true,AP,hf,A4,Ay,LV uf]
  have old:∀ {m'},m≤m'→(∀v,uB x pf pt a v→v≤m')→(m'=m∨uB x pf pt a m')→Iw x pf pt (a+1) m':=fun {m'} le up ex=>by
   refine ⟨by omega,fun a' v b0 b1 hp=>?_,?_⟩
   ·by_cases e:a'=a
    ·subst e;exact up v hp
    ·have:=h3 a' v b0 (by omega) hp;omega
   ·rcases ex with rfl|ex
    ·rcases h4 with h4|⟨a',c1,c2,c3⟩
     ·exact .inl h4
     ·exact .inr ⟨a',c1,by omega,c3⟩
    ·exact .inr ⟨a,h0,by omega,ex⟩
  cases hb:AD pf.1 a with
  |false =>
   simp only[Bool.not_false,AP,hw]
   refine ⟨⟨by simp only;omega,by simp only;omega,old (Int.le_refl _) (fun v hp=>?_) (.inl rfl)⟩,(by show (Aa x.2.1-(a+1)).toNat<(Aa x.2.1-a).toNat;omega)⟩
   have:=hp.1;rw[hb] at this;cases this
  |true =>
   obtain⟨sa,hsa,hsam⟩:=Au (l:=x.2.2.1) h0 (by rw[hs.a];exact ha)
   obtain⟨r,hr,_⟩:=Au (l:=x.2.2.2.1) h0 (by rw[hs.b];exact ha)
   have us:=hx.as sa hsam
   have hrl:=hs.rows a r hr
   simp only[Bool.not_true,AR,hsa,ht,A4]
   have inr:∀k,AD (Ai .and .u32 sa pt.1) k=true→AD sa k=true∧AD pt.1 k=true∧0≤k∧k<Aa r:=fun k hk=>by
    rw[Pj us ut,Bool.and_eq_true] at hk
    obtain⟨b0,b1⟩:=R9 hs us (hs.aps a sa hsa) hk.1
    exact ⟨hk.1,hk.2,b0,by omega⟩
   refine dC (fun z:Step (Int×Int) (Option Int)=>Round (fun s=>0≤s.2∧s.2≤Aa x.2.1∧Iw x pf pt s.2 s.1) (fun s=>(Aa x.2.1-s.2).toNat) (fun a:Option Int=>∃m,a=some m∧Iw x pf pt (Aa x.2.1) m) (Aa x.2.1-a).toNat z)
    (fun k=>el r k) (fun m=>.next (m,wr .i64 (a+1))) (fH us ut) (fun m' y yu yz l0 l1 lb=>?_) (fun m'=>by simp[cnd,hi2_eq]) (fun m' g1 g2 g3=>?_)
   ·obtain⟨_,_,b0,b1⟩:=inr _ lb
    simp only[beq_false_of_ne yz,Bool.not_false,AP,Rw yz,KQ l0 l1,hr,Bb b0 b1,A4]
   ·rw[hw]
    refine ⟨⟨by simp only;omega,by simp only;omega,old g1 (fun v hp=>?_) ?_⟩,(by show (Aa x.2.1-(a+1)).toNat<(Aa x.2.1-a).toNat;omega)⟩
    ·obtain⟨_,s',r',b,e1,e2,e3,e4,e5⟩:=hp
     rw[hsa] at e1;cases e1
     rw[hr] at e2;cases e2
     have hk:AD (Ai .and .u32 sa pt.1) b=true:=by rw[Pj us ut,e3,e4];rfl
     have:=g2 b hk
     simpa[el,e5] using this
    ·rcases g3 with g3|⟨k,hk,rfl⟩
     ·exact .inl g3
     ·obtain⟨k1,k2,b0,b1⟩:=inr k hk
      exact .inr ⟨hb,sa,r,k,hsa,hr,k1,k2,Bb b0 b1⟩
 ·simp only[ha,decide_false,AR]
  exact ⟨m,rfl,h2,fun a' v b0 b1=>h3 a' v b0 (by omega),h4.imp id fun ⟨a',c1,c2,c3⟩=>⟨a',c1,by omega,c3⟩⟩
theorem gE {x:Ae} (hx:BZ x) (hs:ShapeOK x) (hap:Jj x) {pf pt:Jl} {m:Int} (h:Iw x pf pt (Aa x.2.1) m):0≤m∧m≤1048576:=by
 refine ⟨h.1,?_⟩
 rcases h.2.2 with h3|⟨a,a0,a1,_,s,r,b,e1,e2,e3,_,e5⟩
 ·omega
 ·obtain⟨g,hg,_⟩:=Au (l:=x.2.1) a0 a1
  obtain⟨b0,b1⟩:=R9 hs (hx.as s (An e1).2.2) (hs.aps a s e1) e3
  obtain⟨sb,hsb,_⟩:=Au (l:=x.2.2.1) b0 (by rw[hs.a];exact b1)
  exact ((hap a g hg).row r s b m sb e2 e1 e5 hsb).2.1 e3 |>.2.2
def BL (x:Ae) (i:Int):Int:=(D8 (x,i)).getD 0
def Ho (x:Ae) (i:Int):Int:=(i+1).tmod (Aa x.2.2.2.2.1)
theorem j5 {x:Ae} (hs:ShapeOK x) {i:Int} (h0:0≤i):0≤Ho x i∧Ho x i<Aa x.2.2.2.2.1:=by
 have:=hs.p1
 unfold Ho
 exact ⟨Int.tmod_nonneg _ (by omega),Int.tmod_lt_of_pos _ (by omega)⟩
theorem M3 {x:Ae} (hx:BZ x) (hs:ShapeOK x) (hap:Jj x) (hph:H6 x) {i:Int} {p:Jl} (hp:idx x.2.2.2.2.1 i=some p) :
 D8 (x,i)=some (BL x i)∧∃pn m,idx x.2.2.2.2.1 (Ho x i)=some pn∧Iw x p pn (Aa x.2.1) m∧BL x i=p.2.1+m∧1≤BL x i∧BL x i≤2097152:=by
 obtain⟨i0,i1,_⟩:=An hp
 obtain⟨n0,n1⟩:=j5 hs i0
 obtain⟨pn,hpn,_⟩:=Au (l:=x.2.2.2.2.1) n0 n1
 obtain⟨m,hm,hc⟩:=tB hx hs hp hpn
 have hl:=gE hx hs hap hc
 have hmin:=(hph.1 i p hp).min
 have hl1:=hs.p1
 have hl2:=hs.p2
 have key:D8 (x,i)=some (p.2.1+m):=by
  unfold D8
  have e:FX (wr .i64 (i+1)) (Aa x.2.2.2.2.1)=Ho x i:=by
   rw[Am _ (by omega) (by omega)];rfl
  have hz:(!(Aa x.2.2.2.2.1==0))=true:=by simp;omega
  simp only[hp,A4,hz,AP,e,hm]
  rw[Am _ (by omega) (by omega)]
 have hv:BL x i=p.2.1+m:=by unfold BL;rw[key];rfl
 exact ⟨by rw[hv];exact key,pn,m,hpn,hc,hv,by omega,by omega⟩
def DK (x:Ae):Nat→Int
 |0=>0
 |n+1=>DK x n+BL x (n:Int)
def NS (x:Ae):Int:=DK x x.2.2.2.2.1.length
structure MX (x:Ae):Prop where
 watch:1≤x.2.2.2.2.2.2.1∧x.2.2.2.2.2.2.1≤1048576
 feed:1≤x.2.2.2.2.2.2.2.1∧x.2.2.2.2.2.2.2.1≤1048576
 heal:1≤x.2.2.2.2.2.2.2.2.1∧x.2.2.2.2.2.2.2.2.1≤1048576
 low:1≤x.2.2.2.2.2.2.2.2.2.1∧x.2.2.2.2.2.2.2.2.2.1≤1048576
 high:1≤x.2.2.2.2.2.2.2.2.2.2.1∧x.2.2.2.2.2.2.2.2.2.2.1≤1048576
 round:NS x≤x.2.2.2.2.2.2.2.2.2.1
 le:x.2.2.2.2.2.2.2.2.2.1≤x.2.2.2.2.2.2.2.2.2.2.1
theorem QT {x:Ae} (hx:BZ x) (hs:ShapeOK x) (hap:Jj x) (hph:H6 x):∀n,n≤x.2.2.2.2.1.length→0≤DK x n∧DK x n≤2097152*(n:Int)
 |0,_=>by simp[DK]
 |n+1,h=>by
  have ih:=QT hx hs hap hph n (by omega)
  obtain⟨p,hp,_⟩:=Au (l:=x.2.2.2.2.1) (i:=(n:Int)) (by omega) (by unfold Aa;omega)
  have:=(M3 hx hs hap hph hp).2
  obtain⟨_,_,_,_,_,h1,h2⟩:=this
  simp only[DK]
  omega
theorem AdP {x:Ae} (hx:BZ x) (hs:ShapeOK x) (hap:Jj x) (hph:H6 x):∃b,HR x=some b∧(b=true↔MX x):=by
 unfold HR
 have hp2:=hs.p2
 refine EG (fun s=>0≤s.2∧s.2≤Aa x.2.2.2.2.1∧s.1=DK x s.2.toNat) (fun s=>(Aa x.2.2.2.2.1-s.2).toNat) (fun a:Option Bool=>∃b,a=some b∧(b=true↔MX x)) ?_ AA (0,0) ⟨by simp,Ap _,rfl⟩ (by rw[Gl];simp only;omega)
 rintro⟨m,i⟩ ⟨h0,h1,h2⟩
 simp only at h0 h1 h2
 by_cases hi:i<Aa x.2.2.2.2.1
 ·obtain⟨p,hp,_⟩:=Au h0 hi
  obtain⟨hn,_,_,_,_,_,n1,n2⟩:=M3 hx hs hap hph hp
  have hr:=QT hx hs hap hph i.toNat (by unfold Aa at hi;omega)
  simp only[hi,decide_true,AP,hn,A4]
  rw[Am (m+_) (by omega) (by omega),Am (i+1) (by omega) (by omega)]
  refine ⟨⟨by simp only;omega,by simp only;omega,?_⟩,(by show (Aa x.2.2.2.2.1-(i+1)).toNat<(Aa x.2.2.2.2.1-i).toNat;omega)⟩
  simp only
  rw[show (i+1).toNat=i.toNat+1 by omega,DK,←h2,show ((i.toNat:Nat):Int)=i by omega]
 ·simp only[hi,decide_false,AR,Ay]
  refine ⟨_,rfl,?_⟩
  have hm:m=NS x:=by
   rw[h2];unfold NS;congr 1;unfold Aa at h1 hi;omega
  have ht:Bn (x.2.2.2.2.2.2.1::(x.2.2.2.2.2.2.2.1::(x.2.2.2.2.2.2.2.2.1::(x.2.2.2.2.2.2.2.2.2.1::(x.2.2.2.2.2.2.2.2.2.2.1::[])))))=true↔(1≤x.2.2.2.2.2.2.1∧x.2.2.2.2.2.2.1≤1048576)∧(1≤x.2.2.2.2.2.2.2.1∧x.2.2.2.2.2.2.2.1≤1048576)∧(1≤x.2.2.2.2.2.2.2.2.1∧x.2.2.2.2.2.2.2.2.1≤1048576)∧(1≤x.2.2.2.2.2.2.2.2.2.1∧x.2.2.2.2.2.2.2.2.2.1≤1048576)∧(1≤x.2.2.2.2.2.2.2.2.2.2.1∧x.2.2.2.2.2.2.2.2.2.2.1≤1048576):=by
   unfold Bn;simp
  rw[Bool.and_eq_true,Bool.and_eq_true,ht,decide_eq_true_eq,decide_eq_true_eq,hm]
  exact ⟨fun h=>⟨h.1.1.1,h.1.1.2.1,h.1.1.2.2.1,h.1.1.2.2.2.1,h.1.1.2.2.2.2,h.1.2,h.2⟩,fun h=>⟨⟨⟨h.watch,h.feed,h.heal,h.low,h.high⟩,h.round⟩,h.le⟩⟩
def Jb (p:AB):Nat→Int
 |0=>p.1
 |n+1=>Jb p n-el p.2.2 (n:Int)
structure FO (x:Ae) (p:AB):Prop where
 cycle:x.2.2.2.2.2.2.2.2.2.1≤p.1∧p.1≤x.2.2.2.2.2.2.2.2.2.2.1
 offset:0≤p.2.1∧p.2.1≤p.1-1
 len:Aa p.2.2=Aa x.2.2.2.2.1
 split:∀n:Nat,(n:Int)<Aa p.2.2→BL x (n:Int)≤el p.2.2 (n:Int)∧el p.2.2 (n:Int)≤Jb p n
 all:Jb p p.2.2.length=0
def Uw (p:AB):Prop:=(-9223372036854775808≤p.1∧p.1≤9223372036854775807)∧p.2.2.length≤maxLen∧∀m∈p.2.2,-9223372036854775808≤m∧m≤9223372036854775807
theorem zR {x:Ae} (hx:BZ x) (hs:ShapeOK x) (hap:Jj x) (hph:H6 x) (hti:MX x) {p:AB} (_:Uw p):∃b,Gd (x,p)=some b∧(b=true↔FO x p):=by
 unfold Gd
 simp only[Ay]
 rw[AS]
 have hlow:=hti.low
 have hhigh:=hti.high
 split
 ·rename_i h
  refine ⟨false,rfl,fun hh=>(by cases hh),fun hh=>?_⟩
  exfalso
  have c1:=hh.cycle
  have t1:=(C0 p.1 _ _).2 hh.cycle
  have hw:wr .i64 (p.1-1)=p.1-1:=Am _ (by omega) (by omega)
  have t2:=(C0 p.2.1 0 (p.1-1)).2 hh.offset
  have t3:=hh.len
  simp[t1,hw,t2,t3] at h
 ·rename_i h
  simp only[Bool.or_eq_true,Bool.not_eq_true',beq_eq_false_iff_ne,not_or,Bool.not_eq_false,ne_eq,Decidable.not_not] at h
  obtain⟨⟨g1,g2⟩,g3⟩:=h
  have g1:=(C0 _ _ _).1 g1
  have hw:wr .i64 (p.1-1)=p.1-1:=Am _ (by omega) (by omega)
  rw[hw] at g2
  have g2:=(C0 _ _ _).1 g2
  have g3:Aa p.2.2=Aa x.2.2.2.2.1:=by simpa using g3
  have hp2:=hs.p2
  refine EG (fun s=>0≤s.2∧s.2≤Aa p.2.2∧s.1=Jb p s.2.toNat∧0≤s.1∧s.1≤1048576∧∀n:Nat,(n:Int)<s.2→BL x (n:Int)≤el p.2.2 (n:Int)∧el p.2.2 (n:Int)≤Jb p n) (fun s=>(Aa p.2.2-s.2).toNat) (fun a:Option Bool=>∃b,a=some b∧(b=true↔FO x p)) ?_ AA (p.1,0) ⟨by simp,Ap _,rfl,by simp only;omega,by simp only;omega,fun n h=>by simp only at h;omega⟩ (by rw[Gl];simp only;omega)
  rintro⟨m,i⟩ ⟨h0,h1,h2,h3,h4,h5⟩
  simp only at h0 h1 h2 h3 h4 h5
  by_cases hi:i<Aa p.2.2
  ·obtain⟨ph,hpp,_⟩:=Au (l:=x.2.2.2.2.1) h0 (by omega)
   obtain⟨hn,_,_,_,_,_,n1,n2⟩:=M3 hx hs hap hph hpp
   have hin:((i.toNat:Nat):Int)=i:=by omega
   simp only[hi,decide_true,AP,Bb h0 hi,hn,A4]
   by_cases hc:Bm (el p.2.2 i,(BL x i,m))=true
   ·have hc':=(C0 _ _ _).1 hc
    simp only[hc,Bool.not_true,AR]
    rw[Am (m-_) (by omega) (by omega),Am (i+1) (by omega) (by omega)]
    refine ⟨⟨by simp only;omega,by simp only;omega,?_,by simp only;omega,by simp only;omega,fun n hn'=>?_⟩,(by show (Aa p.2.2-(i+1)).toNat<(Aa p.2.2-i).toNat;omega)⟩
    ·simp only
     rw[show (i+1).toNat=i.toNat+1 by omega,Jb,←h2,hin]
    ·simp only at hn'
     by_cases e:(n:Int)=i
     ·have e2:n=i.toNat:=by omega
      rw[e]
      refine ⟨hc'.1,?_⟩
      rw[e2,←h2];exact hc'.2
     ·exact h5 n (by omega)
   ·have hc':=Bool.eq_false_iff.2 hc
    simp only[hc',Bool.not_false,AP]
    refine ⟨false,rfl,fun hh=>(by cases hh),fun hh=>?_⟩
    have:=hh.split i.toNat (by omega)
    rw[hin,←h2] at this
    exact absurd ((C0 _ _ _).2 this) hc
  ·simp only[hi,decide_false,AR]
   refine ⟨_,rfl,?_⟩
   have hl:i.toNat=p.2.2.length:=by unfold Aa at h1 hi;omega
   rw[beq_iff_eq,h2,hl]
   exact ⟨fun h=>⟨g1,g2,g3,fun n hn=>h5 n (by omega),h⟩,fun h=>h.all⟩
def N7 (x:Ae):Prop:=∀i p,idx x.2.2.2.2.2.2.2.2.2.2.2 i=some p→FO x p
theorem AaB {x:Ae} (hx:BZ x) (hs:ShapeOK x) (hap:Jj x) (hph:H6 x) (hti:MX x):∃b,Gm x=some b∧(b=true↔N7 x):=by
 unfold Gm
 refine Ds (l:=x.2.2.2.2.2.2.2.2.2.2.2) (fun a:Option Bool=>∃b,a=some b∧(b=true↔N7 x)) (fun _ p=>FO x p) (some false) (some true) hx.q (fun i p h0 hi hp=>?_) (fun i hi=>by simp[hi,cnd,hi2_eq]) (fun h=>⟨true,rfl,fun _=>h,fun _=>rfl⟩) (fun h=>⟨false,rfl,fun hh=>(by cases hh),fun hh=>absurd hh h⟩)
 obtain⟨b,h1,h2⟩:=zR hx hs hap hph hti (hx.qs p (An hp).2.2)
 simp only[hi,decide_true,AP,hp,A4,h1]
 cases b with
 |true=>exact .inl ⟨h2.1 rfl,rfl⟩
 |false=>exact .inr ⟨fun hh=>(by have:=h2.2 hh;cases this),rfl⟩
structure Dh (x:Ae):Prop where
 id:0≤x.1∧x.1≤65535
 shape:ShapeOK x
 apart:Jj x
 phased:H6 x
 eyed:Xe x
 timed:MX x
 planned:N7 x
theorem Zl {x:Ae} (hx:BZ x):∃e,Aw x=some e∧((e=0∧Dh x)∨(e=50∧¬Dh x)):=by
 unfold Aw
 have step:∀ {k:Int} {P:Prop},k≤5→wr .i64 (k+1)=k+1∨k<0:=fun {k P} h=>by
  by_cases h0:0≤k
  ·exact .inl (Am _ (by omega) (by omega))
  ·exact .inr (by omega)
 refine EG (fun s=>s.1=false∧0≤s.2∧s.2≤6∧(1≤s.2→(0≤x.1∧x.1≤65535)∧ShapeOK x)∧(2≤s.2→Jj x)∧(3≤s.2→H6 x)∧(4≤s.2→Xe x)∧(5≤s.2→MX x)∧(6≤s.2→N7 x)) (fun s=>(6-s.2).toNat) (fun a:Option Int=>∃e,a=some e∧((e=0∧Dh x)∨(e=50∧¬Dh x))) ?_ AA (false,0) ⟨rfl,by simp,by simp,fun h=>by simp at h,fun h=>by simp at h,fun h=>by simp at h,fun h=>by simp at h,fun h=>by simp at h,fun h=>by simp at h⟩ (by rw[Gl];simp)
 rintro⟨b,k⟩ ⟨hb,k0,k6,a1,a2,a3,a4,a5,a6⟩
 simp only at hb k0 k6 a1 a2 a3 a4 a5 a6
 subst hb
 by_cases hk:k<6
 ·have hw:wr .i64 (k+1)=k+1:=Am _ (by omega) (by omega)
  simp only[hk,decide_true,AP,hw]
  have cases6:k=0∨k=1∨k=2∨k=3∨k=4∨k=5:=by omega
  rcases cases6 with rfl|rfl|rfl|rfl|rfl|rfl
  ·simp only[beq_self_eq_true,AP,Ay]
   by_cases hid:Bm (x.1,(0,65535))=true
   ·obtain⟨b,h1,h2⟩:=AdJ hx
    simp only[hid,Bool.not_true,AR,h1,A4]
    cases b with
    |true=>exact ⟨⟨rfl,by decide,by decide,fun _=>⟨(C0 _ _ _).1 hid,h2.1 rfl⟩,fun h=>by simp at h,fun h=>by simp at h,fun h=>by simp at h,fun h=>by simp at h,fun h=>by simp at h⟩,by decide⟩
    |false=>exact ⟨50,rfl,.inr ⟨rfl,fun hh=>by have:=h2.2 hh.shape;cases this⟩⟩
   ·have hid':=Bool.eq_false_iff.2 hid
    simp only[hid',Bool.not_false,AP]
    exact ⟨50,rfl,.inr ⟨rfl,fun hh=>hid ((C0 _ _ _).2 hh.id)⟩⟩
  ·obtain⟨hid,hs⟩:=a1 (by decide)
   obtain⟨b,h1,h2⟩:=AcN hx hs
   simp only[show ((1:Int)==0)=false from rfl,beq_self_eq_true,AP,AR,h1,A4]
   cases b with
   |true=>exact ⟨⟨rfl,by decide,by decide,fun _=>⟨hid,hs⟩,fun _=>h2.1 rfl,fun h=>by simp at h,fun h=>by simp at h,fun h=>by simp at h,fun h=>by simp at h⟩,by decide⟩
   |false=>exact ⟨50,rfl,.inr ⟨rfl,fun hh=>by have:=h2.2 hh.apart;cases this⟩⟩
  ·obtain⟨hid,hs⟩:=a1 (by decide)
   obtain⟨b,h1,h2⟩:=Ab3 hx hs
   simp only[show ((2:Int)==0)=false from rfl,show ((2:Int)==1)=false from rfl,beq_self_eq_true,AP,AR,h1,A4]
   cases b with
   |true=>exact ⟨⟨rfl,by decide,by decide,fun _=>⟨hid,hs⟩,fun _=>a2 (by decide),fun _=>h2.1 rfl,fun h=>by simp at h,fun h=>by simp at h,fun h=>by simp at h⟩,by decide⟩
   |false=>exact ⟨50,rfl,.inr ⟨rfl,fun hh=>by have:=h2.2 hh.phased;cases this⟩⟩
  ·obtain⟨hid,hs⟩:=a1 (by decide)
   obtain⟨b,h1,h2⟩:=Aeg hx hs
   simp only[show ((3:Int)==0)=false from rfl,show ((3:Int)==1)=false from rfl,show ((3:Int)==2)=false from rfl,beq_self_eq_true,AP,AR,h1,A4]
   cases b with
   |true=>exact ⟨⟨rfl,by decide,by decide,fun _=>⟨hid,hs⟩,fun _=>a2 (by decide),fun _=>a3 (by decide),fun _=>h2.1 rfl,fun h=>by simp at h,fun h=>by simp at h⟩,by decide⟩
   |false=>exact ⟨50,rfl,.inr ⟨rfl,fun hh=>by have:=h2.2 hh.eyed;cases this⟩⟩
  ·obtain⟨hid,hs⟩:=a1 (by decide)
   obtain⟨b,h1,h2⟩:=AdP hx hs (a2 (by decide)) (a3 (by decide))
   simp only[show ((4:Int)==0)=false from rfl,show ((4:Int)==1)=false from rfl,show ((4:Int)==2)=false from rfl,show ((4:Int)==3)=false from rfl,beq_self_eq_true,AP,AR,h1,A4]
   cases b with
   |true=>exact ⟨⟨rfl,by decide,by decide,fun _=>⟨hid,hs⟩,fun _=>a2 (by decide),fun _=>a3 (by decide),fun _=>a4 (by decide),fun _=>h2.1 rfl,fun h=>by simp at h⟩,by decide⟩
   |false=>exact ⟨50,rfl,.inr ⟨rfl,fun hh=>by have:=h2.2 hh.timed;cases this⟩⟩
  ·obtain⟨hid,hs⟩:=a1 (by decide)
   obtain⟨b,h1,h2⟩:=AaB hx hs (a2 (by decide)) (a3 (by decide)) (a5 (by decide))
   simp only[show ((5:Int)==0)=false from rfl,show ((5:Int)==1)=false from rfl,show ((5:Int)==2)=false from rfl,show ((5:Int)==3)=false from rfl,show ((5:Int)==4)=false from rfl,beq_self_eq_true,AP,AR,h1,A4]
   cases b with
   |true=>exact ⟨⟨rfl,by decide,by decide,fun _=>⟨hid,hs⟩,fun _=>a2 (by decide),fun _=>a3 (by decide),fun _=>a4 (by decide),fun _=>a5 (by decide),fun _=>h2.1 rfl⟩,by decide⟩
   |false=>exact ⟨50,rfl,.inr ⟨rfl,fun hh=>by have:=h2.2 hh.planned;cases this⟩⟩
 ·simp only[hk,decide_false,AR]
  have e:k=6:=by omega
  subst e
  obtain⟨hid,hs⟩:=a1 (by decide)
  exact ⟨0,rfl,.inl ⟨rfl,hid,hs,a2 (by decide),a3 (by decide),a4 (by decide),a5 (by decide),a6 (by decide)⟩⟩
end Go.Proofs.YtmmkfcpdfnjgjaaGreatDoor
namespace Go.Proofs.YtmmkfcpdfnjgjaaGreatDoor
open Go.Den
theorem tH (x:Ae) (hx:BZ x):∃b,E0 x=some b:=by
 unfold E0
 rw[AS]
 split
 ·exact ⟨_,rfl⟩
 ·refine Ds (l:=x.2.2.2.1) (fun a:Option Bool=>∃b,a=some b) (fun _ r=>¬40<Aa r) (some true) _ hx.b (fun i r h0 hi hr=>?_) (fun i hi=>by simp only[hi,decide_false,AR];rfl) (fun _=>?_) (fun _=>⟨_,rfl⟩)
  ·simp only[hi,decide_true,AP,hr,A4]
   by_cases h:40<Aa r
   ·exact .inr ⟨fun hh=>hh h,by simp only[h,decide_true,AP]⟩
   ·exact .inl ⟨h,by simp only[h,decide_false,AR]⟩
  ·refine Ds (l:=x.2.2.2.2.2.2.2.2.2.2.2) (fun a:Option Bool=>∃b,a=some b) (fun _ p=>¬40<Aa p.2.2) (some true) (some false) hx.q (fun i r h0 hi hr=>?_) (fun i hi=>by simp only[hi,decide_false,AR]) (fun _=>⟨_,rfl⟩) (fun _=>⟨_,rfl⟩)
   simp only[hi,decide_true,AP,hr,A4]
   by_cases h:40<Aa r.2.2
   ·exact .inr ⟨fun hh=>hh h,by simp only[h,decide_true,AP]⟩
   ·exact .inl ⟨h,by simp only[h,decide_false,AR]⟩
end Go.Proofs.YtmmkfcpdfnjgjaaGreatDoor
namespace Go.Proofs.YtmmkfcpdfnjgjaaGreatDoor
open Go.Den
structure Ad1 (x:Ae):Prop where
 n1:1≤Aa x.2.1
 n2:Aa x.2.1≤16
 a:Aa x.2.2.1=Aa x.2.1
 b:Aa x.2.2.2.1=Aa x.2.1
 rows:∀i r,idx x.2.2.2.1 i=some r→Aa r=Aa x.2.1
 aps:∀i s,idx x.2.2.1 i=some s→Av .u32 s (Aa x.2.1)=0
theorem ShapeOK.g {x:Ae} (h:ShapeOK x):Ad1 x:=⟨h.n1,h.n2,h.a,h.b,h.rows,h.aps⟩
end Go.Proofs.YtmmkfcpdfnjgjaaGreatDoor
namespace Go.Proofs.YtmmkfcpdfnjgjaaGreatDoor.Pn
open Go.Den
theorem in_site {a b c:Int}:Bm (a,(b,c))=true↔b≤a∧a≤c:=C0 a b c
theorem tS (a:Int) {b:Int} (h:0<b):-b<a.tmod b:=by
 by_cases h0:0≤a
 ·have:=Int.tmod_nonneg b h0;omega
 ·have h1:=Int.tmod_lt_of_pos (-a) h
  rw[Int.neg_tmod] at h1
  omega
def Qy (s:Ae):Int:=s.2.2.2.2.2.2.2.2.2.1
def LM (s:Ae):Int:=s.2.2.2.2.2.2.2.2.2.2.1
theorem kA {s:Ae} (hx:BZ s) (h:Dh s) (hc:Aw s=some 0) {i:Int} {p:Jl} (hp:idx s.2.2.2.2.1 i=some p):EI (s,i)=some (BL s i-p.2.1):=by
 obtain⟨i0,i1,_⟩:=An hp
 have p1:=h.shape.p1
 have p2:=h.shape.p2
 obtain⟨n0,n1⟩:=j5 h.shape i0
 obtain⟨_,pn,m,hpn,hci,hv,_,_⟩:=M3 hx h.shape h.apart h.phased hp
 obtain⟨m',hm',hci'⟩:=tB hx h.shape hp hpn
 have hmm:=gF hci hci'
 subst hmm
 have hn:Eu (s,i)=some (Ho s i):=by
  unfold Eu Ho
  rw[Af _ _ (by simp;omega),Am (i+1) (by omega) (by omega)]
  rfl
 have hC:HN (s,(i,Ho s i))=some (m,0):=by
  unfold HN
  rw[FZ,Ab _ _ hc,Ag (b:=!((0:Int)==0)) _ _ rfl]
  refine Ds (l:=i::(Ho s i::[])) (fun r:Option (Int×Int)=>r=some (m,0)) (fun _ x=>0≤x∧x≤Aa s.2.2.2.2.1-1) (some (0,2)) (some (m,0)) (by simp[maxLen]) (fun j x j0 j1 hx'=>?_) (fun j hj=>by (try simp only);rw[Ag _ _ (decide_eq_false hj),Ag (b:=!((0:Int)==0)) _ _ rfl,Ab _ _ hm']) (fun _=>rfl) (fun hh=>absurd (fun j x hx'=>?_) hh)
  ·try simp only
   rw[Af _ _ (decide_eq_true j1),Ab _ _ hx',AG,Am (Aa s.2.2.2.2.1-1) (by omega) (by omega)]
   by_cases c:0≤x∧x≤Aa s.2.2.2.2.1-1
   ·exact .inl ⟨c,by rw[Ag _ _ (by rw[in_site.2 c];rfl)]⟩
   ·exact .inr ⟨c,by rw[Af _ _ (by rw[Bool.eq_false_iff.2 fun hh=>c (in_site.1 hh)];rfl)];rfl⟩
  ·have hm:=(An hx').2.2
   have:x=i∨x=Ho s i:=by simpa using hm
   rcases this with e|e
   ·rw[e];omega
   ·rw[e];omega
 unfold EI
 rw[Ab _ _ hn,Ab _ _ hC,hv]
 show some m=some (p.2.1+m-p.2.1)
 congr 1;omega
def Bk (f:Int→Int):Nat→Int
 |0=>0
 |k+1=>Bk f k+f (k:Int)
def Fv (f:Int→Int):Nat→Int
 |0=>-1
 |k+1=>if 0<f (k:Int)∧Fv f k<0 then (k:Int) else Fv f k
def J2 (f:Int→Int) (n:Nat):List Int:=(List.range n).map fun (k:Nat)=>f (k:Int)
theorem Ok (f:Int→Int) (n:Nat):Aa (J2 f n)=n:=by unfold Aa J2;simp
theorem SX {f:Int→Int} {n:Nat} {j:Int} (j0:0≤j) (j1:j<n):idx (J2 f n) j=some (f j):=by
 unfold J2
 rw[B7 j0,List.getElem?_map,List.getElem?_range (by omega)]
 show some (f ((j.toNat:Nat):Int)) = _
 rw[Int.toNat_of_nonneg j0]
theorem wR (f:Int→Int) (n:Nat):J2 f (n+1)=J2 f n++[f (n:Int)]:=by
 unfold J2;rw[List.range_succ,List.map_append];rfl
theorem YR (s:Ae):∀k,Bk (BL s) k=DK s k
 |0=>rfl
 |k+1=>by rw[Bk,DK,YR s k]
theorem aD {f:Int→Int} {b:Int} {n:Nat} (h:∀k:Nat,k<n→0≤f (k:Int)∧f (k:Int)≤b):∀k,k≤n→0≤Bk f k∧Bk f k≤b*(k:Int)
 |0,_=>by simp[Bk]
 |k+1,hk=>by
  have ih:=aD h k (by omega)
  have:=h k (by omega)
  rw[Bk]
  have e:b*((k+1:Nat):Int)=b*(k:Int)+b:=by rw[Int.natCast_add,Int.mul_add];simp
  omega
def BE (s:Ae) (p:AB) (i:Int):Int:=if i<Aa p.2.2 then max 0 (min (max 0 (el p.2.2 i)) (LM s)-BL s i) else 0
def Dl (s:Ae) (p:AB):Int:=min (max p.1 (Qy s)) (LM s)
def OU (s:Ae) (p:AB):Int:=(p.2.1.tmod (Dl s p)+Dl s p).tmod (Dl s p)
def nV (s:Ae):Nat:=s.2.2.2.2.1.length
def CM (s:Ae) (p:AB):Int:=Bk (BE s p) (nV s)
def EK (s:Ae) (p:AB):Int:=Dl s p-NS s
def CI (s:Ae) (p:AB) (i:Int):Int:=if 0<CM s p then (EK s p*BE s p i)/CM s p else 0
def LO (s:Ae) (p:AB):Int:=EK s p-Bk (CI s p) (nV s)
def KO (s:Ae) (p:AB) (i:Int):Int:=BL s i+CI s p i
def atV (s:Ae) (p:AB):Int:=max 0 (Fv (BE s p) (nV s))
def Jg (s:Ae) (p:AB) (i:Int):Int:=if i=atV s p then KO s p i+LO s p else KO s p i
def EB (s:Ae) (p:AB):AB:=(Dl s p,(OU s p,J2 (Jg s p) (nV s)))
theorem aR (f:Int→Int):∀n,-1≤Fv f n∧Fv f n<(n:Int)∧(0≤Fv f n↔∃k:Nat,k<n∧0<f (k:Int))
 |0=>⟨by simp[Fv],by simp[Fv],by simp[Fv]⟩
 |n+1=>by
  obtain⟨h1,h2,h3⟩:=aR f n
  rw[Fv]
  by_cases c:0<f (n:Int)∧Fv f n<0
  ·rw[if_pos c]
   exact ⟨by omega,by omega,fun _=>⟨n,by omega,c.1⟩,fun _=>by omega⟩
  ·rw[if_neg c]
   refine ⟨h1,by omega,fun h=>?_,fun ⟨k,hk,hp⟩=>?_⟩
   ·obtain⟨k,hk,hp⟩:=h3.1 h
    exact ⟨k,by omega,hp⟩
   ·by_cases e:k=n
    ·subst e
     apply Classical.byContradiction
     intro hn
     exact c ⟨hp,by omega⟩
    ·exact h3.2 ⟨k,by omega,hp⟩
theorem J7 {s:Ae} (hx:BZ s) (h:Dh s) {i:Int} (i0:0≤i) (i1:i<Aa s.2.2.2.2.1):1≤BL s i∧BL s i≤2097152:=by
 obtain⟨_,pn,m,_,_,_,a,b⟩:=M3 hx h.shape h.apart h.phased (Bb i0 i1)
 exact ⟨a,b⟩
structure yM (s:Ae) (p:AB):Prop where
 low:1≤Qy s∧Qy s≤LM s∧LM s≤1048576
 cyc:Qy s≤Dl s p∧Dl s p≤LM s
 off:0≤OU s p∧OU s p<Dl s p
 n:1≤nV s∧nV s≤8
 rest:0≤EK s p∧EK s p≤1048576
 wish:∀i,0≤i→i<(nV s:Int)→0≤BE s p i∧BE s p i≤1048576
 all:∀k,k≤nV s→0≤Bk (BE s p) k∧Bk (BE s p) k≤1048576*(k:Int)
 round:∀k,k≤nV s→0≤DK s k∧DK s k≤2097152*(k:Int)
 share:∀i,0≤i→i<(nV s:Int)→0≤CI s p i
 shares:∀k,k≤nV s→0≤Bk (CI s p) k∧Bk (CI s p) k≤EK s p
 at_:0≤atV s p∧atV s p<(nV s:Int)
theorem cA {s:Ae} {p:AB} (hr:0≤EK s p) (hw:∀i,0≤i→i<(nV s:Int)→0≤BE s p i):∀k,k≤nV s→0≤Bk (CI s p) k∧Bk (CI s p) k*CM s p≤EK s p*Bk (BE s p) k
 |0,_=>by simp[Bk]
 |k+1,hk=>by
  obtain⟨h1,h2⟩:=cA hr hw k (by omega)
  have hwk:=hw (k:Int) (by omega) (by omega)
  rw[Bk,Bk,Int.add_mul,Int.mul_add]
  unfold CI
  by_cases c:0<CM s p
  ·rw[if_pos c]
   have q0:0≤EK s p*BE s p (k:Int)/CM s p:=Int.ediv_nonneg (Int.mul_nonneg hr hwk) (by omega)
   have q1:EK s p*BE s p (k:Int)/CM s p*CM s p≤EK s p*BE s p (k:Int):=Int.ediv_mul_le _ (by omega)
   unfold CI at h1 h2
   exact ⟨by omega,by omega⟩
  ·rw[if_neg c]
   unfold CI at h1 h2
   have:=Int.mul_nonneg hr hwk
   rw[Int.zero_mul]
   exact ⟨by omega,by omega⟩
theorem L5 {s:Ae} (hx:BZ s) (h:Dh s) (p:AB):yM s p:=by
 have t:=h.timed
 have hl:1≤Qy s∧Qy s≤LM s∧LM s≤1048576:=⟨t.low.1,t.le,t.high.2⟩
 have hc:Qy s≤Dl s p∧Dl s p≤LM s:=by unfold Dl;omega
 have p1:=h.shape.p1
 have p2:=h.shape.p2
 have hn:1≤nV s∧nV s≤8:=by unfold Aa at p1 p2;unfold nV;omega
 have hnl:((nV s:Nat):Int)=Aa s.2.2.2.2.1:=rfl
 have hround:∀k,k≤nV s→0≤DK s k∧DK s k≤2097152*(k:Int):=fun k hk=>QT hx h.shape h.apart h.phased k hk
 have hr0:NS s≤Qy s:=t.round
 have hr1:0≤NS s:=(hround (nV s) (Nat.le_refl _)).1
 have hrest:0≤EK s p∧EK s p≤1048576:=by unfold EK;omega
 have hw:∀i,0≤i→i<(nV s:Int)→0≤BE s p i∧BE s p i≤1048576:=fun i i0 i1=>by
  have:=J7 hx h i0 (by rw[←hnl];exact i1)
  unfold BE
  split<;>omega
 have hall:=aD (f:=BE s p) (b:=1048576) (n:=nV s) fun k hk=>hw k (by omega) (by omega)
 have hsh:=cA (p:=p) hrest.1 fun i i0 i1=>(hw i i0 i1).1
 refine ⟨hl,hc,?_,hn,hrest,hw,hall,hround,fun i i0 i1=>?_,fun k hk=>⟨(hsh k hk).1,?_⟩,?_⟩
 ·unfold OU
  have a:=Int.tmod_lt_of_pos p.2.1 (b:=Dl s p) (by omega)
  have b:-(Dl s p)<p.2.1.tmod (Dl s p):=by
   have:=tS p.2.1 (b:=Dl s p) (by omega)
   exact this
  exact ⟨Int.tmod_nonneg _ (by omega),Int.tmod_lt_of_pos _ (by omega)⟩
 ·unfold CI
  split
  ·exact Int.ediv_nonneg (Int.mul_nonneg hrest.1 (hw i i0 i1).1) (by omega)
  ·omega
 ·by_cases c:0<CM s p
  ·have h2:=(hsh k hk).2
   have hm:Bk (BE s p) k≤CM s p:=by
    have mono:∀m,m≤nV s→k≤m→Bk (BE s p) k≤Bk (BE s p) m:=by
     intro m
     induction m with
     |zero=>intro _ hkm;rw[show k=0 by omega];omega
     |succ m ih =>
      intro hm hkm
      by_cases e:k=m+1
      ·rw[e];omega
      ·have:=ih (by omega) (by omega)
       have:=(hw (m:Int) (by omega) (by omega)).1
       rw[Bk];omega
    exact mono (nV s) (Nat.le_refl _) hk
   have h3:EK s p*Bk (BE s p) k≤EK s p*CM s p:=Int.mul_le_mul_of_nonneg_left hm hrest.1
   exact Int.le_of_mul_le_mul_right (a:=CM s p) (by omega) c
  ·have:Bk (CI s p) k=0:=by
    have:∀m,Bk (CI s p) m=0:=by
     intro m
     induction m with
     |zero=>rfl
     |succ m ih=>rw[Bk,ih];unfold CI;rw[if_neg c];rfl
    exact this k
   omega
 ·obtain⟨f1,f2,_⟩:=aR (BE s p) (nV s)
  unfold atV;omega
theorem Acz {a b:Int} (h0:0≤a) (h1:0<b) (h2:a/b≤9223372036854775807):EJ .i64 a b=a/b:=by
 have h3:0≤a/b:=Int.ediv_nonneg h0 (by omega)
 have:a.tdiv b=a/b:=Int.tdiv_eq_ediv_of_nonneg h0
 show wr .i64 (a.tdiv b) = _
 rw[this,Am _ (by omega) (by omega)]
abbrev St1:=Int×Int×Int×Int×((Int×Int)×List Int×Unit)×List Int
theorem XI {A:Type} {bad:Step St1 A} {i least rest all first w:Int} {co:Int×Int} {sp ws:List Int} (hi:0≤i∧i≤8) (hx:idx ws i=some w) (hl:Aa sp≤8) (h1:-9223372036854775808≤rest-least∧rest-least≤9223372036854775807) (h2:-9223372036854775808≤all+w∧all+w≤9223372036854775807) :
 DM (fun x6:Int×((Int×Int)×List Int×Unit)×List Int =>
(Ad (idx x6.2.2 i) bad (fun _ =>
(Ad (idx x6.2.2 i) bad (fun x8 =>
(cnd (true&&(AN ((Aa x6.2.1.2.1)+(Aa (least::[]))) 8))
(.next ((wr .i64 (i+1)),((wr .i64 (rest-least)),((wr .i64 (all+x8)),(x6.1,((x6.2.1.1,((x6.2.1.2.1++(least::[])),())),x6.2.2))))))
 bad)))))) (fun k =>
(Ad (idx ws i) bad (fun _ =>
(Ad (idx ws i) bad (fun x7 =>
(cnd ((decide (0<x7))&&(decide (first<0)))
(k (i,((co,(sp,())),ws)))
(k (first,((co,(sp,())),ws)))))))))=(.next (i+1,(rest-least,(all+w,((if 0<w∧first<0 then i else first),((co,(sp++[least],())),ws))))):Step St1 A):=by
 rw[FZ,Ab _ _ hx,Ab _ _ hx,Am (i+1) (by omega) (by omega),Am (rest-least) h1.1 h1.2]
 by_cases c:0<w∧first<0
 ·rw[Af _ _ (by simp[c]),if_pos c]
  try simp only
  rw[Ab _ _ hx,Ab _ _ hx,Am (all+w) h2.1 h2.2]
  exact Af _ _ (Bx (l:=sp) (by omega))
 ·rw[Ag _ _ (by
   apply Bool.eq_false_iff.2
   intro hh
   rw[Bool.and_eq_true,decide_eq_true_eq,decide_eq_true_eq] at hh
   exact c hh),if_neg c]
  try simp only
  rw[Ab _ _ hx,Ab _ _ hx,Am (all+w) h2.1 h2.2]
  exact Af _ _ (Bx (l:=sp) (by omega))
theorem AcV {s:Ae} {p:AB} {e:Int} (hx:BZ s) (hok:e=0→Dh s) (hc:Aw s=some e) (_hp:Uw p) (_ho:-9223372036854775808≤p.2.1∧p.2.1≤9223372036854775807):EH (s,p)=some (if e≠0 then ((0,(0,[])),e) else (EB s p,0)):=by
 unfold EH
 rw[Ab _ _ hc]
 by_cases h0:e=0
 ·subst h0
  have h:=hok rfl
  have N:=L5 hx h p
  obtain⟨l1,l2,l3⟩:=N.low
  obtain⟨c1,c2⟩:=N.cyc
  obtain⟨n1,n2⟩:=N.n
  have hnl:((nV s:Nat):Int)=Aa s.2.2.2.2.1:=rfl
  have hcy:min (max p.1 s.2.2.2.2.2.2.2.2.2.1) s.2.2.2.2.2.2.2.2.2.2.1=Dl s p:=rfl
  have htm:=Int.tmod_lt_of_pos p.2.1 (b:=Dl s p) (by omega)
  have htn:-(Dl s p)<p.2.1.tmod (Dl s p):=tS p.2.1 (by omega)
  have hof:FX (wr .i64 ((FX p.2.1 (Dl s p))+Dl s p)) (Dl s p)=OU s p:=by
   show (wr .i64 (p.2.1.tmod (Dl s p)+Dl s p)).tmod (Dl s p) = _
   rw[Am _ (by omega) (by omega)];rfl
  have hcz:(!(Dl s p==0))=true:=by simp;omega
  rw[Ag (b:=!((0:Int)==0)) _ _ rfl,if_neg (show ¬((0:Int)≠0) by simp)]
  simp only[DX,Gi,hcy,hof]
  rw[Af _ _ hcz,Af _ _ hcz,Af _ _ (Js (by omega) (by omega))]
  refine AI (fun z:St1=>z.1) (nV s:Int) (fun z=>z.2.1=Dl s p-DK s z.1.toNat∧z.2.2.1=Bk (BE s p) z.1.toNat∧z.2.2.2.1=Fv (BE s p) z.1.toNat∧z.2.2.2.2.1=((Dl s p,OU s p),(J2 (BL s) z.1.toNat,()))∧Aa z.2.2.2.2.2=(nV s:Int)∧(∀j,0≤j→j<z.1→idx z.2.2.2.2.2 j=some (BE s p j))∧∀j,z.1≤j→j<(nV s:Int)→idx z.2.2.2.2.2 j=some 0) (fun r=>r=some (EB s p,(0:Int))) (by omega) (by simp) (by simp only;omega) ⟨by simp[DK],rfl,rfl,rfl,Bu (by omega) _,fun j j0 j1=>absurd j1 (by simp only;omega),fun j j0 j1=>J6 j0 (by rw[←hnl];exact j1) _⟩ (fun z hI i0 i1=>?_) (fun z hI hz=>?_)
  ·obtain⟨i,rest,all,first,bx,ws⟩:=z
   obtain⟨hr,ha,hf,hb,hwl,hws,hw0⟩:=hI
   simp only at i0 i1 hr ha hf hb hwl hws hw0
   subst hr ha hf hb
   have hph:=Bb (l:=s.2.2.2.2.1) i0 (by rw[←hnl];exact i1)
   have hni:=J7 hx h i0 (by rw[←hnl];exact i1)
   have hmin:=(h.phased.1 i _ hph).min
   have hle:wr .i64 ((el s.2.2.2.2.1 i).2.1+(BL s i-(el s.2.2.2.2.1 i).2.1))=BL s i:=by
    rw[Am _ (by omega) (by omega)];omega
   have hwi:=N.wish i i0 i1
   have hro:=N.round i.toNat (by omega)
   have hal:=N.all i.toNat (by omega)
   have hll:=Ok (BL s) i.toNat
   have hwi0:=hw0 i (Int.le_refl _) i1
   have hsucc:(i+1).toNat=i.toNat+1:=by omega
   have hti:((i.toNat:Nat):Int)=i:=by omega
   try simp only
   rw[Af _ _ (decide_eq_true (by rw[←hnl];exact i1)),Ab _ _ hph,Ab _ _ (kA hx h hc hph)]
   simp only[hle]
   rw[FZ]
   have fin:∀ws':List Int,Aa ws'=(nV s:Int)→(∀j,0≤j→j<i+1→idx ws' j=some (BE s p j))→(∀j,i+1≤j→j<(nV s:Int)→idx ws' j=some 0)→C5 (fun z:St1=>z.1) (fun z=>z.2.1=Dl s p-DK s z.1.toNat∧z.2.2.1=Bk (BE s p) z.1.toNat∧z.2.2.2.1=Fv (BE s p) z.1.toNat∧z.2.2.2.2.1=((Dl s p,OU s p),(J2 (BL s) z.1.toNat,()))∧Aa z.2.2.2.2.2=(nV s:Int)∧(∀j,0≤j→j<z.1→idx z.2.2.2.2.2 j=some (BE s p j))∧∀j,z.1≤j→j<(nV s:Int)→idx z.2.2.2.2.2 j=some 0) (fun r:Option (AB×Int)=>r=some (EB s p,(0:Int))) i (.next (i+1,(Dl s p-DK s i.toNat-BL s i,(Bk (BE s p) i.toNat+BE s p i,((if 0<BE s p i∧Fv (BE s p) i.toNat<0 then i else Fv (BE s p) i.toNat),(((Dl s p,OU s p),(J2 (BL s) i.toNat++[BL s i],())),ws')))))):=fun ws' a1 a2 a3=>by
    refine ⟨rfl,?_,?_,?_,?_,a1,a2,a3⟩
    ·simp only;rw[hsucc,DK,hti];omega
    ·simp only;rw[hsucc,Bk,hti]
    ·simp only;rw[hsucc,Fv,hti]
    ·simp only;rw[hsucc,wR,hti]
   by_cases c:i<Aa p.2.2
   ·have hsp:=Bb (l:=p.2.2) i0 c
    have hwv:max 0 (wr .i64 (min (max 0 (el p.2.2 i)) s.2.2.2.2.2.2.2.2.2.2.1-BL s i))=BE s p i:=by
     have hh:LM s=s.2.2.2.2.2.2.2.2.2.2.1:=rfl
     rw[Am _ (by omega) (by omega)]
     unfold BE
     rw[if_pos c];rfl
    rw[Af _ _ (decide_eq_true c),Ab _ _ hsp,Ab _ _ hwi0,Ab _ _ hwi0]
    simp only[hwv]
    have hset:∀j,idx (A8 ws i (BE s p i)) j=if j=i then some (BE s p i) else idx ws j:=fun j=>CW i0 (by omega) _ j
    rw[XI (w:=BE s p i) ⟨i0,by omega⟩ (by rw[hset,if_pos rfl]) (by omega) (by omega) (by omega)]
    exact fin _ (by rw[Bw];exact hwl) (fun j j0 j1=>by
     rw[hset]
     split
     ·rename_i ej;rw[ej]
     ·exact hws j j0 (by omega)) (fun j j0 j1=>by rw[hset,if_neg (by omega)];exact hw0 j (by omega) j1)
   ·have hwv:BE s p i=0:=by unfold BE;rw[if_neg c]
    rw[Ag _ _ (decide_eq_false c)]
    try simp only
    rw[XI (w:=BE s p i) ⟨i0,by omega⟩ (by rw[hwv];exact hwi0) (by omega) (by omega) (by omega)]
    exact fin _ hwl (fun j j0 j1=>by
     by_cases ej:j=i
     ·rw[ej,hwv];exact hwi0
     ·exact hws j j0 (by omega)) (fun j j0 j1=>hw0 j (by omega) j1)
  ·obtain⟨i,rest,all,first,bx,ws⟩:=z
   obtain⟨hr,ha,hf,hb,hwl,hws,_⟩:=hI
   simp only at hz hr ha hf hb hwl hws
   subst hz
   rw[Int.toNat_natCast] at hr ha hf hb
   have hrV:rest=EK s p:=hr
   have haV:all=CM s p:=ha
   subst hrV haV hf hb
   obtain⟨r1,r2⟩:=N.rest
   have hlist:=Ok (BL s) (nV s)
   have hal:=N.all (nV s) (Nat.le_refl _)
   have hal1:0≤CM s p:=hal.1
   have hal2:CM s p≤1048576*(nV s:Int):=hal.2
   try simp only
   rw[Ag _ _ (decide_eq_false (by rw[←hnl];omega))]
   have hst:∀i,0≤i→i<(nV s:Int)→0≤CI s p i∧CI s p i≤1048576:=fun i i0 i1=>by
    have a1:=N.share i i0 i1
    have a2:=N.shares i.toNat (by omega)
    have a3:=N.shares (i.toNat+1) (by omega)
    rw[Bk,show ((i.toNat:Nat):Int)=i by omega] at a3
    omega
   refine AI (fun z:Int×Int×(Int×Int)×List Int×Unit=>z.1) (nV s:Int) (fun z=>z.2.1=EK s p-Bk (CI s p) z.1.toNat∧z.2.2.1=(Dl s p,OU s p)∧Aa z.2.2.2.1=(nV s:Int)∧(∀j,0≤j→j<z.1→idx z.2.2.2.1 j=some (KO s p j))∧∀j,0≤j→z.1≤j→j<(nV s:Int)→idx z.2.2.2.1 j=some (BL s j)) (fun r=>Lb (fun r=>r=some (EB s p,(0:Int))) (.done r:Step St1 (Option (AB×Int)))) (by omega) (by simp) (by simp only;omega) ⟨by simp[Bk],rfl,hlist,fun j j0 j1=>absurd j1 (by simp only;omega),fun j j0 _ j1=>SX j0 j1⟩ (fun z hI i0 i1=>?_) (fun z hI hz=>?_)
   ·obtain⟨i,left,co,sp,u⟩:=z
    obtain⟨hl,hco,hsl,hsp,hsn⟩:=hI
    simp only at i0 i1 hl hco hsl hsp hsn
    subst hl hco
    have hsi:=hsn i i0 (Int.le_refl _) i1
    have hni:=J7 hx h i0 (by rw[←hnl];exact i1)
    have hsucc:(i+1).toNat=i.toNat+1:=by omega
    have hti:((i.toNat:Nat):Int)=i:=by omega
    have hsh:=hst i i0 i1
    have hss:=N.shares i.toNat (by omega)
    try simp only
    rw[Af _ _ (decide_eq_true (by rw[hlist];exact i1)),Am (i+1) (by omega) (by omega)]
    by_cases c:0<CM s p
    ·have hwi:=N.wish i i0 i1
     have hmul:0≤EK s p*BE s p i∧EK s p*BE s p i≤1048576*1048576:=⟨Int.mul_nonneg r1 hwi.1,Int.mul_le_mul r2 hwi.2 hwi.1 (by omega)⟩
     have hsv:EK s p*BE s p i/CM s p=CI s p i:=by unfold CI;rw[if_pos c]
     have hq:EJ .i64 (wr .i64 (EK s p*BE s p i)) (CM s p)=CI s p i:=by
      rw[Am _ (by omega) (by omega),Acz hmul.1 c (by rw[hsv];omega),hsv]
     rw[Af _ _ (decide_eq_true c),Ab _ _ (hws i i0 i1),Af _ _ (by simp;omega),Ab _ _ hsi,Ab _ _ hsi,Ab _ _ hsi,Ab _ _ hsi]
     simp only[hq]
     rw[Am (BL s i+CI s p i) (by omega) (by omega),Am (EK s p-Bk (CI s p) i.toNat-CI s p i) (by omega) (by omega)]
     have hset:∀j,idx (A8 sp i (BL s i+CI s p i)) j=if j=i then some (BL s i+CI s p i) else idx sp j:=fun j=>CW i0 (by omega) _ j
     refine ⟨rfl,?_,rfl,by (try simp only);rw[Bw];exact hsl,fun j j0 j1=>?_,fun j j0 j1 j2=>?_⟩
     ·simp only;rw[hsucc,Bk,hti];omega
     ·simp only at j1 ⊢
      rw[hset]
      split
      ·rename_i ej;rw[ej];rfl
      ·exact hsp j j0 (by omega)
     ·simp only at j1 ⊢
      rw[hset,if_neg (by omega)]
      exact hsn j j0 (by omega) j2
    ·have hs0:∀j,CI s p j=0:=fun j=>by unfold CI;rw[if_neg c]
     rw[Ag _ _ (decide_eq_false c)]
     refine ⟨rfl,?_,rfl,hsl,fun j j0 j1=>?_,fun j j0 j1 j2=>hsn j j0 (by simp only at j1;omega) j2⟩
     ·simp only;rw[hsucc,Bk,hti,hs0];omega
     ·simp only at j1 ⊢
      by_cases ej:j=i
      ·rw[ej,hsi];unfold KO;rw[hs0,Int.add_zero]
      ·exact hsp j j0 (by omega)
   ·obtain⟨i,left,co,sp,u⟩:=z
    obtain⟨hl,hco,hsl,hsp,_⟩:=hI
    simp only at hz hl hco hsl hsp
    subst hz
    rw[Int.toNat_natCast] at hl
    have hlV:left=LO s p:=hl
    subst hlV hco
    obtain⟨a0,a1⟩:=N.at_
    have hat:max 0 (Fv (BE s p) (nV s))=atV s p:=rfl
    have hsa:=hsp (atV s p) a0 a1
    have hpa:=hst (atV s p) a0 a1
    have hna:=J7 hx h a0 (by rw[←hnl];exact a1)
    have hlf:0≤LO s p∧LO s p≤1048576:=by
     have:=N.shares (nV s) (Nat.le_refl _)
     unfold LO;omega
    try simp only[hat]
    rw[Ag _ _ (decide_eq_false (by rw[hlist];omega)),Ab _ _ hsa,Ab _ _ hsa,Ab _ _ hsa,Ab _ _ hsa,Am _ (by unfold KO;omega) (by unfold KO;omega)]
    show some _ = some _
    have hfin:A8 sp (atV s p) (KO s p (atV s p)+LO s p)=J2 (Jg s p) (nV s):=by
     refine GO (by rw[Bw,hsl,Ok]) fun j j0 j1=>?_
     rw[Bw,hsl] at j1
     rw[CW a0 (by omega),SX j0 j1]
     unfold Jg
     by_cases ej:j=atV s p
     ·rw[if_pos ej,if_pos ej,ej]
     ·rw[if_neg ej,if_neg ej];exact hsp j j0 j1
    rw[hfin]
    rfl
 ·rw[Af _ _ (by simp[h0]),if_pos h0]
end Go.Proofs.YtmmkfcpdfnjgjaaGreatDoor.Pn
namespace Go.Proofs.YtmmkfcpdfnjgjaaGreatDoor.Pn
open Go.Den
theorem Mr {f:Int→Int} {n:Nat} (h:∀k:Nat,k<n→0≤f (k:Int)) {k:Nat}:∀m,m≤n→k≤m→Bk f k≤Bk f m
 |0,_,hk=>by rw[show k=0 by omega];omega
 |m+1,hm,hk=>by
  by_cases e:k=m+1
  ·rw[e];omega
  ·have:=Mr h (k:=k) m (by omega) (by omega)
   have:=h m (by omega)
   rw[Bk];omega
theorem YQ {f g:Int→Int} {n:Nat} (h:∀k:Nat,k<n→f (k:Int)=g (k:Int)):∀m,m≤n→Bk f m=Bk g m
 |0,_=>rfl
 |m+1,hm=>by rw[Bk,Bk,YQ h m (by omega),h m (by omega)]
theorem nH (f g:Int→Int):∀m,Bk (fun i=>f i+g i) m=Bk f m+Bk g m
 |0=>rfl
 |m+1=>by rw[Bk,Bk,Bk,nH f g m];omega
theorem b9 (f:Int→Int) (a c:Int) (h0:0≤a):∀m,Bk (fun i=>if i=a then f i+c else f i) m=Bk f m+if a<(m:Int) then c else 0
 |0=>by rw[Bk,Bk,if_neg (by omega)];rfl
 |m+1=>by
  rw[Bk,Bk,b9 f a c h0 m]
  by_cases e:(m:Int)=a
  ·rw[if_pos e,if_neg (by omega),if_pos (by omega)];omega
  ·rw[if_neg e]
   by_cases e2:a<(m:Int)
   ·rw[if_pos e2,if_pos (by omega)];omega
   ·rw[if_neg e2,if_neg (by omega)];omega
theorem Qu (p:AB):∀m,Jb p m=p.1-Bk (fun i=>el p.2.2 i) m
 |0=>by rw[Jb,Bk];omega
 |m+1=>by rw[Jb,Bk,Qu p m];omega
theorem bZ {s:Ae} {p:AB} (hx:BZ s) (h:Dh s):Bk (Jg s p) (nV s)=Dl s p:=by
 have N:=L5 hx h p
 obtain⟨a0,a1⟩:=N.at_
 have e1:Bk (Jg s p) (nV s)=Bk (fun i=>if i=atV s p then KO s p i+LO s p else KO s p i) (nV s):=rfl
 rw[e1,b9 _ _ _ a0,if_pos a1]
 have e2:Bk (KO s p) (nV s)=Bk (fun i=>BL s i+CI s p i) (nV s):=rfl
 rw[e2,nH,YR]
 unfold LO EK NS nV
 omega
theorem gD {s:Ae} {p:AB} {j:Int} (j0:0≤j) (j1:j<(nV s:Int)):el (EB s p).2.2 j=Jg s p j:=by
 unfold el EB
 simp only
 rw[SX j0 j1];rfl
theorem nA {s:Ae} {p:AB} (hx:BZ s) (h:Dh s) {j:Int} (j0:0≤j) (j1:j<(nV s:Int)):BL s j≤Jg s p j:=by
 have N:=L5 hx h p
 have h1:=N.share j j0 j1
 have h2:=N.shares (nV s) (Nat.le_refl _)
 unfold Jg KO LO
 split<;>omega
theorem Abv {s:Ae} {p:AB} (hx:BZ s) (h:Dh s):FO s (EB s p):=by
 have N:=L5 hx h p
 have hnl:((nV s:Nat):Int)=Aa s.2.2.2.2.1:=rfl
 have hlen:Aa (EB s p).2.2=(nV s:Int):=Ok _ _
 have hlen':(EB s p).2.2.length=nV s:=by unfold Aa at hlen;omega
 have hsum:∀m,m≤nV s→Jb (EB s p) m=Dl s p-Bk (Jg s p) m:=fun m hm=>by
  rw[Qu]
  have e:Bk (fun i=>el (EB s p).2.2 i) m=Bk (Jg s p) m:=YQ (n:=nV s) (fun k hk=>gD (by omega) (by omega)) m hm
  rw[e];rfl
 refine ⟨N.cyc,⟨N.off.1,?_⟩,by rw[hlen,hnl],fun m hm=>?_,?_⟩
 ·have:=N.off.2
  show OU s p≤Dl s p-1
  omega
 ·rw[hlen] at hm
  rw[gD (by omega) hm,hsum m (by omega)]
  refine ⟨nA hx h (by omega) hm,?_⟩
  have:=Mr (f:=Jg s p) (n:=nV s) (k:=m+1) (fun k hk=>by
   have:=J7 hx h (i:=(k:Int)) (by omega) (by rw[←hnl];omega)
   have:=nA (p:=p) hx h (j:=(k:Int)) (by omega) (by omega)
   omega) (nV s) (Nat.le_refl _) (by omega)
  rw[Bk,bZ hx h] at this
  omega
 ·rw[hlen',hsum _ (Nat.le_refl _),bZ hx h];omega
theorem YJ {s:Ae} {p:AB} (hx:BZ s) (h:Dh s) (hc:Aw s=some 0) (hp:Uw p):∃b,D6 (s,p)=some (b,0)∧(b=true↔FO s p):=by
 unfold D6
 obtain⟨b,h1,h2⟩:=zR hx h.shape h.apart h.phased h.timed hp
 exact ⟨b,by rw[Ab _ _ hc,Ag (b:=!((0:Int)==0)) _ _ rfl,Ab _ _ h1],h2⟩
end Go.Proofs.YtmmkfcpdfnjgjaaGreatDoor.Pn
namespace Go.Proofs.YtmmkfcpdfnjgjaaGreatDoor.Pn
open Go.Den
def Gu (p:AB) (k:Nat):Int:=Bk (fun i=>el p.2.2 i) k
theorem L6 (p:AB) (k:Nat):Gu p (k+1)=Gu p k+el p.2.2 (k:Int):=rfl
structure P3 (s:Ae) (p:AB):Prop where
 cyc:1≤p.1∧p.1≤1048576
 off:0≤p.2.1∧p.2.1<p.1
 n:1≤nV s∧nV s≤8
 len:p.2.2.length=nV s
 needs:∀k:Nat,k<nV s→1≤BL s (k:Int)∧BL s (k:Int)≤el p.2.2 (k:Int)
 ends:∀k,k≤nV s→0≤Gu p k∧Gu p k≤p.1
 all:Gu p (nV s)=p.1
theorem wZ {s:Ae} {p:AB} (hx:BZ s) (h:Dh s) (hp:FO s p):P3 s p:=by
 have N:=L5 hx h p
 obtain⟨l1,l2,l3⟩:=N.low
 have hnl:((nV s:Nat):Int)=Aa s.2.2.2.2.1:=rfl
 have hplen:Aa p.2.2=(nV s:Int):=hp.len
 have hplen':p.2.2.length=nV s:=by unfold Aa at hplen;omega
 obtain⟨c1,c2⟩:=hp.cycle
 obtain⟨o1,o2⟩:=hp.offset
 have hc1:Qy s≤p.1:=c1
 have hc2:p.1≤LM s:=c2
 have hn:∀k:Nat,k<nV s→1≤BL s (k:Int)∧BL s (k:Int)≤el p.2.2 (k:Int):=fun k hk=>by
  have h1:=hp.split k (by omega)
  have h2:=J7 hx h (i:=(k:Int)) (by omega) (by rw[←hnl];omega)
  exact ⟨h2.1,h1.1⟩
 have hall:Gu p (nV s)=p.1:=by
  have:=hp.all
  rw[hplen',Qu] at this
  unfold Gu;omega
 have hpos:∀k:Nat,k<nV s→0≤(fun i=>el p.2.2 i) (k:Int):=fun k hk=>by
  have:=hn k hk
  simp only;omega
 refine ⟨by omega,by omega,N.n,hplen',hn,fun k hk=>⟨?_,?_⟩,hall⟩
 ·exact Mr (k:=0) hpos k hk (by omega)
 ·rw[←hall];exact Mr hpos (nV s) (Nat.le_refl _) hk
theorem Od {s:Ae} {p:AB} (N:P3 s p):∀k,k≤nV s→Cw p.2.2 k=Gu p k
 |0,_=>rfl
 |k+1,hk=>by
  have e:=N.ends (k+1) hk
  rw[Cw,Od N k (by omega),L6]
  have:(p.2.2[k]?).getD 0=el p.2.2 (k:Int):=by
   unfold el;rw[B7 (by omega)];rfl
  rw[this,Am _ (by rw[L6] at e;have:=N.cyc;omega) (by rw[L6] at e;have:=N.cyc;omega)]
def RT (p:AB) (k:Nat) (x:Int):Prop:=Gu p k≤x∧x<Gu p (k+1)
theorem zH {s:Ae} {p:AB} (N:P3 s p) {j k:Nat} (hk:k≤nV s) (h:j≤k):Gu p j≤Gu p k :=
 Mr (fun i hi=>by have:=N.needs i hi;show 0≤el p.2.2 (i:Int);omega) k hk h
theorem Ads {s:Ae} {p:AB} (N:P3 s p) {x:Int} (x0:0≤x) (x1:x<p.1):∃k:Nat,k<nV s∧RT p k x:=by
 have:∀m,m≤nV s→x<Gu p m→∃k:Nat,k<m∧RT p k x:=by
  intro m
  induction m with
  |zero=>intro _ h;simp[Gu,Bk] at h;omega
  |succ m ih =>
   intro hm h
   by_cases c:x<Gu p m
   ·obtain⟨k,hk,h2⟩:=ih (by omega) c
    exact ⟨k,by omega,h2⟩
   ·exact ⟨m,by omega,by omega,h⟩
 obtain⟨k,hk,h⟩:=this (nV s) (Nat.le_refl _) (by rw[N.all];exact x1)
 exact ⟨k,hk,h⟩
theorem tG {l:List Int} {pl:Int}:∀(n k j:Nat),k≤j→j<k+n→(∀i,k≤i→i<j→¬pl<Cw l (i+1))→pl<Cw l (j+1)→IQ l pl n k=((j:Int),(wr .i64 (wr .i64 (pl-Cw l (j+1))+(l[j]?).getD 0),0))
 |0,k,j,h1,h2,_,_=>by omega
 |n+1,k,j,h1,h2,hno,hy=>by
  rw[IQ]
  by_cases e:k=j
  ·subst e;rw[if_pos hy]
  ·rw[if_neg (hno k (Nat.le_refl _) (by omega))]
   exact tG n (k+1) j (by omega) (by omega) (fun i hi hj=>hno i (by omega) hj) hy
theorem AcQ {s:Ae} {p:AB} (N:P3 s p) {x:Int} {k:Nat} (hk:k<nV s) (h:RT p k x):IQ p.2.2 x p.2.2.length 0=((k:Int),(x-Gu p k,0)):=by
 have e1:=N.ends k (by omega)
 have e2:=N.ends (k+1) (by omega)
 have c:=N.cyc
 obtain⟨h1,h2⟩:=h
 rw[tG p.2.2.length 0 k (by omega) (by rw[N.len];omega) (fun i _ hi=>by
  rw[Od N (i+1) (by omega)]
  have:=zH N (j:=i+1) (k:=k) (by omega) (by omega)
  omega) (by rw[Od N (k+1) (by omega)];exact h2),Od N (k+1) (by omega)]
 have:(p.2.2[k]?).getD 0=el p.2.2 (k:Int):=by
  unfold el;rw[B7 (by omega)];rfl
 rw[this]
 rw[L6] at e2 h2 ⊢
 rw[Am (x-(Gu p k+el p.2.2 (k:Int))) (by omega) (by omega),Am _ (by omega) (by omega)]
 congr 2
 omega
def JR (p:AB) (t:Int):Int:=(t+p.1-p.2.1)%p.1
theorem Ab4 {s:Ae} {p:AB} (N:P3 s p) (t:Int):0≤JR p t∧JR p t<p.1:=by
 have c:=N.cyc
 exact ⟨Int.emod_nonneg _ (by omega),Int.emod_lt_of_pos _ (by omega)⟩
theorem Ae8 {s:Ae} {p:AB} {t:Int} (hx:BZ s) (h:Dh s) (hc:Aw s=some 0) (hp:Uw p) (hok:FO s p) (t0:0≤t) (t1:t≤1073741824) :
 ∃k:Nat,k<nV s∧RT p k (JR p t)∧G7 (s,(p,t))=some ((k:Int),(JR p t-Gu p k,0)):=by
 have N:=wZ hx h hok
 obtain⟨a,b⟩:=Ab4 N t
 obtain⟨k,hk,hpt⟩:=Ads N a b
 refine ⟨k,hk,hpt,?_⟩
 have c:=N.cyc
 have o:=N.off
 obtain⟨b,h1,h2⟩:=YJ hx h hc hp
 have hb:b=true:=h2.2 hok
 subst hb
 have hpl:FX (wr .i64 (wr .i64 (t+p.1)-p.2.1)) p.1=JR p t:=by
  rw[Am (t+p.1) (by omega) (by omega),Am _ (by omega) (by omega)]
  exact Int.tmod_eq_emod_of_nonneg (by omega)
 unfold G7
 simp only[h1]
 have hln:Aa p.2.2=(nV s:Int):=by unfold Aa;rw[N.len]
 have:=N.n
 rw[if_neg (by simp),if_neg (by simp),if_neg (by omega),if_neg (by omega),hpl,AcQ N hk hpt]
end Go.Proofs.YtmmkfcpdfnjgjaaGreatDoor.Pn
namespace Go.Proofs.YtmmkfcpdfnjgjaaGreatDoor
open Go.Den
def BV (s:Ae) (a b:Int):Bool:=AD (el s.2.2.1 a) b
def Fb (s:Ae) (a b:Int):Int:=el (el s.2.2.2.1 a) b
structure SOK (s:Ae):Prop where
 n1:1≤Aa s.2.1
 n2:Aa s.2.1≤16
 la:Aa s.2.2.1=Aa s.2.1
 lb:Aa s.2.2.2.1=Aa s.2.1
 rows:∀i r,idx s.2.2.2.1 i=some r→Aa r=Aa s.2.1
 us:∀i x,idx s.2.2.1 i=some x→Ax x
 grp:∀i g,idx s.2.1 i=some g→(1≤g.2.1∧g.2.1≤1048576)∧(1≤g.2.2∧g.2.2≤1048576)
 pair:∀a b,0≤a→a<Aa s.2.1→0≤b→b<Aa s.2.1→BV s a b=BV s b a∧(BV s a b=true→a≠b∧(el s.2.1 a).2.2≤Fb s a b∧Fb s a b≤1048576)∧(BV s a b=false→Fb s a b=0)
theorem sok {s:Ae} (hs:BZ s) (h:Dh s):SOK s where
 n1:=h.shape.n1
 n2:=h.shape.n2
 la:=h.shape.a
 lb:=h.shape.b
 rows:=h.shape.rows
 us:=fun i x hx=>hs.as x (An hx).2.2
 grp:=fun i g hg=>⟨(h.apart i g hg).min,(h.apart i g hg).yellow⟩
 pair:=fun a b a0 a1 b0 b1=>by
  have e1:=Bb (l:=s.2.1) a0 a1
  have e2:=Bb (l:=s.2.2.2.1) a0 (by rw[h.shape.b];exact a1)
  have e3:=Bb (l:=s.2.2.1) a0 (by rw[h.shape.a];exact a1)
  have e4:=Bb (l:=s.2.2.1) b0 (by rw[h.shape.a];exact b1)
  have e5:=Bb (l:=el s.2.2.2.1 a) b0 (by rw[h.shape.rows a _ e2];exact b1)
  exact (h.apart a _ e1).row _ _ b _ _ e2 e3 e5 e4
theorem AcT {s:Ae} (h:SOK s) {a b:Int} (a0:0≤a) (a1:a<Aa s.2.1) (b0:0≤b) (b1:b<Aa s.2.1):0≤Fb s a b∧Fb s a b≤1048576:=by
 obtain⟨_,h2,h3⟩:=h.pair a b a0 a1 b0 b1
 cases c:BV s a b with
 |true =>
  have:=h2 c
  have:=(h.grp a _ (Bb a0 a1)).2
  omega
 |false=>have:=h3 c;omega
theorem Zc {s:Ae} (h:SOK s) {a b:Int} (a0:0≤a) (a1:a<Aa s.2.1) (b0:0≤b) (b1:b<Aa s.2.1):CR (s,(a,b))=some (BV s a b):=by
 have n2:=h.n2
 have e:=Bb (l:=s.2.2.1) a0 (by rw[h.la];exact a1)
 unfold CR
 rw[Ab _ _ e,Af _ _ (decide_eq_true b0)]
 show some (Ai .and .u32 (Av .u32 (el s.2.2.1 a) b) 1==1) = _
 rw[R2 (h.us a _ e) b0 (by omega)]
 rfl
theorem aI {s:Ae} (h:SOK s) {a b:Int} (a0:0≤a) (a1:a<Aa s.2.1) (b0:0≤b) (b1:b<Aa s.2.1):C9 (s,(a,b))=some (Fb s a b):=by
 have e:=Bb (l:=s.2.2.2.1) a0 (by rw[h.lb];exact a1)
 unfold C9
 rw[Ab _ _ e,Ab _ _ (Bb b0 (by rw[h.rows a _ e];exact b1))]
 rfl
structure eE (s:Ae) (m:Int):Prop where
 lo:0≤m
 hi:m≤1048576
 all:∀a b,0≤a→a<Aa s.2.1→0≤b→b<Aa s.2.1→BV s a b=true→Fb s a b≤m
 one:m=0∨∃a b,0≤a∧a<Aa s.2.1∧0≤b∧b<Aa s.2.1∧BV s a b=true∧m=Fb s a b
theorem zW {s:Ae} (h:SOK s) {F:Int×Int→Step (Int×Int) (Option Int)} {B:Int→Int×Int→Step (Int×Int) (Step (Int×Int) (Option Int))}
 (hF:∀m a,0≤a→a<Aa s.2.1→F (m,a)=iter (.done none) (B a) AA (m,0)) (hFe:∀m,F (m,Aa s.2.1)=.done (some m))
 (hB:∀m a b,0≤a→a<Aa s.2.1→0≤b→b<Aa s.2.1→B a (m,b)=.next (if BV s a b=true then max m (Fb s a b) else m,wr .i64 (b+1))) (hBe:∀m a,0≤a→a<Aa s.2.1→B a (m,Aa s.2.1)=.done (.next (m,wr .i64 (a+1)))) :
 ∃m,iter none F AA (0,0)=some m∧eE s m:=by
 have n1:=h.n1
 have n2:=h.n2
 refine AI (fun z:Int×Int=>z.2) (Aa s.2.1) (fun z=>0≤z.1∧z.1≤1048576∧(∀a b,0≤a→a<z.2→0≤b→b<Aa s.2.1→BV s a b=true→Fb s a b≤z.1)∧(z.1=0∨∃a b,0≤a∧a<Aa s.2.1∧0≤b∧b<Aa s.2.1∧BV s a b=true∧z.1=Fb s a b)) (fun r:Option Int=>∃m,r=some m∧eE s m) (by omega) (by simp) (by simp only;omega) ⟨by simp,by simp,fun a b h0 h1=>by simp only at h1;omega,.inl rfl⟩ (fun z hI a0 a1=>?_) (fun z hI hz=>?_)
 ·obtain⟨m,a⟩:=z
  obtain⟨g1,g2,g3,g4⟩:=hI
  simp only at a0 a1 g1 g2 g3 g4
  rw[hF m a a0 a1]
  refine AI (fun z:Int×Int=>z.2) (Aa s.2.1) (fun z=>0≤z.1∧z.1≤1048576∧(∀a' b,0≤a'→(a'<a∧b<Aa s.2.1∨a'=a∧b<z.2)→0≤b→BV s a' b=true→Fb s a' b≤z.1)∧(z.1=0∨∃a b,0≤a∧a<Aa s.2.1∧0≤b∧b<Aa s.2.1∧BV s a b=true∧z.1=Fb s a b)) _ (by omega) (by simp) (by simp only;omega) ⟨g1,g2,fun a' b h0 h1 h2 h3=>?_,g4⟩ (fun z hJ b0 b1=>?_) (fun z hJ hz=>?_)
  ·rcases h1 with ⟨h1,h4⟩|⟨h1,h4⟩
   ·exact g3 a' b h0 h1 h2 h4 h3
   ·simp only at h4;omega
  ·obtain⟨m,b⟩:=z
   obtain⟨g1,g2,g3,g4⟩:=hJ
   simp only at b0 b1 g1 g2 g3 g4
   have hbw:=AcT h a0 a1 b0 b1
   rw[hB m a b a0 a1 b0 b1,Am (b+1) (by omega) (by omega)]
   refine ⟨rfl,?_,?_,fun a' b' h0 h1 h2 h3=>?_,?_⟩
   ·simp only;split<;>omega
   ·simp only;split<;>omega
   ·simp only at h1 ⊢
    by_cases e:a'=a∧b'=b
    ·obtain⟨rfl,rfl⟩:=e
     rw[if_pos h3];omega
    ·have:=g3 a' b' h0 (by omega) h2 h3
     split<;>omega
   ·try simp only
    split
    ·rename_i c
     by_cases hle:Fb s a b≤m
     ·rw[Int.max_eq_left hle];exact g4
     ·rw[Int.max_eq_right (by omega)];exact .inr ⟨a,b,a0,a1,b0,b1,c,rfl⟩
    ·exact g4
  ·obtain⟨m,b⟩:=z
   obtain⟨g1,g2,g3,g4⟩:=hJ
   simp only at hz g1 g2 g3 g4
   subst hz
   rw[hBe m a a0 a1,Am (a+1) (by omega) (by omega)]
   exact ⟨rfl,g1,g2,fun a' b h0 h1 h2 h4 h5=>g3 a' b h0 (by simp only at h1;omega) h2 h5,g4⟩
 ·obtain⟨m,a⟩:=z
  obtain⟨g1,g2,g3,g4⟩:=hI
  simp only at hz g1 g2 g3 g4
  subst hz
  rw[hFe m]
  exact ⟨m,rfl,g1,g2,g3,g4⟩
theorem X2 {s:Ae} (h:SOK s):∃m,B0 s=some m∧eE s m:=by
 unfold B0
 refine zW h (F:=_) (B:=fun a x2=>(cnd (decide (x2.2<(Aa s.2.1)))
(Ad (CR (s,(a,x2.2))) (.done (.done none)) (fun x3 =>
(cnd x3
(Ad (C9 (s,(a,x2.2))) (.done (.done none)) (fun x4 =>
(.next ((Ct x2.1 x4),(wr .i64 (x2.2+1))))))
(.next (x2.1,(wr .i64 (x2.2+1)))))))
(.done (.next (x2.1,(wr .i64 (a+1))))))) (fun m a a0 a1=>by (try simp only);rw[Af _ _ (decide_eq_true a1)]) (fun m=>by (try simp only);rw[Ag _ _ (decide_eq_false (by omega))]) (fun m a b a0 a1 b0 b1=>?_) (fun m a a0 a1=>by (try simp only);rw[Ag _ _ (decide_eq_false (by omega))])
 try simp only
 rw[Af _ _ (decide_eq_true b1),Ab _ _ (Zc h a0 a1 b0 b1)]
 cases c:BV s a b with
 |true=>rw[Af _ _ rfl,Ab _ _ (aI h a0 a1 b0 b1),Gi,if_pos rfl]
 |false=>rw[Ag _ _ rfl,if_neg (by simp)]
def grt (s:Ae):Int:=(B0 s).getD 0
theorem wE {s:Ae} (h:SOK s):B0 s=some (grt s):=by
 obtain⟨m,h1,_⟩:=X2 h
 unfold grt;rw[h1];rfl
theorem iH {s:Ae} (h:SOK s):eE s (grt s):=by
 obtain⟨m,h1,h2⟩:=X2 h
 unfold grt;rw[h1];exact h2
def xO:A9:=(1,(1,1048576))
def KG (s:Ae):AE:=(AQ (Aa s.2.1) xO,(grt s,false))
theorem Ac6 {s:Ae} (h:SOK s):HJ s=some (KG s):=by
 have n1:=h.n1
 have n2:=h.n2
 unfold HJ
 rw[Ab _ _ (wE h)]
 refine AI (fun z:Int×Unit×List A9×Int×Bool=>z.1) (Aa s.2.1) (fun z=>z.2.2=(AQ z.1 xO,(grt s,false))) (fun r=>r=some (KG s)) (by omega) (by simp) (by simp only;omega) rfl (fun z hI i0 i1=>?_) (fun z hI hz=>?_)
 ·obtain⟨i,u,l,m,f⟩:=z
  simp only at hI i0 i1
  cases hI
  try simp only
  rw[Af _ _ (decide_eq_true i1),Af _ _ (Bx (l:=AQ i xO) (b:=24) (by rw[Bu i0];omega)),Am (i+1) (by omega) (by omega)]
  refine ⟨rfl,?_⟩
  try simp only
  rw[←Aah i0];rfl
 ·obtain⟨i,u,l,m,f⟩:=z
  simp only at hI hz
  cases hI
  subst hz
  try simp only
  rw[Ag _ _ (decide_eq_false (by omega))]
  rfl
def Ck (l:List Int):Bool:=decide (∀a∈l,a=4)
theorem Zv {l:List Int} (hl:l.length≤maxLen):D5 l=some (Ck l):=by
 unfold D5 Ck
 have conv:(∀a∈l,a=4)↔(∀(i:Int) a,idx l i=some a→a=4):=⟨fun h i a ha=>h a (An ha).2.2,fun h a ha=>by obtain⟨i,hi⟩:=ES ha;exact h i a hi⟩
 refine Ds (l:=l) (fun r:Option Bool=>r=some (decide (∀a∈l,a=4))) (fun _ a=>a=4) (some false) (some true) hl (fun i a h0 hi ha=>?_) (fun i hi=>by (try simp only);rw[Ag _ _ (decide_eq_false hi)];try rfl) (fun h=>by rw[decide_eq_true (conv.2 h)]) (fun h=>by rw[decide_eq_false (fun hh=>h (conv.1 hh))])
 try simp only
 rw[Af _ _ (decide_eq_true hi),Ab _ _ ha]
 by_cases c:a=4
 ·exact .inl ⟨c,by rw[Ag _ _ (by simp[c])]⟩
 ·exact .inr ⟨c,by rw[Af _ _ (by simp[c]),decide_eq_true h0];rfl⟩
theorem u7 {l:List Int} {v:Int} (hl:l.length≤maxLen):BO (l,v)=some (decide (v∈l)):=by
 have hm:Aa l≤9223372036854775807:=wV hl
 unfold BO
 have key:∃j,B9 (l,v)=some j∧(0≤j↔v∈l):=by
  unfold B9
  refine AI (fun i:Int=>i) (Aa l) (fun i=>∀j a,j<i→idx l j=some a→a≠v) (fun r:Option Int=>∃j,r=some j∧(0≤j↔v∈l)) (by omega) (by simp) (Ap l) (fun j a h1 h2=>by have:=(An h2).1;omega) (fun i hI i0 i1=>?_) (fun i hI hi=>?_)
  ·have i0:0≤i:=i0
   have i1:i<Aa l:=i1
   obtain⟨a,ha,ham⟩:=Au i0 i1
   try simp only
   rw[Af _ _ (decide_eq_true i1),Ab _ _ ha]
   by_cases c:v=a
   ·rw[Af _ _ (by simpa using c)]
    exact ⟨i,rfl,fun _=>by rw[c];exact ham,fun _=>i0⟩
   ·rw[Ag _ _ (by simpa using c),Am (i+1) (by omega) (by omega)]
    refine ⟨rfl,fun j b h1 h2=>?_⟩
    by_cases e:j=i
    ·subst e;rw[ha] at h2;cases h2;exact fun h=>c h.symm
    ·exact hI j b (by omega) h2
  ·have hi:i=Aa l:=hi
   try simp only
   rw[Ag _ _ (decide_eq_false (by omega))]
   refine ⟨-1,rfl,fun h=>by omega,fun h=>?_⟩
   obtain⟨j,hj⟩:=ES h
   exact absurd rfl (hI j v (by have:=(An hj).2.1;omega) hj)
 obtain⟨j,h1,h2⟩:=key
 rw[Ab _ _ h1]
 congr 1
 exact decide_eq_decide.2 h2
theorem AdK {now:AE} (hl:Aa now.1≤1000):HK now=some (now.1.map (·.1)):=by
 have hn:=Ap now.1
 unfold HK
 rw[Af _ _ (Js hn (by omega))]
 refine AI (fun z:Int×List Int=>z.1) (Aa now.1) (fun z=>Aa z.2=Aa now.1∧∀j,0≤j→j<z.1→idx z.2 j=idx (now.1.map (·.1)) j) (fun r=>r=some (now.1.map (·.1))) (by omega) (by simp) hn ⟨Bu hn _,fun j j0 j1=>absurd j1 (by simp only;omega)⟩ (fun z hI i0 i1=>?_) (fun z hI hz=>?_)
 ·obtain⟨i,out⟩:=z
  obtain⟨hlen,hj⟩:=hI
  simp only at i0 i1 hlen hj
  obtain⟨x,hx,_⟩:=Au i0 i1
  obtain⟨y,hy,_⟩:=Au (l:=out) i0 (by omega)
  try simp only
  rw[Af _ _ (decide_eq_true i1),Ab _ _ hx,Ab _ _ hy,Ab _ _ hy,Am (i+1) (by omega) (by omega)]
  refine ⟨rfl,by (try simp only);rw[Bw];exact hlen,fun j j0 j1=>?_⟩
  simp only at j1 ⊢
  rw[CW i0 (by omega)]
  split
  ·rename_i e;rw[e,Pt,hx];rfl
  ·exact hj j j0 (by omega)
 ·obtain⟨i,out⟩:=z
  obtain⟨hlen,hj⟩:=hI
  simp only at hz hlen hj
  try simp only
  rw[Ag _ _ (decide_eq_false (by omega))]
  show some out = _
  rw[GO (m:=now.1.map (·.1)) (by rw[Jc];exact hlen) fun j j0 j1=>hj j j0 (by omega)]
def Jk (s:Ae) (l:List Int):Prop:=∃a b x y,b<a∧idx l a=some x∧idx l b=some y∧x≠1∧y≠1∧BV s a b=true
theorem Aaj {s:Ae} {l:List Int} (h:SOK s) (hl:Aa l=Aa s.2.1):∃r,Ew (s,l)=some r∧(r=true↔Jk s l):=by
 have n2:=h.n2
 unfold Ew
 refine bG (Aa l) (fun a=>a) (fun a b=>∃x y,idx l a=some x∧idx l b=some y∧x≠1∧y≠1∧BV s a b=true) (some true) (some false) (fun r=>∃b,r=some b∧(b=true↔Jk s l)) (bad2:=.done none) (B:=fun x1 x3=>(cnd (decide (x3<x1))
(Ad (idx l x3) (.done (.done none)) (fun x4 =>
(Ay (CY x4) (fun y1 =>
(cnd (!y1)
(Ad (CR (s,(x1,x3))) (.done (.done none)) (fun x5 =>
(cnd x5
(.done (.done (some true)))
(.next (wr .i64 (x3+1))))))
(.next (wr .i64 (x3+1))))))))
(.done (.next (wr .i64 (x1+1)))))) (Ap l) (by omega) (fun a a0 a1=>⟨a0,by omega⟩) (fun a a0 a1=>?_) (by (try simp only);rw[Ag _ _ (decide_eq_false (by omega))]) (fun a a0 a1=>by (try simp only);rw[Ag _ _ (decide_eq_false (by omega))]) (fun ⟨a,b,a0,a1,b0,b1,x,y,q⟩=>⟨true,rfl,fun _=>⟨a,b,x,y,b1,q⟩,fun _=>rfl⟩) (fun hno=>⟨false,rfl,fun h=>(by cases h),fun ⟨a,b,x,y,q0,q1,q2,q3⟩=>absurd ⟨x,y,q1,q2,q3⟩ (hno a b (An q1).1 (An q1).2.1 (An q2).1 q0)⟩)
 obtain⟨x,hx,_⟩:=Au a0 a1
 try simp only
 rw[Af _ _ (decide_eq_true a1),Ab _ _ hx,AG]
 by_cases c:x=1
 ·rw[Af _ _ (show CY x=true by rw[c];rfl)]
  exact .inl ⟨rfl,fun b b0 b1 ⟨x',y,q1,q2,q3,_⟩=>by rw[hx] at q1;cases q1;exact q3 c⟩
 ·rw[Ag _ _ (show CY x=false by unfold CY;simpa using c)]
  refine .inr ⟨rfl,fun b b0 b1=>?_⟩
  obtain⟨y,hy,_⟩:=Au (l:=l) b0 (by omega)
  rw[Af _ _ (decide_eq_true b1),Ab _ _ hy,AG]
  by_cases c2:y=1
  ·rw[Ag _ _ (show (!(CY y))=false by rw[c2];rfl)]
   exact .inr ⟨fun ⟨x',y',q1,q2,q3,q4,_⟩=>by rw[hy] at q2;cases q2;exact q4 c2,rfl⟩
  ·rw[Af _ _ (show (!(CY y))=true by unfold CY;simpa using c2),Ab _ _ (Zc h a0 (by omega) b0 (by omega))]
   cases c3:BV s a b with
   |true=>rw[Af _ _ rfl];exact .inl ⟨⟨x,y,hx,hy,c,c2,rfl⟩,rfl⟩
   |false =>
    rw[Ag _ _ rfl]
    exact .inr ⟨fun ⟨_,_,_,_,_,_,q⟩=>(by cases q),rfl⟩
def M9 (s:Ae) (ws:List A9) (l:List Int):Prop:=∃i k w v,idx ws i=some w∧idx l i=some 2∧w.1≠2∧idx ws k=some v∧BV s k i=true∧v.2.2<Fb s k i
theorem AcX {s:Ae} {now:AE} {l:List Int} (h:SOK s) (hw:Aa now.1=Aa s.2.1) (hl:Aa l=Aa s.2.1):∃r,FC (s,(now,l))=some r∧(r=true↔M9 s now.1 l):=by
 have n2:=h.n2
 have hwn:=Ap now.1
 unfold FC
 refine bG (Aa now.1) (fun _=>Aa now.1) (fun i k=>∃w v,idx now.1 i=some w∧idx l i=some 2∧w.1≠2∧idx now.1 k=some v∧BV s k i=true∧v.2.2<Fb s k i) (some true) (some false) (fun r=>∃b,r=some b∧(b=true↔M9 s now.1 l)) (bad2:=.done none) (B:=fun x1 x4=>(cnd (decide (x4<(Aa now.1)))
(Ad (idx now.1 x4) (.done (.done none)) (fun x5 =>
(Ad (CR (s,(x4,x1))) (.done (.done none)) (fun x6 =>
(cnd x6
(Ad (C9 (s,(x4,x1))) (.done (.done none)) (fun x7 =>
(cnd (decide (x5.2.2<x7))
(.done (.done (some true)))
(.next (wr .i64 (x4+1))))))
(.next (wr .i64 (x4+1))))))))
(.done (.next (wr .i64 (x1+1)))))) hwn (by omega) (fun a a0 a1=>⟨hwn,by omega⟩) (fun a a0 a1=>?_) (by (try simp only);rw[Ag _ _ (decide_eq_false (by omega))]) (fun a a0 a1=>by (try simp only);rw[Ag _ _ (decide_eq_false (by omega))]) (fun ⟨a,b,a0,a1,b0,b1,w,v,q⟩=>⟨true,rfl,fun _=>⟨a,b,w,v,q⟩,fun _=>rfl⟩) (fun hno=>⟨false,rfl,fun h=>(by cases h),fun ⟨i,k,w,v,q1,q2,q3,q4,q5⟩=>absurd ⟨w,v,q1,q2,q3,q4,q5⟩ (hno i k (An q1).1 (An q1).2.1 (An q4).1 (An q4).2.1)⟩)
 obtain⟨w,hx,_⟩:=Au a0 a1
 obtain⟨x,hx2,_⟩:=Au (l:=l) a0 (by omega)
 try simp only
 rw[Af _ _ (decide_eq_true a1),Ab _ _ hx,Ab _ _ hx2]
 by_cases c:x=2∧w.1≠2
 ·rw[Ag _ _ (by simp[c.1,c.2])]
  refine .inr ⟨rfl,fun b b0 b1=>?_⟩
  obtain⟨v,hv,_⟩:=Au (l:=now.1) b0 b1
  rw[Af _ _ (decide_eq_true b1),Ab _ _ hv,Ab _ _ (Zc h b0 (by omega) a0 (by omega))]
  cases c3:BV s b a with
  |true =>
   rw[Af _ _ rfl,Ab _ _ (aI h b0 (by omega) a0 (by omega))]
   by_cases c4:v.2.2<Fb s b a
   ·rw[Af _ _ (decide_eq_true c4)]
    exact .inl ⟨⟨w,v,hx,by rw[hx2,c.1],c.2,hv,rfl,c4⟩,rfl⟩
   ·rw[Ag _ _ (decide_eq_false c4)]
    exact .inr ⟨fun ⟨_,v',_,_,_,q4,_,q6⟩=>by rw[hv] at q4;cases q4;exact c4 q6,rfl⟩
  |false =>
   rw[Ag _ _ rfl]
   exact .inr ⟨fun ⟨_,_,_,_,_,_,q,_⟩=>(by cases q),rfl⟩
 ·rw[Af _ _ (by
   simp only[Bool.or_eq_true,Bool.not_eq_true',beq_eq_false_iff_ne,ne_eq,beq_iff_eq]
   by_cases e:x=2
   ·exact .inr (Decidable.not_not.1 fun hh=>c ⟨e,hh⟩)
   ·exact .inl e)]
  exact .inl ⟨rfl,fun b b0 b1 ⟨w',v,q1,q2,q3,_⟩=>by rw[hx] at q1;cases q1;rw[hx2] at q2;cases q2;exact c ⟨rfl,q3⟩⟩
def Hg:List Co→List A9→List Int→Int
 |g::gs,w::ws,a::as=>if De (g,(w,a))≠0 then De (g,(w,a)) else Hg gs ws as
 |_,_,_=>0
theorem Adj {A:Type} {bad:A} {F:Int→Step Int A} {gs:List Co} {ws:List A9} {l:List Int} (fl:Bool) (out:Int→A) (R:A) (hg:Aa gs=Aa l) (hw:Aa ws=Aa l) (hl:Aa l≤1000)
 (hF:∀i g w a,0≤i→i<Aa l→idx gs i=some g→idx ws i=some w→idx l i=some a→F i=cnd ((!(De (g,(w,a))==0))&&(!fl)) (.done (out (De (g,(w,a))))) (.next (wr .i64 (i+1)))) (hFe:F (Aa l)=.done R) :
 iter bad F AA 0=if fl=false∧Hg gs ws l≠0 then out (Hg gs ws l) else R:=by
 refine AI (fun i:Int=>i) (Aa l) (fun i=>fl=false→Hg gs ws l=Hg (gs.drop i.toNat) (ws.drop i.toNat) (l.drop i.toNat)) (fun r=>r=if fl=false∧Hg gs ws l≠0 then out (Hg gs ws l) else R) (by omega) (by simp) (Ap l) (fun _=>rfl) (fun i hI i0 i1=>?_) (fun i hI hi=>?_)
 ·have i0:0≤i:=i0
  have i1:i<Aa l:=i1
  obtain⟨g,hg',_⟩:=Au (l:=gs) i0 (by omega)
  obtain⟨w,hw',_⟩:=Au (l:=ws) i0 (by omega)
  obtain⟨a,ha,_⟩:=Au i0 i1
  rw[hF i g w a i0 i1 hg' hw' ha]
  by_cases c:fl=false∧De (g,(w,a))≠0
  ·rw[Af _ _ (by simp[c.1,c.2])]
   have e:=hI c.1
   rw[Hc hg',Hc hw',Hc ha,Hg,if_pos c.2] at e
   show out _ = _
   rw[e,if_pos c]
  ·rw[Ag _ _ (by
    simp only[Bool.and_eq_false_iff,Bool.not_eq_false',beq_iff_eq]
    cases fl with
    |true=>exact .inr rfl
    |false=>exact .inl (Decidable.not_not.1 fun hh=>c ⟨rfl,hh⟩)),Am (i+1) (by omega) (by omega)]
   refine ⟨rfl,fun hfl=>?_⟩
   have e:=hI hfl
   rw[Hc hg',Hc hw',Hc ha,Hg,if_neg (fun hh=>c ⟨hfl,hh⟩)] at e
   exact e
 ·have hi:i=Aa l:=hi
  subst hi
  rw[hFe]
  show R = _
  rw[if_neg]
  rintro⟨hfl,hne⟩
  have e:=hI hfl
  rw[WC (l:=l) (by omega)] at e
  apply hne
  rw[e]
  unfold Hg
  split
  ·rename_i h3;cases h3
  ·rfl
open Classical in
noncomputable def G4 (s:Ae) (now:AE) (l:List Int):Int :=
 if Aa l≠Aa s.2.1 then 1 else if Ck l=true then 0 else if 4∈l then 7 else
 if (now.2.2=true∨0<now.2.1)∧∃a∈l,a≠1 then 8 else
 if now.2.2=false∧Hg s.2.1 now.1 l≠0 then Hg s.2.1 now.1 l else
 if Jk s l then 3 else if M9 s now.1 l then 4 else 0
theorem Acb {A:Type} {bad:A} {l:List Int} {F:Int→Step Int A} (P:A→Prop) (yes no:A) (hl:l.length≤maxLen)
 (hF:∀i a,0≤i→i<Aa l→idx l i=some a→F i=cnd (!(CY a)) (.done yes) (.next (wr .i64 (i+1)))) (hFe:∀i,¬i<Aa l→F i=.done no) (hy:(∃a∈l,a≠1)→P yes) (hn:¬(∃a∈l,a≠1)→P no):P (iter bad F AA 0):=by
 refine Ds (l:=l) P (fun _ a=>a=1) yes no hl (fun i a h0 hi ha=>?_) hFe (fun h=>hn fun ⟨a,ha,hne⟩=>by obtain⟨i,hi⟩:=ES ha;exact hne (h i a hi)) (fun h=>hy ?_)
 ·rw[hF i a h0 hi ha]
  by_cases c:a=1
  ·exact .inl ⟨c,by rw[Ag _ _ (show (!(CY a))=false by rw[c];rfl)]⟩
  ·exact .inr ⟨c,by rw[Af _ _ (show (!(CY a))=true by unfold CY;simpa using c)]⟩
 ·apply Classical.byContradiction
  intro hn
  exact h fun i a ha=>Classical.byContradiction fun hne=>hn ⟨a,(An ha).2.2,hne⟩
theorem Ac5 {s:Ae} {now:AE} {l:List Int} (h:SOK s) (hw:Aa now.1=Aa s.2.1) (hl:l.length≤maxLen):HI (s,(now,l))=some (G4 s now l):=by
 have n2:=h.n2
 unfold HI G4
 by_cases c1:Aa l=Aa s.2.1
 ·rw[Ag _ _ (by simpa using c1),if_neg (by simpa using c1),Ab _ _ (Zv hl),AS]
  by_cases c2:Ck l=true
  ·rw[if_pos c2,if_pos c2]
  ·rw[if_neg c2,if_neg c2,Ab _ _ (u7 hl)]
   by_cases c3:4∈l
   ·rw[Af _ _ (decide_eq_true c3),if_pos c3]
   ·rw[Ag _ _ (decide_eq_false c3),if_neg c3,FZ]
    have hR:iter none (fun x4:Int =>
(cnd (decide (x4<(Aa now.1)))
(Ad (idx now.1 x4) (.done none) (fun x5 =>
(Ad (idx s.2.1 x4) (.done none) (fun x6 =>
(Ad (idx l x4) (.done none) (fun x7 =>
(Ay (De (x6,(x5,x7))) (fun y =>
(cnd ((!(y==0))&&(!now.2.2))
(.done (some y))
(.next (wr .i64 (x4+1))))))))))))
(.done (Ad (Ew (s,l)) none (fun x5 =>
(cnd x5
(some 3)
(Ad (FC (s,(now,l))) none (fun x6 =>
(cnd x6
(some 4)
(some 0)))))))))) AA 0=some (if now.2.2=false∧Hg s.2.1 now.1 l≠0 then Hg s.2.1 now.1 l else @ite _ (Jk s l) (Classical.propDecidable _) 3 (@ite _ (M9 s now.1 l) (Classical.propDecidable _) 4 0)):=by
     obtain⟨r,r1,r2⟩:=Aaj h c1
     obtain⟨q,q1,q2⟩:=AcX h hw c1
     have hm:=Adj (bad:=none) (gs:=s.2.1) (ws:=now.1) (l:=l) (F:=fun x4:Int =>
(cnd (decide (x4<(Aa now.1)))
(Ad (idx now.1 x4) (.done none) (fun x5 =>
(Ad (idx s.2.1 x4) (.done none) (fun x6 =>
(Ad (idx l x4) (.done none) (fun x7 =>
(Ay (De (x6,(x5,x7))) (fun y =>
(cnd ((!(y==0))&&(!now.2.2))
(.done (some y))
(.next (wr .i64 (x4+1))))))))))))
(.done (Ad (Ew (s,l)) none (fun x5 =>
(cnd x5
(some 3)
(Ad (FC (s,(now,l))) none (fun x6 =>
(cnd x6
(some 4)
(some 0))))))))))  now.2.2 (fun y=>some y) (some (@ite _ (Jk s l) (Classical.propDecidable _) 3 (@ite _ (M9 s now.1 l) (Classical.propDecidable _) 4 0))) (by omega) (by omega) (by omega) (fun i g w a i0 i1 hg hw' ha=>by
      rw[Af _ _ (decide_eq_true (by omega)),Ab _ _ hw',Ab _ _ hg,Ab _ _ ha,AG]) (by
      rw[Ag _ _ (decide_eq_false (by omega)),Ab _ _ r1,Ab _ _ q1,AS,AS]
      congr 1
      by_cases cm:Jk s l
      ·rw[if_pos (r2.2 cm),if_pos cm]
      ·rw[if_neg (fun hh=>cm (r2.1 hh)),if_neg cm]
       by_cases cc:M9 s now.1 l
       ·rw[if_pos (q2.2 cc),if_pos cc]
       ·rw[if_neg (fun hh=>cc (q2.1 hh)),if_neg cc])
     rw[hm]
     split<;>rfl
    simp only[hR]
    rw[AS]
    split
    ·rename_i c4
     have c4:now.2.2=true∨0<now.2.1:=by simpa using c4
     refine Acb (l:=l) (fun r=>r=some _) (some 8) (some (if now.2.2=false∧Hg s.2.1 now.1 l≠0 then Hg s.2.1 now.1 l else @ite _ (Jk s l) (Classical.propDecidable _) 3 (@ite _ (M9 s now.1 l) (Classical.propDecidable _) 4 0))) hl (fun i a i0 i1 ha=>?_) (fun i hi=>?_) (fun hex=>?_) (fun hne=>?_)
     ·rw[Af _ _ (decide_eq_true i1),Ab _ _ ha,AG,decide_eq_true i0];rfl
     ·rw[Ag _ _ (decide_eq_false hi)];rfl
     ·exact (congrArg some (if_pos ⟨c4,hex⟩)).symm
     ·exact (congrArg some (if_neg (fun hh=>hne hh.2))).symm
    ·rename_i c4
     have c4:¬(now.2.2=true∨0<now.2.1):=by simpa using c4
     exact (congrArg some (if_neg (fun hh=>c4 hh.1))).symm
 ·rw[Af _ _ (by simpa using c1),if_pos c1]
def nxt (w:A9) (a:Int):A9:=H0 ((0,(0,0)),(w,a))
theorem Aeu (g:Co) (w:A9) (a:Int):H0 (g,(w,a))=nxt w a:=rfl
def C6 (s:Ae) (now:AE) (l:List Int):AE :=
 (List.zipWith nxt now.1 l,(if Ck l=true then grt s else if now.2.2=true then max 0 (grt s-1) else max 0 (now.2.1-1),Ck l))
structure eU (s:Ae) (now:AE):Prop where
 n:Aa now.1=Aa s.2.1
 lo:0≤now.2.1
 hi:now.2.1≤1048576
theorem y6 {s:Ae} {now:AE} {l:List Int} (h:SOK s) (hs:eU s now) (hl:Aa l=Aa s.2.1):eU s (C6 s now l):=by
 have g:=iH h
 have g1:=g.lo;have g2:=g.hi
 have h1:=hs.lo;have h2:=hs.hi
 unfold C6
 refine ⟨by (try simp only);rw[HB (by rw[hs.n,hl])];exact hs.n,?_,?_⟩
 ·simp only;repeat' split
  all_goals omega
 ·simp only;repeat' split
  all_goals omega
theorem So {l:List A9} (hl:Aa l≤1000):Fu l=some l:=by
 unfold Fu
 rw[Af _ _ (by rw[Bool.true_and];exact room_le (by omega))]
 rfl
theorem oI {s:Ae} {ws:List A9} {l:List Int} {A:Type} {bad:A} {F:Int×List A9→Step (Int×List A9) A} (K:List A9→A) (P:A→Prop) (h:SOK s) (hw:Aa ws=Aa s.2.1) (hl:Aa l=Aa s.2.1)
 (hF:∀i out g w a y,0≤i→i<Aa ws→idx s.2.1 i=some g→idx out i=some w→idx l i=some a→y=nxt w a→F (i,out)=.next (wr .i64 (i+1),A8 out i y)) (hFe:∀out,F (Aa ws,out)=.done (K out)) (hK:P (K (List.zipWith nxt ws l))):P (iter bad F AA (0,ws)):=by
 have n2:=h.n2
 refine AI (fun z:Int×List A9=>z.1) (Aa ws) (fun z=>Aa z.2=Aa ws∧(∀j,0≤j→j<z.1→idx z.2 j=idx (List.zipWith nxt ws l) j)∧∀j,z.1≤j→idx z.2 j=idx ws j) P (by omega) (by simp) (Ap ws) ⟨rfl,fun j j0 j1=>absurd j1 (by simp only;omega),fun j _=>rfl⟩ (fun z hI i0 i1=>?_) (fun z hI hz=>?_)
 ·obtain⟨i,out⟩:=z
  obtain⟨hlen,hj,hk⟩:=hI
  simp only at i0 i1 hlen hj hk
  obtain⟨g,hg,_⟩:=Au (l:=s.2.1) i0 (by omega)
  obtain⟨w,hw',_⟩:=Au (l:=ws) i0 i1
  obtain⟨a,ha,_⟩:=Au (l:=l) i0 (by omega)
  rw[hF i out g w a _ i0 i1 hg (by rw[hk i (by omega)];exact hw') ha rfl,Am (i+1) (by omega) (by omega)]
  refine ⟨rfl,by (try simp only);rw[Bw];exact hlen,fun j j0 j1=>?_,fun j hij=>?_⟩
  ·simp only at j1 ⊢
   rw[CW i0 (by omega)]
   split
   ·rename_i e;rw[e,LN hw' ha]
   ·exact hj j j0 (by omega)
  ·simp only at hij ⊢
   rw[CW i0 (by omega),if_neg (by omega)]
   exact hk j (by omega)
 ·obtain⟨i,out⟩:=z
  obtain⟨hlen,hj,_⟩:=hI
  simp only at hz hlen hj
  subst hz
  rw[hFe]
  have:out=List.zipWith nxt ws l:=GO (by rw[HB (by rw[hw,hl])];exact hlen) fun j j0 j1=>hj j j0 (by omega)
  rw[this];exact hK
theorem Abt {s:Ae} {now:AE} {l:List Int} (h:SOK s) (hs:eU s now) (hl:Aa l=Aa s.2.1):GQ (s,(now,l))=some (C6 s now l):=by
 have n2:=h.n2
 have hwn:=hs.n
 have s1:=hs.lo;have s2:=hs.hi
 have g:=iH h
 have g1:=g.lo;have g2:=g.hi
 have hlm:l.length≤maxLen:=by unfold Aa at hl n2;unfold maxLen;omega
 unfold GQ
 rw[Ab _ _ (So (l:=now.1) (by omega)),Ab _ _ (Zv hlm)]
 refine oI (s:=s) (ws:=now.1) (l:=l) (fun out=>cnd (Ck l) (Ad (B0 s) none (fun x=>some (out,(x,Ck l)))) (cnd now.2.2 (Ad (B0 s) none (fun x=>some (out,(Ct 0 (wr .i64 (x-1)),Ck l)))) (some (out,(Ct 0 (wr .i64 (now.2.1-1)),Ck l))))) (fun r=>r=some (C6 s now l)) h hwn hl (fun i out g w a y i0 i1 hg hw ha hy=>?_) (fun out=>?_) ?_
 ·try simp only
  rw[Af _ _ (decide_eq_true i1),Ab _ _ hw,Ab _ _ hw,Ab _ _ hg,Ab _ _ ha,AG,Ab _ _ hw,Ab _ _ hw,Aeu,hy]
 ·try simp only
  rw[Ag _ _ (decide_eq_false (by omega))]
 ·try simp only
  unfold C6
  by_cases c:Ck l=true
  ·rw[Af _ _ c,Ab _ _ (wE h),if_pos c]
  ·rw[Ag _ _ (Bool.eq_false_iff.2 c),if_neg c]
   by_cases c2:now.2.2=true
   ·rw[Af _ _ c2,Ab _ _ (wE h),if_pos c2,Gi,Am (grt s-1) (by omega) (by omega)]
   ·rw[Ag _ _ (Bool.eq_false_iff.2 c2),if_neg c2,Gi,Am (now.2.1-1) (by omega) (by omega)]
noncomputable def chk (s:Ae):AE→Int→List (List Int)→Int×Int
 |_,_,[]=>(-1,0)
 |now,i,l::r=>@ite _ (G4 s now l≠0) (Classical.propDecidable _) (i,G4 s now l) (chk s (C6 s now l) (i+1) r)
theorem zP {s:Ae} {now:AE} {l:List Int} (h:G4 s now l=0):Aa l=Aa s.2.1:=by
 unfold G4 at h
 split at h
 ·cases h
 ·rename_i hh;exact Decidable.not_not.1 hh
theorem AbC {s:Ae} (h:SOK s):eU s (KG s):=by
 have g:=iH h
 have n1:=h.n1
 exact ⟨by unfold KG;simp only;exact Bu (by omega) _,g.lo,g.hi⟩
theorem rI {s:Ae} {e:Int} (hok:e=0→SOK s) (h:Aw s=some e):HH s=some (if e≠0 then (([],(0,false)),e) else (KG s,0)):=by
 unfold HH
 rw[Ab _ _ h]
 by_cases h0:e=0
 ·subst h0;rw[Ag _ _ (by rfl),if_neg (by simp),Ab _ _ (Ac6 (hok rfl))]
 ·rw[Af _ _ (by simp[h0]),if_pos h0]
structure eS (s:Ae) (now:AE):Prop where
 st:eU s now
 ok:Ck (now.1.map (·.1))=true∨¬Jk s (now.1.map (·.1))
theorem AeW {s:Ae} {now:AE} (h:SOK s) (hl:Aa now.1≤1000):∃r,JA (s,now)=some r∧(r=true↔eS s now):=by
 have hsl:(now.1.map (·.1)).length≤maxLen:=by
  have:=Jc (l:=now.1) (f:=fun x=>x.1)
  unfold Aa at this hl;unfold maxLen;omega
 unfold JA
 rw[Ab _ _ (AdK hl),Jc]
 by_cases c:Aa now.1=Aa s.2.1∧0≤now.2.1∧now.2.1≤1048576
 ·rw[Af _ _ (by simp[c]),Ab _ _ (Zv hsl)]
  cases cf:Ck (now.1.map (·.1)) with
  |true=>exact ⟨true,rfl,fun _=>⟨⟨c.1,c.2.1,c.2.2⟩,.inl cf⟩,fun _=>rfl⟩
  |false =>
   obtain⟨r,r1,r2⟩:=Aaj (l:=now.1.map (·.1)) h (by rw[Jc];exact c.1)
   rw[Ag _ _ rfl,Ab _ _ r1]
   refine ⟨!r,rfl,?_⟩
   rw[Bool.not_eq_true']
   refine ⟨fun hr=>⟨⟨c.1,c.2.1,c.2.2⟩,.inr fun hm=>by rw[r2.2 hm] at hr;cases hr⟩,fun hm=>?_⟩
   cases hr:r with
   |false=>rfl
   |true =>
    rcases hm.ok with h1|h1
    ·rw[cf] at h1;cases h1
    ·exact absurd (r2.1 hr) h1
 ·rw[Ag _ _ (by
   apply Bool.eq_false_iff.2
   intro hh
   simp only[Bool.and_eq_true,beq_iff_eq,decide_eq_true_eq] at hh
   exact c ⟨hh.1.1,hh.1.2,hh.2⟩)]
  exact ⟨false,rfl,fun h=>(by cases h),fun hm=>absurd ⟨hm.st.n,hm.st.lo,hm.st.hi⟩ c⟩
end Go.Proofs.YtmmkfcpdfnjgjaaGreatDoor
namespace Go.Proofs.YtmmkfcpdfnjgjaaGreatDoor
open Go.Den
end Go.Proofs.YtmmkfcpdfnjgjaaGreatDoor
namespace Go.Proofs.YtmmkfcpdfnjgjaaGreatDoor
open Go.Den
end Go.Proofs.YtmmkfcpdfnjgjaaGreatDoor
namespace Go.Proofs.YtmmkfcpdfnjgjaaGreatDoor
open Go.Den
open Classical in
noncomputable def Je (e:Int) (s:Ae) (now:AE) (l:List Int):AE×Int×Int :=
 if e≠0 then (([],(0,false)),(0,e)) else if ¬eS s now then (([],(0,false)),(0,8)) else
 if G4 s now l≠0 then (now,(G4 s now l,0)) else (C6 s now l,(0,0))
theorem YC {s:Ae} {now:AE} {l:List Int} {e:Int} (hok:e=0→SOK s) (h:Aw s=some e) (hw:Aa now.1≤1000) (hl:l.length≤maxLen):D4 (s,(now,l))=some (Je e s now l):=by
 unfold D4 Je
 rw[Ab _ _ h]
 by_cases h0:e=0
 ·subst h0
  have hk:=hok rfl
  obtain⟨r,r1,r2⟩:=AeW hk hw
  rw[Ag _ _ (by rfl),if_neg (by simp),Ab _ _ r1]
  by_cases c:eS s now
  ·rw[Ag _ _ (by rw[r2.2 c];rfl),if_neg (by simpa using c),Ab _ _ (Ac5 hk c.st.n hl)]
   by_cases c2:G4 s now l=0
   ·rw[Ag _ _ (by simp[c2]),if_neg (by simp[c2]),Ab _ _ (Abt hk c.st (zP c2))]
   ·rw[Af _ _ (by simp[c2]),if_pos c2,Ab _ _ (So hw)]
  ·have:r=false:=by
    cases hr:r with
    |false=>rfl
    |true=>exact absurd (r2.1 hr) c
   rw[Af _ _ (by rw[this];rfl),if_pos c]
 ·rw[Af _ _ (by simp[h0]),if_pos h0]
end Go.Proofs.YtmmkfcpdfnjgjaaGreatDoor
namespace Go.Proofs.YtmmkfcpdfnjgjaaGreatDoor
open Go.Den
end Go.Proofs.YtmmkfcpdfnjgjaaGreatDoor
namespace Go.Proofs.YtmmkfcpdfnjgjaaGreatDoor
open Go.Den
def bw (g:Co) (w:A9) (a:Int):Int:=if w.1=1 then 1 else EX (g,(w,a))
def MJ (gs:List Co) (ws:List A9) (asks:List Int):List Int:=List.zipWith (fun (gw:Co×A9) a=>bw gw.1 gw.2 a) (List.zipWith Prod.mk gs ws) asks
theorem fQ {gs:List Co} {ws:List A9} {asks:List Int} {i:Int} {g:Co} {w:A9} {a:Int} (hg:idx gs i=some g) (hw:idx ws i=some w) (ha:idx asks i=some a):idx (MJ gs ws asks) i=some (bw g w a) :=
 LN (LN hg hw) ha
theorem Wz {gs:List Co} {ws:List A9} {asks:List Int} (h1:Aa ws=Aa gs) (h2:Aa asks=Aa gs):Aa (MJ gs ws asks)=Aa gs:=by
 unfold MJ
 rw[HB (by rw[HB h1.symm,h2]),HB h1.symm]
def Blk (s:Ae) (ws:List A9) (out:List Int) (i:Int):Prop:=∃k,0≤k∧k<Aa ws∧BV s i k=true∧(el out k≠1∨(el ws k).2.2<Fb s k i)
def H7 (s:Ae) (ws:List A9) (asks out:List Int) (i:Int):Prop:=(el ws i).1=1∧el asks i=2∧¬Blk s ws out i
open Classical in
noncomputable def pass (s:Ae) (ws:List A9) (asks:List Int):Nat→Int→List Int→List Int
 |0,_,out=>out
 |k+1,i,out=>pass s ws asks k (i+1) (if H7 s ws asks out i then A8 out i 2 else out)
open Classical in
noncomputable def EA (s:Ae) (now:AE) (asks:List Int):List Int :=
 if Ck asks=true then asks else if now.2.2=true∨0<now.2.1 then AQ (Aa asks) 1 else pass s now.1 asks (Aa asks).toNat 0 (MJ s.2.1 now.1 asks)
theorem XW {n v:Int} (h0:0≤n) (h1:n≤100000):Fm (n,v)=some (AQ n v):=by
 unfold Fm
 rw[Af _ _ (Js h0 (by omega))]
 refine AI (fun z:Int×List Int=>z.1) n (fun z=>Aa z.2=n∧∀j,0≤j→j<z.1→idx z.2 j=some v) (fun r=>r=some (AQ n v)) (by omega) (by simp) h0 ⟨Bu h0 _,fun j j0 j1=>absurd j1 (by simp only;omega)⟩ (fun z hI i0 i1=>?_) (fun z hI hz=>?_)
 ·obtain⟨i,out⟩:=z
  obtain⟨hlen,hj⟩:=hI
  simp only at i0 i1 hlen hj
  obtain⟨y,hy,_⟩:=Au (l:=out) i0 (by omega)
  try simp only
  rw[Af _ _ (decide_eq_true (by rw[Bu h0];exact i1)),Ab _ _ hy,Ab _ _ hy,Am (i+1) (by omega) (by omega)]
  refine ⟨rfl,by (try simp only);rw[Bw];exact hlen,fun j j0 j1=>?_⟩
  simp only at j1 ⊢
  rw[CW i0 (by omega)]
  split
  ·rfl
  ·exact hj j j0 (by omega)
 ·obtain⟨i,out⟩:=z
  obtain⟨hlen,hj⟩:=hI
  simp only at hz hlen hj
  try simp only
  rw[Ag _ _ (decide_eq_false (by rw[Bu h0];omega))]
  have ho:out=AQ n v:=GO (by rw[Bu h0];exact hlen) fun j j0 j1=>by rw[hj j j0 (by omega),J6 j0 (by omega)]
  rw[ho]
  exact rfl
theorem u5 {l:List Int} (hl:Aa l≤100000):EU l=some l:=by
 unfold EU
 rw[Af _ _ (by rw[Bool.true_and];exact room_le (by omega))]
 rfl
theorem IB {l:List Int} {i:Int} (h0:0≤i) (h1:i<Aa l) (x j:Int):el (A8 l i x) j=if j=i then x else el l j:=by
 unfold el
 rw[CW h0 h1]
 split<;>rfl
theorem Ep {α:Type} [Inhabited α] {l:List α} {i:Int} {x:α} (h:idx l i=some x):el l i=x:=by unfold el;rw[h];rfl
theorem Aaz {s:Ae} {ws:List A9} {asks base:List Int} {A:Type} {bad:A} {F:Int×List Int→Step (Int×List Int) A} (P:A→Prop) (hb:Aa base=Aa asks) (hn:Aa asks≤1000)
 (hF:∀i out,0≤i→i<Aa asks→Aa out=Aa asks→(H7 s ws asks out i→F (i,out)=.next (i+1,A8 out i 2))∧(¬H7 s ws asks out i→F (i,out)=.next (i+1,out)))
 (hK:∃r,F (Aa asks,pass s ws asks (Aa asks).toNat 0 base)=.done r∧P r):P (iter bad F AA (0,base)):=by
 refine AI (fun z:Int×List Int=>z.1) (Aa asks) (fun z=>Aa z.2=Aa asks∧pass s ws asks (Aa asks-z.1).toNat z.1 z.2=pass s ws asks (Aa asks).toNat 0 base) P (by omega) (by simp) (Ap asks) ⟨hb,by simp only;rw[Int.sub_zero]⟩ (fun z hI i0 i1=>?_) (fun z hI hz=>?_)
 ·obtain⟨i,out⟩:=z
  obtain⟨hlen,hp⟩:=hI
  simp only at i0 i1 hlen hp
  rw[show (Aa asks-i).toNat=(Aa asks-(i+1)).toNat+1 by omega,pass] at hp
  obtain⟨h1,h2⟩:=hF i out i0 i1 hlen
  by_cases c:H7 s ws asks out i
  ·rw[h1 c]
   rw[if_pos c] at hp
   exact ⟨rfl,by (try simp only);rw[Bw];exact hlen,hp⟩
  ·rw[h2 c]
   rw[if_neg c] at hp
   exact ⟨rfl,hlen,hp⟩
 ·obtain⟨i,out⟩:=z
  obtain⟨hlen,hp⟩:=hI
  simp only at hz hlen hp
  subst hz
  rw[Int.sub_self] at hp
  have hp:out = _:=hp
  obtain⟨r,hr,hr2⟩:=hK
  rw[hp,hr]
  exact hr2
theorem vR {A:Type} {bad:A} {asks:List Int} (hlm:asks.length≤maxLen) (K:Bool→A):DM K (fun k=>iter bad (fun x1:Int =>
(cnd (decide (x1<(Aa asks)))
(Ad (idx asks x1) (.done bad) (fun x2 =>
(cnd (!(x2==4))
(.done (k (!(decide (0≤x1)))))
(.next (wr .i64 (x1+1))))))
(.done (k (!(decide (0≤(-1:Int)))))))) AA 0)=K (Ck asks):=by
 rw[FZ]
 have conv:(∀a∈asks,a=4)↔(∀(i:Int) a,idx asks i=some a→a=4):=⟨fun h i a ha=>h a (An ha).2.2,fun h a ha=>by obtain⟨i,hi⟩:=ES ha;exact h i a hi⟩
 refine Ds (l:=asks) (fun r:A=>r=K (Ck asks)) (fun _ a=>a=4) (K false) (K true) hlm (fun i a h0 hi ha=>?_) (fun i hi=>by (try simp only);rw[Ag _ _ (decide_eq_false hi)];try rfl) (fun h=>by unfold Ck;rw[decide_eq_true (conv.2 h)]) (fun h=>by unfold Ck;rw[decide_eq_false (fun hh=>h (conv.1 hh))])
 try simp only
 rw[Af _ _ (decide_eq_true hi),Ab _ _ ha]
 by_cases c:a=4
 ·exact .inl ⟨c,by rw[Ag _ _ (by simp[c])]⟩
 ·exact .inr ⟨c,by rw[Af _ _ (by simp[c]),decide_eq_true h0];rfl⟩
theorem sV {s:Ae} {now:AE} {asks:List Int} (h:SOK s) (hw:Aa now.1=Aa s.2.1) (hl:Aa asks=Aa s.2.1):Fw (s,(now,asks))=some (EA s now asks):=by
 have n1:=h.n1
 have n2:=h.n2
 have hlm:asks.length≤maxLen:=by unfold Aa at hl n2;unfold maxLen;omega
 unfold Fw EA
 refine (vR hlm _).trans ?_
 try simp only
 by_cases c1:Ck asks=true
 ·rw[Af _ _ c1,if_pos c1,Ab _ _ (u5 (by omega))]
 rw[Ag _ _ (Bool.eq_false_iff.2 c1),if_neg c1]
 by_cases c2:now.2.2=true
 ·rw[Af _ _ c2,if_pos (.inl c2),Ab _ _ (XW (by omega) (by omega))]
 rw[Ag _ _ (Bool.eq_false_iff.2 c2)]
 by_cases c3:0<now.2.1
 ·rw[Af _ _ (decide_eq_true c3),if_pos (.inr c3),Ab _ _ (XW (by omega) (by omega))]
 rw[Ag _ _ (decide_eq_false c3),if_neg (fun hh=>hh.elim c2 c3),Ab _ _ (XW (by omega) (by omega))]
 have hbl:=Wz (gs:=s.2.1) (ws:=now.1) (asks:=asks) hw hl
 refine AI (fun z:Int×List Int=>z.1) (Aa now.1) (fun z=>Aa z.2=Aa asks∧(∀j,0≤j→j<z.1→idx z.2 j=idx (MJ s.2.1 now.1 asks) j)∧∀j,z.1≤j→j<Aa asks→idx z.2 j=some 1) (fun r=>r=some _) (by omega) (by simp) (Ap _) ⟨Bu (by omega) _,fun j j0 j1=>absurd j1 (by simp only;omega),fun j j0 j1=>J6 j0 j1 _⟩ (fun z hI i0 i1=>?_) (fun z hI hz=>?_)
 ·obtain⟨i,out⟩:=z
  obtain⟨hlen,hj,hk⟩:=hI
  simp only at i0 i1 hlen hj hk
  obtain⟨w,hw',_⟩:=Au i0 i1
  obtain⟨g,hg,_⟩:=Au (l:=s.2.1) i0 (by omega)
  obtain⟨a,ha,_⟩:=Au (l:=asks) i0 (by omega)
  have hbi:=fQ hg hw' ha
  have ho:=hk i (Int.le_refl _) (by omega)
  try simp only
  rw[Af _ _ (decide_eq_true i1),Ab _ _ hw',Am (i+1) (by omega) (by omega)]
  by_cases c:w.1=1
  ·rw[Ag _ _ (by simp[c])]
   refine ⟨rfl,hlen,fun j j0 j1=>?_,fun j j0 j1=>hk j (by simp only at j0;omega) j1⟩
   simp only at j1 ⊢
   by_cases e:j=i
   ·rw[e,ho,hbi,bw,if_pos c]
   ·exact hj j j0 (by omega)
  ·rw[Af _ _ (by simpa using c),Ab _ _ hg,Ab _ _ ha,AG,Ab _ _ ho,Ab _ _ ho]
   refine ⟨rfl,by (try simp only);rw[Bw];exact hlen,fun j j0 j1=>?_,fun j j0 j1=>?_⟩
   ·simp only at j1 ⊢
    rw[CW i0 (by omega)]
    split
    ·rename_i e;rw[e,hbi,bw,if_neg c]
    ·exact hj j j0 (by omega)
   ·simp only at j0 ⊢
    rw[CW i0 (by omega),if_neg (by omega)]
    exact hk j (by omega) j1
 ·obtain⟨i,out⟩:=z
  obtain⟨hlen,hj,_⟩:=hI
  simp only at hz hlen hj
  try simp only
  rw[Ag _ _ (decide_eq_false (by omega))]
  have hob:out=MJ s.2.1 now.1 asks:=GO (by rw[hlen,hbl,hl]) fun j j0 j1=>hj j j0 (by omega)
  rw[hob]
  refine Aaz (s:=s) (ws:=now.1) (asks:=asks) (fun r=>r=some _) (by rw[hbl,hl]) (by omega) (fun i out i0 i1 hlo=>?_) ⟨_,Ag _ _ (decide_eq_false (by simp only;omega)),rfl⟩
  obtain⟨w,hw',_⟩:=Au (l:=now.1) i0 (by omega)
  obtain⟨a,ha,_⟩:=Au (l:=asks) i0 i1
  obtain⟨o,ho,_⟩:=Au (l:=out) i0 (by omega)
  obtain⟨u,hu,_⟩:=Au (l:=s.2.2.1) i0 (by rw[h.la];omega)
  try simp only
  rw[Af _ _ (decide_eq_true (by omega)),Ab _ _ hw',Am (i+1) (by omega) (by omega)]
  have ew:el now.1 i=w:=Ep hw'
  have ea:el asks i=a:=Ep ha
  by_cases d1:w.1=1
  ·rw[Af _ _ (by simpa using d1),Ab _ _ ha]
   by_cases d2:a=2
   ·rw[Af _ _ (by simpa using d2)]
    have hin:∀R:Step (Int×List Int) (Option (List Int)),(Blk s now.1 out i→R=.next (i+1,out))→(¬Blk s now.1 out i→R=.next (i+1,A8 out i 2))→(H7 s now.1 asks out i→R=.next (i+1,A8 out i 2))∧(¬H7 s now.1 asks out i→R=.next (i+1,out)):=fun R h1 h2=>⟨fun ht=>h2 ht.2.2,fun hnt=>h1 (Classical.byContradiction fun hb=>hnt ⟨by rw[ew];exact d1,by rw[ea];exact d2,hb⟩)⟩
    refine AI (fun z:Int×List Int=>z.1) (Aa now.1) (fun z=>z.2=out∧∀k,0≤k→k<z.1→¬(BV s i k=true∧(el out k≠1∨(el now.1 k).2.2<Fb s k i))) (fun (R:Step (Int×List Int) (Option (List Int)))=>(H7 s now.1 asks out i→R=.next (i+1,A8 out i 2))∧(¬H7 s now.1 asks out i→R=.next (i+1,out))) (by omega) (by simp) (Ap _) ⟨rfl,fun k k0 k1=>absurd k1 (by simp only;omega)⟩ (fun z hI k0 k1=>?_) (fun z hI hz=>?_)
    ·obtain⟨k,o'⟩:=z
     obtain⟨hoo,hno⟩:=hI
     simp only at hoo hno k0 k1
     subst hoo
     obtain⟨v,hv,_⟩:=Au (l:=now.1) k0 k1
     obtain⟨ok,hok,_⟩:=Au (l:=o') k0 (by omega)
     try simp only
     rw[Af _ _ (decide_eq_true k1),Ab _ _ hv,Ab _ _ hu,Af _ _ (decide_eq_true k0),R2 (h.us i _ hu) k0 (by omega)]
     have hap:AD u k=BV s i k:=by unfold BV;rw[Ep hu]
     rw[hap,Am (k+1) (by omega) (by omega)]
     have next:¬(BV s i k=true∧(el o' k≠1∨(el now.1 k).2.2<Fb s k i))→C5 (fun z:Int×List Int=>z.1) (fun z=>z.2=o'∧∀k,0≤k→k<z.1→¬(BV s i k=true∧(el o' k≠1∨(el now.1 k).2.2<Fb s k i))) (fun (R:Step (Int×List Int) (Option (List Int)))=>(H7 s now.1 asks o' i→R=.next (i+1,A8 o' i 2))∧(¬H7 s now.1 asks o' i→R=.next (i+1,o'))) k (.next (k+1,o'):Step (Int×List Int) (Step (Int×List Int) (Option (List Int)))):=fun hn=>⟨rfl,rfl,fun j j0 j1=>by
      simp only at j1
      by_cases e:j=k
      ·rw[e];exact hn
      ·exact hno j j0 (by omega)⟩
     have stop:BV s i k=true∧(el o' k≠1∨(el now.1 k).2.2<Fb s k i)→C5 (fun z:Int×List Int=>z.1) (fun z=>z.2=o'∧∀k,0≤k→k<z.1→¬(BV s i k=true∧(el o' k≠1∨(el now.1 k).2.2<Fb s k i))) (fun (R:Step (Int×List Int) (Option (List Int)))=>(H7 s now.1 asks o' i→R=.next (i+1,A8 o' i 2))∧(¬H7 s now.1 asks o' i→R=.next (i+1,o'))) k (.done (.next (i+1,o')):Step (Int×List Int) (Step (Int×List Int) (Option (List Int)))):=fun hb=>hin _ (fun _=>rfl) (fun hnb=>absurd ⟨k,k0,k1,hb⟩ hnb)
     cases hab:BV s i k with
     |false=>rw[Ag _ _ rfl];exact next (fun hh=>by rw[hab] at hh;cases hh.1)
     |true =>
      rw[Af _ _ rfl,Ab _ _ hok,Ab _ _ hok]
      by_cases d3:ok=1
      ·have hrow:=Bb (l:=s.2.2.2.1) k0 (by rw[h.lb];omega)
       have hbt:=Bb (l:=el s.2.2.2.1 k) i0 (by rw[h.rows k _ hrow];omega)
       rw[Ag _ _ (by simp[d3]),Ab _ _ hrow,Ab _ _ hbt]
       have hbe:el (el s.2.2.2.1 k) i=Fb s k i:=rfl
       rw[hbe]
       by_cases d4:v.2.2<Fb s k i
       ·rw[Af _ _ (decide_eq_true d4)]
        exact stop ⟨hab,.inr (by rw[Ep hv];exact d4)⟩
       ·rw[Ag _ _ (decide_eq_false d4)]
        exact next fun hh=>hh.2.elim (fun h=>h (by rw[Ep hok];exact d3)) (fun h=>d4 (by rw[Ep hv] at h;exact h))
      ·rw[Af _ _ (by simpa using d3)]
       exact stop ⟨hab,.inl (by rw[Ep hok];exact d3)⟩
    ·obtain⟨k,o'⟩:=z
     obtain⟨hoo,hno⟩:=hI
     simp only at hoo hno hz
     subst hoo
     try simp only
     rw[Ag _ _ (decide_eq_false (by omega)),Ab _ _ ho,Ab _ _ ho]
     exact hin _ (fun ⟨k',q0,q1,q2⟩=>absurd q2 (hno k' q0 (by omega))) (fun _=>rfl)
   ·rw[Ag _ _ (by simpa using d2)]
    exact ⟨fun ht=>absurd (by rw[←ea];exact ht.2.1) d2,fun _=>rfl⟩
  ·rw[Ag _ _ (by simpa using d1)]
   exact ⟨fun ht=>absurd (by rw[←ew];exact ht.1) d1,fun _=>rfl⟩
end Go.Proofs.YtmmkfcpdfnjgjaaGreatDoor
namespace Go.Proofs.YtmmkfcpdfnjgjaaGreatDoor
open Go.Den
end Go.Proofs.YtmmkfcpdfnjgjaaGreatDoor
namespace Go.Proofs.YtmmkfcpdfnjgjaaGreatDoor
open Go.Den
def FG (f:Bool) (st:Int) (w:A9):Prop:=if f=true then w.1=4 else (1≤w.1∧w.1≤3)∧(0<st→w.1=1)
structure DD (s:Ae) (now:AE):Prop where
 may:eS s now
 all:∀w∈now.1,FG now.2.2 now.2.1 w
theorem AdM {f:Bool} {st:Int} {w:A9} {A:Type} (x y:A):cnd f (cnd (!(w.1==4)) x y) (cnd (((decide (w.1<1))||(decide (3<w.1)))||((decide (0<st))&&(!(w.1==1)))) x y)=@ite _ (FG f st w) (Classical.propDecidable _) y x:=by
 unfold FG
 cases f with
 |true =>
  rw[Af _ _ rfl]
  by_cases c:w.1=4
  ·rw[Ag _ _ (by simp[c]),if_pos (by simpa using c)]
  ·rw[Af _ _ (by simpa using c),if_neg (by simpa using c)]
 |false =>
  rw[Ag (b:=false) _ _ rfl]
  by_cases c:(1≤w.1∧w.1≤3)∧(0<st→w.1=1)
  ·rw[Ag _ _ (by
    apply Bool.eq_false_iff.2
    intro hh
    simp only[Bool.or_eq_true,Bool.and_eq_true,decide_eq_true_eq,Bool.not_eq_true',beq_eq_false_iff_ne,ne_eq] at hh
    rcases hh with hh|hh
    ·omega
    ·exact hh.2 (c.2 hh.1)),if_pos (by simpa using c)]
  ·rw[Af _ _ (by
    simp only[Bool.or_eq_true,Bool.and_eq_true,decide_eq_true_eq,Bool.not_eq_true',beq_eq_false_iff_ne,ne_eq]
    apply Classical.byContradiction
    intro hh
    simp only[not_or,Int.not_lt] at hh
    exact c ⟨⟨hh.1.1,hh.1.2⟩,fun h0=>Classical.byContradiction fun hn=>hh.2 ⟨h0,hn⟩⟩),if_neg (by simpa using c)]
theorem Ael {s:Ae} {now:AE} (h:SOK s) (hs:Aw s=some 0) (hw:Aa now.1≤1000):∃r,ID (s,now)=some r∧(r=true↔DD s now):=by
 have n2:=h.n2
 have hn:=Ap now.1
 have hwm:now.1.length≤maxLen:=by unfold Aa at hw;unfold maxLen;omega
 unfold ID
 by_cases c:Aa now.1=Aa s.2.1
 ·rw[Ag _ _ (by simpa using c),Af _ _ (Js hn (by omega)),FZ]
  refine AI (fun z:Int×List Int=>z.1) (Aa now.1) (fun z=>Aa z.2=Aa now.1) (fun r:Option Bool=>∃b,r=some b∧(b=true↔DD s now)) (by omega) (by simp) hn (Bu hn _) (fun z hI i0 i1=>?_) (fun z hI hz=>?_)
  ·obtain⟨i,out⟩:=z
   simp only at hI i0 i1
   obtain⟨y,hy,_⟩:=Au (l:=out) i0 (by omega)
   try simp only
   rw[Af _ _ (decide_eq_true (by rw[Bu hn];exact i1)),Ab _ _ hy,Ab _ _ hy,Am (i+1) (by omega) (by omega)]
   exact ⟨rfl,by (try simp only);rw[Bw];exact hI⟩
  ·obtain⟨i,out⟩:=z
   simp only at hI hz
   try simp only
   have hol:out.length≤maxLen:=by unfold Aa at hI hw;unfold maxLen;omega
   rw[Ag _ _ (decide_eq_false (by rw[Bu hn];omega)),Ab _ _ (YC (e:=0) (fun _=>h) hs hw hol)]
   show ∃b,_ = some b∧_
   by_cases cm:eS s now
   ·have h0:(Je 0 s now out).2.2=0:=by
     unfold Je
     rw[if_neg (by simp),if_neg (by simpa using cm)]
     split<;>rfl
    rw[Ag _ _ (by rw[h0];rfl)]
    have conv:(∀w∈now.1,FG now.2.2 now.2.1 w)↔(∀(i:Int) w,idx now.1 i=some w→FG now.2.2 now.2.1 w):=⟨fun h i a ha=>h a (An ha).2.2,fun h a ha=>by obtain⟨i,hi⟩:=ES ha;exact h i a hi⟩
    refine Ds (l:=now.1) (fun r:Option Bool=>∃b,r=some b∧(b=true↔DD s now)) (fun _ w=>FG now.2.2 now.2.1 w) (some false) (some true) hwm (fun i w h0 hi hw'=>?_) (fun i hi=>by (try simp only);rw[Ag _ _ (decide_eq_false hi)];try rfl) (fun hh=>⟨true,rfl,fun _=>⟨cm,conv.2 hh⟩,fun _=>rfl⟩) (fun hh=>⟨false,rfl,fun h=>(by cases h),fun hg=>absurd (conv.1 hg.all) hh⟩)
    try simp only
    rw[Af _ _ (decide_eq_true hi),Ab _ _ hw',AdM,decide_eq_true h0]
    by_cases cs:FG now.2.2 now.2.1 w
    ·rw[if_pos cs];exact .inl ⟨cs,rfl⟩
    ·rw[if_neg cs];exact .inr ⟨cs,rfl⟩
   ·have h0:(Je 0 s now out).2.2=8:=by
     unfold Je
     rw[if_neg (by simp),if_pos cm]
    rw[Af _ _ (by rw[h0];rfl)]
    exact ⟨false,rfl,fun h=>(by cases h),fun hg=>absurd hg.may cm⟩
 ·rw[Af _ _ (by simpa using c)]
  exact ⟨false,rfl,fun h=>(by cases h),fun hg=>absurd hg.may.st.n c⟩
open Classical in
noncomputable def Xu (e:Int) (s:Ae) (now:AE):Int:=if e≠0 then e else if DD s now then 0 else 8
open Classical in
noncomputable def fD (e:Int) (s:Ae) (now:AE) (asks:List Int):List Int×Int :=
 if e≠0 then ([],e) else if ¬DD s now then ([],8) else if Aa asks≠Aa s.2.1 then ([],90) else (EA s now asks,0)
open Classical in
noncomputable def wY (e:Int) (s:Ae) (now:AE) (g:Int):Bool×Int :=
 if e≠0 then (false,e) else if ¬DD s now then (false,8) else if g<0∨Aa s.2.1≤g then (false,2) else (el (EA s now (A8 (AQ (Aa s.2.1) 1) g 2)) g==2,0)
theorem sY {s:Ae} {now:AE} {e:Int} (hok:e=0→SOK s) (hs:Aw s=some e) (hw:Aa now.1≤1000):Fx (s,now)=some (Xu e s now):=by
 unfold Fx Xu
 rw[Ab _ _ hs]
 by_cases h0:e=0
 ·subst h0
  rw[Ag _ _ (by rfl),if_neg (by simp)]
  obtain⟨r,r1,r2⟩:=Ael (hok rfl) hs hw
  rw[Ab _ _ r1]
  by_cases c:DD s now
  ·rw[Ag _ _ (by rw[r2.2 c];rfl),if_pos c]
  ·have:r=false:=by
    cases hr:r with
    |false=>rfl
    |true=>exact absurd (r2.1 hr) c
   rw[Af _ _ (by rw[this];rfl),if_neg c]
 ·rw[Af _ _ (by simp[h0]),if_pos h0]
theorem AbN {s:Ae} {now:AE} {asks:List Int} {e:Int} (hok:e=0→SOK s) (hs:Aw s=some e) (hw:Aa now.1≤1000):Gw (s,(now,asks))=some (fD e s now asks):=by
 unfold Gw fD
 rw[Ab _ _ (sY hok hs hw)]
 unfold Xu
 by_cases h0:e=0
 ·subst h0
  have hk:=hok rfl
  rw[if_neg (show ¬((0:Int)≠0) by simp),if_neg (show ¬((0:Int)≠0) by simp)]
  by_cases c:DD s now
  ·rw[if_pos c,Ag _ _ (by rfl),if_neg (show ¬ ¬DD s now by simpa using c)]
   by_cases c2:Aa asks=Aa s.2.1
   ·rw[Ag _ _ (by simpa using c2),if_neg (by simpa using c2),Ab _ _ (sV hk c.may.st.n c2)]
   ·rw[Af _ _ (by simpa using c2),if_pos c2]
  ·rw[if_neg c,Af _ _ (by rfl),if_pos c]
 ·rw[if_pos h0,if_pos h0,Af _ _ (by simp[h0])]
theorem bF (s:Ae) (ws:List A9) (asks:List Int):∀(k:Nat) (i:Int) (out:List Int),Aa (pass s ws asks k i out)=Aa out
 |0,i,out=>rfl
 |k+1,i,out=>by
  rw[pass,bF s ws asks k]
  split
  ·rw[Bw]
  ·rfl
theorem Qx {s:Ae} {now:AE} {asks:List Int} (hw:Aa now.1=Aa s.2.1) (hl:Aa asks=Aa s.2.1):Aa (EA s now asks)=Aa s.2.1:=by
 have:=Ap asks
 unfold EA
 split
 ·exact hl
 ·split
  ·rw[Bu this,hl]
  ·rw[bF,Wz hw hl]
theorem Ac9 {s:Ae} {now:AE} {g e:Int} (hok:e=0→SOK s) (hs:Aw s=some e) (hw:Aa now.1≤1000):IC (s,(now,g))=some (wY e s now g):=by
 unfold IC wY
 rw[Ab _ _ (sY hok hs hw)]
 unfold Xu
 by_cases h0:e=0
 ·subst h0
  have hk:=hok rfl
  have n1:=hk.n1
  have n2:=hk.n2
  rw[if_neg (show ¬((0:Int)≠0) by simp),if_neg (show ¬((0:Int)≠0) by simp)]
  by_cases c:DD s now
  ·rw[if_pos c,Ag _ _ (by rfl),if_neg (show ¬ ¬DD s now by simpa using c)]
   by_cases c2:g<0∨Aa s.2.1≤g
   ·rw[Af _ _ (by simpa using c2),if_pos c2]
   ·have g0:0≤g:=by omega
    have g1:g<Aa s.2.1:=by omega
    have hlr:Aa (AQ (Aa s.2.1) (1:Int))=Aa s.2.1:=Bu (by omega) _
    have hal:=Qx (s:=s) (now:=now) (asks:=A8 (AQ (Aa s.2.1) 1) g 2) c.may.st.n (by rw[Bw,hlr])
    rw[Ag _ _ (by simpa using c2),if_neg c2,Ab _ _ (XW (n:=Aa s.2.1) (by omega) (by omega)),Ab _ _ (J6 g0 g1 1),Ab _ _ (J6 g0 g1 1),Ab _ _ (sV hk c.may.st.n (by rw[Bw,hlr])),Ab _ _ (Bb g0 (by rw[hal];exact g1)),Ab _ _ (Bb g0 (by rw[hal];exact g1))]
  ·rw[if_neg c,Af _ _ (by rfl),if_pos c]
 ·rw[if_pos h0,if_pos h0,Af _ _ (by simp[h0])]
end Go.Proofs.YtmmkfcpdfnjgjaaGreatDoor
namespace Go.Proofs.YtmmkfcpdfnjgjaaGreatDoor
open Go.Den
theorem W4 {s:Ae} {ws:List A9} {asks:List Int} {n:Int} (J:Int→List Int→Prop) (hJ:∀i out,0≤i→i<n→J i out→(H7 s ws asks out i→J (i+1) (A8 out i 2))∧(¬H7 s ws asks out i→J (i+1) out)) :
 ∀(k:Nat) (i:Int) (out:List Int),0≤i→i+k=n→J i out→J n (pass s ws asks k i out)
 |0,i,out,_,hn,h=>by
  have:i=n:=by omega
  subst this;exact h
 |k+1,i,out,hi,hn,h=>by
  rw[pass]
  obtain⟨h1,h2⟩:=hJ i out hi (by omega) h
  by_cases c:H7 s ws asks out i
  ·rw[if_pos c];exact W4 J hJ k (i+1) _ (by omega) (by omega) (h1 c)
  ·rw[if_neg c];exact W4 J hJ k (i+1) _ (by omega) (by omega) (h2 c)
theorem ZW {g:Co} {w:A9} {a:Int} (hw:w.1=1) (ha:a=1∨a=2):De (g,(w,a))=0:=by
 unfold De F8 Fz
 simp only[Ay]
 rcases ha with ha|ha<;>simp[hw,ha,cnd,hi2_eq]
theorem AdT {g:Co} {w:A9} {a:Int} (h1:w.1≠1) (h:1≤w.1∧w.1≤3):1≤EX (g,(w,a))∧EX (g,(w,a))≤3∧(EX (g,(w,a))=2→w.1=2)∧De (g,(w,EX (g,(w,a))))=0:=by
 have w3:w.1=2∨w.1=3:=by omega
 unfold EX De F8 Fz
 simp only[Ay]
 generalize CJ w.2.1=n
 by_cases c:n<g.2.1<;>by_cases c2:n<g.2.2<;>by_cases c6:g.2.2≤n
 all_goals first|(exfalso;omega)|skip
 all_goals cases c3:(a==2)
 all_goals rcases w3 with hw|hw<;>simp[hw,c,c2,c6,cnd,hi2_eq]
theorem Tj:∀ {gs:List Co} {ws:List A9} {l:List Int},(∀(i:Nat) g w a,gs[i]?=some g→ws[i]?=some w→l[i]?=some a→De (g,(w,a))=0)→Hg gs ws l=0
 |[],_,_,_=>by rw[Hg];intros;simp_all
 |_::_,[],_,_=>by rw[Hg];intros;simp_all
 |_::_,_::_,[],_=>by rw[Hg];intros;simp_all
 |g0::gs,w0::ws,a0::as,h=>by
  rw[Hg,if_neg (by simpa using h 0 g0 w0 a0 rfl rfl rfl)]
  exact Tj fun i g w a h1 h2 h3=>h (i+1) g w a (by simpa using h1) (by simpa using h2) (by simpa using h3)
theorem Adn (w:A9) (a:Int):(nxt w a).1=a:=by
 unfold nxt H0
 simp only[Ay]
 cases (a==w.1)<;>cases (a==2)<;>rfl
theorem TS {s:Ae} {now:AE} {l:List Int} (hw:Aa now.1=Aa s.2.1) (hl:Aa l=Aa s.2.1):(C6 s now l).1.map (·.1)=l:=by
 have hz:Aa (List.zipWith nxt now.1 l)=Aa now.1:=HB (by rw[hw,hl])
 refine GO (by show Aa (List.map _ (List.zipWith nxt now.1 l)) = _;rw[Jc,hz,hw,hl]) fun j j0 j1=>?_
 change j<Aa (List.map _ (List.zipWith nxt now.1 l)) at j1
 rw[Jc,hz] at j1
 obtain⟨w,hw',_⟩:=Au j0 j1
 obtain⟨a,ha,_⟩:=Au (l:=l) j0 (by omega)
 show idx (List.map _ (List.zipWith nxt now.1 l)) j = _
 rw[Pt,LN hw' ha,ha]
 exact congrArg some (Adn w a)
theorem AbK {s:Ae} {now:AE} {l:List Int} (hl:Aa l=Aa s.2.1) (h:Ck l=true):G4 s now l=0:=by
 unfold G4
 rw[if_neg (by simpa using hl),if_pos h]
theorem P9 {s:Ae} {now:AE} {l:List Int} (hw:Aa now.1=Aa s.2.1) (hl:Aa l=Aa s.2.1) {w:A9} (h:w∈(C6 s now l).1):w.1∈l:=by
 rw[←TS hw hl]
 exact List.mem_map_of_mem h
theorem AcM {n v a:Int} (h:a∈AQ n v):a=v:=(List.mem_replicate.1 h).2
theorem Aak {s:Ae} (_h:SOK s) {l:List Int} (hl:Aa l=Aa s.2.1) (hm:Jk s l):∃a b,0≤a∧a<Aa s.2.1∧0≤b∧b<Aa s.2.1∧BV s a b=true∧el l a≠1∧el l b≠1:=by
 obtain⟨a,b,x,y,_,hx,hy,h1,h2,h3⟩:=hm
 have ia:=An hx
 have ib:=An hy
 exact ⟨a,b,ia.1,by omega,ib.1,by omega,h3,by rw[Ep hx];exact h1,by rw[Ep hy];exact h2⟩
theorem Adl {s:Ae} (h:SOK s) {l:List Int} (hl:Aa l=Aa s.2.1) {a b:Int} (a0:0≤a) (a1:a<Aa s.2.1) (b0:0≤b) (b1:b<Aa s.2.1) (hab:BV s a b=true) (h1:el l a≠1) (h2:el l b≠1):Jk s l:=by
 obtain⟨p1,p2,_⟩:=h.pair a b a0 a1 b0 b1
 have hne:=(p2 hab).1
 have ea:=Bb (l:=l) a0 (by omega)
 have eb:=Bb (l:=l) b0 (by omega)
 rcases Int.lt_or_gt_of_ne hne with hlt|hlt
 ·exact ⟨b,a,_,_,hlt,eb,ea,h2,h1,by rw[←p1];exact hab⟩
 ·exact ⟨a,b,_,_,hlt,ea,eb,h1,h2,hab⟩
theorem Ys {l:List Int} (h:Ck l=true) {g:Int} (g0:0≤g) (g1:g<Aa l):el l g=4:=by
 unfold Ck at h
 rw[decide_eq_true_eq] at h
 exact h _ (An (Bb g0 g1)).2.2
structure Y4 (s:Ae) (ws:List A9) (asks:List Int) (i:Int) (out:List Int):Prop where
 len:Aa out=Aa s.2.1
 on:∀j,0≤j→j<Aa s.2.1→(el ws j).1≠1→el out j=EX (el s.2.1 j,(el ws j,el asks j))
 off:∀j,0≤j→j<Aa s.2.1→(el ws j).1=1→el out j=1∨(el out j=2∧el asks j=2∧j<i∧∀k,0≤k→k<Aa s.2.1→BV s j k=true→Fb s k j≤(el ws k).2.2)
 meet:∀a b,0≤a→a<Aa s.2.1→0≤b→b<Aa s.2.1→BV s a b=true→el out a=1∨el out b=1
theorem Adt {s:Ae} {now:AE} {asks:List Int} (h:SOK s) (hG:DD s now) (hl:Aa asks=Aa s.2.1) (hf:now.2.2=false):Y4 s now.1 asks (Aa s.2.1) (pass s now.1 asks (Aa asks).toNat 0 (MJ s.2.1 now.1 asks)):=by
 have n1:=h.n1
 have hw:=hG.may.st.n
 have hbl:=Wz (gs:=s.2.1) (ws:=now.1) (asks:=asks) hw hl
 have hbase:∀j,0≤j→j<Aa s.2.1→el (MJ s.2.1 now.1 asks) j=bw (el s.2.1 j) (el now.1 j) (el asks j):=fun j j0 j1 =>
  Ep (fQ (Bb j0 j1) (Bb j0 (by omega)) (Bb j0 (by omega)))
 refine W4 (n:=Aa s.2.1) (Y4 s now.1 asks) (fun i out i0 i1 hI=>⟨fun ht=>?_,fun hn=>?_⟩) (Aa asks).toNat 0 _ (by omega) (by omega) ?_
 ·obtain⟨t1,t2,t3⟩:=ht
  have hi:i<Aa out:=by rw[hI.len];exact i1
  refine ⟨by rw[Bw];exact hI.len,fun j j0 j1 hj=>?_,fun j j0 j1 hj=>?_,fun a b a0 a1 b0 b1 hab=>?_⟩
  ·rw[IB i0 hi,if_neg (fun e=>hj (by rw[e];exact t1))]
   exact hI.on j j0 j1 hj
  ·rw[IB i0 hi]
   by_cases e:j=i
   ·subst e
    rw[if_pos rfl]
    exact .inr ⟨rfl,t2,by omega,fun k k0 k1 hk=>Int.not_lt.1 fun hlt=>t3 ⟨k,k0,by omega,hk,.inr hlt⟩⟩
   ·rw[if_neg e]
    exact (hI.off j j0 j1 hj).imp_right fun ⟨q1,q2,q3,q4⟩=>⟨q1,q2,by omega,q4⟩
  ·obtain⟨p1,p2,_⟩:=h.pair a b a0 a1 b0 b1
   have hne:=(p2 hab).1
   have free:∀k,0≤k→k<Aa s.2.1→BV s i k=true→el out k=1:=fun k k0 k1 hk=>Classical.byContradiction fun hne=>t3 ⟨k,k0,by omega,hk,.inl hne⟩
   rw[IB i0 hi,IB i0 hi]
   by_cases ea:a=i
   ·subst ea
    right
    rw[if_neg (fun e=>hne e.symm)]
    exact free b b0 b1 hab
   ·by_cases eb:b=i
    ·subst eb
     left
     rw[if_neg ea]
     exact free a a0 a1 (by rw[←p1];exact hab)
    ·rw[if_neg ea,if_neg eb]
     exact hI.meet a b a0 a1 b0 b1 hab
 ·exact ⟨hI.len,hI.on,fun j j0 j1 hj=>(hI.off j j0 j1 hj).imp_right fun ⟨q1,q2,q3,q4⟩=>⟨q1,q2,by omega,q4⟩,hI.meet⟩
 ·refine ⟨hbl,fun j j0 j1 hj=>by rw[hbase j j0 j1,bw,if_neg hj],fun j j0 j1 hj=>.inl (by rw[hbase j j0 j1,bw,if_pos hj]),fun a b a0 a1 b0 b1 hab=>?_⟩
  apply Classical.byContradiction
  intro hn
  simp only[not_or] at hn
  rw[hbase a a0 a1,hbase b b0 b1] at hn
  have ha:(el now.1 a).1≠1:=fun e=>hn.1 (by rw[bw,if_pos e])
  have hb:(el now.1 b).1≠1:=fun e=>hn.2 (by rw[bw,if_pos e])
  have hel:∀j,0≤j→j<Aa s.2.1→el (now.1.map (·.1)) j=(el now.1 j).1:=fun j j0 j1=>Ep (by rw[Pt,Bb j0 (by omega)];rfl)
  have hm:Jk s (now.1.map (·.1)):=Adl h (by rw[Jc];exact hw) a0 a1 b0 b1 hab (by rw[hel a a0 a1];exact ha) (by rw[hel b b0 b1];exact hb)
  rcases hG.may.ok with ok|ok
  ·have h0:=Bb (l:=now.1) a0 (by omega)
   have hs:=hG.all _ (An h0).2.2
   unfold FG at hs
   rw[if_neg (by rw[hf];simp)] at hs
   unfold Ck at ok
   rw[decide_eq_true_eq] at ok
   have:=ok _ (List.mem_map_of_mem (f:=(·.1)) (An h0).2.2)
   omega
  ·exact ok hm
theorem Adu {s:Ae} {now:AE} {asks out:List Int} {i:Int} (hG:DD s now) (hf:now.2.2=false) (hI:Y4 s now.1 asks i out) {j:Int} (j0:0≤j) (j1:j<Aa s.2.1):(1≤el out j∧el out j≤3)∧De (el s.2.1 j,(el now.1 j,el out j))=0∧(el out j=2→(el now.1 j).1≠2→(el now.1 j).1=1):=by
 have hs:=hG.all _ (An (Bb (l:=now.1) j0 (by rw[hG.may.st.n];exact j1))).2.2
 unfold FG at hs
 rw[if_neg (by rw[hf];simp)] at hs
 by_cases c:(el now.1 j).1=1
 ·rcases hI.off j j0 j1 c with h|⟨h,_⟩
  ·exact ⟨by omega,ZW c (.inl h),fun _ _=>c⟩
  ·exact ⟨by omega,ZW c (.inr h),fun _ _=>c⟩
 ·obtain⟨q1,q2,q3,q4⟩:=AdT (g:=el s.2.1 j) (a:=el asks j) c hs.1
  rw[hI.on j j0 j1 c]
  exact ⟨⟨q1,q2⟩,q4,fun h2 hne=>absurd (q3 h2) hne⟩
theorem uH {s:Ae} {now:AE} {asks:List Int} (h:SOK s) (hG:DD s now) (hl:Aa asks=Aa s.2.1):G4 s now (EA s now asks)=0∧DD s (C6 s now (EA s now asks)):=by
 have n1:=h.n1
 have hw:=hG.may.st.n
 have hlen:=Qx (s:=s) (now:=now) hw hl
 have hst:=y6 h hG.may.st hlen
 have hsh:=TS hw hlen
 unfold EA at hlen hst hsh ⊢
 by_cases c1:Ck asks=true
 ·rw[if_pos c1] at hlen hst hsh ⊢
  refine ⟨AbK hlen c1,⟨hst,.inl (by rw[hsh];exact c1)⟩,fun w hw'=>?_⟩
  have:=P9 hw hlen hw'
  unfold FG
  rw[if_pos (show (C6 s now asks).2.2=true from c1)]
  unfold Ck at c1
  rw[decide_eq_true_eq] at c1
  exact c1 _ this
 ·rw[if_neg c1] at hlen hst hsh ⊢
  by_cases c2:now.2.2=true∨0<now.2.1
  ·rw[if_pos c2] at hlen hst hsh ⊢
   have hal:∀a∈AQ (Aa asks) (1:Int),a=1:=fun a ha=>AcM ha
   have hfl:Ck (AQ (Aa asks) (1:Int))=false:=by
    apply Bool.eq_false_iff.2
    intro hh
    have:=Ys hh (g:=0) (by omega) (by rw[hlen];omega)
    have h1:=J6 (n:=Aa asks) (j:=0) (by omega) (by omega) (1:Int)
    rw[Ep h1] at this
    cases this
   have hnm:¬Jk s (AQ (Aa asks) (1:Int)):=fun ⟨a,b,x,y,_,hx,_,hne,_⟩=>hne (hal _ (An hx).2.2)
   refine ⟨?_,⟨hst,.inr (by rw[hsh];exact hnm)⟩,fun w hw'=>?_⟩
   ·unfold G4
    rw[if_neg (by simpa using hlen),if_neg (by rw[hfl];simp),if_neg (fun h4=>by have:=hal 4 h4;cases this),if_neg (fun hh=>by obtain⟨_,a,ha,hne⟩:=hh;exact hne (hal a ha)),if_neg (fun hh=>?_),if_neg hnm,if_neg (fun ⟨i,k,w,v,_,h2,_⟩=>by have:=hal 2 (An h2).2.2;cases this)]
    refine hh.2 (Tj fun i g w a q1 q2 q3=>?_)
    have hs:=hG.all w (List.mem_of_getElem? q2)
    unfold FG at hs
    rw[if_neg (by rw[hh.1];simp)] at hs
    have hst':0<now.2.1:=c2.elim (fun e=>by rw[hh.1] at e;cases e) id
    exact ZW (hs.2 hst') (.inl (hal a (List.mem_of_getElem? q3)))
   ·have:=hal _ (P9 hw hlen hw')
    unfold FG
    rw[if_neg (show ¬(C6 s now (AQ (Aa asks) 1)).2.2=true by show ¬Ck _ = true;rw[hfl];simp)]
    exact ⟨by omega,fun _=>this⟩
  ·rw[if_neg c2] at hlen hst hsh ⊢
   have hf:now.2.2=false:=Bool.eq_false_iff.2 fun e=>c2 (.inl e)
   have hI:=Adt (asks:=asks) h hG hl hf
   generalize pass s now.1 asks (Aa asks).toNat 0 (MJ s.2.1 now.1 asks)=out at hI hlen hst hsh ⊢
   have hin:=fun {j:Int} (j0:0≤j) (j1:j<Aa s.2.1)=>Adu hG hf hI j0 j1
   have hmem:∀a∈out,1≤a∧a≤3:=fun a ha=>by
    obtain⟨j,hj⟩:=ES ha
    have:=An hj
    have h1:=(hin this.1 (by omega)).1
    rwa [Ep hj] at h1
   have hfl:Ck out=false:=by
    apply Bool.eq_false_iff.2
    intro hh
    have:=Ys hh (g:=0) (by omega) (by omega)
    have h1:=(hin (j:=0) (by omega) (by omega)).1
    omega
   have hnm:¬Jk s out:=fun hm=>by
    obtain⟨a,b,a0,a1,b0,b1,hab,h1,h2⟩:=Aak h hlen hm
    rcases hI.meet a b a0 a1 b0 b1 hab with e|e
    ·exact h1 e
    ·exact h2 e
   refine ⟨?_,⟨hst,.inr (by rw[hsh];exact hnm)⟩,fun w hw'=>?_⟩
   ·unfold G4
    rw[if_neg (by simpa using hlen),if_neg (by rw[hfl];simp),if_neg (fun h4=>by have:=hmem 4 h4;omega),if_neg (fun hh=>c2 hh.1),if_neg (fun hh=>?_),if_neg hnm,if_neg (fun hcl=>?_)]
    ·obtain⟨i,k,w,v,q1,q2,q3,q4,q5,q6⟩:=hcl
     have ii:=An q1
     have ik:=An q4
     have e1:el now.1 i=w:=Ep q1
     have e2:el out i=2:=Ep q2
     have e3:el now.1 k=v:=Ep q4
     have hr:=(hin ii.1 (by omega)).2.2 e2 (by rw[e1];exact q3)
     rcases hI.off i ii.1 (by omega) hr with e|⟨_,_,_,hb⟩
     ·omega
     ·have:=hb k ik.1 (by omega) (by rw[(h.pair i k ii.1 (by omega) ik.1 (by omega)).1];exact q5)
      rw[e3] at this;omega
    ·refine hh.2 (Tj fun i g w a q1 q2 q3=>?_)
     have r1:idx s.2.1 (i:Int)=some g:=by rw[B7 (by omega),Int.toNat_natCast];exact q1
     have r2:idx now.1 (i:Int)=some w:=by rw[B7 (by omega),Int.toNat_natCast];exact q2
     have r3:idx out (i:Int)=some a:=by rw[B7 (by omega),Int.toNat_natCast];exact q3
     have:=(hin (j:=(i:Int)) (by omega) (An r1).2.1).2.1
     rwa [Ep r1,Ep r2,Ep r3] at this
   ·have hm:=hmem _ (P9 hw hlen hw')
    unfold FG
    rw[if_neg (show ¬(C6 s now out).2.2=true by show ¬Ck _ = true;rw[hfl];simp)]
    refine ⟨hm,fun hpos=>?_⟩
    have:(C6 s now out).2.1=max 0 (now.2.1-1):=by unfold C6;simp only[hfl,hf];rfl
    rw[this] at hpos
    exact absurd (show now.2.2=true∨0<now.2.1 from .inr (by omega)) c2
theorem fF {n:Int} {v a:A9} (h:a∈AQ n v):a=v:=(List.mem_replicate.1 h).2
theorem wD {s:Ae} (h:SOK s):DD s (KG s):=by
 have n1:=h.n1
 refine ⟨⟨AbC h,.inr fun ⟨a,b,x,y,_,hx,_,hne,_⟩=>hne ?_⟩,fun w hw=>?_⟩
 ·rw[Pt] at hx
  cases hw:idx (KG s).1 a with
  |none=>rw[hw] at hx;cases hx
  |some w =>
   rw[hw] at hx
   have:=fF (An hw).2.2
   rw[this] at hx
   cases hx;rfl
 ·have:=fF hw
  rw[this]
  unfold FG
  rw[if_neg (by simp[KG])]
  exact ⟨by decide,fun _=>rfl⟩
end Go.Proofs.YtmmkfcpdfnjgjaaGreatDoor
namespace Go.Proofs.YtmmkfcpdfnjgjaaGreatDoor
open Go.Den
def inP (s:Ae) (p g:Int):Bool:=AD (el s.2.2.2.2.1 p).1 g
def GY (s:Ae) (p:Int):List Int:=s.2.1.mapIdx fun i _=>if inP s p (i:Int)=true then 2 else 1
theorem bE (s:Ae) (p:Int):Aa (GY s p)=Aa s.2.1:=Hf
theorem AbQ {s:Ae} {p i:Int} (i0:0≤i) (i1:i<Aa s.2.1):idx (GY s p) i=some (if inP s p i=true then 2 else 1):=by
 unfold GY
 rw[MN i0,Bb i0 i1,Option.map_some,Int.toNat_of_nonneg i0]
def XV (s:Ae) (now:AE) (p:Int):Prop:=∀i,0≤i→i<Aa s.2.1→inP s p i=true→(el now.1 i).1=2
noncomputable def MS (s:Ae) (now:AE) (p:Int):AE:=C6 s now (EA s now (GY s p))
end Go.Proofs.YtmmkfcpdfnjgjaaGreatDoor
namespace Go.Proofs.YtmmkfcpdfnjgjaaGreatDoor
open Go.Den
theorem tU {s:Ae} (hs:BZ s) {p i:Int} (p0:0≤p) (p1:p<Aa s.2.2.2.2.1) (i0:0≤i) (i1:i≤31):FE (s,(p,i))=some (inP s p i):=by
 have e:=Bb (l:=s.2.2.2.2.1) p0 p1
 unfold FE
 rw[Ab _ _ e,Af _ _ (decide_eq_true i0)]
 show some (Ai .and .u32 (Av .u32 (el s.2.2.2.2.1 p).1 i) 1==1) = _
 rw[R2 (hs.ps _ (An e).2.2).1 i0 i1]
 rfl
theorem AcP {s:Ae} (hs:BZ s) (h:SOK s) {p:Int} (p0:0≤p) (p1:p<Aa s.2.2.2.2.1):II (s,p)=some (GY s p):=by
 have n1:=h.n1
 have n2:=h.n2
 have hn:0≤Aa s.2.1:=by omega
 unfold II
 rw[Af _ _ (Js hn (by omega))]
 refine AI (fun z:Int×List Int=>z.1) (Aa s.2.1) (fun z=>Aa z.2=Aa s.2.1∧∀j,0≤j→j<z.1→idx z.2 j=idx (GY s p) j) (fun r=>r=some (GY s p)) (by omega) (by simp) hn ⟨Bu hn _,fun j j0 j1=>absurd j1 (by simp only;omega)⟩ (fun z hI i0 i1=>?_) (fun z hI hz=>?_)
 ·obtain⟨i,out⟩:=z
  obtain⟨hlen,hj⟩:=hI
  simp only at i0 i1 hlen hj
  obtain⟨y,hy,_⟩:=Au (l:=out) i0 (by omega)
  have hset:idx (A8 out i 1) i=some 1:=by rw[CW i0 (by omega),if_pos rfl]
  try simp only
  rw[Af _ _ (decide_eq_true (by rw[Bu hn];exact i1)),Ab _ _ hy,Ab _ _ hy,Ab _ _ (tU hs p0 p1 i0 (by omega)),Am (i+1) (by omega) (by omega)]
  have ha:=AbQ (s:=s) (p:=p) i0 i1
  cases c:inP s p i with
  |true =>
   rw[Af _ _ rfl,Ab _ _ hset,Ab _ _ hset]
   refine ⟨rfl,by (try simp only);rw[Bw,Bw];exact hlen,fun j j0 j1=>?_⟩
   simp only at j1 ⊢
   rw[CW i0 (by rw[Bw];omega),CW i0 (by omega)]
   split
   ·rename_i e;rw[e,ha,c];rfl
   ·exact hj j j0 (by omega)
  |false =>
   rw[Ag _ _ rfl]
   refine ⟨rfl,by (try simp only);rw[Bw];exact hlen,fun j j0 j1=>?_⟩
   simp only at j1 ⊢
   rw[CW i0 (by omega)]
   split
   ·rename_i e;rw[e,ha,c];rfl
   ·exact hj j j0 (by omega)
 ·obtain⟨i,out⟩:=z
  obtain⟨hlen,hj⟩:=hI
  simp only at hz hlen hj
  try simp only
  rw[Ag _ _ (decide_eq_false (by rw[Bu hn];omega))]
  have ho:out=GY s p:=GO (by rw[bE];exact hlen) fun j j0 j1=>hj j j0 (by omega)
  rw[ho]
  exact rfl
def eJ (e:Int) (s:Ae) (p:Int):List Int×Int:=if e≠0 then ([],e) else if p<0∨Aa s.2.2.2.2.1≤p then ([],2) else (GY s p,0)
theorem yJ {s:Ae} {p e:Int} (hs:BZ s) (hok:e=0→SOK s) (hc:Aw s=some e):Da (s,p)=some (eJ e s p):=by
 unfold Da eJ
 rw[FZ,Ab _ _ hc]
 by_cases h0:e=0
 ·subst h0
  rw[Ag _ _ (by rfl),if_neg (by simp)]
  by_cases c:p<0∨Aa s.2.2.2.2.1≤p
  ·rw[Af _ _ (by simpa using c),if_pos c];rfl
  ·rw[Ag _ _ (by simpa using c),if_neg c]
   try simp only
   rw[Ag _ _ (by rfl),Ab _ _ (AcP hs (hok rfl) (by omega) (by omega))]
 ·rw[Af _ _ (by simp[h0]),if_pos h0]
  try simp only
  rw[Af _ _ (by simp[h0])]
open Classical in
noncomputable def G5 (s:Ae) (now:AE) (p:Int):Bool:=decide (XV s now p)
theorem fullB_iff {s:Ae} {now:AE} {p:Int}:G5 s now p=true↔XV s now p:=by unfold G5;simp
theorem fullB_not {s:Ae} {now:AE} {p:Int}:G5 s now p=false↔¬XV s now p:=by unfold G5;simp
theorem Aei {s:Ae} {now:AE} (hs:BZ s) (h:SOK s) (hw:Aa now.1=Aa s.2.1) {p:Int} (p0:0≤p) (p1:p<Aa s.2.2.2.2.1):IJ (s,(now,p))=some (G5 s now p):=by
 have n2:=h.n2
 unfold IJ
 have conv:(∀i w,idx now.1 i=some w→(inP s p i=true→w.1=2))↔XV s now p:=⟨fun hh i i0 i1 hi=>hh i _ (Bb i0 (by omega)) hi,fun hh i w hw' hi=>by have:=hh i (An hw').1 (by have:=(An hw').2.1;omega) hi;rwa [Ep hw'] at this⟩
 refine Ds (l:=now.1) (fun r=>r=some (G5 s now p)) (fun i w=>inP s p i=true→w.1=2) (some false) (some true) (by unfold Aa at hw n2;unfold maxLen;omega) (fun i w i0 i1 hw'=>?_) (fun i hi=>by (try simp only);rw[Ag _ _ (decide_eq_false hi)]) (fun hh=>by rw[fullB_iff.2 (conv.1 hh)]) (fun hh=>by rw[fullB_not.2 (fun hf=>hh (conv.2 hf))])
 try simp only
 rw[Af _ _ (decide_eq_true i1),Ab _ _ hw',Ab _ _ (tU hs p0 p1 i0 (by omega))]
 by_cases c:inP s p i=true→w.1=2
 ·refine .inl ⟨c,Ag _ _ ?_⟩
  cases ci:inP s p i with
  |true=>simp[c ci]
  |false=>rfl
 ·refine .inr ⟨c,Af _ _ ?_⟩
  have c1:inP s p i=true:=Classical.byContradiction fun hn=>c fun hh=>absurd hh hn
  rw[c1,Bool.true_and]
  have:w.1≠2:=fun e=>c fun _=>e
  simpa using this
open Classical in
noncomputable def Qn (e:Int) (s:Ae) (now:AE) (p:Int):Bool×Int :=
 if e≠0 then (false,e) else if Aa now.1≠Aa s.2.1 then (false,8) else if p<0∨Aa s.2.2.2.2.1≤p then (false,2) else (G5 s now p,0)
theorem eR {s:Ae} {now:AE} {p e:Int} (hs:BZ s) (hok:e=0→SOK s) (hc:Aw s=some e):DC (s,(now,p))=some (Qn e s now p):=by
 unfold DC Qn
 rw[FZ,Ab _ _ hc]
 by_cases h0:e=0
 ·subst h0
  rw[Ag _ _ (by rfl),if_neg (by simp)]
  by_cases c0:Aa now.1=Aa s.2.1
  ·rw[Ag _ _ (by simpa using c0),if_neg (by simpa using c0)]
   by_cases c:p<0∨Aa s.2.2.2.2.1≤p
   ·rw[Af _ _ (by simpa using c),if_pos c];rfl
   ·rw[Ag _ _ (by simpa using c),if_neg c]
    try simp only
    rw[Af _ _ (by rfl),Ab _ _ (Aei hs (hok rfl) c0 (by omega) (by omega))]
  ·rw[Af _ _ (by simpa using c0),if_pos c0];rfl
 ·rw[Af _ _ (by simp[h0]),if_pos h0]
  try simp only
  rw[Ag _ _ (by simp[h0])]
def Aan (s:Ae):Nat→Int
 |0=>0
 |n+1=>max (Aan s n) (el s.2.1 (n:Int)).2.1
def Abi (s:Ae):Nat→Int
 |0=>0
 |n+1=>max (Abi s n) (el s.2.1 (n:Int)).2.2
def iU (s:Ae):Int:=Aan s (Aa s.2.1).toNat
def wU (s:Ae):Int:=max (grt s) (Abi s (Aa s.2.1).toNat)
def AcC (s:Ae):Int:=iU s+wU s+2
end Go.Proofs.YtmmkfcpdfnjgjaaGreatDoor
namespace Go.Proofs.YtmmkfcpdfnjgjaaGreatDoor
open Go.Den
end Go.Proofs.YtmmkfcpdfnjgjaaGreatDoor
namespace Go.Proofs.YtmmkfcpdfnjgjaaGreatDoor
open Go.Den
def GI (s:Ae) (calls k:Int):Bool:=(el s.2.2.2.2.1 k).2.2.2.2||AD calls k
def Dz (s:Ae) (p i:Int):Int:=(p+i).tmod (Aa s.2.2.2.2.1)
theorem TG {s:Ae} {p i:Int} (p0:0≤p) (i0:0≤i) (h:p+i<Aa s.2.2.2.2.1):Dz s p i=p+i:=by
 unfold Dz
 rw[Int.tmod_eq_emod_of_nonneg (by omega),Int.emod_eq_of_lt (by omega) h]
theorem TF {s:Ae} {p i:Int} (h1:Aa s.2.2.2.2.1≤p+i) (h2:p+i<2*Aa s.2.2.2.2.1):Dz s p i=p+i-Aa s.2.2.2.2.1:=by
 unfold Dz
 have hn:=Ap s.2.2.2.2.1
 rw[Int.tmod_eq_emod_of_nonneg (by omega)]
 have e:p+i=(p+i-Aa s.2.2.2.2.1)+Aa s.2.2.2.2.1*1:=by omega
 rw[e,Int.add_mul_emod_self_left,Int.emod_eq_of_lt (by omega) (by omega)]
 omega
theorem bX {s:Ae} {p i:Int} (p0:0≤p) (p1:p<Aa s.2.2.2.2.1) (i0:0≤i) (i1:i≤Aa s.2.2.2.2.1):0≤Dz s p i∧Dz s p i<Aa s.2.2.2.2.1:=by
 by_cases c:p+i<Aa s.2.2.2.2.1
 ·rw[TG p0 i0 c];omega
 ·rw[TF (by omega) (by omega)];omega
theorem AaW {s:Ae} {p k:Int} (p0:0≤p) (p1:p<Aa s.2.2.2.2.1) (k0:0≤k) (k1:k<Aa s.2.2.2.2.1) (hk:k≠p):∃i,1≤i∧i<Aa s.2.2.2.2.1∧Dz s p i=k∧(i=k-p∨i=k-p+Aa s.2.2.2.2.1):=by
 by_cases c:p<k
 ·exact ⟨k-p,by omega,by omega,by rw[TG p0 (by omega) (by omega)];omega,.inl rfl⟩
 ·exact ⟨k-p+Aa s.2.2.2.2.1,by omega,by omega,by rw[TF (by omega) (by omega)];omega,.inr rfl⟩
theorem AaX {s:Ae} {p i:Int} (p0:0≤p) (p1:p<Aa s.2.2.2.2.1) (i0:1≤i) (i1:i<Aa s.2.2.2.2.1):Dz s p i≠p:=by
 by_cases c:p+i<Aa s.2.2.2.2.1
 ·rw[TG p0 (by omega) c];omega
 ·rw[TF (by omega) (by omega)];omega
structure RU (s:Ae) (q:Fi) (full:Bool) (calls gaps:Int) (q':Fi):Prop where
 off:full=false→q'=(q.1,0)
 stay:full=true→(min (q.2+1) 1048576<(el s.2.2.2.2.1 q.1).2.1∨(AD gaps q.1=false∧min (q.2+1) 1048576<(el s.2.2.2.2.1 q.1).2.2.1)∨∀i,1≤i→i<Aa s.2.2.2.2.1→GI s calls (Dz s q.1 i)=false)→q'=(q.1,min (q.2+1) 1048576)
 move:full=true→¬(min (q.2+1) 1048576<(el s.2.2.2.2.1 q.1).2.1∨(AD gaps q.1=false∧min (q.2+1) 1048576<(el s.2.2.2.2.1 q.1).2.2.1)∨∀i,1≤i→i<Aa s.2.2.2.2.1→GI s calls (Dz s q.1 i)=false) →
  ∃i,1≤i∧i<Aa s.2.2.2.2.1∧GI s calls (Dz s q.1 i)=true∧(∀j,1≤j→j<i→GI s calls (Dz s q.1 j)=false)∧q'=(Dz s q.1 i,0)
theorem Abu {s:Ae} (hm:Aa s.2.2.2.2.1≤8) {calls:Int} (hu:Ax calls):∃l,HM (s,calls)=some l∧Ax l∧∀j,0≤j→AD l j=(decide (j<Aa s.2.2.2.2.1)&&GI s calls j):=by
 have hn:=Ap s.2.2.2.2.1
 unfold HM
 refine AI (fun z:Int×Int=>z.2) (Aa s.2.2.2.2.1) (fun z=>Ax z.1∧∀j,0≤j→AD z.1 j=(decide (j<z.2)&&GI s calls j)) (fun r=>∃l,r=some l∧Ax l∧∀j,0≤j→AD l j=(decide (j<Aa s.2.2.2.2.1)&&GI s calls j)) (by omega) (by simp) hn ⟨⟨by simp,by simp⟩,fun j j0=>by rw[FK,decide_eq_false (by simp only;omega)];rfl⟩ (fun z hI i0 i1=>?_) (fun z hI hz=>?_)
 ·obtain⟨l,i⟩:=z
  obtain⟨hl,hj⟩:=hI
  simp only at i0 i1 hl hj
  have hd:decide (0≤i)=true:=decide_eq_true i0
  have ho:=Yp hl (Is i0 (by omega))
  have hyes:GI s calls i=true→C5 (fun z:Int×Int=>z.2) (fun z=>Ax z.1∧∀j,0≤j→AD z.1 j=(decide (j<z.2)&&GI s calls j)) (fun r=>∃l,r=some l∧Ax l∧∀j,0≤j→AD l j=(decide (j<Aa s.2.2.2.2.1)&&GI s calls j)) i (.next (Ai .or .u32 l (Bc .u32 1 i),i+1):Step (Int×Int) (Option Int)):=fun hc=>by
   rw[xT i0 (by omega)]
   refine ⟨rfl,ho,fun j j0=>?_⟩
   simp only
   rw[Xy hl (Is i0 (by omega)),Lm i0,hj j j0]
   by_cases e:i=j
   ·subst e;rw[hc];simp;omega
   ·have:decide (j<i+1)=decide (j<i):=by rw[decide_eq_decide];omega
    rw[this];simp[e]
  have hno:GI s calls i=false→C5 (fun z:Int×Int=>z.2) (fun z=>Ax z.1∧∀j,0≤j→AD z.1 j=(decide (j<z.2)&&GI s calls j)) (fun r=>∃l,r=some l∧Ax l∧∀j,0≤j→AD l j=(decide (j<Aa s.2.2.2.2.1)&&GI s calls j)) i (.next (l,i+1):Step (Int×Int) (Option Int)):=fun hc=>by
   refine ⟨rfl,hl,fun j j0=>?_⟩
   simp only
   rw[hj j j0]
   by_cases e:i=j
   ·subst e;rw[hc];simp
   ·have:decide (j<i+1)=decide (j<i):=by rw[decide_eq_decide];omega
    rw[this]
  try simp only
  rw[Af _ _ (decide_eq_true i1),Ab _ _ (Bb i0 i1),Am (i+1) (by omega) (by omega)]
  unfold GI at hyes hno
  cases c1:(el s.2.2.2.2.1 i).2.2.2.2 with
  |true =>
   rw[Af _ _ rfl,Af _ _ hd]
   exact hyes (by rw[c1];rfl)
  |false =>
   rw[Ag _ _ rfl,Af _ _ hd,R2 hu i0 (by omega)]
   cases c2:AD calls i with
   |true=>rw[Af _ _ rfl,Af _ _ hd];exact hyes (by rw[c1,c2];rfl)
   |false=>rw[Ag _ _ rfl];exact hno (by rw[c1,c2];rfl)
 ·obtain⟨l,i⟩:=z
  obtain⟨hl,hj⟩:=hI
  simp only at hz hl hj
  subst hz
  try simp only
  rw[Ag _ _ (decide_eq_false (by omega))]
  exact ⟨l,rfl,hl,hj⟩
theorem u9 {n:Nat} (h0:n≠0) (h:n<2 ^ 64):n.testBit (Lib.ctz 64 n)=true∧∀j,j<Lib.ctz 64 n→n.testBit j=false:=by
 have e:Lib.ctz 64 n=Lib.ctzFrom 64 n:=by simp[Lib.ctz,h0]
 obtain⟨m,hm,_⟩:=Lib.ctzFrom_spec 64 n (by omega) h
 rw[e]
 generalize Lib.ctzFrom 64 n=k at hm
 constructor
 ·rw[hm,Nat.mul_comm,Nat.testBit_mul_two_pow]
  simp
 ·intro j hj
  rw[hm,Nat.mul_comm,Nat.testBit_mul_two_pow]
  have:¬k≤j:=by omega
  simp[this]
theorem Uq {o m p j:Nat} (ho:o<2 ^ m) (_:p<m) (hj:p+1+j<2*m):((o ||| (o <<< m)) >>> (p+1)).testBit j=o.testBit ((p+1+j)%m):=by
 rw[Nat.testBit_shiftRight,Nat.testBit_or,Nat.testBit_shiftLeft]
 by_cases c:p+1+j<m
 ·rw[Nat.mod_eq_of_lt c]
  have:¬p+1+j≥m:=by omega
  simp[this]
 ·have e:(p+1+j)%m=p+1+j-m:=by
   rw[Nat.mod_eq_sub_mod (by omega),Nat.mod_eq_of_lt (by omega)]
  have hz:o.testBit (p+1+j)=false:=Nat.testBit_lt_two_pow (Nat.lt_of_lt_of_le ho (Nat.pow_le_pow_right (by decide) (by omega)))
  have:p+1+j≥m:=by omega
  rw[e,hz];simp[this]
theorem uS {o m p:Nat} (ho:o<2 ^ m) (hm:m≤8) (hp:p<m) (h0:o≠0) (hpo:o.testBit p=false) :
 (o ||| (o <<< m)) >>> (p+1)≠0∧(o ||| (o <<< m)) >>> (p+1)<2 ^ 64∧Lib.ctz 64 ((o ||| (o <<< m)) >>> (p+1))+1<m∧o.testBit ((p+1+Lib.ctz 64 ((o ||| (o <<< m)) >>> (p+1)))%m)=true ∧
   ∀j,j<Lib.ctz 64 ((o ||| (o <<< m)) >>> (p+1))→o.testBit ((p+1+j)%m)=false:=by
 have hlt:(o ||| (o <<< m)) >>> (p+1)<2 ^ 64:=by
  rw[Nat.shiftRight_eq_div_pow]
  refine Nat.lt_of_le_of_lt (Nat.div_le_self _ _) (Nat.or_lt_two_pow (Nat.lt_of_lt_of_le ho (Nat.pow_le_pow_right (by decide) (by omega))) ?_)
  rw[Nat.shiftLeft_eq]
  have h1:o*2 ^ m<2 ^ m*2 ^ m:=Nat.mul_lt_mul_of_pos_right ho (Nat.two_pow_pos m)
  rw[←Nat.pow_add] at h1
  exact Nat.lt_of_lt_of_le h1 (Nat.pow_le_pow_right (by decide) (by omega))
 obtain⟨b,hb⟩:=Nat.exists_testBit_of_ne_zero h0
 have hbm:b<m:=by
  apply Classical.byContradiction
  intro hn
  rw[Nat.testBit_lt_two_pow (Nat.lt_of_lt_of_le ho (Nat.pow_le_pow_right (by decide) (by omega)))] at hb
  cases hb
 have hbp:b≠p:=fun e=>by rw[e,hpo] at hb;cases hb
 obtain⟨d,hd1,hd2⟩:∃d,d+1<m∧(p+1+d)%m=b:=by
  by_cases c:p<b
  ·exact ⟨b-p-1,by omega,by rw[show p+1+(b-p-1)=b by omega,Nat.mod_eq_of_lt hbm]⟩
  ·exact ⟨b+m-p-1,by omega,by rw[show p+1+(b+m-p-1)=b+m by omega,Nat.add_mod_right,Nat.mod_eq_of_lt hbm]⟩
 have hdb:=Uq ho hp (j:=d) (by omega)
 rw[hd2,hb] at hdb
 have hne:(o ||| (o <<< m)) >>> (p+1)≠0:=fun e=>by rw[e] at hdb;simp at hdb
 obtain⟨c1,c2⟩:=u9 hne hlt
 have hle:Lib.ctz 64 ((o ||| (o <<< m)) >>> (p+1))≤d:=by
  apply Classical.byContradiction
  intro hn
  have:=c2 d (by omega)
  rw[hdb] at this;cases this
 refine ⟨hne,hlt,by omega,?_,fun j hj=>?_⟩
 ·rw[←Uq ho hp (by omega)];exact c1
 ·rw[←Uq ho hp (by omega)];exact c2 j hj
theorem Y0 {n:Nat} (h:n<2 ^ 64):wr .u64 (n:Int)=n:=by
 show IntKind.u64.wrap (n:Int)=n
 have:(2:Nat) ^ 64=18446744073709551616:=by decide
 rw[wrap_u64];omega
theorem rN {s:Ae} (hm1:1≤Aa s.2.2.2.2.1) (hm:Aa s.2.2.2.2.1≤8) {o p:Int} (ho:Ax o) (p0:0≤p) (p1:p<Aa s.2.2.2.2.1) (hhi:∀j,Aa s.2.2.2.2.1≤j→AD o j=false) (hpo:AD o p=false) (h0:o≠0) :
 ∃i,1≤i∧i<Aa s.2.2.2.2.1∧AD o (Dz s p i)=true∧(∀j,1≤j→j<i→AD o (Dz s p j)=false)∧HL (o,(p,Aa s.2.2.2.2.1))=some (Dz s p i):=by
 obtain⟨n,rfl⟩:∃n:Nat,o=n:=⟨o.toNat,by have:=ho.1;omega⟩
 obtain⟨q,rfl⟩:∃n:Nat,p=n:=⟨p.toNat,by omega⟩
 obtain⟨m,hmm⟩:∃m:Nat,Aa s.2.2.2.2.1=m:=⟨(Aa s.2.2.2.2.1).toNat,by omega⟩
 have bit:∀j:Nat,AD (n:Int) (j:Int)=n.testBit j:=fun j=>by unfold AD;simp
 have hn:n<2 ^ m:=by
  apply Nat.lt_pow_two_of_testBit
  intro i hi
  rw[←bit];exact hhi _ (by omega)
 obtain⟨b1,b2,b3,b4,b5⟩:=uS (o:=n) (m:=m) (p:=q) hn (by omega) (by omega) (by omega) (by rw[←bit];exact hpo)
 have rp:∀j:Nat,Dz s (q:Int) ((j:Int)+1)=(((q+1+j)%m:Nat):Int):=fun j=>by
  unfold Dz
  rw[hmm,Int.tmod_eq_emod_of_nonneg (by omega),show (q:Int)+((j:Int)+1)=((q+1+j:Nat):Int) by omega]
  rfl
 generalize hd:Lib.ctz 64 ((n ||| (n <<< m)) >>> (q+1))=d at b3 b4 b5
 refine ⟨(d:Int)+1,by omega,by omega,by rw[rp,bit];exact b4,fun j j0 j1=>?_,?_⟩
 ·have:=rp (j-1).toNat
  rw[show (((j-1).toNat:Nat):Int)+1=j by omega] at this
  rw[this,bit]
  exact b5 _ (by omega)
 ·unfold HL
  rw[rp]
  simp only[hmm]
  have h28:(2:Nat) ^ m≤2 ^ 8:=Nat.pow_le_pow_right (by decide) (by omega)
  have hn8:n<256:=by omega
  have hw:wr .u64 (n:Int)=n:=Y0 (by omega)
  have hsl:Bc .u64 (n:Int) (m:Int)=((n <<< m:Nat):Int):=by
   unfold Bc
   rw[show min ((m:Int)).toNat IntKind.u64.bits=m by simp only[IntKind.bits];omega,Nat.shiftLeft_eq]
   have:((n:Int)*2 ^ m)=((n*2 ^ m:Nat):Int):=by simp
   rw[this]
   refine Y0 ?_
   have:n*2 ^ m≤256*2 ^ 8:=Nat.mul_le_mul (by omega) h28
   omega
  have hnl:n <<< m<2 ^ 64:=by
   rw[Nat.shiftLeft_eq]
   have:n*2 ^ m≤256*2 ^ 8:=Nat.mul_le_mul (by omega) h28
   omega
  rw[hw,hsl]
  have hor:Ai .or .u64 (n:Int) ((n <<< m:Nat):Int)=((n ||| (n <<< m):Nat):Int):=j9 (by omega) hnl
  rw[hor]
  rw[Am ((q:Int)+1) (by omega) (by omega)]
  have hsr:Av .u64 ((n ||| (n <<< m):Nat):Int) ((q:Int)+1)=(((n ||| (n <<< m)) >>> (q+1):Nat):Int):=by
   unfold Av
   rw[show min ((q:Int)+1).toNat IntKind.u64.bits=q+1 by simp only[IntKind.bits];omega]
   have hp:(0:Int)<2 ^ (q+1):=Int.pow_pos (by decide)
   rw[Int.fdiv_eq_ediv_of_nonneg _ (Int.le_of_lt hp),Nat.shiftRight_eq_div_pow]
   simp
  rw[hsr]
  have htz:Be (((n ||| (n <<< m)) >>> (q+1):Nat):Int)=(d:Int):=by
   unfold Be
   rw[if_neg (by omega),Int.toNat_natCast,hd]
  rw[Af _ _ (decide_eq_true (by omega)),Af _ _ (decide_eq_true (by omega)),AG,htz,Af _ _ (by simp;omega),Am ((q:Int)+1+d) (by omega) (by omega)]
  unfold FX
  rw[Int.tmod_eq_emod_of_nonneg (by omega),show (q:Int)+1+(d:Int)=((q+1+d:Nat):Int) by omega]
  rfl
structure UB (s:Ae) (q:Fi):Prop where
 p0:0≤q.1
 p1:q.1<Aa s.2.2.2.2.1
 s0:0≤q.2
 s1:q.2≤1048576
theorem Yn {s:Ae} {q:Fi} {now:AE} {calls gaps:Int} (hs:BZ s) (hS:Dh s) (hc:Aw s=some 0) (hq:UB s q) (hw:Aa now.1=Aa s.2.1) (hu:Ax calls) (hg:Ax gaps) :
 ∃q',RU s q (G5 s now q.1) calls gaps q'∧0≤q'.1∧q'.1<Aa s.2.2.2.2.1∧0≤q'.2∧q'.2≤1048576∧JB (s,(q,(now,(calls,gaps))))=some (q',(GY s q'.1,0)):=by
 have h:=sok hs hS
 have hm1:=hS.shape.p1
 have hm:=hS.shape.p2
 obtain⟨p,t⟩:=q
 obtain⟨p0,p1,s0,s1⟩:=hq
 simp only at p0 p1 s0 s1
 have hasks:∀k,0≤k→k<Aa s.2.2.2.2.1→Da (s,k)=some (GY s k,0):=fun k k0 k1=>by
  rw[yJ (e:=0) hs (fun _=>h) hc]
  unfold eJ
  rw[if_neg (by simp),if_neg (by simp;omega)]
 have hfull:DC (s,(now,p))=some (G5 s now p,0):=by
  rw[eR (e:=0) hs (fun _=>h) hc]
  unfold Qn
  rw[if_neg (by simp),if_neg (by simpa using hw),if_neg (by simp;omega)]
 have hphp:=(hS.phased.1 p _ (Bb p0 p1))
 have hmin:=hphp.min
 have hmax:=hphp.max
 unfold JB
 simp only
 rw[Ab _ _ hc,Ag _ _ (by rfl),Ag _ _ (decide_eq_false (by omega)),Ag _ _ (decide_eq_false (by omega)),Ag _ _ (decide_eq_false (by omega)),Ag _ _ (decide_eq_false (by omega)),Ag _ _ (by simpa using hw),Ab _ _ hfull]
 cases hf:G5 s now p with
 |false =>
  rw[Af _ _ (by rfl),Ab _ _ (hasks p p0 p1)]
  exact ⟨(p,0),⟨fun _=>rfl,fun hh=>(by cases hh),fun hh=>(by cases hh)⟩,p0,p1,by simp,by simp,rfl⟩
 |true =>
  obtain⟨l,hl,lu,lb⟩:=Abu (s:=s) hm hu
  have hd:decide (0≤p)=true:=decide_eq_true p0
  rw[Ag _ _ (by rfl),Ab _ _ (Bb p0 p1),Ab _ _ hl,Af _ _ hd,Af _ _ hd,Am (t+1) (by omega) (by omega),DX,R2 hg p0 (by omega),xT p0 (by omega)]
  have hou:=Ob lu (Is p0 (by omega))
  have hob:∀j,0≤j→AD (Ai .andNot .u32 l ((2 ^ p.toNat:Nat):Int)) j=(decide (j<Aa s.2.2.2.2.1)&&GI s calls j&&!decide (p=j)):=fun j j0=>by
   rw[Qa lu (Is p0 (by omega)),lb j j0,Lm p0]
  generalize Ai .andNot .u32 l ((2 ^ p.toNat:Nat):Int)=o at hou hob ⊢
  have ocall:∀i,1≤i→i<Aa s.2.2.2.2.1→AD o (Dz s p i)=GI s calls (Dz s p i):=fun i i0 i1=>by
   obtain⟨r0,r1⟩:=bX p0 p1 (i:=i) (by omega) (by omega)
   have hne:=AaX p0 p1 i0 i1
   rw[hob _ r0,decide_eq_true r1,decide_eq_false (fun e=>hne e.symm)]
   simp
  have oz:o=0↔∀i,1≤i→i<Aa s.2.2.2.2.1→GI s calls (Dz s p i)=false:=by
   constructor
   ·intro hz i i0 i1
    rw[←ocall i i0 i1,hz,FK]
   ·intro hz
    refine UF hou ⟨by simp,by simp⟩ fun j j0 j1=>?_
    rw[FK,hob j j0]
    by_cases c:j<Aa s.2.2.2.2.1
    ·by_cases e:p=j
     ·simp[e]
     ·obtain⟨i,i0,i1,hi,_⟩:=AaW p0 p1 j0 c (fun hh=>e hh.symm)
      have:=hz i i0 i1
      rw[hi] at this
      simp[this]
    ·simp[c]
  by_cases c:(min (t+1) 1048576<(el s.2.2.2.2.1 p).2.1∨(AD gaps p=false∧min (t+1) 1048576<(el s.2.2.2.2.1 p).2.2.1)∨∀i,1≤i→i<Aa s.2.2.2.2.1→GI s calls (Dz s p i)=false)
  ·refine ⟨(p,min (t+1) 1048576),⟨fun hh=>(by cases hh),fun _ _=>rfl,fun _ hn=>absurd c hn⟩,p0,p1,by simp only;omega,by simp only;omega,?_⟩
   rw[Ag _ _ ?_,Ab _ _ (hasks p p0 p1)]
   rcases c with c|c|c
   ·have:decide ((el s.2.2.2.2.1 p).2.1≤min (t+1) 1048576)=false:=decide_eq_false (by omega)
    rw[this];rfl
   ·have:decide ((el s.2.2.2.2.1 p).2.2.1≤min (t+1) 1048576)=false:=decide_eq_false (by omega)
    rw[this,c.1];simp
   ·rw[oz.2 c];simp
  ·have hc2:=c
   simp only[not_or] at c
   obtain⟨c1,c2,c3⟩:=c
   have hne:o≠0:=fun e=>c3 (oz.1 e)
   obtain⟨i,i0,i1,i2,i3,i4⟩:=rN hm1 hm hou p0 p1 (fun j hj=>by rw[hob j (by omega),decide_eq_false (by omega)];rfl) (by rw[hob p p0];simp) hne
   obtain⟨r0,r1⟩:=bX p0 p1 (i:=i) (by omega) (by omega)
   refine ⟨(Dz s p i,0),⟨fun hh=>(by cases hh),fun _ hh=>absurd hh hc2,fun _ _=>⟨i,i0,i1,by rw[←ocall i i0 i1];exact i2,fun j j0 j1=>by rw[←ocall j j0 (by omega)];exact i3 j j0 j1,rfl⟩⟩,r0,r1,by simp,by simp,?_⟩
   rw[Af _ _ ?_,Ab _ _ i4,Ab _ _ (hasks _ r0 r1)]
   have d1:decide ((el s.2.2.2.2.1 p).2.1≤min (t+1) 1048576)=true:=decide_eq_true (by omega)
   rw[d1]
   have d2:(!(o==0))=true:=by simp[hne]
   rw[d2]
   cases cg:AD gaps p with
   |true=>rfl
   |false =>
    have:decide ((el s.2.2.2.2.1 p).2.2.1≤min (t+1) 1048576)=true:=decide_eq_true (by
     apply Classical.byContradiction
     intro hn
     exact c2 ⟨cg,by omega⟩)
    rw[this];rfl
def Pq (s:Ae):Nat→Int
 |0=>0
 |n+1=>Pq s n+((el s.2.2.2.2.1 (n:Int)).2.2.1+AcC s+2)
end Go.Proofs.YtmmkfcpdfnjgjaaGreatDoor
namespace Go.Proofs.YtmmkfcpdfnjgjaaGreatDoor
open Go.Den
end Go.Proofs.YtmmkfcpdfnjgjaaGreatDoor
namespace Go.Proofs.YtmmkfcpdfnjgjaaGreatDoor
open Go.Den
def yX (s:Ae) (P a:Int):Int :=
 if a≤P then Pq s P.toNat-Pq s a.toNat else Pq s P.toNat+Pq s (Aa s.2.2.2.2.1).toNat-Pq s a.toNat
open Classical in
noncomputable def LO (s:Ae) (P:Int) (q:Fi) (now:AE) (t:Int):Int :=
 if XV s now q.1 then yX s P q.1+(iU s+wU s+1)-((el s.2.2.2.2.1 q.1).2.2.1+AcC s+2)+max 0 ((el s.2.2.2.2.1 q.1).2.2.1-1-q.2)
 else yX s P q.1+(iU s+wU s+1)-t
end Go.Proofs.YtmmkfcpdfnjgjaaGreatDoor
namespace Go.Proofs.YtmmkfcpdfnjgjaaGreatDoor.Pn
open Go.Den
def wW (s:Ae) (k:Int):Int:=(el s.2.2.2.2.1 k).2.1
def Qe (s:Ae) (k:Int):Int:=BL s k-wW s k
structure Ad6 (s:Ae) (k:Int):Prop where
 min:1≤wW s k∧wW s k≤1048576
 clr:0≤Qe s k∧Qe s k≤1048576
 clear:∀a b,0≤a→a<Aa s.2.1→0≤b→b<Aa s.2.1→inP s k a=true→inP s (Ho s k) b=true→BV s a b=true→Fb s a b≤Qe s k
theorem Aey {s:Ae} (hx:BZ s) (h:Dh s) {k:Int} (k0:0≤k) (k1:k<Aa s.2.2.2.2.1):Ad6 s k:=by
 have hp:=Bb k0 k1
 obtain⟨_,pn,m,hpn,hci,hv,n1,n2⟩:=M3 hx h.shape h.apart h.phased hp
 have hph:=h.phased.1 k _ hp
 have hmin:wW s k=(el s.2.2.2.2.1 k).2.1:=rfl
 have hc:Qe s k=m:=by unfold Qe;omega
 have hle:=gE hx h.shape h.apart hci
 refine ⟨hph.min,by rw[hc];exact hle,fun a b a0 a1 b0 b1 ha hb hab=>?_⟩
 rw[hc]
 refine hci.2.1 a _ a0 a1 ⟨ha,el s.2.2.1 a,el s.2.2.2.1 a,b,Bb a0 (by rw[h.shape.a];exact a1),Bb a0 (by rw[h.shape.b];exact a1),hab,?_,?_⟩
 ·have e:=Ep hpn
  unfold inP at hb
  rw[e] at hb;exact hb
 ·exact Bb b0 (by rw[h.shape.rows a _ (Bb a0 (by rw[h.shape.b];exact a1))];exact b1)
theorem Yn {s:Ae} (hs:ShapeOK s) {k:Int} (k0:0≤k) (k1:k<Aa s.2.2.2.2.1):Eu (s,k)=some (Ho s k)∧Ho s k=if k+1<Aa s.2.2.2.2.1 then k+1 else 0:=by
 have p1:=hs.p1
 have p2:=hs.p2
 constructor
 ·unfold Eu Ho
  rw[Af _ _ (by simp;omega),Am (k+1) (by omega) (by omega)]
  rfl
 ·unfold Ho
  split
  ·rename_i c;exact Int.tmod_eq_of_lt (by omega) c
  ·have:k+1=Aa s.2.2.2.2.1:=by omega
   rw[this,Int.tmod_self]
def UT (s:Ae) (p:AB) (k:Nat) (u:Int):Int:=if el p.2.2 (k:Int)-Qe s (k:Int)≤u then Ho s (k:Int) else (k:Int)
theorem Acp {s:Ae} {p:AB} {t:Int} (hx:BZ s) (h:Dh s) (hc:Aw s=some 0) (N:P3 s p) {k:Nat} {u:Int} (hk:k<nV s) (hat:G7 (s,(p,t))=some ((k:Int),(u,0))):D3 (s,(p,t))=some (UT s p k u,0):=by
 have hnl:((nV s:Nat):Int)=Aa s.2.2.2.2.1:=rfl
 have hln:Aa p.2.2=(nV s:Int):=by unfold Aa;rw[N.len]
 have hidx:=Bb (l:=p.2.2) (i:=(k:Int)) (by omega) (by omega)
 have hph:=Bb (l:=s.2.2.2.2.1) (i:=(k:Int)) (by omega) (by omega)
 have T:=Aey hx h (k:=(k:Int)) (by omega) (by omega)
 have nn:=N.needs k hk
 have e:=N.ends (k+1) (by omega)
 have e0:=N.ends k (by omega)
 have cy:=N.cyc
 rw[L6] at e
 have hcl:EI (s,(k:Int))=some (Qe s (k:Int)):=kA hx h hc hph
 have hcc:=T.clr
 have hmm:=T.min
 unfold D3
 rw[Ab _ _ hat]
 try simp only
 rw[Ag (b:=!((0:Int)==0)) _ _ rfl,Ab _ _ hidx,Ab _ _ hcl,Am (el p.2.2 (k:Int)-Qe s (k:Int)) (by omega) (by omega)]
 unfold UT
 by_cases c:el p.2.2 (k:Int)-Qe s (k:Int)≤u
 ·rw[Af _ _ (decide_eq_true c),if_pos c,Ab _ _ (Yn h.shape (by omega) (by omega)).1]
 ·rw[Ag _ _ (decide_eq_false c),if_neg c]
structure OffP (s:Ae) (now:AE) (j a:Int):Prop where
 a0:0≤a
 ended:a≤CJ (el now.1 j).2.2
 green:(el now.1 j).1=2→a=0∧(el s.2.1 j).2.1≤CJ (el now.1 j).2.1
 yellow:(el now.1 j).1=3→a≤CJ (el now.1 j).2.1∧a≤(el s.2.1 j).2.2
theorem OffP.weaken {s:Ae} {now:AE} {j a b:Int} (h:OffP s now j a) (b0:0≤b) (hb:b≤a):OffP s now j b where
 a0:=b0
 ended:=by have:=h.ended;omega
 green:=fun e=>⟨by have:=(h.green e).1;omega,(h.green e).2⟩
 yellow:=fun e=>by have:=h.yellow e;omega
end Go.Proofs.YtmmkfcpdfnjgjaaGreatDoor.Pn
namespace Go.Proofs.YtmmkfcpdfnjgjaaGreatDoor.Pn
open Go.Den
end Go.Proofs.YtmmkfcpdfnjgjaaGreatDoor.Pn
namespace Go.Proofs.YtmmkfcpdfnjgjaaGreatDoor.Pn
open Go.Den
end Go.Proofs.YtmmkfcpdfnjgjaaGreatDoor.Pn
namespace Go.Proofs.YtmmkfcpdfnjgjaaGreatDoor.Ld
open Go.Den
theorem tH (x:Ae) (hx:BZ x):∃b,E0 x=some b:=by
 unfold E0
 rw[AS]
 split
 ·exact ⟨_,rfl⟩
 ·refine Ds (l:=x.2.2.2.1) (fun a:Option Bool=>∃b,a=some b) (fun _ r=>¬40<Aa r) (some true) _ hx.b (fun i r h0 hi hr=>?_) (fun i hi=>by simp only[hi,decide_false,AR];rfl) (fun _=>?_) (fun _=>⟨_,rfl⟩)
  ·simp only[hi,decide_true,AP,hr,A4]
   by_cases h:40<Aa r
   ·exact .inr ⟨fun hh=>hh h,by simp only[h,decide_true,AP]⟩
   ·exact .inl ⟨h,by simp only[h,decide_false,AR]⟩
  ·refine Ds (l:=x.2.2.2.2.2.2.2.2.2.2.2) (fun a:Option Bool=>∃b,a=some b) (fun _ p=>¬40<Aa p.2.2) (some true) (some false) hx.q (fun i r h0 hi hr=>?_) (fun i hi=>by simp only[hi,decide_false,AR]) (fun _=>⟨_,rfl⟩) (fun _=>⟨_,rfl⟩)
   simp only[hi,decide_true,AP,hr,A4]
   by_cases h:40<Aa r.2.2
   ·exact .inr ⟨fun hh=>hh h,by simp only[h,decide_true,AP]⟩
   ·exact .inl ⟨h,by simp only[h,decide_false,AR]⟩
structure IV (r:BG):Prop where
 mode:0≤r.1∧r.1≤3
 well:0≤r.2.1∧r.2.1≤1048576
 latched:r.2.2=true→r.1=0∧r.2.1=0
theorem step_eq (s:Ae) (r:BG) (f:DE) (hr:IV r):C7 (s,(r,f)) =
 (if r.2.2=true∨f.2.2.2=false then (0,(0,true)) else
   if (BS (r,f))≤r.1 then (BS (r,f),(0,false)) else
   if s.2.2.2.2.2.2.2.2.1≤r.2.1+1 then (r.1+1,(0,false)) else (r.1,(r.2.1+1,false))):=by
 obtain⟨mo,we,la⟩:=r
 obtain⟨fr,pl,ey,li⟩:=f
 have h1:=hr.mode
 have h2:=hr.well
 have h3:=hr.latched
 simp only at h1 h2 h3
 unfold C7
 simp only[Ay]
 rw[Am (we+1) (by omega) (by omega),OB (mo+1) (by omega) (by omega)]
 cases la with
 |true =>
  have:=h3 rfl
  simp[BS,cnd,hi2_eq,this.1]
 |false =>
  cases li with
  |false=>simp[BS,cnd,hi2_eq,h1.1]
  |true =>
   simp only[Bool.or_false,Bool.not_true,AS,decide_eq_true_eq]
   simp
theorem Aai (r:BG) (f:DE):0≤BS (r,f)∧BS (r,f)≤3:=by
 unfold BS
 simp only[AS]
 repeat' split
 all_goals omega
theorem AdN {s:Ae} {r:BG} (f:DE) (hr:IV r) (hh:s.2.2.2.2.2.2.2.2.1≤1048576):IV (C7 (s,(r,f))):=by
 rw[step_eq s r f hr]
 have h1:=hr.mode
 have h2:=hr.well
 have hm:=Aai r f
 split
 ·exact ⟨by simp,by simp,fun _=>⟨rfl,rfl⟩⟩
 ·split
  ·exact ⟨by simp only;omega,by simp,fun h=>by simp at h⟩
  ·split
   ·exact ⟨by simp only;omega,by simp,fun h=>by simp at h⟩
   ·exact ⟨by simp only;omega,by simp only;omega,fun h=>by simp at h⟩
theorem AcO {s:Ae} {r:BG} (hs:BZ s) (h1:0≤r.1):∃e,Gj (s,r)=some e∧((e=0∧Dh s∧IV r)∨(e=8∧Dh s∧¬IV r)∨(e=50∧¬Dh s)):=by
 obtain⟨e,h2,h3⟩:=Zl hs
 unfold Gj
 rw[h2]
 simp only[A4]
 rcases h3 with ⟨rfl,h3⟩|⟨rfl,h3⟩
 ·simp only[beq_self_eq_true,Bool.not_true,AR]
  rw[AS]
  split
  ·rename_i h
   refine ⟨8,rfl,.inr (.inl ⟨rfl,h3,fun hr=>?_⟩)⟩
   have a:=hr.mode
   have b:=hr.well
   have c:=hr.latched
   simp only[Bool.or_eq_true,Bool.and_eq_true,decide_eq_true_eq,Bool.not_eq_true',beq_eq_false_iff_ne,ne_eq] at h
   rcases h with ((h|h)|h)|⟨h,h'⟩
   ·omega
   ·omega
   ·omega
   ·have:=c h;omega
  ·rename_i h
   simp only[Bool.or_eq_true,Bool.and_eq_true,decide_eq_true_eq,Bool.not_eq_true',beq_eq_false_iff_ne,ne_eq,not_or,not_and] at h
   exact ⟨0,rfl,.inl ⟨rfl,h3,⟨h1,by omega⟩,by omega,fun hl=>⟨Decidable.not_not.1 (h.2 hl).1,Decidable.not_not.1 (h.2 hl).2⟩⟩⟩
 ·exact ⟨50,rfl,.inr (.inr ⟨rfl,h3⟩)⟩
theorem AG {α A:Type} (x:α) (f:α→A):Ay x f=f x:=id rfl
structure Ae5 (was:BG) (f:DE) (y:BG) (heal:Int):Prop where
 may:y.1≤BS (was,f)
 up:y.1≤was.1+1
 keep:was.2.2=true→y.2.2=true
 dark:f.2.2.2=false→y.2.2=true
 flat:y.2.2=true→y.1=0
 master:y.1=3→f.1=true∧f.2.1=true∧f.2.2.1=true∧f.2.2.2=true
 stored:y.1=2→f.2.1=true∧f.2.2.2=true
 new:y.2.2=true→was.2.2=false→f.2.2.2=false
theorem Aa2 (s:Ae) (was:BG) (f:DE) (hw:IV was):Ae5 was f (C7 (s,(was,f))) s.2.2.2.2.2.2.2.2.1:=by
 have hst:=step_eq s was f hw
 have h1:=hw.mode
 obtain⟨mo,we,la⟩:=was
 obtain⟨fr,pl,ey,li⟩:=f
 have hla:=hw.latched
 simp only at h1 hla hst
 generalize C7 (s,((mo,we,la),(fr,pl,ey,li)))=y at hst ⊢
 cases la with
 |true =>
  have hz:=hla rfl
  simp at hst
  subst hst
  constructor<;>simp[BS,cnd,hi2_eq]
  all_goals omega
 |false =>
  cases li with
  |false =>
   simp at hst
   subst hst
   constructor<;>simp[BS,cnd,hi2_eq]
   all_goals omega
  |true =>
   simp only[Bool.false_eq_true,Bool.true_eq_false,or_self,if_false] at hst
   have hm:=Aai (mo,we,false) (fr,pl,ey,true)
   have h3:BS ((mo,we,false),(fr,pl,ey,true))=3→fr=true∧pl=true∧ey=true:=by
    unfold BS
    cases fr<;>cases pl<;>cases ey<;>simp[cnd,hi2_eq]
   have h2:2≤BS ((mo,we,false),(fr,pl,ey,true))→pl=true:=by
    unfold BS
    cases fr<;>cases pl<;>cases ey<;>simp[cnd,hi2_eq]
   generalize hmm:BS ((mo,we,false),(fr,pl,ey,true))=m at hst hm h3 h2
   have hy:y.2.2=false∧y.1≤m∧y.1≤mo+1:=by
    rw[hst]
    split
    ·exact ⟨rfl,by simp only;omega,by simp only;omega⟩
    ·split
     ·exact ⟨rfl,by simp only;omega,by simp only;omega⟩
     ·exact ⟨rfl,by simp only;omega,by simp only;omega⟩
   obtain⟨y1,y2,y3⟩:=hy
   exact ⟨by rw[hmm];exact y2,y3,fun h=>(by simp at h),fun h=>(by simp at h),fun h=>(by rw[y1] at h;cases h),fun h=>(by obtain⟨a,b,c⟩:=h3 (by omega);exact ⟨a,b,c,rfl⟩),fun h=>⟨h2 (by omega),rfl⟩,fun h=>(by rw[y1] at h;cases h)⟩
end Go.Proofs.YtmmkfcpdfnjgjaaGreatDoor.Ld
namespace Go.Proofs.YtmmkfcpdfnjgjaaGreatDoor.Ld
open Go.Den
theorem Aar {s:Ae} {r:BG} (f:DE) (hs:BZ s) (hok:Dh s) (hr:IV r):EW (s,(r,f))=some (C7 (s,(r,f)),0):=by
 obtain⟨e,h1,h2⟩:=AcO (r:=r) hs hr.mode.1
 have he:e=0:=by
  rcases h2 with h2|h2|h2
  ·exact h2.1
  ·exact absurd hr h2.2.2
  ·exact absurd hok h2.2
 subst he
 unfold EW
 simp only[h1,A4,beq_self_eq_true,Bool.not_true,AR]
 rfl
end Go.Proofs.YtmmkfcpdfnjgjaaGreatDoor.Ld
namespace Go.Proofs.YtmmkfcpdfnjgjaaGreatDoor.Ld
open Go.Den
def HA (s:Ae) (l:List Int):Int:=if Aa l=Aa s.2.1 then (if ∀a∈l,a≤4 then 0 else 2) else 4
theorem iV {s:Ae} {l:List Int} (hl:l.length≤maxLen):GL (s,l)=some (HA s l):=by
 unfold GL HA
 rw[AS]
 split
 ·rename_i h
  rw[if_neg (by simpa using h)]
 ·rename_i h
  rw[if_pos (by simpa using h)]
  have conv:(∀a∈l,a≤4)↔(∀(i:Int) a,idx l i=some a→a≤4):=⟨fun h i a ha=>h a (An ha).2.2,fun h a ha=>by obtain⟨i,hi⟩:=ES ha;exact h i a hi⟩
  refine Ds (l:=l) (fun a:Option Int=>a=some (if ∀a∈l,a≤4 then 0 else 2)) (fun _ a=>a≤4) (some 2) (some 0) hl (fun i a h0 hi ha=>?_) (fun i hi=>by simp[hi,cnd,hi2_eq]) (fun h=>by rw[if_pos (conv.2 h)]) (fun h=>by rw[if_neg (fun hh=>h (conv.1 hh))])
  simp only[hi,decide_true,AP,ha,A4]
  by_cases h4:4<a
  ·exact .inr ⟨by omega,by simp only[h4,decide_true,AP]⟩
  ·exact .inl ⟨by omega,by simp only[h4,decide_false,AR]⟩
theorem lightE_ok {s:Ae} {l:List Int}:HA s l=0↔Aa l=Aa s.2.1∧∀a∈l,a≤4:=by
 unfold HA
 split
 ·rename_i h
  split
  ·rename_i h2;exact ⟨fun _=>⟨h,h2⟩,fun _=>rfl⟩
  ·rename_i h2;exact ⟨fun hh=>(by cases hh),fun hh=>absurd hh.2 h2⟩
 ·rename_i h;exact ⟨fun hh=>(by cases hh),fun hh=>absurd hh.1 h⟩
def Iv (s:Ae) (lit seen:List Int):Bool×Int :=
 if HA s lit≠0 then (false,HA s lit) else
 if Aa seen=0 then (false,0) else
 if HA s seen≠0 then (false,HA s seen) else (decide (lit≠seen),0)
theorem AdV {s:Ae} {lit seen:List Int} (hl:lit.length≤maxLen) (hsn:seen.length≤maxLen):Hu (s,(lit,seen))=some (Iv s lit seen):=by
 unfold Hu
 refine EG (fun k=>k=0∨(k=1∧HA s lit=0)∨(k=2∧HA s lit=0∧(Aa seen=0∨HA s seen=0))) (fun k=>(2-k).toNat) (fun a=>a=some (Iv s lit seen)) ?_ AA 0 (.inl rfl) (by rw[Gl];simp)
 rintro k (rfl|⟨rfl,h1⟩|⟨rfl,h1,h2⟩)
 ·have e1:decide ((0:Int)<Aa (lit::(seen::[])))=true:=rfl
  have e2:idx (lit::(seen::[])) (0:Int)=some lit:=rfl
  have e3:((0:Int)==1&&Aa lit==0)=false:=rfl
  simp only[e1,AP,e2,A4,e3,AR,iV hl]
  by_cases h:HA s lit=0
  ·simp only[h,beq_self_eq_true,Bool.not_true,AR]
   exact ⟨.inr (.inl ⟨rfl,by first|exact h|trivial⟩),by decide⟩
  ·simp only[beq_false_of_ne h,Bool.not_false,AP]
   show _ = _
   unfold Iv;rw[if_pos h]
 ·have e1:decide ((1:Int)<Aa (lit::(seen::[])))=true:=rfl
  have e2:idx (lit::(seen::[])) (1:Int)=some seen:=rfl
  simp only[e1,AP,e2,A4,beq_self_eq_true,Bool.true_and]
  by_cases hz:Aa seen=0
  ·simp only[hz,beq_self_eq_true,AP]
   exact ⟨.inr (.inr ⟨rfl,h1,by first|exact .inl hz|exact .inl trivial⟩),by decide⟩
  ·simp only[beq_false_of_ne hz,AR,iV hsn,A4]
   by_cases h:HA s seen=0
   ·simp only[h,beq_self_eq_true,Bool.not_true,AR]
    exact ⟨.inr (.inr ⟨rfl,h1,by first|exact .inr h|exact .inr trivial⟩),by decide⟩
   ·simp only[beq_false_of_ne h,Bool.not_false,AP]
    show _ = _
    unfold Iv;rw[if_neg (by simp[h1]),if_neg hz,if_pos h]
 ·have e1:decide ((2:Int)<Aa (lit::(seen::[])))=false:=rfl
  simp only[e1,AR]
  show iter _ _ _ _ = _
  have hlit:=(lightE_ok.1 h1).1
  refine Ds (l:=seen) (fun a:Option (Bool×Int)=>a=some (Iv s lit seen)) (fun i a=>idx lit i=some a) (some (true,0)) (some (false,0)) hsn (fun i a h0 hi ha=>?_) (fun i hi=>by simp[hi,cnd,hi2_eq]) (fun h=>?_) (fun h=>?_)
  ·have h3:Aa seen=Aa s.2.1:=by
    rcases h2 with h2|h2
    ·omega
    ·exact (lightE_ok.1 h2).1
   obtain⟨b,hb,_⟩:=Au (l:=lit) h0 (by omega)
   simp only[hi,decide_true,AP,ha,A4,hb]
   by_cases e:b=a
   ·subst e;exact .inl ⟨rfl,by simp only[beq_self_eq_true,Bool.not_true,AR]⟩
   ·exact .inr ⟨fun hh=>e (Option.some.inj hh),by simp only[beq_false_of_ne e,Bool.not_false,AP]⟩
  ·unfold Iv
   rw[if_neg (by simp[h1])]
   split
   ·rfl
   ·rename_i hz
    have h2:=h2.resolve_left hz
    rw[if_neg (by simp[h2])]
    have:lit=seen:=GO (by have:=(lightE_ok.1 h2).1;omega) fun j j0 j1=>by
     obtain⟨a,ha,_⟩:=Au (l:=seen) j0 (by have:=(lightE_ok.1 h2).1;omega)
     rw[ha];exact h j a ha
    simp[this]
  ·unfold Iv
   rw[if_neg (by simp[h1])]
   have hne:seen≠[]:=fun e=>h (fun i a ha=>by subst e;have:=An ha;exact absurd this.2.2 (by simp))
   have hz:¬Aa seen=0:=by
    unfold Aa
    cases seen with
    |nil=>exact absurd rfl hne
    |cons=>simp;omega
   rw[if_neg hz]
   have h2:=h2.resolve_left hz
   rw[if_neg (by simp[h2])]
   have:lit≠seen:=fun e=>h (fun i a ha=>by rw[e];exact ha)
   simp[this]
theorem aL {s:Ae} {n e:Int} (h:Aw s=some e):Eg (s,n)=some (if e≠0 then e else if n<0∨1048576<n then 2 else 0):=by
 unfold Eg
 simp only[h,A4,AS]
 by_cases h0:e=0
 ·subst h0
  simp only[beq_self_eq_true,Bool.not_true,Bool.false_eq_true,if_false,ne_eq,not_true]
  by_cases h1:n<0∨1048576<n
  ·rw[if_pos h1,if_pos (by simpa using h1)]
  ·rw[if_neg h1,if_neg (by simpa using h1)]
 ·rw[if_pos (by simpa using h0),if_pos h0]
def UQ (e:Int) (s:Ae) (n:Int) (lit seen:List Int):Int×Int :=
 if e≠0 then (0,e) else if n<0∨1048576<n then (0,2) else
 if (Iv s lit seen).2≠0∨(Iv s lit seen).1=false then (0,(Iv s lit seen).2) else (min (n+1) 1048576,0)
theorem uR {s:Ae} {n e:Int} {lit seen:List Int} (h:Aw s=some e) (hl:lit.length≤maxLen) (hsn:seen.length≤maxLen):Iy (s,(n,(lit,seen)))=some (UQ e s n lit seen):=by
 unfold Iy UQ
 simp only[aL h,A4,AdV hl hsn]
 by_cases h0:e=0
 ·subst h0
  simp only[ne_eq,not_true,if_false]
  by_cases h1:n<0∨1048576<n
  ·simp only[if_pos h1];rfl
  ·simp only[if_neg h1,beq_self_eq_true,Bool.not_true,AR]
   rw[AS,DX,Am (n+1) (by omega) (by omega)]
   by_cases h2:(Iv s lit seen).2≠0∨(Iv s lit seen).1=false
   ·rw[if_pos h2,if_pos (by simpa using h2)]
   ·rw[if_neg h2,if_neg (by simpa using h2)]
 ·simp only[ne_eq,h0,not_false_iff,if_true,beq_false_of_ne h0,Bool.not_false,AP]
def X7 (e:Int) (s:Ae) (n:Int):Bool×Int :=
 if e≠0 then (false,e) else if n<0∨1048576<n then (false,2) else (decide (s.2.2.2.2.2.2.2.1≤n),0)
theorem Adi {s:Ae} {n e:Int} (h:Aw s=some e):Ge (s,n)=some (X7 e s n):=by
 unfold Ge X7
 simp only[aL h,A4]
 by_cases h0:e=0
 ·subst h0
  simp only[ne_eq,not_true,if_false]
  by_cases h1:n<0∨1048576<n
  ·simp only[if_pos h1];rfl
  ·simp only[if_neg h1,beq_self_eq_true,Bool.not_true,AR]
 ·simp only[ne_eq,h0,not_false_iff,if_true,beq_false_of_ne h0,Bool.not_false,AP]
end Go.Proofs.YtmmkfcpdfnjgjaaGreatDoor.Ld
namespace Go.Proofs.YtmmkfcpdfnjgjaaGreatDoor.Ey
open Go.Den
structure Uv (x:AH):Prop where
 same:0≤x.2.1∧x.2.1≤1048576
 well:0≤x.2.2.2.2∧x.2.2.2.2≤1048576
 sick:x.2.2.2.1=true∨x.2.2.2.2=0
theorem ZV (x:AH):Ff x=true↔Uv x:=by
 unfold Ff
 rw[DX,Gi]
 simp only[Bool.and_eq_true,Bool.or_eq_true,decide_eq_true_eq,beq_iff_eq]
 exact ⟨fun h=>⟨by omega,by omega,h.2⟩,fun h=>⟨by have:=h.same;have:=h.well;omega,h.sick⟩⟩
def Ab0 (x:AH) (up:Bool):Int:=if up=x.1 then Bc .u64 x.2.2.1 1 else Ai .or .u64 (Bc .u64 x.2.2.1 1) 1
def ZZ (x:AH) (up:Bool):Int:=if up=x.1 then min (x.2.1+1) 1048576 else 1
def Aeo (e:Ux) (up:Bool) (same t:Int):Bool:=(up&&decide (e.2.1≤same))||(!up&&decide (e.2.2.1≤same))||decide (e.2.2.2<MK t)
def MS (s:Ae) (e:Ux) (x:AH) (up:Bool):AH :=
 (up,ZZ x up,Ab0 x up,
   if Aeo e up (ZZ x up) (Ab0 x up)=true then (true,0) else
   if x.2.2.2.1=true then (if s.2.2.2.2.2.2.2.2.1≤x.2.2.2.2+1 then (false,0) else (true,x.2.2.2.2+1)) else (false,x.2.2.2.2))
theorem AeH {s:Ae} {i:Int} {x:AH} {up:Bool} {e:Ux} (he:idx s.2.2.2.2.2.1 i=some e) (hm:Uv x):Jq (s,(i,(x,up)))=some (MS s e x up):=by
 obtain⟨u,sa,t,b,w⟩:=x
 have h1:=hm.same
 have h2:=hm.well
 simp only at h1 h2
 unfold Jq MS Aeo ZZ Ab0
 simp only[he,A4,Ay]
 rw[Am (sa+1) (by omega) (by omega),Am (w+1) (by omega) (by omega),DX,DX]
 have ho:∀z,Fc z=MK z:=fun z=>rfl
 simp only[ho,show min (1:Int) 1048576=1 by decide]
 by_cases hu:up=u
 ·subst hu
  simp only[beq_self_eq_true,Bool.not_true,AR,if_true]
  generalize min (sa+1) 1048576=n
  generalize Bc .u64 t 1=m
  cases up with
  |true =>
   by_cases c1:e.2.1≤n
   ·simp[c1,cnd,hi2_eq]
   ·by_cases c2:e.2.2.2<MK m
    ·simp[c1,c2,cnd,hi2_eq]
    ·cases b with
     |false=>simp[c1,c2,cnd,hi2_eq]
     |true=>by_cases c3:s.2.2.2.2.2.2.2.2.1≤w+1<;>simp[c1,c2,c3,cnd,hi2_eq]
  |false =>
   by_cases c1:e.2.2.1≤n
   ·simp[c1,cnd,hi2_eq]
   ·by_cases c2:e.2.2.2<MK m
    ·simp[c1,c2,cnd,hi2_eq]
    ·cases b with
     |false=>simp[c1,c2,cnd,hi2_eq]
     |true=>by_cases c3:s.2.2.2.2.2.2.2.2.1≤w+1<;>simp[c1,c2,c3,cnd,hi2_eq]
 ·have hb:(up==u)=false:=beq_false_of_ne hu
  simp only[hb,Bool.not_false,AP,hu,if_false]
  generalize Ai .or .u64 (Bc .u64 t 1) 1=m
  cases up with
  |true =>
   by_cases c1:e.2.1≤1
   ·simp[c1,cnd,hi2_eq]
   ·by_cases c2:e.2.2.2<MK m
    ·simp[c1,c2,cnd,hi2_eq]
    ·cases b with
     |false=>simp[c1,c2,cnd,hi2_eq]
     |true=>by_cases c3:s.2.2.2.2.2.2.2.2.1≤w+1<;>simp[c1,c2,c3,cnd,hi2_eq]
  |false =>
   by_cases c1:e.2.2.1≤1
   ·simp[c1,cnd,hi2_eq]
   ·by_cases c2:e.2.2.2<MK m
    ·simp[c1,c2,cnd,hi2_eq]
    ·cases b with
     |false=>simp[c1,c2,cnd,hi2_eq]
     |true=>by_cases c3:s.2.2.2.2.2.2.2.2.1≤w+1<;>simp[c1,c2,c3,cnd,hi2_eq]
theorem tR {n:Nat} (hn:n<2 ^ 64):Bc .u64 (n:Int) 1=((2*n%2 ^ 64:Nat):Int)∧2*n%2 ^ 64<2 ^ 64∧2*n%2 ^ 64%2=0:=by
 refine ⟨Aci hn,Nat.mod_lt _ (by decide),?_⟩
 rw[JV];omega
theorem AeF {n:Nat} (hn:n<2 ^ 64):Ai .or .u64 (Bc .u64 (n:Int) 1) 1=((2*n%2 ^ 64+1:Nat):Int)∧2*n%2 ^ 64+1<2 ^ 64:=by
 obtain⟨h1,h2,h3⟩:=tR hn
 have h4:Ai .or .u64 ((2*n%2 ^ 64:Nat):Int) 1=((2*n%2 ^ 64 ||| 1:Nat):Int):=j9 (y:=1) h2 (by decide)
 rw[h1,h4,Aev h3]
 refine ⟨rfl,?_⟩
 rw[JV] at *;omega
theorem Acl {s:Ae} {e:Ux} {x:AH} (up:Bool) (hm:Uv x) (hh:s.2.2.2.2.2.2.2.2.1≤1048576):Uv (MS s e x up)∧(MS s e x up).1=up∧1≤(MS s e x up).2.1:=by
 have h1:=hm.same
 have h2:=hm.well
 have h3:=hm.sick
 have hs:1≤ZZ x up∧ZZ x up≤1048576:=by unfold ZZ;split<;>omega
 unfold MS
 refine ⟨⟨by simp only;omega,?_,?_⟩,rfl,hs.1⟩
 ·simp only
  repeat' split
  all_goals simp only;omega
 ·simp only
  split
  ·exact .inl rfl
  ·split
   ·split
    ·exact .inr rfl
    ·exact .inl rfl
   ·rename_i h
    right
    rcases h3 with h3|h3
    ·exact absurd h3 h
    ·exact h3
theorem AdW:Uv (false,(0,(0,(false,0)))):=⟨by simp,by simp,.inr rfl⟩
end Go.Proofs.YtmmkfcpdfnjgjaaGreatDoor.Ey
namespace Go.Proofs.YtmmkfcpdfnjgjaaGreatDoor.Ey
open Go.Den
def Fa (e:Int) (s:Ae) (l:List AH):Int :=
 if e≠0 then e else if Aa l≠Aa s.2.2.2.2.2.1 then 4 else if ∀x∈l,Ff x=true then 0 else 8
theorem AbX {l:List AH} (hl:l.length≤maxLen):iter none (fun x2:Int =>
(cnd (decide (x2<(Aa l)))
(Ad (idx l x2) (.done none) (fun x3 =>
(Ay (Ff x3) (fun y =>
(cnd (!y)
(.done (some 8))
(.next (wr .i64 (x2+1))))))))
(.done (some (0:Int))))) AA 0=some (if ∀x∈l,Ff x=true then 0 else 8):=by
 have conv:(∀x∈l,Ff x=true)↔(∀(i:Int) x,idx l i=some x→Ff x=true):=⟨fun h i a ha=>h a (An ha).2.2,fun h a ha=>by obtain⟨i,hi⟩:=ES ha;exact h i a hi⟩
 refine Ds (l:=l) (fun a:Option Int=>a=some (if ∀x∈l,Ff x=true then 0 else 8)) (fun _ x=>Ff x=true) (some 8) (some 0) hl (fun i x h0 hi hx=>?_) (fun i hi=>by simp[hi,cnd,hi2_eq]) (fun h=>by rw[if_pos (conv.2 h)]) (fun h=>by rw[if_neg (fun hh=>h (conv.1 hh))])
 rw[Af _ _ (decide_eq_true hi),Ab _ _ hx,AG]
 cases c:Ff x with
 |true=>exact .inl ⟨rfl,rfl⟩
 |false=>exact .inr ⟨by simp,rfl⟩
theorem aH {s:Ae} {l:List AH} {e:Int} (h:Aw s=some e) (hl:l.length≤maxLen):F7 (s,l)=some (Fa e s l):=by
 unfold F7 Fa
 rw[Ab _ _ h]
 by_cases h0:e=0
 ·subst h0
  rw[Ag _ _ (by rfl),if_neg (by simp)]
  by_cases h1:Aa l=Aa s.2.2.2.2.2.1
  ·rw[Ag _ _ (by simpa using h1),if_neg (by simpa using h1)]
   exact AbX hl
  ·rw[Af _ _ (by simpa using h1),if_pos h1]
 ·rw[Af _ _ (by simp[h0]),if_pos h0]
theorem MZ {e:Int} {s:Ae} {l:List AH} (h:Fa e s l=0):e=0∧Aa l=Aa s.2.2.2.2.2.1∧∀x∈l,Uv x:=by
 unfold Fa at h
 split at h
 ·rename_i h0;exact absurd h h0
 ·rename_i h0
  split at h
  ·cases h
  ·rename_i h1
   split at h
   ·rename_i h2;exact ⟨Decidable.not_not.1 h0,Decidable.not_not.1 h1,fun x hx=>(ZV x).1 (h2 x hx)⟩
   ·cases h
structure RS (s:Ae):Prop where
 n:Aa s.2.2.2.2.2.1≤24
 p1:1≤Aa s.2.2.2.2.1
 p2:Aa s.2.2.2.2.1≤8
 eyes:∀i e,idx s.2.2.2.2.2.1 i=some e→0≤e.1∧e.1≤Aa s.2.2.2.2.1-1
 heal:1≤s.2.2.2.2.2.2.2.2.1∧s.2.2.2.2.2.2.2.2.1≤1048576
theorem gL {s:Ae} (h:Dh s):RS s:=⟨h.shape.e,h.shape.p1,h.shape.p2,fun i e he=>(h.eyed i e he).phase,h.timed.heal⟩
def CM (s:Ae) (ups:Int) (l:List AH):List AH:=l.mapIdx fun i x=>MS s (el s.2.2.2.2.2.1 (i:Int)) x (AD ups i)
theorem iI {s:Ae} {ups:Int} {l:List AH} {i:Int} {x:AH} (h:idx l i=some x):idx (CM s ups l) i=some (MS s (el s.2.2.2.2.2.1 i) x (AD ups i)):=by
 have h0:=(An h).1
 unfold CM
 rw[MN h0,h,Option.map_some,show ((i.toNat:Nat):Int)=i by omega]
def uK (e:Int) (s:Ae) (ups:Int) (l:List AH):List AH×Int:=if Fa e s l≠0 then ([],Fa e s l) else (CM s ups l,0)
theorem AcL {s:Ae} {l:List AH} {e ups:Int} (hok:e=0→RS s) (h:Aw s=some e) (hl:Aa l≤1000) (hu:Ax ups):Kj (s,(l,ups))=some (uK e s ups l):=by
 have hl':l.length≤maxLen:=by unfold Aa at hl;unfold maxLen;omega
 unfold Kj uK
 rw[Ab _ _ (aH h hl')]
 by_cases h0:Fa e s l=0
 ·obtain⟨rfl,h1,h2⟩:=MZ h0
  have hok:=hok rfl
  have hn:=Ap l
  rw[h0,Ag _ _ (by rfl),if_neg (by simp),Af _ _ (Js hn (by omega))]
  refine AI (fun z:Int×List AH=>z.1) (Aa l) (fun z=>Aa z.2=Aa l∧∀j,0≤j→j<z.1→idx z.2 j=idx (CM s ups l) j) (fun a=>a=some (CM s ups l,(0:Int))) (by omega) (by simp) hn ⟨Bu hn _,fun j j0 j1=>absurd j1 (by simp only;omega)⟩ (fun z hI i0 i1=>?_) (fun z hI hz=>?_)
  ·obtain⟨i,out⟩:=z
   obtain⟨hlen,hj⟩:=hI
   simp only at i0 i1 hlen hj
   obtain⟨x,hx,hxm⟩:=Au i0 i1
   obtain⟨y,hy,_⟩:=Au (l:=out) i0 (by omega)
   simp only
   rw[Af _ _ (by simpa using i1),Ab _ _ hx,AG,LV hu,Ab _ _ (AeH (Bb i0 (by omega)) (h2 x hxm)),Ab _ _ hy,Ab _ _ hy,Am (i+1) (by omega) (by omega)]
   refine ⟨rfl,by simp only;rw[Bw];exact hlen,fun j j0 j1=>?_⟩
   simp only at j1 ⊢
   rw[CW i0 (by omega)]
   split
   ·rename_i e;rw[e,iI hx]
   ·exact hj j j0 (by omega)
  ·obtain⟨i,out⟩:=z
   obtain⟨hlen,hj⟩:=hI
   simp only at hz hlen hj
   simp only
   rw[Ag _ _ (show decide (i<Aa l)=false by simp;omega)]
   show some (out,(0:Int)) = _
   have:out=CM s ups l:=GO (by unfold CM;rw[Hf];exact hlen) fun j j0 j1=>hj j j0 (by omega)
   rw[this]
 ·rw[Af _ _ (by simp[h0]),if_pos h0]
def Acv (s:Ae) (l:List AH):Prop:=∀i e x,idx s.2.2.2.2.2.1 i=some e→idx l i=some x→∃k e' x',idx s.2.2.2.2.2.1 k=some e'∧idx l k=some x'∧e'.1=e.1∧x'.2.2.2.1=false
theorem Yz {m i:Int} (hm:Ax m) (h0:0≤i) (h1:i≤31):Ax (E1 (m,i))∧∀j,AD (E1 (m,i)) j=(AD m j||decide (i=j)):=by
 have e:E1 (m,i)=Ai .or .u32 m ((2 ^ i.toNat:Nat):Int):=by
  unfold E1;rw[AG,O3 h0 h1]
 rw[e]
 exact ⟨Yp hm (Is h0 h1),fun j=>by rw[Xy hm (Is h0 h1),Lm h0]⟩
theorem nO {s:Ae} {l:List AH} {e:Int} (hok:e=0→RS s) (h:Aw s=some e) (hl:Aa l≤1000) :
 ∃b,G3 (s,l)=some (if Fa e s l≠0 then (false,Fa e s l) else (b,0))∧(Fa e s l=0→(b=true↔Acv s l)):=by
 have hl':l.length≤maxLen:=by unfold Aa at hl;unfold maxLen;omega
 unfold G3
 rw[Ab _ _ (aH h hl')]
 by_cases h0:Fa e s l=0
 ·obtain⟨rfl,h1,h2⟩:=MZ h0
  have hok:=hok rfl
  rw[h0,Ag _ _ (by rfl)]
  simp only[ne_eq,not_true,if_false,true_implies]
  refine AI (fun z:Int×Int×Int=>z.2.2) (Aa l) (fun z=>Ax z.1∧Ax z.2.1∧(∀p,AD z.1 p=true↔∃j e x,j<z.2.2∧idx s.2.2.2.2.2.1 j=some e∧idx l j=some x∧e.1=p)∧(∀p,AD z.2.1 p=true↔∃j e x,j<z.2.2∧idx s.2.2.2.2.2.1 j=some e∧idx l j=some x∧e.1=p∧x.2.2.2.1=false))
   (fun a:Option (Bool×Int)=>∃b,a=some (b,0)∧(b=true↔Acv s l)) (by omega) (by simp) (Ap l) ⟨⟨by simp,by simp⟩,⟨by simp,by simp⟩,fun p=>?_,fun p=>?_⟩ (fun z hI i0 i1=>?_) (fun z hI hz=>?_)
  ·simp only[FK]
   exact ⟨fun h=>(by cases h),fun ⟨j,e,x,h1,h2,_⟩=>by have:=(An h2).1;omega⟩
  ·simp only[FK]
   exact ⟨fun h=>(by cases h),fun ⟨j,e,x,h1,h2,_⟩=>by have:=(An h2).1;omega⟩
  ·obtain⟨m,n,i⟩:=z
   obtain⟨hm,hn,h3,h4⟩:=hI
   simp only at i0 i1 hm hn h3 h4
   obtain⟨x,hx,_⟩:=Au i0 i1
   obtain⟨ey,he,_⟩:=Au (l:=s.2.2.2.2.2.1) i0 (by omega)
   have hph:=hok.eyes i ey he
   have hp2:=hok.p2
   obtain⟨a1,a2⟩:=Yz hm hph.1 (by omega)
   obtain⟨b1,b2⟩:=Yz hn hph.1 (by omega)
   have key:∀p,AD (E1 (m,ey.1)) p=true↔∃j e x,j<i+1∧idx s.2.2.2.2.2.1 j=some e∧idx l j=some x∧e.1=p:=fun p=>by
    rw[a2,Bool.or_eq_true,h3,decide_eq_true_eq]
    constructor
    ·rintro (⟨j,e,x',j1,q⟩|q)
     ·exact ⟨j,e,x',by omega,q⟩
     ·exact ⟨i,ey,x,by omega,he,hx,q⟩
    ·rintro⟨j,e,x',j1,q1,q2,q3⟩
     by_cases ej:j=i
     ·subst ej;rw[he] at q1;cases q1;exact .inr q3
     ·exact .inl ⟨j,e,x',by omega,q1,q2,q3⟩
   simp only
   rw[Af _ _ (by simpa using i1),Ab _ _ hx,Ab _ _ he,AG,AG,Am (i+1) (by omega) (by omega)]
   have hb:Hy x=!x.2.2.2.1:=rfl
   rw[hb]
   cases c:x.2.2.2.1 with
   |false =>
    rw[Af _ _ (by rfl),AG]
    refine ⟨rfl,a1,b1,key,fun p=>?_⟩
    show AD (E1 (n,ey.1)) p=true↔_
    rw[b2,Bool.or_eq_true,h4,decide_eq_true_eq]
    constructor
    ·rintro (⟨j,e,x',j1,q⟩|q)
     ·exact ⟨j,e,x',by simp only;omega,q⟩
     ·exact ⟨i,ey,x,by simp only;omega,he,hx,q,c⟩
    ·rintro⟨j,e,x',j1,q1,q2,q3,q4⟩
     by_cases ej:j=i
     ·subst ej;rw[he] at q1;cases q1;exact .inr q3
     ·exact .inl ⟨j,e,x',by simp only at j1;omega,q1,q2,q3,q4⟩
   |true =>
    rw[Ag _ _ (by rfl)]
    refine ⟨rfl,a1,hn,key,fun p=>?_⟩
    show AD n p=true↔_
    rw[h4]
    constructor
    ·rintro⟨j,e,x',j1,q⟩
     exact ⟨j,e,x',by simp only;omega,q⟩
    ·rintro⟨j,e,x',j1,q1,q2,q3,q4⟩
     by_cases ej:j=i
     ·subst ej;rw[hx] at q2;cases q2;rw[c] at q4;cases q4
     ·exact ⟨j,e,x',by simp only at j1;omega,q1,q2,q3,q4⟩
  ·obtain⟨m,n,i⟩:=z
   obtain⟨hm,hn,h3,h4⟩:=hI
   simp only at hz hm hn h3 h4
   simp only
   rw[Ag _ _ (show decide (i<Aa l)=false by simp;omega)]
   refine ⟨_,rfl,?_⟩
   rw[beq_iff_eq]
   constructor
   ·intro hmn j e x hj hx
    have:=(h3 e.1).2 ⟨j,e,x,by have:=(An hx).2.1;omega,hj,hx,rfl⟩
    rw[hmn] at this
    obtain⟨k,e',x',_,q1,q2,q3,q4⟩:=(h4 e.1).1 this
    exact ⟨k,e',x',q1,q2,q3,q4⟩
   ·intro hw
    refine UF hm hn fun p _ _=>?_
    apply Bool.eq_iff_iff.2
    rw[h3,h4]
    constructor
    ·rintro⟨j,e,x,_,q1,q2,q3⟩
     obtain⟨k,e',x',q4,q5,q6,q7⟩:=hw j e x q1 q2
     exact ⟨k,e',x',by have:=(An q5).2.1;omega,q4,q5,by rw[q6,q3],q7⟩
    ·rintro⟨j,e,x,j1,q1,q2,q3,_⟩
     exact ⟨j,e,x,j1,q1,q2,q3⟩
 ·rw[Af _ _ (by simp[h0])]
  exact ⟨false,by rw[if_pos h0],fun h=>absurd h h0⟩
end Go.Proofs.YtmmkfcpdfnjgjaaGreatDoor.Ey
namespace Go.Proofs.YtmmkfcpdfnjgjaaGreatDoor.Ey
open Go.Den
end Go.Proofs.YtmmkfcpdfnjgjaaGreatDoor.Ey
namespace Go.Proofs.YtmmkfcpdfnjgjaaGreatDoor.Ey
open Go.Den
theorem FZ {σ A:Type} (k:σ→A) (body:(σ→A)→A):DM k body=body k:=id rfl
def RR (s:Ae) (l:List AH) (p:Int):Prop :=
 (∃ph,idx s.2.2.2.2.1 p=some ph∧ph.2.2.2.2=true)∨∃i e x,idx s.2.2.2.2.2.1 i=some e∧idx l i=some x∧e.1=p∧HY x=true
theorem eP {m i:Int} (hm:Ax m) (h0:0≤i) (h1:i≤31):Ax (Ai .or .u32 m (Bc .u32 1 i))∧∀j,AD (Ai .or .u32 m (Bc .u32 1 i)) j=(AD m j||decide (i=j)):=by
 rw[xT h0 h1]
 exact ⟨Yp hm (Is h0 h1),fun j=>by rw[Xy hm (Is h0 h1),Lm h0]⟩
theorem Abe {m g:Int} (hm:Ax m):Ax (B6 (m,g))∧∀p,AD (B6 (m,g)) p=(AD m p&&!decide (g=p)):=by
 by_cases h:0≤g∧g≤31
 ·rw[KQ h.1 h.2]
  exact Qf hm h.1 h.2
 ·have hz:Dg g=0:=by
   unfold Dg
   rw[AS,if_pos (by simp;omega)]
  have e:B6 (m,g)=Ai .andNot .u32 m 0:=by unfold B6;rw[AG,hz]
  have z:Ax 0:=⟨by decide,by decide⟩
  rw[e]
  refine ⟨Ob hm z,fun p=>?_⟩
  rw[Qa hm z,FK]
  by_cases c:g=p
  ·subst c
   have:AD m g=false:=by
    by_cases h2:g<0
    ·exact Zk h2
    ·exact Qb hm (by omega)
   rw[this];rfl
  ·simp[c]
theorem AeB {s:Ae} {l:List AH} {e:Int} (hok:e=0→RS s) (h:Aw s=some e) (hl:Aa l≤1000) :
 ∃c,Iz (s,l)=some (if Fa e s l≠0 then (0,Fa e s l) else (c,0))∧(Fa e s l=0→Ax c∧∀p,AD c p=true↔RR s l p):=by
 obtain⟨w,w1,_⟩:=nO hok h hl
 unfold Iz
 rw[Ab _ _ w1]
 by_cases h0:Fa e s l=0
 ·obtain⟨rfl,k1,k2⟩:=MZ h0
  have hok:=hok rfl
  have hp2:=hok.p2
  rw[h0,if_neg (by simp),Ag _ _ (by rfl)]
  simp only[ne_eq,not_true,if_false,true_implies]
  refine AI (fun z:Int×Int=>z.2) (Aa s.2.2.2.2.1) (fun z=>Ax z.1∧∀p,AD z.1 p=true↔p<z.2∧∃ph,idx s.2.2.2.2.1 p=some ph∧ph.2.2.2.2=true) (fun a:Option (Int×Int)=>∃c,a=some (c,0)∧Ax c∧∀p,AD c p=true↔RR s l p) (by omega) (by simp) (Ap _) ⟨⟨by simp,by simp⟩,fun p=>?_⟩ (fun z hI i0 i1=>?_) (fun z hI hz=>?_)
  ·simp only[FK]
   exact ⟨fun h=>(by cases h),fun ⟨j1,ph,q,_⟩=>by have:=(An q).1;omega⟩
  ·obtain⟨m,i⟩:=z
   obtain⟨hm,hb⟩:=hI
   simp only at i0 i1 hm hb
   obtain⟨ph,hph,_⟩:=Au (l:=s.2.2.2.2.1) i0 i1
   simp only
   rw[Af _ _ (decide_eq_true i1),Ab _ _ hph,Am (i+1) (by omega) (by omega)]
   cases c:ph.2.2.2.2 with
   |true =>
    obtain⟨a1,a2⟩:=eP (i:=i) hm i0 (by omega)
    rw[Af _ _ rfl,Af _ _ (decide_eq_true i0)]
    refine ⟨rfl,a1,fun p=>?_⟩
    show AD (Ai .or .u32 m (Bc .u32 1 i)) p=true↔_
    rw[a2,Bool.or_eq_true,hb,decide_eq_true_eq]
    constructor
    ·rintro (⟨q1,q2⟩|q)
     ·exact ⟨by simp only;omega,q2⟩
     ·subst q;exact ⟨by simp only;omega,ph,hph,c⟩
    ·rintro⟨q1,q2⟩
     by_cases e:i=p
     ·exact .inr e
     ·exact .inl ⟨by simp only at q1;omega,q2⟩
   |false =>
    rw[Ag _ _ rfl]
    refine ⟨rfl,hm,fun p=>?_⟩
    show AD m p=true↔_
    rw[hb]
    constructor
    ·rintro⟨q1,q2⟩;exact ⟨by simp only;omega,q2⟩
    ·rintro⟨q1,ph',q2,q3⟩
     by_cases e:p=i
     ·subst e;rw[hph] at q2;cases q2;rw[c] at q3;cases q3
     ·exact ⟨by simp only at q1;omega,ph',q2,q3⟩
  ·obtain⟨m,i⟩:=z
   obtain⟨hm,hb⟩:=hI
   simp only at hz hm hb
   simp only
   rw[Ag _ _ (show decide (i<Aa s.2.2.2.2.1)=false by simp;omega)]
   have hb':∀p,AD m p=true↔∃ph,idx s.2.2.2.2.1 p=some ph∧ph.2.2.2.2=true:=fun p=>(hb p).trans ⟨fun q=>q.2,fun q=>⟨by obtain⟨ph,q1,_⟩:=q;have:=(An q1).2.1;omega,q⟩⟩
   show ∃c,iter _ _ _ _ = some (c,0)∧Ax c∧∀p,AD c p=true↔RR s l p
   refine AI (fun z:Int×Int=>z.2) (Aa l) (fun z=>Ax z.1∧∀p,AD z.1 p=true↔(∃ph,idx s.2.2.2.2.1 p=some ph∧ph.2.2.2.2=true)∨∃j e x,j<z.2∧idx s.2.2.2.2.2.1 j=some e∧idx l j=some x∧e.1=p∧HY x=true) (fun a:Option (Int×Int)=>∃c,a=some (c,0)∧Ax c∧∀p,AD c p=true↔RR s l p) (by omega) (by simp) (Ap _) ⟨hm,fun p=>?_⟩ (fun z hI i0 i1=>?_) (fun z hI hz=>?_)
   ·show AD m p=true↔_
    rw[hb']
    exact ⟨.inl,fun q=>q.elim id fun ⟨j,e,x,j1,q1,_⟩=>by have:=(An q1).1;simp only at j1;omega⟩
   ·obtain⟨m,i⟩:=z
    obtain⟨hm,hb⟩:=hI
    simp only at i0 i1 hm hb
    obtain⟨x,hx,_⟩:=Au i0 i1
    obtain⟨ey,he,_⟩:=Au (l:=s.2.2.2.2.2.1) i0 (by omega)
    have hph:=hok.eyes i ey he
    simp only
    rw[Af _ _ (decide_eq_true i1),Ab _ _ hx,AG,Am (i+1) (by omega) (by omega)]
    cases c:HY x with
    |true =>
     obtain⟨a1,a2⟩:=eP (i:=ey.1) hm hph.1 (by omega)
     rw[Af _ _ rfl,Ab _ _ he,Af _ _ (decide_eq_true hph.1)]
     refine ⟨rfl,a1,fun p=>?_⟩
     show AD (Ai .or .u32 m (Bc .u32 1 ey.1)) p=true↔_
     rw[a2,Bool.or_eq_true,hb,decide_eq_true_eq]
     constructor
     ·rintro ((q|⟨j,e,x',j1,q⟩)|q)
      ·exact .inl q
      ·exact .inr ⟨j,e,x',by simp only;omega,q⟩
      ·exact .inr ⟨i,ey,x,by simp only;omega,he,hx,q,c⟩
     ·rintro (q|⟨j,e,x',j1,q1,q2,q3,q4⟩)
      ·exact .inl (.inl q)
      ·by_cases ej:j=i
       ·subst ej;rw[he] at q1;cases q1;exact .inr q3
       ·exact .inl (.inr ⟨j,e,x',by simp only at j1;omega,q1,q2,q3,q4⟩)
    |false =>
     rw[Ag _ _ rfl]
     refine ⟨rfl,hm,fun p=>?_⟩
     show AD m p=true↔_
     rw[hb]
     refine or_congr_right ⟨fun ⟨j,e,x',j1,q⟩=>⟨j,e,x',by simp only;omega,q⟩,fun ⟨j,e,x',j1,q1,q2,q3,q4⟩=>?_⟩
     by_cases ej:j=i
     ·subst ej;rw[hx] at q2;cases q2;rw[c] at q4;cases q4
     ·exact ⟨j,e,x',by simp only at j1;omega,q1,q2,q3,q4⟩
   ·obtain⟨m,i⟩:=z
    obtain⟨hm,hb⟩:=hI
    simp only at hz hm hb
    simp only
    rw[Ag _ _ (show decide (i<Aa l)=false by simp;omega)]
    refine ⟨m,rfl,hm,fun p=>(hb p).trans (or_congr_right ⟨fun ⟨j,e,x,_,q⟩=>⟨j,e,x,q⟩,fun ⟨j,e,x,q⟩=>⟨j,e,x,?_,q⟩⟩)⟩
    have:=(An q.2.1).2.1;omega
 ·rw[if_pos h0,Af _ _ (by simp[h0])]
  exact ⟨0,by rw[if_pos h0],fun h=>absurd h h0⟩
def P7 (s:Ae) (c ph:Int):Int:=if Av .u32 c (Aa s.2.2.2.2.1)≠0 then 8 else if ph < -1∨Aa s.2.2.2.2.1≤ph then 2 else 0
theorem Aec (s:Ae) (c ph:Int):Hv (s,(c,ph))=some (P7 s c ph):=by
 unfold Hv P7
 rw[Af _ _ (decide_eq_true (Ap _))]
 by_cases h:Av .u32 c (Aa s.2.2.2.2.1)=0
 ·rw[Ag _ _ (by simpa using h),if_neg (by simpa using h),AS]
  by_cases h2:ph < -1∨Aa s.2.2.2.2.1≤ph
  ·rw[if_pos h2,if_pos (by simpa using h2)]
  ·rw[if_neg h2,if_neg (by simpa using h2)]
 ·rw[Af _ _ (by simpa using h),if_pos h]
def RU (s:Ae) (l:List AH) (c g n:Int):Prop:=Ax n∧∀p,AD n p=true↔p≠g∧(AD c p=true∨RR s l p)
theorem XE {s:Ae} {l:List AH} {e c g:Int} (hok:e=0→RS s) (h:Aw s=some e) (hl:Aa l≤1000) (hc:Ax c) :
 ∃n,Es (s,(c,(l,g)))=some (if Fa e s l≠0 then (0,Fa e s l) else if P7 s c g≠0 then (0,P7 s c g) else (n,0))∧(Fa e s l=0→RU s l c g n):=by
 obtain⟨r,r1,r2⟩:=AeB hok h hl
 unfold Es
 rw[Ab _ _ r1]
 by_cases h0:Fa e s l=0
 ·obtain⟨hr,hb⟩:=r2 h0
  rw[if_neg (by simp[h0]),Ag _ _ (by rfl),Ab _ _ (Aec s c g)]
  obtain⟨a1,a2⟩:=Abe (g:=g) (Yp hc hr)
  refine ⟨B6 (Ai .or .u32 c r,g),?_,fun _=>⟨a1,fun p=>?_⟩⟩
  ·rw[if_neg (by simp[h0])]
   by_cases h1:P7 s c g=0
   ·rw[Ag _ _ (by simp[h1]),AG,if_neg (by simp[h1])]
   ·rw[Af _ _ (by simp[h1]),if_pos h1]
  ·rw[a2,Xy hc hr,Bool.and_eq_true,Bool.or_eq_true,hb,Bool.not_eq_true',decide_eq_false_iff_not]
   exact ⟨fun q=>⟨fun e=>q.2 e.symm,q.1⟩,fun q=>⟨q.2,fun e=>q.1 e.symm⟩⟩
 ·rw[if_pos h0,Af _ _ (by simp[h0])]
  exact ⟨0,by rw[if_pos h0],fun h=>absurd h h0⟩
end Go.Proofs.YtmmkfcpdfnjgjaaGreatDoor.Ey
