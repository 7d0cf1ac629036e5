/- Part of a proof: plain readings of Go functions, their contracts, or plain facts of them. -/
import Derived.Test.YtmmkfcpdfnjgjaaGreatDoorTp1
namespace Go.Proofs.YtmmkfcpdfnjgjaaGreatDoor
open Go.Den
theorem Du (a b c:Int):By (a,(b,c))=true↔b≤a∧a≤c:=by
 unfold By;simp
structure Bm (x:Ad):Prop where
 id:-9223372036854775808≤x.1∧x.1≤9223372036854775807
 g:x.2.1.length≤maxLen
 gs:∀g∈x.2.1,(0≤g.1∧g.1≤255)∧(-9223372036854775808≤g.2.1∧g.2.1≤9223372036854775807)∧(-9223372036854775808≤g.2.2∧g.2.2≤9223372036854775807)
 a:x.2.2.1.length≤maxLen
 as:∀s∈x.2.2.1,Ax s
 b:x.2.2.2.1.length≤maxLen
 bs:∀r∈x.2.2.2.1,r.length≤maxLen∧∀m∈r,-9223372036854775808≤m∧m≤9223372036854775807
 p:x.2.2.2.2.1.length≤maxLen
 ps:∀p∈x.2.2.2.2.1,Ax p.1∧(-9223372036854775808≤p.2.1∧p.2.1≤9223372036854775807)
 e:x.2.2.2.2.2.1.length≤maxLen
 q:x.2.2.2.2.2.2.2.2.2.2.2.length≤maxLen
 qs:∀p∈x.2.2.2.2.2.2.2.2.2.2.2,(-9223372036854775808≤p.1∧p.1≤9223372036854775807)∧p.2.2.length≤maxLen∧∀m∈p.2.2,-9223372036854775808≤m∧m≤9223372036854775807
theorem Abz {x:Ad} (h:Fits Ai x):Bm x:=by
 obtain⟨h1,⟨h2,h2'⟩,⟨h3,h3'⟩,⟨h4,h4'⟩,⟨h5,h5'⟩,⟨h6,_⟩,_,_,_,_,_,⟨h7,h7'⟩⟩:=h
 exact ⟨h1,h2,fun g hg=>h2' g hg,h3,fun s hs=>h3' s hs,h4,fun r hr=>⟨(h4' r hr).1,fun m hm=>(h4' r hr).2 m hm⟩,h5,fun p hp=>⟨(h5' p hp).1,(h5' p hp).2.1⟩,h6,h7,
  fun p hp=>⟨(h7' p hp).1,(h7' p hp).2.2.1,fun m hm=>(h7' p hp).2.2.2 m hm⟩⟩
structure ShapeOK (x:Ad):Prop where
 n1:1≤Aa x.2.1
 n2:Aa x.2.1≤16
 a:Aa x.2.2.1=Aa x.2.1
 b:Aa x.2.2.2.1=Aa x.2.1
 p1:1≤Aa x.2.2.2.2.1
 p2:Aa x.2.2.2.2.1≤8
 e:Aa x.2.2.2.2.2.1≤24
 q:Aa x.2.2.2.2.2.2.2.2.2.2.2≤8
 rows:∀i r,idx x.2.2.2.1 i=some r→Aa r=Aa x.2.1
 aps:∀i s,idx x.2.2.1 i=some s→Ay .u32 s (Aa x.2.1)=0
theorem Agu {x:Ad} (hx:Bm x):∃b,Ip x=some b∧(b=true↔ShapeOK x):=by
 unfold Ip
 simp only[AD]
 rw[AT]
 split
 ·rename_i h
  refine ⟨false,rfl,fun hh=>(by cases hh),fun hh=>?_⟩
  exfalso
  have i1:=(Du (Aa x.2.1) 1 16).2 ⟨hh.n1,hh.n2⟩
  have i2:=(Du (Aa x.2.2.2.2.1) 1 8).2 ⟨hh.p1,hh.p2⟩
  have:=hh.e;have:=hh.q
  simp[i1,i2,hh.a,hh.b] at h
  omega
 ·rename_i h
  simp only[Bool.or_eq_true,Bool.not_eq_true',decide_eq_true_eq,beq_eq_false_iff_ne,not_or,Bool.not_eq_false,ne_eq,Int.not_lt,Decidable.not_not] at h
  obtain⟨⟨⟨⟨⟨g1,g2⟩,g3⟩,g4⟩,g5⟩,g6⟩:=h
  have g1:=(Du _ _ _).1 g1
  have g4:=(Du _ _ _).1 g4
  obtain⟨b,h1,h2⟩:=M4 (A:=Option Bool) (l:=x.2.2.2.1) (bad:=none) (no:=some false) (yes:=some true) (f:=fun x1 =>
(cnd (decide (x1<(Aa x.2.2.2.1)))
(Ae (idx x.2.2.2.1 x1) (.done none) (fun x2 =>
(cnd (!((Aa x2)==(Aa x.2.1)))
(.done (some false))
(Ae (idx x.2.2.1 x1) (.done none) (fun x3 =>
(cnd (decide (0≤(Aa x.2.1)))
(cnd (!((Ay Go.IntKind.u32 x3 (Aa x.2.1))==0))
(.done (some false))
(.next (wr .i64 (x1+1))))
(.done none)))))))
(.done (some true)))) (fun i r=>Aa r=Aa x.2.1∧∀s,idx x.2.2.1 i=some s→Ay .u32 s (Aa x.2.1)=0) hx.b (fun i r h0 h1 hr=>by
   obtain⟨s,hs,_⟩:=Au (l:=x.2.2.1) h0 (by omega)
   have hp:decide (0≤Aa x.2.1)=true:=by simp;exact Ar _
   simp only[h1,decide_true,cnd,hi2_eq,hr,Ae,hs,hp]
   by_cases e1:Aa r=Aa x.2.1
   ·by_cases e2:Ay .u32 s (Aa x.2.1)=0
    ·exact .inl ⟨⟨e1,fun s' hs'=>by cases hs';exact e2⟩,by simp only[beq_iff_eq.2 e1,beq_iff_eq.2 e2,Bool.not_true]⟩
    ·exact .inr ⟨fun hh=>e2 (hh.2 s rfl),by simp only[beq_iff_eq.2 e1,beq_false_of_ne e2,Bool.not_true,Bool.not_false]⟩
   ·exact .inr ⟨fun hh=>e1 hh.1,by simp only[beq_false_of_ne e1,Bool.not_false]⟩) (fun i hi=>by simp[hi,cnd,hi2_eq])
  rw[h1]
  refine ⟨b,by cases b<;>rfl,h2.trans ⟨fun hh=>⟨g1.1,g1.2,by simpa using g2,by simpa using g3,g4.1,g4.2,g5,g6,fun i r hr=>(hh i r hr).1,fun i s hs=>?_⟩,fun hh i r hr=>⟨hh.rows i r hr,fun s hs=>hh.aps i s hs⟩⟩⟩
  obtain⟨i0,i1,_⟩:=An hs
  obtain⟨r,hr,_⟩:=Au (l:=x.2.2.2.1) i0 (by
   have g2':Aa x.2.2.1=Aa x.2.1:=by simpa using g2
   have g3':Aa x.2.2.2.1=Aa x.2.1:=by simpa using g3
   omega)
  exact (hh i r hr).2 s hs
theorem Qg {i:Int} (h0:0≤i) (h1:i≤31):DK i=((2 ^ i.toNat:Nat):Int):=by
 unfold DK
 rw[AT,if_neg (by simp;omega),AbB h0 h1]
theorem MT {s i:Int} (hs:Ax s):Ei (s,i)=AA s i:=by
 unfold Ei
 simp only[AD]
 by_cases h:0≤i∧i≤31
 ·rw[Qg h.1 h.2]
  have hp:=I5 h.1 h.2
  apply Bool.eq_iff_iff.2
  rw[Bool.not_eq_true',beq_eq_false_iff_ne]
  constructor
  ·intro hne
   cases hb:AA s i with
   |true=>rfl
   |false =>
    exfalso;apply hne
    refine Qx (Y0 hs hp) ⟨by decide,by decide⟩ fun j _ _=>?_
    rw[Mk hs hp,Mm h.1,E7]
    by_cases e:i=j
    ·subst e;simp[hb]
    ·simp[e]
  ·intro hb he
   have:=Mk hs hp i
   rw[he,E7,hb,Mm h.1] at this
   simp at this
 ·have hz:DK i=0:=by
   unfold DK
   rw[AT,if_pos (by simp;omega)]
  rw[hz]
  have:Aj .and .u32 s 0=0:=by
   refine Qx (Y0 hs ⟨by decide,by decide⟩) ⟨by decide,by decide⟩ fun j _ _=>?_
   rw[Mk hs ⟨by decide,by decide⟩,E7];simp
  rw[this]
  by_cases h2:i<0
  ·rw[Wc h2];rfl
  ·rw[Ml hs (by omega)];rfl
theorem S0 {x:Int} (h:x≠0):GB x=low x:=by
 unfold GB
 rw[AT,if_neg (by simpa using h)]
 rfl
theorem LK {x k:Int} (h0:0≤k) (h1:k≤31):Co (x,k)=clr x k:=by
 unfold Co clr
 simp only[AD]
 rw[Qg h0 h1]
theorem AaQ {s p:Int} (hs:Ax s) (hp:Ax p):Aj .and .u32 s p=0↔∀b,AA s b=true→AA p b=true→False:=by
 constructor
 ·intro h b h1 h2
  have:=Mk hs hp b
  rw[h,E7,h1,h2] at this
  cases this
 ·intro h
  refine Qx (Y0 hs hp) ⟨by decide,by decide⟩ fun j _ _=>?_
  rw[Mk hs hp,E7]
  cases h1:AA s j with
  |false=>rfl
  |true =>
   cases h2:AA p j with
   |false=>rfl
   |true=>exact (h j h1 h2).elim
structure bG (x:Ad) (a:Int) (g:CC):Prop where
 kind:g.1=1∨g.1=2
 min:1≤g.2.1∧g.2.1≤1048576
 yellow:1≤g.2.2∧g.2.2≤1048576
 row:∀r sa b m sb,idx x.2.2.2.1 a=some r→idx x.2.2.1 a=some sa→idx r b=some m→idx x.2.2.1 b=some sb →
  AA sa b=AA sb a∧(AA sa b=true→a≠b∧g.2.2≤m∧m≤1048576)∧(AA sa b=false→m=0)
def JU (x:Ad):Prop:=∀a g,idx x.2.1 a=some g→bG x a g
theorem aN (a b:Int):Bz (a::(b::[]))=true↔(1≤a∧a≤1048576)∧(1≤b∧b≤1048576):=by
 unfold Bz;simp
theorem Afz {x:Ad} (hx:Bm x) (hs:ShapeOK x):∃b,Io x=some b∧(b=true↔JU x):=by
 unfold Io
 obtain⟨b,h1,h2⟩:=M4 (A:=Option Bool) (l:=x.2.1) (bad:=none) (no:=some false) (yes:=some true) (f:=fun x1 =>
(cnd (decide (x1<(Aa x.2.1)))
(Ae (idx x.2.1 x1) (.done none) (fun x2 =>
(cnd (((!(x2.1==1))&&(!(x2.1==2)))||(!(Bz (x2.2.1::(x2.2.2::[])))))
(.done (some false))
(Ae (idx x.2.2.2.1 x1) (.done none) (fun x3 =>
(iter (.done none) (fun x4 =>
(cnd (decide (x4<(Aa x3)))
(Ae (idx x3 x4) (.done (.done none)) (fun x5 =>
(Ae (idx x.2.2.1 x1) (.done (.done none)) (fun x6 =>
(AD (Ei (x6,x4)) (fun y =>
(Ae (idx x.2.2.1 x4) (.done (.done none)) (fun x7 =>
(AD (Ei (x7,x1)) (fun y1 =>
(cnd (!(y==y1))
(.done (.done (some false)))
(cnd (y&&(x1==x4))
(.done (.done (some false)))
(cnd (y&&(!(By (x5,(x2.2.2,1048576)))))
(.done (.done (some false)))
(cnd ((!y)&&(!(x5==0)))
(.done (.done (some false)))
(.next (wr .i64 (x4+1)))))))))))))))))
(.done (.next (wr .i64 (x1+1)))))) AE 0))))))
(.done (some true)))) (bG x) hx.g (fun a g h0 ha hg=>by
  obtain⟨r,hr,hrm⟩:=Au (l:=x.2.2.2.1) h0 (by rw[hs.b];exact ha)
  obtain⟨sa,hsa,hsam⟩:=Au (l:=x.2.2.1) h0 (by rw[hs.a];exact ha)
  have hrl:=hs.rows a r hr
  simp only[ha,decide_true,AU,hg,A7,hr]
  by_cases hk:(((!(g.1==1))&&(!(g.1==2)))||(!(Bz (g.2.1::(g.2.2::[])))))=true
  ·refine .inr ⟨fun hh=>?_,by simp only[hk,AU]⟩
   have ht:=(aN g.2.1 g.2.2).2 ⟨hh.min,hh.yellow⟩
   have:=hh.kind
   simp[ht] at hk
   omega
  ·have hk':=Bool.eq_false_iff.2 hk
   simp only[hk',AW]
   simp only[Bool.or_eq_false_iff,Bool.and_eq_false_iff,Bool.not_eq_false',beq_iff_eq] at hk'
   obtain⟨k1,k2⟩:=hk'
   have k2:=(aN _ _).1 k2
   obtain⟨b,b1,b2⟩:=M4 (A:=Step Int (Option Bool)) (l:=r) (bad:=.done none) (no:=.done (some false)) (yes:=.next (wr .i64 (a+1))) (f:=fun x4 =>
    (cnd (decide (x4<(Aa r)))
    (Ae (idx r x4) (.done (.done none)) (fun x5 =>
    (Ae (idx x.2.2.1 a) (.done (.done none)) (fun x6 =>
    (AD (Ei (x6,x4)) (fun y =>
    (Ae (idx x.2.2.1 x4) (.done (.done none)) (fun x7 =>
    (AD (Ei (x7,a)) (fun y1 =>
    (cnd (!(y==y1))
    (.done (.done (some false)))
    (cnd (y&&(a==x4))
    (.done (.done (some false)))
    (cnd (y&&(!(By (x5,(g.2.2,1048576)))))
    (.done (.done (some false)))
    (cnd ((!y)&&(!(x5==0)))
    (.done (.done (some false)))
    (.next (wr .i64 (x4+1)))))))))))))))))
    (.done (.next (wr .i64 (a+1)))))) (fun b m=>∀sb,idx x.2.2.1 b=some sb→AA sa b=AA sb a∧(AA sa b=true→a≠b∧g.2.2≤m∧m≤1048576)∧(AA sa b=false→m=0)) (hx.bs r hrm).1 (fun b m h0' hb hm=>by
      obtain⟨sb,hsb,hsbm⟩:=Au (l:=x.2.2.1) h0' (by rw[hs.a,←hrl];exact hb)
      simp only[hb,decide_true,AU,hm,A7,hsa,AD,hsb,MT (hx.as sa hsam),MT (hx.as sb hsbm)]
      have only:∀ {p:Prop},(∀sb',some sb=some sb'→AA sa b=AA sb' a∧p)↔(AA sa b=AA sb a∧p):=fun {p}=>⟨fun h=>h sb rfl,fun h sb' e=>by cases e;exact h⟩
      rw[only]
      by_cases e1:AA sa b=AA sb a
      ·simp only[beq_iff_eq.2 e1,Bool.not_true]
       cases hbit:AA sa b with
       |true =>
        by_cases e2:a=b
        ·refine .inr ⟨fun hh=>(hh.2.1 rfl).1 e2,by simp only[AU,AW,beq_iff_eq.2 e2,Bool.and_self]⟩
        ·by_cases e3:By (m,(g.2.2,1048576))=true
         ·have e3':=(Du _ _ _).1 e3
          exact .inl ⟨⟨by rw[←e1,hbit],fun _=>⟨e2,e3'⟩,fun h=>(by cases h)⟩,by simp only[AW,beq_false_of_ne e2,e3,Bool.and_false,Bool.not_true,Bool.false_and]⟩
         ·have e3':=Bool.eq_false_iff.2 e3
          exact .inr ⟨fun hh=>e3 ((Du _ _ _).2 (hh.2.1 rfl).2),by simp only[AU,AW,beq_false_of_ne e2,e3',Bool.and_false,Bool.not_false,Bool.and_self]⟩
       |false =>
        by_cases e4:m=0
        ·exact .inl ⟨⟨by rw[←e1,hbit],fun h=>(by cases h),fun _=>e4⟩,by simp only[AW,beq_iff_eq.2 e4,Bool.false_and,Bool.not_true,Bool.and_false]⟩
        ·exact .inr ⟨fun hh=>e4 (hh.2.2 rfl),by simp only[AU,AW,beq_false_of_ne e4,Bool.false_and,Bool.not_false,Bool.and_self]⟩
      ·exact .inr ⟨fun hh=>e1 hh.1,by simp only[AU,beq_false_of_ne e1,Bool.not_false]⟩) (fun b hb=>by simp[hb,cnd,hi2_eq])
   have hgood:bG x a g↔b=true:=by
    rw[b2]
    constructor
    ·intro hh b m hm sb hsb
     exact hh.row r sa b m sb hr hsa hm hsb
    ·intro hh
     refine ⟨by omega,k2.1,k2.2,fun r' sa' b m sb e1 e2 e3 e4=>?_⟩
     rw[hr] at e1;cases e1
     rw[hsa] at e2;cases e2
     exact hh b m e3 sb e4
   rw[b1]
   cases hbb:b with
   |true=>exact .inl ⟨hgood.2 hbb,rfl⟩
   |false=>exact .inr ⟨fun hh=>(by rw[hgood.1 hh] at hbb;cases hbb),rfl⟩) (fun i hi=>by simp[hi,cnd,hi2_eq])
 rw[h1]
 exact ⟨b,by cases b<;>rfl,h2⟩
structure V7 (x:Ad) (p:I9):Prop where
 ne:p.1≠0
 hi:Ay .u32 p.1 (Aa x.2.1)=0
 min:1≤p.2.1∧p.2.1≤1048576
 max:1≤p.2.2.1∧p.2.2.1≤1048576
 gap:1≤p.2.2.2.1∧p.2.2.2.1≤1048576
 le:p.2.1≤p.2.2.1
 bits:∀a,AA p.1 a=true→∀g s,idx x.2.1 a=some g→idx x.2.2.1 a=some s→g.2.1≤p.2.1∧Aj .and .u32 s p.1=0
def Lm (x:Ad):Int:=x.2.2.2.2.1.foldl (fun s p=>Aj .or .u32 s p.1) 0
def IH (x:Ad):Prop:=(∀k p,idx x.2.2.2.2.1 k=some p→V7 x p)∧HE (Lm x)=Aa x.2.1
theorem AdM (a b c:Int):Bz (a::(b::(c::[])))=true↔(1≤a∧a≤1048576)∧(1≤b∧b≤1048576)∧(1≤c∧c≤1048576):=by
 unfold Bz;simp
theorem MX {x:Ad} (hs:ShapeOK x) {s:Int} (hu:Ax s) (h:Ay .u32 s (Aa x.2.1)=0) {k:Int} (hk:AA s k=true):0≤k∧k<Aa x.2.1:=by
 have h2:=(YD hu (Ar x.2.1) (by have:=hs.n2;omega)).1 h k
 refine ⟨?_,?_⟩
 ·apply Int.not_lt.1
  intro hn
  rw[Wc hn] at hk;cases hk
 ·apply Int.not_le.1
  intro hn
  rw[h2 hn] at hk;cases hk
theorem AeO {x:Ad} (hx:Bm x) (hs:ShapeOK x):∃b,Ho x=some b∧(b=true↔IH x):=by
 unfold Ho
 refine AcN (l:=x.2.2.2.2.1) (fun a:Option Bool=>∃b,a=some b∧(b=true↔IH x)) (fun _ p=>V7 x p) (fun s p=>Aj .or .u32 s p.1) Ax (fun s=>AD (HE s) (fun y=>(some (y==(Aa x.2.1))))) (some false) ⟨by decide,by decide⟩ hx.p (fun s i p hI h0 hi hp=>?_) (fun s i hI hi=>by simp[hi,cnd,hi2_eq]) (fun h=>⟨_,rfl,?_⟩) (fun h=>⟨false,rfl,fun hh=>(by cases hh),fun hh=>absurd hh.1 h⟩)
 ·obtain⟨pu,pm⟩:=hx.ps p (An hp).2.2
  simp only[hi,decide_true,AU,hp,A7]
  by_cases h1:p.1=0
  ·exact .inr ⟨fun hh=>hh.ne h1,by simp only[beq_iff_eq.2 h1,AU]⟩
  simp only[beq_false_of_ne h1,AW]
  have hp0:decide (0≤Aa x.2.1)=true:=by simp;exact Ar _
  simp only[hp0,AU]
  by_cases h2:(((!((Ay Go.IntKind.u32 p.1 (Aa x.2.1))==0))||(!(Bz (p.2.1::(p.2.2.1::(p.2.2.2.1::[]))))))||(decide (p.2.2.1<p.2.1)))=true
  ·refine .inr ⟨fun hh=>?_,by simp only[h2,AU]⟩
   have t:=(AdM p.2.1 p.2.2.1 p.2.2.2.1).2 ⟨hh.min,hh.max,hh.gap⟩
   have:=hh.le
   simp[t,hh.hi] at h2
   omega
  ·have h2':=Bool.eq_false_iff.2 h2
   simp only[h2',AW]
   simp only[Bool.or_eq_false_iff,Bool.not_eq_false',beq_iff_eq,decide_eq_false_iff_not] at h2'
   obtain⟨⟨k1,k2⟩,k3⟩:=h2'
   have k2:=(AdM _ _ _).1 k2
   refine AaR (fun a:Step (Int×Int) (Option Bool)=>(V7 x p∧a=.next (Aj .or .u32 s p.1,wr .i64 (i+1))∧Ax (Aj .or .u32 s p.1))∨(¬V7 x p∧a=.done (some false)))
    (fun k=>∀g s,idx x.2.1 k=some g→idx x.2.2.1 k=some s→g.2.1≤p.2.1∧Aj .and .u32 s p.1=0) (.done (some false)) (.next (Aj .or .u32 s p.1,wr .i64 (i+1))) pu (fun y yu yz ys l0 l1 lb=>?_) (by simp[cnd,hi2_eq]) (fun h=>.inl ⟨⟨h1,k1,k2.1,k2.2.1,k2.2.2,by omega,h⟩,rfl,R6 hI pu⟩) (fun h=>.inr ⟨fun hh=>h hh.bits,rfl⟩)
   obtain⟨b0,b1⟩:=MX hs pu k1 lb
   obtain⟨g,hg,_⟩:=Au (l:=x.2.1) b0 b1
   obtain⟨sa,hsa,_⟩:=Au (l:=x.2.2.1) b0 (by rw[hs.a];exact b1)
   simp only[beq_false_of_ne yz,Bool.not_false,AU,AD,S0 yz,LK l0 l1,hg,hsa,A7]
   by_cases e1:p.2.1<g.2.1
   ·exact .inr ⟨fun hh=>by have:=(hh g sa rfl rfl).1;omega,by simp only[e1,decide_true,AU]⟩
   ·by_cases e2:Aj .and .u32 sa p.1=0
    ·exact .inl ⟨fun g' s' a1 a2=>by cases a1;cases a2;exact ⟨by omega,e2⟩,by simp only[e1,decide_false,AW,beq_iff_eq.2 e2,Bool.not_true]⟩
    ·exact .inr ⟨fun hh=>e2 (hh g sa rfl rfl).2,by simp only[e1,decide_false,AW,beq_false_of_ne e2,Bool.not_false,AU]⟩
 ·show (HE (Lm x)==Aa x.2.1)=true↔_
  rw[beq_iff_eq]
  exact ⟨fun hh=>⟨h,hh⟩,fun hh=>hh.2⟩
structure Afc (x:Ad) (e:V5):Prop where
 phase:0≤e.1∧e.1≤Aa x.2.2.2.2.1-1
 on:1≤e.2.1∧e.2.1≤1048576
 off:1≤e.2.2.1∧e.2.2.1≤1048576
 turns:1≤e.2.2.2∧e.2.2.2≤64
def YI (x:Ad):Prop:=∀i e,idx x.2.2.2.2.2.1 i=some e→Afc x e
theorem Ag3 {x:Ad} (hx:Bm x) (hs:ShapeOK x):∃b,Jj x=some b∧(b=true↔YI x):=by
 unfold Jj
 refine DV (l:=x.2.2.2.2.2.1) (fun a:Option Bool=>∃b,a=some b∧(b=true↔YI x)) (fun _ e=>Afc x e) (some false) (some true) hx.e (fun i e h0 hi he=>?_) (fun i hi=>by simp[hi,cnd,hi2_eq]) (fun h=>⟨true,rfl,fun _=>h,fun _=>rfl⟩) (fun h=>⟨false,rfl,fun hh=>(by cases hh),fun hh=>absurd hh h⟩)
 have hw:wr .i64 (Aa x.2.2.2.2.1-1)=Aa x.2.2.2.2.1-1:=by have:=hs.p1;have:=hs.p2;exact Ak _ (by omega) (by omega)
 simp only[hi,decide_true,AU,he,A7,AD,hw]
 by_cases h1:(((!(By (e.1,0,Aa x.2.2.2.2.1-1)))||(!(Bz (e.2.1::(e.2.2.1::[])))))||(!(By (e.2.2.2,(1,64)))))=true
 ·refine .inr ⟨fun hh=>?_,by simp only[h1,AU]⟩
  have t1:=(Du _ _ _).2 hh.phase
  have t2:=(aN e.2.1 e.2.2.1).2 ⟨hh.on,hh.off⟩
  have t3:=(Du _ _ _).2 hh.turns
  simp[t1,t2,t3] at h1
 ·have h1':=Bool.eq_false_iff.2 h1
  refine .inl ⟨?_,by simp only[h1',AW]⟩
  simp only[Bool.or_eq_false_iff,Bool.not_eq_false'] at h1'
  have t2:=(aN _ _).1 h1'.1.2
  exact ⟨(Du _ _ _).1 h1'.1.1,t2.1,t2.2,(Du _ _ _).1 h1'.2⟩
def zD (x:Ad) (pf pt:I9) (a v:Int):Prop :=
 AA pf.1 a=true∧∃s r b,idx x.2.2.1 a=some s∧idx x.2.2.2.1 a=some r∧AA s b=true∧AA pt.1 b=true∧idx r b=some v
def I7 (x:Ad) (pf pt:I9) (n m:Int):Prop :=
 0≤m∧(∀a v,0≤a→a<n→zD x pf pt a v→v≤m)∧(m=0∨∃a,0≤a∧a<n∧zD x pf pt a m)
theorem lP {x:Ad} {pf pt:I9} {n m m':Int} (h:I7 x pf pt n m) (h':I7 x pf pt n m'):m=m':=by
 obtain⟨h1,h2,h3⟩:=h
 obtain⟨g1,g2,g3⟩:=h'
 have a1:m≤m':=by
  rcases h3 with h3|⟨a,h3,h4,h5⟩
  ·omega
  ·exact g2 a m h3 h4 h5
 have a2:m'≤m:=by
  rcases g3 with g3|⟨a,g3,g4,g5⟩
  ·omega
  ·exact h2 a m' g3 g4 g5
 omega
theorem yL {x:Ad} (hx:Bm x) (hs:ShapeOK x) {f t:Int} {pf pt:I9} (hf:idx x.2.2.2.2.1 f=some pf) (ht:idx x.2.2.2.2.1 t=some pt) :
 ∃m,F8 (x,(f,t))=some m∧I7 x pf pt (Aa x.2.1) m:=by
 obtain⟨uf,_⟩:=hx.ps pf (An hf).2.2
 obtain⟨ut,_⟩:=hx.ps pt (An ht).2.2
 unfold F8
 refine Fe (fun s=>0≤s.2∧s.2≤Aa x.2.1∧I7 x pf pt s.2 s.1) (fun s=>(Aa x.2.1-s.2).toNat) (fun a:Option Int=>∃m,a=some m∧I7 x pf pt (Aa x.2.1) m) ?_ AE (0,0) ⟨by simp,Ar _,by simp,fun a v h0 h1=>by simp only at h1;omega,.inl rfl⟩ (by have:=hs.n2;rw[GX];simp only;omega)
 rintro⟨m,a⟩ ⟨h0,h1,h2,h3,h4⟩
 simp only at h0 h1 h2 h3 h4
 by_cases ha:a<Aa x.2.1
 ·have hw:wr .i64 (a+1)=a+1:=by have:=hs.n2;exact Ak _ (by omega) (by omega)
  simp only[ha,decide_true,AU,hf,A7,AD,MT uf]
  have old:∀ {m'},m≤m'→(∀v,zD x pf pt a v→v≤m')→(m'=m∨zD x pf pt a m')→I7 x pf pt (a+1) m':=fun {m'} le up ex=>by
   refine ⟨by omega,fun a' v b0 b1 hp=>?_,?_⟩
   ·by_cases e:a'=a
    ·subst e;exact up v hp
    ·have:=h3 a' v b0 (by omega) hp;omega
   ·rcases ex with rfl|ex
    ·rcases h4 with h4|⟨a',c1,c2,c3⟩
     ·exact .inl h4
     ·exact .inr ⟨a',c1,by omega,c3⟩
    ·exact .inr ⟨a,h0,by omega,ex⟩
  cases hb:AA pf.1 a with
  |false =>
   simp only[Bool.not_false,AU,hw]
   refine ⟨⟨by simp only;omega,by simp only;omega,old (Int.le_refl _) (fun v hp=>?_) (.inl rfl)⟩,(by show (Aa x.2.1-(a+1)).toNat<(Aa x.2.1-a).toNat;omega)⟩
   have:=hp.1;rw[hb] at this;cases this
  |true =>
   obtain⟨sa,hsa,hsam⟩:=Au (l:=x.2.2.1) h0 (by rw[hs.a];exact ha)
   obtain⟨r,hr,_⟩:=Au (l:=x.2.2.2.1) h0 (by rw[hs.b];exact ha)
   have us:=hx.as sa hsam
   have hrl:=hs.rows a r hr
   simp only[Bool.not_true,AW,hsa,ht,A7]
   have inr:∀k,AA (Aj .and .u32 sa pt.1) k=true→AA sa k=true∧AA pt.1 k=true∧0≤k∧k<Aa r:=fun k hk=>by
    rw[Mk us ut,Bool.and_eq_true] at hk
    obtain⟨b0,b1⟩:=MX hs us (hs.aps a sa hsa) hk.1
    exact ⟨hk.1,hk.2,b0,by omega⟩
   refine iT (fun z:Step (Int×Int) (Option Int)=>Round (fun s=>0≤s.2∧s.2≤Aa x.2.1∧I7 x pf pt s.2 s.1) (fun s=>(Aa x.2.1-s.2).toNat) (fun a:Option Int=>∃m,a=some m∧I7 x pf pt (Aa x.2.1) m) (Aa x.2.1-a).toNat z)
    (fun k=>el r k) (fun m=>.next (m,wr .i64 (a+1))) (Y0 us ut) (fun m' y yu yz l0 l1 lb=>?_) (fun m'=>by simp[cnd,hi2_eq]) (fun m' g1 g2 g3=>?_)
   ·obtain⟨_,_,b0,b1⟩:=inr _ lb
    simp only[beq_false_of_ne yz,Bool.not_false,AU,S0 yz,LK l0 l1,hr,AI b0 b1,A7]
   ·rw[hw]
    refine ⟨⟨by simp only;omega,by simp only;omega,old g1 (fun v hp=>?_) ?_⟩,(by show (Aa x.2.1-(a+1)).toNat<(Aa x.2.1-a).toNat;omega)⟩
    ·obtain⟨_,s',r',b,e1,e2,e3,e4,e5⟩:=hp
     rw[hsa] at e1;cases e1
     rw[hr] at e2;cases e2
     have hk:AA (Aj .and .u32 sa pt.1) b=true:=by rw[Mk us ut,e3,e4];rfl
     have:=g2 b hk
     simpa[el,e5] using this
    ·rcases g3 with g3|⟨k,hk,rfl⟩
     ·exact .inl g3
     ·obtain⟨k1,k2,b0,b1⟩:=inr k hk
      exact .inr ⟨hb,sa,r,k,hsa,hr,k1,k2,AI b0 b1⟩
 ·simp only[ha,decide_false,AW]
  exact ⟨m,rfl,h2,fun a' v b0 b1=>h3 a' v b0 (by omega),h4.imp id fun ⟨a',c1,c2,c3⟩=>⟨a',c1,by omega,c3⟩⟩
theorem lO {x:Ad} (hx:Bm x) (hs:ShapeOK x) (hap:JU x) {pf pt:I9} {m:Int} (h:I7 x pf pt (Aa x.2.1) m):0≤m∧m≤1048576:=by
 refine ⟨h.1,?_⟩
 rcases h.2.2 with h3|⟨a,a0,a1,_,s,r,b,e1,e2,e3,_,e5⟩
 ·omega
 ·obtain⟨g,hg,_⟩:=Au (l:=x.2.1) a0 a1
  obtain⟨b0,b1⟩:=MX hs (hx.as s (An e1).2.2) (hs.aps a s e1) e3
  obtain⟨sb,hsb,_⟩:=Au (l:=x.2.2.1) b0 (by rw[hs.a];exact b1)
  exact ((hap a g hg).row r s b m sb e2 e1 e5 hsb).2.1 e3 |>.2.2
def BI (x:Ad) (i:Int):Int:=(EC (x,i)).getD 0
def Hf (x:Ad) (i:Int):Int:=(i+1).tmod (Aa x.2.2.2.2.1)
theorem oN {x:Ad} (hs:ShapeOK x) {i:Int} (h0:0≤i):0≤Hf x i∧Hf x i<Aa x.2.2.2.2.1:=by
 have:=hs.p1
 unfold Hf
 exact ⟨Int.tmod_nonneg _ (by omega),Int.tmod_lt_of_pos _ (by omega)⟩
theorem N6 {x:Ad} (hx:Bm x) (hs:ShapeOK x) (hap:JU x) (hph:IH x) {i:Int} {p:I9} (hp:idx x.2.2.2.2.1 i=some p) :
 EC (x,i)=some (BI x i)∧∃pn m,idx x.2.2.2.2.1 (Hf x i)=some pn∧I7 x p pn (Aa x.2.1) m∧BI x i=p.2.1+m∧1≤BI x i∧BI x i≤2097152:=by
 obtain⟨i0,i1,_⟩:=An hp
 obtain⟨n0,n1⟩:=oN hs i0
 obtain⟨pn,hpn,_⟩:=Au (l:=x.2.2.2.2.1) n0 n1
 obtain⟨m,hm,hc⟩:=yL hx hs hp hpn
 have hl:=lO hx hs hap hc
 have hmin:=(hph.1 i p hp).min
 have hl1:=hs.p1
 have hl2:=hs.p2
 have key:EC (x,i)=some (p.2.1+m):=by
  unfold EC
  have e:Gm (wr .i64 (i+1)) (Aa x.2.2.2.2.1)=Hf x i:=by
   rw[Ak _ (by omega) (by omega)];rfl
  have hz:(!(Aa x.2.2.2.2.1==0))=true:=by simp;omega
  simp only[hp,A7,hz,AU,e,hm]
  rw[Ak _ (by omega) (by omega)]
 have hv:BI x i=p.2.1+m:=by unfold BI;rw[key];rfl
 exact ⟨by rw[hv];exact key,pn,m,hpn,hc,hv,by omega,by omega⟩
def Ed (x:Ad):Nat→Int
 |0=>0
 |n+1=>Ed x n+BI x (n:Int)
def OY (x:Ad):Int:=Ed x x.2.2.2.2.1.length
structure N0 (x:Ad):Prop where
 watch:1≤x.2.2.2.2.2.2.1∧x.2.2.2.2.2.2.1≤1048576
 feed:1≤x.2.2.2.2.2.2.2.1∧x.2.2.2.2.2.2.2.1≤1048576
 heal:1≤x.2.2.2.2.2.2.2.2.1∧x.2.2.2.2.2.2.2.2.1≤1048576
 low:1≤x.2.2.2.2.2.2.2.2.2.1∧x.2.2.2.2.2.2.2.2.2.1≤1048576
 high:1≤x.2.2.2.2.2.2.2.2.2.2.1∧x.2.2.2.2.2.2.2.2.2.2.1≤1048576
 round:OY x≤x.2.2.2.2.2.2.2.2.2.1
 le:x.2.2.2.2.2.2.2.2.2.1≤x.2.2.2.2.2.2.2.2.2.2.1
theorem Sm {x:Ad} (hx:Bm x) (hs:ShapeOK x) (hap:JU x) (hph:IH x):∀n,n≤x.2.2.2.2.1.length→0≤Ed x n∧Ed x n≤2097152*(n:Int)
 |0,_=>by simp[Ed]
 |n+1,h=>by
  have ih:=Sm hx hs hap hph n (by omega)
  obtain⟨p,hp,_⟩:=Au (l:=x.2.2.2.2.1) (i:=(n:Int)) (by omega) (by unfold Aa;omega)
  have:=(N6 hx hs hap hph hp).2
  obtain⟨_,_,_,_,_,h1,h2⟩:=this
  simp only[Ed]
  omega
theorem AgA {x:Ad} (hx:Bm x) (hs:ShapeOK x) (hap:JU x) (hph:IH x):∃b,Iq x=some b∧(b=true↔N0 x):=by
 unfold Iq
 have hp2:=hs.p2
 refine Fe (fun s=>0≤s.2∧s.2≤Aa x.2.2.2.2.1∧s.1=Ed x s.2.toNat) (fun s=>(Aa x.2.2.2.2.1-s.2).toNat) (fun a:Option Bool=>∃b,a=some b∧(b=true↔N0 x)) ?_ AE (0,0) ⟨by simp,Ar _,rfl⟩ (by rw[GX];simp only;omega)
 rintro⟨m,i⟩ ⟨h0,h1,h2⟩
 simp only at h0 h1 h2
 by_cases hi:i<Aa x.2.2.2.2.1
 ·obtain⟨p,hp,_⟩:=Au h0 hi
  obtain⟨hn,_,_,_,_,_,n1,n2⟩:=N6 hx hs hap hph hp
  have hr:=Sm hx hs hap hph i.toNat (by unfold Aa at hi;omega)
  simp only[hi,decide_true,AU,hn,A7]
  rw[Ak (m+_) (by omega) (by omega),Ak (i+1) (by omega) (by omega)]
  refine ⟨⟨by simp only;omega,by simp only;omega,?_⟩,(by show (Aa x.2.2.2.2.1-(i+1)).toNat<(Aa x.2.2.2.2.1-i).toNat;omega)⟩
  simp only
  rw[show (i+1).toNat=i.toNat+1 by omega,Ed,←h2,show ((i.toNat:Nat):Int)=i by omega]
 ·simp only[hi,decide_false,AW,AD]
  refine ⟨_,rfl,?_⟩
  have hm:m=OY x:=by
   rw[h2];unfold OY;congr 1;unfold Aa at h1 hi;omega
  have ht:Bz (x.2.2.2.2.2.2.1::(x.2.2.2.2.2.2.2.1::(x.2.2.2.2.2.2.2.2.1::(x.2.2.2.2.2.2.2.2.2.1::(x.2.2.2.2.2.2.2.2.2.2.1::[])))))=true↔(1≤x.2.2.2.2.2.2.1∧x.2.2.2.2.2.2.1≤1048576)∧(1≤x.2.2.2.2.2.2.2.1∧x.2.2.2.2.2.2.2.1≤1048576)∧(1≤x.2.2.2.2.2.2.2.2.1∧x.2.2.2.2.2.2.2.2.1≤1048576)∧(1≤x.2.2.2.2.2.2.2.2.2.1∧x.2.2.2.2.2.2.2.2.2.1≤1048576)∧(1≤x.2.2.2.2.2.2.2.2.2.2.1∧x.2.2.2.2.2.2.2.2.2.2.1≤1048576):=by
   unfold Bz;simp
  rw[Bool.and_eq_true,Bool.and_eq_true,ht,decide_eq_true_eq,decide_eq_true_eq,hm]
  exact ⟨fun h=>⟨h.1.1.1,h.1.1.2.1,h.1.1.2.2.1,h.1.1.2.2.2.1,h.1.1.2.2.2.2,h.1.2,h.2⟩,fun h=>⟨⟨⟨h.watch,h.feed,h.heal,h.low,h.high⟩,h.round⟩,h.le⟩⟩
def JP (p:Az):Nat→Int
 |0=>p.1
 |n+1=>JP p n-el p.2.2 (n:Int)
structure FB (x:Ad) (p:Az):Prop where
 cycle:x.2.2.2.2.2.2.2.2.2.1≤p.1∧p.1≤x.2.2.2.2.2.2.2.2.2.2.1
 offset:0≤p.2.1∧p.2.1≤p.1-1
 len:Aa p.2.2=Aa x.2.2.2.2.1
 split:∀n:Nat,(n:Int)<Aa p.2.2→BI x (n:Int)≤el p.2.2 (n:Int)∧el p.2.2 (n:Int)≤JP p n
 all:JP p p.2.2.length=0
def Rm (p:Az):Prop:=(-9223372036854775808≤p.1∧p.1≤9223372036854775807)∧p.2.2.length≤maxLen∧∀m∈p.2.2,-9223372036854775808≤m∧m≤9223372036854775807
theorem AcB {x:Ad} (hx:Bm x) (hs:ShapeOK x) (hap:JU x) (hph:IH x) (hti:N0 x) {p:Az} (_:Rm p):∃b,GO (x,p)=some b∧(b=true↔FB x p):=by
 unfold GO
 simp only[AD]
 rw[AT]
 have hlow:=hti.low
 have hhigh:=hti.high
 split
 ·rename_i h
  refine ⟨false,rfl,fun hh=>(by cases hh),fun hh=>?_⟩
  exfalso
  have c1:=hh.cycle
  have t1:=(Du p.1 _ _).2 hh.cycle
  have hw:wr .i64 (p.1-1)=p.1-1:=Ak _ (by omega) (by omega)
  have t2:=(Du p.2.1 0 (p.1-1)).2 hh.offset
  have t3:=hh.len
  simp[t1,hw,t2,t3] at h
 ·rename_i h
  simp only[Bool.or_eq_true,Bool.not_eq_true',beq_eq_false_iff_ne,not_or,Bool.not_eq_false,ne_eq,Decidable.not_not] at h
  obtain⟨⟨g1,g2⟩,g3⟩:=h
  have g1:=(Du _ _ _).1 g1
  have hw:wr .i64 (p.1-1)=p.1-1:=Ak _ (by omega) (by omega)
  rw[hw] at g2
  have g2:=(Du _ _ _).1 g2
  have g3:Aa p.2.2=Aa x.2.2.2.2.1:=by simpa using g3
  have hp2:=hs.p2
  refine Fe (fun s=>0≤s.2∧s.2≤Aa p.2.2∧s.1=JP p s.2.toNat∧0≤s.1∧s.1≤1048576∧∀n:Nat,(n:Int)<s.2→BI x (n:Int)≤el p.2.2 (n:Int)∧el p.2.2 (n:Int)≤JP p n) (fun s=>(Aa p.2.2-s.2).toNat) (fun a:Option Bool=>∃b,a=some b∧(b=true↔FB x p)) ?_ AE (p.1,0) ⟨by simp,Ar _,rfl,by simp only;omega,by simp only;omega,fun n h=>by simp only at h;omega⟩ (by rw[GX];simp only;omega)
  rintro⟨m,i⟩ ⟨h0,h1,h2,h3,h4,h5⟩
  simp only at h0 h1 h2 h3 h4 h5
  by_cases hi:i<Aa p.2.2
  ·obtain⟨ph,hpp,_⟩:=Au (l:=x.2.2.2.2.1) h0 (by omega)
   obtain⟨hn,_,_,_,_,_,n1,n2⟩:=N6 hx hs hap hph hpp
   have hin:((i.toNat:Nat):Int)=i:=by omega
   simp only[hi,decide_true,AU,AI h0 hi,hn,A7]
   by_cases hc:By (el p.2.2 i,(BI x i,m))=true
   ·have hc':=(Du _ _ _).1 hc
    simp only[hc,Bool.not_true,AW]
    rw[Ak (m-_) (by omega) (by omega),Ak (i+1) (by omega) (by omega)]
    refine ⟨⟨by simp only;omega,by simp only;omega,?_,by simp only;omega,by simp only;omega,fun n hn'=>?_⟩,(by show (Aa p.2.2-(i+1)).toNat<(Aa p.2.2-i).toNat;omega)⟩
    ·simp only
     rw[show (i+1).toNat=i.toNat+1 by omega,JP,←h2,hin]
    ·simp only at hn'
     by_cases e:(n:Int)=i
     ·have e2:n=i.toNat:=by omega
      rw[e]
      refine ⟨hc'.1,?_⟩
      rw[e2,←h2];exact hc'.2
     ·exact h5 n (by omega)
   ·have hc':=Bool.eq_false_iff.2 hc
    simp only[hc',Bool.not_false,AU]
    refine ⟨false,rfl,fun hh=>(by cases hh),fun hh=>?_⟩
    have:=hh.split i.toNat (by omega)
    rw[hin,←h2] at this
    exact absurd ((Du _ _ _).2 this) hc
  ·simp only[hi,decide_false,AW]
   refine ⟨_,rfl,?_⟩
   have hl:i.toNat=p.2.2.length:=by unfold Aa at h1 hi;omega
   rw[beq_iff_eq,h2,hl]
   exact ⟨fun h=>⟨g1,g2,g3,fun n hn=>h5 n (by omega),h⟩,fun h=>h.all⟩
def Pf (x:Ad):Prop:=∀i p,idx x.2.2.2.2.2.2.2.2.2.2.2 i=some p→FB x p
theorem Adg {x:Ad} (hx:Bm x) (hs:ShapeOK x) (hap:JU x) (hph:IH x) (hti:N0 x):∃b,GY x=some b∧(b=true↔Pf x):=by
 unfold GY
 refine DV (l:=x.2.2.2.2.2.2.2.2.2.2.2) (fun a:Option Bool=>∃b,a=some b∧(b=true↔Pf x)) (fun _ p=>FB x p) (some false) (some true) hx.q (fun i p h0 hi hp=>?_) (fun i hi=>by simp[hi,cnd,hi2_eq]) (fun h=>⟨true,rfl,fun _=>h,fun _=>rfl⟩) (fun h=>⟨false,rfl,fun hh=>(by cases hh),fun hh=>absurd hh h⟩)
 obtain⟨b,h1,h2⟩:=AcB hx hs hap hph hti (hx.qs p (An hp).2.2)
 simp only[hi,decide_true,AU,hp,A7,h1]
 cases b with
 |true=>exact .inl ⟨h2.1 rfl,rfl⟩
 |false=>exact .inr ⟨fun hh=>(by have:=h2.2 hh;cases this),rfl⟩
structure Be (x:Ad):Prop where
 id:0≤x.1∧x.1≤65535
 shape:ShapeOK x
 apart:JU x
 phased:IH x
 eyed:YI x
 timed:N0 x
 planned:Pf x
theorem QE {x:Ad} (hx:Bm x):∃e,Aw x=some e∧((e=0∧Be x)∨(e=50∧¬Be x)):=by
 unfold Aw
 have step:∀ {k:Int} {P:Prop},k≤5→wr .i64 (k+1)=k+1∨k<0:=fun {k P} h=>by
  by_cases h0:0≤k
  ·exact .inl (Ak _ (by omega) (by omega))
  ·exact .inr (by omega)
 refine Fe (fun s=>s.1=false∧0≤s.2∧s.2≤6∧(1≤s.2→(0≤x.1∧x.1≤65535)∧ShapeOK x)∧(2≤s.2→JU x)∧(3≤s.2→IH x)∧(4≤s.2→YI x)∧(5≤s.2→N0 x)∧(6≤s.2→Pf x)) (fun s=>(6-s.2).toNat) (fun a:Option Int=>∃e,a=some e∧((e=0∧Be x)∨(e=50∧¬Be x))) ?_ AE (false,0) ⟨rfl,by simp,by simp,fun h=>by simp at h,fun h=>by simp at h,fun h=>by simp at h,fun h=>by simp at h,fun h=>by simp at h,fun h=>by simp at h⟩ (by rw[GX];simp)
 rintro⟨b,k⟩ ⟨hb,k0,k6,a1,a2,a3,a4,a5,a6⟩
 simp only at hb k0 k6 a1 a2 a3 a4 a5 a6
 subst hb
 by_cases hk:k<6
 ·have hw:wr .i64 (k+1)=k+1:=Ak _ (by omega) (by omega)
  simp only[hk,decide_true,AU,hw]
  have cases6:k=0∨k=1∨k=2∨k=3∨k=4∨k=5:=by omega
  rcases cases6 with rfl|rfl|rfl|rfl|rfl|rfl
  ·simp only[beq_self_eq_true,AU,AD]
   by_cases hid:By (x.1,(0,65535))=true
   ·obtain⟨b,h1,h2⟩:=Agu hx
    simp only[hid,Bool.not_true,AW,h1,A7]
    cases b with
    |true=>exact ⟨⟨rfl,by decide,by decide,fun _=>⟨(Du _ _ _).1 hid,h2.1 rfl⟩,fun h=>by simp at h,fun h=>by simp at h,fun h=>by simp at h,fun h=>by simp at h,fun h=>by simp at h⟩,by decide⟩
    |false=>exact ⟨50,rfl,.inr ⟨rfl,fun hh=>by have:=h2.2 hh.shape;cases this⟩⟩
   ·have hid':=Bool.eq_false_iff.2 hid
    simp only[hid',Bool.not_false,AU]
    exact ⟨50,rfl,.inr ⟨rfl,fun hh=>hid ((Du _ _ _).2 hh.id)⟩⟩
  ·obtain⟨hid,hs⟩:=a1 (by decide)
   obtain⟨b,h1,h2⟩:=Afz hx hs
   simp only[show ((1:Int)==0)=false from rfl,beq_self_eq_true,AU,AW,h1,A7]
   cases b with
   |true=>exact ⟨⟨rfl,by decide,by decide,fun _=>⟨hid,hs⟩,fun _=>h2.1 rfl,fun h=>by simp at h,fun h=>by simp at h,fun h=>by simp at h,fun h=>by simp at h⟩,by decide⟩
   |false=>exact ⟨50,rfl,.inr ⟨rfl,fun hh=>by have:=h2.2 hh.apart;cases this⟩⟩
  ·obtain⟨hid,hs⟩:=a1 (by decide)
   obtain⟨b,h1,h2⟩:=AeO hx hs
   simp only[show ((2:Int)==0)=false from rfl,show ((2:Int)==1)=false from rfl,beq_self_eq_true,AU,AW,h1,A7]
   cases b with
   |true=>exact ⟨⟨rfl,by decide,by decide,fun _=>⟨hid,hs⟩,fun _=>a2 (by decide),fun _=>h2.1 rfl,fun h=>by simp at h,fun h=>by simp at h,fun h=>by simp at h⟩,by decide⟩
   |false=>exact ⟨50,rfl,.inr ⟨rfl,fun hh=>by have:=h2.2 hh.phased;cases this⟩⟩
  ·obtain⟨hid,hs⟩:=a1 (by decide)
   obtain⟨b,h1,h2⟩:=Ag3 hx hs
   simp only[show ((3:Int)==0)=false from rfl,show ((3:Int)==1)=false from rfl,show ((3:Int)==2)=false from rfl,beq_self_eq_true,AU,AW,h1,A7]
   cases b with
   |true=>exact ⟨⟨rfl,by decide,by decide,fun _=>⟨hid,hs⟩,fun _=>a2 (by decide),fun _=>a3 (by decide),fun _=>h2.1 rfl,fun h=>by simp at h,fun h=>by simp at h⟩,by decide⟩
   |false=>exact ⟨50,rfl,.inr ⟨rfl,fun hh=>by have:=h2.2 hh.eyed;cases this⟩⟩
  ·obtain⟨hid,hs⟩:=a1 (by decide)
   obtain⟨b,h1,h2⟩:=AgA hx hs (a2 (by decide)) (a3 (by decide))
   simp only[show ((4:Int)==0)=false from rfl,show ((4:Int)==1)=false from rfl,show ((4:Int)==2)=false from rfl,show ((4:Int)==3)=false from rfl,beq_self_eq_true,AU,AW,h1,A7]
   cases b with
   |true=>exact ⟨⟨rfl,by decide,by decide,fun _=>⟨hid,hs⟩,fun _=>a2 (by decide),fun _=>a3 (by decide),fun _=>a4 (by decide),fun _=>h2.1 rfl,fun h=>by simp at h⟩,by decide⟩
   |false=>exact ⟨50,rfl,.inr ⟨rfl,fun hh=>by have:=h2.2 hh.timed;cases this⟩⟩
  ·obtain⟨hid,hs⟩:=a1 (by decide)
   obtain⟨b,h1,h2⟩:=Adg hx hs (a2 (by decide)) (a3 (by decide)) (a5 (by decide))
   simp only[show ((5:Int)==0)=false from rfl,show ((5:Int)==1)=false from rfl,show ((5:Int)==2)=false from rfl,show ((5:Int)==3)=false from rfl,show ((5:Int)==4)=false from rfl,beq_self_eq_true,AU,AW,h1,A7]
   cases b with
   |true=>exact ⟨⟨rfl,by decide,by decide,fun _=>⟨hid,hs⟩,fun _=>a2 (by decide),fun _=>a3 (by decide),fun _=>a4 (by decide),fun _=>a5 (by decide),fun _=>h2.1 rfl⟩,by decide⟩
   |false=>exact ⟨50,rfl,.inr ⟨rfl,fun hh=>by have:=h2.2 hh.planned;cases this⟩⟩
 ·simp only[hk,decide_false,AW]
  have e:k=6:=by omega
  subst e
  obtain⟨hid,hs⟩:=a1 (by decide)
  exact ⟨0,rfl,.inl ⟨rfl,hid,hs,a2 (by decide),a3 (by decide),a4 (by decide),a5 (by decide),a6 (by decide)⟩⟩
end Go.Proofs.YtmmkfcpdfnjgjaaGreatDoor
namespace Go.Proofs.YtmmkfcpdfnjgjaaGreatDoor
open Go.Den
theorem Wj (x:Ad) (hx:Bm x):∃b,C6 x=some b:=by
 unfold C6
 rw[AT]
 split
 ·exact ⟨_,rfl⟩
 ·refine DV (l:=x.2.2.2.1) (fun a:Option Bool=>∃b,a=some b) (fun _ r=>¬40<Aa r) (some true) _ hx.b (fun i r h0 hi hr=>?_) (fun i hi=>by simp only[hi,decide_false,AW];rfl) (fun _=>?_) (fun _=>⟨_,rfl⟩)
  ·simp only[hi,decide_true,AU,hr,A7]
   by_cases h:40<Aa r
   ·exact .inr ⟨fun hh=>hh h,by simp only[h,decide_true,AU]⟩
   ·exact .inl ⟨h,by simp only[h,decide_false,AW]⟩
  ·refine DV (l:=x.2.2.2.2.2.2.2.2.2.2.2) (fun a:Option Bool=>∃b,a=some b) (fun _ p=>¬40<Aa p.2.2) (some true) (some false) hx.q (fun i r h0 hi hr=>?_) (fun i hi=>by simp only[hi,decide_false,AW]) (fun _=>⟨_,rfl⟩) (fun _=>⟨_,rfl⟩)
   simp only[hi,decide_true,AU,hr,A7]
   by_cases h:40<Aa r.2.2
   ·exact .inr ⟨fun hh=>hh h,by simp only[h,decide_true,AU]⟩
   ·exact .inl ⟨h,by simp only[h,decide_false,AW]⟩
theorem lM {s:Ad} {e:Int} (h3:(e=0∧Be s)∨(e=50∧¬Be s)) (h:e=0):Be s:=by
 rcases h3 with h3|h3
 ·exact h3.2
 ·rw[h] at h3;exact absurd h3.1 (by decide)
end Go.Proofs.YtmmkfcpdfnjgjaaGreatDoor
namespace Go.Proofs.YtmmkfcpdfnjgjaaGreatDoor
open Go.Den
structure AgO (x:Ad):Prop where
 n1:1≤Aa x.2.1
 n2:Aa x.2.1≤16
 a:Aa x.2.2.1=Aa x.2.1
 b:Aa x.2.2.2.1=Aa x.2.1
 rows:∀i r,idx x.2.2.2.1 i=some r→Aa r=Aa x.2.1
 aps:∀i s,idx x.2.2.1 i=some s→Ay .u32 s (Aa x.2.1)=0
theorem ShapeOK.g {x:Ad} (h:ShapeOK x):AgO x:=⟨h.n1,h.n2,h.a,h.b,h.rows,h.aps⟩
end Go.Proofs.YtmmkfcpdfnjgjaaGreatDoor
namespace Go.Proofs.YtmmkfcpdfnjgjaaGreatDoor.Pn
open Go.Den
theorem in_site {a b c:Int}:By (a,(b,c))=true↔b≤a∧a≤c:=Du a b c
theorem y5 (a:Int) {b:Int} (h:0<b):-b<a.tmod b:=by
 by_cases h0:0≤a
 ·have:=Int.tmod_nonneg b h0;omega
 ·have h1:=Int.tmod_lt_of_pos (-a) h
  rw[Int.neg_tmod] at h1
  omega
def Qa (s:Ad):Int:=s.2.2.2.2.2.2.2.2.2.1
def KI (s:Ad):Int:=s.2.2.2.2.2.2.2.2.2.2.1
theorem oU {s:Ad} (hx:Bm s) (h:Be s) (hc:Aw s=some 0) {i:Int} {p:I9} (hp:idx s.2.2.2.2.1 i=some p):Fh (s,i)=some (BI s i-p.2.1):=by
 obtain⟨i0,i1,_⟩:=An hp
 have p1:=h.shape.p1
 have p2:=h.shape.p2
 obtain⟨n0,n1⟩:=oN h.shape i0
 obtain⟨_,pn,m,hpn,hci,hv,_,_⟩:=N6 hx h.shape h.apart h.phased hp
 obtain⟨m',hm',hci'⟩:=yL hx h.shape hp hpn
 have hmm:=lP hci hci'
 subst hmm
 have hn:E2 (s,i)=some (Hf s i):=by
  unfold E2 Hf
  rw[Af _ _ (by simp;omega),Ak (i+1) (by omega) (by omega)]
  rfl
 have hC:Im (s,(i,Hf s i))=some (m,0):=by
  unfold Im
  rw[FO,Ab _ _ hc,Ag (b:=!((0:Int)==0)) _ _ rfl]
  refine DV (l:=i::(Hf s i::[])) (fun r:Option (Int×Int)=>r=some (m,0)) (fun _ x=>0≤x∧x≤Aa s.2.2.2.2.1-1) (some (0,2)) (some (m,0)) (by simp[maxLen]) (fun j x j0 j1 hx'=>?_) (fun j hj=>by (try simp only);rw[Ag _ _ (decide_eq_false hj),Ag (b:=!((0:Int)==0)) _ _ rfl,Ab _ _ hm']) (fun _=>rfl) (fun hh=>absurd (fun j x hx'=>?_) hh)
  ·try simp only
   rw[Af _ _ (decide_eq_true j1),Ab _ _ hx',AJ,Ak (Aa s.2.2.2.2.1-1) (by omega) (by omega)]
   by_cases c:0≤x∧x≤Aa s.2.2.2.2.1-1
   ·exact .inl ⟨c,by rw[Ag _ _ (by rw[in_site.2 c];rfl)]⟩
   ·exact .inr ⟨c,by rw[Af _ _ (by rw[Bool.eq_false_iff.2 fun hh=>c (in_site.1 hh)];rfl)];rfl⟩
  ·have hm:=(An hx').2.2
   have:x=i∨x=Hf s i:=by simpa using hm
   rcases this with e|e
   ·rw[e];omega
   ·rw[e];omega
 unfold Fh
 rw[Ab _ _ hn,Ab _ _ hC,hv]
 show some m=some (p.2.1+m-p.2.1)
 congr 1;omega
def A8 (f:Int→Int):Nat→Int
 |0=>0
 |k+1=>A8 f k+f (k:Int)
def FY (f:Int→Int):Nat→Int
 |0=>-1
 |k+1=>if 0<f (k:Int)∧FY f k<0 then (k:Int) else FY f k
def J3 (f:Int→Int) (n:Nat):List Int:=(List.range n).map fun (k:Nat)=>f (k:Int)
theorem K2 (f:Int→Int) (n:Nat):Aa (J3 f n)=n:=by unfold Aa J3;simp
theorem Pw {f:Int→Int} {n:Nat} {j:Int} (j0:0≤j) (j1:j<n):idx (J3 f n) j=some (f j):=by
 unfold J3
 rw[Bw j0,List.getElem?_map,List.getElem?_range (by omega)]
 show some (f ((j.toNat:Nat):Int)) = _
 rw[Int.toNat_of_nonneg j0]
theorem Aa2 (f:Int→Int) (n:Nat):J3 f (n+1)=J3 f n++[f (n:Int)]:=by
 unfold J3;rw[List.range_succ,List.map_append];rfl
theorem Sv (s:Ad):∀k,A8 (BI s) k=Ed s k
 |0=>rfl
 |k+1=>by rw[A8,Ed,Sv s k]
theorem eF {f:Int→Int} {b:Int} {n:Nat} (h:∀k:Nat,k<n→0≤f (k:Int)∧f (k:Int)≤b):∀k,k≤n→0≤A8 f k∧A8 f k≤b*(k:Int)
 |0,_=>by simp[A8]
 |k+1,hk=>by
  have ih:=eF h k (by omega)
  have:=h k (by omega)
  rw[A8]
  have e:b*((k+1:Nat):Int)=b*(k:Int)+b:=by rw[Int.natCast_add,Int.mul_add];simp
  omega
def BG (s:Ad) (p:Az) (i:Int):Int:=if i<Aa p.2.2 then max 0 (min (max 0 (el p.2.2 i)) (KI s)-BI s i) else 0
def Dt (s:Ad) (p:Az):Int:=min (max p.1 (Qa s)) (KI s)
def Nz (s:Ad) (p:Az):Int:=(p.2.1.tmod (Dt s p)+Dt s p).tmod (Dt s p)
def nV (s:Ad):Nat:=s.2.2.2.2.1.length
def Cu (s:Ad) (p:Az):Int:=A8 (BG s p) (nV s)
def EG (s:Ad) (p:Az):Int:=Dt s p-OY s
def CM (s:Ad) (p:Az) (i:Int):Int:=if 0<Cu s p then (EG s p*BG s p i)/Cu s p else 0
def EE (s:Ad) (p:Az):Int:=EG s p-A8 (CM s p) (nV s)
def KK (s:Ad) (p:Az) (i:Int):Int:=BI s i+CM s p i
def atV (s:Ad) (p:Az):Int:=max 0 (FY (BG s p) (nV s))
def It (s:Ad) (p:Az) (i:Int):Int:=if i=atV s p then KK s p i+EE s p else KK s p i
def Ew (s:Ad) (p:Az):Az:=(Dt s p,(Nz s p,J3 (It s p) (nV s)))
theorem fJ (f:Int→Int):∀n,-1≤FY f n∧FY f n<(n:Int)∧(0≤FY f n↔∃k:Nat,k<n∧0<f (k:Int))
 |0=>⟨by simp[FY],by simp[FY],by simp[FY]⟩
 |n+1=>by
  obtain⟨h1,h2,h3⟩:=fJ f n
  rw[FY]
  by_cases c:0<f (n:Int)∧FY f n<0
  ·rw[if_pos c]
   exact ⟨by omega,by omega,fun _=>⟨n,by omega,c.1⟩,fun _=>by omega⟩
  ·rw[if_neg c]
   refine ⟨h1,by omega,fun h=>?_,fun ⟨k,hk,hp⟩=>?_⟩
   ·obtain⟨k,hk,hp⟩:=h3.1 h
    exact ⟨k,by omega,hp⟩
   ·by_cases e:k=n
    ·subst e
     apply Classical.byContradiction
     intro hn
     exact c ⟨hp,by omega⟩
    ·exact h3.2 ⟨k,by omega,hp⟩
theorem IT {s:Ad} (hx:Bm s) (h:Be s) {i:Int} (i0:0≤i) (i1:i<Aa s.2.2.2.2.1):1≤BI s i∧BI s i≤2097152:=by
 obtain⟨_,pn,m,_,_,_,a,b⟩:=N6 hx h.shape h.apart h.phased (AI i0 i1)
 exact ⟨a,b⟩
structure AbU (s:Ad) (p:Az):Prop where
 low:1≤Qa s∧Qa s≤KI s∧KI s≤1048576
 cyc:Qa s≤Dt s p∧Dt s p≤KI s
 off:0≤Nz s p∧Nz s p<Dt s p
 n:1≤nV s∧nV s≤8
 rest:0≤EG s p∧EG s p≤1048576
 wish:∀i,0≤i→i<(nV s:Int)→0≤BG s p i∧BG s p i≤1048576
 all:∀k,k≤nV s→0≤A8 (BG s p) k∧A8 (BG s p) k≤1048576*(k:Int)
 round:∀k,k≤nV s→0≤Ed s k∧Ed s k≤2097152*(k:Int)
 share:∀i,0≤i→i<(nV s:Int)→0≤CM s p i
 shares:∀k,k≤nV s→0≤A8 (CM s p) k∧A8 (CM s p) k≤EG s p
 at_:0≤atV s p∧atV s p<(nV s:Int)
theorem gR {s:Ad} {p:Az} (hr:0≤EG s p) (hw:∀i,0≤i→i<(nV s:Int)→0≤BG s p i):∀k,k≤nV s→0≤A8 (CM s p) k∧A8 (CM s p) k*Cu s p≤EG s p*A8 (BG s p) k
 |0,_=>by simp[A8]
 |k+1,hk=>by
  obtain⟨h1,h2⟩:=gR hr hw k (by omega)
  have hwk:=hw (k:Int) (by omega) (by omega)
  rw[A8,A8,Int.add_mul,Int.mul_add]
  unfold CM
  by_cases c:0<Cu s p
  ·rw[if_pos c]
   have q0:0≤EG s p*BG s p (k:Int)/Cu s p:=Int.ediv_nonneg (Int.mul_nonneg hr hwk) (by omega)
   have q1:EG s p*BG s p (k:Int)/Cu s p*Cu s p≤EG s p*BG s p (k:Int):=Int.ediv_mul_le _ (by omega)
   unfold CM at h1 h2
   exact ⟨by omega,by omega⟩
  ·rw[if_neg c]
   unfold CM at h1 h2
   have:=Int.mul_nonneg hr hwk
   rw[Int.zero_mul]
   exact ⟨by omega,by omega⟩
theorem KZ {s:Ad} (hx:Bm s) (h:Be s) (p:Az):AbU s p:=by
 have t:=h.timed
 have hl:1≤Qa s∧Qa s≤KI s∧KI s≤1048576:=⟨t.low.1,t.le,t.high.2⟩
 have hc:Qa s≤Dt s p∧Dt s p≤KI s:=by unfold Dt;omega
 have p1:=h.shape.p1
 have p2:=h.shape.p2
 have hn:1≤nV s∧nV s≤8:=by unfold Aa at p1 p2;unfold nV;omega
 have hnl:((nV s:Nat):Int)=Aa s.2.2.2.2.1:=rfl
 have hround:∀k,k≤nV s→0≤Ed s k∧Ed s k≤2097152*(k:Int):=fun k hk=>Sm hx h.shape h.apart h.phased k hk
 have hr0:OY s≤Qa s:=t.round
 have hr1:0≤OY s:=(hround (nV s) (Nat.le_refl _)).1
 have hrest:0≤EG s p∧EG s p≤1048576:=by unfold EG;omega
 have hw:∀i,0≤i→i<(nV s:Int)→0≤BG s p i∧BG s p i≤1048576:=fun i i0 i1=>by
  have:=IT hx h i0 (by rw[←hnl];exact i1)
  unfold BG
  split<;>omega
 have hall:=eF (f:=BG s p) (b:=1048576) (n:=nV s) fun k hk=>hw k (by omega) (by omega)
 have hsh:=gR (p:=p) hrest.1 fun i i0 i1=>(hw i i0 i1).1
 refine ⟨hl,hc,?_,hn,hrest,hw,hall,hround,fun i i0 i1=>?_,fun k hk=>⟨(hsh k hk).1,?_⟩,?_⟩
 ·unfold Nz
  have a:=Int.tmod_lt_of_pos p.2.1 (b:=Dt s p) (by omega)
  have b:-(Dt s p)<p.2.1.tmod (Dt s p):=by
   have:=y5 p.2.1 (b:=Dt s p) (by omega)
   exact this
  exact ⟨Int.tmod_nonneg _ (by omega),Int.tmod_lt_of_pos _ (by omega)⟩
 ·unfold CM
  split
  ·exact Int.ediv_nonneg (Int.mul_nonneg hrest.1 (hw i i0 i1).1) (by omega)
  ·omega
 ·by_cases c:0<Cu s p
  ·have h2:=(hsh k hk).2
   have hm:A8 (BG s p) k≤Cu s p:=by
    have mono:∀m,m≤nV s→k≤m→A8 (BG s p) k≤A8 (BG s p) m:=by
     intro m
     induction m with
     |zero=>intro _ hkm;rw[show k=0 by omega];omega
     |succ m ih =>
      intro hm hkm
      by_cases e:k=m+1
      ·rw[e];omega
      ·have:=ih (by omega) (by omega)
       have:=(hw (m:Int) (by omega) (by omega)).1
       rw[A8];omega
    exact mono (nV s) (Nat.le_refl _) hk
   have h3:EG s p*A8 (BG s p) k≤EG s p*Cu s p:=Int.mul_le_mul_of_nonneg_left hm hrest.1
   exact Int.le_of_mul_le_mul_right (a:=Cu s p) (by omega) c
  ·have:A8 (CM s p) k=0:=by
    have:∀m,A8 (CM s p) m=0:=by
     intro m
     induction m with
     |zero=>rfl
     |succ m ih=>rw[A8,ih];unfold CM;rw[if_neg c];rfl
    exact this k
   omega
 ·obtain⟨f1,f2,_⟩:=fJ (BG s p) (nV s)
  unfold atV;omega
theorem Afk {a b:Int} (h0:0≤a) (h1:0<b) (h2:a/b≤9223372036854775807):Fi .i64 a b=a/b:=by
 have h3:0≤a/b:=Int.ediv_nonneg h0 (by omega)
 have:a.tdiv b=a/b:=Int.tdiv_eq_ediv_of_nonneg h0
 show wr .i64 (a.tdiv b) = _
 rw[this,Ak _ (by omega) (by omega)]
abbrev St1:=Int×Int×Int×Int×((Int×Int)×List Int×Unit)×List Int
theorem Zf {A:Type} {bad:Step St1 A} {i least rest all first w:Int} {co:Int×Int} {sp ws:List Int} (hi:0≤i∧i≤8) (hx:idx ws i=some w) (hl:Aa sp≤8) (h1:-9223372036854775808≤rest-least∧rest-least≤9223372036854775807) (h2:-9223372036854775808≤all+w∧all+w≤9223372036854775807) :
 Dh (fun x6:Int×((Int×Int)×List Int×Unit)×List Int =>
(Ae (idx x6.2.2 i) bad (fun _ =>
(Ae (idx x6.2.2 i) bad (fun x8 =>
(cnd (true&&(AS ((Aa x6.2.1.2.1)+(Aa (least::[]))) 8))
(.next ((wr .i64 (i+1)),((wr .i64 (rest-least)),((wr .i64 (all+x8)),(x6.1,((x6.2.1.1,((x6.2.1.2.1++(least::[])),())),x6.2.2))))))
 bad)))))) (fun k =>
(Ae (idx ws i) bad (fun _ =>
(Ae (idx ws i) bad (fun x7 =>
(cnd ((decide (0<x7))&&(decide (first<0)))
(k (i,((co,(sp,())),ws)))
(k (first,((co,(sp,())),ws)))))))))=(.next (i+1,(rest-least,(all+w,((if 0<w∧first<0 then i else first),((co,(sp++[least],())),ws))))):Step St1 A):=by
 rw[FO,Ab _ _ hx,Ab _ _ hx,Ak (i+1) (by omega) (by omega),Ak (rest-least) h1.1 h1.2]
 by_cases c:0<w∧first<0
 ·rw[Af _ _ (by simp[c]),if_pos c]
  try simp only
  rw[Ab _ _ hx,Ab _ _ hx,Ak (all+w) h2.1 h2.2]
  exact Af _ _ (BN (l:=sp) (by omega))
 ·rw[Ag _ _ (by
   apply Bool.eq_false_iff.2
   intro hh
   rw[Bool.and_eq_true,decide_eq_true_eq,decide_eq_true_eq] at hh
   exact c hh),if_neg c]
  try simp only
  rw[Ab _ _ hx,Ab _ _ hx,Ak (all+w) h2.1 h2.2]
  exact Af _ _ (BN (l:=sp) (by omega))
theorem AfG {s:Ad} {p:Az} {e:Int} (hx:Bm s) (hok:e=0→Be s) (hc:Aw s=some e) (_hp:Rm p) (_ho:-9223372036854775808≤p.2.1∧p.2.1≤9223372036854775807):Fg (s,p)=some (if e≠0 then ((0,(0,[])),e) else (Ew s p,0)):=by
 unfold Fg
 rw[Ab _ _ hc]
 by_cases h0:e=0
 ·subst h0
  have h:=hok rfl
  have N:=KZ hx h p
  obtain⟨l1,l2,l3⟩:=N.low
  obtain⟨c1,c2⟩:=N.cyc
  obtain⟨n1,n2⟩:=N.n
  have hnl:((nV s:Nat):Int)=Aa s.2.2.2.2.1:=rfl
  have hcy:min (max p.1 s.2.2.2.2.2.2.2.2.2.1) s.2.2.2.2.2.2.2.2.2.2.1=Dt s p:=rfl
  have htm:=Int.tmod_lt_of_pos p.2.1 (b:=Dt s p) (by omega)
  have htn:-(Dt s p)<p.2.1.tmod (Dt s p):=y5 p.2.1 (by omega)
  have hof:Gm (wr .i64 ((Gm p.2.1 (Dt s p))+Dt s p)) (Dt s p)=Nz s p:=by
   show (wr .i64 (p.2.1.tmod (Dt s p)+Dt s p)).tmod (Dt s p) = _
   rw[Ak _ (by omega) (by omega)];rfl
  have hcz:(!(Dt s p==0))=true:=by simp;omega
  rw[Ag (b:=!((0:Int)==0)) _ _ rfl,if_neg (show ¬((0:Int)≠0) by simp)]
  simp only[DB,D7,hcy,hof]
  rw[Af _ _ hcz,Af _ _ hcz,Af _ _ (J5 (by omega) (by omega))]
  refine AH (fun z:St1=>z.1) (nV s:Int) (fun z=>z.2.1=Dt s p-Ed s z.1.toNat∧z.2.2.1=A8 (BG s p) z.1.toNat∧z.2.2.2.1=FY (BG s p) z.1.toNat∧z.2.2.2.2.1=((Dt s p,Nz s p),(J3 (BI s) z.1.toNat,()))∧Aa z.2.2.2.2.2=(nV s:Int)∧(∀j,0≤j→j<z.1→idx z.2.2.2.2.2 j=some (BG s p j))∧∀j,z.1≤j→j<(nV s:Int)→idx z.2.2.2.2.2 j=some 0) (fun r=>r=some (Ew s p,(0:Int))) (by omega) (by simp) (by simp only;omega) ⟨by simp[Ed],rfl,rfl,rfl,Bn (by omega) _,fun j j0 j1=>absurd j1 (by simp only;omega),fun j j0 j1=>KO j0 (by rw[←hnl];exact j1) _⟩ (fun z hI i0 i1=>?_) (fun z hI hz=>?_)
  ·obtain⟨i,rest,all,first,bx,ws⟩:=z
   obtain⟨hr,ha,hf,hb,hwl,hws,hw0⟩:=hI
   simp only at i0 i1 hr ha hf hb hwl hws hw0
   subst hr ha hf hb
   have hph:=AI (l:=s.2.2.2.2.1) i0 (by rw[←hnl];exact i1)
   have hni:=IT hx h i0 (by rw[←hnl];exact i1)
   have hmin:=(h.phased.1 i _ hph).min
   have hle:wr .i64 ((el s.2.2.2.2.1 i).2.1+(BI s i-(el s.2.2.2.2.1 i).2.1))=BI s i:=by
    rw[Ak _ (by omega) (by omega)];omega
   have hwi:=N.wish i i0 i1
   have hro:=N.round i.toNat (by omega)
   have hal:=N.all i.toNat (by omega)
   have hll:=K2 (BI s) i.toNat
   have hwi0:=hw0 i (Int.le_refl _) i1
   have hsucc:(i+1).toNat=i.toNat+1:=by omega
   have hti:((i.toNat:Nat):Int)=i:=by omega
   try simp only
   rw[Af _ _ (decide_eq_true (by rw[←hnl];exact i1)),Ab _ _ hph,Ab _ _ (oU hx h hc hph)]
   simp only[hle]
   rw[FO]
   have fin:∀ws':List Int,Aa ws'=(nV s:Int)→(∀j,0≤j→j<i+1→idx ws' j=some (BG s p j))→(∀j,i+1≤j→j<(nV s:Int)→idx ws' j=some 0)→C8 (fun z:St1=>z.1) (fun z=>z.2.1=Dt s p-Ed s z.1.toNat∧z.2.2.1=A8 (BG s p) z.1.toNat∧z.2.2.2.1=FY (BG s p) z.1.toNat∧z.2.2.2.2.1=((Dt s p,Nz s p),(J3 (BI s) z.1.toNat,()))∧Aa z.2.2.2.2.2=(nV s:Int)∧(∀j,0≤j→j<z.1→idx z.2.2.2.2.2 j=some (BG s p j))∧∀j,z.1≤j→j<(nV s:Int)→idx z.2.2.2.2.2 j=some 0) (fun r:Option (Az×Int)=>r=some (Ew s p,(0:Int))) i (.next (i+1,(Dt s p-Ed s i.toNat-BI s i,(A8 (BG s p) i.toNat+BG s p i,((if 0<BG s p i∧FY (BG s p) i.toNat<0 then i else FY (BG s p) i.toNat),(((Dt s p,Nz s p),(J3 (BI s) i.toNat++[BI s i],())),ws')))))):=fun ws' a1 a2 a3=>by
    refine ⟨rfl,?_,?_,?_,?_,a1,a2,a3⟩
    ·simp only;rw[hsucc,Ed,hti];omega
    ·simp only;rw[hsucc,A8,hti]
    ·simp only;rw[hsucc,FY,hti]
    ·simp only;rw[hsucc,Aa2,hti]
   by_cases c:i<Aa p.2.2
   ·have hsp:=AI (l:=p.2.2) i0 c
    have hwv:max 0 (wr .i64 (min (max 0 (el p.2.2 i)) s.2.2.2.2.2.2.2.2.2.2.1-BI s i))=BG s p i:=by
     have hh:KI s=s.2.2.2.2.2.2.2.2.2.2.1:=rfl
     rw[Ak _ (by omega) (by omega)]
     unfold BG
     rw[if_pos c];rfl
    rw[Af _ _ (decide_eq_true c),Ab _ _ hsp,Ab _ _ hwi0,Ab _ _ hwi0]
    simp only[hwv]
    have hset:∀j,idx (Bc ws i (BG s p i)) j=if j=i then some (BG s p i) else idx ws j:=fun j=>Dm i0 (by omega) _ j
    rw[Zf (w:=BG s p i) ⟨i0,by omega⟩ (by rw[hset,if_pos rfl]) (by omega) (by omega) (by omega)]
    exact fin _ (by rw[BC];exact hwl) (fun j j0 j1=>by
     rw[hset]
     split
     ·rename_i ej;rw[ej]
     ·exact hws j j0 (by omega)) (fun j j0 j1=>by rw[hset,if_neg (by omega)];exact hw0 j (by omega) j1)
   ·have hwv:BG s p i=0:=by unfold BG;rw[if_neg c]
    rw[Ag _ _ (decide_eq_false c)]
    try simp only
    rw[Zf (w:=BG s p i) ⟨i0,by omega⟩ (by rw[hwv];exact hwi0) (by omega) (by omega) (by omega)]
    exact fin _ hwl (fun j j0 j1=>by
     by_cases ej:j=i
     ·rw[ej,hwv];exact hwi0
     ·exact hws j j0 (by omega)) (fun j j0 j1=>hw0 j (by omega) j1)
  ·obtain⟨i,rest,all,first,bx,ws⟩:=z
   obtain⟨hr,ha,hf,hb,hwl,hws,_⟩:=hI
   simp only at hz hr ha hf hb hwl hws
   subst hz
   rw[Int.toNat_natCast] at hr ha hf hb
   have hrV:rest=EG s p:=hr
   have haV:all=Cu s p:=ha
   subst hrV haV hf hb
   obtain⟨r1,r2⟩:=N.rest
   have hlist:=K2 (BI s) (nV s)
   have hal:=N.all (nV s) (Nat.le_refl _)
   have hal1:0≤Cu s p:=hal.1
   have hal2:Cu s p≤1048576*(nV s:Int):=hal.2
   try simp only
   rw[Ag _ _ (decide_eq_false (by rw[←hnl];omega))]
   have hst:∀i,0≤i→i<(nV s:Int)→0≤CM s p i∧CM s p i≤1048576:=fun i i0 i1=>by
    have a1:=N.share i i0 i1
    have a2:=N.shares i.toNat (by omega)
    have a3:=N.shares (i.toNat+1) (by omega)
    rw[A8,show ((i.toNat:Nat):Int)=i by omega] at a3
    omega
   refine AH (fun z:Int×Int×(Int×Int)×List Int×Unit=>z.1) (nV s:Int) (fun z=>z.2.1=EG s p-A8 (CM s p) z.1.toNat∧z.2.2.1=(Dt s p,Nz s p)∧Aa z.2.2.2.1=(nV s:Int)∧(∀j,0≤j→j<z.1→idx z.2.2.2.1 j=some (KK s p j))∧∀j,0≤j→z.1≤j→j<(nV s:Int)→idx z.2.2.2.1 j=some (BI s j)) (fun r=>L9 (fun r=>r=some (Ew s p,(0:Int))) (.done r:Step St1 (Option (Az×Int)))) (by omega) (by simp) (by simp only;omega) ⟨by simp[A8],rfl,hlist,fun j j0 j1=>absurd j1 (by simp only;omega),fun j j0 _ j1=>Pw j0 j1⟩ (fun z hI i0 i1=>?_) (fun z hI hz=>?_)
   ·obtain⟨i,left,co,sp,u⟩:=z
    obtain⟨hl,hco,hsl,hsp,hsn⟩:=hI
    simp only at i0 i1 hl hco hsl hsp hsn
    subst hl hco
    have hsi:=hsn i i0 (Int.le_refl _) i1
    have hni:=IT hx h i0 (by rw[←hnl];exact i1)
    have hsucc:(i+1).toNat=i.toNat+1:=by omega
    have hti:((i.toNat:Nat):Int)=i:=by omega
    have hsh:=hst i i0 i1
    have hss:=N.shares i.toNat (by omega)
    try simp only
    rw[Af _ _ (decide_eq_true (by rw[hlist];exact i1)),Ak (i+1) (by omega) (by omega)]
    by_cases c:0<Cu s p
    ·have hwi:=N.wish i i0 i1
     have hmul:0≤EG s p*BG s p i∧EG s p*BG s p i≤1048576*1048576:=⟨Int.mul_nonneg r1 hwi.1,Int.mul_le_mul r2 hwi.2 hwi.1 (by omega)⟩
     have hsv:EG s p*BG s p i/Cu s p=CM s p i:=by unfold CM;rw[if_pos c]
     have hq:Fi .i64 (wr .i64 (EG s p*BG s p i)) (Cu s p)=CM s p i:=by
      rw[Ak _ (by omega) (by omega),Afk hmul.1 c (by rw[hsv];omega),hsv]
     rw[Af _ _ (decide_eq_true c),Ab _ _ (hws i i0 i1),Af _ _ (by simp;omega),Ab _ _ hsi,Ab _ _ hsi,Ab _ _ hsi,Ab _ _ hsi]
     simp only[hq]
     rw[Ak (BI s i+CM s p i) (by omega) (by omega),Ak (EG s p-A8 (CM s p) i.toNat-CM s p i) (by omega) (by omega)]
     have hset:∀j,idx (Bc sp i (BI s i+CM s p i)) j=if j=i then some (BI s i+CM s p i) else idx sp j:=fun j=>Dm i0 (by omega) _ j
     refine ⟨rfl,?_,rfl,by (try simp only);rw[BC];exact hsl,fun j j0 j1=>?_,fun j j0 j1 j2=>?_⟩
     ·simp only;rw[hsucc,A8,hti];omega
     ·simp only at j1 ⊢
      rw[hset]
      split
      ·rename_i ej;rw[ej];rfl
      ·exact hsp j j0 (by omega)
     ·simp only at j1 ⊢
      rw[hset,if_neg (by omega)]
      exact hsn j j0 (by omega) j2
    ·have hs0:∀j,CM s p j=0:=fun j=>by unfold CM;rw[if_neg c]
     rw[Ag _ _ (decide_eq_false c)]
     refine ⟨rfl,?_,rfl,hsl,fun j j0 j1=>?_,fun j j0 j1 j2=>hsn j j0 (by simp only at j1;omega) j2⟩
     ·simp only;rw[hsucc,A8,hti,hs0];omega
     ·simp only at j1 ⊢
      by_cases ej:j=i
      ·rw[ej,hsi];unfold KK;rw[hs0,Int.add_zero]
      ·exact hsp j j0 (by omega)
   ·obtain⟨i,left,co,sp,u⟩:=z
    obtain⟨hl,hco,hsl,hsp,_⟩:=hI
    simp only at hz hl hco hsl hsp
    subst hz
    rw[Int.toNat_natCast] at hl
    have hlV:left=EE s p:=hl
    subst hlV hco
    obtain⟨a0,a1⟩:=N.at_
    have hat:max 0 (FY (BG s p) (nV s))=atV s p:=rfl
    have hsa:=hsp (atV s p) a0 a1
    have hpa:=hst (atV s p) a0 a1
    have hna:=IT hx h a0 (by rw[←hnl];exact a1)
    have hlf:0≤EE s p∧EE s p≤1048576:=by
     have:=N.shares (nV s) (Nat.le_refl _)
     unfold EE;omega
    try simp only[hat]
    rw[Ag _ _ (decide_eq_false (by rw[hlist];omega)),Ab _ _ hsa,Ab _ _ hsa,Ab _ _ hsa,Ab _ _ hsa,Ak _ (by unfold KK;omega) (by unfold KK;omega)]
    show some _ = some _
    have hfin:Bc sp (atV s p) (KK s p (atV s p)+EE s p)=J3 (It s p) (nV s):=by
     refine GU (by rw[BC,hsl,K2]) fun j j0 j1=>?_
     rw[BC,hsl] at j1
     rw[Dm a0 (by omega),Pw j0 j1]
     unfold It
     by_cases ej:j=atV s p
     ·rw[if_pos ej,if_pos ej,ej]
     ·rw[if_neg ej,if_neg ej];exact hsp j j0 j1
    rw[hfin]
    rfl
 ·rw[Af _ _ (by simp[h0]),if_pos h0]
end Go.Proofs.YtmmkfcpdfnjgjaaGreatDoor.Pn
namespace Go.Proofs.YtmmkfcpdfnjgjaaGreatDoor.Pn
open Go.Den
theorem Lb {f:Int→Int} {n:Nat} (h:∀k:Nat,k<n→0≤f (k:Int)) {k:Nat}:∀m,m≤n→k≤m→A8 f k≤A8 f m
 |0,_,hk=>by rw[show k=0 by omega];omega
 |m+1,hm,hk=>by
  by_cases e:k=m+1
  ·rw[e];omega
  ·have:=Lb h (k:=k) m (by omega) (by omega)
   have:=h m (by omega)
   rw[A8];omega
theorem NY {f g:Int→Int} {n:Nat} (h:∀k:Nat,k<n→f (k:Int)=g (k:Int)):∀m,m≤n→A8 f m=A8 g m
 |0,_=>rfl
 |m+1,hm=>by rw[A8,A8,NY h m (by omega),h m (by omega)]
theorem sG (f g:Int→Int):∀m,A8 (fun i=>f i+g i) m=A8 f m+A8 g m
 |0=>rfl
 |m+1=>by rw[A8,A8,A8,sG f g m];omega
theorem sH (f g:Int→Int):∀m,A8 (fun i=>f i-g i) m=A8 f m-A8 g m
 |0=>rfl
 |m+1=>by rw[A8,A8,A8,sH f g m];omega
theorem gQ (f:Int→Int) (a c:Int) (h0:0≤a):∀m,A8 (fun i=>if i=a then f i+c else f i) m=A8 f m+if a<(m:Int) then c else 0
 |0=>by rw[A8,A8,if_neg (by omega)];rfl
 |m+1=>by
  rw[A8,A8,gQ f a c h0 m]
  by_cases e:(m:Int)=a
  ·rw[if_pos e,if_neg (by omega),if_pos (by omega)];omega
  ·rw[if_neg e]
   by_cases e2:a<(m:Int)
   ·rw[if_pos e2,if_pos (by omega)];omega
   ·rw[if_neg e2,if_neg (by omega)];omega
theorem Mz (p:Az):∀m,JP p m=p.1-A8 (fun i=>el p.2.2 i) m
 |0=>by rw[JP,A8];omega
 |m+1=>by rw[JP,A8,Mz p m];omega
theorem gN {s:Ad} {p:Az} (hx:Bm s) (h:Be s):A8 (It s p) (nV s)=Dt s p:=by
 have N:=KZ hx h p
 obtain⟨a0,a1⟩:=N.at_
 have e1:A8 (It s p) (nV s)=A8 (fun i=>if i=atV s p then KK s p i+EE s p else KK s p i) (nV s):=rfl
 rw[e1,gQ _ _ _ a0,if_pos a1]
 have e2:A8 (KK s p) (nV s)=A8 (fun i=>BI s i+CM s p i) (nV s):=rfl
 rw[e2,sG,Sv]
 unfold EE EG OY nV
 omega
theorem lN {s:Ad} {p:Az} {j:Int} (j0:0≤j) (j1:j<(nV s:Int)):el (Ew s p).2.2 j=It s p j:=by
 unfold el Ew
 simp only
 rw[Pw j0 j1];rfl
theorem r8 {s:Ad} {p:Az} (hx:Bm s) (h:Be s) {j:Int} (j0:0≤j) (j1:j<(nV s:Int)):BI s j≤It s p j:=by
 have N:=KZ hx h p
 have h1:=N.share j j0 j1
 have h2:=N.shares (nV s) (Nat.le_refl _)
 unfold It KK EE
 split<;>omega
theorem Aei {s:Ad} {p:Az} (hx:Bm s) (h:Be s):FB s (Ew s p):=by
 have N:=KZ hx h p
 have hnl:((nV s:Nat):Int)=Aa s.2.2.2.2.1:=rfl
 have hlen:Aa (Ew s p).2.2=(nV s:Int):=K2 _ _
 have hlen':(Ew s p).2.2.length=nV s:=by unfold Aa at hlen;omega
 have hsum:∀m,m≤nV s→JP (Ew s p) m=Dt s p-A8 (It s p) m:=fun m hm=>by
  rw[Mz]
  have e:A8 (fun i=>el (Ew s p).2.2 i) m=A8 (It s p) m:=NY (n:=nV s) (fun k hk=>lN (by omega) (by omega)) m hm
  rw[e];rfl
 refine ⟨N.cyc,⟨N.off.1,?_⟩,by rw[hlen,hnl],fun m hm=>?_,?_⟩
 ·have:=N.off.2
  show Nz s p≤Dt s p-1
  omega
 ·rw[hlen] at hm
  rw[lN (by omega) hm,hsum m (by omega)]
  refine ⟨r8 hx h (by omega) hm,?_⟩
  have:=Lb (f:=It s p) (n:=nV s) (k:=m+1) (fun k hk=>by
   have:=IT hx h (i:=(k:Int)) (by omega) (by rw[←hnl];omega)
   have:=r8 (p:=p) hx h (j:=(k:Int)) (by omega) (by omega)
   omega) (nV s) (Nat.le_refl _) (by omega)
  rw[A8,gN hx h] at this
  omega
 ·rw[hlen',hsum _ (Nat.le_refl _),gN hx h];omega
theorem Aeh {s:Ad} {p:Az} (hx:Bm s) (h:Be s) (hp:FB s p):Ew s p=p:=by
 have N:=KZ hx h p
 have hnl:((nV s:Nat):Int)=Aa s.2.2.2.2.1:=rfl
 have hplen:Aa p.2.2=(nV s:Int):=hp.len
 have hplen':p.2.2.length=nV s:=by unfold Aa at hplen;omega
 obtain⟨c1,c2⟩:=hp.cycle
 obtain⟨o1,o2⟩:=hp.offset
 have hcyc:Dt s p=p.1:=by
  unfold Dt Qa KI;omega
 have hoff:Nz s p=p.2.1:=by
  unfold Nz
  rw[hcyc,Int.tmod_eq_of_lt o1 (by omega),Int.tmod_eq_emod_of_nonneg (by omega),Int.add_emod_right,Int.emod_eq_of_lt o1 (by omega)]
 have hge:∀k:Nat,k<nV s→BI s (k:Int)≤el p.2.2 (k:Int)∧1≤el p.2.2 (k:Int)∧el p.2.2 (k:Int)≤p.1:=fun k hk=>by
  have h1:=hp.split k (by omega)
  have h2:=IT hx h (i:=(k:Int)) (by omega) (by rw[←hnl];omega)
  have h3:0≤A8 (fun i=>el p.2.2 i) k:=by
   have:∀m,m≤k→0≤A8 (fun i=>el p.2.2 i) m:=by
    intro m
    induction m with
    |zero=>intro _;simp[A8]
    |succ m ih =>
     intro hm
     have:=ih (by omega)
     have a:=(hp.split m (by omega)).1
     have b:=IT hx h (i:=(m:Int)) (by omega) (by rw[←hnl];omega)
     rw[A8];omega
   exact this k (Nat.le_refl _)
  have h4:=Mz p k
  exact ⟨h1.1,by omega,by omega⟩
 have hwish:∀k:Nat,k<nV s→BG s p (k:Int)=el p.2.2 (k:Int)-BI s (k:Int):=fun k hk=>by
  have:=hge k hk
  unfold BG
  rw[if_pos (by omega)]
  have hh:p.1≤KI s:=c2
  omega
 have hspl:A8 (fun i=>el p.2.2 i) (nV s)=p.1:=by
  have:=hp.all
  rw[hplen',Mz] at this
  omega
 have hall:Cu s p=EG s p:=by
  unfold Cu EG
  rw[NY (n:=nV s) (g:=fun i=>el p.2.2 i-BI s i) hwish (nV s) (Nat.le_refl _),sH,hspl,Sv,hcyc]
  rfl
 have hshare:∀k:Nat,k<nV s→CM s p (k:Int)=BG s p (k:Int):=fun k hk=>by
  unfold CM
  by_cases c:0<Cu s p
  ·rw[if_pos c,←hall,Int.mul_ediv_cancel_left _ (by omega)]
  ·rw[if_neg c]
   have h0:Cu s p=0:=by
    have:=(N.all (nV s) (Nat.le_refl _)).1
    unfold Cu at c ⊢;omega
   have h1:=N.wish (k:Int) (by omega) (by omega)
   have h2:=Lb (f:=BG s p) (n:=nV s) (k:=k+1) (fun m hm=>(N.wish (m:Int) (by omega) (by omega)).1) (nV s) (Nat.le_refl _) (by omega)
   have h3:=(N.all k (by omega)).1
   rw[A8] at h2
   unfold Cu at h0
   omega
 have hleft:EE s p=0:=by
  unfold EE
  rw[NY (n:=nV s) (g:=BG s p) hshare (nV s) (Nat.le_refl _)]
  unfold Cu at hall
  omega
 have hsplits:J3 (It s p) (nV s)=p.2.2:=by
  refine GU (by rw[K2,hplen]) fun j j0 j1=>?_
  rw[K2] at j1
  rw[Pw j0 j1,AI j0 (by omega)]
  have hk:=hshare j.toNat (by omega)
  have hw:=hwish j.toNat (by omega)
  rw[show ((j.toNat:Nat):Int)=j by omega] at hk hw
  unfold It KK
  rw[hleft,hk,hw]
  congr 1
  split<;>omega
 unfold Ew
 rw[hcyc,hoff,hsplits]
theorem Sp {s:Ad} {p:Az} (hx:Bm s) (h:Be s) (hc:Aw s=some 0) (hp:Rm p):∃b,CY (s,p)=some (b,0)∧(b=true↔FB s p):=by
 unfold CY
 obtain⟨b,h1,h2⟩:=AcB hx h.shape h.apart h.phased h.timed hp
 exact ⟨b,by rw[Ab _ _ hc,Ag (b:=!((0:Int)==0)) _ _ rfl,Ab _ _ h1],h2⟩
end Go.Proofs.YtmmkfcpdfnjgjaaGreatDoor.Pn
namespace Go.Proofs.YtmmkfcpdfnjgjaaGreatDoor.Pn
open Go.Den
def Dg (p:Az) (k:Nat):Int:=A8 (fun i=>el p.2.2 i) k
theorem IB (p:Az) (k:Nat):Dg p (k+1)=Dg p k+el p.2.2 (k:Int):=rfl
structure Lg (s:Ad) (p:Az):Prop where
 cyc:1≤p.1∧p.1≤1048576
 off:0≤p.2.1∧p.2.1<p.1
 n:1≤nV s∧nV s≤8
 len:p.2.2.length=nV s
 needs:∀k:Nat,k<nV s→1≤BI s (k:Int)∧BI s (k:Int)≤el p.2.2 (k:Int)
 ends:∀k,k≤nV s→0≤Dg p k∧Dg p k≤p.1
 all:Dg p (nV s)=p.1
theorem ZU {s:Ad} {p:Az} (hx:Bm s) (h:Be s) (hp:FB s p):Lg s p:=by
 have N:=KZ hx h p
 obtain⟨l1,l2,l3⟩:=N.low
 have hnl:((nV s:Nat):Int)=Aa s.2.2.2.2.1:=rfl
 have hplen:Aa p.2.2=(nV s:Int):=hp.len
 have hplen':p.2.2.length=nV s:=by unfold Aa at hplen;omega
 obtain⟨c1,c2⟩:=hp.cycle
 obtain⟨o1,o2⟩:=hp.offset
 have hc1:Qa s≤p.1:=c1
 have hc2:p.1≤KI s:=c2
 have hn:∀k:Nat,k<nV s→1≤BI s (k:Int)∧BI s (k:Int)≤el p.2.2 (k:Int):=fun k hk=>by
  have h1:=hp.split k (by omega)
  have h2:=IT hx h (i:=(k:Int)) (by omega) (by rw[←hnl];omega)
  exact ⟨h2.1,h1.1⟩
 have hall:Dg p (nV s)=p.1:=by
  have:=hp.all
  rw[hplen',Mz] at this
  unfold Dg;omega
 have hpos:∀k:Nat,k<nV s→0≤(fun i=>el p.2.2 i) (k:Int):=fun k hk=>by
  have:=hn k hk
  simp only;omega
 refine ⟨by omega,by omega,N.n,hplen',hn,fun k hk=>⟨?_,?_⟩,hall⟩
 ·exact Lb (k:=0) hpos k hk (by omega)
 ·rw[←hall];exact Lb hpos (nV s) (Nat.le_refl _) hk
theorem Po {s:Ad} {p:Az} (N:Lg s p):∀k,k≤nV s→CQ p.2.2 k=Dg p k
 |0,_=>rfl
 |k+1,hk=>by
  have e:=N.ends (k+1) hk
  rw[CQ,Po N k (by omega),IB]
  have:(p.2.2[k]?).getD 0=el p.2.2 (k:Int):=by
   unfold el;rw[Bw (by omega)];rfl
  rw[this,Ak _ (by rw[IB] at e;have:=N.cyc;omega) (by rw[IB] at e;have:=N.cyc;omega)]
def Ko (p:Az) (k:Nat) (x:Int):Prop:=Dg p k≤x∧x<Dg p (k+1)
theorem TV {s:Ad} {p:Az} (N:Lg s p) {j k:Nat} (hk:k≤nV s) (h:j≤k):Dg p j≤Dg p k :=
 Lb (fun i hi=>by have:=N.needs i hi;show 0≤el p.2.2 (i:Int);omega) k hk h
theorem Agh {s:Ad} {p:Az} (N:Lg s p) {x:Int} (x0:0≤x) (x1:x<p.1):∃k:Nat,k<nV s∧Ko p k x:=by
 have:∀m,m≤nV s→x<Dg p m→∃k:Nat,k<m∧Ko p k x:=by
  intro m
  induction m with
  |zero=>intro _ h;simp[Dg,A8] at h;omega
  |succ m ih =>
   intro hm h
   by_cases c:x<Dg p m
   ·obtain⟨k,hk,h2⟩:=ih (by omega) c
    exact ⟨k,by omega,h2⟩
   ·exact ⟨m,by omega,by omega,h⟩
 obtain⟨k,hk,h⟩:=this (nV s) (Nat.le_refl _) (by rw[N.all];exact x1)
 exact ⟨k,hk,h⟩
theorem Xr {s:Ad} {p:Az} (N:Lg s p) {x:Int} {j k:Nat} (hj:j<nV s) (hk:k<nV s) (h1:Ko p j x) (h2:Ko p k x):j=k:=by
 obtain⟨a,b⟩:=h1
 obtain⟨c,d⟩:=h2
 rcases Nat.lt_trichotomy j k with h|h|h
 ·have:=TV N (j:=j+1) (k:=k) (by omega) (by omega);omega
 ·exact h
 ·have:=TV N (j:=k+1) (k:=j) (by omega) (by omega);omega
theorem yQ {l:List Int} {pl:Int}:∀(n k j:Nat),k≤j→j<k+n→(∀i,k≤i→i<j→¬pl<CQ l (i+1))→pl<CQ l (j+1)→Jt l pl n k=((j:Int),(wr .i64 (wr .i64 (pl-CQ l (j+1))+(l[j]?).getD 0),0))
 |0,k,j,h1,h2,_,_=>by omega
 |n+1,k,j,h1,h2,hno,hy=>by
  rw[Jt]
  by_cases e:k=j
  ·subst e;rw[if_pos hy]
  ·rw[if_neg (hno k (Nat.le_refl _) (by omega))]
   exact yQ n (k+1) j (by omega) (by omega) (fun i hi hj=>hno i (by omega) hj) hy
theorem AfC {s:Ad} {p:Az} (N:Lg s p) {x:Int} {k:Nat} (hk:k<nV s) (h:Ko p k x):Jt p.2.2 x p.2.2.length 0=((k:Int),(x-Dg p k,0)):=by
 have e1:=N.ends k (by omega)
 have e2:=N.ends (k+1) (by omega)
 have c:=N.cyc
 obtain⟨h1,h2⟩:=h
 rw[yQ p.2.2.length 0 k (by omega) (by rw[N.len];omega) (fun i _ hi=>by
  rw[Po N (i+1) (by omega)]
  have:=TV N (j:=i+1) (k:=k) (by omega) (by omega)
  omega) (by rw[Po N (k+1) (by omega)];exact h2),Po N (k+1) (by omega)]
 have:(p.2.2[k]?).getD 0=el p.2.2 (k:Int):=by
  unfold el;rw[Bw (by omega)];rfl
 rw[this]
 rw[IB] at e2 h2 ⊢
 rw[Ak (x-(Dg p k+el p.2.2 (k:Int))) (by omega) (by omega),Ak _ (by omega) (by omega)]
 congr 2
 omega
def Cj (p:Az) (t:Int):Int:=(t+p.1-p.2.1)%p.1
theorem Yz {s:Ad} {p:Az} (N:Lg s p) (t:Int):0≤Cj p t∧Cj p t<p.1:=by
 have c:=N.cyc
 exact ⟨Int.emod_nonneg _ (by omega),Int.emod_lt_of_pos _ (by omega)⟩
theorem Ac0 {c q r x:Int} (hx:x=r+c*q) (h0:0≤r) (h1:r<c):x%c=r:=by
 rw[hx,Int.add_mul_emod_self_left,Int.emod_eq_of_lt h0 h1]
theorem AhZ {s:Ad} {p:Az} {t:Int} (hx:Bm s) (h:Be s) (hc:Aw s=some 0) (hp:Rm p) (hok:FB s p) (t0:0≤t) (t1:t≤1073741824) :
 ∃k:Nat,k<nV s∧Ko p k (Cj p t)∧Em (s,(p,t))=some ((k:Int),(Cj p t-Dg p k,0)):=by
 have N:=ZU hx h hok
 obtain⟨a,b⟩:=Yz N t
 obtain⟨k,hk,hpt⟩:=Agh N a b
 refine ⟨k,hk,hpt,?_⟩
 have c:=N.cyc
 have o:=N.off
 obtain⟨b,h1,h2⟩:=Sp hx h hc hp
 have hb:b=true:=h2.2 hok
 subst hb
 have hpl:Gm (wr .i64 (wr .i64 (t+p.1)-p.2.1)) p.1=Cj p t:=by
  rw[Ak (t+p.1) (by omega) (by omega),Ak _ (by omega) (by omega)]
  exact Int.tmod_eq_emod_of_nonneg (by omega)
 unfold Em
 simp only[h1]
 have hln:Aa p.2.2=(nV s:Int):=by unfold Aa;rw[N.len]
 have:=N.n
 rw[if_neg (by simp),if_neg (by simp),if_neg (by omega),if_neg (by omega),hpl,AfC N hk hpt]
end Go.Proofs.YtmmkfcpdfnjgjaaGreatDoor.Pn
namespace Go.Proofs.YtmmkfcpdfnjgjaaGreatDoor
open Go.Den
def BE (s:Ad) (a b:Int):Bool:=AA (el s.2.2.1 a) b
def betw (s:Ad) (a b:Int):Int:=el (el s.2.2.2.1 a) b
structure SOK (s:Ad):Prop where
 n1:1≤Aa s.2.1
 n2:Aa s.2.1≤16
 la:Aa s.2.2.1=Aa s.2.1
 lb:Aa s.2.2.2.1=Aa s.2.1
 rows:∀i r,idx s.2.2.2.1 i=some r→Aa r=Aa s.2.1
 us:∀i x,idx s.2.2.1 i=some x→Ax x
 grp:∀i g,idx s.2.1 i=some g→(1≤g.2.1∧g.2.1≤1048576)∧(1≤g.2.2∧g.2.2≤1048576)
 pair:∀a b,0≤a→a<Aa s.2.1→0≤b→b<Aa s.2.1→BE s a b=BE s b a∧(BE s a b=true→a≠b∧(el s.2.1 a).2.2≤betw s a b∧betw s a b≤1048576)∧(BE s a b=false→betw s a b=0)
theorem sok {s:Ad} (hs:Bm s) (h:Be s):SOK s where
 n1:=h.shape.n1
 n2:=h.shape.n2
 la:=h.shape.a
 lb:=h.shape.b
 rows:=h.shape.rows
 us:=fun i x hx=>hs.as x (An hx).2.2
 grp:=fun i g hg=>⟨(h.apart i g hg).min,(h.apart i g hg).yellow⟩
 pair:=fun a b a0 a1 b0 b1=>by
  have e1:=AI (l:=s.2.1) a0 a1
  have e2:=AI (l:=s.2.2.2.1) a0 (by rw[h.shape.b];exact a1)
  have e3:=AI (l:=s.2.2.1) a0 (by rw[h.shape.a];exact a1)
  have e4:=AI (l:=s.2.2.1) b0 (by rw[h.shape.a];exact b1)
  have e5:=AI (l:=el s.2.2.2.1 a) b0 (by rw[h.shape.rows a _ e2];exact b1)
  exact (h.apart a _ e1).row _ _ b _ _ e2 e3 e5 e4
theorem yJ {s:Ad} (h:SOK s) {a b:Int} (a0:0≤a) (a1:a<Aa s.2.1) (b0:0≤b) (b1:b<Aa s.2.1):0≤betw s a b∧betw s a b≤1048576:=by
 obtain⟨_,h2,h3⟩:=h.pair a b a0 a1 b0 b1
 cases c:BE s a b with
 |true =>
  have:=h2 c
  have:=(h.grp a _ (AI a0 a1)).2
  omega
 |false=>have:=h3 c;omega
theorem bQ {s:Ad} (h:SOK s) {a b:Int} (a0:0≤a) (a1:a<Aa s.2.1) (b0:0≤b) (b1:b<Aa s.2.1):De (s,(a,b))=some (BE s a b):=by
 have n2:=h.n2
 have e:=AI (l:=s.2.2.1) a0 (by rw[h.la];exact a1)
 unfold De
 rw[Ab _ _ e,Af _ _ (decide_eq_true b0)]
 show some (Aj .and .u32 (Ay .u32 (el s.2.2.1 a) b) 1==1) = _
 rw[Qr (h.us a _ e) b0 (by omega)]
 rfl
theorem eZ {s:Ad} (h:SOK s) {a b:Int} (a0:0≤a) (a1:a<Aa s.2.1) (b0:0≤b) (b1:b<Aa s.2.1):DE (s,(a,b))=some (betw s a b):=by
 have e:=AI (l:=s.2.2.2.1) a0 (by rw[h.lb];exact a1)
 unfold DE
 rw[Ab _ _ e,Ab _ _ (AI b0 (by rw[h.rows a _ e];exact b1))]
 rfl
structure Rk (s:Ad) (m:Int):Prop where
 lo:0≤m
 hi:m≤1048576
 all:∀a b,0≤a→a<Aa s.2.1→0≤b→b<Aa s.2.1→BE s a b=true→betw s a b≤m
 one:m=0∨∃a b,0≤a∧a<Aa s.2.1∧0≤b∧b<Aa s.2.1∧BE s a b=true∧m=betw s a b
theorem AaL {s:Ad} {m m':Int} (h:Rk s m) (h':Rk s m'):m=m':=by
 have h1:=h.lo;have h2:=h'.lo
 rcases h.one with e|⟨a,b,q1,q2,q3,q4,q5,e⟩
 ·rcases h'.one with e'|⟨a,b,q1,q2,q3,q4,q5,e'⟩
  ·rw[e,e']
  ·have:=h.all a b q1 q2 q3 q4 q5;omega
 ·have:=h'.all a b q1 q2 q3 q4 q5
  rcases h'.one with e'|⟨a',b',r1,r2,r3,r4,r5,e'⟩
  ·omega
  ·have:=h.all a' b' r1 r2 r3 r4 r5;omega
theorem AcI {s:Ad} (h:SOK s) {F:Int×Int→Step (Int×Int) (Option Int)} {B:Int→Int×Int→Step (Int×Int) (Step (Int×Int) (Option Int))}
 (hF:∀m a,0≤a→a<Aa s.2.1→F (m,a)=iter (.done none) (B a) AE (m,0)) (hFe:∀m,F (m,Aa s.2.1)=.done (some m))
 (hB:∀m a b,0≤a→a<Aa s.2.1→0≤b→b<Aa s.2.1→B a (m,b)=.next (if BE s a b=true then max m (betw s a b) else m,wr .i64 (b+1))) (hBe:∀m a,0≤a→a<Aa s.2.1→B a (m,Aa s.2.1)=.done (.next (m,wr .i64 (a+1)))) :
 ∃m,iter none F AE (0,0)=some m∧Rk s m:=by
 have n1:=h.n1
 have n2:=h.n2
 refine AH (fun z:Int×Int=>z.2) (Aa s.2.1) (fun z=>0≤z.1∧z.1≤1048576∧(∀a b,0≤a→a<z.2→0≤b→b<Aa s.2.1→BE s a b=true→betw s a b≤z.1)∧(z.1=0∨∃a b,0≤a∧a<Aa s.2.1∧0≤b∧b<Aa s.2.1∧BE s a b=true∧z.1=betw s a b)) (fun r:Option Int=>∃m,r=some m∧Rk s m) (by omega) (by simp) (by simp only;omega) ⟨by simp,by simp,fun a b h0 h1=>by simp only at h1;omega,.inl rfl⟩ (fun z hI a0 a1=>?_) (fun z hI hz=>?_)
 ·obtain⟨m,a⟩:=z
  obtain⟨g1,g2,g3,g4⟩:=hI
  simp only at a0 a1 g1 g2 g3 g4
  rw[hF m a a0 a1]
  refine AH (fun z:Int×Int=>z.2) (Aa s.2.1) (fun z=>0≤z.1∧z.1≤1048576∧(∀a' b,0≤a'→(a'<a∧b<Aa s.2.1∨a'=a∧b<z.2)→0≤b→BE s a' b=true→betw s a' b≤z.1)∧(z.1=0∨∃a b,0≤a∧a<Aa s.2.1∧0≤b∧b<Aa s.2.1∧BE s a b=true∧z.1=betw s a b)) _ (by omega) (by simp) (by simp only;omega) ⟨g1,g2,fun a' b h0 h1 h2 h3=>?_,g4⟩ (fun z hJ b0 b1=>?_) (fun z hJ hz=>?_)
  ·rcases h1 with ⟨h1,h4⟩|⟨h1,h4⟩
   ·exact g3 a' b h0 h1 h2 h4 h3
   ·simp only at h4;omega
  ·obtain⟨m,b⟩:=z
   obtain⟨g1,g2,g3,g4⟩:=hJ
   simp only at b0 b1 g1 g2 g3 g4
   have hbw:=yJ h a0 a1 b0 b1
   rw[hB m a b a0 a1 b0 b1,Ak (b+1) (by omega) (by omega)]
   refine ⟨rfl,?_,?_,fun a' b' h0 h1 h2 h3=>?_,?_⟩
   ·simp only;split<;>omega
   ·simp only;split<;>omega
   ·simp only at h1 ⊢
    by_cases e:a'=a∧b'=b
    ·obtain⟨rfl,rfl⟩:=e
     rw[if_pos h3];omega
    ·have:=g3 a' b' h0 (by omega) h2 h3
     split<;>omega
   ·try simp only
    split
    ·rename_i c
     by_cases hle:betw s a b≤m
     ·rw[Int.max_eq_left hle];exact g4
     ·rw[Int.max_eq_right (by omega)];exact .inr ⟨a,b,a0,a1,b0,b1,c,rfl⟩
    ·exact g4
  ·obtain⟨m,b⟩:=z
   obtain⟨g1,g2,g3,g4⟩:=hJ
   simp only at hz g1 g2 g3 g4
   subst hz
   rw[hBe m a a0 a1,Ak (a+1) (by omega) (by omega)]
   exact ⟨rfl,g1,g2,fun a' b h0 h1 h2 h4 h5=>g3 a' b h0 (by simp only at h1;omega) h2 h5,g4⟩
 ·obtain⟨m,a⟩:=z
  obtain⟨g1,g2,g3,g4⟩:=hI
  simp only at hz g1 g2 g3 g4
  subst hz
  rw[hFe m]
  exact ⟨m,rfl,g1,g2,g3,g4⟩
theorem Zz {s:Ad} (h:SOK s):∃m,BU s=some m∧Rk s m:=by
 unfold BU
 refine AcI h (F:=_) (B:=fun a x2=>(cnd (decide (x2.2<(Aa s.2.1)))
(Ae (De (s,(a,x2.2))) (.done (.done none)) (fun x3 =>
(cnd x3
(Ae (DE (s,(a,x2.2))) (.done (.done none)) (fun x4 =>
(.next ((Cw x2.1 x4),(wr .i64 (x2.2+1))))))
(.next (x2.1,(wr .i64 (x2.2+1)))))))
(.done (.next (x2.1,(wr .i64 (a+1))))))) (fun m a a0 a1=>by (try simp only);rw[Af _ _ (decide_eq_true a1)]) (fun m=>by (try simp only);rw[Ag _ _ (decide_eq_false (by omega))]) (fun m a b a0 a1 b0 b1=>?_) (fun m a a0 a1=>by (try simp only);rw[Ag _ _ (decide_eq_false (by omega))])
 try simp only
 rw[Af _ _ (decide_eq_true b1),Ab _ _ (bQ h a0 a1 b0 b1)]
 cases c:BE s a b with
 |true=>rw[Af _ _ rfl,Ab _ _ (eZ h a0 a1 b0 b1),D7,if_pos rfl]
 |false=>rw[Ag _ _ rfl,if_neg (by simp)]
def grt (s:Ad):Int:=(BU s).getD 0
theorem kB {s:Ad} (h:SOK s):BU s=some (grt s):=by
 obtain⟨m,h1,_⟩:=Zz h
 unfold grt;rw[h1];rfl
theorem JM {s:Ad} (h:SOK s):Rk s (grt s):=by
 obtain⟨m,h1,h2⟩:=Zz h
 unfold grt;rw[h1];exact h2
def Abt:A5:=(1,(1,1048576))
def Lw (s:Ad):Aq:=(AQ (Aa s.2.1) Abt,(grt s,false))
theorem AfS {s:Ad} (h:SOK s):Ii s=some (Lw s):=by
 have n1:=h.n1
 have n2:=h.n2
 unfold Ii
 rw[Ab _ _ (kB h)]
 refine AH (fun z:Int×Unit×List A5×Int×Bool=>z.1) (Aa s.2.1) (fun z=>z.2.2=(AQ z.1 Abt,(grt s,false))) (fun r=>r=some (Lw s)) (by omega) (by simp) (by simp only;omega) rfl (fun z hI i0 i1=>?_) (fun z hI hz=>?_)
 ·obtain⟨i,u,l,m,f⟩:=z
  simp only at hI i0 i1
  cases hI
  try simp only
  rw[Af _ _ (decide_eq_true i1),Af _ _ (BN (l:=AQ i Abt) (b:=24) (by rw[Bn i0];omega)),Ak (i+1) (by omega) (by omega)]
  refine ⟨rfl,?_⟩
  try simp only
  rw[←AcU i0];rfl
 ·obtain⟨i,u,l,m,f⟩:=z
  simp only at hI hz
  cases hI
  subst hz
  try simp only
  rw[Ag _ _ (decide_eq_false (by omega))]
  rfl
def Cf (l:List Int):Bool:=decide (∀a∈l,a=4)
theorem cH {l:List Int} (hl:l.length≤maxLen):EA l=some (Cf l):=by
 unfold EA Cf
 have conv:(∀a∈l,a=4)↔(∀(i:Int) a,idx l i=some a→a=4):=⟨fun h i a ha=>h a (An ha).2.2,fun h a ha=>by obtain⟨i,hi⟩:=D9 ha;exact h i a hi⟩
 refine DV (l:=l) (fun r:Option Bool=>r=some (decide (∀a∈l,a=4))) (fun _ a=>a=4) (some false) (some true) hl (fun i a h0 hi ha=>?_) (fun i hi=>by (try simp only);rw[Ag _ _ (decide_eq_false hi)];try rfl) (fun h=>by rw[decide_eq_true (conv.2 h)]) (fun h=>by rw[decide_eq_false (fun hh=>h (conv.1 hh))])
 try simp only
 rw[Af _ _ (decide_eq_true hi),Ab _ _ ha]
 by_cases c:a=4
 ·exact .inl ⟨c,by rw[Ag _ _ (by simp[c])]⟩
 ·exact .inr ⟨c,by rw[Af _ _ (by simp[c]),decide_eq_true h0];rfl⟩
theorem Aai {l:List Int} {v:Int} (hl:l.length≤maxLen):B7 (l,v)=some (decide (v∈l)):=by
 have hm:Aa l≤9223372036854775807:=Aa5 hl
 unfold B7
 have key:∃j,Cr (l,v)=some j∧(0≤j↔v∈l):=by
  unfold Cr
  refine AH (fun i:Int=>i) (Aa l) (fun i=>∀j a,j<i→idx l j=some a→a≠v) (fun r:Option Int=>∃j,r=some j∧(0≤j↔v∈l)) (by omega) (by simp) (Ar l) (fun j a h1 h2=>by have:=(An h2).1;omega) (fun i hI i0 i1=>?_) (fun i hI hi=>?_)
  ·have i0:0≤i:=i0
   have i1:i<Aa l:=i1
   obtain⟨a,ha,ham⟩:=Au i0 i1
   try simp only
   rw[Af _ _ (decide_eq_true i1),Ab _ _ ha]
   by_cases c:v=a
   ·rw[Af _ _ (by simpa using c)]
    exact ⟨i,rfl,fun _=>by rw[c];exact ham,fun _=>i0⟩
   ·rw[Ag _ _ (by simpa using c),Ak (i+1) (by omega) (by omega)]
    refine ⟨rfl,fun j b h1 h2=>?_⟩
    by_cases e:j=i
    ·subst e;rw[ha] at h2;cases h2;exact fun h=>c h.symm
    ·exact hI j b (by omega) h2
  ·have hi:i=Aa l:=hi
   try simp only
   rw[Ag _ _ (decide_eq_false (by omega))]
   refine ⟨-1,rfl,fun h=>by omega,fun h=>?_⟩
   obtain⟨j,hj⟩:=D9 h
   exact absurd rfl (hI j v (by have:=(An hj).2.1;omega) hj)
 obtain⟨j,h1,h2⟩:=key
 rw[Ab _ _ h1]
 congr 1
 exact decide_eq_decide.2 h2
theorem Agv {now:Aq} (hl:Aa now.1≤1000):Ij now=some (now.1.map (·.1)):=by
 have hn:=Ar now.1
 unfold Ij
 rw[Af _ _ (J5 hn (by omega))]
 refine AH (fun z:Int×List Int=>z.1) (Aa now.1) (fun z=>Aa z.2=Aa now.1∧∀j,0≤j→j<z.1→idx z.2 j=idx (now.1.map (·.1)) j) (fun r=>r=some (now.1.map (·.1))) (by omega) (by simp) hn ⟨Bn hn _,fun j j0 j1=>absurd j1 (by simp only;omega)⟩ (fun z hI i0 i1=>?_) (fun z hI hz=>?_)
 ·obtain⟨i,out⟩:=z
  obtain⟨hlen,hj⟩:=hI
  simp only at i0 i1 hlen hj
  obtain⟨x,hx,_⟩:=Au i0 i1
  obtain⟨y,hy,_⟩:=Au (l:=out) i0 (by omega)
  try simp only
  rw[Af _ _ (decide_eq_true i1),Ab _ _ hx,Ab _ _ hy,Ab _ _ hy,Ak (i+1) (by omega) (by omega)]
  refine ⟨rfl,by (try simp only);rw[BC];exact hlen,fun j j0 j1=>?_⟩
  simp only at j1 ⊢
  rw[Dm i0 (by omega)]
  split
  ·rename_i e;rw[e,N5,hx];rfl
  ·exact hj j j0 (by omega)
 ·obtain⟨i,out⟩:=z
  obtain⟨hlen,hj⟩:=hI
  simp only at hz hlen hj
  try simp only
  rw[Ag _ _ (decide_eq_false (by omega))]
  show some out = _
  rw[GU (m:=now.1.map (·.1)) (by rw[IQ];exact hlen) fun j j0 j1=>hj j j0 (by omega)]
def JV (s:Ad) (l:List Int):Prop:=∃a b x y,b<a∧idx l a=some x∧idx l b=some y∧x≠1∧y≠1∧BE s a b=true
theorem AcW {s:Ad} {l:List Int} (h:SOK s) (hl:Aa l=Aa s.2.1):∃r,E3 (s,l)=some r∧(r=true↔JV s l):=by
 have n2:=h.n2
 unfold E3
 refine fU (Aa l) (fun a=>a) (fun a b=>∃x y,idx l a=some x∧idx l b=some y∧x≠1∧y≠1∧BE s a b=true) (some true) (some false) (fun r=>∃b,r=some b∧(b=true↔JV s l)) (bad2:=.done none) (B:=fun x1 x3=>(cnd (decide (x3<x1))
(Ae (idx l x3) (.done (.done none)) (fun x4 =>
(AD (Dq x4) (fun y1 =>
(cnd (!y1)
(Ae (De (s,(x1,x3))) (.done (.done none)) (fun x5 =>
(cnd x5
(.done (.done (some true)))
(.next (wr .i64 (x3+1))))))
(.next (wr .i64 (x3+1))))))))
(.done (.next (wr .i64 (x1+1)))))) (Ar l) (by omega) (fun a a0 a1=>⟨a0,by omega⟩) (fun a a0 a1=>?_) (by (try simp only);rw[Ag _ _ (decide_eq_false (by omega))]) (fun a a0 a1=>by (try simp only);rw[Ag _ _ (decide_eq_false (by omega))]) (fun ⟨a,b,a0,a1,b0,b1,x,y,q⟩=>⟨true,rfl,fun _=>⟨a,b,x,y,b1,q⟩,fun _=>rfl⟩) (fun hno=>⟨false,rfl,fun h=>(by cases h),fun ⟨a,b,x,y,q0,q1,q2,q3⟩=>absurd ⟨x,y,q1,q2,q3⟩ (hno a b (An q1).1 (An q1).2.1 (An q2).1 q0)⟩)
 obtain⟨x,hx,_⟩:=Au a0 a1
 try simp only
 rw[Af _ _ (decide_eq_true a1),Ab _ _ hx,AJ]
 by_cases c:x=1
 ·rw[Af _ _ (show Dq x=true by rw[c];rfl)]
  exact .inl ⟨rfl,fun b b0 b1 ⟨x',y,q1,q2,q3,_⟩=>by rw[hx] at q1;cases q1;exact q3 c⟩
 ·rw[Ag _ _ (show Dq x=false by unfold Dq;simpa using c)]
  refine .inr ⟨rfl,fun b b0 b1=>?_⟩
  obtain⟨y,hy,_⟩:=Au (l:=l) b0 (by omega)
  rw[Af _ _ (decide_eq_true b1),Ab _ _ hy,AJ]
  by_cases c2:y=1
  ·rw[Ag _ _ (show (!(Dq y))=false by rw[c2];rfl)]
   exact .inr ⟨fun ⟨x',y',q1,q2,q3,q4,_⟩=>by rw[hy] at q2;cases q2;exact q4 c2,rfl⟩
  ·rw[Af _ _ (show (!(Dq y))=true by unfold Dq;simpa using c2),Ab _ _ (bQ h a0 (by omega) b0 (by omega))]
   cases c3:BE s a b with
   |true=>rw[Af _ _ rfl];exact .inl ⟨⟨x,y,hx,hy,c,c2,rfl⟩,rfl⟩
   |false =>
    rw[Ag _ _ rfl]
    exact .inr ⟨fun ⟨_,_,_,_,_,_,q⟩=>(by cases q),rfl⟩
def Oc (s:Ad) (ws:List A5) (l:List Int):Prop:=∃i k w v,idx ws i=some w∧idx l i=some 2∧w.1≠2∧idx ws k=some v∧BE s k i=true∧v.2.2<betw s k i
theorem AfI {s:Ad} {now:Aq} {l:List Int} (h:SOK s) (hw:Aa now.1=Aa s.2.1) (hl:Aa l=Aa s.2.1):∃r,F6 (s,(now,l))=some r∧(r=true↔Oc s now.1 l):=by
 have n2:=h.n2
 have hwn:=Ar now.1
 unfold F6
 refine fU (Aa now.1) (fun _=>Aa now.1) (fun i k=>∃w v,idx now.1 i=some w∧idx l i=some 2∧w.1≠2∧idx now.1 k=some v∧BE s k i=true∧v.2.2<betw s k i) (some true) (some false) (fun r=>∃b,r=some b∧(b=true↔Oc s now.1 l)) (bad2:=.done none) (B:=fun x1 x4=>(cnd (decide (x4<(Aa now.1)))
(Ae (idx now.1 x4) (.done (.done none)) (fun x5 =>
(Ae (De (s,(x4,x1))) (.done (.done none)) (fun x6 =>
(cnd x6
(Ae (DE (s,(x4,x1))) (.done (.done none)) (fun x7 =>
(cnd (decide (x5.2.2<x7))
(.done (.done (some true)))
(.next (wr .i64 (x4+1))))))
(.next (wr .i64 (x4+1))))))))
(.done (.next (wr .i64 (x1+1)))))) hwn (by omega) (fun a a0 a1=>⟨hwn,by omega⟩) (fun a a0 a1=>?_) (by (try simp only);rw[Ag _ _ (decide_eq_false (by omega))]) (fun a a0 a1=>by (try simp only);rw[Ag _ _ (decide_eq_false (by omega))]) (fun ⟨a,b,a0,a1,b0,b1,w,v,q⟩=>⟨true,rfl,fun _=>⟨a,b,w,v,q⟩,fun _=>rfl⟩) (fun hno=>⟨false,rfl,fun h=>(by cases h),fun ⟨i,k,w,v,q1,q2,q3,q4,q5⟩=>absurd ⟨w,v,q1,q2,q3,q4,q5⟩ (hno i k (An q1).1 (An q1).2.1 (An q4).1 (An q4).2.1)⟩)
 obtain⟨w,hx,_⟩:=Au a0 a1
 obtain⟨x,hx2,_⟩:=Au (l:=l) a0 (by omega)
 try simp only
 rw[Af _ _ (decide_eq_true a1),Ab _ _ hx,Ab _ _ hx2]
 by_cases c:x=2∧w.1≠2
 ·rw[Ag _ _ (by simp[c.1,c.2])]
  refine .inr ⟨rfl,fun b b0 b1=>?_⟩
  obtain⟨v,hv,_⟩:=Au (l:=now.1) b0 b1
  rw[Af _ _ (decide_eq_true b1),Ab _ _ hv,Ab _ _ (bQ h b0 (by omega) a0 (by omega))]
  cases c3:BE s b a with
  |true =>
   rw[Af _ _ rfl,Ab _ _ (eZ h b0 (by omega) a0 (by omega))]
   by_cases c4:v.2.2<betw s b a
   ·rw[Af _ _ (decide_eq_true c4)]
    exact .inl ⟨⟨w,v,hx,by rw[hx2,c.1],c.2,hv,rfl,c4⟩,rfl⟩
   ·rw[Ag _ _ (decide_eq_false c4)]
    exact .inr ⟨fun ⟨_,v',_,_,_,q4,_,q6⟩=>by rw[hv] at q4;cases q4;exact c4 q6,rfl⟩
  |false =>
   rw[Ag _ _ rfl]
   exact .inr ⟨fun ⟨_,_,_,_,_,_,q,_⟩=>(by cases q),rfl⟩
 ·rw[Af _ _ (by
   simp only[Bool.or_eq_true,Bool.not_eq_true',beq_eq_false_iff_ne,ne_eq,beq_iff_eq]
   by_cases e:x=2
   ·exact .inr (Decidable.not_not.1 fun hh=>c ⟨e,hh⟩)
   ·exact .inl e)]
  exact .inl ⟨rfl,fun b b0 b1 ⟨w',v,q1,q2,q3,_⟩=>by rw[hx] at q1;cases q1;rw[hx2] at q2;cases q2;exact c ⟨rfl,q3⟩⟩
def HO:List CC→List A5→List Int→Int
 |g::gs,w::ws,a::as=>if DI (g,(w,a))≠0 then DI (g,(w,a)) else HO gs ws as
 |_,_,_=>0
theorem Af6 {A:Type} {bad:A} {F:Int→Step Int A} {gs:List CC} {ws:List A5} {l:List Int} (fl:Bool) (out:Int→A) (R:A) (hg:Aa gs=Aa l) (hw:Aa ws=Aa l) (hl:Aa l≤1000)
 (hF:∀i g w a,0≤i→i<Aa l→idx gs i=some g→idx ws i=some w→idx l i=some a→F i=cnd ((!(DI (g,(w,a))==0))&&(!fl)) (.done (out (DI (g,(w,a))))) (.next (wr .i64 (i+1)))) (hFe:F (Aa l)=.done R) :
 iter bad F AE 0=if fl=false∧HO gs ws l≠0 then out (HO gs ws l) else R:=by
 refine AH (fun i:Int=>i) (Aa l) (fun i=>fl=false→HO gs ws l=HO (gs.drop i.toNat) (ws.drop i.toNat) (l.drop i.toNat)) (fun r=>r=if fl=false∧HO gs ws l≠0 then out (HO gs ws l) else R) (by omega) (by simp) (Ar l) (fun _=>rfl) (fun i hI i0 i1=>?_) (fun i hI hi=>?_)
 ·have i0:0≤i:=i0
  have i1:i<Aa l:=i1
  obtain⟨g,hg',_⟩:=Au (l:=gs) i0 (by omega)
  obtain⟨w,hw',_⟩:=Au (l:=ws) i0 (by omega)
  obtain⟨a,ha,_⟩:=Au i0 i1
  rw[hF i g w a i0 i1 hg' hw' ha]
  by_cases c:fl=false∧DI (g,(w,a))≠0
  ·rw[Af _ _ (by simp[c.1,c.2])]
   have e:=hI c.1
   rw[Gi hg',Gi hw',Gi ha,HO,if_pos c.2] at e
   show out _ = _
   rw[e,if_pos c]
  ·rw[Ag _ _ (by
    simp only[Bool.and_eq_false_iff,Bool.not_eq_false',beq_iff_eq]
    cases fl with
    |true=>exact .inr rfl
    |false=>exact .inl (Decidable.not_not.1 fun hh=>c ⟨rfl,hh⟩)),Ak (i+1) (by omega) (by omega)]
   refine ⟨rfl,fun hfl=>?_⟩
   have e:=hI hfl
   rw[Gi hg',Gi hw',Gi ha,HO,if_neg (fun hh=>c ⟨hfl,hh⟩)] at e
   exact e
 ·have hi:i=Aa l:=hi
  subst hi
  rw[hFe]
  show R = _
  rw[if_neg]
  rintro⟨hfl,hne⟩
  have e:=hI hfl
  rw[RE (l:=l) (by omega)] at e
  apply hne
  rw[e]
  unfold HO
  split
  ·rename_i h3;cases h3
  ·rfl
open Classical in
noncomputable def HA (s:Ad) (now:Aq) (l:List Int):Int :=
 if Aa l≠Aa s.2.1 then 1 else if Cf l=true then 0 else if 4∈l then 7 else
 if (now.2.2=true∨0<now.2.1)∧∃a∈l,a≠1 then 8 else
 if now.2.2=false∧HO s.2.1 now.1 l≠0 then HO s.2.1 now.1 l else
 if JV s l then 3 else if Oc s now.1 l then 4 else 0
theorem AeX {A:Type} {bad:A} {l:List Int} {F:Int→Step Int A} (P:A→Prop) (yes no:A) (hl:l.length≤maxLen)
 (hF:∀i a,0≤i→i<Aa l→idx l i=some a→F i=cnd (!(Dq a)) (.done yes) (.next (wr .i64 (i+1)))) (hFe:∀i,¬i<Aa l→F i=.done no) (hy:(∃a∈l,a≠1)→P yes) (hn:¬(∃a∈l,a≠1)→P no):P (iter bad F AE 0):=by
 refine DV (l:=l) P (fun _ a=>a=1) yes no hl (fun i a h0 hi ha=>?_) hFe (fun h=>hn fun ⟨a,ha,hne⟩=>by obtain⟨i,hi⟩:=D9 ha;exact hne (h i a hi)) (fun h=>hy ?_)
 ·rw[hF i a h0 hi ha]
  by_cases c:a=1
  ·exact .inl ⟨c,by rw[Ag _ _ (show (!(Dq a))=false by rw[c];rfl)]⟩
  ·exact .inr ⟨c,by rw[Af _ _ (show (!(Dq a))=true by unfold Dq;simpa using c)]⟩
 ·apply Classical.byContradiction
  intro hn
  exact h fun i a ha=>Classical.byContradiction fun hne=>hn ⟨a,(An ha).2.2,hne⟩
theorem AfR {s:Ad} {now:Aq} {l:List Int} (h:SOK s) (hw:Aa now.1=Aa s.2.1) (hl:l.length≤maxLen):Ih (s,(now,l))=some (HA s now l):=by
 have n2:=h.n2
 unfold Ih HA
 by_cases c1:Aa l=Aa s.2.1
 ·rw[Ag _ _ (by simpa using c1),if_neg (by simpa using c1),Ab _ _ (cH hl),AT]
  by_cases c2:Cf l=true
  ·rw[if_pos c2,if_pos c2]
  ·rw[if_neg c2,if_neg c2,Ab _ _ (Aai hl)]
   by_cases c3:4∈l
   ·rw[Af _ _ (decide_eq_true c3),if_pos c3]
   ·rw[Ag _ _ (decide_eq_false c3),if_neg c3,FO]
    have hR:iter none (fun x4:Int =>
(cnd (decide (x4<(Aa now.1)))
(Ae (idx now.1 x4) (.done none) (fun x5 =>
(Ae (idx s.2.1 x4) (.done none) (fun x6 =>
(Ae (idx l x4) (.done none) (fun x7 =>
(AD (DI (x6,(x5,x7))) (fun y =>
(cnd ((!(y==0))&&(!now.2.2))
(.done (some y))
(.next (wr .i64 (x4+1))))))))))))
(.done (Ae (E3 (s,l)) none (fun x5 =>
(cnd x5
(some 3)
(Ae (F6 (s,(now,l))) none (fun x6 =>
(cnd x6
(some 4)
(some 0)))))))))) AE 0=some (if now.2.2=false∧HO s.2.1 now.1 l≠0 then HO s.2.1 now.1 l else @ite _ (JV s l) (Classical.propDecidable _) 3 (@ite _ (Oc s now.1 l) (Classical.propDecidable _) 4 0)):=by
     obtain⟨r,r1,r2⟩:=AcW h c1
     obtain⟨q,q1,q2⟩:=AfI h hw c1
     have hm:=Af6 (bad:=none) (gs:=s.2.1) (ws:=now.1) (l:=l) (F:=fun x4:Int =>
(cnd (decide (x4<(Aa now.1)))
(Ae (idx now.1 x4) (.done none) (fun x5 =>
(Ae (idx s.2.1 x4) (.done none) (fun x6 =>
(Ae (idx l x4) (.done none) (fun x7 =>
(AD (DI (x6,(x5,x7))) (fun y =>
(cnd ((!(y==0))&&(!now.2.2))
(.done (some y))
(.next (wr .i64 (x4+1))))))))))))
(.done (Ae (E3 (s,l)) none (fun x5 =>
(cnd x5
(some 3)
(Ae (F6 (s,(now,l))) none (fun x6 =>
(cnd x6
(some 4)
(some 0))))))))))  now.2.2 (fun y=>some y) (some (@ite _ (JV s l) (Classical.propDecidable _) 3 (@ite _ (Oc s now.1 l) (Classical.propDecidable _) 4 0))) (by omega) (by omega) (by omega) (fun i g w a i0 i1 hg hw' ha=>by
      rw[Af _ _ (decide_eq_true (by omega)),Ab _ _ hw',Ab _ _ hg,Ab _ _ ha,AJ]) (by
      rw[Ag _ _ (decide_eq_false (by omega)),Ab _ _ r1,Ab _ _ q1,AT,AT]
      congr 1
      by_cases cm:JV s l
      ·rw[if_pos (r2.2 cm),if_pos cm]
      ·rw[if_neg (fun hh=>cm (r2.1 hh)),if_neg cm]
       by_cases cc:Oc s now.1 l
       ·rw[if_pos (q2.2 cc),if_pos cc]
       ·rw[if_neg (fun hh=>cc (q2.1 hh)),if_neg cc])
     rw[hm]
     split<;>rfl
    simp only[hR]
    rw[AT]
    split
    ·rename_i c4
     have c4:now.2.2=true∨0<now.2.1:=by simpa using c4
     refine AeX (l:=l) (fun r=>r=some _) (some 8) (some (if now.2.2=false∧HO s.2.1 now.1 l≠0 then HO s.2.1 now.1 l else @ite _ (JV s l) (Classical.propDecidable _) 3 (@ite _ (Oc s now.1 l) (Classical.propDecidable _) 4 0))) hl (fun i a i0 i1 ha=>?_) (fun i hi=>?_) (fun hex=>?_) (fun hne=>?_)
     ·rw[Af _ _ (decide_eq_true i1),Ab _ _ ha,AJ,decide_eq_true i0];rfl
     ·rw[Ag _ _ (decide_eq_false hi)];rfl
     ·exact (congrArg some (if_pos ⟨c4,hex⟩)).symm
     ·exact (congrArg some (if_neg (fun hh=>hne hh.2))).symm
    ·rename_i c4
     have c4:¬(now.2.2=true∨0<now.2.1):=by simpa using c4
     exact (congrArg some (if_neg (fun hh=>c4 hh.1))).symm
 ·rw[Af _ _ (by simpa using c1),if_pos c1]
def nxt (w:A5) (a:Int):A5:=GH ((0,(0,0)),(w,a))
theorem Ahj (g:CC) (w:A5) (a:Int):GH (g,(w,a))=nxt w a:=rfl
def Di (s:Ad) (now:Aq) (l:List Int):Aq :=
 (List.zipWith nxt now.1 l,(if Cf l=true then grt s else if now.2.2=true then max 0 (grt s-1) else max 0 (now.2.1-1),Cf l))
structure kG (s:Ad) (now:Aq):Prop where
 n:Aa now.1=Aa s.2.1
 lo:0≤now.2.1
 hi:now.2.1≤1048576
theorem Ab9 {s:Ad} {now:Aq} {l:List Int} (h:SOK s) (hs:kG s now) (hl:Aa l=Aa s.2.1):kG s (Di s now l):=by
 have g:=JM h
 have g1:=g.lo;have g2:=g.hi
 have h1:=hs.lo;have h2:=hs.hi
 unfold Di
 refine ⟨by (try simp only);rw[H6 (by rw[hs.n,hl])];exact hs.n,?_,?_⟩
 ·simp only;repeat' split
  all_goals omega
 ·simp only;repeat' split
  all_goals omega
theorem TT {l:List A5} (hl:Aa l≤1000):FX l=some l:=by
 unfold FX
 rw[Af _ _ (by rw[Bool.true_and];exact room_le (by omega))]
 rfl
theorem tQ {s:Ad} {ws:List A5} {l:List Int} {A:Type} {bad:A} {F:Int×List A5→Step (Int×List A5) A} (K:List A5→A) (P:A→Prop) (h:SOK s) (hw:Aa ws=Aa s.2.1) (hl:Aa l=Aa s.2.1)
 (hF:∀i out g w a y,0≤i→i<Aa ws→idx s.2.1 i=some g→idx out i=some w→idx l i=some a→y=nxt w a→F (i,out)=.next (wr .i64 (i+1),Bc out i y)) (hFe:∀out,F (Aa ws,out)=.done (K out)) (hK:P (K (List.zipWith nxt ws l))):P (iter bad F AE (0,ws)):=by
 have n2:=h.n2
 refine AH (fun z:Int×List A5=>z.1) (Aa ws) (fun z=>Aa z.2=Aa ws∧(∀j,0≤j→j<z.1→idx z.2 j=idx (List.zipWith nxt ws l) j)∧∀j,z.1≤j→idx z.2 j=idx ws j) P (by omega) (by simp) (Ar ws) ⟨rfl,fun j j0 j1=>absurd j1 (by simp only;omega),fun j _=>rfl⟩ (fun z hI i0 i1=>?_) (fun z hI hz=>?_)
 ·obtain⟨i,out⟩:=z
  obtain⟨hlen,hj,hk⟩:=hI
  simp only at i0 i1 hlen hj hk
  obtain⟨g,hg,_⟩:=Au (l:=s.2.1) i0 (by omega)
  obtain⟨w,hw',_⟩:=Au (l:=ws) i0 i1
  obtain⟨a,ha,_⟩:=Au (l:=l) i0 (by omega)
  rw[hF i out g w a _ i0 i1 hg (by rw[hk i (by omega)];exact hw') ha rfl,Ak (i+1) (by omega) (by omega)]
  refine ⟨rfl,by (try simp only);rw[BC];exact hlen,fun j j0 j1=>?_,fun j hij=>?_⟩
  ·simp only at j1 ⊢
   rw[Dm i0 (by omega)]
   split
   ·rename_i e;rw[e,Kx hw' ha]
   ·exact hj j j0 (by omega)
  ·simp only at hij ⊢
   rw[Dm i0 (by omega),if_neg (by omega)]
   exact hk j (by omega)
 ·obtain⟨i,out⟩:=z
  obtain⟨hlen,hj,_⟩:=hI
  simp only at hz hlen hj
  subst hz
  rw[hFe]
  have:out=List.zipWith nxt ws l:=GU (by rw[H6 (by rw[hw,hl])];exact hlen) fun j j0 j1=>hj j j0 (by omega)
  rw[this];exact hK
theorem Aee {s:Ad} {now:Aq} {l:List Int} (h:SOK s) (hs:kG s now) (hl:Aa l=Aa s.2.1):Hn (s,(now,l))=some (Di s now l):=by
 have n2:=h.n2
 have hwn:=hs.n
 have s1:=hs.lo;have s2:=hs.hi
 have g:=JM h
 have g1:=g.lo;have g2:=g.hi
 have hlm:l.length≤maxLen:=by unfold Aa at hl n2;unfold maxLen;omega
 unfold Hn
 rw[Ab _ _ (TT (l:=now.1) (by omega)),Ab _ _ (cH hlm)]
 refine tQ (s:=s) (ws:=now.1) (l:=l) (fun out=>cnd (Cf l) (Ae (BU s) none (fun x=>some (out,(x,Cf l)))) (cnd now.2.2 (Ae (BU s) none (fun x=>some (out,(Cw 0 (wr .i64 (x-1)),Cf l)))) (some (out,(Cw 0 (wr .i64 (now.2.1-1)),Cf l))))) (fun r=>r=some (Di s now l)) h hwn hl (fun i out g w a y i0 i1 hg hw ha hy=>?_) (fun out=>?_) ?_
 ·try simp only
  rw[Af _ _ (decide_eq_true i1),Ab _ _ hw,Ab _ _ hw,Ab _ _ hg,Ab _ _ ha,AJ,Ab _ _ hw,Ab _ _ hw,Ahj,hy]
 ·try simp only
  rw[Ag _ _ (decide_eq_false (by omega))]
 ·try simp only
  unfold Di
  by_cases c:Cf l=true
  ·rw[Af _ _ c,Ab _ _ (kB h),if_pos c]
  ·rw[Ag _ _ (Bool.eq_false_iff.2 c),if_neg c]
   by_cases c2:now.2.2=true
   ·rw[Af _ _ c2,Ab _ _ (kB h),if_pos c2,D7,Ak (grt s-1) (by omega) (by omega)]
   ·rw[Ag _ _ (Bool.eq_false_iff.2 c2),if_neg c2,D7,Ak (now.2.1-1) (by omega) (by omega)]
noncomputable def chk (s:Ad):Aq→Int→List (List Int)→Int×Int
 |_,_,[]=>(-1,0)
 |now,i,l::r=>@ite _ (HA s now l≠0) (Classical.propDecidable _) (i,HA s now l) (chk s (Di s now l) (i+1) r)
theorem Acz {s:Ad} {now:Aq} {l:List Int} (h:HA s now l=0):Aa l=Aa s.2.1:=by
 unfold HA at h
 split at h
 ·cases h
 ·rename_i hh;exact Decidable.not_not.1 hh
theorem Aep {s:Ad} (h:SOK s):kG s (Lw s):=by
 have g:=JM h
 have n1:=h.n1
 exact ⟨by unfold Lw;simp only;exact Bn (by omega) _,g.lo,g.hi⟩
theorem wK {s:Ad} {e:Int} (hok:e=0→SOK s) (h:Aw s=some e):Ig s=some (if e≠0 then (([],(0,false)),e) else (Lw s,0)):=by
 unfold Ig
 rw[Ab _ _ h]
 by_cases h0:e=0
 ·subst h0;rw[Ag _ _ (by rfl),if_neg (by simp),Ab _ _ (AfS (hok rfl))]
 ·rw[Af _ _ (by simp[h0]),if_pos h0]
structure kE (s:Ad) (now:Aq):Prop where
 st:kG s now
 ok:Cf (now.1.map (·.1))=true∨¬JV s (now.1.map (·.1))
theorem AhP {s:Ad} {now:Aq} (h:SOK s) (hl:Aa now.1≤1000):∃r,Kd (s,now)=some r∧(r=true↔kE s now):=by
 have hsl:(now.1.map (·.1)).length≤maxLen:=by
  have:=IQ (l:=now.1) (f:=fun x=>x.1)
  unfold Aa at this hl;unfold maxLen;omega
 unfold Kd
 rw[Ab _ _ (Agv hl),IQ]
 by_cases c:Aa now.1=Aa s.2.1∧0≤now.2.1∧now.2.1≤1048576
 ·rw[Af _ _ (by simp[c]),Ab _ _ (cH hsl)]
  cases cf:Cf (now.1.map (·.1)) with
  |true=>exact ⟨true,rfl,fun _=>⟨⟨c.1,c.2.1,c.2.2⟩,.inl cf⟩,fun _=>rfl⟩
  |false =>
   obtain⟨r,r1,r2⟩:=AcW (l:=now.1.map (·.1)) h (by rw[IQ];exact c.1)
   rw[Ag _ _ rfl,Ab _ _ r1]
   refine ⟨!r,rfl,?_⟩
   rw[Bool.not_eq_true']
   refine ⟨fun hr=>⟨⟨c.1,c.2.1,c.2.2⟩,.inr fun hm=>by rw[r2.2 hm] at hr;cases hr⟩,fun hm=>?_⟩
   cases hr:r with
   |false=>rfl
   |true =>
    rcases hm.ok with h1|h1
    ·rw[cf] at h1;cases h1
    ·exact absurd (r2.1 hr) h1
 ·rw[Ag _ _ (by
   apply Bool.eq_false_iff.2
   intro hh
   simp only[Bool.and_eq_true,beq_iff_eq,decide_eq_true_eq] at hh
   exact c ⟨hh.1.1,hh.1.2,hh.2⟩)]
  exact ⟨false,rfl,fun h=>(by cases h),fun hm=>absurd ⟨hm.st.n,hm.st.lo,hm.st.hi⟩ c⟩
end Go.Proofs.YtmmkfcpdfnjgjaaGreatDoor
namespace Go.Proofs.YtmmkfcpdfnjgjaaGreatDoor
open Go.Den
theorem Wn (n:Int):0≤AP n∧AP n≤1048576:=by
 unfold AP;rw[DB,D7];omega
end Go.Proofs.YtmmkfcpdfnjgjaaGreatDoor
namespace Go.Proofs.YtmmkfcpdfnjgjaaGreatDoor
open Go.Den
end Go.Proofs.YtmmkfcpdfnjgjaaGreatDoor
namespace Go.Proofs.YtmmkfcpdfnjgjaaGreatDoor
open Go.Den
open Classical in
noncomputable def JR (e:Int) (s:Ad) (now:Aq) (l:List Int):Aq×Int×Int :=
 if e≠0 then (([],(0,false)),(0,e)) else if ¬kE s now then (([],(0,false)),(0,8)) else
 if HA s now l≠0 then (now,(HA s now l,0)) else (Di s now l,(0,0))
theorem Z5 {s:Ad} {now:Aq} {l:List Int} {e:Int} (hok:e=0→SOK s) (h:Aw s=some e) (hw:Aa now.1≤1000) (hl:l.length≤maxLen):Ez (s,(now,l))=some (JR e s now l):=by
 unfold Ez JR
 rw[Ab _ _ h]
 by_cases h0:e=0
 ·subst h0
  have hk:=hok rfl
  obtain⟨r,r1,r2⟩:=AhP hk hw
  rw[Ag _ _ (by rfl),if_neg (by simp),Ab _ _ r1]
  by_cases c:kE s now
  ·rw[Ag _ _ (by rw[r2.2 c];rfl),if_neg (by simpa using c),Ab _ _ (AfR hk c.st.n hl)]
   by_cases c2:HA s now l=0
   ·rw[Ag _ _ (by simp[c2]),if_neg (by simp[c2]),Ab _ _ (Aee hk c.st (Acz c2))]
   ·rw[Af _ _ (by simp[c2]),if_pos c2,Ab _ _ (TT hw)]
  ·have:r=false:=by
    cases hr:r with
    |false=>rfl
    |true=>exact absurd (r2.1 hr) c
   rw[Af _ _ (by rw[this];rfl),if_pos c]
 ·rw[Af _ _ (by simp[h0]),if_pos h0]
end Go.Proofs.YtmmkfcpdfnjgjaaGreatDoor
namespace Go.Proofs.YtmmkfcpdfnjgjaaGreatDoor
open Go.Den
theorem dU {s:Ad} {e:Int} (hok:e=0→SOK s) (h:Aw s=some e):Gg s=some (if e≠0 then (0,e) else (grt s,0)):=by
 unfold Gg
 rw[Ab _ _ h]
 by_cases h0:e=0
 ·subst h0;rw[Ag _ _ (by rfl),if_neg (by simp),Ab _ _ (kB (hok rfl))]
 ·rw[Af _ _ (by simp[h0]),if_pos h0]
end Go.Proofs.YtmmkfcpdfnjgjaaGreatDoor
namespace Go.Proofs.YtmmkfcpdfnjgjaaGreatDoor
open Go.Den
def bw (g:CC) (w:A5) (a:Int):Int:=if w.1=1 then 1 else DW (g,(w,a))
def Lp (gs:List CC) (ws:List A5) (asks:List Int):List Int:=List.zipWith (fun (gw:CC×A5) a=>bw gw.1 gw.2 a) (List.zipWith Prod.mk gs ws) asks
theorem Yc {gs:List CC} {ws:List A5} {asks:List Int} {i:Int} {g:CC} {w:A5} {a:Int} (hg:idx gs i=some g) (hw:idx ws i=some w) (ha:idx asks i=some a):idx (Lp gs ws asks) i=some (bw g w a) :=
 Kx (Kx hg hw) ha
theorem Rv {gs:List CC} {ws:List A5} {asks:List Int} (h1:Aa ws=Aa gs) (h2:Aa asks=Aa gs):Aa (Lp gs ws asks)=Aa gs:=by
 unfold Lp
 rw[H6 (by rw[H6 h1.symm,h2]),H6 h1.symm]
def Blk (s:Ad) (ws:List A5) (out:List Int) (i:Int):Prop:=∃k,0≤k∧k<Aa ws∧BE s i k=true∧(el out k≠1∨(el ws k).2.2<betw s k i)
def II (s:Ad) (ws:List A5) (asks out:List Int) (i:Int):Prop:=(el ws i).1=1∧el asks i=2∧¬Blk s ws out i
open Classical in
noncomputable def pass (s:Ad) (ws:List A5) (asks:List Int):Nat→Int→List Int→List Int
 |0,_,out=>out
 |k+1,i,out=>pass s ws asks k (i+1) (if II s ws asks out i then Bc out i 2 else out)
open Classical in
noncomputable def Cz (s:Ad) (now:Aq) (asks:List Int):List Int :=
 if Cf asks=true then asks else if now.2.2=true∨0<now.2.1 then AQ (Aa asks) 1 else pass s now.1 asks (Aa asks).toNat 0 (Lp s.2.1 now.1 asks)
theorem Zt {n v:Int} (h0:0≤n) (h1:n≤100000):FN (n,v)=some (AQ n v):=by
 unfold FN
 rw[Af _ _ (J5 h0 (by omega))]
 refine AH (fun z:Int×List Int=>z.1) n (fun z=>Aa z.2=n∧∀j,0≤j→j<z.1→idx z.2 j=some v) (fun r=>r=some (AQ n v)) (by omega) (by simp) h0 ⟨Bn h0 _,fun j j0 j1=>absurd j1 (by simp only;omega)⟩ (fun z hI i0 i1=>?_) (fun z hI hz=>?_)
 ·obtain⟨i,out⟩:=z
  obtain⟨hlen,hj⟩:=hI
  simp only at i0 i1 hlen hj
  obtain⟨y,hy,_⟩:=Au (l:=out) i0 (by omega)
  try simp only
  rw[Af _ _ (decide_eq_true (by rw[Bn h0];exact i1)),Ab _ _ hy,Ab _ _ hy,Ak (i+1) (by omega) (by omega)]
  refine ⟨rfl,by (try simp only);rw[BC];exact hlen,fun j j0 j1=>?_⟩
  simp only at j1 ⊢
  rw[Dm i0 (by omega)]
  split
  ·rfl
  ·exact hj j j0 (by omega)
 ·obtain⟨i,out⟩:=z
  obtain⟨hlen,hj⟩:=hI
  simp only at hz hlen hj
  try simp only
  rw[Ag _ _ (decide_eq_false (by rw[Bn h0];omega))]
  have ho:out=AQ n v:=GU (by rw[Bn h0];exact hlen) fun j j0 j1=>by rw[hj j j0 (by omega),KO j0 (by omega)]
  rw[ho]
  exact rfl
theorem Aag {l:List Int} (hl:Aa l≤100000):Fp l=some l:=by
 unfold Fp
 rw[Af _ _ (by rw[Bool.true_and];exact room_le (by omega))]
 rfl
theorem Hj {l:List Int} {i:Int} (h0:0≤i) (h1:i<Aa l) (x j:Int):el (Bc l i x) j=if j=i then x else el l j:=by
 unfold el
 rw[Dm h0 h1]
 split<;>rfl
theorem Df {α:Type} [Inhabited α] {l:List α} {i:Int} {x:α} (h:idx l i=some x):el l i=x:=by unfold el;rw[h];rfl
theorem Adf {s:Ad} {ws:List A5} {asks base:List Int} {A:Type} {bad:A} {F:Int×List Int→Step (Int×List Int) A} (P:A→Prop) (hb:Aa base=Aa asks) (hn:Aa asks≤1000)
 (hF:∀i out,0≤i→i<Aa asks→Aa out=Aa asks→(II s ws asks out i→F (i,out)=.next (i+1,Bc out i 2))∧(¬II s ws asks out i→F (i,out)=.next (i+1,out)))
 (hK:∃r,F (Aa asks,pass s ws asks (Aa asks).toNat 0 base)=.done r∧P r):P (iter bad F AE (0,base)):=by
 refine AH (fun z:Int×List Int=>z.1) (Aa asks) (fun z=>Aa z.2=Aa asks∧pass s ws asks (Aa asks-z.1).toNat z.1 z.2=pass s ws asks (Aa asks).toNat 0 base) P (by omega) (by simp) (Ar asks) ⟨hb,by simp only;rw[Int.sub_zero]⟩ (fun z hI i0 i1=>?_) (fun z hI hz=>?_)
 ·obtain⟨i,out⟩:=z
  obtain⟨hlen,hp⟩:=hI
  simp only at i0 i1 hlen hp
  rw[show (Aa asks-i).toNat=(Aa asks-(i+1)).toNat+1 by omega,pass] at hp
  obtain⟨h1,h2⟩:=hF i out i0 i1 hlen
  by_cases c:II s ws asks out i
  ·rw[h1 c]
   rw[if_pos c] at hp
   exact ⟨rfl,by (try simp only);rw[BC];exact hlen,hp⟩
  ·rw[h2 c]
   rw[if_neg c] at hp
   exact ⟨rfl,hlen,hp⟩
 ·obtain⟨i,out⟩:=z
  obtain⟨hlen,hp⟩:=hI
  simp only at hz hlen hp
  subst hz
  rw[Int.sub_self] at hp
  have hp:out = _:=hp
  obtain⟨r,hr,hr2⟩:=hK
  rw[hp,hr]
  exact hr2
theorem Aaz {A:Type} {bad:A} {asks:List Int} (hlm:asks.length≤maxLen) (K:Bool→A):Dh K (fun k=>iter bad (fun x1:Int =>
(cnd (decide (x1<(Aa asks)))
(Ae (idx asks x1) (.done bad) (fun x2 =>
(cnd (!(x2==4))
(.done (k (!(decide (0≤x1)))))
(.next (wr .i64 (x1+1))))))
(.done (k (!(decide (0≤(-1:Int)))))))) AE 0)=K (Cf asks):=by
 rw[FO]
 have conv:(∀a∈asks,a=4)↔(∀(i:Int) a,idx asks i=some a→a=4):=⟨fun h i a ha=>h a (An ha).2.2,fun h a ha=>by obtain⟨i,hi⟩:=D9 ha;exact h i a hi⟩
 refine DV (l:=asks) (fun r:A=>r=K (Cf asks)) (fun _ a=>a=4) (K false) (K true) hlm (fun i a h0 hi ha=>?_) (fun i hi=>by (try simp only);rw[Ag _ _ (decide_eq_false hi)];try rfl) (fun h=>by unfold Cf;rw[decide_eq_true (conv.2 h)]) (fun h=>by unfold Cf;rw[decide_eq_false (fun hh=>h (conv.1 hh))])
 try simp only
 rw[Af _ _ (decide_eq_true hi),Ab _ _ ha]
 by_cases c:a=4
 ·exact .inl ⟨c,by rw[Ag _ _ (by simp[c])]⟩
 ·exact .inr ⟨c,by rw[Af _ _ (by simp[c]),decide_eq_true h0];rfl⟩
theorem yC {s:Ad} {now:Aq} {asks:List Int} (h:SOK s) (hw:Aa now.1=Aa s.2.1) (hl:Aa asks=Aa s.2.1):FZ (s,(now,asks))=some (Cz s now asks):=by
 have n1:=h.n1
 have n2:=h.n2
 have hlm:asks.length≤maxLen:=by unfold Aa at hl n2;unfold maxLen;omega
 unfold FZ Cz
 refine (Aaz hlm _).trans ?_
 try simp only
 by_cases c1:Cf asks=true
 ·rw[Af _ _ c1,if_pos c1,Ab _ _ (Aag (by omega))]
 rw[Ag _ _ (Bool.eq_false_iff.2 c1),if_neg c1]
 by_cases c2:now.2.2=true
 ·rw[Af _ _ c2,if_pos (.inl c2),Ab _ _ (Zt (by omega) (by omega))]
 rw[Ag _ _ (Bool.eq_false_iff.2 c2)]
 by_cases c3:0<now.2.1
 ·rw[Af _ _ (decide_eq_true c3),if_pos (.inr c3),Ab _ _ (Zt (by omega) (by omega))]
 rw[Ag _ _ (decide_eq_false c3),if_neg (fun hh=>hh.elim c2 c3),Ab _ _ (Zt (by omega) (by omega))]
 have hbl:=Rv (gs:=s.2.1) (ws:=now.1) (asks:=asks) hw hl
 refine AH (fun z:Int×List Int=>z.1) (Aa now.1) (fun z=>Aa z.2=Aa asks∧(∀j,0≤j→j<z.1→idx z.2 j=idx (Lp s.2.1 now.1 asks) j)∧∀j,z.1≤j→j<Aa asks→idx z.2 j=some 1) (fun r=>r=some _) (by omega) (by simp) (Ar _) ⟨Bn (by omega) _,fun j j0 j1=>absurd j1 (by simp only;omega),fun j j0 j1=>KO j0 j1 _⟩ (fun z hI i0 i1=>?_) (fun z hI hz=>?_)
 ·obtain⟨i,out⟩:=z
  obtain⟨hlen,hj,hk⟩:=hI
  simp only at i0 i1 hlen hj hk
  obtain⟨w,hw',_⟩:=Au i0 i1
  obtain⟨g,hg,_⟩:=Au (l:=s.2.1) i0 (by omega)
  obtain⟨a,ha,_⟩:=Au (l:=asks) i0 (by omega)
  have hbi:=Yc hg hw' ha
  have ho:=hk i (Int.le_refl _) (by omega)
  try simp only
  rw[Af _ _ (decide_eq_true i1),Ab _ _ hw',Ak (i+1) (by omega) (by omega)]
  by_cases c:w.1=1
  ·rw[Ag _ _ (by simp[c])]
   refine ⟨rfl,hlen,fun j j0 j1=>?_,fun j j0 j1=>hk j (by simp only at j0;omega) j1⟩
   simp only at j1 ⊢
   by_cases e:j=i
   ·rw[e,ho,hbi,bw,if_pos c]
   ·exact hj j j0 (by omega)
  ·rw[Af _ _ (by simpa using c),Ab _ _ hg,Ab _ _ ha,AJ,Ab _ _ ho,Ab _ _ ho]
   refine ⟨rfl,by (try simp only);rw[BC];exact hlen,fun j j0 j1=>?_,fun j j0 j1=>?_⟩
   ·simp only at j1 ⊢
    rw[Dm i0 (by omega)]
    split
    ·rename_i e;rw[e,hbi,bw,if_neg c]
    ·exact hj j j0 (by omega)
   ·simp only at j0 ⊢
    rw[Dm i0 (by omega),if_neg (by omega)]
    exact hk j (by omega) j1
 ·obtain⟨i,out⟩:=z
  obtain⟨hlen,hj,_⟩:=hI
  simp only at hz hlen hj
  try simp only
  rw[Ag _ _ (decide_eq_false (by omega))]
  have hob:out=Lp s.2.1 now.1 asks:=GU (by rw[hlen,hbl,hl]) fun j j0 j1=>hj j j0 (by omega)
  rw[hob]
  refine Adf (s:=s) (ws:=now.1) (asks:=asks) (fun r=>r=some _) (by rw[hbl,hl]) (by omega) (fun i out i0 i1 hlo=>?_) ⟨_,Ag _ _ (decide_eq_false (by simp only;omega)),rfl⟩
  obtain⟨w,hw',_⟩:=Au (l:=now.1) i0 (by omega)
  obtain⟨a,ha,_⟩:=Au (l:=asks) i0 i1
  obtain⟨o,ho,_⟩:=Au (l:=out) i0 (by omega)
  obtain⟨u,hu,_⟩:=Au (l:=s.2.2.1) i0 (by rw[h.la];omega)
  try simp only
  rw[Af _ _ (decide_eq_true (by omega)),Ab _ _ hw',Ak (i+1) (by omega) (by omega)]
  have ew:el now.1 i=w:=Df hw'
  have ea:el asks i=a:=Df ha
  by_cases d1:w.1=1
  ·rw[Af _ _ (by simpa using d1),Ab _ _ ha]
   by_cases d2:a=2
   ·rw[Af _ _ (by simpa using d2)]
    have hin:∀R:Step (Int×List Int) (Option (List Int)),(Blk s now.1 out i→R=.next (i+1,out))→(¬Blk s now.1 out i→R=.next (i+1,Bc out i 2))→(II s now.1 asks out i→R=.next (i+1,Bc out i 2))∧(¬II s now.1 asks out i→R=.next (i+1,out)):=fun R h1 h2=>⟨fun ht=>h2 ht.2.2,fun hnt=>h1 (Classical.byContradiction fun hb=>hnt ⟨by rw[ew];exact d1,by rw[ea];exact d2,hb⟩)⟩
    refine AH (fun z:Int×List Int=>z.1) (Aa now.1) (fun z=>z.2=out∧∀k,0≤k→k<z.1→¬(BE s i k=true∧(el out k≠1∨(el now.1 k).2.2<betw s k i))) (fun (R:Step (Int×List Int) (Option (List Int)))=>(II s now.1 asks out i→R=.next (i+1,Bc out i 2))∧(¬II s now.1 asks out i→R=.next (i+1,out))) (by omega) (by simp) (Ar _) ⟨rfl,fun k k0 k1=>absurd k1 (by simp only;omega)⟩ (fun z hI k0 k1=>?_) (fun z hI hz=>?_)
    ·obtain⟨k,o'⟩:=z
     obtain⟨hoo,hno⟩:=hI
     simp only at hoo hno k0 k1
     subst hoo
     obtain⟨v,hv,_⟩:=Au (l:=now.1) k0 k1
     obtain⟨ok,hok,_⟩:=Au (l:=o') k0 (by omega)
     try simp only
     rw[Af _ _ (decide_eq_true k1),Ab _ _ hv,Ab _ _ hu,Af _ _ (decide_eq_true k0),Qr (h.us i _ hu) k0 (by omega)]
     have hap:AA u k=BE s i k:=by unfold BE;rw[Df hu]
     rw[hap,Ak (k+1) (by omega) (by omega)]
     have next:¬(BE s i k=true∧(el o' k≠1∨(el now.1 k).2.2<betw s k i))→C8 (fun z:Int×List Int=>z.1) (fun z=>z.2=o'∧∀k,0≤k→k<z.1→¬(BE s i k=true∧(el o' k≠1∨(el now.1 k).2.2<betw s k i))) (fun (R:Step (Int×List Int) (Option (List Int)))=>(II s now.1 asks o' i→R=.next (i+1,Bc o' i 2))∧(¬II s now.1 asks o' i→R=.next (i+1,o'))) k (.next (k+1,o'):Step (Int×List Int) (Step (Int×List Int) (Option (List Int)))):=fun hn=>⟨rfl,rfl,fun j j0 j1=>by
      simp only at j1
      by_cases e:j=k
      ·rw[e];exact hn
      ·exact hno j j0 (by omega)⟩
     have stop:BE s i k=true∧(el o' k≠1∨(el now.1 k).2.2<betw s k i)→C8 (fun z:Int×List Int=>z.1) (fun z=>z.2=o'∧∀k,0≤k→k<z.1→¬(BE s i k=true∧(el o' k≠1∨(el now.1 k).2.2<betw s k i))) (fun (R:Step (Int×List Int) (Option (List Int)))=>(II s now.1 asks o' i→R=.next (i+1,Bc o' i 2))∧(¬II s now.1 asks o' i→R=.next (i+1,o'))) k (.done (.next (i+1,o')):Step (Int×List Int) (Step (Int×List Int) (Option (List Int)))):=fun hb=>hin _ (fun _=>rfl) (fun hnb=>absurd ⟨k,k0,k1,hb⟩ hnb)
     cases hab:BE s i k with
     |false=>rw[Ag _ _ rfl];exact next (fun hh=>by rw[hab] at hh;cases hh.1)
     |true =>
      rw[Af _ _ rfl,Ab _ _ hok,Ab _ _ hok]
      by_cases d3:ok=1
      ·have hrow:=AI (l:=s.2.2.2.1) k0 (by rw[h.lb];omega)
       have hbt:=AI (l:=el s.2.2.2.1 k) i0 (by rw[h.rows k _ hrow];omega)
       rw[Ag _ _ (by simp[d3]),Ab _ _ hrow,Ab _ _ hbt]
       have hbe:el (el s.2.2.2.1 k) i=betw s k i:=rfl
       rw[hbe]
       by_cases d4:v.2.2<betw s k i
       ·rw[Af _ _ (decide_eq_true d4)]
        exact stop ⟨hab,.inr (by rw[Df hv];exact d4)⟩
       ·rw[Ag _ _ (decide_eq_false d4)]
        exact next fun hh=>hh.2.elim (fun h=>h (by rw[Df hok];exact d3)) (fun h=>d4 (by rw[Df hv] at h;exact h))
      ·rw[Af _ _ (by simpa using d3)]
       exact stop ⟨hab,.inl (by rw[Df hok];exact d3)⟩
    ·obtain⟨k,o'⟩:=z
     obtain⟨hoo,hno⟩:=hI
     simp only at hoo hno hz
     subst hoo
     try simp only
     rw[Ag _ _ (decide_eq_false (by omega)),Ab _ _ ho,Ab _ _ ho]
     exact hin _ (fun ⟨k',q0,q1,q2⟩=>absurd q2 (hno k' q0 (by omega))) (fun _=>rfl)
   ·rw[Ag _ _ (by simpa using d2)]
    exact ⟨fun ht=>absurd (by rw[←ea];exact ht.2.1) d2,fun _=>rfl⟩
  ·rw[Ag _ _ (by simpa using d1)]
   exact ⟨fun ht=>absurd (by rw[←ew];exact ht.1) d1,fun _=>rfl⟩
end Go.Proofs.YtmmkfcpdfnjgjaaGreatDoor
namespace Go.Proofs.YtmmkfcpdfnjgjaaGreatDoor
open Go.Den
end Go.Proofs.YtmmkfcpdfnjgjaaGreatDoor
namespace Go.Proofs.YtmmkfcpdfnjgjaaGreatDoor
open Go.Den
def EH (f:Bool) (st:Int) (w:A5):Prop:=if f=true then w.1=4 else (1≤w.1∧w.1≤3)∧(0<st→w.1=1)
structure BS (s:Ad) (now:Aq):Prop where
 may:kE s now
 all:∀w∈now.1,EH now.2.2 now.2.1 w
theorem Agw {f:Bool} {st:Int} {w:A5} {A:Type} (x y:A):cnd f (cnd (!(w.1==4)) x y) (cnd (((decide (w.1<1))||(decide (3<w.1)))||((decide (0<st))&&(!(w.1==1)))) x y)=@ite _ (EH f st w) (Classical.propDecidable _) y x:=by
 unfold EH
 cases f with
 |true =>
  rw[Af _ _ rfl]
  by_cases c:w.1=4
  ·rw[Ag _ _ (by simp[c]),if_pos (by simpa using c)]
  ·rw[Af _ _ (by simpa using c),if_neg (by simpa using c)]
 |false =>
  rw[Ag (b:=false) _ _ rfl]
  by_cases c:(1≤w.1∧w.1≤3)∧(0<st→w.1=1)
  ·rw[Ag _ _ (by
    apply Bool.eq_false_iff.2
    intro hh
    simp only[Bool.or_eq_true,Bool.and_eq_true,decide_eq_true_eq,Bool.not_eq_true',beq_eq_false_iff_ne,ne_eq] at hh
    rcases hh with hh|hh
    ·omega
    ·exact hh.2 (c.2 hh.1)),if_pos (by simpa using c)]
  ·rw[Af _ _ (by
    simp only[Bool.or_eq_true,Bool.and_eq_true,decide_eq_true_eq,Bool.not_eq_true',beq_eq_false_iff_ne,ne_eq]
    apply Classical.byContradiction
    intro hh
    simp only[not_or,Int.not_lt] at hh
    exact c ⟨⟨hh.1.1,hh.1.2⟩,fun h0=>Classical.byContradiction fun hn=>hh.2 ⟨h0,hn⟩⟩),if_neg (by simpa using c)]
theorem Ag8 {s:Ad} {now:Aq} (h:SOK s) (hs:Aw s=some 0) (hw:Aa now.1≤1000):∃r,Je (s,now)=some r∧(r=true↔BS s now):=by
 have n2:=h.n2
 have hn:=Ar now.1
 have hwm:now.1.length≤maxLen:=by unfold Aa at hw;unfold maxLen;omega
 unfold Je
 by_cases c:Aa now.1=Aa s.2.1
 ·rw[Ag _ _ (by simpa using c),Af _ _ (J5 hn (by omega)),FO]
  refine AH (fun z:Int×List Int=>z.1) (Aa now.1) (fun z=>Aa z.2=Aa now.1) (fun r:Option Bool=>∃b,r=some b∧(b=true↔BS s now)) (by omega) (by simp) hn (Bn hn _) (fun z hI i0 i1=>?_) (fun z hI hz=>?_)
  ·obtain⟨i,out⟩:=z
   simp only at hI i0 i1
   obtain⟨y,hy,_⟩:=Au (l:=out) i0 (by omega)
   try simp only
   rw[Af _ _ (decide_eq_true (by rw[Bn hn];exact i1)),Ab _ _ hy,Ab _ _ hy,Ak (i+1) (by omega) (by omega)]
   exact ⟨rfl,by (try simp only);rw[BC];exact hI⟩
  ·obtain⟨i,out⟩:=z
   simp only at hI hz
   try simp only
   have hol:out.length≤maxLen:=by unfold Aa at hI hw;unfold maxLen;omega
   rw[Ag _ _ (decide_eq_false (by rw[Bn hn];omega)),Ab _ _ (Z5 (e:=0) (fun _=>h) hs hw hol)]
   show ∃b,_ = some b∧_
   by_cases cm:kE s now
   ·have h0:(JR 0 s now out).2.2=0:=by
     unfold JR
     rw[if_neg (by simp),if_neg (by simpa using cm)]
     split<;>rfl
    rw[Ag _ _ (by rw[h0];rfl)]
    have conv:(∀w∈now.1,EH now.2.2 now.2.1 w)↔(∀(i:Int) w,idx now.1 i=some w→EH now.2.2 now.2.1 w):=⟨fun h i a ha=>h a (An ha).2.2,fun h a ha=>by obtain⟨i,hi⟩:=D9 ha;exact h i a hi⟩
    refine DV (l:=now.1) (fun r:Option Bool=>∃b,r=some b∧(b=true↔BS s now)) (fun _ w=>EH now.2.2 now.2.1 w) (some false) (some true) hwm (fun i w h0 hi hw'=>?_) (fun i hi=>by (try simp only);rw[Ag _ _ (decide_eq_false hi)];try rfl) (fun hh=>⟨true,rfl,fun _=>⟨cm,conv.2 hh⟩,fun _=>rfl⟩) (fun hh=>⟨false,rfl,fun h=>(by cases h),fun hg=>absurd (conv.1 hg.all) hh⟩)
    try simp only
    rw[Af _ _ (decide_eq_true hi),Ab _ _ hw',Agw,decide_eq_true h0]
    by_cases cs:EH now.2.2 now.2.1 w
    ·rw[if_pos cs];exact .inl ⟨cs,rfl⟩
    ·rw[if_neg cs];exact .inr ⟨cs,rfl⟩
   ·have h0:(JR 0 s now out).2.2=8:=by
     unfold JR
     rw[if_neg (by simp),if_pos cm]
    rw[Af _ _ (by rw[h0];rfl)]
    exact ⟨false,rfl,fun h=>(by cases h),fun hg=>absurd hg.may cm⟩
 ·rw[Af _ _ (by simpa using c)]
  exact ⟨false,rfl,fun h=>(by cases h),fun hg=>absurd hg.may.st.n c⟩
open Classical in
noncomputable def Y2 (e:Int) (s:Ad) (now:Aq):Int:=if e≠0 then e else if BS s now then 0 else 8
open Classical in
noncomputable def kP (e:Int) (s:Ad) (now:Aq) (asks:List Int):List Int×Int :=
 if e≠0 then ([],e) else if ¬BS s now then ([],8) else if Aa asks≠Aa s.2.1 then ([],90) else (Cz s now asks,0)
open Classical in
noncomputable def Aa8 (e:Int) (s:Ad) (now:Aq) (g:Int):Bool×Int :=
 if e≠0 then (false,e) else if ¬BS s now then (false,8) else if g<0∨Aa s.2.1≤g then (false,2) else (el (Cz s now (Bc (AQ (Aa s.2.1) 1) g 2)) g==2,0)
theorem yF {s:Ad} {now:Aq} {e:Int} (hok:e=0→SOK s) (hs:Aw s=some e) (hw:Aa now.1≤1000):F0 (s,now)=some (Y2 e s now):=by
 unfold F0 Y2
 rw[Ab _ _ hs]
 by_cases h0:e=0
 ·subst h0
  rw[Ag _ _ (by rfl),if_neg (by simp)]
  obtain⟨r,r1,r2⟩:=Ag8 (hok rfl) hs hw
  rw[Ab _ _ r1]
  by_cases c:BS s now
  ·rw[Ag _ _ (by rw[r2.2 c];rfl),if_pos c]
  ·have:r=false:=by
    cases hr:r with
    |false=>rfl
    |true=>exact absurd (r2.1 hr) c
   rw[Af _ _ (by rw[this];rfl),if_neg c]
 ·rw[Af _ _ (by simp[h0]),if_pos h0]
theorem Aez {s:Ad} {now:Aq} {asks:List Int} {e:Int} (hok:e=0→SOK s) (hs:Aw s=some e) (hw:Aa now.1≤1000):G6 (s,(now,asks))=some (kP e s now asks):=by
 unfold G6 kP
 rw[Ab _ _ (yF hok hs hw)]
 unfold Y2
 by_cases h0:e=0
 ·subst h0
  have hk:=hok rfl
  rw[if_neg (show ¬((0:Int)≠0) by simp),if_neg (show ¬((0:Int)≠0) by simp)]
  by_cases c:BS s now
  ·rw[if_pos c,Ag _ _ (by rfl),if_neg (show ¬ ¬BS s now by simpa using c)]
   by_cases c2:Aa asks=Aa s.2.1
   ·rw[Ag _ _ (by simpa using c2),if_neg (by simpa using c2),Ab _ _ (yC hk c.may.st.n c2)]
   ·rw[Af _ _ (by simpa using c2),if_pos c2]
  ·rw[if_neg c,Af _ _ (by rfl),if_pos c]
 ·rw[if_pos h0,if_pos h0,Af _ _ (by simp[h0])]
theorem fS (s:Ad) (ws:List A5) (asks:List Int):∀(k:Nat) (i:Int) (out:List Int),Aa (pass s ws asks k i out)=Aa out
 |0,i,out=>rfl
 |k+1,i,out=>by
  rw[pass,fS s ws asks k]
  split
  ·rw[BC]
  ·rfl
theorem LC {s:Ad} {now:Aq} {asks:List Int} (hw:Aa now.1=Aa s.2.1) (hl:Aa asks=Aa s.2.1):Aa (Cz s now asks)=Aa s.2.1:=by
 have:=Ar asks
 unfold Cz
 split
 ·exact hl
 ·split
  ·rw[Bn this,hl]
  ·rw[fS,Rv hw hl]
theorem AfW {s:Ad} {now:Aq} {g e:Int} (hok:e=0→SOK s) (hs:Aw s=some e) (hw:Aa now.1≤1000):Jd (s,(now,g))=some (Aa8 e s now g):=by
 unfold Jd Aa8
 rw[Ab _ _ (yF hok hs hw)]
 unfold Y2
 by_cases h0:e=0
 ·subst h0
  have hk:=hok rfl
  have n1:=hk.n1
  have n2:=hk.n2
  rw[if_neg (show ¬((0:Int)≠0) by simp),if_neg (show ¬((0:Int)≠0) by simp)]
  by_cases c:BS s now
  ·rw[if_pos c,Ag _ _ (by rfl),if_neg (show ¬ ¬BS s now by simpa using c)]
   by_cases c2:g<0∨Aa s.2.1≤g
   ·rw[Af _ _ (by simpa using c2),if_pos c2]
   ·have g0:0≤g:=by omega
    have g1:g<Aa s.2.1:=by omega
    have hlr:Aa (AQ (Aa s.2.1) (1:Int))=Aa s.2.1:=Bn (by omega) _
    have hal:=LC (s:=s) (now:=now) (asks:=Bc (AQ (Aa s.2.1) 1) g 2) c.may.st.n (by rw[BC,hlr])
    rw[Ag _ _ (by simpa using c2),if_neg c2,Ab _ _ (Zt (n:=Aa s.2.1) (by omega) (by omega)),Ab _ _ (KO g0 g1 1),Ab _ _ (KO g0 g1 1),Ab _ _ (yC hk c.may.st.n (by rw[BC,hlr])),Ab _ _ (AI g0 (by rw[hal];exact g1)),Ab _ _ (AI g0 (by rw[hal];exact g1))]
  ·rw[if_neg c,Af _ _ (by rfl),if_pos c]
 ·rw[if_pos h0,if_pos h0,Af _ _ (by simp[h0])]
end Go.Proofs.YtmmkfcpdfnjgjaaGreatDoor
namespace Go.Proofs.YtmmkfcpdfnjgjaaGreatDoor
open Go.Den
theorem R9 {s:Ad} {ws:List A5} {asks:List Int} {n:Int} (J:Int→List Int→Prop) (hJ:∀i out,0≤i→i<n→J i out→(II s ws asks out i→J (i+1) (Bc out i 2))∧(¬II s ws asks out i→J (i+1) out)) :
 ∀(k:Nat) (i:Int) (out:List Int),0≤i→i+k=n→J i out→J n (pass s ws asks k i out)
 |0,i,out,_,hn,h=>by
  have:i=n:=by omega
  subst this;exact h
 |k+1,i,out,hi,hn,h=>by
  rw[pass]
  obtain⟨h1,h2⟩:=hJ i out hi (by omega) h
  by_cases c:II s ws asks out i
  ·rw[if_pos c];exact R9 J hJ k (i+1) _ (by omega) (by omega) (h1 c)
  ·rw[if_neg c];exact R9 J hJ k (i+1) _ (by omega) (by omega) (h2 c)
theorem dI {g:CC} {w:A5} {a:Int} (hw:w.1=1) (ha:a=1∨a=2):DI (g,(w,a))=0:=by
 unfold DI GI F3
 simp only[AD]
 rcases ha with ha|ha<;>simp[hw,ha,cnd,hi2_eq]
theorem AgF {g:CC} {w:A5} {a:Int} (h1:w.1≠1) (h:1≤w.1∧w.1≤3):1≤DW (g,(w,a))∧DW (g,(w,a))≤3∧(DW (g,(w,a))=2→w.1=2)∧DI (g,(w,DW (g,(w,a))))=0:=by
 have w3:w.1=2∨w.1=3:=by omega
 unfold DW DI GI F3
 simp only[AD]
 generalize AP w.2.1=n
 by_cases c:n<g.2.1<;>by_cases c2:n<g.2.2<;>by_cases c6:g.2.2≤n
 all_goals first|(exfalso;omega)|skip
 all_goals cases c3:(a==2)
 all_goals rcases w3 with hw|hw<;>simp[hw,c,c2,c6,cnd,hi2_eq]
theorem UN:∀ {gs:List CC} {ws:List A5} {l:List Int},(∀(i:Nat) g w a,gs[i]?=some g→ws[i]?=some w→l[i]?=some a→DI (g,(w,a))=0)→HO gs ws l=0
 |[],_,_,_=>by rw[HO];intros;simp_all
 |_::_,[],_,_=>by rw[HO];intros;simp_all
 |_::_,_::_,[],_=>by rw[HO];intros;simp_all
 |g0::gs,w0::ws,a0::as,h=>by
  rw[HO,if_neg (by simpa using h 0 g0 w0 a0 rfl rfl rfl)]
  exact UN fun i g w a h1 h2 h3=>h (i+1) g w a (by simpa using h1) (by simpa using h2) (by simpa using h3)
theorem J6 (w:A5) (a:Int):(nxt w a).1=a:=by
 unfold nxt GH
 simp only[AD]
 cases (a==w.1)<;>cases (a==2)<;>rfl
theorem Vm {s:Ad} {now:Aq} {l:List Int} (hw:Aa now.1=Aa s.2.1) (hl:Aa l=Aa s.2.1):(Di s now l).1.map (·.1)=l:=by
 have hz:Aa (List.zipWith nxt now.1 l)=Aa now.1:=H6 (by rw[hw,hl])
 refine GU (by show Aa (List.map _ (List.zipWith nxt now.1 l)) = _;rw[IQ,hz,hw,hl]) fun j j0 j1=>?_
 change j<Aa (List.map _ (List.zipWith nxt now.1 l)) at j1
 rw[IQ,hz] at j1
 obtain⟨w,hw',_⟩:=Au j0 j1
 obtain⟨a,ha,_⟩:=Au (l:=l) j0 (by omega)
 show idx (List.map _ (List.zipWith nxt now.1 l)) j = _
 rw[N5,Kx hw' ha,ha]
 exact congrArg some (J6 w a)
theorem Aew {s:Ad} {now:Aq} {l:List Int} (hl:Aa l=Aa s.2.1) (h:Cf l=true):HA s now l=0:=by
 unfold HA
 rw[if_neg (by simpa using hl),if_pos h]
theorem Rx {s:Ad} {now:Aq} {l:List Int} (hw:Aa now.1=Aa s.2.1) (hl:Aa l=Aa s.2.1) {w:A5} (h:w∈(Di s now l).1):w.1∈l:=by
 rw[←Vm hw hl]
 exact List.mem_map_of_mem h
theorem Afy {n v a:Int} (h:a∈AQ n v):a=v:=(List.mem_replicate.1 h).2
theorem AcX {s:Ad} (_h:SOK s) {l:List Int} (hl:Aa l=Aa s.2.1) (hm:JV s l):∃a b,0≤a∧a<Aa s.2.1∧0≤b∧b<Aa s.2.1∧BE s a b=true∧el l a≠1∧el l b≠1:=by
 obtain⟨a,b,x,y,_,hx,hy,h1,h2,h3⟩:=hm
 have ia:=An hx
 have ib:=An hy
 exact ⟨a,b,ia.1,by omega,ib.1,by omega,h3,by rw[Df hx];exact h1,by rw[Df hy];exact h2⟩
theorem Af9 {s:Ad} (h:SOK s) {l:List Int} (hl:Aa l=Aa s.2.1) {a b:Int} (a0:0≤a) (a1:a<Aa s.2.1) (b0:0≤b) (b1:b<Aa s.2.1) (hab:BE s a b=true) (h1:el l a≠1) (h2:el l b≠1):JV s l:=by
 obtain⟨p1,p2,_⟩:=h.pair a b a0 a1 b0 b1
 have hne:=(p2 hab).1
 have ea:=AI (l:=l) a0 (by omega)
 have eb:=AI (l:=l) b0 (by omega)
 rcases Int.lt_or_gt_of_ne hne with hlt|hlt
 ·exact ⟨b,a,_,_,hlt,eb,ea,h2,h1,by rw[←p1];exact hab⟩
 ·exact ⟨a,b,_,_,hlt,ea,eb,h1,h2,hab⟩
theorem LJ {l:List Int} (h:Cf l=true) {g:Int} (g0:0≤g) (g1:g<Aa l):el l g=4:=by
 unfold Cf at h
 rw[decide_eq_true_eq] at h
 exact h _ (An (AI g0 g1)).2.2
structure V6 (s:Ad) (ws:List A5) (asks:List Int) (i:Int) (out:List Int):Prop where
 len:Aa out=Aa s.2.1
 on:∀j,0≤j→j<Aa s.2.1→(el ws j).1≠1→el out j=DW (el s.2.1 j,(el ws j,el asks j))
 off:∀j,0≤j→j<Aa s.2.1→(el ws j).1=1→el out j=1∨(el out j=2∧el asks j=2∧j<i∧∀k,0≤k→k<Aa s.2.1→BE s j k=true→betw s k j≤(el ws k).2.2)
 meet:∀a b,0≤a→a<Aa s.2.1→0≤b→b<Aa s.2.1→BE s a b=true→el out a=1∨el out b=1
theorem dN {s:Ad} {now:Aq} {asks:List Int} (h:SOK s) (hG:BS s now) (hl:Aa asks=Aa s.2.1) (hf:now.2.2=false):V6 s now.1 asks (Aa s.2.1) (pass s now.1 asks (Aa asks).toNat 0 (Lp s.2.1 now.1 asks)):=by
 have n1:=h.n1
 have hw:=hG.may.st.n
 have hbl:=Rv (gs:=s.2.1) (ws:=now.1) (asks:=asks) hw hl
 have hbase:∀j,0≤j→j<Aa s.2.1→el (Lp s.2.1 now.1 asks) j=bw (el s.2.1 j) (el now.1 j) (el asks j):=fun j j0 j1 =>
  Df (Yc (AI j0 j1) (AI j0 (by omega)) (AI j0 (by omega)))
 refine R9 (n:=Aa s.2.1) (V6 s now.1 asks) (fun i out i0 i1 hI=>⟨fun ht=>?_,fun hn=>?_⟩) (Aa asks).toNat 0 _ (by omega) (by omega) ?_
 ·obtain⟨t1,t2,t3⟩:=ht
  have hi:i<Aa out:=by rw[hI.len];exact i1
  refine ⟨by rw[BC];exact hI.len,fun j j0 j1 hj=>?_,fun j j0 j1 hj=>?_,fun a b a0 a1 b0 b1 hab=>?_⟩
  ·rw[Hj i0 hi,if_neg (fun e=>hj (by rw[e];exact t1))]
   exact hI.on j j0 j1 hj
  ·rw[Hj i0 hi]
   by_cases e:j=i
   ·subst e
    rw[if_pos rfl]
    exact .inr ⟨rfl,t2,by omega,fun k k0 k1 hk=>Int.not_lt.1 fun hlt=>t3 ⟨k,k0,by omega,hk,.inr hlt⟩⟩
   ·rw[if_neg e]
    exact (hI.off j j0 j1 hj).imp_right fun ⟨q1,q2,q3,q4⟩=>⟨q1,q2,by omega,q4⟩
  ·obtain⟨p1,p2,_⟩:=h.pair a b a0 a1 b0 b1
   have hne:=(p2 hab).1
   have free:∀k,0≤k→k<Aa s.2.1→BE s i k=true→el out k=1:=fun k k0 k1 hk=>Classical.byContradiction fun hne=>t3 ⟨k,k0,by omega,hk,.inl hne⟩
   rw[Hj i0 hi,Hj i0 hi]
   by_cases ea:a=i
   ·subst ea
    right
    rw[if_neg (fun e=>hne e.symm)]
    exact free b b0 b1 hab
   ·by_cases eb:b=i
    ·subst eb
     left
     rw[if_neg ea]
     exact free a a0 a1 (by rw[←p1];exact hab)
    ·rw[if_neg ea,if_neg eb]
     exact hI.meet a b a0 a1 b0 b1 hab
 ·exact ⟨hI.len,hI.on,fun j j0 j1 hj=>(hI.off j j0 j1 hj).imp_right fun ⟨q1,q2,q3,q4⟩=>⟨q1,q2,by omega,q4⟩,hI.meet⟩
 ·refine ⟨hbl,fun j j0 j1 hj=>by rw[hbase j j0 j1,bw,if_neg hj],fun j j0 j1 hj=>.inl (by rw[hbase j j0 j1,bw,if_pos hj]),fun a b a0 a1 b0 b1 hab=>?_⟩
  apply Classical.byContradiction
  intro hn
  simp only[not_or] at hn
  rw[hbase a a0 a1,hbase b b0 b1] at hn
  have ha:(el now.1 a).1≠1:=fun e=>hn.1 (by rw[bw,if_pos e])
  have hb:(el now.1 b).1≠1:=fun e=>hn.2 (by rw[bw,if_pos e])
  have hel:∀j,0≤j→j<Aa s.2.1→el (now.1.map (·.1)) j=(el now.1 j).1:=fun j j0 j1=>Df (by rw[N5,AI j0 (by omega)];rfl)
  have hm:JV s (now.1.map (·.1)):=Af9 h (by rw[IQ];exact hw) a0 a1 b0 b1 hab (by rw[hel a a0 a1];exact ha) (by rw[hel b b0 b1];exact hb)
  rcases hG.may.ok with ok|ok
  ·have h0:=AI (l:=now.1) a0 (by omega)
   have hs:=hG.all _ (An h0).2.2
   unfold EH at hs
   rw[if_neg (by rw[hf];simp)] at hs
   unfold Cf at ok
   rw[decide_eq_true_eq] at ok
   have:=ok _ (List.mem_map_of_mem (f:=(·.1)) (An h0).2.2)
   omega
  ·exact ok hm
theorem dO {s:Ad} {now:Aq} {asks out:List Int} {i:Int} (hG:BS s now) (hf:now.2.2=false) (hI:V6 s now.1 asks i out) {j:Int} (j0:0≤j) (j1:j<Aa s.2.1):(1≤el out j∧el out j≤3)∧DI (el s.2.1 j,(el now.1 j,el out j))=0∧(el out j=2→(el now.1 j).1≠2→(el now.1 j).1=1):=by
 have hs:=hG.all _ (An (AI (l:=now.1) j0 (by rw[hG.may.st.n];exact j1))).2.2
 unfold EH at hs
 rw[if_neg (by rw[hf];simp)] at hs
 by_cases c:(el now.1 j).1=1
 ·rcases hI.off j j0 j1 c with h|⟨h,_⟩
  ·exact ⟨by omega,dI c (.inl h),fun _ _=>c⟩
  ·exact ⟨by omega,dI c (.inr h),fun _ _=>c⟩
 ·obtain⟨q1,q2,q3,q4⟩:=AgF (g:=el s.2.1 j) (a:=el asks j) c hs.1
  rw[hI.on j j0 j1 c]
  exact ⟨⟨q1,q2⟩,q4,fun h2 hne=>absurd (q3 h2) hne⟩
theorem Ro {s:Ad} {now:Aq} {asks:List Int} (h:SOK s) (hG:BS s now) (hl:Aa asks=Aa s.2.1):HA s now (Cz s now asks)=0∧BS s (Di s now (Cz s now asks)):=by
 have n1:=h.n1
 have hw:=hG.may.st.n
 have hlen:=LC (s:=s) (now:=now) hw hl
 have hst:=Ab9 h hG.may.st hlen
 have hsh:=Vm hw hlen
 unfold Cz at hlen hst hsh ⊢
 by_cases c1:Cf asks=true
 ·rw[if_pos c1] at hlen hst hsh ⊢
  refine ⟨Aew hlen c1,⟨hst,.inl (by rw[hsh];exact c1)⟩,fun w hw'=>?_⟩
  have:=Rx hw hlen hw'
  unfold EH
  rw[if_pos (show (Di s now asks).2.2=true from c1)]
  unfold Cf at c1
  rw[decide_eq_true_eq] at c1
  exact c1 _ this
 ·rw[if_neg c1] at hlen hst hsh ⊢
  by_cases c2:now.2.2=true∨0<now.2.1
  ·rw[if_pos c2] at hlen hst hsh ⊢
   have hal:∀a∈AQ (Aa asks) (1:Int),a=1:=fun a ha=>Afy ha
   have hfl:Cf (AQ (Aa asks) (1:Int))=false:=by
    apply Bool.eq_false_iff.2
    intro hh
    have:=LJ hh (g:=0) (by omega) (by rw[hlen];omega)
    have h1:=KO (n:=Aa asks) (j:=0) (by omega) (by omega) (1:Int)
    rw[Df h1] at this
    cases this
   have hnm:¬JV s (AQ (Aa asks) (1:Int)):=fun ⟨a,b,x,y,_,hx,_,hne,_⟩=>hne (hal _ (An hx).2.2)
   refine ⟨?_,⟨hst,.inr (by rw[hsh];exact hnm)⟩,fun w hw'=>?_⟩
   ·unfold HA
    rw[if_neg (by simpa using hlen),if_neg (by rw[hfl];simp),if_neg (fun h4=>by have:=hal 4 h4;cases this),if_neg (fun hh=>by obtain⟨_,a,ha,hne⟩:=hh;exact hne (hal a ha)),if_neg (fun hh=>?_),if_neg hnm,if_neg (fun ⟨i,k,w,v,_,h2,_⟩=>by have:=hal 2 (An h2).2.2;cases this)]
    refine hh.2 (UN fun i g w a q1 q2 q3=>?_)
    have hs:=hG.all w (List.mem_of_getElem? q2)
    unfold EH at hs
    rw[if_neg (by rw[hh.1];simp)] at hs
    have hst':0<now.2.1:=c2.elim (fun e=>by rw[hh.1] at e;cases e) id
    exact dI (hs.2 hst') (.inl (hal a (List.mem_of_getElem? q3)))
   ·have:=hal _ (Rx hw hlen hw')
    unfold EH
    rw[if_neg (show ¬(Di s now (AQ (Aa asks) 1)).2.2=true by show ¬Cf _ = true;rw[hfl];simp)]
    exact ⟨by omega,fun _=>this⟩
  ·rw[if_neg c2] at hlen hst hsh ⊢
   have hf:now.2.2=false:=Bool.eq_false_iff.2 fun e=>c2 (.inl e)
   have hI:=dN (asks:=asks) h hG hl hf
   generalize pass s now.1 asks (Aa asks).toNat 0 (Lp s.2.1 now.1 asks)=out at hI hlen hst hsh ⊢
   have hin:=fun {j:Int} (j0:0≤j) (j1:j<Aa s.2.1)=>dO hG hf hI j0 j1
   have hmem:∀a∈out,1≤a∧a≤3:=fun a ha=>by
    obtain⟨j,hj⟩:=D9 ha
    have:=An hj
    have h1:=(hin this.1 (by omega)).1
    rwa [Df hj] at h1
   have hfl:Cf out=false:=by
    apply Bool.eq_false_iff.2
    intro hh
    have:=LJ hh (g:=0) (by omega) (by omega)
    have h1:=(hin (j:=0) (by omega) (by omega)).1
    omega
   have hnm:¬JV s out:=fun hm=>by
    obtain⟨a,b,a0,a1,b0,b1,hab,h1,h2⟩:=AcX h hlen hm
    rcases hI.meet a b a0 a1 b0 b1 hab with e|e
    ·exact h1 e
    ·exact h2 e
   refine ⟨?_,⟨hst,.inr (by rw[hsh];exact hnm)⟩,fun w hw'=>?_⟩
   ·unfold HA
    rw[if_neg (by simpa using hlen),if_neg (by rw[hfl];simp),if_neg (fun h4=>by have:=hmem 4 h4;omega),if_neg (fun hh=>c2 hh.1),if_neg (fun hh=>?_),if_neg hnm,if_neg (fun hcl=>?_)]
    ·obtain⟨i,k,w,v,q1,q2,q3,q4,q5,q6⟩:=hcl
     have ii:=An q1
     have ik:=An q4
     have e1:el now.1 i=w:=Df q1
     have e2:el out i=2:=Df q2
     have e3:el now.1 k=v:=Df q4
     have hr:=(hin ii.1 (by omega)).2.2 e2 (by rw[e1];exact q3)
     rcases hI.off i ii.1 (by omega) hr with e|⟨_,_,_,hb⟩
     ·omega
     ·have:=hb k ik.1 (by omega) (by rw[(h.pair i k ii.1 (by omega) ik.1 (by omega)).1];exact q5)
      rw[e3] at this;omega
    ·refine hh.2 (UN fun i g w a q1 q2 q3=>?_)
     have r1:idx s.2.1 (i:Int)=some g:=by rw[Bw (by omega),Int.toNat_natCast];exact q1
     have r2:idx now.1 (i:Int)=some w:=by rw[Bw (by omega),Int.toNat_natCast];exact q2
     have r3:idx out (i:Int)=some a:=by rw[Bw (by omega),Int.toNat_natCast];exact q3
     have:=(hin (j:=(i:Int)) (by omega) (An r1).2.1).2.1
     rwa [Df r1,Df r2,Df r3] at this
   ·have hm:=hmem _ (Rx hw hlen hw')
    unfold EH
    rw[if_neg (show ¬(Di s now out).2.2=true by show ¬Cf _ = true;rw[hfl];simp)]
    refine ⟨hm,fun hpos=>?_⟩
    have:(Di s now out).2.1=max 0 (now.2.1-1):=by unfold Di;simp only[hfl,hf];rfl
    rw[this] at hpos
    exact absurd (show now.2.2=true∨0<now.2.1 from .inr (by omega)) c2
theorem kR {n:Int} {v a:A5} (h:a∈AQ n v):a=v:=(List.mem_replicate.1 h).2
theorem AaK {s:Ad} (h:SOK s):BS s (Lw s):=by
 have n1:=h.n1
 refine ⟨⟨Aep h,.inr fun ⟨a,b,x,y,_,hx,_,hne,_⟩=>hne ?_⟩,fun w hw=>?_⟩
 ·rw[N5] at hx
  cases hw:idx (Lw s).1 a with
  |none=>rw[hw] at hx;cases hx
  |some w =>
   rw[hw] at hx
   have:=kR (An hw).2.2
   rw[this] at hx
   cases hx;rfl
 ·have:=kR hw
  rw[this]
  unfold EH
  rw[if_neg (by simp[Lw])]
  exact ⟨by decide,fun _=>rfl⟩
end Go.Proofs.YtmmkfcpdfnjgjaaGreatDoor
namespace Go.Proofs.YtmmkfcpdfnjgjaaGreatDoor
open Go.Den
def inP (s:Ad) (p g:Int):Bool:=AA (el s.2.2.2.2.1 p).1 g
def CH (s:Ad) (p:Int):List Int:=s.2.1.mapIdx fun i _=>if inP s p (i:Int)=true then 2 else 1
theorem GK (s:Ad) (p:Int):Aa (CH s p)=Aa s.2.1:=HN
theorem mX {s:Ad} {p i:Int} (i0:0≤i) (i1:i<Aa s.2.1):idx (CH s p) i=some (if inP s p i=true then 2 else 1):=by
 unfold CH
 rw[NS i0,AI i0 i1,Option.map_some,Int.toNat_of_nonneg i0]
theorem cB {s:Ad} {p i:Int} (i0:0≤i) (i1:i<Aa s.2.1):el (CH s p) i=if inP s p i=true then 2 else 1:=Df (mX i0 i1)
def Fz (s:Ad) (now:Aq) (p:Int):Prop:=∀i,0≤i→i<Aa s.2.1→inP s p i=true→(el now.1 i).1=2
noncomputable def BW (s:Ad) (now:Aq) (p:Int):Aq:=Di s now (Cz s now (CH s p))
structure PhP (s:Ad) (p:Int):Prop where
 apart:∀a b,0≤a→a<Aa s.2.1→inP s p a=true→inP s p b=true→BE s a b=false
 one:∃a,0≤a∧a<Aa s.2.1∧inP s p a=true
 least:∀a,0≤a→a<Aa s.2.1→inP s p a=true→(el s.2.1 a).2.1≤(el s.2.2.2.2.1 p).2.1
theorem php {s:Ad} (hs:Bm s) (h:Be s) {p:Int} (p0:0≤p) (p1:p<Aa s.2.2.2.2.1):PhP s p where
 apart:=fun a b a0 a1 ha hb=>by
  have hp:=AI p0 p1
  have e:=AI (l:=s.2.2.1) a0 (by rw[h.shape.a];exact a1)
  have:=((h.phased.1 p _ hp).bits a ha _ _ (AI a0 a1) e).2
  have hz:=(AaQ (hs.as _ (An e).2.2) (hs.ps _ (An hp).2.2).1).1 this
  apply Bool.eq_false_iff.2
  intro hab
  exact hz b hab hb
 one:=by
  have hp:=AI p0 p1
  have hu:=(hs.ps _ (An hp).2.2).1
  obtain⟨l0,l1,l2,_⟩:=RU hu (h.phased.1 p _ hp).ne
  obtain⟨b0,b1⟩:=MX h.shape hu (h.phased.1 p _ hp).hi l2
  exact ⟨_,b0,b1,l2⟩
 least:=fun a a0 a1 ha=>by
  have hp:=AI p0 p1
  have e:=AI (l:=s.2.2.1) a0 (by rw[h.shape.a];exact a1)
  exact ((h.phased.1 p _ hp).bits a ha _ _ (AI a0 a1) e).1
structure Pl (s:Ad) (now:Aq):Prop where
 goes:BS s now
 st:now.2.1=0
 fl:now.2.2=false
theorem Rt {s:Ad} (h:SOK s) (p:Int):Cf (CH s p)=false:=by
 have n1:=h.n1
 apply Bool.eq_false_iff.2
 intro hh
 have:=LJ hh (g:=0) (by omega) (by rw[GK];omega)
 rw[cB (by omega) (by omega)] at this
 split at this<;>omega
theorem oT {s:Ad} {now:Aq} (h:SOK s) (hp:Pl s now) (p:Int):Cz s now (CH s p)=pass s now.1 (CH s p) (Aa (CH s p)).toNat 0 (Lp s.2.1 now.1 (CH s p)):=by
 unfold Cz
 rw[if_neg (by rw[Rt h];simp),if_neg (by rw[hp.fl,hp.st];simp)]
theorem yX {s:Ad} {now:Aq} (h:SOK s) (hp:Pl s now) (p:Int):V6 s now.1 (CH s p) (Aa s.2.1) (Cz s now (CH s p)):=by
 rw[oT h hp];exact dN h hp.goes (GK s p) hp.fl
theorem fT {s:Ad} {now:Aq} (h:SOK s) (hp:Pl s now) (p:Int):Cf (Cz s now (CH s p))=false:=by
 have n1:=h.n1
 have hI:=yX h hp p
 apply Bool.eq_false_iff.2
 intro hh
 have:=LJ hh (g:=0) (by omega) (by rw[hI.len];omega)
 have h1:=(dO hp.goes hp.fl hI (j:=0) (by omega) (by omega)).1
 omega
theorem dP {s:Ad} {now:Aq} (h:SOK s) (hp:Pl s now) (p:Int):Pl s (BW s now p) where
 goes:=(Ro h hp.goes (GK s p)).2
 st:=by
  show (if Cf (Cz s now (CH s p))=true then grt s else if now.2.2=true then max 0 (grt s-1) else max 0 (now.2.1-1))=0
  rw[if_neg (by rw[fT h hp];simp),if_neg (by rw[hp.fl];simp),hp.st];rfl
 fl:=fT h hp p
theorem cC {s:Ad} {now:Aq} (hg:BS s now) (p:Int) {j:Int} (j0:0≤j) (j1:j<Aa s.2.1):el (BW s now p).1 j=nxt (el now.1 j) (el (Cz s now (CH s p)) j):=by
 have hw:=hg.may.st.n
 have hl:=LC (s:=s) (now:=now) hw (GK s p)
 exact Df (Kx (AI j0 (by rw[hw];exact j1)) (AI j0 (by rw[hl];exact j1)))
theorem Pz (w:A5) (a:Int):(nxt w a).2.1=if a=w.1 then CT w.2.1 else 1:=by
 unfold nxt GH
 simp only[AD]
 by_cases c:a=w.1
 ·rw[Af (b:=a==w.1) _ _ (by simpa using c),if_pos c]
  cases (a==2)<;>rfl
 ·rw[Ag (b:=a==w.1) _ _ (by simpa using c),if_neg c]
  cases (a==2)<;>rfl
theorem K3 (w:A5) (a:Int):(nxt w a).2.2=if a=2 then 0 else CT w.2.2:=by
 unfold nxt GH
 simp only[AD]
 by_cases d:a=2
 ·rw[if_pos d,Af (b:=a==2) _ _ (by simpa using d),Af (b:=a==2) _ _ (by simpa using d)]
  cases (a==w.1)<;>rfl
 ·rw[if_neg d,Ag (b:=a==2) _ _ (by simpa using d),Ag (b:=a==2) _ _ (by simpa using d)]
  cases (a==w.1)<;>rfl
theorem EP (n:Int):AP n=min (max n 0) 1048576:=by
 unfold AP;rw[DB,D7]
theorem I4 (n:Int):CT n=min (min (max n 0) 1048576+1) 1048576:=by
 unfold CT
 simp only[AD,EP]
 rw[Ak _ (by omega) (by omega)]
 omega
structure Ahy (g:CC) (w:A5) (a:Bool) (w':A5):Prop where
 range:1≤w.1∧w.1≤3
 red:w.1=1→(w'.1=1∧w'.2.2=CT w.2.2)∨(a=true∧w'.1=2∧w'.2.1=1∧w'.2.2=0)
 greenOn:w.1=2→(a=true∨AP w.2.1<g.2.1)→w'.1=2∧w'.2.1=CT w.2.1∧w'.2.2=0
 greenOff:w.1=2→a=false→g.2.1≤AP w.2.1→w'.1=3∧w'.2.1=1∧w'.2.2=CT w.2.2
 yellowOn:w.1=3→AP w.2.1<g.2.2→w'.1=3∧w'.2.1=CT w.2.1∧w'.2.2=CT w.2.2
 yellowOff:w.1=3→g.2.2≤AP w.2.1→w'.1=1∧w'.2.2=CT w.2.2
theorem LA {s:Ad} {now:Aq} (h:SOK s) (hp:Pl s now) (p:Int) {j:Int} (j0:0≤j) (j1:j<Aa s.2.1):Ahy (el s.2.1 j) (el now.1 j) (inP s p j) (el (BW s now p).1 j):=by
 have hI:=yX h hp p
 have hw:=hp.goes.may.st.n
 have hst:=hp.goes.all _ (An (AI (l:=now.1) j0 (by rw[hw];exact j1))).2.2
 unfold EH at hst
 rw[if_neg (by rw[hp.fl];simp)] at hst
 have hon:=hI.on j j0 j1
 have hoff:=hI.off j j0 j1
 have ha:=cB (s:=s) (p:=p) j0 j1
 rw[cC hp.goes p j0 j1]
 generalize el (Cz s now (CH s p)) j=o at hon hoff ⊢
 generalize el now.1 j=w at hst hon hoff ⊢
 generalize el s.2.1 j=g at hon ⊢
 rw[ha] at hon hoff
 have want2:w.1=2→o=if (inP s p j=true∨AP w.2.1<g.2.1) then 2 else 3:=fun e=>by
  rw[hon (by omega)]
  unfold DW
  simp only[AD]
  by_cases c1:inP s p j=true<;>by_cases c2:AP w.2.1<g.2.1<;>simp[e,c1,c2,cnd,hi2_eq]
 have want3:w.1=3→o=if AP w.2.1<g.2.2 then 3 else 1:=fun e=>by
  rw[hon (by omega)]
  unfold DW
  simp only[AD]
  by_cases c2:AP w.2.1<g.2.2<;>simp[e,c2,cnd,hi2_eq]
 refine ⟨hst.1,fun e=>?_,fun e hc=>?_,fun e ha hm=>?_,fun e hc=>?_,fun e hc=>?_⟩
 ·rcases hoff e with ho|⟨ho,h2,_⟩
  ·subst ho
   exact .inl ⟨J6 _ _,by rw[K3,if_neg (by decide)]⟩
  ·subst ho
   refine .inr ⟨?_,J6 _ _,by rw[Pz,if_neg (by omega)],by rw[K3,if_pos rfl]⟩
   by_cases c:inP s p j=true
   ·exact c
   ·rw[if_neg c] at h2;omega
 ·have:=want2 e
  rw[if_pos hc] at this
  subst this
  exact ⟨J6 _ _,by rw[Pz,if_pos e.symm],by rw[K3,if_pos rfl]⟩
 ·have:=want2 e
  rw[if_neg (by rw[ha];simp;exact hm)] at this
  subst this
  exact ⟨J6 _ _,by rw[Pz,if_neg (by omega)],by rw[K3,if_neg (by decide)]⟩
 ·have:=want3 e
  rw[if_pos hc] at this
  subst this
  exact ⟨J6 _ _,by rw[Pz,if_pos e.symm],by rw[K3,if_neg (by decide)]⟩
 ·have:=want3 e
  rw[if_neg (by omega)] at this
  subst this
  exact ⟨J6 _ _,by rw[K3,if_neg (by decide)]⟩
theorem aW {s:Ad} {now:Aq} (h:SOK s) (hp:Pl s now) {p j:Int} (j0:0≤j) (j1:j<Aa s.2.1) (hj:inP s p j=true) (hr:(el now.1 j).1=1)
 (hk:∀k,0≤k→k<Aa s.2.1→BE s j k=true→inP s p k=false∧((el now.1 k).1=1∨(el now.1 k).1=3∧(el s.2.1 k).2.2≤AP (el now.1 k).2.1)∧betw s k j≤(el now.1 k).2.2):(el (BW s now p).1 j).1=2:=by
 have hw:=hp.goes.may.st.n
 have hl:=GK s p
 have hbl:=Rv (gs:=s.2.1) (ws:=now.1) (asks:=CH s p) hw hl
 have n1:=h.n1
 have ha:=fun {i:Int} (i0:0≤i) (i1:i<Aa s.2.1)=>cB (s:=s) (p:=p) i0 i1
 rw[cC hp.goes p j0 j1,J6,oT h hp]
 have key:=R9 (s:=s) (ws:=now.1) (asks:=CH s p) (n:=Aa s.2.1) (fun i out=>Aa out=Aa s.2.1∧(∀k,0≤k→k<Aa s.2.1→BE s j k=true→el out k=1)∧(j<i→el out j=2)) (fun i out i0 i1 ⟨g1,g2,g3⟩=>⟨fun ht=>?_,fun hn=>?_⟩) (Aa (CH s p)).toNat 0 (Lp s.2.1 now.1 (CH s p)) (by omega) (by omega) ⟨hbl,fun k k0 k1 hjk=>?_,fun hlt=>by omega⟩
 ·exact key.2.2 j1
 ·refine ⟨by rw[BC];exact g1,fun k k0 k1 hjk=>?_,fun hlt=>?_⟩
  ·rw[Hj i0 (by omega)]
   by_cases e:k=i
   ·subst e
    have h2:=ht.2.1
    rw[ha k0 k1,if_neg (by rw[(hk k k0 k1 hjk).1];simp)] at h2
    omega
   ·rw[if_neg e];exact g2 k k0 k1 hjk
  ·rw[Hj i0 (by omega)]
   by_cases e:j=i
   ·rw[if_pos e]
   ·rw[if_neg e];exact g3 (by omega)
 ·refine ⟨g1,g2,fun hlt=>?_⟩
  by_cases e:j=i
  ·subst e
   exfalso
   apply hn
   refine ⟨hr,by rw[ha j0 j1,if_pos hj],fun ⟨k,k0,k1,hjk,hb⟩=>?_⟩
   have k1:k<Aa s.2.1:=by omega
   rcases hb with hb|hb
   ·exact hb (g2 k k0 k1 hjk)
   ·have:=(hk k k0 k1 hjk).2.2;omega
  ·exact g3 (by omega)
 ·obtain⟨q1,q2,q3⟩:=hk k k0 k1 hjk
  rw[Df (Yc (AI k0 k1) (AI k0 (by omega)) (AI k0 (by omega))),bw]
  rcases q2 with q2|⟨q2,q4⟩
  ·rw[if_pos q2]
  ·rw[if_neg (by omega)]
   unfold DW
   simp only[AD]
   have:¬AP (el now.1 k).2.1<(el s.2.1 k).2.2:=by omega
   simp[q2,this,cnd,hi2_eq]
theorem Zs {s:Ad} {now:Aq} (h:SOK s) (hp:Pl s now) {p:Int} (hf:Fz s now p):Fz s (BW s now p) p:=fun i i0 i1 hi =>
 ((LA h hp p i0 i1).greenOn (hf i i0 i1 hi) (.inl hi)).1
structure bI (s:Ad) (p:Int) (now:Aq) (t:Int):Prop where
 green:∀j,0≤j→j<Aa s.2.1→inP s p j=false→(el now.1 j).1=2→t≤AP (el now.1 j).2.1∧t≤(el s.2.1 j).2.1
 ended:∀j,0≤j→j<Aa s.2.1→inP s p j=false→(el now.1 j).1≠2→t-(el s.2.1 j).2.1≤AP (el now.1 j).2.2
 yellow:∀j,0≤j→j<Aa s.2.1→inP s p j=false→(el now.1 j).1=3→t-(el s.2.1 j).2.1≤AP (el now.1 j).2.1
 own:∀j,0≤j→j<Aa s.2.1→inP s p j=true→(el now.1 j).1=3→t≤AP (el now.1 j).2.1∧t≤(el s.2.1 j).2.2
theorem gS {s:Ad} (h:SOK s) (p:Int) (now:Aq):bI s p now 0 where
 green:=fun j j0 j1 _ _=>⟨(Wn _).1,by have:=(h.grp j _ (AI j0 j1)).1;omega⟩
 ended:=fun j j0 j1 _ _=>by have:=(h.grp j _ (AI j0 j1)).1;have:=(Wn (el now.1 j).2.2).1;omega
 yellow:=fun j j0 j1 _ _=>by have:=(h.grp j _ (AI j0 j1)).1;have:=(Wn (el now.1 j).2.1).1;omega
 own:=fun j j0 j1 _ _=>⟨(Wn _).1,by have:=(h.grp j _ (AI j0 j1)).2;omega⟩
theorem AdO {s:Ad} {now:Aq} (h:SOK s) (hp:Pl s now) {p t:Int} (t0:0≤t) (t1:t<1000000) (hI:bI s p now t):bI s p (BW s now p) (t+1):=by
 have hg:=fun {j:Int} (j0:0≤j) (j1:j<Aa s.2.1)=>LA h hp p j0 j1
 have hgr:=fun {j:Int} (j0:0≤j) (j1:j<Aa s.2.1)=>h.grp j _ (AI j0 j1)
 refine ⟨fun j j0 j1 hj h2=>?_,fun j j0 j1 hj h2=>?_,fun j j0 j1 hj h3=>?_,fun j j0 j1 hj h3=>?_⟩
 ·have G:=hg j0 j1
  have:=hgr j0 j1
  have q1:=hI.green j j0 j1 hj
  rw[hj] at G
  have hr:=G.range
  have w3:(el now.1 j).1=1∨(el now.1 j).1=2∨(el now.1 j).1=3:=by omega
  rcases w3 with e|e|e
  ·rcases G.red e with ⟨h,_⟩|⟨h,_⟩
   ·omega
   ·cases h
  ·obtain⟨a1,a2⟩:=q1 e
   by_cases c:AP (el now.1 j).2.1<(el s.2.1 j).2.1
   ·obtain⟨_,b2,_⟩:=G.greenOn e (.inr c)
    rw[b2]
    simp only[EP,I4] at *
    omega
   ·have:=(G.greenOff e rfl (by omega)).1;omega
  ·by_cases c:AP (el now.1 j).2.1<(el s.2.1 j).2.2
   ·have:=(G.yellowOn e c).1;omega
   ·have:=(G.yellowOff e (by omega)).1;omega
 ·have G:=hg j0 j1
  have:=hgr j0 j1
  have q1:=hI.green j j0 j1 hj
  have q2:=hI.ended j j0 j1 hj
  rw[hj] at G
  have hr:=G.range
  have w3:(el now.1 j).1=1∨(el now.1 j).1=2∨(el now.1 j).1=3:=by omega
  have more:(el (BW s now p).1 j).2.2=CT (el now.1 j).2.2:=by
   rcases w3 with e|e|e
   ·rcases G.red e with ⟨_,h⟩|⟨h,_⟩
    ·exact h
    ·cases h
   ·by_cases c:AP (el now.1 j).2.1<(el s.2.1 j).2.1
    ·have:=(G.greenOn e (.inr c)).1;omega
    ·exact (G.greenOff e rfl (by omega)).2.2
   ·by_cases c:AP (el now.1 j).2.1<(el s.2.1 j).2.2
    ·exact (G.yellowOn e c).2.2
    ·exact (G.yellowOff e (by omega)).2
  rw[more]
  by_cases c:(el now.1 j).1=2
  ·have:=(q1 c).2
   simp only[EP,I4] at *
   omega
  ·have:=q2 c
   simp only[EP,I4] at *
   omega
 ·have G:=hg j0 j1
  have:=hgr j0 j1
  have q1:=hI.green j j0 j1 hj
  have q3:=hI.yellow j j0 j1 hj
  rw[hj] at G
  have hr:=G.range
  have w3:(el now.1 j).1=1∨(el now.1 j).1=2∨(el now.1 j).1=3:=by omega
  rcases w3 with e|e|e
  ·rcases G.red e with ⟨h,_⟩|⟨_,h,_⟩<;>omega
  ·by_cases c:AP (el now.1 j).2.1<(el s.2.1 j).2.1
   ·have:=(G.greenOn e (.inr c)).1;omega
   ·have b:=(G.greenOff e rfl (by omega)).2.1
    rw[b]
    have:=(q1 e).2
    simp only[EP] at *
    omega
  ·by_cases c:AP (el now.1 j).2.1<(el s.2.1 j).2.2
   ·have b:=(G.yellowOn e c).2.1
    rw[b]
    have:=q3 e
    simp only[EP,I4] at *
    omega
   ·have:=(G.yellowOff e (by omega)).1;omega
 ·have G:=hg j0 j1
  have:=hgr j0 j1
  have q4:=hI.own j j0 j1 hj
  have hr:=G.range
  have w3:(el now.1 j).1=1∨(el now.1 j).1=2∨(el now.1 j).1=3:=by omega
  rcases w3 with e|e|e
  ·rcases G.red e with ⟨h,_⟩|⟨_,h,_⟩<;>omega
  ·have:=(G.greenOn e (.inl hj)).1;omega
  ·by_cases c:AP (el now.1 j).2.1<(el s.2.1 j).2.2
   ·have b:=(G.yellowOn e c).2.1
    rw[b]
    have:=q4 e
    simp only[EP,I4] at *
    omega
   ·have:=(G.yellowOff e (by omega)).1;omega
structure Bounds (s:Ad) (L X:Int):Prop where
 least:∀j,0≤j→j<Aa s.2.1→(el s.2.1 j).2.1≤L
 yellow:∀j,0≤j→j<Aa s.2.1→(el s.2.1 j).2.2≤X
 betw:∀a b,0≤a→a<Aa s.2.1→0≤b→b<Aa s.2.1→BE s a b=true→betw s a b≤X
theorem AdN {s:Ad} {now:Aq} (h:SOK s) (hp:Pl s now) {p t L X:Int} (hph:PhP s p) (hB:Bounds s L X) (ht:L+X≤t) (hI:bI s p now t):Fz s (BW s now p) p:=fun i i0 i1 hi=>by
 have G:=LA h hp p i0 i1
 have gi:=h.grp i _ (AI i0 i1)
 have bl:=hB.least i i0 i1
 have bx:=hB.yellow i i0 i1
 have hr:=G.range
 have w3:(el now.1 i).1=1∨(el now.1 i).1=2∨(el now.1 i).1=3:=by omega
 rcases w3 with e|e|e
 ·refine aW h hp i0 i1 hi e fun k k0 k1 hik=>?_
  have hk:inP s p k=false:=by
   apply Bool.eq_false_iff.2
   intro hk
   have:=hph.apart i k i0 i1 hi hk
   rw[hik] at this;cases this
  obtain⟨p1,p2,_⟩:=h.pair i k i0 i1 k0 k1
  have hki:BE s k i=true:=by rw[←p1];exact hik
  have hbk:=hB.betw k i k0 k1 i0 i1 hki
  have hb1:=((h.pair k i k0 k1 i0 i1).2.1 hki).2.1
  have gk:=h.grp k _ (AI k0 k1)
  have kl:=hB.least k k0 k1
  have kx:=hB.yellow k k0 k1
  have Gk:=LA h hp p k0 k1
  have hrk:=Gk.range
  have q1:=hI.green k k0 k1 hk
  have q2:=hI.ended k k0 k1 hk
  have q3:=hI.yellow k k0 k1 hk
  have w3:(el now.1 k).1=1∨(el now.1 k).1=2∨(el now.1 k).1=3:=by omega
  rcases w3 with e|e|e
  ·refine ⟨hk,.inl e,?_⟩
   have:=q2 (by omega)
   simp only[EP] at this
   omega
  ·have:=(q1 e).2;omega
  ·refine ⟨hk,.inr ⟨e,?_⟩,?_⟩
   ·have:=q3 e;omega
   ·have:=q2 (by omega)
    simp only[EP] at this
    omega
 ·exact (G.greenOn e (.inl hi)).1
 ·have:=(hI.own i i0 i1 hi e).2;omega
theorem AfV {s:Ad} {now:Aq} {p:Int} (hph:PhP s p) (hG:BS s now) (hf:Fz s now p):Pl s now:=by
 obtain⟨a,a0,a1,ha⟩:=hph.one
 have h2:=hf a a0 a1 ha
 have hst:=hG.all _ (An (AI (l:=now.1) a0 (by rw[hG.may.st.n];exact a1))).2.2
 have hlo:=hG.may.st.lo
 unfold EH at hst
 split at hst
 ·omega
 ·rename_i c
  exact ⟨hG,by omega,Bool.eq_false_iff.2 c⟩
end Go.Proofs.YtmmkfcpdfnjgjaaGreatDoor
namespace Go.Proofs.YtmmkfcpdfnjgjaaGreatDoor
open Go.Den
theorem y7 {s:Ad} (hs:Bm s) {p i:Int} (p0:0≤p) (p1:p<Aa s.2.2.2.2.1) (i0:0≤i) (i1:i≤31):F9 (s,(p,i))=some (inP s p i):=by
 have e:=AI (l:=s.2.2.2.2.1) p0 p1
 unfold F9
 rw[Ab _ _ e,Af _ _ (decide_eq_true i0)]
 show some (Aj .and .u32 (Ay .u32 (el s.2.2.2.2.1 p).1 i) 1==1) = _
 rw[Qr (hs.ps _ (An e).2.2).1 i0 i1]
 rfl
theorem AfB {s:Ad} (hs:Bm s) (h:SOK s) {p:Int} (p0:0≤p) (p1:p<Aa s.2.2.2.2.1):Jm (s,p)=some (CH s p):=by
 have n1:=h.n1
 have n2:=h.n2
 have hn:0≤Aa s.2.1:=by omega
 unfold Jm
 rw[Af _ _ (J5 hn (by omega))]
 refine AH (fun z:Int×List Int=>z.1) (Aa s.2.1) (fun z=>Aa z.2=Aa s.2.1∧∀j,0≤j→j<z.1→idx z.2 j=idx (CH s p) j) (fun r=>r=some (CH s p)) (by omega) (by simp) hn ⟨Bn hn _,fun j j0 j1=>absurd j1 (by simp only;omega)⟩ (fun z hI i0 i1=>?_) (fun z hI hz=>?_)
 ·obtain⟨i,out⟩:=z
  obtain⟨hlen,hj⟩:=hI
  simp only at i0 i1 hlen hj
  obtain⟨y,hy,_⟩:=Au (l:=out) i0 (by omega)
  have hset:idx (Bc out i 1) i=some 1:=by rw[Dm i0 (by omega),if_pos rfl]
  try simp only
  rw[Af _ _ (decide_eq_true (by rw[Bn hn];exact i1)),Ab _ _ hy,Ab _ _ hy,Ab _ _ (y7 hs p0 p1 i0 (by omega)),Ak (i+1) (by omega) (by omega)]
  have ha:=mX (s:=s) (p:=p) i0 i1
  cases c:inP s p i with
  |true =>
   rw[Af _ _ rfl,Ab _ _ hset,Ab _ _ hset]
   refine ⟨rfl,by (try simp only);rw[BC,BC];exact hlen,fun j j0 j1=>?_⟩
   simp only at j1 ⊢
   rw[Dm i0 (by rw[BC];omega),Dm i0 (by omega)]
   split
   ·rename_i e;rw[e,ha,c];rfl
   ·exact hj j j0 (by omega)
  |false =>
   rw[Ag _ _ rfl]
   refine ⟨rfl,by (try simp only);rw[BC];exact hlen,fun j j0 j1=>?_⟩
   simp only at j1 ⊢
   rw[Dm i0 (by omega)]
   split
   ·rename_i e;rw[e,ha,c];rfl
   ·exact hj j j0 (by omega)
 ·obtain⟨i,out⟩:=z
  obtain⟨hlen,hj⟩:=hI
  simp only at hz hlen hj
  try simp only
  rw[Ag _ _ (decide_eq_false (by rw[Bn hn];omega))]
  have ho:out=CH s p:=GU (by rw[GK];exact hlen) fun j j0 j1=>hj j j0 (by omega)
  rw[ho]
  exact rfl
def j5 (e:Int) (s:Ad) (p:Int):List Int×Int:=if e≠0 then ([],e) else if p<0∨Aa s.2.2.2.2.1≤p then ([],2) else (CH s p,0)
theorem AbS {s:Ad} {p e:Int} (hs:Bm s) (hok:e=0→SOK s) (hc:Aw s=some e):DF (s,p)=some (j5 e s p):=by
 unfold DF j5
 rw[FO,Ab _ _ hc]
 by_cases h0:e=0
 ·subst h0
  rw[Ag _ _ (by rfl),if_neg (by simp)]
  by_cases c:p<0∨Aa s.2.2.2.2.1≤p
  ·rw[Af _ _ (by simpa using c),if_pos c];rfl
  ·rw[Ag _ _ (by simpa using c),if_neg c]
   try simp only
   rw[Ag _ _ (by rfl),Ab _ _ (AfB hs (hok rfl) (by omega) (by omega))]
 ·rw[Af _ _ (by simp[h0]),if_pos h0]
  try simp only
  rw[Af _ _ (by simp[h0])]
open Classical in
noncomputable def Dl (s:Ad) (now:Aq) (p:Int):Bool:=decide (Fz s now p)
theorem fullB_iff {s:Ad} {now:Aq} {p:Int}:Dl s now p=true↔Fz s now p:=by unfold Dl;simp
theorem fullB_not {s:Ad} {now:Aq} {p:Int}:Dl s now p=false↔¬Fz s now p:=by unfold Dl;simp
theorem Ag5 {s:Ad} {now:Aq} (hs:Bm s) (h:SOK s) (hw:Aa now.1=Aa s.2.1) {p:Int} (p0:0≤p) (p1:p<Aa s.2.2.2.2.1):Jn (s,(now,p))=some (Dl s now p):=by
 have n2:=h.n2
 unfold Jn
 have conv:(∀i w,idx now.1 i=some w→(inP s p i=true→w.1=2))↔Fz s now p:=⟨fun hh i i0 i1 hi=>hh i _ (AI i0 (by omega)) hi,fun hh i w hw' hi=>by have:=hh i (An hw').1 (by have:=(An hw').2.1;omega) hi;rwa [Df hw'] at this⟩
 refine DV (l:=now.1) (fun r=>r=some (Dl s now p)) (fun i w=>inP s p i=true→w.1=2) (some false) (some true) (by unfold Aa at hw n2;unfold maxLen;omega) (fun i w i0 i1 hw'=>?_) (fun i hi=>by (try simp only);rw[Ag _ _ (decide_eq_false hi)]) (fun hh=>by rw[fullB_iff.2 (conv.1 hh)]) (fun hh=>by rw[fullB_not.2 (fun hf=>hh (conv.2 hf))])
 try simp only
 rw[Af _ _ (decide_eq_true i1),Ab _ _ hw',Ab _ _ (y7 hs p0 p1 i0 (by omega))]
 by_cases c:inP s p i=true→w.1=2
 ·refine .inl ⟨c,Ag _ _ ?_⟩
  cases ci:inP s p i with
  |true=>simp[c ci]
  |false=>rfl
 ·refine .inr ⟨c,Af _ _ ?_⟩
  have c1:inP s p i=true:=Classical.byContradiction fun hn=>c fun hh=>absurd hh hn
  rw[c1,Bool.true_and]
  have:w.1≠2:=fun e=>c fun _=>e
  simpa using this
open Classical in
noncomputable def Ly (e:Int) (s:Ad) (now:Aq) (p:Int):Bool×Int :=
 if e≠0 then (false,e) else if Aa now.1≠Aa s.2.1 then (false,8) else if p<0∨Aa s.2.2.2.2.1≤p then (false,2) else (Dl s now p,0)
theorem Tm {s:Ad} {now:Aq} {p e:Int} (hs:Bm s) (hok:e=0→SOK s) (hc:Aw s=some e):Ck (s,(now,p))=some (Ly e s now p):=by
 unfold Ck Ly
 rw[FO,Ab _ _ hc]
 by_cases h0:e=0
 ·subst h0
  rw[Ag _ _ (by rfl),if_neg (by simp)]
  by_cases c0:Aa now.1=Aa s.2.1
  ·rw[Ag _ _ (by simpa using c0),if_neg (by simpa using c0)]
   by_cases c:p<0∨Aa s.2.2.2.2.1≤p
   ·rw[Af _ _ (by simpa using c),if_pos c];rfl
   ·rw[Ag _ _ (by simpa using c),if_neg c]
    try simp only
    rw[Af _ _ (by rfl),Ab _ _ (Ag5 hs (hok rfl) c0 (by omega) (by omega))]
  ·rw[Af _ _ (by simpa using c0),if_pos c0];rfl
 ·rw[Af _ _ (by simp[h0]),if_pos h0]
  try simp only
  rw[Ag _ _ (by simp[h0])]
def Ia (s:Ad):Nat→Int
 |0=>0
 |n+1=>max (Ia s n) (el s.2.1 (n:Int)).2.1
def Ix (s:Ad):Nat→Int
 |0=>0
 |n+1=>max (Ix s n) (el s.2.1 (n:Int)).2.2
def ER (s:Ad):Int:=Ia s (Aa s.2.1).toNat
def Gd (s:Ad):Int:=max (grt s) (Ix s (Aa s.2.1).toNat)
def EY (s:Ad):Int:=ER s+Gd s+2
theorem R2 {s:Ad} (h:SOK s):∀n:Nat,(n:Int)≤Aa s.2.1→0≤Ia s n∧Ia s n≤1048576∧0≤Ix s n∧Ix s n≤1048576∧∀j,0≤j→j<(n:Int)→(el s.2.1 j).2.1≤Ia s n∧(el s.2.1 j).2.2≤Ix s n
 |0,_=>⟨by simp[Ia],by simp[Ia],by simp[Ix],by simp[Ix],fun j j0 j1=>by omega⟩
 |n+1,hn=>by
  obtain⟨a1,a2,a3,a4,a5⟩:=R2 h n (by omega)
  have g:=h.grp (n:Int) _ (AI (by omega) (by omega))
  refine ⟨by rw[Ia];omega,by rw[Ia];omega,by rw[Ix];omega,by rw[Ix];omega,fun j j0 j1=>?_⟩
  rw[Ia,Ix]
  by_cases e:j=(n:Int)
  ·subst e;omega
  ·have:=a5 j j0 (by omega);omega
theorem Aef {s:Ad} (h:SOK s):Bounds s (ER s) (Gd s):=by
 have n1:=h.n1
 have hb:=R2 h (Aa s.2.1).toNat (by omega)
 have hg:=JM h
 unfold ER Gd
 refine ⟨fun j j0 j1=>(hb.2.2.2.2 j j0 (by omega)).1,fun j j0 j1=>?_,fun a b a0 a1 b0 b1 hab=>?_⟩
 ·have:=(hb.2.2.2.2 j j0 (by omega)).2;omega
 ·have:=hg.all a b a0 a1 b0 b1 hab;omega
theorem Ki {s:Ad} (h:SOK s):0≤ER s∧ER s≤1048576∧0≤Gd s∧Gd s≤1048576:=by
 have n1:=h.n1
 have hb:=R2 h (Aa s.2.1).toNat (by omega)
 have hg:=JM h
 have:=hg.lo;have:=hg.hi
 unfold ER Gd
 omega
theorem Afu {s:Ad} {e:Int} (hok:e=0→SOK s) (hc:Aw s=some e):Iw s=some (if e≠0 then (0,e) else (EY s,0)):=by
 unfold Iw
 rw[Ab _ _ (dU hok hc)]
 by_cases h0:e=0
 ·subst h0
  have h:=hok rfl
  have n1:=h.n1
  have n2:=h.n2
  have ht:=Ki h
  have hg:=JM h
  have g1:=hg.lo
  have g2:=hg.hi
  rw[if_neg (by simp),if_neg (by simp),Ag _ _ (by rfl)]
  refine AH (fun z:Int×Int×Int=>z.2.2) (Aa s.2.1) (fun z=>z.1=Ia s z.2.2.toNat∧z.2.1=Ix s z.2.2.toNat) (fun r=>r=some (EY s,0)) (by omega) (by simp) (by simp only;omega) ⟨rfl,rfl⟩ (fun z hI i0 i1=>?_) (fun z hI hz=>?_)
  ·obtain⟨a,b,i⟩:=z
   simp only at hI i0 i1
   try simp only
   rw[Af _ _ (decide_eq_true i1),Ab _ _ (AI i0 i1),D7,D7,Ak (i+1) (by omega) (by omega)]
   refine ⟨rfl,?_,?_⟩
   ·simp only;rw[show (i+1).toNat=i.toNat+1 by omega,Ia,Int.toNat_of_nonneg i0,hI.1]
   ·simp only;rw[show (i+1).toNat=i.toNat+1 by omega,Ix,Int.toNat_of_nonneg i0,hI.2]
  ·obtain⟨a,b,i⟩:=z
   simp only at hI hz
   subst hz
   try simp only
   rw[Ag _ _ (decide_eq_false (by omega)),hI.1,hI.2,D7]
   have e1:Ia s (Aa s.2.1).toNat=ER s:=rfl
   have e2:max (grt s) (Ix s (Aa s.2.1).toNat)=Gd s:=rfl
   rw[e1,e2,Ak (ER s+Gd s) (by omega) (by omega),Ak _ (by omega) (by omega)]
   exact rfl
 ·rw[if_pos h0,if_pos h0,Af _ _ (by simp[h0])]
theorem AcH {s:Ad} {now:Aq} (h:SOK s) (hG:BS s now) (p:Int):BS s (BW s now p):=(Ro h hG (GK s p)).2
end Go.Proofs.YtmmkfcpdfnjgjaaGreatDoor
namespace Go.Proofs.YtmmkfcpdfnjgjaaGreatDoor
open Go.Den
end Go.Proofs.YtmmkfcpdfnjgjaaGreatDoor
namespace Go.Proofs.YtmmkfcpdfnjgjaaGreatDoor
open Go.Den
def E8 (s:Ad) (calls k:Int):Bool:=(el s.2.2.2.2.1 k).2.2.2.2||AA calls k
def Dd (s:Ad) (p i:Int):Int:=(p+i).tmod (Aa s.2.2.2.2.1)
theorem Ni {s:Ad} {p i:Int} (p0:0≤p) (i0:0≤i) (h:p+i<Aa s.2.2.2.2.1):Dd s p i=p+i:=by
 unfold Dd
 rw[Int.tmod_eq_emod_of_nonneg (by omega),Int.emod_eq_of_lt (by omega) h]
theorem PF {s:Ad} {p i:Int} (h1:Aa s.2.2.2.2.1≤p+i) (h2:p+i<2*Aa s.2.2.2.2.1):Dd s p i=p+i-Aa s.2.2.2.2.1:=by
 unfold Dd
 have hn:=Ar s.2.2.2.2.1
 rw[Int.tmod_eq_emod_of_nonneg (by omega)]
 have e:p+i=(p+i-Aa s.2.2.2.2.1)+Aa s.2.2.2.2.1*1:=by omega
 rw[e,Int.add_mul_emod_self_left,Int.emod_eq_of_lt (by omega) (by omega)]
 omega
theorem gK {s:Ad} {p i:Int} (p0:0≤p) (p1:p<Aa s.2.2.2.2.1) (i0:0≤i) (i1:i≤Aa s.2.2.2.2.1):0≤Dd s p i∧Dd s p i<Aa s.2.2.2.2.1:=by
 by_cases c:p+i<Aa s.2.2.2.2.1
 ·rw[Ni p0 i0 c];omega
 ·rw[PF (by omega) (by omega)];omega
theorem gJ {s:Ad} {p k:Int} (p0:0≤p) (p1:p<Aa s.2.2.2.2.1) (k0:0≤k) (k1:k<Aa s.2.2.2.2.1) (hk:k≠p):∃i,1≤i∧i<Aa s.2.2.2.2.1∧Dd s p i=k∧(i=k-p∨i=k-p+Aa s.2.2.2.2.1):=by
 by_cases c:p<k
 ·exact ⟨k-p,by omega,by omega,by rw[Ni p0 (by omega) (by omega)];omega,.inl rfl⟩
 ·exact ⟨k-p+Aa s.2.2.2.2.1,by omega,by omega,by rw[PF (by omega) (by omega)];omega,.inr rfl⟩
theorem AdC {s:Ad} {p i:Int} (p0:0≤p) (p1:p<Aa s.2.2.2.2.1) (i0:1≤i) (i1:i<Aa s.2.2.2.2.1):Dd s p i≠p:=by
 by_cases c:p+i<Aa s.2.2.2.2.1
 ·rw[Ni p0 (by omega) c];omega
 ·rw[PF (by omega) (by omega)];omega
structure Od (s:Ad) (q:Ej) (full:Bool) (calls gaps:Int) (q':Ej):Prop where
 off:full=false→q'=(q.1,0)
 stay:full=true→(min (q.2+1) 1048576<(el s.2.2.2.2.1 q.1).2.1∨(AA gaps q.1=false∧min (q.2+1) 1048576<(el s.2.2.2.2.1 q.1).2.2.1)∨∀i,1≤i→i<Aa s.2.2.2.2.1→E8 s calls (Dd s q.1 i)=false)→q'=(q.1,min (q.2+1) 1048576)
 move:full=true→¬(min (q.2+1) 1048576<(el s.2.2.2.2.1 q.1).2.1∨(AA gaps q.1=false∧min (q.2+1) 1048576<(el s.2.2.2.2.1 q.1).2.2.1)∨∀i,1≤i→i<Aa s.2.2.2.2.1→E8 s calls (Dd s q.1 i)=false) →
  ∃i,1≤i∧i<Aa s.2.2.2.2.1∧E8 s calls (Dd s q.1 i)=true∧(∀j,1≤j→j<i→E8 s calls (Dd s q.1 j)=false)∧q'=(Dd s q.1 i,0)
theorem Aeg {s:Ad} (hm:Aa s.2.2.2.2.1≤8) {calls:Int} (hu:Ax calls):∃l,Il (s,calls)=some l∧Ax l∧∀j,0≤j→AA l j=(decide (j<Aa s.2.2.2.2.1)&&E8 s calls j):=by
 have hn:=Ar s.2.2.2.2.1
 unfold Il
 refine AH (fun z:Int×Int=>z.2) (Aa s.2.2.2.2.1) (fun z=>Ax z.1∧∀j,0≤j→AA z.1 j=(decide (j<z.2)&&E8 s calls j)) (fun r=>∃l,r=some l∧Ax l∧∀j,0≤j→AA l j=(decide (j<Aa s.2.2.2.2.1)&&E8 s calls j)) (by omega) (by simp) hn ⟨⟨by simp,by simp⟩,fun j j0=>by rw[E7,decide_eq_false (by simp only;omega)];rfl⟩ (fun z hI i0 i1=>?_) (fun z hI hz=>?_)
 ·obtain⟨l,i⟩:=z
  obtain⟨hl,hj⟩:=hI
  simp only at i0 i1 hl hj
  have hd:decide (0≤i)=true:=decide_eq_true i0
  have ho:=R6 hl (I5 i0 (by omega))
  have hyes:E8 s calls i=true→C8 (fun z:Int×Int=>z.2) (fun z=>Ax z.1∧∀j,0≤j→AA z.1 j=(decide (j<z.2)&&E8 s calls j)) (fun r=>∃l,r=some l∧Ax l∧∀j,0≤j→AA l j=(decide (j<Aa s.2.2.2.2.1)&&E8 s calls j)) i (.next (Aj .or .u32 l (Bd .u32 1 i),i+1):Step (Int×Int) (Option Int)):=fun hc=>by
   rw[AbB i0 (by omega)]
   refine ⟨rfl,ho,fun j j0=>?_⟩
   simp only
   rw[Qy hl (I5 i0 (by omega)),Mm i0,hj j j0]
   by_cases e:i=j
   ·subst e;rw[hc];simp;omega
   ·have:decide (j<i+1)=decide (j<i):=by rw[decide_eq_decide];omega
    rw[this];simp[e]
  have hno:E8 s calls i=false→C8 (fun z:Int×Int=>z.2) (fun z=>Ax z.1∧∀j,0≤j→AA z.1 j=(decide (j<z.2)&&E8 s calls j)) (fun r=>∃l,r=some l∧Ax l∧∀j,0≤j→AA l j=(decide (j<Aa s.2.2.2.2.1)&&E8 s calls j)) i (.next (l,i+1):Step (Int×Int) (Option Int)):=fun hc=>by
   refine ⟨rfl,hl,fun j j0=>?_⟩
   simp only
   rw[hj j j0]
   by_cases e:i=j
   ·subst e;rw[hc];simp
   ·have:decide (j<i+1)=decide (j<i):=by rw[decide_eq_decide];omega
    rw[this]
  try simp only
  rw[Af _ _ (decide_eq_true i1),Ab _ _ (AI i0 i1),Ak (i+1) (by omega) (by omega)]
  unfold E8 at hyes hno
  cases c1:(el s.2.2.2.2.1 i).2.2.2.2 with
  |true =>
   rw[Af _ _ rfl,Af _ _ hd]
   exact hyes (by rw[c1];rfl)
  |false =>
   rw[Ag _ _ rfl,Af _ _ hd,Qr hu i0 (by omega)]
   cases c2:AA calls i with
   |true=>rw[Af _ _ rfl,Af _ _ hd];exact hyes (by rw[c1,c2];rfl)
   |false=>rw[Ag _ _ rfl];exact hno (by rw[c1,c2];rfl)
 ·obtain⟨l,i⟩:=z
  obtain⟨hl,hj⟩:=hI
  simp only at hz hl hj
  subst hz
  try simp only
  rw[Ag _ _ (decide_eq_false (by omega))]
  exact ⟨l,rfl,hl,hj⟩
theorem Aaj {n:Nat} (h0:n≠0) (h:n<2 ^ 64):n.testBit (Lib.ctz 64 n)=true∧∀j,j<Lib.ctz 64 n→n.testBit j=false:=by
 have e:Lib.ctz 64 n=Lib.ctzFrom 64 n:=by simp[Lib.ctz,h0]
 obtain⟨m,hm,_⟩:=Lib.ctzFrom_spec 64 n (by omega) h
 rw[e]
 generalize Lib.ctzFrom 64 n=k at hm
 constructor
 ·rw[hm,Nat.mul_comm,Nat.testBit_mul_two_pow]
  simp
 ·intro j hj
  rw[hm,Nat.mul_comm,Nat.testBit_mul_two_pow]
  have:¬k≤j:=by omega
  simp[this]
theorem VW {o m p j:Nat} (ho:o<2 ^ m) (_:p<m) (hj:p+1+j<2*m):((o ||| (o <<< m)) >>> (p+1)).testBit j=o.testBit ((p+1+j)%m):=by
 rw[Nat.testBit_shiftRight,Nat.testBit_or,Nat.testBit_shiftLeft]
 by_cases c:p+1+j<m
 ·rw[Nat.mod_eq_of_lt c]
  have:¬p+1+j≥m:=by omega
  simp[this]
 ·have e:(p+1+j)%m=p+1+j-m:=by
   rw[Nat.mod_eq_sub_mod (by omega),Nat.mod_eq_of_lt (by omega)]
  have hz:o.testBit (p+1+j)=false:=Nat.testBit_lt_two_pow (Nat.lt_of_lt_of_le ho (Nat.pow_le_pow_right (by decide) (by omega)))
  have:p+1+j≥m:=by omega
  rw[e,hz];simp[this]
theorem zW {o m p:Nat} (ho:o<2 ^ m) (hm:m≤8) (hp:p<m) (h0:o≠0) (hpo:o.testBit p=false) :
 (o ||| (o <<< m)) >>> (p+1)≠0∧(o ||| (o <<< m)) >>> (p+1)<2 ^ 64∧Lib.ctz 64 ((o ||| (o <<< m)) >>> (p+1))+1<m∧o.testBit ((p+1+Lib.ctz 64 ((o ||| (o <<< m)) >>> (p+1)))%m)=true ∧
   ∀j,j<Lib.ctz 64 ((o ||| (o <<< m)) >>> (p+1))→o.testBit ((p+1+j)%m)=false:=by
 have hlt:(o ||| (o <<< m)) >>> (p+1)<2 ^ 64:=by
  rw[Nat.shiftRight_eq_div_pow]
  refine Nat.lt_of_le_of_lt (Nat.div_le_self _ _) (Nat.or_lt_two_pow (Nat.lt_of_lt_of_le ho (Nat.pow_le_pow_right (by decide) (by omega))) ?_)
  rw[Nat.shiftLeft_eq]
  have h1:o*2 ^ m<2 ^ m*2 ^ m:=Nat.mul_lt_mul_of_pos_right ho (Nat.two_pow_pos m)
  rw[←Nat.pow_add] at h1
  exact Nat.lt_of_lt_of_le h1 (Nat.pow_le_pow_right (by decide) (by omega))
 obtain⟨b,hb⟩:=Nat.exists_testBit_of_ne_zero h0
 have hbm:b<m:=by
  apply Classical.byContradiction
  intro hn
  rw[Nat.testBit_lt_two_pow (Nat.lt_of_lt_of_le ho (Nat.pow_le_pow_right (by decide) (by omega)))] at hb
  cases hb
 have hbp:b≠p:=fun e=>by rw[e,hpo] at hb;cases hb
 obtain⟨d,hd1,hd2⟩:∃d,d+1<m∧(p+1+d)%m=b:=by
  by_cases c:p<b
  ·exact ⟨b-p-1,by omega,by rw[show p+1+(b-p-1)=b by omega,Nat.mod_eq_of_lt hbm]⟩
  ·exact ⟨b+m-p-1,by omega,by rw[show p+1+(b+m-p-1)=b+m by omega,Nat.add_mod_right,Nat.mod_eq_of_lt hbm]⟩
 have hdb:=VW ho hp (j:=d) (by omega)
 rw[hd2,hb] at hdb
 have hne:(o ||| (o <<< m)) >>> (p+1)≠0:=fun e=>by rw[e] at hdb;simp at hdb
 obtain⟨c1,c2⟩:=Aaj hne hlt
 have hle:Lib.ctz 64 ((o ||| (o <<< m)) >>> (p+1))≤d:=by
  apply Classical.byContradiction
  intro hn
  have:=c2 d (by omega)
  rw[hdb] at this;cases this
 refine ⟨hne,hlt,by omega,?_,fun j hj=>?_⟩
 ·rw[←VW ho hp (by omega)];exact c1
 ·rw[←VW ho hp (by omega)];exact c2 j hj
theorem bD {n:Nat} (h:n<2 ^ 64):wr .u64 (n:Int)=n:=by
 show IntKind.u64.wrap (n:Int)=n
 have:(2:Nat) ^ 64=18446744073709551616:=by decide
 rw[wrap_u64];omega
theorem wP {s:Ad} (hm1:1≤Aa s.2.2.2.2.1) (hm:Aa s.2.2.2.2.1≤8) {o p:Int} (ho:Ax o) (p0:0≤p) (p1:p<Aa s.2.2.2.2.1) (hhi:∀j,Aa s.2.2.2.2.1≤j→AA o j=false) (hpo:AA o p=false) (h0:o≠0) :
 ∃i,1≤i∧i<Aa s.2.2.2.2.1∧AA o (Dd s p i)=true∧(∀j,1≤j→j<i→AA o (Dd s p j)=false)∧Ik (o,(p,Aa s.2.2.2.2.1))=some (Dd s p i):=by
 obtain⟨n,rfl⟩:∃n:Nat,o=n:=⟨o.toNat,by have:=ho.1;omega⟩
 obtain⟨q,rfl⟩:∃n:Nat,p=n:=⟨p.toNat,by omega⟩
 obtain⟨m,hmm⟩:∃m:Nat,Aa s.2.2.2.2.1=m:=⟨(Aa s.2.2.2.2.1).toNat,by omega⟩
 have bit:∀j:Nat,AA (n:Int) (j:Int)=n.testBit j:=fun j=>by unfold AA;simp
 have hn:n<2 ^ m:=by
  apply Nat.lt_pow_two_of_testBit
  intro i hi
  rw[←bit];exact hhi _ (by omega)
 obtain⟨b1,b2,b3,b4,b5⟩:=zW (o:=n) (m:=m) (p:=q) hn (by omega) (by omega) (by omega) (by rw[←bit];exact hpo)
 have rp:∀j:Nat,Dd s (q:Int) ((j:Int)+1)=(((q+1+j)%m:Nat):Int):=fun j=>by
  unfold Dd
  rw[hmm,Int.tmod_eq_emod_of_nonneg (by omega),show (q:Int)+((j:Int)+1)=((q+1+j:Nat):Int) by omega]
  rfl
 generalize hd:Lib.ctz 64 ((n ||| (n <<< m)) >>> (q+1))=d at b3 b4 b5
 refine ⟨(d:Int)+1,by omega,by omega,by rw[rp,bit];exact b4,fun j j0 j1=>?_,?_⟩
 ·have:=rp (j-1).toNat
  rw[show (((j-1).toNat:Nat):Int)+1=j by omega] at this
  rw[this,bit]
  exact b5 _ (by omega)
 ·unfold Ik
  rw[rp]
  simp only[hmm]
  have h28:(2:Nat) ^ m≤2 ^ 8:=Nat.pow_le_pow_right (by decide) (by omega)
  have hn8:n<256:=by omega
  have hw:wr .u64 (n:Int)=n:=bD (by omega)
  have hsl:Bd .u64 (n:Int) (m:Int)=((n <<< m:Nat):Int):=by
   unfold Bd
   rw[show min ((m:Int)).toNat IntKind.u64.bits=m by simp only[IntKind.bits];omega,Nat.shiftLeft_eq]
   have:((n:Int)*2 ^ m)=((n*2 ^ m:Nat):Int):=by simp
   rw[this]
   refine bD ?_
   have:n*2 ^ m≤256*2 ^ 8:=Nat.mul_le_mul (by omega) h28
   omega
  have hnl:n <<< m<2 ^ 64:=by
   rw[Nat.shiftLeft_eq]
   have:n*2 ^ m≤256*2 ^ 8:=Nat.mul_le_mul (by omega) h28
   omega
  rw[hw,hsl]
  have hor:Aj .or .u64 (n:Int) ((n <<< m:Nat):Int)=((n ||| (n <<< m):Nat):Int):=oS (by omega) hnl
  rw[hor]
  rw[Ak ((q:Int)+1) (by omega) (by omega)]
  have hsr:Ay .u64 ((n ||| (n <<< m):Nat):Int) ((q:Int)+1)=(((n ||| (n <<< m)) >>> (q+1):Nat):Int):=by
   unfold Ay
   rw[show min ((q:Int)+1).toNat IntKind.u64.bits=q+1 by simp only[IntKind.bits];omega]
   have hp:(0:Int)<2 ^ (q+1):=Int.pow_pos (by decide)
   rw[Int.fdiv_eq_ediv_of_nonneg _ (Int.le_of_lt hp),Nat.shiftRight_eq_div_pow]
   simp
  rw[hsr]
  have htz:Bg (((n ||| (n <<< m)) >>> (q+1):Nat):Int)=(d:Int):=by
   unfold Bg
   rw[if_neg (by omega),Int.toNat_natCast,hd]
  rw[Af _ _ (decide_eq_true (by omega)),Af _ _ (decide_eq_true (by omega)),AJ,htz,Af _ _ (by simp;omega),Ak ((q:Int)+1+d) (by omega) (by omega)]
  unfold Gm
  rw[Int.tmod_eq_emod_of_nonneg (by omega),show (q:Int)+1+(d:Int)=((q+1+d:Nat):Int) by omega]
  rfl
structure Js (s:Ad) (q:Ej):Prop where
 p0:0≤q.1
 p1:q.1<Aa s.2.2.2.2.1
 s0:0≤q.2
 s1:q.2≤1048576
theorem QU {s:Ad} {q:Ej} {now:Aq} {calls gaps:Int} (hs:Bm s) (hS:Be s) (hc:Aw s=some 0) (hq:Js s q) (hw:Aa now.1=Aa s.2.1) (hu:Ax calls) (hg:Ax gaps) :
 ∃q',Od s q (Dl s now q.1) calls gaps q'∧0≤q'.1∧q'.1<Aa s.2.2.2.2.1∧0≤q'.2∧q'.2≤1048576∧Ke (s,(q,(now,(calls,gaps))))=some (q',(CH s q'.1,0)):=by
 have h:=sok hs hS
 have hm1:=hS.shape.p1
 have hm:=hS.shape.p2
 obtain⟨p,t⟩:=q
 obtain⟨p0,p1,s0,s1⟩:=hq
 simp only at p0 p1 s0 s1
 have hasks:∀k,0≤k→k<Aa s.2.2.2.2.1→DF (s,k)=some (CH s k,0):=fun k k0 k1=>by
  rw[AbS (e:=0) hs (fun _=>h) hc]
  unfold j5
  rw[if_neg (by simp),if_neg (by simp;omega)]
 have hfull:Ck (s,(now,p))=some (Dl s now p,0):=by
  rw[Tm (e:=0) hs (fun _=>h) hc]
  unfold Ly
  rw[if_neg (by simp),if_neg (by simpa using hw),if_neg (by simp;omega)]
 have hphp:=(hS.phased.1 p _ (AI p0 p1))
 have hmin:=hphp.min
 have hmax:=hphp.max
 unfold Ke
 simp only
 rw[Ab _ _ hc,Ag _ _ (by rfl),Ag _ _ (decide_eq_false (by omega)),Ag _ _ (decide_eq_false (by omega)),Ag _ _ (decide_eq_false (by omega)),Ag _ _ (decide_eq_false (by omega)),Ag _ _ (by simpa using hw),Ab _ _ hfull]
 cases hf:Dl s now p with
 |false =>
  rw[Af _ _ (by rfl),Ab _ _ (hasks p p0 p1)]
  exact ⟨(p,0),⟨fun _=>rfl,fun hh=>(by cases hh),fun hh=>(by cases hh)⟩,p0,p1,by simp,by simp,rfl⟩
 |true =>
  obtain⟨l,hl,lu,lb⟩:=Aeg (s:=s) hm hu
  have hd:decide (0≤p)=true:=decide_eq_true p0
  rw[Ag _ _ (by rfl),Ab _ _ (AI p0 p1),Ab _ _ hl,Af _ _ hd,Af _ _ hd,Ak (t+1) (by omega) (by omega),DB,Qr hg p0 (by omega),AbB p0 (by omega)]
  have hou:=Pk lu (I5 p0 (by omega))
  have hob:∀j,0≤j→AA (Aj .andNot .u32 l ((2 ^ p.toNat:Nat):Int)) j=(decide (j<Aa s.2.2.2.2.1)&&E8 s calls j&&!decide (p=j)):=fun j j0=>by
   rw[Ry lu (I5 p0 (by omega)),lb j j0,Mm p0]
  generalize Aj .andNot .u32 l ((2 ^ p.toNat:Nat):Int)=o at hou hob ⊢
  have ocall:∀i,1≤i→i<Aa s.2.2.2.2.1→AA o (Dd s p i)=E8 s calls (Dd s p i):=fun i i0 i1=>by
   obtain⟨r0,r1⟩:=gK p0 p1 (i:=i) (by omega) (by omega)
   have hne:=AdC p0 p1 i0 i1
   rw[hob _ r0,decide_eq_true r1,decide_eq_false (fun e=>hne e.symm)]
   simp
  have oz:o=0↔∀i,1≤i→i<Aa s.2.2.2.2.1→E8 s calls (Dd s p i)=false:=by
   constructor
   ·intro hz i i0 i1
    rw[←ocall i i0 i1,hz,E7]
   ·intro hz
    refine Qx hou ⟨by simp,by simp⟩ fun j j0 j1=>?_
    rw[E7,hob j j0]
    by_cases c:j<Aa s.2.2.2.2.1
    ·by_cases e:p=j
     ·simp[e]
     ·obtain⟨i,i0,i1,hi,_⟩:=gJ p0 p1 j0 c (fun hh=>e hh.symm)
      have:=hz i i0 i1
      rw[hi] at this
      simp[this]
    ·simp[c]
  by_cases c:(min (t+1) 1048576<(el s.2.2.2.2.1 p).2.1∨(AA gaps p=false∧min (t+1) 1048576<(el s.2.2.2.2.1 p).2.2.1)∨∀i,1≤i→i<Aa s.2.2.2.2.1→E8 s calls (Dd s p i)=false)
  ·refine ⟨(p,min (t+1) 1048576),⟨fun hh=>(by cases hh),fun _ _=>rfl,fun _ hn=>absurd c hn⟩,p0,p1,by simp only;omega,by simp only;omega,?_⟩
   rw[Ag _ _ ?_,Ab _ _ (hasks p p0 p1)]
   rcases c with c|c|c
   ·have:decide ((el s.2.2.2.2.1 p).2.1≤min (t+1) 1048576)=false:=decide_eq_false (by omega)
    rw[this];rfl
   ·have:decide ((el s.2.2.2.2.1 p).2.2.1≤min (t+1) 1048576)=false:=decide_eq_false (by omega)
    rw[this,c.1];simp
   ·rw[oz.2 c];simp
  ·have hc2:=c
   simp only[not_or] at c
   obtain⟨c1,c2,c3⟩:=c
   have hne:o≠0:=fun e=>c3 (oz.1 e)
   obtain⟨i,i0,i1,i2,i3,i4⟩:=wP hm1 hm hou p0 p1 (fun j hj=>by rw[hob j (by omega),decide_eq_false (by omega)];rfl) (by rw[hob p p0];simp) hne
   obtain⟨r0,r1⟩:=gK p0 p1 (i:=i) (by omega) (by omega)
   refine ⟨(Dd s p i,0),⟨fun hh=>(by cases hh),fun _ hh=>absurd hh hc2,fun _ _=>⟨i,i0,i1,by rw[←ocall i i0 i1];exact i2,fun j j0 j1=>by rw[←ocall j j0 (by omega)];exact i3 j j0 j1,rfl⟩⟩,r0,r1,by simp,by simp,?_⟩
   rw[Af _ _ ?_,Ab _ _ i4,Ab _ _ (hasks _ r0 r1)]
   have d1:decide ((el s.2.2.2.2.1 p).2.1≤min (t+1) 1048576)=true:=decide_eq_true (by omega)
   rw[d1]
   have d2:(!(o==0))=true:=by simp[hne]
   rw[d2]
   cases cg:AA gaps p with
   |true=>rfl
   |false =>
    have:decide ((el s.2.2.2.2.1 p).2.2.1≤min (t+1) 1048576)=true:=decide_eq_true (by
     apply Classical.byContradiction
     intro hn
     exact c2 ⟨cg,by omega⟩)
    rw[this];rfl
def Ds (s:Ad):Nat→Int
 |0=>0
 |n+1=>Ds s n+((el s.2.2.2.2.1 (n:Int)).2.2.1+EY s+2)
def HZ (s:Ad):Int:=EY s+Ds s (Aa s.2.2.2.2.1).toNat
theorem N2 {s:Ad} (h:SOK s) (hS:Be s):∀n:Nat,(n:Int)≤Aa s.2.2.2.2.1→0≤Ds s n∧Ds s n≤4194304*(n:Int)
 |0,_=>by simp[Ds]
 |n+1,hn=>by
  obtain⟨a1,a2⟩:=N2 h hS n (by omega)
  have ht:=Ki h
  have hm:=(hS.phased.1 (n:Int) _ (AI (by omega) (by omega))).max
  unfold EY at *
  rw[Ds]
  unfold EY
  omega
theorem Afo {s:Ad} {e:Int} (hok:e=0→Be s) (hs:Bm s) (hc:Aw s=some e):Ji s=some (if e≠0 then (0,e) else (HZ s,0)):=by
 unfold Ji
 rw[Ab _ _ (Afu (fun h=>sok hs (hok h)) hc)]
 by_cases h0:e=0
 ·subst h0
  have hS:=hok rfl
  have h:=sok hs hS
  have hm:=hS.shape.p2
  have hn:=Ar s.2.2.2.2.1
  have ht:=Ki h
  have htv:EY s=ER s+Gd s+2:=rfl
  rw[if_neg (by simp),if_neg (by simp),Ag _ _ (by rfl)]
  refine AH (fun z:Int×Int=>z.2) (Aa s.2.2.2.2.1) (fun z=>z.1=EY s+Ds s z.2.toNat) (fun r=>r=some (HZ s,0)) (by omega) (by simp) hn (by simp[Ds]) (fun z hI i0 i1=>?_) (fun z hI hz=>?_)
  ·obtain⟨a,i⟩:=z
   simp only at hI i0 i1
   have hmx:=(hS.phased.1 i _ (AI i0 i1)).max
   have hci:=N2 h hS i.toNat (by omega)
   try simp only
   rw[Af _ _ (decide_eq_true i1),Ab _ _ (AI i0 i1),hI,Ak (i+1) (by omega) (by omega),Ak ((el s.2.2.2.2.1 i).2.2.1+EY s) (by omega) (by omega),Ak ((el s.2.2.2.2.1 i).2.2.1+EY s+2) (by omega) (by omega),Ak _ (by omega) (by omega)]
   refine ⟨rfl,?_⟩
   simp only
   rw[show (i+1).toNat=i.toNat+1 by omega,Ds,Int.toNat_of_nonneg i0]
   omega
  ·obtain⟨a,i⟩:=z
   simp only at hI hz
   subst hz
   try simp only
   rw[Ag _ _ (decide_eq_false (by omega)),hI]
   exact rfl
 ·rw[if_pos h0,if_pos h0,Af _ _ (by simp[h0])]
end Go.Proofs.YtmmkfcpdfnjgjaaGreatDoor
namespace Go.Proofs.YtmmkfcpdfnjgjaaGreatDoor
open Go.Den
end Go.Proofs.YtmmkfcpdfnjgjaaGreatDoor
namespace Go.Proofs.YtmmkfcpdfnjgjaaGreatDoor
open Go.Den
theorem Acm {s:Ad} {a:Int} (a0:0≤a):Ds s (a+1).toNat=Ds s a.toNat+((el s.2.2.2.2.1 a).2.2.1+EY s+2):=by
 rw[show (a+1).toNat=a.toNat+1 by omega,Ds,Int.toNat_of_nonneg a0]
theorem fC {s:Ad} (h:SOK s) (hS:Be s) {a:Nat}:∀d:Nat,((a+d:Nat):Int)≤Aa s.2.2.2.2.1→Ds s a≤Ds s (a+d)
 |0,_=>Int.le_refl _
 |d+1,hd=>by
  have ih:=fC h hS (a:=a) d (by omega)
  have ht:=Ki h
  have hm:=(hS.phased.1 ((a+d:Nat):Int) _ (AI (by omega) (by omega))).max
  have e:Ds s (a+(d+1))=Ds s (a+d)+((el s.2.2.2.2.1 ((a+d:Nat):Int)).2.2.1+EY s+2):=rfl
  have htv:EY s=ER s+Gd s+2:=rfl
  rw[e];omega
theorem Mn {s:Ad} (h:SOK s) (hS:Be s) {a b:Int} (a0:0≤a) (hab:a≤b) (hb:b≤Aa s.2.2.2.2.1):Ds s a.toNat≤Ds s b.toNat:=by
 have:=fC h hS (a:=a.toNat) (b-a).toNat (by omega)
 rw[show a.toNat+(b-a).toNat=b.toNat by omega] at this
 exact this
def I0 (s:Ad) (P a:Int):Int :=
 if a≤P then Ds s P.toNat-Ds s a.toNat else Ds s P.toNat+Ds s (Aa s.2.2.2.2.1).toNat-Ds s a.toNat
theorem zJ {s:Ad} {P:Int}:I0 s P P=0:=by unfold I0;rw[if_pos (Int.le_refl _)];omega
theorem eT {s:Ad} (h:SOK s) (hS:Be s) {P a:Int} (P0:0≤P) (P1:P<Aa s.2.2.2.2.1) (a0:0≤a) (a1:a<Aa s.2.2.2.2.1):0≤I0 s P a∧I0 s P a≤Ds s (Aa s.2.2.2.2.1).toNat:=by
 have h1:=(N2 h hS P.toNat (by omega)).1
 have h2:=(N2 h hS a.toNat (by omega)).1
 have h3:=Mn h hS P0 (Int.le_of_lt P1) (Int.le_refl _)
 have h4:=Mn h hS a0 (Int.le_of_lt a1) (Int.le_refl _)
 unfold I0
 split
 ·rename_i c
  have:=Mn h hS a0 c (by omega)
  omega
 ·rename_i c
  have:=Mn h hS P0 (b:=a) (by omega) (by omega)
  omega
theorem YV {s:Ad} (h:SOK s) (hS:Be s) {P a i i0:Int} (P1:P<Aa s.2.2.2.2.1) (a0:0≤a) (a1:a<Aa s.2.2.2.2.1) (i1:1≤i) (hi:i≤i0) (hi0:i0=P-a∧a<P∨i0=P-a+Aa s.2.2.2.2.1∧P<a) :
 I0 s P (Dd s a i)+((el s.2.2.2.2.1 a).2.2.1+EY s+2)≤I0 s P a:=by
 have hst:=Acm (s:=s) a0
 unfold I0
 rcases hi0 with ⟨e,c⟩|⟨e,c⟩
 ·rw[Ni a0 (by omega) (by omega),if_pos (by omega),if_pos (by omega)]
  have:=Mn h hS (a:=a+1) (b:=a+i) (by omega) (by omega) (by omega)
  omega
 ·rw[if_neg (show ¬a≤P by omega)]
  by_cases c2:a+i<Aa s.2.2.2.2.1
  ·rw[Ni a0 (by omega) c2,if_neg (by omega)]
   have:=Mn h hS (a:=a+1) (b:=a+i) (by omega) (by omega) (by omega)
   omega
  ·rw[PF (by omega) (by omega),if_pos (by omega)]
   have:=Mn h hS (a:=a+1) (b:=Aa s.2.2.2.2.1) (by omega) (by omega) (Int.le_refl _)
   have:=(N2 h hS (a+i-Aa s.2.2.2.2.1).toNat (by omega)).1
   omega
open Classical in
noncomputable def EE (s:Ad) (P:Int) (q:Ej) (now:Aq) (t:Int):Int :=
 if Fz s now q.1 then I0 s P q.1+(ER s+Gd s+1)-((el s.2.2.2.2.1 q.1).2.2.1+EY s+2)+max 0 ((el s.2.2.2.2.1 q.1).2.2.1-1-q.2)
 else I0 s P q.1+(ER s+Gd s+1)-t
structure YQ (s:Ad) (q:Ej) (now:Aq) (t:Int):Prop where
 pl:Pl s now
 ok:Js s q
 t0:0≤t
 inv:(bI s q.1 now t∧t≤ER s+Gd s)∨Fz s now q.1
theorem wT {s:Ad} (h:SOK s) {q:Ej} {now:Aq} (hp:Pl s now) (hq:Js s q):YQ s q now 0 :=
 ⟨hp,hq,Int.le_refl _,.inl ⟨gS h _ _,by have:=Ki h;omega⟩⟩
theorem aF {s:Ad} (hs:Bm s) (hS:Be s) (hb:EY s≤100000) {q q':Ej} {now:Aq} {t:Int} (hp:Pl s now) (t0:0≤t) (hI:bI s q.1 now t) (hq':Js s q') (e:q'.1=q.1) (ht:t≤ER s+Gd s):YQ s q' (BW s now q'.1) (t+1):=by
 have h:=sok hs hS
 have ht2:=Ki h
 have htv:EY s=ER s+Gd s+2:=rfl
 have hph:=php hs hS hq'.p0 hq'.p1
 rw[e] at hph ⊢
 refine ⟨dP h hp _,hq',by omega,?_⟩
 rw[e]
 by_cases c:t+1≤ER s+Gd s
 ·exact .inl ⟨AdO h hp t0 (by omega) hI,c⟩
 ·exact .inr (AdN h hp hph (Aef h) (by omega) hI)
theorem Abx {s:Ad} (hs:Bm s) (hS:Be s) (hb:EY s≤100000) {P:Int} (P0:0≤P) (P1:P<Aa s.2.2.2.2.1) {q q':Ej} {now:Aq} {t calls gaps:Int} (hI:YQ s q now t) (hcall:E8 s calls P=true) (hnf:¬Fz s now P)
 (hN:Od s q (Dl s now q.1) calls gaps q') (hq':Js s q'):1≤EE s P q now t∧∃t',YQ s q' (BW s now q'.1) t'∧EE s P q' (BW s now q'.1) t'+1≤EE s P q now t:=by
 have h:=sok hs hS
 have ht2:=Ki h
 have htv:EY s=ER s+Gd s+2:=rfl
 have hph:=hS.phased.1 q.1 _ (AI hI.ok.p0 hI.ok.p1)
 have hmax:=hph.max
 have hle:=hph.le
 have ha:=eT h hS P0 P1 hI.ok.p0 hI.ok.p1
 have t0:=hI.t0
 have s0:=hI.ok.s0
 by_cases hf:Fz s now q.1
 ·have hne:P≠q.1:=fun e=>hnf (by rw[e];exact hf)
  have hfb:=fullB_iff.2 hf
  rw[hfb] at hN
  obtain⟨i0,j0,j1,j2,j3⟩:=gJ hI.ok.p0 hI.ok.p1 P0 P1 hne
  have hothers:¬ ∀i,1≤i→i<Aa s.2.2.2.2.1→E8 s calls (Dd s q.1 i)=false:=fun hall=>by
   have:=hall i0 j0 j1
   rw[j2,hcall] at this;cases this
  have hi0:i0=P-q.1∧q.1<P∨i0=P-q.1+Aa s.2.2.2.2.1∧P<q.1:=by
   have:=hI.ok.p0;have:=hI.ok.p1
   rcases j3 with e|e
   ·exact .inl ⟨e,by omega⟩
   ·exact .inr ⟨e,by omega⟩
  have hm1:=YV h hS P1 hI.ok.p0 hI.ok.p1 (i:=i0) j0 (Int.le_refl _) hi0
  rw[j2,zJ] at hm1
  have hL:EE s P q now t=I0 s P q.1+(ER s+Gd s+1)-((el s.2.2.2.2.1 q.1).2.2.1+EY s+2)+max 0 ((el s.2.2.2.2.1 q.1).2.2.1-1-q.2):=by unfold EE;rw[if_pos hf]
  rw[hL]
  refine ⟨by omega,?_⟩
  by_cases c:(min (q.2+1) 1048576<(el s.2.2.2.2.1 q.1).2.1∨(AA gaps q.1=false∧min (q.2+1) 1048576<(el s.2.2.2.2.1 q.1).2.2.1)∨∀i,1≤i→i<Aa s.2.2.2.2.1→E8 s calls (Dd s q.1 i)=false)
  ·have e:=hN.stay rfl c
   have hlt:min (q.2+1) 1048576<(el s.2.2.2.2.1 q.1).2.2.1:=by
    rcases c with c|c|c
    ·omega
    ·exact c.2
    ·exact absurd c hothers
   have e1:q'.1=q.1:=by rw[e]
   have e2:q'.2=min (q.2+1) 1048576:=by rw[e]
   have hfs:Fz s (BW s now q'.1) q'.1:=by rw[e1];exact Zs h hI.pl hf
   refine ⟨t,⟨dP h hI.pl _,hq',t0,.inr hfs⟩,?_⟩
   unfold EE
   rw[if_pos hfs,e1,e2]
   omega
  ·obtain⟨i,k0,k1,k2,k3,e⟩:=hN.move rfl c
   have hi:i≤i0:=by
    apply Classical.byContradiction
    intro hn
    have:=k3 i0 j0 (by omega)
    rw[j2,hcall] at this;cases this
   have hmv:=YV h hS P1 hI.ok.p0 hI.ok.p1 (i:=i) k0 hi hi0
   have e1:q'.1=Dd s q.1 i:=by rw[e]
   have e2:q'.2=0:=by rw[e]
   have hS0:=aF (q:=q') hs hS hb hI.pl (Int.le_refl 0) (gS h _ _) hq' rfl (by omega)
   refine ⟨0+1,hS0,?_⟩
   have hph':=(hS.phased.1 q'.1 _ (AI hq'.p0 hq'.p1)).max
   unfold EE
   rw[e2,e1] at *
   split<;>omega
 ·have hfb:=fullB_not.2 hf
  rw[hfb] at hN
  have e:=hN.off rfl
  have e1:q'.1=q.1:=by rw[e]
  have e2:q'.2=0:=by rw[e]
  obtain⟨hT,ht⟩:=hI.inv.resolve_right hf
  have hL:EE s P q now t=I0 s P q.1+(ER s+Gd s+1)-t:=by unfold EE;rw[if_neg hf]
  rw[hL]
  refine ⟨by omega,t+1,aF hs hS hb hI.pl t0 hT hq' e1 ht,?_⟩
  unfold EE
  rw[e1,e2]
  split<;>omega
theorem AaX {s:Ad} (h:SOK s) (hS:Be s) {P:Int} (P0:0≤P) (P1:P<Aa s.2.2.2.2.1) {q:Ej} {now:Aq} (hq:Js s q):EE s P q now 0≤HZ s:=by
 have ha:=eT h hS P0 P1 hq.p0 hq.p1
 have ht:=Ki h
 have hm:=(hS.phased.1 q.1 _ (AI hq.p0 hq.p1)).max
 have h0:=hq.s0
 unfold EE HZ EY
 split<;>omega
end Go.Proofs.YtmmkfcpdfnjgjaaGreatDoor
namespace Go.Proofs.YtmmkfcpdfnjgjaaGreatDoor.Pn
open Go.Den
def IS (s:Ad) (k:Int):Int:=(el s.2.2.2.2.1 k).2.1
def Gw (s:Ad) (k:Int):Int:=BI s k-IS s k
structure AgR (s:Ad) (k:Int):Prop where
 min:1≤IS s k∧IS s k≤1048576
 clr:0≤Gw s k∧Gw s k≤1048576
 clear:∀a b,0≤a→a<Aa s.2.1→0≤b→b<Aa s.2.1→inP s k a=true→inP s (Hf s k) b=true→BE s a b=true→betw s a b≤Gw s k
theorem UZ {s:Ad} (hx:Bm s) (h:Be s) {k:Int} (k0:0≤k) (k1:k<Aa s.2.2.2.2.1):AgR s k:=by
 have hp:=AI k0 k1
 obtain⟨_,pn,m,hpn,hci,hv,n1,n2⟩:=N6 hx h.shape h.apart h.phased hp
 have hph:=h.phased.1 k _ hp
 have hmin:IS s k=(el s.2.2.2.2.1 k).2.1:=rfl
 have hc:Gw s k=m:=by unfold Gw;omega
 have hle:=lO hx h.shape h.apart hci
 refine ⟨hph.min,by rw[hc];exact hle,fun a b a0 a1 b0 b1 ha hb hab=>?_⟩
 rw[hc]
 refine hci.2.1 a _ a0 a1 ⟨ha,el s.2.2.1 a,el s.2.2.2.1 a,b,AI a0 (by rw[h.shape.a];exact a1),AI a0 (by rw[h.shape.b];exact a1),hab,?_,?_⟩
 ·have e:=Df hpn
  unfold inP at hb
  rw[e] at hb;exact hb
 ·exact AI b0 (by rw[h.shape.rows a _ (AI a0 (by rw[h.shape.b];exact a1))];exact b1)
theorem QU {s:Ad} (hs:ShapeOK s) {k:Int} (k0:0≤k) (k1:k<Aa s.2.2.2.2.1):E2 (s,k)=some (Hf s k)∧Hf s k=if k+1<Aa s.2.2.2.2.1 then k+1 else 0:=by
 have p1:=hs.p1
 have p2:=hs.p2
 constructor
 ·unfold E2 Hf
  rw[Af _ _ (by simp;omega),Ak (k+1) (by omega) (by omega)]
  rfl
 ·unfold Hf
  split
  ·rename_i c;exact Int.tmod_eq_of_lt (by omega) c
  ·have:k+1=Aa s.2.2.2.2.1:=by omega
   rw[this,Int.tmod_self]
def HI (s:Ad) (p:Az) (k:Nat) (u:Int):Int:=if el p.2.2 (k:Int)-Gw s (k:Int)≤u then Hf s (k:Int) else (k:Int)
theorem Afb {s:Ad} {p:Az} {t:Int} (hx:Bm s) (h:Be s) (hc:Aw s=some 0) (N:Lg s p) {k:Nat} {u:Int} (hk:k<nV s) (hat:Em (s,(p,t))=some ((k:Int),(u,0))):CF (s,(p,t))=some (HI s p k u,0):=by
 have hnl:((nV s:Nat):Int)=Aa s.2.2.2.2.1:=rfl
 have hln:Aa p.2.2=(nV s:Int):=by unfold Aa;rw[N.len]
 have hidx:=AI (l:=p.2.2) (i:=(k:Int)) (by omega) (by omega)
 have hph:=AI (l:=s.2.2.2.2.1) (i:=(k:Int)) (by omega) (by omega)
 have T:=UZ hx h (k:=(k:Int)) (by omega) (by omega)
 have nn:=N.needs k hk
 have e:=N.ends (k+1) (by omega)
 have e0:=N.ends k (by omega)
 have cy:=N.cyc
 rw[IB] at e
 have hcl:Fh (s,(k:Int))=some (Gw s (k:Int)):=oU hx h hc hph
 have hcc:=T.clr
 have hmm:=T.min
 unfold CF
 rw[Ab _ _ hat]
 try simp only
 rw[Ag (b:=!((0:Int)==0)) _ _ rfl,Ab _ _ hidx,Ab _ _ hcl,Ak (el p.2.2 (k:Int)-Gw s (k:Int)) (by omega) (by omega)]
 unfold HI
 by_cases c:el p.2.2 (k:Int)-Gw s (k:Int)≤u
 ·rw[Af _ _ (decide_eq_true c),if_pos c,Ab _ _ (QU h.shape (by omega) (by omega)).1]
 ·rw[Ag _ _ (decide_eq_false c),if_neg c]
theorem Acj {x a n:Nat} (h:∀i,i<n→x.testBit (a+i)=false):B5 x a n=0:=by
 unfold B5
 rw[List.length_eq_zero_iff,List.filter_eq_nil_iff]
 intro i hi
 rw[h i (by simpa using hi)];decide
theorem Aci {x n:Nat} (h:B5 x 0 n=n):∀i,i<n→x.testBit i=true:=fun i hi=>by
 unfold B5 at h
 have:(List.range n).filter (fun i=>x.testBit (0+i))=List.range n:=by
  apply List.filter_eq_self.2
  apply List.length_filter_eq_length_iff.1
  rw[h,List.length_range]
 have hm:=(List.filter_eq_self.1 this) i (by simpa using hi)
 simpa using hm
theorem AfT {l:List I9}:∀ {x:Int},Ax x→(∀p∈l,Ax p.1)→Ax (l.foldl (fun s p=>Aj .or .u32 s p.1) x)∧∀j,AA (l.foldl (fun s p=>Aj .or .u32 s p.1) x) j=true→AA x j=true∨∃p∈l,AA p.1 j=true:=by
 induction l with
 |nil=>exact fun {x} hx _=>⟨hx,fun j h=>.inl h⟩
 |cons p l ih =>
  intro x hx hp
  have hpu:=hp p (by simp)
  obtain⟨h1,h2⟩:=ih (x:=Aj .or .u32 x p.1) (R6 hx hpu) fun q hq=>hp q (by simp[hq])
  refine ⟨h1,fun j hj=>?_⟩
  rcases h2 j hj with h3|⟨q,hq,h4⟩
  ·rw[Qy hx hpu,Bool.or_eq_true] at h3
   exact h3.elim .inl fun h=>.inr ⟨p,by simp,h⟩
  ·exact .inr ⟨q,by simp[hq],h4⟩
theorem zO {s:Ad} (hx:Bm s) (h:Be s) {j:Int} (j0:0≤j) (j1:j<Aa s.2.1):∃k:Int,0≤k∧k<Aa s.2.2.2.2.1∧inP s k j=true:=by
 obtain⟨hu,hb⟩:=AfT (l:=s.2.2.2.2.1) (x:=0) ⟨by decide,by decide⟩ fun p hp=>(hx.ps p hp).1
 have hc:cnt (Lm s)=Aa s.2.1:=h.phased.2
 have n2:=h.shape.n2
 have n1:=h.shape.n1
 have hhigh:∀i,Aa s.2.1≤i→AA (Lm s) i=false:=fun i hi=>by
  apply Bool.eq_false_iff.2
  intro hh
  rcases hb i hh with h0|⟨p,hp,hpb⟩
  ·simp[AA] at h0
  ·obtain⟨k,hk⟩:=D9 hp
   have:=(MX h.shape (hx.ps p hp).1 (h.phased.1 k p hk).hi hpb).2
   omega
 obtain⟨n,hn⟩:∃n:Nat,Aa s.2.1=(n:Int):=⟨s.2.1.length,rfl⟩
 have hcn:B5 (Lm s).toNat 0 n=n:=by
  have h32:B5 (Lm s).toNat 0 32=B5 (Lm s).toNat 0 n+B5 (Lm s).toNat (0+n) (32-n):=by
   rw[←Om];congr 1;omega
  have hz:B5 (Lm s).toNat (0+n) (32-n)=0:=Acj fun i hi=>by
   have:=hhigh ((0+n+i:Nat):Int) (by omega)
   unfold AA at this
   rw[decide_eq_true (by omega:(0:Int)≤((0+n+i:Nat):Int)),Bool.true_and,Int.toNat_natCast] at this
   exact this
  have:(B5 (Lm s).toNat 0 32:Int)=Aa s.2.1:=hc
  omega
 have hbit:=Aci hcn j.toNat (by omega)
 have hbj:AA (Lm s) j=true:=by unfold AA;simp[j0,hbit]
 rcases hb j hbj with h0|⟨p,hp,hpb⟩
 ·simp[AA] at h0
 ·obtain⟨k,hk⟩:=D9 hp
  obtain⟨k0,k1,_⟩:=An hk
  exact ⟨k,k0,k1,by unfold inP;rw[Df hk];exact hpb⟩
structure OffP (s:Ad) (now:Aq) (j a:Int):Prop where
 a0:0≤a
 ended:a≤AP (el now.1 j).2.2
 green:(el now.1 j).1=2→a=0∧(el s.2.1 j).2.1≤AP (el now.1 j).2.1
 yellow:(el now.1 j).1=3→a≤AP (el now.1 j).2.1∧a≤(el s.2.1 j).2.2
structure OnP (now:Aq) (j b:Int):Prop where
 green:(el now.1 j).1=2
 since:b≤AP (el now.1 j).2.1
theorem OffP.weaken {s:Ad} {now:Aq} {j a b:Int} (h:OffP s now j a) (b0:0≤b) (hb:b≤a):OffP s now j b where
 a0:=b0
 ended:=by have:=h.ended;omega
 green:=fun e=>⟨by have:=(h.green e).1;omega,(h.green e).2⟩
 yellow:=fun e=>by have:=h.yellow e;omega
theorem MB {s:Ad} {now:Aq} (h:SOK s) (hp:Pl s now) {q j a:Int} (j0:0≤j) (j1:j<Aa s.2.1) (hj:inP s q j=false) (ha:a<1000000) (hO:OffP s now j a):OffP s (BW s now q) j (a+1):=by
 have G:=LA h hp q j0 j1
 have gg:=h.grp j _ (AI j0 j1)
 rw[hj] at G
 have hr:=G.range
 have a0:=hO.a0
 have he:=hO.ended
 have w3:(el now.1 j).1=1∨(el now.1 j).1=2∨(el now.1 j).1=3:=by omega
 have fin:∀ {w':A5},el (BW s now q).1 j=w'→a+1≤AP w'.2.2→w'.1≠2→(w'.1=3→a+1≤AP w'.2.1∧a+1≤(el s.2.1 j).2.2)→OffP s (BW s now q) j (a+1):=fun {w'} e h1 h2 h3 =>
  ⟨by omega,by rw[e];exact h1,fun hh=>by rw[e] at hh;exact absurd hh h2,fun hh=>by rw[e] at hh ⊢;exact h3 hh⟩
 rcases w3 with e|e|e
 ·rcases G.red e with ⟨h1,h2⟩|⟨h1,_⟩
  ·refine fin rfl ?_ (by omega) (fun hh=>by omega)
   rw[h2];simp only[EP,I4] at *;omega
  ·cases h1
 ·obtain⟨h1,h2⟩:=hO.green e
  obtain⟨k1,k2,k3⟩:=G.greenOff e rfl h2
  refine fin rfl ?_ (by omega) (fun _=>?_)
  ·rw[k3];simp only[EP,I4] at *;omega
  ·rw[k2];simp only[EP] at *;omega
 ·obtain⟨h1,h2⟩:=hO.yellow e
  by_cases c:AP (el now.1 j).2.1<(el s.2.1 j).2.2
  ·obtain⟨k1,k2,k3⟩:=G.yellowOn e c
   refine fin rfl ?_ (by omega) (fun _=>?_)
   ·rw[k3];simp only[EP,I4] at *;omega
   ·rw[k2];simp only[EP,I4] at *;omega
  ·obtain⟨k1,k2⟩:=G.yellowOff e (by omega)
   refine fin rfl ?_ (by omega) (fun hh=>by omega)
   rw[k2];simp only[EP,I4] at *;omega
theorem Agc {s:Ad} {now:Aq} (h:SOK s) (hp:Pl s now) {q j b:Int} (j0:0≤j) (j1:j<Aa s.2.1) (hj:inP s q j=true) (hb:b<1000000) (hO:OnP now j b):OnP (BW s now q) j (b+1):=by
 obtain⟨k1,k2,_⟩:=(LA h hp q j0 j1).greenOn hO.green (.inl hj)
 have:=hO.since
 exact ⟨k1,by rw[k2];simp only[EP,I4] at *;omega⟩
theorem Ac8 {s:Ad} {now:Aq} {j b:Int} (hO:OnP now j b) (hb:(el s.2.1 j).2.1≤b):OffP s now j 0 where
 a0:=by omega
 ended:=by rw[EP];omega
 green:=fun _=>⟨rfl,by have:=hO.since;omega⟩
 yellow:=fun e=>by have:=hO.green;omega
theorem AeM {s:Ad} {now:Aq} (h:SOK s) (hp:Pl s now) {q j:Int} (j0:0≤j) (j1:j<Aa s.2.1) (hg:(el (BW s now q).1 j).1=2):OnP (BW s now q) j 1:=by
 have G:=LA h hp q j0 j1
 have hr:=G.range
 have w3:(el now.1 j).1=1∨(el now.1 j).1=2∨(el now.1 j).1=3:=by omega
 refine ⟨hg,?_⟩
 rcases w3 with e|e|e
 ·rcases G.red e with ⟨h1,_⟩|⟨_,_,h2,_⟩
  ·omega
  ·rw[h2];simp only[EP];omega
 ·by_cases c:inP s q j=true∨AP (el now.1 j).2.1<(el s.2.1 j).2.1
  ·rw[(G.greenOn e c).2.1];simp only[EP,I4];omega
  ·have:=(G.greenOff e (by apply Bool.eq_false_iff.2;exact fun hh=>c (.inl hh)) (by omega)).1;omega
 ·by_cases c:AP (el now.1 j).2.1<(el s.2.1 j).2.2
  ·have:=(G.yellowOn e c).1;omega
  ·have:=(G.yellowOff e (by omega)).1;omega
theorem ZP {s:Ad} {now:Aq} (h:SOK s) (hp:Pl s now) {q j:Int} (j0:0≤j) (j1:j<Aa s.2.1) (hj:inP s q j=true) (hn:(el now.1 j).1≠3):(el (BW s now q).1 j).1≠3:=by
 have G:=LA h hp q j0 j1
 have hr:=G.range
 have w3:(el now.1 j).1=1∨(el now.1 j).1=2:=by omega
 rcases w3 with e|e
 ·rcases G.red e with ⟨h1,_⟩|⟨_,h1,_⟩<;>omega
 ·have:=(G.greenOn e (.inl hj)).1;omega
theorem AcG {s:Ad} {now:Aq} {q:Int} (h:SOK s) (hph:PhP s q) (hG:BS s now) (hf:Fz s (BW s now q) q):Pl s now:=by
 obtain⟨a,a0,a1,ha⟩:=hph.one
 have h2:=hf a a0 a1 ha
 have hlo:=hG.may.st.lo
 by_cases c:now.2.2=true∨0<now.2.1
 ·exfalso
  rw[cC hG q a0 a1,J6] at h2
  unfold Cz at h2
  rw[if_neg (by rw[Rt h];simp),if_pos c] at h2
  have hl:=GK s q
  rw[Df (x:=(1:Int)) (by
   unfold AQ
   rw[Bw a0,List.getElem?_replicate,if_pos (by omega)])] at h2
  omega
 ·exact ⟨hG,by omega,by apply Bool.eq_false_iff.2;exact fun hh=>c (.inl hh)⟩
end Go.Proofs.YtmmkfcpdfnjgjaaGreatDoor.Pn
namespace Go.Proofs.YtmmkfcpdfnjgjaaGreatDoor.Pn
open Go.Den
def Cov (s:Ad) (q:Int) (m:Int) (j:Int):Prop:=∃i,1≤i∧i≤m∧inP s ((q-i)%Aa s.2.2.2.2.1) j=true
def Ge (s:Ad) (q:Int):Int:=if q+1<Aa s.2.2.2.2.1 then q+1 else 0
theorem AeJ {n q i:Int} (q0:0≤q) (q1:q<n):((if q+1<n then q+1 else 0)-(i+1))%n=(q-i)%n:=by
 split
 ·congr 1;omega
 ·have:q=n-1:=by omega
  subst this
  rw[show (0:Int)-(i+1)=(n-1-i)+n*(-1) by omega,Int.add_mul_emod_self_left]
theorem lT {s:Ad} {q m j:Int} (q0:0≤q) (q1:q<Aa s.2.2.2.2.1) (m0:0≤m):Cov s (Ge s q) (m+1) j↔inP s q j=true∨Cov s q m j:=by
 have key:=fun i=>AeJ (n:=Aa s.2.2.2.2.1) (q:=q) (i:=i) q0 q1
 constructor
 ·rintro⟨i,i1,i2,hi⟩
  have hk:=key (i-1)
  rw[show i-1+1=i by omega] at hk
  unfold Ge at hi
  rw[hk] at hi
  by_cases e:i=1
  ·subst e
   rw[show q-(1-1)=q by omega,Int.emod_eq_of_lt q0 q1] at hi
   exact .inl hi
  ·exact .inr ⟨i-1,by omega,by omega,hi⟩
 ·rintro (h|⟨i,i1,i2,hi⟩)
  ·refine ⟨1,by omega,by omega,?_⟩
   have hk:=key 0
   rw[Int.sub_zero,Int.emod_eq_of_lt q0 q1,Int.zero_add] at hk
   unfold Ge
   rw[hk]
   exact h
  ·refine ⟨i+1,by omega,by omega,?_⟩
   unfold Ge
   rw[key i];exact hi
theorem yN {s:Ad} (hx:Bm s) (h:Be s) {q m j:Int} (q0:0≤q) (q1:q<Aa s.2.2.2.2.1) (hm:Aa s.2.2.2.2.1≤m) (j0:0≤j) (j1:j<Aa s.2.1):Cov s q m j:=by
 obtain⟨k,k0,k1,hk⟩:=zO hx h j0 j1
 refine ⟨if k<q then q-k else q-k+Aa s.2.2.2.2.1,by split<;>omega,by split<;>omega,?_⟩
 have:(q-(if k<q then q-k else q-k+Aa s.2.2.2.2.1))%Aa s.2.2.2.2.1=k:=by
  split
  ·rw[show q-(q-k)=k by omega,Int.emod_eq_of_lt k0 k1]
  ·rw[show q-(q-k+Aa s.2.2.2.2.1)=k+Aa s.2.2.2.2.1*(-1) by omega,Int.add_mul_emod_self_left,Int.emod_eq_of_lt k0 k1]
 rw[this];exact hk
structure Pg (s:Ad):Prop where
 yellow:∀k a,0≤k→k<Aa s.2.2.2.2.1→0≤a→a<Aa s.2.1→(el s.2.1 a).2.2<IS s k
 betw:∀k a b,0≤k→k<Aa s.2.2.2.2.1→0≤a→a<Aa s.2.1→0≤b→b<Aa s.2.1→betw s a b<IS s k
def AtB (s:Ad) (now:Aq) (q pr m:Int):Prop:=∀j,0≤j→j<Aa s.2.1→Cov s q m j →
 (inP s q j=true→(el now.1 j).1≠3)∧(inP s q j=false→∃a,OffP s now j a∧(inP s pr j=true→Gw s pr≤a)∧(inP s pr j=false→IS s pr≤a))
def AtM (s:Ad) (now:Aq) (q q' u v m:Int):Prop:=∀j,0≤j→j<Aa s.2.1→Cov s q' m j →
 (inP s q j=true→(u≤v→OnP now j u)∧(v<u→(inP s q' j=true→(el now.1 j).1=2)∧(inP s q' j=false→OffP s now j (u-v)))) ∧
 (inP s q j=false→(inP s q' j=false→OffP s now j u)∧(inP s q' j=true→(u≤v→OffP s now j u)∧(v<u→(el now.1 j).1≠3)))
theorem oP {s:Ad} {now:Aq} {j a:Int} (hO:OffP s now j a) (ha:(el s.2.1 j).2.2<a):(el now.1 j).1≠3:=fun e=>by
 have:=(hO.yellow e).2
 omega
theorem AgX {s:Ad} {now:Aq} {q pr m:Int} (hx:Bm s) (hS:Be s) (hsh:Pg s) (hp:Pl s now) (q0:0≤q) (q1:q<Aa s.2.2.2.2.1) (pr0:0≤pr) (pr1:pr<Aa s.2.2.2.2.1) (hpr:Hf s pr=q)
 (hm:Aa s.2.2.2.2.1≤m) (hB:AtB s now q pr m):Fz s (BW s now q) q:=fun j j0 j1 hj=>by
 have h:=sok hx hS
 have hph:=php hx hS q0 q1
 have T:=UZ hx hS pr0 pr1
 have G:=LA h hp q j0 j1
 have hr:=G.range
 have hny:=(hB j j0 j1 (yN hx hS q0 q1 hm j0 j1)).1 hj
 have w3:(el now.1 j).1=1∨(el now.1 j).1=2:=by omega
 rcases w3 with e|e
 ·refine aW h hp j0 j1 hj e fun k k0 k1 hjk=>?_
  have hk:inP s q k=false:=by
   apply Bool.eq_false_iff.2
   intro hk
   have:=hph.apart j k j0 j1 hj hk
   rw[hjk] at this;cases this
  obtain⟨p1,p2,_⟩:=h.pair j k j0 j1 k0 k1
  have hkj:BE s k j=true:=by rw[←p1];exact hjk
  have hby:=((h.pair k j k0 k1 j0 j1).2.1 hkj).2.1
  have gk:=h.grp k _ (AI k0 k1)
  obtain⟨a,ha,ha1,ha2⟩:=(hB k k0 k1 (yN hx hS q0 q1 hm k0 k1)).2 hk
  have hba:betw s k j≤a:=by
   by_cases c:inP s pr k=true
   ·have:=T.clear k j k0 k1 j0 j1 c (by rw[hpr];exact hj) hkj
    have:=ha1 c
    omega
   ·have:=ha2 (Bool.eq_false_iff.2 c)
    have:=hsh.betw pr k j pr0 pr1 k0 k1 j0 j1
    omega
  have hen:=ha.ended
  have hrk:=(LA h hp q k0 k1).range
  refine ⟨hk,?_,?_⟩
  ·have w3:(el now.1 k).1=1∨(el now.1 k).1=2∨(el now.1 k).1=3:=by omega
   rcases w3 with f|f|f
   ·exact .inl f
   ·have:=(ha.green f).1;omega
   ·exact .inr ⟨f,by have:=(ha.yellow f).1;omega⟩
  ·simp only[EP] at hen
   omega
 ·exact (G.greenOn e (.inl hj)).1
theorem AgY {s:Ad} {now:Aq} {q pr m v:Int} (hx:Bm s) (hS:Be s) (hG:BS s now) (q0:0≤q) (q1:q<Aa s.2.2.2.2.1) (hv:1≤v) (m0:0≤m) (hB:AtB s now q pr m)
 (hf:Fz s (BW s now q) q):AtM s (BW s now q) q (Ge s q) 1 v (m+1):=fun j j0 j1 hc=>by
 have h:=sok hx hS
 have hp:=AcG h (php hx hS q0 q1) hG hf
 have hc2:=(lT q0 q1 m0).1 hc
 refine ⟨fun hj=>⟨fun _=>AeM h hp j0 j1 (hf j j0 j1 hj),fun hh=>by omega⟩,fun hj=>?_⟩
 have hcv:Cov s q m j:=by
  rcases hc2 with hh|hh
  ·rw[hj] at hh;cases hh
  ·exact hh
 obtain⟨a,ha,_⟩:=(hB j j0 j1 hcv).2 hj
 have h1:=MB h hp j0 j1 hj (by omega) (ha.weaken (b:=0) (by omega) ha.a0)
 exact ⟨fun _=>h1,fun _=>⟨fun _=>h1,fun hh=>by omega⟩⟩
theorem Ahf {s:Ad} {now:Aq} {q q' u v m:Int} (hx:Bm s) (hS:Be s) (hsh:Pg s) (hp:Pl s now) (q0:0≤q) (q1:q<Aa s.2.2.2.2.1) (u1:1≤u) (u2:u<100000) (hv:IS s q≤v)
 (hM:AtM s now q q' u v m):AtM s (BW s now (if v≤u then q' else q)) q q' (u+1) v m:=fun j j0 j1 hc=>by
 have h:=sok hx hS
 have hph:=php hx hS q0 q1
 obtain⟨h1,h2⟩:=hM j j0 j1 hc
 by_cases c:v≤u
 ·rw[if_pos c]
  refine ⟨fun hj=>⟨fun hh=>by omega,fun _=>⟨fun hj'=>?_,fun hj'=>?_⟩⟩,fun hj=>⟨fun hj'=>?_,fun hj'=>⟨fun hh=>by omega,fun _=>?_⟩⟩⟩
  ·have hg:(el now.1 j).1=2:=by
    by_cases d:u≤v
    ·exact ((h1 hj).1 d).green
    ·exact ((h1 hj).2 (by omega)).1 hj'
   exact ((LA h hp q' j0 j1).greenOn hg (.inl hj')).1
  ·by_cases d:u≤v
   ·have hon:=(h1 hj).1 d
    have:=MB h hp j0 j1 hj' (by omega) (Ac8 (s:=s) hon (by have:=hph.least j j0 j1 hj;unfold IS at hv;omega))
    rw[show u+1-v=0+1 by omega];exact this
   ·have:=MB h hp j0 j1 hj' (by have:=(UZ hx hS q0 q1).min;omega) (((h1 hj).2 (by omega)).2 hj')
    rw[show u+1-v=u-v+1 by omega];exact this
  ·exact MB h hp j0 j1 hj' (by omega) ((h2 hj).1 hj')
  ·refine ZP h hp j0 j1 hj' ?_
   by_cases d:u≤v
   ·exact oP (((h2 hj).2 hj').1 d) (by have:=hsh.yellow q j q0 q1 j0 j1;omega)
   ·exact ((h2 hj).2 hj').2 (by omega)
 ·rw[if_neg c]
  refine ⟨fun hj=>⟨fun _=>Agc h hp j0 j1 hj (by omega) ((h1 hj).1 (by omega)),fun hh=>by omega⟩,fun hj=>⟨fun hj'=>?_,fun hj'=>⟨fun _=>?_,fun hh=>by omega⟩⟩⟩
  ·exact MB h hp j0 j1 hj (by omega) ((h2 hj).1 hj')
  ·exact MB h hp j0 j1 hj (by omega) (((h2 hj).2 hj').1 (by omega))
theorem AhO {s:Ad} {now:Aq} {q q' S m:Int} (hx:Bm s) (hS:Be s) (hsh:Pg s) (q0:0≤q) (q1:q<Aa s.2.2.2.2.1) (hv:IS s q≤S-Gw s q)
 (hM:AtM s now q q' S (S-Gw s q) m):AtB s now q' q m:=fun j j0 j1 hc=>by
 have h:=sok hx hS
 have T:=UZ hx hS q0 q1
 have hph:=php hx hS q0 q1
 have t1:=T.clr
 have t2:=T.min
 obtain⟨h1,h2⟩:=hM j j0 j1 hc
 refine ⟨fun hj'=>?_,fun hj'=>?_⟩
 ·by_cases hj:inP s q j=true
  ·by_cases d:S≤S-Gw s q
   ·have:=((h1 hj).1 d).green;omega
   ·have:=((h1 hj).2 (by omega)).1 hj';omega
  ·have hj:=Bool.eq_false_iff.2 hj
   by_cases d:S≤S-Gw s q
   ·exact oP (((h2 hj).2 hj').1 d) (by have:=hsh.yellow q j q0 q1 j0 j1;omega)
   ·exact ((h2 hj).2 hj').2 (by omega)
 ·by_cases hj:inP s q j=true
  ·by_cases d:S≤S-Gw s q
   ·refine ⟨0,Ac8 (s:=s) ((h1 hj).1 d) (by have:=hph.least j j0 j1 hj;unfold IS at hv;omega),fun _=>by omega,fun hh=>by rw[hj] at hh;cases hh⟩
   ·refine ⟨_,((h1 hj).2 (by omega)).2 hj',fun _=>by omega,fun hh=>by rw[hj] at hh;cases hh⟩
  ·have hj:=Bool.eq_false_iff.2 hj
   refine ⟨S,(h2 hj).1 hj',fun hh=>(by rw[hj] at hh;cases hh),fun _=>by omega⟩
theorem Ahe {s:Ad} {now:Aq} {q u v m:Int} (hx:Bm s) (hS:Be s) (hp:Pl s now) (q0:0≤q) (q1:q<Aa s.2.2.2.2.1) (m1:1≤m) (hw:(if v≤u then Ge s q else q)=q)
 (hM:AtM s now q (Ge s q) u v m):Fz s (BW s now q) q:=by
 refine Zs (sok hx hS) hp fun j j0 j1 hj=>?_
 have hc:Cov s (Ge s q) m j:=by
  have:=(lT (s:=s) (j:=j) (m:=m-1) q0 q1 (by omega)).2 (.inl hj)
  rwa [show m-1+1=m by omega] at this
 obtain⟨h1,_⟩:=hM j j0 j1 hc
 by_cases d:u≤v
 ·exact ((h1 hj).1 d).green
 ·rw[if_pos (by omega)] at hw
  exact ((h1 hj).2 (by omega)).1 (by rw[hw];exact hj)
end Go.Proofs.YtmmkfcpdfnjgjaaGreatDoor.Pn
namespace Go.Proofs.YtmmkfcpdfnjgjaaGreatDoor.Pn
open Go.Den
theorem Aa9 {s:Ad} {p:Az} (N:Lg s p) (t:Int):Cj p (t+1)=if Cj p t+1<p.1 then Cj p t+1 else 0:=by
 obtain⟨a,b⟩:=Yz N t
 have h:=Int.emod_add_mul_ediv (t+p.1-p.2.1) p.1
 have hq:Cj p t+p.1*((t+p.1-p.2.1)/p.1)=t+p.1-p.2.1:=h
 have c:=N.cyc
 generalize (t+p.1-p.2.1)/p.1=q at hq
 split
 ·rename_i c
  exact Ac0 (q:=q) (by omega) (by omega) c
 ·rename_i c
  refine Ac0 (q:=q+1) ?_ (by omega) (by omega)
  rw[Int.mul_add];omega
def PB (s:Ad) (q:Int):Int:=if q=0 then Aa s.2.2.2.2.1-1 else q-1
theorem prev_next {s:Ad} {q:Int} (q0:0≤q) (q1:q<Aa s.2.2.2.2.1):PB s (Ge s q)=q:=by
 unfold PB Ge
 by_cases c:q+1<Aa s.2.2.2.2.1
 ·rw[if_pos c,if_neg (by omega)];omega
 ·rw[if_neg c,if_pos rfl];omega
theorem next_prev {s:Ad} {q:Int} (q0:0≤q) (q1:q<Aa s.2.2.2.2.1):0≤PB s q∧PB s q<Aa s.2.2.2.2.1∧Ge s (PB s q)=q:=by
 unfold PB Ge
 by_cases c:q=0
 ·rw[if_pos c,if_neg (by omega)];omega
 ·rw[if_neg c,if_pos (by omega)];omega
def AtT (s:Ad) (p:Az) (t m:Int) (now:Aq):Prop:=∀k:Nat,k<nV s→Ko p k (Cj p t) →
 (Cj p t=Dg p k→AtB s now k (PB s k) m)∧(Dg p k<Cj p t→AtM s now k (Ge s k) (Cj p t-Dg p k) (el p.2.2 (k:Int)-Gw s k) m)
theorem NP {s:Ad} {p:Az} (hx:Bm s) (hS:Be s) (hsh:Pg s) (N:Lg s p) {t m:Int} {now:Aq} {k:Nat} (hk:k<nV s) (hpt:Ko p k (Cj p t))
 (hM:AtM s now k (Ge s k) (Cj p t-Dg p k+1) (el p.2.2 (k:Int)-Gw s k) m):AtT s p (t+1) m now:=fun k2 hk2 hpt2=>by
 have hnl:((nV s:Nat):Int)=Aa s.2.2.2.2.1:=rfl
 obtain⟨a,b⟩:=hpt
 have hsucc:=IB p k
 have hps:=Aa9 N t
 have hall:=N.all
 have q0:(0:Int)≤(k:Int):=by omega
 have q1:(k:Int)<Aa s.2.2.2.2.1:=by omega
 have nn:=N.needs k hk
 have hclr:BI s (k:Int)=IS s (k:Int)+Gw s (k:Int):=by unfold Gw;omega
 have hmono:∀i,i≤nV s→Dg p i≤p.1:=fun i hi=>(N.ends i hi).2
 by_cases c:Cj p t+1<Dg p (k+1)
 ·
  have hlt:Cj p t+1<p.1:=by have:=hmono (k+1) (by omega);omega
  rw[if_pos hlt] at hps
  have:k2=k:=Xr N hk2 hk hpt2 ⟨by omega,by omega⟩
  subst this
  rw[hps]
  refine ⟨fun hh=>by omega,fun _=>?_⟩
  rw[show Cj p t+1-Dg p k2=Cj p t-Dg p k2+1 by omega]
  exact hM
 ·
  have e:Cj p t+1=Dg p (k+1):=by omega
  have hS2:Cj p t-Dg p k+1=el p.2.2 (k:Int):=by omega
  rw[hS2] at hM
  have hB:=AhO hx hS hsh q0 q1 (by omega) hM
  have fin:∀k3:Nat,k3<nV s→(k3:Int)=Ge s (k:Int)→Cj p (t+1)=Dg p k3→(Cj p (t+1)=Dg p k2→AtB s now k2 (PB s k2) m)∧(Dg p k2<Cj p (t+1)→AtM s now k2 (Ge s k2) (Cj p (t+1)-Dg p k2) (el p.2.2 (k2:Int)-Gw s k2) m):=fun k3 hk3 e3 e4=>by
   have n3:=N.needs k3 hk3
   have:k2=k3:=Xr N hk2 hk3 hpt2 ⟨by omega,by rw[IB];omega⟩
   subst this
   refine ⟨fun _=>?_,fun hh=>by omega⟩
   rw[e3,prev_next q0 q1]
   exact hB
  by_cases d:k+1<nV s
  ·have n3:=N.needs (k+1) d
   have h2:=hmono (k+2) (by omega)
   rw[IB] at h2
   rw[if_pos (by omega)] at hps
   refine fin (k+1) d ?_ (by omega)
   unfold Ge
   rw[if_pos (by omega)];omega
  ·have hkn:k+1=nV s:=by omega
   rw[hkn,hall] at e
   rw[if_neg (by omega)] at hps
   refine fin 0 (by omega) ?_ (by rw[hps];rfl)
   unfold Ge
   rw[if_neg (by omega)];rfl
theorem oJ {s:Ad} {now:Aq} {q q' u v m:Int} (hm:m≤0):AtM s now q q' u v m:=fun _ _ _ hc=>by
 obtain⟨i,i1,i2,_⟩:=hc
 omega
theorem AcT {s:Ad} {p:Az} (hx:Bm s) (hS:Be s) (hsh:Pg s) (N:Lg s p) {t m:Int} {now:Aq} {k:Nat} {u:Int} (hk:k<nV s) (hpt:Ko p k (Cj p t)) (hu:u=Cj p t-Dg p k) (hcy:p.1≤100)
 (hG:BS s now) (m0:0≤m) (hpl:1≤m→Pl s now) (hT:AtT s p t m now) :
 (Aa s.2.2.2.2.1≤m→HI s p k u=(k:Int)→Fz s (BW s now (HI s p k u)) k) ∧
 ∀m',(m'=if u=0 then (if Dl s (BW s now (HI s p k u)) k=true then m+1 else 0) else m)→BS s (BW s now (HI s p k u))∧(1≤m'→Pl s (BW s now (HI s p k u)))∧AtT s p (t+1) m' (BW s now (HI s p k u)):=by
 have hnl:((nV s:Nat):Int)=Aa s.2.2.2.2.1:=rfl
 have h:=sok hx hS
 have q0:(0:Int)≤(k:Int):=by omega
 have q1:(k:Int)<Aa s.2.2.2.2.1:=by omega
 have np:=hS.shape.p1
 have hpt2:=hpt
 obtain⟨a,b⟩:=hpt2
 have nn:=N.needs k hk
 have cy:=N.cyc
 obtain⟨x0,x1⟩:=Yz N t
 have e0:=(N.ends k (by omega)).1
 have T:=UZ hx hS q0 q1
 have tm:=T.min
 have tc:=T.clr
 have hclr:BI s (k:Int)=IS s (k:Int)+Gw s (k:Int):=by unfold Gw;omega
 have hnx:Hf s (k:Int)=Ge s (k:Int):=(QU hS.shape q0 q1).2
 have hw:HI s p k u=if el p.2.2 (k:Int)-Gw s (k:Int)≤u then Ge s (k:Int) else (k:Int):=by unfold HI;rw[hnx]
 have hGs:=AcH h hG (HI s p k u)
 obtain⟨tB,tM⟩:=hT k hk hpt
 obtain⟨r0,r1,r2⟩:=next_prev (s:=s) q0 q1
 by_cases hu0:u=0
 ·have hB:=tB (by omega)
  have hwk:HI s p k u=(k:Int):=by rw[hw,if_neg (by omega)]
  rw[hwk] at hGs ⊢
  refine ⟨fun hm _=>?_,fun m' hm'=>⟨hGs,?_⟩⟩
  ·exact AgX hx hS hsh (hpl (by omega)) q0 q1 r0 r1 (by rw[(QU hS.shape r0 r1).2];exact r2) hm hB
  ·rw[if_pos hu0] at hm'
   by_cases hf:Dl s (BW s now (k:Int)) k=true
   ·rw[if_pos hf] at hm'
    subst hm'
    have hfp:=fullB_iff.1 hf
    refine ⟨fun _=>AfV (php hx hS q0 q1) hGs hfp,NP hx hS hsh N hk hpt ?_⟩
    have:=AgY (v:=el p.2.2 (k:Int)-Gw s (k:Int)) hx hS hG q0 q1 (by omega) m0 hB hfp
    rw[show Cj p t-Dg p k+1=1 by omega]
    exact this
   ·rw[if_neg hf] at hm'
    subst hm'
    exact ⟨fun hh=>by omega,NP hx hS hsh N hk hpt (oJ (by omega))⟩
 ·have hM:=tM (by omega)
  rw[←hu] at hM
  refine ⟨fun hm hwk=>?_,fun m' hm'=>⟨hGs,?_⟩⟩
  ·have hw2:=hw
   rw[hwk] at hw2 ⊢
   exact Ahe hx hS (hpl (by omega)) q0 q1 (by omega) hw2.symm hM
  ·rw[if_neg hu0] at hm'
   subst hm'
   by_cases c:1≤m'
   ·have hP:=hpl c
    refine ⟨fun _=>dP h hP _,NP hx hS hsh N hk hpt ?_⟩
    rw[←hu,hw]
    exact Ahf hx hS hsh hP q0 q1 (by omega) (by omega) (by omega) hM
   ·exact ⟨fun hh=>absurd hh c,NP hx hS hsh N hk hpt (oJ (by omega))⟩
end Go.Proofs.YtmmkfcpdfnjgjaaGreatDoor.Pn
namespace Go.Proofs.YtmmkfcpdfnjgjaaGreatDoor.Ld
open Go.Den
theorem Wj (x:Ad) (hx:Bm x):∃b,C6 x=some b:=by
 unfold C6
 rw[AT]
 split
 ·exact ⟨_,rfl⟩
 ·refine DV (l:=x.2.2.2.1) (fun a:Option Bool=>∃b,a=some b) (fun _ r=>¬40<Aa r) (some true) _ hx.b (fun i r h0 hi hr=>?_) (fun i hi=>by simp only[hi,decide_false,AW];rfl) (fun _=>?_) (fun _=>⟨_,rfl⟩)
  ·simp only[hi,decide_true,AU,hr,A7]
   by_cases h:40<Aa r
   ·exact .inr ⟨fun hh=>hh h,by simp only[h,decide_true,AU]⟩
   ·exact .inl ⟨h,by simp only[h,decide_false,AW]⟩
  ·refine DV (l:=x.2.2.2.2.2.2.2.2.2.2.2) (fun a:Option Bool=>∃b,a=some b) (fun _ p=>¬40<Aa p.2.2) (some true) (some false) hx.q (fun i r h0 hi hr=>?_) (fun i hi=>by simp only[hi,decide_false,AW]) (fun _=>⟨_,rfl⟩) (fun _=>⟨_,rfl⟩)
   simp only[hi,decide_true,AU,hr,A7]
   by_cases h:40<Aa r.2.2
   ·exact .inr ⟨fun hh=>hh h,by simp only[h,decide_true,AU]⟩
   ·exact .inl ⟨h,by simp only[h,decide_false,AW]⟩
structure IY (r:BR):Prop where
 mode:0≤r.1∧r.1≤3
 well:0≤r.2.1∧r.2.1≤1048576
 latched:r.2.2=true→r.1=0∧r.2.1=0
theorem step_eq (s:Ad) (r:BR) (f:DA) (hr:IY r):CJ (s,(r,f)) =
 (if r.2.2=true∨f.2.2.2=false then (0,(0,true)) else
   if (Bx (r,f))≤r.1 then (Bx (r,f),(0,false)) else
   if s.2.2.2.2.2.2.2.2.1≤r.2.1+1 then (r.1+1,(0,false)) else (r.1,(r.2.1+1,false))):=by
 obtain⟨mo,we,la⟩:=r
 obtain⟨fr,pl,ey,li⟩:=f
 have h1:=hr.mode
 have h2:=hr.well
 have h3:=hr.latched
 simp only at h1 h2 h3
 unfold CJ
 simp only[AD]
 rw[Ak (we+1) (by omega) (by omega),SA (mo+1) (by omega) (by omega)]
 cases la with
 |true =>
  have:=h3 rfl
  simp[Bx,cnd,hi2_eq,this.1]
 |false =>
  cases li with
  |false=>simp[Bx,cnd,hi2_eq,h1.1]
  |true =>
   simp only[Bool.or_false,Bool.not_true,AT,decide_eq_true_eq]
   simp
theorem AcV (r:BR) (f:DA):0≤Bx (r,f)∧Bx (r,f)≤3:=by
 unfold Bx
 simp only[AT]
 repeat' split
 all_goals omega
theorem Agx {s:Ad} {r:BR} (f:DA) (hr:IY r) (hh:s.2.2.2.2.2.2.2.2.1≤1048576):IY (CJ (s,(r,f))):=by
 rw[step_eq s r f hr]
 have h1:=hr.mode
 have h2:=hr.well
 have hm:=AcV r f
 split
 ·exact ⟨by simp,by simp,fun _=>⟨rfl,rfl⟩⟩
 ·split
  ·exact ⟨by simp only;omega,by simp,fun h=>by simp at h⟩
  ·split
   ·exact ⟨by simp only;omega,by simp,fun h=>by simp at h⟩
   ·exact ⟨by simp only;omega,by simp only;omega,fun h=>by simp at h⟩
theorem AfA {s:Ad} {r:BR} (hs:Bm s) (h1:0≤r.1):∃e,GV (s,r)=some e∧((e=0∧Be s∧IY r)∨(e=8∧Be s∧¬IY r)∨(e=50∧¬Be s)):=by
 obtain⟨e,h2,h3⟩:=QE hs
 unfold GV
 rw[h2]
 simp only[A7]
 rcases h3 with ⟨rfl,h3⟩|⟨rfl,h3⟩
 ·simp only[beq_self_eq_true,Bool.not_true,AW]
  rw[AT]
  split
  ·rename_i h
   refine ⟨8,rfl,.inr (.inl ⟨rfl,h3,fun hr=>?_⟩)⟩
   have a:=hr.mode
   have b:=hr.well
   have c:=hr.latched
   simp only[Bool.or_eq_true,Bool.and_eq_true,decide_eq_true_eq,Bool.not_eq_true',beq_eq_false_iff_ne,ne_eq] at h
   rcases h with ((h|h)|h)|⟨h,h'⟩
   ·omega
   ·omega
   ·omega
   ·have:=c h;omega
  ·rename_i h
   simp only[Bool.or_eq_true,Bool.and_eq_true,decide_eq_true_eq,Bool.not_eq_true',beq_eq_false_iff_ne,ne_eq,not_or,not_and] at h
   exact ⟨0,rfl,.inl ⟨rfl,h3,⟨h1,by omega⟩,by omega,fun hl=>⟨Decidable.not_not.1 (h.2 hl).1,Decidable.not_not.1 (h.2 hl).2⟩⟩⟩
 ·exact ⟨50,rfl,.inr (.inr ⟨rfl,h3⟩)⟩
theorem AJ {α A:Type} (x:α) (f:α→A):AD x f=f x:=id rfl
structure AhX (was:BR) (f:DA) (y:BR) (heal:Int):Prop where
 may:y.1≤Bx (was,f)
 up:y.1≤was.1+1
 keep:was.2.2=true→y.2.2=true
 dark:f.2.2.2=false→y.2.2=true
 flat:y.2.2=true→y.1=0
 master:y.1=3→f.1=true∧f.2.1=true∧f.2.2.1=true∧f.2.2.2=true
 stored:y.1=2→f.2.1=true∧f.2.2.2=true
 new:y.2.2=true→was.2.2=false→f.2.2.2=false
theorem AdJ (s:Ad) (was:BR) (f:DA) (hw:IY was):AhX was f (CJ (s,(was,f))) s.2.2.2.2.2.2.2.2.1:=by
 have hst:=step_eq s was f hw
 have h1:=hw.mode
 obtain⟨mo,we,la⟩:=was
 obtain⟨fr,pl,ey,li⟩:=f
 have hla:=hw.latched
 simp only at h1 hla hst
 generalize CJ (s,((mo,we,la),(fr,pl,ey,li)))=y at hst ⊢
 cases la with
 |true =>
  have hz:=hla rfl
  simp at hst
  subst hst
  constructor<;>simp[Bx,cnd,hi2_eq]
  all_goals omega
 |false =>
  cases li with
  |false =>
   simp at hst
   subst hst
   constructor<;>simp[Bx,cnd,hi2_eq]
   all_goals omega
  |true =>
   simp only[Bool.false_eq_true,Bool.true_eq_false,or_self,if_false] at hst
   have hm:=AcV (mo,we,false) (fr,pl,ey,true)
   have h3:Bx ((mo,we,false),(fr,pl,ey,true))=3→fr=true∧pl=true∧ey=true:=by
    unfold Bx
    cases fr<;>cases pl<;>cases ey<;>simp[cnd,hi2_eq]
   have h2:2≤Bx ((mo,we,false),(fr,pl,ey,true))→pl=true:=by
    unfold Bx
    cases fr<;>cases pl<;>cases ey<;>simp[cnd,hi2_eq]
   generalize hmm:Bx ((mo,we,false),(fr,pl,ey,true))=m at hst hm h3 h2
   have hy:y.2.2=false∧y.1≤m∧y.1≤mo+1:=by
    rw[hst]
    split
    ·exact ⟨rfl,by simp only;omega,by simp only;omega⟩
    ·split
     ·exact ⟨rfl,by simp only;omega,by simp only;omega⟩
     ·exact ⟨rfl,by simp only;omega,by simp only;omega⟩
   obtain⟨y1,y2,y3⟩:=hy
   exact ⟨by rw[hmm];exact y2,y3,fun h=>(by simp at h),fun h=>(by simp at h),fun h=>(by rw[y1] at h;cases h),fun h=>(by obtain⟨a,b,c⟩:=h3 (by omega);exact ⟨a,b,c,rfl⟩),fun h=>⟨h2 (by omega),rfl⟩,fun h=>(by rw[y1] at h;cases h)⟩
end Go.Proofs.YtmmkfcpdfnjgjaaGreatDoor.Ld
namespace Go.Proofs.YtmmkfcpdfnjgjaaGreatDoor.Ld
open Go.Den
theorem Ac4 {s:Ad} {r:BR} (f:DA) (hs:Bm s) (hok:Be s) (hr:IY r):Fs (s,(r,f))=some (CJ (s,(r,f)),0):=by
 obtain⟨e,h1,h2⟩:=AfA (r:=r) hs hr.mode.1
 have he:e=0:=by
  rcases h2 with h2|h2|h2
  ·exact h2.1
  ·exact absurd hr h2.2.2
  ·exact absurd hok h2.2
 subst he
 unfold Fs
 simp only[h1,A7,beq_self_eq_true,Bool.not_true,AW]
 rfl
theorem lM {s:Ad} {e:Int} (h3:(e=0∧Be s)∨(e=50∧¬Be s)) (h:e=0):Be s:=by
 rcases h3 with h3|h3
 ·exact h3.2
 ·rw[h] at h3;exact absurd h3.1 (by decide)
end Go.Proofs.YtmmkfcpdfnjgjaaGreatDoor.Ld
namespace Go.Proofs.YtmmkfcpdfnjgjaaGreatDoor.Ld
open Go.Den
def HB (s:Ad) (l:List Int):Int:=if Aa l=Aa s.2.1 then (if ∀a∈l,a≤4 then 0 else 2) else 4
theorem nF {s:Ad} {l:List Int} (hl:l.length≤maxLen):Hh (s,l)=some (HB s l):=by
 unfold Hh HB
 rw[AT]
 split
 ·rename_i h
  rw[if_neg (by simpa using h)]
 ·rename_i h
  rw[if_pos (by simpa using h)]
  have conv:(∀a∈l,a≤4)↔(∀(i:Int) a,idx l i=some a→a≤4):=⟨fun h i a ha=>h a (An ha).2.2,fun h a ha=>by obtain⟨i,hi⟩:=D9 ha;exact h i a hi⟩
  refine DV (l:=l) (fun a:Option Int=>a=some (if ∀a∈l,a≤4 then 0 else 2)) (fun _ a=>a≤4) (some 2) (some 0) hl (fun i a h0 hi ha=>?_) (fun i hi=>by simp[hi,cnd,hi2_eq]) (fun h=>by rw[if_pos (conv.2 h)]) (fun h=>by rw[if_neg (fun hh=>h (conv.1 hh))])
  simp only[hi,decide_true,AU,ha,A7]
  by_cases h4:4<a
  ·exact .inr ⟨by omega,by simp only[h4,decide_true,AU]⟩
  ·exact .inl ⟨by omega,by simp only[h4,decide_false,AW]⟩
theorem lightE_ok {s:Ad} {l:List Int}:HB s l=0↔Aa l=Aa s.2.1∧∀a∈l,a≤4:=by
 unfold HB
 split
 ·rename_i h
  split
  ·rename_i h2;exact ⟨fun _=>⟨h,h2⟩,fun _=>rfl⟩
  ·rename_i h2;exact ⟨fun hh=>(by cases hh),fun hh=>absurd hh.2 h2⟩
 ·rename_i h;exact ⟨fun hh=>(by cases hh),fun hh=>absurd hh.1 h⟩
def HJ (s:Ad) (lit seen:List Int):Bool×Int :=
 if HB s lit≠0 then (false,HB s lit) else
 if Aa seen=0 then (false,0) else
 if HB s seen≠0 then (false,HB s seen) else (decide (lit≠seen),0)
theorem AgI {s:Ad} {lit seen:List Int} (hl:lit.length≤maxLen) (hsn:seen.length≤maxLen):HY (s,(lit,seen))=some (HJ s lit seen):=by
 unfold HY
 refine Fe (fun k=>k=0∨(k=1∧HB s lit=0)∨(k=2∧HB s lit=0∧(Aa seen=0∨HB s seen=0))) (fun k=>(2-k).toNat) (fun a=>a=some (HJ s lit seen)) ?_ AE 0 (.inl rfl) (by rw[GX];simp)
 rintro k (rfl|⟨rfl,h1⟩|⟨rfl,h1,h2⟩)
 ·have e1:decide ((0:Int)<Aa (lit::(seen::[])))=true:=rfl
  have e2:idx (lit::(seen::[])) (0:Int)=some lit:=rfl
  have e3:((0:Int)==1&&Aa lit==0)=false:=rfl
  simp only[e1,AU,e2,A7,e3,AW,nF hl]
  by_cases h:HB s lit=0
  ·simp only[h,beq_self_eq_true,Bool.not_true,AW]
   exact ⟨.inr (.inl ⟨rfl,by first|exact h|trivial⟩),by decide⟩
  ·simp only[beq_false_of_ne h,Bool.not_false,AU]
   show _ = _
   unfold HJ;rw[if_pos h]
 ·have e1:decide ((1:Int)<Aa (lit::(seen::[])))=true:=rfl
  have e2:idx (lit::(seen::[])) (1:Int)=some seen:=rfl
  simp only[e1,AU,e2,A7,beq_self_eq_true,Bool.true_and]
  by_cases hz:Aa seen=0
  ·simp only[hz,beq_self_eq_true,AU]
   exact ⟨.inr (.inr ⟨rfl,h1,by first|exact .inl hz|exact .inl trivial⟩),by decide⟩
  ·simp only[beq_false_of_ne hz,AW,nF hsn,A7]
   by_cases h:HB s seen=0
   ·simp only[h,beq_self_eq_true,Bool.not_true,AW]
    exact ⟨.inr (.inr ⟨rfl,h1,by first|exact .inr h|exact .inr trivial⟩),by decide⟩
   ·simp only[beq_false_of_ne h,Bool.not_false,AU]
    show _ = _
    unfold HJ;rw[if_neg (by simp[h1]),if_neg hz,if_pos h]
 ·have e1:decide ((2:Int)<Aa (lit::(seen::[])))=false:=rfl
  simp only[e1,AW]
  show iter _ _ _ _ = _
  have hlit:=(lightE_ok.1 h1).1
  refine DV (l:=seen) (fun a:Option (Bool×Int)=>a=some (HJ s lit seen)) (fun i a=>idx lit i=some a) (some (true,0)) (some (false,0)) hsn (fun i a h0 hi ha=>?_) (fun i hi=>by simp[hi,cnd,hi2_eq]) (fun h=>?_) (fun h=>?_)
  ·have h3:Aa seen=Aa s.2.1:=by
    rcases h2 with h2|h2
    ·omega
    ·exact (lightE_ok.1 h2).1
   obtain⟨b,hb,_⟩:=Au (l:=lit) h0 (by omega)
   simp only[hi,decide_true,AU,ha,A7,hb]
   by_cases e:b=a
   ·subst e;exact .inl ⟨rfl,by simp only[beq_self_eq_true,Bool.not_true,AW]⟩
   ·exact .inr ⟨fun hh=>e (Option.some.inj hh),by simp only[beq_false_of_ne e,Bool.not_false,AU]⟩
  ·unfold HJ
   rw[if_neg (by simp[h1])]
   split
   ·rfl
   ·rename_i hz
    have h2:=h2.resolve_left hz
    rw[if_neg (by simp[h2])]
    have:lit=seen:=GU (by have:=(lightE_ok.1 h2).1;omega) fun j j0 j1=>by
     obtain⟨a,ha,_⟩:=Au (l:=seen) j0 (by have:=(lightE_ok.1 h2).1;omega)
     rw[ha];exact h j a ha
    simp[this]
  ·unfold HJ
   rw[if_neg (by simp[h1])]
   have hne:seen≠[]:=fun e=>h (fun i a ha=>by subst e;have:=An ha;exact absurd this.2.2 (by simp))
   have hz:¬Aa seen=0:=by
    unfold Aa
    cases seen with
    |nil=>exact absurd rfl hne
    |cons=>simp;omega
   rw[if_neg hz]
   have h2:=h2.resolve_left hz
   rw[if_neg (by simp[h2])]
   have:lit≠seen:=fun e=>h (fun i a ha=>by rw[e];exact ha)
   simp[this]
theorem fD {s:Ad} {n e:Int} (h:Aw s=some e):EK (s,n)=some (if e≠0 then e else if n<0∨1048576<n then 2 else 0):=by
 unfold EK
 simp only[h,A7,AT]
 by_cases h0:e=0
 ·subst h0
  simp only[beq_self_eq_true,Bool.not_true,Bool.false_eq_true,if_false,ne_eq,not_true]
  by_cases h1:n<0∨1048576<n
  ·rw[if_pos h1,if_pos (by simpa using h1)]
  ·rw[if_neg h1,if_neg (by simpa using h1)]
 ·rw[if_pos (by simpa using h0),if_pos h0]
def R3 (e:Int) (s:Ad) (n:Int) (lit seen:List Int):Int×Int :=
 if e≠0 then (0,e) else if n<0∨1048576<n then (0,2) else
 if (HJ s lit seen).2≠0∨(HJ s lit seen).1=false then (0,(HJ s lit seen).2) else (min (n+1) 1048576,0)
theorem zU {s:Ad} {n e:Int} {lit seen:List Int} (h:Aw s=some e) (hl:lit.length≤maxLen) (hsn:seen.length≤maxLen):Ja (s,(n,(lit,seen)))=some (R3 e s n lit seen):=by
 unfold Ja R3
 simp only[fD h,A7,AgI hl hsn]
 by_cases h0:e=0
 ·subst h0
  simp only[ne_eq,not_true,if_false]
  by_cases h1:n<0∨1048576<n
  ·simp only[if_pos h1];rfl
  ·simp only[if_neg h1,beq_self_eq_true,Bool.not_true,AW]
   rw[AT,DB,Ak (n+1) (by omega) (by omega)]
   by_cases h2:(HJ s lit seen).2≠0∨(HJ s lit seen).1=false
   ·rw[if_pos h2,if_pos (by simpa using h2)]
   ·rw[if_neg h2,if_neg (by simpa using h2)]
 ·simp only[ne_eq,h0,not_false_iff,if_true,beq_false_of_ne h0,Bool.not_false,AU]
def ZD (e:Int) (s:Ad) (n:Int):Bool×Int :=
 if e≠0 then (false,e) else if n<0∨1048576<n then (false,2) else (decide (s.2.2.2.2.2.2.2.1≤n),0)
theorem Af5 {s:Ad} {n e:Int} (h:Aw s=some e):GP (s,n)=some (ZD e s n):=by
 unfold GP ZD
 simp only[fD h,A7]
 by_cases h0:e=0
 ·subst h0
  simp only[ne_eq,not_true,if_false]
  by_cases h1:n<0∨1048576<n
  ·simp only[if_pos h1];rfl
  ·simp only[if_neg h1,beq_self_eq_true,Bool.not_true,AW]
 ·simp only[ne_eq,h0,not_false_iff,if_true,beq_false_of_ne h0,Bool.not_false,AU]
end Go.Proofs.YtmmkfcpdfnjgjaaGreatDoor.Ld
namespace Go.Proofs.YtmmkfcpdfnjgjaaGreatDoor.Ey
open Go.Den
structure V4 (x:AK):Prop where
 same:0≤x.2.1∧x.2.1≤1048576
 well:0≤x.2.2.2.2∧x.2.2.2.2≤1048576
 sick:x.2.2.2.1=true∨x.2.2.2.2=0
theorem dH (x:AK):FI x=true↔V4 x:=by
 unfold FI
 rw[DB,D7]
 simp only[Bool.and_eq_true,Bool.or_eq_true,decide_eq_true_eq,beq_iff_eq]
 exact ⟨fun h=>⟨by omega,by omega,h.2⟩,fun h=>⟨by have:=h.same;have:=h.well;omega,h.sick⟩⟩
def AeK (x:AK) (up:Bool):Int:=if up=x.1 then Bd .u64 x.2.2.1 1 else Aj .or .u64 (Bd .u64 x.2.2.1 1) 1
def dL (x:AK) (up:Bool):Int:=if up=x.1 then min (x.2.1+1) 1048576 else 1
def Ahb (e:V5) (up:Bool) (same t:Int):Bool:=(up&&decide (e.2.1≤same))||(!up&&decide (e.2.2.1≤same))||decide (e.2.2.2<NQ t)
def BW (s:Ad) (e:V5) (x:AK) (up:Bool):AK :=
 (up,dL x up,AeK x up,
   if Ahb e up (dL x up) (AeK x up)=true then (true,0) else
   if x.2.2.2.1=true then (if s.2.2.2.2.2.2.2.2.1≤x.2.2.2.2+1 then (false,0) else (true,x.2.2.2.2+1)) else (false,x.2.2.2.2))
theorem Ahv {s:Ad} {i:Int} {x:AK} {up:Bool} {e:V5} (he:idx s.2.2.2.2.2.1 i=some e) (hm:V4 x):J0 (s,(i,(x,up)))=some (BW s e x up):=by
 obtain⟨u,sa,t,b,w⟩:=x
 have h1:=hm.same
 have h2:=hm.well
 simp only at h1 h2
 unfold J0 BW Ahb dL AeK
 simp only[he,A7,AD]
 rw[Ak (sa+1) (by omega) (by omega),Ak (w+1) (by omega) (by omega),DB,DB]
 have ho:∀z,FG z=NQ z:=fun z=>rfl
 simp only[ho,show min (1:Int) 1048576=1 by decide]
 by_cases hu:up=u
 ·subst hu
  simp only[beq_self_eq_true,Bool.not_true,AW,if_true]
  generalize min (sa+1) 1048576=n
  generalize Bd .u64 t 1=m
  cases up with
  |true =>
   by_cases c1:e.2.1≤n
   ·simp[c1,cnd,hi2_eq]
   ·by_cases c2:e.2.2.2<NQ m
    ·simp[c1,c2,cnd,hi2_eq]
    ·cases b with
     |false=>simp[c1,c2,cnd,hi2_eq]
     |true=>by_cases c3:s.2.2.2.2.2.2.2.2.1≤w+1<;>simp[c1,c2,c3,cnd,hi2_eq]
  |false =>
   by_cases c1:e.2.2.1≤n
   ·simp[c1,cnd,hi2_eq]
   ·by_cases c2:e.2.2.2<NQ m
    ·simp[c1,c2,cnd,hi2_eq]
    ·cases b with
     |false=>simp[c1,c2,cnd,hi2_eq]
     |true=>by_cases c3:s.2.2.2.2.2.2.2.2.1≤w+1<;>simp[c1,c2,c3,cnd,hi2_eq]
 ·have hb:(up==u)=false:=beq_false_of_ne hu
  simp only[hb,Bool.not_false,AU,hu,if_false]
  generalize Aj .or .u64 (Bd .u64 t 1) 1=m
  cases up with
  |true =>
   by_cases c1:e.2.1≤1
   ·simp[c1,cnd,hi2_eq]
   ·by_cases c2:e.2.2.2<NQ m
    ·simp[c1,c2,cnd,hi2_eq]
    ·cases b with
     |false=>simp[c1,c2,cnd,hi2_eq]
     |true=>by_cases c3:s.2.2.2.2.2.2.2.2.1≤w+1<;>simp[c1,c2,c3,cnd,hi2_eq]
  |false =>
   by_cases c1:e.2.2.1≤1
   ·simp[c1,cnd,hi2_eq]
   ·by_cases c2:e.2.2.2<NQ m
    ·simp[c1,c2,cnd,hi2_eq]
    ·cases b with
     |false=>simp[c1,c2,cnd,hi2_eq]
     |true=>by_cases c3:s.2.2.2.2.2.2.2.2.1≤w+1<;>simp[c1,c2,c3,cnd,hi2_eq]
theorem y4 {n:Nat} (hn:n<2 ^ 64):Bd .u64 (n:Int) 1=((2*n%2 ^ 64:Nat):Int)∧2*n%2 ^ 64<2 ^ 64∧2*n%2 ^ 64%2=0:=by
 refine ⟨Ae4 hn,Nat.mod_lt _ (by decide),?_⟩
 rw[KC];omega
theorem Aht {n:Nat} (hn:n<2 ^ 64):Aj .or .u64 (Bd .u64 (n:Int) 1) 1=((2*n%2 ^ 64+1:Nat):Int)∧2*n%2 ^ 64+1<2 ^ 64:=by
 obtain⟨h1,h2,h3⟩:=y4 hn
 have h4:Aj .or .u64 ((2*n%2 ^ 64:Nat):Int) 1=((2*n%2 ^ 64 ||| 1:Nat):Int):=oS (y:=1) h2 (by decide)
 rw[h1,h4,Ahk h3]
 refine ⟨rfl,?_⟩
 rw[KC] at *;omega
theorem Ae7 {s:Ad} {e:V5} {x:AK} (up:Bool) (hm:V4 x) (hh:s.2.2.2.2.2.2.2.2.1≤1048576):V4 (BW s e x up)∧(BW s e x up).1=up∧1≤(BW s e x up).2.1:=by
 have h1:=hm.same
 have h2:=hm.well
 have h3:=hm.sick
 have hs:1≤dL x up∧dL x up≤1048576:=by unfold dL;split<;>omega
 unfold BW
 refine ⟨⟨by simp only;omega,?_,?_⟩,rfl,hs.1⟩
 ·simp only
  repeat' split
  all_goals simp only;omega
 ·simp only
  split
  ·exact .inl rfl
  ·split
   ·split
    ·exact .inr rfl
    ·exact .inl rfl
   ·rename_i h
    right
    rcases h3 with h3|h3
    ·exact absurd h3 h
    ·exact h3
theorem AgJ:V4 (false,(0,(0,(false,0)))):=⟨by simp,by simp,.inr rfl⟩
end Go.Proofs.YtmmkfcpdfnjgjaaGreatDoor.Ey
namespace Go.Proofs.YtmmkfcpdfnjgjaaGreatDoor.Ey
open Go.Den
def FF (e:Int) (s:Ad) (l:List AK):Int :=
 if e≠0 then e else if Aa l≠Aa s.2.2.2.2.2.1 then 4 else if ∀x∈l,FI x=true then 0 else 8
theorem AeH {l:List AK} (hl:l.length≤maxLen):iter none (fun x2:Int =>
(cnd (decide (x2<(Aa l)))
(Ae (idx l x2) (.done none) (fun x3 =>
(AD (FI x3) (fun y =>
(cnd (!y)
(.done (some 8))
(.next (wr .i64 (x2+1))))))))
(.done (some (0:Int))))) AE 0=some (if ∀x∈l,FI x=true then 0 else 8):=by
 have conv:(∀x∈l,FI x=true)↔(∀(i:Int) x,idx l i=some x→FI x=true):=⟨fun h i a ha=>h a (An ha).2.2,fun h a ha=>by obtain⟨i,hi⟩:=D9 ha;exact h i a hi⟩
 refine DV (l:=l) (fun a:Option Int=>a=some (if ∀x∈l,FI x=true then 0 else 8)) (fun _ x=>FI x=true) (some 8) (some 0) hl (fun i x h0 hi hx=>?_) (fun i hi=>by simp[hi,cnd,hi2_eq]) (fun h=>by rw[if_pos (conv.2 h)]) (fun h=>by rw[if_neg (fun hh=>h (conv.1 hh))])
 rw[Af _ _ (decide_eq_true hi),Ab _ _ hx,AJ]
 cases c:FI x with
 |true=>exact .inl ⟨rfl,rfl⟩
 |false=>exact .inr ⟨by simp,rfl⟩
theorem eV {s:Ad} {l:List AK} {e:Int} (h:Aw s=some e) (hl:l.length≤maxLen):GG (s,l)=some (FF e s l):=by
 unfold GG FF
 rw[Ab _ _ h]
 by_cases h0:e=0
 ·subst h0
  rw[Ag _ _ (by rfl),if_neg (by simp)]
  by_cases h1:Aa l=Aa s.2.2.2.2.2.1
  ·rw[Ag _ _ (by simpa using h1),if_neg (by simpa using h1)]
   exact AeH hl
  ·rw[Af _ _ (by simpa using h1),if_pos h1]
 ·rw[Af _ _ (by simp[h0]),if_pos h0]
theorem Mf {e:Int} {s:Ad} {l:List AK} (h:FF e s l=0):e=0∧Aa l=Aa s.2.2.2.2.2.1∧∀x∈l,V4 x:=by
 unfold FF at h
 split at h
 ·rename_i h0;exact absurd h h0
 ·rename_i h0
  split at h
  ·cases h
  ·rename_i h1
   split at h
   ·rename_i h2;exact ⟨Decidable.not_not.1 h0,Decidable.not_not.1 h1,fun x hx=>(dH x).1 (h2 x hx)⟩
   ·cases h
structure Tl (s:Ad):Prop where
 n:Aa s.2.2.2.2.2.1≤24
 p1:1≤Aa s.2.2.2.2.1
 p2:Aa s.2.2.2.2.1≤8
 eyes:∀i e,idx s.2.2.2.2.2.1 i=some e→0≤e.1∧e.1≤Aa s.2.2.2.2.1-1
 heal:1≤s.2.2.2.2.2.2.2.2.1∧s.2.2.2.2.2.2.2.2.1≤1048576
theorem l6 {s:Ad} (h:Be s):Tl s:=⟨h.shape.e,h.shape.p1,h.shape.p2,fun i e he=>(h.eyed i e he).phase,h.timed.heal⟩
def Cu (s:Ad) (ups:Int) (l:List AK):List AK:=l.mapIdx fun i x=>BW s (el s.2.2.2.2.2.1 (i:Int)) x (AA ups i)
theorem Yl {s:Ad} {ups:Int} {l:List AK} {i:Int} {x:AK} (h:idx l i=some x):idx (Cu s ups l) i=some (BW s (el s.2.2.2.2.2.1 i) x (AA ups i)):=by
 have h0:=(An h).1
 unfold Cu
 rw[NS h0,h,Option.map_some,show ((i.toNat:Nat):Int)=i by omega]
def zM (e:Int) (s:Ad) (ups:Int) (l:List AK):List AK×Int:=if FF e s l≠0 then ([],FF e s l) else (Cu s ups l,0)
theorem Afx {s:Ad} {l:List AK} {e ups:Int} (hok:e=0→Tl s) (h:Aw s=some e) (hl:Aa l≤1000) (hu:Ax ups):K1 (s,(l,ups))=some (zM e s ups l):=by
 have hl':l.length≤maxLen:=by unfold Aa at hl;unfold maxLen;omega
 unfold K1 zM
 rw[Ab _ _ (eV h hl')]
 by_cases h0:FF e s l=0
 ·obtain⟨rfl,h1,h2⟩:=Mf h0
  have hok:=hok rfl
  have hn:=Ar l
  rw[h0,Ag _ _ (by rfl),if_neg (by simp),Af _ _ (J5 hn (by omega))]
  refine AH (fun z:Int×List AK=>z.1) (Aa l) (fun z=>Aa z.2=Aa l∧∀j,0≤j→j<z.1→idx z.2 j=idx (Cu s ups l) j) (fun a=>a=some (Cu s ups l,(0:Int))) (by omega) (by simp) hn ⟨Bn hn _,fun j j0 j1=>absurd j1 (by simp only;omega)⟩ (fun z hI i0 i1=>?_) (fun z hI hz=>?_)
  ·obtain⟨i,out⟩:=z
   obtain⟨hlen,hj⟩:=hI
   simp only at i0 i1 hlen hj
   obtain⟨x,hx,hxm⟩:=Au i0 i1
   obtain⟨y,hy,_⟩:=Au (l:=out) i0 (by omega)
   simp only
   rw[Af _ _ (by simpa using i1),Ab _ _ hx,AJ,MT hu,Ab _ _ (Ahv (AI i0 (by omega)) (h2 x hxm)),Ab _ _ hy,Ab _ _ hy,Ak (i+1) (by omega) (by omega)]
   refine ⟨rfl,by simp only;rw[BC];exact hlen,fun j j0 j1=>?_⟩
   simp only at j1 ⊢
   rw[Dm i0 (by omega)]
   split
   ·rename_i e;rw[e,Yl hx]
   ·exact hj j j0 (by omega)
  ·obtain⟨i,out⟩:=z
   obtain⟨hlen,hj⟩:=hI
   simp only at hz hlen hj
   simp only
   rw[Ag _ _ (show decide (i<Aa l)=false by simp;omega)]
   show some (out,(0:Int)) = _
   have:out=Cu s ups l:=GU (by unfold Cu;rw[HN];exact hlen) fun j j0 j1=>hj j j0 (by omega)
   rw[this]
 ·rw[Af _ _ (by simp[h0]),if_pos h0]
def Afg (s:Ad) (l:List AK):Prop:=∀i e x,idx s.2.2.2.2.2.1 i=some e→idx l i=some x→∃k e' x',idx s.2.2.2.2.2.1 k=some e'∧idx l k=some x'∧e'.1=e.1∧x'.2.2.2.1=false
theorem Z2 {m i:Int} (hm:Ax m) (h0:0≤i) (h1:i≤31):Ax (Fv (m,i))∧∀j,AA (Fv (m,i)) j=(AA m j||decide (i=j)):=by
 have e:Fv (m,i)=Aj .or .u32 m ((2 ^ i.toNat:Nat):Int):=by
  unfold Fv;rw[AJ,Qg h0 h1]
 rw[e]
 exact ⟨R6 hm (I5 h0 h1),fun j=>by rw[Qy hm (I5 h0 h1),Mm h0]⟩
theorem sT {s:Ad} {l:List AK} {e:Int} (hok:e=0→Tl s) (h:Aw s=some e) (hl:Aa l≤1000) :
 ∃b,Hz (s,l)=some (if FF e s l≠0 then (false,FF e s l) else (b,0))∧(FF e s l=0→(b=true↔Afg s l)):=by
 have hl':l.length≤maxLen:=by unfold Aa at hl;unfold maxLen;omega
 unfold Hz
 rw[Ab _ _ (eV h hl')]
 by_cases h0:FF e s l=0
 ·obtain⟨rfl,h1,h2⟩:=Mf h0
  have hok:=hok rfl
  rw[h0,Ag _ _ (by rfl)]
  simp only[ne_eq,not_true,if_false,true_implies]
  refine AH (fun z:Int×Int×Int=>z.2.2) (Aa l) (fun z=>Ax z.1∧Ax z.2.1∧(∀p,AA z.1 p=true↔∃j e x,j<z.2.2∧idx s.2.2.2.2.2.1 j=some e∧idx l j=some x∧e.1=p)∧(∀p,AA z.2.1 p=true↔∃j e x,j<z.2.2∧idx s.2.2.2.2.2.1 j=some e∧idx l j=some x∧e.1=p∧x.2.2.2.1=false))
   (fun a:Option (Bool×Int)=>∃b,a=some (b,0)∧(b=true↔Afg s l)) (by omega) (by simp) (Ar l) ⟨⟨by simp,by simp⟩,⟨by simp,by simp⟩,fun p=>?_,fun p=>?_⟩ (fun z hI i0 i1=>?_) (fun z hI hz=>?_)
  ·simp only[E7]
   exact ⟨fun h=>(by cases h),fun ⟨j,e,x,h1,h2,_⟩=>by have:=(An h2).1;omega⟩
  ·simp only[E7]
   exact ⟨fun h=>(by cases h),fun ⟨j,e,x,h1,h2,_⟩=>by have:=(An h2).1;omega⟩
  ·obtain⟨m,n,i⟩:=z
   obtain⟨hm,hn,h3,h4⟩:=hI
   simp only at i0 i1 hm hn h3 h4
   obtain⟨x,hx,_⟩:=Au i0 i1
   obtain⟨ey,he,_⟩:=Au (l:=s.2.2.2.2.2.1) i0 (by omega)
   have hph:=hok.eyes i ey he
   have hp2:=hok.p2
   obtain⟨a1,a2⟩:=Z2 hm hph.1 (by omega)
   obtain⟨b1,b2⟩:=Z2 hn hph.1 (by omega)
   have key:∀p,AA (Fv (m,ey.1)) p=true↔∃j e x,j<i+1∧idx s.2.2.2.2.2.1 j=some e∧idx l j=some x∧e.1=p:=fun p=>by
    rw[a2,Bool.or_eq_true,h3,decide_eq_true_eq]
    constructor
    ·rintro (⟨j,e,x',j1,q⟩|q)
     ·exact ⟨j,e,x',by omega,q⟩
     ·exact ⟨i,ey,x,by omega,he,hx,q⟩
    ·rintro⟨j,e,x',j1,q1,q2,q3⟩
     by_cases ej:j=i
     ·subst ej;rw[he] at q1;cases q1;exact .inr q3
     ·exact .inl ⟨j,e,x',by omega,q1,q2,q3⟩
   simp only
   rw[Af _ _ (by simpa using i1),Ab _ _ hx,Ab _ _ he,AJ,AJ,Ak (i+1) (by omega) (by omega)]
   have hb:H4 x=!x.2.2.2.1:=rfl
   rw[hb]
   cases c:x.2.2.2.1 with
   |false =>
    rw[Af _ _ (by rfl),AJ]
    refine ⟨rfl,a1,b1,key,fun p=>?_⟩
    show AA (Fv (n,ey.1)) p=true↔_
    rw[b2,Bool.or_eq_true,h4,decide_eq_true_eq]
    constructor
    ·rintro (⟨j,e,x',j1,q⟩|q)
     ·exact ⟨j,e,x',by simp only;omega,q⟩
     ·exact ⟨i,ey,x,by simp only;omega,he,hx,q,c⟩
    ·rintro⟨j,e,x',j1,q1,q2,q3,q4⟩
     by_cases ej:j=i
     ·subst ej;rw[he] at q1;cases q1;exact .inr q3
     ·exact .inl ⟨j,e,x',by simp only at j1;omega,q1,q2,q3,q4⟩
   |true =>
    rw[Ag _ _ (by rfl)]
    refine ⟨rfl,a1,hn,key,fun p=>?_⟩
    show AA n p=true↔_
    rw[h4]
    constructor
    ·rintro⟨j,e,x',j1,q⟩
     exact ⟨j,e,x',by simp only;omega,q⟩
    ·rintro⟨j,e,x',j1,q1,q2,q3,q4⟩
     by_cases ej:j=i
     ·subst ej;rw[hx] at q2;cases q2;rw[c] at q4;cases q4
     ·exact ⟨j,e,x',by simp only at j1;omega,q1,q2,q3,q4⟩
  ·obtain⟨m,n,i⟩:=z
   obtain⟨hm,hn,h3,h4⟩:=hI
   simp only at hz hm hn h3 h4
   simp only
   rw[Ag _ _ (show decide (i<Aa l)=false by simp;omega)]
   refine ⟨_,rfl,?_⟩
   rw[beq_iff_eq]
   constructor
   ·intro hmn j e x hj hx
    have:=(h3 e.1).2 ⟨j,e,x,by have:=(An hx).2.1;omega,hj,hx,rfl⟩
    rw[hmn] at this
    obtain⟨k,e',x',_,q1,q2,q3,q4⟩:=(h4 e.1).1 this
    exact ⟨k,e',x',q1,q2,q3,q4⟩
   ·intro hw
    refine Qx hm hn fun p _ _=>?_
    apply Bool.eq_iff_iff.2
    rw[h3,h4]
    constructor
    ·rintro⟨j,e,x,_,q1,q2,q3⟩
     obtain⟨k,e',x',q4,q5,q6,q7⟩:=hw j e x q1 q2
     exact ⟨k,e',x',by have:=(An q5).2.1;omega,q4,q5,by rw[q6,q3],q7⟩
    ·rintro⟨j,e,x,j1,q1,q2,q3,_⟩
     exact ⟨j,e,x,j1,q1,q2,q3⟩
 ·rw[Af _ _ (by simp[h0])]
  exact ⟨false,by rw[if_pos h0],fun h=>absurd h h0⟩
end Go.Proofs.YtmmkfcpdfnjgjaaGreatDoor.Ey
namespace Go.Proofs.YtmmkfcpdfnjgjaaGreatDoor.Ey
open Go.Den
end Go.Proofs.YtmmkfcpdfnjgjaaGreatDoor.Ey
namespace Go.Proofs.YtmmkfcpdfnjgjaaGreatDoor.Ey
open Go.Den
theorem FO {σ A:Type} (k:σ→A) (body:(σ→A)→A):Dh k body=body k:=id rfl
def Tk (s:Ad) (l:List AK) (p:Int):Prop :=
 (∃ph,idx s.2.2.2.2.1 p=some ph∧ph.2.2.2.2=true)∨∃i e x,idx s.2.2.2.2.2.1 i=some e∧idx l i=some x∧e.1=p∧IC x=true
theorem ZS {m i:Int} (hm:Ax m) (h0:0≤i) (h1:i≤31):Ax (Aj .or .u32 m (Bd .u32 1 i))∧∀j,AA (Aj .or .u32 m (Bd .u32 1 i)) j=(AA m j||decide (i=j)):=by
 rw[AbB h0 h1]
 exact ⟨R6 hm (I5 h0 h1),fun j=>by rw[Qy hm (I5 h0 h1),Mm h0]⟩
theorem AdX {m g:Int} (hm:Ax m):Ax (Co (m,g))∧∀p,AA (Co (m,g)) p=(AA m p&&!decide (g=p)):=by
 by_cases h:0≤g∧g≤31
 ·rw[LK h.1 h.2]
  exact RB hm h.1 h.2
 ·have hz:DK g=0:=by
   unfold DK
   rw[AT,if_pos (by simp;omega)]
  have e:Co (m,g)=Aj .andNot .u32 m 0:=by unfold Co;rw[AJ,hz]
  have z:Ax 0:=⟨by decide,by decide⟩
  rw[e]
  refine ⟨Pk hm z,fun p=>?_⟩
  rw[Ry hm z,E7]
  by_cases c:g=p
  ·subst c
   have:AA m g=false:=by
    by_cases h2:g<0
    ·exact Wc h2
    ·exact Ml hm (by omega)
   rw[this];rfl
  ·simp[c]
theorem Ahp {s:Ad} {l:List AK} {e:Int} (hok:e=0→Tl s) (h:Aw s=some e) (hl:Aa l≤1000) :
 ∃c,Jb (s,l)=some (if FF e s l≠0 then (0,FF e s l) else (c,0))∧(FF e s l=0→Ax c∧∀p,AA c p=true↔Tk s l p):=by
 obtain⟨w,w1,_⟩:=sT hok h hl
 unfold Jb
 rw[Ab _ _ w1]
 by_cases h0:FF e s l=0
 ·obtain⟨rfl,k1,k2⟩:=Mf h0
  have hok:=hok rfl
  have hp2:=hok.p2
  rw[h0,if_neg (by simp),Ag _ _ (by rfl)]
  simp only[ne_eq,not_true,if_false,true_implies]
  refine AH (fun z:Int×Int=>z.2) (Aa s.2.2.2.2.1) (fun z=>Ax z.1∧∀p,AA z.1 p=true↔p<z.2∧∃ph,idx s.2.2.2.2.1 p=some ph∧ph.2.2.2.2=true) (fun a:Option (Int×Int)=>∃c,a=some (c,0)∧Ax c∧∀p,AA c p=true↔Tk s l p) (by omega) (by simp) (Ar _) ⟨⟨by simp,by simp⟩,fun p=>?_⟩ (fun z hI i0 i1=>?_) (fun z hI hz=>?_)
  ·simp only[E7]
   exact ⟨fun h=>(by cases h),fun ⟨j1,ph,q,_⟩=>by have:=(An q).1;omega⟩
  ·obtain⟨m,i⟩:=z
   obtain⟨hm,hb⟩:=hI
   simp only at i0 i1 hm hb
   obtain⟨ph,hph,_⟩:=Au (l:=s.2.2.2.2.1) i0 i1
   simp only
   rw[Af _ _ (decide_eq_true i1),Ab _ _ hph,Ak (i+1) (by omega) (by omega)]
   cases c:ph.2.2.2.2 with
   |true =>
    obtain⟨a1,a2⟩:=ZS (i:=i) hm i0 (by omega)
    rw[Af _ _ rfl,Af _ _ (decide_eq_true i0)]
    refine ⟨rfl,a1,fun p=>?_⟩
    show AA (Aj .or .u32 m (Bd .u32 1 i)) p=true↔_
    rw[a2,Bool.or_eq_true,hb,decide_eq_true_eq]
    constructor
    ·rintro (⟨q1,q2⟩|q)
     ·exact ⟨by simp only;omega,q2⟩
     ·subst q;exact ⟨by simp only;omega,ph,hph,c⟩
    ·rintro⟨q1,q2⟩
     by_cases e:i=p
     ·exact .inr e
     ·exact .inl ⟨by simp only at q1;omega,q2⟩
   |false =>
    rw[Ag _ _ rfl]
    refine ⟨rfl,hm,fun p=>?_⟩
    show AA m p=true↔_
    rw[hb]
    constructor
    ·rintro⟨q1,q2⟩;exact ⟨by simp only;omega,q2⟩
    ·rintro⟨q1,ph',q2,q3⟩
     by_cases e:p=i
     ·subst e;rw[hph] at q2;cases q2;rw[c] at q3;cases q3
     ·exact ⟨by simp only at q1;omega,ph',q2,q3⟩
  ·obtain⟨m,i⟩:=z
   obtain⟨hm,hb⟩:=hI
   simp only at hz hm hb
   simp only
   rw[Ag _ _ (show decide (i<Aa s.2.2.2.2.1)=false by simp;omega)]
   have hb':∀p,AA m p=true↔∃ph,idx s.2.2.2.2.1 p=some ph∧ph.2.2.2.2=true:=fun p=>(hb p).trans ⟨fun q=>q.2,fun q=>⟨by obtain⟨ph,q1,_⟩:=q;have:=(An q1).2.1;omega,q⟩⟩
   show ∃c,iter _ _ _ _ = some (c,0)∧Ax c∧∀p,AA c p=true↔Tk s l p
   refine AH (fun z:Int×Int=>z.2) (Aa l) (fun z=>Ax z.1∧∀p,AA z.1 p=true↔(∃ph,idx s.2.2.2.2.1 p=some ph∧ph.2.2.2.2=true)∨∃j e x,j<z.2∧idx s.2.2.2.2.2.1 j=some e∧idx l j=some x∧e.1=p∧IC x=true) (fun a:Option (Int×Int)=>∃c,a=some (c,0)∧Ax c∧∀p,AA c p=true↔Tk s l p) (by omega) (by simp) (Ar _) ⟨hm,fun p=>?_⟩ (fun z hI i0 i1=>?_) (fun z hI hz=>?_)
   ·show AA m p=true↔_
    rw[hb']
    exact ⟨.inl,fun q=>q.elim id fun ⟨j,e,x,j1,q1,_⟩=>by have:=(An q1).1;simp only at j1;omega⟩
   ·obtain⟨m,i⟩:=z
    obtain⟨hm,hb⟩:=hI
    simp only at i0 i1 hm hb
    obtain⟨x,hx,_⟩:=Au i0 i1
    obtain⟨ey,he,_⟩:=Au (l:=s.2.2.2.2.2.1) i0 (by omega)
    have hph:=hok.eyes i ey he
    simp only
    rw[Af _ _ (decide_eq_true i1),Ab _ _ hx,AJ,Ak (i+1) (by omega) (by omega)]
    cases c:IC x with
    |true =>
     obtain⟨a1,a2⟩:=ZS (i:=ey.1) hm hph.1 (by omega)
     rw[Af _ _ rfl,Ab _ _ he,Af _ _ (decide_eq_true hph.1)]
     refine ⟨rfl,a1,fun p=>?_⟩
     show AA (Aj .or .u32 m (Bd .u32 1 ey.1)) p=true↔_
     rw[a2,Bool.or_eq_true,hb,decide_eq_true_eq]
     constructor
     ·rintro ((q|⟨j,e,x',j1,q⟩)|q)
      ·exact .inl q
      ·exact .inr ⟨j,e,x',by simp only;omega,q⟩
      ·exact .inr ⟨i,ey,x,by simp only;omega,he,hx,q,c⟩
     ·rintro (q|⟨j,e,x',j1,q1,q2,q3,q4⟩)
      ·exact .inl (.inl q)
      ·by_cases ej:j=i
       ·subst ej;rw[he] at q1;cases q1;exact .inr q3
       ·exact .inl (.inr ⟨j,e,x',by simp only at j1;omega,q1,q2,q3,q4⟩)
    |false =>
     rw[Ag _ _ rfl]
     refine ⟨rfl,hm,fun p=>?_⟩
     show AA m p=true↔_
     rw[hb]
     refine or_congr_right ⟨fun ⟨j,e,x',j1,q⟩=>⟨j,e,x',by simp only;omega,q⟩,fun ⟨j,e,x',j1,q1,q2,q3,q4⟩=>?_⟩
     by_cases ej:j=i
     ·subst ej;rw[hx] at q2;cases q2;rw[c] at q4;cases q4
     ·exact ⟨j,e,x',by simp only at j1;omega,q1,q2,q3,q4⟩
   ·obtain⟨m,i⟩:=z
    obtain⟨hm,hb⟩:=hI
    simp only at hz hm hb
    simp only
    rw[Ag _ _ (show decide (i<Aa l)=false by simp;omega)]
    refine ⟨m,rfl,hm,fun p=>(hb p).trans (or_congr_right ⟨fun ⟨j,e,x,_,q⟩=>⟨j,e,x,q⟩,fun ⟨j,e,x,q⟩=>⟨j,e,x,?_,q⟩⟩)⟩
    have:=(An q.2.1).2.1;omega
 ·rw[if_pos h0,Af _ _ (by simp[h0])]
  exact ⟨0,by rw[if_pos h0],fun h=>absurd h h0⟩
def Rs (s:Ad) (c ph:Int):Int:=if Ay .u32 c (Aa s.2.2.2.2.1)≠0 then 8 else if ph < -1∨Aa s.2.2.2.2.1≤ph then 2 else 0
theorem AgW (s:Ad) (c ph:Int):H0 (s,(c,ph))=some (Rs s c ph):=by
 unfold H0 Rs
 rw[Af _ _ (decide_eq_true (Ar _))]
 by_cases h:Ay .u32 c (Aa s.2.2.2.2.1)=0
 ·rw[Ag _ _ (by simpa using h),if_neg (by simpa using h),AT]
  by_cases h2:ph < -1∨Aa s.2.2.2.2.1≤ph
  ·rw[if_pos h2,if_pos (by simpa using h2)]
  ·rw[if_neg h2,if_neg (by simpa using h2)]
 ·rw[Af _ _ (by simpa using h),if_pos h]
def Od (s:Ad) (l:List AK) (c g n:Int):Prop:=Ax n∧∀p,AA n p=true↔p≠g∧(AA c p=true∨Tk s l p)
theorem Zb {s:Ad} {l:List AK} {e c g:Int} (hok:e=0→Tl s) (h:Aw s=some e) (hl:Aa l≤1000) (hc:Ax c) :
 ∃n,E0 (s,(c,(l,g)))=some (if FF e s l≠0 then (0,FF e s l) else if Rs s c g≠0 then (0,Rs s c g) else (n,0))∧(FF e s l=0→Od s l c g n):=by
 obtain⟨r,r1,r2⟩:=Ahp hok h hl
 unfold E0
 rw[Ab _ _ r1]
 by_cases h0:FF e s l=0
 ·obtain⟨hr,hb⟩:=r2 h0
  rw[if_neg (by simp[h0]),Ag _ _ (by rfl),Ab _ _ (AgW s c g)]
  obtain⟨a1,a2⟩:=AdX (g:=g) (R6 hc hr)
  refine ⟨Co (Aj .or .u32 c r,g),?_,fun _=>⟨a1,fun p=>?_⟩⟩
  ·rw[if_neg (by simp[h0])]
   by_cases h1:Rs s c g=0
   ·rw[Ag _ _ (by simp[h1]),AJ,if_neg (by simp[h1])]
   ·rw[Af _ _ (by simp[h1]),if_pos h1]
  ·rw[a2,Qy hc hr,Bool.and_eq_true,Bool.or_eq_true,hb,Bool.not_eq_true',decide_eq_false_iff_not]
   exact ⟨fun q=>⟨fun e=>q.2 e.symm,q.1⟩,fun q=>⟨q.2,fun e=>q.1 e.symm⟩⟩
 ·rw[if_pos h0,Af _ _ (by simp[h0])]
  exact ⟨0,by rw[if_pos h0],fun h=>absurd h h0⟩
end Go.Proofs.YtmmkfcpdfnjgjaaGreatDoor.Ey
