/- Part of a proof: plain readings of Go functions, their contracts, or plain facts of them. -/
import Derived.Test.YtlgpjdjcbincgaaGreatDoorRg1
set_option linter.all false
namespace Go.Proofs.YtlgpjdjcbincgaaGreatDoor
open Go.Den
theorem Dj a b c:B0 (a,(b,c))=true↔b<=a/\a<=c:=by unfold B0;simp
structure Ca (x:Al):Prop where
 id:-9223372036854775808<=x.1/\x.1<=9223372036854775807
 g:x.2.1.length<=maxLen
 gs:∀g∈x.2.1,(0<=g.1/\g.1<=255)/\(-9223372036854775808<=g.2.1/\g.2.1<=9223372036854775807)/\-9223372036854775808<=g.2.2/\g.2.2<=9223372036854775807
 a:x.2.2.1.length<=maxLen
 as:∀s∈x.2.2.1,As s
 b:x.2.2.2.1.length<=maxLen
 bs:∀r∈x.2.2.2.1,r.length<=maxLen/\∀m∈r,-9223372036854775808<=m/\m<=9223372036854775807
 p:x.2.2.2.2.1.length<=maxLen
 ps:∀p∈x.2.2.2.2.1,As p.1/\(-9223372036854775808<=p.2.1/\p.2.1<=9223372036854775807)
 e:x.2.2.2.2.2.1.length<=maxLen
 q:x.2.2.2.2.2.2.2.2.2.2.2.length<=maxLen
 qs:∀p∈x.2.2.2.2.2.2.2.2.2.2.2,(-9223372036854775808<=p.1/\p.1<=9223372036854775807)/\p.2.2.length<=maxLen/\∀m∈p.2.2,-9223372036854775808<=m/\m<=9223372036854775807
theorem Ahx {x:Al} (h:Fits AS x):Ca x:=by
 obtain⟨h1,⟨J,v⟩,⟨X,y⟩,⟨h4,o⟩,⟨Y,t⟩,⟨h6,_⟩,_,_,_,_,_,⟨Z,c⟩⟩:=h;exact ⟨h1,J,λg hg=>v g hg,X,λs hs=>y s hs,h4,λr I=>⟨(o r I).1,λm E=>(o r I).2 m E⟩,Y,λp d=>⟨(t p d).1,(t p d).2.1⟩,h6,Z,
  λp d=>⟨(c p d).1,(c p d).2.2.1,λm E=>(c p d).2.2.2 m E⟩⟩
structure ShapeOK (x:Al):Prop where
 n1:1<=Aa x.2.1
 n2:Aa x.2.1<=16
 a:Aa x.2.2.1=Aa x.2.1
 b:Aa x.2.2.2.1=Aa x.2.1
 p1:1<=Aa x.2.2.2.2.1
 p2:Aa x.2.2.2.2.1<=8
 e:Aa x.2.2.2.2.2.1<=24
 q:Aa x.2.2.2.2.2.2.2.2.2.2.2<=8
 rows:∀i r,idx x.2.2.2.1 i=some r->Aa r=Aa x.2.1
 aps:∀i s,idx x.2.2.1 i=some s->AH .u32 s (Aa x.2.1)=0
theorem Afv {x} (y:Ca x):∃b,M4 x=some b/\(b=true↔ShapeOK x):=by
 unfold M4
 simp only[Ao]
 rw[AK]
 split
 ·rename_i h
  refine ⟨false,rfl,λc=>(by cases c),λc=>?_⟩
  exfalso
  have:=c.e;have:=c.q
  simp[(Dj (Aa x.2.1) 1 16).2 ⟨c.n1,c.n2⟩,(Dj (Aa x.2.2.2.2.1) 1 8).2 ⟨c.p1,c.p2⟩,c.a,c.b] at h
  omega
 ·rename_i h
  simp only[Qaj,Qal,decide_eq_true_eq,beq_eq_false_iff_ne,not_or,Qdh,ne_eq,Qcb,Qcq] at h
  obtain⟨⟨⟨⟨⟨g1,t⟩,v⟩,o⟩,E⟩,I⟩:=h
  have g1:=(Dj _ _ _).1 g1
  have o:=(Dj _ _ _).1 o
  obtain⟨b,h1,J⟩:=OF (no:=some false) (yes:=some true) (f:=λp =>
 cnd (decide (p<Aa x.2.2.2.1))
(Ad (idx x.2.2.2.1 p) (.done none) λX =>
 cnd (!Aa X==Aa x.2.1)
(.done (some false))
(Ad (idx x.2.2.1 p) (.done none) λY =>
 cnd (decide (0<=Aa x.2.1))
(cnd (!AH IntKind.u32 Y (Aa x.2.1)==0)
(.done (some false))
(.next (wr .i64 (p+1))))
(.done none)))
(.done (some true))) (λi r=>Aa r=Aa x.2.1/\∀s,idx x.2.2.1 i=some s->AH .u32 s (Aa x.2.1)=0) y.b λi r h0 h1 d=>by
   obtain⟨s,g,_⟩:=Ai (l:=x.2.2.1) h0 (by omega)
   have Z:decide (0<=Aa x.2.1)=true:=by grind
   simp only[h1,decide_true,cnd,hi2_eq,d,Ad,g,Z]<;>grind λi hi=>by simp[hi,cnd,hi2_eq]
  rw[h1]
  refine ⟨b,by cases b<;>rfl,J.trans ⟨λc=>⟨g1.1,g1.2,by simpa using t,by simpa using v,o.1,o.2,E,I,λi r d=>(c i r d).1,λi s g=>?_⟩,λc i r d=>⟨c.rows i r d,λs g=>c.aps i s g⟩⟩⟩
  obtain⟨i0,i1,_⟩:=Ag g
  obtain⟨r,d,_⟩:=Ai (l:=x.2.2.2.1) i0 (by
   have a1:Aa x.2.2.1=Aa x.2.1:=by simpa using t
   have a6:Aa x.2.2.2.1=Aa x.2.1:=by simpa using v
   omega)
  exact (c i r d).2 s g
theorem RS {i} (h0:0<=i) (h1:i<=31):Ew i=((2 ^ i.toNat:Nat):Int):=by unfold Ew;rw[AK,if_neg (by simp;omega),zJ h0 h1]
theorem Of {s i} (c:As s):Fz (s,i)=Aw s i:=by
 unfold Fz;simp only[Ao];by_cases h:0<=i/\i<=31
 ·rw[RS h.1 h.2];have d:=Je h.1 h.2;apply Bool.eq_iff_iff.2;rw[Qal,beq_eq_false_iff_ne];constructor
  ·intro g;cases o:Aw s i with
   |true=>rfl
   |false =>exfalso;apply g;refine Ww (k8 c d) ⟨by decide,by decide⟩ λj _ _=>?_;rw[Si c d,Nx h.1,F5]<;>grind
  ·intro o p;have:=Si c d i;rw[p,F5,o,Nx h.1] at this<;>simp_all
 ·have t:Ew i=0:=by unfold Ew;rw[AK,if_pos (by simp;omega)]
  rw[t];have:Aq .and .u32 s 0=0:=by refine Ww (k8 c ⟨by decide,by decide⟩) ⟨by decide,by decide⟩ λj _ _=>?_;rw[Si c ⟨by decide,by decide⟩,F5];simp
  rw[this];by_cases v:i<0
  ·rw[Wx v];rfl
  ·rw[PY c (by omega)];rfl
theorem Uk {x} (h:x≠0):I1 x=low x:=by unfold I1;rw[AK,if_neg (by simpa using h)];rfl
theorem MU {x k} (h0:0<=k) (h1:k<=31):C1 (x,k)=clr x k:=by unfold C1 clr;simp only[Ao];rw[RS h0 h1]
structure bA (x:Al) (a:Int) (g:Fq):Prop where
 kind:g.1=1\/g.1=2
 min:1<=g.2.1/\g.2.1<=1048576
 yellow:1<=g.2.2/\g.2.2<=1048576
 row:∀r sa b m sb,idx x.2.2.2.1 a=some r->idx x.2.2.1 a=some sa->idx r b=some m->idx x.2.2.1 b=some sb ->
  Aw sa b=Aw sb a/\(Aw sa b=true->a≠b/\g.2.2<=m/\m<=1048576)/\(Aw sa b=false->m=0)
def H3 (x:Al):Prop:=∀a g,idx x.2.1 a=some g->bA x a g
theorem aO a b:BX (a::b::[])=true↔(1<=a/\a<=1048576)/\1<=b/\b<=1048576:=by unfold BX;simp
theorem Aek {x} (hx:Ca x) (hs:ShapeOK x):∃b,M3 x=some b/\(b=true↔H3 x):=by
 unfold M3
 obtain⟨b,h1,h2⟩:=OF (no:=some false) (yes:=some true) (f:=λX =>
 cnd (decide (X<Aa x.2.1))
(Ad (idx x.2.1 X) (.done none) λx2 =>
 cnd (!x2.1==1&&!x2.1==2||!BX (x2.2.1::x2.2.2::[]))
(.done (some false))
(Ad (idx x.2.2.2.1 X) (.done none) λx3 =>
 iter (.done none) (λd =>
 cnd (decide (d<Aa x3))
(Ad (idx x3 d) (.done (.done none)) λx5 =>
 Ad (idx x.2.2.1 X) (.done (.done none)) λx6 =>
 Ao (Fz (x6,d)) λy =>
 Ad (idx x.2.2.1 d) (.done (.done none)) λx7 =>
 Ao (Fz (x7,X)) λy1 =>
 cnd (!y==y1)
(.done (.done (some false)))
(cnd (y&&X==d)
(.done (.done (some false)))
(cnd (y&&!B0 (x5,(x2.2.2,1048576)))
(.done (.done (some false)))
(cnd (!y&&!x5==0)
(.done (.done (some false)))
(.next (wr .i64 (d+1)))))))
(.done (.next (wr .i64 (X+1))))) Am 0))
(.done (some true))) (bA x) hx.g (λa g h0 ha hg=>by
  obtain⟨r,hr,ab⟩:=Ai h0 (by rw[hs.b];exact ha)
  obtain⟨v,Y,a8⟩:=Ai h0 (by rw[hs.a];exact ha)
  simp only[ha,decide_true,AL,hg,AF,hr]
  by_cases hk:(!g.1==1&&!g.1==2||!BX (g.2.1::g.2.2::[]))=true
  ·refine .inr ⟨λc=>?_,by simp only[hk,AL]⟩
   have ht:=(aO g.2.1 g.2.2).2 ⟨c.min,c.yellow⟩
   have:=c.kind<;>simp_all
  ·have Z:=Bool.eq_false_iff.2 hk
   simp only[Z,AR]
   simp only[Qbv,Qeg,Qew,beq_iff_eq] at Z
   obtain⟨k1,k2⟩:=Z
   have k2:=(aO _ _).1 k2
   obtain⟨b,b1,b2⟩:=OF (A:=Step Int (Option Bool)) (no:=.done (some false)) (yes:=.next (wr .i64 (a+1))) (f:=λd =>
    cnd (decide (d<Aa r))
    (Ad (idx r d) (.done (.done none)) λx5 =>
    Ad (idx x.2.2.1 a) (.done (.done none)) λx6 =>
    Ao (Fz (x6,d)) λy =>
    Ad (idx x.2.2.1 d) (.done (.done none)) λx7 =>
    Ao (Fz (x7,a)) λy1 =>
    cnd (!y==y1)
    (.done (.done (some false)))
    (cnd (y&&a==d)
    (.done (.done (some false)))
    (cnd (y&&!B0 (x5,(g.2.2,1048576)))
    (.done (.done (some false)))
    (cnd (!y&&!x5==0)
    (.done (.done (some false)))
    (.next (wr .i64 (d+1)))))))
    (.done (.next (wr .i64 (a+1))))) (λb m=>∀o,idx x.2.2.1 b=some o->Aw v b=Aw o a/\(Aw v b=true->a≠b/\g.2.2<=m/\m<=1048576)/\(Aw v b=false->m=0)) (hx.bs r ab).1 (λb m ad hb hm=>by
      obtain⟨o,a1,aa⟩:=Ai ad (by rw[hs.a,<-hs.rows a r hr];exact hb)
      simp only[hb,decide_true,AL,hm,AF,Y,Ao,a1,Of (hx.as v a8),Of (hx.as o aa)]
      have only:∀ {p:Prop},(∀a6,some o=some a6->Aw v b=Aw a6 a/\p)↔Aw v b=Aw o a/\p:=λ{p}=>⟨λh=>h o rfl,λh a6 e=>by simp_all⟩
      rw[only]
      by_cases E:Aw v b=Aw o a
      ·simp only[beq_iff_eq.2 E,Qbo]
       cases I:Aw v b with
       |true =>
        by_cases J:a=b
        ·refine .inr ⟨λc=>(c.2.1 rfl).1 J,by simp only[AL,AR,beq_iff_eq.2 J,Bool.and_self]⟩
        ·by_cases e3:B0 (m,(g.2.2,1048576))=true
         ·exact .inl ⟨⟨by rw[<-E,I],λ_=>⟨J,(Dj _ _ _).1 e3⟩,λh=>by cases h⟩,by simp only[AR,beq_false_of_ne J,e3,Qez,Qbo,Qee]⟩
         ·exact .inr ⟨λc=>e3 ((Dj _ _ _).2 (c.2.1 rfl).2),by simp only[AL,AR,beq_false_of_ne J,Bool.eq_false_iff.2 e3,Qez,Qbl,Bool.and_self]⟩
       |false =>
        by_cases e4:m=0
        ·exact .inl ⟨⟨by rw[<-E,I],λh=>(by cases h),λ_=>e4⟩,by simp only[AR,beq_iff_eq.2 e4,Qee,Qbo,Qez]⟩
        ·exact .inr ⟨λc=>e4 (c.2.2 rfl),by simp only[AL,AR,beq_false_of_ne e4,Qee,Qbl,Bool.and_self]⟩
      ·exact .inr ⟨λc=>E c.1,by simp only[AL,beq_false_of_ne E,Qbl]⟩) λb hb=>by simp[hb,cnd,hi2_eq]
   have t:bA x a g↔b=true:=by
    rw[b2]
    constructor
    ·intro c b m hm o a1
     exact c.row r v b m o hr Y hm a1
    ·intro c
     refine ⟨by omega,k2.1,k2.2,λr' ae b m o E J e3 e4=>?_⟩
     rw[hr] at E;cases E
     rw[Y] at J;cases J
     exact c b m e3 o e4
   rw[b1]
   cases a7:b with
   |true=>exact .inl ⟨t.2 a7,rfl⟩
   |false=>exact .inr ⟨λc=>(by rw[t.1 c] at a7;cases a7),rfl⟩) λi hi=>by simp[hi,cnd,hi2_eq]
 rw[h1]
 exact ⟨b,by cases b<;>rfl,h2⟩
structure Wr (x:Al) (p:R6):Prop where
 ne:p.1≠0
 hi:AH .u32 p.1 (Aa x.2.1)=0
 min:1<=p.2.1/\p.2.1<=1048576
 max:1<=p.2.2.1/\p.2.2.1<=1048576
 gap:1<=p.2.2.2.1/\p.2.2.2.1<=1048576
 le:p.2.1<=p.2.2.1
 bits:∀a,Aw p.1 a=true->∀g s,idx x.2.1 a=some g->idx x.2.2.1 a=some s->g.2.1<=p.2.1/\Aq .and .u32 s p.1=0
def AdZ (x:Al):Int:=x.2.2.2.2.1.foldl (λs p=>Aq .or .u32 s p.1) 0
def GH (x:Al):Prop:=(∀k p,idx x.2.2.2.2.1 k=some p->Wr x p)/\I0 (AdZ x)=Aa x.2.1
theorem Ab7 a b c:BX (a::b::c::[])=true↔(1<=a/\a<=1048576)/\(1<=b/\b<=1048576)/\1<=c/\c<=1048576:=by unfold BX;simp
theorem UL {x:Al} (g:ShapeOK x) {s:Int} (o:As s) (h:AH .u32 s (Aa x.2.1)=0) {k:Int} (c:Aw s k=true):0<=k/\k<Aa x.2.1:=by
 have p:=(Yt o (Ak x.2.1) (by have:=g.n2;omega)).1 h k;refine ⟨?_,?_⟩
 ·apply Int.not_lt.1;intro d;rw[Wx d] at c;cases c
 ·apply Int.not_le.1;intro d;rw[p d] at c;cases c
theorem Adj {x} (Y:Ca x) (Z:ShapeOK x):∃b,LB x=some b/\(b=true↔GH x):=by
 unfold LB;refine Aa6 (λa:Option Bool=>∃b,a=some b/\(b=true↔GH x)) (λ_ p=>Wr x p) (λs p=>Aq .or .u32 s p.1) As (λs=>Ao (I0 s) λy=>some (y==Aa x.2.1)) (some false) ⟨by decide,by decide⟩ Y.p (λs i p hI h0 hi hp=>?_) λs i hI hi=>by simp[hi,cnd,hi2_eq] (λh=>⟨_,rfl,?_⟩) λh=>⟨false,rfl,λc=>(by cases c),λc=>absurd c.1 h⟩
 ·obtain⟨pu,pm⟩:=Y.ps p (Ag hp).2.2;simp only[hi,decide_true,AL,hp,AF];by_cases h1:p.1=0
  ·exact .inr ⟨λc=>c.ne h1,by simp only[beq_iff_eq.2 h1,AL]⟩
  simp only[beq_false_of_ne h1,AR];have v:decide (0<=Aa x.2.1)=true:=by simp;exact Ak _
  simp only[v,AL];by_cases E:(!AH IntKind.u32 p.1 (Aa x.2.1)==0||!BX (p.2.1::p.2.2.1::p.2.2.2.1::[])||decide (p.2.2.1<p.2.1))=true
  ·refine .inr ⟨λc=>?_,by simp only[E,AL]⟩;have:=c.le;simp[(Ab7 p.2.1 p.2.2.1 p.2.2.2.1).2 ⟨c.min,c.max,c.gap⟩,c.hi] at E;omega
  ·have d:=Bool.eq_false_iff.2 E;simp only[d,AR];simp only[Qbv,Qew,beq_iff_eq,decide_eq_false_iff_not] at d;obtain⟨⟨k1,o⟩,k3⟩:=d;have o:=(Ab7 _ _ _).1 o;refine yB (λa:Step (Int×Int) (Option Bool)=>Wr x p/\a=.next (Aq .or .u32 s p.1,wr .i64 (i+1))/\As (Aq .or .u32 s p.1)\/¬Wr x p/\a=.done (some false))
    (λk=>∀g s,idx x.2.1 k=some g->idx x.2.2.1 k=some s->g.2.1<=p.2.1/\Aq .and .u32 s p.1=0) (.done (some false)) (.next (Aq .or .u32 s p.1,wr .i64 (i+1))) pu (λy yu yz ys l0 l1 lb=>?_) (by simp[cnd,hi2_eq]) (λh=>.inl ⟨⟨h1,k1,o.1,o.2.1,o.2.2,by omega,h⟩,rfl,ZY hI pu⟩) λh=>.inr ⟨λc=>h c.bits,rfl⟩;obtain⟨b0,b1⟩:=UL Z pu k1 lb;obtain⟨g,hg,_⟩:=Ai b0 b1;obtain⟨I,J,_⟩:=Ai b0 (by rw[Z.a];exact b1);simp only[beq_false_of_ne yz,Qbl,AL,Ao,Uk yz,MU l0 l1,hg,J,AF];by_cases X:p.2.1<g.2.1
   ·exact .inr ⟨λc=>by have:=(c g I rfl rfl).1;omega,by simp only[X,decide_true,AL]⟩
   ·by_cases t:Aq .and .u32 I p.1=0
    ·exact .inl ⟨λg' s' a1 a2=>by cases a1;cases a2;exact ⟨by omega,t⟩,by simp only[X,decide_false,AR,beq_iff_eq.2 t,Qbo]⟩
    ·exact .inr ⟨λc=>t (c g I rfl rfl).2,by simp only[X,decide_false,AR,beq_false_of_ne t,Qbl,AL]⟩
 ·show (I0 (AdZ x)==Aa x.2.1)=true↔_;rw[beq_iff_eq];exact ⟨λc=>⟨h,c⟩,λc=>c.2⟩
structure AdU (x:Al) (e:YF):Prop where
 phase:0<=e.1/\e.1<=Aa x.2.2.2.2.1-1
 on:1<=e.2.1/\e.2.1<=1048576
 off:1<=e.2.2.1/\e.2.2.1<=1048576
 turns:1<=e.2.2.2/\e.2.2.2<=64
def Yy (x:Al):Prop:=∀i e,idx x.2.2.2.2.2.1 i=some e->AdU x e
theorem Agh {x} (o:Ca x) (g:ShapeOK x):∃b,Oh x=some b/\(b=true↔Yy x):=by
 unfold Oh;refine Bn (λa:Option Bool=>∃b,a=some b/\(b=true↔Yy x)) (λ_ e=>AdU x e) (some false) (some true) o.e (λi e h0 hi p=>?_) λi hi=>by simp[hi,cnd,hi2_eq] (λh=>⟨true,rfl,λ_=>h,λ_=>rfl⟩) λh=>⟨false,rfl,λd=>(by cases d),λd=>absurd d h⟩;have t:wr .i64 (Aa x.2.2.2.2.1-1)=Aa x.2.2.2.2.1-1:=by have:=g.p1;have:=g.p2;exact Aj _ (by omega) (by omega)
 simp only[hi,decide_true,AL,p,AF,Ao,t];by_cases h1:(!B0 (e.1,0,Aa x.2.2.2.2.1-1)||!BX (e.2.1::e.2.2.1::[])||!B0 (e.2.2.2,(1,64)))=true
 ·refine .inr ⟨λd=>?_,by simp only[h1,AL]⟩;have t1:=(Dj _ _ _).2 d.phase;have t2:=(aO e.2.1 e.2.2.1).2 ⟨d.on,d.off⟩;have t3:=(Dj _ _ _).2 d.turns<;>simp_all
 ·have c:=Bool.eq_false_iff.2 h1;refine .inl ⟨?_,by simp only[c,AR]⟩;simp only[Qbv,Qew] at c;have t2:=(aO _ _).1 c.1.2;exact ⟨(Dj _ _ _).1 c.1.1,t2.1,t2.2,(Dj _ _ _).1 c.2⟩
def bC (x:Al) (c d:R6) (a v:Int):Prop :=
 Aw c.1 a=true/\∃s r b,idx x.2.2.1 a=some s/\idx x.2.2.2.1 a=some r/\Aw s b=true/\Aw d.1 b=true/\idx r b=some v
def Ex (x:Al) (c d:R6) (n m:Int):Prop :=
 0<=m/\(∀a v,0<=a->a<n->bC x c d a v->v<=m)/\(m=0\/∃a,0<=a/\a<n/\bC x c d a m)
theorem UY {x c d n m g} (h:Ex x c d n m) (h':Ex x c d n g):m=g:=by obtain⟨h1,o,p⟩:=h;obtain⟨g1,t,v⟩:=h'<;>grind
theorem uT {x f t d c} (hx:Ca x) (p:ShapeOK x) (hf:idx x.2.2.2.2.1 f=some d) (ht:idx x.2.2.2.2.1 t=some c) :
 ∃m,Kj (x,(f,t))=some m/\Ex x d c (Aa x.2.1) m:=by
 obtain⟨uf,_⟩:=hx.ps d (Ag hf).2.2;obtain⟨ut,_⟩:=hx.ps c (Ag ht).2.2;unfold Kj;refine Db (λs=>0<=s.2/\s.2<=Aa x.2.1/\Ex x d c s.2 s.1) (λs=>(Aa x.2.1-s.2).toNat) (λa:Option Int=>∃m,a=some m/\Ex x d c (Aa x.2.1) m) ?_ Am (0,0) ⟨by simp,Ak _,by simp,λa v h0 h1=>by omega,.inl rfl⟩ (by have:=p.n2;rw[Eh]<;>omega);rintro⟨m,a⟩ ⟨h0,h1,h2,h3,h4⟩;simp only at h0 h1 h2 h3 h4;by_cases X:a<Aa x.2.1
 ·have hw:wr .i64 (a+1)=a+1:=by have:=p.n2;exact Aj _ (by omega) (by omega)
  simp only[X,decide_true,AL,hf,AF,Ao,Of uf];have old:∀ {g},m<=g->(∀v,bC x d c a v->v<=g)->g=m\/bC x d c a g->Ex x d c (a+1) g:=λ{g} le up ex=>by
   refine ⟨by omega,λY v b0 E Z=>?_,?_⟩
   ·grind
   grind
  cases hb:Aw d.1 a with
  |false =>simp only[Qbl,AL,hw];refine ⟨⟨by omega,by omega,old (Qbb _) (λv Z=>?_) (.inl rfl)⟩,by grind⟩;have:=Z.1<;>simp_all
  |true =>
   obtain⟨I,h,J⟩:=Ai h0 (by rw[p.a];exact X);obtain⟨r,hr,_⟩:=Ai h0 (by rw[p.b];exact X);have us:=hx.as I J;have a1:=p.rows a r hr;simp only[Qbo,AR,h,ht,AF];have inr:∀k,Aw (Aq .and .u32 I c.1) k=true->Aw I k=true/\Aw c.1 k=true/\0<=k/\k<Aa r:=λk o=>by rw[Si us ut,Qab] at o;obtain⟨b0,E⟩:=UL p us (p.aps a I h) o.1;exact ⟨o.1,o.2,b0,by omega⟩
   refine iE (λz:Step (Int×Int) (Option Int)=>Round (λs=>0<=s.2/\s.2<=Aa x.2.1/\Ex x d c s.2 s.1) (λs=>(Aa x.2.1-s.2).toNat) (λa:Option Int=>∃m,a=some m/\Ex x d c (Aa x.2.1) m) (Aa x.2.1-a).toNat z)
    (λk=>el r k) (λm=>.next (m,wr .i64 (a+1))) (k8 us ut) (λg y yu yz l0 l1 lb=>?_) λg=>by simp[cnd,hi2_eq] λg g1 g2 g3=>?_
   ·obtain⟨_,_,b0,E⟩:=inr _ lb;simp only[beq_false_of_ne yz,Qbl,AL,Uk yz,MU l0 l1,hr,A7 b0 E,AF]
   ·rw[hw];refine ⟨⟨by simp only;omega,by simp only;omega,old g1 (λv Z=>?_) ?_⟩,by show (Aa x.2.1-(a+1)).toNat<(Aa x.2.1-a).toNat;omega⟩
    ·obtain⟨_,s',r',b,e1,e2,e3,e4,e5⟩:=Z;rw[h] at e1;cases e1;rw[hr] at e2;cases e2;have o:Aw (Aq .and .u32 I c.1) b=true:=by rw[Si us ut,e3,e4];rfl
     have:=g2 b o;simpa[el,e5] using this
    ·rcases g3 with g3|⟨k,o,rfl⟩
     ·exact .inl g3
     ·obtain⟨k1,k2,b0,E⟩:=inr k o;exact .inr ⟨hb,I,r,k,h,hr,k1,k2,A7 b0 E⟩
 ·simp only[X,decide_false,AR];exact ⟨m,rfl,h2,λY v b0 E=>h3 Y v b0 (by omega),h4.imp id λ⟨Y,c1,c2,c3⟩=>⟨Y,c1,by omega,c3⟩⟩
theorem XW {x t v m} (y:Ca x) (c:ShapeOK x) (d:H3 x) (h:Ex x t v (Aa x.2.1) m):0<=m/\m<=1048576:=by
 refine ⟨h.1,?_⟩;rcases h.2.2 with Z|⟨a,a0,E,_,s,r,b,o,I,e3,_,J⟩
 ·omega
 ·obtain⟨g,hg,_⟩:=Ai a0 E;obtain⟨b0,X⟩:=UL c (y.as s (Ag o).2.2) (c.aps a s o) e3;obtain⟨Y,p,_⟩:=Ai b0 (by rw[c.a];exact X);exact ((d a g hg).row r s b m Y I o J p).2.1 e3 |>.2.2
def BN (x:Al) (i:Int):Int:=(GY (x,i)).getD 0
def Hy (x:Al) (i:Int):Int:=(i+1).tmod (Aa x.2.2.2.2.1)
theorem oG {x i} (c:ShapeOK x) (h0:0<=i):0<=Hy x i/\Hy x i<Aa x.2.2.2.2.1:=by have:=c.p1;unfold Hy;exact ⟨Qcr _ (by omega),Qby _ (by omega)⟩
theorem L4 {x i p} (t:Ca x) (c:ShapeOK x) (h:H3 x) (o:GH x) (g:idx x.2.2.2.2.1 i=some p) :
 GY (x,i)=some (BN x i)/\∃pn m,idx x.2.2.2.2.1 (Hy x i)=some pn/\Ex x p pn (Aa x.2.1) m/\BN x i=p.2.1+m/\1<=BN x i/\BN x i<=2097152:=by
 obtain⟨I,i1,_⟩:=Ag g;obtain⟨n0,n1⟩:=oG c I;obtain⟨pn,d,_⟩:=Ai n0 n1;obtain⟨m,J,v⟩:=uT t c g d;have hl:=XW t c h v;have y:=(o.1 i p g).min;have X:=c.p1;have Y:=c.p2;have key:GY (x,i)=some (p.2.1+m):=by
  unfold GY;have e:BB (wr .i64 (i+1)) (Aa x.2.2.2.2.1)=Hy x i:=by rw[Aj _ (by omega) (by omega)];rfl
  have Z:!Aa x.2.2.2.2.1==0=true:=by simp;omega
  simp only[g,AF,Z,AL,e,J];rw[Aj _ (by omega) (by omega)]
 have E:BN x i=p.2.1+m:=by unfold BN;rw[key];rfl
 exact ⟨by rw[E];exact key,pn,m,d,v,E,by omega,by omega⟩
def D4 (x:Al):Nat->Int
 |0=>0
 |n+1=>D4 x n+BN x (n:Int)
def Qw (x:Al):Int:=D4 x x.2.2.2.2.1.length
structure Py (x:Al):Prop where
 watch:1<=x.2.2.2.2.2.2.1/\x.2.2.2.2.2.2.1<=1048576
 feed:1<=x.2.2.2.2.2.2.2.1/\x.2.2.2.2.2.2.2.1<=1048576
 heal:1<=x.2.2.2.2.2.2.2.2.1/\x.2.2.2.2.2.2.2.2.1<=1048576
 low:1<=x.2.2.2.2.2.2.2.2.2.1/\x.2.2.2.2.2.2.2.2.2.1<=1048576
 high:1<=x.2.2.2.2.2.2.2.2.2.2.1/\x.2.2.2.2.2.2.2.2.2.2.1<=1048576
 round:Qw x<=x.2.2.2.2.2.2.2.2.2.1
 le:x.2.2.2.2.2.2.2.2.2.1<=x.2.2.2.2.2.2.2.2.2.2.1
theorem TW {x} (g:Ca x) (o:ShapeOK x) (c:H3 x) (d:GH x):∀n,n<=x.2.2.2.2.1.length->0<=D4 x n/\D4 x n<=2097152*(n:Int)
 |0,_=>by simp[D4]
 |n+1,h=>by have v:=TW g o c d n (by omega);obtain⟨p,t,_⟩:=Ai (l:=x.2.2.2.2.1) (i:=(n:Int)) (by omega) (by unfold Aa;omega);have:=(L4 g o c d t).2;obtain⟨_,_,_,_,_,h1,y⟩:=this;simp only[D4];omega
theorem AfF {x} (t:Ca x) (g:ShapeOK x) (c:H3 x) (d:GH x):∃b,M5 x=some b/\(b=true↔Py x):=by
 unfold M5;have v:=g.p2;refine Db (λs=>0<=s.2/\s.2<=Aa x.2.2.2.2.1/\s.1=D4 x s.2.toNat) (λs=>(Aa x.2.2.2.2.1-s.2).toNat) (λa:Option Bool=>∃b,a=some b/\(b=true↔Py x)) ?_ Am (0,0) ⟨by simp,Ak _,rfl⟩ (by rw[Eh]<;>omega);rintro⟨m,i⟩ ⟨h0,h1,o⟩;simp only at h0 h1 o;by_cases hi:i<Aa x.2.2.2.2.1
 ·obtain⟨p,y,_⟩:=Ai h0 hi;obtain⟨E,_,_,_,_,_,n1,n2⟩:=L4 t g c d y;have X:=TW t g c d i.toNat (by unfold Aa at hi;omega);simp only[hi,decide_true,AL,E,AF];rw[Aj (m+_) (by omega) (by omega),Aj (i+1) (by omega) (by omega)];refine ⟨⟨by omega,by omega,?_⟩,by grind⟩;simp only;rw[show (i+1).toNat=i.toNat+1 by omega,D4,<-o,show ((i.toNat:Nat):Int)=i by omega]
 ·simp only[hi,decide_false,AR,Ao];refine ⟨_,rfl,?_⟩;have I:m=Qw x:=by rw[o];unfold Qw;congr 1;unfold Aa at h1 hi;omega
  have J:BX (x.2.2.2.2.2.2.1::x.2.2.2.2.2.2.2.1::x.2.2.2.2.2.2.2.2.1::x.2.2.2.2.2.2.2.2.2.1::x.2.2.2.2.2.2.2.2.2.2.1::[])=true↔(1<=x.2.2.2.2.2.2.1/\x.2.2.2.2.2.2.1<=1048576)/\(1<=x.2.2.2.2.2.2.2.1/\x.2.2.2.2.2.2.2.1<=1048576)/\(1<=x.2.2.2.2.2.2.2.2.1/\x.2.2.2.2.2.2.2.2.1<=1048576)/\(1<=x.2.2.2.2.2.2.2.2.2.1/\x.2.2.2.2.2.2.2.2.2.1<=1048576)/\1<=x.2.2.2.2.2.2.2.2.2.2.1/\x.2.2.2.2.2.2.2.2.2.2.1<=1048576:=by unfold BX;simp
  rw[Qab,Qab,J,decide_eq_true_eq,decide_eq_true_eq,I];exact ⟨λh=>⟨h.1.1.1,h.1.1.2.1,h.1.1.2.2.1,h.1.1.2.2.2.1,h.1.1.2.2.2.2,h.1.2,h.2⟩,λh=>⟨⟨⟨h.watch,h.feed,h.heal,h.low,h.high⟩,h.round⟩,h.le⟩⟩
def Hs (p:AJ):Nat->Int
 |0=>p.1
 |n+1=>Hs p n-el p.2.2 (n:Int)
structure D6 (x:Al) (p:AJ):Prop where
 cycle:x.2.2.2.2.2.2.2.2.2.1<=p.1/\p.1<=x.2.2.2.2.2.2.2.2.2.2.1
 offset:0<=p.2.1/\p.2.1<=p.1-1
 len:Aa p.2.2=Aa x.2.2.2.2.1
 split:∀n:Nat,(n:Int)<Aa p.2.2->BN x (n:Int)<=el p.2.2 (n:Int)/\el p.2.2 (n:Int)<=Hs p n
 all:Hs p p.2.2.length=0
def SQ (p:AJ):Prop:=(-9223372036854775808<=p.1/\p.1<=9223372036854775807)/\p.2.2.length<=maxLen/\∀m∈p.2.2,-9223372036854775808<=m/\m<=9223372036854775807
theorem AaT {x p} (hx:Ca x) (Z:ShapeOK x) (y:H3 x) (E:GH x) (d:Py x) (_:SQ p):∃b,K9 (x,p)=some b/\(b=true↔D6 x p):=by
 unfold K9;simp only[Ao];rw[AK];have a1:=d.low;have I:=d.high;split
 ·rename_i h;refine ⟨false,rfl,λc=>(by cases c),λc=>?_⟩;exfalso;have c1:=c.cycle;have t1:=(Dj p.1 _ _).2 c.cycle;have hw:wr .i64 (p.1-1)=p.1-1:=Aj _ (by omega) (by omega);have t2:=(Dj p.2.1 0 (p.1-1)).2 c.offset;have t3:=c.len<;>simp_all
 ·rename_i h;simp only[Qaj,Qal,beq_eq_false_iff_ne,not_or,Qdh,ne_eq,Qcq] at h;obtain⟨⟨g1,g2⟩,g3⟩:=h;have g1:=(Dj _ _ _).1 g1;rw[Aj _ (by omega) (by omega)] at g2;have g3:Aa p.2.2=Aa x.2.2.2.2.1:=by omega
  have a6:=Z.p2;refine Db (λs=>0<=s.2/\s.2<=Aa p.2.2/\s.1=Hs p s.2.toNat/\0<=s.1/\s.1<=1048576/\∀n:Nat,(n:Int)<s.2->BN x (n:Int)<=el p.2.2 (n:Int)/\el p.2.2 (n:Int)<=Hs p n) (λs=>(Aa p.2.2-s.2).toNat) (λa:Option Bool=>∃b,a=some b/\(b=true↔D6 x p)) ?_ Am (p.1,0) ⟨by simp,Ak _,rfl,by omega,by omega,λn h=>by omega⟩ (by rw[Eh]<;>omega);rintro⟨m,i⟩ ⟨h0,h1,g,h3,h4,J⟩;simp only at h0 h1 g h3 h4 J;by_cases hi:i<Aa p.2.2
  ·obtain⟨ph,X,_⟩:=Ai (l:=x.2.2.2.2.1) h0 (by omega);obtain⟨hn,_,_,_,_,_,n1,n2⟩:=L4 hx Z y E X;have o:((i.toNat:Nat):Int)=i:=by omega
   simp only[hi,decide_true,AL,A7 h0 hi,hn,AF];by_cases v:B0 (el p.2.2 i,(BN x i,m))=true
   ·have t:=(Dj _ _ _).1 v;simp only[v,Qbo,AR];rw[Aj (m-_) (by omega) (by omega),Aj (i+1) (by omega) (by omega)];refine ⟨⟨by simp only;omega,by simp only;omega,?_,by simp only;omega,by simp only;omega,λn Y=>?_⟩,by show (Aa p.2.2-(i+1)).toNat<(Aa p.2.2-i).toNat;omega⟩
    ·simp only;rw[show (i+1).toNat=i.toNat+1 by omega,Hs,<-g,o]
    ·simp only at Y;by_cases e:(n:Int)=i
     ·have e2:n=i.toNat:=by omega
      rw[e];refine ⟨t.1,?_⟩;rw[e2,<-g];exact t.2
     ·exact J n (by omega)
   ·simp only[Bool.eq_false_iff.2 v,Qbl,AL];refine ⟨false,rfl,λc=>(by cases c),λc=>?_⟩;have:=c.split i.toNat (by omega);rw[o,<-g] at this;exact absurd ((Dj _ _ _).2 this) v
  ·simp only[hi,decide_false,AR];refine ⟨_,rfl,?_⟩;have hl:i.toNat=p.2.2.length:=by unfold Aa at h1 hi;omega
   rw[beq_iff_eq,g,hl];exact ⟨λh=>⟨g1,(Dj _ _ _).1 g2,g3,λn hn=>J n (by omega),h⟩,λh=>h.all⟩
def QM (x:Al):Prop:=∀i p,idx x.2.2.2.2.2.2.2.2.2.2.2 i=some p->D6 x p
theorem AbJ {x} (d:Ca x) (y:ShapeOK x) (g:H3 x) (o:GH x) (t:Py x):∃b,KQ x=some b/\(b=true↔QM x):=by
 unfold KQ;refine Bn (λa:Option Bool=>∃b,a=some b/\(b=true↔QM x)) (λ_ p=>D6 x p) (some false) (some true) d.q (λi p h0 hi v=>?_) λi hi=>by simp[hi,cnd,hi2_eq] (λh=>⟨true,rfl,λ_=>h,λ_=>rfl⟩) λh=>⟨false,rfl,λc=>(by cases c),λc=>absurd c h⟩;obtain⟨b,h1,E⟩:=AaT d y g o t (d.qs p (Ag v).2.2);simp only[hi,decide_true,AL,v,AF,h1];cases b with
 |true=>exact .inl ⟨E.1 rfl,rfl⟩
 |false=>exact .inr ⟨λc=>by simp_all,rfl⟩
structure CB (x:Al):Prop where
 id:0<=x.1/\x.1<=65535
 shape:ShapeOK x
 apart:H3 x
 phased:GH x
 eyed:Yy x
 timed:Py x
 planned:QM x
theorem uR {x} (y:Ca x):∃e,AD x=some e/\(e=0/\CB x\/e=50/\¬CB x):=by
 unfold AD;have step:∀ {k:Int} {P:Prop},k<=5->wr .i64 (k+1)=k+1\/k<0:=λ{k P} h=>by
  by_cases h0:0<=k
  ·exact .inl (Aj _ (by omega) (by omega))
  omega
 refine Db (λs=>s.1=false/\0<=s.2/\s.2<=6/\(1<=s.2->(0<=x.1/\x.1<=65535)/\ShapeOK x)/\(2<=s.2->H3 x)/\(3<=s.2->GH x)/\(4<=s.2->Yy x)/\(5<=s.2->Py x)/\(6<=s.2->QM x)) (λs=>(6-s.2).toNat) (λa:Option Int=>∃e,a=some e/\(e=0/\CB x\/e=50/\¬CB x)) ?_ Am (false,0) ⟨rfl,by simp,by simp,λh=>by simp at h,λh=>by simp at h,λh=>by simp at h,λh=>by simp at h,λh=>by simp at h,λh=>by simp at h⟩ (by rw[Eh];simp);rintro⟨b,k⟩ ⟨I,Y,Z,v,t,a3,a4,E,J⟩;simp only at I Y Z v t a3 a4 E J;subst I;by_cases X:k<6
 ·have hw:wr .i64 (k+1)=k+1:=Aj _ (by omega) (by omega);simp only[X,decide_true,AL,hw];have p:k=0\/k=1\/k=2\/k=3\/k=4\/k=5:=by omega
  rcases p with rfl|rfl|rfl|rfl|rfl|rfl
  ·simp only[beq_self_eq_true,AL,Ao];by_cases c:B0 (x.1,(0,65535))=true
   ·obtain⟨b,h1,d⟩:=Afv y;simp only[c,Qbo,AR,h1,AF];cases b with
    |true=>exact ⟨⟨rfl,by decide,by decide,λ_=>⟨(Dj _ _ _).1 c,d.1 rfl⟩,λh=>by simp at h,λh=>by simp at h,λh=>by simp at h,λh=>by simp at h,λh=>by simp at h⟩,by decide⟩
    |false=>exact ⟨50,rfl,.inr ⟨rfl,λo=>by have:=d.2 o.shape;cases this⟩⟩
   ·simp only[Bool.eq_false_iff.2 c,Qbl,AL];exact ⟨50,rfl,.inr ⟨rfl,λo=>c ((Dj _ _ _).2 o.id)⟩⟩
  ·obtain⟨c,g⟩:=v (by decide);obtain⟨b,h1,d⟩:=Aek y g;simp only[show ((1:Int)==0)=false from rfl,beq_self_eq_true,AL,AR,h1,AF];cases b with
   |true=>exact ⟨⟨rfl,by decide,by decide,λ_=>⟨c,g⟩,λ_=>d.1 rfl,λh=>by simp at h,λh=>by simp at h,λh=>by simp at h,λh=>by simp at h⟩,by decide⟩
   |false=>exact ⟨50,rfl,.inr ⟨rfl,λo=>by have:=d.2 o.apart;cases this⟩⟩
  ·obtain⟨c,g⟩:=v (by decide);obtain⟨b,h1,d⟩:=Adj y g;simp only[show ((2:Int)==0)=false from rfl,show ((2:Int)==1)=false from rfl,beq_self_eq_true,AL,AR,h1,AF];cases b with
   |true=>exact ⟨⟨rfl,by decide,by decide,λ_=>⟨c,g⟩,λ_=>t (by decide),λ_=>d.1 rfl,λh=>by simp at h,λh=>by simp at h,λh=>by simp at h⟩,by decide⟩
   |false=>exact ⟨50,rfl,.inr ⟨rfl,λo=>by have:=d.2 o.phased;cases this⟩⟩
  ·obtain⟨c,g⟩:=v (by decide);obtain⟨b,h1,d⟩:=Agh y g;simp only[show ((3:Int)==0)=false from rfl,show ((3:Int)==1)=false from rfl,show ((3:Int)==2)=false from rfl,beq_self_eq_true,AL,AR,h1,AF];cases b with
   |true=>exact ⟨⟨rfl,by decide,by decide,λ_=>⟨c,g⟩,λ_=>t (by decide),λ_=>a3 (by decide),λ_=>d.1 rfl,λh=>by simp at h,λh=>by simp at h⟩,by decide⟩
   |false=>exact ⟨50,rfl,.inr ⟨rfl,λo=>by have:=d.2 o.eyed;cases this⟩⟩
  ·obtain⟨c,g⟩:=v (by decide);obtain⟨b,h1,d⟩:=AfF y g (t (by decide)) (a3 (by decide));simp only[show ((4:Int)==0)=false from rfl,show ((4:Int)==1)=false from rfl,show ((4:Int)==2)=false from rfl,show ((4:Int)==3)=false from rfl,beq_self_eq_true,AL,AR,h1,AF];cases b with
   |true=>exact ⟨⟨rfl,by decide,by decide,λ_=>⟨c,g⟩,λ_=>t (by decide),λ_=>a3 (by decide),λ_=>a4 (by decide),λ_=>d.1 rfl,λh=>by simp at h⟩,by decide⟩
   |false=>exact ⟨50,rfl,.inr ⟨rfl,λo=>by have:=d.2 o.timed;cases this⟩⟩
  ·obtain⟨c,g⟩:=v (by decide);obtain⟨b,h1,d⟩:=AbJ y g (t (by decide)) (a3 (by decide)) (E (by decide));simp only[show ((5:Int)==0)=false from rfl,show ((5:Int)==1)=false from rfl,show ((5:Int)==2)=false from rfl,show ((5:Int)==3)=false from rfl,show ((5:Int)==4)=false from rfl,beq_self_eq_true,AL,AR,h1,AF];cases b with
   |true=>exact ⟨⟨rfl,by decide,by decide,λ_=>⟨c,g⟩,λ_=>t (by decide),λ_=>a3 (by decide),λ_=>a4 (by decide),λ_=>E (by decide),λ_=>d.1 rfl⟩,by decide⟩
   |false=>exact ⟨50,rfl,.inr ⟨rfl,λo=>by have:=d.2 o.planned;cases this⟩⟩
 ·simp only[X,decide_false,AR];have e:k=6:=by omega
  subst e;obtain⟨c,g⟩:=v (by decide);exact ⟨0,rfl,.inl ⟨rfl,c,g,t (by decide),a3 (by decide),a4 (by decide),E (by decide),J (by decide)⟩⟩
end Go.Proofs.YtlgpjdjcbincgaaGreatDoor
namespace Go.Proofs.YtlgpjdjcbincgaaGreatDoor
open Go.Den
theorem uZ x (g:Ca x):∃b,F8 x=some b:=by
 unfold F8;rw[AK];split
 ·exact ⟨_,rfl⟩
 ·refine Bn (λa:Option Bool=>∃b,a=some b) (λ_ r=>¬40<Aa r) (some true) _ g.b (λi r h0 hi c=>?_) λi hi=>by simp only[hi,decide_false,AR];rfl (λ_=>?_) λ_=>⟨_,rfl⟩
  ·simp only[hi,decide_true,AL,c,AF];by_cases h:40<Aa r
   ·exact .inr ⟨λd=>d h,by simp only[h,decide_true,AL]⟩
   ·exact .inl ⟨h,by simp only[h,decide_false,AR]⟩
  ·refine Bn (λa:Option Bool=>∃b,a=some b) (λ_ p=>¬40<Aa p.2.2) (some true) (some false) g.q (λi r h0 hi c=>?_) λi hi=>by simp only[hi,decide_false,AR] (λ_=>⟨_,rfl⟩) λ_=>⟨_,rfl⟩;simp only[hi,decide_true,AL,c,AF];by_cases h:40<Aa r.2.2
   ·exact .inr ⟨λd=>d h,by simp only[h,decide_true,AL]⟩
   ·exact .inl ⟨h,by simp only[h,decide_false,AR]⟩
theorem lT {s} {e:Int} (c:e=0/\CB s\/e=50/\¬CB s) (h:e=0):CB s:=by simp_all
end Go.Proofs.YtlgpjdjcbincgaaGreatDoor
namespace Go.Proofs.YtlgpjdjcbincgaaGreatDoor
open Go.Den
structure AfX (x:Al):Prop where
 n1:1<=Aa x.2.1
 n2:Aa x.2.1<=16
 a:Aa x.2.2.1=Aa x.2.1
 b:Aa x.2.2.2.1=Aa x.2.1
 rows:∀i r,idx x.2.2.2.1 i=some r->Aa r=Aa x.2.1
 aps:∀i s,idx x.2.2.1 i=some s->AH .u32 s (Aa x.2.1)=0
theorem ShapeOK.g {x} (h:ShapeOK x):AfX x:=⟨h.n1,h.n2,h.a,h.b,h.rows,h.aps⟩
end Go.Proofs.YtlgpjdjcbincgaaGreatDoor
namespace Go.Proofs.YtlgpjdjcbincgaaGreatDoor.Pn
open Go.Den
theorem in_site {a b c:Int}:B0 (a,(b,c))=true↔b<=a/\a<=c:=Dj a b c
theorem vL (a:Int) {b:Int} (h:0<b):-b<a.tmod b:=by
 by_cases h0:0<=a
 ·have:=Qcr b h0;omega
 ·have h1:=Qby (-a) h;rw[Int.neg_tmod] at h1;omega
def RG (s:Al):Int:=s.2.2.2.2.2.2.2.2.2.1
def Lq (s:Al):Int:=s.2.2.2.2.2.2.2.2.2.2.1
theorem oM {s:Al} (J:Ca s) (h:CB s) (X:AD s=some 0) {i:Int} {p:R6} (o:idx s.2.2.2.2.1 i=some p):Io (s,i)=some (BN s i-p.2.1):=by
 obtain⟨Y,i1,_⟩:=Ag o;have p1:=h.shape.p1;have p2:=h.shape.p2;obtain⟨n0,n1⟩:=oG h.shape Y;obtain⟨_,pn,m,t,v,Z,_,_⟩:=L4 J h.shape h.apart h.phased o;obtain⟨m',y,g⟩:=uT J h.shape o t;have E:=UY v g;subst E;have hn:HQ (s,i)=some (Hy s i):=by unfold HQ Hy;rw[Zzp (by simp;omega),Aj (i+1) (by omega) (by omega)];rfl
 have hC:M1 (s,(i,Hy s i))=some (m,0):=by
  unfold M1;rw[Gj,Zzq X,Af (b:=!(0:Int)==0) _ _ rfl];refine Bn (l:=i::Hy s i::[]) (λr:Option (Int×Int)=>r=some (m,0)) (λ_ x=>0<=x/\x<=Aa s.2.2.2.2.1-1) (some (0,2)) (some (m,0)) (by simp[maxLen]) (λj x j0 j1 d=>?_) λj hj=>by (try simp only);rw[Zzn (decide_eq_false hj),Af (b:=!(0:Int)==0) _ _ rfl,Zzq y] (λ_=>rfl) λI=>absurd (λj x d=>?_) I
  ·try simp only
   rw[Zzp (decide_eq_true j1),Zzq d,Au,Aj (Aa s.2.2.2.2.1-1) (by omega) (by omega)];by_cases c:0<=x/\x<=Aa s.2.2.2.2.1-1
   ·exact .inl ⟨c,by rw[Zzn (by rw[in_site.2 c];rfl)]⟩
   ·exact .inr ⟨c,by rw[Zzp (by rw[Bool.eq_false_iff.2 λI=>c (in_site.1 I)];rfl)];rfl⟩
  ·have hm:=(Ag d).2.2;have:x=i\/x=Hy s i:=by simpa using hm
   rcases this with e|e
   ·rw[e];omega
   ·rw[e];omega
 unfold Io;rw[Zzq hn,Zzq hC,Z];show some m=some (p.2.1+m-p.2.1);congr 1;omega
def Bz (f:Int->Int):Nat->Int
 |0=>0
 |k+1=>Bz f k+f (k:Int)
def FK (f:Int->Int):Nat->Int
 |0=>-1
 |k+1=>if 0<f (k:Int)/\FK f k<0 then (k:Int) else FK f k
def KJ (f:Int->Int) (n:Nat):List Int:=(List.range n).map λ(k:Nat)=>f (k:Int)
theorem OH (f:Int->Int) (n:Nat):Aa (KJ f n)=n:=by unfold Aa KJ;simp
theorem Vv {f:Int->Int} {n:Nat} {j:Int} (c:0<=j) (d:j<n):idx (KJ f n) j=some (f j):=by unfold KJ;rw[AY c,Qbf,Qcs (by omega)];show some (f ((j.toNat:Nat):Int)) = _;rw[Qax c]
theorem yH (f:Int->Int) (n:Nat):KJ f (n+1)=KJ f n++[f (n:Int)]:=by unfold KJ;rw[Qdf,Qdy];rfl
theorem aM (s:Al):∀k,Bz (BN s) k=D4 s k
 |0=>rfl
 |k+1=>by rw[Bz,D4,aM s k]
theorem dQ {f:Int->Int} {b:Int} {n:Nat} (h:∀k:Nat,k<n->0<=f (k:Int)/\f (k:Int)<=b):∀k,k<=n->0<=Bz f k/\Bz f k<=b*(k:Int)
 |0,_=>by simp[Bz]
 |k+1,c=>by
  have d:=dQ h k (by omega);have:=h k (by omega);rw[Bz];have e:b*((k+1:Nat):Int)=b*(k:Int)+b:=by rw[Qdn,Int.mul_add];simp
  omega
def BU (s:Al) (p:AJ) (i:Int):Int:=if i<Aa p.2.2 then max 0 (min (max 0 (el p.2.2 i)) (Lq s)-BN s i) else 0
def DC (s:Al) (p:AJ):Int:=min (max p.1 (RG s)) (Lq s)
def RI (s:Al) (p:AJ):Int:=(p.2.1.tmod (DC s p)+DC s p).tmod (DC s p)
def nV (s:Al):Nat:=s.2.2.2.2.1.length
def C4 (s:Al) (p:AJ):Int:=Bz (BU s p) (nV s)
def E1 (s:Al) (p:AJ):Int:=DC s p-Qw s
def CV (s:Al) (p:AJ) (i:Int):Int:=if 0<C4 s p then E1 s p*BU s p i/C4 s p else 0
def N8 (s:Al) (p:AJ):Int:=E1 s p-Bz (CV s p) (nV s)
def MO (s:Al) (p:AJ) (i:Int):Int:=BN s i+CV s p i
def atV (s:Al) (p:AJ):Int:=max 0 (FK (BU s p) (nV s))
def La (s:Al) (p:AJ) (i:Int):Int:=if i=atV s p then MO s p i+N8 s p else MO s p i
def CO (s:Al) (p:AJ):AJ:=(DC s p,(RI s p,KJ (La s p) (nV s)))
theorem eK (f:Int->Int):∀n,-1<=FK f n/\FK f n<(n:Int)/\(0<=FK f n↔∃k:Nat,k<n/\0<f (k:Int))
 |0=>⟨by simp[FK],by simp[FK],by simp[FK]⟩
 |n+1=>by
  obtain⟨h1,p,g⟩:=eK f n;rw[FK];by_cases c:0<f (n:Int)/\FK f n<0
  ·rw[if_pos c];exact ⟨by omega,by omega,λ_=>⟨n,by omega,c.1⟩,λ_=>by omega⟩
  ·rw[if_neg c];refine ⟨h1,by omega,λh=>?_,λ⟨k,o,d⟩=>?_⟩
   ·obtain⟨k,o,d⟩:=g.1 h;exact ⟨k,by omega,d⟩
   ·by_cases e:k=n
    ·subst e;apply Qar;intro t;exact c ⟨d,by omega⟩
    ·exact g.2 ⟨k,by omega,d⟩
theorem Kb {s:Al} (c:Ca s) (h:CB s) {i:Int} (d:0<=i) (i1:i<Aa s.2.2.2.2.1):1<=BN s i/\BN s i<=2097152:=by obtain⟨_,pn,m,_,_,_,a,b⟩:=L4 c h.shape h.apart h.phased (A7 d i1);exact ⟨a,b⟩
structure Aaf (s:Al) (p:AJ):Prop where
 low:1<=RG s/\RG s<=Lq s/\Lq s<=1048576
 cyc:RG s<=DC s p/\DC s p<=Lq s
 off:0<=RI s p/\RI s p<DC s p
 n:1<=nV s/\nV s<=8
 rest:0<=E1 s p/\E1 s p<=1048576
 wish:∀i,0<=i->i<(nV s:Int)->0<=BU s p i/\BU s p i<=1048576
 all:∀k,k<=nV s->0<=Bz (BU s p) k/\Bz (BU s p) k<=1048576*(k:Int)
 round:∀k,k<=nV s->0<=D4 s k/\D4 s k<=2097152*(k:Int)
 share:∀i,0<=i->i<(nV s:Int)->0<=CV s p i
 shares:∀k,k<=nV s->0<=Bz (CV s p) k/\Bz (CV s p) k<=E1 s p
 at_:0<=atV s p/\atV s p<(nV s:Int)
theorem fX {s:Al} {p:AJ} (g:0<=E1 s p) (h:∀i,0<=i->i<(nV s:Int)->0<=BU s p i):∀k,k<=nV s->0<=Bz (CV s p) k/\Bz (CV s p) k*C4 s p<=E1 s p*Bz (BU s p) k
 |0,_=>by simp[Bz]
 |k+1,t=>by
  obtain⟨h1,o⟩:=fX g h k (by omega);have d:=h (k:Int) (by omega) (by omega);rw[Bz,Bz,Int.add_mul,Int.mul_add];unfold CV;by_cases c:0<C4 s p
  ·rw[if_pos c];have v:0<=E1 s p*BU s p (k:Int)/C4 s p:=Qdz (Qef g d) (by omega);have y:E1 s p*BU s p (k:Int)/C4 s p*C4 s p<=E1 s p*BU s p (k:Int):=Int.ediv_mul_le _ (by omega);unfold CV at h1 o;exact ⟨by omega,by omega⟩
  ·rw[if_neg c];unfold CV at h1 o;have:=Qef g d;rw[Int.zero_mul];exact ⟨by omega,by omega⟩
theorem Oz {s:Al} (Z:Ca s) (h:CB s) (p:AJ):Aaf s p:=by
 have t:=h.timed;have hl:1<=RG s/\RG s<=Lq s/\Lq s<=1048576:=⟨t.low.1,t.le,t.high.2⟩;have hc:RG s<=DC s p/\DC s p<=Lq s:=by unfold DC;omega
 have p1:=h.shape.p1;have p2:=h.shape.p2;have hn:1<=nV s/\nV s<=8:=by unfold Aa at p1 p2;unfold nV;omega
 have J:((nV s:Nat):Int)=Aa s.2.2.2.2.1:=rfl;have g:∀k,k<=nV s->0<=D4 s k/\D4 s k<=2097152*(k:Int):=λk o=>TW Z h.shape h.apart h.phased k o;have a1:Qw s<=RG s:=t.round;have a6:0<=Qw s:=(g (nV s) (Qaa _)).1;have d:0<=E1 s p/\E1 s p<=1048576:=by unfold E1;omega
 have v:∀i,0<=i->i<(nV s:Int)->0<=BU s p i/\BU s p i<=1048576:=λi y i1=>by have:=Kb Z h y (by rw[<-J];exact i1);unfold BU;split<;>omega
 have E:=dQ (f:=BU s p) (b:=1048576) (n:=nV s) λk o=>v k (by omega) (by omega);have I:=fX (p:=p) d.1 λi y i1=>(v i y i1).1;refine ⟨hl,hc,?_,hn,d,v,E,g,λi y i1=>?_,λk o=>⟨(I k o).1,?_⟩,?_⟩
 ·unfold RI;have a:=Qby p.2.1 (b:=DC s p) (by omega);have b:-DC s p<p.2.1.tmod (DC s p):=by have:=vL p.2.1 (b:=DC s p) (by omega);exact this
  exact ⟨Qcr _ (by omega),Qby _ (by omega)⟩
 ·unfold CV;split
  ·exact Qdz (Qef d.1 (v i y i1).1) (by omega)
  ·omega
 ·by_cases c:0<C4 s p
  ·have h2:=(I k o).2;have hm:Bz (BU s p) k<=C4 s p:=by
    have mono:∀m,m<=nV s->k<=m->Bz (BU s p) k<=Bz (BU s p) m:=by
     intro m;induction m with
     |zero=>intro _ X;rw[show k=0 by omega];omega
     |succ m Y =>
      intro hm X;by_cases e:k=m+1
      ·rw[e];omega
      ·have:=Y (by omega) (by omega);have:=(v (m:Int) (by omega) (by omega)).1;rw[Bz];omega
    exact mono (nV s) (Qaa _) o
   have h3:E1 s p*Bz (BU s p) k<=E1 s p*C4 s p:=Int.mul_le_mul_of_nonneg_left hm d.1;exact Int.le_of_mul_le_mul_right (a:=C4 s p) (by omega) c
  ·have:Bz (CV s p) k=0:=by
    have:∀m,Bz (CV s p) m=0:=by
     intro m;induction m with
     |zero=>rfl
     |succ m Y=>rw[Bz,Y];unfold CV;rw[if_neg c];rfl
    exact this k
   omega
 ·obtain⟨f1,f2,_⟩:=eK (BU s p) (nV s);unfold atV;omega
theorem jZ {a b:Int} (h0:0<=a) (h1:0<b) (c:a/b<=9223372036854775807):DZ .i64 a b=a/b:=by have d:0<=a/b:=Qdz h0 (by omega);have:a.tdiv b=a/b:=Qen h0;show wr .i64 (a.tdiv b) = _;rw[this,Aj _ (by omega) (by omega)]
abbrev St1:=Int×Int×Int×Int×((Int×Int)×List Int×Unit)×List Int
theorem Zm {A:Type} {bad:Step St1 A} {i least rest all first w:Int} {co:Int×Int} {sp ws:List Int} (hi:0<=i/\i<=8) (g:idx ws i=some w) (v:Aa sp<=8) (h1:-9223372036854775808<=rest-least/\rest-least<=9223372036854775807) (h:-9223372036854775808<=all+w/\all+w<=9223372036854775807) :
 CT (λd:Int×((Int×Int)×List Int×Unit)×List Int =>
 Ad (idx d.2.2 i) bad λ_ =>
 Ad (idx d.2.2 i) bad λp =>
 cnd (true&&AA (Aa d.2.1.2.1+Aa (least::[])) 8)
(.next (wr .i64 (i+1),(wr .i64 (rest-least),(wr .i64 (all+p),(d.1,((d.2.1.1,(d.2.1.2.1++least::[],())),d.2.2))))))
 bad) (λk =>
 Ad (idx ws i) bad λ_ =>
 Ad (idx ws i) bad λt =>
 cnd (decide (0<t)&&decide (first<0))
(k (i,((co,(sp,())),ws)))
(k (first,((co,(sp,())),ws))))=(.next (i+1,(rest-least,(all+w,(if 0<w/\first<0 then i else first,((co,(sp++[least],())),ws))))):Step St1 A):=by
 rw[Gj,Zzq g,Zzq g,Aj (i+1) (by omega) (by omega),Aj (rest-least) h1.1 h1.2]
 by_cases c:0<w/\first<0
 ·rw[Zzp (by simp[c]),if_pos c]
  try simp only
  rw[Zzq g,Zzq g,Aj (all+w) h.1 h.2]
  exact Zzp (AV (l:=sp) (by omega))
 ·rw[Zzn (by
   apply Bool.eq_false_iff.2
   intro o
   rw[Qab,decide_eq_true_eq,decide_eq_true_eq] at o
   exact c o),if_neg c]
  try simp only
  rw[Zzq g,Zzq g,Aj (all+w) h.1 h.2]
  exact Zzp (AV (l:=sp) (by omega))
theorem uS {s:Al} {p:AJ} {e:Int} (hx:Ca s) (ar:e=0->CB s) (hc:AD s=some e) (b8:SQ p) (ba:-9223372036854775808<=p.2.1/\p.2.1<=9223372036854775807):EY (s,p)=some (if e≠0 then ((0,(0,[])),e) else (CO s p,0)):=by
 unfold EY;rw[Zzq hc];by_cases h0:e=0
 ·subst h0;have h:=ar rfl;have N:=Oz hx h p;obtain⟨l1,l2,l3⟩:=N.low;obtain⟨c1,c2⟩:=N.cyc;obtain⟨n1,n2⟩:=N.n;have E:((nV s:Nat):Int)=Aa s.2.2.2.2.1:=rfl;have au:min (max p.1 s.2.2.2.2.2.2.2.2.2.1) s.2.2.2.2.2.2.2.2.2.2.1=DC s p:=rfl;have bb:=Qby p.2.1 (b:=DC s p) (by omega);have bc:-DC s p<p.2.1.tmod (DC s p):=vL p.2.1 (by omega);have av:BB (wr .i64 (BB p.2.1 (DC s p)+DC s p)) (DC s p)=RI s p:=by show (wr .i64 (p.2.1.tmod (DC s p)+DC s p)).tmod (DC s p) = _;rw[Aj _ (by omega) (by omega)];rfl
  have aj:(!DC s p==0)=true:=by simp;omega
  rw[Af (b:=!(0:Int)==0) _ _ rfl,if_neg (show ¬(0:Int)≠0 by simp)];simp only[Ds,ED,au,av];rw[Zzp aj,Zzp aj,Zzp (C6 (by omega) (by omega))];refine Ap (λz:St1=>z.1) (nV s:Int) (λz=>z.2.1=DC s p-D4 s z.1.toNat/\z.2.2.1=Bz (BU s p) z.1.toNat/\z.2.2.2.1=FK (BU s p) z.1.toNat/\z.2.2.2.2.1=((DC s p,RI s p),(KJ (BN s) z.1.toNat,()))/\Aa z.2.2.2.2.2=(nV s:Int)/\(∀j,0<=j->j<z.1->idx z.2.2.2.2.2 j=some (BU s p j))/\∀j,z.1<=j->j<(nV s:Int)->idx z.2.2.2.2.2 j=some 0) (λr=>r=some (CO s p,(0:Int))) (by omega) (by simp) (by simp only;omega) ⟨by simp[D4],rfl,rfl,rfl,AM (by omega) _,λj o g=>absurd g (by simp only;omega),λj o g=>IP o (by rw[<-E];exact g) _⟩ (λz hI y i1=>?_) λz hI hz=>?_
  ·obtain⟨i,rest,all,first,bx,ws⟩:=z;obtain⟨hr,ha,hf,hb,a6,Z,ab⟩:=hI;simp only at y i1 hr ha hf hb a6 Z ab;subst hr ha hf hb;have ah:=A7 (l:=s.2.2.2.2.1) y (by rw[<-E];exact i1);have aw:=Kb hx h y (by rw[<-E];exact i1);have b2:=(h.phased.1 i _ ah).min;have ax:wr .i64 ((el s.2.2.2.2.1 i).2.1+(BN s i-(el s.2.2.2.2.1 i).2.1))=BN s i:=by rw[Aj _ (by omega) (by omega)];omega
   have ad:=N.wish i y i1;have bd:=N.round i.toNat (by omega);have ai:=N.all i.toNat (by omega);have bf:=OH (BN s) i.toNat;have Y:=ab i (Qbb _) i1;have d:(i+1).toNat=i.toNat+1:=by omega
   have I:((i.toNat:Nat):Int)=i:=by omega
   try simp only
   rw[Zzp (decide_eq_true (by rw[<-E];exact i1)),Zzq ah,Zzq (oM hx h hc ah)];simp only[ax];rw[Gj];have fin:∀a7:List Int,Aa a7=(nV s:Int)->(∀j,0<=j->j<i+1->idx a7 j=some (BU s p j))->(∀j,i+1<=j->j<(nV s:Int)->idx a7 j=some 0)->Cq (λz:St1=>z.1) (λz=>z.2.1=DC s p-D4 s z.1.toNat/\z.2.2.1=Bz (BU s p) z.1.toNat/\z.2.2.2.1=FK (BU s p) z.1.toNat/\z.2.2.2.2.1=((DC s p,RI s p),(KJ (BN s) z.1.toNat,()))/\Aa z.2.2.2.2.2=(nV s:Int)/\(∀j,0<=j->j<z.1->idx z.2.2.2.2.2 j=some (BU s p j))/\∀j,z.1<=j->j<(nV s:Int)->idx z.2.2.2.2.2 j=some 0) (λr:Option (AJ×Int)=>r=some (CO s p,(0:Int))) i (.next (i+1,(DC s p-D4 s i.toNat-BN s i,(Bz (BU s p) i.toNat+BU s p i,(if 0<BU s p i/\FK (BU s p) i.toNat<0 then i else FK (BU s p) i.toNat,(((DC s p,RI s p),(KJ (BN s) i.toNat++[BN s i],())),a7)))))):=λa7 a1 a2 a3=>by
    refine ⟨rfl,?_,?_,?_,?_,a1,a2,a3⟩
    ·simp only;rw[d,D4,I];omega
    ·simp only;rw[d,Bz,I]
    ·simp only;rw[d,FK,I]
    ·simp only;rw[d,yH,I]
   by_cases c:i<Aa p.2.2
   ·have v:=A7 (l:=p.2.2) y c;have ae:max 0 (wr .i64 (min (max 0 (el p.2.2 i)) s.2.2.2.2.2.2.2.2.2.2.1-BN s i))=BU s p i:=by have hh:Lq s=s.2.2.2.2.2.2.2.2.2.2.1:=rfl;rw[Aj _ (by omega) (by omega)];unfold BU;rw[if_pos c];rfl
    rw[Zzp (decide_eq_true c),Zzq v,Zzq Y,Zzq Y];simp only[ae];have t:∀j,idx (AB ws i (BU s p i)) j=if j=i then some (BU s p i) else idx ws j:=λj=>By y (by omega) _ j
    rw[Zm (w:=BU s p i) ⟨y,by omega⟩ (by rw[t,if_pos rfl]) (by omega) (by omega) (by omega)];exact fin _ (by rw[AN];exact a6) (λj o g=>by
     rw[t];split
     ·rename_i ej;rw[ej]
     ·exact Z j o (by omega)) λj o g=>by rw[t,if_neg (by omega)];exact ab j (by omega) g
   ·have ae:BU s p i=0:=by unfold BU;rw[if_neg c]
    rw[Zzn (decide_eq_false c)];try simp only
    rw[Zm (w:=BU s p i) ⟨y,by omega⟩ (by rw[ae];exact Y) (by omega) (by omega) (by omega)];exact fin _ a6 (λj o g=>by
     by_cases ej:j=i
     ·rw[ej,ae];exact Y
     ·exact Z j o (by omega)) λj o g=>ab j (by omega) g
  ·obtain⟨i,rest,all,first,bx,ws⟩:=z;obtain⟨hr,ha,hf,hb,a6,Z,_⟩:=hI;simp only at hz hr ha hf hb a6 Z;subst hz;rw[Qae] at hr ha hf hb;have ay:rest=E1 s p:=hr;have az:all=C4 s p:=ha;subst ay az hf hb;obtain⟨r1,r2⟩:=N.rest;have J:=OH (BN s) (nV s);have ai:=N.all (nV s) (Qaa _);have b3:0<=C4 s p:=ai.1;have b7:C4 s p<=1048576*(nV s:Int):=ai.2;try simp only
   rw[Zzn (decide_eq_false (by rw[<-E];omega))];have ak:∀i,0<=i->i<(nV s:Int)->0<=CV s p i/\CV s p i<=1048576:=λi y i1=>by have a1:=N.share i y i1;have a2:=N.shares i.toNat (by omega);have a3:=N.shares (i.toNat+1) (by omega);rw[Bz,show ((i.toNat:Nat):Int)=i by omega] at a3;omega
   refine Ap (λz:Int×Int×(Int×Int)×List Int×Unit=>z.1) (nV s:Int) (λz=>z.2.1=E1 s p-Bz (CV s p) z.1.toNat/\z.2.2.1=(DC s p,RI s p)/\Aa z.2.2.2.1=(nV s:Int)/\(∀j,0<=j->j<z.1->idx z.2.2.2.1 j=some (MO s p j))/\∀j,0<=j->z.1<=j->j<(nV s:Int)->idx z.2.2.2.1 j=some (BN s j)) (λr=>LI (λr=>r=some (CO s p,(0:Int))) (.done r:Step St1 (Option (AJ×Int)))) (by omega) (by simp) (by simp only;omega) ⟨by simp[Bz],rfl,J,λj o g=>absurd g (by simp only;omega),λj o _ g=>Vv o g⟩ (λz hI y i1=>?_) λz hI hz=>?_
   ·obtain⟨i,left,co,sp,u⟩:=z;obtain⟨hl,a8,X,v,af⟩:=hI;simp only at y i1 hl a8 X v af;subst hl a8;have aa:=af i y (Qbb _) i1;have aw:=Kb hx h y (by rw[<-E];exact i1);have d:(i+1).toNat=i.toNat+1:=by omega
    have I:((i.toNat:Nat):Int)=i:=by omega
    have bg:=ak i y i1;have bh:=N.shares i.toNat (by omega);try simp only
    rw[Zzp (decide_eq_true (by rw[J];exact i1)),Aj (i+1) (by omega) (by omega)];by_cases c:0<C4 s p
    ·have ad:=N.wish i y i1;have al:0<=E1 s p*BU s p i/\E1 s p*BU s p i<=1048576*1048576:=⟨Qef r1 ad.1,Int.mul_le_mul r2 ad.2 ad.1 (by omega)⟩;have an:E1 s p*BU s p i/C4 s p=CV s p i:=by unfold CV;rw[if_pos c]
     have hq:DZ .i64 (wr .i64 (E1 s p*BU s p i)) (C4 s p)=CV s p i:=by rw[Aj _ (by omega) (by omega),jZ al.1 c (by rw[an];omega),an]
     rw[Zzp (decide_eq_true c),Zzq (Z i y i1),Zzp (by simp;omega),Zzq aa,Zzq aa,Zzq aa,Zzq aa];simp only[hq];rw[Aj (BN s i+CV s p i) (by omega) (by omega),Aj (E1 s p-Bz (CV s p) i.toNat-CV s p i) (by omega) (by omega)];have t:∀j,idx (AB sp i (BN s i+CV s p i)) j=if j=i then some (BN s i+CV s p i) else idx sp j:=λj=>By y (by omega) _ j
     refine ⟨rfl,?_,rfl,by (try simp only);rw[AN];exact X,λj o g=>?_,λj o g j2=>?_⟩
     ·simp only;rw[d,Bz,I];omega
     ·simp only at g ⊢;rw[t];split
      ·rename_i ej;rw[ej];rfl
      ·exact v j o (by omega)
     ·simp only at g ⊢;rw[t,if_neg (by omega)];exact af j o (by omega) j2
    ·have ao:∀j,CV s p j=0:=λj=>by unfold CV;rw[if_neg c]
     rw[Zzn (decide_eq_false c)];refine ⟨rfl,?_,rfl,X,λj o g=>?_,λj o g j2=>af j o (by simp only at g;omega) j2⟩
     ·simp only;rw[d,Bz,I,ao];omega
     ·simp only at g ⊢;by_cases ej:j=i
      ·rw[ej,aa];unfold MO;rw[ao,Int.add_zero]
      ·exact v j o (by omega)
   ·obtain⟨i,left,co,sp,u⟩:=z;obtain⟨hl,a8,X,v,_⟩:=hI;simp only at hz hl a8 X v;subst hz;rw[Qae] at hl;have b0:left=N8 s p:=hl;subst b0 a8;obtain⟨a0,a1⟩:=N.at_;have b1:max 0 (FK (BU s p) (nV s))=atV s p:=rfl;have ag:=v (atV s p) a0 a1;have bj:=ak (atV s p) a0 a1;have bk:=Kb hx h a0 (by rw[<-E];exact a1);have bl:0<=N8 s p/\N8 s p<=1048576:=by have:=N.shares (nV s) (Qaa _);unfold N8;omega
    try simp only[b1]
    rw[Zzn (decide_eq_false (by rw[J];omega)),Zzq ag,Zzq ag,Zzq ag,Zzq ag,Aj _ (by unfold MO;omega) (by unfold MO;omega)];show some _ = some _;have aq:AB sp (atV s p) (MO s p (atV s p)+N8 s p)=KJ (La s p) (nV s):=by
     refine Eg (by rw[AN,X,OH]) λj o g=>?_;rw[AN,X] at g;rw[By a0 (by omega),Vv o g];unfold La;by_cases ej:j=atV s p
     ·rw[if_pos ej,if_pos ej,ej]
     ·rw[if_neg ej,if_neg ej];exact v j o g
    rw[aq];rfl
 ·rw[Zzp (by simp[h0]),if_pos h0]
end Go.Proofs.YtlgpjdjcbincgaaGreatDoor.Pn
namespace Go.Proofs.YtlgpjdjcbincgaaGreatDoor.Pn
open Go.Den
theorem OM {f n k} (h:∀k:Nat,k<n->0<=f (k:Int)):∀m,m<=n->k<=m->Bz f k<=Bz f m
 |0,_,c=>by simp_all
 |m+1,d,c=>by
  by_cases e:k=m+1
  ·simp_all
  ·have:=OM h (k:=k) m (by omega) (by omega);have:=h m (by omega);rw[Bz];omega
theorem aL {f g n} (h:∀k:Nat,k<n->f (k:Int)=g (k:Int)):∀m,m<=n->Bz f m=Bz g m
 |0,_=>rfl
 |m+1,c=>by rw[Bz,Bz,aL h m (by omega),h m (by omega)]
theorem qC f g:∀m,Bz (λi=>f i+g i) m=Bz f m+Bz g m
 |0=>rfl
 |m+1=>by rw[Bz,Bz,Bz,qC f g m];omega
theorem fW f a c (h0:0<=a):∀m,Bz (λi=>if i=a then f i+c else f i) m=Bz f m+if a<(m:Int) then c else 0
 |0=>by rw[Bz,Bz,if_neg (by omega)];rfl
 |m+1=>by rw[Bz,Bz,fW f a c h0 m]<;>omega
theorem Tv p:∀m,Hs p m=p.1-Bz (λi=>el p.2.2 i) m
 |0=>by rw[Hs,Bz];omega
 |m+1=>by rw[Hs,Bz,Tv p m];omega
theorem fU {s p} (c:Ca s) (h:CB s):Bz (La s p) (nV s)=DC s p:=by obtain⟨a0,d⟩:=(Oz c h p).at_;have g:Bz (La s p) (nV s)=Bz (λi=>if i=atV s p then MO s p i+N8 s p else MO s p i) (nV s):=rfl;rw[g,fW _ _ _ a0,if_pos d];have o:Bz (MO s p) (nV s)=Bz (λi=>BN s i+CV s p i) (nV s):=rfl;rw[o,qC,aM];unfold N8 E1 Qw nV;omega
theorem XV {s p j} (c:0<=j) (d:j<(nV s:Int)):el (CO s p).2.2 j=La s p j:=by unfold el CO;simp only;rw[Vv c d];rfl
theorem Yu {s p j} (c:Ca s) (h:CB s) (d:0<=j) (g:j<(nV s:Int)):BN s j<=La s p j:=by have N:=Oz c h p;have h1:=N.share j d g;have o:=N.shares (nV s) (Qaa _);unfold La MO N8<;>omega
theorem lU {s p} (o:Ca s) (h:CB s):D6 s (CO s p):=by
 have N:=Oz o h p;have v:((nV s:Nat):Int)=Aa s.2.2.2.2.1:=rfl;have c:Aa (CO s p).2.2=(nV s:Int):=OH _ _;have g:(CO s p).2.2.length=nV s:=by unfold Aa at c;omega
 have d:∀m,m<=nV s->Hs (CO s p) m=DC s p-Bz (La s p) m:=λm t=>by rw[Tv];rw[aL (n:=nV s) (λk y=>XV (by omega) (by omega)) m t];rfl
 refine ⟨N.cyc,⟨N.off.1,?_⟩,by rw[c,v],λm t=>?_,?_⟩
 ·have:=N.off.2;show RI s p<=DC s p-1;omega
 ·rw[c] at t;rw[XV (by omega) t,d m (by omega)];refine ⟨Yu o h (by omega) t,?_⟩;have:=OM (f:=La s p) (k:=m+1) λk y=>by have:=Kb o h (i:=(k:Int)) (by omega) (by omega);have:=Yu (p:=p) o h (j:=(k:Int)) (by omega) (by omega);omega (nV s) (Qaa _) (by omega);rw[Bz,fU o h] at this;omega
 ·rw[g,d _ (Qaa _),fU o h];omega
theorem TZ {s p} (c:Ca s) (h:CB s) (d:AD s=some 0) (g:SQ p):∃b,En (s,p)=some (b,0)/\(b=true↔D6 s p):=by unfold En;obtain⟨b,h1,o⟩:=AaT c h.shape h.apart h.phased h.timed g;exact ⟨b,by rw[Zzq d,Af (b:=!(0:Int)==0) _ _ rfl,Zzq h1],o⟩
end Go.Proofs.YtlgpjdjcbincgaaGreatDoor.Pn
namespace Go.Proofs.YtlgpjdjcbincgaaGreatDoor.Pn
open Go.Den
def HJ (p:AJ) (k:Nat):Int:=Bz (λi=>el p.2.2 i) k
theorem OA p k:HJ p (k+1)=HJ p k+el p.2.2 (k:Int):=rfl
structure SR (s:Al) (p:AJ):Prop where
 cyc:1<=p.1/\p.1<=1048576
 off:0<=p.2.1/\p.2.1<p.1
 n:1<=nV s/\nV s<=8
 len:p.2.2.length=nV s
 needs:∀k:Nat,k<nV s->1<=BN s (k:Int)/\BN s (k:Int)<=el p.2.2 (k:Int)
 ends:∀k,k<=nV s->0<=HJ p k/\HJ p k<=p.1
 all:HJ p (nV s)=p.1
theorem yT {s p} (y:Ca s) (h:CB s) (t:D6 s p):SR s p:=by
 have N:=Oz y h p;obtain⟨l1,l2,Y⟩:=N.low;have I:((nV s:Nat):Int)=Aa s.2.2.2.2.1:=rfl;have o:Aa p.2.2=(nV s:Int):=t.len;have c:p.2.2.length=nV s:=by unfold Aa at o;omega
 obtain⟨c1,c2⟩:=t.cycle;obtain⟨Z,o2⟩:=t.offset;have J:= c1;have X:p.1<=Lq s:=c2;have E:∀k:Nat,k<nV s->1<=BN s (k:Int)/\BN s (k:Int)<=el p.2.2 (k:Int):=λk v=>by have h1:=t.split k (by omega);have h2:=Kb y h (i:=(k:Int)) (by omega) (by omega)<;>omega
 have d:HJ p (nV s)=p.1:=by have:=t.all;rw[c,Tv] at this;unfold HJ;omega
 have g:∀k:Nat,k<nV s->0<=(λi=>el p.2.2 i) (k:Int):=λk v=>by have:=E k v;simp only;omega
 refine ⟨by omega,by omega,N.n,c,E,λk v=>⟨?_,?_⟩,d⟩
 ·exact OM (k:=0) g k v (by omega)
 ·rw[<-d];exact OM g (nV s) (Qaa _) v
theorem QS {s p} (N:SR s p):∀k,k<=nV s->CJ p.2.2 k=HJ p k
 |0,_=>rfl
 |k+1,c=>by
  have e:=N.ends (k+1) c;rw[CJ,QS N k (by omega),OA];have:p.2.2[k]?.getD 0=el p.2.2 (k:Int):=by unfold el;rw[AY (by omega)];rfl
  rw[this,Aj _ (by rw[OA] at e<;>omega) (by rw[OA] at e;have:=N.cyc;omega)]
def Ut (p:AJ) (k:Nat) (x:Int):Prop:=HJ p k<=x/\x<HJ p (k+1)
theorem AaN {s p j k} (N:SR s p) (c:k<=nV s) (h:j<=k):HJ p j<=HJ p k :=
 OM λi hi=>by have:=N.needs i hi<;>omega k c h
theorem Afd {s p x} (N:SR s p) (g:0<=x) (d:x<p.1):∃k:Nat,k<nV s/\Ut p k x:=by
 have:∀m,m<=nV s->x<HJ p m->∃k:Nat,k<m/\Ut p k x:=by
  intro m;induction m with
  |zero=>intro _ h;simp[HJ,Bz] at h;omega
  |succ m o =>
   intro t h;by_cases c:x<HJ p m
   ·grind
   ·exact ⟨m,by omega,by omega,h⟩
 obtain⟨k,v,h⟩:=this (nV s) (Qaa _) (by rw[N.all];exact d)<;>grind
theorem uY {l pl}:∀n k j,k<=j->j<k+n->(∀i,k<=i->i<j->¬pl<CJ l (i+1))->pl<CJ l (j+1)->JA l pl n k=((j:Int),(wr .i64 (wr .i64 (pl-CJ l (j+1))+l[j]?.getD 0),0))
 |0,k,j,h1,d,_,_=>by omega
 |n+1,k,j,h1,d,c,g=>by
  rw[JA];by_cases e:k=j
  ·simp_all
  ·rw[if_neg (c k (Qaa _) (by omega))];exact uY n (k+1) j (by omega) (by omega) (λi hi h=>c i (by omega) h) g
theorem Aen {s p x k} (N:SR s p) (o:k<nV s) (h:Ut p k x):JA p.2.2 x p.2.2.length 0=((k:Int),(x-HJ p k,0)):=by
 have t:=N.ends k (by omega);have g:=N.ends (k+1) (by omega);have c:=N.cyc;obtain⟨h1,d⟩:=h;rw[uY p.2.2.length 0 k (by omega) (by rw[N.len];omega) λi _ hi=>by rw[QS N (i+1) (by omega)];have:=AaN N (j:=i+1) (k:=k) (by omega) (by omega);omega (by rw[QS N (k+1) (by omega)];exact d),QS N (k+1) (by omega)];have:p.2.2[k]?.getD 0=el p.2.2 (k:Int):=by unfold el;rw[AY (by omega)];rfl
 rw[this];rw[OA] at g d ⊢;rw[Aj (x-(HJ p k+el p.2.2 (k:Int))) (by omega) (by omega),Aj _ (by omega) (by omega)];congr 2;omega
def OJ (p:AJ) (t:Int):Int:=(t+p.1-p.2.1)%p.1
theorem Adk {s p} (N:SR s p) t:0<=OJ p t/\OJ p t<p.1:=by have c:=N.cyc;exact ⟨Int.emod_nonneg _ (by omega),Int.emod_lt_of_pos _ (by omega)⟩
theorem AhE {s p t} (y:Ca s) (h:CB s) (I:AD s=some 0) (J:SQ p) (d:D6 s p) (t0:0<=t) (t1:t<=1073741824) :
 ∃k:Nat,k<nV s/\Ut p k (OJ p t)/\HA (s,(p,t))=some ((k:Int),(OJ p t-HJ p k,0)):=by
 have N:=yT y h d;obtain⟨a,b⟩:=Adk N t;obtain⟨k,E,g⟩:=Afd N a b;refine ⟨k,E,g,?_⟩;have c:=N.cyc;have o:=N.off;obtain⟨b,h1,X⟩:=TZ y h I J;have Y:= X.2 d;subst Y;have v:BB (wr .i64 (wr .i64 (t+p.1)-p.2.1)) p.1=OJ p t:=by rw[Aj (t+p.1) (by omega) (by omega),Aj _ (by omega) (by omega)];exact Qbq (by omega)
 unfold HA;simp only[h1];have Z:Aa p.2.2=(nV s:Int):=by unfold Aa;rw[N.len]
 have:=N.n;rw[if_neg (by simp),if_neg (by simp),if_neg (by omega),if_neg (by omega),v,Aen N E g]
end Go.Proofs.YtlgpjdjcbincgaaGreatDoor.Pn
namespace Go.Proofs.YtlgpjdjcbincgaaGreatDoor
open Go.Den
def Ci (s:Al) (a b:Int):Bool:=Aw (el s.2.2.1 a) b
def F4 (s:Al) (a b:Int):Int:=el (el s.2.2.2.1 a) b
structure SOK (s:Al):Prop where
 n1:1<=Aa s.2.1
 n2:Aa s.2.1<=16
 la:Aa s.2.2.1=Aa s.2.1
 lb:Aa s.2.2.2.1=Aa s.2.1
 rows:∀i r,idx s.2.2.2.1 i=some r->Aa r=Aa s.2.1
 us:∀i x,idx s.2.2.1 i=some x->As x
 grp:∀i g,idx s.2.1 i=some g->(1<=g.2.1/\g.2.1<=1048576)/\1<=g.2.2/\g.2.2<=1048576
 pair:∀a b,0<=a->a<Aa s.2.1->0<=b->b<Aa s.2.1->Ci s a b=Ci s b a/\(Ci s a b=true->a≠b/\(el s.2.1 a).2.2<=F4 s a b/\F4 s a b<=1048576)/\(Ci s a b=false->F4 s a b=0)
theorem sok {s} (p:Ca s) (h:CB s):SOK s where
 n1:=h.shape.n1
 n2:=h.shape.n2
 la:=h.shape.a
 lb:=h.shape.b
 rows:=h.shape.rows
 us:=λi x t=>p.as x (Ag t).2.2
 grp:=λi g hg=>⟨(h.apart i g hg).min,(h.apart i g hg).yellow⟩
 pair:=λa b a0 c b0 d=>by have o:=A7 a0 (by rw[h.shape.b];exact c);exact (h.apart a _ (A7 (l:=s.2.1) a0 c)).row _ _ b _ _ o (A7 (l:=s.2.2.1) a0 (by rw[h.shape.a];exact c)) (A7 (l:=el s.2.2.2.1 a) b0 (by rw[h.shape.rows a _ o];exact d)) (A7 (l:=s.2.2.1) b0 (by rw[h.shape.a];exact d))
theorem Aeq {s a b} (h:SOK s) (a0:0<=a) (d:a<Aa s.2.1) (b0:0<=b) (g:b<Aa s.2.1):0<=F4 s a b/\F4 s a b<=1048576:=by
 obtain⟨_,o,p⟩:=h.pair a b a0 d b0 g;cases c:Ci s a b with
 |true =>have:=o c;have:=(h.grp a _ (A7 a0 d)).2;omega
 |false=>simp_all
theorem bU {s a b} (h:SOK s) (a0:0<=a) (c:a<Aa s.2.1) (b0:0<=b) (d:b<Aa s.2.1):FU (s,(a,b))=some (Ci s a b):=by have n2:=h.n2;have e:=A7 a0 (by rw[h.la];exact c);unfold FU;rw[Zzq e,Zzp (decide_eq_true b0)];show some (Aq .and .u32 (AH .u32 (el s.2.2.1 a) b) 1==1) = _;rw[UF (h.us a _ e) b0 (by omega)];rfl
theorem eC {s a b} (h:SOK s) (a0:0<=a) (c:a<Aa s.2.1) (b0:0<=b) (d:b<Aa s.2.1):GF (s,(a,b))=some (F4 s a b):=by have e:=A7 a0 (by rw[h.lb];exact c);unfold GF;rw[Zzq e,Zzq (A7 b0 (by rw[h.rows a _ e];exact d))];rfl
structure jF (s:Al) (m:Int):Prop where
 lo:0<=m
 hi:m<=1048576
 all:∀a b,0<=a->a<Aa s.2.1->0<=b->b<Aa s.2.1->Ci s a b=true->F4 s a b<=m
 one:m=0\/∃a b,0<=a/\a<Aa s.2.1/\0<=b/\b<Aa s.2.1/\Ci s a b=true/\m=F4 s a b
theorem AaZ {s F} (h:SOK s) {B:Int->Int×Int->Step (Int×Int) (Step (Int×Int) (Option Int))}
 (hF:∀m a,0<=a->a<Aa s.2.1->F (m,a)=iter (.done none) (B a) Am (m,0)) (I:∀m,F (m,Aa s.2.1)=.done (some m))
 (hB:∀m a b,0<=a->a<Aa s.2.1->0<=b->b<Aa s.2.1->B a (m,b)=.next (if Ci s a b=true then max m (F4 s a b) else m,wr .i64 (b+1))) (J:∀m a,0<=a->a<Aa s.2.1->B a (m,Aa s.2.1)=.done (.next (m,wr .i64 (a+1)))) :
 ∃m,iter none F Am (0,0)=some m/\jF s m:=by
 have n1:=h.n1;have n2:=h.n2;refine Ap (λz:Int×Int=>z.2) (Aa s.2.1) (λz=>0<=z.1/\z.1<=1048576/\(∀a b,0<=a->a<z.2->0<=b->b<Aa s.2.1->Ci s a b=true->F4 s a b<=z.1)/\(z.1=0\/∃a b,0<=a/\a<Aa s.2.1/\0<=b/\b<Aa s.2.1/\Ci s a b=true/\z.1=F4 s a b)) (λr:Option Int=>∃m,r=some m/\jF s m) (by omega) (by simp) (by omega) ⟨by simp,by simp,λa b h0 h1=>by omega,.inl rfl⟩ (λz X a0 t=>?_) λz X v=>?_
 ·obtain⟨m,a⟩:=z;obtain⟨g1,o,p,d⟩:=X;simp only at a0 t g1 o p d;rw[hF m a a0 t];refine Ap (λz:Int×Int=>z.2) (Aa s.2.1) (λz=>0<=z.1/\z.1<=1048576/\(∀g b,0<=g->g<a/\b<Aa s.2.1\/g=a/\b<z.2->0<=b->Ci s g b=true->F4 s g b<=z.1)/\(z.1=0\/∃a b,0<=a/\a<Aa s.2.1/\0<=b/\b<Aa s.2.1/\Ci s a b=true/\z.1=F4 s a b)) _ (by omega) (by simp) (by omega) ⟨g1,o,λg b h0 h1 y Y=>?_,d⟩ (λz hJ b0 E=>?_) λz hJ v=>?_
  ·grind
  ·obtain⟨m,b⟩:=z;obtain⟨g1,o,p,d⟩:=hJ;simp only at b0 E g1 o p d;have a6:=Aeq h a0 t b0 E;rw[hB m a b a0 t b0 E,Aj (b+1) (by omega) (by omega)];refine ⟨rfl,?_,?_,λg b' h0 h1 y Y=>?_,?_⟩
   ·omega
   ·omega
   ·simp only at h1 ⊢;by_cases e:g=a/\b'=b
    ·obtain⟨rfl,rfl⟩:=e;rw[if_pos Y];omega
    ·have:=p g b' h0 (by omega) y Y;split<;>omega
   ·try simp only
    split
    ·rename_i c;by_cases Z:F4 s a b<=m
     ·rw[Qeq Z];exact d
     ·rw[Qei (by omega)];exact .inr ⟨a,b,a0,t,b0,E,c,rfl⟩
    ·exact d
  ·obtain⟨m,b⟩:=z;obtain⟨g1,o,p,d⟩:=hJ;simp only at v g1 o p d;subst v;rw[J m a a0 t,Aj (a+1) (by omega) (by omega)];exact ⟨rfl,g1,o,λg b h0 h1 y h4 h5=>p g b h0 (by simp only at h1;omega) y h5,d⟩
 ·obtain⟨m,a⟩:=z;obtain⟨g1,o,p,d⟩:=X;simp only at v g1 o p d;subst v;rw[I m];exact ⟨m,rfl,g1,o,p,d⟩
theorem ZF {s} (h:SOK s):∃m,C3 s=some m/\jF s m:=by
 unfold C3;refine AaZ h λm a a0 d=>by (try simp only);rw[Zzp (decide_eq_true d)] λm=>by (try simp only);rw[Zzn (decide_eq_false (by omega))] (λm a b a0 d b0 g=>?_) (λm a a0 d=>by (try simp only);rw[Zzn (decide_eq_false (by omega))]);try simp only
 rw[Zzp (decide_eq_true g),Zzq (bU h a0 d b0 g)];cases c:Ci s a b with
 |true=>rw[Zzp rfl,Zzq (eC h a0 d b0 g),ED,if_pos rfl]
 |false=>rw[Zzn rfl,if_neg (by simp)]
def grt (s:Al):Int:=(C3 s).getD 0
theorem xY {s} (h:SOK s):C3 s=some (grt s):=by obtain⟨m,h1,_⟩:=ZF h;unfold grt;simp_all
theorem mX {s} (h:SOK s):jF s (grt s):=by obtain⟨m,h1,c⟩:=ZF h;unfold grt<;>simp_all
def Ad5:Co:=(1,(1,1048576))
def Mw (s:Al):Bx:=(Ay (Aa s.2.1) Ad5,(grt s,false))
theorem AeH {s} (h:SOK s):MX s=some (Mw s):=by
 have n1:=h.n1;have n2:=h.n2;unfold MX;rw[Zzq (xY h)];refine Ap (λz:Int×Unit×List Co×Int×Bool=>z.1) (Aa s.2.1) (λz=>z.2.2=(Ay z.1 Ad5,(grt s,false))) (λr=>r=some (Mw s)) (by omega) (by simp) (by omega) rfl (λz c d i1=>?_) λz c g=>?_
 ·obtain⟨i,u,l,m,f⟩:=z;simp only at c d i1;cases c;try simp only
  rw[Zzp (decide_eq_true i1),Zzp (AV (by rw[AM d];omega)),Aj (i+1) (by omega) (by omega)];refine ⟨rfl,?_⟩;try simp only
  rw[<-eZ d];rfl
 ·obtain⟨i,u,l,m,f⟩:=z;simp only at c g;cases c;subst g;try simp only
  rw[Zzn (decide_eq_false (by omega))];rfl
def Cu (l:List Int):Bool:=decide (∀a∈l,a=4)
theorem cN {l} (g:l.length<=maxLen):Iq l=some (Cu l):=by
 unfold Iq Cu;have conv:(∀a∈l,a=4)↔∀i a,idx l i=some a->a=4:=⟨λh i a d=>h a (Ag d).2.2,λh a d=>by obtain⟨i,hi⟩:=BZ d<;>grind⟩
 refine Bn (λr:Option Bool=>r=some (decide (∀a∈l,a=4))) (λ_ a=>a=4) (some false) (some true) g (λi a h0 hi d=>?_) λi hi=>by (try simp only);rw[Zzn (decide_eq_false hi)];try rfl λh=>by rw[decide_eq_true (conv.2 h)] (λh=>by rw[decide_eq_false λo=>h (conv.1 o)]);try simp only
 rw[Zzp (decide_eq_true hi),Zzq d];by_cases c:a=4
 ·exact .inl ⟨c,by rw[Zzn (by simp[c])]⟩
 ·exact .inr ⟨c,by rw[Zzp (by simp[c]),decide_eq_true h0];rfl⟩
theorem xB {l v} (t:l.length<=maxLen):De (l,v)=some (decide (v∈l)):=by
 have I:= IU t;unfold De;have key:∃j,DI (l,v)=some j/\(0<=j↔v∈l):=by
  unfold DI;refine Ap (λi:Int=>i) (Aa l) (λi=>∀j a,j<i->idx l j=some a->a≠v) (λr:Option Int=>∃j,r=some j/\(0<=j↔v∈l)) (by omega) (by simp) (Ak l) λj a h1 d=>by have:=(Ag d).1;omega (λi o g i1=>?_) λi o hi=>?_
  ·have g:= g;have i1:= i1;obtain⟨a,y,E⟩:=Ai g i1;try simp only
   rw[Zzp (decide_eq_true i1),Zzq y];by_cases c:v=a
   ·rw[Zzp (by simpa using c)];exact ⟨i,rfl,λ_=>by simp_all,λ_=>g⟩
   ·rw[Zzn (by simpa using c),Aj (i+1) (by omega) (by omega)];refine ⟨rfl,λj b h1 d=>?_⟩<;>grind
  ·have hi:= hi;try simp only
   rw[Zzn (decide_eq_false (by omega))];refine ⟨-1,rfl,λh=>by omega,λh=>?_⟩;obtain⟨j,p⟩:=BZ h;exact absurd rfl (o j v (by have:=(Ag p).2.1;omega) p)
 obtain⟨j,h1,d⟩:=key;rw[Zzq h1];congr 1;exact decide_eq_decide.2 d
theorem Afw {now} (J:Aa now.1<=1000):MY now=some (now.1.map (·.1)):=by
 have o:=Ak now.1;unfold MY;rw[Zzp (C6 o (by omega))];refine Ap (λz:Int×List Int=>z.1) (Aa now.1) (λz=>Aa z.2=Aa now.1/\∀j,0<=j->j<z.1->idx z.2 j=idx (now.1.map (·.1)) j) (λr=>r=some (now.1.map (·.1))) (by omega) (by simp) o ⟨AM o _,λj p d=>absurd d (by omega)⟩ (λz t g i1=>?_) λz t I=>?_
 ·obtain⟨i,out⟩:=z;obtain⟨c,h⟩:=t;simp only at g i1 c h;obtain⟨x,v,_⟩:=Ai g i1;obtain⟨y,E,_⟩:=Ai (l:=out) g (by omega);try simp only
  rw[Zzp (decide_eq_true i1),Zzq v,Zzq E,Zzq E,Aj (i+1) (by omega) (by omega)];refine ⟨rfl,by (try simp only);rw[AN];exact c,λj p d=>?_⟩;simp only at d ⊢;rw[By g (by omega)];split
  ·rename_i e;rw[e,PD,v];rfl
  grind
 ·obtain⟨i,out⟩:=z;obtain⟨c,h⟩:=t;simp only at I c h;try simp only
  rw[Zzn (decide_eq_false (by omega))];show some out = _;rw[Eg (by rw[HN];exact c) λj p d=>h j p (by omega)]
def Lk (s:Al) (l:List Int):Prop:=∃a b x y,b<a/\idx l a=some x/\idx l b=some y/\x≠1/\y≠1/\Ci s a b=true
theorem Abh {s l} (h:SOK s) (hl:Aa l=Aa s.2.1):∃r,HU (s,l)=some r/\(r=true↔Lk s l):=by
 have n2:=h.n2
 unfold HU
 refine fE (Aa l) (λa=>a) (λa b=>∃x y,idx l a=some x/\idx l b=some y/\x≠1/\y≠1/\Ci s a b=true) (some true) (some false) (λr=>∃b,r=some b/\(b=true↔Lk s l)) (bad2:=.done none) (B:=λt d=>cnd (decide (d<t))
(Ad (idx l d) (.done (.done none)) λY =>
 Ao (DQ Y) λy1 =>
 cnd (!y1)
(Ad (FU (s,(t,d))) (.done (.done none)) λZ =>
 cnd Z
(.done (.done (some true)))
(.next (wr .i64 (d+1))))
(.next (wr .i64 (d+1))))
(.done (.next (wr .i64 (t+1))))) (Ak l) (by omega) (λa a0 g=>⟨a0,by omega⟩) (λa a0 g=>?_) (by (try simp only);rw[Zzn (decide_eq_false (by omega))]) λa a0 g=>by (try simp only);rw[Zzn (decide_eq_false (by omega))] (λ⟨a,b,a0,g,b0,v,x,y,q⟩=>⟨true,rfl,λ_=>⟨a,b,x,y,v,q⟩,λ_=>rfl⟩) λE=>⟨false,rfl,λh=>(by cases h),λ⟨a,b,x,y,q0,p,o,J⟩=>absurd ⟨x,y,p,o,J⟩ (E a b (Ag p).1 (Ag p).2.1 (Ag o).1 q0)⟩
 obtain⟨x,X,_⟩:=Ai a0 g
 try simp only
 rw[Zzp (decide_eq_true g),Zzq X,Au]
 by_cases c:x=1
 ·rw[Zzp (show DQ x=true by rw[c];rfl)]<;>simp_all
 ·rw[Zzn (show DQ x=false by unfold DQ;simp_all)]
  refine .inr ⟨rfl,λb b0 v=>?_⟩
  obtain⟨y,I,_⟩:=Ai (l:=l) b0 (by omega)
  rw[Zzp (decide_eq_true v),Zzq I,Au]
  by_cases c2:y=1
  ·rw[Zzn (show (!DQ y)=false by rw[c2];rfl)]
   exact .inr ⟨λ⟨x',y',p,o,J,q4,_⟩=>by rw[I] at o;cases o;exact q4 c2,rfl⟩
  ·rw[Zzp (show (!DQ y)=true by unfold DQ;simpa using c2),Zzq (bU h a0 (by omega) b0 (by omega))]
   cases c3:Ci s a b with
   |true=>rw[Zzp rfl];exact .inl ⟨⟨x,y,X,I,c,c2,rfl⟩,rfl⟩
   |false =>
    rw[Zzn rfl]
    exact .inr ⟨λ⟨_,_,_,_,_,_,q⟩=>(by cases q),rfl⟩
def R5 (s:Al) (ws:List Co) (l:List Int):Prop:=∃i k w v,idx ws i=some w/\idx l i=some 2/\w.1≠2/\idx ws k=some v/\Ci s k i=true/\v.2.2<F4 s k i
theorem Aeu {s now l} (h:SOK s) (hw:Aa now.1=Aa s.2.1) (hl:Aa l=Aa s.2.1):∃r,Ip (s,(now,l))=some r/\(r=true↔R5 s now.1 l):=by
 have n2:=h.n2
 have t:=Ak now.1
 unfold Ip
 refine fE (Aa now.1) (λ_=>Aa now.1) (λi k=>∃w v,idx now.1 i=some w/\idx l i=some 2/\w.1≠2/\idx now.1 k=some v/\Ci s k i=true/\v.2.2<F4 s k i) (some true) (some false) (λr=>∃b,r=some b/\(b=true↔R5 s now.1 l)) (bad2:=.done none) (B:=λJ g=>cnd (decide (g<Aa now.1))
(Ad (idx now.1 g) (.done (.done none)) λx5 =>
 Ad (FU (s,(g,J))) (.done (.done none)) λx6 =>
 cnd x6
(Ad (GF (s,(g,J))) (.done (.done none)) λx7 =>
 cnd (decide (x5.2.2<x7))
(.done (.done (some true)))
(.next (wr .i64 (g+1))))
(.next (wr .i64 (g+1))))
(.done (.next (wr .i64 (J+1))))) t (by omega) (λa a0 y=>⟨t,by omega⟩) (λa a0 y=>?_) (by (try simp only);rw[Zzn (decide_eq_false (by omega))]) λa a0 y=>by (try simp only);rw[Zzn (decide_eq_false (by omega))] (λ⟨a,b,a0,y,b0,E,w,v,q⟩=>⟨true,rfl,λ_=>⟨a,b,w,v,q⟩,λ_=>rfl⟩) λX=>⟨false,rfl,λh=>(by cases h),λ⟨i,k,w,v,o,I,Y,p,q5⟩=>absurd ⟨w,v,o,I,Y,p,q5⟩ (X i k (Ag o).1 (Ag o).2.1 (Ag p).1 (Ag p).2.1)⟩
 obtain⟨w,Z,_⟩:=Ai a0 y
 obtain⟨x,d,_⟩:=Ai (l:=l) a0 (by omega)
 try simp only
 rw[Zzp (decide_eq_true y),Zzq Z,Zzq d]
 by_cases c:x=2/\w.1≠2
 ·rw[Zzn (by simp[c.1,c.2])]
  refine .inr ⟨rfl,λb b0 E=>?_⟩
  obtain⟨v,hv,_⟩:=Ai b0 E
  rw[Zzp (decide_eq_true E),Zzq hv,Zzq (bU h b0 (by omega) a0 (by omega))]
  cases c3:Ci s b a with
  |true =>
   rw[Zzp rfl,Zzq (eC h b0 (by omega) a0 (by omega))]
   by_cases c4:v.2.2<F4 s b a
   ·rw[Zzp (decide_eq_true c4)]
    exact .inl ⟨⟨w,v,Z,by rw[d,c.1],c.2,hv,rfl,c4⟩,rfl⟩
   ·rw[Zzn (decide_eq_false c4)]
    exact .inr ⟨λ⟨_,v',_,_,_,p,_,q6⟩=>by rw[hv] at p;cases p;exact c4 q6,rfl⟩
  |false =>
   rw[Zzn rfl]
   exact .inr ⟨λ⟨_,_,_,_,_,_,q,_⟩=>(by cases q),rfl⟩
 ·rw[Zzp (by
   simp only[Qaj,Qal,beq_eq_false_iff_ne,ne_eq,beq_iff_eq]
   by_cases e:x=2
   ·exact .inr (Decidable.not_not.1 λhh=>c ⟨e,hh⟩)
   ·exact .inl e)]
  exact .inl ⟨rfl,λb b0 E ⟨w',v,o,I,Y,_⟩=>by rw[Z] at o;cases o;rw[d] at I;cases I;exact c ⟨rfl,Y⟩⟩
def HP:List Fq->List Co->List Int->Int
 |g::gs,w::ws,a::as=>if DK (g,(w,a))≠0 then DK (g,(w,a)) else HP gs ws as
 |_,_,_=>0
theorem AeZ {A bad F gs ws l} fl (out:Int->A) R (hg:Aa gs=Aa l) (X:Aa ws=Aa l) (Y:Aa l<=1000)
 (hF:∀i g w a,0<=i->i<Aa l->idx gs i=some g->idx ws i=some w->idx l i=some a->F i=cnd (!DK (g,(w,a))==0&&!fl) (.done (out (DK (g,(w,a))))) (.next (wr .i64 (i+1)))) (v:F (Aa l)=.done R) :
 iter bad F Am 0=if fl=false/\HP gs ws l≠0 then out (HP gs ws l) else R:=by
 refine Ap (λi:Int=>i) (Aa l) (λi=>fl=false->HP gs ws l=HP (gs.drop i.toNat) (ws.drop i.toNat) (l.drop i.toNat)) (λr=>r=if fl=false/\HP gs ws l≠0 then out (HP gs ws l) else R) (by omega) (by simp) (Ak l) (λ_=>rfl) (λi t p i1=>?_) λi t hi=>?_
 ·have p:= p;have i1:= i1;obtain⟨g,h,_⟩:=Ai (l:=gs) p (by omega);obtain⟨w,o,_⟩:=Ai (l:=ws) p (by omega);obtain⟨a,y,_⟩:=Ai p i1;rw[hF i g w a p i1 h o y];by_cases c:fl=false/\DK (g,(w,a))≠0
  ·rw[Zzp (by simp[c.1,c.2])];have e:=t c.1;rw[Fv h,Fv o,Fv y,HP,if_pos c.2] at e;show out _ = _;rw[e,if_pos c]
  ·rw[Zzn (by
    simp only[Qeg,Qew,beq_iff_eq];cases fl with
    |true=>exact .inr rfl
    |false=>exact .inl (Decidable.not_not.1 λE=>c ⟨rfl,E⟩)),Aj (i+1) (by omega) (by omega)];refine ⟨rfl,λd=>?_⟩;have e:=t d;rw[Fv h,Fv o,Fv y,HP,if_neg λE=>c ⟨d,E⟩] at e;exact e
 ·subst hi;rw[v];show R = _;rw[if_neg];rintro⟨d,I⟩;have e:=t d;rw[Tb (l:=l) (by omega)] at e;apply I;rw[e];unfold HP;split
  ·rename_i J;cases J
  ·rfl
open Classical in
noncomputable def Hp (s:Al) (now:Bx) (l:List Int):Int :=
 if Aa l≠Aa s.2.1 then 1 else if Cu l=true then 0 else if 4∈l then 7 else
 if (now.2.2=true\/0<now.2.1)/\∃a∈l,a≠1 then 8 else
 if now.2.2=false/\HP s.2.1 now.1 l≠0 then HP s.2.1 now.1 l else
 if Lk s l then 3 else if R5 s now.1 l then 4 else 0
theorem Adt {A bad l F} (P:A->Prop) yes no (t:l.length<=maxLen)
 (hF:∀i a,0<=i->i<Aa l->idx l i=some a->F i=cnd (!DQ a) (.done yes) (.next (wr .i64 (i+1)))) (o:∀i,¬i<Aa l->F i=.done no) (v:(∃a∈l,a≠1)->P yes) (p:¬(∃a∈l,a≠1)->P no):P (iter bad F Am 0):=by
 refine Bn P (λ_ a=>a=1) yes no t (λi a h0 hi d=>?_) o (λh=>p λ⟨a,d,g⟩=>by obtain⟨i,hi⟩:=BZ d<;>grind) λh=>v ?_
 ·rw[hF i a h0 hi d];by_cases c:a=1
  ·exact .inl ⟨c,by rw[Zzn (show (!DQ a)=false by rw[c];rfl)]⟩
  ·exact .inr ⟨c,by rw[Zzp (show (!DQ a)=true by unfold DQ;simp_all)]⟩
 ·apply Qar;intro p;exact h λi a d=>Qar λg=>p ⟨a,(Ag d).2.2,g⟩
theorem AeG {s now l} (h:SOK s) (Z:Aa now.1=Aa s.2.1) (p:l.length<=maxLen):MW (s,(now,l))=some (Hp s now l):=by
 have n2:=h.n2
 unfold MW Hp
 by_cases c1:Aa l=Aa s.2.1
 ·rw[Zzn (by simpa using c1),if_neg (by simpa using c1),Zzq (cN p),AK]
  by_cases c2:Cu l=true
  ·rw[if_pos c2,if_pos c2]
  ·rw[if_neg c2,if_neg c2,Zzq (xB p)]
   by_cases c3:4∈l
   ·rw[Zzp (decide_eq_true c3),if_pos c3]
   ·rw[Zzn (decide_eq_false c3),if_neg c3,Gj]
    have hR:iter none (λc:Int =>
 cnd (decide (c<Aa now.1))
(Ad (idx now.1 c) (.done none) λd =>
 Ad (idx s.2.1 c) (.done none) λo =>
 Ad (idx l c) (.done none) λt =>
 Ao (DK (o,(d,t))) λy =>
 cnd (!y==0&&!now.2.2)
(.done (some y))
(.next (wr .i64 (c+1))))
(.done (Ad (HU (s,l)) none λd =>
 cnd d
(some 3)
(Ad (Ip (s,(now,l))) none λo =>
 cnd o
(some 4)
(some 0))))) Am 0=some (if now.2.2=false/\HP s.2.1 now.1 l≠0 then HP s.2.1 now.1 l else @ite _ (Lk s l) (Classical.propDecidable _) 3 (@ite _ (R5 s now.1 l) (Classical.propDecidable _) 4 0)):=by
     obtain⟨r,r1,r2⟩:=Abh h c1
     obtain⟨q,q1,q2⟩:=Aeu h Z c1
     have hm:=AeZ (bad:=none) (gs:=s.2.1) (ws:=now.1) (l:=l) (F:=λc:Int =>
 cnd (decide (c<Aa now.1))
(Ad (idx now.1 c) (.done none) λd =>
 Ad (idx s.2.1 c) (.done none) λo =>
 Ad (idx l c) (.done none) λt =>
 Ao (DK (o,(d,t))) λy =>
 cnd (!y==0&&!now.2.2)
(.done (some y))
(.next (wr .i64 (c+1))))
(.done (Ad (HU (s,l)) none λd =>
 cnd d
(some 3)
(Ad (Ip (s,(now,l))) none λo =>
 cnd o
(some 4)
(some 0)))))  now.2.2 (λy=>some y) (some (@ite _ (Lk s l) (Classical.propDecidable _) 3 (@ite _ (R5 s now.1 l) (Classical.propDecidable _) 4 0))) (by omega) (by omega) (by omega) λi g w a Y i1 hg v E=>by
      rw[Zzp (decide_eq_true (by omega)),Zzq v,Zzq hg,Zzq E,Au] (by
      rw[Zzn (decide_eq_false (by omega)),Zzq r1,Zzq q1,AK,AK]<;>grind)<;>grind
    simp only[hR]
    rw[AK]
    split
    ·rename_i c4
     have c4:now.2.2=true\/0<now.2.1:=by simpa using c4
     refine Adt (λr=>r=some _) (some 8) (some (if now.2.2=false/\HP s.2.1 now.1 l≠0 then HP s.2.1 now.1 l else @ite _ (Lk s l) (Classical.propDecidable _) 3 (@ite _ (R5 s now.1 l) (Classical.propDecidable _) 4 0))) p (λi a Y i1 E=>?_) (λi hi=>?_) (λI=>?_) λJ=>?_
     ·rw[Zzp (decide_eq_true i1),Zzq E,Au,decide_eq_true Y];rfl
     ·rw[Zzn (decide_eq_false hi)];rfl
     ·exact (congrArg some (if_pos ⟨c4,I⟩)).symm
     ·exact (congrArg some (if_neg λX=>J X.2)).symm
    ·rename_i c4
     have c4:¬(now.2.2=true\/0<now.2.1):=by simpa using c4
     exact (congrArg some (if_neg λX=>c4 X.1)).symm
 ·rw[Zzp (by simpa using c1),if_pos c1]
def nxt (w:Co) (a:Int):Co:=J7 ((0,(0,0)),(w,a))
theorem AgH g w a:J7 (g,(w,a))=nxt w a:=rfl
def Dr (s:Al) (now:Bx) (l:List Int):Bx :=
 (List.zipWith nxt now.1 l,(if Cu l=true then grt s else if now.2.2=true then max 0 (grt s-1) else max 0 (now.2.1-1),Cu l))
structure kF (s:Al) (now:Bx):Prop where
 n:Aa now.1=Aa s.2.1
 lo:0<=now.2.1
 hi:now.2.1<=1048576
theorem Aax {s now l} (h:SOK s) (c:kF s now) (d:Aa l=Aa s.2.1):kF s (Dr s now l):=by have g:=mX h;have g1:=g.lo;have o:=g.hi;have h1:=c.lo;have p:=c.hi;unfold Dr;refine ⟨by (try simp only);rw[Il (by rw[c.n,d])];exact c.n,?_,?_⟩<;>grind
theorem U6 {l} (c:Aa l<=1000):GL l=some l:=by unfold GL;rw[Zzp (by rw[Qap];exact room_le (by omega))];rfl
theorem rI {s ws l A bad F} (K:List Co->A) (P:A->Prop) (h:SOK s) (hw:Aa ws=Aa s.2.1) (hl:Aa l=Aa s.2.1)
 (hF:∀i out g w a y,0<=i->i<Aa ws->idx s.2.1 i=some g->idx out i=some w->idx l i=some a->y=nxt w a->F (i,out)=.next (wr .i64 (i+1),AB out i y)) (v:∀out,F (Aa ws,out)=.done (K out)) (hK:P (K (List.zipWith nxt ws l))):P (iter bad F Am (0,ws)):=by
 have n2:=h.n2;refine Ap (λz:Int×List Co=>z.1) (Aa ws) (λz=>Aa z.2=Aa ws/\(∀j,0<=j->j<z.1->idx z.2 j=idx (List.zipWith nxt ws l) j)/\∀j,z.1<=j->idx z.2 j=idx ws j) P (by omega) (by simp) (Ak ws) ⟨rfl,λj p t=>absurd t (by omega),λj _=>rfl⟩ (λz E d i1=>?_) λz E X=>?_
 ·obtain⟨i,out⟩:=z;obtain⟨c,o,Y⟩:=E;simp only at d i1 c o Y;obtain⟨g,hg,_⟩:=Ai (l:=s.2.1) d (by omega);obtain⟨w,I,_⟩:=Ai d i1;obtain⟨a,Z,_⟩:=Ai (l:=l) d (by omega);rw[hF i out g w a _ d i1 hg (by grind) Z rfl,Aj (i+1) (by omega) (by omega)];refine ⟨rfl,by (try simp only);rw[AN];exact c,λj p t=>?_,λj J=>?_⟩
  ·simp only at t ⊢;rw[By d (by omega)];split
   ·rename_i e;rw[e,N7 I Z]
   ·exact o j p (by omega)
  ·simp only at J ⊢;rw[By d (by omega),if_neg (by omega)];exact Y j (by omega)
 ·obtain⟨i,out⟩:=z;obtain⟨c,o,_⟩:=E;simp only at X c o;subst X;rw[v];have:= Eg (by rw[Il (by rw[hw,hl])];exact c) λj p t=>o j p (by omega);rw[this];exact hK
theorem AcA {s now l} (h:SOK s) (o:kF s now) (v:Aa l=Aa s.2.1):LA (s,(now,l))=some (Dr s now l):=by
 have n2:=h.n2;have p:=o.n;have s1:=o.lo;have s2:=o.hi;have g:=mX h;have g1:=g.lo;have J:=g.hi;have t:l.length<=maxLen:=by unfold Aa at v n2;unfold maxLen;omega
 unfold LA;rw[Zzq (U6 (l:=now.1) (by omega)),Zzq (cN t)];refine rI (λout=>cnd (Cu l) (Ad (C3 s) none λx=>some (out,(x,Cu l))) (cnd now.2.2 (Ad (C3 s) none λx=>some (out,(B8 0 (wr .i64 (x-1)),Cu l))) (some (out,(B8 0 (wr .i64 (now.2.1-1)),Cu l))))) (λr=>r=some (Dr s now l)) h p v (λi out g w a y X i1 hg d E I=>?_) (λout=>?_) ?_
 ·try simp only
  rw[Zzp (decide_eq_true i1),Zzq d,Zzq d,Zzq hg,Zzq E,Au,Zzq d,Zzq d,AgH,I]
 ·try simp only
  rw[Zzn (decide_eq_false (by omega))]
 ·try simp only
  unfold Dr;by_cases c:Cu l=true
  ·rw[Zzp c,Zzq (xY h),if_pos c]
  ·rw[Zzn (Bool.eq_false_iff.2 c),if_neg c];by_cases c2:now.2.2=true
   ·rw[Zzp c2,Zzq (xY h),if_pos c2,ED,Aj (grt s-1) (by omega) (by omega)]
   ·rw[Zzn (Bool.eq_false_iff.2 c2),if_neg c2,ED,Aj (now.2.1-1) (by omega) (by omega)]
noncomputable def chk (s:Al):Bx->Int->List (List Int)->Int×Int
 |_,_,[]=>(-1,0)
 |now,i,l::r=>@ite _ (Hp s now l≠0) (Classical.propDecidable _) (i,Hp s now l) (chk s (Dr s now l) (i+1) r)
theorem AaR {s now l} (h:Hp s now l=0):Aa l=Aa s.2.1:=by unfold Hp at h<;>omega
theorem AcJ {s} (h:SOK s):kF s (Mw s):=by have g:=mX h;have n1:=h.n1;exact ⟨by unfold Mw;simp only;exact AM (by omega) _,g.lo,g.hi⟩
theorem s9 {s e} (c:e=0->SOK s) (h:AD s=some e):MV s=some (if e≠0 then (([],(0,false)),e) else (Mw s,0)):=by
 unfold MV;rw[Zzq h];by_cases h0:e=0
 ·subst h0;rw[Zzn (by rfl),if_neg (by simp),Zzq (AeH (c rfl))]
 ·rw[Zzp (by simp[h0]),if_pos h0]
structure j7 (s:Al) (now:Bx):Prop where
 st:kF s now
 ok:Cu (now.1.map (·.1))=true\/¬Lk s (now.1.map (·.1))
theorem Aho {s now} (h:SOK s) (o:Aa now.1<=1000):∃r,Pj (s,now)=some r/\(r=true↔j7 s now):=by
 have g:(now.1.map (·.1)).length<=maxLen:=by have:=HN (l:=now.1) (f:=λx=>x.1);unfold Aa at this o;unfold maxLen;omega
 unfold Pj;rw[Zzq (Afw o),HN];by_cases c:Aa now.1=Aa s.2.1/\0<=now.2.1/\now.2.1<=1048576
 ·rw[Zzp (by simp[c]),Zzq (cN g)];cases p:Cu (now.1.map (·.1)) with
  |true=>exact ⟨true,rfl,λ_=>⟨⟨c.1,c.2.1,c.2.2⟩,.inl p⟩,λ_=>rfl⟩
  |false =>
   obtain⟨r,r1,r2⟩:=Abh (l:=now.1.map (·.1)) h (by rw[HN];exact c.1);rw[Zzn rfl,Zzq r1];refine ⟨!r,rfl,?_⟩;rw[Qal];refine ⟨λt=>⟨⟨c.1,c.2.1,c.2.2⟩,.inr λd=>by simp_all⟩,λd=>?_⟩;cases t:r with
   |false=>rfl
   |true =>rcases d.ok with h1|h1<;>simp_all
 ·rw[Zzn (by simp_all)];exact ⟨false,rfl,λh=>(by cases h),λd=>absurd ⟨d.st.n,d.st.lo,d.st.hi⟩ c⟩
end Go.Proofs.YtlgpjdjcbincgaaGreatDoor
namespace Go.Proofs.YtlgpjdjcbincgaaGreatDoor
open Go.Den
end Go.Proofs.YtlgpjdjcbincgaaGreatDoor
namespace Go.Proofs.YtlgpjdjcbincgaaGreatDoor
open Go.Den
end Go.Proofs.YtlgpjdjcbincgaaGreatDoor
namespace Go.Proofs.YtlgpjdjcbincgaaGreatDoor
open Go.Den
open Classical in
noncomputable def Kh (e:Int) (s:Al) (now:Bx) (l:List Int):Bx×Int×Int :=
 if e≠0 then (([],(0,false)),(0,e)) else if ¬j7 s now then (([],(0,false)),(0,8)) else
 if Hp s now l≠0 then (now,(Hp s now l,0)) else (Dr s now l,(0,0))
theorem Z9 {s now l e} (d:e=0->SOK s) (h:AD s=some e) (o:Aa now.1<=1000) (p:l.length<=maxLen):HT (s,(now,l))=some (Kh e s now l):=by
 unfold HT Kh;rw[Zzq h];by_cases h0:e=0
 ·subst h0;have g:=d rfl;obtain⟨r,r1,r2⟩:=Aho g o;rw[Zzn (by rfl),if_neg (by simp),Zzq r1];by_cases c:j7 s now
  ·rw[Zzn (by simp_all),if_neg (by simpa using c),Zzq (AeG g c.st.n p)];by_cases c2:Hp s now l=0
   ·rw[Zzn (by simp[c2]),if_neg (by simp[c2]),Zzq (AcA g c.st (AaR c2))]
   ·rw[Zzp (by simp[c2]),if_pos c2,Zzq (U6 o)]
  ·have:r=false:=by
    cases t:r with
    |false=>rfl
    |true=>exact absurd (r2.1 t) c
   rw[Zzp (by rw[this];rfl),if_pos c]
 ·rw[Zzp (by simp[h0]),if_pos h0]
end Go.Proofs.YtlgpjdjcbincgaaGreatDoor
namespace Go.Proofs.YtlgpjdjcbincgaaGreatDoor
open Go.Den
end Go.Proofs.YtlgpjdjcbincgaaGreatDoor
namespace Go.Proofs.YtlgpjdjcbincgaaGreatDoor
open Go.Den
def bw (g:Fq) (w:Co) (a:Int):Int:=if w.1=1 then 1 else FN (g,(w,a))
def QT (gs:List Fq) (ws:List Co) (asks:List Int):List Int:=List.zipWith (λ(c:Fq×Co) a=>bw c.1 c.2 a) (List.zipWith Prod.mk gs ws) asks
theorem lF {gs ws asks i g w a} (hg:idx gs i=some g) (c:idx ws i=some w) (d:idx asks i=some a):idx (QT gs ws asks) i=some (bw g w a) :=
 N7 (N7 hg c) d
theorem XT {gs ws asks} (h1:Aa ws=Aa gs) (c:Aa asks=Aa gs):Aa (QT gs ws asks)=Aa gs:=by unfold QT;rw[Il (by rw[Il h1.symm,c]),Il h1.symm]
def Blk (s:Al) (ws:List Co) (out:List Int) (i:Int):Prop:=∃k,0<=k/\k<Aa ws/\Ci s i k=true/\(el out k≠1\/(el ws k).2.2<F4 s k i)
def Kz (s:Al) (ws:List Co) (asks out:List Int) (i:Int):Prop:=(el ws i).1=1/\el asks i=2/\¬Blk s ws out i
open Classical in
noncomputable def pass (s:Al) (ws:List Co) (asks:List Int):Nat->Int->List Int->List Int
 |0,_,out=>out
 |k+1,i,out=>pass s ws asks k (i+1) (if Kz s ws asks out i then AB out i 2 else out)
open Classical in
noncomputable def ET (s:Al) (now:Bx) (asks:List Int):List Int :=
 if Cu asks=true then asks else if now.2.2=true\/0<now.2.1 then Ay (Aa asks) 1 else pass s now.1 asks (Aa asks).toNat 0 (QT s.2.1 now.1 asks)
theorem ZC {n v} (h0:0<=n) (h1:n<=100000):IL (n,v)=some (Ay n v):=by
 unfold IL;rw[Zzp (C6 h0 (by omega))];refine Ap (λz:Int×List Int=>z.1) n (λz=>Aa z.2=n/\∀j,0<=j->j<z.1->idx z.2 j=some v) (λr=>r=some (Ay n v)) (by omega) (by simp) h0 ⟨AM h0 _,λj d g=>absurd g (by omega)⟩ (λz o p i1=>?_) λz o E=>?_
 ·obtain⟨i,out⟩:=z;obtain⟨c,h⟩:=o;simp only at p i1 c h;obtain⟨y,t,_⟩:=Ai (l:=out) p (by omega);try simp only
  rw[Zzp (decide_eq_true (by rw[AM h0];exact i1)),Zzq t,Zzq t,Aj (i+1) (by omega) (by omega)];refine ⟨rfl,by (try simp only);rw[AN];exact c,λj d g=>?_⟩;simp only at g ⊢;rw[By p (by omega)]<;>grind
 ·obtain⟨i,out⟩:=z;obtain⟨c,h⟩:=o;simp only at E c h;try simp only
  rw[Zzn (decide_eq_false (by rw[AM h0];omega))];have I:out=Ay n v:=Eg (by rw[AM h0];exact c) λj d g=>by rw[h j d (by omega),IP d (by omega)]
  rw[I];exact rfl
theorem w9 {l} (c:Aa l<=100000):FJ l=some l:=by unfold FJ;rw[Zzp (by rw[Qap];exact room_le (by omega))];rfl
theorem Jp {l i} (h0:0<=i) (h1:i<Aa l) (x j:Int):el (AB l i x) j=if j=i then x else el l j:=by unfold el;rw[By h0 h1]<;>grind
theorem Et {α l i} [Inhabited α] {x:α} (h:idx l i=some x):el l i=x:=by unfold el;rw[h];rfl
theorem AbF {s:Al} {ws:List Co} {asks base:List Int} {A:Type} {bad:A} {F:Int×List Int->Step (Int×List Int) A} (P:A->Prop) (v:Aa base=Aa asks) (J:Aa asks<=1000)
 (hF:∀i out,0<=i->i<Aa asks->Aa out=Aa asks->(Kz s ws asks out i->F (i,out)=.next (i+1,AB out i 2))/\(¬Kz s ws asks out i->F (i,out)=.next (i+1,out)))
 (y:∃r,F (Aa asks,pass s ws asks (Aa asks).toNat 0 base)=.done r/\P r):P (iter bad F Am (0,base)):=by
 refine Ap (λz:Int×List Int=>z.1) (Aa asks) (λz=>Aa z.2=Aa asks/\pass s ws asks (Aa asks-z.1).toNat z.1 z.2=pass s ws asks (Aa asks).toNat 0 base) P (by omega) (by simp) (Ak asks) ⟨v,by simp only;rw[Int.sub_zero]⟩ (λz h p i1=>?_) λz h t=>?_
 ·obtain⟨i,out⟩:=z;obtain⟨d,g⟩:=h;simp only at p i1 d g;rw[show (Aa asks-i).toNat=(Aa asks-(i+1)).toNat+1 by omega,pass] at g;obtain⟨h1,E⟩:=hF i out p i1 d;by_cases c:Kz s ws asks out i
  ·rw[h1 c];rw[if_pos c] at g;exact ⟨rfl,by (try simp only);rw[AN];exact d,g⟩
  ·rw[E c];rw[if_neg c] at g;exact ⟨rfl,d,g⟩
 ·obtain⟨i,out⟩:=z;obtain⟨d,g⟩:=h;simp only at t d g;subst t;rw[Qgg] at g;have g:out = _:=g;obtain⟨r,I,o⟩:=y;rw[g,I];exact o
theorem xR {A bad asks} (o:asks.length<=maxLen) (K:Bool->A):CT K (λk=>iter bad (λg:Int =>
 cnd (decide (g<Aa asks))
(Ad (idx asks g) (.done bad) λp =>
 cnd (!p==4)
(.done (k !decide (0<=g)))
(.next (wr .i64 (g+1))))
(.done (k !decide (0<=(-1:Int))))) Am 0)=K (Cu asks):=by
 rw[Gj]
 have conv:(∀a∈asks,a=4)↔∀i a,idx asks i=some a->a=4:=⟨λh i a d=>h a (Ag d).2.2,λh a d=>by obtain⟨i,hi⟩:=BZ d<;>grind⟩
 refine Bn (λr:A=>r=K (Cu asks)) (λ_ a=>a=4) (K false) (K true) o (λi a h0 hi d=>?_) λi hi=>by (try simp only);rw[Zzn (decide_eq_false hi)];try rfl λh=>by unfold Cu<;>grind λh=>by unfold Cu<;>grind
 try simp only
 rw[Zzp (decide_eq_true hi),Zzq d]
 by_cases c:a=4
 ·exact .inl ⟨c,by rw[Zzn (by simp[c])]⟩
 ·exact .inr ⟨c,by rw[Zzp (by simp[c]),decide_eq_true h0];rfl⟩
theorem uH {s now asks} (h:SOK s) (hw:Aa now.1=Aa s.2.1) (hl:Aa asks=Aa s.2.1):JZ (s,(now,asks))=some (ET s now asks):=by
 have n1:=h.n1;have n2:=h.n2;have aa:asks.length<=maxLen:=by unfold Aa at hl n2;unfold maxLen;omega
 unfold JZ ET;refine (xR aa _).trans ?_;try simp only
 by_cases c1:Cu asks=true
 ·rw[Zzp c1,if_pos c1,Zzq (w9 (by omega))]
 rw[Zzn (Bool.eq_false_iff.2 c1),if_neg c1];by_cases c2:now.2.2=true
 ·rw[Zzp c2,if_pos (.inl c2),Zzq (ZC (by omega) (by omega))]
 rw[Zzn (Bool.eq_false_iff.2 c2)];by_cases c3:0<now.2.1
 ·rw[Zzp (decide_eq_true c3),if_pos (.inr c3),Zzq (ZC (by omega) (by omega))]
 rw[Zzn (decide_eq_false c3),if_neg λhh=>hh.elim c2 c3,Zzq (ZC (by omega) (by omega))];have a6:=XT hw hl;refine Ap (λz:Int×List Int=>z.1) (Aa now.1) (λz=>Aa z.2=Aa asks/\(∀j,0<=j->j<z.1->idx z.2 j=idx (QT s.2.1 now.1 asks) j)/\∀j,z.1<=j->j<Aa asks->idx z.2 j=some 1) (λr=>r=some _) (by omega) (by simp) (Ak _) ⟨AM (by omega) _,λj p t=>absurd t (by simp only;omega),λj p t=>IP p t _⟩ (λz hI y i1=>?_) λz hI hz=>?_
 ·obtain⟨i,out⟩:=z;obtain⟨d,hj,hk⟩:=hI;simp only at y i1 d hj hk;obtain⟨w,E,_⟩:=Ai y i1;obtain⟨g,hg,_⟩:=Ai (l:=s.2.1) y (by omega);obtain⟨a,ha,_⟩:=Ai (l:=asks) y (by omega);have a7:=lF hg E ha;have ho:=hk i (Qbb _) (by omega);try simp only
  rw[Zzp (decide_eq_true i1),Zzq E,Aj (i+1) (by omega) (by omega)];by_cases c:w.1=1
  ·rw[Zzn (by simp[c])];refine ⟨rfl,d,λj p t=>?_,λj p t=>hk j (by simp only at p;omega) t⟩;simp only at t ⊢;by_cases e:j=i
   ·rw[e,ho,a7,bw,if_pos c]
   ·exact hj j p (by omega)
  ·rw[Zzp (by simpa using c),Zzq hg,Zzq ha,Au,Zzq ho,Zzq ho];refine ⟨rfl,by (try simp only);rw[AN];exact d,λj p t=>?_,λj p t=>?_⟩
   ·simp only at t ⊢;rw[By y (by omega)];split
    ·rename_i e;rw[e,a7,bw,if_neg c]
    ·exact hj j p (by omega)
   ·simp only at p ⊢;rw[By y (by omega),if_neg (by omega)];exact hk j (by omega) t
 ·obtain⟨i,out⟩:=z;obtain⟨d,hj,_⟩:=hI;simp only at hz d hj;try simp only
  rw[Zzn (decide_eq_false (by omega))];rw[Eg (by rw[d,a6,hl]) λj p t=>hj j p (by omega)];refine AbF (λr=>r=some _) (by rw[a6,hl]) (by omega) (λi out y i1 ag=>?_) ⟨_,Zzn (decide_eq_false (by simp only;omega)),rfl⟩;obtain⟨w,E,_⟩:=Ai (l:=now.1) y (by omega);obtain⟨a,ha,_⟩:=Ai y i1;obtain⟨o,ho,_⟩:=Ai (l:=out) y (by omega);obtain⟨u,hu,_⟩:=Ai y (by rw[h.la];omega);try simp only
  rw[Zzp (decide_eq_true (by omega)),Zzq E,Aj (i+1) (by omega) (by omega)];have ew:= Et E;have ea:= Et ha;by_cases d1:w.1=1
  ·rw[Zzp (by simpa using d1),Zzq ha];by_cases d2:a=2
   ·rw[Zzp (by simpa using d2)];have a8:∀R:Step (Int×List Int) (Option (List Int)),(Blk s now.1 out i->R=.next (i+1,out))->(¬Blk s now.1 out i->R=.next (i+1,AB out i 2))->(Kz s now.1 asks out i->R=.next (i+1,AB out i 2))/\(¬Kz s now.1 asks out i->R=.next (i+1,out)):=λR h1 h2=>⟨λht=>h2 ht.2.2,λab=>h1 (Qar λhb=>ab ⟨by rw[ew];exact d1,by rw[ea];exact d2,hb⟩)⟩;refine Ap (λz:Int×List Int=>z.1) (Aa now.1) (λz=>z.2=out/\∀k,0<=k->k<z.1->¬(Ci s i k=true/\(el out k≠1\/(el now.1 k).2.2<F4 s k i))) (λ(R:Step (Int×List Int) (Option (List Int)))=>(Kz s now.1 asks out i->R=.next (i+1,AB out i 2))/\(¬Kz s now.1 asks out i->R=.next (i+1,out))) (by omega) (by simp) (Ak _) ⟨rfl,λk Y k1=>absurd k1 (by simp only;omega)⟩ (λz hI Y k1=>?_) λz hI hz=>?_
    ·obtain⟨k,o'⟩:=z;obtain⟨I,J⟩:=hI;simp only at I J Y k1;subst I;obtain⟨v,hv,_⟩:=Ai Y k1;obtain⟨ok,X,_⟩:=Ai (l:=o') Y (by omega);try simp only
     rw[Zzp (decide_eq_true k1),Zzq hv,Zzq hu,Zzp (decide_eq_true Y),UF (h.us i _ hu) Y (by omega)];have ad:Aw u k=Ci s i k:=by unfold Ci;rw[Et hu]
     rw[ad,Aj (k+1) (by omega) (by omega)];have next:¬(Ci s i k=true/\(el o' k≠1\/(el now.1 k).2.2<F4 s k i))->Cq (λz:Int×List Int=>z.1) (λz=>z.2=o'/\∀k,0<=k->k<z.1->¬(Ci s i k=true/\(el o' k≠1\/(el now.1 k).2.2<F4 s k i))) (λ(R:Step (Int×List Int) (Option (List Int)))=>(Kz s now.1 asks o' i->R=.next (i+1,AB o' i 2))/\(¬Kz s now.1 asks o' i->R=.next (i+1,o'))) k (.next (k+1,o'):Step (Int×List Int) (Step (Int×List Int) (Option (List Int)))):=λhn=>⟨rfl,rfl,λj p t=>by
      simp only at t;by_cases e:j=k
      ·rw[e];exact hn
      ·exact J j p (by omega)⟩
     have stop:= λhb=>a8 _ (λ_=>rfl) λae=>absurd ⟨k,Y,k1,hb⟩ ae;cases a1:Ci s i k with
     |false=>rw[Zzn rfl];exact next λhh=>by rw[a1] at hh;cases hh.1
     |true =>
      rw[Zzp rfl,Zzq X,Zzq X];by_cases d3:ok=1
      ·have Z:=A7 Y (by rw[h.lb];omega);rw[Zzn (by simp[d3]),Zzq Z,Zzq (A7 (l:=el s.2.2.2.1 k) y (by rw[h.rows k _ Z];omega))];have af:el (el s.2.2.2.1 k) i=F4 s k i:=rfl;rw[af];by_cases d4:v.2.2<F4 s k i
       ·rw[Zzp (decide_eq_true d4)];exact stop ⟨a1,.inr (by rw[Et hv];exact d4)⟩
       ·rw[Zzn (decide_eq_false d4)];exact next λhh=>hh.2.elim (λh=>h (by rw[Et X];exact d3)) λh=>d4 (by rw[Et hv] at h;exact h)
      ·rw[Zzp (by simpa using d3)];exact stop ⟨a1,.inl (by rw[Et X];exact d3)⟩
    ·obtain⟨k,o'⟩:=z;obtain⟨I,J⟩:=hI;simp only at I J hz;subst I;try simp only
     rw[Zzn (decide_eq_false (by omega)),Zzq ho,Zzq ho];exact a8 _ (λ⟨k',q0,q1,q2⟩=>absurd q2 (J k' q0 (by omega))) λ_=>rfl
   ·rw[Zzn (by simpa using d2)];exact ⟨λht=>absurd (by rw[<-ea];exact ht.2.1) d2,λ_=>rfl⟩
  ·rw[Zzn (by simpa using d1)];exact ⟨λht=>absurd (by rw[<-ew];exact ht.1) d1,λ_=>rfl⟩
end Go.Proofs.YtlgpjdjcbincgaaGreatDoor
namespace Go.Proofs.YtlgpjdjcbincgaaGreatDoor
open Go.Den
end Go.Proofs.YtlgpjdjcbincgaaGreatDoor
namespace Go.Proofs.YtlgpjdjcbincgaaGreatDoor
open Go.Den
def FX (f:Bool) (st:Int) (w:Co):Prop:=if f=true then w.1=4 else (1<=w.1/\w.1<=3)/\(0<st->w.1=1)
structure E8 (s:Al) (now:Bx):Prop where
 may:j7 s now
 all:∀w∈now.1,FX now.2.2 now.2.1 w
theorem Afz {f st w A} (x y:A):cnd f (cnd (!w.1==4) x y) (cnd (decide (w.1<1)||decide (3<w.1)||decide (0<st)&&!w.1==1) x y)=@ite _ (FX f st w) (Classical.propDecidable _) y x:=by
 unfold FX;cases f with
 |true =>
  rw[Zzp rfl];by_cases c:w.1=4
  ·rw[Zzn (by simp[c]),if_pos (by simpa using c)]
  ·rw[Zzp (by simpa using c),if_neg (by simpa using c)]
 |false =>
  rw[Zzn rfl];by_cases c:(1<=w.1/\w.1<=3)/\(0<st->w.1=1)
  ·rw[Zzn (by simp_all),if_pos (by simpa using c)]
  ·rw[Zzp (by grind),if_neg (by simpa using c)]
theorem Agm {s now} (h:SOK s) (Y:AD s=some 0) (o:Aa now.1<=1000):∃r,N6 (s,now)=some r/\(r=true↔E8 s now):=by
 have n2:=h.n2;have d:=Ak now.1;have p:now.1.length<=maxLen:=by unfold Aa at o;unfold maxLen;omega
 unfold N6;by_cases c:Aa now.1=Aa s.2.1
 ·rw[Zzn (by simpa using c),Zzp (C6 d (by omega)),Gj];refine Ap (λz:Int×List Int=>z.1) (Aa now.1) (λz=>Aa z.2=Aa now.1) (λr:Option Bool=>∃b,r=some b/\(b=true↔E8 s now)) (by omega) (by simp) d (AM d _) (λz g J i1=>?_) λz g Z=>?_
  ·obtain⟨i,out⟩:=z;simp only at g J i1;obtain⟨y,X,_⟩:=Ai (l:=out) J (by omega);try simp only
   rw[Zzp (decide_eq_true (by rw[AM d];exact i1)),Zzq X,Zzq X,Aj (i+1) (by omega) (by omega)];exact ⟨rfl,by (try simp only);rw[AN];exact g⟩
  ·obtain⟨i,out⟩:=z;simp only at g Z;try simp only
   have t:out.length<=maxLen:=by unfold Aa at g o<;>omega
   rw[Zzn (decide_eq_false (by rw[AM d];omega)),Zzq (Z9 (λ_=>h) Y o t)];show ∃b,_ = some b/\_;by_cases cm:j7 s now
   ·have h0:(Kh 0 s now out).2.2=0:=by unfold Kh<;>grind
    rw[Zzn (by simp_all)];have conv:(∀w∈now.1,FX now.2.2 now.2.1 w)↔∀i w,idx now.1 i=some w->FX now.2.2 now.2.1 w:=⟨λh i a v=>h a (Ag v).2.2,λh a v=>by obtain⟨i,hi⟩:=BZ v<;>grind⟩
    refine Bn (λr:Option Bool=>∃b,r=some b/\(b=true↔E8 s now)) (λ_ w=>FX now.2.2 now.2.1 w) (some false) (some true) p (λi w h0 hi E=>?_) λi hi=>by (try simp only);rw[Zzn (decide_eq_false hi)];try rfl (λI=>⟨true,rfl,λ_=>⟨cm,conv.2 I⟩,λ_=>rfl⟩) λI=>⟨false,rfl,λh=>(by cases h),λhg=>absurd (conv.1 hg.all) I⟩;try simp only
    rw[Zzp (decide_eq_true hi),Zzq E,Afz,decide_eq_true h0];by_cases cs:FX now.2.2 now.2.1 w
    ·rw[if_pos cs];exact .inl ⟨cs,rfl⟩
    ·rw[if_neg cs];exact .inr ⟨cs,rfl⟩
   ·have h0:(Kh 0 s now out).2.2=8:=by unfold Kh;rw[if_neg (by simp),if_pos cm]
    rw[Zzp (by rw[h0];rfl)];exact ⟨false,rfl,λh=>(by cases h),λhg=>absurd hg.may cm⟩
 ·rw[Zzp (by simpa using c)];exact ⟨false,rfl,λh=>(by cases h),λhg=>absurd hg.may.st.n c⟩
open Classical in
noncomputable def Y9 (e:Int) (s:Al) (now:Bx):Int:=if e≠0 then e else if E8 s now then 0 else 8
open Classical in
noncomputable def kV (e:Int) (s:Al) (now:Bx) (asks:List Int):List Int×Int :=
 if e≠0 then ([],e) else if ¬E8 s now then ([],8) else if Aa asks≠Aa s.2.1 then ([],90) else (ET s now asks,0)
open Classical in
noncomputable def yS (e:Int) (s:Al) (now:Bx) (g:Int):Bool×Int :=
 if e≠0 then (false,e) else if ¬E8 s now then (false,8) else if g<0\/Aa s.2.1<=g then (false,2) else (el (ET s now (AB (Ay (Aa s.2.1) 1) g 2)) g==2,0)
theorem uL {s now e} (d:e=0->SOK s) (g:AD s=some e) (h:Aa now.1<=1000):J2 (s,now)=some (Y9 e s now):=by
 unfold J2 Y9;rw[Zzq g];by_cases h0:e=0
 ·subst h0;rw[Zzn (by rfl),if_neg (by simp)];obtain⟨r,r1,r2⟩:=Agm (d rfl) g h;rw[Zzq r1];by_cases c:E8 s now
  ·rw[Zzn (by simp_all),if_pos c]
  ·have:r=false:=by simp_all
   rw[Zzp (by simp_all),if_neg c]
 ·rw[Zzp (by simp[h0]),if_pos h0]
theorem AcT {s now asks e} (d:e=0->SOK s) (g:AD s=some e) (h:Aa now.1<=1000):JY (s,(now,asks))=some (kV e s now asks):=by
 unfold JY kV;rw[Zzq (uL d g h)];unfold Y9;by_cases h0:e=0
 ·subst h0;rw[if_neg (show ¬(0:Int)≠0 by simp),if_neg (show ¬(0:Int)≠0 by simp)];by_cases c:E8 s now
  ·rw[if_pos c,Zzn (by rfl),if_neg (show ¬ ¬E8 s now by simpa using c)];by_cases c2:Aa asks=Aa s.2.1
   ·rw[Zzn (by simpa using c2),if_neg (by simpa using c2),Zzq (uH (d rfl) c.may.st.n c2)]
   ·rw[Zzp (by simpa using c2),if_pos c2]
  ·rw[if_neg c,Zzp (by rfl),if_pos c]
 ·rw[if_pos h0,if_pos h0,Zzp (by simp[h0])]
theorem eY s ws asks:∀k i out,Aa (pass s ws asks k i out)=Aa out
 |0,i,out=>rfl
 |k+1,i,out=>by
  rw[pass,eY s ws asks k];split
  ·rw[AN]
  ·rfl
theorem Tx {s now asks} (d:Aa now.1=Aa s.2.1) (c:Aa asks=Aa s.2.1):Aa (ET s now asks)=Aa s.2.1:=by
 have:=Ak asks;unfold ET;split
 ·exact c
 ·split
  ·rw[AM this,c]
  ·rw[eY,XT d c]
theorem AeK {s now g e} (d:e=0->SOK s) (v:AD s=some e) (y:Aa now.1<=1000):N5 (s,(now,g))=some (yS e s now g):=by
 unfold N5 yS;rw[Zzq (uL d v y)];unfold Y9;by_cases h0:e=0
 ·subst h0;have t:=d rfl;have n1:=t.n1;have n2:=t.n2;rw[if_neg (show ¬(0:Int)≠0 by simp),if_neg (show ¬(0:Int)≠0 by simp)];by_cases c:E8 s now
  ·rw[if_pos c,Zzn (by rfl),if_neg (show ¬ ¬E8 s now by simpa using c)];by_cases c2:g<0\/Aa s.2.1<=g
   ·rw[Zzp (by simpa using c2),if_pos c2]
   ·have p:0<=g:=by omega
    have g1:g<Aa s.2.1:=by omega
    have h:Aa (Ay (Aa s.2.1) (1:Int))=Aa s.2.1:=AM (by omega) _;have o:=Tx (asks:=AB (Ay (Aa s.2.1) 1) g 2) c.may.st.n (by rw[AN,h]);rw[Zzn (by simpa using c2),if_neg c2,Zzq (ZC (n:=Aa s.2.1) (by omega) (by omega)),Zzq (IP p g1 1),Zzq (IP p g1 1),Zzq (uH t c.may.st.n (by rw[AN,h])),Zzq (A7 p (by rw[o];exact g1)),Zzq (A7 p (by rw[o];exact g1))]
  ·rw[if_neg c,Zzp (by rfl),if_pos c]
 ·rw[if_pos h0,if_pos h0,Zzp (by simp[h0])]
end Go.Proofs.YtlgpjdjcbincgaaGreatDoor
namespace Go.Proofs.YtlgpjdjcbincgaaGreatDoor
open Go.Den
theorem Yn {s ws asks n} (J:Int->List Int->Prop) (hJ:∀i out,0<=i->i<n->J i out->(Kz s ws asks out i->J (i+1) (AB out i 2))/\(¬Kz s ws asks out i->J (i+1) out)) :
 ∀(k:Nat) i out,0<=i->i+k=n->J i out->J n (pass s ws asks k i out)
 |0,i,out,_,d,h=>by
  have:i=n:=by omega
  subst this;exact h
 |k+1,i,out,hi,d,h=>by
  rw[pass];obtain⟨h1,g⟩:=hJ i out hi (by omega) h;by_cases c:Kz s ws asks out i
  ·rw[if_pos c];exact Yn J hJ k (i+1) _ (by omega) (by omega) (h1 c)
  ·rw[if_neg c];exact Yn J hJ k (i+1) _ (by omega) (by omega) (g c)
theorem dA {g w a} (d:w.1=1) (c:a=1\/a=2):DK (g,(w,a))=0:=by unfold DK Hr GP;simp only[Ao];rcases c with c|c<;>simp[d,c,cnd,hi2_eq]
theorem AfO {g w a} (h1:w.1≠1) (h:1<=w.1/\w.1<=3):1<=FN (g,(w,a))/\FN (g,(w,a))<=3/\(FN (g,(w,a))=2->w.1=2)/\DK (g,(w,FN (g,(w,a))))=0:=by
 have o:w.1=2\/w.1=3:=by omega
 unfold FN DK Hr GP;simp only[Ao];generalize DL w.2.1=n;by_cases c:n<g.2.1<;>by_cases c2:n<g.2.2<;>by_cases p:g.2.2<=n;all_goals first|(exfalso;omega)|skip
 all_goals cases c3:a==2
 all_goals rcases o with d|d<;>simp[d,c,c2,p,cnd,hi2_eq]
theorem VH:∀ {gs} {ws} {l},(∀(i:Nat) g w a,gs[i]?=some g->ws[i]?=some w->l[i]?=some a->DK (g,(w,a))=0)->HP gs ws l=0
 |[],_,_,_=>by rw[HP]<;>simp_all
 |_::_,[],_,_=>by rw[HP]<;>simp_all
 |_::_,_::_,[],_=>by rw[HP]<;>simp_all
 |c::gs,w0::ws,a0::as,h=>by rw[HP,if_neg (by simpa using h 0 c w0 a0 rfl rfl rfl)];exact VH λi g w a h1 d o=>h (i+1) g w a (by simpa using h1) (by simpa using d) (by simpa using o)
theorem Ae7 w a:(nxt w a).1=a:=by unfold nxt J7;simp only[Ao];cases a==w.1<;>cases a==2<;>rfl
theorem VY {s now l} (g:Aa now.1=Aa s.2.1) (h:Aa l=Aa s.2.1):(Dr s now l).1.map (·.1)=l:=by have o:Aa (List.zipWith nxt now.1 l)=Aa now.1:=Il (by rw[g,h]);refine Eg (by show Aa (List.map _ (List.zipWith nxt now.1 l)) = _;rw[HN,o,g,h]) λj p c=>?_;change j<Aa (List.map _ (List.zipWith nxt now.1 l)) at c;rw[HN,o] at c;obtain⟨w,d,_⟩:=Ai p c;obtain⟨a,t,_⟩:=Ai (l:=l) p (by omega);show idx (List.map _ (List.zipWith nxt now.1 l)) j = _;rw[PD,N7 d t,t];exact congrArg some (Ae7 w a)
theorem AcP {s now l} (c:Aa l=Aa s.2.1) (h:Cu l=true):Hp s now l=0:=by unfold Hp<;>simp_all
theorem S2 {s now l w} (c:Aa now.1=Aa s.2.1) (d:Aa l=Aa s.2.1) (h:w∈(Dr s now l).1):w.1∈l:=by rw[<-VY c d]<;>grind
theorem Aej {n v a:Int} (h:a∈Ay n v):a=v:=(List.mem_replicate.1 h).2
theorem Abi {s l} (t:SOK s) (v:Aa l=Aa s.2.1) (g:Lk s l):∃a b,0<=a/\a<Aa s.2.1/\0<=b/\b<Aa s.2.1/\Ci s a b=true/\el l a≠1/\el l b≠1:=by obtain⟨a,b,x,y,_,c,d,h1,h,o⟩:=g;have p:=Ag c;exact ⟨a,b,p.1,by omega,(Ag d).1,by omega,o,by rw[Et c];exact h1,by rw[Et d];exact h⟩
theorem Ae1 {s l a b} (h:SOK s) (y:Aa l=Aa s.2.1) (a0:0<=a) (t:a<Aa s.2.1) (b0:0<=b) (v:b<Aa s.2.1) (d:Ci s a b=true) (h1:el l a≠1) (g:el l b≠1):Lk s l:=by
 obtain⟨p1,p2,_⟩:=h.pair a b a0 t b0 v;have o:=A7 (l:=l) a0 (by omega);have p:=A7 (l:=l) b0 (by omega);rcases Int.lt_or_gt_of_ne (p2 d).1 with c|c
 ·exact ⟨b,a,_,_,c,p,o,g,h1,by simp_all⟩
 ·exact ⟨a,b,_,_,c,o,p,h1,g,d⟩
theorem ZZ {l g} (h:Cu l=true) (c:0<=g) (g1:g<Aa l):el l g=4:=by unfold Cu at h;rw[decide_eq_true_eq] at h;exact h _ (Ag (A7 c g1)).2.2
structure bD (s:Al) (ws:List Co) (asks:List Int) (i:Int) (out:List Int):Prop where
 len:Aa out=Aa s.2.1
 on:∀j,0<=j->j<Aa s.2.1->(el ws j).1≠1->el out j=FN (el s.2.1 j,(el ws j,el asks j))
 off:∀j,0<=j->j<Aa s.2.1->(el ws j).1=1->el out j=1\/el out j=2/\el asks j=2/\j<i/\∀k,0<=k->k<Aa s.2.1->Ci s j k=true->F4 s k j<=(el ws k).2.2
 meet:∀a b,0<=a->a<Aa s.2.1->0<=b->b<Aa s.2.1->Ci s a b=true->el out a=1\/el out b=1
theorem Afe {s now asks} (h:SOK s) (Y:E8 s now) (hl:Aa asks=Aa s.2.1) (hf:now.2.2=false):bD s now.1 asks (Aa s.2.1) (pass s now.1 asks (Aa asks).toNat 0 (QT s.2.1 now.1 asks)):=by
 have n1:=h.n1;have hw:=Y.may.st.n;have c:∀j,0<=j->j<Aa s.2.1->el (QT s.2.1 now.1 asks) j=bw (el s.2.1 j) (el now.1 j) (el asks j):=λj d g =>Et (lF (A7 d g) (A7 d (by omega)) (A7 d (by omega)));refine Yn (bD s now.1 asks) (λi out X i1 t=>⟨λht=>?_,λE=>?_⟩) (Aa asks).toNat 0 _ (by omega) (by omega) ?_
 ·obtain⟨t1,t2,t3⟩:=ht;have hi:i<Aa out:=by rw[t.len];exact i1
  refine ⟨by rw[AN];exact t.len,λj d g p=>?_,λj d g p=>?_,λa b a0 v b0 y o=>?_⟩
  ·rw[Jp X hi,if_neg λe=>p (by simp_all)];exact t.on j d g p
  ·rw[Jp X hi];by_cases e:j=i
   ·subst e;rw[if_pos rfl];exact .inr ⟨rfl,t2,by omega,λk Z k1 hk=>Int.not_lt.1 λa6=>t3 ⟨k,Z,by omega,hk,.inr a6⟩⟩
   ·rw[if_neg e];exact (t.off j d g p).imp_right λ⟨q1,q2,q3,q4⟩=>⟨q1,q2,by omega,q4⟩
  ·obtain⟨p1,p2,_⟩:=h.pair a b a0 v b0 y;have I:=(p2 o).1;have free:∀k,0<=k->k<Aa s.2.1->Ci s i k=true->el out k=1:=λk Z k1 hk=>Qar λI=>t3 ⟨k,Z,by omega,hk,.inl I⟩;rw[Jp X hi,Jp X hi];by_cases ea:a=i
   ·grind
   ·by_cases eb:b=i
    ·subst eb;left;rw[if_neg ea];exact free a a0 v (by rw[<-p1];exact o)
    ·rw[if_neg ea,if_neg eb];exact t.meet a b a0 v b0 y o
 ·exact ⟨t.len,t.on,λj d g p=>(t.off j d g p).imp_right λ⟨q1,q2,q3,q4⟩=>⟨q1,q2,by omega,q4⟩,t.meet⟩
 ·refine ⟨XT (gs:=s.2.1) (ws:=now.1) (asks:=asks) hw hl,λj d g p=>by rw[c j d g,bw,if_neg p],λj d g p=>.inl (by rw[c j d g,bw,if_pos p]),λa b a0 v b0 y o=>?_⟩;apply Qar;intro E;simp only[not_or] at E;rw[c a a0 v,c b b0 y] at E;have J:∀j,0<=j->j<Aa s.2.1->el (now.1.map (·.1)) j=(el now.1 j).1:=λj d g=>Et (by rw[PD,A7 d (by omega)];rfl);have hm:Lk s (now.1.map (·.1)):=Ae1 h (by rw[HN];exact hw) a0 v b0 y o (by rw[J a a0 v];exact λe=>E.1 (by rw[bw,if_pos e])) (by rw[J b b0 y];exact λe=>E.2 (by rw[bw,if_pos e]));rcases Y.may.ok with ok|ok
  ·have h0:=A7 (l:=now.1) a0 (by omega);have hs:=Y.all _ (Ag h0).2.2;unfold FX at hs;rw[if_neg (by rw[hf];simp)] at hs;unfold Cu at ok;rw[decide_eq_true_eq] at ok;have:=ok _ (List.mem_map_of_mem (Ag h0).2.2);omega
  ·exact ok hm
theorem Aff {s now asks out i j} (t:E8 s now) (y:now.2.2=false) (v:bD s now.1 asks i out) (d:0<=j) (o:j<Aa s.2.1):(1<=el out j/\el out j<=3)/\DK (el s.2.1 j,(el now.1 j,el out j))=0/\(el out j=2->(el now.1 j).1≠2->(el now.1 j).1=1):=by
 have p:=t.all _ (Ag (A7 d (by rw[t.may.st.n];exact o))).2.2;unfold FX at p;rw[if_neg (by simp_all)] at p;by_cases c:(el now.1 j).1=1
 ·rcases v.off j d o c with h|⟨h,_⟩
  ·exact ⟨by omega,dA c (.inl h),λ_ _=>c⟩
  ·exact ⟨by omega,dA c (.inr h),λ_ _=>c⟩
 ·obtain⟨E,I,J,X⟩:=AfO (g:=el s.2.1 j) (a:=el asks j) c p.1;rw[v.on j d o c]<;>omega
theorem wK {s now asks} (h:SOK s) (Z:E8 s now) (hl:Aa asks=Aa s.2.1):Hp s now (ET s now asks)=0/\E8 s (Dr s now (ET s now asks)):=by
 have n1:=h.n1;have hw:=Z.may.st.n;have c:=Tx hw hl;have d:=Aax h Z.may.st c;have o:=VY hw c;unfold ET at c d o ⊢;by_cases c1:Cu asks=true
 ·rw[if_pos c1] at c d o ⊢;refine ⟨AcP c c1,⟨d,.inl (by simp_all)⟩,λw p=>?_⟩;have:=S2 hw c p;unfold FX;rw[if_pos (show (Dr s now asks).2.2=true from c1)];unfold Cu at c1<;>grind
 ·rw[if_neg c1] at c d o ⊢;by_cases c2:now.2.2=true\/0<now.2.1
  ·rw[if_pos c2] at c d o ⊢;have I:∀a∈Ay (Aa asks) (1:Int),a=1:=λa ha=>Aej ha;have t:Cu (Ay (Aa asks) (1:Int))=false:=by apply Bool.eq_false_iff.2;intro E;have:=ZZ E (g:=0) (by omega) (by omega);rw[Et (IP (n:=Aa asks) (j:=0) (by omega) (by omega) (1:Int))] at this<;>omega
   have J:¬Lk s (Ay (Aa asks) (1:Int)):=λ⟨a,b,x,y,_,hx,_,a8,_⟩=>a8 (I _ (Ag hx).2.2);refine ⟨?_,⟨d,.inr (by simp_all)⟩,λw p=>?_⟩
   ·unfold Hp;rw[if_neg (by simpa using c),if_neg (by simp_all),if_neg λh4=>by grind,if_neg λE=>by grind,if_neg λE=>?_,if_neg J,if_neg λ⟨i,k,w,v,_,h2,_⟩=>by have:=I 2 (Ag h2).2.2;cases this];refine E.2 (VH λi g w a q1 q2 q3=>?_);have hs:=Z.all w (Qcn q2);unfold FX at hs;rw[if_neg (by simp_all)] at hs;have a6:= c2.elim λe=>by simp_all id;exact dA (hs.2 a6) (.inl (I a (Qcn q3)))
   ·have:=I _ (S2 hw c p);unfold FX;rw[if_neg (show ¬(Dr s now (Ay (Aa asks) 1)).2.2=true by show ¬Cu _ = true;rw[t];simp)];exact ⟨by omega,λ_=>this⟩
  ·rw[if_neg c2] at c d o ⊢;have hf:= Bool.eq_false_iff.2 λe=>c2 (.inl e);have hI:=Afe h Z hl hf;generalize pass s now.1 asks (Aa asks).toNat 0 (QT s.2.1 now.1 asks)=out at hI c d o ⊢;have X:=λ{j:Int} (j0:0<=j) (j1:j<Aa s.2.1)=>Aff Z hf hI j0 j1;have Y:∀a∈out,1<=a/\a<=3:=λa ha=>by obtain⟨j,hj⟩:=BZ ha;have:=Ag hj;have h1:=(X this.1 (by omega)).1;rwa [Et hj] at h1
   have t:Cu out=false:=by apply Bool.eq_false_iff.2;intro E;have:=ZZ E (g:=0) (by omega) (by omega);have h1:=(X (j:=0) (by omega) (by omega)).1;omega
   have J:¬Lk s out:=λhm=>by
    obtain⟨a,b,a0,a1,b0,b1,aa,h1,h2⟩:=Abi h c hm;rcases hI.meet a b a0 a1 b0 b1 aa with e|e
    ·exact h1 e
    ·exact h2 e
   refine ⟨?_,⟨d,.inr (by rw[o];exact J)⟩,λw p=>?_⟩
   ·unfold Hp;rw[if_neg (by simpa using c),if_neg (by rw[t];simp),if_neg λh4=>by have:=Y 4 h4;omega,if_neg λE=>c2 E.1,if_neg λE=>?_,if_neg J,if_neg λab=>?_]
    ·obtain⟨i,k,w,v,q1,q2,q3,q4,q5,q6⟩:=ab;have ii:=Ag q1;have ik:=Ag q4;have e2:= Et q2;have hr:=(X ii.1 (by omega)).2.2 e2 (by rw[Et q1];exact q3);rcases hI.off i ii.1 (by omega) hr with e|⟨_,_,_,hb⟩
     ·omega
     ·have:=hb k ik.1 (by omega) (by rw[(h.pair i k ii.1 (by omega) ik.1 (by omega)).1];exact q5);rw[Et q4] at this;omega
    ·refine E.2 (VH λi g w a q1 q2 q3=>?_);have r1:idx s.2.1 (i:Int)=some g:=by rw[AY (by omega),Qae];exact q1
     have r2:idx now.1 (i:Int)=some w:=by rw[AY (by omega),Qae];exact q2
     have r3:idx out (i:Int)=some a:=by rw[AY (by omega),Qae];exact q3
     have:=(X (by omega) (Ag r1).2.1).2.1;rwa [Et r1,Et r2,Et r3] at this
   ·unfold FX;rw[if_neg (show ¬(Dr s now out).2.2=true by show ¬Cu _ = true;rw[t];simp)];refine ⟨Y _ (S2 hw c p),λa7=>?_⟩;have:(Dr s now out).2.1=max 0 (now.2.1-1):=by unfold Dr;simp only[t,hf];rfl
    rw[this] at a7;exact absurd (show now.2.2=true\/0<now.2.1 from .inr (by omega)) c2
theorem kX {n} {v a:Co} (h:a∈Ay n v):a=v:=(List.mem_replicate.1 h).2
theorem xX {s} (h:SOK s):E8 s (Mw s):=by
 have n1:=h.n1;refine ⟨⟨AcJ h,.inr λ⟨a,b,x,y,_,c,_,g,_⟩=>g ?_⟩,λw d=>?_⟩
 ·rw[PD] at c;cases d:idx (Mw s).1 a with
  |none=>simp_all
  |some w =>rw[d] at c;have:=kX (Ag d).2.2;rw[this] at c;cases c;rfl
 ·have:=kX d;rw[this];unfold FX;rw[if_neg (by simp[Mw])];exact ⟨by decide,λ_=>rfl⟩
end Go.Proofs.YtlgpjdjcbincgaaGreatDoor
namespace Go.Proofs.YtlgpjdjcbincgaaGreatDoor
open Go.Den
def inP (s:Al) (p g:Int):Bool:=Aw (el s.2.2.2.2.1 p).1 g
def ID (s:Al) (p:Int):List Int:=s.2.1.mapIdx λi _=>if inP s p (i:Int)=true then 2 else 1
theorem eX s p:Aa (ID s p)=Aa s.2.1:=HO
theorem Ac1 {s p i} (c:0<=i) (i1:i<Aa s.2.1):idx (ID s p) i=some (if inP s p i=true then 2 else 1):=by unfold ID;rw[Pe c,A7 c i1,Qai,Qax c]
def ZB (s:Al) (now:Bx) (p:Int):Prop:=∀i,0<=i->i<Aa s.2.1->inP s p i=true->(el now.1 i).1=2
noncomputable def Po (s:Al) (now:Bx) (p:Int):Bx:=Dr s now (ET s now (ID s p))
end Go.Proofs.YtlgpjdjcbincgaaGreatDoor
namespace Go.Proofs.YtlgpjdjcbincgaaGreatDoor
open Go.Den
theorem vP {s p i} (d:Ca s) (p0:0<=p) (p1:p<Aa s.2.2.2.2.1) (c:0<=i) (i1:i<=31):Kp (s,(p,i))=some (inP s p i):=by have e:=A7 p0 p1;unfold Kp;rw[Zzq e,Zzp (decide_eq_true c)];show some (Aq .and .u32 (AH .u32 (el s.2.2.2.2.1 p).1 i) 1==1) = _;rw[UF (d.ps _ (Ag e).2.2).1 c i1];rfl
theorem Aem {s p} (Z:Ca s) (h:SOK s) (p0:0<=p) (p1:p<Aa s.2.2.2.2.1):Ol (s,p)=some (ID s p):=by
 have n1:=h.n1;have n2:=h.n2;have I:0<=Aa s.2.1:=by omega
 unfold Ol;rw[Zzp (C6 I (by omega))];refine Ap (λz:Int×List Int=>z.1) (Aa s.2.1) (λz=>Aa z.2=Aa s.2.1/\∀j,0<=j->j<z.1->idx z.2 j=idx (ID s p) j) (λr=>r=some (ID s p)) (by omega) (by simp) I ⟨AM I _,λj t v=>absurd v (by omega)⟩ (λz J g i1=>?_) λz J hz=>?_
 ·obtain⟨i,out⟩:=z;obtain⟨d,E⟩:=J;simp only at g i1 d E;obtain⟨y,X,_⟩:=Ai (l:=out) g (by omega);have o:idx (AB out i 1) i=some 1:=by rw[By g (by omega),if_pos rfl]
  try simp only
  rw[Zzp (decide_eq_true (by rw[AM I];exact i1)),Zzq X,Zzq X,Zzq (vP Z p0 p1 g (by omega)),Aj (i+1) (by omega) (by omega)];have Y:=Ac1 (p:=p) g i1;cases c:inP s p i with
  |true =>
   rw[Zzp rfl,Zzq o,Zzq o];refine ⟨rfl,by (try simp only);rw[AN,AN];exact d,λj t v=>?_⟩;simp only at v ⊢;rw[By g (by rw[AN];omega),By g (by omega)];split
   ·rename_i e;rw[e,Y,c];rfl
   ·exact E j t (by omega)
  |false =>
   rw[Zzn rfl];refine ⟨rfl,by (try simp only);rw[AN];exact d,λj t v=>?_⟩;simp only at v ⊢;rw[By g (by omega)];split
   ·rename_i e;rw[e,Y,c];rfl
   ·exact E j t (by omega)
 ·obtain⟨i,out⟩:=z;obtain⟨d,E⟩:=J;simp only at hz d E;try simp only
  rw[Zzn (decide_eq_false (by rw[AM I];omega))];rw[Eg (by rw[eX];exact d) λj t v=>E j t (by omega)];exact rfl
def jN (e:Int) (s:Al) (p:Int):List Int×Int:=if e≠0 then ([],e) else if p<0\/Aa s.2.2.2.2.1<=p then ([],2) else (ID s p,0)
theorem Aac {s p e} (g:Ca s) (d:e=0->SOK s) (h:AD s=some e):ES (s,p)=some (jN e s p):=by
 unfold ES jN;rw[Gj,Zzq h];by_cases h0:e=0
 ·subst h0;rw[Zzn (by rfl),if_neg (by simp)];by_cases c:p<0\/Aa s.2.2.2.2.1<=p
  ·rw[Zzp (by simpa using c),if_pos c];rfl
  ·rw[Zzn (by simpa using c),if_neg c];try simp only
   rw[Zzn (by rfl),Zzq (Aem g (d rfl) (by omega) (by omega))]
 ·rw[Zzp (by simp[h0]),if_pos h0];try simp only
  rw[Zzp (by simp[h0])]
open Classical in
noncomputable def Hq (s:Al) (now:Bx) (p:Int):Bool:=decide (ZB s now p)
theorem fullB_iff {s now p}:Hq s now p=true↔ZB s now p:=by unfold Hq;simp
theorem fullB_not {s now p}:Hq s now p=false↔¬ZB s now p:=by unfold Hq;simp
theorem Agj {s now p} (t:Ca s) (h:SOK s) (v:Aa now.1=Aa s.2.1) (p0:0<=p) (p1:p<Aa s.2.2.2.2.1):Om (s,(now,p))=some (Hq s now p):=by
 have n2:=h.n2;unfold Om;have conv:(∀i w,idx now.1 i=some w->inP s p i=true->w.1=2)↔ZB s now p:=⟨λg i o i1 hi=>g i _ (A7 o (by omega)) hi,λg i w d hi=>by have:=g i (Ag d).1 (by have:=(Ag d).2.1;omega) hi;rwa [Et d] at this⟩
 refine Bn (l:=now.1) (λr=>r=some (Hq s now p)) (λi w=>inP s p i=true->w.1=2) (some false) (some true) (by unfold Aa at v n2;unfold maxLen;omega) (λi w o i1 d=>?_) λi hi=>by (try simp only);rw[Zzn (decide_eq_false hi)] λg=>by rw[fullB_iff.2 (conv.1 g)] (λg=>by rw[fullB_not.2 λy=>g (conv.2 y)]);try simp only
 rw[Zzp (decide_eq_true i1),Zzq d,Zzq (vP t p0 p1 o (by omega))];by_cases c:inP s p i=true->w.1=2
 ·refine .inl ⟨c,Af _ _ ?_⟩<;>simp_all
 ·refine .inr ⟨c,Ae _ _ ?_⟩;rw[Qar λE=>c λg=>absurd g E,Qap];have:= λe=>c λ_=>e;simpa using this
open Classical in
noncomputable def Ti (e:Int) (s:Al) (now:Bx) (p:Int):Bool×Int :=
 if e≠0 then (false,e) else if Aa now.1≠Aa s.2.1 then (false,8) else if p<0\/Aa s.2.2.2.2.1<=p then (false,2) else (Hq s now p,0)
theorem j5 {s now p e} (g:Ca s) (d:e=0->SOK s) (h:AD s=some e):GA (s,(now,p))=some (Ti e s now p):=by
 unfold GA Ti;rw[Gj,Zzq h];by_cases h0:e=0
 ·subst h0;rw[Zzn (by rfl),if_neg (by simp)];by_cases c0:Aa now.1=Aa s.2.1
  ·rw[Zzn (by simpa using c0),if_neg (by simpa using c0)];by_cases c:p<0\/Aa s.2.2.2.2.1<=p
   ·rw[Zzp (by simpa using c),if_pos c];rfl
   ·rw[Zzn (by simpa using c),if_neg c];try simp only
    rw[Zzp (by rfl),Zzq (Agj g (d rfl) c0 (by omega) (by omega))]
  ·rw[Zzp (by simpa using c0),if_pos c0];rfl
 ·rw[Zzp (by simp[h0]),if_pos h0];try simp only
  rw[Zzn (by simp[h0])]
def Abm (s:Al):Nat->Int
 |0=>0
 |n+1=>max (Abm s n) (el s.2.1 (n:Int)).2.1
def Acm (s:Al):Nat->Int
 |0=>0
 |n+1=>max (Acm s n) (el s.2.1 (n:Int)).2.2
def nG (s:Al):Int:=Abm s (Aa s.2.1).toNat
def yL (s:Al):Int:=max (grt s) (Acm s (Aa s.2.1).toNat)
def Ad6 (s:Al):Int:=nG s+yL s+2
end Go.Proofs.YtlgpjdjcbincgaaGreatDoor
namespace Go.Proofs.YtlgpjdjcbincgaaGreatDoor
open Go.Den
end Go.Proofs.YtlgpjdjcbincgaaGreatDoor
namespace Go.Proofs.YtlgpjdjcbincgaaGreatDoor
open Go.Den
def G0 (s:Al) (calls k:Int):Bool:=(el s.2.2.2.2.1 k).2.2.2.2||Aw calls k
def DP (s:Al) (p i:Int):Int:=(p+i).tmod (Aa s.2.2.2.2.1)
theorem VX {s p i} (p0:0<=p) (c:0<=i) (h:p+i<Aa s.2.2.2.2.1):DP s p i=p+i:=by unfold DP;rw[Qbq (by omega),Qcp (by omega) h]
theorem VW {s p i} (h1:Aa s.2.2.2.2.1<=p+i) (c:p+i<2*Aa s.2.2.2.2.1):DP s p i=p+i-Aa s.2.2.2.2.1:=by
 unfold DP;have d:=Ak s.2.2.2.2.1;rw[Qbq (by omega)];have e:p+i=p+i-Aa s.2.2.2.2.1+Aa s.2.2.2.2.1*1:=by omega
 rw[e,Int.add_mul_emod_self_left,Qcp (by omega) (by omega)];omega
theorem fQ {s p i} (p0:0<=p) (p1:p<Aa s.2.2.2.2.1) (d:0<=i) (i1:i<=Aa s.2.2.2.2.1):0<=DP s p i/\DP s p i<Aa s.2.2.2.2.1:=by
 by_cases c:p+i<Aa s.2.2.2.2.1
 ·rw[VX p0 d c];omega
 ·rw[VW (by omega) (by omega)];omega
theorem AbX {s p k} (p0:0<=p) (p1:p<Aa s.2.2.2.2.1) (d:0<=k) (k1:k<Aa s.2.2.2.2.1) (g:k≠p):∃i,1<=i/\i<Aa s.2.2.2.2.1/\DP s p i=k/\(i=k-p\/i=k-p+Aa s.2.2.2.2.1):=by
 by_cases c:p<k
 ·exact ⟨k-p,by omega,by omega,by rw[VX p0 (by omega) (by omega)];omega,.inl rfl⟩
 ·exact ⟨k-p+Aa s.2.2.2.2.1,by omega,by omega,by rw[VW (by omega) (by omega)];omega,.inr rfl⟩
theorem AbY {s p i} (p0:0<=p) (p1:p<Aa s.2.2.2.2.1) (d:1<=i) (i1:i<Aa s.2.2.2.2.1):DP s p i≠p:=by
 by_cases c:p+i<Aa s.2.2.2.2.1
 ·rw[VX p0 (by omega) c];omega
 ·rw[VW (by omega) (by omega)];omega
structure Uu (s:Al) (q:Mf) (full:Bool) (calls gaps:Int) (q':Mf):Prop where
 off:full=false->q'=(q.1,0)
 stay:full=true->(min (q.2+1) 1048576<(el s.2.2.2.2.1 q.1).2.1\/Aw gaps q.1=false/\min (q.2+1) 1048576<(el s.2.2.2.2.1 q.1).2.2.1\/∀i,1<=i->i<Aa s.2.2.2.2.1->G0 s calls (DP s q.1 i)=false)->q'=(q.1,min (q.2+1) 1048576)
 move:full=true->¬(min (q.2+1) 1048576<(el s.2.2.2.2.1 q.1).2.1\/Aw gaps q.1=false/\min (q.2+1) 1048576<(el s.2.2.2.2.1 q.1).2.2.1\/∀i,1<=i->i<Aa s.2.2.2.2.1->G0 s calls (DP s q.1 i)=false) ->
  ∃i,1<=i/\i<Aa s.2.2.2.2.1/\G0 s calls (DP s q.1 i)=true/\(∀j,1<=j->j<i->G0 s calls (DP s q.1 j)=false)/\q'=(DP s q.1 i,0)
theorem AcB {s calls} (J:Aa s.2.2.2.2.1<=8) (E:As calls):∃l,M0 (s,calls)=some l/\As l/\∀j,0<=j->Aw l j=(decide (j<Aa s.2.2.2.2.1)&&G0 s calls j):=by
 unfold M0;refine Ap (λz:Int×Int=>z.2) (Aa s.2.2.2.2.1) (λz=>As z.1/\∀j,0<=j->Aw z.1 j=(decide (j<z.2)&&G0 s calls j)) (λr=>∃l,r=some l/\As l/\∀j,0<=j->Aw l j=(decide (j<Aa s.2.2.2.2.1)&&G0 s calls j)) (by omega) (by simp) (Ak s.2.2.2.2.1) ⟨⟨by simp,by simp⟩,λj p=>by rw[F5,decide_eq_false (by omega)];rfl⟩ (λz t d i1=>?_) λz t y=>?_
 ·obtain⟨l,i⟩:=z;obtain⟨g,h⟩:=t;simp only at d i1 g h;have v:= decide_eq_true d;have c:G0 s calls i=true->Cq (λz:Int×Int=>z.2) (λz=>As z.1/\∀j,0<=j->Aw z.1 j=(decide (j<z.2)&&G0 s calls j)) (λr=>∃l,r=some l/\As l/\∀j,0<=j->Aw l j=(decide (j<Aa s.2.2.2.2.1)&&G0 s calls j)) i (.next (Aq .or .u32 l (A9 .u32 1 i),i+1):Step (Int×Int) (Option Int)):=λI=>by rw[zJ d (by omega)];refine ⟨rfl,ZY g (Je d (by omega)),λj p=>?_⟩;simp only;rw[Ze g (Je d (by omega)),Nx d,h j p]<;>grind
  have o:G0 s calls i=false->Cq (λz:Int×Int=>z.2) (λz=>As z.1/\∀j,0<=j->Aw z.1 j=(decide (j<z.2)&&G0 s calls j)) (λr=>∃l,r=some l/\As l/\∀j,0<=j->Aw l j=(decide (j<Aa s.2.2.2.2.1)&&G0 s calls j)) i (.next (l,i+1):Step (Int×Int) (Option Int)):=λI=>by refine ⟨rfl,g,λj p=>?_⟩<;>grind
  try simp only
  rw[Zzp (decide_eq_true i1),Zzq (A7 d i1),Aj (i+1) (by omega) (by omega)];unfold G0 at c o;cases c1:(el s.2.2.2.2.1 i).2.2.2.2 with
  |true =>rw[Zzp rfl,Zzp v];exact c (by rw[c1];rfl)
  |false =>
   rw[Zzn rfl,Zzp v,UF E d (by omega)];cases c2:Aw calls i with
   |true=>rw[Zzp rfl,Zzp v];exact c (by rw[c1,c2];rfl)
   |false=>rw[Zzn rfl];exact o (by rw[c1,c2];rfl)
 ·obtain⟨l,i⟩:=z;obtain⟨g,h⟩:=t;simp only at y g h;subst y;try simp only
  rw[Zzn (decide_eq_false (by omega))];exact ⟨l,rfl,g,h⟩
theorem xC {n} (h0:n≠0) (h:n<2 ^ 64):n.testBit (Lib.ctz 64 n)=true/\∀j,j<Lib.ctz 64 n->n.testBit j=false:=by
 have e:Lib.ctz 64 n=Lib.ctzFrom 64 n:=by simp[Lib.ctz,h0]
 obtain⟨m,c,_⟩:=Lib.ctzFrom_spec 64 n (by omega) h<;>grind
theorem We {o m p j} (d:o<2 ^ m) (_:p<m) (g:p+1+j<2*m):((o ||| o <<< m) >>> (p+1)).testBit j=o.testBit ((p+1+j)%m):=by
 rw[Qfe,Qey,Nat.testBit_shiftLeft];by_cases c:p+1+j<m
 ·rw[Qdk c]<;>grind
 ·have e:(p+1+j)%m=p+1+j-m:=by rw[Nat.mod_eq_sub_mod (by omega),Qdk (by omega)]
  have h:o.testBit (p+1+j)=false:=Qct (Qac d (Qbp (by decide) (by omega)))<;>simp_all
theorem wV {o m p} (h:o<2 ^ m) (hm:m<=8) (E:p<m) (h0:o≠0) (X:o.testBit p=false) :
 (o ||| o <<< m) >>> (p+1)≠0/\(o ||| o <<< m) >>> (p+1)<2 ^ 64/\Lib.ctz 64 ((o ||| o <<< m) >>> (p+1))+1<m/\o.testBit ((p+1+Lib.ctz 64 ((o ||| o <<< m) >>> (p+1)))%m)=true /\
   ∀j,j<Lib.ctz 64 ((o ||| o <<< m) >>> (p+1))->o.testBit ((p+1+j)%m)=false:=by
 have t:(o ||| o <<< m) >>> (p+1)<2 ^ 64:=by rw[Qam];refine Qda (Qfn _ _) (Qfa (Qac h (Qbp (by decide) (by omega))) ?_);rw[Qgj];have h1:= Nat.mul_lt_mul_of_pos_right h (Nat.two_pow_pos m);rw[<-Nat.pow_add] at h1;exact Qac h1 (Qbp (by decide) (by omega))
 obtain⟨b,I⟩:=Nat.exists_testBit_of_ne_zero h0
 have v:b<m:=by apply Qar;intro Y;rw[Qct (Qac h (Qbp (by decide) (by omega)))] at I;cases I
 have Z:b≠p:=λe=>by simp_all
 obtain⟨d,a1,J⟩:∃d,d+1<m/\(p+1+d)%m=b:=by
  by_cases c:p<b
  ·exact ⟨b-p-1,by omega,by rw[show p+1+(b-p-1)=b by omega,Qdk v]⟩
  ·exact ⟨b+m-p-1,by omega,by rw[show p+1+(b+m-p-1)=b+m by omega,Nat.add_mod_right,Qdk v]⟩
 have g:=We h E (j:=d) (by omega)
 rw[J,I] at g
 have y:(o ||| o <<< m) >>> (p+1)≠0:=λe=>by rw[e] at g;simp at g
 obtain⟨c1,c2⟩:=xC y t
 have a6:Lib.ctz 64 ((o ||| o <<< m) >>> (p+1))<=d:=by apply Qar;intro Y;have:=c2 d (by omega);rw[g] at this;cases this
 refine ⟨y,t,by omega,?_,λj hj=>?_⟩
 ·rw[<-We h E (by omega)];exact c1
 ·rw[<-We h E (by omega)];exact c2 j hj
theorem aW {n:Nat} (h:n<2 ^ 64):wr .u64 (n:Int)=n:=by
 show IntKind.u64.wrap (n:Int)=n;have:(2:Nat) ^ 64=18446744073709551616:=by decide
 rw[wrap_u64];omega
theorem tD {s o p} (J:1<=Aa s.2.2.2.2.1) (hm:Aa s.2.2.2.2.1<=8) (X:As o) (p0:0<=p) (p1:p<Aa s.2.2.2.2.1) (Y:∀j,Aa s.2.2.2.2.1<=j->Aw o j=false) (Z:Aw o p=false) (h0:o≠0) :
 ∃i,1<=i/\i<Aa s.2.2.2.2.1/\Aw o (DP s p i)=true/\(∀j,1<=j->j<i->Aw o (DP s p j)=false)/\MZ (o,(p,Aa s.2.2.2.2.1))=some (DP s p i):=by
 obtain⟨n,rfl⟩:∃n:Nat,o=n:=⟨o.toNat,by have:=X.1;omega⟩;obtain⟨q,rfl⟩:∃n:Nat,p=n:=⟨p.toNat,by omega⟩;obtain⟨m,c⟩:∃m:Nat,Aa s.2.2.2.2.1=m:=⟨(Aa s.2.2.2.2.1).toNat,by omega⟩;have bit:∀j:Nat,Aw (n:Int) (j:Int)=n.testBit j:=λj=>by unfold Aw;simp
 have hn:n<2 ^ m:=by apply Nat.lt_pow_two_of_testBit<;>grind
 obtain⟨b1,b2,b3,b4,E⟩:=wV (o:=n) (m:=m) (p:=q) hn (by omega) (by omega) (by omega) (by simp_all);have I:∀j:Nat,DP s (q:Int) ((j:Int)+1)=(((q+1+j)%m:Nat):Int):=λj=>by unfold DP;rw[c,Qbq (by omega),show (q:Int)+((j:Int)+1)=((q+1+j:Nat):Int) by omega];rfl
 generalize hd:Lib.ctz 64 ((n ||| n <<< m) >>> (q+1))=d at b3 b4 E;refine ⟨(d:Int)+1,by omega,by omega,by grind,λj j0 j1=>?_,?_⟩
 ·have:=I (j-1).toNat;rw[show (((j-1).toNat:Nat):Int)+1=j by omega] at this;rw[this,bit];exact E _ (by omega)
 ·unfold MZ;rw[I];simp only[c];have g:(2:Nat) ^ m<=2 ^ 8:=Qbp (by decide) (by omega);have a1:n<256:=by omega
  have h:A9 .u64 (n:Int) (m:Int)=((n <<< m:Nat):Int):=by
   unfold A9;rw[show min (m:Int).toNat IntKind.u64.bits=m by simp only[IntKind.bits];omega,Qgj];have:(n:Int)*2 ^ m=((n*2 ^ m:Nat):Int):=by simp
   rw[this];refine aW ?_;have:n*2 ^ m<=256*2 ^ 8:=Nat.mul_le_mul (by omega) g;omega
  have t:n <<< m<2 ^ 64:=by rw[Qgj];have:n*2 ^ m<=256*2 ^ 8:=Nat.mul_le_mul (by omega) g;omega
  rw[aW (by omega),h];rw[oL (by omega) t];rw[Aj ((q:Int)+1) (by omega) (by omega)];have v:AH .u64 ((n ||| n <<< m:Nat):Int) ((q:Int)+1)=(((n ||| n <<< m) >>> (q+1):Nat):Int):=by unfold AH;rw[show min ((q:Int)+1).toNat IntKind.u64.bits=q+1 by simp only[IntKind.bits];omega];rw[Qcg _ (Qdt (Qfd (by decide))),Qam];simp
  rw[v];have y:Bf (((n ||| n <<< m) >>> (q+1):Nat):Int)=(d:Int):=by unfold Bf;rw[if_neg (by omega),Qae,hd]
  rw[Zzp (decide_eq_true (by omega)),Zzp (decide_eq_true (by omega)),Au,y,Zzp (by simp;omega),Aj ((q:Int)+1+d) (by omega) (by omega)];unfold BB;rw[Qbq (by omega),show (q:Int)+1+(d:Int)=((q+1+d:Nat):Int) by omega];rfl
structure YP (s:Al) (q:Mf):Prop where
 p0:0<=q.1
 p1:q.1<Aa s.2.2.2.2.1
 s0:0<=q.2
 s1:q.2<=1048576
theorem ZV {s q now calls gaps} (hs:Ca s) (hS:CB s) (hc:AD s=some 0) (hq:YP s q) (hw:Aa now.1=Aa s.2.1) (hu:As calls) (hg:As gaps) :
 ∃J,Uu s q (Hq s now q.1) calls gaps J/\0<=J.1/\J.1<Aa s.2.2.2.2.1/\0<=J.2/\J.2<=1048576/\Pk (s,(q,(now,(calls,gaps))))=some (J,(ID s J.1,0)):=by
 have h:=sok hs hS;have hm:=hS.shape.p2;obtain⟨p,t⟩:=q;obtain⟨p0,p1,s0,s1⟩:=hq;simp only at p0 p1 s0 s1;have d:∀k,0<=k->k<Aa s.2.2.2.2.1->ES (s,k)=some (ID s k,0):=λk k0 k1=>by rw[Aac hs (λ_=>h) hc];unfold jN<;>simp_all
 have X:GA (s,(now,p))=some (Hq s now p,0):=by rw[j5 hs (λ_=>h) hc];unfold Ti<;>simp_all
 have E:=hS.phased.1 p _ (A7 p0 p1);have a7:=E.min;have a8:=E.max;unfold Pk;simp only;rw[Zzq hc,Zzn (by rfl),Zzn (decide_eq_false (by omega)),Zzn (decide_eq_false (by omega)),Zzn (decide_eq_false (by omega)),Zzn (decide_eq_false (by omega)),Zzn (by simpa using hw),Zzq X];cases hf:Hq s now p with
 |false =>rw[Zzp (by rfl),Zzq (d p p0 p1)];exact ⟨(p,0),⟨λ_=>rfl,λv=>(by cases v),λv=>by cases v⟩,p0,p1,by simp,by simp,rfl⟩
 |true =>
  obtain⟨l,hl,lu,lb⟩:=AcB hm hu;have hd:= decide_eq_true p0;rw[Zzn (by rfl),Zzq (A7 p0 p1),Zzq hl,Zzp hd,Zzp hd,Aj (t+1) (by omega) (by omega),Ds,UF hg p0 (by omega),zJ p0 (by omega)];have Y:=QQ lu (Je p0 (by omega));have y:∀j,0<=j->Aw (Aq .andNot .u32 l ((2 ^ p.toNat:Nat):Int)) j=(decide (j<Aa s.2.2.2.2.1)&&G0 s calls j&&!decide (p=j)):=λj Z=>by rw[S3 lu (Je p0 (by omega)),lb j Z,Nx p0]
  generalize Aq .andNot .u32 l ((2 ^ p.toNat:Nat):Int)=o at Y y ⊢;have g:∀i,1<=i->i<Aa s.2.2.2.2.1->Aw o (DP s p i)=G0 s calls (DP s p i):=λi I i1=>by obtain⟨r0,r1⟩:=fQ p0 p1 (i:=i) (by omega) (by omega);rw[y _ r0,decide_eq_true r1,decide_eq_false λe=>(AbY p0 p1 I i1) e.symm];simp
  have oz:o=0↔∀i,1<=i->i<Aa s.2.2.2.2.1->G0 s calls (DP s p i)=false:=by
   constructor
   ·intro hz i I i1;rw[<-g i I i1,hz,F5]
   ·intro hz;refine Ww Y ⟨by simp,by simp⟩ λj Z j1=>?_;rw[F5,y j Z];by_cases c:j<Aa s.2.2.2.2.1
    ·by_cases e:p=j
     ·simp[e]
     ·obtain⟨i,I,i1,hi,_⟩:=AbX p0 p1 Z c λv=>e v.symm;have:=hz i I i1;rw[hi] at this;simp[this]
    ·simp[c]
  by_cases c:min (t+1) 1048576<(el s.2.2.2.2.1 p).2.1\/Aw gaps p=false/\min (t+1) 1048576<(el s.2.2.2.2.1 p).2.2.1\/∀i,1<=i->i<Aa s.2.2.2.2.1->G0 s calls (DP s p i)=false
  ·refine ⟨(p,min (t+1) 1048576),⟨λv=>(by cases v),λ_ _=>rfl,λ_ hn=>absurd c hn⟩,p0,p1,by simp only;omega,by simp only;omega,?_⟩;rw[Af _ _ ?_,Zzq (d p p0 p1)];rcases c with c|c|c
   ·have:decide ((el s.2.2.2.2.1 p).2.1<=min (t+1) 1048576)=false:=decide_eq_false (by omega);rw[this];rfl
   ·have:decide ((el s.2.2.2.2.1 p).2.2.1<=min (t+1) 1048576)=false:=decide_eq_false (by omega);rw[this,c.1];simp
   ·rw[oz.2 c];simp
  ·have a6:=c;simp only[not_or] at c;obtain⟨c1,c2,c3⟩:=c;have a1:o≠0:=λe=>c3 (oz.1 e);obtain⟨i,I,i1,i2,i3,i4⟩:=tD hS.shape.p1 hm Y p0 p1 λj hj=>by rw[y j (by omega),decide_eq_false (by omega)];rfl (by rw[y p p0];simp) a1;obtain⟨r0,r1⟩:=fQ p0 p1 (i:=i) (by omega) (by omega);refine ⟨(DP s p i,0),⟨λv=>(by cases v),λ_ v=>absurd v a6,λ_ _=>⟨i,I,i1,by rw[<-g i I i1];exact i2,λj Z j1=>by rw[<-g j Z (by omega)];exact i3 j Z j1,rfl⟩⟩,r0,r1,by simp,by simp,?_⟩;rw[Ae _ _ ?_,Zzq i4,Zzq (d _ r0 r1)];rw[decide_eq_true (by omega)];have d2:!o==0=true:=by simp[a1]
   rw[d2];cases cg:Aw gaps p with
   |true=>rfl
   |false =>have:decide ((el s.2.2.2.2.1 p).2.2.1<=min (t+1) 1048576)=true:=decide_eq_true (by apply Qar;intro hn;exact c2 ⟨cg,by omega⟩);rw[this];rfl
def Sn (s:Al):Nat->Int
 |0=>0
 |n+1=>Sn s n+((el s.2.2.2.2.1 (n:Int)).2.2.1+Ad6 s+2)
end Go.Proofs.YtlgpjdjcbincgaaGreatDoor
namespace Go.Proofs.YtlgpjdjcbincgaaGreatDoor
open Go.Den
end Go.Proofs.YtlgpjdjcbincgaaGreatDoor
namespace Go.Proofs.YtlgpjdjcbincgaaGreatDoor
open Go.Den
def Aas (s:Al) (P a:Int):Int :=
 if a<=P then Sn s P.toNat-Sn s a.toNat else Sn s P.toNat+Sn s (Aa s.2.2.2.2.1).toNat-Sn s a.toNat
open Classical in
noncomputable def N8 (s:Al) (P:Int) (q:Mf) (now:Bx) (t:Int):Int :=
 if ZB s now q.1 then Aas s P q.1+(nG s+yL s+1)-((el s.2.2.2.2.1 q.1).2.2.1+Ad6 s+2)+max 0 ((el s.2.2.2.2.1 q.1).2.2.1-1-q.2)
 else Aas s P q.1+(nG s+yL s+1)-t
end Go.Proofs.YtlgpjdjcbincgaaGreatDoor
namespace Go.Proofs.YtlgpjdjcbincgaaGreatDoor.Pn
open Go.Den
def yO (s:Al) (k:Int):Int:=(el s.2.2.2.2.1 k).2.1
def S5 (s:Al) (k:Int):Int:=BN s k-yO s k
structure Af2 (s:Al) (k:Int):Prop where
 min:1<=yO s k/\yO s k<=1048576
 clr:0<=S5 s k/\S5 s k<=1048576
 clear:∀a b,0<=a->a<Aa s.2.1->0<=b->b<Aa s.2.1->inP s k a=true->inP s (Hy s k) b=true->Ci s a b=true->F4 s a b<=S5 s k
theorem AgM {s k} (t:Ca s) (h:CB s) (E:0<=k) (k1:k<Aa s.2.2.2.2.1):Af2 s k:=by
 have v:=A7 E k1;obtain⟨_,pn,m,g,c,Z,n1,n2⟩:=L4 t h.shape h.apart h.phased v;have y:yO s k=(el s.2.2.2.2.1 k).2.1:=rfl;have I:S5 s k=m:=by unfold S5;omega
 have J:=XW t h.shape h.apart c;refine ⟨(h.phased.1 k _ v).min,by omega,λa b a0 d b0 X Y o p=>?_⟩;rw[I];refine c.2.1 a _ a0 d ⟨Y,el s.2.2.1 a,el s.2.2.2.1 a,b,A7 a0 (by rw[h.shape.a];exact d),A7 a0 (by rw[h.shape.b];exact d),p,?_,?_⟩
 ·unfold inP at o;rw[Et g] at o;exact o
 ·exact A7 b0 (by rw[h.shape.rows a _ (A7 a0 (by rw[h.shape.b];exact d))];exact X)
theorem ZV {s k} (d:ShapeOK s) (g:0<=k) (k1:k<Aa s.2.2.2.2.1):HQ (s,k)=some (Hy s k)/\Hy s k=if k+1<Aa s.2.2.2.2.1 then k+1 else 0:=by
 have p1:=d.p1;have p2:=d.p2;constructor
 ·unfold HQ Hy;rw[Zzp (by simp;omega),Aj (k+1) (by omega) (by omega)];rfl
 ·unfold Hy;split
  ·rename_i c;exact Int.tmod_eq_of_lt (by omega) c
  ·have:k+1=Aa s.2.2.2.2.1:=by omega
   rw[this,Int.tmod_self]
def WQ (s:Al) (p:AJ) (k:Nat) (u:Int):Int:=if el p.2.2 (k:Int)-S5 s (k:Int)<=u then Hy s (k:Int) else (k:Int)
theorem AdR {s p t k u} (o:Ca s) (h:CB s) (v:AD s=some 0) (N:SR s p) (y:k<nV s) (d:HA (s,(p,t))=some ((k:Int),(u,0))):FQ (s,(p,t))=some (WQ s p k u,0):=by
 have E:((nV s:Nat):Int)=Aa s.2.2.2.2.1:=rfl;have I:Aa p.2.2=(nV s:Int):=by unfold Aa;rw[N.len]
 have T:=AgM o h (k:=(k:Int)) (by omega) (by omega);have Y:=N.needs k y;have e:=N.ends (k+1) (by omega);have Z:=N.ends k (by omega);have cy:=N.cyc;rw[OA] at e;have g:Io (s,(k:Int))=some (S5 s (k:Int)):=oM o h v (A7 (l:=s.2.2.2.2.1) (i:=(k:Int)) (by omega) (by omega));have J:=T.clr;have X:=T.min;unfold FQ;rw[Zzq d];try simp only
 rw[Af (b:=!(0:Int)==0) _ _ rfl,Zzq (A7 (l:=p.2.2) (i:=(k:Int)) (by omega) (by omega)),Zzq g,Aj (el p.2.2 (k:Int)-S5 s (k:Int)) (by omega) (by omega)];unfold WQ;by_cases c:el p.2.2 (k:Int)-S5 s (k:Int)<=u
 ·rw[Zzp (decide_eq_true c),if_pos c,Zzq (ZV h.shape (by omega) (by omega)).1]
 ·rw[Zzn (decide_eq_false c),if_neg c]
structure OffP (s:Al) (now:Bx) (j a:Int):Prop where
 a0:0<=a
 ended:a<=DL (el now.1 j).2.2
 green:(el now.1 j).1=2->a=0/\(el s.2.1 j).2.1<=DL (el now.1 j).2.1
 yellow:(el now.1 j).1=3->a<=DL (el now.1 j).2.1/\a<=(el s.2.1 j).2.2
theorem OffP.weaken {s now j a b} (h:OffP s now j a) (b0:0<=b) (c:b<=a):OffP s now j b where
 a0:=b0
 ended:=by have:=h.ended;omega
 green:=λe=>⟨by have:=(h.green e).1;omega,(h.green e).2⟩
 yellow:=λe=>by have:=h.yellow e;omega
end Go.Proofs.YtlgpjdjcbincgaaGreatDoor.Pn
namespace Go.Proofs.YtlgpjdjcbincgaaGreatDoor.Pn
open Go.Den
end Go.Proofs.YtlgpjdjcbincgaaGreatDoor.Pn
namespace Go.Proofs.YtlgpjdjcbincgaaGreatDoor.Pn
open Go.Den
end Go.Proofs.YtlgpjdjcbincgaaGreatDoor.Pn
namespace Go.Proofs.YtlgpjdjcbincgaaGreatDoor.Ld
open Go.Den
theorem uZ x (g:Ca x):∃b,F8 x=some b:=by
 unfold F8;rw[AK];split
 ·exact ⟨_,rfl⟩
 ·refine Bn (λa:Option Bool=>∃b,a=some b) (λ_ r=>¬40<Aa r) (some true) _ g.b (λi r h0 hi c=>?_) λi hi=>by simp only[hi,decide_false,AR];rfl (λ_=>?_) λ_=>⟨_,rfl⟩
  ·simp only[hi,decide_true,AL,c,AF];by_cases h:40<Aa r
   ·exact .inr ⟨λd=>d h,by simp only[h,decide_true,AL]⟩
   ·exact .inl ⟨h,by simp only[h,decide_false,AR]⟩
  ·refine Bn (λa:Option Bool=>∃b,a=some b) (λ_ p=>¬40<Aa p.2.2) (some true) (some false) g.q (λi r h0 hi c=>?_) λi hi=>by simp only[hi,decide_false,AR] (λ_=>⟨_,rfl⟩) λ_=>⟨_,rfl⟩;simp only[hi,decide_true,AL,c,AF];by_cases h:40<Aa r.2.2
   ·exact .inr ⟨λd=>d h,by simp only[h,decide_true,AL]⟩
   ·exact .inl ⟨h,by simp only[h,decide_false,AR]⟩
structure Mg (r:Ez):Prop where
 mode:0<=r.1/\r.1<=3
 well:0<=r.2.1/\r.2.1<=1048576
 latched:r.2.2=true->r.1=0/\r.2.1=0
theorem step_eq s r f (c:Mg r):DT (s,(r,f)) =
 if r.2.2=true\/f.2.2.2=false then (0,(0,true)) else
   if Cd (r,f)<=r.1 then (Cd (r,f),(0,false)) else
   if s.2.2.2.2.2.2.2.2.1<=r.2.1+1 then (r.1+1,(0,false)) else (r.1,(r.2.1+1,false)):=by
 obtain⟨g,h,la⟩:=r
 obtain⟨fr,pl,ey,li⟩:=f
 have h1:=c.mode
 have o:=c.well
 have d:=c.latched
 simp only at h1 o d
 unfold DT
 simp only[Ao]
 rw[Aj (h+1) (by omega) (by omega),Oo (g+1) (by omega) (by omega)]
 cases la with
 |true =>have:=d rfl;simp[Cd,cnd,hi2_eq,this.1]
 |false =>
  cases li with
  |false=>simp[Cd,cnd,hi2_eq,h1.1]
  |true =>simp only[Bool.or_false,Qbo,AK,decide_eq_true_eq];simp
theorem Abg r f:0<=Cd (r,f)/\Cd (r,f)<=3:=by unfold Cd;simp only[AK]<;>omega
theorem AfA {s r} f (c:Mg r) (d:s.2.2.2.2.2.2.2.2.1<=1048576):Mg (DT (s,(r,f))):=by
 rw[step_eq s r f c];have h1:=c.mode;have g:=c.well;have o:=Abg r f;split
 ·exact ⟨by simp,by simp,λ_=>⟨rfl,rfl⟩⟩
 ·split
  ·exact ⟨by simp only;omega,by simp,λh=>by simp at h⟩
  ·split
   ·exact ⟨by simp only;omega,by simp,λh=>by simp at h⟩
   ·exact ⟨by simp only;omega,by simp only;omega,λh=>by simp at h⟩
theorem Ael {s r} (p:Ca s) (h1:0<=r.1):∃e,KH (s,r)=some e/\(e=0/\CB s/\Mg r\/e=8/\CB s/\¬Mg r\/e=50/\¬CB s):=by
 obtain⟨e,t,d⟩:=uR p;unfold KH;rw[t];simp only[AF];rcases d with ⟨rfl,d⟩|⟨rfl,d⟩
 ·simp only[beq_self_eq_true,Qbo,AR];rw[AK];split
  ·rename_i h;refine ⟨8,rfl,.inr (.inl ⟨rfl,d,λg=>?_⟩)⟩;have a:=g.mode;have b:=g.well;have c:=g.latched<;>grind
  ·rename_i h;simp only[Qaj,Qab,decide_eq_true_eq,Qal,beq_eq_false_iff_ne,ne_eq,not_or,not_and] at h;exact ⟨0,rfl,.inl ⟨rfl,d,⟨h1,by omega⟩,by omega,λo=>⟨Decidable.not_not.1 (h.2 o).1,Decidable.not_not.1 (h.2 o).2⟩⟩⟩
 ·exact ⟨50,rfl,.inr (.inr ⟨rfl,d⟩)⟩
theorem Au {α A} x (f:α->A):Ao x f=f x:=id rfl
structure AhB (was:Ez) (f:H5) (y:Ez) (heal:Int):Prop where
 may:y.1<=Cd (was,f)
 up:y.1<=was.1+1
 keep:was.2.2=true->y.2.2=true
 dark:f.2.2.2=false->y.2.2=true
 flat:y.2.2=true->y.1=0
 master:y.1=3->f.1=true/\f.2.1=true/\f.2.2.1=true/\f.2.2.2=true
 stored:y.1=2->f.2.1=true/\f.2.2.2=true
 new:y.2.2=true->was.2.2=false->f.2.2.2=false
theorem Ab3 s was f (t:Mg was):AhB was f (DT (s,(was,f))) s.2.2.2.2.2.2.2.2.1:=by
 have d:=step_eq s was f t;have h1:=t.mode;obtain⟨g,o,la⟩:=was;obtain⟨fr,pl,ey,li⟩:=f;have p:=t.latched;simp only at h1 p d;generalize DT (s,((g,o,la),(fr,pl,ey,li)))=y at d ⊢;cases la with
 |true =>have Y:=p rfl;simp at d;subst d;constructor<;>simp[Cd,cnd,hi2_eq]<;>omega
 |false =>
  cases li with
  |false =>simp at d;subst d;constructor<;>simp[Cd,cnd,hi2_eq]<;>omega
  |true =>
   simp only[Qcz,Bool.true_eq_false,or_self,if_false] at d;have J:=Abg (g,o,false) (fr,pl,ey,true);have E:Cd ((g,o,false),(fr,pl,ey,true))=3->fr=true/\pl=true/\ey=true:=by unfold Cd;cases fr<;>cases pl<;>cases ey<;>simp[cnd,hi2_eq]
   have I:2<=Cd ((g,o,false),(fr,pl,ey,true))->pl=true:=by unfold Cd;cases fr<;>cases pl<;>cases ey<;>simp[cnd,hi2_eq]
   generalize v:Cd ((g,o,false),(fr,pl,ey,true))=m at d J E I;have X:y.2.2=false/\y.1<=m/\y.1<=g+1:=by
    rw[d];split
    ·exact ⟨rfl,by simp only;omega,by simp only;omega⟩
    ·split
     ·exact ⟨rfl,by simp only;omega,by simp only;omega⟩
     ·exact ⟨rfl,by simp only;omega,by simp only;omega⟩
   obtain⟨y1,y2,y3⟩:=X;exact ⟨by rw[v];exact y2,y3,λh=>by simp at h,λh=>by simp at h,λh=>(by rw[y1] at h;cases h),λh=>by obtain⟨a,b,c⟩:=E (by omega);exact ⟨a,b,c,rfl⟩,λh=>⟨I (by omega),rfl⟩,λh=>by rw[y1] at h;cases h⟩
end Go.Proofs.YtlgpjdjcbincgaaGreatDoor.Ld
namespace Go.Proofs.YtlgpjdjcbincgaaGreatDoor.Ld
open Go.Den
theorem Abs {s r} f (c:Ca s) (d:CB s) (g:Mg r):Ja (s,(r,f))=some (DT (s,(r,f)),0):=by
 obtain⟨e,h1,o⟩:=Ael c g.mode.1;have h:e=0:=by simp_all
 subst h;unfold Ja;simp only[h1,AF,beq_self_eq_true,Qbo,AR];rfl
theorem lT {s} {e:Int} (c:e=0/\CB s\/e=50/\¬CB s) (h:e=0):CB s:=by simp_all
end Go.Proofs.YtlgpjdjcbincgaaGreatDoor.Ld
namespace Go.Proofs.YtlgpjdjcbincgaaGreatDoor.Ld
open Go.Den
def Ik (s:Al) (l:List Int):Int:=if Aa l=Aa s.2.1 then if ∀a∈l,a<=4 then 0 else 2 else 4
theorem nH {s l} (d:l.length<=maxLen):Lm (s,l)=some (Ik s l):=by
 unfold Lm Ik;rw[AK];split
 ·simp_all
 ·rename_i h;rw[if_pos (by simpa using h)];have conv:(∀a∈l,a<=4)↔∀i a,idx l i=some a->a<=4:=⟨λh i a c=>h a (Ag c).2.2,λh a c=>by obtain⟨i,hi⟩:=BZ c<;>grind⟩
  refine Bn (λa:Option Int=>a=some (if ∀a∈l,a<=4 then 0 else 2)) (λ_ a=>a<=4) (some 2) (some 0) d (λi a h0 hi c=>?_) λi hi=>by simp[hi,cnd,hi2_eq] λh=>by rw[if_pos (conv.2 h)] (λh=>by rw[if_neg λg=>h (conv.1 g)]);simp only[hi,decide_true,AL,c,AF];by_cases h4:4<a
  ·exact .inr ⟨by omega,by simp only[h4,decide_true,AL]⟩
  ·exact .inl ⟨by omega,by simp only[h4,decide_false,AR]⟩
theorem lightE_ok {s l}:Ik s l=0↔Aa l=Aa s.2.1/\∀a∈l,a<=4:=by unfold Ik<;>grind
def Li (s:Al) (lit seen:List Int):Bool×Int :=
 if Ik s lit≠0 then (false,Ik s lit) else
 if Aa seen=0 then (false,0) else
 if Ik s seen≠0 then (false,Ik s seen) else (decide (lit≠seen),0)
theorem AfR {s} {lit seen} (E:lit.length<=maxLen) (o:seen.length<=maxLen):Mp (s,(lit,seen))=some (Li s lit seen):=by
 unfold Mp;refine Db (λk=>k=0\/k=1/\Ik s lit=0\/k=2/\Ik s lit=0/\(Aa seen=0\/Ik s seen=0)) (λk=>(2-k).toNat) (λa=>a=some (Li s lit seen)) ?_ Am 0 (.inl rfl) (by rw[Eh];simp);rintro k (rfl|⟨rfl,h1⟩|⟨rfl,h1,c⟩)
 ·have p:decide ((0:Int)<Aa (lit::seen::[]))=true:=rfl;have t:idx (lit::seen::[]) (0:Int)=some lit:=rfl;have e3:((0:Int)==1&&Aa lit==0)=false:=rfl;simp only[p,AL,t,AF,e3,AR,nH E];by_cases h:Ik s lit=0
  ·simp only[h,beq_self_eq_true,Qbo,AR];exact ⟨.inr (.inl ⟨rfl,by first|exact h|trivial⟩),by decide⟩
  ·simp only[beq_false_of_ne h,Qbl,AL];show _ = _;unfold Li;simp_all
 ·have p:decide ((1:Int)<Aa (lit::seen::[]))=true:=rfl;have t:idx (lit::seen::[]) (1:Int)=some seen:=rfl;simp only[p,AL,t,AF,beq_self_eq_true,Qap];by_cases d:Aa seen=0
  ·simp only[d,beq_self_eq_true,AL];exact ⟨.inr (.inr ⟨rfl,h1,by first|exact .inl d|exact .inl trivial⟩),by decide⟩
  ·simp only[beq_false_of_ne d,AR,nH o,AF];by_cases h:Ik s seen=0
   ·simp only[h,beq_self_eq_true,Qbo,AR];exact ⟨.inr (.inr ⟨rfl,h1,by first|exact .inr h|exact .inr trivial⟩),by decide⟩
   ·simp only[beq_false_of_ne h,Qbl,AL];show _ = _;unfold Li<;>simp_all
 ·have p:decide ((2:Int)<Aa (lit::seen::[]))=false:=rfl;simp only[p,AR];show iter _ _ _ _ = _;have y:=(lightE_ok.1 h1).1;refine Bn (λa:Option (Bool×Int)=>a=some (Li s lit seen)) (λi a=>idx lit i=some a) (some (true,0)) (some (false,0)) o (λi a h0 hi g=>?_) λi hi=>by simp[hi,cnd,hi2_eq] (λh=>?_) λh=>?_
  ·have Y:Aa seen=Aa s.2.1:=by
    rcases c with c|c
    ·omega
    ·exact (lightE_ok.1 c).1
   obtain⟨b,I,_⟩:=Ai (l:=lit) h0 (by omega);simp only[hi,decide_true,AL,g,AF,I];by_cases e:b=a
   ·subst e;exact .inl ⟨rfl,by simp only[beq_self_eq_true,Qbo,AR]⟩
   ·exact .inr ⟨λJ=>e (Qag J),by simp only[beq_false_of_ne e,Qbl,AL]⟩
  ·unfold Li;rw[if_neg (by simp[h1])];split
   ·rfl
   ·rename_i d;have c:=c.resolve_left d;rw[if_neg (by simp[c])];have:lit=seen:=Eg (by have:=(lightE_ok.1 c).1;omega) λj X Z=>by obtain⟨a,g,_⟩:=Ai (l:=seen) X (by have:=(lightE_ok.1 c).1;omega);rw[g];exact h j a g
    simp[this]
  ·unfold Li;rw[if_neg (by simp[h1])];have v:seen≠[]:=λe=>h (λi a g=>by subst e;have:=Ag g;exact absurd this.2.2 (by simp));have d:¬Aa seen=0:=by
    unfold Aa;cases seen with
    |nil=>exact absurd rfl v
    |cons=>simp;omega
   rw[if_neg d];rw[if_neg (by simp[c.resolve_left d])];have:lit≠seen:=λe=>h (λi a g=>by rw[e];exact g);simp[this]
theorem eF {s n e} (h:AD s=some e):Ie (s,n)=some (if e≠0 then e else if n<0\/1048576<n then 2 else 0):=by unfold Ie;simp only[h,AF,AK]<;>grind
def WK (e:Int) (s:Al) (n:Int) (lit seen:List Int):Int×Int :=
 if e≠0 then (0,e) else if n<0\/1048576<n then (0,2) else
 if (Li s lit seen).2≠0\/(Li s lit seen).1=false then (0,(Li s lit seen).2) else (min (n+1) 1048576,0)
theorem wU {s n e} {lit seen} (h:AD s=some e) (d:lit.length<=maxLen) (c:seen.length<=maxLen):N0 (s,(n,(lit,seen)))=some (WK e s n lit seen):=by
 unfold N0 WK;simp only[eF h,AF,AfR d c];by_cases h0:e=0
 ·subst h0;simp only[ne_eq,not_true,if_false];by_cases h1:n<0\/1048576<n
  ·simp only[if_pos h1];rfl
  ·simp only[if_neg h1,beq_self_eq_true,Qbo,AR];rw[AK,Ds,Aj (n+1) (by omega) (by omega)]<;>grind
 ·simp only[ne_eq,h0,not_false_iff,if_true,beq_false_of_ne h0,Qbl,AL]
def ZL (e:Int) (s:Al) (n:Int):Bool×Int :=
 if e≠0 then (false,e) else if n<0\/1048576<n then (false,2) else (decide (s.2.2.2.2.2.2.2.1<=n),0)
theorem AeY {s n e} (h:AD s=some e):KD (s,n)=some (ZL e s n):=by
 unfold KD ZL;simp only[eF h,AF];by_cases h0:e=0
 ·subst h0;simp only[ne_eq,not_true,if_false];by_cases h1:n<0\/1048576<n
  ·simp only[if_pos h1];rfl
  ·simp only[if_neg h1,beq_self_eq_true,Qbo,AR]
 ·simp only[ne_eq,h0,not_false_iff,if_true,beq_false_of_ne h0,Qbl,AL]
end Go.Proofs.YtlgpjdjcbincgaaGreatDoor.Ld
namespace Go.Proofs.YtlgpjdjcbincgaaGreatDoor.Ey
open Go.Den
structure Wq (x:Bl):Prop where
 same:0<=x.2.1/\x.2.1<=1048576
 well:0<=x.2.2.2.2/\x.2.2.2.2<=1048576
 sick:x.2.2.2.1=true\/x.2.2.2.2=0
theorem cZ x:FY x=true↔Wq x:=by unfold FY;rw[Ds,ED];simp only[Qab,Qaj,decide_eq_true_eq,beq_iff_eq];exact ⟨λh=>⟨by omega,by omega,h.2⟩,λh=>⟨by have:=h.same;have:=h.well;omega,h.sick⟩⟩
def Adg (x:Bl) (up:Bool):Int:=if up=x.1 then A9 .u64 x.2.2.1 1 else Aq .or .u64 (A9 .u64 x.2.2.1 1) 1
def dD (x:Bl) (up:Bool):Int:=if up=x.1 then min (x.2.1+1) 1048576 else 1
def AgA (e:YF) (up:Bool) (same t:Int):Bool:=up&&decide (e.2.1<=same)||!up&&decide (e.2.2.1<=same)||decide (e.2.2.2<Pa t)
def Po (s:Al) (e:YF) (x:Bl) (up:Bool):Bl :=
 (up,dD x up,Adg x up,
   if AgA e up (dD x up) (Adg x up)=true then (true,0) else
   if x.2.2.2.1=true then if s.2.2.2.2.2.2.2.2.1<=x.2.2.2.2+1 then (false,0) else (true,x.2.2.2.2+1) else (false,x.2.2.2.2))
theorem AgY {s i x up e} (h:idx s.2.2.2.2.2.1 i=some e) (d:Wq x):Pc (s,(i,(x,up)))=some (Po s e x up):=by
 obtain⟨u,g,t,b,w⟩:=x;have h1:=d.same;have o:=d.well;simp only at h1 o;unfold Pc Po AgA dD Adg;simp only[h,AF,Ao];rw[Aj (g+1) (by omega) (by omega),Aj (w+1) (by omega) (by omega),Ds,Ds];have p:∀z,GJ z=Pa z:=λz=>rfl;simp only[p,show min (1:Int) 1048576=1 by decide];by_cases c:up=u
 ·subst c;simp only[beq_self_eq_true,Qbo,AR,if_true];generalize min (g+1) 1048576=n;generalize A9 .u64 t 1=m;cases up with
  |true =>
   by_cases c1:e.2.1<=n
   ·simp[c1,cnd,hi2_eq]
   ·by_cases c2:e.2.2.2<Pa m
    ·simp[c1,c2,cnd,hi2_eq]
    ·cases b with
     |false=>simp[c1,c2,cnd,hi2_eq]
     |true=>by_cases c3:s.2.2.2.2.2.2.2.2.1<=w+1<;>simp[c1,c2,c3,cnd,hi2_eq]
  |false =>
   by_cases c1:e.2.2.1<=n
   ·simp[c1,cnd,hi2_eq]
   ·by_cases c2:e.2.2.2<Pa m
    ·simp[c1,c2,cnd,hi2_eq]
    ·cases b with
     |false=>simp[c1,c2,cnd,hi2_eq]
     |true=>by_cases c3:s.2.2.2.2.2.2.2.2.1<=w+1<;>simp[c1,c2,c3,cnd,hi2_eq]
 ·simp only[beq_false_of_ne c,Qbl,AL,c,if_false];generalize Aq .or .u64 (A9 .u64 t 1) 1=m;cases up with
  |true =>
   by_cases c1:e.2.1<=1
   ·simp[c1,cnd,hi2_eq]
   ·by_cases c2:e.2.2.2<Pa m
    ·simp[c1,c2,cnd,hi2_eq]
    ·cases b with
     |false=>simp[c1,c2,cnd,hi2_eq]
     |true=>by_cases c3:s.2.2.2.2.2.2.2.2.1<=w+1<;>simp[c1,c2,c3,cnd,hi2_eq]
  |false =>
   by_cases c1:e.2.2.1<=1
   ·simp[c1,cnd,hi2_eq]
   ·by_cases c2:e.2.2.2<Pa m
    ·simp[c1,c2,cnd,hi2_eq]
    ·cases b with
     |false=>simp[c1,c2,cnd,hi2_eq]
     |true=>by_cases c3:s.2.2.2.2.2.2.2.2.1<=w+1<;>simp[c1,c2,c3,cnd,hi2_eq]
theorem vH {n:Nat} (c:n<2 ^ 64):A9 .u64 (n:Int) 1=((2*n%2 ^ 64:Nat):Int)/\2*n%2 ^ 64<2 ^ 64/\2*n%2 ^ 64%2=0:=by refine ⟨AdH c,Qfp _ (by decide),?_⟩<;>omega
theorem AgW {n:Nat} (c:n<2 ^ 64):Aq .or .u64 (A9 .u64 (n:Int) 1) 1=((2*n%2 ^ 64+1:Nat):Int)/\2*n%2 ^ 64+1<2 ^ 64:=by obtain⟨h1,d,g⟩:=vH c;have h4:Aq .or .u64 ((2*n%2 ^ 64:Nat):Int) 1=((2*n%2 ^ 64 ||| 1:Nat):Int):=oL d (by decide);rw[h1,h4,AgI g]<;>omega
theorem AdL {s:Al} {e:YF} {x:Bl} (up:Bool) (d:Wq x) (o:s.2.2.2.2.2.2.2.2.1<=1048576):Wq (Po s e x up)/\(Po s e x up).1=up/\1<=(Po s e x up).2.1:=by
 have h1:=d.same;have p:=d.well;have c:=d.sick;have g:1<=dD x up/\dD x up<=1048576:=by unfold dD;split<;>omega
 unfold Po;refine ⟨⟨by simp only;omega,?_,?_⟩,rfl,g.1⟩
 ·simp only;repeat' split
  all_goals simp only;omega
 ·simp only;split
  ·exact .inl rfl
  ·split
   ·split
    ·exact .inr rfl
    ·exact .inl rfl
   ·rename_i h;right;rcases c with c|c
    ·exact absurd c h
    ·exact c
theorem AfS:Wq (false,(0,(0,(false,0)))):=⟨by simp,by simp,.inr rfl⟩
end Go.Proofs.YtlgpjdjcbincgaaGreatDoor.Ey
namespace Go.Proofs.YtlgpjdjcbincgaaGreatDoor.Ey
open Go.Den
def Fu (e:Int) (s:Al) (l:List Bl):Int :=
 if e≠0 then e else if Aa l≠Aa s.2.2.2.2.2.1 then 4 else if ∀x∈l,FY x=true then 0 else 8
theorem Ac9 {l} (o:l.length<=maxLen):iter none (λd:Int =>
 cnd (decide (d<Aa l))
(Ad (idx l d) (.done none) λp =>
 Ao (FY p) λy =>
 cnd (!y)
(.done (some 8))
(.next (wr .i64 (d+1))))
(.done (some (0:Int)))) Am 0=some (if ∀x∈l,FY x=true then 0 else 8):=by
 have conv:(∀x∈l,FY x=true)↔∀i x,idx l i=some x->FY x=true:=⟨λh i a g=>h a (Ag g).2.2,λh a g=>by obtain⟨i,hi⟩:=BZ g<;>grind⟩
 refine Bn (λa:Option Int=>a=some (if ∀x∈l,FY x=true then 0 else 8)) (λ_ x=>FY x=true) (some 8) (some 0) o (λi x h0 hi t=>?_) λi hi=>by simp[hi,cnd,hi2_eq] λh=>by rw[if_pos (conv.2 h)] λh=>by rw[if_neg λv=>h (conv.1 v)]
 rw[Zzp (decide_eq_true hi),Zzq t,Au]
 cases c:FY x with
 |true=>exact .inl ⟨rfl,rfl⟩
 |false=>exact .inr ⟨by simp,rfl⟩
theorem eB {s l e} (h:AD s=some e) (c:l.length<=maxLen):K4 (s,l)=some (Fu e s l):=by
 unfold K4 Fu;rw[Zzq h];by_cases h0:e=0
 ·subst h0;rw[Zzn (by rfl),if_neg (by simp)];by_cases h1:Aa l=Aa s.2.2.2.2.2.1
  ·rw[Zzn (by simpa using h1),if_neg (by simpa using h1)];exact Ac9 c
  ·rw[Zzp (by simpa using h1),if_pos h1]
 ·rw[Zzp (by simp[h0]),if_pos h0]
theorem PA {e s l} (h:Fu e s l=0):e=0/\Aa l=Aa s.2.2.2.2.2.1/\∀x∈l,Wq x:=by
 unfold Fu at h;split at h
 ·omega
 ·rename_i h0;split at h
  ·cases h
  ·rename_i h1;split at h
   ·rename_i c;exact ⟨Decidable.not_not.1 h0,Decidable.not_not.1 h1,λx d=>(cZ x).1 (c x d)⟩
   ·cases h
structure Us (s:Al):Prop where
 n:Aa s.2.2.2.2.2.1<=24
 p1:1<=Aa s.2.2.2.2.1
 p2:Aa s.2.2.2.2.1<=8
 eyes:∀i e,idx s.2.2.2.2.2.1 i=some e->0<=e.1/\e.1<=Aa s.2.2.2.2.1-1
 heal:1<=s.2.2.2.2.2.2.2.2.1/\s.2.2.2.2.2.2.2.2.1<=1048576
theorem mO {s} (h:CB s):Us s:=⟨h.shape.e,h.shape.p1,h.shape.p2,λi e c=>(h.eyed i e c).phase,h.timed.heal⟩
def C4 (s:Al) (c:Int) (l:List Bl):List Bl:=l.mapIdx λi x=>Po s (el s.2.2.2.2.2.1 (i:Int)) x (Aw c i)
theorem mY {s c l i x} (h:idx l i=some x):idx (C4 s c l) i=some (Po s (el s.2.2.2.2.2.1 i) x (Aw c i)):=by have h0:=(Ag h).1;unfold C4;rw[Pe h0,h,Qai,show ((i.toNat:Nat):Int)=i by omega]
def wN (e:Int) (s:Al) (c:Int) (l:List Bl):List Bl×Int:=if Fu e s l≠0 then ([],Fu e s l) else (C4 s c l,0)
theorem Aei {s l e d} (g:e=0->Us s) (h:AD s=some e) (hl:Aa l<=1000) (hu:As d):QX (s,(l,d))=some (wN e s d l):=by
 have E:l.length<=maxLen:=by unfold Aa at hl;unfold maxLen;omega
 unfold QX wN;rw[Zzq (eB h E)];by_cases h0:Fu e s l=0
 ·obtain⟨rfl,h1,h2⟩:=PA h0;have g:=g rfl;have I:=Ak l;rw[h0,Zzn (by rfl),if_neg (by simp),Zzp (C6 I (by omega))];refine Ap (λz:Int×List Bl=>z.1) (Aa l) (λz=>Aa z.2=Aa l/\∀j,0<=j->j<z.1->idx z.2 j=idx (C4 s d l) j) (λa=>a=some (C4 s d l,(0:Int))) (by omega) (by simp) I ⟨AM I _,λj t v=>absurd v (by omega)⟩ (λz J o i1=>?_) λz J hz=>?_
  ·obtain⟨i,out⟩:=z;obtain⟨c,p⟩:=J;simp only at o i1 c p;obtain⟨x,Y,X⟩:=Ai o i1;obtain⟨y,Z,_⟩:=Ai (l:=out) o (by omega);simp only;rw[Zzp (by simpa using i1),Zzq Y,Au,Of hu,Zzq (AgY (A7 o (by omega)) (h2 x X)),Zzq Z,Zzq Z,Aj (i+1) (by omega) (by omega)];refine ⟨rfl,by simp only;rw[AN];exact c,λj t v=>?_⟩;simp only at v ⊢;rw[By o (by omega)];split
   ·rename_i e;rw[e,mY Y]
   ·exact p j t (by omega)
  ·obtain⟨i,out⟩:=z;obtain⟨c,p⟩:=J;simp only at hz c p;simp only;rw[Zzn (show decide (i<Aa l)=false by simp;omega)];show some (out,(0:Int)) = _;have:= Eg (by unfold C4;rw[HO];exact c) λj t v=>p j t (by omega);rw[this]
 ·rw[Zzp (by simp[h0]),if_pos h0]
def AdX (s:Al) (l:List Bl):Prop:=∀i e x,idx s.2.2.2.2.2.1 i=some e->idx l i=some x->∃k c d,idx s.2.2.2.2.2.1 k=some c/\idx l k=some d/\c.1=e.1/\d.2.2.2.1=false
theorem Z7 {m i} (c:As m) (h0:0<=i) (h1:i<=31):As (FR (m,i))/\∀j,Aw (FR (m,i)) j=(Aw m j||decide (i=j)):=by
 have e:FR (m,i)=Aq .or .u32 m ((2 ^ i.toNat:Nat):Int):=by unfold FR;rw[Au,RS h0 h1]
 rw[e];exact ⟨ZY c (Je h0 h1),λj=>by rw[Ze c (Je h0 h1),Nx h0]⟩
theorem qL {s l e} (v:e=0->Us s) (h:AD s=some e) (hl:Aa l<=1000) :
 ∃b,Mv (s,l)=some (if Fu e s l≠0 then (false,Fu e s l) else (b,0))/\(Fu e s l=0->(b=true↔AdX s l)):=by
 have a6:l.length<=maxLen:=by unfold Aa at hl;unfold maxLen;omega
 unfold Mv;rw[Zzq (eB h a6)];by_cases h0:Fu e s l=0
 ·obtain⟨rfl,h1,h2⟩:=PA h0;have v:=v rfl;rw[h0,Zzn (by rfl)];simp only[ne_eq,not_true,if_false,true_implies];refine Ap (λz:Int×Int×Int=>z.2.2) (Aa l) (λz=>As z.1/\As z.2.1/\(∀p,Aw z.1 p=true↔∃j e x,j<z.2.2/\idx s.2.2.2.2.2.1 j=some e/\idx l j=some x/\e.1=p)/\∀p,Aw z.2.1 p=true↔∃j e x,j<z.2.2/\idx s.2.2.2.2.2.1 j=some e/\idx l j=some x/\e.1=p/\x.2.2.2.1=false)
   (λa:Option (Bool×Int)=>∃b,a=some (b,0)/\(b=true↔AdX s l)) (by omega) (by simp) (Ak l) ⟨⟨by simp,by simp⟩,⟨by simp,by simp⟩,λp=>?_,λp=>?_⟩ (λz hI i0 i1=>?_) λz hI hz=>?_
  ·simp only[F5];exact ⟨λh=>(by cases h),λ⟨j,e,x,h1,h2,_⟩=>by have:=(Ag h2).1;omega⟩
  ·simp only[F5];exact ⟨λh=>(by cases h),λ⟨j,e,x,h1,h2,_⟩=>by have:=(Ag h2).1;omega⟩
  ·obtain⟨m,n,i⟩:=z;obtain⟨Y,I,J,h4⟩:=hI;simp only at i0 i1 Y I J h4;obtain⟨x,X,_⟩:=Ai i0 i1;obtain⟨ey,he,_⟩:=Ai (l:=s.2.2.2.2.2.1) i0 (by omega);have Z:=v.eyes i ey he;have a8:=v.p2;obtain⟨a1,a2⟩:=Z7 Y Z.1 (by omega);obtain⟨b1,b2⟩:=Z7 I Z.1 (by omega);have key:∀p,Aw (FR (m,ey.1)) p=true↔∃j e x,j<i+1/\idx s.2.2.2.2.2.1 j=some e/\idx l j=some x/\e.1=p:=λp=>by
    rw[a2,Qaj,J,decide_eq_true_eq];constructor
    ·grind
    grind
   simp only;rw[Zzp (by simpa using i1),Zzq X,Zzq he,Au,Au,Aj (i+1) (by omega) (by omega)];have hb:JT x=!x.2.2.2.1:=rfl;rw[hb];cases c:x.2.2.2.1 with
   |false =>
    rw[Zzp (by rfl),Au];refine ⟨rfl,a1,b1,key,λp=>?_⟩;show Aw (FR (n,ey.1)) p=true↔_;rw[b2,Qaj,h4,decide_eq_true_eq];constructor
    ·rintro (⟨j,e,d,E,q⟩|q)
     ·exact ⟨j,e,d,by simp only;omega,q⟩
     ·exact ⟨i,ey,x,by simp only;omega,he,X,q,c⟩
    ·rintro⟨j,e,d,E,g,o,t,y⟩;by_cases ej:j=i
     ·subst ej;rw[he] at g;cases g;exact .inr t
     ·exact .inl ⟨j,e,d,by simp only at E;omega,g,o,t,y⟩
   |true =>
    rw[Zzn (by rfl)];refine ⟨rfl,a1,I,key,λp=>?_⟩;show Aw n p=true↔_;rw[h4];constructor
    ·rintro⟨j,e,d,E,q⟩;exact ⟨j,e,d,by simp only;omega,q⟩
    ·rintro⟨j,e,d,E,g,o,t,y⟩;by_cases ej:j=i
     ·subst ej;rw[X] at o;cases o;rw[c] at y;cases y
     ·exact ⟨j,e,d,by simp only at E;omega,g,o,t,y⟩
  ·obtain⟨m,n,i⟩:=z;obtain⟨Y,I,J,h4⟩:=hI;simp only at hz Y I J h4;simp only;rw[Zzn (show decide (i<Aa l)=false by simp;omega)];refine ⟨_,rfl,?_⟩;rw[beq_iff_eq];constructor
   ·intro a7 j e x hj X;have:=(J e.1).2 ⟨j,e,x,by have:=(Ag X).2.1;omega,hj,X,rfl⟩;rw[a7] at this;obtain⟨k,e',d,_,g,o,t,y⟩:=(h4 e.1).1 this;exact ⟨k,e',d,g,o,t,y⟩
   ·intro hw;refine Ww Y I λp _ _=>?_;apply Bool.eq_iff_iff.2;rw[J,h4];constructor
    ·rintro⟨j,e,x,_,g,o,t⟩;obtain⟨k,e',d,y,q5,q6,q7⟩:=hw j e x g o;exact ⟨k,e',d,by have:=(Ag q5).2.1;omega,y,q5,by rw[q6,t],q7⟩
    ·rintro⟨j,e,x,E,g,o,t,_⟩;exact ⟨j,e,x,E,g,o,t⟩
 ·rw[Zzp (by simp[h0])];exact ⟨false,by rw[if_pos h0],λh=>absurd h h0⟩
end Go.Proofs.YtlgpjdjcbincgaaGreatDoor.Ey
namespace Go.Proofs.YtlgpjdjcbincgaaGreatDoor.Ey
open Go.Den
end Go.Proofs.YtlgpjdjcbincgaaGreatDoor.Ey
namespace Go.Proofs.YtlgpjdjcbincgaaGreatDoor.Ey
open Go.Den
theorem Gj {σ A} k (body:(σ->A)->A):CT k body=body k:=id rfl
def Uq (s:Al) (l:List Bl) (p:Int):Prop :=
 (∃ph,idx s.2.2.2.2.1 p=some ph/\ph.2.2.2.2=true)\/∃i e x,idx s.2.2.2.2.2.1 i=some e/\idx l i=some x/\e.1=p/\JU x=true
theorem jY {m i} (c:As m) (h0:0<=i) (h1:i<=31):As (Aq .or .u32 m (A9 .u32 1 i))/\∀j,Aw (Aq .or .u32 m (A9 .u32 1 i)) j=(Aw m j||decide (i=j)):=by rw[zJ h0 h1];exact ⟨ZY c (Je h0 h1),λj=>by rw[Ze c (Je h0 h1),Nx h0]⟩
theorem Aci {m g} (d:As m):As (C1 (m,g))/\∀p,Aw (C1 (m,g)) p=(Aw m p&&!decide (g=p)):=by
 by_cases h:0<=g/\g<=31
 ·rw[MU h.1 h.2];exact S6 d h.1 h.2
 ·have o:Ew g=0:=by unfold Ew;rw[AK,if_pos (by simp;omega)]
  have e:C1 (m,g)=Aq .andNot .u32 m 0:=by unfold C1;rw[Au,o]
  have z:As 0:=⟨by decide,by decide⟩;rw[e];refine ⟨QQ d z,λp=>?_⟩;rw[S3 d z,F5];by_cases c:g=p
  ·subst c;have:Aw m g=false:=by
    by_cases t:g<0
    ·exact Wx t
    ·exact PY d (by omega)
   rw[this];rfl
  ·simp[c]
theorem AgQ {s l e} (g:e=0->Us s) (h:AD s=some e) (hl:Aa l<=1000) :
 ∃c,N3 (s,l)=some (if Fu e s l≠0 then (0,Fu e s l) else (c,0))/\(Fu e s l=0->As c/\∀p,Aw c p=true↔Uq s l p):=by
 obtain⟨w,w1,_⟩:=qL g h hl;unfold N3;rw[Zzq w1];by_cases h0:Fu e s l=0
 ·obtain⟨rfl,k1,k2⟩:=PA h0;have g:=g rfl;have a6:=g.p2;rw[h0,if_neg (by simp),Zzn (by rfl)];simp only[ne_eq,not_true,if_false,true_implies];refine Ap (λz:Int×Int=>z.2) (Aa s.2.2.2.2.1) (λz=>As z.1/\∀p,Aw z.1 p=true↔p<z.2/\∃ph,idx s.2.2.2.2.1 p=some ph/\ph.2.2.2.2=true) (λa:Option (Int×Int)=>∃c,a=some (c,0)/\As c/\∀p,Aw c p=true↔Uq s l p) (by omega) (by simp) (Ak _) ⟨⟨by simp,by simp⟩,λp=>?_⟩ (λz I y i1=>?_) λz I hz=>?_
  ·simp only[F5];exact ⟨λh=>(by cases h),λ⟨E,ph,q,_⟩=>by have:=(Ag q).1;omega⟩
  ·obtain⟨m,i⟩:=z;obtain⟨d,o⟩:=I;simp only at y i1 d o;obtain⟨ph,t,_⟩:=Ai y i1;simp only;rw[Zzp (decide_eq_true i1),Zzq t,Aj (i+1) (by omega) (by omega)];cases c:ph.2.2.2.2 with
   |true =>obtain⟨a1,a2⟩:=jY d y (by omega);rw[Zzp rfl,Zzp (decide_eq_true y)];refine ⟨rfl,a1,λp=>?_⟩<;>grind
   |false =>rw[Zzn rfl];refine ⟨rfl,d,λp=>?_⟩<;>grind
  ·obtain⟨m,i⟩:=z;obtain⟨d,o⟩:=I;simp only at hz d o;simp only;rw[Zzn (show decide (i<Aa s.2.2.2.2.1)=false by simp;omega)];show ∃c,iter _ _ _ _ = some (c,0)/\As c/\∀p,Aw c p=true↔Uq s l p;refine Ap (λz:Int×Int=>z.2) (Aa l) (λz=>As z.1/\∀p,Aw z.1 p=true↔(∃ph,idx s.2.2.2.2.1 p=some ph/\ph.2.2.2.2=true)\/∃j e x,j<z.2/\idx s.2.2.2.2.2.1 j=some e/\idx l j=some x/\e.1=p/\JU x=true) (λa:Option (Int×Int)=>∃c,a=some (c,0)/\As c/\∀p,Aw c p=true↔Uq s l p) (by omega) (by simp) (Ak _) ⟨d,λp=>?_⟩ (λz I y i1=>?_) λz I hz=>?_
   ·show Aw m p=true↔_;rw[λp=>(o p).trans ⟨λq=>q.2,λq=>⟨by obtain⟨ph,v,_⟩:=q;have:=(Ag v).2.1;omega,q⟩⟩];exact ⟨.inl,λq=>q.elim id λ⟨j,e,x,E,v,_⟩=>by have:=(Ag v).1;simp only at E;omega⟩
   ·obtain⟨m,i⟩:=z;obtain⟨d,o⟩:=I;simp only at y i1 d o;obtain⟨x,hx,_⟩:=Ai y i1;obtain⟨ey,Z,_⟩:=Ai (l:=s.2.2.2.2.2.1) y (by omega);have t:=g.eyes i ey Z;simp only;rw[Zzp (decide_eq_true i1),Zzq hx,Au,Aj (i+1) (by omega) (by omega)];cases c:JU x with
    |true =>
     obtain⟨a1,a2⟩:=jY d t.1 (by omega);rw[Zzp rfl,Zzq Z,Zzp (decide_eq_true t.1)];refine ⟨rfl,a1,λp=>?_⟩;show Aw (Aq .or .u32 m (A9 .u32 1 ey.1)) p=true↔_;rw[a2,Qaj,o,decide_eq_true_eq];constructor
     ·rintro ((q|⟨j,e,J,E,q⟩)|q)
      ·exact .inl q
      ·exact .inr ⟨j,e,J,by simp only;omega,q⟩
      ·exact .inr ⟨i,ey,x,by simp only;omega,Z,hx,q,c⟩
     ·rintro (q|⟨j,e,J,E,v,X,q3,Y⟩)
      ·exact .inl (.inl q)
      ·by_cases ej:j=i
       ·subst ej;rw[Z] at v;cases v;exact .inr q3
       ·exact .inl (.inr ⟨j,e,J,by simp only at E;omega,v,X,q3,Y⟩)
    |false =>
     rw[Zzn rfl];refine ⟨rfl,d,λp=>?_⟩;show Aw m p=true↔_;rw[o];refine or_congr_right ⟨λ⟨j,e,J,E,q⟩=>⟨j,e,J,by simp only;omega,q⟩,λ⟨j,e,J,E,v,X,q3,Y⟩=>?_⟩;by_cases ej:j=i
     ·subst ej;rw[hx] at X;cases X;rw[c] at Y;cases Y
     ·exact ⟨j,e,J,by simp only at E;omega,v,X,q3,Y⟩
   ·obtain⟨m,i⟩:=z;obtain⟨d,o⟩:=I;simp only at hz d o;simp only;rw[Zzn (show decide (i<Aa l)=false by simp;omega)];refine ⟨m,rfl,d,λp=>(o p).trans (or_congr_right ⟨λ⟨j,e,x,_,q⟩=>⟨j,e,x,q⟩,λ⟨j,e,x,q⟩=>⟨j,e,x,?_,q⟩⟩)⟩;have:=(Ag q.2.1).2.1;omega
 ·rw[if_pos h0,Zzp (by simp[h0])];exact ⟨0,by rw[if_pos h0],λh=>absurd h h0⟩
def S0 (s:Al) (c ph:Int):Int:=if AH .u32 c (Aa s.2.2.2.2.1)≠0 then 8 else if ph < -1\/Aa s.2.2.2.2.1<=ph then 2 else 0
theorem Aga s c ph:Ms (s,(c,ph))=some (S0 s c ph):=by
 unfold Ms S0;rw[Zzp (decide_eq_true (Ak _))];by_cases h:AH .u32 c (Aa s.2.2.2.2.1)=0
 ·rw[Zzn (by simpa using h),if_neg (by simpa using h),AK]<;>grind
 ·rw[Zzp (by simpa using h),if_pos h]
def Uu (s:Al) (l:List Bl) (c g n:Int):Prop:=As n/\∀p,Aw n p=true↔p≠g/\(Aw c p=true\/Uq s l p)
theorem Zj {s l e c g} (d:e=0->Us s) (h:AD s=some e) (v:Aa l<=1000) (o:As c) :
 ∃n,HH (s,(c,(l,g)))=some (if Fu e s l≠0 then (0,Fu e s l) else if S0 s c g≠0 then (0,S0 s c g) else (n,0))/\(Fu e s l=0->Uu s l c g n):=by
 obtain⟨r,r1,r2⟩:=AgQ d h v;unfold HH;rw[Zzq r1];by_cases h0:Fu e s l=0
 ·obtain⟨t,y⟩:=r2 h0;rw[if_neg (by simp[h0]),Zzn (by rfl),Zzq (Aga s c g)];obtain⟨E,I⟩:=Aci (ZY o t);refine ⟨C1 (Aq .or .u32 c r,g),?_,λ_=>⟨E,λp=>?_⟩⟩
  ·rw[if_neg (by simp[h0])];by_cases h1:S0 s c g=0
   ·rw[Zzn (by simp[h1]),Au,if_neg (by simp[h1])]
   ·rw[Zzp (by simp[h1]),if_pos h1]
  ·rw[I,Ze o t,Qab,Qaj,y,Qal,decide_eq_false_iff_not];exact ⟨λq=>⟨λe=>q.2 e.symm,q.1⟩,λq=>⟨q.2,λe=>q.1 e.symm⟩⟩
 ·rw[if_pos h0,Zzp (by simp[h0])];exact ⟨0,by rw[if_pos h0],λh=>absurd h h0⟩
def rnd (n ph i:Int):Int:=if ph+i<n then ph+i else ph+i-n
def Pw (n c ph p:Int):Prop:=(∃i,1<=i/\i<=n/\p=rnd n ph i/\Aw c p=true/\∀j,1<=j->j<i->Aw c (rnd n ph j)=false)\/p = -1/\∀j,1<=j->j<=n->Aw c (rnd n ph j)=false
end Go.Proofs.YtlgpjdjcbincgaaGreatDoor.Ey
