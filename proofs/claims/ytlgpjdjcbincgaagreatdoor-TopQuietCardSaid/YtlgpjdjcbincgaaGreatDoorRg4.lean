/- Part of a proof: plain readings of Go functions, their contracts, or plain facts of them. -/
import Derived.Test.YtlgpjdjcbincgaaGreatDoorRg3
set_option linter.all false
namespace Go.Proofs.YtlgpjdjcbincgaaGreatDoor
open Go.Den
abbrev Dd (n:AU):Int:=n.2.2.2.1
abbrev Ob (n:AU):Int:=n.2.2.2.2.1
abbrev JC (n:AU):Int:=n.2.2.2.2.2
structure OZ (n:AU):Prop where
 s:n.1.length<=maxLen
 ss:∀x∈n.1,Ca x
 u:n.2.1.length<=maxLen
 us:∀x∈n.2.1,x.1.length<=maxLen
 w:n.2.2.1.length<=maxLen
 ws:∀x∈n.2.2.1,x.2.2.2.length<=maxLen
def Ahr {n:AU} (h:Fits CE n):OZ n:=by obtain⟨⟨h1,d⟩,⟨g,h4⟩,⟨t,h6⟩,_⟩:=h;exact ⟨h1,λx c=>Ahx (d x c),g,λx c=>(h4 x c).1.1,t,λx c=>(h6 x c).2.2.2.1⟩
def PG a b c:D8 (a,(b,c))=true↔b<=a/\a<=c:=by unfold D8;simp
structure I4 (n:AU):Prop where
 l1:1<=Dd n
 l2:Dd n<=Ob n
 h:Ob n<=1048576
 s1:1<=JC n
 s2:JC n<=1048576
 whole:(Ob n-Dd n)%JC n=0
 few:(Ob n-Dd n)/JC n<=64
def AfE n:∃b,Od n=some b/\(b=true->I4 n):=by
 unfold Od;rw[Au];by_cases c:(D8 (n.2.2.2.1,(1,1048576))&&D8 (n.2.2.2.2.1,(n.2.2.2.1,1048576))&&D8 (n.2.2.2.2.2,(1,1048576)))=true
 .rw[ι c];simp only[Qab,PG] at c;obtain⟨⟨⟨l1,l2⟩,h1,d⟩,s1,s2⟩:=c;rw[Aj (n.2.2.2.2.1-n.2.2.2.1) (by omega) (by omega),ι (by simp;omega)];have g:0<=(n.2.2.2.2.1-n.2.2.2.1)/n.2.2.2.2.2:=Qdz (by omega) (by omega);have h:(n.2.2.2.2.1-n.2.2.2.1)/n.2.2.2.2.2<=n.2.2.2.2.1-n.2.2.2.1:=Int.ediv_le_self _ (by omega);have y:BB (n.2.2.2.2.1-n.2.2.2.1) n.2.2.2.2.2=(n.2.2.2.2.1-n.2.2.2.1)%n.2.2.2.2.2:=Qbq (by omega);by_cases m:(BB (n.2.2.2.2.1-n.2.2.2.1) n.2.2.2.2.2==0)=true
  .rw[ι m,ι (by simp;omega),Pn.jZ (by omega) (by omega) (by omega)];refine ⟨_,rfl,λt=>⟨l1,h1,d,s1,s2,?_,of_decide_eq_true t⟩⟩<;>simp_all
  .rw[κ (Bool.eq_false_iff.2 m)]<;>simp_all
 .rw[κ (Bool.eq_false_iff.2 c)]<;>simp_all
def Uz (n:AU) (s:Al):Prop:=St s/\Pn.RG s<=Dd n/\Ob n<=Pn.Lq s
def Afx {n} (h:OZ n):∃b,Oc n=some b/\(b=true->(∀j s,idx n.1 j=some s->Uz n s)/\1<=Aa n.1/\Aa n.1<=12):=by
 unfold Oc;have hl:=IU h.s;refine Ap (λz:Int×List (Int×Bool)=>z.1) (Aa n.1) (λz=>∀j s,j<z.1->idx n.1 j=some s->Uz n s) (λr=>∃b,r=some b/\(b=true->(∀j s,idx n.1 j=some s->Uz n s)/\1<=Aa n.1/\Aa n.1<=12)) (by omega) (by simp) (Ak _) (λj s E d=>absurd (Ag d).1 (by omega)) (λz g I i1=>?_) λz g Y=>?_
 .obtain⟨i,m⟩:=z;simp only at g I i1;obtain⟨s,d,J⟩:=Ai I i1;try simp only
  rw[ι (decide_eq_true i1),ε d];by_cases c:KY (Ty.int .i64) m s.1=true
  .rw[ι c];exact ⟨false,rfl,nofun⟩
  rw[κ (Bool.eq_false_iff.2 c)];obtain⟨e,X,Z⟩:=uR (h.ss s J);rw[ε X];by_cases c2:(!e==0||decide (n.2.2.2.1<s.2.2.2.2.2.2.2.2.2.1)||decide (s.2.2.2.2.2.2.2.2.2.2.1<n.2.2.2.2.1))=true
  .rw[ι c2];exact ⟨false,rfl,nofun⟩
  rw[κ (Bool.eq_false_iff.2 c2),Aj (i+1) (by omega) (by omega)];refine ⟨rfl,λj t E y=>?_⟩;by_cases e2:j=i
  .subst e2;rw[d] at y;cases y;simp only[Qaj,Qal,beq_eq_false_iff_ne,ne_eq,decide_eq_true_eq,not_or,Qcq,Qcb] at c2;obtain⟨⟨c3,c4⟩,c5⟩:=c2;subst c3;exact ⟨⟨h.ss s J,lT Z rfl,X⟩,c4,c5⟩
  .exact g j t (by simp only at E;omega) y
 .obtain⟨i,m⟩:=z;simp only at g Y;try simp only
  rw[κ (decide_eq_false (by omega)),Au];refine ⟨_,rfl,λhh=>⟨λj s d=>g j s (by have:=(Ag d).2.1;omega) d,?_⟩⟩;exact (PG _ _ _).1 hh
def Tl {l x} (I:l.length<=maxLen):∃b,Bd (l,x)=some b/\(b=true↔x∈l):=by
 have J:∃i,EL (l,x)=some i/\(0<=i↔x∈l):=by
  unfold EL;have:=IU I;refine Ap (λi:Int=>i) (Aa l) (λz=>∀j,j<z->idx l j≠some x) (λr=>∃i,r=some i/\(0<=i↔x∈l)) (by omega) (by omega) (Ak _) (λj d g=>absurd (Ag g).1 (by omega)) (λi t E i1=>?_) λi t Z=>?_
  .obtain⟨y,X,Y⟩:=Ai E i1;try simp only
   rw[ι (decide_eq_true i1),ε X];by_cases c:(x==y)=true
   .rw[ι c];have:x=y:=by simp_all
    subst this;exact ⟨i,rfl,λ_=>Y,λ_=>E⟩
   .rw[κ (Bool.eq_false_iff.2 c),Aj (i+1) (by omega) (by omega)];refine ⟨rfl,λj d g=>?_⟩<;>grind
  .try simp only
   rw[κ (decide_eq_false (by omega))];refine ⟨-1,rfl,λh=>absurd h (by decide),λh=>?_⟩;obtain⟨j,d⟩:=BZ h;exact absurd d (t j (by have:=(Ag d).2.1;omega))
 obtain⟨i,h1,h2⟩:=J;unfold Bd;rw[ε h1]<;>simp_all
abbrev PO:=List (Int×Bool)
def Qq (m:PO):Int:=Aa m
abbrev LO (m:PO) (k:Int):Bool:=KY (.int .i64) m k
abbrev Qz (m:PO) (k:Int) (v:Bool):PO:=Jw (.int .i64) m k v
def fR e r k v:Qz (e::r) k v=if k=e.1 then (k,v)::r else e::Qz r k v:=by show (if decide (k=e.1)=true then (k,v)::r else e::Qz r k v) = _<;>simp_all
def QY e r k:LO (e::r) k=if k=e.1 then e.2 else LO r k:=by show (if decide (k=e.1)=true then e.2 else LO r k) = _<;>simp_all
def Ss {k x v}:∀ {m},LO (Qz m k v) x=if x=k then v else LO m x
 |[]=>by show LO ((k,v)::[]) x = _;rw[QY]
 |e::r=>by
  rw[fR,QY];by_cases c:k=e.1
  .rw[if_pos c,QY]<;>simp_all
  .rw[if_neg c,QY,Ss]<;>grind
def vG {k v}:∀ {m},Qq (Qz m k v)<=Qq m+1
 |[]=>Qbb _
 |e::r=>by
  have c:=vG (k:=k) (v:=v) (m:=r);rw[fR];unfold Qq at *;split
  .rw[CW,CW];omega
  .rw[CW,CW];omega
def Fp (m:PO) (n:Nat):Nat:=((List.range n).filter λ(k:Nat)=>!LO m (k:Int)).length
def T6 {m} {n:Nat} {k:Int} (c:0<=k) (k1:k<n) (h:LO m k=false):Fp (Qz m k true) n<Fp m n:=by
 refine XX _ _ (List.range n) (λx d=>?_) ⟨k.toNat,by simp;omega,?_,?_⟩
 .rw[Ss] at d<;>simp_all
 .grind
 .rw[Qax c,Ss,if_pos rfl];rfl
def gA m n:Fp m n<=n:=by unfold Fp<;>grind
def YR (n:AU) (u:vX):Prop:=(∀x∈u.1,0<=x/\x<Aa n.1)/\u.2∈u.1
def AdN {n} (J:OZ n) (h1:1<=Aa n.1) (a6:Aa n.1<=12):∃b,MK n=some b/\(b=true->(∀j u,idx n.2.1 j=some u->YR n u)/\1<=Aa n.2.1/\Aa n.2.1<=6):=by
 unfold MK;have hl:=IU J.u;refine Ap (λz:Int×List (Int×Bool)=>z.1) (Aa n.2.1) (λz=>(∀j u,j<z.1->idx n.2.1 j=some u->YR n u)/\Qq z.2+Fp z.2 (Aa n.1).toNat<=(Aa n.1).toNat) (λr=>∃b,r=some b/\(b=true->(∀j u,idx n.2.1 j=some u->YR n u)/\1<=Aa n.2.1/\Aa n.2.1<=6)) (by omega) (by simp) (Ak _) ⟨λj s hj h=>absurd (Ag h).1 (by omega),?_⟩ (λz d i0 i1=>?_) λz d X=>?_
 .have:=gA [] (Aa n.1).toNat;have e:Qq []=0:=rfl;show Qq ([]:PO)+Fp ([]:PO) _<=_;omega
 .obtain⟨i,m⟩:=z;simp only at d i0 i1;obtain⟨d,hM⟩:=d;obtain⟨u,hu,hm⟩:=Ai i0 i1;have a7:=IU (J.us u hm);try simp only
  rw[ι (decide_eq_true i1),ε hu];refine Ap (λz:Int×List (Int×Bool)=>z.1) (Aa u.1) (λz=>(∀j x,j<z.1->idx u.1 j=some x->0<=x/\x<Aa n.1)/\Qq z.2+Fp z.2 (Aa n.1).toNat<=(Aa n.1).toNat) (Cq _ _ _ _) (by omega) (by simp) (Ak _) ⟨λj s hj h=>absurd (Ag h).1 (by omega),hM⟩ (λz hJ j0 Y=>?_) λz hJ X=>?_
  .obtain⟨j,t⟩:=z;simp only at hJ j0 Y;obtain⟨hJ,E⟩:=hJ;obtain⟨x,I,_⟩:=Ai j0 Y;try simp only
   rw[ι (decide_eq_true Y),ε I,Au];by_cases c:(!D8 (x,(0,wr .i64 (Aa n.1-1)))||KY (Ty.int .i64) t x)=true
   .rw[ι c];exact ⟨false,rfl,nofun⟩
   rw[κ (Bool.eq_false_iff.2 c),Aj (j+1) (by omega) (by omega)];rw[Aj (Aa n.1-1) (by omega) (by omega)] at c;simp only[Qaj,Qal,not_or,Qdh,Bool.not_eq_true] at c;have hr:=(PG _ _ _).1 c.1;have h3:=T6 (n:=(Aa n.1).toNat) hr.1 (by omega) c.2;have h4:=vG (m:=t) (k:=x) (v:=true);refine ⟨rfl,λk y Z g=>?_,by show Qq (Qz t x true)+Fp (Qz t x true) _<=_;omega⟩;by_cases e:k=j
   .subst e;rw[I] at g;cases g;omega
   .exact hJ k y (by simp only at Z;omega) g
  .obtain⟨j,t⟩:=z;simp only at hJ X;obtain⟨hJ,E⟩:=hJ;try simp only
   rw[κ (decide_eq_false (by omega))];obtain⟨b,hb,a1⟩:=Tl (J.us u hm);rw[ε hb];cases b with
   |false=>rw[ι (b:=!false) rfl];exact ⟨false,rfl,nofun⟩
   |true =>
    rw[κ (b:=!true) rfl,Aj (i+1) (by omega) (by omega)];refine ⟨rfl,λk y Z g=>?_,E⟩;by_cases e:k=i
    .subst e;rw[hu] at g;cases g;refine ⟨λx I=>?_,a1.1 rfl⟩;obtain⟨q,hq⟩:=BZ I;exact hJ q x (by have:=(Ag hq).2.1;omega) hq
    .exact d k y (by simp only at Z;omega) g
 .obtain⟨i,m⟩:=z;simp only at d X;obtain⟨d,hM⟩:=d;try simp only
  rw[κ (decide_eq_false (by omega)),Au];by_cases c:D8 (Aa n.2.1,(1,6))=true
  .rw[ι c];show LI _ (Step.done (γ (decide (Qq m<=1099511627776)) (some (Qq m==Aa n.1)) none));rw[ι (decide_eq_true (show Qq m<=1099511627776 by omega))];exact ⟨_,rfl,λ_=>⟨λj s h=>d j s (by have:=(Ag h).2.1;omega) h,(PG _ _ _).1 c⟩⟩
  .rw[κ (Bool.eq_false_iff.2 c)];exact ⟨false,rfl,nofun⟩
structure YT (n:AU) (w:vY):Prop where
 a:0<=w.1
 ab:w.1<w.2.1
 b:w.2.1<Aa n.2.1
 v:1<=w.2.2.1/\w.2.2.1<=1048576
 o:1<=Aa w.2.2.2/\Aa w.2.2.2<=8
 os:∀x∈w.2.2.2,0<=x/\x<=Dd n-1
def AdS {n} (J:OZ n) (I:I4 n):∃b,ML n=some b/\(b=true->(∀j w,idx n.2.2.1 j=some w->YT n w)/\Aa n.2.2.1<=8):=by
 unfold ML;have hl:=IU J.w;have t1:1<=n.2.2.2.1:=I.l1;have t2:n.2.2.2.1<=n.2.2.2.2.1:=I.l2;have t3:n.2.2.2.2.1<=1048576:=I.h;refine Ap (λz:Int×List ((Int×Int)×Bool)=>z.1) (Aa n.2.2.1) (λz=>∀j w,j<z.1->idx n.2.2.1 j=some w->YT n w) (λr=>∃b,r=some b/\(b=true->(∀j w,idx n.2.2.1 j=some w->YT n w)/\Aa n.2.2.1<=8)) (by omega) (by simp) (Ak _) (λj s hj g=>absurd (Ag g).1 (by omega)) (λz t X i1=>?_) λz t Y=>?_
 .obtain⟨i,m⟩:=z;simp only at t X i1;obtain⟨w,Z,hm⟩:=Ai X i1;have a1:=IU (J.ws w hm);try simp only
  rw[ι (decide_eq_true i1),ε Z];by_cases c:(decide (w.1<0)||decide (w.2.1<=w.1)||decide (Aa n.2.1<=w.2.1)||KY (Ty.pair (Ty.int IntKind.i64) (Ty.int IntKind.i64)) m (w.1,w.2.1)||!D8 (w.2.2.1,(1,1048576))||!D8 (Aa w.2.2.2,(1,8)))=true
  .rw[ι c];exact ⟨false,rfl,nofun⟩
  rw[κ (Bool.eq_false_iff.2 c)];simp only[Qaj,Qal,not_or,decide_eq_true_eq,Qdh,Qcb,Int.not_le,PG] at c;obtain⟨⟨⟨⟨⟨c1,c2⟩,c3⟩,_⟩,c5⟩,c6⟩:=c;refine Ap (λz:Int=>z) (Aa w.2.2.2) (λz=>∀j x,j<z->idx w.2.2.2 j=some x->0<=x/\x<=Dd n-1) (Cq _ _ _ _) (by omega) (by omega) (Ak _) (λj s hj g=>absurd (Ag g).1 (by omega)) (λj hJ j0 j1=>?_) λj hJ Y=>?_
  .obtain⟨x,E,_⟩:=Ai j0 j1;try simp only
   rw[ι (decide_eq_true j1),ε E,Au,Aj (n.2.2.2.1-1) (by omega) (by omega)];by_cases c:D8 (x,(0,n.2.2.2.1-1))=true
   .rw[κ (by rw[c];rfl),Aj (j+1) (by omega) (by omega)];refine ⟨rfl,λk y hk d=>?_⟩;by_cases e:k=j
    .subst e;rw[E] at d;cases d;exact (PG _ _ _).1 c
    .exact hJ k y (by omega) d
   .rw[ι (by rw[Bool.eq_false_iff.2 c];rfl),ι (decide_eq_true j0)];exact ⟨false,rfl,nofun⟩
  .try simp only
   rw[κ (decide_eq_false (by omega)),Aj (i+1) (by omega) (by omega)];refine ⟨rfl,λk y hk d=>?_⟩;by_cases e:k=i
   .subst e;rw[Z] at d;cases d;refine ⟨c1,c2,c3,c5,c6,λx E=>?_⟩;obtain⟨q,hq⟩:=BZ E;exact hJ q x (by have:=(Ag hq).2.1;omega) hq
   .exact t k y (by simp only at hk;omega) d
 .obtain⟨i,m⟩:=z;simp only at t Y;try simp only
  rw[κ (decide_eq_false (by omega))];exact ⟨_,rfl,λhh=>⟨λj s g=>t j s (by have:=(Ag g).2.1;omega) g,of_decide_eq_true hh⟩⟩
structure DH (n:AU):Prop where
 f:OZ n
 chk:Du n=some 0
 t:I4 n
 st:∀j s,idx n.1 j=some s->Uz n s
 n1:1<=Aa n.1
 n2:Aa n.1<=12
 sub:∀j u,idx n.2.1 j=some u->YR n u
 u1:1<=Aa n.2.1
 u2:Aa n.2.1<=6
 wed:∀j w,idx n.2.2.1 j=some w->YT n w
 w2:Aa n.2.2.1<=8
def Ade {n} (d:OZ n):∃e,Du n=some e/\(e=0->DH n):=by
 obtain⟨t,h1,g1⟩:=AfE n;obtain⟨y,E,c⟩:=Afx d;have key:∃e,Du n=some e/\(e=0->I4 n/\((∀j s,idx n.1 j=some s->Uz n s)/\1<=Aa n.1/\Aa n.1<=12)/\((∀j u,idx n.2.1 j=some u->YR n u)/\1<=Aa n.2.1/\Aa n.2.1<=6)/\(∀j w,idx n.2.2.1 j=some w->YT n w)/\Aa n.2.2.1<=8):=by
  unfold Du;rw[ε h1];cases t with
  |false=>exact ⟨60,rfl,nofun⟩
  |true =>
   rw[κ (b:=!true) rfl,ε E];cases y with
   |false=>exact ⟨60,rfl,nofun⟩
   |true =>
    have g1:=g1 rfl;have c:=c rfl;obtain⟨b3,I,J⟩:=AdN d c.2.1 c.2.2;obtain⟨X,h4,Y⟩:=AdS d g1;rw[κ (b:=!true) rfl,ε I];cases b3 with
    |false=>exact ⟨60,rfl,nofun⟩
    |true =>
     rw[κ (b:=!true) rfl,ε h4];cases X with
     |false=>exact ⟨60,rfl,nofun⟩
     |true=>exact ⟨0,rfl,λ_=>⟨g1,c,J rfl,Y rfl⟩⟩
 obtain⟨e,h,g⟩:=key;refine ⟨e,h,λh0=>?_⟩;subst h0;obtain⟨a,⟨t,y,b3⟩,⟨c1,c2,c3⟩,d1,Z⟩:=g rfl;exact ⟨d,h,a,t,y,b3,c1,c2,c3,d1,Z⟩
def kN (n:AU):Nat:=((Ob n-Dd n)/JC n).toNat
def Fb (n:AU) (k:Nat):Int:=Dd n+(k:Int)*JC n
def DW (n:AU):List Int:=(List.range (kN n+1)).map (Fb n)
def yC {n} (h:I4 n):(kN n:Int)*JC n=Ob n-Dd n/\kN n<=64:=by have h1:=h.l1;have c:=h.l2;have d:=h.s1;have g:=h.few;unfold kN;rw[Qax (Qdz (by omega) (by omega))];exact ⟨Int.ediv_mul_cancel (Int.dvd_of_emod_eq_zero h.whole),by omega⟩
def P6 {n a b} (h:I4 n) (c:a<=b):Fb n a<=Fb n b:=by have:=Qdg (show (a:Int)<=b by omega) (show 0<=JC n by have:=h.s1;omega);unfold Fb;omega
def S9 n k:Fb n (k+1)=Fb n k+JC n:=by unfold Fb<;>grind
def P8 n:Fb n 0=Dd n:=by unfold Fb;simp
def XY {n} (h:I4 n):Fb n (kN n)=Ob n:=by have:=(yC h).1;unfold Fb;omega
def Zo {n a b} (h:I4 n) (d:Fb n a<Fb n b):a<b:=by refine Qdr λc=>?_;have:=P6 h (show b<=a by omega);omega
def xε {n x}:x∈DW n↔∃k,k<=kN n/\x=Fb n k:=by unfold DW<;>grind
def Agc {n x} (h:I4 n) (c:x∈DW n):Dd n<=x/\x<=Ob n:=by obtain⟨k,d,rfl⟩:=xε.1 c;have h1:=P6 h (Qaw k);have g:=P6 h d;rw[P8] at h1;rw[XY h] at g<;>omega
def Agd {n x y} (h:I4 n) (d:x∈DW n) (g:y∈DW n) (c:x<y):x+JC n∈DW n:=by obtain⟨k,t,rfl⟩:=xε.1 d;obtain⟨j,E,rfl⟩:=xε.1 g;have:=Zo h c;exact xε.2 ⟨k+1,by omega,(S9 n k).symm⟩
def AcF {n x y} (h:I4 n) (d:x∈DW n) (g:y∈DW n) (c:y<x):x-JC n∈DW n:=by obtain⟨k,t,rfl⟩:=xε.1 d;obtain⟨j,E,rfl⟩:=xε.1 g;have:=Zo h c;refine xε.2 ⟨k-1,by omega,?_⟩;have:=S9 n (k-1)<;>grind
def mD n:Aa (DW n)=kN n+1:=by unfold DW Aa;simp
def P5 {n} (h:I4 n):(DW n).length<=maxLen:=by have:=mD n;have:=(yC h).2;unfold Aa at *;unfold maxLen;omega
def vC n:Dd n∈DW n:=xε.2 ⟨0,Qaw _,(P8 n).symm⟩
def P9 {n} (h:DH n):FO n=some (DW n,0):=by
 have c:=h.t;have h1:=c.l1;have X:=c.l2;have Y:=c.s1;have h4:=c.h;have Z:=c.s2;have hk:=yC c;unfold FO;rw[ε h.chk,Af (b:=!(0:Int)==0) _ _ rfl];refine Ap (λz:List Int×Int=>Aa z.1) (kN n+1) (λz=>∃k:Nat,k<=kN n+1/\z=((List.range k).map (Fb n),Fb n k)) (λr=>r=some (DW n,0)) (by omega) (by simp[Aa]) (by simp[Aa];omega) ⟨0,Qaw _,by rw[P8];rfl⟩ (λz g i0 i1=>?_) λz g J=>?_
 .obtain⟨k,y,rfl⟩:=g;have E:Aa ((List.range k).map (Fb n))=k:=by unfold Aa;simp
  simp only[E] at i1;have d:=P6 c (show k<=kN n by omega);have I:=P6 c (Qaw k);rw[XY c] at d;rw[P8] at I;try simp only
  rw[ι (decide_eq_true d),ι (VV (by omega)),Aj (Fb n k+JC n) (by omega) (by omega)];refine ⟨by simp only;rw[BK],k+1,by omega,?_⟩;rw[Qdf,Qdy,S9 n k];rfl
 .obtain⟨k,y,rfl⟩:=g;have E:Aa ((List.range k).map (Fb n))=k:=by unfold Aa;simp
  simp only[E] at J;obtain rfl:k=kN n+1:=by omega
  have hs:=S9 n (kN n);have hc:=XY c;try simp only
  rw[κ (decide_eq_false (show ¬Fb n (kN n+1)<=n.2.2.2.2.1 from by show ¬Fb n (kN n+1)<=Ob n;omega))];exact rfl
def Ab1 {l} (h:Aa l<=1000):∃b,JM l=some b/\(b=true↔∀x∈l,0<=x/\x<=1048576):=by
 unfold JM;refine Bn (l:=l) (λr:Option Bool=>∃b,r=some b/\(b=true↔∀x∈l,0<=x/\x<=1048576)) (λ_ x=>0<=x/\x<=1048576) (some false) (some true) (by unfold Aa at h;unfold maxLen;omega) (λi x h0 hi d=>?_) λi hi=>by rw[κ (decide_eq_false hi)] (λg=>⟨true,rfl,λ_ x d=>?_,λ_=>rfl⟩) λt=>⟨false,rfl,nofun,λg=>absurd (λi x d=>g x (Ag d).2.2) t⟩
 .rw[ι (decide_eq_true hi),ε d,Au];unfold JL;by_cases c:0<=x/\x<=1048576
  .rw[κ (by simp;omega)]<;>simp_all
  .rw[ι (by simp;omega)]<;>simp_all
 .obtain⟨i,hi⟩:=BZ d<;>grind
def jJ (v:Df):Prop:=(0<=v.1/\v.1<=1048576)/\(0<=v.2.1/\v.2.1<=1048576)/\0<=v.2.2/\v.2.2<=1048576
def dS {v w need} (y:jJ v) (d:0<=w/\w<=1048576) (Z:1<=need/\need<=1048576):∃h,Es (v,(w,need))=some (h,0)/\jJ h/\(h.1=v.1\/h.1=w):=by
 obtain⟨a,b,c⟩:=v;obtain⟨g,E,I⟩:=y;simp only at g E I;obtain⟨s,h1,J⟩:=Ab1 (l:=a::b::c::w::need::[]) (by simp[Aa]);have X:= J.2 (λx Y=>by simp only[Qdw,Qej,or_false] at Y<;>omega);subst X;unfold Es;try simp only
 rw[ε h1,κ (by simp;omega),Aj (c+1) (by omega) (by omega)];by_cases e:w=a
 .rw[ι (by simpa using e)];exact ⟨_,rfl,⟨g,g,by simp⟩,.inl rfl⟩
 rw[κ (by simpa using e)];by_cases t:(w==b&&decide (0<c))=true
 .rw[ι t];by_cases e3:need<=c+1
  .rw[ι (decide_eq_true e3)];exact ⟨_,rfl,⟨d,d,by simp⟩,.inr rfl⟩
  .rw[κ (decide_eq_false e3)];exact ⟨_,rfl,⟨g,d,by simp only;omega⟩,.inl rfl⟩
 .rw[κ (Bool.eq_false_iff.2 t)];by_cases e3:need<=1
  .rw[ι (decide_eq_true e3)];exact ⟨_,rfl,⟨d,d,by simp⟩,.inr rfl⟩
  .rw[κ (decide_eq_false e3)];exact ⟨_,rfl,⟨g,d,by simp⟩,.inl rfl⟩
def AeB {n x} (h:DH n) (g:0<=x/\x<=65536):∃c,Mu (n,x)=some (c,0)/\c∈DW n/\(x=0->c=Dd n):=by
 have E:=(yC h.t).2;have I:=mD n;unfold Mu;rw[ε (P9 h),Af (b:=!(0:Int)==0) _ _ rfl,κ (decide_eq_false (by omega)),κ (decide_eq_false (by omega))];have p0:0<=x*Aa (DW n):=Qef g.1 (by omega);have p1:x*Aa (DW n)<=65536*65:=Int.mul_le_mul g.2 (by omega) (by omega) (by omega);simp only;rw[Aj (x*Aa (DW n)) (by omega) (by omega),Aj (Aa (DW n)-1) (by omega) (by omega),Pn.jZ (by omega) (by omega) (by omega),Ds];obtain⟨c,d,y⟩:=Ai (l:=DW n) (i:=min (x*Aa (DW n)/65536) (Aa (DW n)-1)) (by omega) (by omega);rw[ε d];refine ⟨c,rfl,y,λh0=>?_⟩;subst h0;rw[show min (0*Aa (DW n)/65536) (Aa (DW n)-1)=0 by omega] at d;have:idx (DW n) 0=some (Fb n 0):=by rw[AY (by omega)];unfold DW<;>simp_all
 rw[this,P8] at d<;>simp_all
def UD (n:AU) (v:Df):Prop:=v.1∈DW n/\jJ v
def P7 {n x} (h:DH n) (c:x∈DW n):1<=x/\x<=1048576:=by have:=Agc h.t c;have:=h.t.l1;have:=h.t.h;omega
def Aey {n v x} (h:DH n) (Z:UD n v) (E:0<=x/\x<=65536):∃d,Mt (n,(v,x))=some (d,0)/\UD n d/\(x=0->v.1=Dd n->d.1=Dd n):=by
 obtain⟨g,I⟩:=Z;obtain⟨b,h1,h2⟩:=Ab1 (l:=v.1::v.2.1::v.2.2::[]) (by simp[Aa]);have y:= h2.2 (λx E=>by obtain⟨a1,a2,a3⟩:=I<;>grind);subst y;obtain⟨b,h3,h4⟩:=Tl (P5 h.t);have y:=h4.2 g;subst y;obtain⟨c,h5,h6,J⟩:=AeB h E;have a6:=h.t.s1;have X:=h.t.s2;have a7:=P7 h g;unfold Mt;rw[ε (P9 h),Af (b:=!(0:Int)==0) _ _ rfl,ε h1,κ (b:=!true) rfl,ε h3,κ (b:=!true) rfl,ε h5,Af (b:=!(0:Int)==0) _ _ rfl];simp only;have fin:∀w,w∈DW n->(x=0->v.1=Dd n->w=v.1)->∃d,Ad (Es (v,(w,3))) none (λx5=>some x5)=some (d,0)/\UD n d/\(x=0->v.1=Dd n->d.1=Dd n):=λw Y hz=>by
  obtain⟨d,t1,t2,t3⟩:=dS (need:=3) I (w:=w) (by have:=P7 h Y;omega) (by omega);rw[ε t1];refine ⟨d,rfl,⟨?_,t2⟩,λa b=>?_⟩
  .rcases t3 with e|e
   .rw[e];exact g
   .rw[e];exact Y
  .have:=hz a b;omega
 by_cases c1:v.1<c
 .rw[ι (decide_eq_true c1),Aj (v.1+JC n) (by omega) (by omega)];exact fin _ (Agd h.t g h6 c1) λa b=>by have:=J a;omega
 rw[κ (decide_eq_false c1)];by_cases c2:c<v.1
 .rw[ι (decide_eq_true c2),Aj (v.1-JC n) (by omega) (by omega)];exact fin _ (AcF h.t g h6 c2) λa b=>by have:=J a;omega
 rw[κ (decide_eq_false c2)];exact fin _ g λ_ _=>rfl
def Hh (l:List Int):Prop:=Aa l<=1024/\∀x∈l,0<=x/\x<=65536
def wE (l:List Int) (i v:Int):Prop:=l=[]/\v=0\/idx l i=some v
def eQ l:∃i v e,EG l=some (i,(v,e))/\(e=0↔Hh l)/\(e=0->wE l i v):=by
 unfold EG;by_cases c:1024<Aa l
 .rw[ι (decide_eq_true c)];exact ⟨0,0,4,rfl,⟨nofun,λt=>by have:=t.1;omega⟩,nofun⟩
 rw[κ (decide_eq_false c)];have Y:=Ak l;refine Bn (l:=l) (λr:Option (Int×Int×Int)=>∃i v e,r=some (i,(v,e))/\(e=0↔Hh l)/\(e=0->wE l i v)) (λ_ x=>0<=x/\x<=65536) (some (0,(0,2))) _ (by unfold Aa at c;unfold maxLen;omega) (λi x h0 hi d=>?_) λi hi=>by rw[κ (decide_eq_false hi)] (λt=>?_) λJ=>⟨0,0,2,rfl,⟨nofun,λt=>absurd (λi x d=>t.2 x (Ag d).2.2) J⟩,nofun⟩
 .rw[ι (decide_eq_true hi),ε d,Au];unfold EW;by_cases c:0<=x/\x<=65536
  .rw[κ (by simp;omega)]<;>simp_all
  .rw[ι (by simp;omega)]<;>simp_all
 .have hF:Hh l:=⟨by omega,λx d=>by obtain⟨i,hi⟩:=BZ d<;>grind⟩;refine Ap (λz:Int×Int=>z.2) (Aa l) (λz=>z.1 = -1/\z.2=0\/0<=z.1/\z.1<z.2) (λr:Option (Int×Int×Int)=>∃i v e,r=some (i,(v,e))/\(e=0↔Hh l)/\(e=0->wE l i v)) (by omega) (by simp) (by omega) (.inl ⟨rfl,rfl⟩) (λz h y i1=>?_) λz h X=>?_
  .obtain⟨b,i⟩:=z;simp only at h y i1;obtain⟨x,d,_⟩:=Ai y i1;try simp only
   rw[ι (decide_eq_true i1),ε d,Aj (i+1) (by omega) (by omega)];rcases h with ⟨g,I⟩|⟨g,I⟩
   .rw[ι (decide_eq_true (by omega))];exact ⟨rfl,.inr ⟨y,by omega⟩⟩
   .obtain⟨v,E,_⟩:=Ai (l:=l) g (by omega);rw[κ (decide_eq_false (by omega)),ε E,Au];by_cases c2:Im (x,v)=true
    .rw[ι c2];exact ⟨rfl,.inr ⟨y,by omega⟩⟩
    .rw[κ (Bool.eq_false_iff.2 c2)];exact ⟨rfl,.inr ⟨g,by omega⟩⟩
  .obtain⟨b,i⟩:=z;simp only at h X;try simp only
   rw[κ (decide_eq_false (by omega))];rcases h with ⟨g,I⟩|⟨g,I⟩
   .rw[ι (decide_eq_true (by omega))];refine ⟨-1,0,0,rfl,⟨λ_=>hF,λ_=>rfl⟩,λ_=>.inl ⟨Qad (by unfold Aa at *;omega),rfl⟩⟩
   .obtain⟨v,E,_⟩:=Ai (l:=l) g (by omega);rw[κ (decide_eq_false (by omega)),ε E];exact ⟨b,v,0,rfl,⟨λ_=>hF,λ_=>rfl⟩,λ_=>.inr E⟩
def Vm {l:List Int} (h:Hh l):∃i v,EG l=some (i,(v,0))/\(0<=v/\v<=65536)/\((∀x∈l,x=0)->v=0)/\(l≠[]->0<=i/\i<Aa l):=by
 obtain⟨i,v,e,h1,g,c⟩:=eQ l;have t:=g.2 h;subst t;rcases c rfl with ⟨h0,rfl⟩|c
 .exact ⟨i,0,h1,by omega,λ_=>rfl,λy=>absurd h0 y⟩
 .obtain⟨a,b,d⟩:=Ag c;exact ⟨i,v,h1,h.2 v d,λE=>E v d,λ_=>⟨a,b⟩⟩
def PM (b:Fg):Prop:=0<=b.2/\b.2<=1048576
def Aer {n i b x y} (h:DH n) (I:0<=i) (i1:i<Aa n.2.2.1) (d:PM b) (J:x∈DW n) (X:y∈DW n):∃g,Pt (n,(i,(b,(x,y))))=some (g,0)/\PM g:=by
 obtain⟨c1,h1,g1⟩:=Tl (P5 h.t);obtain⟨c2,Y,Z⟩:=Tl (P5 h.t);have e1:=g1.2 J;have e2:=Z.2 X;subst e1 e2;obtain⟨w,E,_⟩:=Ai I i1;have a1:=d.1;have a6:=d.2;unfold Pt;rw[ε (P9 h),Af (b:=!(0:Int)==0) _ _ rfl,κ (decide_eq_false (by simp_all)),κ (decide_eq_false (by simp_all)),Au,κ (by unfold Md;simp;omega),ε h1,κ (b:=!true) rfl,ε Y,κ (b:=!true) rfl];simp only;by_cases c:(decide (wr .i64 (B8 x y-Bb x y)<=n.2.2.2.2.2)==b.1)=true
 .rw[ι c];exact ⟨_,rfl,by simp[PM]⟩
 rw[κ (Bool.eq_false_iff.2 c),ε E,Aj (b.2+1) (by omega) (by omega)];by_cases c2:w.2.2.1<=b.2+1
 .rw[ι (decide_eq_true c2)];exact ⟨_,rfl,by simp[PM]⟩
 .rw[κ (decide_eq_false c2)];exact ⟨_,rfl,by have:=(h.wed i w E).v;simp only[PM];omega⟩
def jH (w:vY) (v:Df):Prop:=(0<=v.1/\v.1<Aa w.2.2.2)/\(0<=v.2.1/\v.2.1<=1048576)/\0<=v.2.2/\v.2.2<=1048576
def Ahh (l:List Int):Aa (CR (Ay 8 0) 0 8 l)=8/\∀x∈CR (Ay 8 0) 0 8 l,x∈l\/x=0:=by
 refine ⟨Q0 (by omega) (by omega) (by rw[AM (by omega)];omega),λx c=>?_⟩;unfold CR at c;rw[Qck,Qck] at c;rcases c with (c|c)|c
 .simp at c
 .exact .inl (Qde c)
 .exact .inr (List.mem_replicate.1 (Qek c)).2
def Ae9 {n i w v l} (h:DH n) (d:idx n.2.2.1 i=some w) (hv:jH w v) (g:Hh l):∃I,Ls (n,(i,(v,l)))=some (I,0)/\jH w I:=by
 have W:=h.wed i w d;obtain⟨i0,i1,_⟩:=Ag d;obtain⟨v0,v1,v2⟩:=hv;have J:KL (n,(i,v))=some 0:=by
  have X:MN (n,i)=some 0:=by unfold MN;rw[ε h.chk,Af (b:=!(0:Int)==0) _ _ rfl,κ (by simp;omega)]
  unfold KL;rw[ε X,Af (b:=!(0:Int)==0) _ _ rfl,κ (decide_eq_false (by simp_all)),ε d,κ (by simp;omega)]
 obtain⟨a6,x1,g1,_⟩:=Vm g;obtain⟨cl,cm⟩:=Ahh l;have ho:=W.o;obtain⟨t,y⟩:∃t,t=EJ (CR (Ay 8 0) 0 8 l) 0 (Aa w.2.2.2):=⟨_,rfl⟩;have E:t=Ax (CR (Ay 8 0) 0 8 l) (Aa w.2.2.2):=by rw[y,Qp (by omega) (by omega)];rfl
 have c:Aa t=Aa w.2.2.2:=by rw[E];exact CK (by omega) (by omega)
 have Y:Hh t:=⟨by omega,λx Z=>by
  rcases (λx Z=>cm x (VI (by rw[<-E];exact Z))) x Z with hh|rfl
  .exact g.2 x hh
  .omega⟩;obtain⟨to,x2,g2,_,_,gi⟩:=Vm Y;have gi:=gi (by intro e;rw[e] at c;rw[Tz] at c;omega);have a1:Lt (n,(i,l))=some (to,0):=by unfold Lt;rw[ε g1,Af (b:=!(0:Int)==0) _ _ rfl,ι (by rw[AM (by omega)];rfl),ε d,ι (by simp only[cl];simp;omega),<-y,ε g2]
 obtain⟨I,t1,t2,t3⟩:=dS (w:=to) ⟨by omega,v1,v2⟩ (by omega) W.v;unfold Ls;rw[ε J,Af (b:=!(0:Int)==0) _ _ rfl,ε a1,Af (b:=!(0:Int)==0) _ _ rfl,ε d,ε t1];exact ⟨I,rfl,by omega,t2.2⟩
def RX:List Int->Nat
 |[]=>0
 |a::l=>a.toNat+RX l
def ren (hi lo x:Int):Int:=if x=hi then lo else x
def aN {hi lo} (h1:lo<hi):∀l:List Int,RX (l.map (ren hi lo))<=RX l
 |[]=>χ _
 |a::l=>by have:=aN h1 l;simp only[Qcu,RX,ren]<;>omega
def vK {hi lo} (h0:0<=lo) (h1:lo<hi):∀ {l},hi∈l->RX (l.map (ren hi lo))<RX l
 |a::l,h=>by
  have c:=aN h1 l;simp only[Qcu,RX,ren];rcases List.mem_cons.1 h with e|e
  .omega
  .have:=vK h0 h1 e<;>omega
def vJ {b:Nat}:∀ {l},(∀x∈l,0<=x/\x<(b:Int))->RX l<=b*l.length
 |[],_=>Qaw _
 |a::l,h=>by have h1:=h a (Qbr ..);have d:=vJ λx c=>h x (Qak _ c);simp only[RX,Qay,Nat.mul_add,Qch];omega
def InL (n:Int) (l:List Int):Prop:=Aa l=n/\∀x∈l,0<=x/\x<n
def mW {n l} (h:DH n) (hl:Aa l=Aa n.2.2.1):∃g,Kv (n,l)=some g/\InL (Aa n.2.1) g:=by
 have u1:=h.u1;have u2:=h.u2;have w2:=h.w2;unfold Kv;rw[ι (C6 (by grind) (by grind))];simp only;refine Ap (λz:Int×List Int=>z.1) (Aa n.2.1) (λz=>Aa z.2=Aa n.2.1/\∀j,0<=j->j<z.1->idx z.2 j=some j) (λr=>∃g,r=some g/\InL (Aa n.2.1) g) (by omega) (by simp) (by omega) ⟨AM (by omega) _,λj h0 h1=>by omega⟩ (λz d Y i1=>?_) λz d hz=>?_
 .obtain⟨i,g⟩:=z;simp only at d Y i1;obtain⟨x,X,_⟩:=Ai (l:=g) Y (by omega);try simp only
  rw[ι (by rw[AM (by omega)]<;>simp_all),ε X,ε X,Aj (i+1) (by omega) (by omega)];refine ⟨rfl,by simp only;rw[AN];omega,λj h0 h1=>?_⟩;simp only at h1 ⊢;rw[By Y (by omega)]<;>grind
 obtain⟨i,g0⟩:=z;simp only at d hz;obtain⟨hg,hG⟩:=d;have Z:InL (Aa n.2.1) g0:=⟨hg,λx X=>by obtain⟨j,hj⟩:=BZ X;obtain⟨j0,j1,_⟩:=Ag hj<;>simp_all⟩;try simp only
 rw[κ (by rw[AM (by omega)]<;>simp_all)];show ∃g,iter none _ Am g0=some g/\_;refine Db (λg=>InL (Aa n.2.1) g) RX (λr=>∃g,r=some g/\InL (Aa n.2.1) g) (λg hg=>?_) Am g0 Z (by have h1:=vJ (b:=7) (λx X=>by have:=Z.2 x X;omega);have h2:=Z.1;unfold Aa at h2 u2;rw[Eh];omega);obtain⟨a1,E⟩:=hg;refine Ap (λz:Int×List Int=>z.1) (Aa n.2.2.1) (λz=>z.2=g) (Round _ _ _ _) (by omega) (by simp) (Ak _) rfl (λz d Y i1=>?_) λz d hz=>?_
 .obtain⟨i,I⟩:=z;simp only at d Y i1;subst d;obtain⟨w,hw,_⟩:=Ai Y i1;have W:=h.wed i w hw;have wa:=W.a;have a8:=W.ab;have wb:=W.b;obtain⟨a,ha,a6⟩:=Ai (l:=I) wa (by omega);obtain⟨b,hb,a7⟩:=Ai (l:=I) (i:=w.2.1) (by omega) (by omega);obtain⟨t,ht,_⟩:=Ai (l:=l) Y (by omega);have ra:=E a a6;have rb:=E b a7;try simp only
  rw[ι (decide_eq_true i1),ε hw,ε ha,ε ha,ε hb,ε hb,ε ht];by_cases c:(t.1&&!a==b)=true
  .rw[ι c,ED,Ds];have aa:a≠b:=by simp only[Qab,Qal,beq_eq_false_iff_ne] at c;exact c.2
   refine Ap (λz:Int×List Int=>z.1) (Aa I) (λz=>Aa z.2=Aa I/\∀j,0<=j->idx z.2 j=if j<z.1 then (idx I j).map (ren (max a b) (min a b)) else idx I j) (Cq _ _ _ _) (by omega) (by simp) (Ak _) ⟨rfl,λj h0=>by rw[if_neg (by simp only;omega)]⟩ (λz hJ j0 j1=>?_) λz hJ hz=>?_
   .obtain⟨k,q⟩:=z;simp only at hJ j0 j1;obtain⟨hq,hQ⟩:=hJ;obtain⟨y,hy,_⟩:=Ai j0 j1;have J:idx q k=some y:=by rw[hQ k j0,if_neg (by omega)];exact hy
    try simp only
    rw[ι (decide_eq_true j1),ε J,ε J,Aj (k+1) (by omega) (by omega)];by_cases e:y=max a b
    .rw[ι (by simpa using e),ε J,ε J];refine ⟨rfl,by simp only;rw[AN];exact hq,λj h0=>?_⟩;simp only;rw[By j0 (by omega),hQ j h0];by_cases e2:j=k
     .subst e2;rw[if_pos rfl,if_pos (by omega),hy,Qai,ren,if_pos e]
     .rw[if_neg e2];by_cases e3:j<k
      .rw[if_pos e3,if_pos (by omega)]
      .rw[if_neg e3,if_neg (by omega)]
    .rw[κ (by simpa using e)];refine ⟨rfl,hq,λj h0=>?_⟩;simp only;rw[hQ j h0];by_cases e2:j=k
     .subst e2;rw[if_neg (by omega),if_pos (by omega),hy,Qai,ren,if_neg e]
     .by_cases e3:j<k
      .rw[if_pos e3,if_pos (by omega)]
      .rw[if_neg e3,if_neg (by omega)]
   .obtain⟨k,q⟩:=z;simp only at hJ hz;obtain⟨hq,hQ⟩:=hJ;try simp only
    rw[κ (decide_eq_false (by omega))];have he:q=I.map (ren (max a b) (min a b)):=Eg (by rw[hq,HN]) (λj j0 j1=>by rw[hQ j j0,if_pos (by omega),PD]);subst he;refine ⟨⟨by rw[HN];exact a1,λx X=>?_⟩,vK (by omega) (by omega) ?_⟩
    .obtain⟨y,hy,rfl⟩:=List.mem_map.1 X;have:=E y hy;unfold ren;split<;>omega
    .by_cases c2:a<=b
     .rw[Qei c2];exact a7
     .rw[Qeq (by omega)];exact a6
  .rw[κ (Bool.eq_false_iff.2 c),Aj (i+1) (by omega) (by omega)];exact ⟨rfl,rfl⟩
 .obtain⟨i,I⟩:=z;simp only at d hz;subst d;try simp only
  rw[κ (decide_eq_false (by omega))];exact ⟨I,rfl,a1,E⟩
def Wp (n:AU) (l:List Fg):Prop:=Aa l=Aa n.2.2.1/\∀b∈l,PM b
def j3 (n:AU) (l:List Int):Prop:=Aa l=Aa n.2.1/\∀x∈l,x∈DW n
def IV {α:Type} {l:List α} {i} {v x:α} (h:x∈AB l i v):x∈l\/x=v:=Qes h
def mB {n l cs} (h:DH n) (hl:Aa l=Aa n.2.2.1) (hc:Aa cs=Aa n.2.1):∃o,Kt (n,(l,cs))=some o/\Aa o=Aa n.2.1/\∀x∈o,x∈cs:=by
 have u1:=h.u1;have u2:=h.u2;obtain⟨g,g1,g2,g3⟩:=mW h hl;have I:Ek cs=some cs:=UZ (by omega);unfold Kt;rw[ε g1,ε I];simp only;refine Ap (λz:Int×List Int=>z.1) (Aa cs) (λz=>Aa z.2=Aa cs/\∀x∈z.2,x∈cs) (λr=>∃o,r=some o/\Aa o=Aa n.2.1/\∀x∈o,x∈cs) (by omega) (by simp) (Ak _) ⟨rfl,λx d=>d⟩ (λz t J i1=>?_) λz t X=>?_
 .obtain⟨i,o⟩:=z;simp only at t J i1;try simp only
  rw[ι (decide_eq_true i1)];refine Ap (λz:Int×List Int=>z.1) (Aa cs) (λz=>Aa z.2=Aa cs/\∀x∈z.2,x∈cs) (Cq _ _ _ _) (by omega) (by simp) (Ak _) t (λz hJ Y Z=>?_) λz hJ X=>?_
  .obtain⟨j,q⟩:=z;simp only at hJ Y Z;obtain⟨hq,hQ⟩:=hJ;obtain⟨c,a1,a6⟩:=Ai Y Z;obtain⟨gi,a7,_⟩:=Ai (l:=g) J (by omega);obtain⟨gj,a8,_⟩:=Ai (l:=g) Y (by omega);obtain⟨y,E,aa⟩:=Ai (l:=q) J (by omega);try simp only
   rw[ι (decide_eq_true Z),ε a1,ε a7,ε a8,Aj (j+1) (by omega) (by omega)];by_cases e:(gi==gj)=true
   .rw[ι e,ε E,ε E,ε E,ε E,ED];refine ⟨rfl,by simp only;rw[AN];exact hq,λx d=>?_⟩;rcases IV d with d|rfl
    .exact hQ x d
    .by_cases c2:y<=c
     .rw[Qei c2];exact a6
     .rw[Qeq (by omega)];exact hQ y aa
   .rw[κ (Bool.eq_false_iff.2 e)];exact ⟨rfl,hq,hQ⟩
  .obtain⟨j,q⟩:=z;simp only at hJ X;try simp only
   rw[κ (decide_eq_false (by omega)),Aj (i+1) (by omega) (by omega)];exact ⟨rfl,hJ⟩
 .obtain⟨i,o⟩:=z;simp only at t X;try simp only
  rw[κ (decide_eq_false (by omega))];exact ⟨o,rfl,by omega,t.2⟩
def lM {n l} (h:DH n) (c:Wp n l):Ks (n,l)=some 0:=by have g:=h.w2;have h1:=c.1;unfold Ks;rw[ε h.chk,Af (b:=!(0:Int)==0) _ _ rfl,κ (by simp[h1])];refine Bn (l:=l) (λr:Option Int=>r=some 0) (λ_ _=>True) (some 0) (some 0) (by unfold Aa at h1 g;unfold maxLen;omega) (λi b t i1 d=>.inl ⟨trivial,?_⟩) λi hi=>by rw[κ (decide_eq_false hi)] (λ_=>rfl) λ_=>rfl;have:=c.2 b (Ag d).2.2;rw[ι (decide_eq_true i1),ε d,Au,κ (by unfold Kr Md;rw[Au];have h1:=this.1;have y:=this.2;simp;omega)]
def mG {n l} (h:DH n) (d:j3 n l):Ku (n,l)=some 0:=by have y:=h.u2;have h1:=d.1;unfold Ku;rw[ε (P9 h),κ (by simp[h1])];refine Bn (l:=l) (λr:Option Int=>r=some 0) (λ_ _=>True) (some 0) (some 0) (by unfold Aa at h1 y;unfold maxLen;omega) (λi c J i1 g=>.inl ⟨trivial,?_⟩) λi hi=>by rw[κ (decide_eq_false hi)] (λ_=>rfl) λ_=>rfl;obtain⟨b,E,I⟩:=Tl (P5 h.t);have e:=I.2 (d.2 c (Ag g).2.2);subst e;rw[ι (decide_eq_true i1),ε g,ε E,κ (b:=!true) rfl]
def Acg {n l cs} (h:DH n) (c:Wp n l) (d:j3 n cs):∃o,Nc (n,(l,cs))=some (o,0)/\Aa o=Aa n.2.1/\∀x∈o,x∈cs:=by obtain⟨o,g,t⟩:=mB h c.1 d.1;unfold Nc;rw[ε (lM h c),Af (b:=!(0:Int)==0) _ _ rfl,ε (mG h d),Af (b:=!(0:Int)==0) _ _ rfl,ε g]<;>simp_all
def XF {m n k}:Fp (Qz m k true) n<=Fp m n:=by unfold Fp;rw[<-Qfx,<-Qfx];refine List.countP_mono_left λx _ c=>?_;rw[Ss] at c<;>simp_all
def zY {m} {n:Nat} {a b:Int} (a0:0<=a) (g:a<b) (h:b<n) (t:LO m a≠LO m b):Fp (Qz (Qz m a true) b true) n<Fp m n:=by
 by_cases c:LO m a=false
 .exact Qda XF (T6 a0 (by omega) c)
 .have d:LO m b=false:=by simp_all
  exact Qac (T6 (by omega) h (by rw[Ss,if_neg (by omega)];exact d)) XF
def uF (n:AU) (v:List Df):Prop:=Aa v=Aa n.2.2.1/\∀i w x,idx n.2.2.1 i=some w->idx v i=some x->jH w x
def uP {a b c} (g:1<=c/\c<=1048576) (h:0<=a/\a<=1048576) (d:0<=b/\b<=1048576):(0<=BB (wr .i64 (a+b)) c/\BB (wr .i64 (a+b)) c<=1048576)/\0<=BB (wr .i64 (wr .i64 (a-BB b c)+c)) c/\BB (wr .i64 (wr .i64 (a-BB b c)+c)) c<=1048576:=by have h1:0<=BB b c:=Qcr _ d.1;have t:BB b c<c:=Qby _ (by omega);rw[Aj (a+b) (by omega) (by omega),Aj (a-BB b c) (by omega) (by omega),Aj (a-BB b c+c) (by omega) (by omega)];have y:0<=BB (a+b) c:=Qcr _ (by omega);have h4:BB (a+b) c<c:=Qby _ (by omega);have E:0<=BB (a-BB b c+c) c:=Qcr _ (by omega);have h6:BB (a-BB b c+c) c<c:=Qby _ (by omega);omega
def SM (n:AU) (o:List Int):Prop:=Aa o=Aa n.2.1/\∀x∈o,0<=x/\x<=1048576
def uO {n o i v} (h:SM n o) (d:0<=v/\v<=1048576):SM n (AB o i v):=⟨by rw[AN];exact h.1,λx c=>(IV c).elim (h.2 x) λe=>by omega⟩
def Aaa {n l v cs} (h:DH n) (hl:Wp n l) (hv:uF n v) (hc:j3 n cs):∃o,LH (n,(l,(v,cs)))=some (o,0)/\SM n o:=by
 have u1:=h.u1;have u2:=h.u2;have w2:=h.w2;have a7:=hv.1;obtain⟨all,a1,a2,a3⟩:=mB h hl.1 hc.1;obtain⟨g,g1,g2,g3⟩:=mW h hl.1;unfold LH;rw[ε (lM h hl),Af (b:=!(0:Int)==0) _ _ rfl,κ (by simp[a7])];simp only;refine Ap (λi:Int=>i) (Aa v) (λ_=>True) (λr=>∃o,r=some (o,0)/\SM n o) (by omega) (by omega) (Ak _) trivial (λi _ Z i1=>?_) λi _ hz=>?_
 .obtain⟨x,d,_⟩:=Ai Z i1;obtain⟨w,X,_⟩:=Ai (l:=n.2.2.1) Z (by omega);have ho:=(hv.2 i w x X d).1;try simp only
  rw[ι (decide_eq_true i1),ε d,κ (decide_eq_false (by omega)),ε X,κ (decide_eq_false (by omega)),Aj (i+1) (by omega) (by omega)];exact ⟨rfl,trivial⟩
 try simp only
 rw[κ (decide_eq_false (by omega)),ε (mG h hc),Af (b:=!(0:Int)==0) _ _ rfl,ε a1,ι (C6 (by omega) (by omega)),ε g1];show ∃o,iter none _ Am ((0:Int),(Ay (Aa n.2.1) (0:Int),([]:PO)))=some (o,0)/\_;refine Ap (λz:Int×List Int×PO=>z.1) (Aa g) (λz=>SM n z.2.1) (λr=>∃o,r=some (o,0)/\SM n o) (by omega) (by simp) (Ak _) ⟨AM (by omega) _,λx d=>by rw[(List.mem_replicate.1 d).2];omega⟩ (λz E Z i1=>?_) λz E hz=>?_
 .obtain⟨i,o,m⟩:=z;simp only at E Z i1;obtain⟨x,d,_⟩:=Ai Z i1;try simp only
  rw[ι (decide_eq_true i1),ε d,Aj (i+1) (by omega) (by omega)];exact ⟨rfl,E⟩
 obtain⟨i,o,m⟩:=z;simp only at E hz;try simp only
 rw[κ (decide_eq_false (by omega))];show ∃o',iter none _ Am (true,(o,m))=some (o',0)/\_;refine Db (λz:Bool×List Int×PO=>SM n z.2.1) (λz=>if z.1=true then Fp z.2.2 (Aa n.2.1).toNat+1 else 0) (λr=>∃o,r=some (o,0)/\SM n o) (λz E=>?_) Am (true,(o,m)) E (by have:=gA m (Aa n.2.1).toNat;rw[Eh,if_pos rfl]<;>grind);obtain⟨more,o,m⟩:=z;simp only at E;cases more with
 |false =>
  try simp only
  rw[κ rfl];exact ⟨o,rfl,E⟩
 |true =>
  try simp only
  rw[ι rfl];refine Ap (λz:Int×Bool×List Int×PO=>z.1) (Aa n.2.2.1) (λz=>SM n z.2.2.1/\Fp z.2.2.2 (Aa n.2.1).toNat<=Fp m (Aa n.2.1).toNat/\(z.2.1=true->Fp z.2.2.2 (Aa n.2.1).toNat<Fp m (Aa n.2.1).toNat)) (Round _ _ _ _) (by omega) (by simp) (Ak _) ⟨E,χ _,nofun⟩ (λz hJ j0 j1=>?_) λz hJ hz=>?_
  .obtain⟨j,mo,o',m'⟩:=z;simp only at hJ j0 j1;obtain⟨I,Y,hM⟩:=hJ;obtain⟨w,X,_⟩:=Ai j0 j1;obtain⟨b,hb,_⟩:=Ai (l:=l) j0 (by have:=hl.1;omega);have W:=h.wed j w X;have wa:=W.a;have a8:=W.ab;have wb:=W.b;try simp only
   rw[ι (decide_eq_true j1),ε X,ε hb,Aj (j+1) (by omega) (by omega)];by_cases c:(!b.1||LO m' w.1==LO m' w.2.1)=true
   .rw[ι c];exact ⟨rfl,I,Y,hM⟩
   rw[κ (Bool.eq_false_iff.2 c)];have J:=zY (n:=(Aa n.2.1).toNat) wa a8 (by omega) λe=>c (by rw[e];simp);obtain⟨x,d,_⟩:=Ai (l:=v) j0 (by omega);have hO:=(hv.2 j w x X d).1;obtain⟨y,hy,aa⟩:=Ai hO.1 hO.2;have ag:=W.os y aa;obtain⟨q,hq,ad⟩:=Ai (l:=all) wa (by omega);have a6:=P7 h (hc.2 q (a3 q ad));have ah:=h.t.l2;have ai:=h.t.h;obtain⟨p,hp,ae⟩:=Ai (l:=o') wa (by have:=I.1;omega);obtain⟨r,hr,af⟩:=Ai (l:=o') (i:=w.2.1) (by omega) (by have:=I.1;omega);have b1:=uP (b:=y) a6 (I.2 p ae) (by omega);have b2:=uP (a:=r) (b:=y) a6 (I.2 r af) (by omega);rw[ε d,ε hy,ε hq];by_cases c2:LO m' w.1=true
   .rw[ι c2,ε hp,ε hp,ι (by simp;omega),ε hr,ε hr];exact ⟨rfl,uO I b1.1,Nat.le_of_lt (Qac J Y),λ_=>Qac J Y⟩
   .rw[κ (Bool.eq_false_iff.2 c2),ε hr,ε hr,ι (by simp;omega),ι (by simp;omega),ε hp,ε hp];exact ⟨rfl,uO I b2.2,Nat.le_of_lt (Qac J Y),λ_=>Qac J Y⟩
  .obtain⟨j,mo,o',m'⟩:=z;simp only at hJ hz;obtain⟨I,Y,hM⟩:=hJ;try simp only
   rw[κ (decide_eq_false (by omega))];refine ⟨I,?_⟩;simp only[if_true];split
   .rename_i e;have:=hM e;omega
   .omega
abbrev Z8 (s:Al):List AJ:=s.2.2.2.2.2.2.2.2.2.2.2
def Abf s:Cf s=max 1 (Aa (Z8 s)):=by unfold Cf;rw[ED]
def dK {s i c} (h:St s) (hc:0<=c/\c<=1048576) (hi:0<=i/\i<Cf s):∃p:AJ,p.1=c/\Hc (s,(i,c))=some (Pn.CO s p):=by
 rw[Abf] at hi;have d:∀p:AJ,SQ p->-9223372036854775808<=p.2.1/\p.2.1<=9223372036854775807->EY (s,p)=some (Pn.CO s p,0):=λp h1 h2=>by rw[Pn.uS h.f (λ_=>h.ok) h.chk h1 h2,if_neg (by simp)]
 unfold Hc;by_cases c0:0<Aa (Z8 s)
 .rw[ι (decide_eq_true c0)];obtain⟨old,J,_⟩:=Ai (l:=Z8 s) hi.1 (by omega);have W:=KN h (h.ok.planned i old J);have a1:=W.c;have a6:=W.o;have hn:=W.n;rw[ε J];simp only;refine Ap (λz:Int×(Int×Int×Unit)×List Int×Unit=>z.1) (Aa old.2.2) (λz=>z.2.1=(c,(old.2.1,()))/\Aa z.2.2.1=z.1/\∀x∈z.2.2.1,-9223372036854775808<=x/\x<=9223372036854775807) (λr=>∃p:AJ,p.1=c/\r=some (Pn.CO s p)) (by omega) (by simp) (Ak _) ⟨rfl,rfl,λx g=>by cases g⟩ (λz t X i1=>?_) λz t Y=>?_
  .obtain⟨j,co,q,u⟩:=z;simp only at t X i1;obtain⟨rfl,Z,I⟩:=t;obtain⟨x,g,_⟩:=Ai X i1;try simp only
   rw[ι (decide_eq_true i1),ε g,ι (by simp;omega),ι (AV (by omega)),Aj (j+1) (by omega) (by omega)];refine ⟨rfl,rfl,by simp only;rw[BK];omega,λy E=>?_⟩;rcases List.mem_append.1 E with E|E
   .exact I y E
   .rw[List.mem_singleton.1 E];exact Acj _
  .obtain⟨j,co,q,u⟩:=z;simp only at t Y;obtain⟨rfl,Z,I⟩:=t;try simp only
   rw[κ (decide_eq_false (by omega)),ε (d (c,(old.2.1,q)) ⟨by simp only;omega,by simp only;unfold Aa at Z hn Y;unfold maxLen;omega,I⟩ (by simp only;omega))];exact ⟨(c,(old.2.1,q)),rfl,rfl⟩
 .rw[κ (decide_eq_false c0),ε (d (c,(0,[])) ⟨by simp only;omega,by simp[maxLen],λx g=>by cases g⟩ (by simp))];exact ⟨(c,(0,[])),rfl,rfl⟩
def eE s p:Aa (Pn.CO s p).2.2=BO s:=by show Aa (Pn.KJ _ (Pn.nV s)) = _;rw[Pn.OH];rfl
def AaE {s p i} (h:St s) (c:0<=i) (i1:i<BO s):1<=el (Pn.CO s p).2.2 i:=by have h1:=(Pn.Kb h.f h.ok c i1).1;have d:= i1;rw[Pn.XV c d];have:=Pn.Yu (p:=p) h.f h.ok c d;omega
def qO {s l} (h:St s) p q:∃w,Jf (Pn.CO s p,(Pn.CO s q,l))=some w:=by
 have X:=eE s p;have Y:=eE s q;have y:=h.ph;unfold Jf;refine Ap (λz:Int×Int=>z.2) (BO s) (λ_=>True) (λr=>∃w,r=some w) (by omega) (by simp) (by omega) trivial (λz g d i1=>?_) λz g E=>?_
 .obtain⟨m,i⟩:=z;simp only at g d i1;have t:=AaE h (p:=q) d i1;try simp only
  rw[ι (decide_eq_true (by omega)),ε (A7 (l:=(Pn.CO s q).2.2) d (by omega)),Aj (i+1) (by omega) (by omega)];by_cases c:i<Aa l
  .obtain⟨v,I,J⟩:=Ai d c;rw[ι (decide_eq_true c),ε I,ε (A7 (l:=(Pn.CO s p).2.2) d (by omega)),ι (by simp;omega)];exact ⟨rfl,trivial⟩
  .rw[κ (decide_eq_false c)];exact ⟨rfl,trivial⟩
 .obtain⟨m,i⟩:=z;simp only at g E;try simp only
  rw[κ (decide_eq_false (by omega))];exact ⟨m,rfl⟩
def Ac7 {l} (h:Hh l):KR l=some 0:=by have h1:=h.1;unfold KR;rw[κ (decide_eq_false (by omega))];refine Bn (l:=l) (λr:Option Int=>r=some 0) (λ_ _=>True) (some 0) (some 0) (by unfold Aa at h1;unfold maxLen;omega) (λi b d i1 c=>.inl ⟨trivial,?_⟩) λi hi=>by rw[κ (decide_eq_false hi)] (λ_=>rfl) λ_=>rfl;have:=h.2 b (Ag c).2.2;rw[ι (decide_eq_true i1),ε c,Au,κ (by unfold It;simp;omega)]
def R8 (s:Al) (v:Df):Prop:=(0<=v.1/\v.1<Cf s)/\jJ v
def aG {s} (h:St s):1<=Cf s/\Cf s<=8:=by have:Aa (Z8 s)<=8:=h.ok.shape.q;rw[Abf];omega
def AfC {s v c l} (h:St s) (Z:R8 s v) (Y:0<=c/\c<=1048576) (hl:Hh l):∃w,M7 (s,(v,(c,l)))=some (w,0)/\0<=w/\w<Cf s:=by
 obtain⟨⟨v0,y⟩,s0,s1,s2⟩:=Z;have hm:=aG h;obtain⟨p,_,hp⟩:=dK h Y ⟨v0,y⟩;obtain⟨w0,w1⟩:=qO h p p;unfold M7;rw[ε h.chk,Af (b:=!(0:Int)==0) _ _ rfl,κ (by unfold Gl;simp;omega),ε (Ac7 hl),Af (b:=!(0:Int)==0) _ _ rfl,ε hp,ε w1,Au];simp only;refine Ap (λz:Int×List QL=>z.1) (Cf s) (λz=>Aa z.2=z.1+1/\idx z.2 0=some (v.1,w0)/\∀r∈z.2,0<=r.1/\r.1<Cf s) (λr=>∃w,r=some (w,0)/\0<=w/\w<Cf s) (by omega) (by simp) (by simp only;omega) ⟨rfl,rfl,λr g=>by rw[List.mem_singleton.1 g];exact ⟨v0,y⟩⟩ (λz d t i1=>?_) λz d E=>?_
 .obtain⟨i,q⟩:=z;simp only at d t i1;obtain⟨hq,h0,I⟩:=d;obtain⟨p2,_,J⟩:=dK h Y ⟨t,i1⟩;obtain⟨w2,w3⟩:=qO h p p2;try simp only
  rw[ι (decide_eq_true i1),ε J,ε w3,ι (AV (by omega)),Aj (i+1) (by omega) (by omega)];refine ⟨rfl,by simp only;rw[BK];omega,?_,λr g=>?_⟩
  .simp only;rw[DX (by omega),if_pos (by omega)];exact h0
  .rcases List.mem_append.1 g with g|g
   .exact I r g
   .rw[List.mem_singleton.1 g];exact ⟨t,i1⟩
 obtain⟨i,q⟩:=z;simp only at d E;obtain⟨hq,h0,I⟩:=d;try simp only
 rw[κ (decide_eq_false (by omega)),κ (decide_eq_false (by omega)),ε h0,ε h0];refine Ap (λz:Int×QL=>z.1) (Aa q) (λz=>0<=z.2.1/\z.2.1<Cf s) (λr=>∃w,r=some (w,0)/\0<=w/\w<Cf s) (by omega) (by simp) (by simp only;omega) ⟨v0,y⟩ (λz d t i1=>?_) λz d E=>?_
 .obtain⟨k,b⟩:=z;simp only at d t i1;obtain⟨r,g,X⟩:=Ai t i1;try simp only
  rw[ι (decide_eq_true i1),ε g,Au,Aj (k+1) (by omega) (by omega)];unfold Kl;by_cases c1:r.2<b.2
  .rw[ι (decide_eq_true c1),ι (by decide),ε g];exact ⟨rfl,I r X⟩
  .rw[κ (decide_eq_false c1),κ (by
    by_cases c2:b.2<r.2
    .rw[ι (decide_eq_true c2)];rfl
    .rw[κ (decide_eq_false c2)];rfl)];exact ⟨rfl,d⟩
 .obtain⟨k,b⟩:=z;simp only at d E;try simp only
  rw[κ (decide_eq_false (by omega))];exact ⟨b.1,rfl,d⟩
def Afy {s v c l} (h:St s) (g:R8 s v) (t:0<=c/\c<=1048576) (y:Hh l):∃d,M6 (s,(v,(c,l)))=some (d,0)/\R8 s d:=by have I:=aG h;obtain⟨w,E,w2⟩:=AfC h g t y;obtain⟨d,t1,t2,t3⟩:=dS (w:=w) (need:=3) g.2 (by omega) (by omega);unfold M6;rw[ε E,Af (b:=!(0:Int)==0) _ _ rfl,ε t1];have h1:=g.1;exact ⟨d,rfl,by rcases t3 with e|e<;>omega,t2⟩
def AdK {s i c} (h:St s) (d:0<=c/\c<=1048576) (hi:0<=i/\i<Cf s):∃p:AJ,p.1=c/\LC (s,(i,c))=some (Pn.CO s p,0):=by obtain⟨p,h1,g⟩:=dK h d hi;unfold LC;rw[ε h.chk,Af (b:=!(0:Int)==0) _ _ rfl,κ (by unfold Gl;simp;omega),ε g]<;>grind
def vε {v k}:Em (v,k)=true↔(0<=v.1/\v.1<k)/\(0<=v.2.1/\v.2.1<=1048576)/\0<=v.2.2/\v.2.2<=1048576:=by unfold Em<;>grind
structure BA (n:AU) (m:AZ):Prop where
 c1:Aa m.1=Aa n.2.1
 c:∀v∈m.1,UD n v
 o:uF n m.2.1
 b:Wp n m.2.2.1
 l1:Aa m.2.2.2.1=Aa n.1
 l:∀i s r,idx n.1 i=some s->idx m.2.2.2.1 i=some r->Aa r=BO s/\Hh r
 p1:Aa m.2.2.2.2=Aa n.1
 p:∀i s v,idx n.1 i=some s->idx m.2.2.2.2 i=some v->R8 s v
def NJ {α:Type} {l:List α} (h:Aa l<=1000):l.length<=maxLen:=by unfold Aa at h;unfold maxLen;omega
def AgD {n} (h:DH n) m:∃b,MI (n,m)=some b/\(b=true↔BA n m):=by
 have u2:=h.u2;have w2:=h.w2;have n2:=h.n2;unfold MI;by_cases c:(!Aa m.1==Aa n.2.1||!Aa m.2.1==Aa n.2.2.1||!Aa m.2.2.1==Aa n.2.2.1||!Aa m.2.2.2.1==Aa n.1||!Aa m.2.2.2.2==Aa n.1)=true
 .rw[ι c];refine ⟨false,rfl,nofun,λd=>?_⟩;rw[d.c1,d.o.1,d.b.1,d.l1,d.p1] at c;simp at c
 rw[κ (Bool.eq_false_iff.2 c),ε (P9 h)];simp only[Qaj,Qal,beq_eq_false_iff_ne,ne_eq,not_or,Qcq] at c;obtain⟨⟨⟨⟨d1,d2⟩,d3⟩,d4⟩,d5⟩:=c;refine Bn (λr:Option Bool=>∃b,r=some b/\(b=true↔BA n m)) (λ_ v=>UD n v) (some false) _ (NJ (by omega)) (λi v X i1 g=>?_) λi hi=>by rw[κ (decide_eq_false hi)] (λh1=>?_) λhn=>⟨false,rfl,nofun,λd=>absurd (λi v g=>d.c v (Ag g).2.2) hn⟩
 .rw[ι (decide_eq_true i1),ε g,Au];by_cases c:Em (v,1048577)=true
  .rw[κ (by rw[c];rfl)];obtain⟨b,b1,b2⟩:=Tl (P5 h.t);rw[ε b1];cases b with
   |false=>exact .inr ⟨λd=>(by have:=b2.2 d.1;cases this),by rw[ι (b:=!false) rfl]⟩
   |true =>refine .inl ⟨⟨b2.1 rfl,?_⟩,by rw[κ (b:=!true) rfl]⟩;have:=vε.1 c;exact ⟨by omega,this.2⟩
  .rw[ι (by simp_all)];exact .inr ⟨λd=>c (vε.2 ⟨by have:=d.2.1;omega,d.2.2⟩),rfl⟩
 refine Bn (λr:Option Bool=>∃b,r=some b/\(b=true↔BA n m)) (λi w=>(∀x,idx m.2.1 i=some x->jH w x)/\∀b,idx m.2.2.1 i=some b->PM b) (some false) _ (NJ (by omega)) (λi w X i1 Z=>?_) λi hi=>by rw[κ (decide_eq_false hi)] (λh2=>?_) λhn=>⟨false,rfl,nofun,λd=>absurd (λi w Z=>⟨λx hx=>d.o.2 i w x Z hx,λb I=>d.b.2 b (Ag I).2.2⟩) hn⟩
 .obtain⟨x,hx,_⟩:=Ai (l:=m.2.1) X (by omega);obtain⟨b,I,_⟩:=Ai (l:=m.2.2.1) X (by omega);rw[ι (decide_eq_true i1),ε Z,ε hx,Au];by_cases c:Em (x,Aa w.2.2.2)=true
  .rw[κ (by rw[c];rfl),ε I];by_cases c2:b.2<0
   .rw[ι (decide_eq_true c2)];exact .inr ⟨λd=>by have:=(d.2 b I).1;omega,rfl⟩
   rw[κ (decide_eq_false c2),ε I];by_cases c3:1048576<b.2
   .rw[ι (decide_eq_true c3)];exact .inr ⟨λd=>by have:=(d.2 b I).2;omega,rfl⟩
   rw[κ (decide_eq_false c3)];refine .inl ⟨⟨λy E=>?_,λy E=>?_⟩,rfl⟩
   .rw[hx] at E;cases E;exact vε.1 c
   .rw[I] at E;cases E;exact ⟨by omega,by omega⟩
  .rw[ι (by rw[Bool.eq_false_iff.2 c];rfl)];exact .inr ⟨λd=>c (vε.2 (d.1 x hx)),rfl⟩
 refine Bn (λr:Option Bool=>∃b,r=some b/\(b=true↔BA n m)) (λi s=>(∀r,idx m.2.2.2.1 i=some r->Aa r=BO s/\Hh r)/\∀v,idx m.2.2.2.2 i=some v->R8 s v) (some false) _ (NJ (by omega)) (λi s X i1 J=>?_) λi hi=>by rw[κ (decide_eq_false hi)] (λh3=>?_) λhn=>⟨false,rfl,nofun,λd=>absurd (λi s J=>⟨λr Y=>d.l i s r J Y,λv g=>d.p i s v J g⟩) hn⟩
 .obtain⟨r,Y,_⟩:=Ai (l:=m.2.2.2.1) X (by omega);obtain⟨v,g,_⟩:=Ai (l:=m.2.2.2.2) X (by omega);obtain⟨a,x,e,g1,g2,_⟩:=eQ r;rw[ι (decide_eq_true i1),ε J,ε Y,ε g1,ε Y];by_cases c:(!Aa r==Aa s.2.2.2.2.1||!e==0)=true
  .rw[ι c];refine .inr ⟨λd=>?_,rfl⟩;have:=d.1 r Y;rw[g2.2 this.2,show Aa s.2.2.2.2.1=Aa r from this.1.symm] at c;simp at c
  rw[κ (Bool.eq_false_iff.2 c),ε g,Au];simp only[Qaj,Qal,beq_eq_false_iff_ne,ne_eq,not_or,Qcq] at c;by_cases c2:Em (v,B8 1 (Aa s.2.2.2.2.2.2.2.2.2.2.2))=true
  .rw[κ (by rw[c2];rfl)];refine .inl ⟨⟨λy E=>?_,λy E=>?_⟩,rfl⟩
   .rw[Y] at E;cases E;exact ⟨c.1,g2.1 c.2⟩
   .rw[g] at E;cases E;have:=vε.1 c2;have hq:=aG (h.st i s J).1;have e:B8 1 (Aa s.2.2.2.2.2.2.2.2.2.2.2)=Cf s:=rfl;exact ⟨this.1,by omega,this.2⟩
  .rw[ι (by rw[Bool.eq_false_iff.2 c2];rfl)];exact .inr ⟨λd=>c2 (vε.2 ⟨(d.2 v g).1,(d.2 v g).2.2⟩),rfl⟩
 refine ⟨true,rfl,λ_=>⟨d1,λv g=>?_,⟨d2,λi w x Z hx=>(h2 i w Z).1 x hx⟩,⟨d3,λb I=>?_⟩,d4,λi s r J Y=>(h3 i s J).1 r Y,d5,λi s v J g=>(h3 i s J).2 v g⟩,λ_=>rfl⟩
 .obtain⟨i,hi⟩:=BZ g;exact h1 i v hi
 .obtain⟨i,hi⟩:=BZ I;obtain⟨X,i1,_⟩:=Ag hi;obtain⟨w,Z,_⟩:=Ai (l:=n.2.2.1) X (by omega);exact (h2 i w Z).2 b hi
def n7 {n} (h:DH n) m:∃e,GD (n,m)=some e/\(e=0↔BA n m):=by
 obtain⟨b,c,d⟩:=AgD h m;unfold GD;rw[ε h.chk,Af (b:=!(0:Int)==0) _ _ rfl,ε c];cases b with
 |false=>exact ⟨8,rfl,nofun,λg=>by simp_all⟩
 |true=>exact ⟨0,rfl,λ_=>d.1 rfl,λ_=>rfl⟩
def Acd {n m} (h:DH n) (c:BA n m):DU m=some m:=by
 have u2:=h.u2;have w2:=h.w2;have n2:=h.n2;have c1:=c.c1;have o1:=c.o.1;have b1:=c.b.1;have l1:=c.l1;have p1:=c.p1;have E:BJ m.1=some m.1:=by unfold BJ;rw[ι (by rw[Qap];exact room_le (by omega))];rfl
 have I:BJ m.2.1=some m.2.1:=by unfold BJ;rw[ι (by rw[Qap];exact room_le (by omega))];rfl
 have e3:Ej m.2.2.1=some m.2.2.1:=by unfold Ej;rw[ι (by rw[Qap];exact room_le (by omega))];rfl
 have J:CY m.2.2.2.1=some m.2.2.2.1:=by unfold CY;rw[ι (by rw[Qap];exact room_le (by omega))];rfl
 have X:BJ m.2.2.2.2=some m.2.2.2.2:=by unfold BJ;rw[ι (by rw[Qap];exact room_le (by omega))];rfl
 unfold DU;rw[ε E,ε I,ε e3,ε J,ε X];refine Ap (λz:Int×AZ=>z.1) (Aa m.2.2.2.1) (λz=>z.2=m) (λr=>r=some m) (by omega) (by simp) (Ak _) rfl (λz g t i1=>?_) λz g Y=>?_
 .obtain⟨i,Z⟩:=z;simp only at g t i1;subst g;obtain⟨r,d,_⟩:=Ai t i1;obtain⟨s,y,_⟩:=Ai (l:=n.1) t (by omega);have hl:=c.l i s r y d;have hp:=(h.st i s y).1.ph;have hc:B7 r=some r:=by unfold B7;rw[ι (by rw[Qap];exact room_le (by omega))];rfl
  try simp only
  rw[ι (decide_eq_true i1),ε d,ε d,ε hc,ε d,ε d,Aj (i+1) (by omega) (by omega)];refine ⟨rfl,?_⟩;have:= Eg (AN _ _ _) (λj j0 _=>by
   rw[By t i1];split
   .rename_i e;subst e;exact d.symm
   .rfl);simp only;rw[this]
 .obtain⟨i,Z⟩:=z;simp only at g Y;subst g;try simp only
  rw[κ (decide_eq_false (by omega))];exact rfl
def Ahy {n} (h:DH n) i:∃u e,Q5 (n,i)=some (u,e)/\0<=u/\u<Aa n.2.1:=by
 have u1:=h.u1;have u2:=h.u2;unfold Q5;rw[ε h.chk,Af (b:=!(0:Int)==0) _ _ rfl];refine Ap (λi:Int=>i) (Aa n.2.1) (λ_=>True) (λr=>∃u e,r=some (u,e)/\0<=u/\u<Aa n.2.1) (by omega) (by omega) (by omega) trivial (λj _ d c=>?_) λj _ E=>?_
 .obtain⟨u,g,t⟩:=Ai d c;obtain⟨b,y,_⟩:=Tl (h.f.us u t);try simp only
  rw[ι (decide_eq_true c),ε g,ε y];cases b with
  |true=>rw[ι rfl,κ (decide_eq_false (by omega))];exact ⟨j,0,rfl,d,c⟩
  |false=>rw[κ rfl,Aj (j+1) (by omega) (by omega)];exact ⟨rfl,trivial⟩
 .try simp only
  rw[κ (decide_eq_false (by omega))];exact ⟨0,2,rfl,by omega,by omega⟩
def Ei (n:AU) (m:AZ):Prop:=(∀v∈m.1,v.1=Dd n)/\∀r∈m.2.2.2.1,∀x∈r,x=0
structure Ur (s:Al) (c:FG):Prop where
 id:c.1=s.1
 ok:NU c
abbrev Yx:=AU×AZ×List Int×List Int×List FG
def Ad4 {n m u} (h:DH n) (d:BA n m) (E:0<=u) (u1:u<Aa n.2.1):∃s r,idx n.2.1 u=some s/\idx m.2.2.2.1 s.2=some r/\Hh r:=by obtain⟨s,g,_⟩:=Ai E u1;have S:=h.sub u s g;have c:=S.1 _ S.2;obtain⟨t,I,_⟩:=Ai c.1 c.2;obtain⟨r,y,_⟩:=Ai c.1 (by rw[d.l1];exact c.2);exact ⟨s,r,g,y,(d.l _ t r I y).2⟩
def Agb {n} (h:DH n) m:∃g l e,Lr (n,m)=some (g,(l,e))/\(e≠0/\l=[]\/BA n g/\Aa l=Aa n.1/\(∀i s c,idx n.1 i=some s->idx l i=some c->Ur s c/\(Ei n m->c.2.1=Dd n))/\(Ei n m->Ei n g))/\(BA n m->e=0):=by
 have u1:=h.u1;have u2:=h.u2;have w2:=h.w2;have n1:=h.n1;have n2:=h.n2;obtain⟨e,e1,e2⟩:=n7 h m;unfold Lr;rw[ε e1];by_cases c0:e≠0
 .rw[ι (by simpa using c0)]<;>grind
 have c0:=Decidable.not_not.1 c0;have hm:=e2.1 c0;rw[κ (by simpa using c0),ε (Acd h hm)];have c1:=hm.c1;clear e1 e2 c0;let P:Option (AZ×List FG×Int)->Prop:=λr=>∃g l e,r=some (g,(l,e))/\(e≠0/\l=[]\/BA n g/\Aa l=Aa n.1/\(∀i s c,idx n.1 i=some s->idx l i=some c->Ur s c/\(Ei n m->c.2.1=Dd n))/\(Ei n m->Ei n g))/\(BA n m->e=0);show P (iter none _ Am ((0:Int),(n,(m,(([]:List Int),(([]:List Int),([]:List FG)))))));refine Ap (λz:Int×Yx=>z.1) (Aa m.1) (λz=>∃g,z.2=(n,(g,([],([],[]))))/\BA n g/\(Ei n m->Ei n g)) P (by omega) (by simp) (Ak _) ⟨m,rfl,hm,id⟩ (λz E J i1=>?_) λz E hz=>?_
 .obtain⟨i,z⟩:=z;simp only at E J i1;obtain⟨g,rfl,d,X⟩:=E;obtain⟨s,r,hs,hr,hf⟩:=Ad4 h d J (by omega);obtain⟨b,x,g1,g2,g3,_⟩:=Vm hf;obtain⟨v,Y,a6⟩:=Ai J (by rw[d.c1];omega);obtain⟨v',t1,t2,t3⟩:=Aey h (d.c v a6) g2;try simp only
  rw[ι (decide_eq_true i1),ε hs,ε hr,ε g1,ε Y,ε Y,ε t1,ε Y,ε Y,Aj (i+1) (by omega) (by omega)];refine ⟨rfl,_,rfl,{d with c1:=by simp only;rw[AN];exact d.c1,c:=λy I=>?_},λa7=>?_⟩
  .rcases IV I with I|rfl
   .exact d.c y I
   .exact t2
  .have hL:=X a7;refine ⟨λy I=>?_,hL.2⟩;rcases IV I with I|rfl
   .exact hL.1 y I
   .exact t3 (g3 (hL.2 r (Ag hr).2.2)) (hL.1 v a6)
 obtain⟨i,z⟩:=z;simp only at E hz;obtain⟨m1,rfl,an,ao⟩:=E;try simp only
 rw[κ (decide_eq_false (by omega))];refine Ap (λz:Int×Yx=>z.1) (Aa n.2.2.1) (λz=>∃g,z.2=(n,(g,([],([],[]))))/\BA n g/\(Ei n m->Ei n g)) P (by omega) (by simp) (Ak _) ⟨m1,rfl,an,ao⟩ (λz E J i1=>?_) λz E hz=>?_
 .obtain⟨i,z⟩:=z;simp only at E J i1;obtain⟨g,rfl,d,X⟩:=E;obtain⟨w,hw,_⟩:=Ai J i1;have W:=h.wed i w hw;have wa:=W.a;have aq:=W.ab;have wb:=W.b;obtain⟨b,hb,af⟩:=Ai J (by rw[d.b.1];omega);obtain⟨x,Z,ar⟩:=Ai wa (by rw[d.c1];omega);obtain⟨y,I,au⟩:=Ai (i:=w.2.1) (by omega) (by rw[d.c1];omega);obtain⟨b',t1,t2⟩:=Aer h J i1 (d.b.2 b af) (d.c x ar).1 (d.c y au).1;try simp only
  rw[ι (decide_eq_true i1),ε hw,ε hb,ε hb,ε Z,ε I,ε t1,ε hb,ε hb,Aj (i+1) (by omega) (by omega)];refine ⟨rfl,_,rfl,{d with b:=⟨by simp only;rw[AN];exact d.b.1,λy I=>?_⟩},X⟩;rcases IV I with I|rfl
  .exact d.b.2 y I
  .exact t2
 obtain⟨i,z⟩:=z;simp only at E hz;obtain⟨m2,rfl,av,aw⟩:=E;try simp only
 rw[κ (decide_eq_false (by omega))];refine Ap (λz:Int×Yx=>z.1) (Aa n.2.2.1) (λz=>∃g,z.2=(n,(g,([],([],[]))))/\BA n g/\(Ei n m->Ei n g)) P (by omega) (by simp) (Ak _) ⟨m2,rfl,av,aw⟩ (λz E J i1=>?_) λz E hz=>?_
 .obtain⟨i,z⟩:=z;simp only at E J i1;obtain⟨g,rfl,d,X⟩:=E;obtain⟨w,hw,_⟩:=Ai J i1;have W:=h.wed i w hw;have wa:=W.a;have aq:=W.ab;have ax:=d.o.1;obtain⟨v,Y,a6⟩:=Ai (l:=g.2.1) J (by omega);obtain⟨s,r,hs,hr,hf⟩:=Ad4 h d (by omega) W.b;have aj:Fe ((n.2.1,g.2.2.2.1),w.2.1)=some r:=by unfold Fe;rw[ε hs,ε hr]
  obtain⟨v',t1,t2⟩:=Ae9 h hw (d.o.2 i w v hw Y) hf;try simp only
  rw[ι (decide_eq_true i1),ε hw,ε Y,ε Y,ε aj,ε t1,ε Y,ε Y,Aj (i+1) (by omega) (by omega)];refine ⟨rfl,_,rfl,{d with o:=⟨by simp only;rw[AN];exact ax,λj w' y ag I=>?_⟩},X⟩;simp only at I;rw[By J (by omega)] at I;split at I
  .rename_i e;subst e;rw[hw] at ag;cases ag;cases I;exact t2
  .exact d.o.2 j w' y ag I
 obtain⟨i,z⟩:=z;simp only at E hz;obtain⟨m3,rfl,a8,ak⟩:=E;try simp only
 rw[κ (decide_eq_false (by omega))];have c3:=a8.c1;refine Ap (λz:Int×List Int×Yx=>z.1) (Aa m3.1) (λz=>z.2.2=(n,(m3,([],([],[]))))/\Aa z.2.1=z.1/\(∀x∈z.2.1,x∈DW n)/\(Ei n m->∀x∈z.2.1,x=Dd n)) P (by omega) (by simp) (Ak _) ⟨rfl,rfl,λx Z=>(by cases Z),λ_ x Z=>by cases Z⟩ (λz E J i1=>?_) λz E hz=>?_
 .obtain⟨i,now,z⟩:=z;simp only at E J i1;obtain⟨rfl,ay,ad,ah⟩:=E;obtain⟨v,Y,a6⟩:=Ai J i1;try simp only
  rw[ι (decide_eq_true i1),ε Y,ι (AV (by omega)),Aj (i+1) (by omega) (by omega)];refine ⟨rfl,rfl,by simp only;rw[BK];omega,λx Z=>?_,λa7 x Z=>?_⟩
  .rcases List.mem_append.1 Z with Z|Z
   .exact ad x Z
   .rw[List.mem_singleton.1 Z];exact (a8.c v a6).1
  .rcases List.mem_append.1 Z with Z|Z
   .exact ah a7 x Z
   .rw[List.mem_singleton.1 Z];exact (ak a7).1 v a6
 obtain⟨i,now,z⟩:=z;simp only at E hz;obtain⟨rfl,ay,ad,ah⟩:=E;obtain⟨cs,q1,q2,q3⟩:=Acg h a8.b ⟨by omega,ad⟩;obtain⟨bg,g1,g2,g3⟩:=Aaa h a8.b a8.o (cs:=now) ⟨by omega,ad⟩;try simp only
 rw[κ (decide_eq_false (by omega)),ε q1,ε g1];refine Ap (λz:Int×Yx=>z.1) (Aa n.1) (λz=>∃g l,z.2=(n,(g,(cs,(bg,l))))/\BA n g/\(Ei n m->Ei n g)/\Aa l=z.1/\∀i s c,idx n.1 i=some s->idx l i=some c->Ur s c/\(Ei n m->c.2.1=Dd n)) P (by omega) (by simp) (Ak _) ⟨m3,[],rfl,a8,ak,rfl,λi s c _ hc=>by have:=(Ag hc).2.2;cases this⟩ (λz E J i1=>?_) λz E hz=>?_
 .obtain⟨i,z⟩:=z;simp only at E J i1;obtain⟨g,l,rfl,d,X,az,ai⟩:=E;have aB:=d.p1;obtain⟨s,hs,_⟩:=Ai J i1;have hS:=h.st i s hs;obtain⟨u,ue,k1,k2,k3⟩:=Ahy h i;obtain⟨v,Y,_⟩:=Ai (l:=g.2.2.2.2) J (by omega);obtain⟨c,hc,al⟩:=Ai (l:=cs) k2 (by omega);obtain⟨b,hb,af⟩:=Ai (l:=bg) k2 (by omega);obtain⟨r,hr,_⟩:=Ai (l:=g.2.2.2.1) J (by rw[d.l1];omega);have aj:=P7 h (ad c (q3 c al));have aP:=g3 b af;obtain⟨v',t1,t2⟩:=Afy hS.1 (d.p i s v hs Y) (c:=c) (by omega) (d.l i s r hs hr).2;obtain⟨p,p1,p2⟩:=AdK hS.1 (i:=v'.1) (c:=c) (by omega) t2.1;have W:=KN hS.1 (Pn.lU (p:=p) hS.1.f hS.1.ok);have ae:idx (AB g.2.2.2.2 i v') i=some v':=by rw[By J (by omega),if_pos rfl]
  have Wc:=W.c;have Wo:=W.o;try simp only
  rw[ι (decide_eq_true i1),ε hs,ε k1,ε Y,ε Y,ε hc,ε hr,ε t1,ε Y,ε Y,ε ae,ε ae,ε hc,ε p2,ε hb,ι (by simp;omega),ι (AV (by omega)),Aj (i+1) (by omega) (by omega),Aj ((Pn.CO s p).2.1+b) (by omega) (by omega)];refine ⟨rfl,_,_,rfl,{d with p1:=by simp only;rw[AN];exact aB,p:=λj s' y a1 I=>?_},X,by rw[BK];omega,λj s' c' a1 aa=>?_⟩
  .simp only at I;rw[By J (by omega)] at I;split at I
   .rename_i e;subst e;rw[hs] at a1;cases a1;cases I;exact t2
   .exact d.p j s' y a1 I
  .obtain⟨j0,j1,_⟩:=Ag aa;rw[DX j0] at aa;split at aa
   .exact ai j s' c' a1 aa
   .rw[BK] at j1;obtain rfl:j=i:=by omega
    rw[show j-Aa l=0 by omega] at aa;rw[hs] at a1;cases a1;cases aa;have r2:BB ((Pn.CO s p).2.1+b) (Pn.CO s p).1<(Pn.CO s p).1:=Qby _ (by omega);refine ⟨⟨rfl,⟨hS.1.ok.id,⟨Wc,⟨Qcr _ (by omega),by simp only;omega⟩,W.n,W.m⟩⟩⟩,λa7=>?_⟩;have e:=ah a7 c (q3 c al);show min (max p.1 (Pn.RG s)) (Pn.Lq s)=Dd n;have:=hS.2.1;have:=hS.2.2;have:=h.t.l2;omega
 .obtain⟨i,z⟩:=z;simp only at E hz;obtain⟨g,l,rfl,d,X,az,ai⟩:=E;try simp only
  rw[κ (decide_eq_false (by omega))];exact ⟨g,l,0,rfl,.inr ⟨d,by omega,ai,X⟩,λ_=>rfl⟩
def vV {l} (hl:Aa l<=10000):∃r e,F0 l=some (r,e):=by
 unfold F0;obtain⟨Y,d1,n1,h1,k1,q1,r1⟩:=K8 (b:=l) (most:=65535) (by omega) (by decide) (by decide);obtain⟨Z,d2,n2,h2,k2,q2,r2⟩:=K8 (b:=Y) (most:=3) (by omega) (by decide) (by decide);obtain⟨b3,d3,n3,h3,k3,q3,r3⟩:=K8 (b:=Z) (most:=1073741824) (by omega) (by decide) (by decide);obtain⟨b4,d4,n4,h4,k4,q4,r4⟩:=K8 (b:=b3) (most:=8) (by omega) (by decide) (by decide);rw[ε h1];try simp only
 rw[ε h2];try simp only
 rw[ε h3];try simp only
 rw[ε h4];try simp only
 refine Ap (λz:Int×Fs×Ot=>z.1) n4 (λz=>Aa z.2.2.1<=10000/\z.2.1.1=n1/\z.2.1.2.1=wr .u8 n2/\z.2.1.2.2.1=n3/\Aa z.2.1.2.2.2=z.1/\∀x∈z.2.1.2.2.2,0<=x/\x<=70368744177664) (λr=>∃c e,r=some (c,e)) (by omega) (by simp) q4 ⟨by grind,rfl,rfl,rfl,rfl,λx d=>by cases d⟩ (λz t i0 i1=>?_) λz t J=>?_
 .obtain⟨i,⟨a1,a2,a3,a4⟩,X,rd⟩:=z;obtain⟨g1,y,h,E,I,g⟩:=t;simp only at i0 i1 g1 I g;obtain⟨b5,d5,n5,h5,k5,q5,r5⟩:=K8 (b:=X) (most:=70368744177664) (by omega) (by decide) (by decide);try simp only
  rw[ι (decide_eq_true i1),ε h5];try simp only
  rw[ι (AV (by omega)),Aj (i+1) (by omega) (by omega)];refine ⟨rfl,by simp only;omega,y,h,E,by simp only;rw[BK];omega,λx d=>?_⟩;rcases List.mem_append.1 d with d|d
  .exact g x d
  .rw[List.mem_singleton.1 d];exact ⟨q5,r5⟩
 .obtain⟨i,⟨a1,a2,a3,a4⟩,X,rd⟩:=z;obtain⟨g1,y,h,E,I,g⟩:=t;simp only at J g1 y h E I g;subst J;try simp only
  rw[Oo n2 (by omega) (by omega)] at h;rw[κ (decide_eq_false (by omega)),ε (XJ ⟨by simp only;omega,by simp only;omega,by simp only;omega,by simp only;omega,g⟩),AK];split
  .exact ⟨_,_,rfl⟩
  .exact ⟨_,_,rfl⟩
def Ae6 {n} (h:DH n) d:∃i e,MJ (n,d)=some (i,e)/\(e=0->0<=i/\i<Aa n.1):=by
 have n1:=h.n1;have n2:=h.n2;unfold MJ;rw[ε h.chk,Af (b:=!(0:Int)==0) _ _ rfl];refine Ap (λi:Int=>i) (Aa n.1) (λ_=>True) (λr=>∃i e,r=some (i,e)/\(e=0->0<=i/\i<Aa n.1)) (by omega) (by omega) (by omega) trivial (λj _ t g=>?_) λj _ E=>?_
 .obtain⟨s,y,_⟩:=Ai t g;try simp only
  rw[ι (decide_eq_true g),ε y];by_cases c:(s.1==d)=true
  .rw[ι c,κ (decide_eq_false (by omega))];exact ⟨j,0,rfl,λ_=>⟨t,g⟩⟩
  .rw[κ (Bool.eq_false_iff.2 c),Aj (j+1) (by omega) (by omega)];exact ⟨rfl,trivial⟩
 .try simp only
  rw[κ (decide_eq_false (by omega))];exact ⟨0,2,rfl,nofun⟩
def Xz:G8 (0,(0,16384))=some (0,0):=by decide +kernel
def Aa3 {l r} (Y:Aa l=Aa r) (Z:Aa r<=1000):∃q e,cP l r=some (q,e)/\((∀x∈l,x=0)->(∀x∈r,x=0)->q=r/\e=0):=by
 unfold cP;refine Ap (λz:Int×List Int=>z.1) (Aa l) (λz=>Aa z.2=Aa r/\((∀x∈l,x=0)->(∀x∈r,x=0)->z.2=r)) (λo=>∃q e,o=some (q,e)/\((∀x∈l,x=0)->(∀x∈r,x=0)->q=r/\e=0)) (by omega) (by simp) (Ak _) ⟨rfl,λ_ _=>rfl⟩ (λz d g i1=>?_) λz d h=>?_
 .obtain⟨i,q⟩:=z;simp only at d g i1;obtain⟨I,h⟩:=d;obtain⟨x,J,t⟩:=Ai g i1;obtain⟨y,E,X⟩:=Ai (l:=q) g (by omega);try simp only
  rw[ι (decide_eq_true i1),ε J,ε E,Aj (i+1) (by omega) (by omega)];have zero:(∀x∈l,x=0)->(∀x∈r,x=0)->x=0/\y=0:=λa b=>⟨a x t,b y (by simp_all)⟩;rw[ε (Jb (y,(x,16384)))];by_cases c:(!(CA (y,(x,16384))).2==0)=true
  .rw[ι c];refine ⟨q,_,rfl,λa b=>?_⟩;obtain⟨rfl,rfl⟩:=zero a b;have:=(Jb (0,(0,16384))).symm.trans Xz<;>grind
  .rw[κ (Bool.eq_false_iff.2 c)];refine ⟨rfl,by simp only;rw[AN];exact I,λa b=>?_⟩;obtain⟨rfl,rfl⟩:=zero a b;have:=(Jb (0,(0,16384))).symm.trans Xz;rw[Qag this];simp only;rw[<-h a b];exact Eg (AN _ _ _) λj j0 _=>by
    rw[By g (by omega)];split
    .rename_i e;subst e;exact E.symm
    .rfl
 .obtain⟨i,q⟩:=z;simp only at d h;try simp only
  rw[κ (decide_eq_false (by omega))];exact ⟨q,0,rfl,λa b=>⟨d.2 a b,rfl⟩⟩
def Agy {n r} (h:DH n) m:∃g e,E7 (n,(m,r))=some (g,e)/\(e=0->BA n m->Ei n m->(∀x∈r.2.2.2,x=0)->BA n g/\Ei n g):=by
 obtain⟨e,J,X⟩:=n7 h m;unfold E7;rw[ε J];by_cases c0:e≠0
 .rw[ι (by simpa using c0)]<;>simp_all
 have c0:=Decidable.not_not.1 c0;have d:=X.1 c0;obtain⟨i,Y,s1,s2⟩:=Ae6 h r.1;rw[κ (by simpa using c0),ε s1];by_cases c1:Y≠0
 .rw[ι (by simpa using c1)]<;>grind
 have c1:=Decidable.not_not.1 c1;obtain⟨t,i1⟩:=s2 c1;have Z:=d.l1;obtain⟨row,c,y⟩:=Ai (l:=m.2.2.2.1) t (by omega);obtain⟨s,E,_⟩:=Ai t i1;have hR:=d.l i s row E c;have hp:=(h.st i s E).1.ph;rw[κ (by simpa using c1),ε c];by_cases c2:!Aa r.2.2.2==Aa row=true
 .rw[ι c2];exact ⟨_,4,rfl,nofun⟩
 rw[κ (Bool.eq_false_iff.2 c2),ε (Acd h d),ε c];obtain⟨q,f,q1,q2⟩:=Aa3 (by simpa using c2) (by omega);rw[ε q1];by_cases c3:f≠0
 .rw[ι (by simpa using c3)];exact ⟨_,f,rfl,λhh=>absurd hh c3⟩
 rw[κ (by simpa using c3)];refine ⟨_,0,rfl,λ_ _ I hz=>?_⟩;have hq:=(q2 hz λx hx=>I.2 row y x hx).1;subst hq;have:AB m.2.2.2.1 i q=m.2.2.2.1:=Eg (AN _ _ _) (λj j0 _=>by
  rw[By t (by omega)];split
  .rename_i e;subst e;exact c.symm
  .rfl);simp only[this];exact ⟨d,I⟩
def RJ (a b:List Int) (w t:Int):List Int×List Int:=(F9 (a,(b,(w,t)))).getD ([],[])
def AbC {a b w t} (Z:0<=t/\t<=1073741824):F9 (a,(b,(w,t)))=some (RJ a b w t)/\Aa (RJ a b w t).1<=49152/\Aa (RJ a b w t).2<=4096:=by
 have key:∃o h,F9 (a,(b,(w,t)))=some (o,h)/\Aa o<=49152/\Aa h<=4096:=by
  have la:=Ak a;have lb:=Ak b;have d:∃o h e,On (a,(b,(w,t)))=some (o,(h,e))/\Aa o<=49152:=by
   unfold On;by_cases c1:(decide (16384<Aa a)||decide (16384<Aa b))=true
   .rw[ι c1];exact ⟨_,_,_,rfl,by simp[Aa]⟩
   rw[κ (Bool.eq_false_iff.2 c1)];simp only[Qaj,decide_eq_true_eq,not_or,Qcb] at c1;obtain⟨c1,c2⟩:=c1;by_cases c3:4<w
   .rw[ι (decide_eq_true c3)];exact ⟨_,_,_,rfl,by simp[Aa]⟩
   rw[κ (decide_eq_false c3),κ (decide_eq_false (by simp_all)),ε (LK (l:=a) (by omega))];simp only;by_cases c4:(w==3)=true
   .rw[ι c4,ε (LK (by omega))]<;>grind
   have a1:=Az a b;have I:=Az (a++b) b;have r1:(true&&AA (Aa a+Aa b) 1)=true:=by rw[Qap];exact room_le (by omega)
   rw[κ (Bool.eq_false_iff.2 c4)];by_cases J:(w==2)=true
   .rw[ι J,ι r1,ι (by rw[Qap];exact room_le (by omega))]<;>grind
   rw[κ (Bool.eq_false_iff.2 J)];by_cases X:(w==0)=true
   .rw[ι X,ι r1]<;>grind
   rw[κ (Bool.eq_false_iff.2 X)];by_cases Y:(w==4)=true
   .rw[ι Y,ι r1];by_cases y:0<Aa b
    .have m0:0<=BB t (Aa b):=Qcr _ Z.1;have m1:BB t (Aa b)<Aa b:=Qby _ y;obtain⟨x,g,_⟩:=Ai (l:=a++b) (i:=Aa a+BB t (Aa b)) (by omega) (by omega);rw[ι (decide_eq_true y),ι (by simp;omega)];rw[Aj (Aa a+BB t (Aa b)) (by omega) (by omega),ε g,ε g,ε g,ε g];exact ⟨_,_,_,rfl,by rw[AN];omega⟩
    .rw[κ (decide_eq_false y)];exact ⟨_,_,_,rfl,by omega⟩
   .rw[κ (Bool.eq_false_iff.2 Y)];exact ⟨_,_,_,rfl,by omega⟩
  obtain⟨o,E,e,w1,w2⟩:=d;unfold F9;rw[ε w1];by_cases c:4096<Aa E
  .rw[ι (decide_eq_true c)];exact ⟨o,[],rfl,w2,by simp[Aa]⟩
  .rw[κ (decide_eq_false c)];exact ⟨o,E,rfl,w2,by omega⟩
 obtain⟨o,E,h1,h2,h3⟩:=key;unfold RJ;rw[h1];exact ⟨rfl,h2,h3⟩
def AdD l:∃ms la e,Cv l=some (ms,(la,e))/\(∀m∈ms,FA m)/\-1<=la/\la<=Aa l:=by
 by_cases c:Aa l<=16384
 .obtain⟨la,h1,g,h,_,_,_,h4⟩:=pM c<;>grind
 .refine ⟨[],0,3,?_,λm d=>(by cases d),by omega,Ak l⟩;unfold Cv;rw[ι (decide_eq_true (by omega))]
abbrev rDn (r:Bm):List (List Int):=r.2.2.1
abbrev rUp (r:Bm):List (List Int):=r.2.2.2.1
abbrev rLk (r:Bm):List DJ:=r.2.2.2.2.1
abbrev rRs (r:Bm):List (List Int):=r.2.2.2.2.2.1
abbrev rSe (r:Bm):List Int:=r.2.2.2.2.2.2.1
abbrev rTk (r:Bm):Int:=r.2.2.2.2.2.2.2
structure NV (n:AU) (r:Bm):Prop where
 l1:Aa r.1=Aa n.1
 l:∀i s x,idx n.1 i=some s->idx r.1 i=some x->E9 s x
 d1:Aa (rDn r)=Aa n.1
 u1:Aa (rUp r)=Aa n.1
 k1:Aa (rLk r)=Aa n.1
 k:∀x∈rLk r,I3 x
 r1:Aa (rRs r)=Aa n.1
 rs:∀x∈rRs r,Aa x<=2048
 s1:Aa (rSe r)=Aa n.1
 s:∀x∈rSe r,As x
 t:0<=rTk r/\rTk r<=1073741824
structure UA (n:AU) (p:EA):Prop where
 i1:Aa p.1=Aa n.1
 d1:Aa p.2.1=Aa n.1
 u1:Aa p.2.2=Aa n.1
 b:∀x∈p.1,Aa x.1<=900000/\x.2.2.1.length<=maxLen
def AdY (s:Al) (x:Be) (ip:Kw) (y:Be) (out:List Int):Prop :=
 ∃w asks lights,(ip.2.2.2.1=true->Acq s x y lights out)/\(ip.2.2.2.1=false->∃told well c,Ran s x ip y w asks lights out told well c)
structure UB (n:AU) (r:Bm) (m:AZ) (dn:List (List Int)) (se:List Int):Prop where
 d1:Aa dn=Aa n.1
 s1:Aa se=Aa n.1
 u:∀x∈se,As x
 each:∀i s p,idx n.1 i=some s->idx (rSe r) i=some p->idx dn i=some []/\idx se i=some p/\¬(BB (rTk r) (Dd n)=0/\BA n r.2.1/\p≠4294967295) \/
  ∃c,Ur s c/\(Ei n r.2.1->c.2.1=Dd n)/\idx dn i=some (Ep (2,(p+1,Bg (Ny c))))/\idx se i=some (p+1)/\p<4294967295/\BB (rTk r) (Dd n)=0
 good:BA n r.2.1->Ei n r.2.1->BA n m/\Ei n m
def AdW (n:AU) (r:Bm) (p:EA) (dn:List (List Int)) (L:List Be) (D U up:List (List Int)) (j:Int):Prop :=
 ∀s x d u ip a b q,idx n.1 j=some s->idx r.1 j=some x->idx (rDn r) j=some d->idx (rUp r) j=some u->idx p.1 j=some ip->idx p.2.1 j=some a->idx p.2.2 j=some b->idx dn j=some q ->
  ∃y out,idx L j=some y/\E9 s y/\AdY s x ((RJ d q a (rTk r)).1++ip.1,ip.2) y out/\idx D j=some (RJ d q a (rTk r)).2/\idx U j=some (RJ u out b (rTk r)).2/\idx up j=some (RJ u out b (rTk r)).1
def bH (m:CM):Prop:=FA m/\(0<=m.1/\m.1<=255)/\Bytes m.2.2/\∃r,YI r/\(∀x∈r.2.2.2,x=0)/\m.2.2=Bg (KZ r)
def j6 (a b:List Int):Prop:=(a=[]\/a=[126])/\(b=[]\/∃m,bH m/\b=Ep m)
structure wA (n:AU) (r:Bm) (p:EA) (r':Bm) (m:AZ) (dn up:List (List Int)):Prop where
 ok:NV n r'
 told:UB n r m dn (rSe r')
 site:∀j,AdW n r p dn r'.1 (rDn r') (rUp r') up j
 heard:(∀i a b,idx (rRs r) i=some a->idx up i=some b->j6 a b)->(∀x∈rRs r',x=[]\/x=[126])/\(BA n m->Ei n m->BA n r'.2.1/\Ei n r'.2.1)
 tick:rTk r'=min (rTk r+1) 1073741824
def SS (n:AU) (r:Bm) (p:EA) (o:Option (Bm×List (List Int))):Prop:=∃c lights m dn up,o=some (c,lights)/\wA n r p c m dn up
def WE {σ A K body} (G:A->Prop) (Q:σ->Prop) (c:∀k:σ->A,(∀t,Q t->G (k t))->G (body k)) (d:∀t,Q t->G (K t)):G (CT K body):=c K d
def Aah {c} (h:NU c):GC c=some (Bg (Ny c),0):=by have d:=h.plan.c;obtain⟨b,e,h1,g⟩:=dX c (by omega)<;>simp_all
def Aev {c} (h:NU c):Aa (Bg (Ny c))<=132:=by
 have h1:=(EH (Ny c)).2;have d:Aa (Ny c)=4+Aa c.2.2.2:=by unfold Ny;rw[Az];rfl
 have:=h.plan.n;omega
def Aew {c k} (h:NU c) (g:As k):FA (2,(k,Bg (Ny c)))/\Bytes (Bg (Ny c)):=by
 refine ⟨⟨g,by have:=Aev h<;>grind⟩,MP λx d=>?_⟩;have h1:=h.id;have t:=h.plan.c;have y:=h.plan.o;have h4:=h.plan.n;unfold Ny at d;rcases List.mem_append.1 d with d|d
 .grind
 .have:=h.plan.m x d;omega
def Aft {n r} (h:DH n) (c:NV n r):Lz r=some r:=by
 have n2:=h.n2;have y:=c.l1;have E:=c.d1;have a3:=c.u1;have a4:=c.k1;have I:=c.r1;have J:=c.s1;have d:∀l:List (List Int),Aa l<=12->E5 l=some l:=λl X=>by unfold E5;rw[ι (by rw[Qap];exact room_le (by omega))];rfl
 have g:G4 r.1=some r.1:=by unfold G4;rw[ι (by rw[Qap];exact room_le (by omega))];rfl
 have t:Ig (rLk r)=some (rLk r):=by unfold Ig;rw[ι (by rw[Qap];exact room_le (by omega))];rfl
 have e3:Jn (rSe r)=some (rSe r):=by unfold Jn;rw[ι (by rw[Qap];exact room_le (by omega))];rfl
 unfold Lz;rw[ε g,ε (d (rDn r) (by omega)),ε (d (rUp r) (by omega)),ε t,ε (d (rRs r) (by omega)),ε e3]
abbrev O8:=AU×Bm×EA×List (List Int)×List (List Int)×List (List Int)
structure XI (n:AU) (r:Bm) (p:EA) (dn:List (List Int)) (L:List Be) (D U up lights:List (List Int)) (i:Int):Prop where
 l1:Aa L=Aa n.1
 d1:Aa D=Aa n.1
 u1:Aa U=Aa n.1
 p1:Aa up=Aa n.1
 g1:Aa lights=i
 pb:∀x∈up,Aa x<=49152
 old:∀j,i<=j->idx L j=idx r.1 j/\idx D j=idx (rDn r) j/\idx U j=idx (rUp r) j
 new:∀j,j<i->AdW n r p dn L D U up j
def AfD {l ms} (c:I3 l) (d:∀m∈ms,FA m):∃l' tk e,Gu (l,ms)=some (l',(tk,e))/\I3 l'/\(∀m∈tk,FA m)/\Aa tk<=1024/\(Aa ms<=1024->∀m∈tk,m∈ms):=by
 by_cases t:Aa ms<=1024
 .obtain⟨y,E,g,I⟩:=SH ms l.1 l.2.1 c.last c.none d;exact ⟨_,_,_,Pf c d t,nI c d,λm h=>d m (g m h),by omega,λ_=>g⟩
 .obtain⟨l',tk,e,h1,J,X,h4⟩:=ZM c d<;>grind
def AdF:Cv []=some ([],(-1,0)):=by decide +kernel
def AdE:Cv (126::[])=some ([],(0,0)):=by decide +kernel
def AaY {a b:List Int} (h:j6 a b):∃ms la,Cv (a++b)=some (ms,(la,0))/\(∀m∈ms,bH m)/\Aa ms<=1/\((if 0<=la/\Aa (a++b)-la<=2048 then A5 (a++b) la else [])=[]\/(if 0<=la/\Aa (a++b)-la<=2048 then A5 (a++b) la else [])=[126]):=by
 obtain⟨g,y⟩:=h;rcases y with rfl|⟨m,d,rfl⟩
 .rcases g with rfl|rfl
  .exact ⟨[],-1,AdF,nofun,by simp[Aa],.inl rfl⟩
  .exact ⟨[],0,AdE,nofun,by simp[Aa],.inr rfl⟩
 .refine ⟨[m],_,AdG d.1 d.2.1 d.2.2.1 g,λq E=>by rw[List.mem_singleton.1 E];exact d,by simp[Aa],.inr ?_⟩;have X:=gE d.1.body;have I:=Ak a;have e:=Az a (Ep m);rw[if_pos ⟨by omega,by omega⟩];have c:=aX (m:=m) a;have t:=Fv c;have J:(a++Ep m).drop (Aa (a++Ep m)-1+1).toNat=[]:=Tb (by omega);rw[J] at t;exact t
def J5 {α l m i j} {v:α} (h0:0<=i) (h1:i<Aa l) (c:j≠i) (h:idx l j=idx m j):idx (AB l i v) j=idx m j:=by rw[By h0 h1,if_neg c];exact h
def J4 {α l i} {v:α} (h0:0<=i) (h1:i<Aa l):idx (AB l i v) i=some v:=by rw[By h0 h1,if_pos rfl]
def nW {α n j} {x y:α} (h:idx (Ay n x) j=some y):y=x:=(List.mem_replicate.1 (Ag h).2.2).2
def Abe {α:Type} {l:List α} {i} {a b:α}:AB (AB l i a) i b=AB l i b:=List.set_set _
def Ahd (n:AU) (r:Bm) (p:EA) (t:O8):Prop:=∃m dn se,t=(n,((r.1,(m,(rDn r,(rUp r,(rLk r,(rRs r,(se,rTk r))))))),(p,(dn,([],[])))))/\UB n r m dn se
def Aeb (n:AU) (r:Bm) (p:EA) (t:O8):Prop:=∃m dn se L D U up lights,t=(n,((L,(m,(D,(U,(rLk r,(rRs r,(se,rTk r))))))),(p,(dn,(up,lights)))))/\UB n r m dn se/\XI n r p dn L D U up lights (Aa n.1)
structure uE (n:AU) (r:Bm) (up:List (List Int)) (m m2:AZ) (K:List DJ) (S:List (List Int)) (i:Int):Prop where
 k1:Aa K=Aa n.1
 k:∀x∈K,I3 x
 s1:Aa S=Aa n.1
 s:∀x∈S,Aa x<=2048
 old:∀j,i<=j->idx S j=idx (rRs r) j
 good:(∀j a b,j<i->idx (rRs r) j=some a->idx up j=some b->j6 a b)->(∀j x,j<i->idx S j=some x->x=[]\/x=[126])/\(BA n m->Ei n m->BA n m2/\Ei n m2)
def AfY (n:AU) (r:Bm) (p:EA) (t:O8):Prop:=∃m dn se L D U up lights c K S,t=(n,((L,(c,(D,(U,(K,(S,(se,rTk r))))))),(p,(dn,(up,lights)))))/\UB n r m dn se/\XI n r p dn L D U up lights (Aa n.1)/\uE n r up m c K S (Aa n.1)
set_option maxHeartbeats 1000000 in
def AgS {n:AU} (h:DH n) {r:Bm} (hr:NV n r) {p:EA} (hp:UA n p):SS n r p (MT (n,(r,p))):=by
 have n1:=h.n1;have n2:=h.n2;have ht:=hr.t;have bg:1<=n.2.2.2.1:=h.t.l1;unfold MT;rw[ε (Aft h hr)];refine WE (SS n r p) (Ahd n r p) (λk hk=>?_) (λt a1=>?_)
 .have X:∀m:AZ,(BA n r.2.1->BB (rTk r) (Dd n)≠0)->(BA n r.2.1->m=r.2.1)->UB n r m (Ay (Aa n.1) []) (rSe r):=λm ar au =>⟨AM (by omega) _,hr.s1,hr.s,λi s q Z hq=>.inl ⟨by have:=Ag Z;exact IP this.1 this.2.1 _,hq,λhh=>ar hh.2.1 hh.1⟩,λa b=>by rw[au a];exact ⟨a,b⟩⟩;rw[ι (C6 (by simp only;omega) (by simp only;omega)),ι (by simp;omega)];by_cases c0:BB (rTk r) (Dd n)=0
  .rw[κ (by simpa using c0)];obtain⟨m',l,e,b1,b2,b3⟩:=Agb h r.2.1;rw[ε b1];rcases b2 with ⟨ag,rfl⟩|⟨av,bh,aw,ax⟩
   .refine Ap (λz:Int×O8=>z.1) 0 (λz=>z.2=(n,((r.1,(m',(rDn r,(rUp r,(rLk r,(rRs r,(rSe r,rTk r))))))),(p,(Ay (Aa n.1) [],([],[])))))) (SS n r p) (by omega) (by simp) (by simp) rfl (λz J E i1=>by omega) (λz J hz=>?_);obtain⟨i,z⟩:=z;simp only at J hz;subst J;try simp only
    rw[κ (decide_eq_false (by simp[Aa];omega))];exact hk _ ⟨m',_,rSe r,rfl,X m' (λhm _=>ag (b3 hm)) (λhm=>absurd (b3 hm) ag)⟩
   .refine Ap (λz:Int×O8=>z.1) (Aa n.1) (λz=>∃dn se,z.2=(n,((r.1,(m',(rDn r,(rUp r,(rLk r,(rRs r,(se,rTk r))))))),(p,(dn,([],[])))))/\Aa dn=Aa n.1/\Aa se=Aa n.1/\(∀x∈se,As x)/\(∀j,0<=j->z.1<=j->j<Aa n.1->idx dn j=some []/\idx se j=idx (rSe r) j)/\∀j s q,j<z.1->idx n.1 j=some s->idx (rSe r) j=some q->(idx dn j=some []/\idx se j=some q/\¬(BB (rTk r) (Dd n)=0/\BA n r.2.1/\q≠4294967295))\/∃c,Ur s c/\(Ei n r.2.1->c.2.1=Dd n)/\idx dn j=some (Ep (2,(q+1,Bg (Ny c))))/\idx se j=some (q+1)/\q<4294967295/\BB (rTk r) (Dd n)=0) (SS n r p) (by omega) (by simp) (Ak _) ⟨Ay (Aa n.1) [],rSe r,rfl,AM (by omega) _,hr.s1,hr.s,λj j0 _ j2=>⟨IP j0 j2 _,rfl⟩,λj s q hj Z=>absurd (Ag Z).1 (by simp only at hj;omega)⟩ (λz J E i1=>?_) (λz J hz=>?_)
    .obtain⟨i,z⟩:=z;simp only at J E i1;obtain⟨dn,se,rfl,g1,g2,g3,g4,g5⟩:=J;obtain⟨c,hc,_⟩:=Ai (l:=l) E (by omega);obtain⟨s,Z,_⟩:=Ai (l:=n.1) E i1;obtain⟨q,hq,ay⟩:=Ai (l:=se) E (by omega);have ah:idx (rSe r) i=some q:=by rw[<-(g4 i E (by omega) i1).2];exact hq
     have ae:=(g4 i E (by omega) i1).1;have az:=g3 q ay;obtain⟨af,aB⟩:=aw i s c Z hc;try simp only
     rw[ι (decide_eq_true (by omega)),ε hc,ε hq,ε hq,Au,Aj (i+1) (by omega) (by omega)];unfold Ht;unfold As at az;by_cases c1:q=4294967295
     .rw[ι (b:=q==4294967295) (by simpa using c1),Ae (b:=!((2:Int)==0)) _ _ rfl];refine ⟨rfl,dn,se,rfl,g1,g2,g3,λj j0 j1 j2=>g4 j j0 (by simp only at j1;omega) j2,λj s' q' hj a8 a6=>?_⟩;by_cases e:j=i
      .subst e;rw[ah] at a6;cases a6;exact .inl ⟨ae,hq,λhh=>hh.2.2 c1⟩
      .exact g5 j s' q' (by simp only at hj;omega) a8 a6
     .have aa:As (q+1):=⟨by omega,by omega⟩;obtain⟨aP,b0⟩:=Aew af.ok aa;have hw:wr .u32 (q+1)=q+1:=by rw[Pu];omega
      rw[κ (b:=q==4294967295) (by simpa using c1),Af (b:=!((0:Int)==0)) _ _ rfl,ε (Aah af.ok)];simp only;rw[hw,ε (uG aP (show (0:Int)<=2/\(2:Int)<=255 by decide) b0),ε ae,ε ae,ε hq,ε hq];refine ⟨rfl,_,_,rfl,by rw[AN];exact g1,by rw[AN];exact g2,λx I=>?_,λj j0 j1 j2=>?_,λj s' q' hj a8 a6=>?_⟩
      .rcases IV I with I|rfl
       .exact g3 x I
       .exact aa
      .simp only at j1;rw[By E (by omega),By E (by omega),if_neg (by omega),if_neg (by omega)];exact g4 j j0 (by omega) j2
      .by_cases e:j=i
       .subst e;rw[ah] at a6;cases a6;rw[Z] at a8;cases a8;exact .inr ⟨c,af,aB,J4 E (by omega),J4 E (by omega),by omega,c0⟩
       .rw[By E (by omega),By E (by omega),if_neg e,if_neg e];exact g5 j s' q' (by simp only at hj;omega) a8 a6
    .obtain⟨i,z⟩:=z;simp only at J hz;obtain⟨dn,se,rfl,g1,g2,g3,g4,g5⟩:=J;try simp only
     rw[κ (decide_eq_false (by omega))];exact hk _ ⟨m',dn,se,rfl,g1,g2,g3,λj s q Z hq=>g5 j s q (by have:=(Ag Z).2.1;omega) Z hq,λ_ ai=>⟨av,ax ai⟩⟩
  .rw[ι (by simpa using c0)];exact hk _ ⟨r.2.1,_,rSe r,rfl,X r.2.1 (λ_=>c0) (λ_=>rfl)⟩
 obtain⟨m,dn,se,rfl,hT⟩:=a1;refine WE (SS n r p) (Aeb n r p) (λk hk=>?_) (λt a1=>?_)
 .have bj:=hT.d1;have hi1:=hp.i1;have bk:=hp.d1;have bl:=hp.u1;rw[ι (C6 (by simp only;omega) (by simp only;omega))];refine Ap (λz:Int×O8=>z.1) (Aa n.1) (λz=>∃L D U up lights,z.2=(n,((L,(m,(D,(U,(rLk r,(rRs r,(se,rTk r))))))),(p,(dn,(up,lights)))))/\XI n r p dn L D U up lights z.1) (SS n r p) (by omega) (by simp) (Ak _) ⟨r.1,rDn r,rUp r,Ay (Aa n.1) [],[],rfl,hr.l1,hr.d1,hr.u1,AM (by omega) _,rfl,λx I=>by rw[(List.mem_replicate.1 I).2];simp[Aa],λj _=>⟨rfl,rfl,rfl⟩,λj hj s x d u ip a b q Z=>absurd (Ag Z).1 (by simp only at hj;omega)⟩ (λz J E i1=>?_) (λz J hz=>?_)
  .obtain⟨i,z⟩:=z;simp only at J E i1;obtain⟨L,D,U,up,lights,rfl,hL⟩:=J;have l1:=hL.l1;have d1:=hL.d1;have u1:=hL.u1;have p1:=hL.p1;have g1:=hL.g1;obtain⟨o1,o2,o3⟩:=hL.old i (Qbb _);obtain⟨s,Z,_⟩:=Ai (l:=n.1) E i1;obtain⟨x,I,_⟩:=Ai (l:=L) E (by omega);obtain⟨d,hd,_⟩:=Ai (l:=D) E (by omega);obtain⟨u,hu,_⟩:=Ai (l:=U) E (by omega);obtain⟨v,hv,_⟩:=Ai (l:=up) E (by omega);obtain⟨q,hq,_⟩:=Ai (l:=dn) E (by omega);obtain⟨ip,ab,aj⟩:=Ai (l:=p.1) E (by omega);obtain⟨a,ha,_⟩:=Ai (l:=p.2.1) E (by omega);obtain⟨b,hb,_⟩:=Ai (l:=p.2.2) E (by omega);obtain⟨bm,b7⟩:=hp.b ip aj;obtain⟨v1,v2,v3⟩:=AbC (a:=d) (b:=q) (w:=a) ht;have ak:=hr.l i s x Z (by rw[<-o1];exact I);obtain⟨y,w,asks,li,out,f1,f2,f3,f4⟩:=sM (h.st i s Z).1 (ip:=((RJ d q a (rTk r)).1++ip.1,ip.2)) ak b7;have b8:J9 (s,(((x.1.1,()),x.2),((RJ d q a (rTk r)).1++ip.1,ip.2)))=some (y,(li,(out,0))):=f1;obtain⟨w1,w2,w3⟩:=AbC (a:=u) (b:=out) (w:=b) ht;try simp only
   rw[ι (decide_eq_true i1),ε Z,ε hd,ε hd,ε hq,ε hq,ε ha,ε v1,ε hd,ε hd,ε ab,ε (SO (by omega) (by omega)),ε I,ε I,ε b8,ε I,ε I,ι (AV (by omega)),ε hu,ε hu,ε hb,ε w1,ε hv,ε hv,ε hu,ε hu,Aj (i+1) (by omega) (by omega)];refine ⟨rfl,_,_,_,_,_,rfl,by rw[AN];exact l1,by rw[AN];exact d1,by rw[AN];exact u1,by rw[AN];exact p1,by rw[BK];omega,λz hz=>?_,λj hj=>?_,λj hj=>?_⟩
   .rcases IV hz with hz|rfl
    .exact hL.pb z hz
    .exact w2
   .obtain⟨q1,q2,q3⟩:=hL.old j (by omega);exact ⟨J5 E (by omega) (by omega) q1,J5 E (by omega) (by omega) q2,J5 E (by omega) (by omega) q3⟩
   .by_cases e:j=i
    .subst e;intro s' x' d' u' al a' b' q' z1 z2 z3 z4 z5 z6 z7 z8;rw[Z] at z1;cases z1;rw[<-o1,I] at z2;cases z2;rw[<-o2,hd] at z3;cases z3;rw[<-o3,hu] at z4;cases z4;rw[ab] at z5;cases z5;rw[ha] at z6;cases z6;rw[hb] at z7;cases z7;rw[hq] at z8;cases z8;exact ⟨y,out,J4 E (by omega),f2,⟨w,asks,li,f3,f4⟩,J4 E (by omega),J4 E (by omega),J4 E (by omega)⟩
    .intro s' x' d' u' al a' b' q' z1 z2 z3 z4 z5 z6 z7 z8;obtain⟨y',an,y1,y2,y3,y4,y5,y6⟩:=hL.new j (by omega) s' x' d' u' al a' b' q' z1 z2 z3 z4 z5 z6 z7 z8;exact ⟨y',an,(J5 (m:=L) E (by omega) e rfl).trans y1,y2,y3,(J5 (m:=D) E (by omega) e rfl).trans y4,(J5 (m:=U) E (by omega) e rfl).trans y5,(J5 (m:=up) E (by omega) e rfl).trans y6⟩
  .obtain⟨i,z⟩:=z;simp only at J hz;obtain⟨L,D,U,up,lights,rfl,hL⟩:=J;try simp only
   rw[κ (decide_eq_false (by omega))];exact hk _ ⟨m,dn,se,L,D,U,up,lights,rfl,hT,by rw[<-hz];exact hL⟩
 obtain⟨m,dn,se,L,D,U,up,lights,rfl,hT,hL⟩:=a1;refine WE (SS n r p) (AfY n r p) (λk hk=>?_) (λt a1=>?_)
 .have p1:=hL.p1;refine Ap (λz:Int×O8=>z.1) (Aa n.1) (λz=>∃m2 K S,z.2=(n,((L,(m2,(D,(U,(K,(S,(se,rTk r))))))),(p,(dn,(up,lights)))))/\uE n r up m m2 K S z.1) (SS n r p) (by omega) (by simp) (Ak _) ⟨m,rLk r,rRs r,rfl,hr.k1,hr.k,hr.r1,hr.rs,λ_ _=>rfl,λ_=>⟨λj x hj I=>absurd (Ag I).1 (by simp only at hj;omega),λa b=>⟨a,b⟩⟩⟩ (λz J E i1=>?_) (λz J hz=>?_)
  .obtain⟨i,z⟩:=z;simp only at J E i1;obtain⟨m2,K,S,rfl,hH⟩:=J;have k1:=hH.k1;have s1:=hH.s1;obtain⟨s,Z,_⟩:=Ai (l:=n.1) E i1;obtain⟨a,ha,ba⟩:=Ai (l:=S) E (by omega);obtain⟨b,hb,bb⟩:=Ai (l:=up) E (by omega);have bn:=hH.s a ba;have bo:=hL.pb b bb;have bp:=Ak a;have bq:=Ak b;have bf:=Az a b;obtain⟨ms,la,e,c1,c2,c3,c4⟩:=AdD (a++b);obtain⟨nr,a7⟩:∃nr,nr=(if 0<=la/\Aa (a++b)-la<=2048 then A5 (a++b) la else []):=⟨_,rfl⟩;have bc:Aa nr<=2048:=by
    rw[a7];split
    .rename_i c;have:=Dt (l:=a++b) c.1 c4;omega
    .simp[Aa]
   try simp only
   rw[ι (decide_eq_true i1),ε Z,ε ha,ε ha,ε hb,ε hb,ε (SO (by omega) (by omega)),ε c1,ε ha,ε ha];refine WE (Cq _ _ _ _) (λt:O8=>t=(n,((L,(m2,(D,(U,(K,(AB S i nr,(se,rTk r))))))),(p,(dn,(up,lights)))))) (λk1 aa=>?_) (λt a1=>?_)
   .simp only;rw[Aj (Aa (a++b)-la) (by omega) (by omega)];by_cases c:0<=la/\Aa (a++b)-la<=2048
    .have br:=Dt (l:=a++b) c.1 c4;have hh:∀v:List Int,idx (AB S i v) i=some v:=λv=>J4 E (by omega);rw[ι (by simp[c.1,c.2]),ι (by simp;omega),ε (U5 (by omega)),ε (hh []),ε (hh []),Abe];rw[if_pos c] at a7;rw[<-a7];exact aa _ rfl
    .rw[κ (by apply Bool.eq_false_iff.2;intro hh;simp only[Qab,decide_eq_true_eq] at hh;exact c hh)];rw[if_neg c] at a7;rw[<-a7];exact aa _ rfl
   subst a1;obtain⟨lk,ad,ao⟩:=Ai (l:=K) E (by omega);obtain⟨l',tk,e',t1,t2,t3,t4,t5⟩:=AfD (hH.k lk ao) c2;try simp only
   rw[ε ad,ε ad,ε t1,ε ad,ε ad];refine Ap (λz:Int×O8=>z.1) (Aa tk) (λz=>∃m3,z.2=(n,((L,(m3,(D,(U,(AB K i l',(AB S i nr,(se,rTk r))))))),(p,(dn,(up,lights)))))/\((∀m∈tk,bH m)->BA n m2->Ei n m2->BA n m3/\Ei n m3)) (Cq _ _ _ _) (by omega) (by simp) (Ak _) ⟨m2,rfl,λ_ x y=>⟨x,y⟩⟩ (λz J j0 j1=>?_) (λz J hz=>?_)
   .obtain⟨j,z⟩:=z;simp only at J j0 j1;obtain⟨m3,rfl,Y⟩:=J;obtain⟨g,hg,aq⟩:=Ai (l:=tk) j0 j1;have bs:=(t3 g aq).body;obtain⟨x,ex,x1⟩:=vV (l:=g.2.2) (by omega);try simp only
    rw[ι (decide_eq_true j1),ε hg,ε x1,Aj (j+1) (by omega) (by omega)];by_cases c:((!(g.1==3)||!(ex==0))||!(x.1==s.1))=true
    .rw[ι c];exact ⟨rfl,m3,rfl,Y⟩
    .rw[κ (Bool.eq_false_iff.2 c)];obtain⟨m4,e4,y1,y2⟩:=Agy h m3 (r:=x);rw[ε y1];by_cases c5:(e4==0)=true
     .rw[ι c5];refine ⟨rfl,m4,rfl,λhz hm hl=>?_⟩;obtain⟨q1,q2⟩:=Y hz hm hl;obtain⟨_,_,_,rp,z1,z2,z3⟩:=hz g aq;have I:=vU z1;rw[<-z3,x1] at I;cases I;exact y2 (by simpa using c5) q1 q2 z2
     .rw[κ (Bool.eq_false_iff.2 c5)];exact ⟨rfl,m3,rfl,Y⟩
   .obtain⟨j,z⟩:=z;simp only at J hz;obtain⟨m3,rfl,Y⟩:=J;try simp only
    rw[κ (decide_eq_false (by omega)),Aj (i+1) (by omega) (by omega)];refine ⟨rfl,m3,_,_,rfl,by rw[AN];exact k1,λx I=>(IV I).elim (hH.k x) (λe=>by rw[e];exact t2),by rw[AN];exact s1,λx I=>(IV I).elim (hH.s x) (λe=>by rw[e];exact bc),λj hj=>J5 E (by omega) (by simp only at hj;omega) (hH.old j (by simp only at hj;omega)),λhG=>?_⟩;obtain⟨r1,r2⟩:=hH.good (λj a b hj=>hG j a b (by simp only;omega));obtain⟨bt,bu,s2,s3,s4,s5⟩:=AaY (hG i a b (by simp only;omega) (by rw[<-hH.old i (Qbb _)];exact ha) hb);rw[c1] at s2;cases s2;refine ⟨λj x hj I=>?_,λhm hl=>?_⟩
    .by_cases e:j=i
     .subst e;rw[J4 E (by omega)] at I;cases I;rw[a7];exact s5
     .rw[By E (by omega),if_neg e] at I;exact r1 j x (by simp only at hj;omega) I
    .obtain⟨q1,q2⟩:=r2 hm hl;exact Y (λm hm=>s3 m (t5 (by omega) m hm)) q1 q2
  .obtain⟨i,z⟩:=z;simp only at J hz;obtain⟨m2,K,S,rfl,hH⟩:=J;try simp only
   rw[κ (decide_eq_false (by omega))];exact hk _ ⟨m,dn,se,L,D,U,up,lights,m2,K,S,rfl,hT,hL,by rw[<-hz];exact hH⟩
 obtain⟨m,dn,se,L,D,U,up,lights,m2,K,S,rfl,hT,hL,hH⟩:=a1;show SS n r p (some _);simp only;rw[Aj (rTk r+1) (by omega) (by omega),Ds];refine ⟨_,_,m,dn,up,rfl,⟨⟨hL.l1,λi s x Z I=>?_,hL.d1,hL.u1,hH.k1,hH.k,hH.s1,hH.s,hT.s1,hT.u,by show 0<=min (rTk r+1) 1073741824/\min (rTk r+1) 1073741824<=1073741824;omega⟩,hT,λj=>?_,λhG=>?_,rfl⟩⟩
 .obtain⟨E,i1,_⟩:=Ag Z;obtain⟨x0,bd,_⟩:=Ai (l:=r.1) E (by rw[hr.l1];exact i1);obtain⟨d,hd,_⟩:=Ai (l:=rDn r) E (by rw[hr.d1];exact i1);obtain⟨u,hu,_⟩:=Ai (l:=rUp r) E (by rw[hr.u1];exact i1);obtain⟨ip,ab,_⟩:=Ai (l:=p.1) E (by rw[hp.i1];exact i1);obtain⟨a,ha,_⟩:=Ai (l:=p.2.1) E (by rw[hp.d1];exact i1);obtain⟨b,hb,_⟩:=Ai (l:=p.2.2) E (by rw[hp.u1];exact i1);obtain⟨q,hq,_⟩:=Ai (l:=dn) E (by rw[hT.d1];exact i1);obtain⟨y,out,y1,y2,_⟩:=hL.new i i1 s x0 d u ip a b q Z bd hd hu ab ha hb hq;simp only at I;rw[y1] at I;cases I;exact y2
 .intro s x d u ip a b q z1;exact hL.new j (Ag z1).2.1 s x d u ip a b q z1
 .obtain⟨g1,g2⟩:=hH.good (λj a b _=>hG j a b);refine ⟨λx I=>?_,g2⟩;obtain⟨j,hj⟩:=BZ I;have h2:j<Aa S:=(Ag hj).2.1;exact g1 j x (by have h1:=hH.s1;omega) hj
structure Pw (n:AU) (l:List Bk) (r:Bm):Prop where
 l1:Aa r.1=Aa n.1
 loc:∀i s d,idx n.1 i=some s->idx l i=some d->A4 d.1/\idx r.1 i=some (EU s (Bc d.1).1.2.1 d.1)
 rest:∃m,BA n m/\Ei n m/\r.2=(m,(Ay (Aa n.1) [],(Ay (Aa n.1) [],(Ay (Aa n.1) (false,(0,0)),(Ay (Aa n.1) [],(Ay (Aa n.1) 0,0))))))
def Adb {n} (h:DH n):∃m,KK n=some (m,0)/\BA n m/\Ei n m:=by
 have u2:=h.u2;have w2:=h.w2;have n2:=h.n2;have n1:=h.n1;have u1:=h.u1;have w0:=Ak n.2.2.1;unfold KK;rw[ε h.chk,Af (b:=!(0:Int)==0) _ _ rfl,ι (C6 (by omega) (by omega)),ι (C6 (by omega) (by omega)),ι (C6 (by omega) (by omega))];refine Ap (λz:Int×AZ=>z.1) (Aa n.2.1) (λz=>z.2=(Ay z.1 (Dd n,(Dd n,0)),(Ay (Aa n.2.2.1) (0,(0,0)),(Ay (Aa n.2.2.1) (false,0),([],Ay (Aa n.1) (0,(0,0))))))) (λr=>∃m,r=some (m,0)/\BA n m/\Ei n m) (by omega) (by simp) (Ak _) rfl (λz d y i1=>?_) λz d X=>?_
 .obtain⟨i,m⟩:=z;simp only at d y i1;subst d;have hl:=AM y ((Dd n,(Dd n,0)):Df);try simp only
  rw[ι (decide_eq_true i1),ι (AV (by omega)),Aj (i+1) (by omega) (by omega)];refine ⟨rfl,?_⟩;simp only;rw[<-eZ y]
 obtain⟨i,m⟩:=z;simp only at d X;subst d;subst X;try simp only
 rw[κ (decide_eq_false (by omega))];refine Ap (λz:Int×AZ=>z.1) (Aa n.1) (λz=>∃L,z.2=(Ay (Aa n.2.1) (Dd n,(Dd n,0)),(Ay (Aa n.2.2.1) (0,(0,0)),(Ay (Aa n.2.2.1) (false,0),(L,Ay (Aa n.1) (0,(0,0))))))/\Aa L=z.1/\∀j r s,idx L j=some r->idx n.1 j=some s->r=Ay (BO s) 0) (λr=>∃m,r=some (m,0)/\BA n m/\Ei n m) (by omega) (by simp) (Ak _) ⟨[],rfl,rfl,λj r s c=>by have:=(Ag c).2.2;cases this⟩ (λz d y i1=>?_) λz d X=>?_
 .obtain⟨i,m⟩:=z;simp only at d y i1;obtain⟨L,rfl,hL,Y⟩:=d;obtain⟨s,g,_⟩:=Ai y i1;have hp:1<=Aa s.2.2.2.2.1/\Aa s.2.2.2.2.1<=8:=(h.st i s g).1.ph;try simp only
  rw[ι (decide_eq_true i1),ε g,ι (C6 (by omega) (by omega)),ι (AV (by omega)),Aj (i+1) (by omega) (by omega)];refine ⟨rfl,_,rfl,by simp only;rw[BK];omega,λj r t c Z=>?_⟩;obtain⟨j0,j1,_⟩:=Ag c;rw[DX j0] at c;split at c
  .exact Y j r t c Z
  .rw[BK] at j1;obtain rfl:j=i:=by omega
   rw[show j-Aa L=0 by omega] at c;rw[g] at Z;cases Z;cases c;rfl
 .obtain⟨i,m⟩:=z;simp only at d X;obtain⟨L,rfl,hL,Y⟩:=d;try simp only
  rw[κ (decide_eq_false (by omega))];have a1:=P7 h (vC n);have I:∀i s r,idx n.1 i=some s->idx L i=some r->Aa r=BO s/\Hh r:=λi s r g c=>by have e:=Y i r s c g;have hp:=(h.st i s g).1.ph;have hl:=AM (n:=BO s) (by omega) (0:Int);subst e;exact ⟨hl,by omega,λx E=>by rw[(List.mem_replicate.1 E).2];omega⟩
  refine ⟨_,rfl,⟨AM (by omega) _,λv J=>?_,⟨AM w0 _,λi w x hw E=>?_⟩,⟨AM w0 _,λb hb=>?_⟩,by simp only;omega,I,AM (by omega) _,λi s v g J=>?_⟩,λv J=>by rw[(List.mem_replicate.1 J).2],λr c x E=>?_⟩
  .rw[(List.mem_replicate.1 J).2];exact ⟨vC n,by simp only;omega,by simp only;omega,by simp⟩
  .rw[nW E];have:=(h.wed i w hw).o;exact ⟨by simp only;omega,by simp,by simp⟩
  .rw[(List.mem_replicate.1 hb).2];exact ⟨by simp,by simp⟩
  .rw[nW J];have:=aG (h.st i s g).1;exact ⟨by simp only;omega,by simp,by simp,by simp⟩
  .obtain⟨j,hj⟩:=BZ c;obtain⟨j0,j1,_⟩:=Ag hj;simp only at j1;obtain⟨s,g,_⟩:=Ai (l:=n.1) j0 (by omega);rw[Y j r s hj g] at E;exact (List.mem_replicate.1 E).2
def Ady {n l} (h:DH n) (hl:Aa l=Aa n.1) (hd:∀d∈l,Aa d.1<=9223372036854775807):∃r e,KP (n,l)=some (r,e)/\(e=0/\Pw n l r\/e≠0/\∃d∈l,¬A4 d.1):=by
 have n2:=h.n2;have n1:=h.n1;obtain⟨m,m1,m2,m3⟩:=Adb h;unfold KP;rw[ε m1,Af (b:=!(0:Int)==0) _ _ rfl,κ (by simp[hl]),ι (C6 (by grind) (by grind)),ι (C6 (by grind) (by grind)),ι (C6 (by grind) (by grind)),ι (C6 (by grind) (by grind)),ι (C6 (by grind) (by grind))];refine Ap (λz:Int×Bm×Bm=>z.1) (Aa n.1) (λz=>∃L,z.2.2=(L,(m,(Ay (Aa n.1) [],(Ay (Aa n.1) [],(Ay (Aa n.1) (false,(0,0)),(Ay (Aa n.1) [],(Ay (Aa n.1) 0,0)))))))/\Aa L=z.1/\∀j s d,j<z.1->idx n.1 j=some s->idx l j=some d->A4 d.1/\idx L j=some (EU s (Bc d.1).1.2.1 d.1)) (λo=>∃r e,o=some (r,e)/\(e=0/\Pw n l r\/e≠0/\∃d∈l,¬A4 d.1)) (by omega) (by simp) (Ak _) ⟨[],rfl,rfl,λj s d Z E=>absurd (Ag E).1 (by omega)⟩ (λz I X i1=>?_) λz I hz=>?_
 .obtain⟨i,z0,z⟩:=z;simp only at I X i1;obtain⟨L,rfl,hL,hR⟩:=I;obtain⟨s,E,_⟩:=Ai X i1;obtain⟨d,g,J⟩:=Ai (l:=l) X (by omega);try simp only
  rw[ι (decide_eq_true i1),ε E,ε g];rcases nO (h.st i s E).1 (hd d J) with ⟨k1,k2⟩|⟨k1,y,k2⟩
  .rw[ε k2,Af (b:=!(0:Int)==0) _ _ rfl,ι (AV (by omega)),Aj (i+1) (by omega) (by omega)];refine ⟨rfl,_,rfl,by simp only;rw[BK];omega,λj t e Z Y he=>?_⟩;by_cases c:j=i
   .subst c;rw[E] at Y;cases Y;rw[g] at he;cases he;refine ⟨k1,?_⟩;rw[DX X,if_neg (by omega),show j-Aa L=0 by omega];rfl
   .obtain⟨q1,q2⟩:=hR j t e (by simp only at Z;omega) Y he;refine ⟨q1,?_⟩;rw[DX (Ag Y).1,if_pos (by simp only at Z;omega)];exact q2
  .rw[ε k2,Ae (b:=!(8:Int)==0) _ _ rfl];exact ⟨_,8,rfl,.inr ⟨by decide,d,J,k1⟩⟩
 .obtain⟨i,z0,z⟩:=z;simp only at I hz;obtain⟨L,rfl,hL,hR⟩:=I;try simp only
  rw[κ (decide_eq_false (by omega))];exact ⟨_,0,rfl,.inl ⟨rfl,by simp only;omega,λj s d E g=>hR j s d (by have:=(Ag E).2.1;omega) E g,m,m2,m3,rfl⟩⟩
def AaS {n l r} (h:DH n) (J:Aa l=Aa n.1) (g:Pw n l r):NV n r:=by
 have n1:=h.n1;obtain⟨m,_,_,e⟩:=g.rest;obtain⟨L,R⟩:=r;simp only at e;subst e;refine ⟨g.l1,λi s x t c=>?_,AM (by omega) _,AM (by omega) _,AM (by omega) _,λx c=>?_,AM (by omega) _,λx c=>?_,AM (by omega) _,λx c=>?_,show (0:Int)<=0/\(0:Int)<=1073741824 by decide⟩
 .obtain⟨y,i1,_⟩:=Ag t;obtain⟨d,E,_⟩:=Ai (l:=l) y (by omega);obtain⟨k1,I⟩:=g.loc i s d t E;rw[show idx L i = _ from I] at c;cases c;exact eL (h.st i s t).1 k1 _
 .rw[(List.mem_replicate.1 c).2];exact ⟨by simp,by simp[As],λ_=>rfl⟩
 .rw[(List.mem_replicate.1 c).2];simp[Aa]
 .rw[(List.mem_replicate.1 c).2];simp[As]
structure Wv (n:AU) (l:List Bk) (st:List EA):Prop where
 net:DH n
 l1:Aa l=Aa n.1
 s:Aa st<=60
 ok:∀i p,idx st i=some p->UA n p/\(∀x∈p.2.1,x<=4)/\∀x∈p.2.2,x<=4
def Ab4 {n p} (h:DH n) (c:UA n p) (h1:∀x∈p.2.1,x<=4) (g:∀x∈p.2.2,x<=4):IY (n,p)=some 0:=by have n2:=h.n2;have i1:=c.i1;have d1:=c.d1;have u1:=c.u1;unfold IY;rw[κ (by simp[i1,d1,u1]),ε (SO (by grind) (by grind))];have t:=Az p.2.1 p.2.2;refine Bn (l:=p.2.1++p.2.2) (λr:Option Int=>r=some 0) (λ_ _=>True) (some 0) (some 0) (NJ (by omega)) (λi b y i1 d=>.inl ⟨trivial,?_⟩) λi hi=>by rw[κ (decide_eq_false hi)] (λ_=>rfl) λ_=>rfl;have:=List.mem_append.1 (Ag d).2.2;rw[ι (decide_eq_true i1),ε d,κ (decide_eq_false (by grind))]
def AgP {n:AU} {l:List Bk} {st:List EA} (h:Wv n l st) (hd:∀d∈l,Aa d.1<=9223372036854775807) (J:Int->Bm->Prop) (J0:∀r,Pw n l r->J 0 r)
 (Js:∀i p r X m dn up,0<=i->idx st i=some p->UA n p->NV n r->J i r->wA n r p X m dn up->J (i+1) X):∃r c e,Kg (n,(l,st))=some (r,(c,e))/\(e=0/\NV n r/\J (Aa st) r\/e≠0/\∃d∈l,¬A4 d.1):=by
 have Y:=h.net;have hs:=h.s;obtain⟨r,e,f1,t⟩:=Ady Y h.l1 hd;unfold Kg;rw[ε f1];rcases t with ⟨rfl,t⟩|⟨I,t⟩
 rotate_left
 .rw[ι (by simpa using I)];exact ⟨_,_,e,rfl,.inr ⟨I,t⟩⟩
 rw[Af (b:=!(0:Int)==0) _ _ rfl,κ (decide_eq_false (by simp only;omega))];refine Ap (λz:Int×Bm=>z.1) (Aa st) (λ_=>True) (λo=>∃r c e,o=some (r,(c,e))/\(e=0/\NV n r/\J (Aa st) r\/e≠0/\∃d∈l,¬A4 d.1)) (by omega) (by simp) (Ak _) trivial (λz g y i1=>?_) λz g Z=>?_
 .obtain⟨i,z⟩:=z;simp only at y i1;obtain⟨p,E,_⟩:=Ai (l:=st) y i1;obtain⟨q1,q2,q3⟩:=h.ok i p E;try simp only
  rw[ι (decide_eq_true i1),ε E,ε (Ab4 Y q1 q2 q3),Af (b:=!(0:Int)==0) _ _ rfl,Aj (i+1) (by omega) (by omega)];exact ⟨rfl,trivial⟩
 obtain⟨i,z⟩:=z;simp only at Z;try simp only
 rw[κ (decide_eq_false (by omega))];refine Ap (λz:List (List (List Int))×Int×Bm=>z.2.1) (Aa st) (λz=>Aa z.1=z.2.1/\NV n z.2.2/\J z.2.1 z.2.2) (λo=>∃r c e,o=some (r,(c,e))/\(e=0/\NV n r/\J (Aa st) r\/e≠0/\∃d∈l,¬A4 d.1)) (by omega) (by simp) (Ak _) ⟨rfl,AaS Y h.l1 t,J0 r t⟩ (λz g y i1=>?_) λz g Z=>?_
 .obtain⟨c,i,r⟩:=z;simp only at g y i1;obtain⟨h1,h2,h3⟩:=g;obtain⟨p,E,_⟩:=Ai (l:=st) y i1;obtain⟨q1,q2,q3⟩:=h.ok i p E;obtain⟨X,li,m,dn,up,k1,k2⟩:=AgS Y h2 q1;try simp only
  rw[ι (decide_eq_true i1),ε E,ε k1,ι (AV (by omega)),Aj (i+1) (by omega) (by omega)];exact ⟨rfl,by simp only;rw[BK];omega,k2.ok,Js i p r X m dn up y E q1 h2 h3 k2⟩
 .obtain⟨c,i,r⟩:=z;simp only at g Z;subst Z;try simp only
  rw[κ (decide_eq_false (by omega))];exact ⟨r,c,0,rfl,.inl ⟨rfl,g.2⟩⟩
def Ac4 {l} (Y:Aa l<=12) (I:∀x∈l,Aa x.1<=140737488351232/\Aa x.2.2.1<=140737488351232):∃m,MS l=some m/\0<=m/\m<=3377699720429580/\∀x∈l,Aa x.1<=m:=by
 have h0:=Ak l;unfold MS;refine Ap (λz:Int×Int=>z.2) (Aa l) (λz=>0<=z.1/\z.1<=12+z.2*281474976702464/\∀j x,j<z.2->idx l j=some x->Aa x.1<=z.1) (λo=>∃m,o=some m/\0<=m/\m<=3377699720429580/\∀x∈l,Aa x.1<=m) (by omega) (by simp) h0 ⟨h0,by omega,λj x g c=>absurd (Ag c).1 (by omega)⟩ (λz d E i1=>?_) λz d J=>?_
 .obtain⟨m,i⟩:=z;simp only at d E i1;obtain⟨h1,Z,X⟩:=d;obtain⟨x,c,h⟩:=Ai E i1;obtain⟨s1,s2⟩:=I x h;have a1:=Ak x.1;have a2:=Ak x.2.2.1;try simp only
  rw[ι (decide_eq_true i1),ε c,ε c,Aj (Aa x.1+Aa x.2.2.1) (by omega) (by omega),Aj (m+(Aa x.1+Aa x.2.2.1)) (by omega) (by omega),Aj (i+1) (by omega) (by omega)];refine ⟨rfl,by simp only;omega,by simp only;omega,λj y g t=>?_⟩;simp only at g ⊢;by_cases e:j=i
  .subst e;rw[c] at t;cases t;omega
  .have:=X j y (by omega) t;omega
 .obtain⟨m,i⟩:=z;simp only at d J;try simp only
  rw[κ (decide_eq_false (by omega))];refine ⟨m,rfl,d.1,by omega,λx c=>?_⟩;obtain⟨j,g⟩:=BZ c;exact d.2.2 j x (by have:=(Ag g).2.1;omega) g
def AcV {n} (g:OZ n):∃b,Ly n=some b:=by
 unfold Ly;rw[AK];split
 .exact ⟨_,rfl⟩
 refine Bn (λa:Option Bool=>∃b,a=some b) (λ_ s=>F8 s=some false) (some true) _ g.s (λi s h0 hi d=>?_) λi hi=>by rw[κ (decide_eq_false hi)] (λ_=>?_) λ_=>⟨_,rfl⟩
 .obtain⟨b,t⟩:=Ld.uZ s (g.ss s (Ag d).2.2);rw[ι (decide_eq_true hi),ε d,ε t];cases b with
  |true=>exact .inr ⟨by simp_all,ι rfl⟩
  |false=>exact .inl ⟨t,κ rfl⟩
 refine Bn (λa:Option Bool=>∃b,a=some b) (λ_ s=>¬60<Aa s.1) (some true) _ g.u (λi s h0 hi d=>?_) λi hi=>by rw[κ (decide_eq_false hi)] (λ_=>?_) λ_=>⟨_,rfl⟩
 .rw[ι (decide_eq_true hi),ε d];by_cases c:60<Aa s.1
  .exact .inr ⟨λh=>h c,ι (decide_eq_true c)⟩
  .exact .inl ⟨c,κ (decide_eq_false c)⟩
 refine Bn (λa:Option Bool=>∃b,a=some b) (λ_ s=>¬60<Aa s.2.2.2) (some true) (some false) g.w (λi s h0 hi d=>?_) λi hi=>by rw[κ (decide_eq_false hi)] (λ_=>⟨_,rfl⟩) λ_=>⟨_,rfl⟩;rw[ι (decide_eq_true hi),ε d];by_cases c:60<Aa s.2.2.2
 .exact .inr ⟨λh=>h c,ι (decide_eq_true c)⟩
 .exact .inl ⟨c,κ (decide_eq_false c)⟩
structure kG (p:EA):Prop where
 s:∀x∈p.1,Aa x.1<=140737488351232/\Aa x.2.2.1<=140737488351232
def AfP {n l st} (hf:OZ n) (a1:∀p∈st,kG p):∃b,Ok (n,(l,st))=some b/\(b=true->Wv n l st):=by
 obtain⟨g,hg⟩:=AcV hf;unfold Ok;rw[ε hg];by_cases c:(g||!Aa l==Aa n.1||decide (Aa l<1)||decide (6<Aa l)||decide (40<Aa st))=true
 .rw[ι c]<;>simp_all
 rw[κ (Bool.eq_false_iff.2 c)];simp only[Qaj,Qal,beq_eq_false_iff_ne,ne_eq,not_or,Qcq,decide_eq_true_eq,Qcb] at c;obtain⟨⟨⟨⟨_,c1⟩,c2⟩,c3⟩,c4⟩:=c;obtain⟨e,e1,e2⟩:=Ade hf;rw[ε e1];by_cases c5:e≠0
 .rw[ι (by simpa using c5)]<;>simp_all
 have h:=e2 (Decidable.not_not.1 c5);have n1:=h.n1;rw[κ (by simpa using c5)];refine Bn (l:=l) (λa:Option Bool=>∃b,a=some b/\(b=true->Wv n l st)) (λ_ d=>¬5000<Aa d.1) (some false) _ (NJ (by omega)) (λi s h0 hi hr=>?_) λi hi=>by rw[κ (decide_eq_false hi)] (λ_=>?_) λ_=>⟨false,rfl,nofun⟩
 .rw[ι (decide_eq_true hi),ε hr];by_cases c:5000<Aa s.1
  .exact .inr ⟨λhh=>hh c,ι (decide_eq_true c)⟩
  .exact .inl ⟨c,κ (decide_eq_false c)⟩
 refine Ap (λz:Int×Int=>z.2) (Aa st) (λz=>0<=z.1/\z.1<=z.2*3377699720429580/\∀j p,j<z.2->idx st j=some p->(Aa p.1=Aa n.1/\Aa p.2.1=Aa n.1/\Aa p.2.2=Aa n.1)/\(∀x∈p.2.1,x<=4)/\(∀x∈p.2.2,x<=4)/\∀x∈p.1,Aa x.1<=z.1) (λa:Option Bool=>∃b,a=some b/\(b=true->Wv n l st)) (by omega) (by simp) (Ak _) ⟨by simp,by simp,λj x hj t=>absurd (Ag t).1 (by omega)⟩ (λz hI i0 i1=>?_) λz hI hz=>?_
 .obtain⟨m,i⟩:=z;simp only at hI i0 i1;obtain⟨h1,h2,h3⟩:=hI;obtain⟨p,X,a6⟩:=Ai i0 i1;try simp only
  rw[ι (decide_eq_true i1),ε X];by_cases c:(!Aa p.1==Aa l||!Aa p.2.1==Aa l||!Aa p.2.2==Aa l)=true
  .rw[ι c];exact ⟨false,rfl,nofun⟩
  rw[κ (Bool.eq_false_iff.2 c)];simp only[Qaj,Qal,beq_eq_false_iff_ne,ne_eq,not_or,Qcq] at c;obtain⟨⟨k1,k2⟩,k3⟩:=c;refine Ap (λz:Int=>z) (Aa l) (λz=>∀j x y,j<z->idx p.2.1 j=some x->idx p.2.2 j=some y->x<=4/\y<=4) (Cq _ _ _ _) (by omega) (by omega) (Ak _) (λj x y hj t=>absurd (Ag t).1 (by omega)) (λj hJ j0 j1=>?_) λj hJ hz=>?_
  .obtain⟨x,t,_⟩:=Ai (l:=p.2.1) j0 (by omega);obtain⟨y,Y,_⟩:=Ai (l:=p.2.2) j0 (by omega);try simp only
   rw[ι (decide_eq_true j1),ε t];by_cases d1:4<x
   .rw[ι (decide_eq_true d1)];exact ⟨false,rfl,nofun⟩
   rw[κ (decide_eq_false d1),ε Y];by_cases d2:4<y
   .rw[ι (decide_eq_true d2)];exact ⟨false,rfl,nofun⟩
   rw[κ (decide_eq_false d2),Aj (j+1) (by omega) (by omega)];refine ⟨rfl,λq x' y' Z E I=>?_⟩;by_cases e:q=j
   .subst e;rw[t] at E;cases E;rw[Y] at I;cases I;omega
   .exact hJ q x' y' (by omega) E I
  .obtain⟨k,q1,q2,q3,q4⟩:=Ac4 (by omega) (a1 p a6).s;try simp only
   rw[κ (decide_eq_false (by omega)),ε q1,Aj (i+1) (by omega) (by omega),Aj (m+k) (by omega) (by omega)];refine ⟨rfl,by simp only;omega,by simp only;omega,λj' p' hj J=>?_⟩;simp only at hj ⊢;by_cases e:j'=i
   .subst e;rw[X] at J;cases J;refine ⟨by omega,λx t=>?_,λy Y=>?_,λx t=>by have:=q4 x t;omega⟩
    .obtain⟨q,Z⟩:=BZ t;obtain⟨b0,b1,_⟩:=Ag Z;obtain⟨y,Y,_⟩:=Ai (l:=p.2.2) b0 (by omega);exact (hJ q x y (by omega) Z Y).1
    .obtain⟨q,Z⟩:=BZ Y;obtain⟨b0,b1,_⟩:=Ag Z;obtain⟨x,t,_⟩:=Ai (l:=p.2.1) b0 (by omega);exact (hJ q x y (by omega) t Z).2
   .obtain⟨y1,y2,y3,y4⟩:=h3 j' p' (by omega) J;exact ⟨y1,y2,y3,λx t=>by have:=y4 x t;omega⟩
 .obtain⟨m,i⟩:=z;simp only at hI hz;obtain⟨h1,h2,h3⟩:=hI;try simp only
  rw[κ (decide_eq_false (by omega))];refine ⟨_,rfl,λhm=>⟨h,c1,by omega,λj p X=>?_⟩⟩;have hm:=of_decide_eq_true hm;obtain⟨⟨y1,y2,y3⟩,y4,y5,y6⟩:=h3 j p (by have:=(Ag X).2.1;omega) X;refine ⟨⟨y1,y2,y3,λx t=>⟨by have:=y6 x t;omega,?_⟩⟩,y4,y5⟩;have:=((a1 p (Ag X).2.2).s x t).2;unfold Aa at this;unfold maxLen;omega

def zP:QF ()=some true:=by kernel_rfl
def AiV:∀t (z),vT t->(t.foldl EM z).1=z.1
 |[],_,_=>rfl
 |b::t,z,h=>by rw[Qfs,AiV t _ λx c=>h x (Qak _ c)];have d:=h b (by simp);unfold EM<;>grind
def Ajy {r} (h:Uw r):∃la,Cv r=some ([],(la,0)):=by
 obtain⟨d,h⟩:=h;obtain⟨la,e,_⟩:=pM (l:=r) (by omega);refine ⟨la,?_⟩;rw[e];rcases h with rfl|⟨t,rfl,c⟩
 .rfl
 .rw[Qfs,AiV t _ c];unfold EM<;>grind
def AjD {a q} {t} (c:Aa a<=4096) (d:Aa q<=16384) (g:0<=t):RJ a q 1 t=(a,[]):=by
 have w:On (a,(q,(1,t)))=some (a,([],0)):=by unfold On;rw[κ (by grind),κ (by rfl),κ (decide_eq_false (by simp_all)),ε (LK (l:=a) (by omega)),κ (by rfl),κ (by rfl),κ (by rfl),κ (by rfl)]
 unfold RJ F9;rw[ε w];rfl
abbrev Aiy (s:Al):Int:=s.2.2.2.2.2.2.1
structure AjA (s:Al) (g:Int) (x:Be):Prop where
 age:g<=LAg x
 mode:Aiy s<=g->(LRg x).1<=2
def Ai6 {s} {g} {x y} {out} {ip} (E:E9 s x) (I:E9 s y) (hg:g<=1048576) (J:AdY s x ip y out) (h:g<=0\/ip.1=[]/\g-1<=LAg x):AjA s g y:=by
 obtain⟨w,asks,lights,h1,X⟩:=J;by_cases c:ip.2.2.2.1=true
 .have e:=(h1 c).loc;have hr:=(zC (Bc (LD y)).1.2.1).2.2;refine ⟨?_,λ_=>?_⟩
  .rw[e];exact hg
  .rw[e];show (Dk _).1<=2<;>omega
 .obtain⟨told,well,Y,R⟩:=X (Bool.eq_false_iff.2 c);have ha:=I.age;have t:g<=LAg y:=by
   rcases h with h|⟨Z,h⟩
   .grind
   .obtain⟨la,hs⟩:=Ajy E.rest;have:=(R.hear.no ((R.hear.more (LRs x) [] la (by rw[Z];simp[Ax]) hs).2.1 rfl).2).2<;>omega
  refine ⟨t,λa1=>?_⟩;have hm:(LRg y).1<=3:=I.rung.mode.2;refine Qdr λhn=>?_;have h3:(LRg y).1=3:=by omega
  have d:=Ld.Ab3 s (LRg x) (K5 s (LTd y) (LAg y) (LWn y) (Bc (LD y)) ip.2.2.2.2.2.2 well) E.rung;rw[<-R.rg] at d;have hf:=(d.master h3).1;unfold K5 at hf<;>grind
def AiD (n:AU) (N i k:Int):Bool:=match idx n.1 k with|some s=>decide (max 0 (N-Aiy s-1)<=i)|none=>false
def AiS (n:AU) (N i:Int) (l:List Kw):List Kw:=l.mapIdx λ(k:Nat) ip=>if AiD n N i (k:Int)=true then ([],ip.2) else ip
def AiR (n:AU) (N i:Int) (l:List Int):List Int:=l.mapIdx λ(k:Nat) d=>if AiD n N i (k:Int)=true then 1 else d
def AiG (n:AU) (st:List EA):List EA:=st.mapIdx λ(i:Nat) p=>(AiS n (Aa st) (i:Int) p.1,(AiR n (Aa st) (i:Int) p.2.1,p.2.2))
def AiK (n:AU) (l:List Bk) (st:List EA):Bool:=decide (Aa n.1<=1000/\Aa l=Aa n.1/\Aa st<=1000)&&(st.all λp=>decide (Aa p.1=Aa n.1/\Aa p.2.1=Aa n.1/\Aa p.2.2=Aa n.1))&&n.1.all λs=>decide (0<=Aiy s/\Aiy s<=1048576)
def AiC (x:AU×List Bk×List EA):Option Bool :=
 Ad (QF ()) none λc=>γ (!c) (some false) (Ad (Ok (x.1,(x.2.1,x.2.2))) none λh=>γ (!h) (some c) (γ (AiK x.1 x.2.1 x.2.2)
 (Ad (Kg (x.1,(x.2.1,AiG x.1 x.2.2))) none λg=>γ (!g.2.2==0) (some c)
 (iter none (λd=>γ (decide (d<Aa x.2.1)) (Ad (idx g.1.1 d) (.done none) λt=>γ (decide (3<=t.2.2.1.1)) (.done (some false)) (.next (wr .i64 (d+1)))) (.done (some c))) Am (0:Int)))
 none))
def Ai0 {n} {st}:Aa (AiG n st)=Aa st:=by unfold AiG Aa<;>simp_all
def AiZ {n} {st} {i} {p} (h:idx (AiG n st) i=some p):∃q,idx st i=some q/\p=(AiS n (Aa st) i q.1,(AiR n (Aa st) i q.2.1,q.2.2)):=by obtain⟨c,i1,_⟩:=Ag h;rw[AY c] at h;unfold AiG at h;rw[List.getElem?_mapIdx,Qdm] at h;obtain⟨q,h1,d⟩:=h;refine ⟨q,by rw[AY c];exact h1,?_⟩<;>grind
def AiY {n} {N i k} {l} {p} (h:idx (AiS n N i l) k=some p):∃q,idx l k=some q/\p=if AiD n N i k=true then ([],q.2) else q:=by obtain⟨c,i1,_⟩:=Ag h;rw[AY c] at h;unfold AiS at h;rw[List.getElem?_mapIdx,Qdm] at h;obtain⟨q,h1,d⟩:=h;refine ⟨q,by rw[AY c];exact h1,?_⟩;rw[<-d,Qax c]
def AiX {n} {N i k} {l} {p} (h:idx (AiR n N i l) k=some p):∃q,idx l k=some q/\p=if AiD n N i k=true then 1 else q:=by obtain⟨c,i1,_⟩:=Ag h;rw[AY c] at h;unfold AiR at h;rw[List.getElem?_mapIdx,Qdm] at h;obtain⟨q,h1,d⟩:=h;refine ⟨q,by rw[AY c];exact h1,?_⟩<;>grind
def Ajc {n} {l} {st} (h:Wv n l st):Wv n l (AiG n st):=by
 refine ⟨h.net,h.l1,by rw[Ai0];exact h.s,λi p E=>?_⟩;obtain⟨q,I,rfl⟩:=AiZ E;obtain⟨h1,J,X⟩:=h.ok i q I;refine ⟨⟨?_,?_,h1.u1,λx c=>?_⟩,λx c=>?_,X⟩
 .have:=h1.i1;unfold AiS Aa at *<;>simp_all
 .have:=h1.d1;unfold AiR Aa at *<;>simp_all
 .obtain⟨j,d⟩:=BZ c;obtain⟨g,t,y⟩:=AiY d;have:=h1.b g (Ag t).2.2;rw[y];split
  .exact ⟨by simp[Aa],this.2⟩
  omega
 .obtain⟨j,d⟩:=BZ c;obtain⟨g,t,y⟩:=AiX d;rw[y];split
  .decide
  .exact J g (Ag t).2.2
structure QJq (n:AU) (N i:Int) (r:Bm):Prop where
 site:∀k s x,idx n.1 k=some s->idx r.1 k=some x->(max 0 (N-Aiy s-1)<i->idx (rDn r) k=some [])/\AjA s (if N<=Aiy s then 1048576 else i-(N-Aiy s-1)-1) x
 down:∀x∈rDn r,Aa x<=4096
 zero:i=0->∀k,0<=k->k<Aa n.1->idx (rDn r) k=some []
def AjE {n} {l} (E:DH n) (Z:Aa l=Aa n.1) {N} {r} (h:Pw n l r):QJq n N 0 r:=by
 obtain⟨m,m1,m2,e⟩:=h.rest;obtain⟨L,r2⟩:=r;simp only at e;subst e;refine ⟨λk s x t y=>?_,λx y=>by rw[WJ y];simp[Aa],λ_ k I k1=>IP I k1 _⟩;obtain⟨J,j1,_⟩:=Ag t;obtain⟨d,X,_⟩:=Ai (l:=l) J (by omega);have g:=(h.loc k s d t X).2;rw[y] at g;cases g;have hw:= (E.st k s t).1.ok.timed.watch;have hr:=(zC (Bc d.1).1.2.1).2.2;have c:(LRg (EU s (Bc d.1).1.2.1 d.1)).1<=2:=by show (Dk _).1<=2<;>omega
 have Y:LAg (EU s (Bc d.1).1.2.1 d.1)=1048576:=rfl;exact ⟨λhh=>by omega,by omega,λ_=>c⟩
def AjH {n} (hN:DH n) {st} {i} {p} {r I} {m} {dn up} (E:Aa st<=1000) (i0:0<=i) (hp:idx (AiG n st) i=some p) (X:UA n p) (Y:NV n r) (J:QJq n (Aa st) i r) (ht:rTk r=i) (R:wA n r p I m dn up):QJq n (Aa st) (i+1) I/\rTk I=i+1:=by
 have ln:=Ak st;obtain⟨q0,a8,aa⟩:=AiZ hp;have i1:= (Ag a8).2.1;have ab:∀k s x,idx n.1 k=some s->idx I.1 k=some x->((max 0 (Aa st-Aiy s-1)<i+1->idx (rDn I) k=some [])/\AjA s (if Aa st<=Aiy s then 1048576 else i+1-(Aa st-Aiy s-1)-1) x)/\∃d,idx (rDn I) k=some d/\Aa d<=4096:=λk s y E hy=>by
  obtain⟨g,j1,_⟩:=Ag E;have a0:=Y.l1;have a1:=Y.d1;have a2:=Y.u1;have a3:=X.i1;have a4:=X.d1;have a5:=X.u1;have a6:=R.told.d1;have a7:=Y.s1;obtain⟨x,Z,_⟩:=Ai (l:=r.1) g (by omega);obtain⟨d,e1,ad⟩:=Ai (l:=rDn r) g (by omega);obtain⟨u,e2,_⟩:=Ai (l:=rUp r) g (by omega);obtain⟨ip,e3,_⟩:=Ai (l:=p.1) g (by omega);obtain⟨a,e4,_⟩:=Ai (l:=p.2.1) g (by omega);obtain⟨b,e5,_⟩:=Ai (l:=p.2.2) g (by omega);obtain⟨q,e6,_⟩:=Ai (l:=dn) g (by omega);obtain⟨pp,e7,_⟩:=Ai (l:=rSe r) g (by omega);obtain⟨y',out,y1,y2,y3,y4,_⟩:=R.site k s x d u ip a b q E Z e1 e2 e3 e4 e5 e6;rw[hy] at y1;cases y1;have ae:=AbC (a:=d) (b:=q) (w:=a) (t:=rTk r) (by omega);obtain⟨S1,S2⟩:=J.site k s x E Z;have hw:= (hN.st k s E).1.ok.timed.watch;refine ⟨?_,_,y4,ae.2.2⟩;by_cases c:AiD n (Aa st) i k=true
  .have cq:max 0 (Aa st-Aiy s-1)<=i:=by unfold AiD at c<;>simp_all
   subst aa;obtain⟨iq,f1,f2⟩:=AiY e3;obtain⟨aq,f3,f4⟩:=AiX e4;rw[if_pos c] at f2 f4;subst f2 f4;have af:Aa q<=16384:=by
    rcases R.told.each k s pp E e7 with ⟨c1,_⟩|⟨cc,c1,_,c3,c4,c5,c6⟩
    .rw[e6] at c1;cases c1;simp[Aa]
    .rw[e6] at c3;cases c3;have:=gE (Aew c1.ok (R.told.u _ (Ag c4).2.2)).1.body<;>omega
   have ho:=AjD (t:=rTk r) (J.down d ad) af (by omega);rw[ho] at y3 y4;refine ⟨λ_=>y4,Ai6 (Y.l k s x E Z) y2 (by split<;>omega) y3 ?_⟩;by_cases cN:Aa st<=Aiy s
   .rw[if_pos cN] at S2 ⊢;have ag:d=[]:=by
     by_cases ci:i=0
     .have:=J.zero ci k g j1<;>simp_all
     grind
    exact .inr ⟨by simp_all,by have:=S2.age;omega⟩
   .rw[if_neg cN] at S2 ⊢;by_cases ci:max 0 (Aa st-Aiy s-1)<i
    .have:=S1 ci;rw[e1] at this;cases this;exact .inr ⟨rfl,by have:=S2.age;omega⟩
    omega
  .have cq:i<max 0 (Aa st-Aiy s-1):=by unfold AiD at c<;>simp_all
   rw[if_neg (by omega)];exact ⟨λhh=>by omega,Ai6 (Y.l k s x E Z) y2 (by omega) y3 (.inl (by omega))⟩
 refine ⟨⟨λk s x E hx=>(ab k s x E hx).1,λx hx=>?_,λh=>by omega⟩,by rw[R.tick,ht];omega⟩;obtain⟨j,hj⟩:=BZ hx;obtain⟨g,j1,_⟩:=Ag hj;have b1:=R.ok.d1;have b2:=R.ok.l1;obtain⟨s,E,_⟩:=Ai (l:=n.1) g (by omega);obtain⟨y,hy,_⟩:=Ai (l:=I.1) g (by omega)<;>grind
def Ajw {n} (hf:OZ n) {l} {st} (hd:∀d∈l,Aa d.1<=9223372036854775807) (E:∀p∈st,kG p):AiC (n,(l,st))=some true:=by
 obtain⟨b,hb,hw⟩:=AfP (l:=l) hf E;unfold AiC;rw[ε zP,κ (b:=!true) rfl,ε hb];cases b
 .rw[ι (b:=!false) rfl]
 have W:=hw rfl;have g:=W.net;have n1:=g.n1;have n2:=g.n2;have l1:=W.l1;have I:=W.s;have a1:=Ak st;have J:AiK n l st=true:=by
  unfold AiK;rw[Qab,Qab];refine ⟨⟨decide_eq_true ⟨by omega,l1,by omega⟩,List.all_eq_true.2 λp t=>?_⟩,List.all_eq_true.2 λs t=>?_⟩<;>obtain⟨j,Y⟩:=BZ t
  .have:=(W.ok j p Y).1;exact decide_eq_true ⟨this.i1,this.d1,this.u1⟩
  .have:= (g.st j s Y).1.ok.timed.watch<;>grind
 rw[κ (b:=!true) rfl,ι J];obtain⟨r,tr,e,h1,h2⟩:=AgP (Ajc W) hd (λi r=>i<=Aa st->QJq n (Aa st) i r/\rTk r=i) (λr h _=>⟨AjE g l1 h,by obtain⟨m,_,_,e⟩:=h.rest<;>grind⟩) (λi p r r' m dn up y t X h c hR a6=>by obtain⟨q1,q2⟩:=c (by omega);exact AjH g (by omega) y t X h q1 q2 hR);rw[ε h1];rcases h2 with ⟨rfl,h,c⟩|⟨he,_⟩
 rotate_left
 .rw[ι (by simpa using he)]
 rw[Af (b:=!(0:Int)==0) _ _ rfl];rw[Ai0] at c;have r1:=h.l1;refine Bn (l:=l) (λr:Option Bool=>r=some true) (λ_ _=>True) (some true) _ (NJ (by omega)) (λi d y i1 a7=>.inl ⟨trivial,?_⟩) λi hi=>by rw[κ (decide_eq_false hi)] (λ_=>rfl) λhn=>absurd (λ_ _ _=>trivial) hn;obtain⟨s,I,_⟩:=Ai (l:=n.1) y (by omega);obtain⟨x,Z,_⟩:=Ai (l:=r.1) y (by omega);have a8:1<=Aiy s/\Aiy s<=1048576:=(g.st i s I).1.ok.timed.watch;have hm:=((c (Qbb _)).1.site i s x I Z).2.mode (by split<;>omega);rw[ι (decide_eq_true i1),ε Z,κ (decide_eq_false (by grind))]
def Ai9 (x:AU×List Bk×List EA) (c:Jh [CE,Nk,Uy] x) (g:SW [CE,Nk,Uy] x):AiC x=some true:=by
 obtain⟨n,l,st⟩:=x;obtain⟨t,⟨f2,E⟩,f4⟩:=c;obtain⟨s1,s2,I⟩:=g;refine Ajw (Ahr t) (λd J=>?_) λp X=>⟨λy Y=>?_⟩
 .have h:d.1.length<=maxLen:=(E d J).1.1;unfold maxLen at h;unfold Aa;omega
 .have h1:= (I.2 p X).1.2 y Y;have Z:y.1.length<=reachBytes:=h1.1.1;have h3:y.2.2.1.length<=reachBytes:=h1.2.2.1.1;unfold reachBytes at Z h3;unfold Aa;omega
end Go.Proofs.YtlgpjdjcbincgaaGreatDoor
