/- Part of a proof: plain readings of Go functions, their contracts, or plain facts of them. -/
import Derived.Test.YtlgpjdjcbincgaaGreatDoorRg3
set_option linter.all false
namespace Go.Proofs.YtlgpjdjcbincgaaGreatDoor
open Go.Den
abbrev Dd (n:AU):Int:=n.2.2.2.1
abbrev Ob (n:AU):Int:=n.2.2.2.2.1
abbrev JC (n:AU):Int:=n.2.2.2.2.2
structure OZ (n:AU):Prop where
 s:n.1.length<=maxLen
 ss:∀x∈n.1,Ca x
 u:n.2.1.length<=maxLen
 us:∀x∈n.2.1,x.1.length<=maxLen
 w:n.2.2.1.length<=maxLen
 ws:∀x∈n.2.2.1,x.2.2.2.length<=maxLen
theorem Ahr {n:AU} (h:Fits CE n):OZ n:=by obtain⟨⟨h1,d⟩,⟨g,h4⟩,⟨o,h6⟩,_⟩:=h;exact ⟨h1,λx c=>Ahx (d x c),g,λx c=>(h4 x c).1.1,o,λx c=>(h6 x c).2.2.2.1⟩
theorem PG a b c:D8 (a,(b,c))=true↔b<=a/\a<=c:=by unfold D8;simp
structure I4 (n:AU):Prop where
 l1:1<=Dd n
 l2:Dd n<=Ob n
 h:Ob n<=1048576
 s1:1<=JC n
 s2:JC n<=1048576
 whole:(Ob n-Dd n)%JC n=0
 few:(Ob n-Dd n)/JC n<=64
theorem AfE n:∃b,Od n=some b/\(b=true->I4 n):=by
 unfold Od;rw[Au];by_cases c:(D8 (n.2.2.2.1,(1,1048576))&&D8 (n.2.2.2.2.1,(n.2.2.2.1,1048576))&&D8 (n.2.2.2.2.2,(1,1048576)))=true
 ·rw[Zzp c];simp only[Qab,PG] at c;obtain⟨⟨⟨l1,l2⟩,h1,d⟩,s1,s2⟩:=c;rw[Aj (n.2.2.2.2.1-n.2.2.2.1) (by omega) (by omega),Zzp (by simp;omega)];have g:0<=(n.2.2.2.2.1-n.2.2.2.1)/n.2.2.2.2.2:=Qdz (by omega) (by omega);have h:(n.2.2.2.2.1-n.2.2.2.1)/n.2.2.2.2.2<=n.2.2.2.2.1-n.2.2.2.1:=Int.ediv_le_self _ (by omega);have p:BB (n.2.2.2.2.1-n.2.2.2.1) n.2.2.2.2.2=(n.2.2.2.2.1-n.2.2.2.1)%n.2.2.2.2.2:=Qbq (by omega);by_cases m:(BB (n.2.2.2.2.1-n.2.2.2.1) n.2.2.2.2.2==0)=true
  ·rw[Zzp m,Zzp (by simp;omega),Pn.jZ (by omega) (by omega) (by omega)];refine ⟨_,rfl,λo=>⟨l1,h1,d,s1,s2,?_,of_decide_eq_true o⟩⟩<;>simp_all
  ·rw[Zzn (Bool.eq_false_iff.2 m)]<;>simp_all
 ·rw[Zzn (Bool.eq_false_iff.2 c)]<;>simp_all
def Uz (n:AU) (s:Al):Prop:=St s/\Pn.RG s<=Dd n/\Ob n<=Pn.Lq s
theorem Afx {n} (h:OZ n):∃b,Oc n=some b/\(b=true->(∀j s,idx n.1 j=some s->Uz n s)/\1<=Aa n.1/\Aa n.1<=12):=by
 unfold Oc;have hl:=IU h.s;refine Ap (λz:Int×List (Int×Bool)=>z.1) (Aa n.1) (λz=>∀j s,j<z.1->idx n.1 j=some s->Uz n s) (λr=>∃b,r=some b/\(b=true->(∀j s,idx n.1 j=some s->Uz n s)/\1<=Aa n.1/\Aa n.1<=12)) (by omega) (by simp) (Ak _) (λj s p d=>absurd (Ag d).1 (by omega)) (λz g v i1=>?_) λz g I=>?_
 ·obtain⟨i,m⟩:=z;simp only at g v i1;obtain⟨s,d,y⟩:=Ai v i1;try simp only
  rw[Zzp (decide_eq_true i1),Zzq d];by_cases c:KY (Ty.int .i64) m s.1=true
  ·rw[Zzp c];exact ⟨false,rfl,nofun⟩
  rw[Zzn (Bool.eq_false_iff.2 c)];obtain⟨e,E,J⟩:=uR (h.ss s y);rw[Zzq E];by_cases c2:(!e==0||decide (n.2.2.2.1<s.2.2.2.2.2.2.2.2.2.1)||decide (s.2.2.2.2.2.2.2.2.2.2.1<n.2.2.2.2.1))=true
  ·rw[Zzp c2];exact ⟨false,rfl,nofun⟩
  rw[Zzn (Bool.eq_false_iff.2 c2),Aj (i+1) (by omega) (by omega)];refine ⟨rfl,λj t p o=>?_⟩;by_cases X:j=i
  ·subst X;rw[d] at o;cases o;simp only[Qaj,Qal,beq_eq_false_iff_ne,ne_eq,decide_eq_true_eq,not_or,Qcq,Qcb] at c2;obtain⟨⟨c3,c4⟩,Y⟩:=c2;subst c3;exact ⟨⟨h.ss s y,lT J rfl,E⟩,c4,Y⟩
  ·exact g j t (by simp only at p;omega) o
 ·obtain⟨i,m⟩:=z;simp only at g I;try simp only
  rw[Zzn (decide_eq_false (by omega)),Au];refine ⟨_,rfl,λZ=>⟨λj s d=>g j s (by have:=(Ag d).2.1;omega) d,?_⟩⟩;exact (PG _ _ _).1 Z
theorem Tl {l x} (t:l.length<=maxLen):∃b,Bd (l,x)=some b/\(b=true↔x∈l):=by
 have v:∃i,EL (l,x)=some i/\(0<=i↔x∈l):=by
  unfold EL;have:=IU t;refine Ap (λi:Int=>i) (Aa l) (λz=>∀j,j<z->idx l j≠some x) (λr=>∃i,r=some i/\(0<=i↔x∈l)) (by omega) (by omega) (Ak _) (λj d g=>absurd (Ag g).1 (by omega)) (λi o p i1=>?_) λi o J=>?_
  ·obtain⟨y,E,I⟩:=Ai p i1;try simp only
   rw[Zzp (decide_eq_true i1),Zzq E];by_cases c:(x==y)=true
   ·rw[Zzp c];have:x=y:=by simp_all
    subst this;exact ⟨i,rfl,λ_=>I,λ_=>p⟩
   ·rw[Zzn (Bool.eq_false_iff.2 c),Aj (i+1) (by omega) (by omega)];refine ⟨rfl,λj d g=>?_⟩<;>grind
  ·try simp only
   rw[Zzn (decide_eq_false (by omega))];refine ⟨-1,rfl,λh=>absurd h (by decide),λh=>?_⟩;obtain⟨j,d⟩:=BZ h;exact absurd d (o j (by have:=(Ag d).2.1;omega))
 obtain⟨i,h1,X⟩:=v;unfold Bd;rw[Zzq h1]<;>simp_all
abbrev PO:=List (Int×Bool)
def Qq (m:PO):Int:=Aa m
abbrev LO (m:PO) (k:Int):Bool:=KY (.int .i64) m k
abbrev Qz (m:PO) (k:Int) (v:Bool):PO:=Jw (.int .i64) m k v
theorem fR e r k v:Qz (e::r) k v=if k=e.1 then (k,v)::r else e::Qz r k v:=by show (if decide (k=e.1)=true then (k,v)::r else e::Qz r k v) = _<;>simp_all
theorem QY e r k:LO (e::r) k=if k=e.1 then e.2 else LO r k:=by show (if decide (k=e.1)=true then e.2 else LO r k) = _<;>simp_all
theorem Ss {k x v}:∀ {m},LO (Qz m k v) x=if x=k then v else LO m x
 |[]=>by show LO ((k,v)::[]) x = _;rw[QY]
 |e::r=>by
  rw[fR,QY];by_cases c:k=e.1
  ·rw[if_pos c,QY]<;>simp_all
  ·rw[if_neg c,QY,Ss]<;>grind
theorem vG {k v}:∀ {m},Qq (Qz m k v)<=Qq m+1
 |[]=>Qbb _
 |e::r=>by
  have c:=vG (k:=k) (v:=v) (m:=r);rw[fR];unfold Qq at *;split
  ·rw[CW,CW];omega
  ·rw[CW,CW];omega
def Fp (m:PO) (n:Nat):Nat:=((List.range n).filter λ(k:Nat)=>!LO m (k:Int)).length
theorem T6 {m} {n:Nat} {k:Int} (c:0<=k) (k1:k<n) (h:LO m k=false):Fp (Qz m k true) n<Fp m n:=by
 refine XX _ _ (List.range n) (λx d=>?_) ⟨k.toNat,by simp;omega,?_,?_⟩
 ·rw[Ss] at d<;>simp_all
 ·grind
 ·rw[Qax c,Ss,if_pos rfl];rfl
theorem gA m n:Fp m n<=n:=by unfold Fp<;>grind
def YR (n:AU) (u:vX):Prop:=(∀x∈u.1,0<=x/\x<Aa n.1)/\u.2∈u.1
theorem AdN {n} (E:OZ n) (h1:1<=Aa n.1) (a1:Aa n.1<=12):∃b,MK n=some b/\(b=true->(∀j u,idx n.2.1 j=some u->YR n u)/\1<=Aa n.2.1/\Aa n.2.1<=6):=by
 unfold MK;have hl:=IU E.u;refine Ap (λz:Int×List (Int×Bool)=>z.1) (Aa n.2.1) (λz=>(∀j u,j<z.1->idx n.2.1 j=some u->YR n u)/\Qq z.2+Fp z.2 (Aa n.1).toNat<=(Aa n.1).toNat) (λr=>∃b,r=some b/\(b=true->(∀j u,idx n.2.1 j=some u->YR n u)/\1<=Aa n.2.1/\Aa n.2.1<=6)) (by omega) (by simp) (Ak _) ⟨λj s hj h=>absurd (Ag h).1 (by omega),?_⟩ (λz d Z i1=>?_) λz d I=>?_
 ·have:=gA [] (Aa n.1).toNat;have e:Qq []=0:=rfl;show Qq ([]:PO)+Fp ([]:PO) _<=_;omega
 ·obtain⟨i,m⟩:=z;simp only at d Z i1;obtain⟨d,hM⟩:=d;obtain⟨u,hu,hm⟩:=Ai Z i1;have a6:=IU (E.us u hm);try simp only
  rw[Zzp (decide_eq_true i1),Zzq hu];refine Ap (λz:Int×List (Int×Bool)=>z.1) (Aa u.1) (λz=>(∀j x,j<z.1->idx u.1 j=some x->0<=x/\x<Aa n.1)/\Qq z.2+Fp z.2 (Aa n.1).toNat<=(Aa n.1).toNat) (Cq _ _ _ _) (by omega) (by simp) (Ak _) ⟨λj s hj h=>absurd (Ag h).1 (by omega),hM⟩ (λz hJ j0 J=>?_) λz hJ I=>?_
  ·obtain⟨j,o⟩:=z;simp only at hJ j0 J;obtain⟨hJ,p⟩:=hJ;obtain⟨x,t,_⟩:=Ai j0 J;try simp only
   rw[Zzp (decide_eq_true J),Zzq t,Au];by_cases c:(!D8 (x,(0,wr .i64 (Aa n.1-1)))||KY (Ty.int .i64) o x)=true
   ·rw[Zzp c];exact ⟨false,rfl,nofun⟩
   rw[Zzn (Bool.eq_false_iff.2 c),Aj (j+1) (by omega) (by omega)];rw[Aj (Aa n.1-1) (by omega) (by omega)] at c;simp only[Qaj,Qal,not_or,Qdh,Bool.not_eq_true] at c;have hr:=(PG _ _ _).1 c.1;have h3:=T6 (n:=(Aa n.1).toNat) hr.1 (by omega) c.2;have h4:=vG (m:=o) (k:=x) (v:=true);refine ⟨rfl,λk y X g=>?_,by show Qq (Qz o x true)+Fp (Qz o x true) _<=_;omega⟩;by_cases e:k=j
   ·subst e;rw[t] at g;cases g;omega
   ·exact hJ k y (by simp only at X;omega) g
  ·obtain⟨j,o⟩:=z;simp only at hJ I;obtain⟨hJ,p⟩:=hJ;try simp only
   rw[Zzn (decide_eq_false (by omega))];obtain⟨b,hb,Y⟩:=Tl (E.us u hm);rw[Zzq hb];cases b with
   |false=>rw[Zzp (b:=!false) rfl];exact ⟨false,rfl,nofun⟩
   |true =>
    rw[Zzn (b:=!true) rfl,Aj (i+1) (by omega) (by omega)];refine ⟨rfl,λk y X g=>?_,p⟩;by_cases e:k=i
    ·subst e;rw[hu] at g;cases g;refine ⟨λx t=>?_,Y.1 rfl⟩;obtain⟨q,hq⟩:=BZ t;exact hJ q x (by have:=(Ag hq).2.1;omega) hq
    ·exact d k y (by simp only at X;omega) g
 ·obtain⟨i,m⟩:=z;simp only at d I;obtain⟨d,hM⟩:=d;try simp only
  rw[Zzn (decide_eq_false (by omega)),Au];by_cases c:D8 (Aa n.2.1,(1,6))=true
  ·rw[Zzp c];show LI _ (Step.done (cnd (decide (Qq m<=1099511627776)) (some (Qq m==Aa n.1)) none));rw[Zzp (decide_eq_true (show Qq m<=1099511627776 by omega))];exact ⟨_,rfl,λ_=>⟨λj s h=>d j s (by have:=(Ag h).2.1;omega) h,(PG _ _ _).1 c⟩⟩
  ·rw[Zzn (Bool.eq_false_iff.2 c)];exact ⟨false,rfl,nofun⟩
structure YT (n:AU) (w:vY):Prop where
 a:0<=w.1
 ab:w.1<w.2.1
 b:w.2.1<Aa n.2.1
 v:1<=w.2.2.1/\w.2.2.1<=1048576
 o:1<=Aa w.2.2.2/\Aa w.2.2.2<=8
 os:∀x∈w.2.2.2,0<=x/\x<=Dd n-1
theorem AdS {n} (v:OZ n) (t:I4 n):∃b,ML n=some b/\(b=true->(∀j w,idx n.2.2.1 j=some w->YT n w)/\Aa n.2.2.1<=8):=by
 unfold ML;have hl:=IU v.w;have t1:1<=n.2.2.2.1:=t.l1;have t2:n.2.2.2.1<=n.2.2.2.2.1:=t.l2;have t3:n.2.2.2.2.1<=1048576:=t.h;refine Ap (λz:Int×List ((Int×Int)×Bool)=>z.1) (Aa n.2.2.1) (λz=>∀j w,j<z.1->idx n.2.2.1 j=some w->YT n w) (λr=>∃b,r=some b/\(b=true->(∀j w,idx n.2.2.1 j=some w->YT n w)/\Aa n.2.2.1<=8)) (by omega) (by simp) (Ak _) (λj s hj g=>absurd (Ag g).1 (by omega)) (λz o E i1=>?_) λz o I=>?_
 ·obtain⟨i,m⟩:=z;simp only at o E i1;obtain⟨w,J,hm⟩:=Ai E i1;have a1:=IU (v.ws w hm);try simp only
  rw[Zzp (decide_eq_true i1),Zzq J];by_cases c:(decide (w.1<0)||decide (w.2.1<=w.1)||decide (Aa n.2.1<=w.2.1)||KY (Ty.pair (Ty.int IntKind.i64) (Ty.int IntKind.i64)) m (w.1,w.2.1)||!D8 (w.2.2.1,(1,1048576))||!D8 (Aa w.2.2.2,(1,8)))=true
  ·rw[Zzp c];exact ⟨false,rfl,nofun⟩
  rw[Zzn (Bool.eq_false_iff.2 c)];simp only[Qaj,Qal,not_or,decide_eq_true_eq,Qdh,Qcb,Int.not_le,PG] at c;obtain⟨⟨⟨⟨⟨c1,c2⟩,c3⟩,_⟩,c5⟩,c6⟩:=c;refine Ap (λz:Int=>z) (Aa w.2.2.2) (λz=>∀j x,j<z->idx w.2.2.2 j=some x->0<=x/\x<=Dd n-1) (Cq _ _ _ _) (by omega) (by omega) (Ak _) (λj s hj g=>absurd (Ag g).1 (by omega)) (λj hJ X Y=>?_) λj hJ I=>?_
  ·obtain⟨x,p,_⟩:=Ai X Y;try simp only
   rw[Zzp (decide_eq_true Y),Zzq p,Au,Aj (n.2.2.2.1-1) (by omega) (by omega)];by_cases c:D8 (x,(0,n.2.2.2.1-1))=true
   ·rw[Zzn (by rw[c];rfl),Aj (j+1) (by omega) (by omega)];refine ⟨rfl,λk y Z d=>?_⟩;by_cases e:k=j
    ·subst e;rw[p] at d;cases d;exact (PG _ _ _).1 c
    ·exact hJ k y (by omega) d
   ·rw[Zzp (by rw[Bool.eq_false_iff.2 c];rfl),Zzp (decide_eq_true X)];exact ⟨false,rfl,nofun⟩
  ·try simp only
   rw[Zzn (decide_eq_false (by omega)),Aj (i+1) (by omega) (by omega)];refine ⟨rfl,λk y Z d=>?_⟩;by_cases e:k=i
   ·subst e;rw[J] at d;cases d;refine ⟨c1,c2,c3,c5,c6,λx p=>?_⟩;obtain⟨q,hq⟩:=BZ p;exact hJ q x (by have:=(Ag hq).2.1;omega) hq
   ·exact o k y (by simp only at Z;omega) d
 ·obtain⟨i,m⟩:=z;simp only at o I;try simp only
  rw[Zzn (decide_eq_false (by omega))];exact ⟨_,rfl,λhh=>⟨λj s g=>o j s (by have:=(Ag g).2.1;omega) g,of_decide_eq_true hh⟩⟩
structure DH (n:AU):Prop where
 f:OZ n
 chk:Du n=some 0
 t:I4 n
 st:∀j s,idx n.1 j=some s->Uz n s
 n1:1<=Aa n.1
 n2:Aa n.1<=12
 sub:∀j u,idx n.2.1 j=some u->YR n u
 u1:1<=Aa n.2.1
 u2:Aa n.2.1<=6
 wed:∀j w,idx n.2.2.1 j=some w->YT n w
 w2:Aa n.2.2.1<=8
theorem Ade {n} (d:OZ n):∃e,Du n=some e/\(e=0->DH n):=by
 obtain⟨o,h1,g1⟩:=AfE n;obtain⟨p,t,c⟩:=Afx d;have key:∃e,Du n=some e/\(e=0->I4 n/\((∀j s,idx n.1 j=some s->Uz n s)/\1<=Aa n.1/\Aa n.1<=12)/\((∀j u,idx n.2.1 j=some u->YR n u)/\1<=Aa n.2.1/\Aa n.2.1<=6)/\(∀j w,idx n.2.2.1 j=some w->YT n w)/\Aa n.2.2.1<=8):=by
  unfold Du;rw[Zzq h1];cases o with
  |false=>exact ⟨60,rfl,nofun⟩
  |true =>
   rw[Zzn (b:=!true) rfl,Zzq t];cases p with
   |false=>exact ⟨60,rfl,nofun⟩
   |true =>
    have g1:=g1 rfl;have c:=c rfl;obtain⟨b3,v,y⟩:=AdN d c.2.1 c.2.2;obtain⟨E,h4,I⟩:=AdS d g1;rw[Zzn (b:=!true) rfl,Zzq v];cases b3 with
    |false=>exact ⟨60,rfl,nofun⟩
    |true =>
     rw[Zzn (b:=!true) rfl,Zzq h4];cases E with
     |false=>exact ⟨60,rfl,nofun⟩
     |true=>exact ⟨0,rfl,λ_=>⟨g1,c,y rfl,I rfl⟩⟩
 obtain⟨e,h,g⟩:=key;refine ⟨e,h,λh0=>?_⟩;subst h0;obtain⟨a,⟨o,p,b3⟩,⟨c1,c2,c3⟩,d1,J⟩:=g rfl;exact ⟨d,h,a,o,p,b3,c1,c2,c3,d1,J⟩
end Go.Proofs.YtlgpjdjcbincgaaGreatDoor
namespace Go.Proofs.YtlgpjdjcbincgaaGreatDoor
open Go.Den
def kN (n:AU):Nat:=((Ob n-Dd n)/JC n).toNat
def Fb (n:AU) (k:Nat):Int:=Dd n+(k:Int)*JC n
def DW (n:AU):List Int:=(List.range (kN n+1)).map (Fb n)
theorem yC {n} (h:I4 n):(kN n:Int)*JC n=Ob n-Dd n/\kN n<=64:=by have h1:=h.l1;have c:=h.l2;have d:=h.s1;have g:=h.few;unfold kN;rw[Qax (Qdz (by omega) (by omega))];exact ⟨Int.ediv_mul_cancel (Int.dvd_of_emod_eq_zero h.whole),by omega⟩
theorem P6 {n a b} (h:I4 n) (c:a<=b):Fb n a<=Fb n b:=by have:=Qdg (show (a:Int)<=b by omega) (show 0<=JC n by have:=h.s1;omega);unfold Fb;omega
theorem S9 n k:Fb n (k+1)=Fb n k+JC n:=by unfold Fb<;>grind
theorem P8 n:Fb n 0=Dd n:=by unfold Fb;simp
theorem XY {n} (h:I4 n):Fb n (kN n)=Ob n:=by have:=(yC h).1;unfold Fb;omega
theorem Zo {n a b} (h:I4 n) (d:Fb n a<Fb n b):a<b:=by refine Qdr λc=>?_;have:=P6 h (show b<=a by omega);omega
theorem mem_cyc {n x}:x∈DW n↔∃k,k<=kN n/\x=Fb n k:=by unfold DW<;>grind
theorem Agc {n x} (h:I4 n) (c:x∈DW n):Dd n<=x/\x<=Ob n:=by obtain⟨k,d,rfl⟩:=mem_cyc.1 c;have h1:=P6 h (Qaw k);have g:=P6 h d;rw[P8] at h1;rw[XY h] at g<;>omega
theorem Agd {n x y} (h:I4 n) (d:x∈DW n) (g:y∈DW n) (c:x<y):x+JC n∈DW n:=by obtain⟨k,o,rfl⟩:=mem_cyc.1 d;obtain⟨j,p,rfl⟩:=mem_cyc.1 g;have:=Zo h c;exact mem_cyc.2 ⟨k+1,by omega,(S9 n k).symm⟩
theorem AcF {n x y} (h:I4 n) (d:x∈DW n) (g:y∈DW n) (c:y<x):x-JC n∈DW n:=by obtain⟨k,o,rfl⟩:=mem_cyc.1 d;obtain⟨j,p,rfl⟩:=mem_cyc.1 g;have:=Zo h c;refine mem_cyc.2 ⟨k-1,by omega,?_⟩;have:=S9 n (k-1)<;>grind
theorem mD n:Aa (DW n)=kN n+1:=by unfold DW Aa;simp
theorem P5 {n} (h:I4 n):(DW n).length<=maxLen:=by have:=mD n;have:=(yC h).2;unfold Aa at *;unfold maxLen;omega
theorem vC n:Dd n∈DW n:=mem_cyc.2 ⟨0,Qaw _,(P8 n).symm⟩
theorem P9 {n} (h:DH n):FO n=some (DW n,0):=by
 have c:=h.t;have h1:=c.l1;have E:=c.l2;have I:=c.s1;have h4:=c.h;have J:=c.s2;have X:=yC c;unfold FO;rw[Zzq h.chk,Af (b:=!(0:Int)==0) _ _ rfl];refine Ap (λz:List Int×Int=>Aa z.1) (kN n+1) (λz=>∃k:Nat,k<=kN n+1/\z=((List.range k).map (Fb n),Fb n k)) (λr=>r=some (DW n,0)) (by omega) (by simp[Aa]) (by simp[Aa];omega) ⟨0,Qaw _,by rw[P8];rfl⟩ (λz g Y i1=>?_) λz g y=>?_
 ·obtain⟨k,o,rfl⟩:=g;have p:Aa ((List.range k).map (Fb n))=k:=by unfold Aa;simp
  simp only[p] at i1;have d:=P6 c (show k<=kN n by omega);have v:=P6 c (Qaw k);rw[XY c] at d;rw[P8] at v;try simp only
  rw[Zzp (decide_eq_true d),Zzp (VV (by omega)),Aj (Fb n k+JC n) (by omega) (by omega)];refine ⟨by simp only;rw[BK],k+1,by omega,?_⟩;rw[Qdf,Qdy,S9 n k];rfl
 ·obtain⟨k,o,rfl⟩:=g;have p:Aa ((List.range k).map (Fb n))=k:=by unfold Aa;simp
  simp only[p] at y;obtain rfl:k=kN n+1:=by omega
  have Z:=S9 n (kN n);have hc:=XY c;try simp only
  rw[Zzn (decide_eq_false (show ¬Fb n (kN n+1)<=n.2.2.2.2.1 from by show ¬Fb n (kN n+1)<=Ob n;omega))];exact rfl
theorem Ab1 {l} (h:Aa l<=1000):∃b,JM l=some b/\(b=true↔∀x∈l,0<=x/\x<=1048576):=by
 unfold JM;refine Bn (l:=l) (λr:Option Bool=>∃b,r=some b/\(b=true↔∀x∈l,0<=x/\x<=1048576)) (λ_ x=>0<=x/\x<=1048576) (some false) (some true) (by unfold Aa at h;unfold maxLen;omega) (λi x h0 hi d=>?_) λi hi=>by rw[Zzn (decide_eq_false hi)] (λg=>⟨true,rfl,λ_ x d=>?_,λ_=>rfl⟩) λo=>⟨false,rfl,nofun,λg=>absurd (λi x d=>g x (Ag d).2.2) o⟩
 ·rw[Zzp (decide_eq_true hi),Zzq d,Au];unfold JL;by_cases c:0<=x/\x<=1048576
  ·rw[Zzn (by simp;omega)]<;>simp_all
  ·rw[Zzp (by simp;omega)]<;>simp_all
 ·obtain⟨i,hi⟩:=BZ d<;>grind
def jJ (v:Df):Prop:=(0<=v.1/\v.1<=1048576)/\(0<=v.2.1/\v.2.1<=1048576)/\0<=v.2.2/\v.2.2<=1048576
theorem dS {v w need} (p:jJ v) (d:0<=w/\w<=1048576) (X:1<=need/\need<=1048576):∃h,Es (v,(w,need))=some (h,0)/\jJ h/\(h.1=v.1\/h.1=w):=by
 obtain⟨a,b,c⟩:=v;obtain⟨g,t,y⟩:=p;simp only at g t y;obtain⟨s,h1,E⟩:=Ab1 (l:=a::b::c::w::need::[]) (by simp[Aa]);have I:= E.2 (λx J=>by simp only[Qdw,Qej,or_false] at J<;>omega);subst I;unfold Es;try simp only
 rw[Zzq h1,Zzn (by simp;omega),Aj (c+1) (by omega) (by omega)];by_cases e:w=a
 ·rw[Zzp (by simpa using e)];exact ⟨_,rfl,⟨g,g,by simp⟩,.inl rfl⟩
 rw[Zzn (by simpa using e)];by_cases o:(w==b&&decide (0<c))=true
 ·rw[Zzp o];by_cases e3:need<=c+1
  ·rw[Zzp (decide_eq_true e3)];exact ⟨_,rfl,⟨d,d,by simp⟩,.inr rfl⟩
  ·rw[Zzn (decide_eq_false e3)];exact ⟨_,rfl,⟨g,d,by simp only;omega⟩,.inl rfl⟩
 ·rw[Zzn (Bool.eq_false_iff.2 o)];by_cases e3:need<=1
  ·rw[Zzp (decide_eq_true e3)];exact ⟨_,rfl,⟨d,d,by simp⟩,.inr rfl⟩
  ·rw[Zzn (decide_eq_false e3)];exact ⟨_,rfl,⟨g,d,by simp⟩,.inl rfl⟩
theorem AeB {n x} (h:DH n) (g:0<=x/\x<=65536):∃c,Mu (n,x)=some (c,0)/\c∈DW n/\(x=0->c=Dd n):=by
 have p:=(yC h.t).2;have v:=mD n;unfold Mu;rw[Zzq (P9 h),Af (b:=!(0:Int)==0) _ _ rfl,Zzn (decide_eq_false (by omega)),Zzn (decide_eq_false (by omega))];have p0:0<=x*Aa (DW n):=Qef g.1 (by omega);have p1:x*Aa (DW n)<=65536*65:=Int.mul_le_mul g.2 (by omega) (by omega) (by omega);simp only;rw[Aj (x*Aa (DW n)) (by omega) (by omega),Aj (Aa (DW n)-1) (by omega) (by omega),Pn.jZ (by omega) (by omega) (by omega),Ds];obtain⟨c,d,o⟩:=Ai (l:=DW n) (i:=min (x*Aa (DW n)/65536) (Aa (DW n)-1)) (by omega) (by omega);rw[Zzq d];refine ⟨c,rfl,o,λh0=>?_⟩;subst h0;rw[show min (0*Aa (DW n)/65536) (Aa (DW n)-1)=0 by omega] at d;have:idx (DW n) 0=some (Fb n 0):=by rw[AY (by omega)];unfold DW<;>simp_all
 rw[this,P8] at d<;>simp_all
def UD (n:AU) (v:Df):Prop:=v.1∈DW n/\jJ v
theorem P7 {n x} (h:DH n) (c:x∈DW n):1<=x/\x<=1048576:=by have:=Agc h.t c;have:=h.t.l1;have:=h.t.h;omega
theorem Aey {n v x} (h:DH n) (X:UD n v) (p:0<=x/\x<=65536):∃d,Mt (n,(v,x))=some (d,0)/\UD n d/\(x=0->v.1=Dd n->d.1=Dd n):=by
 obtain⟨g,y⟩:=X;obtain⟨b,h1,Y⟩:=Ab1 (l:=v.1::v.2.1::v.2.2::[]) (by simp[Aa]);have o:= Y.2 (λx p=>by obtain⟨a1,a2,a3⟩:=y<;>grind);subst o;obtain⟨b,Z,h4⟩:=Tl (P5 h.t);have o:=h4.2 g;subst o;obtain⟨c,h5,h6,E⟩:=AeB h p;have a6:=h.t.s1;have I:=h.t.s2;have a7:=P7 h g;unfold Mt;rw[Zzq (P9 h),Af (b:=!(0:Int)==0) _ _ rfl,Zzq h1,Zzn (b:=!true) rfl,Zzq Z,Zzn (b:=!true) rfl,Zzq h5,Af (b:=!(0:Int)==0) _ _ rfl];simp only;have fin:∀w,w∈DW n->(x=0->v.1=Dd n->w=v.1)->∃d,Ad (Es (v,(w,3))) none (λx5=>some x5)=some (d,0)/\UD n d/\(x=0->v.1=Dd n->d.1=Dd n):=λw J hz=>by
  obtain⟨d,t1,t2,t3⟩:=dS (need:=3) y (w:=w) (by have:=P7 h J;omega) (by omega);rw[Zzq t1];refine ⟨d,rfl,⟨?_,t2⟩,λa b=>?_⟩
  ·rcases t3 with e|e
   ·rw[e];exact g
   ·rw[e];exact J
  ·have:=hz a b;omega
 by_cases c1:v.1<c
 ·rw[Zzp (decide_eq_true c1),Aj (v.1+JC n) (by omega) (by omega)];exact fin _ (Agd h.t g h6 c1) λa b=>by have:=E a;omega
 rw[Zzn (decide_eq_false c1)];by_cases c2:c<v.1
 ·rw[Zzp (decide_eq_true c2),Aj (v.1-JC n) (by omega) (by omega)];exact fin _ (AcF h.t g h6 c2) λa b=>by have:=E a;omega
 rw[Zzn (decide_eq_false c2)];exact fin _ g λ_ _=>rfl
def Hh (l:List Int):Prop:=Aa l<=1024/\∀x∈l,0<=x/\x<=65536
def wE (l:List Int) (i v:Int):Prop:=l=[]/\v=0\/idx l i=some v
theorem eQ l:∃i v e,EG l=some (i,(v,e))/\(e=0↔Hh l)/\(e=0->wE l i v):=by
 unfold EG;by_cases c:1024<Aa l
 ·rw[Zzp (decide_eq_true c)];exact ⟨0,0,4,rfl,⟨nofun,λo=>by have:=o.1;omega⟩,nofun⟩
 rw[Zzn (decide_eq_false c)];have J:=Ak l;refine Bn (l:=l) (λr:Option (Int×Int×Int)=>∃i v e,r=some (i,(v,e))/\(e=0↔Hh l)/\(e=0->wE l i v)) (λ_ x=>0<=x/\x<=65536) (some (0,(0,2))) _ (by unfold Aa at c;unfold maxLen;omega) (λi x h0 hi d=>?_) λi hi=>by rw[Zzn (decide_eq_false hi)] (λo=>?_) λE=>⟨0,0,2,rfl,⟨nofun,λo=>absurd (λi x d=>o.2 x (Ag d).2.2) E⟩,nofun⟩
 ·rw[Zzp (decide_eq_true hi),Zzq d,Au];unfold EW;by_cases c:0<=x/\x<=65536
  ·rw[Zzn (by simp;omega)]<;>simp_all
  ·rw[Zzp (by simp;omega)]<;>simp_all
 ·have hF:Hh l:=⟨by omega,λx d=>by obtain⟨i,hi⟩:=BZ d<;>grind⟩;refine Ap (λz:Int×Int=>z.2) (Aa l) (λz=>z.1 = -1/\z.2=0\/0<=z.1/\z.1<z.2) (λr:Option (Int×Int×Int)=>∃i v e,r=some (i,(v,e))/\(e=0↔Hh l)/\(e=0->wE l i v)) (by omega) (by simp) (by omega) (.inl ⟨rfl,rfl⟩) (λz h p i1=>?_) λz h I=>?_
  ·obtain⟨b,i⟩:=z;simp only at h p i1;obtain⟨x,d,_⟩:=Ai p i1;try simp only
   rw[Zzp (decide_eq_true i1),Zzq d,Aj (i+1) (by omega) (by omega)];rcases h with ⟨g,y⟩|⟨g,y⟩
   ·rw[Zzp (decide_eq_true (by omega))];exact ⟨rfl,.inr ⟨p,by omega⟩⟩
   ·obtain⟨v,t,_⟩:=Ai (l:=l) g (by omega);rw[Zzn (decide_eq_false (by omega)),Zzq t,Au];by_cases c2:Im (x,v)=true
    ·rw[Zzp c2];exact ⟨rfl,.inr ⟨p,by omega⟩⟩
    ·rw[Zzn (Bool.eq_false_iff.2 c2)];exact ⟨rfl,.inr ⟨g,by omega⟩⟩
  ·obtain⟨b,i⟩:=z;simp only at h I;try simp only
   rw[Zzn (decide_eq_false (by omega))];rcases h with ⟨g,y⟩|⟨g,y⟩
   ·rw[Zzp (decide_eq_true (by omega))];refine ⟨-1,0,0,rfl,⟨λ_=>hF,λ_=>rfl⟩,λ_=>.inl ⟨Qad (by unfold Aa at *;omega),rfl⟩⟩
   ·obtain⟨v,t,_⟩:=Ai (l:=l) g (by omega);rw[Zzn (decide_eq_false (by omega)),Zzq t];exact ⟨b,v,0,rfl,⟨λ_=>hF,λ_=>rfl⟩,λ_=>.inr t⟩
theorem Vm {l:List Int} (h:Hh l):∃i v,EG l=some (i,(v,0))/\(0<=v/\v<=65536)/\((∀x∈l,x=0)->v=0)/\(l≠[]->0<=i/\i<Aa l):=by
 obtain⟨i,v,e,h1,g,c⟩:=eQ l;have o:=g.2 h;subst o;rcases c rfl with ⟨h0,rfl⟩|c
 ·exact ⟨i,0,h1,by omega,λ_=>rfl,λp=>absurd h0 p⟩
 ·obtain⟨a,b,d⟩:=Ag c;exact ⟨i,v,h1,h.2 v d,λt=>t v d,λ_=>⟨a,b⟩⟩
def PM (b:Fg):Prop:=0<=b.2/\b.2<=1048576
theorem Aer {n i b x y} (h:DH n) (p:0<=i) (i1:i<Aa n.2.2.1) (d:PM b) (E:x∈DW n) (I:y∈DW n):∃g,Pt (n,(i,(b,(x,y))))=some (g,0)/\PM g:=by
 obtain⟨c1,h1,g1⟩:=Tl (P5 h.t);obtain⟨c2,J,X⟩:=Tl (P5 h.t);have Y:=g1.2 E;have Z:=X.2 I;subst Y Z;obtain⟨w,o,_⟩:=Ai p i1;have a1:=d.1;have a6:=d.2;unfold Pt;rw[Zzq (P9 h),Af (b:=!(0:Int)==0) _ _ rfl,Zzn (decide_eq_false (by simp_all)),Zzn (decide_eq_false (by simp_all)),Au,Zzn (by unfold Md;simp;omega),Zzq h1,Zzn (b:=!true) rfl,Zzq J,Zzn (b:=!true) rfl];simp only;by_cases c:(decide (wr .i64 (B8 x y-Bb x y)<=n.2.2.2.2.2)==b.1)=true
 ·rw[Zzp c];exact ⟨_,rfl,by simp[PM]⟩
 rw[Zzn (Bool.eq_false_iff.2 c),Zzq o,Aj (b.2+1) (by omega) (by omega)];by_cases c2:w.2.2.1<=b.2+1
 ·rw[Zzp (decide_eq_true c2)];exact ⟨_,rfl,by simp[PM]⟩
 ·rw[Zzn (decide_eq_false c2)];exact ⟨_,rfl,by have:=(h.wed i w o).v;simp only[PM];omega⟩
def jH (w:vY) (v:Df):Prop:=(0<=v.1/\v.1<Aa w.2.2.2)/\(0<=v.2.1/\v.2.1<=1048576)/\0<=v.2.2/\v.2.2<=1048576
theorem Ahh (l:List Int):Aa (CR (Ay 8 0) 0 8 l)=8/\∀x∈CR (Ay 8 0) 0 8 l,x∈l\/x=0:=by
 refine ⟨Q0 (by omega) (by omega) (by rw[AM (by omega)];omega),λx c=>?_⟩;unfold CR at c;rw[Qck,Qck] at c;rcases c with (c|c)|c
 ·simp at c
 ·exact .inl (Qde c)
 ·exact .inr (List.mem_replicate.1 (Qek c)).2
theorem Ae9 {n i w v l} (h:DH n) (d:idx n.2.2.1 i=some w) (hv:jH w v) (g:Hh l):∃E,Ls (n,(i,(v,l)))=some (E,0)/\jH w E:=by
 have W:=h.wed i w d;obtain⟨i0,i1,_⟩:=Ag d;obtain⟨v0,v1,v2⟩:=hv;have I:KL (n,(i,v))=some 0:=by
  have J:MN (n,i)=some 0:=by unfold MN;rw[Zzq h.chk,Af (b:=!(0:Int)==0) _ _ rfl,Zzn (by simp;omega)]
  unfold KL;rw[Zzq J,Af (b:=!(0:Int)==0) _ _ rfl,Zzn (decide_eq_false (by simp_all)),Zzq d,Zzn (by simp;omega)]
 obtain⟨a1,x1,g1,_⟩:=Vm g;obtain⟨cl,cm⟩:=Ahh l;have ho:=W.o;obtain⟨p,t⟩:∃p,p=EJ (CR (Ay 8 0) 0 8 l) 0 (Aa w.2.2.2):=⟨_,rfl⟩;have y:p=Ax (CR (Ay 8 0) 0 8 l) (Aa w.2.2.2):=by rw[t,Qp (by omega) (by omega)];rfl
 have c:Aa p=Aa w.2.2.2:=by rw[y];exact CK (by omega) (by omega)
 have X:Hh p:=⟨by omega,λx Y=>by
  rcases (λx Y=>cm x (VI (by rw[<-y];exact Y))) x Y with hh|rfl
  ·exact g.2 x hh
  ·omega⟩;obtain⟨to,x2,g2,_,_,gi⟩:=Vm X;have gi:=gi (by intro e;rw[e] at c;rw[Tz] at c;omega);have Z:Lt (n,(i,l))=some (to,0):=by unfold Lt;rw[Zzq g1,Af (b:=!(0:Int)==0) _ _ rfl,Zzp (by rw[AM (by omega)];rfl),Zzq d,Zzp (by simp only[cl];simp;omega),<-t,Zzq g2]
 obtain⟨E,t1,t2,t3⟩:=dS (w:=to) ⟨by omega,v1,v2⟩ (by omega) W.v;unfold Ls;rw[Zzq I,Af (b:=!(0:Int)==0) _ _ rfl,Zzq Z,Af (b:=!(0:Int)==0) _ _ rfl,Zzq d,Zzq t1];exact ⟨E,rfl,by omega,t2.2⟩
end Go.Proofs.YtlgpjdjcbincgaaGreatDoor
namespace Go.Proofs.YtlgpjdjcbincgaaGreatDoor
open Go.Den
def RX:List Int->Nat
 |[]=>0
 |a::l=>a.toNat+RX l
def ren (hi lo x:Int):Int:=if x=hi then lo else x
theorem aN {hi lo} (h1:lo<hi):∀l:List Int,RX (l.map (ren hi lo))<=RX l
 |[]=>Qaa _
 |a::l=>by have:=aN h1 l;simp only[Qcu,RX,ren]<;>omega
theorem vK {hi lo} (h0:0<=lo) (h1:lo<hi):∀ {l},hi∈l->RX (l.map (ren hi lo))<RX l
 |a::l,h=>by
  have c:=aN h1 l;simp only[Qcu,RX,ren];rcases List.mem_cons.1 h with e|e
  ·omega
  ·have:=vK h0 h1 e<;>omega
theorem vJ {b:Nat}:∀ {l},(∀x∈l,0<=x/\x<(b:Int))->RX l<=b*l.length
 |[],_=>Qaw _
 |a::l,h=>by have h1:=h a (Qbr ..);have d:=vJ λx c=>h x (Qak _ c);simp only[RX,Qay,Nat.mul_add,Qch];omega
def InL (n:Int) (l:List Int):Prop:=Aa l=n/\∀x∈l,0<=x/\x<n
theorem mW {n l} (h:DH n) (hl:Aa l=Aa n.2.2.1):∃g,Kv (n,l)=some g/\InL (Aa n.2.1) g:=by
 have u1:=h.u1;have u2:=h.u2;have w2:=h.w2;unfold Kv;rw[Zzp (C6 (by grind) (by grind))];simp only;refine Ap (λz:Int×List Int=>z.1) (Aa n.2.1) (λz=>Aa z.2=Aa n.2.1/\∀j,0<=j->j<z.1->idx z.2 j=some j) (λr=>∃g,r=some g/\InL (Aa n.2.1) g) (by omega) (by simp) (by omega) ⟨AM (by omega) _,λj h0 h1=>by omega⟩ (λz d I i1=>?_) λz d Y=>?_
 ·obtain⟨i,g⟩:=z;simp only at d I i1;obtain⟨x,E,_⟩:=Ai (l:=g) I (by omega);try simp only
  rw[Zzp (by rw[AM (by omega)]<;>simp_all),Zzq E,Zzq E,Aj (i+1) (by omega) (by omega)];refine ⟨rfl,by simp only;rw[AN];omega,λj h0 h1=>?_⟩;simp only at h1 ⊢;rw[By I (by omega)]<;>grind
 obtain⟨i,g0⟩:=z;simp only at d Y;obtain⟨hg,hG⟩:=d;have J:InL (Aa n.2.1) g0:=⟨hg,λx E=>by obtain⟨j,hj⟩:=BZ E;obtain⟨X,Z,_⟩:=Ag hj<;>simp_all⟩;try simp only
 rw[Zzn (by rw[AM (by omega)]<;>simp_all)];show ∃g,iter none _ Am g0=some g/\_;refine Db (λg=>InL (Aa n.2.1) g) RX (λr=>∃g,r=some g/\InL (Aa n.2.1) g) (λg hg=>?_) Am g0 J (by have h1:=vJ (b:=7) (λx E=>by have:=J.2 x E;omega);have h2:=J.1;unfold Aa at h2 u2;rw[Eh];omega);obtain⟨a1,o⟩:=hg;refine Ap (λz:Int×List Int=>z.1) (Aa n.2.2.1) (λz=>z.2=g) (Round _ _ _ _) (by omega) (by simp) (Ak _) rfl (λz d I i1=>?_) λz d Y=>?_
 ·obtain⟨i,p⟩:=z;simp only at d I i1;subst d;obtain⟨w,hw,_⟩:=Ai I i1;have W:=h.wed i w hw;have wa:=W.a;have a8:=W.ab;have wb:=W.b;obtain⟨a,ha,a6⟩:=Ai (l:=p) wa (by omega);obtain⟨b,hb,a7⟩:=Ai (l:=p) (i:=w.2.1) (by omega) (by omega);obtain⟨t,ht,_⟩:=Ai (l:=l) I (by omega);have ra:=o a a6;have rb:=o b a7;try simp only
  rw[Zzp (decide_eq_true i1),Zzq hw,Zzq ha,Zzq ha,Zzq hb,Zzq hb,Zzq ht];by_cases c:(t.1&&!a==b)=true
  ·rw[Zzp c,ED,Ds];have aa:a≠b:=by simp only[Qab,Qal,beq_eq_false_iff_ne] at c;exact c.2
   refine Ap (λz:Int×List Int=>z.1) (Aa p) (λz=>Aa z.2=Aa p/\∀j,0<=j->idx z.2 j=if j<z.1 then (idx p j).map (ren (max a b) (min a b)) else idx p j) (Cq _ _ _ _) (by omega) (by simp) (Ak _) ⟨rfl,λj h0=>by rw[if_neg (by simp only;omega)]⟩ (λz hJ X Z=>?_) λz hJ Y=>?_
   ·obtain⟨k,q⟩:=z;simp only at hJ X Z;obtain⟨hq,hQ⟩:=hJ;obtain⟨y,hy,_⟩:=Ai X Z;have v:idx q k=some y:=by rw[hQ k X,if_neg (by omega)];exact hy
    try simp only
    rw[Zzp (decide_eq_true Z),Zzq v,Zzq v,Aj (k+1) (by omega) (by omega)];by_cases e:y=max a b
    ·rw[Zzp (by simpa using e),Zzq v,Zzq v];refine ⟨rfl,by simp only;rw[AN];exact hq,λj h0=>?_⟩;simp only;rw[By X (by omega),hQ j h0];by_cases e2:j=k
     ·subst e2;rw[if_pos rfl,if_pos (by omega),hy,Qai,ren,if_pos e]
     ·rw[if_neg e2];by_cases e3:j<k
      ·rw[if_pos e3,if_pos (by omega)]
      ·rw[if_neg e3,if_neg (by omega)]
    ·rw[Zzn (by simpa using e)];refine ⟨rfl,hq,λj h0=>?_⟩;simp only;rw[hQ j h0];by_cases e2:j=k
     ·subst e2;rw[if_neg (by omega),if_pos (by omega),hy,Qai,ren,if_neg e]
     ·by_cases e3:j<k
      ·rw[if_pos e3,if_pos (by omega)]
      ·rw[if_neg e3,if_neg (by omega)]
   ·obtain⟨k,q⟩:=z;simp only at hJ Y;obtain⟨hq,hQ⟩:=hJ;try simp only
    rw[Zzn (decide_eq_false (by omega))];have he:q=p.map (ren (max a b) (min a b)):=Eg (by rw[hq,HN]) (λj X Z=>by rw[hQ j X,if_pos (by omega),PD]);subst he;refine ⟨⟨by rw[HN];exact a1,λx E=>?_⟩,vK (by omega) (by omega) ?_⟩
    ·obtain⟨y,hy,rfl⟩:=List.mem_map.1 E;have:=o y hy;unfold ren;split<;>omega
    ·by_cases c2:a<=b
     ·rw[Qei c2];exact a7
     ·rw[Qeq (by omega)];exact a6
  ·rw[Zzn (Bool.eq_false_iff.2 c),Aj (i+1) (by omega) (by omega)];exact ⟨rfl,rfl⟩
 ·obtain⟨i,p⟩:=z;simp only at d Y;subst d;try simp only
  rw[Zzn (decide_eq_false (by omega))];exact ⟨p,rfl,a1,o⟩
def Wp (n:AU) (l:List Fg):Prop:=Aa l=Aa n.2.2.1/\∀b∈l,PM b
def j3 (n:AU) (l:List Int):Prop:=Aa l=Aa n.2.1/\∀x∈l,x∈DW n
theorem IV {α:Type} {l:List α} {i} {v x:α} (h:x∈AB l i v):x∈l\/x=v:=Qes h
theorem mB {n l cs} (h:DH n) (hl:Aa l=Aa n.2.2.1) (hc:Aa cs=Aa n.2.1):∃o,Kt (n,(l,cs))=some o/\Aa o=Aa n.2.1/\∀x∈o,x∈cs:=by
 have u1:=h.u1;have u2:=h.u2;obtain⟨g,g1,g2,g3⟩:=mW h hl;have v:Ek cs=some cs:=UZ (by omega);unfold Kt;rw[Zzq g1,Zzq v];simp only;refine Ap (λz:Int×List Int=>z.1) (Aa cs) (λz=>Aa z.2=Aa cs/\∀x∈z.2,x∈cs) (λr=>∃o,r=some o/\Aa o=Aa n.2.1/\∀x∈o,x∈cs) (by omega) (by simp) (Ak _) ⟨rfl,λx d=>d⟩ (λz p E i1=>?_) λz p I=>?_
 ·obtain⟨i,o⟩:=z;simp only at p E i1;try simp only
  rw[Zzp (decide_eq_true i1)];refine Ap (λz:Int×List Int=>z.1) (Aa cs) (λz=>Aa z.2=Aa cs/\∀x∈z.2,x∈cs) (Cq _ _ _ _) (by omega) (by simp) (Ak _) p (λz hJ J X=>?_) λz hJ I=>?_
  ·obtain⟨j,q⟩:=z;simp only at hJ J X;obtain⟨hq,Y⟩:=hJ;obtain⟨c,Z,a1⟩:=Ai J X;obtain⟨gi,a6,_⟩:=Ai (l:=g) E (by omega);obtain⟨gj,a7,_⟩:=Ai (l:=g) J (by omega);obtain⟨y,t,a8⟩:=Ai (l:=q) E (by omega);try simp only
   rw[Zzp (decide_eq_true X),Zzq Z,Zzq a6,Zzq a7,Aj (j+1) (by omega) (by omega)];by_cases e:(gi==gj)=true
   ·rw[Zzp e,Zzq t,Zzq t,Zzq t,Zzq t,ED];refine ⟨rfl,by simp only;rw[AN];exact hq,λx d=>?_⟩;rcases IV d with d|rfl
    ·exact Y x d
    ·by_cases c2:y<=c
     ·rw[Qei c2];exact a1
     ·rw[Qeq (by omega)];exact Y y a8
   ·rw[Zzn (Bool.eq_false_iff.2 e)];exact ⟨rfl,hq,Y⟩
  ·obtain⟨j,q⟩:=z;simp only at hJ I;try simp only
   rw[Zzn (decide_eq_false (by omega)),Aj (i+1) (by omega) (by omega)];exact ⟨rfl,hJ⟩
 ·obtain⟨i,o⟩:=z;simp only at p I;try simp only
  rw[Zzn (decide_eq_false (by omega))];exact ⟨o,rfl,by omega,p.2⟩
theorem lM {n l} (h:DH n) (c:Wp n l):Ks (n,l)=some 0:=by have g:=h.w2;have h1:=c.1;unfold Ks;rw[Zzq h.chk,Af (b:=!(0:Int)==0) _ _ rfl,Zzn (by simp[h1])];refine Bn (l:=l) (λr:Option Int=>r=some 0) (λ_ _=>True) (some 0) (some 0) (by unfold Aa at h1 g;unfold maxLen;omega) (λi b o i1 d=>.inl ⟨trivial,?_⟩) λi hi=>by rw[Zzn (decide_eq_false hi)] (λ_=>rfl) λ_=>rfl;have:=c.2 b (Ag d).2.2;rw[Zzp (decide_eq_true i1),Zzq d,Au,Zzn (by unfold Kr Md;rw[Au];have h1:=this.1;have p:=this.2;simp;omega)]
theorem mG {n l} (h:DH n) (d:j3 n l):Ku (n,l)=some 0:=by have o:=h.u2;have h1:=d.1;unfold Ku;rw[Zzq (P9 h),Zzn (by simp[h1])];refine Bn (l:=l) (λr:Option Int=>r=some 0) (λ_ _=>True) (some 0) (some 0) (by unfold Aa at h1 o;unfold maxLen;omega) (λi c y i1 g=>.inl ⟨trivial,?_⟩) λi hi=>by rw[Zzn (decide_eq_false hi)] (λ_=>rfl) λ_=>rfl;obtain⟨b,p,v⟩:=Tl (P5 h.t);have e:=v.2 (d.2 c (Ag g).2.2);subst e;rw[Zzp (decide_eq_true i1),Zzq g,Zzq p,Zzn (b:=!true) rfl]
theorem Acg {n l cs} (h:DH n) (c:Wp n l) (d:j3 n cs):∃o,Nc (n,(l,cs))=some (o,0)/\Aa o=Aa n.2.1/\∀x∈o,x∈cs:=by obtain⟨o,g,p⟩:=mB h c.1 d.1;unfold Nc;rw[Zzq (lM h c),Af (b:=!(0:Int)==0) _ _ rfl,Zzq (mG h d),Af (b:=!(0:Int)==0) _ _ rfl,Zzq g]<;>simp_all
theorem XF {m n k}:Fp (Qz m k true) n<=Fp m n:=by unfold Fp;rw[<-Qfx,<-Qfx];refine List.countP_mono_left λx _ c=>?_;rw[Ss] at c<;>simp_all
theorem zY {m} {n:Nat} {a b:Int} (a0:0<=a) (g:a<b) (h:b<n) (o:LO m a≠LO m b):Fp (Qz (Qz m a true) b true) n<Fp m n:=by
 by_cases c:LO m a=false
 ·exact Qda XF (T6 a0 (by omega) c)
 ·have d:LO m b=false:=by simp_all
  exact Qac (T6 (by omega) h (by rw[Ss,if_neg (by omega)];exact d)) XF
def uF (n:AU) (v:List Df):Prop:=Aa v=Aa n.2.2.1/\∀i w x,idx n.2.2.1 i=some w->idx v i=some x->jH w x
theorem uP {a b c} (g:1<=c/\c<=1048576) (h:0<=a/\a<=1048576) (d:0<=b/\b<=1048576):(0<=BB (wr .i64 (a+b)) c/\BB (wr .i64 (a+b)) c<=1048576)/\0<=BB (wr .i64 (wr .i64 (a-BB b c)+c)) c/\BB (wr .i64 (wr .i64 (a-BB b c)+c)) c<=1048576:=by have h1:0<=BB b c:=Qcr _ d.1;have o:BB b c<c:=Qby _ (by omega);rw[Aj (a+b) (by omega) (by omega),Aj (a-BB b c) (by omega) (by omega),Aj (a-BB b c+c) (by omega) (by omega)];have p:0<=BB (a+b) c:=Qcr _ (by omega);have h4:BB (a+b) c<c:=Qby _ (by omega);have t:0<=BB (a-BB b c+c) c:=Qcr _ (by omega);have h6:BB (a-BB b c+c) c<c:=Qby _ (by omega);omega
def SM (n:AU) (o:List Int):Prop:=Aa o=Aa n.2.1/\∀x∈o,0<=x/\x<=1048576
theorem uO {n o i v} (h:SM n o) (d:0<=v/\v<=1048576):SM n (AB o i v):=⟨by rw[AN];exact h.1,λx c=>(IV c).elim (h.2 x) λe=>by omega⟩
theorem Aaa {n l v cs} (h:DH n) (hl:Wp n l) (hv:uF n v) (hc:j3 n cs):∃o,LH (n,(l,(v,cs)))=some (o,0)/\SM n o:=by
 have u1:=h.u1;have u2:=h.u2;have w2:=h.w2;have a7:=hv.1;obtain⟨all,a1,a2,a3⟩:=mB h hl.1 hc.1;obtain⟨g,g1,g2,g3⟩:=mW h hl.1;unfold LH;rw[Zzq (lM h hl),Af (b:=!(0:Int)==0) _ _ rfl,Zzn (by simp[a7])];simp only;refine Ap (λi:Int=>i) (Aa v) (λ_=>True) (λr=>∃o,r=some (o,0)/\SM n o) (by omega) (by omega) (Ak _) trivial (λi _ Z i1=>?_) λi _ hz=>?_
 ·obtain⟨x,d,_⟩:=Ai Z i1;obtain⟨w,X,_⟩:=Ai (l:=n.2.2.1) Z (by omega);have ho:=(hv.2 i w x X d).1;try simp only
  rw[Zzp (decide_eq_true i1),Zzq d,Zzn (decide_eq_false (by omega)),Zzq X,Zzn (decide_eq_false (by omega)),Aj (i+1) (by omega) (by omega)];exact ⟨rfl,trivial⟩
 try simp only
 rw[Zzn (decide_eq_false (by omega)),Zzq (mG h hc),Af (b:=!(0:Int)==0) _ _ rfl,Zzq a1,Zzp (C6 (by omega) (by omega)),Zzq g1];show ∃o,iter none _ Am ((0:Int),(Ay (Aa n.2.1) (0:Int),([]:PO)))=some (o,0)/\_;refine Ap (λz:Int×List Int×PO=>z.1) (Aa g) (λz=>SM n z.2.1) (λr=>∃o,r=some (o,0)/\SM n o) (by omega) (by simp) (Ak _) ⟨AM (by omega) _,λx d=>by rw[(List.mem_replicate.1 d).2];omega⟩ (λz E Z i1=>?_) λz E hz=>?_
 ·obtain⟨i,o,m⟩:=z;simp only at E Z i1;obtain⟨x,d,_⟩:=Ai Z i1;try simp only
  rw[Zzp (decide_eq_true i1),Zzq d,Aj (i+1) (by omega) (by omega)];exact ⟨rfl,E⟩
 obtain⟨i,o,m⟩:=z;simp only at E hz;try simp only
 rw[Zzn (decide_eq_false (by omega))];show ∃o',iter none _ Am (true,(o,m))=some (o',0)/\_;refine Db (λz:Bool×List Int×PO=>SM n z.2.1) (λz=>if z.1=true then Fp z.2.2 (Aa n.2.1).toNat+1 else 0) (λr=>∃o,r=some (o,0)/\SM n o) (λz E=>?_) Am (true,(o,m)) E (by have:=gA m (Aa n.2.1).toNat;rw[Eh,if_pos rfl]<;>grind);obtain⟨more,o,m⟩:=z;simp only at E;cases more with
 |false =>
  try simp only
  rw[Zzn rfl];exact ⟨o,rfl,E⟩
 |true =>
  try simp only
  rw[Zzp rfl];refine Ap (λz:Int×Bool×List Int×PO=>z.1) (Aa n.2.2.1) (λz=>SM n z.2.2.1/\Fp z.2.2.2 (Aa n.2.1).toNat<=Fp m (Aa n.2.1).toNat/\(z.2.1=true->Fp z.2.2.2 (Aa n.2.1).toNat<Fp m (Aa n.2.1).toNat)) (Round _ _ _ _) (by omega) (by simp) (Ak _) ⟨E,Qaa _,nofun⟩ (λz hJ j0 j1=>?_) λz hJ hz=>?_
  ·obtain⟨j,mo,o',m'⟩:=z;simp only at hJ j0 j1;obtain⟨I,Y,hM⟩:=hJ;obtain⟨w,X,_⟩:=Ai j0 j1;obtain⟨b,hb,_⟩:=Ai (l:=l) j0 (by have:=hl.1;omega);have W:=h.wed j w X;have wa:=W.a;have a8:=W.ab;have wb:=W.b;try simp only
   rw[Zzp (decide_eq_true j1),Zzq X,Zzq hb,Aj (j+1) (by omega) (by omega)];by_cases c:(!b.1||LO m' w.1==LO m' w.2.1)=true
   ·rw[Zzp c];exact ⟨rfl,I,Y,hM⟩
   rw[Zzn (Bool.eq_false_iff.2 c)];have J:=zY (n:=(Aa n.2.1).toNat) wa a8 (by omega) λe=>c (by rw[e];simp);obtain⟨x,d,_⟩:=Ai (l:=v) j0 (by omega);have hO:=(hv.2 j w x X d).1;obtain⟨y,hy,aa⟩:=Ai hO.1 hO.2;have ag:=W.os y aa;obtain⟨q,hq,ad⟩:=Ai (l:=all) wa (by omega);have a6:=P7 h (hc.2 q (a3 q ad));have ah:=h.t.l2;have ai:=h.t.h;obtain⟨p,hp,ae⟩:=Ai (l:=o') wa (by have:=I.1;omega);obtain⟨r,hr,af⟩:=Ai (l:=o') (i:=w.2.1) (by omega) (by have:=I.1;omega);have b1:=uP (b:=y) a6 (I.2 p ae) (by omega);have b2:=uP (a:=r) (b:=y) a6 (I.2 r af) (by omega);rw[Zzq d,Zzq hy,Zzq hq];by_cases c2:LO m' w.1=true
   ·rw[Zzp c2,Zzq hp,Zzq hp,Zzp (by simp;omega),Zzq hr,Zzq hr];exact ⟨rfl,uO I b1.1,Nat.le_of_lt (Qac J Y),λ_=>Qac J Y⟩
   ·rw[Zzn (Bool.eq_false_iff.2 c2),Zzq hr,Zzq hr,Zzp (by simp;omega),Zzp (by simp;omega),Zzq hp,Zzq hp];exact ⟨rfl,uO I b2.2,Nat.le_of_lt (Qac J Y),λ_=>Qac J Y⟩
  ·obtain⟨j,mo,o',m'⟩:=z;simp only at hJ hz;obtain⟨I,Y,hM⟩:=hJ;try simp only
   rw[Zzn (decide_eq_false (by omega))];refine ⟨I,?_⟩;simp only[if_true];split
   ·rename_i e;have:=hM e;omega
   ·omega
end Go.Proofs.YtlgpjdjcbincgaaGreatDoor
namespace Go.Proofs.YtlgpjdjcbincgaaGreatDoor
open Go.Den
abbrev Z8 (s:Al):List AJ:=s.2.2.2.2.2.2.2.2.2.2.2
theorem Abf s:Cf s=max 1 (Aa (Z8 s)):=by unfold Cf;rw[ED]
theorem dK {s i c} (h:St s) (hc:0<=c/\c<=1048576) (hi:0<=i/\i<Cf s):∃p:AJ,p.1=c/\Hc (s,(i,c))=some (Pn.CO s p):=by
 rw[Abf] at hi;have d:∀p:AJ,SQ p->-9223372036854775808<=p.2.1/\p.2.1<=9223372036854775807->EY (s,p)=some (Pn.CO s p,0):=λp h1 Z=>by rw[Pn.uS h.f (λ_=>h.ok) h.chk h1 Z,if_neg (by simp)]
 unfold Hc;by_cases c0:0<Aa (Z8 s)
 ·rw[Zzp (decide_eq_true c0)];obtain⟨old,I,_⟩:=Ai (l:=Z8 s) hi.1 (by omega);have W:=KN h (h.ok.planned i old I);have a1:=W.c;have a6:=W.o;have hn:=W.n;rw[Zzq I];simp only;refine Ap (λz:Int×(Int×Int×Unit)×List Int×Unit=>z.1) (Aa old.2.2) (λz=>z.2.1=(c,(old.2.1,()))/\Aa z.2.2.1=z.1/\∀x∈z.2.2.1,-9223372036854775808<=x/\x<=9223372036854775807) (λr=>∃p:AJ,p.1=c/\r=some (Pn.CO s p)) (by omega) (by simp) (Ak _) ⟨rfl,rfl,λx g=>by cases g⟩ (λz t J i1=>?_) λz t X=>?_
  ·obtain⟨j,co,q,u⟩:=z;simp only at t J i1;obtain⟨rfl,Y,E⟩:=t;obtain⟨x,g,_⟩:=Ai J i1;try simp only
   rw[Zzp (decide_eq_true i1),Zzq g,Zzp (by simp;omega),Zzp (AV (by omega)),Aj (j+1) (by omega) (by omega)];refine ⟨rfl,rfl,by simp only;rw[BK];omega,λy v=>?_⟩;rcases List.mem_append.1 v with v|v
   ·exact E y v
   ·rw[List.mem_singleton.1 v];exact Acj _
  ·obtain⟨j,co,q,u⟩:=z;simp only at t X;obtain⟨rfl,Y,E⟩:=t;try simp only
   rw[Zzn (decide_eq_false (by omega)),Zzq (d (c,(old.2.1,q)) ⟨by simp only;omega,by simp only;unfold Aa at Y hn X;unfold maxLen;omega,E⟩ (by simp only;omega))];exact ⟨(c,(old.2.1,q)),rfl,rfl⟩
 ·rw[Zzn (decide_eq_false c0),Zzq (d (c,(0,[])) ⟨by simp only;omega,by simp[maxLen],λx g=>by cases g⟩ (by simp))];exact ⟨(c,(0,[])),rfl,rfl⟩
theorem eE s p:Aa (Pn.CO s p).2.2=BO s:=by show Aa (Pn.KJ _ (Pn.nV s)) = _;rw[Pn.OH];rfl
theorem AaE {s p i} (h:St s) (c:0<=i) (i1:i<BO s):1<=el (Pn.CO s p).2.2 i:=by have h1:=(Pn.Kb h.f h.ok c i1).1;have d:= i1;rw[Pn.XV c d];have:=Pn.Yu (p:=p) h.f h.ok c d;omega
theorem qO {s l} (h:St s) p q:∃w,Jf (Pn.CO s p,(Pn.CO s q,l))=some w:=by
 have J:=eE s p;have X:=eE s q;have t:=h.ph;unfold Jf;refine Ap (λz:Int×Int=>z.2) (BO s) (λ_=>True) (λr=>∃w,r=some w) (by omega) (by simp) (by omega) trivial (λz g d i1=>?_) λz g y=>?_
 ·obtain⟨m,i⟩:=z;simp only at g d i1;have o:=AaE h (p:=q) d i1;try simp only
  rw[Zzp (decide_eq_true (by omega)),Zzq (A7 (l:=(Pn.CO s q).2.2) d (by omega)),Aj (i+1) (by omega) (by omega)];by_cases c:i<Aa l
  ·obtain⟨v,E,I⟩:=Ai d c;rw[Zzp (decide_eq_true c),Zzq E,Zzq (A7 (l:=(Pn.CO s p).2.2) d (by omega)),Zzp (by simp;omega)];exact ⟨rfl,trivial⟩
  ·rw[Zzn (decide_eq_false c)];exact ⟨rfl,trivial⟩
 ·obtain⟨m,i⟩:=z;simp only at g y;try simp only
  rw[Zzn (decide_eq_false (by omega))];exact ⟨m,rfl⟩
theorem Ac7 {l} (h:Hh l):KR l=some 0:=by have h1:=h.1;unfold KR;rw[Zzn (decide_eq_false (by omega))];refine Bn (l:=l) (λr:Option Int=>r=some 0) (λ_ _=>True) (some 0) (some 0) (by unfold Aa at h1;unfold maxLen;omega) (λi b d i1 c=>.inl ⟨trivial,?_⟩) λi hi=>by rw[Zzn (decide_eq_false hi)] (λ_=>rfl) λ_=>rfl;have:=h.2 b (Ag c).2.2;rw[Zzp (decide_eq_true i1),Zzq c,Au,Zzn (by unfold It;simp;omega)]
def R8 (s:Al) (v:Df):Prop:=(0<=v.1/\v.1<Cf s)/\jJ v
theorem aG {s} (h:St s):1<=Cf s/\Cf s<=8:=by have:Aa (Z8 s)<=8:=h.ok.shape.q;rw[Abf];omega
theorem AfC {s v c l} (h:St s) (Y:R8 s v) (X:0<=c/\c<=1048576) (Z:Hh l):∃w,M7 (s,(v,(c,l)))=some (w,0)/\0<=w/\w<Cf s:=by
 obtain⟨⟨v0,t⟩,s0,s1,s2⟩:=Y;have hm:=aG h;obtain⟨p,_,hp⟩:=dK h X ⟨v0,t⟩;obtain⟨w0,w1⟩:=qO h p p;unfold M7;rw[Zzq h.chk,Af (b:=!(0:Int)==0) _ _ rfl,Zzn (by unfold Gl;simp;omega),Zzq (Ac7 Z),Af (b:=!(0:Int)==0) _ _ rfl,Zzq hp,Zzq w1,Au];simp only;refine Ap (λz:Int×List QL=>z.1) (Cf s) (λz=>Aa z.2=z.1+1/\idx z.2 0=some (v.1,w0)/\∀r∈z.2,0<=r.1/\r.1<Cf s) (λr=>∃w,r=some (w,0)/\0<=w/\w<Cf s) (by omega) (by simp) (by simp only;omega) ⟨rfl,rfl,λr g=>by rw[List.mem_singleton.1 g];exact ⟨v0,t⟩⟩ (λz d o i1=>?_) λz d y=>?_
 ·obtain⟨i,q⟩:=z;simp only at d o i1;obtain⟨hq,h0,E⟩:=d;obtain⟨p2,_,I⟩:=dK h X ⟨o,i1⟩;obtain⟨w2,w3⟩:=qO h p p2;try simp only
  rw[Zzp (decide_eq_true i1),Zzq I,Zzq w3,Zzp (AV (by omega)),Aj (i+1) (by omega) (by omega)];refine ⟨rfl,by simp only;rw[BK];omega,?_,λr g=>?_⟩
  ·simp only;rw[DX (by omega),if_pos (by omega)];exact h0
  ·rcases List.mem_append.1 g with g|g
   ·exact E r g
   ·rw[List.mem_singleton.1 g];exact ⟨o,i1⟩
 obtain⟨i,q⟩:=z;simp only at d y;obtain⟨hq,h0,E⟩:=d;try simp only
 rw[Zzn (decide_eq_false (by omega)),Zzn (decide_eq_false (by omega)),Zzq h0,Zzq h0];refine Ap (λz:Int×QL=>z.1) (Aa q) (λz=>0<=z.2.1/\z.2.1<Cf s) (λr=>∃w,r=some (w,0)/\0<=w/\w<Cf s) (by omega) (by simp) (by simp only;omega) ⟨v0,t⟩ (λz d o i1=>?_) λz d y=>?_
 ·obtain⟨k,b⟩:=z;simp only at d o i1;obtain⟨r,g,J⟩:=Ai o i1;try simp only
  rw[Zzp (decide_eq_true i1),Zzq g,Au,Aj (k+1) (by omega) (by omega)];unfold Kl;by_cases c1:r.2<b.2
  ·rw[Zzp (decide_eq_true c1),Zzp (by decide),Zzq g];exact ⟨rfl,E r J⟩
  ·rw[Zzn (decide_eq_false c1),Zzn (by
    by_cases c2:b.2<r.2
    ·rw[Zzp (decide_eq_true c2)];rfl
    ·rw[Zzn (decide_eq_false c2)];rfl)];exact ⟨rfl,d⟩
 ·obtain⟨k,b⟩:=z;simp only at d y;try simp only
  rw[Zzn (decide_eq_false (by omega))];exact ⟨b.1,rfl,d⟩
theorem Afy {s v c l} (h:St s) (g:R8 s v) (o:0<=c/\c<=1048576) (p:Hh l):∃d,M6 (s,(v,(c,l)))=some (d,0)/\R8 s d:=by have y:=aG h;obtain⟨w,t,w2⟩:=AfC h g o p;obtain⟨d,t1,t2,t3⟩:=dS (w:=w) (need:=3) g.2 (by omega) (by omega);unfold M6;rw[Zzq t,Af (b:=!(0:Int)==0) _ _ rfl,Zzq t1];have h1:=g.1;exact ⟨d,rfl,by rcases t3 with e|e<;>omega,t2⟩
theorem AdK {s i c} (h:St s) (d:0<=c/\c<=1048576) (hi:0<=i/\i<Cf s):∃p:AJ,p.1=c/\LC (s,(i,c))=some (Pn.CO s p,0):=by obtain⟨p,h1,g⟩:=dK h d hi;unfold LC;rw[Zzq h.chk,Af (b:=!(0:Int)==0) _ _ rfl,Zzn (by unfold Gl;simp;omega),Zzq g]<;>grind
end Go.Proofs.YtlgpjdjcbincgaaGreatDoor
namespace Go.Proofs.YtlgpjdjcbincgaaGreatDoor
open Go.Den
theorem mspan_iff {v k}:Em (v,k)=true↔(0<=v.1/\v.1<k)/\(0<=v.2.1/\v.2.1<=1048576)/\0<=v.2.2/\v.2.2<=1048576:=by unfold Em<;>grind
structure BA (n:AU) (m:AZ):Prop where
 c1:Aa m.1=Aa n.2.1
 c:∀v∈m.1,UD n v
 o:uF n m.2.1
 b:Wp n m.2.2.1
 l1:Aa m.2.2.2.1=Aa n.1
 l:∀i s r,idx n.1 i=some s->idx m.2.2.2.1 i=some r->Aa r=BO s/\Hh r
 p1:Aa m.2.2.2.2=Aa n.1
 p:∀i s v,idx n.1 i=some s->idx m.2.2.2.2 i=some v->R8 s v
theorem NJ {α:Type} {l:List α} (h:Aa l<=1000):l.length<=maxLen:=by unfold Aa at h;unfold maxLen;omega
theorem AgD {n} (h:DH n) m:∃b,MI (n,m)=some b/\(b=true↔BA n m):=by
 have u2:=h.u2;have w2:=h.w2;have n2:=h.n2;unfold MI;by_cases c:(!Aa m.1==Aa n.2.1||!Aa m.2.1==Aa n.2.2.1||!Aa m.2.2.1==Aa n.2.2.1||!Aa m.2.2.2.1==Aa n.1||!Aa m.2.2.2.2==Aa n.1)=true
 ·rw[Zzp c];refine ⟨false,rfl,nofun,λd=>?_⟩;rw[d.c1,d.o.1,d.b.1,d.l1,d.p1] at c;simp at c
 rw[Zzn (Bool.eq_false_iff.2 c),Zzq (P9 h)];simp only[Qaj,Qal,beq_eq_false_iff_ne,ne_eq,not_or,Qcq] at c;obtain⟨⟨⟨⟨d1,d2⟩,d3⟩,d4⟩,d5⟩:=c;refine Bn (λr:Option Bool=>∃b,r=some b/\(b=true↔BA n m)) (λ_ v=>UD n v) (some false) _ (NJ (by omega)) (λi v X i1 g=>?_) λi hi=>by rw[Zzn (decide_eq_false hi)] (λh1=>?_) λhn=>⟨false,rfl,nofun,λd=>absurd (λi v g=>d.c v (Ag g).2.2) hn⟩
 ·rw[Zzp (decide_eq_true i1),Zzq g,Au];by_cases c:Em (v,1048577)=true
  ·rw[Zzn (by rw[c];rfl)];obtain⟨b,b1,b2⟩:=Tl (P5 h.t);rw[Zzq b1];cases b with
   |false=>exact .inr ⟨λd=>(by have:=b2.2 d.1;cases this),by rw[Zzp (b:=!false) rfl]⟩
   |true =>refine .inl ⟨⟨b2.1 rfl,?_⟩,by rw[Zzn (b:=!true) rfl]⟩;have:=mspan_iff.1 c;exact ⟨by omega,this.2⟩
  ·rw[Zzp (by simp_all)];exact .inr ⟨λd=>c (mspan_iff.2 ⟨by have:=d.2.1;omega,d.2.2⟩),rfl⟩
 refine Bn (λr:Option Bool=>∃b,r=some b/\(b=true↔BA n m)) (λi w=>(∀x,idx m.2.1 i=some x->jH w x)/\∀b,idx m.2.2.1 i=some b->PM b) (some false) _ (NJ (by omega)) (λi w X i1 Z=>?_) λi hi=>by rw[Zzn (decide_eq_false hi)] (λh2=>?_) λhn=>⟨false,rfl,nofun,λd=>absurd (λi w Z=>⟨λx hx=>d.o.2 i w x Z hx,λb I=>d.b.2 b (Ag I).2.2⟩) hn⟩
 ·obtain⟨x,hx,_⟩:=Ai (l:=m.2.1) X (by omega);obtain⟨b,I,_⟩:=Ai (l:=m.2.2.1) X (by omega);rw[Zzp (decide_eq_true i1),Zzq Z,Zzq hx,Au];by_cases c:Em (x,Aa w.2.2.2)=true
  ·rw[Zzn (by rw[c];rfl),Zzq I];by_cases c2:b.2<0
   ·rw[Zzp (decide_eq_true c2)];exact .inr ⟨λd=>by have:=(d.2 b I).1;omega,rfl⟩
   rw[Zzn (decide_eq_false c2),Zzq I];by_cases c3:1048576<b.2
   ·rw[Zzp (decide_eq_true c3)];exact .inr ⟨λd=>by have:=(d.2 b I).2;omega,rfl⟩
   rw[Zzn (decide_eq_false c3)];refine .inl ⟨⟨λy E=>?_,λy E=>?_⟩,rfl⟩
   ·rw[hx] at E;cases E;exact mspan_iff.1 c
   ·rw[I] at E;cases E;exact ⟨by omega,by omega⟩
  ·rw[Zzp (by rw[Bool.eq_false_iff.2 c];rfl)];exact .inr ⟨λd=>c (mspan_iff.2 (d.1 x hx)),rfl⟩
 refine Bn (λr:Option Bool=>∃b,r=some b/\(b=true↔BA n m)) (λi s=>(∀r,idx m.2.2.2.1 i=some r->Aa r=BO s/\Hh r)/\∀v,idx m.2.2.2.2 i=some v->R8 s v) (some false) _ (NJ (by omega)) (λi s X i1 J=>?_) λi hi=>by rw[Zzn (decide_eq_false hi)] (λh3=>?_) λhn=>⟨false,rfl,nofun,λd=>absurd (λi s J=>⟨λr Y=>d.l i s r J Y,λv g=>d.p i s v J g⟩) hn⟩
 ·obtain⟨r,Y,_⟩:=Ai (l:=m.2.2.2.1) X (by omega);obtain⟨v,g,_⟩:=Ai (l:=m.2.2.2.2) X (by omega);obtain⟨a,x,e,g1,g2,_⟩:=eQ r;rw[Zzp (decide_eq_true i1),Zzq J,Zzq Y,Zzq g1,Zzq Y];by_cases c:(!Aa r==Aa s.2.2.2.2.1||!e==0)=true
  ·rw[Zzp c];refine .inr ⟨λd=>?_,rfl⟩;have:=d.1 r Y;rw[g2.2 this.2,show Aa s.2.2.2.2.1=Aa r from this.1.symm] at c;simp at c
  rw[Zzn (Bool.eq_false_iff.2 c),Zzq g,Au];simp only[Qaj,Qal,beq_eq_false_iff_ne,ne_eq,not_or,Qcq] at c;by_cases c2:Em (v,B8 1 (Aa s.2.2.2.2.2.2.2.2.2.2.2))=true
  ·rw[Zzn (by rw[c2];rfl)];refine .inl ⟨⟨λy E=>?_,λy E=>?_⟩,rfl⟩
   ·rw[Y] at E;cases E;exact ⟨c.1,g2.1 c.2⟩
   ·rw[g] at E;cases E;have:=mspan_iff.1 c2;have hq:=aG (h.st i s J).1;have e:B8 1 (Aa s.2.2.2.2.2.2.2.2.2.2.2)=Cf s:=rfl;exact ⟨this.1,by omega,this.2⟩
  ·rw[Zzp (by rw[Bool.eq_false_iff.2 c2];rfl)];exact .inr ⟨λd=>c2 (mspan_iff.2 ⟨(d.2 v g).1,(d.2 v g).2.2⟩),rfl⟩
 refine ⟨true,rfl,λ_=>⟨d1,λv g=>?_,⟨d2,λi w x Z hx=>(h2 i w Z).1 x hx⟩,⟨d3,λb I=>?_⟩,d4,λi s r J Y=>(h3 i s J).1 r Y,d5,λi s v J g=>(h3 i s J).2 v g⟩,λ_=>rfl⟩
 ·obtain⟨i,hi⟩:=BZ g;exact h1 i v hi
 ·obtain⟨i,hi⟩:=BZ I;obtain⟨X,i1,_⟩:=Ag hi;obtain⟨w,Z,_⟩:=Ai (l:=n.2.2.1) X (by omega);exact (h2 i w Z).2 b hi
theorem n7 {n} (h:DH n) m:∃e,GD (n,m)=some e/\(e=0↔BA n m):=by
 obtain⟨b,c,d⟩:=AgD h m;unfold GD;rw[Zzq h.chk,Af (b:=!(0:Int)==0) _ _ rfl,Zzq c];cases b with
 |false=>exact ⟨8,rfl,nofun,λg=>by simp_all⟩
 |true=>exact ⟨0,rfl,λ_=>d.1 rfl,λ_=>rfl⟩
theorem Acd {n m} (h:DH n) (c:BA n m):DU m=some m:=by
 have u2:=h.u2;have w2:=h.w2;have n2:=h.n2;have c1:=c.c1;have Z:=c.o.1;have b1:=c.b.1;have l1:=c.l1;have p1:=c.p1;have v:BJ m.1=some m.1:=by unfold BJ;rw[Zzp (by rw[Qap];exact room_le (by omega))];rfl
 have y:BJ m.2.1=some m.2.1:=by unfold BJ;rw[Zzp (by rw[Qap];exact room_le (by omega))];rfl
 have e3:Ej m.2.2.1=some m.2.2.1:=by unfold Ej;rw[Zzp (by rw[Qap];exact room_le (by omega))];rfl
 have E:CY m.2.2.2.1=some m.2.2.2.1:=by unfold CY;rw[Zzp (by rw[Qap];exact room_le (by omega))];rfl
 have I:BJ m.2.2.2.2=some m.2.2.2.2:=by unfold BJ;rw[Zzp (by rw[Qap];exact room_le (by omega))];rfl
 unfold DU;rw[Zzq v,Zzq y,Zzq e3,Zzq E,Zzq I];refine Ap (λz:Int×AZ=>z.1) (Aa m.2.2.2.1) (λz=>z.2=m) (λr=>r=some m) (by omega) (by simp) (Ak _) rfl (λz g p i1=>?_) λz g J=>?_
 ·obtain⟨i,X⟩:=z;simp only at g p i1;subst g;obtain⟨r,d,_⟩:=Ai p i1;obtain⟨s,t,_⟩:=Ai (l:=n.1) p (by omega);have hl:=c.l i s r t d;have hp:=(h.st i s t).1.ph;have Y:B7 r=some r:=by unfold B7;rw[Zzp (by rw[Qap];exact room_le (by omega))];rfl
  try simp only
  rw[Zzp (decide_eq_true i1),Zzq d,Zzq d,Zzq Y,Zzq d,Zzq d,Aj (i+1) (by omega) (by omega)];refine ⟨rfl,?_⟩;have:= Eg (AN _ _ _) (λj j0 _=>by
   rw[By p i1];split
   ·rename_i e;subst e;exact d.symm
   ·rfl);simp only;rw[this]
 ·obtain⟨i,X⟩:=z;simp only at g J;subst g;try simp only
  rw[Zzn (decide_eq_false (by omega))];exact rfl
theorem Ahy {n} (h:DH n) i:∃u e,Q5 (n,i)=some (u,e)/\0<=u/\u<Aa n.2.1:=by
 have u1:=h.u1;have u2:=h.u2;unfold Q5;rw[Zzq h.chk,Af (b:=!(0:Int)==0) _ _ rfl];refine Ap (λi:Int=>i) (Aa n.2.1) (λ_=>True) (λr=>∃u e,r=some (u,e)/\0<=u/\u<Aa n.2.1) (by omega) (by omega) (by omega) trivial (λj _ d c=>?_) λj _ t=>?_
 ·obtain⟨u,g,o⟩:=Ai d c;obtain⟨b,p,_⟩:=Tl (h.f.us u o);try simp only
  rw[Zzp (decide_eq_true c),Zzq g,Zzq p];cases b with
  |true=>rw[Zzp rfl,Zzn (decide_eq_false (by omega))];exact ⟨j,0,rfl,d,c⟩
  |false=>rw[Zzn rfl,Aj (j+1) (by omega) (by omega)];exact ⟨rfl,trivial⟩
 ·try simp only
  rw[Zzn (decide_eq_false (by omega))];exact ⟨0,2,rfl,by omega,by omega⟩
def Ei (n:AU) (m:AZ):Prop:=(∀v∈m.1,v.1=Dd n)/\∀r∈m.2.2.2.1,∀x∈r,x=0
structure Ur (s:Al) (c:FG):Prop where
 id:c.1=s.1
 ok:NU c
abbrev Yx:=AU×AZ×List Int×List Int×List FG
theorem Ad4 {n m u} (h:DH n) (d:BA n m) (p:0<=u) (u1:u<Aa n.2.1):∃s r,idx n.2.1 u=some s/\idx m.2.2.2.1 s.2=some r/\Hh r:=by obtain⟨s,g,_⟩:=Ai p u1;have S:=h.sub u s g;have c:=S.1 _ S.2;obtain⟨t,v,_⟩:=Ai c.1 c.2;obtain⟨r,o,_⟩:=Ai c.1 (by rw[d.l1];exact c.2);exact ⟨s,r,g,o,(d.l _ t r v o).2⟩
theorem Agb {n} (h:DH n) m:∃g l e,Lr (n,m)=some (g,(l,e))/\(e≠0/\l=[]\/BA n g/\Aa l=Aa n.1/\(∀i s c,idx n.1 i=some s->idx l i=some c->Ur s c/\(Ei n m->c.2.1=Dd n))/\(Ei n m->Ei n g))/\(BA n m->e=0):=by
 have u1:=h.u1;have u2:=h.u2;have w2:=h.w2;have n1:=h.n1;have n2:=h.n2;obtain⟨e,e1,e2⟩:=n7 h m;unfold Lr;rw[Zzq e1];by_cases c0:e≠0
 ·rw[Zzp (by simpa using c0)]<;>grind
 have c0:=Decidable.not_not.1 c0;have hm:=e2.1 c0;rw[Zzn (by simpa using c0),Zzq (Acd h hm)];have c1:=hm.c1;clear e1 e2 c0;let P:Option (AZ×List FG×Int)->Prop:=λr=>∃g l e,r=some (g,(l,e))/\(e≠0/\l=[]\/BA n g/\Aa l=Aa n.1/\(∀i s c,idx n.1 i=some s->idx l i=some c->Ur s c/\(Ei n m->c.2.1=Dd n))/\(Ei n m->Ei n g))/\(BA n m->e=0);show P (iter none _ Am ((0:Int),(n,(m,(([]:List Int),(([]:List Int),([]:List FG)))))));refine Ap (λz:Int×Yx=>z.1) (Aa m.1) (λz=>∃g,z.2=(n,(g,([],([],[]))))/\BA n g/\(Ei n m->Ei n g)) P (by omega) (by simp) (Ak _) ⟨m,rfl,hm,id⟩ (λz E J i1=>?_) λz E hz=>?_
 ·obtain⟨i,z⟩:=z;simp only at E J i1;obtain⟨g,rfl,d,X⟩:=E;obtain⟨s,r,hs,hr,hf⟩:=Ad4 h d J (by omega);obtain⟨b,x,g1,g2,g3,_⟩:=Vm hf;obtain⟨v,Y,a6⟩:=Ai J (by rw[d.c1];omega);obtain⟨v',t1,t2,t3⟩:=Aey h (d.c v a6) g2;try simp only
  rw[Zzp (decide_eq_true i1),Zzq hs,Zzq hr,Zzq g1,Zzq Y,Zzq Y,Zzq t1,Zzq Y,Zzq Y,Aj (i+1) (by omega) (by omega)];refine ⟨rfl,_,rfl,{d with c1:=by simp only;rw[AN];exact d.c1,c:=λy I=>?_},λa7=>?_⟩
  ·rcases IV I with I|rfl
   ·exact d.c y I
   ·exact t2
  ·have hL:=X a7;refine ⟨λy I=>?_,hL.2⟩;rcases IV I with I|rfl
   ·exact hL.1 y I
   ·exact t3 (g3 (hL.2 r (Ag hr).2.2)) (hL.1 v a6)
 obtain⟨i,z⟩:=z;simp only at E hz;obtain⟨m1,rfl,an,ao⟩:=E;try simp only
 rw[Zzn (decide_eq_false (by omega))];refine Ap (λz:Int×Yx=>z.1) (Aa n.2.2.1) (λz=>∃g,z.2=(n,(g,([],([],[]))))/\BA n g/\(Ei n m->Ei n g)) P (by omega) (by simp) (Ak _) ⟨m1,rfl,an,ao⟩ (λz E J i1=>?_) λz E hz=>?_
 ·obtain⟨i,z⟩:=z;simp only at E J i1;obtain⟨g,rfl,d,X⟩:=E;obtain⟨w,hw,_⟩:=Ai J i1;have W:=h.wed i w hw;have wa:=W.a;have aq:=W.ab;have wb:=W.b;obtain⟨b,hb,af⟩:=Ai J (by rw[d.b.1];omega);obtain⟨x,Z,ar⟩:=Ai wa (by rw[d.c1];omega);obtain⟨y,I,au⟩:=Ai (i:=w.2.1) (by omega) (by rw[d.c1];omega);obtain⟨b',t1,t2⟩:=Aer h J i1 (d.b.2 b af) (d.c x ar).1 (d.c y au).1;try simp only
  rw[Zzp (decide_eq_true i1),Zzq hw,Zzq hb,Zzq hb,Zzq Z,Zzq I,Zzq t1,Zzq hb,Zzq hb,Aj (i+1) (by omega) (by omega)];refine ⟨rfl,_,rfl,{d with b:=⟨by simp only;rw[AN];exact d.b.1,λy I=>?_⟩},X⟩;rcases IV I with I|rfl
  ·exact d.b.2 y I
  ·exact t2
 obtain⟨i,z⟩:=z;simp only at E hz;obtain⟨m2,rfl,av,aw⟩:=E;try simp only
 rw[Zzn (decide_eq_false (by omega))];refine Ap (λz:Int×Yx=>z.1) (Aa n.2.2.1) (λz=>∃g,z.2=(n,(g,([],([],[]))))/\BA n g/\(Ei n m->Ei n g)) P (by omega) (by simp) (Ak _) ⟨m2,rfl,av,aw⟩ (λz E J i1=>?_) λz E hz=>?_
 ·obtain⟨i,z⟩:=z;simp only at E J i1;obtain⟨g,rfl,d,X⟩:=E;obtain⟨w,hw,_⟩:=Ai J i1;have W:=h.wed i w hw;have wa:=W.a;have aq:=W.ab;have ax:=d.o.1;obtain⟨v,Y,a6⟩:=Ai (l:=g.2.1) J (by omega);obtain⟨s,r,hs,hr,hf⟩:=Ad4 h d (by omega) W.b;have aj:Fe ((n.2.1,g.2.2.2.1),w.2.1)=some r:=by unfold Fe;rw[Zzq hs,Zzq hr]
  obtain⟨v',t1,t2⟩:=Ae9 h hw (d.o.2 i w v hw Y) hf;try simp only
  rw[Zzp (decide_eq_true i1),Zzq hw,Zzq Y,Zzq Y,Zzq aj,Zzq t1,Zzq Y,Zzq Y,Aj (i+1) (by omega) (by omega)];refine ⟨rfl,_,rfl,{d with o:=⟨by simp only;rw[AN];exact ax,λj w' y ag I=>?_⟩},X⟩;simp only at I;rw[By J (by omega)] at I;split at I
  ·rename_i e;subst e;rw[hw] at ag;cases ag;cases I;exact t2
  ·exact d.o.2 j w' y ag I
 obtain⟨i,z⟩:=z;simp only at E hz;obtain⟨m3,rfl,a8,ak⟩:=E;try simp only
 rw[Zzn (decide_eq_false (by omega))];have c3:=a8.c1;refine Ap (λz:Int×List Int×Yx=>z.1) (Aa m3.1) (λz=>z.2.2=(n,(m3,([],([],[]))))/\Aa z.2.1=z.1/\(∀x∈z.2.1,x∈DW n)/\(Ei n m->∀x∈z.2.1,x=Dd n)) P (by omega) (by simp) (Ak _) ⟨rfl,rfl,λx Z=>(by cases Z),λ_ x Z=>by cases Z⟩ (λz E J i1=>?_) λz E hz=>?_
 ·obtain⟨i,now,z⟩:=z;simp only at E J i1;obtain⟨rfl,ay,ad,ah⟩:=E;obtain⟨v,Y,a6⟩:=Ai J i1;try simp only
  rw[Zzp (decide_eq_true i1),Zzq Y,Zzp (AV (by omega)),Aj (i+1) (by omega) (by omega)];refine ⟨rfl,rfl,by simp only;rw[BK];omega,λx Z=>?_,λa7 x Z=>?_⟩
  ·rcases List.mem_append.1 Z with Z|Z
   ·exact ad x Z
   ·rw[List.mem_singleton.1 Z];exact (a8.c v a6).1
  ·rcases List.mem_append.1 Z with Z|Z
   ·exact ah a7 x Z
   ·rw[List.mem_singleton.1 Z];exact (ak a7).1 v a6
 obtain⟨i,now,z⟩:=z;simp only at E hz;obtain⟨rfl,ay,ad,ah⟩:=E;obtain⟨cs,q1,q2,q3⟩:=Acg h a8.b ⟨by omega,ad⟩;obtain⟨bg,g1,g2,g3⟩:=Aaa h a8.b a8.o (cs:=now) ⟨by omega,ad⟩;try simp only
 rw[Zzn (decide_eq_false (by omega)),Zzq q1,Zzq g1];refine Ap (λz:Int×Yx=>z.1) (Aa n.1) (λz=>∃g l,z.2=(n,(g,(cs,(bg,l))))/\BA n g/\(Ei n m->Ei n g)/\Aa l=z.1/\∀i s c,idx n.1 i=some s->idx l i=some c->Ur s c/\(Ei n m->c.2.1=Dd n)) P (by omega) (by simp) (Ak _) ⟨m3,[],rfl,a8,ak,rfl,λi s c _ hc=>by have:=(Ag hc).2.2;cases this⟩ (λz E J i1=>?_) λz E hz=>?_
 ·obtain⟨i,z⟩:=z;simp only at E J i1;obtain⟨g,l,rfl,d,X,az,ai⟩:=E;have b0:=d.p1;obtain⟨s,hs,_⟩:=Ai J i1;have hS:=h.st i s hs;obtain⟨u,ue,k1,k2,k3⟩:=Ahy h i;obtain⟨v,Y,_⟩:=Ai (l:=g.2.2.2.2) J (by omega);obtain⟨c,hc,al⟩:=Ai (l:=cs) k2 (by omega);obtain⟨b,hb,af⟩:=Ai (l:=bg) k2 (by omega);obtain⟨r,hr,_⟩:=Ai (l:=g.2.2.2.1) J (by rw[d.l1];omega);have aj:=P7 h (ad c (q3 c al));have b1:=g3 b af;obtain⟨v',t1,t2⟩:=Afy hS.1 (d.p i s v hs Y) (c:=c) (by omega) (d.l i s r hs hr).2;obtain⟨p,p1,p2⟩:=AdK hS.1 (i:=v'.1) (c:=c) (by omega) t2.1;have W:=KN hS.1 (Pn.lU (p:=p) hS.1.f hS.1.ok);have ae:idx (AB g.2.2.2.2 i v') i=some v':=by rw[By J (by omega),if_pos rfl]
  have Wc:=W.c;have Wo:=W.o;try simp only
  rw[Zzp (decide_eq_true i1),Zzq hs,Zzq k1,Zzq Y,Zzq Y,Zzq hc,Zzq hr,Zzq t1,Zzq Y,Zzq Y,Zzq ae,Zzq ae,Zzq hc,Zzq p2,Zzq hb,Zzp (by simp;omega),Zzp (AV (by omega)),Aj (i+1) (by omega) (by omega),Aj ((Pn.CO s p).2.1+b) (by omega) (by omega)];refine ⟨rfl,_,_,rfl,{d with p1:=by simp only;rw[AN];exact b0,p:=λj s' y a1 I=>?_},X,by rw[BK];omega,λj s' c' a1 aa=>?_⟩
  ·simp only at I;rw[By J (by omega)] at I;split at I
   ·rename_i e;subst e;rw[hs] at a1;cases a1;cases I;exact t2
   ·exact d.p j s' y a1 I
  ·obtain⟨j0,j1,_⟩:=Ag aa;rw[DX j0] at aa;split at aa
   ·exact ai j s' c' a1 aa
   ·rw[BK] at j1;obtain rfl:j=i:=by omega
    rw[show j-Aa l=0 by omega] at aa;rw[hs] at a1;cases a1;cases aa;have r2:BB ((Pn.CO s p).2.1+b) (Pn.CO s p).1<(Pn.CO s p).1:=Qby _ (by omega);refine ⟨⟨rfl,⟨hS.1.ok.id,⟨Wc,⟨Qcr _ (by omega),by simp only;omega⟩,W.n,W.m⟩⟩⟩,λa7=>?_⟩;have e:=ah a7 c (q3 c al);show min (max p.1 (Pn.RG s)) (Pn.Lq s)=Dd n;have:=hS.2.1;have:=hS.2.2;have:=h.t.l2;omega
 ·obtain⟨i,z⟩:=z;simp only at E hz;obtain⟨g,l,rfl,d,X,az,ai⟩:=E;try simp only
  rw[Zzn (decide_eq_false (by omega))];exact ⟨g,l,0,rfl,.inr ⟨d,by omega,ai,X⟩,λ_=>rfl⟩
end Go.Proofs.YtlgpjdjcbincgaaGreatDoor
namespace Go.Proofs.YtlgpjdjcbincgaaGreatDoor
open Go.Den
theorem vV {l} (hl:Aa l<=10000):∃r e,F0 l=some (r,e):=by
 unfold F0;obtain⟨I,d1,n1,h1,k1,q1,r1⟩:=K8 (b:=l) (most:=65535) (by omega) (by decide) (by decide);obtain⟨J,d2,n2,X,k2,q2,r2⟩:=K8 (b:=I) (most:=3) (by omega) (by decide) (by decide);obtain⟨b3,d3,Y,Z,k3,q3,r3⟩:=K8 (b:=J) (most:=1073741824) (by omega) (by decide) (by decide);obtain⟨b4,d4,n4,h4,k4,q4,r4⟩:=K8 (b:=b3) (most:=8) (by omega) (by decide) (by decide);rw[Zzq h1];try simp only
 rw[Zzq X];try simp only
 rw[Zzq Z];try simp only
 rw[Zzq h4];try simp only
 refine Ap (λz:Int×Fs×Ot=>z.1) n4 (λz=>Aa z.2.2.1<=10000/\z.2.1.1=n1/\z.2.1.2.1=wr .u8 n2/\z.2.1.2.2.1=Y/\Aa z.2.1.2.2.2=z.1/\∀x∈z.2.1.2.2.2,0<=x/\x<=70368744177664) (λr=>∃c e,r=some (c,e)) (by omega) (by simp) q4 ⟨by grind,rfl,rfl,rfl,rfl,λx d=>by cases d⟩ (λz o i0 i1=>?_) λz o y=>?_
 ·obtain⟨i,⟨a1,a2,a3,a4⟩,E,rd⟩:=z;obtain⟨g1,p,h,t,v,g⟩:=o;simp only at i0 i1 g1 v g;obtain⟨b5,d5,n5,h5,k5,q5,r5⟩:=K8 (b:=E) (most:=70368744177664) (by omega) (by decide) (by decide);try simp only
  rw[Zzp (decide_eq_true i1),Zzq h5];try simp only
  rw[Zzp (AV (by omega)),Aj (i+1) (by omega) (by omega)];refine ⟨rfl,by simp only;omega,p,h,t,by simp only;rw[BK];omega,λx d=>?_⟩;rcases List.mem_append.1 d with d|d
  ·exact g x d
  ·rw[List.mem_singleton.1 d];exact ⟨q5,r5⟩
 ·obtain⟨i,⟨a1,a2,a3,a4⟩,E,rd⟩:=z;obtain⟨g1,p,h,t,v,g⟩:=o;simp only at y g1 p h t v g;subst y;try simp only
  rw[Oo n2 (by omega) (by omega)] at h;rw[Zzn (decide_eq_false (by omega)),Zzq (XJ ⟨by simp only;omega,by simp only;omega,by simp only;omega,by simp only;omega,g⟩),AK];split
  ·exact ⟨_,_,rfl⟩
  ·exact ⟨_,_,rfl⟩
theorem Ae6 {n} (h:DH n) d:∃i e,MJ (n,d)=some (i,e)/\(e=0->0<=i/\i<Aa n.1):=by
 have n1:=h.n1;have n2:=h.n2;unfold MJ;rw[Zzq h.chk,Af (b:=!(0:Int)==0) _ _ rfl];refine Ap (λi:Int=>i) (Aa n.1) (λ_=>True) (λr=>∃i e,r=some (i,e)/\(e=0->0<=i/\i<Aa n.1)) (by omega) (by omega) (by omega) trivial (λj _ o g=>?_) λj _ t=>?_
 ·obtain⟨s,p,_⟩:=Ai o g;try simp only
  rw[Zzp (decide_eq_true g),Zzq p];by_cases c:(s.1==d)=true
  ·rw[Zzp c,Zzn (decide_eq_false (by omega))];exact ⟨j,0,rfl,λ_=>⟨o,g⟩⟩
  ·rw[Zzn (Bool.eq_false_iff.2 c),Aj (j+1) (by omega) (by omega)];exact ⟨rfl,trivial⟩
 ·try simp only
  rw[Zzn (decide_eq_false (by omega))];exact ⟨0,2,rfl,nofun⟩
theorem Xz:G8 (0,(0,16384))=some (0,0):=by decide +kernel
theorem Aa3 {l r} (J:Aa l=Aa r) (X:Aa r<=1000):∃q e,cP l r=some (q,e)/\((∀x∈l,x=0)->(∀x∈r,x=0)->q=r/\e=0):=by
 unfold cP;refine Ap (λz:Int×List Int=>z.1) (Aa l) (λz=>Aa z.2=Aa r/\((∀x∈l,x=0)->(∀x∈r,x=0)->z.2=r)) (λo=>∃q e,o=some (q,e)/\((∀x∈l,x=0)->(∀x∈r,x=0)->q=r/\e=0)) (by omega) (by simp) (Ak _) ⟨rfl,λ_ _=>rfl⟩ (λz d g i1=>?_) λz d h=>?_
 ·obtain⟨i,q⟩:=z;simp only at d g i1;obtain⟨v,h⟩:=d;obtain⟨x,E,p⟩:=Ai g i1;obtain⟨y,t,I⟩:=Ai (l:=q) g (by omega);try simp only
  rw[Zzp (decide_eq_true i1),Zzq E,Zzq t,Aj (i+1) (by omega) (by omega)];have zero:(∀x∈l,x=0)->(∀x∈r,x=0)->x=0/\y=0:=λa b=>⟨a x p,b y (by simp_all)⟩;rw[Zzq (Jb (y,(x,16384)))];by_cases c:(!(CA (y,(x,16384))).2==0)=true
  ·rw[Zzp c];refine ⟨q,_,rfl,λa b=>?_⟩;obtain⟨rfl,rfl⟩:=zero a b;have:=(Jb (0,(0,16384))).symm.trans Xz<;>grind
  ·rw[Zzn (Bool.eq_false_iff.2 c)];refine ⟨rfl,by simp only;rw[AN];exact v,λa b=>?_⟩;obtain⟨rfl,rfl⟩:=zero a b;have:=(Jb (0,(0,16384))).symm.trans Xz;rw[Qag this];simp only;rw[<-h a b];exact Eg (AN _ _ _) λj Y _=>by
    rw[By g (by omega)];split
    ·rename_i e;subst e;exact t.symm
    ·rfl
 ·obtain⟨i,q⟩:=z;simp only at d h;try simp only
  rw[Zzn (decide_eq_false (by omega))];exact ⟨q,0,rfl,λa b=>⟨d.2 a b,rfl⟩⟩
theorem Agy {n r} (h:DH n) m:∃g e,E7 (n,(m,r))=some (g,e)/\(e=0->BA n m->Ei n m->(∀x∈r.2.2.2,x=0)->BA n g/\Ei n g):=by
 obtain⟨e,y,E⟩:=n7 h m;unfold E7;rw[Zzq y];by_cases c0:e≠0
 ·rw[Zzp (by simpa using c0)]<;>simp_all
 have c0:=Decidable.not_not.1 c0;have d:=E.1 c0;obtain⟨i,I,s1,s2⟩:=Ae6 h r.1;rw[Zzn (by simpa using c0),Zzq s1];by_cases c1:I≠0
 ·rw[Zzp (by simpa using c1)]<;>grind
 have c1:=Decidable.not_not.1 c1;obtain⟨o,i1⟩:=s2 c1;have J:=d.l1;obtain⟨row,c,p⟩:=Ai (l:=m.2.2.2.1) o (by omega);obtain⟨s,t,_⟩:=Ai o i1;have hR:=d.l i s row t c;have hp:=(h.st i s t).1.ph;rw[Zzn (by simpa using c1),Zzq c];by_cases c2:!Aa r.2.2.2==Aa row=true
 ·rw[Zzp c2];exact ⟨_,4,rfl,nofun⟩
 rw[Zzn (Bool.eq_false_iff.2 c2),Zzq (Acd h d),Zzq c];obtain⟨q,f,X,Y⟩:=Aa3 (by simpa using c2) (by omega);rw[Zzq X];by_cases c3:f≠0
 ·rw[Zzp (by simpa using c3)];exact ⟨_,f,rfl,λZ=>absurd Z c3⟩
 rw[Zzn (by simpa using c3)];refine ⟨_,0,rfl,λ_ _ v hz=>?_⟩;have hq:=(Y hz λx hx=>v.2 row p x hx).1;subst hq;have:AB m.2.2.2.1 i q=m.2.2.2.1:=Eg (AN _ _ _) (λj j0 _=>by
  rw[By o (by omega)];split
  ·rename_i e;subst e;exact c.symm
  ·rfl);simp only[this];exact ⟨d,v⟩
def RJ (a b:List Int) (w t:Int):List Int×List Int:=(F9 (a,(b,(w,t)))).getD ([],[])
theorem AbC {a b w t} (X:0<=t/\t<=1073741824):F9 (a,(b,(w,t)))=some (RJ a b w t)/\Aa (RJ a b w t).1<=49152/\Aa (RJ a b w t).2<=4096:=by
 have key:∃o h,F9 (a,(b,(w,t)))=some (o,h)/\Aa o<=49152/\Aa h<=4096:=by
  have la:=Ak a;have lb:=Ak b;have d:∃o h e,On (a,(b,(w,t)))=some (o,(h,e))/\Aa o<=49152:=by
   unfold On;by_cases c1:(decide (16384<Aa a)||decide (16384<Aa b))=true
   ·rw[Zzp c1];exact ⟨_,_,_,rfl,by simp[Aa]⟩
   rw[Zzn (Bool.eq_false_iff.2 c1)];simp only[Qaj,decide_eq_true_eq,not_or,Qcb] at c1;obtain⟨c1,c2⟩:=c1;by_cases c3:4<w
   ·rw[Zzp (decide_eq_true c3)];exact ⟨_,_,_,rfl,by simp[Aa]⟩
   rw[Zzn (decide_eq_false c3),Zzn (decide_eq_false (by simp_all)),Zzq (LK (l:=a) (by omega))];simp only;by_cases c4:(w==3)=true
   ·rw[Zzp c4,Zzq (LK (by omega))]<;>grind
   have Y:=Az a b;have y:=Az (a++b) b;have r1:(true&&AA (Aa a+Aa b) 1)=true:=by rw[Qap];exact room_le (by omega)
   rw[Zzn (Bool.eq_false_iff.2 c4)];by_cases E:(w==2)=true
   ·rw[Zzp E,Zzp r1,Zzp (by rw[Qap];exact room_le (by omega))]<;>grind
   rw[Zzn (Bool.eq_false_iff.2 E)];by_cases I:(w==0)=true
   ·rw[Zzp I,Zzp r1]<;>grind
   rw[Zzn (Bool.eq_false_iff.2 I)];by_cases J:(w==4)=true
   ·rw[Zzp J,Zzp r1];by_cases p:0<Aa b
    ·have m0:0<=BB t (Aa b):=Qcr _ X.1;have m1:BB t (Aa b)<Aa b:=Qby _ p;obtain⟨x,g,_⟩:=Ai (l:=a++b) (i:=Aa a+BB t (Aa b)) (by omega) (by omega);rw[Zzp (decide_eq_true p),Zzp (by simp;omega)];rw[Aj (Aa a+BB t (Aa b)) (by omega) (by omega),Zzq g,Zzq g,Zzq g,Zzq g];exact ⟨_,_,_,rfl,by rw[AN];omega⟩
    ·rw[Zzn (decide_eq_false p)];exact ⟨_,_,_,rfl,by omega⟩
   ·rw[Zzn (Bool.eq_false_iff.2 J)];exact ⟨_,_,_,rfl,by omega⟩
  obtain⟨o,v,e,Z,w2⟩:=d;unfold F9;rw[Zzq Z];by_cases c:4096<Aa v
  ·rw[Zzp (decide_eq_true c)];exact ⟨o,[],rfl,w2,by simp[Aa]⟩
  ·rw[Zzn (decide_eq_false c)];exact ⟨o,v,rfl,w2,by omega⟩
 obtain⟨o,v,h1,h2,h3⟩:=key;unfold RJ;rw[h1];exact ⟨rfl,h2,h3⟩
theorem AdD l:∃ms la e,Cv l=some (ms,(la,e))/\(∀m∈ms,FA m)/\-1<=la/\la<=Aa l:=by
 by_cases c:Aa l<=16384
 ·obtain⟨la,h1,g,h,_,_,_,h4⟩:=pM c<;>grind
 ·refine ⟨[],0,3,?_,λm d=>(by cases d),by omega,Ak l⟩;unfold Cv;rw[Zzp (decide_eq_true (by omega))]
end Go.Proofs.YtlgpjdjcbincgaaGreatDoor
namespace Go.Proofs.YtlgpjdjcbincgaaGreatDoor
open Go.Den
abbrev rDn (r:Bm):List (List Int):=r.2.2.1
abbrev rUp (r:Bm):List (List Int):=r.2.2.2.1
abbrev rLk (r:Bm):List DJ:=r.2.2.2.2.1
abbrev rRs (r:Bm):List (List Int):=r.2.2.2.2.2.1
abbrev rSe (r:Bm):List Int:=r.2.2.2.2.2.2.1
abbrev rTk (r:Bm):Int:=r.2.2.2.2.2.2.2
structure NV (n:AU) (r:Bm):Prop where
 l1:Aa r.1=Aa n.1
 l:∀i s x,idx n.1 i=some s->idx r.1 i=some x->E9 s x
 d1:Aa (rDn r)=Aa n.1
 u1:Aa (rUp r)=Aa n.1
 k1:Aa (rLk r)=Aa n.1
 k:∀x∈rLk r,I3 x
 r1:Aa (rRs r)=Aa n.1
 rs:∀x∈rRs r,Aa x<=2048
 s1:Aa (rSe r)=Aa n.1
 s:∀x∈rSe r,As x
 t:0<=rTk r/\rTk r<=1073741824
structure UA (n:AU) (p:EA):Prop where
 i1:Aa p.1=Aa n.1
 d1:Aa p.2.1=Aa n.1
 u1:Aa p.2.2=Aa n.1
 b:∀x∈p.1,Aa x.1<=900000/\x.2.2.1.length<=maxLen
def AdY (s:Al) (x:Be) (ip:Kw) (y:Be) (out:List Int):Prop :=
 ∃w asks lights,(ip.2.2.2.1=true->Acq s x y lights out)/\(ip.2.2.2.1=false->∃told well c,Ran s x ip y w asks lights out told well c)
structure UB (n:AU) (r:Bm) (m:AZ) (dn:List (List Int)) (se:List Int):Prop where
 d1:Aa dn=Aa n.1
 s1:Aa se=Aa n.1
 u:∀x∈se,As x
 each:∀i s p,idx n.1 i=some s->idx (rSe r) i=some p->idx dn i=some []/\idx se i=some p/\¬(BB (rTk r) (Dd n)=0/\BA n r.2.1/\p≠4294967295) \/
  ∃c,Ur s c/\(Ei n r.2.1->c.2.1=Dd n)/\idx dn i=some (Ep (2,(p+1,Bg (Ny c))))/\idx se i=some (p+1)/\p<4294967295/\BB (rTk r) (Dd n)=0
 good:BA n r.2.1->Ei n r.2.1->BA n m/\Ei n m
def AdW (n:AU) (r:Bm) (p:EA) (c:List (List Int)) (L:List Be) (D U up:List (List Int)) (j:Int):Prop :=
 ∀s x d u ip a b q,idx n.1 j=some s->idx r.1 j=some x->idx (rDn r) j=some d->idx (rUp r) j=some u->idx p.1 j=some ip->idx p.2.1 j=some a->idx p.2.2 j=some b->idx c j=some q ->
  ∃y out,idx L j=some y/\E9 s y/\AdY s x ((RJ d q a (rTk r)).1++ip.1,ip.2) y out/\idx D j=some (RJ d q a (rTk r)).2/\idx U j=some (RJ u out b (rTk r)).2/\idx up j=some (RJ u out b (rTk r)).1
def bH (m:CM):Prop:=FA m/\(0<=m.1/\m.1<=255)/\Bytes m.2.2/\∃r,YI r/\(∀x∈r.2.2.2,x=0)/\m.2.2=Bg (KZ r)
def j6 (a b:List Int):Prop:=(a=[]\/a=[126])/\(b=[]\/∃m,bH m/\b=Ep m)
structure wA (n:AU) (r:Bm) (p:EA) (r':Bm) (m:AZ) (dn up:List (List Int)):Prop where
 ok:NV n r'
 told:UB n r m dn (rSe r')
 site:∀j,AdW n r p dn r'.1 (rDn r') (rUp r') up j
 heard:(∀i a b,idx (rRs r) i=some a->idx up i=some b->j6 a b)->(∀x∈rRs r',x=[]\/x=[126])/\(BA n m->Ei n m->BA n r'.2.1/\Ei n r'.2.1)
 tick:rTk r'=min (rTk r+1) 1073741824
def SS (n:AU) (r:Bm) (p:EA) (o:Option (Bm×List (List Int))):Prop:=∃c lights m d up,o=some (c,lights)/\wA n r p c m d up
theorem WE {σ A K body} (G:A->Prop) (Q:σ->Prop) (c:∀k:σ->A,(∀t,Q t->G (k t))->G (body k)) (d:∀t,Q t->G (K t)):G (CT K body):=c K d
theorem Aah {c} (h:NU c):GC c=some (Bg (Ny c),0):=by have d:=h.plan.c;obtain⟨b,e,h1,g⟩:=dX c (by omega)<;>simp_all
theorem Aev {c} (h:NU c):Aa (Bg (Ny c))<=132:=by
 have h1:=(EH (Ny c)).2;have d:Aa (Ny c)=4+Aa c.2.2.2:=by unfold Ny;rw[Az];rfl
 have:=h.plan.n;omega
theorem Aew {c k} (h:NU c) (g:As k):FA (2,(k,Bg (Ny c)))/\Bytes (Bg (Ny c)):=by
 refine ⟨⟨g,by have:=Aev h<;>grind⟩,MP λx d=>?_⟩;have h1:=h.id;have p:=h.plan.c;have t:=h.plan.o;have h4:=h.plan.n;unfold Ny at d;rcases List.mem_append.1 d with d|d
 ·grind
 ·have:=h.plan.m x d;omega
theorem Aft {n r} (h:DH n) (c:NV n r):Lz r=some r:=by
 have n2:=h.n2;have p:=c.l1;have t:=c.d1;have a3:=c.u1;have a4:=c.k1;have v:=c.r1;have y:=c.s1;have d:∀l:List (List Int),Aa l<=12->E5 l=some l:=λl E=>by unfold E5;rw[Zzp (by rw[Qap];exact room_le (by omega))];rfl
 have g:G4 r.1=some r.1:=by unfold G4;rw[Zzp (by rw[Qap];exact room_le (by omega))];rfl
 have o:Ig (rLk r)=some (rLk r):=by unfold Ig;rw[Zzp (by rw[Qap];exact room_le (by omega))];rfl
 have e3:Jn (rSe r)=some (rSe r):=by unfold Jn;rw[Zzp (by rw[Qap];exact room_le (by omega))];rfl
 unfold Lz;rw[Zzq g,Zzq (d (rDn r) (by omega)),Zzq (d (rUp r) (by omega)),Zzq o,Zzq (d (rRs r) (by omega)),Zzq e3]
abbrev O8:=AU×Bm×EA×List (List Int)×List (List Int)×List (List Int)
structure XI (n:AU) (r:Bm) (p:EA) (dn:List (List Int)) (L:List Be) (D U up lights:List (List Int)) (i:Int):Prop where
 l1:Aa L=Aa n.1
 d1:Aa D=Aa n.1
 u1:Aa U=Aa n.1
 p1:Aa up=Aa n.1
 g1:Aa lights=i
 pb:∀x∈up,Aa x<=49152
 old:∀j,i<=j->idx L j=idx r.1 j/\idx D j=idx (rDn r) j/\idx U j=idx (rUp r) j
 new:∀j,j<i->AdW n r p dn L D U up j
theorem AfD {l ms} (c:I3 l) (d:∀m∈ms,FA m):∃l' tk e,Gu (l,ms)=some (l',(tk,e))/\I3 l'/\(∀m∈tk,FA m)/\Aa tk<=1024/\(Aa ms<=1024->∀m∈tk,m∈ms):=by
 by_cases o:Aa ms<=1024
 ·obtain⟨p,t,g,v⟩:=SH ms l.1 l.2.1 c.last c.none d;exact ⟨_,_,_,Pf c d o,nI c d,λm h=>d m (g m h),by omega,λ_=>g⟩
 ·obtain⟨l',tk,e,h1,y,E,h4⟩:=ZM c d<;>grind
theorem AdF:Cv []=some ([],(-1,0)):=by decide +kernel
theorem AdE:Cv (126::[])=some ([],(0,0)):=by decide +kernel
theorem AaY {a b:List Int} (h:j6 a b):∃ms la,Cv (a++b)=some (ms,(la,0))/\(∀m∈ms,bH m)/\Aa ms<=1/\((if 0<=la/\Aa (a++b)-la<=2048 then A5 (a++b) la else [])=[]\/(if 0<=la/\Aa (a++b)-la<=2048 then A5 (a++b) la else [])=[126]):=by
 obtain⟨g,p⟩:=h;rcases p with rfl|⟨m,d,rfl⟩
 ·rcases g with rfl|rfl
  ·exact ⟨[],-1,AdF,nofun,by simp[Aa],.inl rfl⟩
  ·exact ⟨[],0,AdE,nofun,by simp[Aa],.inr rfl⟩
 ·refine ⟨[m],_,AdG d.1 d.2.1 d.2.2.1 g,λq t=>by rw[List.mem_singleton.1 t];exact d,by simp[Aa],.inr ?_⟩;have E:=gE d.1.body;have v:=Ak a;have e:=Az a (Ep m);rw[if_pos ⟨by omega,by omega⟩];have c:=aX (m:=m) a;have o:=Fv c;have y:(a++Ep m).drop (Aa (a++Ep m)-1+1).toNat=[]:=Tb (by omega);rw[y] at o;exact o
theorem J5 {α l m i j} {v:α} (h0:0<=i) (h1:i<Aa l) (c:j≠i) (h:idx l j=idx m j):idx (AB l i v) j=idx m j:=by rw[By h0 h1,if_neg c];exact h
theorem J4 {α l i} {v:α} (h0:0<=i) (h1:i<Aa l):idx (AB l i v) i=some v:=by rw[By h0 h1,if_pos rfl]
theorem nW {α n j} {x y:α} (h:idx (Ay n x) j=some y):y=x:=(List.mem_replicate.1 (Ag h).2.2).2
theorem Abe {α:Type} {l:List α} {i} {a b:α}:AB (AB l i a) i b=AB l i b:=List.set_set _
def Ahd (n:AU) (r:Bm) (p:EA) (t:O8):Prop:=∃m c se,t=(n,((r.1,(m,(rDn r,(rUp r,(rLk r,(rRs r,(se,rTk r))))))),(p,(c,([],[])))))/\UB n r m c se
def Aeb (n:AU) (r:Bm) (p:EA) (t:O8):Prop:=∃m c se L D U up lights,t=(n,((L,(m,(D,(U,(rLk r,(rRs r,(se,rTk r))))))),(p,(c,(up,lights)))))/\UB n r m c se/\XI n r p c L D U up lights (Aa n.1)
structure uE (n:AU) (r:Bm) (up:List (List Int)) (m m2:AZ) (K:List DJ) (S:List (List Int)) (i:Int):Prop where
 k1:Aa K=Aa n.1
 k:∀x∈K,I3 x
 s1:Aa S=Aa n.1
 s:∀x∈S,Aa x<=2048
 old:∀j,i<=j->idx S j=idx (rRs r) j
 good:(∀j a b,j<i->idx (rRs r) j=some a->idx up j=some b->j6 a b)->(∀j x,j<i->idx S j=some x->x=[]\/x=[126])/\(BA n m->Ei n m->BA n m2/\Ei n m2)
def AfY (n:AU) (r:Bm) (p:EA) (t:O8):Prop:=∃m c se L D U up lights d K S,t=(n,((L,(d,(D,(U,(K,(S,(se,rTk r))))))),(p,(c,(up,lights)))))/\UB n r m c se/\XI n r p c L D U up lights (Aa n.1)/\uE n r up m d K S (Aa n.1)
set_option maxHeartbeats 1000000 in
theorem AgS {n:AU} (h:DH n) {r:Bm} (hr:NV n r) {p:EA} (hp:UA n p):SS n r p (MT (n,(r,p))):=by
 have n1:=h.n1;have n2:=h.n2;have ht:=hr.t;have bj:1<=n.2.2.2.1:=h.t.l1;unfold MT;rw[Zzq (Aft h hr)];refine WE (SS n r p) (Ahd n r p) (λk hk=>?_) (λt a1=>?_)
 ·have J:∀m:AZ,(BA n r.2.1->BB (rTk r) (Dd n)≠0)->(BA n r.2.1->m=r.2.1)->UB n r m (Ay (Aa n.1) []) (rSe r):=λm ar au =>⟨AM (by omega) _,hr.s1,hr.s,λi s q Z hq=>.inl ⟨by have:=Ag Z;exact IP this.1 this.2.1 _,hq,λhh=>ar hh.2.1 hh.1⟩,λa b=>by rw[au a];exact ⟨a,b⟩⟩;rw[Zzp (C6 (by simp only;omega) (by simp only;omega)),Zzp (by simp;omega)];by_cases c0:BB (rTk r) (Dd n)=0
  ·rw[Zzn (by simpa using c0)];obtain⟨m',l,e,b1,b2,b3⟩:=Agb h r.2.1;rw[Zzq b1];rcases b2 with ⟨ag,rfl⟩|⟨av,bk,aw,ax⟩
   ·refine Ap (λz:Int×O8=>z.1) 0 (λz=>z.2=(n,((r.1,(m',(rDn r,(rUp r,(rLk r,(rRs r,(rSe r,rTk r))))))),(p,(Ay (Aa n.1) [],([],[])))))) (SS n r p) (by omega) (by simp) (by simp) rfl (λz I o i1=>by omega) (λz I hz=>?_);obtain⟨i,z⟩:=z;simp only at I hz;subst I;try simp only
    rw[Zzn (decide_eq_false (by simp[Aa];omega))];exact hk _ ⟨m',_,rSe r,rfl,J m' (λhm _=>ag (b3 hm)) (λhm=>absurd (b3 hm) ag)⟩
   ·refine Ap (λz:Int×O8=>z.1) (Aa n.1) (λz=>∃Y se,z.2=(n,((r.1,(m',(rDn r,(rUp r,(rLk r,(rRs r,(se,rTk r))))))),(p,(Y,([],[])))))/\Aa Y=Aa n.1/\Aa se=Aa n.1/\(∀x∈se,As x)/\(∀j,0<=j->z.1<=j->j<Aa n.1->idx Y j=some []/\idx se j=idx (rSe r) j)/\∀j s q,j<z.1->idx n.1 j=some s->idx (rSe r) j=some q->(idx Y j=some []/\idx se j=some q/\¬(BB (rTk r) (Dd n)=0/\BA n r.2.1/\q≠4294967295))\/∃c,Ur s c/\(Ei n r.2.1->c.2.1=Dd n)/\idx Y j=some (Ep (2,(q+1,Bg (Ny c))))/\idx se j=some (q+1)/\q<4294967295/\BB (rTk r) (Dd n)=0) (SS n r p) (by omega) (by simp) (Ak _) ⟨Ay (Aa n.1) [],rSe r,rfl,AM (by omega) _,hr.s1,hr.s,λj j0 _ j2=>⟨IP j0 j2 _,rfl⟩,λj s q hj Z=>absurd (Ag Z).1 (by simp only at hj;omega)⟩ (λz I o i1=>?_) (λz I hz=>?_)
    ·obtain⟨i,z⟩:=z;simp only at I o i1;obtain⟨Y,se,rfl,g1,g2,g3,g4,g5⟩:=I;obtain⟨c,hc,_⟩:=Ai (l:=l) o (by omega);obtain⟨s,Z,_⟩:=Ai (l:=n.1) o i1;obtain⟨q,hq,ay⟩:=Ai (l:=se) o (by omega);have ah:idx (rSe r) i=some q:=by rw[<-(g4 i o (by omega) i1).2];exact hq
     have ae:=(g4 i o (by omega) i1).1;have az:=g3 q ay;obtain⟨af,b0⟩:=aw i s c Z hc;try simp only
     rw[Zzp (decide_eq_true (by omega)),Zzq hc,Zzq hq,Zzq hq,Au,Aj (i+1) (by omega) (by omega)];unfold Ht;unfold As at az;by_cases c1:q=4294967295
     ·rw[Zzp (b:=q==4294967295) (by simpa using c1),Ae (b:=!((2:Int)==0)) _ _ rfl];refine ⟨rfl,Y,se,rfl,g1,g2,g3,λj j0 j1 j2=>g4 j j0 (by simp only at j1;omega) j2,λj s' q' hj a8 a6=>?_⟩;by_cases e:j=i
      ·subst e;rw[ah] at a6;cases a6;exact .inl ⟨ae,hq,λhh=>hh.2.2 c1⟩
      ·exact g5 j s' q' (by simp only at hj;omega) a8 a6
     ·have aa:As (q+1):=⟨by omega,by omega⟩;obtain⟨b7,b8⟩:=Aew af.ok aa;have hw:wr .u32 (q+1)=q+1:=by rw[Pu];omega
      rw[Zzn (b:=q==4294967295) (by simpa using c1),Af (b:=!((0:Int)==0)) _ _ rfl,Zzq (Aah af.ok)];simp only;rw[hw,Zzq (uG b7 (show (0:Int)<=2/\(2:Int)<=255 by decide) b8),Zzq ae,Zzq ae,Zzq hq,Zzq hq];refine ⟨rfl,_,_,rfl,by rw[AN];exact g1,by rw[AN];exact g2,λx E=>?_,λj j0 j1 j2=>?_,λj s' q' hj a8 a6=>?_⟩
      ·rcases IV E with E|rfl
       ·exact g3 x E
       ·exact aa
      ·simp only at j1;rw[By o (by omega),By o (by omega),if_neg (by omega),if_neg (by omega)];exact g4 j j0 (by omega) j2
      ·by_cases e:j=i
       ·subst e;rw[ah] at a6;cases a6;rw[Z] at a8;cases a8;exact .inr ⟨c,af,b0,J4 o (by omega),J4 o (by omega),by omega,c0⟩
       ·rw[By o (by omega),By o (by omega),if_neg e,if_neg e];exact g5 j s' q' (by simp only at hj;omega) a8 a6
    ·obtain⟨i,z⟩:=z;simp only at I hz;obtain⟨Y,se,rfl,g1,g2,g3,g4,g5⟩:=I;try simp only
     rw[Zzn (decide_eq_false (by omega))];exact hk _ ⟨m',Y,se,rfl,g1,g2,g3,λj s q Z hq=>g5 j s q (by have:=(Ag Z).2.1;omega) Z hq,λ_ ai=>⟨av,ax ai⟩⟩
  ·rw[Zzp (by simpa using c0)];exact hk _ ⟨r.2.1,_,rSe r,rfl,J r.2.1 (λ_=>c0) (λ_=>rfl)⟩
 obtain⟨m,Y,se,rfl,hT⟩:=a1;refine WE (SS n r p) (Aeb n r p) (λk hk=>?_) (λt a1=>?_)
 ·have bl:=hT.d1;have hi1:=hp.i1;have bm:=hp.d1;have bn:=hp.u1;rw[Zzp (C6 (by simp only;omega) (by simp only;omega))];refine Ap (λz:Int×O8=>z.1) (Aa n.1) (λz=>∃L D U up lights,z.2=(n,((L,(m,(D,(U,(rLk r,(rRs r,(se,rTk r))))))),(p,(Y,(up,lights)))))/\XI n r p Y L D U up lights z.1) (SS n r p) (by omega) (by simp) (Ak _) ⟨r.1,rDn r,rUp r,Ay (Aa n.1) [],[],rfl,hr.l1,hr.d1,hr.u1,AM (by omega) _,rfl,λx E=>by rw[(List.mem_replicate.1 E).2];simp[Aa],λj _=>⟨rfl,rfl,rfl⟩,λj hj s x d u ip a b q Z=>absurd (Ag Z).1 (by simp only at hj;omega)⟩ (λz I o i1=>?_) (λz I hz=>?_)
  ·obtain⟨i,z⟩:=z;simp only at I o i1;obtain⟨L,D,U,up,lights,rfl,hL⟩:=I;have l1:=hL.l1;have d1:=hL.d1;have u1:=hL.u1;have p1:=hL.p1;have g1:=hL.g1;obtain⟨o1,o2,o3⟩:=hL.old i (Qbb _);obtain⟨s,Z,_⟩:=Ai (l:=n.1) o i1;obtain⟨x,E,_⟩:=Ai (l:=L) o (by omega);obtain⟨d,hd,_⟩:=Ai (l:=D) o (by omega);obtain⟨u,hu,_⟩:=Ai (l:=U) o (by omega);obtain⟨v,hv,_⟩:=Ai (l:=up) o (by omega);obtain⟨q,hq,_⟩:=Ai (l:=Y) o (by omega);obtain⟨ip,ab,aj⟩:=Ai (l:=p.1) o (by omega);obtain⟨a,ha,_⟩:=Ai (l:=p.2.1) o (by omega);obtain⟨b,hb,_⟩:=Ai (l:=p.2.2) o (by omega);obtain⟨bo,ba⟩:=hp.b ip aj;obtain⟨v1,v2,v3⟩:=AbC (a:=d) (b:=q) (w:=a) ht;have ak:=hr.l i s x Z (by rw[<-o1];exact E);obtain⟨y,w,asks,li,out,f1,f2,f3,f4⟩:=sM (h.st i s Z).1 (ip:=((RJ d q a (rTk r)).1++ip.1,ip.2)) ak ba;have bb:J9 (s,(((x.1.1,()),x.2),((RJ d q a (rTk r)).1++ip.1,ip.2)))=some (y,(li,(out,0))):=f1;obtain⟨w1,w2,w3⟩:=AbC (a:=u) (b:=out) (w:=b) ht;try simp only
   rw[Zzp (decide_eq_true i1),Zzq Z,Zzq hd,Zzq hd,Zzq hq,Zzq hq,Zzq ha,Zzq v1,Zzq hd,Zzq hd,Zzq ab,Zzq (SO (by omega) (by omega)),Zzq E,Zzq E,Zzq bb,Zzq E,Zzq E,Zzp (AV (by omega)),Zzq hu,Zzq hu,Zzq hb,Zzq w1,Zzq hv,Zzq hv,Zzq hu,Zzq hu,Aj (i+1) (by omega) (by omega)];refine ⟨rfl,_,_,_,_,_,rfl,by rw[AN];exact l1,by rw[AN];exact d1,by rw[AN];exact u1,by rw[AN];exact p1,by rw[BK];omega,λz hz=>?_,λj hj=>?_,λj hj=>?_⟩
   ·rcases IV hz with hz|rfl
    ·exact hL.pb z hz
    ·exact w2
   ·obtain⟨q1,q2,q3⟩:=hL.old j (by omega);exact ⟨J5 o (by omega) (by omega) q1,J5 o (by omega) (by omega) q2,J5 o (by omega) (by omega) q3⟩
   ·by_cases e:j=i
    ·subst e;intro s' x' d' u' al a' b' q' z1 z2 z3 z4 z5 z6 z7 z8;rw[Z] at z1;cases z1;rw[<-o1,E] at z2;cases z2;rw[<-o2,hd] at z3;cases z3;rw[<-o3,hu] at z4;cases z4;rw[ab] at z5;cases z5;rw[ha] at z6;cases z6;rw[hb] at z7;cases z7;rw[hq] at z8;cases z8;exact ⟨y,out,J4 o (by omega),f2,⟨w,asks,li,f3,f4⟩,J4 o (by omega),J4 o (by omega),J4 o (by omega)⟩
    ·intro s' x' d' u' al a' b' q' z1 z2 z3 z4 z5 z6 z7 z8;obtain⟨y',an,y1,y2,y3,y4,y5,y6⟩:=hL.new j (by omega) s' x' d' u' al a' b' q' z1 z2 z3 z4 z5 z6 z7 z8;exact ⟨y',an,(J5 (m:=L) o (by omega) e rfl).trans y1,y2,y3,(J5 (m:=D) o (by omega) e rfl).trans y4,(J5 (m:=U) o (by omega) e rfl).trans y5,(J5 (m:=up) o (by omega) e rfl).trans y6⟩
  ·obtain⟨i,z⟩:=z;simp only at I hz;obtain⟨L,D,U,up,lights,rfl,hL⟩:=I;try simp only
   rw[Zzn (decide_eq_false (by omega))];exact hk _ ⟨m,Y,se,L,D,U,up,lights,rfl,hT,by rw[<-hz];exact hL⟩
 obtain⟨m,Y,se,L,D,U,up,lights,rfl,hT,hL⟩:=a1;refine WE (SS n r p) (AfY n r p) (λk hk=>?_) (λt a1=>?_)
 ·have p1:=hL.p1;refine Ap (λz:Int×O8=>z.1) (Aa n.1) (λz=>∃m2 K S,z.2=(n,((L,(m2,(D,(U,(K,(S,(se,rTk r))))))),(p,(Y,(up,lights)))))/\uE n r up m m2 K S z.1) (SS n r p) (by omega) (by simp) (Ak _) ⟨m,rLk r,rRs r,rfl,hr.k1,hr.k,hr.r1,hr.rs,λ_ _=>rfl,λ_=>⟨λj x hj E=>absurd (Ag E).1 (by simp only at hj;omega),λa b=>⟨a,b⟩⟩⟩ (λz I o i1=>?_) (λz I hz=>?_)
  ·obtain⟨i,z⟩:=z;simp only at I o i1;obtain⟨m2,K,S,rfl,hH⟩:=I;have k1:=hH.k1;have s1:=hH.s1;obtain⟨s,Z,_⟩:=Ai (l:=n.1) o i1;obtain⟨a,ha,bc⟩:=Ai (l:=S) o (by omega);obtain⟨b,hb,bd⟩:=Ai (l:=up) o (by omega);have bp:=hH.s a bc;have bq:=hL.pb b bd;have br:=Ak a;have bs:=Ak b;have bh:=Az a b;obtain⟨ms,la,e,c1,c2,c3,c4⟩:=AdD (a++b);obtain⟨nr,a7⟩:∃nr,nr=(if 0<=la/\Aa (a++b)-la<=2048 then A5 (a++b) la else []):=⟨_,rfl⟩;have bf:Aa nr<=2048:=by
    rw[a7];split
    ·rename_i c;have:=Dt (l:=a++b) c.1 c4;omega
    ·simp[Aa]
   try simp only
   rw[Zzp (decide_eq_true i1),Zzq Z,Zzq ha,Zzq ha,Zzq hb,Zzq hb,Zzq (SO (by omega) (by omega)),Zzq c1,Zzq ha,Zzq ha];refine WE (Cq _ _ _ _) (λt:O8=>t=(n,((L,(m2,(D,(U,(K,(AB S i nr,(se,rTk r))))))),(p,(Y,(up,lights)))))) (λk1 aa=>?_) (λt a1=>?_)
   ·simp only;rw[Aj (Aa (a++b)-la) (by omega) (by omega)];by_cases c:0<=la/\Aa (a++b)-la<=2048
    ·have bt:=Dt (l:=a++b) c.1 c4;have hh:∀v:List Int,idx (AB S i v) i=some v:=λv=>J4 o (by omega);rw[Zzp (by simp[c.1,c.2]),Zzp (by simp;omega),Zzq (U5 (by omega)),Zzq (hh []),Zzq (hh []),Abe];rw[if_pos c] at a7;rw[<-a7];exact aa _ rfl
    ·rw[Zzn (by apply Bool.eq_false_iff.2;intro hh;simp only[Qab,decide_eq_true_eq] at hh;exact c hh)];rw[if_neg c] at a7;rw[<-a7];exact aa _ rfl
   subst a1;obtain⟨lk,ad,ao⟩:=Ai (l:=K) o (by omega);obtain⟨l',tk,e',t1,t2,t3,t4,t5⟩:=AfD (hH.k lk ao) c2;try simp only
   rw[Zzq ad,Zzq ad,Zzq t1,Zzq ad,Zzq ad];refine Ap (λz:Int×O8=>z.1) (Aa tk) (λz=>∃m3,z.2=(n,((L,(m3,(D,(U,(AB K i l',(AB S i nr,(se,rTk r))))))),(p,(Y,(up,lights)))))/\((∀m∈tk,bH m)->BA n m2->Ei n m2->BA n m3/\Ei n m3)) (Cq _ _ _ _) (by omega) (by simp) (Ak _) ⟨m2,rfl,λ_ x y=>⟨x,y⟩⟩ (λz I j0 j1=>?_) (λz I hz=>?_)
   ·obtain⟨j,z⟩:=z;simp only at I j0 j1;obtain⟨m3,rfl,X⟩:=I;obtain⟨g,hg,aq⟩:=Ai (l:=tk) j0 j1;have bu:=(t3 g aq).body;obtain⟨x,ex,x1⟩:=vV (l:=g.2.2) (by omega);try simp only
    rw[Zzp (decide_eq_true j1),Zzq hg,Zzq x1,Aj (j+1) (by omega) (by omega)];by_cases c:((!(g.1==3)||!(ex==0))||!(x.1==s.1))=true
    ·rw[Zzp c];exact ⟨rfl,m3,rfl,X⟩
    ·rw[Zzn (Bool.eq_false_iff.2 c)];obtain⟨m4,e4,y1,y2⟩:=Agy h m3 (r:=x);rw[Zzq y1];by_cases c5:(e4==0)=true
     ·rw[Zzp c5];refine ⟨rfl,m4,rfl,λhz hm hl=>?_⟩;obtain⟨q1,q2⟩:=X hz hm hl;obtain⟨_,_,_,rp,z1,z2,z3⟩:=hz g aq;have E:=vU z1;rw[<-z3,x1] at E;cases E;exact y2 (by simpa using c5) q1 q2 z2
     ·rw[Zzn (Bool.eq_false_iff.2 c5)];exact ⟨rfl,m3,rfl,X⟩
   ·obtain⟨j,z⟩:=z;simp only at I hz;obtain⟨m3,rfl,X⟩:=I;try simp only
    rw[Zzn (decide_eq_false (by omega)),Aj (i+1) (by omega) (by omega)];refine ⟨rfl,m3,_,_,rfl,by rw[AN];exact k1,λx E=>(IV E).elim (hH.k x) (λe=>by rw[e];exact t2),by rw[AN];exact s1,λx E=>(IV E).elim (hH.s x) (λe=>by rw[e];exact bf),λj hj=>J5 o (by omega) (by simp only at hj;omega) (hH.old j (by simp only at hj;omega)),λhG=>?_⟩;obtain⟨r1,r2⟩:=hH.good (λj a b hj=>hG j a b (by simp only;omega));obtain⟨bx,bz,s2,s3,s4,s5⟩:=AaY (hG i a b (by simp only;omega) (by rw[<-hH.old i (Qbb _)];exact ha) hb);rw[c1] at s2;cases s2;refine ⟨λj x hj E=>?_,λhm hl=>?_⟩
    ·by_cases e:j=i
     ·subst e;rw[J4 o (by omega)] at E;cases E;rw[a7];exact s5
     ·rw[By o (by omega),if_neg e] at E;exact r1 j x (by simp only at hj;omega) E
    ·obtain⟨q1,q2⟩:=r2 hm hl;exact X (λm hm=>s3 m (t5 (by omega) m hm)) q1 q2
  ·obtain⟨i,z⟩:=z;simp only at I hz;obtain⟨m2,K,S,rfl,hH⟩:=I;try simp only
   rw[Zzn (decide_eq_false (by omega))];exact hk _ ⟨m,Y,se,L,D,U,up,lights,m2,K,S,rfl,hT,hL,by rw[<-hz];exact hH⟩
 obtain⟨m,Y,se,L,D,U,up,lights,m2,K,S,rfl,hT,hL,hH⟩:=a1;show SS n r p (some _);simp only;rw[Aj (rTk r+1) (by omega) (by omega),Ds];refine ⟨_,_,m,Y,up,rfl,⟨⟨hL.l1,λi s x Z E=>?_,hL.d1,hL.u1,hH.k1,hH.k,hH.s1,hH.s,hT.s1,hT.u,by show 0<=min (rTk r+1) 1073741824/\min (rTk r+1) 1073741824<=1073741824;omega⟩,hT,λj=>?_,λhG=>?_,rfl⟩⟩
 ·obtain⟨o,i1,_⟩:=Ag Z;obtain⟨x0,bg,_⟩:=Ai (l:=r.1) o (by rw[hr.l1];exact i1);obtain⟨d,hd,_⟩:=Ai (l:=rDn r) o (by rw[hr.d1];exact i1);obtain⟨u,hu,_⟩:=Ai (l:=rUp r) o (by rw[hr.u1];exact i1);obtain⟨ip,ab,_⟩:=Ai (l:=p.1) o (by rw[hp.i1];exact i1);obtain⟨a,ha,_⟩:=Ai (l:=p.2.1) o (by rw[hp.d1];exact i1);obtain⟨b,hb,_⟩:=Ai (l:=p.2.2) o (by rw[hp.u1];exact i1);obtain⟨q,hq,_⟩:=Ai (l:=Y) o (by rw[hT.d1];exact i1);obtain⟨y,out,y1,y2,_⟩:=hL.new i i1 s x0 d u ip a b q Z bg hd hu ab ha hb hq;simp only at E;rw[y1] at E;cases E;exact y2
 ·intro s x d u ip a b q z1;exact hL.new j (Ag z1).2.1 s x d u ip a b q z1
 ·obtain⟨g1,g2⟩:=hH.good (λj a b _=>hG j a b);refine ⟨λx E=>?_,g2⟩;obtain⟨j,hj⟩:=BZ E;have h2:j<Aa S:=(Ag hj).2.1;exact g1 j x (by have h1:=hH.s1;omega) hj
end Go.Proofs.YtlgpjdjcbincgaaGreatDoor
namespace Go.Proofs.YtlgpjdjcbincgaaGreatDoor
open Go.Den
structure Pw (n:AU) (l:List Bk) (r:Bm):Prop where
 l1:Aa r.1=Aa n.1
 loc:∀i s d,idx n.1 i=some s->idx l i=some d->A4 d.1/\idx r.1 i=some (EU s (Bc d.1).1.2.1 d.1)
 rest:∃m,BA n m/\Ei n m/\r.2=(m,(Ay (Aa n.1) [],(Ay (Aa n.1) [],(Ay (Aa n.1) (false,(0,0)),(Ay (Aa n.1) [],(Ay (Aa n.1) 0,0))))))
theorem Adb {n} (h:DH n):∃m,KK n=some (m,0)/\BA n m/\Ei n m:=by
 have u2:=h.u2;have w2:=h.w2;have n2:=h.n2;have n1:=h.n1;have u1:=h.u1;have w0:=Ak n.2.2.1;unfold KK;rw[Zzq h.chk,Af (b:=!(0:Int)==0) _ _ rfl,Zzp (C6 (by omega) (by omega)),Zzp (C6 (by omega) (by omega)),Zzp (C6 (by omega) (by omega))];refine Ap (λz:Int×AZ=>z.1) (Aa n.2.1) (λz=>z.2=(Ay z.1 (Dd n,(Dd n,0)),(Ay (Aa n.2.2.1) (0,(0,0)),(Ay (Aa n.2.2.1) (false,0),([],Ay (Aa n.1) (0,(0,0))))))) (λr=>∃m,r=some (m,0)/\BA n m/\Ei n m) (by omega) (by simp) (Ak _) rfl (λz d p i1=>?_) λz d J=>?_
 ·obtain⟨i,m⟩:=z;simp only at d p i1;subst d;have hl:=AM p ((Dd n,(Dd n,0)):Df);try simp only
  rw[Zzp (decide_eq_true i1),Zzp (AV (by omega)),Aj (i+1) (by omega) (by omega)];refine ⟨rfl,?_⟩;simp only;rw[<-eZ p]
 obtain⟨i,m⟩:=z;simp only at d J;subst d;subst J;try simp only
 rw[Zzn (decide_eq_false (by omega))];refine Ap (λz:Int×AZ=>z.1) (Aa n.1) (λz=>∃L,z.2=(Ay (Aa n.2.1) (Dd n,(Dd n,0)),(Ay (Aa n.2.2.1) (0,(0,0)),(Ay (Aa n.2.2.1) (false,0),(L,Ay (Aa n.1) (0,(0,0))))))/\Aa L=z.1/\∀j r s,idx L j=some r->idx n.1 j=some s->r=Ay (BO s) 0) (λr=>∃m,r=some (m,0)/\BA n m/\Ei n m) (by omega) (by simp) (Ak _) ⟨[],rfl,rfl,λj r s c=>by have:=(Ag c).2.2;cases this⟩ (λz d p i1=>?_) λz d J=>?_
 ·obtain⟨i,m⟩:=z;simp only at d p i1;obtain⟨L,rfl,hL,X⟩:=d;obtain⟨s,g,_⟩:=Ai p i1;have hp:1<=Aa s.2.2.2.2.1/\Aa s.2.2.2.2.1<=8:=(h.st i s g).1.ph;try simp only
  rw[Zzp (decide_eq_true i1),Zzq g,Zzp (C6 (by omega) (by omega)),Zzp (AV (by omega)),Aj (i+1) (by omega) (by omega)];refine ⟨rfl,_,rfl,by simp only;rw[BK];omega,λj r t c Y=>?_⟩;obtain⟨Z,j1,_⟩:=Ag c;rw[DX Z] at c;split at c
  ·exact X j r t c Y
  ·rw[BK] at j1;obtain rfl:j=i:=by omega
   rw[show j-Aa L=0 by omega] at c;rw[g] at Y;cases Y;cases c;rfl
 ·obtain⟨i,m⟩:=z;simp only at d J;obtain⟨L,rfl,hL,X⟩:=d;try simp only
  rw[Zzn (decide_eq_false (by omega))];have a1:=P7 h (vC n);have E:∀i s r,idx n.1 i=some s->idx L i=some r->Aa r=BO s/\Hh r:=λi s r g c=>by have e:=X i r s c g;have hp:=(h.st i s g).1.ph;have hl:=AM (n:=BO s) (by omega) (0:Int);subst e;exact ⟨hl,by omega,λx y=>by rw[(List.mem_replicate.1 y).2];omega⟩
  refine ⟨_,rfl,⟨AM (by omega) _,λv I=>?_,⟨AM w0 _,λi w x hw y=>?_⟩,⟨AM w0 _,λb hb=>?_⟩,by simp only;omega,E,AM (by omega) _,λi s v g I=>?_⟩,λv I=>by rw[(List.mem_replicate.1 I).2],λr c x y=>?_⟩
  ·rw[(List.mem_replicate.1 I).2];exact ⟨vC n,by simp only;omega,by simp only;omega,by simp⟩
  ·rw[nW y];have:=(h.wed i w hw).o;exact ⟨by simp only;omega,by simp,by simp⟩
  ·rw[(List.mem_replicate.1 hb).2];exact ⟨by simp,by simp⟩
  ·rw[nW I];have:=aG (h.st i s g).1;exact ⟨by simp only;omega,by simp,by simp,by simp⟩
  ·obtain⟨j,hj⟩:=BZ c;obtain⟨Z,j1,_⟩:=Ag hj;simp only at j1;obtain⟨s,g,_⟩:=Ai (l:=n.1) Z (by omega);rw[X j r s hj g] at y;exact (List.mem_replicate.1 y).2
theorem Ady {n l} (h:DH n) (hl:Aa l=Aa n.1) (hd:∀d∈l,Aa d.1<=9223372036854775807):∃r e,KP (n,l)=some (r,e)/\(e=0/\Pw n l r\/e≠0/\∃d∈l,¬A4 d.1):=by
 have n2:=h.n2;have n1:=h.n1;obtain⟨m,m1,m2,m3⟩:=Adb h;unfold KP;rw[Zzq m1,Af (b:=!(0:Int)==0) _ _ rfl,Zzn (by simp[hl]),Zzp (C6 (by grind) (by grind)),Zzp (C6 (by grind) (by grind)),Zzp (C6 (by grind) (by grind)),Zzp (C6 (by grind) (by grind)),Zzp (C6 (by grind) (by grind))];refine Ap (λz:Int×Bm×Bm=>z.1) (Aa n.1) (λz=>∃L,z.2.2=(L,(m,(Ay (Aa n.1) [],(Ay (Aa n.1) [],(Ay (Aa n.1) (false,(0,0)),(Ay (Aa n.1) [],(Ay (Aa n.1) 0,0)))))))/\Aa L=z.1/\∀j s d,j<z.1->idx n.1 j=some s->idx l j=some d->A4 d.1/\idx L j=some (EU s (Bc d.1).1.2.1 d.1)) (λo=>∃r e,o=some (r,e)/\(e=0/\Pw n l r\/e≠0/\∃d∈l,¬A4 d.1)) (by omega) (by simp) (Ak _) ⟨[],rfl,rfl,λj s d X p=>absurd (Ag p).1 (by omega)⟩ (λz v I i1=>?_) λz v hz=>?_
 ·obtain⟨i,z0,z⟩:=z;simp only at v I i1;obtain⟨L,rfl,hL,Y⟩:=v;obtain⟨s,p,_⟩:=Ai I i1;obtain⟨d,g,E⟩:=Ai (l:=l) I (by omega);try simp only
  rw[Zzp (decide_eq_true i1),Zzq p,Zzq g];rcases nO (h.st i s p).1 (hd d E) with ⟨k1,Z⟩|⟨k1,y,Z⟩
  ·rw[Zzq Z,Af (b:=!(0:Int)==0) _ _ rfl,Zzp (AV (by omega)),Aj (i+1) (by omega) (by omega)];refine ⟨rfl,_,rfl,by simp only;rw[BK];omega,λj t e X J he=>?_⟩;by_cases c:j=i
   ·subst c;rw[p] at J;cases J;rw[g] at he;cases he;refine ⟨k1,?_⟩;rw[DX I,if_neg (by omega),show j-Aa L=0 by omega];rfl
   ·obtain⟨q1,q2⟩:=Y j t e (by simp only at X;omega) J he;refine ⟨q1,?_⟩;rw[DX (Ag J).1,if_pos (by simp only at X;omega)];exact q2
  ·rw[Zzq Z,Ae (b:=!(8:Int)==0) _ _ rfl];exact ⟨_,8,rfl,.inr ⟨by decide,d,E,k1⟩⟩
 ·obtain⟨i,z0,z⟩:=z;simp only at v hz;obtain⟨L,rfl,hL,Y⟩:=v;try simp only
  rw[Zzn (decide_eq_false (by omega))];exact ⟨_,0,rfl,.inl ⟨rfl,by simp only;omega,λj s d p g=>Y j s d (by have:=(Ag p).2.1;omega) p g,m,m2,m3,rfl⟩⟩
theorem AaS {n l r} (h:DH n) (y:Aa l=Aa n.1) (g:Pw n l r):NV n r:=by
 have n1:=h.n1;obtain⟨m,_,_,e⟩:=g.rest;obtain⟨L,R⟩:=r;simp only at e;subst e;refine ⟨g.l1,λi s x o c=>?_,AM (by omega) _,AM (by omega) _,AM (by omega) _,λx c=>?_,AM (by omega) _,λx c=>?_,AM (by omega) _,λx c=>?_,show (0:Int)<=0/\(0:Int)<=1073741824 by decide⟩
 ·obtain⟨p,i1,_⟩:=Ag o;obtain⟨d,t,_⟩:=Ai (l:=l) p (by omega);obtain⟨k1,v⟩:=g.loc i s d o t;rw[show idx L i = _ from v] at c;cases c;exact eL (h.st i s o).1 k1 _
 ·rw[(List.mem_replicate.1 c).2];exact ⟨by simp,by simp[As],λ_=>rfl⟩
 ·rw[(List.mem_replicate.1 c).2];simp[Aa]
 ·rw[(List.mem_replicate.1 c).2];simp[As]
structure Wv (n:AU) (l:List Bk) (st:List EA):Prop where
 net:DH n
 l1:Aa l=Aa n.1
 s:Aa st<=60
 ok:∀i p,idx st i=some p->UA n p/\(∀x∈p.2.1,x<=4)/\∀x∈p.2.2,x<=4
theorem Ab4 {n p} (h:DH n) (c:UA n p) (h1:∀x∈p.2.1,x<=4) (g:∀x∈p.2.2,x<=4):IY (n,p)=some 0:=by have n2:=h.n2;have i1:=c.i1;have d1:=c.d1;have u1:=c.u1;unfold IY;rw[Zzn (by simp[i1,d1,u1]),Zzq (SO (by grind) (by grind))];have o:=Az p.2.1 p.2.2;refine Bn (l:=p.2.1++p.2.2) (λr:Option Int=>r=some 0) (λ_ _=>True) (some 0) (some 0) (NJ (by omega)) (λi b t i1 d=>.inl ⟨trivial,?_⟩) λi hi=>by rw[Zzn (decide_eq_false hi)] (λ_=>rfl) λ_=>rfl;have:=List.mem_append.1 (Ag d).2.2;rw[Zzp (decide_eq_true i1),Zzq d,Zzn (decide_eq_false (by grind))]
theorem AgP {n:AU} {l:List Bk} {st:List EA} (h:Wv n l st) (hd:∀d∈l,Aa d.1<=9223372036854775807) (J:Int->Bm->Prop) (J0:∀r,Pw n l r->J 0 r)
 (Js:∀i p r I m dn up,0<=i->idx st i=some p->UA n p->NV n r->J i r->wA n r p I m dn up->J (i+1) I):∃r c e,Kg (n,(l,st))=some (r,(c,e))/\(e=0/\NV n r/\J (Aa st) r\/e≠0/\∃d∈l,¬A4 d.1):=by
 have X:=h.net;have hs:=h.s;obtain⟨r,e,f1,t⟩:=Ady X h.l1 hd;unfold Kg;rw[Zzq f1];rcases t with ⟨rfl,t⟩|⟨E,t⟩
 rotate_left
 ·rw[Zzp (by simpa using E)];exact ⟨_,_,e,rfl,.inr ⟨E,t⟩⟩
 rw[Af (b:=!(0:Int)==0) _ _ rfl,Zzn (decide_eq_false (by simp only;omega))];refine Ap (λz:Int×Bm=>z.1) (Aa st) (λ_=>True) (λo=>∃r c e,o=some (r,(c,e))/\(e=0/\NV n r/\J (Aa st) r\/e≠0/\∃d∈l,¬A4 d.1)) (by omega) (by simp) (Ak _) trivial (λz g v i1=>?_) λz g Y=>?_
 ·obtain⟨i,z⟩:=z;simp only at v i1;obtain⟨p,y,_⟩:=Ai (l:=st) v i1;obtain⟨Z,q2,q3⟩:=h.ok i p y;try simp only
  rw[Zzp (decide_eq_true i1),Zzq y,Zzq (Ab4 X Z q2 q3),Af (b:=!(0:Int)==0) _ _ rfl,Aj (i+1) (by omega) (by omega)];exact ⟨rfl,trivial⟩
 obtain⟨i,z⟩:=z;simp only at Y;try simp only
 rw[Zzn (decide_eq_false (by omega))];refine Ap (λz:List (List (List Int))×Int×Bm=>z.2.1) (Aa st) (λz=>Aa z.1=z.2.1/\NV n z.2.2/\J z.2.1 z.2.2) (λo=>∃r c e,o=some (r,(c,e))/\(e=0/\NV n r/\J (Aa st) r\/e≠0/\∃d∈l,¬A4 d.1)) (by omega) (by simp) (Ak _) ⟨rfl,AaS X h.l1 t,J0 r t⟩ (λz g v i1=>?_) λz g Y=>?_
 ·obtain⟨c,i,r⟩:=z;simp only at g v i1;obtain⟨h1,h2,h3⟩:=g;obtain⟨p,y,_⟩:=Ai (l:=st) v i1;obtain⟨Z,q2,q3⟩:=h.ok i p y;obtain⟨I,li,m,dn,up,k1,k2⟩:=AgS X h2 Z;try simp only
  rw[Zzp (decide_eq_true i1),Zzq y,Zzq k1,Zzp (AV (by omega)),Aj (i+1) (by omega) (by omega)];exact ⟨rfl,by simp only;rw[BK];omega,k2.ok,Js i p r I m dn up v y Z h2 h3 k2⟩
 ·obtain⟨c,i,r⟩:=z;simp only at g Y;subst Y;try simp only
  rw[Zzn (decide_eq_false (by omega))];exact ⟨r,c,0,rfl,.inl ⟨rfl,g.2⟩⟩
theorem Ac4 {l} (J:Aa l<=12) (v:∀x∈l,Aa x.1<=140737488351232/\Aa x.2.2.1<=140737488351232):∃m,MS l=some m/\0<=m/\m<=3377699720429580/\∀x∈l,Aa x.1<=m:=by
 have h0:=Ak l;unfold MS;refine Ap (λz:Int×Int=>z.2) (Aa l) (λz=>0<=z.1/\z.1<=12+z.2*281474976702464/\∀j x,j<z.2->idx l j=some x->Aa x.1<=z.1) (λo=>∃m,o=some m/\0<=m/\m<=3377699720429580/\∀x∈l,Aa x.1<=m) (by omega) (by simp) h0 ⟨h0,by omega,λj x g c=>absurd (Ag c).1 (by omega)⟩ (λz d t i1=>?_) λz d E=>?_
 ·obtain⟨m,i⟩:=z;simp only at d t i1;obtain⟨h1,X,I⟩:=d;obtain⟨x,c,h⟩:=Ai t i1;obtain⟨s1,s2⟩:=v x h;have Y:=Ak x.1;have Z:=Ak x.2.2.1;try simp only
  rw[Zzp (decide_eq_true i1),Zzq c,Zzq c,Aj (Aa x.1+Aa x.2.2.1) (by omega) (by omega),Aj (m+(Aa x.1+Aa x.2.2.1)) (by omega) (by omega),Aj (i+1) (by omega) (by omega)];refine ⟨rfl,by simp only;omega,by simp only;omega,λj y g p=>?_⟩;simp only at g ⊢;by_cases e:j=i
  ·subst e;rw[c] at p;cases p;omega
  ·have:=I j y (by omega) p;omega
 ·obtain⟨m,i⟩:=z;simp only at d E;try simp only
  rw[Zzn (decide_eq_false (by omega))];refine ⟨m,rfl,d.1,by omega,λx c=>?_⟩;obtain⟨j,g⟩:=BZ c;exact d.2.2 j x (by have:=(Ag g).2.1;omega) g
theorem AcV {n} (g:OZ n):∃b,Ly n=some b:=by
 unfold Ly;rw[AK];split
 ·exact ⟨_,rfl⟩
 refine Bn (λa:Option Bool=>∃b,a=some b) (λ_ s=>F8 s=some false) (some true) _ g.s (λi s h0 hi d=>?_) λi hi=>by rw[Zzn (decide_eq_false hi)] (λ_=>?_) λ_=>⟨_,rfl⟩
 ·obtain⟨b,o⟩:=Ld.uZ s (g.ss s (Ag d).2.2);rw[Zzp (decide_eq_true hi),Zzq d,Zzq o];cases b with
  |true=>exact .inr ⟨by simp_all,Zzp rfl⟩
  |false=>exact .inl ⟨o,Zzn rfl⟩
 refine Bn (λa:Option Bool=>∃b,a=some b) (λ_ s=>¬60<Aa s.1) (some true) _ g.u (λi s h0 hi d=>?_) λi hi=>by rw[Zzn (decide_eq_false hi)] (λ_=>?_) λ_=>⟨_,rfl⟩
 ·rw[Zzp (decide_eq_true hi),Zzq d];by_cases c:60<Aa s.1
  ·exact .inr ⟨λh=>h c,Zzp (decide_eq_true c)⟩
  ·exact .inl ⟨c,Zzn (decide_eq_false c)⟩
 refine Bn (λa:Option Bool=>∃b,a=some b) (λ_ s=>¬60<Aa s.2.2.2) (some true) (some false) g.w (λi s h0 hi d=>?_) λi hi=>by rw[Zzn (decide_eq_false hi)] (λ_=>⟨_,rfl⟩) λ_=>⟨_,rfl⟩;rw[Zzp (decide_eq_true hi),Zzq d];by_cases c:60<Aa s.2.2.2
 ·exact .inr ⟨λh=>h c,Zzp (decide_eq_true c)⟩
 ·exact .inl ⟨c,Zzn (decide_eq_false c)⟩
structure kG (p:EA):Prop where
 s:∀x∈p.1,Aa x.1<=140737488351232/\Aa x.2.2.1<=140737488351232
theorem AfP {n l st} (hf:OZ n) (Y:∀p∈st,kG p):∃b,Ok (n,(l,st))=some b/\(b=true->Wv n l st):=by
 obtain⟨g,hg⟩:=AcV hf;unfold Ok;rw[Zzq hg];by_cases c:(g||!Aa l==Aa n.1||decide (Aa l<1)||decide (6<Aa l)||decide (40<Aa st))=true
 ·rw[Zzp c]<;>simp_all
 rw[Zzn (Bool.eq_false_iff.2 c)];simp only[Qaj,Qal,beq_eq_false_iff_ne,ne_eq,not_or,Qcq,decide_eq_true_eq,Qcb] at c;obtain⟨⟨⟨⟨_,c1⟩,c2⟩,c3⟩,c4⟩:=c;obtain⟨e,e1,e2⟩:=Ade hf;rw[Zzq e1];by_cases c5:e≠0
 ·rw[Zzp (by simpa using c5)]<;>simp_all
 have h:=e2 (Decidable.not_not.1 c5);have n1:=h.n1;rw[Zzn (by simpa using c5)];refine Bn (l:=l) (λa:Option Bool=>∃b,a=some b/\(b=true->Wv n l st)) (λ_ d=>¬5000<Aa d.1) (some false) _ (NJ (by omega)) (λi s h0 hi hr=>?_) λi hi=>by rw[Zzn (decide_eq_false hi)] (λ_=>?_) λ_=>⟨false,rfl,nofun⟩
 ·rw[Zzp (decide_eq_true hi),Zzq hr];by_cases c:5000<Aa s.1
  ·exact .inr ⟨λhh=>hh c,Zzp (decide_eq_true c)⟩
  ·exact .inl ⟨c,Zzn (decide_eq_false c)⟩
 refine Ap (λz:Int×Int=>z.2) (Aa st) (λz=>0<=z.1/\z.1<=z.2*3377699720429580/\∀j p,j<z.2->idx st j=some p->(Aa p.1=Aa n.1/\Aa p.2.1=Aa n.1/\Aa p.2.2=Aa n.1)/\(∀x∈p.2.1,x<=4)/\(∀x∈p.2.2,x<=4)/\∀x∈p.1,Aa x.1<=z.1) (λa:Option Bool=>∃b,a=some b/\(b=true->Wv n l st)) (by omega) (by simp) (Ak _) ⟨by simp,by simp,λj x hj o=>absurd (Ag o).1 (by omega)⟩ (λz Z i0 i1=>?_) λz Z hz=>?_
 ·obtain⟨m,i⟩:=z;simp only at Z i0 i1;obtain⟨h1,h2,h3⟩:=Z;obtain⟨p,I,a1⟩:=Ai i0 i1;try simp only
  rw[Zzp (decide_eq_true i1),Zzq I];by_cases c:(!Aa p.1==Aa l||!Aa p.2.1==Aa l||!Aa p.2.2==Aa l)=true
  ·rw[Zzp c];exact ⟨false,rfl,nofun⟩
  rw[Zzn (Bool.eq_false_iff.2 c)];simp only[Qaj,Qal,beq_eq_false_iff_ne,ne_eq,not_or,Qcq] at c;obtain⟨⟨k1,k2⟩,k3⟩:=c;refine Ap (λz:Int=>z) (Aa l) (λz=>∀j x y,j<z->idx p.2.1 j=some x->idx p.2.2 j=some y->x<=4/\y<=4) (Cq _ _ _ _) (by omega) (by omega) (Ak _) (λj x y hj o=>absurd (Ag o).1 (by omega)) (λj hJ j0 j1=>?_) λj hJ hz=>?_
  ·obtain⟨x,o,_⟩:=Ai (l:=p.2.1) j0 (by omega);obtain⟨y,J,_⟩:=Ai (l:=p.2.2) j0 (by omega);try simp only
   rw[Zzp (decide_eq_true j1),Zzq o];by_cases d1:4<x
   ·rw[Zzp (decide_eq_true d1)];exact ⟨false,rfl,nofun⟩
   rw[Zzn (decide_eq_false d1),Zzq J];by_cases d2:4<y
   ·rw[Zzp (decide_eq_true d2)];exact ⟨false,rfl,nofun⟩
   rw[Zzn (decide_eq_false d2),Aj (j+1) (by omega) (by omega)];refine ⟨rfl,λq x' y' X t v=>?_⟩;by_cases e:q=j
   ·subst e;rw[o] at t;cases t;rw[J] at v;cases v;omega
   ·exact hJ q x' y' (by omega) t v
  ·obtain⟨k,q1,q2,q3,q4⟩:=Ac4 (by omega) (Y p a1).s;try simp only
   rw[Zzn (decide_eq_false (by omega)),Zzq q1,Aj (i+1) (by omega) (by omega),Aj (m+k) (by omega) (by omega)];refine ⟨rfl,by simp only;omega,by simp only;omega,λj' p' hj E=>?_⟩;simp only at hj ⊢;by_cases e:j'=i
   ·subst e;rw[I] at E;cases E;refine ⟨by omega,λx o=>?_,λy J=>?_,λx o=>by have:=q4 x o;omega⟩
    ·obtain⟨q,X⟩:=BZ o;obtain⟨b0,b1,_⟩:=Ag X;obtain⟨y,J,_⟩:=Ai (l:=p.2.2) b0 (by omega);exact (hJ q x y (by omega) X J).1
    ·obtain⟨q,X⟩:=BZ J;obtain⟨b0,b1,_⟩:=Ag X;obtain⟨x,o,_⟩:=Ai (l:=p.2.1) b0 (by omega);exact (hJ q x y (by omega) o X).2
   ·obtain⟨y1,y2,y3,y4⟩:=h3 j' p' (by omega) E;exact ⟨y1,y2,y3,λx o=>by have:=y4 x o;omega⟩
 ·obtain⟨m,i⟩:=z;simp only at Z hz;obtain⟨h1,h2,h3⟩:=Z;try simp only
  rw[Zzn (decide_eq_false (by omega))];refine ⟨_,rfl,λhm=>⟨h,c1,by omega,λj p I=>?_⟩⟩;have hm:=of_decide_eq_true hm;obtain⟨⟨y1,y2,y3⟩,y4,y5,y6⟩:=h3 j p (by have:=(Ag I).2.1;omega) I;refine ⟨⟨y1,y2,y3,λx o=>⟨by have:=y6 x o;omega,?_⟩⟩,y4,y5⟩;have:=((Y p (Ag I).2.2).s x o).2;unfold Aa at this;unfold maxLen;omega
end Go.Proofs.YtlgpjdjcbincgaaGreatDoor
namespace Go.Proofs.YtlgpjdjcbincgaaGreatDoor
open Go.Den
end Go.Proofs.YtlgpjdjcbincgaaGreatDoor
namespace Go.Proofs.YtlgpjdjcbincgaaGreatDoor
open Go.Den
theorem zP:QF ()=some true:=by kernel_rfl
end Go.Proofs.YtlgpjdjcbincgaaGreatDoor
namespace Go.Proofs.YtlgpjdjcbincgaaGreatDoor
open Go.Den
def AhL:List Int:=Ay 256 0
theorem Aiu:Pq ()=some (AhL,()):=by kernel_rfl
theorem AhQ:Aa AhL=256:=AM (by decide) 0
theorem AhX:A4 AhL:=⟨by rw[AhQ];decide,by rw[AhQ];decide,by rw[AhQ];decide⟩
theorem bare_slots:BD AhL 0=FP (CX AhL 0)/\BD AhL 1=FP (CX AhL 1):=by constructor<;>kernel_rfl
theorem AhS {n} (h:n<2097152):Aa (smL n)<=3:=by
 show Aa (Eo 10 n)<=3;simp only[Eo];split
 ·split
  ·rw[if_neg (by omega)];simp[Aa]
  ·simp[Aa]
 ·simp[Aa]
theorem AhY:∀l:List Int,(∀n∈l,n<2097152)->Aa (Bg l)<=3*Aa l
 |[],_=>by simp[Bg,Aa]
 |n::l,h=>by have h1:=AhY l λm c=>h m (Qak _ c);have d:=AhS (h n (by simp));unfold Bg at h1 ⊢;rw[Qgd,Az,CW];omega
theorem Aie {m p} (h:0<=m/\m<=3) (d:Dq p):j4 AhL m (p::[]):=by
 have c:=d.c;have o:=d.o;have n:=d.n;have q:=d.m;refine ⟨⟨by simp,h,by simp[Aa],λx g=>by simp_all⟩,?_⟩;have t:∀x∈FV (p::[]),x<2097152:=λx g=>by
  simp only[FV,JE,Qgd,List.flatMap_nil,Qbd,Qbs,Qaz,Qdw] at g;rcases g with rfl|rfl|rfl|rfl|g
  ·simp[Aa]
  ·omega
  ·omega
  ·omega
  grind
 have h1:=AhY _ t;have y:Aa (FV (p::[]))=4+Aa p.2.2:=by simp only[FV,JE,Qgd,List.flatMap_nil,Qbd,Qbs,Qaz,CW];omega
 have E:=AhS (n:=m) (by omega);have h0:=(EH (FV (p::[]))).1;have hi:Aa (B4 (1,(m,p::[])))<=39:=by unfold B4;rw[Az]<;>grind
 have I:=AhS (n:=Aa (B4 (1,(m,p::[])))) (by omega);have v:Ar AhL=2:=by unfold Ar DY;rw[AhQ];rfl
 unfold Dl;rw[Az,v];omega
theorem Aij {m p w e} (c:0<=m/\m<=3) (d:Dq p) (h:Kx AhL m (p::[]) w e):e=0:=by
 refine Qdr λo=>?_;obtain⟨r,t,E⟩:=(h.bad o).2 (Aie c d);obtain⟨g,hg,v⟩:=t.2.2.1;have h0:N1 AhL=0:=by unfold N1 So;rw[bare_slots.1,bare_slots.2];simp[FP]
 rcases hg with rfl|⟨hg,y⟩
 ·omega
 ·have:∀x∈Lo (CX AhL (toV AhL)),x=0:=by rcases Pp AhL with e|e<;>rw[e]<;>decide +kernel
  have:=this g hg;omega
theorem Aig {q:List Int} {t:Int} (h:Aa q<=16384) (c:0<=t):RJ [] q 0 t=(q,[]):=by
 have d:=Ak q;have w:On ([],(q,(0,t)))=some (q,([],0)):=by unfold On;rw[Zzn (by rw[Qbv];exact ⟨by rfl,decide_eq_false (by simp only;omega)⟩),Zzn (by rfl),Zzn (decide_eq_false (by simp only;omega)),Zzq (LK (l:=[]) (by simp[Aa])),Zzn (by rfl),Zzn (by rfl),Zzp (by rfl),Zzp (by rw[Qap];exact room_le (by rw[Tz];simp only;omega))];rfl
 unfold RJ F9;rw[Zzq w];rfl
end Go.Proofs.YtlgpjdjcbincgaaGreatDoor
namespace Go.Proofs.YtlgpjdjcbincgaaGreatDoor
open Go.Den
theorem Aif:Bc AhL=((0,(0,[])),190):=by
 have c:E4 (AhL,())=some ((0,(0,[])),190):=by kernel_rfl
 rw[Ky AhX] at c;exact Qag c
theorem Ait {s now} (c:E8 s now):Ld.Ik s (PW now)=0:=by rw[Ld.lightE_ok];refine ⟨by unfold PW;rw[HN];exact c.may.st.n,λa d=>?_⟩;unfold PW at d;obtain⟨w,g,rfl⟩:=List.mem_map.1 d;have:=c.all w g;unfold FX at this<;>grind
theorem Ais {s now wn} (c:E8 s now) (d:0<=wn/\wn<=1048576):wnV s now wn []=0:=by
 have g:Ld.Li s (PW now) []=(false,0):=by unfold Ld.Li;rw[if_neg (by rw[Ait c];simp),if_pos (by rfl)]
 unfold wnV Ld.WK<;>grind
abbrev AhM (s:Al):Int:=s.2.2.2.2.2.2.2.2.1
theorem AhW {s m w} (g:1<=m/\m<=3) (h:0<=w/\w<=1048576) :
 DT (s,((m,(w,false)),(true,(true,(true,true)))))=if m=3 then (3,(0,false)) else if AhM s<=w+1 then (m+1,(0,false)) else (m,(w+1,false)):=by
 have d:Cd ((m,(w,false||!true)),(true,(true,(true,true))))=3:=by unfold Cd;rfl
 unfold DT;simp only;rw[d,Au,Aj (w+1) (by omega) (by omega)];by_cases c:m=3
 ·rw[if_pos c,Zzp (decide_eq_true (by omega))];rfl
 ·rw[if_neg c,Zzn (decide_eq_false (by omega))];by_cases c2:AhM s<=w+1
  ·rw[if_pos c2,Zzp (decide_eq_true c2),Oo (m+1) (by omega) (by omega)];rfl
  ·rw[if_neg c2,Zzn (decide_eq_false c2)];rfl
theorem Aiq {l} (h:∀q∈l,q.1=false) (d:∀q∈l,Px q):∀q∈puV 0 l,q.1=false:=λq t=>by
 obtain⟨j,g⟩:=BZ t;obtain⟨v,p,_⟩:=Ag g;rw[Ya] at p;obtain⟨p0,o,c⟩:=Ai v p;rw[u9 o] at g;rw[<-Qag g];have y:upE 0 j=false:=by unfold upE;rw[zK];rfl
 have d:=d p0 c;unfold Px at d;rw[y];unfold CQ;rw[if_neg (by simp only;omega),if_neg (by simp)];simp only;repeat' split
 all_goals first|rfl|exact h p0 c
structure AhU (n:AU) (s:Al) (i p:Int) (x:Be):Prop where
 rest:LRs x=[]\/LRs x=[126]
 link:(LLk x).1=true->(LLk x).2.1<=p
 pu:∀q∈LPu x,q.1=false
 bu:Zc (LBu x)
 cm:Zc (LCm x)
 told:1<=i->(LTd x).1=Dd n/\LAg x=(i-1)%Dd n
 bare:i=0->LD x=AhL
 disk:1<=i->(Bc (LD x)).2=0/\0<Aa (Bc (LD x)).1.2.2
 rung:Ct s=0->Dd n<=s.2.2.2.2.2.2.1->i<AhM s/\LRg x=(1,(i,false))\/AhM s<=i/\i<2*AhM s/\LRg x=(2,(i-AhM s,false))\/2*AhM s<=i/\LRg x=(3,(0,false))
theorem Aii {n}:Zc (Ay n 0):=λ_ h=>WJ h
theorem Aid {n s p d} (h:St s) (g:d=AhL):AhU n s 0 p (EU s (Bc d).1.2.1 d):=by subst g;have t:1<=AhM s:=h.ok.timed.heal.1;obtain⟨m,c⟩:∃m,m=(Bc AhL).1.2.1:=⟨_,rfl⟩;rw[<-c];rw[Aif] at c;refine ⟨.inl rfl,λh=>(by cases h),λq o=>by rw[WJ o],Aii,Aii,λh=>absurd h (by decide),λ_=>rfl,λh=>absurd h (by decide),λ_ _=>.inl ⟨by omega,?_⟩⟩;show Dk m = _;rw[c,nC];rfl
theorem link_same {l}:(Q2 l []).1=l.1/\(Q2 l []).2.1=l.2.1:=by unfold Q2;simp[Ff]
theorem Aik {l m} (h:l.1=true->l.2.1<m.2.1):(Q2 l [m]).2.1=m.2.1:=by unfold Q2;rw[Ff,if_neg λc=>by grind];simp[Ff]
theorem rest_end {a m} (d:FA m):(if 0<=Aa (a++Ep m)-1/\Aa (a++Ep m)-(Aa (a++Ep m)-1)<=2048 then A5 (a++Ep m) (Aa (a++Ep m)-1) else [])=[126]:=by have o:=gE d.body;have g:=Ak a;have e:=Az a (Ep m);rw[if_pos ⟨by omega,by omega⟩];have c:=Fv (aX (m:=m) a);have h:(a++Ep m).drop (Aa (a++Ep m)-1+1).toNat=[]:=Tb (by omega);rw[h] at c;exact c
def Ah0 (n:AU) (s:Al) (i p d:Int) (b:List Int):Prop :=
 b=[]/\d=p/\i%Dd n≠0\/∃c,Ur s c/\c.2.1=Dd n/\b=Ep (2,(p+1,Bg (Ny c)))/\d=p+1/\i%Dd n=0
theorem Aiv {n s i p Y rs d b td h ag E told} (Z:DH n) (hs:Uz n s) {lk g} (H:YC s lk rs td ag b g d h E told) (hp:0<=p/\p<4294967295)
 (hr:rs=[]\/rs=[126]) (hl:lk.1=true->lk.2.1<=p) (hb:Ah0 n s i p Y b) :
 (d=[]\/d=[126])/\(g.1=true->g.2.1<=Y)/\(told=false/\i%Dd n≠0\/told=true/\h.1=Dd n/\i%Dd n=0):=by
 have t1:=Z.t.l1;have t2:=Z.t.l2;have s2:=hs.2;rcases hb with ⟨rfl,rfl,h0⟩|⟨c,c1,c2,rfl,rfl,h0⟩
 ·obtain⟨la,I,a1⟩:∃la,Cv rs=some ([],(la,0))/\((if 0<=la/\Aa rs-la<=2048 then A5 rs la else [])=[]\/(if 0<=la/\Aa rs-la<=2048 then A5 rs la else [])=[126]):=by
   rcases hr with rfl|rfl
   ·exact ⟨-1,AdF,.inl rfl⟩
   ·exact ⟨0,AdE,.inr rfl⟩
  obtain⟨k1,y,_⟩:=H.more rs [] la (by simp[Ax]) I;obtain⟨y,o⟩:=y rfl;refine ⟨by simp_all,λv=>?_,.inl ⟨o,h0⟩⟩;rw[y,link_same.1] at v;rw[y,link_same.2]<;>simp_all
 ·have hk:As (p+1):=⟨by omega,by omega⟩;obtain⟨J,m2⟩:=Aew c1.ok hk;have X:=gE J.body;obtain⟨k1,_,o⟩:=H.more (rs++Ep (2,(p+1,Bg (Ny c)))) [(2,(p+1,Bg (Ny c)))] _ (by congr 1;unfold Ax;rw[Qas];unfold Aa at X ⊢;omega) (AdG J (by simp) m2 hr);obtain⟨o,k4,k5⟩:=o _ c rfl rfl (Aib c1.ok) c1.id (λv=>by have:=hl v;simp only;omega);refine ⟨.inr (by rw[k1];exact rest_end J),λ_=>?_,.inr ⟨o,?_,h0⟩⟩
  ·rw[k5,Aik λv=>by have:=hl v;simp only;omega];exact Qbb _
  ·rw[k4];show Pn.DC s c.2 = _;unfold Pn.DC;rw[c2];omega
end Go.Proofs.YtlgpjdjcbincgaaGreatDoor
namespace Go.Proofs.YtlgpjdjcbincgaaGreatDoor
open Go.Den
abbrev nothing:Kw:=([],(0,([],(false,(0,(0,false))))))
theorem Aim {i L:Int} (c:1<=L) (h:i%L≠0):i%L=(i-1)%L+1:=by
 have h1:=Int.emod_nonneg i (show L≠0 by omega);have d:=Int.emod_lt_of_pos i (show 0<L by omega);have g:=Int.emod_add_mul_ediv i L;have e:i-1=i%L-1+L*(i/L):=by omega
 rw[e,Int.add_mul_emod_self_left,Qcp (a:=i%L-1) (by omega) (by omega)];omega
theorem Aip {r q} (c:YI r) (g:Zc r.2.2.2) (h:As q):bH (3,(q,Bg (KZ r))):=by
 have o:=Afp c.n;refine ⟨⟨h,by grind⟩,by simp,MP λn d=>?_,r,c,g,rfl⟩;have h1:=c.id;have p:=c.mode;have t:=c.tick;have h4:=c.n;have:=Ak r.2.2.2;unfold KZ at d;simp only[Qbs,Qaz,Qdw] at d;rcases d with rfl|rfl|rfl|rfl|d
 ·omega
 ·omega
 ·omega
 ·omega
 ·rw[g n d];omega
theorem Aih {n s i p p' x y b out} (hN:DH n) (hs:Uz n s) (hi:0<=i/\i<=1000000) (Y:E9 s x) (J:AhU n s i p x) (hp:0<=p/\p<4294967295) (hw:AdY s x (b,nothing.2) y out) (hb:Ah0 n s i p p' b) :
 AhU n s (i+1) p' y/\(out=[]\/∃m,bH m/\out=Ep m):=by
 obtain⟨w,asks,lights,_,h2⟩:=hw;obtain⟨told,well,a8,R⟩:=h2 rfl;have hS:=hs.1;have t1:=hN.t.l1;have t3:=hN.t.h;have t2:=hN.t.l2;have g1:=Int.emod_nonneg i (show Dd n≠0 by omega);have g2:=Int.emod_lt_of_pos i (show 0<Dd n by omega);obtain⟨k1,k2,k3⟩:=Aiv hN hs R.hear hp J.rest J.link hb;have a6:LWn y=0:=by rw[R.wn];exact Ais Y.now Y.wrong
 have o:(LTd y).1=Dd n/\LAg y=i%Dd n:=by
  rcases k3 with ⟨v,E⟩|⟨v,E,a3⟩
  ·have i1:1<=i:=by refine Qdr λhh=>E ?_;rw[show i=0 by omega];rfl
   obtain⟨b1,b2⟩:=R.hear.no v;obtain⟨c1,c2⟩:=J.told i1;have:=Aim t1 E<;>grind
  ·exact ⟨E,by rw[(R.hear.yes v).2,a3]⟩
 have I:(Bc (LD y)).2=0/\0<Aa (Bc (LD y)).1.2.2:=by
  have same:LD y=LD x->1<=i\/(Bc (LD x)).2=0/\Aa (Bc (LD x)).1.2.2=1->(Bc (LD y)).2=0/\0<Aa (Bc (LD y)).1.2.2:=λe h=>by
   rw[e];rcases h with h|h
   ·exact J.disk h
   omega
  have Z:=R.disk;rcases k3 with ⟨v,E⟩|⟨v,E,a3⟩
  ·have i1:1<=i:=by refine Qdr λhh=>E ?_;rw[show i=0 by omega];rfl
   rw[R.puts.2.1 v,Zq] at Z<;>simp_all
  ·rcases R.puts.2.2 with ⟨e,h⟩|⟨e,h⟩
   ·rw[e,Zq] at Z<;>simp_all
   ·by_cases e0:e=0
    ·rw[e0] at h;obtain⟨g,_,hg⟩:=Adq Y.disk h;rw[Z,hg];exact ⟨rfl,by simp[Aa]⟩
    ·by_cases i0:i=0
     ·rw[J.bare i0] at h;exact absurd (Aij Y.rung.mode (KN hS (R.hear.yes v).1) h) e0
     ·rw[(h.bad e0).1,Zq] at Z;exact same Z (.inl (by omega))
 have hz:=R.tell.zero;have X:∀q∈LPu y,q.1=false:=by rw[R.pu];exact Aiq J.pu Y.pulse
 have hz:=hz ⟨X,J.bu,J.cm⟩;refine ⟨⟨k1,k2,X,hz.1,hz.2,λ_=>⟨o.1,by rw[o.2,show i+1-1=i by omega]⟩,λh=>by omega,λ_=>I,λhe a7=>?_⟩,?_⟩
 ·have hf:K5 s (LTd y) (LAg y) (LWn y) (Bc (LD y)) false well=(true,(true,(true,true))):=by
   have aa:=hS.ok.timed.feed.1;have lz:EX (LTd y)=false:=by unfold EX;rw[show ((LTd y).1==0)=false by rw[o.1];simp;omega];rfl
   unfold K5;rw[lz,R.wl he,a6,I.1,decide_eq_true I.2,decide_eq_true (show LAg y<s.2.2.2.2.2.2.1 by rw[o.2];omega),decide_eq_false (show ¬s.2.2.2.2.2.2.2.1<=0 by omega)];rfl
  have d:=R.rg;have hh:= hS.ok.timed.heal;change LRg y=DT (s,(LRg x,K5 s (LTd y) (LAg y) (LWn y) (Bc (LD y)) false well)) at d;rw[hf] at d;rcases J.rung he a7 with ⟨a,e⟩|⟨a,a',e⟩|⟨a,e⟩
  ·rw[e,AhW (by omega) (by omega),if_neg (by decide)] at d;by_cases c:AhM s<=i+1
   ·rw[if_pos c] at d;refine .inr (.inl ⟨c,by omega,?_⟩);rw[d,show i+1-AhM s=0 by omega];rfl
   ·rw[if_neg c] at d;exact .inl ⟨by omega,d⟩
  ·rw[e,AhW (by omega) (by omega),if_neg (by decide)] at d;by_cases c:AhM s<=i-AhM s+1
   ·rw[if_pos c] at d;exact .inr (.inr ⟨by omega,d⟩)
   ·rw[if_neg c] at d;refine .inr (.inl ⟨by omega,by omega,?_⟩);rw[d,show i+1-AhM s=i-AhM s+1 by omega]
  ·rw[e,AhW (by omega) (by omega),if_pos rfl] at d;exact .inr (.inr ⟨by omega,d⟩)
 ·by_cases c:(LTi x+1).tmod s.2.2.2.2.2.2.2.2.2.1=0/\LSe x≠4294967295
  ·obtain⟨_,r,_,_,_,_,_,q6,q7,q8⟩:=R.tell.on c.1 c.2;exact .inr ⟨_,Aip q6 (q8 ⟨X,J.bu,J.cm⟩) R.tell.sent,q7⟩
  ·refine .inl (R.tell.off ?_).1;by_cases c1:(LTi x+1).tmod s.2.2.2.2.2.2.2.2.2.1=0
   ·exact .inr (Qdr λhh=>c ⟨c1,hh⟩)
   ·exact .inl c1
end Go.Proofs.YtlgpjdjcbincgaaGreatDoor
namespace Go.Proofs.YtlgpjdjcbincgaaGreatDoor
open Go.Den
structure Aiw (n:AU) (i:Int) (r:Bm):Prop where
 m:BA n r.2.1
 low:Ei n r.2.1
 tick:rTk r=i
 dn:∀x∈rDn r,x=[]
 up:∀x∈rUp r,x=[]
 rs:∀x∈rRs r,x=[]\/x=[126]
 se:∀x∈rSe r,0<=x/\x<=i
 site:∀j s x p,idx n.1 j=some s->idx r.1 j=some x->idx (rSe r) j=some p->AhU n s i p x
abbrev stepG (n:AU):EA:=(Ay (Aa n.1) nothing,(Ay (Aa n.1) 0,Ay (Aa n.1) 0))
theorem Ain {n}:UA n (stepG n):=by have h:=Ak n.1;refine ⟨AM h _,AM h _,AM h _,λx c=>?_⟩;rw[WJ c];exact ⟨by simp[Aa],by simp⟩
theorem Ail {n:AU} (E:DH n) {l:List Bk} (y:l=Ay (Aa n.1) (AhL,())) {r:Bm} (h:Pw n l r):Aiw n 0 r:=by
 obtain⟨m,I,J,e⟩:=h.rest;obtain⟨L,r2⟩:=r;simp only at e;subst e;refine ⟨I,J,rfl,λx c=>WJ c,λx c=>WJ c,λx c=>.inl (WJ c),λx c=>by rw[WJ c];decide,λj s x p o c Z=>?_⟩;obtain⟨X,Y,_⟩:=Ag o;obtain⟨d,t,_⟩:=Ai (l:=l) X (by rw[y,AM (Ak _)];exact Y);have v:d=(AhL,()):=by rw[y] at t;exact nW t
 have g:=(h.loc j s d o t).2;rw[c] at g;cases g;exact Aid (E.st j s o).1 (congrArg Prod.fst v)
theorem AhR {m} (h:FA m):Aa (Ep m)<=16384:=by have:=gE h.body;omega
theorem Air {n:AU} (hN:DH n) {i:Int} {r Y:Bm} {m:AZ} {dn up:List (List Int)} (hi:0<=i/\i<=100) (Z:NV n r) (J:Aiw n i r) (R:wA n r (stepG n) Y m dn up):Aiw n (i+1) Y:=by
 have t1:=hN.t.l1;have ln:=Ak n.1;have o:∀j,0<=j->j<Aa n.1->∃s y h out,idx n.1 j=some s/\idx Y.1 j=some y/\idx (rSe Y) j=some h/\(0<=h/\h<=i+1)/\AhU n s (i+1) h y/\idx (rDn Y) j=some []/\idx (rUp Y) j=some []/\idx up j=some out/\(out=[]\/∃m,bH m/\out=Ep m):=λj g E=>by
  have a0:=Z.l1;have a1:=Z.d1;have a2:=Z.u1;have a6:=R.told.d1;have a7:=Z.s1;obtain⟨s,I,_⟩:=Ai (l:=n.1) g E;obtain⟨x,v,_⟩:=Ai (l:=r.1) g (by omega);obtain⟨p,hp,aa⟩:=Ai (l:=rSe r) g (by omega);obtain⟨d,hd,ab⟩:=Ai (l:=rDn r) g (by omega);obtain⟨u,hu,ad⟩:=Ai (l:=rUp r) g (by omega);have ae:=J.dn d ab;have af:=J.up u ad;subst ae af;have ag:=J.se p aa;have a8:BB (rTk r) (Dd n)=i%Dd n:=by rw[J.tick];exact Qbq hi.1
  obtain⟨q,h,hq,ah,ai,hD,aj⟩:∃q h,idx dn j=some q/\idx (rSe Y) j=some h/\(0<=h/\h<=i+1)/\Ah0 n s i p h q/\Aa q<=16384:=by
   rcases R.told.each j s p I hp with ⟨c1,c2,c3⟩|⟨c,c1,c2,c3,c4,c5,c6⟩
   ·exact ⟨[],p,c1,c2,by omega,.inl ⟨rfl,rfl,λhh=>c3 ⟨by rw[a8];exact hh,J.m,by omega⟩⟩,by simp[Aa]⟩
   ·exact ⟨_,p+1,c3,c4,by omega,.inr ⟨c,c1,c2 J.low,rfl,rfl,by rw[<-a8];exact c6⟩,AhR (Aew c1.ok ⟨by omega,by omega⟩).1⟩
  obtain⟨y,out,y1,_,y3,y4,y5,y6⟩:=R.site j s x [] [] nothing 0 0 q I v hd hu (IP g E _) (IP g E _) (IP g E _) hq;rw[J.tick,Aig aj hi.1] at y3 y4;have y3:AdY s x (q,nothing.2) y out:=by have e:q++nothing.1=q:=Qbd q;rw[<-e];exact y3
  obtain⟨S1,S2⟩:=Aih hN (hN.st j s I) ⟨hi.1,by omega⟩ (Z.l j s x I v) (J.site j s x p I v hp) ⟨ag.1,by omega⟩ y3 hD;have ak:Aa out<=16384:=by
   rcases S2 with rfl|⟨m,hm,rfl⟩
   ·simp[Aa]
   ·exact AhR hm.1
  rw[J.tick,Aig ak hi.1] at y5 y6;exact ⟨s,y,h,out,I,y1,ah,ai,S1,y4,y5,y6,S2⟩
 obtain⟨g1,g2⟩:=R.told.good J.m J.low;obtain⟨h1,h2⟩:=R.heard λj a b ha hb=>by obtain⟨g,E,hm⟩:=Ag ha;obtain⟨s,y,h,out,_,_,_,_,_,_,_,k,k2⟩:=o j g (by have:=Z.r1;omega);rw[hb] at k;cases k;exact ⟨J.rs a hm,k2⟩
 obtain⟨h3,h4⟩:=h2 g1 g2;refine ⟨h3,h4,by rw[R.tick,J.tick];omega,λx v=>?_,λx v=>?_,h1,λx v=>?_,λj s x p I v hp=>?_⟩
 ·obtain⟨j,X⟩:=BZ v;obtain⟨g,E,_⟩:=Ag X;obtain⟨s,y,h,out,_,_,_,_,_,k,_⟩:=o j g (by have:=R.ok.d1;omega);rw[X] at k;cases k;rfl
 ·obtain⟨j,X⟩:=BZ v;obtain⟨g,E,_⟩:=Ag X;obtain⟨s,y,h,out,_,_,_,_,_,_,k,_⟩:=o j g (by have:=R.ok.u1;omega);rw[X] at k;cases k;rfl
 ·obtain⟨j,X⟩:=BZ v;obtain⟨g,E,_⟩:=Ag X;obtain⟨s,y,h,out,_,_,k,k2,_⟩:=o j g (by have:=R.ok.s1;omega);rw[X] at k;cases k;exact k2
 ·obtain⟨g,E,_⟩:=Ag I;obtain⟨s',y,h,out,k1,k2,k3,_,k4,_⟩:=o j g E;rw[I] at k1;cases k1;rw[v] at k2;cases k2;rw[hp] at k3;cases k3;exact k4
theorem Aio {n} (h:Aa n.1<=1000):Pr (n,0)=some (stepG n):=by
 unfold Pr;refine Ap (λz:Int×EA=>z.1) (Aa n.1) (λz=>z.2=(Ay z.1 nothing,(Ay z.1 0,Ay z.1 0))) (λa=>a=some (stepG n)) (by omega) (by simp) (Ak _) rfl (λz c d i1=>?_) λz c g=>?_
 ·obtain⟨i,z⟩:=z;simp only at c d i1;subst c;have o:=AM d nothing;have p:=AM d (0:Int);try simp only
  rw[Zzp (decide_eq_true i1),Zzp (VV (by omega)),Zzp (VV (by omega)),Zzp (VV (by omega)),Aj (i+1) (by omega) (by omega),eZ d,eZ d];exact ⟨rfl,rfl⟩
 ·obtain⟨i,z⟩:=z;simp only at c g;subst c g;try simp only
  rw[Zzn (decide_eq_false (by omega))];rfl
theorem Aic {n:AU} (hf:OZ n) (t:Int):AhN (n,t)=some true:=by
 unfold AhN;rw[Zzq zP,Zzn (b:=!true) rfl];by_cases c:(decide (t<1)||decide (60<t)||decide (6<Aa n.1))=true
 ·rw[Zzp c]
 rw[Zzn (Bool.eq_false_iff.2 c)];simp only[Qaj,decide_eq_true_eq,not_or,Qcb] at c;obtain⟨⟨c1,c2⟩,c3⟩:=c;have ln:=Ak n.1;refine Ap (λz:List Bk×Int=>z.2) (Aa n.1) (λz=>z.1=Ay z.2 (AhL,())) (λa=>a=some true) (by omega) (by simp) ln rfl (λz o g i1=>?_) λz o J=>?_
 ·obtain⟨l,i⟩:=z;simp only at o g i1;subst o;have e1:=AM g (AhL,());try simp only
  rw[Zzp (decide_eq_true i1),Zzq Aiu,Zzp (VV (by omega)),Aj (i+1) (by omega) (by omega),eZ g];exact ⟨rfl,rfl⟩
 obtain⟨l,i⟩:=z;simp only at o J;obtain⟨b,hb,hw⟩:=AfP (l:=l) (st:=[]) hf (λp h=>by cases h);try simp only
 rw[Zzn (decide_eq_false (by omega)),Zzq hb];rw[J] at o;cases b
 ·rfl
 have W:=hw rfl;rw[Zzn (b:=!true) rfl];have X:=W.net;have n2:=X.n2;show _ = some true;refine Ap (λz:List EA×Int=>z.2) t (λz=>z.1=Ay z.2 (stepG n)) (λa=>a=some true) (by omega) (by simp) (by simp only;omega) rfl (λz hJ Z j1=>?_) λz hJ J=>?_
 ·obtain⟨st,j⟩:=z;simp only at hJ Z j1;subst hJ;have e1:=AM Z (stepG n);try simp only
  rw[Zzp (decide_eq_true j1),Zzq (Aio (by omega)),Zzp (VV (by omega)),Aj (j+1) (by omega) (by omega),eZ Z];exact ⟨rfl,rfl⟩
 obtain⟨st,j⟩:=z;simp only at hJ J;rw[J] at hJ;try simp only
 rw[Zzn (decide_eq_false (by omega))];have a1:Aa st=t:=by rw[hJ];exact AM (by omega) _
 have W2:Wv n l st:=⟨X,W.l1,by omega,λq p h=>by rw[hJ] at h;rw[nW h];exact ⟨Ain,λx v=>by rw[WJ v];decide,λx v=>by rw[WJ v];decide⟩⟩;have Y:∀d∈l,d=(AhL,()):=λd E=>by rw[o] at E;exact WJ E
 obtain⟨r,tr,e,h1,h2⟩:=AgP W2 λd E=>by rw[Y d E];simp only;rw[AhQ];decide (λi r=>i<=t->Aiw n i r) (λr I _=>Ail X o I) (λi p r r' m dn up g h aa I y hR ab=>by
  have a6:p=stepG n:=by rw[hJ] at h;exact nW h
  subst a6;exact Air X ⟨g,by omega⟩ I (y (by omega)) hR);rw[Zzq h1];rcases h2 with ⟨rfl,I,y⟩|⟨_,d,E,hbad⟩
 rotate_left
 ·rw[Y d E] at hbad;exact absurd AhX hbad
 have hM:=y (by omega);rw[a1] at hM;have l1:=W.l1;have r1:=I.l1;rw[Zzn (by simp;omega)];show _ = some true;refine Bn (l:=l) (λr:Option Bool=>r=some true) (λ_ _=>True) (some true) _ (NJ (by omega)) (λi d g i1 ad=>.inl ⟨trivial,?_⟩) λi hi=>by rw[Zzn (decide_eq_false hi)] (λ_=>rfl) λhn=>absurd (λ_ _ _=>trivial) hn;obtain⟨s,hs,_⟩:=Ai (l:=n.1) g (by omega);obtain⟨x,v,_⟩:=Ai (l:=r.1) g (by omega);obtain⟨p,h,_⟩:=Ai (l:=rSe r) g (by have:=I.s1;omega);have S:=hM.site i s x p hs v h;have hh:1<=AhM s/\AhM s<=1048576:=(X.st i s hs).1.ok.timed.heal;have ae:AhM s=s.2.2.2.2.2.2.2.2.1:=rfl;rw[Zzp (decide_eq_true i1),Zzq hs,Aj (2*s.2.2.2.2.2.2.2.2.1) (by omega) (by omega)];by_cases c:(decide (0<Aa s.2.2.2.2.2.1)||decide (s.2.2.2.2.2.2.1<n.2.2.2.1)||decide (t<2*s.2.2.2.2.2.2.2.2.1))=true
 ·rw[Zzp c]
 rw[Zzn (Bool.eq_false_iff.2 c)];simp only[Qaj,decide_eq_true_eq,not_or,Qcb] at c;obtain⟨⟨d1,d2⟩,d3⟩:=c;have ne:Ct s=0:=by have:=Ak s.2.2.2.2.2.1;unfold Ct;omega
 have a7:LRg x=(3,(0,false)):=by
  rcases S.rung ne d2 with ⟨a,_⟩|⟨_,a,_⟩|⟨_,e⟩
  ·omega
  ·omega
  ·exact e
 have a8:=(S.told c1).1;rw[Zzq v,Zzn (by rw[show x.2.2.1=(3,(0,false)) from a7];rfl),Zzq v,Zzn (by rw[show x.2.2.2.2.2.2.1.1=Dd n from a8];simp)]
theorem AhZ (x:AU×Int) (c:Jh [CE,I64] x) (_:SW [CE,I64] x):AhN x=some true:=by obtain⟨n,t⟩:=x;exact Aic (Ahr c.1) t
end Go.Proofs.YtlgpjdjcbincgaaGreatDoor
