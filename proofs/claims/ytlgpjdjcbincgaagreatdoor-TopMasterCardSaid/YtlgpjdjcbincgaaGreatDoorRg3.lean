/- Part of a proof: plain readings of Go functions, their contracts, or plain facts of them. -/
import Derived.Test.YtlgpjdjcbincgaaGreatDoorRg2
set_option linter.all false
namespace Go.Proofs.YtlgpjdjcbincgaaGreatDoor
open Go.Den
theorem CK {α:Type} {l:List α} {n} (n0:0<=n) (h:n<=Aa l):Aa (Ax l n)=n:=by unfold Ax Aa at *<;>grind
theorem Dt {α:Type} {l:List α} {n} (n0:0<=n) (h:n<=Aa l):Aa (A5 l n)=Aa l-n:=by unfold A5 Aa at *<;>grind
theorem VI {α:Type} {l:List α} {n} {x:α} (h:x∈Ax l n):x∈l:=Qde h
theorem Qp {α:Type} {l:List α} {lo n} (h0:0<=lo) (h1:0<=n):EJ l lo n=Ax (A5 l lo) n:=by unfold EJ Ax A5;rw[List.take_drop,show (lo+n).toNat=lo.toNat+n.toNat by omega]
theorem Acl n:Cs (wr .u64 n):=by unfold wr Cs;rw[wrap_u64];omega
theorem UM op x y:Cs (Aq op .u64 x y):=by unfold Aq;simp only;exact Acl _
theorem Dw {n} (h:Cs n):wr .u64 n=n:=by unfold wr;rw[wrap_u64,Qcp h.1 (by have:=h.2;omega)]
theorem Ri n:wr .u8 n=n%256:=by unfold wr;simp only[IntKind.wrap,IntKind.signed,IntKind.bits];rfl
theorem Pu n:wr .u32 n=n%4294967296:=by unfold wr;rw[wrap_u32]
theorem Acj n:-9223372036854775808<=wr .i64 n/\wr .i64 n<=9223372036854775807:=by unfold wr;rw[IntKind.wrap_i64];omega
theorem Aht:∀r:Fin 256,Aq .or .u8 (r.val:Int) 128=(r.val%128+128:Nat):=by decide +kernel
theorem Af9:∀r:Fin 256,Aq .and .u8 (r.val:Int) 127=(r.val%128:Nat):=by decide +kernel
theorem Afb {n} (h:0<=n/\n<=255):Aq .or .u8 n 128=n%128+128:=by have:=Aht ⟨n.toNat,by omega⟩<;>grind
theorem k7 {n} (h:0<=n/\n<=255):Aq .and .u8 n 127=n%128:=by have:=Af9 ⟨n.toNat,by omega⟩<;>grind
theorem AhH n:AH .u64 n 7=n/128:=by unfold AH;rw[Qcg _ (by decide)];rfl
def Eo:Nat->Int->List Int
 |0,n=>[n]
 |k+1,n=>if 127<n then (n%128+128)::Eo k (n/128) else [n]
theorem V6:∀k n,1<=Aa (Eo k n)/\Aa (Eo k n)<=(k:Int)+1
 |0,n=>by simp[Eo,Aa]
 |k+1,n=>by
  rw[Eo];split
  ·have:=V6 k (n/128);rw[CW];omega
  ·simp[Aa];omega
theorem Xy:∀k n,0<=n->n<128 ^ (k+1)->∀b∈Eo k n,0<=b/\b<=255
 |0,n,h0,h1,b,c=>by
  have:b=n:=by simpa[Eo] using c
  subst this;simp at h1;omega
 |k+1,n,h0,h1,b,c=>by
  rw[Eo] at c;split at c
  ·rcases List.mem_cons.1 c with rfl|c
   ·omega
   ·have e:(128:Int) ^ (k+1+1)=128 ^ (k+1)*128:=Int.pow_succ _ _;exact Xy k (n/128) (by omega) (by omega) b c
  grind
abbrev smL (n:Int):List Int:=Eo 10 n
theorem Fm n:1<=Aa (smL n)/\Aa (smL n)<=11:=by have:=V6 10 n<;>simp_all
theorem bG {n} (h:Cs n):DV n=some (smL n):=by
 unfold DV;have v:=h.2;have d:n<(128:Int) ^ 10:=by omega
 refine Db (λz:Int×List Int=>0<=z.1/\∃k:Nat,k<=10/\z.1<128 ^ k/\Aa z.2=10-(k:Int)/\z.2++Eo k z.1=smL n) (λz=>z.1.toNat) (λr=>r=some (smL n)) ?_ Am (n,[]) ⟨h.1,10,Qaa _,d,by simp[Aa],rfl⟩ (by rw[Eh]<;>omega);rintro⟨m,out⟩ ⟨o,k,k1,mk,p,g⟩;simp only at o mk p g;try simp only
 by_cases c:127<m
 ·cases k with
  |zero=>omega
  |succ k =>
   rw[Zzp (decide_eq_true c),Ri m,Afb (by omega),Zzp (AV (by omega)),AhH];refine ⟨⟨by omega,k,by omega,?_,?_,?_⟩,by grind⟩
   ·omega
   ·simp only;rw[BK];omega
   ·simp only;rw[<-g,Eo,if_pos c,show m%256%128=m%128 by omega];simp
 ·have t:wr .u8 m=m:=by rw[Ri];omega
  rw[Zzn (decide_eq_false c),t,Zzp (AV (by omega))];have:Eo k m=[m]:=by
   cases k with
   |zero=>rfl
   |succ k=>rw[Eo,if_neg c]
  rw[this] at g;show some (out++[m]) = _;rw[g]
theorem YH {l:List Int} (t:Aa l<=1000000):∃v k e,EZ l=some (v,(k,e))/\Cs v/\0<=k/\k<=Aa l/\(e=0\/e=8)/\(e=0->1<=k):=by
 have c:Cs 0:=⟨by decide,by decide⟩;have o:=Ak l;unfold EZ;refine Ap (λz:Int×Int=>z.2) (Aa l) (λ_=>True) (λr=>∃v k e,r=some (v,(k,e))/\Cs v/\0<=k/\k<=Aa l/\(e=0\/e=8)/\(e=0->1<=k)) (by omega) (by simp) o trivial (λz _ d i1=>?_) λz _ g=>?_
 ·obtain⟨a,i⟩:=z;simp only at d i1;obtain⟨b,p,_⟩:=Ai d i1;try simp only
  have bad:∃v k e,(some (0,(0,8)):Option (Int×Int×Int))=some (v,(k,e))/\Cs v/\0<=k/\k<=Aa l/\(e=0\/e=8)/\(e=0->1<=k):=⟨0,0,8,rfl,c,by omega,by omega,.inr rfl,λh=>by cases h⟩;rw[Zzp (decide_eq_true i1),Zzq p,Aj (7*i) (by omega) (by omega),Aj (i+1) (by omega) (by omega)];rw[AK];split
  ·exact bad
  rw[Zzp (decide_eq_true (by omega)),AK];split
  ·rw[AK];split
   ·exact bad
   ·exact ⟨_,_,_,rfl,UM _ _ _,by omega,by omega,.inl rfl,λ_=>by omega⟩
  ·exact ⟨rfl,trivial⟩
 ·obtain⟨a,i⟩:=z;simp only at g;subst g;try simp only
  rw[Zzn (decide_eq_false (by omega))];exact ⟨0,0,8,rfl,c,by omega,by omega,.inr rfl,λh=>by cases h⟩
theorem vS {l} (p:Aa l<=1000000):∃v e,Iv l=some (v,e)/\Cs v:=by
 have c:Cs 0:=⟨by decide,by decide⟩;unfold Iv;rw[AK];split
 ·exact ⟨0,8,rfl,c⟩
 refine Ap (λz:Int×Int=>z.2) (Aa l) (λz=>Cs z.1) (λr=>∃v e,r=some (v,e)/\Cs v) (by omega) (by simp) (Ak l) c (λz d g i1=>?_) λz d h=>?_
 ·obtain⟨a,i⟩:=z;simp only at g i1;obtain⟨b,o,_⟩:=Ai g i1;try simp only
  rw[Zzp (decide_eq_true i1),Zzq o,Aj (8*i) (by omega) (by omega),Aj (i+1) (by omega) (by omega),Zzp (decide_eq_true (by omega))];exact ⟨rfl,(UM .or a (A9 .u64 (wr .u64 b) (8*i)):_)⟩
 ·obtain⟨a,i⟩:=z;simp only at h d;subst h;try simp only
  rw[Zzn (decide_eq_false (by omega))];exact ⟨a,0,rfl,d⟩
theorem ZX {b bad s most} (o:Aa b<=1000000) (p:0<=most) (y:most<=1152921504606846976):∃d c n,Ch (((b,bad),s),most)=some (((d,c),s),n)/\Aa d<=Aa b/\0<=n/\n<=most:=by
 obtain⟨v,k,e,h1,g,t,h4,E,h6⟩:=YH o;unfold Ch;try simp only
 rw[Zzq h1,Dw ⟨p,by omega⟩];try simp only
 rw[AK];split
 ·exact ⟨b,true,0,rfl,Qbb _,by omega,by omega⟩
 ·rename_i h;simp only[Qaj,decide_eq_true_eq,not_or,Qcb] at h;have v0:=g.1;have I:=Dt t h4;rw[Zzp (by simp;omega),Aj v (by omega) (by omega)];exact ⟨_,bad,v,rfl,by omega,g.1,h.2⟩
theorem AfH {b bad s n} (Y:Aa b<=1000000) (n0:0<=n) (n1:n<=1000):∃o d l,DF (((b,bad),s),n)=some (((o,d),s),l)/\Aa o<=Aa b/\Aa l=n/\∀m∈l,0<=m/\m<=1048576:=by
 unfold DF;try simp only
 refine Ap (λz:List Int×Int×HF=>z.2.1) n (λz=>Aa z.1=z.2.1/\(∀m∈z.1,0<=m/\m<=1048576)/\Aa z.2.2.1.1<=Aa b/\z.2.2.2=s) (λr=>∃o d l,r=some (((o,d),s),l)/\Aa o<=Aa b/\Aa l=n/\∀m∈l,0<=m/\m<=1048576) (by omega) (by simp) n0 ⟨rfl,λm h=>(by cases h),Qbb _,rfl⟩ (λz y J i1=>?_) λz y E=>?_
 ·obtain⟨l,i,⟨⟨c,I⟩,X⟩⟩:=z;obtain⟨p,h,v,t⟩:=y;simp only at J i1 p h v t;subst t;obtain⟨o,d,k,h1,Z,h3,h4⟩:=ZX (b:=c) (most:=1048576) (by omega) (by decide) (by decide);try simp only
  rw[Zzp (decide_eq_true i1),Zzq h1];try simp only
  rw[Zzp (AV (by omega)),Aj (i+1) (by omega) (by omega)];refine ⟨rfl,by simp only;rw[BK,p],λm g=>?_,by simp only;omega,rfl⟩;rcases List.mem_append.1 g with g|g
  ·exact h m g
  ·have:m=k:=by simpa using g
   omega
 ·obtain⟨l,i,⟨⟨c,I⟩,X⟩⟩:=z;obtain⟨p,h,v,t⟩:=y;simp only at E p h v t;subst t E;try simp only
  rw[Zzn (decide_eq_false (by omega))];exact ⟨c,I,l,rfl,v,p,h⟩
structure vW (p:AJ):Prop where
 c:0<=p.1/\p.1<=1048576
 o:0<=p.2.1/\p.2.1<=1048576
 n:Aa p.2.2<=8
 m:∀m∈p.2.2,0<=m/\m<=1048576
theorem Afi {b bad s} (Z:Aa b<=1000000):∃o d l,D5 ((b,bad),s)=some (((o,d),s),l)/\Aa o<=Aa b/\Aa l<=8/\∀p∈l,vW p:=by
 unfold D5;obtain⟨b1,I,n,h1,h2,h3,h4⟩:=ZX (most:=8) Z (by decide) (by decide);rw[Zzq h1];try simp only
 refine Ap (λz:List AJ×Int×HF=>z.2.1) n (λz=>Aa z.1=z.2.1/\(∀m∈z.1,vW m)/\Aa z.2.2.1.1<=Aa b/\z.2.2.2=s) (λr=>∃o d l,r=some (((o,d),s),l)/\Aa o<=Aa b/\Aa l<=8/\∀p∈l,vW p) (by omega) (by simp) h3 ⟨rfl,λm h=>(by cases h),h2,rfl⟩ (λz E i0 i1=>?_) λz E J=>?_
 ·obtain⟨l,i,⟨⟨c,X⟩,s'⟩⟩:=z;obtain⟨v,h,y,t⟩:=E;simp only at i0 i1 v h y t;subst t;obtain⟨c2,d2,k2,a1,a2,a3,a4⟩:=ZX (b:=c) (most:=1048576) (by omega) (by decide) (by decide);obtain⟨c3,d3,k3,e1,e2,e3,e4⟩:=ZX (b:=c2) (most:=1048576) (by omega) (by decide) (by decide);obtain⟨c4,d4,k4,f1,f2,f3,f4⟩:=ZX (b:=c3) (most:=8) (by omega) (by decide) (by decide);obtain⟨c5,d5,Y,g1,g2,g3,g4⟩:=AfH (b:=c4) (by omega) (by omega) (by omega);try simp only
  rw[Zzp (decide_eq_true i1),Zzq a1,Zzq e1,Zzq f1,Zzq g1];try simp only
  rw[Zzp (AV (by omega)),Aj (i+1) (by omega) (by omega)];refine ⟨rfl,by simp only;rw[BK,v],λm g=>?_,by simp only;omega,rfl⟩;rcases List.mem_append.1 g with g|g
  ·exact h m g
  ·have:m=(k2,(k3,Y)):=by simpa using g
   subst this;exact ⟨⟨a3,a4⟩,⟨e3,e4⟩,by show Aa Y<=8;omega,g4⟩
 ·obtain⟨l,i,⟨⟨c,X⟩,s'⟩⟩:=z;obtain⟨v,h,y,t⟩:=E;simp only at J v h y t;subst t J;try simp only
  rw[Zzn (decide_eq_false (by omega))];exact ⟨c,X,l,rfl,y,by omega,h⟩
def Bg (l:List Int):List Int:=l.flatMap smL
theorem EH:∀l:List Int,0<=Aa (Bg l)/\Aa (Bg l)<=11*Aa l
 |[]=>by simp[Bg,Aa]
 |n::l=>by have:=EH l;have:=Fm n;have e:Bg (n::l)=smL n++Bg l:=rfl;rw[e,Az,CW];omega
theorem HR l m:Bg (l++m)=Bg l++Bg m:=by unfold Bg<;>simp_all
theorem TM {A bad F l b0} (P:A->Prop) (J:Aa l<=1000) (X:Aa b0<=1000000) (o:∀n∈l,Cs n)
 (hF:∀b i n h,0<=i->i<Aa l->Aa b<=2000000->idx l i=some n->DV (wr .u64 n)=some h->Aa h<=11->F (b,i)=.next (b++h,i+1)) (v:∃r,F (b0++Bg l,Aa l)=.done r/\P r):P (iter bad F Am (b0,0)):=by
 have step:∀i n,idx l i=some n->Bg (Ax l (i+1))=Bg (Ax l i)++smL n:=λi n hi=>by
  obtain⟨d,i1,_⟩:=Ag hi;have e:Ax l (i+1)=Ax l i++[n]:=by unfold Ax;rw[show (i+1).toNat=i.toNat+1 by omega,Qci];rw[AY d] at hi<;>simp_all
  rw[e,HR];simp[Bg]
 refine Ap (λz:List Int×Int=>z.2) (Aa l) (λz=>z.1=b0++Bg (Ax l z.2)) P (by omega) (by simp) (Ak l) (by simp[Ax,Bg]) (λz c d i1=>?_) λz c p=>?_
 ·obtain⟨b,i⟩:=z;simp only at c d i1;obtain⟨n,g,t⟩:=Ai d i1;have y:=CK (l:=l) d (by omega);have Y:=EH (Ax l i);rw[hF b i n (smL n) d i1 (by rw[c,Az];omega) g (by rw[Dw (o n t)];exact bG (o n t)) (Fm n).2];refine ⟨rfl,?_⟩;simp only;rw[step i n g,c,Qaq]
 ·obtain⟨b,i⟩:=z;simp only at c p;subst p;have:Ax l (Aa l)=l:=by unfold Ax Aa;rw[Qae,Qel]
  rw[this] at c;obtain⟨r,E,I⟩:=v;rw[c,E];exact I
theorem GX {b c:List Int} (d:Aa b<=3000000) (g:Aa c<=1000000):(true&&AA (Aa b+Aa c) 1)=true:=by rw[Qap];exact room_le (by omega)
theorem TN {S A b l i n c bad e} {f:List Int->Int->Step S A} (o:0<=i) (i1:i<Aa l) (p:Aa l<=1000) (t:Aa b<=2000000) (hi:idx l i=some n) (g:DV (wr .u64 n)=some c) (v:Aa c<=11) :
 cnd (decide (i<Aa l)) (Ad (idx l i) bad λh=>Ad (DV (wr .u64 h)) bad λd=>cnd (true&&AA (Aa b+Aa d) 1) (f (b++d) (wr .i64 (i+1))) bad) e=f (b++c) (i+1):=by rw[Zzp (decide_eq_true i1),Zzq hi,Zzq g,Zzp (GX (by omega) (by omega)),Aj (i+1) (by omega) (by omega)]
structure Dq (p:AJ):Prop where
 c:1<=p.1/\p.1<=1048576
 o:0<=p.2.1/\p.2.1<=p.1-1
 n:1<=Aa p.2.2/\Aa p.2.2<=8
 m:∀m∈p.2.2,0<=m/\m<=1048576
def JE (p:AJ):List Int:=p.1::p.2.1::Aa p.2.2::[]++p.2.2
def FV (l:List AJ):List Int:=Aa l::l.flatMap JE
theorem Ab6 a:BX (a::[])=true↔1<=a/\a<=1048576:=by unfold BX;simp
theorem Kq {n} (h0:0<=n) (h1:n<=9223372036854775807):Cs n:=⟨h0,by omega⟩
def Sa (l:List AJ) (r:Option (List Int×Int)):Prop:=∃b e,r=some (b,e)/\Aa b<=1000/\(e=0/\Aa l<=8/\(∀p∈l,Dq p)/\b=Bg (FV l)\/e≠0/\¬(Aa l<=8/\∀p∈l,Dq p))
def UE (l:List AJ) (z:Int×List Int):Prop:=z.2=Bg (Aa l::(Ax l z.1).flatMap JE)/\Aa z.2<=11+121*z.1/\∀j p,j<z.1->idx l j=some p->Dq p
theorem Sb l (hf:∀p∈l,-9223372036854775808<=p.1/\p.1<=9223372036854775807):Sa l (Is l):=by
 have ab:=Ak l;unfold Is;rw[AK];split
 ·rename_i h;exact ⟨[],4,rfl,by simp[Aa],.inr ⟨by decide,λhh=>by grind⟩⟩
 rename_i h8;simp only[decide_eq_true_eq,Qcb] at h8;refine TM (l:=Aa l::[]) (Sa l) (by simp[Aa]) (by simp[Aa]) (λn I=>by simp at I;subst I;exact Kq ab (by omega)) (λb i n sm E i1 v hi hs g=>?_) ⟨_,Zzn (decide_eq_false (by omega)),?_⟩
 ·exact TN (f:=λb i=>.next (b,i)) E i1 (by simp[Aa]) v hi hs g
 have pre:∀i:Int,0<=i->i<Aa l->∀p,idx l i=some p->(Ax l (i+1)).flatMap JE=(Ax l i).flatMap JE++JE p:=λi E i1 p J=>by
  have e:Ax l (i+1)=Ax l i++[p]:=by unfold Ax;rw[show (i+1).toNat=i.toNat+1 by omega,Qci];rw[AY E] at J<;>simp_all
  rw[e,List.flatMap_append];simp
 have ae:UE l (0,[]++Bg (Aa l::[])):=by
  have h1:=EH (Aa l::[]);have e:Aa (Aa l::[])=1:=by simp[Aa]
  refine ⟨by simp[Ax],?_,λj p Y J=>absurd (Ag J).1 (by omega)⟩<;>simp_all
 refine Ap (λz:Int×List Int=>z.1) (Aa l) (UE l) (Sa l) (by omega) (by simp) ab ae (λz Z E i1=>?_) λz Z hz=>?_
 ·obtain⟨i,b⟩:=z;obtain⟨v,a1,Y⟩:=Z;simp only at E i1 v a1 Y;obtain⟨p,J,ad⟩:=Ai E i1;have ag:=hf p ad;have bad:∀ {A:Type} {c:A},¬Dq p->∃b e,(some ([],170):Option (List Int×Int))=some (b,e)/\Aa b<=1000/\(e=0/\Aa l<=8/\(∀p∈l,Dq p)/\b=Bg (FV l)\/e≠0/\¬(Aa l<=8/\∀p∈l,Dq p)):=λI=>⟨[],170,rfl,by simp[Aa],.inr ⟨by decide,λhh=>I (hh.2 p ad)⟩⟩;try simp only
  rw[Zzp (decide_eq_true i1),Zzq J,Au,AK];split
  ·rename_i y;refine bad (c:=()) λt=>?_;have ah:=t.c;rw[Aj (p.1-1) (by omega) (by omega),(Ab6 p.1).2 t.c,(Dj _ _ _).2 t.o,(Dj _ _ _).2 t.n] at y<;>grind
  rename_i y;simp only[Qaj,Qal,not_or,Qdh] at y;obtain⟨⟨a6,X⟩,a7⟩:=y;have a6:=(Ab6 _).1 a6;rw[Aj (p.1-1) (by omega) (by omega)] at X;have X:=(Dj _ _ _).1 X;have a7:=(Dj _ _ _).1 a7;refine TM (l:=p.1::p.2.1::Aa p.2.2::[]) (b0:=b) (λR=>Cq (λz:Int×List Int=>z.1) (UE l) (Sa l) i R) (by simp[Aa]) (by omega) (λn I=>?_) (λb i n sm E i1 v hi hs g=>?_) ⟨_,Zzn (decide_eq_false (by simp only;omega)),?_⟩
  ·simp only[Qdw,Qej,or_false] at I;rcases I with rfl|rfl|rfl<;>exact Kq (by omega) (by omega)
  ·exact TN (f:=λb i=>.next (b,i)) E i1 (by simp[Aa]) v hi hs g
  have ai:=EH (p.1::p.2.1::Aa p.2.2::[]);have aj:Aa (p.1::p.2.1::Aa p.2.2::[])=3:=by simp[Aa]
  refine Ap (λz:Int×List Int=>z.1) (Aa p.2.2) (λz=>z.2=b++Bg (p.1::p.2.1::Aa p.2.2::[]++Ax p.2.2 z.1)/\Aa z.2<=Aa b+33+11*z.1/\∀j m,j<z.1->idx p.2.2 j=some m->0<=m/\m<=1048576) (λR=>Cq (λz:Int×List Int=>z.1) (UE l) (Sa l) i R) (by omega) (by simp) (Ak p.2.2) ⟨by simp[Ax],by simp only;rw[Az];omega,λj m Y g=>absurd (Ag g).1 (by simp only at Y;omega)⟩ (λz Z k0 k1=>?_) λz Z hz=>?_
  ·obtain⟨k,b2⟩:=z;obtain⟨q1,q2,q3⟩:=Z;simp only at k0 k1 q1 q2 q3;obtain⟨m,g,af⟩:=Ai k0 k1;try simp only
   rw[Zzp (decide_eq_true k1),Zzq g,Au,AK];split
   ·rename_i y;refine bad (A:=Unit) (c:=()) λt=>?_;rw[(Dj _ _ _).2 (t.m m af)] at y;simp at y
   rename_i y;simp only[Qal,Qdh] at y;have y:=(Dj _ _ _).1 y;refine TM (l:=m::[]) (b0:=b2) (λR=>Cq (λz:Int×List Int=>z.1) (λz=>z.2=b++Bg (p.1::p.2.1::Aa p.2.2::[]++Ax p.2.2 z.1)/\Aa z.2<=Aa b+33+11*z.1/\∀j m,j<z.1->idx p.2.2 j=some m->0<=m/\m<=1048576) (λR=>Cq (λz:Int×List Int=>z.1) (UE l) (Sa l) i R) k R) (by simp[Aa]) (by omega) (λn I=>?_) (λb i n sm E i1 v hi hs g=>?_) ⟨_,Zzn (decide_eq_false (by simp only;omega)),?_⟩
   ·simp at I;subst I;exact Kq (by omega) (by omega)
   ·exact TN (f:=λb i=>.next (b,i)) E i1 (by simp[Aa]) v hi hs g
   ·rw[Aj (k+1) (by omega) (by omega)];have ak:=Fm m;have e1:Bg (m::[])=smL m:=by simp[Bg]
    refine ⟨rfl,?_,?_,λj m' d a8=>?_⟩
    ·simp only;have e:Ax p.2.2 (k+1)=Ax p.2.2 k++[m]:=by unfold Ax;rw[show (k+1).toNat=k.toNat+1 by omega,Qci];rw[AY k0] at g;rw[g];rfl
     rw[e,<-Qaq,HR,q1,Qaq]
    ·simp only;rw[Az,e1];omega
    ·simp only at d;by_cases ej:j=k
     ·subst ej;rw[g] at a8;cases a8;exact y
     ·exact q3 j m' (by omega) a8
  ·obtain⟨k,b2⟩:=z;obtain⟨q1,q2,q3⟩:=Z;simp only at hz q1 q2 q3;subst hz;try simp only
   rw[Zzn (decide_eq_false (by omega)),Aj (i+1) (by omega) (by omega)];refine ⟨rfl,?_,by simp only;omega,λj p' d aa=>?_⟩
   ·simp only;have e3:Ax p.2.2 (Aa p.2.2)=p.2.2:=by unfold Ax Aa;rw[Qae,Qel]
    rw[e3] at q1;rw[pre i E i1 p J,q1,v,<-HR];rfl
   ·simp only at d;by_cases ej:j=i
    ·subst ej;rw[J] at aa;cases aa;exact ⟨a6,X,a7,λm g=>by obtain⟨j,d⟩:=BZ g;exact q3 j m (Ag d).2.1 d⟩
    ·exact Y j p' (by omega) aa
 ·obtain⟨i,b⟩:=z;obtain⟨v,a1,Y⟩:=Z;simp only at hz v a1 Y;subst hz;try simp only
  rw[Zzn (decide_eq_false (by omega))];have e3:Ax l (Aa l)=l:=by unfold Ax Aa;rw[Qae,Qel]
  rw[e3] at v;exact ⟨b,0,rfl,by omega,.inl ⟨rfl,h8,λp J=>by obtain⟨j,d⟩:=BZ J;exact Y j p (Ag d).2.1 d,v⟩⟩
end Go.Proofs.YtlgpjdjcbincgaaGreatDoor
namespace Go.Proofs.YtlgpjdjcbincgaaGreatDoor
open Go.Den
theorem AgL j:((2 ^ j:Nat):Int)=(2:Int) ^ j:=by simp_all
theorem Afk {i j} (h:i<=j):(2:Int) ^ i<=2 ^ j:=by rw[<-AgL,<-AgL];exact Int.ofNat_le.2 (Qbp (by decide) h)
theorem oK {a d} {j:Nat} (a0:0<=a) (t:a<2 ^ j) (c:0<=d) (h:a+d*2 ^ j<2 ^ 63) (v:j<=63):Aq .or .u64 a (A9 .u64 d (j:Int))=a+d*2 ^ j:=by
 obtain⟨x,rfl⟩:=Qdi a0;obtain⟨y,rfl⟩:=Qdi c;have E:((x+y*2 ^ j:Nat):Int)=(x:Int)+(y:Int)*2 ^ j:=by simp_all
 have g:((y*2 ^ j:Nat):Int)=(y:Int)*2 ^ j:=by omega
 have h1:x<2 ^ j:=by grind
 have I:x+y*2 ^ j<2 ^ 63:=by omega
 have o:(2:Nat) ^ 64=2*2 ^ 63:=by decide
 have p:A9 .u64 (y:Int) (j:Int)=((y*2 ^ j:Nat):Int):=by unfold A9;rw[show min (j:Int).toNat IntKind.u64.bits=j by simp only[IntKind.bits];omega,<-g];exact KV (by omega)
 rw[p,oL (by omega) (by omega)];have e:=Nat.two_pow_add_eq_or_of_lt h1 y<;>grind
theorem zN {k m} (h:127<m):Eo (k+1) m=(m%128+128)::Eo k (m/128):=by rw[Eo,if_pos h]
theorem Ab0 {k m} (h:¬127<m):Eo k m=[m]:=by
 cases k with
 |zero=>rfl
 |succ k=>rw[Eo,if_neg h]
theorem YG {n rest} (n0:0<=n) (n1:n<4611686018427387904) (hr:Aa rest<=1000000):EZ (smL n++rest)=some (n,(Aa (smL n),0)):=by
 have a7:=Fm n;have a8:=Az (smL n) rest;have aa:=Ak rest;unfold EZ;refine Ap (λz:Int×Int=>z.2) (Aa (smL n++rest)) (λz=>∃(j k:Nat) (m:Int) (pre:List Int),z.2=(j:Int)/\k+j=10/\Aa pre=(j:Int)/\smL n=pre++Eo k m/\0<=z.1/\z.1<2 ^ (7*j)/\0<=m/\n=z.1+m*2 ^ (7*j)/\(0<j->1<=m)) (λr=>r=some (n,(Aa (smL n),0))) (by omega) (by simp) (by omega) ⟨0,10,n,[],rfl,rfl,rfl,rfl,by simp,by simp,n0,by simp,λh=>absurd h (by simp)⟩ (λz X i0 i1=>?_) λz X hz=>?_
 ·obtain⟨a,i⟩:=z;obtain⟨j,k,m,pre,hi,hk,y,E,a0,I,Y,J,p⟩:=X;simp only at i0 i1 hi a0 I J;subst hi;have g:(0:Int)<2 ^ (7*j):=Qfd (by decide);have ab:j<=8:=by apply Qar;intro hj;have h2:(2:Int) ^ 63<=2 ^ (7*j):=Afk (by omega);have h3:= Qdg (p (by omega)) (Qdt g)<;>omega
  have t:∀d,0<=d->d<=m->a+d*2 ^ (7*j)<2 ^ 63:=λd d0 dm=>by have h3:= Qdg dm (Qdt g)<;>omega
  have e9:((j:Int)==9)=false:=by grind
  have e7:7*(j:Int)=((7*j:Nat):Int):=by omega
  have o:∀b r,Eo k m=b::r->idx (smL n++rest) (j:Int)=some b:=λb r hb=>by rw[E,hb,Qaq,DX (by omega),if_neg (by omega),y,Qgg];rfl
  try simp only
  by_cases c:127<m
  ·obtain⟨k',rfl⟩:∃k',k=k'+1:=⟨k-1,by omega⟩;have Z:=zN (k:=k') c;rw[Zzp (decide_eq_true i1),Zzq (o _ _ Z),e9,Qee,Zzn rfl,Aj (7*(j:Int)) (by omega) (by omega),Zzp (decide_eq_true (by omega)),Zzn (decide_eq_false (by omega)),k7 (by omega),show (m%128+128)%128=m%128 by omega,Dw ⟨by omega,by omega⟩,e7,oK (a:=a) (d:=m%128) (j:=7*j) a0 I (by omega) (t _ (by omega) (by omega)) (by omega),Aj ((j:Int)+1) (by omega) (by omega)];refine ⟨rfl,j+1,k',m/128,pre++[m%128+128],by simp,by omega,by rw[BK];omega,by simp_all,?_,?_,by omega,?_,λ_=>by omega⟩
   ·simp only;have:0<=m%128*2 ^ (7*j):=Qef (by omega) (Qdt g);omega
   ·simp only;have e:(2:Int) ^ (7*(j+1))=2 ^ (7*j)*128:=by rw[show 7*(j+1)=7*j+7 by omega,Int.pow_add];rfl
    have:m%128*2 ^ (7*j)<=127*2 ^ (7*j):=Qdg (by omega) (Qdt g);rw[e];omega
   ·simp only;have e:(2:Int) ^ (7*(j+1))=128*2 ^ (7*j):=by rw[show 7*(j+1)=7+7*j by omega,Int.pow_add];rfl
    rw[e,<-Int.mul_assoc,Int.add_assoc,<-Int.add_mul,show m%128+m/128*128=m by omega];exact J
  ·have v:=Ab0 (k:=k) c;have a6:Aa (smL n)=(j:Int)+1:=by rw[E,v,Az,y];simp[Aa]
   rw[Zzp (decide_eq_true i1),Zzq (o _ _ v),e9,Qee,Zzn rfl,Aj (7*(j:Int)) (by omega) (by omega),Zzp (decide_eq_true (by omega)),Zzp (decide_eq_true (by omega)),Zzn (by apply Bool.eq_false_iff.2;intro hh;simp only[Qab,beq_iff_eq,decide_eq_true_eq] at hh;have:=p (by omega);omega),k7 (by omega),show m%128=m by omega,Dw ⟨by omega,by omega⟩,e7,oK (a:=a) (d:=m) (j:=7*j) a0 I Y (t _ Y (Qbb _)) (by omega),Aj ((j:Int)+1) (by omega) (by omega),<-J,a6];exact rfl
 ·obtain⟨a,i⟩:=z;obtain⟨j,k,m,pre,hi,hk,y,E,a0,I,Y,J,p⟩:=X;simp only at hz hi;exfalso;have:=V6 k m;have h2:Aa (smL n)=(j:Int)+Aa (Eo k m):=by rw[E,Az,y]
  omega
theorem Zs {l r:List Int}:A5 (l++r) (Aa l)=r:=by unfold A5 Aa<;>simp_all
theorem ZW {n most rest bad s} (n0:0<=n) (n1:n<=most) (o:most<=1152921504606846976) (c:Aa rest<=1000000):Ch (((smL n++rest,bad),s),most)=some (((rest,bad),s),n):=by
 have d:=Fm n;have g:=Az (smL n) rest;have h:=Ak rest;unfold Ch;try simp only
 rw[Zzq (YG n0 (by omega) c),Dw ⟨by omega,by omega⟩];try simp only
 rw[Zzn (by simp;omega),Zzp (by simp;omega),Aj n (by omega) (by omega),Zs]
theorem Gw n l:Bg (n::l)=smL n++Bg l:=rfl
theorem AfG {l rest bad s} (I:Aa l<=1000) (t:∀m∈l,0<=m/\m<=1048576) (J:Aa rest<=500000):DF (((Bg l++rest,bad),s),Aa l)=some (((rest,bad),s),l):=by
 unfold DF;try simp only
 refine Ap (λz:List Int×Int×HF=>z.2.1) (Aa l) (λz=>z.1=Ax l z.2.1/\z.2.2=((Bg (l.drop z.2.1.toNat)++rest,bad),s)) (λr=>r=some (((rest,bad),s),l)) (by omega) (by simp) (Ak l) ⟨by simp[Ax],by simp⟩ (λz o h i1=>?_) λz o v=>?_
 ·obtain⟨out,i,r⟩:=z;obtain⟨d,c⟩:=o;simp only at h i1 d c;subst c;obtain⟨n,p,g⟩:=Ai h i1;have y:=CK (l:=l) h (by omega);have X:=EH (l.drop (i+1).toNat);have E:Aa (l.drop (i+1).toNat)<=Aa l:=by unfold Aa<;>simp_all
  try simp only
  rw[Zzp (decide_eq_true i1),Fv p,Gw,Qaq,Zzq (ZW (t n g).1 (t n g).2 (by decide) (by rw[Az];omega))];try simp only
  rw[Zzp (AV (by rw[d];omega)),Aj (i+1) (by omega) (by omega)];refine ⟨rfl,?_,rfl⟩;simp only;unfold Ax at d ⊢;rw[show (i+1).toNat=i.toNat+1 by omega,Qci,d];rw[AY h] at p;rw[p];rfl
 ·obtain⟨out,i,r⟩:=z;obtain⟨d,c⟩:=o;simp only at v d c;subst v c;try simp only
  rw[Zzn (decide_eq_false (by omega)),d];unfold Ax Aa;rw[Qae,Qel,List.drop_length];exact rfl
theorem Afh {l rest bad s} (hl:Aa l<=8) (J:∀p∈l,Dq p) (hr:Aa rest<=100000):D5 ((Bg (FV l)++rest,bad),s)=some (((rest,bad),s),l):=by
 have y:=Ak l;have t:∀m:List AJ,(∀p∈m,Dq p)->Aa (Bg (m.flatMap JE))<=121*Aa m:=λm=>by
  induction m with
  |nil=>intro _;simp[Bg,Aa]
  |cons p m ih =>
   intro h;have:=ih λq X=>h q (Qak _ X);have E:=(h p (by simp)).n;have hp:=EH (JE p);have e:Aa (JE p)=3+Aa p.2.2:=by unfold JE;rw[Az];simp[Aa]
   rw[Qgd,HR,Az,CW];omega
 unfold D5;have e0:Bg (FV l)=smL (Aa l)++Bg (l.flatMap JE):=rfl;have a7:=t l J;rw[e0,Qaq,Zzq (ZW y hl (by decide) (by rw[Az];omega))];try simp only
 refine Ap (λz:List AJ×Int×HF=>z.2.1) (Aa l) (λz=>z.1=Ax l z.2.1/\z.2.2=((Bg ((l.drop z.2.1.toNat).flatMap JE)++rest,bad),s)) (λr=>r=some (((rest,bad),s),l)) (by omega) (by simp) y ⟨by simp[Ax],by simp⟩ (λz Y I i1=>?_) λz Y hz=>?_
 ·obtain⟨out,i,r⟩:=z;obtain⟨v,d⟩:=Y;simp only at I i1 v d;subst d;obtain⟨p,E,Z⟩:=Ai I i1;have g:=J p Z;have a8:=CK (l:=l) I (by omega);have aa:=t (l.drop (i+1).toNat) λq X=>J q (Qek X);have ab:Aa (l.drop (i+1).toNat)<=Aa l:=by unfold Aa;rw[Qdj];omega
  have hps:=EH p.2.2;have hc:=g.c;have a1:=g.o;have a6:=g.n;have e1:Bg (JE p)=smL p.1++(smL p.2.1++(smL (Aa p.2.2)++Bg p.2.2)):=by unfold JE;rw[HR,Gw,Gw,Gw];simp[Bg]
  have s1:=Fm p.1;have s2:=Fm p.2.1;have s3:=Fm (Aa p.2.2);try simp only
  rw[Zzp (decide_eq_true i1),Fv E,Qgd,HR,e1];simp only[Qaq];rw[Zzq (ZW (by omega) hc.2 (by decide) (by simp only[Az];omega))];try simp only
  rw[Zzq (ZW a1.1 (by omega) (by decide) (by simp only[Az];omega))];try simp only
  rw[Zzq (ZW (by omega) a6.2 (by decide) (by simp only[Az];omega))];try simp only
  rw[Zzq (AfG (by omega) g.m (by simp only[Az];omega))];try simp only
  rw[Zzp (AV (by rw[v];omega)),Aj (i+1) (by omega) (by omega)];refine ⟨rfl,?_,rfl⟩;simp only;unfold Ax at v ⊢;rw[show (i+1).toNat=i.toNat+1 by omega,Qci,v];rw[AY I] at E;rw[E];rfl
 ·obtain⟨out,i,r⟩:=z;obtain⟨v,d⟩:=Y;simp only at hz v d;subst hz d;try simp only
  rw[Zzn (decide_eq_false (by omega)),v];unfold Ax Aa;rw[Qae,Qel,List.drop_length];exact rfl
theorem SP l:bytes_Equal (l,l)=true:=by unfold bytes_Equal;simp
theorem Aec {l} (h:Aa l<=8) (d:∀p∈l,Dq p):Ir (Bg (FV l))=some (l,0):=by
 unfold Ir;have h1:=Afh (rest:=[]) (bad:=false) (s:=(0,([],([],([],([],([],(0,(0,(0,(0,(0,[]))))))))))))  h d (by simp[Aa]);rw[Qbd] at h1;rw[Zzq h1];obtain⟨b,e,o,_,g|g⟩:=Sb l λp t=>by have:=(d p t).c;omega
 ·obtain⟨rfl,_,_,rfl⟩:=g;try simp only
  rw[Zzq o];try simp only
  rw[SP,Zzn (by rfl)]
 simp_all
theorem Aed {b:List Int} (h:Aa b<=1000000):∃l e,Ir b=some (l,e)/\Aa l<=8/\∀p∈l,vW p:=by
 unfold Ir;obtain⟨t,g,l,h1,v,o,h4⟩:=Afi (b:=b) (bad:=false) (s:=(0,([],([],([],([],([],(0,(0,(0,(0,(0,[])))))))))))) h;rw[Zzq h1];obtain⟨w,e,g1,y,E⟩:=Sb l (λp d=>by have:=(h4 p d).c;omega);try simp only
 rw[Zzq g1,AK];split
 ·exact ⟨[],8,rfl,by simp[Aa],λp d=>by cases d⟩
 ·exact ⟨l,0,rfl,o,h4⟩
end Go.Proofs.YtlgpjdjcbincgaaGreatDoor
namespace Go.Proofs.YtlgpjdjcbincgaaGreatDoor
open Go.Den
theorem PZ op x y:As (Aq op .u32 x y):=by unfold Aq;simp only;show As (IntKind.u32.wrap _);rw[wrap_u32];unfold As;omega
theorem iD x:As (Vn .u32 x):=by unfold Vn;exact PZ _ _ _
theorem Ack n:As (wr .u32 n):=by rw[Pu];unfold As;omega
theorem Ad0 {x} (h:As x):0<=Aq .and .u32 x 15/\Aq .and .u32 x 15<16:=by rw[Np h ⟨by decide,by decide⟩];have:x.toNat &&& (15:Int).toNat<=15:=Qcw;omega
theorem Ahc {l} (E:Aa l<=1000000):∃v,Ke l=some v/\As v:=by
 unfold Ke;rw[Zzp (by rfl)];refine Ap (λz:Int×Int×List Int=>z.2.1) (Aa l) (λz=>Aa z.2.2=16) (λr=>∃v,r=some v/\As v) (by omega) (by simp) (Ak l) (by rfl) (λz d g i1=>?_) λz d h=>?_
 ·obtain⟨r,i,c⟩:=z;simp only at d g i1;obtain⟨b,o,_⟩:=Ai g i1;try simp only
  rw[Zzp (decide_eq_true i1),Zzq o];have h1:=Ad0 (PZ .xor r (wr .u32 b));obtain⟨t1,p,_⟩:=Ai (l:=c) h1.1 (by omega);have n1:Tm c 16 (Aq .and .u32 (Aq .xor .u32 r (wr .u32 b)) 15)=some t1:=by unfold Tm<;>simp_all
  rw[Zzq n1,Zzq p];have t:=Ad0 (PZ .xor (Aq .xor .u32 (AH .u32 r 4) t1) (wr .u32 (AH .u8 b 4)));obtain⟨t2,y,_⟩:=Ai (l:=c) t.1 (by omega);have n2:Tm c 16 (Aq .and .u32 (Aq .xor .u32 (Aq .xor .u32 (AH .u32 r 4) t1) (wr .u32 (AH .u8 b 4))) 15)=some t2:=by unfold Tm<;>simp_all
  rw[Zzq n2,Zzq y,Aj (i+1) (by omega) (by omega)];exact ⟨rfl,d⟩
 ·obtain⟨r,i,c⟩:=z;simp only at d h;subst h;try simp only
  rw[Zzn (decide_eq_false (by omega))];exact ⟨_,rfl,iD _⟩
def dR (l:List Int):Int:=(Ke l).getD 0
theorem wD {l} (c:Aa l<=1000000):Ke l=some (dR l)/\As (dR l):=by obtain⟨v,h1,d⟩:=Ahc c;unfold dR<;>simp_all
def leB (w n:Nat):List Int:=(List.range w).map λi=>((n/2 ^ (8*i)%256:Nat):Int)
theorem EF w n:Aa (leB w n)=w:=by unfold leB Aa;simp
theorem PF {w n:Nat} {i:Int} (c:0<=i) (i1:i<w):idx (leB w n) i=some ((n/2 ^ (8*i.toNat)%256:Nat):Int):=by unfold leB;rw[AY c,Qbf,Qcs (by omega)];rfl
theorem Q1 {w n}:∀b∈leB w n,0<=b/\b<=255:=λb c=>by unfold leB at c<;>grind
theorem AdJ {i} {n:Nat} (hi:8*i<=63):wr .u8 (AH .u64 (n:Int) ((8*i:Nat):Int))=((n/2 ^ (8*i)%256:Nat):Int):=by rw[L7 n _ hi,Qam,Ri];omega
theorem fI {A bad F} {w n:Nat} (Y:w<=8) (v:n<2 ^ 64) (P:A->Prop)
 (hF:∀i out y,0<=i->i<(w:Int)->Aa out=(w:Int)->y=wr .u8 (AH .u64 (n:Int) (8*i))->F (i,out)=.next (i+1,AB out i y)) (E:∃r,F ((w:Int),leB w n)=.done r/\P r):P (iter bad F Am (0,Ay (w:Int) 0)):=by
 refine Ap (λz:Int×List Int=>z.1) (w:Int) (λz=>Aa z.2=w/\∀j,0<=j->j<z.1->idx z.2 j=idx (leB w n) j) P (by omega) (by simp) (by simp) ⟨AM (by omega) _,λj d h=>absurd h (by omega)⟩ (λz o p i1=>?_) λz o t=>?_
 ·obtain⟨i,out⟩:=z;obtain⟨c,g⟩:=o;simp only at p i1 c g;rw[hF i out _ p i1 c rfl];refine ⟨rfl,by (try simp only);rw[AN];exact c,λj d h=>?_⟩;simp only at h ⊢;rw[By p (by omega)];split
  ·rename_i e;subst e;rw[PF d i1];have I:(8*j:Int)=((8*j.toNat:Nat):Int):=by omega
   rw[I,AdJ (by omega)]
  ·exact g j d (by omega)
 ·obtain⟨i,out⟩:=z;obtain⟨c,g⟩:=o;simp only at t c g;subst t;have:= Eg (by rw[EF];exact c) λj d h=>g j d (by omega);obtain⟨r,J,X⟩:=E;rw[this,J];exact X
theorem Aan {n} (h:As n):Iw (n,4)=some (leB 4 n.toNat,0):=by
 obtain⟨x,rfl⟩:=Qdi h.1;have d:x<2 ^ 32:=FD h;have g:(2:Nat) ^ 64=2 ^ 32*2 ^ 32:=by decide
 unfold Iw;try simp only
 rw[Zzn (by rfl),Zzp (by rfl),Aj (8*4) (by decide) (by decide),Zzp (by rfl)];have p:AH .u64 (x:Int) (8*4)=0:=by rw[show (8*4:Int)=((32:Nat):Int) by rfl,L7 x 32 (by decide),Qam,Nat.div_eq_of_lt d];rfl
 rw[p,Zzn (by rfl),Zzp (by rfl)];refine fI (w:=4) (n:=x) (by decide) (by omega) (λr=>r=some (leB 4 (x:Int).toNat,0)) (λi out y t i1 E v=>?_) ⟨_,Zzn (by rfl),rfl⟩;obtain⟨o,c,_⟩:=Ai (l:=out) t (by omega);try simp only
 rw[Zzp (decide_eq_true (by rw[AM (by decide)];exact i1)),Aj (8*i) (by omega) (by omega),Zzp (decide_eq_true (by omega)),Zzq c,Zzq c,Aj (i+1) (by omega) (by omega),<-v]
theorem Af3 {n} (h:Cs n):Iw (n,8)=some (leB 8 n.toNat,0):=by
 obtain⟨x,rfl⟩:=Qdi h.1;unfold Iw;try simp only
 rw[Zzn (by rfl),Zzn (by rfl),Zzp (by rfl)];refine fI (w:=8) (n:=x) (by decide) (Sy h) (λr=>r=some (leB 8 (x:Int).toNat,0)) (λi out y d i1 p g=>?_) ⟨_,Zzn (by rfl),rfl⟩;obtain⟨o,c,_⟩:=Ai (l:=out) d (by omega);try simp only
 rw[Zzp (decide_eq_true (by rw[AM (by decide)];exact i1)),Aj (8*i) (by omega) (by omega),Zzp (decide_eq_true (by omega)),Zzq c,Zzq c,Aj (i+1) (by omega) (by omega),<-g]
theorem vR {w n} (X:1<=w) (Y:w<=8) (v:n<2 ^ (8*w)) (y:n<2 ^ 63):Iv (leB w n)=some ((n:Int),0):=by
 unfold Iv;rw[EF,Zzn (by simp;omega)];refine Ap (λz:Int×Int=>z.2) (w:Int) (λz=>z.1=((n%2 ^ (8*z.2.toNat):Nat):Int)) (λr=>r=some ((n:Int),0)) (by omega) (by simp) (by simp) (by simp[Nat.mod_one]) (λz c h i1=>?_) λz c o=>?_
 ·obtain⟨a,i⟩:=z;simp only at c h i1;obtain⟨j,rfl⟩:=Qdi h;have Z:=Nat.mod_mul (x:=n) (a:=2 ^ (8*j)) (b:=256);have p:(2:Nat) ^ (8*(j+1))=2 ^ (8*j)*256:=by grind
  have E:8*(j:Int)=((8*j:Nat):Int):=by omega
  have t:n%(2 ^ (8*j)*256)<=n:=Nat.mod_le _ _;have I:n%2 ^ (8*j)<2 ^ (8*j):=Qfp _ (Nat.pow_pos (by decide));have g:((n%2 ^ (8*j):Nat):Int)+((n/2 ^ (8*j)%256:Nat):Int)*2 ^ (8*j)=((n%2 ^ (8*(j+1)):Nat):Int):=by grind
  have J:=oK (a:=((n%2 ^ (8*j):Nat):Int)) (d:=((n/2 ^ (8*j)%256:Nat):Int)) (j:=8*j) (by omega) (by grind) (by omega) (by grind) (by omega);try simp only
  rw[Zzp (decide_eq_true i1),Zzq (PF h i1),Aj (8*(j:Int)) (by omega) (by omega),Zzp (decide_eq_true (by omega)),Aj ((j:Int)+1) (by omega) (by omega)];simp only[Qae] at c ⊢;rw[Dw ⟨by omega,by omega⟩,c,E,J];refine ⟨rfl,?_⟩;simp only;rw[g,show ((j:Int)+1).toNat=j+1 by omega]
 ·obtain⟨a,i⟩:=z;simp only at c o;subst o;try simp only
  rw[Zzn (decide_eq_false (by omega)),c,Qae,Qdk v];exact rfl
def Bytes (l:List Int):Prop:=∀b∈l,0<=b/\b<=255
def Fo (x:Int):List Int:=if x=125\/x=126 then [125,x-32] else [x]
def Bj (l:List Int):List Int:=l.flatMap Fo
theorem L8 l m:Bj (l++m)=Bj l++Bj m:=by unfold Bj<;>simp_all
theorem M9 x l:Bj (x::l)=Fo x++Bj l:=rfl
theorem zQ x:1<=Aa (Fo x)/\Aa (Fo x)<=2:=by unfold Fo;split<;>simp[Aa]
theorem Ko:∀l:List Int,Aa l<=Aa (Bj l)/\Aa (Bj l)<=2*Aa l
 |[]=>by simp[Bj,Aa]
 |x::l=>by have:=Ko l;have:=zQ x;rw[M9,Az,CW];omega
theorem AdM {l}:∀b∈Bj l,b≠126:=λb c=>by unfold Bj at c;obtain⟨x,_,d⟩:=List.mem_flatMap.1 c;unfold Fo at d<;>grind
theorem Ma {α l i} {x:α} (c:0<=i) (h:idx l i=some x):Ax l (i+1)=Ax l i++[x]:=by unfold Ax;rw[show (i+1).toNat=i.toNat+1 by omega,Qci];rw[AY c] at h;rw[h];rfl
theorem SI {α:Type} {l:List α}:Ax l (Aa l)=l:=by unfold Ax Aa<;>simp_all
theorem Hd {α:Type} {l:List α}:Ax l 0=[]:=by unfold Ax;rfl
theorem Aeg {l} (Y:Aa l<=100000) (y:Bytes l):Lp l=some (Bj l):=by
 have p:=Ak l;unfold Lp;rw[Zzp (by rw[decide_eq_true p,Qap];exact WH (by omega))];refine Ap (λz:List Int×Int=>z.2) (Aa l) (λz=>z.1=Bj (Ax l z.2)) (λr=>r=some (Bj l)) (by omega) (by simp) p (by simp[Ay,Hd,Bj]) (λz d g i1=>?_) λz d t=>?_
 ·obtain⟨out,i⟩:=z;simp only at d g i1;obtain⟨x,h,E⟩:=Ai g i1;have v:=y x E;have I:=CK (l:=l) g (by omega);have J:=Ko (Ax l i);have X:Aa out<=200000:=by grind
  try simp only
  rw[Zzp (decide_eq_true i1),Zzq h,Aj (i+1) (by omega) (by omega)];by_cases c:x=125\/x=126
  ·have o:Fo x=[125,x-32]:=by unfold Fo;simp_all
   rw[Zzp (by simpa using c),Zzp (AV (by omega)),Zzp (AV (by rw[BK];omega))];refine ⟨rfl,?_⟩;simp only;rw[Ma g h,L8,d,Oo _ (by omega) (by omega)];simp[Bj,o]
  ·have o:Fo x=[x]:=by unfold Fo;simp_all
   rw[Zzn (by simpa using c),Zzp (AV (by omega))];refine ⟨rfl,?_⟩;simp only;rw[Ma g h,L8,d];simp[Bj,o]
 ·obtain⟨out,i⟩:=z;simp only at d t;subst t;try simp only
  rw[Zzn (decide_eq_false (by omega)),d,SI];exact rfl
theorem Aae {l} (t:Aa l<=100000):∃b e,FL l=some (b,e)/\Aa b<=Aa l:=by
 have d:=Ak l;unfold FL;rw[Zzp (by rw[decide_eq_true d,Qap];exact WH (by omega))];have bad:∃b e,(some ([],8):Option (List Int×Int))=some (b,e)/\Aa b<=Aa l:=⟨[],8,rfl,by simp[Aa]⟩;refine Ap (λz:List Int×Bool×Int=>z.2.2) (Aa l) (λz=>Aa z.1<=z.2.2) (λr=>∃b e,r=some (b,e)/\Aa b<=Aa l) (by omega) (by simp) d (by simp[Ay,Aa]) (λz c g i1=>?_) λz c h=>?_
 ·obtain⟨out,o,i⟩:=z;simp only at c g i1;obtain⟨x,p,v⟩:=Ai g i1;try simp only
  rw[Zzp (decide_eq_true i1),Zzq p,Aj (i+1) (by omega) (by omega),AK];split
  ·exact bad
  rw[AK];split
  ·exact bad
  rw[AK];split
  ·rw[Zzp (AV (by omega))];exact ⟨rfl,by simp only;rw[BK];omega⟩
  rw[AK];split
  ·exact ⟨rfl,by simp only;omega⟩
  rw[Zzp (AV (by omega))];exact ⟨rfl,by simp only;rw[BK];omega⟩
 ·obtain⟨out,o,i⟩:=z;simp only at c h;subst h;try simp only
  rw[Zzn (decide_eq_false (by omega)),AK];split
  ·exact bad
  ·exact ⟨out,0,rfl,c⟩
theorem Aad {l} (hl:Aa l<=40000) (hb:Bytes l):FL (Bj l)=some (l,0):=by
 have hn:=Ak l;have a7:=Ko l;unfold FL;rw[Zzp (by rw[decide_eq_true (Ak _),Qap];exact WH (by omega))];refine Ap (λz:List Int×Bool×Int=>z.2.2) (Aa (Bj l)) (λz=>∃q,l=z.1++q/\(z.2.1=false/\z.2.2=Aa (Bj z.1)\/z.2.1=true/\z.2.2=Aa (Bj z.1)+1/\∃x d,q=x::d/\(x=125\/x=126))) (λr=>r=some (l,0)) (by omega) (by simp) (by grind) ⟨l,rfl,.inl ⟨rfl,rfl⟩⟩ (λz J X i1=>?_) λz J hz=>?_
 ·obtain⟨out,sg,i⟩:=z;obtain⟨q,h,v⟩:=J;simp only at X i1 h v;have a8:Aa out<=Aa l:=by rw[h,Az];have:=Ak q;omega
  have o:Bj l=Bj out++Bj q:=by rw[h,L8]
  rcases v with ⟨rfl,hi⟩|⟨rfl,hi,x,d,rfl,E⟩
  ·cases q with
   |nil =>simp_all
   |cons x d =>
    have t:x∈l:=by simp_all
    have I:=hb x t;have g:∀y r,Bj (x::d)=y::r->idx (Bj l) i=some y:=λy r e=>by rw[o,e,DX X,if_neg (by omega),hi,Qgg];rfl
    try simp only
    by_cases c:x=125\/x=126
    ·have p:Fo x=[125,x-32]:=by unfold Fo;simp_all
     rw[Zzp (decide_eq_true i1),Zzq (g 125 ((x-32)::Bj d) (by rw[M9,p];rfl)),Zzn (by rfl),Zzn (by rfl),Zzn (by rfl),Zzp (by rfl),Aj (i+1) (by omega) (by omega)];exact ⟨rfl,x::d,h,.inr ⟨rfl,by simp_all,x,d,rfl,c⟩⟩
    ·have p:Fo x=[x]:=by unfold Fo;simp_all
     rw[Zzp (decide_eq_true i1),Zzq (g x (Bj d) (by rw[M9,p];rfl)),Zzn (by rfl),Zzn (by simp;omega),Zzn (by rfl),Zzn (by simp;omega),Zzp (AV (by omega)),Aj (i+1) (by omega) (by omega)];refine ⟨rfl,d,by simp_all,.inl ⟨rfl,?_⟩⟩;simp only;rw[L8,Az,hi];simp[Bj,p,Aa]
  ·have t:x∈l:=by simp_all
   have I:=hb x t;have p:Fo x=[125,x-32]:=by unfold Fo;rw[if_pos E]
   have g:idx (Bj l) i=some (x-32):=by rw[o,M9,p,DX X,if_neg (by omega),hi,show Aa (Bj out)+1-Aa (Bj out)=1 by omega];rfl
   have Y:(true&&!x-32==93&&!x-32==94)=false:=by rcases E with rfl|rfl<;>rfl
   have e2:wr .u8 (x-32+32)=x:=by rw[show x-32+32=x by omega];exact Oo _ (by omega) (by omega)
   try simp only
   rw[Zzp (decide_eq_true i1),Zzq g,Zzn Y,Zzn (by rcases E with rfl|rfl<;>rfl),Zzp rfl,e2,Zzp (AV (by omega)),Aj (i+1) (by omega) (by omega)];refine ⟨rfl,d,by simp only;rw[h];simp,.inl ⟨rfl,?_⟩⟩;simp only;rw[L8,Az,hi];simp[Bj,p,Aa];omega
 ·obtain⟨out,sg,i⟩:=z;obtain⟨q,h,v⟩:=J;simp only at hz h v;have o:Bj l=Bj out++Bj q:=by rw[h,L8]
  have Z:=Ko q;have a6:Aa (Bj l)=Aa (Bj out)+Aa (Bj q):=by rw[o,Az]
  rcases v with ⟨rfl,hi⟩|⟨rfl,hi,x,d,rfl,E⟩
  ·have a1:q=[]:=by
    cases q with
    |nil=>rfl
    |cons x d=>rw[CW] at Z;have:=Ak d;omega
   subst a1;rw[Qbd] at h;subst h;try simp only
   rw[Zzn (decide_eq_false (by omega))];exact rfl
  ·exfalso;have p:Fo x=[125,x-32]:=by unfold Fo;rw[if_pos E]
   have:Aa (Bj (x::d))=2+Aa (Bj d):=by rw[M9,p,Az];rfl
   have:=Ak (Bj d);omega
end Go.Proofs.YtlgpjdjcbincgaaGreatDoor
namespace Go.Proofs.YtlgpjdjcbincgaaGreatDoor
open Go.Den
theorem LK {l} (h:Aa l<=1000000):Di l=some l:=by unfold Di;rw[Zzp (by rw[Qap];exact room_le (by omega))];rfl
theorem U5 {l} (h:Aa l<=1000000):FJ l=some l:=by unfold FJ;rw[Zzp (by rw[Qap];exact room_le (by omega))];rfl
structure FA (m:CM):Prop where
 seq:As m.2.1
 body:Aa m.2.2<=512
theorem Aak {l} (p:Aa l<=100000):∃m e,GO l=some (m,e)/\(e=0->FA m):=by
 have t:=Ak l;unfold GO;rw[Aj (Aa l-4) (by omega) (by omega),AK];split
 ·exact ⟨_,_,rfl,λh=>by cases h⟩
 rename_i d;simp only[Qaj,decide_eq_true_eq,not_or,Qcb] at d;have v:=CK (l:=l) (n:=5) (by decide) (by omega);have h6:=Dt (l:=Ax l 5) (n:=1) (by decide) (by omega);have y:=Dt (l:=l) (n:=Aa l-4) (by omega) (by omega);have E:=CK (l:=l) (n:=Aa l-4) (by omega) (by omega);have I:=Dt (l:=Ax l (Aa l-4)) (n:=5) (by decide) (by omega);obtain⟨J,X,g1,u1⟩:=vS (l:=A5 (Ax l 5) 1) (by omega);obtain⟨Y,Z,g,u2⟩:=vS (l:=A5 l (Aa l-4)) (by omega);obtain⟨s1,s2⟩:=wD (l:=Ax l (Aa l-4)) (by omega);obtain⟨k,o,_⟩:=Ai (l:=l) (i:=0) (by decide) (by omega);have c:(decide (0<=Aa l-4)&&decide (Aa l-4<=Aa l))=true:=by simp;omega
 rw[Zzp (decide_eq_true (by omega)),Zzq g1,Zzp c,Zzq g,Zzp c,Zzq s1,AK];split
 ·exact ⟨_,_,rfl,λh=>by cases h⟩
 rw[Zzq o,Zzp (by simp;omega),Zzq (LK (by omega))];exact ⟨_,_,rfl,λ_=>⟨Ack _,by show Aa (A5 (Ax l (Aa l-4)) 5)<=512;omega⟩⟩
def Cz (m:CM):List Int:=m.1::[]++leB 4 m.2.1.toNat++m.2.2++leB 4 (dR (m.1::[]++leB 4 m.2.1.toNat++m.2.2)).toNat
theorem MA m:Aa (Cz m)=9+Aa m.2.2:=by unfold Cz;simp only[Az,EF];simp[Aa];omega
theorem Vo {m} (h1:0<=m.1/\m.1<=255) (d:Bytes m.2.2):Bytes (Cz m):=λb c=>by
 unfold Cz at c;simp only[Qck,Qdw,Qej,or_false] at c;rcases c with ((rfl|c)|c)|c
 ·exact h1
 ·exact Q1 b c
 ·exact d b c
 ·exact Q1 b c
theorem Acp {m} (d:FA m):KG m=some (Cz m,0):=by
 have c:=d.seq;have o:=d.body;have g:=Ak m.2.2;unfold KG;have l1:Aa (leB 4 m.2.1.toNat)=4:=EF 4 _;have l2:Aa (m.1::([]:List Int))=1:=rfl;have h:Aa (m.1::[]++leB 4 m.2.1.toNat)=5:=by rw[Az];omega
 have p:Aa (m.1::[]++leB 4 m.2.1.toNat++m.2.2)=5+Aa m.2.2:=by rw[Az,h]
 obtain⟨s1,s2⟩:=wD (l:=m.1::[]++leB 4 m.2.1.toNat++m.2.2) (by omega);rw[Zzn (decide_eq_false (by omega)),Dw ⟨c.1,by have:=c.2;omega⟩,Zzq (Aan c)];try simp only
 rw[Zzp (GX (by omega) (by omega)),Zzp (GX (by omega) (by omega)),Zzq s1,Dw ⟨s2.1,by have:=s2.2;omega⟩,Zzq (Aan s2)];try simp only
 rw[Zzp (GX (by omega) (by rw[EF];decide))];rfl
theorem Zt {n} {l m:List Int} (h:Aa l=n):A5 (l++m) n=m:=by rw[<-h];exact Zs
theorem WO {n} {l m:List Int} (h:Aa l=n):Ax (l++m) n=l:=by rw[<-h];unfold Ax Aa<;>simp_all
theorem Af0 {m} (o:FA m):GO (Cz m)=some (m,0):=by
 have c:=o.seq;have I:=o.body;have y:=Ak m.2.2;have p:=MA m;have l1:Aa (leB 4 m.2.1.toNat)=4:=EF 4 _;have l2:Aa (m.1::([]:List Int))=1:=rfl;have d:Aa (m.1::[]++leB 4 m.2.1.toNat)=5:=by rw[Az];omega
 have J:Aa (m.1::[]++leB 4 m.2.1.toNat++m.2.2)=5+Aa m.2.2:=by rw[Az,d]
 obtain⟨s1,s2⟩:=wD (l:=m.1::[]++leB 4 m.2.1.toNat++m.2.2) (by omega);have t1:Ax (Cz m) (Aa (Cz m)-4)=m.1::[]++leB 4 m.2.1.toNat++m.2.2:=WO (by omega);have t2:A5 (Cz m) (Aa (Cz m)-4)=leB 4 (dR (m.1::[]++leB 4 m.2.1.toNat++m.2.2)).toNat:=Zt (by omega);have t3:Ax (Cz m) 5=m.1::[]++leB 4 m.2.1.toNat:=by unfold Cz;rw[Qaq];exact WO d
 have n1:= FD c;have n2:= FD s2;have E:(2:Nat) ^ 63=2 ^ 32*2 ^ 31:=by decide
 have g1:=vR (w:=4) (n:=m.2.1.toNat) (by decide) (by decide) (by simpa using n1) (by omega);have t:=vR (w:=4) (n:=(dR (m.1::[]++leB 4 m.2.1.toNat++m.2.2)).toNat) (by decide) (by decide) (by simpa using n2) (by omega);rw[Qax c.1] at g1;rw[Qax s2.1] at t;have g:= Dw ⟨s2.1,by omega⟩;have h:idx (Cz m) 0=some m.1:=rfl;have v:(decide (0<=Aa (Cz m)-4)&&decide (Aa (Cz m)-4<=Aa (Cz m)))=true:=by simp;omega
 unfold GO;rw[Aj (Aa (Cz m)-4) (by omega) (by omega),Zzn (by simp;omega),Zzp (decide_eq_true (by omega)),t3,Zt l2,Zzq g1,Zzp v,t2,Zzq t,Zzp v,t1,Zzq s1,g];try simp only
 rw[Zzn (by simp),Zzq h,Zzp (by simp;omega),Zt d,Zzq (LK (by omega))];have:wr .u32 m.2.1=m.2.1:=by rw[Pu];have:=c.1;have:=c.2;omega
 rw[this]
def Ep (m:CM):List Int:=126::[]++Bj (Cz m)++126::[]
theorem gE {m} (h:Aa m.2.2<=512):11<=Aa (Ep m)/\Aa (Ep m)<=1100:=by have:=Ko (Cz m);have:=MA m;have:=Ak m.2.2;unfold Ep;simp only[Az];have:Aa ((126:Int)::[])=1:=rfl;omega
theorem uG {m} (c:FA m) (h1:0<=m.1/\m.1<=255) (g:Bytes m.2.2):G6 m=some (Ep m,0):=by
 have p:=c.body;have h:=Ak m.2.2;have d:=MA m;have o:=Ko (Cz m);unfold G6;rw[Zzq (Acp c)];try simp only
 rw[Zzn (by rfl),Zzq (Aeg (by omega) (Vo h1 g)),Zzp (GX (by simp[Aa]) (by omega)),Zzp (GX (by rw[Az];simp[Aa] at *;omega) (by simp[Aa]))];rfl
def vT (l:List Int):Prop:=∀b∈l,b≠126
theorem Aai {l} (v:Aa l<=1000000):∃i,EC (l,126)=some i/\-1<=i/\i<Aa l/\(0<=i->idx l i=some 126)/\∀j,i<j->idx l j≠some 126:=by
 have y:=Ak l;have key:∃i,Fa (l,126)=some i/\-1<=i/\i<Aa l/\(0<=i->idx l i=some 126)/\∀j,i<j->idx l j≠some 126:=by
  unfold Fa;try simp only
  rw[Aj (Aa l-1) (by omega) (by omega)];refine Db (λz:Int=>-1<=z/\z<Aa l/\∀j,z<j->idx l j≠some 126) (λz=>(z+1).toNat) (λr:Option Int=>∃i,r=some i/\-1<=i/\i<Aa l/\(0<=i->idx l i=some 126)/\∀j,i<j->idx l j≠some 126) ?_ Am (Aa l-1) ⟨by omega,by omega,λj t d=>by have:=(Ag d).2.1;omega⟩ (by rw[Eh];omega);rintro z ⟨z0,g,o⟩;by_cases c:0<=z
  ·obtain⟨b,p,_⟩:=Ai c g;rw[Zzp (decide_eq_true c),Zzq p];by_cases e:b=126
   ·rw[Zzp (by simpa using e)];exact ⟨z,rfl,z0,g,λ_=>by rw[p,e],o⟩
   ·rw[Zzn (by simpa using e),Aj (z-1) (by omega) (by omega)];refine ⟨⟨by omega,by omega,λj t d=>?_⟩,by grind⟩<;>grind
  ·rw[Zzn (decide_eq_false c)];have:z = -1:=by omega
   subst this;exact ⟨-1,rfl,by omega,by omega,λh=>absurd h (by decide),o⟩
 obtain⟨i,h1,E⟩:=key;unfold EC;rw[Zzq h1]<;>simp_all
abbrev Rd:=Int×List CM×Aam
theorem AgU {l:List Int} (hl:Aa l<=16384):∃ms last,Cv l=some (ms,(last,0))/\Aa ms<=Aa l/\(∀m∈ms,FA m)/\-1<=last/\last<Aa l/\(0<=last->idx l last=some 126)/\∀j,last<j->idx l j≠some 126:=by
 have J:=Ak l;obtain⟨la,X,Y⟩:=Aai (l:=l) (by omega);unfold Cv;rw[Zzn (decide_eq_false (by omega)),Zzn (decide_eq_false (by omega))];refine Ap (λz:Rd=>z.1) (Aa l) (λz=>Aa z.2.1<=z.1/\(∀m∈z.2.1,FA m)/\Aa z.2.2.1<=1043) (λr=>∃ms last,r=some (ms,(last,0))/\Aa ms<=Aa l/\(∀m∈ms,FA m)/\-1<=last/\last<Aa l/\(0<=last->idx l last=some 126)/\∀j,last<j->idx l j≠some 126) (by omega) (by simp) J ⟨by simp[Aa],λm Z=>(by cases Z),by simp[Aa]⟩ (λz t y i1=>?_) λz t E=>?_
 ·obtain⟨i,ms,un,bg,lg,md⟩:=z;obtain⟨h1,g,o⟩:=t;simp only at y i1 h1 g o;obtain⟨b,v,_⟩:=Ai y i1;have h:=Ak un;have t0:Aa (Ax un 0)=0:=by rw[Hd];rfl
  try simp only
  rw[Zzp (decide_eq_true i1),Zzq v,Aj (i+1) (by omega) (by omega),AK];split
  ·obtain⟨c,e,q1,q2⟩:=Aae (l:=un) (by omega);rw[Zzq q1,AK];split
   ·rw[Zzp (decide_eq_true h)];exact ⟨rfl,by simp only;omega,g,by simp only;omega⟩
   ·obtain⟨m,e',p1,p2⟩:=Aak (l:=c) (by omega);try simp only
    rw[Zzq p1,AK];split
    ·rename_i p;simp only[Qab,beq_iff_eq] at p;rw[Zzp (AV (l:=ms) (by omega)),Zzp (decide_eq_true h)];refine ⟨rfl,by simp only;rw[BK];omega,λI d=>?_,by simp only;omega⟩;rcases List.mem_append.1 d with d|d
     ·exact g I d
     ·have:I=m:=by simpa using d
      subst this;exact p2 p.1.1
    ·rw[Zzp (decide_eq_true h)];exact ⟨rfl,by simp only;omega,g,by simp only;omega⟩
  ·rw[AK];split
   ·exact ⟨rfl,by simp only;omega,g,o⟩
   ·rename_i p;simp only[decide_eq_true_eq,Int.not_le] at p;rw[AK];split
    ·rw[Zzp (AV (l:=un) (by omega))];exact ⟨rfl,by simp only;omega,g,by simp only;rw[BK];omega⟩
    ·exact ⟨rfl,by simp only;omega,g,o⟩
 ·obtain⟨i,ms,un,bg,lg,md⟩:=z;obtain⟨h1,g,o⟩:=t;simp only at E h1 g o;subst E;try simp only
  rw[Zzn (decide_eq_false (by omega)),Zzq X];exact ⟨ms,la,rfl,h1,g,Y⟩
theorem SO {a b:List Int} (v:Aa a<=1000000) (E:Aa b<=1000000):BS (a::b::[])=some (a++b):=by
 have I:=Ak a;have J:=Ak b;have o:idx (a::b::[]) 0=some a:=rfl;have i1:idx (a::b::[]) 1=some b:=rfl;have l2:Aa (a::b::([]:List (List Int)))=2:=rfl;have X:∀ {σ A:Type} {bad:A} {f:σ->Step σ A} {s:σ},iter bad f Am s=match f s with | .next Y=>iter bad f (Am-1) Y | .done r=>r:=λ{σ A bad f s}=>by rw[Eh];rfl
 have grow:∀(K:List Int->Option (List Int)) (F:Int×List Int->Step (Int×List Int) (Option (List Int))) (hF:∀i out x,0<=i->i<2->Aa out<=1000000->idx (a::b::[]) i=some x->F (i,out)=.next (i+1,out++x)) (d:∀out,F (2,out)=.done (some out)),iter none F Am (0,[])=some (a++b):=λK F hF d=>by
  refine Ap (λz:Int×List Int=>z.1) 2 (λz=>z.2=if z.1=0 then [] else if z.1=1 then a else a++b) (λr=>r=some (a++b)) (by decide) (by simp) (by simp) (by simp) (λz c p k1=>?_) λz c g=>?_
  ·obtain⟨i,out⟩:=z;simp only at c p k1;have hi:i=0\/i=1:=by omega
   rcases hi with rfl|rfl
   ·simp at c;subst c;rw[hF 0 [] a (by decide) (by decide) (by simp[Aa]) o];exact ⟨rfl,by simp⟩
   ·simp at c;subst c;rw[hF 1 out b (by decide) (by decide) v i1];exact ⟨rfl,by simp⟩
  ·obtain⟨i,out⟩:=z;simp only at c g;subst g;simp at c;subst c;rw[d];exact rfl
 unfold BS;refine Ap (λz:Int×Int=>z.2) 2 (λz=>z.1=if z.2=0 then 0 else if z.2=1 then Aa a else Aa a+Aa b) (λr=>r=some (a++b)) (by decide) (by simp) (by simp) (by simp) (λz c p k1=>?_) λz c g=>?_
 ·obtain⟨s,i⟩:=z;simp only at c p k1;have hi:i=0\/i=1:=by omega
  try simp only
  rcases hi with rfl|rfl
  ·simp at c;subst c;rw[l2,Zzp (by rfl),Zzq o,Aj (0+Aa a) (by omega) (by omega),Zzn (decide_eq_false (by omega)),Aj (0+1) (by decide) (by decide)];exact ⟨rfl,by simp⟩
  ·simp at c;subst c;rw[l2,Zzp (by rfl),Zzq i1,Aj (Aa a+Aa b) (by omega) (by omega),Zzn (decide_eq_false (by omega)),Aj (1+1) (by decide) (by decide)];exact ⟨rfl,by simp⟩
 ·obtain⟨s,i⟩:=z;simp only at c g;subst g;simp at c;subst c;try simp only
  rw[l2,Zzn (by rfl),Zzn (decide_eq_false (by omega)),Aj (Aa a+Aa b-0) (by omega) (by omega),AK];have hF:∀(i:Int) (out x:List Int),0<=i->i<2->Aa out<=1000000->idx (a::b::[]) i=some x->(cnd (decide (i<2)) (Ad (idx (a::b::[]) i) (.done none) λy=>cnd (true&&AA (Aa out+Aa y) 1) (.next (wr .i64 (i+1),out++y)) (.done none)) (.done (some out)):Step (Int×List Int) (Option (List Int)))=.next (i+1,out++x):=λi out x j0 Z ho h=>by
   have t:Aa x<=1000000:=by
    have:i=0\/i=1:=by omega
    rcases this with rfl|rfl
    ·rw[o] at h;cases h;exact v
    ·rw[i1] at h;cases h;exact E
   rw[Zzp (decide_eq_true Z),Zzq h,Zzp (GX (by omega) t),Aj (i+1) (by omega) (by omega)]
  split
  ·rw[Zzp (by rw[decide_eq_true (by omega),Qap];exact room_le (by omega)),Zzp (decide_eq_true (Ak _)),Hd];exact grow (λr=>some r) _ hF λout=>by rfl
  ·exact grow (λr=>some r) _ hF λout=>by rfl
end Go.Proofs.YtlgpjdjcbincgaaGreatDoor
namespace Go.Proofs.YtlgpjdjcbincgaaGreatDoor
open Go.Den
def Jd (un:List Int):Option CM :=
 match FL un with
 |some (c,e)=>if e=0 then match GO c with
  |some (m,d)=>if d=0 then some m else none
  |none=>none else none
 |none=>none
abbrev RdS:=List CM×List Int×Bool×Bool
def EM (z:RdS) (b:Int):RdS :=
 if b=126 then (match Jd z.2.1 with|some m=>if z.2.2.1=true/\z.2.2.2=false then z.1++[m] else z.1|none=>z.1,([],(true,false)))
 else if 1043<=Aa z.2.1 then (z.1,(z.2.1,(z.2.2.1,true))) else if z.2.2.1=true then (z.1,(z.2.1++[b],(z.2.2.1,z.2.2.2))) else z
theorem pM {l} (hl:Aa l<=16384):∃last,Cv l=some ((l.foldl EM ([],([],(false,false)))).1,(last,0))/\-1<=last/\last<Aa l/\(0<=last->idx l last=some 126)/\(∀j,last<j->idx l j≠some 126)/\Aa (l.foldl EM ([],([],(false,false)))).1<=Aa l/\∀m∈(l.foldl EM ([],([],(false,false)))).1,FA m:=by
 obtain⟨ms,la,e1,c1,c2,e2⟩:=AgU hl;suffices h:Cv l=some ((l.foldl EM ([],([],(false,false)))).1,(la,0)) by simp_all
 obtain⟨t,ha,hb⟩:=Aai (l:=l) (by omega);have Y:t=la:=by grind
 subst Y;unfold Cv;rw[Zzn (decide_eq_false (by omega)),Zzn (decide_eq_false (by omega))];refine Ap (λz:Rd=>z.1) (Aa l) (λz=>Aa z.2.1<=z.1/\Aa z.2.2.1<=1043/\(z.2.1,(z.2.2.1,(z.2.2.2.1,z.2.2.2.2.1)))=(Ax l z.1).foldl EM ([],([],(false,false)))) (λr=>r=some ((l.foldl EM ([],([],(false,false)))).1,(t,0))) (by omega) (by simp) (Ak l) ⟨by simp[Aa],by simp[Aa],by simp[Hd]⟩ (λz Z i0 i1=>?_) λz Z hz=>?_
 ·obtain⟨i,ms,un,o,p,md⟩:=z;obtain⟨h1,v,h4⟩:=Z;simp only at i0 i1 h1 v h4;obtain⟨b,y,_⟩:=Ai i0 i1;have g:=Ak un;have t0:Ax un 0=[]:=Hd;have d:(Ax l (i+1)).foldl EM ([],([],(false,false)))=EM (ms,(un,(o,p))) b:=by rw[Ma i0 y,Qfb,<-h4];rfl
  have a1:=Ak ms;try simp only
  rw[Zzp (decide_eq_true i1),Zzq y,Aj (i+1) (by omega) (by omega)];by_cases c:b=126
  ·rw[Zzp (by simpa using c)];have E:EM (ms,(un,(o,p))) b=(match Jd un with|some m=>if o=true/\p=false then ms++[m] else ms|none=>ms,([],(true,false))):=by unfold EM;simp_all
   rw[E] at d;obtain⟨c',e,q1,q2⟩:=Aae (l:=un) (by omega);rw[Zzq q1,AK];split
   ·rename_i I;have I:e≠0:=by simp_all
    have J:Jd un=none:=by unfold Jd;simp_all
    rw[J] at d;rw[Zzp (decide_eq_true g),t0];exact ⟨rfl,by grind,by simp[Aa],d.symm⟩
   ·rename_i I;have I:e=0:=by simpa using I
    subst I;obtain⟨m,e',p1,p2⟩:=Aak (l:=c') (by omega);try simp only
    rw[Zzq p1];by_cases ee:e'=0
    ·subst ee;have J:Jd un=some m:=by unfold Jd;simp[q1,p1]
     rw[J] at d;by_cases X:o=true/\p=false
     ·rw[Zzp (by simp[X.1,X.2]),Zzp (AV (by omega)),Zzp (decide_eq_true g),t0];refine ⟨rfl,by simp only;rw[BK];omega,by simp[Aa],?_⟩;simp only[if_pos X] at d;exact d.symm
     ·rw[Zzn (by cases o<;>cases p<;>simp at X ⊢),Zzp (decide_eq_true g),t0];refine ⟨rfl,by simp only;omega,by simp[Aa],?_⟩;simp only[if_neg X] at d;exact d.symm
    ·have J:Jd un=none:=by unfold Jd;simp[q1,p1,ee]
     rw[J] at d;rw[Zzn (by simp[ee]),Zzp (decide_eq_true g),t0];exact ⟨rfl,by simp only;omega,by simp[Aa],d.symm⟩
  ·rw[Zzn (by simpa using c)];unfold EM at d;rw[if_neg c] at d;simp only at d;by_cases c2:1043<=Aa un
   ·rw[if_pos c2] at d;rw[Zzp (decide_eq_true c2)];exact ⟨rfl,by simp only;omega,v,d.symm⟩
   ·rw[if_neg c2] at d;rw[Zzn (decide_eq_false c2)];by_cases c3:o=true
    ·rw[if_pos c3] at d;rw[Zzp c3,Zzp (AV (by omega))];exact ⟨rfl,by simp only;omega,by simp only;rw[BK];omega,d.symm⟩
    ·rw[if_neg c3] at d;rw[Zzn (by simpa using c3)];exact ⟨rfl,by simp only;omega,v,d.symm⟩
 ·obtain⟨i,ms,un,o,p,md⟩:=z;obtain⟨h1,v,h4⟩:=Z;simp only at hz h1 v h4;subst hz;rw[SI] at h4;try simp only
  rw[Zzn (decide_eq_false (by omega)),Zzq ha,<-h4];exact rfl
theorem AeI {ms d} s:∀un:List Int,(∀b∈s,b≠126)->Aa un+Aa s<=1043->s.foldl EM (ms,(un,(true,d)))=(ms,(un++s,(true,d))):=by
 induction s with
 |nil=>simp_all
 |cons b s g =>
  intro un h1 h;rw[CW] at h;have:=Ak s;rw[Qfs];have o:EM (ms,(un,(true,d))) b=(ms,(un++[b],(true,d))):=by unfold EM;rw[if_neg (h1 b (by simp)),if_neg (by grind),if_pos rfl]
  rw[o,g (un++[b]) (λc p=>h1 c (Qak _ p)) (by rw[BK];omega)];simp
theorem Afg {m} (c:FA m) (h1:0<=m.1/\m.1<=255) (d:Bytes m.2.2):Jd (Bj (Cz m))=some m:=by have:=MA m;have:=c.body;unfold Jd;simp[Aad (by omega) (Vo h1 d),Af0 c]
theorem fF:Jd []=none:=by
 unfold Jd;have h1:FL []=some ([],0):=by have:=Aad (l:=[]) (by decide) (λb c=>by cases c);exact this
 rw[h1];rfl
theorem xT {m z} (d:FA m) (h1:0<=m.1/\m.1<=255) (h:Bytes m.2.2):(Ep m).foldl EM z=((EM z 126).1++[m],([],(true,false))):=by obtain⟨c,o⟩:∃c,EM z 126=(c,([],(true,false))):=⟨_,by unfold EM;rw[if_pos rfl]⟩;have t:=MA m;have g:=d.body;have p:=Ko (Cz m);have v:Aa ([]:List Int)=0:=rfl;unfold Ep;simp only[Qfb,Qfs,List.foldl_nil];rw[o,AeI _ [] (λb g=>AdM b g) (by omega),Qaz];unfold EM;rw[if_pos rfl];simp only[Afg d h1 h];rfl
theorem sK {i j} {l:List Int} (c:i<Aa l) (h1:∀k,j<k->idx l k≠some 126) (h0:idx l (Aa l-1)=some 126) (d:j<Aa l):j=Aa l-1:=by grind
theorem aX {m} pre:idx (pre++Ep m) (Aa (pre++Ep m)-1)=some 126:=by
 have e:pre++Ep m=pre++(126::[]++Bj (Cz m))++126::[]:=by unfold Ep;simp
 rw[e,BK];have:=Ak (pre++(126::[]++Bj (Cz m)));rw[show Aa (pre++(126::[]++Bj (Cz m)))+1-1=Aa (pre++(126::[]++Bj (Cz m))) by omega];exact Ac2
theorem AdG {m:CM} (d:FA m) (h1:0<=m.1/\m.1<=255) (h:Bytes m.2.2) {pre:List Int} (g:pre=[]\/pre=[126]):Cv (pre++Ep m)=some ([m],(Aa (pre++Ep m)-1,0)):=by
 have E:=gE d.body;have o:Aa pre<=1:=by rcases g with rfl|rfl<;>simp[Aa]
 have p:=Ak pre;have t:=Az pre (Ep m);obtain⟨la,v,I,y,a3,a4,_⟩:=pM (l:=pre++Ep m) (by omega);have c:=sK (i:=0) (by omega) a4 (aX pre) y;rw[v,c,Qfb,xT d h1 h];have:(EM (pre.foldl EM ([],([],(false,false)))) 126).1=[]:=by
  rcases g with rfl|rfl
  ·simp only[List.foldl_nil];unfold EM;rw[if_pos rfl];simp only[fF]
  ·simp only[Qfs,List.foldl_nil];unfold EM;rw[if_pos rfl,if_pos rfl];simp only[fF]
 rw[this];rfl
structure I3 (l:DJ):Prop where
 age:0<=l.2.2/\l.2.2<=1048576
 last:As l.2.1
 none:l.1=false->l.2.1=0
theorem Tq {l} (d:As l.2.1):Hu l=0↔I3 l:=by
 obtain⟨a,s,g⟩:=l;unfold Hu;rw[AK];constructor
 ·intro h;split at h
  ·cases h
  ·rename_i c;simp at c;exact ⟨⟨by simp_all,by simp_all⟩,d,λo=>c.2 o⟩
 ·intro h;rw[if_neg];have h1:=h.age;have p:=h.none<;>simp_all
def Ff:Bool->Int->List CM->(Bool×Int)×List CM
 |a,l,[]=>((a,l),[])
 |a,l,m::r=>if a=true/\m.2.1<=l then Ff a l r else ((Ff true m.2.1 r).1,m::(Ff true m.2.1 r).2)
theorem SH:∀ms a l,As l->(a=false->l=0)->(∀m∈ms,FA m)->As (Ff a l ms).1.2/\((Ff a l ms).1.1=false->(Ff a l ms).1.2=0)/\(∀m∈(Ff a l ms).2,m∈ms)/\Aa (Ff a l ms).2<=Aa ms
 |[],a,l,h1,d,_=>⟨h1,d,λm c=>(by cases c),Qbb _⟩
 |m::r,a,l,h1,d,g=>by
  rw[Ff];split
  ·obtain⟨o,p,t,v⟩:=SH r a l h1 d λm c=>g m (Qak _ c);exact ⟨o,p,λm c=>Qak _ (t m c),by rw[CW];omega⟩
  ·obtain⟨o,p,t,v⟩:=SH r true m.2.1 (g m (by simp)).seq (λh=>by cases h) λm c=>g m (Qak _ c);refine ⟨o,p,λx y=>?_,by simp only[CW];omega⟩<;>grind
def Q2 (l:DJ) (ms:List CM):DJ :=
 ((Ff l.1 l.2.1 ms).1.1,((Ff l.1 l.2.1 ms).1.2,if 0<Aa (Ff l.1 l.2.1 ms).2 then 0 else min (l.2.2+1) 1048576))
theorem nI {l ms} (c:I3 l) (d:∀m∈ms,FA m):I3 (Q2 l ms):=by obtain⟨g,h,_⟩:=SH ms l.1 l.2.1 c.last c.none d;have:=c.age;refine ⟨?_,g,h⟩;unfold Q2<;>grind
theorem Pf {l ms} (E:I3 l) (Y:∀m∈ms,FA m) (hn:Aa ms<=1024):Gu (l,ms)=some (Q2 l ms,((Ff l.1 l.2.1 ms).2,0)):=by
 have o:=Ak ms;obtain⟨h,ls,ag⟩:=l;have I:=E.age;simp only at I;unfold Gu;rw[Au,(Tq E.last).2 E,Zzn (by rfl),Zzn (decide_eq_false (by simp_all))];refine Ap (λz:Int×DJ=>z.1) (Aa ms) (λ_=>True) (λr=>r=some (Q2 (h,(ls,ag)) ms,((Ff h ls ms).2,0))) (by omega) (by simp) o trivial (λz _ p i1=>?_) λz _ t=>?_
 ·obtain⟨i,w⟩:=z;simp only at p i1;obtain⟨m,y,d⟩:=Ai p i1;try simp only
  rw[Zzp (decide_eq_true i1),Zzq y,Zzn (decide_eq_false (by have:=(Y m d).body;omega)),Aj (i+1) (by omega) (by omega)];exact ⟨rfl,trivial⟩
 ·obtain⟨i,w⟩:=z;simp only at t;subst t;try simp only
  rw[Zzn (decide_eq_false (by omega))];show _ = some _;refine Ap (λz:List CM×Int×DJ=>z.2.1) (Aa ms) (λz=>z.1++(Ff z.2.2.1 z.2.2.2.1 (ms.drop z.2.1.toNat)).2=(Ff h ls ms).2/\(Ff z.2.2.1 z.2.2.2.1 (ms.drop z.2.1.toNat)).1=(Ff h ls ms).1/\z.2.2.2.2=ag/\Aa z.1<=z.2.1) (λr=>r=some (Q2 (h,(ls,ag)) ms,((Ff h ls ms).2,0))) (by omega) (by simp) o ⟨by simp,by simp,rfl,by simp[Aa]⟩ (λz J p i1=>?_) λz J t=>?_
  ·obtain⟨tk,i,a,s,g⟩:=z;obtain⟨p1,p2,v,X⟩:=J;simp only at p i1 p1 p2 v X;subst v;obtain⟨m,y,d⟩:=Ai p i1;rw[Fv y,Ff] at p1 p2;try simp only
   rw[Zzp (decide_eq_true i1),Zzq y,Aj (i+1) (by omega) (by omega)];by_cases c:a=true/\m.2.1<=s
   ·rw[if_pos c] at p1 p2;rw[Zzp (by simp[c.1,c.2])];exact ⟨rfl,p1,p2,rfl,by grind⟩
   ·rw[if_neg c] at p1 p2;have a1:= (Y m d).body;rw[Zzn (by apply Bool.eq_false_iff.2;intro Z;simp only[Qab,decide_eq_true_eq] at Z;exact c Z),Zzq (LK (by omega)),Zzp (AV (by omega))];refine ⟨rfl,?_,p2,rfl,by simp only;rw[BK];omega⟩;simp only;rw[<-p1];simp
  ·obtain⟨tk,i,a,s,g⟩:=z;obtain⟨p1,p2,v,X⟩:=J;simp only at t p1 p2 v X;subst t v;rw[Tb (Qbb _)] at p1 p2;simp only[Ff,Qbd] at p1 p2;try simp only
   rw[Zzn (decide_eq_false (by omega)),Ds,Aj (g+1) (by omega) (by omega)];unfold Q2;simp only;rw[<-p1,<-p2];by_cases c:0<Aa tk
   ·rw[Zzp (decide_eq_true c),if_pos c];exact rfl
   ·rw[Zzn (decide_eq_false c),if_neg c];exact rfl
theorem ZM {l:DJ} {ms:List CM} (c:I3 l) (d:∀m∈ms,FA m):∃l' tk e,Gu (l,ms)=some (l',(tk,e))/\I3 l'/\(∀m∈tk,FA m)/\Aa tk<=1024:=by
 by_cases g:Aa ms<=1024
 ·obtain⟨p,t,o,v⟩:=SH ms l.1 l.2.1 c.last c.none d;exact ⟨_,_,_,Pf c d g,nI c d,λm h=>d m (o m h),by omega⟩
 ·unfold Gu;rw[Au,(Tq c.last).2 c,Zzn (by rfl),Zzp (decide_eq_true (by simp only;omega))];exact ⟨_,_,_,rfl,⟨⟨by decide,by decide⟩,⟨by decide,by decide⟩,λ_=>rfl⟩,λm h=>(by cases h),by simp[Aa]⟩
end Go.Proofs.YtlgpjdjcbincgaaGreatDoor
namespace Go.Proofs.YtlgpjdjcbincgaaGreatDoor
open Go.Den
theorem ZT {b l} (d:Aa l<=1000) (c:Aa b<=1000000) (g:∀n∈l,Cs n):IQ (b,l)=some (b++Bg l):=by unfold IQ;refine TM (λr=>r=some (b++Bg l)) d c g (λb i n t h i1 c hi o p=>?_) ⟨_,Zzn (decide_eq_false (by simp_all)),rfl⟩;exact TN (f:=λb i=>.next (b,i)) h i1 d c hi o p
theorem K8 {b bad most} (o:Aa b<=1000000) (p:0<=most) (y:most<=1152921504606846976):∃d c n,Bq ((b,bad),most)=some ((d,c),n)/\Aa d<=Aa b/\0<=n/\n<=most:=by
 obtain⟨v,k,e,h1,g,t,h4,E,h6⟩:=YH o;unfold Bq;try simp only
 rw[Zzq h1,Dw ⟨p,by omega⟩];try simp only
 rw[AK];split
 ·exact ⟨b,true,0,rfl,Qbb _,by omega,by omega⟩
 ·rename_i h;simp only[Qaj,decide_eq_true_eq,not_or,Qcb] at h;have v0:=g.1;have I:=Dt t h4;rw[Zzp (by simp;omega),Aj v (by omega) (by omega)];exact ⟨_,bad,v,rfl,by omega,g.1,h.2⟩
theorem VF {n most rest bad} (n0:0<=n) (n1:n<=most) (o:most<=1152921504606846976) (c:Aa rest<=1000000):Bq ((smL n++rest,bad),most)=some ((rest,bad),n):=by
 have d:=Fm n;have g:=Az (smL n) rest;have h:=Ak rest;unfold Bq;try simp only
 rw[Zzq (YG n0 (by omega) c),Dw ⟨by omega,by omega⟩];try simp only
 rw[Zzn (by simp;omega),Zzp (by simp;omega),Aj n (by omega) (by omega),Zs]
theorem V3 n:IS n=true↔0<=n/\n<=65535:=by unfold IS;simp
structure NU (c:FG):Prop where
 id:0<=c.1/\c.1<=65535
 plan:Dq c.2
def Ny (c:FG):List Int:=c.1::c.2.1::c.2.2.1::Aa c.2.2.2::[]++c.2.2.2
theorem Aex {c} (h:NU c):∀n∈Ny c,Cs n:=λn d=>by
 have:=h.id;have:=h.plan.c;have:=h.plan.o;have:=h.plan.n;rcases List.mem_append.1 d with d|d
 ·simp only[Qdw,Qej,or_false] at d;rcases d with rfl|rfl|rfl|rfl<;>exact Kq (by omega) (by omega)
 ·have:=h.plan.m n d;exact Kq (by omega) (by omega)
theorem dX c (I:-9223372036854775808<=c.2.1/\c.2.1<=9223372036854775807):∃b e,GC c=some (b,e)/\(e=0/\NU c/\b=Bg (Ny c)\/e≠0/\¬NU c):=by
 unfold GC;rw[Au,AK];split
 ·rename_i h;exact ⟨[],2,rfl,.inr ⟨by decide,λt=>by rw[(V3 _).2 t.id] at h;cases h⟩⟩
 rename_i v;obtain⟨b,e,h1,_,J⟩:=Sb (c.2::[]) λp y=>(show p=c.2 by simpa using y)▸I;rw[Zzq h1];rcases J with ⟨rfl,_,X,_⟩|⟨g,o⟩
 ·have d:NU c:=⟨(V3 c.1).1 (by simpa using v),X c.2 (by simp)⟩;have E:=Aex d;have Y:=d.plan.n;have Z:=EH (c.1::c.2.1::c.2.2.1::Aa c.2.2.2::[]);have a1:Aa (c.1::c.2.1::c.2.2.1::Aa c.2.2.2::[])=4:=rfl;rw[Zzn (by rfl),Zzq (ZT (by omega) (by decide) λn o=>E n (Qah _ o)),Qaz,Zzq (ZT (by omega) (by omega) λn o=>E n (Qan _ o))];exact ⟨_,0,rfl,.inl ⟨rfl,d,by unfold Ny;rw[HR]⟩⟩
 ·rw[Zzp (by simp[g])];exact ⟨[],e,rfl,.inr ⟨g,λt=>o ⟨by simp[Aa],λp y=>by
   have:p=c.2:=by simpa using y
   subst this;exact t.plan⟩⟩⟩
theorem qP {l} (hl:Aa l<=10000):∃c e,Fy l=some (c,e)/\(e=0->NU c):=by
 unfold Fy;obtain⟨I,d1,n1,h1,k1,_,r1⟩:=K8 (b:=l) (most:=65535) (by omega) (by decide) (by decide);obtain⟨J,d2,n2,X,k2,q2,r2⟩:=K8 (b:=I) (most:=1048576) (by omega) (by decide) (by decide);obtain⟨b3,d3,n3,Y,k3,_,r3⟩:=K8 (b:=J) (most:=1048576) (by omega) (by decide) (by decide);obtain⟨b4,d4,Z,h4,k4,q4,r4⟩:=K8 (b:=b3) (most:=8) (by omega) (by decide) (by decide);rw[Zzq h1];try simp only
 rw[Zzq X];try simp only
 rw[Zzq Y];try simp only
 rw[Zzq h4];try simp only
 refine Ap (λz:Int×FG×Ot=>z.1) Z (λz=>Aa z.2.2.1<=10000/\z.2.1.2.1=n2/\Aa z.2.1.2.2.2=z.1) (λr=>∃c e,r=some (c,e)/\(e=0->NU c)) (by omega) (by simp) q4 ⟨by grind,rfl,rfl⟩ (λz g i0 i1=>?_) λz g p=>?_
 ·obtain⟨i,⟨t,v,a3,a4⟩,y,rd⟩:=z;obtain⟨g1,d,o⟩:=g;simp only at i0 i1 g1 d o;obtain⟨b5,d5,n5,h5,k5,_,r5⟩:=K8 (b:=y) (most:=1048576) (by omega) (by decide) (by decide);try simp only
  rw[Zzp (decide_eq_true i1),Zzq h5];try simp only
  rw[Zzp (AV (by omega)),Aj (i+1) (by omega) (by omega)];exact ⟨rfl,by simp only;omega,d,by simp only;rw[BK];omega⟩
 ·obtain⟨i,⟨t,v,a3,a4⟩,y,rd⟩:=z;obtain⟨g1,d,o⟩:=g;simp only at p g1 d o;subst p;try simp only
  rw[Zzn (decide_eq_false (by omega))];obtain⟨b,e,p1,p2⟩:=dX (t,(v,(a3,a4))) (by simp only;omega);show ∃c e,Ad _ _ _ = some (c,e)/\_;rw[Zzq p1,AK];split
  ·exact ⟨_,8,rfl,λh=>by cases h⟩
  ·rename_i E;simp only[Qaj,not_or] at E;rcases p2 with ⟨_,p2,_⟩|⟨p2,_⟩
   ·exact ⟨_,0,rfl,λ_=>p2⟩
   ·exfalso;have:=E.1.2;simp at this;exact p2 this
theorem Aib {c:FG} (h:NU c):Fy (Bg (Ny c))=some (c,0):=by
 obtain⟨s,cy,of,sp⟩:=c;have g:=h.id;have y:=h.plan.c;have E:=h.plan.o;have I:=h.plan.n;simp only at g y E I;have d:=Ak sp;have hps:=EH sp;have J:Bg (Ny (s,(cy,(of,sp))))=smL s++(smL cy++(smL of++(smL (Aa sp)++Bg sp))):=by unfold Ny;rw[HR,Gw,Gw,Gw,Gw];simp[Bg]
 have s1:=Fm cy;have s2:=Fm of;have s3:=Fm (Aa sp);unfold Fy;rw[J,Zzq (VF g.1 g.2 (by decide) (by simp only[Az];omega))];try simp only
 rw[Zzq (VF (n:=cy) (by omega) y.2 (by decide) (by simp only[Az];omega))];try simp only
 rw[Zzq (VF (n:=of) E.1 (by omega) (by decide) (by simp only[Az];omega))];try simp only
 rw[Zzq (VF (n:=Aa sp) d I.2 (by decide) (by omega))];try simp only
 refine Ap (λz:Int×FG×Ot=>z.1) (Aa sp) (λz=>z.2=((s,(cy,(of,Ax sp z.1))),(Bg (sp.drop z.1.toNat),false))) (λr=>r=some ((s,(cy,(of,sp))),0)) (by omega) (by simp) d (by simp[Hd]) (λz p v i1=>?_) λz p X=>?_
 ·obtain⟨i,w⟩:=z;simp only at p v i1;subst p;obtain⟨n,Y,Z⟩:=Ai v i1;have hd:=Fv Y;have a1:=CK (l:=sp) v (by omega);have hp:=EH (sp.drop (i+1).toNat);have a6:Aa (sp.drop (i+1).toNat)<=Aa sp:=by unfold Aa;rw[Qdj];omega
  have t:=h.plan.m n Z;try simp only
  rw[Zzp (decide_eq_true i1),hd,Gw,Zzq (VF t.1 t.2 (by decide) (by omega))];try simp only
  rw[Zzp (AV (l:=Ax sp i) (by omega)),Aj (i+1) (by omega) (by omega),<-Ma v Y];exact ⟨rfl,rfl⟩
 ·obtain⟨i,w⟩:=z;simp only at p X;subst X p;have a7:sp.drop (Aa sp).toNat=[]:=Tb (Qbb _);obtain⟨b,e,p1,p2⟩:=dX (s,(cy,(of,sp))) (by simp only;omega);try simp only
  rw[Zzn (decide_eq_false (by omega)),SI];show Ad _ _ _ = some _;rw[Zzq p1];rcases p2 with ⟨rfl,_,rfl⟩|⟨_,p2⟩
  ·try simp only
   rw[J,SP,Zzn (by rfl)]
  ·exact absurd h p2
structure YI (r:Fs):Prop where
 id:0<=r.1/\r.1<=65535
 mode:0<=r.2.1/\r.2.1<=3
 tick:0<=r.2.2.1/\r.2.2.1<=1073741824
 n:Aa r.2.2.2<=8
 m:∀m∈r.2.2.2,0<=m/\m<=70368744177664
def KZ (r:Fs):List Int:=r.1::r.2.1::r.2.2.1::Aa r.2.2.2::[]++r.2.2.2
theorem XJ {r} (h:YI r):G7 r=some (Bg (KZ r),0):=by
 obtain⟨s,c,ti,lo⟩:=r;have g:=h.id;have I:=h.mode;have J:=h.tick;have p:=h.n;simp only at g I J p;have v:=Ak lo;unfold G7;rw[Au,Zzn (by rw[(V3 _).2 g];rfl),Zzn (decide_eq_false (by simp_all)),Zzn (decide_eq_false (by simp_all)),Zzn (decide_eq_false (by simp_all)),Zzn (decide_eq_false (by simp_all)),Aj c (by omega) (by omega)];have X:Aa (s::c::ti::Aa lo::[])=4:=rfl;have Y:=EH (s::c::ti::Aa lo::[]);rw[Zzq (ZT (l:=s::c::ti::Aa lo::[]) (by omega) (by decide) λn p=>by simp only[Qdw,Qej,or_false] at p;rcases p with rfl|rfl|rfl|rfl<;>exact Kq (by omega) (by omega)),Qaz];refine Ap (λz:Int×List Int=>z.1) (Aa lo) (λz=>z.2=Bg (s::c::ti::Aa lo::[])++Bg (Ax lo z.1)) (λr=>r=some (Bg (KZ (s,(c,(ti,lo)))),0)) (by omega) (by simp) v (by simp[Hd,Bg]) (λz d t i1=>?_) λz d E=>?_
 ·obtain⟨i,b⟩:=z;simp only at d t i1;obtain⟨n,o,y⟩:=Ai t i1;have Z:=h.m n y;have a1:=CK (l:=lo) t (by omega);have a6:=EH (Ax lo i);try simp only
  rw[Zzp (decide_eq_true i1),Zzq o,Zzn (by simp;omega),Zzq (ZT (by simp[Aa]) (by rw[d,Az];omega) λx o=>by simp at o;subst o;exact Kq (by omega) (by omega)),Aj (i+1) (by omega) (by omega)];refine ⟨rfl,?_⟩;simp only;rw[Ma t o,HR,d,Qaq]
 ·obtain⟨i,b⟩:=z;simp only at d E;subst E;try simp only
  rw[Zzn (decide_eq_false (by omega)),d,SI];show some (Bg _++Bg lo,0)=some (Bg (KZ _),0);unfold KZ;rw[HR]
theorem vU {r} (h:YI r):F0 (Bg (KZ r))=some (r,0):=by
 obtain⟨s,d,ti,lo⟩:=r;have c:=h.id;have v:=h.mode;have y:=h.tick;have I:=h.n;simp only at c v y I;have g:=Ak lo;have hps:=EH lo;have J:Bg (KZ (s,(d,(ti,lo))))=smL s++(smL d++(smL ti++(smL (Aa lo)++Bg lo))):=by unfold KZ;rw[HR,Gw,Gw,Gw,Gw];simp[Bg]
 have s1:=Fm d;have s2:=Fm ti;have s3:=Fm (Aa lo);unfold F0;rw[J,Zzq (VF c.1 c.2 (by decide) (by simp only[Az];omega))];try simp only
 rw[Zzq (VF v.1 v.2 (by decide) (by simp only[Az];omega))];try simp only
 rw[Zzq (VF y.1 y.2 (by decide) (by simp only[Az];omega))];try simp only
 rw[Zzq (VF g I (by decide) (by omega))];try simp only
 rw[Oo _ (by omega) (by omega)];refine Ap (λz:Int×Fs×Ot=>z.1) (Aa lo) (λz=>z.2=((s,(d,(ti,Ax lo z.1))),(Bg (lo.drop z.1.toNat),false))) (λr=>r=some ((s,(d,(ti,lo))),0)) (by omega) (by simp) g (by simp[Hd]) (λz o t i1=>?_) λz o X=>?_
 ·obtain⟨i,w⟩:=z;simp only at o t i1;subst o;obtain⟨n,Y,E⟩:=Ai t i1;have Z:=CK (l:=lo) t (by omega);have hp:=EH (lo.drop (i+1).toNat);have a1:Aa (lo.drop (i+1).toNat)<=Aa lo:=by unfold Aa;rw[Qdj];omega
  have p:=h.m n E;try simp only
  rw[Zzp (decide_eq_true i1),Fv Y,Gw,Zzq (VF p.1 p.2 (by decide) (by omega))];try simp only
  rw[Zzp (AV (by omega)),Aj (i+1) (by omega) (by omega),<-Ma t Y];exact ⟨rfl,rfl⟩
 ·obtain⟨i,w⟩:=z;simp only at o X;subst X o;try simp only
  rw[Zzn (decide_eq_false (by omega)),SI];show Ad _ _ _ = some _;rw[Zzq (XJ h)];try simp only
  rw[J,SP,Zzn (by rfl)]
theorem Afp {r} (h:Aa r.2.2.2<=8):Aa (Bg (KZ r))<=132:=by
 have:=EH (KZ r);have:Aa (KZ r)=4+Aa r.2.2.2:=by unfold KZ;rw[Az];rfl
 omega
theorem MP {l} (h:∀n∈l,0<=n/\n<=9223372036854775807):Bytes (Bg l):=λb c=>by
 unfold Bg at c;obtain⟨n,d,g⟩:=List.mem_flatMap.1 c;have:=h n d;have o:(128:Int) ^ (10+1)=151115727451828646838272:=by decide
 exact Xy 10 n this.1 (by omega) b g
end Go.Proofs.YtlgpjdjcbincgaaGreatDoor
namespace Go.Proofs.YtlgpjdjcbincgaaGreatDoor
open Go.Den
structure A4 (d:List Int):Prop where
 lo:128<=Aa d
 hi:Aa d<=4096
 whole:(Aa d).tmod 64=0
def DY (d:List Int):Int:=Aa d/64
theorem Ha {d} (h:A4 d):2<=DY d/\DY d<=64/\Aa d=64*DY d:=by have h1:=h.lo;have g:=h.hi;have c:=h.whole;rw[Qbq (by omega)] at c;unfold DY;omega
theorem XU {d} (h:A4 d):DS (d,())=0:=by have h1:=h.lo;have c:=h.hi;have g:=h.whole;unfold DS;rw[Zzn (by simp;omega),Zzn (by simp only[BB];simp_all)]
theorem Wy {d} (h:A4 d):C9 (d,())=(DY d,0):=by have h1:=h.lo;have c:=h.hi;unfold C9;rw[Au,XU h,Zzn (by rfl)];unfold DZ DY;rw[Qen (by grind)];have:=Aj (Aa d/64) (by omega) (by omega);unfold wr at this;rw[this]
theorem S4 {d} (t:Aa d<=9223372036854775807):GU (d,())=true↔A4 d:=by
 have h0:=Ak d;constructor
 ·intro h;have h:(DS (d,())==0&&(C9 (d,())).2==0&&decide (2<=(C9 (d,())).1))=true:=h;simp only[Qab,beq_iff_eq,decide_eq_true_eq] at h;obtain⟨⟨c,_⟩,h4⟩:=h;have o:C9 (d,())=(DZ .i64 (Aa d) 64,0):=by unfold C9;rw[Au,c,Zzn (by rfl)]
  rw[o] at h4;have h4:= h4;unfold DS at c;rw[AK] at c;split at c
  ·cases c
  rename_i h1;rw[AK] at c;split at c
  ·cases c
  rename_i g;simp only[Qaj,decide_eq_true_eq,not_or,Qcb] at h1;have g:BB (Aa d) 64=0:=by simp_all
  unfold BB at g;rw[Qbq h0] at g;unfold DZ at h4;rw[Qen h0] at h4;have p:=Aj (Aa d/64) (by omega) (by omega);unfold wr at p;rw[p] at h4;exact ⟨by omega,by omega,g⟩
 ·intro h;have o:=Ha h;unfold GU;simp only[Ao,Wy h,XU h]<;>simp_all
def blk (d:List Int) (n:Int):List Int:=Ax (A5 d (n*64)) 64
theorem Sj {d n} (h:A4 d) (n0:0<=n) (n1:n<DY d):Aa (blk d n)=64:=by have c:=Ha h;unfold blk;rw[CK (by decide)];rw[Dt (by omega) (by omega)];omega
theorem lG {d n} (h:A4 d) (n0:0<=n) (n1:n<DY d):HG ((d,()),n)=0:=by unfold HG;rw[Au,Wy h,Zzn (by simp;omega)]
theorem Aes {d n} (h:A4 d) (n0:0<=n) (n1:n<DY d):CZ ((d,()),n)=some (blk d n,0):=by
 have g:=Ha h;have o:=Dt (l:=d) (n:=n*64) (by omega) (by omega);unfold CZ;rw[Au,lG h n0 n1,Zzn (by rfl)];have c:O9 ((d,()),n)=some (blk d n):=by unfold O9;rw[Aj (n*64) (by omega) (by omega),Zzp (by simp;omega),Zzp (decide_eq_true (by grind))];rfl
 rw[Zzq c,Zzq (LK (by rw[Sj h n0 n1];decide))]
structure Ou (d:List Int) (l:List Hi):Prop where
 n:∀p∈l,0<=p.1/\p.1<DY d
 d:∀p∈l,Aa p.2=64
 m:Aa l<=64
theorem TO d:Ou d []:=⟨λp h=>(by cases h),λp h=>(by cases h),by simp[Aa]⟩
def doV (whole torn:Int):Int->List Hi->List Int->List Int
 |_,[],d=>d
 |i,p::l,d=>doV whole torn (i+1) l (if i<whole then CR d (p.1*64) 64 p.2 else if i=whole then CR d (p.1*64) 64 (Ax p.2 torn) else d)
theorem Q0 {lo n} {d s:List Int} (h0:0<=lo) (n0:0<=n) (h1:lo+n<=Aa d):Aa (CR d lo n s)=Aa d:=by unfold CR Aa at *<;>grind
theorem AaL whole torn:∀l i d,(∀p∈l,0<=p.1/\p.1*64+64<=Aa d)->Aa (doV whole torn i l d)=Aa d
 |[],i,d,_=>rfl
 |p::l,i,d,h=>by
  have g:=h p (by simp);have e:∀s,Aa (CR d (p.1*64) 64 s)=Aa d:=λs=>Q0 (by omega) (by decide) (by omega);have c:Aa (if i<whole then CR d (p.1*64) 64 p.2 else if i=whole then CR d (p.1*64) 64 (Ax p.2 torn) else d)=Aa d:=by grind
  rw[doV,AaL whole torn l (i+1) _ λq o=>by grind,c]
theorem AfW {d l whole torn} (h:A4 d) (y:Ou d l) (w0:0<=whole) (w1:whole<=Aa l) (t0:0<=torn) (t1:torn<=64):IG ((d,()),(l,(whole,torn)))=some ((doV whole torn 0 l d,()),0):=by
 have hm:=Ha h;have Y:=Ak l;have Z:=y.m;unfold IG;rw[Au,XU h,Zzn (by rfl)];refine Ap (λz:Int×Bk×Int=>z.1) (Aa l) (λz=>z.2.2=0) (λr=>r=some ((doV whole torn 0 l d,()),0)) (by omega) (by simp) Y rfl (λz t E i1=>?_) λz t I=>?_
 ·obtain⟨i,w,e⟩:=z;simp only at t E i1;subst t;obtain⟨p,X,o⟩:=Ai E i1;have v:=y.n p o;try simp only
  rw[Zzp (decide_eq_true i1),Zzq X,Au,lG h v.1 v.2,Zzn (by rfl),Zzn (by rw[y.d p o];rfl),Aj (i+1) (by omega) (by omega)];exact ⟨rfl,rfl⟩
 ·obtain⟨i,w,e⟩:=z;simp only at t I;subst I t;try simp only
  rw[Zzn (decide_eq_false (by omega)),Zzn (by simp;omega),Zzq (LK (by omega))];show _ = some _;refine Ap (λz:Int×List Int×Unit=>z.1) (Aa l) (λz=>Aa z.2.1=Aa d/\doV whole torn z.1 (l.drop z.1.toNat) z.2.1=doV whole torn 0 l d) (λr=>r=some ((doV whole torn 0 l d,()),0)) (by omega) (by simp) Y ⟨rfl,by simp⟩ (λz t E i1=>?_) λz t I=>?_
  ·obtain⟨i,c,u⟩:=z;obtain⟨g1,g⟩:=t;simp only at E i1 g1 g;obtain⟨p,X,o⟩:=Ai E i1;have v:=y.n p o;have J:S1 (Aa c,p.1)=some (p.1*64,64):=by unfold S1;simp only;rw[Aj (p.1*64) (by omega) (by omega),if_pos (by omega)]
   rw[Fv X,doV] at g;have e:∀s,Aa (CR c (p.1*64) 64 s)=Aa d:=λs=>by rw[Q0 (by omega) (by decide) (by omega)];exact g1
   try simp only
   rw[Zzp (decide_eq_true i1),Zzq X,Aj (i+1) (by omega) (by omega)];by_cases c1:i<whole
   ·rw[if_pos c1] at g;rw[Zzp (decide_eq_true c1),Zzq J];exact ⟨rfl,e _,g⟩
   ·rw[if_neg c1] at g;rw[Zzn (decide_eq_false c1)];by_cases c2:i=whole
    ·rw[if_pos c2] at g;rw[Zzp (by simpa using c2),Zzq J,Zzp (by rw[y.d p o];simp;omega)];exact ⟨rfl,e _,g⟩
    ·rw[if_neg c2] at g;rw[Zzn (by simpa using c2)];exact ⟨rfl,g1,g⟩
  ·obtain⟨i,c,u⟩:=z;obtain⟨g1,g⟩:=t;simp only at I g1 g;subst I;rw[Tb (Qbb _),doV] at g;try simp only
   rw[Zzn (decide_eq_false (by omega)),Zzn (by rfl),g];exact rfl
theorem Sq {d l whole torn} (h:A4 d) (c:Ou d l):A4 (doV whole torn 0 l d)/\Aa (doV whole torn 0 l d)=Aa d:=by
 have o:=Ha h;have e:=AaL whole torn l 0 d λp g=>by have:=c.n p g;omega
 exact ⟨⟨by omega,by omega,by simp_all⟩,e⟩
theorem Zq whole torn d:doV whole torn 0 [] d=d:=rfl
structure GG (k:Dy):Prop where
 gen:1<=k.1/\k.1<4611686018427387904
 mode:0<=k.2.1/\k.2.1<=3
 n:Aa k.2.2<=8
 plans:∀p∈k.2.2,Dq p
def B4 (k:Dy):List Int:=smL k.2.1++Bg (FV k.2.2)
def Dl (k:Dy):List Int:=smL (Aa (B4 k))++B4 k
def Jy (k:Dy) (h:Int):List Int:=Dl k++Ay (48*h-Aa (Dl k)) 0
def BH (k:Dy) (h i:Int):List Int:=leB 8 k.1.toNat++(Ax (A5 (Jy k h) (i*48)) 48++leB 8 k.1.toNat)
def B6 (k:Dy) (h:Int):List (List Int):=(List.range h.toNat).map λ(i:Nat)=>BH k h (i:Int)
theorem Jm {k h} (h0:0<=h):Aa (B6 k h)=h:=by unfold B6 Aa;simp;omega
theorem K1 {k h i} (c:0<=i) (i1:i<h):idx (B6 k h) i=some (BH k h i):=by unfold B6;rw[AY c,Qbf,Qcs (by omega),Qai,Qax c]
theorem lL {k h n}:(List.range (n+1)).map (λ(i:Nat)=>BH k h (i:Int))=(List.range n).map (λ(i:Nat)=>BH k h (i:Int))++[BH k h (n:Int)]:=by rw[Qdf,Qdy];rfl
theorem Wm l (o:Aa l<=8) (h:∀p∈l,Dq p):Aa (Bg (FV l))<=1000:=by obtain⟨b,e,_,t,d|d⟩:=Sb l (λp g=>by have:=(h p g).c;omega)<;>simp_all
theorem QZ {k} (c:GG k):1<=Aa (B4 k)/\Aa (B4 k)<=1011:=by have:=Wm k.2.2 c.n c.plans;have:=Fm k.2.1;have:=(EH (FV k.2.2)).1;unfold B4;rw[Az];omega
theorem vF {k} (c:GG k):1<=Aa (Dl k)/\Aa (Dl k)<=1022:=by have:=QZ c;have:=Fm (Aa (B4 k));unfold Dl;rw[Az];omega
theorem PK {k h} (c:Aa (Dl k)<=48*h):Aa (Jy k h)=48*h:=by unfold Jy;rw[Az,AM (by omega)];omega
def Aea (k:Dy) (h:Int) (r:Option (List (List Int)×Int)):Prop :=
 ∃b e,r=some (b,e)/\(e=0/\GG k/\Aa (Dl k)<=48*h/\b=B6 k h\/e≠0/\b=[]/\¬(GG k/\Aa (Dl k)<=48*h))
theorem SN {k h} (h1:1<=h) (h2:h<=32) (v:0<=k.2.1) (Z:∀p∈k.2.2,-9223372036854775808<=p.1/\p.1<=9223372036854775807):Aea k h (Cg (k,h)):=by
 unfold Cg;rw[Zzn (by simp;omega),AK];split
 ·rename_i I;refine ⟨[],190,rfl,.inr ⟨by decide,rfl,λd=>?_⟩⟩;have:=d.1.gen;have:=d.1.mode<;>grind
 rename_i I;simp only[Qaj,decide_eq_true_eq,not_or,Qcb,Int.not_le] at I;obtain⟨w,e,g1,g2,g⟩:=Sb k.2.2 Z;rw[Zzq g1];rcases g with ⟨rfl,g,y,rfl⟩|⟨g,y⟩
 ·have E:GG k:=⟨⟨by omega,by omega⟩,⟨v,by omega⟩,g,y⟩;have a1:=QZ E;have a6:=vF E;have a7:=Fm k.2.1;have a8:=Fm (Aa (B4 k));have ei:smL k.2.1++Bg (FV k.2.2)=B4 k:=rfl;rw[Zzn (by rfl),Dw ⟨v,by omega⟩,Zzq (bG ⟨v,by omega⟩)];try simp only
  rw[Zzp (GX (by omega) (by omega)),ei,Dw ⟨by omega,by omega⟩,Zzq (bG ⟨by omega,by omega⟩)];try simp only
  have ep:smL (Aa (B4 k))++B4 k=Dl k:=rfl;rw[Zzp (GX (by omega) (by omega)),ep,Aj (48*h) (by omega) (by omega),AK];split
  ·rename_i t;exact ⟨[],190,rfl,.inr ⟨by decide,rfl,λd=>by have:=d.2;simp at t;omega⟩⟩
  ·rename_i c;simp only[decide_eq_true_eq,Qcb] at c;rw[Aj (48*h-Aa (Dl k)) (by omega) (by omega),Zzp (by simp only[Qab,decide_eq_true_eq,Qap];exact ⟨by omega,room_le (by omega)⟩)];have ed:Dl k++Ay (48*h-Aa (Dl k)) 0=Jy k h:=rfl;have J:=PK c;have hg:Cs k.1:=⟨by omega,by omega⟩;rw[ed,Dw hg,Zzq (Af3 hg)];try simp only
   refine ⟨B6 k h,0,?_,.inl ⟨rfl,E,c,rfl⟩⟩;refine Ap (λz:List (List Int)×Int=>z.2) h (λz=>z.1=(List.range z.2.toNat).map λ(i:Nat)=>BH k h (i:Int)) (λr=>r=some (B6 k h,0)) (by omega) (by simp) (by simp only;omega) (by simp) (λz o X i1=>?_) λz o Y=>?_
   ·obtain⟨out,i⟩:=z;simp only at o X i1;have hd:=Dt (l:=Jy k h) (n:=i*48) (by omega) (by omega);have hj:GK (leB 8 k.1.toNat::Ax (A5 (Jy k h) (i*48)) 48::leB 8 k.1.toNat::[],[])=some (BH k h i):=by
     unfold GK;simp only;have e:(leB 8 k.1.toNat::Ax (A5 (Jy k h) (i*48)) 48::leB 8 k.1.toNat::[]).flatten=BH k h i:=by simp[BH]
     rw[e,if_pos ⟨by simp[Aa],by unfold BH;rw[Az,Az,EF 8 k.1.toNat,CK (l:=A5 (Jy k h) (i*48)) (n:=48) (by decide) (by omega)];decide⟩]
    have aa:Aa out=i:=by rw[o];unfold Aa;simp;omega
    try simp only
    rw[Zzp (decide_eq_true i1),Aj (i*48) (by omega) (by omega),Zzp (by simp;omega),Zzp (decide_eq_true (by omega)),Zzq hj,Zzp (AV (by omega)),Aj (i+1) (by omega) (by omega)];refine ⟨rfl,?_⟩;simp only;rw[show (i+1).toNat=i.toNat+1 by omega,lL,o,Qax X]
   ·obtain⟨out,i⟩:=z;simp only at o Y;subst Y;try simp only
    rw[Zzn (decide_eq_false (by omega)),o];exact rfl
 ·rw[Zzp (by simp[g])];exact ⟨[],e,rfl,.inr ⟨g,rfl,λd=>y ⟨d.1.n,d.1.plans⟩⟩⟩
end Go.Proofs.YtlgpjdjcbincgaaGreatDoor
namespace Go.Proofs.YtlgpjdjcbincgaaGreatDoor
open Go.Den
def Gk (bs:List (List Int)):List Int:=bs.flatMap λx=>Ax (A5 x 8) 48
theorem dC:∀bs:List (List Int),(∀b∈bs,Aa b=64)->Aa (Gk bs)=48*Aa bs
 |[],_=>by simp[Gk,Aa]
 |b::bs,h=>by have d:=dC bs λx c=>h x (Qak _ c);have g:=h b (by simp);have o:=Dt (l:=b) (n:=8) (by decide) (by omega);have p:=CK (l:=A5 b 8) (n:=48) (by decide) (by omega);have e:Gk (b::bs)=Ax (A5 b 8) 48++Gk bs:=rfl;rw[e,Az,CW];omega
theorem oA {A bad F bs} (P:A->Prop) (g:∀b∈bs,Aa b=64) (Y:Aa bs<=64)
 (hF:∀b i x,0<=i->i<Aa bs->Aa b<=10000->idx bs i=some x->Aa x=64->F (b,i)=.next (b++Ax (A5 x 8) 48,i+1)) (p:∃r,F (Gk bs,Aa bs)=.done r/\P r):P (iter bad F Am ([],0)):=by
 refine Ap (λz:List Int×Int=>z.2) (Aa bs) (λz=>z.1=Gk (Ax bs z.2)) P (by omega) (by simp) (Ak bs) (by simp[Hd,Gk]) (λz c d i1=>?_) λz c h=>?_
 ·obtain⟨b,i⟩:=z;simp only at c d i1;obtain⟨x,o,t⟩:=Ai d i1;have v:=CK (l:=bs) d (by omega);have E:=dC (Ax bs i) λy I=>g y (VI I);rw[hF b i x d i1 (by grind) o (g x t)];refine ⟨rfl,?_⟩;simp only;rw[Ma d o,c];unfold Gk<;>simp_all
 ·obtain⟨b,i⟩:=z;simp only at c h;subst h;rw[SI] at c;obtain⟨r,J,X⟩:=p;rw[c,J];exact X
theorem Yl {b} (h:Aa b<=1000):∃v,CL b=some v/\Cs v:=by obtain⟨v,e,h1,c⟩:=vS (l:=b) (by omega);unfold CL;rw[Zzq h1]<;>simp_all
def FP (bs:List (List Int)):H6:=((0,(0,[])),(bs,false))
def Aao (bs:List (List Int)) (s:H6):Prop:=s.2.1=bs/\(s.2.2=false/\s.1=(0,(0,[]))\/s.2.2=true/\GG s.1)
def YQ (bs:List (List Int)) (s:H6):Prop:=Aao bs s/\(s.2.2=true->∃k,Aa (Dl k)<=48*Aa bs/\∀i b,idx bs i=some b->bytesOf (BH k (Aa bs) i)=bytesOf b)
theorem AgX {bs} (v:∀b∈bs,Aa b=64) (h1:1<=Aa bs) (h2:Aa bs<=32):∃s,A8 (FP bs)=some s/\YQ bs s:=by
 have no:∃s,some (FP bs)=some s/\YQ bs s:=⟨_,rfl,⟨rfl,.inl ⟨rfl,rfl⟩⟩,nofun⟩;have ab:=dC bs v;unfold A8;refine oA (λr=>∃s,r=some s/\YQ bs s) v (by omega) (λb i x X i1 g hx ad=>?_) ⟨_,Zzn (decide_eq_false (by show ¬Aa bs<Aa bs;omega)),?_⟩
 ·have hd:=Dt (l:=x) (n:=8) (by decide) (by omega);have ht:=CK (l:=A5 x 8) (n:=48) (by decide) (by omega);show cnd (decide (i<Aa bs)) _ _ = _;rw[Zzp (decide_eq_true i1)];show Ad (idx bs i) _ _ = _;rw[Zzq hx,Zzp (decide_eq_true (by omega)),Zzp (decide_eq_true (by omega)),Zzp (GX (b:=b) (by omega) (by omega)),Aj (i+1) (by omega) (by omega)]
 obtain⟨Y,Z,a1⟩:=Ai (l:=bs) (i:=0) (by decide) (by omega);have a8:=v Y a1;have ae:=CK (l:=Y) (n:=8) (by decide) (by omega);obtain⟨gen,hg,a6⟩:=Yl (b:=Ax Y 8) (by omega);obtain⟨n,k,e,r1,r2,r3,r4,r5,r6⟩:=YH (l:=Gk bs) (by omega);have af:=a6.1;have E:=r2.1;show ∃s,Ad (idx bs 0) _ _ = some s/\_;rw[Zzq Z,Zzp (decide_eq_true (by omega)),Zzq hg,Zzq r1];try simp only
 rw[Aj (Aa (Gk bs)-k) (by omega) (by omega),Dw ⟨by omega,by omega⟩,AK];split
 ·exact no
 rename_i hc;simp only[Qaj,decide_eq_true_eq,not_or,Qcb,Int.not_le] at hc;have hd:=Dt r3 r4;have ah:Aa (EJ (Gk bs) k n)=n:=by rw[Qp r3 E];exact CK E (by omega)
 rw[Zzp (by simp;omega),Zzp (by simp;omega)];obtain⟨m,t,e2,q1,q2,q3,q4,q5,q6⟩:=YH (l:=EJ (Gk bs) k n) (by omega);have I:=q2.1;rw[Zzq q1];try simp only
 rw[AK];split
 ·exact no
 rename_i a7;simp only[Qaj,decide_eq_true_eq,not_or,Qcb] at a7;have aa:Aa (EJ (Gk bs) (k+t) (n-t))=n-t:=by rw[Qp (by omega) (by omega)];have:=Dt (l:=Gk bs) (n:=k+t) (by omega) (by omega);exact CK (by omega) (by omega)
 rw[Zzp (by simp;omega)];obtain⟨pl,e3,p1,p2,p3⟩:=Aed (b:=EJ (Gk bs) (k+t) (n-t)) (by omega);rw[Zzq p1,AK];split
 ·exact no
 obtain⟨ag,e4,b1,b2⟩:=SN (k:=(gen,(m,pl))) (h:=Aa bs) h1 h2 I (λp hp=>by have:=(p3 p hp).c;omega);try simp only
 rw[Oo _ (by omega) (by omega),Aj _ (by omega) (by omega)];show ∃s,Ad (Cg ((gen,(m,pl)),Aa bs)) _ _ = some s/\_;rw[Zzq b1,AK];split
 ·exact no
 rename_i o;have o:e4=0:=by simpa using o
 rcases b2 with ⟨_,b3,b4,rfl⟩|⟨b3,_⟩
 ·have g:=Jm (k:=(gen,(m,pl))) (h:=Aa bs) (by omega);try simp only
  refine Ap (λz:Int=>z) (Aa bs) (λz=>∀i b,i<z->idx bs i=some b->bytesOf (BH (gen,(m,pl)) (Aa bs) i)=bytesOf b) (λr=>∃s,r=some s/\YQ bs s) (by omega) (by simp) (by omega) (λi b hi v=>absurd (Ag v).1 (by omega)) (λi hI X i1=>?_) λi hI hz=>?_
  ·obtain⟨y,hy,_⟩:=Ai (l:=bs) X i1;rw[g,Zzp (decide_eq_true i1),Zzq (K1 X i1)];show Cq _ _ _ _ (Ad (idx bs i) _ _);rw[Zzq hy,Au,AK];split
   ·exact no
   ·rename_i J;rw[Aj (i+1) (by omega) (by omega)];refine ⟨rfl,λj b hj d=>?_⟩;by_cases ej:j=i
    ·subst ej;rw[hy] at d;cases d;unfold bytes_Equal at J;simpa using J
    ·exact hI j b (by omega) d
  ·have hz:= hz;rw[g,Zzn (decide_eq_false (by omega))];exact ⟨_,rfl,⟨rfl,.inr ⟨rfl,b3⟩⟩,λ_=>⟨_,b4,λj b d=>hI j b (by have:=(Ag d).2.1;omega) d⟩⟩
 ·exact absurd o b3
def Ar (d:List Int):Int:=DY d/2
def CX (d:List Int) (i:Int):List (List Int):=(List.range (Ar d).toNat).map λ(n:Nat)=>blk d (i*Ar d+(n:Int))
theorem FZ {d} (h:A4 d):1<=Ar d/\Ar d<=32/\2*Ar d<=DY d:=by have:=Ha h;unfold Ar;omega
theorem IB {d} (h:A4 d) i:Aa (CX d i)=Ar d:=by have:=FZ h;unfold CX Aa;simp;omega
theorem pV {d i} (h:A4 d) (hi:i=0\/i=1):∀b∈CX d i,Aa b=64:=λb c=>by have:=FZ h;unfold CX at c;obtain⟨n,g,rfl⟩:=List.mem_map.1 c;have g:=List.mem_range.1 g;rcases hi with rfl|rfl<;>exact Sj h (by omega) (by omega)
def BD (d:List Int) (i:Int):H6:=(A8 (FP (CX d i))).getD (FP [])
theorem dM {d i} (h:A4 d) (hi:i=0\/i=1):A8 (FP (CX d i))=some (BD d i)/\YQ (CX d i) (BD d i):=by
 have g:=FZ h;obtain⟨s,h1,c⟩:=AgX (pV h hi) (by rw[IB h];omega) (by rw[IB h];omega);have e:BD d i=s:=by unfold BD;simp_all
 rw[e];exact ⟨h1,c⟩
theorem PL {d i} (h:A4 d) (hi:i=0\/i=1):A8 (FP (CX d i))=some (BD d i)/\Aao (CX d i) (BD d i):=⟨(dM h hi).1,(dM h hi).2.1⟩
theorem Aa0 {d} (h:A4 d):DZ .i64 (DY d) 2=Ar d:=by have:=Ha h;have c:=Aj (DY d/2) (by omega) (by omega);unfold wr at c;unfold DZ Ar<;>grind
theorem Rf {A:Type} {bad:A} {F:Int×H6->Step (Int×H6) A} {d:List Int} (h:A4 d) {i:Int} (hi:i=0\/i=1) (P:A->Prop)
 (hF:∀(n:Int) out t g,0<=n->n<Ar d->Aa out=n->CZ ((d,()),wr .i64 (wr .i64 (i*Ar d)+n))=some (blk d (i*Ar d+n),0)->F (n,(t,(out,g)))=.next (n+1,(t,(out++blk d (i*Ar d+n)::[],g))))
 (y:∃r,F (Ar d,FP (CX d i))=.done r/\P r):P (iter bad F Am (0,((0,(0,[])),([],false)))):=by
 have g:=FZ h;refine Ap (λz:Int×H6=>z.1) (Ar d) (λz=>z.2=FP ((List.range z.1.toNat).map λ(n:Nat)=>blk d (i*Ar d+(n:Int)))) P (by omega) (by simp) (by simp only;omega) rfl (λz c o i1=>?_) λz c v=>?_
 ·obtain⟨n,w⟩:=z;simp only at c o i1;subst c;have E:wr .i64 (wr .i64 (i*Ar d)+n)=i*Ar d+n:=by
   rcases hi with rfl|rfl
   ·rw[Int.zero_mul,Aj 0 (by decide) (by decide),Aj _ (by omega) (by omega)]
   ·rw[Int.one_mul,Aj (Ar d) (by omega) (by omega),Aj (Ar d+n) (by omega) (by omega)]
  have p:CZ ((d,()),wr .i64 (wr .i64 (i*Ar d)+n))=some (blk d (i*Ar d+n),0):=by rw[E];exact Aes h (by rcases hi with rfl|rfl<;>omega) (by rcases hi with rfl|rfl<;>omega)
  unfold FP;rw[hF n _ _ _ o i1 (by unfold Aa;simp;omega) p];refine ⟨rfl,?_⟩;simp only;rw[show (n+1).toNat=n.toNat+1 by omega,Qdf,Qdy];simp only[Qcu,List.map_nil,Qax o]
 ·obtain⟨n,w⟩:=z;simp only at c v;subst v c;obtain⟨r,p,I⟩:=y;show LI P (F (Ar d,FP (CX d i)));rw[p];exact I
def TK (a b:H6):Dy×Int:=if a.2.2=true/\¬(b.2.2=true/\a.1.1<b.1.1) then (a.1,0) else if b.2.2=true then (b.1,0) else ((0,(0,[])),190)
theorem AgK g d:cnd (g.2.2&&!(d.2.2&&decide (g.1.1<d.1.1))) (some (g.1,0)) (cnd d.2.2 (some (d.1,0)) (some ((0,(0,[])),190)))=some (TK g d):=by
 obtain⟨k,bs,h⟩:=g;obtain⟨k',o,h'⟩:=d;unfold TK;simp only;by_cases c:k.1<k'.1
 ·cases h<;>cases h'<;>simp[cnd,c]
 ·cases h<;>cases h'<;>simp[cnd,c]
def Bc (d:List Int):Dy×Int:=TK (BD d 0) (BD d 1)
theorem Ky {d} (h:A4 d):E4 (d,())=some (Bc d):=by
 have I:=Ha h;have J:=FZ h;obtain⟨v,X⟩:=PL h (.inl rfl);obtain⟨y,Y⟩:=PL h (.inr rfl);unfold E4;rw[Au,Wy h,Zzn (by rfl),Zzn (decide_eq_false (by omega)),Aa0 h];have step:∀i n out g c bad (E:Step (Int×H6) (Option (Dy×Int))),0<=n->n<Ar d->Aa out=n->CZ ((d,()),wr .i64 (wr .i64 (i*Ar d)+n))=some (blk d (i*Ar d+n),0) ->
  cnd (decide (n<Ar d)) (Ad (CZ ((d,()),wr .i64 (wr .i64 (i*Ar d)+n))) bad λt=>cnd (true&&AA (Aa out+Aa (t.1::[])) 24) (.next (wr .i64 (n+1),(g,(out++t.1::[],c)))) bad) E=.next (n+1,(g,(out++blk d (i*Ar d+n)::[],c))):=λi n out g c bad E n0 n1 p o=>by
  rw[Zzp (decide_eq_true n1),Zzq o]
  try simp only
  rw[Zzp (AV (by omega)),Aj (n+1) (by omega) (by omega)]
 refine Rf h (.inl rfl) (λr=>r=some (Bc d)) (λn out g c n0 n1 p o=>step 0 n out g c _ _ n0 n1 p o) ⟨_,Zzn (decide_eq_false (by omega)),?_⟩;show Ad (A8 (FP (CX d 0))) _ _ = _;rw[Zzq v];refine Rf h (.inr rfl) (λr=>r=some (Bc d)) (λn out g c n0 n1 p o=>step 1 n out g c _ _ n0 n1 p o) ⟨_,Zzn (decide_eq_false (by omega)),?_⟩;show Ad (A8 (FP (CX d 1))) _ _ = _;rw[Zzq y];exact AgK _ _
theorem dH {d} (h:A4 d):(Bc d).2=0/\GG (Bc d).1\/(Bc d).2=190/\(Bc d).1=(0,(0,[])):=by obtain⟨_,_,c⟩:=PL h (.inl rfl);obtain⟨_,_,g⟩:=PL h (.inr rfl);unfold Bc TK<;>grind
theorem XX {α:Type} (p q:α->Bool):∀l:List α,(∀x,q x=true->p x=true)->(∃x∈l,p x=true/\q x=false)->(l.filter q).length<(l.filter p).length
 |[],_,⟨x,c,_⟩=>by cases c
 |y::l,h,⟨x,c,h1,o⟩=>by
  have le:∀m:List α,(m.filter q).length<=(m.filter p).length:=λm=>by
   induction m with
   |nil=>exact Qaa _
   |cons z m d =>
    rw[Qfk,Qfk];cases g:q z with
    |true=>rw[h z g];simpa using d
    |false =>
     cases t:p z with
     |true=>simp;omega
     |false=>simpa using d
  rw[Qfk,Qfk];rcases List.mem_cons.1 c with rfl|c
  ·rw[h1,o];have:=le l;simp;omega
  ·have d:=XX p q l h ⟨x,c,h1,o⟩;cases g:q y with
   |true=>rw[h y g];simpa using d
   |false =>
    cases t:p y with
    |true=>simp;omega
    |false=>simpa using d
def Lo (bs:List (List Int)):List Int:=bs.flatMap λb=>[(CL (Ax b 8)).getD 0,(CL (A5 b 56)).getD 0]
def QK (bs:List (List Int)) (g r:Int):Prop:=g<r/\(∀n∈Lo bs,n<4611686018427387904->n<r)/\(∃m,(m=g\/m∈Lo bs/\m<4611686018427387904)/\r<=m+33)/\∀b∈bs,idx b 56≠some (r%256)
theorem AgG {s g} (hb:∀b∈s.2.1,Aa b=64) (hn:Aa s.2.1<=32) (g0:0<=g) (g1:g<4611686018427387904):∃r,DR (s,g)=some r/\QK s.2.1 g r:=by
 obtain⟨kk,bs,hh⟩:=s;simp only at hb hn;have a1:=Ak bs;unfold DR;have pre:∀i x,idx bs i=some x->Lo (Ax bs (i+1))=Lo (Ax bs i)++[(CL (Ax x 8)).getD 0,(CL (A5 x 56)).getD 0]:=λi x X=>by rw[Ma (Ag X).1 X];unfold Lo<;>simp_all
 refine Ap (λz:Int×Int=>z.2) (Aa bs) (λz=>g<=z.1/\z.1<4611686018427387904/\(∀n∈Lo (Ax bs z.2),n<4611686018427387904->n<=z.1)/\(z.1=g\/z.1∈Lo (Ax bs z.2))) (λr=>∃q,r=some q/\QK bs g q) (by omega) (by simp) a1 ⟨Qbb _,g1,λn hn=>by simp[Hd,Lo] at hn,.inl rfl⟩ (λz Z i0 i1=>?_) λz Z hz=>?_
 ·obtain⟨m,i⟩:=z;obtain⟨q1,q2,q3,t⟩:=Z;simp only at i0 i1 q1 q2 q3 t;obtain⟨x,X,I⟩:=Ai i0 i1;have ae:=hb x I;have ht:=CK (l:=x) (n:=8) (by decide) (by omega);have hd:=Dt (l:=x) (n:=56) (by decide) (by omega);obtain⟨v,hv,a8⟩:=Yl (b:=Ax x 8) (by omega);obtain⟨w,hw,aa⟩:=Yl (b:=A5 x 56) (by omega);have af:=a8.1;have ag:=aa.1;have hp:=pre i x X;rw[hv,hw] at hp;simp only[Qbc] at hp;show Cq _ _ _ _ (cnd (decide (i<Aa bs)) _ _);rw[Zzp (decide_eq_true i1)];show Cq _ _ _ _ (Ad (idx bs i) _ _);rw[Zzq X,Zzp (decide_eq_true (by omega)),Zzq hv,Zzp (decide_eq_true (by omega)),Zzq hw];refine Ap (λz:Int×Int=>z.2) 2 (λz=>g<=z.1/\z.1<4611686018427387904/\(∀n∈Lo (Ax bs i)++Ax [v,w] z.2,n<4611686018427387904->n<=z.1)/\(z.1=g\/z.1∈Lo (Ax bs i)++Ax [v,w] z.2)) (λR=>Cq (λz:Int×Int=>z.2) (λz=>g<=z.1/\z.1<4611686018427387904/\(∀n∈Lo (Ax bs z.2),n<4611686018427387904->n<=z.1)/\(z.1=g\/z.1∈Lo (Ax bs z.2))) (λr=>∃q,r=some q/\QK bs g q) i R) (by decide) (by simp) (by simp) ⟨q1,q2,by simpa[Hd] using q3,by simpa[Hd] using t⟩ (λz Z k0 k1=>?_) λz Z hz=>?_
  ·obtain⟨m2,k⟩:=z;obtain⟨p1,p2,p3,E⟩:=Z;simp only at k0 k1 p1 p2 p3 E;have l2:Aa (v::w::([]:List Int))=2:=rfl;obtain⟨y,Y⟩:∃y,idx (v::w::[]) k=some y:=by obtain⟨y,Y,_⟩:=Ai (l:=v::w::[]) k0 (by omega)<;>simp_all
   have ah:0<=y:=by have:=(Ag Y).2.2<;>grind
   have a6:= Ma k0 Y;try simp only
   rw[l2,Zzp (decide_eq_true k1),Zzq Y,Aj (k+1) (by omega) (by omega)];by_cases c:y<4611686018427387904
   ·rw[Zzp (decide_eq_true c),Aj y (by omega) (by omega),ED];refine ⟨rfl,by omega,by omega,λn d o=>?_,?_⟩
    ·grind
    grind
   ·rw[Zzn (decide_eq_false c)];refine ⟨rfl,p1,p2,λn d o=>?_,?_⟩
    ·simp only at d ⊢;rw[a6,<-Qaq] at d;rcases List.mem_append.1 d with d|d
     ·exact p3 n d o
     ·have:n=y:=by simpa using d
      omega
    ·simp only;rw[a6,<-Qaq];rcases E with E|E
     ·exact .inl E
     ·exact .inr (Qah _ E)
  ·obtain⟨m2,k⟩:=z;obtain⟨p1,p2,p3,E⟩:=Z;simp only at hz p1 p2 p3 E;subst hz;have l2:Aa (v::w::([]:List Int))=2:=rfl;have h2:Ax [v,w] 2=[v,w]:=rfl;rw[h2,<-hp] at p3 E;try simp only
   rw[l2,Zzn (by rfl),Aj (i+1) (by omega) (by omega)];exact ⟨rfl,p1,p2,p3,E⟩
 ·obtain⟨m,i⟩:=z;obtain⟨q1,q2,q3,t⟩:=Z;simp only at hz q1 q2 q3 t;subst hz;rw[SI] at q3 t;show LI _ (cnd (decide (Aa bs<Aa bs)) _ _);rw[Zzn (decide_eq_false (by omega)),Aj (m+1) (by omega) (by omega)];show ∃q,iter none _ Am (m+1)=some q/\_;let res:= λb=>((idx b 56).getD 0-(m+1))%256;have J:∀p:List Int->Bool,(bs.filter p).length<=32:=λp=>by have:=List.length_filter_le p bs;unfold Aa at hn;omega
  have ab:m+1<=m+1/\m+1-(m+1)+((bs.filter λb=>decide (m+1-(m+1)<=res b)).length:Int)<=32:=by have:=J λb=>decide (m+1-(m+1)<=res b);exact ⟨Qbb _,by omega⟩
  refine Db (λz:Int=>m+1<=z/\z-(m+1)+((bs.filter λb=>decide (z-(m+1)<=res b)).length:Int)<=32) (λz=>(m+34-z).toNat) (λr:Option Int=>∃q,r=some q/\QK bs g q) ?_ Am (m+1) ab (by rw[Eh];omega);rintro z ⟨z0,z1⟩;have a7:(∀b∈bs,idx b 56≠some (z%256))->QK bs g z:=λhh=>⟨by omega,λn d o=>by have:=q3 n d o;omega,⟨m,by
   rcases t with t|t
   ·exact .inl t
   ·exact .inr ⟨t,q2⟩,by omega⟩,hh⟩;refine Ap (λz:Int=>z) (Aa bs) (λi=>∀j b,j<i->idx bs j=some b->idx b 56≠some (z%256)) (λR=>Round (λz:Int=>m+1<=z/\z-(m+1)+((bs.filter λb=>decide (z-(m+1)<=res b)).length:Int)<=32) (λz=>(m+34-z).toNat) (λr:Option Int=>∃q,r=some q/\QK bs g q) (m+34-z).toNat R) (by omega) (by simp) a1 (λj b hj h=>absurd (Ag h).1 (by omega)) (λi hJ i0 i1=>?_) λi hJ hz=>?_
  ·obtain⟨x,X,I⟩:=Ai i0 i1;obtain⟨y,Y,_⟩:=Ai (l:=x) (i:=56) (by decide) (by rw[hb x I];decide);show Cq _ _ _ _ (cnd (decide (i<Aa bs)) _ _);rw[Zzp (decide_eq_true i1)];show Cq _ _ _ _ (Ad (idx bs i) _ _);rw[Zzq X,Zzq Y,Ri];by_cases c:y=z%256
   ·rw[Zzp (by simpa using c),Aj (z+1) (by omega) (by omega)];have ad:res x=z-(m+1):=by show ((idx x 56).getD 0-(m+1))%256 = _;rw[Y];simp only[Qbc];omega
    have o:=XX (λb=>decide (z-(m+1)<=res b)) (λb=>decide (z+1-(m+1)<=res b)) bs λb hq=>by simp only[decide_eq_true_eq] at hq ⊢;omega ⟨x,I,by simp only[decide_eq_true_eq];omega,by simp only[decide_eq_false_iff_not];omega⟩;exact ⟨⟨by omega,by omega⟩,by show (m+34-(z+1)).toNat<(m+34-z).toNat;omega⟩
   ·rw[Zzn (by simpa using c),Aj (i+1) (by omega) (by omega)];refine ⟨rfl,λj b hj h=>?_⟩;by_cases ej:j=i
    ·subst ej;rw[X] at h;cases h;rw[Y];exact λhh=>c (Qag hh)
    ·exact hJ j b (by omega) h
  ·subst hz;show LI _ (cnd (decide (Aa bs<Aa bs)) _ _);rw[Zzn (decide_eq_false (by omega))];exact ⟨z,rfl,a7 λb h=>by obtain⟨j,hj⟩:=BZ h;exact hJ j b (Ag hj).2.1 hj⟩
end Go.Proofs.YtlgpjdjcbincgaaGreatDoor
namespace Go.Proofs.YtlgpjdjcbincgaaGreatDoor
open Go.Den
def So (d:List Int):Prop:=(BD d 0).2.2=true/\¬((BD d 1).2.2=true/\(BD d 0).1.1<(BD d 1).1.1)
open Classical in
noncomputable def toV (d:List Int):Int:=if So d then 1 else 0
open Classical in
noncomputable def N1 (d:List Int):Int:=if So d then (BD d 0).1.1 else if (BD d 1).2.2=true then (BD d 1).1.1 else 0
def CD (k:Dy) (h t:Int):List Hi:=(List.range h.toNat).map λ(i:Nat)=>(t*h+(i:Int),BH k h (i:Int))
theorem L5 {k h t} (h0:0<=h):Aa (CD k h t)=h:=by unfold CD Aa;simp;omega
theorem yU {k h t n}:(List.range (n+1)).map (λ(i:Nat)=>(t*h+(i:Int),BH k h (i:Int)))=(List.range n).map (λ(i:Nat)=>(t*h+(i:Int),BH k h (i:Int)))++[(t*h+(n:Int),BH k h (n:Int))]:=by rw[Qdf,Qdy];rfl
theorem KE {k h i} (c:Aa (Dl k)<=48*h) (d:0<=i) (i1:i<h):Aa (BH k h i)=64:=by have g:=PK c;have o:=Dt (l:=Jy k h) (n:=i*48) (by omega) (by omega);unfold BH;rw[Az,Az,EF 8 k.1.toNat,CK (l:=A5 (Jy k h) (i*48)) (n:=48) (by decide) (by omega)];rfl
theorem WM {k d t} (h:A4 d) (o:t=0\/t=1) (g:Aa (Dl k)<=48*Ar d):Ou d (CD k (Ar d) t):=by
 have v:=FZ h;refine ⟨λp c=>?_,λp c=>?_,by rw[L5 (by omega)];omega⟩;all_goals
  unfold CD at c
  obtain⟨i,hi,rfl⟩:=List.mem_map.1 c
  have hi:=List.mem_range.1 hi
  simp only
 ·grind
 ·exact KE g (by omega) (by omega)
def j4 (d:List Int) (m:Int) (l:List AJ):Prop:=GG (1,(m,l))/\Aa (Dl (1,(m,l)))<=48*Ar d
structure Kx (d:List Int) (m:Int) (l:List AJ) (ps:List Hi) (e:Int):Prop where
 ok:Ou d ps
 bad:e≠0->ps=[]/\(j4 d m l->∃r,QK (CX d (toV d)) (N1 d) r/\4611686018427387904<=r)
 good:e=0->j4 d m l/\∃r,QK (CX d (toV d)) (N1 d) r/\1<=r/\r<4611686018427387904/\ps=CD (r,(m,l)) (Ar d) (toV d)
theorem dG g c m l:Dl (g,(m,l))=Dl (c,(m,l)):=rfl
theorem AbM {k:Dy} {h t:Int} {A:Type} {bad:A} {F:List Hi×Int->Step (List Hi×Int) A} (P:A->Prop) (h1:1<=h) (I:h<=32) (o:t=0\/t=1)
 (hF:∀(out:List Hi) (i:Int) (b:List Int),0<=i->i<h->Aa out=i->idx (B6 k h) i=some b->F (out,i)=.next (out++(wr .i64 (wr .i64 (t*h)+i),b)::[],i+1)) (p:∃r,F (CD k h t,h)=.done r/\P r):P (iter bad F Am ([],0)):=by
 refine Ap (λz:List Hi×Int=>z.2) h (λz=>z.1=(List.range z.2.toNat).map λ(i:Nat)=>(t*h+(i:Int),BH k h (i:Int))) P (by omega) (by simp) (by simp only;omega) rfl (λz c d i1=>?_) λz c g=>?_
 ·obtain⟨out,i⟩:=z;simp only at c d i1;have v:wr .i64 (wr .i64 (t*h)+i)=t*h+i:=by
   rcases o with rfl|rfl
   ·rw[Int.zero_mul,Aj 0 (by decide) (by decide),Aj (0+i) (by omega) (by omega)]
   ·rw[Int.one_mul,Aj h (by omega) (by omega),Aj (h+i) (by omega) (by omega)]
  rw[hF out i _ d i1 (by rw[c];unfold Aa;simp;omega) (K1 d i1)];refine ⟨rfl,?_⟩;simp only;rw[show (i+1).toNat=i.toNat+1 by omega,yU,c,v,Qax d]
 ·obtain⟨out,i⟩:=z;simp only at c g;subst g;obtain⟨r,y,E⟩:=p;rw[c];have e:(List.range i.toNat).map (λ(j:Nat)=>(t*i+(j:Int),BH k i (j:Int)))=CD k i t:=rfl;rw[e,y];exact E
theorem AbN {S A k h t i out b bad E} {f:List Hi->Int->Step S A} (h1:1<=h) (g:h<=32) (o:0<=i) (i1:i<h) (p:Aa out=i) (d:idx (B6 k h) i=some b) :
 cnd (decide (i<Aa (B6 k h))) (Ad (idx (B6 k h) i) bad λc=>cnd (true&&AA (Aa out+Aa ((wr .i64 (wr .i64 (t*h)+i),c)::[])) 32) (f (out++(wr .i64 (wr .i64 (t*h)+i),c)::[]) (wr .i64 (i+1))) bad) E=f (out++(wr .i64 (wr .i64 (t*h)+i),b)::[]) (i+1):=by rw[Jm (by omega),Zzp (decide_eq_true i1),Zzq d,Zzp (AV (by omega)),Aj (i+1) (by omega) (by omega)]
theorem Ag8 {d m l} (h:A4 d) (m0:0<=m) (hf:∀p∈l,-9223372036854775808<=p.1/\p.1<=9223372036854775807):∃ps e,Lb ((d,()),(m,l))=some (ps,e)/\Kx d m l ps e:=by
 have hm:=Ha h;have v:=FZ h;obtain⟨a1,a2,a3⟩:=PL h (.inl rfl);obtain⟨b1,b2,b3⟩:=PL h (.inr rfl);have X:∀e:Int,e≠0->¬j4 d m l->Kx d m l [] e:=λe he hn=>⟨TO d,λ_=>⟨rfl,λv=>absurd v hn⟩,λh0=>absurd h0 he⟩;unfold Lb;rw[Au,Wy h,Zzn (by rfl),Zzn (decide_eq_false (by omega)),Aa0 h];have step:∀i n out Z I bad (E:Step (Int×H6) (Option (List Hi×Int))),0<=n->n<Ar d->Aa out=n->CZ ((d,()),wr .i64 (wr .i64 (i*Ar d)+n))=some (blk d (i*Ar d+n),0) ->
  cnd (decide (n<Ar d)) (Ad (CZ ((d,()),wr .i64 (wr .i64 (i*Ar d)+n))) bad λx4=>cnd (true&&AA (Aa out+Aa (x4.1::[])) 24) (.next (wr .i64 (n+1),(Z,(out++x4.1::[],I)))) bad) E=.next (n+1,(Z,(out++blk d (i*Ar d+n)::[],I))):=λi n out Z I bad E n0 n1 ho y=>by
  rw[Zzp (decide_eq_true n1),Zzq y]
  try simp only
  rw[Zzp (AV (by omega)),Aj (n+1) (by omega) (by omega)]
 refine Rf h (.inl rfl) (λr=>∃ps e,r=some (ps,e)/\Kx d m l ps e) (λn out Z I n0 n1 ho y=>step 0 n out Z I _ _ n0 n1 ho y) ⟨_,Zzn (decide_eq_false (by omega)),?_⟩;show ∃ps e,Ad (A8 (FP (CX d 0))) _ _ = some (ps,e)/\_;rw[Zzq a1];refine Rf h (.inr rfl) (λr=>∃ps e,r=some (ps,e)/\Kx d m l ps e) (λn out Z I n0 n1 ho y=>step 1 n out Z I _ _ n0 n1 ho y) ⟨_,Zzn (decide_eq_false (by omega)),?_⟩;show ∃ps e,Ad (A8 (FP (CX d 1))) _ _ = some (ps,e)/\_;rw[Zzq b1,AK];split
 ·rename_i hc;exact ⟨[],2,rfl,X 2 (by decide) λv=>by have:= v.1.mode.2<;>grind⟩
 rename_i ad;simp only[decide_eq_true_eq,Qcb] at ad;have a8:Aa (BD d 0).2.1=Ar d:=by rw[a2,IB h]
 rw[a8];obtain⟨w,e,p1,p2⟩:=SN (k:=(1,(m,l))) v.1 v.2.1 m0 hf;rw[Zzq p1];rcases p2 with ⟨rfl,k1,k2,rfl⟩|⟨k1,_,k2⟩
 rotate_left
 ·rw[Zzp (by simp[k1])];exact ⟨[],e,rfl,X e k1 λv=>k2 v⟩
 rw[Zzn (by rfl)];have tail:∀s g t R,t=0\/t=1->toV d=t->N1 d=g->0<=g->g<4611686018427387904->s.2.1=CX d t ->
  (∀x6,DR (s,g)=some x6->(4611686018427387904<=x6->R=some ([],190))/\(¬4611686018427387904<=x6->Cg ((x6,(m,l)),Ar d)=some (B6 (x6,(m,l)) (Ar d),0)->R=some (CD (x6,(m,l)) (Ar d) t,0)))->∃ps e,R=some (ps,e)/\Kx d m l ps e:=λs g t R ht a6 aa g0 g1 hs hR=>by
  obtain⟨r,y,hN⟩:=AgG (by rw[hs];exact pV h ht) (by rw[hs,IB h];omega) g0 g1
  rw[hs] at hN
  obtain⟨q1,q2⟩:=hR r y
  by_cases c:4611686018427387904<=r
  ·exact ⟨[],190,q1 c,TO d,λ_=>⟨rfl,λ_=>⟨r,by rw[a6,aa];exact hN,c⟩⟩,λh0=>by cases h0⟩
  ·have a7:GG (r,(m,l)):=⟨⟨by have:=hN.1<;>omega,by omega⟩,k1.mode,k1.n,k1.plans⟩;have ab:Aa (Dl (r,(m,l)))<=48*Ar d:=by rw[dG r 1];exact k2
   obtain⟨w,e,u1,u2⟩:=SN (k:=(r,(m,l))) v.1 v.2.1 m0 hf;rcases u2 with ⟨rfl,_,_,rfl⟩|⟨_,_,u2⟩
   ·exact ⟨_,0,q2 c u1,WM h ht ab,λh0=>absurd rfl h0,λ_=>⟨⟨k1,k2⟩,r,by rw[a6,aa];exact hN,a7.gen.1,a7.gen.2,by rw[a6]⟩⟩
   ·exact absurd ⟨a7,ab⟩ u2
 have fin:∀t r (w:List (List Int)×Int),t=0\/t=1->∀R,(∀x7,Cg ((r,(m,l)),Ar d)=some x7->R=iter none (λY:List Hi×Int=>cnd (decide (Y.2<Aa x7.1)) (Ad (idx x7.1 Y.2) (.done none) λx9=>cnd (true&&AA (Aa Y.1+Aa ((wr .i64 (wr .i64 (t*Ar d)+Y.2),x9)::[])) 32) (.next (Y.1++(wr .i64 (wr .i64 (t*Ar d)+Y.2),x9)::[],wr .i64 (Y.2+1))) (.done none)) (.done (some (Y.1,x7.2)))) Am ([],0))->Cg ((r,(m,l)),Ar d)=some (B6 (r,(m,l)) (Ar d),0)->R=some (CD (r,(m,l)) (Ar d) t,0):=λt r w ht R hR hB=>by rw[hR _ hB];refine AbM (λR=>R=some (CD (r,(m,l)) (Ar d) t,0)) v.1 v.2.1 ht (λout i b i0 i1 ho hb=>?_) ⟨_,Zzn (decide_eq_false (by simp only;rw[Jm (by omega)];omega)),rfl⟩;exact AbN (f:=λo i=>.next (o,i)) v.1 v.2.1 i0 i1 ho hb
 by_cases ca:So d
 ·have ae:GG (BD d 0).1:=by
   rcases a3 with ⟨a3,_⟩|⟨_,a3⟩
   ·rw[ca.1] at a3;cases a3
   ·exact a3
  have hg:=ae.gen;have J:((BD d 0).2.2&&!((BD d 1).2.2&&decide ((BD d 0).1.1<(BD d 1).1.1)))=true:=by
   rw[ca.1,Qap,Qal,Qeg,decide_eq_false_iff_not];by_cases c:(BD d 1).2.2=true
   ·exact .inr λaf=>ca.2 ⟨c,af⟩
   ·exact .inl (by simpa using c)
  rw[Zzp J];refine tail (BD d 1) (BD d 0).1.1 1 _ (.inr rfl) (by unfold toV;rw[if_pos ca]) (by unfold N1;rw[if_pos ca]) (by omega) hg.2 b2 λr y=>⟨λc=>?_,λc hB=>?_⟩
  ·rw[Zzq y,Zzp (decide_eq_true c)]
  ·rw[Zzq y,Zzn (decide_eq_false c)];exact fin 1 r ([],0) (.inr rfl) _ λx7 h7=>by rw[Zzq h7] hB
 ·have J:((BD d 0).2.2&&!((BD d 1).2.2&&decide ((BD d 0).1.1<(BD d 1).1.1)))=false:=by
   apply Bool.eq_false_iff.2;intro v;simp only[Qab,Qal,Qeg,decide_eq_false_iff_not] at v;refine ca ⟨v.1,λhc=>?_⟩;rcases v.2 with h1|h1
   ·rw[hc.1] at h1;cases h1
   ·exact h1 hc.2
  rw[Zzn J];by_cases cb:(BD d 1).2.2=true
  ·have ag:GG (BD d 1).1:=by
    rcases b3 with ⟨b3,_⟩|⟨_,b3⟩
    ·rw[cb] at b3;cases b3
    ·exact b3
   have hg:=ag.gen;rw[Zzp cb];refine tail (BD d 0) (BD d 1).1.1 0 _ (.inl rfl) (by unfold toV;rw[if_neg ca]) (by unfold N1;rw[if_neg ca,if_pos cb]) (by omega) hg.2 a2 λr y=>⟨λc=>?_,λc hB=>?_⟩
   ·rw[Zzq y,Zzp (decide_eq_true c)]
   ·rw[Zzq y,Zzn (decide_eq_false c)];exact fin 0 r ([],0) (.inl rfl) _ λx7 h7=>by rw[Zzq h7] hB
  ·rw[Zzn (Bool.eq_false_iff.2 cb)];refine tail (BD d 0) 0 0 _ (.inl rfl) (by unfold toV;rw[if_neg ca]) (by unfold N1;rw[if_neg ca,if_neg cb]) (by decide) (by decide) a2 λr y=>⟨λc=>?_,λc hB=>?_⟩
   ·rw[Zzq y,Zzp (decide_eq_true c)]
   ·rw[Zzq y,Zzn (decide_eq_false c)];exact fin 0 r ([],0) (.inl rfl) _ λx7 h7=>by rw[Zzq h7] hB
end Go.Proofs.YtlgpjdjcbincgaaGreatDoor
namespace Go.Proofs.YtlgpjdjcbincgaaGreatDoor
open Go.Den
def Uw (r:List Int):Prop:=Aa r<=2048/\(r=[]\/∃t,r=126::t/\vT t)
def UC (s:Al) (p:AJ):Prop:=D6 s p\/p=(0,(0,[]))
def Yz (g:C7):Prop:=FM g=0/\Cs g.2.2.2.2
def Px (p:Ji):Prop:=0<=p.2.2/\p.2.2<=1048576
structure HV (n:Int) (gr bu cm:List Int):Prop where
 g:Aa gr=n
 b:Aa bu=n
 c:Aa cm=n
 v:∀i,0<=i->i<n->0<=el bu i/\el bu i<=el gr i/\el gr i<=1048576/\0<=el cm i/\el cm i<=1048576
def Ct (s:Al):Int:=Aa s.2.2.2.2.2.1
def BO (s:Al):Int:=Aa s.2.2.2.2.1
structure E9 (s:Al) (x:Be):Prop where
 disk:A4 x.1.1
 now:E8 s x.2.1
 rung:Ld.Mg x.2.2.1
 seq:YP s x.2.2.2.1
 link:I3 x.2.2.2.2.1
 rest:Uw x.2.2.2.2.2.1
 told:UC s x.2.2.2.2.2.2.1
 age:0<=x.2.2.2.2.2.2.2.1/\x.2.2.2.2.2.2.2.1<=1048576
 pn:Aa x.2.2.2.2.2.2.2.2.1=Ct s
 pulse:∀p∈x.2.2.2.2.2.2.2.2.1,Px p
 eyes:Ey.Fu 0 s x.2.2.2.2.2.2.2.2.2.1=0
 gn:Aa x.2.2.2.2.2.2.2.2.2.2.1=Ct s
 gaps:∀g∈x.2.2.2.2.2.2.2.2.2.2.1,Yz g
 calls:As x.2.2.2.2.2.2.2.2.2.2.2.1/\AH .u32 x.2.2.2.2.2.2.2.2.2.2.2.1 (BO s)=0
 wrong:0<=x.2.2.2.2.2.2.2.2.2.2.2.2.1/\x.2.2.2.2.2.2.2.2.2.2.2.2.1<=1048576
 tick:0<=x.2.2.2.2.2.2.2.2.2.2.2.2.2.1/\x.2.2.2.2.2.2.2.2.2.2.2.2.2.1<=1073741824
 cnt:HV (BO s) x.2.2.2.2.2.2.2.2.2.2.2.2.2.2.1 x.2.2.2.2.2.2.2.2.2.2.2.2.2.2.2.1 x.2.2.2.2.2.2.2.2.2.2.2.2.2.2.2.2.1
 sent:As x.2.2.2.2.2.2.2.2.2.2.2.2.2.2.2.2.2
structure St (s:Al):Prop where
 f:Ca s
 ok:CB s
 chk:AD s=some 0
theorem St.so {s} (h:St s):SOK s:=sok h.f h.ok
theorem St.ph {s} (h:St s):1<=BO s/\BO s<=8:=⟨h.ok.shape.p1,h.ok.shape.p2⟩
theorem St.ne {s} (h:St s):0<=Ct s/\Ct s<=24:=⟨Ak _,h.ok.shape.e⟩
theorem Nd {p} (h:Dq p):SQ p/\-9223372036854775808<=p.2.1/\p.2.1<=9223372036854775807:=by have t:=h.c;have v:=h.o;have d:=h.n;refine ⟨⟨by omega,?_,λm g=>by have:=h.m m g;omega⟩,by omega⟩;unfold Aa at d;unfold maxLen;omega
theorem Zn {s p} (h:St s) (d:Dq p):EY (s,p)=some (Pn.CO s p,0)/\D6 s (Pn.CO s p):=by have c:=Nd d;refine ⟨?_,Pn.lU h.f h.ok⟩;rw[Pn.uS h.f (λ_=>h.ok) h.chk c.1 c.2,if_neg (by simp)]
theorem KN {s p} (h:St s) (c:D6 s p):Dq p:=by
 have N:=Pn.yT h.f h.ok c;have J:=c.len;have d:=h.ph;unfold BO at d;refine ⟨N.cyc,⟨c.offset.1,c.offset.2⟩,by omega,λm o=>?_⟩;obtain⟨i,hi⟩:=BZ o;obtain⟨t,i1,_⟩:=Ag hi;have v:=c.split i.toNat (by omega);have y:=(Pn.Kb h.f h.ok t (by omega)).1;have e:((i.toNat:Nat):Int)=i:=by omega
 rw[e,Et hi] at v;have E:Hs p i.toNat<=p.1:=by rw[Pn.Tv];have:=Pn.dQ (f:=λi=>el p.2.2 i) (b:=1048576) (λk I=>absurd I (by omega)) 0 (Qaa _);have g:=N.ends i.toNat (by have:=N.len;unfold Aa at i1;omega);unfold Pn.HJ at g;omega
 have:=N.cyc;omega
theorem Afr {l la} (h0:idx l la=some 126) (h1:∀j,la<j->idx l j≠some 126):∃t,A5 l la=126::t/\vT t:=by obtain⟨h,i1,_⟩:=Ag h0;refine ⟨l.drop (la+1).toNat,Fv h0,λb c d=>?_⟩;subst d;obtain⟨i,hi⟩:=BZ c;obtain⟨g,k1,_⟩:=Ag hi;refine h1 (la+1+i) (by omega) ?_;rw[AY g,Qcy] at hi;rw[AY (by omega),show (la+1+i).toNat=(la+1).toNat+i.toNat by omega];exact hi
theorem ZK {σ A:Type} {K:σ->A} {body} t (h:∀k,body k=k t):CT K body=K t:=h K
structure YC (s:Al) (lk:DJ) (rs:List Int) (td:AJ) (ag:Int) (b:List Int) (lk':DJ) (rs':List Int) (td':AJ) (ag':Int) (told:Bool):Prop where
 link:I3 lk'
 rest:Uw rs'
 plan:UC s td'
 age:0<=ag'/\ag'<=1048576
 yes:told=true->D6 s td'/\ag'=0
 no:told=false->td'=td/\ag'=min (ag+1) 1048576
 more:∀all ms la,all=rs++Ax b (min 8192 (Aa b))->Cv all=some (ms,(la,0))->rs'=(if 0<=la/\Aa all-la<=2048 then A5 all la else []) /\
  (ms=[]->lk'=Q2 lk []/\told=false) /\
  ∀m c,ms=[m]->m.1=2->Fy m.2.2=some (c,0)->c.1=s.1->(lk.1=true->lk.2.1<m.2.1)->told=true/\td'=Pn.CO s c.2/\lk'=Q2 lk [m]
theorem Ka n m (h0:0<=n) (h1:n<=9223372036854775806):Cw (n,m)=min (n+1) m:=by unfold Cw;rw[Ds,Aj (n+1) (by omega) (by omega)]
theorem Agx {s d now rg q rs td ag pu ey ga ca wn ti gr bu cm se ip r} (h:St s) {lk} (hx:E9 s ((d,()),(now,(rg,(q,(lk,(rs,(td,(ag,(pu,(ey,(ga,(ca,(wn,(ti,(gr,(bu,(cm,se)))))))))))))))))) :
 ∃v o g p told,Hw (s,(((d,()),(now,(rg,(q,(lk,(rs,(td,(ag,(pu,(ey,(ga,(ca,(wn,(ti,(gr,(bu,(cm,se))))))))))))))))),(ip,r)))=some ((s,(((d,()),(now,(rg,(q,(v,(o,(g,(p,(pu,(ey,(ga,(ca,(wn,(ti,(gr,(bu,(cm,se))))))))))))))))),(ip,r))),told)/\YC s lk rs td ag ip.1 v o g p told:=by
 have a8:= hx.link;have af:Uw rs:=hx.rest;have ah:0<=ag/\ag<=1048576:=hx.age;obtain⟨y,ir⟩:=ip;have ao:=Ak y;have ai:=CK (l:=y) (n:=min 8192 (Aa y)) (by omega) (by omega);have aq:=af.1;have ar:=Ak rs;obtain⟨all,E⟩:∃all,all=rs++Ax y (min 8192 (Aa y)):=⟨_,rfl⟩;have au:Aa all=Aa rs+min 8192 (Aa y):=by rw[E,Az,ai]
 obtain⟨la,aa,a1,a2,a3,a4,a5,a6⟩:=pM (l:=all) (by omega);generalize (all.foldl EM ([],([],(false,false)))).1=ms at aa a5 a6;obtain⟨v,tk,e,I,aj,ak,av⟩:=ZM a8 a6;unfold Hw;try simp only
 rw[Ds _ _,Zzp (by simp;omega),Zzq (SO (by omega) (by omega)),<-E,Zzq aa];try simp only
 rw[Aj (Aa all-la) (by omega) (by omega)];obtain⟨o,Y⟩:∃o,o=if 0<=la/\Aa all-la<=2048 then A5 all la else []:=⟨_,rfl⟩;have al:Uw o:=by
  rw[Y];split
  ·next c =>
   have hd:=Dt (l:=all) c.1 (by omega);exact ⟨by omega,.inr (Afr (a3 c.1) a4)⟩
  ·exact ⟨by simp[Aa],.inl rfl⟩
 rw[ZK (s,(((d,()),(now,(rg,(q,(lk,(o,(td,(ag,(pu,(ey,(ga,(ca,(wn,(ti,(gr,(bu,(cm,se))))))))))))))))),((y,ir),r)))];rotate_left
 ·intro k;by_cases c:0<=la/\Aa all-la<=2048
  ·have hd:=Dt (l:=all) c.1 (by omega);rw[Zzp (by simp[c.1,c.2]),Zzp (by simp;omega),Zzq (U5 (by omega)),Y,if_pos c]
  ·rw[Zzn (by simp_all),Y,if_neg c]
 try simp only
 rw[Zzq I];refine Ap (λz:Bool×Int×CS=>z.2.1) (Aa tk) (λz=>∃g,z.2.2=(s,(((d,()),(now,(rg,(q,(v,(o,(g,(ag,(pu,(ey,(ga,(ca,(wn,(ti,(gr,(bu,(cm,se))))))))))))))))),((y,ir),r)))/\UC s g/\(z.1=true->D6 s g)/\(z.1=false->g=td)/\(z.2.1=0->z.1=false) /\
  ∀m c,tk=[m]->m.1=2->Fy m.2.2=some (c,0)->c.1=s.1->z.2.1=1->z.1=true/\g=Pn.CO s c.2)
  (λR=>∃v o g p told,R=some ((s,(((d,()),(now,(rg,(q,(v,(o,(g,(p,(pu,(ey,(ga,(ca,(wn,(ti,(gr,(bu,(cm,se))))))))))))))))),((y,ir),r))),told)/\YC s lk rs td ag y v o g p told) (by omega) (by simp) (Ak tk) ⟨td,rfl,hx.told,λh=>(by cases h),λ_=>rfl,λ_=>rfl,λm c _ _ _ _ Z=>by simp at Z⟩ (λz hI i0 i1=>?_) λz hI Z=>?_
 ·obtain⟨tl,i,t⟩:=z;obtain⟨g,J,h1,h2,h3,h4,h5⟩:=hI;simp only at i0 i1 J h1 h2 h3 h4 h5;subst J;obtain⟨m,hm,an⟩:=Ai i0 i1;have aw:=(ak m an).body;obtain⟨c,ce,o1,o2⟩:=qP (l:=m.2.2) (by omega);try simp only
  rw[Zzp (decide_eq_true i1),Zzq hm,Zzq o1,Aj (i+1) (by omega) (by omega)];by_cases cc:(m.1=2/\ce=0)/\c.1=s.1
  ·obtain⟨k1,k2⟩:=Zn h (o2 cc.1.2).plan;rw[Zzp (by simp[cc.1.1,cc.1.2,cc.2])];try simp only
   rw[Zzq k1];refine ⟨rfl,_,rfl,.inl k2,λ_=>k2,λX=>(by cases X),λZ=>by simp only at Z;omega,λm' c' e1 e2 e3 e4 e5=>⟨rfl,?_⟩⟩;simp only at e5;have hi:i=0:=by omega
   subst hi;rw[e1] at hm;have:= Qag hm;subst this;rw[o1] at e3;have:=(Qds (Qag e3)).1;rw[this]
  ·rw[Zzn (by apply Bool.eq_false_iff.2;intro X;simp only[Qab,beq_iff_eq] at X;exact cc X)];refine ⟨rfl,g,rfl,h1,h2,h3,λZ=>by simp only at Z;omega,λm' c' e1 e2 e3 e4 e5=>?_⟩;simp only at e5;have hi:i=0:=by omega
   subst hi;rw[e1] at hm;have:= Qag hm;subst this;rw[o1] at e3;have:=Qds (Qag e3);exact absurd ⟨⟨e2,this.2⟩,by rw[this.1];exact e4⟩ cc
 ·obtain⟨tl,i,t⟩:=z;obtain⟨g,J,h1,h2,h3,h4,h5⟩:=hI;simp only at Z J h1 h2 h3 h4 h5;subst Z J;try simp only
  rw[Zzn (decide_eq_false (by omega)),Au,Ka ag 1048576 ah.1 (by omega)];have fin:∀p,(tl=true->p=0)->(tl=false->p=min (ag+1) 1048576)->YC s lk rs td ag y v o g p tl:=λp f1 f2=>by
   refine ⟨aj,al,h1,?_,λJ=>⟨h2 J,f1 J⟩,λJ=>⟨h3 J,f2 J⟩,λab ax ay g1 g2=>?_⟩
   ·cases tl with
    |true=>have:=f1 rfl;omega
    |false=>have:=f2 rfl;omega
   ·have e1:ab=all:=by rw[g1,E]
    subst e1;rw[aa] at g2;have e2:=Qds (Qag g2);have e3:=(Qds e2.2).1;obtain⟨e2,_⟩:=e2;subst e2 e3;refine ⟨Y,λad=>?_,λm c ae q1 q2 q3 q4=>?_⟩
    ·subst ad;rw[Pf a8 (λm hm=>by cases hm) (by simp[Aa])] at I;have e4:=Qds (Qag I);refine ⟨e4.1.symm,?_⟩;have:tk=[]:=by rw[<-(Qds e4.2).1];rfl
     exact h4 (by rw[this];rfl)
    ·subst ae;rw[Pf a8 a6 (by simp[Aa])] at I;have e4:=Qds (Qag I);have a7:tk=[m]:=by rw[<-(Qds e4.2).1];simp only[Ff];rw[if_neg λX=>by have:=q4 X.1;omega]
     have h6:=h5 m c a7 q1 q2 q3 (by rw[a7];rfl);exact ⟨h6.1,h6.2,e4.1.symm⟩
  cases tl with
  |true=>rw[Zzp rfl];exact ⟨_,_,_,_,_,rfl,fin 0 (λ_=>rfl) λX=>by cases X⟩
  |false=>rw[Zzn rfl];exact ⟨_,_,_,_,_,rfl,fin _ (λX=>by cases X) λ_=>rfl⟩
end Go.Proofs.YtlgpjdjcbincgaaGreatDoor
namespace Go.Proofs.YtlgpjdjcbincgaaGreatDoor
open Go.Den
theorem Ahi a b (p:Aa a<=1000000):∃r,EK (a,b)=some r:=by
 unfold EK;by_cases c:Aa a=Aa b
 ·rw[Zzn (by simp[c])];refine Ap (λi:Int=>i) (Aa a) (λ_=>True) (λR=>∃r,R=some r) (by omega) (by omega) (Ak a) trivial (λi _ g i1=>?_) λi _ hi=>?_
  ·obtain⟨x,h,_⟩:=Ai g i1;obtain⟨y,o,_⟩:=Ai (l:=b) g (by omega);try simp only
   rw[Zzp (decide_eq_true i1),Zzq h,Zzq o,Aj (i+1) (by omega) (by omega)];by_cases d:x=y
   ·rw[Zzn (by simp[d])];exact ⟨rfl,trivial⟩
   ·rw[Zzp (by simp[d])];exact ⟨_,rfl⟩
  ·try simp only
   rw[Zzn (decide_eq_false (by omega))];exact ⟨_,rfl⟩
 ·rw[Zzp (by simp[c])]<;>simp_all
theorem AgT a b (c:Aa a.2.2<=1000000):∃r,ME (a,b)=some r:=by
 unfold ME;obtain⟨r,d⟩:=Ahi a.2.2 b.2.2 c;rw[AK];split
 ·rw[Zzq d]<;>simp_all
 simp_all
theorem Ab9 {s p} (h:St s) (d:UC s p):-9223372036854775808<=p.1/\p.1<=9223372036854775807:=by
 rcases d with d|d
 ·have:=(KN h d).c;omega
 simp_all
theorem AfQ {s d now rg q rs td ag pu ey ga ca wn ti gr bu cm se ip w r} (h:St s) {lk} (g:E9 s ((d,()),(now,(rg,(q,(lk,(rs,(td,(ag,(pu,(ey,(ga,(ca,(wn,(ti,(gr,(bu,(cm,se)))))))))))))))))) :
 ∃ps,Fj (s,(((d,()),(now,(rg,(q,(lk,(rs,(td,(ag,(pu,(ey,(ga,(ca,(wn,(ti,(gr,(bu,(cm,se))))))))))))))))),(ip,(w,r))))=some (s,(((d,()),(now,(rg,(q,(lk,(rs,(td,(ag,(pu,(ey,(ga,(ca,(wn,(ti,(gr,(bu,(cm,se))))))))))))))))),(ip,(ps,r))))/\(ps=w/\(Bc d).2=0/\Aa (Bc d).1.2.2=1\/∃e,Kx d rg.1 (td::[]) ps e):=by
 have o:= g.disk;have y:=g.rung.mode.1;simp only at y;obtain⟨ps,e,p1,p2⟩:=Ag8 (l:=td::[]) o y (λp t=>by
  rcases List.mem_cons.1 t with rfl|t
  ·exact Ab9 h g.told
  ·cases t);unfold Fj;try simp only
 rw[Zzq (Ky o)];by_cases c:((Bc d).2==0&&(Bc d).1.2.1==rg.1&&Aa (Bc d).1.2.2==1)=true
 ·rw[Zzp c];simp only[Qab,beq_iff_eq] at c;obtain⟨p,E,I⟩:=Ai (l:=(Bc d).1.2.2) (i:=0) (by omega) (by omega);have v:GG (Bc d).1:=by rcases dH o with v|v<;>simp_all
  have X:=(v.plans p I).n;obtain⟨b,J⟩:=AgT p td (by omega);rw[Zzq E,Zzq J];cases b with
  |true=>rw[Zzp rfl]<;>simp_all
  |false =>rw[Zzn rfl,Zzq p1]<;>grind
 ·rw[Zzn (Bool.eq_false_iff.2 c),Zzq p1];exact ⟨ps,rfl,.inr ⟨e,p2⟩⟩
def EU (s:Al) (m:Int) (d:List Int):Be :=
 ((d,()),(Mw s,(Dk m,((0,0),((false,(0,0)),([],((0,(0,[])),(1048576,(Ay (Ct s) (false,(false,0)),(Ay (Ct s) (false,(0,(0,(false,0)))),(Ay (Ct s) (false,(0,(0,(0,0)))),(0,(0,(0,(Ay (BO s) 0,(Ay (BO s) 0,(Ay (BO s) 0,0)))))))))))))))))
theorem mP {s d} (h:St s) (c:A4 d):Jc (s,(d,()))=some (EU s (Bc d).1.2.1 d):=by
 have o:=c.hi;have ne:=h.ne;have p:=h.ph;unfold Ct at ne;unfold BO at p;have g:=C6 (b:=40) ne.1 (by omega);have a3:=C6 (n:=Aa s.2.2.2.2.1) (b:=8) (by omega) (by omega);unfold Jc;try simp only
 rw[Zzq (Ky c),Zzq (s9 (λ_=>h.so) h.chk),if_neg (by simp),Zzq (U5 (by omega)),Au,Zzp (C6 (n:=Aa s.2.2.2.2.2.1) (b:=16) ne.1 (by omega)),Zzp g,Zzp g,Zzp a3,Zzp a3,Zzp a3];rfl
theorem nC m:Dk m=(if m=2\/m=3 then 2 else 1,(0,false)):=by unfold Dk;rw[AK]<;>grind
theorem zC m:Ld.Mg (Dk m)/\(Dk m).2.2=false/\((Dk m).1=1\/(Dk m).1=2):=by
 rw[nC];split
 ·exact ⟨⟨by simp,by simp,λh=>by cases h⟩,rfl,.inr rfl⟩
 ·exact ⟨⟨by simp,by simp,λh=>by cases h⟩,rfl,.inl rfl⟩
theorem Agg {n i} (h0:0<=i) (h1:i<n) (x:Int):el (Ay n x) i=x:=Et (IP h0 h1 x)
theorem WJ {α n} {x y:α} (h:y∈Ay n x):y=x:=(List.mem_replicate.1 h).2
theorem Aez {n} (c:0<=n):HV n (Ay n 0) (Ay n 0) (Ay n 0) :=
 ⟨AM c _,AM c _,AM c _,λi d i1=>by rw[Agg d i1];simp⟩
theorem AcU:FM (false,(0,(0,(0,0))))=0:=by decide
theorem zK {n}:AH .u32 0 n=0:=by unfold AH<;>simp_all
theorem eL {s d} (h:St s) (o:A4 d) m:E9 s (EU s m d):=by
 have ne:=h.ne;have t:=h.ph;refine ⟨o,xX h.so,(zC m).1,⟨by simp[EU],by simp only[EU];unfold BO at t;omega,by simp[EU],by simp[EU]⟩,?_,⟨by simp[EU,Aa],.inl rfl⟩,.inr rfl,by simp[EU],AM ne.1 _,λp c=>?_,?_,AM ne.1 _,λg hg=>?_,⟨by simp[EU,As],zK⟩,by simp[EU],by simp[EU],Aez (by omega),by simp[EU,As]⟩
 ·refine ⟨?_,?_,?_⟩<;>simp[EU,As]
 ·simp only[EU] at c;rw[WJ c];exact ⟨by simp,by simp⟩
 ·simp only[EU];unfold Ey.Fu;rw[if_neg (by simp),if_neg (by rw[AM ne.1];simp[Ct]),if_pos λx v=>by rw[WJ v];exact (Ey.cZ _).2 Ey.AfS]
 ·simp only[EU] at hg;rw[WJ hg];exact ⟨AcU,by simp[Cs]⟩
def JW (s:Al):List Int:=Ay (Aa s.2.1) 4
theorem AcO {s}:Cu (JW s)=true:=by unfold Cu;exact decide_eq_true λa c=>WJ c
theorem Tf {s}:Aa (JW s)=Aa s.2.1:=AM (Ak _) _
theorem AaX {s x} (h:St s) (c:x.1=s):Fi x=some ((x.1,(((x.2.1.1.1,()),x.2.1.2),x.2.2)),JW s):=by subst c;have n2:=h.ok.shape.n2;unfold Fi E3;simp only;rw[if_pos ⟨h.ok.shape.n1,by omega⟩];rfl
theorem Vl {s now asks} (h:St s) (c:E8 s now) (g:Aa asks=Aa s.2.1):JY (s,(now,asks))=some (ET s now asks,0)/\HT (s,(now,ET s now asks))=some (Dr s now (ET s now asks),(0,0))/\E8 s (Dr s now (ET s now asks)):=by
 have n2:=h.so.n2;have p:=c.may.st.n;have d:=Tx p g;have o:=wK h.so c g;refine ⟨?_,?_,o.2⟩
 ·rw[AcT (λ_=>h.so) h.chk (by omega)];unfold kV<;>simp_all
 ·rw[Z9 (λ_=>h.so) h.chk (by omega) (by unfold Aa at d n2;unfold maxLen;omega)];unfold Kh;rw[if_neg (by simp),if_neg (by simpa using c.may),if_neg (by simpa using o.1)]
theorem W4 {s now}:ET s now (JW s)=JW s:=by unfold ET;rw[if_pos AcO]
def WG (s:Al) (now:Bx) (ti se:Int) (d:List Int):Be :=
 ((d,()),(Dr s now (JW s),(Dk (Bc d).1.2.1,((0,0),((false,(0,0)),([],((0,(0,[])),(1048576,(Ay (Ct s) (false,(false,0)),(Ay (Ct s) (false,(0,(0,(false,0)))),(Ay (Ct s) (false,(0,(0,(0,0)))),(0,(0,(min (ti+1) 1073741824,(Ay (BO s) 0,(Ay (BO s) 0,(Ay (BO s) 0,se)))))))))))))))))
theorem Ac8 {s now ti se d} (h:St s) (c:A4 d) (g:E8 s now) (p:0<=ti) (o:As se):E9 s (WG s now ti se d):=by have f:=eL h c (Bc d).1.2.1;have hg:=(Vl h g Tf).2.2;rw[W4] at hg;exact ⟨c,hg,f.rung,f.seq,f.link,f.rest,f.told,f.age,f.pn,f.pulse,f.eyes,f.gn,f.gaps,f.calls,f.wrong,⟨by simp only[WG];omega,by simp only[WG];omega⟩,f.cnt,o⟩
theorem AgC {s d now rg q rs td ag pu ey ga ca wn ti gr bu cm se ip w was asks lights out} (h:St s) {lk} (y:E9 s ((d,()),(now,(rg,(q,(lk,(rs,(td,(ag,(pu,(ey,(ga,(ca,(wn,(ti,(gr,(bu,(cm,se)))))))))))))))))) (I:Ou d w) :
 ∃v g,(0<=v/\v<=Aa w)/\(0<=g/\g<=64)/\A4 (doV v g 0 w d)/\Hx (s,(((d,()),(now,(rg,(q,(lk,(rs,(td,(ag,(pu,(ey,(ga,(ca,(wn,(ti,(gr,(bu,(cm,se))))))))))))))))),(ip,(w,(was,(asks,(lights,out)))))))=some (s,(WG s now ti se (doV v g 0 w d),(ip,(w,(was,(asks,(JW s,out))))))):=by
 have J:= y.disk;have o:=y.tick;simp only at o;have X:=Ak w;have g1:Bb (B8 0 ip.2.2.2.2.1) (Aa w)=min (max 0 ip.2.2.2.2.1) (Aa w):=by rw[Ds,ED]
 have Y:Bb (B8 0 ip.2.2.2.2.2.1) 63=min (max 0 ip.2.2.2.2.2.1) 63:=by rw[Ds,ED]
 obtain⟨g,t0,t1,E⟩:∃g,0<=g/\g<=64/\g=if min (max 0 ip.2.2.2.2.1) (Aa w)=Aa w then 0 else min (max 0 ip.2.2.2.2.2.1) 63:=⟨_,by split<;>omega,by split<;>omega,rfl⟩;have p:=Sq (whole:=min (max 0 ip.2.2.2.2.1) (Aa w)) (torn:=g) J I;refine ⟨_,g,⟨by omega,by omega⟩,⟨t0,t1⟩,p.1,?_⟩;unfold Hx;rw[ZK g λk=>by
  try simp only
  rw[g1,Y,AK,E];by_cases c:min (max 0 ip.2.2.2.2.1) (Aa w)=Aa w
  ·rw[if_pos (by simpa using c),if_pos c]
  ·rw[if_neg (by simpa using c),if_neg c]];try simp only
 rw[g1,Zzq (AfW (d:=d) (l:=w) (whole:=min (max 0 ip.2.2.2.2.1) (Aa w)) (torn:=g) J I (by omega) (by omega) t0 t1)];try simp only
 rw[Zzq (mP h p.1),Zzq (AaX h rfl)];have t:=(Vl h y.now Tf).2.1;rw[W4] at t;try simp only
 rw[Zzq t,Au,Ka ti 1073741824 o.1 (by omega)];rfl
end Go.Proofs.YtlgpjdjcbincgaaGreatDoor
namespace Go.Proofs.YtlgpjdjcbincgaaGreatDoor
open Go.Den
theorem uU {l} (h:Aa l<=1000):F6 l=some l:=by unfold F6;rw[Zzp (by rw[Qap];exact room_le (by omega))];rfl
theorem Aet {l} (h:Aa l<=1000):GB l=some l:=by unfold GB;rw[Zzp (by rw[Qap];exact room_le (by omega))];rfl
theorem UZ {l} (h:Aa l<=1000):Ek l=some l:=by unfold Ek;rw[Zzp (by rw[Qap];exact room_le (by omega))];rfl
def upE (eyes i:Int):Bool:=Aq .and .u32 (AH .u32 eyes i) 1==1
def puV (eyes:Int) (l:List Ji):List Ji:=l.mapIdx λ(i:Nat) p=>(CQ (p,(upE eyes (i:Int),2))).1
def gaV (pu:List Ji) (l:List C7):List C7:=l.mapIdx λ(i:Nat) g=>(HK (g,(el pu (i:Int)).1)).1
theorem u9 {eyes l i x} (h:idx l i=some x):idx (puV eyes l) i=some (CQ (x,(upE eyes i,2))).1:=by have h0:=(Ag h).1;unfold puV;rw[Pe h0,h,Qai,show ((i.toNat:Nat):Int)=i by omega]
theorem u7 {pu l i x} (h:idx l i=some x):idx (gaV pu l) i=some (HK (x,(el pu i).1)).1:=by have h0:=(Ag h).1;unfold gaV;rw[Pe h0,h,Qai,show ((i.toNat:Nat):Int)=i by omega]
theorem Ya {eyes l}:Aa (puV eyes l)=Aa l:=HO
theorem X9 {pu l}:Aa (gaV pu l)=Aa l:=HO
theorem Adp {p b} (c:Px p):Px (CQ (p,(b,2))).1:=by obtain⟨u,r,n⟩:=p;unfold Px at *;simp only at c;unfold CQ;rw[if_neg (by simp_all),if_neg (by simp)];simp only;rw[Ds]<;>omega
theorem uI (n:Nat) (h:n<2 ^ 64):Aq .and .u64 (n:Int) 1=((n%2:Nat):Int):=by have:=Nq (y:=1) h (by decide)<;>simp_all
structure AhA (g:C7):Prop where
 a:0<=g.2.1/\g.2.1<=1048576
 b:0<=g.2.2.1/\g.2.2.1<=1048576
 c:0<=g.2.2.2.1/\g.2.2.2.1<=1073741824
 on:g.1=true->g.2.2.1=0
 off:g.1=false->g.2.1=0
 bit:g.1=(Aq .and .u64 g.2.2.2.2 1==1)
theorem gap_iff {g}:FM g=0↔AhA g:=by
 obtain⟨u,a,b,c,n⟩:=g;unfold FM;simp only[Ds,ED,AK];constructor
 ·intro h;split at h
  ·cases h
  rename_i h1;split at h
  ·cases h
  rename_i d;split at h
  ·cases h
  rename_i o;split at h
  ·cases h
  rename_i h4;simp only[Qaj,decide_eq_true_eq,not_or,Qcb] at h1;refine ⟨by simp only;omega,by simp only;omega,by simp only;omega,λp=>?_,λp=>?_,?_⟩
  ·subst p;simpa using d
  ·subst p;simpa using o
  ·simpa using h4
 ·rintro⟨h1,d,o,h4,t,h6⟩;simp only at h1 d o h4 t h6;rw[if_neg (by simp only[Qaj,decide_eq_true_eq,not_or,Qcb];omega),if_neg (by
   cases u with
   |true=>simp[h4 rfl]
   |false=>simp),if_neg (by
   cases u with
   |true=>simp
   |false=>simp[t rfl]),if_neg (by rw[<-h6];simp)]
theorem AdI {x} (h:Cs x):Cs (A9 .u64 x 1)/\Aq .and .u64 (A9 .u64 x 1) 1=0/\Cs (Aq .or .u64 (A9 .u64 x 1) 1)/\Aq .and .u64 (Aq .or .u64 (A9 .u64 x 1) 1) 1=1:=by
 obtain⟨k,rfl⟩:∃k:Nat,x=k:=⟨x.toNat,(Qax h.1).symm⟩;have c:k<2 ^ 64:=by unfold Cs at h;omega
 obtain⟨s1,s2,o⟩:=Ey.vH c;obtain⟨d,g⟩:=Ey.AgW c;rw[d,s1,uI _ s2,uI _ g];unfold Cs<;>omega
theorem Agk {g b} (hg:Yz g):Yz (HK (g,b)).1:=by
 obtain⟨h0,o⟩:=hg;obtain⟨p,t,e3,d⟩:=AdI o;obtain⟨u,x,y,c,n⟩:=g;obtain⟨h1,v,E,h4,I,h6⟩:=gap_iff.1 h0;simp only at h1 v E h4 I h6 o p t e3 d;unfold Yz;rw[gap_iff];unfold HK;rw[Au,h0,Zzn (by rfl)];simp only[Ds];rw[Aj (x+1) (by omega) (by omega),Aj (y+1) (by omega) (by omega),Aj (c+1) (by omega) (by omega)];cases b with
 |false =>rw[Zzp (b:=!false) rfl];exact ⟨⟨by simp,by simp only;omega,by simp only;omega,λh=>(by cases h),λ_=>rfl,by simp only;rw[t];rfl⟩,p⟩
 |true =>
  rw[Zzn (b:=!true) rfl,AK];split
  ·exact ⟨⟨by simp only;omega,by simp,by simp only;omega,λ_=>rfl,λh=>(by cases h),by simp only;rw[d];rfl⟩,e3⟩
  ·exact ⟨⟨by simp only;omega,by simp,by simp only;omega,λ_=>rfl,λh=>(by cases h),by simp only;rw[d];rfl⟩,e3⟩
structure jI (s:Al) (now:Bx) (q:Mf) (ip:Kw) (pu:List Ji) (ey:List Bl) (ca ups ca':Int):Prop where
 ok:As ups
 bits:∀j,Aw ups j=(decide (0<=j/\j<Ct s)&&(el (puV ip.2.1 pu) j).1)
 eyes:Ey.Fu 0 s (Ey.C4 s ups ey)=0
 next:Ey.Uu s (Ey.C4 s ups ey) ca (if Hq s now q.1=true then q.1 else -1) ca'
 calls:As ca'/\AH .u32 ca' (BO s)=0
theorem Ahw {s d now rg q rs td ag pu ey ga ca wn ti gr bu cm se ip w was r} (h:St s) {lk} (hx:E9 s ((d,()),(now,(rg,(q,(lk,(rs,(td,(ag,(pu,(ey,(ga,(ca,(wn,(ti,(gr,(bu,(cm,se)))))))))))))))))) :
 ∃o v,HY (s,(((d,()),(now,(rg,(q,(lk,(rs,(td,(ag,(pu,(ey,(ga,(ca,(wn,(ti,(gr,(bu,(cm,se))))))))))))))))),(ip,(w,(was,r)))))=some (s,(((d,()),(now,(rg,(q,(lk,(rs,(td,(ag,(puV ip.2.1 pu,(Ey.C4 s o ey,(gaV (puV ip.2.1 pu) ga,(v,(wn,(ti,(gr,(bu,(cm,se))))))))))))))))),(ip,(w,(pu,r)))))/\jI s now q ip pu ey ca o v:=by
 have ne:=h.ne;have np:=h.ph;have af:Aa pu=Ct s:=hx.pn;have ah:Aa ga=Ct s:=hx.gn;have a7:Ey.Fu 0 s ey=0:=hx.eyes;have hq:YP s q:=hx.seq;have a1:= hx.calls;obtain⟨_,a8,ai⟩:=Ey.PA a7;have EO:=Ey.mO h.ok;unfold HY;try simp only
 rw[Zzq (uU (by omega)),Zzq (uU (by omega)),Zzq (Aet (by omega))];refine Ap (λz:Int×Int×CS=>z.1) (Ct s) (λz=>∃E I,z.2.2=(s,(((d,()),(now,(rg,(q,(lk,(rs,(td,(ag,(E,(ey,(I,(ca,(wn,(ti,(gr,(bu,(cm,se))))))))))))))))),(ip,(w,(pu,r)))))/\Aa E=Ct s/\Aa I=Ct s/\(∀j,0<=j->idx E j=if j<z.1 then idx (puV ip.2.1 pu) j else idx pu j)/\(∀j,0<=j->idx I j=if j<z.1 then idx (gaV (puV ip.2.1 pu) ga) j else idx ga j)/\As z.2.1/\∀j,Aw z.2.1 j=(decide (0<=j/\j<z.1)&&(el (puV ip.2.1 pu) j).1))
  (λR=>∃o v,R=some (s,(((d,()),(now,(rg,(q,(lk,(rs,(td,(ag,(puV ip.2.1 pu,(Ey.C4 s o ey,(gaV (puV ip.2.1 pu) ga,(v,(wn,(ti,(gr,(bu,(cm,se))))))))))))))))),(ip,(w,(pu,r)))))/\jI s now q ip pu ey ca o v) (by omega) (by simp) ne.1
  ⟨pu,ga,rfl,af,ah,λj J=>by grind,λj J=>by grind,by simp[As],λj=>by simp only;rw[decide_eq_false (by omega)];simp[Aw]⟩ (λz hI i0 i1=>?_) λz hI hz=>?_
 ·obtain⟨i,o,t⟩:=z;obtain⟨E,I,ht,aa,ab,X,Y,hu,hb⟩:=hI;simp only at i0 i1 ht X Y hu hb;subst ht;obtain⟨p,hp,aq⟩:=Ai (l:=pu) i0 (by omega);obtain⟨g,hg,ar⟩:=Ai (l:=ga) i0 (by omega);have e1:idx E i=some p:=by simp_all
  have e2:idx I i=some g:=by simp_all
  have e3:=u9 (eyes:=ip.2.1) hp;have e5:= Et e3;have e4:=u7 (pu:=puV ip.2.1 pu) hg;rw[e5] at e4;try simp only
  have aj:(Aq .and .u32 (AH .u32 ip.2.1 i) 1==1)=upE ip.2.1 i:=rfl;rw[aj];rw[Zzp (decide_eq_true (by omega)),Zzq e1,Zzq e1,Zzp (decide_eq_true i0),Au,Zzq e1,Zzq e1,Zzq e2,Zzq e2];have e6:idx (AB E i (CQ (p,(upE ip.2.1 i,2))).1) i=some (CQ (p,(upE ip.2.1 i,2))).1:=by rw[By i0 (by omega),if_pos rfl]
  rw[Zzq e6,Zzq e6,Au,Zzq e2,Zzq e2,Zzq e6,Zzq e6,Aj (i+1) (by omega) (by omega)];have lists:Aa (AB E i (CQ (p,(upE ip.2.1 i,2))).1)=Ct s/\Aa (AB I i (HK (g,(CQ (p,(upE ip.2.1 i,2))).1.1)).1)=Ct s/\(∀j,0<=j->idx (AB E i (CQ (p,(upE ip.2.1 i,2))).1) j=if j<i+1 then idx (puV ip.2.1 pu) j else idx pu j)/\∀j,0<=j->idx (AB I i (HK (g,(CQ (p,(upE ip.2.1 i,2))).1.1)).1) j=if j<i+1 then idx (gaV (puV ip.2.1 pu) ga) j else idx ga j:=by
   refine ⟨by rw[AN];exact aa,by rw[AN];exact ab,λj J=>?_,λj J=>?_⟩
   ·rw[By i0 (by omega),X j J];by_cases c:j=i
    ·rw[if_pos c,if_pos (by omega),c,e3]
    ·rw[if_neg c];by_cases c2:j<i
     ·rw[if_pos c2,if_pos (by omega)]
     ·rw[if_neg c2,if_neg (by omega)]
   ·rw[By i0 (by omega),Y j J];by_cases c:j=i
    ·rw[if_pos c,if_pos (by omega),c,e4]
    ·rw[if_neg c];by_cases c2:j<i
     ·rw[if_pos c2,if_pos (by omega)]
     ·rw[if_neg c2,if_neg (by omega)]
  obtain⟨k1,k2,k3,k4⟩:=lists;by_cases up:(CQ (p,(upE ip.2.1 i,2))).1.1=true
  ·rw[Zzp up,Zzp (decide_eq_true i0)];obtain⟨o1,o2⟩:=Ey.jY (m:=o) hu i0 (by omega);refine ⟨rfl,_,_,rfl,k1,k2,k3,k4,o1,λj=>?_⟩;simp only;rw[o2,hb];by_cases c:i=j
   ·subst c;rw[e5,up,decide_eq_false (by omega),decide_eq_true (p:=i=i) rfl,decide_eq_true (by omega)];rfl
   ·rw[decide_eq_false (p:=i=j) c,Bool.or_false];congr 1;exact decide_eq_decide.2 (by omega)
  ·rw[Zzn (Bool.eq_false_iff.2 up)];refine ⟨rfl,_,_,rfl,k1,k2,k3,k4,hu,λj=>?_⟩;simp only;rw[hb];by_cases c:i=j
   ·subst c;rw[e5,Bool.eq_false_iff.2 up,Qez,Qez]
   ·congr 1;exact decide_eq_decide.2 (by omega)
 ·obtain⟨i,o,t⟩:=z;obtain⟨E,I,ht,aa,ab,X,Y,hu,hb⟩:=hI;simp only at hz ht X Y hu hb;subst hz ht;have ep:E=puV ip.2.1 pu:=Eg (by rw[Ya];omega) λj J j1=>by rw[X j J,if_pos (by omega)]
  have eg:I=gaV (puV ip.2.1 pu) ga:=Eg (by rw[X9];omega) λj J j1=>by rw[Y j J,if_pos (by omega)]
  subst ep eg;have ad:Ey.wN 0 s o ey=(Ey.C4 s o ey,0):=by unfold Ey.wN;rw[if_neg (by rw[a7];simp)]
  have a6:Ti 0 s now q.1=(Hq s now q.1,0):=by have:=hq.p0;have:=hq.p1;unfold Ti;rw[if_neg (by simp),if_neg (by rw[hx.now.may.st.n];simp),if_neg (by omega)]
  have Z:Ey.Fu 0 s (Ey.C4 s o ey)=0:=by unfold Ey.Fu;rw[if_neg (by simp),if_neg (by unfold Ey.C4;rw[HO,a8];simp),if_pos λx hx=>?_];obtain⟨j,hj⟩:=BZ hx;obtain⟨J,j1,_⟩:=Ag hj;obtain⟨y,hy,ak⟩:=Ai (l:=ey) J (by unfold Ey.C4 at j1;rw[HO] at j1;exact j1);rw[Ey.mY hy] at hj;rw[<-Qag hj];exact (Ey.cZ _).2 (Ey.AdL _ (ai y ak) EO.heal.2).1
  have ae:Aa (Ey.C4 s o ey)<=1000:=by unfold Ey.C4;rw[HO,a8];unfold Ct at ne;omega
  try simp only
  rw[Zzn (decide_eq_false (by omega)),Zzq (Ey.Aei (e:=0) (λ_=>EO) h.chk (by unfold Ct at ne;omega) hu),ad];try simp only
  rw[Zzq (j5 h.f (λ_=>h.so) h.chk),a6];try simp only
  have fin:∀g,(g=if Hq s now q.1=true then q.1 else -1)->∃v,HH (s,(ca,(Ey.C4 s o ey,g)))=some (v,0)/\jI s now q ip pu ey ca o v:=λg hg=>by
   have al:-1<=g/\g<BO s:=by have:=hq.p0;have:=hq.p1;unfold BO at *;rw[hg];split<;>omega
   obtain⟨n,n1,n2⟩:=Ey.Zj (s:=s) (l:=Ey.C4 s o ey) (e:=0) (c:=ca) (g:=g) (λ_=>EO) h.chk ae a1.1;rw[Z,if_neg (by simp)] at n1;have:Ey.S0 s ca g=0:=by unfold Ey.S0;have h2:=a1.2;unfold BO at h2 al;rw[if_neg (by rw[h2];simp),if_neg (by omega)]
   rw[this,if_neg (by simp)] at n1;have n3:=n2 Z;refine ⟨n,n1,hu,hb,Z,by rw[<-hg];exact n3,n3.1,?_⟩;rw[Yt n3.1 (by omega) (by omega)];intro p hp;refine Bool.eq_false_iff.2 λan=>?_;rcases ((n3.2 p).1 an).2 with c1|c1
   ·have:=((Yt a1.1 (by omega) (by omega)).1 a1.2) p hp;rw[this] at c1;cases c1
   ·rcases c1 with ⟨ph,ao,_⟩|⟨k,e,x,hk,_,he,_⟩
    ·have:=(Ag ao).2.1;unfold BO at hp;omega
    ·have:=EO.eyes k e hk;unfold BO at hp;omega
  by_cases c:Hq s now q.1=true
  ·rw[Zzp c];obtain⟨v,c1,c2⟩:=fin q.1 (by rw[if_pos c]);rw[Zzq c1];exact ⟨o,v,rfl,c2⟩
  ·rw[Zzn (Bool.eq_false_iff.2 c)];obtain⟨v,c1,c2⟩:=fin (-1) (by rw[if_neg c]);rw[Zzq c1];exact ⟨o,v,rfl,c2⟩
end Go.Proofs.YtlgpjdjcbincgaaGreatDoor
namespace Go.Proofs.YtlgpjdjcbincgaaGreatDoor
open Go.Den
def PW (now:Bx):List Int:=now.1.map (·.1)
def wnV (s:Al) (now:Bx) (wn:Int) (back:List Int):Int :=
 if (Ld.WK 0 s wn (PW now) back).2≠0 then min (wn+1) 1048576 else (Ld.WK 0 s wn (PW now) back).1
def K5 (s:Al) (td:AJ) (ag c:Int) (rd:Dy×Int) (d well:Bool):H5 :=
 (!EX td&&decide (ag<s.2.2.2.2.2.2.1),(!d&&rd.2==0&&decide (0<Aa rd.1.2.2),(well,!decide (s.2.2.2.2.2.2.2.1<=c))))
theorem Ad8 {s now wn back} (c:0<=wn/\wn<=1048576):0<=wnV s now wn back/\wnV s now wn back<=1048576:=by
 unfold wnV;split
 ·omega
 ·unfold Ld.WK<;>grind
theorem AeF {s d now rg q rs td ag pu ey ga ca wn ti gr bu cm se ip r} (h:St s) {lk} (y:E9 s ((d,()),(now,(rg,(q,(lk,(rs,(td,(ag,(pu,(ey,(ga,(ca,(wn,(ti,(gr,(bu,(cm,se)))))))))))))))))) (hb:ip.2.2.1.length<=maxLen) :
 ∃well,G3 (s,(((d,()),(now,(rg,(q,(lk,(rs,(td,(ag,(pu,(ey,(ga,(ca,(wn,(ti,(gr,(bu,(cm,se))))))))))))))))),(ip,r)))=some ((s,(((d,()),(now,(rg,(q,(lk,(rs,(td,(ag,(pu,(ey,(ga,(ca,(wnV s now wn ip.2.2.1,(ti,(gr,(bu,(cm,se))))))))))))))))),(ip,r))),(K5 s td ag (wnV s now wn ip.2.2.1) (Bc d) ip.2.2.2.2.2.2 well,(Bc d).1))/\(Ct s=0->well=true):=by
 have hG:E8 s now:=y.now;have Y:0<=wn/\wn<=1048576:=y.wrong;have g:Ey.Fu 0 s ey=0:=y.eyes;have ne:=h.ne;obtain⟨_,a1,_⟩:=Ey.PA g;have hn:=hG.may.st.n;have E:=h.so.n2;have a6:=Ad8 (s:=s) (now:=now) (back:=ip.2.2.1) Y;obtain⟨well,Z,w2⟩:=Ey.qL (l:=ey) (λ_=>Ey.mO h.ok) h.chk (by unfold Ct at ne;omega);rw[g,if_neg (by simp)] at Z;have I:(PW now).length<=maxLen:=by have:=HN (l:=now.1) (f:=λx=>x.1);unfold PW;unfold Aa at this hn E;unfold maxLen;omega
 refine ⟨well,?_,λp=>(w2 g).2 λj e x hj=>by have:=(Ag hj).2.1;have:=(Ag hj).1;unfold Ct at p;omega⟩;unfold G3;refine Ap (λz:List Int×Int=>z.2) (Aa now.1) (λz=>z.1=(PW now).take z.2.toNat)
  (λR=>R=some ((s,(((d,()),(now,(rg,(q,(lk,(rs,(td,(ag,(pu,(ey,(ga,(ca,(wnV s now wn ip.2.2.1,(ti,(gr,(bu,(cm,se))))))))))))))))),(ip,r))),(K5 s td ag (wnV s now wn ip.2.2.1) (Bc d) ip.2.2.2.2.2.2 well,(Bc d).1))) (by omega) (by simp) (Ak _) rfl (λz o J i1=>?_) λz o p=>?_
 ·obtain⟨l,i⟩:=z;simp only at o J i1;obtain⟨w,t,_⟩:=Ai J i1;have a7:Aa l<=i:=by rw[o];unfold Aa;rw[Qbn];omega
  try simp only
  rw[Zzp (decide_eq_true i1),Zzq t,Zzp (VV (by omega)),Aj (i+1) (by omega) (by omega)];refine ⟨rfl,?_⟩;simp only;have h1:idx (PW now) i=some w.1:=by unfold PW;rw[PD,t];rfl
  rw[AY J] at h1;rw[o,show (i+1).toNat=i.toNat+1 by omega,Qci,h1];rfl
 ·obtain⟨l,i⟩:=z;simp only at o p;have hl:l=PW now:=by rw[o];refine Qas ?_;unfold PW;rw[Qdx];unfold Aa at p;omega
  subst p hl;try simp only
  rw[Zzn (decide_eq_false (by omega)),Zzq (Ld.wU (s:=s) (n:=wn) (e:=0) (lit:=PW now) (seen:=ip.2.2.1) h.chk I hb)];rw[ZK (wnV s now wn ip.2.2.1) λk=>by
   unfold wnV;try simp only
   rw[AK];by_cases c:(Ld.WK 0 s wn (PW now) ip.2.2.1).2=0
   ·rw[if_neg (by simp[c]),if_neg (by simpa using c)]
   ·rw[if_pos (by simpa using c),if_pos c,Au,Ka wn 1048576 Y.1 (by omega)]];have v:=Ld.AeY (n:=wnV s now wn ip.2.2.1) (e:=0) h.chk;have X:Ld.ZL 0 s (wnV s now wn ip.2.2.1)=(decide (s.2.2.2.2.2.2.2.1<=wnV s now wn ip.2.2.1),0):=by unfold Ld.ZL;rw[if_neg (by simp),if_neg (by omega)]
  rw[X] at v;try simp only
  rw[Zzq v,Zzq (Ky y.disk),Zzq Z,Au];unfold K5;show LI _ (Step.done _);show (_:Option (CS×H5×Dy)) = _;cases EX td<;>cases ip.2.2.2.2.2.2<;>cases (Bc d).2==0<;>rfl
end Go.Proofs.YtlgpjdjcbincgaaGreatDoor
namespace Go.Proofs.YtlgpjdjcbincgaaGreatDoor
open Go.Den
theorem Agl {s r} (h:St s) {l:Be} (hg:Aa l.2.2.2.2.2.2.2.2.2.2.1=Ct s) :
 ∃g,Hv (s,(((l.1.1,()),l.2),r))=some g/\As g:=by
 have ne:=h.ne;have E:=h.ph;unfold Ct at ne hg;unfold BO at E;unfold Hv;refine Ap (λz:Int×Int=>z.2) (Aa s.2.2.2.2.1) (λz=>As z.1) (λR=>∃g,R=some g/\As g) (by omega) (by simp) (by omega) (by simp[As]) (λz c d i1=>?_) λz c o=>?_
 ·obtain⟨m,i⟩:=z;simp only at c d i1;obtain⟨ph,p,_⟩:=Ai d i1;try simp only
  rw[Zzp (decide_eq_true i1),Zzq p];refine Ap (λz:Bool×Int=>z.2) (Aa s.2.2.2.2.2.1) (λ_=>True) (λR=>Cq (λz:Int×Int=>z.2) (λz=>As z.1) (λR=>∃g,R=some g/\As g) i R) (by omega) (by simp) (by omega) trivial (λz _ t v=>?_) λz _ o=>?_
  ·obtain⟨b,j⟩:=z;simp only at t v;obtain⟨e,I,_⟩:=Ai t v;obtain⟨g,y,_⟩:=Ai (l:=l.2.2.2.2.2.2.2.2.2.2.1) t (by omega);try simp only
   rw[Zzp (decide_eq_true v),Zzq I,Zzq y,Au,Aj (j+1) (by omega) (by omega)];exact ⟨rfl,trivial⟩
  ·obtain⟨b,j⟩:=z;simp only at o;try simp only
   rw[Zzn (decide_eq_false (by omega)),Aj (i+1) (by omega) (by omega)];cases b with
   |true =>rw[Zzp rfl,Zzp (decide_eq_true d)];exact ⟨rfl,(Ey.jY c d (by omega)).1⟩
   |false =>rw[Zzn rfl];exact ⟨rfl,c⟩
 ·obtain⟨m,i⟩:=z;simp only at c o;try simp only
  rw[Zzn (decide_eq_false (by omega))];exact ⟨m,rfl,c⟩
theorem vO {s p k u} (h:St s) (c:k<Pn.nV s):0<=Pn.WQ s p k u/\Pn.WQ s p k u<BO s:=by
 have:=(Pn.ZV h.ok.shape (k:=(k:Int)) (by omega) (by unfold Pn.nV at c;unfold Aa;omega)).2;have d:(k:Int)<Aa s.2.2.2.2.1:=by unfold Pn.nV at c;unfold Aa;omega
 unfold Pn.WQ BO<;>omega
theorem fG {s p t} (h:St s) (c:D6 s p) (t0:0<=t) (t1:t<=1073741824) :
 ∃k:Nat,k<Pn.nV s/\Pn.Ut p k (Pn.OJ p t)/\HA (s,(p,t))=some ((k:Int),(Pn.OJ p t-Pn.HJ p k,0))/\FQ (s,(p,t))=some (Pn.WQ s p k (Pn.OJ p t-Pn.HJ p k),0):=by obtain⟨k,k1,g,d⟩:=Pn.AhE h.f h.ok h.chk (Nd (KN h c)).1 c t0 t1;exact ⟨k,k1,g,d,Pn.AdR h.f h.ok h.chk (Pn.yT h.f h.ok c) k1 d⟩
theorem uM {s p} (h:St s) (p0:0<=p) (p1:p<BO s):ES (s,p)=some (ID s p,0):=by rw[Aac h.f (λ_=>h.so) h.chk];unfold jN BO at *<;>simp_all
structure AdT (s:Al) (now:Bx) (rg:Ez) (q:Mf) (td:AJ) (ca ti:Int) (kp:Dy) (q':Mf) (asks:List Int):Prop where
 seq:YP s q'
 len:Aa asks=Aa s.2.1
 dark:rg.1=0->q'=q/\asks=JW s
 lit:rg.1≠0->asks=ID s q'.1
 alone:rg.1=1->∃g,As g/\Uu s q (Hq s now q.1) ca g q'
 stored:rg.1=2->∃p,idx kp.2.2 0=some p/\FQ (s,(Pn.CO s p,ti))=some (q'.1,0)
 master:rg.1=3->FQ (s,(td,ti))=some (q'.1,0)
theorem Ahf {s d now rg q rs td ag pu ey ga ca wn ti gr bu cm se ip w was asks lights out} (h:St s) {lk} {kp} (v:E9 s ((d,()),(now,(rg,(q,(lk,(rs,(td,(ag,(pu,(ey,(ga,(ca,(wn,(ti,(gr,(bu,(cm,se)))))))))))))))))) (Z:rg.1=2->∃p,idx kp.2.2 0=some p/\Dq p) (h3:rg.1=3->D6 s td) :
 ∃y o,HX ((s,(((d,()),(now,(rg,(q,(lk,(rs,(td,(ag,(pu,(ey,(ga,(ca,(wn,(ti,(gr,(bu,(cm,se))))))))))))))))),(ip,(w,(was,(asks,(lights,out))))))),kp)=some (s,(((d,()),(now,(rg,(y,(lk,(rs,(td,(ag,(pu,(ey,(ga,(ca,(wn,(ti,(gr,(bu,(cm,se))))))))))))))))),(ip,(w,(was,(o,(lights,out)))))))/\AdT s now rg q td ca ti kp y o:=by
 have hm:=v.rung.mode;have J:= v.seq;have t:=v.tick;simp only at hm t;have al:= λp=>eX s p;unfold HX;try simp only
 by_cases c0:rg.1=0
 ·rw[Zzp (by simp[c0]),Zzq (AaX h rfl)];refine ⟨q,JW s,rfl,J,Tf,λ_=>⟨rfl,rfl⟩,λc=>absurd c0 c,λc=>?_,λc=>?_,λc=>?_⟩<;>omega
 rw[Zzn (by simpa using c0)];by_cases c1:rg.1=1
 ·obtain⟨g,g1,X⟩:=Agl h v.gn;obtain⟨y,n1,p0,p1,s0,s1,n2⟩:=ZV h.f h.ok h.chk J v.now.may.st.n v.calls.1 X;rw[Zzp (by simp[c1]),Zzq g1,Zzq n2];refine ⟨y,ID s y.1,rfl,⟨p0,p1,s0,s1⟩,al _,λc=>absurd c c0,λ_=>rfl,λ_=>⟨g,X,n1⟩,λc=>?_,λc=>?_⟩<;>omega
 rw[Zzn (by simpa using c1)];by_cases c2:rg.1=2
 ·obtain⟨p,Y,e2⟩:=Z c2;obtain⟨e3,e4⟩:=Zn h e2;obtain⟨k,k1,_,_,E⟩:=fG h e4 t.1 t.2;obtain⟨w0,I⟩:=vO h k1;rw[Zzp (by simp[c2]),Zzq Y,Zzq e3,Zzq E,Zzq (uM h w0 I)];refine ⟨(_,0),ID s _,rfl,⟨w0,I,by simp,by simp⟩,al _,λc=>absurd c c0,λ_=>rfl,λc=>absurd c c1,λ_=>⟨p,Y,E⟩,λc=>?_⟩;omega
 rw[Zzn (by simpa using c2)];have c3:rg.1=3:=by omega
 obtain⟨k,k1,_,_,E⟩:=fG h (h3 c3) t.1 t.2;obtain⟨w0,I⟩:=vO h k1;rw[Zzq E,Zzq (uM h w0 I)];exact ⟨(_,0),ID s _,rfl,⟨w0,I,by simp,by simp⟩,al _,λc=>absurd c c0,λ_=>rfl,λc=>absurd c c1,λc=>absurd c c2,λ_=>E⟩
end Go.Proofs.YtlgpjdjcbincgaaGreatDoor
namespace Go.Proofs.YtlgpjdjcbincgaaGreatDoor
open Go.Den
theorem AcN {a b} (h0:0<=a) (h1:a<=b) (b0:1<=b) (t:b<=1048576):∃v,OE (JV a,JV b)=some (v,0)/\(0<=v/\v<=65536)/\(a=0->v=0):=by
 have d:∀n:Int,0<=n->n<=1048576->JV n=n*65536:=λn n0 n1=>by unfold JV;rw[ED,Ds,show min (max n (-1073741824)) 1073741824=n by omega,Aj _ (by omega) (by omega)]
 have c:∀n:Int,0<=n->n<=70368744177664->BE n=n:=λn n0 n1=>by unfold BE;rw[ED,Ds];omega
 have o:(b*65536:Int)≠0:=by omega
 have g:0<=a*65536*65536:=by omega
 have p:a*65536*65536/(b*65536)<=65536:=by refine Int.ediv_le_of_le_mul (by omega) ?_;omega
 have h:0<=a*65536*65536/(b*65536):=Qdz g (by omega);refine ⟨a*65536*65536/(b*65536),?_,⟨h,p⟩,λe=>by simp_all⟩;unfold OE;rw[d a h0 (by omega),d b (by omega) t];simp only;rw[Au,Au,c _ (by omega) (by omega),c _ (by omega) (by omega),Aj (a*65536*65536) (by omega) (by omega),Pn.jZ g (by omega) (by omega),Zzn (by simpa using o),Zzp (by simpa using o),Zzp (by simpa using o),Zzn (by grind),Au,c _ h (by omega)]
def zS (d:Int×CS):Option CS :=
 Ao (Ht d.2.2.1.2.2.2.2.2.2.2.2.2.2.2.2.2.2.2.2.2) λy =>
(cnd (!d.2.1.2.2.2.2.2.2.2.2.2.1==0)
(cnd (!BB (wr .i64 (d.2.2.1.2.2.2.2.2.2.2.2.2.2.2.2.2.1+1)) d.2.1.2.2.2.2.2.2.2.2.2.1==0||!y.2==0)
(Ao (Cw (d.2.2.1.2.2.2.2.2.2.2.2.2.2.2.2.2.1,1073741824)) λy1 =>
 some (d.2.1,(((d.2.2.1.1.1,()),(d.2.2.1.2.1,(d.2.2.1.2.2.1,(d.2.2.1.2.2.2.1,(d.2.2.1.2.2.2.2.1,(d.2.2.1.2.2.2.2.2.1,(d.2.2.1.2.2.2.2.2.2.1,(d.2.2.1.2.2.2.2.2.2.2.1,(d.2.2.1.2.2.2.2.2.2.2.2.1,(d.2.2.1.2.2.2.2.2.2.2.2.2.1,(d.2.2.1.2.2.2.2.2.2.2.2.2.2.1,(d.2.2.1.2.2.2.2.2.2.2.2.2.2.2.1,(d.2.2.1.2.2.2.2.2.2.2.2.2.2.2.2.1,(y1,d.2.2.1.2.2.2.2.2.2.2.2.2.2.2.2.2.2)))))))))))))),d.2.2.2)))
(iter none (λc =>
 cnd (decide (c.1<Aa d.2.1.2.2.2.2.1))
(Ad (idx c.2.2.2.1.2.2.2.2.2.2.2.2.2.2.2.2.2.2.1 c.1) (.done none) λ_ =>
 Ad (idx c.2.2.2.1.2.2.2.2.2.2.2.2.2.2.2.2.2.2.1 c.1) (.done none) λg =>
 Ad (idx c.2.2.2.1.2.2.2.2.2.2.2.2.2.2.2.2.2.2.2.1 c.1) (.done none) λ_ =>
 Ad (idx c.2.2.2.1.2.2.2.2.2.2.2.2.2.2.2.2.2.2.2.1 c.1) (.done none) λo =>
 Ad (idx c.2.2.2.1.2.2.2.2.2.2.2.2.2.2.2.2.2.2.2.2.1 c.1) (.done none) λ_ =>
 Ad (idx c.2.2.2.1.2.2.2.2.2.2.2.2.2.2.2.2.2.2.2.2.1 c.1) (.done none) λp =>
 Ao (JV (Bb g (wr .i64 (o+p)))) λy1 =>
 Ad (idx c.2.2.2.1.2.2.2.2.2.2.2.2.2.2.2.2.2.2.1 c.1) (.done none) λ_ =>
 Ad (idx c.2.2.2.1.2.2.2.2.2.2.2.2.2.2.2.2.2.2.1 c.1) (.done none) λt =>
 Ao (JV (B8 1 t)) λy2 =>
 Ad (OE (y1,y2)) (.done none) λh =>
 cnd (true&&AA (Aa c.2.1.2.2.2+Aa (h.1::[])) 8)
(Ad (idx c.2.2.2.1.2.2.2.2.2.2.2.2.2.2.2.2.2.2.1 c.1) (.done none) λ_ =>
 Ad (idx c.2.2.2.1.2.2.2.2.2.2.2.2.2.2.2.2.2.2.1 c.1) (.done none) λ_ =>
 Ad (idx c.2.2.2.1.2.2.2.2.2.2.2.2.2.2.2.2.2.2.2.1 c.1) (.done none) λ_ =>
 Ad (idx c.2.2.2.1.2.2.2.2.2.2.2.2.2.2.2.2.2.2.2.1 c.1) (.done none) λ_ =>
 Ad (idx c.2.2.2.1.2.2.2.2.2.2.2.2.2.2.2.2.2.2.2.2.1 c.1) (.done none) λ_ =>
 Ad (idx c.2.2.2.1.2.2.2.2.2.2.2.2.2.2.2.2.2.2.2.2.1 c.1) (.done none) λ_ =>
.next (wr .i64 (c.1+1),((c.2.1.1,(c.2.1.2.1,(c.2.1.2.2.1,c.2.1.2.2.2++h.1::[]))),(c.2.2.1,(((c.2.2.2.1.1.1,()),(c.2.2.2.1.2.1,(c.2.2.2.1.2.2.1,(c.2.2.2.1.2.2.2.1,(c.2.2.2.1.2.2.2.2.1,(c.2.2.2.1.2.2.2.2.2.1,(c.2.2.2.1.2.2.2.2.2.2.1,(c.2.2.2.1.2.2.2.2.2.2.2.1,(c.2.2.2.1.2.2.2.2.2.2.2.2.1,(c.2.2.2.1.2.2.2.2.2.2.2.2.2.1,(c.2.2.2.1.2.2.2.2.2.2.2.2.2.2.1,(c.2.2.2.1.2.2.2.2.2.2.2.2.2.2.2.1,(c.2.2.2.1.2.2.2.2.2.2.2.2.2.2.2.2.1,(c.2.2.2.1.2.2.2.2.2.2.2.2.2.2.2.2.2.1,(AB c.2.2.2.1.2.2.2.2.2.2.2.2.2.2.2.2.2.2.1 c.1 0,(AB c.2.2.2.1.2.2.2.2.2.2.2.2.2.2.2.2.2.2.2.1 c.1 0,(AB c.2.2.2.1.2.2.2.2.2.2.2.2.2.2.2.2.2.2.2.2.1 c.1 0,c.2.2.2.1.2.2.2.2.2.2.2.2.2.2.2.2.2.2.2.2.2))))))))))))))))),c.2.2.2.2)))))
(.done none))
(.done (Ad (G7 c.2.1) none λv =>
 Ad (G6 (3,(y.1,v.1))) none λg =>
 Ao (Cw (c.2.2.2.1.2.2.2.2.2.2.2.2.2.2.2.2.2.1,1073741824)) λy1 =>
 some (c.2.2.1,(((c.2.2.2.1.1.1,()),(c.2.2.2.1.2.1,(c.2.2.2.1.2.2.1,(c.2.2.2.1.2.2.2.1,(c.2.2.2.1.2.2.2.2.1,(c.2.2.2.1.2.2.2.2.2.1,(c.2.2.2.1.2.2.2.2.2.2.1,(c.2.2.2.1.2.2.2.2.2.2.2.1,(c.2.2.2.1.2.2.2.2.2.2.2.2.1,(c.2.2.2.1.2.2.2.2.2.2.2.2.2.1,(c.2.2.2.1.2.2.2.2.2.2.2.2.2.2.1,(c.2.2.2.1.2.2.2.2.2.2.2.2.2.2.2.1,(c.2.2.2.1.2.2.2.2.2.2.2.2.2.2.2.2.1,(y1,(c.2.2.2.1.2.2.2.2.2.2.2.2.2.2.2.2.2.2.1,(c.2.2.2.1.2.2.2.2.2.2.2.2.2.2.2.2.2.2.2.1,(c.2.2.2.1.2.2.2.2.2.2.2.2.2.2.2.2.2.2.2.2.1,y.1))))))))))))))))),(c.2.2.2.2.1,(c.2.2.2.2.2.1,(c.2.2.2.2.2.2.1,(c.2.2.2.2.2.2.2.1,(c.2.2.2.2.2.2.2.2.1,g.1)))))))))) Am ((0:Int),((d.2.1.1,(d.2.2.1.2.2.1.1,(d.2.2.1.2.2.2.2.2.2.2.2.2.2.2.2.2.1,[]))),(d.2.1,(((d.2.2.1.1.1,()),d.2.2.1.2),d.2.2.2))))))
 none)
def Zc (l:List Int):Prop:=∀x∈l,x=0
theorem Acn {l i} (h:Zc l):Zc (AB l i 0):=λx c=>(Qes c).elim (h x) id
theorem Ad9 {l i} (h:Zc l) (c:0<=i) (i1:i<Aa l):el l i=0:=h _ (Agf c i1)
structure R9 (Q:Prop) (s:Al) (rg:Ez) (ti se:Int) (out:List Int) (gr' bu' cm':List Int) (se':Int) (out':List Int):Prop where
 cnt:HV (BO s) gr' bu' cm'
 sent:As se'
 off:(ti+1).tmod s.2.2.2.2.2.2.2.2.2.1≠0\/se=4294967295->out'=out/\se'=se
 on:(ti+1).tmod s.2.2.2.2.2.2.2.2.2.1=0->se≠4294967295->se'=se+1/\∃r:Fs,r.1=s.1/\r.2.1=rg.1/\r.2.2.1=ti/\Aa r.2.2.2=BO s/\(∀m∈r.2.2.2,0<=m/\m<=65536)/\YI r/\out'=Ep (3,(se',Bg (KZ r)))/\(Q->Zc r.2.2.2)
 zero:Q->Zc bu'/\Zc cm'
theorem AcD {n gr bu cm i} (h:HV n gr bu cm) (d:0<=i) (i1:i<n):HV n (AB gr i 0) (AB bu i 0) (AB cm i 0):=by
 refine ⟨by rw[AN];exact h.g,by rw[AN];exact h.b,by rw[AN];exact h.c,λj o p=>?_⟩;rw[Jp d (by rw[h.b];exact i1),Jp d (by rw[h.g];exact i1),Jp d (by rw[h.c];exact i1)];split
 ·simp
 ·exact h.v j o p
theorem AgZ {s d now rg q rs td ag pu ey ga ca wn ti gr bu cm se n ip w was asks lights out Q} (h:St s) {lk} (E:0<=rg.1/\rg.1<=3) (a7:0<=ti/\ti<=1073741824) (hc:HV (BO s) gr bu cm) (hq:Q->Zc bu/\Zc cm) (hs:As se) :
 ∃t o p Z I,zS (n,(s,(((d,()),(now,(rg,(q,(lk,(rs,(td,(ag,(pu,(ey,(ga,(ca,(wn,(ti,(gr,(bu,(cm,se))))))))))))))))),(ip,(w,(was,(asks,(lights,out))))))))=some (s,(((d,()),(now,(rg,(q,(lk,(rs,(td,(ag,(pu,(ey,(ga,(ca,(wn,(min (ti+1) 1073741824,(t,(o,(p,Z))))))))))))))))),(ip,(w,(was,(asks,(lights,I)))))))/\R9 Q s rg ti se out t o p Z I:=by
 have np:=h.ph;unfold BO at np;have ab:= h.ok.timed.low.1;unfold As at hs;unfold zS;try simp only
 rw[Au,Zzp (by simp;omega),Aj (ti+1) (by omega) (by omega)];change ∃t o p Z I,cnd (!(ti+1).tmod s.2.2.2.2.2.2.2.2.2.1==0||_) _ _ = _/\_;have hsend:Ht se=if se=4294967295 then (0,2) else (se+1,0):=by
  unfold Ht;rw[AK];split
  ·simp_all
  ·rename_i c;have c':se≠4294967295:=by simp_all
   rw[if_neg c',Pu,Qcp (by omega) (by omega)]
 by_cases c:(ti+1).tmod s.2.2.2.2.2.2.2.2.2.1=0/\se≠4294967295
 ·rw[hsend,if_neg c.2,Zzn (by simp[c.1])];refine Ap (λz:Int×Fs×CS=>z.1) (BO s) (λz=>∃t o p lo,z.2=((s.1,(rg.1,(ti,lo))),(s,(((d,()),(now,(rg,(q,(lk,(rs,(td,(ag,(pu,(ey,(ga,(ca,(wn,(ti,(t,(o,(p,se))))))))))))))))),(ip,(w,(was,(asks,(lights,out))))))))/\HV (BO s) t o p/\Aa lo=z.1/\(∀m∈lo,0<=m/\m<=65536)/\(Q->(Zc o/\Zc p)/\Zc lo))
   (λR=>∃t o p Z I,R=some (s,(((d,()),(now,(rg,(q,(lk,(rs,(td,(ag,(pu,(ey,(ga,(ca,(wn,(min (ti+1) 1073741824,(t,(o,(p,Z))))))))))))))))),(ip,(w,(was,(asks,(lights,I)))))))/\R9 Q s rg ti se out t o p Z I) (by unfold BO;omega) (by simp) (by unfold BO;omega) ⟨gr,bu,cm,[],rfl,hc,rfl,(λm E=>by cases E),λq=>⟨hq q,λm E=>by cases E⟩⟩ (λz hI i0 i1=>?_) λz hI hz=>?_
  ·obtain⟨i,z⟩:=z;obtain⟨t,o,p,lo,a1,J,a6,X,Y⟩:=hI;simp only at i0 i1 a1 a6;subst a1;have v:=J.v i i0 i1;have eg:=A7 i0 (by rw[J.g];exact i1);have eb:=A7 i0 (by rw[J.b];exact i1);have ec:=A7 i0 (by rw[J.c];exact i1);obtain⟨x,x1,x2,x3⟩:=AcN (a:=min (el t i) (el o i+el p i)) (b:=max 1 (el t i)) (by omega) (by omega) (by omega) (by omega);have e2:∀(l:List Int) hl,∃y,idx l i=some y:=λl hl=>by obtain⟨y,hy,_⟩:=Ai (l:=l) i0 (by omega)<;>simp_all
   unfold BO at i1;try simp only
   rw[Zzp (decide_eq_true i1),Zzq eg,Zzq eg,Zzq eb,Zzq eb,Zzq ec,Zzq ec,Au,Aj (el o i+el p i) (by omega) (by omega),Ds,Zzq eg,Zzq eg,Au,ED,Zzq x1];try simp only
   rw[Zzp (VV (l:=lo) (x:=x) (b:=8) (by omega)),Zzq eg,Zzq eg,Zzq eb,Zzq eb,Zzq ec,Zzq ec,Aj (i+1) (by omega) (by omega)];refine ⟨rfl,_,_,_,_,rfl,AcD J i0 i1,by rw[Az,a6];rfl,λm E=>?_,λq=>⟨⟨Acn (Y q).1.1,Acn (Y q).1.2⟩,λm E=>?_⟩⟩;rcases List.mem_append.1 E with E|E
   ·exact X m E
   ·rcases List.mem_cons.1 E with rfl|E
    ·exact x2
    ·cases E
   ·rcases List.mem_append.1 E with E|E
    ·exact (Y q).2 m E
    ·rcases List.mem_cons.1 E with rfl|E
     ·refine x3 ?_;rw[Ad9 (Y q).1.1 i0 (by rw[J.b];unfold BO;exact i1),Ad9 (Y q).1.2 i0 (by rw[J.c];unfold BO;exact i1)];omega
     ·cases E
  ·obtain⟨i,z⟩:=z;obtain⟨t,o,p,lo,a1,J,a6,X,Y⟩:=hI;simp only at hz a1 a6;subst a1;have id:=h.ok.id;have a8:YI (s.1,(rg.1,(ti,lo))):=⟨id,E,a7,by simp only;unfold BO at hz;omega,λm E=>by have:=X m E;omega⟩;have hb:Bytes (Bg (KZ (s.1,(rg.1,(ti,lo))))):=MP (λn hn=>by
    unfold KZ at hn;simp only[Qbs,Qaz,Qdw] at hn;have:=Ak lo;unfold BO at hz;rcases hn with rfl|rfl|rfl|rfl|hn
    ·omega
    ·omega
    ·omega
    ·omega
    ·have:=X n hn;omega);have hl:=Afp (r:=(s.1,(rg.1,(ti,lo)))) (by simp only;unfold BO at hz;omega);have aa:As (se+1):=⟨by omega,by omega⟩;unfold BO at hz;try simp only
   rw[Zzn (decide_eq_false (by omega)),Zzq (XJ a8),Zzq (uG (m:=(3,(se+1,Bg (KZ (s.1,(rg.1,(ti,lo))))))) ⟨aa,by simp only;omega⟩ (by simp) hb),Au,Ka ti 1073741824 a7.1 (by omega)];refine ⟨t,o,p,se+1,_,rfl,J,aa,λhh=>?_,λ_ _=>⟨rfl,_,rfl,rfl,rfl,?_,X,a8,rfl,λq=>(Y q).2⟩,λq=>(Y q).1⟩
   ·rcases hh with hh|hh
    ·exact absurd c.1 hh
    ·exact absurd hh c.2
   ·simp only;unfold BO;omega
 ·rw[Zzp (by
   rw[hsend];by_cases c1:(ti+1).tmod s.2.2.2.2.2.2.2.2.2.1=0
   ·rw[if_pos (Qdr λhh=>c ⟨c1,hh⟩)];simp
   ·simp[c1]),Au,Ka ti 1073741824 a7.1 (by omega)];exact ⟨gr,bu,cm,se,out,rfl,hc,hs,λ_=>⟨rfl,rfl⟩,λh1 h2=>absurd ⟨h1,h2⟩ c,hq⟩
end Go.Proofs.YtlgpjdjcbincgaaGreatDoor
namespace Go.Proofs.YtlgpjdjcbincgaaGreatDoor
open Go.Den
def AaK (s:Al) (z:Int×CS):Option CS :=
 iter none (λd =>
 cnd (decide (d.1<Aa s.2.2.2.2.1))
(Ad (GA (d.2.1,(d.2.2.1.2.1,d.1))) (.done none) λp =>
 cnd (!p.1)
(.next (wr .i64 (d.1+1),(d.2.1,(((d.2.2.1.1.1,()),d.2.2.1.2),d.2.2.2))))
(iter (.done none) (λc =>
 cnd (decide (c.1<Aa d.2.1.2.2.2.2.2.1))
(Ad (idx d.2.1.2.2.2.2.2.1 c.1) (.done (.done none)) λg =>
 cnd (g.1==d.1)
(Ad (idx c.2.2.2.1.2.2.2.2.2.2.2.2.1 c.1) (.done (.done none)) λh =>
 cnd h.1
(Ad (idx c.2.2.2.2.2.2.1 c.1) (.done (.done none)) λo =>
 cnd (!o.1)
(Ad (idx c.2.2.2.1.2.2.2.2.2.2.2.2.2.2.2.2.2.2.2.2.1 d.1) (.done (.done none)) λ_ =>
 Ad (idx c.2.2.2.1.2.2.2.2.2.2.2.2.2.2.2.2.2.2.2.2.1 d.1) (.done (.done none)) λt =>
 Ao (Cw (t,1048576)) λy =>
 Ad (idx c.2.2.2.1.2.2.2.2.2.2.2.2.2.2.2.2.2.2.2.2.1 d.1) (.done (.done none)) λ_ =>
 Ad (idx c.2.2.2.1.2.2.2.2.2.2.2.2.2.2.2.2.2.2.2.2.1 d.1) (.done (.done none)) λ_ =>
.next (wr .i64 (c.1+1),(true,(c.2.2.1,(((c.2.2.2.1.1.1,()),(c.2.2.2.1.2.1,(c.2.2.2.1.2.2.1,(c.2.2.2.1.2.2.2.1,(c.2.2.2.1.2.2.2.2.1,(c.2.2.2.1.2.2.2.2.2.1,(c.2.2.2.1.2.2.2.2.2.2.1,(c.2.2.2.1.2.2.2.2.2.2.2.1,(c.2.2.2.1.2.2.2.2.2.2.2.2.1,(c.2.2.2.1.2.2.2.2.2.2.2.2.2.1,(c.2.2.2.1.2.2.2.2.2.2.2.2.2.2.1,(c.2.2.2.1.2.2.2.2.2.2.2.2.2.2.2.1,(c.2.2.2.1.2.2.2.2.2.2.2.2.2.2.2.2.1,(c.2.2.2.1.2.2.2.2.2.2.2.2.2.2.2.2.2.1,(c.2.2.2.1.2.2.2.2.2.2.2.2.2.2.2.2.2.2.1,(c.2.2.2.1.2.2.2.2.2.2.2.2.2.2.2.2.2.2.2.1,(AB c.2.2.2.1.2.2.2.2.2.2.2.2.2.2.2.2.2.2.2.2.1 d.1 y,c.2.2.2.1.2.2.2.2.2.2.2.2.2.2.2.2.2.2.2.2.2))))))))))))))))),c.2.2.2.2)))))
(.next (wr .i64 (c.1+1),(true,(c.2.2.1,(((c.2.2.2.1.1.1,()),c.2.2.2.1.2),c.2.2.2.2))))))
(.next (wr .i64 (c.1+1),(c.2.1,(c.2.2.1,(((c.2.2.2.1.1.1,()),c.2.2.2.1.2),c.2.2.2.2))))))
(.next (wr .i64 (c.1+1),(c.2.1,(c.2.2.1,(((c.2.2.2.1.1.1,()),c.2.2.2.1.2),c.2.2.2.2))))))
(.done (CT (λg =>
 Ad (idx g.2.1.2.2.2.2.2.2.2.2.2.2.2.2.2.2.1 d.1) (.done none) λ_ =>
 Ad (idx g.2.1.2.2.2.2.2.2.2.2.2.2.2.2.2.2.1 d.1) (.done none) λo =>
 Ao (Cw (o,1048576)) λy =>
 Ad (idx g.2.1.2.2.2.2.2.2.2.2.2.2.2.2.2.2.1 d.1) (.done none) λ_ =>
 Ad (idx g.2.1.2.2.2.2.2.2.2.2.2.2.2.2.2.2.1 d.1) (.done none) λ_ =>
.next (wr .i64 (d.1+1),(g.1,(((g.2.1.1.1,()),(g.2.1.2.1,(g.2.1.2.2.1,(g.2.1.2.2.2.1,(g.2.1.2.2.2.2.1,(g.2.1.2.2.2.2.2.1,(g.2.1.2.2.2.2.2.2.1,(g.2.1.2.2.2.2.2.2.2.1,(g.2.1.2.2.2.2.2.2.2.2.1,(g.2.1.2.2.2.2.2.2.2.2.2.1,(g.2.1.2.2.2.2.2.2.2.2.2.2.1,(g.2.1.2.2.2.2.2.2.2.2.2.2.2.1,(g.2.1.2.2.2.2.2.2.2.2.2.2.2.2.1,(g.2.1.2.2.2.2.2.2.2.2.2.2.2.2.2.1,(AB g.2.1.2.2.2.2.2.2.2.2.2.2.2.2.2.2.1 d.1 y,g.2.1.2.2.2.2.2.2.2.2.2.2.2.2.2.2.2))))))))))))))),g.2.2)))) λk =>
 cnd c.2.1
(Ad (idx c.2.2.2.1.2.2.2.2.2.2.2.2.2.2.2.2.2.2.2.1 d.1) (.done none) λ_ =>
 Ad (idx c.2.2.2.1.2.2.2.2.2.2.2.2.2.2.2.2.2.2.2.1 d.1) (.done none) λh =>
 Ao (Cw (h,1048576)) λy =>
 Ad (idx c.2.2.2.1.2.2.2.2.2.2.2.2.2.2.2.2.2.2.2.1 d.1) (.done none) λ_ =>
 Ad (idx c.2.2.2.1.2.2.2.2.2.2.2.2.2.2.2.2.2.2.2.1 d.1) (.done none) λ_ =>
 k (c.2.2.1,(((c.2.2.2.1.1.1,()),(c.2.2.2.1.2.1,(c.2.2.2.1.2.2.1,(c.2.2.2.1.2.2.2.1,(c.2.2.2.1.2.2.2.2.1,(c.2.2.2.1.2.2.2.2.2.1,(c.2.2.2.1.2.2.2.2.2.2.1,(c.2.2.2.1.2.2.2.2.2.2.2.1,(c.2.2.2.1.2.2.2.2.2.2.2.2.1,(c.2.2.2.1.2.2.2.2.2.2.2.2.2.1,(c.2.2.2.1.2.2.2.2.2.2.2.2.2.2.1,(c.2.2.2.1.2.2.2.2.2.2.2.2.2.2.2.1,(c.2.2.2.1.2.2.2.2.2.2.2.2.2.2.2.2.1,(c.2.2.2.1.2.2.2.2.2.2.2.2.2.2.2.2.2.1,(c.2.2.2.1.2.2.2.2.2.2.2.2.2.2.2.2.2.2.1,(AB c.2.2.2.1.2.2.2.2.2.2.2.2.2.2.2.2.2.2.2.1 d.1 y,c.2.2.2.1.2.2.2.2.2.2.2.2.2.2.2.2.2.2.2.2)))))))))))))))),c.2.2.2.2)))
(k (c.2.2.1,(((c.2.2.2.1.1.1,()),c.2.2.2.1.2),c.2.2.2.2)))))) Am ((0:Int),(false,(d.2.1,(((d.2.2.1.1.1,()),d.2.2.1.2),d.2.2.2))))))
(.done (zS d))) Am z
theorem AcC {n gr bu cm i} (h:HV n gr bu cm) (d:0<=i) (i1:i<n):HV n gr bu (AB cm i (min (el cm i+1) 1048576)):=by refine ⟨h.g,h.b,by rw[AN];exact h.c,λj o p=>?_⟩;have v:=h.v j o p;rw[Jp d (by rw[h.c];exact i1)]<;>grind
theorem AaJ {n gr bu cm i} (h:HV n gr bu cm) (d:0<=i) (i1:i<n) (b:Bool):HV n (AB gr i (min (el gr i+1) 1048576)) (if b=true then AB bu i (min (el bu i+1) 1048576) else bu) cm:=by
 refine ⟨by rw[AN];exact h.g,?_,h.c,λj o p=>?_⟩
 ·split
  ·rw[AN];exact h.b
  ·exact h.b
 ·have v:=h.v j o p;rw[Jp d (by rw[h.g];exact i1)];cases b with
  |true =>rw[if_pos rfl,Jp d (by rw[h.b];exact i1)]<;>grind
  |false =>grind
theorem AeA {s d now rg q rs td ag pu ey ga ca wn ti gr bu cm se ip w was asks lights out} (h:St s) {lk} (hG:E8 s now) (ab:Aa pu=Ct s) (ad:Aa was=Ct s) (hm:0<=rg.1/\rg.1<=3) (a8:0<=ti/\ti<=1073741824) (hc:HV (BO s) gr bu cm) (hs:As se) :
 ∃E y o Y J,AaK s (0,(s,(((d,()),(now,(rg,(q,(lk,(rs,(td,(ag,(pu,(ey,(ga,(ca,(wn,(ti,(gr,(bu,(cm,se))))))))))))))))),(ip,(w,(was,(asks,(lights,out))))))))=some (s,(((d,()),(now,(rg,(q,(lk,(rs,(td,(ag,(pu,(ey,(ga,(ca,(wn,(min (ti+1) 1073741824,(E,(y,(o,Y))))))))))))))))),(ip,(w,(was,(asks,(lights,J)))))))/\R9 ((∀p∈pu,p.1=false)/\Zc bu/\Zc cm) s rg ti se out E y o Y J:=by
 have np:=h.ph;have ne:=h.ne;unfold AaK;refine Ap (λz:Int×CS=>z.1) (BO s) (λz=>∃E y o,z.2=(s,(((d,()),(now,(rg,(q,(lk,(rs,(td,(ag,(pu,(ey,(ga,(ca,(wn,(ti,(E,(y,(o,se))))))))))))))))),(ip,(w,(was,(asks,(lights,out)))))))/\HV (BO s) E y o/\((∀p∈pu,p.1=false)/\Zc bu/\Zc cm->Zc y/\Zc o))
  (λR=>∃E y o Y J,R=some (s,(((d,()),(now,(rg,(q,(lk,(rs,(td,(ag,(pu,(ey,(ga,(ca,(wn,(min (ti+1) 1073741824,(E,(y,(o,Y))))))))))))))))),(ip,(w,(was,(asks,(lights,J)))))))/\R9 ((∀p∈pu,p.1=false)/\Zc bu/\Zc cm) s rg ti se out E y o Y J) (by omega) (by simp) (by omega) ⟨gr,bu,cm,rfl,hc,λq=>q.2⟩ (λz hI i0 i1=>?_) λz hI hz=>?_
 ·obtain⟨i,t⟩:=z;obtain⟨E,y,o,Z,I,X⟩:=hI;simp only at i0 i1 Z;subst Z;have a6:Ti 0 s now i=(Hq s now i,0):=by unfold BO at i1;unfold Ti;rw[if_neg (by simp),if_neg (by rw[hG.may.st.n];simp),if_neg (by omega)]
  try simp only
  rw[Zzp (show decide (i<Aa s.2.2.2.2.1)=true from decide_eq_true i1),Zzq (j5 h.f (λ_=>h.so) h.chk),a6,Aj (i+1) (by omega) (by omega)];try simp only
  by_cases cf:Hq s now i=true
  ·rw[Zzn (by rw[cf];rfl)];refine Ap (λz:Int×Bool×CS=>z.1) (Ct s) (λz=>∃o,z.2.2=(s,(((d,()),(now,(rg,(q,(lk,(rs,(td,(ag,(pu,(ey,(ga,(ca,(wn,(ti,(E,(y,(o,se))))))))))))))))),(ip,(w,(was,(asks,(lights,out)))))))/\HV (BO s) E y o/\((∀p∈pu,p.1=false)/\Zc bu/\Zc cm->z.2.1=false/\Zc y/\Zc o))
    (λR=>Cq (λz:Int×CS=>z.1) (λz=>∃E y o,z.2=(s,(((d,()),(now,(rg,(q,(lk,(rs,(td,(ag,(pu,(ey,(ga,(ca,(wn,(ti,(E,(y,(o,se))))))))))))))))),(ip,(w,(was,(asks,(lights,out)))))))/\HV (BO s) E y o/\((∀p∈pu,p.1=false)/\Zc bu/\Zc cm->Zc y/\Zc o))
      (λR=>∃E y o Y J,R=some (s,(((d,()),(now,(rg,(q,(lk,(rs,(td,(ag,(pu,(ey,(ga,(ca,(wn,(min (ti+1) 1073741824,(E,(y,(o,Y))))))))))))))))),(ip,(w,(was,(asks,(lights,J)))))))/\R9 ((∀p∈pu,p.1=false)/\Zc bu/\Zc cm) s rg ti se out E y o Y J) i R) (by omega) (by simp) ne.1 ⟨o,rfl,I,λq=>⟨rfl,X q⟩⟩ (λz hI j0 j1=>?_) λz hI hz=>?_
   ·obtain⟨j,b,t⟩:=z;obtain⟨o,Z,I,X⟩:=hI;simp only at j0 j1 Z;subst Z;obtain⟨e,he,_⟩:=Ai j0 j1;obtain⟨p,hp,a7⟩:=Ai (l:=pu) j0 (by omega);obtain⟨p0,aa,_⟩:=Ai (l:=was) j0 (by omega);have ec:=A7 i0 (by rw[I.c];exact i1);have v:=I.v i i0 i1;try simp only
    rw[Zzp (show decide (j<Aa s.2.2.2.2.2.1)=true from decide_eq_true j1),Zzq he,Aj (j+1) (by omega) (by omega)];by_cases ci:e.1=i
    ·rw[Zzp (by simp[ci]),Zzq hp];cases a1:p.1 with
     |true =>
      rw[Zzp rfl,Zzq aa];cases ae:p0.1 with
      |true =>rw[Zzn (b:=!true) rfl];exact ⟨rfl,o,rfl,I,λq=>by rw[q.1 p a7] at a1;cases a1⟩
      |false =>rw[Zzp (b:=!false) rfl,Zzq ec,Zzq ec,Au,Zzq ec,Zzq ec,Ka (el o i) 1048576 (by omega) (by omega)];exact ⟨rfl,_,rfl,AcC I i0 i1,λq=>by rw[q.1 p a7] at a1;cases a1⟩
     |false =>rw[Zzn rfl];exact ⟨rfl,o,rfl,I,X⟩
    ·rw[Zzn (by simpa using ci)];exact ⟨rfl,o,rfl,I,X⟩
   ·obtain⟨j,b,t⟩:=z;obtain⟨o,Z,I,X⟩:=hI;simp only at hz Z;subst Z;have eg:=A7 i0 (by rw[I.g];exact i1);have eb:=A7 i0 (by rw[I.b];exact i1);have v:=I.v i i0 i1;try simp only
    rw[Zzn (decide_eq_false (by unfold Ct at hz;omega))];show Cq _ _ _ _ (CT _ _);rw[ZK (s,(((d,()),(now,(rg,(q,(lk,(rs,(td,(ag,(pu,(ey,(ga,(ca,(wn,(ti,(E,(if b=true then AB y i (min (el y i+1) 1048576) else y,(o,se))))))))))))))))),(ip,(w,(was,(asks,(lights,out))))))) λk=>by
     try simp only
     cases b with
     |true=>rw[Zzp rfl,if_pos rfl,Zzq eb,Zzq eb,Au,Zzq eb,Zzq eb,Ka (el y i) 1048576 (by omega) (by omega)]
     |false=>rw[Zzn rfl,if_neg (by simp)]];try simp only
    rw[Zzq eg,Zzq eg,Au,Zzq eg,Zzq eg,Ka (el E i) 1048576 (by omega) (by omega)];exact ⟨rfl,_,_,_,rfl,AaJ I i0 i1 b,λq=>by have hb:b=false:=(X q).1;rw[hb];exact (X q).2⟩
  ·rw[Zzp (by rw[Bool.eq_false_iff.2 cf];rfl)];exact ⟨rfl,E,y,o,rfl,I,X⟩
 ·obtain⟨i,t⟩:=z;obtain⟨E,y,o,Z,I,X⟩:=hI;simp only at hz Z;subst Z;try simp only
  rw[Zzn (decide_eq_false (by unfold BO at hz;omega))];exact AgZ h hm a8 I X hs
end Go.Proofs.YtlgpjdjcbincgaaGreatDoor
namespace Go.Proofs.YtlgpjdjcbincgaaGreatDoor
open Go.Den
abbrev LD (x:Be):List Int:=x.1.1
abbrev XH (x:Be):Bx:=x.2.1
abbrev LRg (x:Be):Ez:=x.2.2.1
abbrev LQ (x:Be):Mf:=x.2.2.2.1
abbrev LLk (x:Be):DJ:=x.2.2.2.2.1
abbrev LRs (x:Be):List Int:=x.2.2.2.2.2.1
abbrev LTd (x:Be):AJ:=x.2.2.2.2.2.2.1
abbrev LAg (x:Be):Int:=x.2.2.2.2.2.2.2.1
abbrev LPu (x:Be):List Ji:=x.2.2.2.2.2.2.2.2.1
abbrev LEy (x:Be):List Bl:=x.2.2.2.2.2.2.2.2.2.1
abbrev LGa (x:Be):List C7:=x.2.2.2.2.2.2.2.2.2.2.1
abbrev LCa (x:Be):Int:=x.2.2.2.2.2.2.2.2.2.2.2.1
abbrev LWn (x:Be):Int:=x.2.2.2.2.2.2.2.2.2.2.2.2.1
abbrev LTi (x:Be):Int:=x.2.2.2.2.2.2.2.2.2.2.2.2.2.1
abbrev LGr (x:Be):List Int:=x.2.2.2.2.2.2.2.2.2.2.2.2.2.2.1
abbrev LBu (x:Be):List Int:=x.2.2.2.2.2.2.2.2.2.2.2.2.2.2.2.1
abbrev LCm (x:Be):List Int:=x.2.2.2.2.2.2.2.2.2.2.2.2.2.2.2.2.1
abbrev LSe (x:Be):Int:=x.2.2.2.2.2.2.2.2.2.2.2.2.2.2.2.2.2
structure Ran (s:Al) (x:Be) (ip:Kw) (y:Be) (w:List Hi) (asks lights out:List Int) (told well:Bool) (ups:Int):Prop where
 hear:YC s (LLk x) (LRs x) (LTd x) (LAg x) ip.1 (LLk y) (LRs y) (LTd y) (LAg y) told
 puts:Ou (LD x) w/\(told=false->w=[])/\(w=[]/\(told=true->(Bc (LD x)).2=0/\Aa (Bc (LD x)).1.2.2=1)\/∃e,Kx (LD x) (LRg x).1 (LTd y::[]) w e)
 disk:LD y=doV (Aa w) 0 0 w (LD x)
 see:jI s (XH x) (LQ x) ip (LPu x) (LEy x) (LCa x) ups (LCa y)
 pu:LPu y=puV ip.2.1 (LPu x)
 ga:LGa y=gaV (LPu y) (LGa x)
 ey:LEy y=Ey.C4 s ups (LEy x)
 wn:LWn y=wnV s (XH x) (LWn x) ip.2.2.1
 rg:LRg y=DT (s,(LRg x,K5 s (LTd y) (LAg y) (LWn y) (Bc (LD y)) ip.2.2.2.2.2.2 well))
 ask:AdT s (XH x) (LRg y) (LQ x) (LTd y) (LCa y) (LTi x) (Bc (LD y)).1 (LQ y) asks
 wl:Ct s=0->well=true
 lit:lights=ET s (XH x) asks
 now:XH y=Dr s (XH x) lights
 tell:R9 ((∀p∈LPu y,p.1=false)/\Zc (LBu x)/\Zc (LCm x)) s (LRg y) (LTi x) (LSe x) [] (LGr y) (LBu y) (LCm y) (LSe y) out
 ti:LTi y=min (LTi x+1) 1073741824
structure Acq (s:Al) (x:Be) (y:Be) (lights out:List Int):Prop where
 disk:A4 (LD y)
 torn:∃w td wh tn,(w=[]\/D6 s td/\∃e,Kx (LD x) (LRg x).1 (td::[]) w e)/\(0<=wh/\wh<=Aa w)/\(0<=tn/\tn<=64)/\LD y=doV wh tn 0 w (LD x)
 loc:y=WG s (XH x) (LTi x) (LSe x) (LD y)
 lit:lights=JW s
 mute:out=[]
theorem Ahv {s x ip} (h:St s) (o:E9 s x) (hb:ip.2.2.1.length<=maxLen) :
 ∃y w was asks lights out,Gb (s,(x,(ip,([],([],([],([],[])))))))=some (s,(y,(ip,(w,(was,(asks,(lights,out)))))))/\E9 s y /\
  (ip.2.2.2.1=true->Acq s x y lights out)/\(ip.2.2.2.1=false->∃told well Y,Ran s x ip y w asks lights out told well Y):=by
 obtain⟨⟨d,⟨⟩⟩,now,rg,q,lk,rs,td,ag,pu,ey,ga,ca,wn,ti,gr,bu,cm,se⟩:=x
 have hd:= o.disk
 have al:0<=ti/\ti<=1073741824:=o.tick
 have Z:= o.rung
 have hG:= o.now
 have an:= o.sent
 have ao:= o.pn
 obtain⟨E,I,t,v,told,h1,H⟩:=Agx h o
 have aq:E9 s ((d,()),(now,(rg,(q,(E,(I,(t,(v,(pu,(ey,(ga,(ca,(wn,(ti,(gr,(bu,(cm,se))))))))))))))))):=⟨hd,hG,Z,o.seq,H.link,H.rest,H.plan,H.age,o.pn,o.pulse,o.eyes,o.gn,o.gaps,o.calls,o.wrong,o.tick,o.cnt,o.sent⟩
 obtain⟨w,ae,ab,af,ar⟩:∃w,(if told=true then Fj (s,(((d,()),(now,(rg,(q,(E,(I,(t,(v,(pu,(ey,(ga,(ca,(wn,(ti,(gr,(bu,(cm,se))))))))))))))))),(ip,([],([],([],([],[]))))))) else some (s,(((d,()),(now,(rg,(q,(E,(I,(t,(v,(pu,(ey,(ga,(ca,(wn,(ti,(gr,(bu,(cm,se))))))))))))))))),(ip,([],([],([],([],[]))))))))=some (s,(((d,()),(now,(rg,(q,(E,(I,(t,(v,(pu,(ey,(ga,(ca,(wn,(ti,(gr,(bu,(cm,se))))))))))))))))),(ip,(w,([],([],([],[])))))))/\Ou d w/\(told=false->w=[])/\(w=[]/\(told=true->(Bc d).2=0/\Aa (Bc d).1.2.2=1)\/∃e,Kx d rg.1 (t::[]) w e):=by
  cases told with
  |true =>
   obtain⟨ps,p1,p2⟩:=AfQ (ip:=ip) (r:=([],([],([],[])))) h aq;refine ⟨ps,by simp_all,?_,λhh=>(by cases hh),p2.imp_left λh=>⟨h.1,λ_=>h.2⟩⟩;rcases p2 with p2|⟨e,p2⟩
   ·rw[p2.1];exact TO d
   ·exact p2.ok
  |false=>exact ⟨[],by rw[if_neg (by simp)],TO d,λ_=>rfl,.inl ⟨rfl,nofun⟩⟩
 unfold Gb
 rw[ZK (s,(((d,()),(now,(rg,(q,(E,(I,(t,(v,(pu,(ey,(ga,(ca,(wn,(ti,(gr,(bu,(cm,se))))))))))))))))),(ip,(w,([],([],([],[]))))))) λk=>by
  try simp only
  rw[Zzq h1];try simp only
  cases told with
  |true =>rw[if_pos rfl] at ae;rw[Zzp rfl,Zzq ae]
  |false =>rw[if_neg (by simp)] at ae;have ax:=af rfl;subst ax;rw[Zzn rfl]]
 try simp only
 cases ay:ip.2.2.2.1 with
 |true =>
  obtain⟨wh,tn,dw,dt,d1,d3⟩:=AgC h aq ab;rw[Zzp rfl,Zzq d3];refine ⟨WG s now ti se (doV wh tn 0 w d),w,[],[],JW s,[],rfl,Ac8 h d1 hG al.1 an,λ_=>⟨d1,⟨w,t,wh,tn,?_,dw,dt,rfl⟩,rfl,rfl,rfl⟩,λhh=>by cases hh⟩;cases told with
  |true=>exact ar.imp (λh=>h.1) λh=>⟨(H.yes rfl).1,h⟩
  |false=>exact .inl (af rfl)
 |false =>
  have au:=AfW (torn:=0) hd ab (Ak w) (by omega) (by omega) (by omega);have a6:=Sq (whole:=Aa w) (torn:=0) hd ab;generalize az:doV (Aa w) 0 0 w d=d' at au a6;have b0:E9 s ((d',()),(now,(rg,(q,(E,(I,(t,(v,(pu,(ey,(ga,(ca,(wn,(ti,(gr,(bu,(cm,se))))))))))))))))):=⟨a6.1,hG,Z,o.seq,H.link,H.rest,H.plan,H.age,o.pn,o.pulse,o.eyes,o.gn,o.gaps,o.calls,o.wrong,o.tick,o.cnt,o.sent⟩;obtain⟨Y,ah,s1,S⟩:=Ahw (ip:=ip) h b0;have ai:∀p∈puV ip.2.1 pu,Px p:=λp hp=>by obtain⟨j,hj⟩:=BZ hp;obtain⟨j0,j1,_⟩:=Ag hj;rw[Ya] at j1;obtain⟨p0,b1,b2⟩:=Ai j0 j1;rw[u9 b1] at hj;rw[<-Qag hj];exact Adp (o.pulse p0 b2)
  have aj:∀g∈gaV (puV ip.2.1 pu) ga,Yz g:=λg hg=>by obtain⟨j,hj⟩:=BZ hg;obtain⟨j0,j1,_⟩:=Ag hj;rw[X9] at j1;obtain⟨g0,b3,b7⟩:=Ai j0 j1;rw[u7 b3] at hj;rw[<-Qag hj];exact Agk (o.gaps g0 b7)
  have a7:E9 s ((d',()),(now,(rg,(q,(E,(I,(t,(v,(puV ip.2.1 pu,(Ey.C4 s Y ey,(gaV (puV ip.2.1 pu) ga,(ah,(wn,(ti,(gr,(bu,(cm,se))))))))))))))))):=⟨a6.1,hG,Z,o.seq,H.link,H.rest,H.plan,H.age,by simp only;rw[Ya];exact ao,ai,S.eyes,by simp only;rw[X9];exact o.gn,aj,S.calls,o.wrong,o.tick,o.cnt,o.sent⟩;obtain⟨well,f1,f2⟩:=AeF h a7 hb;have aa:=Ad8 (s:=s) (now:=now) (back:=ip.2.2.1) o.wrong;generalize b8:wnV s now wn ip.2.2.1=a8 at f1 aa;have av:=Ld.Abs (s:=s) (r:=rg) (K5 s t v a8 (Bc d') ip.2.2.2.2.2.2 well) h.f h.ok Z;have X:=Ld.AfA (s:=s) (r:=rg) (K5 s t v a8 (Bc d') ip.2.2.2.2.2.2 well) Z h.ok.timed.heal.2;have ak:=Ld.Ab3 s rg (K5 s t v a8 (Bc d') ip.2.2.2.2.2.2 well) Z;generalize ba:DT (s,(rg,K5 s t v a8 (Bc d') ip.2.2.2.2.2.2 well))=ad at av X ak;have bb:E9 s ((d',()),(now,(ad,(q,(E,(I,(t,(v,(puV ip.2.1 pu,(Ey.C4 s Y ey,(gaV (puV ip.2.1 pu) ga,(ah,(a8,(ti,(gr,(bu,(cm,se))))))))))))))))):=⟨a6.1,hG,X,o.seq,H.link,H.rest,H.plan,H.age,a7.pn,ai,S.eyes,a7.gn,aj,S.calls,aa,o.tick,o.cnt,o.sent⟩;have bc:ad.1=2->∃p,idx (Bc d').1.2.2 0=some p/\Dq p:=λhh=>by
   have hf:=(ak.stored hh).1;unfold K5 at hf;simp only[Qab,beq_iff_eq,decide_eq_true_eq] at hf;obtain⟨p,q1,q2⟩:=Ai (l:=(Bc d').1.2.2) (i:=0) (by omega) hf.2;refine ⟨p,q1,?_⟩;rcases dH a6.1 with hk|hk
   ·exact hk.2.plans p q2
   ·have:=hf.1.2;omega
  have bd:ad.1=3->D6 s t:=λhh=>by
   have hf:=(ak.master hh).1;unfold K5 at hf;simp only[Qab] at hf;rcases H.plan with hp|hp
   ·exact hp
   ·rw[hp] at hf;exact absurd hf.1 (by decide)
  obtain⟨q',J,a1,A⟩:=Ahf (ip:=ip) (kp:=(Bc d').1) (w:=w) (was:=pu) (asks:=[]) (lights:=[]) (out:=[]) h bb bc bd;obtain⟨t1,t2,t3⟩:=Vl h hG A.len;obtain⟨bf,bg,bh,bj,aw,c1,T⟩:=AeA (s:=s) (d:=d') (now:=Dr s now (ET s now J)) (rg:=ad) (q:=q') (lk:=E) (rs:=I) (td:=t) (ag:=v) (pu:=puV ip.2.1 pu) (ey:=Ey.C4 s Y ey) (ga:=gaV (puV ip.2.1 pu) ga) (ca:=ah) (wn:=a8) (ti:=ti) (gr:=gr) (bu:=bu) (cm:=cm) (se:=se) (ip:=ip) (w:=w) (was:=pu) (asks:=J) (lights:=ET s now J) (out:=[]) h t3 a7.pn ao X.mode al o.cnt an;have bk:=h.ph;rw[Zzn rfl,Zzq au];try simp only
  rw[Zzq s1];try simp only
  rw[Zzq f1];try simp only
  rw[Zzq av];try simp only
  rw[Zzq a1];try simp only
  rw[Zzq t1];try simp only
  rw[Zzq t2,Zzq (UZ (l:=gr) (by have:=o.cnt.g;simp only at this;omega)),Zzq (UZ (l:=bu) (by have:=o.cnt.b;simp only at this;omega)),Zzq (UZ (l:=cm) (by have:=o.cnt.c;simp only at this;omega))];refine ⟨_,w,pu,J,_,aw,c1,?_,λhh=>(by cases hh),λ_=>⟨told,well,Y,?_⟩⟩
  ·exact ⟨a6.1,t3,X,A.seq,H.link,H.rest,H.plan,H.age,a7.pn,ai,S.eyes,a7.gn,aj,S.calls,aa,⟨by simp only;omega,by simp only;omega⟩,T.cnt,T.sent⟩
  ·exact ⟨H,⟨ab,af,ar⟩,az.symm,S,rfl,rfl,rfl,b8.symm,ba.symm,A,f2,rfl,rfl,T,rfl⟩
end Go.Proofs.YtlgpjdjcbincgaaGreatDoor
namespace Go.Proofs.YtlgpjdjcbincgaaGreatDoor
open Go.Den
theorem uA {s x} (h:St s) (c:E9 s x):F3 (s,x)=some true:=by
 obtain⟨⟨d,⟨⟩⟩,now,rg,q,lk,rs,td,ag,pu,ey,ga,ca,wn,ti,gr,bu,cm,se⟩:=x;have ne:=h.ne;have Y:=h.ph;have y:Aa pu=Ct s:=c.pn;have E:Aa ga=Ct s:=c.gn;have o:Ey.Fu 0 s ey=0:=c.eyes;have t:= c.calls;obtain⟨_,Z,_⟩:=Ey.PA o;unfold F3;try simp only
 rw[Zzn (by rw[y,E];simp[Ct])];refine Ap (λi:Int=>i) (Ct s) (λ_=>True) (λR=>R=some true) (by omega) (by omega) ne.1 trivial (λi _ X i1=>?_) λi _ hz=>?_
 ·obtain⟨g,hg,I⟩:=Ai (l:=ga) X (by omega);obtain⟨p,hp,J⟩:=Ai (l:=pu) X (by omega);have v:=c.pulse p J;unfold Px at v;try simp only
  rw[Zzp (show decide (i<Aa s.2.2.2.2.2.1)=true from decide_eq_true i1),Zzq hg,Au,Zzq hp,Au,Zzn (by unfold NG DB;rw[Au,(c.gaps g I).1,Zzn (by rfl),Zzn (by simp)];simp;omega),Aj (i+1) (by omega) (by omega)];exact ⟨rfl,trivial⟩
 ·obtain⟨n,n1,_⟩:=Ey.Zj (l:=ey) (λ_=>Ey.mO h.ok) h.chk (by unfold Ct at ne;omega) t.1;have ha:Ey.S0 s ca (-1)=0:=by unfold Ey.S0;have v:=t.2;unfold BO at v Y;rw[if_neg (by rw[v];simp),if_neg (by omega)]
  rw[o,if_neg (by simp),ha,if_neg (by simp)] at n1;try simp only
  rw[Zzn (decide_eq_false (by unfold Ct at hz;omega)),Zzq n1];rfl
theorem rS {s x} (h:St s) (I:E9 s x):F1 (s,x)=some true:=by
 obtain⟨⟨d,⟨⟩⟩,now,rg,q,lk,rs,td,ag,pu,ey,ga,ca,wn,ti,gr,bu,cm,se⟩:=x;have Y:=h.ph;have o:HV (BO s) gr bu cm:=I.cnt;have hg:=o.g;have J:=o.b;have t:=o.c;unfold F1;try simp only
 rw[Zzn (by rw[hg,J,t];simp[BO])];refine Ap (λi:Int=>i) (BO s) (λ_=>True) (λR=>R=some true) (by omega) (by omega) (by omega) trivial (λi _ p i1=>?_) λi _ X=>?_
 ·have v:=o.v i p i1;have y:=A7 (l:=gr) p (by omega);have E:=A7 (l:=bu) p (by omega);have sp:∀n:Int,0<=n->n<=1048576->(!DB n)=false:=λn n0 n1=>by unfold DB;simp;omega
  try simp only
  rw[Zzp (show decide (i<Aa s.2.2.2.2.1)=true from decide_eq_true i1),Zzq y,Au,Zzn (sp _ (by omega) (by omega)),Zzq E,Au,Zzn (sp _ (by omega) (by omega)),Zzq (A7 (l:=cm) p (by omega)),Au,Zzn (sp _ (by omega) (by omega)),Zzq E,Zzq y,Zzn (decide_eq_false (by omega)),Aj (i+1) (by omega) (by omega)];exact ⟨rfl,trivial⟩
 ·try simp only
  rw[Zzn (decide_eq_false (by unfold BO at X;omega))];rfl
theorem yA:∀l i,vT l->IN l 126 i = -1:=by
 intro l;induction l with
 |nil=>intro i _;rfl
 |cons a l c =>intro i h;unfold IN;rw[if_neg (h a (Qbr ..))];exact c _ λb d=>h b (Qak _ d)
theorem sW {s p} (h:St s) (c:UC s p):∃b,En (s,p)=some (b,0)/\(b||EX p)=true:=by
 have d:SQ p:=by
  rcases c with c|c
  ·exact (Nd (KN h c)).1
  ·rw[c];exact ⟨by simp,by simp[maxLen],λm g=>by cases g⟩
 obtain⟨b,o,t⟩:=Pn.TZ h.f h.ok h.chk d;refine ⟨b,o,?_⟩;rcases c with c|c
 ·simp_all
 ·subst c;rw[show EX (0,(0,[]))=true from by decide,Bool.or_true]
theorem Ae0 {s x} (h:St s) (c:E9 s x):Oa (s,x)=some true:=by
 have Y:=c;obtain⟨⟨d,⟨⟩⟩,now,rg,q,lk,rs,td,ag,pu,ey,ga,ca,wn,ti,gr,bu,cm,se⟩:=x;have J:= c.disk;have y:YP s q:=c.seq;have Z:0<=ag/\ag<=1048576:=c.age;have a1:0<=wn/\wn<=1048576:=c.wrong;have a6:0<=ti/\ti<=1073741824:=c.tick;have X:= c.now;have p:= c.link;have v:Uw rs:=c.rest;obtain⟨b,p1,p2⟩:=sW h c.told;have n1:=h.so.n1;have n2:=h.so.n2;have q0:=y.p0;have q1:=y.p1;have q2:=y.s0;have q3:=y.s1;have o:=AeK (g:=0) (λ_=>h.so) h.chk (by rw[X.may.st.n];omega);unfold yS at o;rw[if_neg (by simp),if_neg (by simpa using X),if_neg (by omega)] at o;have E:=Ld.Abs (false,(false,(false,false))) h.f h.ok c.rung;have I:(KI (lk,1)).2=0:=by unfold KI;rw[Au,(Tq p.last).2 p,Zzn (by rfl),Zzn (by simp)]
 have tail:Ad (En (s,td)) none (λx3=>cnd (x3.1||EX td) (Ad (F3 (s,((d,()),(now,(rg,(q,(lk,(rs,(td,(ag,(pu,(ey,(ga,(ca,(wn,(ti,(gr,(bu,(cm,se))))))))))))))))))) none λx4=>cnd x4 (Ad (F1 (s,((d,()),(now,(rg,(q,(lk,(rs,(td,(ag,(pu,(ey,(ga,(ca,(wn,(ti,(gr,(bu,(cm,se))))))))))))))))))) none λx5=>some x5) (some false)) (some false))=some true:=by rw[Zzq p1,Zzp p2,Zzq (uA h c),Zzp rfl,Zzq (rS h c)]
 unfold Oa DB;try simp only
 rw[Au,(S4 (by have:=J.hi;omega)).2 J,Zzn (by simp;omega),Zzq o,Zzn (by rfl),Zzq E,Zzn (by rfl),Au,I,Zzn (by rfl),Zzn (decide_eq_false (by have:=v.1;omega))];rcases v.2 with e|⟨t,e,et⟩
 ·subst e;rw[Zzn (by simp[Aa])];exact tail
 ·subst e;rw[Zzp (decide_eq_true (by rw[CW];have:=Ak t;omega)),Zzq (show idx (126::t) 0=some 126 from rfl),Zzn (by simp),Zzp (decide_eq_true (by rw[CW];have:=Ak t;omega)),Au,Zzn (by have:A5 (126::t) 1=t:=rfl;rw[this];unfold bytes_IndexByte;rw[yA t 0 et];rfl)];exact tail
theorem sM {s x ip} (h:St s) (c:E9 s x) (p:ip.2.2.1.length<=maxLen) :
 ∃y w asks lights out,J9 (s,(x,ip))=some (y,(lights,(out,0)))/\E9 s y /\
  (ip.2.2.2.1=true->Acq s x y lights out)/\(ip.2.2.2.1=false->∃told well g,Ran s x ip y w asks lights out told well g):=by
 obtain⟨y,w,was,asks,lights,out,r1,r2,t,r4⟩:=Ahv h c p
 have v:Aa (LTd x).2.2<=1000:=by
  rcases c.told with o|o
  ·have:=(KN h o).n<;>grind
  ·show Aa x.2.2.2.2.2.2.1.2.2<=1000;rw[o];simp[Aa]
 refine ⟨y,w,asks,lights,out,?_,r2,t,r4⟩
 obtain⟨⟨d,⟨⟩⟩,now,rg,q,lk,rs,td,ag,pu,ey,ga,ca,wn,ti,gr,bu,cm,se⟩:=x
 unfold J9 OW
 try simp only
 rw[Zzq h.chk,Zzn (by rfl),Zzq (Ae0 h c),Zzn (b:=!true) rfl,Zzq rfl,Zzn (by rfl),Zzq (UZ v),Zzq r1]
theorem nO {s d} (h:St s) (g:Aa d<=9223372036854775807):A4 d/\G9 (s,(d,()))=some (EU s (Bc d).1.2.1 d,0)\/¬A4 d/\∃y,G9 (s,(d,()))=some (y,8):=by
 unfold G9;rw[Zzq h.chk,Zzn (by rfl),Au];by_cases c:A4 d
 ·left;rw[(S4 g).2 c,Zzn (b:=!true) rfl];try simp only
  rw[Zzq (mP h c)];exact ⟨c,rfl⟩
 ·right;rw[Bool.eq_false_iff.2 λo=>c ((S4 g).1 o),Zzp (b:=!false) rfl];exact ⟨c,_,rfl⟩
end Go.Proofs.YtlgpjdjcbincgaaGreatDoor
namespace Go.Proofs.YtlgpjdjcbincgaaGreatDoor
open Go.Den
theorem AaD (l:List Int):∀n:Nat,(List.range n).flatMap (λ(i:Nat)=>Ax (A5 l ((i:Int)*48)) 48)=l.take (48*n)
 |0=>by simp
 |n+1=>by rw[Qdf,List.flatMap_append,AaD l n,show 48*(n+1)=48*n+48 by omega,List.take_add];simp only[Qgd,List.flatMap_nil,Qbd];unfold Ax A5<;>grind
theorem wW {k h i} (c:Aa (Dl k)<=48*h) (d:0<=i) (i1:i<h):Ax (A5 (BH k h i) 8) 48=Ax (A5 (Jy k h) (i*48)) 48:=by have g:=PK c;have o:=Dt (l:=Jy k h) (n:=i*48) (by omega) (by omega);unfold BH;rw[Zt (by rw[EF];rfl),WO (CK (l:=A5 (Jy k h) (i*48)) (n:=48) (by decide) (by omega))]
theorem yN {k h} (c:Aa (Dl k)<=48*h) (h0:0<=h):Gk (B6 k h)=Jy k h:=by unfold Gk B6;rw[List.flatMap_map,List.flatMap_def];rw[List.map_congr_left λi hi=>wW c (by omega) (by simp_all),<-List.flatMap_def,AaD];exact Qas (by have:=PK c;unfold Aa at this;omega)
theorem Abu {n} (n0:0<=n) (n1:n<4611686018427387904):CL (leB 8 n.toNat)=some n:=by unfold CL;rw[Zzq (vR (w:=8) (n:=n.toNat) (by decide) (by decide) (by omega) (by omega))]<;>grind
theorem zM {k:Dy} {h:Int} (d:GG k) (h1:1<=h) (h2:h<=32) (E:Aa (Dl k)<=48*h):A8 (FP (B6 k h))=some (k,(B6 k h,true)):=by
 have I:=Jm (k:=k) (h:=h) (by omega);have hg:=d.gen;have v:=d.mode;have Y:∀b∈B6 k h,Aa b=64:=λb Y=>by unfold B6 at Y;obtain⟨i,hi,rfl⟩:=List.mem_map.1 Y;have hi:=List.mem_range.1 hi;exact KE E (by omega) (by omega)
 have hm:=yN E (by omega);have af:Aa (Gk (B6 k h))=48*h:=by rw[hm];exact PK E
 have ag:=QZ d;have ah:=vF d;have ai:=Fm (Aa (B4 k));have a1:=Fm k.2.1;have hps:Aa (smL (Aa (B4 k)))+Aa (B4 k)<=48*h:=by
  have e:Aa (Dl k)=Aa (smL (Aa (B4 k)))+Aa (B4 k):=by unfold Dl;rw[Az]
  omega
 have o:Gk (B6 k h)=smL (Aa (B4 k))++(B4 k++Ay (48*h-Aa (Dl k)) 0):=by rw[hm];unfold Jy Dl;rw[Qaq]
 have a6:Aa (B4 k++Ay (48*h-Aa (Dl k)) 0)<=1000000:=by rw[Az,AM (by omega)];omega
 have r1:EZ (Gk (B6 k h))=some (Aa (B4 k),(Aa (smL (Aa (B4 k))),0)):=by rw[o];exact YG (by omega) (by omega) a6
 have a7:EJ (Gk (B6 k h)) (Aa (smL (Aa (B4 k)))) (Aa (B4 k))=B4 k:=by rw[Qp (by omega) (by omega),o,Zs,WO rfl]
 have q1:EZ (B4 k)=some (k.2.1,(Aa (smL k.2.1),0)):=by unfold B4;exact YG v.1 (by omega) (by have:=Wm k.2.2 d.n d.plans;omega)
 have J:Aa (B4 k)=Aa (smL k.2.1)+Aa (Bg (FV k.2.2)):=by unfold B4;rw[Az]
 have a8:=Wm k.2.2 d.n d.plans;have X:=(EH (FV k.2.2)).1;have t:EJ (Gk (B6 k h)) (Aa (smL (Aa (B4 k)))+Aa (smL k.2.1)) (Aa (B4 k)-Aa (smL k.2.1))=Bg (FV k.2.2):=by
  have e0:=(EH (FV k.2.2)).1;rw[Qp (by omega) (by omega),o];have e:smL (Aa (B4 k))++(B4 k++Ay (48*h-Aa (Dl k)) 0)=smL (Aa (B4 k))++smL k.2.1++(Bg (FV k.2.2)++Ay (48*h-Aa (Dl k)) 0):=by have e2:B4 k=smL k.2.1++Bg (FV k.2.2):=rfl;rw[e2];simp only[Qaq]
  rw[e,Zt (by rw[Az]),WO (by omega)]
 have p1:=Aec d.n d.plans;have Z:Cg ((k.1,(k.2.1,k.2.2)),Aa (B6 k h))=some (B6 k h,0):=by
  obtain⟨b,e,Z,b2⟩:=SN (k:=k) (h:=h) h1 h2 v.1 (λp hp=>by have:=(d.plans p hp).c;omega);rw[I];rcases b2 with ⟨rfl,_,_,rfl⟩|⟨_,_,b3⟩
  ·exact Z
  ·exact absurd ⟨d,E⟩ b3
 obtain⟨g,m,pl⟩:=k;simp only at hg v J t p1 Z q1 a1 a8 X;generalize aa:B6 (g,(m,pl)) h=bs at *;unfold A8;refine oA (bs:=bs) (λr=>r=some ((g,(m,pl)),(bs,true))) Y (by omega) (λb i x i0 i1 I hx aj=>?_) ⟨_,Zzn (decide_eq_false (by show ¬Aa bs<Aa bs;omega)),?_⟩
 ·have hd:=Dt (l:=x) (n:=8) (by decide) (by omega);have ht:=CK (l:=A5 x 8) (n:=48) (by decide) (by omega);show cnd (decide (i<Aa bs)) _ _ = _;rw[Zzp (decide_eq_true i1)];show Ad (idx bs i) _ _ = _;rw[Zzq hx,Zzp (decide_eq_true (by omega)),Zzp (decide_eq_true (by omega)),Zzp (GX (b:=b) (by omega) (by omega)),Aj (i+1) (by omega) (by omega)]
 have ab:idx bs 0=some (BH (g,(m,pl)) h 0):=by rw[<-aa];exact K1 (by decide) (by omega)
 have ae:Aa (BH (g,(m,pl)) h 0)=64:=KE E (by decide) (by omega);have ad:Ax (BH (g,(m,pl)) h 0) 8=leB 8 g.toNat:=by unfold BH;exact WO (by rw[EF];rfl)
 show Ad (idx bs 0) _ _ = _;rw[Zzq ab,Zzp (decide_eq_true (by omega)),ad,Zzq (Abu (by omega) hg.2),Zzq r1];try simp only
 rw[Aj (Aa (Gk bs)-Aa (smL (Aa (B4 (g,(m,pl)))))) (by omega) (by omega),Dw (n:=Aa (Gk bs)-Aa (smL (Aa (B4 (g,(m,pl)))))) ⟨by omega,by omega⟩,Zzn (by simp;omega),Zzp (by simp;omega),Zzp (by simp;omega),a7,Zzq q1];try simp only
 rw[Zzn (by simp;omega),Zzp (by simp;omega),t,Zzq p1,Zzn (by rfl)];try simp only
 rw[Oo m (by omega) (by omega),Aj g (by omega) (by omega)];show Ad (Cg ((g,(m,pl)),Aa bs)) _ _ = _;rw[Zzq Z,Zzn (by rfl)];try simp only
 refine Ap (λz:Int=>z) (Aa bs) (λ_=>True) (λr=>r=some ((g,(m,pl)),(bs,true))) (by omega) (by simp) (by omega) trivial (λi _ i0 i1=>?_) λi _ hz=>?_
 ·obtain⟨y,hy,_⟩:=Ai (l:=bs) i0 i1;rw[Zzp (decide_eq_true i1),Zzq hy];show Cq _ _ _ _ (Ad (idx bs i) _ _);rw[Zzq hy,Au,SP,Zzn (by rfl),Aj (i+1) (by omega) (by omega)];exact ⟨rfl,trivial⟩
 ·have hz:i=Aa bs:=hz;rw[Zzn (decide_eq_false (by omega))];exact rfl
end Go.Proofs.YtlgpjdjcbincgaaGreatDoor
namespace Go.Proofs.YtlgpjdjcbincgaaGreatDoor
open Go.Den
theorem lJ {d s m n} (h:A4 d) (E:0<=m) (I:m<DY d) (n0:0<=n) (n1:n<DY d) (o:Aa s<=64):blk (CR d (m*64) 64 s) n=if n=m then s++A5 (blk d m) (Aa s) else blk d n:=by
 have p:=(Ha h).2.2;unfold Aa at o p;obtain⟨M,rfl⟩:∃M:Nat,m=M:=⟨m.toNat,by omega⟩;obtain⟨N,rfl⟩:∃N:Nat,n=N:=⟨n.toNat,by omega⟩;have t:((M:Int)*64).toNat=M*64:=by omega
 have v:((N:Int)*64).toNat=N*64:=by omega
 have e3:(64:Int).toNat=64:=rfl;have g:s.take 64=s:=Qas (by omega);have y:M*64+64<=d.length/\N*64+64<=d.length:=by omega
 unfold blk CR Ax A5 Aa;rw[t,v,e3,g,Qae];split
 ·rename_i c;have c:N=M:=by omega
  subst c;apply Qdq;intro j;simp only[Qbg,Qcy,Qft,Qbn,Qau];grind
 ·rename_i c;apply Qdq;intro j;simp only[Qbg,Qcy,Qft,Qbn,Qau];rw[show min (M*64) d.length=M*64 by omega];by_cases c1:j<64
  ·rw[if_pos c1,if_pos c1];by_cases c2:N<M
   ·rw[if_pos (by omega),if_pos (by omega),if_pos (by omega)]
   ·rw[if_neg (by omega)];congr 1;omega
  ·rw[if_neg c1,if_neg c1]
theorem mJ {whole torn:Int} (b:Int) (t0:0<=torn) (t1:torn<=64):∀(l:List Hi) (i:Int) (d:List Int),A4 d->0<=b+i->b+i+Aa l<=DY d->(∀j p,idx l j=some p->p.1=b+i+j/\Aa p.2=64)->∀n,0<=n->n<DY d ->
 blk (doV whole torn i l d) n=if b+i<=n/\n<b+i+Aa l then if n-b<whole then (el l (n-b-i)).2 else if n-b=whole then Ax (el l (n-b-i)).2 torn++A5 (blk d n) torn else blk d n else blk d n
 |[],i,d,_,_,_,_,n,_,_=>by rw[if_neg (by rw[Tz];omega)];rfl
 |p::l,i,d,h,h0,h1,I,n,n0,n1=>by
  have o:=I 0 p (by rfl);have hn:=Ak l;rw[CW] at h1 ⊢;have hm:=Ha h;have t:Aa (Ax p.2 torn)=torn:=CK t0 (by omega);obtain⟨g,v,X,hM,J⟩:∃g,g=(if i<whole then CR d (p.1*64) 64 p.2 else if i=whole then CR d (p.1*64) 64 (Ax p.2 torn) else d)/\A4 g/\DY g=DY d/\∀n,0<=n->n<DY d->blk g n=if n=b+i then if i<whole then p.2 else if i=whole then Ax p.2 torn++A5 (blk d n) torn else blk d n else blk d n:=by
   refine ⟨_,rfl,?_⟩;have keep:∀s:List Int,Aa s<=64->A4 (CR d (p.1*64) 64 s)/\DY (CR d (p.1*64) 64 s)=DY d:=λs _=>by have e:Aa (CR d (p.1*64) 64 s)=Aa d:=Q0 (by omega) (by decide) (by omega);exact ⟨⟨by rw[e];exact h.lo,by rw[e];exact h.hi,by rw[e];exact h.whole⟩,by unfold DY;rw[e]⟩
   by_cases c1:i<whole
   ·rw[if_pos c1];refine ⟨(keep p.2 (by omega)).1,(keep p.2 (by omega)).2,λn n0 n1=>?_⟩;rw[lJ h (by omega) (by omega) n0 n1 (by omega),if_pos c1];by_cases c3:n=b+i
    ·have e:n=p.1:=by omega
     have Y:=Sj h n0 n1;rw[if_pos e,if_pos c3,<-e];rw[show A5 (blk d n) (Aa p.2)=[] by unfold A5;exact List.drop_eq_nil_of_le (by unfold Aa at Y o ⊢;omega),Qbd]
    ·rw[if_neg (by omega),if_neg c3]
   ·rw[if_neg c1];by_cases c2:i=whole
    ·rw[if_pos c2];refine ⟨(keep _ (by omega)).1,(keep _ (by omega)).2,λn n0 n1=>?_⟩;rw[lJ h (by omega) (by omega) n0 n1 (by omega),if_neg c1,if_pos c2,t];by_cases c3:n=b+i
     ·have e:n=p.1:=by omega
      rw[if_pos e,if_pos c3,<-e]
     ·rw[if_neg (by omega),if_neg c3]
    ·rw[if_neg c2];refine ⟨h,rfl,λn n0 n1=>?_⟩;rw[if_neg c1,if_neg c2];split<;>rfl
  have Z:=mJ (whole:=whole) (torn:=torn) b t0 t1 l (i+1) g X (by omega) (by omega) (λj q y=>by have hj:=(Ag y).1;have:=I (j+1) q (by rw[AY hj] at y;rw[AY (by omega),show (j+1).toNat=j.toNat+1 by omega,Qbj];exact y);exact ⟨by omega,this.2⟩) n n0 (by omega);rw[doV,<-v,Z];by_cases c:n=b+i
  ·subst c;have E:el (p::l) (b+i-b-i)=p:=by rw[show b+i-b-i=0 by omega];rfl
   rw[if_neg (by omega),if_pos (by omega),J _ n0 n1,if_pos rfl,E,show b+i-b=i by omega]
  ·have E:∀k,0<=k->el (p::l) (k+1)=el l k:=λk hk=>by unfold el;rw[AY hk,AY (by omega),show (k+1).toNat=k.toNat+1 by omega,Qbj]
   rw[J _ n0 n1,if_neg c];by_cases c2:b+(i+1)<=n/\n<b+(i+1)+Aa l
   ·have c3:b+i<=n/\n<b+i+(Aa l+1):=by omega
    rw[if_pos c2,if_pos c3,show n-b-i=n-b-(i+1)+1 by omega,E _ (by omega)]
   ·have c3:¬(b+i<=n/\n<b+i+(Aa l+1)):=by omega
    rw[if_neg c2,if_neg c3]
theorem Q7 {k h t j p} (d:idx (CD k h t) j=some p):0<=j/\j<h/\p=(t*h+j,BH k h j):=by
 obtain⟨g,o,_⟩:=Ag d;have v:0<=h:=by refine Qdr λc=>?_;unfold CD Aa at o<;>grind
 rw[L5 v] at o;unfold CD at d;rw[AY g,Qbf,Qcs (by omega),Qai,Qax g] at d<;>simp_all
theorem Rc {d:List Int} {i:Int} {bs:List (List Int)} (h:A4 d) (g:Aa bs=Ar d) (o:∀n,0<=n->n<Ar d->idx bs n=some (blk d (i*Ar d+n))):CX d i=bs:=by
 have p:=FZ h;apply Qdq;intro j;by_cases c:(j:Int)<Ar d
 ·have:=o j (by omega) c;rw[AY (by omega),Qae] at this;rw[this];unfold CX;rw[Qbf,Qcs (by omega)];rfl
 ·have h1:Aa (CX d i)=Ar d:=IB h i;rw[List.getElem?_eq_none (by unfold Aa at h1;omega),List.getElem?_eq_none (by unfold Aa at g;omega)]
theorem u6 {d e} (h:Aa d=Aa e):Ar d=Ar e:=by unfold Ar DY;rw[h]
theorem XZ {d:List Int} {k:Dy} {t u whole torn:Int} (h:A4 d) (v:Aa (Dl k)<=48*Ar d) (g:t=0\/t=1) (o:u=0\/u=1) (I:t≠u) (t0:0<=torn) (t1:torn<=64) :
 CX (doV whole torn 0 (CD k (Ar d) t) d) u=CX d u:=by have Z:=FZ h;have y:=Sq (whole:=whole) (torn:=torn) h (WM h g v);have E:Ar (doV whole torn 0 (CD k (Ar d) t) d)=Ar d:=u6 y.2;refine Rc y.1 (by rw[IB h,E]) λn n0 n1=>?_;rw[E] at n1 ⊢;have c:Aa (CD k (Ar d) t)=Ar d:=L5 (by omega);have:=mJ (whole:=whole) (torn:=torn) (t*Ar d) t0 t1 (CD k (Ar d) t) 0 d h (by rcases g with rfl|rfl<;>omega) (by rw[c];rcases g with rfl|rfl<;>omega) (λj p J=>by obtain⟨X,Y,rfl⟩:=Q7 J;exact ⟨by simp only;omega,KE v X Y⟩) (u*Ar d+n) (by rcases o with rfl|rfl<;>omega) (by rcases o with rfl|rfl<;>omega);rw[this,if_neg (by rw[c];rcases g with rfl|rfl<;>rcases o with rfl|rfl<;>omega)];unfold CX;rw[AY n0,Qbf,Qcs (by omega),Qai,Qax n0]
theorem uV {d:List Int} {k:Dy} {t whole torn:Int} (h:A4 d) (y:Aa (Dl k)<=48*Ar d) (g:t=0\/t=1) (t0:0<=torn) (t1:torn<=64) {n:Int} (n0:0<=n) (n1:n<Ar d) :
 blk (doV whole torn 0 (CD k (Ar d) t) d) (t*Ar d+n)=if n<whole then BH k (Ar d) n else if n=whole then Ax (BH k (Ar d) n) torn++A5 (blk d (t*Ar d+n)) torn else blk d (t*Ar d+n):=by
 have X:=FZ h;have c:Aa (CD k (Ar d) t)=Ar d:=L5 (by omega);have:=mJ (whole:=whole) (torn:=torn) (t*Ar d) t0 t1 (CD k (Ar d) t) 0 d h (by rcases g with rfl|rfl<;>omega) (by rw[c];rcases g with rfl|rfl<;>omega) (λj p E=>by obtain⟨I,J,rfl⟩:=Q7 E;exact ⟨by simp only;omega,KE y I J⟩) (t*Ar d+n) (by rcases g with rfl|rfl<;>omega) (by rcases g with rfl|rfl<;>omega);have o:(el (CD k (Ar d) t) (t*Ar d+n-t*Ar d-0)).2=BH k (Ar d) n:=by obtain⟨p,v,_⟩:=Ai (l:=CD k (Ar d) t) n0 (by omega);rw[show t*Ar d+n-t*Ar d-0=n by omega,Et v,(Q7 v).2.2]
 rw[this,if_pos (by rw[c];omega),o,show t*Ar d+n-t*Ar d=n by omega]
theorem u5 {d k t whole torn} (h:A4 d) (g:Aa (Dl k)<=48*Ar d) (o:t=0\/t=1):A4 (doV whole torn 0 (CD k (Ar d) t) d)/\Ar (doV whole torn 0 (CD k (Ar d) t) d)=Ar d:=by have c:=Sq (whole:=whole) (torn:=torn) h (WM h o g);exact ⟨c.1,u6 c.2⟩
theorem mI {d:List Int} {k:Dy} {t whole torn:Int} (h:A4 d) (c:Aa (Dl k)<=48*Ar d) (g:t=0\/t=1) (v:Ar d<=whole) (t0:0<=torn) (t1:torn<=64):CX (doV whole torn 0 (CD k (Ar d) t) d) t=B6 k (Ar d):=by have y:=FZ h;obtain⟨p,o⟩:=u5 (whole:=whole) (torn:=torn) h c g;refine Rc p (by rw[Jm (by omega),o]) λn n0 n1=>?_;rw[o] at n1 ⊢;rw[K1 n0 n1,uV h c g t0 t1 n0 n1,if_pos (by omega)]
theorem LV {d i bs} (h:CX d i=bs):BD d i=(A8 (FP bs)).getD (FP []):=by unfold BD;rw[h]
theorem Pp d:toV d=0\/toV d=1:=by unfold toV<;>omega
theorem Adq {d:List Int} {m:Int} {l:List AJ} {ps:List Hi} (h:A4 d) (J:Kx d m l ps 0):∃r,1<=r/\Bc (doV (Aa ps) 0 0 ps d)=((r,(m,l)),0):=by
 have c:=FZ h;obtain⟨⟨g1,X⟩,r,Y,r1,r2,rfl⟩:=J.good rfl;have p:Aa (Dl (r,(m,l)))<=48*Ar d:=by rw[dG r 1];exact X
 have Z:GG (r,(m,l)):=⟨⟨r1,r2⟩,g1.mode,g1.n,g1.plans⟩;have g:Aa (CD (r,(m,l)) (Ar d) (toV d))=Ar d:=L5 (by omega);refine ⟨r,r1,?_⟩;rw[g];have y:=mI (whole:=Ar d) (torn:=0) h p (Pp d) (Qbb _) (by decide) (by decide);have hS:=LV y;rw[zM Z c.1 c.2.1 p] at hS;simp only[Qbc] at hS;generalize o:doV (Ar d) 0 0 (CD (r,(m,l)) (Ar d) (toV d)) d=E at y hS;have hr:=Y.1;unfold Bc TK;by_cases ca:So d
 ·have t:toV d=1:=by unfold toV;rw[if_pos ca]
  have eb:N1 d=(BD d 0).1.1:=by unfold N1;rw[if_pos ca]
  have v:BD E 0=BD d 0:=by have:=XZ (u:=0) (whole:=Ar d) (torn:=0) h p (Pp d) (.inl rfl) (by omega) (by decide) (by decide);rw[o] at this;rw[LV this];rfl
  rw[t] at hS;rw[v,hS,if_neg λc=>c.2 ⟨rfl,by simp only;omega⟩,if_pos rfl]
 ·have t:toV d=0:=by unfold toV;rw[if_neg ca]
  have v:BD E 1=BD d 1:=by have:=XZ (u:=1) (whole:=Ar d) (torn:=0) h p (Pp d) (.inr rfl) (by omega) (by decide) (by decide);rw[o] at this;rw[LV this];rfl
  rw[t] at hS;rw[v,hS];by_cases I:(BD d 1).2.2=true
  ·have eb:N1 d=(BD d 1).1.1:=by unfold N1;rw[if_neg ca,if_pos I]
   rw[if_pos ⟨rfl,λc=>by have:=c.2;simp only at this;omega⟩]
  ·rw[if_pos ⟨rfl,λc=>I c.1⟩]
end Go.Proofs.YtlgpjdjcbincgaaGreatDoor
