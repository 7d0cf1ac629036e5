/- Part of a proof: plain readings of Go functions, their contracts, or plain facts of them. -/
import Derived.Test.YtmmkfcpdfnjgjaaGreatDoorTp2
namespace Go.Proofs.YtmmkfcpdfnjgjaaGreatDoor
open Go.Den
theorem Ek {α:Type} {l:List α} {n:Int} (n0:0≤n) (h:n≤Aa l):Aa (AF l n)=n:=by
 unfold AF Aa at *
 rw[List.length_take];omega
theorem EN {α:Type} {l:List α} {n:Int} (n0:0≤n) (h:n≤Aa l):Aa (Bz l n)=Aa l-n:=by
 unfold Bz Aa at *
 rw[List.length_drop];omega
theorem Aes {α:Type} {l:List α} {n:Int} {x:α} (h:x∈AF l n):x∈l:=List.mem_of_mem_take h
theorem jY {α:Type} {l:List α} {lo n:Int} (h0:0≤lo) (h1:0≤n):Fq l lo n=AF (Bz l lo) n:=by
 unfold Fq AF Bz
 rw[List.take_drop,show (lo+n).toNat=lo.toNat+n.toNat by omega]
theorem Abg (n:Int):Ci (wr .u64 n):=by
 unfold wr Ci;rw[wrap_u64];omega
theorem Sa (op:Go.BinOp) (x y:Int):Ci (Ai op .u64 x y):=by
 unfold Ai;simp only;exact Abg _
theorem DT {n:Int} (h:Ci n):wr .u64 n=n:=by
 unfold wr;rw[wrap_u64,Int.emod_eq_of_lt h.1 (by have:=h.2;omega)]
theorem OC (n:Int):wr .u8 n=n%256:=by
 unfold wr
 simp only[Go.IntKind.wrap,Go.IntKind.signed,Go.IntKind.bits]
 rfl
theorem MV (n:Int):wr .u32 n=n%4294967296:=by
 unfold wr;rw[wrap_u32]
theorem AeX:∀r:Fin 256,Ai .or .u8 (r.val:Int) 128=(r.val%128+128:Nat):=by decide +kernel
theorem Aeb:∀r:Fin 256,Ai .and .u8 (r.val:Int) 127=(r.val%128:Nat):=by decide +kernel
theorem Adq {n:Int} (h:0≤n∧n≤255):Ai .or .u8 n 128=n%128+128:=by
 have:=AeX ⟨n.toNat,by omega⟩
 simp only[Int.toNat_of_nonneg h.1] at this
 rw[this];omega
theorem fG {n:Int} (h:0≤n∧n≤255):Ai .and .u8 n 127=n%128:=by
 have:=Aeb ⟨n.toNat,by omega⟩
 simp only[Int.toNat_of_nonneg h.1] at this
 rw[this];omega
theorem Afa (n:Int):Av .u64 n 7=n/128:=by
 unfold Av
 rw[Int.fdiv_eq_ediv_of_nonneg _ (by decide)]
 rfl
def DA:Nat→Int→List Int
 |0,n=>[n]
 |k+1,n=>if 127<n then (n%128+128)::DA k (n/128) else [n]
theorem Uc:∀(k:Nat) (n:Int),1≤Aa (DA k n)∧Aa (DA k n)≤(k:Int)+1
 |0,n=>by simp[DA,Aa]
 |k+1,n=>by
  rw[DA]
  split
  ·have:=Uc k (n/128)
   rw[EY];omega
  ·simp[Aa];omega
theorem V7:∀(k:Nat) (n:Int),0≤n→n<128 ^ (k+1)→∀b∈DA k n,0≤b∧b≤255
 |0,n,h0,h1,b,hb=>by
  have:b=n:=by simpa[DA] using hb
  subst this;simp at h1;omega
 |k+1,n,h0,h1,b,hb=>by
  rw[DA] at hb
  split at hb
  ·rcases List.mem_cons.1 hb with rfl|hb
   ·omega
   ·have e:(128:Int) ^ (k+1+1)=128 ^ (k+1)*128:=Int.pow_succ _ _
    exact V7 k (n/128) (by omega) (by rw[e] at h1;omega) b hb
  ·have:b=n:=by simpa using hb
   omega
abbrev smL (n:Int):List Int:=DA 10 n
theorem It (n:Int):1≤Aa (smL n)∧Aa (smL n)≤11:=by
 have:=Uc 10 n
 show 1≤Aa (DA 10 n)∧Aa (DA 10 n)≤11
 omega
theorem Y5 {n:Int} (h:Ci n):Cp n=some (smL n):=by
 unfold Cp
 have h0:=h.1
 have h2:=h.2
 have hten:n<(128:Int) ^ 10:=by
  have:(128:Int) ^ 10=1180591620717411303424:=by decide
  omega
 refine EG (fun z:Int×List Int=>0≤z.1∧∃k:Nat,k≤10∧z.1<128 ^ k∧Aa z.2=10-(k:Int)∧z.2++DA k z.1=smL n) (fun z=>z.1.toNat) (fun r=>r=some (smL n)) ?_ AA (n,[]) ⟨h0,10,Nat.le_refl _,hten,by simp[Aa],rfl⟩ (by rw[Gl];simp only;omega)
 rintro⟨m,out⟩ ⟨m0,k,k1,mk,hl,he⟩
 simp only at m0 mk hl he
 try simp only
 by_cases c:127<m
 ·cases k with
  |zero=>exfalso;simp at mk;omega
  |succ k =>
   have e8:wr .u8 m=m%256:=OC m
   rw[Af _ _ (decide_eq_true c),e8,Adq (by omega),Af _ _ (Bx (l:=out) (by omega)),Afa]
   refine ⟨⟨by simp only;omega,k,by omega,?_,?_,?_⟩,(by show (m/128).toNat<m.toNat;omega)⟩
   ·have e:(128:Int) ^ (k+1)=128 ^ k*128:=Int.pow_succ _ _
    simp only;rw[e] at mk;omega
   ·simp only;rw[Dv];omega
   ·simp only
    rw[←he,DA,if_pos c,show m%256%128=m%128 by omega]
    simp
 ·have e8:wr .u8 m=m:=by rw[OC];omega
  rw[Ag _ _ (decide_eq_false c),e8,Af _ _ (Bx (l:=out) (by omega))]
  have:DA k m=[m]:=by
   cases k with
   |zero=>rfl
   |succ k=>rw[DA,if_neg c]
  rw[this] at he
  show some (out++[m]) = _
  rw[he]
theorem Xk {l:List Int} (hl:Aa l≤1000000):∃v k e,DI l=some (v,(k,e))∧Ci v∧0≤k∧k≤Aa l∧(e=0∨e=8)∧(e=0→1≤k):=by
 have z64:Ci 0:=⟨by decide,by decide⟩
 have hn:=Ap l
 unfold DI
 refine AI (fun z:Int×Int=>z.2) (Aa l) (fun _=>True) (fun r=>∃v k e,r=some (v,(k,e))∧Ci v∧0≤k∧k≤Aa l∧(e=0∨e=8)∧(e=0→1≤k)) (by omega) (by simp) hn trivial (fun z _ i0 i1=>?_) (fun z _ hz=>?_)
 ·obtain⟨a,i⟩:=z
  simp only at i0 i1
  obtain⟨b,hb,_⟩:=Au i0 i1
  try simp only
  have bad:∃v k e,(some (0,(0,8)):Option (Int×Int×Int))=some (v,(k,e))∧Ci v∧0≤k∧k≤Aa l∧(e=0∨e=8)∧(e=0→1≤k):=⟨0,0,8,rfl,z64,by omega,by omega,.inr rfl,fun h=>by cases h⟩
  rw[Af _ _ (decide_eq_true i1),Ab _ _ hb,Am (7*i) (by omega) (by omega),Am (i+1) (by omega) (by omega)]
  rw[AS]
  split
  ·exact bad
  rw[Af _ _ (decide_eq_true (by omega)),AS]
  split
  ·rw[AS]
   split
   ·exact bad
   ·exact ⟨_,_,_,rfl,Sa _ _ _,by omega,by omega,.inl rfl,fun _=>by omega⟩
  ·exact ⟨rfl,trivial⟩
 ·obtain⟨a,i⟩:=z
  simp only at hz
  subst hz
  try simp only
  rw[Ag _ _ (decide_eq_false (by omega))]
  exact ⟨0,0,8,rfl,z64,by omega,by omega,.inr rfl,fun h=>by cases h⟩
theorem tX {l:List Int} (hl:Aa l≤1000000):∃v e,FA l=some (v,e)∧Ci v:=by
 have z64:Ci 0:=⟨by decide,by decide⟩
 have hn:=Ap l
 unfold FA
 rw[AS]
 split
 ·exact ⟨0,8,rfl,z64⟩
 refine AI (fun z:Int×Int=>z.2) (Aa l) (fun z=>Ci z.1) (fun r=>∃v e,r=some (v,e)∧Ci v) (by omega) (by simp) hn z64 (fun z hI i0 i1=>?_) (fun z hI hz=>?_)
 ·obtain⟨a,i⟩:=z
  simp only at i0 i1
  obtain⟨b,hb,_⟩:=Au i0 i1
  try simp only
  rw[Af _ _ (decide_eq_true i1),Ab _ _ hb,Am (8*i) (by omega) (by omega),Am (i+1) (by omega) (by omega),Af _ _ (decide_eq_true (by omega))]
  exact ⟨rfl,(Sa .or a (Bc .u64 (wr .u64 b) (8*i)):_)⟩
 ·obtain⟨a,i⟩:=z
  simp only at hz hI
  subst hz
  try simp only
  rw[Ag _ _ (decide_eq_false (by omega))]
  exact ⟨a,0,rfl,hI⟩
theorem Yo {b:List Int} {bad:Bool} {s:Ae} {most:Int} (hb:Aa b≤1000000) (m0:0≤most) (m1:most≤1152921504606846976):∃b' bad' n,BM (((b,bad),s),most)=some (((b',bad'),s),n)∧Aa b'≤Aa b∧0≤n∧n≤most:=by
 obtain⟨v,k,e,h1,h2,h3,h4,h5,h6⟩:=Xk hb
 unfold BM
 try simp only
 rw[Ab _ _ h1,DT (n:=most) ⟨m0,by omega⟩]
 try simp only
 rw[AS]
 split
 ·exact ⟨b,true,0,rfl,Int.le_refl _,by omega,by omega⟩
 ·rename_i hc
  simp only[Bool.or_eq_true,decide_eq_true_eq,not_or,Int.not_lt] at hc
  have v0:=h2.1
  have hd:=EN (l:=b) h3 h4
  rw[Af _ _ (by simp;omega),Am v (by omega) (by omega)]
  exact ⟨_,bad,v,rfl,by omega,h2.1,hc.2⟩
theorem AdQ {b:List Int} {bad:Bool} {s:Ae} {n:Int} (hb:Aa b≤1000000) (n0:0≤n) (n1:n≤1000):∃b' bad' l,Dp (((b,bad),s),n)=some (((b',bad'),s),l)∧Aa b'≤Aa b∧Aa l=n∧∀m∈l,0≤m∧m≤1048576:=by
 unfold Dp
 try simp only
 refine AI (fun z:List Int×Int×Gn=>z.2.1) n (fun z=>Aa z.1=z.2.1∧(∀m∈z.1,0≤m∧m≤1048576)∧Aa z.2.2.1.1≤Aa b∧z.2.2.2=s) (fun r=>∃b' bad' l,r=some (((b',bad'),s),l)∧Aa b'≤Aa b∧Aa l=n∧∀m∈l,0≤m∧m≤1048576) (by omega) (by simp) n0 ⟨rfl,fun m hm=>(by cases hm),Int.le_refl _,rfl⟩ (fun z hI i0 i1=>?_) (fun z hI hz=>?_)
 ·obtain⟨l,i,⟨⟨c,bd⟩,s'⟩⟩:=z
  obtain⟨hl,hm,hc,hs⟩:=hI
  simp only at i0 i1 hl hm hc hs
  subst hs
  obtain⟨b',bad',k,h1,h2,h3,h4⟩:=Yo (b:=c) (bad:=bd) (s:=s') (most:=1048576) (by omega) (by decide) (by decide)
  try simp only
  rw[Af _ _ (decide_eq_true i1),Ab _ _ h1]
  try simp only
  rw[Af _ _ (Bx (l:=l) (by omega)),Am (i+1) (by omega) (by omega)]
  refine ⟨rfl,by simp only;rw[Dv,hl],fun m hmm=>?_,by simp only;omega,rfl⟩
  rcases List.mem_append.1 hmm with hmm|hmm
  ·exact hm m hmm
  ·have:m=k:=by simpa using hmm
   omega
 ·obtain⟨l,i,⟨⟨c,bd⟩,s'⟩⟩:=z
  obtain⟨hl,hm,hc,hs⟩:=hI
  simp only at hz hl hm hc hs
  subst hs hz
  try simp only
  rw[Ag _ _ (decide_eq_false (by omega))]
  exact ⟨c,bd,l,rfl,hc,hl,hm⟩
structure uA (p:AB):Prop where
 c:0≤p.1∧p.1≤1048576
 o:0≤p.2.1∧p.2.1≤1048576
 n:Aa p.2.2≤8
 m:∀m∈p.2.2,0≤m∧m≤1048576
theorem Ady {b:List Int} {bad:Bool} {s:Ae} (hb:Aa b≤1000000):∃b' bad' l,DL ((b,bad),s)=some (((b',bad'),s),l)∧Aa b'≤Aa b∧Aa l≤8∧∀p∈l,uA p:=by
 unfold DL
 obtain⟨b1,bad1,n,h1,h2,h3,h4⟩:=Yo (b:=b) (bad:=bad) (s:=s) (most:=8) hb (by decide) (by decide)
 rw[Ab _ _ h1]
 try simp only
 refine AI (fun z:List AB×Int×Gn=>z.2.1) n (fun z=>Aa z.1=z.2.1∧(∀m∈z.1,uA m)∧Aa z.2.2.1.1≤Aa b∧z.2.2.2=s) (fun r=>∃b' bad' l,r=some (((b',bad'),s),l)∧Aa b'≤Aa b∧Aa l≤8∧∀p∈l,uA p) (by omega) (by simp) h3 ⟨rfl,fun m hm=>(by cases hm),h2,rfl⟩ (fun z hI i0 i1=>?_) (fun z hI hz=>?_)
 ·obtain⟨l,i,⟨⟨c,bd⟩,s'⟩⟩:=z
  obtain⟨hl,hm,hc,hs⟩:=hI
  simp only at i0 i1 hl hm hc hs
  subst hs
  obtain⟨c2,d2,k2,a1,a2,a3,a4⟩:=Yo (b:=c) (bad:=bd) (s:=s') (most:=1048576) (by omega) (by decide) (by decide)
  obtain⟨c3,d3,k3,e1,e2,e3,e4⟩:=Yo (b:=c2) (bad:=d2) (s:=s') (most:=1048576) (by omega) (by decide) (by decide)
  obtain⟨c4,d4,k4,f1,f2,f3,f4⟩:=Yo (b:=c3) (bad:=d3) (s:=s') (most:=8) (by omega) (by decide) (by decide)
  obtain⟨c5,d5,k5,g1,g2,g3,g4⟩:=AdQ (b:=c4) (bad:=d4) (s:=s') (n:=k4) (by omega) (by omega) (by omega)
  try simp only
  rw[Af _ _ (decide_eq_true i1),Ab _ _ a1,Ab _ _ e1,Ab _ _ f1,Ab _ _ g1]
  try simp only
  rw[Af _ _ (Bx (l:=l) (by omega)),Am (i+1) (by omega) (by omega)]
  refine ⟨rfl,by simp only;rw[Dv,hl],fun m hmm=>?_,by simp only;omega,rfl⟩
  rcases List.mem_append.1 hmm with hmm|hmm
  ·exact hm m hmm
  ·have:m=(k2,(k3,k5)):=by simpa using hmm
   subst this
   exact ⟨⟨a3,a4⟩,⟨e3,e4⟩,by show Aa k5≤8;omega,g4⟩
 ·obtain⟨l,i,⟨⟨c,bd⟩,s'⟩⟩:=z
  obtain⟨hl,hm,hc,hs⟩:=hI
  simp only at hz hl hm hc hs
  subst hs hz
  try simp only
  rw[Ag _ _ (decide_eq_false (by omega))]
  exact ⟨c,bd,l,rfl,hc,by omega,hm⟩
def BD (l:List Int):List Int:=l.flatMap smL
theorem HF:∀l:List Int,0≤Aa (BD l)∧Aa (BD l)≤11*Aa l
 |[]=>by simp[BD,Aa]
 |n::l=>by
  have:=HF l
  have:=It n
  have e:BD (n::l)=smL n++BD l:=rfl
  rw[e,AO,EY];omega
theorem J9 (l m:List Int):BD (l++m)=BD l++BD m:=by unfold BD;rw[List.flatMap_append]
theorem QJ {A:Type} {bad:A} {F:List Int×Int→Step (List Int×Int) A} {l b0:List Int} (P:A→Prop) (hl:Aa l≤1000) (hb:Aa b0≤1000000) (hx:∀n∈l,Ci n)
 (hF:∀b i n sm,0≤i→i<Aa l→Aa b≤2000000→idx l i=some n→Cp (wr .u64 n)=some sm→Aa sm≤11→F (b,i)=.next (b++sm,i+1)) (hK:∃r,F (b0++BD l,Aa l)=.done r∧P r):P (iter bad F AA (b0,0)):=by
 have hn:=Ap l
 have step:∀(i:Int) n,idx l i=some n→BD (AF l (i+1))=BD (AF l i)++smL n:=fun i n hi=>by
  obtain⟨i0,i1,_⟩:=An hi
  have e:AF l (i+1)=AF l i++[n]:=by
   unfold AF
   rw[show (i+1).toNat=i.toNat+1 by omega,List.take_add_one]
   rw[B7 i0] at hi
   rw[hi];rfl
  rw[e,J9]
  simp[BD]
 refine AI (fun z:List Int×Int=>z.2) (Aa l) (fun z=>z.1=b0++BD (AF l z.2)) P (by omega) (by simp) hn (by simp[AF,BD]) (fun z hI i0 i1=>?_) (fun z hI hz=>?_)
 ·obtain⟨b,i⟩:=z
  simp only at hI i0 i1
  obtain⟨n,hn',hm⟩:=Au i0 i1
  have hlt:=Ek (l:=l) i0 (by omega)
  have hp:=HF (AF l i)
  rw[hF b i n (smL n) i0 i1 (by rw[hI,AO];omega) hn' (by rw[DT (hx n hm)];exact Y5 (hx n hm)) (It n).2]
  refine ⟨rfl,?_⟩
  simp only
  rw[step i n hn',hI,List.append_assoc]
 ·obtain⟨b,i⟩:=z
  simp only at hI hz
  subst hz
  have:AF l (Aa l)=l:=by unfold AF Aa;rw[Int.toNat_natCast,List.take_length]
  rw[this] at hI
  obtain⟨r,hr,hP⟩:=hK
  rw[hI,hr]
  exact hP
theorem Hi {b sm:List Int} (hb:Aa b≤3000000) (hs:Aa sm≤1000000):(true&&AN (Aa b+Aa sm) 1)=true:=by
 rw[Bool.true_and];exact room_le (by omega)
theorem QK {S A:Type} {b l:List Int} {i n:Int} {sm:List Int} {bad:Step S A} {f:List Int→Int→Step S A} {e:Step S A} (i0:0≤i) (i1:i<Aa l) (hl:Aa l≤1000) (hb:Aa b≤2000000) (hi:idx l i=some n) (hs:Cp (wr .u64 n)=some sm) (hm:Aa sm≤11) :
 cnd (decide (i<Aa l)) (Ad (idx l i) bad (fun x2=>(Ad (Cp (wr .u64 x2)) bad (fun x3=>(cnd (true&&(AN ((Aa b)+(Aa x3)) 1)) (f (b++x3) (wr .i64 (i+1))) bad))))) e=f (b++sm) (i+1):=by
 rw[Af _ _ (decide_eq_true i1),Ab _ _ hi,Ab _ _ hs,Af _ _ (Hi (by omega) (by omega)),Am (i+1) (by omega) (by omega)]
structure E9 (p:AB):Prop where
 c:1≤p.1∧p.1≤1048576
 o:0≤p.2.1∧p.2.1≤p.1-1
 n:1≤Aa p.2.2∧Aa p.2.2≤8
 m:∀m∈p.2.2,0≤m∧m≤1048576
def Yq (p:AB):List Int:=(p.1::(p.2.1::(Aa p.2.2::[])))++p.2.2
def P1 (l:List AB):List Int:=Aa l::l.flatMap Yq
theorem Aa4 (a:Int):Bn (a::[])=true↔1≤a∧a≤1048576:=by
 unfold Bn;simp
theorem Ji {n:Int} (h0:0≤n) (h1:n≤9223372036854775807):Ci n:=⟨h0,by omega⟩
def Pb (l:List AB) (r:Option (List Int×Int)):Prop:=∃b e,r=some (b,e)∧Aa b≤1000∧((e=0∧Aa l≤8∧(∀p∈l,E9 p)∧b=BD (P1 l))∨(e≠0∧¬(Aa l≤8∧∀p∈l,E9 p)))
def RZ (l:List AB) (z:Int×List Int):Prop:=z.2=BD (Aa l::(AF l z.1).flatMap Yq)∧Aa z.2≤11+121*z.1∧∀j p,j<z.1→idx l j=some p→E9 p
theorem UC (l:List AB) (hf:∀p∈l,-9223372036854775808≤p.1∧p.1≤9223372036854775807):Pb l (D7 l):=by
 have hl0:=Ap l
 unfold D7
 rw[AS]
 split
 ·rename_i h
  exact ⟨[],4,rfl,by simp[Aa],.inr ⟨by decide,fun hh=>by have:=hh.1;simp at h;omega⟩⟩
 rename_i h8
 simp only[decide_eq_true_eq,Int.not_lt] at h8
 refine QJ (l:=Aa l::[]) (b0:=[]) (Pb l) (by simp[Aa]) (by simp[Aa]) (fun n hn=>by simp at hn;subst hn;exact Ji hl0 (by omega)) (fun b i n sm i0 i1 hb hi hs hm=>?_) ⟨_,Ag _ _ (decide_eq_false (by simp only;omega)),?_⟩
 ·exact QK (f:=fun b i=>.next (b,i)) i0 i1 (by simp[Aa]) hb hi hs hm
 have pre:∀i:Int,0≤i→i<Aa l→∀p,idx l i=some p→(AF l (i+1)).flatMap Yq=(AF l i).flatMap Yq++Yq p:=fun i i0 i1 p hp=>by
  have e:AF l (i+1)=AF l i++[p]:=by
   unfold AF
   rw[show (i+1).toNat=i.toNat+1 by omega,List.take_add_one]
   rw[B7 i0] at hp
   rw[hp];rfl
  rw[e,List.flatMap_append];simp
 have hI0:RZ l (0,[]++BD (Aa l::[])):=by
  have h1:=HF (Aa l::[])
  have e:Aa (Aa l::[])=1:=by simp[Aa]
  refine ⟨by simp[AF],?_,fun j p hj hp=>absurd (An hp).1 (by simp only at hj;omega)⟩
  simp only[List.nil_append];omega
 refine AI (fun z:Int×List Int=>z.1) (Aa l) (RZ l) (Pb l) (by omega) (by simp) hl0 hI0 (fun z hI i0 i1=>?_) (fun z hI hz=>?_)
 ·obtain⟨i,b⟩:=z
  obtain⟨hb,hbl,hj⟩:=hI
  simp only at i0 i1 hb hbl hj
  obtain⟨p,hp,hpm⟩:=Au i0 i1
  have hpl:=Ap p.2.2
  have hpf:=hf p hpm
  have bad:∀ {A:Type} {c:A},¬E9 p→∃b e,(some ([],170):Option (List Int×Int))=some (b,e)∧Aa b≤1000∧((e=0∧Aa l≤8∧(∀p∈l,E9 p)∧b=BD (P1 l))∨(e≠0∧¬(Aa l≤8∧∀p∈l,E9 p))):=fun hn=>⟨[],170,rfl,by simp[Aa],.inr ⟨by decide,fun hh=>hn (hh.2 p hpm)⟩⟩
  try simp only
  rw[Af _ _ (decide_eq_true i1),Ab _ _ hp,AG,AS]
  split
  ·rename_i hc
   refine bad (A:=Unit) (c:=()) fun hok=>?_
   have hcc:=hok.c
   rw[Am (p.1-1) (by omega) (by omega),(Aa4 p.1).2 hok.c,(C0 _ _ _).2 hok.o,(C0 _ _ _).2 hok.n] at hc
   simp at hc
  rename_i hc
  simp only[Bool.or_eq_true,Bool.not_eq_true',not_or,Bool.not_eq_false] at hc
  obtain⟨⟨hc1,hc2⟩,hc3⟩:=hc
  have hc1:=(Aa4 _).1 hc1
  rw[Am (p.1-1) (by omega) (by omega)] at hc2
  have hc2:=(C0 _ _ _).1 hc2
  have hc3:=(C0 _ _ _).1 hc3
  refine QJ (l:=p.1::(p.2.1::(Aa p.2.2::[]))) (b0:=b) (fun R=>C5 (fun z:Int×List Int=>z.1) (RZ l) (Pb l) i R) (by simp[Aa]) (by omega) (fun n hn=>?_) (fun b i n sm i0 i1 hb hi hs hm=>?_) ⟨_,Ag _ _ (decide_eq_false (by simp only;omega)),?_⟩
  ·simp only[List.mem_cons,List.not_mem_nil,or_false] at hn
   rcases hn with rfl|rfl|rfl<;>exact Ji (by omega) (by omega)
  ·exact QK (f:=fun b i=>.next (b,i)) i0 i1 (by simp[Aa]) hb hi hs hm
  have hb3:=HF (p.1::(p.2.1::(Aa p.2.2::[])))
  have hb4:Aa (p.1::(p.2.1::(Aa p.2.2::[])))=3:=by simp[Aa]
  refine AI (fun z:Int×List Int=>z.1) (Aa p.2.2) (fun z=>z.2=b++BD ((p.1::(p.2.1::(Aa p.2.2::[])))++AF p.2.2 z.1)∧Aa z.2≤Aa b+33+11*z.1∧∀j m,j<z.1→idx p.2.2 j=some m→0≤m∧m≤1048576) (fun R=>C5 (fun z:Int×List Int=>z.1) (RZ l) (Pb l) i R) (by omega) (by simp) hpl ⟨by simp[AF],by simp only;rw[AO];omega,fun j m hj hm=>absurd (An hm).1 (by simp only at hj;omega)⟩ (fun z hI k0 k1=>?_) (fun z hI hz=>?_)
  ·obtain⟨k,b2⟩:=z
   obtain⟨q1,q2,q3⟩:=hI
   simp only at k0 k1 q1 q2 q3
   obtain⟨m,hm,hmm⟩:=Au k0 k1
   try simp only
   rw[Af _ _ (decide_eq_true k1),Ab _ _ hm,AG,AS]
   split
   ·rename_i hc
    refine bad (A:=Unit) (c:=()) fun hok=>?_
    rw[(C0 _ _ _).2 (hok.m m hmm)] at hc
    simp at hc
   rename_i hc
   simp only[Bool.not_eq_true',Bool.not_eq_false] at hc
   have hc:=(C0 _ _ _).1 hc
   refine QJ (l:=m::[]) (b0:=b2) (fun R=>C5 (fun z:Int×List Int=>z.1) (fun z=>z.2=b++BD ((p.1::(p.2.1::(Aa p.2.2::[])))++AF p.2.2 z.1)∧Aa z.2≤Aa b+33+11*z.1∧∀j m,j<z.1→idx p.2.2 j=some m→0≤m∧m≤1048576) (fun R=>C5 (fun z:Int×List Int=>z.1) (RZ l) (Pb l) i R) k R) (by simp[Aa]) (by omega) (fun n hn=>?_) (fun b i n sm i0 i1 hb hi hs hm=>?_) ⟨_,Ag _ _ (decide_eq_false (by simp only;omega)),?_⟩
   ·simp at hn;subst hn;exact Ji (by omega) (by omega)
   ·exact QK (f:=fun b i=>.next (b,i)) i0 i1 (by simp[Aa]) hb hi hs hm
   ·rw[Am (k+1) (by omega) (by omega)]
    have hsm:=It m
    have e1:BD (m::[])=smL m:=by simp[BD]
    refine ⟨rfl,?_,?_,fun j m' hj' hm'=>?_⟩
    ·simp only
     have e:AF p.2.2 (k+1)=AF p.2.2 k++[m]:=by
      unfold AF
      rw[show (k+1).toNat=k.toNat+1 by omega,List.take_add_one]
      rw[B7 k0] at hm
      rw[hm];rfl
     rw[e,←List.append_assoc,J9,q1,List.append_assoc]
    ·simp only;rw[AO,e1];omega
    ·simp only at hj'
     by_cases ej:j=k
     ·subst ej;rw[hm] at hm';cases hm';exact hc
     ·exact q3 j m' (by omega) hm'
  ·obtain⟨k,b2⟩:=z
   obtain⟨q1,q2,q3⟩:=hI
   simp only at hz q1 q2 q3
   subst hz
   try simp only
   rw[Ag _ _ (decide_eq_false (by omega)),Am (i+1) (by omega) (by omega)]
   have hwo:E9 p:=⟨hc1,hc2,hc3,fun m hm=>by obtain⟨j,hj'⟩:=ES hm;exact q3 j m (An hj').2.1 hj'⟩
   refine ⟨rfl,?_,by simp only;omega,fun j p' hj' hp'=>?_⟩
   ·simp only
    have e3:AF p.2.2 (Aa p.2.2)=p.2.2:=by unfold AF Aa;rw[Int.toNat_natCast,List.take_length]
    rw[e3] at q1
    rw[pre i i0 i1 p hp,q1,hb,←J9];rfl
   ·simp only at hj'
    by_cases ej:j=i
    ·subst ej;rw[hp] at hp';cases hp';exact hwo
    ·exact hj j p' (by omega) hp'
 ·obtain⟨i,b⟩:=z
  obtain⟨hb,hbl,hj⟩:=hI
  simp only at hz hb hbl hj
  subst hz
  try simp only
  rw[Ag _ _ (decide_eq_false (by omega))]
  have e3:AF l (Aa l)=l:=by unfold AF Aa;rw[Int.toNat_natCast,List.take_length]
  rw[e3] at hb
  exact ⟨b,0,rfl,by omega,.inl ⟨rfl,h8,fun p hp=>by obtain⟨j,hj'⟩:=ES hp;exact hj j p (An hj').2.1 hj',hb⟩⟩
end Go.Proofs.YtmmkfcpdfnjgjaaGreatDoor
namespace Go.Proofs.YtmmkfcpdfnjgjaaGreatDoor
open Go.Den
theorem QH (j:Nat):((2 ^ j:Nat):Int)=(2:Int) ^ j:=by rw[Int.natCast_pow];rfl
theorem AdA {i j:Nat} (h:i≤j):(2:Int) ^ i≤2 ^ j:=by
 rw[←QH,←QH];exact Int.ofNat_le.2 (Nat.pow_le_pow_right (by decide) h)
theorem j8 {a d:Int} {j:Nat} (a0:0≤a) (a1:a<2 ^ j) (d0:0≤d) (h:a+d*2 ^ j<2 ^ 63) (hj:j≤63):Ai .or .u64 a (Bc .u64 d (j:Int))=a+d*2 ^ j:=by
 obtain⟨x,rfl⟩:=Int.eq_ofNat_of_zero_le a0
 obtain⟨y,rfl⟩:=Int.eq_ofNat_of_zero_le d0
 have he:((x+y*2 ^ j:Nat):Int)=(x:Int)+(y:Int)*2 ^ j:=by rw[Int.natCast_add,Int.natCast_mul,QH]
 have hy:((y*2 ^ j:Nat):Int)=(y:Int)*2 ^ j:=by rw[Int.natCast_mul,QH]
 have h1:x<2 ^ j:=by rw[←QH] at a1;exact Int.ofNat_lt.1 a1
 have h2:x+y*2 ^ j<2 ^ 63:=by
  rw[←he,←QH 63] at h
  exact Int.ofNat_lt.1 h
 have h64:(2:Nat) ^ 64=2*2 ^ 63:=by decide
 have hs:Bc .u64 (y:Int) (j:Int)=((y*2 ^ j:Nat):Int):=by
  unfold Bc
  rw[show min ((j:Int)).toNat Go.IntKind.u64.bits=j by simp only[Go.IntKind.bits];omega,←hy]
  exact JE (by omega)
 rw[hs,j9 (by omega) (by omega)]
 have e:=Nat.two_pow_add_eq_or_of_lt h1 y
 rw[Nat.mul_comm] at e
 rw[Nat.or_comm,←e,←he]
 congr 1
 omega
theorem xV {k:Nat} {m:Int} (h:127<m):DA (k+1) m=(m%128+128)::DA k (m/128):=by rw[DA,if_pos h]
theorem Aa1 {k:Nat} {m:Int} (h:¬127<m):DA k m=[m]:=by
 cases k with
 |zero=>rfl
 |succ k=>rw[DA,if_neg h]
theorem Ad8 {n:Int} {rest:List Int} (n0:0≤n) (n1:n<4611686018427387904) (hr:Aa rest≤1000000):DI (smL n++rest)=some (n,(Aa (smL n),0)):=by
 have hsl:=It n
 have hll:=AO (smL n) rest
 have hrn:=Ap rest
 unfold DI
 refine AI (fun z:Int×Int=>z.2) (Aa (smL n++rest)) (fun z=>∃(j k:Nat) (m:Int) (pre:List Int),z.2=(j:Int)∧k+j=10∧Aa pre=(j:Int)∧smL n=pre++DA k m∧0≤z.1∧z.1<2 ^ (7*j)∧0≤m∧n=z.1+m*2 ^ (7*j)∧(0<j→1≤m)) (fun r=>r=some (n,(Aa (smL n),0))) (by omega) (by simp) (by simp only;omega) ⟨0,10,n,[],rfl,rfl,rfl,rfl,by simp,by simp,n0,by simp,fun h=>absurd h (by simp)⟩ (fun z hI i0 i1=>?_) (fun z hI hz=>?_)
 ·obtain⟨a,i⟩:=z
  obtain⟨j,k,m,pre,hi,hk,hp,hs,a0,a1,m0,hn,hm1⟩:=hI
  simp only at i0 i1 hi a0 a1 hn
  subst hi
  have hpow:(0:Int)<2 ^ (7*j):=Int.pow_pos (by decide)
  have hj8:j≤8:=by
   apply Classical.byContradiction
   intro hj
   have h1:=hm1 (by omega)
   have h2:(2:Int) ^ 63≤2 ^ (7*j):=AdA (by omega)
   have h3:(1:Int)*2 ^ (7*j)≤m*2 ^ (7*j):=Int.mul_le_mul_of_nonneg_right h1 (Int.le_of_lt hpow)
   have h4:(2:Int) ^ 63=9223372036854775808:=by decide
   omega
  have hle:∀d,0≤d→d≤m→a+d*2 ^ (7*j)<2 ^ 63:=fun d d0 dm=>by
   have h3:d*2 ^ (7*j)≤m*2 ^ (7*j):=Int.mul_le_mul_of_nonneg_right dm (Int.le_of_lt hpow)
   have h4:(2:Int) ^ 63=9223372036854775808:=by decide
   omega
  have e9:((j:Int)==9)=false:=by apply beq_false_of_ne;omega
  have e7:(7*(j:Int))=((7*j:Nat):Int):=by push_cast;rfl
  have hidx:∀b r,DA k m=b::r→idx (smL n++rest) (j:Int)=some b:=fun b r hb=>by
   rw[hs,hb,List.append_assoc,MM (by omega),if_neg (by omega),hp,Int.sub_self];rfl
  try simp only
  by_cases c:127<m
  ·obtain⟨k',rfl⟩:∃k',k=k'+1:=⟨k-1,by omega⟩
   have hst:=xV (k:=k') c
   have ho:=j8 (a:=a) (d:=m%128) (j:=7*j) a0 a1 (by omega) (hle _ (by omega) (by omega)) (by omega)
   rw[Af _ _ (decide_eq_true i1),Ab _ _ (hidx _ _ hst),e9,Bool.false_and,Ag _ _ rfl,Am (7*(j:Int)) (by omega) (by omega),Af _ _ (decide_eq_true (by omega)),Ag _ _ (decide_eq_false (by omega)),fG (by omega),show (m%128+128)%128=m%128 by omega,DT (n:=m%128) ⟨by omega,by omega⟩,e7,ho,Am ((j:Int)+1) (by omega) (by omega)]
   refine ⟨rfl,j+1,k',m/128,pre++[m%128+128],by simp,by omega,by rw[Dv];omega,by rw[hs,hst];simp,?_,?_,by omega,?_,fun _=>by omega⟩
   ·simp only
    have:0≤m%128*2 ^ (7*j):=Int.mul_nonneg (by omega) (Int.le_of_lt hpow)
    omega
   ·simp only
    have e:(2:Int) ^ (7*(j+1))=2 ^ (7*j)*128:=by rw[show 7*(j+1)=7*j+7 by omega,Int.pow_add];rfl
    have:m%128*2 ^ (7*j)≤127*2 ^ (7*j):=Int.mul_le_mul_of_nonneg_right (by omega) (Int.le_of_lt hpow)
    rw[e];omega
   ·simp only
    have e:(2:Int) ^ (7*(j+1))=128*2 ^ (7*j):=by rw[show 7*(j+1)=7+7*j by omega,Int.pow_add];rfl
    rw[e,←Int.mul_assoc,Int.add_assoc,←Int.add_mul,show m%128+m/128*128=m by omega]
    exact hn
  ·have hse:=Aa1 (k:=k) c
   have ho:=j8 (a:=a) (d:=m) (j:=7*j) a0 a1 m0 (hle _ m0 (Int.le_refl _)) (by omega)
   have hl1:Aa (smL n)=(j:Int)+1:=by rw[hs,hse,AO,hp];simp[Aa]
   rw[Af _ _ (decide_eq_true i1),Ab _ _ (hidx _ _ hse),e9,Bool.false_and,Ag _ _ rfl,Am (7*(j:Int)) (by omega) (by omega),Af _ _ (decide_eq_true (by omega)),Af _ _ (decide_eq_true (by omega)),Ag _ _ (by
    apply Bool.eq_false_iff.2
    intro hh
    simp only[Bool.and_eq_true,beq_iff_eq,decide_eq_true_eq] at hh
    have:=hm1 (by omega)
    omega),fG (by omega),show m%128=m by omega,DT (n:=m) ⟨by omega,by omega⟩,e7,ho,Am ((j:Int)+1) (by omega) (by omega),←hn,hl1]
   exact rfl
 ·obtain⟨a,i⟩:=z
  obtain⟨j,k,m,pre,hi,hk,hp,hs,a0,a1,m0,hn,hm1⟩:=hI
  simp only at hz hi
  exfalso
  have:=Uc k m
  have h2:Aa (smL n)=(j:Int)+Aa (DA k m):=by rw[hs,AO,hp]
  omega
theorem zF {l r:List Int}:Bz (l++r) (Aa l)=r:=by
 unfold Bz Aa;rw[Int.toNat_natCast,List.drop_left]
theorem Mk (n:Int) (l:List Int):BD (n::l)=smL n++BD l:=rfl
theorem tW (l:List Int):bytes_Equal (l,l)=true:=by unfold bytes_Equal;simp
theorem AcF {b:List Int} (hb:Aa b≤1000000):∃l e,HO b=some (l,e)∧Aa l≤8∧(∀p∈l,uA p):=by
 unfold HO
 obtain⟨b',bad',l,h1,h2,h3,h4⟩:=Ady (b:=b) (bad:=false) (s:=(0,([],([],([],([],([],(0,(0,(0,(0,(0,[])))))))))))) hb
 rw[Ab _ _ h1]
 obtain⟨w,e,g1,g2,g3⟩:=UC l (fun p hp=>by have:=(h4 p hp).c;omega)
 try simp only
 rw[Ab _ _ g1,AS]
 split
 ·exact ⟨[],8,rfl,by simp[Aa],fun p hp=>by cases hp⟩
 ·exact ⟨l,0,rfl,h3,h4⟩
end Go.Proofs.YtmmkfcpdfnjgjaaGreatDoor
namespace Go.Proofs.YtmmkfcpdfnjgjaaGreatDoor
open Go.Den
theorem Nh (op:Go.BinOp) (x y:Int):Ax (Ai op .u32 x y):=by
 unfold Ai;simp only
 show Ax (Go.IntKind.u32.wrap _)
 rw[wrap_u32];unfold Ax;omega
theorem dB (x:Int):Ax (SI .u32 x):=by unfold SI;exact Nh _ _ _
theorem Abf (n:Int):Ax (wr .u32 n):=by rw[MV];unfold Ax;omega
theorem Acx {x:Int} (h:Ax x):0≤Ai .and .u32 x 15∧Ai .and .u32 x 15<16:=by
 rw[Lf h ⟨by decide,by decide⟩]
 have:x.toNat &&& (15:Int).toNat≤15:=Nat.and_le_right
 omega
theorem AeN {l:List Int} (hl:Aa l≤1000000):∃v,Ga l=some v∧Ax v:=by
 have hn:=Ap l
 unfold Ga
 rw[Af _ _ (by rfl)]
 refine AI (fun z:Int×Int×List Int=>z.2.1) (Aa l) (fun z=>Aa z.2.2=16) (fun r=>∃v,r=some v∧Ax v) (by omega) (by simp) hn (by rfl) (fun z hI i0 i1=>?_) (fun z hI hz=>?_)
 ·obtain⟨r,i,tb⟩:=z
  simp only at hI i0 i1
  obtain⟨b,hb,_⟩:=Au i0 i1
  try simp only
  rw[Af _ _ (decide_eq_true i1),Ab _ _ hb]
  have h1:=Acx (Nh .xor r (wr .u32 b))
  obtain⟨t1,e1,_⟩:=Au (l:=tb) h1.1 (by omega)
  have n1:Qq tb 16 (Ai .and .u32 (Ai .xor .u32 r (wr .u32 b)) 15)=some t1:=by unfold Qq;rw[if_pos hI];exact e1
  rw[Ab _ _ n1,Ab _ _ e1]
  have h2:=Acx (Nh .xor (Ai .xor .u32 (Av .u32 r 4) t1) (wr .u32 (Av .u8 b 4)))
  obtain⟨t2,e2,_⟩:=Au (l:=tb) h2.1 (by omega)
  have n2:Qq tb 16 (Ai .and .u32 (Ai .xor .u32 (Ai .xor .u32 (Av .u32 r 4) t1) (wr .u32 (Av .u8 b 4))) 15)=some t2:=by unfold Qq;rw[if_pos hI];exact e2
  rw[Ab _ _ n2,Ab _ _ e2,Am (i+1) (by omega) (by omega)]
  exact ⟨rfl,hI⟩
 ·obtain⟨r,i,tb⟩:=z
  simp only at hI hz
  subst hz
  try simp only
  rw[Ag _ _ (decide_eq_false (by omega))]
  exact ⟨_,rfl,dB _⟩
def NZ (l:List Int):Int:=(Ga l).getD 0
theorem uC {l:List Int} (hl:Aa l≤1000000):Ga l=some (NZ l)∧Ax (NZ l):=by
 obtain⟨v,h1,h2⟩:=AeN hl
 unfold NZ;rw[h1];exact ⟨rfl,h2⟩
def leB (w n:Nat):List Int:=(List.range w).map fun i=>((n/2 ^ (8*i)%256:Nat):Int)
theorem Kk (w n:Nat):Aa (leB w n)=w:=by unfold leB Aa;simp
theorem tM {w n:Nat} {i:Int} (i0:0≤i) (i1:i<w):idx (leB w n) i=some ((n/2 ^ (8*i.toNat)%256:Nat):Int):=by
 unfold leB
 rw[B7 i0,List.getElem?_map,List.getElem?_range (by omega)];rfl
theorem bB {w n:Nat}:∀b∈leB w n,0≤b∧b≤255:=fun b hb=>by
 unfold leB at hb
 obtain⟨i,_,rfl⟩:=List.mem_map.1 hb
 omega
theorem Ack {n:Nat} {i:Nat} (hi:8*i≤63):wr .u8 (Av .u64 (n:Int) ((8*i:Nat):Int))=((n/2 ^ (8*i)%256:Nat):Int):=by
 rw[Ko n _ hi,Nat.shiftRight_eq_div_pow,OC];omega
theorem bK {w n:Nat} (hw:w≤8) (_hn:n<2 ^ 64) {A:Type} {bad:A} {F:Int×List Int→Step (Int×List Int) A} (P:A→Prop)
 (hF:∀(i:Int) out (y:Int),0≤i→i<(w:Int)→Aa out=(w:Int)→y=wr .u8 (Av .u64 (n:Int) (8*i))→F (i,out)=.next (i+1,A8 out i y)) (hK:∃r,F ((w:Int),leB w n)=.done r∧P r):P (iter bad F AA (0,AQ (w:Int) 0)):=by
 refine AI (fun z:Int×List Int=>z.1) (w:Int) (fun z=>Aa z.2=w∧∀j,0≤j→j<z.1→idx z.2 j=idx (leB w n) j) P (by omega) (by simp) (by simp) ⟨Bu (by omega) _,fun j j0 j1=>absurd j1 (by simp only;omega)⟩ (fun z hI i0 i1=>?_) (fun z hI hz=>?_)
 ·obtain⟨i,out⟩:=z
  obtain⟨hl,hj⟩:=hI
  simp only at i0 i1 hl hj
  rw[hF i out _ i0 i1 hl rfl]
  refine ⟨rfl,by (try simp only);rw[Bw];exact hl,fun j j0 j1=>?_⟩
  simp only at j1 ⊢
  rw[CW i0 (by omega)]
  split
  ·rename_i e
   subst e
   rw[tM j0 i1]
   have e8:(8*j:Int)=((8*j.toNat:Nat):Int):=by omega
   rw[e8,Ack (by omega)]
  ·exact hj j j0 (by omega)
 ·obtain⟨i,out⟩:=z
  obtain⟨hl,hj⟩:=hI
  simp only at hz hl hj
  subst hz
  have:out=leB w n:=GO (by rw[Kk];exact hl) fun j j0 j1=>hj j j0 (by omega)
  obtain⟨r,hr,hP⟩:=hK
  rw[this,hr];exact hP
theorem yT {n:Int} (h:Ax n):FB (n,4)=some (leB 4 n.toNat,0):=by
 obtain⟨x,rfl⟩:=Int.eq_ofNat_of_zero_le h.1
 have hx:x<2 ^ 32:=Fs h
 have h64:(2:Nat) ^ 64=2 ^ 32*2 ^ 32:=by decide
 unfold FB
 try simp only
 rw[Ag _ _ (by rfl),Af _ _ (by rfl),Am (8*4) (by decide) (by decide),Af _ _ (by rfl)]
 have hs:Av .u64 (x:Int) (8*4)=0:=by
  rw[show (8*4:Int)=((32:Nat):Int) by rfl,Ko x 32 (by decide),Nat.shiftRight_eq_div_pow,Nat.div_eq_of_lt hx];rfl
 rw[hs,Ag _ _ (by rfl),Af _ _ (by rfl)]
 refine bK (w:=4) (n:=x) (by decide) (by omega) (fun r=>r=some (leB 4 (x:Int).toNat,0)) (fun i out y i0 i1 hl hy=>?_) ⟨_,Ag _ _ (by rfl),rfl⟩
 obtain⟨o,ho,_⟩:=Au (l:=out) i0 (by omega)
 try simp only
 rw[Af _ _ (decide_eq_true (by rw[Bu (by decide)];exact i1)),Am (8*i) (by omega) (by omega),Af _ _ (decide_eq_true (by omega)),Ab _ _ ho,Ab _ _ ho,Am (i+1) (by omega) (by omega),←hy]
theorem Ad7 {n:Int} (h:Ci n):FB (n,8)=some (leB 8 n.toNat,0):=by
 obtain⟨x,rfl⟩:=Int.eq_ofNat_of_zero_le h.1
 have hx:x<2 ^ 64:=PC h
 unfold FB
 try simp only
 rw[Ag _ _ (by rfl),Ag _ _ (by rfl),Af _ _ (by rfl)]
 refine bK (w:=8) (n:=x) (by decide) hx (fun r=>r=some (leB 8 (x:Int).toNat,0)) (fun i out y i0 i1 hl hy=>?_) ⟨_,Ag _ _ (by rfl),rfl⟩
 obtain⟨o,ho,_⟩:=Au (l:=out) i0 (by omega)
 try simp only
 rw[Af _ _ (decide_eq_true (by rw[Bu (by decide)];exact i1)),Am (8*i) (by omega) (by omega),Af _ _ (decide_eq_true (by omega)),Ab _ _ ho,Ab _ _ ho,Am (i+1) (by omega) (by omega),←hy]
theorem Acs {w n:Nat} (w1:1≤w) (hw:w≤8) (hn:n<2 ^ (8*w)) (h63:n<2 ^ 63):FA (leB w n)=some ((n:Int),0):=by
 unfold FA
 rw[Kk,Ag _ _ (by simp;omega)]
 refine AI (fun z:Int×Int=>z.2) (w:Int) (fun z=>z.1=((n%2 ^ (8*z.2.toNat):Nat):Int)) (fun r=>r=some ((n:Int),0)) (by omega) (by simp) (by simp) (by simp[Nat.mod_one]) (fun z hI i0 i1=>?_) (fun z hI hz=>?_)
 ·obtain⟨a,i⟩:=z
  simp only at hI i0 i1
  obtain⟨j,rfl⟩:=Int.eq_ofNat_of_zero_le i0
  have hm:=Nat.mod_mul (x:=n) (a:=2 ^ (8*j)) (b:=256)
  have e256:(2:Nat) ^ (8*(j+1))=2 ^ (8*j)*256:=by rw[show 8*(j+1)=8*j+8 by omega,Nat.pow_add]
  have e8:(8*(j:Int))=((8*j:Nat):Int):=by push_cast;rfl
  have hmle:n%(2 ^ (8*j)*256)≤n:=Nat.mod_le _ _
  have hlt:n%2 ^ (8*j)<2 ^ (8*j):=Nat.mod_lt _ (Nat.pow_pos (by decide))
  have hsum:((n%2 ^ (8*j):Nat):Int)+((n/2 ^ (8*j)%256:Nat):Int)*2 ^ (8*j)=((n%2 ^ (8*(j+1)):Nat):Int):=by
   rw[e256,hm,Int.natCast_add,Int.natCast_mul,QH,Int.mul_comm]
  have ho:=j8 (a:=((n%2 ^ (8*j):Nat):Int)) (d:=((n/2 ^ (8*j)%256:Nat):Int)) (j:=8*j) (by omega) (by rw[←QH];exact Int.ofNat_lt.2 hlt) (by omega) (by
   rw[hsum,←QH,e256];exact Int.ofNat_lt.2 (Nat.lt_of_le_of_lt hmle h63)) (by omega)
  try simp only
  rw[Af _ _ (decide_eq_true i1),Ab _ _ (tM i0 i1),Am (8*(j:Int)) (by omega) (by omega),Af _ _ (decide_eq_true (by omega)),Am ((j:Int)+1) (by omega) (by omega)]
  simp only[Int.toNat_natCast] at hI ⊢
  rw[DT (n:=((n/2 ^ (8*j)%256:Nat):Int)) ⟨by omega,by omega⟩,hI,e8,ho]
  refine ⟨rfl,?_⟩
  simp only
  rw[hsum,show ((j:Int)+1).toNat=j+1 by omega]
 ·obtain⟨a,i⟩:=z
  simp only at hI hz
  subst hz
  try simp only
  rw[Ag _ _ (decide_eq_false (by omega)),hI,Int.toNat_natCast,Nat.mod_eq_of_lt hn]
  exact rfl
def Bytes (l:List Int):Prop:=∀b∈l,0≤b∧b≤255
def E7 (x:Int):List Int:=if x=125∨x=126 then [125,x-32] else [x]
def Bg (l:List Int):List Int:=l.flatMap E7
theorem Kr (l m:List Int):Bg (l++m)=Bg l++Bg m:=by unfold Bg;rw[List.flatMap_append]
theorem KV (x:Int) (l:List Int):Bg (x::l)=E7 x++Bg l:=rfl
theorem xX (x:Int):1≤Aa (E7 x)∧Aa (E7 x)≤2:=by unfold E7;split<;>simp[Aa]
theorem Jh:∀l:List Int,Aa l≤Aa (Bg l)∧Aa (Bg l)≤2*Aa l
 |[]=>by simp[Bg,Aa]
 |x::l=>by
  have:=Jh l;have:=xX x
  rw[KV,AO,EY];omega
theorem Acm {l:List Int}:∀b∈Bg l,b≠126:=fun b hb=>by
 unfold Bg at hb
 obtain⟨x,_,hx⟩:=List.mem_flatMap.1 hb
 unfold E7 at hx
 split at hx
 ·rename_i h
  simp at hx
  rcases hx with rfl|rfl
  ·decide
  ·omega
 ·rename_i h
  simp at hx
  subst hx
  exact fun e=>h (.inr e)
theorem Kt {α:Type} {l:List α} {i:Int} {x:α} (i0:0≤i) (h:idx l i=some x):AF l (i+1)=AF l i++[x]:=by
 unfold AF
 rw[show (i+1).toNat=i.toNat+1 by omega,List.take_add_one]
 rw[B7 i0] at h
 rw[h];rfl
theorem PX {α:Type} {l:List α}:AF l (Aa l)=l:=by unfold AF Aa;rw[Int.toNat_natCast,List.take_length]
theorem HU {α:Type} {l:List α}:AF l 0=[]:=by unfold AF;rfl
theorem AcI {l:List Int} (hl:Aa l≤100000) (hb:Bytes l):GN l=some (Bg l):=by
 have hn:=Ap l
 unfold GN
 rw[Af _ _ (by rw[decide_eq_true hn,Bool.true_and];exact UN (by omega))]
 refine AI (fun z:List Int×Int=>z.2) (Aa l) (fun z=>z.1=Bg (AF l z.2)) (fun r=>r=some (Bg l)) (by omega) (by simp) hn (by simp[AQ,HU,Bg]) (fun z hI i0 i1=>?_) (fun z hI hz=>?_)
 ·obtain⟨out,i⟩:=z
  simp only at hI i0 i1
  obtain⟨x,hx,hm⟩:=Au i0 i1
  have h255:=hb x hm
  have hlt:=Ek (l:=l) i0 (by omega)
  have hsl:=Jh (AF l i)
  have hol:Aa out≤200000:=by rw[hI];omega
  try simp only
  rw[Af _ _ (decide_eq_true i1),Ab _ _ hx,Am (i+1) (by omega) (by omega)]
  by_cases c:x=125∨x=126
  ·have e1:E7 x=[125,x-32]:=by unfold E7;rw[if_pos c]
   rw[Af _ _ (by simpa using c),Af _ _ (Bx (l:=out) (by omega)),Af _ _ (Bx (l:=out++(125::[])) (by rw[Dv];omega))]
   have e2:wr .u8 (x-32)=x-32:=OB _ (by omega) (by omega)
   refine ⟨rfl,?_⟩
   simp only
   rw[Kt i0 hx,Kr,hI,e2]
   simp[Bg,e1]
  ·have e1:E7 x=[x]:=by unfold E7;rw[if_neg c]
   rw[Ag _ _ (by simpa using c),Af _ _ (Bx (l:=out) (by omega))]
   refine ⟨rfl,?_⟩
   simp only
   rw[Kt i0 hx,Kr,hI]
   simp[Bg,e1]
 ·obtain⟨out,i⟩:=z
  simp only at hI hz
  subst hz
  try simp only
  rw[Ag _ _ (decide_eq_false (by omega)),hI,PX]
  exact rfl
theorem yL {l:List Int} (hl:Aa l≤100000):∃b e,DZ l=some (b,e)∧Aa b≤Aa l:=by
 have hn:=Ap l
 unfold DZ
 rw[Af _ _ (by rw[decide_eq_true hn,Bool.true_and];exact UN (by omega))]
 have bad:∃b e,(some ([],8):Option (List Int×Int))=some (b,e)∧Aa b≤Aa l:=⟨[],8,rfl,by simp[Aa]⟩
 refine AI (fun z:List Int×Bool×Int=>z.2.2) (Aa l) (fun z=>Aa z.1≤z.2.2) (fun r=>∃b e,r=some (b,e)∧Aa b≤Aa l) (by omega) (by simp) hn (by simp[AQ,Aa]) (fun z hI i0 i1=>?_) (fun z hI hz=>?_)
 ·obtain⟨out,sg,i⟩:=z
  simp only at hI i0 i1
  obtain⟨x,hx,hm⟩:=Au i0 i1
  try simp only
  rw[Af _ _ (decide_eq_true i1),Ab _ _ hx,Am (i+1) (by omega) (by omega),AS]
  split
  ·exact bad
  rw[AS]
  split
  ·exact bad
  rw[AS]
  split
  ·rw[Af _ _ (Bx (l:=out) (by omega))]
   exact ⟨rfl,by simp only;rw[Dv];omega⟩
  rw[AS]
  split
  ·exact ⟨rfl,by simp only;omega⟩
  rw[Af _ _ (Bx (l:=out) (by omega))]
  exact ⟨rfl,by simp only;rw[Dv];omega⟩
 ·obtain⟨out,sg,i⟩:=z
  simp only at hI hz
  subst hz
  try simp only
  rw[Ag _ _ (decide_eq_false (by omega)),AS]
  split
  ·exact bad
  ·exact ⟨out,0,rfl,hI⟩
theorem yK {l:List Int} (hl:Aa l≤40000) (hb:Bytes l):DZ (Bg l)=some (l,0):=by
 have hn:=Ap l
 have hsl:=Jh l
 unfold DZ
 rw[Af _ _ (by rw[decide_eq_true (Ap _),Bool.true_and];exact UN (by omega))]
 refine AI (fun z:List Int×Bool×Int=>z.2.2) (Aa (Bg l)) (fun z=>∃q,l=z.1++q∧((z.2.1=false∧z.2.2=Aa (Bg z.1))∨(z.2.1=true∧z.2.2=Aa (Bg z.1)+1∧∃x q',q=x::q'∧(x=125∨x=126)))) (fun r=>r=some (l,0)) (by omega) (by simp) (by simp only;omega) ⟨l,rfl,.inl ⟨rfl,rfl⟩⟩ (fun z hI i0 i1=>?_) (fun z hI hz=>?_)
 ·obtain⟨out,sg,i⟩:=z
  obtain⟨q,hq,hc⟩:=hI
  simp only at i0 i1 hq hc
  have hol:Aa out≤Aa l:=by rw[hq,AO];have:=Ap q;omega
  have hsp:Bg l=Bg out++Bg q:=by rw[hq,Kr]
  rcases hc with ⟨rfl,hi⟩|⟨rfl,hi,x,q',rfl,hx⟩
  ·cases q with
   |nil =>
    exfalso
    rw[hsp,AO] at i1
    simp[Bg,Aa] at i1 hi
    omega
   |cons x q' =>
    have hxm:x∈l:=by rw[hq];simp
    have h255:=hb x hxm
    have hidx:∀y r,Bg (x::q')=y::r→idx (Bg l) i=some y:=fun y r e=>by
     rw[hsp,e,MM i0,if_neg (by omega),hi,Int.sub_self];rfl
    try simp only
    by_cases c:x=125∨x=126
    ·have e1:E7 x=[125,x-32]:=by unfold E7;rw[if_pos c]
     rw[Af _ _ (decide_eq_true i1),Ab _ _ (hidx 125 ((x-32)::Bg q') (by rw[KV,e1];rfl)),Ag _ _ (by rfl),Ag _ _ (by rfl),Ag _ _ (by rfl),Af _ _ (by rfl),Am (i+1) (by omega) (by omega)]
     exact ⟨rfl,x::q',hq,.inr ⟨rfl,by simp only;omega,x,q',rfl,c⟩⟩
    ·have e1:E7 x=[x]:=by unfold E7;rw[if_neg c]
     rw[Af _ _ (decide_eq_true i1),Ab _ _ (hidx x (Bg q') (by rw[KV,e1];rfl)),Ag _ _ (by rfl),Ag _ _ (by simp;omega),Ag _ _ (by rfl),Ag _ _ (by simp;omega),Af _ _ (Bx (l:=out) (by omega)),Am (i+1) (by omega) (by omega)]
     refine ⟨rfl,q',by simp only;rw[hq];simp,.inl ⟨rfl,?_⟩⟩
     simp only
     rw[Kr,AO,hi]
     simp[Bg,e1,Aa]
  ·have hxm:x∈l:=by rw[hq];simp
   have h255:=hb x hxm
   have e1:E7 x=[125,x-32]:=by unfold E7;rw[if_pos hx]
   have hidx:idx (Bg l) i=some (x-32):=by
    rw[hsp,KV,e1,MM i0,if_neg (by omega),hi,show Aa (Bg out)+1-Aa (Bg out)=1 by omega];rfl
   have hne:((true&&(!(x-32==93)))&&(!(x-32==94)))=false:=by
    rcases hx with rfl|rfl<;>rfl
   have e2:wr .u8 (x-32+32)=x:=by rw[show x-32+32=x by omega];exact OB _ (by omega) (by omega)
   try simp only
   rw[Af _ _ (decide_eq_true i1),Ab _ _ hidx,Ag _ _ hne,Ag _ _ (by rcases hx with rfl|rfl<;>rfl),Af _ _ rfl,e2,Af _ _ (Bx (l:=out) (by omega)),Am (i+1) (by omega) (by omega)]
   refine ⟨rfl,q',by simp only;rw[hq];simp,.inl ⟨rfl,?_⟩⟩
   simp only
   rw[Kr,AO,hi]
   simp[Bg,e1,Aa]
   omega
 ·obtain⟨out,sg,i⟩:=z
  obtain⟨q,hq,hc⟩:=hI
  simp only at hz hq hc
  have hsp:Bg l=Bg out++Bg q:=by rw[hq,Kr]
  have hlq:=Jh q
  have hlen:Aa (Bg l)=Aa (Bg out)+Aa (Bg q):=by rw[hsp,AO]
  rcases hc with ⟨rfl,hi⟩|⟨rfl,hi,x,q',rfl,hx⟩
  ·have hq0:q=[]:=by
    cases q with
    |nil=>rfl
    |cons x q'=>rw[EY] at hlq;have:=Ap q';omega
   subst hq0
   rw[List.append_nil] at hq
   subst hq
   try simp only
   rw[Ag _ _ (decide_eq_false (by omega))]
   exact rfl
  ·exfalso
   have e1:E7 x=[125,x-32]:=by unfold E7;rw[if_pos hx]
   have:Aa (Bg (x::q'))=2+Aa (Bg q'):=by rw[KV,e1,AO];rfl
   have:=Ap (Bg q')
   omega
end Go.Proofs.YtmmkfcpdfnjgjaaGreatDoor
namespace Go.Proofs.YtmmkfcpdfnjgjaaGreatDoor
open Go.Den
theorem Ng {l:List Int} (h:Aa l≤1000000):CL l=some l:=by
 unfold CL
 rw[Af _ _ (by rw[Bool.true_and];exact room_le (by omega))]
 rfl
theorem aK {l:List Int} (h:Aa l≤1000000):EU l=some l:=by
 unfold EU
 rw[Af _ _ (by rw[Bool.true_and];exact room_le (by omega))]
 rfl
structure Hm (m:AX):Prop where
 seq:Ax m.2.1
 body:Aa m.2.2≤512
theorem yQ {l:List Int} (hl:Aa l≤100000):∃m e,EC l=some (m,e)∧(e=0→Hm m):=by
 have hn:=Ap l
 unfold EC
 rw[Am (Aa l-4) (by omega) (by omega),AS]
 split
 ·exact ⟨_,_,rfl,fun h=>by cases h⟩
 rename_i hc
 simp only[Bool.or_eq_true,decide_eq_true_eq,not_or,Int.not_lt] at hc
 have h5:=Ek (l:=l) (n:=5) (by decide) (by omega)
 have h6:=EN (l:=AF l 5) (n:=1) (by decide) (by omega)
 have h7:=EN (l:=l) (n:=Aa l-4) (by omega) (by omega)
 have h8:=Ek (l:=l) (n:=Aa l-4) (by omega) (by omega)
 have h9:=EN (l:=AF l (Aa l-4)) (n:=5) (by decide) (by omega)
 obtain⟨v1,e1,g1,u1⟩:=tX (l:=Bz (AF l 5) 1) (by omega)
 obtain⟨v2,e2,g2,u2⟩:=tX (l:=Bz l (Aa l-4)) (by omega)
 obtain⟨s1,s2⟩:=uC (l:=AF l (Aa l-4)) (by omega)
 obtain⟨k,hk,_⟩:=Au (l:=l) (i:=0) (by decide) (by omega)
 have dd:(decide (0≤Aa l-4)&&decide (Aa l-4≤Aa l))=true:=by simp;omega
 rw[Af _ _ (decide_eq_true (by omega)),Ab _ _ g1,Af _ _ dd,Ab _ _ g2,Af _ _ dd,Ab _ _ s1,AS]
 split
 ·exact ⟨_,_,rfl,fun h=>by cases h⟩
 rw[Ab _ _ hk,Af _ _ (by simp;omega),Ab _ _ (Ng (by omega))]
 exact ⟨_,_,rfl,fun _=>⟨Abf _,by show Aa (Bz (AF l (Aa l-4)) 5)≤512;omega⟩⟩
def Cf (m:AX):List Int:=((m.1::[])++leB 4 m.2.1.toNat)++m.2.2++leB 4 (NZ (((m.1::[])++leB 4 m.2.1.toNat)++m.2.2)).toNat
theorem KJ (m:AX):Aa (Cf m)=9+Aa m.2.2:=by
 unfold Cf;simp only[AO,Kk];simp[Aa];omega
theorem SJ {m:AX} (h1:0≤m.1∧m.1≤255) (h2:Bytes m.2.2):Bytes (Cf m):=fun b hb=>by
 unfold Cf at hb
 simp only[List.mem_append,List.mem_cons,List.not_mem_nil,or_false] at hb
 rcases hb with ((rfl|hb)|hb)|hb
 ·exact h1
 ·exact bB b hb
 ·exact h2 b hb
 ·exact bB b hb
theorem Abk {m:AX} (hm:Hm m):Gh m=some (Cf m,0):=by
 have hs:=hm.seq
 have hb:=hm.body
 have hb0:=Ap m.2.2
 have hu:wr .u64 m.2.1=m.2.1:=DT ⟨hs.1,by have:=hs.2;omega⟩
 unfold Gh
 have l1:Aa (leB 4 m.2.1.toNat)=4:=Kk 4 _
 have l2:Aa (m.1::([]:List Int))=1:=rfl
 have l3:Aa ((m.1::[])++leB 4 m.2.1.toNat)=5:=by rw[AO];omega
 have l4:Aa (((m.1::[])++leB 4 m.2.1.toNat)++m.2.2)=5+Aa m.2.2:=by rw[AO,l3]
 obtain⟨s1,s2⟩:=uC (l:=((m.1::[])++leB 4 m.2.1.toNat)++m.2.2) (by omega)
 have hu2:wr .u64 (NZ (((m.1::[])++leB 4 m.2.1.toNat)++m.2.2))=NZ (((m.1::[])++leB 4 m.2.1.toNat)++m.2.2):=DT ⟨s2.1,by have:=s2.2;omega⟩
 rw[Ag _ _ (decide_eq_false (by omega)),hu,Ab _ _ (yT hs)]
 try simp only
 rw[Af _ _ (Hi (by omega) (by omega)),Af _ _ (Hi (by omega) (by omega)),Ab _ _ s1,hu2,Ab _ _ (yT s2)]
 try simp only
 rw[Af _ _ (Hi (by omega) (by rw[Kk];decide))]
 rfl
theorem vG {l m:List Int} {n:Int} (h:Aa l=n):Bz (l++m) n=m:=by rw[←h];exact zF
theorem AcB {l m:List Int} {n:Int} (h:Aa l=n):AF (l++m) n=l:=by
 rw[←h];unfold AF Aa;rw[Int.toNat_natCast,List.take_left]
theorem Ad5 {m:AX} (hm:Hm m):EC (Cf m)=some (m,0):=by
 have hs:=hm.seq
 have hb:=hm.body
 have hb0:=Ap m.2.2
 have hlen:=KJ m
 have l1:Aa (leB 4 m.2.1.toNat)=4:=Kk 4 _
 have l2:Aa (m.1::([]:List Int))=1:=rfl
 have l3:Aa ((m.1::[])++leB 4 m.2.1.toNat)=5:=by rw[AO];omega
 have l4:Aa (((m.1::[])++leB 4 m.2.1.toNat)++m.2.2)=5+Aa m.2.2:=by rw[AO,l3]
 obtain⟨s1,s2⟩:=uC (l:=((m.1::[])++leB 4 m.2.1.toNat)++m.2.2) (by omega)
 have t1:AF (Cf m) (Aa (Cf m)-4)=((m.1::[])++leB 4 m.2.1.toNat)++m.2.2:=AcB (by omega)
 have t2:Bz (Cf m) (Aa (Cf m)-4)=leB 4 (NZ (((m.1::[])++leB 4 m.2.1.toNat)++m.2.2)).toNat:=vG (by omega)
 have t3:AF (Cf m) 5=(m.1::[])++leB 4 m.2.1.toNat:=by
  unfold Cf;rw[List.append_assoc];exact AcB l3
 have t4:Bz ((m.1::[])++leB 4 m.2.1.toNat) 1=leB 4 m.2.1.toNat:=vG l2
 have t5:Bz (((m.1::[])++leB 4 m.2.1.toNat)++m.2.2) 5=m.2.2:=vG l3
 have n1:m.2.1.toNat<2 ^ 32:=Fs hs
 have n2:(NZ (((m.1::[])++leB 4 m.2.1.toNat)++m.2.2)).toNat<2 ^ 32:=Fs s2
 have p63:(2:Nat) ^ 63=2 ^ 32*2 ^ 31:=by decide
 have g1:=Acs (w:=4) (n:=m.2.1.toNat) (by decide) (by decide) (by simpa using n1) (by omega)
 have g2:=Acs (w:=4) (n:=(NZ (((m.1::[])++leB 4 m.2.1.toNat)++m.2.2)).toNat) (by decide) (by decide) (by simpa using n2) (by omega)
 rw[Int.toNat_of_nonneg hs.1] at g1
 rw[Int.toNat_of_nonneg s2.1] at g2
 have hu2:wr .u64 (NZ (((m.1::[])++leB 4 m.2.1.toNat)++m.2.2))=NZ (((m.1::[])++leB 4 m.2.1.toNat)++m.2.2):=DT ⟨s2.1,by have:=s2.2;omega⟩
 have hi0:idx (Cf m) 0=some m.1:=rfl
 have dd:(decide (0≤Aa (Cf m)-4)&&decide (Aa (Cf m)-4≤Aa (Cf m)))=true:=by simp;omega
 unfold EC
 rw[Am (Aa (Cf m)-4) (by omega) (by omega),Ag _ _ (by simp;omega),Af _ _ (decide_eq_true (by omega)),t3,t4,Ab _ _ g1,Af _ _ dd,t2,Ab _ _ g2,Af _ _ dd,t1,Ab _ _ s1,hu2]
 try simp only
 rw[Ag _ _ (by simp),Ab _ _ hi0,Af _ _ (by simp;omega),t5,Ab _ _ (Ng (by omega))]
 have:wr .u32 m.2.1=m.2.1:=by rw[MV];have:=hs.1;have:=hs.2;omega
 rw[this]
def GG (m:AX):List Int:=((126::[])++Bg (Cf m))++(126::[])
theorem Abh {m:AX} (h:Aa m.2.2≤512):11≤Aa (GG m)∧Aa (GG m)≤1100:=by
 have:=Jh (Cf m)
 have:=KJ m
 have:=Ap m.2.2
 unfold GG;simp only[AO]
 have:Aa ((126:Int)::[])=1:=rfl
 omega
theorem AcJ {m:AX} (hm:Hm m) (h1:0≤m.1∧m.1≤255) (h2:Bytes m.2.2):FM m=some (GG m,0):=by
 have hb:=hm.body
 have hb0:=Ap m.2.2
 have hlen:=KJ m
 have hsl:=Jh (Cf m)
 unfold FM
 rw[Ab _ _ (Abk hm)]
 try simp only
 rw[Ag _ _ (by rfl),Ab _ _ (AcI (by omega) (SJ h1 h2)),Af _ _ (Hi (by simp[Aa]) (by omega)),Af _ _ (Hi (by rw[AO];simp[Aa] at *;omega) (by simp[Aa]))]
 rfl
def tY (l:List Int):Prop:=∀b∈l,b≠126
theorem yP {l:List Int} (hl:Aa l≤1000000):∃i,CN (l,126)=some i∧-1≤i∧i<Aa l∧(0≤i→idx l i=some 126)∧∀j,i<j→idx l j≠some 126:=by
 have hn:=Ap l
 have key:∃i,CT (l,126)=some i∧-1≤i∧i<Aa l∧(0≤i→idx l i=some 126)∧∀j,i<j→idx l j≠some 126:=by
  unfold CT
  try simp only
  rw[Am (Aa l-1) (by omega) (by omega)]
  refine EG (fun z:Int=>-1≤z∧z<Aa l∧∀j,z<j→idx l j≠some 126) (fun z=>(z+1).toNat) (fun r:Option Int=>∃i,r=some i∧-1≤i∧i<Aa l∧(0≤i→idx l i=some 126)∧∀j,i<j→idx l j≠some 126) ?_ AA (Aa l-1) ⟨by omega,by omega,fun j hj hc=>by have:=(An hc).2.1;omega⟩ (by rw[Gl];omega)
  rintro z ⟨z0,z1,zj⟩
  by_cases c:0≤z
  ·obtain⟨b,hb,_⟩:=Au c z1
   rw[Af _ _ (decide_eq_true c),Ab _ _ hb]
   by_cases e:b=126
   ·rw[Af _ _ (by simpa using e)]
    exact ⟨z,rfl,z0,z1,fun _=>by rw[hb,e],zj⟩
   ·rw[Ag _ _ (by simpa using e),Am (z-1) (by omega) (by omega)]
    refine ⟨⟨by omega,by omega,fun j hj hc=>?_⟩,(by show (z-1+1).toNat<(z+1).toNat;omega)⟩
    by_cases ej:j=z
    ·subst ej;rw[hb] at hc;exact e (Option.some.inj hc)
    ·exact zj j (by omega) hc
  ·rw[Ag _ _ (decide_eq_false c)]
   have:z = -1:=by omega
   subst this
   exact ⟨-1,rfl,by omega,by omega,fun h=>absurd h (by decide),zj⟩
 obtain⟨i,h1,h2⟩:=key
 unfold CN
 rw[Ab _ _ h1]
 exact ⟨i,rfl,h2⟩
abbrev Rd:=Int×List AX×yS
theorem AeE {l:List Int} (hl:Aa l≤16384):∃ms last,Cz l=some (ms,(last,0))∧Aa ms≤Aa l∧(∀m∈ms,Hm m)∧-1≤last∧last<Aa l∧(0≤last→idx l last=some 126)∧∀j,last<j→idx l j≠some 126:=by
 have hn:=Ap l
 obtain⟨la,ha,hb⟩:=yP (l:=l) (by omega)
 unfold Cz
 rw[Ag _ _ (decide_eq_false (by omega)),Ag _ _ (decide_eq_false (by omega))]
 refine AI (fun z:Rd=>z.1) (Aa l) (fun z=>Aa z.2.1≤z.1∧(∀m∈z.2.1,Hm m)∧Aa z.2.2.1≤1043) (fun r=>∃ms last,r=some (ms,(last,0))∧Aa ms≤Aa l∧(∀m∈ms,Hm m)∧-1≤last∧last<Aa l∧(0≤last→idx l last=some 126)∧∀j,last<j→idx l j≠some 126) (by omega) (by simp) hn ⟨by simp[Aa],fun m hm=>(by cases hm),by simp[Aa]⟩ (fun z hI i0 i1=>?_) (fun z hI hz=>?_)
 ·obtain⟨i,ms,un,bg,lg,md⟩:=z
  obtain⟨h1,h2,h3⟩:=hI
  simp only at i0 i1 h1 h2 h3
  obtain⟨b,hb',_⟩:=Au i0 i1
  have hun:=Ap un
  have t0:Aa (AF un 0)=0:=by rw[HU];rfl
  try simp only
  rw[Af _ _ (decide_eq_true i1),Ab _ _ hb',Am (i+1) (by omega) (by omega),AS]
  split
  ·obtain⟨c,e,q1,q2⟩:=yL (l:=un) (by omega)
   rw[Ab _ _ q1,AS]
   split
   ·rw[Af _ _ (decide_eq_true hun)]
    exact ⟨rfl,by simp only;omega,h2,by simp only;omega⟩
   ·obtain⟨m,e',p1,p2⟩:=yQ (l:=c) (by omega)
    try simp only
    rw[Ab _ _ p1,AS]
    split
    ·rename_i hc
     simp only[Bool.and_eq_true,beq_iff_eq] at hc
     rw[Af _ _ (Bx (l:=ms) (by omega)),Af _ _ (decide_eq_true hun)]
     refine ⟨rfl,by simp only;rw[Dv];omega,fun m' hm'=>?_,by simp only;omega⟩
     rcases List.mem_append.1 hm' with hm'|hm'
     ·exact h2 m' hm'
     ·have:m'=m:=by simpa using hm'
      subst this
      exact p2 hc.1.1
    ·rw[Af _ _ (decide_eq_true hun)]
     exact ⟨rfl,by simp only;omega,h2,by simp only;omega⟩
  ·rw[AS]
   split
   ·exact ⟨rfl,by simp only;omega,h2,h3⟩
   ·rename_i hc
    simp only[decide_eq_true_eq,Int.not_le] at hc
    rw[AS]
    split
    ·rw[Af _ _ (Bx (l:=un) (by omega))]
     exact ⟨rfl,by simp only;omega,h2,by simp only;rw[Dv];omega⟩
    ·exact ⟨rfl,by simp only;omega,h2,h3⟩
 ·obtain⟨i,ms,un,bg,lg,md⟩:=z
  obtain⟨h1,h2,h3⟩:=hI
  simp only at hz h1 h2 h3
  subst hz
  try simp only
  rw[Ag _ _ (decide_eq_false (by omega)),Ab _ _ ha]
  exact ⟨ms,la,rfl,h1,h2,hb⟩
theorem Abj {a b:List Int} (ha:Aa a≤1000000) (hb:Aa b≤1000000):Cg (a::(b::[]))=some (a++b):=by
 have ha0:=Ap a
 have hb0:=Ap b
 have i0:idx (a::(b::[])) 0=some a:=rfl
 have i1:idx (a::(b::[])) 1=some b:=rfl
 have l2:Aa (a::(b::([]:List (List Int))))=2:=rfl
 have lot:∀ {σ A:Type} {bad:A} {f:σ→Step σ A} {s:σ},iter bad f AA s=(match f s with | .next s'=>iter bad f (AA-1) s' | .done r=>r):=fun {σ A bad f s}=>by
  rw[Gl];rfl
 have grow:∀(K:List Int→Option (List Int)) (F:Int×List Int→Step (Int×List Int) (Option (List Int))) (hF:∀i out x,0≤i→i<2→Aa out≤1000000→idx (a::(b::[])) i=some x→F (i,out)=.next (i+1,out++x)) (hFe:∀out,F (2,out)=.done (some out)),iter none F AA (0,[])=some (a++b):=fun K F hF hFe=>by
  refine AI (fun z:Int×List Int=>z.1) 2 (fun z=>z.2=if z.1=0 then [] else if z.1=1 then a else a++b) (fun r=>r=some (a++b)) (by decide) (by simp) (by simp) (by simp) (fun z hI k0 k1=>?_) (fun z hI hz=>?_)
  ·obtain⟨i,out⟩:=z
   simp only at hI k0 k1
   have hi:i=0∨i=1:=by omega
   rcases hi with rfl|rfl
   ·simp at hI;subst hI
    rw[hF 0 [] a (by decide) (by decide) (by simp[Aa]) i0]
    exact ⟨rfl,by simp⟩
   ·simp at hI;subst hI
    rw[hF 1 out b (by decide) (by decide) ha i1]
    exact ⟨rfl,by simp⟩
  ·obtain⟨i,out⟩:=z
   simp only at hI hz
   subst hz
   simp at hI;subst hI
   rw[hFe];exact rfl
 unfold Cg
 refine AI (fun z:Int×Int=>z.2) 2 (fun z=>z.1=if z.2=0 then 0 else if z.2=1 then Aa a else Aa a+Aa b) (fun r=>r=some (a++b)) (by decide) (by simp) (by simp) (by simp) (fun z hI k0 k1=>?_) (fun z hI hz=>?_)
 ·obtain⟨s,i⟩:=z
  simp only at hI k0 k1
  have hi:i=0∨i=1:=by omega
  try simp only
  rcases hi with rfl|rfl
  ·simp at hI;subst hI
   rw[l2,Af _ _ (by rfl),Ab _ _ i0,Am (0+Aa a) (by omega) (by omega),Ag _ _ (decide_eq_false (by omega)),Am (0+1) (by decide) (by decide)]
   exact ⟨rfl,by simp⟩
  ·simp at hI;subst hI
   rw[l2,Af _ _ (by rfl),Ab _ _ i1,Am (Aa a+Aa b) (by omega) (by omega),Ag _ _ (decide_eq_false (by omega)),Am (1+1) (by decide) (by decide)]
   exact ⟨rfl,by simp⟩
 ·obtain⟨s,i⟩:=z
  simp only at hI hz
  subst hz
  simp at hI;subst hI
  try simp only
  rw[l2,Ag _ _ (by rfl),Ag _ _ (decide_eq_false (by omega)),Am (Aa a+Aa b-0) (by omega) (by omega),AS]
  have hF:∀(i:Int) (out x:List Int),0≤i→i<2→Aa out≤1000000→idx (a::(b::[])) i=some x→(cnd (decide (i<2)) (Ad (idx (a::(b::[])) i) (.done none) (fun x3=>(cnd (true&&(AN ((Aa out)+(Aa x3)) 1)) (.next ((wr .i64 (i+1)),(out++x3))) (.done none)))) (.done (some out)):Step (Int×List Int) (Option (List Int)))=.next (i+1,out++x):=fun i out x j0 j1 ho hx=>by
   have hxl:Aa x≤1000000:=by
    have:i=0∨i=1:=by omega
    rcases this with rfl|rfl
    ·rw[i0] at hx;cases hx;exact ha
    ·rw[i1] at hx;cases hx;exact hb
   rw[Af _ _ (decide_eq_true j1),Ab _ _ hx,Af _ _ (Hi (by omega) hxl),Am (i+1) (by omega) (by omega)]
  split
  ·rw[Af _ _ (by rw[decide_eq_true (by omega),Bool.true_and];exact room_le (by omega)),Af _ _ (decide_eq_true (Ap _)),HU]
   exact grow (fun r=>some r) _ hF (fun out=>by rfl)
  ·exact grow (fun r=>some r) _ hF (fun out=>by rfl)
end Go.Proofs.YtmmkfcpdfnjgjaaGreatDoor
namespace Go.Proofs.YtmmkfcpdfnjgjaaGreatDoor
open Go.Den
def Ir (un:List Int):Option AX :=
 match DZ un with
 |some (c,e)=>if e=0 then (match EC c with
  |some (m,e2)=>if e2=0 then some m else none
  |none=>none) else none
 |none=>none
abbrev RdS:=List AX×List Int×Bool×Bool
def Ed (z:RdS) (b:Int):RdS :=
 if b=126 then ((match Ir z.2.1 with|some m=>if z.2.2.1=true∧z.2.2.2=false then z.1++[m] else z.1|none=>z.1),([],(true,false)))
 else if 1043≤Aa z.2.1 then (z.1,(z.2.1,(z.2.2.1,true))) else if z.2.2.1=true then (z.1,(z.2.1++[b],(z.2.2.1,z.2.2.2))) else z
theorem lW {l:List Int} (hl:Aa l≤16384):∃last,Cz l=some ((l.foldl Ed ([],([],(false,false)))).1,(last,0))∧-1≤last∧last<Aa l∧(0≤last→idx l last=some 126)∧(∀j,last<j→idx l j≠some 126)∧Aa (l.foldl Ed ([],([],(false,false)))).1≤Aa l∧∀m∈(l.foldl Ed ([],([],(false,false)))).1,Hm m:=by
 obtain⟨ms,la,e1,c1,c2,e2⟩:=AeE hl
 suffices h:Cz l=some ((l.foldl Ed ([],([],(false,false)))).1,(la,0)) by
  have hms:ms=(l.foldl Ed ([],([],(false,false)))).1:=by
   rw[e1] at h
   have:=congrArg Prod.fst (Option.some.inj h)
   exact this
  exact ⟨la,h,e2.1,e2.2.1,e2.2.2.1,e2.2.2.2,by rw[←hms];exact c1,by rw[←hms];exact c2⟩
 have hn:=Ap l
 obtain⟨la',ha,hb⟩:=yP (l:=l) (by omega)
 have hla:la'=la:=by
  by_cases h1:la'<la
  ·have:=e2.2.2.1 (by omega);exact absurd this (hb.2.2.2 la h1)
  ·by_cases h2:la<la'
   ·have:=hb.2.2.1 (by omega);exact absurd this (e2.2.2.2 la' h2)
   ·omega
 subst hla
 unfold Cz
 rw[Ag _ _ (decide_eq_false (by omega)),Ag _ _ (decide_eq_false (by omega))]
 refine AI (fun z:Rd=>z.1) (Aa l) (fun z=>Aa z.2.1≤z.1∧Aa z.2.2.1≤1043∧(z.2.1,(z.2.2.1,(z.2.2.2.1,z.2.2.2.2.1)))=(AF l z.1).foldl Ed ([],([],(false,false)))) (fun r=>r=some ((l.foldl Ed ([],([],(false,false)))).1,(la',0))) (by omega) (by simp) hn ⟨by simp[Aa],by simp[Aa],by simp[HU]⟩ (fun z hI i0 i1=>?_) (fun z hI hz=>?_)
 ·obtain⟨i,ms,un,bg,lg,md⟩:=z
  obtain⟨h1,h3,h4⟩:=hI
  simp only at i0 i1 h1 h3 h4
  obtain⟨b,hb',_⟩:=Au i0 i1
  have hun:=Ap un
  have t0:AF un 0=[]:=HU
  have hst:(AF l (i+1)).foldl Ed ([],([],(false,false)))=Ed (ms,(un,(bg,lg))) b:=by
   rw[Kt i0 hb',List.foldl_append,←h4];rfl
  have hmsl:=Ap ms
  try simp only
  rw[Af _ _ (decide_eq_true i1),Ab _ _ hb',Am (i+1) (by omega) (by omega)]
  by_cases c:b=126
  ·rw[Af _ _ (by simpa using c)]
   have hst2:Ed (ms,(un,(bg,lg))) b=((match Ir un with|some m=>if bg=true∧lg=false then ms++[m] else ms|none=>ms),([],(true,false))):=by
    unfold Ed;rw[if_pos c]
   rw[hst2] at hst
   obtain⟨c',e,q1,q2⟩:=yL (l:=un) (by omega)
   rw[Ab _ _ q1,AS]
   split
   ·rename_i he
    have he:e≠0:=by simpa using he
    have hp:Ir un=none:=by
     unfold Ir;simp[q1,he]
    rw[hp] at hst
    rw[Af _ _ (decide_eq_true hun),t0]
    exact ⟨rfl,by simp only;omega,by simp[Aa],hst.symm⟩
   ·rename_i he
    have he:e=0:=by simpa using he
    subst he
    obtain⟨m,e',p1,p2⟩:=yQ (l:=c') (by omega)
    try simp only
    rw[Ab _ _ p1]
    by_cases ee:e'=0
    ·subst ee
     have hp:Ir un=some m:=by unfold Ir;simp[q1,p1]
     rw[hp] at hst
     by_cases cc:bg=true∧lg=false
     ·rw[Af _ _ (by simp[cc.1,cc.2]),Af _ _ (Bx (l:=ms) (by omega)),Af _ _ (decide_eq_true hun),t0]
      refine ⟨rfl,by simp only;rw[Dv];omega,by simp[Aa],?_⟩
      simp only[if_pos cc] at hst
      exact hst.symm
     ·rw[Ag _ _ (by cases bg<;>cases lg<;>simp at cc ⊢),Af _ _ (decide_eq_true hun),t0]
      refine ⟨rfl,by simp only;omega,by simp[Aa],?_⟩
      simp only[if_neg cc] at hst
      exact hst.symm
    ·have hp:Ir un=none:=by
      unfold Ir;simp[q1,p1,ee]
     rw[hp] at hst
     rw[Ag _ _ (by simp[ee]),Af _ _ (decide_eq_true hun),t0]
     exact ⟨rfl,by simp only;omega,by simp[Aa],hst.symm⟩
  ·rw[Ag _ _ (by simpa using c)]
   unfold Ed at hst
   rw[if_neg c] at hst
   simp only at hst
   by_cases c2:1043≤Aa un
   ·rw[if_pos c2] at hst
    rw[Af _ _ (decide_eq_true c2)]
    exact ⟨rfl,by simp only;omega,h3,hst.symm⟩
   ·rw[if_neg c2] at hst
    rw[Ag _ _ (decide_eq_false c2)]
    by_cases c3:bg=true
    ·rw[if_pos c3] at hst
     rw[Af _ _ c3,Af _ _ (Bx (l:=un) (by omega))]
     exact ⟨rfl,by simp only;omega,by simp only;rw[Dv];omega,hst.symm⟩
    ·rw[if_neg c3] at hst
     rw[Ag _ _ (by simpa using c3)]
     exact ⟨rfl,by simp only;omega,h3,hst.symm⟩
 ·obtain⟨i,ms,un,bg,lg,md⟩:=z
  obtain⟨h1,h3,h4⟩:=hI
  simp only at hz h1 h3 h4
  subst hz
  rw[PX] at h4
  try simp only
  rw[Ag _ _ (decide_eq_false (by omega)),Ab _ _ ha,←h4]
  exact rfl
theorem Ac7 {ms:List AX} {lg:Bool} (s:List Int):∀un:List Int,(∀b∈s,b≠126)→Aa un+Aa s≤1043→s.foldl Ed (ms,(un,(true,lg)))=(ms,(un++s,(true,lg))):=by
 induction s with
 |nil=>intro un _ _;simp
 |cons b s ih =>
  intro un h1 h2
  rw[EY] at h2
  have:=Ap s
  rw[List.foldl_cons]
  have hs:Ed (ms,(un,(true,lg))) b=(ms,(un++[b],(true,lg))):=by
   unfold Ed
   rw[if_neg (h1 b (by simp)),if_neg (by simp only;omega),if_pos rfl]
  rw[hs,ih (un++[b]) (fun c hc=>h1 c (List.mem_cons_of_mem _ hc)) (by rw[Dv];omega)]
  simp
theorem Adx {m:AX} (hm:Hm m) (h1:0≤m.1∧m.1≤255) (h2:Bytes m.2.2):Ir (Bg (Cf m))=some m:=by
 have:=KJ m
 have:=hm.body
 unfold Ir
 simp[yK (l:=Cf m) (by omega) (SJ h1 h2),Ad5 hm]
theorem bH:Ir []=none:=by
 unfold Ir
 have h1:DZ []=some ([],0):=by
  have:=yK (l:=[]) (by decide) (fun b hb=>by cases hb)
  exact this
 rw[h1]
 rfl
theorem vT {m:AX} (hm:Hm m) (h1:0≤m.1∧m.1≤255) (h2:Bytes m.2.2) {z:RdS}:(GG m).foldl Ed z=((Ed z 126).1++[m],([],(true,false))):=by
 obtain⟨ms0,hs⟩:∃ms0,Ed z 126=(ms0,([],(true,false))):=⟨_,by unfold Ed;rw[if_pos rfl]⟩
 have hl:=KJ m
 have hb:=hm.body
 have hsl:=Jh (Cf m)
 have e0:Aa ([]:List Int)=0:=rfl
 unfold GG
 simp only[List.foldl_append,List.foldl_cons,List.foldl_nil]
 rw[hs,Ac7 _ [] (fun b hb=>Acm b hb) (by omega),List.nil_append]
 unfold Ed
 rw[if_pos rfl]
 simp only[Adx hm h1 h2]
 rfl
theorem qB {l:List Int} {i j:Int} (_hi:i<Aa l) (h1:∀k,j<k→idx l k≠some 126) (h0:idx l (Aa l-1)=some 126) (hj:j<Aa l):j=Aa l-1:=by
 by_cases h:j<Aa l-1
 ·exact absurd h0 (h1 _ h)
 ·omega
theorem yI {m:AX} (pre:List Int):idx (pre++GG m) (Aa (pre++GG m)-1)=some 126:=by
 have e:pre++GG m=(pre++((126::[])++Bg (Cf m)))++(126::[]):=by unfold GG;simp
 rw[e,Dv]
 have:=Ap (pre++((126::[])++Bg (Cf m)))
 rw[show Aa (pre++((126::[])++Bg (Cf m)))+1-1=Aa (pre++((126::[])++Bg (Cf m))) by omega]
 exact AbR
theorem Ach {m:AX} (hm:Hm m) (h1:0≤m.1∧m.1≤255) (h2:Bytes m.2.2) {pre:List Int} (hp:pre=[]∨pre=[126]):Cz (pre++GG m)=some ([m],(Aa (pre++GG m)-1,0)):=by
 have hw:=Abh hm.body
 have hpl:Aa pre≤1:=by rcases hp with rfl|rfl<;>simp[Aa]
 have hpn:=Ap pre
 have hll:=AO pre (GG m)
 obtain⟨la,e1,a1,a2,a3,a4,_⟩:=lW (l:=pre++GG m) (by omega)
 have hla:=qB (i:=0) (by omega) a4 (yI pre) a2
 rw[e1,hla,List.foldl_append,vT hm h1 h2]
 have:(Ed (pre.foldl Ed ([],([],(false,false)))) 126).1=[]:=by
  rcases hp with rfl|rfl
  ·simp only[List.foldl_nil];unfold Ed;rw[if_pos rfl];simp only[bH]
  ·simp only[List.foldl_cons,List.foldl_nil];unfold Ed;rw[if_pos rfl,if_pos rfl];simp only[bH]
 rw[this];rfl
structure JI (l:Cd):Prop where
 age:0≤l.2.2∧l.2.2≤1048576
 last:Ax l.2.1
 none:l.1=false→l.2.1=0
theorem Qt {l:Cd} (hu:Ax l.2.1):Fo l=0↔JI l:=by
 obtain⟨a,s,g⟩:=l
 unfold Fo
 rw[AS]
 constructor
 ·intro h
  split at h
  ·cases h
  ·rename_i hc
   simp at hc
   exact ⟨⟨by simp only;omega,by simp only;omega⟩,hu,fun ha=>hc.2 ha⟩
 ·intro h
  rw[if_neg]
  have h1:=h.age
  have h2:=h.none
  simp only at h1 h2
  simp only[Bool.or_eq_true,decide_eq_true_eq,Bool.and_eq_true,Bool.not_eq_true',beq_eq_false_iff_ne,ne_eq,not_or,Int.not_lt,not_and,Decidable.not_not]
  exact ⟨⟨h1.1,h1.2⟩,h2⟩
def E3:Bool→Int→List AX→(Bool×Int)×List AX
 |a,l,[]=>((a,l),[])
 |a,l,m::r=>if a=true∧m.2.1≤l then E3 a l r else ((E3 true m.2.1 r).1,m::(E3 true m.2.1 r).2)
theorem US:∀(ms:List AX) (a:Bool) (l:Int),Ax l→(a=false→l=0)→(∀m∈ms,Hm m)→Ax (E3 a l ms).1.2∧((E3 a l ms).1.1=false→(E3 a l ms).1.2=0)∧(∀m∈(E3 a l ms).2,m∈ms)∧Aa (E3 a l ms).2≤Aa ms
 |[],a,l,h1,h2,_=>⟨h1,h2,fun m hm=>(by cases hm),Int.le_refl _⟩
 |m::r,a,l,h1,h2,h3=>by
  rw[E3]
  split
  ·obtain⟨q1,q2,q3,q4⟩:=US r a l h1 h2 fun m hm=>h3 m (List.mem_cons_of_mem _ hm)
   exact ⟨q1,q2,fun m hm=>List.mem_cons_of_mem _ (q3 m hm),by rw[EY];omega⟩
  ·obtain⟨q1,q2,q3,q4⟩:=US r true m.2.1 (h3 m (by simp)).seq (fun h=>by cases h) fun m hm=>h3 m (List.mem_cons_of_mem _ hm)
   refine ⟨q1,q2,fun x hx=>?_,by simp only[EY];omega⟩
   rcases List.mem_cons.1 hx with rfl|hx
   ·simp
   ·exact List.mem_cons_of_mem _ (q3 x hx)
def Oh (l:Cd) (ms:List AX):Cd :=
 ((E3 l.1 l.2.1 ms).1.1,((E3 l.1 l.2.1 ms).1.2,if 0<Aa (E3 l.1 l.2.1 ms).2 then 0 else min (l.2.2+1) 1048576))
theorem AbV {l:Cd} {ms:List AX} (hl:JI l) (hm:∀m∈ms,Hm m):JI (Oh l ms):=by
 obtain⟨q1,q2,_⟩:=US ms l.1 l.2.1 hl.last hl.none hm
 have:=hl.age
 refine ⟨?_,q1,q2⟩
 unfold Oh
 simp only
 split<;>omega
theorem Qv {l:Cd} {ms:List AX} (hl:JI l) (hm:∀m∈ms,Hm m) (hn:Aa ms≤1024):F9 (l,ms)=some (Oh l ms,((E3 l.1 l.2.1 ms).2,0)):=by
 have hn0:=Ap ms
 obtain⟨an,ls,ag⟩:=l
 have hag:=hl.age
 simp only at hag
 unfold F9
 rw[AG,(Qt hl.last).2 hl,Ag _ _ (by rfl),Ag _ _ (decide_eq_false (by simp only;omega))]
 refine AI (fun z:Int×Cd=>z.1) (Aa ms) (fun _=>True) (fun r=>r=some (Oh (an,(ls,ag)) ms,((E3 an ls ms).2,0))) (by omega) (by simp) hn0 trivial (fun z _ i0 i1=>?_) (fun z _ hz=>?_)
 ·obtain⟨i,w⟩:=z
  simp only at i0 i1
  obtain⟨m,hx,hmm⟩:=Au i0 i1
  try simp only
  rw[Af _ _ (decide_eq_true i1),Ab _ _ hx,Ag _ _ (decide_eq_false (by have:=(hm m hmm).body;omega)),Am (i+1) (by omega) (by omega)]
  exact ⟨rfl,trivial⟩
 ·obtain⟨i,w⟩:=z
  simp only at hz
  subst hz
  try simp only
  rw[Ag _ _ (decide_eq_false (by omega))]
  show _ = some _
  refine AI (fun z:List AX×Int×Cd=>z.2.1) (Aa ms) (fun z=>z.1++(E3 z.2.2.1 z.2.2.2.1 (ms.drop z.2.1.toNat)).2=(E3 an ls ms).2∧(E3 z.2.2.1 z.2.2.2.1 (ms.drop z.2.1.toNat)).1=(E3 an ls ms).1∧z.2.2.2.2=ag∧Aa z.1≤z.2.1) (fun r=>r=some (Oh (an,(ls,ag)) ms,((E3 an ls ms).2,0))) (by omega) (by simp) hn0 ⟨by simp,by simp,rfl,by simp[Aa]⟩ (fun z hI i0 i1=>?_) (fun z hI hz=>?_)
  ·obtain⟨tk,i,a,s,g⟩:=z
   obtain⟨p1,p2,p3,p4⟩:=hI
   simp only at i0 i1 p1 p2 p3 p4
   subst p3
   obtain⟨m,hx,hmm⟩:=Au i0 i1
   have hmo:=hm m hmm
   have hd:=Hc hx
   rw[hd,E3] at p1 p2
   try simp only
   rw[Af _ _ (decide_eq_true i1),Ab _ _ hx,Am (i+1) (by omega) (by omega)]
   by_cases c:a=true∧m.2.1≤s
   ·rw[if_pos c] at p1 p2
    rw[Af _ _ (by simp[c.1,c.2])]
    exact ⟨rfl,p1,p2,rfl,by simp only;omega⟩
   ·rw[if_neg c] at p1 p2
    have hml:Aa m.2.2≤512:=hmo.body
    rw[Ag _ _ (by
     apply Bool.eq_false_iff.2
     intro hh
     simp only[Bool.and_eq_true,decide_eq_true_eq] at hh
     exact c hh),Ab _ _ (Ng (by omega)),Af _ _ (Bx (l:=tk) (by omega))]
    refine ⟨rfl,?_,p2,rfl,by simp only;rw[Dv];omega⟩
    simp only
    rw[←p1];simp
  ·obtain⟨tk,i,a,s,g⟩:=z
   obtain⟨p1,p2,p3,p4⟩:=hI
   simp only at hz p1 p2 p3 p4
   subst hz p3
   have hde:ms.drop (Aa ms).toNat=[]:=WC (Int.le_refl _)
   rw[hde] at p1 p2
   simp only[E3,List.append_nil] at p1 p2
   try simp only
   rw[Ag _ _ (decide_eq_false (by omega)),DX,Am (g+1) (by omega) (by omega)]
   unfold Oh
   simp only
   rw[←p1,←p2]
   by_cases c:0<Aa tk
   ·rw[Af _ _ (decide_eq_true c),if_pos c];exact rfl
   ·rw[Ag _ _ (decide_eq_false c),if_neg c];exact rfl
theorem wN {l:Cd} {ms:List AX} (hl:JI l) (hm:∀m∈ms,Hm m):∃l' tk e,F9 (l,ms)=some (l',(tk,e))∧JI l'∧(∀m∈tk,Hm m)∧Aa tk≤1024:=by
 by_cases hn:Aa ms≤1024
 ·obtain⟨q1,q2,q3,q4⟩:=US ms l.1 l.2.1 hl.last hl.none hm
  exact ⟨_,_,_,Qv hl hm hn,AbV hl hm,fun m h=>hm m (q3 m h),by omega⟩
 ·unfold F9
  rw[AG,(Qt hl.last).2 hl,Ag _ _ (by rfl),Af _ _ (decide_eq_true (by simp only;omega))]
  exact ⟨_,_,_,rfl,⟨⟨by decide,by decide⟩,⟨by decide,by decide⟩,fun _=>rfl⟩,fun m h=>(by cases h),by simp[Aa]⟩
end Go.Proofs.YtmmkfcpdfnjgjaaGreatDoor
namespace Go.Proofs.YtmmkfcpdfnjgjaaGreatDoor
open Go.Den
theorem Ym {b l:List Int} (hl:Aa l≤1000) (hb:Aa b≤1000000) (hx:∀n∈l,Ci n):Fp (b,l)=some (b++BD l):=by
 unfold Fp
 refine QJ (l:=l) (b0:=b) (fun r=>r=some (b++BD l)) hl hb hx (fun b i n sm i0 i1 hb hi hs hm=>?_) ⟨_,Ag _ _ (decide_eq_false (by simp only;omega)),rfl⟩
 exact QK (f:=fun b i=>.next (b,i)) i0 i1 hl hb hi hs hm
theorem Ti {b:List Int} {bad:Bool} {most:Int} (hb:Aa b≤1000000) (m0:0≤most) (m1:most≤1152921504606846976):∃b' bad' n,AY ((b,bad),most)=some ((b',bad'),n)∧Aa b'≤Aa b∧0≤n∧n≤most:=by
 obtain⟨v,k,e,h1,h2,h3,h4,h5,h6⟩:=Xk hb
 unfold AY
 try simp only
 rw[Ab _ _ h1,DT (n:=most) ⟨m0,by omega⟩]
 try simp only
 rw[AS]
 split
 ·exact ⟨b,true,0,rfl,Int.le_refl _,by omega,by omega⟩
 ·rename_i hc
  simp only[Bool.or_eq_true,decide_eq_true_eq,not_or,Int.not_lt] at hc
  have v0:=h2.1
  have hd:=EN (l:=b) h3 h4
  rw[Af _ _ (by simp;omega),Am v (by omega) (by omega)]
  exact ⟨_,bad,v,rfl,by omega,h2.1,hc.2⟩
theorem Th {n most:Int} {rest:List Int} {bad:Bool} (n0:0≤n) (n1:n≤most) (hm:most≤1152921504606846976) (hr:Aa rest≤1000000):AY ((smL n++rest,bad),most)=some ((rest,bad),n):=by
 have hsl:=It n
 have hll:=AO (smL n) rest
 have hrn:=Ap rest
 unfold AY
 try simp only
 rw[Ab _ _ (Ad8 n0 (by omega) hr),DT (n:=most) ⟨by omega,by omega⟩]
 try simp only
 rw[Ag _ _ (by simp;omega),Af _ _ (by simp;omega),Am n (by omega) (by omega),zF]
theorem Ua (n:Int):F0 n=true↔0≤n∧n≤65535:=by unfold F0;simp
structure Uu (c:HV):Prop where
 id:0≤c.1∧c.1≤65535
 plan:E9 c.2
def Abw (c:HV):List Int:=(c.1::(c.2.1::(c.2.2.1::((Aa c.2.2.2)::[]))))++c.2.2.2
theorem AcY {c:HV} (h:Uu c):∀n∈Abw c,Ci n:=fun n hn=>by
 have:=h.id;have:=h.plan.c;have:=h.plan.o;have:=h.plan.n
 rcases List.mem_append.1 hn with hn|hn
 ·simp only[List.mem_cons,List.not_mem_nil,or_false] at hn
  rcases hn with rfl|rfl|rfl|rfl<;>exact Ji (by omega) (by omega)
 ·have:=h.plan.m n hn;exact Ji (by omega) (by omega)
theorem yO (c:HV) (hc:-9223372036854775808≤c.2.1∧c.2.1≤9223372036854775807):∃b e,Gk c=some (b,e)∧((e=0∧Uu c∧b=BD (Abw c))∨(e≠0∧¬Uu c)):=by
 unfold Gk
 rw[AG,AS]
 split
 ·rename_i h
  exact ⟨[],2,rfl,.inr ⟨by decide,fun hh=>by rw[(Ua _).2 hh.id] at h;cases h⟩⟩
 rename_i hid
 have hid:=(Ua c.1).1 (by simpa using hid)
 obtain⟨b,e,h1,_,h3⟩:=UC (c.2::[]) (fun p hp=>(show p=c.2 by simpa using hp)▸hc)
 rw[Ab _ _ h1]
 rcases h3 with ⟨rfl,_,hw,_⟩|⟨hne,hn⟩
 ·have hok:Uu c:=⟨hid,hw c.2 (by simp)⟩
  have hu:=AcY hok
  have hnn:=hok.plan.n
  have hpl:=HF (c.1::(c.2.1::(c.2.2.1::((Aa c.2.2.2)::[]))))
  have hl4:Aa (c.1::(c.2.1::(c.2.2.1::((Aa c.2.2.2)::[]))))=4:=rfl
  rw[Ag _ _ (by rfl),Ab _ _ (Ym (b:=[]) (l:=c.1::(c.2.1::(c.2.2.1::((Aa c.2.2.2)::[])))) (by rw[hl4];decide) (by decide) (fun n hn=>hu n (List.mem_append_left _ hn))),List.nil_append,Ab _ _ (Ym (l:=c.2.2.2) (by omega) (by omega) (fun n hn=>hu n (List.mem_append_right _ hn)))]
  exact ⟨_,0,rfl,.inl ⟨rfl,hok,by unfold Abw;rw[J9]⟩⟩
 ·rw[Af _ _ (by simp[hne])]
  exact ⟨[],e,rfl,.inr ⟨hne,fun hh=>hn ⟨by simp[Aa],fun p hp=>by
   have:p=c.2:=by simpa using hp
   subst this;exact hh.plan⟩⟩⟩
theorem nQ {l:List Int} (hl:Aa l≤10000):∃c e,Du l=some (c,e)∧(e=0→Uu c):=by
 unfold Du
 obtain⟨b1,d1,n1,h1,k1,_,r1⟩:=Ti (b:=l) (bad:=false) (most:=65535) (by omega) (by decide) (by decide)
 obtain⟨b2,d2,n2,h2,k2,q2,r2⟩:=Ti (b:=b1) (bad:=d1) (most:=1048576) (by omega) (by decide) (by decide)
 obtain⟨b3,d3,n3,h3,k3,_,r3⟩:=Ti (b:=b2) (bad:=d2) (most:=1048576) (by omega) (by decide) (by decide)
 obtain⟨b4,d4,n4,h4,k4,q4,r4⟩:=Ti (b:=b3) (bad:=d3) (most:=8) (by omega) (by decide) (by decide)
 rw[Ab _ _ h1]
 try simp only
 rw[Ab _ _ h2]
 try simp only
 rw[Ab _ _ h3]
 try simp only
 rw[Ab _ _ h4]
 try simp only
 refine AI (fun z:Int×HV×LY=>z.1) n4 (fun z=>Aa z.2.2.1≤10000∧z.2.1.2.1=n2∧Aa z.2.1.2.2.2=z.1) (fun r=>∃c e,r=some (c,e)∧(e=0→Uu c)) (by omega) (by simp) q4 ⟨by simp only;omega,rfl,rfl⟩ (fun z hI i0 i1=>?_) (fun z hI hz=>?_)
 ·obtain⟨i,⟨a1,a2,a3,a4⟩,rb,rd⟩:=z
  obtain⟨g1,g2,g3⟩:=hI
  simp only at i0 i1 g1 g2 g3
  obtain⟨b5,d5,n5,h5,k5,_,r5⟩:=Ti (b:=rb) (bad:=rd) (most:=1048576) (by omega) (by decide) (by decide)
  try simp only
  rw[Af _ _ (decide_eq_true i1),Ab _ _ h5]
  try simp only
  rw[Af _ _ (Bx (l:=a4) (by omega)),Am (i+1) (by omega) (by omega)]
  exact ⟨rfl,by simp only;omega,g2,by simp only;rw[Dv];omega⟩
 ·obtain⟨i,⟨a1,a2,a3,a4⟩,rb,rd⟩:=z
  obtain⟨g1,g2,g3⟩:=hI
  simp only at hz g1 g2 g3
  subst hz
  try simp only
  rw[Ag _ _ (decide_eq_false (by omega))]
  obtain⟨b,e,p1,p2⟩:=yO (a1,(a2,(a3,a4))) (by simp only;omega)
  show ∃c e,Ad _ _ _ = some (c,e)∧_
  rw[Ab _ _ p1,AS]
  split
  ·exact ⟨_,8,rfl,fun h=>by cases h⟩
  ·rename_i hc
   simp only[Bool.or_eq_true,not_or] at hc
   rcases p2 with ⟨_,p2,_⟩|⟨p2,_⟩
   ·exact ⟨_,0,rfl,fun _=>p2⟩
   ·exfalso
    have:=hc.1.2
    simp at this
    exact p2 this
structure eF (r:Gp):Prop where
 id:0≤r.1∧r.1≤65535
 mode:0≤r.2.1∧r.2.1≤3
 tick:0≤r.2.2.1∧r.2.2.1≤1073741824
 n:Aa r.2.2.2≤8
 m:∀m∈r.2.2.2,0≤m∧m≤70368744177664
def F1 (r:Gp):List Int:=(r.1::(r.2.1::(r.2.2.1::((Aa r.2.2.2)::[]))))++r.2.2.2
theorem eT {r:Gp} (h:eF r):Eb r=some (BD (F1 r),0):=by
 obtain⟨s,mo,ti,lo⟩:=r
 have hid:=h.id;have hm:=h.mode;have ht:=h.tick;have hn:=h.n
 simp only at hid hm ht hn
 have hl0:=Ap lo
 unfold Eb
 rw[AG,Ag _ _ (by rw[(Ua _).2 hid];rfl),Ag _ _ (decide_eq_false (by simp only;omega)),Ag _ _ (decide_eq_false (by simp only;omega)),Ag _ _ (decide_eq_false (by simp only;omega)),Ag _ _ (decide_eq_false (by simp only;omega)),Am mo (by omega) (by omega)]
 have hl4:Aa (s::(mo::(ti::((Aa lo)::[]))))=4:=rfl
 have hpl:=HF (s::(mo::(ti::((Aa lo)::[]))))
 rw[Ab _ _ (Ym (b:=[]) (l:=s::(mo::(ti::((Aa lo)::[])))) (by rw[hl4];decide) (by decide) (fun n hn=>by
  simp only[List.mem_cons,List.not_mem_nil,or_false] at hn
  rcases hn with rfl|rfl|rfl|rfl<;>exact Ji (by omega) (by omega))),List.nil_append]
 refine AI (fun z:Int×List Int=>z.1) (Aa lo) (fun z=>z.2=BD (s::(mo::(ti::((Aa lo)::[]))))++BD (AF lo z.1)) (fun r=>r=some (BD (F1 (s,(mo,(ti,lo)))),0)) (by omega) (by simp) hl0 (by simp[HU,BD]) (fun z hI i0 i1=>?_) (fun z hI hz=>?_)
 ·obtain⟨i,b⟩:=z
  simp only at hI i0 i1
  obtain⟨n,hx,hmm⟩:=Au i0 i1
  have hnm:=h.m n hmm
  have hlt:=Ek (l:=lo) i0 (by omega)
  have hpt:=HF (AF lo i)
  try simp only
  rw[Af _ _ (decide_eq_true i1),Ab _ _ hx,Ag _ _ (by simp;omega),Ab _ _ (Ym (b:=b) (l:=n::[]) (by simp[Aa]) (by rw[hI,AO];omega) (fun x hx=>by simp at hx;subst hx;exact Ji (by omega) (by omega))),Am (i+1) (by omega) (by omega)]
  refine ⟨rfl,?_⟩
  simp only
  rw[Kt i0 hx,J9,hI,List.append_assoc]
 ·obtain⟨i,b⟩:=z
  simp only at hI hz
  subst hz
  try simp only
  rw[Ag _ _ (decide_eq_false (by omega)),hI,PX]
  show some (BD _++BD lo,0)=some (BD (F1 _),0)
  unfold F1;rw[J9]
theorem tZ {r:Gp} (h:eF r):FI (BD (F1 r))=some (r,0):=by
 obtain⟨s,mo,ti,lo⟩:=r
 have hid:=h.id;have hm:=h.mode;have ht:=h.tick;have hn:=h.n
 simp only at hid hm ht hn
 have hl0:=Ap lo
 have hps:=HF lo
 have e0:BD (F1 (s,(mo,(ti,lo))))=smL s++(smL mo++(smL ti++(smL (Aa lo)++BD lo))):=by
  unfold F1;rw[J9,Mk,Mk,Mk,Mk];simp[BD]
 have s1:=It mo;have s2:=It ti;have s3:=It (Aa lo)
 unfold FI
 rw[e0,Ab _ _ (Th hid.1 hid.2 (by decide) (by simp only[AO];omega))]
 try simp only
 rw[Ab _ _ (Th (n:=mo) hm.1 hm.2 (by decide) (by simp only[AO];omega))]
 try simp only
 rw[Ab _ _ (Th (n:=ti) ht.1 ht.2 (by decide) (by simp only[AO];omega))]
 try simp only
 rw[Ab _ _ (Th (n:=Aa lo) hl0 hn (by decide) (by omega))]
 try simp only
 have e8:wr .u8 mo=mo:=OB _ (by omega) (by omega)
 rw[e8]
 refine AI (fun z:Int×Gp×LY=>z.1) (Aa lo) (fun z=>z.2=((s,(mo,(ti,AF lo z.1))),(BD (lo.drop z.1.toNat),false))) (fun r=>r=some ((s,(mo,(ti,lo))),0)) (by omega) (by simp) hl0 (by simp[HU]) (fun z hI i0 i1=>?_) (fun z hI hz=>?_)
 ·obtain⟨i,w⟩:=z
  simp only at hI i0 i1
  subst hI
  obtain⟨n,hx,hmm⟩:=Au i0 i1
  have hd:=Hc hx
  have hlt:=Ek (l:=lo) i0 (by omega)
  have hp:=HF (lo.drop (i+1).toNat)
  have hdl:Aa (lo.drop (i+1).toNat)≤Aa lo:=by unfold Aa;rw[List.length_drop];omega
  have hnm:=h.m n hmm
  try simp only
  rw[Af _ _ (decide_eq_true i1),hd,Mk,Ab _ _ (Th hnm.1 hnm.2 (by decide) (by omega))]
  try simp only
  rw[Af _ _ (Bx (l:=AF lo i) (by omega)),Am (i+1) (by omega) (by omega),←Kt i0 hx]
  exact ⟨rfl,rfl⟩
 ·obtain⟨i,w⟩:=z
  simp only at hI hz
  subst hz hI
  try simp only
  rw[Ag _ _ (decide_eq_false (by omega)),PX]
  show Ad _ _ _ = some _
  rw[Ab _ _ (eT h)]
  try simp only
  rw[e0,tW,Ag _ _ (by rfl)]
theorem tQ {r:Gp} (h:Aa r.2.2.2≤8):Aa (BD (F1 r))≤132:=by
 have:=HF (F1 r)
 have:Aa (F1 r)=4+Aa r.2.2.2:=by unfold F1;rw[AO];rfl
 omega
theorem Tv {l:List Int} (h:∀n∈l,0≤n∧n≤9223372036854775807):Bytes (BD l):=fun b hb=>by
 unfold BD at hb
 obtain⟨n,hn,hx⟩:=List.mem_flatMap.1 hb
 have:=h n hn
 have h11:(128:Int) ^ (10+1)=151115727451828646838272:=by decide
 exact V7 10 n this.1 (by omega) b hx
end Go.Proofs.YtmmkfcpdfnjgjaaGreatDoor
namespace Go.Proofs.YtmmkfcpdfnjgjaaGreatDoor
open Go.Den
structure BT (d:List Int):Prop where
 lo:128≤Aa d
 hi:Aa d≤4096
 whole:(Aa d).tmod 64=0
def IT (d:List Int):Int:=Aa d/64
theorem Jt {d:List Int} (h:BT d):2≤IT d∧IT d≤64∧Aa d=64*IT d:=by
 have h1:=h.lo;have h2:=h.hi;have h3:=h.whole
 rw[Int.tmod_eq_emod_of_nonneg (by omega)] at h3
 unfold IT;omega
theorem WA {d:List Int} (h:BT d):CD (d,())=0:=by
 have h1:=h.lo;have h2:=h.hi;have h3:=h.whole
 unfold CD
 rw[Ag _ _ (by simp;omega),Ag _ _ (by simp only[FX];rw[h3];rfl)]
theorem UG {d:List Int} (h:BT d):Cc (d,())=(IT d,0):=by
 have h1:=h.lo;have h2:=h.hi
 unfold Cc
 rw[AG,WA h,Ag _ _ (by rfl)]
 unfold EJ IT
 rw[Int.tdiv_eq_ediv_of_nonneg (by show 0≤Aa d;omega)]
 have:=Am (Aa d/64) (by omega) (by omega)
 unfold wr at this
 rw[this]
theorem Qd {d:List Int} (hl:Aa d≤9223372036854775807):C1 (d,())=true↔BT d:=by
 have h0:=Ap d
 constructor
 ·intro h
  have h:((CD (d,())==0&&(Cc (d,())).2==0)&&decide (2≤(Cc (d,())).1))=true:=h
  simp only[Bool.and_eq_true,beq_iff_eq,decide_eq_true_eq] at h
  obtain⟨⟨hc,_⟩,h4⟩:=h
  have hm:Cc (d,())=(EJ .i64 (Aa d) 64,0):=by
   unfold Cc
   rw[AG,hc,Ag _ _ (by rfl)]
  rw[hm] at h4
  have h4:2≤EJ .i64 (Aa d) 64:=h4
  unfold CD at hc
  rw[AS] at hc
  split at hc
  ·cases hc
  rename_i h1
  rw[AS] at hc
  split at hc
  ·cases hc
  rename_i h2
  simp only[Bool.or_eq_true,decide_eq_true_eq,not_or,Int.not_lt] at h1
  have h2:FX (Aa d) 64=0:=by simpa using h2
  unfold FX at h2
  have h3:=h2
  rw[Int.tmod_eq_emod_of_nonneg h0] at h3
  unfold EJ at h4
  rw[Int.tdiv_eq_ediv_of_nonneg h0] at h4
  have hw:=Am (Aa d/64) (by omega) (by omega)
  unfold wr at hw
  rw[hw] at h4
  exact ⟨by omega,by omega,h2⟩
 ·intro h
  have hm:=Jt h
  unfold C1
  simp only[Ay,UG h,WA h]
  simp;omega
def blk (d:List Int) (n:Int):List Int:=AF (Bz d (n*64)) 64
theorem s9 {d:List Int} (h:BT d) {n:Int} (n0:0≤n) (n1:n<IT d):Aa (blk d n)=64:=by
 have hm:=Jt h
 unfold blk
 rw[Ek (by decide)]
 rw[EN (by omega) (by omega)];omega
theorem fR {d:List Int} (h:BT d) {n:Int} (n0:0≤n) (n1:n<IT d):Fl ((d,()),n)=0:=by
 unfold Fl
 rw[AG,UG h,Ag _ _ (by simp;omega)]
theorem AcU {d:List Int} (h:BT d) {n:Int} (n0:0≤n) (n1:n<IT d):B4 ((d,()),n)=some (blk d n,0):=by
 have hm:=Jt h
 have hd:=EN (l:=d) (n:=n*64) (by omega) (by omega)
 unfold B4
 rw[AG,fR h n0 n1,Ag _ _ (by rfl)]
 have hat:Jp ((d,()),n)=some (blk d n):=by
  unfold Jp
  rw[Am (n*64) (by omega) (by omega),Af _ _ (by simp;omega),Af _ _ (decide_eq_true (by rw[hd];omega))]
  rfl
 rw[Ab _ _ hat,Ab _ _ (Ng (by rw[s9 h n0 n1];decide))]
structure LZ (d:List Int) (l:List CU):Prop where
 n:∀p∈l,0≤p.1∧p.1<IT d
 d:∀p∈l,Aa p.2=64
 m:Aa l≤64
theorem QL (d:List Int):LZ d []:=⟨fun p h=>(by cases h),fun p h=>(by cases h),by simp[Aa]⟩
def doV (whole torn:Int):Int→List CU→List Int→List Int
 |_,[],d=>d
 |i,p::l,d=>doV whole torn (i+1) l (if i<whole then GJ d (p.1*64) 64 p.2 else if i=whole then GJ d (p.1*64) 64 (AF p.2 torn) else d)
theorem bA {d s:List Int} {lo n:Int} (h0:0≤lo) (n0:0≤n) (h1:lo+n≤Aa d):Aa (GJ d lo n s)=Aa d:=by
 unfold GJ Aa at *
 simp only[List.length_append,List.length_take,List.length_drop]
 omega
theorem zE (whole torn:Int):∀(l:List CU) (i:Int) (d:List Int),(∀p∈l,0≤p.1∧p.1*64+64≤Aa d)→Aa (doV whole torn i l d)=Aa d
 |[],i,d,_=>rfl
 |p::l,i,d,h=>by
  have hp:=h p (by simp)
  have e:∀s,Aa (GJ d (p.1*64) 64 s)=Aa d:=fun s=>bA (by omega) (by decide) (by omega)
  have e2:Aa (if i<whole then GJ d (p.1*64) 64 p.2 else if i=whole then GJ d (p.1*64) 64 (AF p.2 torn) else d)=Aa d:=by
   split
   ·exact e _
   ·split
    ·exact e _
    ·rfl
  rw[doV,zE whole torn l (i+1) _ (fun q hq=>by rw[e2];exact h q (List.mem_cons_of_mem _ hq)),e2]
theorem Ad0 {d:List Int} {l:List CU} {whole torn:Int} (h:BT d) (hl:LZ d l) (w0:0≤whole) (w1:whole≤Aa l) (t0:0≤torn) (t1:torn≤64):G1 ((d,()),(l,(whole,torn)))=some ((doV whole torn 0 l d,()),0):=by
 have hm:=Jt h
 have hn:=Ap l
 have hlm:=hl.m
 unfold G1
 rw[AG,WA h,Ag _ _ (by rfl)]
 refine AI (fun z:Int×A6×Int=>z.1) (Aa l) (fun z=>z.2.2=0) (fun r=>r=some ((doV whole torn 0 l d,()),0)) (by omega) (by simp) hn rfl (fun z hI i0 i1=>?_) (fun z hI hz=>?_)
 ·obtain⟨i,w,e⟩:=z
  simp only at hI i0 i1
  subst hI
  obtain⟨p,hp,hpm⟩:=Au i0 i1
  have hpn:=hl.n p hpm
  try simp only
  rw[Af _ _ (decide_eq_true i1),Ab _ _ hp,AG,fR h hpn.1 hpn.2,Ag _ _ (by rfl),Ag _ _ (by rw[hl.d p hpm];rfl),Am (i+1) (by omega) (by omega)]
  exact ⟨rfl,rfl⟩
 ·obtain⟨i,w,e⟩:=z
  simp only at hI hz
  subst hz hI
  try simp only
  rw[Ag _ _ (decide_eq_false (by omega)),Ag _ _ (by simp;omega),Ab _ _ (Ng (by omega))]
  show _ = some _
  refine AI (fun z:Int×List Int×Unit=>z.1) (Aa l) (fun z=>Aa z.2.1=Aa d∧doV whole torn z.1 (l.drop z.1.toNat) z.2.1=doV whole torn 0 l d) (fun r=>r=some ((doV whole torn 0 l d,()),0)) (by omega) (by simp) hn ⟨rfl,by simp⟩ (fun z hI i0 i1=>?_) (fun z hI hz=>?_)
  ·obtain⟨i,c,u⟩:=z
   obtain⟨g1,g2⟩:=hI
   simp only at i0 i1 g1 g2
   obtain⟨p,hp,hpm⟩:=Au i0 i1
   have hpn:=hl.n p hpm
   have hat:P8 (Aa c,p.1)=some (p.1*64,64):=by
    unfold P8
    simp only
    rw[Am (p.1*64) (by omega) (by omega),if_pos (by omega)]
   have hd:=Hc hp
   rw[hd,doV] at g2
   have e:∀s,Aa (GJ c (p.1*64) 64 s)=Aa d:=fun s=>by rw[bA (by omega) (by decide) (by omega)];exact g1
   try simp only
   rw[Af _ _ (decide_eq_true i1),Ab _ _ hp,Am (i+1) (by omega) (by omega)]
   by_cases c1:i<whole
   ·rw[if_pos c1] at g2
    rw[Af _ _ (decide_eq_true c1),Ab _ _ hat]
    exact ⟨rfl,e _,g2⟩
   ·rw[if_neg c1] at g2
    rw[Ag _ _ (decide_eq_false c1)]
    by_cases c2:i=whole
    ·rw[if_pos c2] at g2
     rw[Af _ _ (by simpa using c2),Ab _ _ hat,Af _ _ (by rw[hl.d p hpm];simp;omega)]
     exact ⟨rfl,e _,g2⟩
    ·rw[if_neg c2] at g2
     rw[Ag _ _ (by simpa using c2)]
     exact ⟨rfl,g1,g2⟩
  ·obtain⟨i,c,u⟩:=z
   obtain⟨g1,g2⟩:=hI
   simp only at hz g1 g2
   subst hz
   have hde:l.drop (Aa l).toNat=[]:=WC (Int.le_refl _)
   rw[hde,doV] at g2
   try simp only
   rw[Ag _ _ (decide_eq_false (by omega)),Ag _ _ (by rfl),g2]
   exact rfl
theorem tD {d:List Int} {l:List CU} {whole torn:Int} (h:BT d) (hl:LZ d l):BT (doV whole torn 0 l d)∧Aa (doV whole torn 0 l d)=Aa d:=by
 have hm:=Jt h
 have e:=zE whole torn l 0 d fun p hp=>by have:=hl.n p hp;omega
 exact ⟨⟨by rw[e];exact h.lo,by rw[e];exact h.hi,by rw[e];exact h.whole⟩,e⟩
theorem Aee (whole torn:Int) (d:List Int):doV whole torn 0 [] d=d:=rfl
structure Il (k:BF):Prop where
 gen:1≤k.1∧k.1<4611686018427387904
 mode:0≤k.2.1∧k.2.1≤3
 n:Aa k.2.2≤8
 plans:∀p∈k.2.2,E9 p
def I9 (k:BF):List Int:=smL k.2.1++BD (P1 k.2.2)
def IN (k:BF):List Int:=smL (Aa (I9 k))++I9 k
def OV (k:BF) (h:Int):List Int:=IN k++AQ (48*h-Aa (IN k)) 0
def E4 (k:BF) (h i:Int):List Int:=leB 8 k.1.toNat++(AF (Bz (OV k h) (i*48)) 48++leB 8 k.1.toNat)
def Gf (k:BF) (h:Int):List (List Int):=(List.range h.toNat).map fun (i:Nat)=>E4 k h (i:Int)
theorem OJ {k:BF} {h:Int} (h0:0≤h):Aa (Gf k h)=h:=by unfold Gf Aa;simp;omega
theorem Vo {k:BF} {h i:Int} (i0:0≤i) (i1:i<h):idx (Gf k h) i=some (E4 k h i):=by
 unfold Gf
 rw[B7 i0,List.getElem?_map,List.getElem?_range (by omega),Option.map_some,Int.toNat_of_nonneg i0]
theorem fX {k:BF} {h:Int} {n:Nat}:(List.range (n+1)).map (fun (i:Nat)=>E4 k h (i:Int))=(List.range n).map (fun (i:Nat)=>E4 k h (i:Int))++[E4 k h (n:Int)]:=by
 rw[List.range_succ,List.map_append];rfl
theorem Abd (l:List AB) (hl:Aa l≤8) (h:∀p∈l,E9 p):Aa (BD (P1 l))≤1000:=by
 obtain⟨b,e,_,h2,h3|h3⟩:=UC l (fun p hp=>by have:=(h p hp).c;omega)
 ·obtain⟨_,_,_,rfl⟩:=h3;exact h2
 ·exact absurd ⟨hl,h⟩ h3.2
theorem aY {k:BF} (hk:Il k):1≤Aa (I9 k)∧Aa (I9 k)≤1011:=by
 have:=Abd k.2.2 hk.n hk.plans
 have:=It k.2.1
 have:=(HF (P1 k.2.2)).1
 unfold I9;rw[AO];omega
theorem Adw {k:BF} (hk:Il k):1≤Aa (IN k)∧Aa (IN k)≤1022:=by
 have:=aY hk
 have:=It (Aa (I9 k))
 unfold IN;rw[AO];omega
theorem tO {k:BF} {h:Int} (hf:Aa (IN k)≤48*h):Aa (OV k h)=48*h:=by
 unfold OV;rw[AO,Bu (by omega)];omega
def AcE (k:BF) (h:Int) (r:Option (List (List Int)×Int)):Prop :=
 ∃b e,r=some (b,e)∧((e=0∧Il k∧Aa (IN k)≤48*h∧b=Gf k h)∨(e≠0∧b=[]∧¬(Il k∧Aa (IN k)≤48*h)))
theorem Wn {k:BF} {h:Int} (h1:1≤h) (h2:h≤32) (m0:0≤k.2.1) (hf:∀p∈k.2.2,-9223372036854775808≤p.1∧p.1≤9223372036854775807):AcE k h (BP (k,h)):=by
 unfold BP
 rw[Ag _ _ (by simp;omega),AS]
 split
 ·rename_i hc
  refine ⟨[],190,rfl,.inr ⟨by decide,rfl,fun hh=>?_⟩⟩
  have:=hh.1.gen;have:=hh.1.mode
  simp at hc;omega
 rename_i hc
 simp only[Bool.or_eq_true,decide_eq_true_eq,not_or,Int.not_lt,Int.not_le] at hc
 obtain⟨w,e,g1,g2,g3⟩:=UC k.2.2 hf
 rw[Ab _ _ g1]
 rcases g3 with ⟨rfl,g3,g4,rfl⟩|⟨g3,g4⟩
 ·have hk:Il k:=⟨⟨by omega,by omega⟩,⟨m0,by omega⟩,g3,g4⟩
  have hil:=aY hk
  have hpl:=Adw hk
  have hsm:=It k.2.1
  have hsl:=It (Aa (I9 k))
  have ei:smL k.2.1++BD (P1 k.2.2)=I9 k:=rfl
  rw[Ag _ _ (by rfl),DT (n:=k.2.1) ⟨m0,by omega⟩,Ab _ _ (Y5 ⟨m0,by omega⟩)]
  try simp only
  rw[Af _ _ (Hi (by omega) (by omega)),ei,DT (n:=Aa (I9 k)) ⟨by omega,by omega⟩,Ab _ _ (Y5 ⟨by omega,by omega⟩)]
  try simp only
  have ep:smL (Aa (I9 k))++I9 k=IN k:=rfl
  rw[Af _ _ (Hi (by omega) (by omega)),ep,Am (48*h) (by omega) (by omega),AS]
  split
  ·rename_i hbig
   exact ⟨[],190,rfl,.inr ⟨by decide,rfl,fun hh=>by have:=hh.2;simp at hbig;omega⟩⟩
  ·rename_i hfit
   simp only[decide_eq_true_eq,Int.not_lt] at hfit
   rw[Am (48*h-Aa (IN k)) (by omega) (by omega),Af _ _ (by
    simp only[Bool.and_eq_true,decide_eq_true_eq,Bool.true_and]
    exact ⟨by omega,room_le (by omega)⟩)]
   have ed:IN k++AQ (48*h-Aa (IN k)) 0=OV k h:=rfl
   have hpad:=tO (k:=k) (h:=h) hfit
   have hg:Ci k.1:=⟨by omega,by omega⟩
   rw[ed,DT hg,Ab _ _ (Ad7 hg)]
   try simp only
   refine ⟨Gf k h,0,?_,.inl ⟨rfl,hk,hfit,rfl⟩⟩
   refine AI (fun z:List (List Int)×Int=>z.2) h (fun z=>z.1=(List.range z.2.toNat).map fun (i:Nat)=>E4 k h (i:Int)) (fun r=>r=some (Gf k h,0)) (by omega) (by simp) (by simp only;omega) (by simp) (fun z hI i0 i1=>?_) (fun z hI hz=>?_)
   ·obtain⟨out,i⟩:=z
    simp only at hI i0 i1
    have hd:=EN (l:=OV k h) (n:=i*48) (by omega) (by omega)
    have ht:=Ek (l:=Bz (OV k h) (i*48)) (n:=48) (by decide) (by omega)
    have l8:=Kk 8 k.1.toNat
    have hj:Gs (leB 8 k.1.toNat::(AF (Bz (OV k h) (i*48)) 48::(leB 8 k.1.toNat::[])),[])=some (E4 k h i):=by
     unfold Gs
     simp only
     have e:(leB 8 k.1.toNat::(AF (Bz (OV k h) (i*48)) 48::(leB 8 k.1.toNat::[]))).flatten=E4 k h i:=by simp[E4]
     rw[e,if_pos ⟨by simp[Aa],by unfold E4;rw[AO,AO,l8,ht];decide⟩]
    have hol:Aa out=i:=by rw[hI];unfold Aa;simp;omega
    try simp only
    rw[Af _ _ (decide_eq_true i1),Am (i*48) (by omega) (by omega),Af _ _ (by simp;omega),Af _ _ (decide_eq_true (by omega)),Ab _ _ hj,Af _ _ (Bx (l:=out) (by omega)),Am (i+1) (by omega) (by omega)]
    refine ⟨rfl,?_⟩
    simp only
    rw[show (i+1).toNat=i.toNat+1 by omega,fX,hI,Int.toNat_of_nonneg i0]
   ·obtain⟨out,i⟩:=z
    simp only at hI hz
    subst hz
    try simp only
    rw[Ag _ _ (decide_eq_false (by omega)),hI]
    exact rfl
 ·rw[Af _ _ (by simp[g3])]
  exact ⟨[],e,rfl,.inr ⟨g3,rfl,fun hh=>g4 ⟨hh.1.n,hh.1.plans⟩⟩⟩
end Go.Proofs.YtmmkfcpdfnjgjaaGreatDoor
namespace Go.Proofs.YtmmkfcpdfnjgjaaGreatDoor
open Go.Den
def Ih (bs:List (List Int)):List Int:=bs.flatMap fun x=>AF (Bz x 8) 48
theorem ZY:∀bs:List (List Int),(∀b∈bs,Aa b=64)→Aa (Ih bs)=48*Aa bs
 |[],_=>by simp[Ih,Aa]
 |b::bs,h=>by
  have ih:=ZY bs fun x hx=>h x (List.mem_cons_of_mem _ hx)
  have hb:=h b (by simp)
  have hd:=EN (l:=b) (n:=8) (by decide) (by omega)
  have ht:=Ek (l:=Bz b 8) (n:=48) (by decide) (by omega)
  have e:Ih (b::bs)=AF (Bz b 8) 48++Ih bs:=rfl
  rw[e,AO,EY];omega
theorem AbZ {A:Type} {bad:A} {F:List Int×Int→Step (List Int×Int) A} {bs:List (List Int)} (P:A→Prop) (hb:∀b∈bs,Aa b=64) (hn:Aa bs≤64)
 (hF:∀b i x,0≤i→i<Aa bs→Aa b≤10000→idx bs i=some x→Aa x=64→F (b,i)=.next (b++AF (Bz x 8) 48,i+1)) (hK:∃r,F (Ih bs,Aa bs)=.done r∧P r):P (iter bad F AA ([],0)):=by
 have hn0:=Ap bs
 refine AI (fun z:List Int×Int=>z.2) (Aa bs) (fun z=>z.1=Ih (AF bs z.2)) P (by omega) (by simp) hn0 (by simp[HU,Ih]) (fun z hI i0 i1=>?_) (fun z hI hz=>?_)
 ·obtain⟨b,i⟩:=z
  simp only at hI i0 i1
  obtain⟨x,hx,hm⟩:=Au i0 i1
  have hlt:=Ek (l:=bs) i0 (by omega)
  have hml:=ZY (AF bs i) fun y hy=>hb y (Aes hy)
  rw[hF b i x i0 i1 (by rw[hI];omega) hx (hb x hm)]
  refine ⟨rfl,?_⟩
  simp only
  rw[Kt i0 hx,hI]
  unfold Ih
  rw[List.flatMap_append];simp
 ·obtain⟨b,i⟩:=z
  simp only at hI hz
  subst hz
  rw[PX] at hI
  obtain⟨r,hr,hP⟩:=hK
  rw[hI,hr];exact hP
theorem WY {b:List Int} (h:Aa b≤1000):∃v,Ch b=some v∧Ci v:=by
 obtain⟨v,e,h1,h2⟩:=tX (l:=b) (by omega)
 unfold Ch
 rw[Ab _ _ h1]
 exact ⟨v,rfl,h2⟩
def HD (bs:List (List Int)):Ez:=((0,(0,[])),(bs,false))
def RY (bs:List (List Int)) (s:Ez):Prop:=s.2.1=bs∧((s.2.2=false∧s.1=(0,(0,[])))∨(s.2.2=true∧Il s.1))
theorem AeG {bs:List (List Int)} (hb:∀b∈bs,Aa b=64) (h1:1≤Aa bs) (h2:Aa bs≤32):∃s,Bd (HD bs)=some s∧RY bs s:=by
 have no:∃s,some (HD bs)=some s∧RY bs s:=⟨_,rfl,rfl,.inl ⟨rfl,rfl⟩⟩
 have hml:=ZY bs hb
 unfold Bd
 refine AbZ (bs:=bs) (fun r=>∃s,r=some s∧RY bs s) hb (by omega) (fun b i x i0 i1 hbl hx hxl=>?_) ⟨_,Ag _ _ (decide_eq_false (by show ¬Aa bs<Aa bs;omega)),?_⟩
 ·have hd:=EN (l:=x) (n:=8) (by decide) (by omega)
  have ht:=Ek (l:=Bz x 8) (n:=48) (by decide) (by omega)
  show cnd (decide (i<Aa bs)) _ _ = _
  rw[Af _ _ (decide_eq_true i1)]
  show Ad (idx bs i) _ _ = _
  rw[Ab _ _ hx,Af _ _ (decide_eq_true (by omega)),Af _ _ (decide_eq_true (by omega)),Af _ _ (Hi (b:=b) (by omega) (by omega)),Am (i+1) (by omega) (by omega)]
 obtain⟨x0,hx0,hm0⟩:=Au (l:=bs) (i:=0) (by decide) (by omega)
 have hx0l:=hb x0 hm0
 have ht8:=Ek (l:=x0) (n:=8) (by decide) (by omega)
 obtain⟨gen,hg,hgu⟩:=WY (b:=AF x0 8) (by omega)
 obtain⟨n,k,e,r1,r2,r3,r4,r5,r6⟩:=Xk (l:=Ih bs) (by omega)
 have hg0:=hgu.1
 have hn0:=r2.1
 show ∃s,Ad (idx bs 0) _ _ = some s∧_
 rw[Ab _ _ hx0,Af _ _ (decide_eq_true (by omega)),Ab _ _ hg,Ab _ _ r1]
 try simp only
 rw[Am (Aa (Ih bs)-k) (by omega) (by omega),DT (n:=Aa (Ih bs)-k) ⟨by omega,by omega⟩,AS]
 split
 ·exact no
 rename_i hc
 simp only[Bool.or_eq_true,decide_eq_true_eq,not_or,Int.not_lt,Int.not_le] at hc
 have hd:=EN (l:=Ih bs) r3 r4
 have hlv:Fq (Ih bs) k n=AF (Bz (Ih bs) k) n:=jY r3 hn0
 have hll:Aa (Fq (Ih bs) k n)=n:=by rw[hlv];exact Ek hn0 (by omega)
 rw[Af _ _ (by simp;omega),Af _ _ (by simp;omega)]
 obtain⟨m,k2,e2,q1,q2,q3,q4,q5,q6⟩:=Xk (l:=Fq (Ih bs) k n) (by omega)
 have hm0':=q2.1
 rw[Ab _ _ q1]
 try simp only
 rw[AS]
 split
 ·exact no
 rename_i hc2
 simp only[Bool.or_eq_true,decide_eq_true_eq,not_or,Int.not_lt] at hc2
 have hlv2:Aa (Fq (Ih bs) (k+k2) (n-k2))=n-k2:=by
  rw[jY (by omega) (by omega)]
  have:=EN (l:=Ih bs) (n:=k+k2) (by omega) (by omega)
  exact Ek (by omega) (by omega)
 rw[Af _ _ (by simp;omega)]
 obtain⟨pl,e3,p1,p2,p3⟩:=AcF (b:=Fq (Ih bs) (k+k2) (n-k2)) (by omega)
 rw[Ab _ _ p1,AS]
 split
 ·exact no
 have e8:wr .u8 m=m:=OB _ (by omega) (by omega)
 have eg:wr .i64 gen=gen:=Am _ (by omega) (by omega)
 obtain⟨ag,e4,b1,b2⟩:=Wn (k:=(gen,(m,pl))) (h:=Aa bs) h1 h2 hm0' (fun p hp=>by have:=(p3 p hp).c;omega)
 try simp only
 rw[e8,eg]
 show ∃s,Ad (BP ((gen,(m,pl)),Aa bs)) _ _ = some s∧_
 rw[Ab _ _ b1,AS]
 split
 ·exact no
 rename_i hc4
 have hc4:e4=0:=by simpa using hc4
 rcases b2 with ⟨_,b3,b4,rfl⟩|⟨b3,_⟩
 ·have hbl:=OJ (k:=(gen,(m,pl))) (h:=Aa bs) (by omega)
  try simp only
  refine AI (fun z:Int=>z) (Aa bs) (fun _=>True) (fun r=>∃s,r=some s∧RY bs s) (by omega) (by simp) (by omega) trivial (fun i _ i0 i1=>?_) (fun i _ hz=>?_)
  ·obtain⟨y,hy,_⟩:=Au (l:=bs) i0 i1
   rw[hbl,Af _ _ (decide_eq_true i1),Ab _ _ (Vo i0 i1)]
   show C5 _ _ _ _ (Ad (idx bs i) _ _)
   rw[Ab _ _ hy,AG,AS]
   split
   ·exact no
   ·rw[Am (i+1) (by omega) (by omega)]
    exact ⟨rfl,trivial⟩
  ·have hz:i=Aa bs:=hz
   rw[hbl,Ag _ _ (decide_eq_false (by omega))]
   exact ⟨_,rfl,rfl,.inr ⟨rfl,b3⟩⟩
 ·exact absurd hc4 b3
def Ba (d:List Int):Int:=IT d/2
def Hp (d:List Int) (i:Int):List (List Int):=(List.range (Ba d).toNat).map fun (n:Nat)=>blk d (i*Ba d+(n:Int))
theorem Lu {d:List Int} (h:BT d):1≤Ba d∧Ba d≤32∧2*Ba d≤IT d:=by
 have:=Jt h;unfold Ba;omega
theorem Ow {d:List Int} (h:BT d) (i:Int):Aa (Hp d i)=Ba d:=by
 have:=Lu h
 unfold Hp Aa;simp;omega
theorem m9 {d:List Int} (h:BT d) {i:Int} (hi:i=0∨i=1):∀b∈Hp d i,Aa b=64:=fun b hb=>by
 have:=Lu h
 unfold Hp at hb
 obtain⟨n,hn,rfl⟩:=List.mem_map.1 hb
 have hn:=List.mem_range.1 hn
 rcases hi with rfl|rfl<;>exact s9 h (by omega) (by omega)
def C3 (d:List Int) (i:Int):Ez:=(Bd (HD (Hp d i))).getD (HD [])
theorem M8 {d:List Int} (h:BT d) {i:Int} (hi:i=0∨i=1):Bd (HD (Hp d i))=some (C3 d i)∧RY (Hp d i) (C3 d i):=by
 have hh:=Lu h
 obtain⟨s,h1,h2⟩:=AeG (m9 h hi) (by rw[Ow h];omega) (by rw[Ow h];omega)
 unfold C3;rw[h1];exact ⟨rfl,h2⟩
theorem zX {d:List Int} (h:BT d):EJ .i64 (IT d) 2=Ba d:=by
 have:=Jt h
 have hw:=Am (IT d/2) (by omega) (by omega)
 unfold wr at hw
 unfold EJ Ba
 rw[Int.tdiv_eq_ediv_of_nonneg (by omega)]
 exact hw
theorem Oy {A:Type} {bad:A} {F:Int×Ez→Step (Int×Ez) A} {d:List Int} (h:BT d) {i:Int} (hi:i=0∨i=1) (P:A→Prop)
 (hF:∀(n:Int) out kk hh,0≤n→n<Ba d→Aa out=n→B4 ((d,()),wr .i64 (wr .i64 (i*Ba d)+n))=some (blk d (i*Ba d+n),0)→F (n,(kk,(out,hh)))=.next (n+1,(kk,(out++(blk d (i*Ba d+n)::[]),hh))))
 (hK:∃r,F (Ba d,HD (Hp d i))=.done r∧P r):P (iter bad F AA (0,((0,(0,[])),([],false)))):=by
 have hh:=Lu h
 refine AI (fun z:Int×Ez=>z.1) (Ba d) (fun z=>z.2=HD ((List.range z.1.toNat).map fun (n:Nat)=>blk d (i*Ba d+(n:Int)))) P (by omega) (by simp) (by simp only;omega) rfl (fun z hI i0 i1=>?_) (fun z hI hz=>?_)
 ·obtain⟨n,w⟩:=z
  simp only at hI i0 i1
  subst hI
  have hw:wr .i64 (wr .i64 (i*Ba d)+n)=i*Ba d+n:=by
   rcases hi with rfl|rfl
   ·rw[Int.zero_mul,Am 0 (by decide) (by decide),Am _ (by omega) (by omega)]
   ·rw[Int.one_mul,Am (Ba d) (by omega) (by omega),Am (Ba d+n) (by omega) (by omega)]
  have hr:B4 ((d,()),wr .i64 (wr .i64 (i*Ba d)+n))=some (blk d (i*Ba d+n),0):=by
   rw[hw]
   exact AcU h (by rcases hi with rfl|rfl<;>omega) (by rcases hi with rfl|rfl<;>omega)
  unfold HD
  rw[hF n _ _ _ i0 i1 (by unfold Aa;simp;omega) hr]
  refine ⟨rfl,?_⟩
  simp only
  rw[show (n+1).toNat=n.toNat+1 by omega,List.range_succ,List.map_append]
  simp only[List.map_cons,List.map_nil,Int.toNat_of_nonneg i0]
 ·obtain⟨n,w⟩:=z
  simp only at hI hz
  subst hz hI
  obtain⟨r,hr,hP⟩:=hK
  show Lb P (F (Ba d,HD (Hp d i)))
  rw[hr];exact hP
def eQ (a b:Ez):BF×Int:=if a.2.2=true∧¬(b.2.2=true∧a.1.1<b.1.1) then (a.1,0) else if b.2.2=true then (b.1,0) else ((0,(0,[])),190)
theorem Aex (x2 x4:Ez):(cnd (x2.2.2&&(!(x4.2.2&&(decide (x2.1.1<x4.1.1))))) (some (x2.1,0)) (cnd x4.2.2 (some (x4.1,0)) (some ((0,(0,[])),190))))=some (eQ x2 x4):=by
 obtain⟨k,bs,h⟩:=x2
 obtain⟨k',bs',h'⟩:=x4
 unfold eQ
 simp only
 by_cases c:k.1<k'.1
 ·cases h<;>cases h'<;>simp[cnd,c]
 ·cases h<;>cases h'<;>simp[cnd,c]
def CS (d:List Int):BF×Int:=eQ (C3 d 0) (C3 d 1)
theorem P4 {d:List Int} (h:BT d):D9 (d,())=some (CS d):=by
 have hm:=Jt h
 have hh:=Lu h
 obtain⟨a1,a2⟩:=M8 h (i:=0) (.inl rfl)
 obtain⟨b1,b2⟩:=M8 h (i:=1) (.inr rfl)
 unfold D9
 rw[AG,UG h,Ag _ _ (by rfl),Ag _ _ (decide_eq_false (by simp only;omega)),zX h]
 have step:∀(i n:Int) (out:List (List Int)) (kk:BF) (hhh:Bool) (bad:Step (Int×Ez) (Option (BF×Int))) (E:Step (Int×Ez) (Option (BF×Int))),0≤n→n<Ba d→Aa out=n→B4 ((d,()),wr .i64 (wr .i64 (i*Ba d)+n))=some (blk d (i*Ba d+n),0) →
  cnd (decide (n<Ba d)) (Ad (B4 ((d,()),wr .i64 (wr .i64 (i*Ba d)+n))) bad (fun x4=>cnd (true&&(AN ((Aa out)+(Aa (x4.1::[]))) 24)) (.next ((wr .i64 (n+1)),(kk,((out++(x4.1::[])),hhh)))) bad)) E=.next (n+1,(kk,(out++(blk d (i*Ba d+n)::[]),hhh))):=fun i n out kk hhh bad E n0 n1 ho hr=>by
  rw[Af _ _ (decide_eq_true n1),Ab _ _ hr]
  try simp only
  rw[Af _ _ (Bx (l:=out) (by omega)),Am (n+1) (by omega) (by omega)]
 refine Oy h (i:=0) (.inl rfl) (fun r=>r=some (CS d)) (fun n out kk hhh n0 n1 ho hr=>step 0 n out kk hhh _ _ n0 n1 ho hr) ⟨_,Ag _ _ (decide_eq_false (by show ¬Ba d<Ba d;omega)),?_⟩
 show Ad (Bd (HD (Hp d 0))) _ _ = _
 rw[Ab _ _ a1]
 refine Oy h (i:=1) (.inr rfl) (fun r=>r=some (CS d)) (fun n out kk hhh n0 n1 ho hr=>step 1 n out kk hhh _ _ n0 n1 ho hr) ⟨_,Ag _ _ (decide_eq_false (by show ¬Ba d<Ba d;omega)),?_⟩
 show Ad (Bd (HD (Hp d 1))) _ _ = _
 rw[Ab _ _ b1]
 exact Aex _ _
theorem tP {d:List Int} (h:BT d):((CS d).2=0∧Il (CS d).1)∨((CS d).2=190∧(CS d).1=(0,(0,[]))):=by
 obtain⟨_,_,a2⟩:=M8 h (i:=0) (.inl rfl)
 obtain⟨_,_,b2⟩:=M8 h (i:=1) (.inr rfl)
 unfold CS eQ
 split
 ·rename_i hc
  rcases a2 with ⟨a2,_⟩|⟨_,a2⟩
  ·rw[hc.1] at a2;cases a2
  ·exact .inl ⟨rfl,a2⟩
 ·split
  ·rename_i hc
   rcases b2 with ⟨b2,_⟩|⟨_,b2⟩
   ·rw[hc] at b2;cases b2
   ·exact .inl ⟨rfl,b2⟩
  ·exact .inr ⟨rfl,rfl⟩
theorem gH {α:Type} (p q:α→Bool):∀l:List α,(∀x,q x=true→p x=true)→(∃x∈l,p x=true∧q x=false)→(l.filter q).length<(l.filter p).length
 |[],_,⟨x,hx,_⟩=>by cases hx
 |y::l,h,⟨x,hx,h1,h2⟩=>by
  have le:∀m:List α,(m.filter q).length≤(m.filter p).length:=fun m=>by
   induction m with
   |nil=>exact Nat.le_refl _
   |cons z m ih =>
    rw[List.filter_cons,List.filter_cons]
    cases hq:q z with
    |true=>rw[h z hq];simpa using ih
    |false =>
     cases hp:p z with
     |true=>simp;omega
     |false=>simpa using ih
  rw[List.filter_cons,List.filter_cons]
  rcases List.mem_cons.1 hx with rfl|hx
  ·rw[h1,h2]
   have:=le l
   simp;omega
  ·have ih:=gH p q l h ⟨x,hx,h1,h2⟩
   cases hq:q y with
   |true=>rw[h y hq];simpa using ih
   |false =>
    cases hp:p y with
    |true=>simp;omega
    |false=>simpa using ih
def J0 (bs:List (List Int)):List Int:=bs.flatMap fun b=>[(Ch (AF b 8)).getD 0,(Ch (Bz b 56)).getD 0]
def N6 (bs:List (List Int)) (g r:Int):Prop:=g<r∧(∀n∈J0 bs,n<4611686018427387904→n<r)∧(∃m,(m=g∨(m∈J0 bs∧m<4611686018427387904))∧r≤m+33)
theorem Aet {s:Ez} {g:Int} (hb:∀b∈s.2.1,Aa b=64) (hn:Aa s.2.1≤32) (g0:0≤g) (g1:g<4611686018427387904):∃r,CC (s,g)=some r∧N6 s.2.1 g r:=by
 obtain⟨kk,bs,hh⟩:=s
 simp only at hb hn
 have hn0:=Ap bs
 unfold CC
 have pre:∀(i:Int) x,idx bs i=some x→J0 (AF bs (i+1))=J0 (AF bs i)++[(Ch (AF x 8)).getD 0,(Ch (Bz x 56)).getD 0]:=fun i x hx=>by
  rw[Kt (An hx).1 hx]
  unfold J0;rw[List.flatMap_append];simp
 refine AI (fun z:Int×Int=>z.2) (Aa bs) (fun z=>g≤z.1∧z.1<4611686018427387904∧(∀n∈J0 (AF bs z.2),n<4611686018427387904→n≤z.1)∧(z.1=g∨z.1∈J0 (AF bs z.2))) (fun r=>∃q,r=some q∧N6 bs g q) (by omega) (by simp) hn0 ⟨Int.le_refl _,g1,fun n hn=>(by simp[HU,J0] at hn),.inl rfl⟩ (fun z hI i0 i1=>?_) (fun z hI hz=>?_)
 ·obtain⟨m,i⟩:=z
  obtain⟨q1,q2,q3,q4⟩:=hI
  simp only at i0 i1 q1 q2 q3 q4
  obtain⟨x,hx,hxm⟩:=Au i0 i1
  have hxl:=hb x hxm
  have ht:=Ek (l:=x) (n:=8) (by decide) (by omega)
  have hd:=EN (l:=x) (n:=56) (by decide) (by omega)
  obtain⟨v,hv,hvu⟩:=WY (b:=AF x 8) (by omega)
  obtain⟨w,hw,hwu⟩:=WY (b:=Bz x 56) (by omega)
  have hv0:=hvu.1
  have hw0:=hwu.1
  have hp:=pre i x hx
  rw[hv,hw] at hp
  simp only[Option.getD_some] at hp
  show C5 _ _ _ _ (cnd (decide (i<Aa bs)) _ _)
  rw[Af _ _ (decide_eq_true i1)]
  show C5 _ _ _ _ (Ad (idx bs i) _ _)
  rw[Ab _ _ hx,Af _ _ (decide_eq_true (by omega)),Ab _ _ hv,Af _ _ (decide_eq_true (by omega)),Ab _ _ hw]
  refine AI (fun z:Int×Int=>z.2) 2 (fun z=>g≤z.1∧z.1<4611686018427387904∧(∀n∈J0 (AF bs i)++AF [v,w] z.2,n<4611686018427387904→n≤z.1)∧(z.1=g∨z.1∈J0 (AF bs i)++AF [v,w] z.2)) (fun R=>C5 (fun z:Int×Int=>z.2) (fun z=>g≤z.1∧z.1<4611686018427387904∧(∀n∈J0 (AF bs z.2),n<4611686018427387904→n≤z.1)∧(z.1=g∨z.1∈J0 (AF bs z.2))) (fun r=>∃q,r=some q∧N6 bs g q) i R) (by decide) (by simp) (by simp) ⟨q1,q2,by simpa[HU] using q3,by simpa[HU] using q4⟩ (fun z hI k0 k1=>?_) (fun z hI hz=>?_)
  ·obtain⟨m2,k⟩:=z
   obtain⟨p1,p2,p3,p4⟩:=hI
   simp only at k0 k1 p1 p2 p3 p4
   have l2:Aa (v::(w::([]:List Int)))=2:=rfl
   obtain⟨y,hy⟩:∃y,idx (v::(w::[])) k=some y:=by obtain⟨y,hy,_⟩:=Au (l:=v::(w::[])) k0 (by rw[l2];exact k1);exact ⟨y,hy⟩
   have hyu:0≤y:=by
    have:=(An hy).2.2
    simp at this
    rcases this with rfl|rfl<;>assumption
   have htk:AF [v,w] (k+1)=AF [v,w] k++[y]:=Kt k0 hy
   try simp only
   rw[l2,Af _ _ (decide_eq_true k1),Ab _ _ hy,Am (k+1) (by omega) (by omega)]
   by_cases c:y<4611686018427387904
   ·rw[Af _ _ (decide_eq_true c),Am y (by omega) (by omega),Gi]
    refine ⟨rfl,by simp only;omega,by simp only;omega,fun n hnm hlt=>?_,?_⟩
    ·simp only at hnm ⊢
     rw[htk,←List.append_assoc] at hnm
     rcases List.mem_append.1 hnm with hnm|hnm
     ·have:=p3 n hnm hlt;omega
     ·have:n=y:=by simpa using hnm
      omega
    ·simp only
     rw[htk,←List.append_assoc]
     by_cases cm:m2≤y
     ·rw[Int.max_eq_right cm];exact .inr (by simp)
     ·rw[Int.max_eq_left (by omega)]
      rcases p4 with p4|p4
      ·exact .inl p4
      ·exact .inr (List.mem_append_left _ p4)
   ·rw[Ag _ _ (decide_eq_false c)]
    refine ⟨rfl,p1,p2,fun n hnm hlt=>?_,?_⟩
    ·simp only at hnm ⊢
     rw[htk,←List.append_assoc] at hnm
     rcases List.mem_append.1 hnm with hnm|hnm
     ·exact p3 n hnm hlt
     ·have:n=y:=by simpa using hnm
      omega
    ·simp only
     rw[htk,←List.append_assoc]
     rcases p4 with p4|p4
     ·exact .inl p4
     ·exact .inr (List.mem_append_left _ p4)
  ·obtain⟨m2,k⟩:=z
   obtain⟨p1,p2,p3,p4⟩:=hI
   simp only at hz p1 p2 p3 p4
   subst hz
   have l2:Aa (v::(w::([]:List Int)))=2:=rfl
   have h2:AF [v,w] 2=[v,w]:=rfl
   rw[h2,←hp] at p3 p4
   try simp only
   rw[l2,Ag _ _ (by rfl),Am (i+1) (by omega) (by omega)]
   exact ⟨rfl,p1,p2,p3,p4⟩
 ·obtain⟨m,i⟩:=z
  obtain⟨q1,q2,q3,q4⟩:=hI
  simp only at hz q1 q2 q3 q4
  subst hz
  rw[PX] at q3 q4
  show Lb _ (cnd (decide (Aa bs<Aa bs)) _ _)
  rw[Ag _ _ (decide_eq_false (by omega)),Am (m+1) (by omega) (by omega)]
  show ∃q,iter none _ AA (m+1)=some q∧_
  let res:List Int→Int:=fun b=>((idx b 56).getD 0-(m+1))%256
  have hlenle:∀p:List Int→Bool,(bs.filter p).length≤32:=fun p=>by
   have:=List.length_filter_le p bs
   unfold Aa at hn;omega
  have hI0:m+1≤m+1∧m+1-(m+1)+((bs.filter fun b=>decide (m+1-(m+1)≤res b)).length:Int)≤32:=by
   have:=hlenle fun b=>decide (m+1-(m+1)≤res b)
   exact ⟨Int.le_refl _,by omega⟩
  refine EG (fun z:Int=>m+1≤z∧z-(m+1)+((bs.filter fun b=>decide (z-(m+1)≤res b)).length:Int)≤32) (fun z=>(m+34-z).toNat) (fun r:Option Int=>∃q,r=some q∧N6 bs g q) ?_ AA (m+1) hI0 (by rw[Gl];omega)
  rintro z ⟨z0,z1⟩
  have hfin:N6 bs g z:=⟨by omega,fun n hnm hlt=>by have:=q3 n hnm hlt;omega,m,by
   rcases q4 with q4|q4
   ·exact .inl q4
   ·exact .inr ⟨q4,q2⟩,by omega⟩
  refine AI (fun z:Int=>z) (Aa bs) (fun _=>True) (fun R=>Round (fun z:Int=>m+1≤z∧z-(m+1)+((bs.filter fun b=>decide (z-(m+1)≤res b)).length:Int)≤32) (fun z=>(m+34-z).toNat) (fun r:Option Int=>∃q,r=some q∧N6 bs g q) (m+34-z).toNat R) (by omega) (by simp) hn0 trivial (fun i _ i0 i1=>?_) (fun i _ hz=>?_)
  ·obtain⟨x,hx,hxm⟩:=Au i0 i1
   obtain⟨y,hy,_⟩:=Au (l:=x) (i:=56) (by decide) (by rw[hb x hxm];decide)
   show C5 _ _ _ _ (cnd (decide (i<Aa bs)) _ _)
   rw[Af _ _ (decide_eq_true i1)]
   show C5 _ _ _ _ (Ad (idx bs i) _ _)
   rw[Ab _ _ hx,Ab _ _ hy,OC]
   by_cases c:y=z%256
   ·rw[Af _ _ (by simpa using c),Am (z+1) (by omega) (by omega)]
    have hres:res x=z-(m+1):=by
     show ((idx x 56).getD 0-(m+1))%256 = _
     rw[hy]
     simp only[Option.getD_some]
     omega
    have hlt:=gH (fun b=>decide (z-(m+1)≤res b)) (fun b=>decide (z+1-(m+1)≤res b)) bs (fun b hq=>by
     simp only[decide_eq_true_eq] at hq ⊢;omega) ⟨x,hxm,by simp only[decide_eq_true_eq];omega,by simp only[decide_eq_false_iff_not];omega⟩
    exact ⟨⟨by omega,by omega⟩,(by show (m+34-(z+1)).toNat<(m+34-z).toNat;omega)⟩
   ·rw[Ag _ _ (by simpa using c),Am (i+1) (by omega) (by omega)]
    exact ⟨rfl,trivial⟩
  ·have hz:i=Aa bs:=hz
   subst hz
   show Lb _ (cnd (decide (Aa bs<Aa bs)) _ _)
   rw[Ag _ _ (decide_eq_false (by omega))]
   exact ⟨z,rfl,hfin⟩
end Go.Proofs.YtmmkfcpdfnjgjaaGreatDoor
namespace Go.Proofs.YtmmkfcpdfnjgjaaGreatDoor
open Go.Den
def Zn (d:List Int):Prop:=(C3 d 0).2.2=true∧¬((C3 d 1).2.2=true∧(C3 d 0).1.1<(C3 d 1).1.1)
open Classical in
noncomputable def toV (d:List Int):Int:=if Zn d then 1 else 0
open Classical in
noncomputable def UE (d:List Int):Int:=if Zn d then (C3 d 0).1.1 else if (C3 d 1).2.2=true then (C3 d 1).1.1 else 0
def LS (k:BF) (h t:Int):List CU:=(List.range h.toNat).map fun (i:Nat)=>(t*h+(i:Int),E4 k h (i:Int))
theorem AaE {k:BF} {h t:Int} (h0:0≤h):Aa (LS k h t)=h:=by unfold LS Aa;simp;omega
theorem w4 {k:BF} {h t:Int} {n:Nat}:(List.range (n+1)).map (fun (i:Nat)=>(t*h+(i:Int),E4 k h (i:Int)))=(List.range n).map (fun (i:Nat)=>(t*h+(i:Int),E4 k h (i:Int)))++[(t*h+(n:Int),E4 k h (n:Int))]:=by
 rw[List.range_succ,List.map_append];rfl
theorem uT {k:BF} {h i:Int} (hf:Aa (IN k)≤48*h) (i0:0≤i) (i1:i<h):Aa (E4 k h i)=64:=by
 have hp:=tO hf
 have hd:=EN (l:=OV k h) (n:=i*48) (by omega) (by omega)
 have ht:=Ek (l:=Bz (OV k h) (i*48)) (n:=48) (by decide) (by omega)
 have l8:=Kk 8 k.1.toNat
 unfold E4;rw[AO,AO,l8,ht];rfl
theorem AdF {k:BF} {d:List Int} {t:Int} (h:BT d) (ht:t=0∨t=1) (hf:Aa (IN k)≤48*Ba d):LZ d (LS k (Ba d) t):=by
 have hh:=Lu h
 refine ⟨fun p hp=>?_,fun p hp=>?_,by rw[AaE (by omega)];omega⟩
 all_goals
  unfold LS at hp
  obtain⟨i,hi,rfl⟩:=List.mem_map.1 hp
  have hi:=List.mem_range.1 hi
  simp only
 ·rcases ht with rfl|rfl
  ·rw[Int.zero_mul];omega
  ·rw[Int.one_mul];omega
 ·exact uT hf (by omega) (by omega)
def Xf (d:List Int) (m:Int) (l:List AB):Prop:=Il (1,(m,l))∧Aa (IN (1,(m,l)))≤48*Ba d
structure N8 (d:List Int) (m:Int) (l:List AB) (ps:List CU) (e:Int):Prop where
 ok:LZ d ps
 bad:e≠0→ps=[]∧(Xf d m l→∃r,N6 (Hp d (toV d)) (UE d) r∧4611686018427387904≤r)
 good:e=0→Xf d m l∧∃r,N6 (Hp d (toV d)) (UE d) r∧1≤r∧r<4611686018427387904∧ps=LS (r,(m,l)) (Ba d) (toV d)
theorem Adv (g g' m:Int) (l:List AB):IN (g,(m,l))=IN (g',(m,l)):=rfl
theorem AaF {k:BF} {h t:Int} {A:Type} {bad:A} {F:List CU×Int→Step (List CU×Int) A} (P:A→Prop) (h1:1≤h) (h2:h≤32) (ht:t=0∨t=1)
 (hF:∀(out:List CU) (i:Int) (b:List Int),0≤i→i<h→Aa out=i→idx (Gf k h) i=some b→F (out,i)=.next (out++((wr .i64 (wr .i64 (t*h)+i),b)::[]),i+1)) (hK:∃r,F (LS k h t,h)=.done r∧P r):P (iter bad F AA ([],0)):=by
 refine AI (fun z:List CU×Int=>z.2) h (fun z=>z.1=(List.range z.2.toNat).map fun (i:Nat)=>(t*h+(i:Int),E4 k h (i:Int))) P (by omega) (by simp) (by simp only;omega) rfl (fun z hI i0 i1=>?_) (fun z hI hz=>?_)
 ·obtain⟨out,i⟩:=z
  simp only at hI i0 i1
  have hw:wr .i64 (wr .i64 (t*h)+i)=t*h+i:=by
   rcases ht with rfl|rfl
   ·rw[Int.zero_mul,Am 0 (by decide) (by decide),Am (0+i) (by omega) (by omega)]
   ·rw[Int.one_mul,Am h (by omega) (by omega),Am (h+i) (by omega) (by omega)]
  rw[hF out i _ i0 i1 (by rw[hI];unfold Aa;simp;omega) (Vo i0 i1)]
  refine ⟨rfl,?_⟩
  simp only
  rw[show (i+1).toNat=i.toNat+1 by omega,w4,hI,hw,Int.toNat_of_nonneg i0]
 ·obtain⟨out,i⟩:=z
  simp only at hI hz
  subst hz
  obtain⟨r,hr,hP⟩:=hK
  rw[hI]
  have e:(List.range i.toNat).map (fun (j:Nat)=>(t*i+(j:Int),E4 k i (j:Int)))=LS k i t:=rfl
  rw[e,hr];exact hP
theorem AaG {S A:Type} {k:BF} {h t i:Int} {out:List CU} {b:List Int} {bad E:Step S A} {f:List CU→Int→Step S A} (h1:1≤h) (h2:h≤32) (i0:0≤i) (i1:i<h) (ho:Aa out=i) (hb:idx (Gf k h) i=some b) :
 cnd (decide (i<Aa (Gf k h))) (Ad (idx (Gf k h) i) bad (fun x9=>(cnd (true&&(AN ((Aa out)+(Aa (((wr .i64 ((wr .i64 (t*h))+i)),x9)::[]))) 32)) (f (out++(((wr .i64 ((wr .i64 (t*h))+i)),x9)::[])) (wr .i64 (i+1))) bad))) E=f (out++((wr .i64 (wr .i64 (t*h)+i),b)::[])) (i+1):=by
 rw[OJ (by omega),Af _ _ (decide_eq_true i1),Ab _ _ hb,Af _ _ (Bx (l:=out) (by omega)),Am (i+1) (by omega) (by omega)]
theorem AeL {d:List Int} {m:Int} {l:List AB} (h:BT d) (m0:0≤m) (hf:∀p∈l,-9223372036854775808≤p.1∧p.1≤9223372036854775807):∃ps e,Hj ((d,()),(m,l))=some (ps,e)∧N8 d m l ps e:=by
 have hm:=Jt h
 have hh:=Lu h
 obtain⟨a1,a2,a3⟩:=M8 h (i:=0) (.inl rfl)
 obtain⟨b1,b2,b3⟩:=M8 h (i:=1) (.inr rfl)
 have nofit:∀e:Int,e≠0→¬Xf d m l→N8 d m l [] e:=fun e he hn=>⟨QL d,fun _=>⟨rfl,fun hh=>absurd hh hn⟩,fun h0=>absurd h0 he⟩
 unfold Hj
 rw[AG,UG h,Ag _ _ (by rfl),Ag _ _ (decide_eq_false (by simp only;omega)),zX h]
 have step:∀(i n:Int) (out:List (List Int)) (kk:BF) (hhh:Bool) (bad:Step (Int×Ez) (Option (List CU×Int))) (E:Step (Int×Ez) (Option (List CU×Int))),0≤n→n<Ba d→Aa out=n→B4 ((d,()),wr .i64 (wr .i64 (i*Ba d)+n))=some (blk d (i*Ba d+n),0) →
  cnd (decide (n<Ba d)) (Ad (B4 ((d,()),wr .i64 (wr .i64 (i*Ba d)+n))) bad (fun x4=>cnd (true&&(AN ((Aa out)+(Aa (x4.1::[]))) 24)) (.next ((wr .i64 (n+1)),(kk,((out++(x4.1::[])),hhh)))) bad)) E=.next (n+1,(kk,(out++(blk d (i*Ba d+n)::[]),hhh))):=fun i n out kk hhh bad E n0 n1 ho hr=>by
  rw[Af _ _ (decide_eq_true n1),Ab _ _ hr]
  try simp only
  rw[Af _ _ (Bx (l:=out) (by omega)),Am (n+1) (by omega) (by omega)]
 refine Oy h (i:=0) (.inl rfl) (fun r=>∃ps e,r=some (ps,e)∧N8 d m l ps e) (fun n out kk hhh n0 n1 ho hr=>step 0 n out kk hhh _ _ n0 n1 ho hr) ⟨_,Ag _ _ (decide_eq_false (by show ¬Ba d<Ba d;omega)),?_⟩
 show ∃ps e,Ad (Bd (HD (Hp d 0))) _ _ = some (ps,e)∧_
 rw[Ab _ _ a1]
 refine Oy h (i:=1) (.inr rfl) (fun r=>∃ps e,r=some (ps,e)∧N8 d m l ps e) (fun n out kk hhh n0 n1 ho hr=>step 1 n out kk hhh _ _ n0 n1 ho hr) ⟨_,Ag _ _ (decide_eq_false (by show ¬Ba d<Ba d;omega)),?_⟩
 show ∃ps e,Ad (Bd (HD (Hp d 1))) _ _ = some (ps,e)∧_
 rw[Ab _ _ b1,AS]
 split
 ·rename_i hc
  exact ⟨[],2,rfl,nofit 2 (by decide) fun hh=>by have:m≤3:=hh.1.mode.2;simp at hc;omega⟩
 rename_i hm3
 simp only[decide_eq_true_eq,Int.not_lt] at hm3
 have hbl0:Aa (C3 d 0).2.1=Ba d:=by rw[a2,Ow h]
 rw[hbl0]
 obtain⟨w,e,p1,p2⟩:=Wn (k:=(1,(m,l))) (h:=Ba d) hh.1 hh.2.1 m0 hf
 rw[Ab _ _ p1]
 rcases p2 with ⟨rfl,k1,k2,rfl⟩|⟨k1,_,k2⟩
 rotate_left
 ·rw[Af _ _ (by simp[k1])]
  exact ⟨[],e,rfl,nofit e k1 fun hh=>k2 hh⟩
 have hfit:Xf d m l:=⟨k1,k2⟩
 rw[Ag _ _ (by rfl)]
 have tail:∀(s:Ez) (g t:Int) (R:Option (List CU×Int)),(t=0∨t=1)→toV d=t→UE d=g→0≤g→g<4611686018427387904→s.2.1=Hp d t →
  (∀x6,CC (s,g)=some x6→(4611686018427387904≤x6→R=some ([],190))∧(¬4611686018427387904≤x6→BP ((x6,(m,l)),Ba d)=some (Gf (x6,(m,l)) (Ba d),0)→R=some (LS (x6,(m,l)) (Ba d) t,0)))→∃ps e,R=some (ps,e)∧N8 d m l ps e:=fun s g t R ht hto hba g0 g1 hs hR=>by
  obtain⟨r,hr,hN⟩:=Aet (s:=s) (g:=g) (by rw[hs];exact m9 h ht) (by rw[hs,Ow h];omega) g0 g1
  rw[hs] at hN
  obtain⟨q1,q2⟩:=hR r hr
  by_cases c:4611686018427387904≤r
  ·exact ⟨[],190,q1 c,QL d,fun _=>⟨rfl,fun _=>⟨r,by rw[hto,hba];exact hN,c⟩⟩,fun h0=>by cases h0⟩
  ·have hkr:Il (r,(m,l)):=⟨⟨by have:=hN.1;show 1≤r;omega,by show r<_;omega⟩,k1.mode,k1.n,k1.plans⟩
   have hfr:Aa (IN (r,(m,l)))≤48*Ba d:=by rw[Adv r 1];exact k2
   obtain⟨w,e,u1,u2⟩:=Wn (k:=(r,(m,l))) (h:=Ba d) hh.1 hh.2.1 m0 hf
   rcases u2 with ⟨rfl,_,_,rfl⟩|⟨_,_,u2⟩
   ·exact ⟨_,0,q2 c u1,AdF h ht hfr,fun h0=>absurd rfl h0,fun _=>⟨hfit,r,by rw[hto,hba];exact hN,hkr.gen.1,hkr.gen.2,by rw[hto]⟩⟩
   ·exact absurd ⟨hkr,hfr⟩ u2
 have fin:∀(t r:Int) (w:List (List Int)×Int),(t=0∨t=1)→∀(R:Option (List CU×Int)),(∀x7,BP ((r,(m,l)),Ba d)=some x7→R=iter none (fun x8:List CU×Int=>(cnd (decide (x8.2<(Aa x7.1))) (Ad (idx x7.1 x8.2) (.done none) (fun x9=>(cnd (true&&(AN ((Aa x8.1)+(Aa (((wr .i64 ((wr .i64 (t*Ba d))+x8.2)),x9)::[]))) 32)) (.next ((x8.1++(((wr .i64 ((wr .i64 (t*Ba d))+x8.2)),x9)::[])),(wr .i64 (x8.2+1)))) (.done none)))) (.done (some (x8.1,x7.2))))) AA ([],0))→BP ((r,(m,l)),Ba d)=some (Gf (r,(m,l)) (Ba d),0)→R=some (LS (r,(m,l)) (Ba d) t,0):=fun t r w ht R hR hB=>by
  rw[hR _ hB]
  refine AaF (k:=(r,(m,l))) (h:=Ba d) (t:=t) (fun R=>R=some (LS (r,(m,l)) (Ba d) t,0)) hh.1 hh.2.1 ht (fun out i b i0 i1 ho hb=>?_) ⟨_,Ag _ _ (decide_eq_false (by simp only;rw[OJ (by omega)];omega)),rfl⟩
  exact AaG (f:=fun o i=>.next (o,i)) hh.1 hh.2.1 i0 i1 ho hb
 by_cases ca:Zn d
 ·have hK0:Il (C3 d 0).1:=by
   rcases a3 with ⟨a3,_⟩|⟨_,a3⟩
   ·rw[ca.1] at a3;cases a3
   ·exact a3
  have hg:=hK0.gen
  have hcond:((C3 d 0).2.2&&(!((C3 d 1).2.2&&(decide ((C3 d 0).1.1<(C3 d 1).1.1)))))=true:=by
   rw[ca.1,Bool.true_and,Bool.not_eq_true',Bool.and_eq_false_iff,decide_eq_false_iff_not]
   by_cases c:(C3 d 1).2.2=true
   ·exact .inr fun hlt=>ca.2 ⟨c,hlt⟩
   ·exact .inl (by simpa using c)
  rw[Af _ _ hcond]
  refine tail (C3 d 1) (C3 d 0).1.1 1 _ (.inr rfl) (by unfold toV;rw[if_pos ca]) (by unfold UE;rw[if_pos ca]) (by omega) hg.2 b2 (fun r hr=>⟨fun c=>?_,fun c hB=>?_⟩)
  ·rw[Ab _ _ hr,Af _ _ (decide_eq_true c)]
  ·rw[Ab _ _ hr,Ag _ _ (decide_eq_false c)]
   exact fin 1 r ([],0) (.inr rfl) _ (fun x7 h7=>by rw[Ab _ _ h7]) hB
 ·have hcond:((C3 d 0).2.2&&(!((C3 d 1).2.2&&(decide ((C3 d 0).1.1<(C3 d 1).1.1)))))=false:=by
   apply Bool.eq_false_iff.2
   intro hh
   simp only[Bool.and_eq_true,Bool.not_eq_true',Bool.and_eq_false_iff,decide_eq_false_iff_not] at hh
   refine ca ⟨hh.1,fun hc=>?_⟩
   rcases hh.2 with h1|h1
   ·rw[hc.1] at h1;cases h1
   ·exact h1 hc.2
  rw[Ag _ _ hcond]
  by_cases cb:(C3 d 1).2.2=true
  ·have hK1:Il (C3 d 1).1:=by
    rcases b3 with ⟨b3,_⟩|⟨_,b3⟩
    ·rw[cb] at b3;cases b3
    ·exact b3
   have hg:=hK1.gen
   rw[Af _ _ cb]
   refine tail (C3 d 0) (C3 d 1).1.1 0 _ (.inl rfl) (by unfold toV;rw[if_neg ca]) (by unfold UE;rw[if_neg ca,if_pos cb]) (by omega) hg.2 a2 (fun r hr=>⟨fun c=>?_,fun c hB=>?_⟩)
   ·rw[Ab _ _ hr,Af _ _ (decide_eq_true c)]
   ·rw[Ab _ _ hr,Ag _ _ (decide_eq_false c)]
    exact fin 0 r ([],0) (.inl rfl) _ (fun x7 h7=>by rw[Ab _ _ h7]) hB
  ·rw[Ag _ _ (Bool.eq_false_iff.2 cb)]
   refine tail (C3 d 0) 0 0 _ (.inl rfl) (by unfold toV;rw[if_neg ca]) (by unfold UE;rw[if_neg ca,if_neg cb]) (by decide) (by decide) a2 (fun r hr=>⟨fun c=>?_,fun c hB=>?_⟩)
   ·rw[Ab _ _ hr,Af _ _ (decide_eq_true c)]
   ·rw[Ab _ _ hr,Ag _ _ (decide_eq_false c)]
    exact fin 0 r ([],0) (.inl rfl) _ (fun x7 h7=>by rw[Ab _ _ h7]) hB
end Go.Proofs.YtmmkfcpdfnjgjaaGreatDoor
namespace Go.Proofs.YtmmkfcpdfnjgjaaGreatDoor
open Go.Den
def RV (r:List Int):Prop:=Aa r≤2048∧(r=[]∨∃t,r=126::t∧tY t)
def Na (s:Ae) (p:AB):Prop:=FO s p∨p=(0,(0,[]))
def Xg (g:Bi):Prop:=Ej g=0∧Ci g.2.2.2.2
def MW (p:BB):Prop:=0≤p.2.2∧p.2.2≤1048576
structure Hl (n:Int) (gr bu cm:List Int):Prop where
 g:Aa gr=n
 b:Aa bu=n
 c:Aa cm=n
 v:∀i,0≤i→i<n→0≤el bu i∧el bu i≤el gr i∧el gr i≤1048576∧0≤el cm i∧el cm i≤1048576
def Cm (s:Ae):Int:=Aa s.2.2.2.2.2.1
def BN (s:Ae):Int:=Aa s.2.2.2.2.1
structure Fh (s:Ae) (x:AV):Prop where
 disk:BT x.1.1
 now:DD s x.2.1
 rung:Ld.IV x.2.2.1
 seq:UB s x.2.2.2.1
 link:JI x.2.2.2.2.1
 rest:RV x.2.2.2.2.2.1
 told:Na s x.2.2.2.2.2.2.1
 age:0≤x.2.2.2.2.2.2.2.1∧x.2.2.2.2.2.2.2.1≤1048576
 pn:Aa x.2.2.2.2.2.2.2.2.1=Cm s
 pulse:∀p∈x.2.2.2.2.2.2.2.2.1,MW p
 eyes:Ey.Fa 0 s x.2.2.2.2.2.2.2.2.2.1=0
 gn:Aa x.2.2.2.2.2.2.2.2.2.2.1=Cm s
 gaps:∀g∈x.2.2.2.2.2.2.2.2.2.2.1,Xg g
 calls:Ax x.2.2.2.2.2.2.2.2.2.2.2.1∧Av .u32 x.2.2.2.2.2.2.2.2.2.2.2.1 (BN s)=0
 wrong:0≤x.2.2.2.2.2.2.2.2.2.2.2.2.1∧x.2.2.2.2.2.2.2.2.2.2.2.2.1≤1048576
 tick:0≤x.2.2.2.2.2.2.2.2.2.2.2.2.2.1∧x.2.2.2.2.2.2.2.2.2.2.2.2.2.1≤1073741824
 cnt:Hl (BN s) x.2.2.2.2.2.2.2.2.2.2.2.2.2.2.1 x.2.2.2.2.2.2.2.2.2.2.2.2.2.2.2.1 x.2.2.2.2.2.2.2.2.2.2.2.2.2.2.2.2.1
 sent:Ax x.2.2.2.2.2.2.2.2.2.2.2.2.2.2.2.2.2
structure St (s:Ae):Prop where
 f:BZ s
 ok:Dh s
 chk:Aw s=some 0
theorem St.so {s:Ae} (h:St s):SOK s:=sok h.f h.ok
theorem St.ph {s:Ae} (h:St s):1≤BN s∧BN s≤8:=⟨h.ok.shape.p1,h.ok.shape.p2⟩
theorem St.ne {s:Ae} (h:St s):0≤Cm s∧Cm s≤24:=⟨Ap _,h.ok.shape.e⟩
theorem Q2 {p:AB} (h:E9 p):Uw p∧(-9223372036854775808≤p.2.1∧p.2.1≤9223372036854775807):=by
 have hc:=h.c;have ho:=h.o;have hn:=h.n
 refine ⟨⟨by omega,?_,fun m hm=>by have:=h.m m hm;omega⟩,by omega⟩
 unfold Aa at hn;unfold maxLen;omega
theorem XJ {s:Ae} (h:St s) {p:AB} (hp:E9 p):EH (s,p)=some (Pn.EB s p,0)∧FO s (Pn.EB s p):=by
 have hf:=Q2 hp
 refine ⟨?_,Pn.Abv h.f h.ok⟩
 rw[Pn.AcV (e:=0) h.f (fun _=>h.ok) h.chk hf.1 hf.2,if_neg (by simp)]
theorem MO {s:Ae} (h:St s) {p:AB} (hp:FO s p):E9 p:=by
 have N:=Pn.wZ h.f h.ok hp
 have hl:=hp.len
 have hph:=h.ph
 unfold BN at hph
 refine ⟨N.cyc,⟨hp.offset.1,hp.offset.2⟩,by omega,fun m hm=>?_⟩
 obtain⟨i,hi⟩:=ES hm
 obtain⟨i0,i1,_⟩:=An hi
 have hs:=hp.split i.toNat (by omega)
 have hnn:=(Pn.J7 h.f h.ok (i:=i) i0 (by omega)).1
 have e:((i.toNat:Nat):Int)=i:=by omega
 rw[e,Ep hi] at hs
 have hle:Jb p i.toNat≤p.1:=by
  rw[Pn.Qu]
  have:=Pn.aD (f:=fun i=>el p.2.2 i) (b:=1048576) (n:=0) (fun k hk=>absurd hk (by omega)) 0 (Nat.le_refl _)
  have hen:=N.ends i.toNat (by have:=N.len;unfold Aa at i1;omega)
  unfold Pn.Gu at hen
  omega
 have:=N.cyc
 omega
theorem AdH {l:List Int} {la:Int} (h0:idx l la=some 126) (h1:∀j,la<j→idx l j≠some 126):∃t,Bz l la=126::t∧tY t:=by
 obtain⟨i0,i1,_⟩:=An h0
 refine ⟨l.drop (la+1).toNat,Hc h0,fun b hb he=>?_⟩
 subst he
 obtain⟨i,hi⟩:=ES hb
 obtain⟨k0,k1,_⟩:=An hi
 refine h1 (la+1+i) (by omega) ?_
 rw[B7 k0,List.getElem?_drop] at hi
 rw[B7 (by omega),show (la+1+i).toNat=(la+1).toNat+i.toNat by omega]
 exact hi
theorem X5 {σ A:Type} {K:σ→A} {body:(σ→A)→A} (t:σ) (h:∀k,body k=k t):DM K body=K t:=h K
structure Xh (s:Ae) (lk:Cd) (rs:List Int) (td:AB) (ag:Int) (b:List Int) (lk':Cd) (rs':List Int) (td':AB) (ag':Int) (told:Bool):Prop where
 link:JI lk'
 rest:RV rs'
 plan:Na s td'
 age:0≤ag'∧ag'≤1048576
 yes:told=true→FO s td'∧ag'=0
 no:told=false→td'=td∧ag'=min (ag+1) 1048576
 more:∀all ms la,all=rs++AF b (min 8192 (Aa b))→Cz all=some (ms,(la,0))→rs'=(if 0≤la∧Aa all-la≤2048 then Bz all la else []) ∧
  (ms=[]→lk'=Oh lk []∧told=false) ∧
  (∀m c,ms=[m]→m.1=2→Du m.2.2=some (c,0)→c.1=s.1→(lk.1=true→lk.2.1<m.2.1)→told=true∧td'=Pn.EB s c.2∧lk'=Oh lk [m])
theorem Jd (n m:Int) (h0:0≤n) (h1:n≤9223372036854775806):BK (n,m)=min (n+1) m:=by
 unfold BK
 rw[DX,Am (n+1) (by omega) (by omega)]
theorem Aem {s:Ae} (h:St s) {d:List Int} {now:AE} {rg:BG} {q:Fi} {lk:Cd} {rs:List Int} {td:AB} {ag:Int} {pu:List BB} {ey:List AH} {ga:List Bi} {ca wn ti:Int} {gr bu cm:List Int} {se:Int} {ip:BY} {r:List CU×List BB×List Int×List Int×List Int} (hx:Fh s ((d,()),(now,(rg,(q,(lk,(rs,(td,(ag,(pu,(ey,(ga,(ca,(wn,(ti,(gr,(bu,(cm,se)))))))))))))))))) :
 ∃lk' rs' td' ag' told,Em (s,(((d,()),(now,(rg,(q,(lk,(rs,(td,(ag,(pu,(ey,(ga,(ca,(wn,(ti,(gr,(bu,(cm,se))))))))))))))))),(ip,r)))=some ((s,(((d,()),(now,(rg,(q,(lk',(rs',(td',(ag',(pu,(ey,(ga,(ca,(wn,(ti,(gr,(bu,(cm,se))))))))))))))))),(ip,r))),told)∧Xh s lk rs td ag ip.1 lk' rs' td' ag' told:=by
 have hlk:JI lk:=hx.link
 have hrs:RV rs:=hx.rest
 have htd:Na s td:=hx.told
 have hag:0≤ag∧ag≤1048576:=hx.age
 obtain⟨ib,ir⟩:=ip
 have hib:=Ap ib
 have hg:Bf 8192 (Aa ib)=min 8192 (Aa ib):=DX _ _
 have htk:=Ek (l:=ib) (n:=min 8192 (Aa ib)) (by omega) (by omega)
 have hrl:=hrs.1
 have hrn:=Ap rs
 obtain⟨all,hall⟩:∃all,all=rs++AF ib (min 8192 (Aa ib)):=⟨_,rfl⟩
 have hal:Aa all=Aa rs+min 8192 (Aa ib):=by rw[hall,AO,htk]
 obtain⟨la,hsc,a1,a2,a3,a4,a5,a6⟩:=lW (l:=all) (by omega)
 generalize (all.foldl Ed ([],([],(false,false)))).1=ms at hsc a5 a6
 obtain⟨lk',tk,e,hl1,hl2,hl3,hl4⟩:=wN (l:=lk) (ms:=ms) hlk a6
 unfold Em
 try simp only
 rw[hg,Af _ _ (by simp;omega),Ab _ _ (Abj (by omega) (by omega)),←hall,Ab _ _ hsc]
 try simp only
 rw[Am (Aa all-la) (by omega) (by omega)]
 obtain⟨rs',hr2⟩:∃rs',rs'=(if 0≤la∧Aa all-la≤2048 then Bz all la else []):=⟨_,rfl⟩
 have hr1:RV rs':=by
  rw[hr2]
  split
  ·next c =>
   have hd:=EN (l:=all) (n:=la) c.1 (by omega)
   exact ⟨by omega,.inr (AdH (a3 c.1) a4)⟩
  ·exact ⟨by simp[Aa],.inl rfl⟩
 rw[X5 (s,(((d,()),(now,(rg,(q,(lk,(rs',(td,(ag,(pu,(ey,(ga,(ca,(wn,(ti,(gr,(bu,(cm,se))))))))))))))))),((ib,ir),r)))]
 rotate_left
 ·intro k
  by_cases c:0≤la∧Aa all-la≤2048
  ·have hd:=EN (l:=all) (n:=la) c.1 (by omega)
   rw[Af _ _ (by simp[c.1,c.2]),Af _ _ (by simp;omega),Ab _ _ (aK (by omega)),hr2,if_pos c]
  ·rw[Ag _ _ (by
    apply Bool.eq_false_iff.2
    intro hh
    simp only[Bool.and_eq_true,decide_eq_true_eq] at hh
    exact c hh),hr2,if_neg c]
 try simp only
 rw[Ab _ _ hl1]
 have htn:=Ap tk
 refine AI (fun z:Bool×Int×BH=>z.2.1) (Aa tk) (fun z=>∃td',z.2.2=(s,(((d,()),(now,(rg,(q,(lk',(rs',(td',(ag,(pu,(ey,(ga,(ca,(wn,(ti,(gr,(bu,(cm,se))))))))))))))))),((ib,ir),r)))∧Na s td'∧(z.1=true→FO s td')∧(z.1=false→td'=td)∧(z.2.1=0→z.1=false) ∧
  (∀m c,tk=[m]→m.1=2→Du m.2.2=some (c,0)→c.1=s.1→z.2.1=1→z.1=true∧td'=Pn.EB s c.2))
  (fun R=>∃lk' rs' td' ag' told,R=some ((s,(((d,()),(now,(rg,(q,(lk',(rs',(td',(ag',(pu,(ey,(ga,(ca,(wn,(ti,(gr,(bu,(cm,se))))))))))))))))),((ib,ir),r))),told)∧Xh s lk rs td ag ib lk' rs' td' ag' told) (by omega) (by simp) htn ⟨td,rfl,htd,fun h=>(by cases h),fun _=>rfl,fun _=>rfl,fun m c _ _ _ _ hz=>(by simp at hz)⟩ (fun z hI i0 i1=>?_) (fun z hI hz=>?_)
 ·obtain⟨tl,i,t⟩:=z
  obtain⟨td',ht,h1,h2,h3,h4,h5⟩:=hI
  simp only at i0 i1 ht h1 h2 h3 h4 h5
  subst ht
  obtain⟨m,hm,hmm⟩:=Au i0 i1
  have hmo:=(hl3 m hmm).body
  obtain⟨c,ce,o1,o2⟩:=nQ (l:=m.2.2) (by omega)
  try simp only
  rw[Af _ _ (decide_eq_true i1),Ab _ _ hm,Ab _ _ o1,Am (i+1) (by omega) (by omega)]
  by_cases cc:(m.1=2∧ce=0)∧c.1=s.1
  ·have hco:=o2 cc.1.2
   obtain⟨k1,k2⟩:=XJ h hco.plan
   rw[Af _ _ (by simp[cc.1.1,cc.1.2,cc.2])]
   try simp only
   rw[Ab _ _ k1]
   refine ⟨rfl,_,rfl,.inl k2,fun _=>k2,fun hh=>(by cases hh),fun hz=>(by simp only at hz;omega),fun m' c' e1 e2 e3 e4 e5=>⟨rfl,?_⟩⟩
   simp only at e5
   have hi:i=0:=by omega
   subst hi
   rw[e1] at hm
   have:m'=m:=Option.some.inj hm
   subst this
   rw[o1] at e3
   have:=(Prod.mk.inj (Option.some.inj e3)).1
   rw[this]
  ·rw[Ag _ _ (by
    apply Bool.eq_false_iff.2
    intro hh
    simp only[Bool.and_eq_true,beq_iff_eq] at hh
    exact cc hh)]
   refine ⟨rfl,td',rfl,h1,h2,h3,fun hz=>(by simp only at hz;omega),fun m' c' e1 e2 e3 e4 e5=>?_⟩
   simp only at e5
   have hi:i=0:=by omega
   subst hi
   rw[e1] at hm
   have:m'=m:=Option.some.inj hm
   subst this
   rw[o1] at e3
   have:=Prod.mk.inj (Option.some.inj e3)
   exact absurd ⟨⟨e2,this.2⟩,by rw[this.1];exact e4⟩ cc
 ·obtain⟨tl,i,t⟩:=z
  obtain⟨td',ht,h1,h2,h3,h4,h5⟩:=hI
  simp only at hz ht h1 h2 h3 h4 h5
  subst hz ht
  try simp only
  rw[Ag _ _ (decide_eq_false (by omega)),AG,Jd ag 1048576 hag.1 (by omega)]
  have fin:∀ag',(tl=true→ag'=0)→(tl=false→ag'=min (ag+1) 1048576)→Xh s lk rs td ag ib lk' rs' td' ag' tl:=fun ag' f1 f2=>by
   refine ⟨hl2,hr1,h1,?_,fun ht=>⟨h2 ht,f1 ht⟩,fun ht=>⟨h3 ht,f2 ht⟩,fun all2 ms2 la2 g1 g2=>?_⟩
   ·cases tl with
    |true=>have:=f1 rfl;omega
    |false=>have:=f2 rfl;omega
   ·have e1:all2=all:=by rw[g1,hall]
    subst e1
    rw[hsc] at g2
    have e2:=Prod.mk.inj (Option.some.inj g2)
    have e3:=(Prod.mk.inj e2.2).1
    obtain⟨e2,_⟩:=e2
    subst e2 e3
    refine ⟨hr2,fun hnil=>?_,fun m c hone q1 q2 q3 q4=>?_⟩
    ·subst hnil
     rw[Qv hlk (fun m hm=>by cases hm) (by simp[Aa])] at hl1
     have e4:=Prod.mk.inj (Option.some.inj hl1)
     have e5:=(Prod.mk.inj e4.2).1
     refine ⟨e4.1.symm,?_⟩
     have:tk=[]:=by rw[←e5];rfl
     exact h4 (by rw[this];rfl)
    ·subst hone
     rw[Qv hlk a6 (by simp[Aa])] at hl1
     have e4:=Prod.mk.inj (Option.some.inj hl1)
     have e5:=(Prod.mk.inj e4.2).1
     have htk1:tk=[m]:=by
      rw[←e5]
      simp only[E3]
      rw[if_neg (fun hh=>by have:=q4 hh.1;omega)]
     have h6:=h5 m c htk1 q1 q2 q3 (by rw[htk1];rfl)
     exact ⟨h6.1,h6.2,e4.1.symm⟩
  cases tl with
  |true=>rw[Af _ _ rfl];exact ⟨_,_,_,_,_,rfl,fin 0 (fun _=>rfl) (fun hh=>by cases hh)⟩
  |false=>rw[Ag _ _ rfl];exact ⟨_,_,_,_,_,rfl,fin _ (fun hh=>by cases hh) (fun _=>rfl)⟩
end Go.Proofs.YtmmkfcpdfnjgjaaGreatDoor
namespace Go.Proofs.YtmmkfcpdfnjgjaaGreatDoor
open Go.Den
theorem AeQ (a b:List Int) (ha:Aa a≤1000000):∃r,CG (a,b)=some r:=by
 unfold CG
 by_cases c:Aa a=Aa b
 ·rw[Ag _ _ (by simp[c])]
  refine AI (fun i:Int=>i) (Aa a) (fun _=>True) (fun R=>∃r,R=some r) (by omega) (by omega) (Ap a) trivial (fun i _ i0 i1=>?_) (fun i _ hi=>?_)
  ·obtain⟨x,hx,_⟩:=Au i0 i1
   obtain⟨y,hy,_⟩:=Au (l:=b) i0 (by omega)
   try simp only
   rw[Af _ _ (decide_eq_true i1),Ab _ _ hx,Ab _ _ hy,Am (i+1) (by omega) (by omega)]
   by_cases d:x=y
   ·rw[Ag _ _ (by simp[d])];exact ⟨rfl,trivial⟩
   ·rw[Af _ _ (by simp[d])];exact ⟨_,rfl⟩
  ·try simp only
   rw[Ag _ _ (decide_eq_false (by omega))]
   exact ⟨_,rfl⟩
 ·rw[Af _ _ (by simp[c])]
  exact ⟨_,rfl⟩
theorem AeD (a b:AB) (ha:Aa a.2.2≤1000000):∃r,HC (a,b)=some r:=by
 unfold HC
 obtain⟨r,hr⟩:=AeQ a.2.2 b.2.2 ha
 rw[AS]
 split
 ·rw[Ab _ _ hr];exact ⟨_,rfl⟩
 ·exact ⟨_,rfl⟩
theorem Aa6 {s:Ae} (h:St s) {p:AB} (hp:Na s p):-9223372036854775808≤p.1∧p.1≤9223372036854775807:=by
 rcases hp with hp|hp
 ·have:=(MO h hp).c;omega
 ·rw[hp];simp
theorem AdU {s:Ae} (h:St s) {d:List Int} {now:AE} {rg:BG} {q:Fi} {lk:Cd} {rs:List Int} {td:AB} {ag:Int} {pu:List BB} {ey:List AH} {ga:List Bi} {ca wn ti:Int} {gr bu cm:List Int} {se:Int} {ip:BY} {w:List CU} {r:List BB×List Int×List Int×List Int} (hx:Fh s ((d,()),(now,(rg,(q,(lk,(rs,(td,(ag,(pu,(ey,(ga,(ca,(wn,(ti,(gr,(bu,(cm,se)))))))))))))))))) :
 ∃ps,Df (s,(((d,()),(now,(rg,(q,(lk,(rs,(td,(ag,(pu,(ey,(ga,(ca,(wn,(ti,(gr,(bu,(cm,se))))))))))))))))),(ip,(w,r))))=some (s,(((d,()),(now,(rg,(q,(lk,(rs,(td,(ag,(pu,(ey,(ga,(ca,(wn,(ti,(gr,(bu,(cm,se))))))))))))))))),(ip,(ps,r))))∧(ps=w∨∃e,N8 d rg.1 (td::[]) ps e):=by
 have hd:BT d:=hx.disk
 have hr:=hx.rung.mode.1
 have hp:Na s td:=hx.told
 simp only at hr
 obtain⟨ps,e,p1,p2⟩:=AeL (d:=d) (m:=rg.1) (l:=td::[]) hd hr (fun p hm=>by
  rcases List.mem_cons.1 hm with rfl|hm
  ·exact Aa6 h hp
  ·cases hm)
 unfold Df
 try simp only
 rw[Ab _ _ (P4 hd)]
 by_cases c:(((CS d).2==0)&&((CS d).1.2.1==rg.1)&&(Aa (CS d).1.2.2==1))=true
 ·rw[Af _ _ c]
  simp only[Bool.and_eq_true,beq_iff_eq] at c
  obtain⟨p,q1,q2⟩:=Au (l:=(CS d).1.2.2) (i:=0) (by omega) (by omega)
  have hk:Il (CS d).1:=by
   rcases tP hd with hk|hk
   ·exact hk.2
   ·exact absurd hk.1 (by omega)
  have hn:=(hk.plans p q2).n
  obtain⟨b,hb⟩:=AeD p td (by omega)
  rw[Ab _ _ q1,Ab _ _ hb]
  cases b with
  |true=>rw[Af _ _ rfl];exact ⟨w,rfl,.inl rfl⟩
  |false =>
   rw[Ag _ _ rfl,Ab _ _ p1]
   exact ⟨ps,rfl,.inr ⟨e,p2⟩⟩
 ·rw[Ag _ _ (Bool.eq_false_iff.2 c),Ab _ _ p1]
  exact ⟨ps,rfl,.inr ⟨e,p2⟩⟩
def E5 (s:Ae) (m:Int) (d:List Int):AV :=
 ((d,()),(KG s,(CP m,((0,0),((false,(0,0)),([],((0,(0,[])),(1048576,((AQ (Cm s) (false,(false,0))),((AQ (Cm s) (false,(0,(0,(false,0))))),((AQ (Cm s) (false,(0,(0,(0,0))))),(0,(0,(0,((AQ (BN s) 0),((AQ (BN s) 0),((AQ (BN s) 0),0)))))))))))))))))
theorem gM {s:Ae} (h:St s) {d:List Int} (hd:BT d):EZ (s,(d,()))=some (E5 s (CS d).1.2.1 d):=by
 have hdl:=hd.hi
 have ne:=h.ne;have np:=h.ph
 unfold Cm at ne;unfold BN at np
 have a1:=Js (n:=Aa s.2.2.2.2.2.1) (b:=16) ne.1 (by omega)
 have a2:=Js (n:=Aa s.2.2.2.2.2.1) (b:=40) ne.1 (by omega)
 have a3:=Js (n:=Aa s.2.2.2.2.1) (b:=8) (by omega) (by omega)
 unfold EZ
 try simp only
 rw[Ab _ _ (P4 hd),Ab _ _ (rI (fun _=>h.so) h.chk),if_neg (by simp),Ab _ _ (aK (by omega)),AG,Af _ _ a1,Af _ _ a2,Af _ _ a2,Af _ _ a3,Af _ _ a3,Af _ _ a3]
 rfl
theorem iP (m:Int):CP m=((if m=2∨m=3 then 2 else 1),(0,false)):=by
 unfold CP
 rw[AS]
 split
 ·rename_i c;rw[if_pos (by simpa using c)]
 ·rename_i c;rw[if_neg (by simpa using c)]
theorem xG (m:Int):Ld.IV (CP m)∧(CP m).2.2=false∧((CP m).1=1∨(CP m).1=2):=by
 rw[iP]
 split
 ·exact ⟨⟨by simp,by simp,fun h=>by cases h⟩,rfl,.inr rfl⟩
 ·exact ⟨⟨by simp,by simp,fun h=>by cases h⟩,rfl,.inl rfl⟩
theorem Aef {n i:Int} (h0:0≤i) (h1:i<n) (x:Int):el (AQ n x) i=x:=Ep (J6 h0 h1 x)
theorem UP {α:Type} {n:Int} {x y:α} (h:y∈AQ n x):y=x:=(List.mem_replicate.1 h).2
theorem AcZ {n:Int} (hn:0≤n):Hl n (AQ n 0) (AQ n 0) (AQ n 0) :=
 ⟨Bu hn _,Bu hn _,Bu hn _,fun i i0 i1=>by rw[Aef i0 i1];simp⟩
theorem AbO:Ej (false,(0,(0,(0,0))))=0:=by decide
theorem xU {n:Int}:Av .u32 0 n=0:=by
 unfold Av
 exact Int.zero_fdiv _
theorem aS {s:Ae} (h:St s) {d:List Int} (hd:BT d) (m:Int):Fh s (E5 s m d):=by
 have ne:=h.ne;have np:=h.ph
 refine ⟨hd,wD h.so,(xG m).1,⟨by simp[E5],by simp only[E5];unfold BN at np;omega,by simp[E5],by simp[E5]⟩,?_,⟨by simp[E5,Aa],.inl rfl⟩,.inr rfl,by simp[E5],Bu ne.1 _,fun p hp=>?_,?_,Bu ne.1 _,fun g hg=>?_,⟨by simp[E5,Ax],xU⟩,by simp[E5],by simp[E5],AcZ (by omega),by simp[E5,Ax]⟩
 ·refine ⟨?_,?_,?_⟩<;>simp[E5,Ax]
 ·simp only[E5] at hp
  rw[UP hp];exact ⟨by simp,by simp⟩
 ·simp only[E5]
  unfold Ey.Fa
  rw[if_neg (by simp),if_neg (by rw[Bu ne.1];simp[Cm]),if_pos (fun x hx=>by rw[UP hx];exact (Ey.ZV _).2 Ey.AdW)]
 ·simp only[E5] at hg
  rw[UP hg];exact ⟨AbO,by simp[Ci]⟩
def I4 (s:Ae):List Int:=AQ (Aa s.2.1) 4
theorem AbJ {s:Ae}:Ck (I4 s)=true:=by
 unfold Ck
 exact decide_eq_true fun a ha=>UP ha
theorem Ql {s:Ae}:Aa (I4 s)=Aa s.2.1:=Bu (Ap _) _
theorem zV {s:Ae} (h:St s) {x:BH} (hs:x.1=s):CK x=some ((x.1,(((x.2.1.1.1,()),x.2.1.2),x.2.2)),I4 s):=by
 subst hs
 have n1:=h.ok.shape.n1;have n2:=h.ok.shape.n2
 unfold CK EL
 simp only
 rw[if_pos ⟨n1,by omega⟩]
 rfl
theorem SH {s:Ae} (h:St s) {now:AE} {asks:List Int} (hG:DD s now) (hl:Aa asks=Aa s.2.1):Gw (s,(now,asks))=some (EA s now asks,0)∧D4 (s,(now,EA s now asks))=some (C6 s now (EA s now asks),(0,0))∧DD s (C6 s now (EA s now asks)):=by
 have n2:=h.so.n2
 have hw:=hG.may.st.n
 have hal:=Qx (s:=s) (now:=now) hw hl
 have hf:=uH h.so hG hl
 refine ⟨?_,?_,hf.2⟩
 ·rw[AbN (e:=0) (fun _=>h.so) h.chk (by omega)]
  unfold fD
  rw[if_neg (by simp),if_neg (by simpa using hG),if_neg (by simpa using hl)]
 ·rw[YC (e:=0) (fun _=>h.so) h.chk (by omega) (by unfold Aa at hal n2;unfold maxLen;omega)]
  unfold Je
  rw[if_neg (by simp),if_neg (by simpa using hG.may),if_neg (by simpa using hf.1)]
theorem Vi {s:Ae} {now:AE}:EA s now (I4 s)=I4 s:=by
 unfold EA
 rw[if_pos AbJ]
def UM (s:Ae) (now:AE) (ti se:Int) (d:List Int):AV :=
 ((d,()),(C6 s now (I4 s),(CP (CS d).1.2.1,((0,0),((false,(0,0)),([],((0,(0,[])),(1048576,((AQ (Cm s) (false,(false,0))),((AQ (Cm s) (false,(0,(0,(false,0))))),((AQ (Cm s) (false,(0,(0,(0,0))))),(0,(0,(min (ti+1) 1073741824,((AQ (BN s) 0),((AQ (BN s) 0),((AQ (BN s) 0),se)))))))))))))))))
theorem AbW {s:Ae} (h:St s) {now:AE} {ti se:Int} {d:List Int} (hd:BT d) (hG:DD s now) (ht:0≤ti) (hs:Ax se):Fh s (UM s now ti se d):=by
 have f:=aS h hd (CS d).1.2.1
 have hg:=(SH h hG (Ql (s:=s))).2.2
 rw[Vi] at hg
 exact ⟨hd,hg,f.rung,f.seq,f.link,f.rest,f.told,f.age,f.pn,f.pulse,f.eyes,f.gn,f.gaps,f.calls,f.wrong,⟨by simp only[UM];omega,by simp only[UM];omega⟩,f.cnt,hs⟩
theorem Aeq {s:Ae} (h:St s) {d:List Int} {now:AE} {rg:BG} {q:Fi} {lk:Cd} {rs:List Int} {td:AB} {ag:Int} {pu:List BB} {ey:List AH} {ga:List Bi} {ca wn ti:Int} {gr bu cm:List Int} {se:Int} {ip:BY} {w:List CU} {was:List BB} {asks lights out:List Int} (hx:Fh s ((d,()),(now,(rg,(q,(lk,(rs,(td,(ag,(pu,(ey,(ga,(ca,(wn,(ti,(gr,(bu,(cm,se)))))))))))))))))) (hw:LZ d w) :
 ∃d',BT d'∧(w=[]→d'=d)∧En (s,(((d,()),(now,(rg,(q,(lk,(rs,(td,(ag,(pu,(ey,(ga,(ca,(wn,(ti,(gr,(bu,(cm,se))))))))))))))))),(ip,(w,(was,(asks,(lights,out)))))))=some (s,(UM s now ti se d',(ip,(w,(was,(asks,(I4 s,out))))))):=by
 have hd:BT d:=hx.disk
 have hti:=hx.tick
 simp only at hti
 have hwn:=Ap w
 have hG:DD s now:=hx.now
 have g1:Bf (Ct 0 ip.2.2.2.2.1) (Aa w)=min (max 0 ip.2.2.2.2.1) (Aa w):=by rw[DX,Gi]
 have g2:Bf (Ct 0 ip.2.2.2.2.2.1) 63=min (max 0 ip.2.2.2.2.2.1) 63:=by rw[DX,Gi]
 obtain⟨tn,t0,t1,htn⟩:∃tn,0≤tn∧tn≤64∧tn=(if min (max 0 ip.2.2.2.2.1) (Aa w)=Aa w then 0 else min (max 0 ip.2.2.2.2.2.1) 63):=⟨_,by split<;>omega,by split<;>omega,rfl⟩
 have hdo:=Ad0 (d:=d) (l:=w) (whole:=min (max 0 ip.2.2.2.2.1) (Aa w)) (torn:=tn) hd hw (by omega) (by omega) t0 t1
 have hdk:=tD (d:=d) (l:=w) (whole:=min (max 0 ip.2.2.2.2.1) (Aa w)) (torn:=tn) hd hw
 refine ⟨_,hdk.1,fun e=>by rw[e,Aee],?_⟩
 unfold En
 rw[X5 tn (fun k=>by
  try simp only
  rw[g1,g2,AS,htn]
  by_cases c:min (max 0 ip.2.2.2.2.1) (Aa w)=Aa w
  ·rw[if_pos (by simpa using c),if_pos c]
  ·rw[if_neg (by simpa using c),if_neg c])]
 try simp only
 rw[g1,Ab _ _ hdo]
 try simp only
 rw[Ab _ _ (gM h hdk.1),Ab _ _ (zV h rfl)]
 have hgt:=(SH h hG (Ql (s:=s))).2.1
 rw[Vi] at hgt
 try simp only
 rw[Ab _ _ hgt,AG,Jd ti 1073741824 hti.1 (by omega)]
 rfl
end Go.Proofs.YtmmkfcpdfnjgjaaGreatDoor
namespace Go.Proofs.YtmmkfcpdfnjgjaaGreatDoor
open Go.Den
theorem tC {l:List BB} (h:Aa l≤1000):FL l=some l:=by
 unfold FL
 rw[Af _ _ (by rw[Bool.true_and];exact room_le (by omega))]
 rfl
theorem AcW {l:List Bi} (h:Aa l≤1000):Gg l=some l:=by
 unfold Gg
 rw[Af _ _ (by rw[Bool.true_and];exact room_le (by omega))]
 rfl
theorem XK {l:List Int} (h:Aa l≤1000):Et l=some l:=by
 unfold Et
 rw[Af _ _ (by rw[Bool.true_and];exact room_le (by omega))]
 rfl
def upE (eyes i:Int):Bool:=Ai .and .u32 (Av .u32 eyes i) 1==1
def puV (eyes:Int) (l:List BB):List BB:=l.mapIdx fun (i:Nat) p=>(Cn (p,(upE eyes (i:Int),2))).1
def gaV (pu:List BB) (l:List Bi):List Bi:=l.mapIdx fun (i:Nat) g=>(Gv (g,(el pu (i:Int)).1)).1
theorem tJ {eyes:Int} {l:List BB} {i:Int} {x:BB} (h:idx l i=some x):idx (puV eyes l) i=some (Cn (x,(upE eyes i,2))).1:=by
 have h0:=(An h).1
 unfold puV
 rw[MN h0,h,Option.map_some,show ((i.toNat:Nat):Int)=i by omega]
theorem tI {pu:List BB} {l:List Bi} {i:Int} {x:Bi} (h:idx l i=some x):idx (gaV pu l) i=some (Gv (x,(el pu i).1)).1:=by
 have h0:=(An h).1
 unfold gaV
 rw[MN h0,h,Option.map_some,show ((i.toNat:Nat):Int)=i by omega]
theorem WT {eyes:Int} {l:List BB}:Aa (puV eyes l)=Aa l:=Hf
theorem WR {pu:List BB} {l:List Bi}:Aa (gaV pu l)=Aa l:=Hf
theorem Ab9 {p:BB} {b:Bool} (hp:MW p):MW (Cn (p,(b,2))).1:=by
 obtain⟨u,r,n⟩:=p
 unfold MW at *
 simp only at hp
 unfold Cn
 rw[if_neg (by simp only;omega),if_neg (by simp)]
 simp only
 rw[DX]
 split<;>omega
theorem sW (n:Nat) (h:n<2 ^ 64):Ai .and .u64 (n:Int) 1=((n%2:Nat):Int):=by
 have:=Lg (x:=n) (y:=1) h (by decide)
 rw[show ((1:Nat):Int)=(1:Int) from rfl] at this
 rw[this,Nat.and_one_is_mod]
structure Ae4 (g:Bi):Prop where
 a:0≤g.2.1∧g.2.1≤1048576
 b:0≤g.2.2.1∧g.2.2.1≤1048576
 c:0≤g.2.2.2.1∧g.2.2.2.1≤1073741824
 on:g.1=true→g.2.2.1=0
 off:g.1=false→g.2.1=0
 bit:g.1=(Ai .and .u64 g.2.2.2.2 1==1)
theorem gap_iff {g:Bi}:Ej g=0↔Ae4 g:=by
 obtain⟨u,a,b,c,n⟩:=g
 unfold Ej
 simp only[DX,Gi,AS]
 constructor
 ·intro h
  split at h
  ·cases h
  rename_i h1
  split at h
  ·cases h
  rename_i h2
  split at h
  ·cases h
  rename_i h3
  split at h
  ·cases h
  rename_i h4
  simp only[Bool.or_eq_true,decide_eq_true_eq,not_or,Int.not_lt] at h1
  refine ⟨by simp only;omega,by simp only;omega,by simp only;omega,fun hu=>?_,fun hu=>?_,?_⟩
  ·subst hu;simpa using h2
  ·subst hu;simpa using h3
  ·simpa using h4
 ·rintro⟨h1,h2,h3,h4,h5,h6⟩
  simp only at h1 h2 h3 h4 h5 h6
  rw[if_neg (by simp only[Bool.or_eq_true,decide_eq_true_eq,not_or,Int.not_lt];omega),if_neg (by
   cases u with
   |true=>simp[h4 rfl]
   |false=>simp),if_neg (by
   cases u with
   |true=>simp
   |false=>simp[h5 rfl]),if_neg (by rw[←h6];simp)]
theorem Acj {x:Int} (h:Ci x):Ci (Bc .u64 x 1)∧Ai .and .u64 (Bc .u64 x 1) 1=0∧Ci (Ai .or .u64 (Bc .u64 x 1) 1)∧Ai .and .u64 (Ai .or .u64 (Bc .u64 x 1) 1) 1=1:=by
 obtain⟨k,rfl⟩:∃k:Nat,x=k:=⟨x.toNat,(Int.toNat_of_nonneg h.1).symm⟩
 have hk:k<2 ^ 64:=by unfold Ci at h;omega
 obtain⟨s1,s2,s3⟩:=Ey.tR hk
 obtain⟨o1,o2⟩:=Ey.AeF hk
 rw[o1,s1,sW _ s2,sW _ o2]
 unfold Ci
 refine ⟨by omega,by omega,by omega,by omega⟩
theorem Aej {g:Bi} {b:Bool} (hg:Xg g):Xg (Gv (g,b)).1:=by
 obtain⟨h0,hu⟩:=hg
 obtain⟨e1,e2,e3,e4⟩:=Acj hu
 have H:=gap_iff.1 h0
 obtain⟨u,x,y,c,n⟩:=g
 obtain⟨h1,h2,h3,h4,h5,h6⟩:=H
 simp only at h1 h2 h3 h4 h5 h6 hu e1 e2 e3 e4
 unfold Xg
 rw[gap_iff]
 unfold Gv
 rw[AG,h0,Ag _ _ (by rfl)]
 simp only[DX]
 rw[Am (x+1) (by omega) (by omega),Am (y+1) (by omega) (by omega),Am (c+1) (by omega) (by omega)]
 cases b with
 |false =>
  rw[Af (b:=!false) _ _ rfl]
  exact ⟨⟨by simp,by simp only;omega,by simp only;omega,fun h=>(by cases h),fun _=>rfl,by simp only;rw[e2];rfl⟩,e1⟩
 |true =>
  rw[Ag (b:=!true) _ _ rfl,AS]
  split
  ·exact ⟨⟨by simp only;omega,by simp,by simp only;omega,fun _=>rfl,fun h=>(by cases h),by simp only;rw[e4];rfl⟩,e3⟩
  ·exact ⟨⟨by simp only;omega,by simp,by simp only;omega,fun _=>rfl,fun h=>(by cases h),by simp only;rw[e4];rfl⟩,e3⟩
structure eG (s:Ae) (now:AE) (q:Fi) (ip:BY) (pu:List BB) (ey:List AH) (ca ups ca':Int):Prop where
 ok:Ax ups
 bits:∀j,AD ups j=(decide (0≤j∧j<Cm s)&&(el (puV ip.2.1 pu) j).1)
 eyes:Ey.Fa 0 s (Ey.CM s ups ey)=0
 next:Ey.RU s (Ey.CM s ups ey) ca (if G5 s now q.1=true then q.1 else -1) ca'
 calls:Ax ca'∧Av .u32 ca' (BN s)=0
theorem Ae1 {s:Ae} (h:St s) {d:List Int} {now:AE} {rg:BG} {q:Fi} {lk:Cd} {rs:List Int} {td:AB} {ag:Int} {pu:List BB} {ey:List AH} {ga:List Bi} {ca wn ti:Int} {gr bu cm:List Int} {se:Int} {ip:BY} {w:List CU} {was:List BB} {r:List Int×List Int×List Int} (hx:Fh s ((d,()),(now,(rg,(q,(lk,(rs,(td,(ag,(pu,(ey,(ga,(ca,(wn,(ti,(gr,(bu,(cm,se)))))))))))))))))) :
 ∃ups ca',ER (s,(((d,()),(now,(rg,(q,(lk,(rs,(td,(ag,(pu,(ey,(ga,(ca,(wn,(ti,(gr,(bu,(cm,se))))))))))))))))),(ip,(w,(was,r)))))=some (s,(((d,()),(now,(rg,(q,(lk,(rs,(td,(ag,(puV ip.2.1 pu,(Ey.CM s ups ey,(gaV (puV ip.2.1 pu) ga,(ca',(wn,(ti,(gr,(bu,(cm,se))))))))))))))))),(ip,(w,(pu,r)))))∧eG s now q ip pu ey ca ups ca':=by
 have ne:=h.ne;have np:=h.ph
 have hpn:Aa pu=Cm s:=hx.pn
 have hgn:Aa ga=Cm s:=hx.gn
 have hey:Ey.Fa 0 s ey=0:=hx.eyes
 have hq:UB s q:=hx.seq
 have hG:DD s now:=hx.now
 have hca:Ax ca∧Av .u32 ca (BN s)=0:=hx.calls
 obtain⟨_,hen,hem⟩:=Ey.MZ hey
 have EO:=Ey.gL h.ok
 unfold ER
 try simp only
 rw[Ab _ _ (tC (by omega)),Ab _ _ (tC (by omega)),Ab _ _ (AcW (by omega))]
 refine AI (fun z:Int×Int×BH=>z.1) (Cm s) (fun z=>∃pu' ga',z.2.2=(s,(((d,()),(now,(rg,(q,(lk,(rs,(td,(ag,(pu',(ey,(ga',(ca,(wn,(ti,(gr,(bu,(cm,se))))))))))))))))),(ip,(w,(pu,r)))))∧Aa pu'=Cm s∧Aa ga'=Cm s∧(∀j,0≤j→idx pu' j=if j<z.1 then idx (puV ip.2.1 pu) j else idx pu j)∧(∀j,0≤j→idx ga' j=if j<z.1 then idx (gaV (puV ip.2.1 pu) ga) j else idx ga j)∧Ax z.2.1∧∀j,AD z.2.1 j=(decide (0≤j∧j<z.1)&&(el (puV ip.2.1 pu) j).1))
  (fun R=>∃ups ca',R=some (s,(((d,()),(now,(rg,(q,(lk,(rs,(td,(ag,(puV ip.2.1 pu,(Ey.CM s ups ey,(gaV (puV ip.2.1 pu) ga,(ca',(wn,(ti,(gr,(bu,(cm,se))))))))))))))))),(ip,(w,(pu,r)))))∧eG s now q ip pu ey ca ups ca') (by omega) (by simp) ne.1
  ⟨pu,ga,rfl,hpn,hgn,fun j j0=>(by simp only;rw[if_neg (by omega)]),fun j j0=>(by simp only;rw[if_neg (by omega)]),by simp[Ax],fun j=>(by simp only;rw[decide_eq_false (by omega)];simp[AD])⟩ (fun z hI i0 i1=>?_) (fun z hI hz=>?_)
 ·obtain⟨i,ups,t⟩:=z
  obtain⟨pu',ga',ht,hp',hg',hpi,hgi,hu,hb⟩:=hI
  simp only at i0 i1 ht hpi hgi hu hb
  subst ht
  obtain⟨p,hp,hpm⟩:=Au (l:=pu) i0 (by omega)
  obtain⟨g,hg,hgm⟩:=Au (l:=ga) i0 (by omega)
  have e1:idx pu' i=some p:=by rw[hpi i i0,if_neg (by omega)];exact hp
  have e2:idx ga' i=some g:=by rw[hgi i i0,if_neg (by omega)];exact hg
  have e3:=tJ (eyes:=ip.2.1) hp
  have e5:el (puV ip.2.1 pu) i=(Cn (p,(upE ip.2.1 i,2))).1:=Ep e3
  have e4:=tI (pu:=puV ip.2.1 pu) hg
  rw[e5] at e4
  try simp only
  have hup:(Ai .and .u32 (Av .u32 ip.2.1 i) 1==1)=upE ip.2.1 i:=rfl
  rw[hup]
  rw[Af _ _ (decide_eq_true (by omega)),Ab _ _ e1,Ab _ _ e1,Af _ _ (decide_eq_true i0),AG,Ab _ _ e1,Ab _ _ e1,Ab _ _ e2,Ab _ _ e2]
  have e6:idx (A8 pu' i (Cn (p,(upE ip.2.1 i,2))).1) i=some (Cn (p,(upE ip.2.1 i,2))).1:=by rw[CW i0 (by omega),if_pos rfl]
  rw[Ab _ _ e6,Ab _ _ e6,AG,Ab _ _ e2,Ab _ _ e2,Ab _ _ e6,Ab _ _ e6,Am (i+1) (by omega) (by omega)]
  have lists:Aa (A8 pu' i (Cn (p,(upE ip.2.1 i,2))).1)=Cm s∧Aa (A8 ga' i (Gv (g,(Cn (p,(upE ip.2.1 i,2))).1.1)).1)=Cm s∧(∀j,0≤j→idx (A8 pu' i (Cn (p,(upE ip.2.1 i,2))).1) j=if j<i+1 then idx (puV ip.2.1 pu) j else idx pu j)∧(∀j,0≤j→idx (A8 ga' i (Gv (g,(Cn (p,(upE ip.2.1 i,2))).1.1)).1) j=if j<i+1 then idx (gaV (puV ip.2.1 pu) ga) j else idx ga j):=by
   refine ⟨by rw[Bw];exact hp',by rw[Bw];exact hg',fun j j0=>?_,fun j j0=>?_⟩
   ·rw[CW i0 (by omega),hpi j j0]
    by_cases c:j=i
    ·rw[if_pos c,if_pos (by omega),c,e3]
    ·rw[if_neg c]
     by_cases c2:j<i
     ·rw[if_pos c2,if_pos (by omega)]
     ·rw[if_neg c2,if_neg (by omega)]
   ·rw[CW i0 (by omega),hgi j j0]
    by_cases c:j=i
    ·rw[if_pos c,if_pos (by omega),c,e4]
    ·rw[if_neg c]
     by_cases c2:j<i
     ·rw[if_pos c2,if_pos (by omega)]
     ·rw[if_neg c2,if_neg (by omega)]
  obtain⟨k1,k2,k3,k4⟩:=lists
  by_cases up:(Cn (p,(upE ip.2.1 i,2))).1.1=true
  ·rw[Af _ _ up,Af _ _ (decide_eq_true i0)]
   obtain⟨o1,o2⟩:=Ey.eP (m:=ups) hu i0 (by omega)
   refine ⟨rfl,_,_,rfl,k1,k2,k3,k4,o1,fun j=>?_⟩
   simp only
   rw[o2,hb]
   by_cases c:i=j
   ·subst c
    rw[e5,up,decide_eq_false (by omega),decide_eq_true (p:=i=i) rfl,decide_eq_true (by omega)]
    rfl
   ·rw[decide_eq_false (p:=i=j) c,Bool.or_false]
    congr 1
    exact decide_eq_decide.2 (by omega)
  ·rw[Ag _ _ (Bool.eq_false_iff.2 up)]
   refine ⟨rfl,_,_,rfl,k1,k2,k3,k4,hu,fun j=>?_⟩
   simp only
   rw[hb]
   by_cases c:i=j
   ·subst c
    rw[e5,Bool.eq_false_iff.2 up,Bool.and_false,Bool.and_false]
   ·congr 1
    exact decide_eq_decide.2 (by omega)
 ·obtain⟨i,ups,t⟩:=z
  obtain⟨pu',ga',ht,hp',hg',hpi,hgi,hu,hb⟩:=hI
  simp only at hz ht hpi hgi hu hb
  subst hz ht
  have ep:pu'=puV ip.2.1 pu:=GO (by rw[WT];omega) fun j j0 j1=>by rw[hpi j j0,if_pos (by omega)]
  have eg:ga'=gaV (puV ip.2.1 pu) ga:=GO (by rw[WR];omega) fun j j0 j1=>by rw[hgi j j0,if_pos (by omega)]
  subst ep eg
  have hall:Ey.uK 0 s ups ey=(Ey.CM s ups ey,0):=by
   unfold Ey.uK
   rw[if_neg (by rw[hey];simp)]
  have hfull:Qn 0 s now q.1=(G5 s now q.1,0):=by
   have:=hq.p0;have:=hq.p1
   unfold Qn
   rw[if_neg (by simp),if_neg (by rw[hG.may.st.n];simp),if_neg (by omega)]
  have hask:Ey.Fa 0 s (Ey.CM s ups ey)=0:=by
   unfold Ey.Fa
   rw[if_neg (by simp),if_neg (by unfold Ey.CM;rw[Hf,hen];simp),if_pos fun x hx=>?_]
   obtain⟨j,hj⟩:=ES hx
   obtain⟨j0,j1,_⟩:=An hj
   obtain⟨y,hy,hym⟩:=Au (l:=ey) j0 (by unfold Ey.CM at j1;rw[Hf] at j1;exact j1)
   rw[Ey.iI hy] at hj
   rw[←Option.some.inj hj]
   exact (Ey.ZV _).2 (Ey.Acl _ (hem y hym) EO.heal.2).1
  have hlen:Aa (Ey.CM s ups ey)≤1000:=by
   unfold Ey.CM;rw[Hf,hen];unfold Cm at ne;omega
  try simp only
  rw[Ag _ _ (decide_eq_false (by omega)),Ab _ _ (Ey.AcL (e:=0) (fun _=>EO) h.chk (by unfold Cm at ne;omega) hu),hall]
  try simp only
  rw[Ab _ _ (eR h.f (fun _=>h.so) h.chk),hfull]
  try simp only
  have fin:∀g,(g=if G5 s now q.1=true then q.1 else -1)→∃ca',Es (s,(ca,(Ey.CM s ups ey,g)))=some (ca',0)∧eG s now q ip pu ey ca ups ca':=fun g hg=>by
   have hg2:-1≤g∧g<BN s:=by
    have:=hq.p0;have:=hq.p1
    unfold BN at *
    rw[hg];split<;>omega
   obtain⟨n,n1,n2⟩:=Ey.XE (s:=s) (l:=Ey.CM s ups ey) (e:=0) (c:=ca) (g:=g) (fun _=>EO) h.chk hlen hca.1
   rw[hask,if_neg (by simp)] at n1
   have:Ey.P7 s ca g=0:=by
    unfold Ey.P7
    have h2:=hca.2
    unfold BN at h2 hg2
    rw[if_neg (by rw[h2];simp),if_neg (by omega)]
   rw[this,if_neg (by simp)] at n1
   have n3:=n2 hask
   refine ⟨n,n1,hu,hb,hask,by rw[←hg];exact n3,n3.1,?_⟩
   rw[W8 n3.1 (by omega) (by omega)]
   intro p hp
   refine Bool.eq_false_iff.2 fun hbp=>?_
   rcases ((n3.2 p).1 hbp).2 with c1|c1
   ·have:=((W8 hca.1 (by omega) (by omega)).1 hca.2) p hp
    rw[this] at c1;cases c1
   ·rcases c1 with ⟨ph,hph,_⟩|⟨k,e,x,hk,_,he,_⟩
    ·have:=(An hph).2.1
     unfold BN at hp;omega
    ·have:=EO.eyes k e hk
     unfold BN at hp;omega
  by_cases c:G5 s now q.1=true
  ·rw[Af _ _ c]
   obtain⟨ca',c1,c2⟩:=fin q.1 (by rw[if_pos c])
   rw[Ab _ _ c1]
   exact ⟨ups,ca',rfl,c2⟩
  ·rw[Ag _ _ (Bool.eq_false_iff.2 c)]
   obtain⟨ca',c1,c2⟩:=fin (-1) (by rw[if_neg c])
   rw[Ab _ _ c1]
   exact ⟨ups,ca',rfl,c2⟩
end Go.Proofs.YtmmkfcpdfnjgjaaGreatDoor
namespace Go.Proofs.YtmmkfcpdfnjgjaaGreatDoor
open Go.Den
def Nd (now:AE):List Int:=now.1.map (·.1)
def wnV (s:Ae) (now:AE) (wn:Int) (back:List Int):Int :=
 if (Ld.UQ 0 s wn (Nd now) back).2≠0 then min (wn+1) 1048576 else (Ld.UQ 0 s wn (Nd now) back).1
def JO (s:Ae) (td:AB) (ag wn':Int) (rd:BF×Int) (rot well:Bool):DE :=
 ((!DG td&&decide (ag<s.2.2.2.2.2.2.1)),((!rot&&rd.2==0&&decide (0<Aa rd.1.2.2)),(well,!decide (s.2.2.2.2.2.2.2.1≤wn'))))
theorem AcD {s:Ae} {now:AE} {wn:Int} {back:List Int} (hw:0≤wn∧wn≤1048576):0≤wnV s now wn back∧wnV s now wn back≤1048576:=by
 unfold wnV
 split
 ·omega
 ·unfold Ld.UQ
  rw[if_neg (by simp),if_neg (by omega)]
  split
  ·simp
  ·simp only;omega
theorem Ac4 {s:Ae} (h:St s) {d:List Int} {now:AE} {rg:BG} {q:Fi} {lk:Cd} {rs:List Int} {td:AB} {ag:Int} {pu:List BB} {ey:List AH} {ga:List Bi} {ca wn ti:Int} {gr bu cm:List Int} {se:Int} {ip:BY} {r:List CU×List BB×List Int×List Int×List Int} (hx:Fh s ((d,()),(now,(rg,(q,(lk,(rs,(td,(ag,(pu,(ey,(ga,(ca,(wn,(ti,(gr,(bu,(cm,se)))))))))))))))))) (hb:ip.2.2.1.length≤maxLen) :
 ∃well,DY (s,(((d,()),(now,(rg,(q,(lk,(rs,(td,(ag,(pu,(ey,(ga,(ca,(wn,(ti,(gr,(bu,(cm,se))))))))))))))))),(ip,r)))=some ((s,(((d,()),(now,(rg,(q,(lk,(rs,(td,(ag,(pu,(ey,(ga,(ca,(wnV s now wn ip.2.2.1,(ti,(gr,(bu,(cm,se))))))))))))))))),(ip,r))),(JO s td ag (wnV s now wn ip.2.2.1) (CS d) ip.2.2.2.2.2.2 well,(CS d).1)):=by
 have hd:BT d:=hx.disk
 have hG:DD s now:=hx.now
 have hw:0≤wn∧wn≤1048576:=hx.wrong
 have hey:Ey.Fa 0 s ey=0:=hx.eyes
 have EO:=Ey.gL h.ok
 have ne:=h.ne
 obtain⟨_,hen,_⟩:=Ey.MZ hey
 have hn:=hG.may.st.n
 have hn2:=h.so.n2
 have hwn:=AcD (s:=s) (now:=now) (back:=ip.2.2.1) hw
 obtain⟨well,w1,_⟩:=Ey.nO (s:=s) (l:=ey) (e:=0) (fun _=>EO) h.chk (by unfold Cm at ne;omega)
 rw[hey,if_neg (by simp)] at w1
 have hwl:(Nd now).length≤maxLen:=by
  have:=Jc (l:=now.1) (f:=fun x=>x.1)
  unfold Nd
  unfold Aa at this hn hn2;unfold maxLen;omega
 have hnx:=Ld.uR (s:=s) (n:=wn) (e:=0) (lit:=Nd now) (seen:=ip.2.2.1) h.chk hwl hb
 refine ⟨well,?_⟩
 unfold DY
 refine AI (fun z:List Int×Int=>z.2) (Aa now.1) (fun z=>z.1=(Nd now).take z.2.toNat)
  (fun R=>R=some ((s,(((d,()),(now,(rg,(q,(lk,(rs,(td,(ag,(pu,(ey,(ga,(ca,(wnV s now wn ip.2.2.1,(ti,(gr,(bu,(cm,se))))))))))))))))),(ip,r))),(JO s td ag (wnV s now wn ip.2.2.1) (CS d) ip.2.2.2.2.2.2 well,(CS d).1))) (by omega) (by simp) (Ap _) rfl (fun z hI i0 i1=>?_) (fun z hI hz=>?_)
 ·obtain⟨l,i⟩:=z
  simp only at hI i0 i1
  obtain⟨w,hw1,_⟩:=Au (l:=now.1) i0 i1
  have hll:Aa l≤i:=by rw[hI];unfold Aa;rw[List.length_take];omega
  try simp only
  rw[Af _ _ (decide_eq_true i1),Ab _ _ hw1,Af _ _ (bW (by omega)),Am (i+1) (by omega) (by omega)]
  refine ⟨rfl,?_⟩
  simp only
  have h1:idx (Nd now) i=some w.1:=by unfold Nd;rw[Pt,hw1];rfl
  rw[B7 i0] at h1
  rw[hI,show (i+1).toNat=i.toNat+1 by omega,List.take_add_one,h1]
  rfl
 ·obtain⟨l,i⟩:=z
  simp only at hI hz
  have hl:l=Nd now:=by
   rw[hI]
   refine List.take_of_length_le ?_
   unfold Nd;rw[List.length_map]
   unfold Aa at hz;omega
  subst hz hl
  try simp only
  rw[Ag _ _ (decide_eq_false (by omega)),Ab _ _ hnx]
  rw[X5 (wnV s now wn ip.2.2.1) (fun k=>by
   unfold wnV
   try simp only
   rw[AS]
   by_cases c:(Ld.UQ 0 s wn (Nd now) ip.2.2.1).2=0
   ·rw[if_neg (by simp[c]),if_neg (by simpa using c)]
   ·rw[if_pos (by simpa using c),if_pos c,AG,Jd wn 1048576 hw.1 (by omega)])]
  have hla:=Ld.Adi (s:=s) (n:=wnV s now wn ip.2.2.1) (e:=0) h.chk
  have hlb:Ld.X7 0 s (wnV s now wn ip.2.2.1)=(decide (s.2.2.2.2.2.2.2.1≤wnV s now wn ip.2.2.1),0):=by
   unfold Ld.X7
   rw[if_neg (by simp),if_neg (by omega)]
  rw[hlb] at hla
  try simp only
  rw[Ab _ _ hla,Ab _ _ (P4 hd),Ab _ _ w1,AG]
  unfold JO
  show Lb _ (Step.done _)
  show (_:Option (BH×DE×BF)) = _
  cases DG td<;>cases ip.2.2.2.2.2.2<;>cases ((CS d).2==0)<;>rfl
end Go.Proofs.YtmmkfcpdfnjgjaaGreatDoor
namespace Go.Proofs.YtmmkfcpdfnjgjaaGreatDoor
open Go.Den
theorem Aek {s:Ae} (h:St s) {l:AV} {r:BY×List CU×List BB×List Int×List Int×List Int} (hg:Aa l.2.2.2.2.2.2.2.2.2.2.1=Cm s) :
 ∃g,El (s,(((l.1.1,()),l.2),r))=some g∧Ax g:=by
 have ne:=h.ne;have np:=h.ph
 unfold Cm at ne hg;unfold BN at np
 unfold El
 refine AI (fun z:Int×Int=>z.2) (Aa s.2.2.2.2.1) (fun z=>Ax z.1) (fun R=>∃g,R=some g∧Ax g) (by omega) (by simp) (by omega) (by simp[Ax]) (fun z hI i0 i1=>?_) (fun z hI hz=>?_)
 ·obtain⟨m,i⟩:=z
  simp only at hI i0 i1
  obtain⟨ph,hph,_⟩:=Au (l:=s.2.2.2.2.1) i0 i1
  try simp only
  rw[Af _ _ (decide_eq_true i1),Ab _ _ hph]
  refine AI (fun z:Bool×Int=>z.2) (Aa s.2.2.2.2.2.1) (fun _=>True) (fun R=>C5 (fun z:Int×Int=>z.2) (fun z=>Ax z.1) (fun R=>∃g,R=some g∧Ax g) i R) (by omega) (by simp) (by omega) trivial (fun z _ j0 j1=>?_) (fun z _ hz=>?_)
  ·obtain⟨b,j⟩:=z
   simp only at j0 j1
   obtain⟨e,he,_⟩:=Au (l:=s.2.2.2.2.2.1) j0 j1
   obtain⟨g,hgg,_⟩:=Au (l:=l.2.2.2.2.2.2.2.2.2.2.1) j0 (by omega)
   try simp only
   rw[Af _ _ (decide_eq_true j1),Ab _ _ he,Ab _ _ hgg,AG,Am (j+1) (by omega) (by omega)]
   exact ⟨rfl,trivial⟩
  ·obtain⟨b,j⟩:=z
   simp only at hz
   try simp only
   rw[Ag _ _ (decide_eq_false (by omega)),Am (i+1) (by omega) (by omega)]
   cases b with
   |true =>
    rw[Af _ _ rfl,Af _ _ (decide_eq_true i0)]
    exact ⟨rfl,(Ey.eP hI i0 (by omega)).1⟩
   |false =>
    rw[Ag _ _ rfl]
    exact ⟨rfl,hI⟩
 ·obtain⟨m,i⟩:=z
  simp only at hI hz
  try simp only
  rw[Ag _ _ (decide_eq_false (by omega))]
  exact ⟨m,rfl,hI⟩
theorem tT {s:Ae} (h:St s) {p:AB} {k:Nat} {u:Int} (hk:k<Pn.nV s):0≤Pn.UT s p k u∧Pn.UT s p k u<BN s:=by
 have:=(Pn.Yn (s:=s) h.ok.shape (k:=(k:Int)) (by omega) (by unfold Pn.nV at hk;unfold Aa;omega)).2
 have hk':(k:Int)<Aa s.2.2.2.2.1:=by unfold Pn.nV at hk;unfold Aa;omega
 unfold Pn.UT BN
 split
 ·rw[this];split<;>omega
 ·omega
theorem bI {s:Ae} (h:St s) {p:AB} (hp:FO s p) {t:Int} (t0:0≤t) (t1:t≤1073741824) :
 ∃k:Nat,k<Pn.nV s∧Pn.RT p k (Pn.JR p t)∧G7 (s,(p,t))=some ((k:Int),(Pn.JR p t-Pn.Gu p k,0))∧D3 (s,(p,t))=some (Pn.UT s p k (Pn.JR p t-Pn.Gu p k),0):=by
 have hf:=(Q2 (MO h hp)).1
 obtain⟨k,k1,k2,k3⟩:=Pn.Ae8 h.f h.ok h.chk hf hp t0 t1
 exact ⟨k,k1,k2,k3,Pn.Acp h.f h.ok h.chk (Pn.wZ h.f h.ok hp) k1 k3⟩
theorem sZ {s:Ae} (h:St s) {p:Int} (p0:0≤p) (p1:p<BN s):Da (s,p)=some (GY s p,0):=by
 rw[yJ h.f (fun _=>h.so) h.chk]
 unfold eJ BN at *
 rw[if_neg (by simp),if_neg (by omega)]
structure Acq (s:Ae) (now:AE) (rg:BG) (q:Fi) (td:AB) (ca ti:Int) (kp:BF) (q':Fi) (asks:List Int):Prop where
 seq:UB s q'
 len:Aa asks=Aa s.2.1
 dark:rg.1=0→q'=q∧asks=I4 s
 lit:rg.1≠0→asks=GY s q'.1
 alone:rg.1=1→∃g,Ax g∧RU s q (G5 s now q.1) ca g q'
 stored:rg.1=2→∃p,idx kp.2.2 0=some p∧D3 (s,(Pn.EB s p,ti))=some (q'.1,0)
 master:rg.1=3→D3 (s,(td,ti))=some (q'.1,0)
theorem AeO {s:Ae} (h:St s) {d:List Int} {now:AE} {rg:BG} {q:Fi} {lk:Cd} {rs:List Int} {td:AB} {ag:Int} {pu:List BB} {ey:List AH} {ga:List Bi} {ca wn ti:Int} {gr bu cm:List Int} {se:Int} {ip:BY} {kp:BF} {w:List CU} {was:List BB} {asks lights out:List Int} (hx:Fh s ((d,()),(now,(rg,(q,(lk,(rs,(td,(ag,(pu,(ey,(ga,(ca,(wn,(ti,(gr,(bu,(cm,se)))))))))))))))))) (h2:rg.1=2→∃p,idx kp.2.2 0=some p∧E9 p) (h3:rg.1=3→FO s td) :
 ∃q' asks',EP ((s,(((d,()),(now,(rg,(q,(lk,(rs,(td,(ag,(pu,(ey,(ga,(ca,(wn,(ti,(gr,(bu,(cm,se))))))))))))))))),(ip,(w,(was,(asks,(lights,out))))))),kp)=some (s,(((d,()),(now,(rg,(q',(lk,(rs,(td,(ag,(pu,(ey,(ga,(ca,(wn,(ti,(gr,(bu,(cm,se))))))))))))))))),(ip,(w,(was,(asks',(lights,out)))))))∧Acq s now rg q td ca ti kp q' asks':=by
 have hm:=hx.rung.mode
 have hq:UB s q:=hx.seq
 have hG:DD s now:=hx.now
 have hca:Ax ca:=hx.calls.1
 have hti:=hx.tick
 simp only at hm hti
 have al:∀p,Aa (GY s p)=Aa s.2.1:=fun p=>bE s p
 unfold EP
 try simp only
 by_cases c0:rg.1=0
 ·rw[Af _ _ (by simp[c0]),Ab _ _ (zV h rfl)]
  refine ⟨q,I4 s,rfl,hq,Ql,fun _=>⟨rfl,rfl⟩,fun hh=>absurd c0 hh,fun hh=>?_,fun hh=>?_,fun hh=>?_⟩<;>omega
 rw[Ag _ _ (by simpa using c0)]
 by_cases c1:rg.1=1
 ·obtain⟨g,g1,g2⟩:=Aek h (l:=((d,()),(now,(rg,(q,(lk,(rs,(td,(ag,(pu,(ey,(ga,(ca,(wn,(ti,(gr,(bu,(cm,se)))))))))))))))))) (r:=(ip,(w,(was,(asks,(lights,out)))))) hx.gn
  obtain⟨q',n1,p0,p1,s0,s1,n2⟩:=Yn (s:=s) (q:=q) (now:=now) (calls:=ca) (gaps:=g) h.f h.ok h.chk hq hG.may.st.n hca g2
  rw[Af _ _ (by simp[c1]),Ab _ _ g1,Ab _ _ n2]
  refine ⟨q',GY s q'.1,rfl,⟨p0,p1,s0,s1⟩,al _,fun hh=>absurd hh c0,fun _=>rfl,fun _=>⟨g,g2,n1⟩,fun hh=>?_,fun hh=>?_⟩<;>omega
 rw[Ag _ _ (by simpa using c1)]
 by_cases c2:rg.1=2
 ·obtain⟨p,e1,e2⟩:=h2 c2
  obtain⟨e3,e4⟩:=XJ h e2
  obtain⟨k,k1,_,_,k4⟩:=bI h e4 hti.1 hti.2
  obtain⟨w0,w1⟩:=tT h (p:=Pn.EB s p) (u:=Pn.JR (Pn.EB s p) ti-Pn.Gu (Pn.EB s p) k) k1
  rw[Af _ _ (by simp[c2]),Ab _ _ e1,Ab _ _ e3,Ab _ _ k4,Ab _ _ (sZ h w0 w1)]
  refine ⟨(_,0),GY s _,rfl,⟨w0,w1,by simp,by simp⟩,al _,fun hh=>absurd hh c0,fun _=>rfl,fun hh=>absurd hh c1,fun _=>⟨p,e1,k4⟩,fun hh=>?_⟩
  omega
 rw[Ag _ _ (by simpa using c2)]
 have c3:rg.1=3:=by omega
 have hp:=h3 c3
 obtain⟨k,k1,_,_,k4⟩:=bI h hp hti.1 hti.2
 obtain⟨w0,w1⟩:=tT h (p:=td) (u:=Pn.JR td ti-Pn.Gu td k) k1
 rw[Ab _ _ k4,Ab _ _ (sZ h w0 w1)]
 exact ⟨(_,0),GY s _,rfl,⟨w0,w1,by simp,by simp⟩,al _,fun hh=>absurd hh c0,fun _=>rfl,fun hh=>absurd hh c1,fun hh=>absurd hh c2,fun _=>k4⟩
end Go.Proofs.YtmmkfcpdfnjgjaaGreatDoor
namespace Go.Proofs.YtmmkfcpdfnjgjaaGreatDoor
open Go.Den
theorem AbI {a b:Int} (h0:0≤a) (h1:a≤b) (b0:1≤b) (h2:b≤1048576):∃v,I3 (Ip a,Ip b)=some (v,0)∧0≤v∧v≤65536:=by
 have hof:∀n:Int,0≤n→n≤1048576→Ip n=n*65536:=fun n n0 n1=>by
  unfold Ip
  rw[Gi,DX,show min (max n (-1073741824)) 1073741824=n by omega,Am _ (by omega) (by omega)]
 have hst:∀n:Int,0≤n→n≤70368744177664→Hd n=n:=fun n n0 n1=>by
  unfold Hd
  rw[Gi,DX];omega
 have hb:(b*65536:Int)≠0:=by omega
 have ha0:0≤a*65536*65536:=by omega
 have hle:a*65536*65536/(b*65536)≤65536:=by
  refine Int.ediv_le_of_le_mul (by omega) ?_
  omega
 have h00:0≤a*65536*65536/(b*65536):=Int.ediv_nonneg ha0 (by omega)
 refine ⟨a*65536*65536/(b*65536),?_,h00,hle⟩
 unfold I3
 rw[hof a h0 (by omega),hof b (by omega) h2]
 simp only
 rw[AG,AG,hst _ (by omega) (by omega),hst _ (by omega) (by omega),Am (a*65536*65536) (by omega) (by omega),Pn.Acz ha0 (by omega) (by omega),Ag _ _ (by simpa using hb),Af (b:=!(b*65536==0)) _ _ (by simpa using hb),Af (b:=!(b*65536==0)) _ _ (by simpa using hb),Ag _ _ (by
  rw[decide_eq_false (show ¬a*65536*65536<0 by omega),decide_eq_false (show ¬b*65536<0 by omega)]
  simp),AG,hst _ h00 (by omega)]
def xZ (x12:Int×BH):Option BH :=
(Ay (H3 x12.2.2.1.2.2.2.2.2.2.2.2.2.2.2.2.2.2.2.2.2) (fun y =>
(cnd (!(x12.2.1.2.2.2.2.2.2.2.2.2.1==0))
(cnd ((!((FX (wr .i64 (x12.2.2.1.2.2.2.2.2.2.2.2.2.2.2.2.2.1+1)) x12.2.1.2.2.2.2.2.2.2.2.2.1)==0))||(!(y.2==0)))
(Ay (BK (x12.2.2.1.2.2.2.2.2.2.2.2.2.2.2.2.2.1,1073741824)) (fun y1 =>
(some (x12.2.1,(((x12.2.2.1.1.1,()),(x12.2.2.1.2.1,(x12.2.2.1.2.2.1,(x12.2.2.1.2.2.2.1,(x12.2.2.1.2.2.2.2.1,(x12.2.2.1.2.2.2.2.2.1,(x12.2.2.1.2.2.2.2.2.2.1,(x12.2.2.1.2.2.2.2.2.2.2.1,(x12.2.2.1.2.2.2.2.2.2.2.2.1,(x12.2.2.1.2.2.2.2.2.2.2.2.2.1,(x12.2.2.1.2.2.2.2.2.2.2.2.2.2.1,(x12.2.2.1.2.2.2.2.2.2.2.2.2.2.2.1,(x12.2.2.1.2.2.2.2.2.2.2.2.2.2.2.2.1,(y1,x12.2.2.1.2.2.2.2.2.2.2.2.2.2.2.2.2.2)))))))))))))),x12.2.2.2)))))
(iter none (fun x13 =>
(cnd (decide (x13.1<(Aa x12.2.1.2.2.2.2.1)))
(Ad (idx x13.2.2.2.1.2.2.2.2.2.2.2.2.2.2.2.2.2.2.1 x13.1) (.done none) (fun _ =>
(Ad (idx x13.2.2.2.1.2.2.2.2.2.2.2.2.2.2.2.2.2.2.1 x13.1) (.done none) (fun x15 =>
(Ad (idx x13.2.2.2.1.2.2.2.2.2.2.2.2.2.2.2.2.2.2.2.1 x13.1) (.done none) (fun _ =>
(Ad (idx x13.2.2.2.1.2.2.2.2.2.2.2.2.2.2.2.2.2.2.2.1 x13.1) (.done none) (fun x17 =>
(Ad (idx x13.2.2.2.1.2.2.2.2.2.2.2.2.2.2.2.2.2.2.2.2.1 x13.1) (.done none) (fun _ =>
(Ad (idx x13.2.2.2.1.2.2.2.2.2.2.2.2.2.2.2.2.2.2.2.2.1 x13.1) (.done none) (fun x19 =>
(Ay (Ip (Bf x15 (wr .i64 (x17+x19)))) (fun y1 =>
(Ad (idx x13.2.2.2.1.2.2.2.2.2.2.2.2.2.2.2.2.2.2.1 x13.1) (.done none) (fun _ =>
(Ad (idx x13.2.2.2.1.2.2.2.2.2.2.2.2.2.2.2.2.2.2.1 x13.1) (.done none) (fun x21 =>
(Ay (Ip (Ct 1 x21)) (fun y2 =>
(Ad (I3 (y1,y2)) (.done none) (fun x22 =>
(cnd (true&&(AN ((Aa x13.2.1.2.2.2)+(Aa (x22.1::[]))) 8))
(Ad (idx x13.2.2.2.1.2.2.2.2.2.2.2.2.2.2.2.2.2.2.1 x13.1) (.done none) (fun _ =>
(Ad (idx x13.2.2.2.1.2.2.2.2.2.2.2.2.2.2.2.2.2.2.1 x13.1) (.done none) (fun _ =>
(Ad (idx x13.2.2.2.1.2.2.2.2.2.2.2.2.2.2.2.2.2.2.2.1 x13.1) (.done none) (fun _ =>
(Ad (idx x13.2.2.2.1.2.2.2.2.2.2.2.2.2.2.2.2.2.2.2.1 x13.1) (.done none) (fun _ =>
(Ad (idx x13.2.2.2.1.2.2.2.2.2.2.2.2.2.2.2.2.2.2.2.2.1 x13.1) (.done none) (fun _ =>
(Ad (idx x13.2.2.2.1.2.2.2.2.2.2.2.2.2.2.2.2.2.2.2.2.1 x13.1) (.done none) (fun _ =>
(.next ((wr .i64 (x13.1+1)),((x13.2.1.1,(x13.2.1.2.1,(x13.2.1.2.2.1,(x13.2.1.2.2.2++(x22.1::[]))))),(x13.2.2.1,(((x13.2.2.2.1.1.1,()),(x13.2.2.2.1.2.1,(x13.2.2.2.1.2.2.1,(x13.2.2.2.1.2.2.2.1,(x13.2.2.2.1.2.2.2.2.1,(x13.2.2.2.1.2.2.2.2.2.1,(x13.2.2.2.1.2.2.2.2.2.2.1,(x13.2.2.2.1.2.2.2.2.2.2.2.1,(x13.2.2.2.1.2.2.2.2.2.2.2.2.1,(x13.2.2.2.1.2.2.2.2.2.2.2.2.2.1,(x13.2.2.2.1.2.2.2.2.2.2.2.2.2.2.1,(x13.2.2.2.1.2.2.2.2.2.2.2.2.2.2.2.1,(x13.2.2.2.1.2.2.2.2.2.2.2.2.2.2.2.2.1,(x13.2.2.2.1.2.2.2.2.2.2.2.2.2.2.2.2.2.1,((A8 x13.2.2.2.1.2.2.2.2.2.2.2.2.2.2.2.2.2.2.1 x13.1 0),((A8 x13.2.2.2.1.2.2.2.2.2.2.2.2.2.2.2.2.2.2.2.1 x13.1 0),((A8 x13.2.2.2.1.2.2.2.2.2.2.2.2.2.2.2.2.2.2.2.2.1 x13.1 0),x13.2.2.2.1.2.2.2.2.2.2.2.2.2.2.2.2.2.2.2.2.2))))))))))))))))),x13.2.2.2.2)))))))))))))))))
(.done none))))))))))))))))))))))))
(.done (Ad (Eb x13.2.1) none (fun x14 =>
(Ad (FM (3,(y.1,x14.1))) none (fun x15 =>
(Ay (BK (x13.2.2.2.1.2.2.2.2.2.2.2.2.2.2.2.2.2.1,1073741824)) (fun y1 =>
(some (x13.2.2.1,(((x13.2.2.2.1.1.1,()),(x13.2.2.2.1.2.1,(x13.2.2.2.1.2.2.1,(x13.2.2.2.1.2.2.2.1,(x13.2.2.2.1.2.2.2.2.1,(x13.2.2.2.1.2.2.2.2.2.1,(x13.2.2.2.1.2.2.2.2.2.2.1,(x13.2.2.2.1.2.2.2.2.2.2.2.1,(x13.2.2.2.1.2.2.2.2.2.2.2.2.1,(x13.2.2.2.1.2.2.2.2.2.2.2.2.2.1,(x13.2.2.2.1.2.2.2.2.2.2.2.2.2.2.1,(x13.2.2.2.1.2.2.2.2.2.2.2.2.2.2.2.1,(x13.2.2.2.1.2.2.2.2.2.2.2.2.2.2.2.2.1,(y1,(x13.2.2.2.1.2.2.2.2.2.2.2.2.2.2.2.2.2.2.1,(x13.2.2.2.1.2.2.2.2.2.2.2.2.2.2.2.2.2.2.2.1,(x13.2.2.2.1.2.2.2.2.2.2.2.2.2.2.2.2.2.2.2.2.1,y.1))))))))))))))))),(x13.2.2.2.2.1,(x13.2.2.2.2.2.1,(x13.2.2.2.2.2.2.1,(x13.2.2.2.2.2.2.2.1,(x13.2.2.2.2.2.2.2.2.1,x15.1))))))))))))))))) AA ((0:Int),((x12.2.1.1,(x12.2.2.1.2.2.1.1,(x12.2.2.1.2.2.2.2.2.2.2.2.2.2.2.2.2.1,[]))),(x12.2.1,(((x12.2.2.1.1.1,()),x12.2.2.1.2),x12.2.2.2))))))
 none)))
structure Pa (s:Ae) (rg:BG) (ti se:Int) (out:List Int) (gr' bu' cm':List Int) (se':Int) (out':List Int):Prop where
 cnt:Hl (BN s) gr' bu' cm'
 sent:Ax se'
 off:((ti+1).tmod s.2.2.2.2.2.2.2.2.2.1≠0∨se=4294967295)→out'=out∧se'=se
 on:(ti+1).tmod s.2.2.2.2.2.2.2.2.2.1=0→se≠4294967295→se'=se+1∧∃r:Gp,r.1=s.1∧r.2.1=rg.1∧r.2.2.1=ti∧Aa r.2.2.2=BN s∧(∀m∈r.2.2.2,0≤m∧m≤65536)∧eF r∧out'=GG (3,(se',BD (F1 r)))
theorem Aby {n:Int} {gr bu cm:List Int} (h:Hl n gr bu cm) {i:Int} (i0:0≤i) (i1:i<n):Hl n (A8 gr i 0) (A8 bu i 0) (A8 cm i 0):=by
 refine ⟨by rw[Bw];exact h.g,by rw[Bw];exact h.b,by rw[Bw];exact h.c,fun j j0 j1=>?_⟩
 rw[IB i0 (by rw[h.b];exact i1),IB i0 (by rw[h.g];exact i1),IB i0 (by rw[h.c];exact i1)]
 split
 ·simp
 ·exact h.v j j0 j1
theorem AeI {s:Ae} (h:St s) {d:List Int} {now:AE} {rg:BG} {q:Fi} {lk:Cd} {rs:List Int} {td:AB} {ag:Int} {pu:List BB} {ey:List AH} {ga:List Bi} {ca wn ti:Int} {gr bu cm:List Int} {se:Int} {n:Int} {ip:BY} {w:List CU} {was:List BB} {asks lights out:List Int} (hm:0≤rg.1∧rg.1≤3) (hti:0≤ti∧ti≤1073741824) (hc:Hl (BN s) gr bu cm) (hs:Ax se) :
 ∃gr' bu' cm' se' out',xZ (n,(s,(((d,()),(now,(rg,(q,(lk,(rs,(td,(ag,(pu,(ey,(ga,(ca,(wn,(ti,(gr,(bu,(cm,se))))))))))))))))),(ip,(w,(was,(asks,(lights,out))))))))=some (s,(((d,()),(now,(rg,(q,(lk,(rs,(td,(ag,(pu,(ey,(ga,(ca,(wn,(min (ti+1) 1073741824,(gr',(bu',(cm',se'))))))))))))))))),(ip,(w,(was,(asks,(lights,out')))))))∧Pa s rg ti se out gr' bu' cm' se' out':=by
 have np:=h.ph
 unfold BN at np
 have hlow:1≤s.2.2.2.2.2.2.2.2.2.1:=h.ok.timed.low.1
 have hu:=hs;unfold Ax at hu
 unfold xZ
 try simp only
 rw[AG,Af _ _ (by simp;omega),Am (ti+1) (by omega) (by omega)]
 change ∃gr' bu' cm' se' out',cnd ((!((ti+1).tmod s.2.2.2.2.2.2.2.2.2.1==0))||_) _ _ = _∧_
 have hsend:H3 se=if se=4294967295 then (0,2) else (se+1,0):=by
  unfold H3
  rw[AS]
  split
  ·rename_i c;rw[if_pos (by simpa using c)]
  ·rename_i c
   have c':se≠4294967295:=by simpa using c
   rw[if_neg c',MV,Int.emod_eq_of_lt (by omega) (by omega)]
 by_cases c:(ti+1).tmod s.2.2.2.2.2.2.2.2.2.1=0∧se≠4294967295
 ·rw[hsend,if_neg c.2,Ag _ _ (by simp[c.1])]
  refine AI (fun z:Int×Gp×BH=>z.1) (BN s) (fun z=>∃gr' bu' cm' lo,z.2=((s.1,(rg.1,(ti,lo))),(s,(((d,()),(now,(rg,(q,(lk,(rs,(td,(ag,(pu,(ey,(ga,(ca,(wn,(ti,(gr',(bu',(cm',se))))))))))))))))),(ip,(w,(was,(asks,(lights,out))))))))∧Hl (BN s) gr' bu' cm'∧Aa lo=z.1∧∀m∈lo,0≤m∧m≤65536)
   (fun R=>∃gr' bu' cm' se' out',R=some (s,(((d,()),(now,(rg,(q,(lk,(rs,(td,(ag,(pu,(ey,(ga,(ca,(wn,(min (ti+1) 1073741824,(gr',(bu',(cm',se'))))))))))))))))),(ip,(w,(was,(asks,(lights,out')))))))∧Pa s rg ti se out gr' bu' cm' se' out') (by unfold BN;omega) (by simp) (by unfold BN;omega) ⟨gr,bu,cm,[],rfl,hc,rfl,fun m hm=>by cases hm⟩ (fun z hI i0 i1=>?_) (fun z hI hz=>?_)
  ·obtain⟨i,z⟩:=z
   obtain⟨gr',bu',cm',lo,hzz,hcc,hlo,hall⟩:=hI
   simp only at i0 i1 hzz hlo
   subst hzz
   have v:=hcc.v i i0 i1
   have eg:=Bb (l:=gr') i0 (by rw[hcc.g];exact i1)
   have eb:=Bb (l:=bu') i0 (by rw[hcc.b];exact i1)
   have ec:=Bb (l:=cm') i0 (by rw[hcc.c];exact i1)
   obtain⟨x,x1,x2⟩:=AbI (a:=min (el gr' i) (el bu' i+el cm' i)) (b:=max 1 (el gr' i)) (by omega) (by omega) (by omega) (by omega)
   have e2:∀(l:List Int) (hl:Aa l=BN s),∃y,idx l i=some y:=fun l hl=>by
    obtain⟨y,hy,_⟩:=Au (l:=l) i0 (by rw[hl];exact i1)
    exact ⟨y,hy⟩
   unfold BN at i1
   have room:=bW (l:=lo) (x:=x) (b:=8) (by omega)
   try simp only
   rw[Af _ _ (decide_eq_true i1),Ab _ _ eg,Ab _ _ eg,Ab _ _ eb,Ab _ _ eb,Ab _ _ ec,Ab _ _ ec,AG,Am (el bu' i+el cm' i) (by omega) (by omega),DX,Ab _ _ eg,Ab _ _ eg,AG,Gi,Ab _ _ x1]
   try simp only
   rw[Af _ _ room,Ab _ _ eg,Ab _ _ eg,Ab _ _ eb,Ab _ _ eb,Ab _ _ ec,Ab _ _ ec,Am (i+1) (by omega) (by omega)]
   refine ⟨rfl,_,_,_,_,rfl,Aby hcc i0 i1,by rw[AO,hlo];rfl,fun m hm=>?_⟩
   rcases List.mem_append.1 hm with hm|hm
   ·exact hall m hm
   ·rcases List.mem_cons.1 hm with rfl|hm
    ·exact x2
    ·cases hm
  ·obtain⟨i,z⟩:=z
   obtain⟨gr',bu',cm',lo,hzz,hcc,hlo,hall⟩:=hI
   simp only at hz hzz hlo
   subst hzz
   have id:=h.ok.id
   have rok:eF (s.1,(rg.1,(ti,lo))):=⟨id,hm,hti,by simp only;unfold BN at hz;omega,fun m hm=>by have:=hall m hm;omega⟩
   have hb:Bytes (BD (F1 (s.1,(rg.1,(ti,lo))))):=Tv (fun n hn=>by
    unfold F1 at hn
    simp only[List.cons_append,List.nil_append,List.mem_cons] at hn
    have:=Ap lo
    unfold BN at hz
    rcases hn with rfl|rfl|rfl|rfl|hn
    ·omega
    ·omega
    ·omega
    ·omega
    ·have:=hall n hn;omega)
   have hl:=tQ (r:=(s.1,(rg.1,(ti,lo)))) (by simp only;unfold BN at hz;omega)
   have hu1:Ax (se+1):=⟨by omega,by omega⟩
   have hwr:=AcJ (m:=(3,(se+1,BD (F1 (s.1,(rg.1,(ti,lo))))))) ⟨hu1,by simp only;omega⟩ (by simp) hb
   unfold BN at hz
   try simp only
   rw[Ag _ _ (decide_eq_false (by omega)),Ab _ _ (eT rok),Ab _ _ hwr,AG,Jd ti 1073741824 hti.1 (by omega)]
   refine ⟨gr',bu',cm',se+1,_,rfl,hcc,hu1,fun hh=>?_,fun _ _=>⟨rfl,_,rfl,rfl,rfl,?_,hall,rok,rfl⟩⟩
   ·rcases hh with hh|hh
    ·exact absurd c.1 hh
    ·exact absurd hh c.2
   ·simp only;unfold BN;omega
 ·rw[Af _ _ (by
   rw[hsend]
   by_cases c1:(ti+1).tmod s.2.2.2.2.2.2.2.2.2.1=0
   ·have c2:se=4294967295:=Decidable.byContradiction fun hh=>c ⟨c1,hh⟩
    rw[if_pos c2];simp
   ·simp[c1]),AG,Jd ti 1073741824 hti.1 (by omega)]
  exact ⟨gr,bu,cm,se,out,rfl,hc,hs,fun _=>⟨rfl,rfl⟩,fun h1 h2=>absurd ⟨h1,h2⟩ c⟩
end Go.Proofs.YtmmkfcpdfnjgjaaGreatDoor
namespace Go.Proofs.YtmmkfcpdfnjgjaaGreatDoor
open Go.Den
def zC (s:Ae) (z:Int×BH):Option BH :=
(iter none (fun x12 =>
(cnd (decide (x12.1<(Aa s.2.2.2.2.1)))
(Ad (DC (x12.2.1,(x12.2.2.1.2.1,x12.1))) (.done none) (fun x13 =>
(cnd (!x13.1)
(.next ((wr .i64 (x12.1+1)),(x12.2.1,(((x12.2.2.1.1.1,()),x12.2.2.1.2),x12.2.2.2))))
(iter (.done none) (fun x14 =>
(cnd (decide (x14.1<(Aa x12.2.1.2.2.2.2.2.1)))
(Ad (idx x12.2.1.2.2.2.2.2.1 x14.1) (.done (.done none)) (fun x15 =>
(cnd (x15.1==x12.1)
(Ad (idx x14.2.2.2.1.2.2.2.2.2.2.2.2.1 x14.1) (.done (.done none)) (fun x16 =>
(cnd x16.1
(Ad (idx x14.2.2.2.2.2.2.1 x14.1) (.done (.done none)) (fun x17 =>
(cnd (!x17.1)
(Ad (idx x14.2.2.2.1.2.2.2.2.2.2.2.2.2.2.2.2.2.2.2.2.1 x12.1) (.done (.done none)) (fun _ =>
(Ad (idx x14.2.2.2.1.2.2.2.2.2.2.2.2.2.2.2.2.2.2.2.2.1 x12.1) (.done (.done none)) (fun x19 =>
(Ay (BK (x19,1048576)) (fun y =>
(Ad (idx x14.2.2.2.1.2.2.2.2.2.2.2.2.2.2.2.2.2.2.2.2.1 x12.1) (.done (.done none)) (fun _ =>
(Ad (idx x14.2.2.2.1.2.2.2.2.2.2.2.2.2.2.2.2.2.2.2.2.1 x12.1) (.done (.done none)) (fun _ =>
(.next ((wr .i64 (x14.1+1)),(true,(x14.2.2.1,(((x14.2.2.2.1.1.1,()),(x14.2.2.2.1.2.1,(x14.2.2.2.1.2.2.1,(x14.2.2.2.1.2.2.2.1,(x14.2.2.2.1.2.2.2.2.1,(x14.2.2.2.1.2.2.2.2.2.1,(x14.2.2.2.1.2.2.2.2.2.2.1,(x14.2.2.2.1.2.2.2.2.2.2.2.1,(x14.2.2.2.1.2.2.2.2.2.2.2.2.1,(x14.2.2.2.1.2.2.2.2.2.2.2.2.2.1,(x14.2.2.2.1.2.2.2.2.2.2.2.2.2.2.1,(x14.2.2.2.1.2.2.2.2.2.2.2.2.2.2.2.1,(x14.2.2.2.1.2.2.2.2.2.2.2.2.2.2.2.2.1,(x14.2.2.2.1.2.2.2.2.2.2.2.2.2.2.2.2.2.1,(x14.2.2.2.1.2.2.2.2.2.2.2.2.2.2.2.2.2.2.1,(x14.2.2.2.1.2.2.2.2.2.2.2.2.2.2.2.2.2.2.2.1,((A8 x14.2.2.2.1.2.2.2.2.2.2.2.2.2.2.2.2.2.2.2.2.1 x12.1 y),x14.2.2.2.1.2.2.2.2.2.2.2.2.2.2.2.2.2.2.2.2.2))))))))))))))))),x14.2.2.2.2)))))))))))))))
(.next ((wr .i64 (x14.1+1)),(true,(x14.2.2.1,(((x14.2.2.2.1.1.1,()),x14.2.2.2.1.2),x14.2.2.2.2))))))))
(.next ((wr .i64 (x14.1+1)),(x14.2.1,(x14.2.2.1,(((x14.2.2.2.1.1.1,()),x14.2.2.2.1.2),x14.2.2.2.2))))))))
(.next ((wr .i64 (x14.1+1)),(x14.2.1,(x14.2.2.1,(((x14.2.2.2.1.1.1,()),x14.2.2.2.1.2),x14.2.2.2.2))))))))
(.done (DM (fun x15 =>
(Ad (idx x15.2.1.2.2.2.2.2.2.2.2.2.2.2.2.2.2.1 x12.1) (.done none) (fun _ =>
(Ad (idx x15.2.1.2.2.2.2.2.2.2.2.2.2.2.2.2.2.1 x12.1) (.done none) (fun x17 =>
(Ay (BK (x17,1048576)) (fun y =>
(Ad (idx x15.2.1.2.2.2.2.2.2.2.2.2.2.2.2.2.2.1 x12.1) (.done none) (fun _ =>
(Ad (idx x15.2.1.2.2.2.2.2.2.2.2.2.2.2.2.2.2.1 x12.1) (.done none) (fun _ =>
(.next ((wr .i64 (x12.1+1)),(x15.1,(((x15.2.1.1.1,()),(x15.2.1.2.1,(x15.2.1.2.2.1,(x15.2.1.2.2.2.1,(x15.2.1.2.2.2.2.1,(x15.2.1.2.2.2.2.2.1,(x15.2.1.2.2.2.2.2.2.1,(x15.2.1.2.2.2.2.2.2.2.1,(x15.2.1.2.2.2.2.2.2.2.2.1,(x15.2.1.2.2.2.2.2.2.2.2.2.1,(x15.2.1.2.2.2.2.2.2.2.2.2.2.1,(x15.2.1.2.2.2.2.2.2.2.2.2.2.2.1,(x15.2.1.2.2.2.2.2.2.2.2.2.2.2.2.1,(x15.2.1.2.2.2.2.2.2.2.2.2.2.2.2.2.1,((A8 x15.2.1.2.2.2.2.2.2.2.2.2.2.2.2.2.2.1 x12.1 y),x15.2.1.2.2.2.2.2.2.2.2.2.2.2.2.2.2.2))))))))))))))),x15.2.2))))))))))))))) (fun k =>
(cnd x14.2.1
(Ad (idx x14.2.2.2.1.2.2.2.2.2.2.2.2.2.2.2.2.2.2.2.1 x12.1) (.done none) (fun _ =>
(Ad (idx x14.2.2.2.1.2.2.2.2.2.2.2.2.2.2.2.2.2.2.2.1 x12.1) (.done none) (fun x16 =>
(Ay (BK (x16,1048576)) (fun y =>
(Ad (idx x14.2.2.2.1.2.2.2.2.2.2.2.2.2.2.2.2.2.2.2.1 x12.1) (.done none) (fun _ =>
(Ad (idx x14.2.2.2.1.2.2.2.2.2.2.2.2.2.2.2.2.2.2.2.1 x12.1) (.done none) (fun _ =>
(k (x14.2.2.1,(((x14.2.2.2.1.1.1,()),(x14.2.2.2.1.2.1,(x14.2.2.2.1.2.2.1,(x14.2.2.2.1.2.2.2.1,(x14.2.2.2.1.2.2.2.2.1,(x14.2.2.2.1.2.2.2.2.2.1,(x14.2.2.2.1.2.2.2.2.2.2.1,(x14.2.2.2.1.2.2.2.2.2.2.2.1,(x14.2.2.2.1.2.2.2.2.2.2.2.2.1,(x14.2.2.2.1.2.2.2.2.2.2.2.2.2.1,(x14.2.2.2.1.2.2.2.2.2.2.2.2.2.2.1,(x14.2.2.2.1.2.2.2.2.2.2.2.2.2.2.2.1,(x14.2.2.2.1.2.2.2.2.2.2.2.2.2.2.2.2.1,(x14.2.2.2.1.2.2.2.2.2.2.2.2.2.2.2.2.2.1,(x14.2.2.2.1.2.2.2.2.2.2.2.2.2.2.2.2.2.2.1,((A8 x14.2.2.2.1.2.2.2.2.2.2.2.2.2.2.2.2.2.2.2.1 x12.1 y),x14.2.2.2.1.2.2.2.2.2.2.2.2.2.2.2.2.2.2.2.2)))))))))))))))),x14.2.2.2.2)))))))))))))
(k (x14.2.2.1,(((x14.2.2.2.1.1.1,()),x14.2.2.2.1.2),x14.2.2.2.2))))))))) AA ((0:Int),(false,(x12.2.1,(((x12.2.2.1.1.1,()),x12.2.2.1.2),x12.2.2.2))))))))
(.done (xZ x12)))) AA z)
theorem Abx {n:Int} {gr bu cm:List Int} (h:Hl n gr bu cm) {i:Int} (i0:0≤i) (i1:i<n):Hl n gr bu (A8 cm i (min (el cm i+1) 1048576)):=by
 refine ⟨h.g,h.b,by rw[Bw];exact h.c,fun j j0 j1=>?_⟩
 have v:=h.v j j0 j1
 rw[IB i0 (by rw[h.c];exact i1)]
 split
 ·rename_i e;subst e;omega
 ·exact v
theorem zB {n:Int} {gr bu cm:List Int} (h:Hl n gr bu cm) {i:Int} (i0:0≤i) (i1:i<n) (b:Bool):Hl n (A8 gr i (min (el gr i+1) 1048576)) (if b=true then A8 bu i (min (el bu i+1) 1048576) else bu) cm:=by
 refine ⟨by rw[Bw];exact h.g,?_,h.c,fun j j0 j1=>?_⟩
 ·split
  ·rw[Bw];exact h.b
  ·exact h.b
 ·have v:=h.v j j0 j1
  rw[IB i0 (by rw[h.g];exact i1)]
  cases b with
  |true =>
   rw[if_pos rfl,IB i0 (by rw[h.b];exact i1)]
   split
   ·rename_i e;subst e;omega
   ·exact v
  |false =>
   rw[if_neg (by simp)]
   split
   ·rename_i e;subst e;omega
   ·exact v
theorem Ac0 {s:Ae} (h:St s) {d:List Int} {now:AE} {rg:BG} {q:Fi} {lk:Cd} {rs:List Int} {td:AB} {ag:Int} {pu:List BB} {ey:List AH} {ga:List Bi} {ca wn ti:Int} {gr bu cm:List Int} {se:Int} {ip:BY} {w:List CU} {was:List BB} {asks lights out:List Int} (hG:DD s now) (hpn:Aa pu=Cm s) (hwn:Aa was=Cm s) (hm:0≤rg.1∧rg.1≤3) (hti:0≤ti∧ti≤1073741824) (hc:Hl (BN s) gr bu cm) (hs:Ax se) :
 ∃gr' bu' cm' se' out',zC s (0,(s,(((d,()),(now,(rg,(q,(lk,(rs,(td,(ag,(pu,(ey,(ga,(ca,(wn,(ti,(gr,(bu,(cm,se))))))))))))))))),(ip,(w,(was,(asks,(lights,out))))))))=some (s,(((d,()),(now,(rg,(q,(lk,(rs,(td,(ag,(pu,(ey,(ga,(ca,(wn,(min (ti+1) 1073741824,(gr',(bu',(cm',se'))))))))))))))))),(ip,(w,(was,(asks,(lights,out')))))))∧Pa s rg ti se out gr' bu' cm' se' out':=by
 have np:=h.ph;have ne:=h.ne
 unfold zC
 refine AI (fun z:Int×BH=>z.1) (BN s) (fun z=>∃gr' bu' cm',z.2=(s,(((d,()),(now,(rg,(q,(lk,(rs,(td,(ag,(pu,(ey,(ga,(ca,(wn,(ti,(gr',(bu',(cm',se))))))))))))))))),(ip,(w,(was,(asks,(lights,out)))))))∧Hl (BN s) gr' bu' cm')
  (fun R=>∃gr' bu' cm' se' out',R=some (s,(((d,()),(now,(rg,(q,(lk,(rs,(td,(ag,(pu,(ey,(ga,(ca,(wn,(min (ti+1) 1073741824,(gr',(bu',(cm',se'))))))))))))))))),(ip,(w,(was,(asks,(lights,out')))))))∧Pa s rg ti se out gr' bu' cm' se' out') (by omega) (by simp) (by simp only;omega) ⟨gr,bu,cm,rfl,hc⟩ (fun z hI i0 i1=>?_) (fun z hI hz=>?_)
 ·obtain⟨i,t⟩:=z
  obtain⟨gr',bu',cm',ht,hcc⟩:=hI
  simp only at i0 i1 ht
  subst ht
  have hfull:Qn 0 s now i=(G5 s now i,0):=by
   unfold BN at i1
   unfold Qn
   rw[if_neg (by simp),if_neg (by rw[hG.may.st.n];simp),if_neg (by omega)]
  try simp only
  rw[Af _ _ (show decide (i<Aa s.2.2.2.2.1)=true from decide_eq_true i1),Ab _ _ (eR h.f (fun _=>h.so) h.chk),hfull,Am (i+1) (by omega) (by omega)]
  try simp only
  by_cases cf:G5 s now i=true
  ·rw[Ag _ _ (by rw[cf];rfl)]
   refine AI (fun z:Int×Bool×BH=>z.1) (Cm s) (fun z=>∃cm',z.2.2=(s,(((d,()),(now,(rg,(q,(lk,(rs,(td,(ag,(pu,(ey,(ga,(ca,(wn,(ti,(gr',(bu',(cm',se))))))))))))))))),(ip,(w,(was,(asks,(lights,out)))))))∧Hl (BN s) gr' bu' cm')
    (fun R=>C5 (fun z:Int×BH=>z.1) (fun z=>∃gr' bu' cm',z.2=(s,(((d,()),(now,(rg,(q,(lk,(rs,(td,(ag,(pu,(ey,(ga,(ca,(wn,(ti,(gr',(bu',(cm',se))))))))))))))))),(ip,(w,(was,(asks,(lights,out)))))))∧Hl (BN s) gr' bu' cm')
      (fun R=>∃gr' bu' cm' se' out',R=some (s,(((d,()),(now,(rg,(q,(lk,(rs,(td,(ag,(pu,(ey,(ga,(ca,(wn,(min (ti+1) 1073741824,(gr',(bu',(cm',se'))))))))))))))))),(ip,(w,(was,(asks,(lights,out')))))))∧Pa s rg ti se out gr' bu' cm' se' out') i R) (by omega) (by simp) ne.1 ⟨cm',rfl,hcc⟩ (fun z hI j0 j1=>?_) (fun z hI hz=>?_)
   ·obtain⟨j,b,t⟩:=z
    obtain⟨cm',ht,hcc⟩:=hI
    simp only at j0 j1 ht
    subst ht
    obtain⟨e,he,_⟩:=Au (l:=s.2.2.2.2.2.1) j0 j1
    obtain⟨p,hp,_⟩:=Au (l:=pu) j0 (by omega)
    obtain⟨p0,hp0,_⟩:=Au (l:=was) j0 (by omega)
    have ec:=Bb (l:=cm') i0 (by rw[hcc.c];exact i1)
    have v:=hcc.v i i0 i1
    try simp only
    rw[Af _ _ (show decide (j<Aa s.2.2.2.2.2.1)=true from decide_eq_true j1),Ab _ _ he,Am (j+1) (by omega) (by omega)]
    by_cases ci:e.1=i
    ·rw[Af _ _ (by simp[ci]),Ab _ _ hp]
     cases hpu:p.1 with
     |true =>
      rw[Af _ _ rfl,Ab _ _ hp0]
      cases hpw:p0.1 with
      |true =>
       rw[Ag (b:=!true) _ _ rfl]
       exact ⟨rfl,cm',rfl,hcc⟩
      |false =>
       rw[Af (b:=!false) _ _ rfl,Ab _ _ ec,Ab _ _ ec,AG,Ab _ _ ec,Ab _ _ ec,Jd (el cm' i) 1048576 (by omega) (by omega)]
       exact ⟨rfl,_,rfl,Abx hcc i0 i1⟩
     |false =>
      rw[Ag _ _ rfl]
      exact ⟨rfl,cm',rfl,hcc⟩
    ·rw[Ag _ _ (by simpa using ci)]
     exact ⟨rfl,cm',rfl,hcc⟩
   ·obtain⟨j,b,t⟩:=z
    obtain⟨cm',ht,hcc⟩:=hI
    simp only at hz ht
    subst ht
    have eg:=Bb (l:=gr') i0 (by rw[hcc.g];exact i1)
    have eb:=Bb (l:=bu') i0 (by rw[hcc.b];exact i1)
    have v:=hcc.v i i0 i1
    try simp only
    rw[Ag _ _ (decide_eq_false (by unfold Cm at hz;omega))]
    show C5 _ _ _ _ (DM _ _)
    rw[X5 (s,(((d,()),(now,(rg,(q,(lk,(rs,(td,(ag,(pu,(ey,(ga,(ca,(wn,(ti,(gr',((if b=true then A8 bu' i (min (el bu' i+1) 1048576) else bu'),(cm',se))))))))))))))))),(ip,(w,(was,(asks,(lights,out))))))) (fun k=>by
     try simp only
     cases b with
     |true=>rw[Af _ _ rfl,if_pos rfl,Ab _ _ eb,Ab _ _ eb,AG,Ab _ _ eb,Ab _ _ eb,Jd (el bu' i) 1048576 (by omega) (by omega)]
     |false=>rw[Ag _ _ rfl,if_neg (by simp)])]
    try simp only
    rw[Ab _ _ eg,Ab _ _ eg,AG,Ab _ _ eg,Ab _ _ eg,Jd (el gr' i) 1048576 (by omega) (by omega)]
    exact ⟨rfl,_,_,_,rfl,zB hcc i0 i1 b⟩
  ·rw[Af _ _ (by rw[Bool.eq_false_iff.2 cf];rfl)]
   exact ⟨rfl,gr',bu',cm',rfl,hcc⟩
 ·obtain⟨i,t⟩:=z
  obtain⟨gr',bu',cm',ht,hcc⟩:=hI
  simp only at hz ht
  subst ht
  try simp only
  rw[Ag _ _ (decide_eq_false (by unfold BN at hz;omega))]
  exact AeI h hm hti hcc hs
end Go.Proofs.YtmmkfcpdfnjgjaaGreatDoor
namespace Go.Proofs.YtmmkfcpdfnjgjaaGreatDoor
open Go.Den
abbrev LD (x:AV):List Int:=x.1.1
abbrev Wo (x:AV):AE:=x.2.1
abbrev LRg (x:AV):BG:=x.2.2.1
abbrev LQ (x:AV):Fi:=x.2.2.2.1
abbrev LLk (x:AV):Cd:=x.2.2.2.2.1
abbrev LRs (x:AV):List Int:=x.2.2.2.2.2.1
abbrev LTd (x:AV):AB:=x.2.2.2.2.2.2.1
abbrev LAg (x:AV):Int:=x.2.2.2.2.2.2.2.1
abbrev LPu (x:AV):List BB:=x.2.2.2.2.2.2.2.2.1
abbrev LEy (x:AV):List AH:=x.2.2.2.2.2.2.2.2.2.1
abbrev LGa (x:AV):List Bi:=x.2.2.2.2.2.2.2.2.2.2.1
abbrev LCa (x:AV):Int:=x.2.2.2.2.2.2.2.2.2.2.2.1
abbrev LWn (x:AV):Int:=x.2.2.2.2.2.2.2.2.2.2.2.2.1
abbrev LTi (x:AV):Int:=x.2.2.2.2.2.2.2.2.2.2.2.2.2.1
abbrev LGr (x:AV):List Int:=x.2.2.2.2.2.2.2.2.2.2.2.2.2.2.1
abbrev LBu (x:AV):List Int:=x.2.2.2.2.2.2.2.2.2.2.2.2.2.2.2.1
abbrev LCm (x:AV):List Int:=x.2.2.2.2.2.2.2.2.2.2.2.2.2.2.2.2.1
abbrev LSe (x:AV):Int:=x.2.2.2.2.2.2.2.2.2.2.2.2.2.2.2.2.2
structure Ran (s:Ae) (x:AV) (ip:BY) (y:AV) (w:List CU) (asks lights out:List Int) (told well:Bool) (ups:Int):Prop where
 hear:Xh s (LLk x) (LRs x) (LTd x) (LAg x) ip.1 (LLk y) (LRs y) (LTd y) (LAg y) told
 puts:LZ (LD x) w∧(told=false→w=[])∧(w=[]∨∃e,N8 (LD x) (LRg x).1 (LTd y::[]) w e)
 disk:LD y=doV (Aa w) 0 0 w (LD x)
 see:eG s (Wo x) (LQ x) ip (LPu x) (LEy x) (LCa x) ups (LCa y)
 pu:LPu y=puV ip.2.1 (LPu x)
 ga:LGa y=gaV (LPu y) (LGa x)
 ey:LEy y=Ey.CM s ups (LEy x)
 wn:LWn y=wnV s (Wo x) (LWn x) ip.2.2.1
 rg:LRg y=C7 (s,(LRg x,JO s (LTd y) (LAg y) (LWn y) (CS (LD y)) ip.2.2.2.2.2.2 well))
 ask:Acq s (Wo x) (LRg y) (LQ x) (LTd y) (LCa y) (LTi x) (CS (LD y)).1 (LQ y) asks
 lit:lights=EA s (Wo x) asks
 now:Wo y=C6 s (Wo x) lights
 tell:Pa s (LRg y) (LTi x) (LSe x) [] (LGr y) (LBu y) (LCm y) (LSe y) out
 ti:LTi y=min (LTi x+1) 1073741824
structure Ad3 (s:Ae) (x:AV) (y:AV) (lights out:List Int):Prop where
 disk:BT (LD y)
 loc:y=UM s (Wo x) (LTi x) (LSe x) (LD y)
 lit:lights=I4 s
 mute:out=[]
theorem Ae0 {s:Ae} (h:St s) {x:AV} {ip:BY} (hx:Fh s x) (hb:ip.2.2.1.length≤maxLen) :
 ∃y w was asks lights out,Db (s,(x,(ip,([],([],([],([],[])))))))=some (s,(y,(ip,(w,(was,(asks,(lights,out)))))))∧Fh s y ∧
  (ip.2.2.2.1=true→Ad3 s x y lights out)∧(ip.2.2.2.1=false→∃told well ups,Ran s x ip y w asks lights out told well ups):=by
 obtain⟨⟨d,⟨⟩⟩,now,rg,q,lk,rs,td,ag,pu,ey,ga,ca,wn,ti,gr,bu,cm,se⟩:=x
 have hd:BT d:=hx.disk
 have hti:0≤ti∧ti≤1073741824:=hx.tick
 have hrg:Ld.IV rg:=hx.rung
 have hG:DD s now:=hx.now
 have hw:0≤wn∧wn≤1048576:=hx.wrong
 have hse:Ax se:=hx.sent
 have hpn:Aa pu=Cm s:=hx.pn
 have hgn:Aa ga=Cm s:=hx.gn
 obtain⟨lk',rs',td',ag',told,h1,H⟩:=Aem (ip:=ip) (r:=([],([],([],([],[]))))) h hx
 have hx1:Fh s ((d,()),(now,(rg,(q,(lk',(rs',(td',(ag',(pu,(ey,(ga,(ca,(wn,(ti,(gr,(bu,(cm,se))))))))))))))))):=⟨hd,hG,hrg,hx.seq,H.link,H.rest,H.plan,H.age,hx.pn,hx.pulse,hx.eyes,hx.gn,hx.gaps,hx.calls,hx.wrong,hx.tick,hx.cnt,hx.sent⟩
 obtain⟨w,hwr,hw1,hw2,hw3⟩:∃w,(if told=true then Df (s,(((d,()),(now,(rg,(q,(lk',(rs',(td',(ag',(pu,(ey,(ga,(ca,(wn,(ti,(gr,(bu,(cm,se))))))))))))))))),(ip,([],([],([],([],[]))))))) else some (s,(((d,()),(now,(rg,(q,(lk',(rs',(td',(ag',(pu,(ey,(ga,(ca,(wn,(ti,(gr,(bu,(cm,se))))))))))))))))),(ip,([],([],([],([],[]))))))))=some (s,(((d,()),(now,(rg,(q,(lk',(rs',(td',(ag',(pu,(ey,(ga,(ca,(wn,(ti,(gr,(bu,(cm,se))))))))))))))))),(ip,(w,([],([],([],[])))))))∧LZ d w∧(told=false→w=[])∧(w=[]∨∃e,N8 d rg.1 (td'::[]) w e):=by
  cases told with
  |true =>
   obtain⟨ps,p1,p2⟩:=AdU (ip:=ip) (w:=[]) (r:=([],([],([],[])))) h hx1
   refine ⟨ps,by rw[if_pos rfl];exact p1,?_,fun hh=>(by cases hh),p2⟩
   rcases p2 with p2|⟨e,p2⟩
   ·rw[p2];exact QL d
   ·exact p2.ok
  |false=>exact ⟨[],by rw[if_neg (by simp)],QL d,fun _=>rfl,.inl rfl⟩
 unfold Db
 rw[X5 (s,(((d,()),(now,(rg,(q,(lk',(rs',(td',(ag',(pu,(ey,(ga,(ca,(wn,(ti,(gr,(bu,(cm,se))))))))))))))))),(ip,(w,([],([],([],[]))))))) (fun k=>by
  try simp only
  rw[Ab _ _ h1]
  try simp only
  cases told with
  |true =>
   rw[if_pos rfl] at hwr
   rw[Af _ _ rfl,Ab _ _ hwr]
  |false =>
   rw[if_neg (by simp)] at hwr
   have hw0:=hw2 rfl
   subst hw0
   rw[Ag _ _ rfl])]
 try simp only
 cases hlost:ip.2.2.2.1 with
 |true =>
  obtain⟨d',d1,_,d3⟩:=Aeq (ip:=ip) (w:=w) (was:=[]) (asks:=[]) (lights:=[]) (out:=[]) h hx1 hw1
  rw[Af _ _ rfl,Ab _ _ d3]
  refine ⟨UM s now ti se d',w,[],[],I4 s,[],rfl,AbW h d1 hG hti.1 hse,fun _=>⟨d1,rfl,rfl,rfl⟩,fun hh=>by cases hh⟩
 |false =>
  have hwn:=Ap w
  have hdo:=Ad0 (d:=d) (l:=w) (whole:=Aa w) (torn:=0) hd hw1 hwn (by omega) (by omega) (by omega)
  have hdk:=tD (d:=d) (l:=w) (whole:=Aa w) (torn:=0) hd hw1
  generalize hd':doV (Aa w) 0 0 w d=d' at hdo hdk
  have hx2:Fh s ((d',()),(now,(rg,(q,(lk',(rs',(td',(ag',(pu,(ey,(ga,(ca,(wn,(ti,(gr,(bu,(cm,se))))))))))))))))):=⟨hdk.1,hG,hrg,hx.seq,H.link,H.rest,H.plan,H.age,hx.pn,hx.pulse,hx.eyes,hx.gn,hx.gaps,hx.calls,hx.wrong,hx.tick,hx.cnt,hx.sent⟩
  obtain⟨ups,ca',s1,S⟩:=Ae1 (ip:=ip) (w:=w) (was:=[]) (r:=([],([],[]))) h hx2
  have hpu:∀p∈puV ip.2.1 pu,MW p:=fun p hp=>by
   obtain⟨j,hj⟩:=ES hp
   obtain⟨j0,j1,_⟩:=An hj
   rw[WT] at j1
   obtain⟨p0,hp0,hp1⟩:=Au j0 j1
   rw[tJ hp0] at hj
   rw[←Option.some.inj hj]
   exact Ab9 (hx.pulse p0 hp1)
  have hga:∀g∈gaV (puV ip.2.1 pu) ga,Xg g:=fun g hg=>by
   obtain⟨j,hj⟩:=ES hg
   obtain⟨j0,j1,_⟩:=An hj
   rw[WR] at j1
   obtain⟨g0,hg0,hg1⟩:=Au j0 j1
   rw[tI hg0] at hj
   rw[←Option.some.inj hj]
   exact Aej (hx.gaps g0 hg1)
  have hx3:Fh s ((d',()),(now,(rg,(q,(lk',(rs',(td',(ag',(puV ip.2.1 pu,(Ey.CM s ups ey,(gaV (puV ip.2.1 pu) ga,(ca',(wn,(ti,(gr,(bu,(cm,se))))))))))))))))):=⟨hdk.1,hG,hrg,hx.seq,H.link,H.rest,H.plan,H.age,by simp only;rw[WT];exact hpn,hpu,S.eyes,by simp only;rw[WR];exact hgn,hga,S.calls,hx.wrong,hx.tick,hx.cnt,hx.sent⟩
  obtain⟨well,f1⟩:=Ac4 (ip:=ip) (r:=(w,(pu,([],([],[]))))) h hx3 hb
  have hwn':=AcD (s:=s) (now:=now) (back:=ip.2.2.1) hw
  generalize hwv:wnV s now wn ip.2.2.1=wn' at f1 hwn'
  have hst:=Ld.Aar (s:=s) (r:=rg) (JO s td' ag' wn' (CS d') ip.2.2.2.2.2.2 well) h.f h.ok hrg
  have hsok:=Ld.AdN (s:=s) (r:=rg) (JO s td' ag' wn' (CS d') ip.2.2.2.2.2.2 well) hrg h.ok.timed.heal.2
  have hsg:=Ld.Aa2 s rg (JO s td' ag' wn' (CS d') ip.2.2.2.2.2.2 well) hrg
  generalize hrv:C7 (s,(rg,JO s td' ag' wn' (CS d') ip.2.2.2.2.2.2 well))=rg' at hst hsok hsg
  have hx4:Fh s ((d',()),(now,(rg',(q,(lk',(rs',(td',(ag',(puV ip.2.1 pu,(Ey.CM s ups ey,(gaV (puV ip.2.1 pu) ga,(ca',(wn',(ti,(gr,(bu,(cm,se))))))))))))))))):=⟨hdk.1,hG,hsok,hx.seq,H.link,H.rest,H.plan,H.age,hx3.pn,hpu,S.eyes,hx3.gn,hga,S.calls,hwn',hx.tick,hx.cnt,hx.sent⟩
  have hp2:rg'.1=2→∃p,idx (CS d').1.2.2 0=some p∧E9 p:=fun hh=>by
   have hf:=(hsg.stored hh).1
   unfold JO at hf
   simp only[Bool.and_eq_true,beq_iff_eq,decide_eq_true_eq] at hf
   obtain⟨p,q1,q2⟩:=Au (l:=(CS d').1.2.2) (i:=0) (by omega) hf.2
   refine ⟨p,q1,?_⟩
   rcases tP hdk.1 with hk|hk
   ·exact hk.2.plans p q2
   ·have:=hf.1.2;omega
  have hp3:rg'.1=3→FO s td':=fun hh=>by
   have hf:=(hsg.master hh).1
   unfold JO at hf
   simp only[Bool.and_eq_true] at hf
   rcases H.plan with hp|hp
   ·exact hp
   ·rw[hp] at hf
    exact absurd hf.1 (by decide)
  obtain⟨q',asks',a1,A⟩:=AeO (ip:=ip) (kp:=(CS d').1) (w:=w) (was:=pu) (asks:=[]) (lights:=[]) (out:=[]) h hx4 hp2 hp3
  obtain⟨t1,t2,t3⟩:=SH h hG A.len
  obtain⟨gr',bu',cm',se',out',c1,T⟩:=Ac0 (s:=s) (d:=d') (now:=C6 s now (EA s now asks')) (rg:=rg') (q:=q') (lk:=lk') (rs:=rs') (td:=td') (ag:=ag') (pu:=puV ip.2.1 pu) (ey:=Ey.CM s ups ey) (ga:=gaV (puV ip.2.1 pu) ga) (ca:=ca') (wn:=wn') (ti:=ti) (gr:=gr) (bu:=bu) (cm:=cm) (se:=se) (ip:=ip) (w:=w) (was:=pu) (asks:=asks') (lights:=EA s now asks') (out:=[]) h t3 hx3.pn hpn hsok.mode hti hx.cnt hse
  have hph:=h.ph
  rw[Ag _ _ rfl,Ab _ _ hdo]
  try simp only
  rw[Ab _ _ s1]
  try simp only
  rw[Ab _ _ f1]
  try simp only
  rw[Ab _ _ hst]
  try simp only
  rw[Ab _ _ a1]
  try simp only
  rw[Ab _ _ t1]
  try simp only
  rw[Ab _ _ t2,Ab _ _ (XK (l:=gr) (by have:=hx.cnt.g;simp only at this;omega)),Ab _ _ (XK (l:=bu) (by have:=hx.cnt.b;simp only at this;omega)),Ab _ _ (XK (l:=cm) (by have:=hx.cnt.c;simp only at this;omega))]
  refine ⟨_,w,pu,asks',_,out',c1,?_,fun hh=>(by cases hh),fun _=>⟨told,well,ups,?_⟩⟩
  ·exact ⟨hdk.1,t3,hsok,A.seq,H.link,H.rest,H.plan,H.age,hx3.pn,hpu,S.eyes,hx3.gn,hga,S.calls,hwn',⟨by simp only;omega,by simp only;omega⟩,T.cnt,T.sent⟩
  ·exact ⟨H,⟨hw1,hw2,hw3⟩,hd'.symm,S,rfl,rfl,rfl,hwv.symm,hrv.symm,A,rfl,rfl,T,rfl⟩
end Go.Proofs.YtmmkfcpdfnjgjaaGreatDoor
namespace Go.Proofs.YtmmkfcpdfnjgjaaGreatDoor
open Go.Den
theorem sS {s:Ae} (h:St s) {x:AV} (hx:Fh s x):DS (s,x)=some true:=by
 obtain⟨⟨d,⟨⟩⟩,now,rg,q,lk,rs,td,ag,pu,ey,ga,ca,wn,ti,gr,bu,cm,se⟩:=x
 have ne:=h.ne;have np:=h.ph
 have hpn:Aa pu=Cm s:=hx.pn
 have hgn:Aa ga=Cm s:=hx.gn
 have hey:Ey.Fa 0 s ey=0:=hx.eyes
 have hca:Ax ca∧Av .u32 ca (BN s)=0:=hx.calls
 obtain⟨_,hen,_⟩:=Ey.MZ hey
 have EO:=Ey.gL h.ok
 unfold DS
 try simp only
 rw[Ag _ _ (by rw[hpn,hgn];simp[Cm])]
 refine AI (fun i:Int=>i) (Cm s) (fun _=>True) (fun R=>R=some true) (by omega) (by omega) ne.1 trivial (fun i _ i0 i1=>?_) (fun i _ hz=>?_)
 ·obtain⟨g,hg,hgm⟩:=Au (l:=ga) i0 (by omega)
  obtain⟨p,hp,hpm⟩:=Au (l:=pu) i0 (by omega)
  have h1:=(hx.gaps g hgm).1
  have h2:=hx.pulse p hpm
  unfold MW at h2
  try simp only
  rw[Af _ _ (show decide (i<Aa s.2.2.2.2.2.1)=true from decide_eq_true i1),Ab _ _ hg,AG,Ab _ _ hp,AG,Ag _ _ (by
   unfold I6 CA
   rw[AG,h1,Ag (b:=!((0:Int)==0)) _ _ (by rfl),Ag _ _ (by simp)]
   simp;omega),Am (i+1) (by omega) (by omega)]
  exact ⟨rfl,trivial⟩
 ·obtain⟨n,n1,_⟩:=Ey.XE (s:=s) (l:=ey) (e:=0) (c:=ca) (g := -1) (fun _=>EO) h.chk (by unfold Cm at ne;omega) hca.1
  have ha:Ey.P7 s ca (-1)=0:=by
   unfold Ey.P7
   have h2:=hca.2
   unfold BN at h2 np
   rw[if_neg (by rw[h2];simp),if_neg (by omega)]
  rw[hey,if_neg (by simp),ha,if_neg (by simp)] at n1
  try simp only
  rw[Ag _ _ (decide_eq_false (by unfold Cm at hz;omega)),Ab _ _ n1]
  rfl
theorem oR {s:Ae} (h:St s) {x:AV} (hx:Fh s x):DR (s,x)=some true:=by
 obtain⟨⟨d,⟨⟩⟩,now,rg,q,lk,rs,td,ag,pu,ey,ga,ca,wn,ti,gr,bu,cm,se⟩:=x
 have np:=h.ph
 have hc:Hl (BN s) gr bu cm:=hx.cnt
 have hg:=hc.g;have hb:=hc.b;have hcm:=hc.c
 unfold DR
 try simp only
 rw[Ag _ _ (by rw[hg,hb,hcm];simp[BN])]
 refine AI (fun i:Int=>i) (BN s) (fun _=>True) (fun R=>R=some true) (by omega) (by omega) (by omega) trivial (fun i _ i0 i1=>?_) (fun i _ hz=>?_)
 ·have v:=hc.v i i0 i1
  have eg:=Bb (l:=gr) i0 (by omega)
  have eb:=Bb (l:=bu) i0 (by omega)
  have ec:=Bb (l:=cm) i0 (by omega)
  have sp:∀n:Int,0≤n→n≤1048576→(!CA n)=false:=fun n n0 n1=>by unfold CA;simp;omega
  try simp only
  rw[Af _ _ (show decide (i<Aa s.2.2.2.2.1)=true from decide_eq_true i1),Ab _ _ eg,AG,Ag _ _ (sp _ (by omega) (by omega)),Ab _ _ eb,AG,Ag _ _ (sp _ (by omega) (by omega)),Ab _ _ ec,AG,Ag _ _ (sp _ (by omega) (by omega)),Ab _ _ eb,Ab _ _ eg,Ag _ _ (decide_eq_false (by omega)),Am (i+1) (by omega) (by omega)]
  exact ⟨rfl,trivial⟩
 ·try simp only
  rw[Ag _ _ (decide_eq_false (by unfold BN at hz;omega))]
  rfl
theorem wG:∀(l:List Int) (i:Int),tY l→Ie l 126 i = -1:=by
 intro l
 induction l with
 |nil=>intro i _;rfl
 |cons a l ih =>
  intro i h
  have h1:a≠126:=h a (List.mem_cons_self ..)
  unfold Ie
  rw[if_neg h1]
  exact ih _ fun b hb=>h b (List.mem_cons_of_mem _ hb)
theorem q9 {s:Ae} (h:St s) {p:AB} (hp:Na s p):∃b,D6 (s,p)=some (b,0)∧(b||DG p)=true:=by
 have hf:Uw p:=by
  rcases hp with hp|hp
  ·exact (Q2 (MO h hp)).1
  ·rw[hp];exact ⟨by simp,by simp[maxLen],fun m hm=>by cases hm⟩
 obtain⟨b,b1,b2⟩:=Pn.YJ h.f h.ok h.chk hf
 refine ⟨b,b1,?_⟩
 rcases hp with hp|hp
 ·rw[b2.2 hp];rfl
 ·subst hp
  rw[show DG (0,(0,[]))=true from by decide,Bool.or_true]
theorem Adk {s:Ae} (h:St s) {x:AV} (hx:Fh s x):IE (s,x)=some true:=by
 have hw:=sS h hx
 have hc:=oR h hx
 have hxx:=hx
 obtain⟨⟨d,⟨⟩⟩,now,rg,q,lk,rs,td,ag,pu,ey,ga,ca,wn,ti,gr,bu,cm,se⟩:=x
 have hd:BT d:=hx.disk
 have hq:UB s q:=hx.seq
 have hag:0≤ag∧ag≤1048576:=hx.age
 have hwn:0≤wn∧wn≤1048576:=hx.wrong
 have hti:0≤ti∧ti≤1073741824:=hx.tick
 have hG:DD s now:=hx.now
 have hrg:Ld.IV rg:=hx.rung
 have hlk:JI lk:=hx.link
 have hrs:RV rs:=hx.rest
 obtain⟨b,p1,p2⟩:=q9 h (p:=td) hx.told
 have n1:=h.so.n1;have n2:=h.so.n2
 have q0:=hq.p0;have q1:=hq.p1;have q2:=hq.s0;have q3:=hq.s1
 have hbl:C1 (d,())=true:=(Qd (by have:=hd.hi;omega)).2 hd
 have hgo:=Ac9 (s:=s) (now:=now) (g:=0) (e:=0) (fun _=>h.so) h.chk (by rw[hG.may.st.n];omega)
 unfold wY at hgo
 rw[if_neg (by simp),if_neg (by simpa using hG),if_neg (by omega)] at hgo
 have hln:=Ld.Aar (s:=s) (r:=rg) (false,(false,(false,false))) h.f h.ok hrg
 have hfr:(Ig (lk,1)).2=0:=by
  unfold Ig
  rw[AG,(Qt hlk.last).2 hlk,Ag _ _ (by rfl),Ag _ _ (by simp)]
 have tail:Ad (D6 (s,td)) none (fun x3=>cnd (x3.1||DG td) (Ad (DS (s,((d,()),(now,(rg,(q,(lk,(rs,(td,(ag,(pu,(ey,(ga,(ca,(wn,(ti,(gr,(bu,(cm,se))))))))))))))))))) none (fun x4=>cnd x4 (Ad (DR (s,((d,()),(now,(rg,(q,(lk,(rs,(td,(ag,(pu,(ey,(ga,(ca,(wn,(ti,(gr,(bu,(cm,se))))))))))))))))))) none (fun x5=>some x5)) (some false))) (some false))=some true:=by
  rw[Ab _ _ p1,Af _ _ p2,Ab _ _ hw,Af _ _ rfl,Ab _ _ hc]
 unfold IE CA
 try simp only
 rw[AG,hbl,Ag _ _ (by simp;omega),Ab _ _ hgo,Ag _ _ (by rfl),Ab _ _ hln,Ag _ _ (by rfl),AG,hfr,Ag _ _ (by rfl),Ag _ _ (decide_eq_false (by have:=hrs.1;omega))]
 rcases hrs.2 with e|⟨t,e,et⟩
 ·subst e
  rw[Ag _ _ (by simp[Aa])]
  exact tail
 ·subst e
  rw[Af _ _ (decide_eq_true (by rw[EY];have:=Ap t;omega)),Ab _ _ (show idx (126::t) 0=some 126 from rfl),Ag _ _ (by simp),Af _ _ (decide_eq_true (by rw[EY];have:=Ap t;omega)),AG,Ag _ _ (by
   have:Bz (126::t) 1=t:=rfl
   rw[this]
   unfold bytes_IndexByte
   rw[wG t 0 et]
   rfl)]
  exact tail
theorem qJ {s:Ae} (h:St s) {x:AV} {ip:BY} (hx:Fh s x) (hb:ip.2.2.1.length≤maxLen) :
 ∃y w asks lights out,Gx (s,(x,ip))=some (y,(lights,(out,0)))∧Fh s y ∧
  (ip.2.2.2.1=true→Ad3 s x y lights out)∧(ip.2.2.2.1=false→∃told well ups,Ran s x ip y w asks lights out told well ups):=by
 obtain⟨y,w,was,asks,lights,out,r1,r2,r3,r4⟩:=Ae0 h (ip:=ip) hx hb
 have hm:=Adk h hx
 have hl:Aa (LTd x).2.2≤1000:=by
  rcases hx.told with hp|hp
  ·have:=(MO h hp).n;show Aa x.2.2.2.2.2.2.1.2.2≤1000;omega
  ·show Aa x.2.2.2.2.2.2.1.2.2≤1000;rw[hp];simp[Aa]
 refine ⟨y,w,asks,lights,out,?_,r2,r3,r4⟩
 obtain⟨⟨d,⟨⟩⟩,now,rg,q,lk,rs,td,ag,pu,ey,ga,ca,wn,ti,gr,bu,cm,se⟩:=x
 unfold Gx Iq
 try simp only
 rw[Ab _ _ h.chk,Ag (b:=!((0:Int)==0)) _ _ (by rfl),Ab _ _ hm,Ag (b:=!true) _ _ rfl,Ab _ _ rfl,Ag _ _ (by rfl),Ab _ _ (XK hl),Ab _ _ r1]
theorem jG {s:Ae} (h:St s) {d:List Int} (hl:Aa d≤9223372036854775807):(BT d∧Cx (s,(d,()))=some (E5 s (CS d).1.2.1 d,0))∨(¬BT d∧∃y,Cx (s,(d,()))=some (y,8)):=by
 unfold Cx
 rw[Ab _ _ h.chk,Ag _ _ (by rfl),AG]
 by_cases hd:BT d
 ·have hb:C1 (d,())=true:=(Qd hl).2 hd
  left
  rw[hb,Ag (b:=!true) _ _ rfl]
  try simp only
  rw[Ab _ _ (gM h hd)]
  exact ⟨hd,rfl⟩
 ·have hb:C1 (d,())=false:=Bool.eq_false_iff.2 fun hh=>hd ((Qd hl).1 hh)
  right
  rw[hb,Af (b:=!false) _ _ rfl]
  exact ⟨hd,_,rfl⟩
theorem ZR {s:Ae} {d:List Int} {e:Int} (h:Aw s=some e) (h0:e≠0):∃y,Cx (s,(d,()))=some (y,e):=by
 unfold Cx
 rw[Ab _ _ h,Af _ _ (by simp[h0])]
 exact ⟨_,rfl⟩
end Go.Proofs.YtmmkfcpdfnjgjaaGreatDoor
