/- Part of a proof: plain readings of Go functions, their contracts, or plain facts of them. -/
import Derived.Test.YtmmkfcpdfnjgjaaGreatDoorTp2
namespace Go.Proofs.YtmmkfcpdfnjgjaaGreatDoor
open Go.Den
theorem DC {α:Type} {l:List α} {n:Int} (n0:0≤n) (h:n≤Aa l):Aa (AF l n)=n:=by
 unfold AF Aa at *
 rw[List.length_take];omega
theorem Et {α:Type} {l:List α} {n:Int} (n0:0≤n) (h:n≤Aa l):Aa (Bf l n)=Aa l-n:=by
 unfold Bf Aa at *
 rw[List.length_drop];omega
theorem Ahh {α:Type} {l:List α} {n:Int} {x:α} (h:x∈AF l n):x∈l:=List.mem_of_mem_take h
theorem RV {α:Type} {l:List α} {lo n:Int} (h0:0≤lo) (h1:0≤n):Ff l lo n=AF (Bf l lo) n:=by
 unfold Ff AF Bf
 rw[List.take_drop,show (lo+n).toNat=lo.toNat+n.toNat by omega]
theorem AdZ (n:Int):CE (wr .u64 n):=by
 unfold wr CE;rw[wrap_u64];omega
theorem TF (op:Go.BinOp) (x y:Int):CE (Aj op .u64 x y):=by
 unfold Aj;simp only;exact AdZ _
theorem En {n:Int} (h:CE n):wr .u64 n=n:=by
 unfold wr;rw[wrap_u64,Int.emod_eq_of_lt h.1 (by have:=h.2;omega)]
theorem PO (n:Int):wr .u8 n=n%256:=by
 unfold wr
 simp only[Go.IntKind.wrap,Go.IntKind.signed,Go.IntKind.bits]
 rfl
theorem bC (n:Int):wr .u32 n=n%4294967296:=by
 unfold wr;rw[wrap_u32]
theorem AhQ:∀r:Fin 256,Aj .or .u8 (r.val:Int) 128=(r.val%128+128:Nat):=by decide +kernel
theorem AgV:∀r:Fin 256,Aj .and .u8 (r.val:Int) 127=(r.val%128:Nat):=by decide +kernel
theorem Age {n:Int} (h:0≤n∧n≤255):Aj .or .u8 n 128=n%128+128:=by
 have:=AhQ ⟨n.toNat,by omega⟩
 simp only[Int.toNat_of_nonneg h.1] at this
 rw[this];omega
theorem kS {n:Int} (h:0≤n∧n≤255):Aj .and .u8 n 127=n%128:=by
 have:=AgV ⟨n.toNat,by omega⟩
 simp only[Int.toNat_of_nonneg h.1] at this
 rw[this];omega
theorem Ah1 (n:Int):Ay .u64 n 7=n/128:=by
 unfold Ay
 rw[Int.fdiv_eq_ediv_of_nonneg _ (by decide)]
 rfl
def D4:Nat→Int→List Int
 |0,n=>[n]
 |k+1,n=>if 127<n then (n%128+128)::D4 k (n/128) else [n]
theorem VF:∀(k:Nat) (n:Int),1≤Aa (D4 k n)∧Aa (D4 k n)≤(k:Int)+1
 |0,n=>by simp[D4,Aa]
 |k+1,n=>by
  rw[D4]
  split
  ·have:=VF k (n/128)
   rw[Ft];omega
  ·simp[Aa];omega
theorem XG:∀(k:Nat) (n:Int),0≤n→n<128 ^ (k+1)→∀b∈D4 k n,0≤b∧b≤255
 |0,n,h0,h1,b,hb=>by
  have:b=n:=by simpa[D4] using hb
  subst this;simp at h1;omega
 |k+1,n,h0,h1,b,hb=>by
  rw[D4] at hb
  split at hb
  ·rcases List.mem_cons.1 hb with rfl|hb
   ·omega
   ·have e:(128:Int) ^ (k+1+1)=128 ^ (k+1)*128:=Int.pow_succ _ _
    exact XG k (n/128) (by omega) (by rw[e] at h1;omega) b hb
  ·have:b=n:=by simpa using hb
   omega
abbrev smL (n:Int):List Int:=D4 10 n
theorem HF (n:Int):1≤Aa (smL n)∧Aa (smL n)≤11:=by
 have:=VF 10 n
 show 1≤Aa (D4 10 n)∧Aa (D4 10 n)≤11
 omega
theorem bH {n:Int} (h:CE n):CK n=some (smL n):=by
 unfold CK
 have h0:=h.1
 have h2:=h.2
 have hten:n<(128:Int) ^ 10:=by
  have:(128:Int) ^ 10=1180591620717411303424:=by decide
  omega
 refine Fe (fun z:Int×List Int=>0≤z.1∧∃k:Nat,k≤10∧z.1<128 ^ k∧Aa z.2=10-(k:Int)∧z.2++D4 k z.1=smL n) (fun z=>z.1.toNat) (fun r=>r=some (smL n)) ?_ AE (n,[]) ⟨h0,10,Nat.le_refl _,hten,by simp[Aa],rfl⟩ (by rw[GX];simp only;omega)
 rintro⟨m,out⟩ ⟨m0,k,k1,mk,hl,he⟩
 simp only at m0 mk hl he
 try simp only
 by_cases c:127<m
 ·cases k with
  |zero=>exfalso;simp at mk;omega
  |succ k =>
   have e8:wr .u8 m=m%256:=PO m
   rw[Af _ _ (decide_eq_true c),e8,Age (by omega),Af _ _ (BN (l:=out) (by omega)),Ah1]
   refine ⟨⟨by simp only;omega,k,by omega,?_,?_,?_⟩,(by show (m/128).toNat<m.toNat;omega)⟩
   ·have e:(128:Int) ^ (k+1)=128 ^ k*128:=Int.pow_succ _ _
    simp only;rw[e] at mk;omega
   ·simp only;rw[ES];omega
   ·simp only
    rw[←he,D4,if_pos c,show m%256%128=m%128 by omega]
    simp
 ·have e8:wr .u8 m=m:=by rw[PO];omega
  rw[Ag _ _ (decide_eq_false c),e8,Af _ _ (BN (l:=out) (by omega))]
  have:D4 k m=[m]:=by
   cases k with
   |zero=>rfl
   |succ k=>rw[D4,if_neg c]
  rw[this] at he
  show some (out++[m]) = _
  rw[he]
theorem YO {l:List Int} (hl:Aa l≤1000000):∃v k e,Dn l=some (v,(k,e))∧CE v∧0≤k∧k≤Aa l∧(e=0∨e=8)∧(e=0→1≤k):=by
 have z64:CE 0:=⟨by decide,by decide⟩
 have hn:=Ar l
 unfold Dn
 refine AH (fun z:Int×Int=>z.2) (Aa l) (fun _=>True) (fun r=>∃v k e,r=some (v,(k,e))∧CE v∧0≤k∧k≤Aa l∧(e=0∨e=8)∧(e=0→1≤k)) (by omega) (by simp) hn trivial (fun z _ i0 i1=>?_) (fun z _ hz=>?_)
 ·obtain⟨a,i⟩:=z
  simp only at i0 i1
  obtain⟨b,hb,_⟩:=Au i0 i1
  try simp only
  have bad:∃v k e,(some (0,(0,8)):Option (Int×Int×Int))=some (v,(k,e))∧CE v∧0≤k∧k≤Aa l∧(e=0∨e=8)∧(e=0→1≤k):=⟨0,0,8,rfl,z64,by omega,by omega,.inr rfl,fun h=>by cases h⟩
  rw[Af _ _ (decide_eq_true i1),Ab _ _ hb,Ak (7*i) (by omega) (by omega),Ak (i+1) (by omega) (by omega)]
  rw[AT]
  split
  ·exact bad
  rw[Af _ _ (decide_eq_true (by omega)),AT]
  split
  ·rw[AT]
   split
   ·exact bad
   ·exact ⟨_,_,_,rfl,TF _ _ _,by omega,by omega,.inl rfl,fun _=>by omega⟩
  ·exact ⟨rfl,trivial⟩
 ·obtain⟨a,i⟩:=z
  simp only at hz
  subst hz
  try simp only
  rw[Ag _ _ (decide_eq_false (by omega))]
  exact ⟨0,0,8,rfl,z64,by omega,by omega,.inr rfl,fun h=>by cases h⟩
theorem zA {l:List Int} (hl:Aa l≤1000000):∃v e,F4 l=some (v,e)∧CE v:=by
 have z64:CE 0:=⟨by decide,by decide⟩
 have hn:=Ar l
 unfold F4
 rw[AT]
 split
 ·exact ⟨0,8,rfl,z64⟩
 refine AH (fun z:Int×Int=>z.2) (Aa l) (fun z=>CE z.1) (fun r=>∃v e,r=some (v,e)∧CE v) (by omega) (by simp) hn z64 (fun z hI i0 i1=>?_) (fun z hI hz=>?_)
 ·obtain⟨a,i⟩:=z
  simp only at i0 i1
  obtain⟨b,hb,_⟩:=Au i0 i1
  try simp only
  rw[Af _ _ (decide_eq_true i1),Ab _ _ hb,Ak (8*i) (by omega) (by omega),Ak (i+1) (by omega) (by omega),Af _ _ (decide_eq_true (by omega))]
  exact ⟨rfl,(TF .or a (Bd .u64 (wr .u64 b) (8*i)):_)⟩
 ·obtain⟨a,i⟩:=z
  simp only at hz hI
  subst hz
  try simp only
  rw[Ag _ _ (decide_eq_false (by omega))]
  exact ⟨a,0,rfl,hI⟩
theorem ZR {b:List Int} {bad:Bool} {s:Ad} {most:Int} (hb:Aa b≤1000000) (m0:0≤most) (m1:most≤1152921504606846976):∃b' bad' n,BD (((b,bad),s),most)=some (((b',bad'),s),n)∧Aa b'≤Aa b∧0≤n∧n≤most:=by
 obtain⟨v,k,e,h1,h2,h3,h4,h5,h6⟩:=YO hb
 unfold BD
 try simp only
 rw[Ab _ _ h1,En (n:=most) ⟨m0,by omega⟩]
 try simp only
 rw[AT]
 split
 ·exact ⟨b,true,0,rfl,Int.le_refl _,by omega,by omega⟩
 ·rename_i hc
  simp only[Bool.or_eq_true,decide_eq_true_eq,not_or,Int.not_lt] at hc
  have v0:=h2.1
  have hd:=Et (l:=b) h3 h4
  rw[Af _ _ (by simp;omega),Ak v (by omega) (by omega)]
  exact ⟨_,bad,v,rfl,by omega,h2.1,hc.2⟩
theorem AgC {b:List Int} {bad:Bool} {s:Ad} {n:Int} (hb:Aa b≤1000000) (n0:0≤n) (n1:n≤1000):∃b' bad' l,CI (((b,bad),s),n)=some (((b',bad'),s),l)∧Aa b'≤Aa b∧Aa l=n∧∀m∈l,0≤m∧m≤1048576:=by
 unfold CI
 try simp only
 refine AH (fun z:List Int×Int×FD=>z.2.1) n (fun z=>Aa z.1=z.2.1∧(∀m∈z.1,0≤m∧m≤1048576)∧Aa z.2.2.1.1≤Aa b∧z.2.2.2=s) (fun r=>∃b' bad' l,r=some (((b',bad'),s),l)∧Aa b'≤Aa b∧Aa l=n∧∀m∈l,0≤m∧m≤1048576) (by omega) (by simp) n0 ⟨rfl,fun m hm=>(by cases hm),Int.le_refl _,rfl⟩ (fun z hI i0 i1=>?_) (fun z hI hz=>?_)
 ·obtain⟨l,i,⟨⟨c,bd⟩,s'⟩⟩:=z
  obtain⟨hl,hm,hc,hs⟩:=hI
  simp only at i0 i1 hl hm hc hs
  subst hs
  obtain⟨b',bad',k,h1,h2,h3,h4⟩:=ZR (b:=c) (bad:=bd) (s:=s') (most:=1048576) (by omega) (by decide) (by decide)
  try simp only
  rw[Af _ _ (decide_eq_true i1),Ab _ _ h1]
  try simp only
  rw[Af _ _ (BN (l:=l) (by omega)),Ak (i+1) (by omega) (by omega)]
  refine ⟨rfl,by simp only;rw[ES,hl],fun m hmm=>?_,by simp only;omega,rfl⟩
  rcases List.mem_append.1 hmm with hmm|hmm
  ·exact hm m hmm
  ·have:m=k:=by simpa using hmm
   omega
 ·obtain⟨l,i,⟨⟨c,bd⟩,s'⟩⟩:=z
  obtain⟨hl,hm,hc,hs⟩:=hI
  simp only at hz hl hm hc hs
  subst hs hz
  try simp only
  rw[Ag _ _ (decide_eq_false (by omega))]
  exact ⟨c,bd,l,rfl,hc,hl,hm⟩
structure zC (p:Az):Prop where
 c:0≤p.1∧p.1≤1048576
 o:0≤p.2.1∧p.2.1≤1048576
 n:Aa p.2.2≤8
 m:∀m∈p.2.2,0≤m∧m≤1048576
theorem Agj {b:List Int} {bad:Bool} {s:Ad} (hb:Aa b≤1000000):∃b' bad' l,CV ((b,bad),s)=some (((b',bad'),s),l)∧Aa b'≤Aa b∧Aa l≤8∧∀p∈l,zC p:=by
 unfold CV
 obtain⟨b1,bad1,n,h1,h2,h3,h4⟩:=ZR (b:=b) (bad:=bad) (s:=s) (most:=8) hb (by decide) (by decide)
 rw[Ab _ _ h1]
 try simp only
 refine AH (fun z:List Az×Int×FD=>z.2.1) n (fun z=>Aa z.1=z.2.1∧(∀m∈z.1,zC m)∧Aa z.2.2.1.1≤Aa b∧z.2.2.2=s) (fun r=>∃b' bad' l,r=some (((b',bad'),s),l)∧Aa b'≤Aa b∧Aa l≤8∧∀p∈l,zC p) (by omega) (by simp) h3 ⟨rfl,fun m hm=>(by cases hm),h2,rfl⟩ (fun z hI i0 i1=>?_) (fun z hI hz=>?_)
 ·obtain⟨l,i,⟨⟨c,bd⟩,s'⟩⟩:=z
  obtain⟨hl,hm,hc,hs⟩:=hI
  simp only at i0 i1 hl hm hc hs
  subst hs
  obtain⟨c2,d2,k2,a1,a2,a3,a4⟩:=ZR (b:=c) (bad:=bd) (s:=s') (most:=1048576) (by omega) (by decide) (by decide)
  obtain⟨c3,d3,k3,e1,e2,e3,e4⟩:=ZR (b:=c2) (bad:=d2) (s:=s') (most:=1048576) (by omega) (by decide) (by decide)
  obtain⟨c4,d4,k4,f1,f2,f3,f4⟩:=ZR (b:=c3) (bad:=d3) (s:=s') (most:=8) (by omega) (by decide) (by decide)
  obtain⟨c5,d5,k5,g1,g2,g3,g4⟩:=AgC (b:=c4) (bad:=d4) (s:=s') (n:=k4) (by omega) (by omega) (by omega)
  try simp only
  rw[Af _ _ (decide_eq_true i1),Ab _ _ a1,Ab _ _ e1,Ab _ _ f1,Ab _ _ g1]
  try simp only
  rw[Af _ _ (BN (l:=l) (by omega)),Ak (i+1) (by omega) (by omega)]
  refine ⟨rfl,by simp only;rw[ES,hl],fun m hmm=>?_,by simp only;omega,rfl⟩
  rcases List.mem_append.1 hmm with hmm|hmm
  ·exact hm m hmm
  ·have:m=(k2,(k3,k5)):=by simpa using hmm
   subst this
   exact ⟨⟨a3,a4⟩,⟨e3,e4⟩,by show Aa k5≤8;omega,g4⟩
 ·obtain⟨l,i,⟨⟨c,bd⟩,s'⟩⟩:=z
  obtain⟨hl,hm,hc,hs⟩:=hI
  simp only at hz hl hm hc hs
  subst hs hz
  try simp only
  rw[Ag _ _ (decide_eq_false (by omega))]
  exact ⟨c,bd,l,rfl,hc,by omega,hm⟩
def BP (l:List Int):List Int:=l.flatMap smL
theorem Gf:∀l:List Int,0≤Aa (BP l)∧Aa (BP l)≤11*Aa l
 |[]=>by simp[BP,Aa]
 |n::l=>by
  have:=Gf l
  have:=HF n
  have e:BP (n::l)=smL n++BP l:=rfl
  rw[e,AV,Ft];omega
theorem IU (l m:List Int):BP (l++m)=BP l++BP m:=by unfold BP;rw[List.flatMap_append]
theorem Sc {A:Type} {bad:A} {F:List Int×Int→Step (List Int×Int) A} {l b0:List Int} (P:A→Prop) (hl:Aa l≤1000) (hb:Aa b0≤1000000) (hx:∀n∈l,CE n)
 (hF:∀b i n sm,0≤i→i<Aa l→Aa b≤2000000→idx l i=some n→CK (wr .u64 n)=some sm→Aa sm≤11→F (b,i)=.next (b++sm,i+1)) (hK:∃r,F (b0++BP l,Aa l)=.done r∧P r):P (iter bad F AE (b0,0)):=by
 have hn:=Ar l
 have step:∀(i:Int) n,idx l i=some n→BP (AF l (i+1))=BP (AF l i)++smL n:=fun i n hi=>by
  obtain⟨i0,i1,_⟩:=An hi
  have e:AF l (i+1)=AF l i++[n]:=by
   unfold AF
   rw[show (i+1).toNat=i.toNat+1 by omega,List.take_add_one]
   rw[Bw i0] at hi
   rw[hi];rfl
  rw[e,IU]
  simp[BP]
 refine AH (fun z:List Int×Int=>z.2) (Aa l) (fun z=>z.1=b0++BP (AF l z.2)) P (by omega) (by simp) hn (by simp[AF,BP]) (fun z hI i0 i1=>?_) (fun z hI hz=>?_)
 ·obtain⟨b,i⟩:=z
  simp only at hI i0 i1
  obtain⟨n,hn',hm⟩:=Au i0 i1
  have hlt:=DC (l:=l) i0 (by omega)
  have hp:=Gf (AF l i)
  rw[hF b i n (smL n) i0 i1 (by rw[hI,AV];omega) hn' (by rw[En (hx n hm)];exact bH (hx n hm)) (HF n).2]
  refine ⟨rfl,?_⟩
  simp only
  rw[step i n hn',hI,List.append_assoc]
 ·obtain⟨b,i⟩:=z
  simp only at hI hz
  subst hz
  have:AF l (Aa l)=l:=by unfold AF Aa;rw[Int.toNat_natCast,List.take_length]
  rw[this] at hI
  obtain⟨r,hr,hP⟩:=hK
  rw[hI,hr]
  exact hP
theorem Ha {b sm:List Int} (hb:Aa b≤3000000) (hs:Aa sm≤1000000):(true&&AS (Aa b+Aa sm) 1)=true:=by
 rw[Bool.true_and];exact room_le (by omega)
theorem Sd {S A:Type} {b l:List Int} {i n:Int} {sm:List Int} {bad:Step S A} {f:List Int→Int→Step S A} {e:Step S A} (i0:0≤i) (i1:i<Aa l) (hl:Aa l≤1000) (hb:Aa b≤2000000) (hi:idx l i=some n) (hs:CK (wr .u64 n)=some sm) (hm:Aa sm≤11) :
 cnd (decide (i<Aa l)) (Ae (idx l i) bad (fun x2=>(Ae (CK (wr .u64 x2)) bad (fun x3=>(cnd (true&&(AS ((Aa b)+(Aa x3)) 1)) (f (b++x3) (wr .i64 (i+1))) bad))))) e=f (b++sm) (i+1):=by
 rw[Af _ _ (decide_eq_true i1),Ab _ _ hi,Ab _ _ hs,Af _ _ (Ha (by omega) (by omega)),Ak (i+1) (by omega) (by omega)]
structure Er (p:Az):Prop where
 c:1≤p.1∧p.1≤1048576
 o:0≤p.2.1∧p.2.1≤p.1-1
 n:1≤Aa p.2.2∧Aa p.2.2≤8
 m:∀m∈p.2.2,0≤m∧m≤1048576
def J9 (p:Az):List Int:=(p.1::(p.2.1::(Aa p.2.2::[])))++p.2.2
def Hd (l:List Az):List Int:=Aa l::l.flatMap J9
theorem AdL (a:Int):Bz (a::[])=true↔1≤a∧a≤1048576:=by
 unfold Bz;simp
theorem JT {n:Int} (h0:0≤n) (h1:n≤9223372036854775807):CE n:=⟨h0,by omega⟩
def Qo (l:List Az) (r:Option (List Int×Int)):Prop:=∃b e,r=some (b,e)∧Aa b≤1000∧((e=0∧Aa l≤8∧(∀p∈l,Er p)∧b=BP (Hd l))∨(e≠0∧¬(Aa l≤8∧∀p∈l,Er p)))
def Tu (l:List Az) (z:Int×List Int):Prop:=z.2=BP (Aa l::(AF l z.1).flatMap J9)∧Aa z.2≤11+121*z.1∧∀j p,j<z.1→idx l j=some p→Er p
theorem Qp (l:List Az) (hf:∀p∈l,-9223372036854775808≤p.1∧p.1≤9223372036854775807):Qo l (EB l):=by
 have hl0:=Ar l
 unfold EB
 rw[AT]
 split
 ·rename_i h
  exact ⟨[],4,rfl,by simp[Aa],.inr ⟨by decide,fun hh=>by have:=hh.1;simp at h;omega⟩⟩
 rename_i h8
 simp only[decide_eq_true_eq,Int.not_lt] at h8
 refine Sc (l:=Aa l::[]) (b0:=[]) (Qo l) (by simp[Aa]) (by simp[Aa]) (fun n hn=>by simp at hn;subst hn;exact JT hl0 (by omega)) (fun b i n sm i0 i1 hb hi hs hm=>?_) ⟨_,Ag _ _ (decide_eq_false (by simp only;omega)),?_⟩
 ·exact Sd (f:=fun b i=>.next (b,i)) i0 i1 (by simp[Aa]) hb hi hs hm
 have pre:∀i:Int,0≤i→i<Aa l→∀p,idx l i=some p→(AF l (i+1)).flatMap J9=(AF l i).flatMap J9++J9 p:=fun i i0 i1 p hp=>by
  have e:AF l (i+1)=AF l i++[p]:=by
   unfold AF
   rw[show (i+1).toNat=i.toNat+1 by omega,List.take_add_one]
   rw[Bw i0] at hp
   rw[hp];rfl
  rw[e,List.flatMap_append];simp
 have hI0:Tu l (0,[]++BP (Aa l::[])):=by
  have h1:=Gf (Aa l::[])
  have e:Aa (Aa l::[])=1:=by simp[Aa]
  refine ⟨by simp[AF],?_,fun j p hj hp=>absurd (An hp).1 (by simp only at hj;omega)⟩
  simp only[List.nil_append];omega
 refine AH (fun z:Int×List Int=>z.1) (Aa l) (Tu l) (Qo l) (by omega) (by simp) hl0 hI0 (fun z hI i0 i1=>?_) (fun z hI hz=>?_)
 ·obtain⟨i,b⟩:=z
  obtain⟨hb,hbl,hj⟩:=hI
  simp only at i0 i1 hb hbl hj
  obtain⟨p,hp,hpm⟩:=Au i0 i1
  have hpl:=Ar p.2.2
  have hpf:=hf p hpm
  have bad:∀ {A:Type} {c:A},¬Er p→∃b e,(some ([],170):Option (List Int×Int))=some (b,e)∧Aa b≤1000∧((e=0∧Aa l≤8∧(∀p∈l,Er p)∧b=BP (Hd l))∨(e≠0∧¬(Aa l≤8∧∀p∈l,Er p))):=fun hn=>⟨[],170,rfl,by simp[Aa],.inr ⟨by decide,fun hh=>hn (hh.2 p hpm)⟩⟩
  try simp only
  rw[Af _ _ (decide_eq_true i1),Ab _ _ hp,AJ,AT]
  split
  ·rename_i hc
   refine bad (A:=Unit) (c:=()) fun hok=>?_
   have hcc:=hok.c
   rw[Ak (p.1-1) (by omega) (by omega),(AdL p.1).2 hok.c,(Du _ _ _).2 hok.o,(Du _ _ _).2 hok.n] at hc
   simp at hc
  rename_i hc
  simp only[Bool.or_eq_true,Bool.not_eq_true',not_or,Bool.not_eq_false] at hc
  obtain⟨⟨hc1,hc2⟩,hc3⟩:=hc
  have hc1:=(AdL _).1 hc1
  rw[Ak (p.1-1) (by omega) (by omega)] at hc2
  have hc2:=(Du _ _ _).1 hc2
  have hc3:=(Du _ _ _).1 hc3
  refine Sc (l:=p.1::(p.2.1::(Aa p.2.2::[]))) (b0:=b) (fun R=>C8 (fun z:Int×List Int=>z.1) (Tu l) (Qo l) i R) (by simp[Aa]) (by omega) (fun n hn=>?_) (fun b i n sm i0 i1 hb hi hs hm=>?_) ⟨_,Ag _ _ (decide_eq_false (by simp only;omega)),?_⟩
  ·simp only[List.mem_cons,List.not_mem_nil,or_false] at hn
   rcases hn with rfl|rfl|rfl<;>exact JT (by omega) (by omega)
  ·exact Sd (f:=fun b i=>.next (b,i)) i0 i1 (by simp[Aa]) hb hi hs hm
  have hb3:=Gf (p.1::(p.2.1::(Aa p.2.2::[])))
  have hb4:Aa (p.1::(p.2.1::(Aa p.2.2::[])))=3:=by simp[Aa]
  refine AH (fun z:Int×List Int=>z.1) (Aa p.2.2) (fun z=>z.2=b++BP ((p.1::(p.2.1::(Aa p.2.2::[])))++AF p.2.2 z.1)∧Aa z.2≤Aa b+33+11*z.1∧∀j m,j<z.1→idx p.2.2 j=some m→0≤m∧m≤1048576) (fun R=>C8 (fun z:Int×List Int=>z.1) (Tu l) (Qo l) i R) (by omega) (by simp) hpl ⟨by simp[AF],by simp only;rw[AV];omega,fun j m hj hm=>absurd (An hm).1 (by simp only at hj;omega)⟩ (fun z hI k0 k1=>?_) (fun z hI hz=>?_)
  ·obtain⟨k,b2⟩:=z
   obtain⟨q1,q2,q3⟩:=hI
   simp only at k0 k1 q1 q2 q3
   obtain⟨m,hm,hmm⟩:=Au k0 k1
   try simp only
   rw[Af _ _ (decide_eq_true k1),Ab _ _ hm,AJ,AT]
   split
   ·rename_i hc
    refine bad (A:=Unit) (c:=()) fun hok=>?_
    rw[(Du _ _ _).2 (hok.m m hmm)] at hc
    simp at hc
   rename_i hc
   simp only[Bool.not_eq_true',Bool.not_eq_false] at hc
   have hc:=(Du _ _ _).1 hc
   refine Sc (l:=m::[]) (b0:=b2) (fun R=>C8 (fun z:Int×List Int=>z.1) (fun z=>z.2=b++BP ((p.1::(p.2.1::(Aa p.2.2::[])))++AF p.2.2 z.1)∧Aa z.2≤Aa b+33+11*z.1∧∀j m,j<z.1→idx p.2.2 j=some m→0≤m∧m≤1048576) (fun R=>C8 (fun z:Int×List Int=>z.1) (Tu l) (Qo l) i R) k R) (by simp[Aa]) (by omega) (fun n hn=>?_) (fun b i n sm i0 i1 hb hi hs hm=>?_) ⟨_,Ag _ _ (decide_eq_false (by simp only;omega)),?_⟩
   ·simp at hn;subst hn;exact JT (by omega) (by omega)
   ·exact Sd (f:=fun b i=>.next (b,i)) i0 i1 (by simp[Aa]) hb hi hs hm
   ·rw[Ak (k+1) (by omega) (by omega)]
    have hsm:=HF m
    have e1:BP (m::[])=smL m:=by simp[BP]
    refine ⟨rfl,?_,?_,fun j m' hj' hm'=>?_⟩
    ·simp only
     have e:AF p.2.2 (k+1)=AF p.2.2 k++[m]:=by
      unfold AF
      rw[show (k+1).toNat=k.toNat+1 by omega,List.take_add_one]
      rw[Bw k0] at hm
      rw[hm];rfl
     rw[e,←List.append_assoc,IU,q1,List.append_assoc]
    ·simp only;rw[AV,e1];omega
    ·simp only at hj'
     by_cases ej:j=k
     ·subst ej;rw[hm] at hm';cases hm';exact hc
     ·exact q3 j m' (by omega) hm'
  ·obtain⟨k,b2⟩:=z
   obtain⟨q1,q2,q3⟩:=hI
   simp only at hz q1 q2 q3
   subst hz
   try simp only
   rw[Ag _ _ (decide_eq_false (by omega)),Ak (i+1) (by omega) (by omega)]
   have hwo:Er p:=⟨hc1,hc2,hc3,fun m hm=>by obtain⟨j,hj'⟩:=D9 hm;exact q3 j m (An hj').2.1 hj'⟩
   refine ⟨rfl,?_,by simp only;omega,fun j p' hj' hp'=>?_⟩
   ·simp only
    have e3:AF p.2.2 (Aa p.2.2)=p.2.2:=by unfold AF Aa;rw[Int.toNat_natCast,List.take_length]
    rw[e3] at q1
    rw[pre i i0 i1 p hp,q1,hb,←IU];rfl
   ·simp only at hj'
    by_cases ej:j=i
    ·subst ej;rw[hp] at hp';cases hp';exact hwo
    ·exact hj j p' (by omega) hp'
 ·obtain⟨i,b⟩:=z
  obtain⟨hb,hbl,hj⟩:=hI
  simp only at hz hb hbl hj
  subst hz
  try simp only
  rw[Ag _ _ (decide_eq_false (by omega))]
  have e3:AF l (Aa l)=l:=by unfold AF Aa;rw[Int.toNat_natCast,List.take_length]
  rw[e3] at hb
  exact ⟨b,0,rfl,by omega,.inl ⟨rfl,h8,fun p hp=>by obtain⟨j,hj'⟩:=D9 hp;exact hj j p (An hj').2.1 hj',hb⟩⟩
end Go.Proofs.YtmmkfcpdfnjgjaaGreatDoor
namespace Go.Proofs.YtmmkfcpdfnjgjaaGreatDoor
open Go.Den
theorem Sa (j:Nat):((2 ^ j:Nat):Int)=(2:Int) ^ j:=by rw[Int.natCast_pow];rfl
theorem Agl {i j:Nat} (h:i≤j):(2:Int) ^ i≤2 ^ j:=by
 rw[←Sa,←Sa];exact Int.ofNat_le.2 (Nat.pow_le_pow_right (by decide) h)
theorem oR {a d:Int} {j:Nat} (a0:0≤a) (a1:a<2 ^ j) (d0:0≤d) (h:a+d*2 ^ j<2 ^ 63) (hj:j≤63):Aj .or .u64 a (Bd .u64 d (j:Int))=a+d*2 ^ j:=by
 obtain⟨x,rfl⟩:=Int.eq_ofNat_of_zero_le a0
 obtain⟨y,rfl⟩:=Int.eq_ofNat_of_zero_le d0
 have he:((x+y*2 ^ j:Nat):Int)=(x:Int)+(y:Int)*2 ^ j:=by rw[Int.natCast_add,Int.natCast_mul,Sa]
 have hy:((y*2 ^ j:Nat):Int)=(y:Int)*2 ^ j:=by rw[Int.natCast_mul,Sa]
 have h1:x<2 ^ j:=by rw[←Sa] at a1;exact Int.ofNat_lt.1 a1
 have h2:x+y*2 ^ j<2 ^ 63:=by
  rw[←he,←Sa 63] at h
  exact Int.ofNat_lt.1 h
 have h64:(2:Nat) ^ 64=2*2 ^ 63:=by decide
 have hs:Bd .u64 (y:Int) (j:Int)=((y*2 ^ j:Nat):Int):=by
  unfold Bd
  rw[show min ((j:Int)).toNat Go.IntKind.u64.bits=j by simp only[Go.IntKind.bits];omega,←hy]
  exact Kj (by omega)
 rw[hs,oS (by omega) (by omega)]
 have e:=Nat.two_pow_add_eq_or_of_lt h1 y
 rw[Nat.mul_comm] at e
 rw[Nat.or_comm,←e,←he]
 congr 1
 omega
theorem AbE {k:Nat} {m:Int} (h:127<m):D4 (k+1) m=(m%128+128)::D4 k (m/128):=by rw[D4,if_pos h]
theorem AdI {k:Nat} {m:Int} (h:¬127<m):D4 k m=[m]:=by
 cases k with
 |zero=>rfl
 |succ k=>rw[D4,if_neg h]
theorem kF {n:Int} {rest:List Int} (n0:0≤n) (n1:n<4611686018427387904) (hr:Aa rest≤1000000):Dn (smL n++rest)=some (n,(Aa (smL n),0)):=by
 have hsl:=HF n
 have hll:=AV (smL n) rest
 have hrn:=Ar rest
 unfold Dn
 refine AH (fun z:Int×Int=>z.2) (Aa (smL n++rest)) (fun z=>∃(j k:Nat) (m:Int) (pre:List Int),z.2=(j:Int)∧k+j=10∧Aa pre=(j:Int)∧smL n=pre++D4 k m∧0≤z.1∧z.1<2 ^ (7*j)∧0≤m∧n=z.1+m*2 ^ (7*j)∧(0<j→1≤m)) (fun r=>r=some (n,(Aa (smL n),0))) (by omega) (by simp) (by simp only;omega) ⟨0,10,n,[],rfl,rfl,rfl,rfl,by simp,by simp,n0,by simp,fun h=>absurd h (by simp)⟩ (fun z hI i0 i1=>?_) (fun z hI hz=>?_)
 ·obtain⟨a,i⟩:=z
  obtain⟨j,k,m,pre,hi,hk,hp,hs,a0,a1,m0,hn,hm1⟩:=hI
  simp only at i0 i1 hi a0 a1 hn
  subst hi
  have hpow:(0:Int)<2 ^ (7*j):=Int.pow_pos (by decide)
  have hj8:j≤8:=by
   apply Classical.byContradiction
   intro hj
   have h1:=hm1 (by omega)
   have h2:(2:Int) ^ 63≤2 ^ (7*j):=Agl (by omega)
   have h3:(1:Int)*2 ^ (7*j)≤m*2 ^ (7*j):=Int.mul_le_mul_of_nonneg_right h1 (Int.le_of_lt hpow)
   have h4:(2:Int) ^ 63=9223372036854775808:=by decide
   omega
  have hle:∀d,0≤d→d≤m→a+d*2 ^ (7*j)<2 ^ 63:=fun d d0 dm=>by
   have h3:d*2 ^ (7*j)≤m*2 ^ (7*j):=Int.mul_le_mul_of_nonneg_right dm (Int.le_of_lt hpow)
   have h4:(2:Int) ^ 63=9223372036854775808:=by decide
   omega
  have e9:((j:Int)==9)=false:=by apply beq_false_of_ne;omega
  have e7:(7*(j:Int))=((7*j:Nat):Int):=by push_cast;rfl
  have hidx:∀b r,D4 k m=b::r→idx (smL n++rest) (j:Int)=some b:=fun b r hb=>by
   rw[hs,hb,List.append_assoc,AaO (by omega),if_neg (by omega),hp,Int.sub_self];rfl
  try simp only
  by_cases c:127<m
  ·obtain⟨k',rfl⟩:∃k',k=k'+1:=⟨k-1,by omega⟩
   have hst:=AbE (k:=k') c
   have ho:=oR (a:=a) (d:=m%128) (j:=7*j) a0 a1 (by omega) (hle _ (by omega) (by omega)) (by omega)
   rw[Af _ _ (decide_eq_true i1),Ab _ _ (hidx _ _ hst),e9,Bool.false_and,Ag _ _ rfl,Ak (7*(j:Int)) (by omega) (by omega),Af _ _ (decide_eq_true (by omega)),Ag _ _ (decide_eq_false (by omega)),kS (by omega),show (m%128+128)%128=m%128 by omega,En (n:=m%128) ⟨by omega,by omega⟩,e7,ho,Ak ((j:Int)+1) (by omega) (by omega)]
   refine ⟨rfl,j+1,k',m/128,pre++[m%128+128],by simp,by omega,by rw[ES];omega,by rw[hs,hst];simp,?_,?_,by omega,?_,fun _=>by omega⟩
   ·simp only
    have:0≤m%128*2 ^ (7*j):=Int.mul_nonneg (by omega) (Int.le_of_lt hpow)
    omega
   ·simp only
    have e:(2:Int) ^ (7*(j+1))=2 ^ (7*j)*128:=by rw[show 7*(j+1)=7*j+7 by omega,Int.pow_add];rfl
    have:m%128*2 ^ (7*j)≤127*2 ^ (7*j):=Int.mul_le_mul_of_nonneg_right (by omega) (Int.le_of_lt hpow)
    rw[e];omega
   ·simp only
    have e:(2:Int) ^ (7*(j+1))=128*2 ^ (7*j):=by rw[show 7*(j+1)=7+7*j by omega,Int.pow_add];rfl
    rw[e,←Int.mul_assoc,Int.add_assoc,←Int.add_mul,show m%128+m/128*128=m by omega]
    exact hn
  ·have hse:=AdI (k:=k) c
   have ho:=oR (a:=a) (d:=m) (j:=7*j) a0 a1 m0 (hle _ m0 (Int.le_refl _)) (by omega)
   have hl1:Aa (smL n)=(j:Int)+1:=by rw[hs,hse,AV,hp];simp[Aa]
   rw[Af _ _ (decide_eq_true i1),Ab _ _ (hidx _ _ hse),e9,Bool.false_and,Ag _ _ rfl,Ak (7*(j:Int)) (by omega) (by omega),Af _ _ (decide_eq_true (by omega)),Af _ _ (decide_eq_true (by omega)),Ag _ _ (by
    apply Bool.eq_false_iff.2
    intro hh
    simp only[Bool.and_eq_true,beq_iff_eq,decide_eq_true_eq] at hh
    have:=hm1 (by omega)
    omega),kS (by omega),show m%128=m by omega,En (n:=m) ⟨by omega,by omega⟩,e7,ho,Ak ((j:Int)+1) (by omega) (by omega),←hn,hl1]
   exact rfl
 ·obtain⟨a,i⟩:=z
  obtain⟨j,k,m,pre,hi,hk,hp,hs,a0,a1,m0,hn,hm1⟩:=hI
  simp only at hz hi
  exfalso
  have:=VF k m
  have h2:Aa (smL n)=(j:Int)+Aa (D4 k m):=by rw[hs,AV,hp]
  omega
theorem lX {l r:List Int}:Bf (l++r) (Aa l)=r:=by
 unfold Bf Aa;rw[Int.toNat_natCast,List.drop_left]
theorem ZQ {n most:Int} {rest:List Int} {bad:Bool} {s:Ad} (n0:0≤n) (n1:n≤most) (hm:most≤1152921504606846976) (hr:Aa rest≤1000000):BD (((smL n++rest,bad),s),most)=some (((rest,bad),s),n):=by
 have hsl:=HF n
 have hll:=AV (smL n) rest
 have hrn:=Ar rest
 unfold BD
 try simp only
 rw[Ab _ _ (kF n0 (by omega) hr),En (n:=most) ⟨by omega,by omega⟩]
 try simp only
 rw[Ag _ _ (by simp;omega),Af _ _ (by simp;omega),Ak n (by omega) (by omega),lX]
theorem PC (n:Int) (l:List Int):BP (n::l)=smL n++BP l:=rfl
theorem AgB {l rest:List Int} {bad:Bool} {s:Ad} (hl:Aa l≤1000) (hm:∀m∈l,0≤m∧m≤1048576) (hr:Aa rest≤500000):CI (((BP l++rest,bad),s),Aa l)=some (((rest,bad),s),l):=by
 have hl0:=Ar l
 unfold CI
 try simp only
 refine AH (fun z:List Int×Int×FD=>z.2.1) (Aa l) (fun z=>z.1=AF l z.2.1∧z.2.2=((BP (l.drop z.2.1.toNat)++rest,bad),s)) (fun r=>r=some (((rest,bad),s),l)) (by omega) (by simp) hl0 ⟨by simp[AF],by simp⟩ (fun z hI i0 i1=>?_) (fun z hI hz=>?_)
 ·obtain⟨out,i,r⟩:=z
  obtain⟨ho,hr'⟩:=hI
  simp only at i0 i1 ho hr'
  subst hr'
  obtain⟨n,hn,hnm⟩:=Au i0 i1
  have hd:=Gi hn
  have hlt:=DC (l:=l) i0 (by omega)
  have hp:=Gf (l.drop (i+1).toNat)
  have hdl:Aa (l.drop (i+1).toNat)≤Aa l:=by unfold Aa;rw[List.length_drop];omega
  try simp only
  rw[Af _ _ (decide_eq_true i1),hd,PC,List.append_assoc,Ab _ _ (ZQ (hm n hnm).1 (hm n hnm).2 (by decide) (by rw[AV];omega))]
  try simp only
  rw[Af _ _ (BN (l:=out) (by rw[ho];omega)),Ak (i+1) (by omega) (by omega)]
  refine ⟨rfl,?_,rfl⟩
  simp only
  unfold AF at ho ⊢
  rw[show (i+1).toNat=i.toNat+1 by omega,List.take_add_one,ho]
  rw[Bw i0] at hn
  rw[hn];rfl
 ·obtain⟨out,i,r⟩:=z
  obtain⟨ho,hr'⟩:=hI
  simp only at hz ho hr'
  subst hz hr'
  try simp only
  rw[Ag _ _ (decide_eq_false (by omega)),ho]
  unfold AF Aa
  rw[Int.toNat_natCast,List.take_length,List.drop_length]
  exact rfl
theorem Agi {l:List Az} {rest:List Int} {bad:Bool} {s:Ad} (hl:Aa l≤8) (hm:∀p∈l,Er p) (hr:Aa rest≤100000):CV ((BP (Hd l)++rest,bad),s)=some (((rest,bad),s),l):=by
 have hl0:=Ar l
 have hbig:∀m:List Az,(∀p∈m,Er p)→Aa (BP (m.flatMap J9))≤121*Aa m:=fun m=>by
  induction m with
  |nil=>intro _;simp[BP,Aa]
  |cons p m ih =>
   intro h
   have:=ih fun q hq=>h q (List.mem_cons_of_mem _ hq)
   have hn:=(h p (by simp)).n
   have hp:=Gf (J9 p)
   have e:Aa (J9 p)=3+Aa p.2.2:=by unfold J9;rw[AV];simp[Aa]
   rw[List.flatMap_cons,IU,AV,Ft];omega
 unfold CV
 have e0:BP (Hd l)=smL (Aa l)++BP (l.flatMap J9):=rfl
 have hb0:=hbig l hm
 rw[e0,List.append_assoc,Ab _ _ (ZQ hl0 hl (by decide) (by rw[AV];omega))]
 try simp only
 refine AH (fun z:List Az×Int×FD=>z.2.1) (Aa l) (fun z=>z.1=AF l z.2.1∧z.2.2=((BP ((l.drop z.2.1.toNat).flatMap J9)++rest,bad),s)) (fun r=>r=some (((rest,bad),s),l)) (by omega) (by simp) hl0 ⟨by simp[AF],by simp⟩ (fun z hI i0 i1=>?_) (fun z hI hz=>?_)
 ·obtain⟨out,i,r⟩:=z
  obtain⟨ho,hr'⟩:=hI
  simp only at i0 i1 ho hr'
  subst hr'
  obtain⟨p,hn,hpm⟩:=Au i0 i1
  have hok:=hm p hpm
  have hd:=Gi hn
  have hlt:=DC (l:=l) i0 (by omega)
  have hb1:=hbig (l.drop (i+1).toNat) fun q hq=>hm q (List.mem_of_mem_drop hq)
  have hdl:Aa (l.drop (i+1).toNat)≤Aa l:=by unfold Aa;rw[List.length_drop];omega
  have hps:=Gf p.2.2
  have hc:=hok.c;have hof:=hok.o;have hnn:=hok.n
  have e1:BP (J9 p)=smL p.1++(smL p.2.1++(smL (Aa p.2.2)++BP p.2.2)):=by
   unfold J9;rw[IU,PC,PC,PC];simp[BP]
  have s1:=HF p.1;have s2:=HF p.2.1;have s3:=HF (Aa p.2.2)
  try simp only
  rw[Af _ _ (decide_eq_true i1),hd,List.flatMap_cons,IU,e1]
  simp only[List.append_assoc]
  rw[Ab _ _ (ZQ (by omega) hc.2 (by decide) (by simp only[AV];omega))]
  try simp only
  rw[Ab _ _ (ZQ hof.1 (by omega) (by decide) (by simp only[AV];omega))]
  try simp only
  rw[Ab _ _ (ZQ (by omega) hnn.2 (by decide) (by simp only[AV];omega))]
  try simp only
  rw[Ab _ _ (AgB (by omega) hok.m (by simp only[AV];omega))]
  try simp only
  rw[Af _ _ (BN (l:=out) (by rw[ho];omega)),Ak (i+1) (by omega) (by omega)]
  refine ⟨rfl,?_,rfl⟩
  simp only
  unfold AF at ho ⊢
  rw[show (i+1).toNat=i.toNat+1 by omega,List.take_add_one,ho]
  rw[Bw i0] at hn
  rw[hn];rfl
 ·obtain⟨out,i,r⟩:=z
  obtain⟨ho,hr'⟩:=hI
  simp only at hz ho hr'
  subst hz hr'
  try simp only
  rw[Ag _ _ (decide_eq_false (by omega)),ho]
  unfold AF Aa
  rw[Int.toNat_natCast,List.take_length,List.drop_length]
  exact rfl
theorem YH (l:List Int):bytes_Equal (l,l)=true:=by unfold bytes_Equal;simp
theorem Afp {l:List Az} (hl:Aa l≤8) (hm:∀p∈l,Er p):F7 (BP (Hd l))=some (l,0):=by
 unfold F7
 have h1:=Agi (l:=l) (rest:=[]) (bad:=false) (s:=(0,([],([],([],([],([],(0,(0,(0,(0,(0,[]))))))))))))  hl hm (by simp[Aa])
 rw[List.append_nil] at h1
 rw[Ab _ _ h1]
 obtain⟨b,e,h2,_,h3|h3⟩:=Qp l (fun p hp=>by have:=(hm p hp).c;omega)
 ·obtain⟨rfl,_,_,rfl⟩:=h3
  try simp only
  rw[Ab _ _ h2]
  try simp only
  rw[YH,Ag _ _ (by rfl)]
 ·exact absurd ⟨hl,hm⟩ h3.2
theorem Afq {b:List Int} (hb:Aa b≤1000000):∃l e,F7 b=some (l,e)∧Aa l≤8∧(∀p∈l,zC p):=by
 unfold F7
 obtain⟨b',bad',l,h1,h2,h3,h4⟩:=Agj (b:=b) (bad:=false) (s:=(0,([],([],([],([],([],(0,(0,(0,(0,(0,[])))))))))))) hb
 rw[Ab _ _ h1]
 obtain⟨w,e,g1,g2,g3⟩:=Qp l (fun p hp=>by have:=(h4 p hp).c;omega)
 try simp only
 rw[Ab _ _ g1,AT]
 split
 ·exact ⟨[],8,rfl,by simp[Aa],fun p hp=>by cases hp⟩
 ·exact ⟨l,0,rfl,h3,h4⟩
end Go.Proofs.YtmmkfcpdfnjgjaaGreatDoor
namespace Go.Proofs.YtmmkfcpdfnjgjaaGreatDoor
open Go.Den
theorem Oj (op:Go.BinOp) (x y:Int):Ax (Aj op .u32 x y):=by
 unfold Aj;simp only
 show Ax (Go.IntKind.u32.wrap _)
 rw[wrap_u32];unfold Ax;omega
theorem iS (x:Int):Ax (Ud .u32 x):=by unfold Ud;exact Oj _ _ _
theorem AdY (n:Int):Ax (wr .u32 n):=by rw[bC];unfold Ax;omega
theorem Afh {x:Int} (h:Ax x):0≤Aj .and .u32 x 15∧Aj .and .u32 x 15<16:=by
 rw[Mb h ⟨by decide,by decide⟩]
 have:x.toNat &&& (15:Int).toNat≤15:=Nat.and_le_right
 omega
theorem AhD {l:List Int} (hl:Aa l≤1000000):∃v,GL l=some v∧Ax v:=by
 have hn:=Ar l
 unfold GL
 rw[Af _ _ (by rfl)]
 refine AH (fun z:Int×Int×List Int=>z.2.1) (Aa l) (fun z=>Aa z.2.2=16) (fun r=>∃v,r=some v∧Ax v) (by omega) (by simp) hn (by rfl) (fun z hI i0 i1=>?_) (fun z hI hz=>?_)
 ·obtain⟨r,i,tb⟩:=z
  simp only at hI i0 i1
  obtain⟨b,hb,_⟩:=Au i0 i1
  try simp only
  rw[Af _ _ (decide_eq_true i1),Ab _ _ hb]
  have h1:=Afh (Oj .xor r (wr .u32 b))
  obtain⟨t1,e1,_⟩:=Au (l:=tb) h1.1 (by omega)
  have n1:RM tb 16 (Aj .and .u32 (Aj .xor .u32 r (wr .u32 b)) 15)=some t1:=by unfold RM;rw[if_pos hI];exact e1
  rw[Ab _ _ n1,Ab _ _ e1]
  have h2:=Afh (Oj .xor (Aj .xor .u32 (Ay .u32 r 4) t1) (wr .u32 (Ay .u8 b 4)))
  obtain⟨t2,e2,_⟩:=Au (l:=tb) h2.1 (by omega)
  have n2:RM tb 16 (Aj .and .u32 (Aj .xor .u32 (Aj .xor .u32 (Ay .u32 r 4) t1) (wr .u32 (Ay .u8 b 4))) 15)=some t2:=by unfold RM;rw[if_pos hI];exact e2
  rw[Ab _ _ n2,Ab _ _ e2,Ak (i+1) (by omega) (by omega)]
  exact ⟨rfl,hI⟩
 ·obtain⟨r,i,tb⟩:=z
  simp only at hI hz
  subst hz
  try simp only
  rw[Ag _ _ (decide_eq_false (by omega))]
  exact ⟨_,rfl,iS _⟩
def eG (l:List Int):Int:=(GL l).getD 0
theorem Aff {l:List Int} (hl:Aa l≤1000000):GL l=some (eG l)∧Ax (eG l):=by
 obtain⟨v,h1,h2⟩:=AhD hl
 unfold eG;rw[h1];exact ⟨rfl,h2⟩
def leB (w n:Nat):List Int:=(List.range w).map fun i=>((n/2 ^ (8*i)%256:Nat):Int)
theorem J2 (w n:Nat):Aa (leB w n)=w:=by unfold leB Aa;simp
theorem yV {w n:Nat} {i:Int} (i0:0≤i) (i1:i<w):idx (leB w n) i=some ((n/2 ^ (8*i.toNat)%256:Nat):Int):=by
 unfold leB
 rw[Bw i0,List.getElem?_map,List.getElem?_range (by omega)];rfl
theorem fP {w n:Nat}:∀b∈leB w n,0≤b∧b≤255:=fun b hb=>by
 unfold leB at hb
 obtain⟨i,_,rfl⟩:=List.mem_map.1 hb
 omega
theorem Ae6 {n:Nat} {i:Nat} (hi:8*i≤63):wr .u8 (Ay .u64 (n:Int) ((8*i:Nat):Int))=((n/2 ^ (8*i)%256:Nat):Int):=by
 rw[K7 n _ hi,Nat.shiftRight_eq_div_pow,PO];omega
theorem fX {w n:Nat} (hw:w≤8) (_hn:n<2 ^ 64) {A:Type} {bad:A} {F:Int×List Int→Step (Int×List Int) A} (P:A→Prop)
 (hF:∀(i:Int) out (y:Int),0≤i→i<(w:Int)→Aa out=(w:Int)→y=wr .u8 (Ay .u64 (n:Int) (8*i))→F (i,out)=.next (i+1,Bc out i y)) (hK:∃r,F ((w:Int),leB w n)=.done r∧P r):P (iter bad F AE (0,AQ (w:Int) 0)):=by
 refine AH (fun z:Int×List Int=>z.1) (w:Int) (fun z=>Aa z.2=w∧∀j,0≤j→j<z.1→idx z.2 j=idx (leB w n) j) P (by omega) (by simp) (by simp) ⟨Bn (by omega) _,fun j j0 j1=>absurd j1 (by simp only;omega)⟩ (fun z hI i0 i1=>?_) (fun z hI hz=>?_)
 ·obtain⟨i,out⟩:=z
  obtain⟨hl,hj⟩:=hI
  simp only at i0 i1 hl hj
  rw[hF i out _ i0 i1 hl rfl]
  refine ⟨rfl,by (try simp only);rw[BC];exact hl,fun j j0 j1=>?_⟩
  simp only at j1 ⊢
  rw[Dm i0 (by omega)]
  split
  ·rename_i e
   subst e
   rw[yV j0 i1]
   have e8:(8*j:Int)=((8*j.toNat:Nat):Int):=by omega
   rw[e8,Ae6 (by omega)]
  ·exact hj j j0 (by omega)
 ·obtain⟨i,out⟩:=z
  obtain⟨hl,hj⟩:=hI
  simp only at hz hl hj
  subst hz
  have:out=leB w n:=GU (by rw[J2];exact hl) fun j j0 j1=>hj j j0 (by omega)
  obtain⟨r,hr,hP⟩:=hK
  rw[this,hr];exact hP
theorem Ab1 {n:Int} (h:Ax n):F5 (n,4)=some (leB 4 n.toNat,0):=by
 obtain⟨x,rfl⟩:=Int.eq_ofNat_of_zero_le h.1
 have hx:x<2 ^ 32:=GA h
 have h64:(2:Nat) ^ 64=2 ^ 32*2 ^ 32:=by decide
 unfold F5
 try simp only
 rw[Ag _ _ (by rfl),Af _ _ (by rfl),Ak (8*4) (by decide) (by decide),Af _ _ (by rfl)]
 have hs:Ay .u64 (x:Int) (8*4)=0:=by
  rw[show (8*4:Int)=((32:Nat):Int) by rfl,K7 x 32 (by decide),Nat.shiftRight_eq_div_pow,Nat.div_eq_of_lt hx];rfl
 rw[hs,Ag _ _ (by rfl),Af _ _ (by rfl)]
 refine fX (w:=4) (n:=x) (by decide) (by omega) (fun r=>r=some (leB 4 (x:Int).toNat,0)) (fun i out y i0 i1 hl hy=>?_) ⟨_,Ag _ _ (by rfl),rfl⟩
 obtain⟨o,ho,_⟩:=Au (l:=out) i0 (by omega)
 try simp only
 rw[Af _ _ (decide_eq_true (by rw[Bn (by decide)];exact i1)),Ak (8*i) (by omega) (by omega),Af _ _ (decide_eq_true (by omega)),Ab _ _ ho,Ab _ _ ho,Ak (i+1) (by omega) (by omega),←hy]
theorem AgS {n:Int} (h:CE n):F5 (n,8)=some (leB 8 n.toNat,0):=by
 obtain⟨x,rfl⟩:=Int.eq_ofNat_of_zero_le h.1
 have hx:x<2 ^ 64:=QS h
 unfold F5
 try simp only
 rw[Ag _ _ (by rfl),Ag _ _ (by rfl),Af _ _ (by rfl)]
 refine fX (w:=8) (n:=x) (by decide) hx (fun r=>r=some (leB 8 (x:Int).toNat,0)) (fun i out y i0 i1 hl hy=>?_) ⟨_,Ag _ _ (by rfl),rfl⟩
 obtain⟨o,ho,_⟩:=Au (l:=out) i0 (by omega)
 try simp only
 rw[Af _ _ (decide_eq_true (by rw[Bn (by decide)];exact i1)),Ak (8*i) (by omega) (by omega),Af _ _ (decide_eq_true (by omega)),Ab _ _ ho,Ab _ _ ho,Ak (i+1) (by omega) (by omega),←hy]
theorem Ahz {w n:Nat} (w1:1≤w) (hw:w≤8) (hn:n<2 ^ (8*w)) (h63:n<2 ^ 63):F4 (leB w n)=some ((n:Int),0):=by
 unfold F4
 rw[J2,Ag _ _ (by simp;omega)]
 refine AH (fun z:Int×Int=>z.2) (w:Int) (fun z=>z.1=((n%2 ^ (8*z.2.toNat):Nat):Int)) (fun r=>r=some ((n:Int),0)) (by omega) (by simp) (by simp) (by simp[Nat.mod_one]) (fun z hI i0 i1=>?_) (fun z hI hz=>?_)
 ·obtain⟨a,i⟩:=z
  simp only at hI i0 i1
  obtain⟨j,rfl⟩:=Int.eq_ofNat_of_zero_le i0
  have hm:=Nat.mod_mul (x:=n) (a:=2 ^ (8*j)) (b:=256)
  have e256:(2:Nat) ^ (8*(j+1))=2 ^ (8*j)*256:=by rw[show 8*(j+1)=8*j+8 by omega,Nat.pow_add]
  have e8:(8*(j:Int))=((8*j:Nat):Int):=by push_cast;rfl
  have hmle:n%(2 ^ (8*j)*256)≤n:=Nat.mod_le _ _
  have hlt:n%2 ^ (8*j)<2 ^ (8*j):=Nat.mod_lt _ (Nat.pow_pos (by decide))
  have hsum:((n%2 ^ (8*j):Nat):Int)+((n/2 ^ (8*j)%256:Nat):Int)*2 ^ (8*j)=((n%2 ^ (8*(j+1)):Nat):Int):=by
   rw[e256,hm,Int.natCast_add,Int.natCast_mul,Sa,Int.mul_comm]
  have ho:=oR (a:=((n%2 ^ (8*j):Nat):Int)) (d:=((n/2 ^ (8*j)%256:Nat):Int)) (j:=8*j) (by omega) (by rw[←Sa];exact Int.ofNat_lt.2 hlt) (by omega) (by
   rw[hsum,←Sa,e256];exact Int.ofNat_lt.2 (Nat.lt_of_le_of_lt hmle h63)) (by omega)
  try simp only
  rw[Af _ _ (decide_eq_true i1),Ab _ _ (yV i0 i1),Ak (8*(j:Int)) (by omega) (by omega),Af _ _ (decide_eq_true (by omega)),Ak ((j:Int)+1) (by omega) (by omega)]
  simp only[Int.toNat_natCast] at hI ⊢
  rw[En (n:=((n/2 ^ (8*j)%256:Nat):Int)) ⟨by omega,by omega⟩,hI,e8,ho]
  refine ⟨rfl,?_⟩
  simp only
  rw[hsum,show ((j:Int)+1).toNat=j+1 by omega]
 ·obtain⟨a,i⟩:=z
  simp only at hI hz
  subst hz
  try simp only
  rw[Ag _ _ (decide_eq_false (by omega)),hI,Int.toNat_natCast,Nat.mod_eq_of_lt hn]
  exact rfl
def Bytes (l:List Int):Prop:=∀b∈l,0≤b∧b≤255
def LP (x:Int):List Int:=if x=125∨x=126 then [125,x-32] else [x]
def Gs (l:List Int):List Int:=l.flatMap LP
theorem gP (l m:List Int):Gs (l++m)=Gs l++Gs m:=by unfold Gs;rw[List.flatMap_append]
theorem AbH (x:Int) (l:List Int):Gs (x::l)=LP x++Gs l:=rfl
theorem AbG (x:Int):1≤Aa (LP x)∧Aa (LP x)≤2:=by unfold LP;split<;>simp[Aa]
theorem VQ:∀l:List Int,Aa l≤Aa (Gs l)∧Aa (Gs l)≤2*Aa l
 |[]=>by simp[Gs,Aa]
 |x::l=>by
  have:=VQ l;have:=AbG x
  rw[AbH,AV,Ft];omega
theorem MK {α:Type} {l:List α} {i:Int} {x:α} (i0:0≤i) (h:idx l i=some x):AF l (i+1)=AF l i++[x]:=by
 unfold AF
 rw[show (i+1).toNat=i.toNat+1 by omega,List.take_add_one]
 rw[Bw i0] at h
 rw[h];rfl
theorem VR {α:Type} {l:List α}:AF l (Aa l)=l:=by unfold AF Aa;rw[Int.toNat_natCast,List.take_length]
theorem Jk {α:Type} {l:List α}:AF l 0=[]:=by unfold AF;rfl
theorem Aft {l:List Int} (hl:Aa l≤100000) (hb:Bytes l):Hk l=some (Gs l):=by
 have hn:=Ar l
 unfold Hk
 rw[Af _ _ (by rw[decide_eq_true hn,Bool.true_and];exact dG (by omega))]
 refine AH (fun z:List Int×Int=>z.2) (Aa l) (fun z=>z.1=Gs (AF l z.2)) (fun r=>r=some (Gs l)) (by omega) (by simp) hn (by simp[AQ,Jk,Gs]) (fun z hI i0 i1=>?_) (fun z hI hz=>?_)
 ·obtain⟨out,i⟩:=z
  simp only at hI i0 i1
  obtain⟨x,hx,hm⟩:=Au i0 i1
  have h255:=hb x hm
  have hlt:=DC (l:=l) i0 (by omega)
  have hsl:=VQ (AF l i)
  have hol:Aa out≤200000:=by rw[hI];omega
  try simp only
  rw[Af _ _ (decide_eq_true i1),Ab _ _ hx,Ak (i+1) (by omega) (by omega)]
  by_cases c:x=125∨x=126
  ·have e1:LP x=[125,x-32]:=by unfold LP;rw[if_pos c]
   rw[Af _ _ (by simpa using c),Af _ _ (BN (l:=out) (by omega)),Af _ _ (BN (l:=out++(125::[])) (by rw[ES];omega))]
   have e2:wr .u8 (x-32)=x-32:=SA _ (by omega) (by omega)
   refine ⟨rfl,?_⟩
   simp only
   rw[MK i0 hx,gP,hI,e2]
   simp[Gs,e1]
  ·have e1:LP x=[x]:=by unfold LP;rw[if_neg c]
   rw[Ag _ _ (by simpa using c),Af _ _ (BN (l:=out) (by omega))]
   refine ⟨rfl,?_⟩
   simp only
   rw[MK i0 hx,gP,hI]
   simp[Gs,e1]
 ·obtain⟨out,i⟩:=z
  simp only at hI hz
  subst hz
  try simp only
  rw[Ag _ _ (decide_eq_false (by omega)),hI,VR]
  exact rfl
theorem AbT {l:List Int} (hl:Aa l≤100000):∃b e,G3 l=some (b,e)∧Aa b≤Aa l:=by
 have hn:=Ar l
 unfold G3
 rw[Af _ _ (by rw[decide_eq_true hn,Bool.true_and];exact dG (by omega))]
 have bad:∃b e,(some ([],8):Option (List Int×Int))=some (b,e)∧Aa b≤Aa l:=⟨[],8,rfl,by simp[Aa]⟩
 refine AH (fun z:List Int×Bool×Int=>z.2.2) (Aa l) (fun z=>Aa z.1≤z.2.2) (fun r=>∃b e,r=some (b,e)∧Aa b≤Aa l) (by omega) (by simp) hn (by simp[AQ,Aa]) (fun z hI i0 i1=>?_) (fun z hI hz=>?_)
 ·obtain⟨out,sg,i⟩:=z
  simp only at hI i0 i1
  obtain⟨x,hx,hm⟩:=Au i0 i1
  try simp only
  rw[Af _ _ (decide_eq_true i1),Ab _ _ hx,Ak (i+1) (by omega) (by omega),AT]
  split
  ·exact bad
  rw[AT]
  split
  ·exact bad
  rw[AT]
  split
  ·rw[Af _ _ (BN (l:=out) (by omega))]
   exact ⟨rfl,by simp only;rw[ES];omega⟩
  rw[AT]
  split
  ·exact ⟨rfl,by simp only;omega⟩
  rw[Af _ _ (BN (l:=out) (by omega))]
  exact ⟨rfl,by simp only;rw[ES];omega⟩
 ·obtain⟨out,sg,i⟩:=z
  simp only at hI hz
  subst hz
  try simp only
  rw[Ag _ _ (decide_eq_false (by omega)),AT]
  split
  ·exact bad
  ·exact ⟨out,0,rfl,hI⟩
end Go.Proofs.YtmmkfcpdfnjgjaaGreatDoor
namespace Go.Proofs.YtmmkfcpdfnjgjaaGreatDoor
open Go.Den
theorem Rw {l:List Int} (h:Aa l≤1000000):C5 l=some l:=by
 unfold C5
 rw[Af _ _ (by rw[Bool.true_and];exact room_le (by omega))]
 rfl
theorem fB {l:List Int} (h:Aa l≤1000000):Fp l=some l:=by
 unfold Fp
 rw[Af _ _ (by rw[Bool.true_and];exact room_le (by omega))]
 rfl
structure KE (m:BJ):Prop where
 seq:Ax m.2.1
 body:Aa m.2.2≤512
theorem AbY {l:List Int} (hl:Aa l≤100000):∃m e,G4 l=some (m,e)∧(e=0→KE m):=by
 have hn:=Ar l
 unfold G4
 rw[Ak (Aa l-4) (by omega) (by omega),AT]
 split
 ·exact ⟨_,_,rfl,fun h=>by cases h⟩
 rename_i hc
 simp only[Bool.or_eq_true,decide_eq_true_eq,not_or,Int.not_lt] at hc
 have h5:=DC (l:=l) (n:=5) (by decide) (by omega)
 have h6:=Et (l:=AF l 5) (n:=1) (by decide) (by omega)
 have h7:=Et (l:=l) (n:=Aa l-4) (by omega) (by omega)
 have h8:=DC (l:=l) (n:=Aa l-4) (by omega) (by omega)
 have h9:=Et (l:=AF l (Aa l-4)) (n:=5) (by decide) (by omega)
 obtain⟨v1,e1,g1,u1⟩:=zA (l:=Bf (AF l 5) 1) (by omega)
 obtain⟨v2,e2,g2,u2⟩:=zA (l:=Bf l (Aa l-4)) (by omega)
 obtain⟨s1,s2⟩:=Aff (l:=AF l (Aa l-4)) (by omega)
 obtain⟨k,hk,_⟩:=Au (l:=l) (i:=0) (by decide) (by omega)
 have dd:(decide (0≤Aa l-4)&&decide (Aa l-4≤Aa l))=true:=by simp;omega
 rw[Af _ _ (decide_eq_true (by omega)),Ab _ _ g1,Af _ _ dd,Ab _ _ g2,Af _ _ dd,Ab _ _ s1,AT]
 split
 ·exact ⟨_,_,rfl,fun h=>by cases h⟩
 rw[Ab _ _ hk,Af _ _ (by simp;omega),Ab _ _ (Rw (by omega))]
 exact ⟨_,_,rfl,fun _=>⟨AdY _,by show Aa (Bf (AF l (Aa l-4)) 5)≤512;omega⟩⟩
def Mw (m:BJ):List Int:=((m.1::[])++leB 4 m.2.1.toNat)++m.2.2++leB 4 (eG (((m.1::[])++leB 4 m.2.1.toNat)++m.2.2)).toNat
theorem AaP (m:BJ):Aa (Mw m)=9+Aa m.2.2:=by
 unfold Mw;simp only[AV,J2];simp[Aa];omega
theorem mZ {m:BJ} (h1:0≤m.1∧m.1≤255) (h2:Bytes m.2.2):Bytes (Mw m):=fun b hb=>by
 unfold Mw at hb
 simp only[List.mem_append,List.mem_cons,List.not_mem_nil,or_false] at hb
 rcases hb with ((rfl|hb)|hb)|hb
 ·exact h1
 ·exact fP b hb
 ·exact h2 b hb
 ·exact fP b hb
theorem Ad2 {m:BJ} (hm:KE m):GR m=some (Mw m,0):=by
 have hs:=hm.seq
 have hb:=hm.body
 have hb0:=Ar m.2.2
 have hu:wr .u64 m.2.1=m.2.1:=En ⟨hs.1,by have:=hs.2;omega⟩
 unfold GR
 have l1:Aa (leB 4 m.2.1.toNat)=4:=J2 4 _
 have l2:Aa (m.1::([]:List Int))=1:=rfl
 have l3:Aa ((m.1::[])++leB 4 m.2.1.toNat)=5:=by rw[AV];omega
 have l4:Aa (((m.1::[])++leB 4 m.2.1.toNat)++m.2.2)=5+Aa m.2.2:=by rw[AV,l3]
 obtain⟨s1,s2⟩:=Aff (l:=((m.1::[])++leB 4 m.2.1.toNat)++m.2.2) (by omega)
 have hu2:wr .u64 (eG (((m.1::[])++leB 4 m.2.1.toNat)++m.2.2))=eG (((m.1::[])++leB 4 m.2.1.toNat)++m.2.2):=En ⟨s2.1,by have:=s2.2;omega⟩
 rw[Ag _ _ (decide_eq_false (by omega)),hu,Ab _ _ (Ab1 hs)]
 try simp only
 rw[Af _ _ (Ha (by omega) (by omega)),Af _ _ (Ha (by omega) (by omega)),Ab _ _ s1,hu2,Ab _ _ (Ab1 s2)]
 try simp only
 rw[Af _ _ (Ha (by omega) (by rw[J2];decide))]
 rfl
theorem Afi {l m:List Int} {n:Int} (h:Aa l=n):Bf (l++m) n=m:=by rw[←h];exact lX
theorem kC {l m:List Int} {n:Int} (h:Aa l=n):AF (l++m) n=l:=by
 rw[←h];unfold AF Aa;rw[Int.toNat_natCast,List.take_left]
def Ad0 (m:BJ):List Int:=((126::[])++Gs (Mw m))++(126::[])
theorem Afv {m:BJ} (hm:KE m) (h1:0≤m.1∧m.1≤255) (h2:Bytes m.2.2):Gj m=some (Ad0 m,0):=by
 have hb:=hm.body
 have hb0:=Ar m.2.2
 have hlen:=AaP m
 have hsl:=VQ (Mw m)
 unfold Gj
 rw[Ab _ _ (Ad2 hm)]
 try simp only
 rw[Ag _ _ (by rfl),Ab _ _ (Aft (by omega) (mZ h1 h2)),Af _ _ (Ha (by simp[Aa]) (by omega)),Af _ _ (Ha (by rw[AV];simp[Aa] at *;omega) (by simp[Aa]))]
 rfl
def zB (l:List Int):Prop:=∀b∈l,b≠126
theorem AbX {l:List Int} (hl:Aa l≤1000000):∃i,C9 (l,126)=some i∧-1≤i∧i<Aa l∧(0≤i→idx l i=some 126)∧∀j,i<j→idx l j≠some 126:=by
 have hn:=Ar l
 have key:∃i,Dj (l,126)=some i∧-1≤i∧i<Aa l∧(0≤i→idx l i=some 126)∧∀j,i<j→idx l j≠some 126:=by
  unfold Dj
  try simp only
  rw[Ak (Aa l-1) (by omega) (by omega)]
  refine Fe (fun z:Int=>-1≤z∧z<Aa l∧∀j,z<j→idx l j≠some 126) (fun z=>(z+1).toNat) (fun r:Option Int=>∃i,r=some i∧-1≤i∧i<Aa l∧(0≤i→idx l i=some 126)∧∀j,i<j→idx l j≠some 126) ?_ AE (Aa l-1) ⟨by omega,by omega,fun j hj hc=>by have:=(An hc).2.1;omega⟩ (by rw[GX];omega)
  rintro z ⟨z0,z1,zj⟩
  by_cases c:0≤z
  ·obtain⟨b,hb,_⟩:=Au c z1
   rw[Af _ _ (decide_eq_true c),Ab _ _ hb]
   by_cases e:b=126
   ·rw[Af _ _ (by simpa using e)]
    exact ⟨z,rfl,z0,z1,fun _=>by rw[hb,e],zj⟩
   ·rw[Ag _ _ (by simpa using e),Ak (z-1) (by omega) (by omega)]
    refine ⟨⟨by omega,by omega,fun j hj hc=>?_⟩,(by show (z-1+1).toNat<(z+1).toNat;omega)⟩
    by_cases ej:j=z
    ·subst ej;rw[hb] at hc;exact e (Option.some.inj hc)
    ·exact zj j (by omega) hc
  ·rw[Ag _ _ (decide_eq_false c)]
   have:z = -1:=by omega
   subst this
   exact ⟨-1,rfl,by omega,by omega,fun h=>absurd h (by decide),zj⟩
 obtain⟨i,h1,h2⟩:=key
 unfold C9
 rw[Ab _ _ h1]
 exact ⟨i,rfl,h2⟩
abbrev Rd:=Int×List BJ×Ab0
theorem Ahs {l:List Int} (hl:Aa l≤16384):∃ms last,DU l=some (ms,(last,0))∧Aa ms≤Aa l∧(∀m∈ms,KE m)∧-1≤last∧last<Aa l∧(0≤last→idx l last=some 126)∧∀j,last<j→idx l j≠some 126:=by
 have hn:=Ar l
 obtain⟨la,ha,hb⟩:=AbX (l:=l) (by omega)
 unfold DU
 rw[Ag _ _ (decide_eq_false (by omega)),Ag _ _ (decide_eq_false (by omega))]
 refine AH (fun z:Rd=>z.1) (Aa l) (fun z=>Aa z.2.1≤z.1∧(∀m∈z.2.1,KE m)∧Aa z.2.2.1≤1043) (fun r=>∃ms last,r=some (ms,(last,0))∧Aa ms≤Aa l∧(∀m∈ms,KE m)∧-1≤last∧last<Aa l∧(0≤last→idx l last=some 126)∧∀j,last<j→idx l j≠some 126) (by omega) (by simp) hn ⟨by simp[Aa],fun m hm=>(by cases hm),by simp[Aa]⟩ (fun z hI i0 i1=>?_) (fun z hI hz=>?_)
 ·obtain⟨i,ms,un,bg,lg,md⟩:=z
  obtain⟨h1,h2,h3⟩:=hI
  simp only at i0 i1 h1 h2 h3
  obtain⟨b,hb',_⟩:=Au i0 i1
  have hun:=Ar un
  have t0:Aa (AF un 0)=0:=by rw[Jk];rfl
  try simp only
  rw[Af _ _ (decide_eq_true i1),Ab _ _ hb',Ak (i+1) (by omega) (by omega),AT]
  split
  ·obtain⟨c,e,q1,q2⟩:=AbT (l:=un) (by omega)
   rw[Ab _ _ q1,AT]
   split
   ·rw[Af _ _ (decide_eq_true hun)]
    exact ⟨rfl,by simp only;omega,h2,by simp only;omega⟩
   ·obtain⟨m,e',p1,p2⟩:=AbY (l:=c) (by omega)
    try simp only
    rw[Ab _ _ p1,AT]
    split
    ·rename_i hc
     simp only[Bool.and_eq_true,beq_iff_eq] at hc
     rw[Af _ _ (BN (l:=ms) (by omega)),Af _ _ (decide_eq_true hun)]
     refine ⟨rfl,by simp only;rw[ES];omega,fun m' hm'=>?_,by simp only;omega⟩
     rcases List.mem_append.1 hm' with hm'|hm'
     ·exact h2 m' hm'
     ·have:m'=m:=by simpa using hm'
      subst this
      exact p2 hc.1.1
    ·rw[Af _ _ (decide_eq_true hun)]
     exact ⟨rfl,by simp only;omega,h2,by simp only;omega⟩
  ·rw[AT]
   split
   ·exact ⟨rfl,by simp only;omega,h2,h3⟩
   ·rename_i hc
    simp only[decide_eq_true_eq,Int.not_le] at hc
    rw[AT]
    split
    ·rw[Af _ _ (BN (l:=un) (by omega))]
     exact ⟨rfl,by simp only;omega,h2,by simp only;rw[ES];omega⟩
    ·exact ⟨rfl,by simp only;omega,h2,h3⟩
 ·obtain⟨i,ms,un,bg,lg,md⟩:=z
  obtain⟨h1,h2,h3⟩:=hI
  simp only at hz h1 h2 h3
  subst hz
  try simp only
  rw[Ag _ _ (decide_eq_false (by omega)),Ab _ _ ha]
  exact ⟨ms,la,rfl,h1,h2,hb⟩
theorem Ad1 {a b:List Int} (ha:Aa a≤1000000) (hb:Aa b≤1000000):CD (a::(b::[]))=some (a++b):=by
 have ha0:=Ar a
 have hb0:=Ar b
 have i0:idx (a::(b::[])) 0=some a:=rfl
 have i1:idx (a::(b::[])) 1=some b:=rfl
 have l2:Aa (a::(b::([]:List (List Int))))=2:=rfl
 have lot:∀ {σ A:Type} {bad:A} {f:σ→Step σ A} {s:σ},iter bad f AE s=(match f s with | .next s'=>iter bad f (AE-1) s' | .done r=>r):=fun {σ A bad f s}=>by
  rw[GX];rfl
 have grow:∀(K:List Int→Option (List Int)) (F:Int×List Int→Step (Int×List Int) (Option (List Int))) (hF:∀i out x,0≤i→i<2→Aa out≤1000000→idx (a::(b::[])) i=some x→F (i,out)=.next (i+1,out++x)) (hFe:∀out,F (2,out)=.done (some out)),iter none F AE (0,[])=some (a++b):=fun K F hF hFe=>by
  refine AH (fun z:Int×List Int=>z.1) 2 (fun z=>z.2=if z.1=0 then [] else if z.1=1 then a else a++b) (fun r=>r=some (a++b)) (by decide) (by simp) (by simp) (by simp) (fun z hI k0 k1=>?_) (fun z hI hz=>?_)
  ·obtain⟨i,out⟩:=z
   simp only at hI k0 k1
   have hi:i=0∨i=1:=by omega
   rcases hi with rfl|rfl
   ·simp at hI;subst hI
    rw[hF 0 [] a (by decide) (by decide) (by simp[Aa]) i0]
    exact ⟨rfl,by simp⟩
   ·simp at hI;subst hI
    rw[hF 1 out b (by decide) (by decide) ha i1]
    exact ⟨rfl,by simp⟩
  ·obtain⟨i,out⟩:=z
   simp only at hI hz
   subst hz
   simp at hI;subst hI
   rw[hFe];exact rfl
 unfold CD
 refine AH (fun z:Int×Int=>z.2) 2 (fun z=>z.1=if z.2=0 then 0 else if z.2=1 then Aa a else Aa a+Aa b) (fun r=>r=some (a++b)) (by decide) (by simp) (by simp) (by simp) (fun z hI k0 k1=>?_) (fun z hI hz=>?_)
 ·obtain⟨s,i⟩:=z
  simp only at hI k0 k1
  have hi:i=0∨i=1:=by omega
  try simp only
  rcases hi with rfl|rfl
  ·simp at hI;subst hI
   rw[l2,Af _ _ (by rfl),Ab _ _ i0,Ak (0+Aa a) (by omega) (by omega),Ag _ _ (decide_eq_false (by omega)),Ak (0+1) (by decide) (by decide)]
   exact ⟨rfl,by simp⟩
  ·simp at hI;subst hI
   rw[l2,Af _ _ (by rfl),Ab _ _ i1,Ak (Aa a+Aa b) (by omega) (by omega),Ag _ _ (decide_eq_false (by omega)),Ak (1+1) (by decide) (by decide)]
   exact ⟨rfl,by simp⟩
 ·obtain⟨s,i⟩:=z
  simp only at hI hz
  subst hz
  simp at hI;subst hI
  try simp only
  rw[l2,Ag _ _ (by rfl),Ag _ _ (decide_eq_false (by omega)),Ak (Aa a+Aa b-0) (by omega) (by omega),AT]
  have hF:∀(i:Int) (out x:List Int),0≤i→i<2→Aa out≤1000000→idx (a::(b::[])) i=some x→(cnd (decide (i<2)) (Ae (idx (a::(b::[])) i) (.done none) (fun x3=>(cnd (true&&(AS ((Aa out)+(Aa x3)) 1)) (.next ((wr .i64 (i+1)),(out++x3))) (.done none)))) (.done (some out)):Step (Int×List Int) (Option (List Int)))=.next (i+1,out++x):=fun i out x j0 j1 ho hx=>by
   have hxl:Aa x≤1000000:=by
    have:i=0∨i=1:=by omega
    rcases this with rfl|rfl
    ·rw[i0] at hx;cases hx;exact ha
    ·rw[i1] at hx;cases hx;exact hb
   rw[Af _ _ (decide_eq_true j1),Ab _ _ hx,Af _ _ (Ha (by omega) hxl),Ak (i+1) (by omega) (by omega)]
  split
  ·rw[Af _ _ (by rw[decide_eq_true (by omega),Bool.true_and];exact room_le (by omega)),Af _ _ (decide_eq_true (Ar _)),Jk]
   exact grow (fun r=>some r) _ hF (fun out=>by rfl)
  ·exact grow (fun r=>some r) _ hF (fun out=>by rfl)
end Go.Proofs.YtmmkfcpdfnjgjaaGreatDoor
namespace Go.Proofs.YtmmkfcpdfnjgjaaGreatDoor
open Go.Den
def Nf (un:List Int):Option BJ :=
 match G3 un with
 |some (c,e)=>if e=0 then (match G4 c with
  |some (m,e2)=>if e2=0 then some m else none
  |none=>none) else none
 |none=>none
abbrev RdS:=List BJ×List Int×Bool×Bool
def Kf (z:RdS) (b:Int):RdS :=
 if b=126 then ((match Nf z.2.1 with|some m=>if z.2.2.1=true∧z.2.2.2=false then z.1++[m] else z.1|none=>z.1),([],(true,false)))
 else if 1043≤Aa z.2.1 then (z.1,(z.2.1,(z.2.2.1,true))) else if z.2.2.1=true then (z.1,(z.2.1++[b],(z.2.2.1,z.2.2.2))) else z
theorem AdD {l:List Int} (hl:Aa l≤16384):∃last,DU l=some ((l.foldl Kf ([],([],(false,false)))).1,(last,0))∧-1≤last∧last<Aa l∧(0≤last→idx l last=some 126)∧(∀j,last<j→idx l j≠some 126)∧Aa (l.foldl Kf ([],([],(false,false)))).1≤Aa l∧∀m∈(l.foldl Kf ([],([],(false,false)))).1,KE m:=by
 obtain⟨ms,la,e1,c1,c2,e2⟩:=Ahs hl
 suffices h:DU l=some ((l.foldl Kf ([],([],(false,false)))).1,(la,0)) by
  have hms:ms=(l.foldl Kf ([],([],(false,false)))).1:=by
   rw[e1] at h
   have:=congrArg Prod.fst (Option.some.inj h)
   exact this
  exact ⟨la,h,e2.1,e2.2.1,e2.2.2.1,e2.2.2.2,by rw[←hms];exact c1,by rw[←hms];exact c2⟩
 have hn:=Ar l
 obtain⟨la',ha,hb⟩:=AbX (l:=l) (by omega)
 have hla:la'=la:=by
  by_cases h1:la'<la
  ·have:=e2.2.2.1 (by omega);exact absurd this (hb.2.2.2 la h1)
  ·by_cases h2:la<la'
   ·have:=hb.2.2.1 (by omega);exact absurd this (e2.2.2.2 la' h2)
   ·omega
 subst hla
 unfold DU
 rw[Ag _ _ (decide_eq_false (by omega)),Ag _ _ (decide_eq_false (by omega))]
 refine AH (fun z:Rd=>z.1) (Aa l) (fun z=>Aa z.2.1≤z.1∧Aa z.2.2.1≤1043∧(z.2.1,(z.2.2.1,(z.2.2.2.1,z.2.2.2.2.1)))=(AF l z.1).foldl Kf ([],([],(false,false)))) (fun r=>r=some ((l.foldl Kf ([],([],(false,false)))).1,(la',0))) (by omega) (by simp) hn ⟨by simp[Aa],by simp[Aa],by simp[Jk]⟩ (fun z hI i0 i1=>?_) (fun z hI hz=>?_)
 ·obtain⟨i,ms,un,bg,lg,md⟩:=z
  obtain⟨h1,h3,h4⟩:=hI
  simp only at i0 i1 h1 h3 h4
  obtain⟨b,hb',_⟩:=Au i0 i1
  have hun:=Ar un
  have t0:AF un 0=[]:=Jk
  have hst:(AF l (i+1)).foldl Kf ([],([],(false,false)))=Kf (ms,(un,(bg,lg))) b:=by
   rw[MK i0 hb',List.foldl_append,←h4];rfl
  have hmsl:=Ar ms
  try simp only
  rw[Af _ _ (decide_eq_true i1),Ab _ _ hb',Ak (i+1) (by omega) (by omega)]
  by_cases c:b=126
  ·rw[Af _ _ (by simpa using c)]
   have hst2:Kf (ms,(un,(bg,lg))) b=((match Nf un with|some m=>if bg=true∧lg=false then ms++[m] else ms|none=>ms),([],(true,false))):=by
    unfold Kf;rw[if_pos c]
   rw[hst2] at hst
   obtain⟨c',e,q1,q2⟩:=AbT (l:=un) (by omega)
   rw[Ab _ _ q1,AT]
   split
   ·rename_i he
    have he:e≠0:=by simpa using he
    have hp:Nf un=none:=by
     unfold Nf;simp[q1,he]
    rw[hp] at hst
    rw[Af _ _ (decide_eq_true hun),t0]
    exact ⟨rfl,by simp only;omega,by simp[Aa],hst.symm⟩
   ·rename_i he
    have he:e=0:=by simpa using he
    subst he
    obtain⟨m,e',p1,p2⟩:=AbY (l:=c') (by omega)
    try simp only
    rw[Ab _ _ p1]
    by_cases ee:e'=0
    ·subst ee
     have hp:Nf un=some m:=by unfold Nf;simp[q1,p1]
     rw[hp] at hst
     by_cases cc:bg=true∧lg=false
     ·rw[Af _ _ (by simp[cc.1,cc.2]),Af _ _ (BN (l:=ms) (by omega)),Af _ _ (decide_eq_true hun),t0]
      refine ⟨rfl,by simp only;rw[ES];omega,by simp[Aa],?_⟩
      simp only[if_pos cc] at hst
      exact hst.symm
     ·rw[Ag _ _ (by cases bg<;>cases lg<;>simp at cc ⊢),Af _ _ (decide_eq_true hun),t0]
      refine ⟨rfl,by simp only;omega,by simp[Aa],?_⟩
      simp only[if_neg cc] at hst
      exact hst.symm
    ·have hp:Nf un=none:=by
      unfold Nf;simp[q1,p1,ee]
     rw[hp] at hst
     rw[Ag _ _ (by simp[ee]),Af _ _ (decide_eq_true hun),t0]
     exact ⟨rfl,by simp only;omega,by simp[Aa],hst.symm⟩
  ·rw[Ag _ _ (by simpa using c)]
   unfold Kf at hst
   rw[if_neg c] at hst
   simp only at hst
   by_cases c2:1043≤Aa un
   ·rw[if_pos c2] at hst
    rw[Af _ _ (decide_eq_true c2)]
    exact ⟨rfl,by simp only;omega,h3,hst.symm⟩
   ·rw[if_neg c2] at hst
    rw[Ag _ _ (decide_eq_false c2)]
    by_cases c3:bg=true
    ·rw[if_pos c3] at hst
     rw[Af _ _ c3,Af _ _ (BN (l:=un) (by omega))]
     exact ⟨rfl,by simp only;omega,by simp only;rw[ES];omega,hst.symm⟩
    ·rw[if_neg c3] at hst
     rw[Ag _ _ (by simpa using c3)]
     exact ⟨rfl,by simp only;omega,h3,hst.symm⟩
 ·obtain⟨i,ms,un,bg,lg,md⟩:=z
  obtain⟨h1,h3,h4⟩:=hI
  simp only at hz h1 h3 h4
  subst hz
  rw[VR] at h4
  try simp only
  rw[Ag _ _ (decide_eq_false (by omega)),Ab _ _ ha,←h4]
  exact rfl
structure Kp (l:Cy):Prop where
 age:0≤l.2.2∧l.2.2≤1048576
 last:Ax l.2.1
 none:l.1=false→l.2.1=0
theorem RQ {l:Cy} (hu:Ax l.2.1):FP l=0↔Kp l:=by
 obtain⟨a,s,g⟩:=l
 unfold FP
 rw[AT]
 constructor
 ·intro h
  split at h
  ·cases h
  ·rename_i hc
   simp at hc
   exact ⟨⟨by simp only;omega,by simp only;omega⟩,hu,fun ha=>hc.2 ha⟩
 ·intro h
  rw[if_neg]
  have h1:=h.age
  have h2:=h.none
  simp only at h1 h2
  simp only[Bool.or_eq_true,decide_eq_true_eq,Bool.and_eq_true,Bool.not_eq_true',beq_eq_false_iff_ne,ne_eq,not_or,Int.not_lt,not_and,Decidable.not_not]
  exact ⟨⟨h1.1,h1.2⟩,h2⟩
def FA:Bool→Int→List BJ→(Bool×Int)×List BJ
 |a,l,[]=>((a,l),[])
 |a,l,m::r=>if a=true∧m.2.1≤l then FA a l r else ((FA true m.2.1 r).1,m::(FA true m.2.1 r).2)
theorem Wr:∀(ms:List BJ) (a:Bool) (l:Int),Ax l→(a=false→l=0)→(∀m∈ms,KE m)→Ax (FA a l ms).1.2∧((FA a l ms).1.1=false→(FA a l ms).1.2=0)∧(∀m∈(FA a l ms).2,m∈ms)∧Aa (FA a l ms).2≤Aa ms
 |[],a,l,h1,h2,_=>⟨h1,h2,fun m hm=>(by cases hm),Int.le_refl _⟩
 |m::r,a,l,h1,h2,h3=>by
  rw[FA]
  split
  ·obtain⟨q1,q2,q3,q4⟩:=Wr r a l h1 h2 fun m hm=>h3 m (List.mem_cons_of_mem _ hm)
   exact ⟨q1,q2,fun m hm=>List.mem_cons_of_mem _ (q3 m hm),by rw[Ft];omega⟩
  ·obtain⟨q1,q2,q3,q4⟩:=Wr r true m.2.1 (h3 m (by simp)).seq (fun h=>by cases h) fun m hm=>h3 m (List.mem_cons_of_mem _ hm)
   refine ⟨q1,q2,fun x hx=>?_,by simp only[Ft];omega⟩
   rcases List.mem_cons.1 hx with rfl|hx
   ·simp
   ·exact List.mem_cons_of_mem _ (q3 x hx)
def Pv (l:Cy) (ms:List BJ):Cy :=
 ((FA l.1 l.2.1 ms).1.1,((FA l.1 l.2.1 ms).1.2,if 0<Aa (FA l.1 l.2.1 ms).2 then 0 else min (l.2.2+1) 1048576))
theorem AeF {l:Cy} {ms:List BJ} (hl:Kp l) (hm:∀m∈ms,KE m):Kp (Pv l ms):=by
 obtain⟨q1,q2,_⟩:=Wr ms l.1 l.2.1 hl.last hl.none hm
 have:=hl.age
 refine ⟨?_,q1,q2⟩
 unfold Pv
 simp only
 split<;>omega
theorem RR {l:Cy} {ms:List BJ} (hl:Kp l) (hm:∀m∈ms,KE m) (hn:Aa ms≤1024):GJ (l,ms)=some (Pv l ms,((FA l.1 l.2.1 ms).2,0)):=by
 have hn0:=Ar ms
 obtain⟨an,ls,ag⟩:=l
 have hag:=hl.age
 simp only at hag
 unfold GJ
 rw[AJ,(RQ hl.last).2 hl,Ag _ _ (by rfl),Ag _ _ (decide_eq_false (by simp only;omega))]
 refine AH (fun z:Int×Cy=>z.1) (Aa ms) (fun _=>True) (fun r=>r=some (Pv (an,(ls,ag)) ms,((FA an ls ms).2,0))) (by omega) (by simp) hn0 trivial (fun z _ i0 i1=>?_) (fun z _ hz=>?_)
 ·obtain⟨i,w⟩:=z
  simp only at i0 i1
  obtain⟨m,hx,hmm⟩:=Au i0 i1
  try simp only
  rw[Af _ _ (decide_eq_true i1),Ab _ _ hx,Ag _ _ (decide_eq_false (by have:=(hm m hmm).body;omega)),Ak (i+1) (by omega) (by omega)]
  exact ⟨rfl,trivial⟩
 ·obtain⟨i,w⟩:=z
  simp only at hz
  subst hz
  try simp only
  rw[Ag _ _ (decide_eq_false (by omega))]
  show _ = some _
  refine AH (fun z:List BJ×Int×Cy=>z.2.1) (Aa ms) (fun z=>z.1++(FA z.2.2.1 z.2.2.2.1 (ms.drop z.2.1.toNat)).2=(FA an ls ms).2∧(FA z.2.2.1 z.2.2.2.1 (ms.drop z.2.1.toNat)).1=(FA an ls ms).1∧z.2.2.2.2=ag∧Aa z.1≤z.2.1) (fun r=>r=some (Pv (an,(ls,ag)) ms,((FA an ls ms).2,0))) (by omega) (by simp) hn0 ⟨by simp,by simp,rfl,by simp[Aa]⟩ (fun z hI i0 i1=>?_) (fun z hI hz=>?_)
  ·obtain⟨tk,i,a,s,g⟩:=z
   obtain⟨p1,p2,p3,p4⟩:=hI
   simp only at i0 i1 p1 p2 p3 p4
   subst p3
   obtain⟨m,hx,hmm⟩:=Au i0 i1
   have hmo:=hm m hmm
   have hd:=Gi hx
   rw[hd,FA] at p1 p2
   try simp only
   rw[Af _ _ (decide_eq_true i1),Ab _ _ hx,Ak (i+1) (by omega) (by omega)]
   by_cases c:a=true∧m.2.1≤s
   ·rw[if_pos c] at p1 p2
    rw[Af _ _ (by simp[c.1,c.2])]
    exact ⟨rfl,p1,p2,rfl,by simp only;omega⟩
   ·rw[if_neg c] at p1 p2
    have hml:Aa m.2.2≤512:=hmo.body
    rw[Ag _ _ (by
     apply Bool.eq_false_iff.2
     intro hh
     simp only[Bool.and_eq_true,decide_eq_true_eq] at hh
     exact c hh),Ab _ _ (Rw (by omega)),Af _ _ (BN (l:=tk) (by omega))]
    refine ⟨rfl,?_,p2,rfl,by simp only;rw[ES];omega⟩
    simp only
    rw[←p1];simp
  ·obtain⟨tk,i,a,s,g⟩:=z
   obtain⟨p1,p2,p3,p4⟩:=hI
   simp only at hz p1 p2 p3 p4
   subst hz p3
   have hde:ms.drop (Aa ms).toNat=[]:=RE (Int.le_refl _)
   rw[hde] at p1 p2
   simp only[FA,List.append_nil] at p1 p2
   try simp only
   rw[Ag _ _ (decide_eq_false (by omega)),DB,Ak (g+1) (by omega) (by omega)]
   unfold Pv
   simp only
   rw[←p1,←p2]
   by_cases c:0<Aa tk
   ·rw[Af _ _ (decide_eq_true c),if_pos c];exact rfl
   ·rw[Ag _ _ (decide_eq_false c),if_neg c];exact rfl
theorem AaY {l:Cy} {ms:List BJ} (hl:Kp l) (hm:∀m∈ms,KE m):∃l' tk e,GJ (l,ms)=some (l',(tk,e))∧Kp l'∧(∀m∈tk,KE m)∧Aa tk≤1024:=by
 by_cases hn:Aa ms≤1024
 ·obtain⟨q1,q2,q3,q4⟩:=Wr ms l.1 l.2.1 hl.last hl.none hm
  exact ⟨_,_,_,RR hl hm hn,AeF hl hm,fun m h=>hm m (q3 m h),by omega⟩
 ·unfold GJ
  rw[AJ,(RQ hl.last).2 hl,Ag _ _ (by rfl),Af _ _ (decide_eq_true (by simp only;omega))]
  exact ⟨_,_,_,rfl,⟨⟨by decide,by decide⟩,⟨by decide,by decide⟩,fun _=>rfl⟩,fun m h=>(by cases h),by simp[Aa]⟩
end Go.Proofs.YtmmkfcpdfnjgjaaGreatDoor
namespace Go.Proofs.YtmmkfcpdfnjgjaaGreatDoor
open Go.Den
theorem ZO {b l:List Int} (hl:Aa l≤1000) (hb:Aa b≤1000000) (hx:∀n∈l,CE n):FQ (b,l)=some (b++BP l):=by
 unfold FQ
 refine Sc (l:=l) (b0:=b) (fun r=>r=some (b++BP l)) hl hb hx (fun b i n sm i0 i1 hb hi hs hm=>?_) ⟨_,Ag _ _ (decide_eq_false (by simp only;omega)),rfl⟩
 exact Sd (f:=fun b i=>.next (b,i)) i0 i1 hl hb hi hs hm
theorem UM {b:List Int} {bad:Bool} {most:Int} (hb:Aa b≤1000000) (m0:0≤most) (m1:most≤1152921504606846976):∃b' bad' n,CA ((b,bad),most)=some ((b',bad'),n)∧Aa b'≤Aa b∧0≤n∧n≤most:=by
 obtain⟨v,k,e,h1,h2,h3,h4,h5,h6⟩:=YO hb
 unfold CA
 try simp only
 rw[Ab _ _ h1,En (n:=most) ⟨m0,by omega⟩]
 try simp only
 rw[AT]
 split
 ·exact ⟨b,true,0,rfl,Int.le_refl _,by omega,by omega⟩
 ·rename_i hc
  simp only[Bool.or_eq_true,decide_eq_true_eq,not_or,Int.not_lt] at hc
  have v0:=h2.1
  have hd:=Et (l:=b) h3 h4
  rw[Af _ _ (by simp;omega),Ak v (by omega) (by omega)]
  exact ⟨_,bad,v,rfl,by omega,h2.1,hc.2⟩
theorem VD (n:Int):Gz n=true↔0≤n∧n≤65535:=by unfold Gz;simp
structure V3 (c:Iy):Prop where
 id:0≤c.1∧c.1≤65535
 plan:Er c.2
def Aej (c:Iy):List Int:=(c.1::(c.2.1::(c.2.2.1::((Aa c.2.2.2)::[]))))++c.2.2.2
theorem AfJ {c:Iy} (h:V3 c):∀n∈Aej c,CE n:=fun n hn=>by
 have:=h.id;have:=h.plan.c;have:=h.plan.o;have:=h.plan.n
 rcases List.mem_append.1 hn with hn|hn
 ·simp only[List.mem_cons,List.not_mem_nil,or_false] at hn
  rcases hn with rfl|rfl|rfl|rfl<;>exact JT (by omega) (by omega)
 ·have:=h.plan.m n hn;exact JT (by omega) (by omega)
theorem AbW (c:Iy) (hc:-9223372036854775808≤c.2.1∧c.2.1≤9223372036854775807):∃b e,GW c=some (b,e)∧((e=0∧V3 c∧b=BP (Aej c))∨(e≠0∧¬V3 c)):=by
 unfold GW
 rw[AJ,AT]
 split
 ·rename_i h
  exact ⟨[],2,rfl,.inr ⟨by decide,fun hh=>by rw[(VD _).2 hh.id] at h;cases h⟩⟩
 rename_i hid
 have hid:=(VD c.1).1 (by simpa using hid)
 obtain⟨b,e,h1,_,h3⟩:=Qp (c.2::[]) (fun p hp=>(show p=c.2 by simpa using hp)▸hc)
 rw[Ab _ _ h1]
 rcases h3 with ⟨rfl,_,hw,_⟩|⟨hne,hn⟩
 ·have hok:V3 c:=⟨hid,hw c.2 (by simp)⟩
  have hu:=AfJ hok
  have hnn:=hok.plan.n
  have hpl:=Gf (c.1::(c.2.1::(c.2.2.1::((Aa c.2.2.2)::[]))))
  have hl4:Aa (c.1::(c.2.1::(c.2.2.1::((Aa c.2.2.2)::[]))))=4:=rfl
  rw[Ag _ _ (by rfl),Ab _ _ (ZO (b:=[]) (l:=c.1::(c.2.1::(c.2.2.1::((Aa c.2.2.2)::[])))) (by rw[hl4];decide) (by decide) (fun n hn=>hu n (List.mem_append_left _ hn))),List.nil_append,Ab _ _ (ZO (l:=c.2.2.2) (by omega) (by omega) (fun n hn=>hu n (List.mem_append_right _ hn)))]
  exact ⟨_,0,rfl,.inl ⟨rfl,hok,by unfold Aej;rw[IU]⟩⟩
 ·rw[Af _ _ (by simp[hne])]
  exact ⟨[],e,rfl,.inr ⟨hne,fun hh=>hn ⟨by simp[Aa],fun p hp=>by
   have:p=c.2:=by simpa using hp
   subst this;exact hh.plan⟩⟩⟩
theorem sW {l:List Int} (hl:Aa l≤10000):∃c e,DY l=some (c,e)∧(e=0→V3 c):=by
 unfold DY
 obtain⟨b1,d1,n1,h1,k1,_,r1⟩:=UM (b:=l) (bad:=false) (most:=65535) (by omega) (by decide) (by decide)
 obtain⟨b2,d2,n2,h2,k2,q2,r2⟩:=UM (b:=b1) (bad:=d1) (most:=1048576) (by omega) (by decide) (by decide)
 obtain⟨b3,d3,n3,h3,k3,_,r3⟩:=UM (b:=b2) (bad:=d2) (most:=1048576) (by omega) (by decide) (by decide)
 obtain⟨b4,d4,n4,h4,k4,q4,r4⟩:=UM (b:=b3) (bad:=d3) (most:=8) (by omega) (by decide) (by decide)
 rw[Ab _ _ h1]
 try simp only
 rw[Ab _ _ h2]
 try simp only
 rw[Ab _ _ h3]
 try simp only
 rw[Ab _ _ h4]
 try simp only
 refine AH (fun z:Int×Iy×Pe=>z.1) n4 (fun z=>Aa z.2.2.1≤10000∧z.2.1.2.1=n2∧Aa z.2.1.2.2.2=z.1) (fun r=>∃c e,r=some (c,e)∧(e=0→V3 c)) (by omega) (by simp) q4 ⟨by simp only;omega,rfl,rfl⟩ (fun z hI i0 i1=>?_) (fun z hI hz=>?_)
 ·obtain⟨i,⟨a1,a2,a3,a4⟩,rb,rd⟩:=z
  obtain⟨g1,g2,g3⟩:=hI
  simp only at i0 i1 g1 g2 g3
  obtain⟨b5,d5,n5,h5,k5,_,r5⟩:=UM (b:=rb) (bad:=rd) (most:=1048576) (by omega) (by decide) (by decide)
  try simp only
  rw[Af _ _ (decide_eq_true i1),Ab _ _ h5]
  try simp only
  rw[Af _ _ (BN (l:=a4) (by omega)),Ak (i+1) (by omega) (by omega)]
  exact ⟨rfl,by simp only;omega,g2,by simp only;rw[ES];omega⟩
 ·obtain⟨i,⟨a1,a2,a3,a4⟩,rb,rd⟩:=z
  obtain⟨g1,g2,g3⟩:=hI
  simp only at hz g1 g2 g3
  subst hz
  try simp only
  rw[Ag _ _ (decide_eq_false (by omega))]
  obtain⟨b,e,p1,p2⟩:=AbW (a1,(a2,(a3,a4))) (by simp only;omega)
  show ∃c e,Ae _ _ _ = some (c,e)∧_
  rw[Ab _ _ p1,AT]
  split
  ·exact ⟨_,8,rfl,fun h=>by cases h⟩
  ·rename_i hc
   simp only[Bool.or_eq_true,not_or] at hc
   rcases p2 with ⟨_,p2,_⟩|⟨p2,_⟩
   ·exact ⟨_,0,rfl,fun _=>p2⟩
   ·exfalso
    have:=hc.1.2
    simp at this
    exact p2 this
structure zE (r:Jw):Prop where
 id:0≤r.1∧r.1≤65535
 mode:0≤r.2.1∧r.2.1≤3
 tick:0≤r.2.2.1∧r.2.2.1≤1073741824
 n:Aa r.2.2.2≤8
 m:∀m∈r.2.2.2,0≤m∧m≤70368744177664
def NC (r:Jw):List Int:=(r.1::(r.2.1::(r.2.2.1::((Aa r.2.2.2)::[]))))++r.2.2.2
theorem Ad4 {r:Jw} (h:zE r):Gn r=some (BP (NC r),0):=by
 obtain⟨s,mo,ti,lo⟩:=r
 have hid:=h.id;have hm:=h.mode;have ht:=h.tick;have hn:=h.n
 simp only at hid hm ht hn
 have hl0:=Ar lo
 unfold Gn
 rw[AJ,Ag _ _ (by rw[(VD _).2 hid];rfl),Ag _ _ (decide_eq_false (by simp only;omega)),Ag _ _ (decide_eq_false (by simp only;omega)),Ag _ _ (decide_eq_false (by simp only;omega)),Ag _ _ (decide_eq_false (by simp only;omega)),Ak mo (by omega) (by omega)]
 have hl4:Aa (s::(mo::(ti::((Aa lo)::[]))))=4:=rfl
 have hpl:=Gf (s::(mo::(ti::((Aa lo)::[]))))
 rw[Ab _ _ (ZO (b:=[]) (l:=s::(mo::(ti::((Aa lo)::[])))) (by rw[hl4];decide) (by decide) (fun n hn=>by
  simp only[List.mem_cons,List.not_mem_nil,or_false] at hn
  rcases hn with rfl|rfl|rfl|rfl<;>exact JT (by omega) (by omega))),List.nil_append]
 refine AH (fun z:Int×List Int=>z.1) (Aa lo) (fun z=>z.2=BP (s::(mo::(ti::((Aa lo)::[]))))++BP (AF lo z.1)) (fun r=>r=some (BP (NC (s,(mo,(ti,lo)))),0)) (by omega) (by simp) hl0 (by simp[Jk,BP]) (fun z hI i0 i1=>?_) (fun z hI hz=>?_)
 ·obtain⟨i,b⟩:=z
  simp only at hI i0 i1
  obtain⟨n,hx,hmm⟩:=Au i0 i1
  have hnm:=h.m n hmm
  have hlt:=DC (l:=lo) i0 (by omega)
  have hpt:=Gf (AF lo i)
  try simp only
  rw[Af _ _ (decide_eq_true i1),Ab _ _ hx,Ag _ _ (by simp;omega),Ab _ _ (ZO (b:=b) (l:=n::[]) (by simp[Aa]) (by rw[hI,AV];omega) (fun x hx=>by simp at hx;subst hx;exact JT (by omega) (by omega))),Ak (i+1) (by omega) (by omega)]
  refine ⟨rfl,?_⟩
  simp only
  rw[MK i0 hx,IU,hI,List.append_assoc]
 ·obtain⟨i,b⟩:=z
  simp only at hI hz
  subst hz
  try simp only
  rw[Ag _ _ (decide_eq_false (by omega)),hI,VR]
  show some (BP _++BP lo,0)=some (BP (NC _),0)
  unfold NC;rw[IU]
theorem Agq {r:Jw} (h:Aa r.2.2.2≤8):Aa (BP (NC r))≤132:=by
 have:=Gf (NC r)
 have:Aa (NC r)=4+Aa r.2.2.2:=by unfold NC;rw[AV];rfl
 omega
theorem pE {l:List Int} (h:∀n∈l,0≤n∧n≤9223372036854775807):Bytes (BP l):=fun b hb=>by
 unfold BP at hb
 obtain⟨n,hn,hx⟩:=List.mem_flatMap.1 hb
 have:=h n hn
 have h11:(128:Int) ^ (10+1)=151115727451828646838272:=by decide
 exact XG 10 n this.1 (by omega) b hx
end Go.Proofs.YtmmkfcpdfnjgjaaGreatDoor
namespace Go.Proofs.YtmmkfcpdfnjgjaaGreatDoor
open Go.Den
structure Bl (d:List Int):Prop where
 lo:128≤Aa d
 hi:Aa d≤4096
 whole:(Aa d).tmod 64=0
def D8 (d:List Int):Int:=Aa d/64
theorem H8 {d:List Int} (h:Bl d):2≤D8 d∧D8 d≤64∧Aa d=64*D8 d:=by
 have h1:=h.lo;have h2:=h.hi;have h3:=h.whole
 rw[Int.tmod_eq_emod_of_nonneg (by omega)] at h3
 unfold D8;omega
theorem Yd {d:List Int} (h:Bl d):CX (d,())=0:=by
 have h1:=h.lo;have h2:=h.hi;have h3:=h.whole
 unfold CX
 rw[Ag _ _ (by simp;omega),Ag _ _ (by simp only[Gm];rw[h3];rfl)]
theorem Wd {d:List Int} (h:Bl d):Cv (d,())=(D8 d,0):=by
 have h1:=h.lo;have h2:=h.hi
 unfold Cv
 rw[AJ,Yd h,Ag _ _ (by rfl)]
 unfold Fi D8
 rw[Int.tdiv_eq_ediv_of_nonneg (by show 0≤Aa d;omega)]
 have:=Ak (Aa d/64) (by omega) (by omega)
 unfold wr at this
 rw[this]
theorem RA {d:List Int} (hl:Aa d≤9223372036854775807):Dv (d,())=true↔Bl d:=by
 have h0:=Ar d
 constructor
 ·intro h
  have h:((CX (d,())==0&&(Cv (d,())).2==0)&&decide (2≤(Cv (d,())).1))=true:=h
  simp only[Bool.and_eq_true,beq_iff_eq,decide_eq_true_eq] at h
  obtain⟨⟨hc,_⟩,h4⟩:=h
  have hm:Cv (d,())=(Fi .i64 (Aa d) 64,0):=by
   unfold Cv
   rw[AJ,hc,Ag _ _ (by rfl)]
  rw[hm] at h4
  have h4:2≤Fi .i64 (Aa d) 64:=h4
  unfold CX at hc
  rw[AT] at hc
  split at hc
  ·cases hc
  rename_i h1
  rw[AT] at hc
  split at hc
  ·cases hc
  rename_i h2
  simp only[Bool.or_eq_true,decide_eq_true_eq,not_or,Int.not_lt] at h1
  have h2:Gm (Aa d) 64=0:=by simpa using h2
  unfold Gm at h2
  have h3:=h2
  rw[Int.tmod_eq_emod_of_nonneg h0] at h3
  unfold Fi at h4
  rw[Int.tdiv_eq_ediv_of_nonneg h0] at h4
  have hw:=Ak (Aa d/64) (by omega) (by omega)
  unfold wr at hw
  rw[hw] at h4
  exact ⟨by omega,by omega,h2⟩
 ·intro h
  have hm:=H8 h
  unfold Dv
  simp only[AD,Wd h,Yd h]
  simp;omega
def blk (d:List Int) (n:Int):List Int:=AF (Bf d (n*64)) 64
theorem bY {d:List Int} (h:Bl d) {n:Int} (n0:0≤n) (n1:n<D8 d):Aa (blk d n)=64:=by
 have hm:=H8 h
 unfold blk
 rw[DC (by decide)]
 rw[Et (by omega) (by omega)];omega
theorem k9 {d:List Int} (h:Bl d) {n:Int} (n0:0≤n) (n1:n<D8 d):FM ((d,()),n)=0:=by
 unfold FM
 rw[AJ,Wd h,Ag _ _ (by simp;omega)]
theorem AfF {d:List Int} (h:Bl d) {n:Int} (n0:0≤n) (n1:n<D8 d):Cm ((d,()),n)=some (blk d n,0):=by
 have hm:=H8 h
 have hd:=Et (l:=d) (n:=n*64) (by omega) (by omega)
 unfold Cm
 rw[AJ,k9 h n0 n1,Ag _ _ (by rfl)]
 have hat:JZ ((d,()),n)=some (blk d n):=by
  unfold JZ
  rw[Ak (n*64) (by omega) (by omega),Af _ _ (by simp;omega),Af _ _ (decide_eq_true (by rw[hd];omega))]
  rfl
 rw[Ab _ _ hat,Ab _ _ (Rw (by rw[bY h n0 n1];decide))]
structure Li (d:List Int) (l:List CS):Prop where
 n:∀p∈l,0≤p.1∧p.1<D8 d
 d:∀p∈l,Aa p.2=64
 m:Aa l≤64
theorem Se (d:List Int):Li d []:=⟨fun p h=>(by cases h),fun p h=>(by cases h),by simp[Aa]⟩
def doV (whole torn:Int):Int→List CS→List Int→List Int
 |_,[],d=>d
 |i,p::l,d=>doV whole torn (i+1) l (if i<whole then Dy d (p.1*64) 64 p.2 else if i=whole then Dy d (p.1*64) 64 (AF p.2 torn) else d)
theorem Pu {d s:List Int} {lo n:Int} (h0:0≤lo) (n0:0≤n) (h1:lo+n≤Aa d):Aa (Dy d lo n s)=Aa d:=by
 unfold Dy Aa at *
 simp only[List.length_append,List.length_take,List.length_drop]
 omega
theorem Acp (whole torn:Int):∀(l:List CS) (i:Int) (d:List Int),(∀p∈l,0≤p.1∧p.1*64+64≤Aa d)→Aa (doV whole torn i l d)=Aa d
 |[],i,d,_=>rfl
 |p::l,i,d,h=>by
  have hp:=h p (by simp)
  have e:∀s,Aa (Dy d (p.1*64) 64 s)=Aa d:=fun s=>Pu (by omega) (by decide) (by omega)
  have e2:Aa (if i<whole then Dy d (p.1*64) 64 p.2 else if i=whole then Dy d (p.1*64) 64 (AF p.2 torn) else d)=Aa d:=by
   split
   ·exact e _
   ·split
    ·exact e _
    ·rfl
  rw[doV,Acp whole torn l (i+1) _ (fun q hq=>by rw[e2];exact h q (List.mem_cons_of_mem _ hq)),e2]
theorem AgN {d:List Int} {l:List CS} {whole torn:Int} (h:Bl d) (hl:Li d l) (w0:0≤whole) (w1:whole≤Aa l) (t0:0≤torn) (t1:torn≤64):Hx ((d,()),(l,(whole,torn)))=some ((doV whole torn 0 l d,()),0):=by
 have hm:=H8 h
 have hn:=Ar l
 have hlm:=hl.m
 unfold Hx
 rw[AJ,Yd h,Ag _ _ (by rfl)]
 refine AH (fun z:Int×Bb×Int=>z.1) (Aa l) (fun z=>z.2.2=0) (fun r=>r=some ((doV whole torn 0 l d,()),0)) (by omega) (by simp) hn rfl (fun z hI i0 i1=>?_) (fun z hI hz=>?_)
 ·obtain⟨i,w,e⟩:=z
  simp only at hI i0 i1
  subst hI
  obtain⟨p,hp,hpm⟩:=Au i0 i1
  have hpn:=hl.n p hpm
  try simp only
  rw[Af _ _ (decide_eq_true i1),Ab _ _ hp,AJ,k9 h hpn.1 hpn.2,Ag _ _ (by rfl),Ag _ _ (by rw[hl.d p hpm];rfl),Ak (i+1) (by omega) (by omega)]
  exact ⟨rfl,rfl⟩
 ·obtain⟨i,w,e⟩:=z
  simp only at hI hz
  subst hz hI
  try simp only
  rw[Ag _ _ (decide_eq_false (by omega)),Ag _ _ (by simp;omega),Ab _ _ (Rw (by omega))]
  show _ = some _
  refine AH (fun z:Int×List Int×Unit=>z.1) (Aa l) (fun z=>Aa z.2.1=Aa d∧doV whole torn z.1 (l.drop z.1.toNat) z.2.1=doV whole torn 0 l d) (fun r=>r=some ((doV whole torn 0 l d,()),0)) (by omega) (by simp) hn ⟨rfl,by simp⟩ (fun z hI i0 i1=>?_) (fun z hI hz=>?_)
  ·obtain⟨i,c,u⟩:=z
   obtain⟨g1,g2⟩:=hI
   simp only at i0 i1 g1 g2
   obtain⟨p,hp,hpm⟩:=Au i0 i1
   have hpn:=hl.n p hpm
   have hat:Ru (Aa c,p.1)=some (p.1*64,64):=by
    unfold Ru
    simp only
    rw[Ak (p.1*64) (by omega) (by omega),if_pos (by omega)]
   have hd:=Gi hp
   rw[hd,doV] at g2
   have e:∀s,Aa (Dy c (p.1*64) 64 s)=Aa d:=fun s=>by rw[Pu (by omega) (by decide) (by omega)];exact g1
   try simp only
   rw[Af _ _ (decide_eq_true i1),Ab _ _ hp,Ak (i+1) (by omega) (by omega)]
   by_cases c1:i<whole
   ·rw[if_pos c1] at g2
    rw[Af _ _ (decide_eq_true c1),Ab _ _ hat]
    exact ⟨rfl,e _,g2⟩
   ·rw[if_neg c1] at g2
    rw[Ag _ _ (decide_eq_false c1)]
    by_cases c2:i=whole
    ·rw[if_pos c2] at g2
     rw[Af _ _ (by simpa using c2),Ab _ _ hat,Af _ _ (by rw[hl.d p hpm];simp;omega)]
     exact ⟨rfl,e _,g2⟩
    ·rw[if_neg c2] at g2
     rw[Ag _ _ (by simpa using c2)]
     exact ⟨rfl,g1,g2⟩
  ·obtain⟨i,c,u⟩:=z
   obtain⟨g1,g2⟩:=hI
   simp only at hz g1 g2
   subst hz
   have hde:l.drop (Aa l).toNat=[]:=RE (Int.le_refl _)
   rw[hde,doV] at g2
   try simp only
   rw[Ag _ _ (decide_eq_false (by omega)),Ag _ _ (by rfl),g2]
   exact rfl
theorem QF {d:List Int} {l:List CS} {whole torn:Int} (h:Bl d) (hl:Li d l):Bl (doV whole torn 0 l d)∧Aa (doV whole torn 0 l d)=Aa d:=by
 have hm:=H8 h
 have e:=Acp whole torn l 0 d fun p hp=>by have:=hl.n p hp;omega
 exact ⟨⟨by rw[e];exact h.lo,by rw[e];exact h.hi,by rw[e];exact h.whole⟩,e⟩
theorem Ag1 (whole torn:Int) (d:List Int):doV whole torn 0 [] d=d:=rfl
structure Hr (k:Bt):Prop where
 gen:1≤k.1∧k.1<4611686018427387904
 mode:0≤k.2.1∧k.2.1≤3
 n:Aa k.2.2≤8
 plans:∀p∈k.2.2,Er p
def Ca (k:Bt):List Int:=smL k.2.1++BP (Hd k.2.2)
def Eh (k:Bt):List Int:=smL (Aa (Ca k))++Ca k
def Kn (k:Bt) (h:Int):List Int:=Eh k++AQ (48*h-Aa (Eh k)) 0
def C3 (k:Bt) (h i:Int):List Int:=leB 8 k.1.toNat++(AF (Bf (Kn k h) (i*48)) 48++leB 8 k.1.toNat)
def Cp (k:Bt) (h:Int):List (List Int):=(List.range h.toNat).map fun (i:Nat)=>C3 k h (i:Int)
theorem Kt {k:Bt} {h:Int} (h0:0≤h):Aa (Cp k h)=h:=by unfold Cp Aa;simp;omega
theorem MM {k:Bt} {h i:Int} (i0:0≤i) (i1:i<h):idx (Cp k h) i=some (C3 k h i):=by
 unfold Cp
 rw[Bw i0,List.getElem?_map,List.getElem?_range (by omega),Option.map_some,Int.toNat_of_nonneg i0]
theorem lG {k:Bt} {h:Int} {n:Nat}:(List.range (n+1)).map (fun (i:Nat)=>C3 k h (i:Int))=(List.range n).map (fun (i:Nat)=>C3 k h (i:Int))++[C3 k h (n:Int)]:=by
 rw[List.range_succ,List.map_append];rfl
theorem VZ (l:List Az) (hl:Aa l≤8) (h:∀p∈l,Er p):Aa (BP (Hd l))≤1000:=by
 obtain⟨b,e,_,h2,h3|h3⟩:=Qp l (fun p hp=>by have:=(h p hp).c;omega)
 ·obtain⟨_,_,_,rfl⟩:=h3;exact h2
 ·exact absurd ⟨hl,h⟩ h3.2
theorem Ue {k:Bt} (hk:Hr k):1≤Aa (Ca k)∧Aa (Ca k)≤1011:=by
 have:=VZ k.2.2 hk.n hk.plans
 have:=HF k.2.1
 have:=(Gf (Hd k.2.2)).1
 unfold Ca;rw[AV];omega
theorem yZ {k:Bt} (hk:Hr k):1≤Aa (Eh k)∧Aa (Eh k)≤1022:=by
 have:=Ue hk
 have:=HF (Aa (Ca k))
 unfold Eh;rw[AV];omega
theorem QX {k:Bt} {h:Int} (hf:Aa (Eh k)≤48*h):Aa (Kn k h)=48*h:=by
 unfold Kn;rw[AV,Bn (by omega)];omega
def Afn (k:Bt) (h:Int) (r:Option (List (List Int)×Int)):Prop :=
 ∃b e,r=some (b,e)∧((e=0∧Hr k∧Aa (Eh k)≤48*h∧b=Cp k h)∨(e≠0∧b=[]∧¬(Hr k∧Aa (Eh k)≤48*h)))
theorem Rj {k:Bt} {h:Int} (h1:1≤h) (h2:h≤32) (m0:0≤k.2.1) (hf:∀p∈k.2.2,-9223372036854775808≤p.1∧p.1≤9223372036854775807):Afn k h (BL (k,h)):=by
 unfold BL
 rw[Ag _ _ (by simp;omega),AT]
 split
 ·rename_i hc
  refine ⟨[],190,rfl,.inr ⟨by decide,rfl,fun hh=>?_⟩⟩
  have:=hh.1.gen;have:=hh.1.mode
  simp at hc;omega
 rename_i hc
 simp only[Bool.or_eq_true,decide_eq_true_eq,not_or,Int.not_lt,Int.not_le] at hc
 obtain⟨w,e,g1,g2,g3⟩:=Qp k.2.2 hf
 rw[Ab _ _ g1]
 rcases g3 with ⟨rfl,g3,g4,rfl⟩|⟨g3,g4⟩
 ·have hk:Hr k:=⟨⟨by omega,by omega⟩,⟨m0,by omega⟩,g3,g4⟩
  have hil:=Ue hk
  have hpl:=yZ hk
  have hsm:=HF k.2.1
  have hsl:=HF (Aa (Ca k))
  have ei:smL k.2.1++BP (Hd k.2.2)=Ca k:=rfl
  rw[Ag _ _ (by rfl),En (n:=k.2.1) ⟨m0,by omega⟩,Ab _ _ (bH ⟨m0,by omega⟩)]
  try simp only
  rw[Af _ _ (Ha (by omega) (by omega)),ei,En (n:=Aa (Ca k)) ⟨by omega,by omega⟩,Ab _ _ (bH ⟨by omega,by omega⟩)]
  try simp only
  have ep:smL (Aa (Ca k))++Ca k=Eh k:=rfl
  rw[Af _ _ (Ha (by omega) (by omega)),ep,Ak (48*h) (by omega) (by omega),AT]
  split
  ·rename_i hbig
   exact ⟨[],190,rfl,.inr ⟨by decide,rfl,fun hh=>by have:=hh.2;simp at hbig;omega⟩⟩
  ·rename_i hfit
   simp only[decide_eq_true_eq,Int.not_lt] at hfit
   rw[Ak (48*h-Aa (Eh k)) (by omega) (by omega),Af _ _ (by
    simp only[Bool.and_eq_true,decide_eq_true_eq,Bool.true_and]
    exact ⟨by omega,room_le (by omega)⟩)]
   have ed:Eh k++AQ (48*h-Aa (Eh k)) 0=Kn k h:=rfl
   have hpad:=QX (k:=k) (h:=h) hfit
   have hg:CE k.1:=⟨by omega,by omega⟩
   rw[ed,En hg,Ab _ _ (AgS hg)]
   try simp only
   refine ⟨Cp k h,0,?_,.inl ⟨rfl,hk,hfit,rfl⟩⟩
   refine AH (fun z:List (List Int)×Int=>z.2) h (fun z=>z.1=(List.range z.2.toNat).map fun (i:Nat)=>C3 k h (i:Int)) (fun r=>r=some (Cp k h,0)) (by omega) (by simp) (by simp only;omega) (by simp) (fun z hI i0 i1=>?_) (fun z hI hz=>?_)
   ·obtain⟨out,i⟩:=z
    simp only at hI i0 i1
    have hd:=Et (l:=Kn k h) (n:=i*48) (by omega) (by omega)
    have ht:=DC (l:=Bf (Kn k h) (i*48)) (n:=48) (by decide) (by omega)
    have l8:=J2 8 k.1.toNat
    have hj:G1 (leB 8 k.1.toNat::(AF (Bf (Kn k h) (i*48)) 48::(leB 8 k.1.toNat::[])),[])=some (C3 k h i):=by
     unfold G1
     simp only
     have e:(leB 8 k.1.toNat::(AF (Bf (Kn k h) (i*48)) 48::(leB 8 k.1.toNat::[]))).flatten=C3 k h i:=by simp[C3]
     rw[e,if_pos ⟨by simp[Aa],by unfold C3;rw[AV,AV,l8,ht];decide⟩]
    have hol:Aa out=i:=by rw[hI];unfold Aa;simp;omega
    try simp only
    rw[Af _ _ (decide_eq_true i1),Ak (i*48) (by omega) (by omega),Af _ _ (by simp;omega),Af _ _ (decide_eq_true (by omega)),Ab _ _ hj,Af _ _ (BN (l:=out) (by omega)),Ak (i+1) (by omega) (by omega)]
    refine ⟨rfl,?_⟩
    simp only
    rw[show (i+1).toNat=i.toNat+1 by omega,lG,hI,Int.toNat_of_nonneg i0]
   ·obtain⟨out,i⟩:=z
    simp only at hI hz
    subst hz
    try simp only
    rw[Ag _ _ (decide_eq_false (by omega)),hI]
    exact rfl
 ·rw[Af _ _ (by simp[g3])]
  exact ⟨[],e,rfl,.inr ⟨g3,rfl,fun hh=>g4 ⟨hh.1.n,hh.1.plans⟩⟩⟩
end Go.Proofs.YtmmkfcpdfnjgjaaGreatDoor
namespace Go.Proofs.YtmmkfcpdfnjgjaaGreatDoor
open Go.Den
def Fw (bs:List (List Int)):List Int:=bs.flatMap fun x=>AF (Bf x 8) 48
theorem dK:∀bs:List (List Int),(∀b∈bs,Aa b=64)→Aa (Fw bs)=48*Aa bs
 |[],_=>by simp[Fw,Aa]
 |b::bs,h=>by
  have ih:=dK bs fun x hx=>h x (List.mem_cons_of_mem _ hx)
  have hb:=h b (by simp)
  have hd:=Et (l:=b) (n:=8) (by decide) (by omega)
  have ht:=DC (l:=Bf b 8) (n:=48) (by decide) (by omega)
  have e:Fw (b::bs)=AF (Bf b 8) 48++Fw bs:=rfl
  rw[e,AV,Ft];omega
theorem oL {A:Type} {bad:A} {F:List Int×Int→Step (List Int×Int) A} {bs:List (List Int)} (P:A→Prop) (hb:∀b∈bs,Aa b=64) (hn:Aa bs≤64)
 (hF:∀b i x,0≤i→i<Aa bs→Aa b≤10000→idx bs i=some x→Aa x=64→F (b,i)=.next (b++AF (Bf x 8) 48,i+1)) (hK:∃r,F (Fw bs,Aa bs)=.done r∧P r):P (iter bad F AE ([],0)):=by
 have hn0:=Ar bs
 refine AH (fun z:List Int×Int=>z.2) (Aa bs) (fun z=>z.1=Fw (AF bs z.2)) P (by omega) (by simp) hn0 (by simp[Jk,Fw]) (fun z hI i0 i1=>?_) (fun z hI hz=>?_)
 ·obtain⟨b,i⟩:=z
  simp only at hI i0 i1
  obtain⟨x,hx,hm⟩:=Au i0 i1
  have hlt:=DC (l:=bs) i0 (by omega)
  have hml:=dK (AF bs i) fun y hy=>hb y (Ahh hy)
  rw[hF b i x i0 i1 (by rw[hI];omega) hx (hb x hm)]
  refine ⟨rfl,?_⟩
  simp only
  rw[MK i0 hx,hI]
  unfold Fw
  rw[List.flatMap_append];simp
 ·obtain⟨b,i⟩:=z
  simp only at hI hz
  subst hz
  rw[VR] at hI
  obtain⟨r,hr,hP⟩:=hK
  rw[hI,hr];exact hP
theorem Yx {b:List Int} (h:Aa b≤1000):∃v,B8 b=some v∧CE v:=by
 obtain⟨v,e,h1,h2⟩:=zA (l:=b) (by omega)
 unfold B8
 rw[Ab _ _ h1]
 exact ⟨v,rfl,h2⟩
def Gr (bs:List (List Int)):E5:=((0,(0,[])),(bs,false))
def Tp (bs:List (List Int)) (s:E5):Prop:=s.2.1=bs∧((s.2.2=false∧s.1=(0,(0,[])))∨(s.2.2=true∧Hr s.1))
theorem Ahu {bs:List (List Int)} (hb:∀b∈bs,Aa b=64) (h1:1≤Aa bs) (h2:Aa bs≤32):∃s,AY (Gr bs)=some s∧Tp bs s:=by
 have no:∃s,some (Gr bs)=some s∧Tp bs s:=⟨_,rfl,rfl,.inl ⟨rfl,rfl⟩⟩
 have hml:=dK bs hb
 unfold AY
 refine oL (bs:=bs) (fun r=>∃s,r=some s∧Tp bs s) hb (by omega) (fun b i x i0 i1 hbl hx hxl=>?_) ⟨_,Ag _ _ (decide_eq_false (by show ¬Aa bs<Aa bs;omega)),?_⟩
 ·have hd:=Et (l:=x) (n:=8) (by decide) (by omega)
  have ht:=DC (l:=Bf x 8) (n:=48) (by decide) (by omega)
  show cnd (decide (i<Aa bs)) _ _ = _
  rw[Af _ _ (decide_eq_true i1)]
  show Ae (idx bs i) _ _ = _
  rw[Ab _ _ hx,Af _ _ (decide_eq_true (by omega)),Af _ _ (decide_eq_true (by omega)),Af _ _ (Ha (b:=b) (by omega) (by omega)),Ak (i+1) (by omega) (by omega)]
 obtain⟨x0,hx0,hm0⟩:=Au (l:=bs) (i:=0) (by decide) (by omega)
 have hx0l:=hb x0 hm0
 have ht8:=DC (l:=x0) (n:=8) (by decide) (by omega)
 obtain⟨gen,hg,hgu⟩:=Yx (b:=AF x0 8) (by omega)
 obtain⟨n,k,e,r1,r2,r3,r4,r5,r6⟩:=YO (l:=Fw bs) (by omega)
 have hg0:=hgu.1
 have hn0:=r2.1
 show ∃s,Ae (idx bs 0) _ _ = some s∧_
 rw[Ab _ _ hx0,Af _ _ (decide_eq_true (by omega)),Ab _ _ hg,Ab _ _ r1]
 try simp only
 rw[Ak (Aa (Fw bs)-k) (by omega) (by omega),En (n:=Aa (Fw bs)-k) ⟨by omega,by omega⟩,AT]
 split
 ·exact no
 rename_i hc
 simp only[Bool.or_eq_true,decide_eq_true_eq,not_or,Int.not_lt,Int.not_le] at hc
 have hd:=Et (l:=Fw bs) r3 r4
 have hlv:Ff (Fw bs) k n=AF (Bf (Fw bs) k) n:=RV r3 hn0
 have hll:Aa (Ff (Fw bs) k n)=n:=by rw[hlv];exact DC hn0 (by omega)
 rw[Af _ _ (by simp;omega),Af _ _ (by simp;omega)]
 obtain⟨m,k2,e2,q1,q2,q3,q4,q5,q6⟩:=YO (l:=Ff (Fw bs) k n) (by omega)
 have hm0':=q2.1
 rw[Ab _ _ q1]
 try simp only
 rw[AT]
 split
 ·exact no
 rename_i hc2
 simp only[Bool.or_eq_true,decide_eq_true_eq,not_or,Int.not_lt] at hc2
 have hlv2:Aa (Ff (Fw bs) (k+k2) (n-k2))=n-k2:=by
  rw[RV (by omega) (by omega)]
  have:=Et (l:=Fw bs) (n:=k+k2) (by omega) (by omega)
  exact DC (by omega) (by omega)
 rw[Af _ _ (by simp;omega)]
 obtain⟨pl,e3,p1,p2,p3⟩:=Afq (b:=Ff (Fw bs) (k+k2) (n-k2)) (by omega)
 rw[Ab _ _ p1,AT]
 split
 ·exact no
 have e8:wr .u8 m=m:=SA _ (by omega) (by omega)
 have eg:wr .i64 gen=gen:=Ak _ (by omega) (by omega)
 obtain⟨ag,e4,b1,b2⟩:=Rj (k:=(gen,(m,pl))) (h:=Aa bs) h1 h2 hm0' (fun p hp=>by have:=(p3 p hp).c;omega)
 try simp only
 rw[e8,eg]
 show ∃s,Ae (BL ((gen,(m,pl)),Aa bs)) _ _ = some s∧_
 rw[Ab _ _ b1,AT]
 split
 ·exact no
 rename_i hc4
 have hc4:e4=0:=by simpa using hc4
 rcases b2 with ⟨_,b3,b4,rfl⟩|⟨b3,_⟩
 ·have hbl:=Kt (k:=(gen,(m,pl))) (h:=Aa bs) (by omega)
  try simp only
  refine AH (fun z:Int=>z) (Aa bs) (fun _=>True) (fun r=>∃s,r=some s∧Tp bs s) (by omega) (by simp) (by omega) trivial (fun i _ i0 i1=>?_) (fun i _ hz=>?_)
  ·obtain⟨y,hy,_⟩:=Au (l:=bs) i0 i1
   rw[hbl,Af _ _ (decide_eq_true i1),Ab _ _ (MM i0 i1)]
   show C8 _ _ _ _ (Ae (idx bs i) _ _)
   rw[Ab _ _ hy,AJ,AT]
   split
   ·exact no
   ·rw[Ak (i+1) (by omega) (by omega)]
    exact ⟨rfl,trivial⟩
  ·have hz:i=Aa bs:=hz
   rw[hbl,Ag _ _ (decide_eq_false (by omega))]
   exact ⟨_,rfl,rfl,.inr ⟨rfl,b3⟩⟩
 ·exact absurd hc4 b3
def AG (d:List Int):Int:=D8 d/2
def EX (d:List Int) (i:Int):List (List Int):=(List.range (AG d).toNat).map fun (n:Nat)=>blk d (i*AG d+(n:Int))
theorem Hl {d:List Int} (h:Bl d):1≤AG d∧AG d≤32∧2*AG d≤D8 d:=by
 have:=H8 h;unfold AG;omega
theorem La {d:List Int} (h:Bl d) (i:Int):Aa (EX d i)=AG d:=by
 have:=Hl h
 unfold EX Aa;simp;omega
theorem r7 {d:List Int} (h:Bl d) {i:Int} (hi:i=0∨i=1):∀b∈EX d i,Aa b=64:=fun b hb=>by
 have:=Hl h
 unfold EX at hb
 obtain⟨n,hn,rfl⟩:=List.mem_map.1 hb
 have hn:=List.mem_range.1 hn
 rcases hi with rfl|rfl<;>exact bY h (by omega) (by omega)
def Cx (d:List Int) (i:Int):E5:=(AY (Gr (EX d i))).getD (Gr [])
theorem Ob {d:List Int} (h:Bl d) {i:Int} (hi:i=0∨i=1):AY (Gr (EX d i))=some (Cx d i)∧Tp (EX d i) (Cx d i):=by
 have hh:=Hl h
 obtain⟨s,h1,h2⟩:=Ahu (r7 h hi) (by rw[La h];omega) (by rw[La h];omega)
 unfold Cx;rw[h1];exact ⟨rfl,h2⟩
theorem AcJ {d:List Int} (h:Bl d):Fi .i64 (D8 d) 2=AG d:=by
 have:=H8 h
 have hw:=Ak (D8 d/2) (by omega) (by omega)
 unfold wr at hw
 unfold Fi AG
 rw[Int.tdiv_eq_ediv_of_nonneg (by omega)]
 exact hw
theorem PK {A:Type} {bad:A} {F:Int×E5→Step (Int×E5) A} {d:List Int} (h:Bl d) {i:Int} (hi:i=0∨i=1) (P:A→Prop)
 (hF:∀(n:Int) out kk hh,0≤n→n<AG d→Aa out=n→Cm ((d,()),wr .i64 (wr .i64 (i*AG d)+n))=some (blk d (i*AG d+n),0)→F (n,(kk,(out,hh)))=.next (n+1,(kk,(out++(blk d (i*AG d+n)::[]),hh))))
 (hK:∃r,F (AG d,Gr (EX d i))=.done r∧P r):P (iter bad F AE (0,((0,(0,[])),([],false)))):=by
 have hh:=Hl h
 refine AH (fun z:Int×E5=>z.1) (AG d) (fun z=>z.2=Gr ((List.range z.1.toNat).map fun (n:Nat)=>blk d (i*AG d+(n:Int)))) P (by omega) (by simp) (by simp only;omega) rfl (fun z hI i0 i1=>?_) (fun z hI hz=>?_)
 ·obtain⟨n,w⟩:=z
  simp only at hI i0 i1
  subst hI
  have hw:wr .i64 (wr .i64 (i*AG d)+n)=i*AG d+n:=by
   rcases hi with rfl|rfl
   ·rw[Int.zero_mul,Ak 0 (by decide) (by decide),Ak _ (by omega) (by omega)]
   ·rw[Int.one_mul,Ak (AG d) (by omega) (by omega),Ak (AG d+n) (by omega) (by omega)]
  have hr:Cm ((d,()),wr .i64 (wr .i64 (i*AG d)+n))=some (blk d (i*AG d+n),0):=by
   rw[hw]
   exact AfF h (by rcases hi with rfl|rfl<;>omega) (by rcases hi with rfl|rfl<;>omega)
  unfold Gr
  rw[hF n _ _ _ i0 i1 (by unfold Aa;simp;omega) hr]
  refine ⟨rfl,?_⟩
  simp only
  rw[show (n+1).toNat=n.toNat+1 by omega,List.range_succ,List.map_append]
  simp only[List.map_cons,List.map_nil,Int.toNat_of_nonneg i0]
 ·obtain⟨n,w⟩:=z
  simp only at hI hz
  subst hz hI
  obtain⟨r,hr,hP⟩:=hK
  show L9 P (F (AG d,Gr (EX d i)))
  rw[hr];exact hP
def ZT (a b:E5):Bt×Int:=if a.2.2=true∧¬(b.2.2=true∧a.1.1<b.1.1) then (a.1,0) else if b.2.2=true then (b.1,0) else ((0,(0,[])),190)
theorem Ahm (x2 x4:E5):(cnd (x2.2.2&&(!(x4.2.2&&(decide (x2.1.1<x4.1.1))))) (some (x2.1,0)) (cnd x4.2.2 (some (x4.1,0)) (some ((0,(0,[])),190))))=some (ZT x2 x4):=by
 obtain⟨k,bs,h⟩:=x2
 obtain⟨k',bs',h'⟩:=x4
 unfold ZT
 simp only
 by_cases c:k.1<k'.1
 ·cases h<;>cases h'<;>simp[cnd,c]
 ·cases h<;>cases h'<;>simp[cnd,c]
def BM (d:List Int):Bt×Int:=ZT (Cx d 0) (Cx d 1)
theorem NN {d:List Int} (h:Bl d):D5 (d,())=some (BM d):=by
 have hm:=H8 h
 have hh:=Hl h
 obtain⟨a1,a2⟩:=Ob h (i:=0) (.inl rfl)
 obtain⟨b1,b2⟩:=Ob h (i:=1) (.inr rfl)
 unfold D5
 rw[AJ,Wd h,Ag _ _ (by rfl),Ag _ _ (decide_eq_false (by simp only;omega)),AcJ h]
 have step:∀(i n:Int) (out:List (List Int)) (kk:Bt) (hhh:Bool) (bad:Step (Int×E5) (Option (Bt×Int))) (E:Step (Int×E5) (Option (Bt×Int))),0≤n→n<AG d→Aa out=n→Cm ((d,()),wr .i64 (wr .i64 (i*AG d)+n))=some (blk d (i*AG d+n),0) →
  cnd (decide (n<AG d)) (Ae (Cm ((d,()),wr .i64 (wr .i64 (i*AG d)+n))) bad (fun x4=>cnd (true&&(AS ((Aa out)+(Aa (x4.1::[]))) 24)) (.next ((wr .i64 (n+1)),(kk,((out++(x4.1::[])),hhh)))) bad)) E=.next (n+1,(kk,(out++(blk d (i*AG d+n)::[]),hhh))):=fun i n out kk hhh bad E n0 n1 ho hr=>by
  rw[Af _ _ (decide_eq_true n1),Ab _ _ hr]
  try simp only
  rw[Af _ _ (BN (l:=out) (by omega)),Ak (n+1) (by omega) (by omega)]
 refine PK h (i:=0) (.inl rfl) (fun r=>r=some (BM d)) (fun n out kk hhh n0 n1 ho hr=>step 0 n out kk hhh _ _ n0 n1 ho hr) ⟨_,Ag _ _ (decide_eq_false (by show ¬AG d<AG d;omega)),?_⟩
 show Ae (AY (Gr (EX d 0))) _ _ = _
 rw[Ab _ _ a1]
 refine PK h (i:=1) (.inr rfl) (fun r=>r=some (BM d)) (fun n out kk hhh n0 n1 ho hr=>step 1 n out kk hhh _ _ n0 n1 ho hr) ⟨_,Ag _ _ (decide_eq_false (by show ¬AG d<AG d;omega)),?_⟩
 show Ae (AY (Gr (EX d 1))) _ _ = _
 rw[Ab _ _ b1]
 exact Ahm _ _
theorem y0 {d:List Int} (h:Bl d):((BM d).2=0∧Hr (BM d).1)∨((BM d).2=190∧(BM d).1=(0,(0,[]))):=by
 obtain⟨_,_,a2⟩:=Ob h (i:=0) (.inl rfl)
 obtain⟨_,_,b2⟩:=Ob h (i:=1) (.inr rfl)
 unfold BM ZT
 split
 ·rename_i hc
  rcases a2 with ⟨a2,_⟩|⟨_,a2⟩
  ·rw[hc.1] at a2;cases a2
  ·exact .inl ⟨rfl,a2⟩
 ·split
  ·rename_i hc
   rcases b2 with ⟨b2,_⟩|⟨_,b2⟩
   ·rw[hc] at b2;cases b2
   ·exact .inl ⟨rfl,b2⟩
  ·exact .inr ⟨rfl,rfl⟩
theorem lR {α:Type} (p q:α→Bool):∀l:List α,(∀x,q x=true→p x=true)→(∃x∈l,p x=true∧q x=false)→(l.filter q).length<(l.filter p).length
 |[],_,⟨x,hx,_⟩=>by cases hx
 |y::l,h,⟨x,hx,h1,h2⟩=>by
  have le:∀m:List α,(m.filter q).length≤(m.filter p).length:=fun m=>by
   induction m with
   |nil=>exact Nat.le_refl _
   |cons z m ih =>
    rw[List.filter_cons,List.filter_cons]
    cases hq:q z with
    |true=>rw[h z hq];simpa using ih
    |false =>
     cases hp:p z with
     |true=>simp;omega
     |false=>simpa using ih
  rw[List.filter_cons,List.filter_cons]
  rcases List.mem_cons.1 hx with rfl|hx
  ·rw[h1,h2]
   have:=le l
   simp;omega
  ·have ih:=lR p q l h ⟨x,hx,h1,h2⟩
   cases hq:q y with
   |true=>rw[h y hq];simpa using ih
   |false =>
    cases hp:p y with
    |true=>simp;omega
    |false=>simpa using ih
def KH (bs:List (List Int)):List Int:=bs.flatMap fun b=>[(B8 (AF b 8)).getD 0,(B8 (Bf b 56)).getD 0]
def Pd (bs:List (List Int)) (g r:Int):Prop:=g<r∧(∀n∈KH bs,n<4611686018427387904→n<r)∧(∃m,(m=g∨(m∈KH bs∧m<4611686018427387904))∧r≤m+33)
theorem Ahi {s:E5} {g:Int} (hb:∀b∈s.2.1,Aa b=64) (hn:Aa s.2.1≤32) (g0:0≤g) (g1:g<4611686018427387904):∃r,CW (s,g)=some r∧Pd s.2.1 g r:=by
 obtain⟨kk,bs,hh⟩:=s
 simp only at hb hn
 have hn0:=Ar bs
 unfold CW
 have pre:∀(i:Int) x,idx bs i=some x→KH (AF bs (i+1))=KH (AF bs i)++[(B8 (AF x 8)).getD 0,(B8 (Bf x 56)).getD 0]:=fun i x hx=>by
  rw[MK (An hx).1 hx]
  unfold KH;rw[List.flatMap_append];simp
 refine AH (fun z:Int×Int=>z.2) (Aa bs) (fun z=>g≤z.1∧z.1<4611686018427387904∧(∀n∈KH (AF bs z.2),n<4611686018427387904→n≤z.1)∧(z.1=g∨z.1∈KH (AF bs z.2))) (fun r=>∃q,r=some q∧Pd bs g q) (by omega) (by simp) hn0 ⟨Int.le_refl _,g1,fun n hn=>(by simp[Jk,KH] at hn),.inl rfl⟩ (fun z hI i0 i1=>?_) (fun z hI hz=>?_)
 ·obtain⟨m,i⟩:=z
  obtain⟨q1,q2,q3,q4⟩:=hI
  simp only at i0 i1 q1 q2 q3 q4
  obtain⟨x,hx,hxm⟩:=Au i0 i1
  have hxl:=hb x hxm
  have ht:=DC (l:=x) (n:=8) (by decide) (by omega)
  have hd:=Et (l:=x) (n:=56) (by decide) (by omega)
  obtain⟨v,hv,hvu⟩:=Yx (b:=AF x 8) (by omega)
  obtain⟨w,hw,hwu⟩:=Yx (b:=Bf x 56) (by omega)
  have hv0:=hvu.1
  have hw0:=hwu.1
  have hp:=pre i x hx
  rw[hv,hw] at hp
  simp only[Option.getD_some] at hp
  show C8 _ _ _ _ (cnd (decide (i<Aa bs)) _ _)
  rw[Af _ _ (decide_eq_true i1)]
  show C8 _ _ _ _ (Ae (idx bs i) _ _)
  rw[Ab _ _ hx,Af _ _ (decide_eq_true (by omega)),Ab _ _ hv,Af _ _ (decide_eq_true (by omega)),Ab _ _ hw]
  refine AH (fun z:Int×Int=>z.2) 2 (fun z=>g≤z.1∧z.1<4611686018427387904∧(∀n∈KH (AF bs i)++AF [v,w] z.2,n<4611686018427387904→n≤z.1)∧(z.1=g∨z.1∈KH (AF bs i)++AF [v,w] z.2)) (fun R=>C8 (fun z:Int×Int=>z.2) (fun z=>g≤z.1∧z.1<4611686018427387904∧(∀n∈KH (AF bs z.2),n<4611686018427387904→n≤z.1)∧(z.1=g∨z.1∈KH (AF bs z.2))) (fun r=>∃q,r=some q∧Pd bs g q) i R) (by decide) (by simp) (by simp) ⟨q1,q2,by simpa[Jk] using q3,by simpa[Jk] using q4⟩ (fun z hI k0 k1=>?_) (fun z hI hz=>?_)
  ·obtain⟨m2,k⟩:=z
   obtain⟨p1,p2,p3,p4⟩:=hI
   simp only at k0 k1 p1 p2 p3 p4
   have l2:Aa (v::(w::([]:List Int)))=2:=rfl
   obtain⟨y,hy⟩:∃y,idx (v::(w::[])) k=some y:=by obtain⟨y,hy,_⟩:=Au (l:=v::(w::[])) k0 (by rw[l2];exact k1);exact ⟨y,hy⟩
   have hyu:0≤y:=by
    have:=(An hy).2.2
    simp at this
    rcases this with rfl|rfl<;>assumption
   have htk:AF [v,w] (k+1)=AF [v,w] k++[y]:=MK k0 hy
   try simp only
   rw[l2,Af _ _ (decide_eq_true k1),Ab _ _ hy,Ak (k+1) (by omega) (by omega)]
   by_cases c:y<4611686018427387904
   ·rw[Af _ _ (decide_eq_true c),Ak y (by omega) (by omega),D7]
    refine ⟨rfl,by simp only;omega,by simp only;omega,fun n hnm hlt=>?_,?_⟩
    ·simp only at hnm ⊢
     rw[htk,←List.append_assoc] at hnm
     rcases List.mem_append.1 hnm with hnm|hnm
     ·have:=p3 n hnm hlt;omega
     ·have:n=y:=by simpa using hnm
      omega
    ·simp only
     rw[htk,←List.append_assoc]
     by_cases cm:m2≤y
     ·rw[Int.max_eq_right cm];exact .inr (by simp)
     ·rw[Int.max_eq_left (by omega)]
      rcases p4 with p4|p4
      ·exact .inl p4
      ·exact .inr (List.mem_append_left _ p4)
   ·rw[Ag _ _ (decide_eq_false c)]
    refine ⟨rfl,p1,p2,fun n hnm hlt=>?_,?_⟩
    ·simp only at hnm ⊢
     rw[htk,←List.append_assoc] at hnm
     rcases List.mem_append.1 hnm with hnm|hnm
     ·exact p3 n hnm hlt
     ·have:n=y:=by simpa using hnm
      omega
    ·simp only
     rw[htk,←List.append_assoc]
     rcases p4 with p4|p4
     ·exact .inl p4
     ·exact .inr (List.mem_append_left _ p4)
  ·obtain⟨m2,k⟩:=z
   obtain⟨p1,p2,p3,p4⟩:=hI
   simp only at hz p1 p2 p3 p4
   subst hz
   have l2:Aa (v::(w::([]:List Int)))=2:=rfl
   have h2:AF [v,w] 2=[v,w]:=rfl
   rw[h2,←hp] at p3 p4
   try simp only
   rw[l2,Ag _ _ (by rfl),Ak (i+1) (by omega) (by omega)]
   exact ⟨rfl,p1,p2,p3,p4⟩
 ·obtain⟨m,i⟩:=z
  obtain⟨q1,q2,q3,q4⟩:=hI
  simp only at hz q1 q2 q3 q4
  subst hz
  rw[VR] at q3 q4
  show L9 _ (cnd (decide (Aa bs<Aa bs)) _ _)
  rw[Ag _ _ (decide_eq_false (by omega)),Ak (m+1) (by omega) (by omega)]
  show ∃q,iter none _ AE (m+1)=some q∧_
  let res:List Int→Int:=fun b=>((idx b 56).getD 0-(m+1))%256
  have hlenle:∀p:List Int→Bool,(bs.filter p).length≤32:=fun p=>by
   have:=List.length_filter_le p bs
   unfold Aa at hn;omega
  have hI0:m+1≤m+1∧m+1-(m+1)+((bs.filter fun b=>decide (m+1-(m+1)≤res b)).length:Int)≤32:=by
   have:=hlenle fun b=>decide (m+1-(m+1)≤res b)
   exact ⟨Int.le_refl _,by omega⟩
  refine Fe (fun z:Int=>m+1≤z∧z-(m+1)+((bs.filter fun b=>decide (z-(m+1)≤res b)).length:Int)≤32) (fun z=>(m+34-z).toNat) (fun r:Option Int=>∃q,r=some q∧Pd bs g q) ?_ AE (m+1) hI0 (by rw[GX];omega)
  rintro z ⟨z0,z1⟩
  have hfin:Pd bs g z:=⟨by omega,fun n hnm hlt=>by have:=q3 n hnm hlt;omega,m,by
   rcases q4 with q4|q4
   ·exact .inl q4
   ·exact .inr ⟨q4,q2⟩,by omega⟩
  refine AH (fun z:Int=>z) (Aa bs) (fun _=>True) (fun R=>Round (fun z:Int=>m+1≤z∧z-(m+1)+((bs.filter fun b=>decide (z-(m+1)≤res b)).length:Int)≤32) (fun z=>(m+34-z).toNat) (fun r:Option Int=>∃q,r=some q∧Pd bs g q) (m+34-z).toNat R) (by omega) (by simp) hn0 trivial (fun i _ i0 i1=>?_) (fun i _ hz=>?_)
  ·obtain⟨x,hx,hxm⟩:=Au i0 i1
   obtain⟨y,hy,_⟩:=Au (l:=x) (i:=56) (by decide) (by rw[hb x hxm];decide)
   show C8 _ _ _ _ (cnd (decide (i<Aa bs)) _ _)
   rw[Af _ _ (decide_eq_true i1)]
   show C8 _ _ _ _ (Ae (idx bs i) _ _)
   rw[Ab _ _ hx,Ab _ _ hy,PO]
   by_cases c:y=z%256
   ·rw[Af _ _ (by simpa using c),Ak (z+1) (by omega) (by omega)]
    have hres:res x=z-(m+1):=by
     show ((idx x 56).getD 0-(m+1))%256 = _
     rw[hy]
     simp only[Option.getD_some]
     omega
    have hlt:=lR (fun b=>decide (z-(m+1)≤res b)) (fun b=>decide (z+1-(m+1)≤res b)) bs (fun b hq=>by
     simp only[decide_eq_true_eq] at hq ⊢;omega) ⟨x,hxm,by simp only[decide_eq_true_eq];omega,by simp only[decide_eq_false_iff_not];omega⟩
    exact ⟨⟨by omega,by omega⟩,(by show (m+34-(z+1)).toNat<(m+34-z).toNat;omega)⟩
   ·rw[Ag _ _ (by simpa using c),Ak (i+1) (by omega) (by omega)]
    exact ⟨rfl,trivial⟩
  ·have hz:i=Aa bs:=hz
   subst hz
   show L9 _ (cnd (decide (Aa bs<Aa bs)) _ _)
   rw[Ag _ _ (decide_eq_false (by omega))]
   exact ⟨z,rfl,hfin⟩
end Go.Proofs.YtmmkfcpdfnjgjaaGreatDoor
namespace Go.Proofs.YtmmkfcpdfnjgjaaGreatDoor
open Go.Den
def Wg (d:List Int):Prop:=(Cx d 0).2.2=true∧¬((Cx d 1).2.2=true∧(Cx d 0).1.1<(Cx d 1).1.1)
open Classical in
noncomputable def toV (d:List Int):Int:=if Wg d then 1 else 0
open Classical in
noncomputable def ML (d:List Int):Int:=if Wg d then (Cx d 0).1.1 else if (Cx d 1).2.2=true then (Cx d 1).1.1 else 0
def Eb (k:Bt) (h t:Int):List CS:=(List.range h.toNat).map fun (i:Nat)=>(t*h+(i:Int),C3 k h (i:Int))
theorem Ng {k:Bt} {h t:Int} (h0:0≤h):Aa (Eb k h t)=h:=by unfold Eb Aa;simp;omega
theorem Aba {k:Bt} {h t:Int} {n:Nat}:(List.range (n+1)).map (fun (i:Nat)=>(t*h+(i:Int),C3 k h (i:Int)))=(List.range n).map (fun (i:Nat)=>(t*h+(i:Int),C3 k h (i:Int)))++[(t*h+(n:Int),C3 k h (n:Int))]:=by
 rw[List.range_succ,List.map_append];rfl
theorem Lq {k:Bt} {h i:Int} (hf:Aa (Eh k)≤48*h) (i0:0≤i) (i1:i<h):Aa (C3 k h i)=64:=by
 have hp:=QX hf
 have hd:=Et (l:=Kn k h) (n:=i*48) (by omega) (by omega)
 have ht:=DC (l:=Bf (Kn k h) (i*48)) (n:=48) (by decide) (by omega)
 have l8:=J2 8 k.1.toNat
 unfold C3;rw[AV,AV,l8,ht];rfl
theorem dQ {k:Bt} {d:List Int} {t:Int} (h:Bl d) (ht:t=0∨t=1) (hf:Aa (Eh k)≤48*AG d):Li d (Eb k (AG d) t):=by
 have hh:=Hl h
 refine ⟨fun p hp=>?_,fun p hp=>?_,by rw[Ng (by omega)];omega⟩
 all_goals
  unfold Eb at hp
  obtain⟨i,hi,rfl⟩:=List.mem_map.1 hp
  have hi:=List.mem_range.1 hi
  simp only
 ·rcases ht with rfl|rfl
  ·rw[Int.zero_mul];omega
  ·rw[Int.one_mul];omega
 ·exact Lq hf (by omega) (by omega)
def YJ (d:List Int) (m:Int) (l:List Az):Prop:=Hr (1,(m,l))∧Aa (Eh (1,(m,l)))≤48*AG d
structure NM (d:List Int) (m:Int) (l:List Az) (ps:List CS) (e:Int):Prop where
 ok:Li d ps
 bad:e≠0→ps=[]∧(YJ d m l→∃r,Pd (EX d (toV d)) (ML d) r∧4611686018427387904≤r)
 good:e=0→YJ d m l∧∃r,Pd (EX d (toV d)) (ML d) r∧1≤r∧r<4611686018427387904∧ps=Eb (r,(m,l)) (AG d) (toV d)
theorem yY (g g' m:Int) (l:List Az):Eh (g,(m,l))=Eh (g',(m,l)):=rfl
theorem Adk {k:Bt} {h t:Int} {A:Type} {bad:A} {F:List CS×Int→Step (List CS×Int) A} (P:A→Prop) (h1:1≤h) (h2:h≤32) (ht:t=0∨t=1)
 (hF:∀(out:List CS) (i:Int) (b:List Int),0≤i→i<h→Aa out=i→idx (Cp k h) i=some b→F (out,i)=.next (out++((wr .i64 (wr .i64 (t*h)+i),b)::[]),i+1)) (hK:∃r,F (Eb k h t,h)=.done r∧P r):P (iter bad F AE ([],0)):=by
 refine AH (fun z:List CS×Int=>z.2) h (fun z=>z.1=(List.range z.2.toNat).map fun (i:Nat)=>(t*h+(i:Int),C3 k h (i:Int))) P (by omega) (by simp) (by simp only;omega) rfl (fun z hI i0 i1=>?_) (fun z hI hz=>?_)
 ·obtain⟨out,i⟩:=z
  simp only at hI i0 i1
  have hw:wr .i64 (wr .i64 (t*h)+i)=t*h+i:=by
   rcases ht with rfl|rfl
   ·rw[Int.zero_mul,Ak 0 (by decide) (by decide),Ak (0+i) (by omega) (by omega)]
   ·rw[Int.one_mul,Ak h (by omega) (by omega),Ak (h+i) (by omega) (by omega)]
  rw[hF out i _ i0 i1 (by rw[hI];unfold Aa;simp;omega) (MM i0 i1)]
  refine ⟨rfl,?_⟩
  simp only
  rw[show (i+1).toNat=i.toNat+1 by omega,Aba,hI,hw,Int.toNat_of_nonneg i0]
 ·obtain⟨out,i⟩:=z
  simp only at hI hz
  subst hz
  obtain⟨r,hr,hP⟩:=hK
  rw[hI]
  have e:(List.range i.toNat).map (fun (j:Nat)=>(t*i+(j:Int),C3 k i (j:Int)))=Eb k i t:=rfl
  rw[e,hr];exact hP
theorem Adl {S A:Type} {k:Bt} {h t i:Int} {out:List CS} {b:List Int} {bad E:Step S A} {f:List CS→Int→Step S A} (h1:1≤h) (h2:h≤32) (i0:0≤i) (i1:i<h) (ho:Aa out=i) (hb:idx (Cp k h) i=some b) :
 cnd (decide (i<Aa (Cp k h))) (Ae (idx (Cp k h) i) bad (fun x9=>(cnd (true&&(AS ((Aa out)+(Aa (((wr .i64 ((wr .i64 (t*h))+i)),x9)::[]))) 32)) (f (out++(((wr .i64 ((wr .i64 (t*h))+i)),x9)::[])) (wr .i64 (i+1))) bad))) E=f (out++((wr .i64 (wr .i64 (t*h)+i),b)::[])) (i+1):=by
 rw[Kt (by omega),Af _ _ (decide_eq_true i1),Ab _ _ hb,Af _ _ (BN (l:=out) (by omega)),Ak (i+1) (by omega) (by omega)]
theorem Afe {d:List Int} {m:Int} {l:List Az} (h:Bl d) (m0:0≤m) (hf:∀p∈l,-9223372036854775808≤p.1∧p.1≤9223372036854775807):∃ps e,FT ((d,()),(m,l))=some (ps,e)∧NM d m l ps e:=by
 have hm:=H8 h
 have hh:=Hl h
 obtain⟨a1,a2,a3⟩:=Ob h (i:=0) (.inl rfl)
 obtain⟨b1,b2,b3⟩:=Ob h (i:=1) (.inr rfl)
 have nofit:∀e:Int,e≠0→¬YJ d m l→NM d m l [] e:=fun e he hn=>⟨Se d,fun _=>⟨rfl,fun hh=>absurd hh hn⟩,fun h0=>absurd h0 he⟩
 unfold FT
 rw[AJ,Wd h,Ag _ _ (by rfl),Ag _ _ (decide_eq_false (by simp only;omega)),AcJ h]
 have step:∀(i n:Int) (out:List (List Int)) (kk:Bt) (hhh:Bool) (bad:Step (Int×E5) (Option (List CS×Int))) (E:Step (Int×E5) (Option (List CS×Int))),0≤n→n<AG d→Aa out=n→Cm ((d,()),wr .i64 (wr .i64 (i*AG d)+n))=some (blk d (i*AG d+n),0) →
  cnd (decide (n<AG d)) (Ae (Cm ((d,()),wr .i64 (wr .i64 (i*AG d)+n))) bad (fun x4=>cnd (true&&(AS ((Aa out)+(Aa (x4.1::[]))) 24)) (.next ((wr .i64 (n+1)),(kk,((out++(x4.1::[])),hhh)))) bad)) E=.next (n+1,(kk,(out++(blk d (i*AG d+n)::[]),hhh))):=fun i n out kk hhh bad E n0 n1 ho hr=>by
  rw[Af _ _ (decide_eq_true n1),Ab _ _ hr]
  try simp only
  rw[Af _ _ (BN (l:=out) (by omega)),Ak (n+1) (by omega) (by omega)]
 refine PK h (i:=0) (.inl rfl) (fun r=>∃ps e,r=some (ps,e)∧NM d m l ps e) (fun n out kk hhh n0 n1 ho hr=>step 0 n out kk hhh _ _ n0 n1 ho hr) ⟨_,Ag _ _ (decide_eq_false (by show ¬AG d<AG d;omega)),?_⟩
 show ∃ps e,Ae (AY (Gr (EX d 0))) _ _ = some (ps,e)∧_
 rw[Ab _ _ a1]
 refine PK h (i:=1) (.inr rfl) (fun r=>∃ps e,r=some (ps,e)∧NM d m l ps e) (fun n out kk hhh n0 n1 ho hr=>step 1 n out kk hhh _ _ n0 n1 ho hr) ⟨_,Ag _ _ (decide_eq_false (by show ¬AG d<AG d;omega)),?_⟩
 show ∃ps e,Ae (AY (Gr (EX d 1))) _ _ = some (ps,e)∧_
 rw[Ab _ _ b1,AT]
 split
 ·rename_i hc
  exact ⟨[],2,rfl,nofit 2 (by decide) fun hh=>by have:m≤3:=hh.1.mode.2;simp at hc;omega⟩
 rename_i hm3
 simp only[decide_eq_true_eq,Int.not_lt] at hm3
 have hbl0:Aa (Cx d 0).2.1=AG d:=by rw[a2,La h]
 rw[hbl0]
 obtain⟨w,e,p1,p2⟩:=Rj (k:=(1,(m,l))) (h:=AG d) hh.1 hh.2.1 m0 hf
 rw[Ab _ _ p1]
 rcases p2 with ⟨rfl,k1,k2,rfl⟩|⟨k1,_,k2⟩
 rotate_left
 ·rw[Af _ _ (by simp[k1])]
  exact ⟨[],e,rfl,nofit e k1 fun hh=>k2 hh⟩
 have hfit:YJ d m l:=⟨k1,k2⟩
 rw[Ag _ _ (by rfl)]
 have tail:∀(s:E5) (g t:Int) (R:Option (List CS×Int)),(t=0∨t=1)→toV d=t→ML d=g→0≤g→g<4611686018427387904→s.2.1=EX d t →
  (∀x6,CW (s,g)=some x6→(4611686018427387904≤x6→R=some ([],190))∧(¬4611686018427387904≤x6→BL ((x6,(m,l)),AG d)=some (Cp (x6,(m,l)) (AG d),0)→R=some (Eb (x6,(m,l)) (AG d) t,0)))→∃ps e,R=some (ps,e)∧NM d m l ps e:=fun s g t R ht hto hba g0 g1 hs hR=>by
  obtain⟨r,hr,hN⟩:=Ahi (s:=s) (g:=g) (by rw[hs];exact r7 h ht) (by rw[hs,La h];omega) g0 g1
  rw[hs] at hN
  obtain⟨q1,q2⟩:=hR r hr
  by_cases c:4611686018427387904≤r
  ·exact ⟨[],190,q1 c,Se d,fun _=>⟨rfl,fun _=>⟨r,by rw[hto,hba];exact hN,c⟩⟩,fun h0=>by cases h0⟩
  ·have hkr:Hr (r,(m,l)):=⟨⟨by have:=hN.1;show 1≤r;omega,by show r<_;omega⟩,k1.mode,k1.n,k1.plans⟩
   have hfr:Aa (Eh (r,(m,l)))≤48*AG d:=by rw[yY r 1];exact k2
   obtain⟨w,e,u1,u2⟩:=Rj (k:=(r,(m,l))) (h:=AG d) hh.1 hh.2.1 m0 hf
   rcases u2 with ⟨rfl,_,_,rfl⟩|⟨_,_,u2⟩
   ·exact ⟨_,0,q2 c u1,dQ h ht hfr,fun h0=>absurd rfl h0,fun _=>⟨hfit,r,by rw[hto,hba];exact hN,hkr.gen.1,hkr.gen.2,by rw[hto]⟩⟩
   ·exact absurd ⟨hkr,hfr⟩ u2
 have fin:∀(t r:Int) (w:List (List Int)×Int),(t=0∨t=1)→∀(R:Option (List CS×Int)),(∀x7,BL ((r,(m,l)),AG d)=some x7→R=iter none (fun x8:List CS×Int=>(cnd (decide (x8.2<(Aa x7.1))) (Ae (idx x7.1 x8.2) (.done none) (fun x9=>(cnd (true&&(AS ((Aa x8.1)+(Aa (((wr .i64 ((wr .i64 (t*AG d))+x8.2)),x9)::[]))) 32)) (.next ((x8.1++(((wr .i64 ((wr .i64 (t*AG d))+x8.2)),x9)::[])),(wr .i64 (x8.2+1)))) (.done none)))) (.done (some (x8.1,x7.2))))) AE ([],0))→BL ((r,(m,l)),AG d)=some (Cp (r,(m,l)) (AG d),0)→R=some (Eb (r,(m,l)) (AG d) t,0):=fun t r w ht R hR hB=>by
  rw[hR _ hB]
  refine Adk (k:=(r,(m,l))) (h:=AG d) (t:=t) (fun R=>R=some (Eb (r,(m,l)) (AG d) t,0)) hh.1 hh.2.1 ht (fun out i b i0 i1 ho hb=>?_) ⟨_,Ag _ _ (decide_eq_false (by simp only;rw[Kt (by omega)];omega)),rfl⟩
  exact Adl (f:=fun o i=>.next (o,i)) hh.1 hh.2.1 i0 i1 ho hb
 by_cases ca:Wg d
 ·have hK0:Hr (Cx d 0).1:=by
   rcases a3 with ⟨a3,_⟩|⟨_,a3⟩
   ·rw[ca.1] at a3;cases a3
   ·exact a3
  have hg:=hK0.gen
  have hcond:((Cx d 0).2.2&&(!((Cx d 1).2.2&&(decide ((Cx d 0).1.1<(Cx d 1).1.1)))))=true:=by
   rw[ca.1,Bool.true_and,Bool.not_eq_true',Bool.and_eq_false_iff,decide_eq_false_iff_not]
   by_cases c:(Cx d 1).2.2=true
   ·exact .inr fun hlt=>ca.2 ⟨c,hlt⟩
   ·exact .inl (by simpa using c)
  rw[Af _ _ hcond]
  refine tail (Cx d 1) (Cx d 0).1.1 1 _ (.inr rfl) (by unfold toV;rw[if_pos ca]) (by unfold ML;rw[if_pos ca]) (by omega) hg.2 b2 (fun r hr=>⟨fun c=>?_,fun c hB=>?_⟩)
  ·rw[Ab _ _ hr,Af _ _ (decide_eq_true c)]
  ·rw[Ab _ _ hr,Ag _ _ (decide_eq_false c)]
   exact fin 1 r ([],0) (.inr rfl) _ (fun x7 h7=>by rw[Ab _ _ h7]) hB
 ·have hcond:((Cx d 0).2.2&&(!((Cx d 1).2.2&&(decide ((Cx d 0).1.1<(Cx d 1).1.1)))))=false:=by
   apply Bool.eq_false_iff.2
   intro hh
   simp only[Bool.and_eq_true,Bool.not_eq_true',Bool.and_eq_false_iff,decide_eq_false_iff_not] at hh
   refine ca ⟨hh.1,fun hc=>?_⟩
   rcases hh.2 with h1|h1
   ·rw[hc.1] at h1;cases h1
   ·exact h1 hc.2
  rw[Ag _ _ hcond]
  by_cases cb:(Cx d 1).2.2=true
  ·have hK1:Hr (Cx d 1).1:=by
    rcases b3 with ⟨b3,_⟩|⟨_,b3⟩
    ·rw[cb] at b3;cases b3
    ·exact b3
   have hg:=hK1.gen
   rw[Af _ _ cb]
   refine tail (Cx d 0) (Cx d 1).1.1 0 _ (.inl rfl) (by unfold toV;rw[if_neg ca]) (by unfold ML;rw[if_neg ca,if_pos cb]) (by omega) hg.2 a2 (fun r hr=>⟨fun c=>?_,fun c hB=>?_⟩)
   ·rw[Ab _ _ hr,Af _ _ (decide_eq_true c)]
   ·rw[Ab _ _ hr,Ag _ _ (decide_eq_false c)]
    exact fin 0 r ([],0) (.inl rfl) _ (fun x7 h7=>by rw[Ab _ _ h7]) hB
  ·rw[Ag _ _ (Bool.eq_false_iff.2 cb)]
   refine tail (Cx d 0) 0 0 _ (.inl rfl) (by unfold toV;rw[if_neg ca]) (by unfold ML;rw[if_neg ca,if_neg cb]) (by decide) (by decide) a2 (fun r hr=>⟨fun c=>?_,fun c hB=>?_⟩)
   ·rw[Ab _ _ hr,Af _ _ (decide_eq_true c)]
   ·rw[Ab _ _ hr,Ag _ _ (decide_eq_false c)]
    exact fin 0 r ([],0) (.inl rfl) _ (fun x7 h7=>by rw[Ab _ _ h7]) hB
end Go.Proofs.YtmmkfcpdfnjgjaaGreatDoor
namespace Go.Proofs.YtmmkfcpdfnjgjaaGreatDoor
open Go.Den
def Tn (r:List Int):Prop:=Aa r≤2048∧(r=[]∨∃t,r=126::t∧zB t)
def Of (s:Ad) (p:Az):Prop:=FB s p∨p=(0,(0,[]))
def YK (g:Bj):Prop:=EN g=0∧CE g.2.2.2.2
def KU (p:BH):Prop:=0≤p.2.2∧p.2.2≤1048576
structure HS (n:Int) (gr bu cm:List Int):Prop where
 g:Aa gr=n
 b:Aa bu=n
 c:Aa cm=n
 v:∀i,0≤i→i<n→0≤el bu i∧el bu i≤el gr i∧el gr i≤1048576∧0≤el cm i∧el cm i≤1048576
def BT (s:Ad):Int:=Aa s.2.2.2.2.2.1
def B6 (s:Ad):Int:=Aa s.2.2.2.2.1
structure Fx (s:Ad) (x:AM):Prop where
 disk:Bl x.1.1
 now:BS s x.2.1
 rung:Ld.IY x.2.2.1
 seq:Js s x.2.2.2.1
 link:Kp x.2.2.2.2.1
 rest:Tn x.2.2.2.2.2.1
 told:Of s x.2.2.2.2.2.2.1
 age:0≤x.2.2.2.2.2.2.2.1∧x.2.2.2.2.2.2.2.1≤1048576
 pn:Aa x.2.2.2.2.2.2.2.2.1=BT s
 pulse:∀p∈x.2.2.2.2.2.2.2.2.1,KU p
 eyes:Ey.FF 0 s x.2.2.2.2.2.2.2.2.2.1=0
 gn:Aa x.2.2.2.2.2.2.2.2.2.2.1=BT s
 gaps:∀g∈x.2.2.2.2.2.2.2.2.2.2.1,YK g
 calls:Ax x.2.2.2.2.2.2.2.2.2.2.2.1∧Ay .u32 x.2.2.2.2.2.2.2.2.2.2.2.1 (B6 s)=0
 wrong:0≤x.2.2.2.2.2.2.2.2.2.2.2.2.1∧x.2.2.2.2.2.2.2.2.2.2.2.2.1≤1048576
 tick:0≤x.2.2.2.2.2.2.2.2.2.2.2.2.2.1∧x.2.2.2.2.2.2.2.2.2.2.2.2.2.1≤1073741824
 cnt:HS (B6 s) x.2.2.2.2.2.2.2.2.2.2.2.2.2.2.1 x.2.2.2.2.2.2.2.2.2.2.2.2.2.2.2.1 x.2.2.2.2.2.2.2.2.2.2.2.2.2.2.2.2.1
 sent:Ax x.2.2.2.2.2.2.2.2.2.2.2.2.2.2.2.2.2
structure St (s:Ad):Prop where
 f:Bm s
 ok:Be s
 chk:Aw s=some 0
theorem St.so {s:Ad} (h:St s):SOK s:=sok h.f h.ok
theorem St.ph {s:Ad} (h:St s):1≤B6 s∧B6 s≤8:=⟨h.ok.shape.p1,h.ok.shape.p2⟩
theorem St.ne {s:Ad} (h:St s):0≤BT s∧BT s≤24:=⟨Ar _,h.ok.shape.e⟩
theorem Sz {p:Az} (h:Er p):Rm p∧(-9223372036854775808≤p.2.1∧p.2.1≤9223372036854775807):=by
 have hc:=h.c;have ho:=h.o;have hn:=h.n
 refine ⟨⟨by omega,?_,fun m hm=>by have:=h.m m hm;omega⟩,by omega⟩
 unfold Aa at hn;unfold maxLen;omega
theorem Zg {s:Ad} (h:St s) {p:Az} (hp:Er p):Fg (s,p)=some (Pn.Ew s p,0)∧FB s (Pn.Ew s p):=by
 have hf:=Sz hp
 refine ⟨?_,Pn.Aei h.f h.ok⟩
 rw[Pn.AfG (e:=0) h.f (fun _=>h.ok) h.chk hf.1 hf.2,if_neg (by simp)]
theorem NT {s:Ad} (h:St s) {p:Az} (hp:FB s p):Er p:=by
 have N:=Pn.ZU h.f h.ok hp
 have hl:=hp.len
 have hph:=h.ph
 unfold B6 at hph
 refine ⟨N.cyc,⟨hp.offset.1,hp.offset.2⟩,by omega,fun m hm=>?_⟩
 obtain⟨i,hi⟩:=D9 hm
 obtain⟨i0,i1,_⟩:=An hi
 have hs:=hp.split i.toNat (by omega)
 have hnn:=(Pn.IT h.f h.ok (i:=i) i0 (by omega)).1
 have e:((i.toNat:Nat):Int)=i:=by omega
 rw[e,Df hi] at hs
 have hle:JP p i.toNat≤p.1:=by
  rw[Pn.Mz]
  have:=Pn.eF (f:=fun i=>el p.2.2 i) (b:=1048576) (n:=0) (fun k hk=>absurd hk (by omega)) 0 (Nat.le_refl _)
  have hen:=N.ends i.toNat (by have:=N.len;unfold Aa at i1;omega)
  unfold Pn.Dg at hen
  omega
 have:=N.cyc
 omega
theorem Ags {l:List Int} {la:Int} (h0:idx l la=some 126) (h1:∀j,la<j→idx l j≠some 126):∃t,Bf l la=126::t∧zB t:=by
 obtain⟨i0,i1,_⟩:=An h0
 refine ⟨l.drop (la+1).toNat,Gi h0,fun b hb he=>?_⟩
 subst he
 obtain⟨i,hi⟩:=D9 hb
 obtain⟨k0,k1,_⟩:=An hi
 refine h1 (la+1+i) (by omega) ?_
 rw[Bw k0,List.getElem?_drop] at hi
 rw[Bw (by omega),show (la+1+i).toNat=(la+1).toNat+i.toNat by omega]
 exact hi
theorem Wm {σ A:Type} {K:σ→A} {body:(σ→A)→A} (t:σ) (h:∀k,body k=k t):Dh K body=K t:=h K
structure YL (s:Ad) (lk:Cy) (rs:List Int) (td:Az) (ag:Int) (b:List Int) (lk':Cy) (rs':List Int) (td':Az) (ag':Int) (told:Bool):Prop where
 link:Kp lk'
 rest:Tn rs'
 plan:Of s td'
 age:0≤ag'∧ag'≤1048576
 yes:told=true→FB s td'∧ag'=0
 no:told=false→td'=td∧ag'=min (ag+1) 1048576
 more:∀all ms la,all=rs++AF b (min 8192 (Aa b))→DU all=some (ms,(la,0))→rs'=(if 0≤la∧Aa all-la≤2048 then Bf all la else []) ∧
  (ms=[]→lk'=Pv lk []∧told=false) ∧
  (∀m c,ms=[m]→m.1=2→DY m.2.2=some (c,0)→c.1=s.1→(lk.1=true→lk.2.1<m.2.1)→told=true∧td'=Pn.Ew s c.2∧lk'=Pv lk [m])
theorem JQ (n m:Int) (h0:0≤n) (h1:n≤9223372036854775806):B3 (n,m)=min (n+1) m:=by
 unfold B3
 rw[DB,Ak (n+1) (by omega) (by omega)]
theorem Ag9 {s:Ad} (h:St s) {d:List Int} {now:Aq} {rg:BR} {q:Ej} {lk:Cy} {rs:List Int} {td:Az} {ag:Int} {pu:List BH} {ey:List AK} {ga:List Bj} {ca wn ti:Int} {gr bu cm:List Int} {se:Int} {ip:Cd} {r:List CS×List BH×List Int×List Int×List Int} (hx:Fx s ((d,()),(now,(rg,(q,(lk,(rs,(td,(ag,(pu,(ey,(ga,(ca,(wn,(ti,(gr,(bu,(cm,se)))))))))))))))))) :
 ∃lk' rs' td' ag' told,EU (s,(((d,()),(now,(rg,(q,(lk,(rs,(td,(ag,(pu,(ey,(ga,(ca,(wn,(ti,(gr,(bu,(cm,se))))))))))))))))),(ip,r)))=some ((s,(((d,()),(now,(rg,(q,(lk',(rs',(td',(ag',(pu,(ey,(ga,(ca,(wn,(ti,(gr,(bu,(cm,se))))))))))))))))),(ip,r))),told)∧YL s lk rs td ag ip.1 lk' rs' td' ag' told:=by
 have hlk:Kp lk:=hx.link
 have hrs:Tn rs:=hx.rest
 have htd:Of s td:=hx.told
 have hag:0≤ag∧ag≤1048576:=hx.age
 obtain⟨ib,ir⟩:=ip
 have hib:=Ar ib
 have hg:Bi 8192 (Aa ib)=min 8192 (Aa ib):=DB _ _
 have htk:=DC (l:=ib) (n:=min 8192 (Aa ib)) (by omega) (by omega)
 have hrl:=hrs.1
 have hrn:=Ar rs
 obtain⟨all,hall⟩:∃all,all=rs++AF ib (min 8192 (Aa ib)):=⟨_,rfl⟩
 have hal:Aa all=Aa rs+min 8192 (Aa ib):=by rw[hall,AV,htk]
 obtain⟨la,hsc,a1,a2,a3,a4,a5,a6⟩:=AdD (l:=all) (by omega)
 generalize (all.foldl Kf ([],([],(false,false)))).1=ms at hsc a5 a6
 obtain⟨lk',tk,e,hl1,hl2,hl3,hl4⟩:=AaY (l:=lk) (ms:=ms) hlk a6
 unfold EU
 try simp only
 rw[hg,Af _ _ (by simp;omega),Ab _ _ (Ad1 (by omega) (by omega)),←hall,Ab _ _ hsc]
 try simp only
 rw[Ak (Aa all-la) (by omega) (by omega)]
 obtain⟨rs',hr2⟩:∃rs',rs'=(if 0≤la∧Aa all-la≤2048 then Bf all la else []):=⟨_,rfl⟩
 have hr1:Tn rs':=by
  rw[hr2]
  split
  ·next c =>
   have hd:=Et (l:=all) (n:=la) c.1 (by omega)
   exact ⟨by omega,.inr (Ags (a3 c.1) a4)⟩
  ·exact ⟨by simp[Aa],.inl rfl⟩
 rw[Wm (s,(((d,()),(now,(rg,(q,(lk,(rs',(td,(ag,(pu,(ey,(ga,(ca,(wn,(ti,(gr,(bu,(cm,se))))))))))))))))),((ib,ir),r)))]
 rotate_left
 ·intro k
  by_cases c:0≤la∧Aa all-la≤2048
  ·have hd:=Et (l:=all) (n:=la) c.1 (by omega)
   rw[Af _ _ (by simp[c.1,c.2]),Af _ _ (by simp;omega),Ab _ _ (fB (by omega)),hr2,if_pos c]
  ·rw[Ag _ _ (by
    apply Bool.eq_false_iff.2
    intro hh
    simp only[Bool.and_eq_true,decide_eq_true_eq] at hh
    exact c hh),hr2,if_neg c]
 try simp only
 rw[Ab _ _ hl1]
 have htn:=Ar tk
 refine AH (fun z:Bool×Int×BX=>z.2.1) (Aa tk) (fun z=>∃td',z.2.2=(s,(((d,()),(now,(rg,(q,(lk',(rs',(td',(ag,(pu,(ey,(ga,(ca,(wn,(ti,(gr,(bu,(cm,se))))))))))))))))),((ib,ir),r)))∧Of s td'∧(z.1=true→FB s td')∧(z.1=false→td'=td)∧(z.2.1=0→z.1=false) ∧
  (∀m c,tk=[m]→m.1=2→DY m.2.2=some (c,0)→c.1=s.1→z.2.1=1→z.1=true∧td'=Pn.Ew s c.2))
  (fun R=>∃lk' rs' td' ag' told,R=some ((s,(((d,()),(now,(rg,(q,(lk',(rs',(td',(ag',(pu,(ey,(ga,(ca,(wn,(ti,(gr,(bu,(cm,se))))))))))))))))),((ib,ir),r))),told)∧YL s lk rs td ag ib lk' rs' td' ag' told) (by omega) (by simp) htn ⟨td,rfl,htd,fun h=>(by cases h),fun _=>rfl,fun _=>rfl,fun m c _ _ _ _ hz=>(by simp at hz)⟩ (fun z hI i0 i1=>?_) (fun z hI hz=>?_)
 ·obtain⟨tl,i,t⟩:=z
  obtain⟨td',ht,h1,h2,h3,h4,h5⟩:=hI
  simp only at i0 i1 ht h1 h2 h3 h4 h5
  subst ht
  obtain⟨m,hm,hmm⟩:=Au i0 i1
  have hmo:=(hl3 m hmm).body
  obtain⟨c,ce,o1,o2⟩:=sW (l:=m.2.2) (by omega)
  try simp only
  rw[Af _ _ (decide_eq_true i1),Ab _ _ hm,Ab _ _ o1,Ak (i+1) (by omega) (by omega)]
  by_cases cc:(m.1=2∧ce=0)∧c.1=s.1
  ·have hco:=o2 cc.1.2
   obtain⟨k1,k2⟩:=Zg h hco.plan
   rw[Af _ _ (by simp[cc.1.1,cc.1.2,cc.2])]
   try simp only
   rw[Ab _ _ k1]
   refine ⟨rfl,_,rfl,.inl k2,fun _=>k2,fun hh=>(by cases hh),fun hz=>(by simp only at hz;omega),fun m' c' e1 e2 e3 e4 e5=>⟨rfl,?_⟩⟩
   simp only at e5
   have hi:i=0:=by omega
   subst hi
   rw[e1] at hm
   have:m'=m:=Option.some.inj hm
   subst this
   rw[o1] at e3
   have:=(Prod.mk.inj (Option.some.inj e3)).1
   rw[this]
  ·rw[Ag _ _ (by
    apply Bool.eq_false_iff.2
    intro hh
    simp only[Bool.and_eq_true,beq_iff_eq] at hh
    exact cc hh)]
   refine ⟨rfl,td',rfl,h1,h2,h3,fun hz=>(by simp only at hz;omega),fun m' c' e1 e2 e3 e4 e5=>?_⟩
   simp only at e5
   have hi:i=0:=by omega
   subst hi
   rw[e1] at hm
   have:m'=m:=Option.some.inj hm
   subst this
   rw[o1] at e3
   have:=Prod.mk.inj (Option.some.inj e3)
   exact absurd ⟨⟨e2,this.2⟩,by rw[this.1];exact e4⟩ cc
 ·obtain⟨tl,i,t⟩:=z
  obtain⟨td',ht,h1,h2,h3,h4,h5⟩:=hI
  simp only at hz ht h1 h2 h3 h4 h5
  subst hz ht
  try simp only
  rw[Ag _ _ (decide_eq_false (by omega)),AJ,JQ ag 1048576 hag.1 (by omega)]
  have fin:∀ag',(tl=true→ag'=0)→(tl=false→ag'=min (ag+1) 1048576)→YL s lk rs td ag ib lk' rs' td' ag' tl:=fun ag' f1 f2=>by
   refine ⟨hl2,hr1,h1,?_,fun ht=>⟨h2 ht,f1 ht⟩,fun ht=>⟨h3 ht,f2 ht⟩,fun all2 ms2 la2 g1 g2=>?_⟩
   ·cases tl with
    |true=>have:=f1 rfl;omega
    |false=>have:=f2 rfl;omega
   ·have e1:all2=all:=by rw[g1,hall]
    subst e1
    rw[hsc] at g2
    have e2:=Prod.mk.inj (Option.some.inj g2)
    have e3:=(Prod.mk.inj e2.2).1
    obtain⟨e2,_⟩:=e2
    subst e2 e3
    refine ⟨hr2,fun hnil=>?_,fun m c hone q1 q2 q3 q4=>?_⟩
    ·subst hnil
     rw[RR hlk (fun m hm=>by cases hm) (by simp[Aa])] at hl1
     have e4:=Prod.mk.inj (Option.some.inj hl1)
     have e5:=(Prod.mk.inj e4.2).1
     refine ⟨e4.1.symm,?_⟩
     have:tk=[]:=by rw[←e5];rfl
     exact h4 (by rw[this];rfl)
    ·subst hone
     rw[RR hlk a6 (by simp[Aa])] at hl1
     have e4:=Prod.mk.inj (Option.some.inj hl1)
     have e5:=(Prod.mk.inj e4.2).1
     have htk1:tk=[m]:=by
      rw[←e5]
      simp only[FA]
      rw[if_neg (fun hh=>by have:=q4 hh.1;omega)]
     have h6:=h5 m c htk1 q1 q2 q3 (by rw[htk1];rfl)
     exact ⟨h6.1,h6.2,e4.1.symm⟩
  cases tl with
  |true=>rw[Af _ _ rfl];exact ⟨_,_,_,_,_,rfl,fin 0 (fun _=>rfl) (fun hh=>by cases hh)⟩
  |false=>rw[Ag _ _ rfl];exact ⟨_,_,_,_,_,rfl,fin _ (fun hh=>by cases hh) (fun _=>rfl)⟩
end Go.Proofs.YtmmkfcpdfnjgjaaGreatDoor
namespace Go.Proofs.YtmmkfcpdfnjgjaaGreatDoor
open Go.Den
theorem AhH (a b:List Int) (ha:Aa a≤1000000):∃r,C1 (a,b)=some r:=by
 unfold C1
 by_cases c:Aa a=Aa b
 ·rw[Ag _ _ (by simp[c])]
  refine AH (fun i:Int=>i) (Aa a) (fun _=>True) (fun R=>∃r,R=some r) (by omega) (by omega) (Ar a) trivial (fun i _ i0 i1=>?_) (fun i _ hi=>?_)
  ·obtain⟨x,hx,_⟩:=Au i0 i1
   obtain⟨y,hy,_⟩:=Au (l:=b) i0 (by omega)
   try simp only
   rw[Af _ _ (decide_eq_true i1),Ab _ _ hx,Ab _ _ hy,Ak (i+1) (by omega) (by omega)]
   by_cases d:x=y
   ·rw[Ag _ _ (by simp[d])];exact ⟨rfl,trivial⟩
   ·rw[Af _ _ (by simp[d])];exact ⟨_,rfl⟩
  ·try simp only
   rw[Ag _ _ (decide_eq_false (by omega))]
   exact ⟨_,rfl⟩
 ·rw[Af _ _ (by simp[c])]
  exact ⟨_,rfl⟩
theorem Ahr (a b:Az) (ha:Aa a.2.2≤1000000):∃r,H7 (a,b)=some r:=by
 unfold H7
 obtain⟨r,hr⟩:=AhH a.2.2 b.2.2 ha
 rw[AT]
 split
 ·rw[Ab _ _ hr];exact ⟨_,rfl⟩
 ·exact ⟨_,rfl⟩
theorem AdP {s:Ad} (h:St s) {p:Az} (hp:Of s p):-9223372036854775808≤p.1∧p.1≤9223372036854775807:=by
 rcases hp with hp|hp
 ·have:=(NT h hp).c;omega
 ·rw[hp];simp
theorem AgH {s:Ad} (h:St s) {d:List Int} {now:Aq} {rg:BR} {q:Ej} {lk:Cy} {rs:List Int} {td:Az} {ag:Int} {pu:List BH} {ey:List AK} {ga:List Bj} {ca wn ti:Int} {gr bu cm:List Int} {se:Int} {ip:Cd} {w:List CS} {r:List BH×List Int×List Int×List Int} (hx:Fx s ((d,()),(now,(rg,(q,(lk,(rs,(td,(ag,(pu,(ey,(ga,(ca,(wn,(ti,(gr,(bu,(cm,se)))))))))))))))))) :
 ∃ps,DJ (s,(((d,()),(now,(rg,(q,(lk,(rs,(td,(ag,(pu,(ey,(ga,(ca,(wn,(ti,(gr,(bu,(cm,se))))))))))))))))),(ip,(w,r))))=some (s,(((d,()),(now,(rg,(q,(lk,(rs,(td,(ag,(pu,(ey,(ga,(ca,(wn,(ti,(gr,(bu,(cm,se))))))))))))))))),(ip,(ps,r))))∧(ps=w∨∃e,NM d rg.1 (td::[]) ps e):=by
 have hd:Bl d:=hx.disk
 have hr:=hx.rung.mode.1
 have hp:Of s td:=hx.told
 simp only at hr
 obtain⟨ps,e,p1,p2⟩:=Afe (d:=d) (m:=rg.1) (l:=td::[]) hd hr (fun p hm=>by
  rcases List.mem_cons.1 hm with rfl|hm
  ·exact AdP h hp
  ·cases hm)
 unfold DJ
 try simp only
 rw[Ab _ _ (NN hd)]
 by_cases c:(((BM d).2==0)&&((BM d).1.2.1==rg.1)&&(Aa (BM d).1.2.2==1))=true
 ·rw[Af _ _ c]
  simp only[Bool.and_eq_true,beq_iff_eq] at c
  obtain⟨p,q1,q2⟩:=Au (l:=(BM d).1.2.2) (i:=0) (by omega) (by omega)
  have hk:Hr (BM d).1:=by
   rcases y0 hd with hk|hk
   ·exact hk.2
   ·exact absurd hk.1 (by omega)
  have hn:=(hk.plans p q2).n
  obtain⟨b,hb⟩:=Ahr p td (by omega)
  rw[Ab _ _ q1,Ab _ _ hb]
  cases b with
  |true=>rw[Af _ _ rfl];exact ⟨w,rfl,.inl rfl⟩
  |false =>
   rw[Ag _ _ rfl,Ab _ _ p1]
   exact ⟨ps,rfl,.inr ⟨e,p2⟩⟩
 ·rw[Ag _ _ (Bool.eq_false_iff.2 c),Ab _ _ p1]
  exact ⟨ps,rfl,.inr ⟨e,p2⟩⟩
def Ex (s:Ad) (m:Int) (d:List Int):AM :=
 ((d,()),(Lw s,(Cg m,((0,0),((false,(0,0)),([],((0,(0,[])),(1048576,((AQ (BT s) (false,(false,0))),((AQ (BT s) (false,(0,(0,(false,0))))),((AQ (BT s) (false,(0,(0,(0,0))))),(0,(0,(0,((AQ (B6 s) 0),((AQ (B6 s) 0),((AQ (B6 s) 0),0)))))))))))))))))
theorem l7 {s:Ad} (h:St s) {d:List Int} (hd:Bl d):Fu (s,(d,()))=some (Ex s (BM d).1.2.1 d):=by
 have hdl:=hd.hi
 have ne:=h.ne;have np:=h.ph
 unfold BT at ne;unfold B6 at np
 have a1:=J5 (n:=Aa s.2.2.2.2.2.1) (b:=16) ne.1 (by omega)
 have a2:=J5 (n:=Aa s.2.2.2.2.2.1) (b:=40) ne.1 (by omega)
 have a3:=J5 (n:=Aa s.2.2.2.2.1) (b:=8) (by omega) (by omega)
 unfold Fu
 try simp only
 rw[Ab _ _ (NN hd),Ab _ _ (wK (fun _=>h.so) h.chk),if_neg (by simp),Ab _ _ (fB (by omega)),AJ,Af _ _ a1,Af _ _ a2,Af _ _ a2,Af _ _ a3,Af _ _ a3,Af _ _ a3]
 rfl
theorem nA (m:Int):Cg m=((if m=2∨m=3 then 2 else 1),(0,false)):=by
 unfold Cg
 rw[AT]
 split
 ·rename_i c;rw[if_pos (by simpa using c)]
 ·rename_i c;rw[if_neg (by simpa using c)]
theorem NU (m:Int):Ld.IY (Cg m)∧(Cg m).2.2=false∧((Cg m).1=1∨(Cg m).1=2):=by
 rw[nA]
 split
 ·exact ⟨⟨by simp,by simp,fun h=>by cases h⟩,rfl,.inr rfl⟩
 ·exact ⟨⟨by simp,by simp,fun h=>by cases h⟩,rfl,.inl rfl⟩
theorem Ag2 {n i:Int} (h0:0≤i) (h1:i<n) (x:Int):el (AQ n x) i=x:=Df (KO h0 h1 x)
theorem QR {α:Type} {n:Int} {x y:α} (h:y∈AQ n x):y=x:=(List.mem_replicate.1 h).2
theorem AfK {n:Int} (hn:0≤n):HS n (AQ n 0) (AQ n 0) (AQ n 0) :=
 ⟨Bn hn _,Bn hn _,Bn hn _,fun i i0 i1=>by rw[Ag2 i0 i1];simp⟩
theorem AeA:EN (false,(0,(0,(0,0))))=0:=by decide
theorem AbC {n:Int}:Ay .u32 0 n=0:=by
 unfold Ay
 exact Int.zero_fdiv _
theorem Ps {s:Ad} (h:St s) {d:List Int} (hd:Bl d) (m:Int):Fx s (Ex s m d):=by
 have ne:=h.ne;have np:=h.ph
 refine ⟨hd,AaK h.so,(NU m).1,⟨by simp[Ex],by simp only[Ex];unfold B6 at np;omega,by simp[Ex],by simp[Ex]⟩,?_,⟨by simp[Ex,Aa],.inl rfl⟩,.inr rfl,by simp[Ex],Bn ne.1 _,fun p hp=>?_,?_,Bn ne.1 _,fun g hg=>?_,⟨by simp[Ex,Ax],AbC⟩,by simp[Ex],by simp[Ex],AfK (by omega),by simp[Ex,Ax]⟩
 ·refine ⟨?_,?_,?_⟩<;>simp[Ex,Ax]
 ·simp only[Ex] at hp
  rw[QR hp];exact ⟨by simp,by simp⟩
 ·simp only[Ex]
  unfold Ey.FF
  rw[if_neg (by simp),if_neg (by rw[Bn ne.1];simp[BT]),if_pos (fun x hx=>by rw[QR hx];exact (Ey.dH _).2 Ey.AgJ)]
 ·simp only[Ex] at hg
  rw[QR hg];exact ⟨AeA,by simp[CE]⟩
def JI (s:Ad):List Int:=AQ (Aa s.2.1) 4
theorem Aev {s:Ad}:Cf (JI s)=true:=by
 unfold Cf
 exact decide_eq_true fun a ha=>QR ha
theorem RH {s:Ad}:Aa (JI s)=Aa s.2.1:=Bn (Ar _) _
theorem AcF {s:Ad} (h:St s) {x:BX} (hs:x.1=s):C4 x=some ((x.1,(((x.2.1.1.1,()),x.2.1.2),x.2.2)),JI s):=by
 subst hs
 have n1:=h.ok.shape.n1;have n2:=h.ok.shape.n2
 unfold C4 Fj
 simp only
 rw[if_pos ⟨n1,by omega⟩]
 rfl
theorem Uc {s:Ad} (h:St s) {now:Aq} {asks:List Int} (hG:BS s now) (hl:Aa asks=Aa s.2.1):G6 (s,(now,asks))=some (Cz s now asks,0)∧Ez (s,(now,Cz s now asks))=some (Di s now (Cz s now asks),(0,0))∧BS s (Di s now (Cz s now asks)):=by
 have n2:=h.so.n2
 have hw:=hG.may.st.n
 have hal:=LC (s:=s) (now:=now) hw hl
 have hf:=Ro h.so hG hl
 refine ⟨?_,?_,hf.2⟩
 ·rw[Aez (e:=0) (fun _=>h.so) h.chk (by omega)]
  unfold kP
  rw[if_neg (by simp),if_neg (by simpa using hG),if_neg (by simpa using hl)]
 ·rw[Z5 (e:=0) (fun _=>h.so) h.chk (by omega) (by unfold Aa at hal n2;unfold maxLen;omega)]
  unfold JR
  rw[if_neg (by simp),if_neg (by simpa using hG.may),if_neg (by simpa using hf.1)]
theorem WM {s:Ad} {now:Aq}:Cz s now (JI s)=JI s:=by
 unfold Cz
 rw[if_pos Aev]
def Wo (s:Ad) (now:Aq) (ti se:Int) (d:List Int):AM :=
 ((d,()),(Di s now (JI s),(Cg (BM d).1.2.1,((0,0),((false,(0,0)),([],((0,(0,[])),(1048576,((AQ (BT s) (false,(false,0))),((AQ (BT s) (false,(0,(0,(false,0))))),((AQ (BT s) (false,(0,(0,(0,0))))),(0,(0,(min (ti+1) 1073741824,((AQ (B6 s) 0),((AQ (B6 s) 0),((AQ (B6 s) 0),se)))))))))))))))))
theorem AeG {s:Ad} (h:St s) {now:Aq} {ti se:Int} {d:List Int} (hd:Bl d) (hG:BS s now) (ht:0≤ti) (hs:Ax se):Fx s (Wo s now ti se d):=by
 have f:=Ps h hd (BM d).1.2.1
 have hg:=(Uc h hG (RH (s:=s))).2.2
 rw[WM] at hg
 exact ⟨hd,hg,f.rung,f.seq,f.link,f.rest,f.told,f.age,f.pn,f.pulse,f.eyes,f.gn,f.gaps,f.calls,f.wrong,⟨by simp only[Wo];omega,by simp only[Wo];omega⟩,f.cnt,hs⟩
theorem Ahd {s:Ad} (h:St s) {d:List Int} {now:Aq} {rg:BR} {q:Ej} {lk:Cy} {rs:List Int} {td:Az} {ag:Int} {pu:List BH} {ey:List AK} {ga:List Bj} {ca wn ti:Int} {gr bu cm:List Int} {se:Int} {ip:Cd} {w:List CS} {was:List BH} {asks lights out:List Int} (hx:Fx s ((d,()),(now,(rg,(q,(lk,(rs,(td,(ag,(pu,(ey,(ga,(ca,(wn,(ti,(gr,(bu,(cm,se)))))))))))))))))) (hw:Li d w) :
 ∃d',Bl d'∧(w=[]→d'=d)∧EV (s,(((d,()),(now,(rg,(q,(lk,(rs,(td,(ag,(pu,(ey,(ga,(ca,(wn,(ti,(gr,(bu,(cm,se))))))))))))))))),(ip,(w,(was,(asks,(lights,out)))))))=some (s,(Wo s now ti se d',(ip,(w,(was,(asks,(JI s,out))))))):=by
 have hd:Bl d:=hx.disk
 have hti:=hx.tick
 simp only at hti
 have hwn:=Ar w
 have hG:BS s now:=hx.now
 have g1:Bi (Cw 0 ip.2.2.2.2.1) (Aa w)=min (max 0 ip.2.2.2.2.1) (Aa w):=by rw[DB,D7]
 have g2:Bi (Cw 0 ip.2.2.2.2.2.1) 63=min (max 0 ip.2.2.2.2.2.1) 63:=by rw[DB,D7]
 obtain⟨tn,t0,t1,htn⟩:∃tn,0≤tn∧tn≤64∧tn=(if min (max 0 ip.2.2.2.2.1) (Aa w)=Aa w then 0 else min (max 0 ip.2.2.2.2.2.1) 63):=⟨_,by split<;>omega,by split<;>omega,rfl⟩
 have hdo:=AgN (d:=d) (l:=w) (whole:=min (max 0 ip.2.2.2.2.1) (Aa w)) (torn:=tn) hd hw (by omega) (by omega) t0 t1
 have hdk:=QF (d:=d) (l:=w) (whole:=min (max 0 ip.2.2.2.2.1) (Aa w)) (torn:=tn) hd hw
 refine ⟨_,hdk.1,fun e=>by rw[e,Ag1],?_⟩
 unfold EV
 rw[Wm tn (fun k=>by
  try simp only
  rw[g1,g2,AT,htn]
  by_cases c:min (max 0 ip.2.2.2.2.1) (Aa w)=Aa w
  ·rw[if_pos (by simpa using c),if_pos c]
  ·rw[if_neg (by simpa using c),if_neg c])]
 try simp only
 rw[g1,Ab _ _ hdo]
 try simp only
 rw[Ab _ _ (l7 h hdk.1),Ab _ _ (AcF h rfl)]
 have hgt:=(Uc h hG (RH (s:=s))).2.1
 rw[WM] at hgt
 try simp only
 rw[Ab _ _ hgt,AJ,JQ ti 1073741824 hti.1 (by omega)]
 rfl
end Go.Proofs.YtmmkfcpdfnjgjaaGreatDoor
namespace Go.Proofs.YtmmkfcpdfnjgjaaGreatDoor
open Go.Den
theorem yM {l:List BH} (h:Aa l≤1000):Gh l=some l:=by
 unfold Gh
 rw[Af _ _ (by rw[Bool.true_and];exact room_le (by omega))]
 rfl
theorem AfH {l:List Bj} (h:Aa l≤1000):GQ l=some l:=by
 unfold GQ
 rw[Af _ _ (by rw[Bool.true_and];exact room_le (by omega))]
 rfl
theorem Zh {l:List Int} (h:Aa l≤1000):E1 l=some l:=by
 unfold E1
 rw[Af _ _ (by rw[Bool.true_and];exact room_le (by omega))]
 rfl
def upE (eyes i:Int):Bool:=Aj .and .u32 (Ay .u32 eyes i) 1==1
def puV (eyes:Int) (l:List BH):List BH:=l.mapIdx fun (i:Nat) p=>(B4 (p,(upE eyes (i:Int),2))).1
def gaV (pu:List BH) (l:List Bj):List Bj:=l.mapIdx fun (i:Nat) g=>(G5 (g,(el pu (i:Int)).1)).1
theorem Wk {eyes:Int} {l:List BH} {i:Int} {x:BH} (h:idx l i=some x):idx (puV eyes l) i=some (B4 (x,(upE eyes i,2))).1:=by
 have h0:=(An h).1
 unfold puV
 rw[NS h0,h,Option.map_some,show ((i.toNat:Nat):Int)=i by omega]
theorem yS {pu:List BH} {l:List Bj} {i:Int} {x:Bj} (h:idx l i=some x):idx (gaV pu l) i=some (G5 (x,(el pu i).1)).1:=by
 have h0:=(An h).1
 unfold gaV
 rw[NS h0,h,Option.map_some,show ((i.toNat:Nat):Int)=i by omega]
theorem Yt {eyes:Int} {l:List BH}:Aa (puV eyes l)=Aa l:=HN
theorem Ys {pu:List BH} {l:List Bj}:Aa (gaV pu l)=Aa l:=HN
theorem AeT {p:BH} {b:Bool} (hp:KU p):KU (B4 (p,(b,2))).1:=by
 obtain⟨u,r,n⟩:=p
 unfold KU at *
 simp only at hp
 unfold B4
 rw[if_neg (by simp only;omega),if_neg (by simp)]
 simp only
 rw[DB]
 split<;>omega
theorem yD (n:Nat) (h:n<2 ^ 64):Aj .and .u64 (n:Int) 1=((n%2:Nat):Int):=by
 have:=Mc (x:=n) (y:=1) h (by decide)
 rw[show ((1:Nat):Int)=(1:Int) from rfl] at this
 rw[this,Nat.and_one_is_mod]
structure AhW (g:Bj):Prop where
 a:0≤g.2.1∧g.2.1≤1048576
 b:0≤g.2.2.1∧g.2.2.1≤1048576
 c:0≤g.2.2.2.1∧g.2.2.2.1≤1073741824
 on:g.1=true→g.2.2.1=0
 off:g.1=false→g.2.1=0
 bit:g.1=(Aj .and .u64 g.2.2.2.2 1==1)
theorem gap_iff {g:Bj}:EN g=0↔AhW g:=by
 obtain⟨u,a,b,c,n⟩:=g
 unfold EN
 simp only[DB,D7,AT]
 constructor
 ·intro h
  split at h
  ·cases h
  rename_i h1
  split at h
  ·cases h
  rename_i h2
  split at h
  ·cases h
  rename_i h3
  split at h
  ·cases h
  rename_i h4
  simp only[Bool.or_eq_true,decide_eq_true_eq,not_or,Int.not_lt] at h1
  refine ⟨by simp only;omega,by simp only;omega,by simp only;omega,fun hu=>?_,fun hu=>?_,?_⟩
  ·subst hu;simpa using h2
  ·subst hu;simpa using h3
  ·simpa using h4
 ·rintro⟨h1,h2,h3,h4,h5,h6⟩
  simp only at h1 h2 h3 h4 h5 h6
  rw[if_neg (by simp only[Bool.or_eq_true,decide_eq_true_eq,not_or,Int.not_lt];omega),if_neg (by
   cases u with
   |true=>simp[h4 rfl]
   |false=>simp),if_neg (by
   cases u with
   |true=>simp
   |false=>simp[h5 rfl]),if_neg (by rw[←h6];simp)]
theorem Ae5 {x:Int} (h:CE x):CE (Bd .u64 x 1)∧Aj .and .u64 (Bd .u64 x 1) 1=0∧CE (Aj .or .u64 (Bd .u64 x 1) 1)∧Aj .and .u64 (Aj .or .u64 (Bd .u64 x 1) 1) 1=1:=by
 obtain⟨k,rfl⟩:∃k:Nat,x=k:=⟨x.toNat,(Int.toNat_of_nonneg h.1).symm⟩
 have hk:k<2 ^ 64:=by unfold CE at h;omega
 obtain⟨s1,s2,s3⟩:=Ey.y4 hk
 obtain⟨o1,o2⟩:=Ey.Aht hk
 rw[o1,s1,yD _ s2,yD _ o2]
 unfold CE
 refine ⟨by omega,by omega,by omega,by omega⟩
theorem Ag6 {g:Bj} {b:Bool} (hg:YK g):YK (G5 (g,b)).1:=by
 obtain⟨h0,hu⟩:=hg
 obtain⟨e1,e2,e3,e4⟩:=Ae5 hu
 have H:=gap_iff.1 h0
 obtain⟨u,x,y,c,n⟩:=g
 obtain⟨h1,h2,h3,h4,h5,h6⟩:=H
 simp only at h1 h2 h3 h4 h5 h6 hu e1 e2 e3 e4
 unfold YK
 rw[gap_iff]
 unfold G5
 rw[AJ,h0,Ag _ _ (by rfl)]
 simp only[DB]
 rw[Ak (x+1) (by omega) (by omega),Ak (y+1) (by omega) (by omega),Ak (c+1) (by omega) (by omega)]
 cases b with
 |false =>
  rw[Af (b:=!false) _ _ rfl]
  exact ⟨⟨by simp,by simp only;omega,by simp only;omega,fun h=>(by cases h),fun _=>rfl,by simp only;rw[e2];rfl⟩,e1⟩
 |true =>
  rw[Ag (b:=!true) _ _ rfl,AT]
  split
  ·exact ⟨⟨by simp only;omega,by simp,by simp only;omega,fun _=>rfl,fun h=>(by cases h),by simp only;rw[e4];rfl⟩,e3⟩
  ·exact ⟨⟨by simp only;omega,by simp,by simp only;omega,fun _=>rfl,fun h=>(by cases h),by simp only;rw[e4];rfl⟩,e3⟩
structure YP (s:Ad) (now:Aq) (q:Ej) (ip:Cd) (pu:List BH) (ey:List AK) (ca ups ca':Int):Prop where
 ok:Ax ups
 bits:∀j,AA ups j=(decide (0≤j∧j<BT s)&&(el (puV ip.2.1 pu) j).1)
 eyes:Ey.FF 0 s (Ey.Cu s ups ey)=0
 next:Ey.Od s (Ey.Cu s ups ey) ca (if Dl s now q.1=true then q.1 else -1) ca'
 calls:Ax ca'∧Ay .u32 ca' (B6 s)=0
theorem AhU {s:Ad} (h:St s) {d:List Int} {now:Aq} {rg:BR} {q:Ej} {lk:Cy} {rs:List Int} {td:Az} {ag:Int} {pu:List BH} {ey:List AK} {ga:List Bj} {ca wn ti:Int} {gr bu cm:List Int} {se:Int} {ip:Cd} {w:List CS} {was:List BH} {r:List Int×List Int×List Int} (hx:Fx s ((d,()),(now,(rg,(q,(lk,(rs,(td,(ag,(pu,(ey,(ga,(ca,(wn,(ti,(gr,(bu,(cm,se)))))))))))))))))) :
 ∃ups ca',Fm (s,(((d,()),(now,(rg,(q,(lk,(rs,(td,(ag,(pu,(ey,(ga,(ca,(wn,(ti,(gr,(bu,(cm,se))))))))))))))))),(ip,(w,(was,r)))))=some (s,(((d,()),(now,(rg,(q,(lk,(rs,(td,(ag,(puV ip.2.1 pu,(Ey.Cu s ups ey,(gaV (puV ip.2.1 pu) ga,(ca',(wn,(ti,(gr,(bu,(cm,se))))))))))))))))),(ip,(w,(pu,r)))))∧YP s now q ip pu ey ca ups ca':=by
 have ne:=h.ne;have np:=h.ph
 have hpn:Aa pu=BT s:=hx.pn
 have hgn:Aa ga=BT s:=hx.gn
 have hey:Ey.FF 0 s ey=0:=hx.eyes
 have hq:Js s q:=hx.seq
 have hG:BS s now:=hx.now
 have hca:Ax ca∧Ay .u32 ca (B6 s)=0:=hx.calls
 obtain⟨_,hen,hem⟩:=Ey.Mf hey
 have EO:=Ey.l6 h.ok
 unfold Fm
 try simp only
 rw[Ab _ _ (yM (by omega)),Ab _ _ (yM (by omega)),Ab _ _ (AfH (by omega))]
 refine AH (fun z:Int×Int×BX=>z.1) (BT s) (fun z=>∃pu' ga',z.2.2=(s,(((d,()),(now,(rg,(q,(lk,(rs,(td,(ag,(pu',(ey,(ga',(ca,(wn,(ti,(gr,(bu,(cm,se))))))))))))))))),(ip,(w,(pu,r)))))∧Aa pu'=BT s∧Aa ga'=BT s∧(∀j,0≤j→idx pu' j=if j<z.1 then idx (puV ip.2.1 pu) j else idx pu j)∧(∀j,0≤j→idx ga' j=if j<z.1 then idx (gaV (puV ip.2.1 pu) ga) j else idx ga j)∧Ax z.2.1∧∀j,AA z.2.1 j=(decide (0≤j∧j<z.1)&&(el (puV ip.2.1 pu) j).1))
  (fun R=>∃ups ca',R=some (s,(((d,()),(now,(rg,(q,(lk,(rs,(td,(ag,(puV ip.2.1 pu,(Ey.Cu s ups ey,(gaV (puV ip.2.1 pu) ga,(ca',(wn,(ti,(gr,(bu,(cm,se))))))))))))))))),(ip,(w,(pu,r)))))∧YP s now q ip pu ey ca ups ca') (by omega) (by simp) ne.1
  ⟨pu,ga,rfl,hpn,hgn,fun j j0=>(by simp only;rw[if_neg (by omega)]),fun j j0=>(by simp only;rw[if_neg (by omega)]),by simp[Ax],fun j=>(by simp only;rw[decide_eq_false (by omega)];simp[AA])⟩ (fun z hI i0 i1=>?_) (fun z hI hz=>?_)
 ·obtain⟨i,ups,t⟩:=z
  obtain⟨pu',ga',ht,hp',hg',hpi,hgi,hu,hb⟩:=hI
  simp only at i0 i1 ht hpi hgi hu hb
  subst ht
  obtain⟨p,hp,hpm⟩:=Au (l:=pu) i0 (by omega)
  obtain⟨g,hg,hgm⟩:=Au (l:=ga) i0 (by omega)
  have e1:idx pu' i=some p:=by rw[hpi i i0,if_neg (by omega)];exact hp
  have e2:idx ga' i=some g:=by rw[hgi i i0,if_neg (by omega)];exact hg
  have e3:=Wk (eyes:=ip.2.1) hp
  have e5:el (puV ip.2.1 pu) i=(B4 (p,(upE ip.2.1 i,2))).1:=Df e3
  have e4:=yS (pu:=puV ip.2.1 pu) hg
  rw[e5] at e4
  try simp only
  have hup:(Aj .and .u32 (Ay .u32 ip.2.1 i) 1==1)=upE ip.2.1 i:=rfl
  rw[hup]
  rw[Af _ _ (decide_eq_true (by omega)),Ab _ _ e1,Ab _ _ e1,Af _ _ (decide_eq_true i0),AJ,Ab _ _ e1,Ab _ _ e1,Ab _ _ e2,Ab _ _ e2]
  have e6:idx (Bc pu' i (B4 (p,(upE ip.2.1 i,2))).1) i=some (B4 (p,(upE ip.2.1 i,2))).1:=by rw[Dm i0 (by omega),if_pos rfl]
  rw[Ab _ _ e6,Ab _ _ e6,AJ,Ab _ _ e2,Ab _ _ e2,Ab _ _ e6,Ab _ _ e6,Ak (i+1) (by omega) (by omega)]
  have lists:Aa (Bc pu' i (B4 (p,(upE ip.2.1 i,2))).1)=BT s∧Aa (Bc ga' i (G5 (g,(B4 (p,(upE ip.2.1 i,2))).1.1)).1)=BT s∧(∀j,0≤j→idx (Bc pu' i (B4 (p,(upE ip.2.1 i,2))).1) j=if j<i+1 then idx (puV ip.2.1 pu) j else idx pu j)∧(∀j,0≤j→idx (Bc ga' i (G5 (g,(B4 (p,(upE ip.2.1 i,2))).1.1)).1) j=if j<i+1 then idx (gaV (puV ip.2.1 pu) ga) j else idx ga j):=by
   refine ⟨by rw[BC];exact hp',by rw[BC];exact hg',fun j j0=>?_,fun j j0=>?_⟩
   ·rw[Dm i0 (by omega),hpi j j0]
    by_cases c:j=i
    ·rw[if_pos c,if_pos (by omega),c,e3]
    ·rw[if_neg c]
     by_cases c2:j<i
     ·rw[if_pos c2,if_pos (by omega)]
     ·rw[if_neg c2,if_neg (by omega)]
   ·rw[Dm i0 (by omega),hgi j j0]
    by_cases c:j=i
    ·rw[if_pos c,if_pos (by omega),c,e4]
    ·rw[if_neg c]
     by_cases c2:j<i
     ·rw[if_pos c2,if_pos (by omega)]
     ·rw[if_neg c2,if_neg (by omega)]
  obtain⟨k1,k2,k3,k4⟩:=lists
  by_cases up:(B4 (p,(upE ip.2.1 i,2))).1.1=true
  ·rw[Af _ _ up,Af _ _ (decide_eq_true i0)]
   obtain⟨o1,o2⟩:=Ey.ZS (m:=ups) hu i0 (by omega)
   refine ⟨rfl,_,_,rfl,k1,k2,k3,k4,o1,fun j=>?_⟩
   simp only
   rw[o2,hb]
   by_cases c:i=j
   ·subst c
    rw[e5,up,decide_eq_false (by omega),decide_eq_true (p:=i=i) rfl,decide_eq_true (by omega)]
    rfl
   ·rw[decide_eq_false (p:=i=j) c,Bool.or_false]
    congr 1
    exact decide_eq_decide.2 (by omega)
  ·rw[Ag _ _ (Bool.eq_false_iff.2 up)]
   refine ⟨rfl,_,_,rfl,k1,k2,k3,k4,hu,fun j=>?_⟩
   simp only
   rw[hb]
   by_cases c:i=j
   ·subst c
    rw[e5,Bool.eq_false_iff.2 up,Bool.and_false,Bool.and_false]
   ·congr 1
    exact decide_eq_decide.2 (by omega)
 ·obtain⟨i,ups,t⟩:=z
  obtain⟨pu',ga',ht,hp',hg',hpi,hgi,hu,hb⟩:=hI
  simp only at hz ht hpi hgi hu hb
  subst hz ht
  have ep:pu'=puV ip.2.1 pu:=GU (by rw[Yt];omega) fun j j0 j1=>by rw[hpi j j0,if_pos (by omega)]
  have eg:ga'=gaV (puV ip.2.1 pu) ga:=GU (by rw[Ys];omega) fun j j0 j1=>by rw[hgi j j0,if_pos (by omega)]
  subst ep eg
  have hall:Ey.zM 0 s ups ey=(Ey.Cu s ups ey,0):=by
   unfold Ey.zM
   rw[if_neg (by rw[hey];simp)]
  have hfull:Ly 0 s now q.1=(Dl s now q.1,0):=by
   have:=hq.p0;have:=hq.p1
   unfold Ly
   rw[if_neg (by simp),if_neg (by rw[hG.may.st.n];simp),if_neg (by omega)]
  have hask:Ey.FF 0 s (Ey.Cu s ups ey)=0:=by
   unfold Ey.FF
   rw[if_neg (by simp),if_neg (by unfold Ey.Cu;rw[HN,hen];simp),if_pos fun x hx=>?_]
   obtain⟨j,hj⟩:=D9 hx
   obtain⟨j0,j1,_⟩:=An hj
   obtain⟨y,hy,hym⟩:=Au (l:=ey) j0 (by unfold Ey.Cu at j1;rw[HN] at j1;exact j1)
   rw[Ey.Yl hy] at hj
   rw[←Option.some.inj hj]
   exact (Ey.dH _).2 (Ey.Ae7 _ (hem y hym) EO.heal.2).1
  have hlen:Aa (Ey.Cu s ups ey)≤1000:=by
   unfold Ey.Cu;rw[HN,hen];unfold BT at ne;omega
  try simp only
  rw[Ag _ _ (decide_eq_false (by omega)),Ab _ _ (Ey.Afx (e:=0) (fun _=>EO) h.chk (by unfold BT at ne;omega) hu),hall]
  try simp only
  rw[Ab _ _ (Tm h.f (fun _=>h.so) h.chk),hfull]
  try simp only
  have fin:∀g,(g=if Dl s now q.1=true then q.1 else -1)→∃ca',E0 (s,(ca,(Ey.Cu s ups ey,g)))=some (ca',0)∧YP s now q ip pu ey ca ups ca':=fun g hg=>by
   have hg2:-1≤g∧g<B6 s:=by
    have:=hq.p0;have:=hq.p1
    unfold B6 at *
    rw[hg];split<;>omega
   obtain⟨n,n1,n2⟩:=Ey.Zb (s:=s) (l:=Ey.Cu s ups ey) (e:=0) (c:=ca) (g:=g) (fun _=>EO) h.chk hlen hca.1
   rw[hask,if_neg (by simp)] at n1
   have:Ey.Rs s ca g=0:=by
    unfold Ey.Rs
    have h2:=hca.2
    unfold B6 at h2 hg2
    rw[if_neg (by rw[h2];simp),if_neg (by omega)]
   rw[this,if_neg (by simp)] at n1
   have n3:=n2 hask
   refine ⟨n,n1,hu,hb,hask,by rw[←hg];exact n3,n3.1,?_⟩
   rw[YD n3.1 (by omega) (by omega)]
   intro p hp
   refine Bool.eq_false_iff.2 fun hbp=>?_
   rcases ((n3.2 p).1 hbp).2 with c1|c1
   ·have:=((YD hca.1 (by omega) (by omega)).1 hca.2) p hp
    rw[this] at c1;cases c1
   ·rcases c1 with ⟨ph,hph,_⟩|⟨k,e,x,hk,_,he,_⟩
    ·have:=(An hph).2.1
     unfold B6 at hp;omega
    ·have:=EO.eyes k e hk
     unfold B6 at hp;omega
  by_cases c:Dl s now q.1=true
  ·rw[Af _ _ c]
   obtain⟨ca',c1,c2⟩:=fin q.1 (by rw[if_pos c])
   rw[Ab _ _ c1]
   exact ⟨ups,ca',rfl,c2⟩
  ·rw[Ag _ _ (Bool.eq_false_iff.2 c)]
   obtain⟨ca',c1,c2⟩:=fin (-1) (by rw[if_neg c])
   rw[Ab _ _ c1]
   exact ⟨ups,ca',rfl,c2⟩
end Go.Proofs.YtmmkfcpdfnjgjaaGreatDoor
namespace Go.Proofs.YtmmkfcpdfnjgjaaGreatDoor
open Go.Den
def E6 (now:Aq):List Int:=now.1.map (·.1)
def wnV (s:Ad) (now:Aq) (wn:Int) (back:List Int):Int :=
 if (Ld.R3 0 s wn (E6 now) back).2≠0 then min (wn+1) 1048576 else (Ld.R3 0 s wn (E6 now) back).1
def E9 (s:Ad) (td:Az) (ag wn':Int) (rd:Bt×Int) (rot well:Bool):DA :=
 ((!DO td&&decide (ag<s.2.2.2.2.2.2.1)),((!rot&&rd.2==0&&decide (0<Aa rd.1.2.2)),(well,!decide (s.2.2.2.2.2.2.2.1≤wn'))))
theorem Afm {s:Ad} {now:Aq} {wn:Int} {back:List Int} (hw:0≤wn∧wn≤1048576):0≤wnV s now wn back∧wnV s now wn back≤1048576:=by
 unfold wnV
 split
 ·omega
 ·unfold Ld.R3
  rw[if_neg (by simp),if_neg (by omega)]
  split
  ·simp
  ·simp only;omega
theorem AfQ {s:Ad} (h:St s) {d:List Int} {now:Aq} {rg:BR} {q:Ej} {lk:Cy} {rs:List Int} {td:Az} {ag:Int} {pu:List BH} {ey:List AK} {ga:List Bj} {ca wn ti:Int} {gr bu cm:List Int} {se:Int} {ip:Cd} {r:List CS×List BH×List Int×List Int×List Int} (hx:Fx s ((d,()),(now,(rg,(q,(lk,(rs,(td,(ag,(pu,(ey,(ga,(ca,(wn,(ti,(gr,(bu,(cm,se)))))))))))))))))) (hb:ip.2.2.1.length≤maxLen) :
 ∃well,Eu (s,(((d,()),(now,(rg,(q,(lk,(rs,(td,(ag,(pu,(ey,(ga,(ca,(wn,(ti,(gr,(bu,(cm,se))))))))))))))))),(ip,r)))=some ((s,(((d,()),(now,(rg,(q,(lk,(rs,(td,(ag,(pu,(ey,(ga,(ca,(wnV s now wn ip.2.2.1,(ti,(gr,(bu,(cm,se))))))))))))))))),(ip,r))),(E9 s td ag (wnV s now wn ip.2.2.1) (BM d) ip.2.2.2.2.2.2 well,(BM d).1)):=by
 have hd:Bl d:=hx.disk
 have hG:BS s now:=hx.now
 have hw:0≤wn∧wn≤1048576:=hx.wrong
 have hey:Ey.FF 0 s ey=0:=hx.eyes
 have EO:=Ey.l6 h.ok
 have ne:=h.ne
 obtain⟨_,hen,_⟩:=Ey.Mf hey
 have hn:=hG.may.st.n
 have hn2:=h.so.n2
 have hwn:=Afm (s:=s) (now:=now) (back:=ip.2.2.1) hw
 obtain⟨well,w1,_⟩:=Ey.sT (s:=s) (l:=ey) (e:=0) (fun _=>EO) h.chk (by unfold BT at ne;omega)
 rw[hey,if_neg (by simp)] at w1
 have hwl:(E6 now).length≤maxLen:=by
  have:=IQ (l:=now.1) (f:=fun x=>x.1)
  unfold E6
  unfold Aa at this hn hn2;unfold maxLen;omega
 have hnx:=Ld.zU (s:=s) (n:=wn) (e:=0) (lit:=E6 now) (seen:=ip.2.2.1) h.chk hwl hb
 refine ⟨well,?_⟩
 unfold Eu
 refine AH (fun z:List Int×Int=>z.2) (Aa now.1) (fun z=>z.1=(E6 now).take z.2.toNat)
  (fun R=>R=some ((s,(((d,()),(now,(rg,(q,(lk,(rs,(td,(ag,(pu,(ey,(ga,(ca,(wnV s now wn ip.2.2.1,(ti,(gr,(bu,(cm,se))))))))))))))))),(ip,r))),(E9 s td ag (wnV s now wn ip.2.2.1) (BM d) ip.2.2.2.2.2.2 well,(BM d).1))) (by omega) (by simp) (Ar _) rfl (fun z hI i0 i1=>?_) (fun z hI hz=>?_)
 ·obtain⟨l,i⟩:=z
  simp only at hI i0 i1
  obtain⟨w,hw1,_⟩:=Au (l:=now.1) i0 i1
  have hll:Aa l≤i:=by rw[hI];unfold Aa;rw[List.length_take];omega
  try simp only
  rw[Af _ _ (decide_eq_true i1),Ab _ _ hw1,Af _ _ (Va (by omega)),Ak (i+1) (by omega) (by omega)]
  refine ⟨rfl,?_⟩
  simp only
  have h1:idx (E6 now) i=some w.1:=by unfold E6;rw[N5,hw1];rfl
  rw[Bw i0] at h1
  rw[hI,show (i+1).toNat=i.toNat+1 by omega,List.take_add_one,h1]
  rfl
 ·obtain⟨l,i⟩:=z
  simp only at hI hz
  have hl:l=E6 now:=by
   rw[hI]
   refine List.take_of_length_le ?_
   unfold E6;rw[List.length_map]
   unfold Aa at hz;omega
  subst hz hl
  try simp only
  rw[Ag _ _ (decide_eq_false (by omega)),Ab _ _ hnx]
  rw[Wm (wnV s now wn ip.2.2.1) (fun k=>by
   unfold wnV
   try simp only
   rw[AT]
   by_cases c:(Ld.R3 0 s wn (E6 now) ip.2.2.1).2=0
   ·rw[if_neg (by simp[c]),if_neg (by simpa using c)]
   ·rw[if_pos (by simpa using c),if_pos c,AJ,JQ wn 1048576 hw.1 (by omega)])]
  have hla:=Ld.Af5 (s:=s) (n:=wnV s now wn ip.2.2.1) (e:=0) h.chk
  have hlb:Ld.ZD 0 s (wnV s now wn ip.2.2.1)=(decide (s.2.2.2.2.2.2.2.1≤wnV s now wn ip.2.2.1),0):=by
   unfold Ld.ZD
   rw[if_neg (by simp),if_neg (by omega)]
  rw[hlb] at hla
  try simp only
  rw[Ab _ _ hla,Ab _ _ (NN hd),Ab _ _ w1,AJ]
  unfold E9
  show L9 _ (Step.done _)
  show (_:Option (BX×DA×Bt)) = _
  cases DO td<;>cases ip.2.2.2.2.2.2<;>cases ((BM d).2==0)<;>rfl
end Go.Proofs.YtmmkfcpdfnjgjaaGreatDoor
namespace Go.Proofs.YtmmkfcpdfnjgjaaGreatDoor
open Go.Den
theorem Ag7 {s:Ad} (h:St s) {l:AM} {r:Cd×List CS×List BH×List Int×List Int×List Int} (hg:Aa l.2.2.2.2.2.2.2.2.2.2.1=BT s) :
 ∃g,ET (s,(((l.1.1,()),l.2),r))=some g∧Ax g:=by
 have ne:=h.ne;have np:=h.ph
 unfold BT at ne hg;unfold B6 at np
 unfold ET
 refine AH (fun z:Int×Int=>z.2) (Aa s.2.2.2.2.1) (fun z=>Ax z.1) (fun R=>∃g,R=some g∧Ax g) (by omega) (by simp) (by omega) (by simp[Ax]) (fun z hI i0 i1=>?_) (fun z hI hz=>?_)
 ·obtain⟨m,i⟩:=z
  simp only at hI i0 i1
  obtain⟨ph,hph,_⟩:=Au (l:=s.2.2.2.2.1) i0 i1
  try simp only
  rw[Af _ _ (decide_eq_true i1),Ab _ _ hph]
  refine AH (fun z:Bool×Int=>z.2) (Aa s.2.2.2.2.2.1) (fun _=>True) (fun R=>C8 (fun z:Int×Int=>z.2) (fun z=>Ax z.1) (fun R=>∃g,R=some g∧Ax g) i R) (by omega) (by simp) (by omega) trivial (fun z _ j0 j1=>?_) (fun z _ hz=>?_)
  ·obtain⟨b,j⟩:=z
   simp only at j0 j1
   obtain⟨e,he,_⟩:=Au (l:=s.2.2.2.2.2.1) j0 j1
   obtain⟨g,hgg,_⟩:=Au (l:=l.2.2.2.2.2.2.2.2.2.2.1) j0 (by omega)
   try simp only
   rw[Af _ _ (decide_eq_true j1),Ab _ _ he,Ab _ _ hgg,AJ,Ak (j+1) (by omega) (by omega)]
   exact ⟨rfl,trivial⟩
  ·obtain⟨b,j⟩:=z
   simp only at hz
   try simp only
   rw[Ag _ _ (decide_eq_false (by omega)),Ak (i+1) (by omega) (by omega)]
   cases b with
   |true =>
    rw[Af _ _ rfl,Af _ _ (decide_eq_true i0)]
    exact ⟨rfl,(Ey.ZS hI i0 (by omega)).1⟩
   |false =>
    rw[Ag _ _ rfl]
    exact ⟨rfl,hI⟩
 ·obtain⟨m,i⟩:=z
  simp only at hI hz
  try simp only
  rw[Ag _ _ (decide_eq_false (by omega))]
  exact ⟨m,rfl,hI⟩
theorem y6 {s:Ad} (h:St s) {p:Az} {k:Nat} {u:Int} (hk:k<Pn.nV s):0≤Pn.HI s p k u∧Pn.HI s p k u<B6 s:=by
 have:=(Pn.QU (s:=s) h.ok.shape (k:=(k:Int)) (by omega) (by unfold Pn.nV at hk;unfold Aa;omega)).2
 have hk':(k:Int)<Aa s.2.2.2.2.1:=by unfold Pn.nV at hk;unfold Aa;omega
 unfold Pn.HI B6
 split
 ·rw[this];split<;>omega
 ·omega
theorem UR {s:Ad} (h:St s) {p:Az} (hp:FB s p) {t:Int} (t0:0≤t) (t1:t≤1073741824) :
 ∃k:Nat,k<Pn.nV s∧Pn.Ko p k (Pn.Cj p t)∧Em (s,(p,t))=some ((k:Int),(Pn.Cj p t-Pn.Dg p k,0))∧CF (s,(p,t))=some (Pn.HI s p k (Pn.Cj p t-Pn.Dg p k),0):=by
 have hf:=(Sz (NT h hp)).1
 obtain⟨k,k1,k2,k3⟩:=Pn.AhZ h.f h.ok h.chk hf hp t0 t1
 exact ⟨k,k1,k2,k3,Pn.Afb h.f h.ok h.chk (Pn.ZU h.f h.ok hp) k1 k3⟩
theorem yG {s:Ad} (h:St s) {p:Int} (p0:0≤p) (p1:p<B6 s):DF (s,p)=some (CH s p,0):=by
 rw[AbS h.f (fun _=>h.so) h.chk]
 unfold j5 B6 at *
 rw[if_neg (by simp),if_neg (by omega)]
structure y8 (s:Ad) (now:Aq) (rg:BR) (q:Ej) (td:Az) (ca ti:Int) (kp:Bt) (q':Ej) (asks:List Int):Prop where
 seq:Js s q'
 len:Aa asks=Aa s.2.1
 dark:rg.1=0→q'=q∧asks=JI s
 lit:rg.1≠0→asks=CH s q'.1
 alone:rg.1=1→∃g,Ax g∧Od s q (Dl s now q.1) ca g q'
 stored:rg.1=2→∃p,idx kp.2.2 0=some p∧CF (s,(Pn.Ew s p,ti))=some (q'.1,0)
 master:rg.1=3→CF (s,(td,ti))=some (q'.1,0)
theorem AhF {s:Ad} (h:St s) {d:List Int} {now:Aq} {rg:BR} {q:Ej} {lk:Cy} {rs:List Int} {td:Az} {ag:Int} {pu:List BH} {ey:List AK} {ga:List Bj} {ca wn ti:Int} {gr bu cm:List Int} {se:Int} {ip:Cd} {kp:Bt} {w:List CS} {was:List BH} {asks lights out:List Int} (hx:Fx s ((d,()),(now,(rg,(q,(lk,(rs,(td,(ag,(pu,(ey,(ga,(ca,(wn,(ti,(gr,(bu,(cm,se)))))))))))))))))) (h2:rg.1=2→∃p,idx kp.2.2 0=some p∧Er p) (h3:rg.1=3→FB s td) :
 ∃q' asks',Fl ((s,(((d,()),(now,(rg,(q,(lk,(rs,(td,(ag,(pu,(ey,(ga,(ca,(wn,(ti,(gr,(bu,(cm,se))))))))))))))))),(ip,(w,(was,(asks,(lights,out))))))),kp)=some (s,(((d,()),(now,(rg,(q',(lk,(rs,(td,(ag,(pu,(ey,(ga,(ca,(wn,(ti,(gr,(bu,(cm,se))))))))))))))))),(ip,(w,(was,(asks',(lights,out)))))))∧y8 s now rg q td ca ti kp q' asks':=by
 have hm:=hx.rung.mode
 have hq:Js s q:=hx.seq
 have hG:BS s now:=hx.now
 have hca:Ax ca:=hx.calls.1
 have hti:=hx.tick
 simp only at hm hti
 have al:∀p,Aa (CH s p)=Aa s.2.1:=fun p=>GK s p
 unfold Fl
 try simp only
 by_cases c0:rg.1=0
 ·rw[Af _ _ (by simp[c0]),Ab _ _ (AcF h rfl)]
  refine ⟨q,JI s,rfl,hq,RH,fun _=>⟨rfl,rfl⟩,fun hh=>absurd c0 hh,fun hh=>?_,fun hh=>?_,fun hh=>?_⟩<;>omega
 rw[Ag _ _ (by simpa using c0)]
 by_cases c1:rg.1=1
 ·obtain⟨g,g1,g2⟩:=Ag7 h (l:=((d,()),(now,(rg,(q,(lk,(rs,(td,(ag,(pu,(ey,(ga,(ca,(wn,(ti,(gr,(bu,(cm,se)))))))))))))))))) (r:=(ip,(w,(was,(asks,(lights,out)))))) hx.gn
  obtain⟨q',n1,p0,p1,s0,s1,n2⟩:=QU (s:=s) (q:=q) (now:=now) (calls:=ca) (gaps:=g) h.f h.ok h.chk hq hG.may.st.n hca g2
  rw[Af _ _ (by simp[c1]),Ab _ _ g1,Ab _ _ n2]
  refine ⟨q',CH s q'.1,rfl,⟨p0,p1,s0,s1⟩,al _,fun hh=>absurd hh c0,fun _=>rfl,fun _=>⟨g,g2,n1⟩,fun hh=>?_,fun hh=>?_⟩<;>omega
 rw[Ag _ _ (by simpa using c1)]
 by_cases c2:rg.1=2
 ·obtain⟨p,e1,e2⟩:=h2 c2
  obtain⟨e3,e4⟩:=Zg h e2
  obtain⟨k,k1,_,_,k4⟩:=UR h e4 hti.1 hti.2
  obtain⟨w0,w1⟩:=y6 h (p:=Pn.Ew s p) (u:=Pn.Cj (Pn.Ew s p) ti-Pn.Dg (Pn.Ew s p) k) k1
  rw[Af _ _ (by simp[c2]),Ab _ _ e1,Ab _ _ e3,Ab _ _ k4,Ab _ _ (yG h w0 w1)]
  refine ⟨(_,0),CH s _,rfl,⟨w0,w1,by simp,by simp⟩,al _,fun hh=>absurd hh c0,fun _=>rfl,fun hh=>absurd hh c1,fun _=>⟨p,e1,k4⟩,fun hh=>?_⟩
  omega
 rw[Ag _ _ (by simpa using c2)]
 have c3:rg.1=3:=by omega
 have hp:=h3 c3
 obtain⟨k,k1,_,_,k4⟩:=UR h hp hti.1 hti.2
 obtain⟨w0,w1⟩:=y6 h (p:=td) (u:=Pn.Cj td ti-Pn.Dg td k) k1
 rw[Ab _ _ k4,Ab _ _ (yG h w0 w1)]
 exact ⟨(_,0),CH s _,rfl,⟨w0,w1,by simp,by simp⟩,al _,fun hh=>absurd hh c0,fun _=>rfl,fun hh=>absurd hh c1,fun hh=>absurd hh c2,fun _=>k4⟩
end Go.Proofs.YtmmkfcpdfnjgjaaGreatDoor
namespace Go.Proofs.YtmmkfcpdfnjgjaaGreatDoor
open Go.Den
theorem Aeu {a b:Int} (h0:0≤a) (h1:a≤b) (b0:1≤b) (h2:b≤1048576):∃v,JH (I2 a,I2 b)=some (v,0)∧0≤v∧v≤65536:=by
 have hof:∀n:Int,0≤n→n≤1048576→I2 n=n*65536:=fun n n0 n1=>by
  unfold I2
  rw[D7,DB,show min (max n (-1073741824)) 1073741824=n by omega,Ak _ (by omega) (by omega)]
 have hst:∀n:Int,0≤n→n≤70368744177664→HL n=n:=fun n n0 n1=>by
  unfold HL
  rw[D7,DB];omega
 have hb:(b*65536:Int)≠0:=by omega
 have ha0:0≤a*65536*65536:=by omega
 have hle:a*65536*65536/(b*65536)≤65536:=by
  refine Int.ediv_le_of_le_mul (by omega) ?_
  omega
 have h00:0≤a*65536*65536/(b*65536):=Int.ediv_nonneg ha0 (by omega)
 refine ⟨a*65536*65536/(b*65536),?_,h00,hle⟩
 unfold JH
 rw[hof a h0 (by omega),hof b (by omega) h2]
 simp only
 rw[AJ,AJ,hst _ (by omega) (by omega),hst _ (by omega) (by omega),Ak (a*65536*65536) (by omega) (by omega),Pn.Afk ha0 (by omega) (by omega),Ag _ _ (by simpa using hb),Af (b:=!(b*65536==0)) _ _ (by simpa using hb),Af (b:=!(b*65536==0)) _ _ (by simpa using hb),Ag _ _ (by
  rw[decide_eq_false (show ¬a*65536*65536<0 by omega),decide_eq_false (show ¬b*65536<0 by omega)]
  simp),AJ,hst _ h00 (by omega)]
def AbJ (x12:Int×BX):Option BX :=
(AD (IE x12.2.2.1.2.2.2.2.2.2.2.2.2.2.2.2.2.2.2.2.2) (fun y =>
(cnd (!(x12.2.1.2.2.2.2.2.2.2.2.2.1==0))
(cnd ((!((Gm (wr .i64 (x12.2.2.1.2.2.2.2.2.2.2.2.2.2.2.2.2.1+1)) x12.2.1.2.2.2.2.2.2.2.2.2.1)==0))||(!(y.2==0)))
(AD (B3 (x12.2.2.1.2.2.2.2.2.2.2.2.2.2.2.2.2.1,1073741824)) (fun y1 =>
(some (x12.2.1,(((x12.2.2.1.1.1,()),(x12.2.2.1.2.1,(x12.2.2.1.2.2.1,(x12.2.2.1.2.2.2.1,(x12.2.2.1.2.2.2.2.1,(x12.2.2.1.2.2.2.2.2.1,(x12.2.2.1.2.2.2.2.2.2.1,(x12.2.2.1.2.2.2.2.2.2.2.1,(x12.2.2.1.2.2.2.2.2.2.2.2.1,(x12.2.2.1.2.2.2.2.2.2.2.2.2.1,(x12.2.2.1.2.2.2.2.2.2.2.2.2.2.1,(x12.2.2.1.2.2.2.2.2.2.2.2.2.2.2.1,(x12.2.2.1.2.2.2.2.2.2.2.2.2.2.2.2.1,(y1,x12.2.2.1.2.2.2.2.2.2.2.2.2.2.2.2.2.2)))))))))))))),x12.2.2.2)))))
(iter none (fun x13 =>
(cnd (decide (x13.1<(Aa x12.2.1.2.2.2.2.1)))
(Ae (idx x13.2.2.2.1.2.2.2.2.2.2.2.2.2.2.2.2.2.2.1 x13.1) (.done none) (fun _ =>
(Ae (idx x13.2.2.2.1.2.2.2.2.2.2.2.2.2.2.2.2.2.2.1 x13.1) (.done none) (fun x15 =>
(Ae (idx x13.2.2.2.1.2.2.2.2.2.2.2.2.2.2.2.2.2.2.2.1 x13.1) (.done none) (fun _ =>
(Ae (idx x13.2.2.2.1.2.2.2.2.2.2.2.2.2.2.2.2.2.2.2.1 x13.1) (.done none) (fun x17 =>
(Ae (idx x13.2.2.2.1.2.2.2.2.2.2.2.2.2.2.2.2.2.2.2.2.1 x13.1) (.done none) (fun _ =>
(Ae (idx x13.2.2.2.1.2.2.2.2.2.2.2.2.2.2.2.2.2.2.2.2.1 x13.1) (.done none) (fun x19 =>
(AD (I2 (Bi x15 (wr .i64 (x17+x19)))) (fun y1 =>
(Ae (idx x13.2.2.2.1.2.2.2.2.2.2.2.2.2.2.2.2.2.2.1 x13.1) (.done none) (fun _ =>
(Ae (idx x13.2.2.2.1.2.2.2.2.2.2.2.2.2.2.2.2.2.2.1 x13.1) (.done none) (fun x21 =>
(AD (I2 (Cw 1 x21)) (fun y2 =>
(Ae (JH (y1,y2)) (.done none) (fun x22 =>
(cnd (true&&(AS ((Aa x13.2.1.2.2.2)+(Aa (x22.1::[]))) 8))
(Ae (idx x13.2.2.2.1.2.2.2.2.2.2.2.2.2.2.2.2.2.2.1 x13.1) (.done none) (fun _ =>
(Ae (idx x13.2.2.2.1.2.2.2.2.2.2.2.2.2.2.2.2.2.2.1 x13.1) (.done none) (fun _ =>
(Ae (idx x13.2.2.2.1.2.2.2.2.2.2.2.2.2.2.2.2.2.2.2.1 x13.1) (.done none) (fun _ =>
(Ae (idx x13.2.2.2.1.2.2.2.2.2.2.2.2.2.2.2.2.2.2.2.1 x13.1) (.done none) (fun _ =>
(Ae (idx x13.2.2.2.1.2.2.2.2.2.2.2.2.2.2.2.2.2.2.2.2.1 x13.1) (.done none) (fun _ =>
(Ae (idx x13.2.2.2.1.2.2.2.2.2.2.2.2.2.2.2.2.2.2.2.2.1 x13.1) (.done none) (fun _ =>
(.next ((wr .i64 (x13.1+1)),((x13.2.1.1,(x13.2.1.2.1,(x13.2.1.2.2.1,(x13.2.1.2.2.2++(x22.1::[]))))),(x13.2.2.1,(((x13.2.2.2.1.1.1,()),(x13.2.2.2.1.2.1,(x13.2.2.2.1.2.2.1,(x13.2.2.2.1.2.2.2.1,(x13.2.2.2.1.2.2.2.2.1,(x13.2.2.2.1.2.2.2.2.2.1,(x13.2.2.2.1.2.2.2.2.2.2.1,(x13.2.2.2.1.2.2.2.2.2.2.2.1,(x13.2.2.2.1.2.2.2.2.2.2.2.2.1,(x13.2.2.2.1.2.2.2.2.2.2.2.2.2.1,(x13.2.2.2.1.2.2.2.2.2.2.2.2.2.2.1,(x13.2.2.2.1.2.2.2.2.2.2.2.2.2.2.2.1,(x13.2.2.2.1.2.2.2.2.2.2.2.2.2.2.2.2.1,(x13.2.2.2.1.2.2.2.2.2.2.2.2.2.2.2.2.2.1,((Bc x13.2.2.2.1.2.2.2.2.2.2.2.2.2.2.2.2.2.2.1 x13.1 0),((Bc x13.2.2.2.1.2.2.2.2.2.2.2.2.2.2.2.2.2.2.2.1 x13.1 0),((Bc x13.2.2.2.1.2.2.2.2.2.2.2.2.2.2.2.2.2.2.2.2.1 x13.1 0),x13.2.2.2.1.2.2.2.2.2.2.2.2.2.2.2.2.2.2.2.2.2))))))))))))))))),x13.2.2.2.2)))))))))))))))))
(.done none))))))))))))))))))))))))
(.done (Ae (Gn x13.2.1) none (fun x14 =>
(Ae (Gj (3,(y.1,x14.1))) none (fun x15 =>
(AD (B3 (x13.2.2.2.1.2.2.2.2.2.2.2.2.2.2.2.2.2.1,1073741824)) (fun y1 =>
(some (x13.2.2.1,(((x13.2.2.2.1.1.1,()),(x13.2.2.2.1.2.1,(x13.2.2.2.1.2.2.1,(x13.2.2.2.1.2.2.2.1,(x13.2.2.2.1.2.2.2.2.1,(x13.2.2.2.1.2.2.2.2.2.1,(x13.2.2.2.1.2.2.2.2.2.2.1,(x13.2.2.2.1.2.2.2.2.2.2.2.1,(x13.2.2.2.1.2.2.2.2.2.2.2.2.1,(x13.2.2.2.1.2.2.2.2.2.2.2.2.2.1,(x13.2.2.2.1.2.2.2.2.2.2.2.2.2.2.1,(x13.2.2.2.1.2.2.2.2.2.2.2.2.2.2.2.1,(x13.2.2.2.1.2.2.2.2.2.2.2.2.2.2.2.2.1,(y1,(x13.2.2.2.1.2.2.2.2.2.2.2.2.2.2.2.2.2.2.1,(x13.2.2.2.1.2.2.2.2.2.2.2.2.2.2.2.2.2.2.2.1,(x13.2.2.2.1.2.2.2.2.2.2.2.2.2.2.2.2.2.2.2.2.1,y.1))))))))))))))))),(x13.2.2.2.2.1,(x13.2.2.2.2.2.1,(x13.2.2.2.2.2.2.1,(x13.2.2.2.2.2.2.2.1,(x13.2.2.2.2.2.2.2.2.1,x15.1))))))))))))))))) AE ((0:Int),((x12.2.1.1,(x12.2.2.1.2.2.1.1,(x12.2.2.1.2.2.2.2.2.2.2.2.2.2.2.2.2.1,[]))),(x12.2.1,(((x12.2.2.1.1.1,()),x12.2.2.1.2),x12.2.2.2))))))
 none)))
structure Qn (s:Ad) (rg:BR) (ti se:Int) (out:List Int) (gr' bu' cm':List Int) (se':Int) (out':List Int):Prop where
 cnt:HS (B6 s) gr' bu' cm'
 sent:Ax se'
 off:((ti+1).tmod s.2.2.2.2.2.2.2.2.2.1≠0∨se=4294967295)→out'=out∧se'=se
 on:(ti+1).tmod s.2.2.2.2.2.2.2.2.2.1=0→se≠4294967295→se'=se+1∧∃r:Jw,r.1=s.1∧r.2.1=rg.1∧r.2.2.1=ti∧Aa r.2.2.2=B6 s∧(∀m∈r.2.2.2,0≤m∧m≤65536)∧zE r∧out'=Ad0 (3,(se',BP (NC r)))
theorem Ael {n:Int} {gr bu cm:List Int} (h:HS n gr bu cm) {i:Int} (i0:0≤i) (i1:i<n):HS n (Bc gr i 0) (Bc bu i 0) (Bc cm i 0):=by
 refine ⟨by rw[BC];exact h.g,by rw[BC];exact h.b,by rw[BC];exact h.c,fun j j0 j1=>?_⟩
 rw[Hj i0 (by rw[h.b];exact i1),Hj i0 (by rw[h.g];exact i1),Hj i0 (by rw[h.c];exact i1)]
 split
 ·simp
 ·exact h.v j j0 j1
theorem Ahw {s:Ad} (h:St s) {d:List Int} {now:Aq} {rg:BR} {q:Ej} {lk:Cy} {rs:List Int} {td:Az} {ag:Int} {pu:List BH} {ey:List AK} {ga:List Bj} {ca wn ti:Int} {gr bu cm:List Int} {se:Int} {n:Int} {ip:Cd} {w:List CS} {was:List BH} {asks lights out:List Int} (hm:0≤rg.1∧rg.1≤3) (hti:0≤ti∧ti≤1073741824) (hc:HS (B6 s) gr bu cm) (hs:Ax se) :
 ∃gr' bu' cm' se' out',AbJ (n,(s,(((d,()),(now,(rg,(q,(lk,(rs,(td,(ag,(pu,(ey,(ga,(ca,(wn,(ti,(gr,(bu,(cm,se))))))))))))))))),(ip,(w,(was,(asks,(lights,out))))))))=some (s,(((d,()),(now,(rg,(q,(lk,(rs,(td,(ag,(pu,(ey,(ga,(ca,(wn,(min (ti+1) 1073741824,(gr',(bu',(cm',se'))))))))))))))))),(ip,(w,(was,(asks,(lights,out')))))))∧Qn s rg ti se out gr' bu' cm' se' out':=by
 have np:=h.ph
 unfold B6 at np
 have hlow:1≤s.2.2.2.2.2.2.2.2.2.1:=h.ok.timed.low.1
 have hu:=hs;unfold Ax at hu
 unfold AbJ
 try simp only
 rw[AJ,Af _ _ (by simp;omega),Ak (ti+1) (by omega) (by omega)]
 change ∃gr' bu' cm' se' out',cnd ((!((ti+1).tmod s.2.2.2.2.2.2.2.2.2.1==0))||_) _ _ = _∧_
 have hsend:IE se=if se=4294967295 then (0,2) else (se+1,0):=by
  unfold IE
  rw[AT]
  split
  ·rename_i c;rw[if_pos (by simpa using c)]
  ·rename_i c
   have c':se≠4294967295:=by simpa using c
   rw[if_neg c',bC,Int.emod_eq_of_lt (by omega) (by omega)]
 by_cases c:(ti+1).tmod s.2.2.2.2.2.2.2.2.2.1=0∧se≠4294967295
 ·rw[hsend,if_neg c.2,Ag _ _ (by simp[c.1])]
  refine AH (fun z:Int×Jw×BX=>z.1) (B6 s) (fun z=>∃gr' bu' cm' lo,z.2=((s.1,(rg.1,(ti,lo))),(s,(((d,()),(now,(rg,(q,(lk,(rs,(td,(ag,(pu,(ey,(ga,(ca,(wn,(ti,(gr',(bu',(cm',se))))))))))))))))),(ip,(w,(was,(asks,(lights,out))))))))∧HS (B6 s) gr' bu' cm'∧Aa lo=z.1∧∀m∈lo,0≤m∧m≤65536)
   (fun R=>∃gr' bu' cm' se' out',R=some (s,(((d,()),(now,(rg,(q,(lk,(rs,(td,(ag,(pu,(ey,(ga,(ca,(wn,(min (ti+1) 1073741824,(gr',(bu',(cm',se'))))))))))))))))),(ip,(w,(was,(asks,(lights,out')))))))∧Qn s rg ti se out gr' bu' cm' se' out') (by unfold B6;omega) (by simp) (by unfold B6;omega) ⟨gr,bu,cm,[],rfl,hc,rfl,fun m hm=>by cases hm⟩ (fun z hI i0 i1=>?_) (fun z hI hz=>?_)
  ·obtain⟨i,z⟩:=z
   obtain⟨gr',bu',cm',lo,hzz,hcc,hlo,hall⟩:=hI
   simp only at i0 i1 hzz hlo
   subst hzz
   have v:=hcc.v i i0 i1
   have eg:=AI (l:=gr') i0 (by rw[hcc.g];exact i1)
   have eb:=AI (l:=bu') i0 (by rw[hcc.b];exact i1)
   have ec:=AI (l:=cm') i0 (by rw[hcc.c];exact i1)
   obtain⟨x,x1,x2⟩:=Aeu (a:=min (el gr' i) (el bu' i+el cm' i)) (b:=max 1 (el gr' i)) (by omega) (by omega) (by omega) (by omega)
   have e2:∀(l:List Int) (hl:Aa l=B6 s),∃y,idx l i=some y:=fun l hl=>by
    obtain⟨y,hy,_⟩:=Au (l:=l) i0 (by rw[hl];exact i1)
    exact ⟨y,hy⟩
   unfold B6 at i1
   have room:=Va (l:=lo) (x:=x) (b:=8) (by omega)
   try simp only
   rw[Af _ _ (decide_eq_true i1),Ab _ _ eg,Ab _ _ eg,Ab _ _ eb,Ab _ _ eb,Ab _ _ ec,Ab _ _ ec,AJ,Ak (el bu' i+el cm' i) (by omega) (by omega),DB,Ab _ _ eg,Ab _ _ eg,AJ,D7,Ab _ _ x1]
   try simp only
   rw[Af _ _ room,Ab _ _ eg,Ab _ _ eg,Ab _ _ eb,Ab _ _ eb,Ab _ _ ec,Ab _ _ ec,Ak (i+1) (by omega) (by omega)]
   refine ⟨rfl,_,_,_,_,rfl,Ael hcc i0 i1,by rw[AV,hlo];rfl,fun m hm=>?_⟩
   rcases List.mem_append.1 hm with hm|hm
   ·exact hall m hm
   ·rcases List.mem_cons.1 hm with rfl|hm
    ·exact x2
    ·cases hm
  ·obtain⟨i,z⟩:=z
   obtain⟨gr',bu',cm',lo,hzz,hcc,hlo,hall⟩:=hI
   simp only at hz hzz hlo
   subst hzz
   have id:=h.ok.id
   have rok:zE (s.1,(rg.1,(ti,lo))):=⟨id,hm,hti,by simp only;unfold B6 at hz;omega,fun m hm=>by have:=hall m hm;omega⟩
   have hb:Bytes (BP (NC (s.1,(rg.1,(ti,lo))))):=pE (fun n hn=>by
    unfold NC at hn
    simp only[List.cons_append,List.nil_append,List.mem_cons] at hn
    have:=Ar lo
    unfold B6 at hz
    rcases hn with rfl|rfl|rfl|rfl|hn
    ·omega
    ·omega
    ·omega
    ·omega
    ·have:=hall n hn;omega)
   have hl:=Agq (r:=(s.1,(rg.1,(ti,lo)))) (by simp only;unfold B6 at hz;omega)
   have hu1:Ax (se+1):=⟨by omega,by omega⟩
   have hwr:=Afv (m:=(3,(se+1,BP (NC (s.1,(rg.1,(ti,lo))))))) ⟨hu1,by simp only;omega⟩ (by simp) hb
   unfold B6 at hz
   try simp only
   rw[Ag _ _ (decide_eq_false (by omega)),Ab _ _ (Ad4 rok),Ab _ _ hwr,AJ,JQ ti 1073741824 hti.1 (by omega)]
   refine ⟨gr',bu',cm',se+1,_,rfl,hcc,hu1,fun hh=>?_,fun _ _=>⟨rfl,_,rfl,rfl,rfl,?_,hall,rok,rfl⟩⟩
   ·rcases hh with hh|hh
    ·exact absurd c.1 hh
    ·exact absurd hh c.2
   ·simp only;unfold B6;omega
 ·rw[Af _ _ (by
   rw[hsend]
   by_cases c1:(ti+1).tmod s.2.2.2.2.2.2.2.2.2.1=0
   ·have c2:se=4294967295:=Decidable.byContradiction fun hh=>c ⟨c1,hh⟩
    rw[if_pos c2];simp
   ·simp[c1]),AJ,JQ ti 1073741824 hti.1 (by omega)]
  exact ⟨gr,bu,cm,se,out,rfl,hc,hs,fun _=>⟨rfl,rfl⟩,fun h1 h2=>absurd ⟨h1,h2⟩ c⟩
end Go.Proofs.YtmmkfcpdfnjgjaaGreatDoor
namespace Go.Proofs.YtmmkfcpdfnjgjaaGreatDoor
open Go.Den
def Acn (s:Ad) (z:Int×BX):Option BX :=
(iter none (fun x12 =>
(cnd (decide (x12.1<(Aa s.2.2.2.2.1)))
(Ae (Ck (x12.2.1,(x12.2.2.1.2.1,x12.1))) (.done none) (fun x13 =>
(cnd (!x13.1)
(.next ((wr .i64 (x12.1+1)),(x12.2.1,(((x12.2.2.1.1.1,()),x12.2.2.1.2),x12.2.2.2))))
(iter (.done none) (fun x14 =>
(cnd (decide (x14.1<(Aa x12.2.1.2.2.2.2.2.1)))
(Ae (idx x12.2.1.2.2.2.2.2.1 x14.1) (.done (.done none)) (fun x15 =>
(cnd (x15.1==x12.1)
(Ae (idx x14.2.2.2.1.2.2.2.2.2.2.2.2.1 x14.1) (.done (.done none)) (fun x16 =>
(cnd x16.1
(Ae (idx x14.2.2.2.2.2.2.1 x14.1) (.done (.done none)) (fun x17 =>
(cnd (!x17.1)
(Ae (idx x14.2.2.2.1.2.2.2.2.2.2.2.2.2.2.2.2.2.2.2.2.1 x12.1) (.done (.done none)) (fun _ =>
(Ae (idx x14.2.2.2.1.2.2.2.2.2.2.2.2.2.2.2.2.2.2.2.2.1 x12.1) (.done (.done none)) (fun x19 =>
(AD (B3 (x19,1048576)) (fun y =>
(Ae (idx x14.2.2.2.1.2.2.2.2.2.2.2.2.2.2.2.2.2.2.2.2.1 x12.1) (.done (.done none)) (fun _ =>
(Ae (idx x14.2.2.2.1.2.2.2.2.2.2.2.2.2.2.2.2.2.2.2.2.1 x12.1) (.done (.done none)) (fun _ =>
(.next ((wr .i64 (x14.1+1)),(true,(x14.2.2.1,(((x14.2.2.2.1.1.1,()),(x14.2.2.2.1.2.1,(x14.2.2.2.1.2.2.1,(x14.2.2.2.1.2.2.2.1,(x14.2.2.2.1.2.2.2.2.1,(x14.2.2.2.1.2.2.2.2.2.1,(x14.2.2.2.1.2.2.2.2.2.2.1,(x14.2.2.2.1.2.2.2.2.2.2.2.1,(x14.2.2.2.1.2.2.2.2.2.2.2.2.1,(x14.2.2.2.1.2.2.2.2.2.2.2.2.2.1,(x14.2.2.2.1.2.2.2.2.2.2.2.2.2.2.1,(x14.2.2.2.1.2.2.2.2.2.2.2.2.2.2.2.1,(x14.2.2.2.1.2.2.2.2.2.2.2.2.2.2.2.2.1,(x14.2.2.2.1.2.2.2.2.2.2.2.2.2.2.2.2.2.1,(x14.2.2.2.1.2.2.2.2.2.2.2.2.2.2.2.2.2.2.1,(x14.2.2.2.1.2.2.2.2.2.2.2.2.2.2.2.2.2.2.2.1,((Bc x14.2.2.2.1.2.2.2.2.2.2.2.2.2.2.2.2.2.2.2.2.1 x12.1 y),x14.2.2.2.1.2.2.2.2.2.2.2.2.2.2.2.2.2.2.2.2.2))))))))))))))))),x14.2.2.2.2)))))))))))))))
(.next ((wr .i64 (x14.1+1)),(true,(x14.2.2.1,(((x14.2.2.2.1.1.1,()),x14.2.2.2.1.2),x14.2.2.2.2))))))))
(.next ((wr .i64 (x14.1+1)),(x14.2.1,(x14.2.2.1,(((x14.2.2.2.1.1.1,()),x14.2.2.2.1.2),x14.2.2.2.2))))))))
(.next ((wr .i64 (x14.1+1)),(x14.2.1,(x14.2.2.1,(((x14.2.2.2.1.1.1,()),x14.2.2.2.1.2),x14.2.2.2.2))))))))
(.done (Dh (fun x15 =>
(Ae (idx x15.2.1.2.2.2.2.2.2.2.2.2.2.2.2.2.2.1 x12.1) (.done none) (fun _ =>
(Ae (idx x15.2.1.2.2.2.2.2.2.2.2.2.2.2.2.2.2.1 x12.1) (.done none) (fun x17 =>
(AD (B3 (x17,1048576)) (fun y =>
(Ae (idx x15.2.1.2.2.2.2.2.2.2.2.2.2.2.2.2.2.1 x12.1) (.done none) (fun _ =>
(Ae (idx x15.2.1.2.2.2.2.2.2.2.2.2.2.2.2.2.2.1 x12.1) (.done none) (fun _ =>
(.next ((wr .i64 (x12.1+1)),(x15.1,(((x15.2.1.1.1,()),(x15.2.1.2.1,(x15.2.1.2.2.1,(x15.2.1.2.2.2.1,(x15.2.1.2.2.2.2.1,(x15.2.1.2.2.2.2.2.1,(x15.2.1.2.2.2.2.2.2.1,(x15.2.1.2.2.2.2.2.2.2.1,(x15.2.1.2.2.2.2.2.2.2.2.1,(x15.2.1.2.2.2.2.2.2.2.2.2.1,(x15.2.1.2.2.2.2.2.2.2.2.2.2.1,(x15.2.1.2.2.2.2.2.2.2.2.2.2.2.1,(x15.2.1.2.2.2.2.2.2.2.2.2.2.2.2.1,(x15.2.1.2.2.2.2.2.2.2.2.2.2.2.2.2.1,((Bc x15.2.1.2.2.2.2.2.2.2.2.2.2.2.2.2.2.1 x12.1 y),x15.2.1.2.2.2.2.2.2.2.2.2.2.2.2.2.2.2))))))))))))))),x15.2.2))))))))))))))) (fun k =>
(cnd x14.2.1
(Ae (idx x14.2.2.2.1.2.2.2.2.2.2.2.2.2.2.2.2.2.2.2.1 x12.1) (.done none) (fun _ =>
(Ae (idx x14.2.2.2.1.2.2.2.2.2.2.2.2.2.2.2.2.2.2.2.1 x12.1) (.done none) (fun x16 =>
(AD (B3 (x16,1048576)) (fun y =>
(Ae (idx x14.2.2.2.1.2.2.2.2.2.2.2.2.2.2.2.2.2.2.2.1 x12.1) (.done none) (fun _ =>
(Ae (idx x14.2.2.2.1.2.2.2.2.2.2.2.2.2.2.2.2.2.2.2.1 x12.1) (.done none) (fun _ =>
(k (x14.2.2.1,(((x14.2.2.2.1.1.1,()),(x14.2.2.2.1.2.1,(x14.2.2.2.1.2.2.1,(x14.2.2.2.1.2.2.2.1,(x14.2.2.2.1.2.2.2.2.1,(x14.2.2.2.1.2.2.2.2.2.1,(x14.2.2.2.1.2.2.2.2.2.2.1,(x14.2.2.2.1.2.2.2.2.2.2.2.1,(x14.2.2.2.1.2.2.2.2.2.2.2.2.1,(x14.2.2.2.1.2.2.2.2.2.2.2.2.2.1,(x14.2.2.2.1.2.2.2.2.2.2.2.2.2.2.1,(x14.2.2.2.1.2.2.2.2.2.2.2.2.2.2.2.1,(x14.2.2.2.1.2.2.2.2.2.2.2.2.2.2.2.2.1,(x14.2.2.2.1.2.2.2.2.2.2.2.2.2.2.2.2.2.1,(x14.2.2.2.1.2.2.2.2.2.2.2.2.2.2.2.2.2.2.1,((Bc x14.2.2.2.1.2.2.2.2.2.2.2.2.2.2.2.2.2.2.2.1 x12.1 y),x14.2.2.2.1.2.2.2.2.2.2.2.2.2.2.2.2.2.2.2.2)))))))))))))))),x14.2.2.2.2)))))))))))))
(k (x14.2.2.1,(((x14.2.2.2.1.1.1,()),x14.2.2.2.1.2),x14.2.2.2.2))))))))) AE ((0:Int),(false,(x12.2.1,(((x12.2.2.1.1.1,()),x12.2.2.1.2),x12.2.2.2))))))))
(.done (AbJ x12)))) AE z)
theorem Aek {n:Int} {gr bu cm:List Int} (h:HS n gr bu cm) {i:Int} (i0:0≤i) (i1:i<n):HS n gr bu (Bc cm i (min (el cm i+1) 1048576)):=by
 refine ⟨h.g,h.b,by rw[BC];exact h.c,fun j j0 j1=>?_⟩
 have v:=h.v j j0 j1
 rw[Hj i0 (by rw[h.c];exact i1)]
 split
 ·rename_i e;subst e;omega
 ·exact v
theorem Ack {n:Int} {gr bu cm:List Int} (h:HS n gr bu cm) {i:Int} (i0:0≤i) (i1:i<n) (b:Bool):HS n (Bc gr i (min (el gr i+1) 1048576)) (if b=true then Bc bu i (min (el bu i+1) 1048576) else bu) cm:=by
 refine ⟨by rw[BC];exact h.g,?_,h.c,fun j j0 j1=>?_⟩
 ·split
  ·rw[BC];exact h.b
  ·exact h.b
 ·have v:=h.v j j0 j1
  rw[Hj i0 (by rw[h.g];exact i1)]
  cases b with
  |true =>
   rw[if_pos rfl,Hj i0 (by rw[h.b];exact i1)]
   split
   ·rename_i e;subst e;omega
   ·exact v
  |false =>
   rw[if_neg (by simp)]
   split
   ·rename_i e;subst e;omega
   ·exact v
theorem AfL {s:Ad} (h:St s) {d:List Int} {now:Aq} {rg:BR} {q:Ej} {lk:Cy} {rs:List Int} {td:Az} {ag:Int} {pu:List BH} {ey:List AK} {ga:List Bj} {ca wn ti:Int} {gr bu cm:List Int} {se:Int} {ip:Cd} {w:List CS} {was:List BH} {asks lights out:List Int} (hG:BS s now) (hpn:Aa pu=BT s) (hwn:Aa was=BT s) (hm:0≤rg.1∧rg.1≤3) (hti:0≤ti∧ti≤1073741824) (hc:HS (B6 s) gr bu cm) (hs:Ax se) :
 ∃gr' bu' cm' se' out',Acn s (0,(s,(((d,()),(now,(rg,(q,(lk,(rs,(td,(ag,(pu,(ey,(ga,(ca,(wn,(ti,(gr,(bu,(cm,se))))))))))))))))),(ip,(w,(was,(asks,(lights,out))))))))=some (s,(((d,()),(now,(rg,(q,(lk,(rs,(td,(ag,(pu,(ey,(ga,(ca,(wn,(min (ti+1) 1073741824,(gr',(bu',(cm',se'))))))))))))))))),(ip,(w,(was,(asks,(lights,out')))))))∧Qn s rg ti se out gr' bu' cm' se' out':=by
 have np:=h.ph;have ne:=h.ne
 unfold Acn
 refine AH (fun z:Int×BX=>z.1) (B6 s) (fun z=>∃gr' bu' cm',z.2=(s,(((d,()),(now,(rg,(q,(lk,(rs,(td,(ag,(pu,(ey,(ga,(ca,(wn,(ti,(gr',(bu',(cm',se))))))))))))))))),(ip,(w,(was,(asks,(lights,out)))))))∧HS (B6 s) gr' bu' cm')
  (fun R=>∃gr' bu' cm' se' out',R=some (s,(((d,()),(now,(rg,(q,(lk,(rs,(td,(ag,(pu,(ey,(ga,(ca,(wn,(min (ti+1) 1073741824,(gr',(bu',(cm',se'))))))))))))))))),(ip,(w,(was,(asks,(lights,out')))))))∧Qn s rg ti se out gr' bu' cm' se' out') (by omega) (by simp) (by simp only;omega) ⟨gr,bu,cm,rfl,hc⟩ (fun z hI i0 i1=>?_) (fun z hI hz=>?_)
 ·obtain⟨i,t⟩:=z
  obtain⟨gr',bu',cm',ht,hcc⟩:=hI
  simp only at i0 i1 ht
  subst ht
  have hfull:Ly 0 s now i=(Dl s now i,0):=by
   unfold B6 at i1
   unfold Ly
   rw[if_neg (by simp),if_neg (by rw[hG.may.st.n];simp),if_neg (by omega)]
  try simp only
  rw[Af _ _ (show decide (i<Aa s.2.2.2.2.1)=true from decide_eq_true i1),Ab _ _ (Tm h.f (fun _=>h.so) h.chk),hfull,Ak (i+1) (by omega) (by omega)]
  try simp only
  by_cases cf:Dl s now i=true
  ·rw[Ag _ _ (by rw[cf];rfl)]
   refine AH (fun z:Int×Bool×BX=>z.1) (BT s) (fun z=>∃cm',z.2.2=(s,(((d,()),(now,(rg,(q,(lk,(rs,(td,(ag,(pu,(ey,(ga,(ca,(wn,(ti,(gr',(bu',(cm',se))))))))))))))))),(ip,(w,(was,(asks,(lights,out)))))))∧HS (B6 s) gr' bu' cm')
    (fun R=>C8 (fun z:Int×BX=>z.1) (fun z=>∃gr' bu' cm',z.2=(s,(((d,()),(now,(rg,(q,(lk,(rs,(td,(ag,(pu,(ey,(ga,(ca,(wn,(ti,(gr',(bu',(cm',se))))))))))))))))),(ip,(w,(was,(asks,(lights,out)))))))∧HS (B6 s) gr' bu' cm')
      (fun R=>∃gr' bu' cm' se' out',R=some (s,(((d,()),(now,(rg,(q,(lk,(rs,(td,(ag,(pu,(ey,(ga,(ca,(wn,(min (ti+1) 1073741824,(gr',(bu',(cm',se'))))))))))))))))),(ip,(w,(was,(asks,(lights,out')))))))∧Qn s rg ti se out gr' bu' cm' se' out') i R) (by omega) (by simp) ne.1 ⟨cm',rfl,hcc⟩ (fun z hI j0 j1=>?_) (fun z hI hz=>?_)
   ·obtain⟨j,b,t⟩:=z
    obtain⟨cm',ht,hcc⟩:=hI
    simp only at j0 j1 ht
    subst ht
    obtain⟨e,he,_⟩:=Au (l:=s.2.2.2.2.2.1) j0 j1
    obtain⟨p,hp,_⟩:=Au (l:=pu) j0 (by omega)
    obtain⟨p0,hp0,_⟩:=Au (l:=was) j0 (by omega)
    have ec:=AI (l:=cm') i0 (by rw[hcc.c];exact i1)
    have v:=hcc.v i i0 i1
    try simp only
    rw[Af _ _ (show decide (j<Aa s.2.2.2.2.2.1)=true from decide_eq_true j1),Ab _ _ he,Ak (j+1) (by omega) (by omega)]
    by_cases ci:e.1=i
    ·rw[Af _ _ (by simp[ci]),Ab _ _ hp]
     cases hpu:p.1 with
     |true =>
      rw[Af _ _ rfl,Ab _ _ hp0]
      cases hpw:p0.1 with
      |true =>
       rw[Ag (b:=!true) _ _ rfl]
       exact ⟨rfl,cm',rfl,hcc⟩
      |false =>
       rw[Af (b:=!false) _ _ rfl,Ab _ _ ec,Ab _ _ ec,AJ,Ab _ _ ec,Ab _ _ ec,JQ (el cm' i) 1048576 (by omega) (by omega)]
       exact ⟨rfl,_,rfl,Aek hcc i0 i1⟩
     |false =>
      rw[Ag _ _ rfl]
      exact ⟨rfl,cm',rfl,hcc⟩
    ·rw[Ag _ _ (by simpa using ci)]
     exact ⟨rfl,cm',rfl,hcc⟩
   ·obtain⟨j,b,t⟩:=z
    obtain⟨cm',ht,hcc⟩:=hI
    simp only at hz ht
    subst ht
    have eg:=AI (l:=gr') i0 (by rw[hcc.g];exact i1)
    have eb:=AI (l:=bu') i0 (by rw[hcc.b];exact i1)
    have v:=hcc.v i i0 i1
    try simp only
    rw[Ag _ _ (decide_eq_false (by unfold BT at hz;omega))]
    show C8 _ _ _ _ (Dh _ _)
    rw[Wm (s,(((d,()),(now,(rg,(q,(lk,(rs,(td,(ag,(pu,(ey,(ga,(ca,(wn,(ti,(gr',((if b=true then Bc bu' i (min (el bu' i+1) 1048576) else bu'),(cm',se))))))))))))))))),(ip,(w,(was,(asks,(lights,out))))))) (fun k=>by
     try simp only
     cases b with
     |true=>rw[Af _ _ rfl,if_pos rfl,Ab _ _ eb,Ab _ _ eb,AJ,Ab _ _ eb,Ab _ _ eb,JQ (el bu' i) 1048576 (by omega) (by omega)]
     |false=>rw[Ag _ _ rfl,if_neg (by simp)])]
    try simp only
    rw[Ab _ _ eg,Ab _ _ eg,AJ,Ab _ _ eg,Ab _ _ eg,JQ (el gr' i) 1048576 (by omega) (by omega)]
    exact ⟨rfl,_,_,_,rfl,Ack hcc i0 i1 b⟩
  ·rw[Af _ _ (by rw[Bool.eq_false_iff.2 cf];rfl)]
   exact ⟨rfl,gr',bu',cm',rfl,hcc⟩
 ·obtain⟨i,t⟩:=z
  obtain⟨gr',bu',cm',ht,hcc⟩:=hI
  simp only at hz ht
  subst ht
  try simp only
  rw[Ag _ _ (decide_eq_false (by unfold B6 at hz;omega))]
  exact Ahw h hm hti hcc hs
end Go.Proofs.YtmmkfcpdfnjgjaaGreatDoor
namespace Go.Proofs.YtmmkfcpdfnjgjaaGreatDoor
open Go.Den
abbrev LD (x:AM):List Int:=x.1.1
abbrev BY (x:AM):Aq:=x.2.1
abbrev LRg (x:AM):BR:=x.2.2.1
abbrev LQ (x:AM):Ej:=x.2.2.2.1
abbrev LLk (x:AM):Cy:=x.2.2.2.2.1
abbrev LRs (x:AM):List Int:=x.2.2.2.2.2.1
abbrev LTd (x:AM):Az:=x.2.2.2.2.2.2.1
abbrev LAg (x:AM):Int:=x.2.2.2.2.2.2.2.1
abbrev LPu (x:AM):List BH:=x.2.2.2.2.2.2.2.2.1
abbrev LEy (x:AM):List AK:=x.2.2.2.2.2.2.2.2.2.1
abbrev LGa (x:AM):List Bj:=x.2.2.2.2.2.2.2.2.2.2.1
abbrev LCa (x:AM):Int:=x.2.2.2.2.2.2.2.2.2.2.2.1
abbrev LWn (x:AM):Int:=x.2.2.2.2.2.2.2.2.2.2.2.2.1
abbrev LTi (x:AM):Int:=x.2.2.2.2.2.2.2.2.2.2.2.2.2.1
abbrev LGr (x:AM):List Int:=x.2.2.2.2.2.2.2.2.2.2.2.2.2.2.1
abbrev LBu (x:AM):List Int:=x.2.2.2.2.2.2.2.2.2.2.2.2.2.2.2.1
abbrev LCm (x:AM):List Int:=x.2.2.2.2.2.2.2.2.2.2.2.2.2.2.2.2.1
abbrev LSe (x:AM):Int:=x.2.2.2.2.2.2.2.2.2.2.2.2.2.2.2.2.2
structure Ran (s:Ad) (x:AM) (ip:Cd) (y:AM) (w:List CS) (asks lights out:List Int) (told well:Bool) (ups:Int):Prop where
 hear:YL s (LLk x) (LRs x) (LTd x) (LAg x) ip.1 (LLk y) (LRs y) (LTd y) (LAg y) told
 puts:Li (LD x) w∧(told=false→w=[])∧(w=[]∨∃e,NM (LD x) (LRg x).1 (LTd y::[]) w e)
 disk:LD y=doV (Aa w) 0 0 w (LD x)
 see:YP s (BY x) (LQ x) ip (LPu x) (LEy x) (LCa x) ups (LCa y)
 pu:LPu y=puV ip.2.1 (LPu x)
 ga:LGa y=gaV (LPu y) (LGa x)
 ey:LEy y=Ey.Cu s ups (LEy x)
 wn:LWn y=wnV s (BY x) (LWn x) ip.2.2.1
 rg:LRg y=CJ (s,(LRg x,E9 s (LTd y) (LAg y) (LWn y) (BM (LD y)) ip.2.2.2.2.2.2 well))
 ask:y8 s (BY x) (LRg y) (LQ x) (LTd y) (LCa y) (LTi x) (BM (LD y)).1 (LQ y) asks
 lit:lights=Cz s (BY x) asks
 now:BY y=Di s (BY x) lights
 tell:Qn s (LRg y) (LTi x) (LSe x) [] (LGr y) (LBu y) (LCm y) (LSe y) out
 ti:LTi y=min (LTi x+1) 1073741824
structure AgP (s:Ad) (x:AM) (y:AM) (lights out:List Int):Prop where
 disk:Bl (LD y)
 loc:y=Wo s (BY x) (LTi x) (LSe x) (LD y)
 lit:lights=JI s
 mute:out=[]
theorem AhT {s:Ad} (h:St s) {x:AM} {ip:Cd} (hx:Fx s x) (hb:ip.2.2.1.length≤maxLen) :
 ∃y w was asks lights out,DG (s,(x,(ip,([],([],([],([],[])))))))=some (s,(y,(ip,(w,(was,(asks,(lights,out)))))))∧Fx s y ∧
  (ip.2.2.2.1=true→AgP s x y lights out)∧(ip.2.2.2.1=false→∃told well ups,Ran s x ip y w asks lights out told well ups):=by
 obtain⟨⟨d,⟨⟩⟩,now,rg,q,lk,rs,td,ag,pu,ey,ga,ca,wn,ti,gr,bu,cm,se⟩:=x
 have hd:Bl d:=hx.disk
 have hti:0≤ti∧ti≤1073741824:=hx.tick
 have hrg:Ld.IY rg:=hx.rung
 have hG:BS s now:=hx.now
 have hw:0≤wn∧wn≤1048576:=hx.wrong
 have hse:Ax se:=hx.sent
 have hpn:Aa pu=BT s:=hx.pn
 have hgn:Aa ga=BT s:=hx.gn
 obtain⟨lk',rs',td',ag',told,h1,H⟩:=Ag9 (ip:=ip) (r:=([],([],([],([],[]))))) h hx
 have hx1:Fx s ((d,()),(now,(rg,(q,(lk',(rs',(td',(ag',(pu,(ey,(ga,(ca,(wn,(ti,(gr,(bu,(cm,se))))))))))))))))):=⟨hd,hG,hrg,hx.seq,H.link,H.rest,H.plan,H.age,hx.pn,hx.pulse,hx.eyes,hx.gn,hx.gaps,hx.calls,hx.wrong,hx.tick,hx.cnt,hx.sent⟩
 obtain⟨w,hwr,hw1,hw2,hw3⟩:∃w,(if told=true then DJ (s,(((d,()),(now,(rg,(q,(lk',(rs',(td',(ag',(pu,(ey,(ga,(ca,(wn,(ti,(gr,(bu,(cm,se))))))))))))))))),(ip,([],([],([],([],[]))))))) else some (s,(((d,()),(now,(rg,(q,(lk',(rs',(td',(ag',(pu,(ey,(ga,(ca,(wn,(ti,(gr,(bu,(cm,se))))))))))))))))),(ip,([],([],([],([],[]))))))))=some (s,(((d,()),(now,(rg,(q,(lk',(rs',(td',(ag',(pu,(ey,(ga,(ca,(wn,(ti,(gr,(bu,(cm,se))))))))))))))))),(ip,(w,([],([],([],[])))))))∧Li d w∧(told=false→w=[])∧(w=[]∨∃e,NM d rg.1 (td'::[]) w e):=by
  cases told with
  |true =>
   obtain⟨ps,p1,p2⟩:=AgH (ip:=ip) (w:=[]) (r:=([],([],([],[])))) h hx1
   refine ⟨ps,by rw[if_pos rfl];exact p1,?_,fun hh=>(by cases hh),p2⟩
   rcases p2 with p2|⟨e,p2⟩
   ·rw[p2];exact Se d
   ·exact p2.ok
  |false=>exact ⟨[],by rw[if_neg (by simp)],Se d,fun _=>rfl,.inl rfl⟩
 unfold DG
 rw[Wm (s,(((d,()),(now,(rg,(q,(lk',(rs',(td',(ag',(pu,(ey,(ga,(ca,(wn,(ti,(gr,(bu,(cm,se))))))))))))))))),(ip,(w,([],([],([],[]))))))) (fun k=>by
  try simp only
  rw[Ab _ _ h1]
  try simp only
  cases told with
  |true =>
   rw[if_pos rfl] at hwr
   rw[Af _ _ rfl,Ab _ _ hwr]
  |false =>
   rw[if_neg (by simp)] at hwr
   have hw0:=hw2 rfl
   subst hw0
   rw[Ag _ _ rfl])]
 try simp only
 cases hlost:ip.2.2.2.1 with
 |true =>
  obtain⟨d',d1,_,d3⟩:=Ahd (ip:=ip) (w:=w) (was:=[]) (asks:=[]) (lights:=[]) (out:=[]) h hx1 hw1
  rw[Af _ _ rfl,Ab _ _ d3]
  refine ⟨Wo s now ti se d',w,[],[],JI s,[],rfl,AeG h d1 hG hti.1 hse,fun _=>⟨d1,rfl,rfl,rfl⟩,fun hh=>by cases hh⟩
 |false =>
  have hwn:=Ar w
  have hdo:=AgN (d:=d) (l:=w) (whole:=Aa w) (torn:=0) hd hw1 hwn (by omega) (by omega) (by omega)
  have hdk:=QF (d:=d) (l:=w) (whole:=Aa w) (torn:=0) hd hw1
  generalize hd':doV (Aa w) 0 0 w d=d' at hdo hdk
  have hx2:Fx s ((d',()),(now,(rg,(q,(lk',(rs',(td',(ag',(pu,(ey,(ga,(ca,(wn,(ti,(gr,(bu,(cm,se))))))))))))))))):=⟨hdk.1,hG,hrg,hx.seq,H.link,H.rest,H.plan,H.age,hx.pn,hx.pulse,hx.eyes,hx.gn,hx.gaps,hx.calls,hx.wrong,hx.tick,hx.cnt,hx.sent⟩
  obtain⟨ups,ca',s1,S⟩:=AhU (ip:=ip) (w:=w) (was:=[]) (r:=([],([],[]))) h hx2
  have hpu:∀p∈puV ip.2.1 pu,KU p:=fun p hp=>by
   obtain⟨j,hj⟩:=D9 hp
   obtain⟨j0,j1,_⟩:=An hj
   rw[Yt] at j1
   obtain⟨p0,hp0,hp1⟩:=Au j0 j1
   rw[Wk hp0] at hj
   rw[←Option.some.inj hj]
   exact AeT (hx.pulse p0 hp1)
  have hga:∀g∈gaV (puV ip.2.1 pu) ga,YK g:=fun g hg=>by
   obtain⟨j,hj⟩:=D9 hg
   obtain⟨j0,j1,_⟩:=An hj
   rw[Ys] at j1
   obtain⟨g0,hg0,hg1⟩:=Au j0 j1
   rw[yS hg0] at hj
   rw[←Option.some.inj hj]
   exact Ag6 (hx.gaps g0 hg1)
  have hx3:Fx s ((d',()),(now,(rg,(q,(lk',(rs',(td',(ag',(puV ip.2.1 pu,(Ey.Cu s ups ey,(gaV (puV ip.2.1 pu) ga,(ca',(wn,(ti,(gr,(bu,(cm,se))))))))))))))))):=⟨hdk.1,hG,hrg,hx.seq,H.link,H.rest,H.plan,H.age,by simp only;rw[Yt];exact hpn,hpu,S.eyes,by simp only;rw[Ys];exact hgn,hga,S.calls,hx.wrong,hx.tick,hx.cnt,hx.sent⟩
  obtain⟨well,f1⟩:=AfQ (ip:=ip) (r:=(w,(pu,([],([],[]))))) h hx3 hb
  have hwn':=Afm (s:=s) (now:=now) (back:=ip.2.2.1) hw
  generalize hwv:wnV s now wn ip.2.2.1=wn' at f1 hwn'
  have hst:=Ld.Ac4 (s:=s) (r:=rg) (E9 s td' ag' wn' (BM d') ip.2.2.2.2.2.2 well) h.f h.ok hrg
  have hsok:=Ld.Agx (s:=s) (r:=rg) (E9 s td' ag' wn' (BM d') ip.2.2.2.2.2.2 well) hrg h.ok.timed.heal.2
  have hsg:=Ld.AdJ s rg (E9 s td' ag' wn' (BM d') ip.2.2.2.2.2.2 well) hrg
  generalize hrv:CJ (s,(rg,E9 s td' ag' wn' (BM d') ip.2.2.2.2.2.2 well))=rg' at hst hsok hsg
  have hx4:Fx s ((d',()),(now,(rg',(q,(lk',(rs',(td',(ag',(puV ip.2.1 pu,(Ey.Cu s ups ey,(gaV (puV ip.2.1 pu) ga,(ca',(wn',(ti,(gr,(bu,(cm,se))))))))))))))))):=⟨hdk.1,hG,hsok,hx.seq,H.link,H.rest,H.plan,H.age,hx3.pn,hpu,S.eyes,hx3.gn,hga,S.calls,hwn',hx.tick,hx.cnt,hx.sent⟩
  have hp2:rg'.1=2→∃p,idx (BM d').1.2.2 0=some p∧Er p:=fun hh=>by
   have hf:=(hsg.stored hh).1
   unfold E9 at hf
   simp only[Bool.and_eq_true,beq_iff_eq,decide_eq_true_eq] at hf
   obtain⟨p,q1,q2⟩:=Au (l:=(BM d').1.2.2) (i:=0) (by omega) hf.2
   refine ⟨p,q1,?_⟩
   rcases y0 hdk.1 with hk|hk
   ·exact hk.2.plans p q2
   ·have:=hf.1.2;omega
  have hp3:rg'.1=3→FB s td':=fun hh=>by
   have hf:=(hsg.master hh).1
   unfold E9 at hf
   simp only[Bool.and_eq_true] at hf
   rcases H.plan with hp|hp
   ·exact hp
   ·rw[hp] at hf
    exact absurd hf.1 (by decide)
  obtain⟨q',asks',a1,A⟩:=AhF (ip:=ip) (kp:=(BM d').1) (w:=w) (was:=pu) (asks:=[]) (lights:=[]) (out:=[]) h hx4 hp2 hp3
  obtain⟨t1,t2,t3⟩:=Uc h hG A.len
  obtain⟨gr',bu',cm',se',out',c1,T⟩:=AfL (s:=s) (d:=d') (now:=Di s now (Cz s now asks')) (rg:=rg') (q:=q') (lk:=lk') (rs:=rs') (td:=td') (ag:=ag') (pu:=puV ip.2.1 pu) (ey:=Ey.Cu s ups ey) (ga:=gaV (puV ip.2.1 pu) ga) (ca:=ca') (wn:=wn') (ti:=ti) (gr:=gr) (bu:=bu) (cm:=cm) (se:=se) (ip:=ip) (w:=w) (was:=pu) (asks:=asks') (lights:=Cz s now asks') (out:=[]) h t3 hx3.pn hpn hsok.mode hti hx.cnt hse
  have hph:=h.ph
  rw[Ag _ _ rfl,Ab _ _ hdo]
  try simp only
  rw[Ab _ _ s1]
  try simp only
  rw[Ab _ _ f1]
  try simp only
  rw[Ab _ _ hst]
  try simp only
  rw[Ab _ _ a1]
  try simp only
  rw[Ab _ _ t1]
  try simp only
  rw[Ab _ _ t2,Ab _ _ (Zh (l:=gr) (by have:=hx.cnt.g;simp only at this;omega)),Ab _ _ (Zh (l:=bu) (by have:=hx.cnt.b;simp only at this;omega)),Ab _ _ (Zh (l:=cm) (by have:=hx.cnt.c;simp only at this;omega))]
  refine ⟨_,w,pu,asks',_,out',c1,?_,fun hh=>(by cases hh),fun _=>⟨told,well,ups,?_⟩⟩
  ·exact ⟨hdk.1,t3,hsok,A.seq,H.link,H.rest,H.plan,H.age,hx3.pn,hpu,S.eyes,hx3.gn,hga,S.calls,hwn',⟨by simp only;omega,by simp only;omega⟩,T.cnt,T.sent⟩
  ·exact ⟨H,⟨hw1,hw2,hw3⟩,hd'.symm,S,rfl,rfl,rfl,hwv.symm,hrv.symm,A,rfl,rfl,T,rfl⟩
end Go.Proofs.YtmmkfcpdfnjgjaaGreatDoor
namespace Go.Proofs.YtmmkfcpdfnjgjaaGreatDoor
open Go.Den
theorem xZ {s:Ad} (h:St s) {x:AM} (hx:Fx s x):El (s,x)=some true:=by
 obtain⟨⟨d,⟨⟩⟩,now,rg,q,lk,rs,td,ag,pu,ey,ga,ca,wn,ti,gr,bu,cm,se⟩:=x
 have ne:=h.ne;have np:=h.ph
 have hpn:Aa pu=BT s:=hx.pn
 have hgn:Aa ga=BT s:=hx.gn
 have hey:Ey.FF 0 s ey=0:=hx.eyes
 have hca:Ax ca∧Ay .u32 ca (B6 s)=0:=hx.calls
 obtain⟨_,hen,_⟩:=Ey.Mf hey
 have EO:=Ey.l6 h.ok
 unfold El
 try simp only
 rw[Ag _ _ (by rw[hpn,hgn];simp[BT])]
 refine AH (fun i:Int=>i) (BT s) (fun _=>True) (fun R=>R=some true) (by omega) (by omega) ne.1 trivial (fun i _ i0 i1=>?_) (fun i _ hz=>?_)
 ·obtain⟨g,hg,hgm⟩:=Au (l:=ga) i0 (by omega)
  obtain⟨p,hp,hpm⟩:=Au (l:=pu) i0 (by omega)
  have h1:=(hx.gaps g hgm).1
  have h2:=hx.pulse p hpm
  unfold KU at h2
  try simp only
  rw[Af _ _ (show decide (i<Aa s.2.2.2.2.2.1)=true from decide_eq_true i1),Ab _ _ hg,AJ,Ab _ _ hp,AJ,Ag _ _ (by
   unfold JK CU
   rw[AJ,h1,Ag (b:=!((0:Int)==0)) _ _ (by rfl),Ag _ _ (by simp)]
   simp;omega),Ak (i+1) (by omega) (by omega)]
  exact ⟨rfl,trivial⟩
 ·obtain⟨n,n1,_⟩:=Ey.Zb (s:=s) (l:=ey) (e:=0) (c:=ca) (g := -1) (fun _=>EO) h.chk (by unfold BT at ne;omega) hca.1
  have ha:Ey.Rs s ca (-1)=0:=by
   unfold Ey.Rs
   have h2:=hca.2
   unfold B6 at h2 np
   rw[if_neg (by rw[h2];simp),if_neg (by omega)]
  rw[hey,if_neg (by simp),ha,if_neg (by simp)] at n1
  try simp only
  rw[Ag _ _ (decide_eq_false (by unfold BT at hz;omega)),Ab _ _ n1]
  rfl
theorem tZ {s:Ad} (h:St s) {x:AM} (hx:Fx s x):Ek (s,x)=some true:=by
 obtain⟨⟨d,⟨⟩⟩,now,rg,q,lk,rs,td,ag,pu,ey,ga,ca,wn,ti,gr,bu,cm,se⟩:=x
 have np:=h.ph
 have hc:HS (B6 s) gr bu cm:=hx.cnt
 have hg:=hc.g;have hb:=hc.b;have hcm:=hc.c
 unfold Ek
 try simp only
 rw[Ag _ _ (by rw[hg,hb,hcm];simp[B6])]
 refine AH (fun i:Int=>i) (B6 s) (fun _=>True) (fun R=>R=some true) (by omega) (by omega) (by omega) trivial (fun i _ i0 i1=>?_) (fun i _ hz=>?_)
 ·have v:=hc.v i i0 i1
  have eg:=AI (l:=gr) i0 (by omega)
  have eb:=AI (l:=bu) i0 (by omega)
  have ec:=AI (l:=cm) i0 (by omega)
  have sp:∀n:Int,0≤n→n≤1048576→(!CU n)=false:=fun n n0 n1=>by unfold CU;simp;omega
  try simp only
  rw[Af _ _ (show decide (i<Aa s.2.2.2.2.1)=true from decide_eq_true i1),Ab _ _ eg,AJ,Ag _ _ (sp _ (by omega) (by omega)),Ab _ _ eb,AJ,Ag _ _ (sp _ (by omega) (by omega)),Ab _ _ ec,AJ,Ag _ _ (sp _ (by omega) (by omega)),Ab _ _ eb,Ab _ _ eg,Ag _ _ (decide_eq_false (by omega)),Ak (i+1) (by omega) (by omega)]
  exact ⟨rfl,trivial⟩
 ·try simp only
  rw[Ag _ _ (decide_eq_false (by unfold B6 at hz;omega))]
  rfl
theorem AaN:∀(l:List Int) (i:Int),zB l→IN l 126 i = -1:=by
 intro l
 induction l with
 |nil=>intro i _;rfl
 |cons a l ih =>
  intro i h
  have h1:a≠126:=h a (List.mem_cons_self ..)
  unfold IN
  rw[if_neg h1]
  exact ih _ fun b hb=>h b (List.mem_cons_of_mem _ hb)
theorem wC {s:Ad} (h:St s) {p:Az} (hp:Of s p):∃b,CY (s,p)=some (b,0)∧(b||DO p)=true:=by
 have hf:Rm p:=by
  rcases hp with hp|hp
  ·exact (Sz (NT h hp)).1
  ·rw[hp];exact ⟨by simp,by simp[maxLen],fun m hm=>by cases hm⟩
 obtain⟨b,b1,b2⟩:=Pn.Sp h.f h.ok h.chk hf
 refine ⟨b,b1,?_⟩
 rcases hp with hp|hp
 ·rw[b2.2 hp];rfl
 ·subst hp
  rw[show DO (0,(0,[]))=true from by decide,Bool.or_true]
theorem Af8 {s:Ad} (h:St s) {x:AM} (hx:Fx s x):Jf (s,x)=some true:=by
 have hw:=xZ h hx
 have hc:=tZ h hx
 have hxx:=hx
 obtain⟨⟨d,⟨⟩⟩,now,rg,q,lk,rs,td,ag,pu,ey,ga,ca,wn,ti,gr,bu,cm,se⟩:=x
 have hd:Bl d:=hx.disk
 have hq:Js s q:=hx.seq
 have hag:0≤ag∧ag≤1048576:=hx.age
 have hwn:0≤wn∧wn≤1048576:=hx.wrong
 have hti:0≤ti∧ti≤1073741824:=hx.tick
 have hG:BS s now:=hx.now
 have hrg:Ld.IY rg:=hx.rung
 have hlk:Kp lk:=hx.link
 have hrs:Tn rs:=hx.rest
 obtain⟨b,p1,p2⟩:=wC h (p:=td) hx.told
 have n1:=h.so.n1;have n2:=h.so.n2
 have q0:=hq.p0;have q1:=hq.p1;have q2:=hq.s0;have q3:=hq.s1
 have hbl:Dv (d,())=true:=(RA (by have:=hd.hi;omega)).2 hd
 have hgo:=AfW (s:=s) (now:=now) (g:=0) (e:=0) (fun _=>h.so) h.chk (by rw[hG.may.st.n];omega)
 unfold Aa8 at hgo
 rw[if_neg (by simp),if_neg (by simpa using hG),if_neg (by omega)] at hgo
 have hln:=Ld.Ac4 (s:=s) (r:=rg) (false,(false,(false,false))) h.f h.ok hrg
 have hfr:(IP (lk,1)).2=0:=by
  unfold IP
  rw[AJ,(RQ hlk.last).2 hlk,Ag _ _ (by rfl),Ag _ _ (by simp)]
 have tail:Ae (CY (s,td)) none (fun x3=>cnd (x3.1||DO td) (Ae (El (s,((d,()),(now,(rg,(q,(lk,(rs,(td,(ag,(pu,(ey,(ga,(ca,(wn,(ti,(gr,(bu,(cm,se))))))))))))))))))) none (fun x4=>cnd x4 (Ae (Ek (s,((d,()),(now,(rg,(q,(lk,(rs,(td,(ag,(pu,(ey,(ga,(ca,(wn,(ti,(gr,(bu,(cm,se))))))))))))))))))) none (fun x5=>some x5)) (some false))) (some false))=some true:=by
  rw[Ab _ _ p1,Af _ _ p2,Ab _ _ hw,Af _ _ rfl,Ab _ _ hc]
 unfold Jf CU
 try simp only
 rw[AJ,hbl,Ag _ _ (by simp;omega),Ab _ _ hgo,Ag _ _ (by rfl),Ab _ _ hln,Ag _ _ (by rfl),AJ,hfr,Ag _ _ (by rfl),Ag _ _ (decide_eq_false (by have:=hrs.1;omega))]
 rcases hrs.2 with e|⟨t,e,et⟩
 ·subst e
  rw[Ag _ _ (by simp[Aa])]
  exact tail
 ·subst e
  rw[Af _ _ (decide_eq_true (by rw[Ft];have:=Ar t;omega)),Ab _ _ (show idx (126::t) 0=some 126 from rfl),Ag _ _ (by simp),Af _ _ (decide_eq_true (by rw[Ft];have:=Ar t;omega)),AJ,Ag _ _ (by
   have:Bf (126::t) 1=t:=rfl
   rw[this]
   unfold bytes_IndexByte
   rw[AaN t 0 et]
   rfl)]
  exact tail
theorem Xl {s:Ad} (h:St s) {x:AM} {ip:Cd} (hx:Fx s x) (hb:ip.2.2.1.length≤maxLen) :
 ∃y w asks lights out,Bq (s,(x,ip))=some (y,(lights,(out,0)))∧Fx s y ∧
  (ip.2.2.2.1=true→AgP s x y lights out)∧(ip.2.2.2.1=false→∃told well ups,Ran s x ip y w asks lights out told well ups):=by
 obtain⟨y,w,was,asks,lights,out,r1,r2,r3,r4⟩:=AhT h (ip:=ip) hx hb
 have hm:=Af8 h hx
 have hl:Aa (LTd x).2.2≤1000:=by
  rcases hx.told with hp|hp
  ·have:=(NT h hp).n;show Aa x.2.2.2.2.2.2.1.2.2≤1000;omega
  ·show Aa x.2.2.2.2.2.2.1.2.2≤1000;rw[hp];simp[Aa]
 refine ⟨y,w,asks,lights,out,?_,r2,r3,r4⟩
 obtain⟨⟨d,⟨⟩⟩,now,rg,q,lk,rs,td,ag,pu,ey,ga,ca,wn,ti,gr,bu,cm,se⟩:=x
 unfold Bq I3
 try simp only
 rw[Ab _ _ h.chk,Ag (b:=!((0:Int)==0)) _ _ (by rfl),Ab _ _ hm,Ag (b:=!true) _ _ rfl,Ab _ _ rfl,Ag _ _ (by rfl),Ab _ _ (Zh hl),Ab _ _ r1]
theorem OM {s:Ad} (h:St s) {d:List Int} (hl:Aa d≤9223372036854775807):(Bl d∧BQ (s,(d,()))=some (Ex s (BM d).1.2.1 d,0))∨(¬Bl d∧∃y,BQ (s,(d,()))=some (y,8)):=by
 unfold BQ
 rw[Ab _ _ h.chk,Ag _ _ (by rfl),AJ]
 by_cases hd:Bl d
 ·have hb:Dv (d,())=true:=(RA hl).2 hd
  left
  rw[hb,Ag (b:=!true) _ _ rfl]
  try simp only
  rw[Ab _ _ (l7 h hd)]
  exact ⟨hd,rfl⟩
 ·have hb:Dv (d,())=false:=Bool.eq_false_iff.2 fun hh=>hd ((RA hl).1 hh)
  right
  rw[hb,Af (b:=!false) _ _ rfl]
  exact ⟨hd,_,rfl⟩
theorem QO {s:Ad} {d:List Int} {e:Int} (h:Aw s=some e) (h0:e≠0):∃y,BQ (s,(d,()))=some (y,e):=by
 unfold BQ
 rw[Ab _ _ h,Af _ _ (by simp[h0])]
 exact ⟨_,rfl⟩
end Go.Proofs.YtmmkfcpdfnjgjaaGreatDoor
