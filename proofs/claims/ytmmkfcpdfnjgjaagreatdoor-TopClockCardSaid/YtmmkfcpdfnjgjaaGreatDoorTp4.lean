/- Part of a proof: plain readings of Go functions, their contracts, or plain facts of them. -/
import Derived.Test.YtmmkfcpdfnjgjaaGreatDoorTp3
namespace Go.Proofs.YtmmkfcpdfnjgjaaGreatDoor
open Go.Den
theorem Tv:FU ()=some true:=by kernel_rfl
theorem Ahg {l:List Cd} (hl:Aa l≤200):∃n,Ie l=some n:=by
 unfold Ie
 refine AH (fun z:Int×Int=>z.2) (Aa l) (fun _=>True) (fun R=>∃n,R=some n) (by omega) (by simp) (Ar l) trivial (fun z _ i0 i1=>?_) (fun z _ hz=>?_)
 ·obtain⟨m,i⟩:=z
  simp only at i0 i1
  obtain⟨x,hx,_⟩:=Au i0 i1
  try simp only
  rw[Af _ _ (decide_eq_true i1),Ab _ _ hx,Ab _ _ hx,Ak (i+1) (by omega) (by omega)]
  exact ⟨rfl,trivial⟩
 ·obtain⟨m,i⟩:=z
  simp only at hz
  try simp only
  rw[Ag _ _ (decide_eq_false (by omega))]
  exact ⟨m,rfl⟩
theorem AdU {s:Ad} (hs:Bm s) {d:List Int} {l:List Cd}:∃b,Kh (s,((d,()),l))=some b∧(b=true→Aa l≤200):=by
 obtain⟨g,hg⟩:=Ld.Wj s hs
 unfold Kh
 rw[Ab _ _ hg,AT]
 split
 ·rename_i c
  simp only[Bool.and_eq_true,decide_eq_true_eq] at c
  obtain⟨n,hn⟩:=Ahg (l:=l) c.2
  rw[Ab _ _ hn]
  exact ⟨_,rfl,fun _=>c.2⟩
 ·exact ⟨_,rfl,fun h=>by cases h⟩
theorem eA {s:Ad} (hs:Bm s) (h:Aw s=some 0):St s:=by
 obtain⟨e,h1,h2⟩:=QE hs
 rw[h] at h1
 have:e=0:=(Option.some.inj h1).symm
 subst this
 rcases h2 with ⟨_,h2⟩|⟨h2,_⟩
 ·exact ⟨hs,h2,h⟩
 ·cases h2
theorem AcA {s:Ad} (hs:Bm s) {d:List Int} (hl:Aa d≤9223372036854775807):(St s∧Bl d∧BQ (s,(d,()))=some (Ex s (BM d).1.2.1 d,0))∨∃y e,BQ (s,(d,()))=some (y,e)∧e≠0:=by
 obtain⟨e,h1,_⟩:=QE hs
 by_cases h0:e=0
 ·subst h0
  have h:=eA hs h1
  rcases OM h hl with ⟨a,b⟩|⟨a,y,b⟩
  ·exact .inl ⟨h,a,b⟩
  ·exact .inr ⟨y,8,b,by decide⟩
 ·obtain⟨y,hy⟩:=QO (d:=d) h1 h0
  exact .inr ⟨y,e,hy,h0⟩
theorem Ae3:DU []=some ([],(-1,0)):=by
 obtain⟨la,h1,h2,h3,_⟩:=AdD (l:=[]) (by simp[Aa])
 have:la = -1:=by
  rw[RT] at h3;omega
 subst this
 exact h1
end Go.Proofs.YtmmkfcpdfnjgjaaGreatDoor
namespace Go.Proofs.YtmmkfcpdfnjgjaaGreatDoor
open Go.Den
theorem AdE {x:AM} (h:Aa (BY x).1≤1000):HQ x=some (E6 (BY x)):=by
 have h':Aa x.2.1.1≤1000:=h
 unfold HQ
 refine AH (fun z:List Int×Int=>z.2) (Aa x.2.1.1) (fun z=>z.1=(E6 x.2.1).take z.2.toNat) (fun R=>R=some (E6 x.2.1)) (by omega) (by simp) (Ar _) rfl (fun z hI i0 i1=>?_) (fun z hI hz=>?_)
 ·obtain⟨l,i⟩:=z
  simp only at hI i0 i1
  obtain⟨w,hw1,_⟩:=Au (l:=x.2.1.1) i0 i1
  have hll:Aa l≤i:=by rw[hI];unfold Aa;rw[List.length_take];omega
  try simp only
  rw[Af _ _ (decide_eq_true i1),Ab _ _ hw1,Af _ _ (Va (by omega)),Ak (i+1) (by omega) (by omega)]
  refine ⟨rfl,?_⟩
  simp only
  have h1:idx (E6 x.2.1) i=some w.1:=by unfold E6;rw[N5,hw1];rfl
  rw[Bw i0] at h1
  rw[hI,show (i+1).toNat=i.toNat+1 by omega,List.take_add_one,h1]
  rfl
 ·obtain⟨l,i⟩:=z
  simp only at hI hz
  have hl:l=E6 x.2.1:=by
   rw[hI]
   refine List.take_of_length_le ?_
   unfold E6;rw[List.length_map]
   unfold Aa at hz;omega
  subst hz hl
  try simp only
  rw[Ag _ _ (decide_eq_false (by omega))]
  rfl
theorem mB {l:List Int} (hl:Aa l≤1000) (h:∀a∈l,a≠4):C7 l=some 0:=by
 unfold C7
 refine AH (fun z:Int×Int=>z.2) (Aa l) (fun z=>z.1=0) (fun R=>R=some 0) (by omega) (by simp) (Ar _) rfl (fun z hI i0 i1=>?_) (fun z hI hz=>?_)
 ·obtain⟨m,i⟩:=z
  simp only at hI i0 i1
  obtain⟨a,ha,ham⟩:=Au i0 i1
  try simp only
  rw[Af _ _ (decide_eq_true i1),Ab _ _ ha,Ag _ _ (by simpa using h a ham),Ak (i+1) (by omega) (by omega)]
  exact ⟨rfl,hI⟩
 ·obtain⟨m,i⟩:=z
  simp only at hI hz
  subst hI
  try simp only
  rw[Ag _ _ (decide_eq_false (by omega))]
  rfl
theorem eR {s:Ad} (h:St s) {now:Aq} (hG:BS s now) {p:Int}:Aa (Cz s now (CH s p))=Aa s.2.1∧∀a∈Cz s now (CH s p),1≤a∧a≤3:=by
 have hw:=hG.may.st.n
 have hl:=GK s p
 refine ⟨LC hw hl,fun a ha=>?_⟩
 have hlo:=hG.may.st.lo
 unfold Cz at ha
 rw[if_neg (by rw[Rt h.so p];simp)] at ha
 split at ha
 ·rw[QR ha];omega
 ·rename_i c
  have hf:now.2.2=false:=by cases hh:now.2.2 with
   |true=>exact absurd (.inl hh) c
   |false=>rfl
  have hI:=dN h.so hG hl hf
  obtain⟨j,hj⟩:=D9 ha
  obtain⟨j0,j1,_⟩:=An hj
  rw[hI.len] at j1
  have:=(dO hG hf hI j0 j1).1
  rw[Df hj] at this
  exact this
theorem yH {s:Ad} {now:Aq} (hG:BS s now):Aa (E6 now)=Aa s.2.1:=by unfold E6;rw[IQ];exact hG.may.st.n
theorem Ab6 {s:Ad} {now:Aq} (hG:BS s now):Ld.HB s (E6 now)=0:=by
 rw[Ld.lightE_ok]
 refine ⟨yH hG,fun a ha=>?_⟩
 unfold E6 at ha
 obtain⟨w,hw,rfl⟩:=List.mem_map.1 ha
 have:=hG.all w hw
 unfold EH at this
 split at this
 ·omega
 ·omega
theorem sU {s:Ad} {now:Aq} {wn:Int} {back:List Int} (hG:BS s now) (hw:0≤wn∧wn≤1048576) (hb:back=[]∨back=E6 now):wnV s now wn back=0:=by
 have hr:Ld.HJ s (E6 now) back=(false,0):=by
  unfold Ld.HJ
  rw[if_neg (by rw[Ab6 hG];simp)]
  rcases hb with e|e
  ·subst e;rw[if_pos (by rfl)]
  ·subst e
   split
   ·rfl
   ·rw[if_neg (by rw[Ab6 hG];simp)];simp
 unfold wnV Ld.R3
 rw[if_neg (show ¬(0:Int)≠0 by simp),if_neg (show ¬(wn<0∨1048576<wn) by omega),hr]
 simp
theorem Af7 {r:BR} {f:DA} (h1:r.2.2=false) (h2:f.2.2.2=true):1≤Bx (r,f):=by
 unfold Bx
 simp only[AT]
 rw[if_neg (by rw[h1,h2];simp)]
 split
 ·decide
 ·split<;>decide
theorem Ae2 {s:Ad} {r:BR} {f:DA} (hr:Ld.IY r) (h0:r.1≠0) (h1:r.2.2=false) (h2:f.2.2.2=true):(CJ (s,(r,f))).1≠0∧(CJ (s,(r,f))).2.2=false:=by
 have hm:=Af7 (r:=r) (f:=f) h1 h2
 have hmo:=hr.mode
 rw[Ld.step_eq s r f hr,if_neg (by rw[h1,h2];simp)]
 split
 ·exact ⟨by simp only;omega,rfl⟩
 ·split
  ·exact ⟨by simp only;omega,rfl⟩
  ·exact ⟨h0,rfl⟩
structure Lit (s:Ad) (x:AM):Prop where
 ok:Fx s x
 up:(LRg x).1≠0
 free:(LRg x).2.2=false
theorem nQ {s:Ad} (h:St s) {x:AM} {ip:Cd} (hx:Lit s x) (hb:ip.2.2.1=[]∨ip.2.2.1=E6 (BY x)) :
 ∃y lights out,Bq (s,(x,ip))=some (y,(lights,(out,0)))∧Lit s y∧(ip.2.2.2.1=false→C7 lights=some 0):=by
 have hG:BS s (BY x):=hx.ok.now
 have hn:=yH hG
 have n2:=h.so.n2
 obtain⟨y,w,asks,lights,out,n1,n2',n3,n4⟩:=Xl h (ip:=ip) hx.ok (by
  rcases hb with e|e
  ·rw[e];simp
  ·rw[e];unfold Aa at hn n2;unfold maxLen;omega)
 refine ⟨y,lights,out,n1,?_⟩
 cases hlost:ip.2.2.2.1 with
 |true =>
  have L:=n3 hlost
  have hr:=NU (BM (LD y)).1.2.1
  refine ⟨⟨n2',?_,?_⟩,fun hh=>by cases hh⟩
  ·rw[L.loc];show (Cg (BM (LD y)).1.2.1).1≠0;rcases hr.2.2 with e|e<;>rw[e]<;>decide
  ·rw[L.loc];exact hr.2.1
 |false =>
  obtain⟨told,well,ups,Rn⟩:=n4 hlost
  have hwn:LWn y=0:=by rw[Rn.wn];exact sU hG hx.ok.wrong hb
  have hfeed:=h.ok.timed.feed
  have hrg:=Ae2 (s:=s) (r:=LRg x) (f:=E9 s (LTd y) (LAg y) (LWn y) (BM (LD y)) ip.2.2.2.2.2.2 well) hx.ok.rung hx.up hx.free (by
   unfold E9
   simp only
   rw[hwn]
   simp;omega)
  rw[←Rn.rg] at hrg
  refine ⟨⟨n2',hrg.1,hrg.2⟩,fun _=>?_⟩
  have hal:=eR h hG (p:=(LQ y).1)
  rw[Rn.lit,Rn.ask.lit hrg.1]
  exact mB (by omega) fun a ha=>by have:=hal.2 a ha;omega
theorem AdB {s:Ad} {d:List Int} {l:List Cd} {no:List Bool} (hs:Bm s) (hl:Aa d≤9223372036854775807):Iv (s,((d,()),(l,no)))=some true:=by
 unfold Iv
 rw[Ab _ _ Tv,Ag (b:=!true) _ _ rfl]
 obtain⟨b,hb1,hb2⟩:=AdU (d:=d) (l:=l) hs
 try simp only
 rw[Ab _ _ hb1]
 cases b with
 |false=>rw[Af (b:=!false) _ _ rfl]
 |true =>
 have hn:=hb2 rfl
 rw[Ag (b:=!true) _ _ rfl]
 rcases AcA (d:=d) hs hl with ⟨h,hd,hf⟩|⟨y,e,hf,he⟩
 rotate_left
 ·rw[Ab _ _ hf,Af _ _ (by simp[he])]
 rw[Ab _ _ hf,Ag _ _ (by rfl)]
 have hr:=NU (BM d).1.2.1
 refine AH (fun z:Int×AM=>z.1) (Aa l) (fun z=>Lit s z.2) (fun R=>R=some true) (by omega) (by simp) (Ar l) ⟨Ps h hd _,by show (Cg (BM d).1.2.1).1≠0;rcases hr.2.2 with e|e<;>rw[e]<;>decide,hr.2.1⟩ (fun z hI i0 i1=>?_) (fun z hI hz=>?_)
 ·obtain⟨i,x⟩:=z
  simp only at hI i0 i1
  obtain⟨ip,hip,him⟩:=Au i0 i1
  have hsh:=AdE (x:=x) (by have:=hI.ok.now.may.st.n;have:=h.so.n2;show Aa x.2.1.1≤1000;omega)
  have hsh':HQ ((x.1.1,()),x.2)=some (E6 (BY x)):=hsh
  have step:∀bk,(bk=[]∨bk=E6 (BY x))→∀R,(∀y lights out,Bq (s,(((x.1.1,()),x.2),(ip.1,(ip.2.1,(bk,ip.2.2.2)))))=some (y,(lights,(out,0)))→(y.2.2.1.1==0)=false→y.2.2.1.2.2=false→(ip.2.2.2.1=false→C7 lights=some 0)→R=Step.next (i+1,((y.1.1,()),y.2)))→C8 (fun z:Int×AM=>z.1) (fun z=>Lit s z.2) (fun R:Option Bool=>R=some true) i R:=fun bk hbk R hR=>by
   obtain⟨y,lights,out,n1,n2,n3⟩:=nQ h (ip:=(ip.1,(ip.2.1,(bk,ip.2.2.2)))) hI hbk
   have:=hR y lights out n1 (by have:=n2.up;simpa using this) n2.free n3
   rw[this]
   exact ⟨rfl,n2⟩
  have hw:=Ak (i+1) (by omega) (by omega)
  have fin:∀(bk:List Int) (y:AM) (lights out:List Int),(y.2.2.1.1==0)=false→y.2.2.1.2.2=false→(ip.2.2.2.1=false→C7 lights=some 0) →
   (cnd (((!((0:Int)==0))||(y.2.2.1.1==0))||y.2.2.1.2.2) (Step.done (some false)) (cnd (!ip.2.2.2.1) (Ae (C7 lights) (Step.done none) (fun x9=>(cnd (decide (0<x9)) (Step.done (some false)) (Step.next ((wr .i64 (i+1)),((y.1.1,()),y.2)))))) (Step.next ((wr .i64 (i+1)),((y.1.1,()),y.2)))))=(Step.next (i+1,((y.1.1,()),y.2)):Step (Int×AM) (Option Bool)):=fun bk y lights out m1 m2 m3=>by
   rw[Ag _ _ (by rw[m1,m2];rfl),hw]
   cases hl:ip.2.2.2.1 with
   |true=>rw[Ag (b:=!true) _ _ rfl]
   |false=>rw[Af (b:=!false) _ _ rfl,Ab _ _ (m3 hl),Ag _ _ (by simp)]
  try simp only
  rw[Af _ _ (decide_eq_true i1),Ab _ _ hip,Ab _ _ hsh']
  by_cases c:i<Aa no
  ·obtain⟨b,hb,_⟩:=Au i0 c
   rw[Af _ _ (decide_eq_true c),Ab _ _ hb]
   cases b with
   |true =>
    rw[Af _ _ rfl]
    refine step [] (.inl rfl) _ fun y lights out n1 m1 m2 m3=>?_
    rw[Ab _ _ n1]
    exact fin [] y lights out m1 m2 m3
   |false =>
    rw[Ag _ _ rfl]
    refine step (E6 (BY x)) (.inr rfl) _ fun y lights out n1 m1 m2 m3=>?_
    rw[Ab _ _ n1]
    exact fin [] y lights out m1 m2 m3
  ·rw[Ag _ _ (decide_eq_false c)]
   refine step (E6 (BY x)) (.inr rfl) _ fun y lights out n1 m1 m2 m3=>?_
   rw[Ab _ _ n1]
   exact fin [] y lights out m1 m2 m3
 ·obtain⟨i,x⟩:=z
  simp only at hz
  try simp only
  rw[Ag _ _ (decide_eq_false (by omega))]
  rfl
end Go.Proofs.YtmmkfcpdfnjgjaaGreatDoor
namespace Go.Proofs.YtmmkfcpdfnjgjaaGreatDoor
open Go.Den
def bJ (s:Ad) (a b m:Int):Prop :=
 (0≤m∧m≤1048576)∧(∀i j,0≤i→i<Aa s.2.1→0≤j→j<Aa s.2.1→i<a∨(i=a∧j<b)→betw s i j≤m)∧(m=0∨∃i j,0≤i∧i<Aa s.2.1∧0≤j∧j<Aa s.2.1∧m=betw s i j)
theorem eQ {s:Ad} (h:SOK s):FV s=some (grt s):=by
 have n1:=h.n1;have n2:=h.n2;have lb:=h.lb
 unfold FV
 refine AH (fun z:Int×Int=>z.2) (Aa s.2.1) (fun z=>bJ s z.2 0 z.1) (fun R=>R=some (grt s)) (by omega) (by simp) (by simp only;omega) ⟨by simp,fun i j i0 i1 j0 j1 hh=>by simp only at hh;omega,.inl rfl⟩ (fun z hI i0 i1=>?_) (fun z hI hz=>?_)
 ·obtain⟨m,a⟩:=z
  simp only at hI i0 i1
  have er:=AI (l:=s.2.2.2.1) i0 (by omega)
  have hrl:=h.rows a _ er
  try simp only
  rw[Af _ _ (decide_eq_true (by omega))]
  refine AH (fun z:Int×Int=>z.2) (Aa s.2.1) (fun z=>bJ s a z.2 z.1) (fun R=>C8 (fun z:Int×Int=>z.2) (fun z=>bJ s z.2 0 z.1) (fun R=>R=some (grt s)) a R) (by omega) (by simp) (by simp only;omega) hI (fun z hI j0 j1=>?_) (fun z hI hz=>?_)
  ·obtain⟨m,b⟩:=z
   simp only at hI j0 j1
   have eb:=AI (l:=el s.2.2.2.1 a) j0 (by omega)
   have hb:=yJ h i0 i1 j0 j1
   obtain⟨k1,k2,k3⟩:=hI
   try simp only
   rw[Ab _ _ er,Af _ _ (decide_eq_true (by omega)),Ab _ _ er,Ab _ _ eb,D7,Ak (b+1) (by omega) (by omega)]
   refine ⟨rfl,?_⟩
   have hv:el (el s.2.2.2.1 a) b=betw s a b:=rfl
   simp only
   rw[hv]
   refine ⟨by omega,fun i j q0 q1 p0 p1 hh=>?_,?_⟩
   ·by_cases e:i=a∧j=b
    ·obtain⟨rfl,rfl⟩:=e;omega
    ·have:=k2 i j q0 q1 p0 p1 (by omega);omega
   ·by_cases e:betw s a b≤m
    ·rw[show max m (betw s a b)=m by omega];exact k3
    ·rw[show max m (betw s a b)=betw s a b by omega]
     exact .inr ⟨a,b,i0,i1,j0,j1,rfl⟩
  ·obtain⟨m,b⟩:=z
   simp only at hI hz
   obtain⟨k1,k2,k3⟩:=hI
   try simp only
   rw[Ab _ _ er,Ag _ _ (decide_eq_false (by omega)),Ak (a+1) (by omega) (by omega)]
   exact ⟨rfl,k1,fun i j q0 q1 p0 p1 hh=>k2 i j q0 q1 p0 p1 (by simp only at hh;omega),k3⟩
 ·obtain⟨m,a⟩:=z
  simp only at hI hz
  obtain⟨k1,k2,k3⟩:=hI
  try simp only
  rw[Ag _ _ (decide_eq_false (by omega))]
  have:Rk s m:=by
   refine ⟨k1.1,k1.2,fun a b a0 a1 b0 b1 _=>k2 a b a0 a1 b0 b1 (by omega),?_⟩
   rcases k3 with e|⟨i,j,q0,q1,p0,p1,e⟩
   ·exact .inl e
   ·by_cases hap:BE s i j=true
    ·exact .inr ⟨i,j,q0,q1,p0,p1,hap,e⟩
    ·exact .inl (by rw[e];exact (h.pair i j q0 q1 p0 p1).2.2 (Bool.eq_false_iff.2 hap))
  rw[AaL this (JM h)]
  rfl
def Gb:List Int:=AQ 256 0
theorem k8:GC ()=some (Gb,()):=by kernel_rfl
theorem Mj:Aa Gb=256:=Bn (by decide) 0
theorem JC:Bl Gb:=⟨by rw[Mj];decide,by rw[Mj];decide,by rw[Mj];decide⟩
theorem eX:BM Gb=((0,(0,[])),190):=by
 have h1:=NN JC
 have h2:D5 (Gb,())=some ((0,(0,[])),190):=by kernel_rfl
 rw[h1] at h2
 exact Option.some.inj h2
def M3 (n:Int):Cd:=([],(n,([],(false,(0,(0,false))))))
structure Still (s:Ad) (x:AM):Prop where
 lit:Lit s x
 rest:LRs x=[]
 fl:(BY x).2.2=false
 st:(BY x).2.1≤grt s
theorem XJ {s:Ad} (h:St s) {d:List Int} (hd:Bl d) (m:Int):Still s (Ex s m d):=by
 have hr:=NU m
 exact ⟨⟨Ps h hd m,by show (Cg m).1≠0;rcases hr.2.2 with e|e<;>rw[e]<;>decide,hr.2.1⟩,rfl,rfl,Int.le_refl _⟩
structure Pj (s:Ad) (x:AM) (n:Int) (y:AM) (asks:List Int) (ups:Int) (well:Bool):Prop where
 still:Still s y
 disk:LD y=LD x
 told:LTd y=LTd x
 now:BY y=BW s (BY x) (LQ y).1
 st:(BY y).2.1=max 0 ((BY x).2.1-1)
 see:YP s (BY x) (LQ x) (M3 n) (LPu x) (LEy x) (LCa x) ups (LCa y)
 pu:LPu y=puV n (LPu x)
 ey:LEy y=Ey.Cu s ups (LEy x)
 rg:LRg y=CJ (s,(LRg x,E9 s (LTd y) (LAg y) 0 (BM (LD y)) false well))
 ask:y8 s (BY x) (LRg y) (LQ x) (LTd y) (LCa y) (LTi x) (BM (LD y)).1 (LQ y) asks
 ti:LTi y=min (LTi x+1) 1073741824
theorem Agy {s:Ad} {now:Aq} {p:Int} (h:St s) (hG:BS s now) (hf:now.2.2=false):(BW s now p).2.2=false∧(BW s now p).2.1=max 0 (now.2.1-1):=by
 have hal:=eR h hG (p:=p)
 have hfl:Cf (Cz s now (CH s p))=false:=by
  apply Bool.eq_false_iff.2
  intro hh
  have n1:=h.so.n1
  have h4:=LJ hh (g:=0) (by omega) (by omega)
  have:=hal.2 _ (lZ (l:=Cz s now (CH s p)) (i:=0) (by omega) (by omega))
  omega
 unfold BW Di
 rw[hfl]
 refine ⟨rfl,?_⟩
 simp only
 rw[if_neg (by simp),if_neg (by rw[hf];simp)]
theorem aL {s:Ad} (h:St s) {x:AM} {n:Int} (hx:Still s x) :
 ∃y lights out asks ups well,Bq (s,(x,M3 n))=some (y,(lights,(out,0)))∧Pj s x n y asks ups well:=by
 have hG:BS s (BY x):=hx.lit.ok.now
 obtain⟨y,w,asks,lights,out,n1,n2,n3,n4⟩:=Xl h (ip:=M3 n) hx.lit.ok (by simp[M3])
 obtain⟨told,well,ups,Rn⟩:=n4 rfl
 obtain⟨y',l',o',m1,m2,_⟩:=nQ h (ip:=M3 n) hx.lit (.inl rfl)
 rw[n1] at m1
 have hyy:y=y':=(Prod.mk.inj (Option.some.inj m1)).1
 subst hyy
 have hall:=Rn.hear.more [] [] (-1) (by rw[hx.rest];rfl) Ae3
 have htold:told=false:=(hall.2.1 rfl).2
 have hw:w=[]:=Rn.puts.2.1 htold
 have hwn:LWn y=0:=by rw[Rn.wn];exact sU hG hx.lit.ok.wrong (.inl rfl)
 have hnow:BY y=BW s (BY x) (LQ y).1:=by
  rw[Rn.now,Rn.lit,Rn.ask.lit m2.up];rfl
 have hst:=Agy (p:=(LQ y).1) h hG hx.fl
 have hx2:=hx.st
 have hg0:=(JM h.so).lo
 refine ⟨y,lights,out,asks,ups,well,n1,⟨m2,by rw[hall.1];rfl,by rw[hnow];exact hst.1,by rw[hnow,hst.2];omega⟩,by rw[Rn.disk,hw];rfl,(Rn.hear.no htold).1,hnow,by rw[hnow];exact hst.2,Rn.see,Rn.pu,Rn.ey,by rw[Rn.rg,hwn];rfl,Rn.ask,Rn.ti⟩
end Go.Proofs.YtmmkfcpdfnjgjaaGreatDoor
namespace Go.Proofs.YtmmkfcpdfnjgjaaGreatDoor
open Go.Den
theorem Ace (l:List Int):∀n:Nat,(List.range n).flatMap (fun (i:Nat)=>AF (Bf l ((i:Int)*48)) 48)=l.take (48*n)
 |0=>by simp
 |n+1=>by
  rw[List.range_succ,List.flatMap_append,Ace l n,show 48*(n+1)=48*n+48 by omega,List.take_add]
  simp only[List.flatMap_cons,List.flatMap_nil,List.append_nil]
  unfold AF Bf
  rw[show ((n:Int)*48).toNat=48*n by omega]
  rfl
theorem zX {k:Bt} {h i:Int} (hf:Aa (Eh k)≤48*h) (i0:0≤i) (i1:i<h):AF (Bf (C3 k h i) 8) 48=AF (Bf (Kn k h) (i*48)) 48:=by
 have hp:=QX hf
 have hd:=Et (l:=Kn k h) (n:=i*48) (by omega) (by omega)
 have ht:=DC (l:=Bf (Kn k h) (i*48)) (n:=48) (by decide) (by omega)
 unfold C3
 rw[Afi (by rw[J2];rfl),kC ht]
theorem Aa6 {k:Bt} {h:Int} (hf:Aa (Eh k)≤48*h) (h0:0≤h):Fw (Cp k h)=Kn k h:=by
 unfold Fw Cp
 rw[List.flatMap_map,List.flatMap_def]
 rw[List.map_congr_left (g:=fun (i:Nat)=>AF (Bf (Kn k h) ((i:Int)*48)) 48) (fun i hi=>zX hf (by omega) (by have:=List.mem_range.1 hi;omega)),←List.flatMap_def,Ace]
 exact List.take_of_length_le (by have:=QX hf;unfold Aa at this;omega)
theorem Ac5 {n:Int} (n0:0≤n) (n1:n<4611686018427387904):B8 (leB 8 n.toNat)=some n:=by
 have h:=Ahz (w:=8) (n:=n.toNat) (by decide) (by decide) (by omega) (by omega)
 unfold B8
 rw[Ab _ _ h]
 simp only
 rw[Int.toNat_of_nonneg n0]
theorem AbD {k:Bt} {h:Int} (hk:Hr k) (h1:1≤h) (h2:h≤32) (hf:Aa (Eh k)≤48*h):AY (Gr (Cp k h))=some (k,(Cp k h,true)):=by
 have hbl:=Kt (k:=k) (h:=h) (by omega)
 have hg:=hk.gen
 have hmo:=hk.mode
 have hb:∀b∈Cp k h,Aa b=64:=fun b hb=>by
  unfold Cp at hb
  obtain⟨i,hi,rfl⟩:=List.mem_map.1 hb
  have hi:=List.mem_range.1 hi
  exact Lq hf (by omega) (by omega)
 have hm:=Aa6 hf (by omega)
 have hml:Aa (Fw (Cp k h))=48*h:=by rw[hm];exact QX hf
 have hil:=Ue hk
 have hpl:=yZ hk
 have hsl:=HF (Aa (Ca k))
 have hsm:=HF k.2.1
 have hps:Aa (smL (Aa (Ca k)))+Aa (Ca k)≤48*h:=by
  have e:Aa (Eh k)=Aa (smL (Aa (Ca k)))+Aa (Ca k):=by unfold Eh;rw[AV]
  omega
 have hpad:Fw (Cp k h)=smL (Aa (Ca k))++(Ca k++AQ (48*h-Aa (Eh k)) 0):=by
  rw[hm];unfold Kn Eh;rw[List.append_assoc]
 have hrl:Aa (Ca k++AQ (48*h-Aa (Eh k)) 0)≤1000000:=by
  rw[AV,Bn (by omega)];omega
 have r1:Dn (Fw (Cp k h))=some (Aa (Ca k),(Aa (smL (Aa (Ca k))),0)):=by
  rw[hpad];exact kF (by omega) (by omega) hrl
 have hin:Ff (Fw (Cp k h)) (Aa (smL (Aa (Ca k)))) (Aa (Ca k))=Ca k:=by
  rw[RV (by omega) (by omega),hpad,lX,kC rfl]
 have q1:Dn (Ca k)=some (k.2.1,(Aa (smL k.2.1),0)):=by
  unfold Ca
  exact kF hmo.1 (by omega) (by have:=VZ k.2.2 hk.n hk.plans;omega)
 have hil2:Aa (Ca k)=Aa (smL k.2.1)+Aa (BP (Hd k.2.2)):=by unfold Ca;rw[AV]
 have hwl:=VZ k.2.2 hk.n hk.plans
 have hpl0:=(Gf (Hd k.2.2)).1
 have hin2:Ff (Fw (Cp k h)) (Aa (smL (Aa (Ca k)))+Aa (smL k.2.1)) (Aa (Ca k)-Aa (smL k.2.1))=BP (Hd k.2.2):=by
  have e0:=(Gf (Hd k.2.2)).1
  rw[RV (by omega) (by omega),hpad]
  have e:smL (Aa (Ca k))++(Ca k++AQ (48*h-Aa (Eh k)) 0)=(smL (Aa (Ca k))++smL k.2.1)++(BP (Hd k.2.2)++AQ (48*h-Aa (Eh k)) 0):=by
   have e2:Ca k=smL k.2.1++BP (Hd k.2.2):=rfl
   rw[e2];simp only[List.append_assoc]
  rw[e,Afi (by rw[AV]),kC (by omega)]
 have p1:=Afp hk.n hk.plans
 have b1:BL ((k.1,(k.2.1,k.2.2)),Aa (Cp k h))=some (Cp k h,0):=by
  obtain⟨b,e,b1,b2⟩:=Rj (k:=k) (h:=h) h1 h2 hmo.1 (fun p hp=>by have:=(hk.plans p hp).c;omega)
  rw[hbl]
  rcases b2 with ⟨rfl,_,_,rfl⟩|⟨_,_,b3⟩
  ·exact b1
  ·exact absurd ⟨hk,hf⟩ b3
 obtain⟨g,m,pl⟩:=k
 simp only at hg hmo hil2 hin2 p1 b1 q1 hsm hwl hpl0
 generalize hbs:Cp (g,(m,pl)) h=bs at *
 unfold AY
 refine oL (bs:=bs) (fun r=>r=some ((g,(m,pl)),(bs,true))) hb (by omega) (fun b i x i0 i1 hbl hx hxl=>?_) ⟨_,Ag _ _ (decide_eq_false (by show ¬Aa bs<Aa bs;omega)),?_⟩
 ·have hd:=Et (l:=x) (n:=8) (by decide) (by omega)
  have ht:=DC (l:=Bf x 8) (n:=48) (by decide) (by omega)
  show cnd (decide (i<Aa bs)) _ _ = _
  rw[Af _ _ (decide_eq_true i1)]
  show Ae (idx bs i) _ _ = _
  rw[Ab _ _ hx,Af _ _ (decide_eq_true (by omega)),Af _ _ (decide_eq_true (by omega)),Af _ _ (Ha (b:=b) (by omega) (by omega)),Ak (i+1) (by omega) (by omega)]
 have hx0:idx bs 0=some (C3 (g,(m,pl)) h 0):=by rw[←hbs];exact MM (by decide) (by omega)
 have hx0l:Aa (C3 (g,(m,pl)) h 0)=64:=Lq hf (by decide) (by omega)
 have ht8:AF (C3 (g,(m,pl)) h 0) 8=leB 8 g.toNat:=by unfold C3;exact kC (by rw[J2];rfl)
 show Ae (idx bs 0) _ _ = _
 rw[Ab _ _ hx0,Af _ _ (decide_eq_true (by omega)),ht8,Ab _ _ (Ac5 (by omega) hg.2),Ab _ _ r1]
 try simp only
 rw[Ak (Aa (Fw bs)-Aa (smL (Aa (Ca (g,(m,pl)))))) (by omega) (by omega),En (n:=Aa (Fw bs)-Aa (smL (Aa (Ca (g,(m,pl)))))) ⟨by omega,by omega⟩,Ag _ _ (by simp;omega),Af _ _ (by simp;omega),Af _ _ (by simp;omega),hin,Ab _ _ q1]
 try simp only
 rw[Ag _ _ (by simp;omega),Af _ _ (by simp;omega),hin2,Ab _ _ p1,Ag _ _ (by rfl)]
 try simp only
 rw[SA m (by omega) (by omega),Ak g (by omega) (by omega)]
 show Ae (BL ((g,(m,pl)),Aa bs)) _ _ = _
 rw[Ab _ _ b1,Ag _ _ (by rfl)]
 try simp only
 refine AH (fun z:Int=>z) (Aa bs) (fun _=>True) (fun r=>r=some ((g,(m,pl)),(bs,true))) (by omega) (by simp) (by omega) trivial (fun i _ i0 i1=>?_) (fun i _ hz=>?_)
 ·obtain⟨y,hy,_⟩:=Au (l:=bs) i0 i1
  rw[Af _ _ (decide_eq_true i1),Ab _ _ hy]
  show C8 _ _ _ _ (Ae (idx bs i) _ _)
  rw[Ab _ _ hy,AJ,YH,Ag _ _ (by rfl),Ak (i+1) (by omega) (by omega)]
  exact ⟨rfl,trivial⟩
 ·have hz:i=Aa bs:=hz
  rw[Ag _ _ (decide_eq_false (by omega))]
  exact rfl
end Go.Proofs.YtmmkfcpdfnjgjaaGreatDoor
namespace Go.Proofs.YtmmkfcpdfnjgjaaGreatDoor
open Go.Den
theorem lA {d s:List Int} {m n:Int} (h:Bl d) (m0:0≤m) (m1:m<D8 d) (n0:0≤n) (n1:n<D8 d) (hs:Aa s≤64):blk (Dy d (m*64) 64 s) n=if n=m then s++Bf (blk d m) (Aa s) else blk d n:=by
 have hm:=H8 h
 have hl:=hm.2.2
 unfold Aa at hs hl
 obtain⟨M,rfl⟩:∃M:Nat,m=M:=⟨m.toNat,by omega⟩
 obtain⟨N,rfl⟩:∃N:Nat,n=N:=⟨n.toNat,by omega⟩
 have e1:(((M:Int)*64).toNat)=M*64:=by omega
 have e2:(((N:Int)*64).toNat)=N*64:=by omega
 have e3:((64:Int).toNat)=64:=rfl
 have hs64:s.take 64=s:=List.take_of_length_le (by omega)
 have hdl:M*64+64≤d.length∧N*64+64≤d.length:=by omega
 unfold blk Dy AF Bf Aa
 rw[e1,e2,e3,hs64,Int.toNat_natCast]
 split
 ·rename_i c
  have c:N=M:=by omega
  subst c
  apply List.ext_getElem?
  intro j
  simp only[List.getElem?_take,List.getElem?_drop,List.getElem?_append,List.length_take,List.length_append]
  rw[show min (N*64) d.length=N*64 by omega]
  by_cases c1:j<64
  ·rw[if_pos c1]
   by_cases c2:j<s.length
   ·rw[if_pos (by omega),if_neg (by omega),if_pos c2,show N*64+j-N*64=j by omega]
   ·rw[if_neg (by omega),if_neg c2,if_pos (by omega)]
    congr 1;omega
  ·rw[if_neg c1,if_neg (by omega),if_neg (by omega)]
 ·rename_i c
  apply List.ext_getElem?
  intro j
  simp only[List.getElem?_take,List.getElem?_drop,List.getElem?_append,List.length_take,List.length_append]
  rw[show min (M*64) d.length=M*64 by omega]
  by_cases c1:j<64
  ·rw[if_pos c1,if_pos c1]
   by_cases c2:N<M
   ·rw[if_pos (by omega),if_pos (by omega),if_pos (by omega)]
   ·rw[if_neg (by omega)]
    congr 1;omega
  ·rw[if_neg c1,if_neg c1]
theorem lV {whole torn:Int} (b:Int) (t0:0≤torn) (t1:torn≤64):∀(l:List CS) (i:Int) (d:List Int),Bl d→0≤b+i→b+i+Aa l≤D8 d→(∀j p,idx l j=some p→p.1=b+i+j∧Aa p.2=64)→∀n,0≤n→n<D8 d →
 blk (doV whole torn i l d) n=if b+i≤n∧n<b+i+Aa l then (if n-b<whole then (el l (n-b-i)).2 else if n-b=whole then AF (el l (n-b-i)).2 torn++Bf (blk d n) torn else blk d n) else blk d n
 |[],i,d,_,_,_,_,n,_,_=>by
  rw[if_neg (by rw[RT];omega)];rfl
 |p::l,i,d,h,h0,h1,hp,n,n0,n1=>by
  have hp0:=hp 0 p (by rfl)
  have hn:=Ar l
  rw[Ft] at h1 ⊢
  have hm:=H8 h
  have hpt:Aa (AF p.2 torn)=torn:=DC t0 (by omega)
  obtain⟨d',hd',hD,hM,hB⟩:∃d',d'=(if i<whole then Dy d (p.1*64) 64 p.2 else if i=whole then Dy d (p.1*64) 64 (AF p.2 torn) else d)∧Bl d'∧D8 d'=D8 d∧∀n,0≤n→n<D8 d→blk d' n=if n=b+i then (if i<whole then p.2 else if i=whole then AF p.2 torn++Bf (blk d n) torn else blk d n) else blk d n:=by
   refine ⟨_,rfl,?_⟩
   have keep:∀s:List Int,Aa s≤64→Bl (Dy d (p.1*64) 64 s)∧D8 (Dy d (p.1*64) 64 s)=D8 d:=fun s _=>by
    have e:Aa (Dy d (p.1*64) 64 s)=Aa d:=Pu (by omega) (by decide) (by omega)
    exact ⟨⟨by rw[e];exact h.lo,by rw[e];exact h.hi,by rw[e];exact h.whole⟩,by unfold D8;rw[e]⟩
   by_cases c1:i<whole
   ·rw[if_pos c1]
    refine ⟨(keep p.2 (by omega)).1,(keep p.2 (by omega)).2,fun n n0 n1=>?_⟩
    rw[lA h (by omega) (by omega) n0 n1 (by omega),if_pos c1]
    by_cases c3:n=b+i
    ·have e:n=p.1:=by omega
     have hb:=bY h n0 n1
     rw[if_pos e,if_pos c3,←e]
     rw[show Bf (blk d n) (Aa p.2)=[] by unfold Bf;exact List.drop_eq_nil_of_le (by unfold Aa at hb hp0 ⊢;omega),List.append_nil]
    ·rw[if_neg (by omega),if_neg c3]
   ·rw[if_neg c1]
    by_cases c2:i=whole
    ·rw[if_pos c2]
     refine ⟨(keep _ (by omega)).1,(keep _ (by omega)).2,fun n n0 n1=>?_⟩
     rw[lA h (by omega) (by omega) n0 n1 (by omega),if_neg c1,if_pos c2,hpt]
     by_cases c3:n=b+i
     ·have e:n=p.1:=by omega
      rw[if_pos e,if_pos c3,←e]
     ·rw[if_neg (by omega),if_neg c3]
    ·rw[if_neg c2]
     refine ⟨h,rfl,fun n n0 n1=>?_⟩
     rw[if_neg c1,if_neg c2];split<;>rfl
  have ih:=lV (whole:=whole) (torn:=torn) b t0 t1 l (i+1) d' hD (by omega) (by omega) (fun j q hq=>by
   have hj:=(An hq).1
   have:=hp (j+1) q (by rw[Bw hj] at hq;rw[Bw (by omega),show (j+1).toNat=j.toNat+1 by omega,List.getElem?_cons_succ];exact hq)
   exact ⟨by omega,this.2⟩) n n0 (by omega)
  rw[doV,←hd',ih]
  by_cases c:n=b+i
  ·subst c
   have e0:el (p::l) (b+i-b-i)=p:=by rw[show b+i-b-i=0 by omega];rfl
   rw[if_neg (by omega),if_pos (by omega),hB _ n0 n1,if_pos rfl,e0,show b+i-b=i by omega]
  ·have e0:∀k,0≤k→el (p::l) (k+1)=el l k:=fun k hk=>by
    unfold el;rw[Bw hk,Bw (by omega),show (k+1).toNat=k.toNat+1 by omega,List.getElem?_cons_succ]
   rw[hB _ n0 n1,if_neg c]
   by_cases c2:b+(i+1)≤n∧n<b+(i+1)+Aa l
   ·have c3:b+i≤n∧n<b+i+(Aa l+1):=by omega
    rw[if_pos c2,if_pos c3,show n-b-i=n-b-(i+1)+1 by omega,e0 _ (by omega)]
   ·have c3:¬(b+i≤n∧n<b+i+(Aa l+1)):=by omega
    rw[if_neg c2,if_neg c3]
theorem U1 {k:Bt} {h t j:Int} {p:CS} (hj:idx (Eb k h t) j=some p):0≤j∧j<h∧p=(t*h+j,C3 k h j):=by
 obtain⟨j0,j1,_⟩:=An hj
 have hh:0≤h:=by
  refine Decidable.byContradiction fun c=>?_
  unfold Eb Aa at j1;rw[show h.toNat=0 by omega] at j1;simp at j1;omega
 rw[Ng hh] at j1
 unfold Eb at hj
 rw[Bw j0,List.getElem?_map,List.getElem?_range (by omega),Option.map_some,Int.toNat_of_nonneg j0] at hj
 exact ⟨j0,j1,(Option.some.inj hj).symm⟩
theorem gM {d:List Int} {i:Int} {bs:List (List Int)} (h:Bl d) (hl:Aa bs=AG d) (hb:∀n,0≤n→n<AG d→idx bs n=some (blk d (i*AG d+n))):EX d i=bs:=by
 have hh:=Hl h
 apply List.ext_getElem?
 intro j
 by_cases c:(j:Int)<AG d
 ·have:=hb j (by omega) c
  rw[Bw (by omega),Int.toNat_natCast] at this
  rw[this]
  unfold EX
  rw[List.getElem?_map,List.getElem?_range (by omega)];rfl
 ·have h1:Aa (EX d i)=AG d:=La h i
  rw[List.getElem?_eq_none (by unfold Aa at h1;omega),List.getElem?_eq_none (by unfold Aa at hl;omega)]
theorem yR {d e:List Int} (h:Aa d=Aa e):AG d=AG e:=by unfold AG D8;rw[h]
theorem lW {d:List Int} {k:Bt} {t u whole torn:Int} (h:Bl d) (hf:Aa (Eh k)≤48*AG d) (ht:t=0∨t=1) (hu:u=0∨u=1) (hne:t≠u) (t0:0≤torn) (t1:torn≤64) :
 EX (doV whole torn 0 (Eb k (AG d) t) d) u=EX d u:=by
 have hh:=Hl h
 have hk:=QF (whole:=whole) (torn:=torn) h (dQ h ht hf)
 have hH:AG (doV whole torn 0 (Eb k (AG d) t) d)=AG d:=yR hk.2
 refine gM hk.1 (by rw[La h,hH]) (fun n n0 n1=>?_)
 rw[hH] at n1 ⊢
 have hpl:Aa (Eb k (AG d) t)=AG d:=Ng (by omega)
 have:=lV (whole:=whole) (torn:=torn) (t*AG d) t0 t1 (Eb k (AG d) t) 0 d h (by rcases ht with rfl|rfl<;>omega) (by rw[hpl];rcases ht with rfl|rfl<;>omega) (fun j p hj=>by
  obtain⟨j0,j1,rfl⟩:=U1 hj
  exact ⟨by simp only;omega,Lq hf j0 j1⟩) (u*AG d+n) (by rcases hu with rfl|rfl<;>omega) (by rcases hu with rfl|rfl<;>omega)
 rw[this,if_neg (by rw[hpl];rcases ht with rfl|rfl<;>rcases hu with rfl|rfl<;>omega)]
 unfold EX
 rw[Bw n0,List.getElem?_map,List.getElem?_range (by omega),Option.map_some,Int.toNat_of_nonneg n0]
theorem AfM {d:List Int} {k:Bt} {t whole torn:Int} (h:Bl d) (hf:Aa (Eh k)≤48*AG d) (ht:t=0∨t=1) (t0:0≤torn) (t1:torn≤64) {n:Int} (n0:0≤n) (n1:n<AG d) :
 blk (doV whole torn 0 (Eb k (AG d) t) d) (t*AG d+n)=if n<whole then C3 k (AG d) n else if n=whole then AF (C3 k (AG d) n) torn++Bf (blk d (t*AG d+n)) torn else blk d (t*AG d+n):=by
 have hh:=Hl h
 have hpl:Aa (Eb k (AG d) t)=AG d:=Ng (by omega)
 have:=lV (whole:=whole) (torn:=torn) (t*AG d) t0 t1 (Eb k (AG d) t) 0 d h (by rcases ht with rfl|rfl<;>omega) (by rw[hpl];rcases ht with rfl|rfl<;>omega) (fun j p hj=>by
  obtain⟨j0,j1,rfl⟩:=U1 hj
  exact ⟨by simp only;omega,Lq hf j0 j1⟩) (t*AG d+n) (by rcases ht with rfl|rfl<;>omega) (by rcases ht with rfl|rfl<;>omega)
 have hel:(el (Eb k (AG d) t) (t*AG d+n-t*AG d-0)).2=C3 k (AG d) n:=by
  obtain⟨p,hp,_⟩:=Au (l:=Eb k (AG d) t) n0 (by omega)
  rw[show t*AG d+n-t*AG d-0=n by omega,Df hp,(U1 hp).2.2]
 rw[this,if_pos (by rw[hpl];omega),hel,show t*AG d+n-t*AG d=n by omega]
theorem AfX {d:List Int} {k:Bt} {t whole torn:Int} (h:Bl d) (hf:Aa (Eh k)≤48*AG d) (ht:t=0∨t=1):Bl (doV whole torn 0 (Eb k (AG d) t) d)∧AG (doV whole torn 0 (Eb k (AG d) t) d)=AG d:=by
 have hk:=QF (whole:=whole) (torn:=torn) h (dQ h ht hf)
 exact ⟨hk.1,yR hk.2⟩
theorem Ag0 {d:List Int} {k:Bt} {t whole torn:Int} (h:Bl d) (hf:Aa (Eh k)≤48*AG d) (ht:t=0∨t=1) (hw:AG d≤whole) (t0:0≤torn) (t1:torn≤64):EX (doV whole torn 0 (Eb k (AG d) t) d) t=Cp k (AG d):=by
 have hh:=Hl h
 obtain⟨hk,hH⟩:=AfX (whole:=whole) (torn:=torn) h hf ht
 refine gM hk (by rw[Kt (by omega),hH]) (fun n n0 n1=>?_)
 rw[hH] at n1 ⊢
 rw[MM n0 n1,AfM h hf ht t0 t1 n0 n1,if_pos (by omega)]
theorem YE {d:List Int} {i:Int} {bs:List (List Int)} (h:EX d i=bs):Cx d i=(AY (Gr bs)).getD (Gr []):=by unfold Cx;rw[h]
theorem AbM (d:List Int):toV d=0∨toV d=1:=by unfold toV;split<;>omega
theorem AeU {d:List Int} {m:Int} {l:List Az} {ps:List CS} (h:Bl d) (hp:NM d m l ps 0):∃r,1≤r∧BM (doV (Aa ps) 0 0 ps d)=((r,(m,l)),0):=by
 have hh:=Hl h
 obtain⟨⟨g1,g2⟩,r,hN,r1,r2,rfl⟩:=hp.good rfl
 have hf:Aa (Eh (r,(m,l)))≤48*AG d:=by rw[yY r 1];exact g2
 have hk:Hr (r,(m,l)):=⟨⟨r1,r2⟩,g1.mode,g1.n,g1.plans⟩
 have hlen:Aa (Eb (r,(m,l)) (AG d) (toV d))=AG d:=Ng (by omega)
 refine ⟨r,r1,?_⟩
 rw[hlen]
 have hT:=Ag0 (whole:=AG d) (torn:=0) h hf (AbM d) (Int.le_refl _) (by decide) (by decide)
 have hS:=YE hT
 rw[AbD hk hh.1 hh.2.1 hf] at hS
 simp only[Option.getD_some] at hS
 generalize hd':doV (AG d) 0 0 (Eb (r,(m,l)) (AG d) (toV d)) d=d' at hT hS
 have hr:=hN.1
 unfold BM ZT
 by_cases ca:Wg d
 ·have et:toV d=1:=by unfold toV;rw[if_pos ca]
  have eb:ML d=(Cx d 0).1.1:=by unfold ML;rw[if_pos ca]
  have ho:Cx d' 0=Cx d 0:=by
   have:=lW (u:=0) (whole:=AG d) (torn:=0) h hf (AbM d) (.inl rfl) (by omega) (by decide) (by decide)
   rw[hd'] at this
   rw[YE this];rfl
  rw[et] at hS
  rw[ho,hS,if_neg (fun hh=>hh.2 ⟨rfl,by simp only;omega⟩),if_pos rfl]
 ·have et:toV d=0:=by unfold toV;rw[if_neg ca]
  have ho:Cx d' 1=Cx d 1:=by
   have:=lW (u:=1) (whole:=AG d) (torn:=0) h hf (AbM d) (.inr rfl) (by omega) (by decide) (by decide)
   rw[hd'] at this
   rw[YE this];rfl
  rw[et] at hS
  rw[ho,hS]
  by_cases cb:(Cx d 1).2.2=true
  ·have eb:ML d=(Cx d 1).1.1:=by unfold ML;rw[if_neg ca,if_pos cb]
   rw[if_pos ⟨rfl,fun hh=>by have:=hh.2;simp only at this;omega⟩]
  ·rw[if_pos ⟨rfl,fun hh=>cb hh.1⟩]
end Go.Proofs.YtmmkfcpdfnjgjaaGreatDoor
namespace Go.Proofs.YtmmkfcpdfnjgjaaGreatDoor
open Go.Den
theorem Ae9 {s:Ad} (h:St s):∃b,Jl s=some b∧(b=true→Pn.Pg s):=by
 have hso:=h.so
 have n1:=hso.n1;have n2:=hso.n2
 have p1:=h.ok.shape.p1;have p2:=h.ok.shape.p2
 have hg:=JM hso
 have hg0:=hg.lo
 unfold Jl
 refine AH (fun k:Int=>k) (Aa s.2.2.2.2.1) (fun k=>∀k',0≤k'→k'<k→grt s<Pn.IS s k'∧∀a,0≤a→a<Aa s.2.1→(el s.2.1 a).2.2<Pn.IS s k') (fun r=>∃b,r=some b∧(b=true→Pn.Pg s)) (by omega) (by simp) (by omega) (fun k' h0 h1=>by omega) (fun k hI k0 k1=>?_) (fun k hI hk=>?_)
 ·have k0:0≤k:=k0
  have k1:k<Aa s.2.2.2.2.1:=k1
  have hph:=AI k0 k1
  have hmin:(el s.2.2.2.2.1 k).2.1=Pn.IS s k:=rfl
  try simp only
  rw[Af _ _ (decide_eq_true k1),Ab _ _ (eQ hso),Ab _ _ hph,hmin]
  by_cases c:Pn.IS s k≤grt s
  ·rw[Af _ _ (decide_eq_true c)]
   exact ⟨false,rfl,fun hh=>by cases hh⟩
  rw[Ag _ _ (decide_eq_false c)]
  refine AH (fun a:Int=>a) (Aa s.2.1) (fun a=>∀a',0≤a'→a'<a→(el s.2.1 a').2.2<Pn.IS s k) _ (by omega) (by simp) (by omega) (fun a' h0 h1=>by omega) (fun a hJ a0 a1=>?_) (fun a hJ ha=>?_)
  ·have a0:0≤a:=a0
   have a1:a<Aa s.2.1:=a1
   try simp only
   rw[Af _ _ (decide_eq_true a1),Ab _ _ (AI a0 a1),Ab _ _ hph,hmin]
   by_cases c:Pn.IS s k≤(el s.2.1 a).2.2
   ·rw[Af _ _ (decide_eq_true c)]
    exact ⟨false,rfl,fun hh=>by cases hh⟩
   ·rw[Ag _ _ (decide_eq_false c),Ak (a+1) (by omega) (by omega)]
    refine ⟨rfl,fun a' h0 h1=>?_⟩
    by_cases e:a'=a
    ·subst e;omega
    ·exact hJ a' h0 (by omega)
  ·have ha:a=Aa s.2.1:=ha
   subst ha
   try simp only
   rw[Ag _ _ (decide_eq_false (by omega)),Ak (k+1) (by omega) (by omega)]
   refine ⟨rfl,fun k' h0 h1=>?_⟩
   by_cases e:k'=k
   ·subst e;exact ⟨by omega,hJ⟩
   ·exact hI k' h0 (by omega)
 ·have hk:k=Aa s.2.2.2.2.1:=hk
  subst hk
  try simp only
  rw[Ag _ _ (decide_eq_false (by omega))]
  refine ⟨true,rfl,fun _=>⟨fun k a k0 k1 a0 a1=>(hI k k0 k1).2 a a0 a1,fun k a b k0 k1 a0 a1 b0 b1=>?_⟩⟩
  have:=(hI k k0 k1).1
  by_cases hap:BE s a b=true
  ·have:=hg.all a b a0 a1 b0 b1 hap;omega
  ·have:=(hso.pair a b a0 a1 b0 b1).2.2 (Bool.eq_false_iff.2 hap);omega
theorem Acl {d x:List Int} {n:Int} (hx:Aa x=64) (hn:n*64+64≤Aa d):Dy d (64*n) (Aa d-64*n) x=Dy d (n*64) 64 x:=by
 unfold Dy
 have e1:x.take (Aa d-64*n).toNat=x:=List.take_of_length_le (by unfold Aa at hx hn ⊢;omega)
 have e2:x.take (64:Int).toNat=x:=List.take_of_length_le (by unfold Aa at hx;simp;omega)
 rw[e1,e2,show 64*n=n*64 by omega]
theorem eW:D8 Gb=4:=by unfold D8;rw[Mj];rfl
theorem AeV {A:Type} {bad:A} {F:Int×List Int×Unit→Step (Int×List Int×Unit) A} {ps:List CS} (P:A→Prop) (hok:Li Gb ps)
 (hF:∀(i:Int) (d:List Int) p,0≤i→i<Aa ps→Aa d=256→idx ps i=some p→F (i,(d,()))=.next (i+1,(Dy d (64*p.1) (Aa d-64*p.1) p.2,())))
 (hK:∃r,F (Aa ps,(doV (Aa ps) 0 0 ps Gb,()))=.done r∧P r):P (iter bad F AE (0,(Gb,()))):=by
 have hn:=Ar ps
 have hm:=hok.m
 refine AH (fun z:Int×List Int×Unit=>z.1) (Aa ps) (fun z=>Aa z.2.1=256∧doV (Aa ps) 0 z.1 (ps.drop z.1.toNat) z.2.1=doV (Aa ps) 0 0 ps Gb) P (by omega) (by simp) hn ⟨Mj,by simp⟩ (fun z hI i0 i1=>?_) (fun z hI hz=>?_)
 ·obtain⟨i,d,u⟩:=z
  obtain⟨g1,g2⟩:=hI
  simp only at i0 i1 g1 g2
  obtain⟨p,hp,hpm⟩:=Au i0 i1
  have hpn:=hok.n p hpm
  have hpd:=hok.d p hpm
  rw[eW] at hpn
  rw[hF i d p i0 i1 g1 hp,Acl hpd (by omega)]
  rw[Gi hp,doV,if_pos (by omega)] at g2
  exact ⟨rfl,by simp only;rw[Pu (by omega) (by decide) (by omega)];exact g1,g2⟩
 ·obtain⟨i,d,u⟩:=z
  obtain⟨g1,g2⟩:=hI
  simp only at hz g1 g2
  subst hz
  rw[show ps.drop (Aa ps).toNat=[] from RE (Int.le_refl _),doV] at g2
  obtain⟨r,hr,hP⟩:=hK
  rw[g2,hr];exact hP
structure Kept (s:Ad) (p:Az) (t m:Int) (x:AM):Prop where
 still:Still s x
 none:LTd x=(0,(0,[]))
 mode:(LRg x).1=2
 disk:∃r,BM (LD x)=((r,(2,p::[])),0)
 tick:LTi x=t
 lo:0≤m
 hi:m≤t
 pl:1≤m→Pl s (BY x)
 at':Pn.AtT s p t m (BY x)
theorem AcP {s:Ad} (h:St s) {p:Az} {t m n:Int} {x:AM} (hp:FB s p) (hsh:Pn.Pg s) (hcy:p.1≤100) (t1:t≤1000000) (hx:Kept s p t m x) :
 ∃y lights out,∃k:Nat,∃u,Bq (s,(x,M3 n))=some (y,(lights,(out,0)))∧(LRg y).1=2∧k<Pn.nV s∧Em (s,(p,t))=some ((k:Int),(u,0))∧CF (s,(p,t))=some ((LQ y).1,0)∧BS s (BY y) ∧
  (Aa s.2.2.2.2.1≤m→(LQ y).1=(k:Int)→Fz s (BY y) k)∧∀m',(m'=if u=0 then (if Dl s (BY y) k=true then m+1 else 0) else m)→Kept s p (t+1) m' y:=by
 obtain⟨y,lights,out,asks,ups,well,n1,G⟩:=aL (n:=n) h hx.still
 obtain⟨r,hr⟩:=hx.disk
 have hlo:=hx.still.lit.ok
 have hfeed:=h.ok.timed.feed
 have hm:=hx.mode
 have hti:=hx.tick
 have hl:=hx.lo;have hh:=hx.hi
 have hd:BM (LD y)=((r,(2,p::[])),0):=by rw[G.disk];exact hr
 have htd:LTd y=(0,(0,[])):=by rw[G.told];exact hx.none
 have hrg:(LRg y).1=2:=by
  have hmay:Bx (LRg x,E9 s (LTd y) (LAg y) 0 (BM (LD y)) false well)=2:=by
   unfold Bx E9
   simp only[AT]
   rw[hd,htd,if_neg (by rw[hx.still.lit.free];simp;omega),if_neg (by simp[DO,Aa]),if_pos (by simp[Aa])]
  rw[G.rg,Ld.step_eq s _ _ hlo.rung,if_neg (by rw[hx.still.lit.free];unfold E9;simp;omega),hmay,if_pos (by rw[hm];omega)]
 obtain⟨p0,e1,e2⟩:=G.ask.stored hrg
 rw[hd] at e1
 have e1:p=p0:=Option.some.inj e1
 subst e1
 rw[Pn.Aeh h.f h.ok hp,hti] at e2
 have N:=Pn.ZU h.f h.ok hp
 obtain⟨k,k1,k2,k3,k4⟩:=UR h hp (t:=t) (by omega) (by omega)
 have hq:(LQ y).1=Pn.HI s p k (Pn.Cj p t-Pn.Dg p k):=by
  rw[e2] at k4
  exact (Prod.mk.inj (Option.some.inj k4)).1
 have hG:BS s (BY x):=hlo.now
 have hGy:BS s (BY y):=G.still.lit.ok.now
 obtain⟨l1,l2⟩:=Pn.AcT h.f h.ok hsh N k1 k2 rfl hcy hG hl hx.pl hx.at'
 rw[←hq,←G.now] at l1 l2
 refine ⟨y,lights,out,k,_,n1,hrg,k1,k3,e2,hGy,l1,fun m' hm'=>?_⟩
 obtain⟨f1,f2,f3⟩:=l2 m' hm'
 refine ⟨G.still,htd,hrg,⟨r,hd⟩,by rw[G.ti,hti];omega,?_,?_,f2,f3⟩
 ·rw[hm'];split
  ·split<;>omega
  ·omega
 ·rw[hm'];split
  ·split<;>omega
  ·omega
theorem Acf {s:Ad} {p:Az} {eyes:List Int} (hs:Bm s) (hpf:Rm p):Iu (s,(p,eyes))=some true:=by
 unfold Iu
 obtain⟨gr,hgr⟩:=Ld.Wj s hs
 rw[Ab _ _ Tv,Ag (b:=!true) _ _ rfl]
 try simp only
 rw[Ab _ _ hgr,AT]
 split
 ·rfl
 rename_i c
 simp only[Bool.or_eq_true,decide_eq_true_eq,not_or,Int.not_lt] at c
 obtain⟨⟨⟨_,_⟩,hcy⟩,hey⟩:=c
 obtain⟨ps,pe,hput,hP⟩:=Afe (d:=Gb) (m:=2) (l:=p::[]) JC (by decide) (fun q hq=>by
  have:q=p:=by simpa using hq
  subst this;exact hpf.1)
 obtain⟨e,h1,h2⟩:=QE hs
 by_cases h0:e=0
 rotate_left
 ·have hsp:∃b,CY (s,p)=some (b,e):=by
   unfold CY
   rw[Ab _ _ h1,Af _ _ (by simp[h0])]
   exact ⟨_,rfl⟩
  obtain⟨b,hb⟩:=hsp
  rw[Ab _ _ hb,Ab _ _ k8,Ab _ _ hput,Af _ _ (by simp[h0])]
 subst h0
 have h:=eA hs h1
 obtain⟨b,b1,b2⟩:=Pn.Sp h.f h.ok h.chk hpf
 rw[Ab _ _ b1,Ab _ _ k8,Ab _ _ hput,AT]
 split
 ·rfl
 rename_i c
 simp only[Bool.or_eq_true,Bool.not_eq_true',beq_eq_false_iff_ne,ne_eq,not_or,Decidable.not_not,Bool.not_eq_false] at c
 have hp:=b2.1 c.1.2
 have hpe:pe=0:=c.2
 subst hpe
 obtain⟨sb,hs1,hs2⟩:=Ae9 h
 rw[Ab _ _ hs1]
 cases sb with
 |false=>rfl
 |true =>
 have hsh:=hs2 rfl
 rw[Ag (b:=!true) _ _ rfl,Af _ _ (by decide)]
 have N:=Pn.ZU h.f h.ok hp
 have cy:=N.cyc
 obtain⟨r,r1,hrd⟩:=AeU JC hP
 have hD:=QF (whole:=Aa ps) (torn:=0) JC hP.ok
 generalize hdd:doV (Aa ps) 0 0 ps Gb=d at hrd hD
 refine AeV (fun R=>R=some true) hP.ok (fun i d' q i0 i1 hd' hq=>?_) ?_
 ·have hqm:=(An hq).2.2
  have hqn:=hP.ok.n q hqm
  rw[eW] at hqn
  have hw:wr .i64 (64*q.1)=64*q.1:=Ak _ (by omega) (by omega)
  try simp only
  rw[Af _ _ (decide_eq_true i1),Ab _ _ hq,hw,Af _ _ (by simp;omega),Ab _ _ hq,Ak (i+1) (by have:=hP.ok.m;omega) (by have:=hP.ok.m;omega)]
 rw[hdd]
 refine ⟨_,Ag _ _ (decide_eq_false (by simp only;omega)),?_⟩
 have hf:BQ (s,(d,()))=some (Ex s 2 d,0):=by
  rcases OM h (d:=d) (by have:=hD.1.hi;omega) with ⟨_,hf⟩|⟨hf,_⟩
  ·rw[hf,hrd]
  ·exact absurd hD.1 hf
 try simp only
 rw[Ab _ _ hf,Ag _ _ (by rfl)]
 show iter _ _ _ _ = some true
 refine AH (fun z:Int×Int×AM=>z.2.1) (4*p.1) (fun z=>Kept s p z.2.1 z.1 z.2.2) (fun R=>R=some true) (by omega) (by simp) (by simp only;omega) ?_ (fun z hI t0 t1=>?_) (fun z hI hz=>?_)
 ·exact ⟨XJ h hD.1 2,rfl,rfl,⟨r,hrd⟩,rfl,by simp,by simp,fun hh=>by simp only at hh;omega,fun k hk hpt=>⟨fun _ j _ _ hc=>by
   obtain⟨i,i1,i2,_⟩:=hc
   simp only at i2
   omega,fun _=>Pn.oJ (by simp)⟩⟩
 ·obtain⟨m,t,x⟩:=z
  simp only at hI t0 t1
  have hl:=hI.lo;have hh:=hI.hi
  have key:∀n,∃y lights out,∃k:Nat,∃u,Bq (s,(((x.1.1,()),x.2),([],(n,([],(false,(0,(0,false))))))))=some (y,(lights,(out,0)))∧y.2.2.1.1=2∧Em (s,(p,t))=some ((k:Int),(u,0))∧CF (s,(p,t))=some (y.2.2.2.1.1,0)∧Ck (s,(y.2.1,(k:Int)))=some (Dl s (BY y) k,0) ∧
   ((decide (Aa s.2.2.2.2.1≤m)&&(y.2.2.2.1.1==(k:Int)))&&!(Dl s (BY y) k))=false∧(u=0→Dl s (BY y) k=true→Kept s p (t+1) (m+1) y)∧(u=0→Dl s (BY y) k=false→Kept s p (t+1) 0 y)∧(u≠0→Kept s p (t+1) m y):=fun n=>by
   obtain⟨y,lights,out,k,u,n1,n2,n3,n4,n5,n6,n7,n8⟩:=AcP (n:=n) h hp hsh (by omega) (by omega) hI
   have hnl:((Pn.nV s:Nat):Int)=Aa s.2.2.2.2.1:=rfl
   have hfull:Ly 0 s y.2.1 k=(Dl s (BY y) k,0):=by
    unfold Ly
    rw[if_neg (by simp),if_neg (by rw[show y.2.1=BY y from rfl,n6.may.st.n];simp),if_neg (by omega)]
   refine ⟨y,lights,out,k,u,n1,n2,n4,n5,by rw[Tm h.f (fun _=>h.so) h.chk,hfull],?_,fun hu hf=>n8 _ (by rw[if_pos hu,if_pos hf]),fun hu hf=>n8 _ (by rw[if_pos hu,if_neg (by rw[hf];simp)]),fun hu=>n8 _ (by rw[if_neg hu])⟩
   apply Bool.eq_false_iff.2
   intro hh
   simp only[Bool.and_eq_true,decide_eq_true_eq,beq_iff_eq,Bool.not_eq_true'] at hh
   exact fullB_not.1 hh.2 (n7 hh.1.1 hh.1.2)
  have hwt:wr .i64 (t+1)=t+1:=Ak _ (by omega) (by omega)
  have hwm:wr .i64 (m+1)=m+1:=Ak _ (by omega) (by omega)
  try simp only
  rw[Ak (4*p.1) (by omega) (by omega),Af _ _ (decide_eq_true t1)]
  by_cases ce:0<Aa eyes
  ·have hix:=AI (l:=eyes) (i:=Gm t (Aa eyes)) (Int.tmod_nonneg _ t0) (Int.tmod_lt_of_pos _ ce)
   obtain⟨y,lights,out,k,u,n1,n2,n3,n4,n5,n6,n7,n8,n9⟩:=key (el eyes (Gm t (Aa eyes)))
   rw[Af _ _ (decide_eq_true ce),Af _ _ (by simp;omega),Ab _ _ hix,Ab _ _ n1,Ab _ _ n3,Ab _ _ n4,Ab _ _ n5,Ag _ _ (by simp[n2])]
   try simp only
   rw[hwt,hwm,n6]
   by_cases cu:u=0
   ·rw[Af _ _ (by simp[cu])]
    cases hfu:Dl s (BY y) k with
    |true=>exact ⟨rfl,n7 cu hfu⟩
    |false=>exact ⟨rfl,n8 cu hfu⟩
   ·rw[Ag (b:=u==0) _ _ (by simpa using cu)]
    exact ⟨rfl,n9 cu⟩
  ·obtain⟨y,lights,out,k,u,n1,n2,n3,n4,n5,n6,n7,n8,n9⟩:=key 0
   rw[Ag _ _ (decide_eq_false ce),Ab _ _ n1,Ab _ _ n3,Ab _ _ n4,Ab _ _ n5,Ag _ _ (by simp[n2])]
   try simp only
   rw[hwt,hwm,n6]
   by_cases cu:u=0
   ·rw[Af _ _ (by simp[cu])]
    cases hfu:Dl s (BY y) k with
    |true=>exact ⟨rfl,n7 cu hfu⟩
    |false=>exact ⟨rfl,n8 cu hfu⟩
   ·rw[Ag (b:=u==0) _ _ (by simpa using cu)]
    exact ⟨rfl,n9 cu⟩
 ·obtain⟨m,t,x⟩:=z
  simp only at hz
  subst hz
  try simp only
  rw[Ak (4*p.1) (by omega) (by omega),Ag _ _ (decide_eq_false (by omega))]
  exact rfl
end Go.Proofs.YtmmkfcpdfnjgjaaGreatDoor
namespace Go.Proofs.YtmmkfcpdfnjgjaaGreatDoor
open Go.Den
theorem sJ (x:Ad×Az×List Int) (hf:I8 [Ai,Cc,PR] x):Iu x=some true:=by
 obtain⟨s,p,ey⟩:=x
 exact Acf (Abz hf.1) ⟨hf.2.1.1,hf.2.1.2.2.1,fun m hm=>hf.2.1.2.2.2 m hm⟩
end Go.Proofs.YtmmkfcpdfnjgjaaGreatDoor
