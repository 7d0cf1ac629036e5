/- Part of a proof: plain readings of Go functions, their contracts, or plain facts of them. -/
import Derived.Test.YtmmkfcpdfnjgjaaGreatDoorTp3
namespace Go.Proofs.YtmmkfcpdfnjgjaaGreatDoor
open Go.Den
theorem Tv:FU ()=some true:=by kernel_rfl
theorem Ahg {l:List Cd} (hl:Aa l≤200):∃n,Ie l=some n:=by
 unfold Ie
 refine AH (fun z:Int×Int=>z.2) (Aa l) (fun _=>True) (fun R=>∃n,R=some n) (by omega) (by simp) (Ar l) trivial (fun z _ i0 i1=>?_) (fun z _ hz=>?_)
 ·obtain⟨m,i⟩:=z
  simp only at i0 i1
  obtain⟨x,hx,_⟩:=Au i0 i1
  try simp only
  rw[Af _ _ (decide_eq_true i1),Ab _ _ hx,Ab _ _ hx,Ak (i+1) (by omega) (by omega)]
  exact ⟨rfl,trivial⟩
 ·obtain⟨m,i⟩:=z
  simp only at hz
  try simp only
  rw[Ag _ _ (decide_eq_false (by omega))]
  exact ⟨m,rfl⟩
theorem AdU {s:Ad} (hs:Bm s) {d:List Int} {l:List Cd}:∃b,Kh (s,((d,()),l))=some b∧(b=true→Aa l≤200):=by
 obtain⟨g,hg⟩:=Ld.Wj s hs
 unfold Kh
 rw[Ab _ _ hg,AT]
 split
 ·rename_i c
  simp only[Bool.and_eq_true,decide_eq_true_eq] at c
  obtain⟨n,hn⟩:=Ahg (l:=l) c.2
  rw[Ab _ _ hn]
  exact ⟨_,rfl,fun _=>c.2⟩
 ·exact ⟨_,rfl,fun h=>by cases h⟩
theorem eA {s:Ad} (hs:Bm s) (h:Aw s=some 0):St s:=by
 obtain⟨e,h1,h2⟩:=QE hs
 rw[h] at h1
 have:e=0:=(Option.some.inj h1).symm
 subst this
 rcases h2 with ⟨_,h2⟩|⟨h2,_⟩
 ·exact ⟨hs,h2,h⟩
 ·cases h2
theorem AcA {s:Ad} (hs:Bm s) {d:List Int} (hl:Aa d≤9223372036854775807):(St s∧Bl d∧BQ (s,(d,()))=some (Ex s (BM d).1.2.1 d,0))∨∃y e,BQ (s,(d,()))=some (y,e)∧e≠0:=by
 obtain⟨e,h1,_⟩:=QE hs
 by_cases h0:e=0
 ·subst h0
  have h:=eA hs h1
  rcases OM h hl with ⟨a,b⟩|⟨a,y,b⟩
  ·exact .inl ⟨h,a,b⟩
  ·exact .inr ⟨y,8,b,by decide⟩
 ·obtain⟨y,hy⟩:=QO (d:=d) h1 h0
  exact .inr ⟨y,e,hy,h0⟩
theorem Ae3:DU []=some ([],(-1,0)):=by
 obtain⟨la,h1,h2,h3,_⟩:=AdD (l:=[]) (by simp[Aa])
 have:la = -1:=by
  rw[RT] at h3;omega
 subst this
 exact h1
end Go.Proofs.YtmmkfcpdfnjgjaaGreatDoor
namespace Go.Proofs.YtmmkfcpdfnjgjaaGreatDoor
open Go.Den
theorem AdE {x:AM} (h:Aa (BY x).1≤1000):HQ x=some (E6 (BY x)):=by
 have h':Aa x.2.1.1≤1000:=h
 unfold HQ
 refine AH (fun z:List Int×Int=>z.2) (Aa x.2.1.1) (fun z=>z.1=(E6 x.2.1).take z.2.toNat) (fun R=>R=some (E6 x.2.1)) (by omega) (by simp) (Ar _) rfl (fun z hI i0 i1=>?_) (fun z hI hz=>?_)
 ·obtain⟨l,i⟩:=z
  simp only at hI i0 i1
  obtain⟨w,hw1,_⟩:=Au (l:=x.2.1.1) i0 i1
  have hll:Aa l≤i:=by rw[hI];unfold Aa;rw[List.length_take];omega
  try simp only
  rw[Af _ _ (decide_eq_true i1),Ab _ _ hw1,Af _ _ (Va (by omega)),Ak (i+1) (by omega) (by omega)]
  refine ⟨rfl,?_⟩
  simp only
  have h1:idx (E6 x.2.1) i=some w.1:=by unfold E6;rw[N5,hw1];rfl
  rw[Bw i0] at h1
  rw[hI,show (i+1).toNat=i.toNat+1 by omega,List.take_add_one,h1]
  rfl
 ·obtain⟨l,i⟩:=z
  simp only at hI hz
  have hl:l=E6 x.2.1:=by
   rw[hI]
   refine List.take_of_length_le ?_
   unfold E6;rw[List.length_map]
   unfold Aa at hz;omega
  subst hz hl
  try simp only
  rw[Ag _ _ (decide_eq_false (by omega))]
  rfl
theorem mB {l:List Int} (hl:Aa l≤1000) (h:∀a∈l,a≠4):C7 l=some 0:=by
 unfold C7
 refine AH (fun z:Int×Int=>z.2) (Aa l) (fun z=>z.1=0) (fun R=>R=some 0) (by omega) (by simp) (Ar _) rfl (fun z hI i0 i1=>?_) (fun z hI hz=>?_)
 ·obtain⟨m,i⟩:=z
  simp only at hI i0 i1
  obtain⟨a,ha,ham⟩:=Au i0 i1
  try simp only
  rw[Af _ _ (decide_eq_true i1),Ab _ _ ha,Ag _ _ (by simpa using h a ham),Ak (i+1) (by omega) (by omega)]
  exact ⟨rfl,hI⟩
 ·obtain⟨m,i⟩:=z
  simp only at hI hz
  subst hI
  try simp only
  rw[Ag _ _ (decide_eq_false (by omega))]
  rfl
theorem eR {s:Ad} (h:St s) {now:Aq} (hG:BS s now) {p:Int}:Aa (Cz s now (CH s p))=Aa s.2.1∧∀a∈Cz s now (CH s p),1≤a∧a≤3:=by
 have hw:=hG.may.st.n
 have hl:=GK s p
 refine ⟨LC hw hl,fun a ha=>?_⟩
 have hlo:=hG.may.st.lo
 unfold Cz at ha
 rw[if_neg (by rw[Rt h.so p];simp)] at ha
 split at ha
 ·rw[QR ha];omega
 ·rename_i c
  have hf:now.2.2=false:=by cases hh:now.2.2 with
   |true=>exact absurd (.inl hh) c
   |false=>rfl
  have hI:=dN h.so hG hl hf
  obtain⟨j,hj⟩:=D9 ha
  obtain⟨j0,j1,_⟩:=An hj
  rw[hI.len] at j1
  have:=(dO hG hf hI j0 j1).1
  rw[Df hj] at this
  exact this
theorem yH {s:Ad} {now:Aq} (hG:BS s now):Aa (E6 now)=Aa s.2.1:=by unfold E6;rw[IQ];exact hG.may.st.n
theorem Ab6 {s:Ad} {now:Aq} (hG:BS s now):Ld.HB s (E6 now)=0:=by
 rw[Ld.lightE_ok]
 refine ⟨yH hG,fun a ha=>?_⟩
 unfold E6 at ha
 obtain⟨w,hw,rfl⟩:=List.mem_map.1 ha
 have:=hG.all w hw
 unfold EH at this
 split at this
 ·omega
 ·omega
theorem sU {s:Ad} {now:Aq} {wn:Int} {back:List Int} (hG:BS s now) (hw:0≤wn∧wn≤1048576) (hb:back=[]∨back=E6 now):wnV s now wn back=0:=by
 have hr:Ld.HJ s (E6 now) back=(false,0):=by
  unfold Ld.HJ
  rw[if_neg (by rw[Ab6 hG];simp)]
  rcases hb with e|e
  ·subst e;rw[if_pos (by rfl)]
  ·subst e
   split
   ·rfl
   ·rw[if_neg (by rw[Ab6 hG];simp)];simp
 unfold wnV Ld.R3
 rw[if_neg (show ¬(0:Int)≠0 by simp),if_neg (show ¬(wn<0∨1048576<wn) by omega),hr]
 simp
theorem Af7 {r:BR} {f:DA} (h1:r.2.2=false) (h2:f.2.2.2=true):1≤Bx (r,f):=by
 unfold Bx
 simp only[AT]
 rw[if_neg (by rw[h1,h2];simp)]
 split
 ·decide
 ·split<;>decide
theorem Ae2 {s:Ad} {r:BR} {f:DA} (hr:Ld.IY r) (h0:r.1≠0) (h1:r.2.2=false) (h2:f.2.2.2=true):(CJ (s,(r,f))).1≠0∧(CJ (s,(r,f))).2.2=false:=by
 have hm:=Af7 (r:=r) (f:=f) h1 h2
 have hmo:=hr.mode
 rw[Ld.step_eq s r f hr,if_neg (by rw[h1,h2];simp)]
 split
 ·exact ⟨by simp only;omega,rfl⟩
 ·split
  ·exact ⟨by simp only;omega,rfl⟩
  ·exact ⟨h0,rfl⟩
structure Lit (s:Ad) (x:AM):Prop where
 ok:Fx s x
 up:(LRg x).1≠0
 free:(LRg x).2.2=false
theorem nQ {s:Ad} (h:St s) {x:AM} {ip:Cd} (hx:Lit s x) (hb:ip.2.2.1=[]∨ip.2.2.1=E6 (BY x)) :
 ∃y lights out,Bq (s,(x,ip))=some (y,(lights,(out,0)))∧Lit s y∧(ip.2.2.2.1=false→C7 lights=some 0):=by
 have hG:BS s (BY x):=hx.ok.now
 have hn:=yH hG
 have n2:=h.so.n2
 obtain⟨y,w,asks,lights,out,n1,n2',n3,n4⟩:=Xl h (ip:=ip) hx.ok (by
  rcases hb with e|e
  ·rw[e];simp
  ·rw[e];unfold Aa at hn n2;unfold maxLen;omega)
 refine ⟨y,lights,out,n1,?_⟩
 cases hlost:ip.2.2.2.1 with
 |true =>
  have L:=n3 hlost
  have hr:=NU (BM (LD y)).1.2.1
  refine ⟨⟨n2',?_,?_⟩,fun hh=>by cases hh⟩
  ·rw[L.loc];show (Cg (BM (LD y)).1.2.1).1≠0;rcases hr.2.2 with e|e<;>rw[e]<;>decide
  ·rw[L.loc];exact hr.2.1
 |false =>
  obtain⟨told,well,ups,Rn⟩:=n4 hlost
  have hwn:LWn y=0:=by rw[Rn.wn];exact sU hG hx.ok.wrong hb
  have hfeed:=h.ok.timed.feed
  have hrg:=Ae2 (s:=s) (r:=LRg x) (f:=E9 s (LTd y) (LAg y) (LWn y) (BM (LD y)) ip.2.2.2.2.2.2 well) hx.ok.rung hx.up hx.free (by
   unfold E9
   simp only
   rw[hwn]
   simp;omega)
  rw[←Rn.rg] at hrg
  refine ⟨⟨n2',hrg.1,hrg.2⟩,fun _=>?_⟩
  have hal:=eR h hG (p:=(LQ y).1)
  rw[Rn.lit,Rn.ask.lit hrg.1]
  exact mB (by omega) fun a ha=>by have:=hal.2 a ha;omega
theorem AdB {s:Ad} {d:List Int} {l:List Cd} {no:List Bool} (hs:Bm s) (hl:Aa d≤9223372036854775807):Iv (s,((d,()),(l,no)))=some true:=by
 unfold Iv
 rw[Ab _ _ Tv,Ag (b:=!true) _ _ rfl]
 obtain⟨b,hb1,hb2⟩:=AdU (d:=d) (l:=l) hs
 try simp only
 rw[Ab _ _ hb1]
 cases b with
 |false=>rw[Af (b:=!false) _ _ rfl]
 |true =>
 have hn:=hb2 rfl
 rw[Ag (b:=!true) _ _ rfl]
 rcases AcA (d:=d) hs hl with ⟨h,hd,hf⟩|⟨y,e,hf,he⟩
 rotate_left
 ·rw[Ab _ _ hf,Af _ _ (by simp[he])]
 rw[Ab _ _ hf,Ag _ _ (by rfl)]
 have hr:=NU (BM d).1.2.1
 refine AH (fun z:Int×AM=>z.1) (Aa l) (fun z=>Lit s z.2) (fun R=>R=some true) (by omega) (by simp) (Ar l) ⟨Ps h hd _,by show (Cg (BM d).1.2.1).1≠0;rcases hr.2.2 with e|e<;>rw[e]<;>decide,hr.2.1⟩ (fun z hI i0 i1=>?_) (fun z hI hz=>?_)
 ·obtain⟨i,x⟩:=z
  simp only at hI i0 i1
  obtain⟨ip,hip,him⟩:=Au i0 i1
  have hsh:=AdE (x:=x) (by have:=hI.ok.now.may.st.n;have:=h.so.n2;show Aa x.2.1.1≤1000;omega)
  have hsh':HQ ((x.1.1,()),x.2)=some (E6 (BY x)):=hsh
  have step:∀bk,(bk=[]∨bk=E6 (BY x))→∀R,(∀y lights out,Bq (s,(((x.1.1,()),x.2),(ip.1,(ip.2.1,(bk,ip.2.2.2)))))=some (y,(lights,(out,0)))→(y.2.2.1.1==0)=false→y.2.2.1.2.2=false→(ip.2.2.2.1=false→C7 lights=some 0)→R=Step.next (i+1,((y.1.1,()),y.2)))→C8 (fun z:Int×AM=>z.1) (fun z=>Lit s z.2) (fun R:Option Bool=>R=some true) i R:=fun bk hbk R hR=>by
   obtain⟨y,lights,out,n1,n2,n3⟩:=nQ h (ip:=(ip.1,(ip.2.1,(bk,ip.2.2.2)))) hI hbk
   have:=hR y lights out n1 (by have:=n2.up;simpa using this) n2.free n3
   rw[this]
   exact ⟨rfl,n2⟩
  have hw:=Ak (i+1) (by omega) (by omega)
  have fin:∀(bk:List Int) (y:AM) (lights out:List Int),(y.2.2.1.1==0)=false→y.2.2.1.2.2=false→(ip.2.2.2.1=false→C7 lights=some 0) →
   (cnd (((!((0:Int)==0))||(y.2.2.1.1==0))||y.2.2.1.2.2) (Step.done (some false)) (cnd (!ip.2.2.2.1) (Ae (C7 lights) (Step.done none) (fun x9=>(cnd (decide (0<x9)) (Step.done (some false)) (Step.next ((wr .i64 (i+1)),((y.1.1,()),y.2)))))) (Step.next ((wr .i64 (i+1)),((y.1.1,()),y.2)))))=(Step.next (i+1,((y.1.1,()),y.2)):Step (Int×AM) (Option Bool)):=fun bk y lights out m1 m2 m3=>by
   rw[Ag _ _ (by rw[m1,m2];rfl),hw]
   cases hl:ip.2.2.2.1 with
   |true=>rw[Ag (b:=!true) _ _ rfl]
   |false=>rw[Af (b:=!false) _ _ rfl,Ab _ _ (m3 hl),Ag _ _ (by simp)]
  try simp only
  rw[Af _ _ (decide_eq_true i1),Ab _ _ hip,Ab _ _ hsh']
  by_cases c:i<Aa no
  ·obtain⟨b,hb,_⟩:=Au i0 c
   rw[Af _ _ (decide_eq_true c),Ab _ _ hb]
   cases b with
   |true =>
    rw[Af _ _ rfl]
    refine step [] (.inl rfl) _ fun y lights out n1 m1 m2 m3=>?_
    rw[Ab _ _ n1]
    exact fin [] y lights out m1 m2 m3
   |false =>
    rw[Ag _ _ rfl]
    refine step (E6 (BY x)) (.inr rfl) _ fun y lights out n1 m1 m2 m3=>?_
    rw[Ab _ _ n1]
    exact fin [] y lights out m1 m2 m3
  ·rw[Ag _ _ (decide_eq_false c)]
   refine step (E6 (BY x)) (.inr rfl) _ fun y lights out n1 m1 m2 m3=>?_
   rw[Ab _ _ n1]
   exact fin [] y lights out m1 m2 m3
 ·obtain⟨i,x⟩:=z
  simp only at hz
  try simp only
  rw[Ag _ _ (decide_eq_false (by omega))]
  rfl
end Go.Proofs.YtmmkfcpdfnjgjaaGreatDoor
namespace Go.Proofs.YtmmkfcpdfnjgjaaGreatDoor
open Go.Den
def bJ (s:Ad) (a b m:Int):Prop :=
 (0≤m∧m≤1048576)∧(∀i j,0≤i→i<Aa s.2.1→0≤j→j<Aa s.2.1→i<a∨(i=a∧j<b)→betw s i j≤m)∧(m=0∨∃i j,0≤i∧i<Aa s.2.1∧0≤j∧j<Aa s.2.1∧m=betw s i j)
theorem eQ {s:Ad} (h:SOK s):FV s=some (grt s):=by
 have n1:=h.n1;have n2:=h.n2;have lb:=h.lb
 unfold FV
 refine AH (fun z:Int×Int=>z.2) (Aa s.2.1) (fun z=>bJ s z.2 0 z.1) (fun R=>R=some (grt s)) (by omega) (by simp) (by simp only;omega) ⟨by simp,fun i j i0 i1 j0 j1 hh=>by simp only at hh;omega,.inl rfl⟩ (fun z hI i0 i1=>?_) (fun z hI hz=>?_)
 ·obtain⟨m,a⟩:=z
  simp only at hI i0 i1
  have er:=AI (l:=s.2.2.2.1) i0 (by omega)
  have hrl:=h.rows a _ er
  try simp only
  rw[Af _ _ (decide_eq_true (by omega))]
  refine AH (fun z:Int×Int=>z.2) (Aa s.2.1) (fun z=>bJ s a z.2 z.1) (fun R=>C8 (fun z:Int×Int=>z.2) (fun z=>bJ s z.2 0 z.1) (fun R=>R=some (grt s)) a R) (by omega) (by simp) (by simp only;omega) hI (fun z hI j0 j1=>?_) (fun z hI hz=>?_)
  ·obtain⟨m,b⟩:=z
   simp only at hI j0 j1
   have eb:=AI (l:=el s.2.2.2.1 a) j0 (by omega)
   have hb:=yJ h i0 i1 j0 j1
   obtain⟨k1,k2,k3⟩:=hI
   try simp only
   rw[Ab _ _ er,Af _ _ (decide_eq_true (by omega)),Ab _ _ er,Ab _ _ eb,D7,Ak (b+1) (by omega) (by omega)]
   refine ⟨rfl,?_⟩
   have hv:el (el s.2.2.2.1 a) b=betw s a b:=rfl
   simp only
   rw[hv]
   refine ⟨by omega,fun i j q0 q1 p0 p1 hh=>?_,?_⟩
   ·by_cases e:i=a∧j=b
    ·obtain⟨rfl,rfl⟩:=e;omega
    ·have:=k2 i j q0 q1 p0 p1 (by omega);omega
   ·by_cases e:betw s a b≤m
    ·rw[show max m (betw s a b)=m by omega];exact k3
    ·rw[show max m (betw s a b)=betw s a b by omega]
     exact .inr ⟨a,b,i0,i1,j0,j1,rfl⟩
  ·obtain⟨m,b⟩:=z
   simp only at hI hz
   obtain⟨k1,k2,k3⟩:=hI
   try simp only
   rw[Ab _ _ er,Ag _ _ (decide_eq_false (by omega)),Ak (a+1) (by omega) (by omega)]
   exact ⟨rfl,k1,fun i j q0 q1 p0 p1 hh=>k2 i j q0 q1 p0 p1 (by simp only at hh;omega),k3⟩
 ·obtain⟨m,a⟩:=z
  simp only at hI hz
  obtain⟨k1,k2,k3⟩:=hI
  try simp only
  rw[Ag _ _ (decide_eq_false (by omega))]
  have:Rk s m:=by
   refine ⟨k1.1,k1.2,fun a b a0 a1 b0 b1 _=>k2 a b a0 a1 b0 b1 (by omega),?_⟩
   rcases k3 with e|⟨i,j,q0,q1,p0,p1,e⟩
   ·exact .inl e
   ·by_cases hap:BE s i j=true
    ·exact .inr ⟨i,j,q0,q1,p0,p1,hap,e⟩
    ·exact .inl (by rw[e];exact (h.pair i j q0 q1 p0 p1).2.2 (Bool.eq_false_iff.2 hap))
  rw[AaL this (JM h)]
  rfl
def Gb:List Int:=AQ 256 0
theorem k8:GC ()=some (Gb,()):=by kernel_rfl
theorem Mj:Aa Gb=256:=Bn (by decide) 0
theorem JC:Bl Gb:=⟨by rw[Mj];decide,by rw[Mj];decide,by rw[Mj];decide⟩
theorem eX:BM Gb=((0,(0,[])),190):=by
 have h1:=NN JC
 have h2:D5 (Gb,())=some ((0,(0,[])),190):=by kernel_rfl
 rw[h1] at h2
 exact Option.some.inj h2
def M3 (n:Int):Cd:=([],(n,([],(false,(0,(0,false))))))
structure Still (s:Ad) (x:AM):Prop where
 lit:Lit s x
 rest:LRs x=[]
 fl:(BY x).2.2=false
 st:(BY x).2.1≤grt s
theorem XJ {s:Ad} (h:St s) {d:List Int} (hd:Bl d) (m:Int):Still s (Ex s m d):=by
 have hr:=NU m
 exact ⟨⟨Ps h hd m,by show (Cg m).1≠0;rcases hr.2.2 with e|e<;>rw[e]<;>decide,hr.2.1⟩,rfl,rfl,Int.le_refl _⟩
structure Pj (s:Ad) (x:AM) (n:Int) (y:AM) (asks:List Int) (ups:Int) (well:Bool):Prop where
 still:Still s y
 disk:LD y=LD x
 told:LTd y=LTd x
 now:BY y=BW s (BY x) (LQ y).1
 st:(BY y).2.1=max 0 ((BY x).2.1-1)
 see:YP s (BY x) (LQ x) (M3 n) (LPu x) (LEy x) (LCa x) ups (LCa y)
 pu:LPu y=puV n (LPu x)
 ey:LEy y=Ey.Cu s ups (LEy x)
 rg:LRg y=CJ (s,(LRg x,E9 s (LTd y) (LAg y) 0 (BM (LD y)) false well))
 ask:y8 s (BY x) (LRg y) (LQ x) (LTd y) (LCa y) (LTi x) (BM (LD y)).1 (LQ y) asks
 ti:LTi y=min (LTi x+1) 1073741824
theorem Agy {s:Ad} {now:Aq} {p:Int} (h:St s) (hG:BS s now) (hf:now.2.2=false):(BW s now p).2.2=false∧(BW s now p).2.1=max 0 (now.2.1-1):=by
 have hal:=eR h hG (p:=p)
 have hfl:Cf (Cz s now (CH s p))=false:=by
  apply Bool.eq_false_iff.2
  intro hh
  have n1:=h.so.n1
  have h4:=LJ hh (g:=0) (by omega) (by omega)
  have:=hal.2 _ (lZ (l:=Cz s now (CH s p)) (i:=0) (by omega) (by omega))
  omega
 unfold BW Di
 rw[hfl]
 refine ⟨rfl,?_⟩
 simp only
 rw[if_neg (by simp),if_neg (by rw[hf];simp)]
theorem aL {s:Ad} (h:St s) {x:AM} {n:Int} (hx:Still s x) :
 ∃y lights out asks ups well,Bq (s,(x,M3 n))=some (y,(lights,(out,0)))∧Pj s x n y asks ups well:=by
 have hG:BS s (BY x):=hx.lit.ok.now
 obtain⟨y,w,asks,lights,out,n1,n2,n3,n4⟩:=Xl h (ip:=M3 n) hx.lit.ok (by simp[M3])
 obtain⟨told,well,ups,Rn⟩:=n4 rfl
 obtain⟨y',l',o',m1,m2,_⟩:=nQ h (ip:=M3 n) hx.lit (.inl rfl)
 rw[n1] at m1
 have hyy:y=y':=(Prod.mk.inj (Option.some.inj m1)).1
 subst hyy
 have hall:=Rn.hear.more [] [] (-1) (by rw[hx.rest];rfl) Ae3
 have htold:told=false:=(hall.2.1 rfl).2
 have hw:w=[]:=Rn.puts.2.1 htold
 have hwn:LWn y=0:=by rw[Rn.wn];exact sU hG hx.lit.ok.wrong (.inl rfl)
 have hnow:BY y=BW s (BY x) (LQ y).1:=by
  rw[Rn.now,Rn.lit,Rn.ask.lit m2.up];rfl
 have hst:=Agy (p:=(LQ y).1) h hG hx.fl
 have hx2:=hx.st
 have hg0:=(JM h.so).lo
 refine ⟨y,lights,out,asks,ups,well,n1,⟨m2,by rw[hall.1];rfl,by rw[hnow];exact hst.1,by rw[hnow,hst.2];omega⟩,by rw[Rn.disk,hw];rfl,(Rn.hear.no htold).1,hnow,by rw[hnow];exact hst.2,Rn.see,Rn.pu,Rn.ey,by rw[Rn.rg,hwn];rfl,Rn.ask,Rn.ti⟩
end Go.Proofs.YtmmkfcpdfnjgjaaGreatDoor
namespace Go.Proofs.YtmmkfcpdfnjgjaaGreatDoor
open Go.Den
structure kD (s:Ad) (x:AM):Prop where
 still:Still s x
 disk:LD x=Gb
 alone:(LRg x).1=1
theorem zV {s:Ad} (h:St s):kD s (Ex s (BM Gb).1.2.1 Gb):=by
 refine ⟨XJ h JC _,rfl,?_⟩
 show (Cg (BM Gb).1.2.1).1=1
 rw[eX]
 rfl
theorem eY {s:Ad} (h:St s) {x:AM} {n:Int} (hx:kD s x) :
 ∃y lights out asks ups well,Bq (s,(x,M3 n))=some (y,(lights,(out,0)))∧Pj s x n y asks ups well∧kD s y∧Js s (LQ y)∧∃g,Od s (LQ x) (Dl s (BY x) (LQ x).1) (LCa y) g (LQ y):=by
 obtain⟨y,lights,out,asks,ups,well,n1,G⟩:=aL (n:=n) h hx.still
 have hfeed:=h.ok.timed.feed
 have hrg:(LRg y).1=1:=by
  have hd:LD y=Gb:=by rw[G.disk,hx.disk]
  have hm:Bx (LRg x,E9 s (LTd y) (LAg y) 0 (BM (LD y)) false well)=1:=by
   unfold Bx E9
   simp only[AT]
   rw[hd,eX,if_neg (by rw[hx.still.lit.free];simp;omega),if_neg (by simp),if_neg (by simp)]
  rw[G.rg,Ld.step_eq s _ _ hx.still.lit.ok.rung,if_neg (by rw[hx.still.lit.free];unfold E9;simp;omega),hm,if_pos (by rw[hx.alone];omega)]
 obtain⟨g,_,g2⟩:=G.ask.alone hrg
 exact ⟨y,lights,out,asks,ups,well,n1,G,⟨G.still,by rw[G.disk,hx.disk],hrg⟩,G.ask.seq,g,g2⟩
theorem AhM {A:Type} {K:Unit→A} {body:(Unit→A)→A} (P:A→Prop) (hK:P (K ())) (hb:∀k:Unit→A,P (k ())→P (body k)):P (Dh K body):=hb K hK
def jY (s:Ad) (P up i:Int):Prop:=Ax up∧∀j e,0≤j→j<i→idx s.2.2.2.2.2.1 j=some e→e.1=P→AA up j=true
def AhE (s:Ad) (P up i:Int):Prop:=up≠0→∃j e,0≤j∧j<i∧idx s.2.2.2.2.2.1 j=some e∧e.1=P
def Ad3 (s:Ad) (P:Int) (l:List BH):Prop:=∀j e p,idx s.2.2.2.2.2.1 j=some e→e.1=P→idx l j=some p→p.2.1=true∧1≤p.2.2
theorem pD {p:BH} (hp:KU p):(B4 (p,(true,2))).1.2.1=true∧1≤(B4 (p,(true,2))).1.2.2∧(p.2.1=true→1≤p.2.2→(B4 (p,(true,2))).1.1=true):=by
 obtain⟨u,r,n⟩:=p
 unfold KU at hp
 simp only at hp
 unfold B4
 rw[if_neg (by simp only;omega),if_neg (by simp)]
 simp only
 rw[DB]
 refine ⟨trivial,by split<;>omega,fun h1 h2=>?_⟩
 subst h1
 rw[if_pos rfl,if_pos (by omega)]
theorem Acb {s:Ad} {P n up:Int} (P0:0≤P) {x y:AM} {asks:List Int} {ups:Int} {well:Bool} (hx:Fx s x) (G:Pj s x n y asks ups well) (hU:jY s P up (BT s)) (hsup:∀j,AA up j=true→upE n j=true) (hpu:Ad3 s P (LPu x)) (hnf:¬Fz s (BY x) P)
 (hany:(el s.2.2.2.2.1 P).2.2.2.2=true∨∃j e,0≤j∧j<BT s∧idx s.2.2.2.2.2.1 j=some e∧e.1=P):E8 s (LCa y) P=true:=by
 unfold E8
 rcases hany with ha|⟨j,e,j0,j1,he,hP⟩
 ·rw[ha];rfl
 ·have hb:AA (LCa y) P=true:=by
   refine (G.see.next.2 P).2 ⟨fun hg=>?_,.inr (.inr ?_)⟩
   ·split at hg
    ·rename_i c
     rw[fullB_iff] at c
     rw[←hg] at c
     exact hnf c
    ·omega
   ·obtain⟨p,hp,hpm⟩:=Au (l:=LPu x) j0 (by rw[hx.pn];exact j1)
    obtain⟨z,hz,_⟩:=Au (l:=LEy x) j0 (by rw[(Ey.Mf hx.eyes).2.1];exact j1)
    refine ⟨j,e,_,he,Ey.Yl hz,hP,?_⟩
    have hup:AA ups j=true:=by
     rw[G.see.bits j,decide_eq_true ⟨j0,j1⟩]
     have h1:=Wk (eyes:=n) hp
     show (el (puV n (LPu x)) j).1=true
     rw[Df h1,hsup j (hU.2 j e j0 j1 he hP)]
     obtain⟨q1,q2⟩:=hpu j e p he hP hp
     exact (pD (hx.pulse p hpm)).2.2 q1 q2
    rw[hup]
    rfl
  rw[hb,Bool.or_true]
theorem Adh {s:Ad} {P n up:Int} {x y:AM} {asks:List Int} {ups:Int} {well:Bool} (hx:Fx s x) (G:Pj s x n y asks ups well) (hU:jY s P up (BT s)) (hsup:∀j,AA up j=true→upE n j=true):Ad3 s P (LPu y):=by
 intro j e p he hP hp
 obtain⟨j0,j1,_⟩:=An he
 obtain⟨p0,hp0,hpm⟩:=Au (l:=LPu x) j0 (by rw[hx.pn];exact j1)
 have h1:=Wk (eyes:=n) hp0
 rw[G.pu] at hp
 rw[hp] at h1
 rw[Option.some.inj h1,hsup j (hU.2 j e j0 j1 he hP)]
 have:=pD (hx.pulse p0 hpm)
 exact ⟨this.1,this.2.1⟩
structure Ad8 (s:Ad) (P i:Int) (x:AM):Prop where
 bare:kD s x
 nf:1≤i→¬Fz s (BY x) P
 st:(BY x).2.1≤max 0 (grt s-i)
 pu:1≤i→Ad3 s P (LPu x)
 seq:Js s (LQ x)
 left:max (grt s) 1≤i→i-max (grt s) 1≤HZ s∧∃t,YQ s (LQ x) (BY x) t∧EE s P (LQ x) (BY x) t≤HZ s-(i-max (grt s) 1)
theorem AdW {s:Ad} (h:St s) {P n up i:Int} (P0:0≤P) (P1:P<B6 s) (i0:0≤i) (hb:EY s≤100000) (hb0:0≤HZ s) {x:AM} (hx:Ad8 s P i x) (hU:jY s P up (BT s)) (hsup:∀j,AA up j=true→upE n j=true)
 (hany:(el s.2.2.2.2.1 P).2.2.2.2=true∨∃j e,0≤j∧j<BT s∧idx s.2.2.2.2.2.1 j=some e∧e.1=P) :
 ∃y lights out,Bq (s,(x,M3 n))=some (y,(lights,(out,0)))∧BS s (BY y)∧(¬Fz s (BY y) P→Ad8 s P (i+1) y):=by
 obtain⟨y,lights,out,asks,ups,well,n1,G,hB,hq,g,hN⟩:=eY (n:=n) h hx.bare
 have hlo:=hx.bare.still.lit.ok
 have hst:=hx.st
 have hg0:=(JM h.so).lo
 have hGy:BS s (BY y):=hB.still.lit.ok.now
 have hsty:(BY y).2.1≤max 0 (grt s-(i+1)):=by rw[G.st];omega
 refine ⟨y,lights,out,n1,hGy,fun hnf=>⟨hB,fun _=>hnf,hsty,fun _=>Adh hlo G hU hsup,hq,fun hi=>?_⟩⟩
 have hylo:=hGy.may.st.lo
 by_cases c:max (grt s) 1≤i
 ·obtain⟨l1,t,S,l2⟩:=hx.left c
  have hcall:=Acb P0 hlo G hU hsup (hx.pu (by omega)) (hx.nf (by omega)) hany
  obtain⟨s1,t',s2,s3⟩:=Abx h.f h.ok hb (P:=P) P0 P1 S hcall (hx.nf (by omega)) hN hq
  rw[←G.now] at s2 s3
  exact ⟨by omega,t',s2,by omega⟩
 ·have e:i+1=max (grt s) 1:=by omega
  have hpl:Pl s (BY y):=⟨hGy,by omega,hB.still.fl⟩
  exact ⟨by omega,0,wT h.so hpl hq,by
   have:=AaX h.so h.ok (P:=P) P0 P1 (now:=BY y) hq
   omega⟩
end Go.Proofs.YtmmkfcpdfnjgjaaGreatDoor
namespace Go.Proofs.YtmmkfcpdfnjgjaaGreatDoor
open Go.Den
theorem Agf {up m:Int} (hu:Ax up) (hm:Ax m) {j:Int} (h:AA up j=true):AA (Aj .or .u32 up m) j=true:=by
 rw[Qy hu hm,h];rfl
theorem Ahx {n j:Int} (hn:Ax n) (j1:j≤31) (h:AA n j=true):upE n j=true:=by
 have j0:0≤j:=by
  refine Decidable.byContradiction fun hh=>?_
  rw[Wc (by omega)] at h;cases h
 unfold upE
 rw[Qr hn j0 j1];exact h
theorem Ml {s:Ad} {up n j:Int} (hne:BT s≤24) (hz:∀j,BT s≤j→AA up j=false) (hn:Ax n) (hsup:∀j,AA up j=true→AA n j=true) (h:AA up j=true):upE n j=true:=by
 have:j<BT s:=by
  refine Decidable.byContradiction fun hh=>?_
  rw[hz j (by omega)] at h;cases h
 exact Ahx hn (by omega) (hsup j h)
theorem Aby {s:Ad} {P:Int} {ahead eyes:List Int} (hs:Bm s) (he:Aa eyes≤9223372036854775807) (hu:∀n∈eyes,Ax n):HH (s,(P,(ahead,eyes)))=some true:=by
 unfold HH
 obtain⟨gr,hgr⟩:=Ld.Wj s hs
 rw[Ab _ _ Tv,Ag (b:=!true) _ _ rfl]
 try simp only
 rw[Ab _ _ hgr]
 by_cases c:(((gr||(decide (P<0)))||(decide ((Aa s.2.2.2.2.1)≤P)))||(decide (60<Aa ahead)))=true
 ·rw[Af _ _ c]
 rw[Ag _ _ (Bool.eq_false_iff.2 c)]
 simp only[Bool.or_eq_true,decide_eq_true_eq,not_or,Int.not_lt,Int.not_le] at c
 obtain⟨⟨⟨_,P0⟩,P1⟩,hah⟩:=c
 obtain⟨e,h1,h2⟩:=QE hs
 have hbound:=Afo (s:=s) (e:=e) (fun h0=>Ld.lM h2 h0) hs h1
 rw[Ab _ _ hbound,Ab _ _ k8]
 by_cases h0:e=0
 rotate_left
 ·obtain⟨y,hy⟩:=QO (d:=Gb) h1 h0
  try simp only
  rw[Ab _ _ hy,if_pos h0,Af _ _ (by simp[h0])]
 subst h0
 have h:=eA hs h1
 rw[if_neg (by simp)]
 rcases OM h (d:=Gb) (by rw[Mj];decide) with ⟨_,hf⟩|⟨hf,_⟩
 rotate_left
 ·exact absurd JC hf
 have hg:=JM h.so
 have hg0:=hg.lo;have hg1:=hg.hi
 have hcost:=N2 h.so h.ok (Aa s.2.2.2.2.1).toNat (by have:=Ar s.2.2.2.2.1;omega)
 have ht:=Ki h.so
 have htv:EY s=ER s+Gd s+2:=rfl
 have hbv:HZ s=EY s+Ds s (Aa s.2.2.2.2.1).toNat:=rfl
 have np:=h.ph;have ne:=h.ne
 unfold B6 at np
 have hn8:((Aa s.2.2.2.2.1).toNat:Int)≤8:=by omega
 try simp only
 rw[Ab _ _ hf,Ag _ _ (by rfl),Ab _ _ (eQ h.so)]
 try simp only
 rw[Ak (HZ s+grt s) (by omega) (by omega)]
 by_cases c2:200<HZ s+grt s
 ·rw[Af _ _ (decide_eq_true c2)]
 rw[Ag _ _ (decide_eq_false c2)]
 refine AH (fun z:Int×Int=>z.2) (BT s) (fun z=>jY s P z.1 z.2∧AhE s P z.1 z.2∧∀j,z.2≤j→AA z.1 j=false) (fun R=>R=some true) (by omega) (by simp) ne.1 ⟨⟨by simp[Ax],fun j e j0 j1=>by simp only at j1;omega⟩,fun hh=>absurd rfl hh,fun j _=>by simp[AA]⟩ (fun z hI i0 i1=>?_) (fun z hI hz=>?_)
 ·obtain⟨up,i⟩:=z
  obtain⟨hU,hV,hZ⟩:=hI
  simp only at i0 i1 hU hV hZ
  obtain⟨e,he,_⟩:=Au (l:=s.2.2.2.2.2.1) i0 i1
  have ob:=Ey.ZS (m:=up) hU.1 i0 (by omega)
  try simp only
  rw[Af _ _ (show decide (i<Aa s.2.2.2.2.2.1)=true from decide_eq_true i1),Ab _ _ he,AgG i0 (by omega),Ak (i+1) (by omega) (by omega)]
  by_cases ce:e.1=P
  ·rw[Af _ _ (by simp[ce])]
   refine ⟨rfl,⟨ob.1,fun j e' j0 j1 hj hP=>?_⟩,fun _=>⟨i,e,i0,by simp only;omega,he,ce⟩,fun j hj=>?_⟩
   ·simp only at j1 ⊢
    rw[ob.2]
    by_cases cj:i=j
    ·rw[decide_eq_true cj,Bool.or_true]
    ·rw[hU.2 j e' j0 (by omega) hj hP];rfl
   ·simp only at hj ⊢
    rw[ob.2,hZ j (by omega),decide_eq_false (by omega)];rfl
  ·rw[Ag _ _ (by simpa using ce)]
   refine ⟨rfl,⟨hU.1,fun j e' j0 j1 hj hP=>?_⟩,fun hh=>?_,fun j hj=>hZ j (by simp only at hj;omega)⟩
   ·simp only at j1 ⊢
    by_cases cj:i=j
    ·subst cj
     rw[he] at hj
     exact absurd (by rw[Option.some.inj hj];exact hP) ce
    ·exact hU.2 j e' j0 (by omega) hj hP
   ·obtain⟨j,e',j0,j1,k1,k2⟩:=hV hh
    exact ⟨j,e',j0,by simp only;omega,k1,k2⟩
 ·obtain⟨up,i⟩:=z
  obtain⟨hU,hV,hZ⟩:=hI
  simp only at hz hU hV hZ
  subst hz
  try simp only
  rw[Ag _ _ (decide_eq_false (by unfold BT;omega))]
  show (Dh _ _:Option Bool)=some true
  by_cases hany:(el s.2.2.2.2.1 P).2.2.2.2=true∨∃j e,0≤j∧j<BT s∧idx s.2.2.2.2.2.1 j=some e∧e.1=P
  rotate_left
  ·rw[FO]
   have hup0:up=0:=Decidable.byContradiction fun hh=>by
    obtain⟨j,e',j0,j1,k1,k2⟩:=hV hh
    exact hany (.inr ⟨j,e',j0,j1,k1,k2⟩)
   have hal:(el s.2.2.2.2.1 P).2.2.2.2=false:=Bool.eq_false_iff.2 fun hh=>hany (.inl hh)
   rw[Af _ _ (by simp[hup0]),Ab _ _ (AI P0 P1),hal,Af (b:=!false) _ _ rfl]
  refine AhM (fun R:Option Bool=>R=some true) ?_ (fun k hk=>?_)
  rotate_left
  ·try simp only
   rw[AT]
   split
   ·rw[Ab _ _ (AI P0 P1),AT]
    split
    ·rfl
    ·exact hk
   ·exact hk
  try simp only
  refine AH (fun z:Int×AM=>z.1) (Aa ahead) (fun z=>kD s z.2∧Js s (LQ z.2)) (fun R=>R=some true) (by omega) (by simp) (Ar _) ⟨zV h,(Ps h JC (BM Gb).1.2.1).seq⟩ (fun z hI i0 i1=>?_) (fun z hI hz=>?_)
  ·obtain⟨i,x⟩:=z
   simp only at hI i0 i1
   obtain⟨n,hn,_⟩:=Au i0 i1
   obtain⟨y,lights,out,asks,ups,well,n1,G,hB,hq,_⟩:=eY (n:=n) h hI.1
   have n1':Bq (s,(((x.1.1,()),x.2),([],(n,([],(false,(0,(0,false))))))))=some (y,(lights,(out,0))):=n1
   try simp only
   rw[Af _ _ (decide_eq_true i1),Ab _ _ hn,Ab _ _ n1',Ag _ _ (by rfl),Ak (i+1) (by omega) (by omega)]
   exact ⟨rfl,hB,hq⟩
  ·obtain⟨i,x⟩:=z
   obtain⟨hB,hq⟩:=hI
   simp only at hz hB hq
   try simp only
   rw[Ag _ _ (decide_eq_false (by omega))]
   show iter _ _ _ _ = some true
   refine AH (fun z:Int×AM=>z.1) (HZ s+grt s+4) (fun z=>Ad8 s P z.1 z.2) (fun R=>R=some true) (by omega) (by simp) (by simp only;omega) ⟨hB,fun hh=>by simp only at hh;omega,by have:=hB.still.st;show (BY x).2.1≤max 0 (grt s-0);omega,fun hh=>by simp only at hh;omega,hq,fun hh=>by simp only at hh;omega⟩ (fun z hI i0 i1=>?_) (fun z hI hz=>?_)
   ·obtain⟨i,x⟩:=z
    simp only at hI i0 i1
    try simp only
    rw[Ab _ _ (eQ h.so),Ak (HZ s+grt s) (by omega) (by omega),Ak (HZ s+grt s+4) (by omega) (by omega),Af _ _ (decide_eq_true i1)]
    obtain⟨n,hn,hnu,hsup⟩:∃n,n=(if 0<Aa eyes then Aj .or .u32 up (el eyes (i.tmod (Aa eyes))) else up)∧Ax n∧∀j,AA up j=true→AA n j=true:=by
     refine ⟨_,rfl,?_,fun j hj=>?_⟩
     ·split
      ·rename_i c
       have hm:=hu _ (lZ (l:=eyes) (i:=i.tmod (Aa eyes)) (Int.tmod_nonneg _ i0) (Int.tmod_lt_of_pos _ c))
       exact R6 hU.1 hm
      ·exact hU.1
     ·split
      ·rename_i c
       have hm:=hu _ (lZ (l:=eyes) (i:=i.tmod (Aa eyes)) (Int.tmod_nonneg _ i0) (Int.tmod_lt_of_pos _ c))
       exact Agf hU.1 hm hj
      ·exact hj
    rw[Wm n (fun k=>by
     try simp only
     rw[hn]
     by_cases c:0<Aa eyes
     ·have hx:=AI (l:=eyes) (i:=Gm i (Aa eyes)) (Int.tmod_nonneg _ i0) (Int.tmod_lt_of_pos _ c)
      rw[Af _ _ (decide_eq_true c),Af _ _ (by simp;omega),Ab _ _ hx,if_pos c]
      rfl
     ·rw[Ag _ _ (decide_eq_false c),if_neg c])]
    obtain⟨y,lights,out,n1,hG,hW⟩:=AdW (n:=n) (up:=up) h P0 P1 i0 (by omega) (by omega) hI hU (fun j hj=>Ml ne.2 hZ hnu hsup hj) hany
    have n1':Bq (s,(((x.1.1,()),x.2),([],(n,([],(false,(0,(0,false))))))))=some (y,(lights,(out,0))):=n1
    have hfull:Ly 0 s y.2.1 P=(Dl s (BY y) P,0):=by
     unfold Ly
     rw[if_neg (by simp),if_neg (by rw[show y.2.1=BY y from rfl,hG.may.st.n];simp),if_neg (by omega)]
    try simp only
    rw[Ab _ _ n1',Ab _ _ (Tm h.f (fun _=>h.so) h.chk),hfull,Ag _ _ (by rfl)]
    try simp only
    by_cases cf:Dl s (BY y) P=true
    ·rw[Af _ _ cf];exact rfl
    ·rw[Ag _ _ (Bool.eq_false_iff.2 cf),Ak (i+1) (by omega) (by omega)]
     exact ⟨rfl,hW (fun hh=>cf (fullB_iff.2 hh))⟩
   ·obtain⟨i,x⟩:=z
    simp only at hI hz
    have:=(hI.left (by omega)).1
    omega
end Go.Proofs.YtmmkfcpdfnjgjaaGreatDoor
namespace Go.Proofs.YtmmkfcpdfnjgjaaGreatDoor
open Go.Den
theorem jU (x:Ad×Int×List Int×List Int) (hf:I8 [Ai,I64,PR,PR] x):HH x=some true:=by
 obtain⟨s,p,ah,ey⟩:=x
 refine Aby (Abz hf.1) ?_ (fun n hn=>l9 (hf.2.2.2.2 n hn))
 have h:ey.length≤maxLen:=hf.2.2.2.1
 unfold maxLen at h
 unfold Aa
 omega
end Go.Proofs.YtmmkfcpdfnjgjaaGreatDoor
