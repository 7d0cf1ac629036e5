/- Part of a proof: plain readings of Go functions, their contracts, or plain facts of them. -/
import Derived.Test.YtmmkfcpdfnjgjaaGreatDoorTp3
namespace Go.Proofs.YtmmkfcpdfnjgjaaGreatDoor
open Go.Den
theorem Tv:FU ()=some true:=by kernel_rfl
theorem Ahg {l:List Cd} (hl:Aa l≤200):∃n,Ie l=some n:=by
 unfold Ie
 refine AH (fun z:Int×Int=>z.2) (Aa l) (fun _=>True) (fun R=>∃n,R=some n) (by omega) (by simp) (Ar l) trivial (fun z _ i0 i1=>?_) (fun z _ hz=>?_)
 ·obtain⟨m,i⟩:=z
  simp only at i0 i1
  obtain⟨x,hx,_⟩:=Au i0 i1
  try simp only
  rw[Af _ _ (decide_eq_true i1),Ab _ _ hx,Ab _ _ hx,Ak (i+1) (by omega) (by omega)]
  exact ⟨rfl,trivial⟩
 ·obtain⟨m,i⟩:=z
  simp only at hz
  try simp only
  rw[Ag _ _ (decide_eq_false (by omega))]
  exact ⟨m,rfl⟩
theorem AdU {s:Ad} (hs:Bm s) {d:List Int} {l:List Cd}:∃b,Kh (s,((d,()),l))=some b∧(b=true→Aa l≤200):=by
 obtain⟨g,hg⟩:=Ld.Wj s hs
 unfold Kh
 rw[Ab _ _ hg,AT]
 split
 ·rename_i c
  simp only[Bool.and_eq_true,decide_eq_true_eq] at c
  obtain⟨n,hn⟩:=Ahg (l:=l) c.2
  rw[Ab _ _ hn]
  exact ⟨_,rfl,fun _=>c.2⟩
 ·exact ⟨_,rfl,fun h=>by cases h⟩
theorem eA {s:Ad} (hs:Bm s) (h:Aw s=some 0):St s:=by
 obtain⟨e,h1,h2⟩:=QE hs
 rw[h] at h1
 have:e=0:=(Option.some.inj h1).symm
 subst this
 rcases h2 with ⟨_,h2⟩|⟨h2,_⟩
 ·exact ⟨hs,h2,h⟩
 ·cases h2
theorem AcA {s:Ad} (hs:Bm s) {d:List Int} (hl:Aa d≤9223372036854775807):(St s∧Bl d∧BQ (s,(d,()))=some (Ex s (BM d).1.2.1 d,0))∨∃y e,BQ (s,(d,()))=some (y,e)∧e≠0:=by
 obtain⟨e,h1,_⟩:=QE hs
 by_cases h0:e=0
 ·subst h0
  have h:=eA hs h1
  rcases OM h hl with ⟨a,b⟩|⟨a,y,b⟩
  ·exact .inl ⟨h,a,b⟩
  ·exact .inr ⟨y,8,b,by decide⟩
 ·obtain⟨y,hy⟩:=QO (d:=d) h1 h0
  exact .inr ⟨y,e,hy,h0⟩
theorem Ae3:DU []=some ([],(-1,0)):=by
 obtain⟨la,h1,h2,h3,_⟩:=AdD (l:=[]) (by simp[Aa])
 have:la = -1:=by
  rw[RT] at h3;omega
 subst this
 exact h1
end Go.Proofs.YtmmkfcpdfnjgjaaGreatDoor
namespace Go.Proofs.YtmmkfcpdfnjgjaaGreatDoor
open Go.Den
theorem AdE {x:AM} (h:Aa (BY x).1≤1000):HQ x=some (E6 (BY x)):=by
 have h':Aa x.2.1.1≤1000:=h
 unfold HQ
 refine AH (fun z:List Int×Int=>z.2) (Aa x.2.1.1) (fun z=>z.1=(E6 x.2.1).take z.2.toNat) (fun R=>R=some (E6 x.2.1)) (by omega) (by simp) (Ar _) rfl (fun z hI i0 i1=>?_) (fun z hI hz=>?_)
 ·obtain⟨l,i⟩:=z
  simp only at hI i0 i1
  obtain⟨w,hw1,_⟩:=Au (l:=x.2.1.1) i0 i1
  have hll:Aa l≤i:=by rw[hI];unfold Aa;rw[List.length_take];omega
  try simp only
  rw[Af _ _ (decide_eq_true i1),Ab _ _ hw1,Af _ _ (Va (by omega)),Ak (i+1) (by omega) (by omega)]
  refine ⟨rfl,?_⟩
  simp only
  have h1:idx (E6 x.2.1) i=some w.1:=by unfold E6;rw[N5,hw1];rfl
  rw[Bw i0] at h1
  rw[hI,show (i+1).toNat=i.toNat+1 by omega,List.take_add_one,h1]
  rfl
 ·obtain⟨l,i⟩:=z
  simp only at hI hz
  have hl:l=E6 x.2.1:=by
   rw[hI]
   refine List.take_of_length_le ?_
   unfold E6;rw[List.length_map]
   unfold Aa at hz;omega
  subst hz hl
  try simp only
  rw[Ag _ _ (decide_eq_false (by omega))]
  rfl
theorem mB {l:List Int} (hl:Aa l≤1000) (h:∀a∈l,a≠4):C7 l=some 0:=by
 unfold C7
 refine AH (fun z:Int×Int=>z.2) (Aa l) (fun z=>z.1=0) (fun R=>R=some 0) (by omega) (by simp) (Ar _) rfl (fun z hI i0 i1=>?_) (fun z hI hz=>?_)
 ·obtain⟨m,i⟩:=z
  simp only at hI i0 i1
  obtain⟨a,ha,ham⟩:=Au i0 i1
  try simp only
  rw[Af _ _ (decide_eq_true i1),Ab _ _ ha,Ag _ _ (by simpa using h a ham),Ak (i+1) (by omega) (by omega)]
  exact ⟨rfl,hI⟩
 ·obtain⟨m,i⟩:=z
  simp only at hI hz
  subst hI
  try simp only
  rw[Ag _ _ (decide_eq_false (by omega))]
  rfl
theorem eR {s:Ad} (h:St s) {now:Aq} (hG:BS s now) {p:Int}:Aa (Cz s now (CH s p))=Aa s.2.1∧∀a∈Cz s now (CH s p),1≤a∧a≤3:=by
 have hw:=hG.may.st.n
 have hl:=GK s p
 refine ⟨LC hw hl,fun a ha=>?_⟩
 have hlo:=hG.may.st.lo
 unfold Cz at ha
 rw[if_neg (by rw[Rt h.so p];simp)] at ha
 split at ha
 ·rw[QR ha];omega
 ·rename_i c
  have hf:now.2.2=false:=by cases hh:now.2.2 with
   |true=>exact absurd (.inl hh) c
   |false=>rfl
  have hI:=dN h.so hG hl hf
  obtain⟨j,hj⟩:=D9 ha
  obtain⟨j0,j1,_⟩:=An hj
  rw[hI.len] at j1
  have:=(dO hG hf hI j0 j1).1
  rw[Df hj] at this
  exact this
theorem yH {s:Ad} {now:Aq} (hG:BS s now):Aa (E6 now)=Aa s.2.1:=by unfold E6;rw[IQ];exact hG.may.st.n
theorem Ab6 {s:Ad} {now:Aq} (hG:BS s now):Ld.HB s (E6 now)=0:=by
 rw[Ld.lightE_ok]
 refine ⟨yH hG,fun a ha=>?_⟩
 unfold E6 at ha
 obtain⟨w,hw,rfl⟩:=List.mem_map.1 ha
 have:=hG.all w hw
 unfold EH at this
 split at this
 ·omega
 ·omega
theorem sU {s:Ad} {now:Aq} {wn:Int} {back:List Int} (hG:BS s now) (hw:0≤wn∧wn≤1048576) (hb:back=[]∨back=E6 now):wnV s now wn back=0:=by
 have hr:Ld.HJ s (E6 now) back=(false,0):=by
  unfold Ld.HJ
  rw[if_neg (by rw[Ab6 hG];simp)]
  rcases hb with e|e
  ·subst e;rw[if_pos (by rfl)]
  ·subst e
   split
   ·rfl
   ·rw[if_neg (by rw[Ab6 hG];simp)];simp
 unfold wnV Ld.R3
 rw[if_neg (show ¬(0:Int)≠0 by simp),if_neg (show ¬(wn<0∨1048576<wn) by omega),hr]
 simp
theorem Af7 {r:BR} {f:DA} (h1:r.2.2=false) (h2:f.2.2.2=true):1≤Bx (r,f):=by
 unfold Bx
 simp only[AT]
 rw[if_neg (by rw[h1,h2];simp)]
 split
 ·decide
 ·split<;>decide
theorem Ae2 {s:Ad} {r:BR} {f:DA} (hr:Ld.IY r) (h0:r.1≠0) (h1:r.2.2=false) (h2:f.2.2.2=true):(CJ (s,(r,f))).1≠0∧(CJ (s,(r,f))).2.2=false:=by
 have hm:=Af7 (r:=r) (f:=f) h1 h2
 have hmo:=hr.mode
 rw[Ld.step_eq s r f hr,if_neg (by rw[h1,h2];simp)]
 split
 ·exact ⟨by simp only;omega,rfl⟩
 ·split
  ·exact ⟨by simp only;omega,rfl⟩
  ·exact ⟨h0,rfl⟩
structure Lit (s:Ad) (x:AM):Prop where
 ok:Fx s x
 up:(LRg x).1≠0
 free:(LRg x).2.2=false
theorem nQ {s:Ad} (h:St s) {x:AM} {ip:Cd} (hx:Lit s x) (hb:ip.2.2.1=[]∨ip.2.2.1=E6 (BY x)) :
 ∃y lights out,Bq (s,(x,ip))=some (y,(lights,(out,0)))∧Lit s y∧(ip.2.2.2.1=false→C7 lights=some 0):=by
 have hG:BS s (BY x):=hx.ok.now
 have hn:=yH hG
 have n2:=h.so.n2
 obtain⟨y,w,asks,lights,out,n1,n2',n3,n4⟩:=Xl h (ip:=ip) hx.ok (by
  rcases hb with e|e
  ·rw[e];simp
  ·rw[e];unfold Aa at hn n2;unfold maxLen;omega)
 refine ⟨y,lights,out,n1,?_⟩
 cases hlost:ip.2.2.2.1 with
 |true =>
  have L:=n3 hlost
  have hr:=NU (BM (LD y)).1.2.1
  refine ⟨⟨n2',?_,?_⟩,fun hh=>by cases hh⟩
  ·rw[L.loc];show (Cg (BM (LD y)).1.2.1).1≠0;rcases hr.2.2 with e|e<;>rw[e]<;>decide
  ·rw[L.loc];exact hr.2.1
 |false =>
  obtain⟨told,well,ups,Rn⟩:=n4 hlost
  have hwn:LWn y=0:=by rw[Rn.wn];exact sU hG hx.ok.wrong hb
  have hfeed:=h.ok.timed.feed
  have hrg:=Ae2 (s:=s) (r:=LRg x) (f:=E9 s (LTd y) (LAg y) (LWn y) (BM (LD y)) ip.2.2.2.2.2.2 well) hx.ok.rung hx.up hx.free (by
   unfold E9
   simp only
   rw[hwn]
   simp;omega)
  rw[←Rn.rg] at hrg
  refine ⟨⟨n2',hrg.1,hrg.2⟩,fun _=>?_⟩
  have hal:=eR h hG (p:=(LQ y).1)
  rw[Rn.lit,Rn.ask.lit hrg.1]
  exact mB (by omega) fun a ha=>by have:=hal.2 a ha;omega
theorem AdB {s:Ad} {d:List Int} {l:List Cd} {no:List Bool} (hs:Bm s) (hl:Aa d≤9223372036854775807):Iv (s,((d,()),(l,no)))=some true:=by
 unfold Iv
 rw[Ab _ _ Tv,Ag (b:=!true) _ _ rfl]
 obtain⟨b,hb1,hb2⟩:=AdU (d:=d) (l:=l) hs
 try simp only
 rw[Ab _ _ hb1]
 cases b with
 |false=>rw[Af (b:=!false) _ _ rfl]
 |true =>
 have hn:=hb2 rfl
 rw[Ag (b:=!true) _ _ rfl]
 rcases AcA (d:=d) hs hl with ⟨h,hd,hf⟩|⟨y,e,hf,he⟩
 rotate_left
 ·rw[Ab _ _ hf,Af _ _ (by simp[he])]
 rw[Ab _ _ hf,Ag _ _ (by rfl)]
 have hr:=NU (BM d).1.2.1
 refine AH (fun z:Int×AM=>z.1) (Aa l) (fun z=>Lit s z.2) (fun R=>R=some true) (by omega) (by simp) (Ar l) ⟨Ps h hd _,by show (Cg (BM d).1.2.1).1≠0;rcases hr.2.2 with e|e<;>rw[e]<;>decide,hr.2.1⟩ (fun z hI i0 i1=>?_) (fun z hI hz=>?_)
 ·obtain⟨i,x⟩:=z
  simp only at hI i0 i1
  obtain⟨ip,hip,him⟩:=Au i0 i1
  have hsh:=AdE (x:=x) (by have:=hI.ok.now.may.st.n;have:=h.so.n2;show Aa x.2.1.1≤1000;omega)
  have hsh':HQ ((x.1.1,()),x.2)=some (E6 (BY x)):=hsh
  have step:∀bk,(bk=[]∨bk=E6 (BY x))→∀R,(∀y lights out,Bq (s,(((x.1.1,()),x.2),(ip.1,(ip.2.1,(bk,ip.2.2.2)))))=some (y,(lights,(out,0)))→(y.2.2.1.1==0)=false→y.2.2.1.2.2=false→(ip.2.2.2.1=false→C7 lights=some 0)→R=Step.next (i+1,((y.1.1,()),y.2)))→C8 (fun z:Int×AM=>z.1) (fun z=>Lit s z.2) (fun R:Option Bool=>R=some true) i R:=fun bk hbk R hR=>by
   obtain⟨y,lights,out,n1,n2,n3⟩:=nQ h (ip:=(ip.1,(ip.2.1,(bk,ip.2.2.2)))) hI hbk
   have:=hR y lights out n1 (by have:=n2.up;simpa using this) n2.free n3
   rw[this]
   exact ⟨rfl,n2⟩
  have hw:=Ak (i+1) (by omega) (by omega)
  have fin:∀(bk:List Int) (y:AM) (lights out:List Int),(y.2.2.1.1==0)=false→y.2.2.1.2.2=false→(ip.2.2.2.1=false→C7 lights=some 0) →
   (cnd (((!((0:Int)==0))||(y.2.2.1.1==0))||y.2.2.1.2.2) (Step.done (some false)) (cnd (!ip.2.2.2.1) (Ae (C7 lights) (Step.done none) (fun x9=>(cnd (decide (0<x9)) (Step.done (some false)) (Step.next ((wr .i64 (i+1)),((y.1.1,()),y.2)))))) (Step.next ((wr .i64 (i+1)),((y.1.1,()),y.2)))))=(Step.next (i+1,((y.1.1,()),y.2)):Step (Int×AM) (Option Bool)):=fun bk y lights out m1 m2 m3=>by
   rw[Ag _ _ (by rw[m1,m2];rfl),hw]
   cases hl:ip.2.2.2.1 with
   |true=>rw[Ag (b:=!true) _ _ rfl]
   |false=>rw[Af (b:=!false) _ _ rfl,Ab _ _ (m3 hl),Ag _ _ (by simp)]
  try simp only
  rw[Af _ _ (decide_eq_true i1),Ab _ _ hip,Ab _ _ hsh']
  by_cases c:i<Aa no
  ·obtain⟨b,hb,_⟩:=Au i0 c
   rw[Af _ _ (decide_eq_true c),Ab _ _ hb]
   cases b with
   |true =>
    rw[Af _ _ rfl]
    refine step [] (.inl rfl) _ fun y lights out n1 m1 m2 m3=>?_
    rw[Ab _ _ n1]
    exact fin [] y lights out m1 m2 m3
   |false =>
    rw[Ag _ _ rfl]
    refine step (E6 (BY x)) (.inr rfl) _ fun y lights out n1 m1 m2 m3=>?_
    rw[Ab _ _ n1]
    exact fin [] y lights out m1 m2 m3
  ·rw[Ag _ _ (decide_eq_false c)]
   refine step (E6 (BY x)) (.inr rfl) _ fun y lights out n1 m1 m2 m3=>?_
   rw[Ab _ _ n1]
   exact fin [] y lights out m1 m2 m3
 ·obtain⟨i,x⟩:=z
  simp only at hz
  try simp only
  rw[Ag _ _ (decide_eq_false (by omega))]
  rfl
end Go.Proofs.YtmmkfcpdfnjgjaaGreatDoor
namespace Go.Proofs.YtmmkfcpdfnjgjaaGreatDoor
open Go.Den
theorem sK (x:Ad×Bb×List Cd×List Bool) (hf:I8 [Ai,AL,Hg,Bos] x):Iv x=some true:=by
 obtain⟨s,⟨d,⟨⟩⟩,l,no⟩:=x
 refine AdB (Abz hf.1) ?_
 have h:d.length≤maxLen:=hf.2.1.1.1
 unfold maxLen at h
 unfold Aa
 omega
end Go.Proofs.YtmmkfcpdfnjgjaaGreatDoor
