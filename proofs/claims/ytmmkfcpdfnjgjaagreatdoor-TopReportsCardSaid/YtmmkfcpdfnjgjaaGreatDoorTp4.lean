/- Part of a proof: plain readings of Go functions, their contracts, or plain facts of them. -/
import Derived.Test.YtmmkfcpdfnjgjaaGreatDoorTp3
namespace Go.Proofs.YtmmkfcpdfnjgjaaGreatDoor
open Go.Den
theorem yZ:JT ()=some true:=by kernel_rfl
theorem Aer {l:List BY} (hl:Aa l≤200):∃n,HG l=some n:=by
 unfold HG
 refine AI (fun z:Int×Int=>z.2) (Aa l) (fun _=>True) (fun R=>∃n,R=some n) (by omega) (by simp) (Ap l) trivial (fun z _ i0 i1=>?_) (fun z _ hz=>?_)
 ·obtain⟨m,i⟩:=z
  simp only at i0 i1
  obtain⟨x,hx,_⟩:=Au i0 i1
  try simp only
  rw[Af _ _ (decide_eq_true i1),Ab _ _ hx,Ab _ _ hx,Am (i+1) (by omega) (by omega)]
  exact ⟨rfl,trivial⟩
 ·obtain⟨m,i⟩:=z
  simp only at hz
  try simp only
  rw[Ag _ _ (decide_eq_false (by omega))]
  exact ⟨m,rfl⟩
theorem Abb {s:Ae} (hs:BZ s) {d:List Int} {l:List BY}:∃b,JD (s,((d,()),l))=some b∧(b=true→Aa l≤200):=by
 obtain⟨g,hg⟩:=Ld.tH s hs
 unfold JD
 rw[Ab _ _ hg,AS]
 split
 ·rename_i c
  simp only[Bool.and_eq_true,decide_eq_true_eq] at c
  obtain⟨n,hn⟩:=Aer (l:=l) c.2
  rw[Ab _ _ hn]
  exact ⟨_,rfl,fun _=>c.2⟩
 ·exact ⟨_,rfl,fun h=>by cases h⟩
theorem AdL {s:Ae} (hs:BZ s) (h:Aw s=some 0):St s:=by
 obtain⟨e,h1,h2⟩:=Zl hs
 rw[h] at h1
 have:e=0:=(Option.some.inj h1).symm
 subst this
 rcases h2 with ⟨_,h2⟩|⟨h2,_⟩
 ·exact ⟨hs,h2,h⟩
 ·cases h2
theorem zQ {s:Ae} (hs:BZ s) {d:List Int} (hl:Aa d≤9223372036854775807):(St s∧BT d∧Cx (s,(d,()))=some (E5 s (CS d).1.2.1 d,0))∨∃y e,Cx (s,(d,()))=some (y,e)∧e≠0:=by
 obtain⟨e,h1,_⟩:=Zl hs
 by_cases h0:e=0
 ·subst h0
  have h:=AdL hs h1
  rcases jG h hl with ⟨a,b⟩|⟨a,y,b⟩
  ·exact .inl ⟨h,a,b⟩
  ·exact .inr ⟨y,8,b,by decide⟩
 ·obtain⟨y,hy⟩:=ZR (d:=d) h1 h0
  exact .inr ⟨y,e,hy,h0⟩
theorem lX:Cz []=some ([],(-1,0)):=by
 obtain⟨la,h1,h2,h3,_⟩:=lW (l:=[]) (by simp[Aa])
 have:la = -1:=by
  rw[WS] at h3;omega
 subst this
 exact h1
structure Ad2 (l:List BY):Prop where
 back:∀p∈l,p.2.2.1.length≤maxLen
theorem iK {a b:Int}:FX a b=a.tmod b:=rfl
theorem rD {s:Ae} {d:List Int} {l:List BY} (hs:BZ s) (hl:Aa d≤9223372036854775807) (hin:Ad2 l):GD (s,((d,()),l))=some true:=by
 unfold GD
 rw[Ab _ _ yZ,Ag (b:=!true) _ _ rfl]
 obtain⟨b,hb1,hb2⟩:=Abb (d:=d) (l:=l) hs
 try simp only
 rw[Ab _ _ hb1]
 cases b with
 |false=>rw[Af (b:=!false) _ _ rfl]
 |true =>
 have hn:=hb2 rfl
 rw[Ag (b:=!true) _ _ rfl]
 rcases zQ (d:=d) hs hl with ⟨h,hd,hf⟩|⟨y,e,hf,he⟩
 rotate_left
 ·rw[Ab _ _ hf,Af _ _ (by simp[he])]
 rw[Ab _ _ hf,Ag _ _ (by rfl)]
 have hlow:=h.ok.timed.low
 have np:=h.ph
 refine AI (fun z:Int×Int×AV=>z.2.1) (Aa l) (fun z=>Fh s z.2.2∧LTi z.2.2=z.2.1∧LSe z.2.2=z.1∧0≤z.1∧z.1≤z.2.1) (fun R=>R=some true) (by omega) (by simp) (Ap l) ⟨aS h hd _,rfl,rfl,by simp,by simp⟩ (fun z hI i0 i1=>?_) (fun z hI hz=>?_)
 ·obtain⟨sent,i,x⟩:=z
  obtain⟨hx,ht,hse,s0,s1⟩:=hI
  simp only at i0 i1 hx ht hse s0 s1
  obtain⟨ip,hip,him⟩:=Au i0 i1
  obtain⟨y,w,asks,lights,out,n1,n2,n3,n4⟩:=qJ h (ip:=ip) hx (hin.back ip him)
  have n1':Gx (s,(((x.1.1,()),x.2),ip))=some (y,(lights,(out,0))):=n1
  have hti:x.2.2.2.2.2.2.2.2.2.2.2.2.2.1=i:=ht
  try simp only
  rw[Af _ _ (decide_eq_true i1),Ab _ _ hip,Ab _ _ n1']
  cases hlost:ip.2.2.2.1 with
  |true =>
   have L:=n3 hlost
   have ho:out=[]:=L.mute
   subst ho
   try simp only
   rw[Ab _ _ lX,Ag _ _ (by rw[hti];simp[Aa]),Ab _ _ hip,hlost,Af _ _ rfl,Ag _ _ (by rfl),Am (i+1) (by omega) (by omega)]
   refine ⟨rfl,n2,?_,?_,s0,by simp only;omega⟩
   ·simp only
    rw[show LTi (((y.1.1,()),y.2):AV)=LTi y from rfl,L.loc]
    show min (LTi x+1) 1073741824=i+1
    omega
   ·simp only
    rw[show LSe (((y.1.1,()),y.2):AV)=LSe y from rfl,L.loc]
    exact hse
  |false =>
   obtain⟨told,well,ups,Rn⟩:=n4 hlost
   have T:=Rn.tell
   have hyt:LTi y=i+1:=by rw[Rn.ti];omega
   have hup:(x.2.2.2.2.2.2.2.2.2.2.2.2.2.1==i)=true:=by rw[hti];simp
   rw[ht,hse] at T
   by_cases c:(i+1).tmod s.2.2.2.2.2.2.2.2.2.1=0
   ·obtain⟨e1,r,r1,r2,r3,r4,r5,r6,r7⟩:=T.on c (by omega)
    have hb:Bytes (BD (F1 r)):=Tv (fun n hn=>by
     have h1:=r6.id;have h2:=r6.mode;have h3:=r6.tick;have h4:=r6.n;have h5:=r6.m
     have h6:=Ap r.2.2.2
     unfold F1 at hn
     simp only[List.cons_append,List.nil_append,List.mem_cons] at hn
     rcases hn with rfl|rfl|rfl|rfl|hn
     ·omega
     ·omega
     ·omega
     ·omega
     ·have:=h5 n hn;omega)
    have hrl:=tQ r6.n
    have hse1:Ax (LSe y):=by rw[e1];exact ⟨by omega,by omega⟩
    have hsc:=Ach (m:=(3,(LSe y,BD (F1 r)))) (pre:=[]) ⟨hse1,by simp only;omega⟩ (by simp) hb (.inl rfl)
    rw[List.nil_append,←r7] at hsc
    try simp only
    have hne:(s.2.2.2.2.2.2.2.2.2.1==0)=false:=by
     have:s.2.2.2.2.2.2.2.2.2.1≠0:=by omega
     simpa using this
    have hdue:(FX (wr .i64 (i+1)) s.2.2.2.2.2.2.2.2.2.1==0)=true:=by
     rw[Am (i+1) (by omega) (by omega),iK,c];rfl
    have hw32:wr .u32 (sent+1)=sent+1:=by rw[MV];exact Int.emod_eq_of_lt (by omega) (by omega)
    have hrd:(LRg y).1=r.2.1:=r2.symm
    rw[Ab _ _ hsc]
    try simp only
    rw[Ag _ _ (by rw[hup];simp[Aa]),Ab _ _ hip,hlost,Ag _ _ rfl,hne,Af (b:=!false) _ _ rfl,hdue,Ag (b:=!true) _ _ rfl,Ag _ _ (by simp[Aa]),Ab _ _ (show idx [((3,(LSe y,BD (F1 r))):AX)] 0=some (3,(LSe y,BD (F1 r))) from rfl),Ag _ _ (by rfl),Ab _ _ (show idx [((3,(LSe y,BD (F1 r))):AX)] 0=some (3,(LSe y,BD (F1 r))) from rfl),Ag _ _ (by rw[hw32,e1];simp),Ab _ _ (show idx [((3,(LSe y,BD (F1 r))):AX)] 0=some (3,(LSe y,BD (F1 r))) from rfl),Ab _ _ (tZ r6),Ag _ _ (by
     rw[show (y.2.2.1.1:Int)=r.2.1 from hrd,r1,r3]
     have:(Aa r.2.2.2==Aa s.2.2.2.2.1)=true:=by rw[r4];simp[BN]
     rw[this]
     simp),Am (i+1) (by omega) (by omega),hw32]
    unfold BN at r4 np
    refine AI (fun k:Int=>k) (Aa r.2.2.2) (fun _=>True) (fun R=>C5 (fun z:Int×Int×AV=>z.2.1) (fun z=>Fh s z.2.2∧LTi z.2.2=z.2.1∧LSe z.2.2=z.1∧0≤z.1∧z.1≤z.2.1) (fun R=>R=some true) i R) (by omega) (by omega) (by omega) trivial (fun k _ k0 k1=>?_) (fun k _ hk=>?_)
    ·obtain⟨v,hv,hvm⟩:=Au k0 k1
     have:=r5 v hvm
     try simp only
     rw[Af _ _ (decide_eq_true k1),Ab _ _ hv,Ag _ _ (decide_eq_false (by omega)),Ab _ _ hv,Ag _ _ (decide_eq_false (by omega)),Am (k+1) (by omega) (by omega)]
     exact ⟨rfl,trivial⟩
    ·try simp only
     rw[Ag _ _ (decide_eq_false (by omega))]
     exact ⟨rfl,n2,hyt,e1,by simp only;omega,by simp only;omega⟩
   ·obtain⟨e1,e2⟩:=T.off (.inl c)
    have hdue:(FX (wr .i64 (i+1)) s.2.2.2.2.2.2.2.2.2.1==0)=false:=by
     rw[Am (i+1) (by omega) (by omega),iK];simpa using c
    have hne:(s.2.2.2.2.2.2.2.2.2.1==0)=false:=by
     have:s.2.2.2.2.2.2.2.2.2.1≠0:=by omega
     simpa using this
    rw[e1]
    rw[Ab _ _ lX]
    try simp only
    rw[Ag _ _ (by rw[hup];simp[Aa]),Ab _ _ hip,hlost,Ag _ _ rfl,hne,Af (b:=!false) _ _ rfl,hdue,Af (b:=!false) _ _ rfl,Ag _ _ (by rfl),Am (i+1) (by omega) (by omega)]
    exact ⟨rfl,n2,hyt,e2,s0,by simp only;omega⟩
 ·obtain⟨sent,i,x⟩:=z
  simp only at hz
  try simp only
  rw[Ag _ _ (decide_eq_false (by omega))]
  rfl
end Go.Proofs.YtmmkfcpdfnjgjaaGreatDoor
namespace Go.Proofs.YtmmkfcpdfnjgjaaGreatDoor
open Go.Den
theorem aE (x:Ae×A6×List BY) (hf:Kd [Aj,AL,GK] x):GD x=some true:=by
 obtain⟨s,⟨d,⟨⟩⟩,l⟩:=x
 refine rD (Ae2 hf.1) ?_ ⟨fun p hp=>(hf.2.2.2 p hp).2.2.1.1⟩
 have h:d.length≤maxLen:=hf.2.1.1.1
 unfold maxLen at h
 unfold Aa
 omega
end Go.Proofs.YtmmkfcpdfnjgjaaGreatDoor
