/- Part of a plain reading of Go code: an evaluator of code as functions of typed data, and that it tells what the machine does. -/
import Derived.Test.YtmmkfcpdfnjgjaaGreatDoorDen2
import Derived.ProofKit
import Derived.KernelRfl
import Derived.Laws.BitsLemmas
import Derived.Lib.TrailingZeros
import Derived.Defers
namespace Go.Den
open Go.RowKit
theorem GA {w:World} {O:Nat→Prop} {μ:Ar}:∀ {ts:List Ty} {x:(AJ ts).interp} {vs:List Value},BU w O ts x vs→All2 (BI w O μ) (EM ts x) vs
 |[],_,_,h=>by have:_ = _:=h;rw[this];exact .nil
 |[t],_,_,⟨us,h,e⟩=>by rw[e];exact .cons (Lp t h) .nil
 |t::u::r,_,_,⟨us,vs',h,e,h2⟩=>by rw[e];exact .cons (Lp t h) (GA h2)
section
variable {B:Base} {R:RO} {st:St} {μ:Ar} {O:Nat→Prop} {w:World}
theorem LK {t:Ty} {v1:V1} {v:Value} {l:List t.interp} {ks:List Nat} (hM:RelM B R st μ O w) (hv:BW w O μ v1 v) (hd:Hw (st.obj R) (.slice t) v1=some (l,ks)) (hform:(match v1 with | .c (.ref _)=>true | .c .nils=>true|_=>false)=true) :
 ∃G,Ex B.base w B.F G t l v∧Keeps w O w (fun c=>B.F c∨G=some c)∧(∀k p b,G=some b→(∃o,st.obj R k=some o)→μ k=some p→p.block=some b→k∈ks)∧∀b,G=some b→¬B.F b:=by
 have hkN:Keeps w O w (fun c=>B.F c∨(none:Option Nat)=some c):=⟨Nat.le_refl _,fun b _ hb=>⟨fun hh=>hh.elim (fun h=>hb (hM.foreign b h)) (fun h=>by cases h),rfl⟩⟩
 cases v1 with
 |a cs=>cases hform
 |c c =>
 cases c with
 |int k n=>cases hform
 |bool b=>cases hform
 |sl t l=>cases hform
 |ptr k n=>cases hform
 |eptr k n=>cases hform
 |nilp=>cases hform
 |sub k a b=>cases hform
 |nils =>
  simp only[Hw,V1.cells,dec] at hd
  cases hd
  obtain⟨a,rfl⟩:=hv
  exact ⟨none,⟨a,0,rfl,by simp,Nat.zero_le _,.inl ⟨rfl,rfl⟩⟩,hkN,(fun k p b h=>by cases h),fun b h=>by cases h⟩
 |ref k =>
  simp only[Hw,V1.cells,dec] at hd
  cases hk:st.obj R k with
  |none=>rw[hk] at hd;cases hd
  |some o =>
   rw[hk] at hd
   cases o with
   |box cs=>cases hd
   |arr t' l' =>
    simp only at hd
    cases hc:G2 t' t l' with
    |none=>rw[hc] at hd;cases hd
    |some l2 =>
     rw[hc] at hd
     cases hd
     obtain⟨ht,hll⟩:∃h:t'=t,l=h▸l':=by
      unfold G2 at hc
      split at hc
      ·rename_i h _;cases hc;exact ⟨h.down,rfl⟩
      ·cases hc
     subst ht
     have hll:l=l':=hll
     subst hll
     obtain⟨a,len,cap,sz,hp,rfl⟩:=hv
     obtain⟨a',cap',hp',hl,hm,hr⟩:=hM.heap k _ hk
     rw[hp] at hp';cases hp'
     rcases hr with hr|⟨b,vs,e,rfl,hc',hs,hrow⟩
     ·exact ⟨none,⟨a,cap,rfl,hl,hm,.inl ⟨hr,rfl⟩⟩,hkN,(fun k p b h=>by cases h),fun b h=>by cases h⟩
     ·by_cases hc0:cap=0
      ·exact ⟨none,⟨_,cap,rfl,hl,hm,.inl ⟨hc0,rfl⟩⟩,hkN,(fun k p b h=>by cases h),fun b h=>by cases h⟩
      ·have hblk:(Place.arr (some ⟨b,0,none⟩) l.length cap t'.size).block=some b:=by simp[Place.block,hc0]
       obtain⟨h1,h2,h3⟩:=hM.own k _ hk _ b hp hblk
       have hkG:Keeps w O w (fun c=>B.F c∨some b=some c):=⟨Nat.le_refl _,fun b' _ hb=>⟨fun hh=>hh.elim (fun h=>hb (hM.foreign b' h)) (fun h=>by cases h;exact hb h1),rfl⟩⟩
       refine ⟨some b,⟨_,cap,rfl,hl,hm,.inr ⟨b,vs,e,hc0,rfl,rfl,h2.1,h3,hc',hs,RowOf.mono (fun _ _=>Bt hkG t') hrow⟩⟩,hkG,fun k' p b' hb' ⟨o',ho'⟩ hp' hpb=>?_,fun b' hb'=>by cases hb';exact h2.2⟩
       cases hb'
       have:=hM.inj k' k o' _ ho' hk p _ b hp' hp hpb hblk
       simp[this]
end
theorem aW {B:Base} {R:RO} {st:St} {μ:Ar} {O:Nat→Prop} {w:World} (hM:RelM B R st μ O w):∀ {ts:List Ty} {vs:List V1} {us:List Value} {y:(AJ ts).interp} {ks:List Nat},All2 (BW w O μ) vs us→BX (st.obj R) ts vs=some (y,ks) →
 (match vs with | .c (.ref _)::_=>true | .c .nils::_=>true|_=>false)=true→ks.Nodup→FV B.base w B.F true ts y us:=by
 intro ts vs us y ks hv ha hform hnd
 match ts,vs,y,hv,ha,hform with
 |[],_,_,_,_,_=>trivial
 |[.int _],_,_,_,_,_=>trivial
 |[.bool],_,_,_,_,_=>trivial
 |[.unit],_,_,_,_,_=>trivial
 |[.pair _ _],_,_,_,_,_=>trivial
 |.int _::_::_,_,_,_,_,_=>trivial
 |.bool::_::_,_,_,_,_,_=>trivial
 |.unit::_::_,_,_,_,_,_=>trivial
 |.pair _ _::_::_,_,_,_,_,_=>trivial
 |[.slice t],[v1],y,.cons h1 .nil,ha,hform =>
  have ha':Hw (st.obj R) (.slice t) v1=some (y,ks):=by
   simp only[BX] at ha
   split at ha
   ·exact ha
   ·cases ha
  obtain⟨G,h2,_⟩:=LK hM h1 ha' (by
   cases v1 with
   |a cs=>cases hform
   |c c=>cases c<;>first|rfl|cases hform)
  exact ⟨_,G,rfl,h2⟩
 |.slice t::u::r,v1::vs,y,.cons h1 h3,ha,hform =>
  simp only[BX] at ha
  split at ha
  ·rename_i x f xs g hf hd hr
   cases ha
   obtain⟨G,h2,hk,hbl,_⟩:=LK hM h1 hd (by
    cases v1 with
    |a cs=>cases hform
    |c c=>cases c<;>first|rfl|cases hform)
   refine ⟨_,_,G,rfl,h2,Dj hk hM.heap hr h3 fun k hkm p b hp hb=>?_⟩
   obtain⟨o,ho⟩:=IY hr k hkm
   obtain⟨g1,g2,g3⟩:=hM.own k o ho p b hp hb
   refine ⟨fun hh=>hh.elim (fun h=>g2.2 h) (fun h=>?_),g3⟩
   have:=hbl k p b h ⟨o,ho⟩ hp hb
   exact (List.nodup_append.1 hnd).2.2 k this k hkm rfl
  ·cases ha
theorem denote_eq {C:Ctx} {d:Nat} {i:Inl} {ats rts:List Ty} {fr:Bool} {x:(AJ ats).interp} :
 denote C d i ats rts fr x=B5 C (I8 C d) i.hints i.code {renv:=[],rheap:=[]} {env:=DF 0 (EM ats x),heap:=[],next:=0} (My C i rts fr) none:=by
 unfold denote
 congr 1
theorem Of {C:Ctx} {I:Inl} {rts:List Ty} {fr:Bool} {e:AExit} {st:St} {y:(AJ rts).interp} (h:My C I rts fr e st=some y) :
 ∃vs ks,GB C.P {renv:=[],rheap:=[]} st I.results=some vs∧BX (st.obj {renv:=[],rheap:=[]}) rts vs=some (y,ks)∧Ls fr vs ks=true:=by
 unfold My at h
 split at h
 ·cases h
 ·split at h
  ·rename_i vs hvs
   split at h
   ·rename_i y' ks hyk
    split at h
    ·rename_i hfa
     cases h
     exact ⟨vs,ks,hvs,hyk,hfa⟩
    ·cases h
   ·cases h
  ·cases h
theorem G6 {C:Ctx} {f:FuncId} {I:Inl} {sp:Al} (hC:∀f sp,C.tbl f=some sp→Ao C.P C.V f sp) (hP:(∀f sp,C.ptbl f=some sp→CH C.P C.V f sp)∧∀f sp,C.otbl f=some sp→Hq C.P C.V f sp) (hV:∀w w',Below w.heap.size w w'→C.V w→C.V w') (hm:C.P.follows .mixedOrders=true) (hI:∀f I,C.inl f=some I→FnOK C.P f I) (hf:FnOK C.P f I) (d:Nat)
 (h:∀x y,sp.fn x=some y→denote C d I sp.args sp.res sp.fresh x=some y) (ht:∀g,sp.tot=some g→∀x,sp.fn x=some (g x)):Ao C.P C.V f sp where
 enters:=hf.enters
 tot:=ht
 calls w F vals x y hVw hF hargs hy:=by
  have hden:=h x y hy
  rw[denote_eq] at hden
  have hB:∀k,¬(⟨w,fun _=>False,w.heap.size,F,[]⟩:Base).D k:=fun _ hk=>hk
  refine KE (B:=⟨w,fun _=>False,w.heap.size,F,[]⟩) (R:={renv:=[],rheap:=[]}) (Good:=fun a=>a=some y) (bad:=none) (μ:=fun _=>none) (O:=F) (h:=[]) (nx:=0) rfl ⟨hC,fun w' hb=>hV w w' hb hVw,hP⟩ hB hm (HZ ⟨hC,fun w' hb=>hV w w' hb hVw,hP⟩ hB hm hI d) (by simp) hf (GA hargs) (fun k hk=>absurd rfl hk)
   {heap:=fun k o hk=>by simp[St.obj,assoc] at hk
    own:=fun k o hk=>by simp[St.obj,assoc] at hk
    inj:=fun k k' o o' hk=>by simp[St.obj,assoc] at hk
    foreign:=fun b hb=>hb,flt:=fun _ _=>rfl,dom:=(fun k p hk=>by cases hk),below:=Below.refl _ _,bsize:=Nat.le_refl _,obound:=hF}
   (K:=My C I sp.res sp.fresh) (fun i st hh=>by cases hh) (fun e st μ' O' tmps w' g1 g2 g3 g4 g5 g6 g7=>?_) hden
  obtain⟨vs,ks,hvs,hyk,hfa⟩:=Of g7
  obtain⟨us,k1,k2⟩:=G8 g2 g3 hvs
  refine ⟨us,k1,us,rfl,g2.below,?_⟩
  have hkF:Keeps w' O' w' F:=⟨Nat.le_refl _,fun b _ hb=>⟨fun hh=>hb (g2.foreign b hh),rfl⟩⟩
  have hown:∀k∈ks,∀p b,μ' k=some p→p.block=some b→¬F b∧b<w'.heap.size:=fun k hk p b hp hb=>by
   obtain⟨o,ho⟩:=IY hyk k hk
   obtain⟨_,h2,h3⟩:=g2.own k o ho p b hp hb
   exact ⟨fun hh=>h2.2 hh,h3⟩
  cases hfr:sp.fresh with
  |false =>
   unfold FV
   exact Dj hkF g2.heap hyk k2 hown
  |true =>
   rw[hfr] at hfa
   simp only[Ls,Bool.and_eq_true] at hfa
   obtain⟨hform,hnd⟩:=hfa
   exact aW g2 k2 hyk hform (nodup_iff hnd)
theorem LL {t:Ty}:∀(ts:List Ty) (x:t.interp) (y:(AJ ts).interp),Ib ts (Dk ts x y)=x
 |[],_,_=>rfl
 |_::_,_,_=>rfl
theorem LW {t:Ty}:∀(ts:List Ty) (x:t.interp) (y:(AJ ts).interp),J4 ts (Dk ts x y)=y
 |[],_,_=>rfl
 |_::_,_,_=>rfl
def eL (C:Ctx) (I:Inl) (t1:Ty) (rts:List Ty) (e:AExit) (st:St):Option (AJ (t1::rts)).interp :=
 match e with
  |.exit _=>none
  |_=>match GB C.P {renv:=[],rheap:=[]} st I.results,assoc st.heap 0 with
   |some vs,some (.box cs)=>match dec (st.obj {renv:=[],rheap:=[]}) t1 cs,BX (st.obj {renv:=[],rheap:=[]}) rts vs with
    |some (z,[],_),some (y,_)=>some (Dk rts z y)
    |_,_=>none
   |_,_=>none
theorem vD {C:Ctx} {d:Nat} {i:Inl} {t0:Ty} {ats:List Ty} {t1:Ty} {rts:List Ty} {x:(AJ (t0::ats)).interp} :
 Ei C d i t0 ats t1 rts x=B5 C (I8 C d) i.hints i.code {renv:=[],rheap:=[]} {env:=DF 0 (.v (.c (.ptr 0 0))::EM ats (J4 ats x)),heap:=[(0,.box (enc t0 (Ib ats x)))],next:=1} (eL C i t1 rts) none:=by
 unfold Ei
 congr 1
theorem vA {C:Ctx} {I:Inl} {t1:Ty} {rts:List Ty} {e:AExit} {st:St} {y:(AJ (t1::rts)).interp} (h:eL C I t1 rts e st=some y) :
 ∃vs cs z ks y' ks',GB C.P {renv:=[],rheap:=[]} st I.results=some vs∧assoc st.heap 0=some (.box cs)∧dec (st.obj {renv:=[],rheap:=[]}) t1 cs=some (z,[],ks)∧BX (st.obj {renv:=[],rheap:=[]}) rts vs=some (y',ks')∧y=Dk rts z y':=by
 unfold eL at h
 split at h
 ·cases h
 ·split at h
  ·rename_i vs cs hvs hcs
   split at h
   ·rename_i z ks y' ks' hd ha
    cases h
    exact ⟨vs,cs,z,ks,y',ks',hvs,hcs,hd,ha,rfl⟩
   ·cases h
  ·cases h
theorem WW {C:Ctx} {f:FuncId} {I:Inl} {t0:Ty} {ts:List Ty} {t1:Ty} {rs:List Ty} {fn:(AJ (t0::ts)).interp→Option (AJ (t1::rs)).interp} {tot:Option ((AJ (t0::ts)).interp→(AJ (t1::rs)).interp)}
 (hC:∀f sp,C.tbl f=some sp→Ao C.P C.V f sp) (hP:(∀f sp,C.ptbl f=some sp→CH C.P C.V f sp)∧∀f sp,C.otbl f=some sp→Hq C.P C.V f sp) (hm:C.P.follows .mixedOrders=true) (hI:∀f I,C.inl f=some I→FnOK C.P f I) (hf:FnOK C.P f I) (d:Nat)
 (h:∀x y,fn x=some y→Ei C d I t0 ts t1 rs x=some y) (ht:∀g,tot=some g→∀x,fn x=some (g x)):CH C.P C.V f {args:=t0::ts,res:=t1::rs,fresh:=false,fn,tot} where
 enters:=hf.enters
 tot:=ht
 calls:=by
  intro n0 w F b el cur vals x xs y hV hnb hns hF hFb hcur hx hxs hy
  have hden:=h _ y hy
  rw[vD,LL,LW] at hden
  have hB:∀k,¬(⟨w,fun _=>False,n0,fun c=>F c∧c≠b,[]⟩:Base).D k:=fun _ hk=>hk
  have hobj:∀k o,({env:=[],heap:=[(0,.box (enc t0 x))],next:=1}:St).obj {renv:=[],rheap:=[]} k=some o→k=0∧o=.box (enc t0 x):=fun k o hk=>by
   have hk2:(match assoc [(0,AObj.box (enc t0 x))] k with|some o=>some o|none=>none)=some o:=hk
   rw[AM] at hk2
   by_cases h0:0=k
   ·rw[if_pos h0] at hk2;cases hk2;exact ⟨h0.symm,rfl⟩
   ·rw[if_neg h0] at hk2;cases hk2
  have hμ:∀k p,(fun k=>if k=0 then some (Place.box b) else none:Ar) k=some p→k=0∧p=.box b:=fun k p hk=>by
   simp only at hk
   split at hk
   ·rename_i h0;cases hk;exact ⟨h0,rfl⟩
   ·cases hk
  refine KE (B:=⟨w,fun _=>False,n0,fun c=>F c∧c≠b,[]⟩) (R:={renv:=[],rheap:=[]}) (Good:=fun a=>a=some y) (bad:=none) (μ:=fun k=>if k=0 then some (.box b) else none) (O:=F) (h:=[(0,.box (enc t0 x))]) (nx:=1) rfl ⟨hC,hV,hP⟩ hB hm (HZ ⟨hC,hV,hP⟩ hB hm hI d) (by simp) hf
   (us:=.pointer (some ⟨b,0,none⟩)::vals) (vs:=.v (.c (.ptr 0 0))::EM ts xs) (.cons ⟨b,by simp,rfl⟩ (GA hxs)) (fun k hk=>absurd rfl hk)
   {heap:=fun k o hk=>by
     obtain⟨rfl,rfl⟩:=hobj k o hk
     exact ⟨b,cur,el,by simp,hcur,FH t0 hx⟩
    own:=fun k o hk p c hp hc=>by
     obtain⟨rfl,rfl⟩:=hμ k p hp
     have:b=c:=by simpa[Place.block] using hc
     subst this
     exact ⟨hFb,⟨hnb,fun hh=>hh.2 rfl⟩,hF _ hFb⟩
    inj:=fun k k' o o' hk hk' p p' c hp hp' _ _=>by rw[(hobj k o hk).1,(hobj k' o' hk').1]
    foreign:=fun c hc=>hc.1,flt:=fun _ _=>rfl,dom:=(fun k p hk=>.inl (by rw[(hμ k p hk).1];exact Nat.one_pos)),below:=Below.refl _ _,bsize:=hns,obound:=hF}
   (K:=eL C I t1 rs) (fun i st hh=>by cases hh) (fun e st μ' O' tmps w' g1 g2 g3 g4 g5 g6 g7=>?_) hden
  obtain⟨vs,cs,z,ks,y',ks',hvs,hcs,hd,ha,rfl⟩:=vA g7
  obtain⟨us,k1,k2⟩:=G8 g2 g3 hvs
  have h0:μ' 0=some (.box b):=g4 0 _ (by simp)
  have hbx:st.obj {renv:=[],rheap:=[]} 0=some (.box cs):=by simp[St.obj,hcs]
  obtain⟨b',cur',el',hb',hcur',hcells⟩:=g2.heap 0 _ hbx
  rw[h0] at hb';cases hb'
  have hOb:=g2.own 0 _ hbx _ b h0 rfl
  have hkF:Keeps w' O' w' F:=⟨Nat.le_refl _,fun c _ hc=>⟨fun hh=>hc (by
   by_cases hcb:c=b
   ·subst hcb;exact hOb.1
   ·exact g2.foreign c ⟨hh,hcb⟩),rfl⟩⟩
  have hown:∀k,(∃t l,st.obj {renv:=[],rheap:=[]} k=some (.arr t l))→∀p c,μ' k=some p→p.block=some c→¬F c∧c<w'.heap.size:=fun k ⟨t,l,ho⟩ p c hp hc=>by
   obtain⟨_,h2,h3⟩:=g2.own k _ ho p c hp hc
   refine ⟨fun hh=>h2.2 ⟨hh,fun hcb=>?_⟩,h3⟩
   subst hcb
   have:=g2.inj k 0 _ _ ho hbx p _ c hp h0 hc rfl
   subst this
   rw[hbx] at ho;cases ho
  obtain⟨a1,a2,e1,hr0,ha2⟩:=Eh hkF g2.heap t1 hd hcells (fun k hk=>hown k (Gt t1 hd k hk))
  cases ha2
  rw[List.append_nil] at e1
  subst e1
  refine ⟨us,k1,us,cur',el',rfl,g2.below,fun c hc hcb=>?_,hcur',?_,?_⟩
  ·by_cases hFc:F c
   ·exact g2.flt c ⟨hFc,hcb⟩
   ·exact (g5.keep c hc hFc).2
  ·rw[LL];exact hr0
  ·rw[LW]
   exact Dj hkF g2.heap ha k2 (fun k hk=>hown k (Lh ha k hk))
def eM (C:Ctx) (I:Inl) (rts:List Ty) (e:AExit) (st:St):Option (AJ rts).interp :=
 match e with
  |.exit _=>none
  |_=>match GB C.P {renv:=[],rheap:=[]} st I.results with
   |some vs=>match BX (st.obj {renv:=[],rheap:=[]}) rts vs with
    |some (y,_)=>some y
    |none=>none
   |none=>none
theorem vE {C:Ctx} {d:Nat} {i:Inl} {t0:Ty} {ats rts:List Ty} {x:(AJ (t0::ats)).interp} :
 M0 C d i t0 ats rts x=B5 C (I8 C d) i.hints i.code {renv:=[],rheap:=[]} {env:=DF 0 (.iptr (enc t0 (Ib ats x))::EM ats (J4 ats x)),heap:=[],next:=0} (eM C i rts) none:=by
 unfold M0
 congr 1
theorem vB {C:Ctx} {I:Inl} {rts:List Ty} {e:AExit} {st:St} {y:(AJ rts).interp} (h:eM C I rts e st=some y) :
 ∃vs ks,GB C.P {renv:=[],rheap:=[]} st I.results=some vs∧BX (st.obj {renv:=[],rheap:=[]}) rts vs=some (y,ks):=by
 unfold eM at h
 split at h
 ·cases h
 ·split at h
  ·rename_i vs hvs
   split at h
   ·rename_i y' ks' ha
    cases h
    exact ⟨vs,ks',hvs,ha⟩
   ·cases h
  ·cases h
theorem WX {C:Ctx} {f:FuncId} {I:Inl} {t0:Ty} {ts rs:List Ty} {fn:(AJ (t0::ts)).interp→Option (AJ rs).interp} {tot:Option ((AJ (t0::ts)).interp→(AJ rs).interp)}
 (hC:∀f sp,C.tbl f=some sp→Ao C.P C.V f sp) (hP:(∀f sp,C.ptbl f=some sp→CH C.P C.V f sp)∧∀f sp,C.otbl f=some sp→Hq C.P C.V f sp) (hV:∀w w',Below w.heap.size w w'→C.V w→C.V w') (hm:C.P.follows .mixedOrders=true) (hI:∀f I,C.inl f=some I→FnOK C.P f I) (hf:FnOK C.P f I) (d:Nat)
 (h:∀x y,fn x=some y→M0 C d I t0 ts rs x=some y) (ht:∀g,tot=some g→∀x,fn x=some (g x)):CH C.P C.V f {args:=t0::ts,res:=rs,fresh:=true,fn,tot} where
 enters:=hf.enters
 tot:=ht
 calls:=by
  intro w F b el cur vals x xs y hVw hF hFb hb hcur hx hxs hy
  have hden:=h _ y hy
  rw[vE,LL,LW] at hden
  have hB:∀k,¬(⟨w,fun _=>False,w.heap.size,F,[]⟩:Base).D k:=fun _ hk=>hk
  refine KE (B:=⟨w,fun _=>False,w.heap.size,F,[]⟩) (R:={renv:=[],rheap:=[]}) (Good:=fun a=>a=some y) (bad:=none) (μ:=fun _=>none) (O:=F) (h:=[]) (nx:=0) rfl ⟨hC,fun w' hb=>hV w w' hb hVw,hP⟩ hB hm (HZ ⟨hC,fun w' hb=>hV w w' hb hVw,hP⟩ hB hm hI d) (by simp) hf
   (us:=.pointer (some ⟨b,0,none⟩)::vals) (vs:=.iptr (enc t0 x)::EM ts xs) (.cons ⟨b,0,cur.toList,rfl,hFb,hb,Kg hcur,FH t0 hx⟩ (GA hxs)) (fun k hk=>absurd rfl hk)
   {heap:=fun k o hk=>by simp[St.obj,assoc] at hk
    own:=fun k o hk=>by simp[St.obj,assoc] at hk
    inj:=fun k k' o o' hk=>by simp[St.obj,assoc] at hk
    foreign:=fun b hb=>hb,flt:=fun _ _=>rfl,dom:=(fun k p hk=>by cases hk),below:=Below.refl _ _,bsize:=Nat.le_refl _,obound:=hF}
   (K:=eM C I rs) (fun i st hh=>by cases hh) (fun e st μ' O' tmps w' g1 g2 g3 g4 g5 g6 g7=>?_) hden
  obtain⟨vs,ks,hvs,hyk⟩:=vB g7
  obtain⟨us,k1,k2⟩:=G8 g2 g3 hvs
  refine ⟨us,k1,us,rfl,g2.below,?_⟩
  have hkF:Keeps w' O' w' F:=⟨Nat.le_refl _,fun b _ hb=>⟨fun hh=>hb (g2.foreign b hh),rfl⟩⟩
  exact Dj hkF g2.heap hyk k2 fun k hk p b hp hb=>by
   obtain⟨o,ho⟩:=IY hyk k hk
   obtain⟨_,h2,h3⟩:=g2.own k o ho p b hp hb
   exact ⟨fun hh=>h2.2 hh,h3⟩
theorem vC {C:Ctx} {d:Nat} {i:Inl} {t:Ty} {ats:List Ty} {t':Ty} {rts:List Ty} {x:(AJ (.slice t::ats)).interp} :
 UJ C d i t ats t' rts x=B5 C (I8 C d) i.hints i.code {renv:=[],rheap:=[]} {env:=DF 0 (.v (.c (.ref 0))::EM ats (J4 ats x)),heap:=[(0,.arr t (Ib (t:=.slice t) ats x))],next:=1} (My C i (.slice t'::rts) true) none:=by
 rfl
theorem WV {C:Ctx} {f:FuncId} {I:Inl} {t:Ty} {ts:List Ty} {t':Ty} {rs:List Ty} {fr:Bool} {fn:(AJ (.slice t::ts)).interp→Option (AJ (.slice t'::rs)).interp} {tot:Option ((AJ (.slice t::ts)).interp→(AJ (.slice t'::rs)).interp)}
 (hC:∀f sp,C.tbl f=some sp→Ao C.P C.V f sp) (hP:(∀f sp,C.ptbl f=some sp→CH C.P C.V f sp)∧∀f sp,C.otbl f=some sp→Hq C.P C.V f sp) (hm:C.P.follows .mixedOrders=true) (hI:∀f I,C.inl f=some I→FnOK C.P f I) (hf:FnOK C.P f I) (d:Nat)
 (h:∀x y,fn x=some y→UJ C d I t ts t' rs x=some y) (ht:∀g,tot=some g→∀x,fn x=some (g x)):Hq C.P C.V f {args:=.slice t::ts,res:=.slice t'::rs,fresh:=fr,fn,tot} where
 enters:=hf.enters
 tot:=ht
 calls:=by
  intro n0 w F G v l vals xs y hV hns hF hown hxs hy hs1 hs2
  have hden:=h _ y hy
  have e1:Ib (t:=.slice t) ts (Dk (t:=.slice t) ts l xs)=l:=LL (t:=.slice t) ts l xs
  have e2:J4 (t:=.slice t) ts (Dk (t:=.slice t) ts l xs)=xs:=LW (t:=.slice t) ts l xs
  rw[vC,e1,e2] at hden
  obtain⟨a,cap,ev,hl,hmx,hr⟩:=hown
  let p0:Place:=.arr a l.length cap t.size
  have hblk:p0.block=G:=by
   rcases hr with ⟨hc,hg⟩|⟨b,vs,el,hc,hg,ha,_⟩
   ·subst hc;subst hg;cases a<;>simp[p0,Place.block]
   ·subst hg;subst ha;simp[p0,Place.block,hc]
  have hGF:∀b,G=some b→F b∧n0≤b:=fun b hb=>by
   rcases hr with ⟨hc,hg⟩|⟨b',vs,el,hc,hg,ha,h4,h5,_⟩
   ·rw[hg] at hb;cases hb
   ·rw[hg] at hb;cases hb;exact ⟨h4,h5⟩
  have hB:∀k,¬(⟨w,fun _=>False,n0,fun c=>F c∧G≠some c,[]⟩:Base).D k:=fun _ hk=>hk
  have hobj:∀k o,({env:=[],heap:=[(0,.arr t l)],next:=1}:St).obj {renv:=[],rheap:=[]} k=some o→k=0∧o=.arr t l:=fun k o hk=>by
   have hk2:(match assoc [(0,AObj.arr t l)] k with|some o=>some o|none=>none)=some o:=hk
   rw[AM] at hk2
   by_cases h0:0=k
   ·rw[if_pos h0] at hk2;cases hk2;exact ⟨h0.symm,rfl⟩
   ·rw[if_neg h0] at hk2;cases hk2
  have hμ:∀k p,(fun k=>if k=0 then some p0 else none:Ar) k=some p→k=0∧p=p0:=fun k p hk=>by
   simp only at hk
   split at hk
   ·rename_i h0;cases hk;exact ⟨h0,rfl⟩
   ·cases hk
  refine KE (B:=⟨w,fun _=>False,n0,fun c=>F c∧G≠some c,[]⟩) (R:={renv:=[],rheap:=[]}) (Good:=fun a=>a=some y) (bad:=none) (μ:=fun k=>if k=0 then some p0 else none) (O:=F) (h:=[(0,.arr t l)]) (nx:=1) rfl ⟨hC,hV,hP⟩ hB hm (HZ ⟨hC,hV,hP⟩ hB hm hI d) (by simp) hf
   (us:=v::vals) (vs:=.v (.c (.ref 0))::EM ts xs) (.cons ⟨a,l.length,cap,t.size,by simp[p0],ev⟩ (GA hxs)) (fun k hk=>absurd rfl hk)
   {heap:=fun k o hk=>by
     obtain⟨rfl,rfl⟩:=hobj k o hk
     refine ⟨a,cap,by simp[p0],hl,hmx,?_⟩
     rcases hr with ⟨hc,hg⟩|⟨b',vs,el,hc,hg,ha,h4,h5,h6,h7,h8⟩
     ·exact .inl hc
     ·exact .inr ⟨b',vs,el,ha,h6,h7,h8⟩
    own:=fun k o hk p c hp hc=>by
     obtain⟨rfl,rfl⟩:=hμ k p hp
     rw[hblk] at hc
     exact ⟨(hGF c hc).1,⟨(hGF c hc).2,fun hh=>hh.2 hc⟩,hF _ (hGF c hc).1⟩
    inj:=fun k k' o o' hk hk' p p' c hp hp' _ _=>by rw[(hobj k o hk).1,(hobj k' o' hk').1]
    foreign:=fun c hc=>hc.1,flt:=fun _ _=>rfl,dom:=(fun k p hk=>.inl (by rw[(hμ k p hk).1];exact Nat.one_pos)),below:=Below.refl _ _,bsize:=hns,obound:=hF}
   (K:=My C I (.slice t'::rs) true) (fun i st hh=>by cases hh) (fun e st μ' O' tmps w' g1 g2 g3 g4 g5 g6 g7=>?_) hden
  obtain⟨vs,ks,hvs,hyk,hfa⟩:=Of g7
  obtain⟨us,k1,k2⟩:=G8 g2 g3 hvs
  simp only[Ls,Bool.and_eq_true] at hfa
  obtain⟨hform,hnd⟩:=hfa
  have hkeep:∀c,c<w.heap.size→G≠some c→w'.heap[c]?=w.heap[c]?:=fun c hc hG=>by
   by_cases hFc:F c
   ·exact g2.flt c ⟨hFc,hG⟩
   ·exact (g5.keep c hc hFc).2
  have hnew:∀ {G':Option Nat} {tt:Ty} {ll:List tt.interp} {vv:Value},Ex n0 w' (fun c=>F c∧G≠some c) G' tt ll vv→Keeps w' O' w' (fun c=>(F c∧G≠some c)∨G'=some c)→(∀b,G'=some b→¬(F b∧G≠some b))→∀b,G'=some b→G=some b∨w.heap.size≤b:=fun {G' tt ll vv} hf hk hn b hb=>by
   by_cases hlt:b<w.heap.size
   ·left
    have hb2:b<w'.heap.size:=Nat.lt_of_lt_of_le hlt g5.size
    have hO:O' b:=Classical.byContradiction fun hO=>(hk.keep b hb2 hO).1 (.inr hb)
    have hFb:F b:=Classical.byContradiction fun hFb=>(g5.keep b hlt hFb).1 hO
    exact Classical.byContradiction fun hG=>hn b hb ⟨hFb,hG⟩
   ·right;omega
  match rs,vs,y,hyk,k2,hform,hs2 with
  |[],[v1],y,hyk,.cons h1 .nil,hform,_ =>
   have ha':Hw (st.obj {renv:=[],rheap:=[]}) (.slice t') v1=some (y,ks):=by
    simp only[BX] at hyk
    split at hyk
    ·exact hyk
    ·cases hyk
   obtain⟨G',h2,h3,_,h4⟩:=LK g2 h1 ha' (by
    cases v1 with
    |a cs=>cases hform
    |c c=>cases c<;>first|rfl|cases hform)
   exact ⟨_,k1,_,[],G',rfl,g2.below,hkeep,hnew h2 h3 h4,Qm hs1 h2,rfl⟩
  |u::r,v1::vs,y,hyk,.cons h1 h3,hform,hs2 =>
   simp only[BX] at hyk
   split at hyk
   ·rename_i x f xs' g hf' hd hr'
    cases hyk
    obtain⟨G',h2,h4,_,h5⟩:=LK g2 h1 hd (by
     cases v1 with
     |a cs=>cases hform
     |c c=>cases c<;>first|rfl|cases hform)
    have hK0:Keeps w' O' w' O':=Keeps.refl _ _
    refine ⟨_,k1,_,_,G',rfl,g2.below,hkeep,hnew h2 h4 h5,Qm hs1 h2,?_⟩
    let F2:Nat→Prop:=fun c=>O' c∧∀k∈g,∀p,μ' k=some p→p.block≠some c
    have hKF:Keeps w' O' w' F2:=⟨Nat.le_refl _,fun c _ hc=>⟨fun hh=>hc hh.1,rfl⟩⟩
    have hra:=Dj hKF g2.heap hr' h3 (fun k hk p c hp hc=>by
     obtain⟨o,ho⟩:=IY hr' k hk
     exact ⟨fun hh=>hh.2 k hk p hp hc,(g2.own k o ho p c hp hc).2.2⟩)
    exact GP hs2 hra
   ·cases hyk
end Go.Den
namespace Go.Den
open Go.RowKit Go.ChangeShapes
mutual
def QD (P:Program):Nat→TypeId→Ty→Bool
 |0,_,_=>false
 |n+1,t,T=>match P.underlying t with
  |some .bool=>match T with
   |.bool=>true
   |_=>false
  |some (.int k)=>match T with
   |.int k'=>Ma k k'
   |_=>false
  |some (.slice e)=>match T with
   |.slice T'=>QD P n e T'&&Nat.beq (P.cellsOf e) T'.size&&!(Nat.beq T'.size 0)
   |_=>false
  |some (.struct fs)=>T.isAgg&&Nat.beq (P.cellsOf t) T.size&&J8 P n fs.toList 0 T
  |_=>false
def J8 (P:Program):Nat→List Field→Nat→Ty→Bool
 |0,_,_,_=>false
 |_+1,[],_,T=>match T with
  |.unit=>true
  |_=>false
 |n+1,f::r,off,T=>match T with
  |.pair a b=>Nat.beq f.offset off&&Nat.beq (P.cellsOf f.type) a.size&&QD P n f.type a&&(match r with
   |[g]=>match b with
    |.unit=>J8 P n [g] (off+a.size) b
    |b=>Nat.beq g.offset (off+a.size)&&Nat.beq (P.cellsOf g.type) b.size&&QD P n g.type b
   |r=>J8 P n r (off+a.size) b)
  |_=>false
end
section
variable {H:Type} {enc:TypeId×Value→H} {P:Program} {w:World} {spare:Nat→Bool} {held:Bool}
theorem kL {b off:Nat} {c1 c2:List Value} (h1:w.rangeAt b off c1) (h2:w.rangeAt b (off+c1.length) c2):w.rangeAt b off (c1++c2):=fun j v hv=>by
 by_cases hj:j<c1.length
 ·rw[List.getElem?_append_left hj] at hv;exact h1 j v hv
 ·rw[List.getElem?_append_right (by omega)] at hv
  have:=h2 _ v hv
  rwa [show off+c1.length+(j-c1.length)=off+j by omega] at this
theorem oP {b off n:Nat} {cs:List Value} (h:w.cells? 0 ⟨b,off,none⟩ n=some cs):w.rangeAt b off cs∧cs.length=n:=by
 obtain⟨_,h2,h3⟩:=World.cells?_some h
 refine ⟨fun j v hv=>?_,h2⟩
 have hj:j<n:=by rw[←h2];exact (List.getElem?_eq_some_iff.1 hv).1
 have:=h3 j hj
 rw[Addr.add_mid,hv] at this
 exact this
def Dat {H:Type}:(T:Ty)→T.interp→DataW H→Prop
 |.int k,n,d=>d=.lit (.int k n)
 |.bool,b,d=>d=.lit (.bool b)
 |.slice t,l,d=>(l=([]:List t.interp)∧d=.nil)∨∃ds sp,d=.slice ds sp∧All2 (Dat t) l ds
 |.unit,_,d=>d=.agg []
 |.pair a b,x,d=>∃d1 ds,d=.agg (d1::ds)∧Dat a x.1 d1∧(Dat b x.2 (.agg ds)∨∃d2,ds=[d2]∧Dat b x.2 d2)
theorem bS {T:Ty} {b off:Nat} {ds:Nat→DataW H}:∀(m:Nat),(∀i,i<m→∃cs x,w.cells? 0 ⟨b,off+i*T.size,none⟩ T.size=some cs∧Reads w (fun _=>False) T x cs∧Dat T x (ds i)) →
 ∃(l:List T.interp) (cs:List Value),l.length=m∧cs.length=m*T.size∧w.rangeAt b off cs∧RowOf (Reads w (fun _=>False) T) l cs∧All2 (Dat T) l ((List.range m).map ds)
 |0,_=>⟨[],[],rfl,by simp,fun j v hv=>by simp at hv,rfl,.nil⟩
 |m+1,h=>by
  obtain⟨l,cs,h1,h2,h3,h4,h9⟩:=bS m fun i hi=>h i (by omega)
  obtain⟨cs',x,h5,h6,h10⟩:=h m (by omega)
  obtain⟨h7,h8⟩:=oP h5
  refine ⟨l++[x],cs++cs',by simp[h1],by rw[List.length_append,h2,h8,Nat.add_mul];omega,kL h3 (by rw[h2];exact h7),RowOf.append h4 ⟨cs',[],by simp,h6,rfl⟩,?_⟩
  rw[List.range_succ,List.map_append]
  exact h9.append (.cons h10 .nil)
theorem y8 {a:Addr} {v:Value} (h:w.cell? a=some v):a.spot=none∧a.block<w.heap.size:=by
 refine ⟨?_,World.block_lt_of_cell? w a h⟩
 unfold World.cell? at h
 split at h
 ·split at h
  ·cases h
  ·rename_i hs;simpa using hs
 ·cases h
mutual
theorem Oo:∀(n:Nat) (t:TypeId) (T:Ty) (fuel:Nat) (cs:List Value) (x:DataW H×List MemPlace),QD P n t T=true→DataW.trod enc P w 0 spare held fuel t cs=some x→∃y,Reads w (fun _=>False) T y cs∧Dat T y x.1
 |0,_,_,_,_,_,h,_=>by cases h
 |n+1,t,T,fuel,cs,x,h,hx=>by
  simp only[QD] at h
  cases hu:P.underlying t with
  |none=>rw[hu] at h;cases h
  |some d =>
  rw[hu] at h
  cases d<;>simp only[Bool.false_eq_true] at h
  case bool =>
   split at h
   ·obtain⟨b,rfl,rfl⟩:=DataW.trod_bool hu hx
    exact ⟨b,rfl,rfl⟩
   ·cases h
  case int k =>
   split at h
   ·have:=Ja h
    subst this
    obtain⟨m,rfl,rfl,hw⟩:=DataW.trod_int hu hx
    exact ⟨m,⟨rfl,hw⟩,rfl⟩
   ·cases h
  case slice e =>
   split at h
   ·rename_i T'
    simp only[Bool.and_eq_true] at h
    obtain⟨⟨h1,h2⟩,h3⟩:=h
    have h2:=beq_true h2
    have h3:T'.size≠0:=fun e=>by rw[e] at h3;simp[Nat.beq_refl] at h3
    rcases DataW.trod_slice hu hx with ⟨rfl,rfl⟩|⟨a,len,cap,elems,rest,m,rfl,rfl,rfl,_,hl,hc,hel,hget,_,_⟩
    ·exact ⟨([]:List T'.interp),⟨none,0,rfl,Nat.le_refl _,Nat.zero_le _,.inl rfl⟩,.inl ⟨rfl,rfl⟩⟩
    ·by_cases h0:len=0
     ·subst h0
      have:elems=[]:=List.eq_nil_of_length_eq_zero hel
      subst this
      exact ⟨([]:List T'.interp),⟨some a,cap,rfl,Nat.zero_le _,hc,.inl rfl⟩,.inr ⟨[],_,rfl,.nil⟩⟩
     ·have each:∀i,i<len→∃cs z,w.cells? 0 (a.add (i*T'.size)) T'.size=some cs∧elems[i]?=some z∧DataW.trod enc P w 0 spare held m e cs=some z:=fun i hi=>by
       have:=hget i hi
       rw[h2] at this
       cases hcs:w.cells? 0 (a.add (i*T'.size)) T'.size with
       |none=>rw[hcs] at this;simp at this;omega
       |some cs =>
        rw[hcs] at this
        simp only[Option.bind_some] at this
        have hz:elems[i]?=some elems[i]:=by simp[hel,hi]
        exact ⟨cs,elems[i],rfl,hz,by rw[this,hz]⟩
      obtain⟨cs0,_,hc0,_,_⟩:=each 0 (by omega)
      obtain⟨_,_,hcell⟩:=World.cells?_some hc0
      have hc00:=hcell 0 (by omega)
      have hl0:cs0.length=T'.size:=(World.cells?_some hc0).2.1
      have hv0:cs0[0]?=some cs0[0]:=by simp
      rw[hv0] at hc00
      have haz:(a.add (0*T'.size)).add 0=a:=by simp[Addr.add]
      rw[haz] at hc00
      obtain⟨hs,hb⟩:=y8 hc00
      obtain⟨ab,ao,asp⟩:=a
      simp only at hs hb
      subst hs
      obtain⟨l,cells,g1,g2,g3,g4,g5⟩:=bS (w:=w) (T:=T') (b:=ab) (off:=ao) (ds:=fun i=>((elems[i]?).map (·.1)).getD .nil) len fun i hi=>by
       obtain⟨cs,z,k1,k2,k3⟩:=each i hi
       obtain⟨y,k4,k5⟩:=Oo n e T' m cs z h1 k3
       exact ⟨cs,y,by rw[←Addr.add_mid];exact k1,k4,by simp only[k2,Option.map_some,Option.getD_some];exact k5⟩
      refine ⟨l,⟨some ⟨ab,ao,none⟩,cap,by rw[g1],by rw[g1];exact hl,hc,.inr ⟨ab,ao,cells,rfl,fun h=>h,hb,g3,g4⟩⟩,.inr ⟨_,_,rfl,?_⟩⟩
      have:(List.range len).map (fun i=>((elems[i]?).map (·.1)).getD .nil)=elems.map (·.1):=by
       apply List.ext_getElem
       ·simp[hel]
       ·intro i h1 h2
        simp at h1 h2
        simp[h2]
      rw[←this];exact g5
   ·cases h
  case struct fs =>
   simp only[Bool.and_eq_true] at h
   obtain⟨⟨h0,h1⟩,h2⟩:=h
   obtain⟨xs,m,rfl,rfl,hlen,hxl,hget⟩:=DataW.trod_struct hu hx
   have hsz:cs.length=T.size:=by rw[hlen];exact beq_true h1
   obtain⟨y,g1,g2⟩:=VV n fs.toList 0 T m cs xs h2 (by simpa using hxl) (fun i f hf=>hget i f (by simpa using hf)) (by omega)
   exact ⟨y,by simpa using g1,g2⟩
theorem VV:∀(n:Nat) (fs:List Field) (off:Nat) (T:Ty) (fuel:Nat) (cs:List Value) (xs:List (DataW H×List MemPlace)),J8 P n fs off T=true→xs.length=fs.length →
 (∀(i:Nat) (f:Field),fs[i]?=some f→DataW.trod enc P w 0 spare held fuel f.type ((cs.drop f.offset).take (P.cellsOf f.type))=xs[i]?)→cs.length=off+T.size→∃y,Reads w (fun _=>False) T y (cs.drop off)∧Dat T y (.agg (xs.map (·.1)))
 |0,_,_,_,_,_,_,h,_,_,_=>by cases h
 |n+1,[],off,T,fuel,cs,xs,h,hxl,_,hl=>by
  simp only[J8] at h
  split at h
  ·have:xs=[]:=List.eq_nil_of_length_eq_zero hxl
   subst this
   refine ⟨(),?_,rfl⟩
   show cs.drop off=[]
   simp only[Ty.size] at hl
   simp[hl]
  ·cases h
 |n+1,f::r,off,T,fuel,cs,xs,h,hxl,hget,hl=>by
  simp only[J8] at h
  split at h
  ·rename_i a b
   simp only[Bool.and_eq_true] at h
   obtain⟨⟨⟨h1,h2⟩,h3⟩,h4⟩:=h
   have h1:=beq_true h1
   have h2:=beq_true h2
   simp only[Ty.size] at hl
   cases xs with
   |nil=>simp at hxl
   |cons x xs =>
    have hx:=hget 0 f rfl
    simp only[List.getElem?_cons_zero,h1,h2] at hx
    obtain⟨y,g1,g2⟩:=Oo n f.type a fuel _ x h3 hx
    have hrest:∀(i:Nat) (f:Field),r[i]?=some f→DataW.trod enc P w 0 spare held fuel f.type ((cs.drop f.offset).take (P.cellsOf f.type))=xs[i]?:=fun i f hf=>by
     have:=hget (i+1) f (by simpa using hf)
     simpa using this
    have fin:∀(z:b.interp),Reads w (fun _=>False) b z (cs.drop (off+a.size))→(Dat b z (.agg (xs.map (·.1)))∨∃d2,xs.map (·.1)=[d2]∧Dat b z d2)→∃y,Reads w (fun _=>False) (.pair a b) y (cs.drop off)∧Dat (.pair a b) y (.agg ((x::xs).map (·.1))):=fun z k1 k2=>by
     refine ⟨(y,z),⟨_,_,?_,g1,k1⟩,x.1,xs.map (·.1),rfl,g2,k2⟩
     rw[←List.drop_drop,List.take_append_drop]
    have viaFields:J8 P n r (off+a.size) b=true→∃y,Reads w (fun _=>False) (.pair a b) y (cs.drop off)∧Dat (.pair a b) y (.agg ((x::xs).map (·.1))):=fun hh=>by
     obtain⟨z,k1,k2⟩:=VV n r (off+a.size) b fuel cs xs hh (by simpa using hxl) hrest (by omega)
     exact fin z k1 (.inl k2)
    have viaOne:∀g,r=[g]→(Nat.beq g.offset (off+a.size)&&Nat.beq (P.cellsOf g.type) b.size&&QD P n g.type b)=true→∃y,Reads w (fun _=>False) (.pair a b) y (cs.drop off)∧Dat (.pair a b) y (.agg ((x::xs).map (·.1))):=fun g hr hh=>by
     subst hr
     simp only[Bool.and_eq_true] at hh
     obtain⟨⟨e1,e2⟩,e3⟩:=hh
     have e1:=beq_true e1
     have e2:=beq_true e2
     have hx2:=hrest 0 g rfl
     cases xs with
     |nil=>simp at hxl
     |cons x2 xs2 =>
      have:xs2=[]:=List.eq_nil_of_length_eq_zero (by simpa using hxl)
      subst this
      simp only[List.getElem?_cons_zero,e1,e2] at hx2
      rw[List.take_of_length_le (by simp;omega)] at hx2
      obtain⟨z,k1,k2⟩:=Oo n g.type b fuel _ x2 e3 hx2
      exact fin z k1 (.inr ⟨x2.1,rfl,k2⟩)
    split at h4
    ·rename_i g
     split at h4
     ·exact viaFields h4
     ·exact viaOne g rfl h4
    ·exact viaFields h4
  ·cases h
end
end
end Go.Den
namespace Go.Den
open Go.RowKit Go.ChangeShapes
def UR (P:Program) (n:Nat):List TypeId→List Ty→Bool
 |[],[]=>true
 |t::ts,T::Ts=>QD P n t T&&P.readableRec t&&Nat.blt t P.types.size&&UR P n ts Ts
 |_,_=>false
def Xd {H:Type}:(ts:List Ty)→(AJ ts).interp→List (DataW H)→Prop
 |[],_,ds=>ds=[]
 |[t],x,ds=>∃d,ds=[d]∧Dat t x d
 |t::u::r,x,ds=>∃d ds',ds=d::ds'∧Dat t x.1 d∧Xd (u::r) x.2 ds'
def Fits:(T:Ty)→T.interp→Prop
 |.int k,n=>LE.le (α:=Int) k.min n∧LE.le (α:=Int) n k.max
 |.bool,_=>True
 |.slice t,l=>List.length (α:=t.interp) l≤maxLen∧∀x,List.Mem (α:=t.interp) x l→Fits t x
 |.unit,_=>True
 |.pair a b,x=>Fits a x.1∧Fits b x.2
def Kd:(ts:List Ty)→(AJ ts).interp→Prop
 |[],_=>True
 |[t],x=>Fits t x
 |t::u::r,x=>Fits t x.1∧Kd (u::r) x.2
theorem RowOf.each {α:Type} {R:α→List Value→Prop}:∀ {l:List α} {vs:List Value},RowOf R l vs→∀x,List.Mem x l→∃us,R x us
 |[],_,_,_,hx=>by cases hx
 |_::_,_,⟨v1,v2,_,h1,h2⟩,x,hx=>by
  cases hx with
  |head=>exact ⟨v1,h1⟩
  |tail _ hx=>exact RowOf.each h2 x hx
theorem KP {w:World} {O:Nat→Prop}:∀(T:Ty) {x:T.interp} {vs:List Value},Reads w O T x vs→Fits T x
 |.int k,n,_,⟨_,h⟩=>by
  unfold inR at h
  simpa only[Fits,Bool.and_eq_true,decide_eq_true_eq] using h
 |.bool,_,_,_=>trivial
 |.unit,_,_,_=>trivial
 |.pair a b,_,_,⟨_,_,_,h1,h2⟩=>⟨KP a h1,KP b h2⟩
 |.slice t,l,_,⟨a,cap,_,hl,hm,hr⟩=>by
  refine ⟨Nat.le_trans hl hm,fun x hx=>?_⟩
  rcases hr with hr|⟨_,_,_,_,_,_,_,hrow⟩
  ·have h0:l=([]:List t.interp):=List.eq_nil_of_length_eq_zero hr
   subst h0;cases hx
  ·obtain⟨us,hu⟩:=hrow.each x hx
   exact KP t hu
theorem MA {w:World} {O:Nat→Prop}:∀ {ts:List Ty} {x:(AJ ts).interp} {vs:List Value},BU w O ts x vs→Kd ts x
 |[],_,_,_=>trivial
 |[t],_,_,⟨_,h,_⟩=>KP t h
 |t::_::_,_,_,⟨_,_,h,_,h2⟩=>⟨KP t h,MA h2⟩
section
variable {H:Type} {enc:TypeId×Value→H} {P:Program} {w:World}
theorem wX {n:Nat} {t:TypeId} {T:Ty} {v:Value} {base:Nat} (h:QD P n t T=true) (hv:Value.okWide P w .any base t v):v=valOf T v.cells.toList:=by
 cases n with
 |zero=>cases h
 |succ n =>
  simp only[QD] at h
  unfold Value.okWide at hv
  cases hu:P.underlying t with
  |none=>rw[hu] at h;cases h
  |some d =>
  rw[hu] at h hv
  cases d<;>simp only[Bool.false_eq_true] at h
  case struct fs =>
   simp only[Bool.and_eq_true] at h
   obtain⟨cs,rfl,_⟩:=hv
   simp[valOf,h.1.1,Value.cells]
  all_goals
   simp only[Cell.okWide,Cell.ok,hu] at hv
   split at h
   case h_2=>cases h
   cases v<;>simp_all[valOf,Ty.isAgg,Value.cells]
theorem readAll (n:Nat):∀ {ts:List TypeId} {Ts:List Ty} {vs:List Value} {ds:List (DataW H)} {ps:List MemPlace} {base:Nat},UR P n ts Ts=true→DataW.TrodAll enc P w 0 (fun _=>true) true ts vs ds ps →
 (∀(j:Nat) t v,ts[j]?=some t→vs[j]?=some v→Value.okWide P w .any base t v)→∃x,BU w (fun _=>False) Ts x vs∧Xd Ts x ds
 |[],Ts,vs,ds,ps,base,h,ht,_=>by
  cases Ts with
  |nil =>
   obtain⟨rfl,rfl,rfl⟩:=trodAll_nil ht
   exact ⟨(),rfl,rfl⟩
  |cons T Ts=>cases h
 |t::ts,Ts,vs,ds,ps,base,h,ht,hv=>by
  cases Ts with
  |nil=>cases h
  |cons T Ts =>
   simp only[UR,Bool.and_eq_true] at h
   obtain⟨⟨⟨h1,_⟩,_⟩,h2⟩:=h
   obtain⟨v,vs',d,ds',p,q,rfl,rfl,rfl,⟨fuel,hd⟩,hrest⟩:=trodAll_cons ht
   obtain⟨y,k1,k2⟩:=Oo n t T fuel _ _ h1 hd
   have hval:=wX h1 (hv 0 t v rfl rfl)
   obtain⟨x,k3,k4⟩:=readAll n h2 hrest fun j t v h3 h4=>hv (j+1) t v (by simpa using h3) (by simpa using h4)
   cases Ts with
   |nil =>
    have hvs:vs'=[]:=k3
    have hds:ds'=[]:=k4
    subst hvs;subst hds
    exact ⟨y,⟨_,k1,by rw[←hval]⟩,⟨d,rfl,k2⟩⟩
   |cons u r=>exact ⟨(y,x),⟨_,vs',k1,by rw[←hval],k3⟩,⟨d,ds',rfl,k2,k4⟩⟩
theorem RA (hl:laidOutB P=true) {n:Nat} {W W':World} (hb:Below W.heap.size W W'):∀ {ts:List TypeId} {Ts:List Ty} {vs:List Value} {ds:List (DataW H)} {ps:List MemPlace},UR P n ts Ts=true→DataW.TrodAll enc P W 0 (fun _=>true) true ts vs ds ps →
 (∀x∈ps,x.block<W.heap.size)→DataW.TrodAll enc P W' 0 (fun b=>decide (b<W.heap.size)) true ts vs ds ps
 |[],Ts,vs,ds,ps,_,ht,_=>by
  obtain⟨rfl,rfl,rfl⟩:=trodAll_nil ht
  exact rfl
 |t::ts,Ts,vs,ds,ps,h,ht,hlt=>by
  cases Ts with
  |nil=>cases h
  |cons T Ts =>
   simp only[UR,Bool.and_eq_true] at h
   obtain⟨⟨⟨_,h1⟩,h3⟩,h2⟩:=h
   obtain⟨v,vs',d,ds',p,q,rfl,rfl,rfl,hd,hrest⟩:=trodAll_cons ht
   have h3':t<P.types.size:=by simpa[Nat.blt_eq] using h3
   exact ⟨p,q,Below.trod hl h1 h3' hd hb (fun x hx=>hlt x (by simp[hx])),RA hl hb h2 hrest fun x hx=>hlt x (by simp[hx]),rfl⟩
theorem Rb:∀ {ts:List Ty} {x:(AJ ts).interp} {ds:List (DataW H)},Xd ts x ds→ds.length=ts.length
 |[],_,_,h=>by have:_ = []:=h;rw[this];rfl
 |[t],_,_,⟨d,h,_⟩=>by rw[h];rfl
 |t::u::r,_,_,⟨d,ds',h,_,h2⟩=>by rw[h,List.length_cons,Rb h2];rfl
theorem Aad {V:World→Prop} {f:FuncId} {fn:Func} {s:ChangeSpec} {ats:List Ty} {g:(AJ ats).interp→Option Bool} {tt:Option ((AJ ats).interp→Bool)} {bt:TypeId} {n:Nat} (hm:Ao P V f {args:=ats,res:=[.bool],fresh:=false,fn:=g,tot:=tt}) (hl:laidOutB P=true) (hts:UR P n fn.params.toList ats=true) (hvars:s.vars=[])
 (hrt:fn.resultTypes=#[bt]) (hbt:P.underlying bt=some .bool) {W:World} {base:Nat} {args:Array Value} {ds gs:List (DataW H)} {before:List MemPlace}
 (hval:∀(j:Nat) t v,fn.params[j]?=some t→args[j]?=some v→Value.okWide P W .any base t v) (hW:DataW.Whole enc P fn.params.toList s.vars false W args.toList ds gs before) (hVW:V W)
 (hs:ds.length=ats.length→s.fn H ds={results:=[.lit (.bool true)],args:=ds}) (hfn:∀x,Kd ats x→Xd ats x ds→g x=some true) :
 Calls P f args W fun e W'=>∃v,e=.returned v∧s.post enc P fn false true false false W args v W':=by
 obtain⟨p,q,hA,hV,rfl,hfz,hnd⟩:=hW
 have hq:q=[]∧gs=[]:=by
  rw[hvars] at hV
  obtain⟨h1,h2⟩:=trodVars_none hV
  exact ⟨h2,h1⟩
 obtain⟨rfl,rfl⟩:=hq
 obtain⟨x,hx,hdx⟩:=readAll n hts hA fun j t v h1 h2=>hval j t v (by simpa using h1) (by simpa using h2)
 have hs:=hs (Rb hdx)
 have hlt:∀y∈p,y.block<W.heap.size:=fun y hy=>by
  have hWh:DataW.Whole enc P fn.params.toList s.vars false W args.toList ds [] (p++[]):=⟨p,[],hA,hV,rfl,hfz,hnd⟩
  simpa using hWh.lt y (by simp[hy])
 have hc:=hm.calls W (fun _=>False) args.toList x true hVW (fun b hb=>hb.elim) hx (hfn x (MA hx) hdx)
 rw[Array.toArray_toList] at hc
 refine hc.mono fun e W' ⟨rs,he,hb,hr⟩=>?_
 have hrs:rs=[.bool true]:=by
  obtain⟨us,h1,h2⟩:=hr
  have h1':us=[.bool true]:=h1
  subst h1'
  exact h2
 subst hrs
 refine ⟨_,he,ds,[],p++[],[],p,[],⟨p,[],hA,hV,rfl,hfz,hnd⟩,?_,?_,?_,hb.frame _,fun h=>by cases h⟩
 ·rw[List.append_nil,hs,hrt]
  exact trodAll_mk1 (shut_bool hbt true)
 ·rw[List.append_nil,hs]
  exact RA hl hb hts hA hlt
 ·rw[List.append_nil,hs,hvars]
  rfl
end
def mkC (P:Program) (V:World→Prop) (l:List (Nat×Al)) (il:List (Nat×Inl):=[]):Ctx:={P:=P,tbl:=fun f=>assoc l f,inl:=fun f=>assoc il f,V:=V}
def AllMeet (P:Program) (V:World→Prop) (l:List (Nat×Al)):Prop:=∀e∈l,Ao P V e.1 e.2
theorem AllMeet.nil {P:Program} {V:World→Prop}:AllMeet P V []:=fun _ h=>by cases h
theorem AllMeet.cons {P:Program} {V:World→Prop} {f:Nat} {sp:Al} {l:List (Nat×Al)} (h:Ao P V f sp) (hl:AllMeet P V l):AllMeet P V ((f,sp)::l):=fun e he=>by
 rcases List.mem_cons.1 he with rfl|he
 ·exact h
 ·exact hl e he
theorem HX {α:Type}:∀ {l:List (Nat×α)} {k:Nat} {x:α},assoc l k=some x→(k,x)∈l
 |[],_,_,h=>by cases h
 |(j,y)::r,k,x,h=>by
  simp only[assoc] at h
  split at h
  ·rename_i hb
   cases h
   rw[beq_true hb];simp
  ·exact List.mem_cons_of_mem _ (HX h)
theorem AllMeet.tbl {P:Program} {V:World→Prop} {l:List (Nat×Al)} {il:List (Nat×Inl)} (h:AllMeet P V l):∀f sp,(mkC P V l il).tbl f=some sp→Ao (mkC P V l il).P (mkC P V l il).V f sp:=fun f sp hf=>h (f,sp) (HX hf)
def Oa (V:World→Prop):Prop:=∀w w',Below w.heap.size w w'→V w→V w'
theorem Acy {P:Program} {V:World→Prop} {l:List (Nat×Al)}:∀f I,(mkC P V l).inl f=some I→FnOK (mkC P V l).P f I:=fun f I h=>by cases h
theorem AU {P:Program} {V:World→Prop} {l:List (Nat×Al)} {f:FuncId} {fn:Func} {hs:Hints} {ats rts:List Ty} {g:(AJ ats).interp→(AJ rts).interp} (hl:AllMeet P V l) (hV:Oa V) (hm:P.follows .mixedOrders=true) (hf:FnOK P f (Ak fn hs))
 (fr:Bool) (h:∀x,denote (mkC P V l) 1 (Ak fn hs) ats rts fr x=some (g x)):Ao P V f (spT ats rts g fr) :=
 G6 (C:=mkC P V l) (I:=Ak fn hs) hl.tbl ⟨fun _ _ h=>(by cases h),fun _ _ h=>(by cases h)⟩ hV hm Acy hf 1 (fun x y hy=>by
  have e:some (g x)=some y:=hy
  rw[←e];exact h x) (fun g' hg x=>by cases hg;rfl)
theorem Aq {P:Program} {V:World→Prop} {l:List (Nat×Al)} {f:FuncId} {fn:Func} {hs:Hints} {ats rts:List Ty} {g:(AJ ats).interp→Option (AJ rts).interp} (hl:AllMeet P V l) (hV:Oa V) (hm:P.follows .mixedOrders=true) (hf:FnOK P f (Ak fn hs))
 (fr:Bool) (h:∀x,denote (mkC P V l) 1 (Ak fn hs) ats rts fr x=g x):Ao P V f (spP ats rts g fr) :=
 G6 (C:=mkC P V l) (I:=Ak fn hs) hl.tbl ⟨fun _ _ h=>(by cases h),fun _ _ h=>(by cases h)⟩ hV hm Acy hf 1 (fun x y hy=>by
  have e:g x=some y:=hy
  rw[←e];exact h x) (fun g' hg x=>by cases hg)
theorem As {P:Program} {f:FuncId} {fn:Func} {hs:Hints} (h1:P.funcs[f]?=some fn) (h2:fn.body.isSome=true:=by kernel_rfl) (h3:(fn.name== "runtime.NumGoroutine")=false:=by kernel_rfl) (h4:Gz fn.ntmps (fn.body.getD .skip)=true:=by kernel_rfl):FnOK P f (Ak fn hs):=by
 refine ⟨fn,h1,?_,rfl,rfl,h3,h4⟩
 cases hb:fn.body with
 |none=>rw[hb] at h2;cases h2
 |some c=>simp[Ak,hb]
theorem QB {P:Program} {V:World→Prop} {f:FuncId} {ats rts:List Ty} {fr:Bool} {t:(AJ ats).interp→Option (AJ rts).interp} {g:(AJ ats).interp→(AJ rts).interp} (h:Ao P V f (spP ats rts t fr)) (e:∀x,Kd ats x→t x=some (g x)):Ao P V f (spT ats rts g fr) where
 enters:=h.enters
 tot:=fun g' hg x=>by cases hg;rfl
 calls:=fun w F vals x y hv hF hr hy=>h.calls w F vals x y hv hF hr (by
  have e1:some (g x)=some y:=hy
  exact (e x (MA hr)).trans e1)
theorem DP {α:Type} {b:Bool} {x y:α}:cnd b (some x) (some y)=some (cnd b x y):=by cases b<;>rfl
theorem AS {α:Type} {b:Bool} {x y:α}:cnd b x y=if b=true then x else y:=by cases b<;>rfl
end Go.Den
namespace Go.Den
open Go.RowKit
theorem Am (n:Int) (h0:-9223372036854775808≤n) (h1:n≤9223372036854775807):wr .i64 n=n:=by
 unfold wr;rw[IntKind.wrap_i64];omega
theorem OB (n:Int) (h0:0≤n) (h1:n≤255):wr .u8 n=n:=by
 unfold wr;rw[IntKind.wrap_u8];omega
def Round {σ A:Type} (Inv:σ→Prop) (m:σ→Nat) (P:A→Prop) (k:Nat):Step σ A→Prop
 |.next s'=>Inv s'∧m s'<k
 |.done a=>P a
theorem EG {σ A:Type} {bad:A} {f:σ→Step σ A} (Inv:σ→Prop) (m:σ→Nat) (P:A→Prop) (hstep:∀s,Inv s→Round Inv m P (m s) (f s)) :
 ∀(n:Nat) (s:σ),Inv s→m s<n→P (iter bad f n s)
 |0,s,_,h=>absurd h (Nat.not_lt_zero _)
 |n+1,s,hi,h=>by
  have hs:=hstep s hi
  unfold iter
  split
  ·rename_i s' hf
   rw[hf] at hs
   exact EG Inv m P hstep n s' hs.1 (by have:=hs.2;omega)
  ·rename_i a hf
   rw[hf] at hs
   exact hs
theorem AP {α:Type} {x y:α}:cnd true x y=x:=rfl
theorem AR {α:Type} {x y:α}:cnd false x y=y:=rfl
theorem A4 {α A:Type} {a:α} {bad:A} {f:α→A}:Ad (some a) bad f=f a:=rfl
theorem Gl:AA=18446744073709551616:=rfl
theorem Au {α:Type} {l:List α} {i:Int} (h0:0≤i) (h1:i<Aa l):∃x,idx l i=some x∧x∈l:=by
 have hl:i.toNat<l.length:=by unfold Aa at h1;omega
 refine ⟨l[i.toNat],?_,List.getElem_mem hl⟩
 unfold idx
 rw[if_pos h0]
 simp[hl]
theorem Gi (x y:Int):Ct x y=max x y:=by
 unfold Ct;split<;>omega
theorem DX (x y:Int):Bf x y=min x y:=by
 unfold Bf;split<;>omega
end Go.Den
namespace Go.Den
open Go.RowKit
def AD (x i:Int):Bool:=decide (0≤i)&&x.toNat.testBit i.toNat
def Ax (x:Int):Prop:=0≤x∧x≤4294967295
theorem wrap_u32 (n:Int):IntKind.u32.wrap n=n%4294967296:=by
 unfold IntKind.wrap
 simp[IntKind.signed,IntKind.bits]
theorem two32:((2 ^ 32:Nat):Int)=4294967296:=by decide
theorem GU {x:Int} (h:Ax x):(BitVec.ofInt 32 x).toNat=x.toNat:=by
 rw[BitVec.toNat_ofInt,two32,Int.emod_eq_of_lt h.1 (by have:=h.2;omega)]
theorem Fs {x:Int} (h:Ax x):x.toNat<2 ^ 32:=by
 have:=h.1;have:=h.2
 have:(2:Nat) ^ 32=4294967296:=by decide
 omega
theorem N1 {n:Nat} (h:n<2 ^ 32):Ax (n:Int):=by
 have:(2:Nat) ^ 32=4294967296:=by decide
 exact ⟨by omega,by omega⟩
theorem Q3 {n:Nat} (h:n<2 ^ 32):IntKind.u32.wrap (n:Int)=n:=by
 have:=(N1 h)
 rw[wrap_u32,Int.emod_eq_of_lt this.1 (by have:=this.2;omega)]
theorem Lf {x y:Int} (hx:Ax x) (hy:Ax y):Ai .and .u32 x y=((x.toNat &&& y.toNat:Nat):Int):=by
 show IntKind.u32.wrap ((BitVec.ofInt 32 x &&& BitVec.ofInt 32 y).toNat:Int) = _
 rw[BitVec.toNat_and,GU hx,GU hy]
 exact Q3 (Nat.and_lt_two_pow _ (Fs hy))
theorem Aax {x y:Int} (hx:Ax x) (hy:Ax y):Ai .or .u32 x y=((x.toNat ||| y.toNat:Nat):Int):=by
 show IntKind.u32.wrap ((BitVec.ofInt 32 x ||| BitVec.ofInt 32 y).toNat:Int) = _
 rw[BitVec.toNat_or,GU hx,GU hy]
 exact Q3 (Nat.or_lt_two_pow (Fs hx) (Fs hy))
theorem P6 {x y:Int} (hx:Ax x) (hy:Ax y):Ai .andNot .u32 x y=((x.toNat &&& (2 ^ 32-1-y.toNat):Nat):Int):=by
 show IntKind.u32.wrap ((BitVec.ofInt 32 x &&& ~~~ BitVec.ofInt 32 y).toNat:Int) = _
 rw[BitVec.toNat_and,BitVec.toNat_not,GU hx,GU hy]
 exact Q3 (Nat.lt_of_le_of_lt Nat.and_le_left (Fs hx))
theorem fH {x y:Int} (hx:Ax x) (hy:Ax y):Ax (Ai .and .u32 x y):=by
 rw[Lf hx hy];exact N1 (Nat.and_lt_two_pow _ (Fs hy))
theorem Yp {x y:Int} (hx:Ax x) (hy:Ax y):Ax (Ai .or .u32 x y):=by
 rw[Aax hx hy];exact N1 (Nat.or_lt_two_pow (Fs hx) (Fs hy))
theorem Ob {x y:Int} (hx:Ax x) (hy:Ax y):Ax (Ai .andNot .u32 x y):=by
 rw[P6 hx hy];exact N1 (Nat.lt_of_le_of_lt Nat.and_le_left (Fs hx))
theorem Pj {x y:Int} (hx:Ax x) (hy:Ax y) (i:Int):AD (Ai .and .u32 x y) i=(AD x i&&AD y i):=by
 unfold AD
 rw[Lf hx hy,Int.toNat_natCast,Nat.testBit_and]
 cases decide (0≤i)<;>simp
theorem Xy {x y:Int} (hx:Ax x) (hy:Ax y) (i:Int):AD (Ai .or .u32 x y) i=(AD x i||AD y i):=by
 unfold AD
 rw[Aax hx hy,Int.toNat_natCast,Nat.testBit_or]
 cases decide (0≤i)<;>simp
theorem Qb {x i:Int} (hx:Ax x) (hi:32≤i):AD x i=false:=by
 unfold AD
 rw[Nat.testBit_lt_two_pow (Nat.lt_of_lt_of_le (Fs hx) (Nat.pow_le_pow_right (by decide) (by omega)))]
 simp
theorem Qa {x y:Int} (hx:Ax x) (hy:Ax y) (i:Int):AD (Ai .andNot .u32 x y) i=(AD x i&&!AD y i):=by
 by_cases hi:32≤i
 ·rw[Qb (Ob hx hy) hi,Qb hx hi];rfl
 ·unfold AD
  rw[P6 hx hy,Int.toNat_natCast,Nat.testBit_and]
  have e:(2 ^ 32-1-y.toNat).testBit i.toNat=(decide (i.toNat<32)&&!y.toNat.testBit i.toNat):=by
   rw[show 2 ^ 32-1-y.toNat=2 ^ 32-(y.toNat+1) by omega,Nat.testBit_two_pow_sub_succ (Fs hy)]
  rw[e]
  by_cases h0:0≤i
  ·have:i.toNat<32:=by omega
   simp[h0,this]
  ·simp[h0]
theorem Zk {x i:Int} (hi:i<0):AD x i=false:=by
 unfold AD
 have:¬0≤i:=by omega
 simp[this]
theorem UF {x y:Int} (hx:Ax x) (hy:Ax y) (h:∀i,0≤i→i<32→AD x i=AD y i):x=y:=by
 have:x.toNat=y.toNat:=by
  apply Nat.eq_of_testBit_eq
  intro i
  by_cases hi:i<32
  ·have:=h (i:Int) (by omega) (by omega)
   simpa[AD] using this
  ·have hp:2 ^ 32≤2 ^ i:=Nat.pow_le_pow_right (by decide) (by omega)
   rw[Nat.testBit_lt_two_pow (Nat.lt_of_lt_of_le (Fs hx) hp),Nat.testBit_lt_two_pow (Nat.lt_of_lt_of_le (Fs hy) hp)]
 have:=hx.1;have:=hy.1
 omega
theorem FK (i:Int):AD 0 i=false:=by unfold AD;simp
theorem xT {i:Int} (h0:0≤i) (h1:i≤31):Bc .u32 1 i=((2 ^ i.toNat:Nat):Int):=by
 unfold Bc
 rw[show min i.toNat IntKind.u32.bits=i.toNat by simp only[IntKind.bits];omega,Int.one_mul]
 have:((2:Int) ^ i.toNat)=((2 ^ i.toNat:Nat):Int):=by simp
 rw[this]
 exact Q3 (Nat.pow_lt_pow_right (by decide) (by omega))
theorem Is {i:Int} (h0:0≤i) (h1:i≤31):Ax ((2 ^ i.toNat:Nat):Int):=N1 (Nat.pow_lt_pow_right (by decide) (by omega))
theorem Lm {i j:Int} (h0:0≤i):AD ((2 ^ i.toNat:Nat):Int) j=decide (i=j):=by
 unfold AD
 rw[Int.toNat_natCast,Nat.testBit_two_pow]
 by_cases hj:0≤j
 ·by_cases e:i=j
  ·subst e;simp[h0]
  ·have:¬i.toNat=j.toNat:=by omega
   simp[e,this]
 ·have:¬i=j:=by omega
  simp[hj,this]
theorem W8 {x n:Int} (hx:Ax x) (h0:0≤n) (h1:n≤31):(Av .u32 x n=0)↔∀i,n≤i→AD x i=false:=by
 unfold Av
 rw[show min n.toNat IntKind.u32.bits=n.toNat by simp only[IntKind.bits];omega]
 have hp:(0:Int)<2 ^ n.toNat:=Int.pow_pos (by decide)
 rw[Int.fdiv_eq_ediv_of_nonneg _ (Int.le_of_lt hp)]
 have key:x/2 ^ n.toNat=0↔x.toNat<2 ^ n.toNat:=by
  obtain⟨m,rfl⟩:∃m:Nat,x=m:=⟨x.toNat,(Int.toNat_of_nonneg hx.1).symm⟩
  have e:((m:Int)/2 ^ n.toNat)=((m/2 ^ n.toNat:Nat):Int):=by simp
  rw[e,Int.toNat_natCast,Int.natCast_eq_zero,Nat.div_eq_zero_iff]
  simp
 rw[key]
 constructor
 ·intro h i hi
  unfold AD
  rw[Nat.testBit_lt_two_pow (Nat.lt_of_lt_of_le h (Nat.pow_le_pow_right (by decide) (by omega)))]
  simp
 ·intro h
  apply Nat.lt_pow_two_of_testBit
  intro i hi
  have:=h (i:Int) (by omega)
  simpa[AD] using this
def low (x:Int):Int:=if x=0 then 32 else Lib.ctz 32 x.toNat
theorem WU {x:Int} (hx:Ax x) (h0:x≠0):0≤low x∧low x<32∧AD x (low x)=true∧∀j,j<low x→AD x j=false:=by
 have hn:x.toNat≠0:=by have:=hx.1;omega
 have e:low x=Lib.ctzFrom 32 x.toNat:=by simp[low,h0,Lib.ctz,hn]
 obtain⟨m,hm,hk⟩:=Lib.ctzFrom_spec 32 x.toNat (by omega) (Fs hx)
 rw[e]
 generalize Lib.ctzFrom 32 x.toNat=k at hm hk
 refine ⟨by omega,by omega,?_,fun j hj=>?_⟩
 ·unfold AD
  rw[hm,Nat.mul_comm,Nat.testBit_mul_two_pow]
  simp
 ·unfold AD
  rw[hm,Nat.mul_comm,Nat.testBit_mul_two_pow]
  have:¬k≤j.toNat∨¬0≤j:=by omega
  rcases this with h|h<;>simp[h]
def Cs (x a n:Nat):Nat:=((List.range n).filter fun i=>x.testBit (a+i)).length
def cnt (x:Int):Int:=Cs x.toNat 0 32
theorem Qg (x a m n:Nat):Cs x a (m+n)=Cs x a m+Cs x (a+m) n:=by
 unfold Cs
 rw[List.range_add,List.filter_append,List.length_append,List.filter_map,List.length_map]
 congr 2
 apply List.filter_congr
 intro i _
 simp[Function.comp,Nat.add_assoc]
theorem GM (x a:Nat):∀n,Cs x a n≤n:=fun n=>by
 unfold Cs
 exact Nat.le_trans (List.length_filter_le _ _) (by simp)
theorem u6 (x a n:Nat) (h:a+n≤32) (hn:n=8):Cs ((x >>> a) &&& 255) 0 n=Cs x a n:=by
 subst hn
 unfold Cs
 congr 1
 apply List.filter_congr
 intro i hi
 have hi:i<8:=by simpa using hi
 rw[Nat.testBit_and,Nat.testBit_shiftRight,show 255=2 ^ 8-1 from rfl,Nat.testBit_two_pow_sub_one]
 simp[hi]
def OW:List UInt8:=[0,1,1,2,1,2,2,3,1,2,2,3,2,3,3,4,1,2,2,3,2,3,3,4,2,3,3,4,3,4,4,5,1,2,2,3,2,3,3,4,2,3,3,4,3,4,4,5,2,3,3,4,3,4,4,5,3,4,4,5,4,5,5,6,
 1,2,2,3,2,3,3,4,2,3,3,4,3,4,4,5,2,3,3,4,3,4,4,5,3,4,4,5,4,5,5,6,2,3,3,4,3,4,4,5,3,4,4,5,4,5,5,6,3,4,4,5,4,5,5,6,4,5,5,6,5,6,6,7,
 1,2,2,3,2,3,3,4,2,3,3,4,3,4,4,5,2,3,3,4,3,4,4,5,3,4,4,5,4,5,5,6,2,3,3,4,3,4,4,5,3,4,4,5,4,5,5,6,3,4,4,5,4,5,5,6,4,5,5,6,5,6,6,7,
 2,3,3,4,3,4,4,5,3,4,4,5,4,5,5,6,3,4,4,5,4,5,5,6,4,5,5,6,5,6,6,7,3,4,4,5,4,5,5,6,4,5,5,6,5,6,6,7,4,5,5,6,5,6,6,7,5,6,6,7,6,7,7,8]
theorem Ab5:∀y:Fin 256,Iu OW (y.val:Int)=some (Cs y.val 0 8:Int):=by decide +kernel
theorem Adz {y:Int} (h0:0≤y) (h1:y<256):Iu OW y=some (Cs y.toNat 0 8:Int):=by
 have:=Ab5 ⟨y.toNat,by omega⟩
 simp only[Int.toNat_of_nonneg h0] at this
 exact this
theorem M7 {x:Int} (hx:Ax x) (n:Nat) (hn:n≤31):Av .u32 x n=((x.toNat >>> n:Nat):Int):=by
 unfold Av
 rw[show min ((n:Int)).toNat IntKind.u32.bits=n by simp only[IntKind.bits];omega]
 have hp:(0:Int)<2 ^ n:=Int.pow_pos (by decide)
 rw[Int.fdiv_eq_ediv_of_nonneg _ (Int.le_of_lt hp),Nat.shiftRight_eq_div_pow]
 obtain⟨m,rfl⟩:∃m:Nat,x=m:=⟨x.toNat,(Int.toNat_of_nonneg hx.1).symm⟩
 simp
def j6 (x:Int):Option Int :=
 Ad (Iu OW (Av .u32 x 24)) none fun a =>
 Ad (Iu OW (Ai .and .u32 (Av .u32 x 16) 255)) none fun b =>
 Ad (Iu OW (Ai .and .u32 (Av .u32 x 8) 255)) none fun c =>
 Ad (Iu OW (Ai .and .u32 x 255)) none fun d =>
 some (wr .i64 (wr .u8 (wr .u8 (wr .u8 (a+b)+c)+d)))
theorem Aas {x:Int} (hx:Ax x):j6 x=some (cnt x):=by
 have ok:∀n:Nat,n≤31→Ax (Av .u32 x n):=fun n hn=>by
  rw[M7 hx n hn,Nat.shiftRight_eq_div_pow]
  exact N1 (Nat.lt_of_le_of_lt (Nat.div_le_self _ _) (Fs hx))
 have h255:Ax 255:=⟨by decide,by decide⟩
 have part:∀n:Nat,n+8≤32→Iu OW (Ai .and .u32 (Av .u32 x n) 255)=some (Cs x.toNat n 8:Int):=fun n hn=>by
  rw[Lf (ok n (by omega)) h255,M7 hx n (by omega),Int.toNat_natCast]
  have hlt:x.toNat >>> n &&& (255:Int).toNat<256:=Nat.and_lt_two_pow (n:=8) _ (by decide)
  rw[Adz (by omega) (by omega),Int.toNat_natCast]
  congr 2
  exact u6 _ _ _ hn rfl
 have h24:Iu OW (Av .u32 x 24)=some (Cs x.toNat 24 8:Int):=by
  have e:Av .u32 x 24=Ai .and .u32 (Av .u32 x (24:Nat)) 255:=by
   rw[Lf (ok 24 (by decide)) h255]
   have:Av .u32 x (24:Nat)=((x.toNat >>> 24:Nat):Int):=M7 hx 24 (by decide)
   rw[this,Int.toNat_natCast]
   have e2:Av .u32 x 24=((x.toNat >>> 24:Nat):Int):=M7 hx 24 (by decide)
   rw[e2]
   congr 1
   have hlt:x.toNat >>> 24<2 ^ 8:=by
    rw[Nat.shiftRight_eq_div_pow]
    have:=Fs hx
    exact Nat.div_lt_of_lt_mul (by rw[←Nat.pow_add];exact this)
   show x.toNat >>> 24=x.toNat >>> 24 &&& (2 ^ 8-1)
   rw[Nat.and_two_pow_sub_one_eq_mod,Nat.mod_eq_of_lt hlt]
  rw[e];exact part 24 (by decide)
 have h16:=part 16 (by decide)
 have h8:=part 8 (by decide)
 have h0:=part 0 (by decide)
 have e0:Av .u32 x (0:Nat)=x:=by rw[M7 hx 0 (by decide)];simpa using Int.toNat_of_nonneg hx.1
 rw[e0] at h0
 unfold j6
 have h16':Iu OW (Ai .and .u32 (Av .u32 x 16) 255)=some (Cs x.toNat 16 8:Int):=h16
 have h8':Iu OW (Ai .and .u32 (Av .u32 x 8) 255)=some (Cs x.toNat 8 8:Int):=h8
 rw[h24,h16',h8',h0]
 simp only[Ad]
 have l0:=GM x.toNat 0 8
 have l1:=GM x.toNat 8 8
 have l2:=GM x.toNat 16 8
 have l3:=GM x.toNat 24 8
 rw[OB ((Cs x.toNat 24 8:Int)+(Cs x.toNat 16 8:Int)) (by omega) (by omega),OB ((Cs x.toNat 24 8:Int)+(Cs x.toNat 16 8:Int)+(Cs x.toNat 8 8:Int)) (by omega) (by omega),
  OB ((Cs x.toNat 24 8:Int)+(Cs x.toNat 16 8:Int)+(Cs x.toNat 8 8:Int)+(Cs x.toNat 0 8:Int)) (by omega) (by omega),Am _ (by omega) (by omega)]
 unfold cnt
 rw[show (32:Nat)=8+(8+(8+8)) from rfl,Qg,Qg,Qg]
 simp only[Nat.zero_add,Nat.reduceAdd]
 congr 1
 omega
theorem Ap {α:Type} (l:List α):0≤Aa l:=by unfold Aa;omega
def el {α:Type} [Inhabited α] (l:List α) (i:Int):α:=(idx l i).getD default
theorem Bb {α:Type} [Inhabited α] {l:List α} {i:Int} (h0:0≤i) (h1:i<Aa l):idx l i=some (el l i):=by
 obtain⟨x,hx,_⟩:=Au h0 h1
 rw[hx];simp[el,hx]
theorem An {α:Type} {l:List α} {i:Int} {x:α} (h:idx l i=some x):0≤i∧i<Aa l∧x∈l:=by
 unfold idx at h
 split at h
 ·rename_i h0
  obtain⟨hl,he⟩:=List.getElem?_eq_some_iff.1 h
  exact ⟨h0,by unfold Aa;omega,by rw[←he];exact List.getElem_mem hl⟩
 ·cases h
theorem ES {α:Type} {l:List α} {x:α} (h:x∈l):∃i,idx l i=some x:=by
 obtain⟨k,hk⟩:=List.mem_iff_getElem?.1 h
 exact ⟨(k:Int),by unfold idx;simp[hk]⟩
theorem L9 {α A:Type} {l:List α} {bad no yes:A} {f:Int→Step Int A} (Good:Int→α→Prop) (hlen:l.length≤maxLen)
 (hf:∀i x,0≤i→i<Aa l→idx l i=some x→(Good i x∧f i=.next (wr .i64 (i+1)))∨(¬Good i x∧f i=.done no)) (hend:∀i,¬i<Aa l→f i=.done yes) :
 ∃b:Bool,iter bad f AA 0=cnd b yes no∧(b=true↔∀i x,idx l i=some x→Good i x):=by
 have hm:Aa l≤9223372036854775807:=by unfold Aa;unfold maxLen at hlen;omega
 refine EG (fun i=>0≤i∧i≤Aa l∧∀j x,j<i→idx l j=some x→Good j x) (fun i=>(Aa l-i).toNat) (fun a=>∃b:Bool,a=cnd b yes no∧(b=true↔∀i x,idx l i=some x→Good i x)) ?_ AA 0 ⟨by omega,Ap l,fun j x hj hx=>?_⟩ (by rw[Gl];omega)
 ·rintro i ⟨h0,h1,h2⟩
  by_cases hi:i<Aa l
  ·obtain⟨x,hx,_⟩:=Au h0 hi
   rcases hf i x h0 hi hx with ⟨hg,he⟩|⟨hg,he⟩
   ·rw[he,Am _ (by omega) (by omega)]
    refine ⟨⟨by omega,by omega,fun j y hj hy=>?_⟩,(by show (Aa l-(i+1)).toNat<(Aa l-i).toNat;omega)⟩
    by_cases e:j=i
    ·subst e;rw[hx] at hy;cases hy;exact hg
    ·exact h2 j y (by omega) hy
   ·rw[he]
    exact ⟨false,rfl,fun h=>(by cases h),fun h=>absurd (h i x hx) hg⟩
  ·rw[hend i hi]
   exact ⟨true,rfl,fun _ j y hy=>h2 j y (by have:=(An hy).2.1;omega) hy,fun _=>rfl⟩
 ·have:=(An hx).1
  omega
theorem AbD {n:Int} (h:Fits (.int .u32) n):Ax n:=h
theorem wV {α:Type} {l:List α} (h:l.length≤maxLen):Aa l≤9223372036854775807:=by unfold Aa;unfold maxLen at h;omega
theorem Aaa {α σ A:Type} {l:List α} {bad no:A} {fin:σ→A} {f:σ×Int→Step (σ×Int) A} (Good:Int→α→Prop) (nx:σ→α→σ) (I:σ→Prop) {s0:σ} (hI0:I s0) (hlen:l.length≤maxLen)
 (hf:∀s i x,I s→0≤i→i<Aa l→idx l i=some x→(Good i x∧f (s,i)=.next (nx s x,wr .i64 (i+1))∧I (nx s x))∨(¬Good i x∧f (s,i)=.done no)) (hend:∀s i,I s→¬i<Aa l→f (s,i)=.done (fin s)) :
 ∃b:Bool,iter bad f AA (s0,0)=cnd b (fin (l.foldl nx s0)) no∧(b=true↔∀i x,idx l i=some x→Good i x):=by
 have hm:Aa l≤9223372036854775807:=by unfold Aa;unfold maxLen at hlen;omega
 refine EG (fun s=>0≤s.2∧s.2≤Aa l∧I s.1∧s.1=(l.take s.2.toNat).foldl nx s0∧∀j x,j<s.2→idx l j=some x→Good j x) (fun s=>(Aa l-s.2).toNat) (fun a=>∃b:Bool,a=cnd b (fin (l.foldl nx s0)) no∧(b=true↔∀i x,idx l i=some x→Good i x)) ?_ AA (s0,0) ⟨by simp,Ap l,hI0,by simp,fun j x hj hx=>?_⟩ (by rw[Gl];simp only;omega)
 ·rintro⟨s,i⟩ ⟨h0,h1,hI,hs,h2⟩
  simp only at h0 h1 hI hs h2
  by_cases hi:i<Aa l
  ·obtain⟨x,hx,_⟩:=Au h0 hi
   rcases hf s i x hI h0 hi hx with ⟨hg,he,hI'⟩|⟨hg,he⟩
   ·rw[he,Am _ (by omega) (by omega)]
    refine ⟨⟨by simp only;omega,by simp only;omega,hI',?_,fun j y hj hy=>?_⟩,(by show (Aa l-(i+1)).toNat<(Aa l-i).toNat;omega)⟩
    ·show nx s x=(l.take (i+1).toNat).foldl nx s0
     have hl:i.toNat<l.length:=by unfold Aa at hi;omega
     have hx':l[i.toNat]?=some x:=by
      have:=hx
      unfold idx at this
      rwa [if_pos h0] at this
     rw[show (i+1).toNat=i.toNat+1 by omega,List.take_add_one,hx',List.foldl_append,←hs]
     rfl
    ·simp only at hj
     by_cases e:j=i
     ·subst e;rw[hx] at hy;cases hy;exact hg
     ·exact h2 j y (by omega) hy
   ·rw[he]
    exact ⟨false,rfl,fun h=>(by cases h),fun h=>absurd (h i x hx) hg⟩
  ·rw[hend s i hI hi]
   refine ⟨true,?_,fun _ j y hy=>h2 j y (by have:=(An hy).2.1;omega) hy,fun _=>rfl⟩
   show fin s=fin (l.foldl nx s0)
   rw[hs,List.take_of_length_le (by unfold Aa at hi;omega)]
 ·simp only at hj
  have:=(An hx).1
  omega
def clr (x k:Int):Int:=Ai .andNot .u32 x ((2 ^ k.toNat:Nat):Int)
theorem Qf {x:Int} (hx:Ax x) {k:Int} (h0:0≤k) (h1:k≤31):Ax (clr x k)∧∀j,AD (clr x k) j=(AD x j&&!decide (k=j)):=by
 refine ⟨Ob hx (Is h0 h1),fun j=>?_⟩
 unfold clr
 rw[Qa hx (Is h0 h1),Lm h0]
theorem y9 {x:Int} (hx:Ax x) {k:Int} (h0:0≤k) (h1:k≤31) (hb:AD x k=true):(clr x k).toNat<x.toNat:=by
 have hle:(clr x k).toNat≤x.toNat:=by
  unfold clr
  rw[P6 hx (Is h0 h1),Int.toNat_natCast]
  exact Nat.and_le_left
 refine Nat.lt_of_le_of_ne hle fun e=>?_
 have h2:=(Qf hx h0 h1).2 k
 have:AD (clr x k) k=AD x k:=by unfold AD;rw[e]
 rw[this,hb] at h2
 simp at h2
theorem jX {x:Int} (hx:Ax x):x.toNat<AA:=by
 have:=Fs hx
 rw[Gl]
 have:(2:Nat) ^ 32=4294967296:=by decide
 omega
theorem Aac {A:Type} {bad no yes:A} {f:Int→Step Int A} {x0:Int} (h0:Ax x0) (Good:Int→Prop)
 (hf:∀x,Ax x→x≠0→(∀i,AD x i=true→AD x0 i=true)→0≤low x→low x≤31→AD x0 (low x)=true→(Good (low x)∧f x=.next (clr x (low x)))∨(¬Good (low x)∧f x=.done no)) (hend:f 0=.done yes) :
 ∃b:Bool,iter bad f AA x0=cnd b yes no∧(b=true↔∀k,AD x0 k=true→Good k):=by
 refine EG (fun x=>Ax x∧(∀i,AD x i=true→AD x0 i=true)∧∀k,AD x0 k=true→AD x k=false→Good k) (fun x=>x.toNat) (fun a=>∃b:Bool,a=cnd b yes no∧(b=true↔∀k,AD x0 k=true→Good k)) ?_ AA x0 ⟨h0,fun _ h=>h,fun k h1 h2=>by rw[h1] at h2;cases h2⟩ (jX h0)
 rintro x ⟨hx,hs,hg⟩
 by_cases hz:x=0
 ·subst hz
  rw[hend]
  exact ⟨true,rfl,fun _ k hk=>hg k hk (FK k),fun _=>rfl⟩
 ·obtain⟨l0,l1,l2,l3⟩:=WU hx hz
  have c:=Qf hx l0 (by omega)
  rcases hf x hx hz hs l0 (by omega) (hs _ l2) with ⟨g,e⟩|⟨g,e⟩
  ·rw[e]
   refine ⟨⟨c.1,fun i hi=>hs i ?_,fun k hk hb=>?_⟩,y9 hx l0 (by omega) l2⟩
   ·rw[c.2] at hi
    simp only[Bool.and_eq_true] at hi
    exact hi.1
   ·rw[c.2] at hb
    by_cases hkk:low x=k
    ·subst hkk;exact g
    ·refine hg k hk ?_
     simpa[hkk] using hb
  ·rw[e]
   exact ⟨false,rfl,fun h=>(by cases h),fun h=>absurd (h _ (hs _ l2)) g⟩
theorem iL {A:Type} {bad:A} {fin:Int→A} {f:Int×Int→Step (Int×Int) A} {x0 m0:Int} (h0:Ax x0) (val:Int→Int)
 (hf:∀m x,Ax x→x≠0→0≤low x→low x≤31→AD x0 (low x)=true→f (m,x)=.next (Ct m (val (low x)),clr x (low x))) (hend:∀m,f (m,0)=.done (fin m)) :
 ∃m,iter bad f AA (m0,x0)=fin m∧m0≤m∧(∀k,AD x0 k=true→val k≤m)∧(m=m0∨∃k,AD x0 k=true∧m=val k):=by
 refine EG (fun s=>Ax s.2∧(∀i,AD s.2 i=true→AD x0 i=true)∧m0≤s.1∧(∀k,AD x0 k=true→AD s.2 k=false→val k≤s.1)∧(s.1=m0∨∃k,AD x0 k=true∧s.1=val k)) (fun s=>s.2.toNat)
  (fun a=>∃m,a=fin m∧m0≤m∧(∀k,AD x0 k=true→val k≤m)∧(m=m0∨∃k,AD x0 k=true∧m=val k)) ?_ AA (m0,x0) ⟨h0,fun _ h=>h,Int.le_refl _,(fun k h1 h2=>by have h2':AD x0 k=false:=h2;rw[h1] at h2';cases h2'),.inl rfl⟩ (jX h0)
 rintro⟨m,x⟩ ⟨hx,hs,hm,hg,hv⟩
 simp only at hx hs hm hg hv
 by_cases hz:x=0
 ·subst hz
  rw[hend]
  exact ⟨m,rfl,hm,fun k hk=>hg k hk (FK k),hv⟩
 ·obtain⟨l0,l1,l2,l3⟩:=WU hx hz
  have c:=Qf hx l0 (by omega)
  rw[hf m x hx hz l0 (by omega) (hs _ l2),Gi]
  refine ⟨⟨c.1,fun i hi=>hs i ?_,by simp only;omega,fun k hk hb=>?_,?_⟩,y9 hx l0 (by omega) l2⟩
  ·simp only at hi
   rw[c.2] at hi
   simp only[Bool.and_eq_true] at hi
   exact hi.1
  ·simp only at hb ⊢
   rw[c.2] at hb
   by_cases hkk:low x=k
   ·subst hkk;omega
   ·have:=hg k hk (by simpa[hkk] using hb)
    omega
  ·simp only
   by_cases hle:val (low x)≤m
   ·rw[Int.max_eq_left hle];exact hv
   ·rw[Int.max_eq_right (by omega)];exact .inr ⟨_,hs _ l2,rfl⟩
theorem Ds {α A:Type} {l:List α} {bad:A} {f:Int→Step Int A} (P:A→Prop) (Good:Int→α→Prop) (no yes:A) (hlen:l.length≤maxLen)
 (hf:∀i x,0≤i→i<Aa l→idx l i=some x→(Good i x∧f i=.next (wr .i64 (i+1)))∨(¬Good i x∧f i=.done no)) (hend:∀i,¬i<Aa l→f i=.done yes)
 (hy:(∀i x,idx l i=some x→Good i x)→P yes) (hn:¬(∀i x,idx l i=some x→Good i x)→P no):P (iter bad f AA 0):=by
 obtain⟨b,h1,h2⟩:=L9 Good hlen hf hend
 rw[h1]
 cases b with
 |true=>exact hy (h2.1 rfl)
 |false=>exact hn fun h=>by have:=h2.2 h;cases this
theorem Aab {α σ A:Type} {l:List α} {bad:A} {f:σ×Int→Step (σ×Int) A} (P:A→Prop) (Good:Int→α→Prop) (nx:σ→α→σ) (I:σ→Prop) (fin:σ→A) (no:A) {s0:σ} (hI0:I s0) (hlen:l.length≤maxLen)
 (hf:∀s i x,I s→0≤i→i<Aa l→idx l i=some x→(Good i x∧f (s,i)=.next (nx s x,wr .i64 (i+1))∧I (nx s x))∨(¬Good i x∧f (s,i)=.done no)) (hend:∀s i,I s→¬i<Aa l→f (s,i)=.done (fin s))
 (hy:(∀i x,idx l i=some x→Good i x)→P (fin (l.foldl nx s0))) (hn:¬(∀i x,idx l i=some x→Good i x)→P no):P (iter bad f AA (s0,0)):=by
 obtain⟨b,h1,h2⟩:=Aaa Good nx I hI0 hlen hf hend
 rw[h1]
 cases b with
 |true=>exact hy (h2.1 rfl)
 |false=>exact hn fun h=>by have:=h2.2 h;cases this
theorem wH {A:Type} {bad:A} {f:Int→Step Int A} {x0:Int} (P:A→Prop) (Good:Int→Prop) (no yes:A) (h0:Ax x0)
 (hf:∀x,Ax x→x≠0→(∀i,AD x i=true→AD x0 i=true)→0≤low x→low x≤31→AD x0 (low x)=true→(Good (low x)∧f x=.next (clr x (low x)))∨(¬Good (low x)∧f x=.done no)) (hend:f 0=.done yes)
 (hy:(∀k,AD x0 k=true→Good k)→P yes) (hn:¬(∀k,AD x0 k=true→Good k)→P no):P (iter bad f AA x0):=by
 obtain⟨b,h1,h2⟩:=Aac h0 Good hf hend
 rw[h1]
 cases b with
 |true=>exact hy (h2.1 rfl)
 |false=>exact hn fun h=>by have:=h2.2 h;cases this
theorem dC {A:Type} {bad:A} {f:Int×Int→Step (Int×Int) A} {x0 m0:Int} (P:A→Prop) (val:Int→Int) (fin:Int→A) (h0:Ax x0)
 (hf:∀m x,Ax x→x≠0→0≤low x→low x≤31→AD x0 (low x)=true→f (m,x)=.next (Ct m (val (low x)),clr x (low x))) (hend:∀m,f (m,0)=.done (fin m))
 (hp:∀m,m0≤m→(∀k,AD x0 k=true→val k≤m)→(m=m0∨∃k,AD x0 k=true∧m=val k)→P (fin m)):P (iter bad f AA (m0,x0)):=by
 obtain⟨m,h1,h2,h3,h4⟩:=iL h0 val hf hend
 rw[h1];exact hp m h2 h3 h4
end Go.Den
namespace Go.Den
open Go.RowKit
theorem B7 {α:Type} {l:List α} {i:Int} (h:0≤i):idx l i=l[i.toNat]?:=by unfold idx;rw[if_pos h]
theorem Bw {α:Type} (l:List α) (i:Int) (x:α):Aa (A8 l i x)=Aa l:=by unfold Aa A8;rw[List.length_set]
theorem CW {α:Type} {l:List α} {i:Int} (h0:0≤i) (h1:i<Aa l) (x:α) (j:Int):idx (A8 l i x) j=if j=i then some x else idx l j:=by
 by_cases hj:0≤j
 ·rw[B7 hj,B7 hj]
  unfold A8
  rw[List.getElem?_set]
  by_cases e:j=i
  ·subst e;rw[if_pos rfl,if_pos rfl,if_pos (by unfold Aa at h1;omega)]
  ·rw[if_neg e,if_neg (by omega)]
 ·have hn:∀l:List α,idx l j=none:=fun l=>by unfold idx;rw[if_neg hj]
  rw[hn,hn,if_neg (by omega)]
theorem Bu {α:Type} {n:Int} (h:0≤n) (x:α):Aa (AQ n x)=n:=by unfold Aa AQ;rw[List.length_replicate];omega
theorem J6 {α:Type} {n j:Int} (h0:0≤j) (h1:j<n) (x:α):idx (AQ n x) j=some x:=by
 rw[B7 h0];unfold AQ;rw[List.getElem?_replicate,if_pos (by omega)]
theorem GO {α:Type} {l m:List α} (h:Aa l=Aa m) (e:∀j,0≤j→j<Aa l→idx l j=idx m j):l=m:=by
 refine List.ext_getElem? fun k=>?_
 by_cases hk:k<l.length
 ·have:=e (k:Int) (by omega) (by unfold Aa;omega)
  rwa [B7 (by omega),B7 (by omega),Int.toNat_natCast] at this
 ·rw[List.getElem?_eq_none_iff.2 (by omega),List.getElem?_eq_none_iff.2 (by unfold Aa at h;omega)]
theorem MM {α:Type} {l m:List α} {j:Int} (h0:0≤j):idx (l++m) j=if j<Aa l then idx l j else idx m (j-Aa l):=by
 split
 ·rename_i h
  rw[B7 h0,B7 h0,List.getElem?_append_left (by unfold Aa at h;omega)]
 ·rename_i h
  have h2:0≤j-Aa l:=by omega
  rw[B7 h0,B7 h2,List.getElem?_append_right (by unfold Aa at h;omega)]
  congr 1
  unfold Aa;omega
theorem AbR {α:Type} {l:List α} {x:α}:idx (l++[x]) (Aa l)=some x:=by
 rw[MM (Ap l),if_neg (by omega),Int.sub_self];rfl
theorem Dv {α:Type} (l:List α) (x:α):Aa (l++(x::[]))=Aa l+1:=by unfold Aa;rw[List.length_append,List.length_singleton];omega
theorem AO {α:Type} (l m:List α):Aa (l++m)=Aa l+Aa m:=by unfold Aa;rw[List.length_append];omega
theorem AG {α A:Type} (x:α) (f:α→A):Ay x f=f x:=id rfl
theorem Af {α:Type} {b:Bool} (x y:α) (h:b=true):cnd b x y=x:=by subst h;rfl
theorem Ag {α:Type} {b:Bool} (x y:α) (h:b=false):cnd b x y=y:=by subst h;rfl
theorem Ab {α A:Type} {o:Option α} {a:α} (bad:A) (f:α→A) (h:o=some a):Ad o bad f=f a:=by subst h;rfl
theorem AeY:(2:Int) ^ 46=70368744177664:=by decide
theorem AeZ:(2:Int) ^ 47=140737488355328:=by decide
theorem room_le {n:Int} {b:Nat} (h:n*b≤70368744177664):AN n b=true:=by
 unfold AN;rw[decide_eq_true_eq,AeY];exact h
theorem UN {n:Int} {b:Nat} (h:(b:Int)*n≤140737488355328):Dw n b=true:=by
 unfold Dw;rw[decide_eq_true_eq,AeZ];exact h
end Go.Den
namespace Go.Den
open Go.RowKit
theorem WK (x m k:Nat):x &&& (2 ^ (2*k)*m+(2 ^ k-1))=2 ^ (2*k)*((x >>> (2*k)) &&& m)+x%2 ^ k:=by
 have h1:2 ^ k-1<2 ^ (2*k):=Nat.lt_of_lt_of_le (Nat.sub_lt (Nat.pow_pos (by decide)) (by decide)) (Nat.pow_le_pow_right (by decide) (by omega))
 have h2:x%2 ^ k<2 ^ (2*k):=Nat.lt_of_lt_of_le (Nat.mod_lt _ (Nat.pow_pos (by decide))) (Nat.pow_le_pow_right (by decide) (by omega))
 apply Nat.eq_of_testBit_eq
 intro j
 rw[Nat.testBit_and,Nat.testBit_two_pow_mul_add _ h1,Nat.testBit_two_pow_mul_add _ h2]
 by_cases hj:j<2*k
 ·rw[if_pos hj,if_pos hj,Nat.testBit_two_pow_sub_one,Nat.testBit_mod_two_pow,Bool.and_comm]
 ·rw[if_neg hj,if_neg hj,Nat.testBit_and,Nat.testBit_shiftRight]
  congr 2
  omega
def Bj (k:Nat):Nat→Nat→Nat
 |0,_=>0
 |n+1,x=>(x%2 ^ k+x/2 ^ k%2 ^ k)+2 ^ (2*k)*Bj k n (x/2 ^ (2*k))
def KM (k:Nat):Nat→Nat
 |0=>0
 |n+1=>2 ^ (2*k)*KM k n+(2 ^ k-1)
theorem QF (k:Nat):∀n x,((x >>> k) &&& KM k n)+(x &&& KM k n)=Bj k n x
 |0,x=>by simp[KM,Bj]
 |n+1,x=>by
  have ih:=QF k n (x/2 ^ (2*k))
  rw[KM,WK,WK,Bj,←ih,Nat.mul_add]
  have e:(x >>> k) >>> (2*k)=(x/2 ^ (2*k)) >>> k:=by
   rw[←Nat.shiftRight_eq_div_pow,←Nat.shiftRight_add,←Nat.shiftRight_add,Nat.add_comm]
  rw[e,Nat.shiftRight_eq_div_pow x (2*k),Nat.shiftRight_eq_div_pow x k]
  omega
theorem nI:∀n x,(∀i,x/16 ^ i%16≤4)→((x >>> 4)+x) &&& KM 4 n=Bj 4 n x
 |0,x,_=>by simp[KM,Bj]
 |n+1,x,h=>by
  have h0:=h 0
  have h1:=h 1
  have h2:=h 2
  have ih:=nI n (x/256) (fun i=>by
   have:=h (i+2)
   rwa [show 16 ^ (i+2)=256*16 ^ i by rw[Nat.pow_add,Nat.mul_comm],←Nat.div_div_eq_div_mul] at this)
  rw[KM,WK,Bj,←ih]
  simp only[Nat.pow_zero,Nat.div_one,Nat.pow_one,Nat.shiftRight_eq_div_pow,Nat.reducePow,Nat.reduceMul] at *
  have e16:x/16/16=x/256:=by omega
  have q:x/16+x=(x%16+x/16%16)+16*(x/16%16+x/256%16)+256*(x/256/16+x/256):=by omega
  have e:(x/16+x)/256=x/256/16+x/256:=by omega
  rw[e]
  omega
theorem qT (n x:Nat):Bj 1 (n+4) x=Bj 1 4 (x%256)+256*Bj 1 n (x/256):=by
 have e:x/4/4/4/4=x/256:=by omega
 simp only[Bj,Nat.reducePow,Nat.reduceMul,e]
 omega
theorem qU (n x:Nat):Bj 2 (n+2) x=Bj 2 2 (x%256)+256*Bj 2 n (x/256):=by
 have e:x/16/16=x/256:=by omega
 simp only[Bj,Nat.reducePow,Nat.reduceMul,e]
 omega
theorem qV (n x:Nat):Bj 4 (n+1) x=Bj 4 1 (x%256)+256*Bj 4 n (x/256):=by
 simp only[Bj,Nat.reducePow,Nat.reduceMul]
 omega
def L4 (n x:Nat):Nat:=Bj 4 n (Bj 2 (2*n) (Bj 1 (4*n) x))
theorem AeP:∀y:Fin 256,Bj 1 4 y.val<256∧Bj 2 2 (Bj 1 4 y.val)<256∧L4 1 y.val=Cs y.val 0 8∧Bj 2 2 (Bj 1 4 y.val)%16≤4∧Bj 2 2 (Bj 1 4 y.val)/16≤4:=by decide +kernel
theorem fY {y:Nat} (h:y<256):Bj 1 4 y<256∧Bj 2 2 (Bj 1 4 y)<256∧L4 1 y=Cs y 0 8∧Bj 2 2 (Bj 1 4 y)%16≤4∧Bj 2 2 (Bj 1 4 y)/16≤4:=AeP ⟨y,h⟩
theorem nL (n x:Nat):Bj 2 (2*(n+1)) (Bj 1 (4*(n+1)) x)=Bj 2 2 (Bj 1 4 (x%256))+256*Bj 2 (2*n) (Bj 1 (4*n) (x/256)):=by
 have h:=fY (Nat.mod_lt x (by decide:0<256))
 rw[show 4*(n+1)=4*n+4 by omega,show 2*(n+1)=2*n+2 by omega,qT,qU]
 congr 2
 ·congr 1;omega
 ·congr 1;omega
theorem oJ (n x:Nat):L4 (n+1) x=Cs (x%256) 0 8+256*L4 n (x/256):=by
 have h:=fY (Nat.mod_lt x (by decide:0<256))
 unfold L4
 rw[nL,qV,←h.2.2.1]
 show _ = Bj 4 1 (Bj 2 2 (Bj 1 4 (x%256)))+256*Bj 4 n (Bj 2 (2*n) (Bj 1 (4*n) (x/256)))
 congr 2
 ·congr 1;omega
 ·congr 1;omega
theorem tN:∀(n x i:Nat),(Bj 2 (2*n) (Bj 1 (4*n) x))/16 ^ i%16≤4
 |0,x,i=>by simp[Bj]
 |n+1,x,i=>by
  have h:=fY (Nat.mod_lt x (by decide:0<256))
  rw[nL]
  match i with
  |0=>simp only[Nat.pow_zero,Nat.div_one];omega
  |1=>simp only[Nat.pow_one];omega
  |i+2 =>
   have ih:=tN n (x/256) i
   rw[show 16 ^ (i+2)=256*16 ^ i by rw[Nat.pow_add,Nat.mul_comm],←Nat.div_div_eq_div_mul]
   rw[show (Bj 2 2 (Bj 1 4 (x%256))+256*Bj 2 (2*n) (Bj 1 (4*n) (x/256)))/256=Bj 2 (2*n) (Bj 1 (4*n) (x/256)) by omega]
   exact ih
theorem zA (x n:Nat):Cs x 0 (8+n)=Cs (x%256) 0 8+Cs (x/256) 0 n:=by
 rw[Qg]
 congr 1
 ·unfold Cs
  congr 1
  refine List.filter_congr fun i hi=>?_
  have hi:i<8:=by simpa using hi
  rw[show (256:Nat)=2 ^ 8 from rfl,Nat.testBit_mod_two_pow]
  simp[hi]
 ·unfold Cs
  congr 1
  refine List.filter_congr fun i _=>?_
  rw[show (256:Nat)=2 ^ 8 from rfl,←Nat.shiftRight_eq_div_pow,Nat.testBit_shiftRight]
  congr 1
  omega
def Q0 (x:Nat):Nat :=
 let y:=((x >>> 1) &&& 6148914691236517205)+(x &&& 6148914691236517205)
 let z:=((y >>> 2) &&& 3689348814741910323)+(y &&& 3689348814741910323)
 ((z >>> 4)+z) &&& 1085102592571150095
theorem AdO (x:Nat):Q0 x=L4 8 x:=by
 unfold Q0 L4
 have e1:(6148914691236517205:Nat)=KM 1 32:=by decide +kernel
 have e2:(3689348814741910323:Nat)=KM 2 16:=by decide +kernel
 have e4:(1085102592571150095:Nat)=KM 4 8:=by decide +kernel
 simp only[e1,e2,e4]
 rw[QF,QF]
 exact nI 8 _ (tN 8 x)
def MK (x:Int):Int:=Cs x.toNat 0 64
theorem Acn (x:Nat):∃s0 s1 s2 s3 s4 s5 s6 s7:Nat,(s0≤8∧s1≤8∧s2≤8∧s3≤8)∧(s4≤8∧s5≤8∧s6≤8∧s7≤8)∧Q0 x=s0+256*(s1+256*(s2+256*(s3+256*(s4+256*(s5+256*(s6+256*s7))))))∧Cs x 0 64=s0+(s1+(s2+(s3+(s4+(s5+(s6+s7)))))):=by
 have h8:Cs x 0 64=Cs x 0 (8+(8+(8+(8+(8+(8+(8+(8+0)))))))):=rfl
 rw[h8,AdO]
 simp only[zA,oJ]
 refine ⟨Cs (x%256) 0 8,Cs (x/256%256) 0 8,Cs (x/256/256%256) 0 8,Cs (x/256/256/256%256) 0 8,Cs (x/256/256/256/256%256) 0 8,Cs (x/256/256/256/256/256%256) 0 8,Cs (x/256/256/256/256/256/256%256) 0 8,Cs (x/256/256/256/256/256/256/256%256) 0 8,⟨GM _ _ _,GM _ _ _,GM _ _ _,GM _ _ _⟩,⟨GM _ _ _,GM _ _ _,GM _ _ _,GM _ _ _⟩,?_,?_⟩
 ·simp only[L4,Bj,Nat.mul_zero,Nat.add_zero]
 ·rfl
end Go.Den
namespace Go.Den
open Go.RowKit
def Ci (x:Int):Prop:=0≤x∧x≤18446744073709551615
theorem wrap_u64 (n:Int):IntKind.u64.wrap n=n%18446744073709551616:=by
 unfold IntKind.wrap
 simp[IntKind.signed,IntKind.bits]
theorem Ae3:((2 ^ 64:Nat):Int)=18446744073709551616:=by decide
theorem JV:(2 ^ 64:Nat)=18446744073709551616:=by decide
theorem GV {x:Int} (h:Ci x):(BitVec.ofInt 64 x).toNat=x.toNat:=by
 rw[BitVec.toNat_ofInt,Ae3,Int.emod_eq_of_lt h.1 (by have:=h.2;omega)]
theorem PC {x:Int} (h:Ci x):x.toNat<2 ^ 64:=by
 have:=h.1;have:=h.2;rw[JV];omega
theorem PZ {n:Nat} (h:n<2 ^ 64):Ci (n:Int):=by
 rw[JV] at h;exact ⟨by omega,by omega⟩
theorem AdS {x:Int} (h:Ci x):∃n:Nat,x=n∧n<2 ^ 64:=⟨x.toNat,(Int.toNat_of_nonneg h.1).symm,PC h⟩
theorem JE {n:Nat} (h:n<2 ^ 64):wr .u64 (n:Int)=n:=by
 have:=(PZ h)
 show IntKind.u64.wrap _ = _
 rw[wrap_u64,Int.emod_eq_of_lt this.1 (by have:=this.2;omega)]
theorem Lg {x y:Nat} (hx:x<2 ^ 64) (hy:y<2 ^ 64):Ai .and .u64 (x:Int) (y:Int)=((x &&& y:Nat):Int):=by
 show IntKind.u64.wrap ((BitVec.ofInt 64 x &&& BitVec.ofInt 64 y).toNat:Int) = _
 rw[BitVec.toNat_and,GV (PZ hx),GV (PZ hy)]
 exact JE (Nat.and_lt_two_pow _ hy)
theorem j9 {x y:Nat} (hx:x<2 ^ 64) (hy:y<2 ^ 64):Ai .or .u64 (x:Int) (y:Int)=((x ||| y:Nat):Int):=by
 show IntKind.u64.wrap ((BitVec.ofInt 64 x ||| BitVec.ofInt 64 y).toNat:Int) = _
 rw[BitVec.toNat_or,GV (PZ hx),GV (PZ hy)]
 exact JE (Nat.or_lt_two_pow hx hy)
theorem Ko (x:Nat) (n:Nat) (hn:n≤63):Av .u64 (x:Int) n=((x >>> n:Nat):Int):=by
 unfold Av
 rw[show min ((n:Int)).toNat IntKind.u64.bits=n by simp only[IntKind.bits];omega]
 have hp:(0:Int)<2 ^ n:=Int.pow_pos (by decide)
 rw[Int.fdiv_eq_ediv_of_nonneg _ (Int.le_of_lt hp),Nat.shiftRight_eq_div_pow]
 simp
theorem Aci {x:Nat} (_:x<2 ^ 64):Bc .u64 (x:Int) 1=((2*x%2 ^ 64:Nat):Int):=by
 unfold Bc
 rw[show min ((1:Int)).toNat IntKind.u64.bits=1 by simp only[IntKind.bits];omega,wrap_u64]
 rw[JV];omega
def oc1 (x:Int):Int:=wr .u64 (Ai .and .u64 (Av .u64 x 1) 6148914691236517205+Ai .and .u64 x 6148914691236517205)
def oc2 (x:Int):Int:=wr .u64 (Ai .and .u64 (Av .u64 x 2) 3689348814741910323+Ai .and .u64 x 3689348814741910323)
def oc3 (x:Int):Int:=Ai .and .u64 (wr .u64 (Av .u64 x 4+x)) 1085102592571150095
def oc4 (x:Int):Int:=wr .u64 (x+Av .u64 x 8)
def oc5 (x:Int):Int:=wr .u64 (x+Av .u64 x 16)
def oc6 (x:Int):Int:=wr .u64 (x+Av .u64 x 32)
def Ab1 (x:Int):Int:=Ai .and .i64 (wr .i64 (oc6 (oc5 (oc4 (oc3 (oc2 (oc1 x))))))) 127
theorem Afb {s0 s1 s2 s3 s4 s5 s6 s7 S:Nat} (h0:s0≤8∧s1≤8∧s2≤8∧s3≤8) (h4:s4≤8∧s5≤8∧s6≤8∧s7≤8) (h:S=s0+256*(s1+256*(s2+256*(s3+256*(s4+256*(s5+256*(s6+256*s7))))))) :
 ∃a b c:Nat,a=S+S >>> 8∧b=a+a >>> 16∧c=b+b >>> 32∧S<2 ^ 62∧a<2 ^ 62∧b<2 ^ 62∧c<2 ^ 62∧c%128=s0+(s1+(s2+(s3+(s4+(s5+(s6+s7)))))):=by
 obtain⟨t7,e7⟩:∃t,t=s7:=⟨_,rfl⟩
 obtain⟨t6,e6⟩:∃t,t=s6+256*t7:=⟨_,rfl⟩
 obtain⟨t5,e5⟩:∃t,t=s5+256*t6:=⟨_,rfl⟩
 obtain⟨t4,e4⟩:∃t,t=s4+256*t5:=⟨_,rfl⟩
 obtain⟨t3,e3⟩:∃t,t=s3+256*t4:=⟨_,rfl⟩
 obtain⟨t2,e2⟩:∃t,t=s2+256*t3:=⟨_,rfl⟩
 obtain⟨t1,e1⟩:∃t,t=s1+256*t2:=⟨_,rfl⟩
 have hS:S=s0+256*t1:=by rw[h,e1,e2,e3,e4,e5,e6,e7]
 have p62:(2:Nat) ^ 62=4611686018427387904:=by decide
 have q8:S >>> 8=t1:=by rw[Nat.shiftRight_eq_div_pow];omega
 have b7:t7≤8:=by omega
 have b6:t6≤8+256*8:=by omega
 have b5:t5≤8+256*8+65536*8:=by omega
 have b4:t4≤8+256*8+65536*8+16777216*8:=by omega
 have b3:t3≤40000000000:=by omega
 have b2:t2≤11000000000000:=by omega
 have b1:t1≤3000000000000000:=by omega
 have q16:(S+t1) >>> 16=t2+t3:=by rw[Nat.shiftRight_eq_div_pow];omega
 have q32:(S+t1+(t2+t3)) >>> 32=t4+t5+t6+t7:=by
  rw[Nat.shiftRight_eq_div_pow]
  have:S+t1+(t2+t3)=(s0+s1+s2+s3)+256*(s1+s2+s3+s4)+65536*(s2+s3+s4+s5)+16777216*(s3+s4+s5+s6)+4294967296*(t4+t5+t6+t7):=by omega
  omega
 refine ⟨S+t1,S+t1+(t2+t3),S+t1+(t2+t3)+(t4+t5+t6+t7),by rw[q8],by rw[q16],by rw[q32],?_,?_,?_,?_,?_⟩
 all_goals (try rw[p62])<;>omega
theorem Ado {x:Int} (hx:Ci x):Ab1 x=MK x:=by
 obtain⟨n,rfl,hn⟩:=AdS hx
 have m1:(6148914691236517205:Nat)<2 ^ 64:=by decide
 have m2:(3689348814741910323:Nat)<2 ^ 64:=by decide
 have m4:(1085102592571150095:Nat)<2 ^ 64:=by decide
 have sh:∀(a k:Nat),a<2 ^ 64→a >>> k<2 ^ 64:=fun a k h=>by
  rw[Nat.shiftRight_eq_div_pow];exact Nat.lt_of_le_of_lt (Nat.div_le_self _ _) h
 have e1:oc1 (n:Int)=(((n >>> 1) &&& 6148914691236517205)+(n &&& 6148914691236517205):Nat):=by
  unfold oc1
  have a1:Av .u64 (n:Int) 1 = _:=Ko n 1 (by decide)
  rw[a1]
  have a2:Ai .and .u64 ((n >>> 1:Nat):Int) 6148914691236517205=(((n >>> 1) &&& 6148914691236517205:Nat):Int):=Lg (sh n 1 hn) m1
  have a3:Ai .and .u64 (n:Int) 6148914691236517205=((n &&& 6148914691236517205:Nat):Int):=Lg hn m1
  rw[a2,a3,←Int.natCast_add]
  refine JE ?_
  have:=Nat.and_le_right (n:=n >>> 1) (m:=6148914691236517205)
  have:=Nat.and_le_right (n:=n) (m:=6148914691236517205)
  rw[JV];omega
 rw[show Ab1 (n:Int)=Ai .and .i64 (wr .i64 (oc6 (oc5 (oc4 (oc3 (oc2 (oc1 (n:Int)))))))) 127 from rfl,e1]
 have b1:((n >>> 1) &&& 6148914691236517205)+(n &&& 6148914691236517205)<2 ^ 64:=by
  have:=Nat.and_le_right (n:=n >>> 1) (m:=6148914691236517205)
  have:=Nat.and_le_right (n:=n) (m:=6148914691236517205)
  rw[JV];omega
 generalize hy:((n >>> 1) &&& 6148914691236517205)+(n &&& 6148914691236517205)=y at b1
 have b2:((y >>> 2) &&& 3689348814741910323)+(y &&& 3689348814741910323)≤7378697629483820646:=by
  have:=Nat.and_le_right (n:=y >>> 2) (m:=3689348814741910323)
  have:=Nat.and_le_right (n:=y) (m:=3689348814741910323)
  omega
 have e2:oc2 (y:Int)=(((y >>> 2) &&& 3689348814741910323)+(y &&& 3689348814741910323):Nat):=by
  unfold oc2
  have a1:Av .u64 (y:Int) 2 = _:=Ko y 2 (by decide)
  rw[a1]
  have a2:Ai .and .u64 ((y >>> 2:Nat):Int) 3689348814741910323=(((y >>> 2) &&& 3689348814741910323:Nat):Int):=Lg (sh y 2 b1) m2
  have a3:Ai .and .u64 (y:Int) 3689348814741910323=((y &&& 3689348814741910323:Nat):Int):=Lg b1 m2
  rw[a2,a3,←Int.natCast_add]
  refine JE ?_
  rw[JV];omega
 rw[e2]
 generalize hz:((y >>> 2) &&& 3689348814741910323)+(y &&& 3689348814741910323)=z at b2
 have hs:(z >>> 4+z) &&& 1085102592571150095=Q0 n:=by
  unfold Q0;simp only[hy,hz]
 have b3:z >>> 4+z<2 ^ 64:=by rw[Nat.shiftRight_eq_div_pow,JV];omega
 have e3:oc3 (z:Int)=(Q0 n:Nat):=by
  unfold oc3
  have a1:Av .u64 (z:Int) 4 = _:=Ko z 4 (by decide)
  rw[a1,←Int.natCast_add,JE b3,←hs]
  exact Lg b3 m4
 rw[e3]
 obtain⟨s0,s1,s2,s3,s4,s5,s6,s7,h0,h4,hS,hc⟩:=Acn n
 obtain⟨a,b,c,ea,eb,ec,lS,la,lb,lc,hm⟩:=Afb h0 h4 hS
 have p62:(2:Nat) ^ 62=4611686018427387904:=by decide
 have lt:∀k:Nat,k<2 ^ 62→k<2 ^ 64:=fun k hk=>by rw[p62] at hk;rw[JV];omega
 have e4:oc4 (Q0 n:Int)=(a:Nat):=by
  unfold oc4
  have a1:Av .u64 (Q0 n:Int) 8 = _:=Ko (Q0 n) 8 (by decide)
  rw[a1,←Int.natCast_add,←ea];exact JE (lt _ la)
 have e5:oc5 (a:Int)=(b:Nat):=by
  unfold oc5
  have a1:Av .u64 (a:Int) 16 = _:=Ko a 16 (by decide)
  rw[a1,←Int.natCast_add,←eb];exact JE (lt _ lb)
 have e6:oc6 (b:Int)=(c:Nat):=by
  unfold oc6
  have a1:Av .u64 (b:Int) 32 = _:=Ko b 32 (by decide)
  rw[a1,←Int.natCast_add,←ec];exact JE (lt _ lc)
 rw[e4,e5,e6,Am _ (by omega) (by rw[p62] at lc;omega)]
 have fin:Ai .and .i64 (c:Int) 127=((c &&& 127:Nat):Int):=by
  show IntKind.i64.wrap ((BitVec.ofInt 64 c &&& BitVec.ofInt 64 127).toNat:Int) = _
  rw[BitVec.toNat_and,GV (PZ (lt _ lc)),GV ⟨by decide,by decide⟩]
  have h1:(c:Int).toNat &&& (127:Int).toNat=c &&& 127:=by rw[Int.toNat_natCast];rfl
  rw[h1]
  have h2:=Nat.and_le_right (n:=c) (m:=127)
  exact Am _ (by omega) (by omega)
 rw[fin,show (127:Nat)=2 ^ 7-1 from rfl,Nat.and_two_pow_sub_one_eq_mod]
 unfold MK
 rw[Int.toNat_natCast,hc]
 show ((c%128:Nat):Int) = _
 rw[hm]
theorem Aev {x:Nat} (hx:x%2=0):x ||| 1=x+1:=by
 apply Nat.eq_of_testBit_eq
 intro j
 rw[Nat.testBit_or]
 cases j with
 |zero=>simp[hx];omega
 |succ j =>
  simp only[Nat.testBit_succ]
  rw[show (x+1)/2=x/2 by omega]
  simp
end Go.Den
namespace Go.Den
open Go.RowKit
def C5 {σ A:Type} (c:σ→Int) (Inv:σ→Prop) (P:A→Prop) (k:Int):Step σ A→Prop
 |.next s'=>c s'=k+1∧Inv s'
 |.done a=>P a
def Lb {σ A:Type} (P:A→Prop):Step σ A→Prop
 |.next _=>False
 |.done a=>P a
theorem AI {σ A:Type} {bad:A} {f:σ→Step σ A} (c:σ→Int) (n:Int) (Inv:σ→Prop) (P:A→Prop) {s0:σ} (hn:n<18446744073709551616) (hc0:0≤c s0) (hcn:c s0≤n) (h0:Inv s0)
 (hstep:∀s,Inv s→0≤c s→c s<n→C5 c Inv P (c s) (f s)) (hend:∀s,Inv s→c s=n→Lb P (f s)):P (iter bad f AA s0):=by
 refine EG (fun s=>Inv s∧0≤c s∧c s≤n) (fun s=>(n-c s).toNat) P ?_ AA s0 ⟨h0,hc0,hcn⟩ (by rw[Gl];omega)
 rintro s ⟨hI,h1,h2⟩
 by_cases h:c s<n
 ·have:=hstep s hI h1 h
  cases hf:f s with
  |next s'=>rw[hf] at this;exact ⟨⟨this.2,by have:=this.1;omega,by have:=this.1;omega⟩,by have:=this.1;show (n-c s').toNat<(n-c s).toNat;omega⟩
  |done a=>rw[hf] at this;exact this
 ·have:=hend s hI (by omega)
  cases hf:f s with
  |next s'=>rw[hf] at this;exact this.elim
  |done a=>rw[hf] at this;exact this
theorem MN {α β:Type} {l:List α} {f:Nat→α→β} {i:Int} (h0:0≤i):idx (l.mapIdx f) i=(idx l i).map (f i.toNat):=by
 rw[B7 h0,B7 h0,List.getElem?_mapIdx]
theorem Hf {α β:Type} {l:List α} {f:Nat→α→β}:Aa (l.mapIdx f)=Aa l:=by unfold Aa;rw[List.length_mapIdx]
theorem Pt {α β:Type} {l:List α} {f:α→β} {i:Int}:idx (l.map f) i=(idx l i).map f:=by
 unfold idx;split
 ·rw[List.getElem?_map]
 ·rfl
theorem Jc {α β:Type} {l:List α} {f:α→β}:Aa (l.map f)=Aa l:=by unfold Aa;rw[List.length_map]
theorem WS {α:Type}:Aa ([]:List α)=0:=rfl
theorem EY {α:Type} (a:α) (l:List α):Aa (a::l)=Aa l+1:=by unfold Aa;rw[List.length_cons];omega
theorem bW {α:Type} {l:List α} {x:α} {b:Nat} (h:(Aa l+1)*b≤70368744177664):(true&&AN (Aa l+Aa (x::([]:List α))) b)=true:=by
 rw[Bool.true_and];exact room_le (by rw[EY,WS];simpa using h)
theorem Js {n:Int} {b:Nat} (h0:0≤n) (h:(b:Int)*n≤140737488355328):((decide (0≤n))&&((decide (n≤n))&&(Dw n b)))=true:=by
 rw[UN h];simp[h0]
end Go.Den
namespace Go.Den
open Go.RowKit
theorem FZ {σ A:Type} (k:σ→A) (body:(σ→A)→A):DM k body=body k:=id rfl
def AllOK (P:Program) (il:List (Nat×Inl)):Prop:=∀e∈il,FnOK P e.1 e.2
theorem AllOK.nil {P:Program}:AllOK P []:=fun _ h=>by cases h
theorem AllOK.cons {P:Program} {f:Nat} {I:Inl} {il:List (Nat×Inl)} (h:FnOK P f I) (hl:AllOK P il):AllOK P ((f,I)::il):=fun e he=>by
 rcases List.mem_cons.1 he with rfl|he
 ·exact h
 ·exact hl e he
theorem AllOK.inl {P:Program} {V:World→Prop} {l:List (Nat×Al)} {il:List (Nat×Inl)} (h:AllOK P il):∀f I,(mkC P V l il).inl f=some I→FnOK (mkC P V l il).P f I:=fun f I hf=>h (f,I) (HX hf)
theorem DB {P:Program} {V:World→Prop} {l:List (Nat×Al)} {il:List (Nat×Inl)} {f:FuncId} {fn:Func} {hs:Hints} {ats rts:List Ty} {g:(AJ ats).interp→Option (AJ rts).interp} (hl:AllMeet P V l) (hV:Oa V) (hm:P.follows .mixedOrders=true) (hI:AllOK P il) (hf:FnOK P f (Ak fn hs))
 (fr:Bool) (d:Nat) (h:∀x,denote (mkC P V l il) d (Ak fn hs) ats rts fr x=g x):Ao P V f (spP ats rts g fr) :=
 G6 (C:=mkC P V l il) (I:=Ak fn hs) hl.tbl ⟨fun _ _ h=>(by cases h),fun _ _ h=>(by cases h)⟩ hV hm hI.inl hf d (fun x y hy=>by
  have e:g x=some y:=hy
  rw[←e];exact h x) (fun g' hg x=>by cases hg)
def Z0:Operand:=.const (.slice none 0 0)
structure yN (P:Program) (fn:Func) (t e:TypeId) (rest:Code):Prop where
 under:P.underlying t=some (.slice e)
 res:fn.results.toList=[.tmp 2]
 name:(fn.name== "runtime.NumGoroutine")=false
 dsts:Gz fn.ntmps rest=true
 size:8≤fn.ntmps
 body:∃(i0 i1 i2:Nat) (o0 o1 o2 o3:Oper),fn.body=some (.seq (.region i0 #[o0] false) (.seq (.seq (.region i1 #[o1,o2] false) (.cond (.tmp 4) (.seq (.region i2 #[o3] false) .ret) .skip)) rest)) ∧
  (o0.dst=some 2∧o0.op=.assign Z0∧o0.guard=none)∧(o1.dst=some 3∧o1.op=.move (.tmp 0)∧o1.guard=none) ∧
  (o2.dst=some 4∧(∃t',o2.op=.binOp .eql t (.tmp 3) Z0 t')∧o2.guard=none)∧(o3.dst=some 2∧o3.op=.assign Z0∧o3.guard=none)
theorem Ac3 {P:Program} {t e t':TypeId} (hu:P.underlying t=some (.slice e)) {o:Oper} (ho:o.op=.binOp .eql t (.tmp 3) Z0 t') {a:Act} {ad:Option Addr} {n c:Nat} (hv:a.eval (.tmp 3)=.slice ad n c) (w:World) :
 (execOp a.eval o).run P w=.ok (.value (.bool ad.isNone)) w:=by
 have h2:a.eval Z0=.slice none 0 0:=rfl
 obtain⟨d,hd⟩:∃d,Op.maxDepth=d+1:=⟨9999,rfl⟩
 have h3:∀y:Value,Op.equal t (.slice ad n c) y=Op.equalIn (d+1) t (.slice ad n c) y:=fun y=>by unfold Op.equal;rw[hd]
 cases ad<;>simp[execOp,ho,hv,h2,eqGuard,binOp,h3,Op.equalIn,Sem.run_bind,run_underlying hu,Result.andThen_ok]
theorem Ms {P:Program} {ops:Array Oper} {Q:Exit→Act→World→Prop} {i:Nat} {rest:List Nat} {a:Act} {w:World} {o:Oper} {v:Value} (ho:ops[i]?=some o) (hg:o.guard=none) (hr:(execOp a.eval o).run P w=.ok (.value v) w) (h:wpOps P ops Q rest (a.put o.dst v) w):wpOps P ops Q (i::rest) a w:=by
 simp only[wpOps,ho]
 have hw:Region.wanted o (yielded ops a.tmps)=true:=by simp[Region.wanted,hg]
 rw[if_pos hw]
 refine .inl ?_
 unfold Oper.wp
 rw[hr]
 exact h
theorem IG {a:Act} {d s:Nat} {v:Value} (h:d<a.tmps.size):(a.put (some d) v).tmps.getD s undef=if d=s then v else a.tmps.getD s undef:=by
 simp only[Lz,QI]
 by_cases e:d=s
 ·subst e;simp[h]
 ·rw[if_neg e]
  simp[Array.getElem?_setIfInBounds_ne e]
theorem IA {P:Program} {V:World→Prop} (hV:Oa V) (hm:P.follows .mixedOrders=true) {f:FuncId} {fn:Func} {t e:TypeId} {rest:Code} {T:Ty} {g:List T.interp→Option (List T.interp)} (hf:P.funcs[f]?=some fn) (hc:yN P fn t e rest)
 (h:∀l:List T.interp,B5 (mkC P V []) (I8 (mkC P V []) 0) {} rest {renv:=[],rheap:=[]} {env:=DF 0 [.v (.c (.sl T l))],heap:=[],next:=0} (My (mkC P V []) (Ak fn {}) [.slice T] true) none=g l)
 (h0:∀y,g []=some y→y=[]):Ao P V f (spP [.slice T] [.slice T] g true) where
 enters:=fun args w=>by
  obtain⟨i0,i1,i2,o0,o1,o2,o3,hb,_⟩:=hc.body
  have h3':¬fn.name= "runtime.NumGoroutine":=by simpa using hc.name
  simp[callFunc,hf,hb,h3']
 tot:=fun g' hg=>by cases hg
 calls:=fun w F vals x y hVw hF hargs hy=>by
  have hy:g x=some y:=hy
  obtain⟨i0,i1,i2,o0,o1,o2,o3,hb,⟨d0,p0,q0⟩,⟨d1,p1,q1⟩,⟨d2,⟨t',p2⟩,q2⟩,⟨d3,p3,q3⟩⟩:=hc.body
  obtain⟨us,hreads,hvals⟩:∃us,Reads w F (.slice T) x us∧vals=[valOf (.slice T) us]:=hargs
  have hrd:=hreads
  obtain⟨ad,cap,hus,hlen,hmax,hrow⟩:=hreads
  have hv0:vals=[.slice ad x.length cap]:=by rw[hvals,hus];rfl
  subst hv0
  have hC:FT (mkC P V []) ⟨w,fun _=>False,w.heap.size,F,[]⟩:=⟨AllMeet.nil.tbl,fun w' hb=>hV w w' hb hVw,fun _ _ h=>(by cases h),fun _ _ h=>(by cases h)⟩
  refine calls_of_wp hf hb ?_
  have hsz:8≤((#[Value.slice ad x.length cap]:Array Value)++Array.replicate (fn.ntmps-(#[Value.slice ad x.length cap]:Array Value).size) undef).size:=by
   have:=hc.size
   simp;omega
  have hg0:((#[Value.slice ad x.length cap]:Array Value)++Array.replicate (fn.ntmps-(#[Value.slice ad x.length cap]:Array Value).size) undef).getD 0 undef=.slice ad x.length cap:=by simp[Array.getElem?_append]
  have hsz2:fn.ntmps≤((#[Value.slice ad x.length cap]:Array Value)++Array.replicate (fn.ntmps-(#[Value.slice ad x.length cap]:Array Value).size) undef).size:=by simp;omega
  have htl:([Value.slice ad x.length cap]:List Value).toArray=#[Value.slice ad x.length cap]:=rfl
  rw[htl]
  generalize hT0:(#[Value.slice ad x.length cap]:Array Value)++Array.replicate (fn.ntmps-(#[Value.slice ad x.length cap]:Array Value).size) undef=tm at hsz hg0 hsz2
  refine wp_seq (wp_region ?_)
  refine Ms (o:=o0) (i:=0) (rest:=[]) rfl q0 (v:=.slice none 0 0) (by simp[execOp,p0];rfl) ?_
  show Exit.then _ _ .normal _ _
  simp only[Exit.then]
  rw[d0]
  refine wp_seq (wp_seq (wp_region ?_))
  have hg1:((⟨tm,[]⟩:Act).put (some 2) (.slice none 0 0)).eval (.tmp 0)=.slice ad x.length cap:=by
   show ((⟨tm,[]⟩:Act).put (some 2) (.slice none 0 0)).tmps.getD 0 undef = _
   rw[IG (by show 2<tm.size;omega),if_neg (by decide)];exact hg0
  refine Ms (o:=o1) (i:=0) (rest:=[1]) rfl q1 (v:=.slice ad x.length cap) (by simp[execOp,p1,hg1]) ?_
  rw[d1]
  have hg3:(((⟨tm,[]⟩:Act).put (some 2) (.slice none 0 0)).put (some 3) (.slice ad x.length cap)).eval (.tmp 3)=.slice ad x.length cap:=by
   show (((⟨tm,[]⟩:Act).put (some 2) (.slice none 0 0)).put (some 3) (.slice ad x.length cap)).tmps.getD 3 undef = _
   rw[IG (by rw[Cv];show 3<tm.size;omega),if_pos rfl]
  refine Ms (o:=o2) (i:=1) (rest:=[]) rfl q2 (v:=.bool ad.isNone) (Ac3 hc.under p2 hg3 w) ?_
  rw[d2]
  show Exit.then _ _ .normal _ _
  simp only[Exit.then]
  generalize ha3:((((⟨tm,[]⟩:Act).put (some 2) (.slice none 0 0)).put (some 3) (.slice ad x.length cap)).put (some 4) (.bool ad.isNone))=a3
  have s3:a3.tmps.size=tm.size:=by rw[←ha3,Cv,Cv,Cv]
  have e3:a3.defers=[]:=by rw[←ha3,put_defers,put_defers,put_defers]
  have g0:a3.tmps.getD 0 undef=.slice ad x.length cap:=by
   rw[←ha3,IG (by rw[Cv,Cv];show 4<tm.size;omega),if_neg (by decide),IG (by rw[Cv];show 3<tm.size;omega),if_neg (by decide),IG (by show 2<tm.size;omega),if_neg (by decide)];exact hg0
  have g4:a3.eval (.tmp 4)=.bool ad.isNone:=by
   show a3.tmps.getD 4 undef = _
   rw[←ha3,IG (by rw[Cv,Cv];show 4<tm.size;omega),if_pos rfl]
  cases ad with
  |none =>
   refine wp_cond_true g4 (wp_seq (wp_region ?_))
   refine Ms (o:=o3) (i:=0) (rest:=[]) rfl q3 (v:=.slice none 0 0) (by simp[execOp,p3];rfl) ?_
   rw[d3]
   show Exit.then _ _ .normal _ _
   simp only[Exit.then]
   refine wp_ret ?_
   simp only[Exit.then]
   have hx:x=([]:List T.interp):=by
    rcases hrow with h0|⟨b,off,cells,hh,_⟩
    ·exact List.eq_nil_of_length_eq_zero h0
    ·cases hh
   subst hx
   have hyn:=h0 y hy
   subst hyn
   refine ⟨by rw[put_defers];exact e3,.slice none 0 0,?_,?_⟩
   ·have:=Hh (P:=P) (w:=w) (fn:=fn) (tmps:=(a3.put (some 2) (.slice none 0 0)).tmps) hc.res (vs:=[.slice none 0 0]) (.cons (by
     show (rv _ (.tmp 2)).run P w = _
     simp only[rv]
     rw[IG (by rw[s3];omega),if_pos rfl];simp) .nil)
    exact this
   ·exact ⟨[.slice none 0 0],rfl,Below.refl _ _,.slice none 0 0,none,rfl,none,0,rfl,Nat.le_refl _,Nat.zero_le _,.inl ⟨rfl,rfl⟩⟩
  |some ad =>
   refine wp_cond_false g4 (wp_skip ?_)
   show Exit.then _ _ .normal _ _
   simp only[Exit.then]
   have hg:B5 (mkC P V []) (I8 (mkC P V []) 0) {} rest {renv:=[],rheap:=[]} {env:=DF 0 [.v (.c (.sl T x))],heap:=[],next:=0} (My (mkC P V []) (Ak fn {}) [.slice T] true) none=some y:=(h x).trans hy
   have hB:∀k,¬(⟨w,fun _=>False,w.heap.size,F,[]⟩:Base).D k:=fun _ hk=>hk
   have hrel:BI w F (fun _=>none) (.v (.c (.sl T x))) (.slice (some ad) x.length cap):=by
    have hall:All2 (BI w F (fun _=>none)) (EM [.slice T] x) [.slice (some ad) x.length cap]:=GA ⟨us,hrd,hvals⟩
    cases hall with
    |cons h1 _=>exact h1
   have hM:RelM ⟨w,fun _=>False,w.heap.size,F,[]⟩ {renv:=[],rheap:=[]} {env:=DF 0 [.v (.c (.sl T x))],heap:=[],next:=0} (fun _=>none) F w :=
    {heap:=fun k o hk=>by simp[St.obj,assoc] at hk
     own:=fun k o hk=>by simp[St.obj,assoc] at hk
     inj:=fun k k' o o' hk=>by simp[St.obj,assoc] at hk
     foreign:=fun b hb=>hb,flt:=fun _ _=>rfl,dom:=(fun k p hk=>by cases hk),below:=Below.refl _ _,bsize:=Nat.le_refl _,obound:=hF}
   have hat:At ⟨w,fun _=>False,w.heap.size,F,[]⟩ {renv:=[],rheap:=[]} fn.ntmps (fun _=>none) F w {env:=DF 0 [.v (.c (.sl T x))],heap:=[],next:=0} (fun _=>none) F a3 w :=
    ⟨hM,fun s v hs=>by
      simp only[St.get,R4,Nat.not_lt_zero,if_false,Nat.sub_zero] at hs
      cases s with
      |zero =>
       have hs:some (AVal.v (V1.c (Cell.sl T x)))=some v:=hs
       cases hs
       rw[g0];exact hrel
      |succ s=>simp[assoc] at hs,e3,by rw[s3];exact hsz2,μle.refl _,Keeps.refl _ _,fun k p hk=>by cases hk⟩
   have hap:Apart {renv:=[],rheap:=[]} {env:=DF 0 [.v (.c (.sl T x))],heap:=[],next:=0}:=⟨fun s hs=>absurd rfl hs,fun k hk=>absurd rfl hk,fun k hk=>absurd rfl hk⟩
   refine CV (C:=mkC P V []) (B:=⟨w,fun _=>False,w.heap.size,F,[]⟩) (Good:=fun a=>a=some y) (bad:=none) hC hB (HZ hC hB hm AllOK.nil.inl 0) (Nn hC hB hm) {} rest hc.dsts (by simp) hat hap (fun e' st' μ' O' a' w' h1 h2 h3=>?_) hg
   obtain⟨vs,ks,hvs,hyk,hfa⟩:=Of h3
   obtain⟨us',k1,k2⟩:=G8 (P:=P) h2.mem h2.env hvs
   have fin:a'.defers=[]∧∃v,(results fn a'.tmps).run P w'=.ok v w'∧∃rs,Ending.returned v=.returned (CQ rs)∧Below w.heap.size w w'∧FV w.heap.size w' F true [.slice T] y rs:=by
    simp only[Ls,Bool.and_eq_true] at hfa
    obtain⟨hform,hnd⟩:=hfa
    exact ⟨h2.defers,_,Hh rfl k1,us',rfl,h2.mem.below,aW h2.mem k2 hyk hform (nodup_iff hnd)⟩
   cases e' with
   |exit i=>cases h3
   |normal=>exact fin
   |ret=>exact fin
end Go.Den
namespace Go.Den
open Go.RowKit
theorem bG {A:Type} {bad:A} {bad2:Step Int A} {F:Int→Step Int A} {B:Int→Int→Step Int (Step Int A)} (n:Int) (m:Int→Int) (Q:Int→Int→Prop) (yes no:A) (P:A→Prop) (hn0:0≤n) (hn:n≤1000000) (hm:∀a,0≤a→a<n→0≤m a∧m a≤1000000)
 (hF:∀a,0≤a→a<n→(F a=.next (wr .i64 (a+1))∧∀b,0≤b→b<m a→¬Q a b)∨(F a=iter bad2 (B a) AA 0∧∀b,0≤b→b<m a→(Q a b∧B a b=.done (.done yes))∨(¬Q a b∧B a b=.next (wr .i64 (b+1))))) (hFe:F n=.done no)
 (hBe:∀a,0≤a→a<n→B a (m a)=.done (.next (wr .i64 (a+1))))
 (hy:(∃a b,0≤a∧a<n∧0≤b∧b<m a∧Q a b)→P yes) (hno:(∀a b,0≤a→a<n→0≤b→b<m a→¬Q a b)→P no):P (iter bad F AA 0):=by
 refine AI (fun a:Int=>a) n (fun a=>∀a' b,0≤a'→a'<a→0≤b→b<m a'→¬Q a' b) P (by omega) (by omega) hn0 (fun a' b h0 h1=>by omega) (fun a hI a0 a1=>?_) (fun a hI ha=>?_)
 ·have a0:0≤a:=a0
  have a1:a<n:=a1
  have hma:=hm a a0 a1
  have fin:(∀b,0≤b→b<m a→¬Q a b)→C5 (fun a:Int=>a) (fun a=>∀a' b,0≤a'→a'<a→0≤b→b<m a'→¬Q a' b) P a (.next (wr .i64 (a+1)):Step Int A):=fun hq=>by
   rw[Am (a+1) (by omega) (by omega)]
   refine ⟨rfl,fun a' b h0 h1 h2 h3=>?_⟩
   by_cases e:a'=a
   ·subst e;exact hq b h2 h3
   ·exact hI a' b h0 (by omega) h2 h3
  rcases hF a a0 a1 with ⟨e,hq⟩|⟨e,hB⟩
  ·rw[e];exact fin hq
  ·rw[e]
   refine AI (fun b:Int=>b) (m a) (fun b=>∀b',0≤b'→b'<b→¬Q a b') _ (by omega) (by omega) hma.1 (fun b' h0 h1=>by omega) (fun b hJ b0 b1=>?_) (fun b hJ hb=>?_)
   ·have b0:0≤b:=b0
    have b1:b<m a:=b1
    rcases hB b b0 b1 with ⟨hq,e2⟩|⟨hq,e2⟩
    ·rw[e2];exact hy ⟨a,b,a0,a1,b0,b1,hq⟩
    ·rw[e2,Am (b+1) (by omega) (by omega)]
     refine ⟨rfl,fun b' h0 h1=>?_⟩
     by_cases e:b'=b
     ·subst e;exact hq
     ·exact hJ b' h0 (by omega)
   ·have hb:b=m a:=hb
    rw[hb,hBe a a0 a1]
    exact fin fun b' h0 h1=>hJ b' h0 (by omega)
 ·have ha:a=n:=ha
  rw[ha,hFe]
  exact hno fun a' b h0 h1=>hI a' b h0 (by omega)
theorem LN {α β γ:Type} {f:α→β→γ} {l:List α} {m:List β} {i:Int} {a:α} {b:β} (ha:idx l i=some a) (hb:idx m i=some b):idx (List.zipWith f l m) i=some (f a b):=by
 have h0:=(An ha).1
 rw[B7 h0] at *
 rw[List.getElem?_zipWith,ha,hb]
theorem HB {α β γ:Type} {f:α→β→γ} {l:List α} {m:List β} (h:Aa l=Aa m):Aa (List.zipWith f l m)=Aa l:=by
 unfold Aa at *
 rw[List.length_zipWith];omega
theorem Hc {α:Type} {l:List α} {i:Int} {a:α} (h:idx l i=some a):l.drop i.toNat=a::l.drop (i+1).toNat:=by
 have h0:=(An h).1
 rw[B7 h0] at h
 obtain⟨hl,he⟩:=List.getElem?_eq_some_iff.1 h
 rw[List.drop_eq_getElem_cons hl,he,show (i+1).toNat=i.toNat+1 by omega]
theorem WC {α:Type} {l:List α} {i:Int} (h:Aa l≤i):l.drop i.toNat=[]:=List.drop_eq_nil_of_le (by unfold Aa at h;omega)
theorem Aah {α:Type} {i:Int} (h:0≤i) (x:α):AQ i x++(x::[])=AQ (i+1) x:=by
 unfold AQ
 rw[show (i+1).toNat=i.toNat+1 by omega,List.replicate_succ']
theorem Bx {α β:Type} {l:List α} {x:β} {b:Nat} (h:(Aa l+1)*b≤70368744177664):(true&&AN (Aa l+Aa (x::([]:List β))) b)=true:=by
 rw[Bool.true_and];exact room_le (by rw[EY,WS];simpa using h)
theorem R2 {x b:Int} (hx:Ax x) (b0:0≤b) (b1:b≤31):(Ai .and .u32 (Av .u32 x b) 1==1)=AD x b:=by
 obtain⟨n,rfl⟩:∃n:Nat,b=n:=⟨b.toNat,by omega⟩
 have hs:Av .u32 x n=((x.toNat >>> n:Nat):Int):=M7 hx n (by omega)
 have hlt:x.toNat >>> n<2 ^ 32:=by
  rw[Nat.shiftRight_eq_div_pow];exact Nat.lt_of_le_of_lt (Nat.div_le_self _ _) (Fs hx)
 have ha:Ai .and .u32 ((x.toNat >>> n:Nat):Int) 1=((x.toNat >>> n &&& 1:Nat):Int):=by
  have:=Lf (N1 hlt) (show Ax 1 from ⟨by decide,by decide⟩)
  rw[Int.toNat_natCast] at this;exact this
 rw[hs,ha,Nat.and_one_is_mod]
 apply Bool.eq_iff_iff.2
 rw[beq_iff_eq]
 unfold AD
 rw[Int.toNat_natCast,Nat.testBit_eq_decide_div_mod_eq,Nat.shiftRight_eq_div_pow]
 simp only[Bool.and_eq_true,decide_eq_true_eq]
 omega
end Go.Den
namespace Go.Den
open Go.RowKit
def mkP (P:Program) (V:World→Prop) (l pl:List (Nat×Al)) (il:List (Nat×Inl)):Ctx:={P:=P,tbl:=fun f=>assoc l f,inl:=fun f=>assoc il f,V:=V,ptbl:=fun f=>assoc pl f}
def AllMeetP (P:Program) (V:World→Prop) (l:List (Nat×Al)):Prop:=∀e∈l,CH P V e.1 e.2
theorem AllMeetP.nil {P:Program} {V:World→Prop}:AllMeetP P V []:=fun _ h=>by cases h
theorem AllMeetP.cons {P:Program} {V:World→Prop} {f:Nat} {sp:Al} {l:List (Nat×Al)} (h:CH P V f sp) (hl:AllMeetP P V l):AllMeetP P V ((f,sp)::l):=fun e he=>by
 rcases List.mem_cons.1 he with rfl|he
 ·exact h
 ·exact hl e he
def mkO (P:Program) (V:World→Prop) (l pl ol:List (Nat×Al)) (il:List (Nat×Inl)):Ctx:={P:=P,tbl:=fun f=>assoc l f,inl:=fun f=>assoc il f,V:=V,ptbl:=fun f=>assoc pl f,otbl:=fun f=>assoc ol f}
def AllMeetO (P:Program) (V:World→Prop) (l:List (Nat×Al)):Prop:=∀e∈l,Hq P V e.1 e.2
theorem AllMeetO.nil {P:Program} {V:World→Prop}:AllMeetO P V []:=fun _ h=>by cases h
theorem AllMeetO.cons {P:Program} {V:World→Prop} {f:Nat} {sp:Al} {l:List (Nat×Al)} (h:Hq P V f sp) (hl:AllMeetO P V l):AllMeetO P V ((f,sp)::l):=fun e he=>by
 rcases List.mem_cons.1 he with rfl|he
 ·exact h
 ·exact hl e he
section
variable {P:Program} {V:World→Prop} {l pl:List (Nat×Al)} {il:List (Nat×Inl)} {f:FuncId} {fn:Func} {hs:Hints}
theorem AllMeet.tblP (h:AllMeet P V l):∀f sp,(mkP P V l pl il).tbl f=some sp→Ao (mkP P V l pl il).P (mkP P V l pl il).V f sp:=fun f sp hf=>h (f,sp) (HX hf)
theorem AllMeetP.ptbl (h:AllMeetP P V pl):∀f sp,(mkP P V l pl il).ptbl f=some sp→CH (mkP P V l pl il).P (mkP P V l pl il).V f sp:=fun f sp hf=>h (f,sp) (HX hf)
theorem AllOK.inlP (h:AllOK P il):∀f I,(mkP P V l pl il).inl f=some I→FnOK (mkP P V l pl il).P f I:=fun f I hf=>h (f,I) (HX hf)
theorem Gy {ats rts:List Ty} {g:(AJ ats).interp→Option (AJ rts).interp} (hl:AllMeet P V l) (hp:AllMeetP P V pl) (hV:Oa V) (hm:P.follows .mixedOrders=true) (hI:AllOK P il) (hf:FnOK P f (Ak fn hs))
 (fr:Bool) (d:Nat) (h:∀x,denote (mkP P V l pl il) d (Ak fn hs) ats rts fr x=g x):Ao P V f (spP ats rts g fr) :=
 G6 (C:=mkP P V l pl il) (I:=Ak fn hs) hl.tblP ⟨hp.ptbl,fun _ _ h=>(by cases h)⟩ hV hm hI.inlP hf d (fun x y hy=>by
  have hy:g x=some y:=hy
  rw[←hy];exact h x) (fun g' hg x=>by cases hg)
theorem C8 {t0 t1:Ty} {ats rts:List Ty} {g:(AJ (t0::ats)).interp→Option (AJ (t1::rts)).interp} (hl:AllMeet P V l) (hp:AllMeetP P V pl) (hm:P.follows .mixedOrders=true) (hI:AllOK P il) (hf:FnOK P f (Ak fn hs))
 (d:Nat) (h:∀x,Ei (mkP P V l pl il) d (Ak fn hs) t0 ats t1 rts x=g x):CH P V f (spP (t0::ats) (t1::rts) g) :=
 WW (C:=mkP P V l pl il) (I:=Ak fn hs) hl.tblP ⟨hp.ptbl,fun _ _ h=>(by cases h)⟩ hm hI.inlP hf d (fun x y hy=>by
  have hy:g x=some y:=hy
  rw[←hy];exact h x) (fun g' hg x=>by cases hg)
theorem VQ {t0:Ty} {ats rts:List Ty} {g:(AJ (t0::ats)).interp→Option (AJ rts).interp} (hl:AllMeet P V l) (hp:AllMeetP P V pl) (hV:Oa V) (hm:P.follows .mixedOrders=true) (hI:AllOK P il) (hf:FnOK P f (Ak fn hs))
 (d:Nat) (h:∀x,M0 (mkP P V l pl il) d (Ak fn hs) t0 ats rts x=g x):CH P V f (spP (t0::ats) rts g true) :=
 WX (C:=mkP P V l pl il) (I:=Ak fn hs) hl.tblP ⟨hp.ptbl,fun _ _ h=>(by cases h)⟩ hV hm hI.inlP hf d (fun x y hy=>by
  have hy:g x=some y:=hy
  rw[←hy];exact h x) (fun g' hg x=>by cases hg)
theorem Tk {ats rts:List Ty} {g:(AJ ats).interp→Option (AJ rts).interp} {ol:List (Nat×Al)} (hl:AllMeet P V l) (hp:AllMeetP P V pl) (ho:AllMeetO P V ol) (hV:Oa V) (hm:P.follows .mixedOrders=true) (hI:AllOK P il) (hf:FnOK P f (Ak fn hs))
 (fr:Bool) (d:Nat) (h:∀x,denote (mkO P V l pl ol il) d (Ak fn hs) ats rts fr x=g x):Ao P V f (spP ats rts g fr) :=
 G6 (C:=mkO P V l pl ol il) (I:=Ak fn hs) (AllMeet.tblP (pl:=pl) (il:=il) hl) ⟨AllMeetP.ptbl (l:=l) (il:=il) hp,fun f sp hf=>ho (f,sp) (HX hf)⟩ hV hm (AllOK.inlP (V:=V) (l:=l) (pl:=pl) hI) hf d (fun x y hy=>by
  have hy:g x=some y:=hy
  rw[←hy];exact h x) (fun g' hg x=>by cases hg)
theorem qS {t t':Ty} {ats rts:List Ty} {g:(AJ (.slice t::ats)).interp→Option (AJ (.slice t'::rts)).interp} (hl:AllMeet P V l) (hp:AllMeetP P V pl) (hm:P.follows .mixedOrders=true) (hI:AllOK P il) (hf:FnOK P f (Ak fn hs))
 (d:Nat) (h:∀x,UJ (mkP P V l pl il) d (Ak fn hs) t ats t' rts x=g x):Hq P V f (spP (.slice t::ats) (.slice t'::rts) g) :=
 WV (C:=mkP P V l pl il) (I:=Ak fn hs) hl.tblP ⟨hp.ptbl,fun _ _ h=>(by cases h)⟩ hm hI.inlP hf d (fun x y hy=>by
  have hy:g x=some y:=hy
  rw[←hy];exact h x) (fun g' hg x=>by cases hg)
end
end Go.Den
namespace Go.Den
open Go.RowKit
set_option linter.unusedSimpArgs false
def R0:RO:={renv:=[],rheap:=[]}
def Zo (C:Ctx) (d:Nat) (I Ic:Inl) (r0 rest:Code) (t s0 s1:Nat) (ats rts:List Ty) (x:(AJ ats).interp):Option (AJ rts).interp :=
 B5 C (I8 C d) I.hints r0 R0 {env:=DF 0 (EM ats x),heap:=[],next:=0} (fun e st=>match e with
  |.normal=>match st.get R0 s0,st.get R0 s1 with
   |some (.v (.c (.ptr k0 0))),some (.v (.c (.ptr k1 0)))=>B5 C (I8 C d) I.hints rest R0 (st.put (some t) none) (fun e st=>match e with
    |.exit _=>none
    |_=>match st.get R0 s0,st.get R0 s1 with
     |some (.v (.c (.ptr j0 0))),some (.v (.c (.ptr j1 0)))=>B5 C (I8 C d) Ic.hints Ic.code R0 {env:=DF 0 [.v (.c (.ptr k1 0)),.v (.c (.ptr k0 0))],heap:=st.heap,next:=st.next} (fun e st2=>match e with
       |.exit _=>none
       |_=>My C I rts false .ret {env:=[(s0,some (.v (.c (.ptr j0 0)))),(s1,some (.v (.c (.ptr j1 0))))],heap:=st2.heap,next:=st2.next}) none
     |_,_=>none) none
   |_,_=>none
  |_=>none) none
theorem sT {P:Program} {ops:Array Oper} {Q:Exit→Act→World→Prop} {i:Nat} {rest:List Nat} {a:Act} {w:World} {o:Oper} {d:Deferred} (ho:ops[i]?=some o) (hg:o.guard=none) (hr:(execOp a.eval o).run P w=.ok (.defer d) w) (h:wpOps P ops Q rest ({a with defers:=d::a.defers}.put o.dst undef) w):wpOps P ops Q (i::rest) a w:=by
 simp only[wpOps,ho]
 have hw:Region.wanted o (yielded ops a.tmps)=true:=by simp[Region.wanted,hg]
 rw[if_pos hw]
 refine .inl ?_
 unfold Oper.wp
 rw[hr]
 exact h
theorem ZX {C:Ctx} {f g:FuncId} {I Ic:Inl} {ts rs:List Ty} {fn:(AJ ts).interp→Option (AJ rs).interp}
 (hC:∀f sp,C.tbl f=some sp→Ao C.P C.V f sp) (hP:(∀f sp,C.ptbl f=some sp→CH C.P C.V f sp)∧∀f sp,C.otbl f=some sp→Hq C.P C.V f sp) (hV:∀w w',Below w.heap.size w w'→C.V w→C.V w')
 (hm:C.P.follows .mixedOrders=true) (hI:∀f I,C.inl f=some I→FnOK C.P f I) (hf:FnOK C.P f I) (hgc:FnOK C.P g Ic) (hres:Ic.results=[]) {i0 i1:Nat} {ops0:Array Oper} {o3 o4:Oper} {rest:Code}
 (hcode:I.code=.seq (.region i0 ops0 false) (.seq (.region i1 #[o3,o4] false) rest)) {t s0 s1:Nat} (h3:o3.dst=some t∧o3.op=.makeFunc (.func g) #[] #[.tmp s1,.tmp s0]∧o3.guard=none)
 (h4:o4.dst=none∧(∃as,o4.op=.defer {callee:=.value (.tmp t),args:=#[],argTypes:=as})∧o4.guard=none) (ht:t<I.ntmps) (d:Nat)
 (h:∀x y,fn x=some y→Zo C d I Ic (.region i0 ops0 false) rest t s0 s1 ts rs x=some y):Ao C.P C.V f (spP ts rs fn) where
 enters:=hf.enters
 tot:=fun g hg=>by cases hg
 calls:=fun w F vals x y hVw hF hargs hy=>by
  have hden:=h x y hy
  unfold Zo at hden
  obtain⟨gn,k1,k2,k3,k4,k5,k6⟩:=hgc
  have hent:=FnOK.enters (P:=C.P) (f:=g) (I:=Ic) ⟨gn,k1,k2,k3,k4,k5,k6⟩
  obtain⟨fn',h1,h2,h5,h6,h7,h8⟩:=hf
  let B:Base:=⟨w,fun _=>False,w.heap.size,F,[]⟩
  have hB:∀k,¬B.D k:=fun _ hk=>hk
  have hCt:FT C B:=⟨hC,fun w' hb=>hV w w' hb hVw,hP⟩
  have hM:RelM B R0 {env:=[],heap:=[],next:=0} (fun _=>none) F w :=
   {heap:=fun k o hk=>by simp[St.obj,assoc,R0] at hk
    own:=fun k o hk=>by simp[St.obj,assoc,R0] at hk
    inj:=fun k k' o o' hk=>by simp[St.obj,assoc,R0] at hk
    foreign:=fun b hb=>hb,flt:=fun _ _=>rfl,dom:=(fun k p hk=>by cases hk),below:=Below.refl _ _,bsize:=Nat.le_refl _,obound:=hF}
  rw[hcode] at h2 h8
  have hd1:Gz I.ntmps (.region i0 ops0 false)=true∧Gz I.ntmps rest=true:=by
   simp only[Gz,Bool.and_eq_true] at h8 ⊢
   exact ⟨h8.1,h8.2.2⟩
  refine calls_of_wp_defers h1 h2 ?_
  have hat:At B R0 I.ntmps (fun _=>none) F w {env:=DF 0 (EM ts x),heap:=[],next:=0} (fun _=>none) F {tmps:=vals.toArray++Array.replicate (fn'.ntmps-vals.toArray.size) undef,defers:=[]} w :=
   ⟨hM.move (fun k o ho=>ho) (Nat.le_refl _),Sq (R:=R0) (GA hargs) _,rfl,by rw[h5];simp;omega,μle.refl _,Keeps.refl _ _,fun k p hk=>by cases hk⟩
  have hap:∀st:St,Apart R0 st:=fun st=>⟨fun s hs=>absurd rfl hs,fun k hk=>absurd rfl hk,fun k hk=>absurd rfl hk⟩
  refine wp_seq ?_
  refine CV (C:=C) (B:=B) (Good:=fun a=>a=some y) (bad:=none) hCt hB (HZ hCt hB hm hI d) (Nn hCt hB hm) I.hints _ hd1.1 (by simp) hat (hap _) (fun e st1 μ1 O1 a1 w1 _ g2 g3=>?_) hden
  cases e with
  |exit i=>cases g3
  |ret=>cases g3
  |normal =>
  simp only at g3
  split at g3
  rotate_left
  ·cases g3
  rename_i k0 k1' hk0 hk1
  have hu0:=g2.env s0 _ hk0
  have hu1:=g2.env s1 _ hk1
  obtain⟨b0,hb0,hv0⟩:AK w1 O1 μ1 (.ptr k0 0) (a1.tmps.getD s0 undef):=hu0
  obtain⟨b1,hb1,hv1⟩:AK w1 O1 μ1 (.ptr k1' 0) (a1.tmps.getD s1 undef):=hu1
  show Exit.then _ _ .normal _ _
  simp only[Exit.then]
  refine wp_seq (wp_region ?_)
  have hev:∀s,a1.eval (.tmp s)=a1.tmps.getD s undef:=fun s=>rfl
  refine Ms (o:=o3) (i:=0) (rest:=[1]) rfl h3.2.2 (v:=.func (.func g) #[] #[.pointer (some ⟨b1,0,none⟩),.pointer (some ⟨b0,0,none⟩)]) (by simp[execOp,h3.2.1,Instr.makeFunc,hev,hv0,hv1]) ?_
  obtain⟨as,h4o⟩:=h4.2.1
  have hsz:t<a1.tmps.size:=Nat.lt_of_lt_of_le ht g2.size
  have hfv:(a1.put o3.dst (.func (.func g) #[] #[.pointer (some ⟨b1,0,none⟩),.pointer (some ⟨b0,0,none⟩)])).eval (.tmp t)=.func (.func g) #[] #[.pointer (some ⟨b1,0,none⟩),.pointer (some ⟨b0,0,none⟩)]:=by
   rw[h3.1]
   show (a1.put (some t) _).tmps.getD t undef = _
   rw[IG hsz,if_pos rfl]
  refine sT (o:=o4) (i:=1) (rest:=[]) rfl h4.2.2 (d:={target:=.fn (.func g) #[.pointer (some ⟨b1,0,none⟩),.pointer (some ⟨b0,0,none⟩)],args:=#[]}) (by simp[execOp,h4o,resolve,hfv,Deferred.ofValue]) ?_
  rw[h3.1,h4.1]
  show Exit.then _ _ .normal _ _
  simp only[Exit.then]
  generalize hdd:({target:=.fn (.func g) #[.pointer (some ⟨b1,0,none⟩),.pointer (some ⟨b0,0,none⟩)],args:=#[]}:Deferred)=dd
  generalize hfvv:(Value.func (.func g) #[] #[.pointer (some ⟨b1,0,none⟩),.pointer (some ⟨b0,0,none⟩)])=fv
  have hat1:At {B with dfr:=[dd]} R0 I.ntmps μ1 O1 w1 (st1.put (some t) none) μ1 O1 ({ (a1.put (some t) fv) with defers:=dd::(a1.put (some t) fv).defers}.put none undef) w1 :=
   ⟨(QO [dd]).1 (g2.mem.move (fun k o ho=>ho) (Nat.le_refl _)),by
     have:=W7 (R:=R0) (d:=some t) (x:=none) (v:=fv) g2.env (fun y hy=>by cases hy) (fun t' ht'=>by cases ht';exact hsz)
     exact this,by
     show dd::(a1.put (some t) fv).defers=[dd]
     rw[put_defers,g2.defers],by
     show I.ntmps≤(QI a1.tmps (some t) fv).size
     simp only[QI,Array.size_setIfInBounds]
     exact g2.size,μle.refl _,Keeps.refl _ _,fun k p hk=>(g2.mem.dom k p hk).elim id (fun h=>absurd h (hB k))⟩
  have hCt1:FT C {B with dfr:=[dd]}:=hCt
  have hB1:∀k,¬({B with dfr:=[dd]}:Base).D k:=hB
  refine CV (C:=C) (B:={B with dfr:=[dd]}) (Good:=fun a=>a=some y) (bad:=none) hCt1 hB1 (HZ hCt1 hB1 hm hI d) (Nn hCt1 hB1 hm) I.hints _ hd1.2 (by simp) hat1 (hap _) (fun e st' μ' O' a' w' _ g4 g5=>?_) g3
  have fin:(match st'.get R0 s0,st'.get R0 s1 with
   |some (.v (.c (.ptr j0 0))),some (.v (.c (.ptr j1 0)))=>B5 C (I8 C d) Ic.hints Ic.code R0 {env:=DF 0 [.v (.c (.ptr k1' 0)),.v (.c (.ptr k0 0))],heap:=st'.heap,next:=st'.next} (fun e st2=>match e with
     |.exit _=>none
     |_=>My C I rs false .ret {env:=[(s0,some (.v (.c (.ptr j0 0)))),(s1,some (.v (.c (.ptr j1 0))))],heap:=st2.heap,next:=st2.next}) none
   |_,_=>none)=some y→Leaves C.P fn' a'.tmps (fun e w'=>∃rs',e=.returned (CQ rs')∧Below w.heap.size w w'∧FV w.heap.size w' F false rs y rs') a'.defers .returning w':=fun g5=>by
   split at g5
   rotate_left
   ·cases g5
   rename_i j0 j1 hj0 hj1
   have hdf:a'.defers=[dd]:=g4.defers
   rw[hdf,←hdd]
   refine leaves_cons (fun h=>by cases h) (f:=g) (args:=#[.pointer (some ⟨b1,0,none⟩),.pointer (some ⟨b0,0,none⟩)]) (by
    have:=hent #[.pointer (some ⟨b1,0,none⟩),.pointer (some ⟨b0,0,none⟩)] w'
    simpa[invoke] using this) ?_
   refine CallsD.mono (callsD_of_wp (u:=.returning) (R:=fun e w2=>∃v,e=.returned v∧Leaves C.P fn' a'.tmps (fun e w'=>∃rs',e=.returned (CQ rs')∧Below w.heap.size w w'∧FV w.heap.size w' F false rs y rs') [] .returning w2) k1 k2 ?_) (fun e u' w2 ⟨hu,v,hev,hl⟩=>by subst hev;subst hu;exact hl)
   have hatc:At B R0 Ic.ntmps μ' O' w' {env:=DF 0 [.v (.c (.ptr k1' 0)),.v (.c (.ptr k0 0))],heap:=st'.heap,next:=st'.next} μ' O' {tmps:=#[Value.pointer (some ⟨b1,0,none⟩),.pointer (some ⟨b0,0,none⟩)]++Array.replicate (gn.ntmps-(#[Value.pointer (some ⟨b1,0,none⟩),.pointer (some ⟨b0,0,none⟩)]:Array Value).size) undef,defers:=[]} w' :=
    ⟨((QO (B:=B) [dd]).2 g4.mem).move (fun k o ho=>ho) (Nat.le_refl _),Sq (R:=R0) (us:=[.pointer (some ⟨b1,0,none⟩),.pointer (some ⟨b0,0,none⟩)]) (show All2 (BI w' O' μ') [.v (.c (.ptr k1' 0)),.v (.c (.ptr k0 0))] [.pointer (some ⟨b1,0,none⟩),.pointer (some ⟨b0,0,none⟩)] from .cons ⟨b1,g4.le _ _ hb1,rfl⟩ (.cons ⟨b0,g4.le _ _ hb0,rfl⟩ .nil)) _,rfl,by rw[k3];simp;omega,μle.refl _,Keeps.refl _ _,fun k p hk=>(g4.mem.dom k p hk).elim id (fun h=>absurd h (hB k))⟩
   refine CV (C:=C) (B:=B) (Good:=fun a=>a=some y) (bad:=none) hCt hB (HZ hCt hB hm hI d) (Nn hCt hB hm) Ic.hints _ k6 (by simp) hatc (hap _) (fun e2 st2 μ2 O2 a2 w2 _ g6 g7=>?_) g5
   have hlast:My C I rs false .ret {env:=[(s0,some (.v (.c (.ptr j0 0)))),(s1,some (.v (.c (.ptr j1 0))))],heap:=st2.heap,next:=st2.next}=some y→∃v,(results gn a2.tmps).run C.P w2=.ok v w2∧∃v',Ending.returned v=.returned v'∧Leaves C.P fn' a'.tmps (fun e w'=>∃rs',e=.returned (CQ rs')∧Below w.heap.size w w'∧FV w.heap.size w' F false rs y rs') [] .returning w2:=fun hk=>by
    have hMl:RelM B R0 {env:=[(s0,some (.v (.c (.ptr j0 0)))),(s1,some (.v (.c (.ptr j1 0))))],heap:=st2.heap,next:=st2.next} μ2 O2 w2:=g6.mem.move (fun k o ho=>ho) (Nat.le_refl _)
    have hEl:Dr R0 {env:=[(s0,some (.v (.c (.ptr j0 0)))),(s1,some (.v (.c (.ptr j1 0))))],heap:=st2.heap,next:=st2.next} μ2 O2 w2 a'.tmps:=fun s v hs=>by
     have up:∀s j,st'.get R0 s=some (.v (.c (.ptr j 0)))→BI w2 O2 μ2 (.v (.c (.ptr j 0))) (a'.tmps.getD s undef):=fun s j hj=>Ec g6.keeps g6.le _ (g4.env s _ hj)
     simp only[St.get,AM] at hs
     by_cases e0:s0=s
     ·rw[if_pos e0] at hs;cases hs;rw[←e0];exact up s0 j0 hj0
     ·rw[if_neg e0] at hs
      by_cases e1:s1=s
      ·rw[if_pos e1] at hs;cases hs;rw[←e1];exact up s1 j1 hj1
      ·rw[if_neg e1] at hs;simp[assoc,R0] at hs
    obtain⟨vs,ks,hvs,hyk,_⟩:=Of hk
    obtain⟨us,m1,m2⟩:=G8 hMl hEl hvs
    have hkF:Keeps w2 O2 w2 F:=⟨Nat.le_refl _,fun b _ hb=>⟨fun hh=>hb (hMl.foreign b hh),rfl⟩⟩
    have hown:∀k∈ks,∀p b,μ2 k=some p→p.block=some b→¬F b∧b<w2.heap.size:=fun k hk p b hp hb=>by
     obtain⟨o,ho⟩:=IY hyk k hk
     obtain⟨_,q2,q3⟩:=hMl.own k o ho p b hp hb
     exact ⟨fun hh=>q2.2 hh,q3⟩
    refine ⟨_,Hh (by rw[k4,hres]) .nil,_,rfl,_,Hh h6 m1,us,rfl,hMl.below,?_⟩
    unfold FV
    exact Dj hkF hMl.heap hyk m2 hown
   cases e2 with
   |exit i=>cases g7
   |normal=>exact ⟨g6.defers,hlast g7⟩
   |ret=>exact ⟨g6.defers,hlast g7⟩
  cases e with
  |exit i=>cases g5
  |normal=>exact fin g5
  |ret=>exact fin g5
def P8 (x:Int×Int):Option (Int×Int):=if 0≤wr .i64 (x.2*64)∧wr .i64 (x.2*64)+64≤x.1 then some (wr .i64 (x.2*64),64) else none
structure AdX (P:Program) (fn:Func) (t0 ts te:TypeId) (inf:TypeInfo):Prop where
 under:P.underlying ts=some (.slice te)
 elem:P.info? te=some inf
 one:inf.size=1
 agg:Fy P ts=some false
 fld:Ky P t0 0=some (0,ts)
 res:fn.results.toList=[.tmp 4]
 name:(fn.name== "runtime.NumGoroutine")=false
 size:11≤fn.ntmps
 body:∃(i0 i1:Nat) (o0 o1 o2 o3 o4 o5 o6 o7 o8:Oper),fn.body=some (.seq (.region i0 #[o0,o1] false) (.seq (.region i1 #[o2,o3,o4,o5,o6,o7,o8] false) .ret)) ∧
  (o0.dst=some 2∧o0.op=.box t0 (.tmp 0)∧o0.guard=none)∧(o1.dst=some 4∧o1.op=.assign Z0∧o1.guard=none)∧(o2.dst=some 5∧o2.op=.fieldAddr t0 (.tmp 2) 0∧o2.guard=none) ∧
  (o3.dst=some 6∧o3.op=.load ts (.tmp 5)∧o3.guard=none)∧(o4.dst=some 7∧o4.op=.move (.tmp 1)∧o4.guard=none) ∧
  (o5.dst=some 8∧(∃t t',o5.op=.binOp .mul t (.tmp 7) (.const (.int .i64 64)) t')∧o5.guard=none)∧(o6.dst=some 9∧o6.op=.slice ts (.tmp 6) (some (.tmp 8)) none none∧o6.guard=none) ∧
  (o7.dst=some 10∧o7.op=.slice ts (.tmp 9) none (some (.const (.int .i64 64))) none∧o7.guard=none)∧(o8.dst=some 4∧o8.op=.assign (.tmp 10)∧o8.guard=none)
theorem Ik {P:Program} {ops:Array Oper} {Q:Exit→Act→World→Prop} {i:Nat} {rest:List Nat} {a:Act} {w w':World} {o:Oper} {v:Value} (ho:ops[i]?=some o) (hg:o.guard=none) (hr:(execOp a.eval o).run P w=.ok (.value v) w') (h:wpOps P ops Q rest (a.put o.dst v) w'):wpOps P ops Q (i::rest) a w:=by
 simp only[wpOps,ho]
 have hw:Region.wanted o (yielded ops a.tmps)=true:=by simp[Region.wanted,hg]
 rw[if_pos hw]
 refine .inl ?_
 unfold Oper.wp
 rw[hr]
 exact h
theorem Nt {a:Act} {d s:Nat} {v:Value} (h:d<a.tmps.size):(a.put (some d) v).eval (.tmp s)=if d=s then v else a.eval (.tmp s):=IG h
theorem Adm {P:Program} {t:TypeId} {k:IntKind} (m n:Int) (w:World):(binOp .mul t (.int k m) (.int k n)).run P w=.ok (.int k (wr k (m*n))) w:=by
 simp only[binOp,Op.intArith];simp;rfl
theorem Aao {P:Program} {t:TypeId} {x y:Operand} {u v:Value} {w:World}:(eqGuard .mul t x y u v).run P w=.ok () w:=by simp[eqGuard]
theorem Abq {P:Program} {V:World→Prop} {f:FuncId} {fn:Func} {t0 ts te:TypeId} {inf:TypeInfo} (hf:P.funcs[f]?=some fn) (hc:AdX P fn t0 ts te inf):Hq P V f (spP [.int .i64,.int .i64] [.int .i64,.int .i64] P8) where
 enters:=fun args w=>by
  obtain⟨i0,i1,o0,o1,o2,o3,o4,o5,o6,o7,o8,hb,_⟩:=hc.body
  have h3':¬fn.name= "runtime.NumGoroutine":=by simpa using hc.name
  simp[callFunc,hf,hb,h3']
 tot:=fun g' hg=>by cases hg
 calls:=by
  intro w F ad len cap vals (n:Int) y hVw hF hl hmx hcap hargs hy
  obtain⟨i0,i1,o0,o1,o2,o3,o4,o5,o6,o7,o8,hb,⟨d0,p0,q0⟩,⟨d1,p1,q1⟩,⟨d2,p2,q2⟩,⟨d3,p3,q3⟩,⟨d4,p4,q4⟩,⟨d5,⟨t,t',p5⟩,q5⟩,⟨d6,p6,q6⟩,⟨d7,p7,q7⟩,⟨d8,p8,q8⟩⟩:=hc.body
  obtain⟨us,⟨hus,hin⟩,hvals⟩:=hargs
  subst hus
  have hvals:vals=[.int .i64 n]:=hvals
  subst hvals
  have hy:P8 ((len:Int),n)=some y:=hy
  unfold P8 at hy
  split at hy
  rotate_left
  ·cases hy
  rename_i hle
  cases hy
  simp only at hle ⊢
  generalize hlo:wr .i64 (n*64)=lo at hle ⊢
  refine ⟨⟨hle.1,by omega,hle.2⟩,?_⟩
  refine calls_of_wp hf hb ?_
  have hsz:11≤((#[Value.agg #[.slice ad len cap],.int .i64 n]:Array Value)++Array.replicate (fn.ntmps-(#[Value.agg #[.slice ad len cap],.int .i64 n]:Array Value).size) undef).size:=by
   have:=hc.size
   simp;omega
  have hg0:((#[Value.agg #[.slice ad len cap],.int .i64 n]:Array Value)++Array.replicate (fn.ntmps-(#[Value.agg #[.slice ad len cap],.int .i64 n]:Array Value).size) undef).getD 0 undef=.agg #[.slice ad len cap]:=by simp[Array.getElem?_append]
  have hg1:((#[Value.agg #[.slice ad len cap],.int .i64 n]:Array Value)++Array.replicate (fn.ntmps-(#[Value.agg #[.slice ad len cap],.int .i64 n]:Array Value).size) undef).getD 1 undef=.int .i64 n:=by simp[Array.getElem?_append]
  have htl:([Value.agg #[.slice ad len cap],.int .i64 n]:List Value).toArray=#[Value.agg #[.slice ad len cap],.int .i64 n]:=rfl
  rw[htl]
  generalize hT0:(#[Value.agg #[.slice ad len cap],.int .i64 n]:Array Value)++Array.replicate (fn.ntmps-(#[Value.agg #[.slice ad len cap],.int .i64 n]:Array Value).size) undef=tm at hsz hg0 hg1
  have z2:2<tm.size:=by omega
  have z4:4<tm.size:=by omega
  have z5:5<tm.size:=by omega
  have z6:6<tm.size:=by omega
  have z7:7<tm.size:=by omega
  have z8:8<tm.size:=by omega
  have z9:9<tm.size:=by omega
  have z10:10<tm.size:=by omega
  generalize ha:(⟨tm,[]⟩:Act)=a0
  have s0:a0.tmps.size=tm.size:=by rw[←ha]
  have e0:a0.eval (.tmp 0)=.agg #[.slice ad len cap]:=by rw[←ha];exact hg0
  have e1:a0.eval (.tmp 1)=.int .i64 n:=by rw[←ha];exact hg1
  have df:a0.defers=[]:=by rw[←ha]
  refine wp_seq (wp_region ?_)
  have hbox:(w.alloc (.cells #[.slice ad len cap] t0)).cell? ⟨w.heap.size,0,none⟩=some (.slice ad len cap):=by
   have h:=heap_alloc_new w (.cells #[.slice ad len cap] t0)
   unfold World.cell?
   simp only[h]
   rfl
  refine Ik (o:=o0) (i:=0) (rest:=[1]) rfl q0 (v:=.pointer (some ⟨w.heap.size,0,none⟩)) (w':=w.alloc (.cells #[.slice ad len cap] t0)) (by simp[execOp,p0,e0,Instr.box,newVar,newRow,Value.cells]) ?_
  rw[d0]
  refine Ik (o:=o1) (i:=1) (rest:=[]) rfl q1 (v:=.slice none 0 0) (w':=w.alloc (.cells #[.slice ad len cap] t0)) (by simp[execOp,p1];rfl) ?_
  rw[d1]
  show Exit.then _ _ .normal _ _
  simp only[Exit.then]
  refine wp_seq (wp_region ?_)
  refine Ik (o:=o2) (i:=0) (rest:=[1,2,3,4,5,6]) rfl q2 (v:=.pointer (some ⟨w.heap.size,0,none⟩)) (w':=w.alloc (.cells #[.slice ad len cap] t0)) (by
   have:=JP (P:=P) (w:=w.alloc (.cells #[.slice ad len cap] t0)) hc.fld w.heap.size 0
   simp[execOp,p2,Nt,Cv,s0,z2,z4,this]) ?_
  rw[d2]
  refine Ik (o:=o3) (i:=1) (rest:=[2,3,4,5,6]) rfl q3 (v:=.slice ad len cap) (w':=w.alloc (.cells #[.slice ad len cap] t0)) (by
   have:=Jr hc.agg hbox
   simp[execOp,p3,Nt,Cv,s0,z2,z4,z5,this]) ?_
  rw[d3]
  refine Ik (o:=o4) (i:=2) (rest:=[3,4,5,6]) rfl q4 (v:=.int .i64 n) (w':=w.alloc (.cells #[.slice ad len cap] t0)) (by
   simp[execOp,p4,Nt,Cv,s0,z2,z4,z5,z6,e1]) ?_
  rw[d4]
  refine Ik (o:=o5) (i:=3) (rest:=[4,5,6]) rfl q5 (v:=.int .i64 lo) (w':=w.alloc (.cells #[.slice ad len cap] t0)) (by
   have hk:∀a:Act,a.eval (.const (.int .i64 64))=.int .i64 64:=fun _=>rfl
   simp only[execOp,p5,Nt,Cv,s0,z2,z4,z5,z6,z7,if_true,hk,Sem.run_bind,Adm (t:=t) n 64 _,Aao,Result.andThen_ok,Sem.run_pure,hlo]) ?_
  rw[d5]
  refine Ik (o:=o6) (i:=4) (rest:=[5,6]) rfl q6 (v:=.slice (if cap=lo.toNat then ad else ad.map (·.add (lo.toNat*inf.size))) (len-lo.toNat) (cap-lo.toNat)) (w':=w.alloc (.cells #[.slice ad len cap] t0)) (by
   have:=Ft (P:=P) (w:=w.alloc (.cells #[.slice ad len cap] t0)) (ad:=ad) (len:=len) (cap:=cap) (lo:=some (.int .i64 lo)) (hi:=none) (l:=lo.toNat) (h:=len) hc.under hc.elem ⟨.i64,lo,rfl,hle.1,rfl⟩ rfl (by omega) hl
   simp[execOp,p6,Nt,Cv,s0,z2,z4,z5,z6,z7,z8,this]) ?_
  rw[d6]
  refine Ik (o:=o7) (i:=5) (rest:=[6]) rfl q7 (v:=.slice (if cap=lo.toNat then ad else ad.map (·.add (lo.toNat*inf.size))) 64 (cap-lo.toNat)) (w':=w.alloc (.cells #[.slice ad len cap] t0)) (by
   have:=Ft (P:=P) (w:=w.alloc (.cells #[.slice ad len cap] t0)) (ad:=(if cap=lo.toNat then ad else ad.map (·.add (lo.toNat*inf.size)))) (len:=len-lo.toNat) (cap:=cap-lo.toNat) (lo:=none) (hi:=some (.int .i64 64)) (l:=0) (h:=64) hc.under hc.elem rfl ⟨.i64,64,rfl,by decide,rfl⟩ (by omega) (by omega)
   have hadd:∀q:Option Addr,(if cap-lo.toNat=0 then q else q.map (·.add (0*inf.size)))=q:=fun q=>by
    split
    ·rfl
    ·cases q with
     |none=>rfl
     |some q=>simp[Addr.add]
   rw[hadd] at this
   have hk:∀a:Act,a.eval (.const (.int .i64 64))=.int .i64 64:=fun _=>rfl
   simp only[execOp,p7,Nt,Cv,s0,z2,z4,z5,z6,z7,z8,z9,if_true,Option.map_none,Option.map_some,hk,Sem.run_bind,this,Result.andThen_ok,Sem.run_pure,Nat.sub_zero]) ?_
  rw[d7]
  refine Ik (o:=o8) (i:=6) (rest:=[]) rfl q8 (v:=.slice (if cap=lo.toNat then ad else ad.map (·.add (lo.toNat*inf.size))) 64 (cap-lo.toNat)) (w':=w.alloc (.cells #[.slice ad len cap] t0)) (by
   simp[execOp,p8,Nt,Cv,s0,z2,z4,z5,z6,z7,z8,z9,z10]) ?_
  rw[d8]
  show Exit.then _ _ .normal _ _
  simp only[Exit.then]
  refine wp_ret ?_
  refine ⟨by simp only[put_defers];exact df,.slice (if cap=lo.toNat then ad else ad.map (·.add (lo.toNat*inf.size))) 64 (cap-lo.toNat),?_,?_⟩
  ·refine Hh (P:=P) (fn:=fn) hc.res (vs:=[.slice (if cap=lo.toNat then ad else ad.map (·.add (lo.toNat*inf.size))) 64 (cap-lo.toNat)]) (.cons ?_ .nil)
   show (rv _ (.tmp 4)).run P _ = _
   simp only[rv]
   rw[IG (by simp only[Cv,s0];exact z4),if_pos rfl];simp
  ·refine ⟨(Below.refl _ _).alloc (Nat.le_refl _) _,_,_,rfl,⟨by show 64≤_;omega,by omega⟩,.inr ?_⟩
   rcases hcap with hcap|⟨b,hb'⟩
   ·omega
   ·refine ⟨b,hb',?_⟩
    rw[if_neg (by omega),hb',hc.one]
    simp[Addr.add_mid]
end Go.Den
