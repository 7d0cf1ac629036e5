/- Part of a plain reading of Go code: an evaluator of code as functions of typed data, and that it tells what the machine does. -/
import Derived.Test.YtlgpjdjcbincgaaGreatDoorDen2
import Derived.ProofKit
import Derived.KernelRfl
import Derived.Laws.BitsLemmas
import Derived.Lib.TrailingZeros
import Derived.Defers
import Derived.ScopeJumps
set_option linter.all false
namespace Go.Den
open Go.RowKit
theorem Dn {w O μ}:∀ {c} {x} {vs},BP w O c x vs->All2 (BW w O μ) (Cy c x) vs
 |[],_,_,h=>by have:= h;rw[this];exact .nil
 |[t],_,_,⟨us,h,e⟩=>by rw[e];exact .cons (NB t h) .nil
 |t::u::r,_,_,⟨us,d,h,e,g⟩=>by rw[e];exact .cons (NB t h) (Dn g)
section
variable {B:Base} {R:RO} {st:St} {μ:AI} {O:Nat->Prop} {w:World}
theorem N4 {t:Ty} {v1:V1} {v:Value} {l:List t.interp} {ks:List Nat} (hM:RelM B R st μ O w) (hv:Cl w O μ v1 v) (g:GM (st.obj R) (.slice t) v1=some (l,ks)) (d:(match v1 with | .c (.ref _)=>true | .c .nils=>true|_=>false)=true) :
 ∃G,BV B.base w B.F G t l v/\Keeps w O w (λc=>B.F c\/G=some c)/\(∀k p b,G=some b->(∃o,st.obj R k=some o)->μ k=some p->p.block=some b->k∈ks)/\∀b,G=some b->¬B.F b:=by
 have I:Keeps w O w λc=>B.F c\/(none:Option Nat)=some c:=⟨Qaa _,λb _ hb=>⟨λhh=>hh.elim (λh=>hb (hM.foreign b h)) (λh=>by cases h),rfl⟩⟩;cases v1 with
 |a cs=>cases d
 |c c =>
 cases c with
 |int k n=>cases d
 |bool b=>cases d
 |sl t l=>cases d
 |ptr k n=>cases d
 |eptr k n=>cases d
 |nilp=>cases d
 |sub k a b=>cases d
 |mref k=>cases d
 |lit v=>cases d
 |nils =>simp only[GM,V1.cells,dec] at g;cases g;obtain⟨a,rfl⟩:=hv;exact ⟨none,⟨a,0,rfl,by simp,Qaw _,.inl ⟨rfl,rfl⟩⟩,I,(λk p b h=>by cases h),λb h=>by cases h⟩
 |ref k =>
  simp only[GM,V1.cells,dec] at g;cases hk:st.obj R k with
  |none=>rw[hk] at g;cases g
  |some o =>
   rw[hk] at g;cases o with
   |box cs=>cases g
   |map t l=>cases g
   |arr t' l' =>
    simp only at g;cases Z:Gg t' t l' with
    |none=>rw[Z] at g;cases g
    |some l2 =>
     rw[Z] at g;cases g;obtain⟨ht,J⟩:∃h:t'=t,l=h▸l':=by
      unfold Gg at Z;split at Z
      ·rename_i h _;cases Z;exact ⟨h.down,rfl⟩
      ·cases Z
     subst ht;have J:l=l':=J;subst J;obtain⟨a,len,cap,sz,hp,rfl⟩:=hv;obtain⟨a',ab,y,hl,hm,hr⟩:=hM.heap k _ hk;rw[hp] at y;cases y;rcases hr with hr|⟨b,vs,e,rfl,a7,hs,a1⟩
     ·exact ⟨none,⟨a,cap,rfl,hl,hm,.inl ⟨hr,rfl⟩⟩,I,(λk p b h=>by cases h),λb h=>by cases h⟩
     ·by_cases X:cap=0
      ·exact ⟨none,⟨_,cap,rfl,hl,hm,.inl ⟨X,rfl⟩⟩,I,(λk p b h=>by cases h),λb h=>by cases h⟩
      ·have E:(Place.arr (some ⟨b,0,none⟩) l.length cap t'.size).block=some b:=by simp[Place.block,X]
       obtain⟨h1,h2,h3⟩:=hM.own k _ hk _ b hp E;have a6:Keeps w O w λc=>B.F c\/some b=some c:=⟨Qaa _,λb' _ hb=>⟨λhh=>hh.elim (λh=>hb (hM.foreign b' h)) λh=>by cases h;exact hb h1,rfl⟩⟩;refine ⟨some b,⟨_,cap,rfl,hl,hm,.inr ⟨b,vs,e,X,rfl,rfl,h2.1,h3,a7,hs,RowOf.mono (λ_ _=>Av a6 t') a1⟩⟩,a6,λk' p b' Y ⟨o',a8⟩ y aa=>?_,λb' Y=>by cases Y;exact h2.2⟩;cases Y;have:=hM.inj k' k o' _ a8 hk p _ b y hp aa E;simp[this]
end
theorem Vh {B R st μ O w} (v:RelM B R st μ O w):∀ {E} {vs} {us} {y} {ks},All2 (Cl w O μ) vs us->BY (st.obj R) E vs=some (y,ks) ->
 (match vs with | .c (.ref _)::_=>true | .c .nils::_=>true|_=>false)=true->ks.Nodup->Gd B.base w B.F true E y us:=by
 intro E vs us y ks hv h d a1;match E,vs,y,hv,h,d with
 |[],_,_,_,_,_=>trivial
 |[.int _],_,_,_,_,_=>trivial
 |[.bool],_,_,_,_,_=>trivial
 |[.unit],_,_,_,_,_=>trivial
 |[.pair _ _],_,_,_,_,_=>trivial
 |.int _::_::_,_,_,_,_,_=>trivial
 |.bool::_::_,_,_,_,_,_=>trivial
 |.unit::_::_,_,_,_,_,_=>trivial
 |.pair _ _::_::_,_,_,_,_,_=>trivial
 |[.slice t],[I],y,.cons h1 .nil,h,d =>
  have J:GM (st.obj R) (.slice t) I=some (y,ks):=by simp only[BY] at h<;>grind
  obtain⟨G,X,_⟩:=N4 v h1 J (by
   cases I with
   |a cs=>cases d
   |c c=>cases c<;>first|rfl|cases d);exact ⟨_,G,rfl,X⟩
 |.slice t::u::r,I::vs,y,.cons h1 h3,h,d =>
  simp only[BY] at h;split at h
  ·rename_i x f xs g hf hd Z;cases h;obtain⟨G,X,hk,a6,_⟩:=N4 v h1 hd (by
    cases I with
    |a cs=>cases d
    |c c=>cases c<;>first|rfl|cases d);refine ⟨_,_,G,rfl,X,Cm hk v.heap Z h3 λk Y p b hp hb=>?_⟩;obtain⟨o,ho⟩:=Gn Z k Y;obtain⟨g1,g2,g3⟩:=v.own k o ho p b hp hb<;>grind
  ·cases h
theorem denote_eq {C d i c g fr x} :
 denote C d i c g fr x=Bi C (EN C d) i.hints i.code {renv:=[],rheap:=[]} {env:=CP 0 (Cy c x),heap:=[],next:=0} (NA C i g fr) none:=by unfold denote;congr 1
theorem L0 {C I c fr e st y} (h:NA C I c fr e st=some y) :
 ∃vs ks,E0 C.P {renv:=[],rheap:=[]} st I.results=some vs/\BY (st.obj {renv:=[],rheap:=[]}) c vs=some (y,ks)/\LL fr vs ks=true:=by unfold NA at h<;>grind
theorem Q4 {C f I sp} (hC:∀f sp,C.tbl f=some sp->BM C.P C.V f sp) (hP:HE C) (hV:∀w w',Below w.heap.size w w'->C.V w->C.V w') (hm:C.P.follows .mixedOrders=true) (hI:∀f I,C.inl f=some I->FnOK C.P f I) (hf:FnOK C.P f I) d
 (h:∀x y,sp.fn x=some y->denote C d I sp.args sp.res sp.fresh x=some y) (ht:∀g,sp.tot=some g->∀x,sp.fn x=some (g x)):BM C.P C.V f sp where
 enters:=hf.enters
 tot:=ht
 calls w F ab x y a1 hF E hy:=by
  have v:=h x y hy;rw[denote_eq] at v;have hB:∀k,¬(⟨w,λ_=>False,w.heap.size,F,[]⟩:Base).D k:=λ_ c=>c;refine IH (R:={renv:=[],rheap:=[]}) (Good:=λa=>a=some y) (μ:=λ_=>none) rfl ⟨hC,λw' t=>hV w w' t a1,hP⟩ hB hm (EE ⟨hC,λw' t=>hV w w' t a1,hP⟩ hB hm hI d) (by simp) hf (Dn E) (λk c=>absurd rfl c)
   {heap:=λk o c=>by simp[St.obj,assoc] at c
    own:=λk o c=>by simp[St.obj,assoc] at c
    inj:=λk k' o o' c=>by simp[St.obj,assoc] at c
    foreign:=λb t=>t,flt:=λ_ _=>rfl,dom:=(λk p c=>by cases c),below:=Below.refl _ _,bsize:=Qaa _,obound:=hF}
   (λe st h1 h2 hh=>by cases e<;>first|exact h1 rfl|exact h2 rfl|cases hh) (λe st μ' O' tmps w' g1 Z g3 g4 g5 g6 g7=>?_) v;obtain⟨vs,ks,a7,J,X⟩:=L0 g7;obtain⟨us,k1,k2⟩:=Eu Z g3 a7;refine ⟨us,k1,us,rfl,Z.below,?_⟩;have a6:∀k∈ks,∀p b,μ' k=some p->p.block=some b->¬F b/\b<w'.heap.size:=λk c p b hp t=>by obtain⟨o,ho⟩:=Gn J k c;obtain⟨_,h2,h3⟩:=Z.own k o ho p b hp t<;>simp_all
  cases a8:sp.fresh with
  |false =>unfold Gd;exact Cm ⟨Qaa _,λb _ t=>⟨λhh=>t (Z.foreign b hh),rfl⟩⟩ Z.heap J k2 a6
  |true =>rw[a8] at X;simp only[LL,Qab] at X;obtain⟨Y,aa⟩:=X;exact Vh Z k2 J Y (nodup_iff aa)
theorem K7 {t:Ty}:∀c (x:t.interp) y,HW c (Da c x y)=x
 |[],_,_=>rfl
 |_::_,_,_=>rfl
theorem Lc {t:Ty}:∀c (x:t.interp) y,LF c (Da c x y)=y
 |[],_,_=>rfl
 |_::_,_,_=>rfl
def jQ (C:Ctx) (I:Inl) (t1:Ty) (c:List Ty) (e:AExit) (st:St):Option (AO (t1::c)).interp :=
 match e with
  |.exit _ | .goto _=>none
  |_=>match E0 C.P {renv:=[],rheap:=[]} st I.results,assoc st.heap 0 with
   |some vs,some (.box cs)=>match dec (st.obj {renv:=[],rheap:=[]}) t1 cs,BY (st.obj {renv:=[],rheap:=[]}) c vs with
    |some (z,[],_),some (y,_)=>some (Da c z y)
    |_,_=>none
   |_,_=>none
theorem xL {C d i t0 g t1 h x} :
 WB C d i t0 g t1 h x=Bi C (EN C d) i.hints i.code {renv:=[],rheap:=[]} {env:=CP 0 (.v (.c (.ptr 0 0))::Cy g (LF g x)),heap:=[(0,.box (enc t0 (HW g x)))],next:=1} (jQ C i t1 h) none:=by unfold WB;congr 1
theorem xD {C I t1 c e st y} (h:jQ C I t1 c e st=some y) :
 ∃vs cs z ks g d,E0 C.P {renv:=[],rheap:=[]} st I.results=some vs/\assoc st.heap 0=some (.box cs)/\dec (st.obj {renv:=[],rheap:=[]}) t1 cs=some (z,[],ks)/\BY (st.obj {renv:=[],rheap:=[]}) c vs=some (g,d)/\y=Da c z g:=by unfold jQ at h<;>grind
theorem Yh {C f I t0 ts t1 rs fn} {tot:Option ((AO (t0::ts)).interp->(AO (t1::rs)).interp)}
 (hC:∀f sp,C.tbl f=some sp->BM C.P C.V f sp) (hP:HE C) (hm:C.P.follows .mixedOrders=true) (hI:∀f I,C.inl f=some I->FnOK C.P f I) (hf:FnOK C.P f I) d
 (h:∀x y,fn x=some y->WB C d I t0 ts t1 rs x=some y) (ht:∀g,tot=some g->∀x,fn x=some (g x)):PR C.P C.V f {args:=t0::ts,res:=t1::rs,fresh:=false,fn,tot} where
 enters:=hf.enters
 tot:=ht
 calls:=by
  intro n0 w F b el cur ay x xs y hV ak al hF ae af hx an hy;have a8:=h _ y hy;rw[xL,K7,Lc] at a8;have hB:∀k,¬(⟨w,λ_=>False,n0,λc=>F c/\c≠b,[]⟩:Base).D k:=λ_ E=>E;have J:∀k o,({env:=[],heap:=[(0,.box (enc t0 x))],next:=1}:St).obj {renv:=[],rheap:=[]} k=some o->k=0/\o=.box (enc t0 x):=λk o E=>by
   have ab:(match assoc [(0,AObj.box (enc t0 x))] k with|some o=>some o|none=>none)=some o:=E;rw[AE] at ab;by_cases h0:0=k
   ·simp_all
   ·rw[if_neg h0] at ab;cases ab
  have ao:∀k p,(λk=>if k=0 then some (Place.box b) else none:AI) k=some p->k=0/\p=.box b:=λk p E=>by grind
  refine IH (Good:=λa=>a=some y) (bad:=none) (μ:=λk=>if k=0 then some (.box b) else none) rfl ⟨hC,hV,hP⟩ hB hm (EE ⟨hC,hV,hP⟩ hB hm hI d) (by simp) hf
   (vs:=.v (.c (.ptr 0 0))::Cy ts xs) (.cons ⟨b,by simp,rfl⟩ (Dn an)) (λk E=>absurd rfl E)
   {heap:=λk o E=>by obtain⟨rfl,rfl⟩:=J k o E;exact ⟨b,cur,el,by simp,af,Fw t0 hx⟩
    own:=λk o E p c hp Y=>by
     obtain⟨rfl,rfl⟩:=ao k p hp;have:b=c:=by simpa[Place.block] using Y
     subst this;exact ⟨ae,⟨ak,λhh=>hh.2 rfl⟩,hF _ ae⟩
    inj:=λk k' o o' E aq p p' c hp az _ _=>by rw[(J k o E).1,(J k' o' aq).1]
    foreign:=λc Y=>Y.1,flt:=λ_ _=>rfl,dom:=λk p E=>.inl (by grind),below:=Below.refl _ _,bsize:=al,obound:=hF}
   (K:=jQ C I t1 rs) (λe st h1 h2 hh=>by cases e<;>first|exact h1 rfl|exact h2 rfl|cases hh) (λe st μ' O' tmps w' g1 Z g3 g4 g5 g6 g7=>?_) a8;obtain⟨vs,cs,z,ks,y',b0,ar,au,hd,ha,rfl⟩:=xD g7;obtain⟨us,k1,k2⟩:=Eu Z g3 ar;have h0:μ' 0=some (.box b):=g4 0 _ (by simp);have a6:st.obj {renv:=[],rheap:=[]} 0=some (.box cs):=by simp[St.obj,au]
  obtain⟨b',ag,av,ah,ad,a7⟩:=Z.heap 0 _ a6;rw[h0] at ah;cases ah;have b1:=Z.own 0 _ a6 _ b h0 rfl;have ai:Keeps w' O' w' F:=⟨Qaa _,λc _ Y=>⟨λhh=>Y (by
   by_cases X:c=b
   ·grind
   ·exact Z.foreign c ⟨hh,X⟩),rfl⟩⟩;have aa:∀k,(∃t l,st.obj {renv:=[],rheap:=[]} k=some (.arr t l))->∀p c,μ' k=some p->p.block=some c->¬F c/\c<w'.heap.size:=λk ⟨t,l,ho⟩ p c hp Y=>by obtain⟨_,h2,h3⟩:=Z.own k _ ho p c hp Y;refine ⟨λhh=>h2.2 ⟨hh,λX=>?_⟩,h3⟩;subst X;have:=Z.inj k 0 _ _ ho a6 p _ c hp h0 Y rfl;subst this;rw[a6] at ho;cases ho
  obtain⟨a1,a2,e1,aw,ax⟩:=Ee ai Z.heap t1 hd a7 λk E=>aa k (GN t1 hd k E);cases ax;rw[Qbd] at e1;subst e1;refine ⟨us,k1,us,ag,av,rfl,Z.below,λc Y X=>?_,ad,?_,?_⟩
  ·by_cases aj:F c
   ·exact Z.flt c ⟨aj,X⟩
   ·exact (g5.keep c Y aj).2
  ·rw[K7];exact aw
  ·rw[Lc];exact Cm ai Z.heap ha k2 λk E=>aa k (Nr ha k E)
def xG (C:Ctx) (I:Inl) (c:List Ty) (e:AExit) (st:St):Option (AO c).interp :=
 match e with
  |.exit _ | .goto _=>none
  |_=>match E0 C.P {renv:=[],rheap:=[]} st I.results with
   |some vs=>match BY (st.obj {renv:=[],rheap:=[]}) c vs with
    |some (y,_)=>some y
    |none=>none
   |none=>none
theorem xM {C d i t0 c g x} :
 WC C d i t0 c g x=Bi C (EN C d) i.hints i.code {renv:=[],rheap:=[]} {env:=CP 0 (.iptr (enc t0 (HW c x))::Cy c (LF c x)),heap:=[],next:=0} (xG C i g) none:=by unfold WC;congr 1
theorem xH {C I c e st y} (h:xG C I c e st=some y) :
 ∃vs ks,E0 C.P {renv:=[],rheap:=[]} st I.results=some vs/\BY (st.obj {renv:=[],rheap:=[]}) c vs=some (y,ks):=by unfold xG at h<;>grind
theorem Yj {C f I t0 Z rs fn} {tot:Option ((AO (t0::Z)).interp->(AO rs).interp)}
 (hC:∀f sp,C.tbl f=some sp->BM C.P C.V f sp) (hP:HE C) (hV:∀w w',Below w.heap.size w w'->C.V w->C.V w') (hm:C.P.follows .mixedOrders=true) (hI:∀f I,C.inl f=some I->FnOK C.P f I) (hf:FnOK C.P f I) d
 (h:∀x y,fn x=some y->WC C d I t0 Z rs x=some y) (ht:∀g,tot=some g->∀x,fn x=some (g x)):PR C.P C.V f {args:=t0::Z,res:=rs,fresh:=true,fn,tot} where
 enters:=hf.enters
 tot:=ht
 calls:=by
  intro w F b el cur a8 x xs y E hF a1 t J hx a6 hy;have v:=h _ y hy;rw[xM,K7,Lc] at v;have hB:∀k,¬(⟨w,λ_=>False,w.heap.size,F,[]⟩:Base).D k:=λ_ c=>c;refine IH (R:={renv:=[],rheap:=[]}) (Good:=λa=>a=some y) (μ:=λ_=>none) rfl ⟨hC,λw' t=>hV w w' t E,hP⟩ hB hm (EE ⟨hC,λw' t=>hV w w' t E,hP⟩ hB hm hI d) (by simp) hf
   (vs:=.iptr (enc t0 x)::Cy Z xs) (.cons ⟨b,0,cur.toList,rfl,a1,t,JK J,Fw t0 hx⟩ (Dn a6)) (λk c=>absurd rfl c)
   {heap:=λk o c=>by simp[St.obj,assoc] at c
    own:=λk o c=>by simp[St.obj,assoc] at c
    inj:=λk k' o o' c=>by simp[St.obj,assoc] at c
    foreign:=λb t=>t,flt:=λ_ _=>rfl,dom:=(λk p c=>by cases c),below:=Below.refl _ _,bsize:=Qaa _,obound:=hF}
   (λe st h1 h2 hh=>by cases e<;>first|exact h1 rfl|exact h2 rfl|cases hh) (λe st μ' O' tmps w' g1 X g3 g4 g5 g6 g7=>?_) v;obtain⟨vs,ks,a7,Y⟩:=xH g7;obtain⟨us,k1,k2⟩:=Eu X g3 a7;refine ⟨us,k1,us,rfl,X.below,?_⟩;exact Cm ⟨Qaa _,λb _ t=>⟨λhh=>t (X.foreign b hh),rfl⟩⟩ X.heap Y k2 λk c p b hp t=>by obtain⟨o,ho⟩:=Gn Y k c;obtain⟨_,h2,h3⟩:=X.own k o ho p b hp t<;>simp_all
theorem xK {C d i t g t' h x} :
 cF C d i t g t' h x=Bi C (EN C d) i.hints i.code {renv:=[],rheap:=[]} {env:=CP 0 (.v (.c (.ref 0))::Cy g (LF g x)),heap:=[(0,.arr t (HW g x))],next:=1} (NA C i (.slice t'::h) true) none:=by rfl
theorem Yg {C f I t ts t' rs fr fn} {tot:Option ((AO (.slice t::ts)).interp->(AO (.slice t'::rs)).interp)}
 (hC:∀f sp,C.tbl f=some sp->BM C.P C.V f sp) (hP:HE C) (hm:C.P.follows .mixedOrders=true) (hI:∀f I,C.inl f=some I->FnOK C.P f I) (hf:FnOK C.P f I) d
 (h:∀x y,fn x=some y->cF C d I t ts t' rs x=some y) (ht:∀g,tot=some g->∀x,fn x=some (g x)):PQ C.P C.V f {args:=.slice t::ts,res:=.slice t'::rs,fresh:=fr,fn,tot} where
 enters:=hf.enters
 tot:=ht
 calls:=by
  intro n0 w F G v l av xs y hV ai hF ab aj hy ad a8;have a6:=h _ y hy;rw[xK,K7 (t:=.slice t) ts l xs,Lc (t:=.slice t) ts l xs] at a6;obtain⟨a,cap,ev,hl,ak,hr⟩:=ab;let p0:Place:=.arr a l.length cap t.size;have aw:p0.block=G:=by
   rcases hr with ⟨Y,hg⟩|⟨b,vs,el,Y,hg,ha,_⟩
   ·subst Y;subst hg;cases a<;>simp[p0,Place.block]
   ·subst hg;subst ha;simp[p0,Place.block,Y]
  have ax:∀b,G=some b->F b/\n0<=b:=λb hb=>by simp_all
  have hB:∀k,¬(⟨w,λ_=>False,n0,λc=>F c/\G≠some c,[]⟩:Base).D k:=λ_ X=>X;have Z:∀k o,({env:=[],heap:=[(0,.arr t l)],next:=1}:St).obj {renv:=[],rheap:=[]} k=some o->k=0/\o=.arr t l:=λk o X=>by
   have aa:(match assoc [(0,AObj.arr t l)] k with|some o=>some o|none=>none)=some o:=X;rw[AE] at aa;by_cases h0:0=k
   ·simp_all
   ·rw[if_neg h0] at aa;cases aa
  have ay:∀k p,(λk=>if k=0 then some p0 else none:AI) k=some p->k=0/\p=p0:=λk p X=>by grind
  refine IH (Good:=λa=>a=some y) (bad:=none) (μ:=λk=>if k=0 then some p0 else none) rfl ⟨hC,hV,hP⟩ hB hm (EE ⟨hC,hV,hP⟩ hB hm hI d) (by simp) hf
   (vs:=.v (.c (.ref 0))::Cy ts xs) (.cons ⟨a,l.length,cap,t.size,by simp[p0],ev⟩ (Dn aj)) (λk X=>absurd rfl X)
   {heap:=λk o X=>by obtain⟨rfl,rfl⟩:=Z k o X;refine ⟨a,cap,by simp[p0],hl,ak,?_⟩<;>grind
    own:=λk o X p c hp Y=>by grind
    inj:=λk k' o o' X al p p' c hp az _ _=>by rw[(Z k o X).1,(Z k' o' al).1]
    foreign:=λc Y=>Y.1,flt:=λ_ _=>rfl,dom:=λk p X=>.inl (by grind),below:=Below.refl _ _,bsize:=ai,obound:=hF}
   (K:=NA C I (.slice t'::rs) true) (λe st h1 h2 hh=>by cases e<;>first|exact h1 rfl|exact h2 rfl|cases hh) (λe st μ' O' tmps w' g1 g2 g3 g4 g5 g6 g7=>?_) a6;obtain⟨vs,ks,an,J,ae⟩:=L0 g7;obtain⟨us,k1,k2⟩:=Eu g2 g3 an;simp only[LL,Qab] at ae;obtain⟨E,b0⟩:=ae;have a1:= λc Y hG=>by
   by_cases af:F c
   ·exact g2.flt c ⟨af,hG⟩
   ·exact (g5.keep c Y af).2
  have a7:∀ {G':Option Nat} {tt:Ty} {ll:List tt.interp} {vv:Value},BV n0 w' (λc=>F c/\G≠some c) G' tt ll vv->Keeps w' O' w' (λc=>F c/\G≠some c\/G'=some c)->(∀b,G'=some b->¬(F b/\G≠some b))->∀b,G'=some b->G=some b\/w.heap.size<=b:=λ{G' tt ll vv} hf X hn b hb=>by
   by_cases ag:b<w.heap.size
   ·left;have hO:= Qar λhO=>(X.keep b (Qac ag g5.size) hO).1 (.inr hb);exact Qar λhG=>hn b hb ⟨Qar λao=>(g5.keep b ag ao).1 hO,hG⟩
   ·right;omega
  match rs,vs,y,J,k2,E,a8 with
  |[],[v1],y,J,.cons h1 .nil,E,_ =>
   have aq:GM (st.obj {renv:=[],rheap:=[]}) (.slice t') v1=some (y,ks):=by
    simp only[BY] at J;split at J
    ·exact J
    ·cases J
   obtain⟨G',h2,h3,_,h4⟩:=N4 g2 h1 aq (by
    cases v1 with
    |a cs=>cases E
    |c c=>cases c<;>first|rfl|cases E);exact ⟨_,k1,_,[],G',rfl,g2.below,a1,a7 h2 h3 h4,Th ad h2,rfl⟩
  |u::r,v1::vs,y,J,.cons h1 h3,E,a8 =>
   simp only[BY] at J;split at J
   ·rename_i x f b1 g b2 hd ah;cases J;obtain⟨G',h2,h4,_,h5⟩:=N4 g2 h1 hd (by
     cases v1 with
     |a cs=>cases E
     |c c=>cases c<;>first|rfl|cases E);have b3:Keeps w' O' w' O':=Keeps.refl _ _;refine ⟨_,k1,_,_,G',rfl,g2.below,a1,a7 h2 h4 h5,Th ad h2,?_⟩;let F2:= λc=>O' c/\∀k∈g,∀p,μ' k=some p->p.block≠some c;have ar:Keeps w' O' w' F2:=⟨Qaa _,λc _ Y=>⟨λhh=>Y hh.1,rfl⟩⟩;have au:=Cm ar g2.heap ah h3 (λk X p c hp Y=>by obtain⟨o,ho⟩:=Gn ah k X;exact ⟨λhh=>hh.2 k X p hp Y,(g2.own k o ho p c hp Y).2.2⟩);exact Hb a8 au
   ·cases J
section
variable {B:Base} {R:RO} {st:St} {μ:AI} {O:Nat->Prop} {w:World}
theorem AcG {Ft own} (hM:RelM B R st μ O w) (hF:∀c,Ft c->O c):∀T {off} {cs} {x} {rest} {E gn} {vs},JO (st.obj R) (assoc st.heap) own T off cs=some (x,rest,E,gn) ->
 All2 (AQ w O μ) cs vs->(∀k∈E,∀p b,μ k=some p->p.block=some b->¬Ft b/\b<w.heap.size)->(∀k∈gn,∀p b,μ k=some p->p.block=some b->Ft b)->gn.Nodup ->
 ∃X v2 Gs,vs=X++v2/\Me (BV B.base w Ft) w Ft own T off x X Gs/\All2 (AQ w O μ) rest v2/\Gs.Nodup/\∀b,b∈Gs↔∃k∈gn,∃p,μ k=some p/\p.block=some b:=by
 have leaf:∀T {cs:List Cell} {x:T.interp} {rest:List Cell} {E gn:List Nat} {vs:List Value},Ih (st.obj R) T cs=some (x,rest,E,gn)->All2 (AQ w O μ) cs vs->(∀k∈E,∀p b,μ k=some p->p.block=some b->¬Ft b/\b<w.heap.size) ->
  ∃X v2,∃Gs:List Nat,vs=X++v2/\(Reads w Ft T x X/\Gs=[])/\All2 (AQ w O μ) rest v2/\Gs.Nodup/\∀b,b∈Gs↔∃k∈gn,∃p,μ k=some p/\p.block=some b:=λT cs x rest E gn vs d I v=>by
  unfold Ih at d
  split at d
  ·rename_i x' r' f' aj;cases d;obtain⟨X,v2,e,hr,aa⟩:=Ee ⟨Qaa _,λb _ hb=>⟨λhh=>hb (hF b hh),rfl⟩⟩ hM.heap T aj I v<;>grind
  ·cases d
 intro T;induction T with
 |int k=>intro off cs x rest E gn vs d I v _ _;exact leaf (.int k) d I v
 |bool=>intro off cs x rest E gn vs d I v _ _;exact leaf .bool d I v
 |unit=>intro off cs x rest E gn vs d I v _ _;exact leaf .unit d I v
 |slice t _ =>
  intro off cs x rest E gn vs d I v Y _;cases I with
  |nil=>simp[JO,Ih,dec] at d
  |cons h1 h2 =>
   rename_i c u r us;simp only[JO] at d;simp only[Me];split at d
   ·rename_i J;simp only[J];exact leaf (.slice t) d (.cons h1 h2) v
   ·rename_i J;simp only[J];split at d
    ·simp only[Qaf] at d;obtain⟨rfl,rfl,rfl,rfl⟩:=d;obtain⟨ad,ev⟩:∃ad,u=.slice ad 0 0:=h1;exact ⟨[u],us,[],rfl,⟨u,none,rfl,⟨ad,0,ev,Qaa _,Qaw _,.inl ⟨rfl,rfl⟩⟩,rfl⟩,h2,List.nodup_nil,λb=>⟨λh=>(by cases h),λ⟨k,y,_⟩=>by cases y⟩⟩
    ·rename_i k;split at d
     ·rename_i t' l y;split at d
      ·rename_i l' hc;cases d;obtain⟨e1,e2⟩:=Ea hc;subst e1;have e3:l=x:=e2.symm;rw[e3] at y;have ab:st.obj R k=some (.arr t' x):=by simp[St.obj,y]
       obtain⟨ad,len,cap,sz,hp,ev⟩:∃a len cap sz,μ k=some (.arr a len cap sz)/\u=.slice a len cap:=h1;obtain⟨aw,av,Z,hl,hm,hr⟩:=hM.heap k _ ab;rw[hp] at Z;cases Z;refine ⟨[u],us,_,rfl,⟨u,(Place.arr ad x.length cap t'.size).block,rfl,⟨ad,cap,ev,hl,hm,?_⟩,rfl⟩,h2,by cases (Place.arr ad x.length cap t'.size).block<;>simp,λb=>by simp[hp,eq_comm]⟩;by_cases a1:cap=0
       ·left;subst a1;refine ⟨rfl,?_⟩;cases ad<;>simp[Place.block]
       ·rcases hr with hr|⟨b,vs,el,ea,a7,hs,ae⟩
        ·exact absurd hr a1
        ·have a6:(Place.arr ad x.length cap t'.size).block=some b:=by rw[ea];simp[Place.block,a1]
         have ho:=hM.own k _ ab _ b hp a6;have ax:=Y k (by simp) _ b hp a6;exact .inr ⟨b,vs,el,a1,a6,ea,ho.2.1.1,ho.2.2,a7,hs,ae.mono λ_ _=>Av ⟨Qaa _,λc _ hc=>⟨λhh=>hc (hh.elim (hF c) λh=>by rw[a6] at h;cases h;exact ho.1),rfl⟩⟩ t'⟩
      ·cases d
     ·cases d
    ·cases d
 |pair a b ak al =>
  intro off cs x rest E gn vs d I v Y an;simp only[JO] at d;split at d
  ·rename_i x1 r1 f1 g1 af;split at d
   ·rename_i x2 r2 f2 g2 ag;cases d;obtain⟨n1,n2,n3⟩:=List.nodup_append.1 an;obtain⟨X,v2,G1,rfl,q1,ao,m1,e1⟩:=ak af I (λk y=>v k (Qah _ y)) (λk y=>Y k (Qah _ y)) n1;obtain⟨v3,v4,G2,rfl,q2,aa,m2,e2⟩:=al ag ao (λk y=>v k (Qan _ y)) (λk y=>Y k (Qan _ y)) n2;refine ⟨X++v3,v4,G1++G2,by simp,⟨X,v3,G1,G2,rfl,rfl,q1,q2⟩,aa,List.nodup_append.2 ⟨m1,m2,λc hc c' aq ar=>?_⟩,λc=>?_⟩
    ·subst ar;obtain⟨k,y,p,hp,au⟩:=(e1 c).1 hc;obtain⟨k',ah,p',Z,ai⟩:=(e2 c).1 aq;obtain⟨⟨o,ho⟩,o',a8⟩:(∃o,st.obj R k=some o)/\∃o,st.obj R k'=some o:=by obtain⟨g,_⟩:=QV a af;obtain⟨g',_⟩:=QV b ag;obtain⟨o,ho⟩:=g k y;obtain⟨o',a8⟩:=g' k' ah;exact ⟨⟨o,by simp[St.obj,ho]⟩,o',by simp[St.obj,a8]⟩
     exact n3 k y k' ah (hM.inj k k' o o' ho a8 p p' c hp Z au ai)
    ·rw[Qck,e1,e2];constructor
     ·rintro (⟨k,y,r⟩|⟨k,y,r⟩)
      ·exact ⟨k,Qah _ y,r⟩
      ·exact ⟨k,Qan _ y,r⟩
     ·rintro⟨k,y,r⟩;rcases List.mem_append.1 y with h|h
      ·exact .inl ⟨k,h,r⟩
      ·exact .inr ⟨k,h,r⟩
   ·cases d
  ·cases d
end
theorem xJ {C I own t e st y} (h:xI C I own t e st=some y) :
 ∃cs f g,E0 C.P {renv:=[],rheap:=[]} st I.results=some [.a cs]/\JO (st.obj {renv:=[],rheap:=[]}) (assoc st.heap) own t 0 cs=some (y,[],f,g)/\nodup g=true/\Qa g f=true:=by unfold xI at h<;>grind
theorem Yk {C f I ts own t} {fn}
 (hC:∀f sp,C.tbl f=some sp->BM C.P C.V f sp) (hP:HE C) (hV:∀w w',Below w.heap.size w w'->C.V w->C.V w') (hm:C.P.follows .mixedOrders=true) (hI:∀f I,C.inl f=some I->FnOK C.P f I) (hf:FnOK C.P f I) d
 (h:∀x y,fn x=some y->denoteS C d I ts own t x=some y):j9 C.P C.V f {args:=ts,res:=t,own,fn} where
 enters:=hf.enters
 calls:=by
  intro w F ar x y a1 hF X hy;have J:=h x y hy;unfold denoteS at J;have hB:∀k,¬(⟨w,λ_=>False,w.heap.size,F,[]⟩:Base).D k:=λ_ g=>g;refine IH (R:={renv:=[],rheap:=[]}) (Good:=λa=>a=some y) (μ:=λ_=>none) rfl ⟨hC,λw' E=>hV w w' E a1,hP⟩ hB hm (EE ⟨hC,λw' E=>hV w w' E a1,hP⟩ hB hm hI d) (by simp) hf (Dn X) (λk g=>absurd rfl g)
   {heap:=λk o g=>by simp[St.obj,assoc] at g
    own:=λk o g=>by simp[St.obj,assoc] at g
    inj:=λk k' o o' g=>by simp[St.obj,assoc] at g
    foreign:=λb E=>E,flt:=λ_ _=>rfl,dom:=(λk p g=>by cases g),below:=Below.refl _ _,bsize:=Qaa _,obound:=hF}
   (λe st h1 h2 hh=>by cases e<;>first|exact h1 rfl|exact h2 rfl|cases hh) (λe st μ' O' tmps w' g1 Y g3 g4 g5 g6 g7=>?_) J;obtain⟨cs,fz,gn,ad,hd,ae,af⟩:=xJ g7;obtain⟨us,k1,k2⟩:=Eu Y g3 ad;cases k2 with
  |cons h1 h2 =>
  cases h2;rename_i v;obtain⟨vs,rfl,a6⟩:∃vs,v=.agg vs/\All2 (AQ w' O' μ') cs vs.toList:=h1;let Ft:= λc=>F c\/∃k∈gn,∃p,μ' k=some p/\p.block=some c;obtain⟨ag,ah⟩:=QV t hd;have a7:∀k∈gn,∃o,st.obj {renv:=[],rheap:=[]} k=some o:=λk g=>by obtain⟨o,Z⟩:=ag k g;exact ⟨o,by simp[St.obj,Z]⟩
  have ai:∀c,Ft c->O' c:=λc hc=>hc.elim (Y.foreign c) λ⟨k,g,p,hp,aj⟩=>by obtain⟨o,Z⟩:=a7 k g;exact (Y.own k o Z p c hp aj).1
  obtain⟨v1,v2,Gs,e1,hr,ak,a8,au⟩:=AcG Y ai t hd a6 λk g p b hp E=>by obtain⟨t',l',Z⟩:=ah k g;obtain⟨o1,o2,o3⟩:=Y.own k _ Z p b hp E;refine ⟨λhh=>hh.elim (λh=>o2.2 h) λ⟨k',aa,p',al,ab⟩=>?_,o3⟩;obtain⟨o',an⟩:=a7 k' aa;have:=Y.inj k' k o' _ an Z p' p b al hp ab E;subst this;have ao:=List.all_eq_true.1 af k' aa;rw[any_beq.2 g] at ao<;>simp_all (λk g p b hp E=>.inr ⟨k,g,p,hp,E⟩) (nodup_iff ae);cases ak;rw[Qbd] at e1;subst e1;have aq:Ft=λc=>F c\/c∈Gs:=by grind
  rw[aq] at hr;exact ⟨_,k1,vs,Gs,rfl,Y.below,a8,hr⟩
theorem xF {C I R c e st y} (h:xE C I R c e st=some y) :
 ∃vs,E0 C.P R st I.results=some vs/\BY (st.obj R) c vs=some (y,[]):=by unfold xE at h<;>grind
theorem AaC {size los x v i c} (h:(I8 size los x v)[i]?=some c):i<size/\(GV los x i=some c\/GV los x i=none/\c=.lit (v i)):=by unfold I8 at h<;>grind
theorem Yi {C f I size los ts rs} {fn}
 (hC:∀f sp,C.tbl f=some sp->BM C.P C.V f sp) (hP:HE C) (hm:C.P.follows .mixedOrders=true) (hI:∀f I,C.inl f=some I->FnOK C.P f I) (hf:FnOK C.P f I) d
 (h:∀v x y,fn x=some y->cG C d I size los ts rs v x=some y):j8 C.P C.V f {size,los,args:=ts,res:=rs,fn} where
 enters:=hf.enters
 calls:=by
  intro n0 w F b el cur b0 x xs y hV ao aq hF ad ae Y af hx ar hy;have Y:cur.size=size:=Y;have J:=h (λi=>cur.getD i undef) _ y hy;unfold cG at J;rw[K7,Lc] at J;generalize hv:(λi=>cur.getD i undef)=v at J;have hB:∀k,¬(⟨w,λ_=>False,n0,λc=>F c/\c≠b,[]⟩:Base).D k:=λ_ g=>g;have Z:∀k o,({env:=[],heap:=[],next:=1}:St).obj (roQ size los x v) k=some o->k=0/\o=.box (I8 size los x v):=λk o g=>by
   have a8:assoc [(0,AObj.box (I8 size los x v))] k=some o:=g;rw[AE] at a8;by_cases h0:0=k
   ·simp_all
   ·rw[if_neg h0] at a8;cases a8
  have ag:∀k p,(λk=>if k=0 then some (Place.box b) else none:AI) k=some p->k=0/\p=.box b:=λk p g=>by grind
  have ah:(I8 size los x v).length=size:=by simp[I8]
  refine IH (R:=roQ size los x v) (Good:=λa=>a=some y) (μ:=λk=>if k=0 then some (.box b) else none) rfl ⟨hC,hV,hP⟩ hB hm (EE ⟨hC,hV,hP⟩ hB hm hI d) (by simp) hf
   (vs:=.v (.c (.ptr 0 0))::Cy ts xs) (.cons ⟨b,by simp,rfl⟩ (Dn ar)) (λk g=>⟨rfl,by
     by_cases h0:0=k
     ·omega
     ·exfalso;apply g;show assoc [(0,AObj.box (I8 size los x v))] k=none;rw[AE,if_neg h0];rfl⟩)
   {heap:=λk o g=>by
     obtain⟨rfl,rfl⟩:=Z k o g;refine ⟨b,cur,el,by simp,ae,Rn (by grind) λi c hi=>?_⟩;obtain⟨h1,h2⟩:=AaC hi;have E:i<cur.size:=by omega
     have hu:cur.toList[i]?=some cur[i]:=by simp[E]
     rcases h2 with h2|⟨_,rfl⟩
     ·obtain⟨u,b1,hr⟩:=hx i c h2;obtain⟨t,l,rfl⟩:=OI h2;exact ⟨u,by grind,hr⟩
     ·have he:=af _ (Qcn hu);have aa:v i=cur[i]:=by rw[<-hv];show cur.getD i undef = _;rw[Qao,show cur[i]?=some cur[i] by simp[E]];rfl
      exact ⟨_,hu,aa.symm,by rw[aa];exact he.1,by rw[aa];exact he.2⟩
    own:=λk o g p c hp hc=>by
     obtain⟨rfl,rfl⟩:=ag k p hp;have:b=c:=by simpa[Place.block] using hc
     subst this;exact ⟨ad,⟨ao,λhh=>hh.2 rfl⟩,hF _ ad⟩
    inj:=λk k' o o' g au p p' c hp b2 _ _=>by rw[(Z k o g).1,(Z k' o' au).1]
    foreign:=λc hc=>hc.1,flt:=λ_ _=>rfl,dom:=λk p g=>.inl (by rw[(ag k p g).1];exact Nat.one_pos),below:=Below.refl _ _,bsize:=aq,obound:=hF}
   (λe st h1 h2 hh=>by cases e<;>first|exact h1 rfl|exact h2 rfl|cases hh) (λe st μ' O' tmps w' g1 g2 g3 g4 g5 g6 g7=>?_) J;obtain⟨vs,av,ha⟩:=xF g7;obtain⟨us,k1,k2⟩:=Eu g2 g3 av;have h0:μ' 0=some (.box b):=g4 0 _ (by simp);have ai:st.obj (roQ size los x v) 0=some (.box (I8 size los x v)):=by
   have h1:assoc (roQ size los x v).rheap 0≠none:=by simp[roQ,AE]
   have:=g1.heap 0 h1;simp[St.obj,this,roQ,AE]
  obtain⟨b',a1,aw,aj,ab,X⟩:=g2.heap 0 _ ai;rw[h0] at aj;cases aj;have ax:=g2.own 0 _ ai _ b h0 rfl;have ak:Keeps w' O' w' F:=⟨Qaa _,λc _ hc=>⟨λhh=>hc (by
   by_cases a7:c=b
   ·subst a7;exact ax.1
   ·exact g2.foreign c ⟨hh,a7⟩),rfl⟩⟩;have ay:a1.size=size:=by have:=X.length;rw[ah] at this;simpa using this.symm
  have al:∀i c,(I8 size los x v)[i]?=some c->∃u,a1[i]?=some u/\AQ w' O' μ' c u:=λi c hi=>by obtain⟨u,hu,hr⟩:=Sd X i c hi;exact ⟨u,by rwa [Qav] at hu,hr⟩
  have a6:∀i,i<size->(I8 size los x v)[i]?=some (match GV los x i with|some c=>c|none=>.lit (v i)):=λi hi=>by unfold I8;rw[Qbf,show (List.range size)[i]?=some i by simp[hi]];rfl
  refine ⟨us,k1,us,a1,aw,rfl,g2.below,λc hc a7=>?_,ab,by rw[ay];exact Y.symm,λi c hi=>?_,λi hi=>?_,?_⟩
  ·by_cases an:F c
   ·exact g2.flt c ⟨an,a7⟩
   ·exact (g5.keep c hc an).2
  ·obtain⟨u0,az,_⟩:=hx i c hi;have E:i<size:=by rw[<-Y];exact (Array.getElem?_eq_some_iff.1 az).1
   have:=a6 i E;rw[hi] at this;obtain⟨u,hu,hr⟩:=al i c this;obtain⟨t,l,rfl⟩:=OI hi;exact ⟨u,hu,Ce ak (λ_ _ h=>h) _ (show AQ w' O' (λ_=>none) (.sl t l) u from hr)⟩
  ·by_cases E:i<size
   ·have:=a6 i E;rw[hi] at this;obtain⟨u,hu,hr⟩:=al i _ this;rw[hu,hr.1,<-hv];simp[Y,E]
   ·rw[Array.getElem?_eq_none (by omega),Array.getElem?_eq_none (by omega)]
  ·exact Cm ak g2.heap ha k2 λk g=>by cases g
end Go.Den
namespace Go.Den
open Go.RowKit Go.ChangeShapes
mutual
def TG (P:Program):Nat->TypeId->Ty->Bool
 |0,_,_=>false
 |n+1,t,T=>match P.underlying t with
  |some .bool=>match T with
   |.bool=>true
   |_=>false
  |some (.int k)=>match T with
   |.int k'=>MC k k'
   |_=>false
  |some (.slice e)=>match T with
   |.slice c=>TG P n e c&&Nat.beq (P.cellsOf e) c.size&&!(Nat.beq c.size 0)&&Nat.ble 1 (P.bytesOf e)
   |_=>false
  |some (.struct d)=>T.isAgg&&Nat.beq (P.cellsOf t) T.size&&LR P n d.toList 0 T
  |_=>false
def LR (P:Program):Nat->List Field->Nat->Ty->Bool
 |0,_,_,_=>false
 |_+1,[],_,T=>match T with
  |.unit=>true
  |_=>false
 |n+1,f::r,off,T=>match T with
  |.pair a b=>Nat.beq f.offset off&&Nat.beq (P.cellsOf f.type) a.size&&TG P n f.type a&&(match r with
   |[g]=>match b with
    |.unit=>LR P n [g] (off+a.size) b
    |b=>Nat.beq g.offset (off+a.size)&&Nat.beq (P.cellsOf g.type) b.size&&TG P n g.type b
   |r=>LR P n r (off+a.size) b)
  |_=>false
end
section
variable {H:Type} {enc:TypeId×Value->H} {P:Program} {w:World} {spare:Nat->Bool} {held:Bool}
theorem oT {b off c1 c2} (h1:w.rangeAt b off c1) (d:w.rangeAt b (off+c1.length) c2):w.rangeAt b off (c1++c2):=λj v c=>by
 by_cases g:j<c1.length
 ·rw[Qdc g] at c;exact h1 j v c
 ·rw[Qdp (by omega)] at c;have:=d _ v c<;>grind
theorem rN {b off n cs} (h:w.cells? 0 ⟨b,off,none⟩ n=some cs):w.rangeAt b off cs/\cs.length=n:=by
 obtain⟨_,c,d⟩:=World.cells?_some h;refine ⟨λj v g=>?_,c⟩;have o:j<n:=by grind
 have:=d j o;rw[Addr.add_mid,g] at this;exact this
def Ll:(T:Ty)->T.interp->Prop
 |.slice t,l=>List.length (α:=t.interp) l<=reachBytes/\∀x,List.Mem (α:=t.interp) x l->Ll t x
 |.pair a b,x=>Ll a x.1/\Ll b x.2
 |_,_=>True
def Small (l:List Nat):Prop:=∀k∈l,k<=reachBytes
theorem small_app {l m}:Small (l++m)↔Small l/\Small m :=
 ⟨λh=>⟨λk c=>h k (Qah _ c),λk c=>h k (Qan _ c)⟩,λh k c=>(List.mem_append.1 c).elim (h.1 k) (h.2 k)⟩
theorem fT {e}:∀ {ds:List (DataW H)},Small (DataW.weightsAll P e ds)->∀d∈ds,Small (d.weights P e)
 |d::r,h,x,c=>by
  rw[DataW.weightsAll,small_app] at h;rcases List.mem_cons.1 c with rfl|c
  ·exact h.1
  ·exact fT h.2 x c
theorem fN {T:Ty} {b off:Nat} {S:T.interp->Prop}:∀(m:Nat),(∀i,i<m->∃cs x,w.cells? 0 ⟨b,off+i*T.size,none⟩ T.size=some cs/\Reads w (λ_=>False) T x cs/\S x) ->
 ∃(l:List T.interp) (cs:List Value),l.length=m/\cs.length=m*T.size/\w.rangeAt b off cs/\RowOf (Reads w (λ_=>False) T) l cs/\∀x∈l,S x
 |0,_=>⟨[],[],rfl,by simp,λj v p=>by simp at p,rfl,λx t=>by cases t⟩
 |m+1,h=>by
  obtain⟨l,cs,h1,o,E,h4,I⟩:=fN m λi hi=>h i (by omega);obtain⟨c,x,J,h6,g⟩:=h m (by omega);obtain⟨X,Y⟩:=rN J;refine ⟨l++[x],cs++c,by simp[h1],by rw[Qau,o,Y,Qcd];omega,oT E (by rw[o];exact X),RowOf.append h4 ⟨c,[],by simp,h6,rfl⟩,λy d=>?_⟩;rcases List.mem_append.1 d with d|d
  ·exact I y d
  ·rw[List.mem_singleton.1 d];exact g
theorem AaB {a v} (h:w.cell? a=some v):a.spot=none/\a.block<w.heap.size:=by refine ⟨?_,World.block_lt_of_cell? w a h⟩;unfold World.cell? at h;split at h<;>simp_all
mutual
theorem Q8:∀(n:Nat) (t:TypeId) (T:Ty) (fuel:Nat) (cs:List Value) (x:DataW H×List MemPlace),TG P n t T=true->DataW.trod enc P w 0 spare held fuel t cs=some x->∃y,Reads w (λ_=>False) T y cs/\(Small (x.1.weights P t)->Ll T y)
 |0,_,_,_,_,_,h,_=>by cases h
 |n+1,t,T,fuel,cs,x,h,hx=>by
  simp only[TG] at h;cases v:P.underlying t with
  |none=>rw[v] at h;cases h
  |some d =>
  rw[v] at h;cases d<;>simp only[Qcz] at h;case bool =>
   split at h
   ·obtain⟨b,rfl,rfl⟩:=DataW.trod_bool v hx;exact ⟨b,rfl,λ_=>trivial⟩
   ·cases h
  case int k =>
   split at h
   ·have:=J6 h;subst this;obtain⟨m,rfl,rfl,hw⟩:=DataW.trod_int v hx;exact ⟨m,⟨rfl,hw⟩,λ_=>trivial⟩
   ·cases h
  case slice e =>
   split at h
   ·rename_i c;simp only[Qab] at h;obtain⟨⟨⟨h1,X⟩,h3⟩,h6⟩:=h;have X:=beq_true X;have h3:c.size≠0:=λe=>by rw[e] at h3;simp[Qeb] at h3
    rcases DataW.trod_slice v hx with ⟨rfl,rfl⟩|⟨a,len,cap,elems,rest,m,rfl,rfl,rfl,_,hl,hc,E,g,_,_⟩
    ·exact ⟨([]:List c.interp),⟨none,0,rfl,Qaa _,Qaw _,.inl rfl⟩,λ_=>⟨Qaw _,nofun⟩⟩
    ·by_cases h0:len=0
     ·subst h0;have:elems=[]:=Qad E;subst this;exact ⟨([]:List c.interp),⟨some a,cap,rfl,Qaw _,hc,.inl rfl⟩,λ_=>⟨Qaw _,nofun⟩⟩
     ·have each:∀i,i<len->∃cs z,w.cells? 0 (a.add (i*c.size)) c.size=some cs/\elems[i]?=some z/\DataW.trod enc P w 0 spare held m e cs=some z:=λi hi=>by
       have:=g i hi;rw[X] at this;cases Y:w.cells? 0 (a.add (i*c.size)) c.size with
       |none=>rw[Y] at this;simp at this;omega
       |some cs =>
        rw[Y] at this;simp only[Qeh] at this;have hz:elems[i]?=some elems[i]:=by simp[E,hi]
        exact ⟨cs,elems[i],rfl,hz,by rw[this,hz]⟩
      obtain⟨I,_,Z,_,_⟩:=each 0 (by omega);obtain⟨_,_,J⟩:=World.cells?_some Z;have o:=J 0 (by omega);have ad:I.length=c.size:=(World.cells?_some Z).2.1;have a6:I[0]?=some I[0]:=by simp
      rw[a6] at o;have a7:(a.add (0*c.size)).add 0=a:=by simp[Addr.add]
      rw[a7] at o;obtain⟨p,hb⟩:=AaB o;obtain⟨ab,ao,ae⟩:=a;simp only at p hb;subst p;obtain⟨l,cells,g1,g2,g3,g4,g5⟩:=fN (w:=w) (T:=c) (b:=ab) (off:=ao) (S:=λy=>Small (DataW.weightsAll P e (elems.map (·.1)))->Ll c y) len λi hi=>by obtain⟨cs,z,k1,k2,k3⟩:=each i hi;obtain⟨y,k4,k5⟩:=Q8 n e c m cs z h1 k3;exact ⟨cs,y,by rw[<-Addr.add_mid];exact k1,k4,λp=>k5 (fT p z.1 (List.mem_map_of_mem (Qcn k2)))⟩
      refine ⟨l,⟨some ⟨ab,ao,none⟩,cap,by rw[g1],by rw[g1];exact hl,hc,.inr ⟨ab,ao,cells,rfl,λh=>h,hb,g3,g4⟩⟩,λp=>?_⟩;simp only[DataW.weights,v] at p;have h4:=p _ (Qbr ..);rw[Qdx,E] at h4;have a8:1<=P.bytesOf e:=Qbe h6;have h5:=Qbh (Nat.mul_le_mul_left (len+_) a8) h4;refine ⟨by rw[g1];omega,λy hy=>g5 y hy ((small_app.1 λk hk=>p k (Qak _ hk)).1)⟩
   ·cases h
  case struct fs =>
   simp only[Qab] at h;obtain⟨⟨h0,h1⟩,X⟩:=h;obtain⟨xs,m,rfl,rfl,a1,aa,g⟩:=DataW.trod_struct v hx;have af:cs.length=T.size:=by rw[a1];exact beq_true h1
   obtain⟨y,g1,g2⟩:=Xt n fs.toList 0 T m cs xs X (by simpa using aa) (λi f hf=>g i f (by simpa using hf)) (by omega);exact ⟨y,by simpa using g1,λp=>g2 (by simpa only[DataW.weights,v] using p)⟩
theorem Xt:∀(n:Nat) (J:List Field) (off:Nat) (T:Ty) (fuel:Nat) (cs:List Value) (xs:List (DataW H×List MemPlace)),LR P n J off T=true->xs.length=J.length ->
 (∀(i:Nat) (f:Field),J[i]?=some f->DataW.trod enc P w 0 spare held fuel f.type ((cs.drop f.offset).take (P.cellsOf f.type))=xs[i]?)->cs.length=off+T.size->∃y,Reads w (λ_=>False) T y (cs.drop off)/\(Small (DataW.weightsEach P (J.map (·.type)) (xs.map (·.1)))->Ll T y)
 |0,_,_,_,_,_,_,h,_,_,_=>by cases h
 |n+1,[],off,T,fuel,cs,xs,h,d,_,X=>by
  simp only[LR] at h;split at h
  ·have:xs=[]:=Qad d;subst this;refine ⟨(),?_,λ_=>trivial⟩;show cs.drop off=[];simp only[Ty.size] at X;simp[X]
  ·cases h
 |n+1,f::r,off,T,fuel,cs,xs,h,d,t,X=>by
  simp only[LR] at h;split at h
  ·rename_i a b;simp only[Qab] at h;obtain⟨⟨⟨h1,Z⟩,h3⟩,h4⟩:=h;have h1:=beq_true h1;have Z:=beq_true Z;simp only[Ty.size] at X;cases xs with
   |nil=>simp at d
   |cons x xs =>
    have hx:=t 0 f rfl;simp only[Qbi,h1,Z] at hx;obtain⟨y,g1,g2⟩:=Q8 n f.type a fuel _ x h3 hx;have o:∀(i:Nat) (f:Field),r[i]?=some f->DataW.trod enc P w 0 spare held fuel f.type ((cs.drop f.offset).take (P.cellsOf f.type))=xs[i]?:=λi f hf=>by have:=t (i+1) f (by simpa using hf);simpa using this
    have fin:∀(z:b.interp),Reads w (λ_=>False) b z (cs.drop (off+a.size))->(Small (DataW.weightsEach P (r.map (·.type)) (xs.map (·.1)))->Ll b z)->∃y,Reads w (λ_=>False) (.pair a b) y (cs.drop off)/\(Small (DataW.weightsEach P ((f::r).map (·.type)) ((x::xs).map (·.1)))->Ll (.pair a b) y):=λz k1 I=>by
     refine ⟨(y,z),⟨_,_,?_,g1,k1⟩,λE=>?_⟩;rotate_left
     ·have E:=small_app.1 (show Small (x.1.weights P f.type++DataW.weightsEach P (r.map (·.type)) (xs.map (·.1))) from E);exact ⟨g2 E.1,I E.2⟩
     rw[<-List.drop_drop,List.take_append_drop]
    have c:LR P n r (off+a.size) b=true->∃y,Reads w (λ_=>False) (.pair a b) y (cs.drop off)/\(Small (DataW.weightsEach P ((f::r).map (·.type)) ((x::xs).map (·.1)))->Ll (.pair a b) y):=λY=>by obtain⟨z,k1,I⟩:=Xt n r (off+a.size) b fuel cs xs Y (by simpa using d) o (by omega);exact fin z k1 I
    have p:∀g,r=[g]->(Nat.beq g.offset (off+a.size)&&Nat.beq (P.cellsOf g.type) b.size&&TG P n g.type b)=true->∃y,Reads w (λ_=>False) (.pair a b) y (cs.drop off)/\(Small (DataW.weightsEach P ((f::r).map (·.type)) ((x::xs).map (·.1)))->Ll (.pair a b) y):=λg hr Y=>by
     subst hr;simp only[Qab] at Y;obtain⟨⟨e1,e2⟩,e3⟩:=Y;have e1:=beq_true e1;have e2:=beq_true e2;have v:=o 0 g rfl;cases xs with
     |nil=>simp at d
     |cons x2 a1 =>have:a1=[]:=Qad (by simpa using d);subst this;simp only[Qbi,e1,e2] at v;rw[Qas (by simp;omega)] at v;obtain⟨z,k1,I⟩:=Q8 n g.type b fuel _ x2 e3 v;exact fin z k1 λE=>I (small_app.1 (show Small (x2.1.weights P g.type++[]) from E)).1
    split at h4
    ·rename_i g;split at h4
     ·exact c h4
     ·exact p g rfl h4
    ·exact c h4
  ·cases h
end
end
end Go.Den
namespace Go.Den
open Go.RowKit Go.ChangeShapes
def WL (P:Program) (n:Nat):List TypeId->List Ty->Bool
 |[],[]=>true
 |t::c,T::d=>TG P n t T&&P.readableRec t&&Nat.blt t P.types.size&&WL P n c d
 |_,_=>false
def SW:(c:List Ty)->(AO c).interp->Prop
 |[],_=>True
 |[t],x=>Ll t x
 |t::u::r,x=>Ll t x.1/\SW (u::r) x.2
def Fits:(T:Ty)->T.interp->Prop
 |.int k,n=>LE.le (α:=Int) k.min n/\LE.le (α:=Int) n k.max
 |.bool,_=>True
 |.slice t,l=>List.length (α:=t.interp) l<=maxLen/\∀x,List.Mem (α:=t.interp) x l->Fits t x
 |.unit,_=>True
 |.pair a b,x=>Fits a x.1/\Fits b x.2
def Jh:(c:List Ty)->(AO c).interp->Prop
 |[],_=>True
 |[t],x=>Fits t x
 |t::u::r,x=>Fits t x.1/\Jh (u::r) x.2
theorem RowOf.each {α:Type} {R:α->List Value->Prop}:∀ {l} {vs},RowOf R l vs->∀x,List.Mem x l->∃us,R x us
 |[],_,_,_,c=>by cases c
 |_::_,_,⟨d,h,_,h1,g⟩,x,c=>by
  cases c with
  |head=>exact ⟨d,h1⟩
  |tail _ c=>exact RowOf.each g x c
theorem MQ {w O}:∀T {x} {vs},Reads w O T x vs->Fits T x
 |.int k,n,_,⟨_,h⟩=>by unfold inR at h;simpa only[Fits,Qab,decide_eq_true_eq] using h
 |.bool,_,_,_=>trivial
 |.unit,_,_,_=>trivial
 |.pair a b,_,_,⟨_,_,_,h1,o⟩=>⟨MQ a h1,MQ b o⟩
 |.slice t,l,_,⟨a,cap,_,p,v,d⟩=>by
  refine ⟨Qbh p v,λx g=>?_⟩;rcases d with d|⟨_,_,_,_,_,_,_,c⟩
  ·have h0:= Qad d;subst h0;cases g
  ·obtain⟨us,y⟩:=c.each x g;exact MQ t y
theorem OX {w O}:∀ {c} {x} {vs},BP w O c x vs->Jh c x
 |[],_,_,_=>trivial
 |[t],_,_,⟨_,h,_⟩=>MQ t h
 |t::_::_,_,_,⟨_,_,h,_,d⟩=>⟨MQ t h,OX d⟩
section
variable {H:Type} {enc:TypeId×Value->H} {P:Program} {w:World}
theorem yR {n t T v base} (h:TG P n t T=true) (c:Value.okWide P w .any base t v):v=valOf T v.cells.toList:=by
 cases n with
 |zero=>cases h
 |succ n =>
  simp only[TG] at h;unfold Value.okWide at c;cases g:P.underlying t with
  |none=>simp_all
  |some d =>
  rw[g] at h c;cases d<;>simp only[Qcz] at h;case struct o =>simp only[Qab] at h;obtain⟨cs,rfl,_⟩:=c;simp[valOf,h.1.1,Value.cells]
  all_goals
   simp only[Cell.okWide,Cell.ok,g] at c
   split at h
   case h_2=>cases h
   cases v<;>simp_all[valOf,Ty.isAgg,Value.cells]
theorem readAll n:∀ {E} {c} {vs} {ds} {ps} {base},WL P n E c=true->DataW.TrodAll enc P w 0 (λ_=>true) true E vs ds ps ->
 (∀(j:Nat) t v,E[j]?=some t->vs[j]?=some v->Value.okWide P w .any base t v)->∃x,BP w (λ_=>False) c x vs/\ds.length=c.length/\(Small (DataW.weightsEach P E ds)->SW c x)
 |[],c,vs,ds,ps,base,h,J,_=>by
  cases c with
  |nil =>obtain⟨rfl,rfl,rfl⟩:=trodAll_nil J;exact ⟨(),rfl,rfl,λ_=>trivial⟩
  |cons T c=>cases h
 |t::E,c,vs,ds,ps,base,h,J,Y=>by
  cases c with
  |nil=>cases h
  |cons T c =>
   simp only[WL,Qab] at h;obtain⟨⟨⟨h1,_⟩,_⟩,h2⟩:=h;obtain⟨v,X,d,ds',p,q,rfl,rfl,rfl,⟨fuel,hd⟩,o⟩:=trodAll_cons J;obtain⟨y,k1,Z⟩:=Q8 n t T fuel _ _ h1 hd;have g:=yR h1 (Y 0 t v rfl rfl);obtain⟨x,k3,k4,k5⟩:=readAll n h2 o λj t v h3 h4=>Y (j+1) t v (by simpa using h3) (by simpa using h4);cases c with
   |nil =>subst k3;exact ⟨y,⟨_,k1,by rw[<-g]⟩,congrArg Nat.succ k4,λI=>Z (small_app.1 I).1⟩
   |cons u r=>exact ⟨(y,x),⟨_,X,k1,by rw[<-g],k3⟩,congrArg Nat.succ k4,λI=>⟨Z (small_app.1 I).1,k5 (small_app.1 I).2⟩⟩
theorem Un {n W W'} (X:laidOutB P=true) (Y:Below W.heap.size W W'):∀ {y} {g} {vs} {ds} {ps},WL P n y g=true->DataW.TrodAll enc P W 0 (λ_=>true) true y vs ds ps ->
 (∀x∈ps,x.block<W.heap.size)->DataW.TrodAll enc P W' 0 (λb=>decide (b<W.heap.size)) true y vs ds ps
 |[],g,vs,ds,ps,_,E,_=>by obtain⟨rfl,rfl,rfl⟩:=trodAll_nil E;exact rfl
 |t::y,g,vs,ds,ps,h,E,o=>by
  cases g with
  |nil=>cases h
  |cons T g =>
   simp only[WL,Qab] at h;obtain⟨⟨⟨_,h1⟩,h3⟩,Z⟩:=h;obtain⟨v,a1,d,ds',p,q,rfl,rfl,rfl,hd,c⟩:=trodAll_cons E;have I:t<P.types.size:=by simp_all
   exact ⟨p,q,Below.trod X h1 I hd Y λx J=>o x (by simp[J]),Un X Y Z c λx J=>o x (by simp[J]),rfl⟩
theorem Aba {V:World->Prop} {f:FuncId} {fn:Func} {s:ChangeSpec} {c:List Ty} {g:(AO c).interp->Option Bool} {tt:Option ((AO c).interp->Bool)} {bt:TypeId} {n:Nat} (hm:BM P V f {args:=c,res:=[.bool],fresh:=false,fn:=g,tot:=tt}) (hl:laidOutB P=true) (o:WL P n fn.params.toList c=true) (d:s.vars=[])
 (a6:fn.resultTypes=#[bt]) (a7:P.underlying bt=some .bool) {W:World} {base:Nat} {args:Array Value} {ds gs:List (DataW H)} {before:List MemPlace}
 (E:∀(j:Nat) t v,fn.params[j]?=some t->args[j]?=some v->Value.okWide P W .any base t v) (hW:DataW.Whole enc P fn.params.toList s.vars false W args.toList ds gs before) (a8:V W) (I:(DataW.weightsEach P (fn.params.toList++s.plain.varTypes P) (ds++gs)).all (·<=reachBytes)=true)
 (J:ds.length=c.length->s.fn H ds={results:=[.lit (.bool true)],args:=ds}) (aa:∀x,Jh c x->SW c x->g x=some true) :
 Calls P f args W λe W'=>∃v,e=.returned v/\s.post enc P fn false true false false W args v W':=by
 obtain⟨p,q,hA,hV,rfl,X,Y⟩:=hW;have hq:q=[]/\gs=[]:=by rw[d] at hV;obtain⟨h1,Z⟩:=trodVars_none hV;exact ⟨Z,h1⟩
 obtain⟨rfl,rfl⟩:=hq;obtain⟨x,hx,a1,ab⟩:=readAll n o hA λj t v h1 Z=>E j t v (by simpa using h1) (by simpa using Z);have J:=J a1;have ad:Small (DataW.weightsEach P fn.params.toList ds):=λk hk=>by
  have e:s.plain.varTypes P=[]:=by simp[DataSpec.varTypes,ChangeSpec.plain,d]
  rw[e,Qbd,Qbd] at I;simpa using List.all_eq_true.1 I k hk
 have ae:∀y∈p,y.block<W.heap.size:=λy hy=>by have af:DataW.Whole enc P fn.params.toList s.vars false W args.toList ds [] (p++[]):=⟨p,[],hA,hV,rfl,X,Y⟩;simpa using af.lt y (by simp[hy])
 have hc:=hm.calls W (λ_=>False) args.toList x true a8 (λb hb=>hb.elim) hx (aa x (OX hx) (ab ad));rw[Qcf] at hc;refine hc.mono λe W' ⟨rs,he,hb,hr⟩=>?_;have ag:rs=[.bool true]:=by obtain⟨us,h1,Z⟩:=hr;have ah:us=[.bool true]:=h1;subst ah;exact Z
 subst ag;refine ⟨_,he,ds,[],p++[],[],p,[],⟨p,[],hA,hV,rfl,X,Y⟩,?_,?_,?_,hb.frame _,λh=>by cases h⟩
 ·rw[Qbd,J,a6];exact trodAll_mk1 (shut_bool a7 true)
 ·rw[Qbd,J];exact Un hl hb o hA ae
 ·rw[Qbd,J,d];rfl
end
def mkC (P:Program) (V:World->Prop) (l:List (Nat×FW)) (il:List (Nat×Inl):=[]):Ctx:={P:=P,tbl:=λf=>assoc l f,inl:=λf=>assoc il f,V:=V}
def AllMeet (P:Program) (V:World->Prop) (l:List (Nat×FW)):Prop:=∀e∈l,BM P V e.1 e.2
theorem AllMeet.nil {P V}:AllMeet P V []:=λ_ h=>by cases h
theorem AllMeet.cons {P V f sp l} (h:BM P V f sp) (d:AllMeet P V l):AllMeet P V ((f,sp)::l):=λe c=>by
 rcases List.mem_cons.1 c with rfl|c
 ·exact h
 ·exact d e c
theorem Ox {α}:∀ {l} {k} {x:α},assoc l k=some x->(k,x)∈l
 |[],_,_,h=>by cases h
 |(j,y)::r,k,x,h=>by
  simp only[assoc] at h;split at h
  ·simp_all
  ·exact Qak _ (Ox h)
theorem AllMeet.tbl {P V l il} (h:AllMeet P V l):∀f sp,(mkC P V l il).tbl f=some sp->BM (mkC P V l il).P (mkC P V l il).V f sp:=λf sp c=>h (f,sp) (Ox c)
def jK (V:World->Prop):Prop:=∀w w',Below w.heap.size w w'->V w->V w'
theorem Ahs {P V l}:∀f I,(mkC P V l).inl f=some I->FnOK (mkC P V l).P f I:=λf I h=>by cases h
theorem yM {P V l f fn o c d g} (p:AllMeet P V l) (t:jK V) (v:P.follows .mixedOrders=true) (E:FnOK P f (AG fn o))
 fr (h:∀x,denote (mkC P V l) 1 (AG fn o) c d fr x=g x):BM P V f (spP c d g fr) :=
 Q4 p.tbl ⟨λ_ _ h=>(by cases h),λ_ _ h=>(by cases h),λ_ _ h=>(by cases h),λ_ _ h=>by cases h⟩ t v Ahs E 1 (λx y I=>by rw[<-I];exact h x) λJ hg x=>by cases hg
theorem Ij {P:Program} {f:FuncId} {fn:Func} {hs:Hints} (h1:P.funcs[f]?=some fn) (h2:fn.body.isSome=true:=by kernel_rfl) (h3:(fn.name== "runtime.NumGoroutine")=false:=by kernel_rfl) (h4:CU fn.ntmps (fn.body.getD .skip)=true:=by kernel_rfl):FnOK P f (AG fn hs):=by
 refine ⟨fn,h1,?_,rfl,rfl,h3,h4⟩;cases hb:fn.body with
 |none=>rw[hb] at h2;cases h2
 |some c=>simp[AG,hb]
theorem n8 {P:Program} {V:World->Prop} {f:FuncId} {c d:List Ty} {fr:Bool} {t:(AO c).interp->Option (AO d).interp} {g:(AO c).interp->(AO d).interp} (h:BM P V f (spP c d t fr)) (e:∀x,Jh c x->t x=some (g x)):BM P V f (spT c d g fr) where
 enters:=h.enters
 tot:=λJ hg x=>by cases hg;rfl
 calls:=λw F o x y v hF p E=>h.calls w F o x y v hF p (by have I:some (g x)=some y:=E;exact (e x (OX p)).trans I)
theorem C0 {α b} {x y:α}:cnd b (some x) (some y)=some (cnd b x y):=by cases b<;>rfl
theorem AK {α b} {x y:α}:cnd b x y=if b=true then x else y:=by cases b<;>rfl
end Go.Den
namespace Go.Den
open Go.RowKit
theorem Aj n (h0:-9223372036854775808<=n) (h1:n<=9223372036854775807):wr .i64 n=n:=by unfold wr;rw[IntKind.wrap_i64];omega
theorem Oo n (h0:0<=n) (h1:n<=255):wr .u8 n=n:=by unfold wr;rw[IntKind.wrap_u8];omega
def Round {σ A:Type} (Inv:σ->Prop) (m:σ->Nat) (P:A->Prop) (k:Nat):Step σ A->Prop
 |.next c=>Inv c/\m c<k
 |.done a=>P a
theorem Db {σ A:Type} {bad:A} {f:σ->Step σ A} (Inv:σ->Prop) (m:σ->Nat) (P:A->Prop) (c:∀s,Inv s->Round Inv m P (m s) (f s)) :
 ∀(n:Nat) (s:σ),Inv s->m s<n->P (iter bad f n s)
 |0,s,_,h=>absurd h (Qgk _)
 |n+1,s,hi,h=>by
  have d:=c s hi;unfold iter;split
  ·rename_i o g;rw[g] at d;exact Db Inv m P c n o d.1 (by have:=d.2;omega)
  ·rename_i a g;rw[g] at d;exact d
theorem AL {α:Type} {x y:α}:cnd true x y=x:=rfl
theorem AR {α:Type} {x y:α}:cnd false x y=y:=rfl
theorem AF {α A a bad} {f:α->A}:Ad (some a) bad f=f a:=rfl
theorem Eh:Am=18446744073709551616:=rfl
theorem Ai {α:Type} {l:List α} {i} (h0:0<=i) (h1:i<Aa l):∃x,idx l i=some x/\x∈l:=by
 have c:i.toNat<l.length:=by unfold Aa at h1;omega
 refine ⟨l[i.toNat],?_,Qgf c⟩;unfold idx<;>simp_all
theorem ED x y:B8 x y=max x y:=by unfold B8<;>omega
theorem Ds x y:Bb x y=min x y:=by unfold Bb<;>omega
end Go.Den
namespace Go.Den
open Go.RowKit
def Aw (x i:Int):Bool:=decide (0<=i)&&x.toNat.testBit i.toNat
def As (x:Int):Prop:=0<=x/\x<=4294967295
theorem wrap_u32 n:IntKind.u32.wrap n=n%4294967296:=by unfold IntKind.wrap;simp[IntKind.signed,IntKind.bits]
theorem two32:((2 ^ 32:Nat):Int)=4294967296:=by decide
theorem He {x} (h:As x):(BitVec.ofInt 32 x).toNat=x.toNat:=by rw[BitVec.toNat_ofInt,two32,Qcp h.1 (by have:=h.2;omega)]
theorem FD {x} (h:As x):x.toNat<2 ^ 32:=by have:=h.1;have:=h.2<;>omega
theorem QG {n:Nat} (h:n<2 ^ 32):As (n:Int):=by
 have:(2:Nat) ^ 32=4294967296:=by decide
 exact ⟨by omega,by omega⟩
theorem T7 {n:Nat} (h:n<2 ^ 32):IntKind.u32.wrap (n:Int)=n:=by have:=QG h;rw[wrap_u32,Qcp this.1 (by omega)]
theorem Np {x y} (d:As x) (c:As y):Aq .and .u32 x y=((x.toNat &&& y.toNat:Nat):Int):=by show IntKind.u32.wrap ((BitVec.ofInt 32 x &&& BitVec.ofInt 32 y).toNat:Int) = _;rw[Qfg,He d,He c];exact T7 (Qev _ (FD c))
theorem AbA {x y} (c:As x) (d:As y):Aq .or .u32 x y=((x.toNat ||| y.toNat:Nat):Int):=by show IntKind.u32.wrap ((BitVec.ofInt 32 x ||| BitVec.ofInt 32 y).toNat:Int) = _;rw[BitVec.toNat_or,He c,He d];exact T7 (Qfa (FD c) (FD d))
theorem SZ {x y} (c:As x) (d:As y):Aq .andNot .u32 x y=((x.toNat &&& 2 ^ 32-1-y.toNat:Nat):Int):=by show IntKind.u32.wrap ((BitVec.ofInt 32 x &&& ~~~ BitVec.ofInt 32 y).toNat:Int) = _;rw[Qfg,BitVec.toNat_not,He c,He d];exact T7 (Qda Qgl (FD c))
theorem k8 {x y} (d:As x) (c:As y):As (Aq .and .u32 x y):=by rw[Np d c];exact QG (Qev _ (FD c))
theorem ZY {x y} (c:As x) (d:As y):As (Aq .or .u32 x y):=by rw[AbA c d];exact QG (Qfa (FD c) (FD d))
theorem QQ {x y} (c:As x) (d:As y):As (Aq .andNot .u32 x y):=by rw[SZ c d];exact QG (Qda Qgl (FD c))
theorem Si {x y} (c:As x) (d:As y) i:Aw (Aq .and .u32 x y) i=(Aw x i&&Aw y i):=by unfold Aw;rw[Np c d,Qae,Qep]<;>grind
theorem Ze {x y} (c:As x) (d:As y) i:Aw (Aq .or .u32 x y) i=(Aw x i||Aw y i):=by unfold Aw;rw[AbA c d,Qae,Qey]<;>grind
theorem PY {x i} (c:As x) (hi:32<=i):Aw x i=false:=by unfold Aw;rw[Qct (Qac (FD c) (Qbp (by decide) (by omega)))];simp
theorem S3 {x y} (c:As x) (d:As y) i:Aw (Aq .andNot .u32 x y) i=(Aw x i&&!Aw y i):=by
 by_cases hi:32<=i
 ·rw[PY (QQ c d) hi,PY c hi];rfl
 ·unfold Aw;rw[SZ c d,Qae,Qep];have e:(2 ^ 32-1-y.toNat).testBit i.toNat=(decide (i.toNat<32)&&!y.toNat.testBit i.toNat):=by rw[show 2 ^ 32-1-y.toNat=2 ^ 32-(y.toNat+1) by omega,Nat.testBit_two_pow_sub_succ (FD d)]
  rw[e];by_cases h0:0<=i
  ·have:i.toNat<32:=by omega
   simp[h0,this]
  ·simp[h0]
theorem Wx {x i} (hi:i<0):Aw x i=false:=by unfold Aw<;>grind
theorem Ww {x y} (c:As x) (d:As y) (h:∀i,0<=i->i<32->Aw x i=Aw y i):x=y:=by
 have:x.toNat=y.toNat:=by
  apply Qfm;intro i;by_cases hi:i<32
  ·have:=h (i:Int) (by omega) (by omega);simpa[Aw] using this
  ·have g:2 ^ 32<=2 ^ i:=Qbp (by decide) (by omega);rw[Qct (Qac (FD c) g),Qct (Qac (FD d) g)]
 have:=c.1;have:=d.1;omega
theorem F5 i:Aw 0 i=false:=by unfold Aw;simp
theorem zJ {i} (h0:0<=i) (h1:i<=31):A9 .u32 1 i=((2 ^ i.toNat:Nat):Int):=by
 unfold A9;rw[show min i.toNat IntKind.u32.bits=i.toNat by simp only[IntKind.bits];omega,Int.one_mul];have:(2:Int) ^ i.toNat=((2 ^ i.toNat:Nat):Int):=by simp
 rw[this];exact T7 (Nat.pow_lt_pow_right (by decide) (by omega))
theorem Je {i:Int} (h0:0<=i) (h1:i<=31):As ((2 ^ i.toNat:Nat):Int):=QG (Nat.pow_lt_pow_right (by decide) (by omega))
theorem Nx {i j} (h0:0<=i):Aw ((2 ^ i.toNat:Nat):Int) j=decide (i=j):=by unfold Aw;rw[Qae,Nat.testBit_two_pow]<;>grind
theorem Yt {x n:Int} (c:As x) (h0:0<=n) (h1:n<=31):AH .u32 x n=0↔∀i,n<=i->Aw x i=false:=by
 unfold AH;rw[show min n.toNat IntKind.u32.bits=n.toNat by simp only[IntKind.bits];omega];have d:(0:Int)<2 ^ n.toNat:=Qfd (by decide);rw[Qcg _ (Qdt d)];have key:x/2 ^ n.toNat=0↔x.toNat<2 ^ n.toNat:=by
  obtain⟨m,rfl⟩:∃m:Nat,x=m:=⟨x.toNat,(Qax c.1).symm⟩;have e:(m:Int)/2 ^ n.toNat=((m/2 ^ n.toNat:Nat):Int):=by simp
  rw[e,Qae,Int.natCast_eq_zero,Nat.div_eq_zero_iff];simp
 rw[key];constructor
 ·intro h i hi;unfold Aw;rw[Qct (Qac h (Qbp (by decide) (by omega)))];simp
 ·intro h;apply Nat.lt_pow_two_of_testBit;intro i hi;have:=h (i:Int) (by omega);simpa[Aw] using this
def low (x:Int):Int:=if x=0 then 32 else Lib.ctz 32 x.toNat
theorem Ye {x} (c:As x) (h0:x≠0):0<=low x/\low x<32/\Aw x (low x)=true/\∀j,j<low x->Aw x j=false:=by
 have d:x.toNat≠0:=by have:=c.1;omega
 have e:low x=Lib.ctzFrom 32 x.toNat:=by simp[low,h0,Lib.ctz,d]
 obtain⟨m,g,h⟩:=Lib.ctzFrom_spec 32 x.toNat (by omega) (FD c);rw[e];generalize Lib.ctzFrom 32 x.toNat=k at g h;refine ⟨by omega,by omega,?_,λj o=>?_⟩
 ·unfold Aw<;>grind
 ·unfold Aw<;>grind
def CF (x a n:Nat):Nat:=((List.range n).filter λi=>x.testBit (a+i)).length
def cnt (x:Int):Int:=CF x.toNat 0 32
theorem S7 x a m n:CF x a (m+n)=CF x a m+CF x (a+m) n:=by unfold CF;rw[List.range_add,List.filter_append,Qau,List.filter_map,Qdx];congr 2;apply Qgc<;>grind
theorem G5 x a:∀n,CF x a n<=n:=λn=>by unfold CF<;>grind
theorem xA x a n (h:a+n<=32) (c:n=8):CF (x >>> a &&& 255) 0 n=CF x a n:=by
 subst c;unfold CF;congr 1;apply Qgc;intro i hi;have hi:i<8:=by simpa using hi
 rw[Qep,Qfe,show 255=2 ^ 8-1 from rfl,Qfy];simp[hi]
def RM:List UInt8:=[0,1,1,2,1,2,2,3,1,2,2,3,2,3,3,4,1,2,2,3,2,3,3,4,2,3,3,4,3,4,4,5,1,2,2,3,2,3,3,4,2,3,3,4,3,4,4,5,2,3,3,4,3,4,4,5,3,4,4,5,4,5,5,6,
 1,2,2,3,2,3,3,4,2,3,3,4,3,4,4,5,2,3,3,4,3,4,4,5,3,4,4,5,4,5,5,6,2,3,3,4,3,4,4,5,3,4,4,5,4,5,5,6,3,4,4,5,4,5,5,6,4,5,5,6,5,6,6,7,
 1,2,2,3,2,3,3,4,2,3,3,4,3,4,4,5,2,3,3,4,3,4,4,5,3,4,4,5,4,5,5,6,2,3,3,4,3,4,4,5,3,4,4,5,4,5,5,6,3,4,4,5,4,5,5,6,4,5,5,6,5,6,6,7,
 2,3,3,4,3,4,4,5,3,4,4,5,4,5,5,6,3,4,4,5,4,5,5,6,4,5,5,6,5,6,6,7,3,4,4,5,4,5,5,6,4,5,5,6,5,6,6,7,4,5,5,6,5,6,6,7,5,6,6,7,6,7,7,8]
theorem Adl:∀y:Fin 256,Jg RM (y.val:Int)=some (CF y.val 0 8:Int):=by decide +kernel
theorem Afj {y} (h0:0<=y) (h1:y<256):Jg RM y=some (CF y.toNat 0 8:Int):=by have:=Adl ⟨y.toNat,by omega⟩<;>grind
theorem NR {x} (c:As x) (n:Nat) (d:n<=31):AH .u32 x n=((x.toNat >>> n:Nat):Int):=by unfold AH;rw[show min (n:Int).toNat IntKind.u32.bits=n by simp only[IntKind.bits];omega];rw[Qcg _ (Qdt (Qfd (by decide))),Qam];obtain⟨m,rfl⟩:∃m:Nat,x=m:=⟨x.toNat,(Qax c.1).symm⟩;simp
def oH (x:Int):Option Int :=
 Ad (Jg RM (AH .u32 x 24)) none λa =>
 Ad (Jg RM (Aq .and .u32 (AH .u32 x 16) 255)) none λb =>
 Ad (Jg RM (Aq .and .u32 (AH .u32 x 8) 255)) none λc =>
 Ad (Jg RM (Aq .and .u32 x 255)) none λd =>
 some (wr .i64 (wr .u8 (wr .u8 (wr .u8 (a+b)+c)+d)))
theorem Abv {x} (c:As x):oH x=some (cnt x):=by
 have ok:∀n:Nat,n<=31->As (AH .u32 x n):=λn o=>by rw[NR c n o,Qam];exact QG (Qda (Qfn _ _) (FD c))
 have d:As 255:=⟨by decide,by decide⟩;have part:∀n:Nat,n+8<=32->Jg RM (Aq .and .u32 (AH .u32 x n) 255)=some (CF x.toNat n 8:Int):=λn o=>by rw[Np (ok n (by omega)) d,NR c n (by omega),Qae];have g:x.toNat >>> n &&& (255:Int).toNat<256:=Qev (n:=8) _ (by decide);rw[Afj (by omega) (by omega),Qae];congr 2;exact xA _ _ _ o rfl
 have p:Jg RM (AH .u32 x 24)=some (CF x.toNat 24 8:Int):=by
  have e:AH .u32 x 24=Aq .and .u32 (AH .u32 x (24:Nat)) 255:=by
   rw[Np (ok 24 (by decide)) d];have:= NR c 24 (by decide);rw[this,Qae];have v:AH .u32 x 24=((x.toNat >>> 24:Nat):Int):=NR c 24 (by decide);rw[v];congr 1;have g:x.toNat >>> 24<2 ^ 8:=by rw[Qam];have:=FD c<;>omega
   show x.toNat >>> 24=x.toNat >>> 24 &&& 2 ^ 8-1;rw[Qfo,Qdk g]
  rw[e];exact part 24 (by decide)
 have h0:=part 0 (by decide);have y:AH .u32 x (0:Nat)=x:=by rw[NR c 0 (by decide)];simpa using Qax c.1
 rw[y] at h0;unfold oH;have h:Jg RM (Aq .and .u32 (AH .u32 x 16) 255)=some (CF x.toNat 16 8:Int):=part 16 (by decide);have t:Jg RM (Aq .and .u32 (AH .u32 x 8) 255)=some (CF x.toNat 8 8:Int):=part 8 (by decide);rw[p,h,t,h0];simp only[Ad];have E:=G5 x.toNat 0 8;have l1:=G5 x.toNat 8 8;have l2:=G5 x.toNat 16 8;have I:=G5 x.toNat 24 8;rw[Oo ((CF x.toNat 24 8:Int)+(CF x.toNat 16 8:Int)) (by omega) (by omega),Oo ((CF x.toNat 24 8:Int)+(CF x.toNat 16 8:Int)+(CF x.toNat 8 8:Int)) (by omega) (by omega),
  Oo ((CF x.toNat 24 8:Int)+(CF x.toNat 16 8:Int)+(CF x.toNat 8 8:Int)+(CF x.toNat 0 8:Int)) (by omega) (by omega),Aj _ (by omega) (by omega)];unfold cnt;rw[show (32:Nat)=8+(8+(8+8)) from rfl,S7,S7,S7];simp only[Qbm,Nat.reduceAdd];congr 1;omega
theorem Ak {α} (l:List α):0<=Aa l:=by unfold Aa;omega
def el {α:Type} [Inhabited α] (l:List α) (i:Int):α:=(idx l i).getD default
theorem A7 {α i} [Inhabited α] {l:List α} (h0:0<=i) (h1:i<Aa l):idx l i=some (el l i):=by obtain⟨x,c,_⟩:=Ai h0 h1;rw[c];simp[el,c]
theorem Agf {α i} [Inhabited α] {l:List α} (h0:0<=i) (h1:i<Aa l):el l i∈l:=by obtain⟨x,c,d⟩:=Ai h0 h1;simpa[el,c] using d
theorem Ag {α:Type} {l:List α} {i} {x:α} (h:idx l i=some x):0<=i/\i<Aa l/\x∈l:=by
 unfold idx at h;split at h
 ·rename_i h0;obtain⟨c,d⟩:=List.getElem?_eq_some_iff.1 h;exact ⟨h0,by unfold Aa;omega,by grind⟩
 ·cases h
theorem BZ {α:Type} {l:List α} {x:α} (h:x∈l):∃i,idx l i=some x:=by obtain⟨k,c⟩:=List.mem_iff_getElem?.1 h;exact ⟨(k:Int),by unfold idx;simp[c]⟩
theorem OF {α A:Type} {l:List α} {bad no yes:A} {f:Int->Step Int A} (Good:Int->α->Prop) (d:l.length<=maxLen)
 (v:∀i x,0<=i->i<Aa l->idx l i=some x->Good i x/\f i=.next (wr .i64 (i+1))\/¬Good i x/\f i=.done no) (g:∀i,¬i<Aa l->f i=.done yes) :
 ∃b:Bool,iter bad f Am 0=cnd b yes no/\(b=true↔∀i x,idx l i=some x->Good i x):=by
 have I:Aa l<=9223372036854775807:=by unfold Aa;unfold maxLen at d;omega
 refine Db (λi=>0<=i/\i<=Aa l/\∀j x,j<i->idx l j=some x->Good j x) (λi=>(Aa l-i).toNat) (λa=>∃b:Bool,a=cnd b yes no/\(b=true↔∀i x,idx l i=some x->Good i x)) ?_ Am 0 ⟨by omega,Ak l,λj x E o=>?_⟩ (by rw[Eh];omega)
 ·rintro i ⟨h0,h1,t⟩;by_cases hi:i<Aa l
  ·obtain⟨x,o,_⟩:=Ai h0 hi;rcases v i x h0 hi o with ⟨hg,p⟩|⟨hg,p⟩
   ·rw[p,Aj _ (by omega) (by omega)];refine ⟨⟨by omega,by omega,λj y E c=>?_⟩,by show (Aa l-(i+1)).toNat<(Aa l-i).toNat;omega⟩;by_cases e:j=i
    ·subst e;rw[o] at c;cases c;exact hg
    ·exact t j y (by omega) c
   ·rw[p];exact ⟨false,rfl,λh=>(by cases h),λh=>absurd (h i x o) hg⟩
  ·rw[g i hi];exact ⟨true,rfl,λ_ j y c=>t j y (by have:=(Ag c).2.1;omega) c,λ_=>rfl⟩
 ·have:=(Ag o).1;omega
theorem AcK {n:Int} (h:Fits (.int .u32) n):As n:=h
theorem IU {α:Type} {l:List α} (h:l.length<=maxLen):Aa l<=9223372036854775807:=by unfold Aa;unfold maxLen at h;omega
theorem Aa5 {α σ A:Type} {l:List α} {bad no:A} {fin:σ->A} {f:σ×Int->Step (σ×Int) A} (Good:Int->α->Prop) (c:σ->α->σ) (I:σ->Prop) {s0:σ} (t:I s0) (o:l.length<=maxLen)
 (hf:∀s i x,I s->0<=i->i<Aa l->idx l i=some x->Good i x/\f (s,i)=.next (c s x,wr .i64 (i+1))/\I (c s x)\/¬Good i x/\f (s,i)=.done no) (p:∀s i,I s->¬i<Aa l->f (s,i)=.done (fin s)) :
 ∃b:Bool,iter bad f Am (s0,0)=cnd b (fin (l.foldl c s0)) no/\(b=true↔∀i x,idx l i=some x->Good i x):=by
 have hm:Aa l<=9223372036854775807:=by unfold Aa;unfold maxLen at o;omega
 refine Db (λs=>0<=s.2/\s.2<=Aa l/\I s.1/\s.1=(l.take s.2.toNat).foldl c s0/\∀j x,j<s.2->idx l j=some x->Good j x) (λs=>(Aa l-s.2).toNat) (λa=>∃b:Bool,a=cnd b (fin (l.foldl c s0)) no/\(b=true↔∀i x,idx l i=some x->Good i x)) ?_ Am (s0,0) ⟨by simp,Ak l,t,by simp,λj x v d=>?_⟩ (by rw[Eh];simp only;omega)
 ·rintro⟨s,i⟩ ⟨h0,h1,E,J,X⟩;simp only at h0 h1 E J X;by_cases hi:i<Aa l
  ·obtain⟨x,d,_⟩:=Ai h0 hi;rcases hf s i x E h0 hi d with ⟨hg,Y,Z⟩|⟨hg,Y⟩
   ·rw[Y,Aj _ (by omega) (by omega)];refine ⟨⟨by simp only;omega,by simp only;omega,Z,?_,λj y v g=>?_⟩,by show (Aa l-(i+1)).toNat<(Aa l-i).toNat;omega⟩
    ·show c s x=(l.take (i+1).toNat).foldl c s0;have hl:i.toNat<l.length:=by unfold Aa at hi;omega
     have a1:l[i.toNat]?=some x:=by have:=d;unfold idx at this;rwa [if_pos h0] at this
     rw[show (i+1).toNat=i.toNat+1 by omega,Qci,a1,Qfb,<-J];rfl
    ·simp only at v;by_cases e:j=i
     ·subst e;rw[d] at g;cases g;exact hg
     ·exact X j y (by omega) g
   ·rw[Y];exact ⟨false,rfl,λh=>(by cases h),λh=>absurd (h i x d) hg⟩
  ·rw[p s i E hi];refine ⟨true,?_,λ_ j y g=>X j y (by have:=(Ag g).2.1;omega) g,λ_=>rfl⟩;show fin s=fin (l.foldl c s0);rw[J,Qas (by unfold Aa at hi;omega)]
 ·simp only at v;have:=(Ag d).1;omega
def clr (x k:Int):Int:=Aq .andNot .u32 x ((2 ^ k.toNat:Nat):Int)
theorem S6 {x k} (c:As x) (h0:0<=k) (h1:k<=31):As (clr x k)/\∀j,Aw (clr x k) j=(Aw x j&&!decide (k=j)):=by refine ⟨QQ c (Je h0 h1),λj=>?_⟩;unfold clr;rw[S3 c (Je h0 h1),Nx h0]
theorem AaH {x k} (d:As x) (h0:0<=k) (h1:k<=31) (h:Aw x k=true):(clr x k).toNat<x.toNat:=by
 have c:(clr x k).toNat<=x.toNat:=by unfold clr;rw[SZ d (Je h0 h1),Qae];exact Qgl
 refine Nat.lt_of_le_of_ne c λe=>?_;have g:=(S6 d h0 h1).2 k;have:Aw (clr x k) k=Aw x k:=by unfold Aw;rw[e]
 rw[this,h] at g;simp at g
theorem nU {x} (c:As x):x.toNat<Am:=by have:=FD c;rw[Eh]<;>omega
theorem Aa7 {A bad no yes d} {f:Int->Step Int A} (h0:As d) (Good:Int->Prop)
 (I:∀x,As x->x≠0->(∀i,Aw x i=true->Aw d i=true)->0<=low x->low x<=31->Aw d (low x)=true->Good (low x)/\f x=.next (clr x (low x))\/¬Good (low x)/\f x=.done no) (o:f 0=.done yes) :
 ∃b:Bool,iter bad f Am d=cnd b yes no/\(b=true↔∀k,Aw d k=true->Good k):=by
 refine Db (λx=>As x/\(∀i,Aw x i=true->Aw d i=true)/\∀k,Aw d k=true->Aw x k=false->Good k) (λx=>x.toNat) (λa=>∃b:Bool,a=cnd b yes no/\(b=true↔∀k,Aw d k=true->Good k)) ?_ Am d ⟨h0,λ_ h=>h,λk h1 J=>by simp_all⟩ (nU h0);rintro x ⟨p,t,hg⟩;by_cases v:x=0
 ·subst v;rw[o];exact ⟨true,rfl,λ_ k E=>hg k E (F5 k),λ_=>rfl⟩
 ·obtain⟨y,l1,l2,X⟩:=Ye p v;have c:=S6 p y (by omega);rcases I x p v t y (by omega) (t _ l2) with ⟨g,e⟩|⟨g,e⟩
  ·rw[e];refine ⟨⟨c.1,λi hi=>t i ?_,λk E Y=>?_⟩,AaH p y (by omega) l2⟩<;>grind
  ·rw[e];exact ⟨false,rfl,λh=>(by cases h),λh=>absurd (h _ (t _ l2)) g⟩
theorem m8 {A:Type} {bad:A} {fin:Int->A} {f:Int×Int->Step (Int×Int) A} {d g:Int} (h0:As d) (val:Int->Int)
 (hf:∀m x,As x->x≠0->0<=low x->low x<=31->Aw d (low x)=true->f (m,x)=.next (B8 m (val (low x)),clr x (low x))) (o:∀m,f (m,0)=.done (fin m)) :
 ∃m,iter bad f Am (g,d)=fin m/\g<=m/\(∀k,Aw d k=true->val k<=m)/\(m=g\/∃k,Aw d k=true/\m=val k):=by
 refine Db (λs=>As s.2/\(∀i,Aw s.2 i=true->Aw d i=true)/\g<=s.1/\(∀k,Aw d k=true->Aw s.2 k=false->val k<=s.1)/\(s.1=g\/∃k,Aw d k=true/\s.1=val k)) (λs=>s.2.toNat)
  (λa=>∃m,a=fin m/\g<=m/\(∀k,Aw d k=true->val k<=m)/\(m=g\/∃k,Aw d k=true/\m=val k)) ?_ Am (g,d) ⟨h0,λ_ h=>h,Qbb _,(λk h1 h2=>by have p:Aw d k=false:=h2;rw[h1] at p;cases p),.inl rfl⟩ (nU h0);rintro⟨m,x⟩ ⟨t,y,hm,hg,E⟩;simp only at t y hm hg E;by_cases I:x=0
 ·subst I;rw[o];exact ⟨m,rfl,hm,λk J=>hg k J (F5 k),E⟩
 ·obtain⟨X,l1,l2,l3⟩:=Ye t I;have c:=S6 t X (by omega);rw[hf m x t I X (by omega) (y _ l2),ED];refine ⟨⟨c.1,λi hi=>y i ?_,by simp only;omega,λk J Y=>?_,?_⟩,AaH t X (by omega) l2⟩
  ·simp only at hi;rw[c.2] at hi;simp only[Qab] at hi;exact hi.1
  ·simp only at Y ⊢;rw[c.2] at Y;by_cases v:low x=k
   ·subst v;omega
   ·have:=hg k J (by simpa[v] using Y);omega
  ·simp only;by_cases Z:val (low x)<=m
   ·rw[Qeq Z];exact E
   ·rw[Qei (by omega)];exact .inr ⟨_,y _ l2,rfl⟩
theorem Bn {α A l bad f} (P:A->Prop) (Good:Int->α->Prop) no yes (c:l.length<=maxLen)
 (g:∀i x,0<=i->i<Aa l->idx l i=some x->Good i x/\f i=.next (wr .i64 (i+1))\/¬Good i x/\f i=.done no) (d:∀i,¬i<Aa l->f i=.done yes)
 (o:(∀i x,idx l i=some x->Good i x)->P yes) (p:¬(∀i x,idx l i=some x->Good i x)->P no):P (iter bad f Am 0):=by
 obtain⟨b,h1,t⟩:=OF Good c g d;rw[h1];cases b with
 |true=>exact o (t.1 rfl)
 |false=>exact p λh=>by simp_all
theorem Aa6 {α σ A l bad f s0} (P:A->Prop) (Good:Int->α->Prop) g (I:σ->Prop) (fin:σ->A) no (o:I s0) (c:l.length<=maxLen)
 (p:∀s i x,I s->0<=i->i<Aa l->idx l i=some x->Good i x/\f (s,i)=.next (g s x,wr .i64 (i+1))/\I (g s x)\/¬Good i x/\f (s,i)=.done no) (d:∀s i,I s->¬i<Aa l->f (s,i)=.done (fin s))
 (t:(∀i x,idx l i=some x->Good i x)->P (fin (l.foldl g s0))) (v:¬(∀i x,idx l i=some x->Good i x)->P no):P (iter bad f Am (s0,0)):=by
 obtain⟨b,h1,y⟩:=Aa5 Good g I o c p d;rw[h1];cases b with
 |true=>exact t (y.1 rfl)
 |false=>exact v λh=>by simp_all
theorem yB {A bad f c} (P:A->Prop) (Good:Int->Prop) no yes (h0:As c)
 (g:∀x,As x->x≠0->(∀i,Aw x i=true->Aw c i=true)->0<=low x->low x<=31->Aw c (low x)=true->Good (low x)/\f x=.next (clr x (low x))\/¬Good (low x)/\f x=.done no) (d:f 0=.done yes)
 (o:(∀k,Aw c k=true->Good k)->P yes) (p:¬(∀k,Aw c k=true->Good k)->P no):P (iter bad f Am c):=by
 obtain⟨b,h1,t⟩:=Aa7 h0 Good g d;rw[h1];cases b with
 |true=>exact o (t.1 rfl)
 |false=>exact p λh=>by simp_all
theorem iE {A bad f c g} (P:A->Prop) (val:Int->Int) (fin:Int->A) (h0:As c)
 (h:∀m x,As x->x≠0->0<=low x->low x<=31->Aw c (low x)=true->f (m,x)=.next (B8 m (val (low x)),clr x (low x))) (d:∀m,f (m,0)=.done (fin m))
 (o:∀m,g<=m->(∀k,Aw c k=true->val k<=m)->(m=g\/∃k,Aw c k=true/\m=val k)->P (fin m)):P (iter bad f Am (g,c)):=by obtain⟨m,h1,p,t,h4⟩:=m8 h0 val h d;rw[h1];exact o m p t h4
end Go.Den
namespace Go.Den
open Go.RowKit
theorem AY {α:Type} {l:List α} {i} (h:0<=i):idx l i=l[i.toNat]?:=by unfold idx;simp_all
theorem AN {α} l i (x:α):Aa (AB l i x)=Aa l:=by unfold Aa AB<;>simp_all
theorem By {α i} {l} (h0:0<=i) (h1:i<Aa l) (x:α) j:idx (AB l i x) j=if j=i then some x else idx l j:=by
 by_cases c:0<=j
 ·rw[AY c,AY c];unfold AB;rw[List.getElem?_set];by_cases e:j=i
  ·subst e;rw[if_pos rfl,if_pos rfl,if_pos (by unfold Aa at h1;omega)]
  grind
 ·have d:∀l:List α,idx l j=none:=λl=>by unfold idx<;>grind
  rw[d,d,if_neg (by omega)]
theorem AM {α n} (h:0<=n) (x:α):Aa (Ay n x)=n:=by unfold Aa Ay<;>grind
theorem IP {α n j} (h0:0<=j) (h1:j<n) (x:α):idx (Ay n x) j=some x:=by rw[AY h0];unfold Ay<;>grind
theorem Eg {α:Type} {l m:List α} (h:Aa l=Aa m) (e:∀j,0<=j->j<Aa l->idx l j=idx m j):l=m:=by
 refine Qdq λk=>?_;by_cases c:k<l.length
 ·have:=e (k:Int) (by omega) (by unfold Aa;omega);rwa [AY (by omega),AY (by omega),Qae] at this
 ·rw[List.getElem?_eq_none_iff.2 (by omega),List.getElem?_eq_none_iff.2 (by unfold Aa at h;omega)]
theorem DX {α:Type} {l m:List α} {j} (h0:0<=j):idx (l++m) j=if j<Aa l then idx l j else idx m (j-Aa l):=by
 split
 ·rename_i h;rw[AY h0,AY h0,Qdc (by unfold Aa at h;omega)]
 ·rename_i h;have c:0<=j-Aa l:=by omega
  rw[AY h0,AY c,Qdp (by unfold Aa at h;omega)];congr 1;unfold Aa;omega
theorem Ac2 {α:Type} {l:List α} {x:α}:idx (l++[x]) (Aa l)=some x:=by rw[DX (Ak l),if_neg (by omega),Qgg];rfl
theorem BK {α} l (x:α):Aa (l++x::[])=Aa l+1:=by unfold Aa<;>simp_all
theorem Az {α} (l m:List α):Aa (l++m)=Aa l+Aa m:=by unfold Aa<;>simp_all
theorem Au {α A} x (f:α->A):Ao x f=f x:=id rfl
theorem Ae {α b} (x y:α) (h:b=true):cnd b x y=x:=by subst h;rfl
theorem Zzp {α:Type} {b:Bool} {x y:α} (h:b=true):cnd b x y=x:=Ae _ _ h
theorem Af {α b} (x y:α) (h:b=false):cnd b x y=y:=by subst h;rfl
theorem Zzn {α:Type} {b:Bool} {x y:α} (h:b=false):cnd b x y=y:=Af _ _ h
theorem Ab {α A o a} bad (f:α->A) (h:o=some a):Ad o bad f=f a:=by subst h;rfl
theorem Zzq {α A:Type} {o:Option α} {a:α} {bad:A} {f:α->A} (h:o=some a):Ad o bad f=f a:=Ab _ _ h
theorem Ahu:(2:Int) ^ 46=70368744177664:=by decide
theorem AhK:(2:Int) ^ 47=140737488355328:=by decide
theorem room_le {n:Int} {b:Nat} (h:n*b<=70368744177664):AA n b=true:=by unfold AA<;>simp_all
theorem WH {n} {b:Nat} (h:(b:Int)*n<=140737488355328):B5 n b=true:=by unfold B5<;>simp_all
end Go.Den
namespace Go.Den
open Go.RowKit
theorem X6 x m k:x &&& 2 ^ (2*k)*m+(2 ^ k-1)=2 ^ (2*k)*(x >>> (2*k) &&& m)+x%2 ^ k:=by
 apply Qfm;intro j;rw[Qep,Qfz _ (Qac (Nat.sub_lt (Nat.pow_pos (by decide)) (by decide)) (Qbp (by decide) (by omega))),Qfz _ (Qac (Qfp _ (Nat.pow_pos (by decide))) (Qbp (by decide) (by omega)))];by_cases c:j<2*k
 ·rw[if_pos c,if_pos c,Qfy,Nat.testBit_mod_two_pow,Bool.and_comm]
 ·rw[if_neg c,if_neg c,Qep,Qfe]<;>simp_all
def BC (k:Nat):Nat->Nat->Nat
 |0,_=>0
 |n+1,x=>x%2 ^ k+x/2 ^ k%2 ^ k+2 ^ (2*k)*BC k n (x/2 ^ (2*k))
def MG (k:Nat):Nat->Nat
 |0=>0
 |n+1=>2 ^ (2*k)*MG k n+(2 ^ k-1)
theorem TI k:∀n x,(x >>> k &&& MG k n)+(x &&& MG k n)=BC k n x
 |0,x=>by simp[MG,BC]
 |n+1,x=>by
  rw[MG,X6,X6,BC,<-TI k n (x/2 ^ (2*k)),Nat.mul_add];have e:x >>> k >>> (2*k)=(x/2 ^ (2*k)) >>> k:=by rw[<-Qam,<-Nat.shiftRight_add,<-Nat.shiftRight_add,Qgh]
  rw[e,Qam x (2*k),Qam x k];omega
theorem qD:∀n x,(∀i,x/16 ^ i%16<=4)->x >>> 4+x &&& MG 4 n=BC 4 n x
 |0,x,_=>by simp[MG,BC]
 |n+1,x,h=>by
  have h0:=h 0;have h1:=h 1;have g:=h 2;have c:=qD n (x/256) (λi=>by have:=h (i+2);rwa [show 16 ^ (i+2)=256*16 ^ i by rw[Nat.pow_add,Nat.mul_comm],<-Nat.div_div_eq_div_mul] at this);rw[MG,X6,BC,<-c];simp only[Nat.pow_zero,Nat.div_one,Nat.pow_one,Qam,Nat.reducePow,Nat.reduceMul] at *;have d:x/16/16=x/256:=by omega
  have q:x/16+x=x%16+x/16%16+16*(x/16%16+x/256%16)+256*(x/256/16+x/256):=by omega
  have e:(x/16+x)/256=x/256/16+x/256:=by omega
  rw[e];omega
theorem sR (n x:Nat):BC 1 (n+4) x=BC 1 4 (x%256)+256*BC 1 n (x/256):=by
 have e:x/4/4/4/4=x/256:=by omega
 simp only[BC,Nat.reducePow,Nat.reduceMul,e];omega
theorem sS n x:BC 2 (n+2) x=BC 2 2 (x%256)+256*BC 2 n (x/256):=by
 have e:x/16/16=x/256:=by omega
 simp only[BC,Nat.reducePow,Nat.reduceMul,e];omega
theorem sT n x:BC 4 (n+1) x=BC 4 1 (x%256)+256*BC 4 n (x/256):=by simp only[BC,Nat.reducePow,Nat.reduceMul];omega
def Oy (n x:Nat):Nat:=BC 4 n (BC 2 (2*n) (BC 1 (4*n) x))
theorem Ahg:∀y:Fin 256,BC 1 4 y.val<256/\BC 2 2 (BC 1 4 y.val)<256/\Oy 1 y.val=CF y.val 0 8/\BC 2 2 (BC 1 4 y.val)%16<=4/\BC 2 2 (BC 1 4 y.val)/16<=4:=by decide +kernel
theorem lN {y} (h:y<256):BC 1 4 y<256/\BC 2 2 (BC 1 4 y)<256/\Oy 1 y=CF y 0 8/\BC 2 2 (BC 1 4 y)%16<=4/\BC 2 2 (BC 1 4 y)/16<=4:=Ahg ⟨y,h⟩
theorem qH n x:BC 2 (2*(n+1)) (BC 1 (4*(n+1)) x)=BC 2 2 (BC 1 4 (x%256))+256*BC 2 (2*n) (BC 1 (4*n) (x/256)):=by have h:=lN (Qfp x (by decide:0<256));rw[show 4*(n+1)=4*n+4 by omega,show 2*(n+1)=2*n+2 by omega,sR,sS]<;>grind
theorem rL n x:Oy (n+1) x=CF (x%256) 0 8+256*Oy n (x/256):=by have h:=lN (Qfp x (by decide:0<256));unfold Oy;rw[qH,sT,<-h.2.2.1];show _ = BC 4 1 (BC 2 2 (BC 1 4 (x%256)))+256*BC 4 n (BC 2 (2*n) (BC 1 (4*n) (x/256)))<;>grind
theorem vE:∀n x i,BC 2 (2*n) (BC 1 (4*n) x)/16 ^ i%16<=4
 |0,x,i=>by simp[BC]
 |n+1,x,i=>by
  have h:=lN (Qfp x (by decide:0<256));rw[qH];match i with
  |0=>omega
  |1=>omega
  |i+2 =>have c:=vE n (x/256) i;rw[show 16 ^ (i+2)=256*16 ^ i by rw[Nat.pow_add,Nat.mul_comm],<-Nat.div_div_eq_div_mul]<;>grind
theorem AaI x n:CF x 0 (8+n)=CF (x%256) 0 8+CF (x/256) 0 n:=by
 rw[S7];congr 1
 ·unfold CF;congr 1;refine Qgc λi hi=>?_;have hi:i<8:=by simp_all
  rw[show (256:Nat)=2 ^ 8 from rfl,Nat.testBit_mod_two_pow];simp[hi]
 ·unfold CF<;>grind
def T2 (x:Nat):Nat :=
 let y:=(x >>> 1 &&& 6148914691236517205)+(x &&& 6148914691236517205)
 let z:=(y >>> 2 &&& 3689348814741910323)+(y &&& 3689348814741910323)
 z >>> 4+z &&& 1085102592571150095
theorem AfB x:T2 x=Oy 8 x:=by
 unfold T2 Oy;have c:(6148914691236517205:Nat)=MG 1 32:=by decide +kernel
 have d:(3689348814741910323:Nat)=MG 2 16:=by decide +kernel
 have g:(1085102592571150095:Nat)=MG 4 8:=by decide +kernel
 simp only[c,d,g];rw[TI,TI];exact qD 8 _ (vE 8 x)
def Pa (x:Int):Int:=CF x.toNat 0 64
theorem AdO x:∃s0 s1 s2 c d g h o:Nat,(s0<=8/\s1<=8/\s2<=8/\c<=8)/\(d<=8/\g<=8/\h<=8/\o<=8)/\T2 x=s0+256*(s1+256*(s2+256*(c+256*(d+256*(g+256*(h+256*o))))))/\CF x 0 64=s0+(s1+(s2+(c+(d+(g+(h+o)))))):=by
 have p:CF x 0 64=CF x 0 (8+(8+(8+(8+(8+(8+(8+(8+0)))))))):=rfl;rw[p,AfB];simp only[AaI,rL];refine ⟨CF (x%256) 0 8,CF (x/256%256) 0 8,CF (x/256/256%256) 0 8,CF (x/256/256/256%256) 0 8,CF (x/256/256/256/256%256) 0 8,CF (x/256/256/256/256/256%256) 0 8,CF (x/256/256/256/256/256/256%256) 0 8,CF (x/256/256/256/256/256/256/256%256) 0 8,⟨G5 _ _ _,G5 _ _ _,G5 _ _ _,G5 _ _ _⟩,⟨G5 _ _ _,G5 _ _ _,G5 _ _ _,G5 _ _ _⟩,?_,?_⟩
 ·simp only[Oy,BC,Nat.mul_zero,Qfq]
 ·rfl
end Go.Den
namespace Go.Den
open Go.RowKit
def Cs (x:Int):Prop:=0<=x/\x<=18446744073709551615
theorem wrap_u64 n:IntKind.u64.wrap n=n%18446744073709551616:=by unfold IntKind.wrap;simp[IntKind.signed,IntKind.bits]
theorem Ahz:((2 ^ 64:Nat):Int)=18446744073709551616:=by decide
theorem Ace:(2 ^ 64:Nat)=18446744073709551616:=by decide
theorem Hf {x} (h:Cs x):(BitVec.ofInt 64 x).toNat=x.toNat:=by rw[BitVec.toNat_ofInt,Ahz,Qcp h.1 (by have:=h.2;omega)]
theorem Sy {x} (h:Cs x):x.toNat<2 ^ 64:=by have:=h.1;have:=h.2<;>omega
theorem SJ {n:Nat} (h:n<2 ^ 64):Cs (n:Int):=by rw[Ace] at h;exact ⟨by omega,by omega⟩
theorem AfN {x} (h:Cs x):∃n:Nat,x=n/\n<2 ^ 64:=⟨x.toNat,(Qax h.1).symm,Sy h⟩
theorem KV {n:Nat} (h:n<2 ^ 64):wr .u64 (n:Int)=n:=by have:=SJ h;show IntKind.u64.wrap _ = _;rw[wrap_u64,Qcp this.1 (by omega)]
theorem Nq {x y:Nat} (d:x<2 ^ 64) (c:y<2 ^ 64):Aq .and .u64 (x:Int) (y:Int)=((x &&& y:Nat):Int):=by show IntKind.u64.wrap ((BitVec.ofInt 64 x &&& BitVec.ofInt 64 y).toNat:Int) = _;rw[Qfg,Hf (SJ d),Hf (SJ c)];exact KV (Qev _ c)
theorem oL {x y:Nat} (c:x<2 ^ 64) (d:y<2 ^ 64):Aq .or .u64 (x:Int) (y:Int)=((x ||| y:Nat):Int):=by show IntKind.u64.wrap ((BitVec.ofInt 64 x ||| BitVec.ofInt 64 y).toNat:Int) = _;rw[BitVec.toNat_or,Hf (SJ c),Hf (SJ d)];exact KV (Qfa c d)
theorem L7 (x:Nat) (n:Nat) (c:n<=63):AH .u64 (x:Int) n=((x >>> n:Nat):Int):=by unfold AH;rw[show min (n:Int).toNat IntKind.u64.bits=n by simp only[IntKind.bits];omega];rw[Qcg _ (Qdt (Qfd (by decide))),Qam];simp
theorem AdH {x:Nat} (_:x<2 ^ 64):A9 .u64 (x:Int) 1=((2*x%2 ^ 64:Nat):Int):=by unfold A9;rw[show min (1:Int).toNat IntKind.u64.bits=1 by simp only[IntKind.bits];omega,wrap_u64]<;>omega
def oc1 (x:Int):Int:=wr .u64 (Aq .and .u64 (AH .u64 x 1) 6148914691236517205+Aq .and .u64 x 6148914691236517205)
def oc2 (x:Int):Int:=wr .u64 (Aq .and .u64 (AH .u64 x 2) 3689348814741910323+Aq .and .u64 x 3689348814741910323)
def oc3 (x:Int):Int:=Aq .and .u64 (wr .u64 (AH .u64 x 4+x)) 1085102592571150095
def oc4 (x:Int):Int:=wr .u64 (x+AH .u64 x 8)
def oc5 (x:Int):Int:=wr .u64 (x+AH .u64 x 16)
def oc6 (x:Int):Int:=wr .u64 (x+AH .u64 x 32)
def yQ (x:Int):Int:=Aq .and .i64 (wr .i64 (oc6 (oc5 (oc4 (oc3 (oc2 (oc1 x))))))) 127
theorem AhI {s0 s1 s2 d g o p v S} (h0:s0<=8/\s1<=8/\s2<=8/\d<=8) (h4:g<=8/\o<=8/\p<=8/\v<=8) (h:S=s0+256*(s1+256*(s2+256*(d+256*(g+256*(o+256*(p+256*v))))))) :
 ∃a b c:Nat,a=S+S >>> 8/\b=a+a >>> 16/\c=b+b >>> 32/\S<2 ^ 62/\a<2 ^ 62/\b<2 ^ 62/\c<2 ^ 62/\c%128=s0+(s1+(s2+(d+(g+(o+(p+v)))))):=by
 obtain⟨t7,X⟩:∃t,t=v:=⟨_,rfl⟩;obtain⟨t6,Y⟩:∃t,t=p+256*t7:=⟨_,rfl⟩;obtain⟨t5,Z⟩:∃t,t=o+256*t6:=⟨_,rfl⟩;obtain⟨t4,e4⟩:∃t,t=g+256*t5:=⟨_,rfl⟩;obtain⟨t3,e3⟩:∃t,t=d+256*t4:=⟨_,rfl⟩;obtain⟨t2,e2⟩:∃t,t=s2+256*t3:=⟨_,rfl⟩;obtain⟨t1,e1⟩:∃t,t=s1+256*t2:=⟨_,rfl⟩;have hS:S=s0+256*t1:=by grind
 have y:(2:Nat) ^ 62=4611686018427387904:=by decide
 have J:S >>> 8=t1:=by omega
 have b7:t7<=8:=by omega
 have b6:t6<=8+256*8:=by omega
 have b5:t5<=8+256*8+65536*8:=by omega
 have b4:t4<=8+256*8+65536*8+16777216*8:=by omega
 have b3:t3<=40000000000:=by omega
 have b2:t2<=11000000000000:=by omega
 have b1:t1<=3000000000000000:=by omega
 have E:(S+t1) >>> 16=t2+t3:=by rw[Qam];omega
 have I:(S+t1+(t2+t3)) >>> 32=t4+t5+t6+t7:=by
  rw[Qam];have:S+t1+(t2+t3)=s0+s1+s2+d+256*(s1+s2+d+g)+65536*(s2+d+g+o)+16777216*(d+g+o+p)+4294967296*(t4+t5+t6+t7):=by omega
  omega
 refine ⟨S+t1,S+t1+(t2+t3),S+t1+(t2+t3)+(t4+t5+t6+t7),by rw[J],by rw[E],by rw[I],?_,?_,?_,?_,?_⟩;all_goals (try rw[y])<;>omega
theorem Ae8 {x} (J:Cs x):yQ x=Pa x:=by
 obtain⟨n,rfl,t⟩:=AfN J;have v:(6148914691236517205:Nat)<2 ^ 64:=by decide
 have E:(3689348814741910323:Nat)<2 ^ 64:=by decide
 have X:(1085102592571150095:Nat)<2 ^ 64:=by decide
 have I:∀a k,a<2 ^ 64->a >>> k<2 ^ 64:=λa k h=>by rw[Qam];exact Qda (Qfn _ _) h
 have Y:oc1 (n:Int)=((n >>> 1 &&& 6148914691236517205)+(n &&& 6148914691236517205):Nat):=by unfold oc1;have d:AH .u64 (n:Int) 1 = _:=L7 n 1 (by decide);rw[d];have o:Aq .and .u64 ((n >>> 1:Nat):Int) 6148914691236517205=((n >>> 1 &&& 6148914691236517205:Nat):Int):=Nq (I n 1 t) v;have a3:Aq .and .u64 (n:Int) 6148914691236517205=((n &&& 6148914691236517205:Nat):Int):=Nq t v;rw[o,a3,<-Qdn];refine KV ?_;have:=Qcw (n:=n >>> 1) (m:=6148914691236517205);have:=Qcw (n:=n) (m:=6148914691236517205)<;>omega
 rw[show yQ (n:Int)=Aq .and .i64 (wr .i64 (oc6 (oc5 (oc4 (oc3 (oc2 (oc1 (n:Int)))))))) 127 from rfl,Y];have p:(n >>> 1 &&& 6148914691236517205)+(n &&& 6148914691236517205)<2 ^ 64:=by have:=Qcw (n:=n >>> 1) (m:=6148914691236517205);have:=Qcw (n:=n) (m:=6148914691236517205)<;>omega
 generalize hy:(n >>> 1 &&& 6148914691236517205)+(n &&& 6148914691236517205)=y at p;have Z:(y >>> 2 &&& 3689348814741910323)+(y &&& 3689348814741910323)<=7378697629483820646:=by have:=Qcw (n:=y >>> 2) (m:=3689348814741910323);have:=Qcw (n:=y) (m:=3689348814741910323);omega
 have e2:oc2 (y:Int)=((y >>> 2 &&& 3689348814741910323)+(y &&& 3689348814741910323):Nat):=by unfold oc2;have d:AH .u64 (y:Int) 2 = _:=L7 y 2 (by decide);rw[d];have o:Aq .and .u64 ((y >>> 2:Nat):Int) 3689348814741910323=((y >>> 2 &&& 3689348814741910323:Nat):Int):=Nq (I y 2 p) E;have a3:Aq .and .u64 (y:Int) 3689348814741910323=((y &&& 3689348814741910323:Nat):Int):=Nq p E;rw[o,a3,<-Qdn];refine KV ?_<;>omega
 rw[e2];generalize hz:(y >>> 2 &&& 3689348814741910323)+(y &&& 3689348814741910323)=z at Z;have hs:z >>> 4+z &&& 1085102592571150095=T2 n:=by unfold T2<;>simp_all
 have b3:z >>> 4+z<2 ^ 64:=by omega
 have e3:oc3 (z:Int)=(T2 n:Nat):=by unfold oc3;have d:AH .u64 (z:Int) 4 = _:=L7 z 4 (by decide);rw[d,<-Qdn,KV b3,<-hs];exact Nq b3 X
 rw[e3];obtain⟨s0,s1,s2,s3,s4,s5,s6,s7,h0,h4,hS,hc⟩:=AdO n;obtain⟨a,b,c,ea,eb,ec,lS,la,lb,lc,hm⟩:=AhI h0 h4 hS;have g:(2:Nat) ^ 62=4611686018427387904:=by decide
 have lt:∀k:Nat,k<2 ^ 62->k<2 ^ 64:=λk hk=>by rw[g] at hk;rw[Ace];omega
 have e4:oc4 (T2 n:Int)=(a:Nat):=by unfold oc4;have d:AH .u64 (T2 n:Int) 8 = _:=L7 (T2 n) 8 (by decide);rw[d,<-Qdn,<-ea];exact KV (lt _ la)
 have e5:oc5 (a:Int)=(b:Nat):=by unfold oc5;have d:AH .u64 (a:Int) 16 = _:=L7 a 16 (by decide);rw[d,<-Qdn,<-eb];exact KV (lt _ lb)
 have e6:oc6 (b:Int)=(c:Nat):=by unfold oc6;have d:AH .u64 (b:Int) 32 = _:=L7 b 32 (by decide);rw[d,<-Qdn,<-ec];exact KV (lt _ lc)
 rw[e4,e5,e6,Aj _ (by omega) (by rw[g] at lc;omega)];have fin:Aq .and .i64 (c:Int) 127=((c &&& 127:Nat):Int):=by
  show IntKind.i64.wrap ((BitVec.ofInt 64 c &&& BitVec.ofInt 64 127).toNat:Int) = _;rw[Qfg,Hf (SJ (lt _ lc)),Hf ⟨by decide,by decide⟩];have h1:(c:Int).toNat &&& (127:Int).toNat=c &&& 127:=by rw[Qae];rfl
  rw[h1];have h2:=Qcw (n:=c) (m:=127);exact Aj _ (by omega) (by omega)
 rw[fin,show (127:Nat)=2 ^ 7-1 from rfl,Qfo];unfold Pa;rw[Qae,hc];show ((c%128:Nat):Int) = _;rw[hm]
theorem AgI {x} (c:x%2=0):x ||| 1=x+1:=by apply Qfm;intro j;rw[Qey];cases j<;>grind
end Go.Den
namespace Go.Den
open Go.RowKit
def Cq {σ A:Type} (c:σ->Int) (Inv:σ->Prop) (P:A->Prop) (k:Int):Step σ A->Prop
 |.next d=>c d=k+1/\Inv d
 |.done a=>P a
def LI {σ A:Type} (P:A->Prop):Step σ A->Prop
 |.next _=>False
 |.done a=>P a
theorem Ap {σ A:Type} {bad:A} {f:σ->Step σ A} (c:σ->Int) (n:Int) (Inv:σ->Prop) (P:A->Prop) {s0:σ} (E:n<18446744073709551616) (p:0<=c s0) (t:c s0<=n) (h0:Inv s0)
 (d:∀s,Inv s->0<=c s->c s<n->Cq c Inv P (c s) (f s)) (g:∀s,Inv s->c s=n->LI P (f s)):P (iter bad f Am s0):=by
 refine Db (λs=>Inv s/\0<=c s/\c s<=n) (λs=>(n-c s).toNat) P ?_ Am s0 ⟨h0,p,t⟩ (by rw[Eh];omega);rintro s ⟨v,h1,I⟩;by_cases h:c s<n
 ·have:=d s v h1 h;cases o:f s with
  |next y=>rw[o] at this;exact ⟨⟨this.2,by have:=this.1;omega,by have:=this.1;omega⟩,by have:=this.1;show (n-c y).toNat<(n-c s).toNat;omega⟩
  |done a=>rw[o] at this;exact this
 ·have:=g s v (by omega);cases o:f s with
  |next y=>rw[o] at this;exact this.elim
  |done a=>rw[o] at this;exact this
theorem Pe {α β l i} {f:Nat->α->β} (h0:0<=i):idx (l.mapIdx f) i=(idx l i).map (f i.toNat):=by rw[AY h0,AY h0,List.getElem?_mapIdx]
theorem HO {α β l} {f:Nat->α->β}:Aa (l.mapIdx f)=Aa l:=by unfold Aa<;>simp_all
theorem PD {α β l i} {f:α->β}:idx (l.map f) i=(idx l i).map f:=by unfold idx<;>grind
theorem HN {α β l} {f:α->β}:Aa (l.map f)=Aa l:=by unfold Aa<;>simp_all
theorem Tz {α}:Aa ([]:List α)=0:=rfl
theorem CW {α} a (l:List α):Aa (a::l)=Aa l+1:=by unfold Aa<;>simp_all
theorem VV {α x} {l:List α} {b:Nat} (h:(Aa l+1)*b<=70368744177664):(true&&AA (Aa l+Aa (x::([]:List α))) b)=true:=by rw[Qap];exact room_le (by rw[CW,Tz];simp_all)
theorem C6 {n} {b:Nat} (h0:0<=n) (h:(b:Int)*n<=140737488355328):(decide (0<=n)&&(decide (n<=n)&&B5 n b))=true:=by rw[WH h];simp[h0]
end Go.Den
namespace Go.Den
open Go.RowKit
theorem Gj {σ A} k (body:(σ->A)->A):CT k body=body k:=id rfl
def AllOK (P:Program) (il:List (Nat×Inl)):Prop:=∀e∈il,FnOK P e.1 e.2
theorem AllOK.nil {P}:AllOK P []:=λ_ h=>by cases h
theorem AllOK.cons {P f I il} (h:FnOK P f I) (d:AllOK P il):AllOK P ((f,I)::il):=λe c=>by
 rcases List.mem_cons.1 c with rfl|c
 ·exact h
 ·exact d e c
theorem AllOK.inl {P V l il} (h:AllOK P il):∀f I,(mkC P V l il).inl f=some I->FnOK (mkC P V l il).P f I:=λf I c=>h (f,I) (Ox c)
def dE:Operand:=.const (.slice none 0 0)
structure Aag (P:Program) (fn:Func) (t e:TypeId) (rest:Code):Prop where
 under:P.underlying t=some (.slice e)
 res:fn.results.toList=[.tmp 2]
 name:(fn.name== "runtime.NumGoroutine")=false
 dsts:CU fn.ntmps rest=true
 size:8<=fn.ntmps
 body:∃(i0 i1 i2:Nat) (o0 o1 o2 o3:Oper),fn.body=some (.seq (.region i0 #[o0] false) (.seq (.seq (.region i1 #[o1,o2] false) (.cond (.tmp 4) (.seq (.region i2 #[o3] false) .ret) .skip)) rest)) /\
  (o0.dst=some 2/\o0.op=.assign dE/\o0.guard=none)/\(o1.dst=some 3/\o1.op=.move (.tmp 0)/\o1.guard=none) /\
  (o2.dst=some 4/\(∃t',o2.op=.binOp .eql t (.tmp 3) dE t')/\o2.guard=none)/\o3.dst=some 2/\o3.op=.assign dE/\o3.guard=none
theorem AeE {P t e t' o ad n c} (g:P.underlying t=some (.slice e)) (h:o.op=.binOp .eql t (.tmp 3) dE t') {a:Act} (p:a.eval (.tmp 3)=.slice ad n c) w :
 (execOp a.eval o).run P w=.ok (.value (.bool ad.isNone)) w:=by
 have v:a.eval dE=.slice none 0 0:=rfl;obtain⟨d,E⟩:∃d,Op.maxDepth=d+1:=⟨9999,rfl⟩;have I:∀y:Value,Op.equal t (.slice ad n c) y=Op.equalIn (d+1) t (.slice ad n c) y:=λy=>by unfold Op.equal;rw[E]
 cases ad<;>simp[execOp,h,p,v,eqGuard,binOp,I,Op.equalIn,Sem.run_bind,run_underlying g,Result.andThen_ok]
theorem ON {P ops Q i rest a w o v} (c:ops[i]?=some o) (hg:o.guard=none) (d:(execOp a.eval o).run P w=.ok (.value v) w) (h:wpOps P ops Q rest (a.put o.dst v) w):wpOps P ops Q (i::rest) a w:=by
 simp only[wpOps,c];have g:Region.wanted o (yielded ops a.tmps)=true:=by simp[Region.wanted,hg]
 rw[if_pos g];refine .inl ?_;unfold Oper.wp;rw[d];exact h
theorem Jr {d s v} {a:Act} (h:d<a.tmps.size):(a.put (some d) v).tmps.getD s undef=if d=s then v else a.tmps.getD s undef:=by simp only[NO,TL];by_cases e:d=s<;>simp_all
theorem C2 {P V f fn t e rest} (hV:jK V) (hm:P.follows .mixedOrders=true) {T:Ty} {g:List T.interp->Option (List T.interp)} (hf:P.funcs[f]?=some fn) (hc:Aag P fn t e rest)
 (h:∀l:List T.interp,Bi (mkC P V []) (EN (mkC P V []) 0) {} rest {renv:=[],rheap:=[]} {env:=CP 0 [.v (.c (.sl T l))],heap:=[],next:=0} (NA (mkC P V []) (AG fn {}) [.slice T] true) none=g l)
 (h0:∀y,g []=some y->y=[]):BM P V f (spP [.slice T] [.slice T] g true) where
 enters:=λargs w=>by
  obtain⟨i0,i1,i2,o0,o1,o2,o3,hb,_⟩:=hc.body;have h3':¬fn.name= "runtime.NumGoroutine":=by simpa using hc.name
  simp[callFunc,hf,hb,h3']
 tot:=λg' hg=>by cases hg
 calls:=λw F vals x y hVw hF hargs hy=>by
  have hy:= hy;obtain⟨i0,i1,i2,o0,o1,o2,o3,hb,⟨d0,p0,q0⟩,⟨d1,p1,q1⟩,⟨d2,⟨t',p2⟩,q2⟩,⟨d3,p3,q3⟩⟩:=hc.body;obtain⟨us,hreads,hvals⟩:∃us,Reads w F (.slice T) x us/\vals=[valOf (.slice T) us]:=hargs;have hrd:=hreads;obtain⟨ad,cap,hus,hlen,hmax,hrow⟩:=hreads;have hv0:vals=[.slice ad x.length cap]:=by rw[hvals,hus];rfl
  subst hv0;have hC:DG (mkC P V []) ⟨w,λ_=>False,w.heap.size,F,[]⟩:=⟨AllMeet.nil.tbl,λw' hb=>hV w w' hb hVw,λ_ _ h=>(by cases h),λ_ _ h=>(by cases h),λ_ _ h=>(by cases h),λ_ _ h=>by cases h⟩;refine calls_of_wp hf hb ?_;have hsz:8<=((#[Value.slice ad x.length cap]:Array Value)++Array.replicate (fn.ntmps-(#[Value.slice ad x.length cap]:Array Value).size) undef).size:=by have:=hc.size<;>grind
  have hg0:((#[Value.slice ad x.length cap]:Array Value)++Array.replicate (fn.ntmps-(#[Value.slice ad x.length cap]:Array Value).size) undef).getD 0 undef=.slice ad x.length cap:=by simp[Qed]
  have hsz2:fn.ntmps<=((#[Value.slice ad x.length cap]:Array Value)++Array.replicate (fn.ntmps-(#[Value.slice ad x.length cap]:Array Value).size) undef).size:=by simp;omega
  have htl:([Value.slice ad x.length cap]:List Value).toArray=#[Value.slice ad x.length cap]:=rfl;rw[htl];generalize hT0:(#[Value.slice ad x.length cap]:Array Value)++Array.replicate (fn.ntmps-(#[Value.slice ad x.length cap]:Array Value).size) undef=tm at hsz hg0 hsz2;refine wp_seq (wp_region ?_);refine ON (o:=o0) rfl q0 (v:=.slice none 0 0) (by simp[execOp,p0];rfl) ?_;show Exit.then _ _ .normal _ _;simp only[Exit.then];rw[d0];refine wp_seq (wp_seq (wp_region ?_));have hg1:((⟨tm,[]⟩:Act).put (some 2) (.slice none 0 0)).eval (.tmp 0)=.slice ad x.length cap:=by show ((⟨tm,[]⟩:Act).put (some 2) (.slice none 0 0)).tmps.getD 0 undef = _;rw[Jr (by grind),if_neg (by decide)];exact hg0
  refine ON (o:=o1) rfl q1 (v:=.slice ad x.length cap) (by simp[execOp,p1,hg1]) ?_;rw[d1];have hg3:(((⟨tm,[]⟩:Act).put (some 2) (.slice none 0 0)).put (some 3) (.slice ad x.length cap)).eval (.tmp 3)=.slice ad x.length cap:=by show (((⟨tm,[]⟩:Act).put (some 2) (.slice none 0 0)).put (some 3) (.slice ad x.length cap)).tmps.getD 3 undef = _;rw[Jr (by rw[CH]<;>grind),if_pos rfl]
  refine ON (o:=o2) (i:=1) (rest:=[]) rfl q2 (v:=.bool ad.isNone) (AeE hc.under p2 hg3 w) ?_;rw[d2];show Exit.then _ _ .normal _ _;simp only[Exit.then];generalize ha3:(((⟨tm,[]⟩:Act).put (some 2) (.slice none 0 0)).put (some 3) (.slice ad x.length cap)).put (some 4) (.bool ad.isNone)=a3;have s3:a3.tmps.size=tm.size:=by rw[<-ha3,CH,CH,CH]
  have e3:a3.defers=[]:=by rw[<-ha3,put_defers,put_defers,put_defers]
  have g0:a3.tmps.getD 0 undef=.slice ad x.length cap:=by rw[<-ha3,Jr (by rw[CH,CH]<;>grind),if_neg (by decide),Jr (by rw[CH]<;>grind),if_neg (by decide),Jr (by grind),if_neg (by decide)];exact hg0
  have g4:a3.eval (.tmp 4)=.bool ad.isNone:=by show a3.tmps.getD 4 undef = _;rw[<-ha3,Jr (by rw[CH,CH]<;>grind),if_pos rfl]
  cases ad with
  |none =>
   refine wp_cond_true g4 (wp_seq (wp_region ?_));refine ON (o:=o3) (i:=0) (rest:=[]) rfl q3 (v:=.slice none 0 0) (by simp[execOp,p3];rfl) ?_;rw[d3];show Exit.then _ _ .normal _ _;simp only[Exit.then];refine wp_ret ?_;simp only[Exit.then];have hx:x=([]:List T.interp):=by
    rcases hrow with h0|⟨b,off,cells,hh,_⟩
    ·exact Qad h0
    ·cases hh
   subst hx;have hyn:=h0 y hy;subst hyn;refine ⟨by rw[put_defers];exact e3,.slice none 0 0,?_,?_⟩
   ·have:=Gy (P:=P) (w:=w) (fn:=fn) (tmps:=(a3.put (some 2) (.slice none 0 0)).tmps) hc.res (vs:=[.slice none 0 0]) (.cons (by show (rv _ (.tmp 2)).run P w = _;simp only[rv];rw[Jr (by rw[s3];omega),if_pos rfl];simp) .nil);exact this
   ·exact ⟨[.slice none 0 0],rfl,Below.refl _ _,.slice none 0 0,none,rfl,none,0,rfl,Qaa _,Qaw _,.inl ⟨rfl,rfl⟩⟩
  |some ad =>
   refine wp_cond_false g4 (wp_skip ?_);show Exit.then _ _ .normal _ _;simp only[Exit.then];have hB:∀k,¬(⟨w,λ_=>False,w.heap.size,F,[]⟩:Base).D k:=λ_ hk=>hk;have hrel:BW w F (λ_=>none) (.v (.c (.sl T x))) (.slice (some ad) x.length cap):=by
    have hall:All2 (BW w F λ_=>none) (Cy [.slice T] x) [.slice (some ad) x.length cap]:=Dn ⟨us,hrd,hvals⟩;cases hall with
    |cons h1 _=>exact h1
   have hM:RelM ⟨w,λ_=>False,w.heap.size,F,[]⟩ {renv:=[],rheap:=[]} {env:=CP 0 [.v (.c (.sl T x))],heap:=[],next:=0} (λ_=>none) F w :=
    {heap:=λk o hk=>by simp[St.obj,assoc] at hk
     own:=λk o hk=>by simp[St.obj,assoc] at hk
     inj:=λk k' o o' hk=>by simp[St.obj,assoc] at hk
     foreign:=λb hb=>hb,flt:=λ_ _=>rfl,dom:=(λk p hk=>by cases hk),below:=Below.refl _ _,bsize:=Qaa _,obound:=hF};have hat:At ⟨w,λ_=>False,w.heap.size,F,[]⟩ {renv:=[],rheap:=[]} fn.ntmps (λ_=>none) F w {env:=CP 0 [.v (.c (.sl T x))],heap:=[],next:=0} (λ_=>none) F a3 w :=
    ⟨hM,λs v hs=>by
      simp only[St.get,UH,Qgk,if_false,Qeu] at hs;cases s with
      |zero =>cases hs;rw[g0];exact hrel
      |succ s=>simp[assoc] at hs,e3,by rw[s3];exact hsz2,μle.refl _,Keeps.refl _ _,λk p hk=>by cases hk⟩;refine Cc (C:=mkC P V []) (B:=⟨w,λ_=>False,w.heap.size,F,[]⟩) (Good:=λa=>a=some y) (bad:=none) hC hB (EE hC hB hm AllOK.nil.inl 0) (JP hC hB hm) {} rest hc.dsts (by simp) hat ⟨λs hs=>absurd rfl hs,λk hk=>absurd rfl hk,λk hk=>absurd rfl hk⟩ (λe' st' μ' O' a' w' h1 h2 h3=>?_) ((h x).trans hy);obtain⟨vs,ks,hvs,hyk,hfa⟩:=L0 h3;obtain⟨us',k1,k2⟩:=Eu (P:=P) h2.mem h2.env hvs;have fin:a'.defers=[]/\∃v,(results fn a'.tmps).run P w'=.ok v w'/\∃rs,Ending.returned v=.returned (Cp rs)/\Below w.heap.size w w'/\Gd w.heap.size w' F true [.slice T] y rs:=by simp only[LL,Qab] at hfa;obtain⟨hform,hnd⟩:=hfa;exact ⟨h2.defers,_,Gy rfl k1,us',rfl,h2.mem.below,Vh h2.mem k2 hyk hform (nodup_iff hnd)⟩
   cases e' with
   |exit i=>cases h3
   |goto i=>cases h3
   |normal=>exact fin
   |ret=>exact fin
end Go.Den
namespace Go.Den
open Go.RowKit
theorem fE {A bad bad2 F} {B:Int->Int->Step Int (Step Int A)} n (m:Int->Int) (Q:Int->Int->Prop) yes no (P:A->Prop) (p:0<=n) (hn:n<=1000000) (X:∀a,0<=a->a<n->0<=m a/\m a<=1000000)
 (hF:∀a,0<=a->a<n->(F a=.next (wr .i64 (a+1))/\∀b,0<=b->b<m a->¬Q a b)\/F a=iter bad2 (B a) Am 0/\∀b,0<=b->b<m a->Q a b/\B a b=.done (.done yes)\/¬Q a b/\B a b=.next (wr .i64 (b+1))) (t:F n=.done no)
 (v:∀a,0<=a->a<n->B a (m a)=.done (.next (wr .i64 (a+1))))
 (Y:(∃a b,0<=a/\a<n/\0<=b/\b<m a/\Q a b)->P yes) (y:(∀a b,0<=a->a<n->0<=b->b<m a->¬Q a b)->P no):P (iter bad F Am 0):=by
 refine Ap (λa:Int=>a) n (λa=>∀c b,0<=c->c<a->0<=b->b<m c->¬Q c b) P (by omega) (by omega) p λc b h0 h1=>by omega (λa J a0 g=>?_) λa J Z=>?_
 ·have a0:= a0;have g:= g;have E:=X a a0 g;have fin:(∀b,0<=b->b<m a->¬Q a b)->Cq (λa:Int=>a) (λa=>∀c b,0<=c->c<a->0<=b->b<m c->¬Q c b) P a (.next (wr .i64 (a+1)):Step Int A):=λh=>by rw[Aj (a+1) (by omega) (by omega)];refine ⟨rfl,λc b h0 h1 h2 h3=>?_⟩<;>grind
  rcases hF a a0 g with ⟨e,h⟩|⟨e,hB⟩
  ·simp_all
  ·rw[e];refine Ap (λb:Int=>b) (m a) (λb=>∀d,0<=d->d<b->¬Q a d) _ (by omega) (by omega) E.1 λd h0 h1=>by omega (λb hJ b0 o=>?_) λb hJ hb=>?_
   ·have b0:= b0;have o:= o;rcases hB b b0 o with ⟨h,I⟩|⟨h,I⟩
    ·rw[I];exact Y ⟨a,b,a0,g,b0,o,h⟩
    ·rw[I,Aj (b+1) (by omega) (by omega)];refine ⟨rfl,λd h0 h1=>?_⟩;by_cases e:d=b
     ·subst e;exact h
     ·exact hJ d h0 (by omega)
   ·rw[hb,v a a0 g];exact fin λd h0 h1=>hJ d h0 (by omega)
 ·rw[Z,t];exact y λc b h0 h1=>J c b h0 (by omega)
theorem N7 {α β c:Type} {f:α->β->c} {l:List α} {m} {i} {a} {b} (d:idx l i=some a) (g:idx m i=some b):idx (List.zipWith f l m) i=some (f a b):=by rw[AY (Ag d).1] at *<;>grind
theorem Il {α β c:Type} {f:α->β->c} {l:List α} {m} (h:Aa l=Aa m):Aa (List.zipWith f l m)=Aa l:=by unfold Aa at *<;>grind
theorem Fv {α:Type} {l:List α} {i} {a:α} (h:idx l i=some a):l.drop i.toNat=a::l.drop (i+1).toNat:=by have h0:=(Ag h).1;rw[AY h0] at h;obtain⟨c,d⟩:=List.getElem?_eq_some_iff.1 h;rw[List.drop_eq_getElem_cons c,d,show (i+1).toNat=i.toNat+1 by omega]
theorem Tb {α:Type} {l:List α} {i} (h:Aa l<=i):l.drop i.toNat=[]:=List.drop_eq_nil_of_le (by unfold Aa at h;omega)
theorem eZ {α i} (h:0<=i) (x:α):Ay i x++x::[]=Ay (i+1) x:=by unfold Ay;rw[show (i+1).toNat=i.toNat+1 by omega,List.replicate_succ']
theorem AV {α β} {l:List α} {x} {b:Nat} (h:(Aa l+1)*b<=70368744177664):(true&&AA (Aa l+Aa (x::([]:List β))) b)=true:=by rw[Qap];exact room_le (by rw[CW,Tz];simp_all)
theorem UF {x b} (d:As x) (b0:0<=b) (h:b<=31):(Aq .and .u32 (AH .u32 x b) 1==1)=Aw x b:=by
 obtain⟨n,rfl⟩:∃n:Nat,b=n:=⟨b.toNat,by omega⟩;have c:x.toNat >>> n<2 ^ 32:=by rw[Qam];exact Qda (Qfn _ _) (FD d)
 have g:Aq .and .u32 ((x.toNat >>> n:Nat):Int) 1=((x.toNat >>> n &&& 1:Nat):Int):=by have:=Np (QG c) (show As 1 from ⟨by decide,by decide⟩)<;>grind
 rw[NR d n (by omega),g,Nat.and_one_is_mod];apply Bool.eq_iff_iff.2;rw[beq_iff_eq];unfold Aw;rw[Qae,Qfh,Qam]<;>grind
end Go.Den
namespace Go.Den
open Go.RowKit
def mkP (P:Program) (V:World->Prop) (l pl:List (Nat×FW)) (il:List (Nat×Inl)):Ctx:={P:=P,tbl:=λf=>assoc l f,inl:=λf=>assoc il f,V:=V,ptbl:=λf=>assoc pl f}
def AllMeetP (P:Program) (V:World->Prop) (l:List (Nat×FW)):Prop:=∀e∈l,PR P V e.1 e.2
theorem AllMeetP.nil {P V}:AllMeetP P V []:=λ_ h=>by cases h
theorem AllMeetP.cons {P V f sp l} (h:PR P V f sp) (d:AllMeetP P V l):AllMeetP P V ((f,sp)::l):=λe c=>by
 rcases List.mem_cons.1 c with rfl|c
 ·exact h
 ·exact d e c
def AllMeetO (P:Program) (V:World->Prop) (l:List (Nat×FW)):Prop:=∀e∈l,PQ P V e.1 e.2
theorem AllMeetO.nil {P V}:AllMeetO P V []:=λ_ h=>by cases h
theorem AllMeetO.cons {P V f sp l} (h:PQ P V f sp) (d:AllMeetO P V l):AllMeetO P V ((f,sp)::l):=λe c=>by
 rcases List.mem_cons.1 c with rfl|c
 ·exact h
 ·exact d e c
section
variable {P:Program} {V:World->Prop} {l pl:List (Nat×FW)} {il:List (Nat×Inl)} {f:FuncId} {fn:Func} {hs:Hints}
theorem AllMeetP.ptbl (h:AllMeetP P V pl):∀f sp,(mkP P V l pl il).ptbl f=some sp->PR (mkP P V l pl il).P (mkP P V l pl il).V f sp:=λf sp c=>h (f,sp) (Ox c)
end
end Go.Den
namespace Go.Den
open Go.RowKit
set_option linter.unusedSimpArgs false
def R0:RO:={renv:=[],rheap:=[]}
def cD (C:Ctx) (d:Nat) (I p:Inl) (r0 rest:Code) (t s0 s1:Nat) (g h:List Ty) (x:(AO g).interp):Option (AO h).interp :=
 Bi C (EN C d) I.hints r0 R0 {env:=CP 0 (Cy g x),heap:=[],next:=0} (λe st=>match e with
  |.normal=>match st.get R0 s0,st.get R0 s1 with
   |some (.v (.c (.ptr y 0))),some (.v (.c (.ptr k1 0)))=>Bi C (EN C d) I.hints rest R0 (st.put (some t) none) (λe st=>match e with
    |.exit _ | .goto _=>none
    |_=>match st.get R0 s0,st.get R0 s1 with
     |some (.v (.c (.ptr E 0))),some (.v (.c (.ptr J 0)))=>Bi C (EN C d) p.hints p.code R0 {env:=CP 0 [.v (.c (.ptr k1 0)),.v (.c (.ptr y 0))],heap:=st.heap,next:=st.next} (λe o=>match e with
       |.exit _ | .goto _=>none
       |_=>NA C I h false .ret {env:=[(s0,some (.v (.c (.ptr E 0)))),(s1,some (.v (.c (.ptr J 0))))],heap:=o.heap,next:=o.next}) none
     |_,_=>none) none
   |_,_=>none
  |_=>none) none
theorem uD {P ops Q i rest a w o d} (c:ops[i]?=some o) (hg:o.guard=none) (g:(execOp a.eval o).run P w=.ok (.defer d) w) (h:wpOps P ops Q rest ({a with defers:=d::a.defers}.put o.dst undef) w):wpOps P ops Q (i::rest) a w:=by
 simp only[wpOps,c];have p:Region.wanted o (yielded ops a.tmps)=true:=by simp[Region.wanted,hg]
 rw[if_pos p];refine .inl ?_;unfold Oper.wp;rw[g];exact h
theorem dB {C f g I Ic ts rs i0 i1 a6 o3 o4 rest t s0 s1} {fn}
 (hC:∀f sp,C.tbl f=some sp->BM C.P C.V f sp) (hP:HE C) (hV:∀w w',Below w.heap.size w w'->C.V w->C.V w')
 (hm:C.P.follows .mixedOrders=true) (hI:∀f I,C.inl f=some I->FnOK C.P f I) (hf:FnOK C.P f I) (ay:FnOK C.P g Ic) (ao:Ic.results=[])
 (ai:I.code=.seq (.region i0 a6 false) (.seq (.region i1 #[o3,o4] false) rest)) (h3:o3.dst=some t/\o3.op=.makeFunc (.func g) #[] #[.tmp s1,.tmp s0]/\o3.guard=none)
 (h4:o4.dst=none/\(∃as,o4.op=.defer {callee:=.value (.tmp t),args:=#[],argTypes:=as})/\o4.guard=none) (ht:t<I.ntmps) d
 (h:∀x y,fn x=some y->cD C d I Ic (.region i0 a6 false) rest t s0 s1 ts rs x=some y):BM C.P C.V f (spP ts rs fn) where
 enters:=hf.enters
 tot:=λg hg=>by cases hg
 calls:=λw F ag x y az hF aj hy=>by
  have ah:=h x y hy;unfold cD at ah;obtain⟨gn,k1,k2,k3,k4,k5,k6⟩:=ay;obtain⟨ab,h1,h2,h5,h6,h7,h8⟩:=hf;let B:Base:=⟨w,λ_=>False,w.heap.size,F,[]⟩;have hB:∀k,¬B.D k:=λ_ E=>E;have Y:DG C B:=⟨hC,λw' hb=>hV w w' hb az,hP⟩;have hM:RelM B R0 {env:=[],heap:=[],next:=0} (λ_=>none) F w :=
   {heap:=λk o E=>by simp[St.obj,assoc,R0] at E
    own:=λk o E=>by simp[St.obj,assoc,R0] at E
    inj:=λk k' o o' E=>by simp[St.obj,assoc,R0] at E
    foreign:=λb hb=>hb,flt:=λ_ _=>rfl,dom:=(λk p E=>by cases E),below:=Below.refl _ _,bsize:=Qaa _,obound:=hF};rw[ai] at h2 h8;have aq:CU I.ntmps (.region i0 a6 false)=true/\CU I.ntmps rest=true:=by simp only[CU,Qab] at h8 ⊢<;>simp_all
  refine calls_of_wp_defers h1 h2 ?_;have b2:At B R0 I.ntmps (λ_=>none) F w {env:=CP 0 (Cy ts x),heap:=[],next:=0} (λ_=>none) F {tmps:=ag.toArray++Array.replicate (ab.ntmps-ag.toArray.size) undef,defers:=[]} w :=
   ⟨hM.move (λk o ho=>ho) (Qaa _),OB (R:=R0) (Dn aj) _,rfl,by grind,μle.refl _,Keeps.refl _ _,λk p E=>by cases E⟩;have ak:∀st:St,Apart R0 st:=λst=>⟨λs hs=>absurd rfl hs,λk E=>absurd rfl E,λk E=>absurd rfl E⟩;refine wp_seq ?_;refine Cc (Good:=λa=>a=some y) Y hB (EE Y hB hm hI d) (JP Y hB hm) I.hints _ aq.1 (by simp) b2 (ak _) (λe st1 ad O1 a1 w1 _ g2 g3=>?_) ah;cases e with
  |exit i=>cases g3
  |goto i=>cases g3
  |ret=>cases g3
  |normal =>
  simp only at g3;split at g3;rotate_left
  ·cases g3
  rename_i k0 ae b3 b7;obtain⟨b0,b8,ba⟩:AQ w1 O1 ad (.ptr k0 0) (a1.tmps.getD s0 undef):=(g2.env s0 _ b3);obtain⟨Z,bb,bc⟩:AQ w1 O1 ad (.ptr ae 0) (a1.tmps.getD s1 undef):=(g2.env s1 _ b7);show Exit.then _ _ .normal _ _;simp only[Exit.then];refine wp_seq (wp_region ?_);have al:∀s,a1.eval (.tmp s)=a1.tmps.getD s undef:=λs=>rfl;refine ON (o:=o3) rfl h3.2.2 (v:=.func (.func g) #[] #[.pointer (some ⟨Z,0,none⟩),.pointer (some ⟨b0,0,none⟩)]) (by simp[execOp,h3.2.1,Instr.makeFunc,al,ba,bc]) ?_;obtain⟨as,bd⟩:=h4.2.1;have ar:= Qac ht g2.size;have bf:(a1.put o3.dst (.func (.func g) #[] #[.pointer (some ⟨Z,0,none⟩),.pointer (some ⟨b0,0,none⟩)])).eval (.tmp t)=.func (.func g) #[] #[.pointer (some ⟨Z,0,none⟩),.pointer (some ⟨b0,0,none⟩)]:=by rw[h3.1];show (a1.put (some t) _).tmps.getD t undef = _;rw[Jr ar,if_pos rfl]
  refine uD (o:=o4) rfl h4.2.2 (d:={target:=.fn (.func g) #[.pointer (some ⟨Z,0,none⟩),.pointer (some ⟨b0,0,none⟩)],args:=#[]}) (by simp[execOp,bd,resolve,bf,Deferred.ofValue]) ?_;rw[h3.1,h4.1];show Exit.then _ _ .normal _ _;simp only[Exit.then];generalize bg:({target:=.fn (.func g) #[.pointer (some ⟨Z,0,none⟩),.pointer (some ⟨b0,0,none⟩)],args:=#[]}:Deferred)=dd;generalize bn:(Value.func (.func g) #[] #[.pointer (some ⟨Z,0,none⟩),.pointer (some ⟨b0,0,none⟩)])=fv;have au:At {B with dfr:=[dd]} R0 I.ntmps ad O1 w1 (st1.put (some t) none) ad O1 ({ (a1.put (some t) fv) with defers:=dd::(a1.put (some t) fv).defers}.put none undef) w1 :=
   ⟨(TR [dd]).1 (g2.mem.move (λk o ho=>ho) (Qaa _)),by
     have:=Ys (d:=some t) (x:=none) (v:=fv) g2.env (λy hy=>by cases hy) (λt' bh=>by cases bh;exact ar);exact this,by
     show dd::(a1.put (some t) fv).defers=[dd];rw[put_defers,g2.defers],by
     show I.ntmps<=(TL a1.tmps (some t) fv).size;simp only[TL,Array.size_setIfInBounds];exact g2.size,μle.refl _,Keeps.refl _ _,λk p E=>(g2.mem.dom k p E).elim id (λh=>absurd h (hB k))⟩;have a7:DG C {B with dfr:=[dd]}:=Y;have an:= hB;refine Cc (Good:=λa=>a=some y) a7 an (EE a7 an hm hI d) (JP a7 an hm) I.hints _ aq.2 (by simp) au (ak _) (λe st' μ' O' a' w' _ g4 g5=>?_) g3;have fin:(match st'.get R0 s0,st'.get R0 s1 with
   |some (.v (.c (.ptr j0 0))),some (.v (.c (.ptr j1 0)))=>Bi C (EN C d) Ic.hints Ic.code R0 {env:=CP 0 [.v (.c (.ptr ae 0)),.v (.c (.ptr k0 0))],heap:=st'.heap,next:=st'.next} (λe J=>match e with
     |.exit _ | .goto _=>none
     |_=>NA C I rs false .ret {env:=[(s0,some (.v (.c (.ptr j0 0)))),(s1,some (.v (.c (.ptr j1 0))))],heap:=J.heap,next:=J.next}) none
   |_,_=>none)=some y->Leaves C.P ab a'.tmps (λe w'=>∃X,e=.returned (Cp X)/\Below w.heap.size w w'/\Gd w.heap.size w' F false rs y X) a'.defers .returning w':=λg5=>by
   split at g5
   rotate_left
   ·cases g5
   rename_i j0 j1 bj bk
   rw[g4.defers,<-bg]
   refine leaves_cons (λh=>by cases h) (by have:=(FnOK.enters (P:=C.P) (f:=g) (I:=Ic) ⟨gn,k1,k2,k3,k4,k5,k6⟩) #[.pointer (some ⟨Z,0,none⟩),.pointer (some ⟨b0,0,none⟩)] w';simpa[invoke] using this) ?_
   refine CallsD.mono (callsD_of_wp (R:=λe w2=>∃v,e=.returned v/\Leaves C.P ab a'.tmps (λe w'=>∃X,e=.returned (Cp X)/\Below w.heap.size w w'/\Gd w.heap.size w' F false rs y X) [] .returning w2) k1 k2 ?_) (λe u' w2 ⟨hu,v,al,hl⟩=>by subst al;subst hu;exact hl)
   have av:At B R0 Ic.ntmps μ' O' w' {env:=CP 0 [.v (.c (.ptr ae 0)),.v (.c (.ptr k0 0))],heap:=st'.heap,next:=st'.next} μ' O' {tmps:=#[Value.pointer (some ⟨Z,0,none⟩),.pointer (some ⟨b0,0,none⟩)]++Array.replicate (gn.ntmps-(#[Value.pointer (some ⟨Z,0,none⟩),.pointer (some ⟨b0,0,none⟩)]:Array Value).size) undef,defers:=[]} w' :=
    ⟨((TR [dd]).2 g4.mem).move (λk o ho=>ho) (Qaa _),OB (R:=R0) (us:=[.pointer (some ⟨Z,0,none⟩),.pointer (some ⟨b0,0,none⟩)]) (show All2 (BW w' O' μ') [.v (.c (.ptr ae 0)),.v (.c (.ptr k0 0))] [.pointer (some ⟨Z,0,none⟩),.pointer (some ⟨b0,0,none⟩)] from .cons ⟨Z,g4.le _ _ bb,rfl⟩ (.cons ⟨b0,g4.le _ _ b8,rfl⟩ .nil)) _,rfl,by rw[k3];simp;omega,μle.refl _,Keeps.refl _ _,λk p E=>(g4.mem.dom k p E).elim id (λh=>absurd h (hB k))⟩
   refine Cc (C:=C) (B:=B) (Good:=λa=>a=some y) (bad:=none) Y hB (EE Y hB hm hI d) (JP Y hB hm) Ic.hints _ k6 (by simp) av (ak _) (λe2 J af O2 a2 w2 _ g6 g7=>?_) g5
   have a8:NA C I rs false .ret {env:=[(s0,some (.v (.c (.ptr j0 0)))),(s1,some (.v (.c (.ptr j1 0))))],heap:=J.heap,next:=J.next}=some y->∃v,(results gn a2.tmps).run C.P w2=.ok v w2/\∃v',Ending.returned v=.returned v'/\Leaves C.P ab a'.tmps (λe w'=>∃X,e=.returned (Cp X)/\Below w.heap.size w w'/\Gd w.heap.size w' F false rs y X) [] .returning w2:=λE=>by
    have aa:RelM B R0 {env:=[(s0,some (.v (.c (.ptr j0 0)))),(s1,some (.v (.c (.ptr j1 0))))],heap:=J.heap,next:=J.next} af O2 w2:=g6.mem.move (λk o ho=>ho) (Qaa _);have bl:CN R0 {env:=[(s0,some (.v (.c (.ptr j0 0)))),(s1,some (.v (.c (.ptr j1 0))))],heap:=J.heap,next:=J.next} af O2 w2 a'.tmps:=λs v hs=>by
     have up:∀s j,st'.get R0 s=some (.v (.c (.ptr j 0)))->BW w2 O2 af (.v (.c (.ptr j 0))) (a'.tmps.getD s undef):=λs j hj=>D3 g6.keeps g6.le _ (g4.env s _ hj);simp only[St.get,AE] at hs;by_cases e0:s0=s
     ·rw[if_pos e0] at hs;cases hs;rw[<-e0];exact up s0 j0 bj
     ·rw[if_neg e0] at hs;by_cases e1:s1=s
      ·rw[if_pos e1] at hs;cases hs;rw[<-e1];exact up s1 j1 bk
      ·rw[if_neg e1] at hs;simp[assoc,R0] at hs
    obtain⟨vs,ks,bm,aw,_⟩:=L0 E;obtain⟨us,m1,m2⟩:=Eu aa bl bm;have ax:∀k∈ks,∀p b,af k=some p->p.block=some b->¬F b/\b<w2.heap.size:=λk E p b hp hb=>by obtain⟨o,ho⟩:=Gn aw k E;obtain⟨_,q2,q3⟩:=aa.own k o ho p b hp hb;exact ⟨λhh=>q2.2 hh,q3⟩
    refine ⟨_,Gy (by rw[k4,ao]) .nil,_,rfl,_,Gy h6 m1,us,rfl,aa.below,?_⟩;unfold Gd;exact Cm ⟨Qaa _,λb _ hb=>⟨λhh=>hb (aa.foreign b hh),rfl⟩⟩ aa.heap aw m2 ax
   cases e2 with
   |exit i=>cases g7
   |goto i=>cases g7
   |normal=>exact ⟨g6.defers,a8 g7⟩
   |ret=>exact ⟨g6.defers,a8 g7⟩
  cases e with
  |exit i=>cases g5
  |goto i=>cases g5
  |normal=>exact fin g5
  |ret=>exact fin g5
def S1 (x:Int×Int):Option (Int×Int):=if 0<=wr .i64 (x.2*64)/\wr .i64 (x.2*64)+64<=x.1 then some (wr .i64 (x.2*64),64) else none
structure AfT (P:Program) (fn:Func) (t0 ts te:TypeId) (inf:TypeInfo):Prop where
 under:P.underlying ts=some (.slice te)
 elem:P.info? te=some inf
 one:inf.size=1
 agg:El P ts=some false
 fld:Mm P t0 0=some (0,ts)
 res:fn.results.toList=[.tmp 4]
 name:(fn.name== "runtime.NumGoroutine")=false
 size:11<=fn.ntmps
 body:∃(i0 i1:Nat) (o0 o1 o2 o3 o4 o5 o6 o7 o8:Oper),fn.body=some (.seq (.region i0 #[o0,o1] false) (.seq (.region i1 #[o2,o3,o4,o5,o6,o7,o8] false) .ret)) /\
  (o0.dst=some 2/\o0.op=.box t0 (.tmp 0)/\o0.guard=none)/\(o1.dst=some 4/\o1.op=.assign dE/\o1.guard=none)/\(o2.dst=some 5/\o2.op=.fieldAddr t0 (.tmp 2) 0/\o2.guard=none) /\
  (o3.dst=some 6/\o3.op=.load ts (.tmp 5)/\o3.guard=none)/\(o4.dst=some 7/\o4.op=.move (.tmp 1)/\o4.guard=none) /\
  (o5.dst=some 8/\(∃t t',o5.op=.binOp .mul t (.tmp 7) (.const (.int .i64 64)) t')/\o5.guard=none)/\(o6.dst=some 9/\o6.op=.slice ts (.tmp 6) (some (.tmp 8)) none none/\o6.guard=none) /\
  (o7.dst=some 10/\o7.op=.slice ts (.tmp 9) none (some (.const (.int .i64 64))) none/\o7.guard=none)/\o8.dst=some 4/\o8.op=.assign (.tmp 10)/\o8.guard=none
theorem I2 {P ops Q i rest a w w' o v} (c:ops[i]?=some o) (hg:o.guard=none) (d:(execOp a.eval o).run P w=.ok (.value v) w') (h:wpOps P ops Q rest (a.put o.dst v) w'):wpOps P ops Q (i::rest) a w:=by
 simp only[wpOps,c];have g:Region.wanted o (yielded ops a.tmps)=true:=by simp[Region.wanted,hg]
 rw[if_pos g];refine .inl ?_;unfold Oper.wp;rw[d];exact h
theorem Qe {d s v} {a:Act} (h:d<a.tmps.size):(a.put (some d) v).eval (.tmp s)=if d=s then v else a.eval (.tmp s):=Jr h
theorem Ae2 {P t k} m n w:(binOp .mul t (.int k m) (.int k n)).run P w=.ok (.int k (wr k (m*n))) w:=by simp only[binOp,Op.intArith];simp;rfl
theorem Abn {P t x y u v w}:(eqGuard .mul t x y u v).run P w=.ok () w:=by simp[eqGuard]
theorem Acx {P V f fn t0 ts te inf} (hf:P.funcs[f]?=some fn) (hc:AfT P fn t0 ts te inf):PQ P V f (spP [.int .i64,.int .i64] [.int .i64,.int .i64] S1) where
 enters:=λargs w=>by
  obtain⟨i0,i1,o0,o1,o2,o3,o4,o5,o6,o7,o8,hb,_⟩:=hc.body;have h3':¬fn.name= "runtime.NumGoroutine":=by simpa using hc.name
  simp[callFunc,hf,hb,h3']
 tot:=λg' hg=>by cases hg
 calls:=by
  intro w F ad len cap vals (n:Int) y hVw hF hl hmx hcap hargs hy;obtain⟨i0,i1,o0,o1,o2,o3,o4,o5,o6,o7,o8,hb,⟨d0,p0,q0⟩,⟨d1,p1,q1⟩,⟨d2,p2,q2⟩,⟨d3,p3,q3⟩,⟨d4,p4,q4⟩,⟨d5,⟨t,t',p5⟩,q5⟩,⟨d6,p6,q6⟩,⟨d7,p7,q7⟩,⟨d8,p8,q8⟩⟩:=hc.body;obtain⟨us,⟨hus,hin⟩,hvals⟩:=hargs;subst hus;have hvals:vals=[.int .i64 n]:=hvals;subst hvals;have hy:S1 ((len:Int),n)=some y:=hy;unfold S1 at hy;split at hy;rotate_left
  ·cases hy
  rename_i hle;cases hy;simp only at hle ⊢;generalize hlo:wr .i64 (n*64)=lo at hle ⊢;refine ⟨⟨hle.1,by omega,hle.2⟩,?_⟩;refine calls_of_wp hf hb ?_;have hsz:11<=((#[Value.agg #[.slice ad len cap],.int .i64 n]:Array Value)++Array.replicate (fn.ntmps-(#[Value.agg #[.slice ad len cap],.int .i64 n]:Array Value).size) undef).size:=by have:=hc.size<;>grind
  have hg0:((#[Value.agg #[.slice ad len cap],.int .i64 n]:Array Value)++Array.replicate (fn.ntmps-(#[Value.agg #[.slice ad len cap],.int .i64 n]:Array Value).size) undef).getD 0 undef=.agg #[.slice ad len cap]:=by simp[Qed]
  have hg1:((#[Value.agg #[.slice ad len cap],.int .i64 n]:Array Value)++Array.replicate (fn.ntmps-(#[Value.agg #[.slice ad len cap],.int .i64 n]:Array Value).size) undef).getD 1 undef=.int .i64 n:=by simp[Qed]
  have htl:([Value.agg #[.slice ad len cap],.int .i64 n]:List Value).toArray=#[Value.agg #[.slice ad len cap],.int .i64 n]:=rfl;rw[htl];generalize hT0:(#[Value.agg #[.slice ad len cap],.int .i64 n]:Array Value)++Array.replicate (fn.ntmps-(#[Value.agg #[.slice ad len cap],.int .i64 n]:Array Value).size) undef=tm at hsz hg0 hg1;have z2:2<tm.size:=by omega
  have z4:4<tm.size:=by omega
  have z5:5<tm.size:=by omega
  have z6:6<tm.size:=by omega
  have z7:7<tm.size:=by omega
  have z8:8<tm.size:=by omega
  have z9:9<tm.size:=by omega
  have z10:10<tm.size:=by omega
  generalize ha:(⟨tm,[]⟩:Act)=a0;have s0:a0.tmps.size=tm.size:=by rw[<-ha]
  have e0:a0.eval (.tmp 0)=.agg #[.slice ad len cap]:=by rw[<-ha];exact hg0
  have e1:a0.eval (.tmp 1)=.int .i64 n:=by rw[<-ha];exact hg1
  have df:a0.defers=[]:=by rw[<-ha]
  refine wp_seq (wp_region ?_);have hbox:(w.alloc (.cells #[.slice ad len cap] t0)).cell? ⟨w.heap.size,0,none⟩=some (.slice ad len cap):=by have h:=heap_alloc_new w (.cells #[.slice ad len cap] t0);unfold World.cell?<;>grind
  refine I2 (o:=o0) rfl q0 (v:=.pointer (some ⟨w.heap.size,0,none⟩)) (w':=w.alloc (.cells #[.slice ad len cap] t0)) (by simp[execOp,p0,e0,Instr.box,newVar,newRow,Value.cells]) ?_;rw[d0];refine I2 (o:=o1) rfl q1 (w':=w.alloc (.cells #[.slice ad len cap] t0)) (by simp[execOp,p1];rfl) ?_;rw[d1];show Exit.then _ _ .normal _ _;simp only[Exit.then];refine wp_seq (wp_region ?_);refine I2 (o:=o2) (i:=0) (rest:=[1,2,3,4,5,6]) rfl q2 (v:=.pointer (some ⟨w.heap.size,0,none⟩)) (w':=w.alloc (.cells #[.slice ad len cap] t0)) (by have:=K6 (P:=P) (w:=w.alloc (.cells #[.slice ad len cap] t0)) hc.fld w.heap.size 0;simp[execOp,p2,Qe,CH,s0,z2,z4,this]) ?_;rw[d2];refine I2 (o:=o3) (i:=1) (rest:=[2,3,4,5,6]) rfl q3 (v:=.slice ad len cap) (w':=w.alloc (.cells #[.slice ad len cap] t0)) (by have:=IT hc.agg hbox;simp[execOp,p3,Qe,CH,s0,z2,z4,z5,this]) ?_;rw[d3];refine I2 (o:=o4) (i:=2) (rest:=[3,4,5,6]) rfl q4 (v:=.int .i64 n) (w':=w.alloc (.cells #[.slice ad len cap] t0)) (by simp[execOp,p4,Qe,CH,s0,z2,z4,z5,z6,e1]) ?_;rw[d4];refine I2 (o:=o5) (i:=3) (rest:=[4,5,6]) rfl q5 (v:=.int .i64 lo) (w':=w.alloc (.cells #[.slice ad len cap] t0)) (by have hk:∀a:Act,a.eval (.const (.int .i64 64))=.int .i64 64:=λ_=>rfl;simp only[execOp,p5,Qe,CH,s0,z2,z4,z5,z6,z7,if_true,hk,Sem.run_bind,Ae2 (t:=t) n 64 _,Abn,Result.andThen_ok,Sem.run_pure,hlo]) ?_;rw[d5];refine I2 (o:=o6) (i:=4) (rest:=[5,6]) rfl q6 (v:=.slice (if cap=lo.toNat then ad else ad.map (·.add (lo.toNat*inf.size))) (len-lo.toNat) (cap-lo.toNat)) (w':=w.alloc (.cells #[.slice ad len cap] t0)) (by have:=FF (P:=P) (w:=w.alloc (.cells #[.slice ad len cap] t0)) (ad:=ad) (len:=len) (cap:=cap) (lo:=some (.int .i64 lo)) (hi:=none) (l:=lo.toNat) (h:=len) hc.under hc.elem ⟨.i64,lo,rfl,hle.1,rfl⟩ rfl (by omega) hl;simp[execOp,p6,Qe,CH,s0,z2,z4,z5,z6,z7,z8,this]) ?_;rw[d6];refine I2 (o:=o7) (i:=5) (rest:=[6]) rfl q7 (v:=.slice (if cap=lo.toNat then ad else ad.map (·.add (lo.toNat*inf.size))) 64 (cap-lo.toNat)) (w':=w.alloc (.cells #[.slice ad len cap] t0)) (by
   have:=FF (P:=P) (w:=w.alloc (.cells #[.slice ad len cap] t0)) (ad:=(if cap=lo.toNat then ad else ad.map (·.add (lo.toNat*inf.size)))) (len:=len-lo.toNat) (cap:=cap-lo.toNat) (lo:=none) (hi:=some (.int .i64 64)) (l:=0) (h:=64) hc.under hc.elem rfl ⟨.i64,64,rfl,by decide,rfl⟩ (by omega) (by omega);have hadd:∀q:Option Addr,(if cap-lo.toNat=0 then q else q.map (·.add (0*inf.size)))=q:=λq=>by
    split
    ·rfl
    ·cases q with
     |none=>rfl
     |some q=>simp[Addr.add]
   rw[hadd] at this;have hk:∀a:Act,a.eval (.const (.int .i64 64))=.int .i64 64:=λ_=>rfl;simp only[execOp,p7,Qe,CH,s0,z2,z4,z5,z6,z7,z8,z9,if_true,Qce,Qai,hk,Sem.run_bind,this,Result.andThen_ok,Sem.run_pure,Qeu]) ?_;rw[d7];refine I2 (o:=o8) (i:=6) (rest:=[]) rfl q8 (v:=.slice (if cap=lo.toNat then ad else ad.map (·.add (lo.toNat*inf.size))) 64 (cap-lo.toNat)) (w':=w.alloc (.cells #[.slice ad len cap] t0)) (by simp[execOp,p8,Qe,CH,s0,z2,z4,z5,z6,z7,z8,z9,z10]) ?_;rw[d8];show Exit.then _ _ .normal _ _;simp only[Exit.then];refine wp_ret ?_;refine ⟨by simp only[put_defers];exact df,.slice (if cap=lo.toNat then ad else ad.map (·.add (lo.toNat*inf.size))) 64 (cap-lo.toNat),?_,?_⟩
  ·refine Gy (P:=P) (fn:=fn) hc.res (vs:=[.slice (if cap=lo.toNat then ad else ad.map (·.add (lo.toNat*inf.size))) 64 (cap-lo.toNat)]) (.cons ?_ .nil);show (rv _ (.tmp 4)).run P _ = _;simp only[rv];rw[Jr (by simp only[CH,s0];exact z4),if_pos rfl];simp
  ·refine ⟨(Below.refl _ _).alloc (Qaa _) _,_,_,rfl,⟨by show 64<=_;omega,by omega⟩,.inr ?_⟩;rcases hcap with hcap|⟨b,hb'⟩
   ·omega
   ·refine ⟨b,hb',?_⟩;rw[if_neg (by omega),hb',hc.one];simp[Addr.add_mid]
end Go.Den
namespace Go.Den
open Go.RowKit
inductive ASpec where
 |t (sp:FW)
 |p (sp:FW)
 |o (sp:FW)
 |s (sp:wC)
 |q (sp:vZ)
def Aaj (P:Program) (V:World->Prop) (f:Nat):ASpec->Prop
 |.t sp=>BM P V f sp
 |.p sp=>PR P V f sp
 |.o sp=>PQ P V f sp
 |.s sp=>j9 P V f sp
 |.q sp=>j8 P V f sp
structure Kn (P:Program) (V:World->Prop) where
 f:Nat
 sp:ASpec
 ok:Aaj P V f sp
class Seat (P:Program) (V:World->Prop):Prop where
 stays:jK V
 mixed:P.follows .mixedOrders=true
section
variable {P:Program} {V:World->Prop}
def lk:List (Kn P V)->Nat->Option ASpec
 |[],_=>none
 |k::r,f=>match Nat.beq k.f f with
  |true=>some k.sp
  |false=>lk r f
theorem yI:∀ {l:List (Kn P V)} {f} {sp},lk l f=some sp->Aaj P V f sp
 |[],_,_,h=>by cases h
 |k::r,f,sp,h=>by
  simp only[lk] at h;split at h
  ·rename_i e;cases h;rw[<-beq_true e];exact k.ok
  ·exact yI h
def KX (l:List (Kn P V)) (il:List (Nat×Inl)):Ctx :=
 {P:=P,V:=V,inl:=λf=>assoc il f
  tbl:=λf=>match lk l f with|some (.t sp)=>some sp|_=>none
  ptbl:=λf=>match lk l f with|some (.p sp)=>some sp|_=>none
  otbl:=λf=>match lk l f with|some (.o sp)=>some sp|_=>none
  stbl:=λf=>match lk l f with|some (.s sp)=>some sp|_=>none
  qtbl:=λf=>match lk l f with|some (.q sp)=>some sp|_=>none}
variable {l:List (Kn P V)} {il:List (Nat×Inl)} {f:Nat} {fn:Func} {hs:Hints}
theorem HM f sp (h:(KX l il).tbl f=some sp):BM P V f sp:=by
 simp only[KX] at h;split at h
 ·rename_i e;cases h;exact yI e
 ·cases h
theorem Gt:HE (KX l il):=by
 refine ⟨λf sp h=>?_,λf sp h=>?_,λf sp h=>?_,λf sp h=>?_⟩ <;>
 ·simp only[KX] at h;split at h
  ·rename_i e;cases h;exact yI e
  ·cases h
theorem HL (h:AllOK P il) f I (c:(KX l il).inl f=some I):FnOK P f I:=h (f,I) (Ox c)
variable (l:List (Kn P V)) (f:Nat) (fn:Func) (hs:Hints) [S:Seat P V]
def kp (c g:List Ty) (t:(AO c).interp->Option (AO g).interp) (fr:Bool:=false) (d:Nat:=1) (il:List (Nat×Inl):=[]) (h:∀x,denote (KX l il) d (AG fn hs) c g fr x=t x:=by intro x;kernel_rfl) (o:FnOK P f (AG fn hs):=by exact Ij (by kernel_rfl)) (p:AllOK P il:=by repeat' first|exact .nil|exact Ij (by kernel_rfl)|apply AllOK.cons):Kn P V :=
 ⟨f,.t (spP c g t fr),Q4 HM Gt S.stays S.mixed (HL p) o d (λx _ v=>(h x).trans v) λ_ hg=>by cases hg⟩
def ku (c o:List Ty) (t:(AO c).interp->Option (AO o).interp) (g:(AO c).interp->(AO o).interp) (e:∀x,Jh c x->t x=some (g x)) (fr:Bool:=false) (d:Nat:=1) (il:List (Nat×Inl):=[]) (h:∀x,denote (KX l il) d (AG fn hs) c o fr x=t x:=by intro x;kernel_rfl) (p:FnOK P f (AG fn hs):=by exact Ij (by kernel_rfl)) (v:AllOK P il:=by repeat' first|exact .nil|exact Ij (by kernel_rfl)|apply AllOK.cons):Kn P V :=
 ⟨f,.t (spT c o g fr),n8 (kp l f fn hs c o t fr d il h p v).ok e⟩
def kpp (t0:Ty) (c:List Ty) (t1:Ty) (g:List Ty) (t:(AO (t0::c)).interp->Option (AO (t1::g)).interp) (d:Nat:=1) (il:List (Nat×Inl):=[]) (h:∀x,WB (KX l il) d (AG fn hs) t0 c t1 g x=t x:=by intro x;kernel_rfl) (o:FnOK P f (AG fn hs):=by exact Ij (by kernel_rfl)) (v:AllOK P il:=by repeat' first|exact .nil|exact Ij (by kernel_rfl)|apply AllOK.cons):Kn P V :=
 ⟨f,.p (spP (t0::c) (t1::g) t),Yh HM Gt S.mixed (HL v) o d (λx _ y=>(h x).trans y) λ_ hg=>by cases hg⟩
def kr (t0:Ty) (c g:List Ty) (t:(AO (t0::c)).interp->Option (AO g).interp) (d:Nat:=1) (il:List (Nat×Inl):=[]) (h:∀x,WC (KX l il) d (AG fn hs) t0 c g x=t x:=by intro x;kernel_rfl) (o:FnOK P f (AG fn hs):=by exact Ij (by kernel_rfl)) (v:AllOK P il:=by repeat' first|exact .nil|exact Ij (by kernel_rfl)|apply AllOK.cons):Kn P V :=
 ⟨f,.p (spP (t0::c) g t true),Yj HM Gt S.stays S.mixed (HL v) o d (λx _ y=>(h x).trans y) λ_ hg=>by cases hg⟩
def ko (t:Ty) (c:List Ty) (t':Ty) (p:List Ty) (g:(AO (.slice t::c)).interp->Option (AO (.slice t'::p)).interp) (d:Nat:=1) (il:List (Nat×Inl):=[]) (h:∀x,cF (KX l il) d (AG fn hs) t c t' p x=g x:=by intro x;kernel_rfl) (v:FnOK P f (AG fn hs):=by exact Ij (by kernel_rfl)) (y:AllOK P il:=by repeat' first|exact .nil|exact Ij (by kernel_rfl)|apply AllOK.cons):Kn P V :=
 ⟨f,.o (spP (.slice t::c) (.slice t'::p) g),Yg HM Gt S.mixed (HL y) v d (λx _ E=>(h x).trans E) λ_ hg=>by cases hg⟩
def ks (c:List Ty) (own:List Nat) (t:Ty) (g:(AO c).interp->Option t.interp) (d:Nat:=1) (il:List (Nat×Inl):=[]) (h:∀x,denoteS (KX l il) d (AG fn hs) c own t x=g x:=by intro x;kernel_rfl) (o:FnOK P f (AG fn hs):=by exact Ij (by kernel_rfl)) (p:AllOK P il:=by repeat' first|exact .nil|exact Ij (by kernel_rfl)|apply AllOK.cons):Kn P V :=
 ⟨f,.s {args:=c,res:=t,own,fn:=g},Yk HM Gt S.stays S.mixed (HL p) o d λx _ v=>(h x).trans v⟩
def kq (size:Nat) (los:List (Nat×Ty)) (c o:List Ty) (g:(AO (AO (VG los)::c)).interp->Option (AO o).interp) (d:Nat:=1) (il:List (Nat×Inl):=[]) (h:∀v x,cG (KX l il) d (AG fn hs) size los c o v x=g x:=by intro v x;kernel_rfl) (p:FnOK P f (AG fn hs):=by exact Ij (by kernel_rfl)) (t:AllOK P il:=by repeat' first|exact .nil|exact Ij (by kernel_rfl)|apply AllOK.cons):Kn P V :=
 ⟨f,.q {size,los,args:=c,res:=o,fn:=g},Yi HM Gt S.mixed (HL t) p d λv x _ y=>(h v x).trans y⟩
end
end Go.Den
namespace Go.Den
open Go.RowKit
section
variable {A:Type} {Good:A->Prop} {bad:A} {C:Ctx} {B:Base} {inl:Gc} {hs:Hints} {N l:Nat} {items:List Item} {rest:Code} {R:RO} {μ0:AI} {O0:Nat->Prop} {w0:World} {K:AExit->St->A}
def ZJ (items:List Item) (rest:Code):List Nat:=items.filterMap A6++Ba rest
def jR (R:RO) (items:List Item) (rest:Code) (st:St) (gone:List Nat):RO:=within R (Bt R st gone (ZJ items rest))
def jV (bad:A) (C:Ctx) (inl:Gc) (hs:Hints) (l:Nat) (items:List Item) (rest:Code) (R:RO) (st:St) (p:Uv (Fh items)) (K:AExit->St->A) (x:(Fh items).interp):Step (Fh items).interp A :=
 Bi C inl hs rest (A:=Step (Fh items).interp A) (jR R items rest st p.gone) (unpack items p.keys x {env:=[],heap:=[],next:=st.next})
  (λe st'=>match e with
    |.normal=>.done (K .normal (leave (Bt R st p.gone (ZJ items rest)) st'))
    |.exit i=>.done (K (.exit i) (leave (Bt R st p.gone (ZJ items rest)) st'))
    |.ret=>.done (K .ret (leave (Bt R st p.gone (ZJ items rest)) st'))
    |.goto l'=>match Nat.beq l' l,pack (jR R items rest st p.gone) st' items with
     |true,some q=>match Ki q.keys p.keys with
      |true=>.next q.val
      |false=>.done bad
     |_,_=>.done bad) (.done bad)
def JAt (Good:A->Prop) (bad:A) (C:Ctx) (B:Base) (inl:Gc) (hs:Hints) (N l:Nat) (items:List Item) (rest:Code) (R:RO) (μ0:AI) (O0:Nat->Prop) (w0:World) (K:AExit->St->A) (n:Nat) (a:Act) (w:World):Prop :=
 ∃(st:St) (p:Uv (Fh items)) (x:(Fh items).interp) (μ:AI) (O:Nat->Prop),Good (iter bad (jV bad C inl hs l items rest R st p K) n x) /\
  At B (jR R items rest st p.gone) N μ0 O0 w0 (unpack items p.keys x {env:=[],heap:=[],next:=st.next}) μ O a w/\Apart (jR R items rest st p.gone) (unpack items p.keys x {env:=[],heap:=[],next:=st.next})/\Apart R st /\
  Anchor (jR R items rest st p.gone) st.next/\(∀k q,μ0 k=some q->k<st.next)/\JB (· < st.next) items p.keys/\∀s∈items.filterMap A6,assoc (jR R items rest st p.gone).renv s=none
theorem eS {Q n a w} (hC:DG C B) (hB:∀k,¬B.D k) (y:HD C B inl) (v:Pv C B inl) (hN:CU N rest=true) (hbad:¬Good bad)
 (X:∀e st' μ' O' Y w',(∀l',e≠.goto l')->Apart R st'->At B R N μ0 O0 w0 st' μ' O' Y w'->Good (K e st')->Q e.toExit Y w')
 (h:JAt Good bad C B inl hs N l items rest R μ0 O0 w0 K n a w):∃m,n=m+1/\rest.wp C.P (Exit.jump l (JAt Good bad C B inl hs N l items rest R μ0 O0 w0 K m) Q) a w:=by
 obtain⟨st,p,x,μ,O,hg,Z,a1,c,hA,h0,hk,E⟩:=h;cases n with
 |zero=>exact absurd hg hbad
 |succ m =>
  refine ⟨m,rfl,?_⟩;unfold iter at hg;let GS:Step (Fh items).interp A->Prop:=λs=>match s with
   |.next s'=>Good (iter bad (jV bad C inl hs l items rest R st p K) m s')
   |.done a=>Good a
  have I:GS (jV bad C inl hs l items rest R st p K x):=by grind
  unfold jV at I;refine Cc (Good:=GS) (bad:=.done bad) hC hB y v hs rest hN hbad Z a1 (λe st' μ' O' Y w' h1 J d=>?_) I;cases e with
  |normal=>exact X .normal _ _ _ _ _ nofun (h1.leave c) J.leave d
  |exit i=>exact X (.exit i) _ _ _ _ _ nofun (h1.leave c) J.leave d
  |ret=>exact X .ret _ _ _ _ _ nofun (h1.leave c) J.leave d
  |goto l' =>
   simp only at d;split at d
   ·rename_i q hl hq;split at d
    ·rename_i g;have g:=Og g;obtain⟨a6,O2,o,t⟩:=J.again hB h1 hq hA h0 (by rw[g];exact hk) E;rw[g] at o t;exact ⟨beq_true hl,st,p,q.val,a6,O2,d,o,t,c,hA,h0,hk,E⟩
    ·exact absurd d hbad
   ·exact absurd d hbad
def HC (l:Nat):Code->Option Code
 |.seq (.label l') rest=>if l'=l then some rest else none
 |.seq _ b=>HC l b
 |_=>none
theorem rV {a b st} (c:∀l',a≠.label l'):ND C inl hs l items (.seq a b) R st K bad=Bi C inl hs a R st (λe st'=>match e with
 |.normal=>ND C inl hs l items b R st' K bad
 |.exit i=>K (.exit i) st'
 |.ret=>K .ret st'
 |.goto _=>bad) bad:=by cases a<;>first|rfl|exact absurd rfl (c _)
theorem jA {a b} (c:∀l',a≠.label l'):HC l (.seq a b)=HC l b:=by cases a<;>first|rfl|exact absurd rfl (c _)
theorem eR {J c Q} (h:∀a w,J a w->c a w) e a w:Exit.jump l J Q e a w->Exit.jump l c Q e a w:=by
 cases e with
 |goto l'=>exact λ⟨h1,d⟩=>⟨h1,h a w d⟩
 |_=>exact id
theorem tG {Q} (hC:DG C B) (Y:∀k,¬B.D k) (g:HD C B inl) (d:Pv C B inl) (hbad:¬Good bad)
 (Z:∀e st' μ' O' a' w',(∀l',e≠.goto l')->Apart R st'->At B R N μ0 O0 w0 st' μ' O' a' w'->Good (K e st')->Q e.toExit a' w') :
 ∀c,CU N c=true->HC l c=some rest->∀ {st} {μ} {O} {a} {w},At B R N μ0 O0 w0 st μ O a w->Apart R st->Good (ND C inl hs l items c R st K bad) ->
  c.wp C.P (Exit.jump l (λa w=>∃n,JAt Good bad C B inl hs N l items rest R μ0 O0 w0 K n a w) Q) a w:=by
 intro c
 induction c with
 |seq a b _ a1 =>
  intro J o st μ O ac w v t h;simp only[CU,Qab] at J;by_cases ha:∃l',a=.label l'
  ·obtain⟨l',rfl⟩:=ha;simp only[HC] at o;split at o;case isFalse=>cases o
   rename_i hl;subst hl;cases o;simp only[ND,Qeb] at h;split at h
   ·exact absurd h hbad
   rename_i p hp;split at h
   ·exact absurd h hbad
   rename_i a6;obtain⟨a7,O1,y,E,hA,h0,hk,a8⟩:=v.enter Y t hp (λs hs=>Qah _ hs) (freeAll_iff.1 a6);obtain⟨m,_,hw⟩:=eS hC Y g d J.2 hbad Z ⟨st,p,p.val,a7,O1,h,y,E,t,hA,h0,hk,a8⟩;exact wp_seq (wp_label (wp_mono hw (eR λa w h=>⟨m,h⟩)))
  ·have I:= λl' e=>ha ⟨l',e⟩;rw[jA I] at o;rw[rV I] at h;refine wp_seq (Cc hC Y g d hs a J.1 hbad v t (λe st' μ' O' a' w' h1 h2 X=>?_) h);cases e with
   |normal=>exact a1 J.2 o h2 h1 X
   |exit i=>exact Z (.exit i) _ _ _ _ _ nofun h1 h2 X
   |ret=>exact Z .ret _ _ _ _ _ nofun h1 h2 X
   |goto l'=>exact absurd X hbad
 |_=>intro _ o;cases o
theorem mN {p:Nat->Prop}:∀n,p n->∃k,p k/\∀m,p m->k<=m:=by intro n;induction n using Nat.strongRecOn<;>grind
open Classical in
noncomputable def least (p:Nat->Prop):Nat:=if h:∃k,p k/\∀m,p m->k<=m then h.choose else 0
theorem yG {p:Nat->Prop} (h:∃n,p n):p (least p):=by obtain⟨n,c⟩:=h;unfold least;rw[dif_pos (mN n c)]<;>grind
theorem least_le {p n} (h:p n):least p<=n:=by unfold least;rw[dif_pos (mN n h)]<;>grind
theorem tC {Q c st μ O a w} (E:DG C B) (I:∀k,¬B.D k) (g:HD C B inl) (d:Pv C B inl) (hbad:¬Good bad)
 (J:∀e st' μ' O' o w',(∀l',e≠.goto l')->Apart R st'->At B R N μ0 O0 w0 st' μ' O' o w'->Good (K e st')->Q e.toExit o w') (X:CU N c=true) (t:CU N rest=true) (Y:HC l c=some rest) (Z:findLabel c l=some (.seq .skip rest))
 (v:At B R N μ0 O0 w0 st μ O a w) (y:Apart R st) (h:Good (ND C inl hs l items c R st K bad)):(Code.scope c).wp C.P Q a w:=by refine wp_scope_jumps l (λa w=>∃n,JAt Good bad C B inl hs N l items rest R μ0 O0 w0 K n a w) (λa w=>least λn=>JAt Good bad C B inl hs N l items rest R μ0 O0 w0 K n a w) Z (tG E I g d hbad J c X Y v y h) λa w hJ=>?_;obtain⟨m,hm,hw⟩:=eS E I g d t hbad J (yG hJ);refine wp_seq (wp_skip (wp_mono hw (eR λo w' h'=>⟨⟨m,h'⟩,?_⟩)));have:=least_le (p:=λn=>JAt Good bad C B inl hs N l items rest R μ0 O0 w0 K n o w') h';omega
theorem rU {Q pre c st μ O a w} (X:DG C B) (Y:∀k,¬B.D k) (g:HD C B inl) (d:Pv C B inl) (hbad:¬Good bad)
 (p:∀e st' μ' O' t w',(∀l',e≠.goto l')->Apart R st'->At B R N μ0 O0 w0 st' μ' O' t w'->Good (K e st')->Q e.toExit t w') (v:CU N (.seq pre (.scope c))=true) (y:CU N rest=true) (Z:HC l c=some rest) (hf:findLabel c l=some (.seq .skip rest))
 (E:At B R N μ0 O0 w0 st μ O a w) (I:Apart R st) (h:Good (cK C inl hs l items (.seq pre (.scope c)) R st K bad)):(Code.seq pre (.scope c)).wp C.P Q a w:=by
  simp only[CU,Qab] at v;simp only[cK] at h;refine wp_seq (Cc X Y g d hs pre v.1 hbad E I (λe st' μ' O' t w' h1 J o=>?_) h);cases e with
  |normal=>exact tC X Y g d hbad p v.2 y Z hf J h1 o
  |exit i=>exact p (.exit i) _ _ _ _ _ nofun h1 J o
  |ret=>exact p .ret _ _ _ _ _ nofun h1 J o
  |goto l'=>exact absurd o hbad
end
theorem Yf {C f I ts rs fr l items pre c rest} {fn}
 (hC:∀f sp,C.tbl f=some sp->BM C.P C.V f sp) (hP:HE C) (hV:∀w w',Below w.heap.size w w'->C.V w->C.V w') (hm:C.P.follows .mixedOrders=true) (hI:∀f I,C.inl f=some I->FnOK C.P f I) (hf:FnOK C.P f I) d
 (hc:I.code=.seq pre (.scope c)) (a7:CU I.ntmps rest=true) (hr:HC l c=some rest) (a8:findLabel c l=some (.seq .skip rest))
 (h:∀x y,fn x=some y->cE C d I l items ts rs fr x=some y):BM C.P C.V f (spP ts rs fn fr) where
 enters:=hf.enters
 tot:=λ_ hg=>by cases hg
 calls w F ag x y aa hF v hy:=by
  have t:=h x y hy;unfold cE at t;have hB:∀k,¬(⟨w,λ_=>False,w.heap.size,F,[]⟩:Base).D k:=λ_ g=>g;have E:DG C ⟨w,λ_=>False,w.heap.size,F,[]⟩:=⟨hC,λw' J=>hV w w' J aa,hP⟩;refine W9 (R:={renv:=[],rheap:=[]}) (Good:=λa=>a=some y) (μ:=λ_=>none) (h:=[]) rfl hB hf (Dn v) (λk g=>absurd rfl g)
   {heap:=λk o g=>by simp[St.obj,assoc] at g
    own:=λk o g=>by simp[St.obj,assoc] at g
    inj:=λk k' o o' g=>by simp[St.obj,assoc] at g
    foreign:=λb J=>J,flt:=λ_ _=>rfl,dom:=(λk p g=>by cases g),below:=Below.refl _ _,bsize:=Qaa _,obound:=hF}
   (K:=NA C I rs fr) (λe st h1 h2 hh=>by cases e<;>first|exact h1 rfl|exact h2 rfl|cases hh) (λe st μ' O' tmps w' g1 Z g3 g4 g5 g6 g7=>?_)
   (λhN ab ad hq=>by rw[hc] at hN t ⊢;exact rU (Good:=λa=>a=some y) E hB (EE E hB hm hI d) (JP E hB hm) (λhh=>by cases hh) hq hN a7 hr a8 ab ad t);obtain⟨vs,ks,ae,X,a1⟩:=L0 g7;obtain⟨us,k1,k2⟩:=Eu Z g3 ae;refine ⟨us,k1,us,rfl,Z.below,?_⟩;have a6:∀k∈ks,∀p b,μ' k=some p->p.block=some b->¬F b/\b<w'.heap.size:=λk g p b hp J=>by obtain⟨o,ho⟩:=Gn X k g;obtain⟨_,h2,h3⟩:=Z.own k o ho p b hp J<;>simp_all
  cases fr with
  |false=>exact Cm ⟨Qaa _,λb _ J=>⟨λhh=>J (Z.foreign b hh),rfl⟩⟩ Z.heap X k2 a6
  |true =>simp only[LL,Qab] at a1;obtain⟨Y,af⟩:=a1;exact Vh Z k2 X Y (nodup_iff af)
section
variable {P:Program} {V:World->Prop} (l:List (Kn P V)) (f:Nat) (fn:Func) (hs:Hints) [S:Seat P V]
def kj (g:Nat) (items:List Item) (o p:List Ty) (t:(AO o).interp->Option (AO p).interp) (fr:Bool:=false) (d:Nat:=1) (il:List (Nat×Inl):=[]) (h:∀x,cE (KX l il) d (AG fn hs) g items o p fr x=t x:=by intro x;kernel_rfl) (v:FnOK P f (AG fn hs):=by exact Ij (by kernel_rfl)) (y:AllOK P il:=by repeat' first|exact .nil|exact Ij (by kernel_rfl)|apply AllOK.cons)
 (E:∃pre c rest,(AG fn hs).code=.seq pre (.scope c)/\CU (AG fn hs).ntmps rest=true/\HC g c=some rest/\findLabel c g=some (.seq .skip rest):=by refine ⟨_,_,_,rfl,?_,rfl,?_⟩<;>kernel_rfl):Kn P V :=
 ⟨f,.t (spP o p t fr),let ⟨_,_,_,h1,I,J,h4⟩:=E;Yf HM Gt S.stays S.mixed (HL y) v d h1 I J h4 λx _ X=>(h x).trans X⟩
end
end Go.Den
