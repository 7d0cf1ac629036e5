/- Part of a proof: plain readings of Go functions, their contracts, or plain facts of them. -/
import Derived.Test.YtlgpjdjcbincgaaGreatDoorRg7
import Derived.Deep.RegionHeld3
import Derived.Deep.DrawnRows
set_option linter.all false
namespace Go.Proofs.YtlgpjdjcbincgaaGreatDoor
open Go.Den Go.RowKit Go.ChangeShapes Go.Shelf
set_option maxRecDepth 100000
set_option maxHeartbeats 1000000
set_option maxHeartbeats 4000000
def AaG {x y} (h:B7 x=some y):y=x:=by unfold B7 at h;rw[AK] at h<;>simp_all
def AF {α A o y} {f:α->Option A} (h:Ad o none f=some y):∃a,o=some a/\f a=some y:=by
 cases o with
 |none=>cases h
 |some a=>exact ⟨a,rfl,h⟩
structure YS (x:AZ):Prop where
 c0:BJ x.1=some x.1
 c1:BJ x.2.1=some x.2.1
 c2:Ej x.2.2.1=some x.2.2.1
 c3:CY x.2.2.2.1=some x.2.2.2.1
 c4:BJ x.2.2.2.2=some x.2.2.2.2
 each:∀j r,idx x.2.2.2.1 j=some r->B7 r=some r
def OT {x y} (h:BJ x=some y):y=x:=by unfold BJ at h;rw[AK] at h<;>simp_all
def gV {x y} (h:Ej x=some y):y=x:=by unfold Ej at h;rw[AK] at h<;>simp_all
def bZ {x y} (h:CY x=some y):y=x:=by unfold CY at h;rw[AK] at h<;>simp_all
def Vy {x y} (h:CY x=some y):Aa x<=1000000000000000:=by
 unfold CY at h;rw[AK] at h;split at h
 .rename_i c;rw[Qap] at c;unfold AA at c<;>grind
 .cases h
def fA {α:Type} {l:List α} {i} {x:α} (h:idx l i=some x):AB l i x=l:=by obtain⟨c,i1,_⟩:=Ag h;rw[AY c] at h;unfold AB;obtain⟨h1,d⟩:=List.getElem?_eq_some_iff.1 h;rw[<-d,List.set_getElem_self]
def qG {x y} (h:DU x=some y):y=x/\YS x:=by
 obtain⟨x0,x1,x2,x3,x4⟩:=x;unfold DU at h;obtain⟨a0,h0,g0⟩:=AF h;obtain⟨E,h1,g1⟩:=AF g0;obtain⟨I,Z,g2⟩:=AF g1;obtain⟨a3,J,g3⟩:=AF g2;obtain⟨a4,h4,g4⟩:=AF g3;have e0:=OT h0;have e1:=OT h1;have e2:=gV Z;have e3:=bZ J;have e4:=OT h4;simp only at e0 e1 e2 e3 e4;subst e0 e1 e2 e3 e4;have hl:=Vy J;simp only at hl;have key:=Ap (bad:=none) (f:=λc:Int×AZ=>γ (decide (c.1<Aa a3)) (Ad (idx c.2.2.2.2.1 c.1) (.done none) λ_=>Ad (idx c.2.2.2.2.1 c.1) (.done none) λx8=>Ad (B7 x8) (.done none) λx9=>Ad (idx c.2.2.2.2.1 c.1) (.done none) λ_=>Ad (idx c.2.2.2.2.1 c.1) (.done none) λ_=>.next (wr .i64 (c.1+1),(c.2.1,(c.2.2.1,(c.2.2.2.1,(AB c.2.2.2.2.1 c.1 x9,c.2.2.2.2.2)))))) (.done (some c.2))) (λz:Int×AZ=>z.1) (Aa a3) (λz=>z.2=(a0,(E,(I,(a3,a4))))/\∀j r,j<z.1->idx a3 j=some r->B7 r=some r) (λr:Option AZ=>r=some y->y=(a0,(E,(I,(a3,a4))))/\∀j r,idx a3 j=some r->B7 r=some r) (s0:=(0,(a0,(E,(I,(a3,a4)))))) (by omega) (by simp) (Ak _) ⟨rfl,λj r X d=>absurd (Ag d).1 (by simp only at X;omega)⟩ (λz g i0 i1=>?_) λz g hz=>?_
 .obtain⟨k1,k2⟩:=key g4;exact ⟨k1,h0,h1,Z,J,h4,k2⟩
 .obtain⟨i,m⟩:=z;simp only at g i0 i1;obtain⟨rfl,g⟩:=g;obtain⟨r,d,_⟩:=Ai i0 i1;try simp only
  rw[ι (decide_eq_true i1),ε d,ε d];cases hc:B7 r with
  |none=>exact λY=>by cases Y
  |some q =>
   have e:=AaG hc;subst e;rw[ε rfl,ε d,ε d,Aj (i+1) (by omega) (by omega),fA d];refine ⟨rfl,rfl,λj r' X t=>?_⟩;by_cases e:j=i
   .subst e;rw[d] at t;cases t;exact hc
   .exact g j r' (by simp only at X;omega) t
 .obtain⟨i,m⟩:=z;simp only at g hz;obtain⟨rfl,g⟩:=g;try simp only
  rw[κ (decide_eq_false (by omega))];exact λY=>⟨(Qag Y).symm,λj r d=>g j r (by have:=(Ag d).2.1;omega) d⟩
def TwO (F d:Nat->Prop) (g:Nat) (G:Option Nat) (c:Nat):Prop:=F c\/d c\/c=g\/G=some c
structure TwR (n0:Nat) (F ob:Nat->Prop) (x:AZ) (i:Nat) (B3 cap:Nat) (e3:TypeId) (u0 u1 u2 u4:Value) (G:Option Nat) (dn:Prop) (vs:Array Value) (W:World):Prop where
 rows:W.heap[B3]?=some (.cells vs e3 (0,0))
 sz:vs.size=cap
 len:x.2.2.2.1.length<=cap/\cap<=maxLen
 b3:n0<=B3/\¬ob B3
 f:∀c,F c->c<n0
 own:∀c,ob c->n0<=c/\c<W.heap.size
 g:∀c,G=some c->n0<=c/\c≠B3/\¬ob c/\c<W.heap.size
 r0:Reads W (TwO F ob B3 G) Dz x.1 [u0]
 r1:Reads W (TwO F ob B3 G) Dz x.2.1 [u1]
 r2:Reads W (TwO F ob B3 G) Hj x.2.2.1 [u2]
 r4:Reads W (TwO F ob B3 G) Dz x.2.2.2.2 [u4]
 each:∀j r,j≠i->x.2.2.2.1[j]?=some r->∃v,vs[j]?=some v/\Reads W (TwO F ob B3 G) Λ r [v]
 here:∀r,x.2.2.2.1[i]?=some r->∃v,vs[i]?=some v/\(dn/\BV n0 W (λ_=>False) G ζ r v\/¬dn/\G=none/\Reads W (TwO F ob B3 G) Λ r [v])
def vM {n0:Nat} {F t:Nat->Prop} {x:AZ} {i y cap:Nat} {e3:TypeId} {E u1 u2 I:Value} {G:Option Nat} {dn:Prop} {vs:Array Value} {W:World} (h:TwR n0 F t x i y cap e3 E u1 u2 I G dn vs W) (J:n0<=W.heap.size) {c:Nat} (d:TwO F t y G c):c<W.heap.size:=by
 rcases d with d|d|rfl|d
 .exact Qac (h.f c d) J
 .exact (h.own c d).2
 .exact (Array.getElem?_eq_some_iff.1 h.rows).1
 .exact (h.g c d).2.2.2
def Mx {n0 W W' G v F d} {r:List Int} (g:W.heap.size<=W'.heap.size) (t:∀b,G=some b->W'.heap[b]?=W.heap[b]?) (h:BV n0 W F G ζ r v):BV n0 W' d G ζ r v:=by obtain⟨a,c,h1,y,E,h4⟩:=h;refine ⟨a,c,h1,y,E,h4.imp id ?_⟩;rintro⟨b,vs,e,I,g1,J,X,Y,Z,g6,g7⟩;exact ⟨b,vs,e,I,g1,J,X,Qac Y g,(t b g1).trans Z,g6,g7.mono λ_ _=>FE ζ rfl⟩
def Xg {n0 W F O G T l v} (g:T.eε=false) (t:∀b,G=some b->¬O b) (h:BV n0 W F G T l v):Reads W O (.slice T) l [v]:=by
 obtain⟨a,c,h1,y,E,h4⟩:=h;refine ⟨a,c,by rw[h1],y,E,?_⟩;rcases h4 with ⟨c0,_⟩|⟨b,vs,e,g0,g1,I,g3,J,X,g6,Y⟩
 .exact .inl (by omega)
 .refine .inr ⟨b,0,_,I,t b g1,J,λj u d=>?_,Y.mono λ_ _=>FE T g⟩;have Z:=Qcn d;rw[Qbg] at d;split at d
  .rw[Qav] at d;simp[World.cell?,X,d]
  .cases d
def AcR {n0 n1 W F G T l v} (t:n0<=n1) (h:BV n1 W F G T l v):BV n0 W F G T l v:=by obtain⟨a,c,h1,d,g,h4⟩:=h;refine ⟨a,c,h1,d,g,h4.imp id ?_⟩<;>grind
def TwR.step {n0 F ob x i J cap e3 u0 u1 u2 u4 G k vs W W' r F' G' u} (h:TwR n0 F ob x i J cap e3 u0 u1 u2 u4 G (i<k) vs W) (hn:n0<=W.heap.size)
 (hk:x.2.2.2.1[k]?=some r) (hB:Below W.heap.size W W') (hf:BV W.heap.size W' F' G' ζ r u) :
   ∃G2,TwR n0 F ob x i J cap e3 u0 u1 u2 u4 G2 (i<k+1) (vs.setIfInBounds k u) (W'.setCell ⟨J,k,none⟩ u):=by
  have a8:= (Array.getElem?_eq_some_iff.1 h.rows).1;have ab:k<vs.size:=by have:=(List.getElem?_eq_some_iff.1 hk).1;have:=h.len.1;have:=h.sz;omega
  have a6:= heap_setCell_same W' J k _ _ u ((hB.block J a8).trans h.rows);have X:(W'.setCell ⟨J,k,none⟩ u).heap.size=W'.heap.size:=by simp_all
  have t:∀b,b≠J->(W'.setCell ⟨J,k,none⟩ u).heap[b]?=W'.heap[b]?:=λb I=>Below.heap_setCell _ _ _ _ I;have Y:∀b,G'=some b->W.heap.size<=b/\b<W'.heap.size:=λb I=>by obtain⟨a,c,h1,h2,h3,h4⟩:=hf<;>grind
  have a7:=hB.size;obtain⟨G2,E⟩:∃G2,G2=if k=i then G' else G:=⟨_,rfl⟩
  have d:ν W (TwO F ob J G) (W'.setCell ⟨J,k,none⟩ u) (TwO F ob J G2):=⟨by omega,λb I hO=>by
   have Z:= λe=>hO (.inr (.inr (.inl e)));refine ⟨?_,(t b Z).trans (hB.block b I)⟩;rintro (y|y|y|y)
   .exact hO (.inl y)
   .exact hO (.inr (.inl y))
   .exact Z y
   .rw[E] at y;split at y
    .grind
    .exact hO (.inr (.inr (.inr y)))⟩;have hold:∀j v,j≠k->vs[j]?=some v->(vs.setIfInBounds k u)[j]?=some v:=λj v hj hv=>by grind
  have a1:(vs.setIfInBounds k u)[k]?=some u:=by simp_all
  refine ⟨G2,a6,by simp[h.sz],h.len,h.b3,h.f,λc y=>⟨(h.own c y).1,by rw[X];exact Qac (h.own c y).2 a7⟩,λc y=>?_,Av d Dz h.r0,Av d Dz h.r1,Av d Hj h.r2,Av d Dz h.r4,λj r' hj hr=>?_,λr' hr=>?_⟩
  .rw[E] at y;rw[X];split at y
   .obtain⟨q1,q2⟩:=Y c y;exact ⟨by omega,by omega,λho=>by have:=(h.own c ho).2;omega,q2⟩
   .obtain⟨q1,q2,q3,q4⟩:=h.g c y;exact ⟨q1,q2,q3,by omega⟩
  .by_cases e:j=k
   .subst e;rw[hk] at hr;cases hr;refine ⟨u,a1,?_⟩;have aa:BV W.heap.size (W'.setCell ⟨J,j,none⟩ u) (λ_=>False) G' ζ r u:=Mx (by rw[X];exact χ _) (λb I=>t b (by have:=(Y b I).1;omega)) hf;refine Xg rfl (λb I hO=>?_) aa;have:=(Y b I).1;rw[E,if_neg (Ne.symm hj.symm)] at hO;have:=vM h hn hO;omega
   .obtain⟨v,v1,v2⟩:=h.each j r' hj hr;exact ⟨v,hold j v e v1,Av d Λ v2⟩
  .by_cases e:i=k
   .subst e;rw[hk] at hr;cases hr;rw[if_pos rfl] at E;subst E;exact ⟨u,a1,.inl ⟨Qcx _,AcR hn (Mx (by rw[X];exact χ _) (λb I=>t b (by have:=(Y b I).1;omega)) hf)⟩⟩
   .rw[if_neg (Ne.symm e)] at E;subst E;obtain⟨v,v1,v2⟩:=h.here r' hr;refine ⟨v,hold i v e v1,?_⟩;rcases v2 with ⟨v2,v3⟩|⟨v2,v3,v4⟩
    .exact .inl ⟨by omega,Mx (by rw[X];exact a7) (λb I=>(t b (h.g b I).2.1).trans (hB.block b (h.g b I).2.2.2)) v3⟩
    .exact .inr ⟨by omega,v3,Av d Λ v4⟩
noncomputable def sqa:Code->Code | .seq a _=>a|c=>c
noncomputable def sqb:Code->Code | .seq _ b=>b|c=>c
noncomputable def Nb:Code:=(AG Tryz.f106 {}).code
noncomputable def tw0:Code:=sqa Nb
noncomputable def tw1:Code:=sqa (sqb Nb)
noncomputable def tw2:Code:=sqa (sqa (sqb (sqb Nb)))
noncomputable def tw3:Code:=sqb (sqa (sqb (sqb Nb)))
noncomputable def tw4:Code:=sqb (sqb (sqb Nb))
def AfJ:Nb=.seq tw0 (.seq tw1 (.seq (.seq tw2 tw3) tw4)):=by kernel_rfl
noncomputable def twC:Ctx:=KX [U3,U1,Ub] []
noncomputable def twR:RO:={renv:=[],rheap:=[]}
noncomputable def Ad7 (e:hε) (st:St):Option (List (Option aε)×List (Option Ψ)):=match e with | .normal=>some ([st.get twR 1,st.get twR 2,st.get twR 26,st.get twR 27],[st.obj twR 0,st.obj twR 1,st.obj twR 34,st.obj twR 82,st.obj twR 130,st.obj twR 178,st.obj twR 226])|_=>none
noncomputable def AhJ (e:hε) (st:St):Option (List (Option aε)×List (Option Ψ)):=match e with | .normal=>Bi twC (EN twC 1) {} tw2 twR st Ad7 none|_=>none
noncomputable def Ag1 (e:hε) (st:St):Option (List (Option aε)×List (Option Ψ)):=match e with | .normal=>Bi twC (EN twC 1) {} tw1 twR st AhJ none|_=>none
def ci (v:Cell):Option aε:=some (.v (.c v))
def Ag4 (x:AZ):Bi twC (EN twC 1) {} tw0 twR {env:=CP 0 (Cy [Cb] x),heap:=[],next:=0} Ag1 none =
 Ad (BJ x.1) none λy0=>Ad (BJ x.2.1) none λy1=>Ad (Ej x.2.2.1) none λy2=>Ad (CY x.2.2.2.1) none λy3=>Ad (BJ x.2.2.2.2) none λy4 =>some ([ci (.ptr 0 0),ci (.ptr 1 0),ci (.int .i64 (Aa y3)),ci (.int .i64 0)],[some (.box [.ref 34,.ref 82,.ref 130,.ref 178,.ref 226]),some (.box [.nils,.nils,.nils,.nils,.nils]),some (.arr Ec y0),some (.arr Ec y1),some (.arr Mh y2),some (.arr Λ y3),some (.arr Ec y4)]):=by kernel_rfl
set_option maxHeartbeats 4000000
noncomputable def lpb:Code->Code | .block _ (.loop c)=>c|c=>c
def Ag2:tw3=.block 0 (.loop (lpb tw3)):=by kernel_rfl
def An {n} {l:List Value} (h:n+1<=l.length):∃x r,l=x::r/\n<=r.length:=by
 cases l with
 |nil=>simp at h
 |cons x r=>exact ⟨x,r,rfl,by simpa using h⟩
def Ad1 {t:Array Value} (h:42<=t.size):∃x0 x1 x2 x3 x4 x5 x6 x7 x8 x9 c d g y E I J X Y Z a1 a6 a7 a8 aa ab ad ae af ag ah ai aj ak al an ao aq ar au av aw r,t=(x0::x1::x2::x3::x4::x5::x6::x7::x8::x9::c::d::g::y::E::I::J::X::Y::Z::a1::a6::a7::a8::aa::ab::ad::ae::af::ag::ah::ai::aj::ak::al::an::ao::aq::ar::au::av::aw::r).toArray:=by obtain⟨l⟩:=t;obtain⟨x0,l0,rfl,h0⟩:=An h;obtain⟨x1,l1,rfl,h1⟩:=An h0;obtain⟨x2,l2,rfl,h2⟩:=An h1;obtain⟨x3,l3,rfl,h3⟩:=An h2;obtain⟨x4,l4,rfl,h4⟩:=An h3;obtain⟨x5,l5,rfl,h5⟩:=An h4;obtain⟨x6,l6,rfl,h6⟩:=An h5;obtain⟨x7,l7,rfl,h7⟩:=An h6;obtain⟨x8,l8,rfl,h8⟩:=An h7;obtain⟨x9,l9,rfl,h9⟩:=An h8;obtain⟨c,bX,rfl,ax⟩:=An h9;obtain⟨d,c3,rfl,ay⟩:=An ax;obtain⟨g,c5,rfl,az⟩:=An ay;obtain⟨y,c6,rfl,aB⟩:=An az;obtain⟨E,c7,rfl,aP⟩:=An aB;obtain⟨I,c8,rfl,b0⟩:=An aP;obtain⟨J,c9,rfl,b1⟩:=An b0;obtain⟨X,ca,rfl,b2⟩:=An b1;obtain⟨Y,cb,rfl,b3⟩:=An b2;obtain⟨Z,cc,rfl,b7⟩:=An b3;obtain⟨a1,cd,rfl,b8⟩:=An b7;obtain⟨a6,cf,rfl,ba⟩:=An b8;obtain⟨a7,cg,rfl,bb⟩:=An ba;obtain⟨a8,ch,rfl,bc⟩:=An bb;obtain⟨aa,cj,rfl,bd⟩:=An bc;obtain⟨ab,ck,rfl,bf⟩:=An bd;obtain⟨ad,cm,rfl,bg⟩:=An bf;obtain⟨ae,cn,rfl,bh⟩:=An bg;obtain⟨af,cq,rfl,bj⟩:=An bh;obtain⟨ag,cr,rfl,bk⟩:=An bj;obtain⟨ah,ct,rfl,bl⟩:=An bk;obtain⟨ai,cu,rfl,bm⟩:=An bl;obtain⟨aj,cv,rfl,bn⟩:=An bm;obtain⟨ak,cw,rfl,bo⟩:=An bn;obtain⟨al,cx,rfl,bp⟩:=An bo;obtain⟨an,cy,rfl,bq⟩:=An bp;obtain⟨ao,cz,rfl,br⟩:=An bq;obtain⟨aq,da,rfl,bs⟩:=An br;obtain⟨ar,db,rfl,bt⟩:=An bs;obtain⟨au,dc,rfl,bu⟩:=An bt;obtain⟨av,dd,rfl,bx⟩:=An bu;obtain⟨aw,bz,rfl,de⟩:=An bx;exact ⟨x0,x1,x2,x3,x4,x5,x6,x7,x8,x9,c,d,g,y,E,I,J,X,Y,Z,a1,a6,a7,a8,aa,ab,ad,ae,af,ag,ah,ai,aj,ak,al,an,ao,aq,ar,au,av,aw,bz,rfl⟩
structure LpA (b1 b2 len k:Nat) (a:Act):Prop where
 d:a.defers=[]
 s:42<=a.tmps.size
 t1:a.tmps.getD 1 undef=.pointer (some ⟨b1,0,none⟩)
 t2:a.tmps.getD 2 undef=.pointer (some ⟨b2,0,none⟩)
 t26:a.tmps.getD 26 undef=.int .i64 (len:Int)
 t27:a.tmps.getD 27 undef=.int .i64 (k:Int)
def kH (w:World) (F:Nat->Prop) (x:AZ) (i:Nat) (e:Ending) (w':World):Prop:=∃c cap e3 d u1 u2 g G vs,e=.returned (.agg #[d,u1,u2,.slice (some ⟨c,0,none⟩) x.2.2.2.1.length cap,g])/\Below w.heap.size w w'/\TwR w.heap.size F (λ_=>False) x i c cap e3 d u1 u2 g G True vs w'
attribute [local go_sem ↓] Go.wp_at_zero Go.wp_at_succ
def Ag5 {f W F v} (m:BM Tryz.prog V f (spP [Ty.slice ζ] [Ty.slice ζ] B7 true)) (c:V W) (hF:∀b,F b->b<W.heap.size) {l:List Int} (d:Reads W F Λ l [v]) (g:B7 l=some l) :
 Calls Tryz.prog f #[v] W λe W'=>∃u G,e=.returned u/\Below W.heap.size W W'/\BV W.heap.size W' F G ζ l u :=
 (m.calls W F [v] l l c hF ⟨_,d,rfl⟩ g).mono λe W' ⟨rs,h,t,u,G,h1,y⟩=>by subst h1;exact ⟨u,G,h,t,y⟩
def AfI {J b2 g cap len k:Nat} {a:Act} {W:World} {v:Value} (hA:LpA J b2 len k a) (c3:W.cell? ⟨J,3,none⟩=some (.slice (some ⟨g,0,none⟩) len cap)) (cv:W.cell? ⟨g,k,none⟩=some v) (hk:(k:Int)<(len:Int)) (aa:(0:Int)<=(k:Int)) (hm:(len:Int)<=1000000000000000) (ab:g≠J)
 {Post:Value->World->Prop} (hC:Calls Tryz.prog 178 #[v] W.drew λe y=>∃X ul Y,e=.returned (.slice X ul Y)/\y.cell? ⟨J,3,none⟩=some (.slice (some ⟨g,0,none⟩) len cap)/\y.cell? ⟨g,k,none⟩=some v/\y.frozen? ⟨g,k,none⟩=false/\Post (.slice X ul Y) y) {K:Act->World->Prop} {Q:Exit->Act->World->Prop}
 (hK:∀a' u y,Post u y->LpA J b2 len (k+1) a'->K a' (y.setCell ⟨g,k,none⟩ u)):Code.wp Tryz.prog (lpb tw3) (Exit.then K Q) a W:=by
 obtain⟨t,d⟩:=a;obtain⟨hd,Z,h1,h2,E,I⟩:=hA;simp only at hd Z h1 h2 E I;obtain⟨x0,x1,x2,x3,x4,x5,x6,x7,x8,x9,ad,ae,af,ag,ah,ai,aj,ak,al,an,ao,aq,ar,au,av,aw,ax,ay,az,aB,aP,b0,b3,b7,b8,ba,bb,bc,bd,bf,bg,bh,r,rfl⟩:=Ad1 Z;simp only[Qao,Qcc,Qbj,Qbi,Qbc] at h1 h2 E I;subst hd h1 h2 E I;unfold tw3 Nb;simp only[Tryz.f106,AG,sqa,sqb,lpb,Qbc];clear Z;go_wp2;refine wp_region_noPanic ?_;refine wp_region_held_drew (S:=λw'=>w'.cell? ⟨J,3,none⟩=some (.slice (some ⟨g,0,none⟩) len cap)) (by kernel_rfl) (by first|assumption|go_keep) λa1=>?_;refine wpAnyH_take (i:=0) (v:=?qv0) rfl (by kernel_rfl) (by kernel_rfl) (by kernel_rfl) (λ_ _ _ h=>h) (Or.inl ⟨by rfl,?qy0⟩) (by assumption) ?qr0;case qy0 =>intro w c;(try dsimp only at c);go_simp;all_goals with_reducible rfl
 try simp only[Act.put,List.setIfInBounds_toArray,List.set_cons_zero,List.set_cons_succ]
 refine wpAnyH_take (i:=1) (v:=?qv1) rfl (by kernel_rfl) (by kernel_rfl) (by kernel_rfl) (λ_ _ _ h=>h) (Or.inl ⟨by rfl,?qy1⟩) (by assumption) ?qr1;case qy1 =>intro w c;(try dsimp only at c);go_simp;all_goals with_reducible rfl
 try simp only[Act.put,List.setIfInBounds_toArray,List.set_cons_zero,List.set_cons_succ]
 refine wpAnyH_take (i:=2) (v:=?qv2) rfl (by kernel_rfl) (by kernel_rfl) (by kernel_rfl) (λ_ _ _ h=>h) (Or.inl ⟨by rfl,?qy2⟩) (by assumption) ?qr2;case qy2 =>intro w c;(try dsimp only at c);go_simp;all_goals with_reducible rfl
 try simp only[Act.put,List.setIfInBounds_toArray,List.set_cons_zero,List.set_cons_succ]
 refine wpAnyH_take (i:=3) (v:=?qv3) rfl (by kernel_rfl) (by kernel_rfl) (by kernel_rfl) (λ_ _ _ h=>h) (Or.inl ⟨by rfl,?qy3⟩) (by assumption) ?qr3;case qy3 =>intro w c;(try dsimp only at c);go_simp;all_goals with_reducible rfl
 try simp only[Act.put,List.setIfInBounds_toArray,List.set_cons_zero,List.set_cons_succ]
 refine wpAnyH_take (i:=4) (v:=?qv4) rfl (by kernel_rfl) (by kernel_rfl) (by kernel_rfl) (λ_ _ _ h=>h) (Or.inl ⟨by rfl,?qy4⟩) (by assumption) ?qr4;case qy4 =>intro w c;(try dsimp only at c);go_simp;all_goals with_reducible rfl
 try simp only[Act.put,List.setIfInBounds_toArray,List.set_cons_zero,List.set_cons_succ]
 refine wpAnyH_take (i:=5) (v:=?qv5) rfl (by kernel_rfl) (by kernel_rfl) (by kernel_rfl) (λ_ _ _ h=>h) (Or.inl ⟨by rfl,?qy5⟩) (by assumption) ?qr5;case qy5 =>intro w c;(try dsimp only at c);go_simp;all_goals with_reducible rfl
 try simp only[Act.put,List.setIfInBounds_toArray,List.set_cons_zero,List.set_cons_succ]
 refine wpAnyH_take (i:=6) (v:=?qv6) rfl (by kernel_rfl) (by kernel_rfl) (by kernel_rfl) (λ_ _ _ h=>h) (Or.inl ⟨by rfl,?qy6⟩) (by assumption) ?qr6;case qy6 =>intro w c;(try dsimp only at c);go_simp;all_goals with_reducible rfl
 try simp only[Act.put,List.setIfInBounds_toArray,List.set_cons_zero,List.set_cons_succ]
 refine wpAnyH_ready (rs:=[7]) (by kernel_rfl) (by simp) (AllReadyH.cons rfl (λK1 a6=>?_) AllReadyH.nil);go_simp;refine a6.out _ _ (by first|assumption|go_keep) λ_=>?_;try simp only[Act.put,List.setIfInBounds_toArray,List.set_cons_zero,List.set_cons_succ]
 refine wpAnyH_ready (rs:=[8]) (by kernel_rfl) (by simp) (AllReadyH.cons rfl (λK2 a7=>?_) AllReadyH.nil);go_simp;go_at_call 178;refine hC.mono ?_;rintro e y ⟨X,ul,Y,rfl,s3,sv,sf,hP⟩;go_wp2_with fail;refine a7.out _ _ (by first|assumption|go_keep) λ_=>?_;try simp only[Act.put,List.setIfInBounds_toArray,List.set_cons_zero,List.set_cons_succ]
 refine wpAnyH_take (i:=9) (v:=?qv9) rfl (by kernel_rfl) (by kernel_rfl) (by kernel_rfl) (λ_ _ _ h=>h) (Or.inl ⟨by rfl,?qy9⟩) (by assumption) ?qr9;case qy9 =>intro w c;(try dsimp only at c);go_simp;all_goals with_reducible rfl
 try simp only[Act.put,List.setIfInBounds_toArray,List.set_cons_zero,List.set_cons_succ]
 refine wpAnyH_ready (rs:=[10]) (by kernel_rfl) (by simp) (AllReadyH.cons rfl (λK3 a8=>?_) AllReadyH.nil);go_simp;refine a8.out _ _ (by first|assumption|go_keep) λ_=>?_;try simp only[Act.put,List.setIfInBounds_toArray,List.set_cons_zero,List.set_cons_succ]
 refine wpAnyH_done (by kernel_rfl) ?_ _;refine NoPanic.normal ?_;go_wp2;refine hK _ _ _ hP ⟨rfl,by simp,by simp,by simp,by simp,by simp⟩
def Ag3 {h c len a W p0 p1 p2 I J n0 n1 n2 X Y c0 c1 c2 c3 c4 e1 e2 vs Q} (hA:LpA h c len len a) (h1:W.heap[h]?=some (.cells #[.slice p0 n0 c0,.slice p1 n1 c1,.slice p2 n2 c2,.slice I X c3,.slice J Y c4] e1 (0,0))) (g:W.heap[c]?=some (.cells vs e2 (0,0))) (Z:vs.size=5)
 {K} (hQ:∀y W',y.defers=[]->y.tmps.getD 2 undef=.pointer (some ⟨c,0,none⟩)->W'.heap[c]?=some (.cells #[.slice p0 n0 c0,.slice p1 n1 c1,.slice p2 n2 c2,.slice I X c3,.slice J Y c4] e2 (0,0))->(∀B,B<=c->Below B W W')->(∀b,b≠c->W'.heap[b]?=W.heap[b]?)->Q .ret y W') :
 Code.wp Tryz.prog (lpb tw3) (Exit.then K (Exit.inBlock 0 (Exit.then (tw4.wp Tryz.prog Q) Q))) a W:=by
 obtain⟨t,d⟩:=a;obtain⟨hd,hs,t1,t2,t26,t27⟩:=hA;simp only at hd hs t1 t2 t26 t27;obtain⟨x0,x1,x2,x3,x4,x5,x6,x7,x8,x9,a6,a7,a8,aa,ab,ad,ae,af,ag,ah,ai,aj,ak,al,an,ao,aq,ar,au,av,aw,ax,ay,az,aB,aP,b0,b3,b7,b8,ba,bb,r,rfl⟩:=Ad1 hs;simp only[Qao,Qcc,Qbj,Qbi,Qbc] at t1 t2 t26 t27;subst hd t1 t2 t26 t27;have a0:W.cell? ⟨h,0,none⟩=some (.slice p0 n0 c0):=by simp[World.cell?,h1]
 have a1:W.cell? ⟨h,1,none⟩=some (.slice p1 n1 c1):=by simp[World.cell?,h1]
 have a2:W.cell? ⟨h,2,none⟩=some (.slice p2 n2 c2):=by simp[World.cell?,h1]
 have a3:W.cell? ⟨h,3,none⟩=some (.slice I X c3):=by simp[World.cell?,h1]
 have a4:W.cell? ⟨h,4,none⟩=some (.slice J Y c4):=by simp[World.cell?,h1]
 obtain⟨l⟩:=vs;obtain⟨y0,y1,y2,y3,y4,rfl⟩:∃y0 y1 y2 y3 y4,l=[y0,y1,y2,y3,y4]:=by
  match l,Z with
  |[y0,y1,y2,y3,y4],_=>exact ⟨y0,y1,y2,y3,y4,rfl⟩
 have s1:=heap_setCell_same _ c 1 _ _ (.slice p1 n1 c1) (heap_setCell_same W c 0 _ _ (.slice p0 n0 c0) g);have s3:=heap_setCell_same _ c 3 _ _ (.slice I X c3) (heap_setCell_same _ c 2 _ _ (.slice p2 n2 c2) s1);have fin:= λy d1 d2 =>hQ y _ d1 d2 (heap_setCell_same _ c 4 _ _ (.slice J Y c4) s3) (λB E=>(((((Below.refl B W).setCell E _).setCell E _).setCell E _).setCell E _).setCell E _) (λb hb=>by repeat rw[Below.heap_setCell _ _ _ _ hb]);have k0:W.cell? ⟨c,0,none⟩=some y0:=by simp[World.cell?,g]
 have f0:W.frozen? ⟨c,0,none⟩=false:=by simp[World.frozen?,g]
 have k1:W.cell? ⟨c,1,none⟩=some y1:=by simp[World.cell?,g]
 have f1:W.frozen? ⟨c,1,none⟩=false:=by simp[World.frozen?,g]
 have k2:W.cell? ⟨c,2,none⟩=some y2:=by simp[World.cell?,g]
 have f2:W.frozen? ⟨c,2,none⟩=false:=by simp[World.frozen?,g]
 have k3:W.cell? ⟨c,3,none⟩=some y3:=by simp[World.cell?,g]
 have f3:W.frozen? ⟨c,3,none⟩=false:=by simp[World.frozen?,g]
 have k4:W.cell? ⟨c,4,none⟩=some y4:=by simp[World.cell?,g]
 have f4:W.frozen? ⟨c,4,none⟩=false:=by simp[World.frozen?,g]
 unfold tw3 tw4 Nb;simp only[Tryz.f106,AG,sqa,sqb,lpb,Qbc];clear hs hQ;go_wp2;exact fin _ rfl (by simp)
def AfK {w:World} {F:Nat->Prop} {x:AZ} (hx:YS x) (hV:V w) {i:Nat} (hi:i<x.2.2.2.1.length) {X t J cap:Nat} {p0 p1 p2 p4:Option Addr} {n0 n1 n2 n4 c0 c1 c2 c4:Nat} {e1 e2 e3:TypeId} (hb:w.heap.size<=X/\w.heap.size<=t/\X≠t) {y:Array Value} (hy:y.size=5) :
 ∀(m k:Nat),m+k=x.2.2.2.1.length->∀ {a:Act} {W:World} {G:Option Nat} {vs:Array Value},LpA X t x.2.2.2.1.length k a->Below w.heap.size w W ->
 W.heap[X]?=some (.cells #[.slice p0 n0 c0,.slice p1 n1 c1,.slice p2 n2 c2,.slice (some ⟨J,0,none⟩) x.2.2.2.1.length cap,.slice p4 n4 c4] e1 (0,0))->W.heap[t]?=some (.cells y e2 (0,0)) ->
 TwR w.heap.size F (λc=>c=X\/c=t) x i J cap e3 (.slice p0 n0 c0) (.slice p1 n1 c1) (.slice p2 n2 c2) (.slice p4 n4 c4) G (i<k) vs W ->
 Code.rounds Tryz.prog (lpb tw3) (Exit.inBlock 0 (Exit.then (tw4.wp Tryz.prog (bodyPost Tryz.prog Tryz.f106 (kH w F x i))) (bodyPost Tryz.prog Tryz.f106 (kH w F x i)))) (m+1) a W:=by
 intro m;induction m with
 |zero =>
  intro k hk a W G vs hA hB h1 h2 d;obtain rfl:k=x.2.2.2.1.length:=by omega
  rw[rounds_succ];refine Ag3 hA h1 h2 hy λa' W' d1 d2 q1 q2 q3=>?_;have hs:=hB.size;have I:=d.b3;have hK:ν W (TwO F (λc=>c=X\/c=t) J G) W' (TwO F (λ_=>False) J G):=⟨(q2 _ hb.2.1).size,λb _ hO=>⟨λhh=>hO (hh.imp id λh=>.inr (h.elim False.elim id)),q3 b λe=>hO (.inr (.inl (.inr e)))⟩⟩;have hG:∀c,G=some c->W'.heap[c]?=W.heap[c]?:=λc hc=>q3 c λe=>(d.g c hc).2.2.1 (.inr e);refine ⟨d1,_,?_,J,cap,e3,_,_,_,_,G,vs,rfl,hB.trans (q2 _ hb.2.1),(q3 J λe=>I.2 (.inr e)).trans d.rows,d.sz,d.len,⟨I.1,id⟩,d.f,λc hc=>hc.elim,λc hc=>?_,Av hK Dz d.r0,Av hK Dz d.r1,Av hK Hj d.r2,Av hK Dz d.r4,λj r hj hr=>?_,λr hr=>?_⟩
  .have m0:W'.cell? ⟨t,0,none⟩=some (.slice p0 n0 c0):=by simp[World.cell?,q1]
   have m1:W'.cell? ⟨t,1,none⟩=some (.slice p1 n1 c1):=by simp[World.cell?,q1]
   have m2:W'.cell? ⟨t,2,none⟩=some (.slice p2 n2 c2):=by simp[World.cell?,q1]
   have m3:W'.cell? ⟨t,3,none⟩=some (.slice (some ⟨J,0,none⟩) x.2.2.2.1.length cap):=by simp[World.cell?,q1]
   have m4:W'.cell? ⟨t,4,none⟩=some (.slice p4 n4 c4):=by simp[World.cell?,q1]
   have t2:a'.tmps[2]?=some (.pointer (some ⟨t,0,none⟩)):=by
    rw[Qao] at d2;cases h:a'.tmps[2]? with
    |none=>rw[h] at d2;cases d2
    |some z=>rw[h] at d2;exact congrArg some d2
   simp[results,Tryz.f106,go_sem,t2,m0,m1,m2,m3,m4]
  .have:=d.g c hc;exact ⟨this.1,this.2.1,id,Qac this.2.2.2 (q2 _ hb.2.1).size⟩
  .obtain⟨v,v1,Y⟩:=d.each j r hj hr;exact ⟨v,v1,Av hK Λ Y⟩
  .obtain⟨v,v1,Y⟩:=d.here r hr;rcases Y with ⟨_,v3⟩|⟨Y,_⟩
   .exact ⟨v,v1,.inl ⟨trivial,Mx (q2 _ hb.2.1).size hG v3⟩⟩
   .exact absurd hi Y
 |succ m ih =>
  intro k hk a W G vs hA hB h1 h2 d;have a8:k<x.2.2.2.1.length:=by omega
  have hs:=hB.size;obtain⟨row,E⟩:∃row,x.2.2.2.1[k]?=some row:=⟨_,Qdv a8⟩;obtain⟨v,hv,aa⟩:∃v,vs[k]?=some v/\Reads W (TwO F (λc=>c=X\/c=t) J G) Λ row [v]:=by
   by_cases e:k=i
   .subst e;obtain⟨v,v1,Y⟩:=d.here row E;rcases Y with ⟨Y,_⟩|⟨_,_,v4⟩
    .omega
    .exact ⟨v,v1,v4⟩
   .exact d.each k row e E
  have ab:B7 row=some row:=hx.each (k:Int) row (by rw[AY (by omega)];exact E);have hm:=Vy hx.c3;have I:=d.b3;have a1:=(Array.getElem?_eq_some_iff.1 d.rows).1;have Z:=(Array.getElem?_eq_some_iff.1 h1).1;have a6:=(Array.getElem?_eq_some_iff.1 h2).1;have a7:J≠X:=λe=>I.2 (.inl e);have ad:J≠t:=λe=>I.2 (.inr e);have hD:Below W.heap.size W W.drew:=(Below.refl _ W).drew;rw[rounds_succ];refine AfI (cap:=cap) (v:=v) (Post:=λu W2=>Below W.heap.size W W2/\∃F' G',BV W.heap.size W2 F' G' ζ row u) hA (by simp[World.cell?,h1]) (by simp[World.cell?,d.rows,hv]) (by omega) (by omega) (by unfold Aa at hm;omega) a7 ((Ag5 Qε.ok (F:=TwO F (λc=>c=X\/c=t) J G) (stays _ _ (hB.trans (hD.mono hs)) hV) (λb hb=>vM d hs hb) (Av ⟨χ _,λb _ hh=>⟨hh,rfl⟩⟩ Λ aa) ab).mono ?_) λa' u W2 hP ae=>?_
  .rintro e W2 ⟨u,G',rfl,g1,g2⟩;have gB:Below W.heap.size W W2:=hD.trans g1;obtain⟨ua,uc,rfl,_⟩:=g2;have t1:=(gB.block _ Z).trans h1;have t3:=(gB.block _ a1).trans d.rows;refine ⟨ua,row.length,uc,rfl,by simp[World.cell?,t1],by simp[World.cell?,t3,hv],by simp[World.frozen?,t3],gB,_,G',⟨ua,uc,rfl,by assumption⟩⟩
  .obtain⟨gB,F',G',hf⟩:=hP;obtain⟨G2,af⟩:=d.step hs E gB hf;refine ih (k+1) (by omega) ae ((hB.trans (gB.mono hs)).setCell I.1 _) ?_ ?_ af
   .rw[Below.heap_setCell _ _ _ _ (Ne.symm a7)];exact (gB.block _ Z).trans h1
   .rw[Below.heap_setCell _ _ _ _ (Ne.symm ad)];exact (gB.block _ a6).trans h2
def QP {w O μ a b c d e l} (h:π (AQ w O μ) [a,b,c,d,e] l):∃v0 g t v3 v4,l=[v0,g,t,v3,v4]/\AQ w O μ a v0/\AQ w O μ b g/\AQ w O μ c t/\AQ w O μ d v3/\AQ w O μ e v4:=by
 obtain _|⟨h0,h⟩:=h
 obtain _|⟨h1,h⟩:=h
 obtain _|⟨y,h⟩:=h
 obtain _|⟨E,h⟩:=h
 obtain _|⟨h4,h⟩:=h
 cases h<;>grind
def Kf {W:World} {O h:Nat->Prop} {μ:AI} {k:Nat} {T:Ty} {l:List T.δ} {v:Value} (E:AQ W O μ (.ref k) v) (I:bε W O μ k (.arr T l)) (J:T.eε=false) (g:∀b,(∃p,μ k=some p/\p.block=some b)->¬h b/\b<W.heap.size):∃p n c,v=.slice p n c/\Reads W h (.slice T) l [v]:=by
 obtain⟨a,cap,h1,X,Y,h4⟩:=I;obtain⟨a',n,c',sz,t,h6⟩:=E;rw[h1] at t;cases t;refine ⟨a,l.length,cap,h6,a,cap,by rw[h6],X,Y,?_⟩;rcases h4 with c0|⟨b,vs,e,y,Z,g6,g7⟩
 .exact .inl (by omega)
 .by_cases c0:cap=0
  .exact .inl (by omega)
  .obtain⟨k1,k2⟩:=g b ⟨_,h1,by simp[Place.block,y,c0]⟩;refine .inr ⟨b,0,_,y,k1,k2,λj u d=>?_,g7.mono λ_ _=>FE T J⟩;rw[Qbg] at d;split at d
   .rw[Qav] at d;simp[World.cell?,Z,d]
   .cases d
def Afs {R l vs} {n:Nat} (c:∀x vs,R x vs->vs.length=1) (h:ξ R l vs) {j:Nat} {r:List Int} (d:l[j]?=some r):∃v,vs[j]?=some v/\R r [v]:=by
 obtain⟨pre,v,post,e,h1,g,t⟩:=h.get c d;obtain⟨u,rfl⟩:∃u,v=[u]:=by
  match v,g with
  |[u],_=>exact ⟨u,rfl⟩
 exact ⟨u,by rw[e,Qaq,Qdp (by omega),h1];simp,t⟩
def AfL {w F I i} {x y:AZ} (hV:V w) (hF:∀b,F b->b<w.heap.size) (hr:BP w F [Cb] x I) (hy:DU x=some y) (hi:i<x.2.2.2.1.length):Calls Tryz.prog 106 I.toArray w (kH w F x i):=by
 obtain⟨_,hx⟩:=qG hy;have hC:DG twC ⟨w,λ_=>False,w.heap.size,F,[]⟩:=⟨HM,λw' hb=>stays w w' hb hV,Gt⟩;have hB:∀k,¬(⟨w,λ_=>False,w.heap.size,F,[]⟩:Ξ).D k:=λ_ E=>E;have hm:= IM;have t:ρ ⟨w,λ_=>False,w.heap.size,F,[]⟩ twR {env:=[],heap:=[],next:=0} (λ_=>none) F w :=
  {heap:=λk o E=>by simp[St.obj,assoc,twR] at E
   own:=λk o E=>by simp[St.obj,assoc,twR] at E
   inj:=λk k' o o' E=>by simp[St.obj,assoc,twR] at E
   foreign:=λb hb=>hb,flt:=λ_ _=>rfl,dom:=(λk p E=>by cases E),below:=Below.refl _ _,bsize:=χ _,obound:=hF};have RU:∀c,CU 42 c=true->kB twC ⟨w,λ_=>False,w.heap.size,F,[]⟩ (EN twC 1) {} 42 c:=λc hc=>Cc hC hB (EE hC hB hm (HL .nil) 1) (JP hC hB hm) {} c hc;have ag:At ⟨w,λ_=>False,w.heap.size,F,[]⟩ twR 42 (λ_=>none) F w {env:=CP 0 (Cy [Cb] x),heap:=[],next:=0} (λ_=>none) F {tmps:=I.toArray++Array.replicate (Tryz.f106.ntmps-I.toArray.size) undef,defers:=[]} w :=
  ⟨t.move (λk o ho=>ho) (χ _),OB (R:=twR) (Dn hr) _,rfl,by rw[show Tryz.f106.ntmps=42 by kernel_rfl];simp;omega,μle.refl _,ν.refl _ _,λk p E=>(t.dom k p E).elim id λh=>absurd h (hB k)⟩;have ah:Bi twC (EN twC 1) {} tw0 twR {env:=CP 0 (Cy [Cb] x),heap:=[],next:=0} Ag1 none=some ([ci (.ptr 0 0),ci (.ptr 1 0),ci (.int .i64 (Aa x.2.2.2.1)),ci (.int .i64 0)],[some (.box [.ref 34,.ref 82,.ref 130,.ref 178,.ref 226]),some (.box [.nils,.nils,.nils,.nils,.nils]),some (.arr Ec x.1),some (.arr Ec x.2.1),some (.arr Mh x.2.2.1),some (.arr Λ x.2.2.2.1),some (.arr Ec x.2.2.2.2)]):=by rw[Ag4,ε hx.c0,ε hx.c1,ε hx.c2,ε hx.c3,ε hx.c4]
 refine calls_of_wp (c:=Nb) Tryz.func106 (by kernel_rfl) ?_;rw[AfJ];refine wp_seq (RU tw0 (by kernel_rfl) (Good:=λo=>o=some _) (by simp) ag ⟨λs hs=>absurd rfl hs,λk E=>absurd rfl E,λk E=>absurd rfl E⟩ (λe st1 ar O1 a1 w1 a7 a8 g1=>?_) ah);cases e with
 |exit _=>cases g1
 |ret=>cases g1
 |goto _=>cases g1
 |normal =>
 refine wp_seq (RU tw1 (by kernel_rfl) (Good:=λo=>o=some _) (by simp) a8 a7 (λe au av O2 a2 w2 aa ab g2=>?_) g1);cases e with
 |exit _=>cases g2
 |ret=>cases g2
 |goto _=>cases g2
 |normal =>
 refine wp_seq (wp_seq (RU tw2 (by kernel_rfl) (Good:=λo=>o=some _) (by simp) ab aa (λe st μ O a W aq d g=>?_) g2));cases e with
 |exit _=>cases g
 |ret=>cases g
 |goto _=>cases g
 |normal =>
 simp only[Ad7,Qaf,Qcv,Qdo,and_true] at g;obtain⟨⟨t1,t2,t26,t27⟩,o0,o1,o2,o3,o4,o5,o6⟩:=g;obtain⟨b1,m1,z1⟩:=d.env 1 _ t1;obtain⟨b2,m2,z2⟩:=d.env 2 _ t2;obtain⟨z26,_⟩:=d.env 26 _ t26;obtain⟨ai,_⟩:=d.env 27 _ t27;have t:=d.mem;obtain⟨aw,aj,e1,ad,k1,y1⟩:=t.heap 0 _ o0;obtain⟨ax,ak,e2,ae,k2,y2⟩:=t.heap 1 _ o1;rw[m1] at ad;cases ad;rw[m2] at ae;cases ae;obtain⟨l1⟩:=aj;obtain⟨l2⟩:=ak;obtain⟨v0,v1,v2,v3,v4,rfl,r0,r1,r2,r3,r4⟩:=QP y1;obtain⟨q0,q1,q2,q3,q4,rfl,_⟩:=QP y2;have X:=t.own 0 _ o0 _ b1 m1 rfl;have Y:=t.own 1 _ o1 _ b2 m2 rfl;have al:b1≠b2:=λe=>by have:=t.inj 0 1 _ _ o0 o1 _ _ b1 m1 m2 rfl (by rw[e];rfl);omega
 obtain⟨a5,cap,m5,g1,g2,g3⟩:=t.heap 178 _ o5;obtain⟨ay,n5,az,aB,h5,h6⟩:=r3;rw[m5] at h5;cases h5;have af:cap≠0:=λe=>by subst e;have:x.2.2.2.1.length<=0:=g1;omega
 rcases g3 with e|⟨J,vs,e3,rfl,k5,s5,rows⟩
 .exact absurd e af
 have Z:Place.block (.arr (some ⟨J,0,none⟩) x.2.2.2.1.length cap Λ.size)=some J:=by simp[Place.block,af]
 have w5:=t.own 178 _ o5 _ J m5 Z;have an:J≠b1:=λe=>by have:=t.inj 178 0 _ _ o5 o0 _ _ J m5 m1 Z (by rw[e];rfl);omega
 have ao:J≠b2:=λe=>by have:=t.inj 178 1 _ _ o5 o1 _ _ J m5 m2 Z (by rw[e];rfl);omega
 have apart:∀k o,st.obj twR k=some o->k≠0->k≠1->k≠178->∀b,(∃p,μ k=some p/\p.block=some b)->¬TwO F (λc=>c=b1\/c=b2) J none b/\b<W.heap.size:=λk o ho h0 h1 h2 b ⟨p,hp,hb⟩=>by
  have wk:=t.own k o ho p b hp hb;refine ⟨?_,wk.2.2⟩;rintro (h|(h|h)|h|h)
  .exact wk.2.1.2 h
  .exact h0 (t.inj k 0 _ _ ho o0 _ _ b hp m1 hb (by rw[h];rfl))
  .exact h1 (t.inj k 1 _ _ ho o1 _ _ b hp m2 hb (by rw[h];rfl))
  .exact h2 (t.inj k 178 _ _ ho o5 _ _ b hp m5 hb (by rw[h];exact Z))
  .cases h
 obtain⟨p0,n0,c0,rfl,R0⟩:=Kf r0 (t.heap 34 _ o2) rfl (apart 34 _ o2 (by omega) (by omega) (by omega));obtain⟨p1,n1,c1,rfl,R1⟩:=Kf r1 (t.heap 82 _ o3) rfl (apart 82 _ o3 (by omega) (by omega) (by omega));obtain⟨p2,n2,c2,rfl,R2⟩:=Kf r2 (t.heap 130 _ o4) rfl (apart 130 _ o4 (by omega) (by omega) (by omega));obtain⟨p4,n4,c4,rfl,R4⟩:=Kf r4 (t.heap 226 _ o6) rfl (apart 226 _ o6 (by omega) (by omega) (by omega));subst h6;have hK:ν W O W (TwO F (λc=>c=b1\/c=b2) J none):=⟨χ _,λb _ hO=>⟨λhh=>hO (by
  rcases hh with h|(h|h)|h|h
  .exact t.foreign b h
  .rw[h];exact X.1
  .rw[h];exact Y.1
  .rw[h];exact w5.1
  .cases h),rfl⟩⟩;have a6:∀j r,x.2.2.2.1[j]?=some r->∃v,vs[j]?=some v/\Reads W (TwO F (λc=>c=b1\/c=b2) J none) Λ r [v]:=λj r hj=>by
  obtain⟨v,h1,h2⟩:=Afs (n:=1) (λ_ _=>AW Λ) rows hj;refine ⟨v,?_,Av hK Λ h2⟩;rw[Qbg] at h1;split at h1
  .rwa [Qav] at h1
  .cases h1
 show Code.wp Tryz.prog tw3 _ a W;rw[Ag2];refine wp_block (wp_loop_rounds (x.2.2.2.1.length+1) (AfK (e3:=e3) (G:=none) (vs:=vs) hx hV hi ⟨X.2.1.1,Y.2.1.1,al⟩ rfl x.2.2.2.1.length 0 rfl ⟨d.defers,d.size,z1,z2,z26,ai⟩ t.below k1 k2 ?_));refine ⟨k5,by rw[s5];simp[Ty.size],⟨g1,g2⟩,⟨w5.2.1.1,λh=>h.elim an ao⟩,hF,λc hc=>?_,λc hc=>(by cases hc),R0,R1,R2,R4,λj r _ hj=>a6 j r hj,λr hr=>?_⟩
 .rcases hc with rfl|rfl
  .exact ⟨X.2.1.1,X.2.2⟩
  .exact ⟨Y.2.1.1,Y.2.2⟩
 .obtain⟨v,q1,q2⟩:=a6 i r hr;exact ⟨v,q1,.inr ⟨by omega,rfl,q2⟩⟩
noncomputable def heI:Inl:=AG Tryz.f71 {}
noncomputable def he0:Code:=sqa heI.code
noncomputable def he1:Code:=sqa (sqb heI.code)
noncomputable def he2:Code:=sqa (sqb (sqb heI.code))
noncomputable def he3:Code:=sqa (sqb (sqb (sqb heI.code)))
noncomputable def he4:Code:=sqa (sqb (sqb (sqb (sqb heI.code))))
noncomputable def he5:Code:=sqb (sqb (sqb (sqb (sqb heI.code))))
def AeL:heI.code=.seq he0 (.seq he1 (.seq he2 (.seq he3 (.seq he4 he5)))):=by kernel_rfl
noncomputable def heC:Ctx:=KX [Sx,yP] []
abbrev HeA:=Option (AZ×Int ⊕ List (Option aε)×List (Option Ψ))
noncomputable def Pd (st:St):HeA:=(NA heC heI [Cb,ζ] false .ret st).map .inl
noncomputable def AcX (e:hε) (st:St):HeA:=match e with | .normal=>some (.inr ([st.get twR 4,st.get twR 5,st.get twR 6,st.get twR 9],[st.obj twR 1,st.obj twR 2,st.obj twR 3])) | .ret=>Pd st|_=>none
noncomputable def Agq (e:hε) (st:St):HeA:=match e with | .normal=>Bi heC (EN heC 1) {} he4 twR st AcX none | .ret=>Pd st|_=>none
noncomputable def Agp (e:hε) (st:St):HeA:=match e with | .normal=>Bi heC (EN heC 1) {} he3 twR st Agq none | .ret=>Pd st|_=>none
noncomputable def Ago (e:hε) (st:St):HeA:=match e with | .normal=>Bi heC (EN heC 1) {} he2 twR st Agp none | .ret=>Pd st|_=>none
noncomputable def Agn (e:hε) (st:St):HeA:=match e with | .normal=>Bi heC (EN heC 1) {} he1 twR st Ago none | .ret=>Pd st|_=>none
def jU (m:AZ) (r:Fs) (i:Int):List (Option aε)×List (Option Ψ):=([ci (.ptr 1 0),ci (.ptr 2 0),ci (.ptr 3 0),ci (.int .i64 i)],[some (.box [.sl Ec m.1,.sl Ec m.2.1,.sl Mh m.2.2.1,.sl Λ m.2.2.2.1,.sl Ec m.2.2.2.2]),some (.box [.int .i64 r.1,.int .u8 r.2.1,.int .i64 r.2.2.1,.sl ζ r.2.2.2]),some (.box [.nils,.nils,.nils,.nils,.nils])])
def heT (x:AU×AZ×Fs):HeA :=
 Ad (GD (x.1,x.2.1)) none λd =>
 γ (!d==0)
 (some (.inl (([],([],([],([],[])))),d)))
 (Ad (MJ (x.1,x.2.2.1)) none λc =>
 γ (!c.2==0)
 (some (.inl (([],([],([],([],[])))),c.2)))
 (Ad (idx x.2.1.2.2.2.1 c.1) none λg =>
 γ (!Aa x.2.2.2.2.2==Aa g)
 (some (.inl (([],([],([],([],[])))),4)))
 (some (.inr (jU x.2.1 x.2.2 c.1)))))
def Agu (x:AU×AZ×Fs):Bi heC (EN heC 1) {} he0 twR {env:=CP 0 (Cy [CE,Cb,Jj] x),heap:=[],next:=0} Agn none=heT x:=by kernel_rfl
def Hε {W O}:∀ {l:List Int} {vs},ξ (Reads W O ζ) l vs↔vs=l.map (λn=>Value.int .i64 n)/\∀n∈l,inR .i64 n=true
 |[],vs=>⟨λh=>⟨h,λn c=>by cases c⟩,λh=>h.1⟩
 |n::l,vs=>by
  constructor
  .rintro⟨t,y,e,⟨E,I⟩,d⟩;obtain⟨k1,J⟩:=Hε.1 d<;>simp_all
  .rintro⟨rfl,h⟩;exact ⟨[.int .i64 n],l.map λn=>Value.int .i64 n,rfl,⟨rfl,h n (Qbr ..)⟩,Hε.2 ⟨rfl,λm g=>h m (Qak _ g)⟩⟩
section
variable {n0:Nat} {F ob:Nat->Prop} {x:AZ} {i B3 cap:Nat} {e3:TypeId} {u0 u1 u2 u4:Value} {G:Option Nat} {dn:Prop} {vs:Array Value} {W W':World}
def TwR.tζ (h:TwR n0 F ob x i B3 cap e3 u0 u1 u2 u4 G dn vs W) (J:W.heap.size<=W'.heap.size) (X:∀b,b<W.heap.size->¬F b->W'.heap[b]?=W.heap[b]?):TwR n0 F ob x i B3 cap e3 u0 u1 u2 u4 G dn vs W':=by
 have nF:∀c,n0<=c->¬F c:=λc t hF=>by have:=h.f c hF;omega
 have d:ν W (TwO F ob B3 G) W' (TwO F ob B3 G):=⟨J,λb y hO=>⟨hO,X b y λhF=>hO (.inl hF)⟩⟩;refine ⟨(X B3 (Array.getElem?_eq_some_iff.1 h.rows).1 (nF _ h.b3.1)).trans h.rows,h.sz,h.len,h.b3,h.f,λc t=>⟨(h.own c t).1,Qac (h.own c t).2 J⟩,λc t=>?_,Av d Dz h.r0,Av d Dz h.r1,Av d Hj h.r2,Av d Dz h.r4,λj r hj Y=>?_,λr Y=>?_⟩
 .obtain⟨E,I,q3,q4⟩:=h.g c t<;>grind
 .obtain⟨v,Z,v2⟩:=h.each j r hj Y;exact ⟨v,Z,Av d Λ v2⟩
 .obtain⟨v,Z,v2⟩:=h.here r Y;refine ⟨v,Z,v2.imp (λ⟨E,I⟩=>⟨E,Mx J (λb y=>X b (h.g b y).2.2.2 (nF _ (h.g b y).1)) I⟩) λ⟨E,I,q3⟩=>⟨E,I,Av d Λ q3⟩⟩
def TwR.row {r} (h:TwR n0 F ob x i B3 cap e3 u0 u1 u2 u4 G True vs W) (y:x.2.2.2.1[i]?=some r) (h0:0<r.length):∃g c cs e,vs[i]?=some (.slice (some ⟨g,0,none⟩) r.length c)/\G=some g/\r.length<=c/\c<=maxLen/\W.heap[g]?=some (.cells cs e (0,0))/\cs.size=c/\cs.toList.take r.length=r.map (λn=>Value.int .i64 n)/\∀n∈r,inR .i64 n=true:=by
 obtain⟨v,E,I⟩:=h.here r y;rcases I with ⟨_,a,c,J,d,X,t⟩|⟨q,_⟩
 .have d:r.length<=c:=d;rcases t with ⟨t,_⟩|⟨g,cs,e,g0,g1,Y,g3,g4,Z,g6,g7⟩
  .omega
  .subst J Y;obtain⟨k1,k2⟩:=Hε.1 g7;exact ⟨g,c,cs,e,E,g1,d,X,Z,by rw[g6];simp[Ty.size],by have:=k1;simp only[Ty.size,Qch] at this;exact this,k2⟩
 .exact absurd trivial q
def FT (x:AZ) (i:Nat) (r:List Int):AZ:=(x.1,(x.2.1,(x.2.2.1,(AB x.2.2.2.1 i r,x.2.2.2.2))))
def TwR.write {r k z} (h:TwR n0 F ob x i B3 cap e3 u0 u1 u2 u4 G True vs W) (hr:x.2.2.2.1[i]?=some r) (hk:k<r.length) (hz:inR .i64 z=true) {g} (hg:G=some g) :
 TwR n0 F ob (FT x i (r.set k z)) i B3 cap e3 u0 u1 u2 u4 G True vs (W.setCell ⟨g,k,none⟩ (.int .i64 z)):=by
 obtain⟨g',c,cs,e,a1,a2,a3,J,a4,a5,a6,a7⟩:=h.row hr (by omega);rw[hg] at a2;cases a2;have E:(W.setCell ⟨g,k,none⟩ (.int .i64 z)).heap.size=W.heap.size:=by simp_all
 have t:∀b,b≠g->(W.setCell ⟨g,k,none⟩ (.int .i64 z)).heap[b]?=W.heap[b]?:=λb hb=>Below.heap_setCell _ _ _ _ hb;have I:ν W (TwO F ob B3 G) (W.setCell ⟨g,k,none⟩ (.int .i64 z)) (TwO F ob B3 G):=⟨by omega,λb hb hO=>⟨hO,t b λe=>hO (by rw[e];exact .inr (.inr (.inr hg)))⟩⟩;have y:=h.g g hg;refine ⟨(t B3 (Ne.symm y.2.1)).trans h.rows,h.sz,by simp only[FT,AB,Qfr];exact h.len,h.b3,h.f,λc X=>⟨(h.own c X).1,by rw[E];exact (h.own c X).2⟩,λc X=>by simp_all,Av I Dz h.r0,Av I Dz h.r1,Av I Hj h.r2,Av I Dz h.r4,λj r' hj d=>?_,λr' d=>?_⟩
 .simp only[FT,AB,Qae] at d;rw[List.getElem?_set_ne (Ne.symm hj)] at d;obtain⟨v,v1,v2⟩:=h.each j r' hj d;exact ⟨v,v1,Av I Λ v2⟩
 .simp only[FT,AB,Qae] at d;rw[List.getElem?_set_self (List.getElem?_eq_some_iff.1 hr).1] at d;cases d;have Y:(r.set k z).length=r.length:=Qfr;refine ⟨_,a1,.inl ⟨trivial,some ⟨g,0,none⟩,c,show Value.slice _ r.length c=Value.slice _ (r.set k z).length c by rw[Y],show (r.set k z).length<=c by rw[Y];exact a3,J,.inr ⟨g,_,e,by omega,hg,rfl,y.1,by rw[E];exact y.2.2.2,heap_setCell_same W g k _ _ (.int .i64 z) a4,by simp[a5,Ty.size],Hε.2 ⟨?_,λn Z=>?_⟩⟩⟩⟩
  .show List.take ((r.set k z).length*1) (cs.setIfInBounds k (.int .i64 z)).toList=(r.set k z).map _;rw[Y,Qch,Qem,List.map_set,<-a6,List.take_set]
  .rcases Qes Z with Z|rfl
   .exact a7 n Z
   .exact hz
end
def ZP {t:Array Value} (h:81<=t.size):∃x0 x1 x2 x3 x4 x5 x6 x7 x8 x9 c d g y E I J X Y Z a1 a6 a7 a8 aa ab ad ae af ag ah ai aj ak al an ao aq ar au av aw ax ay az aB aP b0 b1 b2 b3 b7 b8 ba bb bc bd bf bg bh bj bk bl bm bn bo bp bq br bs bt bu bx bz bX c3 c5 c6 c7 c8 c9 r,t=(x0::x1::x2::x3::x4::x5::x6::x7::x8::x9::c::d::g::y::E::I::J::X::Y::Z::a1::a6::a7::a8::aa::ab::ad::ae::af::ag::ah::ai::aj::ak::al::an::ao::aq::ar::au::av::aw::ax::ay::az::aB::aP::b0::b1::b2::b3::b7::b8::ba::bb::bc::bd::bf::bg::bh::bj::bk::bl::bm::bn::bo::bp::bq::br::bs::bt::bu::bx::bz::bX::c3::c5::c6::c7::c8::c9::r).toArray:=by obtain⟨l⟩:=t;obtain⟨x0,l0,rfl,h0⟩:=An h;obtain⟨x1,l1,rfl,h1⟩:=An h0;obtain⟨x2,l2,rfl,h2⟩:=An h1;obtain⟨x3,l3,rfl,h3⟩:=An h2;obtain⟨x4,l4,rfl,h4⟩:=An h3;obtain⟨x5,l5,rfl,h5⟩:=An h4;obtain⟨x6,l6,rfl,h6⟩:=An h5;obtain⟨x7,l7,rfl,h7⟩:=An h6;obtain⟨x8,l8,rfl,h8⟩:=An h7;obtain⟨x9,l9,rfl,h9⟩:=An h8;obtain⟨c,eT,rfl,ca⟩:=An h9;obtain⟨d,fa,rfl,cb⟩:=An ca;obtain⟨g,fb,rfl,cc⟩:=An cb;obtain⟨y,fc,rfl,cd⟩:=An cc;obtain⟨E,fe,rfl,cf⟩:=An cd;obtain⟨I,ff,rfl,cg⟩:=An cf;obtain⟨J,fg,rfl,ch⟩:=An cg;obtain⟨X,fh,rfl,cj⟩:=An ch;obtain⟨Y,fi,rfl,ck⟩:=An cj;obtain⟨Z,fj,rfl,cm⟩:=An ck;obtain⟨a1,fk,rfl,cn⟩:=An cm;obtain⟨a6,fl,rfl,cq⟩:=An cn;obtain⟨a7,fm,rfl,cr⟩:=An cq;obtain⟨a8,fo,rfl,ct⟩:=An cr;obtain⟨aa,fp,rfl,cu⟩:=An ct;obtain⟨ab,fq,rfl,cv⟩:=An cu;obtain⟨ad,fr,rfl,cw⟩:=An cv;obtain⟨ae,fs,rfl,cx⟩:=An cw;obtain⟨af,ft,rfl,cy⟩:=An cx;obtain⟨ag,fu,rfl,cz⟩:=An cy;obtain⟨ah,fv,rfl,da⟩:=An cz;obtain⟨ai,fw,rfl,db⟩:=An da;obtain⟨aj,fx,rfl,dc⟩:=An db;obtain⟨ak,fy,rfl,dd⟩:=An dc;obtain⟨al,fz,rfl,de⟩:=An dd;obtain⟨an,ga,rfl,df⟩:=An de;obtain⟨ao,gb,rfl,dg⟩:=An df;obtain⟨aq,gd,rfl,dh⟩:=An dg;obtain⟨ar,gf,rfl,di⟩:=An dh;obtain⟨au,gg,rfl,dj⟩:=An di;obtain⟨av,gh,rfl,dk⟩:=An dj;obtain⟨aw,gi,rfl,dm⟩:=An dk;obtain⟨ax,gj,rfl,dp⟩:=An dm;obtain⟨ay,gk,rfl,dq⟩:=An dp;obtain⟨az,gl,rfl,dr⟩:=An dq;obtain⟨aB,gm,rfl,ds⟩:=An dr;obtain⟨aP,gn,rfl,dt⟩:=An ds;obtain⟨b0,gp,rfl,du⟩:=An dt;obtain⟨b1,gq,rfl,dv⟩:=An du;obtain⟨b2,gr,rfl,dw⟩:=An dv;obtain⟨b3,gu,rfl,dx⟩:=An dw;obtain⟨b7,gv,rfl,dy⟩:=An dx;obtain⟨b8,gw,rfl,dz⟩:=An dy;obtain⟨ba,gx,rfl,dT⟩:=An dz;obtain⟨bb,gy,rfl,e0⟩:=An dT;obtain⟨bc,gz,rfl,e1⟩:=An e0;obtain⟨bd,gB,rfl,e2⟩:=An e1;obtain⟨bf,ha,rfl,e5⟩:=An e2;obtain⟨bg,hb,rfl,e7⟩:=An e5;obtain⟨bh,hc,rfl,e8⟩:=An e7;obtain⟨bj,hd,rfl,e9⟩:=An e8;obtain⟨bk,hf,rfl,ea⟩:=An e9;obtain⟨bl,hg,rfl,eb⟩:=An ea;obtain⟨bm,hh,rfl,ec⟩:=An eb;obtain⟨bn,hi,rfl,ed⟩:=An ec;obtain⟨bo,hj,rfl,ee⟩:=An ed;obtain⟨bp,hk,rfl,ef⟩:=An ee;obtain⟨bq,hl,rfl,eg⟩:=An ef;obtain⟨br,hn,rfl,eh⟩:=An eg;obtain⟨bs,ho,rfl,ei⟩:=An eh;obtain⟨bt,hp,rfl,ej⟩:=An ei;obtain⟨bu,hq,rfl,ek⟩:=An ej;obtain⟨bx,hr,rfl,eo⟩:=An ek;obtain⟨bz,ht,rfl,er⟩:=An eo;obtain⟨bX,hv,rfl,et⟩:=An er;obtain⟨c3,hx,rfl,eu⟩:=An et;obtain⟨c5,hy,rfl,ev⟩:=An eu;obtain⟨c6,hz,rfl,ew⟩:=An ev;obtain⟨c7,hA,rfl,ey⟩:=An ew;obtain⟨c8,hB,rfl,ez⟩:=An ey;obtain⟨c9,eO,rfl,hC⟩:=An ez;exact ⟨x0,x1,x2,x3,x4,x5,x6,x7,x8,x9,c,d,g,y,E,I,J,X,Y,Z,a1,a6,a7,a8,aa,ab,ad,ae,af,ag,ah,ai,aj,ak,al,an,ao,aq,ar,au,av,aw,ax,ay,az,aB,aP,b0,b1,b2,b3,b7,b8,ba,bb,bc,bd,bf,bg,bh,bj,bk,bl,bm,bn,bo,bp,bq,br,bs,bt,bu,bx,bz,bX,c3,c5,c6,c7,c8,c9,eO,rfl⟩
structure YA (b4 b5 b6 i:Nat) (a:Act):Prop where
 d:a.defers=[]
 s:81<=a.tmps.size
 t4:a.tmps.getD 4 undef=.pointer (some ⟨b4,0,none⟩)
 t5:a.tmps.getD 5 undef=.pointer (some ⟨b5,0,none⟩)
 t6:a.tmps.getD 6 undef=.pointer (some ⟨b6,0,none⟩)
 t9:a.tmps.getD 9 undef=.int .i64 (i:Int)
structure bB (b4 b5 b6 i:Nat) (pl:Option Addr) (nl cl k:Nat) (a:Act):Prop where
 h:YA b4 b5 b6 i a
 t47:a.tmps.getD 47 undef=.slice pl nl cl
 t48:a.tmps.getD 48 undef=.int .i64 (nl:Int)
 t49:a.tmps.getD 49 undef=.int .i64 (k:Int)
noncomputable def he9:Code:=sqa he5
noncomputable def AcW:Code:=sqa (sqa (sqb he5))
noncomputable def heL:Code:=sqb (sqa (sqb he5))
noncomputable def heE:Code:=sqb (sqb he5)
def AeM:he5=.seq he9 (.seq (.seq AcW heL) heE):=by kernel_rfl
def Agr:heL=.block 0 (.loop (lpb heL)):=by kernel_rfl
def AeO {c b5 b6 i:Nat} {a:Act} {W:World} {Y Z q2 q3 q4:Option Addr} {k0 k1 k2 k3 k4 d0 d1 d2 d3 d4:Nat} {e:TypeId} (hA:YA c b5 b6 i a) (h4:W.heap[c]?=some (.cells #[.slice Y k0 d0,.slice Z k1 d1,.slice q2 k2 d2,.slice q3 k3 d3,.slice q4 k4 d4] e (0,0)))
 {Post:List Value->World->Prop} (hC:Calls Tryz.prog 106 #[.agg #[.slice Y k0 d0,.slice Z k1 d1,.slice q2 k2 d2,.slice q3 k3 d3,.slice q4 k4 d4]] W λe g=>∃p0 n0 c0 p1 n1 c1 p2 n2 c2 h y c3 E I c4,e=.returned (.agg #[.slice p0 n0 c0,.slice p1 n1 c1,.slice p2 n2 c2,.slice h y c3,.slice E I c4])/\Below W.heap.size W g/\Post [.slice p0 n0 c0,.slice p1 n1 c1,.slice p2 n2 c2,.slice h y c3,.slice E I c4] g)
 {K:Act->World->Prop} {Q:Exit->Act->World->Prop} (hK:∀J g W3 us,Post us g->YA c b5 b6 i J->W3.heap[c]?=some (.cells us.toArray e (0,0))->W3.heap.size=g.heap.size->(∀B,B<=c->Below B g W3)->(∀b,b≠c->W3.heap[b]?=g.heap[b]?)->K J W3):Code.wp Tryz.prog he9 (Exit.then K Q) a W:=by
 obtain⟨t,d⟩:=a;obtain⟨hd,hs,t4,t5,t6,t9⟩:=hA;simp only at hd hs t4 t5 t6 t9;obtain⟨x0,x1,x2,x3,x4,x5,x6,x7,x8,x9,ab,ad,ae,af,ag,ah,ai,aj,ak,al,an,ao,aq,ar,au,av,aw,ax,ay,az,aB,aP,b0,b1,b2,b3,b7,b8,ba,bb,bc,bd,bf,bg,bh,bj,bk,bl,bm,bn,bo,bp,bq,br,bs,bt,bu,bx,bz,bX,c5,c6,c7,c8,c9,ca,cb,cc,cd,cf,cg,ch,cj,ck,cm,cn,cq,cr,ct,cu,cv,r,rfl⟩:=ZP hs;simp only[Qao,Qcc,Qbj,Qbi,Qbc] at t4 t5 t6 t9;subst hd t4 t5 t6 t9;have a0:W.cell? ⟨c,0,none⟩=some (.slice Y k0 d0):=by simp[World.cell?,h4]
 have a1:W.cell? ⟨c,1,none⟩=some (.slice Z k1 d1):=by simp[World.cell?,h4]
 have a2:W.cell? ⟨c,2,none⟩=some (.slice q2 k2 d2):=by simp[World.cell?,h4]
 have a3:W.cell? ⟨c,3,none⟩=some (.slice q3 k3 d3):=by simp[World.cell?,h4]
 have a4:W.cell? ⟨c,4,none⟩=some (.slice q4 k4 d4):=by simp[World.cell?,h4]
 have a7:=(Array.getElem?_eq_some_iff.1 h4).1;have a8:Calls Tryz.prog 106 #[.agg #[.slice Y k0 d0,.slice Z k1 d1,.slice q2 k2 d2,.slice q3 k3 d3,.slice q4 k4 d4]] W λe g=>∃p0 n0 c0 p1 n1 c1 p2 n2 c2 h y c3 E I c4,e=.returned (.agg #[.slice p0 n0 c0,.slice p1 n1 c1,.slice p2 n2 c2,.slice h y c3,.slice E I c4]) /\
  (g.cell? ⟨c,0,none⟩=some (.slice Y k0 d0)/\g.frozen? ⟨c,0,none⟩=false/\g.cell? ⟨c,1,none⟩=some (.slice Z k1 d1)/\g.frozen? ⟨c,1,none⟩=false/\g.cell? ⟨c,2,none⟩=some (.slice q2 k2 d2)/\g.frozen? ⟨c,2,none⟩=false/\g.cell? ⟨c,3,none⟩=some (.slice q3 k3 d3)/\g.frozen? ⟨c,3,none⟩=false/\g.cell? ⟨c,4,none⟩=some (.slice q4 k4 d4)/\g.frozen? ⟨c,4,none⟩=false)/\∀J,YA c b5 b6 i J->K J (((((g.setCell ⟨c,0,none⟩ (.slice p0 n0 c0)).setCell ⟨c,1,none⟩ (.slice p1 n1 c1)).setCell ⟨c,2,none⟩ (.slice p2 n2 c2)).setCell ⟨c,3,none⟩ (.slice h y c3)).setCell ⟨c,4,none⟩ (.slice E I c4)):=hC.mono ?_
 .clear hC;unfold he9 he5 heI;simp only[Tryz.f71,AG,sqa,sqb,Qbc];clear hs;clear hK h4;go_wp2_with (go_at_call 106;refine a8.mono ?_;rintro _ g ⟨p0,n0,c0,p1,n1,c1,p2,n2,c2,h,y,c3,E,I,c4,rfl,⟨f0,g0,f1,g1,f2,g2,f3,g3,f4,g4⟩,hk⟩);exact ⟨rfl,by simp,by simp,by simp,by simp,by simp⟩
 .rintro e' g ⟨p0,n0,c0,p1,n1,c1,p2,n2,c2,h,y,c3,E,I,c4,rfl,X,hP⟩;have a6:=(X.block c a7).trans h4;have s0:=heap_setCell_same g c 0 _ _ (.slice p0 n0 c0) a6;have s1:=heap_setCell_same _ c 1 _ _ (.slice p1 n1 c1) s0;have s2:=heap_setCell_same _ c 2 _ _ (.slice p2 n2 c2) s1;have s3:=heap_setCell_same _ c 3 _ _ (.slice h y c3) s2;have s4:=heap_setCell_same _ c 4 _ _ (.slice E I c4) s3;refine ⟨p0,n0,c0,p1,n1,c1,p2,n2,c2,h,y,c3,E,I,c4,rfl,?_,λJ aa=>hK J g _ _ hP aa s4 (by simp[World.setCell]) (λB X=>(((((Below.refl B g).setCell X _).setCell X _).setCell X _).setCell X _).setCell X _) λb hb=>by repeat rw[Below.heap_setCell _ _ _ _ hb]⟩;simp[World.cell?,World.frozen?,a6]
def Agw {h c y i:Nat} {a:Act} {W:World} {pl:Option Addr} {nl cl:Nat} (J:YA h c y i a) (h5:W.cell? ⟨c,3,none⟩=some (.slice pl nl cl)) {K:Act->World->Prop} {Q:Exit->Act->World->Prop} (hK:∀E,bB h c y i pl nl cl 0 E->K E W):Code.wp Tryz.prog AcW (Exit.then K Q) a W:=by obtain⟨t,d⟩:=a;obtain⟨I,g,t4,t5,t6,t9⟩:=J;simp only at I g t4 t5 t6 t9;obtain⟨x0,x1,x2,x3,x4,x5,x6,x7,x8,x9,X,Y,Z,a1,a6,a7,a8,aa,ab,ad,ae,af,ag,ah,ai,aj,ak,al,an,ao,aq,ar,au,av,aw,ax,ay,az,aB,aP,b0,b1,b2,b3,b7,b8,ba,bb,bc,bd,bf,bg,bh,bj,bk,bl,bm,bn,bo,bp,bq,br,bs,bt,bu,bx,bz,bX,c3,c5,c6,c7,c8,c9,ca,cb,cc,cd,cf,cg,ch,r,rfl⟩:=ZP g;simp only[Qao,Qcc,Qbj,Qbi,Qbc] at t4 t5 t6 t9;subst I t4 t5 t6 t9;unfold AcW he5 heI;simp only[Tryz.f71,AG,sqa,sqb,Qbc];clear g;go_wp2;exact ⟨⟨rfl,by simp,by simp,by simp,by simp,by simp⟩,by simp,by simp,by simp⟩
def AcY {y Y Z i E cap len g c I k nl cl pb off a} {J lk z er} {W:World} (hA:bB y Y Z i (some ⟨pb,off,none⟩) nl cl k a) (c3:W.cell? ⟨y,3,none⟩=some (.slice (some ⟨E,0,none⟩) len cap)) (ci:W.cell? ⟨E,i,none⟩=some (.slice (some ⟨g,0,none⟩) I c)) (cg:W.cell? ⟨g,k,none⟩=some (.int .i64 J)) (a1:W.cell? ⟨pb,off+k,none⟩=some (.int .i64 lk))
 (hi:(i:Int)<(len:Int)) (a6:(0:Int)<=(i:Int)) (hk:(k:Int)<(nl:Int)) (a7:(0:Int)<=(k:Int)) (a8:(k:Int)<(I:Int)) (hm:(nl:Int)<=1000000000000000) {Post:World->Prop}
 (hC:Calls Tryz.prog 129 #[.int .i64 J,.int .i64 lk,.int .i64 16384] W λe h=>e=.returned (.tuple #[.int .i64 z,.int .i64 er])/\h.cell? ⟨y,3,none⟩=some (.slice (some ⟨E,0,none⟩) len cap)/\h.cell? ⟨E,i,none⟩=some (.slice (some ⟨g,0,none⟩) I c)/\h.cell? ⟨g,k,none⟩=some (.int .i64 J)/\h.frozen? ⟨g,k,none⟩=false/\Post h) (he:er=0)
 {K:Act->World->Prop} {Q:Exit->Act->World->Prop} (hK:∀a' h,Post h->bB y Y Z i (some ⟨pb,off,none⟩) nl cl (k+1) a'->K a' (h.setCell ⟨g,k,none⟩ (.int .i64 z))):Code.wp Tryz.prog (lpb heL) (Exit.then K Q) a W:=by subst he;obtain⟨t,d⟩:=a;obtain⟨⟨hd,X,t4,t5,t6,t9⟩,t47,t48,t49⟩:=hA;simp only at hd X t4 t5 t6 t9 t47 t48 t49;obtain⟨x0,x1,x2,x3,x4,x5,x6,x7,x8,x9,aa,ab,ad,ae,af,ag,ah,ai,aj,ak,al,an,ao,aq,ar,au,av,aw,ax,ay,az,aB,aP,b0,b1,b2,b3,b7,b8,ba,bb,bc,bd,bf,bg,bh,bj,bk,bl,bm,bn,bo,bp,bq,br,bs,bt,bu,bx,bz,bX,c5,c6,c7,c8,c9,ca,cb,cc,cd,cf,ch,cj,ck,cm,cn,cq,cr,ct,cu,cv,r,rfl⟩:=ZP X;simp only[Qao,Qcc,Qbj,Qbi,Qbc] at t4 t5 t6 t9 t47 t48 t49;subst hd t4 t5 t6 t9 t47 t48 t49;unfold heL he5 heI;simp only[Tryz.f71,AG,sqa,sqb,lpb,Qbc];clear X;go_wp2_with (go_at_call 129;refine hC.mono ?_;rintro _ h ⟨rfl,f3,fi,fg,ff,hP⟩);exact hK _ _ hP ⟨⟨rfl,by simp,by simp,by simp,by simp,by simp⟩,by simp,by simp,by simp⟩
def Agt {y0 y1 y2 y3 y4:Value} {X b5 h i Y cap len g c Z k nl cl pb off:Nat} {rk lk z I:Int} {a:Act} {W:World} (hA:bB X b5 h i (some ⟨pb,off,none⟩) nl cl k a) (c3:W.cell? ⟨X,3,none⟩=some (.slice (some ⟨Y,0,none⟩) len cap)) (ci:W.cell? ⟨Y,i,none⟩=some (.slice (some ⟨g,0,none⟩) Z c)) (cg:W.cell? ⟨g,k,none⟩=some (.int .i64 rk)) (a1:W.cell? ⟨pb,off+k,none⟩=some (.int .i64 lk))
 (hi:(i:Int)<(len:Int)) (a6:(0:Int)<=(i:Int)) (hk:(k:Int)<(nl:Int)) (a7:(0:Int)<=(k:Int)) (a8:(k:Int)<(Z:Int)) (hm:(nl:Int)<=1000000000000000) {Post:World->Prop}
 (hC:Calls Tryz.prog 129 #[.int .i64 rk,.int .i64 lk,.int .i64 16384] W λe y=>e=.returned (.tuple #[.int .i64 z,.int .i64 I])/\(y.cell? ⟨h,0,none⟩=some y0/\y.frozen? ⟨h,0,none⟩=false/\y.cell? ⟨h,1,none⟩=some y1/\y.frozen? ⟨h,1,none⟩=false/\y.cell? ⟨h,2,none⟩=some y2/\y.frozen? ⟨h,2,none⟩=false/\y.cell? ⟨h,3,none⟩=some y3/\y.frozen? ⟨h,3,none⟩=false/\y.cell? ⟨h,4,none⟩=some y4/\y.frozen? ⟨h,4,none⟩=false)/\Post y) (he:¬I=0)
 {K:Act->World->Prop} {Q:Exit->Act->World->Prop} (hQ:∀E y,Post y->E.defers=[]->E.tmps.getD 6 undef=.pointer (some ⟨h,0,none⟩)->E.tmps.getD 7 undef=.int .i64 I->Q .ret E (((((y.setCell ⟨h,0,none⟩ (.slice none 0 0)).setCell ⟨h,1,none⟩ (.slice none 0 0)).setCell ⟨h,2,none⟩ (.slice none 0 0)).setCell ⟨h,3,none⟩ (.slice none 0 0)).setCell ⟨h,4,none⟩ (.slice none 0 0))):Code.wp Tryz.prog (lpb heL) (Exit.then K (Exit.inBlock 0 (Exit.then (heE.wp Tryz.prog Q) Q))) a W:=by obtain⟨t,d⟩:=a;obtain⟨⟨hd,J,t4,t5,t6,t9⟩,t47,t48,t49⟩:=hA;simp only at hd J t4 t5 t6 t9 t47 t48 t49;obtain⟨x0,x1,x2,x3,x4,x5,x6,x7,x8,x9,aa,ab,ad,ae,af,ag,ah,ai,aj,ak,al,an,ao,aq,ar,au,av,aw,ax,ay,az,aB,aP,b0,b1,b2,b3,b7,b8,ba,bb,bc,bd,bf,bg,bh,bj,bk,bl,bm,bn,bo,bp,bq,br,bs,bt,bu,bx,bz,bX,c5,c6,c7,c8,c9,ca,cb,cc,cd,cf,ch,cj,ck,cm,cn,cq,cr,ct,cu,cv,r,rfl⟩:=ZP J;simp only[Qao,Qcc,Qbj,Qbi,Qbc] at t4 t5 t6 t9 t47 t48 t49;subst hd t4 t5 t6 t9 t47 t48 t49;unfold heL heE he5 heI;simp only[Tryz.f71,AG,sqa,sqb,lpb,Qbc];clear J;go_wp2_with (go_at_call 129;refine hC.mono ?_;rintro _ y ⟨rfl,⟨f0,g0,f1,g1,f2,g2,f3,g3,f4,g4⟩,hP⟩);exact hQ _ _ hP rfl (by simp) (by simp)
def Ags {y0 y1 y2 y3 y4:Value} {g Z c i nl cl:Nat} {pl:Option Addr} {p0 p1 p2 y E:Option Addr} {n0 n1 n2 I J c0 c1 c2 c3 c4:Nat} {a:Act} {W:World} (hA:bB g Z c i pl nl cl nl a) {e4 e6:TypeId} (h4:W.heap[g]?=some (.cells #[.slice p0 n0 c0,.slice p1 n1 c1,.slice p2 n2 c2,.slice y I c3,.slice E J c4] e4 (0,0))) (h6:W.heap[c]?=some (.cells #[y0,y1,y2,y3,y4] e6 (0,0)))
 {K:Act->World->Prop} {Q:Exit->Act->World->Prop} (hQ:∀h,h.defers=[]->h.tmps.getD 6 undef=.pointer (some ⟨c,0,none⟩)->h.tmps.getD 7 undef=.int .i64 0->Q .ret h (((((W.setCell ⟨c,0,none⟩ (.slice p0 n0 c0)).setCell ⟨c,1,none⟩ (.slice p1 n1 c1)).setCell ⟨c,2,none⟩ (.slice p2 n2 c2)).setCell ⟨c,3,none⟩ (.slice y I c3)).setCell ⟨c,4,none⟩ (.slice E J c4))):Code.wp Tryz.prog (lpb heL) (Exit.then K (Exit.inBlock 0 (Exit.then (heE.wp Tryz.prog Q) Q))) a W:=by
 obtain⟨t,d⟩:=a;obtain⟨⟨Y,X,t4,t5,t6,t9⟩,t47,t48,t49⟩:=hA;simp only at Y X t4 t5 t6 t9 t47 t48 t49;obtain⟨x0,x1,x2,x3,x4,x5,x6,x7,x8,x9,a6,a7,a8,aa,ab,ad,ae,af,ag,ah,ai,aj,ak,al,an,ao,aq,ar,au,av,aw,ax,ay,az,aB,aP,b0,b1,b2,b3,b7,b8,ba,bb,bc,bd,bf,bg,bh,bj,bk,bl,bm,bn,bo,bp,bq,br,bs,bt,bu,bx,bz,bX,c5,c6,c7,c8,c9,ca,cb,cc,cd,cf,cg,ch,cj,ck,cm,cn,cq,r,rfl⟩:=ZP X;simp only[Qao,Qcc,Qbj,Qbi,Qbc] at t4 t5 t6 t9 t47 t48 t49;subst Y t4 t5 t6 t9 t47 t48 t49;have a0:W.cell? ⟨g,0,none⟩=some (.slice p0 n0 c0):=by simp[World.cell?,h4]
 have k0:W.cell? ⟨c,0,none⟩=some y0:=by simp[World.cell?,h6]
 have f0:W.frozen? ⟨c,0,none⟩=false:=by simp[World.frozen?,h6]
 have a1:W.cell? ⟨g,1,none⟩=some (.slice p1 n1 c1):=by simp[World.cell?,h4]
 have k1:W.cell? ⟨c,1,none⟩=some y1:=by simp[World.cell?,h6]
 have f1:W.frozen? ⟨c,1,none⟩=false:=by simp[World.frozen?,h6]
 have a2:W.cell? ⟨g,2,none⟩=some (.slice p2 n2 c2):=by simp[World.cell?,h4]
 have k2:W.cell? ⟨c,2,none⟩=some y2:=by simp[World.cell?,h6]
 have f2:W.frozen? ⟨c,2,none⟩=false:=by simp[World.frozen?,h6]
 have a3:W.cell? ⟨g,3,none⟩=some (.slice y I c3):=by simp[World.cell?,h4]
 have k3:W.cell? ⟨c,3,none⟩=some y3:=by simp[World.cell?,h6]
 have f3:W.frozen? ⟨c,3,none⟩=false:=by simp[World.frozen?,h6]
 have a4:W.cell? ⟨g,4,none⟩=some (.slice E J c4):=by simp[World.cell?,h4]
 have k4:W.cell? ⟨c,4,none⟩=some y4:=by simp[World.cell?,h6]
 have f4:W.frozen? ⟨c,4,none⟩=false:=by simp[World.frozen?,h6]
 clear h4 h6;unfold heL heE he5 heI;simp only[Tryz.f71,AG,sqa,sqb,lpb,Qbc];clear X;go_wp2;exact hQ _ rfl (by simp) (by simp)
abbrev heZ:AZ:=([],([],([],([],[]))))
def ZG (l:List Int) (c:Int×List Int):Step (Int×List Int) (Option (List Int×Int)) :=
(γ (decide (c.1<Aa l))
(Ad (idx l c.1) (.done none) λg =>
 Ad (idx c.2 c.1) (.done none) λh =>
 Ad (G8 (h,(g,16384))) (.done none) λd =>
 γ (!d.2==0)
(.done (some (c.2,d.2)))
(.next (wr .i64 (c.1+1),AB c.2 c.1 d.1)))
(.done (some (c.2,0))))
def AcZ {x y} (h:E7 x=some y):heT x=some (.inl y) \/
 ∃(i:Nat) (row:List Int) (z:List Int×Int),heT x=some (.inr (jU x.2.1 x.2.2 (i:Int)))/\x.2.1.2.2.2.1[i]?=some row/\Aa x.2.2.2.2.2=Aa row/\DU x.2.1=some x.2.1/\YS x.2.1/\iter none (ZG x.2.2.2.2.2) Am ((0:Int),row)=some z /\
  (z.2≠0/\y=(heZ,z.2)\/z.2=0/\y=(FT x.2.1 i z.1,0)):=by
 unfold E7 at h
 unfold heT
 obtain⟨a0,h0,t⟩:=AF h
 rw[h0,ε rfl]
 by_cases c0:a0=0
 rotate_left
 .rw[ι (by simpa using c0)] at t ⊢<;>simp_all
 rw[κ (by simpa using c0)] at t ⊢
 obtain⟨E,h1,g1⟩:=AF t
 rw[h1,ε rfl]
 by_cases c1:E.2=0
 rotate_left
 .rw[ι (by simpa using c1)] at g1 ⊢<;>simp_all
 rw[κ (by simpa using c1)] at g1 ⊢
 obtain⟨I,c,g⟩:=AF g1
 rw[c,ε rfl]
 by_cases c2:Aa x.2.2.2.2.2=Aa I
 rotate_left
 .rw[ι (by simpa using c2)] at g ⊢;exact .inl (congrArg (Option.map Sum.inl) g)
 rw[κ (by simpa using c2)] at g ⊢
 obtain⟨a3,J,X⟩:=AF g
 obtain⟨e3,Y⟩:=qG J
 subst e3
 obtain⟨a4,h4,Z⟩:=AF X
 rw[c] at h4
 cases h4
 obtain⟨z,h5,d⟩:=AF Z
 obtain⟨i0,i1,_⟩:=Ag c
 obtain⟨i,hi⟩:∃i:Nat,E.1=i:=⟨E.1.toNat,by omega⟩
 refine .inr ⟨i,I,z,by rw[hi],by rw[hi,AY (by omega)] at c;exact c,c2,J,Y,h5,?_⟩
 by_cases c3:z.2=0
 .rw[κ (by simpa using c3)] at d;right;refine ⟨c3,?_⟩;rw[hi] at d;exact (Qag d).symm
 .rw[ι (by simpa using c3)] at d;exact .inl ⟨c3,(Qag d).symm⟩
structure HeS (w W1:World) (F O:Nat->Prop) (m:AZ) (i b4 b6 B3 cap:Nat) (e3 e4 e6:TypeId) (p0 p1 p2 p4:Option Addr) (n0 n1 n2 n4 c0 c1 c2 c4:Nat) (G:Option Nat) (vs:Array Value) (pl:Option Addr) (cl:Nat) (y0 y1 y2 y3 y4:Value) (l r:List Int) (W:World):Prop where
 v:V w
 below:Below w.heap.size w W
 n:w.heap.size<=W1.heap.size/\W1.heap.size<=W.heap.size
 tw:TwR W1.heap.size O (λ_=>False) (FT m i r) i B3 cap e3 (.slice p0 n0 c0) (.slice p1 n1 c1) (.slice p2 n2 c2) (.slice p4 n4 c4) G True vs W
 h4:W.heap[b4]?=some (.cells #[.slice p0 n0 c0,.slice p1 n1 c1,.slice p2 n2 c2,.slice (some ⟨B3,0,none⟩) m.2.2.2.1.length cap,.slice p4 n4 c4] e4 (0,0))
 h6:W.heap[b6]?=some (.cells #[y0,y1,y2,y3,y4] e6 (0,0))
 lt:b4<W1.heap.size/\b6<W1.heap.size/\w.heap.size<=b6/\O b6
 f:∀c,F c->O c
 fl:∀c,F c->c<w.heap.size
 rep:Reads W O Λ l [.slice pl l.length cl]
 rw:∀c,(∃b off,pl=some ⟨b,off,none⟩/\c=b)->c<W1.heap.size\/l.length=0
 il:i<m.2.2.2.1.length
def rJ {W W' O} (h:Below W.heap.size W W'):ν W O W' O:=⟨h.size,λb c d=>⟨d,h.block b c⟩⟩
section
variable {w W1:World} {F O:Nat->Prop} {m:AZ} {i b4 b5 b6 B3 cap:Nat} {e3 e4 e6:TypeId} {p0 p1 p2 p4:Option Addr} {n0 n1 n2 n4 c0 c1 c2 c4:Nat} {G:Option Nat} {vs:Array Value} {pl:Option Addr} {cl:Nat} {y0 y1 y2 y3 y4:Value} {l r:List Int} {W W2:World}
def HeS.grow (h:HeS w W1 F O m i b4 b6 B3 cap e3 e4 e6 p0 p1 p2 p4 n0 n1 n2 n4 c0 c1 c2 c4 G vs pl cl y0 y1 y2 y3 y4 l r W) (c:Below W.heap.size W W2):HeS w W1 F O m i b4 b6 B3 cap e3 e4 e6 p0 p1 p2 p4 n0 n1 n2 n4 c0 c1 c2 c4 G vs pl cl y0 y1 y2 y3 y4 l r W2:=by exact ⟨h.v,h.below.trans (c.mono h.below.size),⟨h.n.1,Qbh h.n.2 c.size⟩,h.tw.tζ c.size λb d _=>c.block b d,(c.block _ (Array.getElem?_eq_some_iff.1 h.h4).1).trans h.h4,(c.block _ (Array.getElem?_eq_some_iff.1 h.h6).1).trans h.h6,h.lt,h.f,h.fl,Av (rJ c) Λ h.rep,h.rw,h.il⟩
def HeS.here (h:HeS w W1 F O m i b4 b6 B3 cap e3 e4 e6 p0 p1 p2 p4 n0 n1 n2 n4 c0 c1 c2 c4 G vs pl cl y0 y1 y2 y3 y4 l r W):(FT m i r).2.2.2.1[i]?=some r:=by simp only[FT,AB,Qae];exact List.getElem?_set_self h.il
def HeS.write {k z g} (h:HeS w W1 F O m i b4 b6 B3 cap e3 e4 e6 p0 p1 p2 p4 n0 n1 n2 n4 c0 c1 c2 c4 G vs pl cl y0 y1 y2 y3 y4 l r W) (Y:k<r.length) (Z:inR .i64 z=true) (hg:G=some g) :
 HeS w W1 F O m i b4 b6 B3 cap e3 e4 e6 p0 p1 p2 p4 n0 n1 n2 n4 c0 c1 c2 c4 G vs pl cl y0 y1 y2 y3 y4 l (r.set k z) (W.setCell ⟨g,k,none⟩ (.int .i64 z)):=by
 have t:=h.tw.g g hg;have I:=h.tw.write h.here Y Z hg;have e:FT (FT m i r) i (r.set k z)=FT m i (r.set k z):=by simp only[FT,AB,List.set_set]
 rw[e] at I;have d:=h.lt;have a1:(W.setCell ⟨g,k,none⟩ (.int .i64 z)).heap.size=W.heap.size:=by simp_all
 have y:Below W1.heap.size W (W.setCell ⟨g,k,none⟩ (.int .i64 z)):=(Below.refl _ W).setCell t.1 _;refine ⟨h.v,h.below.trans (y.mono h.n.1),⟨h.n.1,by omega⟩,I,(y.block _ d.1).trans h.h4,(y.block _ d.2.1).trans h.h6,h.lt,h.f,h.fl,?_,h.rw,h.il⟩;obtain⟨a,c,J,q2,q3,E⟩:=h.rep;refine ⟨a,c,J,q2,q3,?_⟩;rcases E with E|⟨b,off,cells,rfl,k1,k2,k3,k4⟩
 .exact .inl E
 .cases J;rcases h.rw b ⟨b,off,rfl,rfl⟩ with X|X
  .refine .inr ⟨b,off,cells,rfl,k1,by omega,λj v hj=>?_,k4.mono λ_ _=>FE ζ rfl⟩;rw[World.cell?_setCell_far _ _ _ _ (show g≠b by omega)];exact k3 j v hj
  .exact .inl X
end
def Aa2 {W a b} (d:V W) {O:Nat->Prop} (g:∀b,O b->b<W.heap.size) (h:inR .i64 a=true) (t:inR .i64 b=true) :
 Calls Tryz.prog 129 #[.int .i64 a,.int .i64 b,.int .i64 16384] W λe W2=>e=.returned (.tuple #[.int .i64 (CA (a,(b,16384))).1,.int .i64 (CA (a,(b,16384))).2])/\Below W.heap.size W W2/\inR .i64 (CA (a,(b,16384))).1=true/\inR .i64 (CA (a,(b,16384))).2=true :=
 (Zε.ok.calls W O [.int .i64 a,.int .i64 b,.int .i64 16384] (a,(b,(16384:Int))) (CA (a,(b,16384))) d g ⟨_,_,⟨rfl,h⟩,rfl,_,_,⟨rfl,t⟩,rfl,_,⟨rfl,rfl⟩,rfl⟩ rfl).mono λe W2 ⟨rs,y,E,us,vs,⟨h1,I⟩,J,X,⟨h4,c⟩,Y⟩=>by subst J h1 Y h4;exact ⟨y,E,I,c⟩
def Adu {W O pl cl k} {l:List Int} (h:Reads W O Λ l [.slice pl l.length cl]) g:∃b off,pl=some ⟨b,off,none⟩/\W.cell? ⟨b,off+k,none⟩=some (.int .i64 l[k])/\inR .i64 l[k]=true:=by
 obtain⟨a,c,t,J,X,d⟩:=h;cases t;rcases d with d|⟨b,off,cells,rfl,k1,Y,y,E⟩
 .have d:l.length=0:=d;omega
 .obtain⟨Z,I⟩:=Hε.1 E;refine ⟨b,off,rfl,y k _ (by simp_all),I _ (Qgf g)⟩
def AeN {w W1 F O m i b4 b5 b6 B3 cap e3 e4 e6 p0 p1 p2 p4 n0 n1 n2 n4 c0 c1 c2 c4 G vs pl cl y0 y1 y2 y3 y4 l z Q} (hO:∀b,O b->b<W1.heap.size) (hl:Aa l<=1000000000000000) (hm:Aa m.2.2.2.1<=1000000000000000)
 (hQ:∀t r W,HeS w W1 F O m i b4 b6 B3 cap e3 e4 e6 p0 p1 p2 p4 n0 n1 n2 n4 c0 c1 c2 c4 G vs pl cl y0 y1 y2 y3 y4 l r W->z=(r,0)->t.defers=[]->t.tmps.getD 6 undef=.pointer (some ⟨b6,0,none⟩)->t.tmps.getD 7 undef=.int .i64 0->Q .ret t (((((W.setCell ⟨b6,0,none⟩ (.slice p0 n0 c0)).setCell ⟨b6,1,none⟩ (.slice p1 n1 c1)).setCell ⟨b6,2,none⟩ (.slice p2 n2 c2)).setCell ⟨b6,3,none⟩ (.slice (some ⟨B3,0,none⟩) m.2.2.2.1.length cap)).setCell ⟨b6,4,none⟩ (.slice p4 n4 c4)))
 (hE:∀t r W er,HeS w W1 F O m i b4 b6 B3 cap e3 e4 e6 p0 p1 p2 p4 n0 n1 n2 n4 c0 c1 c2 c4 G vs pl cl y0 y1 y2 y3 y4 l r W->z=(r,er)->er≠0->inR .i64 er=true->t.defers=[]->t.tmps.getD 6 undef=.pointer (some ⟨b6,0,none⟩)->t.tmps.getD 7 undef=.int .i64 er->Q .ret t (((((W.setCell ⟨b6,0,none⟩ (.slice none 0 0)).setCell ⟨b6,1,none⟩ (.slice none 0 0)).setCell ⟨b6,2,none⟩ (.slice none 0 0)).setCell ⟨b6,3,none⟩ (.slice none 0 0)).setCell ⟨b6,4,none⟩ (.slice none 0 0))) :
 ∀n k,n+k=l.length->∀ {a} {W} {r} {fuel},bB b4 b5 b6 i pl l.length cl k a->HeS w W1 F O m i b4 b6 B3 cap e3 e4 e6 p0 p1 p2 p4 n0 n1 n2 n4 c0 c1 c2 c4 G vs pl cl y0 y1 y2 y3 y4 l r W->iter none (ZG l) fuel ((k:Int),r)=some z ->
 Code.rounds Tryz.prog (lpb heL) (Exit.inBlock 0 (Exit.then (heE.wp Tryz.prog Q) Q)) (n+1) a W:=by
 intro n;induction n with
 |zero =>
  intro k hk a W r fuel hA hS d;obtain rfl:k=l.length:=by omega
  cases fuel with
  |zero=>cases d
  |succ fuel =>
  simp only[iter,ZG] at d;rw[κ (decide_eq_false (by unfold Aa;omega))] at d;rw[rounds_succ];exact Ags hA hS.h4 hS.h6 λt d1 J X=>hQ t r W hS (Qag d).symm d1 J X
 |succ n ih =>
  intro k hk a W r fuel hA hS d;have af:k<l.length:=by omega
  cases fuel with
  |zero=>cases d
  |succ fuel =>
  have ag:idx l (k:Int)=some l[k]:=by rw[AY (by omega),Qae]<;>grind
  simp only[iter,ZG] at d;rw[ι (decide_eq_true (show (k:Int)<Aa l by unfold Aa;omega)),ε ag] at d;cases hr:idx r (k:Int) with
  |none=>rw[hr] at d;cases d
  |some y =>
  rw[ε hr,ε (Jb _)] at d;obtain⟨an,ah,_⟩:=Ag hr;have E:k<r.length:=by unfold Aa at ah;omega
  have Y:r[k]=y:=by rw[AY (by omega),Qae,Qdv E] at hr<;>grind
  obtain⟨g,c,cs,e,a1,a2,a3,ao,a4,a5,a6,a7⟩:=hS.tw.row hS.here (by omega);obtain⟨pb,off,rfl,Z,ai⟩:=Adu hS.rep af;have a8:=a7 _ (Qgf E);rw[Y] at a8;have aj:cs[k]?=some (.int .i64 y):=by
   have e1:(cs.toList.take r.length)[k]?=some (.int .i64 y):=by rw[a6,Qbf,Qdv E,Y];rfl
   rw[Qbg,if_pos E,Qav] at e1;exact e1
  have aq:=hS.il;have cells:∀ {W2:World},HeS w W1 F O m i b4 b6 B3 cap e3 e4 e6 p0 p1 p2 p4 n0 n1 n2 n4 c0 c1 c2 c4 G vs (some ⟨pb,off,none⟩) cl y0 y1 y2 y3 y4 l r W2->W2.heap[g]?=some (.cells cs e (0,0))->W2.cell? ⟨b4,3,none⟩=some (.slice (some ⟨B3,0,none⟩) m.2.2.2.1.length cap)/\W2.cell? ⟨B3,i,none⟩=some (.slice (some ⟨g,0,none⟩) r.length c)/\W2.cell? ⟨g,k,none⟩=some (.int .i64 y)/\W2.frozen? ⟨g,k,none⟩=false:=λ{W2} h hg=>by refine ⟨by simp[World.cell?,h.h4],by simp[World.cell?,h.tw.rows,a1],by simp[World.cell?,hg,aj],by simp[World.frozen?,hg]⟩
  obtain⟨aa,ab,ad,_⟩:=cells hS a4;have ae:=Aa2 (stays _ _ hS.below hS.v) (λb hb=>Qac (hO b hb) hS.n.2) a8 ai;rw[rounds_succ];by_cases hz:(CA (y,(l[k],16384))).2=0
  .rw[κ (by simpa using hz)] at d;simp only at d;rw[Aj ((k:Int)+1) (by omega) (by unfold Aa at hl;omega)] at d;refine AcY hA aa ab ad Z (by omega) (by omega) (by omega) (by omega) (by omega) (by unfold Aa at hl;omega) (z:=(CA (y,(l[k],16384))).1) (Post:=λW2=>Below W.heap.size W W2/\inR .i64 (CA (y,(l[k],16384))).1=true) (ae.mono ?_) hz λt W2 hP ak=>?_
   .rintro e' W2 ⟨rfl,I,q1,q2⟩;obtain⟨d1,J,X,d4⟩:=cells (hS.grow I) ((I.block g (hS.tw.g g a2).2.2.2).trans a4);exact ⟨rfl,d1,J,X,d4,I,q1⟩
   .obtain⟨I,al⟩:=hP;refine ih (k+1) (by omega) (fuel:=fuel) ak ((hS.grow I).write E al a2) ?_;have e1:AB r (k:Int) (CA (y,(l[k],16384))).1=r.set k (CA (y,(l[k],16384))).1:=by unfold AB;rw[Qae]
    rw[<-e1];exact d
  .rw[ι (by simpa using hz)] at d;simp only at d;refine Agt (y0:=y0) (y1:=y1) (y2:=y2) (y3:=y3) (y4:=y4) hA aa ab ad Z (by omega) (by omega) (by omega) (by omega) (by omega) (by unfold Aa at hl;omega) (z:=(CA (y,(l[k],16384))).1) (Post:=λW2=>Below W.heap.size W W2/\inR .i64 (CA (y,(l[k],16384))).2=true) (ae.mono ?_) hz λt W2 hP d1 J X=>hE t r W2 _ (hS.grow hP.1) (Qag d).symm hz hP.2 d1 J X;rintro e' W2 ⟨rfl,I,q1,q2⟩;exact ⟨rfl,by simp[World.cell?,World.frozen?,(hS.grow I).h6],I,q2⟩
def pE {R}:∀ {l} {vs},vs.length=l.length->(∀(j:Nat) (r:List Int),l[j]?=some r->∃v,vs[j]?=some v/\R r [v])->ξ R l vs
 |[],[],_,_=>rfl
 |[],_::_,h,_=>by simp at h
 |_::_,[],h,_=>by simp at h
 |x::l,v::vs,h,c=>by obtain⟨u,h1,d⟩:=c 0 x rfl;cases h1;exact ⟨[v],vs,rfl,d,pE (by simpa using h) λj r g=>c (j+1) r (by simpa using g)⟩
def YB (w:World) (F:Nat->Prop) (y:AZ×Int) (e:Ending) (w':World):Prop:=∃rs,e=.returned (Cp rs)/\Below w.heap.size w w'/\Gd w.heap.size w' F false [Cb,ζ] y rs
def AdP {n0 F O ob x i t cap e3 J u1 u2 X G vs W} (h:TwR n0 O ob x i t cap e3 J u1 u2 X G True vs W) (hF:∀c,F c->O c):Reads W F Cb x [J,u1,u2,.slice (some ⟨t,0,none⟩) x.2.2.2.1.length cap,X]:=by
 have y:ν W (TwO O ob t G) W F:=⟨χ _,λb _ hO=>⟨λY=>hO (.inl (hF b Y)),rfl⟩⟩;have E:∀c,n0<=c->¬F c:=λc hc Y=>by have:=h.f c (hF c Y);omega
 refine ⟨[J],_,rfl,Av y Dz h.r0,[u1],_,rfl,Av y Dz h.r1,[u2],_,rfl,Av y Hj h.r2,[.slice (some ⟨t,0,none⟩) x.2.2.2.1.length cap],[X],rfl,⟨some ⟨t,0,none⟩,cap,rfl,h.len.1,h.len.2,.inr ⟨t,0,vs.toList.take x.2.2.2.1.length,rfl,E _ h.b3.1,(Array.getElem?_eq_some_iff.1 h.rows).1,λj v d=>?_,?_⟩⟩,Av y Dz h.r4⟩
 .rw[Qbg] at d;split at d
  .rw[Qav] at d;have:=h.rows;simp[World.cell?,this,d]
  .cases d
 .have a6:=h.sz;have a1:=h.len.1;refine pE (by simp_all) λj r d=>?_;rw[Qbg,if_pos (List.getElem?_eq_some_iff.1 d).1,Qav];by_cases e:j=i
  .subst e;obtain⟨v,Z,I⟩:=h.here r d;rcases I with ⟨_,I⟩|⟨q,_⟩
   .exact ⟨v,Z,Xg rfl (λb hb=>E b (h.g b hb).1) I⟩
   simp_all
  .obtain⟨v,Z,I⟩:=h.each j r e d;exact ⟨v,Z,Av y Λ I⟩
def Aa1 {w W F y g u1 u2 t E c I a} (J:Below w.heap.size w W) (X:Reads W F Cb y.1 [g,u1,u2,t,E]) (hi:inR .i64 y.2=true) (h6:W.heap[c]?=some (.cells #[g,u1,u2,t,E] I (0,0))) (h1:a.defers=[]) (Y:a.tmps.getD 6 undef=.pointer (some ⟨c,0,none⟩)) (d:a.tmps.getD 7 undef=.int .i64 y.2):bodyPost Tryz.prog Tryz.f71 (YB w F y) .ret a W:=by
 have Z:W.cell? ⟨c,0,none⟩=some g:=by simp[World.cell?,h6]
 have m1:W.cell? ⟨c,1,none⟩=some u1:=by simp[World.cell?,h6]
 have m2:W.cell? ⟨c,2,none⟩=some u2:=by simp[World.cell?,h6]
 have m3:W.cell? ⟨c,3,none⟩=some t:=by simp[World.cell?,h6]
 have m4:W.cell? ⟨c,4,none⟩=some E:=by simp[World.cell?,h6]
 have t6:a.tmps[6]?=some (.pointer (some ⟨c,0,none⟩)):=by rw[Qao] at Y<;>grind
 have t7:a.tmps[7]?=some (.int .i64 y.2):=by
  rw[Qao] at d;cases h:a.tmps[7]? with
  |none=>rw[h] at d;cases d
  |some z=>rw[h] at d;exact congrArg some d
 refine ⟨h1,_,?_,[.agg #[g,u1,u2,t,E],.int .i64 y.2],rfl,J,_,_,X,rfl,_,⟨rfl,hi⟩,rfl⟩;simp[results,Tryz.f71,go_sem,t6,t7,Z,m1,m2,m3,m4,Cp]
def HS {W O v} {T:Ty} {l:List T.δ} (h:Reads W O (.slice T) l [v]):∃p c,v=.slice p l.length c:=by obtain⟨a,c,q,_⟩:=h<;>simp_all
def Agv {w F y st μ O a W} (c:At ⟨w,λ_=>False,w.heap.size,F,[]⟩ twR 81 (λ_=>none) F w st μ O a W) (hg:Pd st=some (.inl y)):bodyPost Tryz.prog Tryz.f71 (YB w F y) .ret a W:=by unfold Pd at hg;obtain⟨y',t,e⟩:=Option.map_eq_some_iff.1 hg;cases e;obtain⟨vs,ks,g,d,E⟩:=L0 t;obtain⟨us,k1,I⟩:=Eu c.mem c.env g;refine ⟨c.defers,_,Gy (by kernel_rfl) k1,us,rfl,c.mem.below,Cm ⟨χ _,λb _ h=>⟨λJ=>h (c.mem.foreign b J),rfl⟩⟩ c.mem.heap d I λk X p b Y h=>?_⟩;obtain⟨o,Z⟩:=Gn d k X;obtain⟨_,h2,h3⟩:=c.mem.own k o Z p b Y h<;>simp_all
def AgV {W:World} {b:Nat} {e:TypeId} {y0 y1 y2 y3 y4:Value} (v0 d g v3 v4:Value) (h:W.heap[b]?=some (.cells #[y0,y1,y2,y3,y4] e (0,0))) :
 (((((W.setCell ⟨b,0,none⟩ v0).setCell ⟨b,1,none⟩ d).setCell ⟨b,2,none⟩ g).setCell ⟨b,3,none⟩ v3).setCell ⟨b,4,none⟩ v4).heap[b]?=some (.cells #[v0,d,g,v3,v4] e (0,0)) /\
 (((((W.setCell ⟨b,0,none⟩ v0).setCell ⟨b,1,none⟩ d).setCell ⟨b,2,none⟩ g).setCell ⟨b,3,none⟩ v3).setCell ⟨b,4,none⟩ v4).heap.size=W.heap.size /\
 (∀B,B<=b->Below B W (((((W.setCell ⟨b,0,none⟩ v0).setCell ⟨b,1,none⟩ d).setCell ⟨b,2,none⟩ g).setCell ⟨b,3,none⟩ v3).setCell ⟨b,4,none⟩ v4)) /\
 ∀c,c≠b->(((((W.setCell ⟨b,0,none⟩ v0).setCell ⟨b,1,none⟩ d).setCell ⟨b,2,none⟩ g).setCell ⟨b,3,none⟩ v3).setCell ⟨b,4,none⟩ v4).heap[c]?=W.heap[c]? :=
 ⟨heap_setCell_same _ b 4 _ _ v4 (heap_setCell_same _ b 3 _ _ v3 (heap_setCell_same _ b 2 _ _ g (heap_setCell_same _ b 1 _ _ d (heap_setCell_same W b 0 _ _ v0 h)))),by simp[World.setCell],λB t=>(((((Below.refl B W).setCell t _).setCell t _).setCell t _).setCell t _).setCell t _,λc y=>by repeat rw[Below.heap_setCell _ _ _ _ y]⟩
def Abt {W:World} {F:Nat->Prop}:Reads W F Cb heZ [.slice none 0 0,.slice none 0 0,.slice none 0 0,.slice none 0 0,.slice none 0 0] :=
 ⟨[_],_,rfl,⟨none,0,rfl,χ _,Qaw _,.inl rfl⟩,[_],_,rfl,⟨none,0,rfl,χ _,Qaw _,.inl rfl⟩,[_],_,rfl,⟨none,0,rfl,χ _,Qaw _,.inl rfl⟩,[_],_,rfl,⟨none,0,rfl,χ _,Qaw _,.inl rfl⟩,⟨none,0,rfl,χ _,Qaw _,.inl rfl⟩⟩
def AeP {w:World} {F:Nat->Prop} {x:AU×AZ×Fs} {y:AZ×Int} {I:List Value} (hV:V w) (hF:∀b,F b->b<w.heap.size) (hr:BP w F [CE,Cb,Jj] x I) (hy:E7 x=some y):Calls Tryz.prog 71 I.toArray w (YB w F y):=by
 have hC:DG heC ⟨w,λ_=>False,w.heap.size,F,[]⟩:=⟨HM,λw' hb=>stays w w' hb hV,Gt⟩;have hB:∀k,¬(⟨w,λ_=>False,w.heap.size,F,[]⟩:Ξ).D k:=λ_ E=>E;have hm:heC.P.follows .mixedOrders=true:=IM;have hI:=EE hC hB hm (HL .nil) 1;have t:ρ ⟨w,λ_=>False,w.heap.size,F,[]⟩ twR {env:=[],heap:=[],next:=0} (λ_=>none) F w :=
  {heap:=λk o E=>by simp[St.obj,assoc,twR] at E
   own:=λk o E=>by simp[St.obj,assoc,twR] at E
   inj:=λk k' o o' E=>by simp[St.obj,assoc,twR] at E
   foreign:=λb hb=>hb,flt:=λ_ _=>rfl,dom:=(λk p E=>by cases E),below:=Below.refl _ _,bsize:=χ _,obound:=hF};have RU:∀c,CU 81 c=true->kB heC ⟨w,λ_=>False,w.heap.size,F,[]⟩ (EN heC 1) {} 81 c:=λc hc=>Cc hC hB hI (JP hC hB hm) {} c hc;have ax:At ⟨w,λ_=>False,w.heap.size,F,[]⟩ twR 81 (λ_=>none) F w {env:=CP 0 (Cy [CE,Cb,Jj] x),heap:=[],next:=0} (λ_=>none) F {tmps:=I.toArray++Array.replicate (Tryz.f71.ntmps-I.toArray.size) undef,defers:=[]} w :=
  ⟨t.move (λk o ho=>ho) (χ _),OB (R:=twR) (Dn hr) _,rfl,by rw[show Tryz.f71.ntmps=81 by kernel_rfl];simp;omega,μle.refl _,ν.refl _ _,λk p E=>(t.dom k p E).elim id λh=>absurd h (hB k)⟩;have ay:τ twR {env:=CP 0 (Cy [CE,Cb,Jj] x),heap:=[],next:=0}:=⟨λs hs=>absurd rfl hs,λk E=>absurd rfl E,λk E=>absurd rfl E⟩;obtain⟨res,af,X⟩:∃res,heT x=some res/\(res=.inl y\/∃(i:Nat) (row:List Int) (z:List Int×Int),res=.inr (jU x.2.1 x.2.2 (i:Int))/\x.2.1.2.2.2.1[i]?=some row/\Aa x.2.2.2.2.2=Aa row/\DU x.2.1=some x.2.1/\YS x.2.1/\iter none (ZG x.2.2.2.2.2) Am ((0:Int),row)=some z/\(z.2≠0/\y=(heZ,z.2)\/z.2=0/\y=(FT x.2.1 i z.1,0))):=by
  rcases AcZ hy with h|⟨i,row,z,h,hh⟩
  .exact ⟨_,h,.inl rfl⟩
  .exact ⟨_,h,.inr ⟨i,row,z,rfl,hh⟩⟩
 have early:∀ {st:St} {μ:AI} {O:Nat->Prop} {a:Act} {W:World},At ⟨w,λ_=>False,w.heap.size,F,[]⟩ twR 81 (λ_=>none) F w st μ O a W->Pd st=some res->bodyPost Tryz.prog Tryz.f71 (YB w F y) .ret a W:=λag hg=>by
  rcases X with rfl|⟨i,row,z,rfl,_⟩
  .exact Agv ag hg
  .unfold Pd at hg;obtain⟨_,_,e⟩:=Option.map_eq_some_iff.1 hg;cases e
 refine calls_of_wp (c:=heI.code) Tryz.func71 (by kernel_rfl) ?_;rw[AeL];refine wp_seq (RU he0 (by kernel_rfl) (bad:=none) (Good:=λo=>o=some res) (by simp) ax ay (K:=Agn) (λe st1 bm O1 a1 w1 ah a6 g1=>?_) ((Agu x).trans af));cases e with
 |exit _=>cases g1
 |goto _=>cases g1
 |ret=>exact early a6 g1
 |normal =>
 refine wp_seq (RU he1 (by kernel_rfl) (bad:=none) (Good:=λo=>o=some res) (by simp) a6 ah (K:=Ago) (λe bn bo O2 a2 w2 ai a7 g2=>?_) g1);cases e with
 |exit _=>cases g2
 |goto _=>cases g2
 |ret=>exact early a7 g2
 |normal =>
 refine wp_seq (RU he2 (by kernel_rfl) (bad:=none) (Good:=λo=>o=some res) (by simp) a7 ai (K:=Agp) (λe bp bq O3 a3 w3 aj a8 g3=>?_) g2);cases e with
 |exit _=>cases g3
 |goto _=>cases g3
 |ret=>exact early a8 g3
 |normal =>
 refine wp_seq (RU he3 (by kernel_rfl) (bad:=none) (Good:=λo=>o=some res) (by simp) a8 aj (K:=Agq) (λe br bs O4 a4 w4 ak aa g4=>?_) g3);cases e with
 |exit _=>cases g4
 |goto _=>cases g4
 |ret=>exact early aa g4
 |normal =>
 refine wp_seq (RU he4 (by kernel_rfl) (bad:=none) (Good:=λo=>o=some res) (by simp) aa ak (K:=AcX) (λe st μ O a W bk d g=>?_) g4);cases e with
 |exit _=>cases g
 |goto _=>cases g
 |ret=>exact early d g
 |normal =>
 rcases X with rfl|⟨i,row,z,rfl,Y,az,aB,hT,aP,al⟩
 .cases g
 simp only[AcX,jU,Qaf,Sum.inr.injEq,Qcv,Qdo,and_true] at g;obtain⟨⟨t4,t5,t6,t9⟩,o1,o2,o3⟩:=g;obtain⟨b4,m4,z4⟩:=d.env 4 _ t4;obtain⟨b5,m5,z5⟩:=d.env 5 _ t5;obtain⟨b6,m6,z6⟩:=d.env 6 _ t6;obtain⟨z9,_⟩:=d.env 9 _ t9;have t:=d.mem;obtain⟨bt,b0,e4,an,k4,y4⟩:=t.heap 1 _ o1;obtain⟨bu,b1,e5,ao,k5,y5⟩:=t.heap 2 _ o2;obtain⟨bx,b2,e6,aq,k6,y6⟩:=t.heap 3 _ o3;rw[m4] at an;cases an;rw[m5] at ao;cases ao;rw[m6] at aq;cases aq;obtain⟨l4⟩:=b0;obtain⟨l5⟩:=b1;obtain⟨l6⟩:=b2;obtain⟨v0,v1,v2,v3,v4,rfl,R0,R1,R2,R3,R4⟩:=QP y4;obtain⟨q0,q1,q2,q3,q4,rfl,_⟩:=QP y6;obtain⟨w0,w1,w2,w3,rfl,RL⟩:∃w0 w1 w2 w3,l5=[w0,w1,w2,w3]/\Reads W O Λ x.2.2.2.2.2 [w3]:=by
  obtain _|⟨h0,h⟩:=y5
  obtain _|⟨h1,h⟩:=h
  obtain _|⟨h2,h⟩:=h
  obtain _|⟨h3,h⟩:=h
  cases h;exact ⟨_,_,_,_,rfl,h3⟩
 obtain⟨r0,d0,rfl⟩:=HS (show Reads W O (.slice Ec) _ [v0] from R0);obtain⟨r1,d1,rfl⟩:=HS (show Reads W O (.slice Ec) _ [v1] from R1);obtain⟨r2,d2,rfl⟩:=HS (show Reads W O (.slice Mh) _ [v2] from R2);obtain⟨r3,d3,rfl⟩:=HS (show Reads W O (.slice Λ) _ [v3] from R3);obtain⟨r4,d4,rfl⟩:=HS (show Reads W O (.slice Ec) _ [v4] from R4);obtain⟨pl,cl,rfl⟩:=HS RL;have O4:=t.own 1 _ o1 _ b4 m4 rfl;have O5:=t.own 2 _ o2 _ b5 m5 rfl;have O6:=t.own 3 _ o3 _ b6 m6 rfl;have b3:b5≠b4:=λe=>by have:=t.inj 2 1 _ _ o2 o1 _ _ b5 m5 m4 rfl (by rw[e];rfl);omega
 have b7:b6≠b4:=λe=>by have:=t.inj 3 1 _ _ o3 o1 _ _ b6 m6 m4 rfl (by rw[e];rfl);omega
 have ar:i<x.2.1.2.2.2.1.length:=(List.getElem?_eq_some_iff.1 Y).1;have b8:=Vy hT.c3;have ba:Aa x.2.2.2.2.2<=1000000000000000:=by
  have h1:=hT.each (i:Int) row (by rw[AY (by omega),Qae];exact Y);rw[az];unfold B7 at h1;rw[AK] at h1;split at h1
  .rename_i c;rw[Qap] at c;unfold AA at c;have c:=of_decide_eq_true c;have:=Ahu;omega
  .cases h1
 show Code.wp Tryz.prog he5 _ a W;rw[AeM];refine wp_seq (AeO (Post:=λus W2=>∃B3 cap e3 p0 p1 p2 p4 n0 n1 n2 n4 c0 c1 c2 c4 G vs,us=[.slice p0 n0 c0,.slice p1 n1 c1,.slice p2 n2 c2,.slice (some ⟨B3,0,none⟩) x.2.1.2.2.2.1.length cap,.slice p4 n4 c4]/\Below W.heap.size W W2/\TwR W.heap.size O (λ_=>False) x.2.1 i B3 cap e3 (.slice p0 n0 c0) (.slice p1 n1 c1) (.slice p2 n2 c2) (.slice p4 n4 c4) G True vs W2) ⟨d.defers,d.size,z4,z5,z6,z9⟩ k4 ((AfL (stays _ _ t.below hV) t.obound ⟨_,⟨[_],_,rfl,R0,[_],_,rfl,R1,[_],_,rfl,R2,[_],_,rfl,R3,R4⟩,rfl⟩ aB ar).mono ?_) λa' W2 W3 us hP bb bc ad au ab=>?_)
 .rintro e W2 ⟨B3,cap,e3,u0,u1,u2,u4,G,vs,rfl,J,hR⟩;obtain⟨p0,c0,rfl⟩:=HS hR.r0;obtain⟨p1,c1,rfl⟩:=HS hR.r1;obtain⟨p2,c2,rfl⟩:=HS hR.r2;obtain⟨p4,c4,rfl⟩:=HS hR.r4;exact ⟨_,_,_,_,_,_,_,_,_,_,_,_,_,_,_,rfl,J,_,_,_,_,_,_,_,_,_,_,_,_,_,_,_,_,_,rfl,J,hR⟩
 obtain⟨B3,cap,e3,p0,p1,p2,p4,n0,n1,n2,n4,c0,c1,c2,c4,G,vs,rfl,J,hR⟩:=hP;have av:=J.size;have up:∀b,b<W.heap.size->b≠b4->W3.heap[b]?=W.heap[b]?:=λb hb ae=>(ab b ae).trans (J.block b hb);have bd:W3.heap[b5]? = _:=(up b5 O5.2.2 b3).trans k5;have bf:FT x.2.1 i row=x.2.1:=by unfold FT;rw[fA (by rw[AY (by omega),Qae];exact Y)]
 have bg:ν W O W3 O:=⟨by rw[ad];exact av,λb hb hO=>⟨hO,up b hb λe=>hO (by rw[e];exact O4.1)⟩⟩;have hS:HeS w W F O x.2.1 i b4 b6 B3 cap e3 e4 e6 p0 p1 p2 p4 n0 n1 n2 n4 c0 c1 c2 c4 G vs pl cl q0 q1 q2 q3 q4 x.2.2.2.2.2 row W3:=by
  refine ⟨hV,(t.below.trans (J.mono t.below.size)).trans (au _ O4.2.1.1),⟨t.below.size,by rw[ad];exact av⟩,?_,bc,(up b6 O6.2.2 b7).trans k6,⟨O4.2.2,O6.2.2,O6.2.1.1,O6.1⟩,t.foreign,hF,Av bg Λ RL,?_,ar⟩
  .rw[bf];exact hR.tζ (by rw[ad];exact χ _) λb _ hO=>ab b λe=>hO (by rw[e];exact O4.1)
  .rintro c ⟨b,off,e1,rfl⟩;obtain⟨a,c',q1,q2,q3,q4⟩:=RL;cases q1;rcases q4 with q4|⟨b',bl,cells,e2,k1,k2,_⟩
   .exact .inr q4
   .rw[e1] at e2;cases e2;exact .inl k2
 refine wp_seq (wp_seq (Agw bb (pl:=pl) (nl:=List.length x.2.2.2.2.2) (cl:=cl) (by simp[World.cell?,bd]<;>rfl) λbh aw=>?_));show Code.wp Tryz.prog heL _ bh W3;rw[Agr];refine wp_block (wp_loop_rounds (x.2.2.2.2.2.length+1) (AeN t.obound ba b8 (λa' r W' h hz d1 d2 d3=>?_) (λa' r W' er h hz ae bj d1 d2 d3=>?_) x.2.2.2.2.2.length 0 rfl aw hS aP))
 .obtain⟨g1,g2,g3,g4⟩:=AgV (.slice p0 n0 c0) (.slice p1 n1 c1) (.slice p2 n2 c2) (.slice (some ⟨B3,0,none⟩) x.2.1.2.2.2.1.length cap) (.slice p4 n4 c4) h.h6;rcases al with ⟨Z,_⟩|⟨_,rfl⟩
  .rw[hz] at Z;exact absurd rfl Z
  rw[hz];refine Aa1 (h.below.trans (g3 _ h.lt.2.2.1)) ?_ rfl g1 d1 d2 d3;have:=AdP (h.tw.tζ (W':=_) (by rw[g2];exact χ _) λb _ hO=>g4 b λe=>hO (by rw[e];exact h.lt.2.2.2)) h.f;have e:(FT x.2.1 i r).2.2.2.1.length=x.2.1.2.2.2.1.length:=by simp only[FT,AB,Qfr]
  rw[e] at this;exact this
 .obtain⟨g1,g2,g3,g4⟩:=AgV (.slice none 0 0) (.slice none 0 0) (.slice none 0 0) (.slice none 0 0) (.slice none 0 0) h.h6;rcases al with ⟨_,rfl⟩|⟨Z,_⟩
  .rw[hz];exact Aa1 (y:=(heZ,er)) (h.below.trans (g3 _ h.lt.2.2.1)) Abt bj g1 d1 d2 d3
  .rw[hz] at Z;exact absurd Z ae
def iL:BM Tryz.prog V 71 (spP [CE,Cb,Jj] [Cb,ζ] E7) where
 enters:=enters_of Tryz.func71 (by kernel_rfl) rfl
 tot:=λg hg=>by cases hg
 calls:=λw F c x y d hF h t=>AeP d hF h t
end Go.Proofs.YtlgpjdjcbincgaaGreatDoor
