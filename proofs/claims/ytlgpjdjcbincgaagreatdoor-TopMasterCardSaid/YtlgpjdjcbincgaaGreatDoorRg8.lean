/- Part of a proof: plain readings of Go functions, their contracts, or plain facts of them. -/
import Derived.Test.YtlgpjdjcbincgaaGreatDoorRg7
import Derived.Deep.RegionHeld3
import Derived.Deep.DrawnRows
set_option linter.all false
namespace Go.Proofs.YtlgpjdjcbincgaaGreatDoor
open Go.Den Go.RowKit Go.ChangeShapes Go.Shelf
set_option maxRecDepth 100000
set_option maxHeartbeats 1000000
theorem AaG {x y} (h:B7 x=some y):y=x:=by unfold B7 at h;rw[AK] at h<;>simp_all
theorem AF {α A o y} {f:α->Option A} (h:Ad o none f=some y):∃a,o=some a/\f a=some y:=by
 cases o with
 |none=>cases h
 |some a=>exact ⟨a,rfl,h⟩
structure YS (x:AZ):Prop where
 c0:BJ x.1=some x.1
 c1:BJ x.2.1=some x.2.1
 c2:Ej x.2.2.1=some x.2.2.1
 c3:CY x.2.2.2.1=some x.2.2.2.1
 c4:BJ x.2.2.2.2=some x.2.2.2.2
 each:∀j r,idx x.2.2.2.1 j=some r->B7 r=some r
theorem OT {x y} (h:BJ x=some y):y=x:=by unfold BJ at h;rw[AK] at h<;>simp_all
theorem gV {x y} (h:Ej x=some y):y=x:=by unfold Ej at h;rw[AK] at h<;>simp_all
theorem bZ {x y} (h:CY x=some y):y=x:=by unfold CY at h;rw[AK] at h<;>simp_all
theorem Vy {x y} (h:CY x=some y):Aa x<=1000000000000000:=by
 unfold CY at h;rw[AK] at h;split at h
 ·rename_i c;rw[Qap] at c;unfold AA at c<;>grind
 ·cases h
theorem fA {α:Type} {l:List α} {i} {x:α} (h:idx l i=some x):AB l i x=l:=by obtain⟨c,i1,_⟩:=Ag h;rw[AY c] at h;unfold AB;obtain⟨h1,d⟩:=List.getElem?_eq_some_iff.1 h;rw[<-d,List.set_getElem_self]
theorem qG {x y} (h:DU x=some y):y=x/\YS x:=by
 obtain⟨x0,x1,x2,x3,x4⟩:=x;unfold DU at h;obtain⟨a0,h0,g0⟩:=AF h;obtain⟨p,h1,g1⟩:=AF g0;obtain⟨t,J,g2⟩:=AF g1;obtain⟨a3,v,g3⟩:=AF g2;obtain⟨a4,h4,g4⟩:=AF g3;have X:=OT h0;have Y:=OT h1;have Z:=gV J;have e3:=bZ v;have e4:=OT h4;simp only at X Y Z e3 e4;subst X Y Z e3 e4;have hl:=Vy v;simp only at hl;have key:=Ap (bad:=none) (f:=λc:Int×AZ=>cnd (decide (c.1<Aa a3)) (Ad (idx c.2.2.2.2.1 c.1) (.done none) λ_=>Ad (idx c.2.2.2.2.1 c.1) (.done none) λx8=>Ad (B7 x8) (.done none) λx9=>Ad (idx c.2.2.2.2.1 c.1) (.done none) λ_=>Ad (idx c.2.2.2.2.1 c.1) (.done none) λ_=>.next (wr .i64 (c.1+1),(c.2.1,(c.2.2.1,(c.2.2.2.1,(AB c.2.2.2.2.1 c.1 x9,c.2.2.2.2.2)))))) (.done (some c.2))) (λz:Int×AZ=>z.1) (Aa a3) (λz=>z.2=(a0,(p,(t,(a3,a4))))/\∀j r,j<z.1->idx a3 j=some r->B7 r=some r) (λr:Option AZ=>r=some y->y=(a0,(p,(t,(a3,a4))))/\∀j r,idx a3 j=some r->B7 r=some r) (s0:=(0,(a0,(p,(t,(a3,a4)))))) (by omega) (by simp) (Ak _) ⟨rfl,λj r E d=>absurd (Ag d).1 (by simp only at E;omega)⟩ (λz g i0 i1=>?_) λz g hz=>?_
 ·obtain⟨k1,k2⟩:=key g4;exact ⟨k1,h0,h1,J,v,h4,k2⟩
 ·obtain⟨i,m⟩:=z;simp only at g i0 i1;obtain⟨rfl,g⟩:=g;obtain⟨r,d,_⟩:=Ai i0 i1;try simp only
  rw[Zzp (decide_eq_true i1),Zzq d,Zzq d];cases hc:B7 r with
  |none=>exact λI=>by cases I
  |some q =>
   have e:=AaG hc;subst e;rw[Zzq rfl,Zzq d,Zzq d,Aj (i+1) (by omega) (by omega),fA d];refine ⟨rfl,rfl,λj r' E o=>?_⟩;by_cases e:j=i
   ·subst e;rw[d] at o;cases o;exact hc
   ·exact g j r' (by simp only at E;omega) o
 ·obtain⟨i,m⟩:=z;simp only at g hz;obtain⟨rfl,g⟩:=g;try simp only
  rw[Zzn (decide_eq_false (by omega))];exact λI=>⟨(Qag I).symm,λj r d=>g j r (by have:=(Ag d).2.1;omega) d⟩
def TwO (F d:Nat->Prop) (g:Nat) (G:Option Nat) (c:Nat):Prop:=F c\/d c\/c=g\/G=some c
structure TwR (n0:Nat) (F ob:Nat->Prop) (x:AZ) (i:Nat) (B3 cap:Nat) (e3:TypeId) (u0 u1 u2 u4:Value) (G:Option Nat) (dn:Prop) (vs:Array Value) (W:World):Prop where
 rows:W.heap[B3]?=some (.cells vs e3 (0,0))
 sz:vs.size=cap
 len:x.2.2.2.1.length<=cap/\cap<=maxLen
 b3:n0<=B3/\¬ob B3
 f:∀c,F c->c<n0
 own:∀c,ob c->n0<=c/\c<W.heap.size
 g:∀c,G=some c->n0<=c/\c≠B3/\¬ob c/\c<W.heap.size
 r0:Reads W (TwO F ob B3 G) Dz x.1 [u0]
 r1:Reads W (TwO F ob B3 G) Dz x.2.1 [u1]
 r2:Reads W (TwO F ob B3 G) Hj x.2.2.1 [u2]
 r4:Reads W (TwO F ob B3 G) Dz x.2.2.2.2 [u4]
 each:∀j r,j≠i->x.2.2.2.1[j]?=some r->∃v,vs[j]?=some v/\Reads W (TwO F ob B3 G) I64s r [v]
 here:∀r,x.2.2.2.1[i]?=some r->∃v,vs[i]?=some v/\(dn/\BV n0 W (λ_=>False) G I64 r v\/¬dn/\G=none/\Reads W (TwO F ob B3 G) I64s r [v])
theorem vM {n0:Nat} {F o:Nat->Prop} {x:AZ} {i p cap:Nat} {e3:TypeId} {t u1 u2 v:Value} {G:Option Nat} {y:Prop} {vs:Array Value} {W:World} (h:TwR n0 F o x i p cap e3 t u1 u2 v G y vs W) (E:n0<=W.heap.size) {c:Nat} (d:TwO F o p G c):c<W.heap.size:=by
 rcases d with d|d|rfl|d
 ·exact Qac (h.f c d) E
 ·exact (h.own c d).2
 ·exact (Array.getElem?_eq_some_iff.1 h.rows).1
 ·exact (h.g c d).2.2.2
theorem Mx {n0 W W' G v F d} {r:List Int} (g:W.heap.size<=W'.heap.size) (o:∀b,G=some b->W'.heap[b]?=W.heap[b]?) (h:BV n0 W F G I64 r v):BV n0 W' d G I64 r v:=by obtain⟨a,c,h1,p,t,h4⟩:=h;refine ⟨a,c,h1,p,t,h4.imp id ?_⟩;rintro⟨b,vs,e,y,g1,E,I,J,X,Y,Z⟩;exact ⟨b,vs,e,y,g1,E,I,Qac J g,(o b g1).trans X,Y,Z.mono λ_ _=>FE I64 rfl⟩
theorem Xg {n0 W F O G T l v} (g:T.hasSl=false) (o:∀b,G=some b->¬O b) (h:BV n0 W F G T l v):Reads W O (.slice T) l [v]:=by
 obtain⟨a,c,h1,p,t,h4⟩:=h;refine ⟨a,c,by rw[h1],p,t,?_⟩;rcases h4 with ⟨c0,_⟩|⟨b,vs,e,Y,g1,y,Z,E,I,g6,J⟩
 ·exact .inl (by omega)
 ·refine .inr ⟨b,0,_,y,o b g1,E,λj u d=>?_,J.mono λ_ _=>FE T g⟩;have X:=Qcn d;rw[Qbg] at d;split at d
  ·rw[Qav] at d;simp[World.cell?,I,d]
  ·cases d
theorem AcR {n0 n1 W F G T l v} (o:n0<=n1) (h:BV n1 W F G T l v):BV n0 W F G T l v:=by obtain⟨a,c,h1,d,g,h4⟩:=h;refine ⟨a,c,h1,d,g,h4.imp id ?_⟩<;>grind
theorem TwR.step {n0 F ob x i E cap e3 u0 u1 u2 u4 G k vs W W' r F' G' u} (h:TwR n0 F ob x i E cap e3 u0 u1 u2 u4 G (i<k) vs W) (hn:n0<=W.heap.size)
 (hk:x.2.2.2.1[k]?=some r) (hB:Below W.heap.size W W') (hf:BV W.heap.size W' F' G' I64 r u) :
   ∃G2,TwR n0 F ob x i E cap e3 u0 u1 u2 u4 G2 (i<k+1) (vs.setIfInBounds k u) (W'.setCell ⟨E,k,none⟩ u):=by
  have a7:= (Array.getElem?_eq_some_iff.1 h.rows).1;have aa:k<vs.size:=by have:=(List.getElem?_eq_some_iff.1 hk).1;have:=h.len.1;have:=h.sz;omega
  have a1:= heap_setCell_same W' E k _ _ u ((hB.block E a7).trans h.rows);have I:(W'.setCell ⟨E,k,none⟩ u).heap.size=W'.heap.size:=by simp_all
  have o:∀b,b≠E->(W'.setCell ⟨E,k,none⟩ u).heap[b]?=W'.heap[b]?:=λb y=>Below.heap_setCell _ _ _ _ y;have J:∀b,G'=some b->W.heap.size<=b/\b<W'.heap.size:=λb y=>by obtain⟨a,c,h1,h2,h3,h4⟩:=hf<;>grind
  have a6:=hB.size;obtain⟨G2,t⟩:∃G2,G2=if k=i then G' else G:=⟨_,rfl⟩
  have d:Keeps W (TwO F ob E G) (W'.setCell ⟨E,k,none⟩ u) (TwO F ob E G2):=⟨by omega,λb y Z=>by
   have X:= λe=>Z (.inr (.inr (.inl e)));refine ⟨?_,(o b X).trans (hB.block b y)⟩;rintro (p|p|p|p)
   ·exact Z (.inl p)
   ·exact Z (.inr (.inl p))
   ·exact X p
   ·rw[t] at p;split at p
    ·grind
    ·exact Z (.inr (.inr (.inr p)))⟩;have hold:∀j v,j≠k->vs[j]?=some v->(vs.setIfInBounds k u)[j]?=some v:=λj v hj hv=>by grind
  have Y:(vs.setIfInBounds k u)[k]?=some u:=by simp_all
  refine ⟨G2,a1,by simp[h.sz],h.len,h.b3,h.f,λc p=>⟨(h.own c p).1,by rw[I];exact Qac (h.own c p).2 a6⟩,λc p=>?_,Av d Dz h.r0,Av d Dz h.r1,Av d Hj h.r2,Av d Dz h.r4,λj r' hj hr=>?_,λr' hr=>?_⟩
  ·rw[t] at p;rw[I];split at p
   ·obtain⟨q1,q2⟩:=J c p;exact ⟨by omega,by omega,λho=>by have:=(h.own c ho).2;omega,q2⟩
   ·obtain⟨q1,q2,q3,q4⟩:=h.g c p;exact ⟨q1,q2,q3,by omega⟩
  ·by_cases e:j=k
   ·subst e;rw[hk] at hr;cases hr;refine ⟨u,Y,?_⟩;have a8:BV W.heap.size (W'.setCell ⟨E,j,none⟩ u) (λ_=>False) G' I64 r u:=Mx (by rw[I];exact Qaa _) (λb y=>o b (by have:=(J b y).1;omega)) hf;refine Xg rfl (λb y Z=>?_) a8;have:=(J b y).1;rw[t,if_neg (Ne.symm hj.symm)] at Z;have:=vM h hn Z;omega
   ·obtain⟨v,v1,v2⟩:=h.each j r' hj hr;exact ⟨v,hold j v e v1,Av d I64s v2⟩
  ·by_cases e:i=k
   ·subst e;rw[hk] at hr;cases hr;rw[if_pos rfl] at t;subst t;exact ⟨u,Y,.inl ⟨Qcx _,AcR hn (Mx (by rw[I];exact Qaa _) (λb y=>o b (by have:=(J b y).1;omega)) hf)⟩⟩
   ·rw[if_neg (Ne.symm e)] at t;subst t;obtain⟨v,v1,v2⟩:=h.here r' hr;refine ⟨v,hold i v e v1,?_⟩;rcases v2 with ⟨v2,v3⟩|⟨v2,v3,v4⟩
    ·exact .inl ⟨by omega,Mx (by rw[I];exact a6) (λb y=>(o b (h.g b y).2.1).trans (hB.block b (h.g b y).2.2.2)) v3⟩
    ·exact .inr ⟨by omega,v3,Av d I64s v4⟩
end Go.Proofs.YtlgpjdjcbincgaaGreatDoor
namespace Go.Proofs.YtlgpjdjcbincgaaGreatDoor
open Go.Den Go.RowKit Go.ChangeShapes Go.Shelf
set_option maxRecDepth 100000
set_option maxHeartbeats 1000000
noncomputable def sqa:Code->Code | .seq a _=>a|c=>c
noncomputable def sqb:Code->Code | .seq _ b=>b|c=>c
noncomputable def Nb:Code:=(AG Tryz.f106 {}).code
noncomputable def tw0:Code:=sqa Nb
noncomputable def tw1:Code:=sqa (sqb Nb)
noncomputable def tw2:Code:=sqa (sqa (sqb (sqb Nb)))
noncomputable def tw3:Code:=sqb (sqa (sqb (sqb Nb)))
noncomputable def tw4:Code:=sqb (sqb (sqb Nb))
theorem AfJ:Nb=.seq tw0 (.seq tw1 (.seq (.seq tw2 tw3) tw4)):=by kernel_rfl
noncomputable def twC:Ctx:=KX [U3,U1,Ub] []
noncomputable def twR:RO:={renv:=[],rheap:=[]}
noncomputable def Ad7 (e:AExit) (st:St):Option (List (Option AVal)×List (Option AObj)):=match e with | .normal=>some ([st.get twR 1,st.get twR 2,st.get twR 26,st.get twR 27],[st.obj twR 0,st.obj twR 1,st.obj twR 34,st.obj twR 82,st.obj twR 130,st.obj twR 178,st.obj twR 226])|_=>none
noncomputable def AhJ (e:AExit) (st:St):Option (List (Option AVal)×List (Option AObj)):=match e with | .normal=>Bi twC (EN twC 1) {} tw2 twR st Ad7 none|_=>none
noncomputable def Ag1 (e:AExit) (st:St):Option (List (Option AVal)×List (Option AObj)):=match e with | .normal=>Bi twC (EN twC 1) {} tw1 twR st AhJ none|_=>none
def ci (v:Cell):Option AVal:=some (.v (.c v))
theorem Ag4 (x:AZ):Bi twC (EN twC 1) {} tw0 twR {env:=CP 0 (Cy [Cb] x),heap:=[],next:=0} Ag1 none =
 Ad (BJ x.1) none λy0=>Ad (BJ x.2.1) none λy1=>Ad (Ej x.2.2.1) none λy2=>Ad (CY x.2.2.2.1) none λy3=>Ad (BJ x.2.2.2.2) none λy4 =>some ([ci (.ptr 0 0),ci (.ptr 1 0),ci (.int .i64 (Aa y3)),ci (.int .i64 0)],[some (.box [.ref 34,.ref 82,.ref 130,.ref 178,.ref 226]),some (.box [.nils,.nils,.nils,.nils,.nils]),some (.arr Ec y0),some (.arr Ec y1),some (.arr Mh y2),some (.arr I64s y3),some (.arr Ec y4)]):=by kernel_rfl
end Go.Proofs.YtlgpjdjcbincgaaGreatDoor
namespace Go.Proofs.YtlgpjdjcbincgaaGreatDoor
open Go.Den Go.RowKit Go.ChangeShapes Go.Shelf
set_option maxRecDepth 100000
set_option maxHeartbeats 4000000
noncomputable def lpb:Code->Code | .block _ (.loop c)=>c|c=>c
theorem Ag2:tw3=.block 0 (.loop (lpb tw3)):=by kernel_rfl
theorem An {n} {l:List Value} (h:n+1<=l.length):∃x r,l=x::r/\n<=r.length:=by
 cases l with
 |nil=>simp at h
 |cons x r=>exact ⟨x,r,rfl,by simpa using h⟩
theorem Ad1 {t:Array Value} (h:42<=t.size):∃x0 x1 x2 x3 x4 x5 x6 x7 x8 x9 c d g o p v y E I J X Y Z a1 a6 a7 a8 aa ab ad ae af ag ah ai aj ak al an ao aq ar r,t=(x0::x1::x2::x3::x4::x5::x6::x7::x8::x9::c::d::g::o::p::v::y::E::I::J::X::Y::Z::a1::a6::a7::a8::aa::ab::ad::ae::af::ag::ah::ai::aj::ak::al::an::ao::aq::ar::r).toArray:=by obtain⟨l⟩:=t;obtain⟨x0,l0,rfl,h0⟩:=An h;obtain⟨x1,l1,rfl,h1⟩:=An h0;obtain⟨x2,l2,rfl,h2⟩:=An h1;obtain⟨x3,l3,rfl,h3⟩:=An h2;obtain⟨x4,l4,rfl,h4⟩:=An h3;obtain⟨x5,l5,rfl,h5⟩:=An h4;obtain⟨x6,l6,rfl,h6⟩:=An h5;obtain⟨x7,l7,rfl,h7⟩:=An h6;obtain⟨x8,l8,rfl,h8⟩:=An h7;obtain⟨x9,l9,rfl,h9⟩:=An h8;obtain⟨c,bz,rfl,au⟩:=An h9;obtain⟨d,c3,rfl,av⟩:=An au;obtain⟨g,c5,rfl,aw⟩:=An av;obtain⟨o,c6,rfl,ax⟩:=An aw;obtain⟨p,c7,rfl,ay⟩:=An ax;obtain⟨v,c8,rfl,az⟩:=An ay;obtain⟨y,c9,rfl,b0⟩:=An az;obtain⟨E,ca,rfl,b1⟩:=An b0;obtain⟨I,cb,rfl,b2⟩:=An b1;obtain⟨J,cc,rfl,b3⟩:=An b2;obtain⟨X,cd,rfl,b7⟩:=An b3;obtain⟨Y,cf,rfl,b8⟩:=An b7;obtain⟨Z,cg,rfl,ba⟩:=An b8;obtain⟨a1,ch,rfl,bb⟩:=An ba;obtain⟨a6,cj,rfl,bc⟩:=An bb;obtain⟨a7,ck,rfl,bd⟩:=An bc;obtain⟨a8,cm,rfl,bf⟩:=An bd;obtain⟨aa,cn,rfl,bg⟩:=An bf;obtain⟨ab,cq,rfl,bh⟩:=An bg;obtain⟨ad,cr,rfl,bj⟩:=An bh;obtain⟨ae,ct,rfl,bk⟩:=An bj;obtain⟨af,cu,rfl,bl⟩:=An bk;obtain⟨ag,cv,rfl,bm⟩:=An bl;obtain⟨ah,cw,rfl,bn⟩:=An bm;obtain⟨ai,cx,rfl,bo⟩:=An bn;obtain⟨aj,cy,rfl,bp⟩:=An bo;obtain⟨ak,cz,rfl,bq⟩:=An bp;obtain⟨al,da,rfl,br⟩:=An bq;obtain⟨an,db,rfl,bs⟩:=An br;obtain⟨ao,dc,rfl,bt⟩:=An bs;obtain⟨aq,dd,rfl,bu⟩:=An bt;obtain⟨ar,bx,rfl,de⟩:=An bu;exact ⟨x0,x1,x2,x3,x4,x5,x6,x7,x8,x9,c,d,g,o,p,v,y,E,I,J,X,Y,Z,a1,a6,a7,a8,aa,ab,ad,ae,af,ag,ah,ai,aj,ak,al,an,ao,aq,ar,bx,rfl⟩
structure LpA (b1 b2 len k:Nat) (a:Act):Prop where
 d:a.defers=[]
 s:42<=a.tmps.size
 t1:a.tmps.getD 1 undef=.pointer (some ⟨b1,0,none⟩)
 t2:a.tmps.getD 2 undef=.pointer (some ⟨b2,0,none⟩)
 t26:a.tmps.getD 26 undef=.int .i64 (len:Int)
 t27:a.tmps.getD 27 undef=.int .i64 (k:Int)
def kH (w:World) (F:Nat->Prop) (x:AZ) (i:Nat) (e:Ending) (w':World):Prop:=∃c cap e3 d u1 u2 g G vs,e=.returned (.agg #[d,u1,u2,.slice (some ⟨c,0,none⟩) x.2.2.2.1.length cap,g])/\Below w.heap.size w w'/\TwR w.heap.size F (λ_=>False) x i c cap e3 d u1 u2 g G True vs w'
attribute [local go_sem ↓] Go.wp_at_zero Go.wp_at_succ
theorem Ag5 {f W F v} (m:BM Tryz.prog V f (spP [Ty.slice I64] [Ty.slice I64] B7 true)) (c:V W) (hF:∀b,F b->b<W.heap.size) {l:List Int} (d:Reads W F I64s l [v]) (g:B7 l=some l) :
 Calls Tryz.prog f #[v] W λe W'=>∃u G,e=.returned u/\Below W.heap.size W W'/\BV W.heap.size W' F G I64 l u :=
 (m.calls W F [v] l l c hF ⟨_,d,rfl⟩ g).mono λe W' ⟨rs,h,o,u,G,h1,p⟩=>by subst h1;exact ⟨u,G,h,o,p⟩
theorem AfI {E b2 g cap len k:Nat} {a:Act} {W:World} {v:Value} (hA:LpA E b2 len k a) (c3:W.cell? ⟨E,3,none⟩=some (.slice (some ⟨g,0,none⟩) len cap)) (cv:W.cell? ⟨g,k,none⟩=some v) (hk:(k:Int)<(len:Int)) (a8:(0:Int)<=(k:Int)) (hm:(len:Int)<=1000000000000000) (aa:g≠E)
 {Post:Value->World->Prop} (hC:Calls Tryz.prog 178 #[v] W.drew λe o=>∃I ul J,e=.returned (.slice I ul J)/\o.cell? ⟨E,3,none⟩=some (.slice (some ⟨g,0,none⟩) len cap)/\o.cell? ⟨g,k,none⟩=some v/\o.frozen? ⟨g,k,none⟩=false/\Post (.slice I ul J) o) {K:Act->World->Prop} {Q:Exit->Act->World->Prop}
 (hK:∀a' u o,Post u o->LpA E b2 len (k+1) a'->K a' (o.setCell ⟨g,k,none⟩ u)):Code.wp Tryz.prog (lpb tw3) (Exit.then K Q) a W:=by
 obtain⟨t,d⟩:=a;obtain⟨hd,X,h1,Y,p,y⟩:=hA;simp only at hd X h1 Y p y;obtain⟨x0,x1,x2,x3,x4,x5,x6,x7,x8,x9,ab,ad,ae,af,ag,ah,ai,aj,ak,al,an,ao,aq,ar,au,av,aw,ax,ay,az,b0,b3,b7,b8,ba,bb,bc,bd,bf,bg,bh,bj,r,rfl⟩:=Ad1 X;simp only[Qao,Qcc,Qbj,Qbi,Qbc] at h1 Y p y;subst hd h1 Y p y;unfold tw3 Nb;simp only[Tryz.f106,AG,sqa,sqb,lpb,Qbc];clear X;go_wp2;refine wp_region_noPanic ?_;refine wp_region_held_drew (S:=λw'=>w'.cell? ⟨E,3,none⟩=some (.slice (some ⟨g,0,none⟩) len cap)) (by kernel_rfl) (by first|assumption|go_keep) λZ=>?_;refine wpAnyH_take (i:=0) (v:=?qv0) rfl (by kernel_rfl) (by kernel_rfl) (by kernel_rfl) (λ_ _ _ h=>h) (Or.inl ⟨by rfl,?qy0⟩) (by assumption) ?qr0;case qy0 =>intro w c;(try dsimp only at c);go_simp;all_goals with_reducible rfl
 try simp only[Act.put,List.setIfInBounds_toArray,List.set_cons_zero,List.set_cons_succ]
 refine wpAnyH_take (i:=1) (v:=?qv1) rfl (by kernel_rfl) (by kernel_rfl) (by kernel_rfl) (λ_ _ _ h=>h) (Or.inl ⟨by rfl,?qy1⟩) (by assumption) ?qr1;case qy1 =>intro w c;(try dsimp only at c);go_simp;all_goals with_reducible rfl
 try simp only[Act.put,List.setIfInBounds_toArray,List.set_cons_zero,List.set_cons_succ]
 refine wpAnyH_take (i:=2) (v:=?qv2) rfl (by kernel_rfl) (by kernel_rfl) (by kernel_rfl) (λ_ _ _ h=>h) (Or.inl ⟨by rfl,?qy2⟩) (by assumption) ?qr2;case qy2 =>intro w c;(try dsimp only at c);go_simp;all_goals with_reducible rfl
 try simp only[Act.put,List.setIfInBounds_toArray,List.set_cons_zero,List.set_cons_succ]
 refine wpAnyH_take (i:=3) (v:=?qv3) rfl (by kernel_rfl) (by kernel_rfl) (by kernel_rfl) (λ_ _ _ h=>h) (Or.inl ⟨by rfl,?qy3⟩) (by assumption) ?qr3;case qy3 =>intro w c;(try dsimp only at c);go_simp;all_goals with_reducible rfl
 try simp only[Act.put,List.setIfInBounds_toArray,List.set_cons_zero,List.set_cons_succ]
 refine wpAnyH_take (i:=4) (v:=?qv4) rfl (by kernel_rfl) (by kernel_rfl) (by kernel_rfl) (λ_ _ _ h=>h) (Or.inl ⟨by rfl,?qy4⟩) (by assumption) ?qr4;case qy4 =>intro w c;(try dsimp only at c);go_simp;all_goals with_reducible rfl
 try simp only[Act.put,List.setIfInBounds_toArray,List.set_cons_zero,List.set_cons_succ]
 refine wpAnyH_take (i:=5) (v:=?qv5) rfl (by kernel_rfl) (by kernel_rfl) (by kernel_rfl) (λ_ _ _ h=>h) (Or.inl ⟨by rfl,?qy5⟩) (by assumption) ?qr5;case qy5 =>intro w c;(try dsimp only at c);go_simp;all_goals with_reducible rfl
 try simp only[Act.put,List.setIfInBounds_toArray,List.set_cons_zero,List.set_cons_succ]
 refine wpAnyH_take (i:=6) (v:=?qv6) rfl (by kernel_rfl) (by kernel_rfl) (by kernel_rfl) (λ_ _ _ h=>h) (Or.inl ⟨by rfl,?qy6⟩) (by assumption) ?qr6;case qy6 =>intro w c;(try dsimp only at c);go_simp;all_goals with_reducible rfl
 try simp only[Act.put,List.setIfInBounds_toArray,List.set_cons_zero,List.set_cons_succ]
 refine wpAnyH_ready (rs:=[7]) (by kernel_rfl) (by simp) (AllReadyH.cons rfl (λK1 a1=>?_) AllReadyH.nil);go_simp;refine a1.out _ _ (by first|assumption|go_keep) λ_=>?_;try simp only[Act.put,List.setIfInBounds_toArray,List.set_cons_zero,List.set_cons_succ]
 refine wpAnyH_ready (rs:=[8]) (by kernel_rfl) (by simp) (AllReadyH.cons rfl (λK2 a6=>?_) AllReadyH.nil);go_simp;go_at_call 178;refine hC.mono ?_;rintro e o ⟨I,ul,J,rfl,s3,sv,sf,hP⟩;go_wp2_with fail;refine a6.out _ _ (by first|assumption|go_keep) λ_=>?_;try simp only[Act.put,List.setIfInBounds_toArray,List.set_cons_zero,List.set_cons_succ]
 refine wpAnyH_take (i:=9) (v:=?qv9) rfl (by kernel_rfl) (by kernel_rfl) (by kernel_rfl) (λ_ _ _ h=>h) (Or.inl ⟨by rfl,?qy9⟩) (by assumption) ?qr9;case qy9 =>intro w c;(try dsimp only at c);go_simp;all_goals with_reducible rfl
 try simp only[Act.put,List.setIfInBounds_toArray,List.set_cons_zero,List.set_cons_succ]
 refine wpAnyH_ready (rs:=[10]) (by kernel_rfl) (by simp) (AllReadyH.cons rfl (λK3 a7=>?_) AllReadyH.nil);go_simp;refine a7.out _ _ (by first|assumption|go_keep) λ_=>?_;try simp only[Act.put,List.setIfInBounds_toArray,List.set_cons_zero,List.set_cons_succ]
 refine wpAnyH_done (by kernel_rfl) ?_ _;refine NoPanic.normal ?_;go_wp2;refine hK _ _ _ hP ⟨rfl,by simp,by simp,by simp,by simp,by simp⟩
theorem Ag3 {h c len a W p0 p1 p2 v y n0 n1 n2 E I c0 c1 c2 c3 c4 e1 Y vs Q} (hA:LpA h c len len a) (h1:W.heap[h]?=some (.cells #[.slice p0 n0 c0,.slice p1 n1 c1,.slice p2 n2 c2,.slice v E c3,.slice y I c4] e1 (0,0))) (g:W.heap[c]?=some (.cells vs Y (0,0))) (J:vs.size=5)
 {K} (Z:∀o W',o.defers=[]->o.tmps.getD 2 undef=.pointer (some ⟨c,0,none⟩)->W'.heap[c]?=some (.cells #[.slice p0 n0 c0,.slice p1 n1 c1,.slice p2 n2 c2,.slice v E c3,.slice y I c4] Y (0,0))->(∀B,B<=c->Below B W W')->(∀b,b≠c->W'.heap[b]?=W.heap[b]?)->Q .ret o W') :
 Code.wp Tryz.prog (lpb tw3) (Exit.then K (Exit.inBlock 0 (Exit.then (tw4.wp Tryz.prog Q) Q))) a W:=by
 obtain⟨t,d⟩:=a;obtain⟨hd,X,t1,t2,t26,t27⟩:=hA;simp only at hd X t1 t2 t26 t27;obtain⟨x0,x1,x2,x3,x4,x5,x6,x7,x8,x9,a6,a7,a8,aa,ab,ad,ae,af,ag,ah,ai,aj,ak,al,an,ao,aq,ar,au,av,aw,ax,ay,az,b0,b3,b7,b8,ba,bb,bc,bd,r,rfl⟩:=Ad1 X;simp only[Qao,Qcc,Qbj,Qbi,Qbc] at t1 t2 t26 t27;subst hd t1 t2 t26 t27;have a0:W.cell? ⟨h,0,none⟩=some (.slice p0 n0 c0):=by simp[World.cell?,h1]
 have a1:W.cell? ⟨h,1,none⟩=some (.slice p1 n1 c1):=by simp[World.cell?,h1]
 have a2:W.cell? ⟨h,2,none⟩=some (.slice p2 n2 c2):=by simp[World.cell?,h1]
 have a3:W.cell? ⟨h,3,none⟩=some (.slice v E c3):=by simp[World.cell?,h1]
 have a4:W.cell? ⟨h,4,none⟩=some (.slice y I c4):=by simp[World.cell?,h1]
 obtain⟨l⟩:=vs;obtain⟨y0,y1,y2,y3,y4,rfl⟩:∃y0 y1 y2 y3 y4,l=[y0,y1,y2,y3,y4]:=by
  match l,J with
  |[y0,y1,y2,y3,y4],_=>exact ⟨y0,y1,y2,y3,y4,rfl⟩
 have s1:=heap_setCell_same _ c 1 _ _ (.slice p1 n1 c1) (heap_setCell_same W c 0 _ _ (.slice p0 n0 c0) g);have s3:=heap_setCell_same _ c 3 _ _ (.slice v E c3) (heap_setCell_same _ c 2 _ _ (.slice p2 n2 c2) s1);have fin:= λo d1 d2 =>Z o _ d1 d2 (heap_setCell_same _ c 4 _ _ (.slice y I c4) s3) (λB p=>(((((Below.refl B W).setCell p _).setCell p _).setCell p _).setCell p _).setCell p _) (λb hb=>by repeat rw[Below.heap_setCell _ _ _ _ hb]);have k0:W.cell? ⟨c,0,none⟩=some y0:=by simp[World.cell?,g]
 have f0:W.frozen? ⟨c,0,none⟩=false:=by simp[World.frozen?,g]
 have k1:W.cell? ⟨c,1,none⟩=some y1:=by simp[World.cell?,g]
 have f1:W.frozen? ⟨c,1,none⟩=false:=by simp[World.frozen?,g]
 have k2:W.cell? ⟨c,2,none⟩=some y2:=by simp[World.cell?,g]
 have f2:W.frozen? ⟨c,2,none⟩=false:=by simp[World.frozen?,g]
 have k3:W.cell? ⟨c,3,none⟩=some y3:=by simp[World.cell?,g]
 have f3:W.frozen? ⟨c,3,none⟩=false:=by simp[World.frozen?,g]
 have k4:W.cell? ⟨c,4,none⟩=some y4:=by simp[World.cell?,g]
 have f4:W.frozen? ⟨c,4,none⟩=false:=by simp[World.frozen?,g]
 unfold tw3 tw4 Nb;simp only[Tryz.f106,AG,sqa,sqb,lpb,Qbc];clear X Z;go_wp2;exact fin _ rfl (by simp)
theorem AfK {w:World} {F:Nat->Prop} {x:AZ} (hx:YS x) (hV:V w) {i:Nat} (hi:i<x.2.2.2.1.length) {I o E cap:Nat} {p0 p1 p2 p4:Option Addr} {n0 n1 n2 n4 c0 c1 c2 c4:Nat} {e1 e2 e3:TypeId} (Z:w.heap.size<=I/\w.heap.size<=o/\I≠o) {y:Array Value} (hy:y.size=5) :
 ∀(m k:Nat),m+k=x.2.2.2.1.length->∀ {a:Act} {W:World} {G:Option Nat} {vs:Array Value},LpA I o x.2.2.2.1.length k a->Below w.heap.size w W ->
 W.heap[I]?=some (.cells #[.slice p0 n0 c0,.slice p1 n1 c1,.slice p2 n2 c2,.slice (some ⟨E,0,none⟩) x.2.2.2.1.length cap,.slice p4 n4 c4] e1 (0,0))->W.heap[o]?=some (.cells y e2 (0,0)) ->
 TwR w.heap.size F (λc=>c=I\/c=o) x i E cap e3 (.slice p0 n0 c0) (.slice p1 n1 c1) (.slice p2 n2 c2) (.slice p4 n4 c4) G (i<k) vs W ->
 Code.rounds Tryz.prog (lpb tw3) (Exit.inBlock 0 (Exit.then (tw4.wp Tryz.prog (bodyPost Tryz.prog Tryz.f106 (kH w F x i))) (bodyPost Tryz.prog Tryz.f106 (kH w F x i)))) (m+1) a W:=by
 intro m;induction m with
 |zero =>
  intro k hk a W G vs hA hB h1 h2 d;obtain rfl:k=x.2.2.2.1.length:=by omega
  rw[rounds_succ];refine Ag3 hA h1 h2 hy λa' W' d1 d2 q1 q2 q3=>?_;have hs:=hB.size;have t:=d.b3;have hK:Keeps W (TwO F (λc=>c=I\/c=o) E G) W' (TwO F (λ_=>False) E G):=⟨(q2 _ Z.2.1).size,λb _ hO=>⟨λhh=>hO (hh.imp id λh=>.inr (h.elim False.elim id)),q3 b λe=>hO (.inr (.inl (.inr e)))⟩⟩;have hG:∀c,G=some c->W'.heap[c]?=W.heap[c]?:=λc hc=>q3 c λe=>(d.g c hc).2.2.1 (.inr e);refine ⟨d1,_,?_,E,cap,e3,_,_,_,_,G,vs,rfl,hB.trans (q2 _ Z.2.1),(q3 E λe=>t.2 (.inr e)).trans d.rows,d.sz,d.len,⟨t.1,id⟩,d.f,λc hc=>hc.elim,λc hc=>?_,Av hK Dz d.r0,Av hK Dz d.r1,Av hK Hj d.r2,Av hK Dz d.r4,λj r hj hr=>?_,λr hr=>?_⟩
  ·have m0:W'.cell? ⟨o,0,none⟩=some (.slice p0 n0 c0):=by simp[World.cell?,q1]
   have m1:W'.cell? ⟨o,1,none⟩=some (.slice p1 n1 c1):=by simp[World.cell?,q1]
   have m2:W'.cell? ⟨o,2,none⟩=some (.slice p2 n2 c2):=by simp[World.cell?,q1]
   have m3:W'.cell? ⟨o,3,none⟩=some (.slice (some ⟨E,0,none⟩) x.2.2.2.1.length cap):=by simp[World.cell?,q1]
   have m4:W'.cell? ⟨o,4,none⟩=some (.slice p4 n4 c4):=by simp[World.cell?,q1]
   have t2:a'.tmps[2]?=some (.pointer (some ⟨o,0,none⟩)):=by
    rw[Qao] at d2;cases h:a'.tmps[2]? with
    |none=>rw[h] at d2;cases d2
    |some z=>rw[h] at d2;exact congrArg some d2
   simp[results,Tryz.f106,go_sem,t2,m0,m1,m2,m3,m4]
  ·have:=d.g c hc;exact ⟨this.1,this.2.1,id,Qac this.2.2.2 (q2 _ Z.2.1).size⟩
  ·obtain⟨v,v1,J⟩:=d.each j r hj hr;exact ⟨v,v1,Av hK I64s J⟩
  ·obtain⟨v,v1,J⟩:=d.here r hr;rcases J with ⟨_,v3⟩|⟨J,_⟩
   ·exact ⟨v,v1,.inl ⟨trivial,Mx (q2 _ Z.2.1).size hG v3⟩⟩
   ·exact absurd hi J
 |succ m ih =>
  intro k hk a W G vs hA hB h1 h2 d;have a8:k<x.2.2.2.1.length:=by omega
  have hs:=hB.size;obtain⟨row,p⟩:∃row,x.2.2.2.1[k]?=some row:=⟨_,Qdv a8⟩;obtain⟨v,hv,aa⟩:∃v,vs[k]?=some v/\Reads W (TwO F (λc=>c=I\/c=o) E G) I64s row [v]:=by
   by_cases e:k=i
   ·subst e;obtain⟨v,v1,J⟩:=d.here row p;rcases J with ⟨J,_⟩|⟨_,_,v4⟩
    ·omega
    ·exact ⟨v,v1,v4⟩
   ·exact d.each k row e p
  have ab:B7 row=some row:=hx.each (k:Int) row (by rw[AY (by omega)];exact p);have hm:=Vy hx.c3;have t:=d.b3;have a1:=(Array.getElem?_eq_some_iff.1 d.rows).1;have X:=(Array.getElem?_eq_some_iff.1 h1).1;have a6:=(Array.getElem?_eq_some_iff.1 h2).1;have a7:E≠I:=λe=>t.2 (.inl e);have ad:E≠o:=λe=>t.2 (.inr e);have hD:Below W.heap.size W W.drew:=(Below.refl _ W).drew;rw[rounds_succ];refine AfI (cap:=cap) (v:=v) (Post:=λu W2=>Below W.heap.size W W2/\∃F' G',BV W.heap.size W2 F' G' I64 row u) hA (by simp[World.cell?,h1]) (by simp[World.cell?,d.rows,hv]) (by omega) (by omega) (by unfold Aa at hm;omega) a7 ((Ag5 clone_Load_k.ok (F:=TwO F (λc=>c=I\/c=o) E G) (stays _ _ (hB.trans (hD.mono hs)) hV) (λb Z=>vM d hs Z) (Av ⟨Qaa _,λb _ hh=>⟨hh,rfl⟩⟩ I64s aa) ab).mono ?_) λa' u W2 hP ae=>?_
  ·rintro e W2 ⟨u,G',rfl,g1,g2⟩;have Y:Below W.heap.size W W2:=hD.trans g1;obtain⟨ua,uc,rfl,_⟩:=g2;have t1:=(Y.block _ X).trans h1;have t3:=(Y.block _ a1).trans d.rows;refine ⟨ua,row.length,uc,rfl,by simp[World.cell?,t1],by simp[World.cell?,t3,hv],by simp[World.frozen?,t3],Y,_,G',⟨ua,uc,rfl,by assumption⟩⟩
  ·obtain⟨Y,F',G',hf⟩:=hP;obtain⟨G2,af⟩:=d.step hs p Y hf;refine ih (k+1) (by omega) ae ((hB.trans (Y.mono hs)).setCell t.1 _) ?_ ?_ af
   ·rw[Below.heap_setCell _ _ _ _ (Ne.symm a7)];exact (Y.block _ X).trans h1
   ·rw[Below.heap_setCell _ _ _ _ (Ne.symm ad)];exact (Y.block _ a6).trans h2
end Go.Proofs.YtlgpjdjcbincgaaGreatDoor
namespace Go.Proofs.YtlgpjdjcbincgaaGreatDoor
open Go.Den Go.RowKit Go.ChangeShapes Go.Shelf
set_option maxRecDepth 100000
set_option maxHeartbeats 4000000
theorem QP {w O μ a b c d e l} (h:All2 (AQ w O μ) [a,b,c,d,e] l):∃v0 g o v3 v4,l=[v0,g,o,v3,v4]/\AQ w O μ a v0/\AQ w O μ b g/\AQ w O μ c o/\AQ w O μ d v3/\AQ w O μ e v4:=by
 obtain _|⟨h0,h⟩:=h
 obtain _|⟨h1,h⟩:=h
 obtain _|⟨p,h⟩:=h
 obtain _|⟨t,h⟩:=h
 obtain _|⟨h4,h⟩:=h
 cases h<;>grind
theorem Kf {W:World} {O h:Nat->Prop} {μ:AI} {k:Nat} {T:Ty} {l:List T.interp} {v:Value} (y:AQ W O μ (.ref k) v) (E:RelO W O μ k (.arr T l)) (I:T.hasSl=false) (g:∀b,(∃p,μ k=some p/\p.block=some b)->¬h b/\b<W.heap.size):∃p n c,v=.slice p n c/\Reads W h (.slice T) l [v]:=by
 obtain⟨a,cap,h1,J,X,h4⟩:=E;obtain⟨a',n,c',sz,o,h6⟩:=y;rw[h1] at o;cases o;refine ⟨a,l.length,cap,h6,a,cap,by rw[h6],J,X,?_⟩;rcases h4 with c0|⟨b,vs,e,t,Y,g6,Z⟩
 ·exact .inl (by omega)
 ·by_cases c0:cap=0
  ·exact .inl (by omega)
  ·obtain⟨k1,k2⟩:=g b ⟨_,h1,by simp[Place.block,t,c0]⟩;refine .inr ⟨b,0,_,t,k1,k2,λj u d=>?_,Z.mono λ_ _=>FE T I⟩;rw[Qbg] at d;split at d
   ·rw[Qav] at d;simp[World.cell?,Y,d]
   ·cases d
theorem Afs {R l vs} {n:Nat} (c:∀x vs,R x vs->vs.length=1) (h:RowOf R l vs) {j:Nat} {r:List Int} (d:l[j]?=some r):∃v,vs[j]?=some v/\R r [v]:=by
 obtain⟨pre,v,post,e,h1,g,o⟩:=h.get c d;obtain⟨u,rfl⟩:∃u,v=[u]:=by
  match v,g with
  |[u],_=>exact ⟨u,rfl⟩
 exact ⟨u,by rw[e,Qaq,Qdp (by omega),h1];simp,o⟩
theorem AfL {w F I i} {x y:AZ} (hV:V w) (hF:∀b,F b->b<w.heap.size) (hr:BP w F [Cb] x I) (hy:DU x=some y) (hi:i<x.2.2.2.1.length):Calls Tryz.prog 106 I.toArray w (kH w F x i):=by
 obtain⟨_,hx⟩:=qG hy;have hC:DG twC ⟨w,λ_=>False,w.heap.size,F,[]⟩:=⟨HM,λw' hb=>stays w w' hb hV,Gt⟩;have hB:∀k,¬(⟨w,λ_=>False,w.heap.size,F,[]⟩:Base).D k:=λ_ E=>E;have hm:= IM;have t:RelM ⟨w,λ_=>False,w.heap.size,F,[]⟩ twR {env:=[],heap:=[],next:=0} (λ_=>none) F w :=
  {heap:=λk o E=>by simp[St.obj,assoc,twR] at E
   own:=λk o E=>by simp[St.obj,assoc,twR] at E
   inj:=λk k' o o' E=>by simp[St.obj,assoc,twR] at E
   foreign:=λb hb=>hb,flt:=λ_ _=>rfl,dom:=(λk p E=>by cases E),below:=Below.refl _ _,bsize:=Qaa _,obound:=hF};have RU:∀c,CU 42 c=true->kB twC ⟨w,λ_=>False,w.heap.size,F,[]⟩ (EN twC 1) {} 42 c:=λc hc=>Cc hC hB (EE hC hB hm (HL .nil) 1) (JP hC hB hm) {} c hc;have ag:At ⟨w,λ_=>False,w.heap.size,F,[]⟩ twR 42 (λ_=>none) F w {env:=CP 0 (Cy [Cb] x),heap:=[],next:=0} (λ_=>none) F {tmps:=I.toArray++Array.replicate (Tryz.f106.ntmps-I.toArray.size) undef,defers:=[]} w :=
  ⟨t.move (λk o ho=>ho) (Qaa _),OB (R:=twR) (Dn hr) _,rfl,by rw[show Tryz.f106.ntmps=42 by kernel_rfl];simp;omega,μle.refl _,Keeps.refl _ _,λk p E=>(t.dom k p E).elim id λh=>absurd h (hB k)⟩;have ah:Bi twC (EN twC 1) {} tw0 twR {env:=CP 0 (Cy [Cb] x),heap:=[],next:=0} Ag1 none=some ([ci (.ptr 0 0),ci (.ptr 1 0),ci (.int .i64 (Aa x.2.2.2.1)),ci (.int .i64 0)],[some (.box [.ref 34,.ref 82,.ref 130,.ref 178,.ref 226]),some (.box [.nils,.nils,.nils,.nils,.nils]),some (.arr Ec x.1),some (.arr Ec x.2.1),some (.arr Mh x.2.2.1),some (.arr I64s x.2.2.2.1),some (.arr Ec x.2.2.2.2)]):=by rw[Ag4,Zzq hx.c0,Zzq hx.c1,Zzq hx.c2,Zzq hx.c3,Zzq hx.c4]
 refine calls_of_wp (c:=Nb) Tryz.func106 (by kernel_rfl) ?_;rw[AfJ];refine wp_seq (RU tw0 (by kernel_rfl) (Good:=λo=>o=some _) (by simp) ag ⟨λs hs=>absurd rfl hs,λk E=>absurd rfl E,λk E=>absurd rfl E⟩ (λe st1 ar O1 a1 w1 a7 a8 g1=>?_) ah);cases e with
 |exit _=>cases g1
 |ret=>cases g1
 |goto _=>cases g1
 |normal =>
 refine wp_seq (RU tw1 (by kernel_rfl) (Good:=λo=>o=some _) (by simp) a8 a7 (λe au av O2 a2 w2 aa ab g2=>?_) g1);cases e with
 |exit _=>cases g2
 |ret=>cases g2
 |goto _=>cases g2
 |normal =>
 refine wp_seq (wp_seq (RU tw2 (by kernel_rfl) (Good:=λo=>o=some _) (by simp) ab aa (λe st μ O a W aq d g=>?_) g2));cases e with
 |exit _=>cases g
 |ret=>cases g
 |goto _=>cases g
 |normal =>
 simp only[Ad7,Qaf,Qcv,Qdo,and_true] at g;obtain⟨⟨t1,t2,t26,t27⟩,o0,o1,o2,o3,o4,o5,o6⟩:=g;obtain⟨b1,m1,z1⟩:=d.env 1 _ t1;obtain⟨b2,m2,z2⟩:=d.env 2 _ t2;obtain⟨z26,_⟩:=d.env 26 _ t26;obtain⟨ai,_⟩:=d.env 27 _ t27;have t:=d.mem;obtain⟨aw,aj,e1,ad,k1,y1⟩:=t.heap 0 _ o0;obtain⟨ax,ak,e2,ae,k2,y2⟩:=t.heap 1 _ o1;rw[m1] at ad;cases ad;rw[m2] at ae;cases ae;obtain⟨l1⟩:=aj;obtain⟨l2⟩:=ak;obtain⟨v0,v1,v2,v3,v4,rfl,r0,r1,r2,r3,r4⟩:=QP y1;obtain⟨q0,q1,q2,q3,q4,rfl,_⟩:=QP y2;have X:=t.own 0 _ o0 _ b1 m1 rfl;have Y:=t.own 1 _ o1 _ b2 m2 rfl;have al:b1≠b2:=λe=>by have:=t.inj 0 1 _ _ o0 o1 _ _ b1 m1 m2 rfl (by rw[e];rfl);omega
 obtain⟨a5,cap,m5,g1,g2,g3⟩:=t.heap 178 _ o5;obtain⟨ay,n5,az,b0,h5,h6⟩:=r3;rw[m5] at h5;cases h5;have af:cap≠0:=λe=>by subst e;have:x.2.2.2.1.length<=0:=g1;omega
 rcases g3 with e|⟨J,vs,e3,rfl,k5,s5,rows⟩
 ·exact absurd e af
 have Z:Place.block (.arr (some ⟨J,0,none⟩) x.2.2.2.1.length cap I64s.size)=some J:=by simp[Place.block,af]
 have w5:=t.own 178 _ o5 _ J m5 Z;have an:J≠b1:=λe=>by have:=t.inj 178 0 _ _ o5 o0 _ _ J m5 m1 Z (by rw[e];rfl);omega
 have ao:J≠b2:=λe=>by have:=t.inj 178 1 _ _ o5 o1 _ _ J m5 m2 Z (by rw[e];rfl);omega
 have apart:∀k o,st.obj twR k=some o->k≠0->k≠1->k≠178->∀b,(∃p,μ k=some p/\p.block=some b)->¬TwO F (λc=>c=b1\/c=b2) J none b/\b<W.heap.size:=λk o ho h0 h1 h2 b ⟨p,hp,hb⟩=>by
  have wk:=t.own k o ho p b hp hb;refine ⟨?_,wk.2.2⟩;rintro (h|(h|h)|h|h)
  ·exact wk.2.1.2 h
  ·exact h0 (t.inj k 0 _ _ ho o0 _ _ b hp m1 hb (by rw[h];rfl))
  ·exact h1 (t.inj k 1 _ _ ho o1 _ _ b hp m2 hb (by rw[h];rfl))
  ·exact h2 (t.inj k 178 _ _ ho o5 _ _ b hp m5 hb (by rw[h];exact Z))
  ·cases h
 obtain⟨p0,n0,c0,rfl,R0⟩:=Kf r0 (t.heap 34 _ o2) rfl (apart 34 _ o2 (by omega) (by omega) (by omega));obtain⟨p1,n1,c1,rfl,R1⟩:=Kf r1 (t.heap 82 _ o3) rfl (apart 82 _ o3 (by omega) (by omega) (by omega));obtain⟨p2,n2,c2,rfl,R2⟩:=Kf r2 (t.heap 130 _ o4) rfl (apart 130 _ o4 (by omega) (by omega) (by omega));obtain⟨p4,n4,c4,rfl,R4⟩:=Kf r4 (t.heap 226 _ o6) rfl (apart 226 _ o6 (by omega) (by omega) (by omega));subst h6;have hK:Keeps W O W (TwO F (λc=>c=b1\/c=b2) J none):=⟨Qaa _,λb _ hO=>⟨λhh=>hO (by
  rcases hh with h|(h|h)|h|h
  ·exact t.foreign b h
  ·rw[h];exact X.1
  ·rw[h];exact Y.1
  ·rw[h];exact w5.1
  ·cases h),rfl⟩⟩;have a6:∀j r,x.2.2.2.1[j]?=some r->∃v,vs[j]?=some v/\Reads W (TwO F (λc=>c=b1\/c=b2) J none) I64s r [v]:=λj r hj=>by
  obtain⟨v,h1,h2⟩:=Afs (n:=1) (λ_ _=>AW I64s) rows hj;refine ⟨v,?_,Av hK I64s h2⟩;rw[Qbg] at h1;split at h1
  ·rwa [Qav] at h1
  ·cases h1
 show Code.wp Tryz.prog tw3 _ a W;rw[Ag2];refine wp_block (wp_loop_rounds (x.2.2.2.1.length+1) (AfK (e3:=e3) (G:=none) (vs:=vs) hx hV hi ⟨X.2.1.1,Y.2.1.1,al⟩ rfl x.2.2.2.1.length 0 rfl ⟨d.defers,d.size,z1,z2,z26,ai⟩ t.below k1 k2 ?_));refine ⟨k5,by rw[s5];simp[Ty.size],⟨g1,g2⟩,⟨w5.2.1.1,λh=>h.elim an ao⟩,hF,λc hc=>?_,λc hc=>(by cases hc),R0,R1,R2,R4,λj r _ hj=>a6 j r hj,λr hr=>?_⟩
 ·rcases hc with rfl|rfl
  ·exact ⟨X.2.1.1,X.2.2⟩
  ·exact ⟨Y.2.1.1,Y.2.2⟩
 ·obtain⟨v,q1,q2⟩:=a6 i r hr;exact ⟨v,q1,.inr ⟨by omega,rfl,q2⟩⟩
end Go.Proofs.YtlgpjdjcbincgaaGreatDoor
namespace Go.Proofs.YtlgpjdjcbincgaaGreatDoor
open Go.Den Go.RowKit Go.ChangeShapes Go.Shelf
set_option maxRecDepth 100000
set_option maxHeartbeats 1000000
noncomputable def heI:Inl:=AG Tryz.f71 {}
noncomputable def he0:Code:=sqa heI.code
noncomputable def he1:Code:=sqa (sqb heI.code)
noncomputable def he2:Code:=sqa (sqb (sqb heI.code))
noncomputable def he3:Code:=sqa (sqb (sqb (sqb heI.code)))
noncomputable def he4:Code:=sqa (sqb (sqb (sqb (sqb heI.code))))
noncomputable def he5:Code:=sqb (sqb (sqb (sqb (sqb heI.code))))
theorem AeL:heI.code=.seq he0 (.seq he1 (.seq he2 (.seq he3 (.seq he4 he5)))):=by kernel_rfl
noncomputable def heC:Ctx:=KX [Sx,yP] []
abbrev HeA:=Option (AZ×Int ⊕ List (Option AVal)×List (Option AObj))
noncomputable def Pd (st:St):HeA:=(NA heC heI [Cb,I64] false .ret st).map .inl
noncomputable def AcX (e:AExit) (st:St):HeA:=match e with | .normal=>some (.inr ([st.get twR 4,st.get twR 5,st.get twR 6,st.get twR 9],[st.obj twR 1,st.obj twR 2,st.obj twR 3])) | .ret=>Pd st|_=>none
noncomputable def Agq (e:AExit) (st:St):HeA:=match e with | .normal=>Bi heC (EN heC 1) {} he4 twR st AcX none | .ret=>Pd st|_=>none
noncomputable def Agp (e:AExit) (st:St):HeA:=match e with | .normal=>Bi heC (EN heC 1) {} he3 twR st Agq none | .ret=>Pd st|_=>none
noncomputable def Ago (e:AExit) (st:St):HeA:=match e with | .normal=>Bi heC (EN heC 1) {} he2 twR st Agp none | .ret=>Pd st|_=>none
noncomputable def Agn (e:AExit) (st:St):HeA:=match e with | .normal=>Bi heC (EN heC 1) {} he1 twR st Ago none | .ret=>Pd st|_=>none
def jU (m:AZ) (r:Fs) (i:Int):List (Option AVal)×List (Option AObj):=([ci (.ptr 1 0),ci (.ptr 2 0),ci (.ptr 3 0),ci (.int .i64 i)],[some (.box [.sl Ec m.1,.sl Ec m.2.1,.sl Mh m.2.2.1,.sl I64s m.2.2.2.1,.sl Ec m.2.2.2.2]),some (.box [.int .i64 r.1,.int .u8 r.2.1,.int .i64 r.2.2.1,.sl I64 r.2.2.2]),some (.box [.nils,.nils,.nils,.nils,.nils])])
def heT (x:AU×AZ×Fs):HeA :=
 Ad (GD (x.1,x.2.1)) none λd =>
 cnd (!d==0)
 (some (.inl (([],([],([],([],[])))),d)))
 (Ad (MJ (x.1,x.2.2.1)) none λc =>
 cnd (!c.2==0)
 (some (.inl (([],([],([],([],[])))),c.2)))
 (Ad (idx x.2.1.2.2.2.1 c.1) none λg =>
 cnd (!Aa x.2.2.2.2.2==Aa g)
 (some (.inl (([],([],([],([],[])))),4)))
 (some (.inr (jU x.2.1 x.2.2 c.1)))))
theorem Agu (x:AU×AZ×Fs):Bi heC (EN heC 1) {} he0 twR {env:=CP 0 (Cy [CE,Cb,Jj] x),heap:=[],next:=0} Agn none=heT x:=by kernel_rfl
end Go.Proofs.YtlgpjdjcbincgaaGreatDoor
namespace Go.Proofs.YtlgpjdjcbincgaaGreatDoor
open Go.Den Go.RowKit Go.ChangeShapes Go.Shelf
set_option maxRecDepth 100000
set_option maxHeartbeats 1000000
theorem i64_rows {W O}:∀ {l:List Int} {vs},RowOf (Reads W O I64) l vs↔vs=l.map (λn=>Value.int .i64 n)/\∀n∈l,inR .i64 n=true
 |[],vs=>⟨λh=>⟨h,λn c=>by cases c⟩,λh=>h.1⟩
 |n::l,vs=>by
  constructor
  ·rintro⟨o,p,e,⟨t,v⟩,d⟩;obtain⟨k1,y⟩:=i64_rows.1 d<;>simp_all
  ·rintro⟨rfl,h⟩;exact ⟨[.int .i64 n],l.map λn=>Value.int .i64 n,rfl,⟨rfl,h n (Qbr ..)⟩,i64_rows.2 ⟨rfl,λm g=>h m (Qak _ g)⟩⟩
section
variable {n0:Nat} {F ob:Nat->Prop} {x:AZ} {i B3 cap:Nat} {e3:TypeId} {u0 u1 u2 u4:Value} {G:Option Nat} {dn:Prop} {vs:Array Value} {W W':World}
theorem TwR.touch (h:TwR n0 F ob x i B3 cap e3 u0 u1 u2 u4 G dn vs W) (E:W.heap.size<=W'.heap.size) (I:∀b,b<W.heap.size->¬F b->W'.heap[b]?=W.heap[b]?):TwR n0 F ob x i B3 cap e3 u0 u1 u2 u4 G dn vs W':=by
 have Z:∀c,n0<=c->¬F c:=λc o hF=>by have:=h.f c hF;omega
 have d:Keeps W (TwO F ob B3 G) W' (TwO F ob B3 G):=⟨E,λb p hO=>⟨hO,I b p λhF=>hO (.inl hF)⟩⟩;refine ⟨(I B3 (Array.getElem?_eq_some_iff.1 h.rows).1 (Z _ h.b3.1)).trans h.rows,h.sz,h.len,h.b3,h.f,λc o=>⟨(h.own c o).1,Qac (h.own c o).2 E⟩,λc o=>?_,Av d Dz h.r0,Av d Dz h.r1,Av d Hj h.r2,Av d Dz h.r4,λj r hj J=>?_,λr J=>?_⟩
 ·obtain⟨t,y,q3,q4⟩:=h.g c o<;>grind
 ·obtain⟨v,X,Y⟩:=h.each j r hj J;exact ⟨v,X,Av d I64s Y⟩
 ·obtain⟨v,X,Y⟩:=h.here r J;refine ⟨v,X,Y.imp (λ⟨t,y⟩=>⟨t,Mx E (λb p=>I b (h.g b p).2.2.2 (Z _ (h.g b p).1)) y⟩) λ⟨t,y,q3⟩=>⟨t,y,Av d I64s q3⟩⟩
theorem TwR.row {r} (h:TwR n0 F ob x i B3 cap e3 u0 u1 u2 u4 G True vs W) (p:x.2.2.2.1[i]?=some r) (h0:0<r.length):∃g c cs e,vs[i]?=some (.slice (some ⟨g,0,none⟩) r.length c)/\G=some g/\r.length<=c/\c<=maxLen/\W.heap[g]?=some (.cells cs e (0,0))/\cs.size=c/\cs.toList.take r.length=r.map (λn=>Value.int .i64 n)/\∀n∈r,inR .i64 n=true:=by
 obtain⟨v,t,y⟩:=h.here r p;rcases y with ⟨_,a,c,E,d,I,o⟩|⟨q,_⟩
 ·have d:r.length<=c:=d;rcases o with ⟨o,_⟩|⟨g,cs,e,g0,g1,J,g3,g4,X,Y,Z⟩
  ·omega
  ·subst E J;obtain⟨k1,k2⟩:=i64_rows.1 Z;exact ⟨g,c,cs,e,t,g1,d,I,X,by rw[Y];simp[Ty.size],by have:=k1;simp only[Ty.size,Qch] at this;exact this,k2⟩
 ·exact absurd trivial q
def FT (x:AZ) (i:Nat) (r:List Int):AZ:=(x.1,(x.2.1,(x.2.2.1,(AB x.2.2.2.1 i r,x.2.2.2.2))))
theorem TwR.write {r k z} (h:TwR n0 F ob x i B3 cap e3 u0 u1 u2 u4 G True vs W) (Y:x.2.2.2.1[i]?=some r) (hk:k<r.length) (hz:inR .i64 z=true) {g} (hg:G=some g) :
 TwR n0 F ob (FT x i (r.set k z)) i B3 cap e3 u0 u1 u2 u4 G True vs (W.setCell ⟨g,k,none⟩ (.int .i64 z)):=by
 obtain⟨g',c,cs,e,a1,Z,a3,E,a4,a5,a6,a7⟩:=h.row Y (by omega);rw[hg] at Z;cases Z;have t:(W.setCell ⟨g,k,none⟩ (.int .i64 z)).heap.size=W.heap.size:=by simp_all
 have o:∀b,b≠g->(W.setCell ⟨g,k,none⟩ (.int .i64 z)).heap[b]?=W.heap[b]?:=λb hb=>Below.heap_setCell _ _ _ _ hb;have y:Keeps W (TwO F ob B3 G) (W.setCell ⟨g,k,none⟩ (.int .i64 z)) (TwO F ob B3 G):=⟨by omega,λb hb hO=>⟨hO,o b λe=>hO (by rw[e];exact .inr (.inr (.inr hg)))⟩⟩;have p:=h.g g hg;refine ⟨(o B3 (Ne.symm p.2.1)).trans h.rows,h.sz,by simp only[FT,AB,Qfr];exact h.len,h.b3,h.f,λc I=>⟨(h.own c I).1,by rw[t];exact (h.own c I).2⟩,λc I=>by simp_all,Av y Dz h.r0,Av y Dz h.r1,Av y Hj h.r2,Av y Dz h.r4,λj r' hj d=>?_,λr' d=>?_⟩
 ·simp only[FT,AB,Qae] at d;rw[List.getElem?_set_ne (Ne.symm hj)] at d;obtain⟨v,v1,v2⟩:=h.each j r' hj d;exact ⟨v,v1,Av y I64s v2⟩
 ·simp only[FT,AB,Qae] at d;rw[List.getElem?_set_self (List.getElem?_eq_some_iff.1 Y).1] at d;cases d;have J:(r.set k z).length=r.length:=Qfr;refine ⟨_,a1,.inl ⟨trivial,some ⟨g,0,none⟩,c,show Value.slice _ r.length c=Value.slice _ (r.set k z).length c by rw[J],show (r.set k z).length<=c by rw[J];exact a3,E,.inr ⟨g,_,e,by omega,hg,rfl,p.1,by rw[t];exact p.2.2.2,heap_setCell_same W g k _ _ (.int .i64 z) a4,by simp[a5,Ty.size],i64_rows.2 ⟨?_,λn X=>?_⟩⟩⟩⟩
  ·show List.take ((r.set k z).length*1) (cs.setIfInBounds k (.int .i64 z)).toList=(r.set k z).map _;rw[J,Qch,Qem,List.map_set,<-a6,List.take_set]
  ·rcases Qes X with X|rfl
   ·exact a7 n X
   ·exact hz
end
end Go.Proofs.YtlgpjdjcbincgaaGreatDoor
namespace Go.Proofs.YtlgpjdjcbincgaaGreatDoor
open Go.Den Go.RowKit Go.ChangeShapes Go.Shelf
set_option maxRecDepth 100000
set_option maxHeartbeats 4000000
theorem ZP {t:Array Value} (h:81<=t.size):∃x0 x1 x2 x3 x4 x5 x6 x7 x8 x9 c d g o p v y E I J X Y Z a1 a6 a7 a8 aa ab ad ae af ag ah ai aj ak al an ao aq ar au av aw ax ay az b0 b1 b2 b3 b7 b8 ba bb bc bd bf bg bh bj bk bl bm bn bo bp bq br bs bt bu bx bz c3 c5 c6 c7 c8 c9 r,t=(x0::x1::x2::x3::x4::x5::x6::x7::x8::x9::c::d::g::o::p::v::y::E::I::J::X::Y::Z::a1::a6::a7::a8::aa::ab::ad::ae::af::ag::ah::ai::aj::ak::al::an::ao::aq::ar::au::av::aw::ax::ay::az::b0::b1::b2::b3::b7::b8::ba::bb::bc::bd::bf::bg::bh::bj::bk::bl::bm::bn::bo::bp::bq::br::bs::bt::bu::bx::bz::c3::c5::c6::c7::c8::c9::r).toArray:=by obtain⟨l⟩:=t;obtain⟨x0,l0,rfl,h0⟩:=An h;obtain⟨x1,l1,rfl,h1⟩:=An h0;obtain⟨x2,l2,rfl,h2⟩:=An h1;obtain⟨x3,l3,rfl,h3⟩:=An h2;obtain⟨x4,l4,rfl,h4⟩:=An h3;obtain⟨x5,l5,rfl,h5⟩:=An h4;obtain⟨x6,l6,rfl,h6⟩:=An h5;obtain⟨x7,l7,rfl,h7⟩:=An h6;obtain⟨x8,l8,rfl,h8⟩:=An h7;obtain⟨x9,l9,rfl,h9⟩:=An h8;obtain⟨c,fb,rfl,ca⟩:=An h9;obtain⟨d,fc,rfl,cb⟩:=An ca;obtain⟨g,fe,rfl,cc⟩:=An cb;obtain⟨o,ff,rfl,cd⟩:=An cc;obtain⟨p,fg,rfl,cf⟩:=An cd;obtain⟨v,fh,rfl,cg⟩:=An cf;obtain⟨y,fi,rfl,ch⟩:=An cg;obtain⟨E,fj,rfl,cj⟩:=An ch;obtain⟨I,fk,rfl,ck⟩:=An cj;obtain⟨J,fl,rfl,cm⟩:=An ck;obtain⟨X,fm,rfl,cn⟩:=An cm;obtain⟨Y,fo,rfl,cq⟩:=An cn;obtain⟨Z,fp,rfl,cr⟩:=An cq;obtain⟨a1,fq,rfl,ct⟩:=An cr;obtain⟨a6,fr,rfl,cu⟩:=An ct;obtain⟨a7,fs,rfl,cv⟩:=An cu;obtain⟨a8,ft,rfl,cw⟩:=An cv;obtain⟨aa,fu,rfl,cx⟩:=An cw;obtain⟨ab,fv,rfl,cy⟩:=An cx;obtain⟨ad,fw,rfl,cz⟩:=An cy;obtain⟨ae,fx,rfl,da⟩:=An cz;obtain⟨af,fy,rfl,db⟩:=An da;obtain⟨ag,fz,rfl,dc⟩:=An db;obtain⟨ah,ga,rfl,dd⟩:=An dc;obtain⟨ai,gb,rfl,de⟩:=An dd;obtain⟨aj,gd,rfl,df⟩:=An de;obtain⟨ak,gf,rfl,dg⟩:=An df;obtain⟨al,gg,rfl,dh⟩:=An dg;obtain⟨an,gh,rfl,di⟩:=An dh;obtain⟨ao,gi,rfl,dj⟩:=An di;obtain⟨aq,gj,rfl,dk⟩:=An dj;obtain⟨ar,gk,rfl,dm⟩:=An dk;obtain⟨au,gl,rfl,dp⟩:=An dm;obtain⟨av,gm,rfl,dq⟩:=An dp;obtain⟨aw,gn,rfl,dr⟩:=An dq;obtain⟨ax,gp,rfl,ds⟩:=An dr;obtain⟨ay,gq,rfl,dt⟩:=An ds;obtain⟨az,gr,rfl,du⟩:=An dt;obtain⟨b0,gu,rfl,dv⟩:=An du;obtain⟨b1,gv,rfl,dw⟩:=An dv;obtain⟨b2,gw,rfl,dx⟩:=An dw;obtain⟨b3,gx,rfl,dy⟩:=An dx;obtain⟨b7,gy,rfl,dz⟩:=An dy;obtain⟨b8,gz,rfl,e0⟩:=An dz;obtain⟨ba,gB,rfl,e1⟩:=An e0;obtain⟨bb,ha,rfl,e2⟩:=An e1;obtain⟨bc,hb,rfl,e5⟩:=An e2;obtain⟨bd,hc,rfl,e7⟩:=An e5;obtain⟨bf,hd,rfl,e8⟩:=An e7;obtain⟨bg,hf,rfl,e9⟩:=An e8;obtain⟨bh,hg,rfl,ea⟩:=An e9;obtain⟨bj,hh,rfl,eb⟩:=An ea;obtain⟨bk,hi,rfl,ec⟩:=An eb;obtain⟨bl,hj,rfl,ed⟩:=An ec;obtain⟨bm,hk,rfl,ee⟩:=An ed;obtain⟨bn,hl,rfl,ef⟩:=An ee;obtain⟨bo,hn,rfl,eg⟩:=An ef;obtain⟨bp,ho,rfl,eh⟩:=An eg;obtain⟨bq,hp,rfl,ei⟩:=An eh;obtain⟨br,hq,rfl,ej⟩:=An ei;obtain⟨bs,hr,rfl,ek⟩:=An ej;obtain⟨bt,ht,rfl,eo⟩:=An ek;obtain⟨bu,hv,rfl,er⟩:=An eo;obtain⟨bx,hx,rfl,et⟩:=An er;obtain⟨bz,hy,rfl,eu⟩:=An et;obtain⟨c3,hz,rfl,ev⟩:=An eu;obtain⟨c5,hA,rfl,ew⟩:=An ev;obtain⟨c6,hB,rfl,ey⟩:=An ew;obtain⟨c7,hC,rfl,ez⟩:=An ey;obtain⟨c8,hD,rfl,eO⟩:=An ez;obtain⟨c9,fa,rfl,hF⟩:=An eO;exact ⟨x0,x1,x2,x3,x4,x5,x6,x7,x8,x9,c,d,g,o,p,v,y,E,I,J,X,Y,Z,a1,a6,a7,a8,aa,ab,ad,ae,af,ag,ah,ai,aj,ak,al,an,ao,aq,ar,au,av,aw,ax,ay,az,b0,b1,b2,b3,b7,b8,ba,bb,bc,bd,bf,bg,bh,bj,bk,bl,bm,bn,bo,bp,bq,br,bs,bt,bu,bx,bz,c3,c5,c6,c7,c8,c9,fa,rfl⟩
structure YA (b4 b5 b6 i:Nat) (a:Act):Prop where
 d:a.defers=[]
 s:81<=a.tmps.size
 t4:a.tmps.getD 4 undef=.pointer (some ⟨b4,0,none⟩)
 t5:a.tmps.getD 5 undef=.pointer (some ⟨b5,0,none⟩)
 t6:a.tmps.getD 6 undef=.pointer (some ⟨b6,0,none⟩)
 t9:a.tmps.getD 9 undef=.int .i64 (i:Int)
structure bB (b4 b5 b6 i:Nat) (pl:Option Addr) (nl cl k:Nat) (a:Act):Prop where
 h:YA b4 b5 b6 i a
 t47:a.tmps.getD 47 undef=.slice pl nl cl
 t48:a.tmps.getD 48 undef=.int .i64 (nl:Int)
 t49:a.tmps.getD 49 undef=.int .i64 (k:Int)
noncomputable def he9:Code:=sqa he5
noncomputable def AcW:Code:=sqa (sqa (sqb he5))
noncomputable def heL:Code:=sqb (sqa (sqb he5))
noncomputable def heE:Code:=sqb (sqb he5)
theorem AeM:he5=.seq he9 (.seq (.seq AcW heL) heE):=by kernel_rfl
theorem Agr:heL=.block 0 (.loop (lpb heL)):=by kernel_rfl
theorem AeO {c b5 b6 i:Nat} {a:Act} {W:World} {I J X Y Z:Option Addr} {k0 k1 k2 k3 k4 d0 d1 d2 d3 d4:Nat} {e:TypeId} (hA:YA c b5 b6 i a) (h4:W.heap[c]?=some (.cells #[.slice I k0 d0,.slice J k1 d1,.slice X k2 d2,.slice Y k3 d3,.slice Z k4 d4] e (0,0)))
 {Post:List Value->World->Prop} (hC:Calls Tryz.prog 106 #[.agg #[.slice I k0 d0,.slice J k1 d1,.slice X k2 d2,.slice Y k3 d3,.slice Z k4 d4]] W λe g=>∃p0 n0 c0 p1 n1 c1 p2 n2 c2 h o c3 p v c4,e=.returned (.agg #[.slice p0 n0 c0,.slice p1 n1 c1,.slice p2 n2 c2,.slice h o c3,.slice p v c4])/\Below W.heap.size W g/\Post [.slice p0 n0 c0,.slice p1 n1 c1,.slice p2 n2 c2,.slice h o c3,.slice p v c4] g)
 {K:Act->World->Prop} {Q:Exit->Act->World->Prop} (hK:∀y g W3 us,Post us g->YA c b5 b6 i y->W3.heap[c]?=some (.cells us.toArray e (0,0))->W3.heap.size=g.heap.size->(∀B,B<=c->Below B g W3)->(∀b,b≠c->W3.heap[b]?=g.heap[b]?)->K y W3):Code.wp Tryz.prog he9 (Exit.then K Q) a W:=by
 obtain⟨t,d⟩:=a;obtain⟨hd,hs,t4,t5,t6,t9⟩:=hA;simp only at hd hs t4 t5 t6 t9;obtain⟨x0,x1,x2,x3,x4,x5,x6,x7,x8,x9,ab,ad,ae,af,ag,ah,ai,aj,ak,al,an,ao,aq,ar,au,av,aw,ax,ay,az,b0,b1,b2,b3,b7,b8,ba,bb,bc,bd,bf,bg,bh,bj,bk,bl,bm,bn,bo,bp,bq,br,bs,bt,bu,bx,bz,c5,c6,c7,c8,c9,ca,cb,cc,cd,cf,cg,ch,cj,ck,cm,cn,cq,cr,ct,cu,cv,cw,cx,cy,r,rfl⟩:=ZP hs;simp only[Qao,Qcc,Qbj,Qbi,Qbc] at t4 t5 t6 t9;subst hd t4 t5 t6 t9;have a0:W.cell? ⟨c,0,none⟩=some (.slice I k0 d0):=by simp[World.cell?,h4]
 have a1:W.cell? ⟨c,1,none⟩=some (.slice J k1 d1):=by simp[World.cell?,h4]
 have a2:W.cell? ⟨c,2,none⟩=some (.slice X k2 d2):=by simp[World.cell?,h4]
 have a3:W.cell? ⟨c,3,none⟩=some (.slice Y k3 d3):=by simp[World.cell?,h4]
 have a4:W.cell? ⟨c,4,none⟩=some (.slice Z k4 d4):=by simp[World.cell?,h4]
 have a7:=(Array.getElem?_eq_some_iff.1 h4).1;have a8:Calls Tryz.prog 106 #[.agg #[.slice I k0 d0,.slice J k1 d1,.slice X k2 d2,.slice Y k3 d3,.slice Z k4 d4]] W λe g=>∃p0 n0 c0 p1 n1 c1 p2 n2 c2 h o c3 p v c4,e=.returned (.agg #[.slice p0 n0 c0,.slice p1 n1 c1,.slice p2 n2 c2,.slice h o c3,.slice p v c4]) /\
  (g.cell? ⟨c,0,none⟩=some (.slice I k0 d0)/\g.frozen? ⟨c,0,none⟩=false/\g.cell? ⟨c,1,none⟩=some (.slice J k1 d1)/\g.frozen? ⟨c,1,none⟩=false/\g.cell? ⟨c,2,none⟩=some (.slice X k2 d2)/\g.frozen? ⟨c,2,none⟩=false/\g.cell? ⟨c,3,none⟩=some (.slice Y k3 d3)/\g.frozen? ⟨c,3,none⟩=false/\g.cell? ⟨c,4,none⟩=some (.slice Z k4 d4)/\g.frozen? ⟨c,4,none⟩=false)/\∀y,YA c b5 b6 i y->K y (((((g.setCell ⟨c,0,none⟩ (.slice p0 n0 c0)).setCell ⟨c,1,none⟩ (.slice p1 n1 c1)).setCell ⟨c,2,none⟩ (.slice p2 n2 c2)).setCell ⟨c,3,none⟩ (.slice h o c3)).setCell ⟨c,4,none⟩ (.slice p v c4)):=hC.mono ?_
 ·clear hC;unfold he9 he5 heI;simp only[Tryz.f71,AG,sqa,sqb,Qbc];clear hs;clear hK h4;go_wp2_with (go_at_call 106;refine a8.mono ?_;rintro _ g ⟨p0,n0,c0,p1,n1,c1,p2,n2,c2,h,o,c3,p,v,c4,rfl,⟨f0,g0,f1,g1,f2,g2,f3,g3,f4,g4⟩,hk⟩);exact ⟨rfl,by simp,by simp,by simp,by simp,by simp⟩
 ·rintro e' g ⟨p0,n0,c0,p1,n1,c1,p2,n2,c2,h,o,c3,p,v,c4,rfl,E,hP⟩;have a6:=(E.block c a7).trans h4;have s0:=heap_setCell_same g c 0 _ _ (.slice p0 n0 c0) a6;have s1:=heap_setCell_same _ c 1 _ _ (.slice p1 n1 c1) s0;have s2:=heap_setCell_same _ c 2 _ _ (.slice p2 n2 c2) s1;have s3:=heap_setCell_same _ c 3 _ _ (.slice h o c3) s2;have s4:=heap_setCell_same _ c 4 _ _ (.slice p v c4) s3;refine ⟨p0,n0,c0,p1,n1,c1,p2,n2,c2,h,o,c3,p,v,c4,rfl,?_,λy aa=>hK y g _ _ hP aa s4 (by simp[World.setCell]) (λB E=>(((((Below.refl B g).setCell E _).setCell E _).setCell E _).setCell E _).setCell E _) λb hb=>by repeat rw[Below.heap_setCell _ _ _ _ hb]⟩;simp[World.cell?,World.frozen?,a6]
theorem Agw {h c o i:Nat} {a:Act} {W:World} {pl:Option Addr} {nl cl:Nat} (y:YA h c o i a) (h5:W.cell? ⟨c,3,none⟩=some (.slice pl nl cl)) {K:Act->World->Prop} {Q:Exit->Act->World->Prop} (hK:∀p,bB h c o i pl nl cl 0 p->K p W):Code.wp Tryz.prog AcW (Exit.then K Q) a W:=by obtain⟨t,d⟩:=a;obtain⟨v,g,t4,t5,t6,t9⟩:=y;simp only at v g t4 t5 t6 t9;obtain⟨x0,x1,x2,x3,x4,x5,x6,x7,x8,x9,E,I,J,X,Y,Z,a1,a6,a7,a8,aa,ab,ad,ae,af,ag,ah,ai,aj,ak,al,an,ao,aq,ar,au,av,aw,ax,ay,az,b0,b1,b2,b3,b7,b8,ba,bb,bc,bd,bf,bg,bh,bj,bk,bl,bm,bn,bo,bp,bq,br,bs,bt,bu,bx,bz,c3,c5,c6,c7,c8,c9,ca,cb,cc,cd,cf,cg,ch,r,rfl⟩:=ZP g;simp only[Qao,Qcc,Qbj,Qbi,Qbc] at t4 t5 t6 t9;subst v t4 t5 t6 t9;unfold AcW he5 heI;simp only[Tryz.f71,AG,sqa,sqb,Qbc];clear g;go_wp2;exact ⟨⟨rfl,by simp,by simp,by simp,by simp,by simp⟩,by simp,by simp,by simp⟩
end Go.Proofs.YtlgpjdjcbincgaaGreatDoor
namespace Go.Proofs.YtlgpjdjcbincgaaGreatDoor
open Go.Den Go.RowKit Go.ChangeShapes Go.Shelf
set_option maxRecDepth 100000
set_option maxHeartbeats 4000000
theorem AcY {o I J i p cap len g c v k nl cl pb off a} {y lk z X} {W:World} (hA:bB o I J i (some ⟨pb,off,none⟩) nl cl k a) (c3:W.cell? ⟨o,3,none⟩=some (.slice (some ⟨p,0,none⟩) len cap)) (ci:W.cell? ⟨p,i,none⟩=some (.slice (some ⟨g,0,none⟩) v c)) (cg:W.cell? ⟨g,k,none⟩=some (.int .i64 y)) (a1:W.cell? ⟨pb,off+k,none⟩=some (.int .i64 lk))
 (hi:(i:Int)<(len:Int)) (a6:(0:Int)<=(i:Int)) (hk:(k:Int)<(nl:Int)) (a7:(0:Int)<=(k:Int)) (a8:(k:Int)<(v:Int)) (hm:(nl:Int)<=1000000000000000) {Post:World->Prop}
 (hC:Calls Tryz.prog 129 #[.int .i64 y,.int .i64 lk,.int .i64 16384] W λe h=>e=.returned (.tuple #[.int .i64 z,.int .i64 X])/\h.cell? ⟨o,3,none⟩=some (.slice (some ⟨p,0,none⟩) len cap)/\h.cell? ⟨p,i,none⟩=some (.slice (some ⟨g,0,none⟩) v c)/\h.cell? ⟨g,k,none⟩=some (.int .i64 y)/\h.frozen? ⟨g,k,none⟩=false/\Post h) (he:X=0)
 {K:Act->World->Prop} {Q:Exit->Act->World->Prop} (hK:∀Y h,Post h->bB o I J i (some ⟨pb,off,none⟩) nl cl (k+1) Y->K Y (h.setCell ⟨g,k,none⟩ (.int .i64 z))):Code.wp Tryz.prog (lpb heL) (Exit.then K Q) a W:=by subst he;obtain⟨t,d⟩:=a;obtain⟨⟨Z,E,t4,t5,t6,t9⟩,t47,t48,t49⟩:=hA;simp only at Z E t4 t5 t6 t9 t47 t48 t49;obtain⟨x0,x1,x2,x3,x4,x5,x6,x7,x8,x9,aa,ab,ad,ae,af,ag,ah,ai,aj,ak,al,an,ao,aq,ar,au,av,aw,ax,ay,az,b0,b1,b2,b3,b7,b8,ba,bb,bc,bd,bf,bg,bh,bj,bk,bl,bm,bn,bo,bp,bq,br,bs,bt,bu,bx,bz,c5,c6,c7,c8,c9,ca,cb,cc,cd,cf,ch,cj,ck,cm,cn,cq,cr,ct,cu,cv,cw,cx,cy,r,rfl⟩:=ZP E;simp only[Qao,Qcc,Qbj,Qbi,Qbc] at t4 t5 t6 t9 t47 t48 t49;subst Z t4 t5 t6 t9 t47 t48 t49;unfold heL he5 heI;simp only[Tryz.f71,AG,sqa,sqb,lpb,Qbc];clear E;go_wp2_with (go_at_call 129;refine hC.mono ?_;rintro _ h ⟨rfl,f3,fi,fg,ff,hP⟩);exact hK _ _ hP ⟨⟨rfl,by simp,by simp,by simp,by simp,by simp⟩,by simp,by simp,by simp⟩
theorem Agt {y0 y1 y2 y3 y4:Value} {E Z h i I cap len g c J k nl cl pb off:Nat} {X lk z v:Int} {a:Act} {W:World} (hA:bB E Z h i (some ⟨pb,off,none⟩) nl cl k a) (c3:W.cell? ⟨E,3,none⟩=some (.slice (some ⟨I,0,none⟩) len cap)) (ci:W.cell? ⟨I,i,none⟩=some (.slice (some ⟨g,0,none⟩) J c)) (cg:W.cell? ⟨g,k,none⟩=some (.int .i64 X)) (a1:W.cell? ⟨pb,off+k,none⟩=some (.int .i64 lk))
 (hi:(i:Int)<(len:Int)) (a6:(0:Int)<=(i:Int)) (hk:(k:Int)<(nl:Int)) (a7:(0:Int)<=(k:Int)) (a8:(k:Int)<(J:Int)) (hm:(nl:Int)<=1000000000000000) {Post:World->Prop}
 (hC:Calls Tryz.prog 129 #[.int .i64 X,.int .i64 lk,.int .i64 16384] W λe o=>e=.returned (.tuple #[.int .i64 z,.int .i64 v])/\(o.cell? ⟨h,0,none⟩=some y0/\o.frozen? ⟨h,0,none⟩=false/\o.cell? ⟨h,1,none⟩=some y1/\o.frozen? ⟨h,1,none⟩=false/\o.cell? ⟨h,2,none⟩=some y2/\o.frozen? ⟨h,2,none⟩=false/\o.cell? ⟨h,3,none⟩=some y3/\o.frozen? ⟨h,3,none⟩=false/\o.cell? ⟨h,4,none⟩=some y4/\o.frozen? ⟨h,4,none⟩=false)/\Post o) (he:¬v=0)
 {K:Act->World->Prop} {Q:Exit->Act->World->Prop} (hQ:∀p o,Post o->p.defers=[]->p.tmps.getD 6 undef=.pointer (some ⟨h,0,none⟩)->p.tmps.getD 7 undef=.int .i64 v->Q .ret p (((((o.setCell ⟨h,0,none⟩ (.slice none 0 0)).setCell ⟨h,1,none⟩ (.slice none 0 0)).setCell ⟨h,2,none⟩ (.slice none 0 0)).setCell ⟨h,3,none⟩ (.slice none 0 0)).setCell ⟨h,4,none⟩ (.slice none 0 0))):Code.wp Tryz.prog (lpb heL) (Exit.then K (Exit.inBlock 0 (Exit.then (heE.wp Tryz.prog Q) Q))) a W:=by obtain⟨t,d⟩:=a;obtain⟨⟨Y,y,t4,t5,t6,t9⟩,t47,t48,t49⟩:=hA;simp only at Y y t4 t5 t6 t9 t47 t48 t49;obtain⟨x0,x1,x2,x3,x4,x5,x6,x7,x8,x9,aa,ab,ad,ae,af,ag,ah,ai,aj,ak,al,an,ao,aq,ar,au,av,aw,ax,ay,az,b0,b1,b2,b3,b7,b8,ba,bb,bc,bd,bf,bg,bh,bj,bk,bl,bm,bn,bo,bp,bq,br,bs,bt,bu,bx,bz,c5,c6,c7,c8,c9,ca,cb,cc,cd,cf,ch,cj,ck,cm,cn,cq,cr,ct,cu,cv,cw,cx,cy,r,rfl⟩:=ZP y;simp only[Qao,Qcc,Qbj,Qbi,Qbc] at t4 t5 t6 t9 t47 t48 t49;subst Y t4 t5 t6 t9 t47 t48 t49;unfold heL heE he5 heI;simp only[Tryz.f71,AG,sqa,sqb,lpb,Qbc];clear y;go_wp2_with (go_at_call 129;refine hC.mono ?_;rintro _ o ⟨rfl,⟨f0,g0,f1,g1,f2,g2,f3,g3,f4,g4⟩,hP⟩);exact hQ _ _ hP rfl (by simp) (by simp)
theorem Ags {y0 y1 y2 y3 y4:Value} {g J c i nl cl:Nat} {pl:Option Addr} {p0 p1 p2 o p:Option Addr} {n0 n1 n2 v y c0 c1 c2 c3 c4:Nat} {a:Act} {W:World} (X:bB g J c i pl nl cl nl a) {Y Z:TypeId} (h4:W.heap[g]?=some (.cells #[.slice p0 n0 c0,.slice p1 n1 c1,.slice p2 n2 c2,.slice o v c3,.slice p y c4] Y (0,0))) (h6:W.heap[c]?=some (.cells #[y0,y1,y2,y3,y4] Z (0,0)))
 {K:Act->World->Prop} {Q:Exit->Act->World->Prop} (hQ:∀h,h.defers=[]->h.tmps.getD 6 undef=.pointer (some ⟨c,0,none⟩)->h.tmps.getD 7 undef=.int .i64 0->Q .ret h (((((W.setCell ⟨c,0,none⟩ (.slice p0 n0 c0)).setCell ⟨c,1,none⟩ (.slice p1 n1 c1)).setCell ⟨c,2,none⟩ (.slice p2 n2 c2)).setCell ⟨c,3,none⟩ (.slice o v c3)).setCell ⟨c,4,none⟩ (.slice p y c4))):Code.wp Tryz.prog (lpb heL) (Exit.then K (Exit.inBlock 0 (Exit.then (heE.wp Tryz.prog Q) Q))) a W:=by
 obtain⟨t,d⟩:=a;obtain⟨⟨I,E,t4,t5,t6,t9⟩,t47,t48,t49⟩:=X;simp only at I E t4 t5 t6 t9 t47 t48 t49;obtain⟨x0,x1,x2,x3,x4,x5,x6,x7,x8,x9,a6,a7,a8,aa,ab,ad,ae,af,ag,ah,ai,aj,ak,al,an,ao,aq,ar,au,av,aw,ax,ay,az,b0,b1,b2,b3,b7,b8,ba,bb,bc,bd,bf,bg,bh,bj,bk,bl,bm,bn,bo,bp,bq,br,bs,bt,bu,bx,bz,c5,c6,c7,c8,c9,ca,cb,cc,cd,cf,cg,ch,cj,ck,cm,cn,cq,cr,ct,cu,r,rfl⟩:=ZP E;simp only[Qao,Qcc,Qbj,Qbi,Qbc] at t4 t5 t6 t9 t47 t48 t49;subst I t4 t5 t6 t9 t47 t48 t49;have a0:W.cell? ⟨g,0,none⟩=some (.slice p0 n0 c0):=by simp[World.cell?,h4]
 have k0:W.cell? ⟨c,0,none⟩=some y0:=by simp[World.cell?,h6]
 have f0:W.frozen? ⟨c,0,none⟩=false:=by simp[World.frozen?,h6]
 have a1:W.cell? ⟨g,1,none⟩=some (.slice p1 n1 c1):=by simp[World.cell?,h4]
 have k1:W.cell? ⟨c,1,none⟩=some y1:=by simp[World.cell?,h6]
 have f1:W.frozen? ⟨c,1,none⟩=false:=by simp[World.frozen?,h6]
 have a2:W.cell? ⟨g,2,none⟩=some (.slice p2 n2 c2):=by simp[World.cell?,h4]
 have k2:W.cell? ⟨c,2,none⟩=some y2:=by simp[World.cell?,h6]
 have f2:W.frozen? ⟨c,2,none⟩=false:=by simp[World.frozen?,h6]
 have a3:W.cell? ⟨g,3,none⟩=some (.slice o v c3):=by simp[World.cell?,h4]
 have k3:W.cell? ⟨c,3,none⟩=some y3:=by simp[World.cell?,h6]
 have f3:W.frozen? ⟨c,3,none⟩=false:=by simp[World.frozen?,h6]
 have a4:W.cell? ⟨g,4,none⟩=some (.slice p y c4):=by simp[World.cell?,h4]
 have k4:W.cell? ⟨c,4,none⟩=some y4:=by simp[World.cell?,h6]
 have f4:W.frozen? ⟨c,4,none⟩=false:=by simp[World.frozen?,h6]
 clear h4 h6;unfold heL heE he5 heI;simp only[Tryz.f71,AG,sqa,sqb,lpb,Qbc];clear E;go_wp2;exact hQ _ rfl (by simp) (by simp)
end Go.Proofs.YtlgpjdjcbincgaaGreatDoor
namespace Go.Proofs.YtlgpjdjcbincgaaGreatDoor
open Go.Den Go.RowKit Go.ChangeShapes Go.Shelf
set_option maxRecDepth 100000
set_option maxHeartbeats 1000000
abbrev heZ:AZ:=([],([],([],([],[]))))
def ZG (l:List Int) (c:Int×List Int):Step (Int×List Int) (Option (List Int×Int)) :=
(cnd (decide (c.1<Aa l))
(Ad (idx l c.1) (.done none) λg =>
 Ad (idx c.2 c.1) (.done none) λh =>
 Ad (G8 (h,(g,16384))) (.done none) λd =>
 cnd (!d.2==0)
(.done (some (c.2,d.2)))
(.next (wr .i64 (c.1+1),AB c.2 c.1 d.1)))
(.done (some (c.2,0))))
theorem AcZ {x y} (h:E7 x=some y):heT x=some (.inl y) \/
 ∃(i:Nat) (row:List Int) (z:List Int×Int),heT x=some (.inr (jU x.2.1 x.2.2 (i:Int)))/\x.2.1.2.2.2.1[i]?=some row/\Aa x.2.2.2.2.2=Aa row/\DU x.2.1=some x.2.1/\YS x.2.1/\iter none (ZG x.2.2.2.2.2) Am ((0:Int),row)=some z /\
  (z.2≠0/\y=(heZ,z.2)\/z.2=0/\y=(FT x.2.1 i z.1,0)):=by
 unfold E7 at h
 unfold heT
 obtain⟨a0,h0,o⟩:=AF h
 rw[h0,Zzq rfl]
 by_cases c0:a0=0
 rotate_left
 ·rw[Zzp (by simpa using c0)] at o ⊢<;>simp_all
 rw[Zzn (by simpa using c0)] at o ⊢
 obtain⟨p,h1,g1⟩:=AF o
 rw[h1,Zzq rfl]
 by_cases c1:p.2=0
 rotate_left
 ·rw[Zzp (by simpa using c1)] at g1 ⊢<;>simp_all
 rw[Zzn (by simpa using c1)] at g1 ⊢
 obtain⟨t,c,g⟩:=AF g1
 rw[c,Zzq rfl]
 by_cases c2:Aa x.2.2.2.2.2=Aa t
 rotate_left
 ·rw[Zzp (by simpa using c2)] at g ⊢;exact .inl (congrArg (Option.map Sum.inl) g)
 rw[Zzn (by simpa using c2)] at g ⊢
 obtain⟨a3,v,E⟩:=AF g
 obtain⟨e3,I⟩:=qG v
 subst e3
 obtain⟨a4,h4,J⟩:=AF E
 rw[c] at h4
 cases h4
 obtain⟨z,X,d⟩:=AF J
 obtain⟨Y,i1,_⟩:=Ag c
 obtain⟨i,hi⟩:∃i:Nat,p.1=i:=⟨p.1.toNat,by omega⟩
 refine .inr ⟨i,t,z,by rw[hi],by rw[hi,AY (by omega)] at c;exact c,c2,v,I,X,?_⟩
 by_cases c3:z.2=0
 ·rw[Zzn (by simpa using c3)] at d;right;refine ⟨c3,?_⟩;rw[hi] at d;exact (Qag d).symm
 ·rw[Zzp (by simpa using c3)] at d;exact .inl ⟨c3,(Qag d).symm⟩
structure HeS (w W1:World) (F O:Nat->Prop) (m:AZ) (i b4 b6 B3 cap:Nat) (e3 e4 e6:TypeId) (p0 p1 p2 p4:Option Addr) (n0 n1 n2 n4 c0 c1 c2 c4:Nat) (G:Option Nat) (vs:Array Value) (pl:Option Addr) (cl:Nat) (y0 y1 y2 y3 y4:Value) (l r:List Int) (W:World):Prop where
 v:V w
 below:Below w.heap.size w W
 n:w.heap.size<=W1.heap.size/\W1.heap.size<=W.heap.size
 tw:TwR W1.heap.size O (λ_=>False) (FT m i r) i B3 cap e3 (.slice p0 n0 c0) (.slice p1 n1 c1) (.slice p2 n2 c2) (.slice p4 n4 c4) G True vs W
 h4:W.heap[b4]?=some (.cells #[.slice p0 n0 c0,.slice p1 n1 c1,.slice p2 n2 c2,.slice (some ⟨B3,0,none⟩) m.2.2.2.1.length cap,.slice p4 n4 c4] e4 (0,0))
 h6:W.heap[b6]?=some (.cells #[y0,y1,y2,y3,y4] e6 (0,0))
 lt:b4<W1.heap.size/\b6<W1.heap.size/\w.heap.size<=b6/\O b6
 f:∀c,F c->O c
 fl:∀c,F c->c<w.heap.size
 rep:Reads W O I64s l [.slice pl l.length cl]
 rw:∀c,(∃b off,pl=some ⟨b,off,none⟩/\c=b)->c<W1.heap.size\/l.length=0
 il:i<m.2.2.2.1.length
theorem rJ {W W' O} (h:Below W.heap.size W W'):Keeps W O W' O:=⟨h.size,λb c d=>⟨d,h.block b c⟩⟩
section
variable {w W1:World} {F O:Nat->Prop} {m:AZ} {i b4 b5 b6 B3 cap:Nat} {e3 e4 e6:TypeId} {p0 p1 p2 p4:Option Addr} {n0 n1 n2 n4 c0 c1 c2 c4:Nat} {G:Option Nat} {vs:Array Value} {pl:Option Addr} {cl:Nat} {y0 y1 y2 y3 y4:Value} {l r:List Int} {W W2:World}
theorem HeS.grow (h:HeS w W1 F O m i b4 b6 B3 cap e3 e4 e6 p0 p1 p2 p4 n0 n1 n2 n4 c0 c1 c2 c4 G vs pl cl y0 y1 y2 y3 y4 l r W) (c:Below W.heap.size W W2):HeS w W1 F O m i b4 b6 B3 cap e3 e4 e6 p0 p1 p2 p4 n0 n1 n2 n4 c0 c1 c2 c4 G vs pl cl y0 y1 y2 y3 y4 l r W2:=by exact ⟨h.v,h.below.trans (c.mono h.below.size),⟨h.n.1,Qbh h.n.2 c.size⟩,h.tw.touch c.size λb d _=>c.block b d,(c.block _ (Array.getElem?_eq_some_iff.1 h.h4).1).trans h.h4,(c.block _ (Array.getElem?_eq_some_iff.1 h.h6).1).trans h.h6,h.lt,h.f,h.fl,Av (rJ c) I64s h.rep,h.rw,h.il⟩
theorem HeS.here (h:HeS w W1 F O m i b4 b6 B3 cap e3 e4 e6 p0 p1 p2 p4 n0 n1 n2 n4 c0 c1 c2 c4 G vs pl cl y0 y1 y2 y3 y4 l r W):(FT m i r).2.2.2.1[i]?=some r:=by simp only[FT,AB,Qae];exact List.getElem?_set_self h.il
theorem HeS.write {k z g} (h:HeS w W1 F O m i b4 b6 B3 cap e3 e4 e6 p0 p1 p2 p4 n0 n1 n2 n4 c0 c1 c2 c4 G vs pl cl y0 y1 y2 y3 y4 l r W) (J:k<r.length) (X:inR .i64 z=true) (hg:G=some g) :
 HeS w W1 F O m i b4 b6 B3 cap e3 e4 e6 p0 p1 p2 p4 n0 n1 n2 n4 c0 c1 c2 c4 G vs pl cl y0 y1 y2 y3 y4 l (r.set k z) (W.setCell ⟨g,k,none⟩ (.int .i64 z)):=by
 have o:=h.tw.g g hg;have y:=h.tw.write h.here J X hg;have e:FT (FT m i r) i (r.set k z)=FT m i (r.set k z):=by simp only[FT,AB,List.set_set]
 rw[e] at y;have d:=h.lt;have Y:(W.setCell ⟨g,k,none⟩ (.int .i64 z)).heap.size=W.heap.size:=by simp_all
 have p:Below W1.heap.size W (W.setCell ⟨g,k,none⟩ (.int .i64 z)):=(Below.refl _ W).setCell o.1 _;refine ⟨h.v,h.below.trans (p.mono h.n.1),⟨h.n.1,by omega⟩,y,(p.block _ d.1).trans h.h4,(p.block _ d.2.1).trans h.h6,h.lt,h.f,h.fl,?_,h.rw,h.il⟩;obtain⟨a,c,E,Z,q3,t⟩:=h.rep;refine ⟨a,c,E,Z,q3,?_⟩;rcases t with t|⟨b,off,cells,rfl,k1,k2,k3,k4⟩
 ·exact .inl t
 ·cases E;rcases h.rw b ⟨b,off,rfl,rfl⟩ with I|I
  ·refine .inr ⟨b,off,cells,rfl,k1,by omega,λj v hj=>?_,k4.mono λ_ _=>FE I64 rfl⟩;rw[World.cell?_setCell_far _ _ _ _ (show g≠b by omega)];exact k3 j v hj
  ·exact .inl I
end
theorem Aa2 {W a b} (d:V W) {O:Nat->Prop} (g:∀b,O b->b<W.heap.size) (h:inR .i64 a=true) (o:inR .i64 b=true) :
 Calls Tryz.prog 129 #[.int .i64 a,.int .i64 b,.int .i64 16384] W λe W2=>e=.returned (.tuple #[.int .i64 (CA (a,(b,16384))).1,.int .i64 (CA (a,(b,16384))).2])/\Below W.heap.size W W2/\inR .i64 (CA (a,(b,16384))).1=true/\inR .i64 (CA (a,(b,16384))).2=true :=
 (load_Smooth_k.ok.calls W O [.int .i64 a,.int .i64 b,.int .i64 16384] (a,(b,(16384:Int))) (CA (a,(b,16384))) d g ⟨_,_,⟨rfl,h⟩,rfl,_,_,⟨rfl,o⟩,rfl,_,⟨rfl,rfl⟩,rfl⟩ rfl).mono λe W2 ⟨rs,p,t,us,vs,⟨h1,v⟩,y,E,⟨h4,c⟩,I⟩=>by subst y h1 I h4;exact ⟨p,t,v,c⟩
theorem Adu {W O pl cl k} {l:List Int} (h:Reads W O I64s l [.slice pl l.length cl]) g:∃b off,pl=some ⟨b,off,none⟩/\W.cell? ⟨b,off+k,none⟩=some (.int .i64 l[k])/\inR .i64 l[k]=true:=by
 obtain⟨a,c,o,y,E,d⟩:=h;cases o;rcases d with d|⟨b,off,cells,rfl,k1,I,p,t⟩
 ·have d:l.length=0:=d;omega
 ·obtain⟨J,v⟩:=i64_rows.1 t;refine ⟨b,off,rfl,p k _ (by simp_all),v _ (Qgf g)⟩
theorem AeN {w W1 F O m i b4 b5 b6 B3 cap e3 e4 e6 p0 p1 p2 p4 n0 n1 n2 n4 c0 c1 c2 c4 G vs pl cl y0 y1 y2 y3 y4 l z Q} (hO:∀b,O b->b<W1.heap.size) (hl:Aa l<=1000000000000000) (hm:Aa m.2.2.2.1<=1000000000000000)
 (hQ:∀o r W,HeS w W1 F O m i b4 b6 B3 cap e3 e4 e6 p0 p1 p2 p4 n0 n1 n2 n4 c0 c1 c2 c4 G vs pl cl y0 y1 y2 y3 y4 l r W->z=(r,0)->o.defers=[]->o.tmps.getD 6 undef=.pointer (some ⟨b6,0,none⟩)->o.tmps.getD 7 undef=.int .i64 0->Q .ret o (((((W.setCell ⟨b6,0,none⟩ (.slice p0 n0 c0)).setCell ⟨b6,1,none⟩ (.slice p1 n1 c1)).setCell ⟨b6,2,none⟩ (.slice p2 n2 c2)).setCell ⟨b6,3,none⟩ (.slice (some ⟨B3,0,none⟩) m.2.2.2.1.length cap)).setCell ⟨b6,4,none⟩ (.slice p4 n4 c4)))
 (hE:∀o r W er,HeS w W1 F O m i b4 b6 B3 cap e3 e4 e6 p0 p1 p2 p4 n0 n1 n2 n4 c0 c1 c2 c4 G vs pl cl y0 y1 y2 y3 y4 l r W->z=(r,er)->er≠0->inR .i64 er=true->o.defers=[]->o.tmps.getD 6 undef=.pointer (some ⟨b6,0,none⟩)->o.tmps.getD 7 undef=.int .i64 er->Q .ret o (((((W.setCell ⟨b6,0,none⟩ (.slice none 0 0)).setCell ⟨b6,1,none⟩ (.slice none 0 0)).setCell ⟨b6,2,none⟩ (.slice none 0 0)).setCell ⟨b6,3,none⟩ (.slice none 0 0)).setCell ⟨b6,4,none⟩ (.slice none 0 0))) :
 ∀n k,n+k=l.length->∀ {a} {W} {r} {fuel},bB b4 b5 b6 i pl l.length cl k a->HeS w W1 F O m i b4 b6 B3 cap e3 e4 e6 p0 p1 p2 p4 n0 n1 n2 n4 c0 c1 c2 c4 G vs pl cl y0 y1 y2 y3 y4 l r W->iter none (ZG l) fuel ((k:Int),r)=some z ->
 Code.rounds Tryz.prog (lpb heL) (Exit.inBlock 0 (Exit.then (heE.wp Tryz.prog Q) Q)) (n+1) a W:=by
 intro n;induction n with
 |zero =>
  intro k hk a W r fuel hA hS d;obtain rfl:k=l.length:=by omega
  cases fuel with
  |zero=>cases d
  |succ fuel =>
  simp only[iter,ZG] at d;rw[Zzn (decide_eq_false (by unfold Aa;omega))] at d;rw[rounds_succ];exact Ags hA hS.h4 hS.h6 λo d1 E I=>hQ o r W hS (Qag d).symm d1 E I
 |succ n ih =>
  intro k hk a W r fuel hA hS d;have ad:k<l.length:=by omega
  cases fuel with
  |zero=>cases d
  |succ fuel =>
  have ae:idx l (k:Int)=some l[k]:=by rw[AY (by omega),Qae]<;>grind
  simp only[iter,ZG] at d;rw[Zzp (decide_eq_true (show (k:Int)<Aa l by unfold Aa;omega)),Zzq ae] at d;cases hr:idx r (k:Int) with
  |none=>rw[hr] at d;cases d
  |some p =>
  rw[Zzq hr,Zzq (Jb _)] at d;obtain⟨ak,af,_⟩:=Ag hr;have t:k<r.length:=by unfold Aa at af;omega
  have J:r[k]=p:=by rw[AY (by omega),Qae,Qdv t] at hr<;>grind
  obtain⟨g,c,cs,e,a1,a2,a3,al,a4,a5,a6,a7⟩:=hS.tw.row hS.here (by omega);obtain⟨pb,off,rfl,X,ag⟩:=Adu hS.rep ad;have Y:=a7 _ (Qgf t);rw[J] at Y;have ah:cs[k]?=some (.int .i64 p):=by
   have e1:(cs.toList.take r.length)[k]?=some (.int .i64 p):=by rw[a6,Qbf,Qdv t,J];rfl
   rw[Qbg,if_pos t,Qav] at e1;exact e1
  have an:=hS.il;have cells:∀ {W2:World},HeS w W1 F O m i b4 b6 B3 cap e3 e4 e6 p0 p1 p2 p4 n0 n1 n2 n4 c0 c1 c2 c4 G vs (some ⟨pb,off,none⟩) cl y0 y1 y2 y3 y4 l r W2->W2.heap[g]?=some (.cells cs e (0,0))->W2.cell? ⟨b4,3,none⟩=some (.slice (some ⟨B3,0,none⟩) m.2.2.2.1.length cap)/\W2.cell? ⟨B3,i,none⟩=some (.slice (some ⟨g,0,none⟩) r.length c)/\W2.cell? ⟨g,k,none⟩=some (.int .i64 p)/\W2.frozen? ⟨g,k,none⟩=false:=λ{W2} h hg=>by refine ⟨by simp[World.cell?,h.h4],by simp[World.cell?,h.tw.rows,a1],by simp[World.cell?,hg,ah],by simp[World.frozen?,hg]⟩
  obtain⟨Z,a8,aa,_⟩:=cells hS a4;have ab:=Aa2 (stays _ _ hS.below hS.v) (λb hb=>Qac (hO b hb) hS.n.2) Y ag;rw[rounds_succ];by_cases hz:(CA (p,(l[k],16384))).2=0
  ·rw[Zzn (by simpa using hz)] at d;simp only at d;rw[Aj ((k:Int)+1) (by omega) (by unfold Aa at hl;omega)] at d;refine AcY hA Z a8 aa X (by omega) (by omega) (by omega) (by omega) (by omega) (by unfold Aa at hl;omega) (z:=(CA (p,(l[k],16384))).1) (Post:=λW2=>Below W.heap.size W W2/\inR .i64 (CA (p,(l[k],16384))).1=true) (ab.mono ?_) hz λo W2 hP ai=>?_
   ·rintro e' W2 ⟨rfl,y,q1,q2⟩;obtain⟨d1,E,I,d4⟩:=cells (hS.grow y) ((y.block g (hS.tw.g g a2).2.2.2).trans a4);exact ⟨rfl,d1,E,I,d4,y,q1⟩
   ·obtain⟨y,aj⟩:=hP;refine ih (k+1) (by omega) (fuel:=fuel) ai ((hS.grow y).write t aj a2) ?_;have e1:AB r (k:Int) (CA (p,(l[k],16384))).1=r.set k (CA (p,(l[k],16384))).1:=by unfold AB;rw[Qae]
    rw[<-e1];exact d
  ·rw[Zzp (by simpa using hz)] at d;simp only at d;refine Agt (y0:=y0) (y1:=y1) (y2:=y2) (y3:=y3) (y4:=y4) hA Z a8 aa X (by omega) (by omega) (by omega) (by omega) (by omega) (by unfold Aa at hl;omega) (z:=(CA (p,(l[k],16384))).1) (Post:=λW2=>Below W.heap.size W W2/\inR .i64 (CA (p,(l[k],16384))).2=true) (ab.mono ?_) hz λo W2 hP d1 E I=>hE o r W2 _ (hS.grow hP.1) (Qag d).symm hz hP.2 d1 E I;rintro e' W2 ⟨rfl,y,q1,q2⟩;exact ⟨rfl,by simp[World.cell?,World.frozen?,(hS.grow y).h6],y,q2⟩
end Go.Proofs.YtlgpjdjcbincgaaGreatDoor
namespace Go.Proofs.YtlgpjdjcbincgaaGreatDoor
open Go.Den Go.RowKit Go.ChangeShapes Go.Shelf
set_option maxRecDepth 100000
set_option maxHeartbeats 4000000
theorem pE {R}:∀ {l} {vs},vs.length=l.length->(∀(j:Nat) (r:List Int),l[j]?=some r->∃v,vs[j]?=some v/\R r [v])->RowOf R l vs
 |[],[],_,_=>rfl
 |[],_::_,h,_=>by simp at h
 |_::_,[],h,_=>by simp at h
 |x::l,v::vs,h,c=>by obtain⟨u,h1,d⟩:=c 0 x rfl;cases h1;exact ⟨[v],vs,rfl,d,pE (by simpa using h) λj r g=>c (j+1) r (by simpa using g)⟩
def YB (w:World) (F:Nat->Prop) (y:AZ×Int) (e:Ending) (w':World):Prop:=∃rs,e=.returned (Cp rs)/\Below w.heap.size w w'/\Gd w.heap.size w' F false [Cb,I64] y rs
theorem AdP {n0 F O Y x i o cap e3 E u1 u2 I G vs W} (h:TwR n0 O Y x i o cap e3 E u1 u2 I G True vs W) (hF:∀c,F c->O c):Reads W F Cb x [E,u1,u2,.slice (some ⟨o,0,none⟩) x.2.2.2.1.length cap,I]:=by
 have p:Keeps W (TwO O Y o G) W F:=⟨Qaa _,λb _ hO=>⟨λJ=>hO (.inl (hF b J)),rfl⟩⟩;have t:∀c,n0<=c->¬F c:=λc hc J=>by have:=h.f c (hF c J);omega
 refine ⟨[E],_,rfl,Av p Dz h.r0,[u1],_,rfl,Av p Dz h.r1,[u2],_,rfl,Av p Hj h.r2,[.slice (some ⟨o,0,none⟩) x.2.2.2.1.length cap],[I],rfl,⟨some ⟨o,0,none⟩,cap,rfl,h.len.1,h.len.2,.inr ⟨o,0,vs.toList.take x.2.2.2.1.length,rfl,t _ h.b3.1,(Array.getElem?_eq_some_iff.1 h.rows).1,λj v d=>?_,?_⟩⟩,Av p Dz h.r4⟩
 ·rw[Qbg] at d;split at d
  ·rw[Qav] at d;have:=h.rows;simp[World.cell?,this,d]
  ·cases d
 ·have a1:=h.sz;have Z:=h.len.1;refine pE (by simp_all) λj r d=>?_;rw[Qbg,if_pos (List.getElem?_eq_some_iff.1 d).1,Qav];by_cases e:j=i
  ·subst e;obtain⟨v,X,y⟩:=h.here r d;rcases y with ⟨_,y⟩|⟨q,_⟩
   ·exact ⟨v,X,Xg rfl (λb hb=>t b (h.g b hb).1) y⟩
   simp_all
  ·obtain⟨v,X,y⟩:=h.each j r e d;exact ⟨v,X,Av p I64s y⟩
theorem Aa1 {w W F y g u1 u2 o p c t a} (v:Below w.heap.size w W) (E:Reads W F Cb y.1 [g,u1,u2,o,p]) (hi:inR .i64 y.2=true) (h6:W.heap[c]?=some (.cells #[g,u1,u2,o,p] t (0,0))) (h1:a.defers=[]) (I:a.tmps.getD 6 undef=.pointer (some ⟨c,0,none⟩)) (d:a.tmps.getD 7 undef=.int .i64 y.2):bodyPost Tryz.prog Tryz.f71 (YB w F y) .ret a W:=by
 have J:W.cell? ⟨c,0,none⟩=some g:=by simp[World.cell?,h6]
 have X:W.cell? ⟨c,1,none⟩=some u1:=by simp[World.cell?,h6]
 have Y:W.cell? ⟨c,2,none⟩=some u2:=by simp[World.cell?,h6]
 have Z:W.cell? ⟨c,3,none⟩=some o:=by simp[World.cell?,h6]
 have m4:W.cell? ⟨c,4,none⟩=some p:=by simp[World.cell?,h6]
 have t6:a.tmps[6]?=some (.pointer (some ⟨c,0,none⟩)):=by rw[Qao] at I<;>grind
 have t7:a.tmps[7]?=some (.int .i64 y.2):=by
  rw[Qao] at d;cases h:a.tmps[7]? with
  |none=>rw[h] at d;cases d
  |some z=>rw[h] at d;exact congrArg some d
 refine ⟨h1,_,?_,[.agg #[g,u1,u2,o,p],.int .i64 y.2],rfl,v,_,_,E,rfl,_,⟨rfl,hi⟩,rfl⟩;simp[results,Tryz.f71,go_sem,t6,t7,J,X,Y,Z,m4,Cp]
end Go.Proofs.YtlgpjdjcbincgaaGreatDoor
namespace Go.Proofs.YtlgpjdjcbincgaaGreatDoor
open Go.Den Go.RowKit Go.ChangeShapes Go.Shelf
set_option maxRecDepth 100000
set_option maxHeartbeats 4000000
theorem HS {W O v} {T:Ty} {l:List T.interp} (h:Reads W O (.slice T) l [v]):∃p c,v=.slice p l.length c:=by obtain⟨a,c,q,_⟩:=h<;>simp_all
theorem Agv {w F y st μ O a W} (c:At ⟨w,λ_=>False,w.heap.size,F,[]⟩ twR 81 (λ_=>none) F w st μ O a W) (hg:Pd st=some (.inl y)):bodyPost Tryz.prog Tryz.f71 (YB w F y) .ret a W:=by unfold Pd at hg;obtain⟨Z,t,e⟩:=Option.map_eq_some_iff.1 hg;cases e;obtain⟨vs,ks,g,d,v⟩:=L0 t;obtain⟨us,k1,E⟩:=Eu c.mem c.env g;refine ⟨c.defers,_,Gy (by kernel_rfl) k1,us,rfl,c.mem.below,Cm ⟨Qaa _,λb _ h=>⟨λI=>h (c.mem.foreign b I),rfl⟩⟩ c.mem.heap d E λk J p b X h=>?_⟩;obtain⟨o,Y⟩:=Gn d k J;obtain⟨_,h2,h3⟩:=c.mem.own k o Y p b X h<;>simp_all
theorem AgV {W:World} {b:Nat} {e:TypeId} {y0 y1 y2 y3 y4:Value} (v0 d g v3 v4:Value) (h:W.heap[b]?=some (.cells #[y0,y1,y2,y3,y4] e (0,0))) :
 (((((W.setCell ⟨b,0,none⟩ v0).setCell ⟨b,1,none⟩ d).setCell ⟨b,2,none⟩ g).setCell ⟨b,3,none⟩ v3).setCell ⟨b,4,none⟩ v4).heap[b]?=some (.cells #[v0,d,g,v3,v4] e (0,0)) /\
 (((((W.setCell ⟨b,0,none⟩ v0).setCell ⟨b,1,none⟩ d).setCell ⟨b,2,none⟩ g).setCell ⟨b,3,none⟩ v3).setCell ⟨b,4,none⟩ v4).heap.size=W.heap.size /\
 (∀B,B<=b->Below B W (((((W.setCell ⟨b,0,none⟩ v0).setCell ⟨b,1,none⟩ d).setCell ⟨b,2,none⟩ g).setCell ⟨b,3,none⟩ v3).setCell ⟨b,4,none⟩ v4)) /\
 ∀c,c≠b->(((((W.setCell ⟨b,0,none⟩ v0).setCell ⟨b,1,none⟩ d).setCell ⟨b,2,none⟩ g).setCell ⟨b,3,none⟩ v3).setCell ⟨b,4,none⟩ v4).heap[c]?=W.heap[c]? :=
 ⟨heap_setCell_same _ b 4 _ _ v4 (heap_setCell_same _ b 3 _ _ v3 (heap_setCell_same _ b 2 _ _ g (heap_setCell_same _ b 1 _ _ d (heap_setCell_same W b 0 _ _ v0 h)))),by simp[World.setCell],λB o=>(((((Below.refl B W).setCell o _).setCell o _).setCell o _).setCell o _).setCell o _,λc p=>by repeat rw[Below.heap_setCell _ _ _ _ p]⟩
theorem Abt {W:World} {F:Nat->Prop}:Reads W F Cb heZ [.slice none 0 0,.slice none 0 0,.slice none 0 0,.slice none 0 0,.slice none 0 0] :=
 ⟨[_],_,rfl,⟨none,0,rfl,Qaa _,Qaw _,.inl rfl⟩,[_],_,rfl,⟨none,0,rfl,Qaa _,Qaw _,.inl rfl⟩,[_],_,rfl,⟨none,0,rfl,Qaa _,Qaw _,.inl rfl⟩,[_],_,rfl,⟨none,0,rfl,Qaa _,Qaw _,.inl rfl⟩,⟨none,0,rfl,Qaa _,Qaw _,.inl rfl⟩⟩
theorem AeP {w:World} {F:Nat->Prop} {x:AU×AZ×Fs} {y:AZ×Int} {E:List Value} (hV:V w) (hF:∀b,F b->b<w.heap.size) (hr:BP w F [CE,Cb,Jj] x E) (hy:E7 x=some y):Calls Tryz.prog 71 E.toArray w (YB w F y):=by
 have hC:DG heC ⟨w,λ_=>False,w.heap.size,F,[]⟩:=⟨HM,λw' hb=>stays w w' hb hV,Gt⟩;have hB:∀k,¬(⟨w,λ_=>False,w.heap.size,F,[]⟩:Base).D k:=λ_ v=>v;have hm:heC.P.follows .mixedOrders=true:=IM;have hI:=EE hC hB hm (HL .nil) 1;have t:RelM ⟨w,λ_=>False,w.heap.size,F,[]⟩ twR {env:=[],heap:=[],next:=0} (λ_=>none) F w :=
  {heap:=λk o v=>by simp[St.obj,assoc,twR] at v
   own:=λk o v=>by simp[St.obj,assoc,twR] at v
   inj:=λk k' o o' v=>by simp[St.obj,assoc,twR] at v
   foreign:=λb hb=>hb,flt:=λ_ _=>rfl,dom:=(λk p v=>by cases v),below:=Below.refl _ _,bsize:=Qaa _,obound:=hF};have RU:∀c,CU 81 c=true->kB heC ⟨w,λ_=>False,w.heap.size,F,[]⟩ (EN heC 1) {} 81 c:=λc hc=>Cc hC hB hI (JP hC hB hm) {} c hc;have aw:At ⟨w,λ_=>False,w.heap.size,F,[]⟩ twR 81 (λ_=>none) F w {env:=CP 0 (Cy [CE,Cb,Jj] x),heap:=[],next:=0} (λ_=>none) F {tmps:=E.toArray++Array.replicate (Tryz.f71.ntmps-E.toArray.size) undef,defers:=[]} w :=
  ⟨t.move (λk o ho=>ho) (Qaa _),OB (R:=twR) (Dn hr) _,rfl,by rw[show Tryz.f71.ntmps=81 by kernel_rfl];simp;omega,μle.refl _,Keeps.refl _ _,λk p v=>(t.dom k p v).elim id λh=>absurd h (hB k)⟩;have ax:Apart twR {env:=CP 0 (Cy [CE,Cb,Jj] x),heap:=[],next:=0}:=⟨λs hs=>absurd rfl hs,λk v=>absurd rfl v,λk v=>absurd rfl v⟩;obtain⟨res,ae,J⟩:∃res,heT x=some res/\(res=.inl y\/∃(i:Nat) (row:List Int) (z:List Int×Int),res=.inr (jU x.2.1 x.2.2 (i:Int))/\x.2.1.2.2.2.1[i]?=some row/\Aa x.2.2.2.2.2=Aa row/\DU x.2.1=some x.2.1/\YS x.2.1/\iter none (ZG x.2.2.2.2.2) Am ((0:Int),row)=some z/\(z.2≠0/\y=(heZ,z.2)\/z.2=0/\y=(FT x.2.1 i z.1,0))):=by
  rcases AcZ hy with h|⟨i,row,z,h,hh⟩
  ·exact ⟨_,h,.inl rfl⟩
  ·exact ⟨_,h,.inr ⟨i,row,z,rfl,hh⟩⟩
 have early:∀ {st:St} {μ:AI} {O:Nat->Prop} {a:Act} {W:World},At ⟨w,λ_=>False,w.heap.size,F,[]⟩ twR 81 (λ_=>none) F w st μ O a W->Pd st=some res->bodyPost Tryz.prog Tryz.f71 (YB w F y) .ret a W:=λaf hg=>by
  rcases J with rfl|⟨i,row,z,rfl,_⟩
  ·exact Agv af hg
  ·unfold Pd at hg;obtain⟨_,_,e⟩:=Option.map_eq_some_iff.1 hg;cases e
 refine calls_of_wp (c:=heI.code) Tryz.func71 (by kernel_rfl) ?_;rw[AeL];refine wp_seq (RU he0 (by kernel_rfl) (bad:=none) (Good:=λo=>o=some res) (by simp) aw ax (K:=Agn) (λe st1 bn O1 a1 w1 ag Z g1=>?_) ((Agu x).trans ae));cases e with
 |exit _=>cases g1
 |goto _=>cases g1
 |ret=>exact early Z g1
 |normal =>
 refine wp_seq (RU he1 (by kernel_rfl) (bad:=none) (Good:=λo=>o=some res) (by simp) Z ag (K:=Ago) (λe bo bp O2 a2 w2 ah a6 g2=>?_) g1);cases e with
 |exit _=>cases g2
 |goto _=>cases g2
 |ret=>exact early a6 g2
 |normal =>
 refine wp_seq (RU he2 (by kernel_rfl) (bad:=none) (Good:=λo=>o=some res) (by simp) a6 ah (K:=Agp) (λe bq br O3 a3 w3 ai a7 g3=>?_) g2);cases e with
 |exit _=>cases g3
 |goto _=>cases g3
 |ret=>exact early a7 g3
 |normal =>
 refine wp_seq (RU he3 (by kernel_rfl) (bad:=none) (Good:=λo=>o=some res) (by simp) a7 ai (K:=Agq) (λe bs bt O4 a4 w4 aj a8 g4=>?_) g3);cases e with
 |exit _=>cases g4
 |goto _=>cases g4
 |ret=>exact early a8 g4
 |normal =>
 refine wp_seq (RU he4 (by kernel_rfl) (bad:=none) (Good:=λo=>o=some res) (by simp) a8 aj (K:=AcX) (λe st μ O a W bl d g=>?_) g4);cases e with
 |exit _=>cases g
 |goto _=>cases g
 |ret=>exact early d g
 |normal =>
 rcases J with rfl|⟨i,row,z,rfl,X,ay,az,hT,b0,ak⟩
 ·cases g
 simp only[AcX,jU,Qaf,Sum.inr.injEq,Qcv,Qdo,and_true] at g;obtain⟨⟨t4,t5,t6,t9⟩,o1,o2,o3⟩:=g;obtain⟨b4,m4,z4⟩:=d.env 4 _ t4;obtain⟨b5,m5,z5⟩:=d.env 5 _ t5;obtain⟨b6,m6,z6⟩:=d.env 6 _ t6;obtain⟨z9,_⟩:=d.env 9 _ t9;have t:=d.mem;obtain⟨bu,b1,e4,al,k4,y4⟩:=t.heap 1 _ o1;obtain⟨bx,b2,e5,an,k5,y5⟩:=t.heap 2 _ o2;obtain⟨bz,b3,e6,ao,k6,y6⟩:=t.heap 3 _ o3;rw[m4] at al;cases al;rw[m5] at an;cases an;rw[m6] at ao;cases ao;obtain⟨l4⟩:=b1;obtain⟨l5⟩:=b2;obtain⟨l6⟩:=b3;obtain⟨v0,v1,v2,v3,v4,rfl,R0,R1,R2,R3,R4⟩:=QP y4;obtain⟨q0,q1,q2,q3,q4,rfl,_⟩:=QP y6;obtain⟨w0,w1,w2,w3,rfl,RL⟩:∃w0 w1 w2 w3,l5=[w0,w1,w2,w3]/\Reads W O I64s x.2.2.2.2.2 [w3]:=by
  obtain _|⟨h0,h⟩:=y5
  obtain _|⟨h1,h⟩:=h
  obtain _|⟨h2,h⟩:=h
  obtain _|⟨h3,h⟩:=h
  cases h;exact ⟨_,_,_,_,rfl,h3⟩
 obtain⟨r0,d0,rfl⟩:=HS (show Reads W O (.slice Ec) _ [v0] from R0);obtain⟨r1,d1,rfl⟩:=HS (show Reads W O (.slice Ec) _ [v1] from R1);obtain⟨r2,d2,rfl⟩:=HS (show Reads W O (.slice Mh) _ [v2] from R2);obtain⟨r3,d3,rfl⟩:=HS (show Reads W O (.slice I64s) _ [v3] from R3);obtain⟨r4,d4,rfl⟩:=HS (show Reads W O (.slice Ec) _ [v4] from R4);obtain⟨pl,cl,rfl⟩:=HS RL;have O4:=t.own 1 _ o1 _ b4 m4 rfl;have O5:=t.own 2 _ o2 _ b5 m5 rfl;have O6:=t.own 3 _ o3 _ b6 m6 rfl;have b7:b5≠b4:=λe=>by have:=t.inj 2 1 _ _ o2 o1 _ _ b5 m5 m4 rfl (by rw[e];rfl);omega
 have b8:b6≠b4:=λe=>by have:=t.inj 3 1 _ _ o3 o1 _ _ b6 m6 m4 rfl (by rw[e];rfl);omega
 have aq:i<x.2.1.2.2.2.1.length:=(List.getElem?_eq_some_iff.1 X).1;have ba:=Vy hT.c3;have bb:Aa x.2.2.2.2.2<=1000000000000000:=by
  have h1:=hT.each (i:Int) row (by rw[AY (by omega),Qae];exact X);rw[ay];unfold B7 at h1;rw[AK] at h1;split at h1
  ·rename_i c;rw[Qap] at c;unfold AA at c;have c:=of_decide_eq_true c;have:=Ahu;omega
  ·cases h1
 show Code.wp Tryz.prog he5 _ a W;rw[AeM];refine wp_seq (AeO (Post:=λus W2=>∃B3 cap e3 p0 p1 p2 p4 n0 n1 n2 n4 c0 c1 c2 c4 G vs,us=[.slice p0 n0 c0,.slice p1 n1 c1,.slice p2 n2 c2,.slice (some ⟨B3,0,none⟩) x.2.1.2.2.2.1.length cap,.slice p4 n4 c4]/\Below W.heap.size W W2/\TwR W.heap.size O (λ_=>False) x.2.1 i B3 cap e3 (.slice p0 n0 c0) (.slice p1 n1 c1) (.slice p2 n2 c2) (.slice p4 n4 c4) G True vs W2) ⟨d.defers,d.size,z4,z5,z6,z9⟩ k4 ((AfL (stays _ _ t.below hV) t.obound ⟨_,⟨[_],_,rfl,R0,[_],_,rfl,R1,[_],_,rfl,R2,[_],_,rfl,R3,R4⟩,rfl⟩ az aq).mono ?_) λa' W2 W3 us hP bc bd ab ar aa=>?_)
 ·rintro e W2 ⟨B3,cap,e3,u0,u1,u2,u4,G,vs,rfl,I,hR⟩;obtain⟨p0,c0,rfl⟩:=HS hR.r0;obtain⟨p1,c1,rfl⟩:=HS hR.r1;obtain⟨p2,c2,rfl⟩:=HS hR.r2;obtain⟨p4,c4,rfl⟩:=HS hR.r4;exact ⟨_,_,_,_,_,_,_,_,_,_,_,_,_,_,_,rfl,I,_,_,_,_,_,_,_,_,_,_,_,_,_,_,_,_,_,rfl,I,hR⟩
 obtain⟨B3,cap,e3,p0,p1,p2,p4,n0,n1,n2,n4,c0,c1,c2,c4,G,vs,rfl,I,hR⟩:=hP;have au:=I.size;have up:∀b,b<W.heap.size->b≠b4->W3.heap[b]?=W.heap[b]?:=λb hb ad=>(aa b ad).trans (I.block b hb);have bf:W3.heap[b5]? = _:=(up b5 O5.2.2 b7).trans k5;have bg:FT x.2.1 i row=x.2.1:=by unfold FT;rw[fA (by rw[AY (by omega),Qae];exact X)]
 have bh:Keeps W O W3 O:=⟨by rw[ab];exact au,λb hb hO=>⟨hO,up b hb λe=>hO (by rw[e];exact O4.1)⟩⟩;have hS:HeS w W F O x.2.1 i b4 b6 B3 cap e3 e4 e6 p0 p1 p2 p4 n0 n1 n2 n4 c0 c1 c2 c4 G vs pl cl q0 q1 q2 q3 q4 x.2.2.2.2.2 row W3:=by
  refine ⟨hV,(t.below.trans (I.mono t.below.size)).trans (ar _ O4.2.1.1),⟨t.below.size,by rw[ab];exact au⟩,?_,bd,(up b6 O6.2.2 b8).trans k6,⟨O4.2.2,O6.2.2,O6.2.1.1,O6.1⟩,t.foreign,hF,Av bh I64s RL,?_,aq⟩
  ·rw[bg];exact hR.touch (by rw[ab];exact Qaa _) λb _ hO=>aa b λe=>hO (by rw[e];exact O4.1)
  ·rintro c ⟨b,off,e1,rfl⟩;obtain⟨a,c',q1,q2,q3,q4⟩:=RL;cases q1;rcases q4 with q4|⟨b',bm,cells,e2,k1,k2,_⟩
   ·exact .inr q4
   ·rw[e1] at e2;cases e2;exact .inl k2
 refine wp_seq (wp_seq (Agw bc (pl:=pl) (nl:=List.length x.2.2.2.2.2) (cl:=cl) (by simp[World.cell?,bf]<;>rfl) λbj av=>?_));show Code.wp Tryz.prog heL _ bj W3;rw[Agr];refine wp_block (wp_loop_rounds (x.2.2.2.2.2.length+1) (AeN t.obound bb ba (λa' r W' h hz d1 d2 d3=>?_) (λa' r W' er h hz ad bk d1 d2 d3=>?_) x.2.2.2.2.2.length 0 rfl av hS b0))
 ·obtain⟨g1,g2,g3,g4⟩:=AgV (.slice p0 n0 c0) (.slice p1 n1 c1) (.slice p2 n2 c2) (.slice (some ⟨B3,0,none⟩) x.2.1.2.2.2.1.length cap) (.slice p4 n4 c4) h.h6;rcases ak with ⟨Y,_⟩|⟨_,rfl⟩
  ·rw[hz] at Y;exact absurd rfl Y
  rw[hz];refine Aa1 (h.below.trans (g3 _ h.lt.2.2.1)) ?_ rfl g1 d1 d2 d3;have:=AdP (h.tw.touch (W':=_) (by rw[g2];exact Qaa _) λb _ hO=>g4 b λe=>hO (by rw[e];exact h.lt.2.2.2)) h.f;have e:(FT x.2.1 i r).2.2.2.1.length=x.2.1.2.2.2.1.length:=by simp only[FT,AB,Qfr]
  rw[e] at this;exact this
 ·obtain⟨g1,g2,g3,g4⟩:=AgV (.slice none 0 0) (.slice none 0 0) (.slice none 0 0) (.slice none 0 0) (.slice none 0 0) h.h6;rcases ak with ⟨_,rfl⟩|⟨Y,_⟩
  ·rw[hz];exact Aa1 (y:=(heZ,er)) (h.below.trans (g3 _ h.lt.2.2.1)) Abt bk g1 d1 d2 d3
  ·rw[hz] at Y;exact absurd Y ad
theorem iL:BM Tryz.prog V 71 (spP [CE,Cb,Jj] [Cb,I64] E7) where
 enters:=enters_of Tryz.func71 (by kernel_rfl) rfl
 tot:=λg hg=>by cases hg
 calls:=λw F c x y d hF h o=>AeP d hF h o
end Go.Proofs.YtlgpjdjcbincgaaGreatDoor
