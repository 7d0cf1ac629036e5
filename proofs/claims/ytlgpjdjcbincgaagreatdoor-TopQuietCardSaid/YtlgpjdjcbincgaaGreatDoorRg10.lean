/- Part of a proof: plain readings of Go functions, their contracts, or plain facts of them. -/
import Derived.Test.YtlgpjdjcbincgaaGreatDoorRg9
import Derived.Test.YtlgpjdjcbincgaaGreatDoorRg4
import Derived.Deep.AppendLies
set_option linter.all false
namespace Go.Proofs.YtlgpjdjcbincgaaGreatDoor
open Go.Den Go.RowKit Go.ChangeShapes Go.Shelf
variable {W W' w w0:World} {O O' F:Nat->Prop} {v u:Value} {a a':Act} {n0 i N b off k:Nat} {st l:List EA} {env env':Env} {xs:List Value} {G:Nat->Option Nat} {Q:Exit->Act->World->Prop} {n:AU} {T:Ty} {ops:Array Oper} {rest:List Nat} {cur:Array Value} {p:Nat->Nat->Bool} {s:EA} {o:Oper}
set_option maxRecDepth 100000
set_option maxHeartbeats 1000000
structure cζ (W:World) (O:Nat->Prop) (W':World) (O':Nat->Prop):Prop where
 b:Below W.heap.size W W'
 k:ν W O W' O'
 o:∀b,O b->O' b
theorem Ajo {α} {R} {n} (h:∀x vs,R x vs->vs.length=n) {o} (I:o<n):∀ {l} {vs},ξ R l vs->∀ {i} {x x':α},l[i]?=some x->(∀v,R x v->R x' (v.set o u))->ξ R (l.set i x') (vs.set (i*n+o) u)
 |[],_,_,i,_,_,c,_=>by simp at c
 |y::l,_,⟨d,g,e,h1,t⟩,i,x,x',c,E=>by
  have J:=h _ _ h1;cases i with
  |zero =>simp at c;subst c;exact ⟨d.set o u,g,by rw[e,Nat.zero_mul,Qbm,List.set_append_left _ _ (by omega)],E _ h1,t⟩
  |succ i =>refine ⟨d,g.set (i*n+o) u,?_,h1,Ajo h I t (by simpa using c) E⟩<;>grind
theorem AiP {G} {l} (g:ν W O W' O') (y:∀b,G=some b->W'.heap[b]?=W.heap[b]?) (h:BV n0 W O G T l v):BV n0 W' O' G T l v:=by obtain⟨a,c,h1,E,I,h4⟩:=h;refine ⟨a,c,h1,E,I,h4.imp id ?_⟩;rintro⟨b,vs,e,J,g1,X,Y,Z,g5,g6,g7⟩;exact ⟨b,vs,e,J,g1,X,Y,Qac Z g.size,(y b g1).trans g5,g6,g7.mono λ_ _=>Av ⟨g.size,λc t d=>⟨λh=>h.elim (g.nε c t λh=>d (.inl h)).1 λh=>d (.inr h),(g.nε c t λh=>d (.inl h)).2⟩⟩ T⟩
theorem AjC {G} {l} (d:∀b,F b->O b) (g:∀b,G=some b->¬F b) (h:BV n0 W O G T l v):Reads W F (.slice T) l [v]:=by
 obtain⟨a,c,h1,t,y,h4⟩:=h;refine ⟨a,c,by rw[h1],t,y,?_⟩;rcases h4 with ⟨c0,_⟩|⟨b,vs,e,Z,g1,E,g3,I,J,g6,X⟩
 .exact .inl (by omega)
 .refine .inr ⟨b,0,_,E,g b g1,I,IW (JK J) _,X.mono λ_ _=>Av ⟨χ _,λc _ Y=>⟨λh=>Y (.inl (d c h)),rfl⟩⟩ T⟩
theorem AjB {G} {l} (h:BV n0 W O G T l v):∀b,G=some b->n0<=b/\b<W.heap.size:=λb c=>by obtain⟨_,_,_,_,_,h4⟩:=h<;>simp_all
structure Lε (n0:Nat) (W:World) (b off:Nat) (cur:Array Value) (u:Value) (W':World):Prop where
 at_:∃e,W.heap[b]?=some (.cells cur e (0,0))
 fit:off+1<=cur.size
 low:n0<=b/\b<W.heap.size
 is:W'=W.setRow b (cur.toList.take off++[u]++cur.toList.drop (off+1)).toArray
theorem Lε.far (h:Lε n0 W b off cur u W'):W'.heap.size=W.heap.size/\(∀c,c≠b->W'.heap[c]?=W.heap[c]?)/\∀n,n<=n0->Below n W W':=by obtain⟨_,_,g,rfl⟩:=h;exact ⟨by simp,λc d=>setRow_other _ _ _ _ d,λn t=>Go.Den.below_setRow _ _ _ (by omega)⟩
theorem Lε.keeps (h:Lε n0 W b off cur u W') (g:O b):ν W O W' O :=
 ⟨Nat.le_of_eq h.far.1.symm,λc _ d=>⟨d,h.far.2.1 c λe=>d (e▸g)⟩⟩
theorem Ajs {G} {l} (h:BV n0 W O G T l v) {x x'} (g:l[i]?=some x) {o} (J:o<T.size) (X:∀W O v,Reads W O T x v->Reads W O T x' (v.set o u)) :
 ∃b c cur,G=some b/\v=.slice (some ⟨b,0,none⟩) l.length c/\∃W',Lε n0 W b (i*T.size+o) cur u W'/\BV n0 W' O G T (l.set i x') v:=by
 obtain⟨a,c,h1,h2,Y,h4⟩:=h;have hi:=(List.getElem?_eq_some_iff.1 g).1;rcases h4 with ⟨c0,_⟩|⟨b,vs,e,Z,g1,g2,t,y,E,g6,g7⟩
 .omega
 subst g1 g2;have d:i*T.size+o<vs.size:=by have:(i+1)*T.size<=c*T.size:=Qco _ (by omega)<;>grind
 refine ⟨b,c,vs,rfl,h1,_,⟨⟨e,E⟩,d,⟨t,y⟩,rfl⟩,_,c,by simp_all,by simp_all,Y,.inr ⟨b,_,e,Z,rfl,rfl,t,by simpa using y,setRow_heap _ _ _ _ _ _ E,?_,?_⟩⟩
 .grind
 .rw[Qfr,show vs.toList.take (i*T.size+o)++[u]++vs.toList.drop (i*T.size+o+1)=vs.toList.set (i*T.size+o) u by rw[List.set_eq_take_append_cons_drop,if_pos (by simpa using d),Qaq];rfl,Qeo,List.take_set];exact Ajo (λ_ _=>AW T) J (g7.mono λ_ _=>Av ⟨by simp,λc _ I=>⟨I,setRow_other _ _ _ _ λe=>I (.inr (by rw[e]))⟩⟩ T) g (X _ _)
theorem Ajx {R}:∀ {l:List EA} {vs},vs.length=l.length*3->(∀i s,l[i]?=some s->∃y u1 u2,vs[i*3]?=some y/\vs[i*3+1]?=some u1/\vs[i*3+2]?=some u2/\R s [y,u1,u2])->ξ R l vs
 |[],vs,h,_=>Qad (by simpa using h)
 |s::l,vs,h,c=>by
  obtain⟨y,u1,u2,d,g,t,E⟩:=c 0 s rfl;match vs,d,g,t,h,c with
  |v0::I::J::r,d,g,t,h,c =>simp at d g t;subst d g t;refine ⟨[v0,I,J],r,rfl,E,Ajx (by grind) λi X hi=>?_⟩;have:=c (i+1) X (by simpa using hi);rw[Qcd] at this<;>simp_all
structure Φ (n0:Nat) (O:Nat->Prop) (W:World) (l:List EA) (xs:List Value) (G:Nat->Option Nat) (v:Value):Prop where
 row:W.ownsRow n0 37 3 v l.length xs
 each:∀i s,l[i]?=some s->∃u0 u1 u2,xs[i*3]?=some u0/\xs[i*3+1]?=some u1/\xs[i*3+2]?=some u2/\BV n0 W O (G (i*3)) kC s.1 u0/\BV n0 W O (G (i*3+1)) U8 s.2.1 u1/\BV n0 W O (G (i*3+2)) U8 s.2.2 u2
 inj:∀j j' b,G j=some b->G j'=some b->j=j'
 own:∀j b,G j=some b->O b/\b<W.heap.size/\v.ownBlock≠some b
 top:∀b,v.ownBlock=some b->O b/\b<W.heap.size
theorem Φ.far (h:Φ n0 O W l xs G v) (hg:cζ W O W' O'):Φ n0 O' W' l xs G v:=by
 obtain⟨h1,J,E,h4,d⟩:=h;have fr:∀ {j T} {y:List T.δ} {u},BV n0 W O (G j) T y u->BV n0 W' O' (G j) T y u:=λ{j _ _ _} h =>AiP hg.k (λb c=>hg.b.block b (h4 j b c).2.1) h;refine ⟨⟨h1.1,h1.2.imp id ?_⟩,λi s hi=>?_,E,λj b c=>⟨hg.o b (h4 j b c).1,Qac (h4 j b c).2.1 hg.b.size,(h4 j b c).2.2⟩,λb c=>⟨hg.o b (d b c).1,Qac (d b c).2 hg.b.size⟩⟩
 .rintro⟨g,cap,cur,e,g1,t,I⟩;exact ⟨g,cap,cur,e,g1,(hg.b.block g (Array.getElem?_eq_some_iff.1 t).1).trans t,I⟩
 grind
theorem Φ.reads (h:Φ n0 O W l xs G v) (hF:∀b,F b->b<n0) (J:∀b,F b->O b):Reads W F Uy l [v]:=by
 obtain⟨⟨h1,c⟩,X,h3,h4⟩:=h;have d:∀ {T:Ty} {j} {y:List T.δ} {u},BV n0 W O (G j) T y u->Reads W F (.slice T) y [u]:=λh =>AjC J λb Y t=>by have:=hF b t;have:=(AjB h b Y).1;omega h;rcases c with ⟨rfl,Z⟩|⟨g,cap,cur,rfl,g1,E,g3,g4,g5,g6⟩
 .obtain rfl:=Qad Z;exact ⟨none,0,rfl,χ _,Qaw _,.inl rfl⟩
 .refine ⟨_,cap,rfl,g3,g4,.inr ⟨g,0,xs,rfl,λt=>by grind,(Array.getElem?_eq_some_iff.1 E).1,by rw[<-g6];exact IW (JK E) _,Ajx h1 λi s hi=>?_⟩⟩;obtain⟨I,u1,u2,e0,e1,e2,f0,f1,f2⟩:=X i s hi;exact ⟨I,u1,u2,e0,e1,e2,[I],[u1,u2],rfl,d f0,[u1],[u2],rfl,d f1,d f2⟩
theorem Φ.form (h:Φ n0 O W l xs G v) (hi:i<l.length):∃g cap,v=.slice (some ⟨g,0,none⟩) l.length cap/\∀j u,xs[j]?=some u->W.cell? ⟨g,j,none⟩=some u:=by
 rcases h.row.2 with ⟨_,E⟩|⟨g,cap,cur,d,g1,t,I,J,X,y⟩
 .omega
 .refine ⟨g,cap,d,λj u c=>?_⟩;rw[<-y] at c;have:=IW (JK t) _ j u c<;>simp_all
theorem Φ.put (h:Φ n0 O W l xs G v) {t:EA} (Z:l[i]?=some s) {j:Nat} (hc:Lε n0 W b off cur u W') (X:G j=some b)
 (h':∀d u1 u2,xs[i*3]?=some d->xs[i*3+1]?=some u1->xs[i*3+2]?=some u2->(∀ {k T} {y:List T.δ} {u},k≠j->BV n0 W O (G k) T y u->BV n0 W' O (G k) T y u)->BV n0 W' O (G (i*3)) kC t.1 d/\BV n0 W' O (G (i*3+1)) U8 t.2.1 u1/\BV n0 W' O (G (i*3+2)) U8 t.2.2 u2) (a1:j=i*3\/j=i*3+1):Φ n0 O W' (l.set i t) xs G v:=by
 obtain⟨h1,h2,h3,h4,h5⟩:=h;obtain⟨c1,c2,c3⟩:=hc.far;have hk:=hc.keeps (h4 j b X).1;have fr:∀ {k T} {y:List T.δ} {u},k≠j->BV n0 W O (G k) T y u->BV n0 W' O (G k) T y u:=λ{k _ _ _} Y h =>AiP hk (λb' c=>c2 b' λe=>Y (h3 k j b (e▸c) X)) h;refine ⟨⟨by rw[Qfr];exact h1.1,?_⟩,λi' s2 hi=>?_,h3,λk b c=>⟨(h4 k b c).1,by rw[c1];exact (h4 k b c).2.1,(h4 k b c).2.2⟩,λb c=>⟨(h5 b c).1,by rw[c1];exact (h5 b c).2⟩⟩
 .rw[Qfr];refine h1.2.imp id ?_;rintro⟨g,cap,cur,e,g1,g2,g3⟩;exact ⟨g,cap,cur,e,g1,(c2 g λe'=>(h4 j b X).2.2 (by rw[e,<-e'];rfl)).trans g2,g3⟩
 .rw[List.getElem?_set] at hi;by_cases e:i=i'
  .subst e;rw[if_pos rfl,if_pos (List.getElem?_eq_some_iff.1 Z).1] at hi;cases hi;obtain⟨d,u1,u2,E,I,J,_⟩:=h2 i s Z;exact ⟨d,u1,u2,E,I,J,h' d u1 u2 E I J fr⟩
  .rw[if_neg e] at hi;obtain⟨d,u1,u2,E,I,J,f0,f1,f2⟩:=h2 i' s2 hi;exact ⟨d,u1,u2,E,I,J,fr (by omega) f0,fr (by omega) f1,fr (by omega) f2⟩
theorem Φ.put0 (h:Φ n0 O W l xs G v) (t:l[i]?=some s) {x} (X:s.1[k]?=some x) :
 ∃b c cur,xs[i*3]?=some (.slice (some ⟨b,0,none⟩) s.1.length c)/\O b/\∃W',Lε n0 W b (k*7) cur (.slice none 0 0) W'/\Φ n0 O W' (l.set i (s.1.set k ([],x.2),s.2)) xs G v:=by obtain⟨u0,u1,u2,y,Y,Z,f0,f1,f2⟩:=h.each i s t;obtain⟨b,c,cur,g1,rfl,W',E,g3⟩:=Ajs f0 X (o:=0) (by decide) (u:=.slice none 0 0) (x':=([],x.2)) λW O v ⟨v1,I,q,⟨a,c,g,_⟩,d⟩=>⟨[.slice none 0 0],I,by simp_all,⟨none,0,rfl,χ _,Qaw _,.inl rfl⟩,d⟩;refine ⟨b,c,cur,y,(h.own _ b g1).1,W',E,h.put t E g1 (λv0 v1 I J g d fr=>?_) (.inl rfl)⟩;rw[y] at J;rw[Y] at g;rw[Z] at d;cases J;cases g;cases d;exact ⟨g3,fr (by omega) f1,fr (by omega) f2⟩
theorem Φ.put1 (h:Φ n0 O W l xs G v) (g:l[i]?=some s) {x} (J:s.2.1[k]?=some x) :
 ∃b c cur,xs[i*3+1]?=some (.slice (some ⟨b,0,none⟩) s.2.1.length c)/\O b/\∃W',Lε n0 W b k cur (.int .u8 1) W'/\Φ n0 O W' (l.set i (s.1,(s.2.1.set k 1,s.2.2))) xs G v:=by obtain⟨u0,u1,u2,X,t,Y,Z,f1,f2⟩:=h.each i s g;obtain⟨b,c,cur,g1,rfl,W',d,g3⟩:=Ajs f1 J (o:=0) (by decide) (x':=(1:Int)) λW O v ⟨q,_⟩=>⟨by rw[q];rfl,rfl⟩;rw[show k*Ty.size U8+0=k from Qch k] at d;refine ⟨b,c,cur,t,(h.own _ b g1).1,W',d,h.put g d g1 (λv0 v1 v2 y E I fr=>?_) (.inr rfl)⟩;rw[X] at y;rw[t] at E;rw[Y] at I;cases y;cases E;cases I;exact ⟨fr (by omega) Z,g3,fr (by omega) f2⟩
structure ο (w0:World) (N:Nat) (O:Nat->Prop) (env:Env) (a:Act) (W:World):Prop where
 d:a.defers=[]
 s:N<=a.tmps.size
 e:∀s y,assoc env s=some (some y)->BW W O (λ_=>none) y (a.eval (.tmp s))
 o:∀b,O b->b<W.heap.size
 b:Below w0.heap.size w0 W
def lε:Env->Prop
 |[]=>True
 |p::r=>(∀y,p.2=some y->wR 0 y)/\lε r
theorem lε.at_:∀ {env},lε env->∀ {s y},assoc env s=some (some y)->wR 0 y
 |[],_,_,_,h=>by cases h
 |(t,z)::r,c,s,y,h=>by
  rw[AE] at h;split at h
  .cases h;exact c.1 y rfl
  .exact c.2.at_ h
theorem AiM:∀T {x},∀c∈enc T x,NY 0 c
 |.int _,_,c,h | .bool,_,c,h | .slice _,_,c,h=>by simp[enc] at h;subst h;trivial
 |.unit,_,c,h=>by simp[enc] at h
 |.pair a b,x,c,h=>by simp only[enc,Qck] at h;exact h.elim (AiM a c) (AiM b c)
theorem AjP {s} {y} (h:({env,heap:=[],next:=0}:Go.Den.St).get R0 s=some y):assoc env s=some (some y):=by
 unfold Go.Den.St.get at h;split at h
 .simp_all
 .cases h
theorem AiO {f:Nat->Option aε}:∀ {S:List Nat} {s z},assoc (S.map λs=>(s,f s)) s=some z->z=f s
 |[],_,_,h=>by cases h
 |t::S,s,z,h=>by
  rw[Qcu,AE] at h;split at h
  .simp_all
  .exact AiO h
theorem ο.at_ (h:ο w0 N O env a W):At ⟨W,λ_=>False,W.heap.size,O,[]⟩ R0 N (λ_=>none) O W {env,heap:=[],next:=0} (λ_=>none) O a W :=
 ⟨{heap:=λk o c=>by simp[Go.Den.St.obj,assoc,R0] at c
   own:=λk o c=>by simp[Go.Den.St.obj,assoc,R0] at c
   inj:=λk k' o o' c=>by simp[Go.Den.St.obj,assoc,R0] at c
   foreign:=λb g=>g,flt:=λ_ _=>rfl,dom:=(λk p c=>by cases c),below:=Below.refl _ _,bsize:=χ _,obound:=h.o},
  λs y t=>h.e s y (AjP t),h.d,h.s,μle.refl _,ν.refl _ _,λk p c=>by cases c⟩
theorem Ajr st:τ R0 st:=⟨λs d=>absurd rfl d,λk c=>absurd rfl c,λk c=>absurd rfl c⟩
theorem ο.run {l:List K} (h:ο w0 N O env a W) (J:V w0) {c} I (X:CU N c=true) {A} {K} {z:A} (d:Bi (KX l []) (EN (KX l []) 1) I c R0 {env,heap:=[],next:=0} K none=some z)
 (Y:∀e st μ O' a' W',At ⟨W,λ_=>False,W.heap.size,O,[]⟩ R0 N (λ_=>none) O W st μ O' a' W'->K e st=some z->Q e.Gε a' W'):c.wp Tryz.prog Q a W:=by have t:DG (KX l []) ⟨W,λ_=>False,W.heap.size,O,[]⟩:=⟨HM,λw' Z=>stays _ _ (h.b.trans (Z.mono h.b.size)) J,Gt⟩;have y:∀k,¬(⟨W,λ_=>False,W.heap.size,O,[]⟩:Ξ).D k:=λ_ hk=>hk;exact Cc t y (EE t y IM (HL .nil) 1) (JP t y IM) I c X (Good:=λo=>o=some z) (by simp) h.at_ (Ajr _) (λe st μ O' a' W' _ E g=>Y e st μ O' a' W' E g) d
theorem ο.of (h:ο w0 N O env a W) {st} {μ} (c:At ⟨W,λ_=>False,W.heap.size,O,[]⟩ R0 N (λ_=>none) O W st μ O' a' W') {S:List Nat} (t:S.map (λs=>(s,st.get R0 s))=env') (d:lε env'):ο w0 N O' env' a' W'/\cζ W O W' O' :=
 ⟨⟨c.defers,c.size,λ_ y g=>AbR (λ_ E=>absurd E (Qgk _)) y _ (d.at_ g) (c.env _ y (AiO (t▸g)).symm),c.mem.obound,h.b.trans (c.mem.below.mono h.b.size)⟩,c.mem.below,c.keeps,c.mem.foreign⟩
theorem ο.piece {l:List K} (h:ο w0 N O env a W) (J:V w0) {c} E (X:CU N c=true) {S:List Nat} {I}
 (d:Bi (KX l []) (EN (KX l []) 1) E c R0 {env,heap:=[],next:=0} (λe st=>some (e,S.map λs=>(s,st.get R0 s))) none=some (I,env')) (t:lε env') (Y:∀O' a' W',ο w0 N O' env' a' W'->cζ W O W' O'->Q I.Gε a' W'):c.wp Tryz.prog Q a W :=
 h.run J E X d λe st μ O' a' W' y g=>by simp only[Qaf,Qcv] at g;obtain⟨rfl,g⟩:=g;obtain⟨h1,Z⟩:=h.of y g t<;>grind
theorem ο.seg {l:List K} (h:ο w0 N O env a W) (J:V w0) (hi:i<=ops.size) (X:∀d∈ψ ops.toList,d<N) {S:List Nat} {f:Nat}
 (c:Gh (KX l []) (EN (KX l []) 1) R0 ops.toList f none (ops.toList.drop i) {env,heap:=[],next:=0} (λst=>some (S.map λs=>(s,st.get R0 s))) none=some env') (g:lε env') (Y:∀O' a' W',ο w0 N O' env' a' W'->cζ W O W' O'->Q .normal a' W'):wpOps Tryz.prog ops Q (List.range' i (ops.size-i)) a W:=by have E:DG (KX l []) ⟨W,λ_=>False,W.heap.size,O,[]⟩:=⟨HM,λw' Z=>stays _ _ (h.b.trans (Z.mono h.b.size)) J,Gt⟩;have I:∀k,¬(⟨W,λ_=>False,W.heap.size,O,[]⟩:Ξ).D k:=λ_ t=>t;refine OD (Good:=λo=>o=some env') (by simp) (pF (R:=R0) (μ0:=λ_=>none) (O0:=O) (w0:=W) (Q:=Q) E (by simp) I (EE E I IM (HL .nil) 1) (N:=N) λi o ho d hd=>X d (mL ho hd)) (i:=i) (cur:=none) (λk o t=>by rwa [Qcy] at t) trivial (Ajr _) (λst' _ _ hg μ O' a' W' y=>?_) c _ O a W h.at_;rw[Qdj,Qat,Nat.add_sub_cancel' hi,Nat.sub_self];obtain⟨h1,h2⟩:=h.of y (Qag hg) g;exact Y O' a' W' h1 h2
theorem ο.put (h:ο w0 N O env a W) {d} (g:d<N) {y} (t:BW W O (λ_=>none) y v):ο w0 N O ((d,some y)::env) (a.put (some d) v) W :=
 ⟨by rw[put_defers];exact h.d,by rw[CH];exact h.s,λs z c=>by
   rw[Qe (Qac g h.s)];rw[AE] at c;split at c
   .simp_all
   .rename_i e;rw[if_neg e];exact h.e s z c,h.o,h.b⟩
theorem ο.sub (h:ο w0 N O env a W) (c:∀b,O' b->b<W'.heap.size) (g:Below w0.heap.size W W') (t:ν W O W' O') (E:∀s y,assoc env' s=some (some y)->assoc env s=some (some y)):ο w0 N O' env' a W' :=
 ⟨h.d,h.s,λs y I=>D3 t (μle.refl _) y (h.e s y (E s y I)),c,h.b.trans g⟩
theorem ο.opw (h:ο w0 N O env a W) {d} (c:ops[i]?=some o) (hg:o.guard=none) (g:o.dst=some d) (t:d<N) y (E:(execOp a.eval o).run Tryz.prog W=.ok (.value v) W') (I:∀b,O' b->b<W'.heap.size) (J:Below w0.heap.size W W') (X:ν W O W' O') (Y:BW W' O' (λ_=>none) y v)
 (Z:∀a',ο w0 N O' ((d,some y)::env) a' W'->wpOps Tryz.prog ops Q rest a' W'):wpOps Tryz.prog ops Q (i::rest) a W:=by refine I2 c hg E ?_;rw[g];exact Z _ ((h.sub I J X λ_ _ h=>h).put t Y)
theorem ο.op (h:ο w0 N O env a W) {d} (c:ops[i]?=some o) (hg:o.guard=none) (g:o.dst=some d) (t:d<N) y (E:(execOp a.eval o).run Tryz.prog W=.ok (.value v) W) (I:BW W O (λ_=>none) y v)
 (J:∀a',ο w0 N O ((d,some y)::env) a' W->wpOps Tryz.prog ops Q rest a' W):wpOps Tryz.prog ops Q (i::rest) a W :=
 h.opw c hg g t y E h.o (Below.refl _ _) (ν.refl _ _) I J
theorem ο.more (h:ο w0 N O env a W) s {y} (g:BW W O (λ_=>none) y (a.eval (.tmp s))):ο w0 N O ((s,some y)::env) a W :=
 ⟨h.d,h.s,λt z c=>by
   rw[AE] at c;split at c
   .simp_all
   .exact h.e t z c,h.o,h.b⟩
theorem ο.sel (h:ο w0 N O env a W) (S:List Nat) (c:S.map (λs=>(s,(assoc env s).join))=env'):ο w0 N O env' a W :=
 ⟨h.d,h.s,λs y g=>h.e s y (by have:=AiO (c▸g);cases e:assoc env s<;>simp_all),h.o,h.b⟩
abbrev Aix (v:Value):aε:=.v (.c (.lit v))
theorem ο.lit (h:ο w0 N O env a W) s (c:assoc env s=some (some (Aix v))):a.eval (.tmp s)=v:=(h.e s _ c).1
theorem ο.int (h:ο w0 N O env a W) s {k} {n} (d:assoc env s=some (some (.v (.c (.int k n))))):a.eval (.tmp s)=.int k n:=(h.e s _ d).1
theorem Ajq {P} {f} {args} (c:ops[i]?=some o) (hg:o.guard=none) (d:(execOp a.eval o).run P w=.ok (.enter f args) w) (h:Calls P f args w λe w'=>∃v,e=.returned v/\wpOps P ops Q rest (a.put o.dst v) w'):wpOps P ops Q (i::rest) a w:=by
 simp only[wpOps,c];have g:Region.wanted o (yielded ops a.tmps)=true:=by simp[Region.wanted,hg]
 rw[if_pos g];refine .inl ?_;unfold Oper.wp;rw[d];exact h.mono λe w' ⟨v,t,h⟩=>by simp_all
noncomputable def cbk:Code->Code | .block _ c=>c|c=>c
noncomputable def tqc:Code:=(AG Tryz.f11 {}).code
noncomputable def tq0:Code:=sqa tqc
noncomputable def tq1:Code:=sqa (sqb tqc)
noncomputable def tq2:Code:=sqa (sqa (sqb (sqb tqc)))
noncomputable def tqL:Code:=lpb (sqb (sqa (sqb (sqb tqc))))
noncomputable def tqz:Code:=sqb (sqb (sqb tqc))
noncomputable def tq3:Code:=sqa tqL
noncomputable def tq5:Code:=sqa (cbk (sqa (sqb tqL)))
noncomputable def tq6:Code:=sqb (cbk (sqa (sqb tqL)))
noncomputable def tq4:Code:=sqb (sqb tqL)
theorem AjK:tqc=.seq tq0 (.seq tq1 (.seq (.seq tq2 (.block 0 (.loop (.seq tq3 (.seq (.block 1 (.seq tq5 tq6)) tq4))))) tqz)):=by kernel_rfl
noncomputable def tqC:Ctx:=KX ([]:List K) []
abbrev AiF (n:Int):aε:=.v (.c (.int .i64 n))
abbrev AiB (T:Ty) (l:List T.δ):aε:=.v (.c (.sl T l))
abbrev tqE (st:List EA) (v:Value) (i:Int):Env:=[(0,some (AiB Wu st)),(3,some (Aix v)),(4,some (AiF i))]
theorem Akc (st:List EA) v:Bi tqC (EN tqC 1) {} tq2 R0 {env:=[(3,some (Aix v)),(0,some (AiB Wu st))],heap:=[],next:=0} (λe st=>some (e,[0,3,4].map λs=>(s,st.get R0 s))) none=some (.normal,tqE st v 0):=by kernel_rfl
theorem AjV st v i:Bi tqC (EN tqC 1) {} tq3 R0 {env:=tqE st v i,heap:=[],next:=0} (λe st=>some (e,[0,3,4].map λs=>(s,st.get R0 s))) none=γ (decide (i<Aa st)) (some (.normal,tqE st v i)) (some (.exit 0,tqE st v i)):=by kernel_rfl
theorem Akd st v i:Bi tqC (EN tqC 1) {} tq4 R0 {env:=tqE st v i,heap:=[],next:=0} (λe st=>some (e,[0,3,4].map λs=>(s,st.get R0 s))) none=some (.normal,tqE st v (wr .i64 (i+1))):=by kernel_rfl
noncomputable def tqK (e:hε) (st:Go.Den.St):Option (List (Nat×Option aε)×List (Option Ψ)):=match e with | .normal=>some ([0,3,4,5].map λs=>(s,st.get R0 s),[304,80,176,272].map (st.obj R0))|_=>none
theorem Ake st v i:Bi tqC (EN tqC 1) {} tq5 R0 {env:=tqE st v i,heap:=[],next:=0} tqK none =
 Ad (idx st i) none λx=>γ (true&&AA (0+Aa x.1) 88) (Ad (idx st i) none λy=>γ (true&&AA (0+Aa y.2.1) 1) (Ad (idx st i) none λz=>γ (true&&AA (0+Aa z.2.2) 1)
  (some (tqE st v i++[(5,some (.v (.c (.ptr 304 0))))],[some (.box [.ref 80,.ref 176,.ref 272]),some (.arr kC ([]++x.1)),some (.arr U8 ([]++y.2.1)),some (.arr U8 ([]++z.2.2))])) none) none) none:=by kernel_rfl
theorem AiQ {B} {R} {st} {μ} (d:ρ B R st μ O w) (I:n0<=B.base) {l} (g:st.obj R k=some (.arr T l)) (J:AQ w O μ (.ref k) v):BV n0 w O ((μ k).bind Place.block) T l v:=by
 obtain⟨a,cap,h1,X,Y,h4⟩:=d.heap k _ g;obtain⟨a',n,c',sz,t,h6⟩:=J;rw[h1] at t;cases t;refine ⟨a,cap,h6,X,Y,?_⟩;by_cases c0:cap=0
 .exact .inl ⟨c0,by rw[h1,c0];cases a<;>rfl⟩
 .rcases h4 with h4|⟨b,vs,e,rfl,Z,g6,g7⟩
  .exact absurd h4 c0
  .have y:(μ k).bind Place.block=some b:=by rw[h1];simp[Place.block,c0]
   have:=d.own k _ g _ b h1 (by simpa[h1] using y);exact .inr ⟨b,vs,e,c0,y,rfl,Qbh I this.2.1.1,this.2.2,Z,g6,g7.mono λ_ _=>Av ⟨χ _,λc _ E=>⟨λh=>h.elim E λh=>E (by simp_all),rfl⟩⟩ T⟩
theorem Φ.add {t} {N:Nat->Option Nat} (h:Φ n0 O W l xs G v) {H g c} (hH:(∀j b,G j=some b->b<H)/\∀b,v.ownBlock=some b->b<H) (hN:∀j b,N j=some b->H<=b/\O b/\b<W.heap.size) (a6:∀j X b,N j=some b->N X=some b->j=X)
 {J u1 u2} (f0:BV n0 W O (N 0) kC s.1 J) (f1:BV n0 W O (N 1) U8 s.2.1 u1) (f2:BV n0 W O (N 2) U8 s.2.2 u2) (Y:ν W O t λb=>O b\/b=g) (hs:∀b,b<W.heap.size->v.ownBlock≠some b->t.heap[b]?=W.heap[b]?) (hg:v.ownBlock=some g\/W.heap.size<=g) (Z:g<t.heap.size)
  (hr:t.ownsRow n0 37 3 (.slice (some ⟨g,0,none⟩) (l.length+1) c) (l.length+1) (xs++[J,u1,u2])):Φ n0 (λb=>O b\/b=g) t (l++[s]) (xs++[J,u1,u2]) (λj=>if j<l.length*3 then G j else N (j-l.length*3)) (.slice (some ⟨g,0,none⟩) (l.length+1) c):=by
  obtain⟨h1,h2,h3,h4,h5⟩:=h
  have hx:= h1.1
  have E:∀ {j T} {y:List T.δ} {u},BV n0 W O (G j) T y u->BV n0 t (λb=>O b\/b=g) (G j) T y u:=λ{j _ _ _} h=>AiP Y (λb d=>hs b (h4 j b d).2.1 (h4 j b d).2.2) h
  have a1:∀j b,N j=some b->v.ownBlock≠some b:=λj b d e=>by grind
  have I:∀ {j T} {y:List T.δ} {u},BV n0 W O (N j) T y u->BV n0 t (λb=>O b\/b=g) (N j) T y u:=λ{j _ _ _} h=>AiP Y (λb d=>hs b (hN j b d).2.2 (a1 j b d)) h
  refine ⟨by rw[Qau];exact hr,λi s' hi=>?_,λj X b hj a7=>?_,λj b hj=>?_,λb d=>by cases d;exact ⟨.inr rfl,Z⟩⟩
  .rw[Qft] at hi;by_cases e:i<l.length
   .rw[if_pos e] at hi;obtain⟨J,u1,u2,e0,e1,e2,q0,q1,q2⟩:=h2 i s' hi;rw[Qdc (by omega),Qdc (by omega),Qdc (by omega)];refine ⟨J,u1,u2,e0,e1,e2,?_,?_,?_⟩
    .rw[if_pos (by omega)];exact E q0
    .rw[if_pos (by omega)];exact E q1
    .rw[if_pos (by omega)];exact E q2
   .rw[if_neg e] at hi;obtain rfl:i=l.length:=by have:=(List.getElem?_eq_some_iff.1 hi).1;simp at this;omega
    simp at hi;subst hi;rw[Qdp (by omega),Qdp (by omega),Qdp (by omega)];refine ⟨J,u1,u2,by simp[hx],by simp[hx],by simp[hx],?_,?_,?_⟩
    .rw[if_neg (by omega),Nat.sub_self];exact I f0
    .rw[if_neg (by omega),Nat.add_sub_cancel_left];exact I f1
    .rw[if_neg (by omega),Nat.add_sub_cancel_left];exact I f2
  .grind
  .have d:O b/\b<W.heap.size/\v.ownBlock≠some b:=by grind
   refine ⟨.inl d.1,Qac d.2.1 Y.size,λe=>?_⟩;obtain rfl:g=b:=Qag e<;>grind
def AiT (w:World) (F:Nat->Prop) (st:List EA) (e:Ending) (W:World):Prop:=∃v xs G O,e=.returned v/\Below w.heap.size w W/\Φ w.heap.size O W st xs G v/\(∀b,F b->O b)/\(∀b,O b->F b\/w.heap.size<=b)/\∀b,O b->b<W.heap.size
structure Oε (w:World) (F:Nat->Prop) (st:List EA) (i:Nat) (O:Nat->Prop) (a:Act) (W:World) (v:Value):Prop where
 fr:ο w 36 O (tqE st v i) a W
 qr:∃xs G,Φ w.heap.size O W (st.take i) xs G v
 up:∀b,F b->O b
 dn:∀b,O b->F b\/w.heap.size<=b
theorem AjL:∃i z,Tryz.prog.info? 37=some i/\i.zero=some z/\i.size=3/\i.bytes=72/\z.cells.size=3:=⟨(Tryz.prog.info? 37).get (by kernel_rfl),((Tryz.prog.info? 37).get (by kernel_rfl)).zero.get (by kernel_rfl),by kernel_rfl,by kernel_rfl,by kernel_rfl,by kernel_rfl,by kernel_rfl⟩
theorem AjW (hi:st[i]?=some s) (hn:st.length<=1000) {H} {N:Nat->Option Nat} (Z:Φ w.heap.size O W (st.take i) xs G v) (a7:∀b,F b->O b) (a8:∀b,O b->F b\/w.heap.size<=b)
 (hH:(∀j b,G j=some b->b<H)/\∀b,v.ownBlock=some b->b<H) (hN:∀j b,N j=some b->H<=b/\O b/\b<W.heap.size) (aa:∀j j' b,N j=some b->N j'=some b->j=j')
 {p0 p1 p2} {I J X c0 c1 c2} (f0:BV w.heap.size W O (N 0) kC s.1 (.slice p0 I c0)) (f1:BV w.heap.size W O (N 1) U8 s.2.1 (.slice p1 J c1)) (f2:BV w.heap.size W O (N 2) U8 s.2.2 (.slice p2 X c2)) {b5} {e5} (h5:W.heap[b5]?=some (.cells #[.slice p0 I c0,.slice p1 J c1,.slice p2 X c2] e5 (0,0)))
 (d:ο w 36 O ((5,some (Aix (.pointer (some ⟨b5,0,none⟩))))::tqE st v i) a W)
 (hQ:∀a' W' O' v',ο w 36 O' (tqE st v' i) a' W'->(∃xs G,Φ w.heap.size O' W' (st.take (i+1)) xs G v')->(∀b,F b->O' b)->(∀b,O' b->F b\/w.heap.size<=b)->Q .normal a' W'):tq6.wp Tryz.prog Q a W:=by
 unfold tq6 tqL tqc;simp only[Tryz.f11,AG,sqa,sqb,lpb,cbk,Qbc];refine wp_region ?_;refine d.op rfl rfl rfl (by decide) (Aix v) (v:=v) (by simp[execOp,d.lit 3 rfl]) (by have:=d.e 3 _ rfl;exact ⟨rfl,this.2⟩) λa d=>?_;refine d.op rfl rfl rfl (by decide) (.v (.a [.lit (.slice p0 I c0),.lit (.slice p1 J c1),.lit (.slice p2 X c2)])) (by have:=ZQ (P:=Tryz.prog) (t:=37) (by kernel_rfl) (i:=(Tryz.prog.info? 37).get (by kernel_rfl)) (by kernel_rfl) (by kernel_rfl) (JK h5);simp[execOp,d.lit 5 rfl,this]) ⟨_,rfl,.cons ⟨rfl,rfl,rfl⟩ (.cons ⟨rfl,rfl,rfl⟩ (.cons ⟨rfl,rfl,rfl⟩ .nil))⟩ λa d=>?_;have ab:a.eval (.tmp 32)=.agg #[.slice p0 I c0,.slice p1 J c1,.slice p2 X c2]:=by
  obtain⟨⟨vs⟩,e,hv⟩:=d.e 32 _ rfl;obtain _|⟨q0,hv⟩:=hv
  obtain _|⟨q1,hv⟩:=hv
  obtain _|⟨q2,hv⟩:=hv
  cases hv;rw[e,q0.1,q1.1,q2.1]
 refine d.opw rfl rfl rfl (by decide) (Aix (.slice (some ⟨W.heap.size,0,none⟩) 1 1)) (W':=W.alloc (.cells #[.slice p0 I c0,.slice p1 J c1,.slice p2 X c2] 37)) (by simp only[execOp,List.getElem_toArray,List.getElem_cons_succ,List.getElem_cons_zero,List.map_toArray,Qcu,List.map_nil,ab];kernel_rfl) λb E=>by have:=d.o b E;simp;omega ((Below.refl _ _).alloc d.b.size _) ⟨by simp,λb E hO=>⟨hO,heap_alloc_old W _ E⟩⟩ ⟨rfl,rfl,rfl⟩ λa d=>?_;have g1:cζ W O (W.alloc (.cells #[.slice p0 I c0,.slice p1 J c1,.slice p2 X c2] 37)) O:=⟨(Below.refl _ _).alloc (χ _) _,⟨by simp,λb E hO=>⟨hO,heap_alloc_old W _ E⟩⟩,λ_ h=>h⟩;have Y:=heap_alloc_new W (.cells #[.slice p0 I c0,.slice p1 J c1,.slice p2 X c2] 37);generalize af:W.alloc (.cells #[.slice p0 I c0,.slice p1 J c1,.slice p2 X c2] 37)=W1 at d g1 Y;have fr:∀ {j T} {y:List T.δ} {u},BV w.heap.size W O (N j) T y u->BV w.heap.size W1 O (N j) T y u:=λ{j _ _ _} h=>AiP g1.k (λb E=>g1.b.block b (hN j b E).2.2) h;have Z:=Z.far g1;have ag:=d.b.size;have ah:=(List.getElem?_eq_some_iff.1 hi).1;obtain⟨inf,z,i1,i2,i3,i4,i5⟩:=AjL;have hl:(st.take i).length=i:=by grind
 obtain⟨g,c,W3,hr,ho,hg,a1,ad⟩:=run_append_lies W1 34 34 w.heap.size 37 inf z 3 72 (by kernel_rfl) i1 i2 i3 i4 i5 (by decide) v _ xs Z.row ⟨W.heap.size,0,none⟩ 1 1 [.slice p0 I c0,.slice p1 J c1,.slice p2 X c2] rfl (World.news_of_block Y) λu hu=>by simp at hu;rcases hu with rfl|rfl|rfl<;>rfl (by decide) (by rw[hl];simp only[maxLen];omega) (by omega) (Qbh d.b.size (χ _)) _ rfl;have hk:ν W1 O W3 λb=>O b\/b=g:=⟨hg.size,λb E hO=>⟨λh=>h.elim hO λe=>by
  rcases a1 with h|h
  .exact hO (e▸(Z.top g h).1)
  .omega,hg.block b E λh=>hO (Z.top b h.symm).1⟩⟩;have ae:= λb E=>(Z.row.lt b E).1;have a6:Below w.heap.size W1 W3:=⟨hg.os,hg.tape,hg.output,hg.size,λk hk=>hg.block k (Qac hk d.b.size) λh=>by grind⟩;refine d.opw rfl rfl rfl (by decide) (Aix _) (v:=.slice (some ⟨g,0,none⟩) ((st.take i).length+1) c) (by simp only[execOp,List.getElem_toArray,List.getElem_cons_succ,List.getElem_cons_zero,resolve,invoke,builtin,Sem.run_bind,Sem.run_pure,Result.andThen_ok,List.map_toArray,Qcu,List.map_nil,d.lit 31 rfl,d.lit 33 rfl,hr]) (λb E=>E.elim (λh=>Qac (d.o b h) hg.size) λe=>by omega) a6 hk ⟨rfl,rfl,rfl⟩ λa d=>?_;refine d.op rfl rfl rfl (by decide) (Aix _) (v:=.slice (some ⟨g,0,none⟩) ((st.take i).length+1) c) (by simp[execOp,d.lit 34 rfl]) ⟨rfl,rfl,rfl⟩ λa d=>?_;refine hQ a W3 _ _ (d.sel [0,3,4] rfl) ?_ (λb E=>.inl (a7 b E)) λb E=>E.elim (a8 b) λe=>?_
 .rw[show st.take (i+1)=st.take i++[s] by rw[Qci,hi];rfl];exact ⟨_,_,Z.add hH (λj b E=>⟨(hN j b E).1,(hN j b E).2.1,Qac (hN j b E).2.2 g1.b.size⟩) aa (fr f0) (fr f1) (fr f2) hk (λb E h=>hg.block b E λe=>h e.symm) (a1.imp id λe=>by omega) ad ho⟩
 grind
theorem cζ.dn (h:cζ W O W' O') {n} (y:n<=W.heap.size) (d:∀b,O b->F b\/n<=b):∀b,O' b->F b\/n<=b:=λb g=>by
 by_cases t:b<W.heap.size
 .by_cases c:O b
  .exact d b c
  .exact absurd g (h.k.nε b t c).1
 omega
theorem Oε.go (h:Oε w F st i O a W v) (c:ο w 36 O' (tqE st v i) a' W') (hg:cζ W O W' O'):Oε w F st i O' a' W' v :=
 ⟨c,let ⟨xs,G,q⟩:=h.qr;⟨xs,G,q.far hg⟩,λb d=>hg.o b (h.up b d),hg.dn h.fr.b.size h.dn⟩
theorem AiJ st v i:lε (tqE st v i):=⟨λy h=>by cases h;trivial,λy h=>by cases h;trivial,λy h=>by cases h;trivial,trivial⟩
theorem Ai3 {n} (h:n<=1000) (c:k<=1000):(true&&AA (0+n) k)=true:=by
 rw[Qap];unfold AA;have:=Ahu;have d:(0+n)*(k:Int)<=1000*1000:=by
  rw[Int.zero_add];by_cases h0:0<=n
  .exact Int.mul_le_mul h (by omega) (by omega) (by omega)
  .have:=Qef (a := -n) (b:=k) (by omega) (by omega)<;>grind
 exact decide_eq_true (by omega)
noncomputable abbrev tqB:Code:=.seq tq3 (.seq (.block 1 (.seq tq5 tq6)) tq4)
theorem AjX (hV:V w) (h:Oε w F st i O a W v) (hi:st[i]?=some s) (hn:st.length<=1000) (hp:s.1.length<=1000/\s.2.1.length<=1000/\s.2.2.length<=1000)
 (hQ:∀a' W' O' v',ο w 36 O' (tqE st v' i) a' W'->(∃xs G,Φ w.heap.size O' W' (st.take (i+1)) xs G v')->(∀b,F b->O' b)->(∀b,O' b->F b\/w.heap.size<=b)->Q .normal a' W'):(Code.seq tq5 tq6).wp Tryz.prog Q a W:=by
 have y:=Ake st v i;rw[ε (show idx st (i:Int)=some s by rw[AY (by omega)];exact hi),ι (Ai3 (by unfold Aa;omega) (by decide)),ε (show idx st (i:Int)=some s by rw[AY (by omega)];exact hi),ι (Ai3 (by unfold Aa;omega) (by decide)),ε (show idx st (i:Int)=some s by rw[AY (by omega)];exact hi),ι (Ai3 (by unfold Aa;omega) (by decide))] at y;refine wp_seq (h.fr.run hV {} (by kernel_rfl) y λe st' μ O' a' W' c g=>?_);cases e with
 |exit _=>cases g
 |ret=>cases g
 |goto _=>cases g
 |normal =>
 simp only[tqK,Qcu,List.map_nil,Qbs,Qaz,Qaf,Qcv,Qdo,true_and,and_true] at g;obtain⟨⟨g0,g3,g4,g5⟩,o5,o0,o1,o2⟩:=g;obtain⟨hf,hg⟩:=h.fr.of c (S:=[0,3,4]) (env':=tqE st v i) (by simp only[Qcu,List.map_nil,g0,g3,g4]) (AiJ _ _ _);obtain⟨b5,m5,z5⟩:=c.env 5 _ g5;obtain⟨a8,⟨vs⟩,e5,E,k5,t⟩:=c.mem.heap 304 _ o5;rw[m5] at E;cases E;obtain _|⟨r0,t⟩:=t
 obtain _|⟨r1,t⟩:=t
 obtain _|⟨r2,t⟩:=t
 cases t;obtain⟨xs,G,J⟩:=h.qr;have d:= h.fr.b.size;have f0:=AiQ c.mem d o0 r0;have f1:=AiQ c.mem d o1 r1;have f2:=AiQ c.mem d o2 r2;obtain⟨_,_,_,_,_,rfl⟩:=r0;obtain⟨_,_,_,_,_,rfl⟩:=r1;obtain⟨_,_,_,_,_,rfl⟩:=r2;have key:∀j b,(if j<3 then (μ (80+96*j)).bind Place.block else none)=some b->∃o p,st'.obj R0 (80+96*j)=some o/\μ (80+96*j)=some p/\p.block=some b:=λj b I=>by grind
 show tq6.wp Tryz.prog _ a' W';refine AjW (N:=λj=>if j<3 then (μ (80+96*j)).bind Place.block else none) hi hn (J.far hg) (λb d=>hg.o b (h.up b d)) (hg.dn h.fr.b.size h.dn) ⟨λj b d=>(J.own j b d).2.1,λb d=>(J.top b d).2⟩ (λj b I=>?_) (λj j' b I X=>?_) f0 f1 f2 k5 (hf.more 5 ⟨z5,rfl,rfl⟩) hQ
 .obtain⟨o,p,Y,Z,q3⟩:=key j b I;have:=c.mem.own _ o Y p b Z q3<;>simp_all
 .obtain⟨o,p,Y,Z,q3⟩:=key j b I;obtain⟨o',p',a1,a6,a7⟩:=key j' b X;have:=c.mem.inj _ _ o o' Y a1 p p' b Z a6 q3 a7;omega
theorem AjM (I:V w) (Z:st.length<=1000) (hp:∀s∈st,s.1.length<=1000/\s.2.1.length<=1000/\s.2.2.length<=1000):∀m i,m+i=st.length->∀ {O} {a} {W} {v},Oε w F st i O a W v ->
 Code.rounds Tryz.prog tqB (Exit.inBlock 0 (Exit.then (tqz.wp Tryz.prog (bodyPost Tryz.prog Tryz.f11 (AiT w F st))) (bodyPost Tryz.prog Tryz.f11 (AiT w F st)))) (m+1) a W:=by
 intro m;induction m with
 |zero =>
  intro i hi O a W v h;obtain rfl:i=st.length:=by omega
  rw[rounds_succ];refine wp_seq (h.fr.piece I {} (by kernel_rfl) ((AjV st v st.length).trans (κ (decide_eq_false (by unfold Aa;omega)))) (AiJ _ _ _) λO' a' W' c hg=>?_);have h:=h.go c hg;show tqz.wp Tryz.prog _ a' W';have c:=h.fr;unfold tqz tqc;simp only[Tryz.f11,AG,sqb,Qbc];refine wp_seq (wp_region ?_);have X:=(c.e 3 _ rfl).2;refine c.op rfl rfl rfl (by decide) (Aix v) (by simp[execOp,c.lit 3 rfl]) ⟨rfl,X⟩ λa c=>?_;refine c.op rfl rfl rfl (by decide) (Aix v) (by simp[execOp,c.lit 35 rfl]) ⟨rfl,X⟩ λa c=>?_;refine wp_ret ⟨c.d,v,Gy (l:=[.tmp 2]) (by kernel_rfl) (.cons ?_ .nil),?_⟩
  .have:=c.lit 2 rfl;simp only[rv];rw[show a.tmps.getD 2 undef=v from this];rfl
  .obtain⟨xs,G,Y⟩:=h.qr;rw[Qel] at Y;exact ⟨v,xs,G,_,rfl,c.b,Y,h.up,h.dn,c.o⟩
 |succ m ih =>
  intro i hi O a W v h;have t:i<st.length:=by omega
  rw[rounds_succ];refine wp_seq (h.fr.piece I {} (by kernel_rfl) ((AjV st v i).trans (ι (decide_eq_true (by unfold Aa;omega)))) (AiJ _ _ _) λO' a' W' c hg=>?_);refine wp_seq (wp_block (AjX I (h.go c hg) (Qdv t) Z (hp _ (Qgf t)) λa2 W2 O2 v2 y J u2 d2=>?_));refine y.piece I {} (by kernel_rfl) (Akd st v2 i) (AiJ _ _ _) λO3 a3 W3 E g=>?_;rw[Aj ((i:Int)+1) (by omega) (by omega)] at E;obtain⟨xs,G,q⟩:=J;exact ih (i+1) (by omega) ⟨E,⟨xs,G,q.far g⟩,λb hb=>g.o b (u2 b hb),g.dn y.b.size d2⟩
theorem AjO {n} {l:List T.δ} (d:Reads w F (.slice T) l [v]) (hF:∀b,F b->b<w.heap.size) (g:N<=n+1):ο w N F [(0,some (AiB T l))] {tmps:=#[v]++Array.replicate n undef,defers:=[]} w:=by
 have h0:({tmps:=#[v]++Array.replicate n undef,defers:=[]}:Act).eval (.tmp 0)=v:=by show Array.getD _ 0 undef=v;simp[Qed]
 refine ⟨rfl,by simp;omega,λs y c=>?_,hF,Below.refl _ _⟩;rw[AE] at c;split at c
 .rename_i e;cases c;subst e;rw[h0];exact d
 .cases c
theorem AjN {v0} (g:V w) (hF:∀b,F b->b<w.heap.size) (J:Reads w F Uy st [v0]) (X:st.length<=1000) (Y:∀s∈st,s.1.length<=1000/\s.2.1.length<=1000/\s.2.2.length<=1000):Calls Tryz.prog 11 #[v0] w (AiT w F st):=by refine calls_of_wp (c:=tqc) Tryz.func11 (by kernel_rfl) ?_;have Z:=AjO J hF (N:=36) (n:=Tryz.f11.ntmps-1) (by simp_all);show Code.wp Tryz.prog tqc _ {tmps:=#[v0]++Array.replicate (Tryz.f11.ntmps-1) undef,defers:=[]} w;rw[AjK];refine wp_seq (Z.piece g {} (by kernel_rfl) (show Bi (KX ([]:List K) []) (EN (KX ([]:List K) []) 1) {} tq0 R0 {env:=[(0,some (AiB Wu st))],heap:=[],next:=0} (λe st=>some (e,[0].map λs=>(s,st.get R0 s))) none=some (.normal,[(0,some (AiB Wu st))]) by kernel_rfl) ⟨λy h=>by cases h;trivial,trivial⟩ λO1 a1 W1 d g1=>?_);refine wp_seq ?_;unfold tq1 tqc;simp only[Tryz.f11,AG,sqa,sqb,Qbc];refine wp_region ?_;refine d.op rfl rfl rfl (by decide) (Aix (.slice none 0 0)) (by simp[execOp];rfl) ⟨rfl,rfl,rfl⟩ λa1 d=>?_;refine wp_seq (wp_seq (d.piece g {} (by kernel_rfl) (Akc st (.slice none 0 0)) (AiJ _ _ _) λO2 a2 W2 t I=>?_));refine wp_block (wp_loop_rounds (st.length+1) (AjM g X Y st.length 0 rfl ⟨t,⟨[],λ_=>none,⟨⟨rfl,.inl ⟨rfl,rfl⟩⟩,λi s hi=>by simp at hi,λ_ _ _ h=>(by cases h),λ_ _ h=>(by cases h),λ_ h=>by cases h⟩⟩,λb E=>I.o b (g1.o b E),I.dn d.b.size (g1.dn (χ _) λb E=>.inl E)⟩))
noncomputable def quc:Code:=(AG Tryz.f4 {}).code
noncomputable def qu0:Code:=sqa quc
noncomputable def qu1:Code:=sqa (sqb quc)
noncomputable def qu2:Code:=sqa (sqb (sqb quc))
noncomputable def qu4:Code:=sqa (sqb (sqb (sqb quc)))
noncomputable def qut:Code:=sqb (sqb (sqb (sqb quc)))
noncomputable def qu6:Code:=sqa qut
noncomputable def qu7:Code:=sqa (sqa (sqb qut))
noncomputable def quL:Code:=lpb (sqb (sqa (sqb qut)))
noncomputable def quz:Code:=sqb (sqb qut)
noncomputable def qu8:Code:=sqa quL
noncomputable def qub:Code:=cbk (sqa (sqb quL))
noncomputable def Ai8:Code:=sqa qub
noncomputable def quI:Code:=lpb (sqb qub)
noncomputable def qu9:Code:=sqb (sqb quL)
noncomputable def Ai2:Code:=sqa (sqa quI)
noncomputable def eζ:Code:=sqb (sqa quI)
noncomputable def qui:Code:=cbk (sqa (sqb quI))
noncomputable def AjF:Code:=sqb (sqb quI)
theorem AjI:quc=.seq qu0 (.seq qu1 (.seq qu2 (.seq qu4 (.seq qu6 (.seq (.seq qu7 (.block 0 (.loop (.seq qu8 (.seq (.block 1 (.seq Ai8 (.block 2 (.loop (.seq (.seq Ai2 eζ) (.seq (.block 3 (.seq (sqa qui) (sqb qui))) AjF)))))) qu9))))) quz))))):=by kernel_rfl
def quk:List K:=[qF,tX,VO]
noncomputable def quC:Ctx:=KX quk []
abbrev AiH (b:Bool):aε:=.v (.c (.bool b))
abbrev quA (n:AU) (l:List Bk) (st:List EA) (b:Bool):Env:=[(1,some (AiB CI l)),(2,some (AiB Wu st)),(3,some (.iptr (enc CE n))),(7,some (AiH b))]
abbrev quE (n:AU) (l:List Bk) (v:Value) (k:Int):Env:=[(1,some (AiB CI l)),(3,some (.iptr (enc CE n))),(7,some (AiH true)),(8,some (Aix v)),(9,some (AiF k))]
abbrev quF (n:AU) (l:List Bk) (v:Value) (k i:Int):Env:=[(1,some (AiB CI l)),(3,some (.iptr (enc CE n))),(7,some (AiH true)),(8,some (Aix v)),(9,some (AiF k)),(10,some (AiF i))]
theorem Aj7 (n:AU) (l:List Bk) (st:List EA):Bi quC (EN quC 1) {} qu1 R0 {env:=[(1,some (AiB CI l)),(2,some (AiB Wu st)),(3,some (.iptr (enc CE n)))],heap:=[],next:=0} (λe st=>some (e,[1,2,3,7].map λs=>(s,st.get R0 s))) none=Ad (QF ()) none λb=>some (.normal,quA n l st b):=by kernel_rfl
theorem Aj8 n l st:Bi quC (EN quC 1) {} qu2 R0 {env:=quA n l st true,heap:=[],next:=0} (λe st=>some (e,[1,2,3,7].map λs=>(s,st.get R0 s))) none=some (.normal,quA n l st true):=by kernel_rfl
theorem AjS n l st:Bi quC (EN quC 1) {} qu4 R0 {env:=quA n l st true,heap:=[],next:=0} (λe st=>some (e,[1,2,3,7,6].map λs=>(s,st.get R0 s))) none=Ad (Ok (n,(l,st))) none λb=>γ (!b) (some (.ret,quA n l st true++[(6,some (AiH true))])) (some (.normal,quA n l st true++[(6,none)])):=by kernel_rfl
theorem Aj9 (n:AU) (l:List Bk) v:Bi quC (EN quC 1) {} qu7 R0 {env:=(8,some (Aix v))::[(1,some (AiB CI l)),(3,some (.iptr (enc CE n))),(7,some (AiH true))],heap:=[],next:=0} (λe st=>some (e,[1,3,7,8,9].map λs=>(s,st.get R0 s))) none=some (.normal,quE n l v 0):=by kernel_rfl
theorem AjT n l v k:Bi quC (EN quC 1) {} qu8 R0 {env:=quE n l v k,heap:=[],next:=0} (λe st=>some (e,[1,3,7,8,9].map λs=>(s,st.get R0 s))) none=γ (decide (k<Aa l)) (some (.normal,quE n l v k)) (some (.exit 0,quE n l v k)):=by kernel_rfl
theorem Aka n l v k i:Bi quC (EN quC 1) {} qu9 R0 {env:=quF n l v k i,heap:=[],next:=0} (λe st=>some (e,[1,3,7,8,9].map λs=>(s,st.get R0 s))) none=some (.normal,quE n l v (wr .i64 (k+1))):=by kernel_rfl
theorem Aj3 n l v k i:Bi quC (EN quC 1) {} AjF R0 {env:=quF n l v k i,heap:=[],next:=0} (λe st=>some (e,[1,3,7,8,9,10].map λs=>(s,st.get R0 s))) none=some (.normal,quF n l v k (wr .i64 (i+1))):=by kernel_rfl
def opsOf:Code->Array Oper | .region _ o _=>o|_=>#[]
theorem Aj1 n l v k N:Gh quC (EN quC 1) R0 (opsOf Ai8).toList 100 none ((opsOf Ai8).toList.drop 2) {env:=(33,some (AiF N))::(32,some (Aix v))::quE n l v k,heap:=[],next:=0} (λst=>some ([1,3,7,8,9,10].map λs=>(s,st.get R0 s))) none=Ad (idx n.1 k) none λs=>some (quF n l v k (B8 0 (wr .i64 (wr .i64 (N-s.2.2.2.2.2.2.1)-1)))):=by kernel_rfl
theorem Aj2 n l v k i N:Gh quC (EN quC 1) R0 (opsOf Ai2).toList 100 none ((opsOf Ai2).toList.drop 3) {env:=(45,some (AiF N))::(44,some (Aix v))::(43,some (AiF i))::quF n l v k i,heap:=[],next:=0} (λst=>some ([1,3,7,8,9,10,46].map λs=>(s,st.get R0 s))) none=some (quF n l v k i++[(46,some (AiH (decide (i<N))))]):=by kernel_rfl
def quK (e:hε) (st:Go.Den.St):Option Bool:=match e with | .ret=>(match st.get R0 6 with|some (.v (.c (.bool b)))=>some b|_=>none)|_=>none
theorem Akb (n:AU) (l:List Bk) (q:List EA):Bi quC (EN quC 1) {loops:=[(4,[.slot 14 ζ])]} quz R0 {env:=(8,some (AiB Wu q))::[(1,some (AiB CI l)),(3,some (.iptr (enc CE n))),(7,some (AiH true))],heap:=[],next:=0} quK none =
 Ad (Kg (n,(l,q))) none λd=>γ (!d.2.2==0) (some true)
 (iter none (λc=>γ (decide (c<Aa l)) (Ad (idx d.1.1 c) (.done none) λg=>γ (decide (3<=g.2.2.1.1)) (.done (some false)) (.next (wr .i64 (c+1)))) (.done (some true))) Am (0:Int)):=by kernel_rfl
def AiA (p:Nat->Nat->Bool) (st:List EA):List EA:=st.mapIdx λi s=>(s.1.mapIdx λk ip=>if p i k=true then ([],ip.2) else ip,(s.2.1.mapIdx λk d=>if p i k=true then 1 else d,s.2.2))
theorem AiN {α β:Type} {f c} {l:List α} {K} {z:β} (h1:∀k y,k≠K->c k y=f k y) (d:∀y,l[K]?=some y->c K y=z):l.mapIdx c=(l.mapIdx f).set K z:=by apply Qdq<;>grind
theorem Ajb {α β:Type} {f c:Nat->α->β} {l:List α} (h:∀k y,k<l.length->c k y=f k y):l.mapIdx c=l.mapIdx f:=by apply Qdq<;>grind
theorem Ai7 {p'} (h:∀i k,i<st.length->p i k=p' i k):AiA p st=AiA p' st :=
 Ajb λi s hi=>by simp only[h i _ hi]
theorem AjZ:AiA (λ_ _=>false) st=st:=by
 unfold AiA;apply Qdq;intro j;rw[List.getElem?_mapIdx];have c:∀ {α:Type} (l:List α),l.mapIdx (λ_ y=>y)=l:=λl=>by apply Qdq<;>simp_all
 cases st[j]? with
 |none=>rfl
 |some s =>simp only[Qai,Qcz,if_false];rw[c,c]
theorem AjG {p'} {I K} {s0} (h:st[I]?=some s0) (h1:K<s0.1.length) (t:K<s0.2.1.length) (X:∀i k,p' i k=(p i k||decide (i=I)&&decide (k=K))) :
 ∃s x d,(AiA p st)[I]?=some s/\s.1[K]?=some x/\s.2.1[K]?=some d/\AiA p' st=(AiA p st).set I (s.1.set K ([],x.2),(s.2.1.set K 1,s.2.2)):=by
 have E:(AiA p st)[I]? = _:=List.getElem?_mapIdx.trans (by rw[h,Qai]);have J:=Qdv h1;refine ⟨_,_,_,E,List.getElem?_mapIdx.trans (by rw[J,Qai]),List.getElem?_mapIdx.trans (by rw[Qdv t,Qai]),?_⟩;have far:∀k,k≠K->p' I k=p I k:=λk c=>by simp_all
 have here:p' I K=true:=by simp_all
 refine AiN (λi y hi=>?_) λy g=>?_
 .simp_all
 .rw[h] at g;cases g;refine Prod.ext (AiN λk y c=>by rw[far k c] λy g=>?_) (Prod.ext (AiN λk y c=>by rw[far k c] λy g=>by rw[if_pos here]) rfl)<;>grind
def Aiz (n:AU) (N:Int) (K I:Nat) (i k:Nat):Bool:=AiD n N i k&&decide (k<K\/k=K/\i<I)
theorem AjQ {K:Nat} (d:Aa n.1=K):AiA (Aiz n (Aa st) K 0) st=AiG n st :=
 Ai7 λi k _=>by
  unfold Aiz;cases c:AiD n (Aa st) i k
  .rfl
  .rw[Qap];refine decide_eq_true (.inl ?_);unfold AiD at c;split at c
   .rename_i s h;have:=(Ag h).2.1;omega
   .cases c
theorem AjY {K c:Nat} {s} (g:idx n.1 (K:Int)=some s) (h0:(c:Int)=max 0 (Aa st-Aiy s-1)):AiA (Aiz n (Aa st) K c) st=AiA (Aiz n (Aa st) K 0) st :=
 Ai7 λi k _=>by
  unfold Aiz;by_cases d:k=K
  .subst d;unfold AiD<;>grind
  simp_all
theorem AjR {K} (hi:st.length<=i):AiA (Aiz n (Aa st) K i) st=AiA (Aiz n (Aa st) (K+1) 0) st :=
 Ai7 λj k c=>by unfold Aiz<;>grind
theorem Φ.val (h:Φ n0 O W l xs G v):∃p c,v=.slice p l.length c:=by rcases h.row.2 with ⟨h1,d⟩|⟨g,cap,cur,h1,_⟩<;>simp_all
theorem AiW {t el} {inf} (c:Tryz.prog.underlying t=some (.slice el)) (hi:Tryz.prog.info? el=some inf) {z} (d:inf.size=z) {g len cap} {n} (y:n<len):(Instr.indexAt t (.slice (some ⟨g,0,none⟩) len cap) (.int .i64 (n:Int))).run Tryz.prog w=.ok (.pointer (some ⟨g,n*z,none⟩)) w:=by
 subst d;have:(n:Int)<(len:Int):=by omega
 have h:¬len<=n:=by omega
 simp[Instr.indexAt,asIntOf,run_underlying c,this,h,sizeOf,typeInfo,hi,Addr.add_mid]
theorem Aja {w'} (c:ops[i]?=some o) (hg:o.guard=none) (d:o.dst=none) (g:(execOp a.eval o).run Tryz.prog w=.ok .skip w') (h:wpOps Tryz.prog ops Q rest a w'):wpOps Tryz.prog ops Q (i::rest) a w:=by
 simp only[wpOps,c];have t:Region.wanted o (yielded ops a.tmps)=true:=by simp[Region.wanted,hg]
 rw[if_pos t];refine .inl ?_;unfold Oper.wp;rw[g,Oper.upon_skip,d];exact h
theorem ο.cell (h:ο w0 N O env a W) (c:Lε n0 W b off cur u W') (d:O b) (g:w0.heap.size<=n0):ο w0 N O env a W' :=
 h.sub (λb d=>by rw[c.far.1];exact h.o b d) (c.far.2.2 _ g) (c.keeps d) λ_ _ h=>h
theorem Ajz {p} (g:Lε n0 W b off cur u W') {t} (hi:∃inf,Tryz.prog.info? t=some inf/\inf.size=1) (y:p=some ⟨b,off,none⟩) (h1:u.oneCell'=true) (d:u.cells=#[u]):(Instr.storeAt t (.pointer p) u).run Tryz.prog W=.ok () W':=by obtain⟨⟨e,h⟩,E,_,rfl⟩:=g;obtain⟨inf,i1,I⟩:=hi;subst y;have:=RW (O:=λ_=>False) (μ:=λ_=>none) (x:=.c (.lit u)) i1 ⟨rfl,h1,d⟩ (by rw[I];rfl) h E;rw[this,d];rfl
theorem Aj4 {l} (h:ο w 90 O (quF n l v k i) a W) (Z:w.heap.size<=n0) {q} (I:Φ n0 O W q xs G v) (J:q[i]?=some s) {d} (X:s.2.1[k]?=some d)
 (hQ:∀a' W',ο w 90 O (quF n l v k i) a' W'->Φ n0 O W' (q.set i (s.1,(s.2.1.set k 1,s.2.2))) xs G v->Q .normal a' W'):(sqa qui).wp Tryz.prog Q a W:=by have y:=(List.getElem?_eq_some_iff.1 J).1;obtain⟨g,cap,rfl,hc⟩:=I.form y;obtain⟨b,c,cur,hx,hb,W',Y,E⟩:=I.put1 J X;unfold qui quI qub quL qut quc;simp only[Tryz.f4,AG,sqa,sqb,lpb,cbk,Qbc];refine wp_region ?_;refine h.op rfl rfl rfl (by decide) (Aix _) (v:=.slice (some ⟨g,0,none⟩) q.length cap) (by simp[execOp,h.lit 8 rfl]) ⟨rfl,rfl,rfl⟩ λa h=>?_;refine h.op rfl rfl rfl (by decide) (AiF i) (v:=.int .i64 i) (by simp[execOp,h.int 10 rfl]) (by have:=h.e 10 _ rfl;exact ⟨rfl,this.2⟩) λa h=>?_;refine h.op rfl rfl rfl (by decide) (Aix _) (v:=.pointer (some ⟨g,i*3,none⟩)) (by have:=AiW (t:=34) (el:=37) (by kernel_rfl) (inf:=(Tryz.prog.info? 37).get (by kernel_rfl)) (by kernel_rfl) (z:=3) (by kernel_rfl) (g:=g) (cap:=cap) y (w:=W);simp[execOp,h.lit 49 rfl,h.int 50 rfl,this]) ⟨rfl,rfl,rfl⟩ λa h=>?_;refine h.op rfl rfl rfl (by decide) (Aix _) (v:=.pointer (some ⟨g,i*3+1,none⟩)) (by have:=K6 (P:=Tryz.prog) (w:=W) (s:=37) (f:=1) (off:=1) (t:=29) (by kernel_rfl) g (i*3);simp[execOp,h.lit 51 rfl,this]) ⟨rfl,rfl,rfl⟩ λa h=>?_;refine h.op rfl rfl rfl (by decide) (Aix _) (v:=.slice (some ⟨b,0,none⟩) s.2.1.length c) (by have:=IT (P:=Tryz.prog) (t:=29) (by kernel_rfl) (hc _ _ hx);simp[execOp,h.lit 52 rfl,this]) ⟨rfl,rfl,rfl⟩ λa h=>?_;refine h.op rfl rfl rfl (by decide) (AiF k) (v:=.int .i64 k) (by simp[execOp,h.int 9 rfl]) (by have:=h.e 9 _ rfl;exact ⟨rfl,this.2⟩) λa h=>?_;refine h.op rfl rfl rfl (by decide) (Aix _) (v:=.pointer (some ⟨b,k*1,none⟩)) (by have:=AiW (t:=29) (el:=5) (by kernel_rfl) (inf:=(Tryz.prog.info? 5).get (by kernel_rfl)) (by kernel_rfl) (z:=1) (by kernel_rfl) (g:=b) (cap:=c) (List.getElem?_eq_some_iff.1 X).1 (w:=W);simp[execOp,h.lit 53 rfl,h.int 54 rfl,this]) ⟨rfl,rfl,rfl⟩ λa h=>?_;refine Aja rfl rfl rfl (w':=W') (by have:=Ajz Y (t:=5) ⟨(Tryz.prog.info? 5).get (by kernel_rfl),by kernel_rfl,by kernel_rfl⟩ (p:=some ⟨b,k*1,none⟩) (by rw[Qch]) rfl rfl;simp only[execOp,List.getElem_toArray,List.getElem_cons_succ,List.getElem_cons_zero,h.lit 55 rfl];show (Instr.storeAt 5 (.pointer (some ⟨b,k*1,none⟩)) (.int .u8 1) >>= λ_=>pure Next.skip).run Tryz.prog W = _<;>simp_all) ?_;exact hQ _ _ ((h.cell Y hb Z).sel [1,3,7,8,9,10] rfl) E
theorem Aj5 {l} (d:ο w 90 O (quF n l v k i) a W) (Z:w.heap.size<=n0) {q} (J:Φ n0 O W q xs G v) (X:q[i]?=some s) {x} (y:s.1[k]?=some x)
 (hQ:∀a' W',ο w 90 O (quF n l v k i) a' W'->Φ n0 O W' (q.set i (s.1.set k ([],x.2),s.2)) xs G v->Q .normal a' W'):(sqb qui).wp Tryz.prog Q a W:=by have h:=(List.getElem?_eq_some_iff.1 X).1;have E:=(List.getElem?_eq_some_iff.1 y).1;obtain⟨g,cap,rfl,hc⟩:=J.form h;obtain⟨b,c,cur,y,hb,W',Y,I⟩:=J.put0 X y;unfold qui quI qub quL qut quc;simp only[Tryz.f4,AG,sqa,sqb,lpb,cbk,Qbc];refine wp_region ?_;refine d.op rfl rfl rfl (by decide) (Aix _) (v:=.slice (some ⟨g,0,none⟩) q.length cap) (by simp[execOp,d.lit 8 rfl]) ⟨rfl,rfl,rfl⟩ λa d=>?_;refine d.op rfl rfl rfl (by decide) (AiF i) (v:=.int .i64 i) (by simp[execOp,d.int 10 rfl]) (by have:=d.e 10 _ rfl;exact ⟨rfl,this.2⟩) λa d=>?_;refine d.op rfl rfl rfl (by decide) (Aix _) (v:=.pointer (some ⟨g,i*3,none⟩)) (by have:=AiW (t:=34) (el:=37) (by kernel_rfl) (inf:=(Tryz.prog.info? 37).get (by kernel_rfl)) (by kernel_rfl) (z:=3) (by kernel_rfl) (g:=g) (cap:=cap) h (w:=W);simp[execOp,d.lit 56 rfl,d.int 57 rfl,this]) ⟨rfl,rfl,rfl⟩ λa d=>?_;refine d.op rfl rfl rfl (by decide) (Aix _) (v:=.pointer (some ⟨g,i*3+0,none⟩)) (by have:=K6 (P:=Tryz.prog) (w:=W) (s:=37) (f:=0) (off:=0) (t:=35) (by kernel_rfl) g (i*3);simp[execOp,d.lit 58 rfl,this]) ⟨rfl,rfl,rfl⟩ λa d=>?_;refine d.op rfl rfl rfl (by decide) (Aix _) (v:=.slice (some ⟨b,0,none⟩) s.1.length c) (by have:=IT (P:=Tryz.prog) (t:=35) (by kernel_rfl) (hc _ _ y);simp[execOp,d.lit 59 rfl,this]) ⟨rfl,rfl,rfl⟩ λa d=>?_;refine d.op rfl rfl rfl (by decide) (AiF k) (v:=.int .i64 k) (by simp[execOp,d.int 9 rfl]) (by have:=d.e 9 _ rfl;exact ⟨rfl,this.2⟩) λa d=>?_;refine d.op rfl rfl rfl (by decide) (Aix _) (v:=.pointer (some ⟨b,k*7,none⟩)) (by have:=AiW (t:=35) (el:=82) (by kernel_rfl) (inf:=(Tryz.prog.info? 82).get (by kernel_rfl)) (by kernel_rfl) (z:=7) (by kernel_rfl) (g:=b) (cap:=c) E (w:=W);simp[execOp,d.lit 60 rfl,d.int 61 rfl,this]) ⟨rfl,rfl,rfl⟩ λa d=>?_;refine d.op rfl rfl rfl (by decide) (Aix _) (v:=.pointer (some ⟨b,k*7+0,none⟩)) (by have:=K6 (P:=Tryz.prog) (w:=W) (s:=82) (f:=0) (off:=0) (t:=29) (by kernel_rfl) b (k*7);simp[execOp,d.lit 62 rfl,this]) ⟨rfl,rfl,rfl⟩ λa d=>?_;refine Aja rfl rfl rfl (w':=W') (by have:=Ajz Y (t:=29) ⟨(Tryz.prog.info? 29).get (by kernel_rfl),by kernel_rfl,by kernel_rfl⟩ rfl rfl rfl;simp only[execOp,List.getElem_toArray,List.getElem_cons_succ,List.getElem_cons_zero,d.lit 63 rfl];show (Instr.storeAt 29 (.pointer (some ⟨b,k*7,none⟩)) (.slice none 0 0) >>= λ_=>pure Next.skip).run Tryz.prog W = _<;>simp_all) ?_;exact hQ _ _ ((d.cell Y hb Z).sel [1,3,7,8,9,10] rfl) I
theorem lε.app:∀ {a b},lε a->lε b->lε (a++b)
 |[],_,_,h=>h
 |_::_,_,h,h'=>⟨h.1,h.2.app h'⟩
theorem AiE n l v k i:lε (quE n l v k)/\lε (quF n l v k i):=by have h:lε (quE n l v k):=⟨λy h=>by cases h;trivial,λy e=>by cases e;exact AiM CE,λy h=>by cases h;trivial,λy h=>by cases h;trivial,λy h=>by cases h;trivial,trivial⟩;exact ⟨h,h.app ⟨λy h=>by cases h;trivial,trivial⟩⟩
structure Ajp (n:AU) (l:List Bk) (st:List EA):Prop where
 nl:n.1.length<=1000/\l.length=n.1.length/\st.length<=1000
 row:∀s∈st,s.1.length=n.1.length/\s.2.1.length=n.1.length/\s.2.2.length=n.1.length
 watch:∀s∈n.1,0<=Aiy s/\Aiy s<=1048576
structure Sε (w:World) (F:Nat->Prop) (n:AU) (st:List EA) (n0:Nat) (xs:List Value) (G:Nat->Option Nat) (v:Value) (env:Env) (p:Nat->Nat->Bool) (O:Nat->Prop) (a:Act) (W:World):Prop where
 fr:ο w 90 O env a W
 qr:Φ n0 O W (AiA p st) xs G v
 up:∀b,F b->O b
theorem Sε.go (h:Sε w F n st n0 xs G v env p O a W) (c:ο w 90 O' env' a' W') (hg:cζ W O W' O'):Sε w F n st n0 xs G v env' p O' a' W':=⟨c,h.qr.far hg,λb d=>hg.o b (h.up b d)⟩
noncomputable abbrev quJ:Code:=.seq (.seq Ai2 eζ) (.seq (.block 3 (.seq (sqa qui) (sqb qui))) AjF)
theorem ο.len (h:ο w0 N O env a W) {s d m:Nat} {p:Option Addr} {c:Nat} (y:ops[i]?=some o) (hg:o.guard=none) (E:o.dst=some d) (g:o.op=.call {callee:=.builtin .len,args:=#[.tmp s],argTypes:=#[34]}) (I:d<N) (J:assoc env s=some (some (Aix (.slice p m c)))) (Y:m<=1000)
 (X:∀a',ο w0 N O ((d,some (AiF m))::env) a' W->wpOps Tryz.prog ops Q rest a' W):wpOps Tryz.prog ops Q (i::rest) a W:=by
 refine h.op y hg E I (AiF m) (v:=.int .i64 m) ?_ ⟨rfl,?_⟩ X
 .simp[execOp,g,h.lit s J,resolve,invoke,builtin,Builtin.len_,run_underlying (P:=Tryz.prog) (t:=34) (d:=.slice 37) (by kernel_rfl),goInt]
 .exact PE (by unfold maxLen;omega)
theorem Aju n l v k i b:Bi quC (EN quC 1) {} eζ R0 {env:=quF n l v k i++[(46,some (AiH b))],heap:=[],next:=0} (λe st=>some (e,[1,3,7,8,9,10].map λs=>(s,st.get R0 s))) none=γ b (some (.normal,quF n l v k i)) (some (.exit 2,quF n l v k i)):=by kernel_rfl
theorem Ajt:(AiA p st).length=st.length:=by unfold AiA<;>simp_all
theorem Ajn {l} (I:V w) (hn:st.length<=1000) (h:Sε w F n st n0 xs G v (quF n l v k i) p O a W)
 (E:∀O' a' W',Sε w F n st n0 xs G v (quF n l v k i) p O' a' W'->Q (if i<st.length then .normal else .exit 2) a' W'):(Code.seq Ai2 eζ).wp Tryz.prog Q a W:=by
 obtain⟨p',c,hv⟩:=h.qr.val;rw[Ajt] at hv;have d:=h.fr;refine wp_seq ?_;unfold Ai2 quI qub quL qut quc;simp only[Tryz.f4,AG,sqa,sqb,lpb,cbk,Qbc];refine wp_region ?_;refine d.op rfl rfl rfl (by decide) (AiF i) (v:=.int .i64 i) (by simp[execOp,d.int 10 rfl]) (by have:=d.e 10 _ rfl;exact ⟨rfl,this.2⟩) λa d=>?_;refine d.op rfl rfl rfl (by decide) (Aix v) (by simp[execOp,d.lit 8 rfl]) ⟨rfl,(d.e 8 _ rfl).2⟩ λa d=>?_;refine d.len rfl rfl rfl rfl (by decide) (by rw[<-hv];rfl) hn λa d=>?_;refine d.seg I (by decide) (of_decide_eq_true (by kernel_rfl)) (Aj2 n l v k i st.length) ((AiE n l v k i).2.app ⟨λy h=>by cases h;trivial,trivial⟩) λO1 a1 W1 g g1=>?_;have hc:=AiE n l v k i;show eζ.wp Tryz.prog _ a1 W1;by_cases hi:i<st.length
 .rw[if_pos hi] at E;refine g.piece I {} (by kernel_rfl) ((Aju n l v k i _).trans (ι (decide_eq_true (by omega)))) hc.2 λJ X Y t Z=>?_;exact E J X Y ((h.go (g.sel [1,3,7,8,9,10] rfl) g1).go t Z)
 .rw[if_neg hi] at E;refine g.piece I {} (by kernel_rfl) ((Aju n l v k i _).trans (κ (decide_eq_false (by omega)))) hc.2 λJ X Y t Z=>?_;exact E J X Y ((h.go (g.sel [1,3,7,8,9,10] rfl) g1).go t Z)
theorem Aj6 {l} {Y:Nat} (E:V w) (Z:w.heap.size<=n0) (y:Ajp n l st) (hk:k<n.1.length) {s} (hs:idx n.1 (k:Int)=some s) (h0:(Y:Int)=max 0 (Aa st-Aiy s-1))
 (hQ:∀O a W,Sε w F n st n0 xs G v (quF n l v k st.length) (Aiz n (Aa st) k st.length) O a W->Q .normal a W):∀m i,m+i=st.length->Y<=i->∀ {O} {a} {W},Sε w F n st n0 xs G v (quF n l v k i) (Aiz n (Aa st) k i) O a W->Code.rounds Tryz.prog quJ (Exit.inBlock 2 Q) (m+1) a W:=by
 intro m;induction m with
 |zero =>
  intro i hi _ O a W h;obtain rfl:i=st.length:=by omega
  rw[rounds_succ];refine wp_seq (Ajn E y.nl.2.2 h λO' a' W' h'=>?_);rw[if_neg (Qcm _)];exact hQ _ _ _ h'
 |succ m ih =>
  intro i hi a6 O a W h;have c:i<st.length:=by omega
  rw[rounds_succ];refine wp_seq (Ajn E y.nl.2.2 h λO1 a1 W1 h1=>?_);rw[if_pos c];obtain⟨r1,r2,_⟩:=y.row _ (Qgf c);obtain⟨s1,x,d,e1,ex,ed,eq⟩:=AjG (K:=k) (p:=Aiz n (Aa st) k i) (p':=Aiz n (Aa st) k (i+1)) (Qdv c) (by omega) (by omega) (λi' k'=>by
   have hb:AiD n (Aa st) i k=true:=by unfold AiD<;>grind
   unfold Aiz<;>grind);refine wp_seq (wp_block (wp_seq (Aj4 h1.fr Z h1.qr e1 ed λa2 W2 I J=>?_)));refine Aj5 I Z J (List.getElem?_set_self (List.getElem?_eq_some_iff.1 e1).1) ex λa3 W3 X g=>?_;rw[List.set_set,<-eq] at g;refine X.piece E {} (by kernel_rfl) (Aj3 n l v k i) (AiE n l v k _).2 λO4 a4 W4 t g4=>?_;have hn:=y.nl.2.2;rw[Aj ((i:Int)+1) (by omega) (by omega)] at t;exact ih (i+1) (by omega) (by omega) ⟨t,g.far g4,λb hb=>g4.o b (h1.up b hb)⟩
def AiU (w:World) (y:Bool) (e:Ending) (W:World):Prop:=e=.returned (.bool y)/\Below w.heap.size w W
theorem Ajv {y} (c:a.defers=[]) (d:Below w.heap.size w W) (h6:a.eval (.tmp 6)=.bool y):bodyPost Tryz.prog Tryz.f4 (AiU w y) .ret a W :=
 ⟨c,.bool y,Gy (l:=[.tmp 6]) (by kernel_rfl) (.cons (by simp only[rv];rw[show a.tmps.getD 6 undef=.bool y from h6];rfl) .nil),rfl,d⟩
noncomputable abbrev quO:Code:=.seq qu8 (.seq (.block 1 (.seq Ai8 (.block 2 (.loop quJ)))) qu9)
theorem AjU {l} {y} (X:V w) (hF:∀b,F b->b<w.heap.size) (hw:w.heap.size<=n0) (hd:Ajp n l st)
 (hy:Ad (Kg (n,(l,AiG n st))) none (λx3=>γ (!x3.2.2==0) (some true) (iter none (λx4=>γ (decide (x4<Aa l)) (Ad (idx x3.1.1 x4) (.done none) λx5=>γ (decide (3<=x5.2.2.1.1)) (.done (some false)) (.next (wr .i64 (x4+1)))) (.done (some true))) Am (0:Int)))=some y) :
 ∀m k,m+k=l.length->∀ {O} {a} {W},Sε w F n st n0 xs G v (quE n l v k) (Aiz n (Aa st) k 0) O a W ->
 Code.rounds Tryz.prog quO (Exit.inBlock 0 (Exit.then (quz.wp Tryz.prog (bodyPost Tryz.prog Tryz.f4 (AiU w y))) (bodyPost Tryz.prog Tryz.f4 (AiU w y)))) (m+1) a W:=by
 intro m;obtain⟨n1,n2,n3⟩:=hd.nl;induction m with
 |zero =>
  intro k hk O a W h;obtain rfl:k=l.length:=by omega
  rw[rounds_succ];refine wp_seq (h.fr.piece X {} (by kernel_rfl) ((AjT n l v l.length).trans (κ (decide_eq_false (by unfold Aa;omega)))) (AiE n l v _ 0).1 λO1 a1 W1 d g1=>?_);have h1:=h.go d g1;show quz.wp Tryz.prog _ a1 W1;have hq:=h1.qr;rw[AjQ (by unfold Aa;omega)] at hq;have hf:=((d.sub (λb t=>Qac (hF b t) d.b.size) (Below.refl _ _) ⟨χ _,λb _ t=>⟨λh=>t (h1.up b h),rfl⟩⟩ λ_ _ h=>h).sel [1,3,7] rfl).more 8 (y:=AiB Wu (AiG n st)) (by rw[d.lit 8 rfl];exact hq.reads (λb t=>Qac (hF b t) hw) h1.up);refine hf.run X _ (by kernel_rfl) ((Akb n l (AiG n st)).trans hy) λe st' μ O' a' W' E g=>?_;cases e with
  |exit _=>cases g
  |normal=>cases g
  |goto _=>cases g
  |ret =>
  unfold quK at g;simp only at g;split at g
  .rename_i b t;cases g;exact Ajv E.defers (hf.b.trans (E.mem.below.mono hf.b.size)) (E.env 6 _ t)
  .cases g
 |succ m ih =>
  intro k hk O a W h;have Y:k<n.1.length:=by omega
  have hs:idx n.1 (k:Int)=some n.1[k]:=by rw[AY (by omega)]<;>simp_all
  have a7:=hd.watch _ (Qgf Y);generalize n.1[k]=s at hs a7;have hN:Aa st=(st.length:Int):=rfl;obtain⟨I,h0⟩:∃I:Nat,(I:Int)=max 0 (Aa st-Aiy s-1):=⟨(max 0 (Aa st-Aiy s-1)).toNat,Qax (by omega)⟩;rw[rounds_succ];refine wp_seq (h.fr.piece X {} (by kernel_rfl) ((AjT n l v k).trans (ι (decide_eq_true (by unfold Aa;omega)))) (AiE n l v _ 0).1 λO1 a1 W1 d g1=>?_);have h1:=h.go d g1;obtain⟨p',c,hv⟩:=h1.qr.val;rw[Ajt] at hv;refine wp_seq (wp_block (wp_seq ?_));unfold Ai8 qub quL qut quc;simp only[Tryz.f4,AG,sqa,sqb,lpb,cbk,Qbc];refine wp_region ?_;refine d.op rfl rfl rfl (by decide) (Aix v) (by simp[execOp,d.lit 8 rfl]) ⟨rfl,(d.e 8 _ rfl).2⟩ λa2 J=>?_;refine J.len rfl rfl rfl rfl (by decide) (by rw[<-hv];rfl) n3 λa2 J=>?_;have Z:=(Aj1 n l v k st.length).trans (ε hs);rw[show B8 0 (wr .i64 (wr .i64 ((st.length:Int)-s.2.2.2.2.2.2.1)-1))=(I:Int) by have e:Aiy s=s.2.2.2.2.2.2.1:=rfl;rw[Aj ((st.length:Int)-s.2.2.2.2.2.2.1) (by omega) (by omega),Aj _ (by omega) (by omega),ED];omega] at Z;refine J.seg X (by decide) (of_decide_eq_true (by kernel_rfl)) Z (AiE n l v k I).2 λO3 a3 W3 a8 g3=>?_;refine wp_block (wp_loop_rounds (st.length-I+1) (Aj6 X hw hd Y hs h0 (λO4 a4 W4 h4=>?_) (st.length-I) I (by omega) (χ _) ⟨a8,by rw[AjY hs h0];exact h1.qr.far g3,λb t=>g3.o b (h1.up b t)⟩));refine h4.fr.piece X {} (by kernel_rfl) (Aka n l v k st.length) (AiE n l v _ 0).1 λO5 a5 W5 a6 g5=>?_;rw[Aj ((k:Int)+1) (by omega) (by omega)] at a6;have h5:=h4.qr.far g5;rw[AjR (χ _)] at h5;exact ih (k+1) (by omega) ⟨a6,h5,λb t=>g5.o b (h4.up b t)⟩
theorem Aj0 {l} (h:AiK n l st=true):Ajp n l st:=by unfold AiK at h;rw[Qab,Qab] at h;obtain⟨⟨h1,d⟩,g⟩:=h;have h1:=of_decide_eq_true h1;unfold Aa at h1;refine ⟨by omega,λs c=>?_,λs c=>of_decide_eq_true (List.all_eq_true.1 g s c)⟩;have:=of_decide_eq_true (List.all_eq_true.1 d s c);unfold Aa at this;omega
theorem AjJ {l:List Bk} {g} {y} (X:V w) (hF:∀b,F b->b<w.heap.size) (hr:BP w F [CE,Nk,Uy] (n,(l,st)) g) (J:AiC (n,(l,st))=some y):Calls Tryz.prog 4 g.toArray w (AiU w y):=by
 unfold AiC at J;rw[ε zP,κ (b:=!true) rfl] at J;obtain⟨b,I,J⟩:=AF J;refine calls_of_wp (c:=quc) Tryz.func4 (by kernel_rfl) ?_;have t:ο w 90 F (CP 0 (Cy [CE,Nk,Uy] (n,(l,st)))) {tmps:=g.toArray++Array.replicate (Tryz.f4.ntmps-g.toArray.size) undef,defers:=[]} w :=
  ⟨rfl,by rw[show Tryz.f4.ntmps=90 by kernel_rfl];simp;omega,λs y Z=>OB (R:=R0) (h:=[]) (nx:=0) (Dn hr) _ s y (by unfold St.get<;>simp_all),hF,Below.refl _ _⟩;generalize ({tmps:=g.toArray++Array.replicate (Tryz.f4.ntmps-g.toArray.size) undef,defers:=[]}:Act)=a at t;rw[AjI];refine wp_seq ?_;unfold qu0 quc;simp only[Tryz.f4,AG,sqa,Qbc];refine wp_region ?_;obtain⟨vs,h0,a7⟩:=t.e 0 _ rfl;refine t.opw rfl rfl rfl (by decide) (.iptr (enc CE n)) (v:=.pointer (some ⟨w.heap.size,0,none⟩)) (W':=w.alloc (.cells vs 26)) (by simp[execOp,h0,Instr.box,newVar,newRow,Value.cells]) λb I=>by have:=hF b I;simp;omega ((Below.refl _ _).alloc (χ _) _) ⟨by simp,λb I hO=>⟨hO,heap_alloc_old w _ I⟩⟩ ?_ λa t=>?_
 .refine ⟨_,0,_,rfl,λh=>Qcm _ (hF _ h),by simp,JK (heap_alloc_new w _),a7.mono λc v=>Ce ⟨by simp,λb I hO=>⟨hO,heap_alloc_old w _ I⟩⟩ (μle.refl _) c⟩
 refine t.op rfl rfl rfl (by decide) (AiH false) (by simp[execOp];rfl) rfl λa t=>?_;have cA:∀b,lε (quA n l st b):=λb=>⟨λy h=>by cases h;trivial,λy h=>by cases h;trivial,λy e=>by cases e;exact AiM CE,λy h=>by cases h;trivial,trivial⟩;refine wp_seq ((t.sel [1,2,3] rfl).piece X {} (by kernel_rfl) ((Aj7 n l st).trans (ε zP)) (cA true) λO1 a1 W1 a8 g1=>?_);refine wp_seq (a8.piece X {} (by kernel_rfl) (Aj8 n l st) (cA true) λO2 a2 W2 a6 g2=>?_);cases b with
 |false =>rw[ι (b:=!false) rfl] at J;cases J;exact wp_seq (a6.piece X {} (by kernel_rfl) ((AjS n l st).trans ((ε I).trans (ι rfl))) ((cA true).app ⟨λy h=>by cases h;trivial,trivial⟩) λO3 a3 W3 E g3=>Ajv E.d E.b (E.e 6 _ rfl))
 |true =>
 rw[κ (b:=!true) rfl] at J;cases Y:AiK n l st with
 |false=>rw[κ Y] at J;cases J
 |true =>
 rw[ι Y] at J;have hd:=Aj0 Y;obtain⟨n1,n2,n3⟩:=hd.nl;refine wp_seq (a6.piece X {} (by kernel_rfl) ((AjS n l st).trans ((ε I).trans (κ rfl))) ((cA true).app ⟨λy h=>(by cases h),trivial⟩) λO3 a3 W3 E g3=>?_);refine wp_seq ?_;unfold qu6 qut quc;simp only[Tryz.f4,AG,sqa,sqb,Qbc];refine wp_region ?_;refine E.op rfl rfl rfl (by decide) (AiB Wu st) (by simp[execOp]) (E.e 2 _ rfl) λa t=>?_;refine Ajq rfl rfl (by have:=enters_of Tryz.func11 (by kernel_rfl) rfl #[a.eval (.tmp 24)] W3;have aa:a.eval (.func 11)=.func (.func 11) #[] #[]:=rfl;simp[execOp,resolve,aa,Deferred.ofValue,invoke,this]) ((AjN (stays _ _ t.b X) t.o (t.e 24 _ rfl) n3 λs Z=>by have:=hd.row s Z;omega).mono ?_);rintro e W4 ⟨v,xs,G,O4,rfl,hB,Y,ab,ad,hO⟩;refine ⟨v,rfl,?_⟩;have hv:v.oneCell'=true/\v.cells=#[v]:=by obtain⟨p,c,rfl⟩:=Y.val;exact ⟨rfl,rfl⟩
 have Z:=t.b.size;have t:=(t.sub hO (hB.mono Z) ⟨hB.size,λb I ho=>⟨λh=>(ad b h).elim ho λh=>by omega,hB.block b I⟩⟩ λ_ _ h=>h).put (d:=25) (by decide) (y:=Aix v) ⟨rfl,hv⟩;refine t.op rfl rfl rfl (by decide) (Aix v) (by simp[execOp,t.lit 25 rfl]) ⟨rfl,hv⟩ λa t=>?_;refine wp_seq (wp_seq ((t.sel [8,1,3,7] rfl).piece X {} (by kernel_rfl) (Aj9 n l v) (AiE n l v 0 0).1 λO5 a5 W5 ae g5=>?_));refine wp_block (wp_loop_rounds (l.length+1) (AjU X hF Z hd J l.length 0 rfl ⟨ae,by rw[(Ai7 λi k _=>by unfold Aiz;simp).trans AjZ];exact Y.far g5,λb I=>g5.o b (ab b (g3.o b (g2.o b (g1.o b I))))⟩))
theorem Ai5:BM Tryz.prog V 4 (spP [CE,Nk,Uy] [Bo] AiC) where
 enters:=enters_of Tryz.func4 (by kernel_rfl) rfl
 tot:=λg hg=>by cases hg
 calls:=λw F c x y d hF h t=>(AjJ d hF h t).mono λe W ⟨E,I⟩=>⟨[.bool y],E,I,[.bool y],rfl,rfl⟩
end Go.Proofs.YtlgpjdjcbincgaaGreatDoor
