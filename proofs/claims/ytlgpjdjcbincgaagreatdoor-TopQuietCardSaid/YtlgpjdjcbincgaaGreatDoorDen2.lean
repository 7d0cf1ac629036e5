/- Part of a plain reading of Go code: an evaluator of code as functions of typed data, and that it tells what the machine does. -/
import Derived.Test.YtlgpjdjcbincgaaGreatDoorDen1
import Derived.Laws.StructEq
import Derived.ChangeKeysEq
import Derived.Orders
import Derived.LoopN
import Derived.Scope
set_option linter.all false
namespace Go
def World.rε (w:World) (b:Nat) (o:Obj):World:={w with heap:=w.heap.setIfInBounds b o}
end Go
namespace Go.Den
open Go.RowKit
section
variable {C:Ctx} {P:Program} {B:Ξ} {R:RO} {st:St} {μ:AI} {O:Nat->Prop} {w:World} {a:Act}
def oX (J:ρ B R st μ O w) {k:Nat} {T:Ty} {l:List T.δ} (X:st.obj R k=some (.arr T l)) {v:Value} (Y:AQ w O μ (.ref k) v) {i j:Int} (h0:0<=i) (h1:i<=j) (h2:j<=(l.length:Int)) :
 ∃ad cap,v=.slice ad l.length cap/\l.length<=cap/\AQ w O μ (.sub k i (Gi j i)) (.slice (if cap=i.toNat then ad else ad.map (·.add (i.toNat*T.size))) (j.toNat-i.toNat) (cap-i.toNat)):=by
 obtain⟨ad,cap,d,Z,hm,c⟩:=J.heap k _ X;obtain⟨a1,g,h,a6,t,ev⟩:=Y;rw[d] at t;cases t;have y:(Gi j i).toNat=j.toNat-i.toNat:=by unfold Gi;omega
 refine ⟨ad,cap,ev,Z,ad,l.length,cap,T.size,_,cap-i.toNat,d,⟨h0,by unfold Gi;omega,by unfold Gi;omega⟩,by rw[y],⟨by rw[y];omega,by omega⟩,?_⟩;by_cases E:Gi j i=0
 .exact .inl E
 .have a7:i<j:=by unfold Gi at E;omega
  rcases c with c|⟨b,vs,el,I,hc,hs,c⟩
  .omega
  .refine .inr ⟨b,I,?_⟩;rw[if_neg (by omega),I];simp[Addr.add_mid]
def qB {k T l lo n v i j} (Z:ρ B R st μ O w) (hk:st.obj R k=some (.arr T l)) (hv:AQ w O μ (.sub k lo n) v) (h0:0<=i) (h1:i<=j) (h2:j<=n) :
 ∃ad cap,v=.slice ad n.toNat cap/\n.toNat<=cap/\AQ w O μ (.sub k (Jv lo i) (Gi j i)) (.slice (if cap=i.toNat then ad else ad.map (·.add (i.toNat*T.size))) (j.toNat-i.toNat) (cap-i.toNat)):=by
 obtain⟨d,c,h,hl,hm,t⟩:=Z.heap k _ hk;obtain⟨a2,y,E,a1,a',I,J,⟨g0,g1,g2⟩,ev,⟨g3,g4⟩,X⟩:=hv;rw[h] at J;cases J;have hd:(Gi j i).toNat=j.toNat-i.toNat:=by unfold Gi;omega
 refine ⟨a',I,ev,g3,d,l.length,c,T.size,_,I-i.toNat,h,⟨by unfold Jv;omega,by unfold Gi;omega,by unfold Jv Gi;omega⟩,by rw[hd],⟨by omega,by omega⟩,?_⟩;by_cases Y:Gi j i=0
 .exact .inl Y
 .have a6:i<j:=by unfold Gi at Y;omega
  rcases X with X|⟨b,ea,g⟩
  .omega
  .refine .inr ⟨b,ea,?_⟩;rw[if_neg (by omega),g];have:(Jv lo i).toNat=lo.toNat+i.toNat:=by unfold Jv;omega
   rw[this,Qcd];simp[Addr.add_mid]
def lA (hM:ρ B R st μ O w) (hD:¬B.D st.next) (hE:CN R st μ O w a.tmps) {o:Oper} {t:TypeId} {x:Operand} {lo hi mx:Option Operand} (ho:o.op=.slice t x lo hi mx)
 {out:υ} {e:Eff} (h:D7 P R st t (Ω R st x) lo hi mx=some out) (E:out.run=some e):dε P o a w (BL B R st e μ O w):=by
 unfold D7 at h;split at h
 .rename_i el hu;split at h
  .cases h
  rename_i inf J;split at h
  .rename_i T l hx;split at h
   .cases h
   rename_i g;have g:=beq_true g;have fin:∀(a8 aa:Option Value) (i j:Nat) (y:List T.δ),a8=lo.map a.eval->aa=hi.map a.eval ->
    (match a8 with|none=>i=0|some v=>∃k n,v=.int k n/\0<=n/\i=n.toNat)->(match aa with|none=>j=l.length|some v=>∃k n,v=.int k n/\0<=n/\j=n.toNat)->i<=j->j<=l.length->y=(l.take j).drop i ->
    dε P o a w (BL B R st (.c st (.sl T y)) μ O w):=λa8 aa i j y e1 e2 h1 h2 h3 h4 ey=>by
    obtain⟨ad,cap,ev,a6,hr⟩:=tF (AT hE hx) h3 h4
    have d:=FF (P:=P) (w:=w) (ad:=ad) (len:=l.length) (cap:=cap) hu J h1 h2 h3 (by omega)
    subst ey
    refine AX hM (x:=.v (.c (.sl T ((l.take j).drop i)))) ?_ (by rw[g] at d;exact hr) []
    simp only[execOp,ho,ev,Qce,<-e1,<-e2,Sem.run_bind,d,Result.andThen_ok,Sem.run_pure,g]
   split at h
   .cases h;cases E<;>simp_all
   .rename_i p;split at h
    .rename_i k i Z;cases h;simp only[υ.run] at E;split at E
     .rename_i I;cases E;simp only[C5,Qab] at I;have Y:i<=(l.length:Int):=of_decide_eq_true I.2;refine fin (some (a.eval p)) none i.toNat l.length _ rfl rfl ⟨k,i,(AT hE Z).1,of_decide_eq_true I.1,rfl⟩ rfl (by omega) (χ _) ?_;rw[Qas (χ _)];rfl
     .cases E
    .cases h
   .rename_i p;split at h
    .rename_i k j Z;cases h;simp only[υ.run] at E;split at E
     .rename_i I;cases E;simp only[C5,Qab] at I;have Y:j<=(l.length:Int):=of_decide_eq_true I.2;exact fin none (some (a.eval p)) 0 j.toNat _ rfl rfl rfl ⟨k,j,(AT hE Z).1,of_decide_eq_true I.1,rfl⟩ (Qaw _) (by omega) (by simp[Ax])
     .cases E
    .cases h
   .rename_i p q;split at h
    .rename_i k i k' j Z hq;cases h;simp only[υ.run] at E;split at E
     .rename_i I;cases E;simp only[C5,Qab] at I;have X:= of_decide_eq_true I.1;have Y:= of_decide_eq_true I.2.1;have ab:j<=(l.length:Int):=of_decide_eq_true I.2.2;exact fin (some (a.eval p)) (some (a.eval q)) i.toNat j.toNat _ rfl rfl ⟨k,i,(AT hE Z).1,X,rfl⟩ ⟨k',j,(AT hE hq).1,by omega,rfl⟩ (by omega) (by omega) rfl
     .cases E
    .cases h
  .rename_i hx;split at h
   .rename_i p;split at h
    .rename_i k j Z;cases h;simp only[υ.run] at E;split at E
     .rename_i I;cases E;have hj:j=0:=by simpa[eqI] using I
      subst hj;obtain⟨ad,ev⟩:∃ad,a.eval x=.slice ad 0 0:=AT hE hx;have d:=FF (P:=P) (w:=w) (ad:=ad) (len:=0) (cap:=0) (lo:=none) (hi:=some (a.eval p)) (l:=0) (h:=0) hu J rfl ⟨k,0,(AT hE Z).1,by omega,rfl⟩ (χ _) (χ _);exact AX hM (x:=.v (.c .nils)) (v:=.slice ad 0 0) (by simp only[execOp,ho,ev,Qce,Qai,Sem.run_bind,d,Result.andThen_ok,Sem.run_pure]<;>simp_all) ⟨ad,rfl⟩ []
     .cases E
    .cases h
   .cases h
  .rename_i k hx;have hv:= AT hE hx;split at h
   .rename_i p;split at h
    .rename_i kk j T l Z hk ai;split at h
     .rename_i g;have g:=beq_true g;cases h;simp only[υ.run] at E;split at E
      .rename_i I;cases E;simp only[C5,Qab] at I;have Y:j<=(l.length:Int):=of_decide_eq_true I.2;have a7:st.obj R k=some (.arr T l):=by simp[St.obj,hk]
       obtain⟨ad,cap,e1,hl,hm,a1⟩:=hM.heap k _ a7;obtain⟨av,aq,ar,aw,e2,ev⟩:=hv;rw[e1] at e2;cases e2;have d:=FF (P:=P) (w:=w) (ad:=ad) (len:=l.length) (cap:=cap) (lo:=none) (hi:=some (a.eval p)) (l:=0) (h:=j.toNat) hu J rfl ⟨kk,j,(AT hE Z).1,of_decide_eq_true I.1,rfl⟩ (Qaw _) (by omega);have ae:(if cap=0 then ad else ad.map (·.add (0*inf.size)))=ad:=by
        split
        .rfl
        .cases ad with
         |none=>rfl
         |some q=>simp[Addr.add]
       rw[ae] at d;have af:(Ax l j).length=j.toNat:=by unfold Ax<;>simp_all
       obtain⟨μ',aj,hn⟩:=hM.yζ hD a7 (fε.2 ai) e1 (.arr ad j.toNat cap T.size) (by cases ad<;>rfl) (.arr T (Ax l j)) rfl (λ_ _=>rfl) (Below.refl _ _) (λμ' _ ax hn=>⟨ad,cap,by simp_all,by omega,hm,by
        rcases a1 with a1|⟨b,vs,ak,ea,al,hs,a1⟩
        .exact .inl a1
        .refine .inr ⟨b,vs,ak,ea,al,hs,?_⟩;rw[af];have ag:=ξ.take (λx vs=>AW T) a1 j.toNat;rw[Qfw,Qer (Qco _ (by omega))] at ag;exact ag⟩) st.env;refine .inl ⟨.slice ad j.toNat cap,w,?_,BR (ν.refl _ _) (λx u hx=>Cn hx hM.heap) aj λx hx=>by cases hx;exact ⟨_,_,_,_,hn,rfl⟩⟩;simp only[execOp,ho,ev,Qce,Qai,Sem.run_bind,d,Result.andThen_ok,Sem.run_pure,Qeu]
      .cases E
     .cases h
    .cases h
   .rename_i p;split at h
    .rename_i kk i T l Z hk;split at h
     .rename_i g;have g:=beq_true g;cases h;simp only[υ.run] at E;split at E
      .rename_i I;cases E;simp only[C5,Qab] at I;have X:= of_decide_eq_true I.1;have Y:i<=(l.length:Int):=of_decide_eq_true I.2;obtain⟨ad,cap,ev,a6,hr⟩:=oX hM hk hv (i:=i) (j:=Aa l) X Y (Qbb _);have d:=FF (P:=P) (w:=w) (ad:=ad) (len:=l.length) (cap:=cap) (lo:=some (a.eval p)) (hi:=none) (l:=i.toNat) (h:=l.length) hu J ⟨kk,i,(AT hE Z).1,X,rfl⟩ rfl (by omega) a6;refine AX hM (x:=.v (.c (.sub k i (Gi (Aa l) i)))) ?_ (by rw[g] at d;exact hr) [k];simp only[execOp,ho,ev,Qce,Qai,Sem.run_bind,d,Result.andThen_ok,Sem.run_pure,g];rfl
      .cases E
     .cases h
    .cases h
   .rename_i p q;split at h
    .rename_i kk i an j T l Z hq hk;split at h
     .rename_i g;have g:=beq_true g;cases h;simp only[υ.run] at E;split at E
      .rename_i I;cases E;simp only[C5,Qab] at I;have X:= of_decide_eq_true I.1;have Y:= of_decide_eq_true I.2.1;have ab:j<=(l.length:Int):=of_decide_eq_true I.2.2;obtain⟨ad,cap,ev,a6,hr⟩:=oX hM hk hv (i:=i) (j:=j) X Y ab;have d:=FF (P:=P) (w:=w) (ad:=ad) (len:=l.length) (cap:=cap) (lo:=some (a.eval p)) (hi:=some (a.eval q)) (l:=i.toNat) (h:=j.toNat) hu J ⟨kk,i,(AT hE Z).1,X,rfl⟩ ⟨an,j,(AT hE hq).1,by omega,rfl⟩ (by omega) (by omega);refine AX hM (x:=.v (.c (.sub k i (Gi j i)))) ?_ (by rw[g] at d;exact hr) [k];simp only[execOp,ho,ev,Qce,Qai,Sem.run_bind,d,Result.andThen_ok,Sem.run_pure,g]
      .cases E
     .cases h
    .cases h
   .cases h
  .rename_i k o' n hx;have hv:= AT hE hx;split at h
   .rename_i T l hk;split at h
    .rename_i g;have g:=beq_true g;split at h
     .rename_i p;split at h
      .rename_i kk j Z;cases h;simp only[υ.run] at E;split at E
       .rename_i I;cases E;simp only[C5,Qab] at I;have X:= of_decide_eq_true I.1;have Y:= of_decide_eq_true I.2;obtain⟨ad,cap,ev,a6,hr⟩:=qB hM hk hv (i:=0) (j:=j) (Qbb _) X Y;have d:=FF (P:=P) (w:=w) (ad:=ad) (len:=n.toNat) (cap:=cap) (lo:=none) (hi:=some (a.eval p)) (l:=0) (h:=j.toNat) hu J rfl ⟨kk,j,(AT hE Z).1,X,rfl⟩ (by omega) (by omega);refine AX hM (x:=.v (.c (.sub k o' j))) ?_ (by
         have e3:Jv o' 0=o':=by unfold Jv;omega
         have e4:Gi j 0=j:=by unfold Gi;omega
         rw[e3,e4] at hr;exact hr) [k];simp only[execOp,ho,ev,Qce,Qai,Sem.run_bind,d,Result.andThen_ok,Sem.run_pure,g];simp
       .cases E
      .cases h
     .rename_i p;split at h
      .rename_i kk i Z;cases h;simp only[υ.run] at E;split at E
       .rename_i I;cases E;simp only[C5,Qab] at I;have X:= of_decide_eq_true I.1;have Y:= of_decide_eq_true I.2;obtain⟨ad,cap,ev,a6,hr⟩:=qB hM hk hv (i:=i) (j:=n) X Y (Qbb _);have d:=FF (P:=P) (w:=w) (ad:=ad) (len:=n.toNat) (cap:=cap) (lo:=some (a.eval p)) (hi:=none) (l:=i.toNat) (h:=n.toNat) hu J ⟨kk,i,(AT hE Z).1,X,rfl⟩ rfl (by omega) a6;refine AX hM (x:=.v (.c (.sub k (Jv o' i) (Gi n i)))) ?_ (by rw[g] at d;exact hr) [k];simp only[execOp,ho,ev,Qce,Qai,Sem.run_bind,d,Result.andThen_ok,Sem.run_pure,g]
       .cases E
      .cases h
     .cases h
    .cases h
   .cases h
  .cases h
 .rename_i n el hu;unfold JI at h;split at h
  .rename_i inf k i J hx;obtain⟨b,len,cap,sz,Z,h0,ay,ev⟩:AQ w O μ (.eptr k i) (a.eval x):=AT hE hx;split at h
   .rename_i T l hz hk;have hz:=m7 hz;subst hz;split at h
    .obtain⟨az,au,ah,a6,aB,_⟩:=hM.heap k _ hk;rw[Z] at ah;cases ah;have ev:a.eval x=.pointer (some ⟨b,0,none⟩):=by rw[ev];simp
     have fin:∀j:Int,0<=j->j<=(n:Int)->Aa l=(n:Int)->(execOp a.eval o).run P w=.ok (.value (.slice (some ⟨b,0,none⟩) j.toNat n)) w->dε P o a w (BL B R st {Eff.c st (.sub k 0 j) with reads:=[k]} μ O w):=λj j0 j1 hl hr=>by have hl:(l.length:Int)=n:=hl;refine AX hM (x:=.v (.c (.sub k 0 j))) hr ⟨_,_,_,_,some ⟨b,0,none⟩,n,Z,⟨Qbb _,j0,by omega⟩,rfl,⟨by omega,by omega⟩,?_⟩ [k];exact .inr ⟨b,rfl,by simp⟩
     split at h
     .cases h;obtain⟨hb,rfl⟩:=Bu E;have hb:Aa l=(n:Int):=by simpa[eqI] using hb
      refine fin n (by omega) (Qbb _) hb ?_;simp[execOp,ho,ev,Instr.sliceAt,run_underlying hu,Instr.sureAddr,Instr.sliceBounds,sizeOf,typeInfo,J,Addr.add]
     .rename_i p;split at h
      .rename_i kk j hj;cases h;obtain⟨hb,rfl⟩:=Bu E;simp only[C5,Qab] at hb;have ao:Aa l=(n:Int):=by simpa[eqI] using hb.1
       have j0:0<=j:=of_decide_eq_true hb.2.1;have j1:j<=(n:Int):=of_decide_eq_true hb.2.2;refine fin j j0 j1 ao ?_;simp[execOp,ho,ev,(AT hE hj).1,Instr.sliceAt,run_underlying hu,Instr.sureAddr,Instr.sliceBounds,Instr.sliceBound,asIntOf,j0,j1,sizeOf,typeInfo,J,Addr.add]
      .cases h
    .cases h
   .cases h
  .cases h
 .cases h
def AcE {c k lo n T l v} (hM:ρ B R st μ O w) (h:LX st c=some (k,lo,n)) (Y:assoc st.heap k=some (.arr T l)) (hv:∀d,c=some d->AQ w O μ d v) :
 ∃g d,v=.slice g n.toNat d/\0<=lo/\0<=n/\lo+n<=(l.length:Int)/\(n=0\/∃b vs el cap,μ k=some (.arr (some ⟨b,0,none⟩) l.length cap T.size)/\cap≠0/\g=some ⟨b,lo.toNat*T.size,none⟩ /\
  w.heap[b]?=some (.cells vs el (0,0))/\vs.size=cap*T.size/\l.length<=cap/\cap<=maxLen/\ξ (Reads w O T) l (vs.toList.take (l.length*T.size))):=by
 have y:st.obj R k=some (.arr T l):=by simp[St.obj,Y]
 obtain⟨ad,cap,e1,hl,hm,t⟩:=hM.heap k _ y
 have fin:∀g d,v=.slice g n.toNat d->0<=lo->0<=n->lo+n<=(l.length:Int)->(n=0\/∃b,ad=some ⟨b,0,none⟩/\g=some ⟨b,lo.toNat*T.size,none⟩)->_:=λg d E h0 h1 Z h3=>(⟨g,d,E,h0,h1,Z,by
  grind⟩:∃g d,v=.slice g n.toNat d/\0<=lo/\0<=n/\lo+n<=(l.length:Int)/\(n=0\/∃b vs el cap,μ k=some (.arr (some ⟨b,0,none⟩) l.length cap T.size)/\cap≠0/\g=some ⟨b,lo.toNat*T.size,none⟩ /\
   w.heap[b]?=some (.cells vs el (0,0))/\vs.size=cap*T.size/\l.length<=cap/\cap<=maxLen/\ξ (Reads w O T) l (vs.toList.take (l.length*T.size))))
 unfold LX at h
 split at h
 .rename_i k';split at h
  .rename_i T' l' a1;simp only[Qaf,Qcv] at h;obtain⟨rfl,rfl,rfl⟩:=h;rw[a1] at Y;cases Y;obtain⟨a2,I,J,a6,X,E⟩:=hv _ rfl;rw[e1] at X;cases X;refine fin ad cap (by rw[E];rfl) (Qbb _) (by unfold Aa;omega) (by unfold Aa;omega) ?_;rcases t with t|⟨b,vs,el,ea,hc,hs,t⟩
   .left;unfold Aa;omega
   .exact .inr ⟨b,ea,by rw[ea];simp⟩
  .cases h
 .simp only[Qaf,Qcv] at h;obtain⟨rfl,rfl,rfl⟩:=h;obtain⟨a2,I,J,a6,g,d,X,⟨h0,h1,Z⟩,E,_,hz⟩:=hv _ rfl;rw[e1] at X;cases X;exact fin g d E h0 h1 Z hz
 .cases h
def qY {o t t' d s args ts out e} (hM:ρ B R st μ O w) (hE:CN R st μ O w a.tmps) (ho:o.op=.call {callee:=.builtin .copy,args,argTypes:=ts}) (ar:args.toList=[d,s]) (b8:ts.toList=[t,t'])
 (h:KB P R st t (Ω R st d) (Ω R st s)=some out) (he:out.run=some e):dε P o a w (BL B R st e μ O w):=by
  have a6:args=#[d,s]:=by grind
  have ai:ts=#[t,t']:=by grind
  subst a6;subst ai;have a7:∀v w',(Builtin.copy_ #[t,t'] o.type #[a.eval d,a.eval s]).run P w=.ok v w'->(execOp a.eval o).run P w=.ok (.value v) w':=λv w' hv=>by simp[execOp,ho,resolve,invoke,builtin,hv]
  unfold KB at h;split at h
  .rename_i el hu;split at h
   .rename_i inf k lo n b3 au;split at h
    .rename_i T l hk;split at h
     .rename_i T' ba ks h1 h2 hl;have h1:=beq_true h1;have h2:=beq_true h2;split at h
      .rename_i xs hc;cases h;cases he;obtain⟨rfl,rfl⟩:=Ea hc;have a8:st.obj R k=some (.arr T' l):=by simp[St.obj,hk]
       obtain⟨ad,cap,cells,ev,bb,hm,g,aj,E,_⟩:=Tw hM hl λc' hc=>AT hE hc;obtain⟨a',c',ak,bc,hn,bd,aa⟩:=AcE hM au hk λc' hc=>AT hE hc;have I:=aj O (ν.refl _ _);have ab:(P.info? el).map (·.size)=some 1:=by simp_all
       have hg:Bb (Aa xs) n=((min xs.length n.toNat:Nat):Int):=by unfold Bb Aa<;>omega
       have av:(xs.take n.toNat).length=min xs.length n.toNat:=by grind
       have ae:inR .i64 (Bb (Aa xs) n)=true:=by rw[hg];exact PE (by omega)
       by_cases hz:min xs.length n.toNat=0
       .have aw:CR l lo n xs=l:=by have:xs.take n.toNat=[]:=Qad (by omega);unfold CR;rw[this]<;>simp_all
        refine .inl ⟨.int .i64 (Bb (Aa xs) n),w,a7 _ _ (by rw[ak,ev,run_copy_none (P:=P) w t t' o.type el a' ad n.toNat c' xs.length cap hu ab hz,hg,hz];rfl),BR (ν.refl _ _) (λx u hx=>Cn hx hM.heap) ⟨μle.refl _,ν.refl _ _,?_,λ_ _ hk=>.inl hk⟩ λx hx=>by cases hx;exact ⟨rfl,ae⟩⟩;refine hM.congr (λj oj ej=>?_) (χ _);have ax:({env:=st.env,heap:=(k,Ψ.arr T' (CR l lo n xs))::dropKey k st.heap,next:=st.next}:St).obj R j=some oj:=ej;rw[Dv] at ax<;>grind
       .rcases aa with aa|⟨b,vs,ag,J,hp,al,an,X,ao,ay,az,y⟩
        .omega
        .rcases g with g|⟨b2,aq,ea,g⟩
         .omega
         rw[h1,Qch] at an ao E;have af:(Place.arr (some ⟨b,0,none⟩) l.length J T'.size).block=some b:=by simp[Place.block,al]
         have ah:(cells.take n.toNat).length=Nat.min xs.length n.toNat:=by rw[Qbn,E];exact Nat.min_comm _ _
         have aB:vs.toList.length=J:=by rw[Qat];exact ao
         have Y:(cells.take n.toNat).length=(xs.take n.toNat).length:=by rw[av];exact ah
         have b7:(cells.take n.toNat).length<=n.toNat:=by rw[Qbn];omega
         have aP:=run_copy_row (P:=P) w t t' o.type el b lo.toNat n.toNat c' ⟨b2,aq,none⟩ xs.length cap vs ag (cells.take n.toNat) hu ab X ah
          (λj u hj=>by rw[Addr.add_mid];exact IW g n.toNat j u hj) (by omega) λu b0=>ξ.all (λx vs h=>Lu T' h) I u (Qde b0);have b1:Bb (Aa xs) n=((cells.take n.toNat).length:Int):=by rw[hg,ah]
         refine .inl ⟨.int .i64 (Bb (Aa xs) n),w.setRow b (vs.toList.take lo.toNat++cells.take n.toNat++vs.toList.drop (lo.toNat+(cells.take n.toNat).length)).toArray,a7 _ _ (by rw[ak,ev,an,ea,aP,b1];rfl),?_⟩;refine BR (ν.refl _ _) (λx u hx=>Cn hx hM.heap) (hM.write a8 hp af (.arr T' (CR l lo n xs)) (by simp) (λc hc=>setRow_other w b c _ hc) (below_setRow w b _ (hM.own k _ a8 _ b hp af).2.1.1) (λZ=>?_) st.env) (λx hx=>by cases hx;exact ⟨rfl,ae⟩);have a1:(CR l lo n xs).length=l.length:=by unfold CR;rw[Qau,Qau,Qbn,Qdj,<-Y];omega
         refine ⟨_,J,by rw[a1];exact hp,by rw[a1];exact ay,az,.inr ⟨b,_,ag,rfl,setRow_heap w b vs _ ag _ X,?_,?_⟩⟩
         .rw[Qbk,Qau,Qau,Qbn,Qdj,aB,h1];omega
         .rw[a1,h1,Qch,Qeo];have e2:(vs.toList.take lo.toNat++cells.take n.toNat++vs.toList.drop (lo.toNat+(cells.take n.toNat).length)).take l.length=(vs.toList.take l.length).take lo.toNat++cells.take n.toNat++(vs.toList.take l.length).drop (lo.toNat+(cells.take n.toNat).length):=by rw[Qdu,Qas (by rw[Qau,Qbn];omega),Qfw,Qer (by omega),List.drop_take];congr 2;rw[Qau,Qbn];omega
          rw[e2,Y];unfold CR;rw[h1,Qch] at y;have q0:=ξ.take (λx vs=>AW T') y lo.toNat;have q1:=ξ.take (λx vs=>AW T') I n.toNat;have q2:=ξ.drop (λx vs=>AW T') y (lo.toNat+(xs.take n.toNat).length);rw[h1,Qch] at q0 q1 q2;rw[Y] at Z;exact ((q0.append q1).append q2).mono λ_ _=>Av Z T'
      .cases h
     .cases h
    .cases h
   .cases h
  .cases h
def Ju {o c v} (d:ρ B R st μ O w) (g:(execOp a.eval o).run P w=.ok (.value v) w) (h:AQ w O μ c v):dε P o a w (BL B R st (.c st c) μ O w) :=
 AX d (x:=.v (.c c)) g h []
def tK (x y:Int):(0<=x->0<=x.tmod y/\x.tmod y<=x)/\(x<=0->x<=x.tmod y/\x.tmod y<=0):=by
 have key:∀x:Int,0<=x->0<=x.tmod y/\x.tmod y<=x:=λx h=>by have h0:=Qcr y h;have h1:=Int.natAbs_tmod x y;have c:=Nat.mod_le x.natAbs y.natAbs<;>omega
 refine ⟨key x,λh=>?_⟩;have:=key (-x) (by omega)<;>simp_all
def Ac3 {k x y} (t:inR k x=true):inR k (x.tmod y)=true:=by
 rw[tε] at t ⊢;have c:=tK x y;have d:k.min<=0:=by cases k<;>decide
 have g:0<=k.max:=by cases k<;>decide
 rcases Int.le_total 0 x with h|h
 .have:=c.1 h;omega
 .have:=c.2 h;omega
def mZ {k x} n (t:inR k x=true):inR k (x.fdiv (2 ^ n))=true:=by
 rw[tε] at t ⊢;have y:(0:Int)<2 ^ n:=Qfd (by decide);rw[Qcg _ (by omega)];have d:(1:Int)<=2 ^ n:=by omega
 have c:k.min<=0:=by cases k<;>decide
 have g:0<=k.max:=by cases k<;>decide
 constructor
 .rw[Int.le_ediv_iff_mul_le y];have:= Int.mul_le_mul_of_nonpos_left c d;omega
 .rcases Int.le_total 0 x with h|h
  .have:=Int.ediv_le_self (2 ^ n) h;omega
  .have:= Int.ediv_nonpos_of_nonpos_of_neg h (by omega);omega
end
section
variable {C:Ctx} {P:Program} {B:Ξ} {R:RO} {st:St} {μ:AI} {O:Nat->Prop} {w:World} {a:Act}
def wH {o op t t' x y k k' m n out e} (hM:ρ B R st μ O w) (ho:o.op=.binOp op t x y t') (hx:a.eval x=.int k m) (hy:a.eval y=.int k' n) (J:inR k m=true) (hn:inR k' n=true)
 (h:Rj st op k m k' n=some out) (d:out.run=some e):dε P o a w (BL B R st e μ O w):=by
  have fin:∀c v,(binOp op t (.int k m) (.int k' n)).run P w=.ok v w->AQ w O μ c v->dε P o a w (BL B R st (.c st c) μ O w):=λc v X g=>by
   refine Ju hM ?_ g;have hg:(eqGuard op t x y (.int k m) (.int k' n)).run P w=.ok () w:=by cases op<;>simp[eqGuard]
   simp only[execOp,ho,hx,hy,Sem.run_bind,hg,Result.andThen_ok,X,Sem.run_pure]
  have E:∀ {k:IntKind} {n:Int},k.signed=false->inR k n=true->0<=n:=λ{k n} I X=>by
   rw[tε] at X;have:k.min=0:=by cases k<;>simp_all[IntKind.signed,IntKind.min]
   omega
  unfold Rj at h;split at h
  .split at h
   .cases h;simp only[υ.run] at d;split at d
    .rename_i g;cases d;have h0:= of_decide_eq_true g;exact fin _ _ (by simp only[binOp,Op.shift];rw[if_neg (by omega)];rfl) ⟨rfl,EV _ _⟩
    .cases d
   .rename_i I;cases h;cases d;have h0:=E I hn;exact fin _ _ (by simp only[binOp,Op.shift];rw[if_neg (by omega)];rfl) ⟨rfl,EV _ _⟩
  .split at h
   .cases h;simp only[υ.run] at d;split at d
    .rename_i g;cases d;have h0:= of_decide_eq_true g;exact fin _ _ (by simp only[binOp,Op.shift];rw[if_neg (by omega)];rfl) ⟨rfl,mZ _ J⟩
    .cases d
   .rename_i I;cases h;cases d;have h0:=E I hn;exact fin _ _ (by simp only[binOp,Op.shift];rw[if_neg (by omega)];rfl) ⟨rfl,mZ _ J⟩
  .rename_i a1 a6;split at h
   .cases h
   rename_i Y;have Y:=J6 Y;subst Y;split at h
   .cases h;cases d;exact fin _ _ (by simp only[binOp,Op.intArith];simp;rfl) ⟨rfl,EV _ _⟩
   .cases h;cases d;exact fin _ _ (by simp only[binOp,Op.intArith];simp;rfl) ⟨rfl,EV _ _⟩
   .cases h;cases d;exact fin _ _ (by simp only[binOp,Op.intArith];simp;rfl) ⟨rfl,EV _ _⟩
   .cases h;simp only[υ.run] at d;split at d
    .rename_i g;cases d;have h0:n≠0:=by intro Z;subst Z;simp[Nv,eqI] at g
     exact fin _ _ (by simp only[binOp,Op.intDiv];simp[h0];rfl) ⟨rfl,EV _ _⟩
    .cases d
   .cases h;simp only[υ.run] at d;split at d
    .rename_i g;cases d;have h0:n≠0:=by intro Z;subst Z;simp[Nv,eqI] at g
     exact fin _ _ (by simp only[binOp,Op.intDiv];simp[h0];rfl) ⟨rfl,Ac3 J⟩
    .cases d
   all_goals (cases h;try (cases d))
   .exact fin _ _ (by simp only[binOp,Op.intBits];simp;rfl) ⟨rfl,EV _ _⟩
   .exact fin _ _ (by simp only[binOp,Op.intBits];simp;rfl) ⟨rfl,EV _ _⟩
   .exact fin _ _ (by simp only[binOp,Op.intBits];simp;rfl) ⟨rfl,EV _ _⟩
   .exact fin _ _ (by simp only[binOp];rw[if_neg (by simp)];rfl) ⟨rfl,EV _ _⟩
   .exact fin _ _ (by simp only[binOp,Op.intCmp];simp;rfl) rfl
   .exact fin _ _ (by simp only[binOp,Op.intCmp];simp;rfl) (by simp only[AQ,Nv,eqI,bne])
   .exact fin _ _ (by simp only[binOp,Op.intCmp];simp;rfl) rfl
   .exact fin _ _ (by simp only[binOp,Op.intCmp];simp;rfl) rfl
   .exact fin _ _ (by simp only[binOp,Op.intCmp];simp;rfl) rfl
   .exact fin _ _ (by simp only[binOp,Op.intCmp];simp;rfl) rfl
def Zk {t x y r} (h:UU P t x y=some r):∃c I,x=some c/\y=some I/\El P t=some false/\∀w O μ d u v,AQ w O μ c u->AQ w O μ I v->(Op.equalIn (d+1) t u v).run P w=.ok r w:=by
 unfold UU at h;split at h
 .rename_i J k a k' b g;split at h
  .rename_i X;cases h;have:=J6 X;subst this;refine ⟨_,_,rfl,rfl,by simp[El,g],λw O μ d u v h1 E=>?_⟩;rw[h1.1,E.1];exact run_equalIn_int w d t k J a b g
  .cases h
 .rename_i a b g;cases h;refine ⟨_,_,rfl,rfl,by simp[El,g],λw O μ d u v h1 E=>?_⟩;have:= h1;subst this;have:= E;subst this;exact run_equalIn_bool' w d t a b g
 .cases h
def LS {t cs off v} (hg:El P t=some false) (c:cs[off]?=some v):(part t cs off).run P w=.ok v w:=by simp[part,Vp hg w,c]
def Vb {xs ys} {a b} (ha:π (AQ w O μ) a xs.toList) (hb:π (AQ w O μ) b ys.toList) d:∀ {fs} {r},OC P a b fs=some r->(Op.eqFields (d+1) xs ys fs).run P w=.ok r w
 |[],r,h=>by simp[OC] at h;subst h;rfl
 |f::fs,r,h=>by
  simp only[OC] at h;split at h
  .rename_i i x y hn hi hc hr;cases h;obtain⟨c,c',e1,e2,hg,hrun⟩:=Zk hc;obtain⟨u,hu,ru⟩:=ha.get e1;obtain⟨v,hv,rv⟩:=hb.get e2;have hne:f.name≠ "_":=by simp_all
   simp only[Op.eqFields,if_pos hne,Sem.run_bind,LS hg (by simpa using hu),LS hg (by simpa using hv),Result.andThen_ok,hrun w O μ d u v ru rv];cases x
   .rfl
   .simpa[C5] using Vb ha hb d hr
  .cases h
def Xb {e i xs ys} (hi:P.info? e=some i) {a b} (t:π (AQ w O μ) a xs.toList) (E:π (AQ w O μ) b ys.toList) d:∀ {is} {r},NC P e a b is=some r->(Op.eqItems (d+1) e 1 xs ys is).run P w=.ok r w
 |[],r,h=>by simp[NC] at h;subst h;rfl
 |j::is,r,h=>by
  simp only[NC] at h;split at h
  .rename_i x y I J;cases h;obtain⟨c,c',X,Y,hg,g⟩:=Zk I;obtain⟨u,Z,ru⟩:=t.get X;obtain⟨v,hv,rv⟩:=E.get Y;simp only[Op.eqItems,Qch,Sem.run_bind,LS hg (by simpa using Z),LS hg (by simpa using hv),Result.andThen_ok,g w O μ d u v ru rv];cases x
   .rfl
   .simpa[C5] using Xb hi t E d J
  .cases h
def ZA {t xs ys r} {a b} (h:Vc P t a b=some r) (d:π (AQ w O μ) a xs.toList) (g:π (AQ w O μ) b ys.toList) :
 P.eqGuardType P.depth t=false/\(Op.equalIn 10000 t (.agg xs) (.agg ys)).run P w=.ok r w:=by
 unfold Vc at h;split at h
 .cases h
 rename_i hg;refine ⟨hg,?_⟩;split at h
 .rename_i y c;split at h
  .cases h
  rename_i E;have I:P.fieldsOf t=y:=by simp[Program.fieldsOf,c]
  rw[run_equalIn_struct w 9999 t xs ys (by simp_all) E,I];exact Vb d g 9998 h
 .rename_i n e c;split at h
  .rename_i i hi;split at h
   .rename_i J;have X:P.cellsOf e=1:=by simp[Program.cellsOf,hi,beq_true J]
    rw[run_equalIn_array w 9999 xs ys c hi,X];exact Xb hi d g 9998 h
   .cases h
  .cases h
 .cases h
def cJ:∀ {t} {x y},t.eε=false->(eqT t x y=true↔x=y)
 |.int _,x,y,_=>⟨@of_decide_eq_true _ (Int.instDecidableEq x y),@decide_eq_true _ (Int.instDecidableEq x y)⟩
 |.bool,x,y,_=>by cases x<;>cases y<;>first|exact ⟨λ_=>rfl,λ_=>rfl⟩|exact Iff.intro (λh=>by cases h) λh=>by cases h
 |.unit,_,_,_=>⟨λ_=>rfl,λ_=>rfl⟩
 |.pair a b,x,y,h=>by simp only[Ty.eε,Qbv] at h;simp only[eqT,Qab,cJ h.1,cJ h.2];exact ⟨λh=>Prod.ext h.1 h.2,λh=>by simp_all⟩
 |.slice _,_,_,h=>by cases h
def HZ (t:Ty):List (t.δ×Bool)->t.δ->Nat->Option (Nat×Bool)
 |[],_,_=>none
 |e::r,k,i=>if eqT t k e.1=true then some (i,e.2) else HZ t r k (i+1)
def ZU {t e r k i}:HZ t (e::r) k i=if eqT t k e.1=true then some (i,e.2) else HZ t r k (i+1):=rfl
def fB {t}:∀ {l} {k} {i},KY t l k=((HZ t l k i).map (·.2)).getD false
 |[],k,i=>rfl
 |e::r,k,i=>by
  unfold KY HZ;split
  .rfl
  .exact fB
def n9 {t}:∀ {l} {k} {i j} {b},HZ t l k i=some (j,b)->i<=j
 |[],k,i,j,b,h=>by cases h
 |e::r,k,i,j,b,h=>by
  unfold HZ at h;split at h
  .simp_all
  .exact Nat.le_of_succ_le (n9 h)
def fD {t x v g} (y:∃us,Reads w O t x us/\g=valOf t us):∀ {l} {es} {i j} {b},π (NW w O t) l es->HZ t l x i=some (j,b) ->
 ∃m,es[j-i]?=some m/\(t.eε=false->NW w O t (x,b) m)/\π (NW w O t) (Jw t l x v) (es.set (j-i) {m with key:=g,val:=.bool v})
 |[],es,i,j,b,_,h=>by cases h
 |e::r,es,i,j,b,I,h=>by
  cases I with
  |cons h1 E =>
   rename_i m es;unfold HZ at h;unfold Jw;split at h
   .rename_i c;cases h;rw[if_pos c,Nat.sub_self];obtain⟨us,J,d⟩:=y;exact ⟨m,rfl,λX=>by have:=(cJ X).1 c<;>simp_all,.cons ⟨us,J,d,rfl⟩ E⟩
   .rename_i c;rw[if_neg c];have Y:=n9 h;obtain⟨Z,g1,g2,g3⟩:=fD y E h;have e1:j-i=j-(i+1)+1:=by omega
    rw[e1];exact ⟨Z,g1,g2,.cons h1 g3⟩
def fC {t x v y} (E:∃us,Reads w O t x us/\y=valOf t us) c:∀ {l} {es} {i},π (NW w O t) l es->HZ t l x i=none ->
 π (NW w O t) (Jw t l x v) (es++[{key:=y,val:=.bool v,born:=c}])
 |[],es,i,d,_=>by cases d;obtain⟨us,I,g⟩:=E;exact .cons ⟨us,I,g,rfl⟩ .nil
 |e::r,es,i,d,h=>by
  cases d with
  |cons h1 J =>
   unfold HZ at h;unfold Jw;split at h
   .cases h
   .rename_i X;rw[if_neg X];exact .cons h1 (fC E c J h)
def MF {t T} (h:Q3 P t=some T):∃c d,P.underlying t=some (.map c d)/\jP P d=true/\T.eε=false /\
 ((∃k,T=.int k/\P.underlying c=some (.int k))\/∃k e inf,T=.pair (.int k) (.int k)/\P.underlying c=some (.array 2 e)/\P.underlying e=some (.int k)/\P.info? e=some inf/\inf.size=1/\P.eqGuardType P.depth c=false):=by
 unfold Q3 at h;split at h
 .rename_i c d I;split at h
  .rename_i k y E;cases h;exact ⟨c,d,I,y,rfl,.inl ⟨k,rfl,E⟩⟩
  .rename_i n e y E;split at h
   .rename_i k inf J hi;split at h
    .rename_i g;cases h;simp only[Qab,Qal] at g;have X:=beq_true g.1;subst X;exact ⟨c,d,I,y,rfl,.inr ⟨k,e,inf,rfl,E,J,hi,beq_true g.2.1,g.2.2⟩⟩
    .cases h
   .cases h
  .cases h
 .cases h
def tA {k} {x y:(Ty.int k).δ}:Instr.sameNow (.int k) (.int k x) (.int k y)=some (eqT (.int k) x y):=by unfold Instr.sameNow;exact if_pos rfl
def Xe {k} {x:(Ty.int k).δ}:∀ {l} {es} {i},π (NW w O (.int k)) l es ->
 Instr.findNow (.int k) (.int k x) es i=some ((HZ (.int k) l x i).map λp=>(p.1,.bool p.2))
 |[],es,i,d=>by cases d;rfl
 |a::r,es,i,d=>by
  cases d with
  |cons h1 h =>
   rename_i m es;obtain⟨us,⟨rfl,_⟩,g,h4⟩:=h1;have g:m.key=.int k a.1:=g;unfold Instr.findNow;rw[g,tA,ZU];cases c:eqT (.int k) x a.1 with
   |true=>simp[h4]
   |false=>simp only[Qcz,if_false];exact Xe h
def uK {g T x v} (eqv:∀y u,(∃us,Reads w O T y us/\u=valOf T us)->(Op.equal g v u).run P w=.ok (eqT T x y) w):∀ {l} {es} {i},π (NW w O T) l es ->
 (Instr.findAsking g v es i).run P w=.ok ((HZ T l x i).map λp=>(p.1,.bool p.2)) w
 |[],es,i,d=>by cases d;rfl
 |a::r,es,i,d=>by
  cases d with
  |cons h1 h =>
   rename_i m es;obtain⟨us,t,E,h4⟩:=h1;unfold Instr.findAsking;rw[ZU];simp only[Sem.run_bind,eqv a.1 m.key ⟨us,t,E⟩,Result.andThen_ok];cases c:eqT T x a.1 with
   |true=>simp[h4]
   |false=>simp only[Qcz,if_false];exact uK eqv h
def Rw {t:TypeId} {T:Ty} {g vt:TypeId} (hu:P.underlying t=some (.map g vt)) (hT:Q3 P t=some T) {x:T.δ} {us:List Value} (Z:Reads w O T x us) {l:List (T.δ×Bool)} {es:List MapEntry} (ha:π (NW w O T) l es) :
 (Instr.findKey g (valOf T us) es).run P w=.ok ((HZ T l x 0).map λp=>(p.1,.bool p.2)) w:=by
 obtain⟨a1,a6,d,_,_,c⟩:=MF hT;rw[hu] at d;cases d;rcases c with ⟨k,rfl,c⟩|⟨k,e,inf,rfl,c,he,hi,h,hg⟩
 .obtain⟨rfl,_⟩:=Z;simp only[Instr.findKey,Sem.run_bind,run_underlying c,Result.andThen_ok];rw[show valOf (.int k) [Value.int k x]=.int k x from rfl,Xe ha];rfl
 .obtain⟨v1,v2,rfl,⟨rfl,E⟩,⟨rfl,I⟩⟩:=Z;have eqv:∀(y:(Ty.pair (.int k) (.int k)).δ) (v:Value),(∃us,Reads w O (.pair (.int k) (.int k)) y us/\v=valOf (.pair (.int k) (.int k)) us)->(Op.equal g (.agg #[.int k x.1,.int k x.2]) v).run P w=.ok (eqT (.pair (.int k) (.int k)) x y) w:=λy v hv=>by
   obtain⟨us,⟨u1,u2,rfl,⟨rfl,J⟩,⟨rfl,X⟩⟩,rfl⟩:=hv;have hf:Vc P g [.int k x.1,.int k x.2] [.int k y.1,.int k y.2]=some (eqT (.pair (.int k) (.int k)) x y):=by
    unfold Vc;rw[hg,c];simp only[hi,h];have Y:MC k k=true:=by cases k<;>rfl
    simp only[Qdf,List.range_zero,Qaz,Qec,NC,Qbi,Qbj,UU,he,Y];show some (@BEq.beq Int instBEqOfDecidableEq x.1 y.1&&(@BEq.beq Int instBEqOfDecidableEq x.2 y.2&&true)) = _;rw[Bool.and_true];rfl
   exact (ZA (w:=w) (O:=O) (μ:=λ_=>none) hf (xs:=#[.int k x.1,.int k x.2]) (ys:=#[.int k y.1,.int k y.2]) (.cons ⟨rfl,E⟩ (.cons ⟨rfl,I⟩ .nil)) (.cons ⟨rfl,J⟩ (.cons ⟨rfl,X⟩ .nil))).2
  rw[show valOf (.pair (.int k) (.int k)) ([Value.int k x.1]++[Value.int k x.2])=.agg #[.int k x.1,.int k x.2] from rfl];simp only[Instr.findKey,Sem.run_bind,run_underlying c,Result.andThen_ok];cases ha with
  |nil=>rfl
  |cons h1 h2 =>
   rename_i a m l es;have:Instr.findNow (.array 2 e) (.agg #[.int k x.1,.int k x.2]) (m::es) 0=none:=by
    unfold Instr.findNow;have:Instr.sameNow (.array 2 e) (.agg #[.int k x.1,.int k x.2]) m.key=none:=by unfold Instr.sameNow;rfl
    rw[this]
   rw[this];exact uK eqv (.cons h1 h2)
def Aaz {t} (h:jP P t=true) w:(zeroValue t).run P w=.ok (.bool false) w:=by
 unfold jP at h;split at h
 .rename_i i _ hi;split at h
  .rename_i c;simp[zeroValue,typeInfo,hi,c]
  .cases h
 .cases h
def UW {c k} (d:P.underlying c=some (.int k)) b m n:(Instr.checkKey b (m+1) c (.int k n)).run P w=.ok () w:=by simp[Instr.checkKey,run_underlying d]
def lR {g e k inf} (E:P.underlying g=some (.array 2 e)) (h:P.underlying e=some (.int k)) (hi:P.info? e=some inf) (c:inf.size=1) b m x y :
 (Instr.checkKey b (m+2) g (.agg #[.int k x,.int k y])).run P w=.ok () w:=by
 have d:El P e=some false:=by unfold El;rw[h]
 have I:(sizeOf e).run P w=.ok 1 w:=by simp[sizeOf,typeInfo,hi,c]
 have t:∀i v,(#[Value.int k x,Value.int k y]:Array Value)[i]?=some v->(part e #[Value.int k x,Value.int k y] (i*1)).run P w=.ok v w:=λi v J=>LS d (by simp_all);unfold Instr.checkKey;simp only[Sem.run_bind,run_underlying E,Result.andThen_ok];simp only[Std.Legacy.Range.forIn_eq_forIn_range',Std.Legacy.Range.size,Qeu,Nat.add_sub_cancel,Nat.div_one,Qge,List.range'_zero,List.forIn_cons,List.forIn_nil];simp only[Sem.run_bind,I,Result.andThen_ok,t 0 (.int k x) rfl,t 1 (.int k y) rfl,UW h,Qbm,Sem.run_pure]
def P3 {t T h E x us} (I:P.underlying t=some (.map h E)) (J:Q3 P t=some T) (y:Reads w O T x us) b :
 (Instr.checkKey b 10000 h (valOf T us)).run P w=.ok () w:=by
 obtain⟨X,Y,c,_,_,d⟩:=MF J;rw[I] at c;cases c;rcases d with ⟨k,rfl,d⟩|⟨k,e,inf,rfl,d,Z,hi,g,hg⟩
 .obtain⟨rfl,_⟩:=y;exact UW d b 9999 _
 .obtain⟨v1,v2,rfl,⟨rfl,a1⟩,⟨rfl,a6⟩⟩:=y;exact lR d Z hi g b 9998 _ _
def AdB m k n:Instr.sameBits (m+1) (.int k n) (.int k n)=true:=by simp[Instr.sameBits]
def AdC m k x y:Instr.sameBits (m+2) (.agg #[.int k x,.int k y]) (.agg #[.int k x,.int k y])=true:=by simp[Instr.sameBits]
def Ab2 {T t x us c} (d:Q3 P t=some T) (h:Reads w O T x us) (h':Reads w O T x c):(Instr.keyThatStays (valOf T c) (valOf T us)).run P w=.ok (valOf T us) w:=by
 obtain⟨_,_,_,_,_,g⟩:=MF d;have e:c=us/\Instr.sameBits 10000 (valOf T us) (valOf T us)=true:=by
  rcases g with ⟨k,rfl,_⟩|⟨k,_,_,rfl,_⟩
  .obtain⟨rfl,_⟩:=h;obtain⟨rfl,_⟩:=h';exact ⟨rfl,AdB 9999 k x⟩
  .obtain⟨_,_,rfl,⟨rfl,_⟩,⟨rfl,_⟩⟩:=h;obtain⟨_,_,rfl,⟨rfl,_⟩,⟨rfl,_⟩⟩:=h';exact ⟨rfl,AdC 9998 k x.1 x.2⟩
 rw[e.1];simp[Instr.keyThatStays,e.2]
def lH {n} w b o (h:n<=b):Below n w (w.rε b o) :=
 ⟨rfl,rfl,rfl,by simp[World.rε],λk c=>by simp only[World.rε]<;>grind⟩
def bS {o t out e} (y:ρ B R st μ O w) (E:¬B.D st.next) (I:o.op=.makeMap t none) (h:IC P st t=some out) (J:out.run=some e):dε P o a w (BL B R st e μ O w):=by
 unfold IC at h;split at h
 .rename_i T Y;cases h;cases J;refine .inl ⟨.map (some w.heap.size),w.alloc (.map #[] 0),by simp[execOp,I,Instr.makeMap],?_⟩;obtain⟨μ',O',c,d⟩:=y.alloc E (.map #[] 0) (.box w.heap.size) (.map T []) (.inr rfl)
   (λO' μ' Z X d=>⟨w.heap.size,#[],0,d,heap_alloc_new w _,.nil⟩) st.env;exact BR (ν.refl _ _) (λx u g=>Cn g y.heap) c λx g=>by cases g;exact ⟨_,d,rfl⟩
 .cases h
def mapKey {T g x v} (t:ρ B R st μ O w) (d:I9 T g=true) (y:GM (st.obj R) T g=some (x,[])) (h:Cl w O μ g v):∃us,Reads w O T x us/\v=valOf T us:=by
 refine ⟨_,KF (ν.refl w O) t.heap y h (λk E=>by cases E),?_⟩;cases g with
 |c c =>
  have d:T.isAgg=false:=by simpa[I9] using d
  rw[Pg c h];simp[valOf,d]
 |a cs =>
  have d:T.isAgg=true:=by simpa[I9] using d
  obtain⟨vs,rfl,I⟩:=h;simp[valOf,d,Value.cells]
def gL {o t x i v out e} (I:ρ B R st μ O w) (Y:CN R st μ O w a.tmps) (ho:o.op=.lookup t x i false) (hv:op1 R st i=some v) (h:Jk P R st t (Ω R st x) v=some out) (he:out.run=some e) :
 dε P o a w (BL B R st e μ O w):=by
 unfold Jk at h;split at h
 .rename_i T k J hm;obtain⟨b,hb,ev⟩:AQ w O μ (.mref k) (a.eval x):=AT Y hm;split at h
  .rename_i T' l hk;split at h
   .rename_i hq y a1 hf hd;cases h;cases he;have:=hq.down;subst this;obtain⟨us,Z,X⟩:=mapKey I hf hd (NM Y hv);obtain⟨b',es,c,g,hc,ha⟩:=I.heap k _ hk;rw[hb] at g;cases g;obtain⟨kt,vt,d,hz,_,_⟩:=MF J;have E:(Instr.lookup t (a.eval x) (a.eval i) false).run P w=.ok (.bool (KY T l y)) w:=by
     have hg:(getObj b).run P w=.ok (.map es c) w:=by simp[getObj,Sem.run,hc]
     rw[ev,X];simp only[Instr.lookup,Sem.run_bind,run_underlying d,Result.andThen_ok,hg,Sem.run_pure,P3 d J Z,Rw d J Z ha];rw[fB ];cases a6:HZ T l y 0 with
     |none=>simp[Aaz hz]
     |some p=>simp
    exact AX I (x:=.v (.c (.bool (KY T l y)))) (by simp[execOp,ho,E]) rfl [k]
   .cases h
  .cases h
 .cases h
def gO {o t m k0 v0 v b0 out e} (X:ρ B R st μ O w) (hE:CN R st μ O w a.tmps) (ho:o.op=.mapUpdate t m k0 v0) (hv:op1 R st k0=some v) (a8:Ω R st v0=some (.bool b0))
 (h:Jl P R st t (Ω R st m) v b0=some out) (he:out.run=some e):dε P o a w (BL B R st e μ O w):=by
 unfold Jl at h;split at h
 .rename_i T k Y hm;obtain⟨b,hb,ev⟩:AQ w O μ (.mref k) (a.eval m):=AT hE hm;split at h
  .rename_i T' l Z;have Z:st.obj R k=some (.map T' l):=by simp[St.obj,Z]
   split at h
   .rename_i hq y ai hf hd;cases h;cases he;have:=hq.down;subst this;obtain⟨us,I,aa⟩:=mapKey X hf hd (NM hE hv);obtain⟨b',es,c,a1,hc,ha⟩:=X.heap k _ Z;rw[hb] at a1;cases a1;obtain⟨kt,vt,d,hz,ab,_⟩:=MF Y;have hg:(getObj b).run P w=.ok (.map es c) w:=by simp[getObj,Sem.run,hc]
    have hs:∀o,(setObj b o).run P w=.ok () (w.rε b o):=λo=>by simp[setObj,Sem.run,hc,World.rε]
    obtain⟨g,c',a6,ad⟩:∃g c',(Instr.mapUpdate t (a.eval m) (a.eval k0) (a.eval v0)).run P w=.ok () (w.rε b (.map g c'))/\π (NW w O T) (Jw T l y b0) g.toList:=by
     rw[ev,aa,AT hE a8];cases E:HZ T l y 0 with
     |none =>
      refine ⟨es.push {key:=valOf T us,val:=.bool b0,born:=c},c+1,?_,?_⟩
      .simp only[Instr.mapUpdate,Sem.run_bind,run_underlying d,Result.andThen_ok,hg,P3 d Y I,Rw d Y I ha,E,Qce,hs]
      .rw[Array.toList_push];exact fC ⟨us,I,rfl⟩ c ha E
     |some p =>
      obtain⟨j,bb⟩:=p;obtain⟨me,g1,g2,g3⟩:=fD ⟨us,I,rfl⟩ ha E;rw[Qeu] at g1 g3;obtain⟨ae,af,ag,_⟩:=g2 ab;have a7:(es.modify j λe=>{e with key:=valOf T us,val:=.bool b0}).toList=es.toList.set j {me with key:=valOf T us,val:=.bool b0}:=by apply Qdq;intro n;rw[Qav,Array.getElem?_modify,List.getElem?_set]<;>grind
      refine ⟨_,c,?_,by rw[a7];exact g3⟩;have ah:(es[j]?.map (·.key)).getD (valOf T us)=valOf T ae:=by rw[Qav] at g1;rw[g1];exact ag
      simp only[Instr.mapUpdate,Sem.run_bind,run_underlying d,Result.andThen_ok,hg,P3 d Y I,Rw d Y I ha,E,Qai,ah,Ab2 Y I af,hs]
    refine .inr (.inl ⟨w.rε b (.map g c'),by simp[execOp,ho,a6],?_⟩);refine BR (ν.refl _ _) (λx u hx=>Cn hx X.heap) (μ':=μ) (O':=O) ?_ (λx hx=>by cases hx);refine X.write Z hb rfl (.map T (Jw T l y b0)) (by simp[World.rε]) λc hc=>by simp only[World.rε];rw[Qbt λe=>hc e.symm] (lH w b _ (X.own k _ Z _ b hb rfl).2.1.1) (λJ=>?_) st.env;exact ⟨b,g,c',hb,by simp[World.rε,(X.own k _ Z _ b hb rfl).2.2],ad.mono λe m ⟨us,r,r'⟩=>⟨us,Av J T r,r'⟩⟩
   .cases h
  .cases h
 .cases h
def Td (t:CN R st μ O w a.tmps):∀ {parts} {n} {l} {vs},Δ R st n parts=some l->n+parts.length<=vs.size ->
 ∃c news,Instr.fill (λi=>some (i*1,1)) vs (parts.map λx=>(x.1,a.eval x.2))=some c/\l.length=parts.length/\c.toList=vs.toList.take n++news++vs.toList.drop (n+parts.length)/\π (Nj w O μ) l news
 |[],n,l,vs,h,E=>by simp[Δ] at h;subst h;exact ⟨vs,[],rfl,rfl,by simp,.nil⟩
 |(i,x)::r,n,l,vs,h,E=>by
  simp only[Qay] at E;have key:∀f l',Nat.beq i n=true->Nj w O μ f (a.eval x)->Δ R st (n+1) r=some l'->l=f::l' ->
   ∃c news,Instr.fill (λi=>some (i*1,1)) vs (((i,x)::r).map λx=>(x.1,a.eval x.2))=some c/\l.length=((i,x)::r).length/\c.toList=vs.toList.take n++news++vs.toList.drop (n+((i,x)::r).length)/\π (Nj w O μ) l news:=λf l' hi I g J=>by
   have hi:=beq_true hi;subst hi;subst J
   have d:(a.eval x).cells=#[a.eval x]:=by obtain⟨f,b,cs⟩:=f;cases b<;>(obtain⟨vs,e,_⟩:=I;rw[e];rfl)
   obtain⟨c,news,e1,X,e3,Y⟩:=Td t (vs:=vs.setIfInBounds i (a.eval x)) g (by grind)
   refine ⟨c,a.eval x::news,?_,by simp[X],?_,.cons I Y⟩
   .simp only[Qcu,Instr.fill,d]<;>grind
   .rw[e3,Qem,Qay];have h1:(vs.toList.set i (a.eval x)).take (i+1)=vs.toList.take i++[a.eval x]:=by rw[Qci,List.take_set_of_le (χ _)]<;>grind
    have Z:(vs.toList.set i (a.eval x)).drop (i+1+r.length)=vs.toList.drop (i+1+r.length):=by rw[List.drop_set_of_lt (by omega)]
    rw[h1,Z,show i+(r.length+1)=i+1+r.length by omega];simp
  simp only[Δ] at h;split at h
  .rename_i f cs l' hi y g;cases h;exact key (f,false,cs) l' hi (Bv t y) g rfl
  .rename_i f cs l' hi y g;cases h;exact key (f,true,cs) l' hi (Bv t y) g rfl
  .cases h
def YZ {o t n ps out e} (J:ρ B R st μ O w) (hE:CN R st μ O w a.tmps) (ho:o.op=.buildSlice t n ps) (h:FH P R st t n ps.toList=some out) (he:out.run=some e) :
 dε P o a w (BL B R st e μ O w):=by
 unfold FH at h;split at h
 .rename_i el hu;split at h
  .rename_i inf l hi hl;split at h
   .rename_i hc;cases h;cases he;simp only[Qab] at hc;obtain⟨c1,c2,c3,c4⟩:=hc;have c2:=beq_true c2;have c3:=Qbe c3;obtain⟨z,hz⟩:=Option.isSome_iff_exists.1 c4;let zero:= if n*1=0 then #[] else z.cells
    let d:= (Array.range (n*1)).map (zero[·%zero.size]!);have I:∀ {r:List (Nat×Operand)} {m:Nat} {l},Δ R st m r=some l->l.length=r.length:=by
     intro r;induction r with
     |nil=>intro m l h;simp[Δ] at h;simp_all
     |cons x r ih =>intro m l h;obtain⟨i,x⟩:=x;simp only[Δ] at h<;>grind
    have a7:=I hl;have a6:ps.size=n:=by simp_all
    obtain⟨y,news,f1,f2,f3,f4⟩:=Td hE (vs:=d) hl (by grind);have E:y.toList=news:=by rw[f3,List.take_zero,Qdl (by grind)];simp
    refine .inl ⟨.slice (some ⟨w.heap.size,0,none⟩) l.length l.length,w.alloc (.cells y el),?_,?_⟩
    .have hps:(ps.map λ(i,x)=>(i,a.eval x)).toList=ps.toList.map λx=>(x.1,a.eval x.2):=by simp
     have g:n*1=0\/n*1≠0:=by omega
     simp only[execOp,ho,Instr.buildSlice,Sem.run_bind,run_underlying hu,Result.andThen_ok,sizeOf,typeInfo,run_program,hi,Sem.run_pure,beq_true c1];rw[if_neg (by omega)];rcases g with g|g
     .have X:n=0:=by omega
      subst X;have Y:y=#[]:=Qdd (by have h1:=f4.length;rw[<-E] at h1;rw[<-Qat];omega);have he0:Array.map (λ_=>(default:Value)) (Array.range 0)=#[]:=Qdd (by simp);simp[Qad (by omega),Instr.fill,newRow,Y,c2,he0]
     .have Z:zero=z.cells:=if_neg g;have c:(Array.range (n*1)).map (zero[·%zero.size]!)=d:=rfl;rw[Z] at c;simp only[Qch] at c f1 g;simp[g,zeroValue,typeInfo,hi,hz];rw[c,f1];simp[newRow,c2]
    .obtain⟨a1,hK⟩:=J.grow ((Below.refl _ w).alloc (χ _) (.cells y el));refine ⟨μ,O,⟨μle.refl _,hK,a1.congr (λk o h=>h) (χ _),λ_ _ h=>.inl h⟩,λx u hx=>D3 hK (μle.refl _) _ (Cn hx J.heap),λx hx=>?_⟩;cases hx;refine ⟨w.heap.size,y.toList,rfl,λhO=>Qcm _ (J.obound _ hO),by simp,JK (heap_alloc_new w _),?_⟩;rw[E];exact f4.mono λx _=>Ph hK (μle.refl _) x
   .cases h
  .cases h
 .cases h
def Tg {n e}:∀ {l} {j},Ia (Sr st n j l)=some e->∃i f,l[i]?=some f/\n=((j+i:Nat):Int)/\e=Eff.val st (.fnp f)
 |[],j,h=>by cases h
 |f::r,j,h=>by
  simp only[Sr,Ia] at h;split at h
  .rename_i c;cases h;have:n=((j:Nat):Int):=by simpa[eqI] using c
   exact ⟨0,f,rfl,by simpa using this,rfl⟩
  .obtain⟨i,g,h1,d,t⟩:=Tg h;exact ⟨i+1,g,by simpa using h1,by rw[d];congr 1;omega,t⟩
def Y5 {o t x y k n l out e} (I:ρ B R st μ O w) (J:CN R st μ O w a.tmps) (X:o.op=.indexAddr t x y) (Y:a.eval y=.int k n) (Z:opv R st x=some (.fns l))
 (h:Hm P st t l n=some out) (he:out.run=some e):dε P o a w (BL B R st e μ O w):=by
  obtain⟨b,us,ev,hO,hb,hr,ha⟩:BW w O μ (.fns l) (a.eval x):=Bv J Z;unfold Hm at h;split at h
  .rename_i el hu;split at h
   .rename_i inf hi;split at h
    .rename_i hs;cases h;obtain⟨i,f,g,E,rfl⟩:=Tg he;obtain⟨u,c,d⟩:=ha.get g;have E:n=(i:Int):=by omega
     refine AX I (x:=.fnp f) ?_ ⟨b,i,u,rfl,hO,hb,?_,d⟩ []
     .simp[execOp,X,ev,Y,Instr.indexAt,asIntOf,run_underlying hu,E,(List.getElem?_eq_some_iff.1 g).1,sizeOf,typeInfo,hi,beq_true hs,Addr.add_mid]
     .have:=hr i u c<;>simp_all
    .cases h
   .cases h
  .cases h
def Aco {t n} (h:Aab P t=some n) w:∃z,(zeroValue t).run P w=.ok z w/\z.cells.size=n:=by
 unfold Aab at h;split at h
 .rename_i i hi;split at h
  .rename_i v c;cases h;exact ⟨v,by simp[zeroValue,typeInfo,hi,c],rfl⟩
  .cases h
 .cases h
def YX {o t ps out e} (J:ρ B R st μ O w) (E:CN R st μ O w a.tmps) (X:o.op=.build t ps) (h:Gm P R st t ps.toList=some out) (Y:out.run=some e) :
 dε P o a w (BL B R st e μ O w):=by
 unfold Gm at h;split at h
 .rename_i n el Z;split at h
  .rename_i inf l z hi I hz;split at h
   .rename_i d;cases h;cases Y;simp only[Qab] at d;have c2:=beq_true d.2.1;have c3:=beq_true d.2.2;obtain⟨zv,g,a1⟩:=Aco hz w;have a6:l.length=ps.toList.length:=by obtain⟨_,_,_,h2,_⟩:=Td E (vs:=Array.replicate ps.toList.length undef) I (by simp)<;>omega
    obtain⟨c,news,f1,f2,f3,f4⟩:=Td E (vs:=zv.cells) I (by omega);have y:c.toList=news:=by simp_all
    refine AX J (x:=.fna l) ?_ ⟨c,rfl,by simp_all⟩ [];simp only[execOp,X,Instr.build,Sem.run_bind,g,Result.andThen_ok,run_underlying Z,sizeOf,typeInfo,run_program,hi,Sem.run_pure,beq_true d.1]<;>simp_all
   .cases h
  .cases h
 .cases h
def Ry {n e}:∀ {l} {j},Ia (PB st n j l)=some e->∃i f,l[i]?=some f/\n=((j+i:Nat):Int)/\e=Eff.val st (match f.2.1 with|true=>.bfn f.1 f.2.2|false=>.fn f.1 f.2.2)
 |[],j,h=>by cases h
 |f::r,j,h=>by
  simp only[PB,Ia] at h;split at h
  .rename_i c;cases h;have:n=((j:Nat):Int):=by simpa[eqI] using c
   exact ⟨0,f,rfl,by simpa using this,rfl⟩
  .obtain⟨i,g,h1,d,t⟩:=Ry h;exact ⟨i+1,g,by simpa using h1,by rw[d];congr 1;omega,t⟩
def Y3 {o t x y k n l out e} (J:ρ B R st μ O w) (Z:CN R st μ O w a.tmps) (ho:o.op=.index t x y) (hy:a.eval y=.int k n) (hx:opv R st x=some (.fna l))
 (h:Hl P st t l n=some out) (he:out.run=some e):dε P o a w (BL B R st e μ O w):=by
  obtain⟨us,ev,ha⟩:BW w O μ (.fna l) (a.eval x):=Bv Z hx;unfold Hl at h;split at h
  .rename_i m el hu;split at h
   .rename_i inf hi hg;split at h
    .rename_i I;cases h;simp only[Qab] at I;have c2:=beq_true I.2;obtain⟨i,f,X,Y,rfl⟩:=Ry he;obtain⟨u,a1,d⟩:=ha.get X;have a6:= (List.getElem?_eq_some_iff.1 X).1;have Y:n=(i:Int):=by omega
     have hp:(part el us i).run P w=.ok u w:=LS hg (by simp_all);have c:(execOp a.eval o).run P w=.ok (.value u) w:=by
      have E:i<m:=by omega
      simp[execOp,ho,ev,hy,Instr.index,asIntOf,run_underlying hu,Y,E,sizeOf,typeInfo,hi,beq_true I.1,hp]
     obtain⟨g,b,cs⟩:=f;cases b with
     |true=>exact AX J (x:=.bfn g cs) c d []
     |false=>exact AX J (x:=.fn g cs) c d []
    .cases h
   .cases h
  .cases h
def fV {s t:ByteArray}:(s.toList==t.toList)=(s.data.toList==t.data.toList):=by rw[ByteArray.toList_eq,ByteArray.toList_eq]
end
section
variable {C:Ctx} {P:Program} {B:Ξ} {R:RO} {st:St} {μ:AI} {O:Nat->Prop} {w:World} {a:Act}
def Zi g (hg:∀n s,g (.int .u8 n) s=pure (.yield (s.push (UInt8.ofNat n.toNat)))) (k:ByteArray->Sem Value):∀(l:List Int) cells s,ξ (Reads w O (.int .u8)) l cells ->
 (forIn cells s g >>= k).run P w=(k ⟨s.data++(l.map λn=>UInt8.ofNat n.toNat).toArray⟩).run P w
 |[],cells,s,h=>by have:cells=[]:=h<;>simp_all
 |n::l,cells,s,⟨y,c,e,h1,d⟩=>by obtain⟨t,_⟩:=h1;subst t;subst e;simp only[Qec,List.forIn_cons,hg,pure_bind];rw[Zi g hg k l c (s.push (UInt8.ofNat n.toNat)) d]<;>simp_all
def WU {cells v} {l:List Int} (h:Bε w v l.length 1 cells) (y:ξ (Reads w O (.int .u8)) l cells):∃s,(Conv.bytesToString v).run P w=.ok (.string s) w/\s.data.toList=bytesOf l:=by
 obtain⟨ad,cap,E,X,g⟩:=h;subst E;cases ad with
 |none =>
  rcases g with g|⟨b,off,t,_⟩
  .have:= Qad g;subst this;exact ⟨_,rfl,rfl⟩
  .cases t
 |some p =>
  have d:(loadCells p l.length).run P w=.ok cells.toArray w:=by
   rcases g with g|⟨b,off,t,c⟩
   .have I:cells=[]:=Qad (by omega);subst I;rw[g];rfl
   .cases t;have:=run_loadCells_list (P:=P) w ⟨b,off,none⟩ cells (λj u J=>by rw[Addr.add_mid];exact c j u J)<;>simp_all
  refine ⟨⟨(l.map λn=>UInt8.ofNat n.toNat).toArray⟩,?_,by simp[bytesOf]⟩;simp only[Conv.bytesToString,Sem.run_bind,d,Result.andThen_ok];rw[<-Array.forIn_toList,<-Sem.run_bind];exact (Zi _ λn s=>by simp (λs=>pure (.string s)) l cells ByteArray.empty y).trans (by simp)
def S8 {o s d e x cells} (t:ρ B R st μ O w) (y:o.op=.convert s d x) (E:P.underlying s=some (.slice e)) (I:P.underlying d=some .string) (J:P.underlying e=some (.int .u8)) {l:List Int} (h:Bε w (a.eval x) l.length 1 cells) (X:ξ (Reads w O (.int .u8)) l cells) rd :
 dε P o a w (BL B R st {dst:=some (.str (bytesOf l)),reads:=rd,next:=st.next} μ O w):=by obtain⟨str,c,Y⟩:=WU (P:=P) h X;obtain⟨ad,cap,g,_⟩:=h;refine AX t (x:=.str (bytesOf l)) ?_ ⟨str,rfl,Y⟩ rd;rw[g] at c;simp only[execOp,y,g,convert,Sem.run_bind,run_underlying E,run_underlying I,run_underlying J,Result.andThen_ok];simp[c]
def TE {g k}:∀ {vs} {us} {acc} {out},EB st g k acc vs=some out->π (Cl w O μ) vs us->inR k acc=true ->
 ∃n,out=.ok (.c st (.int k n))/\inR k n=true/\(us.foldlM (match g with|true=>Builtin.max2|false=>Builtin.min2) (.int k acc)).run P w=.ok (.int k n) w
 |[],us,acc,out,h,t,E=>by cases t;simp[EB] at h<;>simp_all
 |v::r,us,acc,out,h,t,E=>by
  cases t with
  |cons h1 I =>
   cases v with
   |a cs=>simp[EB] at h
   |c J =>
    cases J<;>simp[EB] at h;rename_i k' y;split at h
    .rename_i X;have:=J6 X;subst this;obtain⟨Y,hy⟩:=h1;obtain⟨n,e,Z,d⟩:=TE h I (by cases g<;>simp only[B8,Bb]<;>split<;>assumption);refine ⟨n,e,Z,?_⟩;subst Y;rw[List.foldlM_cons,Sem.run_bind];cases g with
     |true=>exact d
     |false=>exact d
    .cases h
def AdA {T o f e} (h:(υ.opt T o f).run=some e):∃x,o=some x/\e=f x:=by simp only[υ.run,Qdm] at h<;>grind
def Zx {t el} (c:P.underlying t=some (.pointer el)) q:(Op.equal t (.pointer (some q)) (.pointer none)).run P w=.ok false w:=by
 have key:∀d,(Op.equalIn (d+1) t (.pointer (some q)) (.pointer none)).run P w=.ok false w:=λd=>by simp[Op.equalIn,run_underlying c]
 exact key 9999
def eA {o out e} (hC:DG C B) (J:ρ B R st μ O w) (ag:∀k,st.next<=k->k<st.next+16->¬B.D k) (E:CN R st μ O w a.tmps) (h:aop C R st o=some out) (I:out.run=some e) (ab:JD R e=true) :
 dε C.P o a w (BL B R st e μ O w):=by
 have hD:= ag _ (χ _) (by omega);have mv:∀y v,(execOp a.eval o).run C.P w=.ok (.value (a.eval y)) w->opv R st y=some v->out=.ok {dst:=some v,next:=st.next}->dε C.P o a w (BL B R st e μ O w):=λy v hr hy g=>by subst g;cases I;exact .inl ⟨_,w,hr,Zw J rfl rfl rfl λz hz=>by cases hz;exact Bv E hy⟩
 unfold aop at h;simp only at h;split at h
 .rename_i x g;split at h
  .rename_i v hv;cases h;exact mv x v (by simp[execOp,g]) hv rfl
  .cases h
 .rename_i x g;split at h
  .rename_i v hv;cases h;exact mv x v (by simp[execOp,g]) hv rfl
  .cases h
 .rename_i x y z g;split at h
  .rename_i c hc;have h1:a.eval x=.bool c:=AT E hc;split at h
   .rename_i v hv;cases h;refine mv _ v ?_ hv rfl;cases c<;>simp[execOp,g,h1,asBool]
   .cases h
  .cases h
 .rename_i el g;exact YV J hD g h I
 .rename_i el x g;split at h
  .rename_i v hv;cases h;cases I;exact wI J hD E g hv
  .cases h
 .rename_i t ps g;split at h
  .rename_i l hl;exact kK J E g hl h I
  .exact YX J E g h I
 .rename_i t n ps g;split at h
  .rename_i l hl;exact WT J hD E g hl h I ab
  .exact YZ J E g h I
 .rename_i t g;exact bS J hD g h I
 .rename_i t x i g;split at h
  .rename_i v hv;exact gL J E g hv h I
  .cases h
 .rename_i t m k v g;split at h
  .rename_i x b X hb;exact gO J E g X hb h I
  .cases h
 .rename_i t x g;exact q9 J E g h I
 .rename_i t x y g;split at h
  .rename_i v hv;exact lC J E g hv h I ab
  .cases h
 .rename_i op t x y t' g;split at h
  .rename_i k m k' n X hy;have h1:= Bv E X;have h2:= Bv E hy;exact wH J g h1.1 h2.1 h1.2 h2.2 h I
  .rename_i p q X hy;have h1:a.eval x=.bool p:=Bv E X;have h2:a.eval y=.bool q:=Bv E hy;split at h
   .rename_i hu;cases h;cases I;exact Ju J (v:=.bool (p==q)) (by simp[execOp,g,h1,h2,eqGuard,binOp,run_equal_bool w t p q hu]) rfl
   .rename_i hu;cases h;cases I;exact Ju J (by simp[execOp,g,h1,h2,eqGuard,binOp,run_equal_bool w t p q hu,Nv,eqB]) rfl
   .cases h
  .rename_i cs ds X hy;obtain⟨xs,ex,ah⟩:=Bv E X;obtain⟨ys,ey,ax⟩:=Bv E hy;split at h
   .rename_i r hr;obtain⟨hg,a1⟩:=ZA hr ah ax;split at h
    .cases h;cases I;refine Ju J ?_ rfl;simp only[execOp,g,ex,ey,Sem.run_bind,run_eqGuard_agg w _ _ _ _ _ _ hg,Result.andThen_ok,run_eql_struct,a1,Sem.run_pure]
    .cases h;cases I;refine Ju J ?_ rfl;simp only[execOp,g,ex,ey,Sem.run_bind,run_eqGuard_agg w _ _ _ _ _ _ hg,Result.andThen_ok,run_neq_struct,a1,Sem.run_pure,Nv]
    .cases h
   .cases h
  .rename_i p q X hy;obtain⟨s1,e1,b1⟩:∃s,a.eval x=.string s/\s.data.toList=p:=Bv E X;obtain⟨s2,e2,b2⟩:∃s,a.eval y=.string s/\s.data.toList=q:=Bv E hy;split at h
   .cases h;cases I;refine Ju J ?_ rfl;simp[execOp,g,e1,e2,eqGuard,binOp,Op.stringOp,fV,b1,b2,eqS]
   .cases h;cases I;refine Ju J ?_ rfl;simp[execOp,g,e1,e2,eqGuard,binOp,Op.stringOp,fV,b1,b2,eqS,Nv]
   .cases h
  .rename_i k of X hy;obtain⟨b,hb,ev⟩:AQ w O μ (.ptr k of) (a.eval x):=Bv E X;have h2:a.eval y=.pointer none:=Bv E hy;split at h
   .rename_i el hu;cases h;cases I;refine Ju J ?_ rfl;simp[execOp,g,ev,h2,eqGuard,binOp,Zx hu]
   .rename_i el hu;cases h;cases I;refine Ju J ?_ rfl;simp[execOp,g,ev,h2,eqGuard,binOp,Zx hu]
   .cases h
  .cases h
 .rename_i op t x g;split at h
  .rename_i b X;cases h;cases I;have h1:a.eval x=.bool b:=AT E X;exact Ju J (v:=.bool !b) (by simp[execOp,g,h1,Op.unary]) rfl
  .rename_i k n X;cases h;cases I;exact Ju J (v:=.int k (k.wrap (0-n))) (by simp[execOp,g,(AT E X).1,Op.unary,Op.intArith]) ⟨rfl,EV _ _⟩
  .rename_i k n X;cases h;cases I;exact Ju J (v:=.int k (Vn k n)) (by simp only[execOp,g,(AT E X).1,Op.unary,Op.intBits];simp;rfl) ⟨rfl,EV _ _⟩
  .cases h
 .rename_i s d x g;split at h
  .rename_i sd k k' n hs hd X;cases h;cases I;refine Ju J (v:=.int k (k.wrap n)) ?_ ⟨rfl,EV _ _⟩;simp[execOp,g,(AT E X).1,convert,run_underlying hs,run_underlying hd,Conv.intToInt]
  .rename_i el c hs hd X;split at h
   .rename_i ai;split at h
    .cases h;cases I;obtain⟨ad,ev⟩:∃ad,a.eval x=.slice ad 0 0:=AT E X;exact S8 J g hs hd ai (l:=[]) ⟨ad,0,ev,rfl,.inl rfl⟩ rfl []
    .rename_i l;cases h;cases I;obtain⟨cells,hu,hr,_⟩:=LG J (c:=some (.sl (.int .u8) l)) (T:=.int .u8) (l:=l) (ks:=[]) rfl (v:=a.eval x) (λc' hc=>by cases hc;exact AT E X);exact S8 J g hs hd ai (l:=l) hu hr []
    .rename_i k;split at h
     .rename_i l hk;cases h;cases I;obtain⟨cells,hu,hr,_⟩:=LG J (c:=some (.ref k)) (T:=.int .u8) (l:=l) (ks:=[k]) (by simp[GR,hk]) (v:=a.eval x) (λc' hc=>by cases hc;exact AT E X);exact S8 J g hs hd ai (l:=l) hu hr [k]
     .cases h
    .cases h
   .cases h
  .cases h
 .rename_i f first a7 g
  split at h
  .rename_i cs hf hc;cases h;cases I;have aj:first=#[]:=by simp_all
   subst aj;exact AX J (x:=.fn f cs) (v:=.func (.func f) #[] (a7.map a.eval)) (by simp[execOp,g,Instr.makeFunc]) ⟨_,rfl,by simpa using P2 E hc⟩ []
  .rename_i x hf hc;split at h
   .rename_i c X;cases h;cases I;have ar:=P2 E hc;have aj:first=#[x]:=by grind
    have ay:a7=#[]:=by
     have:a7.toList.map a.eval=[]:=by generalize a7.toList.map a.eval=us at ar;cases ar;rfl
     have h3:a7.toList=[]:=by simpa using this
     rw[<-Qcf (xs:=a7),h3]
    subst aj;subst ay;exact AX J (x:=.bfn f [c]) (v:=.func (.func f) #[a.eval x] #[]) (by simp[execOp,g,Instr.makeFunc]) ⟨_,rfl,.cons (AT E X) .nil⟩ []
   .cases h
  .cases h
 .rename_i t x y g;split at h
  .rename_i l c X hy;have h1:= AT E X;have h2:= AT E hy;exact XS J hD g h1.1 h2.1 h1.2 h2.2 h I
  .cases h
 .rename_i t x lo hi mx g;exact lA J hD E g h I
 .rename_i s x f g;exact XO J E g h I
 .rename_i s x f g;split at h
  .rename_i cs off t X hf;split at h
   .rename_i v hv;cases h;cases I;obtain⟨xs,ex,ah⟩:=NM E X;obtain⟨fs,fd,inf,hu,az,hi,hz,rfl,rfl⟩:=W5 hf;have ak:∃u,(part fd.type xs fd.offset).run C.P w=.ok u w/\Cl w O μ v u:=by
     unfold H2 at hv;split at hv
     .rename_i i hg al;split at hv
      .rename_i au;cases hv;have au:=Qbe au;refine ⟨.agg (xs.extract fd.offset (fd.offset+i.size)),?_,⟨_,rfl,?_⟩⟩
       .rw[hi] at al;cases al;simp[part,Vp hg w,sizeOf,typeInfo,hi]
       .have:=(ah.drop fd.offset).take i.size;simpa[Array.toList_extract,List.take_drop,Qgh] using this
      .cases hv
     .rename_i i hg al;split at hv
      .rename_i c r hc;cases hv;have av:cs[fd.offset]?=some c:=by have:=congrArg (λl=>l[0]?) hc;simpa using this
       obtain⟨u,aB,ru⟩:=ah.get av;exact ⟨u,LS hg (by simpa using aB),ru⟩
      .cases hv
     .cases hv
    obtain⟨u,a1,hr⟩:=ak;exact AX J (x:=.v v) (by simp[execOp,g,ex,Instr.field,run_underlying hu,az,asAgg,a1]) hr []
   .cases h
  .cases h
 .rename_i t x y g;split at h
  .rename_i k n hy;have h1:= AT E hy;split at h
   .rename_i l X;exact Y5 J E g h1.1 X h I
   .exact XQ J E g h1.1 h I
  .cases h
 .rename_i t x i g;split at h
  .rename_i l k n hu X hi;cases h;obtain⟨y,hy,rfl⟩:=AdA I;obtain⟨s,ex,hs⟩:∃s,a.eval x=.string s/\s.data.toList=l:=Bv E X;unfold Jg at hy;split at hy
   .rename_i h0;cases hb:l[n.toNat]? with
    |none=>rw[hb] at hy;cases hy
    |some b =>
     rw[hb] at hy;simp only[Qai] at hy;cases hy;have aP:s[n.toNat]?=some b:=by
      have:s.data[n.toNat]?=some b:=by rw[<-Qav,hs];exact hb
      obtain⟨b0,I⟩:=Array.getElem?_eq_some_iff.1 this;rw[getElem?_pos s n.toNat b0];exact congrArg some I
     refine AX J (x:=.v (.c (.int .u8 (b.toNat:Int)))) (v:=.int .u8 (b.toNat:Int)) ?_ ⟨rfl,?_⟩ []
     .simp[execOp,g,ex,(AT E hi).1,Instr.index,asIntOf,run_underlying hu,h0,aP]
     .have:=b.toNat_lt;simp[inR,IntKind.min,IntKind.max,IntKind.signed,IntKind.bits];omega
   .cases hy
  .rename_i l k n hu X hi;exact Y3 J E g (AT E hi).1 X h I
  .cases h
 .rename_i x i g;split at h
  .rename_i vs X;split at h
   .rename_i v hv;cases h;cases I;obtain⟨us,ex,hr⟩:∃us,a.eval x=.tuple us/\π (Cl w O μ) vs us.toList:=Bv E X;obtain⟨u,hu,ru⟩:=hr.get hv;exact AX J (x:=.v v) (v:=u) (by
     have:us[i]?=some u:=by simpa using hu
     simp[execOp,g,ex,Instr.extract,this]) ru []
   .cases h
  .cases h
 .rename_i x g;split at h
  .rename_i k of X;cases h;cases I;obtain⟨b,hb,ev⟩:=Bv E X;exact Ju J (v:=a.eval x) (by simp[execOp,g,ev]) ⟨b,hb,ev⟩
  .rename_i cs X;cases h;cases I;obtain⟨b,off,us,ev,r⟩:=Bv E X;exact AX J (x:=.iptr cs) (v:=a.eval x) (by simp[execOp,g,ev]) ⟨b,off,us,ev,r⟩ []
  .cases h
 .rename_i c g;obtain⟨callee,args,ts⟩:=c;simp only at h;split at h
  .split at h
   .rename_i x Y;split at h
    .rename_i t a6;unfold jL at h;split at h
     .rename_i el hu;exact wM J E hu g Y a6 h I
     .rename_i kt vt hu;split at h
      .rename_i k X;split at h
       .rename_i T l hk;cases h;obtain⟨hb,rfl⟩:=Bu I;obtain⟨b,hp,ev⟩:AQ w O μ (.mref k) (a.eval x):=Bv E X;obtain⟨b',es,cl,aw,hc,ha⟩:=J.heap k _ hk;rw[hp] at aw;cases aw;have ae:es.size=l.length:=by rw[<-Qat,<-ha.length]
        have hg:(getObj b).run C.P w=.ok (.map es cl) w:=by simp[getObj,Sem.run,hc]
        have Z:args=#[x]:=by rw[<-Qcf (xs:=args),Y]
        have aa:ts=#[t]:=by rw[<-Qcf (xs:=ts),a6]
        subst Z;subst aa;unfold leB Aa at hb;simp only[decide_eq_true_eq] at hb;refine AX J (x:=.v (.c (.int .i64 (Aa l)))) (v:=.int .i64 (Aa l)) ?_ ⟨rfl,PE (Qbh (by omega:l.length<=1099511627776) (by decide))⟩ [k];simp[execOp,g,resolve,invoke,builtin,ev,Builtin.len_,run_underlying hu,goInt,Aa,hg,ae]
       .cases h
      .cases h
     .rename_i hu;split at h
      .rename_i l X;cases h;obtain⟨hb,rfl⟩:leB (Aa l) 1099511627776=true/\e=Eff.c st (.int .i64 (Aa l)):=by
        simp only[υ.run] at I;split at I
        .rename_i hb;cases I;exact ⟨hb,rfl⟩
        .cases I
       obtain⟨s,ex,hs⟩:∃s,a.eval x=.string s/\s.data.toList=l:=Bv E X;have ae:s.size=l.length:=by rw[<-hs];simp
       have Z:args=#[x]:=by rw[<-Qcf (xs:=args),Y]
       have aa:ts=#[t]:=by rw[<-Qcf (xs:=ts),a6]
       subst Z;subst aa;refine Ju J (v:=.int .i64 (Aa l)) ?_ ⟨rfl,?_⟩
       .simp[execOp,g,resolve,invoke,builtin,ex,Builtin.len_,run_underlying hu,goInt,Aa,ae]
       .unfold leB Aa at hb;simp only[decide_eq_true_eq] at hb;exact PE (Qbh (by omega:l.length<=1099511627776) (by decide))
      .cases h
     .cases h
    .cases h
   .cases h
  .split at h
   .rename_i s x t t' Y a6;split at h
    .rename_i b7 an;exact gJ J hD E g Y a6 an h I
    .rename_i kn an;exact bM J hD E g Y a6 an h I
    .cases h
   .cases h
  .split at h
   .rename_i x t Y a6;split at h
    .rename_i el X hu;cases h;cases I;obtain⟨ad,ev⟩:∃ad,a.eval x=.slice ad 0 0:=AT E X;have Z:args=#[x]:=by rw[<-Qcf (xs:=args),Y]
     have aa:ts=#[t]:=by rw[<-Qcf (xs:=ts),a6]
     subst Z;subst aa;refine Ju J (v:=.int .i64 0) ?_ ⟨rfl,by decide⟩;simp[execOp,g,resolve,invoke,builtin,ev,Builtin.cap_,run_underlying hu,goInt]
    .cases h
   .cases h
  .split at h
   .rename_i d s t t' Y a6;exact qY J E g Y a6 h I
   .cases h
  .split at h
   .rename_i k n r a8;have hr:=NN E a8;generalize af:args.toList.map a.eval=us at hr;cases hr with
    |cons h1 h2 =>
     rename_i u ao;obtain⟨e1,hn⟩:=h1;obtain⟨m,eo,hm,a1⟩:=TE (P:=C.P) h h2 hn;subst eo;cases I;refine Ju J (v:=.int k m) ?_ ⟨rfl,hm⟩;have:(args.map a.eval).toList=u::ao:=by simpa using af
     simp only[execOp,g,resolve,Sem.run_bind,Sem.run_pure,Result.andThen_ok,invoke,builtin,Builtin.max_,this];subst e1;simp only[a1,Result.andThen_ok]
   .cases h
  .split at h
   .rename_i k n r a8;have hr:=NN E a8;generalize af:args.toList.map a.eval=us at hr;cases hr with
    |cons h1 h2 =>
     rename_i u ao;obtain⟨e1,hn⟩:=h1;obtain⟨m,eo,hm,a1⟩:=TE (P:=C.P) h h2 hn;subst eo;cases I;refine Ju J (v:=.int k m) ?_ ⟨rfl,hm⟩;have:(args.map a.eval).toList=u::ao:=by simpa using af
     simp only[execOp,g,resolve,Sem.run_bind,Sem.run_pure,Result.andThen_ok,invoke,builtin,Builtin.min_,this];subst e1;simp only[a1,Result.andThen_ok]
   .cases h
  .rename_i f;split at h
   .rename_i vs a8;refine Rl hC J ag (NN E a8) ?_ h I ab;have:args.map a.eval=(args.toList.map a.eval).toArray:=by rw[<-Qgi]
    simp[execOp,g,resolve,Act.eval,Deferred.ofValue,invoke];rw[show args.map a.eval=(args.toList.map a.eval).toArray from this]
   .cases h
  .rename_i t;split at h
   .rename_i f cs vs X a8;obtain⟨us,ev,hr⟩:∃us,a.tmps.getD t undef=.func (.func f) us #[]/\π (AQ w O μ) cs us.toList:=E t _ X;have hv:= (by exact (hr.map (R':=Cl w O μ) V1.c λ_ _ h=>h).append (NN E a8));refine Rl hC J ag hv ?_ h I ab;have:args.map a.eval=(args.toList.map a.eval).toArray:=by rw[<-Qgi]
    have aq:a.tmps[t]?.getD undef=.func (.func f) us #[]:=by rw[<-Qao];exact ev
    simp[execOp,g,resolve,Act.eval,Deferred.ofValue,invoke,aq];rw[show args.map a.eval=(args.toList.map a.eval).toArray from this];rw[show us++(args.toList.map a.eval).toArray=(us.toList++args.toList.map a.eval).toArray by simp]
   .rename_i f vs X a8;obtain⟨us,ev,hr⟩:∃us,a.tmps.getD t undef=.func (.func f) #[] us/\π (AQ w O μ) [] us.toList:=E t _ X;have af:us=#[]:=by generalize b3:us.toList=ul at hr;cases hr;exact Array.toList_eq_nil_iff.1 b3
    subst af;refine Rl hC J ag (NN E a8) ?_ h I ab;have:args.map a.eval=(args.toList.map a.eval).toArray:=by rw[<-Qgi]
    have aq:a.tmps[t]?.getD undef=.func (.func f) #[] #[]:=by rw[<-Qao];exact ev
    simp[execOp,g,resolve,Act.eval,Deferred.ofValue,invoke,aq];rw[show args.map a.eval=(args.toList.map a.eval).toArray from this]
   .cases h
  .cases h
 .cases h
end
def Hn {ds s}:∀ {e},assoc (ω ds e) s=if s∈ds then none else assoc e s
 |[]=>by simp[ω,assoc]
 |(t,v)::r=>by
  simp only[ω];split
  .rename_i h;have c:=any_beq.1 h;rw[Hn,AE]<;>grind
  .rename_i h;have c:t∉ds:=λd=>by rw[any_beq.2 d] at h;cases h
   rw[AE,AE,Hn]<;>grind
structure τ (R:RO) (st:St):Prop where
 env:∀s,assoc R.renv s≠none->assoc st.env s=none
 heap:∀k,assoc R.rheap k≠none->assoc st.heap k=none
 next:∀k,assoc R.rheap k≠none->k<st.next
structure Le (R:RO) (st' st:St):Prop where
 env:∀s v,st'.get R s=some v->st.get R s=some v
 obj:∀k o,st'.obj R k=some o->st.obj R k=some o
 next:st.next<=st'.next
def Pε {R d}:free R (some d)=true↔assoc R.renv d=none:=by simp only[free]<;>grind
def sε {R}:∀ {ds},L3 R ds=true↔∀d∈ds,assoc R.renv d=none
 |[]=>by simp[L3]
 |d::r=>by
  simp only[L3];split
  .rename_i h;rw[sε];simp[Pε.1 h]
  .rename_i h;have:¬assoc R.renv d=none:=λe=>by rw[Pε.2 e] at h;cases h
   simp[this]
variable {R:RO} {st:St}
def Fx {d s v}:(st.put (some d) v).get R s=if d=s then v else st.get R s:=by simp only[St.put,St.get,AE]<;>grind
def Yo {d v}:(st.put d v).heap=st.heap:=by cases d<;>rfl
def CG {d v}:(st.put d v).next=st.next:=by cases d<;>rfl
def PI {d v k}:(st.put d v).obj R k=st.obj R k:=by cases d<;>rfl
def Qi {ds s} (c:∀d∈ds,assoc R.renv d=none):(st.drop ds).get R s=if s∈ds then none else st.get R s:=by simp only[St.drop,St.get,Hn]<;>grind
def τ.put {d} (h:τ R st) (g:free R d=true) v:τ R (st.put d v):=by
 cases d with
 |none=>exact h
 |some d =>refine ⟨λs c=>?_,h.heap,h.next⟩;simp only[St.put,AE];have:¬d=s:=λe=>c (e▸Pε.1 g);simp[this,h.env s c]
def τ.ω (h:τ R st) ds c n (d:∀k,assoc R.rheap k≠none->assoc c k=none) (g:st.next<=n):τ R {env:=Den.ω ds st.env,heap:=c,next:=n}:=by refine ⟨λs t=>?_,d,λk y=>Qac (h.next k y) g⟩;show assoc (Den.ω ds st.env) s=none;rw[Hn];simp[h.env s t]
def τ.drop (h:τ R st) ds:τ R (st.drop ds):=h.ω ds st.heap st.next h.heap (χ _)
def Le.refl R st:Le R st st:=⟨λ_ _ h=>h,λ_ _ h=>h,χ _⟩
inductive Shape (st:St) (e:Eff):Prop where
 |still (hu:e.upd=[]) (hn:e.next=st.next)
 |new (o:Ψ) (hu:e.upd=[(st.next,some o)]) (hn:e.next=st.next+1)
 |set (k:Nat) (o:Ψ) (hu:e.upd=[(k,some o)]) (hk:assoc st.heap k≠none) (hn:e.next=st.next)
 |move (k:Nat) (o:Ψ) (hu:e.upd=[(k,none),(st.next,some o)]) (hk:assoc st.heap k≠none) (hn:e.next=st.next+1)
 |news (hu:∀x∈e.upd,x.2≠none/\st.next<=x.1/\x.1<e.next) (hn:st.next<=e.next/\e.next<=st.next+16)
def Shape.le {e} (h:Shape st e):st.next<=e.next:=by cases h<;>omega
def UI {h ks c k} (d:assoc c k=none):assoc (Ef h ks c) k=none:=by rw[F7];simp[d]
def uX {ks s} (c:assoc st.env s=none):assoc (st.Γ R ks).env s=none:=by
 cases ks with
 |nil=>exact c
 |cons _ _=>simp only[St.Γ,PC,c,Qce]
def mU {ks s} (c:assoc st.heap s=none):assoc (st.Γ R ks).heap s=none:=by
 cases ks with
 |nil=>exact c
 |cons _ _=>exact UI c
def Wh:∀ {u} {h} {k},(∀x∈u,x.1≠k)->assoc (Bw u h) k=assoc h k
 |[],_,_,_=>rfl
 |(j,some o)::u,h,k,c=>by have g:= c (j,some o) (by simp);rw[Bw,Wh λx d=>c x (Qak _ d),AE,if_neg g,Dh,if_neg (Ne.symm g)]
 |(j,none)::u,h,k,c=>by rw[Bw,Wh λx d=>c x (Qak _ d),Dh,if_neg (Ne.symm (c (j,none) (by simp)))]
def AbD {own}:∀T {off} {y} {n},(∀x∈(EP own T off y n).2.1,x.2≠none/\n<=x.1/\x.1<(EP own T off y n).2.2)/\n<=(EP own T off y n).2.2/\(EP own T off y n).2.2<=n+T.size:=by
 intro T;induction T with
 |int k=>intro off y n;exact ⟨nofun,χ _,Qfj _ _⟩
 |bool=>intro off y n;exact ⟨nofun,χ _,Qfj _ _⟩
 |unit=>intro off y n;exact ⟨nofun,χ _,Qfj _ _⟩
 |slice t _ =>
  intro off y n;simp only[EP];split
  .refine ⟨λx g=>?_,Nat.le_succ _,by simp[Ty.size]⟩<;>simp_all
  simp_all
 |pair a b c d =>
  intro off y n;have E:=c (off:=off) (y:=y.1) (n:=n);rcases I:EP own a off y.1 n with ⟨cs,u,m⟩
  rw[I] at E;have J:=d (off:=off+a.size) (y:=y.2) (n:=m);rcases X:EP own b (off+a.size) y.2 m with ⟨ds,v,k⟩
  rw[X] at J;have e:EP own (.pair a b) off y n=(cs++ds,u++v,k):=by simp only[EP,I,X]
  rw[e];obtain⟨Y,a2,a3⟩:=E;obtain⟨Z,b2,b3⟩:=J;simp only[Ty.size] at *;refine ⟨λx g=>?_,by omega,by omega⟩;rcases List.mem_append.1 g with h|h
  .have:=Y x h;exact ⟨this.1,this.2.1,by omega⟩
  .have:=Z x h;exact ⟨this.1,by omega,this.2.2⟩
def τ.after {d e} (h:τ R st) (y:free R d=true) (t:Shape st e):τ R (st.after R d e):=by
 unfold St.after;refine τ.put (st:={env:=(st.Γ R e.Γ).env,heap:=Bw e.upd (st.Γ R e.Γ).heap,next:=e.next}) ⟨λs g=>uX (h.env s g),λk g=>?_,λk g=>Qac (h.next k g) t.le⟩ y e.dst;have h0:=mU (R:=R) (ks:=e.Γ) (h.heap k g);have h1:=h.next k g;have I:=h.heap k g;cases t with
 |still c _=>simp only[c,Bw];exact h0
 |new o c _ =>simp only[c,Bw,AE,Dh]<;>grind
 |set k' o c E _ =>simp only[c,Bw,AE,Dh]<;>grind
 |move k' o c E _ =>simp only[c,Bw,AE,Dh]<;>grind
 |news c _=>rw[Wh λx J=>by grind];exact h0
def Ck {T o f e} (h:(υ.opt T o f).run=some e):∃x,o=some x/\e=f x:=by simp only[υ.run,Qdm] at h<;>grind
def Adz {l e} (h:(υ.alts l).run=some e):∃x∈l,e=x.2:=by
 replace h:Ia l=some e:=h;induction l with
 |nil=>cases h
 |cons x r c =>obtain⟨b,d⟩:=x;simp only[Ia] at h;split at h<;>simp_all
def BF {c e} (h:(υ.ok c).run=some e):e=c:=by cases h;rfl
variable {P:Program}
def Za {t k i T l sz v out e} (d:assoc st.heap k=some (.arr T l)) (h:Ho P R st t k i T l sz v=some out) (c:out.run=some e):Shape st e:=by
 unfold Ho at h;repeat' split at h
 all_goals first|cases h|skip
 cases (Bu c).2;exact .set _ _ rfl (by simp[*]) rfl
def YU {t out e} (h:Hk P st t=some out) (c:out.run=some e):Shape st e:=by
 unfold Hk at h;repeat' split at h
 all_goals first|cases h|skip
 all_goals (cases BF c;exact .new _ rfl rfl)
def lB {t a v out e} (h:GI P R st t a v=some out) (c:out.run=some e):Shape st e:=by
 unfold GI at h;repeat' split at h
 all_goals first|cases h|skip
 .cases BF c;exact .set _ _ rfl (by simp[*]) rfl
 .obtain⟨x,_,rfl⟩:=Ck c;exact .set _ _ rfl (by simp[*]) rfl
 .exact Za (by assumption) h c
def qZ {t a out e} (h:Gf P R st t a=some out) (c:out.run=some e):Shape st e/\e.upd=[]/\e.Γ=[]:=by
 unfold Gf at h;repeat' split at h
 all_goals first|cases h|skip
 all_goals first
  |(cases BF c;exact ⟨.still rfl rfl,rfl,rfl⟩)
  |(obtain⟨x,_,rfl⟩:=Ck c;exact ⟨.still rfl rfl,rfl,rfl⟩)
def wG {op k k' x y out e} (h:Rj st op k x k' y=some out) (c:out.run=some e):Shape st e/\e.upd=[]/\e.Γ=[]:=by
 unfold Rj at h;repeat' split at h
 all_goals first|cases h|skip
 all_goals first
  |(cases BF c;exact ⟨.still rfl rfl,rfl,rfl⟩)
  |(cases (Bu c).2;exact ⟨.still rfl rfl,rfl,rfl⟩)
def kJ {t ps out e} (h:Mj P st t ps=some out) (c:out.run=some e):Shape st e/\e.upd=[]/\e.Γ=[]:=by
 unfold Mj at h;repeat' split at h
 all_goals first|cases h|skip
 all_goals (cases BF c;exact ⟨.still rfl rfl,rfl,rfl⟩)
def WS {t n ps out e} (h:ER P R st t n ps=some out) (c:out.run=some e):Shape st e:=by
 unfold ER at h;repeat' split at h
 all_goals first|cases h|skip
 cases BF c;exact .new _ rfl rfl
def XR {t l c out e} (h:FC P st t l c=some out) (d:out.run=some e):Shape st e:=by
 unfold FC at h;repeat' split at h
 all_goals first|cases h|skip
 cases (Bu d).2;exact .new _ rfl rfl
def YW {t ps out e} (h:Gm P R st t ps=some out) (c:out.run=some e):Shape st e/\e.upd=[]/\e.Γ=[]:=by
 unfold Gm at h;repeat' split at h
 all_goals first|cases h|skip
 cases BF c;exact ⟨.still rfl rfl,rfl,rfl⟩
def Y2 {t l n out e} (h:Hl P st t l n=some out) (c:out.run=some e):Shape st e/\e.upd=[]/\e.Γ=[]:=by
 unfold Hl at h;repeat' split at h
 all_goals first|cases h|skip
 obtain⟨i,f,_,_,rfl⟩:=Ry c;exact ⟨.still rfl rfl,rfl,rfl⟩
def YY {t n ps out e} (h:FH P R st t n ps=some out) (c:out.run=some e):Shape st e/\e.upd=[]/\e.Γ=[]:=by
 unfold FH at h;repeat' split at h
 all_goals first|cases h|skip
 cases BF c;exact ⟨.still rfl rfl,rfl,rfl⟩
def Y4 {t l n out e} (h:Hm P st t l n=some out) (c:out.run=some e):Shape st e/\e.upd=[]/\e.Γ=[]:=by
 unfold Hm at h;repeat' split at h
 all_goals first|cases h|skip
 obtain⟨i,f,_,_,rfl⟩:=Tg c;exact ⟨.still rfl rfl,rfl,rfl⟩
def bR {t out e} (h:IC P st t=some out) (c:out.run=some e):Shape st e:=by
 unfold IC at h;repeat' split at h
 all_goals first|cases h|skip
 cases BF c;exact .new _ rfl rfl
def gK {t m v out e} (h:Jk P R st t m v=some out) (c:out.run=some e):Shape st e/\e.upd=[]/\e.Γ=[]:=by
 unfold Jk at h;repeat' split at h
 all_goals first|cases h|skip
 cases BF c;exact ⟨.still rfl rfl,rfl,rfl⟩
def gN {t m v b out e} (h:Jl P R st t m v b=some out) (c:out.run=some e):Shape st e:=by
 unfold Jl at h;repeat' split at h
 all_goals first|cases h|skip
 cases BF c;exact .set _ _ rfl (by simp[*]) rfl
def XN {t n x out e} (h:FB P st t n x=some out) (c:out.run=some e):Shape st e/\e.upd=[]/\e.Γ=[]:=by
 unfold FB at h;repeat' split at h
 all_goals first|cases h|skip
 all_goals (cases BF c;exact ⟨.still rfl rfl,rfl,rfl⟩)
def XP {t x n out e} (h:DA P R st t x n=some out) (c:out.run=some e):Shape st e/\e.upd=[]/\e.Γ=[]:=by
 unfold DA at h;repeat' split at h
 all_goals first|cases h|skip
 all_goals first
  |(obtain⟨x,_,rfl⟩:=Ck c;exact ⟨.still rfl rfl,rfl,rfl⟩)
  |(obtain⟨x,d,rfl⟩:=Adz c;simp at d;rcases d with rfl|rfl<;>exact ⟨.still rfl rfl,rfl,rfl⟩)
def wL {x out e} (h:Rm R st x=some out) (c:out.run=some e):Shape st e/\e.upd=[]/\e.Γ=[]:=by
 unfold Rm at h;repeat' split at h
 all_goals first|cases h|skip
 all_goals first
  |(cases BF c;exact ⟨.still rfl rfl,rfl,rfl⟩)
  |(cases (Bu c).2;exact ⟨.still rfl rfl,rfl,rfl⟩)
def UG {t x lo hi d out e} (h:D7 P R st t x lo hi d=some out) (c:out.run=some e):Shape st e/\((∀p,lo=none->hi=some p->False)->e.upd=[]/\e.Γ=[]):=by
 unfold D7 JI at h;repeat' split at h
 all_goals first|cases h|skip
 all_goals first
  |(cases BF c;exact ⟨.still rfl rfl,λ_=>⟨rfl,rfl⟩⟩)
  |(cases (Bu c).2;exact ⟨.still rfl rfl,λ_=>⟨rfl,rfl⟩⟩)
  |(cases (Bu c).2;exact ⟨.move _ _ rfl (by simp[*]) rfl,λg=>(g _ rfl rfl).elim⟩)
def qX {t x y out e} (h:KB P R st t x y=some out) (c:out.run=some e):Shape st e:=by
 unfold KB at h;repeat' split at h
 all_goals first|cases h|skip
 cases BF c;exact .set _ _ rfl (by simp[*]) rfl
def bL {t x y out e} (h:D9 P R st t x y=some out) (c:out.run=some e):Shape st e:=by
 unfold D9 at h;repeat' split at h
 all_goals first|cases h|skip
 .cases (Bu c).2;exact .new _ rfl rfl
 .cases (Bu c).2;exact .move _ _ rfl (by simp[*]) rfl
def OO {g k}:∀ {vs} {acc} {out} {e},EB st g k acc vs=some out->out.run=some e->Shape st e/\e.upd=[]/\e.Γ=[]
 |[],acc,out,e,h,d=>by simp only[EB,Qaf] at h;subst h;cases BF d;exact ⟨.still rfl rfl,rfl,rfl⟩
 |.a _::_,acc,out,e,h,d=>by simp[EB] at h
 |.c c::r,acc,out,e,h,d=>by
  cases c<;>simp only[EB,reduceCtorEq] at h;split at h
  .exact OO h d
  .cases h
def gI {t s x out e} (h:DD P R st t s x=some out) (c:out.run=some e):Shape st e:=by
 unfold DD at h;simp only at h;repeat' split at h
 all_goals first|cases h|skip
 all_goals cases (Bu c).2
 .exact .new _ rfl rfl
 .exact .new _ rfl rfl
 .exact .move _ _ rfl (by simp[*]) rfl
 .exact .move _ _ rfl (by simp[*]) rfl
def Eε {c rd fr res x}:Shape st (DO st c rd fr res x)/\(DO st c rd fr res x).Γ=c/\(fr=false->(DO st c rd fr res x).upd=[]):=by
 unfold DO;cases fr with
 |false=>exact ⟨.still rfl rfl,rfl,λ_=>rfl⟩
 |true =>
  simp only;split
  .exact ⟨.new _ rfl rfl,rfl,λh=>by cases h⟩
  .exact ⟨.new _ rfl rfl,rfl,λh=>by cases h⟩
  .exact ⟨.still rfl rfl,rfl,λh=>by cases h⟩
def kO {C f vs out e} (h:I5 C R st f vs=some out) (c:out.run=some e):Shape st e:=by
 unfold I5 at h;split at h
 .split at h
  .split at h
   .split at h
    .cases h;simp only[υ.run,Qaf] at c;subst c;exact .still rfl rfl
    .cases h;obtain⟨y,_,rfl⟩:=Ck c;exact .still rfl rfl
   .cases h
  .cases h
 .split at h
  .rename_i cs d;split at h
   .split at h
    .cases h;simp only[υ.run,Qaf] at c;subst c;exact .set _ _ rfl (by simp_all) rfl
    .cases h;obtain⟨y,_,rfl⟩:=Ck c;exact .set _ _ rfl (by simp_all) rfl
   .cases h
  .cases h
 .cases h
def kL {C f vs out e} (h:H9 C R st f vs=some out) (c:out.run=some e):Shape st e:=by
 unfold H9 at h;split at h
 .split at h
  .split at h
   .split at h
    .cases h;simp only[υ.run,Qaf] at c;subst c;exact .new _ rfl rfl
    .cases h;obtain⟨y,_,rfl⟩:=Ck c;exact .new _ rfl rfl
   .split at h
    .rename_i d _ _;split at h
     .split at h
      .cases h;simp only[υ.run,Qaf] at c;subst c;exact .move _ _ rfl (by rw[d];simp) rfl
      .cases h;obtain⟨y,_,rfl⟩:=Ck c;exact .move _ _ rfl (by rw[d];simp) rfl
     .cases h
    .cases h
   .cases h
  .cases h
 .split at h
  .split at h
   .cases h;obtain⟨y,_,rfl⟩:=Ck c;exact .still rfl rfl
   .cases h
  .cases h
 .cases h
def kS {C f vs out e} (h:Ml C R st f vs=some out) (d:out.run=some e):Shape st e:=by
 unfold Ml at h;split at h
 .rename_i J t own fn g;split at h
  .rename_i x ks X c;have c:=Qbe c;cases h;obtain⟨y,_,rfl⟩:=Ck d;obtain⟨h1,E,I⟩:=AbD t;exact .news h1 ⟨E,Qbh I (by omega)⟩
  .cases h
 .cases h
def kQ {C f vs out e} (h:Mk C R st f vs=some out) (c:out.run=some e):Shape st e:=by
 unfold Mk at h;repeat' split at h
 all_goals first|cases h|skip
 obtain⟨y,_,rfl⟩:=Ck c;exact .still rfl rfl
def Rk {C f vs out e} (h:KA C R st f vs=some out) (d:out.run=some e) :
 Shape st e/\∀sp,C.tbl f=some sp->sp.fresh=false->sp.res.any Ty.eε=false->e.upd=[]/\e.Γ=[]:=by
 unfold KA at h;split at h
 .rename_i J;refine ⟨?_,λsp g=>by simp_all⟩;split at h
  .split at h
   .split at h
    .exact kO h d
    .exact kQ h d
   .exact kS h d
  .exact kL h d
 rename_i sp g;split at h
 .cases h
 rename_i x ks X;have key:∃y,e=DO st (match sp.res.any Ty.eε&&!JX sp with|true=>ks|false=>[]) ks sp.fresh sp.res y:=by
  simp only at h;split at h
  .cases h;simp only[υ.run,Qaf] at d<;>grind
  .cases h;obtain⟨y,_,rfl⟩:=Ck d<;>grind
 obtain⟨y,rfl⟩:=key;refine ⟨Eε.1,λt c E I=>?_⟩;rw[g] at c;cases c;exact ⟨Eε.2.2 E,by rw[Eε.2.1,I,Qee]⟩
def Iu {C o out e} (h:aop C R st o=some out) (g:out.run=some e):Shape st e/\(BT C o=true->e.upd=[]/\e.Γ=[]):=by
 have pure:∀ {X:Eff},out=.ok X->X.upd=[]->X.Γ=[]->X.next=st.next->Shape st e/\(BT C o=true->e.upd=[]/\e.Γ=[]):=λ{X} y h1 J h3=>by subst y;cases BF g;exact ⟨.still h1 h3,λ_=>⟨h1,J⟩⟩
 have still:Shape st e/\e.upd=[]/\e.Γ=[]->Shape st e/\(BT C o=true->e.upd=[]/\e.Γ=[]):=λh=>⟨h.1,λ_=>h.2⟩;have d:Shape st e->BT C o=false->Shape st e/\(BT C o=true->e.upd=[]/\e.Γ=[]):=λh1 J=>⟨h1,λh3=>by simp_all⟩;unfold aop at h;simp only at h;split at h
 .grind
 .grind
 .grind
 .rename_i y;exact d (YU h g) (by simp[BT,y])
 .rename_i y;split at h
  .cases h;cases BF g;exact d (.new _ rfl rfl) (by simp[BT,y])
  .cases h
 .split at h
  .exact still (kJ h g)
  .exact still (YW h g)
 .rename_i y;split at h
  .exact d (WS h g) (by simp[BT,y])
  .exact still (YY h g)
 .rename_i y;exact d (bR h g) (by simp[BT,y])
 .split at h
  .exact still (gK h g)
  .cases h
 .rename_i y;split at h
  .exact d (gN h g) (by simp[BT,y])
  .cases h
 .exact still (qZ h g)
 .rename_i y;split at h
  .exact d (lB h g) (by simp[BT,y])
  .cases h
 .split at h
  .exact still (wG h g)
  .split at h
   .cases h;exact pure rfl rfl rfl rfl
   .cases h;exact pure rfl rfl rfl rfl
   .cases h
  .split at h
   .split at h
    .cases h;exact pure rfl rfl rfl rfl
    .cases h;exact pure rfl rfl rfl rfl
    .cases h
   .cases h
  .split at h
   .cases h;exact pure rfl rfl rfl rfl
   .cases h;exact pure rfl rfl rfl rfl
   .cases h
  .split at h
   .cases h;exact pure rfl rfl rfl rfl
   .cases h;exact pure rfl rfl rfl rfl
   .cases h
  .cases h
 .split at h
  .cases h;exact pure rfl rfl rfl rfl
  .cases h;exact pure rfl rfl rfl rfl
  .cases h;exact pure rfl rfl rfl rfl
  .cases h
 .split at h
  .cases h;exact pure rfl rfl rfl rfl
  .split at h
   .split at h
    .cases h;exact pure rfl rfl rfl rfl
    .cases h;exact pure rfl rfl rfl rfl
    .split at h
     .cases h;exact pure rfl rfl rfl rfl
     .cases h
    .cases h
   .cases h
  .cases h
 .split at h
  .cases h;exact pure rfl rfl rfl rfl
  .split at h
   .cases h;exact pure rfl rfl rfl rfl
   .cases h
  .cases h
 .rename_i y;split at h
  .exact d (XR h g) (by simp[BT,y])
  .cases h
 .rename_i t x lo hi mx y;refine ⟨(UG h g).1,λI=>(UG h g).2 λp h1 J=>?_⟩;subst h1;subst J;simp[BT,y] at I
 .exact still (XN h g)
 .split at h
  .split at h
   .cases h;exact pure rfl rfl rfl rfl
   .cases h
  .cases h
 .split at h
  .split at h
   .exact still (Y4 h g)
   .exact still (XP h g)
  .cases h
 .split at h
  .cases h;obtain⟨x,_,rfl⟩:=Ck g;exact still ⟨.still rfl rfl,rfl,rfl⟩
  .exact still (Y2 h g)
  .cases h
 .split at h
  .split at h
   .cases h;exact pure rfl rfl rfl rfl
   .cases h
  .cases h
 .split at h
  .cases h;exact pure rfl rfl rfl rfl
  .cases h;exact pure rfl rfl rfl rfl
  .cases h
 .rename_i c y;split at h
  .split at h
   .split at h
    .unfold jL at h;split at h
     .exact still (wL h g)
     .split at h
      .split at h
       .cases h;cases (Bu g).2;exact still ⟨.still rfl rfl,rfl,rfl⟩
       .cases h
      .cases h
     .split at h
      .cases h;simp only[υ.run] at g;split at g
       .cases g;exact still ⟨.still rfl rfl,rfl,rfl⟩
       .cases g
      .cases h
     .cases h
    .cases h
   .cases h
  .rename_i E;split at h
   .split at h
    .exact d (gI h g) (by simp[BT,y,E])
    .exact d (bL h g) (by simp[BT,y,E])
    .cases h
   .cases h
  .rename_i E;split at h
   .split at h
    .cases h;exact pure rfl rfl rfl rfl
    .cases h
   .cases h
  .rename_i E;split at h
   .exact d (qX h g) (by simp[BT,y,E])
   .cases h
  .split at h
   .exact still (OO h g)
   .cases h
  .split at h
   .exact still (OO h g)
   .cases h
  .rename_i f E;split at h
   .obtain⟨h1,J⟩:=Rk h g;refine ⟨h1,λI=>?_⟩;simp only[BT,y,E] at I;split at I
    .rename_i sp Y a1;split at I
     .rename_i hf Z;exact J sp Y hf Z
     .cases I
    .cases I
   .cases h
  .rename_i t E;split at h
   .exact d (Rk h g).1 (by simp[BT,y,E])
   .exact d (Rk h g).1 (by simp[BT,y,E])
   .cases h
  .cases h
 .cases h
def uQ {a b} (h:Bool.beq' a b=true):a=b:=by cases a<;>cases b<;>first|rfl|cases h
def pL {a b} (h:Gz a b=true):a=b:=by
 cases a with
 |none=>cases b<;>simp_all[Gz]
 |some x=>cases b with
  |none=>simp[Gz] at h
  |some y =>simp only[Gz,Qab] at h;obtain⟨i,p⟩:=x;obtain⟨j,q⟩:=y;have h1:= beq_true h.1;have c:= uQ h.2<;>simp_all
def Told (R:RO) (ops:List Oper) (st:St) (o:Oper):Bool->Prop
 |true=>o.guard=none\/∃j w g,o.guard=some (j,w)/\Fc ops j=some g/\st.get R g=some (.v (.c (.bool w)))
 |false=>∃j w g,o.guard=some (j,w)/\Fc ops j=some g/\(st.get R g=some (.v (.c (.bool !w)))\/st.get R g=some .undef)
structure XK {A:Type} (C:Ctx) (R:RO) (ops:List Oper) (inl:Gc) (Good:A->Prop) (bad:A) (T:Nat->St->Prop):Prop where
 weak:∀i st st',Le R st' st->T i st'->T i st
 op:∀i st o out e,ops[i]?=some o->Told R ops st o true->aop C R st o=some out->out.run=some e->JD R e=true->free R o.dst=true->T (i+1) (st.after R o.dst e)->T i st
 skip:∀i st o,ops[i]?=some o->Told R ops st o false->free R o.dst=true->T (i+1) (st.put o.dst (some .undef))->T i st
 inl:∀i st o I vs (K:Option aε->H4->Nat->A),ops[i]?=some o->Told R ops st o true->Dε C R st o=some (I,vs)->free R o.dst=true->τ R st ->
  Good (inl R I vs st.heap st.next K bad)->(∀v h nx,(∀k,assoc R.rheap k≠none->assoc h k=none/\k<nx)->Good (K v h nx)->T (i+1) (St.put {st with heap:=h,next:=nx} o.dst v))->T i st
def KT {g}:∀ {l d t} {p} {a b},L9 g l=some (d,p,a,b,t)->l=d++p::t/\p.op=.pick (.tmp g) a b
 |[],d,t,p,a,b,h=>by simp[L9] at h
 |o::r,d,t,p,a,b,h=>by
  simp only[L9] at h;split at h
  .rename_i J X y;simp only[Qaf,Qcv] at h;obtain⟨rfl,rfl,rfl,rfl,rfl⟩:=h;refine ⟨rfl,?_⟩;unfold Aa4 at y;split at y
   .rename_i c Y Z ho;split at y<;>simp_all
   .cases y
  .split at h
   .rename_i E q I;simp only[Qaf,Qcv] at h;obtain⟨rfl,rfl⟩:=h;obtain⟨h1,h2⟩:=KT I<;>simp_all
   .cases h
def Xc {A bad R d x K} {Good:A->Prop} (hbad:¬Good bad) (h:Good (Qd R d x K bad)) :
 free R d=true/\∃out e,x=some out/\out.run=some e/\Good (K e):=by
 unfold Qd at h;split at h
 .exact absurd h hbad
 .rename_i c;refine ⟨c,?_⟩;split at h
  .exact absurd h hbad
  .exact ⟨_,_,rfl,rfl,h⟩
  .rename_i b e;cases b with
   |true=>exact ⟨_,_,rfl,rfl,h⟩
   |false=>exact absurd h hbad
  .exact ⟨_,_,rfl,rfl,h⟩
  .rename_i o f;unfold Ad at h;split at h
   .exact absurd h hbad
   .exact ⟨_,_,rfl,rfl,h⟩
  .rename_i l;suffices ∃e,Ia l=some e/\Good (K e) from let ⟨e,h1,g⟩:=this;⟨_,e,rfl,h1,g⟩;induction l with
   |nil=>exact absurd h hbad
   |cons x r t =>
    obtain⟨b,y⟩:=x;cases b with
    |true=>exact ⟨y,rfl,h⟩
    |false=>exact t h
def zU {A bad R st d e K} {Good:A->Prop} (hbad:¬Good bad) (h:Good (zT R st d e K bad)):JD R e=true/\Good (K (st.after R d e)):=by unfold zT at h<;>grind
def Abl {c want a b x y} (d:isFalse b=true->y=false) (g:isTrue a=true->x=true):VJ c want a b x y=γ c x y:=by
 unfold VJ;cases h1:isFalse b with
 |true =>have:=d h1;subst this;cases want<;>cases c<;>simp[C5,γ,hi2,hi1]
 |false =>
  cases h:isTrue a with
  |true =>have:=g h;subst this;cases want<;>cases c<;>simp[bOr,γ,hi2,hi1]
  |false=>rfl
def Abx {R st b y} (h:Ω R st b=some (.bool y)) (c:isFalse b=true):y=false:=by
 unfold isFalse at c;split at c
 .simp[Ω,opv,P4,cellOf] at h<;>simp_all
 .cases c
def Adh {R st b y} (h:Ω R st b=some (.bool y)) (c:isTrue b=true):y=true:=by
 unfold isTrue at c;split at c
 .simp[Ω,opv,P4,cellOf] at h<;>simp_all
 .cases c
def TH {R st x c} (h:Ω R st x=some c):opv R st x=some (.v (.c c)):=by unfold Ω at h<;>grind
def Abz {R st' st x v} (d:∀s v,st'.get R s=some v->st.get R s=some v) (h:opv R st' x=some v):opv R st x=some v:=by
 cases x with
 |tmp t=>exact d t v h
 |const c=>exact h
 |func f=>exact h
 |global g=>exact h
def Aby {R st' st x c} (d:∀s v,st'.get R s=some v->st.get R s=some v) (h:Ω R st' x=some c):Ω R st x=some c:=by have:=Abz d (TH h);simp[Ω,this]
def dZ {R d v} {st:St}:st.after R d {dst:=v,next:=st.next}=st.put d v:=rfl
section
variable {A:Type} {C:Ctx} {R:RO} {ops:List Oper} {inl:Gc} {Good:A->Prop} {bad:A} {T:Nat->St->Prop}
def V4 (hT:XK C R ops inl Good bad T) {g:Nat} {want:Bool}:∀ {bl:List Oper} {seen:List Nat} {i:Nat} {st:St},aC ops g want seen bl=true ->
 (∀k o,bl[k]?=some o->ops[i+k]?=some o)->(∀d∈ψ bl,assoc R.renv d=none)->(ψ bl).any (Nat.beq g)=false ->
 (∀s∈seen,st.get R s=some .undef)->st.get R g=some (.v (.c (.bool !want))) ->
 ∃st',(T (i+bl.length) st'->T i st)/\(∀s,s∉ψ bl->st'.get R s=st.get R s)/\st'.heap=st.heap/\st'.next=st.next
 |[],seen,i,st,_,_,_,_,_,_=>⟨st,λh=>h,λ_ _=>rfl,rfl,rfl⟩
 |o::r,seen,i,st,h,X,I,hg,t,Y=>by
  simp only[aC] at h;split at h
  .cases h
  rename_i j w a8;split at h
  .cases h
  rename_i g' a6;split at h
  .rename_i aa;have Z:Told R ops st o false:=by
    refine ⟨j,w,g',a8,a6,?_⟩;rcases (Bool.or_eq_true_iff ..).1 aa with y|y
    .exact .inr (t g' (any_beq.1 y))
    .simp only[Qab] at y;have e1:=beq_true y.1;have e2:=uQ y.2;subst e1;subst e2;exact .inl Y
   have ab:free R o.dst=true:=by
    cases E:o.dst with
    |none=>rfl
    |some d=>exact Pε.2 (I d (by simp[ψ,E]))
   have a1:∀k o',r[k]?=some o'->ops[i+1+k]?=some o':=λk o' hk=>by have:=X (k+1) o' (by simpa using hk);rwa [show i+(k+1)=i+1+k by omega] at this
   have J:∀d∈ψ r,d∈ψ (o::r):=λd E=>by
    simp only[ψ];split
    .exact Qak _ E
    .exact E
   have ad:(ψ r).any (Nat.beq g)=false:=by
    cases hb:(ψ r).any (Nat.beq g) with
    |false=>rfl
    |true =>have:=any_beq.2 (J g (any_beq.1 hb));rw[hg] at this;cases this
   have a7:∀d,o.dst=some d->d≠g:=λd E e=>by
    have:g∈ψ (o::r):=by simp[ψ,E,e]
    rw[any_beq.2 this] at hg;cases hg
   obtain⟨st',h1,h2,h3,h4⟩:=V4 hT (i:=i+1) (st:=st.put o.dst (some .undef)) h a1 (λd E=>I d (J d E)) ad
    λs y=>by
      cases E:o.dst with
      |none=>rw[E] at y;exact t s y
      |some d =>
       rw[E] at y;rw[Fx];split
       .rfl
       .rename_i ae;rcases List.mem_cons.1 y with e|y
        .exact absurd e.symm ae
        .exact t s y
    (by
      cases E:o.dst with
      |none=>exact Y
      |some d=>rw[Fx,if_neg (a7 d E)];exact Y);refine ⟨st',λht=>hT.skip i st o (X 0 o rfl) Z ab (h1 ?_),λs y=>?_,h3.trans Yo,h4.trans CG⟩
   .rw[Qay] at ht;rwa [show i+(r.length+1)=i+1+r.length by omega] at ht
   .rw[h2 s λhm=>y (J s hm)];cases E:o.dst with
    |none=>rfl
    |some d =>rw[Fx,if_neg];exact λe=>y (by simp[ψ,E,e])
  .cases h
def Cur (R:RO) (ops:List Oper) (cur:Option (Nat×Bool)) (ds:List Nat) (st:St):Prop :=
 match cur with
 |none=>True
 |some (j,w)=>∃g,Fc ops j=some g/\st.get R g=some (.v (.c (.bool w)))/\g∉ds
def Mε (R:RO) (ds:List Nat) (st st':St):Prop:=∀s,s∉ds->∀b,st.get R s=some (.v (.c (.bool b)))->st'.get R s=some (.v (.c (.bool b)))
def Cur.told {cur ds st o} (h:Cur R ops cur ds st) (d:Gz o.guard cur=true):Told R ops st o true:=by
 have e:=pL d;cases c:cur with
 |none=>exact .inl (e.trans c)
 |some x =>subst c;obtain⟨g,h1,t,_⟩:=h;exact .inr ⟨_,_,g,e,h1,t⟩
def Cur.hold {cur ds ds' st st' es} (h:Cur R ops cur ds st) (y:∀d∈ds',d∈ds) (E:∀d∈es,d∈ds) (I:Mε R es st st'):Cur R ops cur ds' st':=by
 cases J:cur with
 |none=>trivial
 |some x =>subst J;obtain⟨g,h1,X,t⟩:=h;exact ⟨g,h1,I g (λc=>t (E g c)) _ X,λc=>t (y g c)⟩
def mT {ks s b} {st:St} (h:st.get R s=some (.v (.c (.bool b)))) e d n (g:e=(st.Γ R ks).env):({env:=e,heap:=d,next:=n}:St).get R s=some (.v (.c (.bool b))):=by
 subst g;cases ks with
 |nil=>exact h
 |cons k ks =>
  simp only[St.Γ,St.get,PC] at h ⊢;cases t:assoc st.env s with
  |none=>simp_all
  |some v=>rw[t] at h;simp only at h;subst h;rfl
def ZH {st d e}:Mε R d.toList st (st.after R d e):=λs g b c=>by
 unfold St.after;cases d with
 |none=>exact mT c _ _ _ rfl
 |some d =>rw[Fx,if_neg λe=>g (by simp[e])];exact mT c _ _ _ rfl
def Gp {o r}:ψ (o::r)=o.dst.toList++ψ r:=by simp only[ψ]<;>grind
def Jo {l m}:ψ (l++m)=ψ l++ψ m:=by
 induction l with
 |nil=>rfl
 |cons o r c=>rw[Qbs,Gp,Gp,c,Qaq]
end
section
variable {A:Type} {C:Ctx} {R:RO} {ops:List Oper} {inl:Gc} {Good:A->Prop} {bad:A} {T:Nat->St->Prop}
structure Kept (R:RO) (ds:List Nat) (st st1:St):Prop where
 env:∀s,s∉ds->st1.get R s=st.get R s
 obj:∀k o,st.obj R k=some o->st1.obj R k=some o
 next:st.next<=st1.next
def Kept.refl ds st:Kept R ds st st:=⟨λ_ _=>rfl,λ_ _ h=>h,χ _⟩
def Kept.trans {ds es st st1 c} (h:Kept R ds st st1) (h':Kept R es st1 c):Kept R (ds++es) st c :=
 ⟨λs d=>by simp only[Qck,not_or] at d;rw[h'.env s d.2,h.env s d.1],λk o g=>h'.obj k o (h.obj k o g),Qbh h.next h'.next⟩
def Vε {st d v}:Kept R d.toList st (st.put d v) :=
 ⟨λs c=>by
   cases d with
   |none=>rfl
   |some d=>rw[Fx,if_neg λe=>c (by simp[e])],λk o g=>by rw[PI];exact g,by rw[CG]<;>omega⟩
def yD {st d e} (h:e.Γ=[]) (c:Sz R st e.upd=true) (t:st.next<=e.next):Kept R d.toList st (st.after R d e):=by
 unfold St.after;rw[h];refine Kept.trans (ds:=[]) (st1:={env:=st.env,heap:=Bw e.upd st.heap,next:=e.next}) ⟨λ_ _=>rfl,λk o y=>?_,t⟩ Vε;unfold Sz at c;split at c
 .rename_i g;rw[g];exact y
 .rename_i k' o' g;rw[g];simp only[Bw];rw[Dv]<;>grind
 .cases c
def Abw {e} (c:e.Γ=[]):JD R e=true:=by simp[JD,c]
def Mq {g want c} (h:Sk R ops g want c=true):aC ops g want [] c=true/\(ψ c).any (Nat.beq g)=false/\∀d∈ψ c,assoc R.renv d=none:=by
 unfold Sk at h;split at h
 .rename_i h1 t y;exact ⟨h1,t,sε.1 y⟩
 .cases h
def PH {g} {ds:List Nat} (h:ds.any (Nat.beq g)=false):g∉ds:=λc=>by rw[any_beq.2 c] at h;cases h
def Tn {g d v} {st st1:St} (c:∀x∈ψ g,assoc R.renv x=none) (h:st.next<=st1.next) :
 Kept R (ψ g++d.toList) st (St.put {env:=ω (ψ g) st.env,heap:=st.heap,next:=st1.next} d v):=by refine Kept.trans (st1:={env:=ω (ψ g) st.env,heap:=st.heap,next:=st1.next}) ⟨λs t=>?_,λk o y=>y,h⟩ Vε;have:=Qi (st:=st) c (s:=s);rw[if_neg t] at this;exact this
def Lh:∀ {n} {cur} {l} {st st1},GZ C R ops n cur l st=some st1->τ R st->Kept R (ψ l) st st1/\τ R st1
 |0,_,_,_,_,h,_=>by simp[GZ] at h
 |n+1,cur,[],st,st1,h,d=>by simp[GZ] at h;subst h;exact ⟨.refl _ _,d⟩
 |n+1,cur,o::r,st,st1,h,d=>by
  simp only[GZ] at h;have one:∀ {e:Eff} {out:υ},aop C R st o=some out->out.run=some e->free R o.dst=true->e.Γ=[]->Sz R st e.upd=true->GZ C R ops n cur r (st.after R o.dst e)=some st1->Kept R (ψ (o::r)) st st1/\τ R st1:=λI hr J h1 t Y=>by have hs:=(Iu I hr).1;obtain⟨k1,Z⟩:=Lh Y (d.after J hs);rw[Gp];exact ⟨(yD h1 t hs.le).trans k1,Z⟩
  split at h
  .split at h
   .rename_i e I J;split at h
    .rename_i h1 t;exact one I rfl J h1 t h
    .cases h
   .rename_i Tt x f I J;split at h
    .rename_i h1 t;exact one I rfl J h1 t h
    .cases h
   .cases h
  .split at h
   .cases h
   rename_i j want aa;split at h
   .cases h
   rename_i g a8;split at h
   .rename_i c bl p a b r' hg a1;split at h
    .rename_i a6 X t ab a7;split at h
     .rename_i x y hx hy;obtain⟨Y,_⟩:=KT a1;obtain⟨_,_,E⟩:=Mq X;obtain⟨k1,_⟩:=Lh t d;obtain⟨Z,k3⟩:=Lh h ((d.ω (ψ bl) st.heap a6.next d.heap k1.next).put a7 _);refine ⟨?_,k3⟩;rw[Y,Jo,Gp];have:=(Tn E k1.next).trans Z;rwa [Qaq] at this
     .cases h
    .cases h
   .cases h
def eD (hT:XK C R ops inl Good bad T) {i g:Nat} {want c:Bool} {st st1:St} {E r':List Oper} {p:Oper} {a b:Operand} {x y:Bool} {cur:Option (Nat×Bool)}
 (Z:∀k o,(E++p::r')[k]?=some o->ops[i+k]?=some o) (hg:st.get R g=some (.v (.c (.bool c)))) (a7:Sk R ops g want E=true) (hp:p.op=.pick (.tmp g) a b) (ah:Gz p.guard cur=true) (ai:free R p.dst=true)
 (a8:Cur R ops cur (ψ (E++p::r')) st) (aa:c=want->T (i+E.length) st1->T i st) (hk:Kept R (ψ E) st st1)
 (hx:Ω R (match (generalizing:=false) want with|true=>st1|false=>st.drop (ψ E)) a=some (.bool x)) (hy:Ω R (match (generalizing:=false) want with|true=>st.drop (ψ E)|false=>st1) b=some (.bool y))
 (ht:T (i+(E.length+1)) (St.put {env:=ω (ψ E) st.env,heap:=st.heap,next:=st1.next} p.dst (some (.v (.c (.bool (VJ c want a b x y))))))):T i st:=by
 obtain⟨aj,ab,X⟩:=Mq a7;rw[Abl (λh=>Abx hy h) λh=>Adh hx h] at ht;have ak:ops[i+E.length]?=some p:=Z E.length p (by simp);have ad:∀s v,(st.drop (ψ E)).get R s=some v->s∉ψ E/\st.get R s=some v:=λs v h=>by
  rw[Qi X] at h;split at h
  .cases h
  .rename_i J;exact ⟨J,h⟩
 have pick:∀t:St,Kept R (ψ E) st t->t.next<=st1.next->∀z,Ω R t (match c with|true=>a|false=>b)=some (.bool z)->γ c x y=z->T (i+E.length) t:=λt I hn z hz he=>by
  have al:t.get R g=some (.v (.c (.bool c))):=by rw[I.env g (PH ab)];exact hg
  have a6:Told R ops t p true:=by refine (a8.hold (ds':=[]) (es:=ψ E) (λd hd=>by cases hd) (λd hd=>by rw[Jo];exact Qah _ hd) λs J b' hb=>?_).told ah;rw[I.env s J];exact hb
  refine hT.op _ t p (.ok {dst:=some (.v (.c (.bool z))),next:=t.next}) _ ak a6 ?_ rfl rfl ai ?_
  .have h1:Ω R t (.tmp g)=some (.bool c):=by simp[Ω,opv,al]
   have Y:=TH hz;cases c<;>simp only at Y<;>simp[aop,hp,h1,Y]
  .rw[dZ];refine hT.weak _ _ _ ⟨λs v J=>?_,λk o ho=>?_,?_⟩ ht
   .rw[he] at J;have hd:=λs v (h:({env:=ω (ψ E) st.env,heap:=st.heap,next:=st1.next}:St).get R s=some v)=>ad s v h;cases ae:p.dst with
    |none=>rw[ae] at J;obtain⟨h1,Y⟩:=hd s v J;show t.get R s=some v;rw[I.env s h1];exact Y
    |some d =>
     rw[ae,Fx] at J;rw[Fx];split at J
     .rename_i e;rw[if_pos e];exact J
     .rename_i e;rw[if_neg e];obtain⟨h1,Y⟩:=hd s v J;rw[I.env s h1];exact Y
   .rw[PI] at ho ⊢;exact I.obj k o ho
   .rw[CG,CG];exact hn
 by_cases af:c=want
 .refine aa af (pick st1 hk (χ _) (γ c x y) ?_ rfl);subst af;cases c with
  |true=>exact hx
  |false=>exact hy
 .have a1:c=!want:=by cases c<;>cases want<;>simp_all
  obtain⟨t,h1,Y,h3,h4⟩:=V4 hT (i:=i) (st:=st) aj (λk o hk=>Z k o (by rw[Qdc (List.getElem?_eq_some_iff.1 hk).1];exact hk)) X ab (λs J=>by cases J) (by rw[hg,a1]);have I:Kept R (ψ E) st t:=⟨Y,λk o ho=>by simpa[St.obj,h3] using ho,by rw[h4];exact χ _⟩;refine h1 (pick t I (by rw[h4];exact hk.next) (γ c x y) ?_ rfl);have ag:∀s v,(st.drop (ψ E)).get R s=some v->t.get R s=some v:=λs v h=>by obtain⟨h5,h6⟩:=ad s v h;rw[Y s h5];exact h6
  subst a1;cases want with
  |true=>exact Aby ag hy
  |false=>exact Aby ag hx
def oP {o r i} (h:∀k o',(o::r)[k]?=some o'->ops[i+k]?=some o'):∀k o',r[k]?=some o'->ops[i+1+k]?=some o':=λk o' c=>by have:=h (k+1) o' (by simpa using c)<;>grind
def fH {c r p i} (h:∀k o',(c++p::r)[k]?=some o'->ops[i+k]?=some o'):∀k o',r[k]?=some o'->ops[i+(c.length+1)+k]?=some o':=λk o' d=>by have:=h (c.length+1+k) o' (by grind)<;>grind
def Q6 {c r p} {i:Nat} (h:∀k o',(c++p::r)[k]?=some o'->ops[i+k]?=some o'):∀k o',c[k]?=some o'->ops[i+k]?=some o':=λk o' d =>h k o' (by grind)
def X5 {st d v}:Mε R d.toList st (st.put d v):=λs c b g=>by rw[Vε.env s c];exact g
def Kept.hold {ds st st1} (h:Kept R ds st st1):Mε R ds st st1:=λs c b d=>by rw[h.env s c];exact d
def Mε.trans {ds es st st1 c} (h:Mε R ds st st1) (h':Mε R es st1 c):Mε R (ds++es) st c:=λs d b g=>by simp only[Qck,not_or] at d;exact h' s d.2 b (h s d.1 b g)
def Ps (hT:XK C R ops inl Good bad T):∀ {n} {cur} {l} {i} {st st1},GZ C R ops n cur l st=some st1->(∀k o,l[k]?=some o->ops[i+k]?=some o)->Cur R ops cur (ψ l) st->τ R st ->
 T (i+l.length) st1->T i st
 |0,_,_,_,_,_,h,_,_,_,_=>by simp[GZ] at h
 |n+1,cur,[],i,st,st1,h,_,_,_,ht=>by simp[GZ] at h<;>simp_all
 |n+1,cur,o::r,i,st,st1,h,t,E,I,ht=>by
  simp only[GZ] at h;rw[Qay,show i+(r.length+1)=i+1+r.length by omega] at ht;split at h
  .rename_i X;have one:∀ {e:Eff} {out:υ},aop C R st o=some out->out.run=some e->free R o.dst=true->e.Γ=[]->GZ C R ops n cur r (st.after R o.dst e)=some st1->T i st:=λ{e out} ha hr hf h1 h3=>by refine hT.op i st o out e (t 0 o rfl) (E.told X) ha hr (Abw h1) hf ?_;refine Ps hT h3 (oP t) ?_ (I.after hf (Iu ha hr).1) ht;rw[Gp] at E;exact E.hold (λd Y=>Qan _ Y) (λd Y=>Qah _ Y) ZH
   split at h
   .rename_i e ha hf;split at h
    .rename_i h1 h2;exact one ha rfl hf h1 h
    .cases h
   .rename_i Tt x f ha hf;split at h
    .rename_i h1 h2;exact one ha rfl hf h1 h
    .cases h
   .cases h
  .split at h
   .cases h
   rename_i j want ae;split at h
   .cases h
   rename_i g a1;split at h
   .rename_i c bl p a b r' hg a7;split at h
    .rename_i a8 J h2 X a6;split at h
     .rename_i x y hx hy;obtain⟨h3,hp⟩:=KT a7;rw[h3] at t E;obtain⟨af,aa,Z⟩:=Mq J;obtain⟨k1,ka⟩:=Lh h2 I;have ad:r.length=bl.length+r'.length:=by have:=congrArg List.length h3;simp at this;omega
      refine eD hT t hg J hp X a6 E (λab=>Ps hT h2 (Q6 t) ⟨g,a1,by rw[hg,ab],PH aa⟩ I) k1 hx hy ?_;refine Ps hT h (fH t) ?_ ((I.ω (ψ bl) st.heap a8.next I.heap k1.next).put a6 _) ?_
      .refine E.hold (λd Y=>by rw[Jo,Gp];exact Qan _ (Qan _ Y)) (λd Y=>by rw[Jo,Gp,<-Qaq];exact Qah _ Y) (Tn Z k1.next).hold
      .rw[show i+(bl.length+1)+r'.length=i+1+r.length by omega];exact ht
     .cases h
    .cases h
   .cases h
def oN (hT:XK C R ops inl Good bad T) {i g:Nat} {c:Bool} {I h:St} {p:Oper} {a b:Operand} {v:aε} (X:ops[i]?=some p) (Y:h.get R g=some (.v (.c (.bool c)))) (y:Told R ops h p true)
 (hp:p.op=.pick (.tmp g) a b) (Z:free R p.dst=true) (t:Le R I h) (hv:opv R h (match (generalizing:=false) c with|true=>a|false=>b)=some v) (ht:T (i+1) (I.put p.dst (some v))):T i h:=by
 refine hT.op _ h p (.ok {dst:=some v,next:=h.next}) _ X y ?_ rfl rfl Z ?_
 .have h1:Ω R h (.tmp g)=some (.bool c):=by simp[Ω,opv,Y]
  cases c<;>simp only at hv<;>simp[aop,hp,h1,hv]
 .rw[dZ];refine hT.weak _ _ _ ⟨λs u E=>?_,λk o ho=>?_,?_⟩ ht
  .cases J:p.dst with
   |none=>rw[J] at E;exact t.env s u E
   |some d =>
    rw[J,Fx] at E;rw[Fx];split at E
    .rename_i e;rw[if_pos e];exact E
    .rename_i e;rw[if_neg e];exact t.env s u E
  .rw[PI] at ho ⊢;exact t.obj k o ho
  .rw[CG,CG];exact t.next
def aF {α o} {hbad:¬Good bad} {f:α->A} (h:Good (Rg o bad f)):∃x,o=some x/\Good (f x):=by unfold Rg at h<;>grind
def AeD {st ds} (c:∀d∈ds,assoc R.renv d=none):Le R (st.drop ds) st :=
 ⟨λs v g=>by rw[Qi c] at g<;>simp_all,λk o h=>h,χ _⟩
def OD (hbad:¬Good bad) (hT:XK C R ops inl Good bad T):∀ {n} {cur} {l} {i} {st} {K},(∀k o,l[k]?=some o->ops[i+k]?=some o)->Cur R ops cur (ψ l) st->τ R st ->
 (∀st',τ R st'->Mε R (ψ l) st st'->Good (K st')->T (i+l.length) st')->Good (Gh C inl R ops n cur l st K bad)->T i st
 |0,_,_,_,_,_,_,_,_,_,h=>absurd h hbad
 |n+1,cur,[],i,st,K,_,_,X,hK,h=>hK st X (λ_ _ _ h=>h) h
 |n+1,cur,o::r,i,st,K,t,J,X,hK,h=>by
  simp only[Gh] at h;rw[Qay,show i+(r.length+1)=i+1+r.length by omega] at hK;split at h
  .rename_i a7;have a8:∀ {st1:St},τ R st1->Mε R o.dst.toList st st1->Good (Gh C inl R ops n cur r st1 K bad)->T (i+1) st1:=λ{st1} ha hh hg=>by rw[Gp] at J;refine OD hbad hT (oP t) (J.hold (λd hd=>Qan _ hd) (λd hd=>Qah _ hd) hh) ha (λst' ah ai aj=>hK st' ah ?_ aj) hg;rw[Gp];exact hh.trans ai
   split at h
   .rename_i I vs an;split at h
    .rename_i hf;refine hT.inl i st o I vs _ (t 0 o rfl) (J.told a7) an hf X h λv hp nx h1 hg=>a8 ?_ ?_ hg
     .exact τ.put (st:={st with heap:=hp,next:=nx}) ⟨X.env,λk hk=>(h1 k hk).1,λk hk=>(h1 k hk).2⟩ hf v
     .exact Mε.trans (ds:=[]) (st1:={st with heap:=hp,next:=nx}) (λs _ b hb=>hb) X5
    simp_all
   .obtain⟨hf,out,e,ha,hr,hg⟩:=Xc hbad h;obtain⟨ar,hg⟩:=zU hbad hg;exact hT.op i st o out e (t 0 o rfl) (J.told a7) ha hr ar hf (a8 (X.after hf (Iu ha hr).1) ZH hg)
  .split at h
   .exact absurd h hbad
   rename_i j want aP;split at h
   .exact absurd h hbad
   rename_i g ae;split at h
   .rename_i c Z p a b r' hg au;split at h
    .rename_i af a7 a6;obtain⟨h3,hp⟩:=KT au;rw[h3] at t J;obtain⟨av,aa,Y⟩:=Mq af;have aB:r.length=Z.length+r'.length:=by have:=congrArg List.length h3<;>grind
     have aw:ψ (o::r)=ψ Z++(p.dst.toList++ψ r'):=by rw[h3,Jo,Gp]
     have ao:= t Z.length p (by simp_all);have after:∀ {E:St},τ R E->Mε R (ψ Z++p.dst.toList) st E->Good (Gh C inl R ops n cur r' E K bad)->T (i+(Z.length+1)) E:=λ{E} ha hh hg=>by refine OD hbad hT (fH t) (J.hold λd hd=>by simp_all λd hd=>by grind hh) ha (λst' ah ai aj=>?_) hg;rw[show i+(Z.length+1)+r'.length=i+1+r.length by omega];refine hK st' ah ?_ aj;rw[aw,<-Qaq];exact hh.trans ai
     split at h
     .rename_i st1 ag;split at h
      .rename_i x y hx hy;obtain⟨k1,ka⟩:=Lh ag X;refine eD hT t hg af hp a7 a6 J (λab=>Ps hT ag (Q6 t) ⟨g,ae,by rw[hg,ab],PH aa⟩ X) k1 hx hy ?_;exact after ((X.ω (ψ Z) st.heap st1.next X.heap k1.next).put a6 _) (Tn Y k1.next).hold h
      .exact absurd h hbad
     .have told:∀ {E:St},Mε R (ψ Z) st E->Told R ops E p true:=λ{E} hh =>(J.hold (ds':=[]) (λd hd=>by cases hd) (λd hd=>by rw[Jo];exact Qah _ hd) hh).told a7;have ad:∀ {E:St},Mε R (ψ Z) st E->Mε R (ψ Z) st (E.drop (ψ Z)):=λ{E} hh s hs b hb=>by rw[Qi Y,if_neg hs];exact hh s hs b hb
      have taken:∀x,c=want->(match (generalizing:=false) c with|true=>a|false=>b)=x->Good (Gh C inl R ops n (some (j,want)) Z st (λst1=>Rg (opv R st1 x) bad λv=>Gh C inl R ops n cur r' (St.put (st1.drop (ψ Z)) p.dst (some v)) K bad) bad)->T i st:=λx ab hx h=>by refine OD hbad hT (cur:=some (j,want)) (Q6 t) ⟨g,ae,by rw[hg,ab],PH aa⟩ X (λst1 ax ak ay=>?_) h;obtain⟨v,hv,al⟩:=aF (hbad:=hbad) ay;refine oN hT ao (ak g (PH aa) c hg) (told ak) hp a6 (AeD Y) (by rw[hx];exact hv) ?_;exact after ((ax.drop _).put a6 _) ((ad ak).trans X5) al
      have a1:∀x,c=!want->(match (generalizing:=false) c with|true=>a|false=>b)=x->Good (Rg (opv R (st.drop (ψ Z)) x) bad λv=>Gh C inl R ops n cur r' (St.put (st.drop (ψ Z)) p.dst (some v)) K bad)->T i st:=λx ab hx h=>by
       obtain⟨v,hv,al⟩:=aF (hbad:=hbad) h;obtain⟨E,h1,h2,h3,h4⟩:=V4 hT av (Q6 t) Y aa (λs hs=>by cases hs) (by rw[hg,ab]);have aq:Le R (st.drop (ψ Z)) E:=⟨λs u hs=>by
        rw[Qi Y] at hs;split at hs
        .cases hs
        .rename_i hn;rw[h2 s hn];exact hs,λk ob az=>by simpa[St.obj,St.drop,h3] using az,by rw[h4];exact χ _⟩;refine h1 (oN hT ao (by rw[h2 g (PH aa)];exact hg) (told λs hs b hb=>by rw[h2 s hs];exact hb) hp a6 aq (by rw[hx];exact Abz aq.env hv) ?_);exact after ((X.drop _).put a6 _) ((ad λ_ _ _ h=>h).trans X5) al
      split at h
      .cases c with
       |true=>exact taken a rfl rfl h
       |false=>exact a1 b rfl rfl h
      .cases c with
       |true=>exact a1 a rfl rfl h
       |false=>exact taken b rfl rfl h
    .exact absurd h hbad
   .exact absurd h hbad
end
def TL (tmps:Array Value) (d:Option Nat) (v:Value):Array Value :=
 match d with
 |some t=>tmps.setIfInBounds t v
 |none=>tmps
def Z2 {B R st μ O w tmps d e v w' μ' O'} (I:CN R st μ O w tmps)
 (g:Ev B R (st.mem R e) μ O w μ' O' w') (h:∀x u,BW w O μ x u->BW w' O' μ' (My (st.obj R) e.Γ x) u) (J:∀x,e.dst=some x->BW w' O' μ' x v) (Y:∀t,d=some t->t<tmps.size) :
 CN R (st.after R d e) μ' O' w' (TL tmps d v):=λs x c=>by
 have old:∀x,({env:=(st.Γ R e.Γ).env,heap:=Bw e.upd (st.Γ R e.Γ).heap,next:=e.next}:St).get R s=some x->BW w' O' μ' x (tmps.getD s undef):=λx c=>by
  cases X:e.Γ with
  |nil =>rw[X] at c;exact D3 g.keeps g.le x (I s x c)
  |cons k ks =>
   rw[X] at c h;simp only[St.Γ,St.get,PC] at c;cases E:assoc st.env s with
   |none =>rw[E] at c;exact D3 g.keeps g.le x (I s x (by simp only[St.get,E];exact c))
   |some o =>
    rw[E] at c;simp only[Qai] at c;cases o with
    |none=>cases c
    |some y =>simp only[Qai,Qaf] at c;subst c;exact h y _ (I s y (by simp only[St.get,E]))
 cases d with
 |none=>exact old x c
 |some t =>unfold St.after at c;rw[Fx] at c;simp only[TL];by_cases Z:t=s<;>simp_all
def NO (a:Act) d v:(a.put d v).tmps=TL a.tmps d v:=by cases d<;>rfl
def put_defers (a:Act) d v:(a.put d v).defers=a.defers:=by cases d<;>rfl
def CH (a:Act) d v:(a.put d v).tmps.size=a.tmps.size:=by cases d<;>simp[Act.put]
def Abj {B R μ O w d e} {st:St} (h:ρ B R (st.mem R e) μ O w):ρ B R (st.after R d e) μ O w:=by
 refine h.congr (λk o c=>?_) ?_
 .unfold St.after at c;rw[PI] at c;exact c
 .unfold St.after;rw[CG];exact χ _
def Ys {R st μ O w tmps d x v} (h:CN R st μ O w tmps) (I:∀y,x=some y->BW w O μ y v) (E:∀t,d=some t->t<tmps.size) :
 CN R (st.put d x) μ O w (TL tmps d v):=λs y g=>by
 cases d with
 |none=>exact h s y g
 |some t =>
  rw[Fx] at g;simp only[TL];by_cases c:t=s
  .simp_all
  .rw[if_neg c] at g;rw[show (tmps.setIfInBounds t v).getD s undef=tmps.getD s undef by simp[Qbt c]];exact h s y g
def oZ {B R st μ O w d x} (h:ρ B R st μ O w):ρ B R (st.put d x) μ O w :=
 h.congr (λk o c=>by rw[PI] at c;exact c) (by rw[CG]<;>omega)
def Le.mem {B R st' st μ O w} (c:Le R st' st) (h:ρ B R st μ O w):ρ B R st' μ O w:=h.congr c.obj c.next
def Le.relE {R st' st μ O w tmps} (c:Le R st' st) (h:CN R st μ O w tmps):CN R st' μ O w tmps:=λs v d=>h s v (c.env s v d)
def Zv {j g} {ops:Array Oper} (h:Fc ops.toList j=some g):ops[j]?.bind (·.dst)=some g:=by unfold Fc at h<;>grind
def Lf {R ops st μ O w tmps o b} (t:CN R st μ O w tmps) (h:Told R ops.toList st o b):Region.wanted o (yielded ops tmps)=b:=by
 cases b with
 |true =>
  rcases h with h|⟨j,v,g,h1,y,c⟩
  .simp[Region.wanted,h]
  .have d:tmps.getD g undef=.bool v:=t g _ c;have:yielded ops tmps j=some v:=by
    unfold yielded;rw[Zv y];simp only[Qeh];have:tmps[g]?=some (.bool v):=by
     cases hg:tmps[g]? with
     |none=>simp[hg,undef] at d
     |some u=>simp_all
    rw[this]
   simp[Region.wanted,h1,this]
 |false =>
  obtain⟨j,v,g,h1,y,c⟩:=h;have key:yielded ops tmps j≠some v:=by
   unfold yielded;rw[Zv y];simp only[Qeh];rcases c with c|c
   .have d:tmps.getD g undef=.bool !v:=t g _ c;have:tmps[g]?=some (.bool !v):=by
     cases hg:tmps[g]? with
     |none=>simp[hg,undef] at d
     |some u=>simp_all
    rw[this];cases v<;>simp
   .have d:= t g _ c;cases hg:tmps[g]? with
    |none=>simp
    |some u=>simp[hg] at d;subst d;simp[undef]
  simp[Region.wanted,h1,key]
structure HD (C:Ctx) (B:Ξ) (inl:Gc):Prop where
 enters:∀f I,C.inl f=some I->∀(args:Array Value) (w:World),(callFunc f args).run C.P w=.ok (.enter f args) w
 calls:∀ {A:Type} (Good:A->Prop) (bad:A),¬Good bad->∀(f:FuncId) (I:Inl) (R:RO) (vs:List aε) (h:H4) (nx:Nat) (K:Option aε->H4->Nat->A) (μ:AI) (O:Nat->Prop) (w:World) (us:List Value),
  C.inl f=some I->vs.length=I.nargs->π (BW w O μ) vs us->(∀k,assoc R.rheap k≠none->assoc h k=none/\k<nx)->ρ B R {env:=[],heap:=h,next:=nx} μ O w->Good (inl R I vs h nx K bad) ->
  Calls C.P f us.toArray w λe w'=>∃v,e=.returned v/\∃x h' nx' μ' O',μle μ μ'/\ν w O w' O'/\ρ B R {env:=[],heap:=h',next:=nx'} μ' O' w'/\(∀y,x=some y->BW w' O' μ' y v) /\
   (∀k,assoc R.rheap k≠none->assoc h' k=none/\k<nx')/\(∀k p,μ k=some p->k<nx')/\Good (K x h' nx')
section
variable {A:Type} {C:Ctx} {B:Ξ} {R:RO} {inl:Gc} {Good:A->Prop} {bad:A}
structure At (B:Ξ) (R:RO) (N:Nat) (μ0:AI) (O0:Nat->Prop) (w0:World) (st:St) (μ:AI) (O:Nat->Prop) (a:Act) (w:World):Prop where
 mem:ρ B R st μ O w
 env:CN R st μ O w a.tmps
 defers:a.defers=B.dfr
 size:N<=a.tmps.size
 le:μle μ0 μ
 keeps:ν w0 O0 w O
 dom0:∀k p,μ0 k=some p->k<st.next
def TC (P:Program) (B:Ξ) (R:RO) (N:Nat) (μ0:AI) (O0:Nat->Prop) (w0:World) (ops:Array Oper) (Q:Exit->Act->World->Prop) (i:Nat) (st:St):Prop :=
 ∀μ O a w,At B R N μ0 O0 w0 st μ O a w->wpOps P ops Q (List.range' i (ops.size-i)) a w
def TP {i o} {ops:Array Oper} (h:ops.toList[i]?=some o):ops[i]?=some o/\List.range' i (ops.size-i)=i::List.range' (i+1) (ops.size-(i+1)):=by
 have h':ops[i]?=some o:=by simp_all
 have c:= (Array.getElem?_eq_some_iff.1 h').1;exact ⟨h',by rw[show ops.size-i=ops.size-(i+1)+1 by omega,Qge]⟩
def Afa {N μ0 O0 w0 st μ O a w o out e next Q} (Y:DG C B) (c:At B R N μ0 O0 w0 st μ O a w) (Z:∀k,st.next<=k->k<st.next+16->¬B.D k)
 (I:aop C R st o=some out) (J:out.run=some e) (y:JD R e=true) (hN:∀d,o.dst=some d->d<N)
   (hn:∀μ' O' X w',At B R N μ0 O0 w0 (st.after R o.dst e) μ' O' X w'->next X w'):o.wp C.P a w next Q:=by refine (eA Y c.mem Z c.env I J y).wp λv w' ⟨μ',O',g,E,h⟩=>hn μ' O' _ w' ?_;refine ⟨Abj g.mem,?_,by rw[put_defers];exact c.defers,by rw[CH];exact c.size,c.le.trans g.le,c.keeps.trans g.keeps,λk p hk=>Qac (c.dom0 k p hk) (by unfold St.after;rw[CG];exact (Iu I J).1.le)⟩;rw[NO];exact Z2 c.env g E h λt ht=>Qac (hN t ht) c.size
def At.skip {N μ0 O0 w0 st μ O a w d} (h:At B R N μ0 O0 w0 st μ O a w) (c:∀t,d=some t->t<N):At B R N μ0 O0 w0 (st.put d (some .undef)) μ O (a.put d undef) w :=
 ⟨oZ h.mem,by rw[NO];exact Ys h.env λy g=>by cases g;rfl λt E=>Qac (c t E) h.size,by rw[put_defers];exact h.defers,by rw[CH];exact h.size,h.le,h.keeps,λk p I=>by rw[CG];exact h.dom0 k p I⟩
def uN {st μ O w} {a:Act} (c:CN R st μ O w a.tmps):∀ {xs} {vs},Dε.avs R st xs=some vs->π (BW w O μ) vs (xs.map a.eval)
 |[],vs,h=>by simp[Dε.avs] at h;subst h;exact .nil
 |x::r,vs,h=>by
  simp only[Dε.avs] at h;split at h
  .rename_i v l h1 d;cases h;exact .cons (Bv c h1) (uN c d)
  .cases h
def xS {st:St} {μ:AI} {O:Nat->Prop} {w:World} {a:Act} {P:Program} {o:Oper} {c:Call} {f:Operand} {vs us:List aε} {g:FuncId} (hE:CN R st μ O w a.tmps) (t:π (BW w O μ) vs (c.args.toList.map a.eval)) (h:Vd (opv R st f) vs=some (g,us))
 (J:o.op=.call c) (y:c.callee=.value f) (E:∀args w,(callFunc g args).run P w=.ok (.enter g args) w):∃ul:List Value,π (BW w O μ) us ul/\(execOp a.eval o).run P w=.ok (.enter g ul.toArray) w:=by
 cases Y:opv R st f with
 |none=>rw[Y] at h;cases h
 |some x =>
 rw[Y] at h;cases x;case fn Z cs =>
  simp only[Vd,Qaf,Qcv] at h;obtain⟨rfl,rfl⟩:=h;obtain⟨X,I,d⟩:∃vs,a.eval f=.func (.func Z) #[] vs/\π (AQ w O μ) cs vs.toList:=Bv hE Y;refine ⟨_,t.append (d.map (R':=BW w O μ) (λc=>aε.v (.c c)) λc v h=>h),?_⟩;have he:(c.args.toList.map a.eval++X.toList).toArray=c.args.map a.eval++X:=by simp_all
  rw[he];simp[execOp,J,resolve,y,I,Deferred.ofValue,invoke,E]
 case bfn Z cs =>
  simp only[Vd,Qaf,Qcv] at h;obtain⟨rfl,rfl⟩:=h;obtain⟨X,I,d⟩:∃vs,a.eval f=.func (.func Z) vs #[]/\π (AQ w O μ) cs vs.toList:=Bv hE Y;refine ⟨_,(d.map (R':=BW w O μ) (λc=>aε.v (.c c)) λc v h=>h).append t,?_⟩;have he:(X.toList++c.args.toList.map a.eval).toArray=X++c.args.map a.eval:=by simp_all
  rw[he];simp[execOp,J,resolve,y,I,Deferred.ofValue,invoke,E]
 all_goals cases h
def pF {N μ0 O0 w0 ops Q} (hC:DG C B) (hbad:¬Good bad) (hB:∀k,¬B.D k) (Y:HD C B inl)
 (hN:∀(i:Nat) o,ops.toList[i]?=some o->∀d,o.dst=some d->d<N):XK C R ops.toList inl Good bad (TC C.P B R N μ0 O0 w0 ops Q) where
 weak i st st' a1 h μ O a w E:=h μ O a w ⟨a1.mem E.mem,a1.relE E.env,E.defers,E.size,E.le,E.keeps,λk p hk=>Qac (E.dom0 k p hk) a1.next⟩
 op i st o out e Z ht ha hr ae hf h μ O a w E:=by obtain⟨J,X⟩:=TP Z;rw[X,wpOps_cons];unfold wpOp;rw[J];simp only[Lf E.env ht,if_true];exact .inl (Afa hC E (λk _ _=>hB k) ha hr ae (hN i o Z) λμ' O' a' w' h'=>h μ' O' a' w' h')
 skip i st o Z ht hf h μ O a w E:=by obtain⟨J,X⟩:=TP Z;rw[X,wpOps_cons];unfold wpOp;rw[J];simp only[Lf E.env ht,Qcz,if_false];exact h μ O _ w (E.skip (hN i o Z))
 inl i st o I vs K Z ht hi hf a7 hg hK μ O a w E:=by
  obtain⟨J,X⟩:=TP Z;rw[X,wpOps_cons];unfold wpOp;rw[J];simp only[Lf E.env ht,if_true];refine .inl ?_;unfold Dε at hi;split at hi
  .rename_i c af;split at hi
   .rename_i f a8;split at hi
    .rename_i an ag;split at hi
     .rename_i g us ah;split at hi
      .rename_i I' hI;split at hi
       .rename_i hn;simp only[Qaf,Qcv] at hi;obtain⟨rfl,rfl⟩:=hi;obtain⟨ul,aa,ab⟩:=xS E.env (uN E.env ag) ah (by rw[af]) a8 (Y.enters g _ hI);unfold Oper.wp;rw[ab];refine (Y.calls Good bad hbad g _ R _ st.heap st.next K μ O w _ hI (by simpa using beq_true hn) aa (λk hk=>⟨a7.heap k hk,a7.next k hk⟩) (E.mem.congr (λk o h=>h) (χ _)) hg).mono ?_;rintro e w' ⟨v,rfl,x,h',a6,μ',O',ad,hk,hM,hv,ai,aj,ak⟩;refine hK x h' a6 ai ak μ' O' _ w' ⟨oZ (st:={st with heap:=h',next:=a6}) (hM.congr (λk o h=>h) (χ _)),?_,by rw[put_defers];exact E.defers,by rw[CH];exact E.size,E.le.trans ad,E.keeps.trans hk,λk p al=>by rw[CG];exact aj k p (E.le k p al)⟩;rw[NO];exact Ys (st:={st with heap:=h',next:=a6}) (λs y hy=>D3 hk ad y (E.env s y hy)) hv λt ht=>Qac (hN i o Z t ht) E.size
       .cases hi
      .cases hi
     .cases hi
    .cases hi
   .cases hi
  .cases hi
def y8 (I:DG C B) (hbad:¬Good bad) (J:∀k,¬B.D k) (c:HD C B inl) {N:Nat} {id:Nat} {ops:Array Oper} {Q:Exit->Act->World->Prop}
 (X:∀(i:Nat) (o:Oper),ops.toList[i]?=some o->∀d,o.dst=some d->d<N) {st:St} {μ:AI} {O:Nat->Prop} {a:Act} {w:World} {μ0:AI} {O0:Nat->Prop} {w0:World} (y:At B R N μ0 O0 w0 st μ O a w) (E:τ R st) {n:Nat} {K:St->A}
 (Y:∀st' μ' O' t w',τ R st'->At B R N μ0 O0 w0 st' μ' O' t w'->Good (K st')->Q .normal t w') (h:Good (Gh C inl R ops.toList n none ops.toList st K bad)):(Code.region id ops false).wp C.P Q a w:=by
 refine wp_region ?_;have:=OD hbad (pF (R:=R) (μ0:=μ0) (O0:=O0) (w0:=w0) (Q:=Q) I hbad J c X) (i:=0) (cur:=none) λk o hk=>by rwa [Qbm] trivial E (λst' Z _ hg μ' O' t w' g=>?_) h μ O a w y
 .rwa [List.range_eq_range']
 .rw[Qbm,Qat,Nat.sub_self];exact Y st' μ' O' t w' Z g hg
end
def NY (n:Nat):Cell->Prop
 |.ref k | .ptr k _ | .eptr k _ | .sub k _ _ | .mref k=>k<n
 |_=>True
def Y7 (n:Nat):V1->Prop
 |.c c=>NY n c
 |.a cs=>∀c∈cs,NY n c
def wR (n:Nat):aε->Prop
 |.v x=>Y7 n x
 |.tup xs=>∀x∈xs,Y7 n x
 |.iptr cs | .fn _ cs | .bfn _ cs=>∀c∈cs,NY n c
 |.fptr k _ _=>k<n
 |.fns l | .fna l=>∀x∈l,∀c∈x.2.2,NY n c
 |.fnp x=>∀c∈x.2.2,NY n c
 |_=>True
def wQ (n:Nat):Ψ->Prop
 |.box cs=>∀c∈cs,NY n c
 |.arr .. | .map ..=>True
section
variable {B:Ξ} {w:World} {O:Nat->Prop} {μ μ':AI} {n:Nat}
def π.both {α β:Type} {P:α->β->Prop} {l:List α} {m} (h:π P l m) {p:α->Prop} (c:∀a b,P a b->p a):∀a∈l,p a:=by
 induction h with
 |nil=>simp_all
 |cons h1 _ d =>grind
def π.Kε {α β:Type} {P Q:α->β->Prop} {l:List α} {m} (h:π P l m) {p:α->Prop} (c:∀a∈l,p a) (d:∀a b,p a->P a b->Q a b):π Q l m:=by
 induction h with
 |nil=>exact .nil
 |cons h1 _ g=>exact .cons (d _ _ (c _ (by simp)) h1) (g λa t=>c a (Qak _ t))
def Iy (d:∀k p,μ k=some p->k<n):∀(c:Cell) (v:Value),AQ w O μ c v->NY n c
 |.int _ _,_,_=>trivial
 |.bool _,_,_=>trivial
 |.sl _ _,_,_=>trivial
 |.nils,_,_=>trivial
 |.ref _,_,⟨_,_,_,_,e,_⟩=>d _ _ e
 |.ptr _ _,_,⟨_,e,_⟩=>d _ _ e
 |.eptr _ _,_,⟨_,_,_,_,e,_⟩=>d _ _ e
 |.nilp,_,_=>trivial
 |.mref _,_,⟨_,e,_⟩=>d _ _ e
 |.lit _,_,_=>trivial
 |.sub _ _ _,_,⟨_,_,_,_,_,_,e,_⟩=>d _ _ e
def Z4 (d:∀k p,μ k=some p->k<n):∀x v,Cl w O μ x v->Y7 n x
 |.c c,v,h=>Iy d c v h
 |.a _,_,⟨_,_,h⟩=>h.both (Iy d)
def VQ (d:∀k p,μ k=some p->k<n):∀x v,Nj w O μ x v->∀c∈x.2.2,NY n c
 |(_,true,_),_,⟨_,_,h⟩=>h.both (Iy d)
 |(_,false,_),_,⟨_,_,h⟩=>h.both (Iy d)
def AbQ (c:∀k p,μ k=some p->k<n):∀x v,BW w O μ x v->wR n x
 |.undef,_,_=>trivial
 |.v x,v,h=>Z4 c x v h
 |.tup _,_,⟨_,_,h⟩=>h.both (Z4 c)
 |.iptr _,_,⟨_,_,_,_,_,_,_,h⟩=>h.both (Iy c)
 |.fn _ _,_,⟨_,_,h⟩=>h.both (Iy c)
 |.bfn _ _,_,⟨_,_,h⟩=>h.both (Iy c)
 |.fptr _ _ _,_,⟨_,_,_,_,e,_⟩=>c _ _ e
 |.str _,_,_=>trivial
 |.fns _,_,⟨_,_,_,_,_,_,h⟩=>h.both (VQ c)
 |.fnp x,_,⟨_,_,u,_,_,_,_,h⟩=>VQ c x u h
 |.fna _,_,⟨_,_,h⟩=>h.both (VQ c)
def AbO {k} (c:∀k p,μ k=some p->k<n):∀o,bε w O μ k o->wQ n o
 |.box _,⟨_,_,_,_,_,h⟩=>h.both (Iy c)
 |.arr ..,_=>trivial
 |.map ..,_=>trivial
def Iz (t:∀k,k<n->μ' k=μ k):∀(c:Cell) (v:Value),NY n c->AQ w O μ c v->AQ w O μ' c v
 |.int _ _,_,_,h=>h
 |.bool _,_,_,h=>h
 |.sl _ _,_,_,h=>h
 |.nils,_,_,h=>h
 |.ref _,_,g,⟨a,b,c,d,e,r⟩=>⟨a,b,c,d,(t _ g).trans e,r⟩
 |.ptr _ _,_,g,⟨a,e,r⟩=>⟨a,(t _ g).trans e,r⟩
 |.eptr _ _,_,g,⟨a,b,c,d,e,r⟩=>⟨a,b,c,d,(t _ g).trans e,r⟩
 |.nilp,_,_,h=>h
 |.mref _,_,g,⟨a,e,r⟩=>⟨a,(t _ g).trans e,r⟩
 |.lit _,_,_,h=>h
 |.sub _ _ _,_,g,⟨a,b,c,d,y,E,e,r⟩=>⟨a,b,c,d,y,E,(t _ g).trans e,r⟩
def Z5 (g:∀k,k<n->μ' k=μ k):∀x v,Y7 n x->Cl w O μ x v->Cl w O μ' x v
 |.c c,v,d,h=>Iz g c v d h
 |.a _,_,d,⟨vs,e,h⟩=>⟨vs,e,h.Kε d (Iz g)⟩
def VR (g:∀k,k<n->μ' k=μ k):∀x v,(∀c∈x.2.2,NY n c)->Nj w O μ x v->Nj w O μ' x v
 |(_,true,_),_,d,⟨vs,e,h⟩=>⟨vs,e,h.Kε d (Iz g)⟩
 |(_,false,_),_,d,⟨vs,e,h⟩=>⟨vs,e,h.Kε d (Iz g)⟩
def AbR (t:∀k,k<n->μ' k=μ k):∀x v,wR n x->BW w O μ x v->BW w O μ' x v
 |.undef,_,_,h=>h
 |.v x,v,g,h=>Z5 t x v g h
 |.tup _,_,g,⟨vs,e,h⟩=>⟨vs,e,h.Kε g (Z5 t)⟩
 |.iptr _,_,g,⟨a,b,c,e,r1,r2,y,h⟩=>⟨a,b,c,e,r1,r2,y,h.Kε g (Iz t)⟩
 |.fn _ _,_,g,⟨vs,e,h⟩=>⟨vs,e,h.Kε g (Iz t)⟩
 |.bfn _ _,_,g,⟨vs,e,h⟩=>⟨vs,e,h.Kε g (Iz t)⟩
 |.fptr _ _ _,_,g,⟨a,b,c,d,e,r⟩=>⟨a,b,c,d,(t _ g).trans e,r⟩
 |.str _,_,_,h=>h
 |.fns _,_,g,⟨b,us,e,r1,r2,y,h⟩=>⟨b,us,e,r1,r2,y,h.Kε g (VR t)⟩
 |.fna _,_,g,⟨us,e,h⟩=>⟨us,e,h.Kε g (VR t)⟩
 |.fnp x,_,g,⟨b,off,u,e,r1,r2,y,h⟩=>⟨b,off,u,e,r1,r2,y,VR t x u g h⟩
def AbP {k} (d:∀k,k<n->μ' k=μ k) (g:k<n):∀o,wQ n o->bε w O μ k o->bε w O μ' k o
 |.box _,t,⟨b,vs,e,h1,y,h⟩=>⟨b,vs,e,(d k g).trans h1,y,h.Kε t (Iz d)⟩
 |.arr ..,_,⟨a,cap,h1,r⟩=>⟨a,cap,(d k g).trans h1,r⟩
 |.map ..,_,⟨b,es,c,h1,r⟩=>⟨b,es,c,(d k g).trans h1,r⟩
end
section
variable {B:Ξ} {R:RO} {st:St} {μ:AI} {O O1:Nat->Prop} {w:World} {tmps:Array Value} {R1:RO} {n0:Nat}
def keyed:Item->Bool
 |.slot .. | .own ..=>false
 |_=>true
def Zh {t own c g rem sc Z} (hB:∀k,¬B.D k) (hS:Src B R st μ O O1 w tmps (g.gone++rem)) (hg:Sl R st t own c=some g) (a1:(g.gone++rem).Nodup)
 (a6:∀k∈g.Γ,∀p b,μ k=some p->p.block=some b->¬O1 b/\b<w.heap.size) (y:g.key<n0) (hI:Inv B R st μ O1 w tmps R1 n0 (g.gone++rem) sc Z) :
 ∃μ',Inv B R st μ O1 w tmps R1 n0 rem { (IJ own t 0 g.val sc).2 with heap:=(g.key,.box (IJ own t 0 g.val sc).1)::(IJ own t 0 g.val sc).2.heap} μ':=by
 unfold Sl at hg;split at hg
 .rename_i cs E;split at hg
  .rename_i x f gn hd;cases hg;have d:st.obj R c=some (.box cs):=by simp[St.obj,E]
   obtain⟨bb,vs,el,I,hc,ha⟩:=hS.mem.heap c _ d;have h:∀k,k∈gn++c::rem↔k∈c::gn++rem:=λk=>by grind
   have J:(gn++c::rem).Nodup:=by grind
   obtain⟨v1,v2,μ',e,X,Y,a7,hr⟩:=AcI hB t hd ha a6 {hS with own:=λk E=>hS.own k ((h k).1 E)} J (hI.weaken λk E=>(h k).1 E);cases X;rw[Qbd] at e;exact ⟨μ',Inv.nε Y (λhm=>(List.nodup_append.1 a1).2.2 c (by simp) c hm rfl) (λp b I hb=>⟨hS.own c (by simp) _ d p b I hb,(hS.mem.own c _ d p b I hb).2⟩) (λk0 o0 p0 b p e1 e2 e3 e4 e5=>hS.mem.inj k0 c o0 _ e1 d p0 p b e2 e4 e3 e5) d y I
    ⟨bb,vs,el,(Y.agree c y).trans I,hc,by simp_all⟩⟩
  .cases hg
 .cases hg
def aS {i g rem sc ag} (hB:∀k,¬B.D k) (hS:Src B R st μ O O1 w tmps (g.gone++rem)) (hg:BG R st i=some g) (a6:(g.gone++rem).Nodup)
 (ae:∀k∈g.Γ,∀p b,μ k=some p->p.block=some b->¬O1 b/\b<w.heap.size) (Z:keyed i=true->g.key<n0) (hI:Inv B R st μ O1 w tmps R1 n0 (g.gone++rem) sc ag) :
 ∃μ',Inv B R st μ O1 w tmps R1 n0 rem (SK i g.key g.val sc) μ':=by
 have E:∀ {k o},assoc st.heap k=some o->st.obj R k=some o:=λ{k o} h=>by simp[St.obj,h]
 have own:∀k∈g.gone++rem,∀o,st.obj R k=some o->∀p b,μ k=some p->p.block=some b->O1 b/\(B.base<=b/\¬B.F b)/\b<w.heap.size:=λk hk o ho p b I J =>⟨hS.own k hk o ho p b I J,(hS.mem.own k o ho p b I J).2⟩;have inj:= λ{k o} hk k0 o0 p0 b p h1 h2 h3 h4 h5=>hS.mem.inj k0 k o0 o h1 hk p0 p b h2 h4 h3 h5;cases i with
 |slot s t =>
  simp only[BG] at hg;split at hg
  .rename_i v hv;split at hg
   .rename_i x f ax hd;cases hg;refine ⟨ag,{hI with mem:=hI.mem.congr (λk o h=>h) (χ _),env:=?_}⟩;have hr:= hS.env s _ hv;refine Yr hI.env ?_ _ _;show Cl w O1 ag (Ru t x) _;rw[X2 hr ax];exact NB t (KF hS.keeps hS.mem.heap hd hr ae)
   .cases hg
  .cases hg
 |own s t =>
  simp only[BG] at hg;split at hg
  .rename_i hv;cases hg;obtain⟨ad,ev⟩:=hS.env s _ hv;obtain⟨μ',h1,h2,h3⟩:=Inv.fresh (o:=.arr t []) hB (.arr ad 0 0 t.size) [] hI (λb J=>by cases ad<;>simp[Place.block] at J) (λb J=>by cases ad<;>simp[Place.block] at J) λμ' _ hn=>⟨ad,0,hn,χ _,Qaw _,.inl rfl⟩;exact ⟨μ',{h1 with mem:=h1.mem.congr (λk o h=>h) (χ _),env:=Yr (x:=.v (.c (.ref sc.next))) (λu v hv=>h1.env u v hv) ⟨ad,0,0,t.size,h3,ev⟩ _ _}⟩
  .rename_i k hv;split at hg
   .rename_i t' l hk;split at hg
    .rename_i l' hc;cases hg;obtain⟨rfl,rfl⟩:=Ea hc;have d:=E hk;obtain⟨p,I⟩:=(hS.mem.heap k _ d).some;obtain⟨μ',h1,h2,h3⟩:=Inv.fresh hB p [k] hI (λb J=>own k (by simp) _ d p b I J) (λb J=>⟨k,_,by simp,λhm=>(List.nodup_append.1 a6).2.2 k (by simp) k hm rfl,d,I,λk0 ai p0 Y e2 e3=>inj d k0 ai p0 b p Y e2 e3 I J⟩) λμ' _ hn=>Ns hS.keeps (hS.mem.heap k _ d) I hn;refine ⟨μ',{h1 with mem:=h1.mem.congr (λk o h=>h) (χ _),env:=Yr (λu v hv=>h1.env u v hv) ?_ _ _}⟩;obtain⟨a1,a2,a3,a4,Y,e2⟩:=hS.env s _ hv;rw[I] at Y;cases Y;exact ⟨a1,a2,a3,a4,h3,e2⟩
    .cases hg
   .cases hg
  .cases hg
 |box s t =>
  simp only[BG] at hg;split at hg
  .rename_i k hv;split at hg
   .rename_i cs hk;split at hg
    .rename_i x f hd;cases hg;have d:=E hk;have a7:= Z rfl;obtain⟨b,vs,el,I,hc,ha⟩:=hS.mem.heap k _ d;obtain⟨v1,v2,e,ay,af⟩:=Ee hS.keeps hS.mem.heap t hd ha ae;cases af;refine ⟨ag,Inv.nε hI (λhm=>(List.nodup_append.1 a6).2.2 k (by simp) k hm rfl) (λp b I J=>own k (by simp) _ d p b I J) (λk0 o0 p0 b p Y e2 e3 e4 e5=>inj d k0 o0 p0 b p Y e2 e3 e4 e5) d a7 I ⟨b,vs,el,(hI.agree k a7).trans I,hc,?_⟩⟩;rw[e,Qbd];exact Fw t ay
    .cases hg
   .cases hg
  .cases hg
 |arr s t =>
  simp only[BG] at hg;split at hg
  .rename_i k hv;split at hg
   .rename_i t' l hk;split at hg
    .rename_i l' hc;cases hg;obtain⟨rfl,rfl⟩:=Ea hc;have d:=E hk;have a7:= Z rfl;obtain⟨p,I⟩:=(hS.mem.heap k _ d).some;exact ⟨ag,Inv.nε hI (λhm=>(List.nodup_append.1 a6).2.2 k (by simp) k hm rfl) (λp b I J=>own k (by simp) _ d p b I J) (λk0 o0 p0 b p Y e2 e3 e4 e5=>inj d k0 o0 p0 b p Y e2 e3 e4 e5) d a7 I (Ns hS.keeps (hS.mem.heap k _ d) I ((hI.agree k a7).trans I))⟩
    .cases hg
   .cases hg
  .cases hg
 |map s t =>
  simp only[BG] at hg;split at hg
  .rename_i k hv;split at hg
   .rename_i t' l hk;split at hg
    .rename_i l' hc;cases hg;obtain⟨Y,e2⟩:=Ea hc;cases Y;cases e2;have d:=E hk;have a7:= Z rfl;obtain⟨b,es,c,I,az,ha⟩:=hS.mem.heap k _ d;exact ⟨ag,Inv.nε hI (λhm=>(List.nodup_append.1 a6).2.2 k (by simp) k hm rfl) (λp b I J=>own k (by simp) _ d p b I J) (λk0 o0 p0 b p Y e2 e3 e4 e5=>inj d k0 o0 p0 b p Y e2 e3 e4 e5) d a7 I ⟨b,es,c,(hI.agree k a7).trans I,az,ha.mono λe m ⟨us,r,r'⟩=>⟨us,Av hS.keeps t r,r'⟩⟩⟩
    .cases hg
   .cases hg
  .cases hg
 |barr s t =>
  simp only[BG] at hg;split at hg
  .rename_i b hv;split at hg
   .rename_i k J;split at hg
    .rename_i t' l hk;split at hg
     .rename_i l' hc;cases hg;obtain⟨rfl,rfl⟩:=Ea hc;have d:=E hk;have a7:= Z rfl;obtain⟨p,I⟩:=(hS.mem.heap k _ d).some;exact ⟨ag,Inv.nε hI (λhm=>(List.nodup_append.1 a6).2.2 k (by simp) k hm rfl) (λp b I J=>own k (by simp) _ d p b I J) (λk0 o0 p0 b p Y e2 e3 e4 e5=>inj d k0 o0 p0 b p Y e2 e3 e4 e5) d a7 I (Ns hS.keeps (hS.mem.heap k _ d) I ((hI.agree k a7).trans I))⟩
     .cases hg
    .cases hg
   .cases hg
  .cases hg
 |bown s t =>
  simp only[BG] at hg;split at hg
  .rename_i b hv;split at hg
   .rename_i J;cases hg;have X:=E J;have a8:= Z rfl;obtain⟨bb,vs,el,I,hc,ha⟩:=hS.mem.heap b _ X;have aj:∃ad,vs.toList=[.slice ad 0 0]:=by
     generalize vs.toList=us at ha;cases ha with
     |cons h1 h2 =>cases h2;obtain⟨ad,e⟩:=h1;exact ⟨ad,by rw[e]⟩
    obtain⟨ad,an⟩:=aj;obtain⟨μ',h1,h2,h3⟩:=Inv.fresh (o:=.arr t []) hB (.arr ad 0 0 t.size) [] hI (λb J=>by cases ad<;>simp[Place.block] at J) (λb J=>by cases ad<;>simp[Place.block] at J) λμ' _ hn=>⟨ad,0,hn,χ _,Qaw _,.inl rfl⟩;refine ⟨μ',Inv.nε h1 (λhm=>(List.nodup_append.1 a6).2.2 b (by simp) b hm rfl) (λp b I J=>own _ (by simp) _ X p b I J) (λk0 o0 p0 b p Y e2 e3 e4 e5=>inj X k0 o0 p0 b p Y e2 e3 e4 e5) X a8 I ⟨bb,vs,el,(h1.agree b a8).trans I,hc,?_⟩⟩;rw[an];exact .cons ⟨ad,0,0,t.size,h3,rfl⟩ .nil
   .rename_i k J;split at hg
    .rename_i t' l hk;split at hg
     .rename_i l' hc;cases hg;obtain⟨rfl,rfl⟩:=Ea hc;have X:=E J;have d:=E hk;have aa:=List.nodup_append.1 a6;have ao:k∉b::rem:=by
       intro hm;rcases List.mem_cons.1 hm with e|hm
       .have:=aa.1;simp[e] at this
       .exact aa.2.2 k (by simp) k hm rfl
      have a8:= Z rfl;obtain⟨bb,vs,el,I,aB,ha⟩:=hS.mem.heap b _ X;obtain⟨p,ab⟩:=(hS.mem.heap k _ d).some;have aj:∃u,vs.toList=[u]/\AQ w O μ (.ref k) u:=by
       generalize vs.toList=us at ha;cases ha with
       |cons h1 h2=>cases h2;exact ⟨_,rfl,h1⟩
      obtain⟨u,an,hu⟩:=aj;obtain⟨μ',h1,h2,h3⟩:=Inv.fresh hB p [k] (hI.weaken λk' aq=>by simpa[or_comm,or_left_comm] using aq) (λbl ah=>own k (by simp) _ d p bl ab ah) (λbl ah=>⟨k,_,by simp,ao,d,ab,λk0 ai p0 Y e2 e3=>inj d k0 ai p0 bl p Y e2 e3 ab ah⟩) λμ' _ hn=>Ns hS.keeps (hS.mem.heap k _ d) ab hn;refine ⟨μ',Inv.nε h1 (λhm=>aa.2.2 b (by simp) b hm rfl) (λp b I J=>own _ (by simp) _ X p b I J) (λk0 o0 p0 b p Y e2 e3 e4 e5=>inj X k0 o0 p0 b p Y e2 e3 e4 e5) X a8 I ⟨bb,vs,el,(h1.agree b a8).trans I,aB,?_⟩⟩;rw[an];obtain⟨a1,a2,a3,a4,Y,e2⟩:=hu;rw[ab] at Y;cases Y;exact .cons ⟨a1,a2,a3,a4,h3,e2⟩ .nil
     .cases hg
    .cases hg
   .cases hg
  .cases hg
 |fown s ta t tb =>
  simp only[BG] at hg;split at hg
  .rename_i b hv;split at hg
   .rename_i cs J;split at hg
    .rename_i x c r f av;split at hg
     .rename_i y g' aw;have X:=E J;obtain⟨bb,vs,el,I,hc,ha⟩:=hS.mem.heap b _ X;split at hg
      .cases hg;obtain⟨v1,v2,Y,ak,ar⟩:=Ee hS.keeps hS.mem.heap ta av ha λk hk=>ae k (Qah _ hk);obtain⟨u,v3,rfl,hu,au⟩:∃u v3,v2=u::v3/\AQ w O μ .nils u/\π (AQ w O μ) r v3:=by
        cases ar with
        |cons h1 h2=>exact ⟨_,_,rfl,h1,h2⟩
       obtain⟨v4,v5,e2,al,af⟩:=Ee hS.keeps hS.mem.heap tb aw au λk hk=>ae k (Qan _ hk);cases af;obtain⟨ad,eu⟩:=hu;have a8:= Z rfl;obtain⟨μ',h1,h2,h3⟩:=Inv.fresh (o:=.arr t []) hB (.arr ad 0 0 t.size) [] hI (λb J=>by cases ad<;>simp[Place.block] at J) (λb J=>by cases ad<;>simp[Place.block] at J) λμ' _ hn=>⟨ad,0,hn,χ _,Qaw _,.inl rfl⟩;refine ⟨μ',Inv.nε h1 (λhm=>(List.nodup_append.1 a6).2.2 b (by simp) b hm rfl) (λp b I J=>own _ (by simp) _ X p b I J) (λk0 o0 p0 b p Y e2 e3 e4 e5=>inj X k0 o0 p0 b p Y e2 e3 e4 e5) X a8 I ⟨bb,vs,el,(h1.agree b a8).trans I,hc,?_⟩⟩;rw[Y,e2,Qbd];exact (Fw ta ak).append (.cons ⟨ad,0,0,t.size,h3,eu⟩ (Fw tb al))
      .rename_i k;split at hg
       .rename_i t' l hk;split at hg
        .rename_i l' aP;cases hg;obtain⟨rfl,rfl⟩:=Ea aP;obtain⟨v1,v2,Y,ak,ar⟩:=Ee hS.keeps hS.mem.heap ta av ha λk hk=>ae k (Qah _ hk);obtain⟨u,v3,rfl,hu,au⟩:∃u v3,v2=u::v3/\AQ w O μ (.ref k) u/\π (AQ w O μ) r v3:=by
          cases ar with
          |cons h1 h2=>exact ⟨_,_,rfl,h1,h2⟩
         obtain⟨v4,v5,e2,al,af⟩:=Ee hS.keeps hS.mem.heap tb aw au λk hk=>ae k (Qan _ hk);cases af;have d:=E hk;have aa:=List.nodup_append.1 a6;have ao:k∉b::rem:=by
          intro hm;rcases List.mem_cons.1 hm with e|hm
          .have:=aa.1;simp[e] at this
          .exact aa.2.2 k (by simp) k hm rfl
         have a8:= Z rfl;obtain⟨p,ab⟩:=(hS.mem.heap k _ d).some;obtain⟨μ',h1,h2,h3⟩:=Inv.fresh hB p [k] (hI.weaken λk' aq=>by simpa[or_comm,or_left_comm] using aq) (λbl ah=>own k (by simp) _ d p bl ab ah) (λbl ah=>⟨k,_,by simp,ao,d,ab,λk0 ai p0 Y e2 e3=>inj d k0 ai p0 bl p Y e2 e3 ab ah⟩) λμ' _ hn=>Ns hS.keeps (hS.mem.heap k _ d) ab hn;refine ⟨μ',Inv.nε h1 (λhm=>aa.2.2 b (by simp) b hm rfl) (λp b I J=>own _ (by simp) _ X p b I J) (λk0 o0 p0 b p Y e2 e3 e4 e5=>inj X k0 o0 p0 b p Y e2 e3 e4 e5) X a8 I ⟨bb,vs,el,(h1.agree b a8).trans I,hc,?_⟩⟩;rw[Y,e2,Qbd];obtain⟨a1,a2,a3,a4,g1,g2⟩:=hu;rw[ab] at g1;cases g1;exact (Fw ta ak).append (.cons ⟨a1,a2,a3,a4,h3,g2⟩ (Fw tb al))
        .cases hg
       .cases hg
      .cases hg
     .cases hg
    .cases hg
   .cases hg
  .cases hg
 |fbox s t ow =>
  simp only[BG] at hg;split at hg
  .rename_i bk hv;exact Zh hB hS hg a6 ae (Z rfl) hI
  .contradiction
 |nbox t ow =>
  simp only[BG] at hg;split at hg
  .exact Zh hB hS hg a6 ae (Z rfl) hI
  .contradiction
end
section
variable {B:Ξ} {R:RO} {st:St} {μ:AI} {O O1:Nat->Prop} {w:World} {tmps:Array Value} {R1:RO} {n0:Nat}
def JB (p:Nat->Prop):List Item->List Nat->Prop
 |[],_=>True
 |i::r,ks=>(keyed i=true->p (ks.headD 0))/\JB p r ks.tail
def MB {p q} (h:∀k,p k->q k):∀ {l} {ks},JB p l ks->JB q l ks
 |[],_,_=>trivial
 |_::_,_,⟨h1,c⟩=>⟨λd=>h _ (h1 d),MB h c⟩
def QV {h y own}:∀T {off} {cs} {x} {rest} {g gn},JO h y own T off cs=some (x,rest,g,gn)->(∀k∈gn,∃o,y k=some o)/\∀k∈g,∃t l,h k=some (.arr t l):=by
 have leaf:∀T {cs:List Cell} {x:T.δ} {rest:List Cell} {g gn:List Nat},Ih h T cs=some (x,rest,g,gn)->(∀k∈gn,∃o,y k=some o)/\∀k∈g,∃t l,h k=some (.arr t l):=λT cs x rest g gn d=>by
  unfold Ih at d;split at d
  .rename_i x' X Y E;cases d;exact ⟨nofun,GN T E⟩
  .cases d
 intro T;induction T with
 |int k=>intro off cs x rest g gn d;exact leaf (.int k) d
 |bool=>intro off cs x rest g gn d;exact leaf .bool d
 |unit=>intro off cs x rest g gn d;exact leaf .unit d
 |slice t _ =>
  intro off cs x rest g gn d;cases cs with
  |nil=>simp[JO,Ih,dec] at d
  |cons c r =>simp only[JO] at d;split at d<;>grind
 |pair a b I J =>intro off cs x rest g gn d;simp only[JO] at d<;>grind
def N2 {t own c g} (h:Sl R st t own c=some g):g.key∈g.gone/\(∀k∈g.gone,∃o,assoc st.heap k=some o)/\∀k∈g.Γ,∃t l,st.obj R k=some (.arr t l):=by
 unfold Sl at h;split at h
 .rename_i cs y;split at h
  .rename_i x f gn d;cases h;obtain⟨h1,E⟩:=QV t d<;>simp_all
  .cases h
 .cases h
def Tc {own}:∀T {off} {x} {sc},τ R1 sc->τ R1 (IJ own T off x sc).2/\sc.next<=(IJ own T off x sc).2.next:=by
 intro T;induction T with
 |int k=>intro off x sc h;exact ⟨h,χ _⟩
 |bool=>intro off x sc h;exact ⟨h,χ _⟩
 |unit=>intro off x sc h;exact ⟨h,χ _⟩
 |slice t _ =>
  intro off x sc h;simp only[IJ];split
  .exact ⟨h,χ _⟩
  .refine ⟨⟨h.env,λk c=>?_,λk c=>Qca (h.next k c)⟩,Nat.le_succ _⟩;have:=h.next k c;rw[AE,if_neg (by omega)];exact h.heap k c
 |pair a b d g =>intro off x sc h;simp only[IJ]<;>grind
def Xi {i g} (h:BG R st i=some g):(keyed i=true->g.key∈g.gone)/\∀k∈g.gone,∃o,assoc st.heap k=some o:=by
 cases i with
 |slot s t =>
  simp only[BG] at h;repeat' split at h
  all_goals first|cases h|skip
  exact ⟨nofun,nofun⟩
 |own s t =>
  simp only[BG] at h;repeat' split at h
  all_goals first|cases h|skip
  .exact ⟨nofun,nofun⟩
  .exact ⟨nofun,λk c=>by simp_all⟩
 |box s t =>simp only[BG] at h<;>grind
 |arr s t =>simp only[BG] at h<;>grind
 |map s t =>simp only[BG] at h<;>grind
 |barr s t =>simp only[BG] at h;repeat' split at h<;>grind
 |bown s t =>
  simp only[BG] at h;repeat' split at h
  all_goals first|cases h|skip
  .exact ⟨λ_=>by simp,λk c=>by simp at c;subst c;exact ⟨_,by assumption⟩⟩
  .refine ⟨λ_=>by simp,λk c=>?_⟩;simp at c;rcases c with rfl|rfl
   .exact ⟨_,by assumption⟩
   .exact ⟨_,by assumption⟩
 |fown s a t b =>
  simp only[BG] at h;repeat' split at h
  all_goals first|cases h|skip
  .exact ⟨λ_=>by simp,λk c=>by simp at c;subst c;exact ⟨_,by assumption⟩⟩
  .refine ⟨λ_=>by simp,λk c=>?_⟩;simp at c;rcases c with rfl|rfl
   .exact ⟨_,by assumption⟩
   .exact ⟨_,by assumption⟩
 |fbox s t own =>
  simp only[BG] at h;split at h
  .obtain⟨h1,d,_⟩:=N2 h<;>simp_all
  .cases h
 |nbox t own =>
  simp only[BG] at h;split at h
  .obtain⟨h1,d,_⟩:=N2 h<;>simp_all
  .cases h
def KM:∀ {l} {p},DN R st l=some p->JB (·∈p.gone) l p.keys/\∀k∈p.gone,∃o,assoc st.heap k=some o
 |[],p,h=>by simp only[DN,Qaf] at h;subst h;exact ⟨trivial,nofun⟩
 |[i],p,h=>by
  simp only[DN] at h;split at h
  .rename_i g hg;cases h;obtain⟨h1,d⟩:=Xi hg;exact ⟨⟨h1,trivial⟩,d⟩
  .cases h
 |i::j::r,p,h=>by
  simp only[DN] at h;split at h
  .rename_i g q hg t;cases h;obtain⟨h1,d⟩:=Xi hg;obtain⟨y,h4⟩:=KM t;refine ⟨⟨λc=>Qah _ (h1 c),MB (λk c=>Qan _ c) y⟩,λk c=>?_⟩<;>grind
  .cases h
def aT (X:∀k,¬B.D k):∀ {l} {p} {rem} {sc} {d},DN R st l=some p->Src B R st μ O O1 w tmps (p.gone++rem)->(p.gone++rem).Nodup ->
 (∀k∈p.Γ,∀q b,μ k=some q->q.block=some b->¬O1 b/\b<w.heap.size)->JB (· < n0) l p.keys->Inv B R st μ O1 w tmps R1 n0 (p.gone++rem) sc d->∃μ',Inv B R st μ O1 w tmps R1 n0 rem (unpack l p.keys p.val sc) μ'
 |[],p,rem,sc,d,h,_,_,_,_,I=>by simp only[DN,Qaf] at h;subst h;exact ⟨d,I⟩
 |[i],p,rem,sc,d,h,hS,J,y,c,I=>by
  simp only[DN] at h;split at h
  .rename_i g hg;cases h;exact aS X hS hg J y c.1 I
  .cases h
 |i::j::r,p,rem,sc,d,h,hS,J,y,c,I=>by
  simp only[DN] at h;split at h
  .rename_i g q hg Y;cases h;have t:∀k,k∈q.gone++(g.gone++rem)↔k∈g.gone++q.gone++rem:=λk=>by grind
   have E:(q.gone++(g.gone++rem)).Nodup:=by grind
   obtain⟨Z,h1⟩:=aT X Y {hS with own:=λk c=>hS.own k ((t k).1 c)} E (λk c=>y k (Qan _ c)) c.2 (I.weaken λk c=>(t k).1 c);exact aS X {hS with own:=λk c=>hS.own k (by rcases List.mem_append.1 c with h|h<;>simp[h])} hg (List.nodup_append.1 E).2.1 (λk c=>y k (Qah _ c)) c.1 h1
  .cases h
def Wg {i key x sc} (h:τ R1 sc) (y:∀s,A6 i=some s->assoc R1.renv s=none) (d:keyed i=true->assoc R1.rheap key=none):τ R1 (SK i key x sc):=by
 have env:∀ {s:Nat} {v:Option aε},assoc R1.renv s=none->∀t,assoc R1.renv t≠none->assoc ((s,v)::sc.env) t=none:=λ{s v} y t E=>by have c:¬s=t:=λe=>E (e▸y);rw[AE,if_neg c];exact h.env t E
 have heap:∀ {k:Nat} {o:Ψ},assoc R1.rheap k=none->∀t,assoc R1.rheap t≠none->assoc ((k,o)::sc.heap) t=none:=λ{k o} y t E=>by have c:¬k=t:=λe=>E (e▸y);rw[AE,if_neg c];exact h.heap t E
 have new:assoc R1.rheap sc.next=none:=by
  cases J:assoc R1.rheap sc.next with
  |none=>rfl
  |some o=>exact absurd (h.next sc.next (by simp_all)) (Qcm _)
 cases i with
 |slot s t=>exact ⟨env (y s rfl),h.heap,h.next⟩
 |own s t=>exact ⟨env (y s rfl),heap new,λk d=>Qca (h.next k d)⟩
 |box s t=>exact ⟨h.env,heap (d rfl),h.next⟩
 |arr s t=>exact ⟨h.env,heap (d rfl),h.next⟩
 |map s t=>exact ⟨h.env,heap (d rfl),h.next⟩
 |barr s t=>exact ⟨h.env,heap (d rfl),h.next⟩
 |bown s t =>refine ⟨h.env,λu g=>?_,λk d=>Qca (h.next k d)⟩;show assoc ((key,_)::(sc.next,_)::sc.heap) u=none;have c:¬key=u:=λe=>g (e▸d rfl);rw[AE,if_neg c]<;>simp_all
 |fown s a t b =>refine ⟨h.env,λu g=>?_,λk d=>Qca (h.next k d)⟩;show assoc ((key,_)::(sc.next,_)::sc.heap) u=none;have c:¬key=u:=λe=>g (e▸d rfl);rw[AE,if_neg c]<;>simp_all
 |fbox s t own =>obtain⟨h1,I⟩:=Tc t h;refine ⟨h1.env,λu g=>?_,h1.next⟩;have c:¬key=u:=λe=>g (e▸d rfl);show assoc ((key,_)::(IJ own t 0 x sc).2.heap) u=none;rw[AE,if_neg c];exact h1.heap u g
 |nbox t own =>obtain⟨h1,I⟩:=Tc t h;refine ⟨h1.env,λu g=>?_,h1.next⟩;have c:¬key=u:=λe=>g (e▸d rfl);show assoc ((key,_)::(IJ own t 0 x sc).2.heap) u=none;rw[AE,if_neg c];exact h1.heap u g
def QH:∀ {l} {ks} {x} {sc},τ R1 sc->(∀s∈l.filterMap A6,assoc R1.renv s=none)->JB (λk=>assoc R1.rheap k=none) l ks->τ R1 (unpack l ks x sc)
 |[],_,_,_,h,_,_=>h
 |[i],ks,x,sc,h,c,d=>Wg h (λs hi=>c s (by simp[hi])) d.1
 |i::j::r,ks,x,sc,h,c,d=>by refine Wg (QH h (λs g=>c s ?_) d.2) (λs hi=>c s (by simp[hi])) d.1<;>simp_all
def XE {i key x sc}:sc.next<=(SK i key x sc).next:=by
 have key:∀own T off x sc,sc.next<=(IJ own T off x sc).2.next:=λown T off x sc=>(Tc (R1:={renv:=[],rheap:=[]}) T ⟨λ_ h=>absurd rfl h,λ_ h=>absurd rfl h,λ_ h=>absurd rfl h⟩).2;cases i;case fbox s t own=>exact key own t 0 x sc
 case nbox t own=>exact key own t 0 x sc
 all_goals simp[SK]
def RZ:∀ {l} {ks} {x} {sc},sc.next<=(unpack l ks x sc).next
 |[],_,_,_=>χ _
 |[_],_,_,_=>XE
 |_::_::_,_,_,_=>Qbh RZ XE
end
section
variable {B:Ξ} {R:RO} {st:St} {μ:AI} {O O1:Nat->Prop} {w:World} {tmps:Array Value} {R1:RO} {n0:Nat}
def ρ.move {R' st'} (h:ρ B R st μ O w) (c:∀k o,st'.obj R' k=some o->st.obj R k=some o) (d:st.next<=st'.next):ρ B R' st' μ O w :=
 {h with
  heap:=λk o e=>h.heap k o (c k o e)
  own:=λk o e=>h.own k o (c k o e)
  inj:=λk k' o o' e g=>h.inj k k' o o' (c k o e) (c k' o' g)
  dom:=λk p e=>(h.dom k p e).imp (λh=>Qac h d) id}
def Nt {ks k}:∀ {h},assoc (dropKeys ks h) k=if k∈ks then none else assoc h k
 |[]=>by simp[dropKeys,assoc]
 |(a,o)::r=>by
  simp only[dropKeys];split
  .rename_i e;have c:=any_beq.1 e;rw[Nt,AE]<;>grind
  .rename_i e;have c:a∉ks:=λd=>by rw[any_beq.2 d] at e;cases e
   rw[AE,AE,Nt]<;>grind
def NZ {k t l}:∀ {h},assoc h k=some (.arr t l)->k∈KC h
 |[],h=>by simp[assoc] at h
 |(a,.box _)::r,h=>by
  rw[AE] at h;split at h
  .cases h
  .exact NZ (h:=r) h
 |(a,.map _ _)::r,h=>by
  rw[AE] at h;split at h
  .cases h
  .exact NZ (h:=r) h
 |(a,.arr _ _)::r,h=>by
  rw[AE] at h;split at h
  .rename_i e;subst e;exact Qbr
  .exact Qak _ (NZ h)
def FI {k}:∀ {h},k∈KC h->∃o,assoc h k=some o
 |[],h=>by cases h
 |(a,.box _)::r,h=>by
  rw[AE];split
  .exact ⟨_,rfl⟩
  .exact FI h
 |(a,.map _ _)::r,h=>by
  rw[AE];split
  .exact ⟨_,rfl⟩
  .exact FI h
 |(a,.arr _ _)::r,h=>by
  rw[AE];split
  .exact ⟨_,rfl⟩
  .rename_i c;rcases List.mem_cons.1 h with e|h
   .exact absurd e.symm c
   .exact FI h
def nodup_iff:∀ {l},nodup l=true->l.Nodup
 |[],_=>List.nodup_nil
 |a::r,h=>by simp only[nodup,Qab,Qal] at h;exact List.nodup_cons.2 ⟨λc=>by (rw[any_beq.2 c] at h<;>simp_all),nodup_iff h.2⟩
def mH {a b} (h:Qa a b=true):∀k∈a,k∉b:=λk c d=>by unfold Qa at h;rw[List.all_eq_true] at h;have:=h k c;simp only[Qal] at this;rw[any_beq.2 d] at this;cases this
def r9 {i g} (h:BG R st i=some g) (I:∀s t own,i≠.fbox s t own) (J:∀t own,i≠.nbox t own):∀k∈g.Γ,∃t l,st.obj R k=some (.arr t l):=by
 cases i with
 |slot s t =>
  simp only[BG] at h;split at h
  .split at h
   .rename_i d;cases h;exact JN d
   .cases h
  .cases h
 |box s t =>
  simp only[BG] at h;split at h
  .split at h
   .split at h
    .rename_i d;cases h;exact GN t d
    .cases h
   .cases h
  .cases h
 |own s t =>simp only[BG] at h<;>grind
 |arr s t =>simp only[BG] at h<;>grind
 |map s t =>simp only[BG] at h<;>grind
 |barr s t =>simp only[BG] at h;repeat' split at h<;>grind
 |bown s t =>simp only[BG] at h;repeat' split at h<;>grind
 |fown s a t b =>
  simp only[BG] at h;split at h
  .split at h
   .split at h
    .rename_i y;split at h
     .rename_i E;have key:∀k,k∈_\/k∈_->∃t l,st.obj R k=some (.arr t l):=λk c=>c.elim (λc=>GN a y k c) λc=>GN b E k c<;>grind
     .cases h
    .cases h
   .cases h
  .cases h
 |fbox s t own=>exact absurd rfl (I s t own)
 |nbox t own=>exact absurd rfl (J t own)
def Vq {i g} (h:BG R st i=some g):∀k∈g.Γ,∃t l,st.obj R k=some (.arr t l):=by
 cases i with
 |fbox s t own =>
  simp only[BG] at h;split at h
  .exact (N2 h).2.2
  .cases h
 |nbox t own =>
  simp only[BG] at h;split at h
  .exact (N2 h).2.2
  .cases h
 |_=>exact r9 h nofun nofun
def Uj:∀ {l} {p},DN R st l=some p->∀k∈p.Γ,∃t l,st.obj R k=some (.arr t l)
 |[],p,h=>by simp only[DN,Qaf] at h<;>grind
 |[i],p,h=>by
  simp only[DN] at h;split at h
  .rename_i g hg;cases h;exact Vq hg
  .cases h
 |i::j::r,p,h=>by
  simp only[DN] at h;split at h
  .rename_i g q hg d;cases h;intro k c;rcases List.mem_append.1 c with c|c
   .exact Vq hg k c
   .exact Uj d k c
  .cases h
def VK {l p} (h:pack R st l=some p):DN R st l=some p/\p.gone.Nodup/\(∀k∈p.gone,k∉p.Γ)/\∀k∈p.Γ,assoc R.rheap k=none:=by
 unfold pack at h;split at h
 .rename_i q c;split at h
  .rename_i h1 d;cases h;simp only[Qab] at h1;refine ⟨c,nodup_iff h1.1,mH h1.2,λk g=>?_⟩<;>grind
  .cases h
 .cases h
def IK (st:St) (gone:List Nat):List Nat:=(KC st.heap).filter λk=>!gone.any (Nat.beq k)
def Cε {gone k}:k∈IK st gone↔k∈KC st.heap/\k∉gone:=by
 unfold IK;rw[List.mem_filter];refine and_congr_right λ_=>?_;simp only[Qal];constructor
 .intro h c;rw[any_beq.2 c] at h;cases h
 .intro h;cases d:gone.any (Nat.beq k)<;>simp_all
def τ.mε {k o} (h:τ R st) (c:assoc st.heap k=some o):assoc R.rheap k=none:=by
 cases d:assoc R.rheap k with
 |none=>rfl
 |some o'=>rw[h.heap k (by simp_all)] at c;cases c
def AbW (hB:∀k,¬B.D k) {l:List Item} {p:Uv (Fh l)} (a1:pack R st l=some p) (hM:ρ B R st μ O w) (hE:CN R st μ O w tmps) (a6:τ R st)
 (y:∀O1,ρ B R {env:=[],heap:=Ef (st.obj R) (IK st p.gone) st.heap,next:=st.next} μ O1 w->ν w O w O1->(∀x u,BW w O μ x u->BW w O1 μ (My (st.obj R) (IK st p.gone) x) u) ->
   ∃I,Inv B R st μ O1 w tmps R1 n0 p.gone {env:=[],heap:=[],next:=n0} I) (E:JB (· < n0) l p.keys) :
 ∃μ' O1,ν w O w O1/\Inv B R st μ O1 w tmps R1 n0 [] (unpack l p.keys p.val {env:=[],heap:=[],next:=n0}) μ':=by
 obtain⟨hp,a7,J,a8⟩:=VK a1;have g:∀k∈IK st p.gone,∃o,assoc st.heap k=some o:=λk c=>FI (Cε.1 c).1;obtain⟨O1,X,hK,hb⟩:=hM.freeze (IK st p.gone) (λk c=>by obtain⟨o,d⟩:=g k c;exact fε.2 (a6.mε d)) (λk c=>by obtain⟨o,d⟩:=g k c;exact ⟨o,by simp[St.obj,d]⟩) [];obtain⟨I,hI⟩:=y O1 X hK λx u hx=>Qh hK hM.heap hb x hx;obtain⟨_,hg⟩:=KM hp;have aa:∀k∈p.Γ,k∈IK st p.gone:=λk c=>by
  obtain⟨t,l',d⟩:=Uj hp k c;have hl:assoc st.heap k=some (.arr t l'):=by
   unfold St.obj at d;split at d
   .rename_i h;cases d;exact h
   .rw[a8 k c] at d;cases d
  exact Cε.2 ⟨NZ hl,λhm=>J k hm c⟩
 have Y:∀k∈p.gone++[],∀o,st.obj R k=some o->∀q b,μ k=some q->q.block=some b->O1 b:=λk c o _ q b hq ab=>by
  have Z:k∈p.gone:=by simpa using c
  obtain⟨o',ad⟩:=hg k Z;have ae:k∉IK st p.gone:=λhm=>(Cε.1 hm).2 Z;refine (X.own k (X4 (st.obj R) (IK st p.gone) o') ?_ q b hq ab).1;simp[St.obj,F7,ae,ad]
 obtain⟨μ',af⟩:=aT hB (rem:=[]) hp (O:=O) (O1:=O1) (tmps:=tmps) ⟨hM,hE,hK,Y⟩ (by simpa using a7) (λk c=>hb k (aa k c)) E (by simpa using hI);exact ⟨μ',O1,hK,af⟩
structure Anchor (R:RO) (n:Nat):Prop where
 env:∀s v,assoc R.renv s=some (some v)->wR n v
 heap:∀k o,assoc R.rheap k=some o->k<n/\wQ n o
def get_nil {n s}:({env:=[],heap:=[],next:=n}:St).get R s=(assoc R.renv s).join:=rfl
def SA {n k}:({env:=[],heap:=[],next:=n}:St).obj R k=assoc R.rheap k:=rfl
def Inv.jζ {gone fz O1} (hA:Anchor R n0) (hE:CN R st μ O w tmps) (h:τ R st) (hg:∀k∈gone,∃o,assoc st.heap k=some o)
 (t:ρ B R {env:=[],heap:=Ef (st.obj R) fz st.heap,next:=st.next} μ O1 w) (hK:ν w O w O1):∃Z,Inv B R st μ O1 w tmps R n0 gone {env:=[],heap:=[],next:=n0} Z:=by
 let y:= λk=>if k<n0 then μ k else none
 have hr:∀k,k<n0->y k=μ k:=λk Y=>by simp[y,Y]
 have d:∀k p,y k=some p->k<n0/\μ k=some p:=λk p J=>by grind
 have c:∀k o,assoc R.rheap k=some o->({env:=[],heap:=Ef (st.obj R) fz st.heap,next:=st.next}:St).obj R k=some o:=λk o Y=>by have:=h.heap k (by simp_all);simp[St.obj,F7,this,Y]
 have E:∀k o,assoc R.rheap k=some o->st.obj R k=some o:=λk o Y=>by have:=h.heap k (by simp_all);simp[St.obj,this,Y]
 refine ⟨y,⟨{t with heap:=λk o g=>?_,own:=λk o g p b J hb=>?_,inj:=λk k' o o' h1 X p p' b J I=>?_,dom:=λk p J=>.inl (d k p J).1},λs v hv=>?_,hr,χ _,λk' o' g p' b I hb=>?_⟩⟩
 .rw[SA] at g;obtain⟨h1,X⟩:=hA.heap k o g;exact AbP hr h1 o X (t.heap k o (c k o g))
 .rw[SA] at g;exact t.own k o (c k o g) p b (d k p J).2 hb
 .rw[SA] at h1 X;exact t.inj k k' o o' (c k o h1) (c k' o' X) p p' b (d k p J).2 (d k' p' I).2
 .rw[get_nil] at hv;cases ha:assoc R.renv s with
  |none=>simp_all
  |some u =>rw[ha] at hv;subst hv;refine AbR hr v _ (hA.env s v ha) (D3 hK (μle.refl _) v (hE s v ?_));have:=h.env s (by simp_all);simp[St.get,this,ha]
 .rw[SA] at g;refine ⟨k',o',p',E k' o' g,λhm=>?_,(d k' p' I).2,hb⟩;obtain⟨o2,X⟩:=hg k' hm;rw[h.mε X] at g;cases g
def At.again {N μ0 O0 w0 a l p} (hB:∀k,¬B.D k) (c:At B R N μ0 O0 w0 st μ O a w) (h:τ R st) (y:pack R st l=some p) (Y:Anchor R n0)
 (h0:∀k q,μ0 k=some q->k<n0) (t:JB (· < n0) l p.keys) (d:∀s∈l.filterMap A6,assoc R.renv s=none) :
 ∃μ' O',At B R N μ0 O0 w0 (unpack l p.keys p.val {env:=[],heap:=[],next:=n0}) μ' O' a w/\τ R (unpack l p.keys p.val {env:=[],heap:=[],next:=n0}):=by
 obtain⟨hp,_,_,_⟩:=VK y;obtain⟨E,hg⟩:=KM hp;obtain⟨μ',O1,I,J⟩:=AbW hB y c.mem c.env h (λO1 X I _=>Inv.jζ Y c.env h hg X I) t;refine ⟨μ',O1,⟨J.mem,J.env,c.defers,c.size,λk q g=>?_,c.keeps.trans I,λk q g=>Qac (h0 k q g) (RZ (sc:={env:=[],heap:=[],next:=n0}))⟩,QH ⟨λ_ _=>rfl,λ_ _=>rfl,λk g=>?_⟩ d (MB (λk g=>?_) E)⟩
 .rw[J.agree k (h0 k q g)];exact c.le k q g
 .cases Z:assoc R.rheap k with
  |none=>exact absurd Z g
  |some o=>exact (Y.heap k o Z).1
 .obtain⟨o,ho⟩:=hg k g;exact h.mε ho
end
section
variable {B:Ξ} {R:RO} {st:St} {μ:AI} {O O1:Nat->Prop} {w:World} {tmps:Array Value} {N:Nat} {μ0:AI} {O0:Nat->Prop} {w0:World} {a:Act}
def fP {gone c}:Bt R st gone c=(Qg (st.obj R) (IK st gone) (ω c st.env),Ef (st.obj R) (IK st gone) (dropKeys gone st.heap)):=rfl
def Qt {gone c s}:assoc (Bt R st gone c).1 s=if s∈c then none else (assoc st.env s).map (Option.map (My (st.obj R) (IK st gone))):=by rw[fP];simp only[PC,Hn]<;>grind
def Q9 {gone c k}:assoc (Bt R st gone c).2 k=if k∈IK st gone then none else if k∈gone then none else (assoc st.heap k).map (X4 (st.obj R) (IK st gone)):=by rw[fP];simp only[F7,Nt]<;>grind
def At.enter {l p c} (hB:∀k,¬B.D k) (g:At B R N μ0 O0 w0 st μ O a w) (J:τ R st) (a8:pack R st l=some p) (aa:∀s∈l.filterMap A6,s∈c) (a6:∀s∈c,assoc R.renv s=none) :
 ∃μ' O',At B (within R (Bt R st p.gone c)) N μ0 O0 w0 (unpack l p.keys p.val {env:=[],heap:=[],next:=st.next}) μ' O' a w/\τ (within R (Bt R st p.gone c)) (unpack l p.keys p.val {env:=[],heap:=[],next:=st.next}) /\
  Anchor (within R (Bt R st p.gone c)) st.next/\(∀k q,μ0 k=some q->k<st.next)/\JB (· < st.next) l p.keys/\∀s∈l.filterMap A6,assoc (within R (Bt R st p.gone c)).renv s=none:=by
 obtain⟨hp,_,_,_⟩:=VK a8
 obtain⟨ab,hg⟩:=KM hp
 have a1:= λk q d=>(g.mem.dom k q d).elim id λh=>absurd h (hB k)
 have y:∀k o,st.obj R k=some o->k<st.next:=λk o t=>by obtain⟨q,hq⟩:=(g.mem.heap k o t).some<;>simp_all
 have ad:= MB (λk d=>by obtain⟨o,t⟩:=hg k d;exact y k o (by simp[St.obj,t])) ab
 have E:∀s∈l.filterMap A6,assoc (within R (Bt R st p.gone c)).renv s=none:=λs hs=>by have h1:=aa s hs;simp[within,Dg,Qt,h1,a6 s h1]
 have I:∀k o,assoc (within R (Bt R st p.gone c)).rheap k=some o->({env:=[],heap:=Ef (st.obj R) (IK st p.gone) st.heap,next:=st.next}:St).obj R k=some o/\k∉p.gone/\∃o0,st.obj R k=some o0:=λk o d=>by
  simp only[within,Dg,Q9] at d;by_cases hf:k∈IK st p.gone
  .simp only[hf,if_true,Qet] at d;obtain⟨o',a7⟩:=FI (Cε.1 hf).1;rw[J.mε a7] at d;cases d
  .by_cases X:k∈p.gone
   .simp only[hf,X,if_true,if_false,Qet] at d;obtain⟨o',a7⟩:=hg k X;rw[J.mε a7] at d;cases d
   .simp only[hf,X,if_false] at d;cases hh:assoc st.heap k with
    |none =>rw[hh] at d;simp only[Qce,Qet] at d;exact ⟨by simp[St.obj,F7,hh,hf,d],X,o,by simp[St.obj,hh,d]⟩
    |some o1 =>rw[hh] at d;simp only[Qai,Option.orElse_some,Qaf] at d;exact ⟨by simp[St.obj,F7,hh,hf,d],X,o1,by simp[St.obj,hh]⟩
 have Y:∀O1,ρ B R {env:=[],heap:=Ef (st.obj R) (IK st p.gone) st.heap,next:=st.next} μ O1 w->ν w O w O1->(∀x u,BW w O μ x u->BW w O1 μ (My (st.obj R) (IK st p.gone) x) u) ->
  Inv B R st μ O1 w a.tmps (within R (Bt R st p.gone c)) st.next p.gone {env:=[],heap:=[],next:=st.next} μ:=λO1 ag hK ah=>by
  refine ⟨ag.move (λk o t=>(I k o t).1) (χ _),λs v Z=>?_,λ_ _=>rfl,χ _,λk' o' t p' b ai hb=>?_⟩
  .rw[get_nil] at Z;simp only[within,Dg,Qt] at Z;have outer:(assoc R.renv s).join=some v->BW w O1 μ v (a.tmps.getD s undef):=λh=>by refine D3 hK (μle.refl _) v (g.env s v ?_);have:= J.env s (λe=>by simp_all);simp[St.get,this,h]
   by_cases hs:s∈c
   .simp_all
   .simp only[hs,if_false] at Z;cases he:assoc st.env s with
    |none=>simp_all
    |some u =>
     rw[he] at Z;simp only[Qai,Option.orElse_some,Option.join_some] at Z;cases u with
     |none=>cases Z
     |some x =>simp only[Qai,Qaf] at Z;subst Z;exact ah x _ (g.env s x (by simp[St.get,he]))
  .rw[SA] at t;obtain⟨_,h2,o0,h3⟩:=I k' o' t;exact ⟨k',o0,p',h3,h2,ai,hb⟩
 obtain⟨μ',O1,hK,hI⟩:=AbW hB a8 g.mem g.env J (λO1 h1 h2 h3=>⟨μ,Y O1 h1 h2 h3⟩) ad
 have hA:Anchor (within R (Bt R st p.gone c)) st.next:=by obtain⟨O2,aj,ae,ak⟩:=g.mem.freeze (IK st p.gone) (λk d=>by obtain⟨o,t⟩:=FI (Cε.1 d).1;exact fε.2 (J.mε t)) (λk d=>by obtain⟨o,t⟩:=FI (Cε.1 d).1;exact ⟨o,by simp[St.obj,t]⟩) [];have af:=Y O2 aj ae λx u hx=>Qh ae g.mem.heap ak x hx;refine ⟨λs v Z=>AbQ a1 v _ (af.env s v (by rw[get_nil,Z];rfl)),λk o t=>⟨?_,AbO a1 o (af.mem.heap k o t)⟩⟩;obtain⟨_,_,o0,h3⟩:=I k o t;exact y k o0 h3
 refine ⟨μ',O1,⟨hI.mem,hI.env,g.defers,g.size,λk q d=>?_,g.keeps.trans hK,λk q d=>Qac (g.dom0 k q d) (RZ (sc:={env:=[],heap:=[],next:=st.next}))⟩,QH ⟨λ_ _=>rfl,λ_ _=>rfl,λk d=>?_⟩ E (MB (λk d=>?_) ab),hA,g.dom0,ad,E⟩
 .rw[hI.agree k (g.dom0 k q d)];exact g.le k q d
 .cases hr:assoc (within R (Bt R st p.gone c)).rheap k with
  |none=>exact absurd hr d
  |some o=>exact (hA.heap k o hr).1
 .cases hr:assoc (within R (Bt R st p.gone c)).rheap k with
  |none=>rfl
  |some o=>exact absurd d (I k o hr).2.1
def Abb {rest s}:(leave rest st).get R s=st.get (within R rest) s:=by simp only[leave,within,St.get,Dg]<;>grind
def Abc {rest k}:(leave rest st).obj R k=st.obj (within R rest) k:=by simp only[leave,within,St.obj,Dg]<;>grind
def At.leave {rest} (h:At B (within R rest) N μ0 O0 w0 st μ O a w):At B R N μ0 O0 w0 (leave rest st) μ O a w :=
 ⟨h.mem.move (λk o c=>by rw[Abc] at c;exact c) (χ _),λs v d=>h.env s v (by rw[Abb] at d;exact d),h.defers,h.size,h.le,h.keeps,h.dom0⟩
def τ.leave {d gone c} (h:τ (within R (Bt R d gone c)) st) (h0:τ R d):τ R (leave (Bt R d gone c) st):=by
 refine ⟨λs t=>?_,λk g=>?_,λk g=>?_⟩
 .have h1:= h.env s (by simp only[within,Dg,Qt]<;>simp_all);simp[Den.leave,Dg,h1,Qt,h0.env s t]
 .have h1:= h.heap k (by simp only[within,Dg,Q9]<;>simp_all);simp[Den.leave,Dg,h1,Q9,h0.heap k g]
 .refine h.next k ?_;simp only[within,Dg,Q9]<;>simp_all
end
def hε.Gε:hε->Exit
 |.normal=>.normal
 |.exit id=>.exit id
 |.ret=>.ret
 |.goto l=>.goto l
def CU (N:Nat):Code->Bool
 |.region _ ops _=>(ψ ops.toList).all (Nat.blt · N)
 |.seq a b | .cond _ a b=>CU N a&&CU N b
 |.block _ a | .loop a | .scope a=>CU N a
 |.rangeFunc ..=>false
 |_=>true
def mL:∀ {l} {i:Nat} {o} {d},l[i]?=some o->o.dst=some d->d∈ψ l
 |[],i,o,d,h,_=>by simp at h
 |o'::r,0,o,d,h,c=>by simp at h;subst h;simp[ψ,c]
 |o'::r,i+1,o,d,h,c=>by have:=mL (by simpa using h) c;simp only[ψ]<;>grind
def Ui {ops draw} {N id} (h:CU N (.region id ops draw)=true):∀(i:Nat) o,ops.toList[i]?=some o->∀d,o.dst=some d->d<N:=λi o c d g=>by simp only[CU] at h;have:=List.all_eq_true.1 h d (mL c g)<;>simp_all
def Og:∀ {a b},Ki a b=true->a=b
 |[],[],_=>rfl
 |[],_::_,h=>by cases h
 |_::_,[],h=>by cases h
 |x::l,y::m,h=>by
  simp only[Ki] at h;split at h
  .rename_i c;rw[beq_true c,Og h]
  .cases h
def Pv (C:Ctx) (B:Ξ) (inl:Gc):Prop :=
 ∀ {A:Type} {Good:A->Prop} {bad:A},¬Good bad->∀ {R:RO} {N id:Nat} {ops:Array Oper} {Q:Exit->Act->World->Prop},
  (∀(i:Nat) (o:Oper),ops.toList[i]?=some o->∀d,o.dst=some d->d<N) ->
  ∀ {st:St} {μ:AI} {O:Nat->Prop} {a:Act} {w:World} {μ0:AI} {O0:Nat->Prop} {w0:World},At B R N μ0 O0 w0 st μ O a w->τ R st ->
  ∀ {K:St->A},(∀st' μ' O' c w',τ R st'->At B R N μ0 O0 w0 st' μ' O' c w'->Good (K st')->Q .normal c w') ->
  Good (cI C inl R ops.toList st K bad)->(Code.region id ops true).wp C.P Q a w
def kB (C:Ctx) (B:Ξ) (inl:Gc) (hs:Hints) (N:Nat) (c:Code):Prop :=
 ∀ {A:Type} {Good:A->Prop} {bad:A},¬Good bad->∀ {R:RO} {Q:Exit->Act->World->Prop}
  {st:St} {μ:AI} {O:Nat->Prop} {a:Act} {w:World} {μ0:AI} {O0:Nat->Prop} {w0:World},At B R N μ0 O0 w0 st μ O a w->τ R st ->
  ∀ {K:hε->St->A},(∀e st' μ' O' d w',τ R st'->At B R N μ0 O0 w0 st' μ' O' d w'->Good (K e st')->Q e.Gε d w') ->
  Good (Bi C inl hs c R st K bad)->c.wp C.P Q a w
def mM {C inl hs c A R st K} {id} (d:∀b,c≠.loop b) {bad:A} :
 Bi C inl hs (.block id c) R st K bad=Bi C inl hs c R st (λe st'=>match e with
  |.normal=>K .normal st'
  |.exit i=>match Nat.beq i id with
   |true=>K .normal st'
   |false=>K (.exit i) st'
  |.ret=>K .ret st'
  |.goto l=>K (.goto l) st') bad:=by
 cases c<;>first|rfl|exact absurd rfl (d _)
section
variable {C:Ctx} {B:Ξ} {inl:Gc} {hs:Hints} {N:Nat}
def Ac6 {R st μ O a w μ0 O0 w0 c b} (d:At B R N μ0 O0 w0 st μ O a w) (E:τ R st) (I:a.eval c=.bool b) :
 At B R N μ0 O0 w0 (known R c b st) μ O a w/\τ R (known R c b st):=by
 unfold known;split
 .rename_i t;split
  .rename_i J;refine ⟨⟨d.mem.congr (λk o h=>h) (χ _),λs v g=>?_,d.defers,d.size,d.le,d.keeps,d.dom0⟩,?_⟩
   .simp only[St.get,AE] at g;by_cases y:t=s
    .subst y;simp only[if_true] at g;cases g;exact I
    .rw[if_neg y] at g;exact d.env s v g
   .exact E.put J (some (.v (.c (.bool b))))
  simp_all
 simp_all
def Qj {Q a w} {id i} (h:(i=id->Q .normal a w)/\(i≠id->Q (.exit i) a w)):Exit.inBlock id Q (.exit i) a w:=by unfold Exit.inBlock<;>simp_all
def Xk {p items ks} (h:JB p items ks):∀l:List (Nat×Ty),JB p (Re l++items) (aZ (Re l) ks)
 |[]=>h
 |(_,_)::r=>⟨λc=>absurd (show false=true from c) (by decide),Xk h r⟩
def AbB {p items ks} (h:JB p items ks) c:JB p (Fk hs c++items) (aZ (Fk hs c) ks):=by
 unfold Fk;split
 .split
  .exact Xk h _
  .exact h
 .exact h
def Agi {R st μ O a w μ0 O0 w0} (c:At B R N μ0 O0 w0 st μ O a w) (d:τ R st) ks (J:∀k∈ks,k∈KC st.heap) :
 ∃O1,At B R N μ0 O0 w0 (st.Γ R ks) μ O1 a w/\τ R (st.Γ R ks):=by
 have h:= λk t=>FI (J k t);obtain⟨O1,h1,X,_,h4⟩:=Gr c.mem ks (λk t=>by obtain⟨o,Y⟩:=h k t;exact fε.2 (d.mε Y)) (λk t=>by obtain⟨o,Y⟩:=h k t;exact ⟨o,by simp[St.obj,Y]⟩);refine ⟨O1,⟨h1,λs x g=>?_,c.defers,c.size,c.le,c.keeps.trans X,λk p Z=>by rw[Dx];exact c.dom0 k p Z⟩,⟨λs E=>uX (d.env s E),λk E=>mU (d.heap k E),λk E=>by rw[Dx];exact d.next k E⟩⟩;cases ks with
 |nil=>exact D3 X (μle.refl _) x (c.env s x g)
 |cons k ks =>
  simp only[St.Γ,St.get,PC] at g;cases I:assoc st.env s with
  |none =>rw[I] at g;exact D3 X (μle.refl _) x (c.env s x (by simp only[St.get,I];exact g))
  |some o =>
   rw[I] at g;simp only[Qai] at g;cases o with
   |none=>cases g
   |some y =>simp only[Qai,Qaf] at g;subst g;exact h4 y _ (c.env s y (by simp only[St.get,I]))
def AcS {R st μ O a w μ0 O0 w0} (c:At B R N μ0 O0 w0 st μ O a w) (d:τ R st) hs id :
 ∃O1,At B R N μ0 O0 w0 (jS hs id R st) μ O1 a w/\τ R (jS hs id R st):=by
 unfold jS;split
 .exact Agi c d _ λ_ h=>h
 grind
def Cc (hC:DG C B) (hB:∀k,¬B.D k) (J:HD C B inl) (t:Pv C B inl) hs c (hN:CU N c=true):kB C B inl hs N c:=by
 intro A Good bad hbad R Q st μ O a w μ0 O0 w0 E d K X h;match c with
 |.skip=>exact wp_skip (X .normal _ _ _ _ _ d E h)
 |.label _=>exact wp_label (X .normal _ _ _ _ _ d E h)
 |.exit id=>exact wp_exit (X (.exit id) _ _ _ _ _ d E h)
 |.ret=>exact wp_ret (X .ret _ _ _ _ _ d E h)
 |.region id ops false=>exact y8 hC hbad hB J (Ui hN) E d (λst' μ' O' a' w' h1 I g=>X .normal st' μ' O' a' w' h1 I g) h
 |.region id ops true =>obtain⟨O1,E,d⟩:=AcS E d hs id;exact t hbad (Ui hN) E d (λst' μ' O' a' w' h1 I g=>X .normal st' μ' O' a' w' h1 I g) h
 |.scope c =>
  refine wp_scope_straight (Cc hC hB J t hs c hN hbad E d (λe st' μ' O' a' w' h1 I g=>?_) h);cases e with
  |goto l=>exact absurd g hbad
  |_=>exact X _ st' μ' O' a' w' h1 I g
 |.cond c x y =>
  simp only[CU,Qab] at hN;simp only[Bi] at h;split at h
  .rename_i b hb;have hv:= AT E.env hb;obtain⟨h1,I⟩:=Ac6 E d hv;cases b with
   |true=>exact wp_cond_true hv (Cc hC hB J t hs x hN.1 hbad h1 I X h)
   |false=>exact wp_cond_false hv (Cc hC hB J t hs y hN.2 hbad h1 I X h)
  simp_all
 |.seq x y =>
  simp only[CU,Qab] at hN;simp only[Bi] at h;refine wp_seq ?_;split at h
  .refine Cc hC hB J t hs x hN.1 hbad E d (λe st' μ' O' a' w' h1 I g=>?_) h;cases e with
   |normal=>exact Cc hC hB J t hs y hN.2 hbad I h1 X g
   |exit i=>exact X (.exit i) _ _ _ _ _ h1 I g
   |ret=>exact X .ret _ _ _ _ _ h1 I g
   |goto l=>exact X (.goto l) _ _ _ _ _ h1 I g
  .rename_i items _;split at h
   .exact absurd h hbad
   rename_i p hp;split at h
   .exact absurd h hbad
   rename_i ab;have aa:=sε.1 ab;obtain⟨ae,O1,a6,a7,hA,h0,hk,af⟩:=E.enter hB d hp (λs hs=>Qah _ (by simp_all)) aa;have ag:∀s∈(Fk hs y++items).filterMap A6,assoc (within R (Bt R st p.gone ((Fk hs y++items).filterMap A6++Ba x))).renv s=none:=λs hs=>by have h1:s∈(Fk _ y++items).filterMap A6++Ba x:=Qah _ hs;simp only[within,Dg,Qt,h1,if_true,aa s h1,Qet]
   unfold CT at h;refine Cc hC hB J t hs x hN.1 hbad a6 a7 (λe st' μ' O' a' w' h1 I g=>?_) h;cases e with
   |normal =>
    simp only at g;split at g
    .rename_i q hq;split at g
     .rename_i Y;have Y:=Og Y;obtain⟨ah,O2,Z,a1⟩:=I.again hB h1 hq hA h0 (by rw[Y];exact AbB hk y) ag;rw[Y] at Z a1;exact Cc hC hB J t hs y hN.2 hbad Z.leave (a1.leave d) X g
     simp_all
    simp_all
   |exit i=>exact X (.exit i) _ _ _ _ _ (h1.leave d) I.leave g
   |ret=>exact X .ret _ _ _ _ _ (h1.leave d) I.leave g
   |goto l=>exact X (.goto l) _ _ _ _ _ (h1.leave d) I.leave g
 |.block id c =>
  by_cases hl:∃b,c=.loop b
  .obtain⟨body,rfl⟩:=hl;simp only[CU] at hN;simp only[Bi] at h;split at h
   .split at h
    .exact absurd h hbad
    rename_i n hn;refine wp_block (wp_loop_rounds n ?_);clear hn;induction n generalizing st μ O a w with
    |zero=>exact absurd h hbad
    |succ n ih =>
     rw[rounds_succ];refine Cc hC hB J t hs body hN hbad E d (λe st' μ' O' a' w' h1 I g=>?_) h;cases e with
     |normal=>exact ih I h1 g
     |exit i =>
      refine Qj ⟨λhi=>?_,λhi=>?_⟩
      .subst hi;simp only[Qeb] at g;exact X .normal _ _ _ _ _ h1 I g
      .simp only at g;split at g
       .simp_all
       .exact X (.exit i) _ _ _ _ _ h1 I g
     |ret=>exact X .ret _ _ _ _ _ h1 I g
     |goto l=>exact X (.goto l) _ _ _ _ _ h1 I g
   rename_i items _;refine wp_block (wp_loop_rounds Am ?_);split at h
   .exact absurd h hbad
   rename_i p hp;split at h
   .exact absurd h hbad
   rename_i ab;obtain⟨ae,O1,a6,a7,hA,h0,hk,af⟩:=E.enter hB d hp (λs hs=>Qah _ hs) (sε.1 ab);generalize Am=n at h ⊢;generalize p.val=x at h a6 a7;clear E;induction n generalizing x ae O1 a w with
   |zero=>exact absurd h hbad
   |succ n ih =>
    rw[rounds_succ];unfold iter at h;let KS:hε->St->Step (Fh items).δ A:=λe st'=>match e with
     |.normal=>match pack (within R (Bt R st p.gone (items.filterMap A6++Ba body))) st' items with
      |some q=>match Ki q.keys p.keys with
       |true=>.next q.val
       |false=>.done bad
      |none=>.done bad
     |.exit i=>.done (match Nat.beq i id with
      |true=>K .normal (leave (Bt R st p.gone (items.filterMap A6++Ba body)) st')
      |false=>K (.exit i) (leave (Bt R st p.gone (items.filterMap A6++Ba body)) st'))
     |.ret=>.done (K .ret (leave (Bt R st p.gone (items.filterMap A6++Ba body)) st'))
     |.goto l=>.done (K (.goto l) (leave (Bt R st p.gone (items.filterMap A6++Ba body)) st'))
    let GS:Step (Fh items).δ A->Prop:=λs=>match s with
     |.next s'=>Good (iter bad
       (λx=>Bi C inl hs body (within R (Bt R st p.gone (items.filterMap A6++Ba body))) (unpack items p.keys x {env:=[],heap:=[],next:=st.next}) KS (.done bad)) n s')
     |.done a=>Good a
    refine Cc (Good:=GS) (bad:=.done bad) hC hB J t hs body hN hbad a6 a7 (K:=KS) (λe st' μ' O' a' w' h1 I g=>?_) ?_
    .cases e with
     |normal =>
      simp only[KS] at g;split at g
      .rename_i q hq;split at g
       .rename_i Y;have Y:=Og Y;obtain⟨ah,O2,Z,a1⟩:=I.again hB h1 hq hA h0 (by rw[Y];exact hk) af;rw[Y] at Z a1;exact ih _ _ _ g Z a1
       .exact absurd g hbad
      .exact absurd g hbad
     |exit i =>
      refine Qj ⟨λhi=>?_,λhi=>?_⟩
      .subst hi;have a8:Good (match Nat.beq i i with
        |true=>K .normal (leave (Bt R st p.gone (items.filterMap A6++Ba body)) st')
        |false=>K (.exit i) (leave (Bt R st p.gone (items.filterMap A6++Ba body)) st')):=g;rw[Qeb] at a8;exact X .normal _ _ _ _ _ (h1.leave d) I.leave a8
      .have a8:Good (match Nat.beq i id with
        |true=>K .normal (leave (Bt R st p.gone (items.filterMap A6++Ba body)) st')
        |false=>K (.exit i) (leave (Bt R st p.gone (items.filterMap A6++Ba body)) st')):=g;split at a8
       .rename_i hb;exact absurd (beq_true hb) hi
       .exact X (.exit i) _ _ _ _ _ (h1.leave d) I.leave a8
     |ret=>exact X .ret _ _ _ _ _ (h1.leave d) I.leave g
     |goto l=>exact X (.goto l) _ _ _ _ _ (h1.leave d) I.leave g
    .split at h
     .rename_i s' ad;exact (congrArg GS ad).mpr h
     .rename_i a' ad;exact (congrArg GS ad).mpr h
  rw[mM λb hb=>hl ⟨b,hb⟩] at h;refine wp_block (Cc hC hB J t hs c hN hbad E d (λe st' μ' O' a' w' h1 I g=>?_) h);cases e with
  |normal=>exact X .normal _ _ _ _ _ h1 I g
  |exit i =>
   refine Qj ⟨λhi=>?_,λhi=>?_⟩
   .subst hi;simp only[Qeb] at g;exact X .normal _ _ _ _ _ h1 I g
   .simp only at g;split at g
    .rename_i hb;exact absurd (beq_true hb) hi
    .exact X (.exit i) _ _ _ _ _ h1 I g
  |ret=>exact X .ret _ _ _ _ _ h1 I g
  |goto l=>exact X (.goto l) _ _ _ _ _ h1 I g
 |.loop _=>exact absurd h hbad
 |.rangeFunc ..=>exact absurd h hbad
 |.goto l=>exact wp_goto (X (.goto l) _ _ _ _ _ d E h)
 |.refuse _=>exact absurd h hbad
  termination_by SizeOf.sizeOf c
  decreasing_by all_goals (subst_vars;simp;try omega)
end
abbrev iε (h h':Nat->Option Ψ) (ks:List Nat):Prop:=∀k∈ks,∀o,h k=some o->h' k=some o
def iε.left {h h' a b} (m:iε h h' (a++b)):iε h h' a:=λk c=>m k (Qah _ c)
def iε.right {h h' a b} (m:iε h h' (a++b)):iε h h' b:=λk c=>m k (Qan _ c)
def Nz {h h'}:∀ {T} {cs} {x} {r} {ks},dec h T cs=some (x,r,ks)->iε h h' ks->dec h' T cs=some (x,r,ks):=by
 intro T;induction T with
 |int k =>
  intro cs x r ks e m;match cs with
  |[]=>simp[dec] at e
  |c::d=>cases c<;>first|simpa only[dec] using e|simp[dec] at e
 |bool =>
  intro cs x r ks e m;match cs with
  |[]=>simp[dec] at e
  |c::d=>cases c<;>first|simpa only[dec] using e|simp[dec] at e
 |unit =>intro cs x r ks e m;simpa[dec] using e
 |slice t _ =>
  intro cs x r ks e m;match cs with
  |[]=>simp[dec] at e
  |.sl t' l::d=>simpa[dec] using e
  |.nils::d=>simpa[dec] using e
  |.ref k::d =>
   simp only[dec] at e;split at e
   .rename_i t' l E;split at e
    .rename_i l' I;cases e;simp[dec,m k (by simp) _ E,I]
    .cases e
   .cases e
  |.sub k lo n::d =>
   simp only[dec] at e;split at e
   .rename_i t' l E;split at e
    .rename_i l' I;cases e;simp[dec,m k (by simp) _ E,I]
    .cases e
   .cases e
  |.int _ _::d=>simp[dec] at e
  |.bool _::d=>simp[dec] at e
  |.ptr _ _::d=>simp[dec] at e
  |.eptr _ _::d=>simp[dec] at e
  |.nilp::d=>simp[dec] at e
  |.mref _::d=>simp[dec] at e
  |.lit _::d=>simp[dec] at e
 |pair a b J X =>
  intro cs x r ks e m;simp only[dec] at e;split at e
  .rename_i y r1 f h1;split at e
   .rename_i z r2 g Y;cases e;simp[dec,J h1 m.left,X Y m.right]
   .cases e
  .cases e
def LZ {h h' T v x ks} (e:GM h T v=some (x,ks)) (m:iε h h' ks):GM h' T v=some (x,ks):=by
 unfold GM at e;split at e
 .rename_i y f c;cases e;simp[GM,Nz c m]
 .cases e
def eH {h h' T}:∀ {n} {cs} {xs} {ks},KW h T n cs=some (xs,ks)->iε h h' ks->KW h' T n cs=some (xs,ks)
 |0,[],xs,ks,e,_=>by simpa[KW] using e
 |0,_::_,xs,ks,e,_=>by simp[KW] at e
 |n+1,cs,xs,ks,e,m=>by
  simp only[KW] at e;split at e
  .rename_i x r f h1;split at e
   .rename_i ys g c;cases e;simp[KW,Nz h1 m.left,eH c m.right]
   .cases e
  .cases e
def eW {h h' T}:∀ {l} {n} {xs} {ks},lits h T n l=some (xs,ks)->iε h h' ks->lits h' T n l=some (xs,ks)
 |[],n,xs,ks,e,_=>by simpa[lits] using e
 |(i,v)::r,n,xs,ks,e,m=>by
  simp only[lits] at e;split at e
  .rename_i x f ys g h1 c d;cases e;simp[lits,h1,LZ c m.left,eW d m.right]
  .cases e
def Ed {h h'}:∀ {d} {vs} {x} {ks},BY h d vs=some (x,ks)->iε h h' ks->BY h' d vs=some (x,ks)
 |[],[],x,ks,e,_=>by simpa[BY] using e
 |[],_::_,x,ks,e,_=>by simp[BY] at e
 |[t],[],x,ks,e,_=>by simp[BY] at e
 |[t],[v],x,ks,e,m=>by
  have c:(match I9 t v with|true=>GM h t v|false=>none)=some (x,ks):=e;show (match I9 t v with|true=>GM h' t v|false=>none)=some (x,ks);split at c
  .exact LZ c m
  .cases c
 |[t],_::_::_,x,ks,e,_=>by simp[BY] at e
 |t::u::r,[],x,ks,e,_=>by simp[BY] at e
 |t::u::r,v::vs,x,ks,e,m=>by
  simp only[BY] at e;split at e
  .rename_i y f ys g h1 E I;cases e;simp[BY,h1,LZ E m.left,Ed I m.right]
  .cases e
def N9 {h h' c T l ks} (e:GR h c=some ⟨T,l,ks⟩) (m:iε h h' ks):GR h' c=some ⟨T,l,ks⟩:=by
 unfold GR at e;split at e
 .cases e;rfl
 .rename_i k;split at e
  .rename_i g l' d;cases e;simp[GR,m k (by simp) _ d]
  .cases e
 .rename_i k lo n;split at e
  .rename_i g l' d;cases e;simp[GR,m k (by simp) _ d]
  .cases e
 .cases e
def PN (n n':Nat) (e c:Eff):Prop:=(n'=n->c=e)/\(e.upd=[]->c={e with next:=n'})
def jε (n n':Nat) (x:Option υ) (e:Eff):Prop:=∃c d,x=some c/\c.run=some d/\PN n n' e d
section
variable {P:Program} {C:Ctx} {R:RO} {st st':St} {out:υ} {e:Eff}
def jε.ok {n n' x c d} (h:x=some (.ok d)) (g:PN n n' c d):jε n n' x c:=⟨_,_,h,rfl,g⟩
def jε.chk {n n' x b c d} (h:x=some (.chk b d)) (g:b=true) (t:PN n n' c d):jε n n' x c:=⟨_,_,h,by subst g;rfl,t⟩
def jε.opt {n n' x T c} {o} {y} {f} (h:x=some (.opt T o f)) (d:o=some y) (g:PN n n' c (f y)):jε n n' x c:=⟨_,f y,h,by subst d;rfl,g⟩
def jε.alts {n n' x l l' e} (h:x=some (.alts l')) (c:(υ.alts l).run=some e) (g:π (λa b=>a.1=b.1/\PN n n' a.2 b.2) l l'):jε n n' x e:=by
 replace c:Ia l=some e:=c;suffices ∃d,Ia l'=some d/\PN n n' e d from let ⟨d,h1,t⟩:=this;⟨_,d,h,h1,t⟩;clear h;induction g with
 |nil=>cases c
 |cons h1 _ y =>rename_i a b l m;simp only[Ia] at c ⊢<;>grind
def AP {d c rd n n'}:PN n n' {dst:=d,Γ:=c,reads:=rd,next:=n} {dst:=d,Γ:=c,reads:=rd,next:=n'}:=⟨λh=>by rw[h],λ_=>rfl⟩
def wP {t v} (h:Gf P R st t v=some out) (c:out.run=some e) (m:iε (st.obj R) (st'.obj R) e.reads):jε st.next st'.next (Gf P R st' t v) e:=by
 unfold Gf at h;repeat' split at h
 all_goals first|cases h|skip
 .cases BF c;rename_i k off _ cs d _ y E;have:=m k (by simp) _ d;exact .ok (by simp only[Gf,this,E];rfl) AP
 .obtain⟨x,I,rfl⟩:=Ck c;rename_i k i _ _ T l inf d hi _ _ g h1 J _ X;have:=m _ (by simp) _ d;exact .opt (by simp only[Gf,this,hi,h1,J,X];rfl) I AP
 .cases BF c;rename_i E;exact .ok (by simp only[Gf,E];rfl) AP
 .cases BF c;rename_i hg _;exact .ok (by simp only[Gf,hg];rfl) AP
 .cases BF c;rename_i hg _;exact .ok (by simp only[Gf,hg];rfl) AP
 .obtain⟨x,I,rfl⟩:=Ck c;rename_i d _ v0 Y;have:=m _ (by simp) _ d;exact .opt (by simp only[Gf,this,Y];rfl) I AP
def bV {t k i T l sz v} (h:Ho P R st t k i T l sz v=some out) (c:out.run=some e) (m:iε (st.obj R) (st'.obj R) e.reads):k∈e.reads/\jε st.next st'.next (Ho P R st' t k i T l sz v) e:=by
 unfold Ho at h;repeat' split at h
 all_goals first|cases h|skip
 obtain⟨d,rfl⟩:=Bu c;rename_i n J h1 _ _ _ xs X g y h4 _ E;exact ⟨by simp,.chk (by simp only[Ho,h1,g,y,eH (h':=st'.obj R) h4 λk I=>m k (by simp[I]),E];rfl) d ⟨λh=>by rw[h],λh=>by cases h⟩⟩
def bI {t} (h:Hk P st t=some out) (c:out.run=some e):jε st.next st'.next (Hk P st' t) e:=by
 unfold Hk at h;repeat' split at h
 all_goals first|cases h|skip
 all_goals (cases BF c;exact .ok (by simp only[Hk, *];rfl) ⟨λh=>by rw[h],λh=>by cases h⟩)
def rF {t a v} (h:GI P R st t a v=some out) (E:out.run=some e) (m:iε (st.obj R) (st'.obj R) e.reads) (I:iε (assoc st.heap) (assoc st'.heap) e.reads):jε st.next st'.next (GI P R st' t a v) e:=by
 unfold GI at h;repeat' split at h
 all_goals first|cases h|skip
 .cases BF E;rename_i inf hi _ h1 _ k off _ cs d _ g;have:=I k (by simp) _ d;exact .ok (by simp only[GI,hi,h1,this,g];rfl) ⟨λh=>by rw[h],λh=>by cases h⟩
 .obtain⟨x,X,rfl⟩:=Ck E;rename_i inf hi _ h1 _ k i _ T l d _ _ y fz g Y _ h4;have:=I k (by simp) _ d;exact .opt (by simp only[GI,hi,h1,this,g,LZ (h':=st'.obj R) Y λk d=>m k (by simp[d]),h4];rfl) X ⟨λh=>by rw[h],λh=>by cases h⟩
 .rename_i inf hi _ h1 _ k i _ T l d _ _ g;obtain⟨J,Z⟩:=bV h E m;have:=I k J _ d;have e2:GI P R st' t (some (.v (.c (.eptr k i)))) v=Ho P R st' t k i T l inf.size v:=by simp only[GI,hi,h1,this,g]
  rw[e2];exact Z
def Aaq {op k k' x y} (h:Rj st op k x k' y=some out) (c:out.run=some e):jε st.next st'.next (Rj st' op k x k' y) e:=by
 unfold Rj at h;repeat' split at h
 all_goals first|cases h|skip
 all_goals first
  |(cases BF c;exact .ok (by simp only[Rj, *];rfl) AP)
  |(obtain⟨d,rfl⟩:=Bu c;exact .chk (by simp only[Rj, *];rfl) d AP)
def qQ {t ps} (h:Mj P st t ps=some out) (c:out.run=some e):jε st.next st'.next (Mj P st' t ps) e:=by
 unfold Mj at h;repeat' split at h
 all_goals first|cases h|skip
 all_goals (cases BF c;exact .ok (by simp only[Mj, *];rfl) AP)
def XM {t n ps} (h:ER P R st t n ps=some out) (c:out.run=some e) (m:iε (st.obj R) (st'.obj R) e.reads):jε st.next st'.next (ER P R st' t n ps) e:=by
 unfold ER at h;repeat' split at h
 all_goals first|cases h|skip
 cases BF c;rename_i d;have:=eW d m;exact .ok (by simp only[ER, *];rfl) ⟨λh=>by simp only[h],λh=>by cases h⟩
def Y6 {t l c} (h:FC P st t l c=some out) (d:out.run=some e):jε st.next st'.next (FC P st' t l c) e:=by
 unfold FC at h;repeat' split at h
 all_goals first|cases h|skip
 obtain⟨g,rfl⟩:=Bu d;exact .chk (by simp only[FC, *];rfl) g ⟨λh=>by simp only[h],λh=>by cases h⟩
def bN {t ps} (h:Gm P R st t ps=some out) (c:out.run=some e) (d:∀l,Δ R st 0 ps=some l->Δ R st' 0 ps=some l):jε st.next st'.next (Gm P R st' t ps) e:=by
 unfold Gm at h;repeat' split at h
 all_goals first|cases h|skip
 cases BF c;rename_i g _ _ _;have:=d _ g;exact .ok (by simp only[Gm, *];rfl) AP
def Ve {n}:∀ {l} {j},π (λa b=>a.1=b.1/\PN st.next st'.next a.2 b.2) (PB st n j l) (PB st' n j l)
 |[],_=>.nil
 |_::_,_=>.cons ⟨rfl,AP⟩ Ve
def bP {t l n} (h:Hl P st t l n=some out) (c:out.run=some e):jε st.next st'.next (Hl P st' t l n) e:=by
 unfold Hl at h;repeat' split at h
 all_goals first|cases h|skip
 exact .alts (by simp only[Hl, *]) c Ve
def bO {t n ps} (h:FH P R st t n ps=some out) (c:out.run=some e) (d:∀l,Δ R st 0 ps=some l->Δ R st' 0 ps=some l):jε st.next st'.next (FH P R st' t n ps) e:=by
 unfold FH at h;repeat' split at h
 all_goals first|cases h|skip
 cases BF c;rename_i g _ _;have:=d _ g;exact .ok (by simp only[FH, *];rfl) AP
def Xf {n}:∀ {l} {j},π (λa b=>a.1=b.1/\PN st.next st'.next a.2 b.2) (Sr st n j l) (Sr st' n j l)
 |[],_=>.nil
 |_::_,_=>.cons ⟨rfl,AP⟩ Xf
def bQ {t l n} (h:Hm P st t l n=some out) (c:out.run=some e):jε st.next st'.next (Hm P st' t l n) e:=by
 unfold Hm at h;repeat' split at h
 all_goals first|cases h|skip
 exact .alts (by simp only[Hm, *]) c Xf
def gM {t} (h:IC P st t=some out) (c:out.run=some e):jε st.next st'.next (IC P st' t) e:=by
 unfold IC at h;repeat' split at h
 all_goals first|cases h|skip
 cases BF c;exact .ok (by simp only[IC, *];rfl) ⟨λh=>by rw[h],λh=>by cases h⟩
def kY {t g v} (h:Jk P R st t g v=some out) (E:out.run=some e) (m:iε (st.obj R) (st'.obj R) e.reads):jε st.next st'.next (Jk P R st' t g v) e:=by
 unfold Jk at h;repeat' split at h
 all_goals first|cases h|skip
 cases BF E;rename_i T k I _ Y l c _ _ _ Z y d J X;exact .ok (by simp only[Jk,I,m k (by simp) _ c,d,J,LZ (h':=st'.obj R) X λ_ c=>by cases c];rfl) AP
def kZ {t g v b} (h:Jl P R st t g v b=some out) (E:out.run=some e) (I:iε (assoc st.heap) (assoc st'.heap) e.reads):jε st.next st'.next (Jl P R st' t g v b) e:=by
 unfold Jl at h;repeat' split at h
 all_goals first|cases h|skip
 cases BF E;rename_i T k J _ Z l c _ _ _ hq y d X Y;exact .ok (by simp only[Jl,J,I k (by simp) _ c,d,X,LZ (h':=st'.obj R) Y λ_ c=>by cases c];rfl) ⟨λh=>by rw[h],λh=>by cases h⟩
def Y0 {t n x} (h:FB P st t n x=some out) (c:out.run=some e):jε st.next st'.next (FB P st' t n x) e:=by
 unfold FB at h;repeat' split at h
 all_goals first|cases h|skip
 all_goals (cases BF c;exact .ok (by simp only[FB, *];rfl) AP)
def Y1 {t x n} (h:DA P R st t x n=some out) (y:out.run=some e) (m:iε (st.obj R) (st'.obj R) e.reads):jε st.next st'.next (DA P R st' t x n) e:=by
 unfold DA at h;repeat' split at h
 all_goals first|cases h|skip
 .obtain⟨x,d,rfl⟩:=Ck y;exact .opt (by simp only[DA, *];rfl) d AP
 .obtain⟨x,d,rfl⟩:=Ck y;rename_i E _ _;have:=m _ (by simp) _ E;exact .opt (by simp only[DA, *];rfl) d AP
 .obtain⟨x,d,rfl⟩:=Ck y;rename_i E _ _;have:=m _ (by simp) _ E;exact .opt (by simp only[DA, *];rfl) d AP
 .rename_i el I _ inf g _ k off _ J;exact .alts (l':=[(eqI n 0,Eff.c st' (.ptr k off)),(eqI n 1,Eff.c st' (.ptr k (off+inf.size)))]) (by simp only[DA,I,g,J]) y (.cons ⟨rfl,AP⟩ (.cons ⟨rfl,AP⟩ .nil))
def Aat {x} (h:Rm R st x=some out) (d:out.run=some e) (m:iε (st.obj R) (st'.obj R) e.reads):jε st.next st'.next (Rm R st' x) e:=by
 unfold Rm at h;repeat' split at h
 all_goals first|cases h|skip
 .obtain⟨t,rfl⟩:=Bu d;exact .chk rfl t AP
 .cases BF d;exact .ok rfl AP
 .cases BF d;rename_i y;have:=N9 y m;unfold Rm;split
  .simp_all
  .simp_all
  .rename_i c _ _ g;cases g;simp only[this];exact .ok rfl AP
  simp_all
def PT {g k}:∀ {vs} {acc} {out} {e},EB st g k acc vs=some out->out.run=some e->jε st.next st'.next (EB st' g k acc vs) e
 |[],acc,out,e,h,d=>by simp only[EB,Qaf] at h;subst h;cases BF d;exact .ok rfl AP
 |.a _::_,acc,out,e,h,d=>by simp[EB] at h
 |.c c::r,acc,out,e,h,d=>by
  cases c<;>simp only[EB,reduceCtorEq] at h;split at h
  .rename_i t;simp only[EB,t];exact PT h d
  .cases h
def yε {c rd fr res x}:PN st.next st'.next (DO st c rd fr res x) (DO st' c rd fr res x)/\(DO st c rd fr res x).reads=rd:=by
 unfold DO;cases fr with
 |false=>exact ⟨AP,rfl⟩
 |true =>
  simp only;split
  .exact ⟨⟨λh=>by rw[h],λh=>by cases h⟩,rfl⟩
  .exact ⟨⟨λh=>by rw[h],λh=>by cases h⟩,rfl⟩
  .exact ⟨AP,rfl⟩
def qS {f vs} (h:I5 C R st f vs=some out) (X:out.run=some e) (m:iε (st.obj R) (st'.obj R) e.reads) (Z:iε (assoc st.heap) (assoc st'.heap) e.reads):jε st.next st'.next (I5 C R st' f vs) e:=by
 unfold I5 at h;split at h
 .rename_i t0 ts rs fn tot k rest d;split at h
  .rename_i cs t E;split at h
   .rename_i x f0 xs f1 I J;split at h
    .rename_i g;cases h;cases X;exact ⟨_,_,by simp only[I5,d,m k (by simp[II]) _ t,E,Nz (h':=st'.obj R) I λj c=>m j (by simp[II,c]),Ed (h':=st'.obj R) J λj c=>m j (by simp[II,c])];rfl,rfl,λh=>by simp only[II,h],λh=>rfl⟩
    .cases h;obtain⟨y,Y,rfl⟩:=Ck X;exact .opt (by simp only[I5,d,m k (by simp[II]) _ t,E,Nz (h':=st'.obj R) I λj c=>m j (by simp[II,c]),Ed (h':=st'.obj R) J λj c=>m j (by simp[II,c])];rfl) Y ⟨λh=>by simp only[II,h],λh=>rfl⟩
   .cases h
  .cases h
 .rename_i t0 ts t1 rs fn tot k rest d;split at h
  .rename_i cs t;split at h
   .rename_i x f0 xs f1 I J;split at h
    .rename_i g;cases h;cases X;exact ⟨_,_,by simp only[I5,d,Z k (by simp[Qb]) _ t,Nz (h':=st'.obj R) I λj c=>m j (by simp[Qb,c]),Ed (h':=st'.obj R) J λj c=>m j (by simp[Qb,c])];rfl,rfl,λh=>by simp only[Qb,h],λh=>by cases h⟩
    .cases h;obtain⟨y,Y,rfl⟩:=Ck X;exact .opt (by simp only[I5,d,Z k (by simp[Qb]) _ t,Nz (h':=st'.obj R) I λj c=>m j (by simp[Qb,c]),Ed (h':=st'.obj R) J λj c=>m j (by simp[Qb,c])];rfl) Y ⟨λh=>by simp only[Qb,h],λh=>by cases h⟩
   .cases h
  .cases h
 .cases h
def QW {gone rd t rs y}:PN st.next st'.next (JR st gone rd t rs y) (JR st' gone rd t rs y) :=
 ⟨λh=>by simp only[JR,h],λh=>by simp[JR] at h⟩
def qR {f vs} (h:H9 C R st f vs=some out) (X:out.run=some e) (m:iε (st.obj R) (st'.obj R) e.reads) (ml:iε (assoc st.heap) (assoc st'.heap) e.reads):jε st.next st'.next (H9 C R st' f vs) e:=by
 unfold H9 at h;split at h
 .rename_i t ts t' rs fr fn tot c rest d;split at h
  .rename_i xs f1 E J;split at h
   .split at h
    .rename_i g;cases h;cases X;exact ⟨_,_,by simp only[H9,d,E,Ed (h':=st'.obj R) J λj I=>m j (by simp[JR,I])];rfl,rfl,QW⟩
    .cases h;obtain⟨y,Y,rfl⟩:=Ck X;exact .opt (by simp only[H9,d,E,Ed (h':=st'.obj R) J λj I=>m j (by simp[JR,I])]) Y QW
   .rename_i k;split at h
    .rename_i T l0 hk Z a1;split at h
     .rename_i l hc;split at h
      .rename_i g;cases h;cases X;exact ⟨_,_,by simp only[H9,d,E,Ed (h':=st'.obj R) J λj I=>m j (by simp[JR,I]),ml k (by simp[JR]) _ hk,Z,a1,hc];rfl,rfl,QW⟩
      .cases h;obtain⟨y,Y,rfl⟩:=Ck X;exact .opt (by simp only[H9,d,E,Ed (h':=st'.obj R) J λj I=>m j (by simp[JR,I]),ml k (by simp[JR]) _ hk,Z,a1,hc]) Y QW
     .cases h
    .cases h
   .cases h
  .cases h
 .rename_i ts fr fn tot k rest d;split at h
  .rename_i T l xs f1 hk J;split at h
   .rename_i a6;cases h;obtain⟨y,Y,rfl⟩:=Ck X;exact .opt (by simp only[H9,d,m k (by simp[X0]) _ hk,Ed (h':=st'.obj R) J λj I=>m j (by simp[X0,I]),a6];rfl) Y ⟨λh=>by simp only[X0,h],λh=>rfl⟩
   .cases h
  .cases h
 .cases h
def Adi {own}:∀T {off} {y} {n n'},(EP own T off y n).2.1=[]->EP own T off y n'=((EP own T off y n).1,[],n'):=by
 intro T;induction T with
 |int k=>intro off y n n' _;rfl
 |bool=>intro off y n n' _;rfl
 |unit=>intro off y n n' _;rfl
 |slice t _ =>intro off y n n' h;simp only[EP] at h ⊢<;>grind
 |pair a b c d =>
  intro off y n n' h;rcases g:EP own a off y.1 n with ⟨cs,u,m⟩
  rcases E:EP own b (off+a.size) y.2 m with ⟨ds,v,k⟩
  have e:EP own (.pair a b) off y n=(cs++ds,u++v,k):=by simp only[EP,g,E]
  rw[e] at h ⊢;obtain⟨rfl,rfl⟩:=List.append_eq_nil_iff.1 h;have I:=c (n':=n') (by rw[g]);have J:=d (n':=n') (by rw[E]);rw[g] at I;rw[E] at J;simp only[EP,I,J,Qbd]
def qU {f vs} (h:Ml C R st f vs=some out) (g:out.run=some e) (m:iε (st.obj R) (st'.obj R) e.reads):jε st.next st'.next (Ml C R st' f vs) e:=by
 unfold Ml at h;split at h
 .rename_i J t own fn c;split at h
  .rename_i x ks E d;cases h;obtain⟨y,I,rfl⟩:=Ck g;refine .opt (by simp only[Ml,c,Ed (h':=st'.obj R) E m,d];rfl) I ⟨λh=>by simp only[Va,h],λh=>?_⟩;have:=Adi (n':=st'.next) t h;simp only[Va] at h ⊢<;>simp_all
  .cases h
 .cases h
def qT {f vs} (h:Mk C R st f vs=some out) (t:out.run=some e) (m:iε (st.obj R) (st'.obj R) e.reads):jε st.next st'.next (Mk C R st' f vs) e:=by
 unfold Mk at h;split at h
 .rename_i size los Y rs fn k rest c;split at h
  .rename_i cs E;split at h
   .rename_i x xs d I g;cases h;obtain⟨y,J,rfl⟩:=Ck t;exact .opt (by simp only[Mk,c,m k (by simp[II]) _ E,d,I,Ed (h':=st'.obj R) g λj X=>by cases X];rfl) J ⟨λh=>by simp only[II,h],λh=>rfl⟩
   .cases h
  .cases h
 .cases h
def SX {f vs} (h:KA C R st f vs=some out) (c:out.run=some e) (m:iε (st.obj R) (st'.obj R) e.reads) (E:C.tbl f=none->iε (assoc st.heap) (assoc st'.heap) e.reads):jε st.next st'.next (KA C R st' f vs) e:=by
 unfold KA at h;split at h
 .rename_i t;unfold KA;rw[t];split at h
  .split at h
   .split at h
    .exact qS h c m (E t)
    .exact qT h c m
   .exact qU h c m
  .exact qR h c m (E t)
 rename_i sp d;split at h
 .cases h
 rename_i x ks I;simp only at h;split at h
 .rename_i g hg;cases h;cases c;rw[yε (st':=st').2] at m;have:=Ed I m;exact ⟨_,_,by simp only[KA,d,this,hg];rfl,rfl,yε.1⟩
 .rename_i hg;cases h;obtain⟨y,J,rfl⟩:=Ck c;rw[yε (st':=st').2] at m;have:=Ed I m;exact .opt (by simp only[KA,d,this,hg]) J yε.1
def kI {t s x} (h:DD P R st t s x=some out) (E:out.run=some e) (m:iε (st.obj R) (st'.obj R) e.reads) (y:iε (assoc st.heap) (assoc st'.heap) e.reads):jε st.next st'.next (DD P R st' t s x) e:=by
 unfold DD at h;simp only at h;repeat' split at h
 all_goals first|cases h|skip
 all_goals obtain⟨d,rfl⟩:=Bu E
 .exact .chk (by first|(simp only[DD, *];done)|(simp only[DD, *];rfl)) d ⟨λh=>by simp only[h],λh=>by cases h⟩
 .rename_i g _ _;have:=N9 g m;exact .chk (by first|(simp only[DD, *];done)|(simp only[DD, *];rfl)) d ⟨λh=>by simp only[h],λh=>by cases h⟩
 .rename_i c _ _ _;have:=y _ (by simp) _ c;exact .chk (by first|(simp only[DD, *];done)|(simp only[DD, *];rfl)) d ⟨λh=>by simp only[h],λh=>by cases h⟩
 .rename_i c _ g _ _ _ _ _;have:=y _ (by simp) _ c;have I:=N9 g λk c=>m k (by simp[c]);exact .chk (by first|(simp only[DD, *];done)|(simp only[DD, *];rfl)) d ⟨λh=>by simp only[h],λh=>by cases h⟩
def gF {t s x} (h:D9 P R st t s x=some out) (d:out.run=some e) (g:iε (assoc st.heap) (assoc st'.heap) e.reads):jε st.next st'.next (D9 P R st' t s x) e:=by
 unfold D9 at h;repeat' split at h
 all_goals first|cases h|skip
 .obtain⟨c,rfl⟩:=Bu d;exact .chk (by first|(simp only[D9, *];done)|(simp only[D9, *];rfl)) c ⟨λh=>by simp only[h],λh=>by cases h⟩
 .obtain⟨c,rfl⟩:=Bu d;rename_i y E _ l' I;have:=g _ (by simp) _ y;exact .chk (by first|(simp only[D9, *];done)|(simp only[D9, *];rfl)) c ⟨λh=>by simp only[h],λh=>by cases h⟩
def kU {c k lo n} (h:LX st c=some (k,lo,n)) (d:∀o,assoc st.heap k=some o->assoc st'.heap k=some o):LX st' c=some (k,lo,n):=by
 unfold LX at h;split at h
 .split at h
  .rename_i g;cases h;simp only[LX,d _ g]
  .cases h
 .cases h;rfl
 .cases h
def wJ {t d s} (h:KB P R st t d s=some out) (y:out.run=some e) (m:iε (st.obj R) (st'.obj R) e.reads) (g:iε (assoc st.heap) (assoc st'.heap) e.reads):jε st.next st'.next (KB P R st' t d s) e:=by
 unfold KB at h;repeat' split at h
 all_goals first|cases h|skip
 cases BF y;rename_i E _ _ inf k lo n hi c _ T l I _ _ _ T' xs ks h1 J X _ Y Z;exact .ok (by simp only[KB,E,hi,kU (st':=st') c λo ho=>g k (by simp) o ho,g k (by simp) _ I,h1,J,N9 (h':=st'.obj R) X λj hj=>m j (by simp[hj]),Z];rfl) ⟨λh=>by rw[h],λh=>by cases h⟩
end
structure zε (q:Prop) (R:RO) (xs:List Operand) (ks:List Nat) (st st':St):Prop where
 opv:∀x∈xs,∀v,opv R st x=some v->opv R st' x=some v
 obj:iε (st.obj R) (st'.obj R) ks
 loc:q->iε (assoc st.heap) (assoc st'.heap) ks
section
variable {P:Program} {C:Ctx} {R:RO} {st st':St} {out:υ} {e:Eff} {xs:List Operand} {ks:List Nat} {q:Prop}
def zε.Ω {x c} (m:zε q R xs ks st st') (d:x∈xs) (h:Ω R st x=some c):Ω R st' x=some c:=by have:=m.opv x d _ (TH h);simp[Den.Ω,this]
def zε.op1 {x c} (m:zε q R xs ks st st') (d:x∈xs) (h:op1 R st x=some c):op1 R st' x=some c:=by
 unfold Den.op1 at h;split at h
 .rename_i t g;cases h;simp[Den.op1,m.opv x d _ g]
 .cases h
def zε.Aε (m:zε q R xs ks st st'):∀ {l} {vs},(∀x∈l,x∈xs)->Aε R st l=some vs->Aε R st' l=some vs
 |[],vs,_,h=>by simpa[Den.Aε] using h
 |x::r,vs,c,h=>by
  simp only[Den.Aε] at h;split at h
  .rename_i h1 d;cases h;simp[Den.Aε,m.op1 (c x (by simp)) h1,m.Aε (λy g=>c y (by simp[g])) d]
  .cases h
def zε.cells (m:zε q R xs ks st st'):∀ {l} {vs},(∀x∈l,x∈xs)->HI R st l=some vs->HI R st' l=some vs
 |[],vs,_,h=>by simpa[HI] using h
 |x::r,vs,c,h=>by
  simp only[HI] at h;split at h
  .rename_i h1 d;cases h;simp[HI,m.Ω (c x (by simp)) h1,m.cells (λy g=>c y (by simp[g])) d]
  .cases h
def zε.parts (m:zε q R xs ks st st'):∀ {l} {vs},(∀x∈l,x.2∈xs)->Fl R st l=some vs->Fl R st' l=some vs
 |[],vs,_,h=>by simpa[Fl] using h
 |(i,x)::r,vs,c,h=>by
  simp only[Fl] at h;split at h
  .rename_i h1 d;cases h;simp[Fl,m.op1 (c (i,x) (by simp)) h1,m.parts (λy g=>c y (by simp[g])) d]
  .cases h
def zε.mζ {ps l} (m:zε q R xs ks st st') (c:∀x∈ps,x.2∈xs) (h:Fl R st ps=none) (d:Den.Δ R st 0 ps=some l):Fl R st' ps=none:=by
 cases ps with
 |nil=>simp[Fl] at h
 |cons p r =>
  obtain⟨i,x⟩:=p;have g:= λv t=>m.opv x (c (i,x) (by simp)) v t;simp only[Den.Δ] at d;split at d
  .rename_i h1 _;simp[Fl,Den.op1,g _ h1]
  .rename_i h1 _;simp[Fl,Den.op1,g _ h1]
  .cases d
def zε.Δ (m:zε q R xs ks st st'):∀ {ps} {j} {l},(∀x∈ps,x.2∈xs)->Den.Δ R st j ps=some l->Den.Δ R st' j ps=some l
 |[],j,l,_,d=>by simpa[Den.Δ] using d
 |(i,x)::r,j,l,c,d=>by
  simp only[Den.Δ] at d;split at d
  .rename_i h1 g h;cases d;simp[Den.Δ,h1,m.opv x (c (i,x) (by simp)) _ g,m.Δ (λy t=>c y (by simp[t])) h]
  .rename_i h1 g h;cases d;simp[Den.Δ,h1,m.opv x (c (i,x) (by simp)) _ g,m.Δ (λy t=>c y (by simp[t])) h]
  .cases d
def rD {t x lo hi mx} (m:zε q R xs ks st st') (I:∀y,lo=some y->y∈xs) (d:∀y,hi=some y->y∈xs) (g:∀k∈e.reads,k∈ks) (X:∀p,lo=none->hi=some p->q)
 (h:D7 P R st t x lo hi mx=some out) (E:out.run=some e):jε st.next st'.next (D7 P R st' t x lo hi mx) e:=by
 unfold D7 at h;repeat' split at h
 all_goals first|cases h|skip
 .cases BF E;exact .ok (by simp only[D7, *];rfl) AP
 .obtain⟨c,rfl⟩:=Bu E;rename_i h1;have:=m.Ω (I _ rfl) h1;exact .chk (by simp only[D7, *];rfl) c AP
 .obtain⟨c,rfl⟩:=Bu E;rename_i h1;have:=m.Ω (d _ rfl) h1;exact .chk (by simp only[D7, *];rfl) c AP
 .obtain⟨c,rfl⟩:=Bu E;rename_i h1 J;have a1:=m.Ω (I _ rfl) h1;have a6:=m.Ω (d _ rfl) J;exact .chk (by simp only[D7, *];rfl) c AP
 .obtain⟨c,rfl⟩:=Bu E;rename_i h1;have:=m.Ω (d _ rfl) h1;exact .chk (by simp only[D7, *];rfl) c AP
 .obtain⟨c,rfl⟩:=Bu E;rename_i k _ _ p _ _ _ _ j T l h1 J h3 _ _;have Y:=m.Ω (d _ rfl) h1;have Z:=m.loc (X _ rfl rfl) k (g k (by simp)) _ J;exact .chk (by simp only[D7, *];rfl) c ⟨λh=>by simp only[h],λh=>by cases h⟩
 .obtain⟨c,rfl⟩:=Bu E;rename_i k _ _ p _ _ _ i T l h1 J _ _;have Y:=m.Ω (I _ rfl) h1;have Z:=m.obj k (g k (by simp)) _ J;exact .chk (by simp only[D7, *];rfl) c AP
 .obtain⟨c,rfl⟩:=Bu E;rename_i k _ _ p p' _ _ _ _ i _ j T l h1 J h3 _ _;have Y:=m.Ω (I _ rfl) h1;have Z:=m.Ω (d _ rfl) J;have e3:=m.obj k (g k (by simp)) _ h3;exact .chk (by simp only[D7, *];rfl) c AP
 .obtain⟨c,rfl⟩:=Bu E;rename_i k o n _ T l h1 _ _ _ _ p _ _ j J;have Y:=m.Ω (d _ rfl) J;have Z:=m.obj k (g k (by simp)) _ h1;exact .chk (by simp only[D7, *];rfl) c AP
 .obtain⟨c,rfl⟩:=Bu E;rename_i k o n _ T l h1 _ _ _ _ p _ _ j J;have Y:=m.Ω (I _ rfl) J;have Z:=m.obj k (g k (by simp)) _ h1;exact .chk (by simp only[D7, *];rfl) c AP
 .rename_i n e hu;unfold JI at h;repeat' split at h
  all_goals first|cases h|skip
  .obtain⟨c,rfl⟩:=Bu E;rename_i hi _ _ T l hz hk _ hs _;exact .chk (by simp only[D7,hu,JI,hi,hz,m.obj _ (g _ (by simp)) _ hk,hs];rfl) c AP
  .obtain⟨c,rfl⟩:=Bu E;rename_i hi _ _ T l hz hk _ hs _ p _ _ j hj;exact .chk (by simp only[D7,hu,JI,hi,hz,m.obj _ (g _ (by simp)) _ hk,hs,m.Ω (d _ rfl) hj];rfl) c AP
def zε.Uε (m:zε q R xs ks st st') {x:Operand} (d:x∈xs):Den.Ω R st x=none\/Den.Ω R st' x=Den.Ω R st x:=by
 cases h:Den.Ω R st x with
 |none=>exact .inl rfl
 |some c=>exact .inr (m.Ω d h)
def zε.hζ {x} (m:zε q R xs ks st st') (d:x∈xs):Den.opv R st x=none\/Den.opv R st' x=Den.opv R st x:=by
 cases h:Den.opv R st x with
 |none=>exact .inl rfl
 |some c=>exact .inr (m.opv x d c h)
def rG {t v}:GI P R st t none v=none:=by unfold GI<;>grind
def rE {t lo hi c}:D7 P R st t none lo hi c=none:=by
 unfold D7;split
 .grind
 .unfold JI<;>simp_all
 .rfl
def QO {t n}:DA P R st t none n=none:=by unfold DA<;>grind
def gG {t x}:DD P R st t none x=none:=by unfold DD<;>grind
def gH {t s}:DD P R st t s none=none:=by
 unfold DD;split
 .split
  .rfl
  .simp only[GR];split;all_goals first|rfl|skip
   all_goals simp_all
 .rfl
def bJ {t x}:D9 P R st t none x=none:=by unfold D9<;>grind
def bK {t s}:D9 P R st t s none=none:=by unfold D9<;>grind
def qV {t s}:KB P R st t none s=none:=by
 unfold KB;repeat' split
 all_goals first|rfl|simp_all[LX]
def qW {t d}:KB P R st t d none=none:=by
 unfold KB;repeat' split
 all_goals first|rfl|simp_all[GR]
def k9 {o} (h:aop C R st o=some out) (E:out.run=some e) (m:zε q R o.op.operands.toList e.reads st st') (hq:BT C o=false->q):jε st.next st'.next (aop C R st' o) e:=by
 have pass:∀ {v:aε},out=.ok {dst:=some v,next:=st.next}->∀ {y},y=some (υ.ok {dst:=some v,next:=st'.next})->jε st.next st'.next y e:=λ{v} h1 {y} Z=>by subst h1;cases BF E;exact .ok Z AP
 unfold aop at h ⊢;generalize X:o.op=op at h m ⊢;cases op;all_goals simp only[reduceCtorEq] at h ⊢
 case move x =>
  split at h
  .rename_i v I;cases h;exact pass rfl (by simp only[m.opv x (by simp[Op.operands]) v I])
  .cases h
 case assign x =>
  split at h
  .rename_i v I;cases h;exact pass rfl (by simp only[m.opv x (by simp[Op.operands]) v I])
  .cases h
 case pick c x y =>
  split at h
  .rename_i b hb;split at h
   .rename_i v I;cases h;have h1:=m.Ω (by simp[Op.operands]) hb;cases b with
    |true =>have Z:=m.opv x (by simp[Op.operands]) v I<;>simp_all
    |false =>have Z:=m.opv y (by simp[Op.operands]) v I<;>simp_all
   .cases h
  .cases h
 case alloc t=>exact bI h E
 case box t x =>
  split at h
  .rename_i I;cases h;cases BF E;exact .ok (by rw[m.op1 (x:=x) (by simp[Op.operands]) I]) ⟨λh=>by rw[h],λh=>by cases h⟩
  .cases h
 case build t ps =>
  split at h
  .rename_i l hl;have:=m.parts λy hy=>by simp only[Op.operands,Qfl]<;>grind hl;simp only[this];exact qQ h E
  .rename_i hn;obtain⟨l,hl⟩:∃l,Δ R st 0 ps.toList=some l:=by unfold Gm at h<;>grind
   have g:∀x∈ps.toList,x.2∈(Op.build t ps).operands.toList:=λy hy=>by simp only[Op.operands,Qfl]<;>grind
   rw[m.mζ g hn hl];exact bN h E λl hl=>m.Δ g hl
 case buildSlice t n ps =>
  split at h
  .rename_i l hl;have:=m.parts λy hy=>by simp only[Op.operands,Qfl]<;>grind hl;simp only[this];exact XM h E m.obj
  .rename_i hn;obtain⟨l,hl⟩:∃l,Δ R st 0 ps.toList=some l:=by unfold FH at h<;>grind
   have g:∀x∈ps.toList,x.2∈(Op.buildSlice t n ps).operands.toList:=λy hy=>by simp only[Op.operands,Qfl]<;>grind
   rw[m.mζ g hn hl];exact bO h E λl hl=>m.Δ g hl
 case makeMap t r =>
  cases r with
  |none=>exact gM h E
  |some _=>simp only[reduceCtorEq] at h
 case lookup t x i c =>
  cases c with
  |true=>simp only[reduceCtorEq] at h
  |false =>
   simp only at h ⊢;split at h
   .rename_i v I;simp only[m.op1 (by simp[Op.operands]) I];rcases m.Uε (x:=x) (by simp[Op.operands]) with h0|h0
    .rw[h0] at h;unfold Jk at h<;>simp_all
    .rw[h0];exact kY h E m.obj
   .cases h
 case mapUpdate t mm k v =>
  split at h
  .rename_i x b Y hb;simp only[m.op1 (by simp[Op.operands]) Y,m.Ω (by simp[Op.operands]) hb];rcases m.Uε (x:=mm) (by simp[Op.operands]) with h0|h0
   .rw[h0] at h;unfold Jl at h<;>simp_all
   .rw[h0];exact kZ h E (m.loc (hq (by simp[BT,X])))
  .cases h
 case load t a =>
  have hm:a∈(Op.load t a).operands.toList:=by simp[Op.operands]
  rcases m.hζ hm with h0|h0
  .rw[h0] at h;simp[Gf] at h
  .rw[h0];exact wP h E m.obj
 case store t a x =>
  split at h
  .rename_i v I;simp only[m.op1 (by simp[Op.operands]) I];rcases m.hζ (x:=a) (by simp[Op.operands]) with h0|h0
   .rw[h0] at h;rw[rG] at h;cases h
   .rw[h0];exact rF h E m.obj (m.loc (hq (by simp[BT,X])))
  .cases h
 case binOp op t x y r =>
  have h1:=m.hζ (x:=x) (by simp[Op.operands]);have Z:=m.hζ (x:=y) (by simp[Op.operands]);rcases h1 with h0|h1
  .simp_all
  rcases Z with h0|Z
  .simp_all
  rw[h1,Z];split at h
  .exact Aaq h E
  .try simp only[*]
   split at h
   .cases h;exact pass rfl (by first|rfl|(simp only[*];done)|(simp only[*];rfl))
   .cases h;exact pass rfl (by first|rfl|(simp only[*];done)|(simp only[*];rfl))
   .cases h
  .try simp only[*]
   split at h
   .split at h
    .cases h;exact pass rfl (by first|rfl|(simp only[*];done)|(simp only[*];rfl))
    .cases h;exact pass rfl (by first|rfl|(simp only[*];done)|(simp only[*];rfl))
    .cases h
   .cases h
  .try simp only[*]
   split at h
   .cases h;exact pass rfl (by first|rfl|(simp only[*];done)|(simp only[*];rfl))
   .cases h;exact pass rfl (by first|rfl|(simp only[*];done)|(simp only[*];rfl))
   .cases h
  .try simp only[*]
   split at h
   .cases h;exact pass rfl (by first|rfl|(simp only[*];done)|(simp only[*];rfl))
   .cases h;exact pass rfl (by first|rfl|(simp only[*];done)|(simp only[*];rfl))
   .cases h
  .cases h
 case unOp op t x =>
  split at h
  .rename_i I;cases h;have:=m.Ω (by simp[Op.operands]) I;exact pass rfl (by simp only[this];rfl)
  .rename_i I;cases h;have:=m.Ω (x:=x) (by simp[Op.operands]) I;exact pass rfl (by simp only[this];rfl)
  .rename_i I;cases h;have:=m.Ω (x:=x) (by simp[Op.operands]) I;exact pass rfl (by simp only[this];rfl)
  .cases h
 case convert s d x =>
  rcases m.Uε (x:=x) (by simp[Op.operands]) with h0|h0
  .simp_all
  rw[h0];split at h
  ·(try simp only[*]);cases h;exact pass rfl rfl
  .try simp only[*]
   split at h
   .try simp only[*]
    split at h
    ·(try simp only[*]);cases h;exact pass rfl rfl
    ·(try simp only[*]);cases h;exact pass rfl rfl
    .try simp only[*]
     split at h
     .rename_i k _ _ l hk;cases h;cases BF E;have:=m.obj k (by simp) _ hk;exact .ok (by simp only[this];rfl) AP
     .cases h
    .cases h
   .cases h
  .cases h
 case makeFunc f first a6 =>
  cases f;all_goals simp only[reduceCtorEq] at h ⊢
  split at h
  .rename_i h1 Z
   .cases h;have:=m.cells (l:=a6.toList) λy hy=>by simp[Op.operands]<;>simp_all Z;exact pass rfl (by simp only[h1,this];rfl)
  .rename_i x h1 Z;split at h
   .rename_i c hc;cases h;have e1:=m.cells (l:=a6.toList) λy hy=>by simp[Op.operands]<;>simp_all Z;have e2:=m.Ω (x:=x) (by simp[Op.operands];left;have:x∈first.toList:=(by simp_all)<;>grind) hc;exact pass rfl (by simp only[h1,e1,e2];rfl)
   .cases h
  .cases h
 case makeSlice t l c =>
  split at h
  .rename_i h1 Z;simp only[m.Ω (x:=l) (by simp[Op.operands]) h1,m.Ω (x:=c) (by simp[Op.operands]) Z];exact Y6 h E
  .cases h
 case slice t x lo hi mx =>
  rcases m.Uε (x:=x) (by simp[Op.operands]) with h0|h0
  .rw[h0] at h;rw[rE] at h;cases h
  .rw[h0];exact rD m λy hy=>by subst hy;simp[Op.operands] λy hy=>by subst hy;simp[Op.operands] (λ_ hk=>hk) (λp h1 Z=>hq (by subst h1;subst Z;simp[BT,X])) h E
 case fieldAddr s x f =>
  rcases m.hζ (x:=x) (by simp[Op.operands]) with h0|h0
  .rw[h0] at h;simp[FB] at h
  .rw[h0];exact Y0 h E
 case field s x f =>
  split at h
  .rename_i h1 Z;simp only[m.op1 (x:=x) (by simp[Op.operands]) h1,Z];split at h
   .rename_i h3;cases h;exact pass rfl (by first|rfl|(simp only[h3];rfl))
   .cases h
  .cases h
 case indexAddr t x i =>
  split at h
  .rename_i h1;simp only[m.Ω (x:=i) (by simp[Op.operands]) h1];rcases m.hζ (x:=x) (by simp[Op.operands]) with a1|a1
   .rw[a1] at h;have:Ω R st x=none:=by simp[Den.Ω,a1]
    rw[this] at h;simp only[QO] at h;cases h
   .rw[a1];split at h
    .exact bQ h E
    .rcases m.Uε (x:=x) (by simp[Op.operands]) with h0|h0
     .rw[h0] at h;rw[QO] at h;cases h
     .rw[h0];exact Y1 h E m.obj
  .cases h
 case index t x i =>
  split at h
  .rename_i hu Y hi;cases h;obtain⟨y,hy,rfl⟩:=Ck E;simp only[m.opv x (by simp[Op.operands]) _ Y,m.Ω (x:=i) (by simp[Op.operands]) hi];first|exact .opt rfl hy AP|exact .opt (by simp only[hu];rfl) hy AP
  .rename_i hu Y hi;simp only[m.opv x (by simp[Op.operands]) _ Y,m.Ω (x:=i) (by simp[Op.operands]) hi,hu];exact bP h E
  .cases h
 case extract x i =>
  split at h
  .rename_i h1;simp only[m.opv x (by simp[Op.operands]) _ h1];split at h
   .rename_i h3;cases h;exact pass rfl (by first|rfl|(simp only[h3];rfl))
   .cases h
  .cases h
 case nilCheck x =>
  split at h
  .rename_i h1;cases h;exact pass rfl (by simp only[m.opv x (by simp[Op.operands]) _ h1];rfl)
  .rename_i h1;cases h;exact pass rfl (by simp only[m.opv x (by simp[Op.operands]) _ h1];rfl)
  .cases h
 case call c =>
  have g:∀x∈c.args.toList,x∈(Op.call c).operands.toList:=λx Y=>by simp only[Op.operands,Call.operands,Qfu,Qck];simp_all
  generalize J:c.callee=a8 at h ⊢;split at h
  .split at h
   .split at h
    .rename_i x Y _ t ht;unfold jL at h ⊢;split at h
     .rename_i hu;try simp only[Y,ht,hu]
      rcases m.hζ (x:=x) (g x (by simp[Y])) with h0|h0
      .rw[h0] at h;simp[Rm] at h
      .rw[h0];exact Aat h E m.obj
     .rename_i hu;split at h
      .rename_i k hk;split at h
       .rename_i T l hl;cases h;obtain⟨hb,rfl⟩:=Bu E;simp only[m.opv x (g x (by simp[Y])) _ hk,m.obj k (by simp) _ hl];exact .chk rfl hb AP
       .cases h
      .cases h
     .rename_i hu;try simp only[Y,ht,hu]
      split at h
      .rename_i l hl;cases h;obtain⟨hb,rfl⟩:=Bu E;simp only[m.opv x (g x (by simp[Y])) _ hl];exact .chk rfl hb AP
      .cases h
     .cases h
    .cases h
   .cases h
  .split at h
   .rename_i s x t t' hs ht;split at h
    .rename_i hu;try simp only[hs,ht,hu]
     rcases m.Uε (g s (by simp[hs])) with h0|h0
     .rw[h0,gG] at h;cases h
     rcases m.Uε (g x (by simp[hs])) with h1|h1
     .rw[h1,gH] at h;cases h
     rw[h0,h1];exact kI h E m.obj (m.loc (hq (by simp[BT,X,J])))
    .rename_i hu;try simp only[hs,ht,hu]
     rcases m.Uε (g s (by simp[hs])) with h0|h0
     .rw[h0,bJ] at h;cases h
     rcases m.Uε (g x (by simp[hs])) with h1|h1
     .rw[h1,bK] at h;cases h
     rw[h0,h1];exact gF h E (m.loc (hq (by simp[BT,X,J])))
    .cases h
   .cases h
  .split at h
   .rename_i x t hs ht;split at h
    .rename_i Y hu;cases h;exact pass rfl (by (try simp only[hu,m.Ω (g x (by simp[hs])) Y]);first|done|rfl)
    .cases h
   .cases h
  .split at h
   .rename_i d s t t' hs ht;try simp only[hs,ht]
    rcases m.Uε (g d (by simp[hs])) with h0|h0
    .rw[h0,qV] at h;cases h
    rcases m.Uε (g s (by simp[hs])) with h1|h1
    .rw[h1,qW] at h;cases h
    rw[h0,h1];exact wJ h E m.obj (m.loc (hq (by simp[BT,X,J])))
   .cases h
  .split at h
   .rename_i I;simp only[m.Aε g I];exact PT h E
   .cases h
  .split at h
   .rename_i I;simp only[m.Aε g I];exact PT h E
   .cases h
  .split at h
   .rename_i I;simp only[m.Aε g I];exact SX h E m.obj λhn=>m.loc (hq (by simp[BT,X,J,hn]))
   .cases h
  .rename_i t;split at h
   .rename_i f cs vs Y I;have a7:st'.get R t=some (.bfn f cs):=m.opv (.tmp t) (by simp[Op.operands,Call.operands,J]) _ Y;simp only[m.Aε g I,a7];exact SX h E m.obj λ_=>m.loc (hq (by simp[BT,X,J]))
   .rename_i f vs Y I;have a7:st'.get R t=some (.fn f []):=m.opv (.tmp t) (by simp[Op.operands,Call.operands,J]) _ Y;simp only[m.Aε g I,a7];exact SX h E m.obj λ_=>m.loc (hq (by simp[BT,X,J]))
   .cases h
  .cases h
end
structure Rec where
 run:Bool
 e:Eff
 key:Nat
 al:Bool
 ld:Option Rng:=none
 st:Option Rng:=none
abbrev Tr:=List (Nat×Rec)
def CC (u:List (Nat×Option Ψ)):List Nat:=u.map (·.1)
def DE:List (Nat×Option Ψ)->Nat->Option (Option Ψ)
 |[],_=>none
 |(k,x)::r,j=>match DE r j with
  |some y=>some y
  |none=>if k=j then some x else none
def GQ:∀ {u} {k},k∉CC u->DE u k=none
 |[],_,_=>rfl
 |(j,x)::r,k,h=>by simp only[CC,Qcu,Qdw,not_or] at h;simp only[DE,GQ h.2]<;>grind
def QR:∀ {u} {c} {k},assoc (Bw u c) k=match DE u k with|some x=>x|none=>assoc c k
 |[],c,k=>rfl
 |(j,some o)::r,c,k=>by
  simp only[Bw,DE];rw[QR];cases DE r k with
  |some y=>rfl
  |none =>simp only[AE,Dh]<;>grind
 |(j,none)::r,c,k=>by
  simp only[Bw,DE];rw[QR];cases DE r k with
  |some y=>rfl
  |none =>simp only[Dh]<;>grind
def adv (_:RO) (l:List Oper) (s:St) (j:Nat) (r:Rec):St:=St.put {env:=s.env,heap:=Bw r.e.upd s.heap,next:=s.next} (Fc l j) r.e.dst
structure Sub (q:Prop) (R:RO) (s' s:St):Prop where
 env:∀t v,s'.get R t=some v->s.get R t=some v
 obj:∀k o,s'.obj R k=some o->s.obj R k=some o
 loc:q->∀k o,assoc s'.heap k=some o->assoc s.heap k=some o
 next:s'.next=s.next
def Sub.refl q R s:Sub q R s s:=⟨λ_ _ h=>h,λ_ _ h=>h,λ_ _ _ h=>h,rfl⟩
def Sub.trans {q R a b c} (h:Sub q R a b) (g:Sub q R b c):Sub q R a c :=
 ⟨λt v e=>g.env t v (h.env t v e),λk o e=>g.obj k o (h.obj k o e),λd k o e=>g.loc d k o (h.loc d k o e),h.next.trans g.next⟩
def Plain (key:Nat) (d e:Eff):Prop :=
 ∃T l rd n,d={dst:=some (.v (.c (.ref key))),upd:=[(key,some (.arr T l))],Γ:=[],reads:=rd,next:=n}/\e={dst:=some (.v (.c (.sl T l))),reads:=rd,next:=key}
structure Nε (q:Prop) (C:Ctx) (R:RO) (l:List Oper) (s:St) (j:Nat) (r:Rec):Prop where
 ex:∃o,l[j]?=some o/\free R o.dst=true/\r.e.Γ=[]/\(¬q->BT C o=true)/\((∀x,r.ld=some x->ldR C.P R s o=some x)/\∀x,r.st=some x->stR C.P R s o=some x) /\
  ((r.run=true/\Told R l s o true/\∃out e0,aop C R {s with next:=r.key} o=some out/\out.run=some e0/\(e0.upd≠[]->r.al=true)/\(r.e=e0\/Plain r.key e0 r.e)) \/
   r.run=false/\Told R l s o false/\r.e.dst=some .undef/\r.e.upd=[])
inductive oε (q:Prop) (C:Ctx) (R:RO) (l:List Oper) (fin:St):St->Tr->Prop
 |nil {s:St}:Sub q R fin s->oε q C R l fin s []
 |cons {s:St} {j:Nat} {r:Rec} {L:Tr}:Nε q C R l s j r->oε q C R l fin (adv R l s j r) L->oε q C R l fin s ((j,r)::L)
section
variable {q:Prop} {C:Ctx} {R:RO} {l:List Oper} {s s' fin:St} {j i:Nat} {r ri:Rec}
def Pz {t}:(adv R l s j r).get R t=if Fc l j=some t then r.e.dst else s.get R t:=by
 unfold adv;cases h:Fc l j with
 |none=>simp[St.put,St.get]
 |some d =>rw[Fx];simp only[Qaf];rfl
def Sc {k}:assoc (adv R l s j r).heap k=match DE r.e.upd k with|some x=>x|none=>assoc s.heap k:=by unfold adv;rw[Yo];exact QR
def LY {k}:(adv R l s j r).obj R k=match DE r.e.upd k with|some (some o)=>some o|some none=>assoc R.rheap k|none=>s.obj R k:=by unfold St.obj;rw[Sc]<;>grind
def JH:(adv R l s j r).next=s.next:=by unfold adv;rw[CG]
def Aeh (h:Sub q R s' s):Sub q R (adv R l s' j r) (adv R l s j r):=by
 refine ⟨λt v e=>?_,λk o e=>?_,λd k o e=>?_,by rw[JH,JH];exact h.next⟩
 .rw[Pz] at e ⊢;split
  .simp_all
  .rename_i g;rw[if_neg g] at e;exact h.env t v e
 .rw[LY] at e ⊢;cases c:DE r.e.upd k with
  |none=>rw[c] at e;exact h.obj k o e
  |some x=>grind
 .rw[Sc] at e ⊢;cases c:DE r.e.upd k with
  |none=>rw[c] at e;exact h.loc d k o e
  |some x=>simp_all
def Xq {o t} (h:Operand.tmp t∈o.op.operands.toList):t∈looks l o:=by
 have:t∈PJ o:=by simp only[PJ,List.mem_filterMap]<;>grind
 unfold looks<;>grind
def Mb {o b} (h:Told R l s o b) (hg:∀t∈looks l o,∀v,s.get R t=some v->s'.get R t=some v):Told R l s' o b:=by
 have d:∀j w g,o.guard=some (j,w)->Fc l j=some g->g∈looks l o:=λj w g h1 c=>by simp[looks,h1,c]
 cases b with
 |true =>
  rcases h with h|⟨j,w,g,h1,c,y⟩
  .exact .inl h
  .exact .inr ⟨j,w,g,h1,c,hg g (d j w g h1 c) _ y⟩
 |false =>obtain⟨j,w,g,h1,c,y⟩:=h;exact ⟨j,w,g,h1,c,y.imp (hg g (d j w g h1 c) _) (hg g (d j w g h1 c) _)⟩
def oJ {o a v} (d:a∈o.op.operands.toList) (hg:∀t∈looks l o,∀v,s.get R t=some v->s'.get R t=some v) (h:opv R s a=some v):opv R s' a=some v:=by
 cases a with
 |tmp t=>exact hg t (Xq d) v h
 |const c=>exact h
 |func f=>exact h
 |global g=>exact h
def X7 {o x} (h:ldR C.P R s o=some x) (hg:∀t∈looks l o,∀v,s.get R t=some v->s'.get R t=some v):ldR C.P R s' o=some x:=by
 unfold ldR at h ⊢;split at h
 .rename_i t a c;split at h
  .rename_i k off d;have:=oJ (by simp[c,Op.operands]) hg d;simp only[this];exact h
  .cases h
 .cases h
def qA {o x} (h:stR C.P R s o=some x) (hg:∀t∈looks l o,∀v,s.get R t=some v->s'.get R t=some v):stR C.P R s' o=some x:=by
 unfold stR at h ⊢;split at h
 .rename_i t a y c;split at h
  .rename_i k off d;have:=oJ (by simp[c,Op.operands]) hg d<;>simp_all
  .cases h
 .cases h
def sU {c} (h:r.e=c\/Plain r.key c r.e):r.e.reads=c.reads:=by rcases h with h|⟨T,l,rd,n,h1,d⟩<;>simp_all
def Nε.move (h:Nε q C R l s j r) (hg:∀o,l[j]?=some o->∀t∈looks l o,∀v,s.get R t=some v->s'.get R t=some v)
 (Z:iε (s.obj R) (s'.obj R) r.e.reads) (hl:q->iε (assoc s.heap) (assoc s'.heap) r.e.reads):Nε q C R l s' j r:=by
 obtain⟨o,h1,h2,h3,h4,⟨I,y⟩,h5⟩:=h.ex;refine ⟨o,h1,h2,h3,h4,⟨λx d=>X7 (I x d) (hg o h1),λx d=>qA (y x d) (hg o h1)⟩,?_⟩;rcases h5 with ⟨a,b,out,e0,ha,hr,a1,hp⟩|⟨a,b,c⟩
 .refine .inl ⟨a,Mb b (hg o h1),?_⟩;have J:=sU hp;have m:zε q R o.op.operands.toList e0.reads {s with next:=r.key} {s' with next:=r.key}:=by
   refine ⟨λx d v E=>?_,λk X x d=>?_,λhq k X x d=>?_⟩
   .cases x with
    |tmp t=>exact hg o h1 t (Xq d) v E
    |const c=>exact E
    |func f=>exact E
    |global g=>exact E
   .rw[<-J] at X;exact Z k X x d
   simp_all
  obtain⟨Y,e',x1,x2,x3⟩:=k9 ha hr m (λy=>by simp_all);have:=x3.1 rfl<;>simp_all
 .exact .inr ⟨a,Mb b (hg o h1),c⟩
def Nε.sub (h:Nε q C R l s' j r) (c:Sub q R s' s):Nε q C R l s j r :=
 h.move (λ_ _ t _ v g=>c.env t v g) (λk _ o d=>c.obj k o d) λy k _ o d=>c.loc y k o d
def oε.sub:∀ {L} {s' s},oε q C R l fin s' L->Sub q R s' s->oε q C R l fin s L
 |[],_,_,.nil h,c=>.nil (h.trans c)
 |_::_,_,_,.cons h d,c=>.cons (h.sub c) (d.sub (Aeh c))
structure YD (l:List Oper) (x y:Nat×Rec):Prop where
 dst:∀d,Fc l x.1=some d->Fc l y.1≠some d
 xy:∀d,Fc l x.1=some d->∀o,l[y.1]?=some o->d∉looks l o
 yx:∀d,Fc l y.1=some d->∀o,l[x.1]?=some o->d∉looks l o
 uu:∀k∈CC x.2.e.upd,k∉CC y.2.e.upd
 ur:(∀k∈CC x.2.e.upd,k∉y.2.e.reads)\/Ow x.2.st y.2.ld=true
 ru:(∀k∈CC y.2.e.upd,k∉x.2.e.reads)\/Ow y.2.st x.2.ld=true
def Mz {o t} (c:∀d,Fc l j=some d->d∉looks l o) (g:t∈looks l o):(adv R l s j r).get R t=s.get R t:=by rw[Pz,if_neg λh=>c t h g]
def MM {k} {ks:List Nat} (h:∀k∈CC r.e.upd,k∉ks) (c:k∈ks):(adv R l s j r).obj R k=s.obj R k/\assoc (adv R l s j r).heap k=assoc s.heap k:=by have:= GQ λd=>h k d c;exact ⟨by rw[LY,this],by rw[Sc,this]⟩
def Acv {x y} (h:YD l x y):Sub q R (adv R l (adv R l s x.1 x.2) y.1 y.2) (adv R l (adv R l s y.1 y.2) x.1 x.2):=by
 refine ⟨λt v e=>?_,λk o e=>?_,λc k o e=>?_,by simp only[JH]⟩
 .rw[Pz,Pz] at e ⊢;by_cases h1:Fc l x.1=some t
  .have d:=h.dst t h1<;>simp_all
  simp_all
 .rw[LY,LY] at e ⊢;by_cases h1:k∈CC x.2.e.upd
  .rw[GQ (h.uu k h1)] at e ⊢;exact e
  .rw[GQ h1] at e ⊢;exact e
 .rw[Sc,Sc] at e ⊢;by_cases h1:k∈CC x.2.e.upd
  .rw[GQ (h.uu k h1)] at e ⊢;exact e
  .rw[GQ h1] at e ⊢;exact e
def Ul {cs vs o} (h:o+vs.length<=cs.length):(splice cs o vs).length=cs.length:=by simp only[splice,Qau,Qbn,Qdj];omega
def zO {cs vs o i} (h:o+vs.length<=cs.length) (hi:i<o\/o+vs.length<=i):(splice cs o vs)[i]?=cs[i]?:=by
 unfold splice;rcases hi with hi|hi
 .rw[Qaq,Qdc (by simp;omega),Qbg,if_pos hi]
 .rw[Qdp (by simp;omega),Qcy]<;>grind
def XA {cs vs o off n} (h:o+vs.length<=cs.length) (c:o+vs.length<=off\/off+n<=o):((splice cs o vs).drop off).take n=(cs.drop off).take n:=by
 refine Qdq λi=>?_;simp only[Qbg,Qcy];split
 .rw[zO h (by omega)]
 .rfl
def zR {t a b} {k off k' c n:Nat} (d:a.length=b.length) (g:(match El C.P t,C.P.info? t with|some true,some i=>some (k,off,i.size)|some false,some _=>some (k,off,1)|_,_=>none)=some (k',c,n)) (h:a.take n=b.take n):H2 C.P t a=H2 C.P t b:=by unfold H2<;>grind
def tI {o key out J k off n} (d:stR C.P R s o=some (k,off,n)) (g:aop C R {s with next:=key} o=some out) (he:out.run=some J) :
 ∃cs vs,assoc s.heap k=some (.box cs)/\vs.length=n/\off+vs.length<=cs.length/\J.upd=[(k,some (.box (splice cs off vs)))]/\J.dst=none:=by
 unfold stR at d;split at d
 .rename_i t a x X;split at d
  .rename_i k' Z Y;split at d
   .rename_i inf h;cases d;have y:opv R {s with next:=key} a=some (.v (.c (.ptr k off))):=Y;unfold aop at g;simp only[X] at g;split at g
    .rename_i v hv;unfold GI at g;simp only[h,y] at g;split at g
     .cases g
     .rename_i E;split at g
      .rename_i cs hk;split at g
       .rename_i I;cases g;cases BF he;exact ⟨cs,v.cells,hk,beq_true E,Qbe I,rfl,rfl⟩
       .cases g
      .cases g
    .cases g
   .cases d
  .cases d
 .cases d
def Abd {o:Oper} {key:Nat} {out:υ} {e0:Eff} {k off n:Nat} (g:ldR C.P R s o=some (k,off,n)) (d:ldR C.P R s' o=some (k,off,n)) (ha:aop C R {s with next:=key} o=some out) (ae:out.run=some e0)
 {cs:List Cell} (a7:s.obj R k=some (.box cs)) {y:List Cell} (I:s'.obj R k=some (.box y)) (hl:cs.length=y.length) (ht:(cs.drop off).take n=(y.drop off).take n):aop C R {s' with next:=key} o=some out:=by
 unfold ldR at g d;split at g
 .rename_i t a J;simp only[J] at d;split at g
  .rename_i k1 X a8;split at d
   .rename_i Y h Z;have hk:k1=k/\X=off:=by
     split at g
     .cases g;exact ⟨rfl,rfl⟩
     .cases g;exact ⟨rfl,rfl⟩
     .cases g
    have aa:Y=k/\h=off:=by
     split at d
     .cases d;exact ⟨rfl,rfl⟩
     .cases d;exact ⟨rfl,rfl⟩
     .cases d
    obtain⟨rfl,rfl⟩:=hk;obtain⟨rfl,rfl⟩:=aa;have a1:opv R {s with next:=key} a=some (.v (.c (.ptr Y h))):=a8;have a6:opv R {s' with next:=key} a=some (.v (.c (.ptr Y h))):=Z;have ab:({s with next:=key}:St).obj R Y=some (.box cs):=a7;have ad:({s' with next:=key}:St).obj R Y=some (.box y):=I;have E:=zR (C:=C) (a:=cs.drop h) (b:=y.drop h) (by simp[hl]) g ht;unfold aop at ha ⊢;simp only[J,Gf,a1,a6,ab,ad,E] at ha ⊢;exact ha
   .cases d
  .cases g
 .cases g
def yJ {o key out X k off n} (g:ldR C.P R s o=some (k,off,n)) (y:aop C R {s with next:=key} o=some out) (Y:out.run=some X):∃cs,s.obj R k=some (.box cs):=by
 unfold ldR at g;split at g
 .rename_i t a E;split at g
  .rename_i k1 d I;have Z:k1=k/\d=off:=by grind
   obtain⟨rfl,rfl⟩:=Z;have h:opv R {s with next:=key} a=some (.v (.c (.ptr k1 d))):=I;unfold aop at y;simp only[E,Gf,h] at y;split at y
   .rename_i cs J;exact ⟨cs,J⟩
   .cases y
  simp_all
 simp_all
def rA {a b} (h:Ow a b=true):∃k o n k' o' n',a=some (k,o,n)/\b=some (k',o',n')/\(o+n<=o'\/o'+n'<=o):=by
 unfold Ow at h;split at h
 .rename_i k o n k' o' n';rw[Qaj] at h;exact ⟨k,o,n,k',o',n',rfl,rfl,h.imp Qbe Qbe⟩
 .cases h
def AgJ {x y:Nat×Rec} (hy:Nε q C R l s y.1 y.2) (ab:Ow y.2.st x.2.ld=true) {sa Y:St} (I:sa=s/\Y=adv R l s y.1 y.2\/Y=s/\sa=adv R l s y.1 y.2) (hx:Nε q C R l sa x.1 x.2)
 (hg:∀o,l[x.1]?=some o->∀t∈looks l o,∀v,sa.get R t=some v->Y.get R t=some v):Nε q C R l Y x.1 x.2:=by
 obtain⟨k,o,n,k',o',n',e1,e2,hd⟩:=rA ab;obtain⟨X,g1,g2,g3,g4,⟨Z,ad⟩,g5⟩:=hx.ex;refine ⟨X,g1,g2,g3,g4,⟨λz hz=>X7 (Z z hz) (hg X g1),λz hz=>qA (ad z hz) (hg X g1)⟩,?_⟩;rcases g5 with ⟨a1,a2,out,e0,a3,a4,a5,a6⟩|⟨a1,a2,a3⟩
 case inr=>exact .inr ⟨a1,Mb a2 (hg X g1),a3⟩
 refine .inl ⟨a1,Mb a2 (hg X g1),out,e0,?_,a4,a5,a6⟩;have h:=Z _ e2;have a7:=X7 h (hg X g1);obtain⟨ca,c⟩:=yJ h a3 a4;obtain⟨oy,h1,h2,h3,h4,⟨ak,ae⟩,h5⟩:=hy.ex;have key:∃cb,Y.obj R k'=some (.box cb)/\ca.length=cb.length/\(ca.drop o').take n'=(cb.drop o').take n':=by
  rcases h5 with ⟨b1,b2,aj,ey,b3,b4,b5,b6⟩|⟨b1,b2,b3,b4⟩
  .obtain⟨cs,vs,af,al,g,a8,E⟩:=tI (ae _ e1) b3 b4;have ag:y.2.e=ey:=by
    rcases b6 with b6|⟨T,l',rd,n2,b7,_⟩
    .exact b6
    .rw[b7] at E;cases E
   have hs:s.obj R k=some (.box cs):=by simp[St.obj,af]
   have d:∀j,(adv R l s y.1 y.2).obj R j=if j=k then some (.box (splice cs o vs)) else s.obj R j:=λj=>by
    rw[LY,ag,a8];simp only[DE];by_cases hj:k=j
    .subst hj;simp
    .simp[hj,Ne.symm hj]
   by_cases J:k'=k
   .subst J;rcases I with ⟨rfl,rfl⟩|⟨rfl,rfl⟩
    .rw[hs] at c;cases c;exact ⟨_,by rw[d,if_pos rfl],(Ul g).symm,(XA g (by omega)).symm⟩
    .rw[d,if_pos rfl] at c;cases c;exact ⟨_,hs,Ul g,XA g (by omega)⟩
   .rcases I with ⟨rfl,rfl⟩|⟨rfl,rfl⟩
    .exact ⟨ca,by rw[d,if_neg J];exact c,rfl,rfl⟩
    .rw[d,if_neg J] at c;exact ⟨ca,c,rfl,rfl⟩
  .have d:∀j,(adv R l s y.1 y.2).obj R j=s.obj R j:=λj=>by rw[LY,b4];rfl
   rcases I with ⟨rfl,rfl⟩|⟨rfl,rfl⟩
   .exact ⟨ca,by rw[d];exact c,rfl,rfl⟩
   .rw[d] at c;exact ⟨ca,c,rfl,rfl⟩
 obtain⟨cb,ah,aa,ai⟩:=key;exact Abd h a7 a3 a4 c ah aa ai
def oε.xζ:∀ {L1 L2} {s},oε q C R l fin s (L1++(i,ri)::L2)->(∀p∈L1,YD l p (i,ri))->Nε q C R l s i ri/\oε q C R l fin (adv R l s i ri) (L1++L2)
 |[],_,_,.cons h hc,_=>⟨h,hc⟩
 |(p,rp)::L1,L2,s,.cons h hc,hi=>by
  obtain⟨h1,h2⟩:=oε.xζ hc λx g=>hi x (Qak _ g);have g:=hi (p,rp) (Qbr ..);have X:Nε q C R l s i ri:=by
   rcases g.ur with Y|y
   .refine h1.move (λo c t E v Z=>?_) (λk I o c=>?_) λ_ k I o c=>?_
    .rwa [Mz (λd J=>g.xy d J o c) E] at Z
    .rwa [(MM Y I).1] at c
    .rwa [(MM Y I).2] at c
   .exact AgJ h y (.inr ⟨rfl,rfl⟩) h1 λo c t E v Z=>by rwa [Mz (λd J=>g.xy d J o c) E] at Z
  refine ⟨X,.cons ?_ (h2.sub (Acv g))⟩;rcases g.ru with a1|y
  .refine h.move (λo c t E v Z=>?_) (λk I o c=>?_) λ_ k I o c=>?_
   .rwa [Mz (λd J=>g.yx d J o c) E]
   .rwa [(MM a1 I).1]
   .rwa [(MM a1 I).2]
  .exact AgJ X y (.inl ⟨rfl,rfl⟩) h λo c t E v Z=>by rwa [Mz (λd J=>g.yx d J o c) E]
end
section
variable {q:Prop} {C:Ctx} {B:Ξ} {R:RO} {l:List Oper} {s:St} {j:Nat} {r:Rec} {D D':Nat->Prop}
variable {μ μ0:AI} {O O0:Nat->Prop} {w w0:World} {a:Act} {N:Nat}
abbrev Ξ.at (B:Ξ) (D:Nat->Prop):Ξ:={B with D:=D}
def ρ.aζ {d} (h:ρ (B.at D) R s μ O w) (g:∀k p,μ k=some p->k<d.next\/D' k) (c:∀k o,d.obj R k=some o->s.obj R k=some o):ρ (B.at D') R d μ O w :=
 {heap:=λk o e=>h.heap k o (c k o e)
  own:=λk o e=>h.own k o (c k o e)
  inj:=λk k' o o' e t=>h.inj k k' o o' (c k o e) (c k' o' t)
  foreign:=h.foreign,flt:=h.flt,dom:=g,below:=h.below,bsize:=h.bsize,obound:=h.obound}
def WI {e k} {st:St} (c:e.Γ=[]):(st.mem R e).obj R k=match DE e.upd k with|some (some o)=>some o|some none=>assoc R.rheap k|none=>st.obj R k:=by unfold St.mem St.after;rw[PI,c];unfold St.obj;simp only[QR,St.Γ]<;>grind
def Ada {e} {st:St}:(st.mem R e).next=e.next:=by unfold St.mem St.after;rw[CG]
def JQ {o} (h:l[j]?=some o):Fc l j=o.dst:=by simp[Fc,h]
def AeC {o next Q} (hC:DG C B) (g:At (B.at D) R N μ0 O0 w0 s μ O a w) (ax:Nε q C R l s j r) (ho:l[j]?=some o) (aP:r.run=true) (hD:∀k,r.key<=k->k<r.key+16->¬D k) (hn:s.next<=r.key)
 (hR:∀k,assoc R.rheap k≠none->k<s.next) (an:∀k,D k->D' k) (ag:r.al=true->∀k,r.key<=k->k<r.key+16->D' k) (hN:∀d,o.dst=some d->d<N)
 (ao:∀μ' O' a' w',At (B.at D') R N μ0 O0 w0 (adv R l s j r) μ' O' a' w'->next a' w'):o.wp C.P a w next Q:=by
 obtain⟨o',I,hf,b0,_,_,h5⟩:=ax.ex;rw[ho] at I;cases I;rcases h5 with ⟨_,_,out,e0,ha,hr,ah,hp⟩|⟨b1,_⟩
 case inr=>simp_all
 have y:e0.Γ=[]:=by rcases hp with hp|⟨T,l',rd,n,h1,_⟩<;>simp_all
 have a7:= λt ht=>Qac (hN t ht) g.size;refine (eA hC (B:=B.at D) (st:={s with next:=r.key}) (g.mem.congr (λ_ _ h=>h) hn) hD (λt v hv=>g.env t v hv) ha hr (by simp[JD,y])).wp λv w' ⟨μ',O',E,ay,ae⟩=>?_;have hold:∀k o',s.obj R k=some o'->k<s.next\/D' k:=λk o' I=>by obtain⟨p,hp⟩:=(g.mem.heap k o' I).some;exact (g.mem.dom k p hp).imp id (an k)
 have aq:∀k p,μ' k=some p->k<s.next\/D' k:=λk p Y=>by
  rcases E.new k p Y with h|⟨h1,o',J⟩
  .exact (g.mem.dom k p h).imp id (an k)
  .rw[Ada] at h1;rw[WI y] at J;cases (Iu ha hr).1 with
   |still hu aa =>rw[hu] at J;exact hold k o' J
   |new o1 hu aa =>
    by_cases a1:r.key=k
    .exact .inr (ag (ah (by simp_all)) k (by omega) (by omega))
    .rw[hu] at J;simp only[DE,a1,if_false] at J;exact hold k o' J
   |set k' o1 hu ai aa =>
    by_cases a1:k'=k
    .subst a1;cases hh:assoc s.heap k' with
     |none=>exact absurd hh ai
     |some o2=>exact hold k' o2 (by simp[St.obj,hh])
    .rw[hu] at J;simp only[DE,a1,if_false] at J;exact hold k o' J
   |move k' o1 hu ai aa =>
    by_cases a1:r.key=k
    .exact .inr (ag (ah (by simp_all)) k (by omega) (by omega))
    .by_cases ar:k'=k
     .subst ar;cases hh:assoc s.heap k' with
      |none=>exact absurd hh ai
      |some o2=>exact hold k' o2 (by simp[St.obj,hh])
     .rw[hu] at J;simp only[DE,a1,ar,if_false] at J;exact hold k o' J
   |news hu aa =>
    cases hl:DE e0.upd k with
    |none=>rw[hl] at J;exact hold k o' J
    |some x =>obtain⟨z,hz,b2⟩:=List.mem_map.1 (Qar λhh=>by rw[GQ hh] at hl;cases hl);obtain⟨_,g2,g3⟩:=hu z hz;exact .inr (ag (ah λhh=>by simp_all) k (by simp_all) (by grind))
 rcases hp with hp|⟨T,l',rd,n,h1,J⟩
 .refine ao μ' O' _ w' ⟨E.mem.aζ λk p Y=>by rw[JH]<;>simp_all λk o' h=>?_,?_,by rw[put_defers];exact g.defers,by rw[CH];exact g.size,g.le.trans E.le,g.keeps.trans E.keeps,λk p Y=>by rw[JH];exact g.dom0 k p Y⟩
  .rw[LY,hp] at h;rw[WI y];exact h
  .rw[NO];intro t x X;refine Z2 (st:={s with next:=r.key}) (λt v hv=>g.env t v hv) E ay ae a7 t x ?_;rw[Pz,JQ ho,hp] at X;unfold St.after;rw[y];cases hd:o.dst with
   |none =>
    rw[hd] at X;have aj:s.get R t=some x:=by simpa using X
    exact aj
   |some d =>
    rw[hd] at X;rw[Fx];have aj:(if d=t then e0.dst else s.get R t)=some x:=by simpa using X
    exact aj
 .have au:assoc R.rheap r.key=none:=by
   cases hh:assoc R.rheap r.key with
   |none=>rfl
   |some o1=>have:=hR r.key (by rw[hh];simp);omega
  have af:(St.mem R {s with next:=r.key} e0).obj R r.key=some (.arr T l'):=by rw[WI y,h1];simp[DE]
  have av:∀k o',s.obj R k=some o'->k≠r.key:=λk o' I e=>by
   obtain⟨p,hp⟩:=(g.mem.heap k o' I).some;subst e;rcases g.mem.dom _ p hp with h|h
   .have h':= h;omega
   .exact hD _ (χ _) (by omega) h
  have ab:∀k o',s.obj R k=some o'->(St.mem R {s with next:=r.key} e0).obj R k=some o':=λk o' I=>by rw[WI y,h1];simp only[DE,Ne.symm (av k o' I),if_false];exact I
  obtain⟨O2,a6,ad,az⟩:=E.mem.freeze [r.key] (λk Y=>by simp at Y;subst Y;exact fε.2 au) (λk Y=>by simp at Y;subst Y;exact ⟨_,af⟩) [];have Z:∀k o',(adv R l s j r).obj R k=some o'->s.obj R k=some o':=λk o' h=>by rw[LY,J] at h;exact h
  have aw:∀k o',s.obj R k=some o'->∃o2,({env:=[],heap:=Ef ((St.mem R {s with next:=r.key} e0).obj R) [r.key] (St.mem R {s with next:=r.key} e0).heap,next:=(St.mem R {s with next:=r.key} e0).next}:St).obj R k=some o2:=λk o' I=>by
   have h3:=ab k o' I;have h4:=av k o' I;unfold St.obj at h3 ⊢;simp only[F7];cases hh:assoc (St.mem R {s with next:=r.key} e0).heap k with
   |none=>rw[hh] at h3;exact ⟨o',by simp[h4,h3]⟩
   |some o3=>exact ⟨_,by simp[h4];rfl⟩
  refine ao μ' O2 _ w' ⟨{heap:=λk o' h=>?_,own:=λk o' h p b hp hb=>?_,inj:=λk k' o1 o2 e1 e2=>E.mem.inj k k' o1 o2 (ab _ _ (Z _ _ e1)) (ab _ _ (Z _ _ e2)),foreign:=a6.foreign,flt:=a6.flt,dom:=λk p Y=>by rw[JH];exact aq k p Y,below:=a6.below,bsize:=a6.bsize,obound:=a6.obound},?_,by rw[put_defers];exact g.defers,by rw[CH];exact g.size,g.le.trans E.le,g.keeps.trans (E.keeps.trans ad),λk p Y=>by rw[JH];exact g.dom0 k p Y⟩
  .exact Cx ad (μle.refl _) o' (λ_ _ _ _=>rfl) (E.mem.heap k o' (ab _ _ (Z _ _ h)))
  .obtain⟨o2,aB⟩:=aw k o' (Z _ _ h);exact a6.own k o2 aB p b hp hb
  .rw[NO];intro t x X;rw[Pz,JQ ho] at X;have a8:= λh=>D3 (E.keeps.trans ad) E.le x (g.env t x h);cases hd:o.dst with
   |none=>rw[hd] at X;exact a8 (by simpa using X)
   |some d =>
    rw[hd] at X;simp only[TL];by_cases ak:d=t
    .subst ak;rw[if_pos rfl,J] at X;simp only[Qaf] at X;subst X;rw[show (a.tmps.setIfInBounds d v).getD d undef=v by simp[a7 d hd]];have:=Qh ad E.mem.heap az (.v (.c (.ref r.key))) (ae _ (by rw[h1]));simpa[My,jT,LM,af,Qeb] using this
    .rw[if_neg (by simpa using ak)] at X;rw[show (a.tmps.setIfInBounds d v).getD t undef=a.tmps.getD t undef by simp[Qbt ak]];exact a8 X
def AaM (hC:DG C B) {ops:Array Oper} (hl:ops.toList=l) (c:At (B.at D) R N μ0 O0 w0 s μ O a w) (t:Nε q C R l s j r) (hD:∀k,r.key<=k->k<r.key+16->¬D k) (hn:s.next<=r.key)
 (hR:∀k,assoc R.rheap k≠none->k<s.next) (y:∀k,D k->D' k) (J:r.al=true->∀k,r.key<=k->k<r.key+16->D' k) (Z:∀(i:Nat) (o:Oper),l[i]?=some o->∀d,o.dst=some d->d<N) {next:Act->World->Prop} {Q:Exit->Act->World->Prop}
 (E:∀μ' O' a' w',At (B.at D') R N μ0 O0 w0 (adv R l s j r) μ' O' a' w'->next a' w'):wpOp C.P ops Q j next a w:=by
 subst hl;obtain⟨o,I,hf,a1,a6,_,h5⟩:=t.ex;have X:ops[j]?=some o:=by rwa [Qav] at I
 unfold wpOp;rw[X];rcases h5 with ⟨hr,Y,hx⟩|⟨hr,Y,hd,hu⟩
 .simp only[Lf c.env Y,if_true];exact .inl (AeC hC c t I hr hD hn hR y J (Z j o I) E)
 .simp only[Lf c.env Y,Qcz,if_false];have g:=c.skip (d:=o.dst) (Z j o I);have he:adv R ops.toList s j r=s.put o.dst (some .undef):=by unfold adv;rw[JQ I,hd,hu];rfl
  refine E μ O _ w ?_;rw[he];exact ⟨g.mem.aζ (λk p hk=>(g.mem.dom k p hk).imp id (y k)) λ_ _ h=>h,g.env,g.defers,g.size,g.le,g.keeps,g.dom0⟩
end
def M (l:List Oper) (i:Nat):Nat:=(Jq [] l).getD i 0
def TB {ms k}:∀ {es},(MH ms es).testBit k=true->∃e∈es,Region.binds .any e=true/\(e.on=k\/(ms.getD e.on 0).testBit k=true)
 |[],h=>by simp[MH] at h
 |e::r,h=>by
  simp only[MH] at h;split at h
  .rename_i c;have h':(1 <<< e.on ||| ms.getD e.on 0 ||| MH ms r).testBit k=true:=h;rw[Qey,Qey,Qaj,Qaj] at h';rcases h' with (h1|h1)|h1
   .refine ⟨e,by simp,c,.inl ?_⟩;rw[Nat.one_shiftLeft,Nat.testBit_two_pow] at h1<;>simp_all
   .exact ⟨e,by simp,c,.inr h1⟩
   .obtain⟨d,g,t⟩:=TB h1<;>grind
  .obtain⟨d,g,t⟩:=TB h<;>grind
def RH:∀ {l} {ms} {i x:Nat},ms[i]?=some x->(Jq ms l)[i]?=some x
 |[],ms,i,x,h=>h
 |o::r,ms,i,x,h=>by simp only[Jq];refine RH ?_<;>grind
def TD:∀ {l} {ms} {j} {o},l[j]?=some o->∃c:List Nat,(Jq ms l)[ms.length+j]?=some (MH c o.after.toList)/\∀(i x:Nat),c[i]?=some x->(Jq ms l)[i]?=some x
 |[],ms,j,o,h=>by simp at h
 |o'::r,ms,0,o,h=>by simp at h;subst h;refine ⟨ms,?_,λi x d=>RH d⟩;simp only[Jq];exact RH (by simp)
 |o'::r,ms,j+1,o,h=>by obtain⟨c,h1,g⟩:=TD (by simpa using h);refine ⟨c,?_,g⟩;simp only[Jq]<;>grind
def Ag7 {l i k o} (g:l[i]?=some o) (h:(M l i).testBit k=true):∃e∈o.after.toList,Region.binds .any e=true/\(e.on=k\/(M l e.on).testBit k=true):=by
 obtain⟨c,h1,t⟩:=TD (ms:=[]) g;simp only[Qbu,Qbm] at h1;have y:M l i=MH c o.after.toList:=by simp[M,Qba,h1]
 rw[y] at h;obtain⟨e,E,h4,I⟩:=TB h;refine ⟨e,E,h4,I.imp id λh6=>?_⟩;rw[Qba] at h6;cases d:c[e.on]? with
 |none=>simp_all
 |some x=>rw[d] at h6;simpa[M,Qba,t _ _ d] using h6
def Zd {i}:∀ {es},jO i es=true->∀e∈es,Region.binds .any e=true->e.on<i
 |[],_,e,c,_=>by simp at c
 |t::r,h,e,c,d=>by
  simp only[jO] at h;split at h
  .cases h
  .rename_i g;rcases List.mem_cons.1 c with rfl|c
   .rw[d] at g;have:Nat.ble (e.on+1) i=true:=by simp_all
    exact Qbe this
   .exact Zd h e c d
def PX:∀ {l} {i},Nw i l=true->∀j o,l[j]?=some o->∀e∈o.after.toList,Region.binds .any e=true->e.on<i+j
 |[],i,_,j,o,h=>by simp at h
 |o'::r,i,h,j,o,c=>by
  simp only[Nw] at h;split at h
  .rename_i g;cases j with
   |zero=>simp at c;subst c;exact Zd g
   |succ j =>intro e t d;have:=PX h j o (by simpa using c) e t d;omega
  .cases h
def Dof (done:Tr) (k:Nat):Prop:=∃x∈done,x.2.al=true/\x.2.key<=k/\k<x.2.key+16
def Far (x y:Nat×Rec):Prop:=x.2.al=true\/y.2.al=true->x.2.key+16<=y.2.key\/y.2.key+16<=x.2.key
def Far.symm {x y} (h:Far x y):Far y x:=λg=>(h g.symm).symm
def Xε {i} {a:Array Bool}:a.getD i true=false↔a[i]?=some false:=by rw[Qao]<;>grind
def bζ {i} {a:Array Bool}:a.getD i false=true↔a[i]?=some true:=by rw[Qao]<;>grind
def qε {ops listed i}:i∈Region.ready .any ops listed↔∃o,ops[i]?=some o/\listed[i]?=some false/\∀e∈o.after.toList,Region.binds .any e=true->listed[e.on]?=some true:=by
 unfold Region.ready;rw[List.mem_filter,List.mem_range,Qab];constructor
 .rintro⟨h1,t,c⟩;have d:listed.getD i true=false:=by simp_all
  refine ⟨ops[i],by simp[h1],Xε.1 d,λe g h=>?_⟩;rw[show ops[i]?=some ops[i] by simp[h1]] at c;simp only[Qai,Qbc,Qff] at c;have:=c e (by simpa using g);rw[h] at this;exact bζ.1 (by simpa using this)
 .rintro⟨o,h1,t,c⟩;refine ⟨(Array.getElem?_eq_some_iff.1 h1).1,by rw[Xε.2 t];rfl,?_⟩;rw[h1];simp only[Qai,Qbc,Qff];intro e g;cases h:Region.binds .any e with
  |false=>rfl
  |true=>simpa using bζ.2 (c e (by simpa using g) h)
section
variable {q:Prop} {C:Ctx} {B:Ξ} {R:RO} {fin:St} {N n0 bound:Nat} {μ0:AI} {O0:Nat->Prop} {w0:World} {ops:Array Oper} {Q:Exit->Act->World->Prop}
def AcH (hC:DG C B) (ah:Nw 0 ops.toList=true) (hR:∀k,assoc R.rheap k≠none->k<n0) (hN:∀(i:Nat) o,ops.toList[i]?=some o->∀d,o.dst=some d->d<N)
 (hQ:∀D μ O a w,(∀k,D k->k<bound)->At (B.at D) R N μ0 O0 w0 fin μ O a w->Q .normal a w) :
 ∀fuel L done listed s μ O a w,L.length<=fuel ->
  (∀j,(∃r,(j,r)∈L)↔listed[j]?=some false)->listed.size=ops.size->L.Pairwise (λx y=>x.1<y.1)->L.Pairwise (λx y=>(M ops.toList y.1).testBit x.1=true\/YD ops.toList x y) ->
  (∀j k,listed[j]?=some true->(M ops.toList j).testBit k=true->listed[k]?≠some false)->(∀x∈done,∀y∈L,Far x y)->L.Pairwise Far->(∀x∈L,n0<=x.2.key)->s.next=n0 ->
  (∀x∈done,x.2.al=true->x.2.key+16<=bound)->(∀x∈L,x.2.al=true->x.2.key+16<=bound)->oε q C R ops.toList fin s L->At (B.at (Dof done)) R N μ0 O0 w0 s μ O a w->wpAny C.P .any ops Q fuel listed a w:=by
 have ad:∀done s μ O a w,(∀x∈done,x.2.al=true->x.2.key+16<=bound)->oε q C R ops.toList fin s []->At (B.at (Dof done)) R N μ0 O0 w0 s μ O a w->Q .normal a w:=λdone s μ O a w hb hc c=>by
  cases hc with
  |nil hs =>refine hQ (Dof done) μ O a w λk ⟨x,h1,h2,h3⟩=>by grind ⟨c.mem.congr hs.obj (by rw[hs.next]<;>omega),λt v hv=>c.env t v (hs.env t v hv),c.defers,c.size,c.le,c.keeps,λk p hk=>by rw[hs.next];exact c.dom0 k p hk⟩
 intro fuel
 induction fuel with
 |zero =>
  intro L done listed s μ O a w ae hL an E I g a1 ai a6 hs hb aj aa c;have:L=[]:=Qad (by omega);subst this;refine ⟨?_,ad done s μ O a w hb aa c⟩;cases hr:Region.ready .any ops listed with
  |nil=>rfl
  |cons i _ =>obtain⟨o,h1,h2,_⟩:=qε.1 (show i∈Region.ready .any ops listed by grind)<;>grind
 |succ fuel ih =>
  intro L done listed s μ O a w ae hL an E I g a1 ai a6 hs hb aj aa c;refine ⟨λhr=>?_,λi hi=>?_⟩
  .cases L with
   |nil=>exact ad done s μ O a w hb aa c
   |cons x L =>
    obtain⟨j,r⟩:=x;have hj:=(hL j).1 ⟨r,by simp⟩;have af:j<ops.size:=by grind
    have:j∈Region.ready .any ops listed:=by
     refine qε.2 ⟨ops[j],by simp[af],hj,λe he hb=>?_⟩;have b2:=PX ah j ops[j] (by simp[af]) e he hb;have ao:e.on<listed.size:=by omega
     have hv:listed[e.on]?=some listed[e.on]:=by simp[ao]
     cases aq:listed[e.on] with
     |true=>rw[hv,aq]
     |false =>
      rw[aq] at hv;obtain⟨r',J⟩:=(hL e.on).2 hv;exfalso;rcases List.mem_cons.1 J with h|h
      .grind
      .have:=(List.pairwise_cons.1 E).1 _ h<;>omega
    rw[hr] at this;simp at this
  .obtain⟨o,h1,h2,h3⟩:=qε.1 hi;obtain⟨r,ab⟩:=(hL i).2 h2;obtain⟨L1,L2,rfl⟩:=List.append_of_mem ab;have a7:∀k,(M ops.toList i).testBit k=true->listed[k]?≠some false:=λk hk=>by
    obtain⟨e,he,az,a8⟩:=Ag7 (by rwa [Qav]) hk;have ht:=h3 e he az;rcases a8 with a8|a8
    .rw[<-a8,ht];simp
    .exact g e.on k ht a8
   have ar:∀p∈L1,YD ops.toList p (i,r):=λp hp=>by
    have hc:=(List.pairwise_append.1 I).2.2 p hp (i,r) (by simp);rcases hc with hc|hc
    .have:= (hL p.1).1 ⟨p.2,by simp[hp]⟩;exact absurd this (a7 p.1 hc)
    .exact hc
   obtain⟨aB,au⟩:=aa.xζ ar;have ag:= (Array.getElem?_eq_some_iff.1 h2).1;refine AaM hC rfl c aB λk k1 k2 ⟨x,X,aP,b3⟩=>by have:=a1 x X (i,r) ab (.inl aP);simp only at this;omega (by rw[hs];exact a6 (i,r) ab) (λk hk=>by rw[hs];exact hR k hk) (D':=Dof ((i,r)::done)) (λk ⟨x,h1,h2⟩=>⟨x,Qak _ h1,h2⟩) (λb0 k k1 k2=>⟨(i,r),by simp,b0,k1,k2⟩) hN λμ' O' a' w' av=>?_;have Y:∀x∈L1++L2,x∈L1++(i,r)::L2:=λx X=>by
    rcases List.mem_append.1 X with h|h
    .simp[h]
    .simp[h]
   have ak:(L1++L2).Sublist (L1++(i,r)::L2):=List.Sublist.append (List.Sublist.refl _) (List.sublist_cons_self _ _);have aw:=List.pairwise_append.1 E;have ax:=List.pairwise_append.1 ai;refine ih (L1++L2) ((i,r)::done) (listed.setIfInBounds i true) _ μ' O' a' w' (by simp at ae ⊢;omega) (λj=>?_) (by simp[an]) (E.sublist ak) (I.sublist ak) (λj k hj hk=>?_) (λx X y hy=>?_) (ai.sublist ak) (λx X=>a6 x (Y x X)) (by rw[JH];exact hs) (λx X=>?_) (λx X=>aj x (Y x X)) au av
   .by_cases Z:j=i
    .subst Z;constructor
     .rintro⟨r',J⟩;exfalso;rcases List.mem_append.1 J with h|h
      .have:=aw.2.2 _ h (j,r) (by simp);simp only at this;omega
      .have:=(List.pairwise_cons.1 aw.2.1).1 _ h;simp only at this;omega
     .intro h;simp[ag] at h
    .rw[Qbt (Ne.symm Z),<-hL j];constructor
     .rintro⟨r',J⟩;exact ⟨r',Y _ J⟩
     .rintro⟨r',J⟩;refine ⟨r',?_⟩;rcases List.mem_append.1 J with h|h
      .simp[h]
      .rcases List.mem_cons.1 h with h|h
       .cases h;exact absurd rfl Z
       .simp[h]
   .have b1:listed[k]?≠some false:=by
     by_cases Z:j=i
     .subst Z;exact a7 k hk
     .rw[Qbt (Ne.symm Z)] at hj;exact g j k hj hk
    by_cases ay:k=i
    .subst ay;simp[ag]
    .rw[Qbt (Ne.symm ay)];exact b1
   .rcases List.mem_cons.1 X with rfl|X
    .rcases List.mem_append.1 hy with h|h
     .exact (ax.2.2 y h (i,r) (by simp)).symm
     .exact (List.pairwise_cons.1 ax.2.1).1 y h
    .exact a1 x X y (Y y hy)
   .rcases List.mem_cons.1 X with rfl|X
    .exact aj _ ab
    .exact hb x X
end
def UX {y}:∀ {pre} {i},WA y i pre=true->∀k x,pre[k]?=some x->y.mask.testBit (i+k)=true\/Wz x y=false
 |[],i,_,k,x,h=>by simp at h
 |z::r,i,h,k,x,c=>by
  simp only[WA] at h;split at h
  .rename_i d;cases k with
   |zero=>simp_all
   |succ k =>have:=UX h k x (by simpa using c)<;>grind
  .cases h
def T9:∀ {r pre},SY pre r=true->∀j y,r[j]?=some y->∀k x,(pre++r)[k]?=some x->k<pre.length+j->y.mask.testBit k=true\/Wz x y=false
 |[],pre,_,j,y,h,_,_,_,_=>by simp at h
 |z::r,pre,h,j,y,c,k,x,d,t=>by
  simp only[SY] at h;split at h
  .rename_i g;cases j with
   |zero =>simp at c;subst c;have:=UX g k x (by rwa [Qdc (by omega)] at d)<;>simp_all
   |succ j =>exact T9 h j y (by simpa using c) k x (by simpa using d) (by simp;omega)
  .cases h
def cH {ops}:∀ {ms} {os} {c} {j m:Nat} {o} {p},ms[j]?=some m->os[j]?=some o->c[j]?=some p ->
 (xN ops ms os c)[j]?=some {mask:=m,dst:=o.dst,looks:=looks ops o,upd:=p.upd,reads:=p.reads,ld:=p.ld,st:=p.st}
 |[],os,c,j,m,o,p,h,_,_=>by simp at h
 |t::ms,[],c,j,m,o,p,_,h,_=>by simp at h
 |t::ms,o'::os,[],j,m,o,p,_,_,h=>by simp at h
 |t::ms,o'::os,p'::c,0,m,o,p,h1,d,g=>by simp at h1 d g;subst h1;subst d;subst g;rfl
 |t::ms,o'::os,p'::c,j+1,m,o,p,h1,d,g=>by have:=cH (ops:=ops) (by simpa using h1) (by simpa using d) (by simpa using g);simpa[xN] using this
def AfZ {l j o} (h:l[j]?=some o):(Jq [] l)[j]?=some (M l j):=by obtain⟨c,h1,_⟩:=TD (ms:=[]) h;simp only[Qbu,Qbm] at h1;simp[M,Qba,h1]
def Zr (l:List Oper) (j:Nat) (o:Oper) (p:JG):DOp:={mask:=M l j,dst:=o.dst,looks:=looks l o,upd:=p.upd,reads:=p.reads,ld:=p.ld,st:=p.st}
def rT {l log} (h:U9 l log=true):Nw 0 l=true /\
 ∀i j c d pi g,i<j->l[i]?=some c->l[j]?=some d->log[i]?=some pi->log[j]?=some g->(M l j).testBit i=true\/Wz (Zr l i c pi) (Zr l j d g)=false:=by
 unfold U9 at h;split at h
 .rename_i E;refine ⟨E,λi j c d pi g t h1 y I h4=>?_⟩;have:=T9 h j _ (cH (AfZ y) y h4) i _ (by rw[Qaz];exact cH (AfZ h1) h1 I) (by simpa using t);exact this
 .cases h
def oζ {ks k}:has ks k=true↔k∈ks:=any_beq
def uJ {a b:List Nat} (h:a.any (has b)=false):∀k∈a,k∉b:=λk c d=>by have:=List.any_eq_true.2 ⟨k,c,oζ.2 d⟩<;>simp_all
def XB {x y} (h:aI x y=false):(∀k∈x.upd,k∉y.reads)\/Ow x.st y.ld=true:=by
 unfold aI at h;cases c:Ow x.st y.ld with
 |true=>exact .inr rfl
 |false =>rw[c] at h;exact .inl (uJ (by simpa using h))
def rO {l i j I J pi X t y} (h:Wz (Zr l i I pi) (Zr l j J X)=false) (h1:l[i]?=some I) (h2:l[j]?=some J)
 (c:CC t.e.upd=[]/\CC y.e.upd=[]\/(⟨CC t.e.upd,t.e.reads,t.ld,t.st⟩:JG)=pi/\(⟨CC y.e.upd,y.e.reads,y.ld,y.st⟩:JG)=X):YD l (i,t) (j,y):=by
 simp only[Wz,Zr,Qbv] at h;obtain⟨⟨⟨⟨⟨Y,hb⟩,hc⟩,hd⟩,he⟩,hf⟩:=h;have Z:∀ {ks:List Nat} {d:Nat} {x:Option Nat},xZ ks x=false->x=some d->d∉ks:=λ{ks d x} h e hm=>by subst e;simp only[xZ] at h;rw[oζ.2 hm] at h;cases h
 have di:=JQ h1;have dj:=JQ h2;have mem:∀ {P:Nat->Prop},CC t.e.upd=[]/\CC y.e.upd=[]->(∀k∈CC t.e.upd,P k)/\∀k∈CC y.e.upd,P k:=λ⟨e1,e2⟩=>⟨λk hk=>by simp_all,λk hk=>by simp_all⟩;refine ⟨λd g E=>?_,λd g o ho=>?_,λd g o ho=>?_,?_,?_,?_⟩
 .simp only[di,dj] at g E;rw[g,E] at Y;simp[zG,Qeb] at Y
 .grind
 .grind
 .rcases c with c|⟨rfl,rfl⟩
  .exact (mem c).1
  .exact uJ hd
 .rcases c with c|⟨rfl,rfl⟩
  .exact .inl (mem c).1
  .exact XB he
 .rcases c with c|⟨rfl,rfl⟩
  .exact .inl (mem c).2
  .exact XB hf
section
variable {A:Type} {Good:A->Prop} {bad:A} {C:Ctx} {B:Ξ} {R:RO} {N:Nat} {μ0:AI} {O0:Nat->Prop} {w0:World}
def At.aζ {D D' s c μ O a w} (h:At (B.at D) R N μ0 O0 w0 s μ O a w) (g:∀k,k<s.next\/D k->k<c.next\/D' k) (y:∀k o,c.obj R k=some o->s.obj R k=some o) (hg:∀t v,c.get R t=some v->s.get R t=some v) (E:s.next<=c.next) :
 At (B.at D') R N μ0 O0 w0 c μ O a w :=
 ⟨h.mem.aζ (λk p d=>g k (h.mem.dom k p d)) y,λt v I=>h.env t v (hg t v I),h.defers,h.size,h.le,h.keeps,λk p d=>Qac (h.dom0 k p d) E⟩
def At.drew {s μ O a w} (h:At B R N μ0 O0 w0 s μ O a w):At B R N μ0 O0 w0 s μ O a w.drew:=by obtain⟨h1,c⟩:=Ta h.mem;exact ⟨h1,λt v d=>D3 c (μle.refl _) v (h.env t v d),h.defers,h.size,h.le,h.keeps.trans c,h.dom0⟩
def Zu (hC:DG C B) (hB:∀k,¬B.D k) (hm:C.P.follows .mixedOrders=true) {q:Prop} {id:Nat} {ops:Array Oper} {Q:Exit->Act->World->Prop} (hN:∀(i:Nat) (o:Oper),ops.toList[i]?=some o->∀d,o.dst=some d->d<N)
 {st fin:St} {μ:AI} {O:Nat->Prop} {a:Act} {w:World} (af:At B R N μ0 O0 w0 st μ O a w) (ag:τ R st) {L:Tr} (X:L.map (·.1)=List.range' 0 ops.toList.length) (ah:oε q C R ops.toList {fin with next:=st.next} st L)
 {log:List JG} (ai:U9 ops.toList log=true) (J:∀x∈L,∃p,log[x.1]?=some p/\(CC x.2.e.upd=[]\/(⟨CC x.2.e.upd,x.2.e.reads,x.2.ld,x.2.st⟩:JG)=p)) (g:(∀x∈L,x.2.al=false/\CC x.2.e.upd=[]/\x.2.key=st.next)\/∀x∈L,(⟨CC x.2.e.upd,x.2.e.reads,x.2.ld,x.2.st⟩:JG)=log.getD x.1 ⟨[],[],none,none⟩/\x.2.key=st.next+16*x.1)
 (a1:st.next<=fin.next) (aj:∀x∈L,x.2.al=true->x.2.key+16<=fin.next)
 (hQ:∀μ' O' a' w',At B R N μ0 O0 w0 fin μ' O' a' w'->Q .normal a' w'):(Code.region id ops true).wp C.P Q a w:=by
 obtain⟨Y,ak⟩:=rT ai;have Z:∀j,(∃r,(j,r)∈L)↔j<ops.size:=λj=>by
  have:j∈L.map (·.1)↔j<ops.size:=by rw[X];simp
  rw[<-this,Qfl];exact ⟨λ⟨r,h⟩=>⟨_,h,rfl⟩,λ⟨x,h,e⟩=>⟨x.2,by rw[<-e];exact h⟩⟩
 have E:L.Pairwise λx y=>x.1<y.1:=by
  have:(L.map (·.1)).Pairwise (· < ·):=by rw[X];exact List.pairwise_lt_range'
  exact List.pairwise_map.1 this
 refine wp_region_any hm (AcH (B:=B) (μ0:=μ0) (O0:=O0) (w0:=w0) (fin:={fin with next:=st.next}) (n0:=st.next) (bound:=fin.next) hC Y ag.next hN (λD μ' O' a' w' hD a6=>hQ μ' O' a' w' ?_) ops.size L [] (Array.replicate ops.size false) st μ O a w.drew ?_ (λj=>?_) (by simp) E ?_ (λj k hj=>?_) (λx I=>by simp at I) ?_ (λx I=>?_) rfl (λx I=>by simp at I) aj ah ?_)
 .exact a6.aζ (B:=B) (D':=B.D) (λk c=>.inl (c.elim (λh=>Qac h a1) (hD k))) (λk o h=>h) (λt v h=>h) a1
 .have:L.length=ops.size:=by rw[<-Qdx (f:=(·.1)),X];simp
  omega
 .rw[Z j];simp[Qcl]
 .refine E.imp_of_mem λ{x y} I hy a7=>?_;have a8:x.1<ops.size:=(Z x.1).1 ⟨x.2,I⟩;have aa:y.1<ops.size:=(Z y.1).1 ⟨y.2,hy⟩;obtain⟨px,ab,an⟩:=J x I;obtain⟨py,ad,ao⟩:=J y hy;refine (ak x.1 y.1 ops[x.1] ops[y.1] px py a7 (by simp[a8]) (by simp[aa]) ab ad).imp (λh=>h) λhc=>rO hc (by simp[a8]) (by simp[aa]) ?_;rcases g with c|c
  .exact .inl ⟨(c x I).2.1,(c y hy).2.1⟩
  .refine .inr ⟨?_,?_⟩
   .rw[(c x I).1,Qba,ab];rfl
   .rw[(c y hy).1,Qba,ad];rfl
 .simp[Qcl] at hj
 .refine E.imp_of_mem λ{x y} I hy a7 ae=>?_;rcases g with c|c
  .rw[(c x I).1,(c y hy).1] at ae;simp at ae
  .rw[(c x I).2,(c y hy).2];omega
 .rcases g with c|c
  .rw[(c x I).2.2];exact χ _
  .rw[(c x I).2];omega
 .exact af.drew.aζ (B:=B) (D:=B.D) (λk c=>c.imp (λh=>h) λh=>absurd h (hB k)) (λk o h=>h) (λt v h=>h) (χ _)
end
section
variable {A:Type} {Good:A->Prop} {bad:A} {C:Ctx} {B:Ξ} {R:RO} {inl:Gc}
def Xr {n e}:VL n e=e\/Plain n e (VL n e):=by
 unfold VL;split
 .split
  .rename_i h1 c;cases beq_true h1;cases beq_true c;exact .inr ⟨_,_,_,_,rfl,rfl⟩
  simp_all
 simp_all
def Aau {st rest o out e} (h:bT C R st rest o=some out) (g:out.run=some e):∃t E,aop C R st o=some t/\t.run=some E/\(e=E\/Plain st.next E e):=by
 unfold bT at h;split at h
 .rename_i k k' T l rd n d;split at h
  .simp_all
  split at h
  .rename_i ty m ps y;cases h;cases BF g;refine ⟨_,_,d,rfl,.inr ?_⟩;unfold aop at d;rw[y] at d;simp only at d;split at d
   .unfold ER at d;repeat' split at d
    all_goals first|cases d|skip
    exact ⟨_,_,_,_,rfl,rfl⟩
   .unfold FH at d;repeat' split at d
    all_goals cases d
  simp_all
 .rename_i b k k' T l rd n d;split at h
  .simp_all
  .split at h
   .rename_i y;cases h;obtain⟨I,rfl⟩:=Bu g;refine ⟨_,{dst:=some (aε.v (V1.c (Cell.ref k))),upd:=[(k',some (Ψ.arr T l))],Γ:=[],reads:=rd,next:=n},d,by simp[υ.run,I],.inr ?_⟩;unfold aop at d;rw[y] at d;simp only at d;split at d
    .unfold FC at d;repeat' split at d
     all_goals first|cases d|skip
     exact ⟨_,_,_,_,rfl,rfl⟩
    .cases d
   .cases h;exact ⟨_,e,d,g,.inl rfl⟩
 .rename_i T p f d;split at h
  .cases h;obtain⟨x,J,rfl⟩:=Ck g;exact ⟨_,f x,d,by simp[υ.run,J],Xr⟩
  .cases h;exact ⟨_,e,d,g,.inl rfl⟩
 .rename_i T p f d;split at h
  .cases h;simp only[υ.run,Qaf] at g;subst g;exact ⟨_,f p,d,rfl,Xr⟩
  .cases h;exact ⟨_,e,d,g,.inl rfl⟩
 .exact ⟨_,e,h,g,.inl rfl⟩
def sV {st c e} (h:e=c\/Plain st.next c e) (h0:Shape st c):Shape st e:=by
 rcases h with h|⟨T,l,rd,n,h1,d⟩
 .simp_all
 .subst d;exact .still rfl rfl
def τ.wζ {st n} (h:τ R st) (c:st.next<=n):τ R {st with next:=n}:=⟨h.env,h.heap,λk d=>Qac (h.next k d) c⟩
def Aar {l i n0 o e r} {st:St} (c:l[i]?=some o) (d:e.Γ=[]) (g:r.e.dst=e.dst) (h:r.e.upd=e.upd):adv R l {st with next:=n0} i r={st.after R o.dst e with next:=n0}:=by unfold adv St.after;rw[JQ c,d,g,h];cases o.dst<;>rfl
def zI {st e} (h:Shape st e):e.next<=st.next+16:=by cases h<;>omega
def Oe {L i n} {r:Rec} (h:L.map (·.1)=List.range' (i+1) n):(((i,r)::L).map (·.1))=List.range' i (n+1):=by rw[Qcu,h,Qge]
def Afo {g n0 b} {st:St} (h:st.get R g=some (.v (.c (.bool b)))):Sub True R {st.put (some g) (some (.v (.c (.bool b)))) with next:=n0} {st with next:=n0}:=by
 refine ⟨λt v y=>?_,λk o d=>?_,λ_ k o d=>?_,rfl⟩
 .have e:({st.put (some g) (some (.v (.c (.bool b)))) with next:=n0}:St).get R t=(st.put (some g) (some (.v (.c (.bool b))))).get R t:=rfl;rw[e,Fx] at y;show st.get R t=some v<;>grind
 .exact d
 .exact d
def τ.lζ {st d} (h:τ R st) (g:free R d=true) v:τ R (st.put d v):=by have c:Shape st {dst:=v,next:=st.next}:=.still rfl rfl;exact ⟨(h.after g c).env,by rw[Yo];exact h.heap,by rw[CG];exact h.next⟩
def Qc {l n0} (hbad:¬Good bad):∀ {rest} {i} {st} {log} {K},(∀k o,rest[k]?=some o->l[i+k]?=some o)->τ R st->Good (JS C R l rest st log K bad) ->
 ∃(L:Tr) (fin:St),L.map (·.1)=List.range' i rest.length/\oε True C R l {fin with next:=n0} {st with next:=n0} L/\Good (K (log++L.map λx=>(⟨CC x.2.e.upd,x.2.e.reads,x.2.ld,x.2.st⟩:JG)) fin)/\τ R fin/\fin.next=st.next+16*rest.length/\∀x∈L,x.2.key+16*i=st.next+16*x.1/\x.1<i+rest.length
 |[],i,st,log,K,_,J,h=>⟨[],st,rfl,.nil (Sub.refl _ _ _),by simpa[JS] using h,J,rfl,λx hx=>by simp at hx⟩
 |o::r,i,st,log,K,X,J,h=>by
  have ho:l[i]?=some o:=X 0 o rfl;have E:∀k o',r[k]?=some o'->l[i+1+k]?=some o':=λk o' hk=>by have:=X (k+1) o' (by simpa using hk)<;>grind
  have exec:∀s1:St,s1.next=st.next->τ R s1->Told R l {s1 with next:=n0} o true->Good (Qd R o.dst (bT C R s1 r o) (λe=>match e.Γ with
   |[]=>JS C R l r {s1.after R o.dst e with next:=st.next+16} (log++[yK C.P R s1 o e]) K bad
   |_=>bad) bad)->∃(L:Tr) (fin:St),L.map (·.1)=List.range' i (o::r).length/\oε True C R l {fin with next:=n0} {s1 with next:=n0} L/\Good (K (log++L.map λx=>(⟨CC x.2.e.upd,x.2.e.reads,x.2.ld,x.2.st⟩:JG)) fin)/\τ R fin/\fin.next=st.next+16*(o::r).length/\∀x∈L,x.2.key+16*i=st.next+16*x.1/\x.1<i+(o::r).length:=by
   intro s1 a6 I t Z
   obtain⟨d,out,e,ha,hr,a1⟩:=Xc hbad Z
   split at a1
   case h_2=>exact absurd a1 hbad
   rename_i a7
   obtain⟨a8,e0,aa,ab,hp⟩:=Aau ha hr
   have ad:=sV hp (Iu aa ab).1
   have ae:τ R {s1.after R o.dst e with next:=st.next+16}:=by have h1:=(I.after d ad).wζ (n:=st.next+16) (by unfold St.after;rw[CG];have:=zI ad<;>simp_all)<;>omega
   obtain⟨L,fin,h1,h2,h3,h4,h5,h6⟩:=Qc hbad E ae a1
   refine ⟨(i,⟨true,e,st.next,true,ldR C.P R s1 o,stR C.P R s1 o⟩)::L,fin,Oe h1,.cons ⟨o,ho,d,a7,λhn=>absurd trivial hn,⟨λ_ h=>h,λ_ h=>h⟩,.inl ⟨rfl,t,a8,e0,by rw[<-a6];exact aa,ab,λ_=>rfl,by simp_all⟩⟩ ?_,?_,h4,?_,λx hx=>?_⟩
   .rw[Aar ho a7 rfl rfl]<;>omega
   .rw[Qcu,<-Qec,<-Qaq];exact h3
   .grind
   grind
  have skip:∀s1:St,s1.next=st.next->τ R s1->free R o.dst=true->Told R l {s1 with next:=n0} o false->Good (JS C R l r {s1.put o.dst (some .undef) with next:=st.next+16} (log++[⟨[],[],none,none⟩]) K bad)->∃(L:Tr) (fin:St),L.map (·.1)=List.range' i (o::r).length/\oε True C R l {fin with next:=n0} {s1 with next:=n0} L/\Good (K (log++L.map λx=>(⟨CC x.2.e.upd,x.2.e.reads,x.2.ld,x.2.st⟩:JG)) fin)/\τ R fin/\fin.next=st.next+16*(o::r).length/\∀x∈L,x.2.key+16*i=st.next+16*x.1/\x.1<i+(o::r).length:=by
   intro s1 a6 I d t Z;obtain⟨L,fin,h1,h2,h3,h4,h5,h6⟩:=Qc hbad E ((I.lζ d _).wζ (n:=st.next+16) (by rw[CG];omega)) Z;refine ⟨(i,⟨false,{dst:=some .undef,next:=n0},st.next,true,none,none⟩)::L,fin,Oe h1,.cons ⟨o,ho,d,rfl,λhn=>absurd trivial hn,⟨λ_ h=>(by cases h),λ_ h=>by cases h⟩,.inr ⟨rfl,t,rfl,rfl⟩⟩ ?_,?_,h4,?_,λx hx=>?_⟩
   .have:adv R l {s1 with next:=n0} i ⟨false,{dst:=some .undef,next:=n0},st.next,true,none,none⟩={s1.put o.dst (some .undef) with next:=n0}:=by unfold adv;rw[JQ ho];cases o.dst<;>rfl
    rw[this];exact h2
   .rw[Qcu,<-Qec,<-Qaq];exact h3
   .rw[h5,Qay]<;>grind
   .rcases List.mem_cons.1 hx with rfl|hx
    .simp
    .have:=h6 x hx;simp only[Qay] at this ⊢<;>omega
  simp only[JS] at h;split at h
  .rename_i j want hg;split at h
   .exact absurd h hbad
   rename_i g hd;split at h;case h_2=>exact absurd h hbad
   rename_i c ah af ag;have Y:∀b,(st.put (some g) (some (.v (.c (.bool b))))).get R g=some (.v (.c (.bool b))):=λb=>by rw[Fx,if_pos rfl]
   have tr:∀b,want=b->Told R l {st.put (some g) (some (.v (.c (.bool b)))) with next:=n0} o true:=λb hb=>.inr ⟨j,want,g,hg,hd,by rw[hb];exact Y b⟩;have fl:∀b,want=!b->Told R l {st.put (some g) (some (.v (.c (.bool b)))) with next:=n0} o false:=λb hb=>⟨j,want,g,hg,hd,.inl (by rw[hb,Bool.not_not];exact Y b)⟩;have fin:∀b,c=b->(∃(L:Tr) (fin:St),L.map (·.1)=List.range' i (o::r).length/\oε True C R l {fin with next:=n0} {st.put (some g) (some (.v (.c (.bool b)))) with next:=n0} L/\Good (K (log++L.map λx=>(⟨CC x.2.e.upd,x.2.e.reads,x.2.ld,x.2.st⟩:JG)) fin)/\τ R fin/\fin.next=st.next+16*(o::r).length/\∀x∈L,x.2.key+16*i=st.next+16*x.1/\x.1<i+(o::r).length)->∃(L:Tr) (fin:St),L.map (·.1)=List.range' i (o::r).length/\oε True C R l {fin with next:=n0} {st with next:=n0} L/\Good (K (log++L.map λx=>(⟨CC x.2.e.upd,x.2.e.reads,x.2.ld,x.2.st⟩:JG)) fin)/\τ R fin/\fin.next=st.next+16*(o::r).length/\∀x∈L,x.2.key+16*i=st.next+16*x.1/\x.1<i+(o::r).length:=λb hb ⟨L,fin,h1,h2,h3⟩=>⟨L,fin,h1,h2.sub (Afo (by rw[ag,hb])),h3⟩;have y:∀b,τ R (st.put (some g) (some (.v (.c (.bool b))))):=λb=>J.lζ ah _;cases want with
   |true =>
    cases c with
    |true=>exact fin true rfl (exec _ (by rw[CG]) (y true) (tr true rfl) h)
    |false=>exact fin false rfl (skip _ (by rw[CG]) (y false) af (fl false rfl) h)
   |false =>
    cases c with
    |true=>exact fin true rfl (skip _ (by rw[CG]) (y true) af (fl true rfl) h)
    |false=>exact fin false rfl (exec _ (by rw[CG]) (y false) (tr false rfl) h)
  .rename_i hg;exact exec st rfl J (.inl hg) h
def TA (C:Ctx) (R:RO) (l:List Oper) (K:St->A) (Good:A->Prop) (n0 i:Nat) (st:St):Prop :=
 n0<=st.next->∃(L:Tr) (fin:St),L.map (·.1)=List.range' i (l.length-i)/\oε False C R l {fin with next:=n0} {st with next:=n0} L/\Good (K fin)/\τ R fin/\n0<=fin.next/\∀x∈L,x.2.al=false/\CC x.2.e.upd=[]/\x.2.key=n0
def M8:∀ {l},QD C l=true->∀(i:Nat) o,l[i]?=some o->BT C o=true
 |[],_,i,o,h=>by simp at h
 |o'::r,c,i,o,h=>by
  simp only[QD] at c;split at c
  .rename_i h1;cases i with
   |zero=>simp_all
   |succ i=>exact M8 c i o (by simpa using h)
  .cases c
def zD {l K n0} (J:QD C l=true):XK C R l inl Good bad (TA C R l K Good n0) where
 weak i st st' E h hn:=by obtain⟨L,fin,h1,X,Y⟩:=h (Qbh hn E.next);exact ⟨L,fin,h1,X.sub ⟨λt v hv=>E.env t v hv,λk o hk=>E.obj k o hk,λhq=>hq.elim,rfl⟩,Y⟩
 op i st o out e y ht ha hr ae hf h hn:=by
  have d:=M8 J i o y;have a7:= (List.getElem?_eq_some_iff.1 y).1;obtain⟨hu,a8⟩:=(Iu ha hr).2 d;have E:=(Iu ha hr).1.le;obtain⟨Z,e',x1,x2,x3⟩:=k9 (st':={st with next:=n0}) (q:=False) ha hr ⟨λx _ v hv=>by cases x<;>exact hv,λ_ _ _ h=>h,λhq=>hq.elim⟩ (λhs=>by simp_all);have he:=x3.2 hu;obtain⟨L,fin,h1,X,Y,h4,h5,h6⟩:=h (by unfold St.after;rw[CG]<;>grind);refine ⟨(i,⟨true,e',n0,false,none,none⟩)::L,fin,?_,.cons ⟨o,y,hf,by simp_all,λ_=>d,⟨λ_ h=>(by cases h),λ_ h=>by cases h⟩,.inl ⟨rfl,?_,Z,e',x1,x2,λaa=>absurd (by simp_all) aa,.inl rfl⟩⟩ ?_,Y,h4,h5,λx hx=>?_⟩
  .rw[Oe h1]<;>grind
  .exact Mb ht λ_ _ _ h=>h
  .rw[Aar y a8 (by rw[he]) (by rw[he])];exact X
  .rcases List.mem_cons.1 hx with rfl|hx
   .exact ⟨rfl,by simp[CC,he,hu],rfl⟩
   grind
 skip i st o y ht hf h hn:=by
  have a7:= (List.getElem?_eq_some_iff.1 y).1;obtain⟨L,fin,h1,X,Y,h4,h5,h6⟩:=h (by rw[CG];exact hn);refine ⟨(i,⟨false,{dst:=some .undef,next:=n0},n0,false,none,none⟩)::L,fin,?_,.cons ⟨o,y,hf,rfl,λ_=>M8 J i o y,⟨λ_ h=>(by cases h),λ_ h=>by cases h⟩,.inr ⟨rfl,Mb ht λ_ _ _ h=>h,rfl,rfl⟩⟩ ?_,Y,h4,h5,λx hx=>?_⟩
  .rw[Oe h1]<;>grind
  .have:adv R l {st with next:=n0} i ⟨false,{dst:=some .undef,next:=n0},n0,false,none,none⟩={st.put o.dst (some .undef) with next:=n0}:=by unfold adv;rw[JQ y];cases o.dst<;>rfl
   rw[this];exact X
  .rcases List.mem_cons.1 hx with rfl|hx
   .exact ⟨rfl,rfl,rfl⟩
   grind
 inl i st o I vs K' y ht hi hf af hg hK:=by
  exfalso;have d:=M8 J i o y;unfold Dε at hi;split at hi
  .rename_i c ab;split at hi
   .rename_i f a1;split at hi
    .split at hi
     .rename_i g us a6;split at hi;case h_2=>cases hi
      rename_i I' hI;simp only[BT,ab,a1] at d;cases f with
      |func f' =>
       simp only[opv,Vd,Qaf,Qcv] at a6;obtain⟨rfl,_⟩:=a6;simp only[hI] at d;split at d
       .rename_i ad;cases ad
       .cases d
      |tmp t=>cases d
      |const v=>cases d
      |global g=>cases d
     .cases hi
    .cases hi
   .cases hi
  .cases hi
def JP (hC:DG C B) (hB:∀k,¬B.D k) (hm:C.P.follows .mixedOrders=true):Pv C B inl:=by
 intro A Good bad hbad R N id ops Q hN st μ O a w μ0 O0 w0 I g K hK h;unfold cI at h;split at h
 .rename_i Y;split at h;case h_2=>exact absurd h hbad
  rename_i y;have:=OD hbad (zD Y) (cur:=none) λk o X=>by rwa [Qbm] trivial g (λst' ha _ hg hn=>by refine ⟨[],st',by simp,.nil (Sub.refl _ _ _),hg,ha,hn,λx c=>by simp at c⟩) h (χ _);obtain⟨L,fin,h1,Z,E,h4,h5,h6⟩:=this;refine Zu hC hB hm hN I g (by simpa using h1) Z y (λx c=>?_) (.inl h6) h5 λx c a1=>by grind λμ' O' a' w' d=>hK fin μ' O' a' w' h4 d E;have J:x.1<ops.toList.length:=by have:x.1∈L.map (·.1):=List.mem_map.2 ⟨x,c,rfl⟩<;>simp_all
  exact ⟨⟨[],[],none,none⟩,by simp at J ⊢;simp[J],.inl (h6 x c).2.1⟩
 .have:=Qc (n0:=st.next) hbad λk o X=>by rwa [Qbm] g h;obtain⟨L,fin,h1,Z,E,h4,h5,h6⟩:=this;rw[Qaz] at E;split at E;case h_2=>exact absurd E hbad
  rename_i y;have t:∀x∈L,(L.map λx=>(⟨CC x.2.e.upd,x.2.e.reads,x.2.ld,x.2.st⟩:JG))[x.1]?=some ⟨CC x.2.e.upd,x.2.e.reads,x.2.ld,x.2.st⟩:=λx c=>by
   obtain⟨k,X⟩:=List.mem_iff_getElem?.1 c;have:(L.map (·.1))[k]?=some x.1:=by simp[X]
   rw[h1] at this;obtain⟨a6,he⟩:=List.getElem?_eq_some_iff.1 this;simp only[List.getElem_range',Qfc,Qbm] at he;rw[<-he];simp[X]
  refine Zu hC hB hm hN I g h1 Z y (λx c=>⟨_,t x c,.inr rfl⟩) (.inr λx c=>⟨?_,?_⟩) (by omega) (λx c a1=>?_) λμ' O' a' w' d=>hK fin μ' O' a' w' h4 d E
  .rw[Qba,t x c];rfl
  .have:=h6 x c;omega
  .have:=h6 x c;omega
end
def rv (tmps:Array Value):ResultVar->Sem Value
 |.tmp t=>pure (tmps.getD t undef)
 |.cell a t=>do loadVar t (<-asAddr (tmps.getD a undef))
def nY {P w tmps}:∀ {l} {vs},π (λr v=>(rv tmps r).run P w=.ok v w) l vs->(l.mapM (rv tmps)).run P w=.ok vs w
 |[],_,.nil=>by simp
 |r::l,_,.cons h1 c=>by rw[List.mapM_cons];simp[Sem.run_bind,Result.andThen,h1,nY c]
def Gy {P w fn tmps l vs} (c:fn.results.toList=l) (h:π (λr v=>(rv tmps r).run P w=.ok v w) l vs) :
 (results fn tmps).run P w=.ok (Cp vs) w:=by
 have d:fn.results=l.toArray:=by rw[<-c]
 have g:results fn tmps=(do let vs <-l.toArray.mapM (rv tmps);pure (if h:vs.size=1 then vs[0] else .tuple vs)):=by unfold results;rw[d];rfl
 rw[g,List.mapM_toArray];simp[Result.andThen,nY h];cases vs with
 |nil=>simp[Cp]
 |cons v r=>cases r with
  |nil=>simp[Cp]
  |cons u r=>simp[Cp]
def y9 {P B R st μ O w tmps r v1} (hM:ρ B R st μ O w) (I:CN R st μ O w tmps) (h:Z6 P R st r=some v1) :
 ∃v,(rv tmps r).run P w=.ok v w/\Cl w O μ v1 v:=by
 cases r with
 |tmp t =>
  simp only[Z6] at h;split at h
  .rename_i v y;cases h;exact ⟨tmps.getD t undef,by simp[rv],I t _ y⟩
  .cases h
 |cell a t =>
  simp only[Z6] at h;split at h
  .rename_i e c;split at h
   .rename_i v y;cases h;have key:∀b off u,tmps.getD a undef=.pointer (some ⟨b,off,none⟩)->(Instr.loadAt t (.pointer (some ⟨b,off,none⟩))).run P w=.ok u w->(rv tmps (.cell a t)).run P w=.ok u w:=λb off u h1 h2=>by simp only[rv,h1];simpa[Instr.loadAt,Instr.sureAddr,asAddr] using h2
    unfold Gf at c;split at c
    .rename_i k off J;have g:= I a _ J;split at c
     .rename_i cs hk;split at c
      .rename_i X Y;cases c;cases y;obtain⟨b,hb,ev⟩:=g;obtain⟨b',vs,el,E,hc,Z⟩:=hM.heap k _ hk;rw[hb] at E;cases E;obtain⟨u,hu,g⟩:=Na (b:=b) (off:=off) Y (Z.drop off) (by have:=KO (JK hc) off<;>simp_all)<;>simp_all
      .cases c
     .cases c
    .grind
    .rename_i cs J;have g:= I a _ J;split at c
     .rename_i X Y;cases c;cases y;obtain⟨b,off,us,ev,hO,hb,d,Z⟩:=g;obtain⟨u,hu,g⟩:=Na Y Z d;exact ⟨u,key b off u ev hu,g⟩
     .cases c
    .repeat' split at c
     all_goals first|(cases c;done)|(cases c;cases y)
    .split at c
     .split at c
      .cases c
      .cases c
     .cases c
    .cases c
   .cases h
  .cases h
def Eu {P B R st μ O w tmps} (c:ρ B R st μ O w) (d:CN R st μ O w tmps):∀ {l} {vs},E0 P R st l=some vs ->
 ∃us,π (λr v=>(rv tmps r).run P w=.ok v w) l us/\π (Cl w O μ) vs us
 |[],vs,h=>by simp[E0] at h;subst h;exact ⟨[],.nil,.nil⟩
 |r::l,vs,h=>by
  simp only[E0] at h;split at h
  .rename_i v g h1 t;cases h;obtain⟨u,y,h4⟩:=y9 c d h1;obtain⟨us,E,h6⟩:=Eu c d t;exact ⟨u::us,.cons y E,.cons h4 h6⟩
  .cases h
def gε (P:Program) (f:FuncId) (I:Inl):Prop :=
 ∃fn,P.funcs[f]?=some fn/\fn.body=some I.code/\fn.ntmps=I.ntmps/\fn.results.toList=I.results/\(fn.name== "runtime.NumGoroutine")=false/\CU I.ntmps I.code=true
def gε.enters {P f I} (h:gε P f I) args w:(callFunc f args).run P w=.ok (.enter f args) w:=by
 obtain⟨fn,h1,h2,_,_,h3,_⟩:=h;have h3':¬fn.name= "runtime.NumGoroutine":=by simp_all
 simp[callFunc,h1,h2,h3']
def UH:∀ {vs} {n s},assoc (CP n vs) s=if s<n then none else vs[s-n]?.map some
 |[],n,s=>by simp[CP,assoc]
 |v::r,n,s=>by simp only[CP,AE];rw[UH]<;>grind
def kW {α β:Type} {P:α->β->Prop}:∀ {l:List α} {m},π P l m->∀ {i:Nat} {a},l[i]?=some a->∃b,m[i]?=some b/\P a b
 |_,_,.nil,i,a,h=>by simp at h
 |_,_,.cons h1 c,0,a,h=>by simp_all
 |_,_,.cons h1 c,i+1,a,h=>by obtain⟨b,d,g⟩:=kW c (by simpa using h)<;>simp_all
def OB {h nx μ O w vs us} {R:RO} (g:π (BW w O μ) vs us) k:CN {renv:=[],rheap:=R.rheap} {env:=CP 0 vs,heap:=h,next:=nx} μ O w (us.toArray++Array.replicate k undef):=λs x c=>by
 simp only[St.get,UH,Qgk,if_false,Qeu] at c;cases hg:vs[s]? with
 |none=>rw[hg] at c;simp[assoc] at c
 |some v =>
  rw[hg] at c;simp only[Qai] at c;cases c;obtain⟨u,d,t⟩:=kW g hg;have:(us.toArray++Array.replicate k undef).getD s undef=u:=by simp[Qed,(List.getElem?_eq_some_iff.1 d).1,(List.getElem?_eq_some_iff.1 d).2]
  rw[this];exact t
section
variable {C:Ctx} {B:Ξ} {inl:Gc} {A:Type} {Good:A->Prop} {bad:A}
def W9 {f I R vs h nx μ O w us Rr} (d:B.dfr=[]) (hB:∀k,¬B.D k) (hf:gε C.P f I)
 (hv:π (BW w O μ) vs us) (g:∀k,assoc R.rheap k≠none->assoc h k=none/\k<nx) (hM:ρ B R {env:=[],heap:=h,next:=nx} μ O w)
   {K:hε->St->A} (J:∀e st,e≠.normal->e≠.ret->¬Good (K e st))
   (hK:∀e st μ' O' tmps w',τ {renv:=[],rheap:=R.rheap} st->ρ B {renv:=[],rheap:=R.rheap} st μ' O' w'->CN {renv:=[],rheap:=R.rheap} st μ' O' w' tmps->μle μ μ'->ν w O w' O'->(∀k p,μ k=some p->k<st.next) ->
     Good (K e st)->∃us,π (λr v=>(rv tmps r).run C.P w'=.ok v w') I.results us/\Rr (.returned (Cp us)) w')
   (t:∀ {Q} {a},CU I.ntmps I.code=true->At B {renv:=[],rheap:=R.rheap} I.ntmps μ O w {env:=CP 0 vs,heap:=h,next:=nx} μ O a w->τ {renv:=[],rheap:=R.rheap} {env:=CP 0 vs,heap:=h,next:=nx} ->
     (∀e st' μ' O' y w',(∀l,e≠.goto l)->τ {renv:=[],rheap:=R.rheap} st'->At B {renv:=[],rheap:=R.rheap} I.ntmps μ O w st' μ' O' y w'->Good (K e st')->Q e.Gε y w')->I.code.wp C.P Q a w):Calls C.P f us.toArray w Rr:=by
  obtain⟨fn,h1,h2,h3,h4,h5,h6⟩:=hf;refine calls_of_wp h1 h2 ?_;have X:At B {renv:=[],rheap:=R.rheap} I.ntmps μ O w {env:=CP 0 vs,heap:=h,next:=nx} μ O {tmps:=us.toArray++Array.replicate (fn.ntmps-us.toArray.size) undef,defers:=[]} w :=
   ⟨hM.move (λk o ho=>ho) (χ _),OB hv _,d.symm,by grind,μle.refl _,ν.refl _ _,λk p E=>(hM.dom k p E).elim (λh=>h) λh=>absurd h (hB k)⟩;refine t h6 X ⟨λs hs=>absurd rfl hs,λk E=>(g k E).1,λk E=>(g k E).2⟩ λe st' μ' O' y w' Y g1 c Z=>?_;cases e with
  |exit i=>exact absurd Z (J _ st' nofun nofun)
  |goto i=>exact absurd rfl (Y i)
  |normal =>obtain⟨a1,g4,g5⟩:=hK .normal st' μ' O' y.tmps w' g1 c.mem c.env c.le c.keeps c.dom0 Z;exact ⟨c.defers.trans d,_,Gy h4 g4,g5⟩
  |ret =>obtain⟨a1,g4,g5⟩:=hK .ret st' μ' O' y.tmps w' g1 c.mem c.env c.le c.keeps c.dom0 Z;exact ⟨c.defers.trans d,_,Gy h4 g4,g5⟩
def IH {f I R vs h nx μ O w us K X} (t:B.dfr=[]) (Y:DG C B) (y:∀k,¬B.D k) (hm:C.P.follows .mixedOrders=true) (c:HD C B inl) (hbad:¬Good bad) (hf:gε C.P f I)
 (hv:π (BW w O μ) vs us) (E:∀k,assoc R.rheap k≠none->assoc h k=none/\k<nx) (hM:ρ B R {env:=[],heap:=h,next:=nx} μ O w)
 (d:∀e st,e≠.normal->e≠.ret->¬Good (K e st))
   (hK:∀e st μ' O' tmps w',τ {renv:=[],rheap:=R.rheap} st->ρ B {renv:=[],rheap:=R.rheap} st μ' O' w'->CN {renv:=[],rheap:=R.rheap} st μ' O' w' tmps->μle μ μ'->ν w O w' O'->(∀k p,μ k=some p->k<st.next) ->
     Good (K e st)->∃us,π (λr v=>(rv tmps r).run C.P w'=.ok v w') I.results us/\X (.returned (Cp us)) w')
   (hg:Good (Bi C inl I.hints I.code {renv:=[],rheap:=R.rheap} {env:=CP 0 vs,heap:=h,next:=nx} K bad)):Calls C.P f us.toArray w X:=by
  exact W9 t y hf hv E hM d hK λh6 J g hq=>Cc Y y c (JP Y y hm) I.hints I.code h6 hbad J g (λe st' μ' O' a' w' g1 g2 Z=>by
   cases e with
   |goto i=>exact absurd Z (d _ st' nofun nofun)
   |_=>exact hq _ st' μ' O' a' w' nofun g1 g2 Z) hg
def tJ {R st l}:∀ {rs},aK R st rs=some l->∃t,rs=[.tmp t]/\st.get R t=some (.str l)
 |[],h=>by cases h
 |[.tmp t],h=>by simp only[aK] at h<;>grind
 |[.cell _ _],h=>by cases h
 |.tmp _::_::_,h=>by cases h
 |.cell _ _::_::_,h=>by cases h
def ZI (E:B.dfr=[]) (hC:DG C B) (hB:∀k,¬B.D k) (hm:C.P.follows .mixedOrders=true) (Y:∀f I,C.inl f=some I->gε C.P f I):∀d,HD C B (EN C d)
 |0=>⟨λf I J=>(Y f I J).enters,λ{_} Good bad hbad f I R vs h nx K μ O w us _ _ _ _ _ hg=>absurd hg hbad⟩
 |d+1=>⟨λf I J=>(Y f I J).enters,λ{_} Good bad hbad f I R vs h nx K μ O w us J a8 hv Z hM hg=>by
  refine IH E hC hB hm (ZI E hC hB hm Y d) hbad (Y f I J) hv Z hM (λe st h1 h2 hh=>by cases e<;>first|exact h1 rfl|exact h2 rfl|exact hbad hh) (λe st μ' O' tmps w' g1 g2 g3 g4 g5 g6 g7=>?_) hg;have c:ρ B R {env:=[],heap:=st.heap,next:=st.next} μ' O' w':=g2.move (λk o ho=>ho) (χ _);have g:∀k,assoc R.rheap k≠none->assoc st.heap k=none/\k<st.next:=λk hk=>⟨g1.heap k hk,g1.next k hk⟩;have go:Good (match I.results with
   |[]=>K none st.heap st.next
   |rs=>match aK {renv:=[],rheap:=R.rheap} st rs with
    |some l=>K (some (.str l)) st.heap st.next
    |none=>match E0 C.P {renv:=[],rheap:=R.rheap} st rs with
     |some vs=>K (some (OK vs)) st.heap st.next
     |none=>bad):=by
   grind
  split at go
  .rename_i hr;rw[hr];exact ⟨[],.nil,_,rfl,none,st.heap,st.next,μ',O',g4,g5,c,(λy X=>by cases X),g,g6,go⟩
  .split at go
   .rename_i l hl;obtain⟨t,ht,hx⟩:=tJ hl;refine ⟨[tmps.getD t undef],?_,_,rfl,some (.str l),st.heap,st.next,μ',O',g4,g5,c,λy X=>by cases X;exact g3 t _ hx,g,g6,go⟩;rw[ht];exact .cons (by simp[rv]) .nil
   split at go
   .rename_i a1 a6;obtain⟨a7,k1,k2⟩:=Eu g2 g3 a6;exact ⟨a7,k1,_,rfl,some (OK a1),st.heap,st.next,μ',O',g4,g5,c,λy X=>by cases X;exact IZ k2,g,g6,go⟩
   .exact absurd go hbad⟩
def TR {R st μ O w} d:ρ B R st μ O w↔ρ {B with dfr:=d} R st μ O w :=
 ⟨λh=>⟨h.heap,h.own,h.inj,h.foreign,h.flt,h.dom,h.below,h.bsize,h.obound⟩,λh=>⟨h.heap,h.own,h.inj,h.foreign,h.flt,h.dom,h.below,h.bsize,h.obound⟩⟩
def EE (t:DG C B) (y:∀k,¬B.D k) (E:C.P.follows .mixedOrders=true) (J:∀f I,C.inl f=some I->gε C.P f I) d:HD C B (EN C d):=by have h0:=ZI (B:={B with dfr:=[]}) rfl t y E J d;refine ⟨h0.enters,λGood bad hbad f I R vs h nx K μ O w us X Y Z c hM hg=>?_⟩;refine (h0.calls Good bad hbad f I R vs h nx K μ O w us X Y Z c ((TR []).1 hM) hg).mono ?_;rintro e w' ⟨v,he,x,h',g,μ',O',h1,h2,h3,h4⟩;exact ⟨v,he,x,h',g,μ',O',h1,h2,(TR []).2 h3,h4⟩
end
end Go.Den
