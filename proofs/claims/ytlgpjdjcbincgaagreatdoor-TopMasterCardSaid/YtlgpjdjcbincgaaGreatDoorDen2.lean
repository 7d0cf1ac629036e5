/- Part of a plain reading of Go code: an evaluator of code as functions of typed data, and that it tells what the machine does. -/
import Derived.Test.YtlgpjdjcbincgaaGreatDoorDen1
import Derived.Laws.StructEq
import Derived.ChangeKeysEq
import Derived.Orders
import Derived.LoopN
import Derived.Scope
set_option linter.all false
namespace Go
def World.setObj' (w:World) (b:Nat) (o:Obj):World:={w with heap:=w.heap.setIfInBounds b o}
end Go
namespace Go.Den
open Go.RowKit
section
variable {C:Ctx} {P:Program} {B:Base} {R:RO} {st:St} {μ:AI} {O:Nat->Prop} {w:World} {a:Act}
theorem oX (E:RelM B R st μ O w) {k:Nat} {T:Ty} {l:List T.interp} (I:st.obj R k=some (.arr T l)) {v:Value} (J:AQ w O μ (.ref k) v) {i j:Int} (h0:0<=i) (h1:i<=j) (h2:j<=(l.length:Int)) :
 ∃ad cap,v=.slice ad l.length cap/\l.length<=cap/\AQ w O μ (.sub k i (Gi j i)) (.slice (if cap=i.toNat then ad else ad.map (·.add (i.toNat*T.size))) (j.toNat-i.toNat) (cap-i.toNat)):=by
 obtain⟨ad,cap,d,X,hm,c⟩:=E.heap k _ I;obtain⟨Y,g,h,Z,o,ev⟩:=J;rw[d] at o;cases o;have p:(Gi j i).toNat=j.toNat-i.toNat:=by unfold Gi;omega
 refine ⟨ad,cap,ev,X,ad,l.length,cap,T.size,_,cap-i.toNat,d,⟨h0,by unfold Gi;omega,by unfold Gi;omega⟩,by rw[p],⟨by rw[p];omega,by omega⟩,?_⟩;by_cases t:Gi j i=0
 ·exact .inl t
 ·have a1:i<j:=by unfold Gi at t;omega
  rcases c with c|⟨b,vs,el,y,hc,hs,c⟩
  ·omega
  ·refine .inr ⟨b,y,?_⟩;rw[if_neg (by omega),y];simp[Addr.add_mid]
theorem qB {k T l lo n v i j} (X:RelM B R st μ O w) (Y:st.obj R k=some (.arr T l)) (Z:AQ w O μ (.sub k lo n) v) (h0:0<=i) (h1:i<=j) (h2:j<=n) :
 ∃ad cap,v=.slice ad n.toNat cap/\n.toNat<=cap/\AQ w O μ (.sub k (Jv lo i) (Gi j i)) (.slice (if cap=i.toNat then ad else ad.map (·.add (i.toNat*T.size))) (j.toNat-i.toNat) (cap-i.toNat)):=by
 obtain⟨d,c,h,hl,hm,o⟩:=X.heap k _ Y;obtain⟨a2,p,t,a1,a',y,E,⟨g0,g1,g2⟩,ev,⟨g3,g4⟩,I⟩:=Z;rw[h] at E;cases E;have hd:(Gi j i).toNat=j.toNat-i.toNat:=by unfold Gi;omega
 refine ⟨a',y,ev,g3,d,l.length,c,T.size,_,y-i.toNat,h,⟨by unfold Jv;omega,by unfold Gi;omega,by unfold Jv Gi;omega⟩,by rw[hd],⟨by omega,by omega⟩,?_⟩;by_cases J:Gi j i=0
 ·exact .inl J
 ·have a6:i<j:=by unfold Gi at J;omega
  rcases I with I|⟨b,ea,g⟩
  ·omega
  ·refine .inr ⟨b,ea,?_⟩;rw[if_neg (by omega),g];have:(Jv lo i).toNat=lo.toNat+i.toNat:=by unfold Jv;omega
   rw[this,Qcd];simp[Addr.add_mid]
theorem lA (hM:RelM B R st μ O w) (hD:¬B.D st.next) (hE:CN R st μ O w a.tmps) {o:Oper} {t:TypeId} {x:Operand} {lo hi mx:Option Operand} (ho:o.op=.slice t x lo hi mx)
 {out:AOut} {e:Eff} (h:D7 P R st t (opc R st x) lo hi mx=some out) (E:out.run=some e):Does P o a w (BL B R st e μ O w):=by
 unfold D7 at h;split at h
 ·rename_i el hu;split at h
  ·cases h
  rename_i inf J;split at h
  ·rename_i T l hx;split at h
   ·cases h
   rename_i g;have g:=beq_true g;have fin:∀(a8 aa:Option Value) (i j:Nat) (y:List T.interp),a8=lo.map a.eval->aa=hi.map a.eval ->
    (match a8 with|none=>i=0|some v=>∃k n,v=.int k n/\0<=n/\i=n.toNat)->(match aa with|none=>j=l.length|some v=>∃k n,v=.int k n/\0<=n/\j=n.toNat)->i<=j->j<=l.length->y=(l.take j).drop i ->
    Does P o a w (BL B R st (.c st (.sl T y)) μ O w):=λa8 aa i j y e1 e2 h1 h2 h3 h4 ey=>by
    obtain⟨ad,cap,ev,a6,hr⟩:=tF (AT hE hx) h3 h4
    have d:=FF (P:=P) (w:=w) (ad:=ad) (len:=l.length) (cap:=cap) hu J h1 h2 h3 (by omega)
    subst ey
    refine AX hM (x:=.v (.c (.sl T ((l.take j).drop i)))) ?_ (by rw[g] at d;exact hr) []
    simp only[execOp,ho,ev,Qce,<-e1,<-e2,Sem.run_bind,d,Result.andThen_ok,Sem.run_pure,g]
   split at h
   ·cases h;cases E<;>simp_all
   ·rename_i p;split at h
    ·rename_i k i Z;cases h;simp only[AOut.run] at E;split at E
     ·rename_i I;cases E;simp only[C5,Qab] at I;have Y:i<=(l.length:Int):=of_decide_eq_true I.2;refine fin (some (a.eval p)) none i.toNat l.length _ rfl rfl ⟨k,i,(AT hE Z).1,of_decide_eq_true I.1,rfl⟩ rfl (by omega) (Qaa _) ?_;rw[Qas (Qaa _)];rfl
     ·cases E
    ·cases h
   ·rename_i p;split at h
    ·rename_i k j Z;cases h;simp only[AOut.run] at E;split at E
     ·rename_i I;cases E;simp only[C5,Qab] at I;have Y:j<=(l.length:Int):=of_decide_eq_true I.2;exact fin none (some (a.eval p)) 0 j.toNat _ rfl rfl rfl ⟨k,j,(AT hE Z).1,of_decide_eq_true I.1,rfl⟩ (Qaw _) (by omega) (by simp[Ax])
     ·cases E
    ·cases h
   ·rename_i p q;split at h
    ·rename_i k i k' j Z hq;cases h;simp only[AOut.run] at E;split at E
     ·rename_i I;cases E;simp only[C5,Qab] at I;have X:= of_decide_eq_true I.1;have Y:= of_decide_eq_true I.2.1;have ab:j<=(l.length:Int):=of_decide_eq_true I.2.2;exact fin (some (a.eval p)) (some (a.eval q)) i.toNat j.toNat _ rfl rfl ⟨k,i,(AT hE Z).1,X,rfl⟩ ⟨k',j,(AT hE hq).1,by omega,rfl⟩ (by omega) (by omega) rfl
     ·cases E
    ·cases h
  ·rename_i hx;split at h
   ·rename_i p;split at h
    ·rename_i k j Z;cases h;simp only[AOut.run] at E;split at E
     ·rename_i I;cases E;have hj:j=0:=by simpa[eqI] using I
      subst hj;obtain⟨ad,ev⟩:∃ad,a.eval x=.slice ad 0 0:=AT hE hx;have d:=FF (P:=P) (w:=w) (ad:=ad) (len:=0) (cap:=0) (lo:=none) (hi:=some (a.eval p)) (l:=0) (h:=0) hu J rfl ⟨k,0,(AT hE Z).1,by omega,rfl⟩ (Qaa _) (Qaa _);exact AX hM (x:=.v (.c .nils)) (v:=.slice ad 0 0) (by simp only[execOp,ho,ev,Qce,Qai,Sem.run_bind,d,Result.andThen_ok,Sem.run_pure]<;>simp_all) ⟨ad,rfl⟩ []
     ·cases E
    ·cases h
   ·cases h
  ·rename_i k hx;have hv:= AT hE hx;split at h
   ·rename_i p;split at h
    ·rename_i kk j T l Z hk ai;split at h
     ·rename_i g;have g:=beq_true g;cases h;simp only[AOut.run] at E;split at E
      ·rename_i I;cases E;simp only[C5,Qab] at I;have Y:j<=(l.length:Int):=of_decide_eq_true I.2;have a7:st.obj R k=some (.arr T l):=by simp[St.obj,hk]
       obtain⟨ad,cap,e1,hl,hm,a1⟩:=hM.heap k _ a7;obtain⟨av,aq,ar,aw,e2,ev⟩:=hv;rw[e1] at e2;cases e2;have d:=FF (P:=P) (w:=w) (ad:=ad) (len:=l.length) (cap:=cap) (lo:=none) (hi:=some (a.eval p)) (l:=0) (h:=j.toNat) hu J rfl ⟨kk,j,(AT hE Z).1,of_decide_eq_true I.1,rfl⟩ (Qaw _) (by omega);have ae:(if cap=0 then ad else ad.map (·.add (0*inf.size)))=ad:=by
        split
        ·rfl
        ·cases ad with
         |none=>rfl
         |some q=>simp[Addr.add]
       rw[ae] at d;have af:(Ax l j).length=j.toNat:=by unfold Ax<;>simp_all
       obtain⟨μ',aj,hn⟩:=hM.rekey hD a7 (noKey_iff.2 ai) e1 (.arr ad j.toNat cap T.size) (by cases ad<;>rfl) (.arr T (Ax l j)) rfl (λ_ _=>rfl) (Below.refl _ _) (λμ' _ ax hn=>⟨ad,cap,by simp_all,by omega,hm,by
        rcases a1 with a1|⟨b,vs,ak,ea,al,hs,a1⟩
        ·exact .inl a1
        ·refine .inr ⟨b,vs,ak,ea,al,hs,?_⟩;rw[af];have ag:=RowOf.take (λx vs=>AW T) a1 j.toNat;rw[Qfw,Qer (Qco _ (by omega))] at ag;exact ag⟩) st.env;refine .inl ⟨.slice ad j.toNat cap,w,?_,BR (Keeps.refl _ _) (λx u hx=>Cn hx hM.heap) aj λx hx=>by cases hx;exact ⟨_,_,_,_,hn,rfl⟩⟩;simp only[execOp,ho,ev,Qce,Qai,Sem.run_bind,d,Result.andThen_ok,Sem.run_pure,Qeu]
      ·cases E
     ·cases h
    ·cases h
   ·rename_i p;split at h
    ·rename_i kk i T l Z hk;split at h
     ·rename_i g;have g:=beq_true g;cases h;simp only[AOut.run] at E;split at E
      ·rename_i I;cases E;simp only[C5,Qab] at I;have X:= of_decide_eq_true I.1;have Y:i<=(l.length:Int):=of_decide_eq_true I.2;obtain⟨ad,cap,ev,a6,hr⟩:=oX hM hk hv (i:=i) (j:=Aa l) X Y (Qbb _);have d:=FF (P:=P) (w:=w) (ad:=ad) (len:=l.length) (cap:=cap) (lo:=some (a.eval p)) (hi:=none) (l:=i.toNat) (h:=l.length) hu J ⟨kk,i,(AT hE Z).1,X,rfl⟩ rfl (by omega) a6;refine AX hM (x:=.v (.c (.sub k i (Gi (Aa l) i)))) ?_ (by rw[g] at d;exact hr) [k];simp only[execOp,ho,ev,Qce,Qai,Sem.run_bind,d,Result.andThen_ok,Sem.run_pure,g];rfl
      ·cases E
     ·cases h
    ·cases h
   ·rename_i p q;split at h
    ·rename_i kk i an j T l Z hq hk;split at h
     ·rename_i g;have g:=beq_true g;cases h;simp only[AOut.run] at E;split at E
      ·rename_i I;cases E;simp only[C5,Qab] at I;have X:= of_decide_eq_true I.1;have Y:= of_decide_eq_true I.2.1;have ab:j<=(l.length:Int):=of_decide_eq_true I.2.2;obtain⟨ad,cap,ev,a6,hr⟩:=oX hM hk hv (i:=i) (j:=j) X Y ab;have d:=FF (P:=P) (w:=w) (ad:=ad) (len:=l.length) (cap:=cap) (lo:=some (a.eval p)) (hi:=some (a.eval q)) (l:=i.toNat) (h:=j.toNat) hu J ⟨kk,i,(AT hE Z).1,X,rfl⟩ ⟨an,j,(AT hE hq).1,by omega,rfl⟩ (by omega) (by omega);refine AX hM (x:=.v (.c (.sub k i (Gi j i)))) ?_ (by rw[g] at d;exact hr) [k];simp only[execOp,ho,ev,Qce,Qai,Sem.run_bind,d,Result.andThen_ok,Sem.run_pure,g]
      ·cases E
     ·cases h
    ·cases h
   ·cases h
  ·rename_i k o' n hx;have hv:= AT hE hx;split at h
   ·rename_i T l hk;split at h
    ·rename_i g;have g:=beq_true g;split at h
     ·rename_i p;split at h
      ·rename_i kk j Z;cases h;simp only[AOut.run] at E;split at E
       ·rename_i I;cases E;simp only[C5,Qab] at I;have X:= of_decide_eq_true I.1;have Y:= of_decide_eq_true I.2;obtain⟨ad,cap,ev,a6,hr⟩:=qB hM hk hv (i:=0) (j:=j) (Qbb _) X Y;have d:=FF (P:=P) (w:=w) (ad:=ad) (len:=n.toNat) (cap:=cap) (lo:=none) (hi:=some (a.eval p)) (l:=0) (h:=j.toNat) hu J rfl ⟨kk,j,(AT hE Z).1,X,rfl⟩ (by omega) (by omega);refine AX hM (x:=.v (.c (.sub k o' j))) ?_ (by
         have e3:Jv o' 0=o':=by unfold Jv;omega
         have e4:Gi j 0=j:=by unfold Gi;omega
         rw[e3,e4] at hr;exact hr) [k];simp only[execOp,ho,ev,Qce,Qai,Sem.run_bind,d,Result.andThen_ok,Sem.run_pure,g];simp
       ·cases E
      ·cases h
     ·rename_i p;split at h
      ·rename_i kk i Z;cases h;simp only[AOut.run] at E;split at E
       ·rename_i I;cases E;simp only[C5,Qab] at I;have X:= of_decide_eq_true I.1;have Y:= of_decide_eq_true I.2;obtain⟨ad,cap,ev,a6,hr⟩:=qB hM hk hv (i:=i) (j:=n) X Y (Qbb _);have d:=FF (P:=P) (w:=w) (ad:=ad) (len:=n.toNat) (cap:=cap) (lo:=some (a.eval p)) (hi:=none) (l:=i.toNat) (h:=n.toNat) hu J ⟨kk,i,(AT hE Z).1,X,rfl⟩ rfl (by omega) a6;refine AX hM (x:=.v (.c (.sub k (Jv o' i) (Gi n i)))) ?_ (by rw[g] at d;exact hr) [k];simp only[execOp,ho,ev,Qce,Qai,Sem.run_bind,d,Result.andThen_ok,Sem.run_pure,g]
       ·cases E
      ·cases h
     ·cases h
    ·cases h
   ·cases h
  ·cases h
 ·rename_i n el hu;unfold JI at h;split at h
  ·rename_i inf k i J hx;obtain⟨b,len,cap,sz,Z,h0,ay,ev⟩:AQ w O μ (.eptr k i) (a.eval x):=AT hE hx;split at h
   ·rename_i T l hz hk;have hz:=m7 hz;subst hz;split at h
    ·obtain⟨az,au,ah,a6,b0,_⟩:=hM.heap k _ hk;rw[Z] at ah;cases ah;have ev:a.eval x=.pointer (some ⟨b,0,none⟩):=by rw[ev];simp
     have fin:∀j:Int,0<=j->j<=(n:Int)->Aa l=(n:Int)->(execOp a.eval o).run P w=.ok (.value (.slice (some ⟨b,0,none⟩) j.toNat n)) w->Does P o a w (BL B R st {Eff.c st (.sub k 0 j) with reads:=[k]} μ O w):=λj j0 j1 hl hr=>by have hl:(l.length:Int)=n:=hl;refine AX hM (x:=.v (.c (.sub k 0 j))) hr ⟨_,_,_,_,some ⟨b,0,none⟩,n,Z,⟨Qbb _,j0,by omega⟩,rfl,⟨by omega,by omega⟩,?_⟩ [k];exact .inr ⟨b,rfl,by simp⟩
     split at h
     ·cases h;obtain⟨hb,rfl⟩:=Bu E;have hb:Aa l=(n:Int):=by simpa[eqI] using hb
      refine fin n (by omega) (Qbb _) hb ?_;simp[execOp,ho,ev,Instr.sliceAt,run_underlying hu,Instr.sureAddr,Instr.sliceBounds,sizeOf,typeInfo,J,Addr.add]
     ·rename_i p;split at h
      ·rename_i kk j hj;cases h;obtain⟨hb,rfl⟩:=Bu E;simp only[C5,Qab] at hb;have ao:Aa l=(n:Int):=by simpa[eqI] using hb.1
       have j0:0<=j:=of_decide_eq_true hb.2.1;have j1:j<=(n:Int):=of_decide_eq_true hb.2.2;refine fin j j0 j1 ao ?_;simp[execOp,ho,ev,(AT hE hj).1,Instr.sliceAt,run_underlying hu,Instr.sureAddr,Instr.sliceBounds,Instr.sliceBound,asIntOf,j0,j1,sizeOf,typeInfo,J,Addr.add]
      ·cases h
    ·cases h
   ·cases h
  ·cases h
 ·cases h
theorem AcE {c k lo n T l v} (hM:RelM B R st μ O w) (h:LX st c=some (k,lo,n)) (J:assoc st.heap k=some (.arr T l)) (hv:∀d,c=some d->AQ w O μ d v) :
 ∃g d,v=.slice g n.toNat d/\0<=lo/\0<=n/\lo+n<=(l.length:Int)/\(n=0\/∃b vs el cap,μ k=some (.arr (some ⟨b,0,none⟩) l.length cap T.size)/\cap≠0/\g=some ⟨b,lo.toNat*T.size,none⟩ /\
  w.heap[b]?=some (.cells vs el (0,0))/\vs.size=cap*T.size/\l.length<=cap/\cap<=maxLen/\RowOf (Reads w O T) l (vs.toList.take (l.length*T.size))):=by
 have p:st.obj R k=some (.arr T l):=by simp[St.obj,J]
 obtain⟨ad,cap,e1,hl,hm,o⟩:=hM.heap k _ p
 have fin:∀g d,v=.slice g n.toNat d->0<=lo->0<=n->lo+n<=(l.length:Int)->(n=0\/∃b,ad=some ⟨b,0,none⟩/\g=some ⟨b,lo.toNat*T.size,none⟩)->_:=λg d t h0 h1 X h3=>(⟨g,d,t,h0,h1,X,by
  grind⟩:∃g d,v=.slice g n.toNat d/\0<=lo/\0<=n/\lo+n<=(l.length:Int)/\(n=0\/∃b vs el cap,μ k=some (.arr (some ⟨b,0,none⟩) l.length cap T.size)/\cap≠0/\g=some ⟨b,lo.toNat*T.size,none⟩ /\
   w.heap[b]?=some (.cells vs el (0,0))/\vs.size=cap*T.size/\l.length<=cap/\cap<=maxLen/\RowOf (Reads w O T) l (vs.toList.take (l.length*T.size))))
 unfold LX at h
 split at h
 ·rename_i k';split at h
  ·rename_i T' l' Y;simp only[Qaf,Qcv] at h;obtain⟨rfl,rfl,rfl⟩:=h;rw[Y] at J;cases J;obtain⟨a2,y,E,Z,I,t⟩:=hv _ rfl;rw[e1] at I;cases I;refine fin ad cap (by rw[t];rfl) (Qbb _) (by unfold Aa;omega) (by unfold Aa;omega) ?_;rcases o with o|⟨b,vs,el,ea,hc,hs,o⟩
   ·left;unfold Aa;omega
   ·exact .inr ⟨b,ea,by rw[ea];simp⟩
  ·cases h
 ·simp only[Qaf,Qcv] at h;obtain⟨rfl,rfl,rfl⟩:=h;obtain⟨a2,y,E,Z,g,d,I,⟨h0,h1,X⟩,t,_,hz⟩:=hv _ rfl;rw[e1] at I;cases I;exact fin g d t h0 h1 X hz
 ·cases h
theorem qY {o t t' d s args ts out e} (hM:RelM B R st μ O w) (hE:CN R st μ O w a.tmps) (ho:o.op=.call {callee:=.builtin .copy,args,argTypes:=ts}) (aq:args.toList=[d,s]) (ba:ts.toList=[t,t'])
 (h:KB P R st t (opc R st d) (opc R st s)=some out) (he:out.run=some e):Does P o a w (BL B R st e μ O w):=by
  have a1:args=#[d,s]:=by grind
  have ah:ts=#[t,t']:=by grind
  subst a1;subst ah;have a6:∀v w',(Builtin.copy_ #[t,t'] o.type #[a.eval d,a.eval s]).run P w=.ok v w'->(execOp a.eval o).run P w=.ok (.value v) w':=λv w' hv=>by simp[execOp,ho,resolve,invoke,builtin,hv]
  unfold KB at h;split at h
  ·rename_i el hu;split at h
   ·rename_i inf k lo n b7 ar;split at h
    ·rename_i T l hk;split at h
     ·rename_i T' bb ks h1 h2 hl;have h1:=beq_true h1;have h2:=beq_true h2;split at h
      ·rename_i xs hc;cases h;cases he;obtain⟨rfl,rfl⟩:=Ea hc;have a7:st.obj R k=some (.arr T' l):=by simp[St.obj,hk]
       obtain⟨ad,cap,cells,ev,bc,hm,g,ai,y,_⟩:=Tw hM hl λc' hc=>AT hE hc;obtain⟨a',c',aj,bd,hn,bf,a8⟩:=AcE hM ar hk λc' hc=>AT hE hc;have E:=ai O (Keeps.refl _ _);have aa:(P.info? el).map (·.size)=some 1:=by simp_all
       have hg:Bb (Aa xs) n=((min xs.length n.toNat:Nat):Int):=by unfold Bb Aa<;>omega
       have au:(xs.take n.toNat).length=min xs.length n.toNat:=by grind
       have ab:inR .i64 (Bb (Aa xs) n)=true:=by rw[hg];exact PE (by omega)
       by_cases hz:min xs.length n.toNat=0
       ·have av:CR l lo n xs=l:=by have:xs.take n.toNat=[]:=Qad (by omega);unfold CR;rw[this]<;>simp_all
        refine .inl ⟨.int .i64 (Bb (Aa xs) n),w,a6 _ _ (by rw[aj,ev,run_copy_none (P:=P) w t t' o.type el a' ad n.toNat c' xs.length cap hu aa hz,hg,hz];rfl),BR (Keeps.refl _ _) (λx u hx=>Cn hx hM.heap) ⟨μle.refl _,Keeps.refl _ _,?_,λ_ _ hk=>.inl hk⟩ λx hx=>by cases hx;exact ⟨rfl,ab⟩⟩;refine hM.congr (λj oj ej=>?_) (Qaa _);have aw:({env:=st.env,heap:=(k,AObj.arr T' (CR l lo n xs))::dropKey k st.heap,next:=st.next}:St).obj R j=some oj:=ej;rw[Dv] at aw<;>grind
       ·rcases a8 with a8|⟨b,vs,af,I,hp,ak,al,J,an,ax,ay,p⟩
        ·omega
        ·rcases g with g|⟨b2,ao,ea,g⟩
         ·omega
         rw[h1,Qch] at al an y;have ae:(Place.arr (some ⟨b,0,none⟩) l.length I T'.size).block=some b:=by simp[Place.block,ak]
         have ag:(cells.take n.toNat).length=Nat.min xs.length n.toNat:=by rw[Qbn,y];exact Nat.min_comm _ _
         have az:vs.toList.length=I:=by rw[Qat];exact an
         have X:(cells.take n.toNat).length=(xs.take n.toNat).length:=by rw[au];exact ag
         have b8:(cells.take n.toNat).length<=n.toNat:=by rw[Qbn];omega
         have b0:=run_copy_row (P:=P) w t t' o.type el b lo.toNat n.toNat c' ⟨b2,ao,none⟩ xs.length cap vs af (cells.take n.toNat) hu aa J ag
          (λj u hj=>by rw[Addr.add_mid];exact IW g n.toNat j u hj) (by omega) λu b1=>RowOf.all (λx vs h=>Lu T' h) E u (Qde b1);have b3:Bb (Aa xs) n=((cells.take n.toNat).length:Int):=by rw[hg,ag]
         refine .inl ⟨.int .i64 (Bb (Aa xs) n),w.setRow b (vs.toList.take lo.toNat++cells.take n.toNat++vs.toList.drop (lo.toNat+(cells.take n.toNat).length)).toArray,a6 _ _ (by rw[aj,ev,al,ea,b0,b3];rfl),?_⟩;refine BR (Keeps.refl _ _) (λx u hx=>Cn hx hM.heap) (hM.write a7 hp ae (.arr T' (CR l lo n xs)) (by simp) (λc hc=>setRow_other w b c _ hc) (below_setRow w b _ (hM.own k _ a7 _ b hp ae).2.1.1) (λY=>?_) st.env) (λx hx=>by cases hx;exact ⟨rfl,ab⟩);have Z:(CR l lo n xs).length=l.length:=by unfold CR;rw[Qau,Qau,Qbn,Qdj,<-X];omega
         refine ⟨_,I,by rw[Z];exact hp,by rw[Z];exact ax,ay,.inr ⟨b,_,af,rfl,setRow_heap w b vs _ af _ J,?_,?_⟩⟩
         ·rw[Qbk,Qau,Qau,Qbn,Qdj,az,h1];omega
         ·rw[Z,h1,Qch,Qeo];have e2:(vs.toList.take lo.toNat++cells.take n.toNat++vs.toList.drop (lo.toNat+(cells.take n.toNat).length)).take l.length=(vs.toList.take l.length).take lo.toNat++cells.take n.toNat++(vs.toList.take l.length).drop (lo.toNat+(cells.take n.toNat).length):=by rw[Qdu,Qas (by rw[Qau,Qbn];omega),Qfw,Qer (by omega),List.drop_take];congr 2;rw[Qau,Qbn];omega
          rw[e2,X];unfold CR;rw[h1,Qch] at p;have q0:=RowOf.take (λx vs=>AW T') p lo.toNat;have q1:=RowOf.take (λx vs=>AW T') E n.toNat;have q2:=RowOf.drop (λx vs=>AW T') p (lo.toNat+(xs.take n.toNat).length);rw[h1,Qch] at q0 q1 q2;rw[X] at Y;exact ((q0.append q1).append q2).mono λ_ _=>Av Y T'
      ·cases h
     ·cases h
    ·cases h
   ·cases h
  ·cases h
theorem Ju {o c v} (d:RelM B R st μ O w) (g:(execOp a.eval o).run P w=.ok (.value v) w) (h:AQ w O μ c v):Does P o a w (BL B R st (.c st c) μ O w) :=
 AX d (x:=.v (.c c)) g h []
theorem tK (x y:Int):(0<=x->0<=x.tmod y/\x.tmod y<=x)/\(x<=0->x<=x.tmod y/\x.tmod y<=0):=by
 have key:∀x:Int,0<=x->0<=x.tmod y/\x.tmod y<=x:=λx h=>by have h0:=Qcr y h;have h1:=Int.natAbs_tmod x y;have c:=Nat.mod_le x.natAbs y.natAbs<;>omega
 refine ⟨key x,λh=>?_⟩;have:=key (-x) (by omega)<;>simp_all
theorem Ac3 {k x y} (o:inR k x=true):inR k (x.tmod y)=true:=by
 rw[inR_iff] at o ⊢;have c:=tK x y;have d:k.min<=0:=by cases k<;>decide
 have g:0<=k.max:=by cases k<;>decide
 rcases Int.le_total 0 x with h|h
 ·have:=c.1 h;omega
 ·have:=c.2 h;omega
theorem mZ {k x} n (o:inR k x=true):inR k (x.fdiv (2 ^ n))=true:=by
 rw[inR_iff] at o ⊢;have p:(0:Int)<2 ^ n:=Qfd (by decide);rw[Qcg _ (by omega)];have d:(1:Int)<=2 ^ n:=by omega
 have c:k.min<=0:=by cases k<;>decide
 have g:0<=k.max:=by cases k<;>decide
 constructor
 ·rw[Int.le_ediv_iff_mul_le p];have:= Int.mul_le_mul_of_nonpos_left c d;omega
 ·rcases Int.le_total 0 x with h|h
  ·have:=Int.ediv_le_self (2 ^ n) h;omega
  ·have:= Int.ediv_nonpos_of_nonpos_of_neg h (by omega);omega
end
end Go.Den
namespace Go.Den
open Go.RowKit
section
variable {C:Ctx} {P:Program} {B:Base} {R:RO} {st:St} {μ:AI} {O:Nat->Prop} {w:World} {a:Act}
theorem wH {o op t t' x y k k' m n out e} (hM:RelM B R st μ O w) (ho:o.op=.binOp op t x y t') (hx:a.eval x=.int k m) (hy:a.eval y=.int k' n) (I:inR k m=true) (Z:inR k' n=true)
 (h:Rj st op k m k' n=some out) (d:out.run=some e):Does P o a w (BL B R st e μ O w):=by
  have fin:∀c v,(binOp op t (.int k m) (.int k' n)).run P w=.ok v w->AQ w O μ c v->Does P o a w (BL B R st (.c st c) μ O w):=λc v J g=>by
   refine Ju hM ?_ g;have hg:(eqGuard op t x y (.int k m) (.int k' n)).run P w=.ok () w:=by cases op<;>simp[eqGuard]
   simp only[execOp,ho,hx,hy,Sem.run_bind,hg,Result.andThen_ok,J,Sem.run_pure]
  have p:∀ {k:IntKind} {n:Int},k.signed=false->inR k n=true->0<=n:=λ{k n} E J=>by
   rw[inR_iff] at J;have:k.min=0:=by cases k<;>simp_all[IntKind.signed,IntKind.min]
   omega
  unfold Rj at h;split at h
  ·split at h
   ·cases h;simp only[AOut.run] at d;split at d
    ·rename_i g;cases d;have h0:= of_decide_eq_true g;exact fin _ _ (by simp only[binOp,Op.shift];rw[if_neg (by omega)];rfl) ⟨rfl,EV _ _⟩
    ·cases d
   ·rename_i E;cases h;cases d;have h0:=p E Z;exact fin _ _ (by simp only[binOp,Op.shift];rw[if_neg (by omega)];rfl) ⟨rfl,EV _ _⟩
  ·split at h
   ·cases h;simp only[AOut.run] at d;split at d
    ·rename_i g;cases d;have h0:= of_decide_eq_true g;exact fin _ _ (by simp only[binOp,Op.shift];rw[if_neg (by omega)];rfl) ⟨rfl,mZ _ I⟩
    ·cases d
   ·rename_i E;cases h;cases d;have h0:=p E Z;exact fin _ _ (by simp only[binOp,Op.shift];rw[if_neg (by omega)];rfl) ⟨rfl,mZ _ I⟩
  ·rename_i a1 a6;split at h
   ·cases h
   rename_i X;have X:=J6 X;subst X;split at h
   ·cases h;cases d;exact fin _ _ (by simp only[binOp,Op.intArith];simp;rfl) ⟨rfl,EV _ _⟩
   ·cases h;cases d;exact fin _ _ (by simp only[binOp,Op.intArith];simp;rfl) ⟨rfl,EV _ _⟩
   ·cases h;cases d;exact fin _ _ (by simp only[binOp,Op.intArith];simp;rfl) ⟨rfl,EV _ _⟩
   ·cases h;simp only[AOut.run] at d;split at d
    ·rename_i g;cases d;have h0:n≠0:=by intro Y;subst Y;simp[Nv,eqI] at g
     exact fin _ _ (by simp only[binOp,Op.intDiv];simp[h0];rfl) ⟨rfl,EV _ _⟩
    ·cases d
   ·cases h;simp only[AOut.run] at d;split at d
    ·rename_i g;cases d;have h0:n≠0:=by intro Y;subst Y;simp[Nv,eqI] at g
     exact fin _ _ (by simp only[binOp,Op.intDiv];simp[h0];rfl) ⟨rfl,Ac3 I⟩
    ·cases d
   all_goals (cases h;try (cases d))
   ·exact fin _ _ (by simp only[binOp,Op.intBits];simp;rfl) ⟨rfl,EV _ _⟩
   ·exact fin _ _ (by simp only[binOp,Op.intBits];simp;rfl) ⟨rfl,EV _ _⟩
   ·exact fin _ _ (by simp only[binOp,Op.intBits];simp;rfl) ⟨rfl,EV _ _⟩
   ·exact fin _ _ (by simp only[binOp];rw[if_neg (by simp)];rfl) ⟨rfl,EV _ _⟩
   ·exact fin _ _ (by simp only[binOp,Op.intCmp];simp;rfl) rfl
   ·exact fin _ _ (by simp only[binOp,Op.intCmp];simp;rfl) (by simp only[AQ,Nv,eqI,bne])
   ·exact fin _ _ (by simp only[binOp,Op.intCmp];simp;rfl) rfl
   ·exact fin _ _ (by simp only[binOp,Op.intCmp];simp;rfl) rfl
   ·exact fin _ _ (by simp only[binOp,Op.intCmp];simp;rfl) rfl
   ·exact fin _ _ (by simp only[binOp,Op.intCmp];simp;rfl) rfl
theorem Zk {t x y r} (h:UU P t x y=some r):∃c p,x=some c/\y=some p/\El P t=some false/\∀w O μ d u v,AQ w O μ c u->AQ w O μ p v->(Op.equalIn (d+1) t u v).run P w=.ok r w:=by
 unfold UU at h;split at h
 ·rename_i E k a k' b g;split at h
  ·rename_i I;cases h;have:=J6 I;subst this;refine ⟨_,_,rfl,rfl,by simp[El,g],λw O μ d u v h1 o=>?_⟩;rw[h1.1,o.1];exact run_equalIn_int w d t k E a b g
  ·cases h
 ·rename_i a b g;cases h;refine ⟨_,_,rfl,rfl,by simp[El,g],λw O μ d u v h1 o=>?_⟩;have:= h1;subst this;have:= o;subst this;exact run_equalIn_bool' w d t a b g
 ·cases h
theorem LS {t cs off v} (hg:El P t=some false) (c:cs[off]?=some v):(part t cs off).run P w=.ok v w:=by simp[part,Vp hg w,c]
theorem Vb {xs ys} {a b} (ha:All2 (AQ w O μ) a xs.toList) (hb:All2 (AQ w O μ) b ys.toList) d:∀ {fs} {r},OC P a b fs=some r->(Op.eqFields (d+1) xs ys fs).run P w=.ok r w
 |[],r,h=>by simp[OC] at h;subst h;rfl
 |f::fs,r,h=>by
  simp only[OC] at h;split at h
  ·rename_i i x y hn hi hc hr;cases h;obtain⟨c,c',e1,e2,hg,hrun⟩:=Zk hc;obtain⟨u,hu,ru⟩:=ha.get e1;obtain⟨v,hv,rv⟩:=hb.get e2;have hne:f.name≠ "_":=by simp_all
   simp only[Op.eqFields,if_pos hne,Sem.run_bind,LS hg (by simpa using hu),LS hg (by simpa using hv),Result.andThen_ok,hrun w O μ d u v ru rv];cases x
   ·rfl
   ·simpa[C5] using Vb ha hb d hr
  ·cases h
theorem Xb {e i xs ys} (hi:P.info? e=some i) {a b} (o:All2 (AQ w O μ) a xs.toList) (p:All2 (AQ w O μ) b ys.toList) d:∀ {is} {r},NC P e a b is=some r->(Op.eqItems (d+1) e 1 xs ys is).run P w=.ok r w
 |[],r,h=>by simp[NC] at h;subst h;rfl
 |j::is,r,h=>by
  simp only[NC] at h;split at h
  ·rename_i x y t E;cases h;obtain⟨c,Z,I,J,hg,g⟩:=Zk t;obtain⟨u,X,ru⟩:=o.get I;obtain⟨v,Y,rv⟩:=p.get J;simp only[Op.eqItems,Qch,Sem.run_bind,LS hg (by simpa using X),LS hg (by simpa using Y),Result.andThen_ok,g w O μ d u v ru rv];cases x
   ·rfl
   ·simpa[C5] using Xb hi o p d E
  ·cases h
theorem ZA {t xs ys r} {a b} (h:Vc P t a b=some r) (d:All2 (AQ w O μ) a xs.toList) (g:All2 (AQ w O μ) b ys.toList) :
 P.eqGuardType P.depth t=false/\(Op.equalIn 10000 t (.agg xs) (.agg ys)).run P w=.ok r w:=by
 unfold Vc at h;split at h
 ·cases h
 rename_i hg;refine ⟨hg,?_⟩;split at h
 ·rename_i o c;split at h
  ·cases h
  rename_i p;have v:P.fieldsOf t=o:=by simp[Program.fieldsOf,c]
  rw[run_equalIn_struct w 9999 t xs ys (by simp_all) p,v];exact Vb d g 9998 h
 ·rename_i n e c;split at h
  ·rename_i i hi;split at h
   ·rename_i y;have E:P.cellsOf e=1:=by simp[Program.cellsOf,hi,beq_true y]
    rw[run_equalIn_array w 9999 xs ys c hi,E];exact Xb hi d g 9998 h
   ·cases h
  ·cases h
 ·cases h
theorem cJ:∀ {t} {x y},t.hasSl=false->(eqT t x y=true↔x=y)
 |.int _,x,y,_=>⟨@of_decide_eq_true _ (Int.instDecidableEq x y),@decide_eq_true _ (Int.instDecidableEq x y)⟩
 |.bool,x,y,_=>by cases x<;>cases y<;>first|exact ⟨λ_=>rfl,λ_=>rfl⟩|exact Iff.intro (λh=>by cases h) λh=>by cases h
 |.unit,_,_,_=>⟨λ_=>rfl,λ_=>rfl⟩
 |.pair a b,x,y,h=>by simp only[Ty.hasSl,Qbv] at h;simp only[eqT,Qab,cJ h.1,cJ h.2];exact ⟨λh=>Prod.ext h.1 h.2,λh=>by simp_all⟩
 |.slice _,_,_,h=>by cases h
def HZ (t:Ty):List (t.interp×Bool)->t.interp->Nat->Option (Nat×Bool)
 |[],_,_=>none
 |e::r,k,i=>if eqT t k e.1=true then some (i,e.2) else HZ t r k (i+1)
theorem ZU {t e r k i}:HZ t (e::r) k i=if eqT t k e.1=true then some (i,e.2) else HZ t r k (i+1):=rfl
theorem fB {t}:∀ {l} {k} {i},KY t l k=((HZ t l k i).map (·.2)).getD false
 |[],k,i=>rfl
 |e::r,k,i=>by
  unfold KY HZ;split
  ·rfl
  ·exact fB
theorem n9 {t}:∀ {l} {k} {i j} {b},HZ t l k i=some (j,b)->i<=j
 |[],k,i,j,b,h=>by cases h
 |e::r,k,i,j,b,h=>by
  unfold HZ at h;split at h
  ·simp_all
  ·exact Nat.le_of_succ_le (n9 h)
theorem fD {t x v g} (o:∃us,Reads w O t x us/\g=valOf t us):∀ {l} {es} {i j} {b},All2 (NW w O t) l es->HZ t l x i=some (j,b) ->
 ∃m,es[j-i]?=some m/\(t.hasSl=false->NW w O t (x,b) m)/\All2 (NW w O t) (Jw t l x v) (es.set (j-i) {m with key:=g,val:=.bool v})
 |[],es,i,j,b,_,h=>by cases h
 |e::r,es,i,j,b,y,h=>by
  cases y with
  |cons h1 p =>
   rename_i m es;unfold HZ at h;unfold Jw;split at h
   ·rename_i c;cases h;rw[if_pos c,Nat.sub_self];obtain⟨us,E,d⟩:=o;exact ⟨m,rfl,λI=>by have:=(cJ I).1 c<;>simp_all,.cons ⟨us,E,d,rfl⟩ p⟩
   ·rename_i c;rw[if_neg c];have J:=n9 h;obtain⟨X,g1,Y,Z⟩:=fD o p h;have e1:j-i=j-(i+1)+1:=by omega
    rw[e1];exact ⟨X,g1,Y,.cons h1 Z⟩
theorem fC {t x v o} (p:∃us,Reads w O t x us/\o=valOf t us) c:∀ {l} {es} {i},All2 (NW w O t) l es->HZ t l x i=none ->
 All2 (NW w O t) (Jw t l x v) (es++[{key:=o,val:=.bool v,born:=c}])
 |[],es,i,d,_=>by cases d;obtain⟨us,y,g⟩:=p;exact .cons ⟨us,y,g,rfl⟩ .nil
 |e::r,es,i,d,h=>by
  cases d with
  |cons h1 E =>
   unfold HZ at h;unfold Jw;split at h
   ·cases h
   ·rename_i I;rw[if_neg I];exact .cons h1 (fC p c E h)
theorem MF {t T} (h:Q3 P t=some T):∃c d,P.underlying t=some (.map c d)/\jP P d=true/\T.hasSl=false /\
 ((∃k,T=.int k/\P.underlying c=some (.int k))\/∃k e inf,T=.pair (.int k) (.int k)/\P.underlying c=some (.array 2 e)/\P.underlying e=some (.int k)/\P.info? e=some inf/\inf.size=1/\P.eqGuardType P.depth c=false):=by
 unfold Q3 at h;split at h
 ·rename_i c d v;split at h
  ·rename_i k o p;cases h;exact ⟨c,d,v,o,rfl,.inl ⟨k,rfl,p⟩⟩
  ·rename_i n e o p;split at h
   ·rename_i k inf y hi;split at h
    ·rename_i g;cases h;simp only[Qab,Qal] at g;have E:=beq_true g.1;subst E;exact ⟨c,d,v,o,rfl,.inr ⟨k,e,inf,rfl,p,y,hi,beq_true g.2.1,g.2.2⟩⟩
    ·cases h
   ·cases h
  ·cases h
 ·cases h
theorem tA {k} {x y:(Ty.int k).interp}:Instr.sameNow (.int k) (.int k x) (.int k y)=some (eqT (.int k) x y):=by unfold Instr.sameNow;exact if_pos rfl
theorem Xe {k} {x:(Ty.int k).interp}:∀ {l} {es} {i},All2 (NW w O (.int k)) l es ->
 Instr.findNow (.int k) (.int k x) es i=some ((HZ (.int k) l x i).map λp=>(p.1,.bool p.2))
 |[],es,i,d=>by cases d;rfl
 |a::r,es,i,d=>by
  cases d with
  |cons h1 h =>
   rename_i m es;obtain⟨us,⟨rfl,_⟩,g,h4⟩:=h1;have g:m.key=.int k a.1:=g;unfold Instr.findNow;rw[g,tA,ZU];cases c:eqT (.int k) x a.1 with
   |true=>simp[h4]
   |false=>simp only[Qcz,if_false];exact Xe h
theorem uK {g T x v} (eqv:∀y u,(∃us,Reads w O T y us/\u=valOf T us)->(Op.equal g v u).run P w=.ok (eqT T x y) w):∀ {l} {es} {i},All2 (NW w O T) l es ->
 (Instr.findAsking g v es i).run P w=.ok ((HZ T l x i).map λp=>(p.1,.bool p.2)) w
 |[],es,i,d=>by cases d;rfl
 |a::r,es,i,d=>by
  cases d with
  |cons h1 h =>
   rename_i m es;obtain⟨us,o,t,h4⟩:=h1;unfold Instr.findAsking;rw[ZU];simp only[Sem.run_bind,eqv a.1 m.key ⟨us,o,t⟩,Result.andThen_ok];cases c:eqT T x a.1 with
   |true=>simp[h4]
   |false=>simp only[Qcz,if_false];exact uK eqv h
theorem Rw {t:TypeId} {T:Ty} {g vt:TypeId} (hu:P.underlying t=some (.map g vt)) (hT:Q3 P t=some T) {x:T.interp} {us:List Value} (Y:Reads w O T x us) {l:List (T.interp×Bool)} {es:List MapEntry} (Z:All2 (NW w O T) l es) :
 (Instr.findKey g (valOf T us) es).run P w=.ok ((HZ T l x 0).map λp=>(p.1,.bool p.2)) w:=by
 obtain⟨a1,a6,d,_,_,c⟩:=MF hT;rw[hu] at d;cases d;rcases c with ⟨k,rfl,c⟩|⟨k,e,inf,rfl,c,he,hi,h,hg⟩
 ·obtain⟨rfl,_⟩:=Y;simp only[Instr.findKey,Sem.run_bind,run_underlying c,Result.andThen_ok];rw[show valOf (.int k) [Value.int k x]=.int k x from rfl,Xe Z];rfl
 ·obtain⟨v1,v2,rfl,⟨rfl,o⟩,⟨rfl,E⟩⟩:=Y;have eqv:∀(y:(Ty.pair (.int k) (.int k)).interp) (v:Value),(∃us,Reads w O (.pair (.int k) (.int k)) y us/\v=valOf (.pair (.int k) (.int k)) us)->(Op.equal g (.agg #[.int k x.1,.int k x.2]) v).run P w=.ok (eqT (.pair (.int k) (.int k)) x y) w:=λy v hv=>by
   obtain⟨us,⟨u1,u2,rfl,⟨rfl,I⟩,⟨rfl,J⟩⟩,rfl⟩:=hv;have hf:Vc P g [.int k x.1,.int k x.2] [.int k y.1,.int k y.2]=some (eqT (.pair (.int k) (.int k)) x y):=by
    unfold Vc;rw[hg,c];simp only[hi,h];have X:MC k k=true:=by cases k<;>rfl
    simp only[Qdf,List.range_zero,Qaz,Qec,NC,Qbi,Qbj,UU,he,X];show some (@BEq.beq Int instBEqOfDecidableEq x.1 y.1&&(@BEq.beq Int instBEqOfDecidableEq x.2 y.2&&true)) = _;rw[Bool.and_true];rfl
   exact (ZA (w:=w) (O:=O) (μ:=λ_=>none) hf (xs:=#[.int k x.1,.int k x.2]) (ys:=#[.int k y.1,.int k y.2]) (.cons ⟨rfl,o⟩ (.cons ⟨rfl,E⟩ .nil)) (.cons ⟨rfl,I⟩ (.cons ⟨rfl,J⟩ .nil))).2
  rw[show valOf (.pair (.int k) (.int k)) ([Value.int k x.1]++[Value.int k x.2])=.agg #[.int k x.1,.int k x.2] from rfl];simp only[Instr.findKey,Sem.run_bind,run_underlying c,Result.andThen_ok];cases Z with
  |nil=>rfl
  |cons h1 h2 =>
   rename_i a m l es;have:Instr.findNow (.array 2 e) (.agg #[.int k x.1,.int k x.2]) (m::es) 0=none:=by
    unfold Instr.findNow;have:Instr.sameNow (.array 2 e) (.agg #[.int k x.1,.int k x.2]) m.key=none:=by unfold Instr.sameNow;rfl
    rw[this]
   rw[this];exact uK eqv (.cons h1 h2)
theorem Aaz {t} (h:jP P t=true) w:(zeroValue t).run P w=.ok (.bool false) w:=by
 unfold jP at h;split at h
 ·rename_i i _ hi;split at h
  ·rename_i c;simp[zeroValue,typeInfo,hi,c]
  ·cases h
 ·cases h
theorem UW {c k} (d:P.underlying c=some (.int k)) b m n:(Instr.checkKey b (m+1) c (.int k n)).run P w=.ok () w:=by simp[Instr.checkKey,run_underlying d]
theorem lR {g e k inf} (p:P.underlying g=some (.array 2 e)) (h:P.underlying e=some (.int k)) (hi:P.info? e=some inf) (c:inf.size=1) b m x y :
 (Instr.checkKey b (m+2) g (.agg #[.int k x,.int k y])).run P w=.ok () w:=by
 have d:El P e=some false:=by unfold El;rw[h]
 have t:(sizeOf e).run P w=.ok 1 w:=by simp[sizeOf,typeInfo,hi,c]
 have o:∀i v,(#[Value.int k x,Value.int k y]:Array Value)[i]?=some v->(part e #[Value.int k x,Value.int k y] (i*1)).run P w=.ok v w:=λi v E=>LS d (by simp_all);unfold Instr.checkKey;simp only[Sem.run_bind,run_underlying p,Result.andThen_ok];simp only[Std.Legacy.Range.forIn_eq_forIn_range',Std.Legacy.Range.size,Qeu,Nat.add_sub_cancel,Nat.div_one,Qge,List.range'_zero,List.forIn_cons,List.forIn_nil];simp only[Sem.run_bind,t,Result.andThen_ok,o 0 (.int k x) rfl,o 1 (.int k y) rfl,UW h,Qbm,Sem.run_pure]
theorem P3 {t T h p x us} (v:P.underlying t=some (.map h p)) (y:Q3 P t=some T) (o:Reads w O T x us) b :
 (Instr.checkKey b 10000 h (valOf T us)).run P w=.ok () w:=by
 obtain⟨E,I,c,_,_,d⟩:=MF y;rw[v] at c;cases c;rcases d with ⟨k,rfl,d⟩|⟨k,e,inf,rfl,d,J,hi,g,hg⟩
 ·obtain⟨rfl,_⟩:=o;exact UW d b 9999 _
 ·obtain⟨Z,v2,rfl,⟨rfl,X⟩,⟨rfl,Y⟩⟩:=o;exact lR d J hi g b 9998 _ _
theorem AdB m k n:Instr.sameBits (m+1) (.int k n) (.int k n)=true:=by simp[Instr.sameBits]
theorem AdC m k x y:Instr.sameBits (m+2) (.agg #[.int k x,.int k y]) (.agg #[.int k x,.int k y])=true:=by simp[Instr.sameBits]
theorem Ab2 {T t x us c} (d:Q3 P t=some T) (h:Reads w O T x us) (h':Reads w O T x c):(Instr.keyThatStays (valOf T c) (valOf T us)).run P w=.ok (valOf T us) w:=by
 obtain⟨_,_,_,_,_,g⟩:=MF d;have e:c=us/\Instr.sameBits 10000 (valOf T us) (valOf T us)=true:=by
  rcases g with ⟨k,rfl,_⟩|⟨k,_,_,rfl,_⟩
  ·obtain⟨rfl,_⟩:=h;obtain⟨rfl,_⟩:=h';exact ⟨rfl,AdB 9999 k x⟩
  ·obtain⟨_,_,rfl,⟨rfl,_⟩,⟨rfl,_⟩⟩:=h;obtain⟨_,_,rfl,⟨rfl,_⟩,⟨rfl,_⟩⟩:=h';exact ⟨rfl,AdC 9998 k x.1 x.2⟩
 rw[e.1];simp[Instr.keyThatStays,e.2]
theorem lH {n} w b o (h:n<=b):Below n w (w.setObj' b o) :=
 ⟨rfl,rfl,rfl,by simp[World.setObj'],λk c=>by simp only[World.setObj']<;>grind⟩
theorem bS {o t out e} (p:RelM B R st μ O w) (v:¬B.D st.next) (y:o.op=.makeMap t none) (h:IC P st t=some out) (E:out.run=some e):Does P o a w (BL B R st e μ O w):=by
 unfold IC at h;split at h
 ·rename_i T J;cases h;cases E;refine .inl ⟨.map (some w.heap.size),w.alloc (.map #[] 0),by simp[execOp,y,Instr.makeMap],?_⟩;obtain⟨μ',O',c,d⟩:=p.alloc v (.map #[] 0) (.box w.heap.size) (.map T []) (.inr rfl)
   (λO' μ' X I d=>⟨w.heap.size,#[],0,d,heap_alloc_new w _,.nil⟩) st.env;exact BR (Keeps.refl _ _) (λx u g=>Cn g p.heap) c λx g=>by cases g;exact ⟨_,d,rfl⟩
 ·cases h
theorem mapKey {T g x v} (o:RelM B R st μ O w) (d:I9 T g=true) (p:GM (st.obj R) T g=some (x,[])) (h:Cl w O μ g v):∃us,Reads w O T x us/\v=valOf T us:=by
 refine ⟨_,KF (Keeps.refl w O) o.heap p h (λk t=>by cases t),?_⟩;cases g with
 |c c =>
  have d:T.isAgg=false:=by simpa[I9] using d
  rw[Pg c h];simp[valOf,d]
 |a cs =>
  have d:T.isAgg=true:=by simpa[I9] using d
  obtain⟨vs,rfl,y⟩:=h;simp[valOf,d,Value.cells]
theorem gL {o t x i v out e} (I:RelM B R st μ O w) (Y:CN R st μ O w a.tmps) (ho:o.op=.lookup t x i false) (hv:op1 R st i=some v) (h:Jk P R st t (opc R st x) v=some out) (he:out.run=some e) :
 Does P o a w (BL B R st e μ O w):=by
 unfold Jk at h;split at h
 ·rename_i T k J hm;obtain⟨b,hb,ev⟩:AQ w O μ (.mref k) (a.eval x):=AT Y hm;split at h
  ·rename_i T' l hk;split at h
   ·rename_i hq y a1 hf hd;cases h;cases he;have:=hq.down;subst this;obtain⟨us,Z,X⟩:=mapKey I hf hd (NM Y hv);obtain⟨b',es,c,g,hc,ha⟩:=I.heap k _ hk;rw[hb] at g;cases g;obtain⟨kt,vt,d,hz,_,_⟩:=MF J;have E:(Instr.lookup t (a.eval x) (a.eval i) false).run P w=.ok (.bool (KY T l y)) w:=by
     have hg:(getObj b).run P w=.ok (.map es c) w:=by simp[getObj,Sem.run,hc]
     rw[ev,X];simp only[Instr.lookup,Sem.run_bind,run_underlying d,Result.andThen_ok,hg,Sem.run_pure,P3 d J Z,Rw d J Z ha];rw[fB ];cases a6:HZ T l y 0 with
     |none=>simp[Aaz hz]
     |some p=>simp
    exact AX I (x:=.v (.c (.bool (KY T l y)))) (by simp[execOp,ho,E]) rfl [k]
   ·cases h
  ·cases h
 ·cases h
theorem gO {o t m k0 v0 v b0 out e} (X:RelM B R st μ O w) (hE:CN R st μ O w a.tmps) (ho:o.op=.mapUpdate t m k0 v0) (hv:op1 R st k0=some v) (a8:opc R st v0=some (.bool b0))
 (h:Jl P R st t (opc R st m) v b0=some out) (he:out.run=some e):Does P o a w (BL B R st e μ O w):=by
 unfold Jl at h;split at h
 ·rename_i T k Y hm;obtain⟨b,hb,ev⟩:AQ w O μ (.mref k) (a.eval m):=AT hE hm;split at h
  ·rename_i T' l Z;have Z:st.obj R k=some (.map T' l):=by simp[St.obj,Z]
   split at h
   ·rename_i hq y ai hf hd;cases h;cases he;have:=hq.down;subst this;obtain⟨us,I,aa⟩:=mapKey X hf hd (NM hE hv);obtain⟨b',es,c,a1,hc,ha⟩:=X.heap k _ Z;rw[hb] at a1;cases a1;obtain⟨kt,vt,d,hz,ab,_⟩:=MF Y;have hg:(getObj b).run P w=.ok (.map es c) w:=by simp[getObj,Sem.run,hc]
    have hs:∀o,(setObj b o).run P w=.ok () (w.setObj' b o):=λo=>by simp[setObj,Sem.run,hc,World.setObj']
    obtain⟨g,c',a6,ad⟩:∃g c',(Instr.mapUpdate t (a.eval m) (a.eval k0) (a.eval v0)).run P w=.ok () (w.setObj' b (.map g c'))/\All2 (NW w O T) (Jw T l y b0) g.toList:=by
     rw[ev,aa,AT hE a8];cases E:HZ T l y 0 with
     |none =>
      refine ⟨es.push {key:=valOf T us,val:=.bool b0,born:=c},c+1,?_,?_⟩
      ·simp only[Instr.mapUpdate,Sem.run_bind,run_underlying d,Result.andThen_ok,hg,P3 d Y I,Rw d Y I ha,E,Qce,hs]
      ·rw[Array.toList_push];exact fC ⟨us,I,rfl⟩ c ha E
     |some p =>
      obtain⟨j,bb⟩:=p;obtain⟨me,g1,g2,g3⟩:=fD ⟨us,I,rfl⟩ ha E;rw[Qeu] at g1 g3;obtain⟨ae,af,ag,_⟩:=g2 ab;have a7:(es.modify j λe=>{e with key:=valOf T us,val:=.bool b0}).toList=es.toList.set j {me with key:=valOf T us,val:=.bool b0}:=by apply Qdq;intro n;rw[Qav,Array.getElem?_modify,List.getElem?_set]<;>grind
      refine ⟨_,c,?_,by rw[a7];exact g3⟩;have ah:(es[j]?.map (·.key)).getD (valOf T us)=valOf T ae:=by rw[Qav] at g1;rw[g1];exact ag
      simp only[Instr.mapUpdate,Sem.run_bind,run_underlying d,Result.andThen_ok,hg,P3 d Y I,Rw d Y I ha,E,Qai,ah,Ab2 Y I af,hs]
    refine .inr (.inl ⟨w.setObj' b (.map g c'),by simp[execOp,ho,a6],?_⟩);refine BR (Keeps.refl _ _) (λx u hx=>Cn hx X.heap) (μ':=μ) (O':=O) ?_ (λx hx=>by cases hx);refine X.write Z hb rfl (.map T (Jw T l y b0)) (by simp[World.setObj']) λc hc=>by simp only[World.setObj'];rw[Qbt λe=>hc e.symm] (lH w b _ (X.own k _ Z _ b hb rfl).2.1.1) (λJ=>?_) st.env;exact ⟨b,g,c',hb,by simp[World.setObj',(X.own k _ Z _ b hb rfl).2.2],ad.mono λe m ⟨us,r,r'⟩=>⟨us,Av J T r,r'⟩⟩
   ·cases h
  ·cases h
 ·cases h
theorem Td (o:CN R st μ O w a.tmps):∀ {parts} {n} {l} {vs},fnParts R st n parts=some l->n+parts.length<=vs.size ->
 ∃c news,Instr.fill (λi=>some (i*1,1)) vs (parts.map λx=>(x.1,a.eval x.2))=some c/\l.length=parts.length/\c.toList=vs.toList.take n++news++vs.toList.drop (n+parts.length)/\All2 (Nj w O μ) l news
 |[],n,l,vs,h,t=>by simp[fnParts] at h;subst h;exact ⟨vs,[],rfl,rfl,by simp,.nil⟩
 |(i,x)::r,n,l,vs,h,t=>by
  simp only[Qay] at t;have key:∀f l',Nat.beq i n=true->Nj w O μ f (a.eval x)->fnParts R st (n+1) r=some l'->l=f::l' ->
   ∃c news,Instr.fill (λi=>some (i*1,1)) vs (((i,x)::r).map λx=>(x.1,a.eval x.2))=some c/\l.length=((i,x)::r).length/\c.toList=vs.toList.take n++news++vs.toList.drop (n+((i,x)::r).length)/\All2 (Nj w O μ) l news:=λf l' hi v g y=>by
   have hi:=beq_true hi;subst hi;subst y
   have d:(a.eval x).cells=#[a.eval x]:=by obtain⟨f,b,cs⟩:=f;cases b<;>(obtain⟨vs,e,_⟩:=v;rw[e];rfl)
   obtain⟨c,news,X,E,e3,I⟩:=Td o (vs:=vs.setIfInBounds i (a.eval x)) g (by grind)
   refine ⟨c,a.eval x::news,?_,by simp[E],?_,.cons v I⟩
   ·simp only[Qcu,Instr.fill,d]<;>grind
   ·rw[e3,Qem,Qay];have h1:(vs.toList.set i (a.eval x)).take (i+1)=vs.toList.take i++[a.eval x]:=by rw[Qci,List.take_set_of_le (Qaa _)]<;>grind
    have J:(vs.toList.set i (a.eval x)).drop (i+1+r.length)=vs.toList.drop (i+1+r.length):=by rw[List.drop_set_of_lt (by omega)]
    rw[h1,J,show i+(r.length+1)=i+1+r.length by omega];simp
  simp only[fnParts] at h;split at h
  ·rename_i f cs l' hi p g;cases h;exact key (f,false,cs) l' hi (Bv o p) g rfl
  ·rename_i f cs l' hi p g;cases h;exact key (f,true,cs) l' hi (Bv o p) g rfl
  ·cases h
theorem YZ {o t n ps out e} (E:RelM B R st μ O w) (hE:CN R st μ O w a.tmps) (ho:o.op=.buildSlice t n ps) (h:FH P R st t n ps.toList=some out) (he:out.run=some e) :
 Does P o a w (BL B R st e μ O w):=by
 unfold FH at h;split at h
 ·rename_i el hu;split at h
  ·rename_i inf l hi hl;split at h
   ·rename_i hc;cases h;cases he;simp only[Qab] at hc;obtain⟨c1,c2,c3,c4⟩:=hc;have c2:=beq_true c2;have c3:=Qbe c3;obtain⟨z,hz⟩:=Option.isSome_iff_exists.1 c4;let zero:= if n*1=0 then #[] else z.cells
    let d:= (Array.range (n*1)).map (zero[·%zero.size]!);have y:∀ {r:List (Nat×Operand)} {m:Nat} {l},fnParts R st m r=some l->l.length=r.length:=by
     intro r;induction r with
     |nil=>intro m l h;simp[fnParts] at h;simp_all
     |cons x r ih =>intro m l h;obtain⟨i,x⟩:=x;simp only[fnParts] at h<;>grind
    have a6:=y hl;have a1:ps.size=n:=by simp_all
    obtain⟨p,news,f1,f2,f3,f4⟩:=Td hE (vs:=d) hl (by grind);have v:p.toList=news:=by rw[f3,List.take_zero,Qdl (by grind)];simp
    refine .inl ⟨.slice (some ⟨w.heap.size,0,none⟩) l.length l.length,w.alloc (.cells p el),?_,?_⟩
    ·have hps:(ps.map λ(i,x)=>(i,a.eval x)).toList=ps.toList.map λx=>(x.1,a.eval x.2):=by simp
     have g:n*1=0\/n*1≠0:=by omega
     simp only[execOp,ho,Instr.buildSlice,Sem.run_bind,run_underlying hu,Result.andThen_ok,sizeOf,typeInfo,run_program,hi,Sem.run_pure,beq_true c1];rw[if_neg (by omega)];rcases g with g|g
     ·have I:n=0:=by omega
      subst I;have J:p=#[]:=Qdd (by have h1:=f4.length;rw[<-v] at h1;rw[<-Qat];omega);have he0:Array.map (λ_=>(default:Value)) (Array.range 0)=#[]:=Qdd (by simp);simp[Qad (by omega),Instr.fill,newRow,J,c2,he0]
     ·have X:zero=z.cells:=if_neg g;have c:(Array.range (n*1)).map (zero[·%zero.size]!)=d:=rfl;rw[X] at c;simp only[Qch] at c f1 g;simp[g,zeroValue,typeInfo,hi,hz];rw[c,f1];simp[newRow,c2]
    ·obtain⟨Y,Z⟩:=E.grow ((Below.refl _ w).alloc (Qaa _) (.cells p el));refine ⟨μ,O,⟨μle.refl _,Z,Y.congr (λk o h=>h) (Qaa _),λ_ _ h=>.inl h⟩,λx u hx=>D3 Z (μle.refl _) _ (Cn hx E.heap),λx hx=>?_⟩;cases hx;refine ⟨w.heap.size,p.toList,rfl,λhO=>Qcm _ (E.obound _ hO),by simp,JK (heap_alloc_new w _),?_⟩;rw[v];exact f4.mono λx _=>Ph Z (μle.refl _) x
   ·cases h
  ·cases h
 ·cases h
theorem Tg {n e}:∀ {l} {j},Ia (Sr st n j l)=some e->∃i f,l[i]?=some f/\n=((j+i:Nat):Int)/\e=Eff.val st (.fnp f)
 |[],j,h=>by cases h
 |f::r,j,h=>by
  simp only[Sr,Ia] at h;split at h
  ·rename_i c;cases h;have:n=((j:Nat):Int):=by simpa[eqI] using c
   exact ⟨0,f,rfl,by simpa using this,rfl⟩
  ·obtain⟨i,g,h1,d,o⟩:=Tg h;exact ⟨i+1,g,by simpa using h1,by rw[d];congr 1;omega,o⟩
theorem Y5 {o t x y k n l out e} (v:RelM B R st μ O w) (E:CN R st μ O w a.tmps) (I:o.op=.indexAddr t x y) (J:a.eval y=.int k n) (X:opv R st x=some (.fns l))
 (h:Hm P st t l n=some out) (Y:out.run=some e):Does P o a w (BL B R st e μ O w):=by
  obtain⟨b,us,Z,hO,hb,hr,ha⟩:BW w O μ (.fns l) (a.eval x):=Bv E X;unfold Hm at h;split at h
  ·rename_i el hu;split at h
   ·rename_i inf hi;split at h
    ·rename_i hs;cases h;obtain⟨i,f,g,p,rfl⟩:=Tg Y;obtain⟨u,c,d⟩:=ha.get g;have p:n=(i:Int):=by omega
     refine AX v (x:=.fnp f) ?_ ⟨b,i,u,rfl,hO,hb,?_,d⟩ []
     ·simp[execOp,I,Z,J,Instr.indexAt,asIntOf,run_underlying hu,p,(List.getElem?_eq_some_iff.1 g).1,sizeOf,typeInfo,hi,beq_true hs,Addr.add_mid]
     ·have:=hr i u c<;>simp_all
    ·cases h
   ·cases h
  ·cases h
theorem Aco {t n} (h:Aab P t=some n) w:∃z,(zeroValue t).run P w=.ok z w/\z.cells.size=n:=by
 unfold Aab at h;split at h
 ·rename_i i hi;split at h
  ·rename_i v c;cases h;exact ⟨v,by simp[zeroValue,typeInfo,hi,c],rfl⟩
  ·cases h
 ·cases h
theorem YX {o t ps out e} (E:RelM B R st μ O w) (v:CN R st μ O w a.tmps) (I:o.op=.build t ps) (h:Gm P R st t ps.toList=some out) (J:out.run=some e) :
 Does P o a w (BL B R st e μ O w):=by
 unfold Gm at h;split at h
 ·rename_i n el X;split at h
  ·rename_i inf l z hi y Y;split at h
   ·rename_i d;cases h;cases J;simp only[Qab] at d;have c2:=beq_true d.2.1;have c3:=beq_true d.2.2;obtain⟨Z,g,a1⟩:=Aco Y w;have a6:l.length=ps.toList.length:=by obtain⟨_,_,_,h2,_⟩:=Td v (vs:=Array.replicate ps.toList.length undef) y (by simp)<;>omega
    obtain⟨c,news,f1,f2,f3,f4⟩:=Td v (vs:=Z.cells) y (by omega);have p:c.toList=news:=by simp_all
    refine AX E (x:=.fna l) ?_ ⟨c,rfl,by simp_all⟩ [];simp only[execOp,I,Instr.build,Sem.run_bind,g,Result.andThen_ok,run_underlying X,sizeOf,typeInfo,run_program,hi,Sem.run_pure,beq_true d.1]<;>simp_all
   ·cases h
  ·cases h
 ·cases h
theorem Ry {n e}:∀ {l} {j},Ia (PB st n j l)=some e->∃i f,l[i]?=some f/\n=((j+i:Nat):Int)/\e=Eff.val st (match f.2.1 with|true=>.bfn f.1 f.2.2|false=>.fn f.1 f.2.2)
 |[],j,h=>by cases h
 |f::r,j,h=>by
  simp only[PB,Ia] at h;split at h
  ·rename_i c;cases h;have:n=((j:Nat):Int):=by simpa[eqI] using c
   exact ⟨0,f,rfl,by simpa using this,rfl⟩
  ·obtain⟨i,g,h1,d,o⟩:=Ry h;exact ⟨i+1,g,by simpa using h1,by rw[d];congr 1;omega,o⟩
theorem Y3 {o t x y k n l out e} (E:RelM B R st μ O w) (X:CN R st μ O w a.tmps) (Y:o.op=.index t x y) (Z:a.eval y=.int k n) (hx:opv R st x=some (.fna l))
 (h:Hl P st t l n=some out) (he:out.run=some e):Does P o a w (BL B R st e μ O w):=by
  obtain⟨us,ev,ha⟩:BW w O μ (.fna l) (a.eval x):=Bv X hx;unfold Hl at h;split at h
  ·rename_i m el hu;split at h
   ·rename_i inf hi hg;split at h
    ·rename_i v;cases h;simp only[Qab] at v;have c2:=beq_true v.2;obtain⟨i,f,I,J,rfl⟩:=Ry he;obtain⟨u,a1,d⟩:=ha.get I;have a6:= (List.getElem?_eq_some_iff.1 I).1;have J:n=(i:Int):=by omega
     have hp:(part el us i).run P w=.ok u w:=LS hg (by simp_all);have c:(execOp a.eval o).run P w=.ok (.value u) w:=by
      have p:i<m:=by omega
      simp[execOp,Y,ev,Z,Instr.index,asIntOf,run_underlying hu,J,p,sizeOf,typeInfo,hi,beq_true v.1,hp]
     obtain⟨g,b,cs⟩:=f;cases b with
     |true=>exact AX E (x:=.bfn g cs) c d []
     |false=>exact AX E (x:=.fn g cs) c d []
    ·cases h
   ·cases h
  ·cases h
theorem fV {s t:ByteArray}:(s.toList==t.toList)=(s.data.toList==t.data.toList):=by rw[ByteArray.toList_eq,ByteArray.toList_eq]
end
end Go.Den
namespace Go.Den
open Go.RowKit
section
variable {C:Ctx} {P:Program} {B:Base} {R:RO} {st:St} {μ:AI} {O:Nat->Prop} {w:World} {a:Act}
theorem Zi g (hg:∀n s,g (.int .u8 n) s=pure (.yield (s.push (UInt8.ofNat n.toNat)))) (k:ByteArray->Sem Value):∀(l:List Int) cells s,RowOf (Reads w O (.int .u8)) l cells ->
 (forIn cells s g >>= k).run P w=(k ⟨s.data++(l.map λn=>UInt8.ofNat n.toNat).toArray⟩).run P w
 |[],cells,s,h=>by have:cells=[]:=h<;>simp_all
 |n::l,cells,s,⟨p,c,e,h1,d⟩=>by obtain⟨o,_⟩:=h1;subst o;subst e;simp only[Qec,List.forIn_cons,hg,pure_bind];rw[Zi g hg k l c (s.push (UInt8.ofNat n.toNat)) d]<;>simp_all
theorem WU {cells v} {l:List Int} (h:Under w v l.length 1 cells) (t:RowOf (Reads w O (.int .u8)) l cells):∃s,(Conv.bytesToString v).run P w=.ok (.string s) w/\s.data.toList=bytesOf l:=by
 obtain⟨ad,cap,y,J,g⟩:=h;subst y;cases ad with
 |none =>
  rcases g with g|⟨b,off,o,_⟩
  ·have:= Qad g;subst this;exact ⟨_,rfl,rfl⟩
  ·cases o
 |some p =>
  have d:(loadCells p l.length).run P w=.ok cells.toArray w:=by
   rcases g with g|⟨b,off,o,c⟩
   ·have E:cells=[]:=Qad (by omega);subst E;rw[g];rfl
   ·cases o;have:=run_loadCells_list (P:=P) w ⟨b,off,none⟩ cells (λj u I=>by rw[Addr.add_mid];exact c j u I)<;>simp_all
  refine ⟨⟨(l.map λn=>UInt8.ofNat n.toNat).toArray⟩,?_,by simp[bytesOf]⟩;simp only[Conv.bytesToString,Sem.run_bind,d,Result.andThen_ok];rw[<-Array.forIn_toList,<-Sem.run_bind];exact (Zi _ λn s=>by simp (λs=>pure (.string s)) l cells ByteArray.empty t).trans (by simp)
theorem S8 {o s d e x cells} (p:RelM B R st μ O w) (t:o.op=.convert s d x) (v:P.underlying s=some (.slice e)) (y:P.underlying d=some .string) (E:P.underlying e=some (.int .u8)) {l:List Int} (h:Under w (a.eval x) l.length 1 cells) (I:RowOf (Reads w O (.int .u8)) l cells) rd :
 Does P o a w (BL B R st {dst:=some (.str (bytesOf l)),reads:=rd,next:=st.next} μ O w):=by obtain⟨str,c,J⟩:=WU (P:=P) h I;obtain⟨ad,cap,g,_⟩:=h;refine AX p (x:=.str (bytesOf l)) ?_ ⟨str,rfl,J⟩ rd;rw[g] at c;simp only[execOp,t,g,convert,Sem.run_bind,run_underlying v,run_underlying y,run_underlying E,Result.andThen_ok];simp[c]
theorem TE {g k}:∀ {vs} {us} {acc} {out},EB st g k acc vs=some out->All2 (Cl w O μ) vs us->inR k acc=true ->
 ∃n,out=.ok (.c st (.int k n))/\inR k n=true/\(us.foldlM (match g with|true=>Builtin.max2|false=>Builtin.min2) (.int k acc)).run P w=.ok (.int k n) w
 |[],us,acc,out,h,o,p=>by cases o;simp[EB] at h<;>simp_all
 |v::r,us,acc,out,h,o,p=>by
  cases o with
  |cons h1 t =>
   cases v with
   |a cs=>simp[EB] at h
   |c E =>
    cases E<;>simp[EB] at h;rename_i k' y;split at h
    ·rename_i I;have:=J6 I;subst this;obtain⟨J,Y⟩:=h1;obtain⟨n,e,X,d⟩:=TE h t (by cases g<;>simp only[B8,Bb]<;>split<;>assumption);refine ⟨n,e,X,?_⟩;subst J;rw[List.foldlM_cons,Sem.run_bind];cases g with
     |true=>exact d
     |false=>exact d
    ·cases h
theorem AdA {T o f e} (h:(AOut.opt T o f).run=some e):∃x,o=some x/\e=f x:=by simp only[AOut.run,Qdm] at h<;>grind
theorem Zx {t el} (c:P.underlying t=some (.pointer el)) q:(Op.equal t (.pointer (some q)) (.pointer none)).run P w=.ok false w:=by
 have key:∀d,(Op.equalIn (d+1) t (.pointer (some q)) (.pointer none)).run P w=.ok false w:=λd=>by simp[Op.equalIn,run_underlying c]
 exact key 9999
theorem eA {o out e} (hC:DG C B) (J:RelM B R st μ O w) (ag:∀k,st.next<=k->k<st.next+16->¬B.D k) (E:CN R st μ O w a.tmps) (h:aop C R st o=some out) (I:out.run=some e) (ab:JD R e=true) :
 Does C.P o a w (BL B R st e μ O w):=by
 have hD:= ag _ (Qaa _) (by omega);have mv:∀y v,(execOp a.eval o).run C.P w=.ok (.value (a.eval y)) w->opv R st y=some v->out=.ok {dst:=some v,next:=st.next}->Does C.P o a w (BL B R st e μ O w):=λy v hr hy g=>by subst g;cases I;exact .inl ⟨_,w,hr,Zw J rfl rfl rfl λz hz=>by cases hz;exact Bv E hy⟩
 unfold aop at h;simp only at h;split at h
 ·rename_i x g;split at h
  ·rename_i v hv;cases h;exact mv x v (by simp[execOp,g]) hv rfl
  ·cases h
 ·rename_i x g;split at h
  ·rename_i v hv;cases h;exact mv x v (by simp[execOp,g]) hv rfl
  ·cases h
 ·rename_i x y z g;split at h
  ·rename_i c hc;have h1:a.eval x=.bool c:=AT E hc;split at h
   ·rename_i v hv;cases h;refine mv _ v ?_ hv rfl;cases c<;>simp[execOp,g,h1,asBool]
   ·cases h
  ·cases h
 ·rename_i el g;exact YV J hD g h I
 ·rename_i el x g;split at h
  ·rename_i v hv;cases h;cases I;exact wI J hD E g hv
  ·cases h
 ·rename_i t ps g;split at h
  ·rename_i l hl;exact kK J E g hl h I
  ·exact YX J E g h I
 ·rename_i t n ps g;split at h
  ·rename_i l hl;exact WT J hD E g hl h I ab
  ·exact YZ J E g h I
 ·rename_i t g;exact bS J hD g h I
 ·rename_i t x i g;split at h
  ·rename_i v hv;exact gL J E g hv h I
  ·cases h
 ·rename_i t m k v g;split at h
  ·rename_i x b X hb;exact gO J E g X hb h I
  ·cases h
 ·rename_i t x g;exact q9 J E g h I
 ·rename_i t x y g;split at h
  ·rename_i v hv;exact lC J E g hv h I ab
  ·cases h
 ·rename_i op t x y t' g;split at h
  ·rename_i k m k' n X hy;have h1:= Bv E X;have h2:= Bv E hy;exact wH J g h1.1 h2.1 h1.2 h2.2 h I
  ·rename_i p q X hy;have h1:a.eval x=.bool p:=Bv E X;have h2:a.eval y=.bool q:=Bv E hy;split at h
   ·rename_i hu;cases h;cases I;exact Ju J (v:=.bool (p==q)) (by simp[execOp,g,h1,h2,eqGuard,binOp,run_equal_bool w t p q hu]) rfl
   ·rename_i hu;cases h;cases I;exact Ju J (by simp[execOp,g,h1,h2,eqGuard,binOp,run_equal_bool w t p q hu,Nv,eqB]) rfl
   ·cases h
  ·rename_i cs ds X hy;obtain⟨xs,ex,ah⟩:=Bv E X;obtain⟨ys,ey,ax⟩:=Bv E hy;split at h
   ·rename_i r hr;obtain⟨hg,a1⟩:=ZA hr ah ax;split at h
    ·cases h;cases I;refine Ju J ?_ rfl;simp only[execOp,g,ex,ey,Sem.run_bind,run_eqGuard_agg w _ _ _ _ _ _ hg,Result.andThen_ok,run_eql_struct,a1,Sem.run_pure]
    ·cases h;cases I;refine Ju J ?_ rfl;simp only[execOp,g,ex,ey,Sem.run_bind,run_eqGuard_agg w _ _ _ _ _ _ hg,Result.andThen_ok,run_neq_struct,a1,Sem.run_pure,Nv]
    ·cases h
   ·cases h
  ·rename_i p q X hy;obtain⟨s1,e1,b1⟩:∃s,a.eval x=.string s/\s.data.toList=p:=Bv E X;obtain⟨s2,e2,b2⟩:∃s,a.eval y=.string s/\s.data.toList=q:=Bv E hy;split at h
   ·cases h;cases I;refine Ju J ?_ rfl;simp[execOp,g,e1,e2,eqGuard,binOp,Op.stringOp,fV,b1,b2,eqS]
   ·cases h;cases I;refine Ju J ?_ rfl;simp[execOp,g,e1,e2,eqGuard,binOp,Op.stringOp,fV,b1,b2,eqS,Nv]
   ·cases h
  ·rename_i k of X hy;obtain⟨b,hb,ev⟩:AQ w O μ (.ptr k of) (a.eval x):=Bv E X;have h2:a.eval y=.pointer none:=Bv E hy;split at h
   ·rename_i el hu;cases h;cases I;refine Ju J ?_ rfl;simp[execOp,g,ev,h2,eqGuard,binOp,Zx hu]
   ·rename_i el hu;cases h;cases I;refine Ju J ?_ rfl;simp[execOp,g,ev,h2,eqGuard,binOp,Zx hu]
   ·cases h
  ·cases h
 ·rename_i op t x g;split at h
  ·rename_i b X;cases h;cases I;have h1:a.eval x=.bool b:=AT E X;exact Ju J (v:=.bool !b) (by simp[execOp,g,h1,Op.unary]) rfl
  ·rename_i k n X;cases h;cases I;exact Ju J (v:=.int k (k.wrap (0-n))) (by simp[execOp,g,(AT E X).1,Op.unary,Op.intArith]) ⟨rfl,EV _ _⟩
  ·rename_i k n X;cases h;cases I;exact Ju J (v:=.int k (Vn k n)) (by simp only[execOp,g,(AT E X).1,Op.unary,Op.intBits];simp;rfl) ⟨rfl,EV _ _⟩
  ·cases h
 ·rename_i s d x g;split at h
  ·rename_i sd k k' n hs hd X;cases h;cases I;refine Ju J (v:=.int k (k.wrap n)) ?_ ⟨rfl,EV _ _⟩;simp[execOp,g,(AT E X).1,convert,run_underlying hs,run_underlying hd,Conv.intToInt]
  ·rename_i el c hs hd X;split at h
   ·rename_i ai;split at h
    ·cases h;cases I;obtain⟨ad,ev⟩:∃ad,a.eval x=.slice ad 0 0:=AT E X;exact S8 J g hs hd ai (l:=[]) ⟨ad,0,ev,rfl,.inl rfl⟩ rfl []
    ·rename_i l;cases h;cases I;obtain⟨cells,hu,hr,_⟩:=LG J (c:=some (.sl (.int .u8) l)) (T:=.int .u8) (l:=l) (ks:=[]) rfl (v:=a.eval x) (λc' hc=>by cases hc;exact AT E X);exact S8 J g hs hd ai (l:=l) hu hr []
    ·rename_i k;split at h
     ·rename_i l hk;cases h;cases I;obtain⟨cells,hu,hr,_⟩:=LG J (c:=some (.ref k)) (T:=.int .u8) (l:=l) (ks:=[k]) (by simp[GR,hk]) (v:=a.eval x) (λc' hc=>by cases hc;exact AT E X);exact S8 J g hs hd ai (l:=l) hu hr [k]
     ·cases h
    ·cases h
   ·cases h
  ·cases h
 ·rename_i f first a7 g
  split at h
  ·rename_i cs hf hc;cases h;cases I;have aj:first=#[]:=by simp_all
   subst aj;exact AX J (x:=.fn f cs) (v:=.func (.func f) #[] (a7.map a.eval)) (by simp[execOp,g,Instr.makeFunc]) ⟨_,rfl,by simpa using P2 E hc⟩ []
  ·rename_i x hf hc;split at h
   ·rename_i c X;cases h;cases I;have ar:=P2 E hc;have aj:first=#[x]:=by grind
    have ay:a7=#[]:=by
     have:a7.toList.map a.eval=[]:=by generalize a7.toList.map a.eval=us at ar;cases ar;rfl
     have h3:a7.toList=[]:=by simpa using this
     rw[<-Qcf (xs:=a7),h3]
    subst aj;subst ay;exact AX J (x:=.bfn f [c]) (v:=.func (.func f) #[a.eval x] #[]) (by simp[execOp,g,Instr.makeFunc]) ⟨_,rfl,.cons (AT E X) .nil⟩ []
   ·cases h
  ·cases h
 ·rename_i t x y g;split at h
  ·rename_i l c X hy;have h1:= AT E X;have h2:= AT E hy;exact XS J hD g h1.1 h2.1 h1.2 h2.2 h I
  ·cases h
 ·rename_i t x lo hi mx g;exact lA J hD E g h I
 ·rename_i s x f g;exact XO J E g h I
 ·rename_i s x f g;split at h
  ·rename_i cs off t X hf;split at h
   ·rename_i v hv;cases h;cases I;obtain⟨xs,ex,ah⟩:=NM E X;obtain⟨fs,fd,inf,hu,az,hi,hz,rfl,rfl⟩:=W5 hf;have ak:∃u,(part fd.type xs fd.offset).run C.P w=.ok u w/\Cl w O μ v u:=by
     unfold H2 at hv;split at hv
     ·rename_i i hg al;split at hv
      ·rename_i au;cases hv;have au:=Qbe au;refine ⟨.agg (xs.extract fd.offset (fd.offset+i.size)),?_,⟨_,rfl,?_⟩⟩
       ·rw[hi] at al;cases al;simp[part,Vp hg w,sizeOf,typeInfo,hi]
       ·have:=(ah.drop fd.offset).take i.size;simpa[Array.toList_extract,List.take_drop,Qgh] using this
      ·cases hv
     ·rename_i i hg al;split at hv
      ·rename_i c r hc;cases hv;have av:cs[fd.offset]?=some c:=by have:=congrArg (λl=>l[0]?) hc;simpa using this
       obtain⟨u,b0,ru⟩:=ah.get av;exact ⟨u,LS hg (by simpa using b0),ru⟩
      ·cases hv
     ·cases hv
    obtain⟨u,a1,hr⟩:=ak;exact AX J (x:=.v v) (by simp[execOp,g,ex,Instr.field,run_underlying hu,az,asAgg,a1]) hr []
   ·cases h
  ·cases h
 ·rename_i t x y g;split at h
  ·rename_i k n hy;have h1:= AT E hy;split at h
   ·rename_i l X;exact Y5 J E g h1.1 X h I
   ·exact XQ J E g h1.1 h I
  ·cases h
 ·rename_i t x i g;split at h
  ·rename_i l k n hu X hi;cases h;obtain⟨y,hy,rfl⟩:=AdA I;obtain⟨s,ex,hs⟩:∃s,a.eval x=.string s/\s.data.toList=l:=Bv E X;unfold Jg at hy;split at hy
   ·rename_i h0;cases hb:l[n.toNat]? with
    |none=>rw[hb] at hy;cases hy
    |some b =>
     rw[hb] at hy;simp only[Qai] at hy;cases hy;have b3:s[n.toNat]?=some b:=by
      have:s.data[n.toNat]?=some b:=by rw[<-Qav,hs];exact hb
      obtain⟨b7,I⟩:=Array.getElem?_eq_some_iff.1 this;rw[getElem?_pos s n.toNat b7];exact congrArg some I
     refine AX J (x:=.v (.c (.int .u8 (b.toNat:Int)))) (v:=.int .u8 (b.toNat:Int)) ?_ ⟨rfl,?_⟩ []
     ·simp[execOp,g,ex,(AT E hi).1,Instr.index,asIntOf,run_underlying hu,h0,b3]
     ·have:=b.toNat_lt;simp[inR,IntKind.min,IntKind.max,IntKind.signed,IntKind.bits];omega
   ·cases hy
  ·rename_i l k n hu X hi;exact Y3 J E g (AT E hi).1 X h I
  ·cases h
 ·rename_i x i g;split at h
  ·rename_i vs X;split at h
   ·rename_i v hv;cases h;cases I;obtain⟨us,ex,hr⟩:∃us,a.eval x=.tuple us/\All2 (Cl w O μ) vs us.toList:=Bv E X;obtain⟨u,hu,ru⟩:=hr.get hv;exact AX J (x:=.v v) (v:=u) (by
     have:us[i]?=some u:=by simpa using hu
     simp[execOp,g,ex,Instr.extract,this]) ru []
   ·cases h
  ·cases h
 ·rename_i x g;split at h
  ·rename_i k of X;cases h;cases I;obtain⟨b,hb,ev⟩:=Bv E X;exact Ju J (v:=a.eval x) (by simp[execOp,g,ev]) ⟨b,hb,ev⟩
  ·rename_i cs X;cases h;cases I;obtain⟨b,off,us,ev,r⟩:=Bv E X;exact AX J (x:=.iptr cs) (v:=a.eval x) (by simp[execOp,g,ev]) ⟨b,off,us,ev,r⟩ []
  ·cases h
 ·rename_i c g;obtain⟨callee,args,ts⟩:=c;simp only at h;split at h
  ·split at h
   ·rename_i x Y;split at h
    ·rename_i t a6;unfold jL at h;split at h
     ·rename_i el hu;exact wM J E hu g Y a6 h I
     ·rename_i kt vt hu;split at h
      ·rename_i k X;split at h
       ·rename_i T l hk;cases h;obtain⟨hb,rfl⟩:=Bu I;obtain⟨b,hp,ev⟩:AQ w O μ (.mref k) (a.eval x):=Bv E X;obtain⟨b',es,cl,aw,hc,ha⟩:=J.heap k _ hk;rw[hp] at aw;cases aw;have ae:es.size=l.length:=by rw[<-Qat,<-ha.length]
        have hg:(getObj b).run C.P w=.ok (.map es cl) w:=by simp[getObj,Sem.run,hc]
        have Z:args=#[x]:=by rw[<-Qcf (xs:=args),Y]
        have aa:ts=#[t]:=by rw[<-Qcf (xs:=ts),a6]
        subst Z;subst aa;unfold leB Aa at hb;simp only[decide_eq_true_eq] at hb;refine AX J (x:=.v (.c (.int .i64 (Aa l)))) (v:=.int .i64 (Aa l)) ?_ ⟨rfl,PE (Qbh (by omega:l.length<=1099511627776) (by decide))⟩ [k];simp[execOp,g,resolve,invoke,builtin,ev,Builtin.len_,run_underlying hu,goInt,Aa,hg,ae]
       ·cases h
      ·cases h
     ·rename_i hu;split at h
      ·rename_i l X;cases h;obtain⟨hb,rfl⟩:leB (Aa l) 1099511627776=true/\e=Eff.c st (.int .i64 (Aa l)):=by
        simp only[AOut.run] at I;split at I
        ·rename_i hb;cases I;exact ⟨hb,rfl⟩
        ·cases I
       obtain⟨s,ex,hs⟩:∃s,a.eval x=.string s/\s.data.toList=l:=Bv E X;have ae:s.size=l.length:=by rw[<-hs];simp
       have Z:args=#[x]:=by rw[<-Qcf (xs:=args),Y]
       have aa:ts=#[t]:=by rw[<-Qcf (xs:=ts),a6]
       subst Z;subst aa;refine Ju J (v:=.int .i64 (Aa l)) ?_ ⟨rfl,?_⟩
       ·simp[execOp,g,resolve,invoke,builtin,ex,Builtin.len_,run_underlying hu,goInt,Aa,ae]
       ·unfold leB Aa at hb;simp only[decide_eq_true_eq] at hb;exact PE (Qbh (by omega:l.length<=1099511627776) (by decide))
      ·cases h
     ·cases h
    ·cases h
   ·cases h
  ·split at h
   ·rename_i s x t t' Y a6;split at h
    ·rename_i ba an;exact gJ J hD E g Y a6 an h I
    ·rename_i kn an;exact bM J hD E g Y a6 an h I
    ·cases h
   ·cases h
  ·split at h
   ·rename_i x t Y a6;split at h
    ·rename_i el X hu;cases h;cases I;obtain⟨ad,ev⟩:∃ad,a.eval x=.slice ad 0 0:=AT E X;have Z:args=#[x]:=by rw[<-Qcf (xs:=args),Y]
     have aa:ts=#[t]:=by rw[<-Qcf (xs:=ts),a6]
     subst Z;subst aa;refine Ju J (v:=.int .i64 0) ?_ ⟨rfl,by decide⟩;simp[execOp,g,resolve,invoke,builtin,ev,Builtin.cap_,run_underlying hu,goInt]
    ·cases h
   ·cases h
  ·split at h
   ·rename_i d s t t' Y a6;exact qY J E g Y a6 h I
   ·cases h
  ·split at h
   ·rename_i k n r a8;have hr:=NN E a8;generalize af:args.toList.map a.eval=us at hr;cases hr with
    |cons h1 h2 =>
     rename_i u ao;obtain⟨e1,hn⟩:=h1;obtain⟨m,eo,hm,a1⟩:=TE (P:=C.P) h h2 hn;subst eo;cases I;refine Ju J (v:=.int k m) ?_ ⟨rfl,hm⟩;have:(args.map a.eval).toList=u::ao:=by simpa using af
     simp only[execOp,g,resolve,Sem.run_bind,Sem.run_pure,Result.andThen_ok,invoke,builtin,Builtin.max_,this];subst e1;simp only[a1,Result.andThen_ok]
   ·cases h
  ·split at h
   ·rename_i k n r a8;have hr:=NN E a8;generalize af:args.toList.map a.eval=us at hr;cases hr with
    |cons h1 h2 =>
     rename_i u ao;obtain⟨e1,hn⟩:=h1;obtain⟨m,eo,hm,a1⟩:=TE (P:=C.P) h h2 hn;subst eo;cases I;refine Ju J (v:=.int k m) ?_ ⟨rfl,hm⟩;have:(args.map a.eval).toList=u::ao:=by simpa using af
     simp only[execOp,g,resolve,Sem.run_bind,Sem.run_pure,Result.andThen_ok,invoke,builtin,Builtin.min_,this];subst e1;simp only[a1,Result.andThen_ok]
   ·cases h
  ·rename_i f;split at h
   ·rename_i vs a8;refine Rl hC J ag (NN E a8) ?_ h I ab;have:args.map a.eval=(args.toList.map a.eval).toArray:=by rw[<-Qgi]
    simp[execOp,g,resolve,Act.eval,Deferred.ofValue,invoke];rw[show args.map a.eval=(args.toList.map a.eval).toArray from this]
   ·cases h
  ·rename_i t;split at h
   ·rename_i f cs vs X a8;obtain⟨us,ev,hr⟩:∃us,a.tmps.getD t undef=.func (.func f) us #[]/\All2 (AQ w O μ) cs us.toList:=E t _ X;have hv:= (by exact (hr.map (R':=Cl w O μ) V1.c λ_ _ h=>h).append (NN E a8));refine Rl hC J ag hv ?_ h I ab;have:args.map a.eval=(args.toList.map a.eval).toArray:=by rw[<-Qgi]
    have aq:a.tmps[t]?.getD undef=.func (.func f) us #[]:=by rw[<-Qao];exact ev
    simp[execOp,g,resolve,Act.eval,Deferred.ofValue,invoke,aq];rw[show args.map a.eval=(args.toList.map a.eval).toArray from this];rw[show us++(args.toList.map a.eval).toArray=(us.toList++args.toList.map a.eval).toArray by simp]
   ·rename_i f vs X a8;obtain⟨us,ev,hr⟩:∃us,a.tmps.getD t undef=.func (.func f) #[] us/\All2 (AQ w O μ) [] us.toList:=E t _ X;have af:us=#[]:=by generalize b8:us.toList=ul at hr;cases hr;exact Array.toList_eq_nil_iff.1 b8
    subst af;refine Rl hC J ag (NN E a8) ?_ h I ab;have:args.map a.eval=(args.toList.map a.eval).toArray:=by rw[<-Qgi]
    have aq:a.tmps[t]?.getD undef=.func (.func f) #[] #[]:=by rw[<-Qao];exact ev
    simp[execOp,g,resolve,Act.eval,Deferred.ofValue,invoke,aq];rw[show args.map a.eval=(args.toList.map a.eval).toArray from this]
   ·cases h
  ·cases h
 ·cases h
end
end Go.Den
namespace Go.Den
open Go.RowKit
theorem Hn {ds s}:∀ {e},assoc (dropSlots ds e) s=if s∈ds then none else assoc e s
 |[]=>by simp[dropSlots,assoc]
 |(t,v)::r=>by
  simp only[dropSlots];split
  ·rename_i h;have c:=any_beq.1 h;rw[Hn,AE]<;>grind
  ·rename_i h;have c:t∉ds:=λd=>by rw[any_beq.2 d] at h;cases h
   rw[AE,AE,Hn]<;>grind
structure Apart (R:RO) (st:St):Prop where
 env:∀s,assoc R.renv s≠none->assoc st.env s=none
 heap:∀k,assoc R.rheap k≠none->assoc st.heap k=none
 next:∀k,assoc R.rheap k≠none->k<st.next
structure Le (R:RO) (st' st:St):Prop where
 env:∀s v,st'.get R s=some v->st.get R s=some v
 obj:∀k o,st'.obj R k=some o->st.obj R k=some o
 next:st.next<=st'.next
theorem free_iff {R d}:free R (some d)=true↔assoc R.renv d=none:=by simp only[free]<;>grind
theorem freeAll_iff {R}:∀ {ds},L3 R ds=true↔∀d∈ds,assoc R.renv d=none
 |[]=>by simp[L3]
 |d::r=>by
  simp only[L3];split
  ·rename_i h;rw[freeAll_iff];simp[free_iff.1 h]
  ·rename_i h;have:¬assoc R.renv d=none:=λe=>by rw[free_iff.2 e] at h;cases h
   simp[this]
variable {R:RO} {st:St}
theorem Fx {d s v}:(st.put (some d) v).get R s=if d=s then v else st.get R s:=by simp only[St.put,St.get,AE]<;>grind
theorem Yo {d v}:(st.put d v).heap=st.heap:=by cases d<;>rfl
theorem CG {d v}:(st.put d v).next=st.next:=by cases d<;>rfl
theorem PI {d v k}:(st.put d v).obj R k=st.obj R k:=by cases d<;>rfl
theorem Qi {ds s} (c:∀d∈ds,assoc R.renv d=none):(st.drop ds).get R s=if s∈ds then none else st.get R s:=by simp only[St.drop,St.get,Hn]<;>grind
theorem Apart.put {d} (h:Apart R st) (g:free R d=true) v:Apart R (st.put d v):=by
 cases d with
 |none=>exact h
 |some d =>refine ⟨λs c=>?_,h.heap,h.next⟩;simp only[St.put,AE];have:¬d=s:=λe=>c (e▸free_iff.1 g);simp[this,h.env s c]
theorem Apart.dropSlots (h:Apart R st) ds c n (d:∀k,assoc R.rheap k≠none->assoc c k=none) (g:st.next<=n):Apart R {env:=Den.dropSlots ds st.env,heap:=c,next:=n}:=by refine ⟨λs o=>?_,d,λk p=>Qac (h.next k p) g⟩;show assoc (Den.dropSlots ds st.env) s=none;rw[Hn];simp[h.env s o]
theorem Apart.drop (h:Apart R st) ds:Apart R (st.drop ds):=h.dropSlots ds st.heap st.next h.heap (Qaa _)
theorem Le.refl R st:Le R st st:=⟨λ_ _ h=>h,λ_ _ h=>h,Qaa _⟩
inductive Shape (st:St) (e:Eff):Prop where
 |still (hu:e.upd=[]) (hn:e.next=st.next)
 |new (o:AObj) (hu:e.upd=[(st.next,some o)]) (hn:e.next=st.next+1)
 |set (k:Nat) (o:AObj) (hu:e.upd=[(k,some o)]) (hk:assoc st.heap k≠none) (hn:e.next=st.next)
 |move (k:Nat) (o:AObj) (hu:e.upd=[(k,none),(st.next,some o)]) (hk:assoc st.heap k≠none) (hn:e.next=st.next+1)
 |news (hu:∀x∈e.upd,x.2≠none/\st.next<=x.1/\x.1<e.next) (hn:st.next<=e.next/\e.next<=st.next+16)
theorem Shape.le {e} (h:Shape st e):st.next<=e.next:=by cases h<;>omega
theorem UI {h ks c k} (d:assoc c k=none):assoc (Ef h ks c) k=none:=by rw[F7];simp[d]
theorem uX {ks s} (c:assoc st.env s=none):assoc (st.frz R ks).env s=none:=by
 cases ks with
 |nil=>exact c
 |cons _ _=>simp only[St.frz,PC,c,Qce]
theorem mU {ks s} (c:assoc st.heap s=none):assoc (st.frz R ks).heap s=none:=by
 cases ks with
 |nil=>exact c
 |cons _ _=>exact UI c
theorem Wh:∀ {u} {h} {k},(∀x∈u,x.1≠k)->assoc (Bw u h) k=assoc h k
 |[],_,_,_=>rfl
 |(j,some o)::u,h,k,c=>by have g:= c (j,some o) (by simp);rw[Bw,Wh λx d=>c x (Qak _ d),AE,if_neg g,Dh,if_neg (Ne.symm g)]
 |(j,none)::u,h,k,c=>by rw[Bw,Wh λx d=>c x (Qak _ d),Dh,if_neg (Ne.symm (c (j,none) (by simp)))]
theorem AbD {own}:∀T {off} {y} {n},(∀x∈(EP own T off y n).2.1,x.2≠none/\n<=x.1/\x.1<(EP own T off y n).2.2)/\n<=(EP own T off y n).2.2/\(EP own T off y n).2.2<=n+T.size:=by
 intro T;induction T with
 |int k=>intro off y n;exact ⟨nofun,Qaa _,Qfj _ _⟩
 |bool=>intro off y n;exact ⟨nofun,Qaa _,Qfj _ _⟩
 |unit=>intro off y n;exact ⟨nofun,Qaa _,Qfj _ _⟩
 |slice t _ =>
  intro off y n;simp only[EP];split
  ·refine ⟨λx g=>?_,Nat.le_succ _,by simp[Ty.size]⟩<;>simp_all
  simp_all
 |pair a b c d =>
  intro off y n;have o:=c (off:=off) (y:=y.1) (n:=n);rcases p:EP own a off y.1 n with ⟨cs,u,m⟩
  rw[p] at o;have E:=d (off:=off+a.size) (y:=y.2) (n:=m);rcases I:EP own b (off+a.size) y.2 m with ⟨ds,v,k⟩
  rw[I] at E;have e:EP own (.pair a b) off y n=(cs++ds,u++v,k):=by simp only[EP,p,I]
  rw[e];obtain⟨J,Y,a3⟩:=o;obtain⟨X,Z,b3⟩:=E;simp only[Ty.size] at *;refine ⟨λx g=>?_,by omega,by omega⟩;rcases List.mem_append.1 g with h|h
  ·have:=J x h;exact ⟨this.1,this.2.1,by omega⟩
  ·have:=X x h;exact ⟨this.1,by omega,this.2.2⟩
theorem Apart.after {d e} (h:Apart R st) (t:free R d=true) (p:Shape st e):Apart R (st.after R d e):=by
 unfold St.after;refine Apart.put (st:={env:=(st.frz R e.frz).env,heap:=Bw e.upd (st.frz R e.frz).heap,next:=e.next}) ⟨λs g=>uX (h.env s g),λk g=>?_,λk g=>Qac (h.next k g) p.le⟩ t e.dst;have h0:=mU (R:=R) (ks:=e.frz) (h.heap k g);have h1:=h.next k g;have y:=h.heap k g;cases p with
 |still c _=>simp only[c,Bw];exact h0
 |new o c _ =>simp only[c,Bw,AE,Dh]<;>grind
 |set k' o c v _ =>simp only[c,Bw,AE,Dh]<;>grind
 |move k' o c v _ =>simp only[c,Bw,AE,Dh]<;>grind
 |news c _=>rw[Wh λx E=>by grind];exact h0
theorem Ck {T o f e} (h:(AOut.opt T o f).run=some e):∃x,o=some x/\e=f x:=by simp only[AOut.run,Qdm] at h<;>grind
theorem Adz {l e} (h:(AOut.alts l).run=some e):∃x∈l,e=x.2:=by
 replace h:Ia l=some e:=h;induction l with
 |nil=>cases h
 |cons x r c =>obtain⟨b,d⟩:=x;simp only[Ia] at h;split at h<;>simp_all
theorem BF {c e} (h:(AOut.ok c).run=some e):e=c:=by cases h;rfl
variable {P:Program}
theorem Za {t k i T l sz v out e} (d:assoc st.heap k=some (.arr T l)) (h:Ho P R st t k i T l sz v=some out) (c:out.run=some e):Shape st e:=by
 unfold Ho at h;repeat' split at h
 all_goals first|cases h|skip
 cases (Bu c).2;exact .set _ _ rfl (by simp[*]) rfl
theorem YU {t out e} (h:Hk P st t=some out) (c:out.run=some e):Shape st e:=by
 unfold Hk at h;repeat' split at h
 all_goals first|cases h|skip
 all_goals (cases BF c;exact .new _ rfl rfl)
theorem lB {t a v out e} (h:GI P R st t a v=some out) (c:out.run=some e):Shape st e:=by
 unfold GI at h;repeat' split at h
 all_goals first|cases h|skip
 ·cases BF c;exact .set _ _ rfl (by simp[*]) rfl
 ·obtain⟨x,_,rfl⟩:=Ck c;exact .set _ _ rfl (by simp[*]) rfl
 ·exact Za (by assumption) h c
theorem qZ {t a out e} (h:Gf P R st t a=some out) (c:out.run=some e):Shape st e/\e.upd=[]/\e.frz=[]:=by
 unfold Gf at h;repeat' split at h
 all_goals first|cases h|skip
 all_goals first
  |(cases BF c;exact ⟨.still rfl rfl,rfl,rfl⟩)
  |(obtain⟨x,_,rfl⟩:=Ck c;exact ⟨.still rfl rfl,rfl,rfl⟩)
theorem wG {op k k' x y out e} (h:Rj st op k x k' y=some out) (c:out.run=some e):Shape st e/\e.upd=[]/\e.frz=[]:=by
 unfold Rj at h;repeat' split at h
 all_goals first|cases h|skip
 all_goals first
  |(cases BF c;exact ⟨.still rfl rfl,rfl,rfl⟩)
  |(cases (Bu c).2;exact ⟨.still rfl rfl,rfl,rfl⟩)
theorem kJ {t ps out e} (h:Mj P st t ps=some out) (c:out.run=some e):Shape st e/\e.upd=[]/\e.frz=[]:=by
 unfold Mj at h;repeat' split at h
 all_goals first|cases h|skip
 all_goals (cases BF c;exact ⟨.still rfl rfl,rfl,rfl⟩)
theorem WS {t n ps out e} (h:ER P R st t n ps=some out) (c:out.run=some e):Shape st e:=by
 unfold ER at h;repeat' split at h
 all_goals first|cases h|skip
 cases BF c;exact .new _ rfl rfl
theorem XR {t l c out e} (h:FC P st t l c=some out) (d:out.run=some e):Shape st e:=by
 unfold FC at h;repeat' split at h
 all_goals first|cases h|skip
 cases (Bu d).2;exact .new _ rfl rfl
theorem YW {t ps out e} (h:Gm P R st t ps=some out) (c:out.run=some e):Shape st e/\e.upd=[]/\e.frz=[]:=by
 unfold Gm at h;repeat' split at h
 all_goals first|cases h|skip
 cases BF c;exact ⟨.still rfl rfl,rfl,rfl⟩
theorem Y2 {t l n out e} (h:Hl P st t l n=some out) (c:out.run=some e):Shape st e/\e.upd=[]/\e.frz=[]:=by
 unfold Hl at h;repeat' split at h
 all_goals first|cases h|skip
 obtain⟨i,f,_,_,rfl⟩:=Ry c;exact ⟨.still rfl rfl,rfl,rfl⟩
theorem YY {t n ps out e} (h:FH P R st t n ps=some out) (c:out.run=some e):Shape st e/\e.upd=[]/\e.frz=[]:=by
 unfold FH at h;repeat' split at h
 all_goals first|cases h|skip
 cases BF c;exact ⟨.still rfl rfl,rfl,rfl⟩
theorem Y4 {t l n out e} (h:Hm P st t l n=some out) (c:out.run=some e):Shape st e/\e.upd=[]/\e.frz=[]:=by
 unfold Hm at h;repeat' split at h
 all_goals first|cases h|skip
 obtain⟨i,f,_,_,rfl⟩:=Tg c;exact ⟨.still rfl rfl,rfl,rfl⟩
theorem bR {t out e} (h:IC P st t=some out) (c:out.run=some e):Shape st e:=by
 unfold IC at h;repeat' split at h
 all_goals first|cases h|skip
 cases BF c;exact .new _ rfl rfl
theorem gK {t m v out e} (h:Jk P R st t m v=some out) (c:out.run=some e):Shape st e/\e.upd=[]/\e.frz=[]:=by
 unfold Jk at h;repeat' split at h
 all_goals first|cases h|skip
 cases BF c;exact ⟨.still rfl rfl,rfl,rfl⟩
theorem gN {t m v b out e} (h:Jl P R st t m v b=some out) (c:out.run=some e):Shape st e:=by
 unfold Jl at h;repeat' split at h
 all_goals first|cases h|skip
 cases BF c;exact .set _ _ rfl (by simp[*]) rfl
theorem XN {t n x out e} (h:FB P st t n x=some out) (c:out.run=some e):Shape st e/\e.upd=[]/\e.frz=[]:=by
 unfold FB at h;repeat' split at h
 all_goals first|cases h|skip
 all_goals (cases BF c;exact ⟨.still rfl rfl,rfl,rfl⟩)
theorem XP {t x n out e} (h:DA P R st t x n=some out) (c:out.run=some e):Shape st e/\e.upd=[]/\e.frz=[]:=by
 unfold DA at h;repeat' split at h
 all_goals first|cases h|skip
 all_goals first
  |(obtain⟨x,_,rfl⟩:=Ck c;exact ⟨.still rfl rfl,rfl,rfl⟩)
  |(obtain⟨x,d,rfl⟩:=Adz c;simp at d;rcases d with rfl|rfl<;>exact ⟨.still rfl rfl,rfl,rfl⟩)
theorem wL {x out e} (h:Rm R st x=some out) (c:out.run=some e):Shape st e/\e.upd=[]/\e.frz=[]:=by
 unfold Rm at h;repeat' split at h
 all_goals first|cases h|skip
 all_goals first
  |(cases BF c;exact ⟨.still rfl rfl,rfl,rfl⟩)
  |(cases (Bu c).2;exact ⟨.still rfl rfl,rfl,rfl⟩)
theorem UG {t x lo hi d out e} (h:D7 P R st t x lo hi d=some out) (c:out.run=some e):Shape st e/\((∀p,lo=none->hi=some p->False)->e.upd=[]/\e.frz=[]):=by
 unfold D7 JI at h;repeat' split at h
 all_goals first|cases h|skip
 all_goals first
  |(cases BF c;exact ⟨.still rfl rfl,λ_=>⟨rfl,rfl⟩⟩)
  |(cases (Bu c).2;exact ⟨.still rfl rfl,λ_=>⟨rfl,rfl⟩⟩)
  |(cases (Bu c).2;exact ⟨.move _ _ rfl (by simp[*]) rfl,λg=>(g _ rfl rfl).elim⟩)
theorem qX {t x y out e} (h:KB P R st t x y=some out) (c:out.run=some e):Shape st e:=by
 unfold KB at h;repeat' split at h
 all_goals first|cases h|skip
 cases BF c;exact .set _ _ rfl (by simp[*]) rfl
theorem bL {t x y out e} (h:D9 P R st t x y=some out) (c:out.run=some e):Shape st e:=by
 unfold D9 at h;repeat' split at h
 all_goals first|cases h|skip
 ·cases (Bu c).2;exact .new _ rfl rfl
 ·cases (Bu c).2;exact .move _ _ rfl (by simp[*]) rfl
theorem OO {g k}:∀ {vs} {acc} {out} {e},EB st g k acc vs=some out->out.run=some e->Shape st e/\e.upd=[]/\e.frz=[]
 |[],acc,out,e,h,d=>by simp only[EB,Qaf] at h;subst h;cases BF d;exact ⟨.still rfl rfl,rfl,rfl⟩
 |.a _::_,acc,out,e,h,d=>by simp[EB] at h
 |.c c::r,acc,out,e,h,d=>by
  cases c<;>simp only[EB,reduceCtorEq] at h;split at h
  ·exact OO h d
  ·cases h
theorem gI {t s x out e} (h:DD P R st t s x=some out) (c:out.run=some e):Shape st e:=by
 unfold DD at h;simp only at h;repeat' split at h
 all_goals first|cases h|skip
 all_goals cases (Bu c).2
 ·exact .new _ rfl rfl
 ·exact .new _ rfl rfl
 ·exact .move _ _ rfl (by simp[*]) rfl
 ·exact .move _ _ rfl (by simp[*]) rfl
theorem resEff_shape {c rd fr res x}:Shape st (DO st c rd fr res x)/\(DO st c rd fr res x).frz=c/\(fr=false->(DO st c rd fr res x).upd=[]):=by
 unfold DO;cases fr with
 |false=>exact ⟨.still rfl rfl,rfl,λ_=>rfl⟩
 |true =>
  simp only;split
  ·exact ⟨.new _ rfl rfl,rfl,λh=>by cases h⟩
  ·exact ⟨.new _ rfl rfl,rfl,λh=>by cases h⟩
  ·exact ⟨.still rfl rfl,rfl,λh=>by cases h⟩
theorem kO {C f vs out e} (h:I5 C R st f vs=some out) (c:out.run=some e):Shape st e:=by
 unfold I5 at h;split at h
 ·split at h
  ·split at h
   ·split at h
    ·cases h;simp only[AOut.run,Qaf] at c;subst c;exact .still rfl rfl
    ·cases h;obtain⟨y,_,rfl⟩:=Ck c;exact .still rfl rfl
   ·cases h
  ·cases h
 ·split at h
  ·rename_i cs d;split at h
   ·split at h
    ·cases h;simp only[AOut.run,Qaf] at c;subst c;exact .set _ _ rfl (by simp_all) rfl
    ·cases h;obtain⟨y,_,rfl⟩:=Ck c;exact .set _ _ rfl (by simp_all) rfl
   ·cases h
  ·cases h
 ·cases h
theorem kL {C f vs out e} (h:H9 C R st f vs=some out) (c:out.run=some e):Shape st e:=by
 unfold H9 at h;split at h
 ·split at h
  ·split at h
   ·split at h
    ·cases h;simp only[AOut.run,Qaf] at c;subst c;exact .new _ rfl rfl
    ·cases h;obtain⟨y,_,rfl⟩:=Ck c;exact .new _ rfl rfl
   ·split at h
    ·rename_i d _ _;split at h
     ·split at h
      ·cases h;simp only[AOut.run,Qaf] at c;subst c;exact .move _ _ rfl (by rw[d];simp) rfl
      ·cases h;obtain⟨y,_,rfl⟩:=Ck c;exact .move _ _ rfl (by rw[d];simp) rfl
     ·cases h
    ·cases h
   ·cases h
  ·cases h
 ·split at h
  ·split at h
   ·cases h;obtain⟨y,_,rfl⟩:=Ck c;exact .still rfl rfl
   ·cases h
  ·cases h
 ·cases h
theorem kS {C f vs out e} (h:Ml C R st f vs=some out) (d:out.run=some e):Shape st e:=by
 unfold Ml at h;split at h
 ·rename_i v t own fn g;split at h
  ·rename_i x ks E c;have c:=Qbe c;cases h;obtain⟨y,_,rfl⟩:=Ck d;obtain⟨h1,o,p⟩:=AbD t;exact .news h1 ⟨o,Qbh p (by omega)⟩
  ·cases h
 ·cases h
theorem kQ {C f vs out e} (h:Mk C R st f vs=some out) (c:out.run=some e):Shape st e:=by
 unfold Mk at h;repeat' split at h
 all_goals first|cases h|skip
 obtain⟨y,_,rfl⟩:=Ck c;exact .still rfl rfl
theorem Rk {C f vs out e} (h:KA C R st f vs=some out) (d:out.run=some e) :
 Shape st e/\∀sp,C.tbl f=some sp->sp.fresh=false->sp.res.any Ty.hasSl=false->e.upd=[]/\e.frz=[]:=by
 unfold KA at h;split at h
 ·rename_i v;refine ⟨?_,λsp g=>by simp_all⟩;split at h
  ·split at h
   ·split at h
    ·exact kO h d
    ·exact kQ h d
   ·exact kS h d
  ·exact kL h d
 rename_i sp g;split at h
 ·cases h
 rename_i x ks E;have key:∃y,e=DO st (match sp.res.any Ty.hasSl&&!JX sp with|true=>ks|false=>[]) ks sp.fresh sp.res y:=by
  simp only at h;split at h
  ·cases h;simp only[AOut.run,Qaf] at d<;>grind
  ·cases h;obtain⟨y,_,rfl⟩:=Ck d<;>grind
 obtain⟨y,rfl⟩:=key;refine ⟨resEff_shape.1,λo c p t=>?_⟩;rw[g] at c;cases c;exact ⟨resEff_shape.2.2 p,by rw[resEff_shape.2.1,t,Qee]⟩
theorem Iu {C o out e} (h:aop C R st o=some out) (g:out.run=some e):Shape st e/\(BT C o=true->e.upd=[]/\e.frz=[]):=by
 have pure:∀ {J:Eff},out=.ok J->J.upd=[]->J.frz=[]->J.next=st.next->Shape st e/\(BT C o=true->e.upd=[]/\e.frz=[]):=λ{J} v h1 I Z=>by subst v;cases BF g;exact ⟨.still h1 Z,λ_=>⟨h1,I⟩⟩
 have still:Shape st e/\e.upd=[]/\e.frz=[]->Shape st e/\(BT C o=true->e.upd=[]/\e.frz=[]):=λh=>⟨h.1,λ_=>h.2⟩;have d:Shape st e->BT C o=false->Shape st e/\(BT C o=true->e.upd=[]/\e.frz=[]):=λh1 I=>⟨h1,λZ=>by simp_all⟩;unfold aop at h;simp only at h;split at h
 ·grind
 ·grind
 ·grind
 ·rename_i v;exact d (YU h g) (by simp[BT,v])
 ·rename_i v;split at h
  ·cases h;cases BF g;exact d (.new _ rfl rfl) (by simp[BT,v])
  ·cases h
 ·split at h
  ·exact still (kJ h g)
  ·exact still (YW h g)
 ·rename_i v;split at h
  ·exact d (WS h g) (by simp[BT,v])
  ·exact still (YY h g)
 ·rename_i v;exact d (bR h g) (by simp[BT,v])
 ·split at h
  ·exact still (gK h g)
  ·cases h
 ·rename_i v;split at h
  ·exact d (gN h g) (by simp[BT,v])
  ·cases h
 ·exact still (qZ h g)
 ·rename_i v;split at h
  ·exact d (lB h g) (by simp[BT,v])
  ·cases h
 ·split at h
  ·exact still (wG h g)
  ·split at h
   ·cases h;exact pure rfl rfl rfl rfl
   ·cases h;exact pure rfl rfl rfl rfl
   ·cases h
  ·split at h
   ·split at h
    ·cases h;exact pure rfl rfl rfl rfl
    ·cases h;exact pure rfl rfl rfl rfl
    ·cases h
   ·cases h
  ·split at h
   ·cases h;exact pure rfl rfl rfl rfl
   ·cases h;exact pure rfl rfl rfl rfl
   ·cases h
  ·split at h
   ·cases h;exact pure rfl rfl rfl rfl
   ·cases h;exact pure rfl rfl rfl rfl
   ·cases h
  ·cases h
 ·split at h
  ·cases h;exact pure rfl rfl rfl rfl
  ·cases h;exact pure rfl rfl rfl rfl
  ·cases h;exact pure rfl rfl rfl rfl
  ·cases h
 ·split at h
  ·cases h;exact pure rfl rfl rfl rfl
  ·split at h
   ·split at h
    ·cases h;exact pure rfl rfl rfl rfl
    ·cases h;exact pure rfl rfl rfl rfl
    ·split at h
     ·cases h;exact pure rfl rfl rfl rfl
     ·cases h
    ·cases h
   ·cases h
  ·cases h
 ·split at h
  ·cases h;exact pure rfl rfl rfl rfl
  ·split at h
   ·cases h;exact pure rfl rfl rfl rfl
   ·cases h
  ·cases h
 ·rename_i v;split at h
  ·exact d (XR h g) (by simp[BT,v])
  ·cases h
 ·rename_i t x lo hi mx v;refine ⟨(UG h g).1,λE=>(UG h g).2 λp h1 I=>?_⟩;subst h1;subst I;simp[BT,v] at E
 ·exact still (XN h g)
 ·split at h
  ·split at h
   ·cases h;exact pure rfl rfl rfl rfl
   ·cases h
  ·cases h
 ·split at h
  ·split at h
   ·exact still (Y4 h g)
   ·exact still (XP h g)
  ·cases h
 ·split at h
  ·cases h;obtain⟨x,_,rfl⟩:=Ck g;exact still ⟨.still rfl rfl,rfl,rfl⟩
  ·exact still (Y2 h g)
  ·cases h
 ·split at h
  ·split at h
   ·cases h;exact pure rfl rfl rfl rfl
   ·cases h
  ·cases h
 ·split at h
  ·cases h;exact pure rfl rfl rfl rfl
  ·cases h;exact pure rfl rfl rfl rfl
  ·cases h
 ·rename_i c v;split at h
  ·split at h
   ·split at h
    ·unfold jL at h;split at h
     ·exact still (wL h g)
     ·split at h
      ·split at h
       ·cases h;cases (Bu g).2;exact still ⟨.still rfl rfl,rfl,rfl⟩
       ·cases h
      ·cases h
     ·split at h
      ·cases h;simp only[AOut.run] at g;split at g
       ·cases g;exact still ⟨.still rfl rfl,rfl,rfl⟩
       ·cases g
      ·cases h
     ·cases h
    ·cases h
   ·cases h
  ·rename_i y;split at h
   ·split at h
    ·exact d (gI h g) (by simp[BT,v,y])
    ·exact d (bL h g) (by simp[BT,v,y])
    ·cases h
   ·cases h
  ·rename_i y;split at h
   ·split at h
    ·cases h;exact pure rfl rfl rfl rfl
    ·cases h
   ·cases h
  ·rename_i y;split at h
   ·exact d (qX h g) (by simp[BT,v,y])
   ·cases h
  ·split at h
   ·exact still (OO h g)
   ·cases h
  ·split at h
   ·exact still (OO h g)
   ·cases h
  ·rename_i f y;split at h
   ·obtain⟨h1,I⟩:=Rk h g;refine ⟨h1,λE=>?_⟩;simp only[BT,v,y] at E;split at E
    ·rename_i sp X a1;split at E
     ·rename_i hf Y;exact I sp X hf Y
     ·cases E
    ·cases E
   ·cases h
  ·rename_i t y;split at h
   ·exact d (Rk h g).1 (by simp[BT,v,y])
   ·exact d (Rk h g).1 (by simp[BT,v,y])
   ·cases h
  ·cases h
 ·cases h
end Go.Den
namespace Go.Den
open Go.RowKit
theorem uQ {a b} (h:Bool.beq' a b=true):a=b:=by cases a<;>cases b<;>first|rfl|cases h
theorem pL {a b} (h:Gz a b=true):a=b:=by
 cases a with
 |none=>cases b<;>simp_all[Gz]
 |some x=>cases b with
  |none=>simp[Gz] at h
  |some y =>simp only[Gz,Qab] at h;obtain⟨i,p⟩:=x;obtain⟨j,q⟩:=y;have h1:= beq_true h.1;have c:= uQ h.2<;>simp_all
def Told (R:RO) (ops:List Oper) (st:St) (o:Oper):Bool->Prop
 |true=>o.guard=none\/∃j w g,o.guard=some (j,w)/\Fc ops j=some g/\st.get R g=some (.v (.c (.bool w)))
 |false=>∃j w g,o.guard=some (j,w)/\Fc ops j=some g/\(st.get R g=some (.v (.c (.bool !w)))\/st.get R g=some .undef)
structure XK {A:Type} (C:Ctx) (R:RO) (ops:List Oper) (inl:Gc) (Good:A->Prop) (bad:A) (T:Nat->St->Prop):Prop where
 weak:∀i st st',Le R st' st->T i st'->T i st
 op:∀i st o out e,ops[i]?=some o->Told R ops st o true->aop C R st o=some out->out.run=some e->JD R e=true->free R o.dst=true->T (i+1) (st.after R o.dst e)->T i st
 skip:∀i st o,ops[i]?=some o->Told R ops st o false->free R o.dst=true->T (i+1) (st.put o.dst (some .undef))->T i st
 inl:∀i st o I vs (K:Option AVal->H4->Nat->A),ops[i]?=some o->Told R ops st o true->inlined C R st o=some (I,vs)->free R o.dst=true->Apart R st ->
  Good (inl R I vs st.heap st.next K bad)->(∀v h nx,(∀k,assoc R.rheap k≠none->assoc h k=none/\k<nx)->Good (K v h nx)->T (i+1) (St.put {st with heap:=h,next:=nx} o.dst v))->T i st
theorem KT {g}:∀ {l d t} {p} {a b},L9 g l=some (d,p,a,b,t)->l=d++p::t/\p.op=.pick (.tmp g) a b
 |[],d,t,p,a,b,h=>by simp[L9] at h
 |o::r,d,t,p,a,b,h=>by
  simp only[L9] at h;split at h
  ·rename_i I J v;simp only[Qaf,Qcv] at h;obtain⟨rfl,rfl,rfl,rfl,rfl⟩:=h;refine ⟨rfl,?_⟩;unfold Aa4 at v;split at v
   ·rename_i c X Y Z;split at v<;>simp_all
   ·cases v
  ·split at h
   ·rename_i y q E;simp only[Qaf,Qcv] at h;obtain⟨rfl,rfl⟩:=h;obtain⟨h1,h2⟩:=KT E<;>simp_all
   ·cases h
theorem Xc {A bad R d x K} {Good:A->Prop} (hbad:¬Good bad) (h:Good (Qd R d x K bad)) :
 free R d=true/\∃out e,x=some out/\out.run=some e/\Good (K e):=by
 unfold Qd at h;split at h
 ·exact absurd h hbad
 ·rename_i c;refine ⟨c,?_⟩;split at h
  ·exact absurd h hbad
  ·exact ⟨_,_,rfl,rfl,h⟩
  ·rename_i b e;cases b with
   |true=>exact ⟨_,_,rfl,rfl,h⟩
   |false=>exact absurd h hbad
  ·exact ⟨_,_,rfl,rfl,h⟩
  ·rename_i o f;unfold Ad at h;split at h
   ·exact absurd h hbad
   ·exact ⟨_,_,rfl,rfl,h⟩
  ·rename_i l;suffices ∃e,Ia l=some e/\Good (K e) from let ⟨e,h1,g⟩:=this;⟨_,e,rfl,h1,g⟩;induction l with
   |nil=>exact absurd h hbad
   |cons x r p =>
    obtain⟨b,t⟩:=x;cases b with
    |true=>exact ⟨t,rfl,h⟩
    |false=>exact p h
theorem zU {A bad R st d e K} {Good:A->Prop} (hbad:¬Good bad) (h:Good (zT R st d e K bad)):JD R e=true/\Good (K (st.after R d e)):=by unfold zT at h<;>grind
theorem Abl {c want a b x y} (d:isFalse b=true->y=false) (g:isTrue a=true->x=true):VJ c want a b x y=cnd c x y:=by
 unfold VJ;cases h1:isFalse b with
 |true =>have:=d h1;subst this;cases want<;>cases c<;>simp[C5,cnd,hi2,hi1]
 |false =>
  cases h:isTrue a with
  |true =>have:=g h;subst this;cases want<;>cases c<;>simp[bOr,cnd,hi2,hi1]
  |false=>rfl
theorem Abx {R st b y} (h:opc R st b=some (.bool y)) (c:isFalse b=true):y=false:=by
 unfold isFalse at c;split at c
 ·simp[opc,opv,P4,cellOf] at h<;>simp_all
 ·cases c
theorem Adh {R st b y} (h:opc R st b=some (.bool y)) (c:isTrue b=true):y=true:=by
 unfold isTrue at c;split at c
 ·simp[opc,opv,P4,cellOf] at h<;>simp_all
 ·cases c
theorem TH {R st x c} (h:opc R st x=some c):opv R st x=some (.v (.c c)):=by unfold opc at h<;>grind
theorem Abz {R st' st x v} (d:∀s v,st'.get R s=some v->st.get R s=some v) (h:opv R st' x=some v):opv R st x=some v:=by
 cases x with
 |tmp t=>exact d t v h
 |const c=>exact h
 |func f=>exact h
 |global g=>exact h
theorem Aby {R st' st x c} (d:∀s v,st'.get R s=some v->st.get R s=some v) (h:opc R st' x=some c):opc R st x=some c:=by have:=Abz d (TH h);simp[opc,this]
theorem dZ {R d v} {st:St}:st.after R d {dst:=v,next:=st.next}=st.put d v:=rfl
section
variable {A:Type} {C:Ctx} {R:RO} {ops:List Oper} {inl:Gc} {Good:A->Prop} {bad:A} {T:Nat->St->Prop}
theorem V4 (hT:XK C R ops inl Good bad T) {g:Nat} {want:Bool}:∀ {bl:List Oper} {seen:List Nat} {i:Nat} {st:St},aC ops g want seen bl=true ->
 (∀k o,bl[k]?=some o->ops[i+k]?=some o)->(∀d∈dsts bl,assoc R.renv d=none)->(dsts bl).any (Nat.beq g)=false ->
 (∀s∈seen,st.get R s=some .undef)->st.get R g=some (.v (.c (.bool !want))) ->
 ∃st',(T (i+bl.length) st'->T i st)/\(∀s,s∉dsts bl->st'.get R s=st.get R s)/\st'.heap=st.heap/\st'.next=st.next
 |[],seen,i,st,_,_,_,_,_,_=>⟨st,λh=>h,λ_ _=>rfl,rfl,rfl⟩
 |o::r,seen,i,st,h,J,E,hg,p,X=>by
  simp only[aC] at h;split at h
  ·cases h
  rename_i j w a7;split at h
  ·cases h
  rename_i g' a1;split at h
  ·rename_i a8;have Y:Told R ops st o false:=by
    refine ⟨j,w,g',a7,a1,?_⟩;rcases (Bool.or_eq_true_iff ..).1 a8 with t|t
    ·exact .inr (p g' (any_beq.1 t))
    ·simp only[Qab] at t;have e1:=beq_true t.1;have e2:=uQ t.2;subst e1;subst e2;exact .inl X
   have aa:free R o.dst=true:=by
    cases y:o.dst with
    |none=>rfl
    |some d=>exact free_iff.2 (E d (by simp[dsts,y]))
   have Z:∀k o',r[k]?=some o'->ops[i+1+k]?=some o':=λk o' hk=>by have:=J (k+1) o' (by simpa using hk);rwa [show i+(k+1)=i+1+k by omega] at this
   have I:∀d∈dsts r,d∈dsts (o::r):=λd y=>by
    simp only[dsts];split
    ·exact Qak _ y
    ·exact y
   have ab:(dsts r).any (Nat.beq g)=false:=by
    cases hb:(dsts r).any (Nat.beq g) with
    |false=>rfl
    |true =>have:=any_beq.2 (I g (any_beq.1 hb));rw[hg] at this;cases this
   have a6:∀d,o.dst=some d->d≠g:=λd y e=>by
    have:g∈dsts (o::r):=by simp[dsts,y,e]
    rw[any_beq.2 this] at hg;cases hg
   obtain⟨st',h1,h2,h3,h4⟩:=V4 hT (i:=i+1) (st:=st.put o.dst (some .undef)) h Z (λd y=>E d (I d y)) ab
    λs t=>by
      cases y:o.dst with
      |none=>rw[y] at t;exact p s t
      |some d =>
       rw[y] at t;rw[Fx];split
       ·rfl
       ·rename_i ad;rcases List.mem_cons.1 t with e|t
        ·exact absurd e.symm ad
        ·exact p s t
    (by
      cases y:o.dst with
      |none=>exact X
      |some d=>rw[Fx,if_neg (a6 d y)];exact X);refine ⟨st',λht=>hT.skip i st o (J 0 o rfl) Y aa (h1 ?_),λs t=>?_,h3.trans Yo,h4.trans CG⟩
   ·rw[Qay] at ht;rwa [show i+(r.length+1)=i+1+r.length by omega] at ht
   ·rw[h2 s λhm=>t (I s hm)];cases y:o.dst with
    |none=>rfl
    |some d =>rw[Fx,if_neg];exact λe=>t (by simp[dsts,y,e])
  ·cases h
def Cur (R:RO) (ops:List Oper) (cur:Option (Nat×Bool)) (ds:List Nat) (st:St):Prop :=
 match cur with
 |none=>True
 |some (j,w)=>∃g,Fc ops j=some g/\st.get R g=some (.v (.c (.bool w)))/\g∉ds
def Hold (R:RO) (ds:List Nat) (st st':St):Prop:=∀s,s∉ds->∀b,st.get R s=some (.v (.c (.bool b)))->st'.get R s=some (.v (.c (.bool b)))
theorem Cur.told {cur ds st o} (h:Cur R ops cur ds st) (d:Gz o.guard cur=true):Told R ops st o true:=by
 have e:=pL d;cases c:cur with
 |none=>exact .inl (e.trans c)
 |some x =>subst c;obtain⟨g,h1,p,_⟩:=h;exact .inr ⟨_,_,g,e,h1,p⟩
theorem Cur.hold {cur ds ds' st st' es} (h:Cur R ops cur ds st) (p:∀d∈ds',d∈ds) (t:∀d∈es,d∈ds) (v:Hold R es st st'):Cur R ops cur ds' st':=by
 cases y:cur with
 |none=>trivial
 |some x =>subst y;obtain⟨g,h1,E,o⟩:=h;exact ⟨g,h1,v g (λc=>o (t g c)) _ E,λc=>o (p g c)⟩
theorem mT {ks s b} {st:St} (h:st.get R s=some (.v (.c (.bool b)))) e d n (g:e=(st.frz R ks).env):({env:=e,heap:=d,next:=n}:St).get R s=some (.v (.c (.bool b))):=by
 subst g;cases ks with
 |nil=>exact h
 |cons k ks =>
  simp only[St.frz,St.get,PC] at h ⊢;cases o:assoc st.env s with
  |none=>simp_all
  |some v=>rw[o] at h;simp only at h;subst h;rfl
theorem ZH {st d e}:Hold R d.toList st (st.after R d e):=λs g b c=>by
 unfold St.after;cases d with
 |none=>exact mT c _ _ _ rfl
 |some d =>rw[Fx,if_neg λe=>g (by simp[e])];exact mT c _ _ _ rfl
theorem Gp {o r}:dsts (o::r)=o.dst.toList++dsts r:=by simp only[dsts]<;>grind
theorem Jo {l m}:dsts (l++m)=dsts l++dsts m:=by
 induction l with
 |nil=>rfl
 |cons o r c=>rw[Qbs,Gp,Gp,c,Qaq]
end
end Go.Den
namespace Go.Den
open Go.RowKit
section
variable {A:Type} {C:Ctx} {R:RO} {ops:List Oper} {inl:Gc} {Good:A->Prop} {bad:A} {T:Nat->St->Prop}
structure Kept (R:RO) (ds:List Nat) (st st1:St):Prop where
 env:∀s,s∉ds->st1.get R s=st.get R s
 obj:∀k o,st.obj R k=some o->st1.obj R k=some o
 next:st.next<=st1.next
theorem Kept.refl ds st:Kept R ds st st:=⟨λ_ _=>rfl,λ_ _ h=>h,Qaa _⟩
theorem Kept.trans {ds es st st1 c} (h:Kept R ds st st1) (h':Kept R es st1 c):Kept R (ds++es) st c :=
 ⟨λs d=>by simp only[Qck,not_or] at d;rw[h'.env s d.2,h.env s d.1],λk o g=>h'.obj k o (h.obj k o g),Qbh h.next h'.next⟩
theorem kept_put {st d v}:Kept R d.toList st (st.put d v) :=
 ⟨λs c=>by
   cases d with
   |none=>rfl
   |some d=>rw[Fx,if_neg λe=>c (by simp[e])],λk o g=>by rw[PI];exact g,by rw[CG]<;>omega⟩
theorem yD {st d e} (h:e.frz=[]) (c:Sz R st e.upd=true) (p:st.next<=e.next):Kept R d.toList st (st.after R d e):=by
 unfold St.after;rw[h];refine Kept.trans (ds:=[]) (st1:={env:=st.env,heap:=Bw e.upd st.heap,next:=e.next}) ⟨λ_ _=>rfl,λk o t=>?_,p⟩ kept_put;unfold Sz at c;split at c
 ·rename_i g;rw[g];exact t
 ·rename_i k' o' g;rw[g];simp only[Bw];rw[Dv]<;>grind
 ·cases c
theorem Abw {e} (c:e.frz=[]):JD R e=true:=by simp[JD,c]
theorem Mq {g want c} (h:Sk R ops g want c=true):aC ops g want [] c=true/\(dsts c).any (Nat.beq g)=false/\∀d∈dsts c,assoc R.renv d=none:=by
 unfold Sk at h;split at h
 ·rename_i h1 o p;exact ⟨h1,o,freeAll_iff.1 p⟩
 ·cases h
theorem PH {g} {ds:List Nat} (h:ds.any (Nat.beq g)=false):g∉ds:=λc=>by rw[any_beq.2 c] at h;cases h
theorem Tn {g d v} {st st1:St} (c:∀x∈dsts g,assoc R.renv x=none) (h:st.next<=st1.next) :
 Kept R (dsts g++d.toList) st (St.put {env:=dropSlots (dsts g) st.env,heap:=st.heap,next:=st1.next} d v):=by refine Kept.trans (st1:={env:=dropSlots (dsts g) st.env,heap:=st.heap,next:=st1.next}) ⟨λs p=>?_,λk o t=>t,h⟩ kept_put;have:=Qi (st:=st) c (s:=s);rw[if_neg p] at this;exact this
theorem Lh:∀ {n} {cur} {l} {st st1},GZ C R ops n cur l st=some st1->Apart R st->Kept R (dsts l) st st1/\Apart R st1
 |0,_,_,_,_,h,_=>by simp[GZ] at h
 |n+1,cur,[],st,st1,h,d=>by simp[GZ] at h;subst h;exact ⟨.refl _ _,d⟩
 |n+1,cur,o::r,st,st1,h,d=>by
  simp only[GZ] at h;have one:∀ {e:Eff} {out:AOut},aop C R st o=some out->out.run=some e->free R o.dst=true->e.frz=[]->Sz R st e.upd=true->GZ C R ops n cur r (st.after R o.dst e)=some st1->Kept R (dsts (o::r)) st st1/\Apart R st1:=λE hr I h1 t X=>by have hs:=(Iu E hr).1;obtain⟨k1,Y⟩:=Lh X (d.after I hs);rw[Gp];exact ⟨(yD h1 t hs.le).trans k1,Y⟩
  split at h
  ·split at h
   ·rename_i e E I;split at h
    ·rename_i h1 t;exact one E rfl I h1 t h
    ·cases h
   ·rename_i Tt x f E I;split at h
    ·rename_i h1 t;exact one E rfl I h1 t h
    ·cases h
   ·cases h
  ·split at h
   ·cases h
   rename_i j want a8;split at h
   ·cases h
   rename_i g a7;split at h
   ·rename_i c bl p a b r' hg Z;split at h
    ·rename_i a1 J t aa a6;split at h
     ·rename_i x y hx hy;obtain⟨X,_⟩:=KT Z;obtain⟨_,_,v⟩:=Mq J;obtain⟨k1,_⟩:=Lh t d;obtain⟨Y,k3⟩:=Lh h ((d.dropSlots (dsts bl) st.heap a1.next d.heap k1.next).put a6 _);refine ⟨?_,k3⟩;rw[X,Jo,Gp];have:=(Tn v k1.next).trans Y;rwa [Qaq] at this
     ·cases h
    ·cases h
   ·cases h
theorem eD (hT:XK C R ops inl Good bad T) {i g:Nat} {want c:Bool} {st st1:St} {E r':List Oper} {p:Oper} {a b:Operand} {x y:Bool} {cur:Option (Nat×Bool)}
 (Z:∀k o,(E++p::r')[k]?=some o->ops[i+k]?=some o) (hg:st.get R g=some (.v (.c (.bool c)))) (a7:Sk R ops g want E=true) (hp:p.op=.pick (.tmp g) a b) (ah:Gz p.guard cur=true) (ai:free R p.dst=true)
 (a8:Cur R ops cur (dsts (E++p::r')) st) (aa:c=want->T (i+E.length) st1->T i st) (hk:Kept R (dsts E) st st1)
 (hx:opc R (match (generalizing:=false) want with|true=>st1|false=>st.drop (dsts E)) a=some (.bool x)) (hy:opc R (match (generalizing:=false) want with|true=>st.drop (dsts E)|false=>st1) b=some (.bool y))
 (ht:T (i+(E.length+1)) (St.put {env:=dropSlots (dsts E) st.env,heap:=st.heap,next:=st1.next} p.dst (some (.v (.c (.bool (VJ c want a b x y))))))):T i st:=by
 obtain⟨aj,ab,X⟩:=Mq a7;rw[Abl (λh=>Abx hy h) λh=>Adh hx h] at ht;have ak:ops[i+E.length]?=some p:=Z E.length p (by simp);have ad:∀s v,(st.drop (dsts E)).get R s=some v->s∉dsts E/\st.get R s=some v:=λs v h=>by
  rw[Qi X] at h;split at h
  ·cases h
  ·rename_i J;exact ⟨J,h⟩
 have pick:∀t:St,Kept R (dsts E) st t->t.next<=st1.next->∀z,opc R t (match c with|true=>a|false=>b)=some (.bool z)->cnd c x y=z->T (i+E.length) t:=λt I hn z hz he=>by
  have al:t.get R g=some (.v (.c (.bool c))):=by rw[I.env g (PH ab)];exact hg
  have a6:Told R ops t p true:=by refine (a8.hold (ds':=[]) (es:=dsts E) (λd hd=>by cases hd) (λd hd=>by rw[Jo];exact Qah _ hd) λs J b' hb=>?_).told ah;rw[I.env s J];exact hb
  refine hT.op _ t p (.ok {dst:=some (.v (.c (.bool z))),next:=t.next}) _ ak a6 ?_ rfl rfl ai ?_
  ·have h1:opc R t (.tmp g)=some (.bool c):=by simp[opc,opv,al]
   have Y:=TH hz;cases c<;>simp only at Y<;>simp[aop,hp,h1,Y]
  ·rw[dZ];refine hT.weak _ _ _ ⟨λs v J=>?_,λk o ho=>?_,?_⟩ ht
   ·rw[he] at J;have hd:=λs v (h:({env:=dropSlots (dsts E) st.env,heap:=st.heap,next:=st1.next}:St).get R s=some v)=>ad s v h;cases ae:p.dst with
    |none=>rw[ae] at J;obtain⟨h1,Y⟩:=hd s v J;show t.get R s=some v;rw[I.env s h1];exact Y
    |some d =>
     rw[ae,Fx] at J;rw[Fx];split at J
     ·rename_i e;rw[if_pos e];exact J
     ·rename_i e;rw[if_neg e];obtain⟨h1,Y⟩:=hd s v J;rw[I.env s h1];exact Y
   ·rw[PI] at ho ⊢;exact I.obj k o ho
   ·rw[CG,CG];exact hn
 by_cases af:c=want
 ·refine aa af (pick st1 hk (Qaa _) (cnd c x y) ?_ rfl);subst af;cases c with
  |true=>exact hx
  |false=>exact hy
 ·have a1:c=!want:=by cases c<;>cases want<;>simp_all
  obtain⟨t,h1,Y,h3,h4⟩:=V4 hT (i:=i) (st:=st) aj (λk o hk=>Z k o (by rw[Qdc (List.getElem?_eq_some_iff.1 hk).1];exact hk)) X ab (λs J=>by cases J) (by rw[hg,a1]);have I:Kept R (dsts E) st t:=⟨Y,λk o ho=>by simpa[St.obj,h3] using ho,by rw[h4];exact Qaa _⟩;refine h1 (pick t I (by rw[h4];exact hk.next) (cnd c x y) ?_ rfl);have ag:∀s v,(st.drop (dsts E)).get R s=some v->t.get R s=some v:=λs v h=>by obtain⟨h5,h6⟩:=ad s v h;rw[Y s h5];exact h6
  subst a1;cases want with
  |true=>exact Aby ag hy
  |false=>exact Aby ag hx
theorem oP {o r i} (h:∀k o',(o::r)[k]?=some o'->ops[i+k]?=some o'):∀k o',r[k]?=some o'->ops[i+1+k]?=some o':=λk o' c=>by have:=h (k+1) o' (by simpa using c)<;>grind
theorem fH {c r p i} (h:∀k o',(c++p::r)[k]?=some o'->ops[i+k]?=some o'):∀k o',r[k]?=some o'->ops[i+(c.length+1)+k]?=some o':=λk o' d=>by have:=h (c.length+1+k) o' (by grind)<;>grind
theorem Q6 {c r p} {i:Nat} (h:∀k o',(c++p::r)[k]?=some o'->ops[i+k]?=some o'):∀k o',c[k]?=some o'->ops[i+k]?=some o':=λk o' d =>h k o' (by grind)
theorem X5 {st d v}:Hold R d.toList st (st.put d v):=λs c b g=>by rw[kept_put.env s c];exact g
theorem Kept.hold {ds st st1} (h:Kept R ds st st1):Hold R ds st st1:=λs c b d=>by rw[h.env s c];exact d
theorem Hold.trans {ds es st st1 c} (h:Hold R ds st st1) (h':Hold R es st1 c):Hold R (ds++es) st c:=λs d b g=>by simp only[Qck,not_or] at d;exact h' s d.2 b (h s d.1 b g)
theorem Ps (hT:XK C R ops inl Good bad T):∀ {n} {cur} {l} {i} {st st1},GZ C R ops n cur l st=some st1->(∀k o,l[k]?=some o->ops[i+k]?=some o)->Cur R ops cur (dsts l) st->Apart R st ->
 T (i+l.length) st1->T i st
 |0,_,_,_,_,_,h,_,_,_,_=>by simp[GZ] at h
 |n+1,cur,[],i,st,st1,h,_,_,_,ht=>by simp[GZ] at h<;>simp_all
 |n+1,cur,o::r,i,st,st1,h,t,v,E,ht=>by
  simp only[GZ] at h;rw[Qay,show i+(r.length+1)=i+1+r.length by omega] at ht;split at h
  ·rename_i J;have one:∀ {e:Eff} {out:AOut},aop C R st o=some out->out.run=some e->free R o.dst=true->e.frz=[]->GZ C R ops n cur r (st.after R o.dst e)=some st1->T i st:=λ{e out} Z hr hf h1 h3=>by refine hT.op i st o out e (t 0 o rfl) (v.told J) Z hr (Abw h1) hf ?_;refine Ps hT h3 (oP t) ?_ (E.after hf (Iu Z hr).1) ht;rw[Gp] at v;exact v.hold (λd X=>Qan _ X) (λd X=>Qah _ X) ZH
   split at h
   ·rename_i e Z hf;split at h
    ·rename_i h1 h2;exact one Z rfl hf h1 h
    ·cases h
   ·rename_i Tt x f Z hf;split at h
    ·rename_i h1 h2;exact one Z rfl hf h1 h
    ·cases h
   ·cases h
  ·split at h
   ·cases h
   rename_i j want ae;split at h
   ·cases h
   rename_i g a1;split at h
   ·rename_i c bl p a b r' hg a7;split at h
    ·rename_i a8 I h2 J a6;split at h
     ·rename_i x y hx hy;obtain⟨h3,hp⟩:=KT a7;rw[h3] at t v;obtain⟨af,aa,Y⟩:=Mq I;obtain⟨k1,ka⟩:=Lh h2 E;have ad:r.length=bl.length+r'.length:=by have:=congrArg List.length h3;simp at this;omega
      refine eD hT t hg I hp J a6 v (λab=>Ps hT h2 (Q6 t) ⟨g,a1,by rw[hg,ab],PH aa⟩ E) k1 hx hy ?_;refine Ps hT h (fH t) ?_ ((E.dropSlots (dsts bl) st.heap a8.next E.heap k1.next).put a6 _) ?_
      ·refine v.hold (λd X=>by rw[Jo,Gp];exact Qan _ (Qan _ X)) (λd X=>by rw[Jo,Gp,<-Qaq];exact Qah _ X) (Tn Y k1.next).hold
      ·rw[show i+(bl.length+1)+r'.length=i+1+r.length by omega];exact ht
     ·cases h
    ·cases h
   ·cases h
theorem oN (hT:XK C R ops inl Good bad T) {i g:Nat} {c:Bool} {I h:St} {p:Oper} {a b:Operand} {v:AVal} (X:ops[i]?=some p) (Y:h.get R g=some (.v (.c (.bool c)))) (y:Told R ops h p true)
 (hp:p.op=.pick (.tmp g) a b) (Z:free R p.dst=true) (t:Le R I h) (hv:opv R h (match (generalizing:=false) c with|true=>a|false=>b)=some v) (ht:T (i+1) (I.put p.dst (some v))):T i h:=by
 refine hT.op _ h p (.ok {dst:=some v,next:=h.next}) _ X y ?_ rfl rfl Z ?_
 ·have h1:opc R h (.tmp g)=some (.bool c):=by simp[opc,opv,Y]
  cases c<;>simp only at hv<;>simp[aop,hp,h1,hv]
 ·rw[dZ];refine hT.weak _ _ _ ⟨λs u E=>?_,λk o ho=>?_,?_⟩ ht
  ·cases J:p.dst with
   |none=>rw[J] at E;exact t.env s u E
   |some d =>
    rw[J,Fx] at E;rw[Fx];split at E
    ·rename_i e;rw[if_pos e];exact E
    ·rename_i e;rw[if_neg e];exact t.env s u E
  ·rw[PI] at ho ⊢;exact t.obj k o ho
  ·rw[CG,CG];exact t.next
theorem aF {α o} {hbad:¬Good bad} {f:α->A} (h:Good (Rg o bad f)):∃x,o=some x/\Good (f x):=by unfold Rg at h<;>grind
theorem AeD {st ds} (c:∀d∈ds,assoc R.renv d=none):Le R (st.drop ds) st :=
 ⟨λs v g=>by rw[Qi c] at g<;>simp_all,λk o h=>h,Qaa _⟩
theorem OD (hbad:¬Good bad) (hT:XK C R ops inl Good bad T):∀ {n} {cur} {l} {i} {st} {K},(∀k o,l[k]?=some o->ops[i+k]?=some o)->Cur R ops cur (dsts l) st->Apart R st ->
 (∀st',Apart R st'->Hold R (dsts l) st st'->Good (K st')->T (i+l.length) st')->Good (Gh C inl R ops n cur l st K bad)->T i st
 |0,_,_,_,_,_,_,_,_,_,h=>absurd h hbad
 |n+1,cur,[],i,st,K,_,_,X,hK,h=>hK st X (λ_ _ _ h=>h) h
 |n+1,cur,o::r,i,st,K,t,J,X,hK,h=>by
  simp only[Gh] at h;rw[Qay,show i+(r.length+1)=i+1+r.length by omega] at hK;split at h
  ·rename_i a7;have a8:∀ {st1:St},Apart R st1->Hold R o.dst.toList st st1->Good (Gh C inl R ops n cur r st1 K bad)->T (i+1) st1:=λ{st1} ha hh hg=>by rw[Gp] at J;refine OD hbad hT (oP t) (J.hold (λd hd=>Qan _ hd) (λd hd=>Qah _ hd) hh) ha (λst' ah ai aj=>hK st' ah ?_ aj) hg;rw[Gp];exact hh.trans ai
   split at h
   ·rename_i I vs an;split at h
    ·rename_i hf;refine hT.inl i st o I vs _ (t 0 o rfl) (J.told a7) an hf X h λv hp nx h1 hg=>a8 ?_ ?_ hg
     ·exact Apart.put (st:={st with heap:=hp,next:=nx}) ⟨X.env,λk hk=>(h1 k hk).1,λk hk=>(h1 k hk).2⟩ hf v
     ·exact Hold.trans (ds:=[]) (st1:={st with heap:=hp,next:=nx}) (λs _ b hb=>hb) X5
    simp_all
   ·obtain⟨hf,out,e,ha,hr,hg⟩:=Xc hbad h;obtain⟨ar,hg⟩:=zU hbad hg;exact hT.op i st o out e (t 0 o rfl) (J.told a7) ha hr ar hf (a8 (X.after hf (Iu ha hr).1) ZH hg)
  ·split at h
   ·exact absurd h hbad
   rename_i j want b1;split at h
   ·exact absurd h hbad
   rename_i g ae;split at h
   ·rename_i c Z p a b r' hg au;split at h
    ·rename_i af a7 a6;obtain⟨h3,hp⟩:=KT au;rw[h3] at t J;obtain⟨av,aa,Y⟩:=Mq af;have b0:r.length=Z.length+r'.length:=by have:=congrArg List.length h3<;>grind
     have aw:dsts (o::r)=dsts Z++(p.dst.toList++dsts r'):=by rw[h3,Jo,Gp]
     have ao:= t Z.length p (by simp_all);have after:∀ {E:St},Apart R E->Hold R (dsts Z++p.dst.toList) st E->Good (Gh C inl R ops n cur r' E K bad)->T (i+(Z.length+1)) E:=λ{E} ha hh hg=>by refine OD hbad hT (fH t) (J.hold λd hd=>by simp_all λd hd=>by grind hh) ha (λst' ah ai aj=>?_) hg;rw[show i+(Z.length+1)+r'.length=i+1+r.length by omega];refine hK st' ah ?_ aj;rw[aw,<-Qaq];exact hh.trans ai
     split at h
     ·rename_i st1 ag;split at h
      ·rename_i x y hx hy;obtain⟨k1,ka⟩:=Lh ag X;refine eD hT t hg af hp a7 a6 J (λab=>Ps hT ag (Q6 t) ⟨g,ae,by rw[hg,ab],PH aa⟩ X) k1 hx hy ?_;exact after ((X.dropSlots (dsts Z) st.heap st1.next X.heap k1.next).put a6 _) (Tn Y k1.next).hold h
      ·exact absurd h hbad
     ·have told:∀ {E:St},Hold R (dsts Z) st E->Told R ops E p true:=λ{E} hh =>(J.hold (ds':=[]) (λd hd=>by cases hd) (λd hd=>by rw[Jo];exact Qah _ hd) hh).told a7;have ad:∀ {E:St},Hold R (dsts Z) st E->Hold R (dsts Z) st (E.drop (dsts Z)):=λ{E} hh s hs b hb=>by rw[Qi Y,if_neg hs];exact hh s hs b hb
      have taken:∀x,c=want->(match (generalizing:=false) c with|true=>a|false=>b)=x->Good (Gh C inl R ops n (some (j,want)) Z st (λst1=>Rg (opv R st1 x) bad λv=>Gh C inl R ops n cur r' (St.put (st1.drop (dsts Z)) p.dst (some v)) K bad) bad)->T i st:=λx ab hx h=>by refine OD hbad hT (cur:=some (j,want)) (Q6 t) ⟨g,ae,by rw[hg,ab],PH aa⟩ X (λst1 ax ak ay=>?_) h;obtain⟨v,hv,al⟩:=aF (hbad:=hbad) ay;refine oN hT ao (ak g (PH aa) c hg) (told ak) hp a6 (AeD Y) (by rw[hx];exact hv) ?_;exact after ((ax.drop _).put a6 _) ((ad ak).trans X5) al
      have a1:∀x,c=!want->(match (generalizing:=false) c with|true=>a|false=>b)=x->Good (Rg (opv R (st.drop (dsts Z)) x) bad λv=>Gh C inl R ops n cur r' (St.put (st.drop (dsts Z)) p.dst (some v)) K bad)->T i st:=λx ab hx h=>by
       obtain⟨v,hv,al⟩:=aF (hbad:=hbad) h;obtain⟨E,h1,h2,h3,h4⟩:=V4 hT av (Q6 t) Y aa (λs hs=>by cases hs) (by rw[hg,ab]);have aq:Le R (st.drop (dsts Z)) E:=⟨λs u hs=>by
        rw[Qi Y] at hs;split at hs
        ·cases hs
        ·rename_i hn;rw[h2 s hn];exact hs,λk ob az=>by simpa[St.obj,St.drop,h3] using az,by rw[h4];exact Qaa _⟩;refine h1 (oN hT ao (by rw[h2 g (PH aa)];exact hg) (told λs hs b hb=>by rw[h2 s hs];exact hb) hp a6 aq (by rw[hx];exact Abz aq.env hv) ?_);exact after ((X.drop _).put a6 _) ((ad λ_ _ _ h=>h).trans X5) al
      split at h
      ·cases c with
       |true=>exact taken a rfl rfl h
       |false=>exact a1 b rfl rfl h
      ·cases c with
       |true=>exact a1 a rfl rfl h
       |false=>exact taken b rfl rfl h
    ·exact absurd h hbad
   ·exact absurd h hbad
end
end Go.Den
namespace Go.Den
open Go.RowKit
def TL (tmps:Array Value) (d:Option Nat) (v:Value):Array Value :=
 match d with
 |some t=>tmps.setIfInBounds t v
 |none=>tmps
theorem Z2 {B R st μ O w tmps d e v w' μ' O'} (E:CN R st μ O w tmps)
 (g:Ev B R (st.mem R e) μ O w μ' O' w') (h:∀x u,BW w O μ x u->BW w' O' μ' (My (st.obj R) e.frz x) u) (I:∀x,e.dst=some x->BW w' O' μ' x v) (X:∀t,d=some t->t<tmps.size) :
 CN R (st.after R d e) μ' O' w' (TL tmps d v):=λs x c=>by
 have old:∀x,({env:=(st.frz R e.frz).env,heap:=Bw e.upd (st.frz R e.frz).heap,next:=e.next}:St).get R s=some x->BW w' O' μ' x (tmps.getD s undef):=λx c=>by
  cases J:e.frz with
  |nil =>rw[J] at c;exact D3 g.keeps g.le x (E s x c)
  |cons k ks =>
   rw[J] at c h;simp only[St.frz,St.get,PC] at c;cases p:assoc st.env s with
   |none =>rw[p] at c;exact D3 g.keeps g.le x (E s x (by simp only[St.get,p];exact c))
   |some o =>
    rw[p] at c;simp only[Qai] at c;cases o with
    |none=>cases c
    |some y =>simp only[Qai,Qaf] at c;subst c;exact h y _ (E s y (by simp only[St.get,p]))
 cases d with
 |none=>exact old x c
 |some t =>unfold St.after at c;rw[Fx] at c;simp only[TL];by_cases Y:t=s<;>simp_all
theorem NO (a:Act) d v:(a.put d v).tmps=TL a.tmps d v:=by cases d<;>rfl
theorem put_defers (a:Act) d v:(a.put d v).defers=a.defers:=by cases d<;>rfl
theorem CH (a:Act) d v:(a.put d v).tmps.size=a.tmps.size:=by cases d<;>simp[Act.put]
theorem Abj {B R μ O w d e} {st:St} (h:RelM B R (st.mem R e) μ O w):RelM B R (st.after R d e) μ O w:=by
 refine h.congr (λk o c=>?_) ?_
 ·unfold St.after at c;rw[PI] at c;exact c
 ·unfold St.after;rw[CG];exact Qaa _
theorem Ys {R st μ O w tmps d x v} (h:CN R st μ O w tmps) (p:∀y,x=some y->BW w O μ y v) (o:∀t,d=some t->t<tmps.size) :
 CN R (st.put d x) μ O w (TL tmps d v):=λs y g=>by
 cases d with
 |none=>exact h s y g
 |some t =>
  rw[Fx] at g;simp only[TL];by_cases c:t=s
  ·simp_all
  ·rw[if_neg c] at g;rw[show (tmps.setIfInBounds t v).getD s undef=tmps.getD s undef by simp[Qbt c]];exact h s y g
theorem oZ {B R st μ O w d x} (h:RelM B R st μ O w):RelM B R (st.put d x) μ O w :=
 h.congr (λk o c=>by rw[PI] at c;exact c) (by rw[CG]<;>omega)
theorem Le.mem {B R st' st μ O w} (c:Le R st' st) (h:RelM B R st μ O w):RelM B R st' μ O w:=h.congr c.obj c.next
theorem Le.relE {R st' st μ O w tmps} (c:Le R st' st) (h:CN R st μ O w tmps):CN R st' μ O w tmps:=λs v d=>h s v (c.env s v d)
theorem Zv {j g} {ops:Array Oper} (h:Fc ops.toList j=some g):ops[j]?.bind (·.dst)=some g:=by unfold Fc at h<;>grind
theorem Lf {R ops st μ O w tmps o b} (p:CN R st μ O w tmps) (h:Told R ops.toList st o b):Region.wanted o (yielded ops tmps)=b:=by
 cases b with
 |true =>
  rcases h with h|⟨j,v,g,h1,t,c⟩
  ·simp[Region.wanted,h]
  ·have d:tmps.getD g undef=.bool v:=p g _ c;have:yielded ops tmps j=some v:=by
    unfold yielded;rw[Zv t];simp only[Qeh];have:tmps[g]?=some (.bool v):=by
     cases hg:tmps[g]? with
     |none=>simp[hg,undef] at d
     |some u=>simp_all
    rw[this]
   simp[Region.wanted,h1,this]
 |false =>
  obtain⟨j,v,g,h1,t,c⟩:=h;have key:yielded ops tmps j≠some v:=by
   unfold yielded;rw[Zv t];simp only[Qeh];rcases c with c|c
   ·have d:tmps.getD g undef=.bool !v:=p g _ c;have:tmps[g]?=some (.bool !v):=by
     cases hg:tmps[g]? with
     |none=>simp[hg,undef] at d
     |some u=>simp_all
    rw[this];cases v<;>simp
   ·have d:= p g _ c;cases hg:tmps[g]? with
    |none=>simp
    |some u=>simp[hg] at d;subst d;simp[undef]
  simp[Region.wanted,h1,key]
structure HD (C:Ctx) (B:Base) (inl:Gc):Prop where
 enters:∀f I,C.inl f=some I->∀(args:Array Value) (w:World),(callFunc f args).run C.P w=.ok (.enter f args) w
 calls:∀ {A:Type} (Good:A->Prop) (bad:A),¬Good bad->∀(f:FuncId) (I:Inl) (R:RO) (vs:List AVal) (h:H4) (nx:Nat) (K:Option AVal->H4->Nat->A) (μ:AI) (O:Nat->Prop) (w:World) (us:List Value),
  C.inl f=some I->vs.length=I.nargs->All2 (BW w O μ) vs us->(∀k,assoc R.rheap k≠none->assoc h k=none/\k<nx)->RelM B R {env:=[],heap:=h,next:=nx} μ O w->Good (inl R I vs h nx K bad) ->
  Calls C.P f us.toArray w λe w'=>∃v,e=.returned v/\∃x h' nx' μ' O',μle μ μ'/\Keeps w O w' O'/\RelM B R {env:=[],heap:=h',next:=nx'} μ' O' w'/\(∀y,x=some y->BW w' O' μ' y v) /\
   (∀k,assoc R.rheap k≠none->assoc h' k=none/\k<nx')/\(∀k p,μ k=some p->k<nx')/\Good (K x h' nx')
section
variable {A:Type} {C:Ctx} {B:Base} {R:RO} {inl:Gc} {Good:A->Prop} {bad:A}
structure At (B:Base) (R:RO) (N:Nat) (μ0:AI) (O0:Nat->Prop) (w0:World) (st:St) (μ:AI) (O:Nat->Prop) (a:Act) (w:World):Prop where
 mem:RelM B R st μ O w
 env:CN R st μ O w a.tmps
 defers:a.defers=B.dfr
 size:N<=a.tmps.size
 le:μle μ0 μ
 keeps:Keeps w0 O0 w O
 dom0:∀k p,μ0 k=some p->k<st.next
def TC (P:Program) (B:Base) (R:RO) (N:Nat) (μ0:AI) (O0:Nat->Prop) (w0:World) (ops:Array Oper) (Q:Exit->Act->World->Prop) (i:Nat) (st:St):Prop :=
 ∀μ O a w,At B R N μ0 O0 w0 st μ O a w->wpOps P ops Q (List.range' i (ops.size-i)) a w
theorem TP {i o} {ops:Array Oper} (h:ops.toList[i]?=some o):ops[i]?=some o/\List.range' i (ops.size-i)=i::List.range' (i+1) (ops.size-(i+1)):=by
 have h':ops[i]?=some o:=by simp_all
 have c:= (Array.getElem?_eq_some_iff.1 h').1;exact ⟨h',by rw[show ops.size-i=ops.size-(i+1)+1 by omega,Qge]⟩
theorem Afa {N μ0 O0 w0 st μ O a w o out e next Q} (Y:DG C B) (c:At B R N μ0 O0 w0 st μ O a w) (Z:∀k,st.next<=k->k<st.next+16->¬B.D k)
 (I:aop C R st o=some out) (J:out.run=some e) (y:JD R e=true) (hN:∀d,o.dst=some d->d<N)
   (hn:∀μ' O' X w',At B R N μ0 O0 w0 (st.after R o.dst e) μ' O' X w'->next X w'):o.wp C.P a w next Q:=by refine (eA Y c.mem Z c.env I J y).wp λv w' ⟨μ',O',g,E,h⟩=>hn μ' O' _ w' ?_;refine ⟨Abj g.mem,?_,by rw[put_defers];exact c.defers,by rw[CH];exact c.size,c.le.trans g.le,c.keeps.trans g.keeps,λk p hk=>Qac (c.dom0 k p hk) (by unfold St.after;rw[CG];exact (Iu I J).1.le)⟩;rw[NO];exact Z2 c.env g E h λt ht=>Qac (hN t ht) c.size
theorem At.skip {N μ0 O0 w0 st μ O a w d} (h:At B R N μ0 O0 w0 st μ O a w) (c:∀t,d=some t->t<N):At B R N μ0 O0 w0 (st.put d (some .undef)) μ O (a.put d undef) w :=
 ⟨oZ h.mem,by rw[NO];exact Ys h.env λy g=>by cases g;rfl λt o=>Qac (c t o) h.size,by rw[put_defers];exact h.defers,by rw[CH];exact h.size,h.le,h.keeps,λk p v=>by rw[CG];exact h.dom0 k p v⟩
theorem uN {st μ O w} {a:Act} (c:CN R st μ O w a.tmps):∀ {xs} {vs},inlined.avs R st xs=some vs->All2 (BW w O μ) vs (xs.map a.eval)
 |[],vs,h=>by simp[inlined.avs] at h;subst h;exact .nil
 |x::r,vs,h=>by
  simp only[inlined.avs] at h;split at h
  ·rename_i v l h1 d;cases h;exact .cons (Bv c h1) (uN c d)
  ·cases h
theorem xS {st:St} {μ:AI} {O:Nat->Prop} {w:World} {a:Act} {P:Program} {o:Oper} {c:Call} {f:Operand} {vs us:List AVal} {g:FuncId} (hE:CN R st μ O w a.tmps) (p:All2 (BW w O μ) vs (c.args.toList.map a.eval)) (h:Vd (opv R st f) vs=some (g,us))
 (I:o.op=.call c) (t:c.callee=.value f) (y:∀args w,(callFunc g args).run P w=.ok (.enter g args) w):∃ul:List Value,All2 (BW w O μ) us ul/\(execOp a.eval o).run P w=.ok (.enter g ul.toArray) w:=by
 cases X:opv R st f with
 |none=>rw[X] at h;cases h
 |some x =>
 rw[X] at h;cases x;case fn Y cs =>
  simp only[Vd,Qaf,Qcv] at h;obtain⟨rfl,rfl⟩:=h;obtain⟨J,E,d⟩:∃vs,a.eval f=.func (.func Y) #[] vs/\All2 (AQ w O μ) cs vs.toList:=Bv hE X;refine ⟨_,p.append (d.map (R':=BW w O μ) (λc=>AVal.v (.c c)) λc v h=>h),?_⟩;have Z:(c.args.toList.map a.eval++J.toList).toArray=c.args.map a.eval++J:=by simp_all
  rw[Z];simp[execOp,I,resolve,t,E,Deferred.ofValue,invoke,y]
 case bfn Y cs =>
  simp only[Vd,Qaf,Qcv] at h;obtain⟨rfl,rfl⟩:=h;obtain⟨J,E,d⟩:∃vs,a.eval f=.func (.func Y) vs #[]/\All2 (AQ w O μ) cs vs.toList:=Bv hE X;refine ⟨_,(d.map (R':=BW w O μ) (λc=>AVal.v (.c c)) λc v h=>h).append p,?_⟩;have Z:(J.toList++c.args.toList.map a.eval).toArray=J++c.args.map a.eval:=by simp_all
  rw[Z];simp[execOp,I,resolve,t,E,Deferred.ofValue,invoke,y]
 all_goals cases h
theorem pF {N μ0 O0 w0 ops Q} (hC:DG C B) (hbad:¬Good bad) (hB:∀k,¬B.D k) (Y:HD C B inl)
 (hN:∀(i:Nat) o,ops.toList[i]?=some o->∀d,o.dst=some d->d<N):XK C R ops.toList inl Good bad (TC C.P B R N μ0 O0 w0 ops Q) where
 weak i st st' a1 h μ O a w E:=h μ O a w ⟨a1.mem E.mem,a1.relE E.env,E.defers,E.size,E.le,E.keeps,λk p hk=>Qac (E.dom0 k p hk) a1.next⟩
 op i st o out e Z ht ha hr ae hf h μ O a w E:=by obtain⟨J,X⟩:=TP Z;rw[X,wpOps_cons];unfold wpOp;rw[J];simp only[Lf E.env ht,if_true];exact .inl (Afa hC E (λk _ _=>hB k) ha hr ae (hN i o Z) λμ' O' a' w' h'=>h μ' O' a' w' h')
 skip i st o Z ht hf h μ O a w E:=by obtain⟨J,X⟩:=TP Z;rw[X,wpOps_cons];unfold wpOp;rw[J];simp only[Lf E.env ht,Qcz,if_false];exact h μ O _ w (E.skip (hN i o Z))
 inl i st o I vs K Z ht hi hf a7 hg hK μ O a w E:=by
  obtain⟨J,X⟩:=TP Z;rw[X,wpOps_cons];unfold wpOp;rw[J];simp only[Lf E.env ht,if_true];refine .inl ?_;unfold inlined at hi;split at hi
  ·rename_i c af;split at hi
   ·rename_i f a8;split at hi
    ·rename_i an ag;split at hi
     ·rename_i g us ah;split at hi
      ·rename_i I' hI;split at hi
       ·rename_i hn;simp only[Qaf,Qcv] at hi;obtain⟨rfl,rfl⟩:=hi;obtain⟨ul,aa,ab⟩:=xS E.env (uN E.env ag) ah (by rw[af]) a8 (Y.enters g _ hI);unfold Oper.wp;rw[ab];refine (Y.calls Good bad hbad g _ R _ st.heap st.next K μ O w _ hI (by simpa using beq_true hn) aa (λk hk=>⟨a7.heap k hk,a7.next k hk⟩) (E.mem.congr (λk o h=>h) (Qaa _)) hg).mono ?_;rintro e w' ⟨v,rfl,x,h',a6,μ',O',ad,hk,hM,hv,ai,aj,ak⟩;refine hK x h' a6 ai ak μ' O' _ w' ⟨oZ (st:={st with heap:=h',next:=a6}) (hM.congr (λk o h=>h) (Qaa _)),?_,by rw[put_defers];exact E.defers,by rw[CH];exact E.size,E.le.trans ad,E.keeps.trans hk,λk p al=>by rw[CG];exact aj k p (E.le k p al)⟩;rw[NO];exact Ys (st:={st with heap:=h',next:=a6}) (λs y hy=>D3 hk ad y (E.env s y hy)) hv λt ht=>Qac (hN i o Z t ht) E.size
       ·cases hi
      ·cases hi
     ·cases hi
    ·cases hi
   ·cases hi
  ·cases hi
theorem y8 (y:DG C B) (hbad:¬Good bad) (E:∀k,¬B.D k) (c:HD C B inl) {N:Nat} {id:Nat} {ops:Array Oper} {Q:Exit->Act->World->Prop}
 (I:∀(i:Nat) (o:Oper),ops.toList[i]?=some o->∀d,o.dst=some d->d<N) {st:St} {μ:AI} {O:Nat->Prop} {a:Act} {w:World} {μ0:AI} {O0:Nat->Prop} {w0:World} (t:At B R N μ0 O0 w0 st μ O a w) (v:Apart R st) {n:Nat} {K:St->A}
 (J:∀st' μ' O' p w',Apart R st'->At B R N μ0 O0 w0 st' μ' O' p w'->Good (K st')->Q .normal p w') (h:Good (Gh C inl R ops.toList n none ops.toList st K bad)):(Code.region id ops false).wp C.P Q a w:=by
 refine wp_region ?_;have:=OD hbad (pF (R:=R) (μ0:=μ0) (O0:=O0) (w0:=w0) (Q:=Q) y hbad E c I) (i:=0) (cur:=none) λk o Y=>by rwa [Qbm] trivial v (λst' X _ hg μ' O' p w' g=>?_) h μ O a w t
 ·rwa [List.range_eq_range']
 ·rw[Qbm,Qat,Nat.sub_self];exact J st' μ' O' p w' X g hg
end
end Go.Den
namespace Go.Den
open Go.RowKit
def NY (n:Nat):Cell->Prop
 |.ref k | .ptr k _ | .eptr k _ | .sub k _ _ | .mref k=>k<n
 |_=>True
def Y7 (n:Nat):V1->Prop
 |.c c=>NY n c
 |.a cs=>∀c∈cs,NY n c
def wR (n:Nat):AVal->Prop
 |.v x=>Y7 n x
 |.tup xs=>∀x∈xs,Y7 n x
 |.iptr cs | .fn _ cs | .bfn _ cs=>∀c∈cs,NY n c
 |.fptr k _ _=>k<n
 |.fns l | .fna l=>∀x∈l,∀c∈x.2.2,NY n c
 |.fnp x=>∀c∈x.2.2,NY n c
 |_=>True
def wQ (n:Nat):AObj->Prop
 |.box cs=>∀c∈cs,NY n c
 |.arr .. | .map ..=>True
section
variable {B:Base} {w:World} {O:Nat->Prop} {μ μ':AI} {n:Nat}
theorem All2.both {α β:Type} {P:α->β->Prop} {l:List α} {m} (h:All2 P l m) {p:α->Prop} (c:∀a b,P a b->p a):∀a∈l,p a:=by
 induction h with
 |nil=>simp_all
 |cons h1 _ d =>grind
theorem All2.weave {α β:Type} {P Q:α->β->Prop} {l:List α} {m} (h:All2 P l m) {p:α->Prop} (c:∀a∈l,p a) (d:∀a b,p a->P a b->Q a b):All2 Q l m:=by
 induction h with
 |nil=>exact .nil
 |cons h1 _ g=>exact .cons (d _ _ (c _ (by simp)) h1) (g λa o=>c a (Qak _ o))
theorem Iy (d:∀k p,μ k=some p->k<n):∀(c:Cell) (v:Value),AQ w O μ c v->NY n c
 |.int _ _,_,_=>trivial
 |.bool _,_,_=>trivial
 |.sl _ _,_,_=>trivial
 |.nils,_,_=>trivial
 |.ref _,_,⟨_,_,_,_,e,_⟩=>d _ _ e
 |.ptr _ _,_,⟨_,e,_⟩=>d _ _ e
 |.eptr _ _,_,⟨_,_,_,_,e,_⟩=>d _ _ e
 |.nilp,_,_=>trivial
 |.mref _,_,⟨_,e,_⟩=>d _ _ e
 |.lit _,_,_=>trivial
 |.sub _ _ _,_,⟨_,_,_,_,_,_,e,_⟩=>d _ _ e
theorem Z4 (d:∀k p,μ k=some p->k<n):∀x v,Cl w O μ x v->Y7 n x
 |.c c,v,h=>Iy d c v h
 |.a _,_,⟨_,_,h⟩=>h.both (Iy d)
theorem VQ (d:∀k p,μ k=some p->k<n):∀x v,Nj w O μ x v->∀c∈x.2.2,NY n c
 |(_,true,_),_,⟨_,_,h⟩=>h.both (Iy d)
 |(_,false,_),_,⟨_,_,h⟩=>h.both (Iy d)
theorem AbQ (c:∀k p,μ k=some p->k<n):∀x v,BW w O μ x v->wR n x
 |.undef,_,_=>trivial
 |.v x,v,h=>Z4 c x v h
 |.tup _,_,⟨_,_,h⟩=>h.both (Z4 c)
 |.iptr _,_,⟨_,_,_,_,_,_,_,h⟩=>h.both (Iy c)
 |.fn _ _,_,⟨_,_,h⟩=>h.both (Iy c)
 |.bfn _ _,_,⟨_,_,h⟩=>h.both (Iy c)
 |.fptr _ _ _,_,⟨_,_,_,_,e,_⟩=>c _ _ e
 |.str _,_,_=>trivial
 |.fns _,_,⟨_,_,_,_,_,_,h⟩=>h.both (VQ c)
 |.fnp x,_,⟨_,_,u,_,_,_,_,h⟩=>VQ c x u h
 |.fna _,_,⟨_,_,h⟩=>h.both (VQ c)
theorem AbO {k} (c:∀k p,μ k=some p->k<n):∀o,RelO w O μ k o->wQ n o
 |.box _,⟨_,_,_,_,_,h⟩=>h.both (Iy c)
 |.arr ..,_=>trivial
 |.map ..,_=>trivial
theorem Iz (o:∀k,k<n->μ' k=μ k):∀(c:Cell) (v:Value),NY n c->AQ w O μ c v->AQ w O μ' c v
 |.int _ _,_,_,h=>h
 |.bool _,_,_,h=>h
 |.sl _ _,_,_,h=>h
 |.nils,_,_,h=>h
 |.ref _,_,g,⟨a,b,c,d,e,r⟩=>⟨a,b,c,d,(o _ g).trans e,r⟩
 |.ptr _ _,_,g,⟨a,e,r⟩=>⟨a,(o _ g).trans e,r⟩
 |.eptr _ _,_,g,⟨a,b,c,d,e,r⟩=>⟨a,b,c,d,(o _ g).trans e,r⟩
 |.nilp,_,_,h=>h
 |.mref _,_,g,⟨a,e,r⟩=>⟨a,(o _ g).trans e,r⟩
 |.lit _,_,_,h=>h
 |.sub _ _ _,_,g,⟨a,b,c,d,p,t,e,r⟩=>⟨a,b,c,d,p,t,(o _ g).trans e,r⟩
theorem Z5 (g:∀k,k<n->μ' k=μ k):∀x v,Y7 n x->Cl w O μ x v->Cl w O μ' x v
 |.c c,v,d,h=>Iz g c v d h
 |.a _,_,d,⟨vs,e,h⟩=>⟨vs,e,h.weave d (Iz g)⟩
theorem VR (g:∀k,k<n->μ' k=μ k):∀x v,(∀c∈x.2.2,NY n c)->Nj w O μ x v->Nj w O μ' x v
 |(_,true,_),_,d,⟨vs,e,h⟩=>⟨vs,e,h.weave d (Iz g)⟩
 |(_,false,_),_,d,⟨vs,e,h⟩=>⟨vs,e,h.weave d (Iz g)⟩
theorem AbR (o:∀k,k<n->μ' k=μ k):∀x v,wR n x->BW w O μ x v->BW w O μ' x v
 |.undef,_,_,h=>h
 |.v x,v,g,h=>Z5 o x v g h
 |.tup _,_,g,⟨vs,e,h⟩=>⟨vs,e,h.weave g (Z5 o)⟩
 |.iptr _,_,g,⟨a,b,c,e,r1,r2,p,h⟩=>⟨a,b,c,e,r1,r2,p,h.weave g (Iz o)⟩
 |.fn _ _,_,g,⟨vs,e,h⟩=>⟨vs,e,h.weave g (Iz o)⟩
 |.bfn _ _,_,g,⟨vs,e,h⟩=>⟨vs,e,h.weave g (Iz o)⟩
 |.fptr _ _ _,_,g,⟨a,b,c,d,e,r⟩=>⟨a,b,c,d,(o _ g).trans e,r⟩
 |.str _,_,_,h=>h
 |.fns _,_,g,⟨b,us,e,r1,r2,p,h⟩=>⟨b,us,e,r1,r2,p,h.weave g (VR o)⟩
 |.fna _,_,g,⟨us,e,h⟩=>⟨us,e,h.weave g (VR o)⟩
 |.fnp x,_,g,⟨b,off,u,e,r1,r2,p,h⟩=>⟨b,off,u,e,r1,r2,p,VR o x u g h⟩
theorem AbP {k} (d:∀k,k<n->μ' k=μ k) (g:k<n):∀o,wQ n o->RelO w O μ k o->RelO w O μ' k o
 |.box _,p,⟨b,vs,e,h1,t,h⟩=>⟨b,vs,e,(d k g).trans h1,t,h.weave p (Iz d)⟩
 |.arr ..,_,⟨a,cap,h1,r⟩=>⟨a,cap,(d k g).trans h1,r⟩
 |.map ..,_,⟨b,es,c,h1,r⟩=>⟨b,es,c,(d k g).trans h1,r⟩
end
end Go.Den
namespace Go.Den
open Go.RowKit
section
variable {B:Base} {R:RO} {st:St} {μ:AI} {O O1:Nat->Prop} {w:World} {tmps:Array Value} {R1:RO} {n0:Nat}
def keyed:Item->Bool
 |.slot .. | .own ..=>false
 |_=>true
theorem Zh {t own c g rem sc X} (hB:∀k,¬B.D k) (hS:Src B R st μ O O1 w tmps (g.gone++rem)) (hg:Sl R st t own c=some g) (Y:(g.gone++rem).Nodup)
 (Z:∀k∈g.frz,∀p b,μ k=some p->p.block=some b->¬O1 b/\b<w.heap.size) (o:g.key<n0) (hI:Inv B R st μ O1 w tmps R1 n0 (g.gone++rem) sc X) :
 ∃μ',Inv B R st μ O1 w tmps R1 n0 rem { (IJ own t 0 g.val sc).2 with heap:=(g.key,.box (IJ own t 0 g.val sc).1)::(IJ own t 0 g.val sc).2.heap} μ':=by
 unfold Sl at hg;split at hg
 ·rename_i cs v;split at hg
  ·rename_i x f gn hd;cases hg;have d:st.obj R c=some (.box cs):=by simp[St.obj,v]
   obtain⟨bb,vs,el,y,hc,ha⟩:=hS.mem.heap c _ d;have h:∀k,k∈gn++c::rem↔k∈c::gn++rem:=λk=>by grind
   have E:(gn++c::rem).Nodup:=by grind
   obtain⟨v1,v2,μ',e,I,J,a1,hr⟩:=AcI hB t hd ha Z {hS with own:=λk v=>hS.own k ((h k).1 v)} E (hI.weaken λk v=>(h k).1 v);cases I;rw[Qbd] at e;exact ⟨μ',Inv.keep J (λhm=>(List.nodup_append.1 Y).2.2 c (by simp) c hm rfl) (λp b y hb=>⟨hS.own c (by simp) _ d p b y hb,(hS.mem.own c _ d p b y hb).2⟩) (λk0 o0 p0 b p e1 e2 e3 e4 e5=>hS.mem.inj k0 c o0 _ e1 d p0 p b e2 e4 e3 e5) d o y
    ⟨bb,vs,el,(J.agree c o).trans y,hc,by simp_all⟩⟩
  ·cases hg
 ·cases hg
theorem aS {i g rem sc ag} (hB:∀k,¬B.D k) (hS:Src B R st μ O O1 w tmps (g.gone++rem)) (hg:BG R st i=some g) (a6:(g.gone++rem).Nodup)
 (ae:∀k∈g.frz,∀p b,μ k=some p->p.block=some b->¬O1 b/\b<w.heap.size) (Z:keyed i=true->g.key<n0) (hI:Inv B R st μ O1 w tmps R1 n0 (g.gone++rem) sc ag) :
 ∃μ',Inv B R st μ O1 w tmps R1 n0 rem (SK i g.key g.val sc) μ':=by
 have E:∀ {k o},assoc st.heap k=some o->st.obj R k=some o:=λ{k o} h=>by simp[St.obj,h]
 have own:∀k∈g.gone++rem,∀o,st.obj R k=some o->∀p b,μ k=some p->p.block=some b->O1 b/\(B.base<=b/\¬B.F b)/\b<w.heap.size:=λk hk o ho p b I J =>⟨hS.own k hk o ho p b I J,(hS.mem.own k o ho p b I J).2⟩;have inj:= λ{k o} hk k0 o0 p0 b p h1 h2 h3 h4 h5=>hS.mem.inj k0 k o0 o h1 hk p0 p b h2 h4 h3 h5;cases i with
 |slot s t =>
  simp only[BG] at hg;split at hg
  ·rename_i v hv;split at hg
   ·rename_i x f ax hd;cases hg;refine ⟨ag,{hI with mem:=hI.mem.congr (λk o h=>h) (Qaa _),env:=?_}⟩;have hr:= hS.env s _ hv;refine Yr hI.env ?_ _ _;show Cl w O1 ag (Ru t x) _;rw[X2 hr ax];exact NB t (KF hS.keeps hS.mem.heap hd hr ae)
   ·cases hg
  ·cases hg
 |own s t =>
  simp only[BG] at hg;split at hg
  ·rename_i hv;cases hg;obtain⟨ad,ev⟩:=hS.env s _ hv;obtain⟨μ',h1,h2,h3⟩:=Inv.fresh (o:=.arr t []) hB (.arr ad 0 0 t.size) [] hI (λb J=>by cases ad<;>simp[Place.block] at J) (λb J=>by cases ad<;>simp[Place.block] at J) λμ' _ hn=>⟨ad,0,hn,Qaa _,Qaw _,.inl rfl⟩;exact ⟨μ',{h1 with mem:=h1.mem.congr (λk o h=>h) (Qaa _),env:=Yr (x:=.v (.c (.ref sc.next))) (λu v hv=>h1.env u v hv) ⟨ad,0,0,t.size,h3,ev⟩ _ _}⟩
  ·rename_i k hv;split at hg
   ·rename_i t' l hk;split at hg
    ·rename_i l' hc;cases hg;obtain⟨rfl,rfl⟩:=Ea hc;have d:=E hk;obtain⟨p,I⟩:=(hS.mem.heap k _ d).some;obtain⟨μ',h1,h2,h3⟩:=Inv.fresh hB p [k] hI (λb J=>own k (by simp) _ d p b I J) (λb J=>⟨k,_,by simp,λhm=>(List.nodup_append.1 a6).2.2 k (by simp) k hm rfl,d,I,λk0 ai p0 Y e2 e3=>inj d k0 ai p0 b p Y e2 e3 I J⟩) λμ' _ hn=>Ns hS.keeps (hS.mem.heap k _ d) I hn;refine ⟨μ',{h1 with mem:=h1.mem.congr (λk o h=>h) (Qaa _),env:=Yr (λu v hv=>h1.env u v hv) ?_ _ _}⟩;obtain⟨a1,a2,a3,a4,Y,e2⟩:=hS.env s _ hv;rw[I] at Y;cases Y;exact ⟨a1,a2,a3,a4,h3,e2⟩
    ·cases hg
   ·cases hg
  ·cases hg
 |box s t =>
  simp only[BG] at hg;split at hg
  ·rename_i k hv;split at hg
   ·rename_i cs hk;split at hg
    ·rename_i x f hd;cases hg;have d:=E hk;have a7:= Z rfl;obtain⟨b,vs,el,I,hc,ha⟩:=hS.mem.heap k _ d;obtain⟨v1,v2,e,ay,af⟩:=Ee hS.keeps hS.mem.heap t hd ha ae;cases af;refine ⟨ag,Inv.keep hI (λhm=>(List.nodup_append.1 a6).2.2 k (by simp) k hm rfl) (λp b I J=>own k (by simp) _ d p b I J) (λk0 o0 p0 b p Y e2 e3 e4 e5=>inj d k0 o0 p0 b p Y e2 e3 e4 e5) d a7 I ⟨b,vs,el,(hI.agree k a7).trans I,hc,?_⟩⟩;rw[e,Qbd];exact Fw t ay
    ·cases hg
   ·cases hg
  ·cases hg
 |arr s t =>
  simp only[BG] at hg;split at hg
  ·rename_i k hv;split at hg
   ·rename_i t' l hk;split at hg
    ·rename_i l' hc;cases hg;obtain⟨rfl,rfl⟩:=Ea hc;have d:=E hk;have a7:= Z rfl;obtain⟨p,I⟩:=(hS.mem.heap k _ d).some;exact ⟨ag,Inv.keep hI (λhm=>(List.nodup_append.1 a6).2.2 k (by simp) k hm rfl) (λp b I J=>own k (by simp) _ d p b I J) (λk0 o0 p0 b p Y e2 e3 e4 e5=>inj d k0 o0 p0 b p Y e2 e3 e4 e5) d a7 I (Ns hS.keeps (hS.mem.heap k _ d) I ((hI.agree k a7).trans I))⟩
    ·cases hg
   ·cases hg
  ·cases hg
 |map s t =>
  simp only[BG] at hg;split at hg
  ·rename_i k hv;split at hg
   ·rename_i t' l hk;split at hg
    ·rename_i l' hc;cases hg;obtain⟨Y,e2⟩:=Ea hc;cases Y;cases e2;have d:=E hk;have a7:= Z rfl;obtain⟨b,es,c,I,az,ha⟩:=hS.mem.heap k _ d;exact ⟨ag,Inv.keep hI (λhm=>(List.nodup_append.1 a6).2.2 k (by simp) k hm rfl) (λp b I J=>own k (by simp) _ d p b I J) (λk0 o0 p0 b p Y e2 e3 e4 e5=>inj d k0 o0 p0 b p Y e2 e3 e4 e5) d a7 I ⟨b,es,c,(hI.agree k a7).trans I,az,ha.mono λe m ⟨us,r,r'⟩=>⟨us,Av hS.keeps t r,r'⟩⟩⟩
    ·cases hg
   ·cases hg
  ·cases hg
 |barr s t =>
  simp only[BG] at hg;split at hg
  ·rename_i b hv;split at hg
   ·rename_i k J;split at hg
    ·rename_i t' l hk;split at hg
     ·rename_i l' hc;cases hg;obtain⟨rfl,rfl⟩:=Ea hc;have d:=E hk;have a7:= Z rfl;obtain⟨p,I⟩:=(hS.mem.heap k _ d).some;exact ⟨ag,Inv.keep hI (λhm=>(List.nodup_append.1 a6).2.2 k (by simp) k hm rfl) (λp b I J=>own k (by simp) _ d p b I J) (λk0 o0 p0 b p Y e2 e3 e4 e5=>inj d k0 o0 p0 b p Y e2 e3 e4 e5) d a7 I (Ns hS.keeps (hS.mem.heap k _ d) I ((hI.agree k a7).trans I))⟩
     ·cases hg
    ·cases hg
   ·cases hg
  ·cases hg
 |bown s t =>
  simp only[BG] at hg;split at hg
  ·rename_i b hv;split at hg
   ·rename_i J;cases hg;have X:=E J;have a8:= Z rfl;obtain⟨bb,vs,el,I,hc,ha⟩:=hS.mem.heap b _ X;have aj:∃ad,vs.toList=[.slice ad 0 0]:=by
     generalize vs.toList=us at ha;cases ha with
     |cons h1 h2 =>cases h2;obtain⟨ad,e⟩:=h1;exact ⟨ad,by rw[e]⟩
    obtain⟨ad,an⟩:=aj;obtain⟨μ',h1,h2,h3⟩:=Inv.fresh (o:=.arr t []) hB (.arr ad 0 0 t.size) [] hI (λb J=>by cases ad<;>simp[Place.block] at J) (λb J=>by cases ad<;>simp[Place.block] at J) λμ' _ hn=>⟨ad,0,hn,Qaa _,Qaw _,.inl rfl⟩;refine ⟨μ',Inv.keep h1 (λhm=>(List.nodup_append.1 a6).2.2 b (by simp) b hm rfl) (λp b I J=>own _ (by simp) _ X p b I J) (λk0 o0 p0 b p Y e2 e3 e4 e5=>inj X k0 o0 p0 b p Y e2 e3 e4 e5) X a8 I ⟨bb,vs,el,(h1.agree b a8).trans I,hc,?_⟩⟩;rw[an];exact .cons ⟨ad,0,0,t.size,h3,rfl⟩ .nil
   ·rename_i k J;split at hg
    ·rename_i t' l hk;split at hg
     ·rename_i l' hc;cases hg;obtain⟨rfl,rfl⟩:=Ea hc;have X:=E J;have d:=E hk;have aa:=List.nodup_append.1 a6;have ao:k∉b::rem:=by
       intro hm;rcases List.mem_cons.1 hm with e|hm
       ·have:=aa.1;simp[e] at this
       ·exact aa.2.2 k (by simp) k hm rfl
      have a8:= Z rfl;obtain⟨bb,vs,el,I,b0,ha⟩:=hS.mem.heap b _ X;obtain⟨p,ab⟩:=(hS.mem.heap k _ d).some;have aj:∃u,vs.toList=[u]/\AQ w O μ (.ref k) u:=by
       generalize vs.toList=us at ha;cases ha with
       |cons h1 h2=>cases h2;exact ⟨_,rfl,h1⟩
      obtain⟨u,an,hu⟩:=aj;obtain⟨μ',h1,h2,h3⟩:=Inv.fresh hB p [k] (hI.weaken λk' aq=>by simpa[or_comm,or_left_comm] using aq) (λbl ah=>own k (by simp) _ d p bl ab ah) (λbl ah=>⟨k,_,by simp,ao,d,ab,λk0 ai p0 Y e2 e3=>inj d k0 ai p0 bl p Y e2 e3 ab ah⟩) λμ' _ hn=>Ns hS.keeps (hS.mem.heap k _ d) ab hn;refine ⟨μ',Inv.keep h1 (λhm=>aa.2.2 b (by simp) b hm rfl) (λp b I J=>own _ (by simp) _ X p b I J) (λk0 o0 p0 b p Y e2 e3 e4 e5=>inj X k0 o0 p0 b p Y e2 e3 e4 e5) X a8 I ⟨bb,vs,el,(h1.agree b a8).trans I,b0,?_⟩⟩;rw[an];obtain⟨a1,a2,a3,a4,Y,e2⟩:=hu;rw[ab] at Y;cases Y;exact .cons ⟨a1,a2,a3,a4,h3,e2⟩ .nil
     ·cases hg
    ·cases hg
   ·cases hg
  ·cases hg
 |fown s ta t tb =>
  simp only[BG] at hg;split at hg
  ·rename_i b hv;split at hg
   ·rename_i cs J;split at hg
    ·rename_i x c r f av;split at hg
     ·rename_i y g' aw;have X:=E J;obtain⟨bb,vs,el,I,hc,ha⟩:=hS.mem.heap b _ X;split at hg
      ·cases hg;obtain⟨v1,v2,Y,ak,ar⟩:=Ee hS.keeps hS.mem.heap ta av ha λk hk=>ae k (Qah _ hk);obtain⟨u,v3,rfl,hu,au⟩:∃u v3,v2=u::v3/\AQ w O μ .nils u/\All2 (AQ w O μ) r v3:=by
        cases ar with
        |cons h1 h2=>exact ⟨_,_,rfl,h1,h2⟩
       obtain⟨v4,v5,e2,al,af⟩:=Ee hS.keeps hS.mem.heap tb aw au λk hk=>ae k (Qan _ hk);cases af;obtain⟨ad,eu⟩:=hu;have a8:= Z rfl;obtain⟨μ',h1,h2,h3⟩:=Inv.fresh (o:=.arr t []) hB (.arr ad 0 0 t.size) [] hI (λb J=>by cases ad<;>simp[Place.block] at J) (λb J=>by cases ad<;>simp[Place.block] at J) λμ' _ hn=>⟨ad,0,hn,Qaa _,Qaw _,.inl rfl⟩;refine ⟨μ',Inv.keep h1 (λhm=>(List.nodup_append.1 a6).2.2 b (by simp) b hm rfl) (λp b I J=>own _ (by simp) _ X p b I J) (λk0 o0 p0 b p Y e2 e3 e4 e5=>inj X k0 o0 p0 b p Y e2 e3 e4 e5) X a8 I ⟨bb,vs,el,(h1.agree b a8).trans I,hc,?_⟩⟩;rw[Y,e2,Qbd];exact (Fw ta ak).append (.cons ⟨ad,0,0,t.size,h3,eu⟩ (Fw tb al))
      ·rename_i k;split at hg
       ·rename_i t' l hk;split at hg
        ·rename_i l' b1;cases hg;obtain⟨rfl,rfl⟩:=Ea b1;obtain⟨v1,v2,Y,ak,ar⟩:=Ee hS.keeps hS.mem.heap ta av ha λk hk=>ae k (Qah _ hk);obtain⟨u,v3,rfl,hu,au⟩:∃u v3,v2=u::v3/\AQ w O μ (.ref k) u/\All2 (AQ w O μ) r v3:=by
          cases ar with
          |cons h1 h2=>exact ⟨_,_,rfl,h1,h2⟩
         obtain⟨v4,v5,e2,al,af⟩:=Ee hS.keeps hS.mem.heap tb aw au λk hk=>ae k (Qan _ hk);cases af;have d:=E hk;have aa:=List.nodup_append.1 a6;have ao:k∉b::rem:=by
          intro hm;rcases List.mem_cons.1 hm with e|hm
          ·have:=aa.1;simp[e] at this
          ·exact aa.2.2 k (by simp) k hm rfl
         have a8:= Z rfl;obtain⟨p,ab⟩:=(hS.mem.heap k _ d).some;obtain⟨μ',h1,h2,h3⟩:=Inv.fresh hB p [k] (hI.weaken λk' aq=>by simpa[or_comm,or_left_comm] using aq) (λbl ah=>own k (by simp) _ d p bl ab ah) (λbl ah=>⟨k,_,by simp,ao,d,ab,λk0 ai p0 Y e2 e3=>inj d k0 ai p0 bl p Y e2 e3 ab ah⟩) λμ' _ hn=>Ns hS.keeps (hS.mem.heap k _ d) ab hn;refine ⟨μ',Inv.keep h1 (λhm=>aa.2.2 b (by simp) b hm rfl) (λp b I J=>own _ (by simp) _ X p b I J) (λk0 o0 p0 b p Y e2 e3 e4 e5=>inj X k0 o0 p0 b p Y e2 e3 e4 e5) X a8 I ⟨bb,vs,el,(h1.agree b a8).trans I,hc,?_⟩⟩;rw[Y,e2,Qbd];obtain⟨a1,a2,a3,a4,g1,g2⟩:=hu;rw[ab] at g1;cases g1;exact (Fw ta ak).append (.cons ⟨a1,a2,a3,a4,h3,g2⟩ (Fw tb al))
        ·cases hg
       ·cases hg
      ·cases hg
     ·cases hg
    ·cases hg
   ·cases hg
  ·cases hg
 |fbox s t ow =>
  simp only[BG] at hg;split at hg
  ·rename_i bk hv;exact Zh hB hS hg a6 ae (Z rfl) hI
  ·contradiction
 |nbox t ow =>
  simp only[BG] at hg;split at hg
  ·exact Zh hB hS hg a6 ae (Z rfl) hI
  ·contradiction
end
end Go.Den
namespace Go.Den
open Go.RowKit
section
variable {B:Base} {R:RO} {st:St} {μ:AI} {O O1:Nat->Prop} {w:World} {tmps:Array Value} {R1:RO} {n0:Nat}
def JB (p:Nat->Prop):List Item->List Nat->Prop
 |[],_=>True
 |i::r,ks=>(keyed i=true->p (ks.headD 0))/\JB p r ks.tail
theorem MB {p q} (h:∀k,p k->q k):∀ {l} {ks},JB p l ks->JB q l ks
 |[],_,_=>trivial
 |_::_,_,⟨h1,c⟩=>⟨λd=>h _ (h1 d),MB h c⟩
theorem QV {h p own}:∀T {off} {cs} {x} {rest} {g gn},JO h p own T off cs=some (x,rest,g,gn)->(∀k∈gn,∃o,p k=some o)/\∀k∈g,∃t l,h k=some (.arr t l):=by
 have leaf:∀T {cs:List Cell} {x:T.interp} {rest:List Cell} {g gn:List Nat},Ih h T cs=some (x,rest,g,gn)->(∀k∈gn,∃o,p k=some o)/\∀k∈g,∃t l,h k=some (.arr t l):=λT cs x rest g gn d=>by
  unfold Ih at d;split at d
  ·rename_i I J X v;cases d;exact ⟨nofun,GN T v⟩
  ·cases d
 intro T;induction T with
 |int k=>intro off cs x rest g gn d;exact leaf (.int k) d
 |bool=>intro off cs x rest g gn d;exact leaf .bool d
 |unit=>intro off cs x rest g gn d;exact leaf .unit d
 |slice t _ =>
  intro off cs x rest g gn d;cases cs with
  |nil=>simp[JO,Ih,dec] at d
  |cons c r =>simp only[JO] at d;split at d<;>grind
 |pair a b y E =>intro off cs x rest g gn d;simp only[JO] at d<;>grind
theorem N2 {t own c g} (h:Sl R st t own c=some g):g.key∈g.gone/\(∀k∈g.gone,∃o,assoc st.heap k=some o)/\∀k∈g.frz,∃t l,st.obj R k=some (.arr t l):=by
 unfold Sl at h;split at h
 ·rename_i cs p;split at h
  ·rename_i x f gn d;cases h;obtain⟨h1,v⟩:=QV t d<;>simp_all
  ·cases h
 ·cases h
theorem Tc {own}:∀T {off} {x} {sc},Apart R1 sc->Apart R1 (IJ own T off x sc).2/\sc.next<=(IJ own T off x sc).2.next:=by
 intro T;induction T with
 |int k=>intro off x sc h;exact ⟨h,Qaa _⟩
 |bool=>intro off x sc h;exact ⟨h,Qaa _⟩
 |unit=>intro off x sc h;exact ⟨h,Qaa _⟩
 |slice t _ =>
  intro off x sc h;simp only[IJ];split
  ·exact ⟨h,Qaa _⟩
  ·refine ⟨⟨h.env,λk c=>?_,λk c=>Qca (h.next k c)⟩,Nat.le_succ _⟩;have:=h.next k c;rw[AE,if_neg (by omega)];exact h.heap k c
 |pair a b d g =>intro off x sc h;simp only[IJ]<;>grind
theorem Xi {i g} (h:BG R st i=some g):(keyed i=true->g.key∈g.gone)/\∀k∈g.gone,∃o,assoc st.heap k=some o:=by
 cases i with
 |slot s t =>
  simp only[BG] at h;repeat' split at h
  all_goals first|cases h|skip
  exact ⟨nofun,nofun⟩
 |own s t =>
  simp only[BG] at h;repeat' split at h
  all_goals first|cases h|skip
  ·exact ⟨nofun,nofun⟩
  ·exact ⟨nofun,λk c=>by simp_all⟩
 |box s t =>simp only[BG] at h<;>grind
 |arr s t =>simp only[BG] at h<;>grind
 |map s t =>simp only[BG] at h<;>grind
 |barr s t =>simp only[BG] at h;repeat' split at h<;>grind
 |bown s t =>
  simp only[BG] at h;repeat' split at h
  all_goals first|cases h|skip
  ·exact ⟨λ_=>by simp,λk c=>by simp at c;subst c;exact ⟨_,by assumption⟩⟩
  ·refine ⟨λ_=>by simp,λk c=>?_⟩;simp at c;rcases c with rfl|rfl
   ·exact ⟨_,by assumption⟩
   ·exact ⟨_,by assumption⟩
 |fown s a t b =>
  simp only[BG] at h;repeat' split at h
  all_goals first|cases h|skip
  ·exact ⟨λ_=>by simp,λk c=>by simp at c;subst c;exact ⟨_,by assumption⟩⟩
  ·refine ⟨λ_=>by simp,λk c=>?_⟩;simp at c;rcases c with rfl|rfl
   ·exact ⟨_,by assumption⟩
   ·exact ⟨_,by assumption⟩
 |fbox s t own =>
  simp only[BG] at h;split at h
  ·obtain⟨h1,d,_⟩:=N2 h<;>simp_all
  ·cases h
 |nbox t own =>
  simp only[BG] at h;split at h
  ·obtain⟨h1,d,_⟩:=N2 h<;>simp_all
  ·cases h
theorem KM:∀ {l} {p},DN R st l=some p->JB (·∈p.gone) l p.keys/\∀k∈p.gone,∃o,assoc st.heap k=some o
 |[],p,h=>by simp only[DN,Qaf] at h;subst h;exact ⟨trivial,nofun⟩
 |[i],p,h=>by
  simp only[DN] at h;split at h
  ·rename_i g hg;cases h;obtain⟨h1,d⟩:=Xi hg;exact ⟨⟨h1,trivial⟩,d⟩
  ·cases h
 |i::j::r,p,h=>by
  simp only[DN] at h;split at h
  ·rename_i g q hg t;cases h;obtain⟨h1,d⟩:=Xi hg;obtain⟨v,h4⟩:=KM t;refine ⟨⟨λc=>Qah _ (h1 c),MB (λk c=>Qan _ c) v⟩,λk c=>?_⟩<;>grind
  ·cases h
theorem aT (I:∀k,¬B.D k):∀ {l} {p} {rem} {sc} {d},DN R st l=some p->Src B R st μ O O1 w tmps (p.gone++rem)->(p.gone++rem).Nodup ->
 (∀k∈p.frz,∀q b,μ k=some q->q.block=some b->¬O1 b/\b<w.heap.size)->JB (· < n0) l p.keys->Inv B R st μ O1 w tmps R1 n0 (p.gone++rem) sc d->∃μ',Inv B R st μ O1 w tmps R1 n0 rem (unpack l p.keys p.val sc) μ'
 |[],p,rem,sc,d,h,_,_,_,_,y=>by simp only[DN,Qaf] at h;subst h;exact ⟨d,y⟩
 |[i],p,rem,sc,d,h,hS,E,t,c,y=>by
  simp only[DN] at h;split at h
  ·rename_i g hg;cases h;exact aS I hS hg E t c.1 y
  ·cases h
 |i::j::r,p,rem,sc,d,h,hS,E,t,c,y=>by
  simp only[DN] at h;split at h
  ·rename_i g q hg J;cases h;have o:∀k,k∈q.gone++(g.gone++rem)↔k∈g.gone++q.gone++rem:=λk=>by grind
   have v:(q.gone++(g.gone++rem)).Nodup:=by grind
   obtain⟨X,h1⟩:=aT I J {hS with own:=λk c=>hS.own k ((o k).1 c)} v (λk c=>t k (Qan _ c)) c.2 (y.weaken λk c=>(o k).1 c);exact aS I {hS with own:=λk c=>hS.own k (by rcases List.mem_append.1 c with h|h<;>simp[h])} hg (List.nodup_append.1 v).2.1 (λk c=>t k (Qah _ c)) c.1 h1
  ·cases h
theorem Wg {i key x sc} (h:Apart R1 sc) (p:∀s,A6 i=some s->assoc R1.renv s=none) (d:keyed i=true->assoc R1.rheap key=none):Apart R1 (SK i key x sc):=by
 have env:∀ {s:Nat} {v:Option AVal},assoc R1.renv s=none->∀t,assoc R1.renv t≠none->assoc ((s,v)::sc.env) t=none:=λ{s v} p t y=>by have c:¬s=t:=λe=>y (e▸p);rw[AE,if_neg c];exact h.env t y
 have heap:∀ {k:Nat} {o:AObj},assoc R1.rheap k=none->∀t,assoc R1.rheap t≠none->assoc ((k,o)::sc.heap) t=none:=λ{k o} p t y=>by have c:¬k=t:=λe=>y (e▸p);rw[AE,if_neg c];exact h.heap t y
 have new:assoc R1.rheap sc.next=none:=by
  cases I:assoc R1.rheap sc.next with
  |none=>rfl
  |some o=>exact absurd (h.next sc.next (by simp_all)) (Qcm _)
 cases i with
 |slot s t=>exact ⟨env (p s rfl),h.heap,h.next⟩
 |own s t=>exact ⟨env (p s rfl),heap new,λk d=>Qca (h.next k d)⟩
 |box s t=>exact ⟨h.env,heap (d rfl),h.next⟩
 |arr s t=>exact ⟨h.env,heap (d rfl),h.next⟩
 |map s t=>exact ⟨h.env,heap (d rfl),h.next⟩
 |barr s t=>exact ⟨h.env,heap (d rfl),h.next⟩
 |bown s t =>refine ⟨h.env,λu g=>?_,λk d=>Qca (h.next k d)⟩;show assoc ((key,_)::(sc.next,_)::sc.heap) u=none;have c:¬key=u:=λe=>g (e▸d rfl);rw[AE,if_neg c]<;>simp_all
 |fown s a t b =>refine ⟨h.env,λu g=>?_,λk d=>Qca (h.next k d)⟩;show assoc ((key,_)::(sc.next,_)::sc.heap) u=none;have c:¬key=u:=λe=>g (e▸d rfl);rw[AE,if_neg c]<;>simp_all
 |fbox s t own =>obtain⟨h1,E⟩:=Tc t h;refine ⟨h1.env,λu g=>?_,h1.next⟩;have c:¬key=u:=λe=>g (e▸d rfl);show assoc ((key,_)::(IJ own t 0 x sc).2.heap) u=none;rw[AE,if_neg c];exact h1.heap u g
 |nbox t own =>obtain⟨h1,E⟩:=Tc t h;refine ⟨h1.env,λu g=>?_,h1.next⟩;have c:¬key=u:=λe=>g (e▸d rfl);show assoc ((key,_)::(IJ own t 0 x sc).2.heap) u=none;rw[AE,if_neg c];exact h1.heap u g
theorem QH:∀ {l} {ks} {x} {sc},Apart R1 sc->(∀s∈l.filterMap A6,assoc R1.renv s=none)->JB (λk=>assoc R1.rheap k=none) l ks->Apart R1 (unpack l ks x sc)
 |[],_,_,_,h,_,_=>h
 |[i],ks,x,sc,h,c,d=>Wg h (λs hi=>c s (by simp[hi])) d.1
 |i::j::r,ks,x,sc,h,c,d=>by refine Wg (QH h (λs g=>c s ?_) d.2) (λs hi=>c s (by simp[hi])) d.1<;>simp_all
theorem XE {i key x sc}:sc.next<=(SK i key x sc).next:=by
 have key:∀own T off x sc,sc.next<=(IJ own T off x sc).2.next:=λown T off x sc=>(Tc (R1:={renv:=[],rheap:=[]}) T ⟨λ_ h=>absurd rfl h,λ_ h=>absurd rfl h,λ_ h=>absurd rfl h⟩).2;cases i;case fbox s t own=>exact key own t 0 x sc
 case nbox t own=>exact key own t 0 x sc
 all_goals simp[SK]
theorem RZ:∀ {l} {ks} {x} {sc},sc.next<=(unpack l ks x sc).next
 |[],_,_,_=>Qaa _
 |[_],_,_,_=>XE
 |_::_::_,_,_,_=>Qbh RZ XE
end
end Go.Den
namespace Go.Den
open Go.RowKit
section
variable {B:Base} {R:RO} {st:St} {μ:AI} {O O1:Nat->Prop} {w:World} {tmps:Array Value} {R1:RO} {n0:Nat}
theorem RelM.move {R' st'} (h:RelM B R st μ O w) (c:∀k o,st'.obj R' k=some o->st.obj R k=some o) (d:st.next<=st'.next):RelM B R' st' μ O w :=
 {h with
  heap:=λk o e=>h.heap k o (c k o e)
  own:=λk o e=>h.own k o (c k o e)
  inj:=λk k' o o' e g=>h.inj k k' o o' (c k o e) (c k' o' g)
  dom:=λk p e=>(h.dom k p e).imp (λh=>Qac h d) id}
theorem Nt {ks k}:∀ {h},assoc (dropKeys ks h) k=if k∈ks then none else assoc h k
 |[]=>by simp[dropKeys,assoc]
 |(a,o)::r=>by
  simp only[dropKeys];split
  ·rename_i e;have c:=any_beq.1 e;rw[Nt,AE]<;>grind
  ·rename_i e;have c:a∉ks:=λd=>by rw[any_beq.2 d] at e;cases e
   rw[AE,AE,Nt]<;>grind
theorem NZ {k t l}:∀ {h},assoc h k=some (.arr t l)->k∈KC h
 |[],h=>by simp[assoc] at h
 |(a,.box _)::r,h=>by
  rw[AE] at h;split at h
  ·cases h
  ·exact NZ (h:=r) h
 |(a,.map _ _)::r,h=>by
  rw[AE] at h;split at h
  ·cases h
  ·exact NZ (h:=r) h
 |(a,.arr _ _)::r,h=>by
  rw[AE] at h;split at h
  ·rename_i e;subst e;exact Qbr
  ·exact Qak _ (NZ h)
theorem FI {k}:∀ {h},k∈KC h->∃o,assoc h k=some o
 |[],h=>by cases h
 |(a,.box _)::r,h=>by
  rw[AE];split
  ·exact ⟨_,rfl⟩
  ·exact FI h
 |(a,.map _ _)::r,h=>by
  rw[AE];split
  ·exact ⟨_,rfl⟩
  ·exact FI h
 |(a,.arr _ _)::r,h=>by
  rw[AE];split
  ·exact ⟨_,rfl⟩
  ·rename_i c;rcases List.mem_cons.1 h with e|h
   ·exact absurd e.symm c
   ·exact FI h
theorem nodup_iff:∀ {l},nodup l=true->l.Nodup
 |[],_=>List.nodup_nil
 |a::r,h=>by simp only[nodup,Qab,Qal] at h;exact List.nodup_cons.2 ⟨λc=>by (rw[any_beq.2 c] at h<;>simp_all),nodup_iff h.2⟩
theorem mH {a b} (h:Qa a b=true):∀k∈a,k∉b:=λk c d=>by unfold Qa at h;rw[List.all_eq_true] at h;have:=h k c;simp only[Qal] at this;rw[any_beq.2 d] at this;cases this
theorem r9 {i g} (h:BG R st i=some g) (v:∀s t own,i≠.fbox s t own) (y:∀t own,i≠.nbox t own):∀k∈g.frz,∃t l,st.obj R k=some (.arr t l):=by
 cases i with
 |slot s t =>
  simp only[BG] at h;split at h
  ·split at h
   ·rename_i d;cases h;exact JN d
   ·cases h
  ·cases h
 |box s t =>
  simp only[BG] at h;split at h
  ·split at h
   ·split at h
    ·rename_i d;cases h;exact GN t d
    ·cases h
   ·cases h
  ·cases h
 |own s t =>simp only[BG] at h<;>grind
 |arr s t =>simp only[BG] at h<;>grind
 |map s t =>simp only[BG] at h<;>grind
 |barr s t =>simp only[BG] at h;repeat' split at h<;>grind
 |bown s t =>simp only[BG] at h;repeat' split at h<;>grind
 |fown s a t b =>
  simp only[BG] at h;split at h
  ·split at h
   ·split at h
    ·rename_i o;split at h
     ·rename_i p;have key:∀k,k∈_\/k∈_->∃t l,st.obj R k=some (.arr t l):=λk c=>c.elim (λc=>GN a o k c) λc=>GN b p k c<;>grind
     ·cases h
    ·cases h
   ·cases h
  ·cases h
 |fbox s t own=>exact absurd rfl (v s t own)
 |nbox t own=>exact absurd rfl (y t own)
theorem Vq {i g} (h:BG R st i=some g):∀k∈g.frz,∃t l,st.obj R k=some (.arr t l):=by
 cases i with
 |fbox s t own =>
  simp only[BG] at h;split at h
  ·exact (N2 h).2.2
  ·cases h
 |nbox t own =>
  simp only[BG] at h;split at h
  ·exact (N2 h).2.2
  ·cases h
 |_=>exact r9 h nofun nofun
theorem Uj:∀ {l} {p},DN R st l=some p->∀k∈p.frz,∃t l,st.obj R k=some (.arr t l)
 |[],p,h=>by simp only[DN,Qaf] at h<;>grind
 |[i],p,h=>by
  simp only[DN] at h;split at h
  ·rename_i g hg;cases h;exact Vq hg
  ·cases h
 |i::j::r,p,h=>by
  simp only[DN] at h;split at h
  ·rename_i g q hg d;cases h;intro k c;rcases List.mem_append.1 c with c|c
   ·exact Vq hg k c
   ·exact Uj d k c
  ·cases h
theorem VK {l p} (h:pack R st l=some p):DN R st l=some p/\p.gone.Nodup/\(∀k∈p.gone,k∉p.frz)/\∀k∈p.frz,assoc R.rheap k=none:=by
 unfold pack at h;split at h
 ·rename_i q c;split at h
  ·rename_i h1 d;cases h;simp only[Qab] at h1;refine ⟨c,nodup_iff h1.1,mH h1.2,λk g=>?_⟩<;>grind
  ·cases h
 ·cases h
def IK (st:St) (gone:List Nat):List Nat:=(KC st.heap).filter λk=>!gone.any (Nat.beq k)
theorem mem_fzOf {gone k}:k∈IK st gone↔k∈KC st.heap/\k∉gone:=by
 unfold IK;rw[List.mem_filter];refine and_congr_right λ_=>?_;simp only[Qal];constructor
 ·intro h c;rw[any_beq.2 c] at h;cases h
 ·intro h;cases d:gone.any (Nat.beq k)<;>simp_all
theorem Apart.noKey {k o} (h:Apart R st) (c:assoc st.heap k=some o):assoc R.rheap k=none:=by
 cases d:assoc R.rheap k with
 |none=>rfl
 |some o'=>rw[h.heap k (by simp_all)] at c;cases c
theorem AbW (hB:∀k,¬B.D k) {l:List Item} {p:Uv (Fh l)} (a1:pack R st l=some p) (hM:RelM B R st μ O w) (hE:CN R st μ O w tmps) (a6:Apart R st)
 (v:∀O1,RelM B R {env:=[],heap:=Ef (st.obj R) (IK st p.gone) st.heap,next:=st.next} μ O1 w->Keeps w O w O1->(∀x u,BW w O μ x u->BW w O1 μ (My (st.obj R) (IK st p.gone) x) u) ->
   ∃E,Inv B R st μ O1 w tmps R1 n0 p.gone {env:=[],heap:=[],next:=n0} E) (y:JB (· < n0) l p.keys) :
 ∃μ' O1,Keeps w O w O1/\Inv B R st μ O1 w tmps R1 n0 [] (unpack l p.keys p.val {env:=[],heap:=[],next:=n0}) μ':=by
 obtain⟨hp,a7,I,a8⟩:=VK a1;have g:∀k∈IK st p.gone,∃o,assoc st.heap k=some o:=λk c=>FI (mem_fzOf.1 c).1;obtain⟨O1,J,Z,hb⟩:=hM.freeze (IK st p.gone) (λk c=>by obtain⟨o,d⟩:=g k c;exact noKey_iff.2 (a6.noKey d)) (λk c=>by obtain⟨o,d⟩:=g k c;exact ⟨o,by simp[St.obj,d]⟩) [];obtain⟨E,hI⟩:=v O1 J Z λx u hx=>Qh Z hM.heap hb x hx;obtain⟨_,hg⟩:=KM hp;have aa:∀k∈p.frz,k∈IK st p.gone:=λk c=>by
  obtain⟨t,l',d⟩:=Uj hp k c;have hl:assoc st.heap k=some (.arr t l'):=by
   unfold St.obj at d;split at d
   ·rename_i h;cases d;exact h
   ·rw[a8 k c] at d;cases d
  exact mem_fzOf.2 ⟨NZ hl,λhm=>I k hm c⟩
 have X:∀k∈p.gone++[],∀o,st.obj R k=some o->∀q b,μ k=some q->q.block=some b->O1 b:=λk c o _ q b hq ab=>by
  have Y:k∈p.gone:=by simpa using c
  obtain⟨o',ad⟩:=hg k Y;have ae:k∉IK st p.gone:=λhm=>(mem_fzOf.1 hm).2 Y;refine (J.own k (X4 (st.obj R) (IK st p.gone) o') ?_ q b hq ab).1;simp[St.obj,F7,ae,ad]
 obtain⟨μ',af⟩:=aT hB (rem:=[]) hp (O:=O) (O1:=O1) (tmps:=tmps) ⟨hM,hE,Z,X⟩ (by simpa using a7) (λk c=>hb k (aa k c)) y (by simpa using hI);exact ⟨μ',O1,Z,af⟩
structure Anchor (R:RO) (n:Nat):Prop where
 env:∀s v,assoc R.renv s=some (some v)->wR n v
 heap:∀k o,assoc R.rheap k=some o->k<n/\wQ n o
theorem get_nil {n s}:({env:=[],heap:=[],next:=n}:St).get R s=(assoc R.renv s).join:=rfl
theorem SA {n k}:({env:=[],heap:=[],next:=n}:St).obj R k=assoc R.rheap k:=rfl
theorem Inv.base_again {gone fz O1} (hA:Anchor R n0) (hE:CN R st μ O w tmps) (h:Apart R st) (hg:∀k∈gone,∃o,assoc st.heap k=some o)
 (t:RelM B R {env:=[],heap:=Ef (st.obj R) fz st.heap,next:=st.next} μ O1 w) (hK:Keeps w O w O1):∃a1,Inv B R st μ O1 w tmps R n0 gone {env:=[],heap:=[],next:=n0} a1:=by
 let y:= λk=>if k<n0 then μ k else none
 have hr:∀k,k<n0->y k=μ k:=λk Y=>by simp[y,Y]
 have d:∀k p,y k=some p->k<n0/\μ k=some p:=λk p J=>by grind
 have c:∀k o,assoc R.rheap k=some o->({env:=[],heap:=Ef (st.obj R) fz st.heap,next:=st.next}:St).obj R k=some o:=λk o Y=>by have:=h.heap k (by simp_all);simp[St.obj,F7,this,Y]
 have E:∀k o,assoc R.rheap k=some o->st.obj R k=some o:=λk o Y=>by have:=h.heap k (by simp_all);simp[St.obj,this,Y]
 refine ⟨y,⟨{t with heap:=λk o g=>?_,own:=λk o g p b J hb=>?_,inj:=λk k' o o' h1 X p Z b J I=>?_,dom:=λk p J=>.inl (d k p J).1},λs v hv=>?_,hr,Qaa _,λk' o' g Z b I hb=>?_⟩⟩
 ·rw[SA] at g;obtain⟨h1,X⟩:=hA.heap k o g;exact AbP hr h1 o X (t.heap k o (c k o g))
 ·rw[SA] at g;exact t.own k o (c k o g) p b (d k p J).2 hb
 ·rw[SA] at h1 X;exact t.inj k k' o o' (c k o h1) (c k' o' X) p Z b (d k p J).2 (d k' Z I).2
 ·rw[get_nil] at hv;cases ha:assoc R.renv s with
  |none=>simp_all
  |some u =>rw[ha] at hv;subst hv;refine AbR hr v _ (hA.env s v ha) (D3 hK (μle.refl _) v (hE s v ?_));have:=h.env s (by simp_all);simp[St.get,this,ha]
 ·rw[SA] at g;refine ⟨k',o',Z,E k' o' g,λhm=>?_,(d k' Z I).2,hb⟩;obtain⟨o2,X⟩:=hg k' hm;rw[h.noKey X] at g;cases g
theorem At.again {N μ0 O0 w0 a l p} (Z:∀k,¬B.D k) (c:At B R N μ0 O0 w0 st μ O a w) (h:Apart R st) (v:pack R st l=some p) (X:Anchor R n0)
 (h0:∀k q,μ0 k=some q->k<n0) (t:JB (· < n0) l p.keys) (d:∀s∈l.filterMap A6,assoc R.renv s=none) :
 ∃μ' O',At B R N μ0 O0 w0 (unpack l p.keys p.val {env:=[],heap:=[],next:=n0}) μ' O' a w/\Apart R (unpack l p.keys p.val {env:=[],heap:=[],next:=n0}):=by
 obtain⟨hp,_,_,_⟩:=VK v;obtain⟨y,hg⟩:=KM hp;obtain⟨μ',O1,E,I⟩:=AbW Z v c.mem c.env h (λO1 J E _=>Inv.base_again X c.env h hg J E) t;refine ⟨μ',O1,⟨I.mem,I.env,c.defers,c.size,λk q g=>?_,c.keeps.trans E,λk q g=>Qac (h0 k q g) (RZ (sc:={env:=[],heap:=[],next:=n0}))⟩,QH ⟨λ_ _=>rfl,λ_ _=>rfl,λk g=>?_⟩ d (MB (λk g=>?_) y)⟩
 ·rw[I.agree k (h0 k q g)];exact c.le k q g
 ·cases Y:assoc R.rheap k with
  |none=>exact absurd Y g
  |some o=>exact (X.heap k o Y).1
 ·obtain⟨o,ho⟩:=hg k g;exact h.noKey ho
end
end Go.Den
namespace Go.Den
open Go.RowKit
section
variable {B:Base} {R:RO} {st:St} {μ:AI} {O O1:Nat->Prop} {w:World} {tmps:Array Value} {N:Nat} {μ0:AI} {O0:Nat->Prop} {w0:World} {a:Act}
theorem fP {gone c}:Bt R st gone c=(Qg (st.obj R) (IK st gone) (dropSlots c st.env),Ef (st.obj R) (IK st gone) (dropKeys gone st.heap)):=rfl
theorem Qt {gone c s}:assoc (Bt R st gone c).1 s=if s∈c then none else (assoc st.env s).map (Option.map (My (st.obj R) (IK st gone))):=by rw[fP];simp only[PC,Hn]<;>grind
theorem Q9 {gone c k}:assoc (Bt R st gone c).2 k=if k∈IK st gone then none else if k∈gone then none else (assoc st.heap k).map (X4 (st.obj R) (IK st gone)):=by rw[fP];simp only[F7,Nt]<;>grind
theorem At.enter {l p c} (hB:∀k,¬B.D k) (g:At B R N μ0 O0 w0 st μ O a w) (J:Apart R st) (a8:pack R st l=some p) (aa:∀s∈l.filterMap A6,s∈c) (a6:∀s∈c,assoc R.renv s=none) :
 ∃μ' O',At B (within R (Bt R st p.gone c)) N μ0 O0 w0 (unpack l p.keys p.val {env:=[],heap:=[],next:=st.next}) μ' O' a w/\Apart (within R (Bt R st p.gone c)) (unpack l p.keys p.val {env:=[],heap:=[],next:=st.next}) /\
  Anchor (within R (Bt R st p.gone c)) st.next/\(∀k q,μ0 k=some q->k<st.next)/\JB (· < st.next) l p.keys/\∀s∈l.filterMap A6,assoc (within R (Bt R st p.gone c)).renv s=none:=by
 obtain⟨hp,_,_,_⟩:=VK a8
 obtain⟨ab,hg⟩:=KM hp
 have a1:= λk q d=>(g.mem.dom k q d).elim id λh=>absurd h (hB k)
 have y:∀k o,st.obj R k=some o->k<st.next:=λk o t=>by obtain⟨q,hq⟩:=(g.mem.heap k o t).some<;>simp_all
 have ad:= MB (λk d=>by obtain⟨o,t⟩:=hg k d;exact y k o (by simp[St.obj,t])) ab
 have E:∀s∈l.filterMap A6,assoc (within R (Bt R st p.gone c)).renv s=none:=λs hs=>by have h1:=aa s hs;simp[within,Dg,Qt,h1,a6 s h1]
 have I:∀k o,assoc (within R (Bt R st p.gone c)).rheap k=some o->({env:=[],heap:=Ef (st.obj R) (IK st p.gone) st.heap,next:=st.next}:St).obj R k=some o/\k∉p.gone/\∃o0,st.obj R k=some o0:=λk o d=>by
  simp only[within,Dg,Q9] at d;by_cases hf:k∈IK st p.gone
  ·simp only[hf,if_true,Qet] at d;obtain⟨o',a7⟩:=FI (mem_fzOf.1 hf).1;rw[J.noKey a7] at d;cases d
  ·by_cases X:k∈p.gone
   ·simp only[hf,X,if_true,if_false,Qet] at d;obtain⟨o',a7⟩:=hg k X;rw[J.noKey a7] at d;cases d
   ·simp only[hf,X,if_false] at d;cases hh:assoc st.heap k with
    |none =>rw[hh] at d;simp only[Qce,Qet] at d;exact ⟨by simp[St.obj,F7,hh,hf,d],X,o,by simp[St.obj,hh,d]⟩
    |some o1 =>rw[hh] at d;simp only[Qai,Option.orElse_some,Qaf] at d;exact ⟨by simp[St.obj,F7,hh,hf,d],X,o1,by simp[St.obj,hh]⟩
 have Y:∀O1,RelM B R {env:=[],heap:=Ef (st.obj R) (IK st p.gone) st.heap,next:=st.next} μ O1 w->Keeps w O w O1->(∀x u,BW w O μ x u->BW w O1 μ (My (st.obj R) (IK st p.gone) x) u) ->
  Inv B R st μ O1 w a.tmps (within R (Bt R st p.gone c)) st.next p.gone {env:=[],heap:=[],next:=st.next} μ:=λO1 ag hK ah=>by
  refine ⟨ag.move (λk o t=>(I k o t).1) (Qaa _),λs v Z=>?_,λ_ _=>rfl,Qaa _,λk' o' t p' b ai hb=>?_⟩
  ·rw[get_nil] at Z;simp only[within,Dg,Qt] at Z;have outer:(assoc R.renv s).join=some v->BW w O1 μ v (a.tmps.getD s undef):=λh=>by refine D3 hK (μle.refl _) v (g.env s v ?_);have:= J.env s (λe=>by simp_all);simp[St.get,this,h]
   by_cases hs:s∈c
   ·simp_all
   ·simp only[hs,if_false] at Z;cases he:assoc st.env s with
    |none=>simp_all
    |some u =>
     rw[he] at Z;simp only[Qai,Option.orElse_some,Option.join_some] at Z;cases u with
     |none=>cases Z
     |some x =>simp only[Qai,Qaf] at Z;subst Z;exact ah x _ (g.env s x (by simp[St.get,he]))
  ·rw[SA] at t;obtain⟨_,h2,o0,h3⟩:=I k' o' t;exact ⟨k',o0,p',h3,h2,ai,hb⟩
 obtain⟨μ',O1,hK,hI⟩:=AbW hB a8 g.mem g.env J (λO1 h1 h2 h3=>⟨μ,Y O1 h1 h2 h3⟩) ad
 have hA:Anchor (within R (Bt R st p.gone c)) st.next:=by obtain⟨O2,aj,ae,ak⟩:=g.mem.freeze (IK st p.gone) (λk d=>by obtain⟨o,t⟩:=FI (mem_fzOf.1 d).1;exact noKey_iff.2 (J.noKey t)) (λk d=>by obtain⟨o,t⟩:=FI (mem_fzOf.1 d).1;exact ⟨o,by simp[St.obj,t]⟩) [];have af:=Y O2 aj ae λx u hx=>Qh ae g.mem.heap ak x hx;refine ⟨λs v Z=>AbQ a1 v _ (af.env s v (by rw[get_nil,Z];rfl)),λk o t=>⟨?_,AbO a1 o (af.mem.heap k o t)⟩⟩;obtain⟨_,_,o0,h3⟩:=I k o t;exact y k o0 h3
 refine ⟨μ',O1,⟨hI.mem,hI.env,g.defers,g.size,λk q d=>?_,g.keeps.trans hK,λk q d=>Qac (g.dom0 k q d) (RZ (sc:={env:=[],heap:=[],next:=st.next}))⟩,QH ⟨λ_ _=>rfl,λ_ _=>rfl,λk d=>?_⟩ E (MB (λk d=>?_) ab),hA,g.dom0,ad,E⟩
 ·rw[hI.agree k (g.dom0 k q d)];exact g.le k q d
 ·cases hr:assoc (within R (Bt R st p.gone c)).rheap k with
  |none=>exact absurd hr d
  |some o=>exact (hA.heap k o hr).1
 ·cases hr:assoc (within R (Bt R st p.gone c)).rheap k with
  |none=>rfl
  |some o=>exact absurd d (I k o hr).2.1
theorem Abb {rest s}:(leave rest st).get R s=st.get (within R rest) s:=by simp only[leave,within,St.get,Dg]<;>grind
theorem Abc {rest k}:(leave rest st).obj R k=st.obj (within R rest) k:=by simp only[leave,within,St.obj,Dg]<;>grind
theorem At.leave {rest} (h:At B (within R rest) N μ0 O0 w0 st μ O a w):At B R N μ0 O0 w0 (leave rest st) μ O a w :=
 ⟨h.mem.move (λk o c=>by rw[Abc] at c;exact c) (Qaa _),λs v d=>h.env s v (by rw[Abb] at d;exact d),h.defers,h.size,h.le,h.keeps,h.dom0⟩
theorem Apart.leave {d gone c} (h:Apart (within R (Bt R d gone c)) st) (h0:Apart R d):Apart R (leave (Bt R d gone c) st):=by
 refine ⟨λs o=>?_,λk g=>?_,λk g=>?_⟩
 ·have h1:= h.env s (by simp only[within,Dg,Qt]<;>simp_all);simp[Den.leave,Dg,h1,Qt,h0.env s o]
 ·have h1:= h.heap k (by simp only[within,Dg,Q9]<;>simp_all);simp[Den.leave,Dg,h1,Q9,h0.heap k g]
 ·refine h.next k ?_;simp only[within,Dg,Q9]<;>simp_all
end
end Go.Den
namespace Go.Den
open Go.RowKit
def AExit.toExit:AExit->Exit
 |.normal=>.normal
 |.exit id=>.exit id
 |.ret=>.ret
 |.goto l=>.goto l
def CU (N:Nat):Code->Bool
 |.region _ ops _=>(dsts ops.toList).all (Nat.blt · N)
 |.seq a b | .cond _ a b=>CU N a&&CU N b
 |.block _ a | .loop a | .scope a=>CU N a
 |.rangeFunc ..=>false
 |_=>true
theorem mL:∀ {l} {i:Nat} {o} {d},l[i]?=some o->o.dst=some d->d∈dsts l
 |[],i,o,d,h,_=>by simp at h
 |o'::r,0,o,d,h,c=>by simp at h;subst h;simp[dsts,c]
 |o'::r,i+1,o,d,h,c=>by have:=mL (by simpa using h) c;simp only[dsts]<;>grind
theorem Ui {ops draw} {N id} (h:CU N (.region id ops draw)=true):∀(i:Nat) o,ops.toList[i]?=some o->∀d,o.dst=some d->d<N:=λi o c d g=>by simp only[CU] at h;have:=List.all_eq_true.1 h d (mL c g)<;>simp_all
theorem Og:∀ {a b},Ki a b=true->a=b
 |[],[],_=>rfl
 |[],_::_,h=>by cases h
 |_::_,[],h=>by cases h
 |x::l,y::m,h=>by
  simp only[Ki] at h;split at h
  ·rename_i c;rw[beq_true c,Og h]
  ·cases h
def Pv (C:Ctx) (B:Base) (inl:Gc):Prop :=
 ∀ {A:Type} {Good:A->Prop} {bad:A},¬Good bad->∀ {R:RO} {N id:Nat} {ops:Array Oper} {Q:Exit->Act->World->Prop},
  (∀(i:Nat) (o:Oper),ops.toList[i]?=some o->∀d,o.dst=some d->d<N) ->
  ∀ {st:St} {μ:AI} {O:Nat->Prop} {a:Act} {w:World} {μ0:AI} {O0:Nat->Prop} {w0:World},At B R N μ0 O0 w0 st μ O a w->Apart R st ->
  ∀ {K:St->A},(∀st' μ' O' c w',Apart R st'->At B R N μ0 O0 w0 st' μ' O' c w'->Good (K st')->Q .normal c w') ->
  Good (cI C inl R ops.toList st K bad)->(Code.region id ops true).wp C.P Q a w
def kB (C:Ctx) (B:Base) (inl:Gc) (hs:Hints) (N:Nat) (c:Code):Prop :=
 ∀ {A:Type} {Good:A->Prop} {bad:A},¬Good bad->∀ {R:RO} {Q:Exit->Act->World->Prop}
  {st:St} {μ:AI} {O:Nat->Prop} {a:Act} {w:World} {μ0:AI} {O0:Nat->Prop} {w0:World},At B R N μ0 O0 w0 st μ O a w->Apart R st ->
  ∀ {K:AExit->St->A},(∀e st' μ' O' d w',Apart R st'->At B R N μ0 O0 w0 st' μ' O' d w'->Good (K e st')->Q e.toExit d w') ->
  Good (Bi C inl hs c R st K bad)->c.wp C.P Q a w
theorem mM {C inl hs c A R st K} {id} (d:∀b,c≠.loop b) {bad:A} :
 Bi C inl hs (.block id c) R st K bad=Bi C inl hs c R st (λe st'=>match e with
  |.normal=>K .normal st'
  |.exit i=>match Nat.beq i id with
   |true=>K .normal st'
   |false=>K (.exit i) st'
  |.ret=>K .ret st'
  |.goto l=>K (.goto l) st') bad:=by
 cases c<;>first|rfl|exact absurd rfl (d _)
section
variable {C:Ctx} {B:Base} {inl:Gc} {hs:Hints} {N:Nat}
theorem Ac6 {R st μ O a w μ0 O0 w0 c b} (d:At B R N μ0 O0 w0 st μ O a w) (y:Apart R st) (E:a.eval c=.bool b) :
 At B R N μ0 O0 w0 (known R c b st) μ O a w/\Apart R (known R c b st):=by
 unfold known;split
 ·rename_i t;split
  ·rename_i I;refine ⟨⟨d.mem.congr (λk o h=>h) (Qaa _),λs v g=>?_,d.defers,d.size,d.le,d.keeps,d.dom0⟩,?_⟩
   ·simp only[St.get,AE] at g;by_cases p:t=s
    ·subst p;simp only[if_true] at g;cases g;exact E
    ·rw[if_neg p] at g;exact d.env s v g
   ·exact y.put I (some (.v (.c (.bool b))))
  simp_all
 simp_all
theorem Qj {Q a w} {id i} (h:(i=id->Q .normal a w)/\(i≠id->Q (.exit i) a w)):Exit.inBlock id Q (.exit i) a w:=by unfold Exit.inBlock<;>simp_all
theorem Xk {p items ks} (h:JB p items ks):∀l:List (Nat×Ty),JB p (Re l++items) (aZ (Re l) ks)
 |[]=>h
 |(_,_)::r=>⟨λc=>absurd (show false=true from c) (by decide),Xk h r⟩
theorem AbB {p items ks} (h:JB p items ks) c:JB p (Fk hs c++items) (aZ (Fk hs c) ks):=by
 unfold Fk;split
 ·split
  ·exact Xk h _
  ·exact h
 ·exact h
theorem Agi {R st μ O a w μ0 O0 w0} (c:At B R N μ0 O0 w0 st μ O a w) (d:Apart R st) ks (I:∀k∈ks,k∈KC st.heap) :
 ∃O1,At B R N μ0 O0 w0 (st.frz R ks) μ O1 a w/\Apart R (st.frz R ks):=by
 have h:= λk t=>FI (I k t);obtain⟨O1,h1,J,_,h4⟩:=Gr c.mem ks (λk t=>by obtain⟨o,X⟩:=h k t;exact noKey_iff.2 (d.noKey X)) (λk t=>by obtain⟨o,X⟩:=h k t;exact ⟨o,by simp[St.obj,X]⟩);refine ⟨O1,⟨h1,λs x g=>?_,c.defers,c.size,c.le,c.keeps.trans J,λk p Y=>by rw[Dx];exact c.dom0 k p Y⟩,⟨λs v=>uX (d.env s v),λk v=>mU (d.heap k v),λk v=>by rw[Dx];exact d.next k v⟩⟩;cases ks with
 |nil=>exact D3 J (μle.refl _) x (c.env s x g)
 |cons k ks =>
  simp only[St.frz,St.get,PC] at g;cases E:assoc st.env s with
  |none =>rw[E] at g;exact D3 J (μle.refl _) x (c.env s x (by simp only[St.get,E];exact g))
  |some o =>
   rw[E] at g;simp only[Qai] at g;cases o with
   |none=>cases g
   |some y =>simp only[Qai,Qaf] at g;subst g;exact h4 y _ (c.env s y (by simp only[St.get,E]))
theorem AcS {R st μ O a w μ0 O0 w0} (c:At B R N μ0 O0 w0 st μ O a w) (d:Apart R st) hs id :
 ∃O1,At B R N μ0 O0 w0 (jS hs id R st) μ O1 a w/\Apart R (jS hs id R st):=by
 unfold jS;split
 ·exact Agi c d _ λ_ h=>h
 grind
theorem Cc (hC:DG C B) (Z:∀k,¬B.D k) (E:HD C B inl) (o:Pv C B inl) hs c (hN:CU N c=true):kB C B inl hs N c:=by
 intro A Good bad hbad R Q st μ O a w μ0 O0 w0 t d K I h;match c with
 |.skip=>exact wp_skip (I .normal _ _ _ _ _ d t h)
 |.label _=>exact wp_label (I .normal _ _ _ _ _ d t h)
 |.exit id=>exact wp_exit (I (.exit id) _ _ _ _ _ d t h)
 |.ret=>exact wp_ret (I .ret _ _ _ _ _ d t h)
 |.region id ops false=>exact y8 hC hbad Z E (Ui hN) t d (λst' μ' O' a' w' h1 v g=>I .normal st' μ' O' a' w' h1 v g) h
 |.region id ops true =>obtain⟨O1,t,d⟩:=AcS t d hs id;exact o hbad (Ui hN) t d (λst' μ' O' a' w' h1 v g=>I .normal st' μ' O' a' w' h1 v g) h
 |.scope c =>
  refine wp_scope_straight (Cc hC Z E o hs c hN hbad t d (λe st' μ' O' a' w' h1 v g=>?_) h);cases e with
  |goto l=>exact absurd g hbad
  |_=>exact I _ st' μ' O' a' w' h1 v g
 |.cond c x y =>
  simp only[CU,Qab] at hN;simp only[Bi] at h;split at h
  ·rename_i b hb;have hv:= AT t.env hb;obtain⟨h1,v⟩:=Ac6 t d hv;cases b with
   |true=>exact wp_cond_true hv (Cc hC Z E o hs x hN.1 hbad h1 v I h)
   |false=>exact wp_cond_false hv (Cc hC Z E o hs y hN.2 hbad h1 v I h)
  simp_all
 |.seq x y =>
  simp only[CU,Qab] at hN;simp only[Bi] at h;refine wp_seq ?_;split at h
  ·refine Cc hC Z E o hs x hN.1 hbad t d (λe st' μ' O' a' w' h1 v g=>?_) h;cases e with
   |normal=>exact Cc hC Z E o hs y hN.2 hbad v h1 I g
   |exit i=>exact I (.exit i) _ _ _ _ _ h1 v g
   |ret=>exact I .ret _ _ _ _ _ h1 v g
   |goto l=>exact I (.goto l) _ _ _ _ _ h1 v g
  ·rename_i items _;split at h
   ·exact absurd h hbad
   rename_i p hp;split at h
   ·exact absurd h hbad
   rename_i aa;have a8:=freeAll_iff.1 aa;obtain⟨ad,O1,a1,a6,hA,h0,hk,ae⟩:=t.enter Z d hp (λs hs=>Qah _ (by simp_all)) a8;have af:∀s∈(Fk hs y++items).filterMap A6,assoc (within R (Bt R st p.gone ((Fk hs y++items).filterMap A6++Ba x))).renv s=none:=λs hs=>by have h1:s∈(Fk _ y++items).filterMap A6++Ba x:=Qah _ hs;simp only[within,Dg,Qt,h1,if_true,a8 s h1,Qet]
   unfold CT at h;refine Cc hC Z E o hs x hN.1 hbad a1 a6 (λe st' μ' O' a' w' h1 v g=>?_) h;cases e with
   |normal =>
    simp only at g;split at g
    ·rename_i q hq;split at g
     ·rename_i J;have J:=Og J;obtain⟨ag,O2,X,Y⟩:=v.again Z h1 hq hA h0 (by rw[J];exact AbB hk y) af;rw[J] at X Y;exact Cc hC Z E o hs y hN.2 hbad X.leave (Y.leave d) I g
     simp_all
    simp_all
   |exit i=>exact I (.exit i) _ _ _ _ _ (h1.leave d) v.leave g
   |ret=>exact I .ret _ _ _ _ _ (h1.leave d) v.leave g
   |goto l=>exact I (.goto l) _ _ _ _ _ (h1.leave d) v.leave g
 |.block id c =>
  by_cases hl:∃b,c=.loop b
  ·obtain⟨body,rfl⟩:=hl;simp only[CU] at hN;simp only[Bi] at h;split at h
   ·split at h
    ·exact absurd h hbad
    rename_i n hn;refine wp_block (wp_loop_rounds n ?_);clear hn;induction n generalizing st μ O a w with
    |zero=>exact absurd h hbad
    |succ n ih =>
     rw[rounds_succ];refine Cc hC Z E o hs body hN hbad t d (λe st' μ' O' a' w' h1 v g=>?_) h;cases e with
     |normal=>exact ih v h1 g
     |exit i =>
      refine Qj ⟨λhi=>?_,λhi=>?_⟩
      ·subst hi;simp only[Qeb] at g;exact I .normal _ _ _ _ _ h1 v g
      ·simp only at g;split at g
       ·simp_all
       ·exact I (.exit i) _ _ _ _ _ h1 v g
     |ret=>exact I .ret _ _ _ _ _ h1 v g
     |goto l=>exact I (.goto l) _ _ _ _ _ h1 v g
   rename_i items _;refine wp_block (wp_loop_rounds Am ?_);split at h
   ·exact absurd h hbad
   rename_i p hp;split at h
   ·exact absurd h hbad
   rename_i aa;obtain⟨ad,O1,a1,a6,hA,h0,hk,ae⟩:=t.enter Z d hp (λs hs=>Qah _ hs) (freeAll_iff.1 aa);generalize Am=n at h ⊢;generalize p.val=x at h a1 a6;clear t;induction n generalizing x ad O1 a w with
   |zero=>exact absurd h hbad
   |succ n ih =>
    rw[rounds_succ];unfold iter at h;let KS:AExit->St->Step (Fh items).interp A:=λe st'=>match e with
     |.normal=>match pack (within R (Bt R st p.gone (items.filterMap A6++Ba body))) st' items with
      |some q=>match Ki q.keys p.keys with
       |true=>.next q.val
       |false=>.done bad
      |none=>.done bad
     |.exit i=>.done (match Nat.beq i id with
      |true=>K .normal (leave (Bt R st p.gone (items.filterMap A6++Ba body)) st')
      |false=>K (.exit i) (leave (Bt R st p.gone (items.filterMap A6++Ba body)) st'))
     |.ret=>.done (K .ret (leave (Bt R st p.gone (items.filterMap A6++Ba body)) st'))
     |.goto l=>.done (K (.goto l) (leave (Bt R st p.gone (items.filterMap A6++Ba body)) st'))
    let GS:Step (Fh items).interp A->Prop:=λs=>match s with
     |.next s'=>Good (iter bad
       (λx=>Bi C inl hs body (within R (Bt R st p.gone (items.filterMap A6++Ba body))) (unpack items p.keys x {env:=[],heap:=[],next:=st.next}) KS (.done bad)) n s')
     |.done a=>Good a
    refine Cc (Good:=GS) (bad:=.done bad) hC Z E o hs body hN hbad a1 a6 (K:=KS) (λe st' μ' O' a' w' h1 v g=>?_) ?_
    ·cases e with
     |normal =>
      simp only[KS] at g;split at g
      ·rename_i q hq;split at g
       ·rename_i J;have J:=Og J;obtain⟨ag,O2,X,Y⟩:=v.again Z h1 hq hA h0 (by rw[J];exact hk) ae;rw[J] at X Y;exact ih _ _ _ g X Y
       ·exact absurd g hbad
      ·exact absurd g hbad
     |exit i =>
      refine Qj ⟨λhi=>?_,λhi=>?_⟩
      ·subst hi;have a7:Good (match Nat.beq i i with
        |true=>K .normal (leave (Bt R st p.gone (items.filterMap A6++Ba body)) st')
        |false=>K (.exit i) (leave (Bt R st p.gone (items.filterMap A6++Ba body)) st')):=g;rw[Qeb] at a7;exact I .normal _ _ _ _ _ (h1.leave d) v.leave a7
      ·have a7:Good (match Nat.beq i id with
        |true=>K .normal (leave (Bt R st p.gone (items.filterMap A6++Ba body)) st')
        |false=>K (.exit i) (leave (Bt R st p.gone (items.filterMap A6++Ba body)) st')):=g;split at a7
       ·rename_i hb;exact absurd (beq_true hb) hi
       ·exact I (.exit i) _ _ _ _ _ (h1.leave d) v.leave a7
     |ret=>exact I .ret _ _ _ _ _ (h1.leave d) v.leave g
     |goto l=>exact I (.goto l) _ _ _ _ _ (h1.leave d) v.leave g
    ·split at h
     ·rename_i s' ab;exact (congrArg GS ab).mpr h
     ·rename_i a' ab;exact (congrArg GS ab).mpr h
  rw[mM λb hb=>hl ⟨b,hb⟩] at h;refine wp_block (Cc hC Z E o hs c hN hbad t d (λe st' μ' O' a' w' h1 v g=>?_) h);cases e with
  |normal=>exact I .normal _ _ _ _ _ h1 v g
  |exit i =>
   refine Qj ⟨λhi=>?_,λhi=>?_⟩
   ·subst hi;simp only[Qeb] at g;exact I .normal _ _ _ _ _ h1 v g
   ·simp only at g;split at g
    ·rename_i hb;exact absurd (beq_true hb) hi
    ·exact I (.exit i) _ _ _ _ _ h1 v g
  |ret=>exact I .ret _ _ _ _ _ h1 v g
  |goto l=>exact I (.goto l) _ _ _ _ _ h1 v g
 |.loop _=>exact absurd h hbad
 |.rangeFunc ..=>exact absurd h hbad
 |.goto l=>exact wp_goto (I (.goto l) _ _ _ _ _ d t h)
 |.refuse _=>exact absurd h hbad
  termination_by SizeOf.sizeOf c
  decreasing_by all_goals (subst_vars;simp;try omega)
end
end Go.Den
namespace Go.Den
open Go.RowKit
abbrev More (h h':Nat->Option AObj) (ks:List Nat):Prop:=∀k∈ks,∀o,h k=some o->h' k=some o
theorem More.left {h h' a b} (m:More h h' (a++b)):More h h' a:=λk c=>m k (Qah _ c)
theorem More.right {h h' a b} (m:More h h' (a++b)):More h h' b:=λk c=>m k (Qan _ c)
theorem Nz {h h'}:∀ {T} {cs} {x} {r} {ks},dec h T cs=some (x,r,ks)->More h h' ks->dec h' T cs=some (x,r,ks):=by
 intro T;induction T with
 |int k =>
  intro cs x r ks e m;match cs with
  |[]=>simp[dec] at e
  |c::d=>cases c<;>first|simpa only[dec] using e|simp[dec] at e
 |bool =>
  intro cs x r ks e m;match cs with
  |[]=>simp[dec] at e
  |c::d=>cases c<;>first|simpa only[dec] using e|simp[dec] at e
 |unit =>intro cs x r ks e m;simpa[dec] using e
 |slice t _ =>
  intro cs x r ks e m;match cs with
  |[]=>simp[dec] at e
  |.sl t' l::d=>simpa[dec] using e
  |.nils::d=>simpa[dec] using e
  |.ref k::d =>
   simp only[dec] at e;split at e
   ·rename_i t' l o;split at e
    ·rename_i l' p;cases e;simp[dec,m k (by simp) _ o,p]
    ·cases e
   ·cases e
  |.sub k lo n::d =>
   simp only[dec] at e;split at e
   ·rename_i t' l o;split at e
    ·rename_i l' p;cases e;simp[dec,m k (by simp) _ o,p]
    ·cases e
   ·cases e
  |.int _ _::d=>simp[dec] at e
  |.bool _::d=>simp[dec] at e
  |.ptr _ _::d=>simp[dec] at e
  |.eptr _ _::d=>simp[dec] at e
  |.nilp::d=>simp[dec] at e
  |.mref _::d=>simp[dec] at e
  |.lit _::d=>simp[dec] at e
 |pair a b v E =>
  intro cs x r ks e m;simp only[dec] at e;split at e
  ·rename_i y r1 f h1;split at e
   ·rename_i z r2 g I;cases e;simp[dec,v h1 m.left,E I m.right]
   ·cases e
  ·cases e
theorem LZ {h h' T v x ks} (e:GM h T v=some (x,ks)) (m:More h h' ks):GM h' T v=some (x,ks):=by
 unfold GM at e;split at e
 ·rename_i y f c;cases e;simp[GM,Nz c m]
 ·cases e
theorem eH {h h' T}:∀ {n} {cs} {xs} {ks},KW h T n cs=some (xs,ks)->More h h' ks->KW h' T n cs=some (xs,ks)
 |0,[],xs,ks,e,_=>by simpa[KW] using e
 |0,_::_,xs,ks,e,_=>by simp[KW] at e
 |n+1,cs,xs,ks,e,m=>by
  simp only[KW] at e;split at e
  ·rename_i x r f h1;split at e
   ·rename_i ys g c;cases e;simp[KW,Nz h1 m.left,eH c m.right]
   ·cases e
  ·cases e
theorem eW {h h' T}:∀ {l} {n} {xs} {ks},lits h T n l=some (xs,ks)->More h h' ks->lits h' T n l=some (xs,ks)
 |[],n,xs,ks,e,_=>by simpa[lits] using e
 |(i,v)::r,n,xs,ks,e,m=>by
  simp only[lits] at e;split at e
  ·rename_i x f ys g h1 c d;cases e;simp[lits,h1,LZ c m.left,eW d m.right]
  ·cases e
theorem Ed {h h'}:∀ {d} {vs} {x} {ks},BY h d vs=some (x,ks)->More h h' ks->BY h' d vs=some (x,ks)
 |[],[],x,ks,e,_=>by simpa[BY] using e
 |[],_::_,x,ks,e,_=>by simp[BY] at e
 |[t],[],x,ks,e,_=>by simp[BY] at e
 |[t],[v],x,ks,e,m=>by
  have c:(match I9 t v with|true=>GM h t v|false=>none)=some (x,ks):=e;show (match I9 t v with|true=>GM h' t v|false=>none)=some (x,ks);split at c
  ·exact LZ c m
  ·cases c
 |[t],_::_::_,x,ks,e,_=>by simp[BY] at e
 |t::u::r,[],x,ks,e,_=>by simp[BY] at e
 |t::u::r,v::vs,x,ks,e,m=>by
  simp only[BY] at e;split at e
  ·rename_i y f ys g h1 o p;cases e;simp[BY,h1,LZ o m.left,Ed p m.right]
  ·cases e
theorem N9 {h h' c T l ks} (e:GR h c=some ⟨T,l,ks⟩) (m:More h h' ks):GR h' c=some ⟨T,l,ks⟩:=by
 unfold GR at e;split at e
 ·cases e;rfl
 ·rename_i k;split at e
  ·rename_i g l' d;cases e;simp[GR,m k (by simp) _ d]
  ·cases e
 ·rename_i k lo n;split at e
  ·rename_i g l' d;cases e;simp[GR,m k (by simp) _ d]
  ·cases e
 ·cases e
def PN (n n':Nat) (e c:Eff):Prop:=(n'=n->c=e)/\(e.upd=[]->c={e with next:=n'})
def Fine (n n':Nat) (x:Option AOut) (e:Eff):Prop:=∃c d,x=some c/\c.run=some d/\PN n n' e d
section
variable {P:Program} {C:Ctx} {R:RO} {st st':St} {out:AOut} {e:Eff}
theorem Fine.ok {n n' x c d} (h:x=some (.ok d)) (g:PN n n' c d):Fine n n' x c:=⟨_,_,h,rfl,g⟩
theorem Fine.chk {n n' x b c d} (h:x=some (.chk b d)) (g:b=true) (o:PN n n' c d):Fine n n' x c:=⟨_,_,h,by subst g;rfl,o⟩
theorem Fine.opt {n n' x T c} {o} {y} {f} (h:x=some (.opt T o f)) (d:o=some y) (g:PN n n' c (f y)):Fine n n' x c:=⟨_,f y,h,by subst d;rfl,g⟩
theorem Fine.alts {n n' x l l' e} (h:x=some (.alts l')) (c:(AOut.alts l).run=some e) (g:All2 (λa b=>a.1=b.1/\PN n n' a.2 b.2) l l'):Fine n n' x e:=by
 replace c:Ia l=some e:=c;suffices ∃d,Ia l'=some d/\PN n n' e d from let ⟨d,h1,o⟩:=this;⟨_,d,h,h1,o⟩;clear h;induction g with
 |nil=>cases c
 |cons h1 _ p =>rename_i a b l m;simp only[Ia] at c ⊢<;>grind
theorem AP {d c rd n n'}:PN n n' {dst:=d,frz:=c,reads:=rd,next:=n} {dst:=d,frz:=c,reads:=rd,next:=n'}:=⟨λh=>by rw[h],λ_=>rfl⟩
theorem wP {t v} (h:Gf P R st t v=some out) (c:out.run=some e) (m:More (st.obj R) (st'.obj R) e.reads):Fine st.next st'.next (Gf P R st' t v) e:=by
 unfold Gf at h;repeat' split at h
 all_goals first|cases h|skip
 ·cases BF c;rename_i k off _ cs d _ y o;have:=m k (by simp) _ d;exact .ok (by simp only[Gf,this,o];rfl) AP
 ·obtain⟨x,p,rfl⟩:=Ck c;rename_i k i _ _ T l inf d hi _ _ g h1 E _ I;have:=m _ (by simp) _ d;exact .opt (by simp only[Gf,this,hi,h1,E,I];rfl) p AP
 ·cases BF c;rename_i o;exact .ok (by simp only[Gf,o];rfl) AP
 ·cases BF c;rename_i hg _;exact .ok (by simp only[Gf,hg];rfl) AP
 ·cases BF c;rename_i hg _;exact .ok (by simp only[Gf,hg];rfl) AP
 ·obtain⟨x,p,rfl⟩:=Ck c;rename_i d _ v0 J;have:=m _ (by simp) _ d;exact .opt (by simp only[Gf,this,J];rfl) p AP
theorem bV {t k i T l sz v} (h:Ho P R st t k i T l sz v=some out) (c:out.run=some e) (m:More (st.obj R) (st'.obj R) e.reads):k∈e.reads/\Fine st.next st'.next (Ho P R st' t k i T l sz v) e:=by
 unfold Ho at h;repeat' split at h
 all_goals first|cases h|skip
 obtain⟨d,rfl⟩:=Bu c;rename_i n E h1 _ _ _ xs I g o h4 _ p;exact ⟨by simp,.chk (by simp only[Ho,h1,g,o,eH (h':=st'.obj R) h4 λk y=>m k (by simp[y]),p];rfl) d ⟨λh=>by rw[h],λh=>by cases h⟩⟩
theorem bI {t} (h:Hk P st t=some out) (c:out.run=some e):Fine st.next st'.next (Hk P st' t) e:=by
 unfold Hk at h;repeat' split at h
 all_goals first|cases h|skip
 all_goals (cases BF c;exact .ok (by simp only[Hk, *];rfl) ⟨λh=>by rw[h],λh=>by cases h⟩)
theorem rF {t a v} (h:GI P R st t a v=some out) (o:out.run=some e) (m:More (st.obj R) (st'.obj R) e.reads) (p:More (assoc st.heap) (assoc st'.heap) e.reads):Fine st.next st'.next (GI P R st' t a v) e:=by
 unfold GI at h;repeat' split at h
 all_goals first|cases h|skip
 ·cases BF o;rename_i inf hi _ h1 _ k off _ cs d _ g;have:=p k (by simp) _ d;exact .ok (by simp only[GI,hi,h1,this,g];rfl) ⟨λh=>by rw[h],λh=>by cases h⟩
 ·obtain⟨x,I,rfl⟩:=Ck o;rename_i inf hi _ h1 _ k i _ T l d _ _ y Z g J _ h4;have:=p k (by simp) _ d;exact .opt (by simp only[GI,hi,h1,this,g,LZ (h':=st'.obj R) J λk d=>m k (by simp[d]),h4];rfl) I ⟨λh=>by rw[h],λh=>by cases h⟩
 ·rename_i inf hi _ h1 _ k i _ T l d _ _ g;obtain⟨E,X⟩:=bV h o m;have:=p k E _ d;have Y:GI P R st' t (some (.v (.c (.eptr k i)))) v=Ho P R st' t k i T l inf.size v:=by simp only[GI,hi,h1,this,g]
  rw[Y];exact X
theorem Aaq {op k k' x y} (h:Rj st op k x k' y=some out) (c:out.run=some e):Fine st.next st'.next (Rj st' op k x k' y) e:=by
 unfold Rj at h;repeat' split at h
 all_goals first|cases h|skip
 all_goals first
  |(cases BF c;exact .ok (by simp only[Rj, *];rfl) AP)
  |(obtain⟨d,rfl⟩:=Bu c;exact .chk (by simp only[Rj, *];rfl) d AP)
theorem qQ {t ps} (h:Mj P st t ps=some out) (c:out.run=some e):Fine st.next st'.next (Mj P st' t ps) e:=by
 unfold Mj at h;repeat' split at h
 all_goals first|cases h|skip
 all_goals (cases BF c;exact .ok (by simp only[Mj, *];rfl) AP)
theorem XM {t n ps} (h:ER P R st t n ps=some out) (c:out.run=some e) (m:More (st.obj R) (st'.obj R) e.reads):Fine st.next st'.next (ER P R st' t n ps) e:=by
 unfold ER at h;repeat' split at h
 all_goals first|cases h|skip
 cases BF c;rename_i d;have:=eW d m;exact .ok (by simp only[ER, *];rfl) ⟨λh=>by simp only[h],λh=>by cases h⟩
theorem Y6 {t l c} (h:FC P st t l c=some out) (d:out.run=some e):Fine st.next st'.next (FC P st' t l c) e:=by
 unfold FC at h;repeat' split at h
 all_goals first|cases h|skip
 obtain⟨g,rfl⟩:=Bu d;exact .chk (by simp only[FC, *];rfl) g ⟨λh=>by simp only[h],λh=>by cases h⟩
theorem bN {t ps} (h:Gm P R st t ps=some out) (c:out.run=some e) (d:∀l,fnParts R st 0 ps=some l->fnParts R st' 0 ps=some l):Fine st.next st'.next (Gm P R st' t ps) e:=by
 unfold Gm at h;repeat' split at h
 all_goals first|cases h|skip
 cases BF c;rename_i g _ _ _;have:=d _ g;exact .ok (by simp only[Gm, *];rfl) AP
theorem Ve {n}:∀ {l} {j},All2 (λa b=>a.1=b.1/\PN st.next st'.next a.2 b.2) (PB st n j l) (PB st' n j l)
 |[],_=>.nil
 |_::_,_=>.cons ⟨rfl,AP⟩ Ve
theorem bP {t l n} (h:Hl P st t l n=some out) (c:out.run=some e):Fine st.next st'.next (Hl P st' t l n) e:=by
 unfold Hl at h;repeat' split at h
 all_goals first|cases h|skip
 exact .alts (by simp only[Hl, *]) c Ve
theorem bO {t n ps} (h:FH P R st t n ps=some out) (c:out.run=some e) (d:∀l,fnParts R st 0 ps=some l->fnParts R st' 0 ps=some l):Fine st.next st'.next (FH P R st' t n ps) e:=by
 unfold FH at h;repeat' split at h
 all_goals first|cases h|skip
 cases BF c;rename_i g _ _;have:=d _ g;exact .ok (by simp only[FH, *];rfl) AP
theorem Xf {n}:∀ {l} {j},All2 (λa b=>a.1=b.1/\PN st.next st'.next a.2 b.2) (Sr st n j l) (Sr st' n j l)
 |[],_=>.nil
 |_::_,_=>.cons ⟨rfl,AP⟩ Xf
theorem bQ {t l n} (h:Hm P st t l n=some out) (c:out.run=some e):Fine st.next st'.next (Hm P st' t l n) e:=by
 unfold Hm at h;repeat' split at h
 all_goals first|cases h|skip
 exact .alts (by simp only[Hm, *]) c Xf
theorem gM {t} (h:IC P st t=some out) (c:out.run=some e):Fine st.next st'.next (IC P st' t) e:=by
 unfold IC at h;repeat' split at h
 all_goals first|cases h|skip
 cases BF c;exact .ok (by simp only[IC, *];rfl) ⟨λh=>by rw[h],λh=>by cases h⟩
theorem kY {t g v} (h:Jk P R st t g v=some out) (o:out.run=some e) (m:More (st.obj R) (st'.obj R) e.reads):Fine st.next st'.next (Jk P R st' t g v) e:=by
 unfold Jk at h;repeat' split at h
 all_goals first|cases h|skip
 cases BF o;rename_i T k p _ J l c _ _ _ X y d E I;exact .ok (by simp only[Jk,p,m k (by simp) _ c,d,E,LZ (h':=st'.obj R) I λ_ c=>by cases c];rfl) AP
theorem kZ {t g v b} (h:Jl P R st t g v b=some out) (o:out.run=some e) (p:More (assoc st.heap) (assoc st'.heap) e.reads):Fine st.next st'.next (Jl P R st' t g v b) e:=by
 unfold Jl at h;repeat' split at h
 all_goals first|cases h|skip
 cases BF o;rename_i T k E _ X l c _ _ _ Y y d I J;exact .ok (by simp only[Jl,E,p k (by simp) _ c,d,I,LZ (h':=st'.obj R) J λ_ c=>by cases c];rfl) ⟨λh=>by rw[h],λh=>by cases h⟩
theorem Y0 {t n x} (h:FB P st t n x=some out) (c:out.run=some e):Fine st.next st'.next (FB P st' t n x) e:=by
 unfold FB at h;repeat' split at h
 all_goals first|cases h|skip
 all_goals (cases BF c;exact .ok (by simp only[FB, *];rfl) AP)
theorem Y1 {t x n} (h:DA P R st t x n=some out) (o:out.run=some e) (m:More (st.obj R) (st'.obj R) e.reads):Fine st.next st'.next (DA P R st' t x n) e:=by
 unfold DA at h;repeat' split at h
 all_goals first|cases h|skip
 ·obtain⟨x,d,rfl⟩:=Ck o;exact .opt (by simp only[DA, *];rfl) d AP
 ·obtain⟨x,d,rfl⟩:=Ck o;rename_i p _ _;have:=m _ (by simp) _ p;exact .opt (by simp only[DA, *];rfl) d AP
 ·obtain⟨x,d,rfl⟩:=Ck o;rename_i p _ _;have:=m _ (by simp) _ p;exact .opt (by simp only[DA, *];rfl) d AP
 ·rename_i el v _ inf g _ k off _ y;exact .alts (l':=[(eqI n 0,Eff.c st' (.ptr k off)),(eqI n 1,Eff.c st' (.ptr k (off+inf.size)))]) (by simp only[DA,v,g,y]) o (.cons ⟨rfl,AP⟩ (.cons ⟨rfl,AP⟩ .nil))
theorem Aat {x} (h:Rm R st x=some out) (d:out.run=some e) (m:More (st.obj R) (st'.obj R) e.reads):Fine st.next st'.next (Rm R st' x) e:=by
 unfold Rm at h;repeat' split at h
 all_goals first|cases h|skip
 ·obtain⟨o,rfl⟩:=Bu d;exact .chk rfl o AP
 ·cases BF d;exact .ok rfl AP
 ·cases BF d;rename_i p;have:=N9 p m;unfold Rm;split
  ·simp_all
  ·simp_all
  ·rename_i c _ _ g;cases g;simp only[this];exact .ok rfl AP
  simp_all
theorem PT {g k}:∀ {vs} {acc} {out} {e},EB st g k acc vs=some out->out.run=some e->Fine st.next st'.next (EB st' g k acc vs) e
 |[],acc,out,e,h,d=>by simp only[EB,Qaf] at h;subst h;cases BF d;exact .ok rfl AP
 |.a _::_,acc,out,e,h,d=>by simp[EB] at h
 |.c c::r,acc,out,e,h,d=>by
  cases c<;>simp only[EB,reduceCtorEq] at h;split at h
  ·rename_i o;simp only[EB,o];exact PT h d
  ·cases h
theorem resEff_like {c rd fr res x}:PN st.next st'.next (DO st c rd fr res x) (DO st' c rd fr res x)/\(DO st c rd fr res x).reads=rd:=by
 unfold DO;cases fr with
 |false=>exact ⟨AP,rfl⟩
 |true =>
  simp only;split
  ·exact ⟨⟨λh=>by rw[h],λh=>by cases h⟩,rfl⟩
  ·exact ⟨⟨λh=>by rw[h],λh=>by cases h⟩,rfl⟩
  ·exact ⟨AP,rfl⟩
theorem qS {f vs} (h:I5 C R st f vs=some out) (E:out.run=some e) (m:More (st.obj R) (st'.obj R) e.reads) (J:More (assoc st.heap) (assoc st'.heap) e.reads):Fine st.next st'.next (I5 C R st' f vs) e:=by
 unfold I5 at h;split at h
 ·rename_i t0 X rs fn tot k rest d;split at h
  ·rename_i cs o p;split at h
   ·rename_i x Y xs Z t v;split at h
    ·rename_i g;cases h;cases E;exact ⟨_,_,by simp only[I5,d,m k (by simp[II]) _ o,p,Nz (h':=st'.obj R) t λj c=>m j (by simp[II,c]),Ed (h':=st'.obj R) v λj c=>m j (by simp[II,c])];rfl,rfl,λh=>by simp only[II,h],λh=>rfl⟩
    ·cases h;obtain⟨y,I,rfl⟩:=Ck E;exact .opt (by simp only[I5,d,m k (by simp[II]) _ o,p,Nz (h':=st'.obj R) t λj c=>m j (by simp[II,c]),Ed (h':=st'.obj R) v λj c=>m j (by simp[II,c])];rfl) I ⟨λh=>by simp only[II,h],λh=>rfl⟩
   ·cases h
  ·cases h
 ·rename_i t0 X t1 rs fn tot k rest d;split at h
  ·rename_i cs o;split at h
   ·rename_i x Y xs Z t v;split at h
    ·rename_i g;cases h;cases E;exact ⟨_,_,by simp only[I5,d,J k (by simp[Qb]) _ o,Nz (h':=st'.obj R) t λj c=>m j (by simp[Qb,c]),Ed (h':=st'.obj R) v λj c=>m j (by simp[Qb,c])];rfl,rfl,λh=>by simp only[Qb,h],λh=>by cases h⟩
    ·cases h;obtain⟨y,I,rfl⟩:=Ck E;exact .opt (by simp only[I5,d,J k (by simp[Qb]) _ o,Nz (h':=st'.obj R) t λj c=>m j (by simp[Qb,c]),Ed (h':=st'.obj R) v λj c=>m j (by simp[Qb,c])];rfl) I ⟨λh=>by simp only[Qb,h],λh=>by cases h⟩
   ·cases h
  ·cases h
 ·cases h
theorem QW {gone rd t rs y}:PN st.next st'.next (JR st gone rd t rs y) (JR st' gone rd t rs y) :=
 ⟨λh=>by simp only[JR,h],λh=>by simp[JR] at h⟩
theorem qR {f vs} (h:H9 C R st f vs=some out) (E:out.run=some e) (m:More (st.obj R) (st'.obj R) e.reads) (ml:More (assoc st.heap) (assoc st'.heap) e.reads):Fine st.next st'.next (H9 C R st' f vs) e:=by
 unfold H9 at h;split at h
 ·rename_i t ts t' rs fr fn tot c rest d;split at h
  ·rename_i xs f1 o v;split at h
   ·split at h
    ·rename_i g;cases h;cases E;exact ⟨_,_,by simp only[H9,d,o,Ed (h':=st'.obj R) v λj p=>m j (by simp[JR,p])];rfl,rfl,QW⟩
    ·cases h;obtain⟨y,I,rfl⟩:=Ck E;exact .opt (by simp only[H9,d,o,Ed (h':=st'.obj R) v λj p=>m j (by simp[JR,p])]) I QW
   ·rename_i k;split at h
    ·rename_i T l0 Y J X;split at h
     ·rename_i l hc;split at h
      ·rename_i g;cases h;cases E;exact ⟨_,_,by simp only[H9,d,o,Ed (h':=st'.obj R) v λj p=>m j (by simp[JR,p]),ml k (by simp[JR]) _ Y,J,X,hc];rfl,rfl,QW⟩
      ·cases h;obtain⟨y,I,rfl⟩:=Ck E;exact .opt (by simp only[H9,d,o,Ed (h':=st'.obj R) v λj p=>m j (by simp[JR,p]),ml k (by simp[JR]) _ Y,J,X,hc]) I QW
     ·cases h
    ·cases h
   ·cases h
  ·cases h
 ·rename_i ts fr fn tot k rest d;split at h
  ·rename_i T l xs f1 Y v;split at h
   ·rename_i Z;cases h;obtain⟨y,I,rfl⟩:=Ck E;exact .opt (by simp only[H9,d,m k (by simp[X0]) _ Y,Ed (h':=st'.obj R) v λj p=>m j (by simp[X0,p]),Z];rfl) I ⟨λh=>by simp only[X0,h],λh=>rfl⟩
   ·cases h
  ·cases h
 ·cases h
theorem Adi {own}:∀T {off} {y} {n n'},(EP own T off y n).2.1=[]->EP own T off y n'=((EP own T off y n).1,[],n'):=by
 intro T;induction T with
 |int k=>intro off y n n' _;rfl
 |bool=>intro off y n n' _;rfl
 |unit=>intro off y n n' _;rfl
 |slice t _ =>intro off y n n' h;simp only[EP] at h ⊢<;>grind
 |pair a b c d =>
  intro off y n n' h;rcases g:EP own a off y.1 n with ⟨cs,u,m⟩
  rcases o:EP own b (off+a.size) y.2 m with ⟨ds,v,k⟩
  have e:EP own (.pair a b) off y n=(cs++ds,u++v,k):=by simp only[EP,g,o]
  rw[e] at h ⊢;obtain⟨rfl,rfl⟩:=List.append_eq_nil_iff.1 h;have p:=c (n':=n') (by rw[g]);have E:=d (n':=n') (by rw[o]);rw[g] at p;rw[o] at E;simp only[EP,p,E,Qbd]
theorem qU {f vs} (h:Ml C R st f vs=some out) (g:out.run=some e) (m:More (st.obj R) (st'.obj R) e.reads):Fine st.next st'.next (Ml C R st' f vs) e:=by
 unfold Ml at h;split at h
 ·rename_i v t own fn c;split at h
  ·rename_i x ks o d;cases h;obtain⟨y,p,rfl⟩:=Ck g;refine .opt (by simp only[Ml,c,Ed (h':=st'.obj R) o m,d];rfl) p ⟨λh=>by simp only[Va,h],λh=>?_⟩;have:=Adi (n':=st'.next) t h;simp only[Va] at h ⊢<;>simp_all
  ·cases h
 ·cases h
theorem qT {f vs} (h:Mk C R st f vs=some out) (o:out.run=some e) (m:More (st.obj R) (st'.obj R) e.reads):Fine st.next st'.next (Mk C R st' f vs) e:=by
 unfold Mk at h;split at h
 ·rename_i size los I rs fn k rest c;split at h
  ·rename_i cs p;split at h
   ·rename_i x xs d t g;cases h;obtain⟨y,v,rfl⟩:=Ck o;exact .opt (by simp only[Mk,c,m k (by simp[II]) _ p,d,t,Ed (h':=st'.obj R) g λj E=>by cases E];rfl) v ⟨λh=>by simp only[II,h],λh=>rfl⟩
   ·cases h
  ·cases h
 ·cases h
theorem SX {f vs} (h:KA C R st f vs=some out) (c:out.run=some e) (m:More (st.obj R) (st'.obj R) e.reads) (p:C.tbl f=none->More (assoc st.heap) (assoc st'.heap) e.reads):Fine st.next st'.next (KA C R st' f vs) e:=by
 unfold KA at h;split at h
 ·rename_i o;unfold KA;rw[o];split at h
  ·split at h
   ·split at h
    ·exact qS h c m (p o)
    ·exact qT h c m
   ·exact qU h c m
  ·exact qR h c m (p o)
 rename_i sp d;split at h
 ·cases h
 rename_i x ks t;simp only at h;split at h
 ·rename_i g hg;cases h;cases c;rw[resEff_like (st':=st').2] at m;have:=Ed t m;exact ⟨_,_,by simp only[KA,d,this,hg];rfl,rfl,resEff_like.1⟩
 ·rename_i hg;cases h;obtain⟨y,v,rfl⟩:=Ck c;rw[resEff_like (st':=st').2] at m;have:=Ed t m;exact .opt (by simp only[KA,d,this,hg]) v resEff_like.1
theorem kI {t s x} (h:DD P R st t s x=some out) (p:out.run=some e) (m:More (st.obj R) (st'.obj R) e.reads) (o:More (assoc st.heap) (assoc st'.heap) e.reads):Fine st.next st'.next (DD P R st' t s x) e:=by
 unfold DD at h;simp only at h;repeat' split at h
 all_goals first|cases h|skip
 all_goals obtain⟨d,rfl⟩:=Bu p
 ·exact .chk (by first|(simp only[DD, *];done)|(simp only[DD, *];rfl)) d ⟨λh=>by simp only[h],λh=>by cases h⟩
 ·rename_i g _ _;have:=N9 g m;exact .chk (by first|(simp only[DD, *];done)|(simp only[DD, *];rfl)) d ⟨λh=>by simp only[h],λh=>by cases h⟩
 ·rename_i c _ _ _;have:=o _ (by simp) _ c;exact .chk (by first|(simp only[DD, *];done)|(simp only[DD, *];rfl)) d ⟨λh=>by simp only[h],λh=>by cases h⟩
 ·rename_i c _ g _ _ _ _ _;have:=o _ (by simp) _ c;have v:=N9 g λk c=>m k (by simp[c]);exact .chk (by first|(simp only[DD, *];done)|(simp only[DD, *];rfl)) d ⟨λh=>by simp only[h],λh=>by cases h⟩
theorem gF {t s x} (h:D9 P R st t s x=some out) (d:out.run=some e) (g:More (assoc st.heap) (assoc st'.heap) e.reads):Fine st.next st'.next (D9 P R st' t s x) e:=by
 unfold D9 at h;repeat' split at h
 all_goals first|cases h|skip
 ·obtain⟨c,rfl⟩:=Bu d;exact .chk (by first|(simp only[D9, *];done)|(simp only[D9, *];rfl)) c ⟨λh=>by simp only[h],λh=>by cases h⟩
 ·obtain⟨c,rfl⟩:=Bu d;rename_i o p _ l' v;have:=g _ (by simp) _ o;exact .chk (by first|(simp only[D9, *];done)|(simp only[D9, *];rfl)) c ⟨λh=>by simp only[h],λh=>by cases h⟩
theorem kU {c k lo n} (h:LX st c=some (k,lo,n)) (d:∀o,assoc st.heap k=some o->assoc st'.heap k=some o):LX st' c=some (k,lo,n):=by
 unfold LX at h;split at h
 ·split at h
  ·rename_i g;cases h;simp only[LX,d _ g]
  ·cases h
 ·cases h;rfl
 ·cases h
theorem wJ {t d s} (h:KB P R st t d s=some out) (p:out.run=some e) (m:More (st.obj R) (st'.obj R) e.reads) (g:More (assoc st.heap) (assoc st'.heap) e.reads):Fine st.next st'.next (KB P R st' t d s) e:=by
 unfold KB at h;repeat' split at h
 all_goals first|cases h|skip
 cases BF p;rename_i v _ _ inf k lo n hi c _ T l y _ _ _ T' xs ks h1 E I _ J X;exact .ok (by simp only[KB,v,hi,kU (st':=st') c λo Y=>g k (by simp) o Y,g k (by simp) _ y,h1,E,N9 (h':=st'.obj R) I λj Z=>m j (by simp[Z]),X];rfl) ⟨λh=>by rw[h],λh=>by cases h⟩
end
end Go.Den
namespace Go.Den
open Go.RowKit
structure Mono (q:Prop) (R:RO) (xs:List Operand) (ks:List Nat) (st st':St):Prop where
 opv:∀x∈xs,∀v,opv R st x=some v->opv R st' x=some v
 obj:More (st.obj R) (st'.obj R) ks
 loc:q->More (assoc st.heap) (assoc st'.heap) ks
section
variable {P:Program} {C:Ctx} {R:RO} {st st':St} {out:AOut} {e:Eff} {xs:List Operand} {ks:List Nat} {q:Prop}
theorem Mono.opc {x c} (m:Mono q R xs ks st st') (d:x∈xs) (h:opc R st x=some c):opc R st' x=some c:=by have:=m.opv x d _ (TH h);simp[Den.opc,this]
theorem Mono.op1 {x c} (m:Mono q R xs ks st st') (d:x∈xs) (h:op1 R st x=some c):op1 R st' x=some c:=by
 unfold Den.op1 at h;split at h
 ·rename_i o g;cases h;simp[Den.op1,m.opv x d _ g]
 ·cases h
theorem Mono.ops1 (m:Mono q R xs ks st st'):∀ {l} {vs},(∀x∈l,x∈xs)->ops1 R st l=some vs->ops1 R st' l=some vs
 |[],vs,_,h=>by simpa[Den.ops1] using h
 |x::r,vs,c,h=>by
  simp only[Den.ops1] at h;split at h
  ·rename_i h1 d;cases h;simp[Den.ops1,m.op1 (c x (by simp)) h1,m.ops1 (λy g=>c y (by simp[g])) d]
  ·cases h
theorem Mono.cells (m:Mono q R xs ks st st'):∀ {l} {vs},(∀x∈l,x∈xs)->HI R st l=some vs->HI R st' l=some vs
 |[],vs,_,h=>by simpa[HI] using h
 |x::r,vs,c,h=>by
  simp only[HI] at h;split at h
  ·rename_i h1 d;cases h;simp[HI,m.opc (c x (by simp)) h1,m.cells (λy g=>c y (by simp[g])) d]
  ·cases h
theorem Mono.parts (m:Mono q R xs ks st st'):∀ {l} {vs},(∀x∈l,x.2∈xs)->Fl R st l=some vs->Fl R st' l=some vs
 |[],vs,_,h=>by simpa[Fl] using h
 |(i,x)::r,vs,c,h=>by
  simp only[Fl] at h;split at h
  ·rename_i h1 d;cases h;simp[Fl,m.op1 (c (i,x) (by simp)) h1,m.parts (λy g=>c y (by simp[g])) d]
  ·cases h
theorem Mono.noParts {ps l} (m:Mono q R xs ks st st') (c:∀x∈ps,x.2∈xs) (h:Fl R st ps=none) (d:Den.fnParts R st 0 ps=some l):Fl R st' ps=none:=by
 cases ps with
 |nil=>simp[Fl] at h
 |cons p r =>
  obtain⟨i,x⟩:=p;have g:= λv o=>m.opv x (c (i,x) (by simp)) v o;simp only[Den.fnParts] at d;split at d
  ·rename_i h1 _;simp[Fl,Den.op1,g _ h1]
  ·rename_i h1 _;simp[Fl,Den.op1,g _ h1]
  ·cases d
theorem Mono.fnParts (m:Mono q R xs ks st st'):∀ {ps} {j} {l},(∀x∈ps,x.2∈xs)->Den.fnParts R st j ps=some l->Den.fnParts R st' j ps=some l
 |[],j,l,_,d=>by simpa[Den.fnParts] using d
 |(i,x)::r,j,l,c,d=>by
  simp only[Den.fnParts] at d;split at d
  ·rename_i h1 g h;cases d;simp[Den.fnParts,h1,m.opv x (c (i,x) (by simp)) _ g,m.fnParts (λy o=>c y (by simp[o])) h]
  ·rename_i h1 g h;cases d;simp[Den.fnParts,h1,m.opv x (c (i,x) (by simp)) _ g,m.fnParts (λy o=>c y (by simp[o])) h]
  ·cases d
theorem rD {t x lo hi mx} (m:Mono q R xs ks st st') (E:∀y,lo=some y->y∈xs) (d:∀y,hi=some y->y∈xs) (g:∀k∈e.reads,k∈ks) (J:∀p,lo=none->hi=some p->q)
 (h:D7 P R st t x lo hi mx=some out) (v:out.run=some e):Fine st.next st'.next (D7 P R st' t x lo hi mx) e:=by
 unfold D7 at h;repeat' split at h
 all_goals first|cases h|skip
 ·cases BF v;exact .ok (by simp only[D7, *];rfl) AP
 ·obtain⟨c,rfl⟩:=Bu v;rename_i h1;have:=m.opc (E _ rfl) h1;exact .chk (by simp only[D7, *];rfl) c AP
 ·obtain⟨c,rfl⟩:=Bu v;rename_i h1;have:=m.opc (d _ rfl) h1;exact .chk (by simp only[D7, *];rfl) c AP
 ·obtain⟨c,rfl⟩:=Bu v;rename_i h1 I;have a1:=m.opc (E _ rfl) h1;have a6:=m.opc (d _ rfl) I;exact .chk (by simp only[D7, *];rfl) c AP
 ·obtain⟨c,rfl⟩:=Bu v;rename_i h1;have:=m.opc (d _ rfl) h1;exact .chk (by simp only[D7, *];rfl) c AP
 ·obtain⟨c,rfl⟩:=Bu v;rename_i k _ _ p _ _ _ _ j T l h1 I h3 _ _;have X:=m.opc (d _ rfl) h1;have Y:=m.loc (J _ rfl rfl) k (g k (by simp)) _ I;exact .chk (by simp only[D7, *];rfl) c ⟨λh=>by simp only[h],λh=>by cases h⟩
 ·obtain⟨c,rfl⟩:=Bu v;rename_i k _ _ p _ _ _ i T l h1 I _ _;have X:=m.opc (E _ rfl) h1;have Y:=m.obj k (g k (by simp)) _ I;exact .chk (by simp only[D7, *];rfl) c AP
 ·obtain⟨c,rfl⟩:=Bu v;rename_i k _ _ p p' _ _ _ _ i _ j T l h1 I h3 _ _;have X:=m.opc (E _ rfl) h1;have Y:=m.opc (d _ rfl) I;have e3:=m.obj k (g k (by simp)) _ h3;exact .chk (by simp only[D7, *];rfl) c AP
 ·obtain⟨c,rfl⟩:=Bu v;rename_i k o n _ T l h1 _ _ _ _ p _ _ j I;have X:=m.opc (d _ rfl) I;have Y:=m.obj k (g k (by simp)) _ h1;exact .chk (by simp only[D7, *];rfl) c AP
 ·obtain⟨c,rfl⟩:=Bu v;rename_i k o n _ T l h1 _ _ _ _ p _ _ j I;have X:=m.opc (E _ rfl) I;have Y:=m.obj k (g k (by simp)) _ h1;exact .chk (by simp only[D7, *];rfl) c AP
 ·rename_i n e hu;unfold JI at h;repeat' split at h
  all_goals first|cases h|skip
  ·obtain⟨c,rfl⟩:=Bu v;rename_i hi _ _ T l Z hk _ hs _;exact .chk (by simp only[D7,hu,JI,hi,Z,m.obj _ (g _ (by simp)) _ hk,hs];rfl) c AP
  ·obtain⟨c,rfl⟩:=Bu v;rename_i hi _ _ T l Z hk _ hs _ p _ _ j hj;exact .chk (by simp only[D7,hu,JI,hi,Z,m.obj _ (g _ (by simp)) _ hk,hs,m.opc (d _ rfl) hj];rfl) c AP
theorem Mono.opcO (m:Mono q R xs ks st st') {x:Operand} (d:x∈xs):Den.opc R st x=none\/Den.opc R st' x=Den.opc R st x:=by
 cases h:Den.opc R st x with
 |none=>exact .inl rfl
 |some c=>exact .inr (m.opc d h)
theorem Mono.opvO {x} (m:Mono q R xs ks st st') (d:x∈xs):Den.opv R st x=none\/Den.opv R st' x=Den.opv R st x:=by
 cases h:Den.opv R st x with
 |none=>exact .inl rfl
 |some c=>exact .inr (m.opv x d c h)
theorem rG {t v}:GI P R st t none v=none:=by unfold GI<;>grind
theorem rE {t lo hi c}:D7 P R st t none lo hi c=none:=by
 unfold D7;split
 ·grind
 ·unfold JI<;>simp_all
 ·rfl
theorem QO {t n}:DA P R st t none n=none:=by unfold DA<;>grind
theorem gG {t x}:DD P R st t none x=none:=by unfold DD<;>grind
theorem gH {t s}:DD P R st t s none=none:=by
 unfold DD;split
 ·split
  ·rfl
  ·simp only[GR];split;all_goals first|rfl|skip
   all_goals simp_all
 ·rfl
theorem bJ {t x}:D9 P R st t none x=none:=by unfold D9<;>grind
theorem bK {t s}:D9 P R st t s none=none:=by unfold D9<;>grind
theorem qV {t s}:KB P R st t none s=none:=by
 unfold KB;repeat' split
 all_goals first|rfl|simp_all[LX]
theorem qW {t d}:KB P R st t d none=none:=by
 unfold KB;repeat' split
 all_goals first|rfl|simp_all[GR]
theorem k9 {o} (h:aop C R st o=some out) (E:out.run=some e) (m:Mono q R o.op.operands.toList e.reads st st') (hq:BT C o=false->q):Fine st.next st'.next (aop C R st' o) e:=by
 have pass:∀ {v:AVal},out=.ok {dst:=some v,next:=st.next}->∀ {y},y=some (AOut.ok {dst:=some v,next:=st'.next})->Fine st.next st'.next y e:=λ{v} h1 {y} Z=>by subst h1;cases BF E;exact .ok Z AP
 unfold aop at h ⊢;generalize X:o.op=op at h m ⊢;cases op;all_goals simp only[reduceCtorEq] at h ⊢
 case move x =>
  split at h
  ·rename_i v I;cases h;exact pass rfl (by simp only[m.opv x (by simp[Op.operands]) v I])
  ·cases h
 case assign x =>
  split at h
  ·rename_i v I;cases h;exact pass rfl (by simp only[m.opv x (by simp[Op.operands]) v I])
  ·cases h
 case pick c x y =>
  split at h
  ·rename_i b hb;split at h
   ·rename_i v I;cases h;have h1:=m.opc (by simp[Op.operands]) hb;cases b with
    |true =>have Z:=m.opv x (by simp[Op.operands]) v I<;>simp_all
    |false =>have Z:=m.opv y (by simp[Op.operands]) v I<;>simp_all
   ·cases h
  ·cases h
 case alloc t=>exact bI h E
 case box t x =>
  split at h
  ·rename_i I;cases h;cases BF E;exact .ok (by rw[m.op1 (x:=x) (by simp[Op.operands]) I]) ⟨λh=>by rw[h],λh=>by cases h⟩
  ·cases h
 case build t ps =>
  split at h
  ·rename_i l hl;have:=m.parts λy hy=>by simp only[Op.operands,Qfl]<;>grind hl;simp only[this];exact qQ h E
  ·rename_i hn;obtain⟨l,hl⟩:∃l,fnParts R st 0 ps.toList=some l:=by unfold Gm at h<;>grind
   have g:∀x∈ps.toList,x.2∈(Op.build t ps).operands.toList:=λy hy=>by simp only[Op.operands,Qfl]<;>grind
   rw[m.noParts g hn hl];exact bN h E λl hl=>m.fnParts g hl
 case buildSlice t n ps =>
  split at h
  ·rename_i l hl;have:=m.parts λy hy=>by simp only[Op.operands,Qfl]<;>grind hl;simp only[this];exact XM h E m.obj
  ·rename_i hn;obtain⟨l,hl⟩:∃l,fnParts R st 0 ps.toList=some l:=by unfold FH at h<;>grind
   have g:∀x∈ps.toList,x.2∈(Op.buildSlice t n ps).operands.toList:=λy hy=>by simp only[Op.operands,Qfl]<;>grind
   rw[m.noParts g hn hl];exact bO h E λl hl=>m.fnParts g hl
 case makeMap t r =>
  cases r with
  |none=>exact gM h E
  |some _=>simp only[reduceCtorEq] at h
 case lookup t x i c =>
  cases c with
  |true=>simp only[reduceCtorEq] at h
  |false =>
   simp only at h ⊢;split at h
   ·rename_i v I;simp only[m.op1 (by simp[Op.operands]) I];rcases m.opcO (x:=x) (by simp[Op.operands]) with h0|h0
    ·rw[h0] at h;unfold Jk at h<;>simp_all
    ·rw[h0];exact kY h E m.obj
   ·cases h
 case mapUpdate t mm k v =>
  split at h
  ·rename_i x b Y hb;simp only[m.op1 (by simp[Op.operands]) Y,m.opc (by simp[Op.operands]) hb];rcases m.opcO (x:=mm) (by simp[Op.operands]) with h0|h0
   ·rw[h0] at h;unfold Jl at h<;>simp_all
   ·rw[h0];exact kZ h E (m.loc (hq (by simp[BT,X])))
  ·cases h
 case load t a =>
  have hm:a∈(Op.load t a).operands.toList:=by simp[Op.operands]
  rcases m.opvO hm with h0|h0
  ·rw[h0] at h;simp[Gf] at h
  ·rw[h0];exact wP h E m.obj
 case store t a x =>
  split at h
  ·rename_i v I;simp only[m.op1 (by simp[Op.operands]) I];rcases m.opvO (x:=a) (by simp[Op.operands]) with h0|h0
   ·rw[h0] at h;rw[rG] at h;cases h
   ·rw[h0];exact rF h E m.obj (m.loc (hq (by simp[BT,X])))
  ·cases h
 case binOp op t x y r =>
  have h1:=m.opvO (x:=x) (by simp[Op.operands]);have Z:=m.opvO (x:=y) (by simp[Op.operands]);rcases h1 with h0|h1
  ·simp_all
  rcases Z with h0|Z
  ·simp_all
  rw[h1,Z];split at h
  ·exact Aaq h E
  ·try simp only[*]
   split at h
   ·cases h;exact pass rfl (by first|rfl|(simp only[*];done)|(simp only[*];rfl))
   ·cases h;exact pass rfl (by first|rfl|(simp only[*];done)|(simp only[*];rfl))
   ·cases h
  ·try simp only[*]
   split at h
   ·split at h
    ·cases h;exact pass rfl (by first|rfl|(simp only[*];done)|(simp only[*];rfl))
    ·cases h;exact pass rfl (by first|rfl|(simp only[*];done)|(simp only[*];rfl))
    ·cases h
   ·cases h
  ·try simp only[*]
   split at h
   ·cases h;exact pass rfl (by first|rfl|(simp only[*];done)|(simp only[*];rfl))
   ·cases h;exact pass rfl (by first|rfl|(simp only[*];done)|(simp only[*];rfl))
   ·cases h
  ·try simp only[*]
   split at h
   ·cases h;exact pass rfl (by first|rfl|(simp only[*];done)|(simp only[*];rfl))
   ·cases h;exact pass rfl (by first|rfl|(simp only[*];done)|(simp only[*];rfl))
   ·cases h
  ·cases h
 case unOp op t x =>
  split at h
  ·rename_i I;cases h;have:=m.opc (by simp[Op.operands]) I;exact pass rfl (by simp only[this];rfl)
  ·rename_i I;cases h;have:=m.opc (x:=x) (by simp[Op.operands]) I;exact pass rfl (by simp only[this];rfl)
  ·rename_i I;cases h;have:=m.opc (x:=x) (by simp[Op.operands]) I;exact pass rfl (by simp only[this];rfl)
  ·cases h
 case convert s d x =>
  rcases m.opcO (x:=x) (by simp[Op.operands]) with h0|h0
  ·simp_all
  rw[h0];split at h
  ·(try simp only[*]);cases h;exact pass rfl rfl
  ·try simp only[*]
   split at h
   ·try simp only[*]
    split at h
    ·(try simp only[*]);cases h;exact pass rfl rfl
    ·(try simp only[*]);cases h;exact pass rfl rfl
    ·try simp only[*]
     split at h
     ·rename_i k _ _ l hk;cases h;cases BF E;have:=m.obj k (by simp) _ hk;exact .ok (by simp only[this];rfl) AP
     ·cases h
    ·cases h
   ·cases h
  ·cases h
 case makeFunc f first a6 =>
  cases f;all_goals simp only[reduceCtorEq] at h ⊢
  split at h
  ·rename_i h1 Z
   ·cases h;have:=m.cells (l:=a6.toList) λy hy=>by simp[Op.operands]<;>simp_all Z;exact pass rfl (by simp only[h1,this];rfl)
  ·rename_i x h1 Z;split at h
   ·rename_i c hc;cases h;have e1:=m.cells (l:=a6.toList) λy hy=>by simp[Op.operands]<;>simp_all Z;have e2:=m.opc (x:=x) (by simp[Op.operands];left;have:x∈first.toList:=(by simp_all)<;>grind) hc;exact pass rfl (by simp only[h1,e1,e2];rfl)
   ·cases h
  ·cases h
 case makeSlice t l c =>
  split at h
  ·rename_i h1 Z;simp only[m.opc (x:=l) (by simp[Op.operands]) h1,m.opc (x:=c) (by simp[Op.operands]) Z];exact Y6 h E
  ·cases h
 case slice t x lo hi mx =>
  rcases m.opcO (x:=x) (by simp[Op.operands]) with h0|h0
  ·rw[h0] at h;rw[rE] at h;cases h
  ·rw[h0];exact rD m λy hy=>by subst hy;simp[Op.operands] λy hy=>by subst hy;simp[Op.operands] (λ_ hk=>hk) (λp h1 Z=>hq (by subst h1;subst Z;simp[BT,X])) h E
 case fieldAddr s x f =>
  rcases m.opvO (x:=x) (by simp[Op.operands]) with h0|h0
  ·rw[h0] at h;simp[FB] at h
  ·rw[h0];exact Y0 h E
 case field s x f =>
  split at h
  ·rename_i h1 Z;simp only[m.op1 (x:=x) (by simp[Op.operands]) h1,Z];split at h
   ·rename_i h3;cases h;exact pass rfl (by first|rfl|(simp only[h3];rfl))
   ·cases h
  ·cases h
 case indexAddr t x i =>
  split at h
  ·rename_i h1;simp only[m.opc (x:=i) (by simp[Op.operands]) h1];rcases m.opvO (x:=x) (by simp[Op.operands]) with a1|a1
   ·rw[a1] at h;have:opc R st x=none:=by simp[Den.opc,a1]
    rw[this] at h;simp only[QO] at h;cases h
   ·rw[a1];split at h
    ·exact bQ h E
    ·rcases m.opcO (x:=x) (by simp[Op.operands]) with h0|h0
     ·rw[h0] at h;rw[QO] at h;cases h
     ·rw[h0];exact Y1 h E m.obj
  ·cases h
 case index t x i =>
  split at h
  ·rename_i hu Y hi;cases h;obtain⟨y,hy,rfl⟩:=Ck E;simp only[m.opv x (by simp[Op.operands]) _ Y,m.opc (x:=i) (by simp[Op.operands]) hi];first|exact .opt rfl hy AP|exact .opt (by simp only[hu];rfl) hy AP
  ·rename_i hu Y hi;simp only[m.opv x (by simp[Op.operands]) _ Y,m.opc (x:=i) (by simp[Op.operands]) hi,hu];exact bP h E
  ·cases h
 case extract x i =>
  split at h
  ·rename_i h1;simp only[m.opv x (by simp[Op.operands]) _ h1];split at h
   ·rename_i h3;cases h;exact pass rfl (by first|rfl|(simp only[h3];rfl))
   ·cases h
  ·cases h
 case nilCheck x =>
  split at h
  ·rename_i h1;cases h;exact pass rfl (by simp only[m.opv x (by simp[Op.operands]) _ h1];rfl)
  ·rename_i h1;cases h;exact pass rfl (by simp only[m.opv x (by simp[Op.operands]) _ h1];rfl)
  ·cases h
 case call c =>
  have g:∀x∈c.args.toList,x∈(Op.call c).operands.toList:=λx Y=>by simp only[Op.operands,Call.operands,Qfu,Qck];simp_all
  generalize J:c.callee=a8 at h ⊢;split at h
  ·split at h
   ·split at h
    ·rename_i x Y _ t ht;unfold jL at h ⊢;split at h
     ·rename_i hu;try simp only[Y,ht,hu]
      rcases m.opvO (x:=x) (g x (by simp[Y])) with h0|h0
      ·rw[h0] at h;simp[Rm] at h
      ·rw[h0];exact Aat h E m.obj
     ·rename_i hu;split at h
      ·rename_i k hk;split at h
       ·rename_i T l hl;cases h;obtain⟨hb,rfl⟩:=Bu E;simp only[m.opv x (g x (by simp[Y])) _ hk,m.obj k (by simp) _ hl];exact .chk rfl hb AP
       ·cases h
      ·cases h
     ·rename_i hu;try simp only[Y,ht,hu]
      split at h
      ·rename_i l hl;cases h;obtain⟨hb,rfl⟩:=Bu E;simp only[m.opv x (g x (by simp[Y])) _ hl];exact .chk rfl hb AP
      ·cases h
     ·cases h
    ·cases h
   ·cases h
  ·split at h
   ·rename_i s x t t' hs ht;split at h
    ·rename_i hu;try simp only[hs,ht,hu]
     rcases m.opcO (g s (by simp[hs])) with h0|h0
     ·rw[h0,gG] at h;cases h
     rcases m.opcO (g x (by simp[hs])) with h1|h1
     ·rw[h1,gH] at h;cases h
     rw[h0,h1];exact kI h E m.obj (m.loc (hq (by simp[BT,X,J])))
    ·rename_i hu;try simp only[hs,ht,hu]
     rcases m.opcO (g s (by simp[hs])) with h0|h0
     ·rw[h0,bJ] at h;cases h
     rcases m.opcO (g x (by simp[hs])) with h1|h1
     ·rw[h1,bK] at h;cases h
     rw[h0,h1];exact gF h E (m.loc (hq (by simp[BT,X,J])))
    ·cases h
   ·cases h
  ·split at h
   ·rename_i x t hs ht;split at h
    ·rename_i Y hu;cases h;exact pass rfl (by (try simp only[hu,m.opc (g x (by simp[hs])) Y]);first|done|rfl)
    ·cases h
   ·cases h
  ·split at h
   ·rename_i d s t t' hs ht;try simp only[hs,ht]
    rcases m.opcO (g d (by simp[hs])) with h0|h0
    ·rw[h0,qV] at h;cases h
    rcases m.opcO (g s (by simp[hs])) with h1|h1
    ·rw[h1,qW] at h;cases h
    rw[h0,h1];exact wJ h E m.obj (m.loc (hq (by simp[BT,X,J])))
   ·cases h
  ·split at h
   ·rename_i I;simp only[m.ops1 g I];exact PT h E
   ·cases h
  ·split at h
   ·rename_i I;simp only[m.ops1 g I];exact PT h E
   ·cases h
  ·split at h
   ·rename_i I;simp only[m.ops1 g I];exact SX h E m.obj λhn=>m.loc (hq (by simp[BT,X,J,hn]))
   ·cases h
  ·rename_i t;split at h
   ·rename_i f cs vs Y I;have a7:st'.get R t=some (.bfn f cs):=m.opv (.tmp t) (by simp[Op.operands,Call.operands,J]) _ Y;simp only[m.ops1 g I,a7];exact SX h E m.obj λ_=>m.loc (hq (by simp[BT,X,J]))
   ·rename_i f vs Y I;have a7:st'.get R t=some (.fn f []):=m.opv (.tmp t) (by simp[Op.operands,Call.operands,J]) _ Y;simp only[m.ops1 g I,a7];exact SX h E m.obj λ_=>m.loc (hq (by simp[BT,X,J]))
   ·cases h
  ·cases h
end
end Go.Den
namespace Go.Den
open Go.RowKit
structure Rec where
 run:Bool
 e:Eff
 key:Nat
 al:Bool
 ld:Option Rng:=none
 st:Option Rng:=none
abbrev Tr:=List (Nat×Rec)
def CC (u:List (Nat×Option AObj)):List Nat:=u.map (·.1)
def DE:List (Nat×Option AObj)->Nat->Option (Option AObj)
 |[],_=>none
 |(k,x)::r,j=>match DE r j with
  |some y=>some y
  |none=>if k=j then some x else none
theorem GQ:∀ {u} {k},k∉CC u->DE u k=none
 |[],_,_=>rfl
 |(j,x)::r,k,h=>by simp only[CC,Qcu,Qdw,not_or] at h;simp only[DE,GQ h.2]<;>grind
theorem QR:∀ {u} {c} {k},assoc (Bw u c) k=match DE u k with|some x=>x|none=>assoc c k
 |[],c,k=>rfl
 |(j,some o)::r,c,k=>by
  simp only[Bw,DE];rw[QR];cases DE r k with
  |some y=>rfl
  |none =>simp only[AE,Dh]<;>grind
 |(j,none)::r,c,k=>by
  simp only[Bw,DE];rw[QR];cases DE r k with
  |some y=>rfl
  |none =>simp only[Dh]<;>grind
def adv (_:RO) (l:List Oper) (s:St) (j:Nat) (r:Rec):St:=St.put {env:=s.env,heap:=Bw r.e.upd s.heap,next:=s.next} (Fc l j) r.e.dst
structure Sub (q:Prop) (R:RO) (s' s:St):Prop where
 env:∀t v,s'.get R t=some v->s.get R t=some v
 obj:∀k o,s'.obj R k=some o->s.obj R k=some o
 loc:q->∀k o,assoc s'.heap k=some o->assoc s.heap k=some o
 next:s'.next=s.next
theorem Sub.refl q R s:Sub q R s s:=⟨λ_ _ h=>h,λ_ _ h=>h,λ_ _ _ h=>h,rfl⟩
theorem Sub.trans {q R a b c} (h:Sub q R a b) (g:Sub q R b c):Sub q R a c :=
 ⟨λt v e=>g.env t v (h.env t v e),λk o e=>g.obj k o (h.obj k o e),λd k o e=>g.loc d k o (h.loc d k o e),h.next.trans g.next⟩
def Plain (key:Nat) (d e:Eff):Prop :=
 ∃T l rd n,d={dst:=some (.v (.c (.ref key))),upd:=[(key,some (.arr T l))],frz:=[],reads:=rd,next:=n}/\e={dst:=some (.v (.c (.sl T l))),reads:=rd,next:=key}
structure OpOK (q:Prop) (C:Ctx) (R:RO) (l:List Oper) (s:St) (j:Nat) (r:Rec):Prop where
 ex:∃o,l[j]?=some o/\free R o.dst=true/\r.e.frz=[]/\(¬q->BT C o=true)/\((∀x,r.ld=some x->ldR C.P R s o=some x)/\∀x,r.st=some x->stR C.P R s o=some x) /\
  ((r.run=true/\Told R l s o true/\∃out e0,aop C R {s with next:=r.key} o=some out/\out.run=some e0/\(e0.upd≠[]->r.al=true)/\(r.e=e0\/Plain r.key e0 r.e)) \/
   r.run=false/\Told R l s o false/\r.e.dst=some .undef/\r.e.upd=[])
inductive Chain (q:Prop) (C:Ctx) (R:RO) (l:List Oper) (fin:St):St->Tr->Prop
 |nil {s:St}:Sub q R fin s->Chain q C R l fin s []
 |cons {s:St} {j:Nat} {r:Rec} {L:Tr}:OpOK q C R l s j r->Chain q C R l fin (adv R l s j r) L->Chain q C R l fin s ((j,r)::L)
section
variable {q:Prop} {C:Ctx} {R:RO} {l:List Oper} {s s' fin:St} {j i:Nat} {r ri:Rec}
theorem Pz {t}:(adv R l s j r).get R t=if Fc l j=some t then r.e.dst else s.get R t:=by
 unfold adv;cases h:Fc l j with
 |none=>simp[St.put,St.get]
 |some d =>rw[Fx];simp only[Qaf];rfl
theorem Sc {k}:assoc (adv R l s j r).heap k=match DE r.e.upd k with|some x=>x|none=>assoc s.heap k:=by unfold adv;rw[Yo];exact QR
theorem LY {k}:(adv R l s j r).obj R k=match DE r.e.upd k with|some (some o)=>some o|some none=>assoc R.rheap k|none=>s.obj R k:=by unfold St.obj;rw[Sc]<;>grind
theorem JH:(adv R l s j r).next=s.next:=by unfold adv;rw[CG]
theorem Aeh (h:Sub q R s' s):Sub q R (adv R l s' j r) (adv R l s j r):=by
 refine ⟨λt v e=>?_,λk o e=>?_,λd k o e=>?_,by rw[JH,JH];exact h.next⟩
 ·rw[Pz] at e ⊢;split
  ·simp_all
  ·rename_i g;rw[if_neg g] at e;exact h.env t v e
 ·rw[LY] at e ⊢;cases c:DE r.e.upd k with
  |none=>rw[c] at e;exact h.obj k o e
  |some x=>grind
 ·rw[Sc] at e ⊢;cases c:DE r.e.upd k with
  |none=>rw[c] at e;exact h.loc d k o e
  |some x=>simp_all
theorem Xq {o t} (h:Operand.tmp t∈o.op.operands.toList):t∈looks l o:=by
 have:t∈PJ o:=by simp only[PJ,List.mem_filterMap]<;>grind
 unfold looks<;>grind
theorem Mb {o b} (h:Told R l s o b) (hg:∀t∈looks l o,∀v,s.get R t=some v->s'.get R t=some v):Told R l s' o b:=by
 have d:∀j w g,o.guard=some (j,w)->Fc l j=some g->g∈looks l o:=λj w g h1 c=>by simp[looks,h1,c]
 cases b with
 |true =>
  rcases h with h|⟨j,w,g,h1,c,p⟩
  ·exact .inl h
  ·exact .inr ⟨j,w,g,h1,c,hg g (d j w g h1 c) _ p⟩
 |false =>obtain⟨j,w,g,h1,c,p⟩:=h;exact ⟨j,w,g,h1,c,p.imp (hg g (d j w g h1 c) _) (hg g (d j w g h1 c) _)⟩
theorem oJ {o a v} (d:a∈o.op.operands.toList) (hg:∀t∈looks l o,∀v,s.get R t=some v->s'.get R t=some v) (h:opv R s a=some v):opv R s' a=some v:=by
 cases a with
 |tmp t=>exact hg t (Xq d) v h
 |const c=>exact h
 |func f=>exact h
 |global g=>exact h
theorem X7 {o x} (h:ldR C.P R s o=some x) (hg:∀t∈looks l o,∀v,s.get R t=some v->s'.get R t=some v):ldR C.P R s' o=some x:=by
 unfold ldR at h ⊢;split at h
 ·rename_i t a c;split at h
  ·rename_i k off d;have:=oJ (by simp[c,Op.operands]) hg d;simp only[this];exact h
  ·cases h
 ·cases h
theorem qA {o x} (h:stR C.P R s o=some x) (hg:∀t∈looks l o,∀v,s.get R t=some v->s'.get R t=some v):stR C.P R s' o=some x:=by
 unfold stR at h ⊢;split at h
 ·rename_i t a y c;split at h
  ·rename_i k off d;have:=oJ (by simp[c,Op.operands]) hg d<;>simp_all
  ·cases h
 ·cases h
theorem sU {c} (h:r.e=c\/Plain r.key c r.e):r.e.reads=c.reads:=by rcases h with h|⟨T,l,rd,n,h1,d⟩<;>simp_all
theorem OpOK.move (h:OpOK q C R l s j r) (hg:∀o,l[j]?=some o->∀t∈looks l o,∀v,s.get R t=some v->s'.get R t=some v)
 (Y:More (s.obj R) (s'.obj R) r.e.reads) (hl:q->More (assoc s.heap) (assoc s'.heap) r.e.reads):OpOK q C R l s' j r:=by
 obtain⟨o,h1,Z,h3,h4,⟨E,p⟩,h5⟩:=h.ex;refine ⟨o,h1,Z,h3,h4,⟨λx d=>X7 (E x d) (hg o h1),λx d=>qA (p x d) (hg o h1)⟩,?_⟩;rcases h5 with ⟨a,b,out,e0,ha,hr,a1,hp⟩|⟨a,b,c⟩
 ·refine .inl ⟨a,Mb b (hg o h1),?_⟩;have I:=sU hp;have m:Mono q R o.op.operands.toList e0.reads {s with next:=r.key} {s' with next:=r.key}:=by
   refine ⟨λx d v y=>?_,λk J x d=>?_,λhq k J x d=>?_⟩
   ·cases x with
    |tmp t=>exact hg o h1 t (Xq d) v y
    |const c=>exact y
    |func f=>exact y
    |global g=>exact y
   ·rw[<-I] at J;exact Y k J x d
   simp_all
  obtain⟨X,e',x1,x2,x3⟩:=k9 ha hr m (λp=>by simp_all);have:=x3.1 rfl<;>simp_all
 ·exact .inr ⟨a,Mb b (hg o h1),c⟩
theorem OpOK.sub (h:OpOK q C R l s' j r) (c:Sub q R s' s):OpOK q C R l s j r :=
 h.move (λ_ _ t _ v g=>c.env t v g) (λk _ o d=>c.obj k o d) λp k _ o d=>c.loc p k o d
theorem Chain.sub:∀ {L} {s' s},Chain q C R l fin s' L->Sub q R s' s->Chain q C R l fin s L
 |[],_,_,.nil h,c=>.nil (h.trans c)
 |_::_,_,_,.cons h d,c=>.cons (h.sub c) (d.sub (Aeh c))
structure YD (l:List Oper) (x y:Nat×Rec):Prop where
 dst:∀d,Fc l x.1=some d->Fc l y.1≠some d
 xy:∀d,Fc l x.1=some d->∀o,l[y.1]?=some o->d∉looks l o
 yx:∀d,Fc l y.1=some d->∀o,l[x.1]?=some o->d∉looks l o
 uu:∀k∈CC x.2.e.upd,k∉CC y.2.e.upd
 ur:(∀k∈CC x.2.e.upd,k∉y.2.e.reads)\/Ow x.2.st y.2.ld=true
 ru:(∀k∈CC y.2.e.upd,k∉x.2.e.reads)\/Ow y.2.st x.2.ld=true
theorem Mz {o t} (c:∀d,Fc l j=some d->d∉looks l o) (g:t∈looks l o):(adv R l s j r).get R t=s.get R t:=by rw[Pz,if_neg λh=>c t h g]
theorem MM {k} {ks:List Nat} (h:∀k∈CC r.e.upd,k∉ks) (c:k∈ks):(adv R l s j r).obj R k=s.obj R k/\assoc (adv R l s j r).heap k=assoc s.heap k:=by have:= GQ λd=>h k d c;exact ⟨by rw[LY,this],by rw[Sc,this]⟩
theorem Acv {x y} (h:YD l x y):Sub q R (adv R l (adv R l s x.1 x.2) y.1 y.2) (adv R l (adv R l s y.1 y.2) x.1 x.2):=by
 refine ⟨λt v e=>?_,λk o e=>?_,λc k o e=>?_,by simp only[JH]⟩
 ·rw[Pz,Pz] at e ⊢;by_cases h1:Fc l x.1=some t
  ·have d:=h.dst t h1<;>simp_all
  simp_all
 ·rw[LY,LY] at e ⊢;by_cases h1:k∈CC x.2.e.upd
  ·rw[GQ (h.uu k h1)] at e ⊢;exact e
  ·rw[GQ h1] at e ⊢;exact e
 ·rw[Sc,Sc] at e ⊢;by_cases h1:k∈CC x.2.e.upd
  ·rw[GQ (h.uu k h1)] at e ⊢;exact e
  ·rw[GQ h1] at e ⊢;exact e
theorem Ul {cs vs o} (h:o+vs.length<=cs.length):(splice cs o vs).length=cs.length:=by simp only[splice,Qau,Qbn,Qdj];omega
theorem zO {cs vs o i} (h:o+vs.length<=cs.length) (hi:i<o\/o+vs.length<=i):(splice cs o vs)[i]?=cs[i]?:=by
 unfold splice;rcases hi with hi|hi
 ·rw[Qaq,Qdc (by simp;omega),Qbg,if_pos hi]
 ·rw[Qdp (by simp;omega),Qcy]<;>grind
theorem XA {cs vs o off n} (h:o+vs.length<=cs.length) (c:o+vs.length<=off\/off+n<=o):((splice cs o vs).drop off).take n=(cs.drop off).take n:=by
 refine Qdq λi=>?_;simp only[Qbg,Qcy];split
 ·rw[zO h (by omega)]
 ·rfl
theorem zR {t a b} {k off k' c n:Nat} (d:a.length=b.length) (g:(match El C.P t,C.P.info? t with|some true,some i=>some (k,off,i.size)|some false,some _=>some (k,off,1)|_,_=>none)=some (k',c,n)) (h:a.take n=b.take n):H2 C.P t a=H2 C.P t b:=by unfold H2<;>grind
theorem tI {o key out I k off n} (d:stR C.P R s o=some (k,off,n)) (g:aop C R {s with next:=key} o=some out) (Z:out.run=some I) :
 ∃cs vs,assoc s.heap k=some (.box cs)/\vs.length=n/\off+vs.length<=cs.length/\I.upd=[(k,some (.box (splice cs off vs)))]/\I.dst=none:=by
 unfold stR at d;split at d
 ·rename_i t a x J;split at d
  ·rename_i k' Y X;split at d
   ·rename_i inf h;cases d;have p:opv R {s with next:=key} a=some (.v (.c (.ptr k off))):=X;unfold aop at g;simp only[J] at g;split at g
    ·rename_i v hv;unfold GI at g;simp only[h,p] at g;split at g
     ·cases g
     ·rename_i y;split at g
      ·rename_i cs hk;split at g
       ·rename_i E;cases g;cases BF Z;exact ⟨cs,v.cells,hk,beq_true y,Qbe E,rfl,rfl⟩
       ·cases g
      ·cases g
    ·cases g
   ·cases d
  ·cases d
 ·cases d
theorem Abd {o:Oper} {key:Nat} {out:AOut} {e0:Eff} {k off n:Nat} (g:ldR C.P R s o=some (k,off,n)) (d:ldR C.P R s' o=some (k,off,n)) (ha:aop C R {s with next:=key} o=some out) (ad:out.run=some e0)
 {cs:List Cell} (a6:s.obj R k=some (.box cs)) {p:List Cell} (E:s'.obj R k=some (.box p)) (hl:cs.length=p.length) (ht:(cs.drop off).take n=(p.drop off).take n):aop C R {s' with next:=key} o=some out:=by
 unfold ldR at g d;split at g
 ·rename_i t a I;simp only[I] at d;split at g
  ·rename_i k1 J a7;split at d
   ·rename_i X h Y;have hk:k1=k/\J=off:=by
     split at g
     ·cases g;exact ⟨rfl,rfl⟩
     ·cases g;exact ⟨rfl,rfl⟩
     ·cases g
    have a8:X=k/\h=off:=by
     split at d
     ·cases d;exact ⟨rfl,rfl⟩
     ·cases d;exact ⟨rfl,rfl⟩
     ·cases d
    obtain⟨rfl,rfl⟩:=hk;obtain⟨rfl,rfl⟩:=a8;have Z:opv R {s with next:=key} a=some (.v (.c (.ptr X h))):=a7;have a1:opv R {s' with next:=key} a=some (.v (.c (.ptr X h))):=Y;have aa:({s with next:=key}:St).obj R X=some (.box cs):=a6;have ab:({s' with next:=key}:St).obj R X=some (.box p):=E;have y:=zR (C:=C) (a:=cs.drop h) (b:=p.drop h) (by simp[hl]) g ht;unfold aop at ha ⊢;simp only[I,Gf,Z,a1,aa,ab,y] at ha ⊢;exact ha
   ·cases d
  ·cases g
 ·cases g
theorem yJ {o key out J k off n} (g:ldR C.P R s o=some (k,off,n)) (p:aop C R {s with next:=key} o=some out) (X:out.run=some J):∃cs,s.obj R k=some (.box cs):=by
 unfold ldR at g;split at g
 ·rename_i t a y;split at g
  ·rename_i k1 d E;have Y:k1=k/\d=off:=by grind
   obtain⟨rfl,rfl⟩:=Y;have h:opv R {s with next:=key} a=some (.v (.c (.ptr k1 d))):=E;unfold aop at p;simp only[y,Gf,h] at p;split at p
   ·rename_i cs I;exact ⟨cs,I⟩
   ·cases p
  simp_all
 simp_all
theorem rA {a b} (h:Ow a b=true):∃k o n k' o' n',a=some (k,o,n)/\b=some (k',o',n')/\(o+n<=o'\/o'+n'<=o):=by
 unfold Ow at h;split at h
 ·rename_i k o n k' o' n';rw[Qaj] at h;exact ⟨k,o,n,k',o',n',rfl,rfl,h.imp Qbe Qbe⟩
 ·cases h
theorem AgJ {x y:Nat×Rec} (hy:OpOK q C R l s y.1 y.2) (aa:Ow y.2.st x.2.ld=true) {sa X:St} (E:sa=s/\X=adv R l s y.1 y.2\/X=s/\sa=adv R l s y.1 y.2) (hx:OpOK q C R l sa x.1 x.2)
 (hg:∀o,l[x.1]?=some o->∀t∈looks l o,∀v,sa.get R t=some v->X.get R t=some v):OpOK q C R l X x.1 x.2:=by
 obtain⟨k,o,n,k',o',n',e1,e2,hd⟩:=rA aa;obtain⟨J,g1,g2,g3,g4,⟨Y,ab⟩,g5⟩:=hx.ex;refine ⟨J,g1,g2,g3,g4,⟨λz hz=>X7 (Y z hz) (hg J g1),λz hz=>qA (ab z hz) (hg J g1)⟩,?_⟩;rcases g5 with ⟨a1,a2,out,e0,a3,a4,a5,a6⟩|⟨a1,a2,a3⟩
 case inr=>exact .inr ⟨a1,Mb a2 (hg J g1),a3⟩
 refine .inl ⟨a1,Mb a2 (hg J g1),out,e0,?_,a4,a5,a6⟩;have h:=Y _ e2;have Z:=X7 h (hg J g1);obtain⟨ca,c⟩:=yJ h a3 a4;obtain⟨oy,h1,h2,h3,h4,⟨aj,ad⟩,h5⟩:=hy.ex;have key:∃cb,X.obj R k'=some (.box cb)/\ca.length=cb.length/\(ca.drop o').take n'=(cb.drop o').take n':=by
  rcases h5 with ⟨b1,b2,ai,ey,b3,b4,b5,b6⟩|⟨b1,b2,b3,b4⟩
  ·obtain⟨cs,vs,ae,ak,g,a7,p⟩:=tI (ad _ e1) b3 b4;have af:y.2.e=ey:=by
    rcases b6 with b6|⟨T,l',rd,n2,b7,_⟩
    ·exact b6
    ·rw[b7] at p;cases p
   have hs:s.obj R k=some (.box cs):=by simp[St.obj,ae]
   have d:∀j,(adv R l s y.1 y.2).obj R j=if j=k then some (.box (splice cs o vs)) else s.obj R j:=λj=>by
    rw[LY,af,a7];simp only[DE];by_cases hj:k=j
    ·subst hj;simp
    ·simp[hj,Ne.symm hj]
   by_cases I:k'=k
   ·subst I;rcases E with ⟨rfl,rfl⟩|⟨rfl,rfl⟩
    ·rw[hs] at c;cases c;exact ⟨_,by rw[d,if_pos rfl],(Ul g).symm,(XA g (by omega)).symm⟩
    ·rw[d,if_pos rfl] at c;cases c;exact ⟨_,hs,Ul g,XA g (by omega)⟩
   ·rcases E with ⟨rfl,rfl⟩|⟨rfl,rfl⟩
    ·exact ⟨ca,by rw[d,if_neg I];exact c,rfl,rfl⟩
    ·rw[d,if_neg I] at c;exact ⟨ca,c,rfl,rfl⟩
  ·have d:∀j,(adv R l s y.1 y.2).obj R j=s.obj R j:=λj=>by rw[LY,b4];rfl
   rcases E with ⟨rfl,rfl⟩|⟨rfl,rfl⟩
   ·exact ⟨ca,by rw[d];exact c,rfl,rfl⟩
   ·rw[d] at c;exact ⟨ca,c,rfl,rfl⟩
 obtain⟨cb,ag,a8,ah⟩:=key;exact Abd h Z a3 a4 c ag a8 ah
theorem Chain.bubble:∀ {L1 L2} {s},Chain q C R l fin s (L1++(i,ri)::L2)->(∀p∈L1,YD l p (i,ri))->OpOK q C R l s i ri/\Chain q C R l fin (adv R l s i ri) (L1++L2)
 |[],_,_,.cons h hc,_=>⟨h,hc⟩
 |(p,rp)::L1,L2,s,.cons h hc,hi=>by
  obtain⟨h1,h2⟩:=Chain.bubble hc λx g=>hi x (Qak _ g);have g:=hi (p,rp) (Qbr ..);have X:OpOK q C R l s i ri:=by
   rcases g.ur with Y|y
   ·refine h1.move (λo c t E v Z=>?_) (λk I o c=>?_) λ_ k I o c=>?_
    ·rwa [Mz (λd J=>g.xy d J o c) E] at Z
    ·rwa [(MM Y I).1] at c
    ·rwa [(MM Y I).2] at c
   ·exact AgJ h y (.inr ⟨rfl,rfl⟩) h1 λo c t E v Z=>by rwa [Mz (λd J=>g.xy d J o c) E] at Z
  refine ⟨X,.cons ?_ (h2.sub (Acv g))⟩;rcases g.ru with a1|y
  ·refine h.move (λo c t E v Z=>?_) (λk I o c=>?_) λ_ k I o c=>?_
   ·rwa [Mz (λd J=>g.yx d J o c) E]
   ·rwa [(MM a1 I).1]
   ·rwa [(MM a1 I).2]
  ·exact AgJ X y (.inl ⟨rfl,rfl⟩) h λo c t E v Z=>by rwa [Mz (λd J=>g.yx d J o c) E]
end
end Go.Den
namespace Go.Den
open Go.RowKit
section
variable {q:Prop} {C:Ctx} {B:Base} {R:RO} {l:List Oper} {s:St} {j:Nat} {r:Rec} {D D':Nat->Prop}
variable {μ μ0:AI} {O O0:Nat->Prop} {w w0:World} {a:Act} {N:Nat}
abbrev Base.at (B:Base) (D:Nat->Prop):Base:={B with D:=D}
theorem RelM.redom {d} (h:RelM (B.at D) R s μ O w) (g:∀k p,μ k=some p->k<d.next\/D' k) (c:∀k o,d.obj R k=some o->s.obj R k=some o):RelM (B.at D') R d μ O w :=
 {heap:=λk o e=>h.heap k o (c k o e)
  own:=λk o e=>h.own k o (c k o e)
  inj:=λk k' o o' e t=>h.inj k k' o o' (c k o e) (c k' o' t)
  foreign:=h.foreign,flt:=h.flt,dom:=g,below:=h.below,bsize:=h.bsize,obound:=h.obound}
theorem WI {e k} {st:St} (c:e.frz=[]):(st.mem R e).obj R k=match DE e.upd k with|some (some o)=>some o|some none=>assoc R.rheap k|none=>st.obj R k:=by unfold St.mem St.after;rw[PI,c];unfold St.obj;simp only[QR,St.frz]<;>grind
theorem Ada {e} {st:St}:(st.mem R e).next=e.next:=by unfold St.mem St.after;rw[CG]
theorem JQ {o} (h:l[j]?=some o):Fc l j=o.dst:=by simp[Fc,h]
theorem AeC {o next Q} (hC:DG C B) (g:At (B.at D) R N μ0 O0 w0 s μ O a w) (ax:OpOK q C R l s j r) (ho:l[j]?=some o) (b1:r.run=true) (hD:∀k,r.key<=k->k<r.key+16->¬D k) (hn:s.next<=r.key)
 (hR:∀k,assoc R.rheap k≠none->k<s.next) (an:∀k,D k->D' k) (ag:r.al=true->∀k,r.key<=k->k<r.key+16->D' k) (hN:∀d,o.dst=some d->d<N)
 (ao:∀μ' O' a' w',At (B.at D') R N μ0 O0 w0 (adv R l s j r) μ' O' a' w'->next a' w'):o.wp C.P a w next Q:=by
 obtain⟨o',I,hf,b2,_,_,h5⟩:=ax.ex;rw[ho] at I;cases I;rcases h5 with ⟨_,_,out,e0,ha,hr,ah,hp⟩|⟨b3,_⟩
 case inr=>simp_all
 have y:e0.frz=[]:=by rcases hp with hp|⟨T,l',rd,n,h1,_⟩<;>simp_all
 have a7:= λt ht=>Qac (hN t ht) g.size;refine (eA hC (B:=B.at D) (st:={s with next:=r.key}) (g.mem.congr (λ_ _ h=>h) hn) hD (λt v hv=>g.env t v hv) ha hr (by simp[JD,y])).wp λv w' ⟨μ',O',E,ay,ae⟩=>?_;have hold:∀k o',s.obj R k=some o'->k<s.next\/D' k:=λk o' I=>by obtain⟨p,hp⟩:=(g.mem.heap k o' I).some;exact (g.mem.dom k p hp).imp id (an k)
 have aq:∀k p,μ' k=some p->k<s.next\/D' k:=λk p Y=>by
  rcases E.new k p Y with h|⟨h1,o',J⟩
  ·exact (g.mem.dom k p h).imp id (an k)
  ·rw[Ada] at h1;rw[WI y] at J;cases (Iu ha hr).1 with
   |still hu aa =>rw[hu] at J;exact hold k o' J
   |new o1 hu aa =>
    by_cases a1:r.key=k
    ·exact .inr (ag (ah (by simp_all)) k (by omega) (by omega))
    ·rw[hu] at J;simp only[DE,a1,if_false] at J;exact hold k o' J
   |set k' o1 hu ai aa =>
    by_cases a1:k'=k
    ·subst a1;cases hh:assoc s.heap k' with
     |none=>exact absurd hh ai
     |some o2=>exact hold k' o2 (by simp[St.obj,hh])
    ·rw[hu] at J;simp only[DE,a1,if_false] at J;exact hold k o' J
   |move k' o1 hu ai aa =>
    by_cases a1:r.key=k
    ·exact .inr (ag (ah (by simp_all)) k (by omega) (by omega))
    ·by_cases ar:k'=k
     ·subst ar;cases hh:assoc s.heap k' with
      |none=>exact absurd hh ai
      |some o2=>exact hold k' o2 (by simp[St.obj,hh])
     ·rw[hu] at J;simp only[DE,a1,ar,if_false] at J;exact hold k o' J
   |news hu aa =>
    cases hl:DE e0.upd k with
    |none=>rw[hl] at J;exact hold k o' J
    |some x =>obtain⟨z,hz,b7⟩:=List.mem_map.1 (Qar λhh=>by rw[GQ hh] at hl;cases hl);obtain⟨_,g2,g3⟩:=hu z hz;exact .inr (ag (ah λhh=>by simp_all) k (by simp_all) (by grind))
 rcases hp with hp|⟨T,l',rd,n,h1,J⟩
 ·refine ao μ' O' _ w' ⟨E.mem.redom λk p Y=>by rw[JH]<;>simp_all λk o' h=>?_,?_,by rw[put_defers];exact g.defers,by rw[CH];exact g.size,g.le.trans E.le,g.keeps.trans E.keeps,λk p Y=>by rw[JH];exact g.dom0 k p Y⟩
  ·rw[LY,hp] at h;rw[WI y];exact h
  ·rw[NO];intro t x X;refine Z2 (st:={s with next:=r.key}) (λt v hv=>g.env t v hv) E ay ae a7 t x ?_;rw[Pz,JQ ho,hp] at X;unfold St.after;rw[y];cases hd:o.dst with
   |none =>
    rw[hd] at X;have aj:s.get R t=some x:=by simpa using X
    exact aj
   |some d =>
    rw[hd] at X;rw[Fx];have aj:(if d=t then e0.dst else s.get R t)=some x:=by simpa using X
    exact aj
 ·have au:assoc R.rheap r.key=none:=by
   cases hh:assoc R.rheap r.key with
   |none=>rfl
   |some o1=>have:=hR r.key (by rw[hh];simp);omega
  have af:(St.mem R {s with next:=r.key} e0).obj R r.key=some (.arr T l'):=by rw[WI y,h1];simp[DE]
  have av:∀k o',s.obj R k=some o'->k≠r.key:=λk o' I e=>by
   obtain⟨p,hp⟩:=(g.mem.heap k o' I).some;subst e;rcases g.mem.dom _ p hp with h|h
   ·have h':= h;omega
   ·exact hD _ (Qaa _) (by omega) h
  have ab:∀k o',s.obj R k=some o'->(St.mem R {s with next:=r.key} e0).obj R k=some o':=λk o' I=>by rw[WI y,h1];simp only[DE,Ne.symm (av k o' I),if_false];exact I
  obtain⟨O2,a6,ad,az⟩:=E.mem.freeze [r.key] (λk Y=>by simp at Y;subst Y;exact noKey_iff.2 au) (λk Y=>by simp at Y;subst Y;exact ⟨_,af⟩) [];have Z:∀k o',(adv R l s j r).obj R k=some o'->s.obj R k=some o':=λk o' h=>by rw[LY,J] at h;exact h
  have aw:∀k o',s.obj R k=some o'->∃o2,({env:=[],heap:=Ef ((St.mem R {s with next:=r.key} e0).obj R) [r.key] (St.mem R {s with next:=r.key} e0).heap,next:=(St.mem R {s with next:=r.key} e0).next}:St).obj R k=some o2:=λk o' I=>by
   have h3:=ab k o' I;have h4:=av k o' I;unfold St.obj at h3 ⊢;simp only[F7];cases hh:assoc (St.mem R {s with next:=r.key} e0).heap k with
   |none=>rw[hh] at h3;exact ⟨o',by simp[h4,h3]⟩
   |some o3=>exact ⟨_,by simp[h4];rfl⟩
  refine ao μ' O2 _ w' ⟨{heap:=λk o' h=>?_,own:=λk o' h p b hp hb=>?_,inj:=λk k' o1 o2 e1 e2=>E.mem.inj k k' o1 o2 (ab _ _ (Z _ _ e1)) (ab _ _ (Z _ _ e2)),foreign:=a6.foreign,flt:=a6.flt,dom:=λk p Y=>by rw[JH];exact aq k p Y,below:=a6.below,bsize:=a6.bsize,obound:=a6.obound},?_,by rw[put_defers];exact g.defers,by rw[CH];exact g.size,g.le.trans E.le,g.keeps.trans (E.keeps.trans ad),λk p Y=>by rw[JH];exact g.dom0 k p Y⟩
  ·exact Cx ad (μle.refl _) o' (λ_ _ _ _=>rfl) (E.mem.heap k o' (ab _ _ (Z _ _ h)))
  ·obtain⟨o2,b0⟩:=aw k o' (Z _ _ h);exact a6.own k o2 b0 p b hp hb
  ·rw[NO];intro t x X;rw[Pz,JQ ho] at X;have a8:= λh=>D3 (E.keeps.trans ad) E.le x (g.env t x h);cases hd:o.dst with
   |none=>rw[hd] at X;exact a8 (by simpa using X)
   |some d =>
    rw[hd] at X;simp only[TL];by_cases ak:d=t
    ·subst ak;rw[if_pos rfl,J] at X;simp only[Qaf] at X;subst X;rw[show (a.tmps.setIfInBounds d v).getD d undef=v by simp[a7 d hd]];have:=Qh ad E.mem.heap az (.v (.c (.ref r.key))) (ae _ (by rw[h1]));simpa[My,jT,LM,af,Qeb] using this
    ·rw[if_neg (by simpa using ak)] at X;rw[show (a.tmps.setIfInBounds d v).getD t undef=a.tmps.getD t undef by simp[Qbt ak]];exact a8 X
theorem AaM (hC:DG C B) {ops:Array Oper} (hl:ops.toList=l) (c:At (B.at D) R N μ0 O0 w0 s μ O a w) (t:OpOK q C R l s j r) (hD:∀k,r.key<=k->k<r.key+16->¬D k) (hn:s.next<=r.key)
 (hR:∀k,assoc R.rheap k≠none->k<s.next) (v:∀k,D k->D' k) (I:r.al=true->∀k,r.key<=k->k<r.key+16->D' k) (Y:∀(i:Nat) (o:Oper),l[i]?=some o->∀d,o.dst=some d->d<N) {next:Act->World->Prop} {Q:Exit->Act->World->Prop}
 (y:∀μ' O' Z w',At (B.at D') R N μ0 O0 w0 (adv R l s j r) μ' O' Z w'->next Z w'):wpOp C.P ops Q j next a w:=by
 subst hl;obtain⟨o,E,hf,a1,a6,_,h5⟩:=t.ex;have J:ops[j]?=some o:=by rwa [Qav] at E
 unfold wpOp;rw[J];rcases h5 with ⟨hr,X,hx⟩|⟨hr,X,hd,hu⟩
 ·simp only[Lf c.env X,if_true];exact .inl (AeC hC c t E hr hD hn hR v I (Y j o E) y)
 ·simp only[Lf c.env X,Qcz,if_false];have g:=c.skip (d:=o.dst) (Y j o E);have he:adv R ops.toList s j r=s.put o.dst (some .undef):=by unfold adv;rw[JQ E,hd,hu];rfl
  refine y μ O _ w ?_;rw[he];exact ⟨g.mem.redom (λk p hk=>(g.mem.dom k p hk).imp id (v k)) λ_ _ h=>h,g.env,g.defers,g.size,g.le,g.keeps,g.dom0⟩
end
end Go.Den
namespace Go.Den
open Go.RowKit
def M (l:List Oper) (i:Nat):Nat:=(Jq [] l).getD i 0
theorem TB {ms k}:∀ {es},(MH ms es).testBit k=true->∃e∈es,Region.binds .any e=true/\(e.on=k\/(ms.getD e.on 0).testBit k=true)
 |[],h=>by simp[MH] at h
 |e::r,h=>by
  simp only[MH] at h;split at h
  ·rename_i c;have h':(1 <<< e.on ||| ms.getD e.on 0 ||| MH ms r).testBit k=true:=h;rw[Qey,Qey,Qaj,Qaj] at h';rcases h' with (h1|h1)|h1
   ·refine ⟨e,by simp,c,.inl ?_⟩;rw[Nat.one_shiftLeft,Nat.testBit_two_pow] at h1<;>simp_all
   ·exact ⟨e,by simp,c,.inr h1⟩
   ·obtain⟨d,g,o⟩:=TB h1<;>grind
  ·obtain⟨d,g,o⟩:=TB h<;>grind
theorem RH:∀ {l} {ms} {i x:Nat},ms[i]?=some x->(Jq ms l)[i]?=some x
 |[],ms,i,x,h=>h
 |o::r,ms,i,x,h=>by simp only[Jq];refine RH ?_<;>grind
theorem TD:∀ {l} {ms} {j} {o},l[j]?=some o->∃c:List Nat,(Jq ms l)[ms.length+j]?=some (MH c o.after.toList)/\∀(i x:Nat),c[i]?=some x->(Jq ms l)[i]?=some x
 |[],ms,j,o,h=>by simp at h
 |o'::r,ms,0,o,h=>by simp at h;subst h;refine ⟨ms,?_,λi x d=>RH d⟩;simp only[Jq];exact RH (by simp)
 |o'::r,ms,j+1,o,h=>by obtain⟨c,h1,g⟩:=TD (by simpa using h);refine ⟨c,?_,g⟩;simp only[Jq]<;>grind
theorem Ag7 {l i k o} (g:l[i]?=some o) (h:(M l i).testBit k=true):∃e∈o.after.toList,Region.binds .any e=true/\(e.on=k\/(M l e.on).testBit k=true):=by
 obtain⟨c,h1,p⟩:=TD (ms:=[]) g;simp only[Qbu,Qbm] at h1;have t:M l i=MH c o.after.toList:=by simp[M,Qba,h1]
 rw[t] at h;obtain⟨e,v,h4,y⟩:=TB h;refine ⟨e,v,h4,y.imp id λh6=>?_⟩;rw[Qba] at h6;cases d:c[e.on]? with
 |none=>simp_all
 |some x=>rw[d] at h6;simpa[M,Qba,p _ _ d] using h6
theorem Zd {i}:∀ {es},jO i es=true->∀e∈es,Region.binds .any e=true->e.on<i
 |[],_,e,c,_=>by simp at c
 |o::r,h,e,c,d=>by
  simp only[jO] at h;split at h
  ·cases h
  ·rename_i g;rcases List.mem_cons.1 c with rfl|c
   ·rw[d] at g;have:Nat.ble (e.on+1) i=true:=by simp_all
    exact Qbe this
   ·exact Zd h e c d
theorem PX:∀ {l} {i},Nw i l=true->∀j o,l[j]?=some o->∀e∈o.after.toList,Region.binds .any e=true->e.on<i+j
 |[],i,_,j,o,h=>by simp at h
 |o'::r,i,h,j,o,c=>by
  simp only[Nw] at h;split at h
  ·rename_i g;cases j with
   |zero=>simp at c;subst c;exact Zd g
   |succ j =>intro e p d;have:=PX h j o (by simpa using c) e p d;omega
  ·cases h
def Dof (done:Tr) (k:Nat):Prop:=∃x∈done,x.2.al=true/\x.2.key<=k/\k<x.2.key+16
def Far (x y:Nat×Rec):Prop:=x.2.al=true\/y.2.al=true->x.2.key+16<=y.2.key\/y.2.key+16<=x.2.key
theorem Far.symm {x y} (h:Far x y):Far y x:=λg=>(h g.symm).symm
theorem getD_false {i} {a:Array Bool}:a.getD i true=false↔a[i]?=some false:=by rw[Qao]<;>grind
theorem getD_true {i} {a:Array Bool}:a.getD i false=true↔a[i]?=some true:=by rw[Qao]<;>grind
theorem ready_iff {ops listed i}:i∈Region.ready .any ops listed↔∃o,ops[i]?=some o/\listed[i]?=some false/\∀e∈o.after.toList,Region.binds .any e=true->listed[e.on]?=some true:=by
 unfold Region.ready;rw[List.mem_filter,List.mem_range,Qab];constructor
 ·rintro⟨h1,p,c⟩;have d:listed.getD i true=false:=by simp_all
  refine ⟨ops[i],by simp[h1],getD_false.1 d,λe g h=>?_⟩;rw[show ops[i]?=some ops[i] by simp[h1]] at c;simp only[Qai,Qbc,Qff] at c;have:=c e (by simpa using g);rw[h] at this;exact getD_true.1 (by simpa using this)
 ·rintro⟨o,h1,p,c⟩;refine ⟨(Array.getElem?_eq_some_iff.1 h1).1,by rw[getD_false.2 p];rfl,?_⟩;rw[h1];simp only[Qai,Qbc,Qff];intro e g;cases h:Region.binds .any e with
  |false=>rfl
  |true=>simpa using getD_true.2 (c e (by simpa using g) h)
section
variable {q:Prop} {C:Ctx} {B:Base} {R:RO} {fin:St} {N n0 bound:Nat} {μ0:AI} {O0:Nat->Prop} {w0:World} {ops:Array Oper} {Q:Exit->Act->World->Prop}
theorem AcH (hC:DG C B) (ah:Nw 0 ops.toList=true) (hR:∀k,assoc R.rheap k≠none->k<n0) (hN:∀(i:Nat) o,ops.toList[i]?=some o->∀d,o.dst=some d->d<N)
 (hQ:∀D μ O a w,(∀k,D k->k<bound)->At (B.at D) R N μ0 O0 w0 fin μ O a w->Q .normal a w) :
 ∀fuel L done listed s μ O a w,L.length<=fuel ->
  (∀j,(∃r,(j,r)∈L)↔listed[j]?=some false)->listed.size=ops.size->L.Pairwise (λx y=>x.1<y.1)->L.Pairwise (λx y=>(M ops.toList y.1).testBit x.1=true\/YD ops.toList x y) ->
  (∀j k,listed[j]?=some true->(M ops.toList j).testBit k=true->listed[k]?≠some false)->(∀x∈done,∀y∈L,Far x y)->L.Pairwise Far->(∀x∈L,n0<=x.2.key)->s.next=n0 ->
  (∀x∈done,x.2.al=true->x.2.key+16<=bound)->(∀x∈L,x.2.al=true->x.2.key+16<=bound)->Chain q C R ops.toList fin s L->At (B.at (Dof done)) R N μ0 O0 w0 s μ O a w->wpAny C.P .any ops Q fuel listed a w:=by
 have ad:∀done s μ O a w,(∀x∈done,x.2.al=true->x.2.key+16<=bound)->Chain q C R ops.toList fin s []->At (B.at (Dof done)) R N μ0 O0 w0 s μ O a w->Q .normal a w:=λdone s μ O a w hb hc c=>by
  cases hc with
  |nil hs =>refine hQ (Dof done) μ O a w λk ⟨x,h1,h2,h3⟩=>by grind ⟨c.mem.congr hs.obj (by rw[hs.next]<;>omega),λt v hv=>c.env t v (hs.env t v hv),c.defers,c.size,c.le,c.keeps,λk p hk=>by rw[hs.next];exact c.dom0 k p hk⟩
 intro fuel
 induction fuel with
 |zero =>
  intro L done listed s μ O a w ae hL an E I g a1 ai a6 hs hb aj aa c;have:L=[]:=Qad (by omega);subst this;refine ⟨?_,ad done s μ O a w hb aa c⟩;cases hr:Region.ready .any ops listed with
  |nil=>rfl
  |cons i _ =>obtain⟨o,h1,h2,_⟩:=ready_iff.1 (show i∈Region.ready .any ops listed by grind)<;>grind
 |succ fuel ih =>
  intro L done listed s μ O a w ae hL an E I g a1 ai a6 hs hb aj aa c;refine ⟨λhr=>?_,λi hi=>?_⟩
  ·cases L with
   |nil=>exact ad done s μ O a w hb aa c
   |cons x L =>
    obtain⟨j,r⟩:=x;have hj:=(hL j).1 ⟨r,by simp⟩;have af:j<ops.size:=by grind
    have:j∈Region.ready .any ops listed:=by
     refine ready_iff.2 ⟨ops[j],by simp[af],hj,λe he hb=>?_⟩;have b7:=PX ah j ops[j] (by simp[af]) e he hb;have ao:e.on<listed.size:=by omega
     have hv:listed[e.on]?=some listed[e.on]:=by simp[ao]
     cases aq:listed[e.on] with
     |true=>rw[hv,aq]
     |false =>
      rw[aq] at hv;obtain⟨r',J⟩:=(hL e.on).2 hv;exfalso;rcases List.mem_cons.1 J with h|h
      ·grind
      ·have:=(List.pairwise_cons.1 E).1 _ h<;>omega
    rw[hr] at this;simp at this
  ·obtain⟨o,h1,h2,h3⟩:=ready_iff.1 hi;obtain⟨r,ab⟩:=(hL i).2 h2;obtain⟨L1,L2,rfl⟩:=List.append_of_mem ab;have a7:∀k,(M ops.toList i).testBit k=true->listed[k]?≠some false:=λk hk=>by
    obtain⟨e,he,az,a8⟩:=Ag7 (by rwa [Qav]) hk;have ht:=h3 e he az;rcases a8 with a8|a8
    ·rw[<-a8,ht];simp
    ·exact g e.on k ht a8
   have ar:∀p∈L1,YD ops.toList p (i,r):=λp hp=>by
    have hc:=(List.pairwise_append.1 I).2.2 p hp (i,r) (by simp);rcases hc with hc|hc
    ·have:= (hL p.1).1 ⟨p.2,by simp[hp]⟩;exact absurd this (a7 p.1 hc)
    ·exact hc
   obtain⟨b0,au⟩:=aa.bubble ar;have ag:= (Array.getElem?_eq_some_iff.1 h2).1;refine AaM hC rfl c b0 λk k1 k2 ⟨x,X,b1,b8⟩=>by have:=a1 x X (i,r) ab (.inl b1);simp only at this;omega (by rw[hs];exact a6 (i,r) ab) (λk hk=>by rw[hs];exact hR k hk) (D':=Dof ((i,r)::done)) (λk ⟨x,h1,h2⟩=>⟨x,Qak _ h1,h2⟩) (λb2 k k1 k2=>⟨(i,r),by simp,b2,k1,k2⟩) hN λμ' O' a' w' av=>?_;have Y:∀x∈L1++L2,x∈L1++(i,r)::L2:=λx X=>by
    rcases List.mem_append.1 X with h|h
    ·simp[h]
    ·simp[h]
   have ak:(L1++L2).Sublist (L1++(i,r)::L2):=List.Sublist.append (List.Sublist.refl _) (List.sublist_cons_self _ _);have aw:=List.pairwise_append.1 E;have ax:=List.pairwise_append.1 ai;refine ih (L1++L2) ((i,r)::done) (listed.setIfInBounds i true) _ μ' O' a' w' (by simp at ae ⊢;omega) (λj=>?_) (by simp[an]) (E.sublist ak) (I.sublist ak) (λj k hj hk=>?_) (λx X y hy=>?_) (ai.sublist ak) (λx X=>a6 x (Y x X)) (by rw[JH];exact hs) (λx X=>?_) (λx X=>aj x (Y x X)) au av
   ·by_cases Z:j=i
    ·subst Z;constructor
     ·rintro⟨r',J⟩;exfalso;rcases List.mem_append.1 J with h|h
      ·have:=aw.2.2 _ h (j,r) (by simp);simp only at this;omega
      ·have:=(List.pairwise_cons.1 aw.2.1).1 _ h;simp only at this;omega
     ·intro h;simp[ag] at h
    ·rw[Qbt (Ne.symm Z),<-hL j];constructor
     ·rintro⟨r',J⟩;exact ⟨r',Y _ J⟩
     ·rintro⟨r',J⟩;refine ⟨r',?_⟩;rcases List.mem_append.1 J with h|h
      ·simp[h]
      ·rcases List.mem_cons.1 h with h|h
       ·cases h;exact absurd rfl Z
       ·simp[h]
   ·have b3:listed[k]?≠some false:=by
     by_cases Z:j=i
     ·subst Z;exact a7 k hk
     ·rw[Qbt (Ne.symm Z)] at hj;exact g j k hj hk
    by_cases ay:k=i
    ·subst ay;simp[ag]
    ·rw[Qbt (Ne.symm ay)];exact b3
   ·rcases List.mem_cons.1 X with rfl|X
    ·rcases List.mem_append.1 hy with h|h
     ·exact (ax.2.2 y h (i,r) (by simp)).symm
     ·exact (List.pairwise_cons.1 ax.2.1).1 y h
    ·exact a1 x X y (Y y hy)
   ·rcases List.mem_cons.1 X with rfl|X
    ·exact aj _ ab
    ·exact hb x X
end
end Go.Den
namespace Go.Den
open Go.RowKit
theorem UX {y}:∀ {pre} {i},WA y i pre=true->∀k x,pre[k]?=some x->y.mask.testBit (i+k)=true\/Wz x y=false
 |[],i,_,k,x,h=>by simp at h
 |z::r,i,h,k,x,c=>by
  simp only[WA] at h;split at h
  ·rename_i d;cases k with
   |zero=>simp_all
   |succ k =>have:=UX h k x (by simpa using c)<;>grind
  ·cases h
theorem T9:∀ {r pre},SY pre r=true->∀j y,r[j]?=some y->∀k x,(pre++r)[k]?=some x->k<pre.length+j->y.mask.testBit k=true\/Wz x y=false
 |[],pre,_,j,y,h,_,_,_,_=>by simp at h
 |z::r,pre,h,j,y,c,k,x,d,o=>by
  simp only[SY] at h;split at h
  ·rename_i g;cases j with
   |zero =>simp at c;subst c;have:=UX g k x (by rwa [Qdc (by omega)] at d)<;>simp_all
   |succ j =>exact T9 h j y (by simpa using c) k x (by simpa using d) (by simp;omega)
  ·cases h
theorem cH {ops}:∀ {ms} {os} {c} {j m:Nat} {o} {p},ms[j]?=some m->os[j]?=some o->c[j]?=some p ->
 (xN ops ms os c)[j]?=some {mask:=m,dst:=o.dst,looks:=looks ops o,upd:=p.upd,reads:=p.reads,ld:=p.ld,st:=p.st}
 |[],os,c,j,m,o,p,h,_,_=>by simp at h
 |t::ms,[],c,j,m,o,p,_,h,_=>by simp at h
 |t::ms,o'::os,[],j,m,o,p,_,_,h=>by simp at h
 |t::ms,o'::os,v::c,0,m,o,p,h1,d,g=>by simp at h1 d g;subst h1;subst d;subst g;rfl
 |t::ms,o'::os,v::c,j+1,m,o,p,h1,d,g=>by have:=cH (ops:=ops) (by simpa using h1) (by simpa using d) (by simpa using g);simpa[xN] using this
theorem AfZ {l j o} (h:l[j]?=some o):(Jq [] l)[j]?=some (M l j):=by obtain⟨c,h1,_⟩:=TD (ms:=[]) h;simp only[Qbu,Qbm] at h1;simp[M,Qba,h1]
def Zr (l:List Oper) (j:Nat) (o:Oper) (p:JG):DOp:={mask:=M l j,dst:=o.dst,looks:=looks l o,upd:=p.upd,reads:=p.reads,ld:=p.ld,st:=p.st}
theorem rT {l log} (h:U9 l log=true):Nw 0 l=true /\
 ∀i j c d pi g,i<j->l[i]?=some c->l[j]?=some d->log[i]?=some pi->log[j]?=some g->(M l j).testBit i=true\/Wz (Zr l i c pi) (Zr l j d g)=false:=by
 unfold U9 at h;split at h
 ·rename_i t;refine ⟨t,λi j c d pi g o h1 p v h4=>?_⟩;have:=T9 h j _ (cH (AfZ p) p h4) i _ (by rw[Qaz];exact cH (AfZ h1) h1 v) (by simpa using o);exact this
 ·cases h
theorem has_mem {ks k}:has ks k=true↔k∈ks:=any_beq
theorem uJ {a b:List Nat} (h:a.any (has b)=false):∀k∈a,k∉b:=λk c d=>by have:=List.any_eq_true.2 ⟨k,c,has_mem.2 d⟩<;>simp_all
theorem XB {x y} (h:aI x y=false):(∀k∈x.upd,k∉y.reads)\/Ow x.st y.ld=true:=by
 unfold aI at h;cases c:Ow x.st y.ld with
 |true=>exact .inr rfl
 |false =>rw[c] at h;exact .inl (uJ (by simpa using h))
theorem rO {l i j y E pi I p t} (h:Wz (Zr l i y pi) (Zr l j E I)=false) (h1:l[i]?=some y) (Y:l[j]?=some E)
 (c:CC p.e.upd=[]/\CC t.e.upd=[]\/(⟨CC p.e.upd,p.e.reads,p.ld,p.st⟩:JG)=pi/\(⟨CC t.e.upd,t.e.reads,t.ld,t.st⟩:JG)=I):YD l (i,p) (j,t):=by
 simp only[Wz,Zr,Qbv] at h;obtain⟨⟨⟨⟨⟨J,hb⟩,hc⟩,Z⟩,he⟩,hf⟩:=h;have X:∀ {ks:List Nat} {d:Nat} {x:Option Nat},xZ ks x=false->x=some d->d∉ks:=λ{ks d x} h e hm=>by subst e;simp only[xZ] at h;rw[has_mem.2 hm] at h;cases h
 have di:=JQ h1;have dj:=JQ Y;have mem:∀ {P:Nat->Prop},CC p.e.upd=[]/\CC t.e.upd=[]->(∀k∈CC p.e.upd,P k)/\∀k∈CC t.e.upd,P k:=λ⟨e1,e2⟩=>⟨λk hk=>by simp_all,λk hk=>by simp_all⟩;refine ⟨λd g v=>?_,λd g o ho=>?_,λd g o ho=>?_,?_,?_,?_⟩
 ·simp only[di,dj] at g v;rw[g,v] at J;simp[zG,Qeb] at J
 ·grind
 ·grind
 ·rcases c with c|⟨rfl,rfl⟩
  ·exact (mem c).1
  ·exact uJ Z
 ·rcases c with c|⟨rfl,rfl⟩
  ·exact .inl (mem c).1
  ·exact XB he
 ·rcases c with c|⟨rfl,rfl⟩
  ·exact .inl (mem c).2
  ·exact XB hf
section
variable {A:Type} {Good:A->Prop} {bad:A} {C:Ctx} {B:Base} {R:RO} {N:Nat} {μ0:AI} {O0:Nat->Prop} {w0:World}
theorem At.redom {D D' s c μ O a w} (h:At (B.at D) R N μ0 O0 w0 s μ O a w) (g:∀k,k<s.next\/D k->k<c.next\/D' k) (y:∀k o,c.obj R k=some o->s.obj R k=some o) (hg:∀t v,c.get R t=some v->s.get R t=some v) (E:s.next<=c.next) :
 At (B.at D') R N μ0 O0 w0 c μ O a w :=
 ⟨h.mem.redom (λk p d=>g k (h.mem.dom k p d)) y,λt v I=>h.env t v (hg t v I),h.defers,h.size,h.le,h.keeps,λk p d=>Qac (h.dom0 k p d) E⟩
theorem At.drew {s μ O a w} (h:At B R N μ0 O0 w0 s μ O a w):At B R N μ0 O0 w0 s μ O a w.drew:=by obtain⟨h1,c⟩:=Ta h.mem;exact ⟨h1,λt v d=>D3 c (μle.refl _) v (h.env t v d),h.defers,h.size,h.le,h.keeps.trans c,h.dom0⟩
theorem Zu (hC:DG C B) (hB:∀k,¬B.D k) (hm:C.P.follows .mixedOrders=true) {q:Prop} {id:Nat} {ops:Array Oper} {Q:Exit->Act->World->Prop} (hN:∀(i:Nat) (o:Oper),ops.toList[i]?=some o->∀d,o.dst=some d->d<N)
 {st fin:St} {μ:AI} {O:Nat->Prop} {a:Act} {w:World} (af:At B R N μ0 O0 w0 st μ O a w) (ag:Apart R st) {L:Tr} (X:L.map (·.1)=List.range' 0 ops.toList.length) (ah:Chain q C R ops.toList {fin with next:=st.next} st L)
 {log:List JG} (ai:U9 ops.toList log=true) (J:∀x∈L,∃p,log[x.1]?=some p/\(CC x.2.e.upd=[]\/(⟨CC x.2.e.upd,x.2.e.reads,x.2.ld,x.2.st⟩:JG)=p)) (g:(∀x∈L,x.2.al=false/\CC x.2.e.upd=[]/\x.2.key=st.next)\/∀x∈L,(⟨CC x.2.e.upd,x.2.e.reads,x.2.ld,x.2.st⟩:JG)=log.getD x.1 ⟨[],[],none,none⟩/\x.2.key=st.next+16*x.1)
 (a1:st.next<=fin.next) (aj:∀x∈L,x.2.al=true->x.2.key+16<=fin.next)
 (hQ:∀μ' O' a' w',At B R N μ0 O0 w0 fin μ' O' a' w'->Q .normal a' w'):(Code.region id ops true).wp C.P Q a w:=by
 obtain⟨Y,ak⟩:=rT ai;have Z:∀j,(∃r,(j,r)∈L)↔j<ops.size:=λj=>by
  have:j∈L.map (·.1)↔j<ops.size:=by rw[X];simp
  rw[<-this,Qfl];exact ⟨λ⟨r,h⟩=>⟨_,h,rfl⟩,λ⟨x,h,e⟩=>⟨x.2,by rw[<-e];exact h⟩⟩
 have E:L.Pairwise λx y=>x.1<y.1:=by
  have:(L.map (·.1)).Pairwise (· < ·):=by rw[X];exact List.pairwise_lt_range'
  exact List.pairwise_map.1 this
 refine wp_region_any hm (AcH (B:=B) (μ0:=μ0) (O0:=O0) (w0:=w0) (fin:={fin with next:=st.next}) (n0:=st.next) (bound:=fin.next) hC Y ag.next hN (λD μ' O' a' w' hD a6=>hQ μ' O' a' w' ?_) ops.size L [] (Array.replicate ops.size false) st μ O a w.drew ?_ (λj=>?_) (by simp) E ?_ (λj k hj=>?_) (λx I=>by simp at I) ?_ (λx I=>?_) rfl (λx I=>by simp at I) aj ah ?_)
 ·exact a6.redom (B:=B) (D':=B.D) (λk c=>.inl (c.elim (λh=>Qac h a1) (hD k))) (λk o h=>h) (λt v h=>h) a1
 ·have:L.length=ops.size:=by rw[<-Qdx (f:=(·.1)),X];simp
  omega
 ·rw[Z j];simp[Qcl]
 ·refine E.imp_of_mem λ{x y} I hy a7=>?_;have a8:x.1<ops.size:=(Z x.1).1 ⟨x.2,I⟩;have aa:y.1<ops.size:=(Z y.1).1 ⟨y.2,hy⟩;obtain⟨px,ab,an⟩:=J x I;obtain⟨py,ad,ao⟩:=J y hy;refine (ak x.1 y.1 ops[x.1] ops[y.1] px py a7 (by simp[a8]) (by simp[aa]) ab ad).imp (λh=>h) λhc=>rO hc (by simp[a8]) (by simp[aa]) ?_;rcases g with c|c
  ·exact .inl ⟨(c x I).2.1,(c y hy).2.1⟩
  ·refine .inr ⟨?_,?_⟩
   ·rw[(c x I).1,Qba,ab];rfl
   ·rw[(c y hy).1,Qba,ad];rfl
 ·simp[Qcl] at hj
 ·refine E.imp_of_mem λ{x y} I hy a7 ae=>?_;rcases g with c|c
  ·rw[(c x I).1,(c y hy).1] at ae;simp at ae
  ·rw[(c x I).2,(c y hy).2];omega
 ·rcases g with c|c
  ·rw[(c x I).2.2];exact Qaa _
  ·rw[(c x I).2];omega
 ·exact af.drew.redom (B:=B) (D:=B.D) (λk c=>c.imp (λh=>h) λh=>absurd h (hB k)) (λk o h=>h) (λt v h=>h) (Qaa _)
end
end Go.Den
namespace Go.Den
open Go.RowKit
section
variable {A:Type} {Good:A->Prop} {bad:A} {C:Ctx} {B:Base} {R:RO} {inl:Gc}
theorem Xr {n e}:VL n e=e\/Plain n e (VL n e):=by
 unfold VL;split
 ·split
  ·rename_i h1 c;cases beq_true h1;cases beq_true c;exact .inr ⟨_,_,_,_,rfl,rfl⟩
  simp_all
 simp_all
theorem Aau {st rest o out e} (h:bT C R st rest o=some out) (g:out.run=some e):∃t E,aop C R st o=some t/\t.run=some E/\(e=E\/Plain st.next E e):=by
 unfold bT at h;split at h
 ·rename_i k k' T l rd n d;split at h
  ·simp_all
  split at h
  ·rename_i ty m ps y;cases h;cases BF g;refine ⟨_,_,d,rfl,.inr ?_⟩;unfold aop at d;rw[y] at d;simp only at d;split at d
   ·unfold ER at d;repeat' split at d
    all_goals first|cases d|skip
    exact ⟨_,_,_,_,rfl,rfl⟩
   ·unfold FH at d;repeat' split at d
    all_goals cases d
  simp_all
 ·rename_i b k k' T l rd n d;split at h
  ·simp_all
  ·split at h
   ·rename_i y;cases h;obtain⟨I,rfl⟩:=Bu g;refine ⟨_,{dst:=some (AVal.v (V1.c (Cell.ref k))),upd:=[(k',some (AObj.arr T l))],frz:=[],reads:=rd,next:=n},d,by simp[AOut.run,I],.inr ?_⟩;unfold aop at d;rw[y] at d;simp only at d;split at d
    ·unfold FC at d;repeat' split at d
     all_goals first|cases d|skip
     exact ⟨_,_,_,_,rfl,rfl⟩
    ·cases d
   ·cases h;exact ⟨_,e,d,g,.inl rfl⟩
 ·rename_i T p f d;split at h
  ·cases h;obtain⟨x,J,rfl⟩:=Ck g;exact ⟨_,f x,d,by simp[AOut.run,J],Xr⟩
  ·cases h;exact ⟨_,e,d,g,.inl rfl⟩
 ·rename_i T p f d;split at h
  ·cases h;simp only[AOut.run,Qaf] at g;subst g;exact ⟨_,f p,d,rfl,Xr⟩
  ·cases h;exact ⟨_,e,d,g,.inl rfl⟩
 ·exact ⟨_,e,h,g,.inl rfl⟩
theorem sV {st c e} (h:e=c\/Plain st.next c e) (h0:Shape st c):Shape st e:=by
 rcases h with h|⟨T,l,rd,n,h1,d⟩
 ·simp_all
 ·subst d;exact .still rfl rfl
theorem Apart.nextUp {st n} (h:Apart R st) (c:st.next<=n):Apart R {st with next:=n}:=⟨h.env,h.heap,λk d=>Qac (h.next k d) c⟩
theorem Aar {l i n0 o e r} {st:St} (c:l[i]?=some o) (d:e.frz=[]) (g:r.e.dst=e.dst) (h:r.e.upd=e.upd):adv R l {st with next:=n0} i r={st.after R o.dst e with next:=n0}:=by unfold adv St.after;rw[JQ c,d,g,h];cases o.dst<;>rfl
theorem zI {st e} (h:Shape st e):e.next<=st.next+16:=by cases h<;>omega
theorem Oe {L i n} {r:Rec} (h:L.map (·.1)=List.range' (i+1) n):(((i,r)::L).map (·.1))=List.range' i (n+1):=by rw[Qcu,h,Qge]
theorem Afo {g n0 b} {st:St} (h:st.get R g=some (.v (.c (.bool b)))):Sub True R {st.put (some g) (some (.v (.c (.bool b)))) with next:=n0} {st with next:=n0}:=by
 refine ⟨λt v p=>?_,λk o d=>?_,λ_ k o d=>?_,rfl⟩
 ·have e:({st.put (some g) (some (.v (.c (.bool b)))) with next:=n0}:St).get R t=(st.put (some g) (some (.v (.c (.bool b))))).get R t:=rfl;rw[e,Fx] at p;show st.get R t=some v<;>grind
 ·exact d
 ·exact d
theorem Apart.putFree {st d} (h:Apart R st) (g:free R d=true) v:Apart R (st.put d v):=by have c:Shape st {dst:=v,next:=st.next}:=.still rfl rfl;exact ⟨(h.after g c).env,by rw[Yo];exact h.heap,by rw[CG];exact h.next⟩
theorem Qc {l n0} (hbad:¬Good bad):∀ {rest} {i} {st} {log} {K},(∀k o,rest[k]?=some o->l[i+k]?=some o)->Apart R st->Good (JS C R l rest st log K bad) ->
 ∃(L:Tr) (fin:St),L.map (·.1)=List.range' i rest.length/\Chain True C R l {fin with next:=n0} {st with next:=n0} L/\Good (K (log++L.map λx=>(⟨CC x.2.e.upd,x.2.e.reads,x.2.ld,x.2.st⟩:JG)) fin)/\Apart R fin/\fin.next=st.next+16*rest.length/\∀x∈L,x.2.key+16*i=st.next+16*x.1/\x.1<i+rest.length
 |[],i,st,log,K,_,I,h=>⟨[],st,rfl,.nil (Sub.refl _ _ _),by simpa[JS] using h,I,rfl,λx hx=>by simp at hx⟩
 |o::r,i,st,log,K,J,I,h=>by
  have ho:l[i]?=some o:=J 0 o rfl;have y:∀k o',r[k]?=some o'->l[i+1+k]?=some o':=λk o' hk=>by have:=J (k+1) o' (by simpa using hk)<;>grind
  have exec:∀s1:St,s1.next=st.next->Apart R s1->Told R l {s1 with next:=n0} o true->Good (Qd R o.dst (bT C R s1 r o) (λe=>match e.frz with
   |[]=>JS C R l r {s1.after R o.dst e with next:=st.next+16} (log++[yK C.P R s1 o e]) K bad
   |_=>bad) bad)->∃(L:Tr) (fin:St),L.map (·.1)=List.range' i (o::r).length/\Chain True C R l {fin with next:=n0} {s1 with next:=n0} L/\Good (K (log++L.map λx=>(⟨CC x.2.e.upd,x.2.e.reads,x.2.ld,x.2.st⟩:JG)) fin)/\Apart R fin/\fin.next=st.next+16*(o::r).length/\∀x∈L,x.2.key+16*i=st.next+16*x.1/\x.1<i+(o::r).length:=by
   intro s1 a1 E p Y
   obtain⟨d,out,e,ha,hr,Z⟩:=Xc hbad Y
   split at Z
   case h_2=>exact absurd Z hbad
   rename_i a6
   obtain⟨a7,e0,a8,aa,hp⟩:=Aau ha hr
   have ab:=sV hp (Iu a8 aa).1
   have ad:Apart R {s1.after R o.dst e with next:=st.next+16}:=by have h1:=(E.after d ab).nextUp (n:=st.next+16) (by unfold St.after;rw[CG];have:=zI ab<;>simp_all)<;>omega
   obtain⟨L,fin,h1,h2,h3,h4,h5,h6⟩:=Qc hbad y ad Z
   refine ⟨(i,⟨true,e,st.next,true,ldR C.P R s1 o,stR C.P R s1 o⟩)::L,fin,Oe h1,.cons ⟨o,ho,d,a6,λhn=>absurd trivial hn,⟨λ_ h=>h,λ_ h=>h⟩,.inl ⟨rfl,p,a7,e0,by rw[<-a1];exact a8,aa,λ_=>rfl,by simp_all⟩⟩ ?_,?_,h4,?_,λx hx=>?_⟩
   ·rw[Aar ho a6 rfl rfl]<;>omega
   ·rw[Qcu,<-Qec,<-Qaq];exact h3
   ·grind
   grind
  have skip:∀s1:St,s1.next=st.next->Apart R s1->free R o.dst=true->Told R l {s1 with next:=n0} o false->Good (JS C R l r {s1.put o.dst (some .undef) with next:=st.next+16} (log++[⟨[],[],none,none⟩]) K bad)->∃(L:Tr) (fin:St),L.map (·.1)=List.range' i (o::r).length/\Chain True C R l {fin with next:=n0} {s1 with next:=n0} L/\Good (K (log++L.map λx=>(⟨CC x.2.e.upd,x.2.e.reads,x.2.ld,x.2.st⟩:JG)) fin)/\Apart R fin/\fin.next=st.next+16*(o::r).length/\∀x∈L,x.2.key+16*i=st.next+16*x.1/\x.1<i+(o::r).length:=by
   intro s1 a1 E d p Y;obtain⟨L,fin,h1,h2,h3,h4,h5,h6⟩:=Qc hbad y ((E.putFree d _).nextUp (n:=st.next+16) (by rw[CG];omega)) Y;refine ⟨(i,⟨false,{dst:=some .undef,next:=n0},st.next,true,none,none⟩)::L,fin,Oe h1,.cons ⟨o,ho,d,rfl,λhn=>absurd trivial hn,⟨λ_ h=>(by cases h),λ_ h=>by cases h⟩,.inr ⟨rfl,p,rfl,rfl⟩⟩ ?_,?_,h4,?_,λx hx=>?_⟩
   ·have:adv R l {s1 with next:=n0} i ⟨false,{dst:=some .undef,next:=n0},st.next,true,none,none⟩={s1.put o.dst (some .undef) with next:=n0}:=by unfold adv;rw[JQ ho];cases o.dst<;>rfl
    rw[this];exact h2
   ·rw[Qcu,<-Qec,<-Qaq];exact h3
   ·rw[h5,Qay]<;>grind
   ·rcases List.mem_cons.1 hx with rfl|hx
    ·simp
    ·have:=h6 x hx;simp only[Qay] at this ⊢<;>omega
  simp only[JS] at h;split at h
  ·rename_i j want hg;split at h
   ·exact absurd h hbad
   rename_i g hd;split at h;case h_2=>exact absurd h hbad
   rename_i c ag ae af;have X:∀b,(st.put (some g) (some (.v (.c (.bool b))))).get R g=some (.v (.c (.bool b))):=λb=>by rw[Fx,if_pos rfl]
   have tr:∀b,want=b->Told R l {st.put (some g) (some (.v (.c (.bool b)))) with next:=n0} o true:=λb hb=>.inr ⟨j,want,g,hg,hd,by rw[hb];exact X b⟩;have fl:∀b,want=!b->Told R l {st.put (some g) (some (.v (.c (.bool b)))) with next:=n0} o false:=λb hb=>⟨j,want,g,hg,hd,.inl (by rw[hb,Bool.not_not];exact X b)⟩;have fin:∀b,c=b->(∃(L:Tr) (fin:St),L.map (·.1)=List.range' i (o::r).length/\Chain True C R l {fin with next:=n0} {st.put (some g) (some (.v (.c (.bool b)))) with next:=n0} L/\Good (K (log++L.map λx=>(⟨CC x.2.e.upd,x.2.e.reads,x.2.ld,x.2.st⟩:JG)) fin)/\Apart R fin/\fin.next=st.next+16*(o::r).length/\∀x∈L,x.2.key+16*i=st.next+16*x.1/\x.1<i+(o::r).length)->∃(L:Tr) (fin:St),L.map (·.1)=List.range' i (o::r).length/\Chain True C R l {fin with next:=n0} {st with next:=n0} L/\Good (K (log++L.map λx=>(⟨CC x.2.e.upd,x.2.e.reads,x.2.ld,x.2.st⟩:JG)) fin)/\Apart R fin/\fin.next=st.next+16*(o::r).length/\∀x∈L,x.2.key+16*i=st.next+16*x.1/\x.1<i+(o::r).length:=λb hb ⟨L,fin,h1,h2,h3⟩=>⟨L,fin,h1,h2.sub (Afo (by rw[af,hb])),h3⟩;have t:∀b,Apart R (st.put (some g) (some (.v (.c (.bool b))))):=λb=>I.putFree ag _;cases want with
   |true =>
    cases c with
    |true=>exact fin true rfl (exec _ (by rw[CG]) (t true) (tr true rfl) h)
    |false=>exact fin false rfl (skip _ (by rw[CG]) (t false) ae (fl false rfl) h)
   |false =>
    cases c with
    |true=>exact fin true rfl (skip _ (by rw[CG]) (t true) ae (fl true rfl) h)
    |false=>exact fin false rfl (exec _ (by rw[CG]) (t false) (tr false rfl) h)
  ·rename_i hg;exact exec st rfl I (.inl hg) h
def TA (C:Ctx) (R:RO) (l:List Oper) (K:St->A) (Good:A->Prop) (n0 i:Nat) (st:St):Prop :=
 n0<=st.next->∃(L:Tr) (fin:St),L.map (·.1)=List.range' i (l.length-i)/\Chain False C R l {fin with next:=n0} {st with next:=n0} L/\Good (K fin)/\Apart R fin/\n0<=fin.next/\∀x∈L,x.2.al=false/\CC x.2.e.upd=[]/\x.2.key=n0
theorem M8:∀ {l},QD C l=true->∀(i:Nat) o,l[i]?=some o->BT C o=true
 |[],_,i,o,h=>by simp at h
 |o'::r,c,i,o,h=>by
  simp only[QD] at c;split at c
  ·rename_i h1;cases i with
   |zero=>simp_all
   |succ i=>exact M8 c i o (by simpa using h)
  ·cases c
theorem zD {l K n0} (E:QD C l=true):XK C R l inl Good bad (TA C R l K Good n0) where
 weak i st st' y h hn:=by obtain⟨L,fin,h1,J,X⟩:=h (Qbh hn y.next);exact ⟨L,fin,h1,J.sub ⟨λt v hv=>y.env t v hv,λk o hk=>y.obj k o hk,λhq=>hq.elim,rfl⟩,X⟩
 op i st o out e p ht ha hr ae hf h hn:=by
  have d:=M8 E i o p;have a7:= (List.getElem?_eq_some_iff.1 p).1;obtain⟨hu,a8⟩:=(Iu ha hr).2 d;have y:=(Iu ha hr).1.le;obtain⟨Y,e',x1,x2,x3⟩:=k9 (st':={st with next:=n0}) (q:=False) ha hr ⟨λx _ v hv=>by cases x<;>exact hv,λ_ _ _ h=>h,λhq=>hq.elim⟩ (λhs=>by simp_all);have he:=x3.2 hu;obtain⟨L,fin,h1,J,X,h4,h5,h6⟩:=h (by unfold St.after;rw[CG]<;>grind);refine ⟨(i,⟨true,e',n0,false,none,none⟩)::L,fin,?_,.cons ⟨o,p,hf,by simp_all,λ_=>d,⟨λ_ h=>(by cases h),λ_ h=>by cases h⟩,.inl ⟨rfl,?_,Y,e',x1,x2,λaa=>absurd (by simp_all) aa,.inl rfl⟩⟩ ?_,X,h4,h5,λx Z=>?_⟩
  ·rw[Oe h1]<;>grind
  ·exact Mb ht λ_ _ _ h=>h
  ·rw[Aar p a8 (by rw[he]) (by rw[he])];exact J
  ·rcases List.mem_cons.1 Z with rfl|Z
   ·exact ⟨rfl,by simp[CC,he,hu],rfl⟩
   grind
 skip i st o p ht hf h hn:=by
  have a7:= (List.getElem?_eq_some_iff.1 p).1;obtain⟨L,fin,h1,J,X,h4,h5,h6⟩:=h (by rw[CG];exact hn);refine ⟨(i,⟨false,{dst:=some .undef,next:=n0},n0,false,none,none⟩)::L,fin,?_,.cons ⟨o,p,hf,rfl,λ_=>M8 E i o p,⟨λ_ h=>(by cases h),λ_ h=>by cases h⟩,.inr ⟨rfl,Mb ht λ_ _ _ h=>h,rfl,rfl⟩⟩ ?_,X,h4,h5,λx Z=>?_⟩
  ·rw[Oe h1]<;>grind
  ·have:adv R l {st with next:=n0} i ⟨false,{dst:=some .undef,next:=n0},n0,false,none,none⟩={st.put o.dst (some .undef) with next:=n0}:=by unfold adv;rw[JQ p];cases o.dst<;>rfl
   rw[this];exact J
  ·rcases List.mem_cons.1 Z with rfl|Z
   ·exact ⟨rfl,rfl,rfl⟩
   grind
 inl i st o I vs K' p ht hi hf af hg hK:=by
  exfalso;have d:=M8 E i o p;unfold inlined at hi;split at hi
  ·rename_i c ab;split at hi
   ·rename_i f a1;split at hi
    ·split at hi
     ·rename_i g us a6;split at hi;case h_2=>cases hi
      rename_i I' hI;simp only[BT,ab,a1] at d;cases f with
      |func f' =>
       simp only[opv,Vd,Qaf,Qcv] at a6;obtain⟨rfl,_⟩:=a6;simp only[hI] at d;split at d
       ·rename_i ad;cases ad
       ·cases d
      |tmp t=>cases d
      |const v=>cases d
      |global g=>cases d
     ·cases hi
    ·cases hi
   ·cases hi
  ·cases hi
theorem JP (hC:DG C B) (hB:∀k,¬B.D k) (hm:C.P.follows .mixedOrders=true):Pv C B inl:=by
 intro A Good bad hbad R N id ops Q hN st μ O a w μ0 O0 w0 y g K hK h;unfold cI at h;split at h
 ·rename_i J;split at h;case h_2=>exact absurd h hbad
  rename_i t;have:=OD hbad (zD J) (cur:=none) λk o I=>by rwa [Qbm] trivial g (λst' ha _ hg hn=>by refine ⟨[],st',by simp,.nil (Sub.refl _ _ _),hg,ha,hn,λx c=>by simp at c⟩) h (Qaa _);obtain⟨L,fin,h1,X,v,h4,h5,h6⟩:=this;refine Zu hC hB hm hN y g (by simpa using h1) X t (λx c=>?_) (.inl h6) h5 λx c Y=>by grind λμ' O' Z w' d=>hK fin μ' O' Z w' h4 d v;have E:x.1<ops.toList.length:=by have:x.1∈L.map (·.1):=List.mem_map.2 ⟨x,c,rfl⟩<;>simp_all
  exact ⟨⟨[],[],none,none⟩,by simp at E ⊢;simp[E],.inl (h6 x c).2.1⟩
 ·have:=Qc (n0:=st.next) hbad λk o I=>by rwa [Qbm] g h;obtain⟨L,fin,h1,X,v,h4,h5,h6⟩:=this;rw[Qaz] at v;split at v;case h_2=>exact absurd v hbad
  rename_i t;have p:∀x∈L,(L.map λx=>(⟨CC x.2.e.upd,x.2.e.reads,x.2.ld,x.2.st⟩:JG))[x.1]?=some ⟨CC x.2.e.upd,x.2.e.reads,x.2.ld,x.2.st⟩:=λx c=>by
   obtain⟨k,I⟩:=List.mem_iff_getElem?.1 c;have:(L.map (·.1))[k]?=some x.1:=by simp[I]
   rw[h1] at this;obtain⟨a1,he⟩:=List.getElem?_eq_some_iff.1 this;simp only[List.getElem_range',Qfc,Qbm] at he;rw[<-he];simp[I]
  refine Zu hC hB hm hN y g h1 X t (λx c=>⟨_,p x c,.inr rfl⟩) (.inr λx c=>⟨?_,?_⟩) (by omega) (λx c Y=>?_) λμ' O' Z w' d=>hK fin μ' O' Z w' h4 d v
  ·rw[Qba,p x c];rfl
  ·have:=h6 x c;omega
  ·have:=h6 x c;omega
end
end Go.Den
namespace Go.Den
open Go.RowKit
def rv (tmps:Array Value):ResultVar->Sem Value
 |.tmp t=>pure (tmps.getD t undef)
 |.cell a t=>do loadVar t (<-asAddr (tmps.getD a undef))
theorem nY {P w tmps}:∀ {l} {vs},All2 (λr v=>(rv tmps r).run P w=.ok v w) l vs->(l.mapM (rv tmps)).run P w=.ok vs w
 |[],_,.nil=>by simp
 |r::l,_,.cons h1 c=>by rw[List.mapM_cons];simp[Sem.run_bind,Result.andThen,h1,nY c]
theorem Gy {P w fn tmps l vs} (c:fn.results.toList=l) (h:All2 (λr v=>(rv tmps r).run P w=.ok v w) l vs) :
 (results fn tmps).run P w=.ok (Cp vs) w:=by
 have d:fn.results=l.toArray:=by rw[<-c]
 have g:results fn tmps=(do let vs <-l.toArray.mapM (rv tmps);pure (if h:vs.size=1 then vs[0] else .tuple vs)):=by unfold results;rw[d];rfl
 rw[g,List.mapM_toArray];simp[Result.andThen,nY h];cases vs with
 |nil=>simp[Cp]
 |cons v r=>cases r with
  |nil=>simp[Cp]
  |cons u r=>simp[Cp]
theorem y9 {P B R st μ O w tmps r Y} (hM:RelM B R st μ O w) (y:CN R st μ O w tmps) (h:Z6 P R st r=some Y) :
 ∃v,(rv tmps r).run P w=.ok v w/\Cl w O μ Y v:=by
 cases r with
 |tmp t =>
  simp only[Z6] at h;split at h
  ·rename_i v o;cases h;exact ⟨tmps.getD t undef,by simp[rv],y t _ o⟩
  ·cases h
 |cell a t =>
  simp only[Z6] at h;split at h
  ·rename_i e c;split at h
   ·rename_i v o;cases h;have key:∀b off u,tmps.getD a undef=.pointer (some ⟨b,off,none⟩)->(Instr.loadAt t (.pointer (some ⟨b,off,none⟩))).run P w=.ok u w->(rv tmps (.cell a t)).run P w=.ok u w:=λb off u h1 h2=>by simp only[rv,h1];simpa[Instr.loadAt,Instr.sureAddr,asAddr] using h2
    unfold Gf at c;split at c
    ·rename_i k off E;have g:= y a _ E;split at c
     ·rename_i cs hk;split at c
      ·rename_i I J;cases c;cases o;obtain⟨b,Z,ev⟩:=g;obtain⟨b',vs,el,p,hc,X⟩:=hM.heap k _ hk;rw[Z] at p;cases p;obtain⟨u,hu,g⟩:=Na (b:=b) (off:=off) J (X.drop off) (by have:=KO (JK hc) off<;>simp_all)<;>simp_all
      ·cases c
     ·cases c
    ·grind
    ·rename_i cs E;have g:= y a _ E;split at c
     ·rename_i I J;cases c;cases o;obtain⟨b,off,us,ev,hO,Z,d,X⟩:=g;obtain⟨u,hu,g⟩:=Na J X d;exact ⟨u,key b off u ev hu,g⟩
     ·cases c
    ·repeat' split at c
     all_goals first|(cases c;done)|(cases c;cases o)
    ·split at c
     ·split at c
      ·cases c
      ·cases c
     ·cases c
    ·cases c
   ·cases h
  ·cases h
theorem Eu {P B R st μ O w tmps} (c:RelM B R st μ O w) (d:CN R st μ O w tmps):∀ {l} {vs},E0 P R st l=some vs ->
 ∃us,All2 (λr v=>(rv tmps r).run P w=.ok v w) l us/\All2 (Cl w O μ) vs us
 |[],vs,h=>by simp[E0] at h;subst h;exact ⟨[],.nil,.nil⟩
 |r::l,vs,h=>by
  simp only[E0] at h;split at h
  ·rename_i v g h1 o;cases h;obtain⟨u,p,h4⟩:=y9 c d h1;obtain⟨us,t,h6⟩:=Eu c d o;exact ⟨u::us,.cons p t,.cons h4 h6⟩
  ·cases h
def FnOK (P:Program) (f:FuncId) (I:Inl):Prop :=
 ∃fn,P.funcs[f]?=some fn/\fn.body=some I.code/\fn.ntmps=I.ntmps/\fn.results.toList=I.results/\(fn.name== "runtime.NumGoroutine")=false/\CU I.ntmps I.code=true
theorem FnOK.enters {P f I} (h:FnOK P f I) args w:(callFunc f args).run P w=.ok (.enter f args) w:=by
 obtain⟨fn,h1,h2,_,_,h3,_⟩:=h;have h3':¬fn.name= "runtime.NumGoroutine":=by simp_all
 simp[callFunc,h1,h2,h3']
theorem UH:∀ {vs} {n s},assoc (CP n vs) s=if s<n then none else vs[s-n]?.map some
 |[],n,s=>by simp[CP,assoc]
 |v::r,n,s=>by simp only[CP,AE];rw[UH]<;>grind
theorem kW {α β:Type} {P:α->β->Prop}:∀ {l:List α} {m},All2 P l m->∀ {i:Nat} {a},l[i]?=some a->∃b,m[i]?=some b/\P a b
 |_,_,.nil,i,a,h=>by simp at h
 |_,_,.cons h1 c,0,a,h=>by simp_all
 |_,_,.cons h1 c,i+1,a,h=>by obtain⟨b,d,g⟩:=kW c (by simpa using h)<;>simp_all
theorem OB {h g μ O w vs us} {R:RO} (o:All2 (BW w O μ) vs us) k:CN {renv:=[],rheap:=R.rheap} {env:=CP 0 vs,heap:=h,next:=g} μ O w (us.toArray++Array.replicate k undef):=λs x c=>by
 simp only[St.get,UH,Qgk,if_false,Qeu] at c;cases hg:vs[s]? with
 |none=>rw[hg] at c;simp[assoc] at c
 |some v =>
  rw[hg] at c;simp only[Qai] at c;cases c;obtain⟨u,d,p⟩:=kW o hg;have:(us.toArray++Array.replicate k undef).getD s undef=u:=by simp[Qed,(List.getElem?_eq_some_iff.1 d).1,(List.getElem?_eq_some_iff.1 d).2]
  rw[this];exact p
section
variable {C:Ctx} {B:Base} {inl:Gc} {A:Type} {Good:A->Prop} {bad:A}
theorem W9 {f I R vs h g μ O w us Rr} (d:B.dfr=[]) (hB:∀k,¬B.D k) (hf:FnOK C.P f I)
 (hv:All2 (BW w O μ) vs us) (t:∀k,assoc R.rheap k≠none->assoc h k=none/\k<g) (hM:RelM B R {env:=[],heap:=h,next:=g} μ O w)
   {K:AExit->St->A} (X:∀e st,e≠.normal->e≠.ret->¬Good (K e st))
   (hK:∀e st μ' O' tmps w',Apart {renv:=[],rheap:=R.rheap} st->RelM B {renv:=[],rheap:=R.rheap} st μ' O' w'->CN {renv:=[],rheap:=R.rheap} st μ' O' w' tmps->μle μ μ'->Keeps w O w' O'->(∀k p,μ k=some p->k<st.next) ->
     Good (K e st)->∃us,All2 (λr v=>(rv tmps r).run C.P w'=.ok v w') I.results us/\Rr (.returned (Cp us)) w')
   (y:∀ {Q} {a},CU I.ntmps I.code=true->At B {renv:=[],rheap:=R.rheap} I.ntmps μ O w {env:=CP 0 vs,heap:=h,next:=g} μ O a w->Apart {renv:=[],rheap:=R.rheap} {env:=CP 0 vs,heap:=h,next:=g} ->
     (∀e st' μ' O' E w',(∀l,e≠.goto l)->Apart {renv:=[],rheap:=R.rheap} st'->At B {renv:=[],rheap:=R.rheap} I.ntmps μ O w st' μ' O' E w'->Good (K e st')->Q e.toExit E w')->I.code.wp C.P Q a w):Calls C.P f us.toArray w Rr:=by
  obtain⟨fn,h1,h2,h3,h4,h5,h6⟩:=hf;refine calls_of_wp h1 h2 ?_;have Y:At B {renv:=[],rheap:=R.rheap} I.ntmps μ O w {env:=CP 0 vs,heap:=h,next:=g} μ O {tmps:=us.toArray++Array.replicate (fn.ntmps-us.toArray.size) undef,defers:=[]} w :=
   ⟨hM.move (λk o ho=>ho) (Qaa _),OB hv _,d.symm,by grind,μle.refl _,Keeps.refl _ _,λk p J=>(hM.dom k p J).elim (λh=>h) λh=>absurd h (hB k)⟩;refine y h6 Y ⟨λs hs=>absurd rfl hs,λk J=>(t k J).1,λk J=>(t k J).2⟩ λe st' μ' O' E w' Z g1 c g3=>?_;cases e with
  |exit i=>exact absurd g3 (X _ st' nofun nofun)
  |goto i=>exact absurd rfl (Z i)
  |normal =>obtain⟨a1,g4,g5⟩:=hK .normal st' μ' O' E.tmps w' g1 c.mem c.env c.le c.keeps c.dom0 g3;exact ⟨c.defers.trans d,_,Gy h4 g4,g5⟩
  |ret =>obtain⟨a1,g4,g5⟩:=hK .ret st' μ' O' E.tmps w' g1 c.mem c.env c.le c.keeps c.dom0 g3;exact ⟨c.defers.trans d,_,Gy h4 g4,g5⟩
theorem IH {f I R vs h o μ O w us K X} (t:B.dfr=[]) (Y:DG C B) (y:∀k,¬B.D k) (hm:C.P.follows .mixedOrders=true) (c:HD C B inl) (hbad:¬Good bad) (hf:FnOK C.P f I)
 (hv:All2 (BW w O μ) vs us) (E:∀k,assoc R.rheap k≠none->assoc h k=none/\k<o) (hM:RelM B R {env:=[],heap:=h,next:=o} μ O w)
 (d:∀e st,e≠.normal->e≠.ret->¬Good (K e st))
   (hK:∀e st μ' O' tmps w',Apart {renv:=[],rheap:=R.rheap} st->RelM B {renv:=[],rheap:=R.rheap} st μ' O' w'->CN {renv:=[],rheap:=R.rheap} st μ' O' w' tmps->μle μ μ'->Keeps w O w' O'->(∀k p,μ k=some p->k<st.next) ->
     Good (K e st)->∃us,All2 (λr v=>(rv tmps r).run C.P w'=.ok v w') I.results us/\X (.returned (Cp us)) w')
   (hg:Good (Bi C inl I.hints I.code {renv:=[],rheap:=R.rheap} {env:=CP 0 vs,heap:=h,next:=o} K bad)):Calls C.P f us.toArray w X:=by
  exact W9 t y hf hv E hM d hK λh6 J g hq=>Cc Y y c (JP Y y hm) I.hints I.code h6 hbad J g (λe st' μ' O' a' w' g1 g2 Z=>by
   cases e with
   |goto i=>exact absurd Z (d _ st' nofun nofun)
   |_=>exact hq _ st' μ' O' a' w' nofun g1 g2 Z) hg
theorem tJ {R st l}:∀ {rs},aK R st rs=some l->∃t,rs=[.tmp t]/\st.get R t=some (.str l)
 |[],h=>by cases h
 |[.tmp t],h=>by simp only[aK] at h<;>grind
 |[.cell _ _],h=>by cases h
 |.tmp _::_::_,h=>by cases h
 |.cell _ _::_::_,h=>by cases h
theorem ZI (p:B.dfr=[]) (hC:DG C B) (hB:∀k,¬B.D k) (hm:C.P.follows .mixedOrders=true) (J:∀f I,C.inl f=some I->FnOK C.P f I):∀d,HD C B (EN C d)
 |0=>⟨λf I v=>(J f I v).enters,λ{_} Good bad hbad f I R vs h nx K μ O w us _ _ _ _ _ hg=>absurd hg hbad⟩
 |d+1=>⟨λf I v=>(J f I v).enters,λ{_} Good bad hbad f I R vs h nx K μ O w us v a8 hv X hM hg=>by
  refine IH p hC hB hm (ZI p hC hB hm J d) hbad (J f I v) hv X hM (λe st h1 h2 hh=>by cases e<;>first|exact h1 rfl|exact h2 rfl|exact hbad hh) (λe st μ' O' tmps w' g1 g2 g3 Y Z g6 g7=>?_) hg;have c:RelM B R {env:=[],heap:=st.heap,next:=st.next} μ' O' w':=g2.move (λk o ho=>ho) (Qaa _);have g:∀k,assoc R.rheap k≠none->assoc st.heap k=none/\k<st.next:=λk hk=>⟨g1.heap k hk,g1.next k hk⟩;have go:Good (match I.results with
   |[]=>K none st.heap st.next
   |rs=>match aK {renv:=[],rheap:=R.rheap} st rs with
    |some l=>K (some (.str l)) st.heap st.next
    |none=>match E0 C.P {renv:=[],rheap:=R.rheap} st rs with
     |some vs=>K (some (OK vs)) st.heap st.next
     |none=>bad):=by
   grind
  split at go
  ·rename_i hr;rw[hr];exact ⟨[],.nil,_,rfl,none,st.heap,st.next,μ',O',Y,Z,c,(λy E=>by cases E),g,g6,go⟩
  ·split at go
   ·rename_i l hl;obtain⟨t,ht,hx⟩:=tJ hl;refine ⟨[tmps.getD t undef],?_,_,rfl,some (.str l),st.heap,st.next,μ',O',Y,Z,c,λy E=>by cases E;exact g3 t _ hx,g,g6,go⟩;rw[ht];exact .cons (by simp[rv]) .nil
   split at go
   ·rename_i a1 a6;obtain⟨a7,k1,k2⟩:=Eu g2 g3 a6;exact ⟨a7,k1,_,rfl,some (OK a1),st.heap,st.next,μ',O',Y,Z,c,λy E=>by cases E;exact IZ k2,g,g6,go⟩
   ·exact absurd go hbad⟩
theorem TR {R st μ O w} d:RelM B R st μ O w↔RelM {B with dfr:=d} R st μ O w :=
 ⟨λh=>⟨h.heap,h.own,h.inj,h.foreign,h.flt,h.dom,h.below,h.bsize,h.obound⟩,λh=>⟨h.heap,h.own,h.inj,h.foreign,h.flt,h.dom,h.below,h.bsize,h.obound⟩⟩
theorem EE (o:DG C B) (p:∀k,¬B.D k) (t:C.P.follows .mixedOrders=true) (y:∀f I,C.inl f=some I->FnOK C.P f I) d:HD C B (EN C d):=by have h0:=ZI (B:={B with dfr:=[]}) rfl o p t y d;refine ⟨h0.enters,λGood bad hbad f I R vs h E K μ O w us J X Y c Z hg=>?_⟩;refine (h0.calls Good bad hbad f I R vs h E K μ O w us J X Y c ((TR []).1 Z) hg).mono ?_;rintro e w' ⟨v,he,x,h',g,μ',O',h1,h2,h3,h4⟩;exact ⟨v,he,x,h',g,μ',O',h1,h2,(TR []).2 h3,h4⟩
end
end Go.Den
