/- Part of a proof: plain readings of Go functions, their contracts, or plain facts of them. -/
import Derived.Test.YtlgpjdjcbincgaaGreatDoorRg1
import Derived.Test.YtlgpjdjcbincgaaGreatDoorRows
import Derived.Lib.Walk
import Derived.Tactics
set_option linter.all false
namespace Go.Proofs.YtlgpjdjcbincgaaGreatDoor
open Go.Den Go.RowKit Go.ChangeShapes
theorem IM:Tryz.prog.follows .mixedOrders=true:=by kernel_rfl
theorem laidOut:laidOutB Tryz.prog=true:=by kernel_rfl
theorem own:ownKnob Tryz.prog.godebug=none:=by kernel_rfl
def V:World->Prop:=λw=>(∃cs t,w.heap[2]?=some (.cells cs t (0,0))/\cs.toList=Lib.deBruijn64tab.map λ(n:Nat)=>Value.int .u8 (n:Int))/\∃cs t,w.heap[1]?=some (.cells cs t (0,0))/\cs.toList=Lib.deBruijn32tab.map λ(n:Nat)=>Value.int .u8 (n:Int)
theorem stays:jK V:=λw w' c ⟨⟨cs,t,h1,g⟩,ds,u,d,h4⟩=>⟨⟨cs,t,by rw[c.block 2 (Array.getElem?_eq_some_iff.1 h1).1];exact h1,g⟩,ds,u,by rw[c.block 1 (Array.getElem?_eq_some_iff.1 d).1];exact d,h4⟩
instance:Seat Tryz.prog V:=⟨stays,IM⟩
abbrev K:=Kn Tryz.prog V
theorem V.cell {w} (h:V w) i (hi:i<32):w.cell? ⟨1,i,none⟩=some (.int .u8 (Lib.deBruijn32tab.getD i 0:Nat)):=by
 obtain⟨cs,t,h1,c⟩:=h.2;unfold World.cell?;rw[h1];have:cs[i]?=some (Value.int .u8 (Lib.deBruijn32tab.getD i 0:Nat)):=by rw[<-Qav,c,Qbf,Qba];have d:i<Lib.deBruijn32tab.length:=hi<;>simp_all
 simpa using this
theorem AdQ {x} (c:As x) (h0:x≠0):bits .and .u32 x (-x%4294967296)*125613361%4294967296/134217728=((2 ^ Lib.ctz 32 x.toNat*125613361%4294967296/134217728:Nat):Int)/\Lib.ctz 32 x.toNat<32:=by
 have d:x.toNat≠0:=by have:=c.1;omega
 obtain⟨h1,g⟩:=Lib.lowest_bit 32 x.toNat d (FD c);refine ⟨?_,g⟩;have e:-x%4294967296=4294967296-x:=by have:=c.1;have:=c.2;omega
 have h:As (4294967296-x):=⟨by omega,by omega⟩;have o:bits .and .u32 x (-x%4294967296)=((2 ^ Lib.ctz 32 x.toNat:Nat):Int):=by rw[e];have p:bits .and .u32 x (4294967296-x)=Aq .and .u32 x (4294967296-x):=rfl;rw[p,Np c h,<-h1]<;>grind
 rw[o];simp
theorem AeS {x} (h:inR .u32 x=true):As x:=by simpa[inR,IntKind.min,IntKind.max,IntKind.signed,IntKind.bits,As] using h
theorem vA {y} (h0:0<=y) (h1:y<=1000000):inR .i64 y=true:=by simp only[inR,IntKind.min,IntKind.max,IntKind.signed,IntKind.bits,Qab,decide_eq_true_eq];omega
theorem qJ {x} (d:As x):0<=BQ x/\BQ x<=32:=by
 unfold BQ;by_cases c:x=0
 ·simp[low,c]
 ·have:=Ye d c;omega
theorem AfM x w (c:As x) (g:V w) :
 Calls Tryz.prog 204 #[.int .u32 x] w λe w'=>e=.returned (.int .i64 (BQ x))/\w'=w:=by
 have y:=g.cell;have h0:=c.1;have h1:=c.2;by_cases d:x=0
 ·subst d;go_enter Tryz.func204,Tryz.ntmps204;go_wp2;all_goals first|(go_ret;exact ⟨rfl,rfl⟩)|(rename_i h;exact absurd h (by decide))
 ·go_enter Tryz.func204,Tryz.ntmps204;go_wp2
  ·simp_all
  ·go_ret;refine ⟨?_,rfl⟩;obtain⟨o,p⟩:=AdQ c d;obtain⟨h4,t⟩:=Lib.deBruijn32_at _ p;have e:((Lib.deBruijn32tab[(bits BinOp.and IntKind.u32 x (-x%4294967296)*125613361%4294967296/134217728).toNat]?.getD 0:Nat):Int)=Lib.ctz 32 x.toNat:=by rw[o,Qae,<-Qba,t]
   have E:x.toNat≠0:=by omega
   have v:BQ x=Lib.ctz 32 x.toNat:=by simp[BQ,low,d]
   rw[v,e];have e3:((Lib.ctz 32 x.toNat:Int)+9223372036854775808)%18446744073709551616-9223372036854775808=Lib.ctz 32 x.toNat:=by omega
   rw[e3];rfl
theorem Rp:BM Tryz.prog V 204 (spT [U32] [I64] BQ) where
 enters:=λargs w=>by simp_all
 tot:=λg hg x=>by cases hg;rfl
 calls:=λw F h x y o hF p t=>by cases t;obtain⟨us,h1,v⟩:=p;obtain⟨rfl,c⟩:=h1;have d:= AeS c;have:= v;subst this;refine (AfM x w d o).mono λe w' ⟨E,I⟩=>?_;subst I;exact ⟨[.int .i64 (BQ x)],by rw[E];rfl,Below.refl _ _,⟨_,⟨rfl,vA (qJ d).1 (by have:=(qJ d).2;omega)⟩,rfl⟩⟩
def Ro:K:=⟨204,.t (spT [U32] [I64] BQ),Rp⟩
theorem V.cell64 {w} (h:V w) i (hi:i<64):w.cell? ⟨2,i,none⟩=some (.int .u8 (Lib.deBruijn64tab.getD i 0:Nat)):=by
 obtain⟨cs,t,h1,c⟩:=h.1;unfold World.cell?;rw[h1];have:cs[i]?=some (Value.int .u8 (Lib.deBruijn64tab.getD i 0:Nat)):=by rw[<-Qav,c,Qbf,Qba];have d:i<Lib.deBruijn64tab.length:=hi<;>simp_all
 simpa using this
theorem T5 {x:Int} (c:Cs x) (h0:x≠0):bits .and .u64 x (-x%18446744073709551616)*285870213051353865%18446744073709551616/288230376151711744=((2 ^ Lib.ctz 64 x.toNat*285870213051353865%18446744073709551616/288230376151711744:Nat):Int)/\Lib.ctz 64 x.toNat<64:=by
 have g:x.toNat≠0:=by have:=c.1;omega
 obtain⟨h1,h⟩:=Lib.lowest_bit 64 x.toNat g (Sy c);refine ⟨?_,h⟩;have e:-x%18446744073709551616=18446744073709551616-x:=by have:=c.1;have:=c.2;omega
 have o:bits .and .u64 x (-x%18446744073709551616)=((2 ^ Lib.ctz 64 x.toNat:Nat):Int):=by
  rw[e];have p:bits .and .u64 x (18446744073709551616-x)=Aq .and .u64 x (18446744073709551616-x):=rfl;have t:18446744073709551616-x=((2 ^ 64-x.toNat:Nat):Int):=by
   have:=c.1;have:=c.2;have:(2:Nat) ^ 64=18446744073709551616:=by decide
   omega
  have d:x=((x.toNat:Nat):Int):=by have:=c.1;omega
  rw[p,t,d,Qae,Nq (Sy c) (by have:=Sy c;omega),h1]
 rw[o];simp
theorem AeT {x:Int} (h:inR .u64 x=true):Cs x:=by simpa[inR,IntKind.min,IntKind.max,IntKind.signed,IntKind.bits,Cs] using h
theorem aR {x:Int} (d:Cs x):0<=Bf x/\Bf x<=64:=by
 unfold Bf;by_cases c:x=0
 ·simp[c]
 ·rw[if_neg c];have:=(T5 d c).2;omega
theorem Acf (x:Int) (w:World) (d:Cs x) (t:V w) :
 Calls Tryz.prog 292 #[.int .u64 x] w λe w'=>e=.returned (.int .i64 (Bf x))/\w'=w:=by
 have y:=t.cell64;have h0:=d.1;have h1:=d.2;by_cases c:x=0
 ·subst c;go_enter Tryz.func292,Tryz.ntmps292;go_wp2;all_goals first|(go_ret;exact ⟨rfl,rfl⟩)|(rename_i h;exact absurd h (by decide))
 ·go_enter Tryz.func292,Tryz.ntmps292;go_wp2
  ·rename_i h;exact absurd (by simpa using h) c
  ·go_ret;refine ⟨?_,rfl⟩;obtain⟨g,o⟩:=T5 d c;obtain⟨h4,p⟩:=Lib.deBruijn64_at _ o;have e:((Lib.deBruijn64tab[(bits BinOp.and IntKind.u64 x (-x%18446744073709551616)*285870213051353865%18446744073709551616/288230376151711744).toNat]?.getD 0:Nat):Int)=Lib.ctz 64 x.toNat:=by rw[g,Qae,<-Qba,p]
   have v:Bf x=Lib.ctz 64 x.toNat:=by simp[Bf,c]
   simp only[wrap_u64];rw[v,e];have e3:((Lib.ctz 64 x.toNat:Int)+9223372036854775808)%18446744073709551616-9223372036854775808=Lib.ctz 64 x.toNat:=by omega
   rw[e3];rfl
  ·rename_i h;exfalso;obtain⟨g,o⟩:=T5 d c;obtain⟨h4,p⟩:=Lib.deBruijn64_at _ o;simp only[wrap_u64,g] at h;omega
theorem Rs:BM Tryz.prog V 292 (spT [U64] [I64] Bf) where
 enters:=λargs w=>by have h:FnOK Tryz.prog 292 (AG Tryz.f292 {}):=Ij Tryz.func292 (by kernel_rfl) (by kernel_rfl) (by kernel_rfl);exact h.enters args w
 tot:=λg hg x=>by cases hg;rfl
 calls:=λw F c x y v hF E I=>by have d:some (Bf x)=some y:=I;cases d;obtain⟨us,h1,J⟩:=E;have o:us=[.int .u64 x]/\inR .u64 x=true:=h1;obtain⟨rfl,p⟩:=o;have t:Cs x:=AeT p;have:c=[.int .u64 x]:=J;subst this;have X:inR .i64 (Bf x)=true:=vA (aR t).1 (by have:=(aR t).2;omega);refine (Acf x w t v).mono λe w' ⟨Y,Z⟩=>?_;subst Z;exact ⟨[.int .i64 (Bf x)],by rw[Y];rfl,Below.refl _ _,⟨_,⟨rfl,X⟩,rfl⟩⟩
def Rq:K:=⟨292,.t (spT [U64] [I64] Bf),Rs⟩
end Go.Proofs.YtlgpjdjcbincgaaGreatDoor
