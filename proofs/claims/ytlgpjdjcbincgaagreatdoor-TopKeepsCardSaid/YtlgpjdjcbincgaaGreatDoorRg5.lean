/- Part of a proof: plain readings of Go functions, their contracts, or plain facts of them. -/
import Derived.Test.YtlgpjdjcbincgaaGreatDoorRg1
import Derived.Test.YtlgpjdjcbincgaaGreatDoorRows
import Derived.Lib.Walk
import Derived.Tactics
namespace Go.Proofs.YtlgpjdjcbincgaaGreatDoor
open Go.Den Go.RowKit Go.ChangeShapes
theorem IM:Tryz.prog.follows .mixedOrders=true:=by kernel_rfl
theorem laidOut:laidOutB Tryz.prog=true:=by kernel_rfl
theorem own:ownKnob Tryz.prog.godebug=none:=by kernel_rfl
def V:World->Prop:=λw=>(∃cs t,w.heap[2]?=some (.cells cs t (0,0))/\cs.toList=Lib.deBruijn64tab.map λ(n:Nat)=>Value.int .u8 (n:Int))/\∃cs t,w.heap[1]?=some (.cells cs t (0,0))/\cs.toList=Lib.deBruijn32tab.map λ(n:Nat)=>Value.int .u8 (n:Int)
theorem stays:jJ V:=λw w' c ⟨⟨cs,t,h1,g⟩,ds,u,d,h4⟩=>⟨⟨cs,t,by rw[c.block 2 ((Array.getElem?_eq_some_iff.1 h1).1)];exact h1,g⟩,ds,u,by rw[c.block 1 ((Array.getElem?_eq_some_iff.1 d).1)];exact d,h4⟩
instance:Seat Tryz.prog V:=⟨stays,IM⟩
abbrev K:=Kn Tryz.prog V
theorem V.cell (h:V w) i (hi:i<32):w.cell? ⟨1,i,none⟩=some (.int .u8 (Lib.deBruijn32tab.getD i 0:Nat)):=by
 obtain⟨cs,t,h1,c⟩:=h.2;unfold World.cell?;rw[h1];have:cs[i]?=some (Value.int .u8 (Lib.deBruijn32tab.getD i 0:Nat)):=by rw[<-Qav,c,Qbf,Qba];have d:i<Lib.deBruijn32tab.length:=hi<;>simp_all
 simpa using this
theorem AdO (c:As x) (h0:x≠0):bits .and .u32 x (-x%4294967296)*125613361%4294967296/134217728=((2 ^ (Lib.ctz 32 x.toNat)*125613361%4294967296/134217728:Nat):Int)/\Lib.ctz 32 x.toNat<32:=by
 have d:x.toNat≠0:=by have:=c.1;omega
 obtain⟨h1,g⟩:=Lib.lowest_bit 32 x.toNat d (FD c);refine ⟨?_,g⟩;have e:-x%4294967296=4294967296-x:=by have:=c.1;have:=c.2;omega
 have h:As (4294967296-x):=⟨by omega,by omega⟩;have o:bits .and .u32 x (-x%4294967296)=((2 ^ Lib.ctz 32 x.toNat:Nat):Int):=by rw[e];have p:bits .and .u32 x (4294967296-x)=Aq .and .u32 x (4294967296-x):=rfl;rw[p,Np c h,<-h1]<;>grind
 rw[o];simp
theorem AeQ (h:inR .u32 x=true):As x:=by simpa[inR,IntKind.min,IntKind.max,IntKind.signed,IntKind.bits,As] using h
theorem u9 (h0:0<=y) (h1:y<=1000000):inR .i64 y=true:=by simp only[inR,IntKind.min,IntKind.max,IntKind.signed,IntKind.bits,Qab,decide_eq_true_eq];omega
theorem qI (d:As x):0<=BQ x/\BQ x<=32:=by
 unfold BQ;by_cases c:x=0
 ·simp[low,c]
 ·have:=Yd d c;omega
theorem AfK x w (c:As x) (g:V w) :
 Calls Tryz.prog 204 #[.int .u32 x] w λe w'=>e=.returned (.int .i64 (BQ x))/\w'=w:=by
 have y:=g.cell;have h0:=c.1;have h1:=c.2;by_cases d:x=0
 ·subst d;go_enter Tryz.func204,Tryz.ntmps204;go_wp2;all_goals first|(go_ret;exact ⟨rfl,rfl⟩)|(rename_i h;exact absurd h (by decide))
 ·go_enter Tryz.func204,Tryz.ntmps204;go_wp2
  ·simp_all
  ·go_ret;refine ⟨?_,rfl⟩;obtain⟨o,p⟩:=AdO c d;obtain⟨h4,t⟩:=Lib.deBruijn32_at _ p;have e:((Lib.deBruijn32tab[(bits BinOp.and IntKind.u32 x (-x%4294967296)*125613361%4294967296/134217728).toNat]?.getD 0:Nat):Int)=Lib.ctz 32 x.toNat:=by rw[o,Qae,<-Qba,t]
   have E:x.toNat≠0:=by omega
   have v:BQ x=Lib.ctz 32 x.toNat:=by simp[BQ,low,d]
   rw[v,e];have e3:((Lib.ctz 32 x.toNat:Int)+9223372036854775808)%18446744073709551616-9223372036854775808=Lib.ctz 32 x.toNat:=by omega
   rw[e3];rfl
theorem Ro:BM Tryz.prog V 204 (spT [U32] [I64] BQ) where
 enters:=λargs w=>by simp_all
 tot:=λg hg x=>by cases hg;rfl
 calls:=λw F h x y o hF p t=>by cases t;obtain⟨us,h1,v⟩:=p;obtain⟨rfl,c⟩:=h1;have d:= AeQ c;have:= v;subst this;refine (AfK x w d o).mono λe w' ⟨E,I⟩=>?_;subst I;exact ⟨[.int .i64 (BQ x)],by rw[E];rfl,Below.refl _ _,⟨_,⟨rfl,(u9 (qI d).1 (by have:=(qI d).2;omega))⟩,rfl⟩⟩
def Rn:K:=⟨204,.t (spT [U32] [I64] BQ),Ro⟩
theorem V.cell64 (h:V w) i (hi:i<64):w.cell? ⟨2,i,none⟩=some (.int .u8 (Lib.deBruijn64tab.getD i 0:Nat)):=by
 obtain⟨cs,t,h1,c⟩:=h.1;unfold World.cell?;rw[h1];have:cs[i]?=some (Value.int .u8 (Lib.deBruijn64tab.getD i 0:Nat)):=by rw[<-Qav,c,Qbf,Qba];have d:i<Lib.deBruijn64tab.length:=hi<;>simp_all
 simpa using this
theorem T3 (c:Cv x) (h0:x≠0):bits .and .u64 x (-x%18446744073709551616)*285870213051353865%18446744073709551616/288230376151711744=((2 ^ (Lib.ctz 64 x.toNat)*285870213051353865%18446744073709551616/288230376151711744:Nat):Int)/\Lib.ctz 64 x.toNat<64:=by
 have g:x.toNat≠0:=by have:=c.1;omega
 obtain⟨h1,h⟩:=Lib.lowest_bit 64 x.toNat g (WI c);refine ⟨?_,h⟩;have e:-x%18446744073709551616=18446744073709551616-x:=by have:=c.1;have:=c.2;omega
 have o:bits .and .u64 x (-x%18446744073709551616)=((2 ^ Lib.ctz 64 x.toNat:Nat):Int):=by
  rw[e];have p:bits .and .u64 x (18446744073709551616-x)=Aq .and .u64 x (18446744073709551616-x):=rfl;have t:(18446744073709551616-x)=((2 ^ 64-x.toNat:Nat):Int):=by omega
  have d:x=((x.toNat:Nat):Int):=by omega
  rw[p,t,d,Qae,Nq (WI c) (by omega),h1]
 rw[o];simp
theorem AeR (h:inR .u64 x=true):Cv x:=by simpa[inR,IntKind.min,IntKind.max,IntKind.signed,IntKind.bits,Cv] using h
theorem aQ (d:Cv x):0<=BF x/\BF x<=64:=by
 unfold BF;by_cases c:x=0
 ·simp[c]
 ·rw[if_neg c];have:=(T3 d c).2;omega
theorem Ace x w (c:Cv x) (t:V w) :
 Calls Tryz.prog 292 #[.int .u64 x] w λe w'=>e=.returned (.int .i64 (BF x))/\w'=w:=by
 have y:=t.cell64;have h0:=c.1;have h1:=c.2;by_cases d:x=0
 ·subst d;go_enter Tryz.func292,Tryz.ntmps292;go_wp2;all_goals first|(go_ret;exact ⟨rfl,rfl⟩)|(rename_i h;exact absurd h (by decide))
 ·go_enter Tryz.func292,Tryz.ntmps292;go_wp2
  ·simp_all
  ·go_ret;refine ⟨?_,rfl⟩;obtain⟨g,o⟩:=T3 c d;obtain⟨h4,p⟩:=Lib.deBruijn64_at _ o;have e:((Lib.deBruijn64tab[(bits BinOp.and IntKind.u64 x (-x%18446744073709551616)*285870213051353865%18446744073709551616/288230376151711744).toNat]?.getD 0:Nat):Int)=Lib.ctz 64 x.toNat:=by rw[g,Qae,<-Qba,p]
   have v:BF x=Lib.ctz 64 x.toNat:=by simp[BF,d]
   simp only[wrap_u64];rw[v,e];have e3:((Lib.ctz 64 x.toNat:Int)+9223372036854775808)%18446744073709551616-9223372036854775808=Lib.ctz 64 x.toNat:=by omega
   rw[e3];rfl
  ·rename_i h;exfalso;obtain⟨g,o⟩:=T3 c d;obtain⟨h4,p⟩:=Lib.deBruijn64_at _ o;simp only[wrap_u64,g] at h;omega
theorem Rq:BM Tryz.prog V 292 (spT [U64] [I64] BF) where
 enters:=λargs w=>by simp_all
 tot:=λg hg x=>by cases hg;rfl
 calls:=λw F h x y o hF p t=>by cases t;obtain⟨us,h1,v⟩:=p;obtain⟨rfl,c⟩:=h1;have d:= AeR c;have:= v;subst this;refine (Ace x w d o).mono λe w' ⟨E,I⟩=>?_;subst I;exact ⟨[.int .i64 (BF x)],by rw[E];rfl,Below.refl _ _,⟨_,⟨rfl,(u9 (aQ d).1 (by have:=(aQ d).2;omega))⟩,rfl⟩⟩
def Rp:K:=⟨292,.t (spT [U64] [I64] BF),Rq⟩
end Go.Proofs.YtlgpjdjcbincgaaGreatDoor
