/- Part of a proof: plain readings of Go functions, their contracts, or plain facts of them. -/
import Derived.Test.YtlgpjdjcbincgaaGreatDoorRg1
import Derived.Test.YtlgpjdjcbincgaaGreatDoorRows
import Derived.Lib.Walk
import Derived.Tactics
set_option linter.all false
namespace Go.Proofs.YtlgpjdjcbincgaaGreatDoor
open Go.Den Go.RowKit Go.ChangeShapes
def IM:Tryz.prog.follows .mixedOrders=true:=by kernel_rfl
def laidOut:laidOutB Tryz.prog=true:=by kernel_rfl
def own:ownKnob Tryz.prog.godebug=none:=by kernel_rfl
def V:World->Prop:=λw=>(∃cs t,w.heap[2]?=some (.cells cs t (0,0))/\cs.toList=Lib.deBruijn64tab.map λ(n:Nat)=>Value.int .u8 (n:Int))/\∃cs t,w.heap[1]?=some (.cells cs t (0,0))/\cs.toList=Lib.deBruijn32tab.map λ(n:Nat)=>Value.int .u8 (n:Int)
def stays:jK V:=λw w' c ⟨⟨cs,t,h1,g⟩,ds,u,d,h4⟩=>⟨⟨cs,t,by rw[c.block 2 (Array.getElem?_eq_some_iff.1 h1).1];exact h1,g⟩,ds,u,by rw[c.block 1 (Array.getElem?_eq_some_iff.1 d).1];exact d,h4⟩
instance:Aζ Tryz.prog V:=⟨stays,IM⟩
abbrev K:=Kn Tryz.prog V
def V.cell {w} (h:V w) i (hi:i<32):w.cell? ⟨1,i,none⟩=some (.int .u8 (Lib.deBruijn32tab.getD i 0:Nat)):=by
 obtain⟨cs,t,h1,c⟩:=h.2;unfold World.cell?;rw[h1];have:cs[i]?=some (Value.int .u8 (Lib.deBruijn32tab.getD i 0:Nat)):=by rw[<-Qav,c,Qbf,Qba];have d:i<Lib.deBruijn32tab.length:=hi<;>simp_all
 simpa using this
def AdQ {x} (c:As x) (h0:x≠0):bits .and .u32 x (-x%4294967296)*125613361%4294967296/134217728=((2 ^ Lib.ctz 32 x.toNat*125613361%4294967296/134217728:Nat):Int)/\Lib.ctz 32 x.toNat<32:=by
 have d:x.toNat≠0:=by have:=c.1;omega
 obtain⟨h1,g⟩:=Lib.lowest_bit 32 x.toNat d (FD c);refine ⟨?_,g⟩;have e:-x%4294967296=4294967296-x:=by have:=c.1;have:=c.2;omega
 have h:As (4294967296-x):=⟨by omega,by omega⟩;have t:bits .and .u32 x (-x%4294967296)=((2 ^ Lib.ctz 32 x.toNat:Nat):Int):=by rw[e];have y:bits .and .u32 x (4294967296-x)=Aq .and .u32 x (4294967296-x):=rfl;rw[y,Np c h,<-h1]<;>grind
 rw[t];simp
def AeS {x} (h:inR .u32 x=true):As x:=by simpa[inR,IntKind.min,IntKind.max,IntKind.signed,IntKind.bits,As] using h
def vA {y} (h0:0<=y) (h1:y<=1000000):inR .i64 y=true:=by simp only[inR,IntKind.min,IntKind.max,IntKind.signed,IntKind.bits,Qab,decide_eq_true_eq];omega
def qJ {x} (d:As x):0<=BQ x/\BQ x<=32:=by
 unfold BQ;by_cases c:x=0
 .simp[low,c]
 .have:=Ye d c;omega
def AfM x w (c:As x) (g:V w) :
 Calls Tryz.prog 204 #[.int .u32 x] w λe w'=>e=.returned (.int .i64 (BQ x))/\w'=w:=by
 have J:=g.cell;have h0:=c.1;have h1:=c.2;by_cases d:x=0
 .subst d;go_enter Tryz.func204,Tryz.ntmps204;go_wp2;all_goals first|(go_ret;exact ⟨rfl,rfl⟩)|(rename_i h;exact absurd h (by decide))
 .go_enter Tryz.func204,Tryz.ntmps204;go_wp2
  .simp_all
  .go_ret;refine ⟨?_,rfl⟩;obtain⟨t,y⟩:=AdQ c d;obtain⟨h4,E⟩:=Lib.deBruijn32_at _ y;have e:((Lib.deBruijn32tab[(bits BinOp.and IntKind.u32 x (-x%4294967296)*125613361%4294967296/134217728).toNat]?.getD 0:Nat):Int)=Lib.ctz 32 x.toNat:=by rw[t,Qae,<-Qba,E]
   have X:x.toNat≠0:=by omega
   have I:BQ x=Lib.ctz 32 x.toNat:=by simp[BQ,low,d]
   rw[I,e];have e3:((Lib.ctz 32 x.toNat:Int)+9223372036854775808)%18446744073709551616-9223372036854775808=Lib.ctz 32 x.toNat:=by omega
   rw[e3];rfl
def Rp:BM Tryz.prog V 204 (spT [U32] [ζ] BQ) where
 enters:=λargs w=>by simp_all
 tot:=λg hg x=>by cases hg;rfl
 calls:=λw F h x y t hF E I=>by cases I;obtain⟨us,h1,J⟩:=E;obtain⟨rfl,c⟩:=h1;have d:= AeS c;have:= J;subst this;refine (AfM x w d t).mono λe w' ⟨X,Y⟩=>?_;subst Y;exact ⟨[.int .i64 (BQ x)],by rw[X];rfl,Below.refl _ _,⟨_,⟨rfl,vA (qJ d).1 (by have:=(qJ d).2;omega)⟩,rfl⟩⟩
def Ro:K:=⟨204,.t (spT [U32] [ζ] BQ),Rp⟩
def V.Cζ {w} (h:V w) i (hi:i<64):w.cell? ⟨2,i,none⟩=some (.int .u8 (Lib.deBruijn64tab.getD i 0:Nat)):=by
 obtain⟨cs,t,h1,c⟩:=h.1;unfold World.cell?;rw[h1];have:cs[i]?=some (Value.int .u8 (Lib.deBruijn64tab.getD i 0:Nat)):=by rw[<-Qav,c,Qbf,Qba];have d:i<Lib.deBruijn64tab.length:=hi<;>simp_all
 simpa using this
def T5 {x:Int} (c:Cs x) (h0:x≠0):bits .and .u64 x (-x%18446744073709551616)*285870213051353865%18446744073709551616/288230376151711744=((2 ^ Lib.ctz 64 x.toNat*285870213051353865%18446744073709551616/288230376151711744:Nat):Int)/\Lib.ctz 64 x.toNat<64:=by
 have g:x.toNat≠0:=by have:=c.1;omega
 obtain⟨h1,h⟩:=Lib.lowest_bit 64 x.toNat g (Sy c);refine ⟨?_,h⟩;have e:-x%18446744073709551616=18446744073709551616-x:=by have:=c.1;have:=c.2;omega
 have t:bits .and .u64 x (-x%18446744073709551616)=((2 ^ Lib.ctz 64 x.toNat:Nat):Int):=by
  rw[e];have y:bits .and .u64 x (18446744073709551616-x)=Aq .and .u64 x (18446744073709551616-x):=rfl;have E:18446744073709551616-x=((2 ^ 64-x.toNat:Nat):Int):=by
   have:=c.1;have:=c.2;have:(2:Nat) ^ 64=18446744073709551616:=by decide
   omega
  have d:x=((x.toNat:Nat):Int):=by have:=c.1;omega
  rw[y,E,d,Qae,Nq (Sy c) (by have:=Sy c;omega),h1]
 rw[t];simp
def AeT {x:Int} (h:inR .u64 x=true):Cs x:=by simpa[inR,IntKind.min,IntKind.max,IntKind.signed,IntKind.bits,Cs] using h
def aR {x:Int} (d:Cs x):0<=Bf x/\Bf x<=64:=by
 unfold Bf;by_cases c:x=0
 .simp[c]
 .rw[if_neg c];have:=(T5 d c).2;omega
def Acf (x:Int) (w:World) (d:Cs x) (E:V w) :
 Calls Tryz.prog 292 #[.int .u64 x] w λe w'=>e=.returned (.int .i64 (Bf x))/\w'=w:=by
 have J:=E.Cζ;have h0:=d.1;have h1:=d.2;by_cases c:x=0
 .subst c;go_enter Tryz.func292,Tryz.ntmps292;go_wp2;all_goals first|(go_ret;exact ⟨rfl,rfl⟩)|(rename_i h;exact absurd h (by decide))
 .go_enter Tryz.func292,Tryz.ntmps292;go_wp2
  .rename_i h;exact absurd (by simpa using h) c
  .go_ret;refine ⟨?_,rfl⟩;obtain⟨g,t⟩:=T5 d c;obtain⟨h4,y⟩:=Lib.deBruijn64_at _ t;have e:((Lib.deBruijn64tab[(bits BinOp.and IntKind.u64 x (-x%18446744073709551616)*285870213051353865%18446744073709551616/288230376151711744).toNat]?.getD 0:Nat):Int)=Lib.ctz 64 x.toNat:=by rw[g,Qae,<-Qba,y]
   have I:Bf x=Lib.ctz 64 x.toNat:=by simp[Bf,c]
   simp only[wrap_u64];rw[I,e];have e3:((Lib.ctz 64 x.toNat:Int)+9223372036854775808)%18446744073709551616-9223372036854775808=Lib.ctz 64 x.toNat:=by omega
   rw[e3];rfl
  .rename_i h;exfalso;obtain⟨g,t⟩:=T5 d c;obtain⟨h4,y⟩:=Lib.deBruijn64_at _ t;simp only[wrap_u64,g] at h;omega
def Rs:BM Tryz.prog V 292 (spT [U64] [ζ] Bf) where
 enters:=λargs w=>by have h:gε Tryz.prog 292 (AG Tryz.f292 {}):=Ij Tryz.func292 (by kernel_rfl) (by kernel_rfl) (by kernel_rfl);exact h.enters args w
 tot:=λg hg x=>by cases hg;rfl
 calls:=λw F c x y J hF X Y=>by have d:some (Bf x)=some y:=Y;cases d;obtain⟨us,h1,Z⟩:=X;have t:us=[.int .u64 x]/\inR .u64 x=true:=h1;obtain⟨rfl,E⟩:=t;have I:Cs x:=AeT E;have:c=[.int .u64 x]:=Z;subst this;have hb:inR .i64 (Bf x)=true:=vA (aR I).1 (by have:=(aR I).2;omega);refine (Acf x w I J).mono λe w' ⟨he,hw⟩=>?_;subst hw;exact ⟨[.int .i64 (Bf x)],by rw[he];rfl,Below.refl _ _,⟨_,⟨rfl,hb⟩,rfl⟩⟩
def Rq:K:=⟨292,.t (spT [U64] [ζ] Bf),Rs⟩
end Go.Proofs.YtlgpjdjcbincgaaGreatDoor
