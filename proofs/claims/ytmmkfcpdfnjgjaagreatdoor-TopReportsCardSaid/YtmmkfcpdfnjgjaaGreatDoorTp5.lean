/- Part of a proof: plain readings of Go functions, their contracts, or plain facts of them. -/
import Derived.Test.YtmmkfcpdfnjgjaaGreatDoorTp1
import Derived.Test.YtmmkfcpdfnjgjaaGreatDoorRows
import Derived.Lib.Walk
import Derived.Tactics
namespace Go.Proofs.YtmmkfcpdfnjgjaaGreatDoor
open Go.Den Go.RowKit Go.ChangeShapes
theorem Az:Tryz.prog.follows .mixedOrders=true:=by kernel_rfl
theorem laidOut:laidOutB Tryz.prog=true:=by kernel_rfl
theorem own:ownKnob Tryz.prog.godebug=none:=by kernel_rfl
def V:World→Prop:=fun w=>(∃cs t,w.heap[2]?=some (.cells cs t (0,0))∧cs.toList=Lib.deBruijn64tab.map fun (n:Nat)=>Value.int .u8 (n:Int))∧∃cs t,w.heap[1]?=some (.cells cs t (0,0))∧cs.toList=Lib.deBruijn32tab.map fun (n:Nat)=>Value.int .u8 (n:Int)
theorem stays:Oa V:=fun w w' hb ⟨⟨cs,t,h1,h2⟩,ds,u,h3,h4⟩=>⟨⟨cs,t,by rw[hb.block 2 ((Array.getElem?_eq_some_iff.1 h1).1)];exact h1,h2⟩,ds,u,by rw[hb.block 1 ((Array.getElem?_eq_some_iff.1 h3).1)];exact h3,h4⟩
theorem V.cell {w:World} (h:V w) (i:Nat) (hi:i<32):w.cell? ⟨1,i,none⟩=some (.int .u8 (Lib.deBruijn32tab.getD i 0:Nat)):=by
 obtain⟨cs,t,h1,h2⟩:=h.2
 unfold World.cell?
 rw[h1]
 have:cs[i]?=some (Value.int .u8 (Lib.deBruijn32tab.getD i 0:Nat)):=by
  rw[←Array.getElem?_toList,h2,List.getElem?_map,List.getD_eq_getElem?_getD]
  have hl:i<Lib.deBruijn32tab.length:=hi
  rw[List.getElem?_eq_getElem hl];rfl
 simpa using this
theorem Aco {x:Int} (hx:Ax x) (h0:x≠0):bits .and .u32 x (-x%4294967296)*125613361%4294967296/134217728=((2 ^ (Lib.ctz 32 x.toNat)*125613361%4294967296/134217728:Nat):Int)∧Lib.ctz 32 x.toNat<32:=by
 have hn:x.toNat≠0:=by have:=hx.1;omega
 obtain⟨h1,h2⟩:=Lib.lowest_bit 32 x.toNat hn (Fs hx)
 refine ⟨?_,h2⟩
 have e:-x%4294967296=4294967296-x:=by have:=hx.1;have:=hx.2;omega
 have hy:Ax (4294967296-x):=⟨by have:=hx.2;omega,by have:=hx.1;omega⟩
 have hb:bits .and .u32 x (-x%4294967296)=((2 ^ Lib.ctz 32 x.toNat:Nat):Int):=by
  rw[e]
  have hk:bits .and .u32 x (4294967296-x)=Ai .and .u32 x (4294967296-x):=rfl
  rw[hk,Lf hx hy,←h1]
  congr 2
  have:=hx.1;have:=hx.2
  have:(2:Nat) ^ 32=4294967296:=by decide
  omega
 rw[hb]
 simp
theorem Adc {x:Int} (h:inR .u32 x=true):Ax x:=by
 simpa[inR,IntKind.min,IntKind.max,IntKind.signed,IntKind.bits,Ax] using h
theorem tK {y:Int} (h0:0≤y) (h1:y≤1000000):inR .i64 y=true:=by
 simp only[inR,IntKind.min,IntKind.max,IntKind.signed,IntKind.bits,Bool.and_eq_true,decide_eq_true_eq]
 simp
 omega
theorem nN {x:Int} (hx:Ax x):0≤Bl x∧Bl x≤32:=by
 unfold Bl
 by_cases hz:x=0
 ·simp[low,hz]
 ·have:=WU hx hz;omega
theorem AdR (x:Int) (w:World) (hx:Ax x) (hv:V w) :
 Calls Tryz.prog 155 #[.int .u32 x] w fun e w'=>e=.returned (.int .i64 (Bl x))∧w'=w:=by
 have hc:=hv.cell
 have h0:=hx.1
 have h1:=hx.2
 by_cases hz:x=0
 ·subst hz
  go_enter Tryz.func155,Tryz.ntmps155
  go_wp2
  all_goals first|(go_ret;exact ⟨rfl,rfl⟩)|(rename_i h;exact absurd h (by decide))
 ·go_enter Tryz.func155,Tryz.ntmps155
  go_wp2
  ·rename_i h
   exact absurd (by simpa using h) hz
  ·go_ret
   refine ⟨?_,rfl⟩
   obtain⟨h2,h3⟩:=Aco hx hz
   obtain⟨h4,h5⟩:=Lib.deBruijn32_at _ h3
   have e:((Lib.deBruijn32tab[(bits BinOp.and IntKind.u32 x (-x%4294967296)*125613361%4294967296/134217728).toNat]?.getD 0:Nat):Int)=Lib.ctz 32 x.toNat:=by
    rw[h2,Int.toNat_natCast,←List.getD_eq_getElem?_getD,h5]
   have hn:x.toNat≠0:=by omega
   have hl:Bl x=Lib.ctz 32 x.toNat:=by simp[Bl,low,hz]
   rw[hl,e]
   have e3:((Lib.ctz 32 x.toNat:Int)+9223372036854775808)%18446744073709551616-9223372036854775808=Lib.ctz 32 x.toNat:=by omega
   rw[e3]
   rfl
theorem OH:Ao Tryz.prog V 155 (spT [U32] [I64] Bl) where
 enters:=fun args w=>by
  have h:FnOK Tryz.prog 155 (Ak Tryz.f155 {}):=As Tryz.func155 (by kernel_rfl) (by kernel_rfl) (by kernel_rfl)
  exact h.enters args w
 tot:=fun g hg x=>by cases hg;rfl
 calls:=fun w F vals x y hv hF hr hy=>by
  have hy':some (Bl x)=some y:=hy
  cases hy'
  obtain⟨us,h1,h2⟩:=hr
  have h1':us=[.int .u32 x]∧inR .u32 x=true:=h1
  obtain⟨rfl,hin⟩:=h1'
  have hx:Ax x:=Adc hin
  have:vals=[.int .u32 x]:=h2
  subst this
  have hb:inR .i64 (Bl x)=true:=tK (nN hx).1 (by have:=(nN hx).2;omega)
  refine (AdR x w hx hv).mono fun e w' ⟨he,hw⟩=>?_
  subst hw
  exact ⟨[.int .i64 (Bl x)],by rw[he];rfl,Below.refl _ _,⟨_,⟨rfl,hb⟩,rfl⟩⟩
theorem V.cell64 {w:World} (h:V w) (i:Nat) (hi:i<64):w.cell? ⟨2,i,none⟩=some (.int .u8 (Lib.deBruijn64tab.getD i 0:Nat)):=by
 obtain⟨cs,t,h1,h2⟩:=h.1
 unfold World.cell?
 rw[h1]
 have:cs[i]?=some (Value.int .u8 (Lib.deBruijn64tab.getD i 0:Nat)):=by
  rw[←Array.getElem?_toList,h2,List.getElem?_map,List.getD_eq_getElem?_getD]
  have hl:i<Lib.deBruijn64tab.length:=hi
  rw[List.getElem?_eq_getElem hl];rfl
 simpa using this
theorem Q1 {x:Int} (hx:Ci x) (h0:x≠0):bits .and .u64 x (-x%18446744073709551616)*285870213051353865%18446744073709551616/288230376151711744=((2 ^ (Lib.ctz 64 x.toNat)*285870213051353865%18446744073709551616/288230376151711744:Nat):Int)∧Lib.ctz 64 x.toNat<64:=by
 have hn:x.toNat≠0:=by have:=hx.1;omega
 obtain⟨h1,h2⟩:=Lib.lowest_bit 64 x.toNat hn (PC hx)
 refine ⟨?_,h2⟩
 have e:-x%18446744073709551616=18446744073709551616-x:=by have:=hx.1;have:=hx.2;omega
 have hb:bits .and .u64 x (-x%18446744073709551616)=((2 ^ Lib.ctz 64 x.toNat:Nat):Int):=by
  rw[e]
  have hk:bits .and .u64 x (18446744073709551616-x)=Ai .and .u64 x (18446744073709551616-x):=rfl
  have hy:(18446744073709551616-x)=((2 ^ 64-x.toNat:Nat):Int):=by
   have:=hx.1;have:=hx.2
   have:(2:Nat) ^ 64=18446744073709551616:=by decide
   omega
  have hxx:x=((x.toNat:Nat):Int):=by have:=hx.1;omega
  rw[hk,hy,hxx,Int.toNat_natCast,Lg (PC hx) (by have:=PC hx;omega),h1]
 rw[hb]
 simp
theorem Ade {x:Int} (h:inR .u64 x=true):Ci x:=by
 simpa[inR,IntKind.min,IntKind.max,IntKind.signed,IntKind.bits,Ci] using h
theorem YV {x:Int} (hx:Ci x):0≤Be x∧Be x≤64:=by
 unfold Be
 by_cases hz:x=0
 ·simp[hz]
 ·rw[if_neg hz]
  have:=(Q1 hx hz).2
  omega
theorem Abc (x:Int) (w:World) (hx:Ci x) (hv:V w) :
 Calls Tryz.prog 208 #[.int .u64 x] w fun e w'=>e=.returned (.int .i64 (Be x))∧w'=w:=by
 have hc:=hv.cell64
 have h0:=hx.1
 have h1:=hx.2
 by_cases hz:x=0
 ·subst hz
  go_enter Tryz.func208,Tryz.ntmps208
  go_wp2
  all_goals first|(go_ret;exact ⟨rfl,rfl⟩)|(rename_i h;exact absurd h (by decide))
 ·go_enter Tryz.func208,Tryz.ntmps208
  go_wp2
  ·rename_i h
   exact absurd (by simpa using h) hz
  ·go_ret
   refine ⟨?_,rfl⟩
   obtain⟨h2,h3⟩:=Q1 hx hz
   obtain⟨h4,h5⟩:=Lib.deBruijn64_at _ h3
   have e:((Lib.deBruijn64tab[(bits BinOp.and IntKind.u64 x (-x%18446744073709551616)*285870213051353865%18446744073709551616/288230376151711744).toNat]?.getD 0:Nat):Int)=Lib.ctz 64 x.toNat:=by
    rw[h2,Int.toNat_natCast,←List.getD_eq_getElem?_getD,h5]
   have hl:Be x=Lib.ctz 64 x.toNat:=by simp[Be,hz]
   simp only[wrap_u64]
   rw[hl,e]
   have e3:((Lib.ctz 64 x.toNat:Int)+9223372036854775808)%18446744073709551616-9223372036854775808=Lib.ctz 64 x.toNat:=by omega
   rw[e3]
   rfl
  ·rename_i h
   exfalso
   obtain⟨h2,h3⟩:=Q1 hx hz
   obtain⟨h4,h5⟩:=Lib.deBruijn64_at _ h3
   simp only[wrap_u64,h2] at h
   omega
theorem OI:Ao Tryz.prog V 208 (spT [U64] [I64] Be) where
 enters:=fun args w=>by
  have h:FnOK Tryz.prog 208 (Ak Tryz.f208 {}):=As Tryz.func208 (by kernel_rfl) (by kernel_rfl) (by kernel_rfl)
  exact h.enters args w
 tot:=fun g hg x=>by cases hg;rfl
 calls:=fun w F vals x y hv hF hr hy=>by
  have hy':some (Be x)=some y:=hy
  cases hy'
  obtain⟨us,h1,h2⟩:=hr
  have h1':us=[.int .u64 x]∧inR .u64 x=true:=h1
  obtain⟨rfl,hin⟩:=h1'
  have hx:Ci x:=Ade hin
  have:vals=[.int .u64 x]:=h2
  subst this
  have hb:inR .i64 (Be x)=true:=tK (YV hx).1 (by have:=(YV hx).2;omega)
  refine (Abc x w hx hv).mono fun e w' ⟨he,hw⟩=>?_
  subst hw
  exact ⟨[.int .i64 (Be x)],by rw[he];rfl,Below.refl _ _,⟨_,⟨rfl,hb⟩,rfl⟩⟩
end Go.Proofs.YtmmkfcpdfnjgjaaGreatDoor
