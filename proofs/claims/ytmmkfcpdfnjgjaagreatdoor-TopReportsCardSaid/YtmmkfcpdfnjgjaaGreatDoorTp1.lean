/- Part of a proof: plain readings of Go functions, their contracts, or plain facts of them. -/
import Derived.Test.YtmmkfcpdfnjgjaaGreatDoorDen3
namespace Go.Proofs.YtmmkfcpdfnjgjaaGreatDoor
open Go.Den Go.RowKit Go.ChangeShapes
abbrev I64:=Ty.int .i64
abbrev Bo:=Ty.bool
abbrev U8:=Ty.int .u8
abbrev JJ:=Ty.pair U8 (Ty.pair I64 I64)
abbrev Co:Type:=Int×(Int×Int)
abbrev AcG:=Ty.slice JJ
abbrev U32:=Ty.int .u32
abbrev Ae7:=Ty.slice U32
abbrev DN:=Ty.slice I64
abbrev AeJ:=Ty.slice DN
abbrev Aea:=Ty.pair U32 (Ty.pair I64 (Ty.pair I64 (Ty.pair I64 Bo)))
abbrev Jl:Type:=Int×(Int×(Int×(Int×Bool)))
abbrev AcH:=Ty.slice Aea
abbrev Ae6:=Ty.pair I64 (Ty.pair I64 (Ty.pair I64 I64))
abbrev Ux:Type:=Int×(Int×(Int×Int))
abbrev AeM:=Ty.slice Ae6
abbrev Cl:=Ty.pair I64 (Ty.pair I64 DN)
abbrev AB:Type:=Int×(Int×List Int)
abbrev FP:=Ty.slice Cl
abbrev Aj:=Ty.pair I64 (Ty.pair AcG (Ty.pair Ae7 (Ty.pair AeJ (Ty.pair AcH (Ty.pair AeM (Ty.pair I64 (Ty.pair I64 (Ty.pair I64 (Ty.pair I64 (Ty.pair I64 FP))))))))))
abbrev Ae:Type:=Int×(List Co×(List Int×(List (List Int)×(List Jl×(List Ux×(Int×(Int×(Int×(Int×(Int×List AB))))))))))
abbrev U8s:=Ty.slice U8
abbrev AL:=Ty.pair U8s .unit
abbrev A6:Type:=List Int×Unit
abbrev U64:=Ty.int .u64
abbrev Abl:=Ty.pair U8s Bo
abbrev yR:Type:=List Int×Bool
abbrev CE:=Ty.pair Abl Aj
abbrev Gn:Type:=yR×Ae
abbrev Kw:=Ty.slice U8s
abbrev Hn:=Ty.pair I64 (Ty.pair U8 FP)
abbrev BF:Type:=Int×(Int×List AB)
abbrev Jm:=Ty.pair Hn (Ty.pair Kw Bo)
abbrev Ez:Type:=BF×(List (List Int)×Bool)
abbrev FF:=Ty.pair U8 (Ty.pair I64 I64)
abbrev A9:Type:=Int×(Int×Int)
abbrev RX:=Ty.slice FF
abbrev A7:=Ty.pair RX (Ty.pair I64 Bo)
abbrev AE:Type:=List A9×(Int×Bool)
abbrev Eo:=Ty.pair U8 (Ty.pair I64 Bo)
abbrev BG:Type:=Int×(Int×Bool)
abbrev Wr:=Ty.pair I64 I64
abbrev Fi:Type:=Int×Int
abbrev GH:=Ty.pair Bo (Ty.pair U32 I64)
abbrev Cd:Type:=Bool×(Int×Int)
abbrev JK:=Ty.pair Bo (Ty.pair Bo I64)
abbrev BB:Type:=Bool×(Bool×Int)
abbrev UA:=Ty.slice JK
abbrev DV:=Ty.pair Bo (Ty.pair I64 (Ty.pair U64 (Ty.pair Bo I64)))
abbrev AH:Type:=Bool×(Int×(Int×(Bool×Int)))
abbrev Cr:=Ty.slice DV
abbrev DU:=Ty.pair Bo (Ty.pair I64 (Ty.pair I64 (Ty.pair I64 U64)))
abbrev Bi:Type:=Bool×(Int×(Int×(Int×Int)))
abbrev Wq:=Ty.slice DU
abbrev Cj:=Ty.pair AL (Ty.pair A7 (Ty.pair Eo (Ty.pair Wr (Ty.pair GH (Ty.pair U8s (Ty.pair Cl (Ty.pair I64 (Ty.pair UA (Ty.pair Cr (Ty.pair Wq (Ty.pair U32 (Ty.pair I64 (Ty.pair I64 (Ty.pair DN (Ty.pair DN (Ty.pair DN U32))))))))))))))))
abbrev AV:Type:=A6×(AE×(BG×(Fi×(Cd×(List Int×(AB×(Int×(List BB×(List AH×(List Bi×(Int×(Int×(Int×(List Int×(List Int×(List Int×Int))))))))))))))))
abbrev E8:=Ty.pair U8 (Ty.pair U32 U8s)
abbrev AX:Type:=Int×(Int×List Int)
abbrev F4:=Ty.slice E8
abbrev Abn:=Ty.pair U8s (Ty.pair Bo (Ty.pair Bo Bo))
abbrev yS:Type:=List Int×(Bool×(Bool×Bool))
abbrev FJ:=Ty.pair U8s Bo
abbrev LY:Type:=List Int×Bool
abbrev IW:=Ty.pair I64 (Ty.pair I64 (Ty.pair I64 DN))
abbrev HV:Type:=Int×(Int×(Int×List Int))
abbrev RW:=Ty.pair U8s (Ty.pair U32 (Ty.pair U8s (Ty.pair Bo (Ty.pair I64 (Ty.pair I64 Bo)))))
abbrev BY:Type:=List Int×(Int×(List Int×(Bool×(Int×(Int×Bool)))))
abbrev Abm:=Ty.pair I64 U8s
abbrev CU:Type:=Int×List Int
abbrev N9:=Ty.slice Abm
abbrev AZ:=Ty.pair Aj (Ty.pair Cj (Ty.pair RW (Ty.pair N9 (Ty.pair UA (Ty.pair U8s (Ty.pair U8s U8s))))))
abbrev BH:Type:=Ae×(AV×(BY×(List CU×(List BB×(List Int×(List Int×List Int))))))
abbrev Hr:=Ty.pair Bo (Ty.pair Bo (Ty.pair Bo Bo))
abbrev DE:Type:=Bool×(Bool×(Bool×Bool))
abbrev Ix:=Ty.pair I64 (Ty.pair U8 (Ty.pair I64 DN))
abbrev Gp:Type:=Int×(Int×(Int×List Int))
abbrev GK:=Ty.slice RW
def Bm (x:Int×Int×Int):Bool :=
(((decide (x.2.1≤x.1))&&(decide (x.1≤x.2.2))))
def HQ (x:Ae):Option (Bool) :=
(Ay (Bm ((Aa x.2.1),(1,16))) (fun y =>
(cnd ((((((!y)||(!((Aa x.2.2.1)==(Aa x.2.1))))||(!((Aa x.2.2.2.1)==(Aa x.2.1))))||(!(Bm ((Aa x.2.2.2.2.1),(1,8)))))||(decide (24<(Aa x.2.2.2.2.2.1))))||(decide (8<(Aa x.2.2.2.2.2.2.2.2.2.2.2))))
(some false)
(iter none (fun x1 =>
(cnd (decide (x1<(Aa x.2.2.2.1)))
(Ad (idx x.2.2.2.1 x1) (.done none) (fun x2 =>
(cnd (!((Aa x2)==(Aa x.2.1)))
(.done (some false))
(Ad (idx x.2.2.1 x1) (.done none) (fun x3 =>
(cnd (decide (0≤(Aa x.2.1)))
(cnd (!((Av Go.IntKind.u32 x3 (Aa x.2.1))==0))
(.done (some false))
(.next (wr .i64 (x1+1))))
(.done none)))))))
(.done (some true)))) AA (0:Int)))))
def NW (x:List Int):Option (Bool) :=
(iter none (fun x1 =>
(cnd (decide (x1<(Aa x)))
(Ad (idx x x1) (.done none) (fun x2 =>
(Ay (Bm (x2,(1,1048576))) (fun y =>
(cnd (!y)
(.done (some false))
(.next (wr .i64 (x1+1))))))))
(.done (some true)))) AA (0:Int))
def Bn (x:List Int):Bool:=x.all fun n=>decide (1≤n)&&decide (n≤1048576)
theorem mY (x:List Int) (hf:Kd [DN] x):NW x=some (Bn x):=by
 unfold NW
 obtain⟨b,h1,h2⟩:=L9 (l:=x) (bad:=none) (no:=some false) (yes:=some true) (f:=fun x1 =>
(cnd (decide (x1<(Aa x)))
(Ad (idx x x1) (.done none) (fun x2 =>
(Ay (Bm (x2,(1,1048576))) (fun y =>
(cnd (!y)
(.done (some false))
(.next (wr .i64 (x1+1))))))))
(.done (some true)))) (fun _ n=>Bm (n,(1,1048576))=true) hf.1 (fun i n h0 h1 hn=>by
  simp only[h1,decide_true,cnd,hn,Ad,Ay]
  cases Bm (n,(1,1048576))<;>simp) (fun i hi=>by simp[hi,cnd])
 rw[h1]
 have:b=Bn x:=by
  apply Bool.eq_iff_iff.2
  rw[h2]
  unfold Bn Bm
  simp only[List.all_eq_true]
  exact ⟨fun h n hn=>by obtain⟨i,hi⟩:=ES hn;exact h i n hi,fun h i n hi=>h n (An hi).2.2⟩
 rw[this]
 cases Bn x<;>rfl
def QS (x:Int):Option (Int) :=
(cnd ((decide (x<0))||(decide (31<x)))
(some 0)
(cnd (decide (0≤x))
(some (Bc Go.IntKind.u32 1 x))
 none))
def Dg (x:Int):Int:=cnd (decide (x<0)||decide (31<x)) 0 (Bc .u32 1 x)
theorem xE (x:Int) (_:Kd [I64] x):QS x=some (Dg x):=by
 unfold QS Dg
 by_cases h:x<0
 ·simp[h,cnd]
 ·have h':0≤x:=by omega
  by_cases h2:31<x
  ·simp[h2,cnd]
  ·simp[h,h2,h',cnd]
def QQ (x:Int×Int):Option (Bool) :=
(Ay (Dg x.2) (fun y =>
(some (!((Ai Go.BinOp.and Go.IntKind.u32 x.1 y)==0)))))
def DQ (x:Int×Int):Bool :=
(Ay (Dg x.2) (fun y =>
((!((Ai Go.BinOp.and Go.IntKind.u32 x.1 y)==0)))))
theorem xB (x:Int×Int):QQ x=some (DQ x):=by
 unfold QQ DQ
 simp only[Ay]
def HP (x:Ae):Option (Bool) :=
(iter none (fun x1 =>
(cnd (decide (x1<(Aa x.2.1)))
(Ad (idx x.2.1 x1) (.done none) (fun x2 =>
(cnd (((!(x2.1==1))&&(!(x2.1==2)))||(!(Bn (x2.2.1::(x2.2.2::[])))))
(.done (some false))
(Ad (idx x.2.2.2.1 x1) (.done none) (fun x3 =>
(iter (.done none) (fun x4 =>
(cnd (decide (x4<(Aa x3)))
(Ad (idx x3 x4) (.done (.done none)) (fun x5 =>
(Ad (idx x.2.2.1 x1) (.done (.done none)) (fun x6 =>
(Ay (DQ (x6,x4)) (fun y =>
(Ad (idx x.2.2.1 x4) (.done (.done none)) (fun x7 =>
(Ay (DQ (x7,x1)) (fun y1 =>
(cnd (!(y==y1))
(.done (.done (some false)))
(cnd (y&&(x1==x4))
(.done (.done (some false)))
(cnd (y&&(!(Bm (x5,(x2.2.2,1048576)))))
(.done (.done (some false)))
(cnd ((!y)&&(!(x5==0)))
(.done (.done (some false)))
(.next (wr .i64 (x4+1)))))))))))))))))
(.done (.next (wr .i64 (x1+1)))))) AA (0:Int)))))))
(.done (some true)))) AA (0:Int))
def Bl (x:Int):Int:=low x
def NR (x:Int):Option (Int) :=
(cnd (x==0)
(some (-1))
(Ay (Bl x) (fun y =>
(some y))))
def F3 (x:Int):Int :=
(cnd (x==0)
((-1))
(Ay (Bl x) (fun y =>
(y))))
theorem kY (x:Int):NR x=some (F3 x):=by
 unfold NR F3
 simp only[Ay,DP]
def LB (x:Int×Int):Option (Int) :=
(Ay (Dg x.2) (fun y =>
(some (Ai Go.BinOp.andNot Go.IntKind.u32 x.1 y))))
def B6 (x:Int×Int):Int :=
(Ay (Dg x.2) (fun y =>
((Ai Go.BinOp.andNot Go.IntKind.u32 x.1 y))))
theorem Z2 (x:Int×Int):LB x=some (B6 x):=by
 unfold LB B6
 simp only[Ay]
def H9 (x:Int):Int:=cnt x
def NQ (x:Int):Option (Int) :=
(Ay (H9 x) (fun y =>
(some y)))
def G9 (x:Int):Int :=
(Ay (H9 x) (fun y =>
(y)))
theorem kU (x:Int):NQ x=some (G9 x):=by
 unfold NQ G9
 simp only[Ay]
def GR (x:Ae):Option (Bool) :=
(iter none (fun x1 =>
(cnd (decide (x1.2<(Aa x.2.2.2.2.1)))
(Ad (idx x.2.2.2.2.1 x1.2) (.done none) (fun x2 =>
(cnd (x2.1==0)
(.done (some false))
(cnd (decide (0≤(Aa x.2.1)))
(cnd (((!((Av Go.IntKind.u32 x2.1 (Aa x.2.1))==0))||(!(Bn (x2.2.1::(x2.2.2.1::(x2.2.2.2.1::[]))))))||(decide (x2.2.2.1<x2.2.1)))
(.done (some false))
(iter (.done none) (fun x3 =>
(cnd (!(x3==0))
(Ay (F3 x3) (fun y =>
(Ay (B6 (x3,y)) (fun y1 =>
(Ad (idx x.2.1 y) (.done (.done none)) (fun x4 =>
(cnd (decide (x2.2.1<x4.2.1))
(.done (.done (some false)))
(Ad (idx x.2.2.1 y) (.done (.done none)) (fun x5 =>
(cnd (!((Ai Go.BinOp.and Go.IntKind.u32 x5 x2.1)==0))
(.done (.done (some false)))
(.next y1)))))))))))
(.done (.next ((Ai Go.BinOp.or Go.IntKind.u32 x1.1 x2.1),(wr .i64 (x1.2+1))))))) AA x2.1))
(.done none)))))
(.done (Ay (G9 x1.1) (fun y =>
(some (y==(Aa x.2.1)))))))) AA ((0:Int),(0:Int)))
def IH (x:Ae):Option (Bool) :=
(iter none (fun x1 =>
(cnd (decide (x1<(Aa x.2.2.2.2.2.1)))
(Ad (idx x.2.2.2.2.2.1 x1) (.done none) (fun x2 =>
(Ay (Bm (x2.1,(0,(wr .i64 ((Aa x.2.2.2.2.1)-1))))) (fun y =>
(cnd (((!y)||(!(Bn (x2.2.1::(x2.2.2.1::[])))))||(!(Bm (x2.2.2.2,(1,64)))))
(.done (some false))
(.next (wr .i64 (x1+1))))))))
(.done (some true)))) AA (0:Int))
def FD (x:Ae×Int×Int):Option (Int) :=
(iter none (fun x1 =>
(cnd (decide (x1.2<(Aa x.1.2.1)))
(Ad (idx x.1.2.2.2.2.1 x.2.1) (.done none) (fun x2 =>
(Ay (DQ (x2.1,x1.2)) (fun y =>
(cnd (!y)
(.next (x1.1,(wr .i64 (x1.2+1))))
(Ad (idx x.1.2.2.1 x1.2) (.done none) (fun x3 =>
(Ad (idx x.1.2.2.2.2.1 x.2.2) (.done none) (fun x4 =>
(iter (.done none) (fun x5 =>
(cnd (!(x5.2==0))
(Ay (F3 x5.2) (fun y1 =>
(Ay (B6 (x5.2,y1)) (fun y2 =>
(Ad (idx x.1.2.2.2.1 x1.2) (.done (.done none)) (fun x6 =>
(Ad (idx x6 y1) (.done (.done none)) (fun x7 =>
(.next ((Ct x5.1 x7),y2))))))))))
(.done (.next (x5.1,(wr .i64 (x1.2+1))))))) AA (x1.1,(Ai Go.BinOp.and Go.IntKind.u32 x3 x4.1))))))))))))
(.done (some x1.1)))) AA ((0:Int),(0:Int)))
def D8 (x:Ae×Int):Option (Int) :=
(Ad (idx x.1.2.2.2.2.1 x.2) none (fun x1 =>
(cnd (!((Aa x.1.2.2.2.2.1)==0))
(Ad (FD (x.1,(x.2,(FX (wr .i64 (x.2+1)) (Aa x.1.2.2.2.2.1))))) none (fun x2 =>
(some (wr .i64 (x1.2.1+x2)))))
 none)))
def HR (x:Ae):Option (Bool) :=
(iter none (fun x1 =>
(cnd (decide (x1.2<(Aa x.2.2.2.2.1)))
(Ad (D8 (x,x1.2)) (.done none) (fun x2 =>
(.next ((wr .i64 (x1.1+x2)),(wr .i64 (x1.2+1))))))
(.done (Ay (Bn (x.2.2.2.2.2.2.1::(x.2.2.2.2.2.2.2.1::(x.2.2.2.2.2.2.2.2.1::(x.2.2.2.2.2.2.2.2.2.1::(x.2.2.2.2.2.2.2.2.2.2.1::[])))))) (fun y =>
(some ((y&&(decide (x1.1≤x.2.2.2.2.2.2.2.2.2.1)))&&(decide (x.2.2.2.2.2.2.2.2.2.1≤x.2.2.2.2.2.2.2.2.2.2.1))))))))) AA ((0:Int),(0:Int)))
def Gd (x:Ae×AB):Option (Bool) :=
(Ay (Bm (x.2.1,(x.1.2.2.2.2.2.2.2.2.2.1,x.1.2.2.2.2.2.2.2.2.2.2.1))) (fun y =>
(cnd (((!y)||(!(Bm (x.2.2.1,(0,(wr .i64 (x.2.1-1)))))))||(!((Aa x.2.2.2)==(Aa x.1.2.2.2.2.1))))
(some false)
(iter none (fun x1 =>
(cnd (decide (x1.2<(Aa x.2.2.2)))
(Ad (idx x.2.2.2 x1.2) (.done none) (fun x2 =>
(Ad (D8 (x.1,x1.2)) (.done none) (fun x3 =>
(Ay (Bm (x2,(x3,x1.1))) (fun y1 =>
(cnd (!y1)
(.done (some false))
(.next ((wr .i64 (x1.1-x2)),(wr .i64 (x1.2+1)))))))))))
(.done (some (x1.1==0))))) AA (x.2.1,(0:Int))))))
def Gm (x:Ae):Option (Bool) :=
(iter none (fun x1 =>
(cnd (decide (x1<(Aa x.2.2.2.2.2.2.2.2.2.2.2)))
(Ad (idx x.2.2.2.2.2.2.2.2.2.2.2 x1) (.done none) (fun x2 =>
(Ad (Gd (x,x2)) (.done none) (fun x3 =>
(cnd (!x3)
(.done (some false))
(.next (wr .i64 (x1+1))))))))
(.done (some true)))) AA (0:Int))
def Aw (x:Ae):Option (Int) :=
(iter none (fun x1 =>
(cnd (decide (x1.2<6))
(cnd (x1.2==0)
(Ay (Bm (x.1,(0,65535))) (fun y =>
(cnd (!y)
(.done (some 50))
(Ad (HQ x) (.done none) (fun x2 =>
(cnd (!x2)
(.done (cnd (!x2)
(some 50)
(some 0)))
(.next ((!x2),(wr .i64 (x1.2+1))))))))))
(cnd (x1.2==1)
(Ad (HP x) (.done none) (fun x2 =>
(cnd (!x2)
(.done (cnd (!x2)
(some 50)
(some 0)))
(.next ((!x2),(wr .i64 (x1.2+1)))))))
(cnd (x1.2==2)
(Ad (GR x) (.done none) (fun x2 =>
(cnd (!x2)
(.done (cnd (!x2)
(some 50)
(some 0)))
(.next ((!x2),(wr .i64 (x1.2+1)))))))
(cnd (x1.2==3)
(Ad (IH x) (.done none) (fun x2 =>
(cnd (!x2)
(.done (cnd (!x2)
(some 50)
(some 0)))
(.next ((!x2),(wr .i64 (x1.2+1)))))))
(cnd (x1.2==4)
(Ad (HR x) (.done none) (fun x2 =>
(cnd (!x2)
(.done (cnd (!x2)
(some 50)
(some 0)))
(.next ((!x2),(wr .i64 (x1.2+1)))))))
(cnd (x1.2==5)
(Ad (Gm x) (.done none) (fun x2 =>
(cnd (!x2)
(.done (cnd (!x2)
(some 50)
(some 0)))
(.next ((!x2),(wr .i64 (x1.2+1)))))))
(cnd x1.1
(.done (cnd x1.1
(some 50)
(some 0)))
(.next (x1.1,(wr .i64 (x1.2+1)))))))))))
(.done (cnd x1.1
(some 50)
(some 0))))) AA (false,(0:Int)))
def D6 (x:Ae×AB):Option (Bool×Int) :=
(Ad (Aw x.1) none (fun x1 =>
(cnd (!(x1==0))
(some (false,x1))
(Ad (Gd x) none (fun x2 =>
(some (x2,0)))))))
def PY (_:Unit):Ae :=
((1,(((1,(2,1))::((1,(2,1))::[])),((2::(1::[])),(((0::(2::[]))::((2::(0::[]))::[])),(((1,(2,(5,(1,false))))::((2,(2,(5,(1,false))))::[])),([],(3,(2,(4,(8,(20,[]))))))))))))
def MT (_:Unit):Option (A6) :=
(cnd (Dw 256 1)
(some ((AQ 256 0),()))
 none)
def Mv (x:A6):Option (Int) :=
(cnd ((decide ((Aa x.1)<64))||(decide (4096<(Aa x.1))))
(some 180)
(cnd (!((FX (Aa x.1) 64)==0))
(some 180)
(some 0)))
def CD (x:A6):Int :=
(cnd ((decide ((Aa x.1)<64))||(decide (4096<(Aa x.1))))
(180)
(cnd (!((FX (Aa x.1) 64)==0))
(180)
(0)))
theorem cM (x:A6):Mv x=some (CD x):=by
 unfold Mv CD
 simp only[DP]
def Ni (x:A6):Option (Int×Int) :=
(Ay (CD (x.1,())) (fun y =>
(cnd (!(y==0))
(some (0,y))
(some ((EJ Go.IntKind.i64 (Aa x.1) 64),0)))))
def Cc (x:A6):Int×Int :=
(Ay (CD (x.1,())) (fun y =>
(cnd (!(y==0))
((0,y))
(((EJ Go.IntKind.i64 (Aa x.1) 64),0)))))
theorem fT (x:A6):Ni x=some (Cc x):=by
 unfold Ni Cc
 simp only[Ay,DP]
def Ly (x:A6):Option (Bool) :=
(Ay (Cc (x.1,())) (fun y =>
(Ay (CD (x.1,())) (fun y1 =>
(some (((y1==0)&&(y.2==0))&&(decide (2≤y.1))))))))
def C1 (x:A6):Bool :=
(Ay (Cc (x.1,())) (fun y =>
(Ay (CD (x.1,())) (fun y1 =>
((((y1==0)&&(y.2==0))&&(decide (2≤y.1))))))))
theorem ZT (x:A6):Ly x=some (C1 x):=by
 unfold Ly C1
 simp only[Ay]
def Mw (x:A6×Int):Option (Int) :=
(Ay (Cc (x.1.1,())) (fun y =>
(cnd ((y.2==0)&&((decide (x.2<0))||(decide (y.1≤x.2))))
(some 2)
(some y.2))))
def Fl (x:A6×Int):Int :=
(Ay (Cc (x.1.1,())) (fun y =>
(cnd ((y.2==0)&&((decide (x.2<0))||(decide (y.1≤x.2))))
(2)
(y.2))))
theorem cP (x:A6×Int):Mw x=some (Fl x):=by
 unfold Mw Fl
 simp only[Ay,DP]
def Jp (x:A6×Int):Option (List Int) :=
(cnd ((decide (0≤(wr .i64 (x.2*64))))&&(decide ((wr .i64 (x.2*64))≤(Aa x.1.1))))
(cnd (decide (64≤(Aa (Bz x.1.1 (wr .i64 (x.2*64))))))
(some (AF (Bz x.1.1 (wr .i64 (x.2*64))) 64))
 none)
 none)
def CL (x:List Int):Option (List Int) :=
(cnd (true&&(AN (0+(Aa x)) 1))
(some ([]++x))
 none)
def B4 (x:A6×Int):Option (List Int×Int) :=
(Ay (Fl ((x.1.1,()),x.2)) (fun y =>
(cnd (!(y==0))
(some ([],y))
(Ad (Jp ((x.1.1,()),x.2)) none (fun x1 =>
(Ad (CL x1) none (fun x2 =>
(some (x2,0)))))))))
def FA (x:List Int):Option (Int×Int) :=
(cnd ((decide ((Aa x)<1))||(decide (8<(Aa x))))
(some (0,8))
(iter none (fun x1 =>
(cnd (decide (x1.2<(Aa x)))
(Ad (idx x x1.2) (.done none) (fun x2 =>
(cnd (decide (0≤(wr .i64 (8*x1.2))))
(.next ((Ai Go.BinOp.or Go.IntKind.u64 x1.1 (Bc Go.IntKind.u64 (wr .u64 x2) (wr .i64 (8*x1.2)))),(wr .i64 (x1.2+1))))
(.done none))))
(.done (some (x1.1,0))))) AA ((0:Int),(0:Int))))
def Ch (x:List Int):Option (Int) :=
(Ad (FA x) none (fun x1 =>
(some x1.1)))
def DI (x:List Int):Option (Int×Int×Int) :=
(iter none (fun x1 =>
(cnd (decide (x1.2<(Aa x)))
(Ad (idx x x1.2) (.done none) (fun x2 =>
(cnd ((x1.2==9)&&(decide (1<x2)))
(.done (some (0,(0,8))))
(cnd (decide (0≤(wr .i64 (7*x1.2))))
(cnd (decide (x2<128))
(cnd ((x2==0)&&(decide (0<x1.2)))
(.done (some (0,(0,8))))
(.done (some ((Ai Go.BinOp.or Go.IntKind.u64 x1.1 (Bc Go.IntKind.u64 (wr .u64 (Ai Go.BinOp.and Go.IntKind.u8 x2 127)) (wr .i64 (7*x1.2)))),((wr .i64 (x1.2+1)),0)))))
(.next ((Ai Go.BinOp.or Go.IntKind.u64 x1.1 (Bc Go.IntKind.u64 (wr .u64 (Ai Go.BinOp.and Go.IntKind.u8 x2 127)) (wr .i64 (7*x1.2)))),(wr .i64 (x1.2+1)))))
(.done none)))))
(.done (some (0,(0,8)))))) AA ((0:Int),(0:Int)))
def BM (x:Gn×Int):Option (Gn×Int) :=
(Ad (DI x.1.1.1) none (fun x1 =>
(cnd ((!(x1.2.2==0))||(decide ((wr .u64 x.2)<x1.1)))
(some (((x.1.1.1,true),x.1.2),0))
(cnd ((decide (0≤x1.2.1))&&(decide (x1.2.1≤(Aa x.1.1.1))))
(some ((((Bz x.1.1.1 x1.2.1),x.1.1.2),x.1.2),(wr .i64 x1.1)))
 none))))
def Dp (x:Gn×Int):Option (Gn×List Int) :=
(iter none (fun x1 =>
(cnd (decide (x1.2.1<x.2))
(Ad (BM (x1.2.2,1048576)) (.done none) (fun x2 =>
(cnd (true&&(AN ((Aa x1.1)+(Aa (x2.2::[]))) 8))
(.next ((x1.1++(x2.2::[])),((wr .i64 (x1.2.1+1)),x2.1)))
(.done none))))
(.done (some (x1.2.2,x1.1))))) AA ([],((0:Int),x.1)))
def DL (x:Gn):Option (Gn×List AB) :=
(Ad (BM (x,8)) none (fun x1 =>
(iter none (fun x2 =>
(cnd (decide (x2.2.1<x1.2))
(Ad (BM (x2.2.2,1048576)) (.done none) (fun x3 =>
(Ad (BM (x3.1,1048576)) (.done none) (fun x4 =>
(Ad (BM (x4.1,8)) (.done none) (fun x5 =>
(Ad (Dp x5) (.done none) (fun x6 =>
(cnd (true&&(AN ((Aa x2.1)+(Aa ((x3.2,(x4.2,x6.2))::[]))) 40))
(.next ((x2.1++((x3.2,(x4.2,x6.2))::[])),((wr .i64 (x2.2.1+1)),x6.1)))
(.done none))))))))))
(.done (some (x2.2.2,x2.1))))) AA ([],((0:Int),x1.1)))))
def Cp (x:Int):Option (List Int) :=
(iter none (fun x1 =>
(cnd (decide (127<x1.1))
(cnd (true&&(AN ((Aa x1.2)+(Aa ((Ai Go.BinOp.or Go.IntKind.u8 (wr .u8 x1.1) 128)::[]))) 1))
(.next ((Av Go.IntKind.u64 x1.1 7),(x1.2++((Ai Go.BinOp.or Go.IntKind.u8 (wr .u8 x1.1) 128)::[]))))
(.done none))
(.done (cnd (true&&(AN ((Aa x1.2)+(Aa ((wr .u8 x1.1)::[]))) 1))
(some (x1.2++((wr .u8 x1.1)::[])))
 none)))) AA (x,[]))
def D7 (x:List AB):Option (List Int×Int) :=
(cnd (decide (8<(Aa x)))
(some ([],4))
(iter none (fun x1 =>
(cnd (decide (x1.2<(Aa ((Aa x)::[]))))
(Ad (idx ((Aa x)::[]) x1.2) (.done none) (fun x2 =>
(Ad (Cp (wr .u64 x2)) (.done none) (fun x3 =>
(cnd (true&&(AN ((Aa x1.1)+(Aa x3)) 1))
(.next ((x1.1++x3),(wr .i64 (x1.2+1))))
(.done none))))))
(.done (iter none (fun x2 =>
(cnd (decide (x2.1<(Aa x)))
(Ad (idx x x2.1) (.done none) (fun x3 =>
(Ay (Bn (x3.1::[])) (fun y =>
(cnd (((!y)||(!(Bm (x3.2.1,(0,(wr .i64 (x3.1-1)))))))||(!(Bm ((Aa x3.2.2),(1,8)))))
(.done (some ([],170)))
(iter (.done none) (fun x4 =>
(cnd (decide (x4.2<(Aa (x3.1::(x3.2.1::((Aa x3.2.2)::[]))))))
(Ad (idx (x3.1::(x3.2.1::((Aa x3.2.2)::[]))) x4.2) (.done (.done none)) (fun x5 =>
(Ad (Cp (wr .u64 x5)) (.done (.done none)) (fun x6 =>
(cnd (true&&(AN ((Aa x4.1)+(Aa x6)) 1))
(.next ((x4.1++x6),(wr .i64 (x4.2+1))))
(.done (.done none)))))))
(.done (iter (.done none) (fun x5 =>
(cnd (decide (x5.1<(Aa x3.2.2)))
(Ad (idx x3.2.2 x5.1) (.done (.done none)) (fun x6 =>
(Ay (Bm (x6,(0,1048576))) (fun y1 =>
(cnd (!y1)
(.done (.done (some ([],170))))
(iter (.done (.done none)) (fun x7 =>
(cnd (decide (x7.2<(Aa (x6::[]))))
(Ad (idx (x6::[]) x7.2) (.done (.done (.done none))) (fun x8 =>
(Ad (Cp (wr .u64 x8)) (.done (.done (.done none))) (fun x9 =>
(cnd (true&&(AN ((Aa x7.1)+(Aa x9)) 1))
(.next ((x7.1++x9),(wr .i64 (x7.2+1))))
(.done (.done (.done none))))))))
(.done (.next ((wr .i64 (x5.1+1)),x7.1))))) AA (x5.2,(0:Int))))))))
(.done (.next ((wr .i64 (x2.1+1)),x5.2))))) AA ((0:Int),x4.1))))) AA (x2.2,(0:Int))))))))
(.done (some (x2.2,0))))) AA ((0:Int),x1.1))))) AA ([],(0:Int))))
def bytes_Equal (x:List Int×List Int):Bool :=
(((bytesOf x.1)==(bytesOf x.2)))
def HO (x:List Int):Option (List AB×Int) :=
(Ad (DL ((x,false),(0,([],([],([],([],([],(0,(0,(0,(0,(0,[]))))))))))))) none (fun x1 =>
(Ad (D7 x1.2) none (fun x2 =>
(cnd ((x1.1.1.2||(!(x2.2==0)))||(!(bytes_Equal (x2.1,x))))
(some ([],8))
(some (x1.2,0)))))))
def FB (x:Int×Int):Option (List Int×Int) :=
(cnd ((decide (x.2<1))||(decide (8<x.2)))
(some ([],2))
(cnd (decide (x.2<8))
(cnd (decide (0≤(wr .i64 (8*x.2))))
(cnd (!((Av Go.IntKind.u64 x.1 (wr .i64 (8*x.2)))==0))
(some ([],2))
(cnd ((decide (0≤x.2))&&((decide (x.2≤x.2))&&(Dw x.2 1)))
(iter none (fun x1 =>
(cnd (decide (x1.1<(Aa (AQ x.2 (0:Int)))))
(cnd (decide (0≤(wr .i64 (8*x1.1))))
(Ad (idx x1.2 x1.1) (.done none) (fun _ =>
(Ad (idx x1.2 x1.1) (.done none) (fun _ =>
(.next ((wr .i64 (x1.1+1)),(A8 x1.2 x1.1 (wr .u8 (Av Go.IntKind.u64 x.1 (wr .i64 (8*x1.1)))))))))))
(.done none))
(.done (some (x1.2,0))))) AA ((0:Int),(AQ x.2 (0:Int))))
 none))
 none)
(cnd ((decide (0≤x.2))&&((decide (x.2≤x.2))&&(Dw x.2 1)))
(iter none (fun x1 =>
(cnd (decide (x1.1<(Aa (AQ x.2 (0:Int)))))
(cnd (decide (0≤(wr .i64 (8*x1.1))))
(Ad (idx x1.2 x1.1) (.done none) (fun _ =>
(Ad (idx x1.2 x1.1) (.done none) (fun _ =>
(.next ((wr .i64 (x1.1+1)),(A8 x1.2 x1.1 (wr .u8 (Av Go.IntKind.u64 x.1 (wr .i64 (8*x1.1)))))))))))
(.done none))
(.done (some (x1.2,0))))) AA ((0:Int),(AQ x.2 (0:Int))))
 none)))
def Gs (x:List (List Int)×List Int):Option (List Int):=match x with
 |(a::b::r,[])=>if Aa (a::b::r)≤1000000∧Aa (a::b::r).flatten≤1000000 then some (a::b::r).flatten else none
 |_=>none
def BP (x:BF×Int):Option (List (List Int)×Int) :=
(cnd ((decide (x.2<1))||(decide (32<x.2)))
(some ([],2))
(cnd (((decide (x.1.1<1))||(decide (4611686018427387904≤x.1.1)))||(decide (3<x.1.2.1)))
(some ([],190))
(Ad (D7 x.1.2.2) none (fun x1 =>
(cnd (!(x1.2==0))
(some ([],x1.2))
(Ad (Cp (wr .u64 x.1.2.1)) none (fun x2 =>
(cnd (true&&(AN ((Aa x2)+(Aa x1.1)) 1))
(Ad (Cp (wr .u64 (Aa (x2++x1.1)))) none (fun x3 =>
(cnd (true&&(AN ((Aa x3)+(Aa (x2++x1.1))) 1))
(cnd (decide ((wr .i64 (48*x.2))<(Aa (x3++(x2++x1.1)))))
(some ([],190))
(cnd ((decide (0≤(wr .i64 ((wr .i64 (48*x.2))-(Aa (x3++(x2++x1.1)))))))&&(true&&(AN ((Aa (x3++(x2++x1.1)))+(wr .i64 ((wr .i64 (48*x.2))-(Aa (x3++(x2++x1.1)))))) 1)))
(Ad (FB ((wr .u64 x.1.1),8)) none (fun x4 =>
(iter none (fun x5 =>
(cnd (decide (x5.2<x.2))
(cnd ((decide (0≤(wr .i64 (x5.2*48))))&&(decide ((wr .i64 (x5.2*48))≤(Aa ((x3++(x2++x1.1))++(AQ (wr .i64 ((wr .i64 (48*x.2))-(Aa (x3++(x2++x1.1))))) 0))))))
(cnd (decide (48≤(Aa (Bz ((x3++(x2++x1.1))++(AQ (wr .i64 ((wr .i64 (48*x.2))-(Aa (x3++(x2++x1.1))))) 0)) (wr .i64 (x5.2*48))))))
(Ad (Gs ((x4.1::((AF (Bz ((x3++(x2++x1.1))++(AQ (wr .i64 ((wr .i64 (48*x.2))-(Aa (x3++(x2++x1.1))))) 0)) (wr .i64 (x5.2*48))) 48)::(x4.1::[]))),[])) (.done none) (fun x6 =>
(cnd (true&&(AN ((Aa x5.1)+(Aa (x6::[]))) 24))
(.next ((x5.1++(x6::[])),(wr .i64 (x5.2+1))))
(.done none))))
(.done none))
(.done none))
(.done (some (x5.1,0))))) AA ([],(0:Int)))))
 none))
 none)))
 none))))))))
def Bd (x:Ez):Option (Ez) :=
(iter none (fun x1 =>
(cnd (decide (x1.2<(Aa x.2.1)))
(Ad (idx x.2.1 x1.2) (.done none) (fun x2 =>
(cnd (decide (8≤(Aa x2)))
(cnd (decide (48≤(Aa (Bz x2 8))))
(cnd (true&&(AN ((Aa x1.1)+(Aa (AF (Bz x2 8) 48))) 1))
(.next ((x1.1++(AF (Bz x2 8) 48)),(wr .i64 (x1.2+1))))
(.done none))
(.done none))
(.done none))))
(.done (Ad (idx x.2.1 0) none (fun x2 =>
(cnd (decide (8≤(Aa x2)))
(Ad (Ch (AF x2 8)) none (fun x3 =>
(Ad (DI x1.1) none (fun x4 =>
(cnd ((((!(x4.2.2==0))||(decide (x4.1<1)))||(decide ((wr .u64 (wr .i64 ((Aa x1.1)-x4.2.1)))<x4.1)))||(decide (4611686018427387904≤x3)))
(some x)
(cnd ((decide (0≤x4.2.1))&&(decide (x4.2.1≤(Aa x1.1))))
(cnd ((decide (0≤x4.1))&&(decide (x4.1≤((Aa x1.1)-x4.2.1))))
(Ad (DI (Fq x1.1 x4.2.1 x4.1)) none (fun x5 =>
(cnd ((!(x5.2.2==0))||(decide (3<x5.1)))
(some x)
(cnd ((decide (0≤x5.2.1))&&(decide (x5.2.1≤x4.1)))
(Ad (HO (Fq x1.1 (x4.2.1+x5.2.1) (x4.1-x5.2.1))) none (fun x6 =>
(cnd (!(x6.2==0))
(some x)
(Ad (BP (((wr .i64 x3),((wr .u8 x5.1),x6.1)),(Aa x.2.1))) none (fun x7 =>
(cnd (!(x7.2==0))
(some x)
(iter none (fun x8 =>
(cnd (decide (x8<(Aa x7.1)))
(Ad (idx x7.1 x8) (.done none) (fun x9 =>
(Ad (idx x.2.1 x8) (.done none) (fun x10 =>
(Ay (bytes_Equal (x9,x10)) (fun y =>
(cnd (!y)
(.done (some x))
(.next (wr .i64 (x8+1))))))))))
(.done (some (((wr .i64 x3),((wr .u8 x5.1),x6.1)),(x.2.1,true)))))) AA (0:Int))))))))
 none))))
 none)
 none))))))
 none)))))) AA ([],(0:Int)))
def D9 (x:A6):Option (BF×Int) :=
(Ay (Cc (x.1,())) (fun y =>
(cnd (!(y.2==0))
(cnd (!(y.2==0))
(some ((0,(0,[])),y.2))
 none)
(cnd (decide (y.1<2))
(some ((0,(0,[])),190))
(iter none (fun x1 =>
(cnd (decide (x1.1<(EJ Go.IntKind.i64 y.1 2)))
(Ad (B4 ((x.1,()),(wr .i64 ((wr .i64 (0*(EJ Go.IntKind.i64 y.1 2)))+x1.1)))) (.done none) (fun x2 =>
(cnd (true&&(AN ((Aa x1.2.2.1)+(Aa (x2.1::[]))) 24))
(.next ((wr .i64 (x1.1+1)),(x1.2.1,((x1.2.2.1++(x2.1::[])),x1.2.2.2))))
(.done none))))
(.done (Ad (Bd x1.2) none (fun x2 =>
(iter none (fun x3 =>
(cnd (decide (x3.1<(EJ Go.IntKind.i64 y.1 2)))
(Ad (B4 ((x.1,()),(wr .i64 ((wr .i64 (1*(EJ Go.IntKind.i64 y.1 2)))+x3.1)))) (.done none) (fun x4 =>
(cnd (true&&(AN ((Aa x3.2.2.1)+(Aa (x4.1::[]))) 24))
(.next ((wr .i64 (x3.1+1)),(x3.2.1,((x3.2.2.1++(x4.1::[])),x3.2.2.2))))
(.done none))))
(.done (Ad (Bd x3.2) none (fun x4 =>
(cnd (x2.2.2&&(!(x4.2.2&&(decide (x2.1.1<x4.1.1)))))
(some (x2.1,0))
(cnd x4.2.2
(some (x4.1,0))
(some ((0,(0,[])),190))))))))) AA ((0:Int),(((0:Int),((0:Int),[])),([],false))))))))) AA ((0:Int),(((0:Int),((0:Int),[])),([],false))))))))
def CR (x:Ae×Int×Int):Option (Bool) :=
(Ad (idx x.1.2.2.1 x.2.1) none (fun x1 =>
(cnd (decide (0≤x.2.2))
(some ((Ai Go.BinOp.and Go.IntKind.u32 (Av Go.IntKind.u32 x1 x.2.2) 1)==1))
 none)))
def C9 (x:Ae×Int×Int):Option (Int) :=
(Ad (idx x.1.2.2.2.1 x.2.1) none (fun x1 =>
(Ad (idx x1 x.2.2) none (fun x2 =>
(some x2)))))
def B0 (x:Ae):Option (Int) :=
(iter none (fun x1 =>
(cnd (decide (x1.2<(Aa x.2.1)))
(iter (.done none) (fun x2 =>
(cnd (decide (x2.2<(Aa x.2.1)))
(Ad (CR (x,(x1.2,x2.2))) (.done (.done none)) (fun x3 =>
(cnd x3
(Ad (C9 (x,(x1.2,x2.2))) (.done (.done none)) (fun x4 =>
(.next ((Ct x2.1 x4),(wr .i64 (x2.2+1))))))
(.next (x2.1,(wr .i64 (x2.2+1)))))))
(.done (.next (x2.1,(wr .i64 (x1.2+1))))))) AA (x1.1,(0:Int)))
(.done (some x1.1)))) AA ((0:Int),(0:Int)))
def HJ (x:Ae):Option (AE) :=
(Ad (B0 x) none (fun x1 =>
(iter none (fun x2 =>
(cnd (decide (x2.1<(Aa x.2.1)))
(cnd (true&&(AN ((Aa x2.2.2.1)+(Aa ((1,(1,1048576))::[]))) 24))
(.next ((wr .i64 (x2.1+1)),((),((x2.2.2.1++((1,(1,1048576))::[])),x2.2.2.2))))
(.done none))
(.done (some x2.2.2)))) AA ((0:Int),((),([],(x1,false)))))))
def HH (x:Ae):Option (AE×Int) :=
(Ad (Aw x) none (fun x1 =>
(cnd (!(x1==0))
(some (([],(0,false)),x1))
(Ad (HJ x) none (fun x2 =>
(some (x2,0)))))))
def EU (x:List Int):Option (List Int) :=
(cnd (true&&(AN (0+(Aa x)) 1))
(some ([]++x))
 none)
def Lw (x:Int):Option (BG) :=
(cnd ((x==2)||(x==3))
(some (2,(0,false)))
(some (1,(0,false))))
def CP (x:Int):BG :=
(cnd ((x==2)||(x==3))
((2,(0,false)))
((1,(0,false))))
theorem ZC (x:Int):Lw x=some (CP x):=by
 unfold Lw CP
 simp only[DP]
def EZ (x:Ae×A6):Option (AV) :=
(Ad (D9 (x.2.1,())) none (fun x1 =>
(Ad (HH x.1) none (fun x2 =>
(Ad (EU x.2.1) none (fun x3 =>
(Ay (CP x1.1.2.1) (fun y =>
(cnd ((decide (0≤(Aa x.1.2.2.2.2.2.1)))&&((decide ((Aa x.1.2.2.2.2.2.1)≤(Aa x.1.2.2.2.2.2.1)))&&(Dw (Aa x.1.2.2.2.2.2.1) 16)))
(cnd ((decide (0≤(Aa x.1.2.2.2.2.2.1)))&&((decide ((Aa x.1.2.2.2.2.2.1)≤(Aa x.1.2.2.2.2.2.1)))&&(Dw (Aa x.1.2.2.2.2.2.1) 40)))
(cnd ((decide (0≤(Aa x.1.2.2.2.2.2.1)))&&((decide ((Aa x.1.2.2.2.2.2.1)≤(Aa x.1.2.2.2.2.2.1)))&&(Dw (Aa x.1.2.2.2.2.2.1) 40)))
(cnd ((decide (0≤(Aa x.1.2.2.2.2.1)))&&((decide ((Aa x.1.2.2.2.2.1)≤(Aa x.1.2.2.2.2.1)))&&(Dw (Aa x.1.2.2.2.2.1) 8)))
(cnd ((decide (0≤(Aa x.1.2.2.2.2.1)))&&((decide ((Aa x.1.2.2.2.2.1)≤(Aa x.1.2.2.2.2.1)))&&(Dw (Aa x.1.2.2.2.2.1) 8)))
(cnd ((decide (0≤(Aa x.1.2.2.2.2.1)))&&((decide ((Aa x.1.2.2.2.2.1)≤(Aa x.1.2.2.2.2.1)))&&(Dw (Aa x.1.2.2.2.2.1) 8)))
(some ((x3,()),(x2.1,(y,((0,0),((false,(0,0)),([],((0,(0,[])),(1048576,((AQ (Aa x.1.2.2.2.2.2.1) (false,(false,0))),((AQ (Aa x.1.2.2.2.2.2.1) (false,(0,(0,(false,0))))),((AQ (Aa x.1.2.2.2.2.2.1) (false,(0,(0,(0,0))))),(0,(0,(0,((AQ (Aa x.1.2.2.2.2.1) 0),((AQ (Aa x.1.2.2.2.2.1) 0),((AQ (Aa x.1.2.2.2.2.1) 0),0))))))))))))))))))
 none)
 none)
 none)
 none)
 none)
 none)))))))))
def Cx (x:Ae×A6):Option (AV×Int) :=
(Ad (Aw x.1) none (fun x1 =>
(cnd (!(x1==0))
(some ((([],()),(([],(0,false)),((0,(0,false)),((0,0),((false,(0,0)),([],((0,(0,[])),(0,([],([],([],(0,(0,(0,([],([],([],0))))))))))))))))),x1))
(Ay (C1 (x.2.1,())) (fun y =>
(cnd (!y)
(some ((([],()),(([],(0,false)),((0,(0,false)),((0,0),((false,(0,0)),([],((0,(0,[])),(0,([],([],([],(0,(0,(0,([],([],([],0))))))))))))))))),8))
(Ad (EZ (x.1,(x.2.1,()))) none (fun x2 =>
(some (((x2.1.1,()),x2.2),0))))))))))
def Cg (x:List (List Int)):Option (List Int) :=
(iter none (fun x1 =>
(cnd (decide (x1.2<(Aa x)))
(Ad (idx x x1.2) (.done none) (fun x2 =>
(cnd (decide ((wr .i64 (x1.1+(Aa x2)))<0))
(.done none)
(.next ((wr .i64 (x1.1+(Aa x2))),(wr .i64 (x1.2+1)))))))
(.done (cnd (decide (x1.1<0))
 none
(cnd (decide (0<(wr .i64 (x1.1-0))))
(cnd ((decide (0≤(wr .i64 (x1.1-0))))&&(AN (wr .i64 (x1.1-0)) 1))
(cnd (decide (0≤(Aa (AQ (wr .i64 (x1.1-0)) (0:Int)))))
(iter none (fun x2 =>
(cnd (decide (x2.1<(Aa x)))
(Ad (idx x x2.1) (.done none) (fun x3 =>
(cnd (true&&(AN ((Aa x2.2)+(Aa x3)) 1))
(.next ((wr .i64 (x2.1+1)),(x2.2++x3)))
(.done none))))
(.done (some x2.2)))) AA ((0:Int),(AF (AQ (wr .i64 (x1.1-(0:Int))) (0:Int)) (0:Int))))
 none)
 none)
(iter none (fun x2 =>
(cnd (decide (x2.1<(Aa x)))
(Ad (idx x x2.1) (.done none) (fun x3 =>
(cnd (true&&(AN ((Aa x2.2)+(Aa x3)) 1))
(.next ((wr .i64 (x2.1+1)),(x2.2++x3)))
(.done none))))
(.done (some x2.2)))) AA ((0:Int),[]))))))) AA ((0:Int),(0:Int)))
def CT (x:List Int×Int):Option (Int) :=
(iter none (fun x1 =>
(cnd (decide (0≤x1))
(Ad (idx x.1 x1) (.done none) (fun x2 =>
(cnd (x2==x.2)
(.done (some x1))
(.next (wr .i64 (x1-1))))))
(.done (some (-1))))) AA (wr .i64 ((Aa x.1)-(1:Int))))
def CN (x:List Int×Int):Option (Int) :=
(Ad (CT x) none (fun x1 =>
(some x1)))
def DZ (x:List Int):Option (List Int×Int) :=
(cnd ((decide (0≤(Aa x)))&&(Dw (Aa x) 1))
(iter none (fun x1 =>
(cnd (decide (x1.2.2<(Aa x)))
(Ad (idx x x1.2.2) (.done none) (fun x2 =>
(cnd ((x1.2.1&&(!(x2==93)))&&(!(x2==94)))
(.done (some ([],8)))
(cnd (x2==126)
(.done (some ([],8)))
(cnd x1.2.1
(cnd (true&&(AN ((Aa x1.1)+(Aa ((wr .u8 (x2+32))::[]))) 1))
(.next ((x1.1++((wr .u8 (x2+32))::[])),(false,(wr .i64 (x1.2.2+1)))))
(.done none))
(cnd (x2==125)
(.next (x1.1,(true,(wr .i64 (x1.2.2+1)))))
(cnd (true&&(AN ((Aa x1.1)+(Aa (x2::[]))) 1))
(.next ((x1.1++(x2::[])),(x1.2.1,(wr .i64 (x1.2.2+1)))))
(.done none))))))))
(.done (cnd x1.2.1
(some ([],8))
(some (x1.1,0)))))) AA ((AQ 0 (0:Int)),(false,(0:Int))))
 none)
def Ga (x:List Int):Option (Int) :=
(cnd ((Aa (AQ 16 (0:Int)))==16)
(iter none (fun x1 =>
(cnd (decide (x1.2.1<(Aa x)))
(Ad (idx x x1.2.1) (.done none) (fun x2 =>
(Ad (Qq x1.2.2 16 (Ai Go.BinOp.and Go.IntKind.u32 (Ai Go.BinOp.xor Go.IntKind.u32 x1.1 (wr .u32 x2)) 15)) (.done none) (fun _ =>
(Ad (idx x1.2.2 (Ai Go.BinOp.and Go.IntKind.u32 (Ai Go.BinOp.xor Go.IntKind.u32 x1.1 (wr .u32 x2)) 15)) (.done none) (fun x4 =>
(Ad (Qq x1.2.2 16 (Ai Go.BinOp.and Go.IntKind.u32 (Ai Go.BinOp.xor Go.IntKind.u32 (Ai Go.BinOp.xor Go.IntKind.u32 (Av Go.IntKind.u32 x1.1 4) x4) (wr .u32 (Av Go.IntKind.u8 x2 4))) 15)) (.done none) (fun _ =>
(Ad (idx x1.2.2 (Ai Go.BinOp.and Go.IntKind.u32 (Ai Go.BinOp.xor Go.IntKind.u32 (Ai Go.BinOp.xor Go.IntKind.u32 (Av Go.IntKind.u32 x1.1 4) x4) (wr .u32 (Av Go.IntKind.u8 x2 4))) 15)) (.done none) (fun x6 =>
(.next ((Ai Go.BinOp.xor Go.IntKind.u32 (Av Go.IntKind.u32 (Ai Go.BinOp.xor Go.IntKind.u32 (Av Go.IntKind.u32 x1.1 4) x4) 4) x6),((wr .i64 (x1.2.1+1)),x1.2.2)))))))))))))
(.done (some (SI Go.IntKind.u32 x1.1))))) AA ((4294967295:Int),((0:Int),((0:Int)::((498536548:Int)::((997073096:Int)::((651767980:Int)::((1994146192:Int)::((1802195444:Int)::((1303535960:Int)::((1342533948:Int)::((3988292384:Int)::((4027552580:Int)::((3604390888:Int)::((3412177804:Int)::((2607071920:Int)::((2262029012:Int)::((2685067896:Int)::((3183342108:Int)::[])))))))))))))))))))
 none)
def EC (x:List Int):Option (AX×Int) :=
(cnd ((decide ((wr .i64 ((Aa x)-4))<5))||(decide (517<(wr .i64 ((Aa x)-4)))))
(some ((0,(0,[])),8))
(cnd (decide (5≤(Aa x)))
(Ad (FA (Bz (AF x 5) 1)) none (fun x1 =>
(cnd ((decide (0≤(wr .i64 ((Aa x)-4))))&&(decide ((wr .i64 ((Aa x)-4))≤(Aa x))))
(Ad (FA (Bz x (wr .i64 ((Aa x)-4)))) none (fun x2 =>
(cnd ((decide (0≤(wr .i64 ((Aa x)-4))))&&(decide ((wr .i64 ((Aa x)-4))≤(Aa x))))
(Ad (Ga (AF x (wr .i64 ((Aa x)-4)))) none (fun x3 =>
(cnd (!((wr .u64 x3)==x2.1))
(some ((0,(0,[])),8))
(Ad (idx x 0) none (fun x4 =>
(cnd ((decide (5≤(wr .i64 ((Aa x)-4))))&&(decide ((wr .i64 ((Aa x)-4))≤(Aa x))))
(Ad (CL (Bz (AF x (wr .i64 ((Aa x)-4))) 5)) none (fun x5 =>
(some ((x4,((wr .u32 x1.1),x5)),0))))
 none))))))
 none)))
 none)))
 none))
def Cz (x:List Int):Option (List AX×Int×Int) :=
(cnd (decide (16384<(Aa x)))
(some ([],(0,3)))
(cnd (decide (16384<(Aa x)))
(Ad (CN (x,126)) none (fun x1 =>
(some ([],(x1,0)))))
(iter none (fun x1 =>
(cnd (decide (x1.1<(Aa x)))
(Ad (idx x x1.1) (.done none) (fun x2 =>
(cnd (x2==126)
(Ad (DZ x1.2.2.1) (.done none) (fun x3 =>
(cnd (!(x3.2==0))
(cnd (decide (0≤(Aa x1.2.2.1)))
(.next ((wr .i64 (x1.1+1)),(x1.2.1,((AF x1.2.2.1 0),(true,(false,x1.2.2.2.2.2))))))
(.done none))
(Ad (EC x3.1) (.done none) (fun x4 =>
(cnd (((x4.2==0)&&x1.2.2.2.1)&&(!x1.2.2.2.2.1))
(cnd (true&&(AN ((Aa x1.2.1)+(Aa (x4.1::[]))) 32))
(cnd (decide (0≤(Aa x1.2.2.1)))
(.next ((wr .i64 (x1.1+1)),((x1.2.1++(x4.1::[])),((AF x1.2.2.1 0),(true,(false,x1.2.2.2.2.2))))))
(.done none))
(.done none))
(cnd (decide (0≤(Aa x1.2.2.1)))
(.next ((wr .i64 (x1.1+1)),(x1.2.1,((AF x1.2.2.1 0),(true,(false,x1.2.2.2.2.2))))))
(.done none))))))))
(cnd (decide (1043≤(Aa x1.2.2.1)))
(.next ((wr .i64 (x1.1+1)),(x1.2.1,(x1.2.2.1,(x1.2.2.2.1,(true,x1.2.2.2.2.2))))))
(cnd x1.2.2.2.1
(cnd (true&&(AN ((Aa x1.2.2.1)+(Aa (x2::[]))) 1))
(.next ((wr .i64 (x1.1+1)),(x1.2.1,((x1.2.2.1++(x2::[])),x1.2.2.2))))
(.done none))
(.next ((wr .i64 (x1.1+1)),x1.2)))))))
(.done (Ad (CN (x,126)) none (fun x2 =>
(some (x1.2.1,(x2,0)))))))) AA ((0:Int),([],([],(false,(false,true))))))))
def NG (x:Cd):Option (Int) :=
(cnd (((decide (x.2.2<0))||(decide (1048576<x.2.2)))||((!x.1)&&(!(x.2.1==0))))
(some 8)
(some 0))
def Fo (x:Cd):Int :=
(cnd (((decide (x.2.2<0))||(decide (1048576<x.2.2)))||((!x.1)&&(!(x.2.1==0))))
(8)
(0))
theorem jB (x:Cd):NG x=some (Fo x):=by
 unfold NG Fo
 simp only[DP]
def F9 (x:Cd×List AX):Option (Cd×List AX×Int) :=
(Ay (Fo x.1) (fun y =>
(cnd (!(y==0))
(some ((false,(0,0)),([],y)))
(cnd (decide (1024<(Aa x.2)))
(some ((false,(0,0)),([],4)))
(iter none (fun x1 =>
(cnd (decide (x1.1<(Aa x.2)))
(Ad (idx x.2 x1.1) (.done none) (fun x2 =>
(cnd (decide (512<(Aa x2.2.2)))
(.done (some ((false,(0,0)),([],3))))
(.next ((wr .i64 (x1.1+1)),x1.2)))))
(.done (iter none (fun x2 =>
(cnd (decide (x2.2.1<(Aa x.2)))
(Ad (idx x.2 x2.2.1) (.done none) (fun x3 =>
(cnd (x2.2.2.1&&(decide (x3.2.1≤x2.2.2.2.1)))
(.next (x2.1,((wr .i64 (x2.2.1+1)),x2.2.2)))
(Ad (CL x3.2.2) (.done none) (fun x4 =>
(cnd (true&&(AN ((Aa x2.1)+(Aa ((x3.1,(x3.2.1,x4))::[]))) 32))
(.next ((x2.1++((x3.1,(x3.2.1,x4))::[])),((wr .i64 (x2.2.1+1)),(true,(x3.2.1,x2.2.2.2.2)))))
(.done none)))))))
(.done (cnd (decide (0<(Aa x2.1)))
(some ((x2.2.2.1,(x2.2.2.2.1,0)),(x2.1,0)))
(some ((x2.2.2.1,(x2.2.2.2.1,(Bf (wr .i64 (x2.2.2.2.2+1)) 1048576))),(x2.1,0))))))) AA ([],((0:Int),x.1)))))) AA ((0:Int),(false,((0:Int),(0:Int)))))))))
def AY (x:LY×Int):Option (LY×Int) :=
(Ad (DI x.1.1) none (fun x1 =>
(cnd ((!(x1.2.2==0))||(decide ((wr .u64 x.2)<x1.1)))
(some ((x.1.1,true),0))
(cnd ((decide (0≤x1.2.1))&&(decide (x1.2.1≤(Aa x.1.1))))
(some (((Bz x.1.1 x1.2.1),x.1.2),(wr .i64 x1.1)))
 none))))
def F0 (x:Int):Bool :=
(((decide (0≤x))&&(decide (x≤65535))))
def Fp (x:List Int×List Int):Option (List Int) :=
(iter none (fun x1 =>
(cnd (decide (x1.2<(Aa x.2)))
(Ad (idx x.2 x1.2) (.done none) (fun x2 =>
(Ad (Cp (wr .u64 x2)) (.done none) (fun x3 =>
(cnd (true&&(AN ((Aa x1.1)+(Aa x3)) 1))
(.next ((x1.1++x3),(wr .i64 (x1.2+1))))
(.done none))))))
(.done (some x1.1)))) AA (x.1,(0:Int)))
def Gk (x:HV):Option (List Int×Int) :=
(Ay (F0 x.1) (fun y =>
(cnd (!y)
(some ([],2))
(Ad (D7 (x.2::[])) none (fun x1 =>
(cnd (!(x1.2==0))
(some ([],x1.2))
(Ad (Fp ([],(x.1::(x.2.1::(x.2.2.1::((Aa x.2.2.2)::[])))))) none (fun x2 =>
(Ad (Fp (x2,x.2.2.2)) none (fun x3 =>
(some (x3,0))))))))))))
def Du (x:List Int):Option (HV×Int) :=
(Ad (AY ((x,false),65535)) none (fun x1 =>
(Ad (AY (x1.1,1048576)) none (fun x2 =>
(Ad (AY (x2.1,1048576)) none (fun x3 =>
(Ad (AY (x3.1,8)) none (fun x4 =>
(iter none (fun x5 =>
(cnd (decide (x5.1<x4.2))
(Ad (AY (x5.2.2,1048576)) (.done none) (fun x6 =>
(cnd (true&&(AN ((Aa x5.2.1.2.2.2)+(Aa (x6.2::[]))) 8))
(.next ((wr .i64 (x5.1+1)),((x5.2.1.1,(x5.2.1.2.1,(x5.2.1.2.2.1,(x5.2.1.2.2.2++(x6.2::[]))))),x6.1)))
(.done none))))
(.done (Ad (Gk x5.2.1) none (fun x6 =>
(cnd ((x5.2.2.2||(!(x6.2==0)))||(!(bytes_Equal (x6.1,x))))
(some ((0,(0,(0,[]))),8))
(some (x5.2.1,0)))))))) AA ((0:Int),((x1.2,(x2.2,(x3.2,[]))),x4.1)))))))))))
def Eu (x:Ae×Int):Option (Int) :=
(cnd (!((Aa x.1.2.2.2.2.1)==0))
(some (FX (wr .i64 (x.2+1)) (Aa x.1.2.2.2.2.1)))
 none)
def HN (x:Ae×Int×Int):Option (Int×Int) :=
(DM (fun x1 =>
(cnd (!(x1==0))
(some (0,x1))
(Ad (FD x) none (fun x2 =>
(some (x2,0)))))) (fun k =>
(Ad (Aw x.1) none (fun x1 =>
(cnd (!(x1==0))
(k x1)
(iter none (fun x2 =>
(cnd (decide (x2<(Aa (x.2.1::(x.2.2::[])))))
(Ad (idx (x.2.1::(x.2.2::[])) x2) (.done none) (fun x3 =>
(Ay (Bm (x3,(0,(wr .i64 ((Aa x.1.2.2.2.2.1)-1))))) (fun y =>
(cnd (!y)
(.done (k 2))
(.next (wr .i64 (x2+1))))))))
(.done (k 0)))) AA (0:Int)))))))
def EI (x:Ae×Int):Option (Int) :=
(Ad (Eu x) none (fun x1 =>
(Ad (HN (x.1,(x.2,x1))) none (fun x2 =>
(some x2.1)))))
def EH (x:Ae×AB):Option (AB×Int) :=
(Ad (Aw x.1) none (fun x1 =>
(cnd (!(x1==0))
(some ((0,(0,[])),x1))
(cnd (!((Bf (Ct x.2.1 x.1.2.2.2.2.2.2.2.2.2.1) x.1.2.2.2.2.2.2.2.2.2.2.1)==0))
(cnd (!((Bf (Ct x.2.1 x.1.2.2.2.2.2.2.2.2.2.1) x.1.2.2.2.2.2.2.2.2.2.2.1)==0))
(cnd ((decide (0≤(Aa x.1.2.2.2.2.1)))&&((decide ((Aa x.1.2.2.2.2.1)≤(Aa x.1.2.2.2.2.1)))&&(Dw (Aa x.1.2.2.2.2.1) 8)))
(iter none (fun x2 =>
(cnd (decide (x2.1<(Aa x.1.2.2.2.2.1)))
(Ad (idx x.1.2.2.2.2.1 x2.1) (.done none) (fun x3 =>
(Ad (EI (x.1,x2.1)) (.done none) (fun x4 =>
(DM (fun x5 =>
(DM (fun x6 =>
(Ad (idx x6.2.2 x2.1) (.done none) (fun _ =>
(Ad (idx x6.2.2 x2.1) (.done none) (fun x8 =>
(cnd (true&&(AN ((Aa x6.2.1.2.1)+(Aa ((wr .i64 (x3.2.1+x4))::[]))) 8))
(.next ((wr .i64 (x2.1+1)),((wr .i64 (x2.2.1-(wr .i64 (x3.2.1+x4)))),((wr .i64 (x2.2.2.1+x8)),(x6.1,((x6.2.1.1,((x6.2.1.2.1++((wr .i64 (x3.2.1+x4))::[])),())),x6.2.2))))))
(.done none))))))) (fun k =>
(Ad (idx x5.2 x2.1) (.done none) (fun _ =>
(Ad (idx x5.2 x2.1) (.done none) (fun x7 =>
(cnd ((decide (0<x7))&&(decide (x2.2.2.2.1<0)))
(k (x2.1,((x5.1.1,(x5.1.2.1,())),x5.2)))
(k (x2.2.2.2.1,((x5.1.1,(x5.1.2.1,())),x5.2))))))))))) (fun k =>
(cnd (decide (x2.1<(Aa x.2.2.2)))
(Ad (idx x.2.2.2 x2.1) (.done none) (fun x5 =>
(Ad (idx x2.2.2.2.2.2 x2.1) (.done none) (fun _ =>
(Ad (idx x2.2.2.2.2.2 x2.1) (.done none) (fun _ =>
(k ((x2.2.2.2.2.1.1,(x2.2.2.2.2.1.2.1,())),(A8 x2.2.2.2.2.2 x2.1 (Ct 0 (wr .i64 ((Bf (Ct 0 x5) x.1.2.2.2.2.2.2.2.2.2.2.1)-(wr .i64 (x3.2.1+x4))))))))))))))
(k ((x2.2.2.2.2.1.1,(x2.2.2.2.2.1.2.1,())),x2.2.2.2.2.2)))))))))
(.done (iter none (fun x3 =>
(cnd (decide (x3.1<(Aa x2.2.2.2.2.1.2.1)))
(cnd (decide (0<x2.2.2.1))
(Ad (idx x2.2.2.2.2.2 x3.1) (.done none) (fun x4 =>
(cnd (!(x2.2.2.1==0))
(Ad (idx x3.2.2.2.1 x3.1) (.done none) (fun _ =>
(Ad (idx x3.2.2.2.1 x3.1) (.done none) (fun x6 =>
(Ad (idx x3.2.2.2.1 x3.1) (.done none) (fun _ =>
(Ad (idx x3.2.2.2.1 x3.1) (.done none) (fun _ =>
(.next ((wr .i64 (x3.1+1)),((wr .i64 (x3.2.1-(EJ Go.IntKind.i64 (wr .i64 (x2.2.1*x4)) x2.2.2.1))),(x3.2.2.1,((A8 x3.2.2.2.1 x3.1 (wr .i64 (x6+(EJ Go.IntKind.i64 (wr .i64 (x2.2.1*x4)) x2.2.2.1)))),())))))))))))))
(.done none))))
(.next ((wr .i64 (x3.1+1)),(x3.2.1,(x3.2.2.1,(x3.2.2.2.1,()))))))
(.done (Ad (idx x3.2.2.2.1 (Ct 0 x2.2.2.2.1)) none (fun _ =>
(Ad (idx x3.2.2.2.1 (Ct 0 x2.2.2.2.1)) none (fun x5 =>
(Ad (idx x3.2.2.2.1 (Ct 0 x2.2.2.2.1)) none (fun _ =>
(Ad (idx x3.2.2.2.1 (Ct 0 x2.2.2.2.1)) none (fun _ =>
(some ((x3.2.2.1.1,(x3.2.2.1.2,(A8 x3.2.2.2.1 (Ct 0 x2.2.2.2.1) (wr .i64 (x5+x3.2.1))))),0))))))))))))) AA ((0:Int),(x2.2.1,(x2.2.2.2.2.1.1,(x2.2.2.2.2.1.2.1,())))))))) AA ((0:Int),((Bf (Ct x.2.1 x.1.2.2.2.2.2.2.2.2.2.1) x.1.2.2.2.2.2.2.2.2.2.2.1),((0:Int),((-1),((((Bf (Ct x.2.1 x.1.2.2.2.2.2.2.2.2.2.1) x.1.2.2.2.2.2.2.2.2.2.2.1),(FX (wr .i64 ((FX x.2.2.1 (Bf (Ct x.2.1 x.1.2.2.2.2.2.2.2.2.2.1) x.1.2.2.2.2.2.2.2.2.2.2.1))+(Bf (Ct x.2.1 x.1.2.2.2.2.2.2.2.2.2.1) x.1.2.2.2.2.2.2.2.2.2.2.1))) (Bf (Ct x.2.1 x.1.2.2.2.2.2.2.2.2.2.1) x.1.2.2.2.2.2.2.2.2.2.2.1))),([],())),(AQ (Aa x.1.2.2.2.2.1) (0:Int))))))))
 none)
 none)
 none))))
def BK (x:Int×Int):Int :=
((Bf (wr .i64 (x.1+1)) x.2))
def Em (x:BH):Option (BH×Bool) :=
(cnd ((decide (0≤(Bf 8192 (Aa x.2.2.1.1))))&&(decide ((Bf 8192 (Aa x.2.2.1.1))≤(Aa x.2.2.1.1))))
(Ad (Cg (x.2.1.2.2.2.2.2.1::((AF x.2.2.1.1 (Bf 8192 (Aa x.2.2.1.1)))::[]))) none (fun x1 =>
(Ad (Cz x1) none (fun x2 =>
(DM (fun x3 =>
(Ad (F9 (x3.2.1.2.2.2.2.1,x2.1)) none (fun x4 =>
(iter none (fun x5 =>
(cnd (decide (x5.2.1<(Aa x4.2.1)))
(Ad (idx x4.2.1 x5.2.1) (.done none) (fun x6 =>
(Ad (Du x6.2.2) (.done none) (fun x7 =>
(cnd (((x6.1==2)&&(x7.2==0))&&(x7.1.1==x5.2.2.1.1))
(Ad (EH (x5.2.2.1,x7.1.2)) (.done none) (fun x8 =>
(.next (true,((wr .i64 (x5.2.1+1)),(x5.2.2.1,(((x5.2.2.2.1.1.1,()),(x5.2.2.2.1.2.1,(x5.2.2.2.1.2.2.1,(x5.2.2.2.1.2.2.2.1,(x5.2.2.2.1.2.2.2.2.1,(x5.2.2.2.1.2.2.2.2.2.1,(x8.1,x5.2.2.2.1.2.2.2.2.2.2.2))))))),x5.2.2.2.2)))))))
(.next (x5.1,((wr .i64 (x5.2.1+1)),(x5.2.2.1,(((x5.2.2.2.1.1.1,()),x5.2.2.2.1.2),x5.2.2.2.2))))))))))
(.done (Ay (BK (x5.2.2.2.1.2.2.2.2.2.2.2.1,1048576)) (fun y =>
(cnd x5.1
(some ((x5.2.2.1,(((x5.2.2.2.1.1.1,()),(x5.2.2.2.1.2.1,(x5.2.2.2.1.2.2.1,(x5.2.2.2.1.2.2.2.1,(x5.2.2.2.1.2.2.2.2.1,(x5.2.2.2.1.2.2.2.2.2.1,(x5.2.2.2.1.2.2.2.2.2.2.1,(0,x5.2.2.2.1.2.2.2.2.2.2.2.2)))))))),x5.2.2.2.2)),x5.1))
(some ((x5.2.2.1,(((x5.2.2.2.1.1.1,()),(x5.2.2.2.1.2.1,(x5.2.2.2.1.2.2.1,(x5.2.2.2.1.2.2.2.1,(x5.2.2.2.1.2.2.2.2.1,(x5.2.2.2.1.2.2.2.2.2.1,(x5.2.2.2.1.2.2.2.2.2.2.1,(y,x5.2.2.2.1.2.2.2.2.2.2.2.2)))))))),x5.2.2.2.2)),x5.1)))))))) AA (false,((0:Int),(x3.1,(((x3.2.1.1.1,()),(x3.2.1.2.1,(x3.2.1.2.2.1,(x3.2.1.2.2.2.1,(x4.1,x3.2.1.2.2.2.2.2))))),x3.2.2)))))))) (fun k =>
(cnd ((decide (0≤x2.2.1))&&(decide ((wr .i64 ((Aa x1)-x2.2.1))≤2048)))
(cnd ((decide (0≤x2.2.1))&&(decide (x2.2.1≤(Aa x1))))
(Ad (EU (Bz x1 x2.2.1)) none (fun x3 =>
(k (x.1,(((x.2.1.1.1,()),(x.2.1.2.1,(x.2.1.2.2.1,(x.2.1.2.2.2.1,(x.2.1.2.2.2.2.1,(x3,x.2.1.2.2.2.2.2.2)))))),x.2.2)))))
 none)
(k (x.1,(((x.2.1.1.1,()),(x.2.1.2.1,(x.2.1.2.2.1,(x.2.1.2.2.2.1,(x.2.1.2.2.2.2.1,([],x.2.1.2.2.2.2.2.2)))))),x.2.2))))))))))
 none)
def CG (x:List Int×List Int):Option (Bool) :=
(cnd (!((Aa x.1)==(Aa x.2)))
(some false)
(iter none (fun x1 =>
(cnd (decide (x1<(Aa x.1)))
(Ad (idx x.1 x1) (.done none) (fun x2 =>
(Ad (idx x.2 x1) (.done none) (fun x3 =>
(cnd (!(x2==x3))
(.done (some false))
(.next (wr .i64 (x1+1))))))))
(.done (some true)))) AA (0:Int)))
def HC (x:AB×AB):Option (Bool) :=
(cnd ((x.1.1==x.2.1)&&(x.1.2.1==x.2.2.1))
(Ad (CG (x.1.2.2,x.2.2.2)) none (fun x1 =>
(some x1)))
(some false))
def CC (x:Ez×Int):Option (Int) :=
(iter none (fun x1 =>
(cnd (decide (x1.2<(Aa x.1.2.1)))
(Ad (idx x.1.2.1 x1.2) (.done none) (fun x2 =>
(cnd (decide (8≤(Aa x2)))
(Ad (Ch (AF x2 8)) (.done none) (fun x3 =>
(cnd (decide (56≤(Aa x2)))
(Ad (Ch (Bz x2 56)) (.done none) (fun x4 =>
(iter (.done none) (fun x5 =>
(cnd (decide (x5.2<(Aa (x3::(x4::[])))))
(Ad (idx (x3::(x4::[])) x5.2) (.done (.done none)) (fun x6 =>
(cnd (decide (x6<4611686018427387904))
(.next ((Ct x5.1 (wr .i64 x6)),(wr .i64 (x5.2+1))))
(.next (x5.1,(wr .i64 (x5.2+1)))))))
(.done (.next (x5.1,(wr .i64 (x1.2+1))))))) AA (x1.1,(0:Int)))))
(.done none))))
(.done none))))
(.done (iter none (fun x2 =>
(iter (.done none) (fun x3 =>
(cnd (decide (x3<(Aa x.1.2.1)))
(Ad (idx x.1.2.1 x3) (.done (.done none)) (fun x4 =>
(Ad (idx x4 56) (.done (.done none)) (fun x5 =>
(cnd (x5==(wr .u8 x2))
(.done (.next (wr .i64 (x2+1))))
(.next (wr .i64 (x3+1))))))))
(.done (.done (some x2))))) AA (0:Int))) AA (wr .i64 (x1.1+(1:Int))))))) AA (x.2,(0:Int)))
def Hj (x:A6×Int×List AB):Option (List CU×Int) :=
(Ay (Cc (x.1.1,())) (fun y =>
(cnd (!(y.2==0))
(cnd (!(y.2==0))
(some ([],y.2))
(cnd (decide (3<x.2.1))
(some ([],2))
 none))
(cnd (decide (y.1<2))
(some ([],190))
(iter none (fun x1 =>
(cnd (decide (x1.1<(EJ Go.IntKind.i64 y.1 2)))
(Ad (B4 ((x.1.1,()),(wr .i64 ((wr .i64 (0*(EJ Go.IntKind.i64 y.1 2)))+x1.1)))) (.done none) (fun x2 =>
(cnd (true&&(AN ((Aa x1.2.2.1)+(Aa (x2.1::[]))) 24))
(.next ((wr .i64 (x1.1+1)),(x1.2.1,((x1.2.2.1++(x2.1::[])),x1.2.2.2))))
(.done none))))
(.done (Ad (Bd x1.2) none (fun x2 =>
(iter none (fun x3 =>
(cnd (decide (x3.1<(EJ Go.IntKind.i64 y.1 2)))
(Ad (B4 ((x.1.1,()),(wr .i64 ((wr .i64 (1*(EJ Go.IntKind.i64 y.1 2)))+x3.1)))) (.done none) (fun x4 =>
(cnd (true&&(AN ((Aa x3.2.2.1)+(Aa (x4.1::[]))) 24))
(.next ((wr .i64 (x3.1+1)),(x3.2.1,((x3.2.2.1++(x4.1::[])),x3.2.2.2))))
(.done none))))
(.done (Ad (Bd x3.2) none (fun x4 =>
(cnd (decide (3<x.2.1))
(some ([],2))
(Ad (BP ((1,x.2),(Aa x2.2.1))) none (fun x5 =>
(cnd (!(x5.2==0))
(some ([],x5.2))
(cnd (x2.2.2&&(!(x4.2.2&&(decide (x2.1.1<x4.1.1)))))
(Ad (CC (x4,x2.1.1)) none (fun x6 =>
(cnd (decide (4611686018427387904≤x6))
(some ([],190))
(Ad (BP ((x6,x.2),(Aa x2.2.1))) none (fun x7 =>
(iter none (fun x8 =>
(cnd (decide (x8.2<(Aa x7.1)))
(Ad (idx x7.1 x8.2) (.done none) (fun x9 =>
(cnd (true&&(AN ((Aa x8.1)+(Aa (((wr .i64 ((wr .i64 (1*(Aa x2.2.1)))+x8.2)),x9)::[]))) 32))
(.next ((x8.1++(((wr .i64 ((wr .i64 (1*(Aa x2.2.1)))+x8.2)),x9)::[])),(wr .i64 (x8.2+1))))
(.done none))))
(.done (some (x8.1,x7.2))))) AA ([],(0:Int))))))))
(cnd x4.2.2
(Ad (CC (x2,x4.1.1)) none (fun x6 =>
(cnd (decide (4611686018427387904≤x6))
(some ([],190))
(Ad (BP ((x6,x.2),(Aa x2.2.1))) none (fun x7 =>
(iter none (fun x8 =>
(cnd (decide (x8.2<(Aa x7.1)))
(Ad (idx x7.1 x8.2) (.done none) (fun x9 =>
(cnd (true&&(AN ((Aa x8.1)+(Aa (((wr .i64 ((wr .i64 (0*(Aa x2.2.1)))+x8.2)),x9)::[]))) 32))
(.next ((x8.1++(((wr .i64 ((wr .i64 (0*(Aa x2.2.1)))+x8.2)),x9)::[])),(wr .i64 (x8.2+1))))
(.done none))))
(.done (some (x8.1,x7.2))))) AA ([],(0:Int))))))))
(Ad (CC (x2,0)) none (fun x6 =>
(cnd (decide (4611686018427387904≤x6))
(some ([],190))
(Ad (BP ((x6,x.2),(Aa x2.2.1))) none (fun x7 =>
(iter none (fun x8 =>
(cnd (decide (x8.2<(Aa x7.1)))
(Ad (idx x7.1 x8.2) (.done none) (fun x9 =>
(cnd (true&&(AN ((Aa x8.1)+(Aa (((wr .i64 ((wr .i64 (0*(Aa x2.2.1)))+x8.2)),x9)::[]))) 32))
(.next ((x8.1++(((wr .i64 ((wr .i64 (0*(Aa x2.2.1)))+x8.2)),x9)::[])),(wr .i64 (x8.2+1))))
(.done none))))
(.done (some (x8.1,x7.2))))) AA ([],(0:Int))))))))))))))))))) AA ((0:Int),(((0:Int),((0:Int),[])),([],false))))))))) AA ((0:Int),(((0:Int),((0:Int),[])),([],false))))))))
def Df (x:BH):Option (BH) :=
(Ad (D9 (x.2.1.1.1,())) none (fun x1 =>
(cnd (((x1.2==0)&&(x1.1.2.1==x.2.1.2.2.1.1))&&((Aa x1.1.2.2)==1))
(Ad (idx x1.1.2.2 0) none (fun x2 =>
(Ad (HC (x2,x.2.1.2.2.2.2.2.2.1)) none (fun x3 =>
(cnd x3
(some (x.1,(((x.2.1.1.1,()),x.2.1.2),x.2.2)))
(Ad (Hj ((x.2.1.1.1,()),(x.2.1.2.2.1.1,(x.2.1.2.2.2.2.2.2.1::[])))) none (fun x4 =>
(some (x.1,(((x.2.1.1.1,()),x.2.1.2),(x.2.2.1,(x4.1,x.2.2.2.2))))))))))))
(Ad (Hj ((x.2.1.1.1,()),(x.2.1.2.2.1.1,(x.2.1.2.2.2.2.2.2.1::[])))) none (fun x2 =>
(some (x.1,(((x.2.1.1.1,()),x.2.1.2),(x.2.2.1,(x2.1,x.2.2.2.2))))))))))
def G1 (x:A6×List CU×Int×Int):Option (A6×Int) :=
(Ay (CD (x.1.1,())) (fun y =>
(cnd (!(y==0))
(cnd (!(y==0))
(some (([],()),y))
(some (([],()),y)))
(iter none (fun x1 =>
(cnd (decide (x1.1<(Aa x.2.1)))
(Ad (idx x.2.1 x1.1) (.done none) (fun x2 =>
(Ay (Fl ((x.1.1,()),x2.1)) (fun y1 =>
(cnd (!(y1==0))
(.done (cnd (!(y1==0))
(some (([],()),y1))
(some ((x1.2.1.1,()),y1))))
(cnd (!((Aa x2.2)==64))
(.done (some (([],()),8)))
(.next ((wr .i64 (x1.1+1)),((x1.2.1.1,()),y1)))))))))
(.done (cnd ((((decide (x.2.2.1<0))||(decide ((Aa x.2.1)<x.2.2.1)))||(decide (x.2.2.2<0)))||(decide (64<x.2.2.2)))
(some (([],()),2))
(Ad (CL x.1.1) none (fun x2 =>
(iter none (fun x3 =>
(cnd (decide (x3.1<(Aa x.2.1)))
(Ad (idx x.2.1 x3.1) (.done none) (fun x4 =>
(cnd (decide (x3.1<x.2.2.1))
(Ad (P8 ((Aa x3.2.1),x4.1)) (.done none) (fun x5 =>
(.next ((wr .i64 (x3.1+1)),((GJ x3.2.1 x5.1 x5.2 x4.2),())))))
(cnd (x3.1==x.2.2.1)
(Ad (P8 ((Aa x3.2.1),x4.1)) (.done none) (fun x5 =>
(cnd ((decide (0≤x.2.2.2))&&(decide (x.2.2.2≤(Aa x4.2))))
(.next ((wr .i64 (x3.1+1)),((GJ x3.2.1 x5.1 x5.2 (AF x4.2 x.2.2.2)),())))
(.done none))))
(.next ((wr .i64 (x3.1+1)),(x3.2.1,())))))))
(.done (cnd (!(x1.2.2==0))
(some (([],()),x1.2.2))
(some ((x3.2.1,()),x1.2.2)))))) AA (0,(x2,()))))))))) AA (0,(([],()),y))))))
def EL (x:List Int×Int):Option (List Int):=match x.1 with
 |v::[]=>if 1≤x.2∧x.2≤1000000 then some (AQ x.2 v) else none
 |_=>none
theorem rC {l:List Int} {k:Int} {y:List Int} (h:EL (l,k)=some y):∃v,l=v::[]∧1≤k∧k≤1000000∧y=AQ k v:=by
 unfold EL at h
 split at h
 ·rename_i v hv
  split at h
  ·rename_i hc
   cases h
   exact ⟨v,hv,hc.1,hc.2,rfl⟩
  ·cases h
 ·cases h
def CK (x:BH):Option (BH×List Int) :=
(Ad (EL ((4::[]),(Aa x.1.2.1))) none (fun x1 =>
(some ((x.1,(((x.2.1.1.1,()),x.2.1.2),x.2.2)),x1))))
def HK (x:AE):Option (List Int) :=
(cnd ((decide (0≤(Aa x.1)))&&((decide ((Aa x.1)≤(Aa x.1)))&&(Dw (Aa x.1) 1)))
(iter none (fun x1 =>
(cnd (decide (x1.1<(Aa x.1)))
(Ad (idx x.1 x1.1) (.done none) (fun x2 =>
(Ad (idx x1.2 x1.1) (.done none) (fun _ =>
(Ad (idx x1.2 x1.1) (.done none) (fun _ =>
(.next ((wr .i64 (x1.1+1)),(A8 x1.2 x1.1 x2.1)))))))))
(.done (some x1.2)))) AA ((0:Int),(AQ (Aa x.1) (0:Int))))
 none)
def D5 (x:List Int):Option (Bool) :=
(iter none (fun x1 =>
(cnd (decide (x1<(Aa x)))
(Ad (idx x x1) (.done none) (fun x2 =>
(cnd (!(x2==4))
(.done (some (!(decide (0≤x1)))))
(.next (wr .i64 (x1+1))))))
(.done (some true)))) AA (0:Int))
def CY (x:Int):Bool :=
((x==1))
def Ew (x:Ae×List Int):Option (Bool) :=
(iter none (fun x1 =>
(cnd (decide (x1<(Aa x.2)))
(Ad (idx x.2 x1) (.done none) (fun x2 =>
(Ay (CY x2) (fun y =>
(cnd y
(.next (wr .i64 (x1+1)))
(iter (.done none) (fun x3 =>
(cnd (decide (x3<x1))
(Ad (idx x.2 x3) (.done (.done none)) (fun x4 =>
(Ay (CY x4) (fun y1 =>
(cnd (!y1)
(Ad (CR (x.1,(x1,x3))) (.done (.done none)) (fun x5 =>
(cnd x5
(.done (.done (some true)))
(.next (wr .i64 (x3+1))))))
(.next (wr .i64 (x3+1))))))))
(.done (.next (wr .i64 (x1+1)))))) AA (0:Int)))))))
(.done (some false)))) AA (0:Int))
def JA (x:Ae×AE):Option (Bool) :=
(Ad (HK x.2) none (fun x1 =>
(cnd ((((Aa x1)==(Aa x.1.2.1))&&(decide (0≤x.2.2.1)))&&(decide (x.2.2.1≤1048576)))
(Ad (D5 x1) none (fun x2 =>
(cnd x2
(some true)
(Ad (Ew (x.1,x1)) none (fun x3 =>
(some (!x3)))))))
(some false))))
def B9 (x:List Int×Int):Option (Int) :=
(iter none (fun x1 =>
(cnd (decide (x1<(Aa x.1)))
(Ad (idx x.1 x1) (.done none) (fun x2 =>
(cnd (x.2==x2)
(.done (some x1))
(.next (wr .i64 (x1+1))))))
(.done (some (-1))))) AA (0:Int))
def BO (x:List Int×Int):Option (Bool) :=
(Ad (B9 x) none (fun x1 =>
(some (decide (0≤x1)))))
def CJ (x:Int):Int :=
((Bf (Ct x 0) 1048576))
def F8 (x:Int):Bool :=
(((decide (1≤x))&&(decide (x≤3))))
def Fz (x:Int×Int):Bool :=
(((((x.1==1)&&((x.2==2)&&true))||((x.1==2)&&((x.2==3)&&true)))||((x.1==3)&&((x.2==1)&&true))))
def Qs (x:Co×A9×Int):Option (Int) :=
(Ay (CJ x.2.1.2.1) (fun y =>
(Ay (F8 x.2.1.1) (fun y1 =>
(cnd (!y1)
(some 2)
(Ay (F8 x.2.2) (fun y2 =>
(cnd (!y2)
(some 2)
(cnd ((!(x.2.2==x.2.1.1))&&(!(Fz (x.2.1.1,x.2.2))))
(some 2)
(cnd (((x.2.1.1==2)&&(x.2.2==3))&&(decide (y<x.1.2.1)))
(some 5)
(cnd ((x.2.1.1==3)&&((x.2.2==3)==(decide (x.1.2.2≤y))))
(some 6)
(some 0))))))))))))
def De (x:Co×A9×Int):Int :=
(Ay (CJ x.2.1.2.1) (fun y =>
(Ay (F8 x.2.1.1) (fun y1 =>
(cnd (!y1)
(2)
(Ay (F8 x.2.2) (fun y2 =>
(cnd (!y2)
(2)
(cnd ((!(x.2.2==x.2.1.1))&&(!(Fz (x.2.1.1,x.2.2))))
(2)
(cnd (((x.2.1.1==2)&&(x.2.2==3))&&(decide (y<x.1.2.1)))
(5)
(cnd ((x.2.1.1==3)&&((x.2.2==3)==(decide (x.1.2.2≤y))))
(6)
(0))))))))))))
theorem wK (x:Co×A9×Int):Qs x=some (De x):=by
 unfold Qs De
 simp only[Ay,DP]
def FC (x:Ae×AE×List Int):Option (Bool) :=
(iter none (fun x1 =>
(cnd (decide (x1<(Aa x.2.1.1)))
(Ad (idx x.2.1.1 x1) (.done none) (fun x2 =>
(Ad (idx x.2.2 x1) (.done none) (fun x3 =>
(cnd ((!(x3==2))||(x2.1==2))
(.next (wr .i64 (x1+1)))
(iter (.done none) (fun x4 =>
(cnd (decide (x4<(Aa x.2.1.1)))
(Ad (idx x.2.1.1 x4) (.done (.done none)) (fun x5 =>
(Ad (CR (x.1,(x4,x1))) (.done (.done none)) (fun x6 =>
(cnd x6
(Ad (C9 (x.1,(x4,x1))) (.done (.done none)) (fun x7 =>
(cnd (decide (x5.2.2<x7))
(.done (.done (some true)))
(.next (wr .i64 (x4+1))))))
(.next (wr .i64 (x4+1))))))))
(.done (.next (wr .i64 (x1+1)))))) AA (0:Int)))))))
(.done (some false)))) AA (0:Int))
def HI (x:Ae×AE×List Int):Option (Int) :=
(cnd (!((Aa x.2.2)==(Aa x.1.2.1)))
(some 1)
(Ad (D5 x.2.2) none (fun x1 =>
(cnd x1
(some 0)
(Ad (BO (x.2.2,4)) none (fun x2 =>
(cnd x2
(some 7)
(DM (fun x3 =>
(cnd x3
(some 8)
(iter none (fun x4 =>
(cnd (decide (x4<(Aa x.2.1.1)))
(Ad (idx x.2.1.1 x4) (.done none) (fun x5 =>
(Ad (idx x.1.2.1 x4) (.done none) (fun x6 =>
(Ad (idx x.2.2 x4) (.done none) (fun x7 =>
(Ay (De (x6,(x5,x7))) (fun y =>
(cnd ((!(y==0))&&(!x.2.1.2.2))
(.done (some y))
(.next (wr .i64 (x4+1))))))))))))
(.done (Ad (Ew (x.1,x.2.2)) none (fun x5 =>
(cnd x5
(some 3)
(Ad (FC x) none (fun x6 =>
(cnd x6
(some 4)
(some 0)))))))))) AA (0:Int)))) (fun k =>
(cnd (x.2.1.2.2||(decide (0<x.2.1.2.1)))
(iter none (fun x3 =>
(cnd (decide (x3<(Aa x.2.2)))
(Ad (idx x.2.2 x3) (.done none) (fun x4 =>
(Ay (CY x4) (fun y =>
(cnd (!y)
(.done (k (decide (0≤x3))))
(.next (wr .i64 (x3+1))))))))
(.done (k false)))) AA (0:Int))
(k false)))))))))))
def Fu (x:List A9):Option (List A9) :=
(cnd (true&&(AN (0+(Aa x)) 24))
(some ([]++x))
 none)
def OR (x:Int):Option (Int) :=
(Ay (CJ x) (fun y =>
(Ay (CJ (wr .i64 (y+1))) (fun y1 =>
(some y1)))))
def H2 (x:Int):Int :=
(Ay (CJ x) (fun y =>
(Ay (CJ (wr .i64 (y+1))) (fun y1 =>
(y1)))))
theorem pZ (x:Int):OR x=some (H2 x):=by
 unfold OR H2
 simp only[Ay]
def OM (x:Co×A9×Int):Option (A9) :=
(Ay (H2 x.2.1.2.2) (fun y =>
(cnd (x.2.2==x.2.1.1)
(Ay (H2 x.2.1.2.1) (fun y1 =>
(cnd (x.2.2==2)
(some (x.2.2,(y1,0)))
(some (x.2.2,(y1,y))))))
(cnd (x.2.2==2)
(some (x.2.2,(1,0)))
(some (x.2.2,(1,y)))))))
def H0 (x:Co×A9×Int):A9 :=
(Ay (H2 x.2.1.2.2) (fun y =>
(cnd (x.2.2==x.2.1.1)
(Ay (H2 x.2.1.2.1) (fun y1 =>
(cnd (x.2.2==2)
((x.2.2,(y1,0)))
((x.2.2,(y1,y))))))
(cnd (x.2.2==2)
((x.2.2,(1,0)))
((x.2.2,(1,y)))))))
theorem pK (x:Co×A9×Int):OM x=some (H0 x):=by
 unfold OM H0
 simp only[Ay,DP]
def GQ (x:Ae×AE×List Int):Option (AE) :=
(Ad (Fu x.2.1.1) none (fun x1 =>
(Ad (D5 x.2.2) none (fun x2 =>
(iter none (fun x3 =>
(cnd (decide (x3.1<(Aa x1)))
(Ad (idx x3.2 x3.1) (.done none) (fun _ =>
(Ad (idx x3.2 x3.1) (.done none) (fun x5 =>
(Ad (idx x.1.2.1 x3.1) (.done none) (fun x6 =>
(Ad (idx x.2.2 x3.1) (.done none) (fun x7 =>
(Ay (H0 (x6,(x5,x7))) (fun y =>
(Ad (idx x3.2 x3.1) (.done none) (fun _ =>
(Ad (idx x3.2 x3.1) (.done none) (fun _ =>
(.next ((wr .i64 (x3.1+1)),(A8 x3.2 x3.1 y)))))))))))))))))
(.done (cnd x2
(Ad (B0 x.1) none (fun x4 =>
(some (x3.2,(x4,x2)))))
(cnd x.2.1.2.2
(Ad (B0 x.1) none (fun x4 =>
(some (x3.2,((Ct 0 (wr .i64 (x4-1))),x2)))))
(some (x3.2,((Ct 0 (wr .i64 (x.2.1.2.1-1))),x2)))))))) AA ((0:Int),x1))))))
def D4 (x:Ae×AE×List Int):Option (AE×Int×Int) :=
(Ad (Aw x.1) none (fun x1 =>
(cnd (!(x1==0))
(some (([],(0,false)),(0,x1)))
(Ad (JA (x.1,x.2.1)) none (fun x2 =>
(cnd (!x2)
(some (([],(0,false)),(0,8)))
(Ad (HI x) none (fun x3 =>
(cnd (!(x3==0))
(Ad (Fu x.2.1.1) none (fun x4 =>
(some ((x4,x.2.1.2),(x3,0)))))
(Ad (GQ x) none (fun x4 =>
(some (x4,(0,0))))))))))))))
def En (x:BH):Option (BH) :=
(DM (fun x1 =>
(Ad (G1 ((x.2.1.1.1,()),(x.2.2.2.1,((Bf (Ct 0 x.2.2.1.2.2.2.2.1) (Aa x.2.2.2.1)),x1)))) none (fun x2 =>
(Ad (EZ (x.1,(x2.1.1,()))) none (fun x3 =>
(Ad (CK (x.1,(((x3.1.1,()),x3.2),x.2.2))) none (fun x4 =>
(Ad (D4 (x4.1.1,(x.2.1.2.1,x4.2))) none (fun x5 =>
(Ay (BK (x.2.1.2.2.2.2.2.2.2.2.2.2.2.2.2.1,1073741824)) (fun y =>
(some (x4.1.1,(((x4.1.2.1.1.1,()),(x5.1,(x4.1.2.1.2.2.1,(x4.1.2.1.2.2.2.1,(x4.1.2.1.2.2.2.2.1,(x4.1.2.1.2.2.2.2.2.1,(x4.1.2.1.2.2.2.2.2.2.1,(x4.1.2.1.2.2.2.2.2.2.2.1,(x4.1.2.1.2.2.2.2.2.2.2.2.1,(x4.1.2.1.2.2.2.2.2.2.2.2.2.1,(x4.1.2.1.2.2.2.2.2.2.2.2.2.2.1,(x4.1.2.1.2.2.2.2.2.2.2.2.2.2.2.1,(x4.1.2.1.2.2.2.2.2.2.2.2.2.2.2.2.1,(y,(x4.1.2.1.2.2.2.2.2.2.2.2.2.2.2.2.2.2.1,(x4.1.2.1.2.2.2.2.2.2.2.2.2.2.2.2.2.2.2.1,(x4.1.2.1.2.2.2.2.2.2.2.2.2.2.2.2.2.2.2.2.1,x.2.1.2.2.2.2.2.2.2.2.2.2.2.2.2.2.2.2.2))))))))))))))))),(x4.1.2.2.1,(x4.1.2.2.2.1,(x4.1.2.2.2.2.1,(x4.1.2.2.2.2.2.1,(x4.2,x4.1.2.2.2.2.2.2.2))))))))))))))))))) (fun k =>
(cnd ((Bf (Ct 0 x.2.2.1.2.2.2.2.1) (Aa x.2.2.2.1))==(Aa x.2.2.2.1))
(k 0)
(k (Bf (Ct 0 x.2.2.1.2.2.2.2.2.1) 63)))))
def FL (x:List BB):Option (List BB) :=
(cnd (true&&(AN (0+(Aa x)) 16))
(some ([]++x))
 none)
def Gg (x:List Bi):Option (List Bi) :=
(cnd (true&&(AN (0+(Aa x)) 40))
(some ([]++x))
 none)
def Cn (x:(Bool×Bool×Int)×Bool×Int):(Bool×Bool×Int)×Int :=
 if x.1.2.2<0∨1048576<x.1.2.2 then ((false,false,0),8)
 else if x.2.2<1∨1048576<x.2.2 then ((false,false,0),2)
 else
  let s:=Bf ((if x.2.1=x.1.2.1 then x.1.2.2 else 0)+1) 1048576
  ((if x.2.2≤s then x.2.1 else x.1.1,x.2.1,s),0)
def OL (x:Bi):Option (Int) :=
(cnd (((decide ((Bf (Bf x.2.1 x.2.2.1) x.2.2.2.1)<0))||(decide (1048576<(Ct x.2.1 x.2.2.1))))||(decide (1073741824<x.2.2.2.1)))
(some 8)
(cnd (x.1&&(!(x.2.2.1==0)))
(some 8)
(cnd ((!x.1)&&(!(x.2.1==0)))
(some 8)
(cnd (!(x.1==((Ai Go.BinOp.and Go.IntKind.u64 x.2.2.2.2 1)==1)))
(some 8)
(some 0)))))
def Ej (x:Bi):Int :=
(cnd (((decide ((Bf (Bf x.2.1 x.2.2.1) x.2.2.2.1)<0))||(decide (1048576<(Ct x.2.1 x.2.2.1))))||(decide (1073741824<x.2.2.2.1)))
(8)
(cnd (x.1&&(!(x.2.2.1==0)))
(8)
(cnd ((!x.1)&&(!(x.2.1==0)))
(8)
(cnd (!(x.1==((Ai Go.BinOp.and Go.IntKind.u64 x.2.2.2.2 1)==1)))
(8)
(0)))))
theorem o9 (x:Bi):OL x=some (Ej x):=by
 unfold OL Ej
 simp only[DP]
def Qo (x:Bi×Bool):Option (Bi×Int) :=
(Ay (Ej x.1) (fun y =>
(cnd (!(y==0))
(some ((false,(0,(0,(0,0)))),y))
(cnd (!x.2)
(some ((false,(0,((Bf (wr .i64 (x.1.2.2.1+1)) 1048576),(x.1.2.2.2.1,(Bc Go.IntKind.u64 x.1.2.2.2.2 1))))),0))
(cnd (!x.1.1)
(some ((true,((Bf (wr .i64 (x.1.2.1+1)) 1048576),(0,((Bf (wr .i64 (x.1.2.2.2.1+1)) 1073741824),(Ai Go.BinOp.or Go.IntKind.u64 (Bc Go.IntKind.u64 x.1.2.2.2.2 1) 1))))),0))
(some ((true,((Bf (wr .i64 (x.1.2.1+1)) 1048576),(0,(x.1.2.2.2.1,(Ai Go.BinOp.or Go.IntKind.u64 (Bc Go.IntKind.u64 x.1.2.2.2.2 1) 1))))),0)))))))
def Gv (x:Bi×Bool):Bi×Int :=
(Ay (Ej x.1) (fun y =>
(cnd (!(y==0))
(((false,(0,(0,(0,0)))),y))
(cnd (!x.2)
(((false,(0,((Bf (wr .i64 (x.1.2.2.1+1)) 1048576),(x.1.2.2.2.1,(Bc Go.IntKind.u64 x.1.2.2.2.2 1))))),0))
(cnd (!x.1.1)
(((true,((Bf (wr .i64 (x.1.2.1+1)) 1048576),(0,((Bf (wr .i64 (x.1.2.2.2.1+1)) 1073741824),(Ai Go.BinOp.or Go.IntKind.u64 (Bc Go.IntKind.u64 x.1.2.2.2.2 1) 1))))),0))
(((true,((Bf (wr .i64 (x.1.2.1+1)) 1048576),(0,(x.1.2.2.2.1,(Ai Go.BinOp.or Go.IntKind.u64 (Bc Go.IntKind.u64 x.1.2.2.2.2 1) 1))))),0)))))))
theorem vV (x:Bi×Bool):Qo x=some (Gv x):=by
 unfold Qo Gv
 simp only[Ay,DP]
def Ff (x:AH):Bool :=
((((decide (0≤(Bf x.2.1 x.2.2.2.2)))&&(decide ((Ct x.2.1 x.2.2.2.2)≤1048576)))&&(x.2.2.2.1||(x.2.2.2.2==0))))
def F7 (x:Ae×List AH):Option (Int) :=
(Ad (Aw x.1) none (fun x1 =>
(cnd (!(x1==0))
(some x1)
(cnd (!((Aa x.2)==(Aa x.1.2.2.2.2.2.1)))
(some 4)
(iter none (fun x2 =>
(cnd (decide (x2<(Aa x.2)))
(Ad (idx x.2 x2) (.done none) (fun x3 =>
(Ay (Ff x3) (fun y =>
(cnd (!y)
(.done (some 8))
(.next (wr .i64 (x2+1))))))))
(.done (some 0)))) AA (0:Int))))))
def IZ (x:Int):Option (Int) :=
(some (Ai Go.BinOp.and Go.IntKind.i64 (wr .i64 (wr .u64 ((wr .u64 ((wr .u64 ((Ai Go.BinOp.and Go.IntKind.u64 (wr .u64 ((Av Go.IntKind.u64 (wr .u64 ((Ai Go.BinOp.and Go.IntKind.u64 (Av Go.IntKind.u64 (wr .u64 ((Ai Go.BinOp.and Go.IntKind.u64 (Av Go.IntKind.u64 x 1) 6148914691236517205)+(Ai Go.BinOp.and Go.IntKind.u64 x 6148914691236517205))) 2) 3689348814741910323)+(Ai Go.BinOp.and Go.IntKind.u64 (wr .u64 ((Ai Go.BinOp.and Go.IntKind.u64 (Av Go.IntKind.u64 x 1) 6148914691236517205)+(Ai Go.BinOp.and Go.IntKind.u64 x 6148914691236517205))) 3689348814741910323))) 4)+(wr .u64 ((Ai Go.BinOp.and Go.IntKind.u64 (Av Go.IntKind.u64 (wr .u64 ((Ai Go.BinOp.and Go.IntKind.u64 (Av Go.IntKind.u64 x 1) 6148914691236517205)+(Ai Go.BinOp.and Go.IntKind.u64 x 6148914691236517205))) 2) 3689348814741910323)+(Ai Go.BinOp.and Go.IntKind.u64 (wr .u64 ((Ai Go.BinOp.and Go.IntKind.u64 (Av Go.IntKind.u64 x 1) 6148914691236517205)+(Ai Go.BinOp.and Go.IntKind.u64 x 6148914691236517205))) 3689348814741910323))))) 1085102592571150095)+(Av Go.IntKind.u64 (Ai Go.BinOp.and Go.IntKind.u64 (wr .u64 ((Av Go.IntKind.u64 (wr .u64 ((Ai Go.BinOp.and Go.IntKind.u64 (Av Go.IntKind.u64 (wr .u64 ((Ai Go.BinOp.and Go.IntKind.u64 (Av Go.IntKind.u64 x 1) 6148914691236517205)+(Ai Go.BinOp.and Go.IntKind.u64 x 6148914691236517205))) 2) 3689348814741910323)+(Ai Go.BinOp.and Go.IntKind.u64 (wr .u64 ((Ai Go.BinOp.and Go.IntKind.u64 (Av Go.IntKind.u64 x 1) 6148914691236517205)+(Ai Go.BinOp.and Go.IntKind.u64 x 6148914691236517205))) 3689348814741910323))) 4)+(wr .u64 ((Ai Go.BinOp.and Go.IntKind.u64 (Av Go.IntKind.u64 (wr .u64 ((Ai Go.BinOp.and Go.IntKind.u64 (Av Go.IntKind.u64 x 1) 6148914691236517205)+(Ai Go.BinOp.and Go.IntKind.u64 x 6148914691236517205))) 2) 3689348814741910323)+(Ai Go.BinOp.and Go.IntKind.u64 (wr .u64 ((Ai Go.BinOp.and Go.IntKind.u64 (Av Go.IntKind.u64 x 1) 6148914691236517205)+(Ai Go.BinOp.and Go.IntKind.u64 x 6148914691236517205))) 3689348814741910323))))) 1085102592571150095) 8)))+(Av Go.IntKind.u64 (wr .u64 ((Ai Go.BinOp.and Go.IntKind.u64 (wr .u64 ((Av Go.IntKind.u64 (wr .u64 ((Ai Go.BinOp.and Go.IntKind.u64 (Av Go.IntKind.u64 (wr .u64 ((Ai Go.BinOp.and Go.IntKind.u64 (Av Go.IntKind.u64 x 1) 6148914691236517205)+(Ai Go.BinOp.and Go.IntKind.u64 x 6148914691236517205))) 2) 3689348814741910323)+(Ai Go.BinOp.and Go.IntKind.u64 (wr .u64 ((Ai Go.BinOp.and Go.IntKind.u64 (Av Go.IntKind.u64 x 1) 6148914691236517205)+(Ai Go.BinOp.and Go.IntKind.u64 x 6148914691236517205))) 3689348814741910323))) 4)+(wr .u64 ((Ai Go.BinOp.and Go.IntKind.u64 (Av Go.IntKind.u64 (wr .u64 ((Ai Go.BinOp.and Go.IntKind.u64 (Av Go.IntKind.u64 x 1) 6148914691236517205)+(Ai Go.BinOp.and Go.IntKind.u64 x 6148914691236517205))) 2) 3689348814741910323)+(Ai Go.BinOp.and Go.IntKind.u64 (wr .u64 ((Ai Go.BinOp.and Go.IntKind.u64 (Av Go.IntKind.u64 x 1) 6148914691236517205)+(Ai Go.BinOp.and Go.IntKind.u64 x 6148914691236517205))) 3689348814741910323))))) 1085102592571150095)+(Av Go.IntKind.u64 (Ai Go.BinOp.and Go.IntKind.u64 (wr .u64 ((Av Go.IntKind.u64 (wr .u64 ((Ai Go.BinOp.and Go.IntKind.u64 (Av Go.IntKind.u64 (wr .u64 ((Ai Go.BinOp.and Go.IntKind.u64 (Av Go.IntKind.u64 x 1) 6148914691236517205)+(Ai Go.BinOp.and Go.IntKind.u64 x 6148914691236517205))) 2) 3689348814741910323)+(Ai Go.BinOp.and Go.IntKind.u64 (wr .u64 ((Ai Go.BinOp.and Go.IntKind.u64 (Av Go.IntKind.u64 x 1) 6148914691236517205)+(Ai Go.BinOp.and Go.IntKind.u64 x 6148914691236517205))) 3689348814741910323))) 4)+(wr .u64 ((Ai Go.BinOp.and Go.IntKind.u64 (Av Go.IntKind.u64 (wr .u64 ((Ai Go.BinOp.and Go.IntKind.u64 (Av Go.IntKind.u64 x 1) 6148914691236517205)+(Ai Go.BinOp.and Go.IntKind.u64 x 6148914691236517205))) 2) 3689348814741910323)+(Ai Go.BinOp.and Go.IntKind.u64 (wr .u64 ((Ai Go.BinOp.and Go.IntKind.u64 (Av Go.IntKind.u64 x 1) 6148914691236517205)+(Ai Go.BinOp.and Go.IntKind.u64 x 6148914691236517205))) 3689348814741910323))))) 1085102592571150095) 8))) 16)))+(Av Go.IntKind.u64 (wr .u64 ((wr .u64 ((Ai Go.BinOp.and Go.IntKind.u64 (wr .u64 ((Av Go.IntKind.u64 (wr .u64 ((Ai Go.BinOp.and Go.IntKind.u64 (Av Go.IntKind.u64 (wr .u64 ((Ai Go.BinOp.and Go.IntKind.u64 (Av Go.IntKind.u64 x 1) 6148914691236517205)+(Ai Go.BinOp.and Go.IntKind.u64 x 6148914691236517205))) 2) 3689348814741910323)+(Ai Go.BinOp.and Go.IntKind.u64 (wr .u64 ((Ai Go.BinOp.and Go.IntKind.u64 (Av Go.IntKind.u64 x 1) 6148914691236517205)+(Ai Go.BinOp.and Go.IntKind.u64 x 6148914691236517205))) 3689348814741910323))) 4)+(wr .u64 ((Ai Go.BinOp.and Go.IntKind.u64 (Av Go.IntKind.u64 (wr .u64 ((Ai Go.BinOp.and Go.IntKind.u64 (Av Go.IntKind.u64 x 1) 6148914691236517205)+(Ai Go.BinOp.and Go.IntKind.u64 x 6148914691236517205))) 2) 3689348814741910323)+(Ai Go.BinOp.and Go.IntKind.u64 (wr .u64 ((Ai Go.BinOp.and Go.IntKind.u64 (Av Go.IntKind.u64 x 1) 6148914691236517205)+(Ai Go.BinOp.and Go.IntKind.u64 x 6148914691236517205))) 3689348814741910323))))) 1085102592571150095)+(Av Go.IntKind.u64 (Ai Go.BinOp.and Go.IntKind.u64 (wr .u64 ((Av Go.IntKind.u64 (wr .u64 ((Ai Go.BinOp.and Go.IntKind.u64 (Av Go.IntKind.u64 (wr .u64 ((Ai Go.BinOp.and Go.IntKind.u64 (Av Go.IntKind.u64 x 1) 6148914691236517205)+(Ai Go.BinOp.and Go.IntKind.u64 x 6148914691236517205))) 2) 3689348814741910323)+(Ai Go.BinOp.and Go.IntKind.u64 (wr .u64 ((Ai Go.BinOp.and Go.IntKind.u64 (Av Go.IntKind.u64 x 1) 6148914691236517205)+(Ai Go.BinOp.and Go.IntKind.u64 x 6148914691236517205))) 3689348814741910323))) 4)+(wr .u64 ((Ai Go.BinOp.and Go.IntKind.u64 (Av Go.IntKind.u64 (wr .u64 ((Ai Go.BinOp.and Go.IntKind.u64 (Av Go.IntKind.u64 x 1) 6148914691236517205)+(Ai Go.BinOp.and Go.IntKind.u64 x 6148914691236517205))) 2) 3689348814741910323)+(Ai Go.BinOp.and Go.IntKind.u64 (wr .u64 ((Ai Go.BinOp.and Go.IntKind.u64 (Av Go.IntKind.u64 x 1) 6148914691236517205)+(Ai Go.BinOp.and Go.IntKind.u64 x 6148914691236517205))) 3689348814741910323))))) 1085102592571150095) 8)))+(Av Go.IntKind.u64 (wr .u64 ((Ai Go.BinOp.and Go.IntKind.u64 (wr .u64 ((Av Go.IntKind.u64 (wr .u64 ((Ai Go.BinOp.and Go.IntKind.u64 (Av Go.IntKind.u64 (wr .u64 ((Ai Go.BinOp.and Go.IntKind.u64 (Av Go.IntKind.u64 x 1) 6148914691236517205)+(Ai Go.BinOp.and Go.IntKind.u64 x 6148914691236517205))) 2) 3689348814741910323)+(Ai Go.BinOp.and Go.IntKind.u64 (wr .u64 ((Ai Go.BinOp.and Go.IntKind.u64 (Av Go.IntKind.u64 x 1) 6148914691236517205)+(Ai Go.BinOp.and Go.IntKind.u64 x 6148914691236517205))) 3689348814741910323))) 4)+(wr .u64 ((Ai Go.BinOp.and Go.IntKind.u64 (Av Go.IntKind.u64 (wr .u64 ((Ai Go.BinOp.and Go.IntKind.u64 (Av Go.IntKind.u64 x 1) 6148914691236517205)+(Ai Go.BinOp.and Go.IntKind.u64 x 6148914691236517205))) 2) 3689348814741910323)+(Ai Go.BinOp.and Go.IntKind.u64 (wr .u64 ((Ai Go.BinOp.and Go.IntKind.u64 (Av Go.IntKind.u64 x 1) 6148914691236517205)+(Ai Go.BinOp.and Go.IntKind.u64 x 6148914691236517205))) 3689348814741910323))))) 1085102592571150095)+(Av Go.IntKind.u64 (Ai Go.BinOp.and Go.IntKind.u64 (wr .u64 ((Av Go.IntKind.u64 (wr .u64 ((Ai Go.BinOp.and Go.IntKind.u64 (Av Go.IntKind.u64 (wr .u64 ((Ai Go.BinOp.and Go.IntKind.u64 (Av Go.IntKind.u64 x 1) 6148914691236517205)+(Ai Go.BinOp.and Go.IntKind.u64 x 6148914691236517205))) 2) 3689348814741910323)+(Ai Go.BinOp.and Go.IntKind.u64 (wr .u64 ((Ai Go.BinOp.and Go.IntKind.u64 (Av Go.IntKind.u64 x 1) 6148914691236517205)+(Ai Go.BinOp.and Go.IntKind.u64 x 6148914691236517205))) 3689348814741910323))) 4)+(wr .u64 ((Ai Go.BinOp.and Go.IntKind.u64 (Av Go.IntKind.u64 (wr .u64 ((Ai Go.BinOp.and Go.IntKind.u64 (Av Go.IntKind.u64 x 1) 6148914691236517205)+(Ai Go.BinOp.and Go.IntKind.u64 x 6148914691236517205))) 2) 3689348814741910323)+(Ai Go.BinOp.and Go.IntKind.u64 (wr .u64 ((Ai Go.BinOp.and Go.IntKind.u64 (Av Go.IntKind.u64 x 1) 6148914691236517205)+(Ai Go.BinOp.and Go.IntKind.u64 x 6148914691236517205))) 3689348814741910323))))) 1085102592571150095) 8))) 16))) 32)))) 127))
def Fc (x:Int):Int:=MK x
theorem Se (x:Int) (hf:Kd [U64] x):IZ x=some (Fc x):=by
 have h:IZ x=some (Ab1 x):=id rfl
 rw[h,Ado hf];rfl
def Jq (x:Ae×Int×AH×Bool):Option (AH) :=
(cnd (!(x.2.2.2==x.2.2.1.1))
(Ad (idx x.1.2.2.2.2.2.1 x.2.1) none (fun x1 =>
(cnd (x.2.2.2&&(decide (x1.2.1≤(Bf 1 1048576))))
(some (x.2.2.2,((Bf 1 1048576),((Ai Go.BinOp.or Go.IntKind.u64 (Bc Go.IntKind.u64 x.2.2.1.2.2.1 1) 1),(true,0)))))
(cnd ((!x.2.2.2)&&(decide (x1.2.2.1≤(Bf 1 1048576))))
(some (x.2.2.2,((Bf 1 1048576),((Ai Go.BinOp.or Go.IntKind.u64 (Bc Go.IntKind.u64 x.2.2.1.2.2.1 1) 1),(true,0)))))
(Ay (Fc (Ai Go.BinOp.or Go.IntKind.u64 (Bc Go.IntKind.u64 x.2.2.1.2.2.1 1) 1)) (fun y =>
(cnd (decide (x1.2.2.2<y))
(some (x.2.2.2,((Bf 1 1048576),((Ai Go.BinOp.or Go.IntKind.u64 (Bc Go.IntKind.u64 x.2.2.1.2.2.1 1) 1),(true,0)))))
(cnd x.2.2.1.2.2.2.1
(cnd (decide (x.1.2.2.2.2.2.2.2.2.1≤(wr .i64 (x.2.2.1.2.2.2.2+1))))
(some (x.2.2.2,((Bf 1 1048576),((Ai Go.BinOp.or Go.IntKind.u64 (Bc Go.IntKind.u64 x.2.2.1.2.2.1 1) 1),(false,0)))))
(some (x.2.2.2,((Bf 1 1048576),((Ai Go.BinOp.or Go.IntKind.u64 (Bc Go.IntKind.u64 x.2.2.1.2.2.1 1) 1),(x.2.2.1.2.2.2.1,(wr .i64 (x.2.2.1.2.2.2.2+1))))))))
(some (x.2.2.2,((Bf 1 1048576),((Ai Go.BinOp.or Go.IntKind.u64 (Bc Go.IntKind.u64 x.2.2.1.2.2.1 1) 1),x.2.2.1.2.2.2))))))))))))
(Ad (idx x.1.2.2.2.2.2.1 x.2.1) none (fun x1 =>
(cnd (x.2.2.2&&(decide (x1.2.1≤(Bf (wr .i64 (x.2.2.1.2.1+1)) 1048576))))
(some (x.2.2.1.1,((Bf (wr .i64 (x.2.2.1.2.1+1)) 1048576),((Bc Go.IntKind.u64 x.2.2.1.2.2.1 1),(true,0)))))
(cnd ((!x.2.2.2)&&(decide (x1.2.2.1≤(Bf (wr .i64 (x.2.2.1.2.1+1)) 1048576))))
(some (x.2.2.1.1,((Bf (wr .i64 (x.2.2.1.2.1+1)) 1048576),((Bc Go.IntKind.u64 x.2.2.1.2.2.1 1),(true,0)))))
(Ay (Fc (Bc Go.IntKind.u64 x.2.2.1.2.2.1 1)) (fun y =>
(cnd (decide (x1.2.2.2<y))
(some (x.2.2.1.1,((Bf (wr .i64 (x.2.2.1.2.1+1)) 1048576),((Bc Go.IntKind.u64 x.2.2.1.2.2.1 1),(true,0)))))
(cnd x.2.2.1.2.2.2.1
(cnd (decide (x.1.2.2.2.2.2.2.2.2.1≤(wr .i64 (x.2.2.1.2.2.2.2+1))))
(some (x.2.2.1.1,((Bf (wr .i64 (x.2.2.1.2.1+1)) 1048576),((Bc Go.IntKind.u64 x.2.2.1.2.2.1 1),(false,0)))))
(some (x.2.2.1.1,((Bf (wr .i64 (x.2.2.1.2.1+1)) 1048576),((Bc Go.IntKind.u64 x.2.2.1.2.2.1 1),(x.2.2.1.2.2.2.1,(wr .i64 (x.2.2.1.2.2.2.2+1))))))))
(some (x.2.2.1.1,((Bf (wr .i64 (x.2.2.1.2.1+1)) 1048576),((Bc Go.IntKind.u64 x.2.2.1.2.2.1 1),x.2.2.1.2.2.2)))))))))))))
def Kj (x:Ae×List AH×Int):Option (List AH×Int) :=
(Ad (F7 (x.1,x.2.1)) none (fun x1 =>
(cnd (!(x1==0))
(some ([],x1))
(cnd ((decide (0≤(Aa x.2.1)))&&((decide ((Aa x.2.1)≤(Aa x.2.1)))&&(Dw (Aa x.2.1) 40)))
(iter none (fun x2 =>
(cnd (decide (x2.1<(Aa x.2.1)))
(Ad (idx x.2.1 x2.1) (.done none) (fun x3 =>
(Ay (DQ (x.2.2,x2.1)) (fun y =>
(Ad (Jq (x.1,(x2.1,(x3,y)))) (.done none) (fun x4 =>
(Ad (idx x2.2 x2.1) (.done none) (fun _ =>
(Ad (idx x2.2 x2.1) (.done none) (fun _ =>
(.next ((wr .i64 (x2.1+1)),(A8 x2.2 x2.1 x4)))))))))))))
(.done (some (x2.2,0))))) AA ((0:Int),(AQ (Aa x.2.1) (false,((0:Int),((0:Int),(false,(0:Int))))))))
 none))))
def FE (x:Ae×Int×Int):Option (Bool) :=
(Ad (idx x.1.2.2.2.2.1 x.2.1) none (fun x1 =>
(cnd (decide (0≤x.2.2))
(some ((Ai Go.BinOp.and Go.IntKind.u32 (Av Go.IntKind.u32 x1.1 x.2.2) 1)==1))
 none)))
def IJ (x:Ae×AE×Int):Option (Bool) :=
(iter none (fun x1 =>
(cnd (decide (x1<(Aa x.2.1.1)))
(Ad (idx x.2.1.1 x1) (.done none) (fun x2 =>
(Ad (FE (x.1,(x.2.2,x1))) (.done none) (fun x3 =>
(cnd (x3&&(!(x2.1==2)))
(.done (some false))
(.next (wr .i64 (x1+1))))))))
(.done (some true)))) AA (0:Int))
def DC (x:Ae×AE×Int):Option (Bool×Int) :=
(DM (fun x1 =>
(cnd (x1==0)
(Ad (IJ x) none (fun x2 =>
(some (x2,x1))))
(some (false,x1)))) (fun k =>
(Ad (Aw x.1) none (fun x1 =>
(cnd (!(x1==0))
(k x1)
(cnd (!((Aa x.2.1.1)==(Aa x.1.2.1)))
(k 8)
(cnd ((decide (x.2.2<0))||(decide ((Aa x.1.2.2.2.2.1)≤x.2.2)))
(k 2)
(k 0))))))))
def OZ (x:Int×Int):Option (Int) :=
(Ay (Dg x.2) (fun y =>
(some (Ai Go.BinOp.or Go.IntKind.u32 x.1 y))))
def E1 (x:Int×Int):Int :=
(Ay (Dg x.2) (fun y =>
((Ai Go.BinOp.or Go.IntKind.u32 x.1 y))))
theorem rF (x:Int×Int):OZ x=some (E1 x):=by
 unfold OZ E1
 simp only[Ay]
def Hy (x:AH):Bool :=
((!x.2.2.2.1))
def G3 (x:Ae×List AH):Option (Bool×Int) :=
(Ad (F7 x) none (fun x1 =>
(cnd (!(x1==0))
(some (false,x1))
(iter none (fun x2 =>
(cnd (decide (x2.2.2<(Aa x.2)))
(Ad (idx x.2 x2.2.2) (.done none) (fun x3 =>
(Ad (idx x.1.2.2.2.2.2.1 x2.2.2) (.done none) (fun x4 =>
(Ay (E1 (x2.1,x4.1)) (fun y =>
(Ay (Hy x3) (fun y1 =>
(cnd y1
(Ay (E1 (x2.2.1,x4.1)) (fun y2 =>
(.next (y,(y2,(wr .i64 (x2.2.2+1)))))))
(.next (y,(x2.2.1,(wr .i64 (x2.2.2+1))))))))))))))
(.done (some ((x2.1==x2.2.1),0))))) AA ((0:Int),((0:Int),(0:Int)))))))
def HY (x:AH):Bool :=
((x.1||x.2.2.2.1))
def Iz (x:Ae×List AH):Option (Int×Int) :=
(Ad (G3 x) none (fun x1 =>
(cnd (!(x1.2==0))
(some (0,x1.2))
(iter none (fun x2 =>
(cnd (decide (x2.2<(Aa x.1.2.2.2.2.1)))
(Ad (idx x.1.2.2.2.2.1 x2.2) (.done none) (fun x3 =>
(cnd x3.2.2.2.2
(cnd (decide (0≤x2.2))
(.next ((Ai Go.BinOp.or Go.IntKind.u32 x2.1 (Bc Go.IntKind.u32 1 x2.2)),(wr .i64 (x2.2+1))))
(.done none))
(.next (x2.1,(wr .i64 (x2.2+1)))))))
(.done (iter none (fun x3 =>
(cnd (decide (x3.2<(Aa x.2)))
(Ad (idx x.2 x3.2) (.done none) (fun x4 =>
(Ay (HY x4) (fun y =>
(cnd y
(Ad (idx x.1.2.2.2.2.2.1 x3.2) (.done none) (fun x5 =>
(cnd (decide (0≤x5.1))
(.next ((Ai Go.BinOp.or Go.IntKind.u32 x3.1 (Bc Go.IntKind.u32 1 x5.1)),(wr .i64 (x3.2+1))))
(.done none))))
(.next (x3.1,(wr .i64 (x3.2+1)))))))))
(.done (some (x3.1,0))))) AA (x2.1,(0:Int)))))) AA ((0:Int),(0:Int))))))
def Hv (x:Ae×Int×Int):Option (Int) :=
(cnd (decide (0≤(Aa x.1.2.2.2.2.1)))
(cnd (!((Av Go.IntKind.u32 x.2.1 (Aa x.1.2.2.2.2.1))==0))
(some 8)
(cnd ((decide (x.2.2<(-1)))||(decide ((Aa x.1.2.2.2.2.1)≤x.2.2)))
(some 2)
(some 0)))
 none)
def Es (x:Ae×Int×List AH×Int):Option (Int×Int) :=
(Ad (Iz (x.1,x.2.2.1)) none (fun x1 =>
(cnd (!(x1.2==0))
(some (0,x1.2))
(Ad (Hv (x.1,(x.2.1,x.2.2.2))) none (fun x2 =>
(cnd (!(x2==0))
(some (0,x2))
(Ay (B6 ((Ai Go.BinOp.or Go.IntKind.u32 x.2.1 x1.1),x.2.2.2)) (fun y =>
(some (y,0))))))))))
def ER (x:BH):Option (BH) :=
(Ad (FL x.2.1.2.2.2.2.2.2.2.2.1) none (fun x1 =>
(Ad (FL x.2.1.2.2.2.2.2.2.2.2.1) none (fun x2 =>
(Ad (Gg x.2.1.2.2.2.2.2.2.2.2.2.2.1) none (fun x3 =>
(iter none (fun x4 =>
(cnd (decide (x4.1<(Aa x2)))
(Ad (idx x4.2.2.2.1.2.2.2.2.2.2.2.2.1 x4.1) (.done none) (fun _ =>
(Ad (idx x4.2.2.2.1.2.2.2.2.2.2.2.2.1 x4.1) (.done none) (fun x6 =>
(cnd (decide (0≤x4.1))
(Ay (Cn (x6,(((Ai Go.BinOp.and Go.IntKind.u32 (Av Go.IntKind.u32 x4.2.2.2.2.1.2.1 x4.1) 1)==1),2))) (fun y =>
(Ad (idx x4.2.2.2.1.2.2.2.2.2.2.2.2.1 x4.1) (.done none) (fun _ =>
(Ad (idx x4.2.2.2.1.2.2.2.2.2.2.2.2.1 x4.1) (.done none) (fun _ =>
(Ad (idx x4.2.2.2.1.2.2.2.2.2.2.2.2.2.2.1 x4.1) (.done none) (fun _ =>
(Ad (idx x4.2.2.2.1.2.2.2.2.2.2.2.2.2.2.1 x4.1) (.done none) (fun x10 =>
(Ad (idx (A8 x4.2.2.2.1.2.2.2.2.2.2.2.2.1 x4.1 y.1) x4.1) (.done none) (fun _ =>
(Ad (idx (A8 x4.2.2.2.1.2.2.2.2.2.2.2.2.1 x4.1 y.1) x4.1) (.done none) (fun x12 =>
(Ay (Gv (x10,x12.1)) (fun y1 =>
(Ad (idx x4.2.2.2.1.2.2.2.2.2.2.2.2.2.2.1 x4.1) (.done none) (fun _ =>
(Ad (idx x4.2.2.2.1.2.2.2.2.2.2.2.2.2.2.1 x4.1) (.done none) (fun _ =>
(Ad (idx (A8 x4.2.2.2.1.2.2.2.2.2.2.2.2.1 x4.1 y.1) x4.1) (.done none) (fun _ =>
(Ad (idx (A8 x4.2.2.2.1.2.2.2.2.2.2.2.2.1 x4.1 y.1) x4.1) (.done none) (fun x16 =>
(cnd x16.1
(cnd (decide (0≤x4.1))
(.next ((wr .i64 (x4.1+1)),((Ai Go.BinOp.or Go.IntKind.u32 x4.2.1 (Bc Go.IntKind.u32 1 x4.1)),(x4.2.2.1,(((x4.2.2.2.1.1.1,()),(x4.2.2.2.1.2.1,(x4.2.2.2.1.2.2.1,(x4.2.2.2.1.2.2.2.1,(x4.2.2.2.1.2.2.2.2.1,(x4.2.2.2.1.2.2.2.2.2.1,(x4.2.2.2.1.2.2.2.2.2.2.1,(x4.2.2.2.1.2.2.2.2.2.2.2.1,((A8 x4.2.2.2.1.2.2.2.2.2.2.2.2.1 x4.1 y.1),(x4.2.2.2.1.2.2.2.2.2.2.2.2.2.1,((A8 x4.2.2.2.1.2.2.2.2.2.2.2.2.2.2.1 x4.1 y1.1),x4.2.2.2.1.2.2.2.2.2.2.2.2.2.2.2))))))))))),x4.2.2.2.2)))))
(.done none))
(.next ((wr .i64 (x4.1+1)),(x4.2.1,(x4.2.2.1,(((x4.2.2.2.1.1.1,()),(x4.2.2.2.1.2.1,(x4.2.2.2.1.2.2.1,(x4.2.2.2.1.2.2.2.1,(x4.2.2.2.1.2.2.2.2.1,(x4.2.2.2.1.2.2.2.2.2.1,(x4.2.2.2.1.2.2.2.2.2.2.1,(x4.2.2.2.1.2.2.2.2.2.2.2.1,((A8 x4.2.2.2.1.2.2.2.2.2.2.2.2.1 x4.1 y.1),(x4.2.2.2.1.2.2.2.2.2.2.2.2.2.1,((A8 x4.2.2.2.1.2.2.2.2.2.2.2.2.2.2.1 x4.1 y1.1),x4.2.2.2.1.2.2.2.2.2.2.2.2.2.2.2))))))))))),x4.2.2.2.2))))))))))))))))))))))))))))))
(.done none))))))
(.done (Ad (Kj (x4.2.2.1,(x4.2.2.2.1.2.2.2.2.2.2.2.2.2.1,x4.2.1))) none (fun x5 =>
(Ad (DC (x4.2.2.1,(x4.2.2.2.1.2.1,x4.2.2.2.1.2.2.2.1.1))) none (fun x6 =>
(cnd x6.1
(Ad (Es (x4.2.2.1,(x4.2.2.2.1.2.2.2.2.2.2.2.2.2.2.2.1,(x5.1,x4.2.2.2.1.2.2.2.1.1)))) none (fun x7 =>
(some (x4.2.2.1,(((x4.2.2.2.1.1.1,()),(x4.2.2.2.1.2.1,(x4.2.2.2.1.2.2.1,(x4.2.2.2.1.2.2.2.1,(x4.2.2.2.1.2.2.2.2.1,(x4.2.2.2.1.2.2.2.2.2.1,(x4.2.2.2.1.2.2.2.2.2.2.1,(x4.2.2.2.1.2.2.2.2.2.2.2.1,(x4.2.2.2.1.2.2.2.2.2.2.2.2.1,(x5.1,(x4.2.2.2.1.2.2.2.2.2.2.2.2.2.2.1,(x7.1,x4.2.2.2.1.2.2.2.2.2.2.2.2.2.2.2.2)))))))))))),x4.2.2.2.2)))))
(Ad (Es (x4.2.2.1,(x4.2.2.2.1.2.2.2.2.2.2.2.2.2.2.2.1,(x5.1,(-1))))) none (fun x7 =>
(some (x4.2.2.1,(((x4.2.2.2.1.1.1,()),(x4.2.2.2.1.2.1,(x4.2.2.2.1.2.2.1,(x4.2.2.2.1.2.2.2.1,(x4.2.2.2.1.2.2.2.2.1,(x4.2.2.2.1.2.2.2.2.2.1,(x4.2.2.2.1.2.2.2.2.2.2.1,(x4.2.2.2.1.2.2.2.2.2.2.2.1,(x4.2.2.2.1.2.2.2.2.2.2.2.2.1,(x5.1,(x4.2.2.2.1.2.2.2.2.2.2.2.2.2.2.1,(x7.1,x4.2.2.2.1.2.2.2.2.2.2.2.2.2.2.2.2)))))))))))),x4.2.2.2.2))))))))))))) AA ((0:Int),((0:Int),(x.1,(((x.2.1.1.1,()),(x.2.1.2.1,(x.2.1.2.2.1,(x.2.1.2.2.2.1,(x.2.1.2.2.2.2.1,(x.2.1.2.2.2.2.2.1,(x.2.1.2.2.2.2.2.2.1,(x.2.1.2.2.2.2.2.2.2.1,(x2,(x.2.1.2.2.2.2.2.2.2.2.2.1,(x3,x.2.1.2.2.2.2.2.2.2.2.2.2.2))))))))))),(x.2.2.1,(x.2.2.2.1,(x1,x.2.2.2.2.2))))))))))))))
def Eg (x:Ae×Int):Option (Int) :=
(Ad (Aw x.1) none (fun x1 =>
(cnd (!(x1==0))
(some x1)
(cnd ((decide (x.2<0))||(decide (1048576<x.2)))
(some 2)
(some 0)))))
def GL (x:Ae×List Int):Option (Int) :=
(cnd (!((Aa x.2)==(Aa x.1.2.1)))
(some 4)
(iter none (fun x1 =>
(cnd (decide (x1<(Aa x.2)))
(Ad (idx x.2 x1) (.done none) (fun x2 =>
(cnd (decide (4<x2))
(.done (some 2))
(.next (wr .i64 (x1+1))))))
(.done (some 0)))) AA (0:Int)))
def Hu (x:Ae×List Int×List Int):Option (Bool×Int) :=
(iter none (fun x1 =>
(cnd (decide (x1<(Aa (x.2.1::(x.2.2::[])))))
(Ad (idx (x.2.1::(x.2.2::[])) x1) (.done none) (fun x2 =>
(cnd ((x1==1)&&((Aa x2)==0))
(.next (wr .i64 (x1+1)))
(Ad (GL (x.1,x2)) (.done none) (fun x3 =>
(cnd (!(x3==0))
(.done (some (false,x3)))
(.next (wr .i64 (x1+1)))))))))
(.done (iter none (fun x2 =>
(cnd (decide (x2<(Aa x.2.2)))
(Ad (idx x.2.2 x2) (.done none) (fun x3 =>
(Ad (idx x.2.1 x2) (.done none) (fun x4 =>
(cnd (!(x4==x3))
(.done (some (true,0)))
(.next (wr .i64 (x2+1))))))))
(.done (some (false,0))))) AA (0:Int))))) AA (0:Int))
def Iy (x:Ae×Int×List Int×List Int):Option (Int×Int) :=
(Ad (Eg (x.1,x.2.1)) none (fun x1 =>
(cnd (!(x1==0))
(some (0,x1))
(Ad (Hu (x.1,x.2.2)) none (fun x2 =>
(cnd ((!(x2.2==0))||(!x2.1))
(some (0,x2.2))
(some ((Bf (wr .i64 (x.2.1+1)) 1048576),0))))))))
def Ge (x:Ae×Int):Option (Bool×Int) :=
(Ad (Eg x) none (fun x1 =>
(cnd (!(x1==0))
(some (false,x1))
(some ((decide (x.1.2.2.2.2.2.2.2.1≤x.2)),0)))))
def DG (x:AB):Bool :=
((((x.1==0)&&(x.2.1==0))&&((Aa x.2.2)==0)))
def DY (x:BH):Option (BH×DE×BF) :=
(iter none (fun x1 =>
(cnd (decide (x1.2<(Aa x.2.1.2.1.1)))
(Ad (idx x.2.1.2.1.1 x1.2) (.done none) (fun x2 =>
(cnd (true&&(AN ((Aa x1.1)+(Aa (x2.1::[]))) 1))
(.next ((x1.1++(x2.1::[])),(wr .i64 (x1.2+1))))
(.done none))))
(.done (Ad (Iy (x.1,(x.2.1.2.2.2.2.2.2.2.2.2.2.2.2.1,(x1.1,x.2.2.1.2.2.1)))) none (fun x2 =>
(DM (fun x3 =>
(Ad (Ge (x.1,x3)) none (fun x4 =>
(Ad (D9 (x.2.1.1.1,())) none (fun x5 =>
(Ad (G3 (x.1,x.2.1.2.2.2.2.2.2.2.2.2.1)) none (fun x6 =>
(Ay (DG x.2.1.2.2.2.2.2.2.1) (fun y =>
(cnd (!y)
(cnd (!x.2.2.1.2.2.2.2.2.2)
(cnd (x5.2==0)
(some ((x.1,(((x.2.1.1.1,()),(x.2.1.2.1,(x.2.1.2.2.1,(x.2.1.2.2.2.1,(x.2.1.2.2.2.2.1,(x.2.1.2.2.2.2.2.1,(x.2.1.2.2.2.2.2.2.1,(x.2.1.2.2.2.2.2.2.2.1,(x.2.1.2.2.2.2.2.2.2.2.1,(x.2.1.2.2.2.2.2.2.2.2.2.1,(x.2.1.2.2.2.2.2.2.2.2.2.2.1,(x.2.1.2.2.2.2.2.2.2.2.2.2.2.1,(x3,x.2.1.2.2.2.2.2.2.2.2.2.2.2.2.2))))))))))))),x.2.2)),(((decide (x.2.1.2.2.2.2.2.2.2.1<x.1.2.2.2.2.2.2.1)),((decide (0<(Aa x5.1.2.2))),(x6.1,(!x4.1)))),x5.1)))
(some ((x.1,(((x.2.1.1.1,()),(x.2.1.2.1,(x.2.1.2.2.1,(x.2.1.2.2.2.1,(x.2.1.2.2.2.2.1,(x.2.1.2.2.2.2.2.1,(x.2.1.2.2.2.2.2.2.1,(x.2.1.2.2.2.2.2.2.2.1,(x.2.1.2.2.2.2.2.2.2.2.1,(x.2.1.2.2.2.2.2.2.2.2.2.1,(x.2.1.2.2.2.2.2.2.2.2.2.2.1,(x.2.1.2.2.2.2.2.2.2.2.2.2.2.1,(x3,x.2.1.2.2.2.2.2.2.2.2.2.2.2.2.2))))))))))))),x.2.2)),(((decide (x.2.1.2.2.2.2.2.2.2.1<x.1.2.2.2.2.2.2.1)),(false,(x6.1,(!x4.1)))),x5.1))))
(some ((x.1,(((x.2.1.1.1,()),(x.2.1.2.1,(x.2.1.2.2.1,(x.2.1.2.2.2.1,(x.2.1.2.2.2.2.1,(x.2.1.2.2.2.2.2.1,(x.2.1.2.2.2.2.2.2.1,(x.2.1.2.2.2.2.2.2.2.1,(x.2.1.2.2.2.2.2.2.2.2.1,(x.2.1.2.2.2.2.2.2.2.2.2.1,(x.2.1.2.2.2.2.2.2.2.2.2.2.1,(x.2.1.2.2.2.2.2.2.2.2.2.2.2.1,(x3,x.2.1.2.2.2.2.2.2.2.2.2.2.2.2.2))))))))))))),x.2.2)),(((decide (x.2.1.2.2.2.2.2.2.2.1<x.1.2.2.2.2.2.2.1)),(false,(x6.1,(!x4.1)))),x5.1))))
(cnd (!x.2.2.1.2.2.2.2.2.2)
(cnd (x5.2==0)
(some ((x.1,(((x.2.1.1.1,()),(x.2.1.2.1,(x.2.1.2.2.1,(x.2.1.2.2.2.1,(x.2.1.2.2.2.2.1,(x.2.1.2.2.2.2.2.1,(x.2.1.2.2.2.2.2.2.1,(x.2.1.2.2.2.2.2.2.2.1,(x.2.1.2.2.2.2.2.2.2.2.1,(x.2.1.2.2.2.2.2.2.2.2.2.1,(x.2.1.2.2.2.2.2.2.2.2.2.2.1,(x.2.1.2.2.2.2.2.2.2.2.2.2.2.1,(x3,x.2.1.2.2.2.2.2.2.2.2.2.2.2.2.2))))))))))))),x.2.2)),((false,((decide (0<(Aa x5.1.2.2))),(x6.1,(!x4.1)))),x5.1)))
(some ((x.1,(((x.2.1.1.1,()),(x.2.1.2.1,(x.2.1.2.2.1,(x.2.1.2.2.2.1,(x.2.1.2.2.2.2.1,(x.2.1.2.2.2.2.2.1,(x.2.1.2.2.2.2.2.2.1,(x.2.1.2.2.2.2.2.2.2.1,(x.2.1.2.2.2.2.2.2.2.2.1,(x.2.1.2.2.2.2.2.2.2.2.2.1,(x.2.1.2.2.2.2.2.2.2.2.2.2.1,(x.2.1.2.2.2.2.2.2.2.2.2.2.2.1,(x3,x.2.1.2.2.2.2.2.2.2.2.2.2.2.2.2))))))))))))),x.2.2)),((false,(false,(x6.1,(!x4.1)))),x5.1))))
(some ((x.1,(((x.2.1.1.1,()),(x.2.1.2.1,(x.2.1.2.2.1,(x.2.1.2.2.2.1,(x.2.1.2.2.2.2.1,(x.2.1.2.2.2.2.2.1,(x.2.1.2.2.2.2.2.2.1,(x.2.1.2.2.2.2.2.2.2.1,(x.2.1.2.2.2.2.2.2.2.2.1,(x.2.1.2.2.2.2.2.2.2.2.2.1,(x.2.1.2.2.2.2.2.2.2.2.2.2.1,(x.2.1.2.2.2.2.2.2.2.2.2.2.2.1,(x3,x.2.1.2.2.2.2.2.2.2.2.2.2.2.2.2))))))))))))),x.2.2)),((false,(false,(x6.1,(!x4.1)))),x5.1)))))))))))))) (fun k =>
(cnd (!(x2.2==0))
(Ay (BK (x.2.1.2.2.2.2.2.2.2.2.2.2.2.2.1,1048576)) (fun y =>
(k y)))
(k x2.1))))))))) AA ([],(0:Int)))
def Gj (x:Ae×BG):Option (Int) :=
(Ad (Aw x.1) none (fun x1 =>
(cnd (!(x1==0))
(some x1)
(cnd ((((decide (3<x.2.1))||(decide (x.2.2.1<0)))||(decide (1048576<x.2.2.1)))||(x.2.2.2&&((!(x.2.1==0))||(!(x.2.2.1==0)))))
(some 8)
(some 0)))))
def NB (x:BG×DE):Option (Int) :=
(cnd (x.1.2.2||(!x.2.2.2.2))
(some 0)
(cnd ((x.2.1&&x.2.2.1)&&x.2.2.2.1)
(some 3)
(cnd x.2.2.1
(some 2)
(some 1))))
def BS (x:BG×DE):Int :=
(cnd (x.1.2.2||(!x.2.2.2.2))
(0)
(cnd ((x.2.1&&x.2.2.1)&&x.2.2.2.1)
(3)
(cnd x.2.2.1
(2)
(1))))
theorem iR (x:BG×DE):NB x=some (BS x):=by
 unfold NB BS
 simp only[DP]
def Mz (x:Ae×BG×DE):Option (BG) :=
(Ay (BS ((x.2.1.1,(x.2.1.2.1,(x.2.1.2.2||(!x.2.2.2.2.2)))),x.2.2)) (fun y =>
(cnd (decide (y≤x.2.1.1))
(some (y,(0,(x.2.1.2.2||(!x.2.2.2.2.2)))))
(cnd (decide (x.1.2.2.2.2.2.2.2.2.1≤(wr .i64 (x.2.1.2.1+1))))
(some ((wr .u8 (x.2.1.1+1)),(0,(x.2.1.2.2||(!x.2.2.2.2.2)))))
(some (x.2.1.1,((wr .i64 (x.2.1.2.1+1)),(x.2.1.2.2||(!x.2.2.2.2.2)))))))))
def C7 (x:Ae×BG×DE):BG :=
(Ay (BS ((x.2.1.1,(x.2.1.2.1,(x.2.1.2.2||(!x.2.2.2.2.2)))),x.2.2)) (fun y =>
(cnd (decide (y≤x.2.1.1))
((y,(0,(x.2.1.2.2||(!x.2.2.2.2.2)))))
(cnd (decide (x.1.2.2.2.2.2.2.2.2.1≤(wr .i64 (x.2.1.2.1+1))))
(((wr .u8 (x.2.1.1+1)),(0,(x.2.1.2.2||(!x.2.2.2.2.2)))))
((x.2.1.1,((wr .i64 (x.2.1.2.1+1)),(x.2.1.2.2||(!x.2.2.2.2.2)))))))))
theorem dG (x:Ae×BG×DE):Mz x=some (C7 x):=by
 unfold Mz C7
 simp only[Ay,DP]
def EW (x:Ae×BG×DE):Option (BG×Int) :=
(Ad (Gj (x.1,x.2.1)) none (fun x1 =>
(cnd (!(x1==0))
(some ((0,(0,false)),x1))
(Ay (C7 x) (fun y =>
(some (y,0)))))))
def Qp (x:Bi×Int):Option (Bool×Int) :=
(Ay (Ej x.1) (fun y =>
(cnd (!(y==0))
(some (false,y))
(cnd ((decide (x.2<0))||(decide (1048576<x.2)))
(some (false,2))
(some (((!x.1.1)&&(decide (x.2≤x.1.2.2.1))),0))))))
def I6 (x:Bi×Int):Bool×Int :=
(Ay (Ej x.1) (fun y =>
(cnd (!(y==0))
((false,y))
(cnd ((decide (x.2<0))||(decide (1048576<x.2)))
((false,2))
((((!x.1.1)&&(decide (x.2≤x.1.2.2.1))),0))))))
theorem vZ (x:Bi×Int):Qp x=some (I6 x):=by
 unfold Qp I6
 simp only[Ay,DP]
def El (x:BH):Option (Int) :=
(iter none (fun x1 =>
(cnd (decide (x1.2<(Aa x.1.2.2.2.2.1)))
(Ad (idx x.1.2.2.2.2.1 x1.2) (.done none) (fun x2 =>
(iter (.done none) (fun x3 =>
(cnd (decide (x3.2<(Aa x.1.2.2.2.2.2.1)))
(Ad (idx x.1.2.2.2.2.2.1 x3.2) (.done (.done none)) (fun x4 =>
(Ad (idx x.2.1.2.2.2.2.2.2.2.2.2.2.1 x3.2) (.done (.done none)) (fun x5 =>
(Ay (I6 (x5,x2.2.2.2.1)) (fun y =>
(.next ((x3.1&&(y.1||(!(x4.1==x1.2)))),(wr .i64 (x3.2+1))))))))))
(.done (cnd x3.1
(cnd (decide (0≤x1.2))
(.next ((Ai Go.BinOp.or Go.IntKind.u32 x1.1 (Bc Go.IntKind.u32 1 x1.2)),(wr .i64 (x1.2+1))))
(.done none))
(.next (x1.1,(wr .i64 (x1.2+1)))))))) AA (true,(0:Int)))))
(.done (some x1.1)))) AA ((0:Int),(0:Int)))
def HM (x:Ae×Int):Option (Int) :=
(iter none (fun x1 =>
(cnd (decide (x1.2<(Aa x.1.2.2.2.2.1)))
(Ad (idx x.1.2.2.2.2.1 x1.2) (.done none) (fun x2 =>
(cnd x2.2.2.2.2
(cnd (decide (0≤x1.2))
(.next ((Ai Go.BinOp.or Go.IntKind.u32 x1.1 (Bc Go.IntKind.u32 1 x1.2)),(wr .i64 (x1.2+1))))
(.done none))
(cnd (decide (0≤x1.2))
(cnd ((Ai Go.BinOp.and Go.IntKind.u32 (Av Go.IntKind.u32 x.2 x1.2) 1)==1)
(cnd (decide (0≤x1.2))
(.next ((Ai Go.BinOp.or Go.IntKind.u32 x1.1 (Bc Go.IntKind.u32 1 x1.2)),(wr .i64 (x1.2+1))))
(.done none))
(.next (x1.1,(wr .i64 (x1.2+1)))))
(.done none)))))
(.done (some x1.1)))) AA ((0:Int),(0:Int)))
def Be (x:Int):Int:=if x=0 then 64 else (Lib.ctz 64 x.toNat:Int)
def HL (x:Int×Int×Int):Option (Int) :=
(cnd (decide (0≤x.2.2))
(cnd (decide (0≤(wr .i64 (x.2.1+1))))
(Ay (Be (Av Go.IntKind.u64 (Ai Go.BinOp.or Go.IntKind.u64 (wr .u64 x.1) (Bc Go.IntKind.u64 (wr .u64 x.1) x.2.2)) (wr .i64 (x.2.1+1)))) (fun y =>
(cnd (!(x.2.2==0))
(some (FX (wr .i64 ((wr .i64 (x.2.1+1))+y)) x.2.2))
 none)))
 none)
 none)
def II (x:Ae×Int):Option (List Int) :=
(cnd ((decide (0≤(Aa x.1.2.1)))&&((decide ((Aa x.1.2.1)≤(Aa x.1.2.1)))&&(Dw (Aa x.1.2.1) 1)))
(iter none (fun x1 =>
(cnd (decide (x1.1<(Aa (AQ (Aa x.1.2.1) (0:Int)))))
(Ad (idx x1.2 x1.1) (.done none) (fun _ =>
(Ad (idx x1.2 x1.1) (.done none) (fun _ =>
(Ad (FE (x.1,(x.2,x1.1))) (.done none) (fun x4 =>
(cnd x4
(Ad (idx (A8 x1.2 x1.1 1) x1.1) (.done none) (fun _ =>
(Ad (idx (A8 x1.2 x1.1 1) x1.1) (.done none) (fun _ =>
(.next ((wr .i64 (x1.1+1)),(A8 (A8 x1.2 x1.1 1) x1.1 2)))))))
(.next ((wr .i64 (x1.1+1)),(A8 x1.2 x1.1 1))))))))))
(.done (some x1.2)))) AA ((0:Int),(AQ (Aa x.1.2.1) (0:Int))))
 none)
def Da (x:Ae×Int):Option (List Int×Int) :=
(DM (fun x1 =>
(cnd (!(x1==0))
(some ([],x1))
(Ad (II x) none (fun x2 =>
(some (x2,0)))))) (fun k =>
(Ad (Aw x.1) none (fun x1 =>
(cnd (!(x1==0))
(k x1)
(cnd ((decide (x.2<0))||(decide ((Aa x.1.2.2.2.2.1)≤x.2)))
(k 2)
(k 0)))))))
def JB (x:Ae×Fi×AE×Int×Int):Option (Fi×List Int×Int) :=
(Ad (Aw x.1) none (fun x1 =>
(cnd (!(x1==0))
(some ((0,0),([],x1)))
(cnd (decide (x.2.1.1<0))
(some ((0,0),([],2)))
(cnd (decide ((Aa x.1.2.2.2.2.1)≤x.2.1.1))
(some ((0,0),([],2)))
(cnd (decide (x.2.1.2<0))
(some ((0,0),([],2)))
(cnd (decide (1048576<x.2.1.2))
(some ((0,0),([],2)))
(cnd (!((Aa x.2.2.1.1)==(Aa x.1.2.1)))
(some ((0,0),([],8)))
(Ad (DC (x.1,(x.2.2.1,x.2.1.1))) none (fun x2 =>
(cnd (!x2.1)
(Ad (Da (x.1,x.2.1.1)) none (fun x3 =>
(some ((x.2.1.1,0),x3))))
(Ad (idx x.1.2.2.2.2.1 x.2.1.1) none (fun x3 =>
(Ad (HM (x.1,x.2.2.2.1)) none (fun x4 =>
(cnd (decide (0≤x.2.1.1))
(cnd (decide (0≤x.2.1.1))
(cnd (((decide (x3.2.1≤(Bf (wr .i64 (x.2.1.2+1)) 1048576)))&&(!((Ai Go.BinOp.andNot Go.IntKind.u32 x4 (Bc Go.IntKind.u32 1 x.2.1.1))==0)))&&(((Ai Go.BinOp.and Go.IntKind.u32 (Av Go.IntKind.u32 x.2.2.2.2 x.2.1.1) 1)==1)||(decide (x3.2.2.1≤(Bf (wr .i64 (x.2.1.2+1)) 1048576)))))
(Ad (HL ((Ai Go.BinOp.andNot Go.IntKind.u32 x4 (Bc Go.IntKind.u32 1 x.2.1.1)),(x.2.1.1,(Aa x.1.2.2.2.2.1)))) none (fun x5 =>
(Ad (Da (x.1,x5)) none (fun x6 =>
(some ((x5,0),x6))))))
(Ad (Da (x.1,x.2.1.1)) none (fun x5 =>
(some ((x.2.1.1,(Bf (wr .i64 (x.2.1.2+1)) 1048576)),x5)))))
 none)
 none))))))))))))))))
def Cw (l:List Int):Nat→Int
 |0=>0
 |k+1=>wr .i64 (Cw l k+(l[k]?).getD 0)
def IQ (l:List Int) (place:Int):Nat→Nat→Int×Int×Int
 |0,_=>(0,(0,170))
 |n+1,k=>if place<Cw l (k+1) then ((k:Int),(wr .i64 (wr .i64 (place-Cw l (k+1))+(l[k]?).getD 0),0)) else IQ l place n (k+1)
def G7 (x:Ae×AB×Int):Option (Int×Int×Int) :=
 match D6 (x.1,x.2.1) with
 |none=>none
 |some (is,e)=>if e≠0 then some (0,(0,e)) else if is=false then some (0,(0,170)) else if x.2.2<0∨1073741824<x.2.2 then some (0,(0,2)) else if x.2.1.1=0∨1000000<Aa x.2.1.2.2 then none else
  some (IQ x.2.1.2.2 (FX (wr .i64 (wr .i64 (x.2.2+x.2.1.1)-x.2.1.2.1)) x.2.1.1) x.2.1.2.2.length 0)
def D3 (x:Ae×AB×Int):Option (Int×Int) :=
(Ad (G7 x) none (fun x1 =>
(cnd (!(x1.2.2==0))
(some (0,x1.2.2))
(Ad (idx x.2.1.2.2 x1.1) none (fun x2 =>
(Ad (EI (x.1,x1.1)) none (fun x3 =>
(cnd (decide ((wr .i64 (x2-x3))≤x1.2.1))
(Ad (Eu (x.1,x1.1)) none (fun x4 =>
(some (x4,0))))
(some (x1.1,0))))))))))
def EP (x:BH×BF):Option (BH) :=
(cnd (x.1.2.1.2.2.1.1==0)
(Ad (CK (x.1.1,(((x.1.2.1.1.1,()),x.1.2.1.2),x.1.2.2))) none (fun x1 =>
(some (x1.1.1,(((x1.1.2.1.1.1,()),x1.1.2.1.2),(x1.1.2.2.1,(x1.1.2.2.2.1,(x1.1.2.2.2.2.1,(x1.2,x1.1.2.2.2.2.2.2)))))))))
(cnd (x.1.2.1.2.2.1.1==1)
(Ad (El (x.1.1,(((x.1.2.1.1.1,()),x.1.2.1.2),x.1.2.2))) none (fun x1 =>
(Ad (JB (x.1.1,(x.1.2.1.2.2.2.1,(x.1.2.1.2.1,(x.1.2.1.2.2.2.2.2.2.2.2.2.2.2.1,x1))))) none (fun x2 =>
(some (x.1.1,(((x.1.2.1.1.1,()),(x.1.2.1.2.1,(x.1.2.1.2.2.1,(x2.1,x.1.2.1.2.2.2.2)))),(x.1.2.2.1,(x.1.2.2.2.1,(x.1.2.2.2.2.1,(x2.2.1,x.1.2.2.2.2.2.2)))))))))))
(cnd (x.1.2.1.2.2.1.1==2)
(Ad (idx x.2.2.2 0) none (fun x1 =>
(Ad (EH (x.1.1,x1)) none (fun x2 =>
(Ad (D3 (x.1.1,(x2.1,x.1.2.1.2.2.2.2.2.2.2.2.2.2.2.2.2.1))) none (fun x3 =>
(Ad (Da (x.1.1,x3.1)) none (fun x4 =>
(some (x.1.1,(((x.1.2.1.1.1,()),(x.1.2.1.2.1,(x.1.2.1.2.2.1,((x3.1,0),x.1.2.1.2.2.2.2)))),(x.1.2.2.1,(x.1.2.2.2.1,(x.1.2.2.2.2.1,(x4.1,x.1.2.2.2.2.2.2)))))))))))))))
(Ad (D3 (x.1.1,(x.1.2.1.2.2.2.2.2.2.1,x.1.2.1.2.2.2.2.2.2.2.2.2.2.2.2.2.1))) none (fun x1 =>
(Ad (Da (x.1.1,x1.1)) none (fun x2 =>
(some (x.1.1,(((x.1.2.1.1.1,()),(x.1.2.1.2.1,(x.1.2.1.2.2.1,((x1.1,0),x.1.2.1.2.2.2.2)))),(x.1.2.2.1,(x.1.2.2.2.1,(x.1.2.2.2.2.1,(x2.1,x.1.2.2.2.2.2.2))))))))))))))
def ID (x:Ae×AE):Option (Bool) :=
(cnd (!((Aa x.2.1)==(Aa x.1.2.1)))
(some false)
(cnd ((decide (0≤(Aa x.2.1)))&&((decide ((Aa x.2.1)≤(Aa x.2.1)))&&(Dw (Aa x.2.1) 1)))
(DM (fun x1 =>
(Ad (D4 (x.1,(x.2,x1))) none (fun x2 =>
(cnd (!(x2.2.2==0))
(some false)
(iter none (fun x3 =>
(cnd (decide (x3<(Aa x.2.1)))
(Ad (idx x.2.1 x3) (.done none) (fun x4 =>
(cnd x.2.2.2
(cnd (!(x4.1==4))
(.done (some (!(decide (0≤x3)))))
(.next (wr .i64 (x3+1))))
(cnd (((decide (x4.1<1))||(decide (3<x4.1)))||((decide (0<x.2.2.1))&&(!(x4.1==1))))
(.done (some (!(decide (0≤x3)))))
(.next (wr .i64 (x3+1)))))))
(.done (some true)))) AA (0:Int)))))) (fun k =>
(iter none (fun x1 =>
(cnd (decide (x1.1<(Aa (AQ (Aa x.2.1) (0:Int)))))
(Ad (idx x1.2 x1.1) (.done none) (fun _ =>
(Ad (idx x1.2 x1.1) (.done none) (fun _ =>
(.next ((wr .i64 (x1.1+1)),(A8 x1.2 x1.1 4)))))))
(.done (k x1.2)))) AA ((0:Int),(AQ (Aa x.2.1) (0:Int))))))
 none))
def Fx (x:Ae×AE):Option (Int) :=
(Ad (Aw x.1) none (fun x1 =>
(cnd (!(x1==0))
(some x1)
(Ad (ID x) none (fun x2 =>
(cnd (!x2)
(some 8)
(some 0)))))))
def Fm (x:Int×Int):Option (List Int) :=
(cnd ((decide (0≤x.1))&&((decide (x.1≤x.1))&&(Dw x.1 1)))
(iter none (fun x1 =>
(cnd (decide (x1.1<(Aa (AQ x.1 (0:Int)))))
(Ad (idx x1.2 x1.1) (.done none) (fun _ =>
(Ad (idx x1.2 x1.1) (.done none) (fun _ =>
(.next ((wr .i64 (x1.1+1)),(A8 x1.2 x1.1 x.2)))))))
(.done (some x1.2)))) AA ((0:Int),(AQ x.1 (0:Int))))
 none)
def ON (x:Co×A9×Int):Option (Int) :=
(Ay (CJ x.2.1.2.1) (fun y =>
(cnd (x.2.1.1==1)
(cnd (x.2.2==2)
(some 2)
(some 1))
(cnd (x.2.1.1==2)
(cnd ((x.2.2==2)||(decide (y<x.1.2.1)))
(some 2)
(some 3))
(cnd (x.2.1.1==3)
(cnd (decide (y<x.1.2.2))
(some 3)
(some 1))
(some 1))))))
def EX (x:Co×A9×Int):Int :=
(Ay (CJ x.2.1.2.1) (fun y =>
(cnd (x.2.1.1==1)
(cnd (x.2.2==2)
(2)
(1))
(cnd (x.2.1.1==2)
(cnd ((x.2.2==2)||(decide (y<x.1.2.1)))
(2)
(3))
(cnd (x.2.1.1==3)
(cnd (decide (y<x.1.2.2))
(3)
(1))
(1))))))
theorem pO (x:Co×A9×Int):ON x=some (EX x):=by
 unfold ON EX
 simp only[Ay,DP]
def Fw (x:Ae×AE×List Int):Option (List Int) :=
(DM (fun x1 =>
(cnd x1
(Ad (EU x.2.2) none (fun x2 =>
(some x2)))
(cnd x.2.1.2.2
(Ad (Fm ((Aa x.2.2),1)) none (fun x2 =>
(some x2)))
(cnd (decide (0<x.2.1.2.1))
(Ad (Fm ((Aa x.2.2),1)) none (fun x2 =>
(some x2)))
(Ad (Fm ((Aa x.2.2),1)) none (fun x2 =>
(iter none (fun x3 =>
(cnd (decide (x3.1<(Aa x.2.1.1)))
(Ad (idx x.2.1.1 x3.1) (.done none) (fun x4 =>
(cnd (!(x4.1==1))
(Ad (idx x.1.2.1 x3.1) (.done none) (fun x5 =>
(Ad (idx x.2.2 x3.1) (.done none) (fun x6 =>
(Ay (EX (x5,(x4,x6))) (fun y =>
(Ad (idx x3.2 x3.1) (.done none) (fun _ =>
(Ad (idx x3.2 x3.1) (.done none) (fun _ =>
(.next ((wr .i64 (x3.1+1)),(A8 x3.2 x3.1 y)))))))))))))
(.next ((wr .i64 (x3.1+1)),x3.2)))))
(.done (iter none (fun x4 =>
(cnd (decide (x4.1<(Aa x.2.1.1)))
(Ad (idx x.2.1.1 x4.1) (.done none) (fun x5 =>
(cnd (x5.1==1)
(Ad (idx x.2.2 x4.1) (.done none) (fun x6 =>
(cnd (x6==2)
(iter (.done none) (fun x7 =>
(cnd (decide (x7.1<(Aa x.2.1.1)))
(Ad (idx x.2.1.1 x7.1) (.done (.done none)) (fun x8 =>
(Ad (idx x.1.2.2.1 x4.1) (.done (.done none)) (fun x9 =>
(cnd (decide (0≤x7.1))
(cnd ((Ai Go.BinOp.and Go.IntKind.u32 (Av Go.IntKind.u32 x9 x7.1) 1)==1)
(Ad (idx x7.2 x7.1) (.done (.done none)) (fun _ =>
(Ad (idx x7.2 x7.1) (.done (.done none)) (fun x11 =>
(cnd (!(x11==1))
(.done (.next ((wr .i64 (x4.1+1)),x7.2)))
(Ad (idx x.1.2.2.2.1 x7.1) (.done (.done none)) (fun x12 =>
(Ad (idx x12 x4.1) (.done (.done none)) (fun x13 =>
(cnd (decide (x8.2.2<x13))
(.done (.next ((wr .i64 (x4.1+1)),x7.2)))
(.next ((wr .i64 (x7.1+1)),x7.2))))))))))))
(.next ((wr .i64 (x7.1+1)),x7.2)))
(.done (.done none)))))))
(.done (Ad (idx x7.2 x4.1) (.done none) (fun _ =>
(Ad (idx x7.2 x4.1) (.done none) (fun _ =>
(.next ((wr .i64 (x4.1+1)),(A8 x7.2 x4.1 2)))))))))) AA ((0:Int),x4.2))
(.next ((wr .i64 (x4.1+1)),x4.2)))))
(.next ((wr .i64 (x4.1+1)),x4.2)))))
(.done (some x4.2)))) AA ((0:Int),x3.2))))) AA ((0:Int),x2)))))))) (fun k =>
(iter none (fun x1 =>
(cnd (decide (x1<(Aa x.2.2)))
(Ad (idx x.2.2 x1) (.done none) (fun x2 =>
(cnd (!(x2==4))
(.done (k (!(decide (0≤x1)))))
(.next (wr .i64 (x1+1))))))
(.done (k true)))) AA (0:Int))))
def Gw (x:Ae×AE×List Int):Option (List Int×Int) :=
(Ad (Fx (x.1,x.2.1)) none (fun x1 =>
(cnd (!(x1==0))
(some ([],x1))
(cnd (!((Aa x.2.2)==(Aa x.1.2.1)))
(some ([],90))
(Ad (Fw x) none (fun x2 =>
(some (x2,0))))))))
def Et (x:List Int):Option (List Int) :=
(cnd (true&&(AN (0+(Aa x)) 8))
(some ([]++x))
 none)
def OS (x:Int):Option (Int×Int) :=
(cnd (x==4294967295)
(some (0,2))
(some ((wr .u32 (x+1)),0)))
def H3 (x:Int):Int×Int :=
(cnd (x==4294967295)
((0,2))
(((wr .u32 (x+1)),0)))
theorem qG (x:Int):OS x=some (H3 x):=by
 unfold OS H3
 simp only[DP]
def Ip (x:Int):Int :=
((wr .i64 ((Bf (Ct x (-1073741824)) 1073741824)*65536)))
def Hd (x:Int):Int :=
((Bf (Ct x (-70368744177664)) 70368744177664))
def I3 (x:Int×Int):Option (Int×Int) :=
(Ay (Hd x.1) (fun y =>
(Ay (Hd x.2) (fun y1 =>
(cnd (y1==0)
(some (0,10))
(cnd (!(y1==0))
(cnd (!(y1==0))
(cnd ((!((FX (wr .i64 (y*65536)) y1)==0))&&(!((decide ((wr .i64 (y*65536))<0))==(decide (y1<0)))))
(Ay (Hd (wr .i64 ((EJ Go.IntKind.i64 (wr .i64 (y*65536)) y1)-1))) (fun y2 =>
(some (y2,0))))
(Ay (Hd (EJ Go.IntKind.i64 (wr .i64 (y*65536)) y1)) (fun y2 =>
(some (y2,0)))))
 none)
 none))))))
def Eb (x:Gp):Option (List Int×Int) :=
(Ay (F0 x.1) (fun y =>
(cnd (!y)
(some ([],2))
(cnd (decide (3<x.2.1))
(some ([],2))
(cnd (decide (x.2.2.1<0))
(some ([],2))
(cnd (decide (1073741824<x.2.2.1))
(some ([],2))
(cnd (decide (8<(Aa x.2.2.2)))
(some ([],4))
(Ad (Fp ([],(x.1::((wr .i64 x.2.1)::(x.2.2.1::((Aa x.2.2.2)::[])))))) none (fun x1 =>
(iter none (fun x2 =>
(cnd (decide (x2.1<(Aa x.2.2.2)))
(Ad (idx x.2.2.2 x2.1) (.done none) (fun x3 =>
(cnd ((decide (x3<0))||(decide (70368744177664<x3)))
(.done (some ([],2)))
(Ad (Fp (x2.2,(x3::[]))) (.done none) (fun x4 =>
(.next ((wr .i64 (x2.1+1)),x4)))))))
(.done (some (x2.2,0))))) AA ((0:Int),x1)))))))))))
def Gh (x:AX):Option (List Int×Int) :=
(cnd (decide (512<(Aa x.2.2)))
(some ([],3))
(Ad (FB ((wr .u64 x.2.1),4)) none (fun x1 =>
(cnd (true&&(AN ((Aa (x.1::[]))+(Aa x1.1)) 1))
(cnd (true&&(AN ((Aa ((x.1::[])++x1.1))+(Aa x.2.2)) 1))
(Ad (Ga (((x.1::[])++x1.1)++x.2.2)) none (fun x2 =>
(Ad (FB ((wr .u64 x2),4)) none (fun x3 =>
(cnd (true&&(AN ((Aa (((x.1::[])++x1.1)++x.2.2))+(Aa x3.1)) 1))
(some (((((x.1::[])++x1.1)++x.2.2)++x3.1),0))
 none)))))
 none)
 none))))
def GN (x:List Int):Option (List Int) :=
(cnd ((decide (0≤(Aa x)))&&(Dw (Aa x) 1))
(iter none (fun x1 =>
(cnd (decide (x1.2<(Aa x)))
(Ad (idx x x1.2) (.done none) (fun x2 =>
(cnd ((x2==125)||(x2==126))
(cnd (true&&(AN ((Aa x1.1)+(Aa ((125:Int)::[]))) 1))
(cnd (true&&(AN ((Aa (x1.1++(125::[])))+(Aa ((wr .u8 (x2-32))::[]))) 1))
(.next (((x1.1++(125::[]))++((wr .u8 (x2-32))::[])),(wr .i64 (x1.2+1))))
(.done none))
(.done none))
(cnd (true&&(AN ((Aa x1.1)+(Aa (x2::[]))) 1))
(.next ((x1.1++(x2::[])),(wr .i64 (x1.2+1))))
(.done none)))))
(.done (some x1.1)))) AA ((AQ 0 (0:Int)),(0:Int)))
 none)
def FM (x:AX):Option (List Int×Int) :=
(Ad (Gh x) none (fun x1 =>
(cnd (!(x1.2==0))
(some ([],x1.2))
(Ad (GN x1.1) none (fun x2 =>
(cnd (true&&(AN ((Aa ((126:Int)::[]))+(Aa x2)) 1))
(cnd (true&&(AN ((Aa ((126::[])++x2))+(Aa ((126:Int)::[]))) 1))
(some ((((126::[])++x2)++(126::[])),0))
 none)
 none))))))
def Db (x:BH):Option (BH) :=
(DM (fun x1 =>
(cnd x1.2.2.1.2.2.2.1
(Ad (En (x1.1,(((x1.2.1.1.1,()),x1.2.1.2),x1.2.2))) none (fun x2 =>
(some (x2.1,(((x2.2.1.1.1,()),x2.2.1.2),x2.2.2)))))
(Ad (G1 ((x1.2.1.1.1,()),(x1.2.2.2.1,((Aa x1.2.2.2.1),0)))) none (fun x2 =>
(Ad (ER (x1.1,(((x2.1.1,()),x1.2.1.2),x1.2.2))) none (fun x3 =>
(Ad (DY (x3.1,(((x3.2.1.1.1,()),x3.2.1.2),x3.2.2))) none (fun x4 =>
(Ad (EW (x4.1.1,(x4.1.2.1.2.2.1,x4.2.1))) none (fun x5 =>
(Ad (EP ((x4.1.1,(((x4.1.2.1.1.1,()),(x4.1.2.1.2.1,(x5.1,x4.1.2.1.2.2.2))),x4.1.2.2)),x4.2.2)) none (fun x6 =>
(Ad (Gw (x6.1,(x6.2.1.2.1,x6.2.2.2.2.2.1))) none (fun x7 =>
(Ad (D4 (x6.1,(x6.2.1.2.1,x7.1))) none (fun x8 =>
(Ad (Et x6.2.1.2.2.2.2.2.2.2.2.2.2.2.2.2.2.1) none (fun x9 =>
(Ad (Et x6.2.1.2.2.2.2.2.2.2.2.2.2.2.2.2.2.2.1) none (fun x10 =>
(Ad (Et x6.2.1.2.2.2.2.2.2.2.2.2.2.2.2.2.2.2.2.1) none (fun x11 =>
(iter none (fun x12 =>
(cnd (decide (x12.1<(Aa x6.1.2.2.2.2.1)))
(Ad (DC (x12.2.1,(x12.2.2.1.2.1,x12.1))) (.done none) (fun x13 =>
(cnd (!x13.1)
(.next ((wr .i64 (x12.1+1)),(x12.2.1,(((x12.2.2.1.1.1,()),x12.2.2.1.2),x12.2.2.2))))
(iter (.done none) (fun x14 =>
(cnd (decide (x14.1<(Aa x12.2.1.2.2.2.2.2.1)))
(Ad (idx x12.2.1.2.2.2.2.2.1 x14.1) (.done (.done none)) (fun x15 =>
(cnd (x15.1==x12.1)
(Ad (idx x14.2.2.2.1.2.2.2.2.2.2.2.2.1 x14.1) (.done (.done none)) (fun x16 =>
(cnd x16.1
(Ad (idx x14.2.2.2.2.2.2.1 x14.1) (.done (.done none)) (fun x17 =>
(cnd (!x17.1)
(Ad (idx x14.2.2.2.1.2.2.2.2.2.2.2.2.2.2.2.2.2.2.2.2.1 x12.1) (.done (.done none)) (fun _ =>
(Ad (idx x14.2.2.2.1.2.2.2.2.2.2.2.2.2.2.2.2.2.2.2.2.1 x12.1) (.done (.done none)) (fun x19 =>
(Ay (BK (x19,1048576)) (fun y =>
(Ad (idx x14.2.2.2.1.2.2.2.2.2.2.2.2.2.2.2.2.2.2.2.2.1 x12.1) (.done (.done none)) (fun _ =>
(Ad (idx x14.2.2.2.1.2.2.2.2.2.2.2.2.2.2.2.2.2.2.2.2.1 x12.1) (.done (.done none)) (fun _ =>
(.next ((wr .i64 (x14.1+1)),(true,(x14.2.2.1,(((x14.2.2.2.1.1.1,()),(x14.2.2.2.1.2.1,(x14.2.2.2.1.2.2.1,(x14.2.2.2.1.2.2.2.1,(x14.2.2.2.1.2.2.2.2.1,(x14.2.2.2.1.2.2.2.2.2.1,(x14.2.2.2.1.2.2.2.2.2.2.1,(x14.2.2.2.1.2.2.2.2.2.2.2.1,(x14.2.2.2.1.2.2.2.2.2.2.2.2.1,(x14.2.2.2.1.2.2.2.2.2.2.2.2.2.1,(x14.2.2.2.1.2.2.2.2.2.2.2.2.2.2.1,(x14.2.2.2.1.2.2.2.2.2.2.2.2.2.2.2.1,(x14.2.2.2.1.2.2.2.2.2.2.2.2.2.2.2.2.1,(x14.2.2.2.1.2.2.2.2.2.2.2.2.2.2.2.2.2.1,(x14.2.2.2.1.2.2.2.2.2.2.2.2.2.2.2.2.2.2.1,(x14.2.2.2.1.2.2.2.2.2.2.2.2.2.2.2.2.2.2.2.1,((A8 x14.2.2.2.1.2.2.2.2.2.2.2.2.2.2.2.2.2.2.2.2.1 x12.1 y),x14.2.2.2.1.2.2.2.2.2.2.2.2.2.2.2.2.2.2.2.2.2))))))))))))))))),x14.2.2.2.2)))))))))))))))
(.next ((wr .i64 (x14.1+1)),(true,(x14.2.2.1,(((x14.2.2.2.1.1.1,()),x14.2.2.2.1.2),x14.2.2.2.2))))))))
(.next ((wr .i64 (x14.1+1)),(x14.2.1,(x14.2.2.1,(((x14.2.2.2.1.1.1,()),x14.2.2.2.1.2),x14.2.2.2.2))))))))
(.next ((wr .i64 (x14.1+1)),(x14.2.1,(x14.2.2.1,(((x14.2.2.2.1.1.1,()),x14.2.2.2.1.2),x14.2.2.2.2))))))))
(.done (DM (fun x15 =>
(Ad (idx x15.2.1.2.2.2.2.2.2.2.2.2.2.2.2.2.2.1 x12.1) (.done none) (fun _ =>
(Ad (idx x15.2.1.2.2.2.2.2.2.2.2.2.2.2.2.2.2.1 x12.1) (.done none) (fun x17 =>
(Ay (BK (x17,1048576)) (fun y =>
(Ad (idx x15.2.1.2.2.2.2.2.2.2.2.2.2.2.2.2.2.1 x12.1) (.done none) (fun _ =>
(Ad (idx x15.2.1.2.2.2.2.2.2.2.2.2.2.2.2.2.2.1 x12.1) (.done none) (fun _ =>
(.next ((wr .i64 (x12.1+1)),(x15.1,(((x15.2.1.1.1,()),(x15.2.1.2.1,(x15.2.1.2.2.1,(x15.2.1.2.2.2.1,(x15.2.1.2.2.2.2.1,(x15.2.1.2.2.2.2.2.1,(x15.2.1.2.2.2.2.2.2.1,(x15.2.1.2.2.2.2.2.2.2.1,(x15.2.1.2.2.2.2.2.2.2.2.1,(x15.2.1.2.2.2.2.2.2.2.2.2.1,(x15.2.1.2.2.2.2.2.2.2.2.2.2.1,(x15.2.1.2.2.2.2.2.2.2.2.2.2.2.1,(x15.2.1.2.2.2.2.2.2.2.2.2.2.2.2.1,(x15.2.1.2.2.2.2.2.2.2.2.2.2.2.2.2.1,((A8 x15.2.1.2.2.2.2.2.2.2.2.2.2.2.2.2.2.1 x12.1 y),x15.2.1.2.2.2.2.2.2.2.2.2.2.2.2.2.2.2))))))))))))))),x15.2.2))))))))))))))) (fun k =>
(cnd x14.2.1
(Ad (idx x14.2.2.2.1.2.2.2.2.2.2.2.2.2.2.2.2.2.2.2.1 x12.1) (.done none) (fun _ =>
(Ad (idx x14.2.2.2.1.2.2.2.2.2.2.2.2.2.2.2.2.2.2.2.1 x12.1) (.done none) (fun x16 =>
(Ay (BK (x16,1048576)) (fun y =>
(Ad (idx x14.2.2.2.1.2.2.2.2.2.2.2.2.2.2.2.2.2.2.2.1 x12.1) (.done none) (fun _ =>
(Ad (idx x14.2.2.2.1.2.2.2.2.2.2.2.2.2.2.2.2.2.2.2.1 x12.1) (.done none) (fun _ =>
(k (x14.2.2.1,(((x14.2.2.2.1.1.1,()),(x14.2.2.2.1.2.1,(x14.2.2.2.1.2.2.1,(x14.2.2.2.1.2.2.2.1,(x14.2.2.2.1.2.2.2.2.1,(x14.2.2.2.1.2.2.2.2.2.1,(x14.2.2.2.1.2.2.2.2.2.2.1,(x14.2.2.2.1.2.2.2.2.2.2.2.1,(x14.2.2.2.1.2.2.2.2.2.2.2.2.1,(x14.2.2.2.1.2.2.2.2.2.2.2.2.2.1,(x14.2.2.2.1.2.2.2.2.2.2.2.2.2.2.1,(x14.2.2.2.1.2.2.2.2.2.2.2.2.2.2.2.1,(x14.2.2.2.1.2.2.2.2.2.2.2.2.2.2.2.2.1,(x14.2.2.2.1.2.2.2.2.2.2.2.2.2.2.2.2.2.1,(x14.2.2.2.1.2.2.2.2.2.2.2.2.2.2.2.2.2.2.1,((A8 x14.2.2.2.1.2.2.2.2.2.2.2.2.2.2.2.2.2.2.2.1 x12.1 y),x14.2.2.2.1.2.2.2.2.2.2.2.2.2.2.2.2.2.2.2.2)))))))))))))))),x14.2.2.2.2)))))))))))))
(k (x14.2.2.1,(((x14.2.2.2.1.1.1,()),x14.2.2.2.1.2),x14.2.2.2.2))))))))) AA ((0:Int),(false,(x12.2.1,(((x12.2.2.1.1.1,()),x12.2.2.1.2),x12.2.2.2))))))))
(.done (Ay (H3 x12.2.2.1.2.2.2.2.2.2.2.2.2.2.2.2.2.2.2.2.2) (fun y =>
(cnd (!(x12.2.1.2.2.2.2.2.2.2.2.2.1==0))
(cnd ((!((FX (wr .i64 (x12.2.2.1.2.2.2.2.2.2.2.2.2.2.2.2.2.1+1)) x12.2.1.2.2.2.2.2.2.2.2.2.1)==0))||(!(y.2==0)))
(Ay (BK (x12.2.2.1.2.2.2.2.2.2.2.2.2.2.2.2.2.1,1073741824)) (fun y1 =>
(some (x12.2.1,(((x12.2.2.1.1.1,()),(x12.2.2.1.2.1,(x12.2.2.1.2.2.1,(x12.2.2.1.2.2.2.1,(x12.2.2.1.2.2.2.2.1,(x12.2.2.1.2.2.2.2.2.1,(x12.2.2.1.2.2.2.2.2.2.1,(x12.2.2.1.2.2.2.2.2.2.2.1,(x12.2.2.1.2.2.2.2.2.2.2.2.1,(x12.2.2.1.2.2.2.2.2.2.2.2.2.1,(x12.2.2.1.2.2.2.2.2.2.2.2.2.2.1,(x12.2.2.1.2.2.2.2.2.2.2.2.2.2.2.1,(x12.2.2.1.2.2.2.2.2.2.2.2.2.2.2.2.1,(y1,x12.2.2.1.2.2.2.2.2.2.2.2.2.2.2.2.2.2)))))))))))))),x12.2.2.2)))))
(iter none (fun x13 =>
(cnd (decide (x13.1<(Aa x12.2.1.2.2.2.2.1)))
(Ad (idx x13.2.2.2.1.2.2.2.2.2.2.2.2.2.2.2.2.2.2.1 x13.1) (.done none) (fun _ =>
(Ad (idx x13.2.2.2.1.2.2.2.2.2.2.2.2.2.2.2.2.2.2.1 x13.1) (.done none) (fun x15 =>
(Ad (idx x13.2.2.2.1.2.2.2.2.2.2.2.2.2.2.2.2.2.2.2.1 x13.1) (.done none) (fun _ =>
(Ad (idx x13.2.2.2.1.2.2.2.2.2.2.2.2.2.2.2.2.2.2.2.1 x13.1) (.done none) (fun x17 =>
(Ad (idx x13.2.2.2.1.2.2.2.2.2.2.2.2.2.2.2.2.2.2.2.2.1 x13.1) (.done none) (fun _ =>
(Ad (idx x13.2.2.2.1.2.2.2.2.2.2.2.2.2.2.2.2.2.2.2.2.1 x13.1) (.done none) (fun x19 =>
(Ay (Ip (Bf x15 (wr .i64 (x17+x19)))) (fun y1 =>
(Ad (idx x13.2.2.2.1.2.2.2.2.2.2.2.2.2.2.2.2.2.2.1 x13.1) (.done none) (fun _ =>
(Ad (idx x13.2.2.2.1.2.2.2.2.2.2.2.2.2.2.2.2.2.2.1 x13.1) (.done none) (fun x21 =>
(Ay (Ip (Ct 1 x21)) (fun y2 =>
(Ad (I3 (y1,y2)) (.done none) (fun x22 =>
(cnd (true&&(AN ((Aa x13.2.1.2.2.2)+(Aa (x22.1::[]))) 8))
(Ad (idx x13.2.2.2.1.2.2.2.2.2.2.2.2.2.2.2.2.2.2.1 x13.1) (.done none) (fun _ =>
(Ad (idx x13.2.2.2.1.2.2.2.2.2.2.2.2.2.2.2.2.2.2.1 x13.1) (.done none) (fun _ =>
(Ad (idx x13.2.2.2.1.2.2.2.2.2.2.2.2.2.2.2.2.2.2.2.1 x13.1) (.done none) (fun _ =>
(Ad (idx x13.2.2.2.1.2.2.2.2.2.2.2.2.2.2.2.2.2.2.2.1 x13.1) (.done none) (fun _ =>
(Ad (idx x13.2.2.2.1.2.2.2.2.2.2.2.2.2.2.2.2.2.2.2.2.1 x13.1) (.done none) (fun _ =>
(Ad (idx x13.2.2.2.1.2.2.2.2.2.2.2.2.2.2.2.2.2.2.2.2.1 x13.1) (.done none) (fun _ =>
(.next ((wr .i64 (x13.1+1)),((x13.2.1.1,(x13.2.1.2.1,(x13.2.1.2.2.1,(x13.2.1.2.2.2++(x22.1::[]))))),(x13.2.2.1,(((x13.2.2.2.1.1.1,()),(x13.2.2.2.1.2.1,(x13.2.2.2.1.2.2.1,(x13.2.2.2.1.2.2.2.1,(x13.2.2.2.1.2.2.2.2.1,(x13.2.2.2.1.2.2.2.2.2.1,(x13.2.2.2.1.2.2.2.2.2.2.1,(x13.2.2.2.1.2.2.2.2.2.2.2.1,(x13.2.2.2.1.2.2.2.2.2.2.2.2.1,(x13.2.2.2.1.2.2.2.2.2.2.2.2.2.1,(x13.2.2.2.1.2.2.2.2.2.2.2.2.2.2.1,(x13.2.2.2.1.2.2.2.2.2.2.2.2.2.2.2.1,(x13.2.2.2.1.2.2.2.2.2.2.2.2.2.2.2.2.1,(x13.2.2.2.1.2.2.2.2.2.2.2.2.2.2.2.2.2.1,((A8 x13.2.2.2.1.2.2.2.2.2.2.2.2.2.2.2.2.2.2.1 x13.1 0),((A8 x13.2.2.2.1.2.2.2.2.2.2.2.2.2.2.2.2.2.2.2.1 x13.1 0),((A8 x13.2.2.2.1.2.2.2.2.2.2.2.2.2.2.2.2.2.2.2.2.1 x13.1 0),x13.2.2.2.1.2.2.2.2.2.2.2.2.2.2.2.2.2.2.2.2.2))))))))))))))))),x13.2.2.2.2)))))))))))))))))
(.done none))))))))))))))))))))))))
(.done (Ad (Eb x13.2.1) none (fun x14 =>
(Ad (FM (3,(y.1,x14.1))) none (fun x15 =>
(Ay (BK (x13.2.2.2.1.2.2.2.2.2.2.2.2.2.2.2.2.2.1,1073741824)) (fun y1 =>
(some (x13.2.2.1,(((x13.2.2.2.1.1.1,()),(x13.2.2.2.1.2.1,(x13.2.2.2.1.2.2.1,(x13.2.2.2.1.2.2.2.1,(x13.2.2.2.1.2.2.2.2.1,(x13.2.2.2.1.2.2.2.2.2.1,(x13.2.2.2.1.2.2.2.2.2.2.1,(x13.2.2.2.1.2.2.2.2.2.2.2.1,(x13.2.2.2.1.2.2.2.2.2.2.2.2.1,(x13.2.2.2.1.2.2.2.2.2.2.2.2.2.1,(x13.2.2.2.1.2.2.2.2.2.2.2.2.2.2.1,(x13.2.2.2.1.2.2.2.2.2.2.2.2.2.2.2.1,(x13.2.2.2.1.2.2.2.2.2.2.2.2.2.2.2.2.1,(y1,(x13.2.2.2.1.2.2.2.2.2.2.2.2.2.2.2.2.2.2.1,(x13.2.2.2.1.2.2.2.2.2.2.2.2.2.2.2.2.2.2.2.1,(x13.2.2.2.1.2.2.2.2.2.2.2.2.2.2.2.2.2.2.2.2.1,y.1))))))))))))))))),(x13.2.2.2.2.1,(x13.2.2.2.2.2.1,(x13.2.2.2.2.2.2.1,(x13.2.2.2.2.2.2.2.1,(x13.2.2.2.2.2.2.2.2.1,x15.1))))))))))))))))) AA ((0:Int),((x12.2.1.1,(x12.2.2.1.2.2.1.1,(x12.2.2.1.2.2.2.2.2.2.2.2.2.2.2.2.2.1,[]))),(x12.2.1,(((x12.2.2.1.1.1,()),x12.2.2.1.2),x12.2.2.2))))))
 none)))))) AA ((0:Int),(x6.1,(((x6.2.1.1.1,()),(x8.1,(x6.2.1.2.2.1,(x6.2.1.2.2.2.1,(x6.2.1.2.2.2.2.1,(x6.2.1.2.2.2.2.2.1,(x6.2.1.2.2.2.2.2.2.1,(x6.2.1.2.2.2.2.2.2.2.1,(x6.2.1.2.2.2.2.2.2.2.2.1,(x6.2.1.2.2.2.2.2.2.2.2.2.1,(x6.2.1.2.2.2.2.2.2.2.2.2.2.1,(x6.2.1.2.2.2.2.2.2.2.2.2.2.2.1,(x6.2.1.2.2.2.2.2.2.2.2.2.2.2.2.1,(x6.2.1.2.2.2.2.2.2.2.2.2.2.2.2.2.1,(x9,(x10,(x11,x6.2.1.2.2.2.2.2.2.2.2.2.2.2.2.2.2.2.2.2))))))))))))))))),(x6.2.2.1,(x6.2.2.2.1,(x6.2.2.2.2.1,(x6.2.2.2.2.2.1,(x7.1,x6.2.2.2.2.2.2.2))))))))))))))))))))))))))))))) (fun k =>
(Ad (Em (x.1,(((x.2.1.1.1,()),x.2.1.2),x.2.2))) none (fun x1 =>
(cnd x1.2
(Ad (Df (x1.1.1,(((x1.1.2.1.1.1,()),x1.1.2.1.2),x1.1.2.2))) none (fun x2 =>
(k (x2.1,(((x2.2.1.1.1,()),x2.2.1.2),x2.2.2)))))
(k (x1.1.1,(((x1.1.2.1.1.1,()),x1.1.2.1.2),x1.1.2.2))))))))
def LR (x:Ae×A6×List BY):Option (List (List Int)×List Int×Int) :=
(Ad (Cx (x.1,(x.2.1.1,()))) none (fun x1 =>
(cnd (!(x1.2==0))
(some ([],([],x1.2)))
(cnd (decide (4096<(Aa x.2.2)))
(some ([],([],4)))
(iter none (fun x2 =>
(cnd (decide (x2.2.2.1<(Aa x.2.2)))
(Ad (idx x.2.2 x2.2.2.1) (.done none) (fun x3 =>
(Ad (Db (x.1,(((x2.2.2.2.1.1,()),x2.2.2.2.2),(x3,([],([],([],([],[])))))))) (.done none) (fun x4 =>
(cnd (true&&(AN ((Aa x2.1)+(Aa (x4.2.2.2.2.2.2.1::[]))) 24))
(cnd (true&&(AN ((Aa x2.2.1)+(Aa (x4.2.1.2.2.1.1::[]))) 1))
(.next ((x2.1++(x4.2.2.2.2.2.2.1::[])),((x2.2.1++(x4.2.1.2.2.1.1::[])),((wr .i64 (x2.2.2.1+1)),((x4.2.1.1.1,()),x4.2.1.2)))))
(.done none))
(.done none))))))
(.done (some (x2.1,(x2.2.1,0)))))) AA ([],([],((0:Int),((x1.1.1.1,()),x1.1.2)))))))))
def JT (_:Unit):Option (Bool) :=
(Ay (PY ()) (fun y =>
(Ad (MT ()) none (fun x1 =>
(cnd (Dw 4 88)
(Ad (LR (y,((x1.1,()),(AQ 4 ([],(0,([],(false,(0,(0,false)))))))))) none (fun x2 =>
(cnd (((!(x2.2.2==0))||(!((Aa x2.1)==4)))||(!((Aa x2.2.1)==4)))
(some false)
(iter none (fun x3 =>
(cnd (decide (x3<4))
(Ad (idx x2.1 x3) (.done none) (fun x4 =>
(cnd (!((Aa x4)==2))
(.done (some false))
(Ad (idx x2.1 x3) (.done none) (fun x5 =>
(Ad (idx x5 1) (.done none) (fun x6 =>
(cnd (!(x6==1))
(.done (some false))
(Ad (idx x2.1 x3) (.done none) (fun x7 =>
(Ad (idx x7 0) (.done none) (fun x8 =>
(cnd (!((x8==2)==(decide (1<x3))))
(.done (some false))
(.next (wr .i64 (x3+1))))))))))))))))
(.done (Ad (idx x2.2.1 3) none (fun x4 =>
(some (x4==1))))))) AA (0:Int)))))
 none)))))
def E0 (x:Ae):Option (Bool) :=
(cnd ((((((decide (40<(Aa x.2.1)))||(decide (40<(Aa x.2.2.1))))||(decide (40<(Aa x.2.2.2.1))))||(decide (40<(Aa x.2.2.2.2.1))))||(decide (60<(Aa x.2.2.2.2.2.1))))||(decide (40<(Aa x.2.2.2.2.2.2.2.2.2.2.2))))
(some true)
(iter none (fun x1 =>
(cnd (decide (x1<(Aa x.2.2.2.1)))
(Ad (idx x.2.2.2.1 x1) (.done none) (fun x2 =>
(cnd (decide (40<(Aa x2)))
(.done (some true))
(.next (wr .i64 (x1+1))))))
(.done (iter none (fun x2 =>
(cnd (decide (x2<(Aa x.2.2.2.2.2.2.2.2.2.2.2)))
(Ad (idx x.2.2.2.2.2.2.2.2.2.2.2 x2) (.done none) (fun x3 =>
(cnd (decide (40<(Aa x3.2.2)))
(.done (some true))
(.next (wr .i64 (x2+1))))))
(.done (some false)))) AA (0:Int))))) AA (0:Int)))
def HG (x:List BY):Option (Int) :=
(iter none (fun x1 =>
(cnd (decide (x1.2<(Aa x)))
(Ad (idx x x1.2) (.done none) (fun x2 =>
(Ad (idx x x1.2) (.done none) (fun x3 =>
(.next ((wr .i64 (x1.1+(wr .i64 ((Aa x2.1)+(Aa x3.2.2.1))))),(wr .i64 (x1.2+1))))))))
(.done (some x1.1)))) AA ((Aa x),(0:Int)))
def JD (x:Ae×A6×List BY):Option (Bool) :=
(Ad (E0 x.1) none (fun x1 =>
(cnd (((!x1)&&(decide ((Aa x.2.1.1)≤5000)))&&(decide ((Aa x.2.2)≤200)))
(Ad (HG x.2.2) none (fun x2 =>
(some (decide (x2≤20000)))))
(some false))))
def CA (x:Int):Bool :=
(((decide (0≤x))&&(decide (x≤1048576))))
def IC (x:Ae×AE×Int):Option (Bool×Int) :=
(Ad (Fx (x.1,x.2.1)) none (fun x1 =>
(cnd (!(x1==0))
(some (false,x1))
(cnd ((decide (x.2.2<0))||(decide ((Aa x.1.2.1)≤x.2.2)))
(some (false,2))
(Ad (Fm ((Aa x.1.2.1),1)) none (fun x2 =>
(Ad (idx x2 x.2.2) none (fun _ =>
(Ad (idx x2 x.2.2) none (fun _ =>
(Ad (Fw (x.1,(x.2.1,(A8 x2 x.2.2 2)))) none (fun x5 =>
(Ad (idx x5 x.2.2) none (fun _ =>
(Ad (idx x5 x.2.2) none (fun x7 =>
(some ((x7==2),0))))))))))))))))))
def NC (x:Cd×Int):Option (Bool×Int) :=
(Ay (Fo x.1) (fun y =>
(cnd (!(y==0))
(some (false,y))
(cnd ((decide (x.2<1))||(decide (1048576<x.2)))
(some (false,2))
(some ((x.1.1&&(decide (x.1.2.2<x.2))),0))))))
def Ig (x:Cd×Int):Bool×Int :=
(Ay (Fo x.1) (fun y =>
(cnd (!(y==0))
((false,y))
(cnd ((decide (x.2<1))||(decide (1048576<x.2)))
((false,2))
(((x.1.1&&(decide (x.1.2.2<x.2))),0))))))
theorem iX (x:Cd×Int):NC x=some (Ig x):=by
 unfold NC Ig
 simp only[Ay,DP]
def Ie:List Int→Int→Int→Int
 |[],_,_=>-1
 |b::l,c,i=>if b=c then i else Ie l c (i+1)
def bytes_IndexByte (x:List Int×Int):Int:=Ie x.1 x.2 0
def DS (x:Ae×AV):Option (Bool) :=
(cnd ((!((Aa x.2.2.2.2.2.2.2.2.2.1)==(Aa x.1.2.2.2.2.2.1)))||(!((Aa x.2.2.2.2.2.2.2.2.2.2.2.1)==(Aa x.1.2.2.2.2.2.1))))
(some false)
(iter none (fun x1 =>
(cnd (decide (x1<(Aa x.1.2.2.2.2.2.1)))
(Ad (idx x.2.2.2.2.2.2.2.2.2.2.2.1 x1) (.done none) (fun x2 =>
(Ay (I6 (x2,0)) (fun y =>
(Ad (idx x.2.2.2.2.2.2.2.2.2.1 x1) (.done none) (fun x3 =>
(Ay (CA x3.2.2) (fun y1 =>
(cnd ((!y1)||(!(y.2==0)))
(.done (some false))
(.next (wr .i64 (x1+1))))))))))))
(.done (Ad (Es (x.1,(x.2.2.2.2.2.2.2.2.2.2.2.2.1,(x.2.2.2.2.2.2.2.2.2.2.1,(-1))))) none (fun x2 =>
(some (x2.2==0))))))) AA (0:Int)))
def DR (x:Ae×AV):Option (Bool) :=
(cnd (((!((Aa x.2.2.2.2.2.2.2.2.2.2.2.2.2.2.2.1)==(Aa x.1.2.2.2.2.1)))||(!((Aa x.2.2.2.2.2.2.2.2.2.2.2.2.2.2.2.2.1)==(Aa x.1.2.2.2.2.1))))||(!((Aa x.2.2.2.2.2.2.2.2.2.2.2.2.2.2.2.2.2.1)==(Aa x.1.2.2.2.2.1))))
(some false)
(iter none (fun x1 =>
(cnd (decide (x1<(Aa x.1.2.2.2.2.1)))
(Ad (idx x.2.2.2.2.2.2.2.2.2.2.2.2.2.2.2.1 x1) (.done none) (fun x2 =>
(Ay (CA x2) (fun y =>
(cnd (!y)
(.done (some false))
(Ad (idx x.2.2.2.2.2.2.2.2.2.2.2.2.2.2.2.2.1 x1) (.done none) (fun x3 =>
(Ay (CA x3) (fun y1 =>
(cnd (!y1)
(.done (some false))
(Ad (idx x.2.2.2.2.2.2.2.2.2.2.2.2.2.2.2.2.2.1 x1) (.done none) (fun x4 =>
(Ay (CA x4) (fun y2 =>
(cnd (!y2)
(.done (some false))
(Ad (idx x.2.2.2.2.2.2.2.2.2.2.2.2.2.2.2.2.1 x1) (.done none) (fun x5 =>
(Ad (idx x.2.2.2.2.2.2.2.2.2.2.2.2.2.2.2.1 x1) (.done none) (fun x6 =>
(cnd (decide (x6<x5))
(.done (some false))
(.next (wr .i64 (x1+1)))))))))))))))))))))))
(.done (some true)))) AA (0:Int)))
def IE (x:Ae×AV):Option (Bool) :=
(Ay (C1 (x.2.1.1,())) (fun y =>
(cnd ((((((((!y)||(decide (x.2.2.2.2.1.1<0)))||(decide ((Aa x.1.2.2.2.2.1)≤x.2.2.2.2.1.1)))||(!(CA x.2.2.2.2.1.2)))||(!(CA x.2.2.2.2.2.2.2.2.1)))||(!(CA x.2.2.2.2.2.2.2.2.2.2.2.2.2.1)))||(decide (x.2.2.2.2.2.2.2.2.2.2.2.2.2.2.1<0)))||(decide (1073741824<x.2.2.2.2.2.2.2.2.2.2.2.2.2.2.1)))
(some false)
(Ad (IC (x.1,(x.2.2.1,0))) none (fun x1 =>
(cnd (!(x1.2==0))
(some false)
(Ad (EW (x.1,(x.2.2.2.1,(false,(false,(false,false)))))) none (fun x2 =>
(cnd (!(x2.2==0))
(some false)
(Ay (Ig (x.2.2.2.2.2.1,1)) (fun y1 =>
(cnd (!(y1.2==0))
(some false)
(cnd (decide (2048<(Aa x.2.2.2.2.2.2.1)))
(some false)
(cnd (decide (0<(Aa x.2.2.2.2.2.2.1)))
(Ad (idx x.2.2.2.2.2.2.1 0) none (fun x3 =>
(cnd (!(x3==126))
(some false)
(cnd (decide (1≤(Aa x.2.2.2.2.2.2.1)))
(Ay (bytes_IndexByte ((Bz x.2.2.2.2.2.2.1 1),126)) (fun y2 =>
(cnd (decide (0≤y2))
(some false)
(Ad (D6 (x.1,x.2.2.2.2.2.2.2.1)) none (fun x4 =>
(cnd (x4.1||(DG x.2.2.2.2.2.2.2.1))
(Ad (DS (x.1,((x.2.1.1,()),x.2.2))) none (fun x5 =>
(cnd x5
(Ad (DR (x.1,((x.2.1.1,()),x.2.2))) none (fun x6 =>
(some x6)))
(some false))))
(some false)))))))
 none))))
(Ad (D6 (x.1,x.2.2.2.2.2.2.2.1)) none (fun x3 =>
(cnd (x3.1||(DG x.2.2.2.2.2.2.2.1))
(Ad (DS (x.1,((x.2.1.1,()),x.2.2))) none (fun x4 =>
(cnd x4
(Ad (DR (x.1,((x.2.1.1,()),x.2.2))) none (fun x5 =>
(some x5)))
(some false))))
(some false))))))))))))))))))
def Iq (x:Ae×AV):Option (Int) :=
(Ad (Aw x.1) none (fun x1 =>
(cnd (!(x1==0))
(some x1)
(Ad (IE (x.1,((x.2.1.1,()),x.2.2))) none (fun x2 =>
(cnd (!x2)
(some 230)
(some 0)))))))
def Gx (x:Ae×AV×BY):Option (AV×List Int×List Int×Int) :=
(Ad (Iq (x.1,((x.2.1.1.1,()),x.2.1.2))) none (fun x1 =>
(cnd (!(x1==0))
(some ((([],()),(([],(0,false)),((0,(0,false)),((0,0),((false,(0,0)),([],((0,(0,[])),(0,([],([],([],(0,(0,(0,([],([],([],0))))))))))))))))),([],([],x1))))
(Ad (Et x.2.1.2.2.2.2.2.2.1.2.2) none (fun x2 =>
(Ad (Db (x.1,(((x.2.1.1.1,()),(x.2.1.2.1,(x.2.1.2.2.1,(x.2.1.2.2.2.1,(x.2.1.2.2.2.2.1,(x.2.1.2.2.2.2.2.1,((x.2.1.2.2.2.2.2.2.1.1,(x.2.1.2.2.2.2.2.2.1.2.1,x2)),x.2.1.2.2.2.2.2.2.2))))))),(x.2.2,([],([],([],([],[])))))))) none (fun x3 =>
(some (((x3.2.1.1.1,()),x3.2.1.2),(x3.2.2.2.2.2.2.1,(x3.2.2.2.2.2.2.2,0)))))))))))
def FI (x:List Int):Option (Gp×Int) :=
(Ad (AY ((x,false),65535)) none (fun x1 =>
(Ad (AY (x1.1,3)) none (fun x2 =>
(Ad (AY (x2.1,1073741824)) none (fun x3 =>
(Ad (AY (x3.1,8)) none (fun x4 =>
(iter none (fun x5 =>
(cnd (decide (x5.1<x4.2))
(Ad (AY (x5.2.2,70368744177664)) (.done none) (fun x6 =>
(cnd (true&&(AN ((Aa x5.2.1.2.2.2)+(Aa (x6.2::[]))) 8))
(.next ((wr .i64 (x5.1+1)),((x5.2.1.1,(x5.2.1.2.1,(x5.2.1.2.2.1,(x5.2.1.2.2.2++(x6.2::[]))))),x6.1)))
(.done none))))
(.done (Ad (Eb x5.2.1) none (fun x6 =>
(cnd ((x5.2.2.2||(!(x6.2==0)))||(!(bytes_Equal (x6.1,x))))
(some ((0,(0,(0,[]))),8))
(some (x5.2.1,0)))))))) AA ((0:Int),((x1.2,((wr .u8 x2.2),(x3.2,[]))),x4.1)))))))))))
def GD (x:Ae×A6×List BY):Option (Bool) :=
(Ad (JT ()) none (fun x1 =>
(cnd (!x1)
(some false)
(Ad (JD (x.1,((x.2.1.1,()),x.2.2))) none (fun x2 =>
(cnd (!x2)
(some x1)
(Ad (Cx (x.1,(x.2.1.1,()))) none (fun x3 =>
(cnd (!(x3.2==0))
(some x1)
(iter none (fun x4 =>
(cnd (decide (x4.2.1<(Aa x.2.2)))
(Ad (idx x.2.2 x4.2.1) (.done none) (fun x5 =>
(Ad (Gx (x.1,(((x4.2.2.1.1,()),x4.2.2.2),x5))) (.done none) (fun x6 =>
(Ad (Cz x6.2.2.1) (.done none) (fun x7 =>
(cnd ((((!(x6.2.2.2==0))||(!(x7.2.2==0)))||(!(x4.2.2.2.2.2.2.2.2.2.2.2.2.2.2.2.1==x4.2.1)))||(decide (1<(Aa x7.1))))
(.done (some false))
(Ad (idx x.2.2 x4.2.1) (.done none) (fun x8 =>
(cnd x8.2.2.2.1
(cnd (!((Aa x6.2.2.1)==0))
(.done (some false))
(.next (x4.1,((wr .i64 (x4.2.1+1)),((x6.1.1.1,()),x6.1.2)))))
(cnd (!(x.1.2.2.2.2.2.2.2.2.2.1==0))
(cnd (!((FX (wr .i64 (x4.2.1+1)) x.1.2.2.2.2.2.2.2.2.2.1)==0))
(cnd (!((Aa x6.2.2.1)==0))
(.done (some false))
(.next (x4.1,((wr .i64 (x4.2.1+1)),((x6.1.1.1,()),x6.1.2)))))
(cnd (!((Aa x7.1)==1))
(.done (some false))
(Ad (idx x7.1 0) (.done none) (fun x9 =>
(cnd (!(x9.1==3))
(.done (some false))
(Ad (idx x7.1 0) (.done none) (fun x10 =>
(cnd (!(x10.2.1==(wr .u32 (x4.1+1))))
(.done (some false))
(Ad (idx x7.1 0) (.done none) (fun x11 =>
(Ad (FI x11.2.2) (.done none) (fun x12 =>
(cnd (((((!(x12.2==0))||(!(x12.1.1==x.1.1)))||(!(x12.1.2.1==x6.1.2.2.1.1)))||(!(x12.1.2.2.1==x4.2.1)))||(!((Aa x12.1.2.2.2)==(Aa x.1.2.2.2.2.1))))
(.done (some false))
(iter (.done none) (fun x13 =>
(cnd (decide (x13<(Aa x12.1.2.2.2)))
(Ad (idx x12.1.2.2.2 x13) (.done (.done none)) (fun x14 =>
(cnd (decide (x14<0))
(.done (.done (some false)))
(Ad (idx x12.1.2.2.2 x13) (.done (.done none)) (fun x15 =>
(cnd (decide (65536<x15))
(.done (.done (some false)))
(.next (wr .i64 (x13+1)))))))))
(.done (.next ((wr .u32 (x4.1+1)),((wr .i64 (x4.2.1+1)),((x6.1.1.1,()),x6.1.2))))))) AA (0:Int)))))))))))))))
(.done none))))))))))))
(.done (some x1)))) AA ((0:Int),((0:Int),((x3.1.1.1,()),x3.1.2)))))))))))))
end Go.Proofs.YtmmkfcpdfnjgjaaGreatDoor
