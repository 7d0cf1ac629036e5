/- Part of a proof: plain readings of Go functions, their contracts, or plain facts of them. -/
import Derived.Test.YtmmkfcpdfnjgjaaGreatDoorDen3
namespace Go.Proofs.YtmmkfcpdfnjgjaaGreatDoor
open Go.Den Go.RowKit Go.ChangeShapes
abbrev I64:=Ty.int .i64
abbrev Bo:=Ty.bool
abbrev U8:=Ty.int .u8
abbrev Kq:=Ty.pair U8 (Ty.pair I64 I64)
abbrev CC:Type:=Int×(Int×Int)
abbrev Afr:=Ty.slice Kq
abbrev U32:=Ty.int .u32
abbrev PR:=Ty.slice U32
abbrev Ee:=Ty.slice I64
abbrev AhA:=Ty.slice Ee
abbrev AgU:=Ty.pair U32 (Ty.pair I64 (Ty.pair I64 (Ty.pair I64 Bo)))
abbrev I9:Type:=Int×(Int×(Int×(Int×Bool)))
abbrev Afs:=Ty.slice AgU
abbrev AhY:=Ty.pair I64 (Ty.pair I64 (Ty.pair I64 I64))
abbrev V5:Type:=Int×(Int×(Int×Int))
abbrev AhC:=Ty.slice AhY
abbrev Cc:=Ty.pair I64 (Ty.pair I64 Ee)
abbrev Az:Type:=Int×(Int×List Int)
abbrev FW:=Ty.slice Cc
abbrev Ai:=Ty.pair I64 (Ty.pair Afr (Ty.pair PR (Ty.pair AhA (Ty.pair Afs (Ty.pair AhC (Ty.pair I64 (Ty.pair I64 (Ty.pair I64 (Ty.pair I64 (Ty.pair I64 FW))))))))))
abbrev Ad:Type:=Int×(List CC×(List Int×(List (List Int)×(List I9×(List V5×(Int×(Int×(Int×(Int×(Int×List Az))))))))))
abbrev U8s:=Ty.slice U8
abbrev AL:=Ty.pair U8s .unit
abbrev Bb:Type:=List Int×Unit
abbrev U64:=Ty.int .u64
abbrev Ad5:=Ty.pair U8s Bo
abbrev AbZ:Type:=List Int×Bool
abbrev CZ:=Ty.pair Ad5 Ai
abbrev FD:Type:=AbZ×Ad
abbrev Lj:=Ty.slice U8s
abbrev HT:=Ty.pair I64 (Ty.pair U8 FW)
abbrev Bt:Type:=Int×(Int×List Az)
abbrev JW:=Ty.pair HT (Ty.pair Lj Bo)
abbrev E5:Type:=Bt×(List (List Int)×Bool)
abbrev Ga:=Ty.pair U8 (Ty.pair I64 I64)
abbrev A5:Type:=Int×(Int×Int)
abbrev To:=Ty.slice Ga
abbrev A9:=Ty.pair To (Ty.pair I64 Bo)
abbrev Aq:Type:=List A5×(Int×Bool)
abbrev EW:=Ty.pair U8 (Ty.pair I64 Bo)
abbrev BR:Type:=Int×(Int×Bool)
abbrev X4:=Ty.pair I64 I64
abbrev Ej:Type:=Int×Int
abbrev He:=Ty.pair Bo (Ty.pair U32 I64)
abbrev Cy:Type:=Bool×(Int×Int)
abbrev Kr:=Ty.pair Bo (Ty.pair Bo I64)
abbrev BH:Type:=Bool×(Bool×Int)
abbrev V9:=Ty.slice Kr
abbrev Ep:=Ty.pair Bo (Ty.pair I64 (Ty.pair U64 (Ty.pair Bo I64)))
abbrev AK:Type:=Bool×(Int×(Int×(Bool×Int)))
abbrev CN:=Ty.slice Ep
abbrev Eo:=Ty.pair Bo (Ty.pair I64 (Ty.pair I64 (Ty.pair I64 U64)))
abbrev Bj:Type:=Bool×(Int×(Int×(Int×Int)))
abbrev X3:=Ty.slice Eo
abbrev Bu:=Ty.pair AL (Ty.pair A9 (Ty.pair EW (Ty.pair X4 (Ty.pair He (Ty.pair U8s (Ty.pair Cc (Ty.pair I64 (Ty.pair V9 (Ty.pair CN (Ty.pair X3 (Ty.pair U32 (Ty.pair I64 (Ty.pair I64 (Ty.pair Ee (Ty.pair Ee (Ty.pair Ee U32))))))))))))))))
abbrev AM:Type:=Bb×(Aq×(BR×(Ej×(Cy×(List Int×(Az×(Int×(List BH×(List AK×(List Bj×(Int×(Int×(Int×(List Int×(List Int×(List Int×Int))))))))))))))))
abbrev FE:=Ty.pair U8 (Ty.pair U32 U8s)
abbrev BJ:Type:=Int×(Int×List Int)
abbrev Hs:=Ty.slice FE
abbrev Ad7:=Ty.pair U8s (Ty.pair Bo (Ty.pair Bo Bo))
abbrev Ab0:Type:=List Int×(Bool×(Bool×Bool))
abbrev Jz:=Ty.pair U8s Bo
abbrev Pe:Type:=List Int×Bool
abbrev Jy:=Ty.pair I64 (Ty.pair I64 (Ty.pair I64 Ee))
abbrev Iy:Type:=Int×(Int×(Int×List Int))
abbrev Oe:=Ty.pair U8s (Ty.pair U32 (Ty.pair U8s (Ty.pair Bo (Ty.pair I64 (Ty.pair I64 Bo)))))
abbrev Cd:Type:=List Int×(Int×(List Int×(Bool×(Int×(Int×Bool)))))
abbrev Ad6:=Ty.pair I64 U8s
abbrev CS:Type:=Int×List Int
abbrev NO:=Ty.slice Ad6
abbrev A6:=Ty.pair Ai (Ty.pair Bu (Ty.pair Oe (Ty.pair NO (Ty.pair V9 (Ty.pair U8s (Ty.pair U8s U8s))))))
abbrev BX:Type:=Ad×(AM×(Cd×(List CS×(List BH×(List Int×(List Int×List Int))))))
abbrev HV:=Ty.pair Bo (Ty.pair Bo (Ty.pair Bo Bo))
abbrev DA:Type:=Bool×(Bool×(Bool×Bool))
abbrev Wa:=Ty.pair I64 (Ty.pair U8 (Ty.pair I64 Ee))
abbrev Jw:Type:=Int×(Int×(Int×List Int))
abbrev Hg:=Ty.slice Oe
abbrev Bos:=Ty.slice Bo
def Vx (x:Int×Int×Int):Option (Bool) :=
(some ((decide (x.2.1≤x.1))&&(decide (x.1≤x.2.2))))
def By (x:Int×Int×Int):Bool :=
(((decide (x.2.1≤x.1))&&(decide (x.1≤x.2.2))))
theorem AdG (x:Int×Int×Int):Vx x=some (By x):=by
 unfold Vx By
 rfl
def Ip (x:Ad):Option (Bool) :=
(AD (By ((Aa x.2.1),(1,16))) (fun y =>
(cnd ((((((!y)||(!((Aa x.2.2.1)==(Aa x.2.1))))||(!((Aa x.2.2.2.1)==(Aa x.2.1))))||(!(By ((Aa x.2.2.2.2.1),(1,8)))))||(decide (24<(Aa x.2.2.2.2.2.1))))||(decide (8<(Aa x.2.2.2.2.2.2.2.2.2.2.2))))
(some false)
(iter none (fun x1 =>
(cnd (decide (x1<(Aa x.2.2.2.1)))
(Ae (idx x.2.2.2.1 x1) (.done none) (fun x2 =>
(cnd (!((Aa x2)==(Aa x.2.1)))
(.done (some false))
(Ae (idx x.2.2.1 x1) (.done none) (fun x3 =>
(cnd (decide (0≤(Aa x.2.1)))
(cnd (!((Ay Go.IntKind.u32 x3 (Aa x.2.1))==0))
(.done (some false))
(.next (wr .i64 (x1+1))))
(.done none)))))))
(.done (some true)))) AE (0:Int)))))
def O5 (x:List Int):Option (Bool) :=
(iter none (fun x1 =>
(cnd (decide (x1<(Aa x)))
(Ae (idx x x1) (.done none) (fun x2 =>
(AD (By (x2,(1,1048576))) (fun y =>
(cnd (!y)
(.done (some false))
(.next (wr .i64 (x1+1))))))))
(.done (some true)))) AE (0:Int))
def Bz (x:List Int):Bool:=x.all fun n=>decide (1≤n)&&decide (n≤1048576)
theorem rV (x:List Int) (hf:I8 [Ee] x):O5 x=some (Bz x):=by
 unfold O5
 obtain⟨b,h1,h2⟩:=M4 (l:=x) (bad:=none) (no:=some false) (yes:=some true) (f:=fun x1 =>
(cnd (decide (x1<(Aa x)))
(Ae (idx x x1) (.done none) (fun x2 =>
(AD (By (x2,(1,1048576))) (fun y =>
(cnd (!y)
(.done (some false))
(.next (wr .i64 (x1+1))))))))
(.done (some true)))) (fun _ n=>By (n,(1,1048576))=true) hf.1 (fun i n h0 h1 hn=>by
  simp only[h1,decide_true,cnd,hn,Ae,AD]
  cases By (n,(1,1048576))<;>simp) (fun i hi=>by simp[hi,cnd])
 rw[h1]
 have:b=Bz x:=by
  apply Bool.eq_iff_iff.2
  rw[h2]
  unfold Bz By
  simp only[List.all_eq_true]
  exact ⟨fun h n hn=>by obtain⟨i,hi⟩:=D9 hn;exact h i n hi,fun h i n hi=>h n (An hi).2.2⟩
 rw[this]
 cases Bz x<;>rfl
def Sl (x:Int):Option (Int) :=
(cnd ((decide (x<0))||(decide (31<x)))
(some 0)
(cnd (decide (0≤x))
(some (Bd Go.IntKind.u32 1 x))
 none))
def DK (x:Int):Int:=cnd (decide (x<0)||decide (31<x)) 0 (Bd .u32 1 x)
theorem Abk (x:Int) (_:I8 [I64] x):Sl x=some (DK x):=by
 unfold Sl DK
 by_cases h:x<0
 ·simp[h,cnd]
 ·have h':0≤x:=by omega
  by_cases h2:31<x
  ·simp[h2,cnd]
  ·simp[h,h2,h',cnd]
def Sj (x:Int×Int):Option (Bool) :=
(AD (DK x.2) (fun y =>
(some (!((Aj Go.BinOp.and Go.IntKind.u32 x.1 y)==0)))))
def Ei (x:Int×Int):Bool :=
(AD (DK x.2) (fun y =>
((!((Aj Go.BinOp.and Go.IntKind.u32 x.1 y)==0)))))
theorem Abh (x:Int×Int):Sj x=some (Ei x):=by
 unfold Sj Ei
 simp only[AD]
def Io (x:Ad):Option (Bool) :=
(iter none (fun x1 =>
(cnd (decide (x1<(Aa x.2.1)))
(Ae (idx x.2.1 x1) (.done none) (fun x2 =>
(cnd (((!(x2.1==1))&&(!(x2.1==2)))||(!(Bz (x2.2.1::(x2.2.2::[])))))
(.done (some false))
(Ae (idx x.2.2.2.1 x1) (.done none) (fun x3 =>
(iter (.done none) (fun x4 =>
(cnd (decide (x4<(Aa x3)))
(Ae (idx x3 x4) (.done (.done none)) (fun x5 =>
(Ae (idx x.2.2.1 x1) (.done (.done none)) (fun x6 =>
(AD (Ei (x6,x4)) (fun y =>
(Ae (idx x.2.2.1 x4) (.done (.done none)) (fun x7 =>
(AD (Ei (x7,x1)) (fun y1 =>
(cnd (!(y==y1))
(.done (.done (some false)))
(cnd (y&&(x1==x4))
(.done (.done (some false)))
(cnd (y&&(!(By (x5,(x2.2.2,1048576)))))
(.done (.done (some false)))
(cnd ((!y)&&(!(x5==0)))
(.done (.done (some false)))
(.next (wr .i64 (x4+1)))))))))))))))))
(.done (.next (wr .i64 (x1+1)))))) AE (0:Int)))))))
(.done (some true)))) AE (0:Int))
def Bv (x:Int):Int:=low x
def OX (x:Int):Option (Int) :=
(cnd (x==0)
(some (-1))
(AD (Bv x) (fun y =>
(some y))))
def GB (x:Int):Int :=
(cnd (x==0)
((-1))
(AD (Bv x) (fun y =>
(y))))
theorem pS (x:Int):OX x=some (GB x):=by
 unfold OX GB
 simp only[AD,Eg]
def ME (x:Int×Int):Option (Int) :=
(AD (DK x.2) (fun y =>
(some (Aj Go.BinOp.andNot Go.IntKind.u32 x.1 y))))
def Co (x:Int×Int):Int :=
(AD (DK x.2) (fun y =>
((Aj Go.BinOp.andNot Go.IntKind.u32 x.1 y))))
theorem dS (x:Int×Int):ME x=some (Co x):=by
 unfold ME Co
 simp only[AD]
def IK (x:Int):Int:=cnt x
def OW (x:Int):Option (Int) :=
(AD (IK x) (fun y =>
(some y)))
def HE (x:Int):Int :=
(AD (IK x) (fun y =>
(y)))
theorem pO (x:Int):OW x=some (HE x):=by
 unfold OW HE
 simp only[AD]
def Ho (x:Ad):Option (Bool) :=
(iter none (fun x1 =>
(cnd (decide (x1.2<(Aa x.2.2.2.2.1)))
(Ae (idx x.2.2.2.2.1 x1.2) (.done none) (fun x2 =>
(cnd (x2.1==0)
(.done (some false))
(cnd (decide (0≤(Aa x.2.1)))
(cnd (((!((Ay Go.IntKind.u32 x2.1 (Aa x.2.1))==0))||(!(Bz (x2.2.1::(x2.2.2.1::(x2.2.2.2.1::[]))))))||(decide (x2.2.2.1<x2.2.1)))
(.done (some false))
(iter (.done none) (fun x3 =>
(cnd (!(x3==0))
(AD (GB x3) (fun y =>
(AD (Co (x3,y)) (fun y1 =>
(Ae (idx x.2.1 y) (.done (.done none)) (fun x4 =>
(cnd (decide (x2.2.1<x4.2.1))
(.done (.done (some false)))
(Ae (idx x.2.2.1 y) (.done (.done none)) (fun x5 =>
(cnd (!((Aj Go.BinOp.and Go.IntKind.u32 x5 x2.1)==0))
(.done (.done (some false)))
(.next y1)))))))))))
(.done (.next ((Aj Go.BinOp.or Go.IntKind.u32 x1.1 x2.1),(wr .i64 (x1.2+1))))))) AE x2.1))
(.done none)))))
(.done (AD (HE x1.1) (fun y =>
(some (y==(Aa x.2.1)))))))) AE ((0:Int),(0:Int)))
def Jj (x:Ad):Option (Bool) :=
(iter none (fun x1 =>
(cnd (decide (x1<(Aa x.2.2.2.2.2.1)))
(Ae (idx x.2.2.2.2.2.1 x1) (.done none) (fun x2 =>
(AD (By (x2.1,(0,(wr .i64 ((Aa x.2.2.2.2.1)-1))))) (fun y =>
(cnd (((!y)||(!(Bz (x2.2.1::(x2.2.2.1::[])))))||(!(By (x2.2.2.2,(1,64)))))
(.done (some false))
(.next (wr .i64 (x1+1))))))))
(.done (some true)))) AE (0:Int))
def F8 (x:Ad×Int×Int):Option (Int) :=
(iter none (fun x1 =>
(cnd (decide (x1.2<(Aa x.1.2.1)))
(Ae (idx x.1.2.2.2.2.1 x.2.1) (.done none) (fun x2 =>
(AD (Ei (x2.1,x1.2)) (fun y =>
(cnd (!y)
(.next (x1.1,(wr .i64 (x1.2+1))))
(Ae (idx x.1.2.2.1 x1.2) (.done none) (fun x3 =>
(Ae (idx x.1.2.2.2.2.1 x.2.2) (.done none) (fun x4 =>
(iter (.done none) (fun x5 =>
(cnd (!(x5.2==0))
(AD (GB x5.2) (fun y1 =>
(AD (Co (x5.2,y1)) (fun y2 =>
(Ae (idx x.1.2.2.2.1 x1.2) (.done (.done none)) (fun x6 =>
(Ae (idx x6 y1) (.done (.done none)) (fun x7 =>
(.next ((Cw x5.1 x7),y2))))))))))
(.done (.next (x5.1,(wr .i64 (x1.2+1))))))) AE (x1.1,(Aj Go.BinOp.and Go.IntKind.u32 x3 x4.1))))))))))))
(.done (some x1.1)))) AE ((0:Int),(0:Int)))
def EC (x:Ad×Int):Option (Int) :=
(Ae (idx x.1.2.2.2.2.1 x.2) none (fun x1 =>
(cnd (!((Aa x.1.2.2.2.2.1)==0))
(Ae (F8 (x.1,(x.2,(Gm (wr .i64 (x.2+1)) (Aa x.1.2.2.2.2.1))))) none (fun x2 =>
(some (wr .i64 (x1.2.1+x2)))))
 none)))
def Iq (x:Ad):Option (Bool) :=
(iter none (fun x1 =>
(cnd (decide (x1.2<(Aa x.2.2.2.2.1)))
(Ae (EC (x,x1.2)) (.done none) (fun x2 =>
(.next ((wr .i64 (x1.1+x2)),(wr .i64 (x1.2+1))))))
(.done (AD (Bz (x.2.2.2.2.2.2.1::(x.2.2.2.2.2.2.2.1::(x.2.2.2.2.2.2.2.2.1::(x.2.2.2.2.2.2.2.2.2.1::(x.2.2.2.2.2.2.2.2.2.2.1::[])))))) (fun y =>
(some ((y&&(decide (x1.1≤x.2.2.2.2.2.2.2.2.2.1)))&&(decide (x.2.2.2.2.2.2.2.2.2.1≤x.2.2.2.2.2.2.2.2.2.2.1))))))))) AE ((0:Int),(0:Int)))
def GO (x:Ad×Az):Option (Bool) :=
(AD (By (x.2.1,(x.1.2.2.2.2.2.2.2.2.2.1,x.1.2.2.2.2.2.2.2.2.2.2.1))) (fun y =>
(cnd (((!y)||(!(By (x.2.2.1,(0,(wr .i64 (x.2.1-1)))))))||(!((Aa x.2.2.2)==(Aa x.1.2.2.2.2.1))))
(some false)
(iter none (fun x1 =>
(cnd (decide (x1.2<(Aa x.2.2.2)))
(Ae (idx x.2.2.2 x1.2) (.done none) (fun x2 =>
(Ae (EC (x.1,x1.2)) (.done none) (fun x3 =>
(AD (By (x2,(x3,x1.1))) (fun y1 =>
(cnd (!y1)
(.done (some false))
(.next ((wr .i64 (x1.1-x2)),(wr .i64 (x1.2+1)))))))))))
(.done (some (x1.1==0))))) AE (x.2.1,(0:Int))))))
def GY (x:Ad):Option (Bool) :=
(iter none (fun x1 =>
(cnd (decide (x1<(Aa x.2.2.2.2.2.2.2.2.2.2.2)))
(Ae (idx x.2.2.2.2.2.2.2.2.2.2.2 x1) (.done none) (fun x2 =>
(Ae (GO (x,x2)) (.done none) (fun x3 =>
(cnd (!x3)
(.done (some false))
(.next (wr .i64 (x1+1))))))))
(.done (some true)))) AE (0:Int))
def Aw (x:Ad):Option (Int) :=
(iter none (fun x1 =>
(cnd (decide (x1.2<6))
(cnd (x1.2==0)
(AD (By (x.1,(0,65535))) (fun y =>
(cnd (!y)
(.done (some 50))
(Ae (Ip x) (.done none) (fun x2 =>
(cnd (!x2)
(.done (cnd (!x2)
(some 50)
(some 0)))
(.next ((!x2),(wr .i64 (x1.2+1))))))))))
(cnd (x1.2==1)
(Ae (Io x) (.done none) (fun x2 =>
(cnd (!x2)
(.done (cnd (!x2)
(some 50)
(some 0)))
(.next ((!x2),(wr .i64 (x1.2+1)))))))
(cnd (x1.2==2)
(Ae (Ho x) (.done none) (fun x2 =>
(cnd (!x2)
(.done (cnd (!x2)
(some 50)
(some 0)))
(.next ((!x2),(wr .i64 (x1.2+1)))))))
(cnd (x1.2==3)
(Ae (Jj x) (.done none) (fun x2 =>
(cnd (!x2)
(.done (cnd (!x2)
(some 50)
(some 0)))
(.next ((!x2),(wr .i64 (x1.2+1)))))))
(cnd (x1.2==4)
(Ae (Iq x) (.done none) (fun x2 =>
(cnd (!x2)
(.done (cnd (!x2)
(some 50)
(some 0)))
(.next ((!x2),(wr .i64 (x1.2+1)))))))
(cnd (x1.2==5)
(Ae (GY x) (.done none) (fun x2 =>
(cnd (!x2)
(.done (cnd (!x2)
(some 50)
(some 0)))
(.next ((!x2),(wr .i64 (x1.2+1)))))))
(cnd x1.1
(.done (cnd x1.1
(some 50)
(some 0)))
(.next (x1.1,(wr .i64 (x1.2+1)))))))))))
(.done (cnd x1.1
(some 50)
(some 0))))) AE (false,(0:Int)))
def CY (x:Ad×Az):Option (Bool×Int) :=
(Ae (Aw x.1) none (fun x1 =>
(cnd (!(x1==0))
(some (false,x1))
(Ae (GO x) none (fun x2 =>
(some (x2,0)))))))
def VS (_:Unit):Option (Ad) :=
(some (1,(((1,(2,1))::((1,(2,1))::[])),((2::(1::[])),(((0::(2::[]))::((2::(0::[]))::[])),(((1,(2,(5,(1,false))))::((2,(2,(5,(1,false))))::[])),([],(3,(2,(4,(8,(20,[]))))))))))))
def Rg (_:Unit):Ad :=
((1,(((1,(2,1))::((1,(2,1))::[])),((2::(1::[])),(((0::(2::[]))::((2::(0::[]))::[])),(((1,(2,(5,(1,false))))::((2,(2,(5,(1,false))))::[])),([],(3,(2,(4,(8,(20,[]))))))))))))
theorem AdR (x:Unit):VS x=some (Rg x):=by
 unfold VS Rg
 rfl
def GC (_:Unit):Option (Bb) :=
(cnd (DP 256 1)
(some ((AQ 256 0),()))
 none)
def Ns (x:Bb):Option (Int) :=
(cnd ((decide ((Aa x.1)<64))||(decide (4096<(Aa x.1))))
(some 180)
(cnd (!((Gm (Aa x.1) 64)==0))
(some 180)
(some 0)))
def CX (x:Bb):Int :=
(cnd ((decide ((Aa x.1)<64))||(decide (4096<(Aa x.1))))
(180)
(cnd (!((Gm (Aa x.1) 64)==0))
(180)
(0)))
theorem iD (x:Bb):Ns x=some (CX x):=by
 unfold Ns CX
 simp only[Eg]
def Ok (x:Bb):Option (Int×Int) :=
(AD (CX (x.1,())) (fun y =>
(cnd (!(y==0))
(some (0,y))
(some ((Fi Go.IntKind.i64 (Aa x.1) 64),0)))))
def Cv (x:Bb):Int×Int :=
(AD (CX (x.1,())) (fun y =>
(cnd (!(y==0))
((0,y))
(((Fi Go.IntKind.i64 (Aa x.1) 64),0)))))
theorem lC (x:Bb):Ok x=some (Cv x):=by
 unfold Ok Cv
 simp only[AD,Eg]
def MA (x:Bb):Option (Bool) :=
(AD (Cv (x.1,())) (fun y =>
(AD (CX (x.1,())) (fun y1 =>
(some (((y1==0)&&(y.2==0))&&(decide (2≤y.1))))))))
def Dv (x:Bb):Bool :=
(AD (Cv (x.1,())) (fun y =>
(AD (CX (x.1,())) (fun y1 =>
((((y1==0)&&(y.2==0))&&(decide (2≤y.1))))))))
theorem dE (x:Bb):MA x=some (Dv x):=by
 unfold MA Dv
 simp only[AD]
def Nt (x:Bb×Int):Option (Int) :=
(AD (Cv (x.1.1,())) (fun y =>
(cnd ((y.2==0)&&((decide (x.2<0))||(decide (y.1≤x.2))))
(some 2)
(some y.2))))
def FM (x:Bb×Int):Int :=
(AD (Cv (x.1.1,())) (fun y =>
(cnd ((y.2==0)&&((decide (x.2<0))||(decide (y.1≤x.2))))
(2)
(y.2))))
theorem iG (x:Bb×Int):Nt x=some (FM x):=by
 unfold Nt FM
 simp only[AD,Eg]
def JZ (x:Bb×Int):Option (List Int) :=
(cnd ((decide (0≤(wr .i64 (x.2*64))))&&(decide ((wr .i64 (x.2*64))≤(Aa x.1.1))))
(cnd (decide (64≤(Aa (Bf x.1.1 (wr .i64 (x.2*64))))))
(some (AF (Bf x.1.1 (wr .i64 (x.2*64))) 64))
 none)
 none)
def C5 (x:List Int):Option (List Int) :=
(cnd (true&&(AS (0+(Aa x)) 1))
(some ([]++x))
 none)
def Cm (x:Bb×Int):Option (List Int×Int) :=
(AD (FM ((x.1.1,()),x.2)) (fun y =>
(cnd (!(y==0))
(some ([],y))
(Ae (JZ ((x.1.1,()),x.2)) none (fun x1 =>
(Ae (C5 x1) none (fun x2 =>
(some (x2,0)))))))))
def F4 (x:List Int):Option (Int×Int) :=
(cnd ((decide ((Aa x)<1))||(decide (8<(Aa x))))
(some (0,8))
(iter none (fun x1 =>
(cnd (decide (x1.2<(Aa x)))
(Ae (idx x x1.2) (.done none) (fun x2 =>
(cnd (decide (0≤(wr .i64 (8*x1.2))))
(.next ((Aj Go.BinOp.or Go.IntKind.u64 x1.1 (Bd Go.IntKind.u64 (wr .u64 x2) (wr .i64 (8*x1.2)))),(wr .i64 (x1.2+1))))
(.done none))))
(.done (some (x1.1,0))))) AE ((0:Int),(0:Int))))
def B8 (x:List Int):Option (Int) :=
(Ae (F4 x) none (fun x1 =>
(some x1.1)))
def Dn (x:List Int):Option (Int×Int×Int) :=
(iter none (fun x1 =>
(cnd (decide (x1.2<(Aa x)))
(Ae (idx x x1.2) (.done none) (fun x2 =>
(cnd ((x1.2==9)&&(decide (1<x2)))
(.done (some (0,(0,8))))
(cnd (decide (0≤(wr .i64 (7*x1.2))))
(cnd (decide (x2<128))
(cnd ((x2==0)&&(decide (0<x1.2)))
(.done (some (0,(0,8))))
(.done (some ((Aj Go.BinOp.or Go.IntKind.u64 x1.1 (Bd Go.IntKind.u64 (wr .u64 (Aj Go.BinOp.and Go.IntKind.u8 x2 127)) (wr .i64 (7*x1.2)))),((wr .i64 (x1.2+1)),0)))))
(.next ((Aj Go.BinOp.or Go.IntKind.u64 x1.1 (Bd Go.IntKind.u64 (wr .u64 (Aj Go.BinOp.and Go.IntKind.u8 x2 127)) (wr .i64 (7*x1.2)))),(wr .i64 (x1.2+1)))))
(.done none)))))
(.done (some (0,(0,8)))))) AE ((0:Int),(0:Int)))
def BD (x:FD×Int):Option (FD×Int) :=
(Ae (Dn x.1.1.1) none (fun x1 =>
(cnd ((!(x1.2.2==0))||(decide ((wr .u64 x.2)<x1.1)))
(some (((x.1.1.1,true),x.1.2),0))
(cnd ((decide (0≤x1.2.1))&&(decide (x1.2.1≤(Aa x.1.1.1))))
(some ((((Bf x.1.1.1 x1.2.1),x.1.1.2),x.1.2),(wr .i64 x1.1)))
 none))))
def CI (x:FD×Int):Option (FD×List Int) :=
(iter none (fun x1 =>
(cnd (decide (x1.2.1<x.2))
(Ae (BD (x1.2.2,1048576)) (.done none) (fun x2 =>
(cnd (true&&(AS ((Aa x1.1)+(Aa (x2.2::[]))) 8))
(.next ((x1.1++(x2.2::[])),((wr .i64 (x1.2.1+1)),x2.1)))
(.done none))))
(.done (some (x1.2.2,x1.1))))) AE ([],((0:Int),x.1)))
def CV (x:FD):Option (FD×List Az) :=
(Ae (BD (x,8)) none (fun x1 =>
(iter none (fun x2 =>
(cnd (decide (x2.2.1<x1.2))
(Ae (BD (x2.2.2,1048576)) (.done none) (fun x3 =>
(Ae (BD (x3.1,1048576)) (.done none) (fun x4 =>
(Ae (BD (x4.1,8)) (.done none) (fun x5 =>
(Ae (CI x5) (.done none) (fun x6 =>
(cnd (true&&(AS ((Aa x2.1)+(Aa ((x3.2,(x4.2,x6.2))::[]))) 40))
(.next ((x2.1++((x3.2,(x4.2,x6.2))::[])),((wr .i64 (x2.2.1+1)),x6.1)))
(.done none))))))))))
(.done (some (x2.2.2,x2.1))))) AE ([],((0:Int),x1.1)))))
def CK (x:Int):Option (List Int) :=
(iter none (fun x1 =>
(cnd (decide (127<x1.1))
(cnd (true&&(AS ((Aa x1.2)+(Aa ((Aj Go.BinOp.or Go.IntKind.u8 (wr .u8 x1.1) 128)::[]))) 1))
(.next ((Ay Go.IntKind.u64 x1.1 7),(x1.2++((Aj Go.BinOp.or Go.IntKind.u8 (wr .u8 x1.1) 128)::[]))))
(.done none))
(.done (cnd (true&&(AS ((Aa x1.2)+(Aa ((wr .u8 x1.1)::[]))) 1))
(some (x1.2++((wr .u8 x1.1)::[])))
 none)))) AE (x,[]))
def EB (x:List Az):Option (List Int×Int) :=
(cnd (decide (8<(Aa x)))
(some ([],4))
(iter none (fun x1 =>
(cnd (decide (x1.2<(Aa ((Aa x)::[]))))
(Ae (idx ((Aa x)::[]) x1.2) (.done none) (fun x2 =>
(Ae (CK (wr .u64 x2)) (.done none) (fun x3 =>
(cnd (true&&(AS ((Aa x1.1)+(Aa x3)) 1))
(.next ((x1.1++x3),(wr .i64 (x1.2+1))))
(.done none))))))
(.done (iter none (fun x2 =>
(cnd (decide (x2.1<(Aa x)))
(Ae (idx x x2.1) (.done none) (fun x3 =>
(AD (Bz (x3.1::[])) (fun y =>
(cnd (((!y)||(!(By (x3.2.1,(0,(wr .i64 (x3.1-1)))))))||(!(By ((Aa x3.2.2),(1,8)))))
(.done (some ([],170)))
(iter (.done none) (fun x4 =>
(cnd (decide (x4.2<(Aa (x3.1::(x3.2.1::((Aa x3.2.2)::[]))))))
(Ae (idx (x3.1::(x3.2.1::((Aa x3.2.2)::[]))) x4.2) (.done (.done none)) (fun x5 =>
(Ae (CK (wr .u64 x5)) (.done (.done none)) (fun x6 =>
(cnd (true&&(AS ((Aa x4.1)+(Aa x6)) 1))
(.next ((x4.1++x6),(wr .i64 (x4.2+1))))
(.done (.done none)))))))
(.done (iter (.done none) (fun x5 =>
(cnd (decide (x5.1<(Aa x3.2.2)))
(Ae (idx x3.2.2 x5.1) (.done (.done none)) (fun x6 =>
(AD (By (x6,(0,1048576))) (fun y1 =>
(cnd (!y1)
(.done (.done (some ([],170))))
(iter (.done (.done none)) (fun x7 =>
(cnd (decide (x7.2<(Aa (x6::[]))))
(Ae (idx (x6::[]) x7.2) (.done (.done (.done none))) (fun x8 =>
(Ae (CK (wr .u64 x8)) (.done (.done (.done none))) (fun x9 =>
(cnd (true&&(AS ((Aa x7.1)+(Aa x9)) 1))
(.next ((x7.1++x9),(wr .i64 (x7.2+1))))
(.done (.done (.done none))))))))
(.done (.next ((wr .i64 (x5.1+1)),x7.1))))) AE (x5.2,(0:Int))))))))
(.done (.next ((wr .i64 (x2.1+1)),x5.2))))) AE ((0:Int),x4.1))))) AE (x2.2,(0:Int))))))))
(.done (some (x2.2,0))))) AE ((0:Int),x1.1))))) AE ([],(0:Int))))
def Nv (x:List Int×List Int):Option (Bool) :=
(some ((bytesOf x.1)==(bytesOf x.2)))
def bytes_Equal (x:List Int×List Int):Bool :=
(((bytesOf x.1)==(bytesOf x.2)))
theorem iJ (x:List Int×List Int):Nv x=some (bytes_Equal x):=by
 unfold Nv bytes_Equal
 rfl
def F7 (x:List Int):Option (List Az×Int) :=
(Ae (CV ((x,false),(0,([],([],([],([],([],(0,(0,(0,(0,(0,[]))))))))))))) none (fun x1 =>
(Ae (EB x1.2) none (fun x2 =>
(cnd ((x1.1.1.2||(!(x2.2==0)))||(!(bytes_Equal (x2.1,x))))
(some ([],8))
(some (x1.2,0)))))))
def F5 (x:Int×Int):Option (List Int×Int) :=
(cnd ((decide (x.2<1))||(decide (8<x.2)))
(some ([],2))
(cnd (decide (x.2<8))
(cnd (decide (0≤(wr .i64 (8*x.2))))
(cnd (!((Ay Go.IntKind.u64 x.1 (wr .i64 (8*x.2)))==0))
(some ([],2))
(cnd ((decide (0≤x.2))&&((decide (x.2≤x.2))&&(DP x.2 1)))
(iter none (fun x1 =>
(cnd (decide (x1.1<(Aa (AQ x.2 (0:Int)))))
(cnd (decide (0≤(wr .i64 (8*x1.1))))
(Ae (idx x1.2 x1.1) (.done none) (fun _ =>
(Ae (idx x1.2 x1.1) (.done none) (fun _ =>
(.next ((wr .i64 (x1.1+1)),(Bc x1.2 x1.1 (wr .u8 (Ay Go.IntKind.u64 x.1 (wr .i64 (8*x1.1)))))))))))
(.done none))
(.done (some (x1.2,0))))) AE ((0:Int),(AQ x.2 (0:Int))))
 none))
 none)
(cnd ((decide (0≤x.2))&&((decide (x.2≤x.2))&&(DP x.2 1)))
(iter none (fun x1 =>
(cnd (decide (x1.1<(Aa (AQ x.2 (0:Int)))))
(cnd (decide (0≤(wr .i64 (8*x1.1))))
(Ae (idx x1.2 x1.1) (.done none) (fun _ =>
(Ae (idx x1.2 x1.1) (.done none) (fun _ =>
(.next ((wr .i64 (x1.1+1)),(Bc x1.2 x1.1 (wr .u8 (Ay Go.IntKind.u64 x.1 (wr .i64 (8*x1.1)))))))))))
(.done none))
(.done (some (x1.2,0))))) AE ((0:Int),(AQ x.2 (0:Int))))
 none)))
def G1 (x:List (List Int)×List Int):Option (List Int):=match x with
 |(a::b::r,[])=>if Aa (a::b::r)≤1000000∧Aa (a::b::r).flatten≤1000000 then some (a::b::r).flatten else none
 |_=>none
def BL (x:Bt×Int):Option (List (List Int)×Int) :=
(cnd ((decide (x.2<1))||(decide (32<x.2)))
(some ([],2))
(cnd (((decide (x.1.1<1))||(decide (4611686018427387904≤x.1.1)))||(decide (3<x.1.2.1)))
(some ([],190))
(Ae (EB x.1.2.2) none (fun x1 =>
(cnd (!(x1.2==0))
(some ([],x1.2))
(Ae (CK (wr .u64 x.1.2.1)) none (fun x2 =>
(cnd (true&&(AS ((Aa x2)+(Aa x1.1)) 1))
(Ae (CK (wr .u64 (Aa (x2++x1.1)))) none (fun x3 =>
(cnd (true&&(AS ((Aa x3)+(Aa (x2++x1.1))) 1))
(cnd (decide ((wr .i64 (48*x.2))<(Aa (x3++(x2++x1.1)))))
(some ([],190))
(cnd ((decide (0≤(wr .i64 ((wr .i64 (48*x.2))-(Aa (x3++(x2++x1.1)))))))&&(true&&(AS ((Aa (x3++(x2++x1.1)))+(wr .i64 ((wr .i64 (48*x.2))-(Aa (x3++(x2++x1.1)))))) 1)))
(Ae (F5 ((wr .u64 x.1.1),8)) none (fun x4 =>
(iter none (fun x5 =>
(cnd (decide (x5.2<x.2))
(cnd ((decide (0≤(wr .i64 (x5.2*48))))&&(decide ((wr .i64 (x5.2*48))≤(Aa ((x3++(x2++x1.1))++(AQ (wr .i64 ((wr .i64 (48*x.2))-(Aa (x3++(x2++x1.1))))) 0))))))
(cnd (decide (48≤(Aa (Bf ((x3++(x2++x1.1))++(AQ (wr .i64 ((wr .i64 (48*x.2))-(Aa (x3++(x2++x1.1))))) 0)) (wr .i64 (x5.2*48))))))
(Ae (G1 ((x4.1::((AF (Bf ((x3++(x2++x1.1))++(AQ (wr .i64 ((wr .i64 (48*x.2))-(Aa (x3++(x2++x1.1))))) 0)) (wr .i64 (x5.2*48))) 48)::(x4.1::[]))),[])) (.done none) (fun x6 =>
(cnd (true&&(AS ((Aa x5.1)+(Aa (x6::[]))) 24))
(.next ((x5.1++(x6::[])),(wr .i64 (x5.2+1))))
(.done none))))
(.done none))
(.done none))
(.done (some (x5.1,0))))) AE ([],(0:Int)))))
 none))
 none)))
 none))))))))
def AY (x:E5):Option (E5) :=
(iter none (fun x1 =>
(cnd (decide (x1.2<(Aa x.2.1)))
(Ae (idx x.2.1 x1.2) (.done none) (fun x2 =>
(cnd (decide (8≤(Aa x2)))
(cnd (decide (48≤(Aa (Bf x2 8))))
(cnd (true&&(AS ((Aa x1.1)+(Aa (AF (Bf x2 8) 48))) 1))
(.next ((x1.1++(AF (Bf x2 8) 48)),(wr .i64 (x1.2+1))))
(.done none))
(.done none))
(.done none))))
(.done (Ae (idx x.2.1 0) none (fun x2 =>
(cnd (decide (8≤(Aa x2)))
(Ae (B8 (AF x2 8)) none (fun x3 =>
(Ae (Dn x1.1) none (fun x4 =>
(cnd ((((!(x4.2.2==0))||(decide (x4.1<1)))||(decide ((wr .u64 (wr .i64 ((Aa x1.1)-x4.2.1)))<x4.1)))||(decide (4611686018427387904≤x3)))
(some x)
(cnd ((decide (0≤x4.2.1))&&(decide (x4.2.1≤(Aa x1.1))))
(cnd ((decide (0≤x4.1))&&(decide (x4.1≤((Aa x1.1)-x4.2.1))))
(Ae (Dn (Ff x1.1 x4.2.1 x4.1)) none (fun x5 =>
(cnd ((!(x5.2.2==0))||(decide (3<x5.1)))
(some x)
(cnd ((decide (0≤x5.2.1))&&(decide (x5.2.1≤x4.1)))
(Ae (F7 (Ff x1.1 (x4.2.1+x5.2.1) (x4.1-x5.2.1))) none (fun x6 =>
(cnd (!(x6.2==0))
(some x)
(Ae (BL (((wr .i64 x3),((wr .u8 x5.1),x6.1)),(Aa x.2.1))) none (fun x7 =>
(cnd (!(x7.2==0))
(some x)
(iter none (fun x8 =>
(cnd (decide (x8<(Aa x7.1)))
(Ae (idx x7.1 x8) (.done none) (fun x9 =>
(Ae (idx x.2.1 x8) (.done none) (fun x10 =>
(AD (bytes_Equal (x9,x10)) (fun y =>
(cnd (!y)
(.done (some x))
(.next (wr .i64 (x8+1))))))))))
(.done (some (((wr .i64 x3),((wr .u8 x5.1),x6.1)),(x.2.1,true)))))) AE (0:Int))))))))
 none))))
 none)
 none))))))
 none)))))) AE ([],(0:Int)))
def D5 (x:Bb):Option (Bt×Int) :=
(AD (Cv (x.1,())) (fun y =>
(cnd (!(y.2==0))
(cnd (!(y.2==0))
(some ((0,(0,[])),y.2))
 none)
(cnd (decide (y.1<2))
(some ((0,(0,[])),190))
(iter none (fun x1 =>
(cnd (decide (x1.1<(Fi Go.IntKind.i64 y.1 2)))
(Ae (Cm ((x.1,()),(wr .i64 ((wr .i64 (0*(Fi Go.IntKind.i64 y.1 2)))+x1.1)))) (.done none) (fun x2 =>
(cnd (true&&(AS ((Aa x1.2.2.1)+(Aa (x2.1::[]))) 24))
(.next ((wr .i64 (x1.1+1)),(x1.2.1,((x1.2.2.1++(x2.1::[])),x1.2.2.2))))
(.done none))))
(.done (Ae (AY x1.2) none (fun x2 =>
(iter none (fun x3 =>
(cnd (decide (x3.1<(Fi Go.IntKind.i64 y.1 2)))
(Ae (Cm ((x.1,()),(wr .i64 ((wr .i64 (1*(Fi Go.IntKind.i64 y.1 2)))+x3.1)))) (.done none) (fun x4 =>
(cnd (true&&(AS ((Aa x3.2.2.1)+(Aa (x4.1::[]))) 24))
(.next ((wr .i64 (x3.1+1)),(x3.2.1,((x3.2.2.1++(x4.1::[])),x3.2.2.2))))
(.done none))))
(.done (Ae (AY x3.2) none (fun x4 =>
(cnd (x2.2.2&&(!(x4.2.2&&(decide (x2.1.1<x4.1.1)))))
(some (x2.1,0))
(cnd x4.2.2
(some (x4.1,0))
(some ((0,(0,[])),190))))))))) AE ((0:Int),(((0:Int),((0:Int),[])),([],false))))))))) AE ((0:Int),(((0:Int),((0:Int),[])),([],false))))))))
def De (x:Ad×Int×Int):Option (Bool) :=
(Ae (idx x.1.2.2.1 x.2.1) none (fun x1 =>
(cnd (decide (0≤x.2.2))
(some ((Aj Go.BinOp.and Go.IntKind.u32 (Ay Go.IntKind.u32 x1 x.2.2) 1)==1))
 none)))
def DE (x:Ad×Int×Int):Option (Int) :=
(Ae (idx x.1.2.2.2.1 x.2.1) none (fun x1 =>
(Ae (idx x1 x.2.2) none (fun x2 =>
(some x2)))))
def BU (x:Ad):Option (Int) :=
(iter none (fun x1 =>
(cnd (decide (x1.2<(Aa x.2.1)))
(iter (.done none) (fun x2 =>
(cnd (decide (x2.2<(Aa x.2.1)))
(Ae (De (x,(x1.2,x2.2))) (.done (.done none)) (fun x3 =>
(cnd x3
(Ae (DE (x,(x1.2,x2.2))) (.done (.done none)) (fun x4 =>
(.next ((Cw x2.1 x4),(wr .i64 (x2.2+1))))))
(.next (x2.1,(wr .i64 (x2.2+1)))))))
(.done (.next (x2.1,(wr .i64 (x1.2+1))))))) AE (x1.1,(0:Int)))
(.done (some x1.1)))) AE ((0:Int),(0:Int)))
def Ii (x:Ad):Option (Aq) :=
(Ae (BU x) none (fun x1 =>
(iter none (fun x2 =>
(cnd (decide (x2.1<(Aa x.2.1)))
(cnd (true&&(AS ((Aa x2.2.2.1)+(Aa ((1,(1,1048576))::[]))) 24))
(.next ((wr .i64 (x2.1+1)),((),((x2.2.2.1++((1,(1,1048576))::[])),x2.2.2.2))))
(.done none))
(.done (some x2.2.2)))) AE ((0:Int),((),([],(x1,false)))))))
def Ig (x:Ad):Option (Aq×Int) :=
(Ae (Aw x) none (fun x1 =>
(cnd (!(x1==0))
(some (([],(0,false)),x1))
(Ae (Ii x) none (fun x2 =>
(some (x2,0)))))))
def Fp (x:List Int):Option (List Int) :=
(cnd (true&&(AS (0+(Aa x)) 1))
(some ([]++x))
 none)
def Mx (x:Int):Option (BR) :=
(cnd ((x==2)||(x==3))
(some (2,(0,false)))
(some (1,(0,false))))
def Cg (x:Int):BR :=
(cnd ((x==2)||(x==3))
((2,(0,false)))
((1,(0,false))))
theorem cO (x:Int):Mx x=some (Cg x):=by
 unfold Mx Cg
 simp only[Eg]
def Fu (x:Ad×Bb):Option (AM) :=
(Ae (D5 (x.2.1,())) none (fun x1 =>
(Ae (Ig x.1) none (fun x2 =>
(Ae (Fp x.2.1) none (fun x3 =>
(AD (Cg x1.1.2.1) (fun y =>
(cnd ((decide (0≤(Aa x.1.2.2.2.2.2.1)))&&((decide ((Aa x.1.2.2.2.2.2.1)≤(Aa x.1.2.2.2.2.2.1)))&&(DP (Aa x.1.2.2.2.2.2.1) 16)))
(cnd ((decide (0≤(Aa x.1.2.2.2.2.2.1)))&&((decide ((Aa x.1.2.2.2.2.2.1)≤(Aa x.1.2.2.2.2.2.1)))&&(DP (Aa x.1.2.2.2.2.2.1) 40)))
(cnd ((decide (0≤(Aa x.1.2.2.2.2.2.1)))&&((decide ((Aa x.1.2.2.2.2.2.1)≤(Aa x.1.2.2.2.2.2.1)))&&(DP (Aa x.1.2.2.2.2.2.1) 40)))
(cnd ((decide (0≤(Aa x.1.2.2.2.2.1)))&&((decide ((Aa x.1.2.2.2.2.1)≤(Aa x.1.2.2.2.2.1)))&&(DP (Aa x.1.2.2.2.2.1) 8)))
(cnd ((decide (0≤(Aa x.1.2.2.2.2.1)))&&((decide ((Aa x.1.2.2.2.2.1)≤(Aa x.1.2.2.2.2.1)))&&(DP (Aa x.1.2.2.2.2.1) 8)))
(cnd ((decide (0≤(Aa x.1.2.2.2.2.1)))&&((decide ((Aa x.1.2.2.2.2.1)≤(Aa x.1.2.2.2.2.1)))&&(DP (Aa x.1.2.2.2.2.1) 8)))
(some ((x3,()),(x2.1,(y,((0,0),((false,(0,0)),([],((0,(0,[])),(1048576,((AQ (Aa x.1.2.2.2.2.2.1) (false,(false,0))),((AQ (Aa x.1.2.2.2.2.2.1) (false,(0,(0,(false,0))))),((AQ (Aa x.1.2.2.2.2.2.1) (false,(0,(0,(0,0))))),(0,(0,(0,((AQ (Aa x.1.2.2.2.2.1) 0),((AQ (Aa x.1.2.2.2.2.1) 0),((AQ (Aa x.1.2.2.2.2.1) 0),0))))))))))))))))))
 none)
 none)
 none)
 none)
 none)
 none)))))))))
def BQ (x:Ad×Bb):Option (AM×Int) :=
(Ae (Aw x.1) none (fun x1 =>
(cnd (!(x1==0))
(some ((([],()),(([],(0,false)),((0,(0,false)),((0,0),((false,(0,0)),([],((0,(0,[])),(0,([],([],([],(0,(0,(0,([],([],([],0))))))))))))))))),x1))
(AD (Dv (x.2.1,())) (fun y =>
(cnd (!y)
(some ((([],()),(([],(0,false)),((0,(0,false)),((0,0),((false,(0,0)),([],((0,(0,[])),(0,([],([],([],(0,(0,(0,([],([],([],0))))))))))))))))),8))
(Ae (Fu (x.1,(x.2.1,()))) none (fun x2 =>
(some (((x2.1.1,()),x2.2),0))))))))))
def CD (x:List (List Int)):Option (List Int) :=
(iter none (fun x1 =>
(cnd (decide (x1.2<(Aa x)))
(Ae (idx x x1.2) (.done none) (fun x2 =>
(cnd (decide ((wr .i64 (x1.1+(Aa x2)))<0))
(.done none)
(.next ((wr .i64 (x1.1+(Aa x2))),(wr .i64 (x1.2+1)))))))
(.done (cnd (decide (x1.1<0))
 none
(cnd (decide (0<(wr .i64 (x1.1-0))))
(cnd ((decide (0≤(wr .i64 (x1.1-0))))&&(AS (wr .i64 (x1.1-0)) 1))
(cnd (decide (0≤(Aa (AQ (wr .i64 (x1.1-0)) (0:Int)))))
(iter none (fun x2 =>
(cnd (decide (x2.1<(Aa x)))
(Ae (idx x x2.1) (.done none) (fun x3 =>
(cnd (true&&(AS ((Aa x2.2)+(Aa x3)) 1))
(.next ((wr .i64 (x2.1+1)),(x2.2++x3)))
(.done none))))
(.done (some x2.2)))) AE ((0:Int),(AF (AQ (wr .i64 (x1.1-(0:Int))) (0:Int)) (0:Int))))
 none)
 none)
(iter none (fun x2 =>
(cnd (decide (x2.1<(Aa x)))
(Ae (idx x x2.1) (.done none) (fun x3 =>
(cnd (true&&(AS ((Aa x2.2)+(Aa x3)) 1))
(.next ((wr .i64 (x2.1+1)),(x2.2++x3)))
(.done none))))
(.done (some x2.2)))) AE ((0:Int),[]))))))) AE ((0:Int),(0:Int)))
def Dj (x:List Int×Int):Option (Int) :=
(iter none (fun x1 =>
(cnd (decide (0≤x1))
(Ae (idx x.1 x1) (.done none) (fun x2 =>
(cnd (x2==x.2)
(.done (some x1))
(.next (wr .i64 (x1-1))))))
(.done (some (-1))))) AE (wr .i64 ((Aa x.1)-(1:Int))))
def C9 (x:List Int×Int):Option (Int) :=
(Ae (Dj x) none (fun x1 =>
(some x1)))
def G3 (x:List Int):Option (List Int×Int) :=
(cnd ((decide (0≤(Aa x)))&&(DP (Aa x) 1))
(iter none (fun x1 =>
(cnd (decide (x1.2.2<(Aa x)))
(Ae (idx x x1.2.2) (.done none) (fun x2 =>
(cnd ((x1.2.1&&(!(x2==93)))&&(!(x2==94)))
(.done (some ([],8)))
(cnd (x2==126)
(.done (some ([],8)))
(cnd x1.2.1
(cnd (true&&(AS ((Aa x1.1)+(Aa ((wr .u8 (x2+32))::[]))) 1))
(.next ((x1.1++((wr .u8 (x2+32))::[])),(false,(wr .i64 (x1.2.2+1)))))
(.done none))
(cnd (x2==125)
(.next (x1.1,(true,(wr .i64 (x1.2.2+1)))))
(cnd (true&&(AS ((Aa x1.1)+(Aa (x2::[]))) 1))
(.next ((x1.1++(x2::[])),(x1.2.1,(wr .i64 (x1.2.2+1)))))
(.done none))))))))
(.done (cnd x1.2.1
(some ([],8))
(some (x1.1,0)))))) AE ((AQ 0 (0:Int)),(false,(0:Int))))
 none)
def GL (x:List Int):Option (Int) :=
(cnd ((Aa (AQ 16 (0:Int)))==16)
(iter none (fun x1 =>
(cnd (decide (x1.2.1<(Aa x)))
(Ae (idx x x1.2.1) (.done none) (fun x2 =>
(Ae (RM x1.2.2 16 (Aj Go.BinOp.and Go.IntKind.u32 (Aj Go.BinOp.xor Go.IntKind.u32 x1.1 (wr .u32 x2)) 15)) (.done none) (fun _ =>
(Ae (idx x1.2.2 (Aj Go.BinOp.and Go.IntKind.u32 (Aj Go.BinOp.xor Go.IntKind.u32 x1.1 (wr .u32 x2)) 15)) (.done none) (fun x4 =>
(Ae (RM x1.2.2 16 (Aj Go.BinOp.and Go.IntKind.u32 (Aj Go.BinOp.xor Go.IntKind.u32 (Aj Go.BinOp.xor Go.IntKind.u32 (Ay Go.IntKind.u32 x1.1 4) x4) (wr .u32 (Ay Go.IntKind.u8 x2 4))) 15)) (.done none) (fun _ =>
(Ae (idx x1.2.2 (Aj Go.BinOp.and Go.IntKind.u32 (Aj Go.BinOp.xor Go.IntKind.u32 (Aj Go.BinOp.xor Go.IntKind.u32 (Ay Go.IntKind.u32 x1.1 4) x4) (wr .u32 (Ay Go.IntKind.u8 x2 4))) 15)) (.done none) (fun x6 =>
(.next ((Aj Go.BinOp.xor Go.IntKind.u32 (Ay Go.IntKind.u32 (Aj Go.BinOp.xor Go.IntKind.u32 (Ay Go.IntKind.u32 x1.1 4) x4) 4) x6),((wr .i64 (x1.2.1+1)),x1.2.2)))))))))))))
(.done (some (Ud Go.IntKind.u32 x1.1))))) AE ((4294967295:Int),((0:Int),((0:Int)::((498536548:Int)::((997073096:Int)::((651767980:Int)::((1994146192:Int)::((1802195444:Int)::((1303535960:Int)::((1342533948:Int)::((3988292384:Int)::((4027552580:Int)::((3604390888:Int)::((3412177804:Int)::((2607071920:Int)::((2262029012:Int)::((2685067896:Int)::((3183342108:Int)::[])))))))))))))))))))
 none)
def G4 (x:List Int):Option (BJ×Int) :=
(cnd ((decide ((wr .i64 ((Aa x)-4))<5))||(decide (517<(wr .i64 ((Aa x)-4)))))
(some ((0,(0,[])),8))
(cnd (decide (5≤(Aa x)))
(Ae (F4 (Bf (AF x 5) 1)) none (fun x1 =>
(cnd ((decide (0≤(wr .i64 ((Aa x)-4))))&&(decide ((wr .i64 ((Aa x)-4))≤(Aa x))))
(Ae (F4 (Bf x (wr .i64 ((Aa x)-4)))) none (fun x2 =>
(cnd ((decide (0≤(wr .i64 ((Aa x)-4))))&&(decide ((wr .i64 ((Aa x)-4))≤(Aa x))))
(Ae (GL (AF x (wr .i64 ((Aa x)-4)))) none (fun x3 =>
(cnd (!((wr .u64 x3)==x2.1))
(some ((0,(0,[])),8))
(Ae (idx x 0) none (fun x4 =>
(cnd ((decide (5≤(wr .i64 ((Aa x)-4))))&&(decide ((wr .i64 ((Aa x)-4))≤(Aa x))))
(Ae (C5 (Bf (AF x (wr .i64 ((Aa x)-4))) 5)) none (fun x5 =>
(some ((x4,((wr .u32 x1.1),x5)),0))))
 none))))))
 none)))
 none)))
 none))
def DU (x:List Int):Option (List BJ×Int×Int) :=
(cnd (decide (16384<(Aa x)))
(some ([],(0,3)))
(cnd (decide (16384<(Aa x)))
(Ae (C9 (x,126)) none (fun x1 =>
(some ([],(x1,0)))))
(iter none (fun x1 =>
(cnd (decide (x1.1<(Aa x)))
(Ae (idx x x1.1) (.done none) (fun x2 =>
(cnd (x2==126)
(Ae (G3 x1.2.2.1) (.done none) (fun x3 =>
(cnd (!(x3.2==0))
(cnd (decide (0≤(Aa x1.2.2.1)))
(.next ((wr .i64 (x1.1+1)),(x1.2.1,((AF x1.2.2.1 0),(true,(false,x1.2.2.2.2.2))))))
(.done none))
(Ae (G4 x3.1) (.done none) (fun x4 =>
(cnd (((x4.2==0)&&x1.2.2.2.1)&&(!x1.2.2.2.2.1))
(cnd (true&&(AS ((Aa x1.2.1)+(Aa (x4.1::[]))) 32))
(cnd (decide (0≤(Aa x1.2.2.1)))
(.next ((wr .i64 (x1.1+1)),((x1.2.1++(x4.1::[])),((AF x1.2.2.1 0),(true,(false,x1.2.2.2.2.2))))))
(.done none))
(.done none))
(cnd (decide (0≤(Aa x1.2.2.1)))
(.next ((wr .i64 (x1.1+1)),(x1.2.1,((AF x1.2.2.1 0),(true,(false,x1.2.2.2.2.2))))))
(.done none))))))))
(cnd (decide (1043≤(Aa x1.2.2.1)))
(.next ((wr .i64 (x1.1+1)),(x1.2.1,(x1.2.2.1,(x1.2.2.2.1,(true,x1.2.2.2.2.2))))))
(cnd x1.2.2.2.1
(cnd (true&&(AS ((Aa x1.2.2.1)+(Aa (x2::[]))) 1))
(.next ((wr .i64 (x1.1+1)),(x1.2.1,((x1.2.2.1++(x2::[])),x1.2.2.2))))
(.done none))
(.next ((wr .i64 (x1.1+1)),x1.2)))))))
(.done (Ae (C9 (x,126)) none (fun x2 =>
(some (x1.2.1,(x2,0)))))))) AE ((0:Int),([],([],(false,(false,true))))))))
def OK (x:Cy):Option (Int) :=
(cnd (((decide (x.2.2<0))||(decide (1048576<x.2.2)))||((!x.1)&&(!(x.2.1==0))))
(some 8)
(some 0))
def FP (x:Cy):Int :=
(cnd (((decide (x.2.2<0))||(decide (1048576<x.2.2)))||((!x.1)&&(!(x.2.1==0))))
(8)
(0))
theorem nL (x:Cy):OK x=some (FP x):=by
 unfold OK FP
 simp only[Eg]
def GJ (x:Cy×List BJ):Option (Cy×List BJ×Int) :=
(AD (FP x.1) (fun y =>
(cnd (!(y==0))
(some ((false,(0,0)),([],y)))
(cnd (decide (1024<(Aa x.2)))
(some ((false,(0,0)),([],4)))
(iter none (fun x1 =>
(cnd (decide (x1.1<(Aa x.2)))
(Ae (idx x.2 x1.1) (.done none) (fun x2 =>
(cnd (decide (512<(Aa x2.2.2)))
(.done (some ((false,(0,0)),([],3))))
(.next ((wr .i64 (x1.1+1)),x1.2)))))
(.done (iter none (fun x2 =>
(cnd (decide (x2.2.1<(Aa x.2)))
(Ae (idx x.2 x2.2.1) (.done none) (fun x3 =>
(cnd (x2.2.2.1&&(decide (x3.2.1≤x2.2.2.2.1)))
(.next (x2.1,((wr .i64 (x2.2.1+1)),x2.2.2)))
(Ae (C5 x3.2.2) (.done none) (fun x4 =>
(cnd (true&&(AS ((Aa x2.1)+(Aa ((x3.1,(x3.2.1,x4))::[]))) 32))
(.next ((x2.1++((x3.1,(x3.2.1,x4))::[])),((wr .i64 (x2.2.1+1)),(true,(x3.2.1,x2.2.2.2.2)))))
(.done none)))))))
(.done (cnd (decide (0<(Aa x2.1)))
(some ((x2.2.2.1,(x2.2.2.2.1,0)),(x2.1,0)))
(some ((x2.2.2.1,(x2.2.2.2.1,(Bi (wr .i64 (x2.2.2.2.2+1)) 1048576))),(x2.1,0))))))) AE ([],((0:Int),x.1)))))) AE ((0:Int),(false,((0:Int),(0:Int)))))))))
def CA (x:Pe×Int):Option (Pe×Int) :=
(Ae (Dn x.1.1) none (fun x1 =>
(cnd ((!(x1.2.2==0))||(decide ((wr .u64 x.2)<x1.1)))
(some ((x.1.1,true),0))
(cnd ((decide (0≤x1.2.1))&&(decide (x1.2.1≤(Aa x.1.1))))
(some (((Bf x.1.1 x1.2.1),x.1.2),(wr .i64 x1.1)))
 none))))
def OL (x:Int):Option (Bool) :=
(some ((decide (0≤x))&&(decide (x≤65535))))
def Gz (x:Int):Bool :=
(((decide (0≤x))&&(decide (x≤65535))))
theorem nO (x:Int):OL x=some (Gz x):=by
 unfold OL Gz
 rfl
def FQ (x:List Int×List Int):Option (List Int) :=
(iter none (fun x1 =>
(cnd (decide (x1.2<(Aa x.2)))
(Ae (idx x.2 x1.2) (.done none) (fun x2 =>
(Ae (CK (wr .u64 x2)) (.done none) (fun x3 =>
(cnd (true&&(AS ((Aa x1.1)+(Aa x3)) 1))
(.next ((x1.1++x3),(wr .i64 (x1.2+1))))
(.done none))))))
(.done (some x1.1)))) AE (x.1,(0:Int)))
def GW (x:Iy):Option (List Int×Int) :=
(AD (Gz x.1) (fun y =>
(cnd (!y)
(some ([],2))
(Ae (EB (x.2::[])) none (fun x1 =>
(cnd (!(x1.2==0))
(some ([],x1.2))
(Ae (FQ ([],(x.1::(x.2.1::(x.2.2.1::((Aa x.2.2.2)::[])))))) none (fun x2 =>
(Ae (FQ (x2,x.2.2.2)) none (fun x3 =>
(some (x3,0))))))))))))
def DY (x:List Int):Option (Iy×Int) :=
(Ae (CA ((x,false),65535)) none (fun x1 =>
(Ae (CA (x1.1,1048576)) none (fun x2 =>
(Ae (CA (x2.1,1048576)) none (fun x3 =>
(Ae (CA (x3.1,8)) none (fun x4 =>
(iter none (fun x5 =>
(cnd (decide (x5.1<x4.2))
(Ae (CA (x5.2.2,1048576)) (.done none) (fun x6 =>
(cnd (true&&(AS ((Aa x5.2.1.2.2.2)+(Aa (x6.2::[]))) 8))
(.next ((wr .i64 (x5.1+1)),((x5.2.1.1,(x5.2.1.2.1,(x5.2.1.2.2.1,(x5.2.1.2.2.2++(x6.2::[]))))),x6.1)))
(.done none))))
(.done (Ae (GW x5.2.1) none (fun x6 =>
(cnd ((x5.2.2.2||(!(x6.2==0)))||(!(bytes_Equal (x6.1,x))))
(some ((0,(0,(0,[]))),8))
(some (x5.2.1,0)))))))) AE ((0:Int),((x1.2,(x2.2,(x3.2,[]))),x4.1)))))))))))
def E2 (x:Ad×Int):Option (Int) :=
(cnd (!((Aa x.1.2.2.2.2.1)==0))
(some (Gm (wr .i64 (x.2+1)) (Aa x.1.2.2.2.2.1)))
 none)
def Im (x:Ad×Int×Int):Option (Int×Int) :=
(Dh (fun x1 =>
(cnd (!(x1==0))
(some (0,x1))
(Ae (F8 x) none (fun x2 =>
(some (x2,0)))))) (fun k =>
(Ae (Aw x.1) none (fun x1 =>
(cnd (!(x1==0))
(k x1)
(iter none (fun x2 =>
(cnd (decide (x2<(Aa (x.2.1::(x.2.2::[])))))
(Ae (idx (x.2.1::(x.2.2::[])) x2) (.done none) (fun x3 =>
(AD (By (x3,(0,(wr .i64 ((Aa x.1.2.2.2.2.1)-1))))) (fun y =>
(cnd (!y)
(.done (k 2))
(.next (wr .i64 (x2+1))))))))
(.done (k 0)))) AE (0:Int)))))))
def Fh (x:Ad×Int):Option (Int) :=
(Ae (E2 x) none (fun x1 =>
(Ae (Im (x.1,(x.2,x1))) none (fun x2 =>
(some x2.1)))))
def Fg (x:Ad×Az):Option (Az×Int) :=
(Ae (Aw x.1) none (fun x1 =>
(cnd (!(x1==0))
(some ((0,(0,[])),x1))
(cnd (!((Bi (Cw x.2.1 x.1.2.2.2.2.2.2.2.2.2.1) x.1.2.2.2.2.2.2.2.2.2.2.1)==0))
(cnd (!((Bi (Cw x.2.1 x.1.2.2.2.2.2.2.2.2.2.1) x.1.2.2.2.2.2.2.2.2.2.2.1)==0))
(cnd ((decide (0≤(Aa x.1.2.2.2.2.1)))&&((decide ((Aa x.1.2.2.2.2.1)≤(Aa x.1.2.2.2.2.1)))&&(DP (Aa x.1.2.2.2.2.1) 8)))
(iter none (fun x2 =>
(cnd (decide (x2.1<(Aa x.1.2.2.2.2.1)))
(Ae (idx x.1.2.2.2.2.1 x2.1) (.done none) (fun x3 =>
(Ae (Fh (x.1,x2.1)) (.done none) (fun x4 =>
(Dh (fun x5 =>
(Dh (fun x6 =>
(Ae (idx x6.2.2 x2.1) (.done none) (fun _ =>
(Ae (idx x6.2.2 x2.1) (.done none) (fun x8 =>
(cnd (true&&(AS ((Aa x6.2.1.2.1)+(Aa ((wr .i64 (x3.2.1+x4))::[]))) 8))
(.next ((wr .i64 (x2.1+1)),((wr .i64 (x2.2.1-(wr .i64 (x3.2.1+x4)))),((wr .i64 (x2.2.2.1+x8)),(x6.1,((x6.2.1.1,((x6.2.1.2.1++((wr .i64 (x3.2.1+x4))::[])),())),x6.2.2))))))
(.done none))))))) (fun k =>
(Ae (idx x5.2 x2.1) (.done none) (fun _ =>
(Ae (idx x5.2 x2.1) (.done none) (fun x7 =>
(cnd ((decide (0<x7))&&(decide (x2.2.2.2.1<0)))
(k (x2.1,((x5.1.1,(x5.1.2.1,())),x5.2)))
(k (x2.2.2.2.1,((x5.1.1,(x5.1.2.1,())),x5.2))))))))))) (fun k =>
(cnd (decide (x2.1<(Aa x.2.2.2)))
(Ae (idx x.2.2.2 x2.1) (.done none) (fun x5 =>
(Ae (idx x2.2.2.2.2.2 x2.1) (.done none) (fun _ =>
(Ae (idx x2.2.2.2.2.2 x2.1) (.done none) (fun _ =>
(k ((x2.2.2.2.2.1.1,(x2.2.2.2.2.1.2.1,())),(Bc x2.2.2.2.2.2 x2.1 (Cw 0 (wr .i64 ((Bi (Cw 0 x5) x.1.2.2.2.2.2.2.2.2.2.2.1)-(wr .i64 (x3.2.1+x4))))))))))))))
(k ((x2.2.2.2.2.1.1,(x2.2.2.2.2.1.2.1,())),x2.2.2.2.2.2)))))))))
(.done (iter none (fun x3 =>
(cnd (decide (x3.1<(Aa x2.2.2.2.2.1.2.1)))
(cnd (decide (0<x2.2.2.1))
(Ae (idx x2.2.2.2.2.2 x3.1) (.done none) (fun x4 =>
(cnd (!(x2.2.2.1==0))
(Ae (idx x3.2.2.2.1 x3.1) (.done none) (fun _ =>
(Ae (idx x3.2.2.2.1 x3.1) (.done none) (fun x6 =>
(Ae (idx x3.2.2.2.1 x3.1) (.done none) (fun _ =>
(Ae (idx x3.2.2.2.1 x3.1) (.done none) (fun _ =>
(.next ((wr .i64 (x3.1+1)),((wr .i64 (x3.2.1-(Fi Go.IntKind.i64 (wr .i64 (x2.2.1*x4)) x2.2.2.1))),(x3.2.2.1,((Bc x3.2.2.2.1 x3.1 (wr .i64 (x6+(Fi Go.IntKind.i64 (wr .i64 (x2.2.1*x4)) x2.2.2.1)))),())))))))))))))
(.done none))))
(.next ((wr .i64 (x3.1+1)),(x3.2.1,(x3.2.2.1,(x3.2.2.2.1,()))))))
(.done (Ae (idx x3.2.2.2.1 (Cw 0 x2.2.2.2.1)) none (fun _ =>
(Ae (idx x3.2.2.2.1 (Cw 0 x2.2.2.2.1)) none (fun x5 =>
(Ae (idx x3.2.2.2.1 (Cw 0 x2.2.2.2.1)) none (fun _ =>
(Ae (idx x3.2.2.2.1 (Cw 0 x2.2.2.2.1)) none (fun _ =>
(some ((x3.2.2.1.1,(x3.2.2.1.2,(Bc x3.2.2.2.1 (Cw 0 x2.2.2.2.1) (wr .i64 (x5+x3.2.1))))),0))))))))))))) AE ((0:Int),(x2.2.1,(x2.2.2.2.2.1.1,(x2.2.2.2.2.1.2.1,())))))))) AE ((0:Int),((Bi (Cw x.2.1 x.1.2.2.2.2.2.2.2.2.2.1) x.1.2.2.2.2.2.2.2.2.2.2.1),((0:Int),((-1),((((Bi (Cw x.2.1 x.1.2.2.2.2.2.2.2.2.2.1) x.1.2.2.2.2.2.2.2.2.2.2.1),(Gm (wr .i64 ((Gm x.2.2.1 (Bi (Cw x.2.1 x.1.2.2.2.2.2.2.2.2.2.1) x.1.2.2.2.2.2.2.2.2.2.2.1))+(Bi (Cw x.2.1 x.1.2.2.2.2.2.2.2.2.2.1) x.1.2.2.2.2.2.2.2.2.2.2.1))) (Bi (Cw x.2.1 x.1.2.2.2.2.2.2.2.2.2.1) x.1.2.2.2.2.2.2.2.2.2.2.1))),([],())),(AQ (Aa x.1.2.2.2.2.1) (0:Int))))))))
 none)
 none)
 none))))
def OO (x:Int×Int):Option (Int) :=
(some (Bi (wr .i64 (x.1+1)) x.2))
def B3 (x:Int×Int):Int :=
((Bi (wr .i64 (x.1+1)) x.2))
theorem nW (x:Int×Int):OO x=some (B3 x):=by
 unfold OO B3
 rfl
def EU (x:BX):Option (BX×Bool) :=
(cnd ((decide (0≤(Bi 8192 (Aa x.2.2.1.1))))&&(decide ((Bi 8192 (Aa x.2.2.1.1))≤(Aa x.2.2.1.1))))
(Ae (CD (x.2.1.2.2.2.2.2.1::((AF x.2.2.1.1 (Bi 8192 (Aa x.2.2.1.1)))::[]))) none (fun x1 =>
(Ae (DU x1) none (fun x2 =>
(Dh (fun x3 =>
(Ae (GJ (x3.2.1.2.2.2.2.1,x2.1)) none (fun x4 =>
(iter none (fun x5 =>
(cnd (decide (x5.2.1<(Aa x4.2.1)))
(Ae (idx x4.2.1 x5.2.1) (.done none) (fun x6 =>
(Ae (DY x6.2.2) (.done none) (fun x7 =>
(cnd (((x6.1==2)&&(x7.2==0))&&(x7.1.1==x5.2.2.1.1))
(Ae (Fg (x5.2.2.1,x7.1.2)) (.done none) (fun x8 =>
(.next (true,((wr .i64 (x5.2.1+1)),(x5.2.2.1,(((x5.2.2.2.1.1.1,()),(x5.2.2.2.1.2.1,(x5.2.2.2.1.2.2.1,(x5.2.2.2.1.2.2.2.1,(x5.2.2.2.1.2.2.2.2.1,(x5.2.2.2.1.2.2.2.2.2.1,(x8.1,x5.2.2.2.1.2.2.2.2.2.2.2))))))),x5.2.2.2.2)))))))
(.next (x5.1,((wr .i64 (x5.2.1+1)),(x5.2.2.1,(((x5.2.2.2.1.1.1,()),x5.2.2.2.1.2),x5.2.2.2.2))))))))))
(.done (AD (B3 (x5.2.2.2.1.2.2.2.2.2.2.2.1,1048576)) (fun y =>
(cnd x5.1
(some ((x5.2.2.1,(((x5.2.2.2.1.1.1,()),(x5.2.2.2.1.2.1,(x5.2.2.2.1.2.2.1,(x5.2.2.2.1.2.2.2.1,(x5.2.2.2.1.2.2.2.2.1,(x5.2.2.2.1.2.2.2.2.2.1,(x5.2.2.2.1.2.2.2.2.2.2.1,(0,x5.2.2.2.1.2.2.2.2.2.2.2.2)))))))),x5.2.2.2.2)),x5.1))
(some ((x5.2.2.1,(((x5.2.2.2.1.1.1,()),(x5.2.2.2.1.2.1,(x5.2.2.2.1.2.2.1,(x5.2.2.2.1.2.2.2.1,(x5.2.2.2.1.2.2.2.2.1,(x5.2.2.2.1.2.2.2.2.2.1,(x5.2.2.2.1.2.2.2.2.2.2.1,(y,x5.2.2.2.1.2.2.2.2.2.2.2.2)))))))),x5.2.2.2.2)),x5.1)))))))) AE (false,((0:Int),(x3.1,(((x3.2.1.1.1,()),(x3.2.1.2.1,(x3.2.1.2.2.1,(x3.2.1.2.2.2.1,(x4.1,x3.2.1.2.2.2.2.2))))),x3.2.2)))))))) (fun k =>
(cnd ((decide (0≤x2.2.1))&&(decide ((wr .i64 ((Aa x1)-x2.2.1))≤2048)))
(cnd ((decide (0≤x2.2.1))&&(decide (x2.2.1≤(Aa x1))))
(Ae (Fp (Bf x1 x2.2.1)) none (fun x3 =>
(k (x.1,(((x.2.1.1.1,()),(x.2.1.2.1,(x.2.1.2.2.1,(x.2.1.2.2.2.1,(x.2.1.2.2.2.2.1,(x3,x.2.1.2.2.2.2.2.2)))))),x.2.2)))))
 none)
(k (x.1,(((x.2.1.1.1,()),(x.2.1.2.1,(x.2.1.2.2.1,(x.2.1.2.2.2.1,(x.2.1.2.2.2.2.1,([],x.2.1.2.2.2.2.2.2)))))),x.2.2))))))))))
 none)
def C1 (x:List Int×List Int):Option (Bool) :=
(cnd (!((Aa x.1)==(Aa x.2)))
(some false)
(iter none (fun x1 =>
(cnd (decide (x1<(Aa x.1)))
(Ae (idx x.1 x1) (.done none) (fun x2 =>
(Ae (idx x.2 x1) (.done none) (fun x3 =>
(cnd (!(x2==x3))
(.done (some false))
(.next (wr .i64 (x1+1))))))))
(.done (some true)))) AE (0:Int)))
def H7 (x:Az×Az):Option (Bool) :=
(cnd ((x.1.1==x.2.1)&&(x.1.2.1==x.2.2.1))
(Ae (C1 (x.1.2.2,x.2.2.2)) none (fun x1 =>
(some x1)))
(some false))
def CW (x:E5×Int):Option (Int) :=
(iter none (fun x1 =>
(cnd (decide (x1.2<(Aa x.1.2.1)))
(Ae (idx x.1.2.1 x1.2) (.done none) (fun x2 =>
(cnd (decide (8≤(Aa x2)))
(Ae (B8 (AF x2 8)) (.done none) (fun x3 =>
(cnd (decide (56≤(Aa x2)))
(Ae (B8 (Bf x2 56)) (.done none) (fun x4 =>
(iter (.done none) (fun x5 =>
(cnd (decide (x5.2<(Aa (x3::(x4::[])))))
(Ae (idx (x3::(x4::[])) x5.2) (.done (.done none)) (fun x6 =>
(cnd (decide (x6<4611686018427387904))
(.next ((Cw x5.1 (wr .i64 x6)),(wr .i64 (x5.2+1))))
(.next (x5.1,(wr .i64 (x5.2+1)))))))
(.done (.next (x5.1,(wr .i64 (x1.2+1))))))) AE (x1.1,(0:Int)))))
(.done none))))
(.done none))))
(.done (iter none (fun x2 =>
(iter (.done none) (fun x3 =>
(cnd (decide (x3<(Aa x.1.2.1)))
(Ae (idx x.1.2.1 x3) (.done (.done none)) (fun x4 =>
(Ae (idx x4 56) (.done (.done none)) (fun x5 =>
(cnd (x5==(wr .u8 x2))
(.done (.next (wr .i64 (x2+1))))
(.next (wr .i64 (x3+1))))))))
(.done (.done (some x2))))) AE (0:Int))) AE (wr .i64 (x1.1+(1:Int))))))) AE (x.2,(0:Int)))
def FT (x:Bb×Int×List Az):Option (List CS×Int) :=
(AD (Cv (x.1.1,())) (fun y =>
(cnd (!(y.2==0))
(cnd (!(y.2==0))
(some ([],y.2))
(cnd (decide (3<x.2.1))
(some ([],2))
 none))
(cnd (decide (y.1<2))
(some ([],190))
(iter none (fun x1 =>
(cnd (decide (x1.1<(Fi Go.IntKind.i64 y.1 2)))
(Ae (Cm ((x.1.1,()),(wr .i64 ((wr .i64 (0*(Fi Go.IntKind.i64 y.1 2)))+x1.1)))) (.done none) (fun x2 =>
(cnd (true&&(AS ((Aa x1.2.2.1)+(Aa (x2.1::[]))) 24))
(.next ((wr .i64 (x1.1+1)),(x1.2.1,((x1.2.2.1++(x2.1::[])),x1.2.2.2))))
(.done none))))
(.done (Ae (AY x1.2) none (fun x2 =>
(iter none (fun x3 =>
(cnd (decide (x3.1<(Fi Go.IntKind.i64 y.1 2)))
(Ae (Cm ((x.1.1,()),(wr .i64 ((wr .i64 (1*(Fi Go.IntKind.i64 y.1 2)))+x3.1)))) (.done none) (fun x4 =>
(cnd (true&&(AS ((Aa x3.2.2.1)+(Aa (x4.1::[]))) 24))
(.next ((wr .i64 (x3.1+1)),(x3.2.1,((x3.2.2.1++(x4.1::[])),x3.2.2.2))))
(.done none))))
(.done (Ae (AY x3.2) none (fun x4 =>
(cnd (decide (3<x.2.1))
(some ([],2))
(Ae (BL ((1,x.2),(Aa x2.2.1))) none (fun x5 =>
(cnd (!(x5.2==0))
(some ([],x5.2))
(cnd (x2.2.2&&(!(x4.2.2&&(decide (x2.1.1<x4.1.1)))))
(Ae (CW (x4,x2.1.1)) none (fun x6 =>
(cnd (decide (4611686018427387904≤x6))
(some ([],190))
(Ae (BL ((x6,x.2),(Aa x2.2.1))) none (fun x7 =>
(iter none (fun x8 =>
(cnd (decide (x8.2<(Aa x7.1)))
(Ae (idx x7.1 x8.2) (.done none) (fun x9 =>
(cnd (true&&(AS ((Aa x8.1)+(Aa (((wr .i64 ((wr .i64 (1*(Aa x2.2.1)))+x8.2)),x9)::[]))) 32))
(.next ((x8.1++(((wr .i64 ((wr .i64 (1*(Aa x2.2.1)))+x8.2)),x9)::[])),(wr .i64 (x8.2+1))))
(.done none))))
(.done (some (x8.1,x7.2))))) AE ([],(0:Int))))))))
(cnd x4.2.2
(Ae (CW (x2,x4.1.1)) none (fun x6 =>
(cnd (decide (4611686018427387904≤x6))
(some ([],190))
(Ae (BL ((x6,x.2),(Aa x2.2.1))) none (fun x7 =>
(iter none (fun x8 =>
(cnd (decide (x8.2<(Aa x7.1)))
(Ae (idx x7.1 x8.2) (.done none) (fun x9 =>
(cnd (true&&(AS ((Aa x8.1)+(Aa (((wr .i64 ((wr .i64 (0*(Aa x2.2.1)))+x8.2)),x9)::[]))) 32))
(.next ((x8.1++(((wr .i64 ((wr .i64 (0*(Aa x2.2.1)))+x8.2)),x9)::[])),(wr .i64 (x8.2+1))))
(.done none))))
(.done (some (x8.1,x7.2))))) AE ([],(0:Int))))))))
(Ae (CW (x2,0)) none (fun x6 =>
(cnd (decide (4611686018427387904≤x6))
(some ([],190))
(Ae (BL ((x6,x.2),(Aa x2.2.1))) none (fun x7 =>
(iter none (fun x8 =>
(cnd (decide (x8.2<(Aa x7.1)))
(Ae (idx x7.1 x8.2) (.done none) (fun x9 =>
(cnd (true&&(AS ((Aa x8.1)+(Aa (((wr .i64 ((wr .i64 (0*(Aa x2.2.1)))+x8.2)),x9)::[]))) 32))
(.next ((x8.1++(((wr .i64 ((wr .i64 (0*(Aa x2.2.1)))+x8.2)),x9)::[])),(wr .i64 (x8.2+1))))
(.done none))))
(.done (some (x8.1,x7.2))))) AE ([],(0:Int))))))))))))))))))) AE ((0:Int),(((0:Int),((0:Int),[])),([],false))))))))) AE ((0:Int),(((0:Int),((0:Int),[])),([],false))))))))
def DJ (x:BX):Option (BX) :=
(Ae (D5 (x.2.1.1.1,())) none (fun x1 =>
(cnd (((x1.2==0)&&(x1.1.2.1==x.2.1.2.2.1.1))&&((Aa x1.1.2.2)==1))
(Ae (idx x1.1.2.2 0) none (fun x2 =>
(Ae (H7 (x2,x.2.1.2.2.2.2.2.2.1)) none (fun x3 =>
(cnd x3
(some (x.1,(((x.2.1.1.1,()),x.2.1.2),x.2.2)))
(Ae (FT ((x.2.1.1.1,()),(x.2.1.2.2.1.1,(x.2.1.2.2.2.2.2.2.1::[])))) none (fun x4 =>
(some (x.1,(((x.2.1.1.1,()),x.2.1.2),(x.2.2.1,(x4.1,x.2.2.2.2))))))))))))
(Ae (FT ((x.2.1.1.1,()),(x.2.1.2.2.1.1,(x.2.1.2.2.2.2.2.2.1::[])))) none (fun x2 =>
(some (x.1,(((x.2.1.1.1,()),x.2.1.2),(x.2.2.1,(x2.1,x.2.2.2.2))))))))))
def Hx (x:Bb×List CS×Int×Int):Option (Bb×Int) :=
(AD (CX (x.1.1,())) (fun y =>
(cnd (!(y==0))
(cnd (!(y==0))
(some (([],()),y))
(some (([],()),y)))
(iter none (fun x1 =>
(cnd (decide (x1.1<(Aa x.2.1)))
(Ae (idx x.2.1 x1.1) (.done none) (fun x2 =>
(AD (FM ((x.1.1,()),x2.1)) (fun y1 =>
(cnd (!(y1==0))
(.done (cnd (!(y1==0))
(some (([],()),y1))
(some ((x1.2.1.1,()),y1))))
(cnd (!((Aa x2.2)==64))
(.done (some (([],()),8)))
(.next ((wr .i64 (x1.1+1)),((x1.2.1.1,()),y1)))))))))
(.done (cnd ((((decide (x.2.2.1<0))||(decide ((Aa x.2.1)<x.2.2.1)))||(decide (x.2.2.2<0)))||(decide (64<x.2.2.2)))
(some (([],()),2))
(Ae (C5 x.1.1) none (fun x2 =>
(iter none (fun x3 =>
(cnd (decide (x3.1<(Aa x.2.1)))
(Ae (idx x.2.1 x3.1) (.done none) (fun x4 =>
(cnd (decide (x3.1<x.2.2.1))
(Ae (Ru ((Aa x3.2.1),x4.1)) (.done none) (fun x5 =>
(.next ((wr .i64 (x3.1+1)),((Dy x3.2.1 x5.1 x5.2 x4.2),())))))
(cnd (x3.1==x.2.2.1)
(Ae (Ru ((Aa x3.2.1),x4.1)) (.done none) (fun x5 =>
(cnd ((decide (0≤x.2.2.2))&&(decide (x.2.2.2≤(Aa x4.2))))
(.next ((wr .i64 (x3.1+1)),((Dy x3.2.1 x5.1 x5.2 (AF x4.2 x.2.2.2)),())))
(.done none))))
(.next ((wr .i64 (x3.1+1)),(x3.2.1,())))))))
(.done (cnd (!(x1.2.2==0))
(some (([],()),x1.2.2))
(some ((x3.2.1,()),x1.2.2)))))) AE (0,(x2,()))))))))) AE (0,(([],()),y))))))
def Fj (x:List Int×Int):Option (List Int):=match x.1 with
 |v::[]=>if 1≤x.2∧x.2≤1000000 then some (AQ x.2 v) else none
 |_=>none
theorem wF {l:List Int} {k:Int} {y:List Int} (h:Fj (l,k)=some y):∃v,l=v::[]∧1≤k∧k≤1000000∧y=AQ k v:=by
 unfold Fj at h
 split at h
 ·rename_i v hv
  split at h
  ·rename_i hc
   cases h
   exact ⟨v,hv,hc.1,hc.2,rfl⟩
  ·cases h
 ·cases h
def C4 (x:BX):Option (BX×List Int) :=
(Ae (Fj ((4::[]),(Aa x.1.2.1))) none (fun x1 =>
(some ((x.1,(((x.2.1.1.1,()),x.2.1.2),x.2.2)),x1))))
def Ij (x:Aq):Option (List Int) :=
(cnd ((decide (0≤(Aa x.1)))&&((decide ((Aa x.1)≤(Aa x.1)))&&(DP (Aa x.1) 1)))
(iter none (fun x1 =>
(cnd (decide (x1.1<(Aa x.1)))
(Ae (idx x.1 x1.1) (.done none) (fun x2 =>
(Ae (idx x1.2 x1.1) (.done none) (fun _ =>
(Ae (idx x1.2 x1.1) (.done none) (fun _ =>
(.next ((wr .i64 (x1.1+1)),(Bc x1.2 x1.1 x2.1)))))))))
(.done (some x1.2)))) AE ((0:Int),(AQ (Aa x.1) (0:Int))))
 none)
def EA (x:List Int):Option (Bool) :=
(iter none (fun x1 =>
(cnd (decide (x1<(Aa x)))
(Ae (idx x x1) (.done none) (fun x2 =>
(cnd (!(x2==4))
(.done (some (!(decide (0≤x1)))))
(.next (wr .i64 (x1+1))))))
(.done (some true)))) AE (0:Int))
def So (x:Int):Option (Bool) :=
(some (x==1))
def Dq (x:Int):Bool :=
((x==1))
theorem Abr (x:Int):So x=some (Dq x):=by
 unfold So Dq
 rfl
def E3 (x:Ad×List Int):Option (Bool) :=
(iter none (fun x1 =>
(cnd (decide (x1<(Aa x.2)))
(Ae (idx x.2 x1) (.done none) (fun x2 =>
(AD (Dq x2) (fun y =>
(cnd y
(.next (wr .i64 (x1+1)))
(iter (.done none) (fun x3 =>
(cnd (decide (x3<x1))
(Ae (idx x.2 x3) (.done (.done none)) (fun x4 =>
(AD (Dq x4) (fun y1 =>
(cnd (!y1)
(Ae (De (x.1,(x1,x3))) (.done (.done none)) (fun x5 =>
(cnd x5
(.done (.done (some true)))
(.next (wr .i64 (x3+1))))))
(.next (wr .i64 (x3+1))))))))
(.done (.next (wr .i64 (x1+1)))))) AE (0:Int)))))))
(.done (some false)))) AE (0:Int))
def Kd (x:Ad×Aq):Option (Bool) :=
(Ae (Ij x.2) none (fun x1 =>
(cnd ((((Aa x1)==(Aa x.1.2.1))&&(decide (0≤x.2.2.1)))&&(decide (x.2.2.1≤1048576)))
(Ae (EA x1) none (fun x2 =>
(cnd x2
(some true)
(Ae (E3 (x.1,x1)) none (fun x3 =>
(some (!x3)))))))
(some false))))
def Cr (x:List Int×Int):Option (Int) :=
(iter none (fun x1 =>
(cnd (decide (x1<(Aa x.1)))
(Ae (idx x.1 x1) (.done none) (fun x2 =>
(cnd (x.2==x2)
(.done (some x1))
(.next (wr .i64 (x1+1))))))
(.done (some (-1))))) AE (0:Int))
def B7 (x:List Int×Int):Option (Bool) :=
(Ae (Cr x) none (fun x1 =>
(some (decide (0≤x1)))))
def P7 (x:Int):Option (Int) :=
(some (Bi (Cw x 0) 1048576))
def AP (x:Int):Int :=
((Bi (Cw x 0) 1048576))
theorem u9 (x:Int):P7 x=some (AP x):=by
 unfold P7 AP
 rfl
def P5 (x:Int):Option (Bool) :=
(some ((decide (1≤x))&&(decide (x≤3))))
def GI (x:Int):Bool :=
(((decide (1≤x))&&(decide (x≤3))))
theorem u4 (x:Int):P5 x=some (GI x):=by
 unfold P5 GI
 rfl
def My (x:Int×Int):Option (Bool) :=
(some ((((x.1==1)&&((x.2==2)&&true))||((x.1==2)&&((x.2==3)&&true)))||((x.1==3)&&((x.2==1)&&true))))
def F3 (x:Int×Int):Bool :=
(((((x.1==1)&&((x.2==2)&&true))||((x.1==2)&&((x.2==3)&&true)))||((x.1==3)&&((x.2==1)&&true))))
theorem cV (x:Int×Int):My x=some (F3 x):=by
 unfold My F3
 rfl
def RP (x:CC×A5×Int):Option (Int) :=
(AD (AP x.2.1.2.1) (fun y =>
(AD (GI x.2.1.1) (fun y1 =>
(cnd (!y1)
(some 2)
(AD (GI x.2.2) (fun y2 =>
(cnd (!y2)
(some 2)
(cnd ((!(x.2.2==x.2.1.1))&&(!(F3 (x.2.1.1,x.2.2))))
(some 2)
(cnd (((x.2.1.1==2)&&(x.2.2==3))&&(decide (y<x.1.2.1)))
(some 5)
(cnd ((x.2.1.1==3)&&((x.2.2==3)==(decide (x.1.2.2≤y))))
(some 6)
(some 0))))))))))))
def DI (x:CC×A5×Int):Int :=
(AD (AP x.2.1.2.1) (fun y =>
(AD (GI x.2.1.1) (fun y1 =>
(cnd (!y1)
(2)
(AD (GI x.2.2) (fun y2 =>
(cnd (!y2)
(2)
(cnd ((!(x.2.2==x.2.1.1))&&(!(F3 (x.2.1.1,x.2.2))))
(2)
(cnd (((x.2.1.1==2)&&(x.2.2==3))&&(decide (y<x.1.2.1)))
(5)
(cnd ((x.2.1.1==3)&&((x.2.2==3)==(decide (x.1.2.2≤y))))
(6)
(0))))))))))))
theorem AaU (x:CC×A5×Int):RP x=some (DI x):=by
 unfold RP DI
 simp only[AD,Eg]
def F6 (x:Ad×Aq×List Int):Option (Bool) :=
(iter none (fun x1 =>
(cnd (decide (x1<(Aa x.2.1.1)))
(Ae (idx x.2.1.1 x1) (.done none) (fun x2 =>
(Ae (idx x.2.2 x1) (.done none) (fun x3 =>
(cnd ((!(x3==2))||(x2.1==2))
(.next (wr .i64 (x1+1)))
(iter (.done none) (fun x4 =>
(cnd (decide (x4<(Aa x.2.1.1)))
(Ae (idx x.2.1.1 x4) (.done (.done none)) (fun x5 =>
(Ae (De (x.1,(x4,x1))) (.done (.done none)) (fun x6 =>
(cnd x6
(Ae (DE (x.1,(x4,x1))) (.done (.done none)) (fun x7 =>
(cnd (decide (x5.2.2<x7))
(.done (.done (some true)))
(.next (wr .i64 (x4+1))))))
(.next (wr .i64 (x4+1))))))))
(.done (.next (wr .i64 (x1+1)))))) AE (0:Int)))))))
(.done (some false)))) AE (0:Int))
def Ih (x:Ad×Aq×List Int):Option (Int) :=
(cnd (!((Aa x.2.2)==(Aa x.1.2.1)))
(some 1)
(Ae (EA x.2.2) none (fun x1 =>
(cnd x1
(some 0)
(Ae (B7 (x.2.2,4)) none (fun x2 =>
(cnd x2
(some 7)
(Dh (fun x3 =>
(cnd x3
(some 8)
(iter none (fun x4 =>
(cnd (decide (x4<(Aa x.2.1.1)))
(Ae (idx x.2.1.1 x4) (.done none) (fun x5 =>
(Ae (idx x.1.2.1 x4) (.done none) (fun x6 =>
(Ae (idx x.2.2 x4) (.done none) (fun x7 =>
(AD (DI (x6,(x5,x7))) (fun y =>
(cnd ((!(y==0))&&(!x.2.1.2.2))
(.done (some y))
(.next (wr .i64 (x4+1))))))))))))
(.done (Ae (E3 (x.1,x.2.2)) none (fun x5 =>
(cnd x5
(some 3)
(Ae (F6 x) none (fun x6 =>
(cnd x6
(some 4)
(some 0)))))))))) AE (0:Int)))) (fun k =>
(cnd (x.2.1.2.2||(decide (0<x.2.1.2.1)))
(iter none (fun x3 =>
(cnd (decide (x3<(Aa x.2.2)))
(Ae (idx x.2.2 x3) (.done none) (fun x4 =>
(AD (Dq x4) (fun y =>
(cnd (!y)
(.done (k (decide (0≤x3))))
(.next (wr .i64 (x3+1))))))))
(.done (k false)))) AE (0:Int))
(k false)))))))))))
def FX (x:List A5):Option (List A5) :=
(cnd (true&&(AS (0+(Aa x)) 24))
(some ([]++x))
 none)
def P8 (x:Int):Option (Int) :=
(AD (AP x) (fun y =>
(AD (AP (wr .i64 (y+1))) (fun y1 =>
(some y1)))))
def CT (x:Int):Int :=
(AD (AP x) (fun y =>
(AD (AP (wr .i64 (y+1))) (fun y1 =>
(y1)))))
theorem vC (x:Int):P8 x=some (CT x):=by
 unfold P8 CT
 simp only[AD]
def P3 (x:CC×A5×Int):Option (A5) :=
(AD (CT x.2.1.2.2) (fun y =>
(cnd (x.2.2==x.2.1.1)
(AD (CT x.2.1.2.1) (fun y1 =>
(cnd (x.2.2==2)
(some (x.2.2,(y1,0)))
(some (x.2.2,(y1,y))))))
(cnd (x.2.2==2)
(some (x.2.2,(1,0)))
(some (x.2.2,(1,y)))))))
def GH (x:CC×A5×Int):A5 :=
(AD (CT x.2.1.2.2) (fun y =>
(cnd (x.2.2==x.2.1.1)
(AD (CT x.2.1.2.1) (fun y1 =>
(cnd (x.2.2==2)
((x.2.2,(y1,0)))
((x.2.2,(y1,y))))))
(cnd (x.2.2==2)
((x.2.2,(1,0)))
((x.2.2,(1,y)))))))
theorem uT (x:CC×A5×Int):P3 x=some (GH x):=by
 unfold P3 GH
 simp only[AD,Eg]
def Hn (x:Ad×Aq×List Int):Option (Aq) :=
(Ae (FX x.2.1.1) none (fun x1 =>
(Ae (EA x.2.2) none (fun x2 =>
(iter none (fun x3 =>
(cnd (decide (x3.1<(Aa x1)))
(Ae (idx x3.2 x3.1) (.done none) (fun _ =>
(Ae (idx x3.2 x3.1) (.done none) (fun x5 =>
(Ae (idx x.1.2.1 x3.1) (.done none) (fun x6 =>
(Ae (idx x.2.2 x3.1) (.done none) (fun x7 =>
(AD (GH (x6,(x5,x7))) (fun y =>
(Ae (idx x3.2 x3.1) (.done none) (fun _ =>
(Ae (idx x3.2 x3.1) (.done none) (fun _ =>
(.next ((wr .i64 (x3.1+1)),(Bc x3.2 x3.1 y)))))))))))))))))
(.done (cnd x2
(Ae (BU x.1) none (fun x4 =>
(some (x3.2,(x4,x2)))))
(cnd x.2.1.2.2
(Ae (BU x.1) none (fun x4 =>
(some (x3.2,((Cw 0 (wr .i64 (x4-1))),x2)))))
(some (x3.2,((Cw 0 (wr .i64 (x.2.1.2.1-1))),x2)))))))) AE ((0:Int),x1))))))
def Ez (x:Ad×Aq×List Int):Option (Aq×Int×Int) :=
(Ae (Aw x.1) none (fun x1 =>
(cnd (!(x1==0))
(some (([],(0,false)),(0,x1)))
(Ae (Kd (x.1,x.2.1)) none (fun x2 =>
(cnd (!x2)
(some (([],(0,false)),(0,8)))
(Ae (Ih x) none (fun x3 =>
(cnd (!(x3==0))
(Ae (FX x.2.1.1) none (fun x4 =>
(some ((x4,x.2.1.2),(x3,0)))))
(Ae (Hn x) none (fun x4 =>
(some (x4,(0,0))))))))))))))
def EV (x:BX):Option (BX) :=
(Dh (fun x1 =>
(Ae (Hx ((x.2.1.1.1,()),(x.2.2.2.1,((Bi (Cw 0 x.2.2.1.2.2.2.2.1) (Aa x.2.2.2.1)),x1)))) none (fun x2 =>
(Ae (Fu (x.1,(x2.1.1,()))) none (fun x3 =>
(Ae (C4 (x.1,(((x3.1.1,()),x3.2),x.2.2))) none (fun x4 =>
(Ae (Ez (x4.1.1,(x.2.1.2.1,x4.2))) none (fun x5 =>
(AD (B3 (x.2.1.2.2.2.2.2.2.2.2.2.2.2.2.2.1,1073741824)) (fun y =>
(some (x4.1.1,(((x4.1.2.1.1.1,()),(x5.1,(x4.1.2.1.2.2.1,(x4.1.2.1.2.2.2.1,(x4.1.2.1.2.2.2.2.1,(x4.1.2.1.2.2.2.2.2.1,(x4.1.2.1.2.2.2.2.2.2.1,(x4.1.2.1.2.2.2.2.2.2.2.1,(x4.1.2.1.2.2.2.2.2.2.2.2.1,(x4.1.2.1.2.2.2.2.2.2.2.2.2.1,(x4.1.2.1.2.2.2.2.2.2.2.2.2.2.1,(x4.1.2.1.2.2.2.2.2.2.2.2.2.2.2.1,(x4.1.2.1.2.2.2.2.2.2.2.2.2.2.2.2.1,(y,(x4.1.2.1.2.2.2.2.2.2.2.2.2.2.2.2.2.2.1,(x4.1.2.1.2.2.2.2.2.2.2.2.2.2.2.2.2.2.2.1,(x4.1.2.1.2.2.2.2.2.2.2.2.2.2.2.2.2.2.2.2.1,x.2.1.2.2.2.2.2.2.2.2.2.2.2.2.2.2.2.2.2))))))))))))))))),(x4.1.2.2.1,(x4.1.2.2.2.1,(x4.1.2.2.2.2.1,(x4.1.2.2.2.2.2.1,(x4.2,x4.1.2.2.2.2.2.2.2))))))))))))))))))) (fun k =>
(cnd ((Bi (Cw 0 x.2.2.1.2.2.2.2.1) (Aa x.2.2.2.1))==(Aa x.2.2.2.1))
(k 0)
(k (Bi (Cw 0 x.2.2.1.2.2.2.2.2.1) 63)))))
def Gh (x:List BH):Option (List BH) :=
(cnd (true&&(AS (0+(Aa x)) 16))
(some ([]++x))
 none)
def GQ (x:List Bj):Option (List Bj) :=
(cnd (true&&(AS (0+(Aa x)) 40))
(some ([]++x))
 none)
def B4 (x:(Bool×Bool×Int)×Bool×Int):(Bool×Bool×Int)×Int :=
 if x.1.2.2<0∨1048576<x.1.2.2 then ((false,false,0),8)
 else if x.2.2<1∨1048576<x.2.2 then ((false,false,0),2)
 else
  let s:=Bi ((if x.2.1=x.1.2.1 then x.1.2.2 else 0)+1) 1048576
  ((if x.2.2≤s then x.2.1 else x.1.1,x.2.1,s),0)
def P2 (x:Bj):Option (Int) :=
(cnd (((decide ((Bi (Bi x.2.1 x.2.2.1) x.2.2.2.1)<0))||(decide (1048576<(Cw x.2.1 x.2.2.1))))||(decide (1073741824<x.2.2.2.1)))
(some 8)
(cnd (x.1&&(!(x.2.2.1==0)))
(some 8)
(cnd ((!x.1)&&(!(x.2.1==0)))
(some 8)
(cnd (!(x.1==((Aj Go.BinOp.and Go.IntKind.u64 x.2.2.2.2 1)==1)))
(some 8)
(some 0)))))
def EN (x:Bj):Int :=
(cnd (((decide ((Bi (Bi x.2.1 x.2.2.1) x.2.2.2.1)<0))||(decide (1048576<(Cw x.2.1 x.2.2.1))))||(decide (1073741824<x.2.2.2.1)))
(8)
(cnd (x.1&&(!(x.2.2.1==0)))
(8)
(cnd ((!x.1)&&(!(x.2.1==0)))
(8)
(cnd (!(x.1==((Aj Go.BinOp.and Go.IntKind.u64 x.2.2.2.2 1)==1)))
(8)
(0)))))
theorem uI (x:Bj):P2 x=some (EN x):=by
 unfold P2 EN
 simp only[Eg]
def RJ (x:Bj×Bool):Option (Bj×Int) :=
(AD (EN x.1) (fun y =>
(cnd (!(y==0))
(some ((false,(0,(0,(0,0)))),y))
(cnd (!x.2)
(some ((false,(0,((Bi (wr .i64 (x.1.2.2.1+1)) 1048576),(x.1.2.2.2.1,(Bd Go.IntKind.u64 x.1.2.2.2.2 1))))),0))
(cnd (!x.1.1)
(some ((true,((Bi (wr .i64 (x.1.2.1+1)) 1048576),(0,((Bi (wr .i64 (x.1.2.2.2.1+1)) 1073741824),(Aj Go.BinOp.or Go.IntKind.u64 (Bd Go.IntKind.u64 x.1.2.2.2.2 1) 1))))),0))
(some ((true,((Bi (wr .i64 (x.1.2.1+1)) 1048576),(0,(x.1.2.2.2.1,(Aj Go.BinOp.or Go.IntKind.u64 (Bd Go.IntKind.u64 x.1.2.2.2.2 1) 1))))),0)))))))
def G5 (x:Bj×Bool):Bj×Int :=
(AD (EN x.1) (fun y =>
(cnd (!(y==0))
(((false,(0,(0,(0,0)))),y))
(cnd (!x.2)
(((false,(0,((Bi (wr .i64 (x.1.2.2.1+1)) 1048576),(x.1.2.2.2.1,(Bd Go.IntKind.u64 x.1.2.2.2.2 1))))),0))
(cnd (!x.1.1)
(((true,((Bi (wr .i64 (x.1.2.1+1)) 1048576),(0,((Bi (wr .i64 (x.1.2.2.2.1+1)) 1073741824),(Aj Go.BinOp.or Go.IntKind.u64 (Bd Go.IntKind.u64 x.1.2.2.2.2 1) 1))))),0))
(((true,((Bi (wr .i64 (x.1.2.1+1)) 1048576),(0,(x.1.2.2.2.1,(Aj Go.BinOp.or Go.IntKind.u64 (Bd Go.IntKind.u64 x.1.2.2.2.2 1) 1))))),0)))))))
theorem AaC (x:Bj×Bool):RJ x=some (G5 x):=by
 unfold RJ G5
 simp only[AD,Eg]
def TY (x:AK):Option (Bool) :=
(some (((decide (0≤(Bi x.2.1 x.2.2.2.2)))&&(decide ((Cw x.2.1 x.2.2.2.2)≤1048576)))&&(x.2.2.2.1||(x.2.2.2.2==0))))
def FI (x:AK):Bool :=
((((decide (0≤(Bi x.2.1 x.2.2.2.2)))&&(decide ((Cw x.2.1 x.2.2.2.2)≤1048576)))&&(x.2.2.2.1||(x.2.2.2.2==0))))
theorem Acw (x:AK):TY x=some (FI x):=by
 unfold TY FI
 rfl
def GG (x:Ad×List AK):Option (Int) :=
(Ae (Aw x.1) none (fun x1 =>
(cnd (!(x1==0))
(some x1)
(cnd (!((Aa x.2)==(Aa x.1.2.2.2.2.2.1)))
(some 4)
(iter none (fun x2 =>
(cnd (decide (x2<(Aa x.2)))
(Ae (idx x.2 x2) (.done none) (fun x3 =>
(AD (FI x3) (fun y =>
(cnd (!y)
(.done (some 8))
(.next (wr .i64 (x2+1))))))))
(.done (some 0)))) AE (0:Int))))))
def JD (x:Int):Option (Int) :=
(some (Aj Go.BinOp.and Go.IntKind.i64 (wr .i64 (wr .u64 ((wr .u64 ((wr .u64 ((Aj Go.BinOp.and Go.IntKind.u64 (wr .u64 ((Ay Go.IntKind.u64 (wr .u64 ((Aj Go.BinOp.and Go.IntKind.u64 (Ay Go.IntKind.u64 (wr .u64 ((Aj Go.BinOp.and Go.IntKind.u64 (Ay Go.IntKind.u64 x 1) 6148914691236517205)+(Aj Go.BinOp.and Go.IntKind.u64 x 6148914691236517205))) 2) 3689348814741910323)+(Aj Go.BinOp.and Go.IntKind.u64 (wr .u64 ((Aj Go.BinOp.and Go.IntKind.u64 (Ay Go.IntKind.u64 x 1) 6148914691236517205)+(Aj Go.BinOp.and Go.IntKind.u64 x 6148914691236517205))) 3689348814741910323))) 4)+(wr .u64 ((Aj Go.BinOp.and Go.IntKind.u64 (Ay Go.IntKind.u64 (wr .u64 ((Aj Go.BinOp.and Go.IntKind.u64 (Ay Go.IntKind.u64 x 1) 6148914691236517205)+(Aj Go.BinOp.and Go.IntKind.u64 x 6148914691236517205))) 2) 3689348814741910323)+(Aj Go.BinOp.and Go.IntKind.u64 (wr .u64 ((Aj Go.BinOp.and Go.IntKind.u64 (Ay Go.IntKind.u64 x 1) 6148914691236517205)+(Aj Go.BinOp.and Go.IntKind.u64 x 6148914691236517205))) 3689348814741910323))))) 1085102592571150095)+(Ay Go.IntKind.u64 (Aj Go.BinOp.and Go.IntKind.u64 (wr .u64 ((Ay Go.IntKind.u64 (wr .u64 ((Aj Go.BinOp.and Go.IntKind.u64 (Ay Go.IntKind.u64 (wr .u64 ((Aj Go.BinOp.and Go.IntKind.u64 (Ay Go.IntKind.u64 x 1) 6148914691236517205)+(Aj Go.BinOp.and Go.IntKind.u64 x 6148914691236517205))) 2) 3689348814741910323)+(Aj Go.BinOp.and Go.IntKind.u64 (wr .u64 ((Aj Go.BinOp.and Go.IntKind.u64 (Ay Go.IntKind.u64 x 1) 6148914691236517205)+(Aj Go.BinOp.and Go.IntKind.u64 x 6148914691236517205))) 3689348814741910323))) 4)+(wr .u64 ((Aj Go.BinOp.and Go.IntKind.u64 (Ay Go.IntKind.u64 (wr .u64 ((Aj Go.BinOp.and Go.IntKind.u64 (Ay Go.IntKind.u64 x 1) 6148914691236517205)+(Aj Go.BinOp.and Go.IntKind.u64 x 6148914691236517205))) 2) 3689348814741910323)+(Aj Go.BinOp.and Go.IntKind.u64 (wr .u64 ((Aj Go.BinOp.and Go.IntKind.u64 (Ay Go.IntKind.u64 x 1) 6148914691236517205)+(Aj Go.BinOp.and Go.IntKind.u64 x 6148914691236517205))) 3689348814741910323))))) 1085102592571150095) 8)))+(Ay Go.IntKind.u64 (wr .u64 ((Aj Go.BinOp.and Go.IntKind.u64 (wr .u64 ((Ay Go.IntKind.u64 (wr .u64 ((Aj Go.BinOp.and Go.IntKind.u64 (Ay Go.IntKind.u64 (wr .u64 ((Aj Go.BinOp.and Go.IntKind.u64 (Ay Go.IntKind.u64 x 1) 6148914691236517205)+(Aj Go.BinOp.and Go.IntKind.u64 x 6148914691236517205))) 2) 3689348814741910323)+(Aj Go.BinOp.and Go.IntKind.u64 (wr .u64 ((Aj Go.BinOp.and Go.IntKind.u64 (Ay Go.IntKind.u64 x 1) 6148914691236517205)+(Aj Go.BinOp.and Go.IntKind.u64 x 6148914691236517205))) 3689348814741910323))) 4)+(wr .u64 ((Aj Go.BinOp.and Go.IntKind.u64 (Ay Go.IntKind.u64 (wr .u64 ((Aj Go.BinOp.and Go.IntKind.u64 (Ay Go.IntKind.u64 x 1) 6148914691236517205)+(Aj Go.BinOp.and Go.IntKind.u64 x 6148914691236517205))) 2) 3689348814741910323)+(Aj Go.BinOp.and Go.IntKind.u64 (wr .u64 ((Aj Go.BinOp.and Go.IntKind.u64 (Ay Go.IntKind.u64 x 1) 6148914691236517205)+(Aj Go.BinOp.and Go.IntKind.u64 x 6148914691236517205))) 3689348814741910323))))) 1085102592571150095)+(Ay Go.IntKind.u64 (Aj Go.BinOp.and Go.IntKind.u64 (wr .u64 ((Ay Go.IntKind.u64 (wr .u64 ((Aj Go.BinOp.and Go.IntKind.u64 (Ay Go.IntKind.u64 (wr .u64 ((Aj Go.BinOp.and Go.IntKind.u64 (Ay Go.IntKind.u64 x 1) 6148914691236517205)+(Aj Go.BinOp.and Go.IntKind.u64 x 6148914691236517205))) 2) 3689348814741910323)+(Aj Go.BinOp.and Go.IntKind.u64 (wr .u64 ((Aj Go.BinOp.and Go.IntKind.u64 (Ay Go.IntKind.u64 x 1) 6148914691236517205)+(Aj Go.BinOp.and Go.IntKind.u64 x 6148914691236517205))) 3689348814741910323))) 4)+(wr .u64 ((Aj Go.BinOp.and Go.IntKind.u64 (Ay Go.IntKind.u64 (wr .u64 ((Aj Go.BinOp.and Go.IntKind.u64 (Ay Go.IntKind.u64 x 1) 6148914691236517205)+(Aj Go.BinOp.and Go.IntKind.u64 x 6148914691236517205))) 2) 3689348814741910323)+(Aj Go.BinOp.and Go.IntKind.u64 (wr .u64 ((Aj Go.BinOp.and Go.IntKind.u64 (Ay Go.IntKind.u64 x 1) 6148914691236517205)+(Aj Go.BinOp.and Go.IntKind.u64 x 6148914691236517205))) 3689348814741910323))))) 1085102592571150095) 8))) 16)))+(Ay Go.IntKind.u64 (wr .u64 ((wr .u64 ((Aj Go.BinOp.and Go.IntKind.u64 (wr .u64 ((Ay Go.IntKind.u64 (wr .u64 ((Aj Go.BinOp.and Go.IntKind.u64 (Ay Go.IntKind.u64 (wr .u64 ((Aj Go.BinOp.and Go.IntKind.u64 (Ay Go.IntKind.u64 x 1) 6148914691236517205)+(Aj Go.BinOp.and Go.IntKind.u64 x 6148914691236517205))) 2) 3689348814741910323)+(Aj Go.BinOp.and Go.IntKind.u64 (wr .u64 ((Aj Go.BinOp.and Go.IntKind.u64 (Ay Go.IntKind.u64 x 1) 6148914691236517205)+(Aj Go.BinOp.and Go.IntKind.u64 x 6148914691236517205))) 3689348814741910323))) 4)+(wr .u64 ((Aj Go.BinOp.and Go.IntKind.u64 (Ay Go.IntKind.u64 (wr .u64 ((Aj Go.BinOp.and Go.IntKind.u64 (Ay Go.IntKind.u64 x 1) 6148914691236517205)+(Aj Go.BinOp.and Go.IntKind.u64 x 6148914691236517205))) 2) 3689348814741910323)+(Aj Go.BinOp.and Go.IntKind.u64 (wr .u64 ((Aj Go.BinOp.and Go.IntKind.u64 (Ay Go.IntKind.u64 x 1) 6148914691236517205)+(Aj Go.BinOp.and Go.IntKind.u64 x 6148914691236517205))) 3689348814741910323))))) 1085102592571150095)+(Ay Go.IntKind.u64 (Aj Go.BinOp.and Go.IntKind.u64 (wr .u64 ((Ay Go.IntKind.u64 (wr .u64 ((Aj Go.BinOp.and Go.IntKind.u64 (Ay Go.IntKind.u64 (wr .u64 ((Aj Go.BinOp.and Go.IntKind.u64 (Ay Go.IntKind.u64 x 1) 6148914691236517205)+(Aj Go.BinOp.and Go.IntKind.u64 x 6148914691236517205))) 2) 3689348814741910323)+(Aj Go.BinOp.and Go.IntKind.u64 (wr .u64 ((Aj Go.BinOp.and Go.IntKind.u64 (Ay Go.IntKind.u64 x 1) 6148914691236517205)+(Aj Go.BinOp.and Go.IntKind.u64 x 6148914691236517205))) 3689348814741910323))) 4)+(wr .u64 ((Aj Go.BinOp.and Go.IntKind.u64 (Ay Go.IntKind.u64 (wr .u64 ((Aj Go.BinOp.and Go.IntKind.u64 (Ay Go.IntKind.u64 x 1) 6148914691236517205)+(Aj Go.BinOp.and Go.IntKind.u64 x 6148914691236517205))) 2) 3689348814741910323)+(Aj Go.BinOp.and Go.IntKind.u64 (wr .u64 ((Aj Go.BinOp.and Go.IntKind.u64 (Ay Go.IntKind.u64 x 1) 6148914691236517205)+(Aj Go.BinOp.and Go.IntKind.u64 x 6148914691236517205))) 3689348814741910323))))) 1085102592571150095) 8)))+(Ay Go.IntKind.u64 (wr .u64 ((Aj Go.BinOp.and Go.IntKind.u64 (wr .u64 ((Ay Go.IntKind.u64 (wr .u64 ((Aj Go.BinOp.and Go.IntKind.u64 (Ay Go.IntKind.u64 (wr .u64 ((Aj Go.BinOp.and Go.IntKind.u64 (Ay Go.IntKind.u64 x 1) 6148914691236517205)+(Aj Go.BinOp.and Go.IntKind.u64 x 6148914691236517205))) 2) 3689348814741910323)+(Aj Go.BinOp.and Go.IntKind.u64 (wr .u64 ((Aj Go.BinOp.and Go.IntKind.u64 (Ay Go.IntKind.u64 x 1) 6148914691236517205)+(Aj Go.BinOp.and Go.IntKind.u64 x 6148914691236517205))) 3689348814741910323))) 4)+(wr .u64 ((Aj Go.BinOp.and Go.IntKind.u64 (Ay Go.IntKind.u64 (wr .u64 ((Aj Go.BinOp.and Go.IntKind.u64 (Ay Go.IntKind.u64 x 1) 6148914691236517205)+(Aj Go.BinOp.and Go.IntKind.u64 x 6148914691236517205))) 2) 3689348814741910323)+(Aj Go.BinOp.and Go.IntKind.u64 (wr .u64 ((Aj Go.BinOp.and Go.IntKind.u64 (Ay Go.IntKind.u64 x 1) 6148914691236517205)+(Aj Go.BinOp.and Go.IntKind.u64 x 6148914691236517205))) 3689348814741910323))))) 1085102592571150095)+(Ay Go.IntKind.u64 (Aj Go.BinOp.and Go.IntKind.u64 (wr .u64 ((Ay Go.IntKind.u64 (wr .u64 ((Aj Go.BinOp.and Go.IntKind.u64 (Ay Go.IntKind.u64 (wr .u64 ((Aj Go.BinOp.and Go.IntKind.u64 (Ay Go.IntKind.u64 x 1) 6148914691236517205)+(Aj Go.BinOp.and Go.IntKind.u64 x 6148914691236517205))) 2) 3689348814741910323)+(Aj Go.BinOp.and Go.IntKind.u64 (wr .u64 ((Aj Go.BinOp.and Go.IntKind.u64 (Ay Go.IntKind.u64 x 1) 6148914691236517205)+(Aj Go.BinOp.and Go.IntKind.u64 x 6148914691236517205))) 3689348814741910323))) 4)+(wr .u64 ((Aj Go.BinOp.and Go.IntKind.u64 (Ay Go.IntKind.u64 (wr .u64 ((Aj Go.BinOp.and Go.IntKind.u64 (Ay Go.IntKind.u64 x 1) 6148914691236517205)+(Aj Go.BinOp.and Go.IntKind.u64 x 6148914691236517205))) 2) 3689348814741910323)+(Aj Go.BinOp.and Go.IntKind.u64 (wr .u64 ((Aj Go.BinOp.and Go.IntKind.u64 (Ay Go.IntKind.u64 x 1) 6148914691236517205)+(Aj Go.BinOp.and Go.IntKind.u64 x 6148914691236517205))) 3689348814741910323))))) 1085102592571150095) 8))) 16))) 32)))) 127))
def FG (x:Int):Int:=NQ x
theorem TJ (x:Int) (hf:I8 [U64] x):JD x=some (FG x):=by
 have h:JD x=some (AeL x):=id rfl
 rw[h,Agb hf];rfl
def J0 (x:Ad×Int×AK×Bool):Option (AK) :=
(cnd (!(x.2.2.2==x.2.2.1.1))
(Ae (idx x.1.2.2.2.2.2.1 x.2.1) none (fun x1 =>
(cnd (x.2.2.2&&(decide (x1.2.1≤(Bi 1 1048576))))
(some (x.2.2.2,((Bi 1 1048576),((Aj Go.BinOp.or Go.IntKind.u64 (Bd Go.IntKind.u64 x.2.2.1.2.2.1 1) 1),(true,0)))))
(cnd ((!x.2.2.2)&&(decide (x1.2.2.1≤(Bi 1 1048576))))
(some (x.2.2.2,((Bi 1 1048576),((Aj Go.BinOp.or Go.IntKind.u64 (Bd Go.IntKind.u64 x.2.2.1.2.2.1 1) 1),(true,0)))))
(AD (FG (Aj Go.BinOp.or Go.IntKind.u64 (Bd Go.IntKind.u64 x.2.2.1.2.2.1 1) 1)) (fun y =>
(cnd (decide (x1.2.2.2<y))
(some (x.2.2.2,((Bi 1 1048576),((Aj Go.BinOp.or Go.IntKind.u64 (Bd Go.IntKind.u64 x.2.2.1.2.2.1 1) 1),(true,0)))))
(cnd x.2.2.1.2.2.2.1
(cnd (decide (x.1.2.2.2.2.2.2.2.2.1≤(wr .i64 (x.2.2.1.2.2.2.2+1))))
(some (x.2.2.2,((Bi 1 1048576),((Aj Go.BinOp.or Go.IntKind.u64 (Bd Go.IntKind.u64 x.2.2.1.2.2.1 1) 1),(false,0)))))
(some (x.2.2.2,((Bi 1 1048576),((Aj Go.BinOp.or Go.IntKind.u64 (Bd Go.IntKind.u64 x.2.2.1.2.2.1 1) 1),(x.2.2.1.2.2.2.1,(wr .i64 (x.2.2.1.2.2.2.2+1))))))))
(some (x.2.2.2,((Bi 1 1048576),((Aj Go.BinOp.or Go.IntKind.u64 (Bd Go.IntKind.u64 x.2.2.1.2.2.1 1) 1),x.2.2.1.2.2.2))))))))))))
(Ae (idx x.1.2.2.2.2.2.1 x.2.1) none (fun x1 =>
(cnd (x.2.2.2&&(decide (x1.2.1≤(Bi (wr .i64 (x.2.2.1.2.1+1)) 1048576))))
(some (x.2.2.1.1,((Bi (wr .i64 (x.2.2.1.2.1+1)) 1048576),((Bd Go.IntKind.u64 x.2.2.1.2.2.1 1),(true,0)))))
(cnd ((!x.2.2.2)&&(decide (x1.2.2.1≤(Bi (wr .i64 (x.2.2.1.2.1+1)) 1048576))))
(some (x.2.2.1.1,((Bi (wr .i64 (x.2.2.1.2.1+1)) 1048576),((Bd Go.IntKind.u64 x.2.2.1.2.2.1 1),(true,0)))))
(AD (FG (Bd Go.IntKind.u64 x.2.2.1.2.2.1 1)) (fun y =>
(cnd (decide (x1.2.2.2<y))
(some (x.2.2.1.1,((Bi (wr .i64 (x.2.2.1.2.1+1)) 1048576),((Bd Go.IntKind.u64 x.2.2.1.2.2.1 1),(true,0)))))
(cnd x.2.2.1.2.2.2.1
(cnd (decide (x.1.2.2.2.2.2.2.2.2.1≤(wr .i64 (x.2.2.1.2.2.2.2+1))))
(some (x.2.2.1.1,((Bi (wr .i64 (x.2.2.1.2.1+1)) 1048576),((Bd Go.IntKind.u64 x.2.2.1.2.2.1 1),(false,0)))))
(some (x.2.2.1.1,((Bi (wr .i64 (x.2.2.1.2.1+1)) 1048576),((Bd Go.IntKind.u64 x.2.2.1.2.2.1 1),(x.2.2.1.2.2.2.1,(wr .i64 (x.2.2.1.2.2.2.2+1))))))))
(some (x.2.2.1.1,((Bi (wr .i64 (x.2.2.1.2.1+1)) 1048576),((Bd Go.IntKind.u64 x.2.2.1.2.2.1 1),x.2.2.1.2.2.2)))))))))))))
def K1 (x:Ad×List AK×Int):Option (List AK×Int) :=
(Ae (GG (x.1,x.2.1)) none (fun x1 =>
(cnd (!(x1==0))
(some ([],x1))
(cnd ((decide (0≤(Aa x.2.1)))&&((decide ((Aa x.2.1)≤(Aa x.2.1)))&&(DP (Aa x.2.1) 40)))
(iter none (fun x2 =>
(cnd (decide (x2.1<(Aa x.2.1)))
(Ae (idx x.2.1 x2.1) (.done none) (fun x3 =>
(AD (Ei (x.2.2,x2.1)) (fun y =>
(Ae (J0 (x.1,(x2.1,(x3,y)))) (.done none) (fun x4 =>
(Ae (idx x2.2 x2.1) (.done none) (fun _ =>
(Ae (idx x2.2 x2.1) (.done none) (fun _ =>
(.next ((wr .i64 (x2.1+1)),(Bc x2.2 x2.1 x4)))))))))))))
(.done (some (x2.2,0))))) AE ((0:Int),(AQ (Aa x.2.1) (false,((0:Int),((0:Int),(false,(0:Int))))))))
 none))))
def F9 (x:Ad×Int×Int):Option (Bool) :=
(Ae (idx x.1.2.2.2.2.1 x.2.1) none (fun x1 =>
(cnd (decide (0≤x.2.2))
(some ((Aj Go.BinOp.and Go.IntKind.u32 (Ay Go.IntKind.u32 x1.1 x.2.2) 1)==1))
 none)))
def Jn (x:Ad×Aq×Int):Option (Bool) :=
(iter none (fun x1 =>
(cnd (decide (x1<(Aa x.2.1.1)))
(Ae (idx x.2.1.1 x1) (.done none) (fun x2 =>
(Ae (F9 (x.1,(x.2.2,x1))) (.done none) (fun x3 =>
(cnd (x3&&(!(x2.1==2)))
(.done (some false))
(.next (wr .i64 (x1+1))))))))
(.done (some true)))) AE (0:Int))
def Ck (x:Ad×Aq×Int):Option (Bool×Int) :=
(Dh (fun x1 =>
(cnd (x1==0)
(Ae (Jn x) none (fun x2 =>
(some (x2,x1))))
(some (false,x1)))) (fun k =>
(Ae (Aw x.1) none (fun x1 =>
(cnd (!(x1==0))
(k x1)
(cnd (!((Aa x.2.1.1)==(Aa x.1.2.1)))
(k 8)
(cnd ((decide (x.2.2<0))||(decide ((Aa x.1.2.2.2.2.1)≤x.2.2)))
(k 2)
(k 0))))))))
def Qf (x:Int×Int):Option (Int) :=
(AD (DK x.2) (fun y =>
(some (Aj Go.BinOp.or Go.IntKind.u32 x.1 y))))
def Fv (x:Int×Int):Int :=
(AD (DK x.2) (fun y =>
((Aj Go.BinOp.or Go.IntKind.u32 x.1 y))))
theorem wH (x:Int×Int):Qf x=some (Fv x):=by
 unfold Qf Fv
 simp only[AD]
def Mr (x:AK):Option (Bool) :=
(some (!x.2.2.2.1))
def H4 (x:AK):Bool :=
((!x.2.2.2.1))
theorem cE (x:AK):Mr x=some (H4 x):=by
 unfold Mr H4
 rfl
def Hz (x:Ad×List AK):Option (Bool×Int) :=
(Ae (GG x) none (fun x1 =>
(cnd (!(x1==0))
(some (false,x1))
(iter none (fun x2 =>
(cnd (decide (x2.2.2<(Aa x.2)))
(Ae (idx x.2 x2.2.2) (.done none) (fun x3 =>
(Ae (idx x.1.2.2.2.2.2.1 x2.2.2) (.done none) (fun x4 =>
(AD (Fv (x2.1,x4.1)) (fun y =>
(AD (H4 x3) (fun y1 =>
(cnd y1
(AD (Fv (x2.2.1,x4.1)) (fun y2 =>
(.next (y,(y2,(wr .i64 (x2.2.2+1)))))))
(.next (y,(x2.2.1,(wr .i64 (x2.2.2+1))))))))))))))
(.done (some ((x2.1==x2.2.1),0))))) AE ((0:Int),((0:Int),(0:Int)))))))
def PZ (x:AK):Option (Bool) :=
(some (x.1||x.2.2.2.1))
def IC (x:AK):Bool :=
((x.1||x.2.2.2.1))
theorem uC (x:AK):PZ x=some (IC x):=by
 unfold PZ IC
 rfl
def Jb (x:Ad×List AK):Option (Int×Int) :=
(Ae (Hz x) none (fun x1 =>
(cnd (!(x1.2==0))
(some (0,x1.2))
(iter none (fun x2 =>
(cnd (decide (x2.2<(Aa x.1.2.2.2.2.1)))
(Ae (idx x.1.2.2.2.2.1 x2.2) (.done none) (fun x3 =>
(cnd x3.2.2.2.2
(cnd (decide (0≤x2.2))
(.next ((Aj Go.BinOp.or Go.IntKind.u32 x2.1 (Bd Go.IntKind.u32 1 x2.2)),(wr .i64 (x2.2+1))))
(.done none))
(.next (x2.1,(wr .i64 (x2.2+1)))))))
(.done (iter none (fun x3 =>
(cnd (decide (x3.2<(Aa x.2)))
(Ae (idx x.2 x3.2) (.done none) (fun x4 =>
(AD (IC x4) (fun y =>
(cnd y
(Ae (idx x.1.2.2.2.2.2.1 x3.2) (.done none) (fun x5 =>
(cnd (decide (0≤x5.1))
(.next ((Aj Go.BinOp.or Go.IntKind.u32 x3.1 (Bd Go.IntKind.u32 1 x5.1)),(wr .i64 (x3.2+1))))
(.done none))))
(.next (x3.1,(wr .i64 (x3.2+1)))))))))
(.done (some (x3.1,0))))) AE (x2.1,(0:Int)))))) AE ((0:Int),(0:Int))))))
def H0 (x:Ad×Int×Int):Option (Int) :=
(cnd (decide (0≤(Aa x.1.2.2.2.2.1)))
(cnd (!((Ay Go.IntKind.u32 x.2.1 (Aa x.1.2.2.2.2.1))==0))
(some 8)
(cnd ((decide (x.2.2<(-1)))||(decide ((Aa x.1.2.2.2.2.1)≤x.2.2)))
(some 2)
(some 0)))
 none)
def E0 (x:Ad×Int×List AK×Int):Option (Int×Int) :=
(Ae (Jb (x.1,x.2.2.1)) none (fun x1 =>
(cnd (!(x1.2==0))
(some (0,x1.2))
(Ae (H0 (x.1,(x.2.1,x.2.2.2))) none (fun x2 =>
(cnd (!(x2==0))
(some (0,x2))
(AD (Co ((Aj Go.BinOp.or Go.IntKind.u32 x.2.1 x1.1),x.2.2.2)) (fun y =>
(some (y,0))))))))))
def Fm (x:BX):Option (BX) :=
(Ae (Gh x.2.1.2.2.2.2.2.2.2.2.1) none (fun x1 =>
(Ae (Gh x.2.1.2.2.2.2.2.2.2.2.1) none (fun x2 =>
(Ae (GQ x.2.1.2.2.2.2.2.2.2.2.2.2.1) none (fun x3 =>
(iter none (fun x4 =>
(cnd (decide (x4.1<(Aa x2)))
(Ae (idx x4.2.2.2.1.2.2.2.2.2.2.2.2.1 x4.1) (.done none) (fun _ =>
(Ae (idx x4.2.2.2.1.2.2.2.2.2.2.2.2.1 x4.1) (.done none) (fun x6 =>
(cnd (decide (0≤x4.1))
(AD (B4 (x6,(((Aj Go.BinOp.and Go.IntKind.u32 (Ay Go.IntKind.u32 x4.2.2.2.2.1.2.1 x4.1) 1)==1),2))) (fun y =>
(Ae (idx x4.2.2.2.1.2.2.2.2.2.2.2.2.1 x4.1) (.done none) (fun _ =>
(Ae (idx x4.2.2.2.1.2.2.2.2.2.2.2.2.1 x4.1) (.done none) (fun _ =>
(Ae (idx x4.2.2.2.1.2.2.2.2.2.2.2.2.2.2.1 x4.1) (.done none) (fun _ =>
(Ae (idx x4.2.2.2.1.2.2.2.2.2.2.2.2.2.2.1 x4.1) (.done none) (fun x10 =>
(Ae (idx (Bc x4.2.2.2.1.2.2.2.2.2.2.2.2.1 x4.1 y.1) x4.1) (.done none) (fun _ =>
(Ae (idx (Bc x4.2.2.2.1.2.2.2.2.2.2.2.2.1 x4.1 y.1) x4.1) (.done none) (fun x12 =>
(AD (G5 (x10,x12.1)) (fun y1 =>
(Ae (idx x4.2.2.2.1.2.2.2.2.2.2.2.2.2.2.1 x4.1) (.done none) (fun _ =>
(Ae (idx x4.2.2.2.1.2.2.2.2.2.2.2.2.2.2.1 x4.1) (.done none) (fun _ =>
(Ae (idx (Bc x4.2.2.2.1.2.2.2.2.2.2.2.2.1 x4.1 y.1) x4.1) (.done none) (fun _ =>
(Ae (idx (Bc x4.2.2.2.1.2.2.2.2.2.2.2.2.1 x4.1 y.1) x4.1) (.done none) (fun x16 =>
(cnd x16.1
(cnd (decide (0≤x4.1))
(.next ((wr .i64 (x4.1+1)),((Aj Go.BinOp.or Go.IntKind.u32 x4.2.1 (Bd Go.IntKind.u32 1 x4.1)),(x4.2.2.1,(((x4.2.2.2.1.1.1,()),(x4.2.2.2.1.2.1,(x4.2.2.2.1.2.2.1,(x4.2.2.2.1.2.2.2.1,(x4.2.2.2.1.2.2.2.2.1,(x4.2.2.2.1.2.2.2.2.2.1,(x4.2.2.2.1.2.2.2.2.2.2.1,(x4.2.2.2.1.2.2.2.2.2.2.2.1,((Bc x4.2.2.2.1.2.2.2.2.2.2.2.2.1 x4.1 y.1),(x4.2.2.2.1.2.2.2.2.2.2.2.2.2.1,((Bc x4.2.2.2.1.2.2.2.2.2.2.2.2.2.2.1 x4.1 y1.1),x4.2.2.2.1.2.2.2.2.2.2.2.2.2.2.2))))))))))),x4.2.2.2.2)))))
(.done none))
(.next ((wr .i64 (x4.1+1)),(x4.2.1,(x4.2.2.1,(((x4.2.2.2.1.1.1,()),(x4.2.2.2.1.2.1,(x4.2.2.2.1.2.2.1,(x4.2.2.2.1.2.2.2.1,(x4.2.2.2.1.2.2.2.2.1,(x4.2.2.2.1.2.2.2.2.2.1,(x4.2.2.2.1.2.2.2.2.2.2.1,(x4.2.2.2.1.2.2.2.2.2.2.2.1,((Bc x4.2.2.2.1.2.2.2.2.2.2.2.2.1 x4.1 y.1),(x4.2.2.2.1.2.2.2.2.2.2.2.2.2.1,((Bc x4.2.2.2.1.2.2.2.2.2.2.2.2.2.2.1 x4.1 y1.1),x4.2.2.2.1.2.2.2.2.2.2.2.2.2.2.2))))))))))),x4.2.2.2.2))))))))))))))))))))))))))))))
(.done none))))))
(.done (Ae (K1 (x4.2.2.1,(x4.2.2.2.1.2.2.2.2.2.2.2.2.2.1,x4.2.1))) none (fun x5 =>
(Ae (Ck (x4.2.2.1,(x4.2.2.2.1.2.1,x4.2.2.2.1.2.2.2.1.1))) none (fun x6 =>
(cnd x6.1
(Ae (E0 (x4.2.2.1,(x4.2.2.2.1.2.2.2.2.2.2.2.2.2.2.2.1,(x5.1,x4.2.2.2.1.2.2.2.1.1)))) none (fun x7 =>
(some (x4.2.2.1,(((x4.2.2.2.1.1.1,()),(x4.2.2.2.1.2.1,(x4.2.2.2.1.2.2.1,(x4.2.2.2.1.2.2.2.1,(x4.2.2.2.1.2.2.2.2.1,(x4.2.2.2.1.2.2.2.2.2.1,(x4.2.2.2.1.2.2.2.2.2.2.1,(x4.2.2.2.1.2.2.2.2.2.2.2.1,(x4.2.2.2.1.2.2.2.2.2.2.2.2.1,(x5.1,(x4.2.2.2.1.2.2.2.2.2.2.2.2.2.2.1,(x7.1,x4.2.2.2.1.2.2.2.2.2.2.2.2.2.2.2.2)))))))))))),x4.2.2.2.2)))))
(Ae (E0 (x4.2.2.1,(x4.2.2.2.1.2.2.2.2.2.2.2.2.2.2.2.1,(x5.1,(-1))))) none (fun x7 =>
(some (x4.2.2.1,(((x4.2.2.2.1.1.1,()),(x4.2.2.2.1.2.1,(x4.2.2.2.1.2.2.1,(x4.2.2.2.1.2.2.2.1,(x4.2.2.2.1.2.2.2.2.1,(x4.2.2.2.1.2.2.2.2.2.1,(x4.2.2.2.1.2.2.2.2.2.2.1,(x4.2.2.2.1.2.2.2.2.2.2.2.1,(x4.2.2.2.1.2.2.2.2.2.2.2.2.1,(x5.1,(x4.2.2.2.1.2.2.2.2.2.2.2.2.2.2.1,(x7.1,x4.2.2.2.1.2.2.2.2.2.2.2.2.2.2.2.2)))))))))))),x4.2.2.2.2))))))))))))) AE ((0:Int),((0:Int),(x.1,(((x.2.1.1.1,()),(x.2.1.2.1,(x.2.1.2.2.1,(x.2.1.2.2.2.1,(x.2.1.2.2.2.2.1,(x.2.1.2.2.2.2.2.1,(x.2.1.2.2.2.2.2.2.1,(x.2.1.2.2.2.2.2.2.2.1,(x2,(x.2.1.2.2.2.2.2.2.2.2.2.1,(x3,x.2.1.2.2.2.2.2.2.2.2.2.2.2))))))))))),(x.2.2.1,(x.2.2.2.1,(x1,x.2.2.2.2.2))))))))))))))
def EK (x:Ad×Int):Option (Int) :=
(Ae (Aw x.1) none (fun x1 =>
(cnd (!(x1==0))
(some x1)
(cnd ((decide (x.2<0))||(decide (1048576<x.2)))
(some 2)
(some 0)))))
def Hh (x:Ad×List Int):Option (Int) :=
(cnd (!((Aa x.2)==(Aa x.1.2.1)))
(some 4)
(iter none (fun x1 =>
(cnd (decide (x1<(Aa x.2)))
(Ae (idx x.2 x1) (.done none) (fun x2 =>
(cnd (decide (4<x2))
(.done (some 2))
(.next (wr .i64 (x1+1))))))
(.done (some 0)))) AE (0:Int)))
def HY (x:Ad×List Int×List Int):Option (Bool×Int) :=
(iter none (fun x1 =>
(cnd (decide (x1<(Aa (x.2.1::(x.2.2::[])))))
(Ae (idx (x.2.1::(x.2.2::[])) x1) (.done none) (fun x2 =>
(cnd ((x1==1)&&((Aa x2)==0))
(.next (wr .i64 (x1+1)))
(Ae (Hh (x.1,x2)) (.done none) (fun x3 =>
(cnd (!(x3==0))
(.done (some (false,x3)))
(.next (wr .i64 (x1+1)))))))))
(.done (iter none (fun x2 =>
(cnd (decide (x2<(Aa x.2.2)))
(Ae (idx x.2.2 x2) (.done none) (fun x3 =>
(Ae (idx x.2.1 x2) (.done none) (fun x4 =>
(cnd (!(x4==x3))
(.done (some (true,0)))
(.next (wr .i64 (x2+1))))))))
(.done (some (false,0))))) AE (0:Int))))) AE (0:Int))
def Ja (x:Ad×Int×List Int×List Int):Option (Int×Int) :=
(Ae (EK (x.1,x.2.1)) none (fun x1 =>
(cnd (!(x1==0))
(some (0,x1))
(Ae (HY (x.1,x.2.2)) none (fun x2 =>
(cnd ((!(x2.2==0))||(!x2.1))
(some (0,x2.2))
(some ((Bi (wr .i64 (x.2.1+1)) 1048576),0))))))))
def GP (x:Ad×Int):Option (Bool×Int) :=
(Ae (EK x) none (fun x1 =>
(cnd (!(x1==0))
(some (false,x1))
(some ((decide (x.1.2.2.2.2.2.2.2.1≤x.2)),0)))))
def OR (x:Az):Option (Bool) :=
(some (((x.1==0)&&(x.2.1==0))&&((Aa x.2.2)==0)))
def DO (x:Az):Bool :=
((((x.1==0)&&(x.2.1==0))&&((Aa x.2.2)==0)))
theorem oF (x:Az):OR x=some (DO x):=by
 unfold OR DO
 rfl
def Eu (x:BX):Option (BX×DA×Bt) :=
(iter none (fun x1 =>
(cnd (decide (x1.2<(Aa x.2.1.2.1.1)))
(Ae (idx x.2.1.2.1.1 x1.2) (.done none) (fun x2 =>
(cnd (true&&(AS ((Aa x1.1)+(Aa (x2.1::[]))) 1))
(.next ((x1.1++(x2.1::[])),(wr .i64 (x1.2+1))))
(.done none))))
(.done (Ae (Ja (x.1,(x.2.1.2.2.2.2.2.2.2.2.2.2.2.2.1,(x1.1,x.2.2.1.2.2.1)))) none (fun x2 =>
(Dh (fun x3 =>
(Ae (GP (x.1,x3)) none (fun x4 =>
(Ae (D5 (x.2.1.1.1,())) none (fun x5 =>
(Ae (Hz (x.1,x.2.1.2.2.2.2.2.2.2.2.2.1)) none (fun x6 =>
(AD (DO x.2.1.2.2.2.2.2.2.1) (fun y =>
(cnd (!y)
(cnd (!x.2.2.1.2.2.2.2.2.2)
(cnd (x5.2==0)
(some ((x.1,(((x.2.1.1.1,()),(x.2.1.2.1,(x.2.1.2.2.1,(x.2.1.2.2.2.1,(x.2.1.2.2.2.2.1,(x.2.1.2.2.2.2.2.1,(x.2.1.2.2.2.2.2.2.1,(x.2.1.2.2.2.2.2.2.2.1,(x.2.1.2.2.2.2.2.2.2.2.1,(x.2.1.2.2.2.2.2.2.2.2.2.1,(x.2.1.2.2.2.2.2.2.2.2.2.2.1,(x.2.1.2.2.2.2.2.2.2.2.2.2.2.1,(x3,x.2.1.2.2.2.2.2.2.2.2.2.2.2.2.2))))))))))))),x.2.2)),(((decide (x.2.1.2.2.2.2.2.2.2.1<x.1.2.2.2.2.2.2.1)),((decide (0<(Aa x5.1.2.2))),(x6.1,(!x4.1)))),x5.1)))
(some ((x.1,(((x.2.1.1.1,()),(x.2.1.2.1,(x.2.1.2.2.1,(x.2.1.2.2.2.1,(x.2.1.2.2.2.2.1,(x.2.1.2.2.2.2.2.1,(x.2.1.2.2.2.2.2.2.1,(x.2.1.2.2.2.2.2.2.2.1,(x.2.1.2.2.2.2.2.2.2.2.1,(x.2.1.2.2.2.2.2.2.2.2.2.1,(x.2.1.2.2.2.2.2.2.2.2.2.2.1,(x.2.1.2.2.2.2.2.2.2.2.2.2.2.1,(x3,x.2.1.2.2.2.2.2.2.2.2.2.2.2.2.2))))))))))))),x.2.2)),(((decide (x.2.1.2.2.2.2.2.2.2.1<x.1.2.2.2.2.2.2.1)),(false,(x6.1,(!x4.1)))),x5.1))))
(some ((x.1,(((x.2.1.1.1,()),(x.2.1.2.1,(x.2.1.2.2.1,(x.2.1.2.2.2.1,(x.2.1.2.2.2.2.1,(x.2.1.2.2.2.2.2.1,(x.2.1.2.2.2.2.2.2.1,(x.2.1.2.2.2.2.2.2.2.1,(x.2.1.2.2.2.2.2.2.2.2.1,(x.2.1.2.2.2.2.2.2.2.2.2.1,(x.2.1.2.2.2.2.2.2.2.2.2.2.1,(x.2.1.2.2.2.2.2.2.2.2.2.2.2.1,(x3,x.2.1.2.2.2.2.2.2.2.2.2.2.2.2.2))))))))))))),x.2.2)),(((decide (x.2.1.2.2.2.2.2.2.2.1<x.1.2.2.2.2.2.2.1)),(false,(x6.1,(!x4.1)))),x5.1))))
(cnd (!x.2.2.1.2.2.2.2.2.2)
(cnd (x5.2==0)
(some ((x.1,(((x.2.1.1.1,()),(x.2.1.2.1,(x.2.1.2.2.1,(x.2.1.2.2.2.1,(x.2.1.2.2.2.2.1,(x.2.1.2.2.2.2.2.1,(x.2.1.2.2.2.2.2.2.1,(x.2.1.2.2.2.2.2.2.2.1,(x.2.1.2.2.2.2.2.2.2.2.1,(x.2.1.2.2.2.2.2.2.2.2.2.1,(x.2.1.2.2.2.2.2.2.2.2.2.2.1,(x.2.1.2.2.2.2.2.2.2.2.2.2.2.1,(x3,x.2.1.2.2.2.2.2.2.2.2.2.2.2.2.2))))))))))))),x.2.2)),((false,((decide (0<(Aa x5.1.2.2))),(x6.1,(!x4.1)))),x5.1)))
(some ((x.1,(((x.2.1.1.1,()),(x.2.1.2.1,(x.2.1.2.2.1,(x.2.1.2.2.2.1,(x.2.1.2.2.2.2.1,(x.2.1.2.2.2.2.2.1,(x.2.1.2.2.2.2.2.2.1,(x.2.1.2.2.2.2.2.2.2.1,(x.2.1.2.2.2.2.2.2.2.2.1,(x.2.1.2.2.2.2.2.2.2.2.2.1,(x.2.1.2.2.2.2.2.2.2.2.2.2.1,(x.2.1.2.2.2.2.2.2.2.2.2.2.2.1,(x3,x.2.1.2.2.2.2.2.2.2.2.2.2.2.2.2))))))))))))),x.2.2)),((false,(false,(x6.1,(!x4.1)))),x5.1))))
(some ((x.1,(((x.2.1.1.1,()),(x.2.1.2.1,(x.2.1.2.2.1,(x.2.1.2.2.2.1,(x.2.1.2.2.2.2.1,(x.2.1.2.2.2.2.2.1,(x.2.1.2.2.2.2.2.2.1,(x.2.1.2.2.2.2.2.2.2.1,(x.2.1.2.2.2.2.2.2.2.2.1,(x.2.1.2.2.2.2.2.2.2.2.2.1,(x.2.1.2.2.2.2.2.2.2.2.2.2.1,(x.2.1.2.2.2.2.2.2.2.2.2.2.2.1,(x3,x.2.1.2.2.2.2.2.2.2.2.2.2.2.2.2))))))))))))),x.2.2)),((false,(false,(x6.1,(!x4.1)))),x5.1)))))))))))))) (fun k =>
(cnd (!(x2.2==0))
(AD (B3 (x.2.1.2.2.2.2.2.2.2.2.2.2.2.2.1,1048576)) (fun y =>
(k y)))
(k x2.1))))))))) AE ([],(0:Int)))
def GV (x:Ad×BR):Option (Int) :=
(Ae (Aw x.1) none (fun x1 =>
(cnd (!(x1==0))
(some x1)
(cnd ((((decide (3<x.2.1))||(decide (x.2.2.1<0)))||(decide (1048576<x.2.2.1)))||(x.2.2.2&&((!(x.2.1==0))||(!(x.2.2.1==0)))))
(some 8)
(some 0)))))
def OG (x:BR×DA):Option (Int) :=
(cnd (x.1.2.2||(!x.2.2.2.2))
(some 0)
(cnd ((x.2.1&&x.2.2.1)&&x.2.2.2.1)
(some 3)
(cnd x.2.2.1
(some 2)
(some 1))))
def Bx (x:BR×DA):Int :=
(cnd (x.1.2.2||(!x.2.2.2.2))
(0)
(cnd ((x.2.1&&x.2.2.1)&&x.2.2.2.1)
(3)
(cnd x.2.2.1
(2)
(1))))
theorem nC (x:BR×DA):OG x=some (Bx x):=by
 unfold OG Bx
 simp only[Eg]
def Nx (x:Ad×BR×DA):Option (BR) :=
(AD (Bx ((x.2.1.1,(x.2.1.2.1,(x.2.1.2.2||(!x.2.2.2.2.2)))),x.2.2)) (fun y =>
(cnd (decide (y≤x.2.1.1))
(some (y,(0,(x.2.1.2.2||(!x.2.2.2.2.2)))))
(cnd (decide (x.1.2.2.2.2.2.2.2.2.1≤(wr .i64 (x.2.1.2.1+1))))
(some ((wr .u8 (x.2.1.1+1)),(0,(x.2.1.2.2||(!x.2.2.2.2.2)))))
(some (x.2.1.1,((wr .i64 (x.2.1.2.1+1)),(x.2.1.2.2||(!x.2.2.2.2.2)))))))))
def CJ (x:Ad×BR×DA):BR :=
(AD (Bx ((x.2.1.1,(x.2.1.2.1,(x.2.1.2.2||(!x.2.2.2.2.2)))),x.2.2)) (fun y =>
(cnd (decide (y≤x.2.1.1))
((y,(0,(x.2.1.2.2||(!x.2.2.2.2.2)))))
(cnd (decide (x.1.2.2.2.2.2.2.2.2.1≤(wr .i64 (x.2.1.2.1+1))))
(((wr .u8 (x.2.1.1+1)),(0,(x.2.1.2.2||(!x.2.2.2.2.2)))))
((x.2.1.1,((wr .i64 (x.2.1.2.1+1)),(x.2.1.2.2||(!x.2.2.2.2.2)))))))))
theorem iX (x:Ad×BR×DA):Nx x=some (CJ x):=by
 unfold Nx CJ
 simp only[AD,Eg]
def Fs (x:Ad×BR×DA):Option (BR×Int) :=
(Ae (GV (x.1,x.2.1)) none (fun x1 =>
(cnd (!(x1==0))
(some ((0,(0,false)),x1))
(AD (CJ x) (fun y =>
(some (y,0)))))))
def RL (x:Bj×Int):Option (Bool×Int) :=
(AD (EN x.1) (fun y =>
(cnd (!(y==0))
(some (false,y))
(cnd ((decide (x.2<0))||(decide (1048576<x.2)))
(some (false,2))
(some (((!x.1.1)&&(decide (x.2≤x.1.2.2.1))),0))))))
def JK (x:Bj×Int):Bool×Int :=
(AD (EN x.1) (fun y =>
(cnd (!(y==0))
((false,y))
(cnd ((decide (x.2<0))||(decide (1048576<x.2)))
((false,2))
((((!x.1.1)&&(decide (x.2≤x.1.2.2.1))),0))))))
theorem AaG (x:Bj×Int):RL x=some (JK x):=by
 unfold RL JK
 simp only[AD,Eg]
def ET (x:BX):Option (Int) :=
(iter none (fun x1 =>
(cnd (decide (x1.2<(Aa x.1.2.2.2.2.1)))
(Ae (idx x.1.2.2.2.2.1 x1.2) (.done none) (fun x2 =>
(iter (.done none) (fun x3 =>
(cnd (decide (x3.2<(Aa x.1.2.2.2.2.2.1)))
(Ae (idx x.1.2.2.2.2.2.1 x3.2) (.done (.done none)) (fun x4 =>
(Ae (idx x.2.1.2.2.2.2.2.2.2.2.2.2.1 x3.2) (.done (.done none)) (fun x5 =>
(AD (JK (x5,x2.2.2.2.1)) (fun y =>
(.next ((x3.1&&(y.1||(!(x4.1==x1.2)))),(wr .i64 (x3.2+1))))))))))
(.done (cnd x3.1
(cnd (decide (0≤x1.2))
(.next ((Aj Go.BinOp.or Go.IntKind.u32 x1.1 (Bd Go.IntKind.u32 1 x1.2)),(wr .i64 (x1.2+1))))
(.done none))
(.next (x1.1,(wr .i64 (x1.2+1)))))))) AE (true,(0:Int)))))
(.done (some x1.1)))) AE ((0:Int),(0:Int)))
def Il (x:Ad×Int):Option (Int) :=
(iter none (fun x1 =>
(cnd (decide (x1.2<(Aa x.1.2.2.2.2.1)))
(Ae (idx x.1.2.2.2.2.1 x1.2) (.done none) (fun x2 =>
(cnd x2.2.2.2.2
(cnd (decide (0≤x1.2))
(.next ((Aj Go.BinOp.or Go.IntKind.u32 x1.1 (Bd Go.IntKind.u32 1 x1.2)),(wr .i64 (x1.2+1))))
(.done none))
(cnd (decide (0≤x1.2))
(cnd ((Aj Go.BinOp.and Go.IntKind.u32 (Ay Go.IntKind.u32 x.2 x1.2) 1)==1)
(cnd (decide (0≤x1.2))
(.next ((Aj Go.BinOp.or Go.IntKind.u32 x1.1 (Bd Go.IntKind.u32 1 x1.2)),(wr .i64 (x1.2+1))))
(.done none))
(.next (x1.1,(wr .i64 (x1.2+1)))))
(.done none)))))
(.done (some x1.1)))) AE ((0:Int),(0:Int)))
def Bg (x:Int):Int:=if x=0 then 64 else (Lib.ctz 64 x.toNat:Int)
def Ik (x:Int×Int×Int):Option (Int) :=
(cnd (decide (0≤x.2.2))
(cnd (decide (0≤(wr .i64 (x.2.1+1))))
(AD (Bg (Ay Go.IntKind.u64 (Aj Go.BinOp.or Go.IntKind.u64 (wr .u64 x.1) (Bd Go.IntKind.u64 (wr .u64 x.1) x.2.2)) (wr .i64 (x.2.1+1)))) (fun y =>
(cnd (!(x.2.2==0))
(some (Gm (wr .i64 ((wr .i64 (x.2.1+1))+y)) x.2.2))
 none)))
 none)
 none)
def Jm (x:Ad×Int):Option (List Int) :=
(cnd ((decide (0≤(Aa x.1.2.1)))&&((decide ((Aa x.1.2.1)≤(Aa x.1.2.1)))&&(DP (Aa x.1.2.1) 1)))
(iter none (fun x1 =>
(cnd (decide (x1.1<(Aa (AQ (Aa x.1.2.1) (0:Int)))))
(Ae (idx x1.2 x1.1) (.done none) (fun _ =>
(Ae (idx x1.2 x1.1) (.done none) (fun _ =>
(Ae (F9 (x.1,(x.2,x1.1))) (.done none) (fun x4 =>
(cnd x4
(Ae (idx (Bc x1.2 x1.1 1) x1.1) (.done none) (fun _ =>
(Ae (idx (Bc x1.2 x1.1 1) x1.1) (.done none) (fun _ =>
(.next ((wr .i64 (x1.1+1)),(Bc (Bc x1.2 x1.1 1) x1.1 2)))))))
(.next ((wr .i64 (x1.1+1)),(Bc x1.2 x1.1 1))))))))))
(.done (some x1.2)))) AE ((0:Int),(AQ (Aa x.1.2.1) (0:Int))))
 none)
def DF (x:Ad×Int):Option (List Int×Int) :=
(Dh (fun x1 =>
(cnd (!(x1==0))
(some ([],x1))
(Ae (Jm x) none (fun x2 =>
(some (x2,0)))))) (fun k =>
(Ae (Aw x.1) none (fun x1 =>
(cnd (!(x1==0))
(k x1)
(cnd ((decide (x.2<0))||(decide ((Aa x.1.2.2.2.2.1)≤x.2)))
(k 2)
(k 0)))))))
def Ke (x:Ad×Ej×Aq×Int×Int):Option (Ej×List Int×Int) :=
(Ae (Aw x.1) none (fun x1 =>
(cnd (!(x1==0))
(some ((0,0),([],x1)))
(cnd (decide (x.2.1.1<0))
(some ((0,0),([],2)))
(cnd (decide ((Aa x.1.2.2.2.2.1)≤x.2.1.1))
(some ((0,0),([],2)))
(cnd (decide (x.2.1.2<0))
(some ((0,0),([],2)))
(cnd (decide (1048576<x.2.1.2))
(some ((0,0),([],2)))
(cnd (!((Aa x.2.2.1.1)==(Aa x.1.2.1)))
(some ((0,0),([],8)))
(Ae (Ck (x.1,(x.2.2.1,x.2.1.1))) none (fun x2 =>
(cnd (!x2.1)
(Ae (DF (x.1,x.2.1.1)) none (fun x3 =>
(some ((x.2.1.1,0),x3))))
(Ae (idx x.1.2.2.2.2.1 x.2.1.1) none (fun x3 =>
(Ae (Il (x.1,x.2.2.2.1)) none (fun x4 =>
(cnd (decide (0≤x.2.1.1))
(cnd (decide (0≤x.2.1.1))
(cnd (((decide (x3.2.1≤(Bi (wr .i64 (x.2.1.2+1)) 1048576)))&&(!((Aj Go.BinOp.andNot Go.IntKind.u32 x4 (Bd Go.IntKind.u32 1 x.2.1.1))==0)))&&(((Aj Go.BinOp.and Go.IntKind.u32 (Ay Go.IntKind.u32 x.2.2.2.2 x.2.1.1) 1)==1)||(decide (x3.2.2.1≤(Bi (wr .i64 (x.2.1.2+1)) 1048576)))))
(Ae (Ik ((Aj Go.BinOp.andNot Go.IntKind.u32 x4 (Bd Go.IntKind.u32 1 x.2.1.1)),(x.2.1.1,(Aa x.1.2.2.2.2.1)))) none (fun x5 =>
(Ae (DF (x.1,x5)) none (fun x6 =>
(some ((x5,0),x6))))))
(Ae (DF (x.1,x.2.1.1)) none (fun x5 =>
(some ((x.2.1.1,(Bi (wr .i64 (x.2.1.2+1)) 1048576)),x5)))))
 none)
 none))))))))))))))))
def CQ (l:List Int):Nat→Int
 |0=>0
 |k+1=>wr .i64 (CQ l k+(l[k]?).getD 0)
def Jt (l:List Int) (place:Int):Nat→Nat→Int×Int×Int
 |0,_=>(0,(0,170))
 |n+1,k=>if place<CQ l (k+1) then ((k:Int),(wr .i64 (wr .i64 (place-CQ l (k+1))+(l[k]?).getD 0),0)) else Jt l place n (k+1)
def Em (x:Ad×Az×Int):Option (Int×Int×Int) :=
 match CY (x.1,x.2.1) with
 |none=>none
 |some (is,e)=>if e≠0 then some (0,(0,e)) else if is=false then some (0,(0,170)) else if x.2.2<0∨1073741824<x.2.2 then some (0,(0,2)) else if x.2.1.1=0∨1000000<Aa x.2.1.2.2 then none else
  some (Jt x.2.1.2.2 (Gm (wr .i64 (wr .i64 (x.2.2+x.2.1.1)-x.2.1.2.1)) x.2.1.1) x.2.1.2.2.length 0)
def CF (x:Ad×Az×Int):Option (Int×Int) :=
(Ae (Em x) none (fun x1 =>
(cnd (!(x1.2.2==0))
(some (0,x1.2.2))
(Ae (idx x.2.1.2.2 x1.1) none (fun x2 =>
(Ae (Fh (x.1,x1.1)) none (fun x3 =>
(cnd (decide ((wr .i64 (x2-x3))≤x1.2.1))
(Ae (E2 (x.1,x1.1)) none (fun x4 =>
(some (x4,0))))
(some (x1.1,0))))))))))
def Fl (x:BX×Bt):Option (BX) :=
(cnd (x.1.2.1.2.2.1.1==0)
(Ae (C4 (x.1.1,(((x.1.2.1.1.1,()),x.1.2.1.2),x.1.2.2))) none (fun x1 =>
(some (x1.1.1,(((x1.1.2.1.1.1,()),x1.1.2.1.2),(x1.1.2.2.1,(x1.1.2.2.2.1,(x1.1.2.2.2.2.1,(x1.2,x1.1.2.2.2.2.2.2)))))))))
(cnd (x.1.2.1.2.2.1.1==1)
(Ae (ET (x.1.1,(((x.1.2.1.1.1,()),x.1.2.1.2),x.1.2.2))) none (fun x1 =>
(Ae (Ke (x.1.1,(x.1.2.1.2.2.2.1,(x.1.2.1.2.1,(x.1.2.1.2.2.2.2.2.2.2.2.2.2.2.1,x1))))) none (fun x2 =>
(some (x.1.1,(((x.1.2.1.1.1,()),(x.1.2.1.2.1,(x.1.2.1.2.2.1,(x2.1,x.1.2.1.2.2.2.2)))),(x.1.2.2.1,(x.1.2.2.2.1,(x.1.2.2.2.2.1,(x2.2.1,x.1.2.2.2.2.2.2)))))))))))
(cnd (x.1.2.1.2.2.1.1==2)
(Ae (idx x.2.2.2 0) none (fun x1 =>
(Ae (Fg (x.1.1,x1)) none (fun x2 =>
(Ae (CF (x.1.1,(x2.1,x.1.2.1.2.2.2.2.2.2.2.2.2.2.2.2.2.1))) none (fun x3 =>
(Ae (DF (x.1.1,x3.1)) none (fun x4 =>
(some (x.1.1,(((x.1.2.1.1.1,()),(x.1.2.1.2.1,(x.1.2.1.2.2.1,((x3.1,0),x.1.2.1.2.2.2.2)))),(x.1.2.2.1,(x.1.2.2.2.1,(x.1.2.2.2.2.1,(x4.1,x.1.2.2.2.2.2.2)))))))))))))))
(Ae (CF (x.1.1,(x.1.2.1.2.2.2.2.2.2.1,x.1.2.1.2.2.2.2.2.2.2.2.2.2.2.2.2.1))) none (fun x1 =>
(Ae (DF (x.1.1,x1.1)) none (fun x2 =>
(some (x.1.1,(((x.1.2.1.1.1,()),(x.1.2.1.2.1,(x.1.2.1.2.2.1,((x1.1,0),x.1.2.1.2.2.2.2)))),(x.1.2.2.1,(x.1.2.2.2.1,(x.1.2.2.2.2.1,(x2.1,x.1.2.2.2.2.2.2))))))))))))))
def Je (x:Ad×Aq):Option (Bool) :=
(cnd (!((Aa x.2.1)==(Aa x.1.2.1)))
(some false)
(cnd ((decide (0≤(Aa x.2.1)))&&((decide ((Aa x.2.1)≤(Aa x.2.1)))&&(DP (Aa x.2.1) 1)))
(Dh (fun x1 =>
(Ae (Ez (x.1,(x.2,x1))) none (fun x2 =>
(cnd (!(x2.2.2==0))
(some false)
(iter none (fun x3 =>
(cnd (decide (x3<(Aa x.2.1)))
(Ae (idx x.2.1 x3) (.done none) (fun x4 =>
(cnd x.2.2.2
(cnd (!(x4.1==4))
(.done (some (!(decide (0≤x3)))))
(.next (wr .i64 (x3+1))))
(cnd (((decide (x4.1<1))||(decide (3<x4.1)))||((decide (0<x.2.2.1))&&(!(x4.1==1))))
(.done (some (!(decide (0≤x3)))))
(.next (wr .i64 (x3+1)))))))
(.done (some true)))) AE (0:Int)))))) (fun k =>
(iter none (fun x1 =>
(cnd (decide (x1.1<(Aa (AQ (Aa x.2.1) (0:Int)))))
(Ae (idx x1.2 x1.1) (.done none) (fun _ =>
(Ae (idx x1.2 x1.1) (.done none) (fun _ =>
(.next ((wr .i64 (x1.1+1)),(Bc x1.2 x1.1 4)))))))
(.done (k x1.2)))) AE ((0:Int),(AQ (Aa x.2.1) (0:Int))))))
 none))
def F0 (x:Ad×Aq):Option (Int) :=
(Ae (Aw x.1) none (fun x1 =>
(cnd (!(x1==0))
(some x1)
(Ae (Je x) none (fun x2 =>
(cnd (!x2)
(some 8)
(some 0)))))))
def FN (x:Int×Int):Option (List Int) :=
(cnd ((decide (0≤x.1))&&((decide (x.1≤x.1))&&(DP x.1 1)))
(iter none (fun x1 =>
(cnd (decide (x1.1<(Aa (AQ x.1 (0:Int)))))
(Ae (idx x1.2 x1.1) (.done none) (fun _ =>
(Ae (idx x1.2 x1.1) (.done none) (fun _ =>
(.next ((wr .i64 (x1.1+1)),(Bc x1.2 x1.1 x.2)))))))
(.done (some x1.2)))) AE ((0:Int),(AQ x.1 (0:Int))))
 none)
def P4 (x:CC×A5×Int):Option (Int) :=
(AD (AP x.2.1.2.1) (fun y =>
(cnd (x.2.1.1==1)
(cnd (x.2.2==2)
(some 2)
(some 1))
(cnd (x.2.1.1==2)
(cnd ((x.2.2==2)||(decide (y<x.1.2.1)))
(some 2)
(some 3))
(cnd (x.2.1.1==3)
(cnd (decide (y<x.1.2.2))
(some 3)
(some 1))
(some 1))))))
def DW (x:CC×A5×Int):Int :=
(AD (AP x.2.1.2.1) (fun y =>
(cnd (x.2.1.1==1)
(cnd (x.2.2==2)
(2)
(1))
(cnd (x.2.1.1==2)
(cnd ((x.2.2==2)||(decide (y<x.1.2.1)))
(2)
(3))
(cnd (x.2.1.1==3)
(cnd (decide (y<x.1.2.2))
(3)
(1))
(1))))))
theorem uX (x:CC×A5×Int):P4 x=some (DW x):=by
 unfold P4 DW
 simp only[AD,Eg]
def FZ (x:Ad×Aq×List Int):Option (List Int) :=
(Dh (fun x1 =>
(cnd x1
(Ae (Fp x.2.2) none (fun x2 =>
(some x2)))
(cnd x.2.1.2.2
(Ae (FN ((Aa x.2.2),1)) none (fun x2 =>
(some x2)))
(cnd (decide (0<x.2.1.2.1))
(Ae (FN ((Aa x.2.2),1)) none (fun x2 =>
(some x2)))
(Ae (FN ((Aa x.2.2),1)) none (fun x2 =>
(iter none (fun x3 =>
(cnd (decide (x3.1<(Aa x.2.1.1)))
(Ae (idx x.2.1.1 x3.1) (.done none) (fun x4 =>
(cnd (!(x4.1==1))
(Ae (idx x.1.2.1 x3.1) (.done none) (fun x5 =>
(Ae (idx x.2.2 x3.1) (.done none) (fun x6 =>
(AD (DW (x5,(x4,x6))) (fun y =>
(Ae (idx x3.2 x3.1) (.done none) (fun _ =>
(Ae (idx x3.2 x3.1) (.done none) (fun _ =>
(.next ((wr .i64 (x3.1+1)),(Bc x3.2 x3.1 y)))))))))))))
(.next ((wr .i64 (x3.1+1)),x3.2)))))
(.done (iter none (fun x4 =>
(cnd (decide (x4.1<(Aa x.2.1.1)))
(Ae (idx x.2.1.1 x4.1) (.done none) (fun x5 =>
(cnd (x5.1==1)
(Ae (idx x.2.2 x4.1) (.done none) (fun x6 =>
(cnd (x6==2)
(iter (.done none) (fun x7 =>
(cnd (decide (x7.1<(Aa x.2.1.1)))
(Ae (idx x.2.1.1 x7.1) (.done (.done none)) (fun x8 =>
(Ae (idx x.1.2.2.1 x4.1) (.done (.done none)) (fun x9 =>
(cnd (decide (0≤x7.1))
(cnd ((Aj Go.BinOp.and Go.IntKind.u32 (Ay Go.IntKind.u32 x9 x7.1) 1)==1)
(Ae (idx x7.2 x7.1) (.done (.done none)) (fun _ =>
(Ae (idx x7.2 x7.1) (.done (.done none)) (fun x11 =>
(cnd (!(x11==1))
(.done (.next ((wr .i64 (x4.1+1)),x7.2)))
(Ae (idx x.1.2.2.2.1 x7.1) (.done (.done none)) (fun x12 =>
(Ae (idx x12 x4.1) (.done (.done none)) (fun x13 =>
(cnd (decide (x8.2.2<x13))
(.done (.next ((wr .i64 (x4.1+1)),x7.2)))
(.next ((wr .i64 (x7.1+1)),x7.2))))))))))))
(.next ((wr .i64 (x7.1+1)),x7.2)))
(.done (.done none)))))))
(.done (Ae (idx x7.2 x4.1) (.done none) (fun _ =>
(Ae (idx x7.2 x4.1) (.done none) (fun _ =>
(.next ((wr .i64 (x4.1+1)),(Bc x7.2 x4.1 2)))))))))) AE ((0:Int),x4.2))
(.next ((wr .i64 (x4.1+1)),x4.2)))))
(.next ((wr .i64 (x4.1+1)),x4.2)))))
(.done (some x4.2)))) AE ((0:Int),x3.2))))) AE ((0:Int),x2)))))))) (fun k =>
(iter none (fun x1 =>
(cnd (decide (x1<(Aa x.2.2)))
(Ae (idx x.2.2 x1) (.done none) (fun x2 =>
(cnd (!(x2==4))
(.done (k (!(decide (0≤x1)))))
(.next (wr .i64 (x1+1))))))
(.done (k true)))) AE (0:Int))))
def G6 (x:Ad×Aq×List Int):Option (List Int×Int) :=
(Ae (F0 (x.1,x.2.1)) none (fun x1 =>
(cnd (!(x1==0))
(some ([],x1))
(cnd (!((Aa x.2.2)==(Aa x.1.2.1)))
(some ([],90))
(Ae (FZ x) none (fun x2 =>
(some (x2,0))))))))
def E1 (x:List Int):Option (List Int) :=
(cnd (true&&(AS (0+(Aa x)) 8))
(some ([]++x))
 none)
def P9 (x:Int):Option (Int×Int) :=
(cnd (x==4294967295)
(some (0,2))
(some ((wr .u32 (x+1)),0)))
def IE (x:Int):Int×Int :=
(cnd (x==4294967295)
((0,2))
(((wr .u32 (x+1)),0)))
theorem vJ (x:Int):P9 x=some (IE x):=by
 unfold P9 IE
 simp only[Eg]
def Yh (x:Int):Option (Int) :=
(some (wr .i64 ((Bi (Cw x (-1073741824)) 1073741824)*65536)))
def I2 (x:Int):Int :=
((wr .i64 ((Bi (Cw x (-1073741824)) 1073741824)*65536)))
theorem Aer (x:Int):Yh x=some (I2 x):=by
 unfold Yh I2
 rfl
def RG (x:Int):Option (Int) :=
(some (Bi (Cw x (-70368744177664)) 70368744177664))
def HL (x:Int):Int :=
((Bi (Cw x (-70368744177664)) 70368744177664))
theorem Aaw (x:Int):RG x=some (HL x):=by
 unfold RG HL
 rfl
def JH (x:Int×Int):Option (Int×Int) :=
(AD (HL x.1) (fun y =>
(AD (HL x.2) (fun y1 =>
(cnd (y1==0)
(some (0,10))
(cnd (!(y1==0))
(cnd (!(y1==0))
(cnd ((!((Gm (wr .i64 (y*65536)) y1)==0))&&(!((decide ((wr .i64 (y*65536))<0))==(decide (y1<0)))))
(AD (HL (wr .i64 ((Fi Go.IntKind.i64 (wr .i64 (y*65536)) y1)-1))) (fun y2 =>
(some (y2,0))))
(AD (HL (Fi Go.IntKind.i64 (wr .i64 (y*65536)) y1)) (fun y2 =>
(some (y2,0)))))
 none)
 none))))))
def Gn (x:Jw):Option (List Int×Int) :=
(AD (Gz x.1) (fun y =>
(cnd (!y)
(some ([],2))
(cnd (decide (3<x.2.1))
(some ([],2))
(cnd (decide (x.2.2.1<0))
(some ([],2))
(cnd (decide (1073741824<x.2.2.1))
(some ([],2))
(cnd (decide (8<(Aa x.2.2.2)))
(some ([],4))
(Ae (FQ ([],(x.1::((wr .i64 x.2.1)::(x.2.2.1::((Aa x.2.2.2)::[])))))) none (fun x1 =>
(iter none (fun x2 =>
(cnd (decide (x2.1<(Aa x.2.2.2)))
(Ae (idx x.2.2.2 x2.1) (.done none) (fun x3 =>
(cnd ((decide (x3<0))||(decide (70368744177664<x3)))
(.done (some ([],2)))
(Ae (FQ (x2.2,(x3::[]))) (.done none) (fun x4 =>
(.next ((wr .i64 (x2.1+1)),x4)))))))
(.done (some (x2.2,0))))) AE ((0:Int),x1)))))))))))
def GR (x:BJ):Option (List Int×Int) :=
(cnd (decide (512<(Aa x.2.2)))
(some ([],3))
(Ae (F5 ((wr .u64 x.2.1),4)) none (fun x1 =>
(cnd (true&&(AS ((Aa (x.1::[]))+(Aa x1.1)) 1))
(cnd (true&&(AS ((Aa ((x.1::[])++x1.1))+(Aa x.2.2)) 1))
(Ae (GL (((x.1::[])++x1.1)++x.2.2)) none (fun x2 =>
(Ae (F5 ((wr .u64 x2),4)) none (fun x3 =>
(cnd (true&&(AS ((Aa (((x.1::[])++x1.1)++x.2.2))+(Aa x3.1)) 1))
(some (((((x.1::[])++x1.1)++x.2.2)++x3.1),0))
 none)))))
 none)
 none))))
def Hk (x:List Int):Option (List Int) :=
(cnd ((decide (0≤(Aa x)))&&(DP (Aa x) 1))
(iter none (fun x1 =>
(cnd (decide (x1.2<(Aa x)))
(Ae (idx x x1.2) (.done none) (fun x2 =>
(cnd ((x2==125)||(x2==126))
(cnd (true&&(AS ((Aa x1.1)+(Aa ((125:Int)::[]))) 1))
(cnd (true&&(AS ((Aa (x1.1++(125::[])))+(Aa ((wr .u8 (x2-32))::[]))) 1))
(.next (((x1.1++(125::[]))++((wr .u8 (x2-32))::[])),(wr .i64 (x1.2+1))))
(.done none))
(.done none))
(cnd (true&&(AS ((Aa x1.1)+(Aa (x2::[]))) 1))
(.next ((x1.1++(x2::[])),(wr .i64 (x1.2+1))))
(.done none)))))
(.done (some x1.1)))) AE ((AQ 0 (0:Int)),(0:Int)))
 none)
def Gj (x:BJ):Option (List Int×Int) :=
(Ae (GR x) none (fun x1 =>
(cnd (!(x1.2==0))
(some ([],x1.2))
(Ae (Hk x1.1) none (fun x2 =>
(cnd (true&&(AS ((Aa ((126:Int)::[]))+(Aa x2)) 1))
(cnd (true&&(AS ((Aa ((126::[])++x2))+(Aa ((126:Int)::[]))) 1))
(some ((((126::[])++x2)++(126::[])),0))
 none)
 none))))))
def DG (x:BX):Option (BX) :=
(Dh (fun x1 =>
(cnd x1.2.2.1.2.2.2.1
(Ae (EV (x1.1,(((x1.2.1.1.1,()),x1.2.1.2),x1.2.2))) none (fun x2 =>
(some (x2.1,(((x2.2.1.1.1,()),x2.2.1.2),x2.2.2)))))
(Ae (Hx ((x1.2.1.1.1,()),(x1.2.2.2.1,((Aa x1.2.2.2.1),0)))) none (fun x2 =>
(Ae (Fm (x1.1,(((x2.1.1,()),x1.2.1.2),x1.2.2))) none (fun x3 =>
(Ae (Eu (x3.1,(((x3.2.1.1.1,()),x3.2.1.2),x3.2.2))) none (fun x4 =>
(Ae (Fs (x4.1.1,(x4.1.2.1.2.2.1,x4.2.1))) none (fun x5 =>
(Ae (Fl ((x4.1.1,(((x4.1.2.1.1.1,()),(x4.1.2.1.2.1,(x5.1,x4.1.2.1.2.2.2))),x4.1.2.2)),x4.2.2)) none (fun x6 =>
(Ae (G6 (x6.1,(x6.2.1.2.1,x6.2.2.2.2.2.1))) none (fun x7 =>
(Ae (Ez (x6.1,(x6.2.1.2.1,x7.1))) none (fun x8 =>
(Ae (E1 x6.2.1.2.2.2.2.2.2.2.2.2.2.2.2.2.2.1) none (fun x9 =>
(Ae (E1 x6.2.1.2.2.2.2.2.2.2.2.2.2.2.2.2.2.2.1) none (fun x10 =>
(Ae (E1 x6.2.1.2.2.2.2.2.2.2.2.2.2.2.2.2.2.2.2.1) none (fun x11 =>
(iter none (fun x12 =>
(cnd (decide (x12.1<(Aa x6.1.2.2.2.2.1)))
(Ae (Ck (x12.2.1,(x12.2.2.1.2.1,x12.1))) (.done none) (fun x13 =>
(cnd (!x13.1)
(.next ((wr .i64 (x12.1+1)),(x12.2.1,(((x12.2.2.1.1.1,()),x12.2.2.1.2),x12.2.2.2))))
(iter (.done none) (fun x14 =>
(cnd (decide (x14.1<(Aa x12.2.1.2.2.2.2.2.1)))
(Ae (idx x12.2.1.2.2.2.2.2.1 x14.1) (.done (.done none)) (fun x15 =>
(cnd (x15.1==x12.1)
(Ae (idx x14.2.2.2.1.2.2.2.2.2.2.2.2.1 x14.1) (.done (.done none)) (fun x16 =>
(cnd x16.1
(Ae (idx x14.2.2.2.2.2.2.1 x14.1) (.done (.done none)) (fun x17 =>
(cnd (!x17.1)
(Ae (idx x14.2.2.2.1.2.2.2.2.2.2.2.2.2.2.2.2.2.2.2.2.1 x12.1) (.done (.done none)) (fun _ =>
(Ae (idx x14.2.2.2.1.2.2.2.2.2.2.2.2.2.2.2.2.2.2.2.2.1 x12.1) (.done (.done none)) (fun x19 =>
(AD (B3 (x19,1048576)) (fun y =>
(Ae (idx x14.2.2.2.1.2.2.2.2.2.2.2.2.2.2.2.2.2.2.2.2.1 x12.1) (.done (.done none)) (fun _ =>
(Ae (idx x14.2.2.2.1.2.2.2.2.2.2.2.2.2.2.2.2.2.2.2.2.1 x12.1) (.done (.done none)) (fun _ =>
(.next ((wr .i64 (x14.1+1)),(true,(x14.2.2.1,(((x14.2.2.2.1.1.1,()),(x14.2.2.2.1.2.1,(x14.2.2.2.1.2.2.1,(x14.2.2.2.1.2.2.2.1,(x14.2.2.2.1.2.2.2.2.1,(x14.2.2.2.1.2.2.2.2.2.1,(x14.2.2.2.1.2.2.2.2.2.2.1,(x14.2.2.2.1.2.2.2.2.2.2.2.1,(x14.2.2.2.1.2.2.2.2.2.2.2.2.1,(x14.2.2.2.1.2.2.2.2.2.2.2.2.2.1,(x14.2.2.2.1.2.2.2.2.2.2.2.2.2.2.1,(x14.2.2.2.1.2.2.2.2.2.2.2.2.2.2.2.1,(x14.2.2.2.1.2.2.2.2.2.2.2.2.2.2.2.2.1,(x14.2.2.2.1.2.2.2.2.2.2.2.2.2.2.2.2.2.1,(x14.2.2.2.1.2.2.2.2.2.2.2.2.2.2.2.2.2.2.1,(x14.2.2.2.1.2.2.2.2.2.2.2.2.2.2.2.2.2.2.2.1,((Bc x14.2.2.2.1.2.2.2.2.2.2.2.2.2.2.2.2.2.2.2.2.1 x12.1 y),x14.2.2.2.1.2.2.2.2.2.2.2.2.2.2.2.2.2.2.2.2.2))))))))))))))))),x14.2.2.2.2)))))))))))))))
(.next ((wr .i64 (x14.1+1)),(true,(x14.2.2.1,(((x14.2.2.2.1.1.1,()),x14.2.2.2.1.2),x14.2.2.2.2))))))))
(.next ((wr .i64 (x14.1+1)),(x14.2.1,(x14.2.2.1,(((x14.2.2.2.1.1.1,()),x14.2.2.2.1.2),x14.2.2.2.2))))))))
(.next ((wr .i64 (x14.1+1)),(x14.2.1,(x14.2.2.1,(((x14.2.2.2.1.1.1,()),x14.2.2.2.1.2),x14.2.2.2.2))))))))
(.done (Dh (fun x15 =>
(Ae (idx x15.2.1.2.2.2.2.2.2.2.2.2.2.2.2.2.2.1 x12.1) (.done none) (fun _ =>
(Ae (idx x15.2.1.2.2.2.2.2.2.2.2.2.2.2.2.2.2.1 x12.1) (.done none) (fun x17 =>
(AD (B3 (x17,1048576)) (fun y =>
(Ae (idx x15.2.1.2.2.2.2.2.2.2.2.2.2.2.2.2.2.1 x12.1) (.done none) (fun _ =>
(Ae (idx x15.2.1.2.2.2.2.2.2.2.2.2.2.2.2.2.2.1 x12.1) (.done none) (fun _ =>
(.next ((wr .i64 (x12.1+1)),(x15.1,(((x15.2.1.1.1,()),(x15.2.1.2.1,(x15.2.1.2.2.1,(x15.2.1.2.2.2.1,(x15.2.1.2.2.2.2.1,(x15.2.1.2.2.2.2.2.1,(x15.2.1.2.2.2.2.2.2.1,(x15.2.1.2.2.2.2.2.2.2.1,(x15.2.1.2.2.2.2.2.2.2.2.1,(x15.2.1.2.2.2.2.2.2.2.2.2.1,(x15.2.1.2.2.2.2.2.2.2.2.2.2.1,(x15.2.1.2.2.2.2.2.2.2.2.2.2.2.1,(x15.2.1.2.2.2.2.2.2.2.2.2.2.2.2.1,(x15.2.1.2.2.2.2.2.2.2.2.2.2.2.2.2.1,((Bc x15.2.1.2.2.2.2.2.2.2.2.2.2.2.2.2.2.1 x12.1 y),x15.2.1.2.2.2.2.2.2.2.2.2.2.2.2.2.2.2))))))))))))))),x15.2.2))))))))))))))) (fun k =>
(cnd x14.2.1
(Ae (idx x14.2.2.2.1.2.2.2.2.2.2.2.2.2.2.2.2.2.2.2.1 x12.1) (.done none) (fun _ =>
(Ae (idx x14.2.2.2.1.2.2.2.2.2.2.2.2.2.2.2.2.2.2.2.1 x12.1) (.done none) (fun x16 =>
(AD (B3 (x16,1048576)) (fun y =>
(Ae (idx x14.2.2.2.1.2.2.2.2.2.2.2.2.2.2.2.2.2.2.2.1 x12.1) (.done none) (fun _ =>
(Ae (idx x14.2.2.2.1.2.2.2.2.2.2.2.2.2.2.2.2.2.2.2.1 x12.1) (.done none) (fun _ =>
(k (x14.2.2.1,(((x14.2.2.2.1.1.1,()),(x14.2.2.2.1.2.1,(x14.2.2.2.1.2.2.1,(x14.2.2.2.1.2.2.2.1,(x14.2.2.2.1.2.2.2.2.1,(x14.2.2.2.1.2.2.2.2.2.1,(x14.2.2.2.1.2.2.2.2.2.2.1,(x14.2.2.2.1.2.2.2.2.2.2.2.1,(x14.2.2.2.1.2.2.2.2.2.2.2.2.1,(x14.2.2.2.1.2.2.2.2.2.2.2.2.2.1,(x14.2.2.2.1.2.2.2.2.2.2.2.2.2.2.1,(x14.2.2.2.1.2.2.2.2.2.2.2.2.2.2.2.1,(x14.2.2.2.1.2.2.2.2.2.2.2.2.2.2.2.2.1,(x14.2.2.2.1.2.2.2.2.2.2.2.2.2.2.2.2.2.1,(x14.2.2.2.1.2.2.2.2.2.2.2.2.2.2.2.2.2.2.1,((Bc x14.2.2.2.1.2.2.2.2.2.2.2.2.2.2.2.2.2.2.2.1 x12.1 y),x14.2.2.2.1.2.2.2.2.2.2.2.2.2.2.2.2.2.2.2.2)))))))))))))))),x14.2.2.2.2)))))))))))))
(k (x14.2.2.1,(((x14.2.2.2.1.1.1,()),x14.2.2.2.1.2),x14.2.2.2.2))))))))) AE ((0:Int),(false,(x12.2.1,(((x12.2.2.1.1.1,()),x12.2.2.1.2),x12.2.2.2))))))))
(.done (AD (IE x12.2.2.1.2.2.2.2.2.2.2.2.2.2.2.2.2.2.2.2.2) (fun y =>
(cnd (!(x12.2.1.2.2.2.2.2.2.2.2.2.1==0))
(cnd ((!((Gm (wr .i64 (x12.2.2.1.2.2.2.2.2.2.2.2.2.2.2.2.2.1+1)) x12.2.1.2.2.2.2.2.2.2.2.2.1)==0))||(!(y.2==0)))
(AD (B3 (x12.2.2.1.2.2.2.2.2.2.2.2.2.2.2.2.2.1,1073741824)) (fun y1 =>
(some (x12.2.1,(((x12.2.2.1.1.1,()),(x12.2.2.1.2.1,(x12.2.2.1.2.2.1,(x12.2.2.1.2.2.2.1,(x12.2.2.1.2.2.2.2.1,(x12.2.2.1.2.2.2.2.2.1,(x12.2.2.1.2.2.2.2.2.2.1,(x12.2.2.1.2.2.2.2.2.2.2.1,(x12.2.2.1.2.2.2.2.2.2.2.2.1,(x12.2.2.1.2.2.2.2.2.2.2.2.2.1,(x12.2.2.1.2.2.2.2.2.2.2.2.2.2.1,(x12.2.2.1.2.2.2.2.2.2.2.2.2.2.2.1,(x12.2.2.1.2.2.2.2.2.2.2.2.2.2.2.2.1,(y1,x12.2.2.1.2.2.2.2.2.2.2.2.2.2.2.2.2.2)))))))))))))),x12.2.2.2)))))
(iter none (fun x13 =>
(cnd (decide (x13.1<(Aa x12.2.1.2.2.2.2.1)))
(Ae (idx x13.2.2.2.1.2.2.2.2.2.2.2.2.2.2.2.2.2.2.1 x13.1) (.done none) (fun _ =>
(Ae (idx x13.2.2.2.1.2.2.2.2.2.2.2.2.2.2.2.2.2.2.1 x13.1) (.done none) (fun x15 =>
(Ae (idx x13.2.2.2.1.2.2.2.2.2.2.2.2.2.2.2.2.2.2.2.1 x13.1) (.done none) (fun _ =>
(Ae (idx x13.2.2.2.1.2.2.2.2.2.2.2.2.2.2.2.2.2.2.2.1 x13.1) (.done none) (fun x17 =>
(Ae (idx x13.2.2.2.1.2.2.2.2.2.2.2.2.2.2.2.2.2.2.2.2.1 x13.1) (.done none) (fun _ =>
(Ae (idx x13.2.2.2.1.2.2.2.2.2.2.2.2.2.2.2.2.2.2.2.2.1 x13.1) (.done none) (fun x19 =>
(AD (I2 (Bi x15 (wr .i64 (x17+x19)))) (fun y1 =>
(Ae (idx x13.2.2.2.1.2.2.2.2.2.2.2.2.2.2.2.2.2.2.1 x13.1) (.done none) (fun _ =>
(Ae (idx x13.2.2.2.1.2.2.2.2.2.2.2.2.2.2.2.2.2.2.1 x13.1) (.done none) (fun x21 =>
(AD (I2 (Cw 1 x21)) (fun y2 =>
(Ae (JH (y1,y2)) (.done none) (fun x22 =>
(cnd (true&&(AS ((Aa x13.2.1.2.2.2)+(Aa (x22.1::[]))) 8))
(Ae (idx x13.2.2.2.1.2.2.2.2.2.2.2.2.2.2.2.2.2.2.1 x13.1) (.done none) (fun _ =>
(Ae (idx x13.2.2.2.1.2.2.2.2.2.2.2.2.2.2.2.2.2.2.1 x13.1) (.done none) (fun _ =>
(Ae (idx x13.2.2.2.1.2.2.2.2.2.2.2.2.2.2.2.2.2.2.2.1 x13.1) (.done none) (fun _ =>
(Ae (idx x13.2.2.2.1.2.2.2.2.2.2.2.2.2.2.2.2.2.2.2.1 x13.1) (.done none) (fun _ =>
(Ae (idx x13.2.2.2.1.2.2.2.2.2.2.2.2.2.2.2.2.2.2.2.2.1 x13.1) (.done none) (fun _ =>
(Ae (idx x13.2.2.2.1.2.2.2.2.2.2.2.2.2.2.2.2.2.2.2.2.1 x13.1) (.done none) (fun _ =>
(.next ((wr .i64 (x13.1+1)),((x13.2.1.1,(x13.2.1.2.1,(x13.2.1.2.2.1,(x13.2.1.2.2.2++(x22.1::[]))))),(x13.2.2.1,(((x13.2.2.2.1.1.1,()),(x13.2.2.2.1.2.1,(x13.2.2.2.1.2.2.1,(x13.2.2.2.1.2.2.2.1,(x13.2.2.2.1.2.2.2.2.1,(x13.2.2.2.1.2.2.2.2.2.1,(x13.2.2.2.1.2.2.2.2.2.2.1,(x13.2.2.2.1.2.2.2.2.2.2.2.1,(x13.2.2.2.1.2.2.2.2.2.2.2.2.1,(x13.2.2.2.1.2.2.2.2.2.2.2.2.2.1,(x13.2.2.2.1.2.2.2.2.2.2.2.2.2.2.1,(x13.2.2.2.1.2.2.2.2.2.2.2.2.2.2.2.1,(x13.2.2.2.1.2.2.2.2.2.2.2.2.2.2.2.2.1,(x13.2.2.2.1.2.2.2.2.2.2.2.2.2.2.2.2.2.1,((Bc x13.2.2.2.1.2.2.2.2.2.2.2.2.2.2.2.2.2.2.1 x13.1 0),((Bc x13.2.2.2.1.2.2.2.2.2.2.2.2.2.2.2.2.2.2.2.1 x13.1 0),((Bc x13.2.2.2.1.2.2.2.2.2.2.2.2.2.2.2.2.2.2.2.2.1 x13.1 0),x13.2.2.2.1.2.2.2.2.2.2.2.2.2.2.2.2.2.2.2.2.2))))))))))))))))),x13.2.2.2.2)))))))))))))))))
(.done none))))))))))))))))))))))))
(.done (Ae (Gn x13.2.1) none (fun x14 =>
(Ae (Gj (3,(y.1,x14.1))) none (fun x15 =>
(AD (B3 (x13.2.2.2.1.2.2.2.2.2.2.2.2.2.2.2.2.2.1,1073741824)) (fun y1 =>
(some (x13.2.2.1,(((x13.2.2.2.1.1.1,()),(x13.2.2.2.1.2.1,(x13.2.2.2.1.2.2.1,(x13.2.2.2.1.2.2.2.1,(x13.2.2.2.1.2.2.2.2.1,(x13.2.2.2.1.2.2.2.2.2.1,(x13.2.2.2.1.2.2.2.2.2.2.1,(x13.2.2.2.1.2.2.2.2.2.2.2.1,(x13.2.2.2.1.2.2.2.2.2.2.2.2.1,(x13.2.2.2.1.2.2.2.2.2.2.2.2.2.1,(x13.2.2.2.1.2.2.2.2.2.2.2.2.2.2.1,(x13.2.2.2.1.2.2.2.2.2.2.2.2.2.2.2.1,(x13.2.2.2.1.2.2.2.2.2.2.2.2.2.2.2.2.1,(y1,(x13.2.2.2.1.2.2.2.2.2.2.2.2.2.2.2.2.2.2.1,(x13.2.2.2.1.2.2.2.2.2.2.2.2.2.2.2.2.2.2.2.1,(x13.2.2.2.1.2.2.2.2.2.2.2.2.2.2.2.2.2.2.2.2.1,y.1))))))))))))))))),(x13.2.2.2.2.1,(x13.2.2.2.2.2.1,(x13.2.2.2.2.2.2.1,(x13.2.2.2.2.2.2.2.1,(x13.2.2.2.2.2.2.2.2.1,x15.1))))))))))))))))) AE ((0:Int),((x12.2.1.1,(x12.2.2.1.2.2.1.1,(x12.2.2.1.2.2.2.2.2.2.2.2.2.2.2.2.2.1,[]))),(x12.2.1,(((x12.2.2.1.1.1,()),x12.2.2.1.2),x12.2.2.2))))))
 none)))))) AE ((0:Int),(x6.1,(((x6.2.1.1.1,()),(x8.1,(x6.2.1.2.2.1,(x6.2.1.2.2.2.1,(x6.2.1.2.2.2.2.1,(x6.2.1.2.2.2.2.2.1,(x6.2.1.2.2.2.2.2.2.1,(x6.2.1.2.2.2.2.2.2.2.1,(x6.2.1.2.2.2.2.2.2.2.2.1,(x6.2.1.2.2.2.2.2.2.2.2.2.1,(x6.2.1.2.2.2.2.2.2.2.2.2.2.1,(x6.2.1.2.2.2.2.2.2.2.2.2.2.2.1,(x6.2.1.2.2.2.2.2.2.2.2.2.2.2.2.1,(x6.2.1.2.2.2.2.2.2.2.2.2.2.2.2.2.1,(x9,(x10,(x11,x6.2.1.2.2.2.2.2.2.2.2.2.2.2.2.2.2.2.2.2))))))))))))))))),(x6.2.2.1,(x6.2.2.2.1,(x6.2.2.2.2.1,(x6.2.2.2.2.2.1,(x7.1,x6.2.2.2.2.2.2.2))))))))))))))))))))))))))))))) (fun k =>
(Ae (EU (x.1,(((x.2.1.1.1,()),x.2.1.2),x.2.2))) none (fun x1 =>
(cnd x1.2
(Ae (DJ (x1.1.1,(((x1.1.2.1.1.1,()),x1.1.2.1.2),x1.1.2.2))) none (fun x2 =>
(k (x2.1,(((x2.2.1.1.1,()),x2.2.1.2),x2.2.2)))))
(k (x1.1.1,(((x1.1.2.1.1.1,()),x1.1.2.1.2),x1.1.2.2))))))))
def MR (x:Ad×Bb×List Cd):Option (List (List Int)×List Int×Int) :=
(Ae (BQ (x.1,(x.2.1.1,()))) none (fun x1 =>
(cnd (!(x1.2==0))
(some ([],([],x1.2)))
(cnd (decide (4096<(Aa x.2.2)))
(some ([],([],4)))
(iter none (fun x2 =>
(cnd (decide (x2.2.2.1<(Aa x.2.2)))
(Ae (idx x.2.2 x2.2.2.1) (.done none) (fun x3 =>
(Ae (DG (x.1,(((x2.2.2.2.1.1,()),x2.2.2.2.2),(x3,([],([],([],([],[])))))))) (.done none) (fun x4 =>
(cnd (true&&(AS ((Aa x2.1)+(Aa (x4.2.2.2.2.2.2.1::[]))) 24))
(cnd (true&&(AS ((Aa x2.2.1)+(Aa (x4.2.1.2.2.1.1::[]))) 1))
(.next ((x2.1++(x4.2.2.2.2.2.2.1::[])),((x2.2.1++(x4.2.1.2.2.1.1::[])),((wr .i64 (x2.2.2.1+1)),((x4.2.1.1.1,()),x4.2.1.2)))))
(.done none))
(.done none))))))
(.done (some (x2.1,(x2.2.1,0)))))) AE ([],([],((0:Int),((x1.1.1.1,()),x1.1.2)))))))))
def FU (_:Unit):Option (Bool) :=
(AD (Rg ()) (fun y =>
(Ae (GC ()) none (fun x1 =>
(cnd (DP 4 88)
(Ae (MR (y,((x1.1,()),(AQ 4 ([],(0,([],(false,(0,(0,false)))))))))) none (fun x2 =>
(cnd (((!(x2.2.2==0))||(!((Aa x2.1)==4)))||(!((Aa x2.2.1)==4)))
(some false)
(iter none (fun x3 =>
(cnd (decide (x3<4))
(Ae (idx x2.1 x3) (.done none) (fun x4 =>
(cnd (!((Aa x4)==2))
(.done (some false))
(Ae (idx x2.1 x3) (.done none) (fun x5 =>
(Ae (idx x5 1) (.done none) (fun x6 =>
(cnd (!(x6==1))
(.done (some false))
(Ae (idx x2.1 x3) (.done none) (fun x7 =>
(Ae (idx x7 0) (.done none) (fun x8 =>
(cnd (!((x8==2)==(decide (1<x3))))
(.done (some false))
(.next (wr .i64 (x3+1))))))))))))))))
(.done (Ae (idx x2.2.1 3) none (fun x4 =>
(some (x4==1))))))) AE (0:Int)))))
 none)))))
def C6 (x:Ad):Option (Bool) :=
(cnd ((((((decide (40<(Aa x.2.1)))||(decide (40<(Aa x.2.2.1))))||(decide (40<(Aa x.2.2.2.1))))||(decide (40<(Aa x.2.2.2.2.1))))||(decide (60<(Aa x.2.2.2.2.2.1))))||(decide (40<(Aa x.2.2.2.2.2.2.2.2.2.2.2))))
(some true)
(iter none (fun x1 =>
(cnd (decide (x1<(Aa x.2.2.2.1)))
(Ae (idx x.2.2.2.1 x1) (.done none) (fun x2 =>
(cnd (decide (40<(Aa x2)))
(.done (some true))
(.next (wr .i64 (x1+1))))))
(.done (iter none (fun x2 =>
(cnd (decide (x2<(Aa x.2.2.2.2.2.2.2.2.2.2.2)))
(Ae (idx x.2.2.2.2.2.2.2.2.2.2.2 x2) (.done none) (fun x3 =>
(cnd (decide (40<(Aa x3.2.2)))
(.done (some true))
(.next (wr .i64 (x2+1))))))
(.done (some false)))) AE (0:Int))))) AE (0:Int)))
def Ie (x:List Cd):Option (Int) :=
(iter none (fun x1 =>
(cnd (decide (x1.2<(Aa x)))
(Ae (idx x x1.2) (.done none) (fun x2 =>
(Ae (idx x x1.2) (.done none) (fun x3 =>
(.next ((wr .i64 (x1.1+(wr .i64 ((Aa x2.1)+(Aa x3.2.2.1))))),(wr .i64 (x1.2+1))))))))
(.done (some x1.1)))) AE ((Aa x),(0:Int)))
def Kh (x:Ad×Bb×List Cd):Option (Bool) :=
(Ae (C6 x.1) none (fun x1 =>
(cnd (((!x1)&&(decide ((Aa x.2.1.1)≤5000)))&&(decide ((Aa x.2.2)≤200)))
(Ae (Ie x.2.2) none (fun x2 =>
(some (decide (x2≤20000)))))
(some false))))
def HQ (x:AM):Option (List Int) :=
(iter none (fun x1 =>
(cnd (decide (x1.2<(Aa x.2.1.1)))
(Ae (idx x.2.1.1 x1.2) (.done none) (fun x2 =>
(cnd (true&&(AS ((Aa x1.1)+(Aa (x2.1::[]))) 1))
(.next ((x1.1++(x2.1::[])),(wr .i64 (x1.2+1))))
(.done none))))
(.done (some x1.1)))) AE ([],(0:Int)))
def OQ (x:Int):Option (Bool) :=
(some ((decide (0≤x))&&(decide (x≤1048576))))
def CU (x:Int):Bool :=
(((decide (0≤x))&&(decide (x≤1048576))))
theorem oC (x:Int):OQ x=some (CU x):=by
 unfold OQ CU
 rfl
def Jd (x:Ad×Aq×Int):Option (Bool×Int) :=
(Ae (F0 (x.1,x.2.1)) none (fun x1 =>
(cnd (!(x1==0))
(some (false,x1))
(cnd ((decide (x.2.2<0))||(decide ((Aa x.1.2.1)≤x.2.2)))
(some (false,2))
(Ae (FN ((Aa x.1.2.1),1)) none (fun x2 =>
(Ae (idx x2 x.2.2) none (fun _ =>
(Ae (idx x2 x.2.2) none (fun _ =>
(Ae (FZ (x.1,(x.2.1,(Bc x2 x.2.2 2)))) none (fun x5 =>
(Ae (idx x5 x.2.2) none (fun _ =>
(Ae (idx x5 x.2.2) none (fun x7 =>
(some ((x7==2),0))))))))))))))))))
def OH (x:Cy×Int):Option (Bool×Int) :=
(AD (FP x.1) (fun y =>
(cnd (!(y==0))
(some (false,y))
(cnd ((decide (x.2<1))||(decide (1048576<x.2)))
(some (false,2))
(some ((x.1.1&&(decide (x.1.2.2<x.2))),0))))))
def IP (x:Cy×Int):Bool×Int :=
(AD (FP x.1) (fun y =>
(cnd (!(y==0))
((false,y))
(cnd ((decide (x.2<1))||(decide (1048576<x.2)))
((false,2))
(((x.1.1&&(decide (x.1.2.2<x.2))),0))))))
theorem nH (x:Cy×Int):OH x=some (IP x):=by
 unfold OH IP
 simp only[AD,Eg]
def IN:List Int→Int→Int→Int
 |[],_,_=>-1
 |b::l,c,i=>if b=c then i else IN l c (i+1)
def bytes_IndexByte (x:List Int×Int):Int:=IN x.1 x.2 0
def El (x:Ad×AM):Option (Bool) :=
(cnd ((!((Aa x.2.2.2.2.2.2.2.2.2.1)==(Aa x.1.2.2.2.2.2.1)))||(!((Aa x.2.2.2.2.2.2.2.2.2.2.2.1)==(Aa x.1.2.2.2.2.2.1))))
(some false)
(iter none (fun x1 =>
(cnd (decide (x1<(Aa x.1.2.2.2.2.2.1)))
(Ae (idx x.2.2.2.2.2.2.2.2.2.2.2.1 x1) (.done none) (fun x2 =>
(AD (JK (x2,0)) (fun y =>
(Ae (idx x.2.2.2.2.2.2.2.2.2.1 x1) (.done none) (fun x3 =>
(AD (CU x3.2.2) (fun y1 =>
(cnd ((!y1)||(!(y.2==0)))
(.done (some false))
(.next (wr .i64 (x1+1))))))))))))
(.done (Ae (E0 (x.1,(x.2.2.2.2.2.2.2.2.2.2.2.2.1,(x.2.2.2.2.2.2.2.2.2.2.1,(-1))))) none (fun x2 =>
(some (x2.2==0))))))) AE (0:Int)))
def Ek (x:Ad×AM):Option (Bool) :=
(cnd (((!((Aa x.2.2.2.2.2.2.2.2.2.2.2.2.2.2.2.1)==(Aa x.1.2.2.2.2.1)))||(!((Aa x.2.2.2.2.2.2.2.2.2.2.2.2.2.2.2.2.1)==(Aa x.1.2.2.2.2.1))))||(!((Aa x.2.2.2.2.2.2.2.2.2.2.2.2.2.2.2.2.2.1)==(Aa x.1.2.2.2.2.1))))
(some false)
(iter none (fun x1 =>
(cnd (decide (x1<(Aa x.1.2.2.2.2.1)))
(Ae (idx x.2.2.2.2.2.2.2.2.2.2.2.2.2.2.2.1 x1) (.done none) (fun x2 =>
(AD (CU x2) (fun y =>
(cnd (!y)
(.done (some false))
(Ae (idx x.2.2.2.2.2.2.2.2.2.2.2.2.2.2.2.2.1 x1) (.done none) (fun x3 =>
(AD (CU x3) (fun y1 =>
(cnd (!y1)
(.done (some false))
(Ae (idx x.2.2.2.2.2.2.2.2.2.2.2.2.2.2.2.2.2.1 x1) (.done none) (fun x4 =>
(AD (CU x4) (fun y2 =>
(cnd (!y2)
(.done (some false))
(Ae (idx x.2.2.2.2.2.2.2.2.2.2.2.2.2.2.2.2.1 x1) (.done none) (fun x5 =>
(Ae (idx x.2.2.2.2.2.2.2.2.2.2.2.2.2.2.2.1 x1) (.done none) (fun x6 =>
(cnd (decide (x6<x5))
(.done (some false))
(.next (wr .i64 (x1+1)))))))))))))))))))))))
(.done (some true)))) AE (0:Int)))
def Jf (x:Ad×AM):Option (Bool) :=
(AD (Dv (x.2.1.1,())) (fun y =>
(cnd ((((((((!y)||(decide (x.2.2.2.2.1.1<0)))||(decide ((Aa x.1.2.2.2.2.1)≤x.2.2.2.2.1.1)))||(!(CU x.2.2.2.2.1.2)))||(!(CU x.2.2.2.2.2.2.2.2.1)))||(!(CU x.2.2.2.2.2.2.2.2.2.2.2.2.2.1)))||(decide (x.2.2.2.2.2.2.2.2.2.2.2.2.2.2.1<0)))||(decide (1073741824<x.2.2.2.2.2.2.2.2.2.2.2.2.2.2.1)))
(some false)
(Ae (Jd (x.1,(x.2.2.1,0))) none (fun x1 =>
(cnd (!(x1.2==0))
(some false)
(Ae (Fs (x.1,(x.2.2.2.1,(false,(false,(false,false)))))) none (fun x2 =>
(cnd (!(x2.2==0))
(some false)
(AD (IP (x.2.2.2.2.2.1,1)) (fun y1 =>
(cnd (!(y1.2==0))
(some false)
(cnd (decide (2048<(Aa x.2.2.2.2.2.2.1)))
(some false)
(cnd (decide (0<(Aa x.2.2.2.2.2.2.1)))
(Ae (idx x.2.2.2.2.2.2.1 0) none (fun x3 =>
(cnd (!(x3==126))
(some false)
(cnd (decide (1≤(Aa x.2.2.2.2.2.2.1)))
(AD (bytes_IndexByte ((Bf x.2.2.2.2.2.2.1 1),126)) (fun y2 =>
(cnd (decide (0≤y2))
(some false)
(Ae (CY (x.1,x.2.2.2.2.2.2.2.1)) none (fun x4 =>
(cnd (x4.1||(DO x.2.2.2.2.2.2.2.1))
(Ae (El (x.1,((x.2.1.1,()),x.2.2))) none (fun x5 =>
(cnd x5
(Ae (Ek (x.1,((x.2.1.1,()),x.2.2))) none (fun x6 =>
(some x6)))
(some false))))
(some false)))))))
 none))))
(Ae (CY (x.1,x.2.2.2.2.2.2.2.1)) none (fun x3 =>
(cnd (x3.1||(DO x.2.2.2.2.2.2.2.1))
(Ae (El (x.1,((x.2.1.1,()),x.2.2))) none (fun x4 =>
(cnd x4
(Ae (Ek (x.1,((x.2.1.1,()),x.2.2))) none (fun x5 =>
(some x5)))
(some false))))
(some false))))))))))))))))))
def I3 (x:Ad×AM):Option (Int) :=
(Ae (Aw x.1) none (fun x1 =>
(cnd (!(x1==0))
(some x1)
(Ae (Jf (x.1,((x.2.1.1,()),x.2.2))) none (fun x2 =>
(cnd (!x2)
(some 230)
(some 0)))))))
def Bq (x:Ad×AM×Cd):Option (AM×List Int×List Int×Int) :=
(Ae (I3 (x.1,((x.2.1.1.1,()),x.2.1.2))) none (fun x1 =>
(cnd (!(x1==0))
(some ((([],()),(([],(0,false)),((0,(0,false)),((0,0),((false,(0,0)),([],((0,(0,[])),(0,([],([],([],(0,(0,(0,([],([],([],0))))))))))))))))),([],([],x1))))
(Ae (E1 x.2.1.2.2.2.2.2.2.1.2.2) none (fun x2 =>
(Ae (DG (x.1,(((x.2.1.1.1,()),(x.2.1.2.1,(x.2.1.2.2.1,(x.2.1.2.2.2.1,(x.2.1.2.2.2.2.1,(x.2.1.2.2.2.2.2.1,((x.2.1.2.2.2.2.2.2.1.1,(x.2.1.2.2.2.2.2.2.1.2.1,x2)),x.2.1.2.2.2.2.2.2.2))))))),(x.2.2,([],([],([],([],[])))))))) none (fun x3 =>
(some (((x3.2.1.1.1,()),x3.2.1.2),(x3.2.2.2.2.2.2.1,(x3.2.2.2.2.2.2.2,0)))))))))))
def C7 (x:List Int):Option (Int) :=
(iter none (fun x1 =>
(cnd (decide (x1.2<(Aa x)))
(Ae (idx x x1.2) (.done none) (fun x2 =>
(cnd (x2==4)
(.next ((wr .i64 (x1.1+1)),(wr .i64 (x1.2+1))))
(.next (x1.1,(wr .i64 (x1.2+1)))))))
(.done (some x1.1)))) AE ((0:Int),(0:Int)))
def Iv (x:Ad×Bb×List Cd×List Bool):Option (Bool) :=
(Ae (FU ()) none (fun x1 =>
(cnd (!x1)
(some false)
(Ae (Kh (x.1,((x.2.1.1,()),x.2.2.1))) none (fun x2 =>
(cnd (!x2)
(some x1)
(Ae (BQ (x.1,(x.2.1.1,()))) none (fun x3 =>
(cnd (!(x3.2==0))
(some x1)
(iter none (fun x4 =>
(cnd (decide (x4.1<(Aa x.2.2.1)))
(Ae (idx x.2.2.1 x4.1) (.done none) (fun x5 =>
(Ae (HQ ((x4.2.1.1,()),x4.2.2)) (.done none) (fun x6 =>
(cnd (decide (x4.1<(Aa x.2.2.2)))
(Ae (idx x.2.2.2 x4.1) (.done none) (fun x7 =>
(cnd x7
(Ae (Bq (x.1,(((x4.2.1.1,()),x4.2.2),(x5.1,(x5.2.1,([],x5.2.2.2)))))) (.done none) (fun x8 =>
(cnd (((!(x8.2.2.2==0))||(x8.1.2.2.1.1==0))||x8.1.2.2.1.2.2)
(.done (some false))
(cnd (!x5.2.2.2.1)
(Ae (C7 x8.2.1) (.done none) (fun x9 =>
(cnd (decide (0<x9))
(.done (some false))
(.next ((wr .i64 (x4.1+1)),((x8.1.1.1,()),x8.1.2))))))
(.next ((wr .i64 (x4.1+1)),((x8.1.1.1,()),x8.1.2)))))))
(Ae (Bq (x.1,(((x4.2.1.1,()),x4.2.2),(x5.1,(x5.2.1,(x6,x5.2.2.2)))))) (.done none) (fun x8 =>
(cnd (((!(x8.2.2.2==0))||(x8.1.2.2.1.1==0))||x8.1.2.2.1.2.2)
(.done (some false))
(cnd (!x5.2.2.2.1)
(Ae (C7 x8.2.1) (.done none) (fun x9 =>
(cnd (decide (0<x9))
(.done (some false))
(.next ((wr .i64 (x4.1+1)),((x8.1.1.1,()),x8.1.2))))))
(.next ((wr .i64 (x4.1+1)),((x8.1.1.1,()),x8.1.2))))))))))
(Ae (Bq (x.1,(((x4.2.1.1,()),x4.2.2),(x5.1,(x5.2.1,(x6,x5.2.2.2)))))) (.done none) (fun x7 =>
(cnd (((!(x7.2.2.2==0))||(x7.1.2.2.1.1==0))||x7.1.2.2.1.2.2)
(.done (some false))
(cnd (!x5.2.2.2.1)
(Ae (C7 x7.2.1) (.done none) (fun x8 =>
(cnd (decide (0<x8))
(.done (some false))
(.next ((wr .i64 (x4.1+1)),((x7.1.1.1,()),x7.1.2))))))
(.next ((wr .i64 (x4.1+1)),((x7.1.1.1,()),x7.1.2))))))))))))
(.done (some x1)))) AE ((0:Int),((x3.1.1.1,()),x3.1.2))))))))))))
def FV (x:Ad):Option (Int) :=
(iter none (fun x1 =>
(cnd (decide (x1.2<(Aa x.2.2.2.1)))
(iter (.done none) (fun x2 =>
(Ae (idx x.2.2.2.1 x1.2) (.done (.done none)) (fun x3 =>
(cnd (decide (x2.2<(Aa x3)))
(Ae (idx x.2.2.2.1 x1.2) (.done (.done none)) (fun x4 =>
(Ae (idx x4 x2.2) (.done (.done none)) (fun x5 =>
(.next ((Cw x2.1 x5),(wr .i64 (x2.2+1))))))))
(.done (.next (x2.1,(wr .i64 (x1.2+1))))))))) AE (x1.1,(0:Int)))
(.done (some x1.1)))) AE ((0:Int),(0:Int)))
def Jl (x:Ad):Option (Bool) :=
(iter none (fun x1 =>
(cnd (decide (x1<(Aa x.2.2.2.2.1)))
(Ae (FV x) (.done none) (fun x2 =>
(Ae (idx x.2.2.2.2.1 x1) (.done none) (fun x3 =>
(cnd (decide (x3.2.1≤x2))
(.done (some false))
(iter (.done none) (fun x4 =>
(cnd (decide (x4<(Aa x.2.1)))
(Ae (idx x.2.1 x4) (.done (.done none)) (fun x5 =>
(Ae (idx x.2.2.2.2.1 x1) (.done (.done none)) (fun x6 =>
(cnd (decide (x6.2.1≤x5.2.2))
(.done (.done (some false)))
(.next (wr .i64 (x4+1))))))))
(.done (.next (wr .i64 (x1+1)))))) AE (0:Int)))))))
(.done (some true)))) AE (0:Int))
def Iu (x:Ad×Az×List Int):Option (Bool) :=
(Ae (FU ()) none (fun x1 =>
(cnd (!x1)
(some false)
(Ae (C6 x.1) none (fun x2 =>
(cnd (((x2||(decide (40<(Aa x.2.1.2.2))))||(decide (60<x.2.1.1)))||(decide (1000<(Aa x.2.2))))
(some x1)
(Ae (CY (x.1,x.2.1)) none (fun x3 =>
(Ae (GC ()) none (fun x4 =>
(Ae (FT ((x4.1,()),(2,(x.2.1::[])))) none (fun x5 =>
(cnd (((!(x3.2==0))||(!x3.1))||(!(x5.2==0)))
(some x1)
(Ae (Jl x.1) none (fun x6 =>
(cnd (!x6)
(some x1)
(cnd (DP 256 1)
(iter none (fun x7 =>
(cnd (decide (x7.1<(Aa x5.1)))
(Ae (idx x5.1 x7.1) (.done none) (fun x8 =>
(cnd ((decide (0≤(wr .i64 (64*x8.1))))&&(decide ((wr .i64 (64*x8.1))≤(Aa x7.2.1))))
(Ae (idx x5.1 x7.1) (.done none) (fun x9 =>
(.next ((wr .i64 (x7.1+1)),((Dy x7.2.1 (wr .i64 (64*x8.1)) ((Aa x7.2.1)-(wr .i64 (64*x8.1))) x9.2),())))))
(.done none))))
(.done (Ae (BQ (x.1,(x7.2.1,()))) none (fun x8 =>
(cnd ((!(x8.2==0))||(!(x8.1.2.2.1.1==2)))
(some false)
(iter none (fun x9 =>
(cnd (decide (x9.2.1<(wr .i64 (4*x.2.1.1))))
(cnd (decide (0<(Aa x.2.2)))
(cnd (!((Aa x.2.2)==0))
(Ae (idx x.2.2 (Gm x9.2.1 (Aa x.2.2))) (.done none) (fun x10 =>
(Ae (Bq (x.1,(((x9.2.2.1.1,()),x9.2.2.2),([],(x10,([],(false,(0,(0,false))))))))) (.done none) (fun x11 =>
(Ae (Em (x.1,(x.2.1,x9.2.1))) (.done none) (fun x12 =>
(Ae (CF (x.1,(x.2.1,x9.2.1))) (.done none) (fun x13 =>
(Ae (Ck (x.1,(x11.1.2.1,x12.1))) (.done none) (fun x14 =>
(cnd ((((((!(x11.2.2.2==0))||(!(x12.2.2==0)))||(!(x13.2==0)))||(!(x14.2==0)))||(!(x11.1.2.2.1.1==2)))||(!(x11.1.2.2.2.1.1==x13.1)))
(.done (some false))
(cnd (x12.2.1==0)
(cnd (!x14.1)
(cnd (((decide ((Aa x.1.2.2.2.2.1)≤x9.1))&&(x13.1==x12.1))&&(!x14.1))
(.done (some false))
(.next (0,((wr .i64 (x9.2.1+1)),((x11.1.1.1,()),x11.1.2)))))
(cnd (((decide ((Aa x.1.2.2.2.2.1)≤x9.1))&&(x13.1==x12.1))&&(!x14.1))
(.done (some false))
(.next ((wr .i64 (x9.1+1)),((wr .i64 (x9.2.1+1)),((x11.1.1.1,()),x11.1.2))))))
(cnd (((decide ((Aa x.1.2.2.2.2.1)≤x9.1))&&(x13.1==x12.1))&&(!x14.1))
(.done (some false))
(.next (x9.1,((wr .i64 (x9.2.1+1)),((x11.1.1.1,()),x11.1.2)))))))))))))))))
(.done none))
(Ae (Bq (x.1,(((x9.2.2.1.1,()),x9.2.2.2),([],(0,([],(false,(0,(0,false))))))))) (.done none) (fun x10 =>
(Ae (Em (x.1,(x.2.1,x9.2.1))) (.done none) (fun x11 =>
(Ae (CF (x.1,(x.2.1,x9.2.1))) (.done none) (fun x12 =>
(Ae (Ck (x.1,(x10.1.2.1,x11.1))) (.done none) (fun x13 =>
(cnd ((((((!(x10.2.2.2==0))||(!(x11.2.2==0)))||(!(x12.2==0)))||(!(x13.2==0)))||(!(x10.1.2.2.1.1==2)))||(!(x10.1.2.2.2.1.1==x12.1)))
(.done (some false))
(cnd (x11.2.1==0)
(cnd (!x13.1)
(cnd (((decide ((Aa x.1.2.2.2.2.1)≤x9.1))&&(x12.1==x11.1))&&(!x13.1))
(.done (some false))
(.next (0,((wr .i64 (x9.2.1+1)),((x10.1.1.1,()),x10.1.2)))))
(cnd (((decide ((Aa x.1.2.2.2.2.1)≤x9.1))&&(x12.1==x11.1))&&(!x13.1))
(.done (some false))
(.next ((wr .i64 (x9.1+1)),((wr .i64 (x9.2.1+1)),((x10.1.1.1,()),x10.1.2))))))
(cnd (((decide ((Aa x.1.2.2.2.2.1)≤x9.1))&&(x12.1==x11.1))&&(!x13.1))
(.done (some false))
(.next (x9.1,((wr .i64 (x9.2.1+1)),((x10.1.1.1,()),x10.1.2))))))))))))))))
(.done (some x1)))) AE ((0:Int),((0:Int),((x8.1.1.1,()),x8.1.2)))))))))) AE ((0:Int),((AQ 256 (0:Int)),())))
 none)))))))))))))))))
def Gg (x:Ad):Option (Int×Int) :=
(Ae (Aw x) none (fun x1 =>
(cnd (!(x1==0))
(some (0,x1))
(Ae (BU x) none (fun x2 =>
(some (x2,0)))))))
def Iw (x:Ad):Option (Int×Int) :=
(Ae (Gg x) none (fun x1 =>
(cnd (!(x1.2==0))
(some (0,x1.2))
(iter none (fun x2 =>
(cnd (decide (x2.2.2<(Aa x.2.1)))
(Ae (idx x.2.1 x2.2.2) (.done none) (fun x3 =>
(.next ((Cw x2.1 x3.2.1),((Cw x2.2.1 x3.2.2),(wr .i64 (x2.2.2+1)))))))
(.done (some ((wr .i64 ((wr .i64 (x2.1+(Cw x1.1 x2.2.1)))+2)),0))))) AE ((0:Int),((0:Int),(0:Int)))))))
def Ji (x:Ad):Option (Int×Int) :=
(Ae (Iw x) none (fun x1 =>
(cnd (!(x1.2==0))
(some (0,x1.2))
(iter none (fun x2 =>
(cnd (decide (x2.2<(Aa x.2.2.2.2.1)))
(Ae (idx x.2.2.2.2.1 x2.2) (.done none) (fun x3 =>
(.next ((wr .i64 (x2.1+(wr .i64 ((wr .i64 (x3.2.2.1+x1.1))+2)))),(wr .i64 (x2.2+1))))))
(.done (some (x2.1,0))))) AE (x1.1,(0:Int))))))
def HH (x:Ad×Int×List Int×List Int):Option (Bool) :=
(Ae (FU ()) none (fun x1 =>
(cnd (!x1)
(some false)
(Ae (C6 x.1) none (fun x2 =>
(cnd (((x2||(decide (x.2.1<0)))||(decide ((Aa x.1.2.2.2.2.1)≤x.2.1)))||(decide (60<(Aa x.2.2.1))))
(some x1)
(Ae (Ji x.1) none (fun x3 =>
(Ae (GC ()) none (fun x4 =>
(Ae (BQ (x.1,(x4.1,()))) none (fun x5 =>
(cnd ((!(x3.2==0))||(!(x5.2==0)))
(some x1)
(Ae (FV x.1) none (fun x6 =>
(cnd (decide (200<(wr .i64 (x3.1+x6))))
(some x1)
(iter none (fun x7 =>
(cnd (decide (x7.2<(Aa x.1.2.2.2.2.2.1)))
(Ae (idx x.1.2.2.2.2.2.1 x7.2) (.done none) (fun x8 =>
(cnd (x8.1==x.2.1)
(.next ((Aj Go.BinOp.or Go.IntKind.u32 x7.1 (Bd Go.IntKind.u32 1 (wr .u64 x7.2))),(wr .i64 (x7.2+1))))
(.next (x7.1,(wr .i64 (x7.2+1)))))))
(.done (Dh (fun _ =>
(iter none (fun x9 =>
(cnd (decide (x9.1<(Aa x.2.2.1)))
(Ae (idx x.2.2.1 x9.1) (.done none) (fun x10 =>
(Ae (Bq (x.1,(((x9.2.1.1,()),x9.2.2),([],(x10,([],(false,(0,(0,false))))))))) (.done none) (fun x11 =>
(cnd (!(x11.2.2.2==0))
(.done (some false))
(.next ((wr .i64 (x9.1+1)),((x11.1.1.1,()),x11.1.2))))))))
(.done (iter none (fun x10 =>
(Ae (FV x.1) (.done none) (fun x11 =>
(cnd (decide (x10.1<(wr .i64 ((wr .i64 (x3.1+x11))+4))))
(Dh (fun x12 =>
(Ae (Bq (x.1,(((x10.2.1.1,()),x10.2.2),([],(x12,([],(false,(0,(0,false))))))))) (.done none) (fun x13 =>
(Ae (Ck (x.1,(x13.1.2.1,x.2.1))) (.done none) (fun x14 =>
(cnd ((!(x13.2.2.2==0))||(!(x14.2==0)))
(.done (some false))
(cnd x14.1
(.done (some x1))
(.next ((wr .i64 (x10.1+1)),((x13.1.1.1,()),x13.1.2)))))))))) (fun k =>
(cnd (decide (0<(Aa x.2.2.2)))
(cnd (!((Aa x.2.2.2)==0))
(Ae (idx x.2.2.2 (Gm x10.1 (Aa x.2.2.2))) (.done none) (fun x12 =>
(k (Aj Go.BinOp.or Go.IntKind.u32 x7.1 x12))))
(.done none))
(k x7.1))))
(.done (some false)))))) AE ((0:Int),((x9.2.1.1,()),x9.2.2)))))) AE ((0:Int),((x5.1.1.1,()),x5.1.2)))) (fun k =>
(cnd (x7.1==0)
(Ae (idx x.1.2.2.2.2.1 x.2.1) none (fun x8 =>
(cnd (!x8.2.2.2.2)
(some x1)
(k ()))))
(k ()))))))) AE ((0:Int),(0:Int)))))))))))))))))))
end Go.Proofs.YtmmkfcpdfnjgjaaGreatDoor
