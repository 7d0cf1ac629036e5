/- Part of a proof: plain readings of Go functions, their contracts, or plain facts of them. -/
import Derived.Test.YtlgpjdjcbincgaaGreatDoorDen3
set_option linter.all false
namespace Go.Proofs.YtlgpjdjcbincgaaGreatDoor
open Go.Den Go.RowKit Go.ChangeShapes
abbrev dnn {σ A:Type}:Step σ (Option A):=.done none
abbrev I64:=Ty.int .i64
abbrev Bo:=Ty.bool
abbrev U8:=Ty.int .u8
abbrev YL:=Ty.pair U8 (Ty.pair I64 I64)
abbrev Fq:Type:=Int×Int×Int
abbrev Aee:=Ty.slice YL
abbrev U32:=Ty.int .u32
abbrev wF:=Ty.slice U32
abbrev I64s:=Ty.slice I64
abbrev jG:=Ty.slice I64s
abbrev Af4:=Ty.pair U32 (Ty.pair I64 (Ty.pair I64 (Ty.pair I64 Bo)))
abbrev R6:Type:=Int×Int×Int×Int×Bool
abbrev Aef:=Ty.slice Af4
abbrev AhC:=Ty.pair I64 (Ty.pair I64 (Ty.pair I64 I64))
abbrev YF:Type:=Int×Int×Int×Int
abbrev Ag9:=Ty.slice AhC
abbrev EI:=Ty.pair I64 (Ty.pair I64 I64s)
abbrev AJ:Type:=Int×Int×List Int
abbrev Ov:=Ty.slice EI
abbrev AS:=Ty.pair I64 (Ty.pair Aee (Ty.pair wF (Ty.pair jG (Ty.pair Aef (Ty.pair Ag9 (Ty.pair I64 (Ty.pair I64 (Ty.pair I64 (Ty.pair I64 (Ty.pair I64 Ov))))))))))
abbrev Al:Type:=Int×List Fq×List Int×List (List Int)×List R6×List YF×Int×Int×Int×Int×Int×List AJ
abbrev U64:=Ty.int .u64
abbrev Af6:=Ty.slice AS
abbrev Af7:=Ty.pair I64s I64
abbrev vX:Type:=List Int×Int
abbrev Aha:=Ty.slice Af7
abbrev AhD:=Ty.pair I64 (Ty.pair I64 (Ty.pair I64 I64s))
abbrev vY:Type:=Int×Int×Int×List Int
abbrev Ahb:=Ty.slice AhD
abbrev CE:=Ty.pair Af6 (Ty.pair Aha (Ty.pair Ahb (Ty.pair I64 (Ty.pair I64 I64))))
abbrev AU:Type:=List Al×List vX×List vY×Int×Int×Int
abbrev Ec:=Ty.pair I64 (Ty.pair I64 I64)
abbrev Df:Type:=Int×Int×Int
abbrev Dz:=Ty.slice Ec
abbrev Mh:=Ty.pair Bo I64
abbrev Fg:Type:=Bool×Int
abbrev Hj:=Ty.slice Mh
abbrev Cb:=Ty.pair Dz (Ty.pair Dz (Ty.pair Hj (Ty.pair jG Dz)))
abbrev AZ:Type:=List Df×List Df×List Fg×List (List Int)×List Df
abbrev U8s:=Ty.slice U8
abbrev kC:=Ty.pair U8s (Ty.pair U32 (Ty.pair U8s (Ty.pair Bo (Ty.pair I64 (Ty.pair I64 Bo)))))
abbrev Kw:Type:=List Int×Int×List Int×Bool×Int×Int×Bool
abbrev bE:=Ty.slice kC
abbrev Wu:=Ty.pair bE (Ty.pair U8s U8s)
abbrev EA:Type:=List Kw×List Int×List Int
abbrev CI:=Ty.pair U8s .unit
abbrev Bk:Type:=List Int×Unit
abbrev Acr:=Ty.pair U8s Bo
abbrev Aal:Type:=List Int×Bool
abbrev LW:=Ty.pair Acr AS
abbrev HF:Type:=Aal×Al
abbrev Jt:=Ty.slice U8s
abbrev YM:=Ty.pair I64 (Ty.pair U8 Ov)
abbrev Dy:Type:=Int×Int×List AJ
abbrev YO:=Ty.pair YM (Ty.pair Jt Bo)
abbrev H6:Type:=Dy×List (List Int)×Bool
abbrev O7:=Ty.pair U8 (Ty.pair I64 I64)
abbrev Co:Type:=Int×Int×Int
abbrev kE:=Ty.slice O7
abbrev Ge:=Ty.pair kE (Ty.pair I64 Bo)
abbrev Bx:Type:=List Co×Int×Bool
abbrev QN:=Ty.pair U8 (Ty.pair I64 Bo)
abbrev Ez:Type:=Int×Int×Bool
abbrev Acu:=Ty.pair I64 I64
abbrev Mf:Type:=Int×Int
abbrev NX:=Ty.pair Bo (Ty.pair U32 I64)
abbrev DJ:Type:=Bool×Int×Int
abbrev Mi:=Ty.pair Bo (Ty.pair Bo I64)
abbrev Ji:Type:=Bool×Bool×Int
abbrev Wt:=Ty.slice Mi
abbrev Nn:=Ty.pair Bo (Ty.pair I64 (Ty.pair U64 (Ty.pair Bo I64)))
abbrev Bl:Type:=Bool×Int×Int×Bool×Int
abbrev LJ:=Ty.slice Nn
abbrev Nl:=Ty.pair Bo (Ty.pair I64 (Ty.pair I64 (Ty.pair I64 U64)))
abbrev C7:Type:=Bool×Int×Int×Int×Int
abbrev XL:=Ty.slice Nl
abbrev H7:=Ty.pair CI (Ty.pair Ge (Ty.pair QN (Ty.pair Acu (Ty.pair NX (Ty.pair U8s (Ty.pair EI (Ty.pair I64 (Ty.pair Wt (Ty.pair LJ (Ty.pair XL (Ty.pair U32 (Ty.pair I64 (Ty.pair I64 (Ty.pair I64s (Ty.pair I64s (Ty.pair I64s U32))))))))))))))))
abbrev Be:Type:=Bk×Bx×Ez×Mf×DJ×List Int×AJ×Int×List Ji×List Bl×List C7×Int×Int×Int×List Int×List Int×List Int×Int
abbrev Nk:=Ty.slice CI
abbrev bF:=Ty.slice H7
abbrev kD:=Ty.slice NX
abbrev H8:=Ty.pair bF (Ty.pair Cb (Ty.pair Jt (Ty.pair Jt (Ty.pair kD (Ty.pair Jt (Ty.pair wF I64))))))
abbrev Bm:Type:=List Be×AZ×List (List Int)×List (List Int)×List DJ×List (List Int)×List Int×Int
abbrev SU:=Ty.pair I64 (Ty.pair I64 (Ty.pair I64 I64s))
abbrev FG:Type:=Int×Int×Int×List Int
abbrev dY:=Ty.slice SU
abbrev YJ:=Ty.pair CE (Ty.pair Cb (Ty.pair I64s (Ty.pair I64s dY)))
abbrev Af1:Type:=List vX×List (List Int)
abbrev wB:=Ty.pair I64 I64
abbrev QL:Type:=Int×Int
abbrev No:=Ty.pair U8 (Ty.pair U32 U8s)
abbrev CM:Type:=Int×Int×List Int
abbrev YK:=Ty.pair Bo (Ty.pair Bo (Ty.pair Bo Bo))
abbrev H5:Type:=Bool×Bool×Bool×Bool
abbrev Ux:=Ty.slice No
abbrev Acs:=Ty.pair U8s (Ty.pair Bo (Ty.pair Bo Bo))
abbrev Aam:Type:=List Int×Bool×Bool×Bool
abbrev SV:=Ty.pair U8s Bo
abbrev Ot:Type:=List Int×Bool
abbrev Af5:=Ty.pair I64 U8s
abbrev Hi:Type:=Int×List Int
abbrev YN:=Ty.slice Af5
abbrev Er:=Ty.pair AS (Ty.pair H7 (Ty.pair kC (Ty.pair YN (Ty.pair Wt (Ty.pair U8s (Ty.pair U8s U8s))))))
abbrev CS:Type:=Al×Be×Kw×List Hi×List Ji×List Int×List Int×List Int
abbrev Jj:=Ty.pair I64 (Ty.pair U8 (Ty.pair I64 I64s))
abbrev Fs:Type:=Int×Int×Int×List Int
abbrev R7:=Ty.pair CE (Ty.pair H8 (Ty.pair Wu (Ty.pair Jt (Ty.pair Jt Jt))))
abbrev Uy:=Ty.slice Wu
abbrev Ahe:=Ty.slice Jt
def B0 (x:Int×Int×Int):Bool :=
 decide (x.2.1<=x.1)&&decide (x.1<=x.2.2)
def fS (x:Int×Int×Int):Option Bool:=some (B0 x)
theorem AbZ (x:Int×Int×Int):fS x=some (B0 x):=rfl
def M4 (x:Al):Option Bool :=
 Ao (B0 (Aa x.2.1,(1,16))) λy =>
(cnd (!y||!Aa x.2.2.1==Aa x.2.1||!Aa x.2.2.2.1==Aa x.2.1||!B0 (Aa x.2.2.2.2.1,(1,8))||decide (24<Aa x.2.2.2.2.2.1)||decide (8<Aa x.2.2.2.2.2.2.2.2.2.2.2))
(some false)
(iter none (λc =>
 cnd (decide (c<Aa x.2.2.2.1))
(Ad (idx x.2.2.2.1 c) dnn λd =>
 cnd (!Aa d==Aa x.2.1)
(.done (some false))
(Ad (idx x.2.2.1 c) dnn λg =>
 cnd (decide (0<=Aa x.2.1))
(cnd (!AH IntKind.u32 g (Aa x.2.1)==0)
(.done (some false))
(.next (wr .i64 (c+1))))
 dnn))
(.done (some true))) Am (0:Int)))
def QB (x:List Int):Option Bool :=
 iter none (λc =>
 cnd (decide (c<Aa x))
(Ad (idx x c) dnn λd =>
 Ao (B0 (d,(1,1048576))) λy =>
 cnd (!y)
(.done (some false))
(.next (wr .i64 (c+1))))
(.done (some true))) Am (0:Int)
def BX (x:List Int):Bool:=x.all λn=>decide (1<=n)&&decide (n<=1048576)
theorem pT (x:List Int) (g:Jh [I64s] x):QB x=some (BX x):=by
 unfold QB
 obtain⟨b,h1,o⟩:=OF (l:=x) (bad:=none) (no:=some false) (yes:=some true) (f:=λc =>
 cnd (decide (c<Aa x))
(Ad (idx x c) dnn λp =>
 Ao (B0 (p,(1,1048576))) λy =>
 cnd (!y)
(.done (some false))
(.next (wr .i64 (c+1))))
(.done (some true))) (λ_ n=>B0 (n,(1,1048576))=true) g.1 λi n h0 h1 d=>by
  simp only[h1,decide_true,cnd,d,Ad,Ao]
  cases B0 (n,(1,1048576))<;>simp λi hi=>by simp[hi,cnd]
 rw[h1]
 have:b=BX x:=by
  apply Bool.eq_iff_iff.2
  rw[o]
  unfold BX B0
  simp only[List.all_eq_true]
  exact ⟨λh n d=>by obtain⟨i,hi⟩:=BZ d;exact h i n hi,λh i n hi=>h n (Ag hi).2.2⟩
 rw[this]
 cases BX x<;>rfl
def TV (x:Int):Option Int :=
(cnd (decide (x<0)||decide (31<x))
(some 0)
(cnd (decide (0<=x))
(some (A9 IntKind.u32 1 x))
 none))
def Ew (x:Int):Int:=cnd (decide (x<0)||decide (31<x)) 0 (A9 .u32 1 x)
theorem zB (x:Int) (_:Jh [I64] x):TV x=some (Ew x):=by
 unfold TV Ew;by_cases h:x<0
 ·simp[h,cnd]
 ·have h':0<=x:=by omega
  by_cases c:31<x
  ·simp[c,cnd]
  ·simp[h,c,h',cnd]
def TT (x:Int×Int):Option Bool :=
 Ao (Ew x.2) λy =>
 some !Aq BinOp.and IntKind.u32 x.1 y==0
def Fz (x:Int×Int):Bool :=
 Ao (Ew x.2) λy =>
 !Aq BinOp.and IntKind.u32 x.1 y==0
theorem zA (x:Int×Int):TT x=some (Fz x):=by unfold TT Fz;simp only[Ao]
def M3 (x:Al):Option Bool :=
 iter none (λc =>
 cnd (decide (c<Aa x.2.1))
(Ad (idx x.2.1 c) dnn λg =>
 cnd (!g.1==1&&!g.1==2||!BX (g.2.1::g.2.2::[]))
(.done (some false))
(Ad (idx x.2.2.2.1 c) dnn λh =>
 iter dnn (λd =>
 cnd (decide (d<Aa h))
(Ad (idx h d) (.done dnn) λo =>
 Ad (idx x.2.2.1 c) (.done dnn) λp =>
 Ao (Fz (p,d)) λy =>
 Ad (idx x.2.2.1 d) (.done dnn) λt =>
 Ao (Fz (t,c)) λy1 =>
 cnd (!y==y1)
(.done (.done (some false)))
(cnd (y&&c==d)
(.done (.done (some false)))
(cnd (y&&!B0 (o,(g.2.2,1048576)))
(.done (.done (some false)))
(cnd (!y&&!o==0)
(.done (.done (some false)))
(.next (wr .i64 (d+1)))))))
(.done (.next (wr .i64 (c+1))))) Am (0:Int)))
(.done (some true))) Am (0:Int)
def BQ (x:Int):Int:=low x
def Qv (x:Int):Option Int :=
(cnd (x==0)
(some (-1))
(Ao (BQ x) λy =>
 some y))
def I1 (x:Int):Int :=
(cnd (x==0)
(-1)
(Ao (BQ x) λy =>
 y))
theorem pC (x:Int):Qv x=some (I1 x):=by unfold Qv I1;simp only[Ao,C0]
def NQ (x:Int×Int):Option Int :=
 Ao (Ew x.2) λy =>
 some (Aq BinOp.andNot IntKind.u32 x.1 y)
def C1 (x:Int×Int):Int :=
 Ao (Ew x.2) λy =>
 Aq BinOp.andNot IntKind.u32 x.1 y
theorem dJ (x:Int×Int):NQ x=some (C1 x):=by unfold NQ C1;simp only[Ao]
def IF (x:Int):Int:=cnt x
def Qu (x:Int):Option Int :=
 Ao (IF x) λy =>
 some y
def I0 (x:Int):Int :=
 Ao (IF x) λy =>
 y
theorem pA (x:Int):Qu x=some (I0 x):=by unfold Qu I0;simp only[Ao]
def LB (x:Al):Option Bool :=
 iter none (λd =>
 cnd (decide (d.2<Aa x.2.2.2.2.1))
(Ad (idx x.2.2.2.2.1 d.2) dnn λc =>
 cnd (c.1==0)
(.done (some false))
(cnd (decide (0<=Aa x.2.1))
(cnd (!AH IntKind.u32 c.1 (Aa x.2.1)==0||!BX (c.2.1::c.2.2.1::c.2.2.2.1::[])||decide (c.2.2.1<c.2.1))
(.done (some false))
(iter dnn (λg =>
 cnd (!g==0)
(Ao (I1 g) λy =>
 Ao (C1 (g,y)) λy1 =>
 Ad (idx x.2.1 y) (.done dnn) λh =>
 cnd (decide (c.2.1<h.2.1))
(.done (.done (some false)))
(Ad (idx x.2.2.1 y) (.done dnn) λo =>
 cnd (!Aq BinOp.and IntKind.u32 o c.1==0)
(.done (.done (some false)))
(.next y1)))
(.done (.next (Aq BinOp.or IntKind.u32 d.1 c.1,wr .i64 (d.2+1))))) Am c.1))
 dnn))
(.done (Ao (I0 d.1) λy =>
 some (y==Aa x.2.1)))) Am ((0:Int),(0:Int))
def Oh (x:Al):Option Bool :=
 iter none (λd =>
 cnd (decide (d<Aa x.2.2.2.2.2.1))
(Ad (idx x.2.2.2.2.2.1 d) dnn λc =>
 Ao (B0 (c.1,(0,wr .i64 (Aa x.2.2.2.2.1-1)))) λy =>
 cnd (!y||!BX (c.2.1::c.2.2.1::[])||!B0 (c.2.2.2,(1,64)))
(.done (some false))
(.next (wr .i64 (d+1))))
(.done (some true))) Am (0:Int)
def Kj (x:Al×Int×Int):Option Int :=
 iter none (λc =>
 cnd (decide (c.2<Aa x.1.2.1))
(Ad (idx x.1.2.2.2.2.1 x.2.1) dnn λg =>
 Ao (Fz (g.1,c.2)) λy =>
 cnd (!y)
(.next (c.1,wr .i64 (c.2+1)))
(Ad (idx x.1.2.2.1 c.2) dnn λh =>
 Ad (idx x.1.2.2.2.2.1 x.2.2) dnn λo =>
 iter dnn (λd =>
 cnd (!d.2==0)
(Ao (I1 d.2) λy1 =>
 Ao (C1 (d.2,y1)) λy2 =>
 Ad (idx x.1.2.2.2.1 c.2) (.done dnn) λp =>
 Ad (idx p y1) (.done dnn) λt =>
.next (B8 d.1 t,y2))
(.done (.next (d.1,wr .i64 (c.2+1))))) Am (c.1,Aq BinOp.and IntKind.u32 h o.1)))
(.done (some c.1))) Am ((0:Int),(0:Int))
def GY (x:Al×Int):Option Int :=
 Ad (idx x.1.2.2.2.2.1 x.2) none λc =>
(cnd (!Aa x.1.2.2.2.2.1==0)
(Ad (Kj (x.1,(x.2,BB (wr .i64 (x.2+1)) (Aa x.1.2.2.2.2.1)))) none λd =>
 some (wr .i64 (c.2.1+d)))
 none)
def M5 (x:Al):Option Bool :=
 iter none (λc =>
 cnd (decide (c.2<Aa x.2.2.2.2.1))
(Ad (GY (x,c.2)) dnn λd =>
.next (wr .i64 (c.1+d),wr .i64 (c.2+1)))
(.done (Ao (BX (x.2.2.2.2.2.2.1::x.2.2.2.2.2.2.2.1::x.2.2.2.2.2.2.2.2.1::x.2.2.2.2.2.2.2.2.2.1::x.2.2.2.2.2.2.2.2.2.2.1::[])) λy =>
 some (y&&decide (c.1<=x.2.2.2.2.2.2.2.2.2.1)&&decide (x.2.2.2.2.2.2.2.2.2.1<=x.2.2.2.2.2.2.2.2.2.2.1))))) Am ((0:Int),(0:Int))
def K9 (x:Al×AJ):Option Bool :=
 Ao (B0 (x.2.1,(x.1.2.2.2.2.2.2.2.2.2.1,x.1.2.2.2.2.2.2.2.2.2.2.1))) λy =>
(cnd (!y||!B0 (x.2.2.1,(0,wr .i64 (x.2.1-1)))||!Aa x.2.2.2==Aa x.1.2.2.2.2.1)
(some false)
(iter none (λc =>
 cnd (decide (c.2<Aa x.2.2.2))
(Ad (idx x.2.2.2 c.2) dnn λd =>
 Ad (GY (x.1,c.2)) dnn λg =>
 Ao (B0 (d,(g,c.1))) λy1 =>
 cnd (!y1)
(.done (some false))
(.next (wr .i64 (c.1-d),wr .i64 (c.2+1))))
(.done (some (c.1==0)))) Am (x.2.1,(0:Int))))
def KQ (x:Al):Option Bool :=
 iter none (λc =>
 cnd (decide (c<Aa x.2.2.2.2.2.2.2.2.2.2.2))
(Ad (idx x.2.2.2.2.2.2.2.2.2.2.2 c) dnn λd =>
 Ad (K9 (x,d)) dnn λg =>
 cnd (!g)
(.done (some false))
(.next (wr .i64 (c+1))))
(.done (some true))) Am (0:Int)
def AD (x:Al):Option Int :=
 iter none (λd =>
 cnd (decide (d.2<6))
(cnd (d.2==0)
(Ao (B0 (x.1,(0,65535))) λy =>
 cnd (!y)
(.done (some 50))
(Ad (M4 x) dnn λc =>
 cnd (!c)
(.done (cnd (!c)
(some 50)
(some 0)))
(.next (!c,wr .i64 (d.2+1)))))
(cnd (d.2==1)
(Ad (M3 x) dnn λc =>
 cnd (!c)
(.done (cnd (!c)
(some 50)
(some 0)))
(.next (!c,wr .i64 (d.2+1))))
(cnd (d.2==2)
(Ad (LB x) dnn λc =>
 cnd (!c)
(.done (cnd (!c)
(some 50)
(some 0)))
(.next (!c,wr .i64 (d.2+1))))
(cnd (d.2==3)
(Ad (Oh x) dnn λc =>
 cnd (!c)
(.done (cnd (!c)
(some 50)
(some 0)))
(.next (!c,wr .i64 (d.2+1))))
(cnd (d.2==4)
(Ad (M5 x) dnn λc =>
 cnd (!c)
(.done (cnd (!c)
(some 50)
(some 0)))
(.next (!c,wr .i64 (d.2+1))))
(cnd (d.2==5)
(Ad (KQ x) dnn λc =>
 cnd (!c)
(.done (cnd (!c)
(some 50)
(some 0)))
(.next (!c,wr .i64 (d.2+1))))
(cnd d.1
(.done (cnd d.1
(some 50)
(some 0)))
(.next (d.1,wr .i64 (d.2+1))))))))))
(.done (cnd d.1
(some 50)
(some 0)))) Am (false,(0:Int))
def En (x:Al×AJ):Option (Bool×Int) :=
 Ad (AD x.1) none λc =>
(cnd (!c==0)
(some (false,c))
(Ad (K9 x) none λd =>
 some (d,0)))
def BE (x:Int):Int :=
 Bb (B8 x (-70368744177664)) 70368744177664
def Zz (x:Int):Option Int:=some (BE x)
theorem xQ (x:Int):Zz x=some (BE x):=rfl
def Rx (x:Int×Int×Int):Option Int :=
(cnd (decide (x.1<x.2.1)||decide (x.2.2<x.2.1))
(some x.2.1)
(cnd (decide (x.2.2<x.1))
(some x.2.2)
(some x.1)))
def E6 (x:Int×Int×Int):Int :=
(cnd (decide (x.1<x.2.1)||decide (x.2.2<x.2.1))
 x.2.1
(cnd (decide (x.2.2<x.1))
 x.2.2
 x.1))
theorem rY (x:Int×Int×Int):Rx x=some (E6 x):=by unfold Rx E6;simp only[C0]
def Te (x:Int):Option (Int×Bool) :=
(cnd (decide (x<0))
(some (wr .u64 (wr .i64 (0-x)),true))
(some (wr .u64 x,false)))
def Eb (x:Int):Int×Bool :=
(cnd (decide (x<0))
(wr .u64 (wr .i64 (0-x)),true)
(wr .u64 x,false))
theorem xP (x:Int):Te x=some (Eb x):=by unfold Te Eb;simp only[C0]
def bits_Mul64 (x:Int×Int):Int×Int :=
(wr .u64 (wr .u64 (wr .u64 (AH IntKind.u64 x.1 32*AH IntKind.u64 x.2 32)+AH IntKind.u64 (wr .u64 (wr .u64 (AH IntKind.u64 x.1 32*Aq BinOp.and IntKind.u64 x.2 4294967295)+AH IntKind.u64 (wr .u64 (Aq BinOp.and IntKind.u64 x.1 4294967295*Aq BinOp.and IntKind.u64 x.2 4294967295)) 32)) 32)+AH IntKind.u64 (wr .u64 (Aq BinOp.and IntKind.u64 (wr .u64 (wr .u64 (AH IntKind.u64 x.1 32*Aq BinOp.and IntKind.u64 x.2 4294967295)+AH IntKind.u64 (wr .u64 (Aq BinOp.and IntKind.u64 x.1 4294967295*Aq BinOp.and IntKind.u64 x.2 4294967295)) 32)) 4294967295+wr .u64 (Aq BinOp.and IntKind.u64 x.1 4294967295*AH IntKind.u64 x.2 32))) 32),wr .u64 (x.1*x.2))
def UN (x:Int×Int):Option (Int×Int):=some (bits_Mul64 x)
theorem lI (x:Int×Int):UN x=some (bits_Mul64 x):=rfl
def D8 (x:Int×Int×Int):Bool :=
 decide (x.2.1<=x.1)&&decide (x.1<=x.2.2)
def oC (x:Int×Int×Int):Option Bool:=some (D8 x)
theorem Adf (x:Int×Int×Int):oC x=some (D8 x):=rfl
def Od (x:AU):Option Bool :=
 Ao (D8 (x.2.2.2.1,(1,1048576))) λy =>
(cnd (y&&D8 (x.2.2.2.2.1,(x.2.2.2.1,1048576))&&D8 (x.2.2.2.2.2,(1,1048576)))
(cnd (!x.2.2.2.2.2==0)
(cnd (BB (wr .i64 (x.2.2.2.2.1-x.2.2.2.1)) x.2.2.2.2.2==0)
(cnd (!x.2.2.2.2.2==0)
(some (decide (DZ IntKind.i64 (wr .i64 (x.2.2.2.2.1-x.2.2.2.1)) x.2.2.2.2.2<=64)))
 none)
(some false))
 none)
(some false))
def Oc (x:AU):Option Bool :=
 iter none (λc =>
 cnd (decide (c.1<Aa x.1))
(Ad (idx x.1 c.1) dnn λd =>
 cnd (KY (Ty.int IntKind.i64) c.2 d.1)
(.done (some false))
(Ad (AD d) dnn λg =>
 cnd (!g==0||decide (x.2.2.2.1<d.2.2.2.2.2.2.2.2.2.1)||decide (d.2.2.2.2.2.2.2.2.2.2.1<x.2.2.2.2.1))
(.done (some false))
(.next (wr .i64 (c.1+1),Jw (Ty.int IntKind.i64) c.2 d.1 true))))
(.done (Ao (D8 (Aa x.1,(1,12))) λy =>
 some y))) Am ((0:Int),[])
def EL (x:List Int×Int):Option Int :=
 iter none (λc =>
 cnd (decide (c<Aa x.1))
(Ad (idx x.1 c) dnn λd =>
 cnd (x.2==d)
(.done (some c))
(.next (wr .i64 (c+1))))
(.done (some (-1)))) Am (0:Int)
def Bd (x:List Int×Int):Option Bool :=
 Ad (EL x) none λc =>
 some (decide (0<=c))
def MK (x:AU):Option Bool :=
 iter none (λc =>
 cnd (decide (c.1<Aa x.2.1))
(Ad (idx x.2.1 c.1) dnn λh =>
 iter dnn (λd =>
 cnd (decide (d.1<Aa h.1))
(Ad (idx h.1 d.1) (.done dnn) λg =>
 Ao (D8 (g,(0,wr .i64 (Aa x.1-1)))) λy =>
 cnd (!y||KY (Ty.int IntKind.i64) d.2 g)
(.done (.done (some false)))
(.next (wr .i64 (d.1+1),Jw (Ty.int IntKind.i64) d.2 g true)))
(.done (Ad (Bd h) dnn λg =>
 cnd (!g)
(.done (some false))
(.next (wr .i64 (c.1+1),d.2))))) Am ((0:Int),c.2))
(.done (Ao (D8 (Aa x.2.1,(1,6))) λy =>
 cnd y
(cnd (decide (Aa c.2<=1099511627776))
(some (Aa c.2==Aa x.1))
 none)
(some false)))) Am ((0:Int),[])
def ML (x:AU):Option Bool :=
 iter none (λd =>
 cnd (decide (d.1<Aa x.2.2.1))
(Ad (idx x.2.2.1 d.1) dnn λc =>
 cnd (decide (c.1<0)||decide (c.2.1<=c.1)||decide (Aa x.2.1<=c.2.1)||KY (Ty.pair (Ty.int IntKind.i64) (Ty.int IntKind.i64)) d.2 (c.1,c.2.1)||!D8 (c.2.2.1,(1,1048576))||!D8 (Aa c.2.2.2,(1,8)))
(.done (some false))
(iter dnn (λg =>
 cnd (decide (g<Aa c.2.2.2))
(Ad (idx c.2.2.2 g) (.done dnn) λh =>
 Ao (D8 (h,(0,wr .i64 (x.2.2.2.1-1)))) λy =>
 cnd (!y)
(.done (cnd (decide (0<=g))
(.done (some false))
(.next (wr .i64 (d.1+1),Jw (Ty.pair (Ty.int IntKind.i64) (Ty.int IntKind.i64)) d.2 (c.1,c.2.1) true))))
(.next (wr .i64 (g+1))))
(.done (.next (wr .i64 (d.1+1),Jw (Ty.pair (Ty.int IntKind.i64) (Ty.int IntKind.i64)) d.2 (c.1,c.2.1) true)))) Am (0:Int)))
(.done (some (decide (Aa x.2.2.1<=8))))) Am ((0:Int),[])
def Du (x:AU):Option Int :=
 Ad (Od x) none λc =>
(cnd (!c)
(some 60)
(Ad (Oc x) none λd =>
 cnd (!d)
(some 60)
(Ad (MK x) none λg =>
 cnd (!g)
(some 60)
(Ad (ML x) none λh =>
 cnd (!h)
(some 60)
(some 0)))))
def FO (x:AU):Option (List Int×Int) :=
 Ad (Du x) none λd =>
(cnd (!d==0)
(some ([],d))
(iter none (λc =>
 cnd (decide (c.2<=x.2.2.2.2.1))
(cnd (true&&AA (Aa c.1+Aa (c.2::[])) 8)
(.next (c.1++c.2::[],wr .i64 (c.2+x.2.2.2.2.2)))
 dnn)
(.done (some (c.1,0)))) Am ([],x.2.2.2.1)))
def Em (x:Df×Int):Bool :=
 decide (0<=x.1.1)&&decide (x.1.1<x.2)&&decide (0<=x.1.2.1)&&decide (x.1.2.1<=1048576)&&decide (0<=x.1.2.2)&&decide (x.1.2.2<=1048576)
def Uh (x:Df×Int):Option Bool:=some (Em x)
theorem iM (x:Df×Int):Uh x=some (Em x):=rfl
def EW (x:Int):Bool :=
 decide (0<=x)&&decide (x<=65536)
def Vx (x:Int):Option Bool:=some (EW x)
theorem nN (x:Int):Vx x=some (EW x):=rfl
def LP (x:Int×Int):Option Bool :=
 some (decide (x.2<x.1))
def Im (x:Int×Int):Bool :=
 decide (x.2<x.1)
theorem Yb (x:Int×Int):LP x=some (Im x):=by unfold LP Im;rfl
def EG (x:List Int):Option (Int×Int×Int) :=
(cnd (decide (1024<Aa x))
(some (0,(0,4)))
(iter none (λd =>
 cnd (decide (d<Aa x))
(Ad (idx x d) dnn λc =>
 Ao (EW c) λy =>
 cnd (!y)
(.done (some (0,(0,2))))
(.next (wr .i64 (d+1))))
(.done (iter none (λc =>
 cnd (decide (c.2<Aa x))
(Ad (idx x c.2) dnn λg =>
 cnd (decide (c.1<0))
(.next (c.2,wr .i64 (c.2+1)))
(Ad (idx x c.1) dnn λh =>
 Ao (Im (g,h)) λy =>
 cnd y
(.next (c.2,wr .i64 (c.2+1)))
(.next (c.1,wr .i64 (c.2+1)))))
(.done (cnd (decide (c.1<0))
(some (-1,(0,0)))
(Ad (idx x c.1) none λg =>
 some (c.1,(g,0)))))) Am (-1,(0:Int))))) Am (0:Int)))
def MI (x:AU×AZ):Option Bool :=
(cnd (!Aa x.2.1==Aa x.1.2.1||!Aa x.2.2.1==Aa x.1.2.2.1||!Aa x.2.2.2.1==Aa x.1.2.2.1||!Aa x.2.2.2.2.1==Aa x.1.1||!Aa x.2.2.2.2.2==Aa x.1.1)
(some false)
(Ad (FO x.1) none λt =>
 iter none (λh =>
 cnd (decide (h<Aa x.2.1))
(Ad (idx x.2.1 h) dnn λd =>
 Ao (Em (d,1048577)) λy =>
 cnd (!y)
(.done (some false))
(Ad (Bd (t.1,d.1)) dnn λc =>
 cnd (!c)
(.done (some false))
(.next (wr .i64 (h+1)))))
(.done (iter none (λd =>
 cnd (decide (d<Aa x.1.2.2.1))
(Ad (idx x.1.2.2.1 d) dnn λc =>
 Ad (idx x.2.2.1 d) dnn λg =>
 Ao (Em (g,Aa c.2.2.2)) λy =>
 cnd (!y)
(.done (some false))
(Ad (idx x.2.2.2.1 d) dnn λo =>
 cnd (decide (o.2<0))
(.done (some false))
(Ad (idx x.2.2.2.1 d) dnn λp =>
 cnd (decide (1048576<p.2))
(.done (some false))
(.next (wr .i64 (d+1))))))
(.done (iter none (λc =>
 cnd (decide (c<Aa x.1.1))
(Ad (idx x.1.1 c) dnn λg =>
 Ad (idx x.2.2.2.2.1 c) dnn λo =>
 Ad (EG o) dnn λp =>
 Ad (idx x.2.2.2.2.1 c) dnn λv =>
 cnd (!Aa v==Aa g.2.2.2.2.1||!p.2.2==0)
(.done (some false))
(Ad (idx x.2.2.2.2.2 c) dnn λE =>
 Ao (Em (E,B8 1 (Aa g.2.2.2.2.2.2.2.2.2.2.2))) λy =>
 cnd (!y)
(.done (some false))
(.next (wr .i64 (c+1)))))
(.done (some true))) Am (0:Int)))) Am (0:Int)))) Am (0:Int)))
def GD (x:AU×AZ):Option Int :=
 Ad (Du x.1) none λc =>
(cnd (!c==0)
(some c)
(Ad (MI x) none λd =>
 cnd (!d)
(some 8)
(some 0)))
def MJ (x:AU×Int):Option (Int×Int) :=
 Ad (Du x.1) none λd =>
(cnd (!d==0)
(some (0,d))
(iter none (λc =>
 cnd (decide (c<Aa x.1.1))
(Ad (idx x.1.1 c) dnn λg =>
 cnd (g.1==x.2)
(.done (cnd (decide (c<0))
(some (0,2))
(some (c,0))))
(.next (wr .i64 (c+1))))
(.done (some (0,2)))) Am (0:Int)))
def Ii (x:Int×Int×Int):Int :=
 Ao (BE x.1) λy =>
 Ao (BE x.2.1) λy1 =>
 Ao (E6 (x.2.2,(0,65536))) λy2 =>
 Ao (Eb (wr .i64 (y1-y))) λy3 =>
 Ao (bits_Mul64 (y3.1,wr .u64 y2)) λy4 =>
(cnd y3.2
(wr .i64 (y-wr .i64 (Aq BinOp.or IntKind.u64 (A9 IntKind.u64 (wr .u64 (y4.1+(y4.2+65535)/18446744073709551616)) 48) (AH IntKind.u64 ((y4.2+65535)%18446744073709551616) 16))))
(wr .i64 (y+wr .i64 (Aq BinOp.or IntKind.u64 (A9 IntKind.u64 y4.1 48) (AH IntKind.u64 y4.2 16)))))
def G8 (x:Int×Int×Int):Option (Int×Int) :=
 Ao (EW x.1) λy =>
(cnd (!y||!EW x.2.1||!EW x.2.2)
(some (0,2))
(Ao (Ii x) λy1 =>
 some (y1,0)))
def CA (x:Int×Int×Int):Int×Int :=
 Ao (EW x.1) λy =>
(cnd (!y||!EW x.2.1||!EW x.2.2)
(0,2)
(Ao (Ii x) λy1 =>
(y1,0)))
theorem Jb (x:Int×Int×Int):G8 x=some (CA x):=by unfold G8 CA;simp only[Ao,C0]
def BJ (x:List Df):Option (List Df) :=
(cnd (true&&AA (0+Aa x) 24)
(some ([]++x))
 none)
def Ej (x:List Fg):Option (List Fg) :=
(cnd (true&&AA (0+Aa x) 16)
(some ([]++x))
 none)
def CY (x:List (List Int)):Option (List (List Int)) :=
(cnd (true&&AA (0+Aa x) 24)
(some ([]++x))
 none)
def B7 (x:List Int):Option (List Int) :=
(cnd (true&&AA (0+Aa x) 8)
(some ([]++x))
 none)
def DU (x:AZ):Option AZ :=
 Ad (BJ x.1) none λg =>
 Ad (BJ x.2.1) none λh =>
 Ad (Ej x.2.2.1) none λo =>
 Ad (CY x.2.2.2.1) none λd =>
 Ad (BJ x.2.2.2.2) none λp =>
 iter none (λc =>
 cnd (decide (c.1<Aa d))
(Ad (idx c.2.2.2.2.1 c.1) dnn λ_ =>
 Ad (idx c.2.2.2.2.1 c.1) dnn λt =>
 Ad (B7 t) dnn λv =>
 Ad (idx c.2.2.2.2.1 c.1) dnn λ_ =>
 Ad (idx c.2.2.2.2.1 c.1) dnn λ_ =>
.next (wr .i64 (c.1+1),(c.2.1,(c.2.2.1,(c.2.2.2.1,(AB c.2.2.2.2.1 c.1 v,c.2.2.2.2.2))))))
(.done (some c.2))) Am ((0:Int),(g,(h,(o,(d,p)))))
def Mc (_:Unit):Al :=
(1,((1,(2,1))::(1,(2,1))::[],(2::1::[],((0::2::[])::(2::0::[])::[],((1,(2,(5,(1,false))))::(2,(2,(5,(1,false))))::[],([],(3,(2,(4,(8,(20,[])))))))))))
def fZ (x:Unit):Option Al:=some (Mc x)
theorem Aca (x:Unit):fZ x=some (Mc x):=rfl
def T4 (_:Unit):Option AU :=
 Ao (Mc ()) λy =>
 Ao (Mc ()) λy1 =>
 some (y::(2,y1.2)::[],((0::1::[],0)::[],([],(8,(20,4)))))
def T3 (_:Unit):AU :=
 Ao (Mc ()) λy =>
 Ao (Mc ()) λy1 =>
(y::(2,y1.2)::[],((0::1::[],0)::[],([],(8,(20,4)))))
theorem zV (x:Unit):T4 x=some (T3 x):=by unfold T4 T3;simp only[Ao]
def Pr (x:AU×Int):Option EA :=
 iter none (λc =>
 cnd (decide (c.1<Aa x.1.1))
(cnd (true&&AA (Aa c.2.1+Aa ((([],(0,([],(false,(0,(0,false)))))):Kw)::[])) 88)
(cnd (true&&AA (Aa c.2.2.1+Aa (x.2::[])) 1)
(cnd (true&&AA (Aa c.2.2.2+Aa (x.2::[])) 1)
(.next (wr .i64 (c.1+1),(c.2.1++([],(0,([],(false,(0,(0,false))))))::[],(c.2.2.1++x.2::[],c.2.2.2++x.2::[]))))
 dnn)
 dnn)
 dnn)
(.done (some c.2))) Am ((0:Int),([],([],[])))
def Pq (_:Unit):Option Bk :=
(cnd (B5 256 1)
(some (Ay 256 0,()))
 none)
def KK (x:AU):Option (AZ×Int) :=
 Ad (Du x) none λh =>
(cnd (!h==0)
(some (([],([],([],([],[])))),h))
(cnd (decide (0<=Aa x.2.2.1)&&(decide (Aa x.2.2.1<=Aa x.2.2.1)&&B5 (Aa x.2.2.1) 24))
(cnd (decide (0<=Aa x.2.2.1)&&(decide (Aa x.2.2.1<=Aa x.2.2.1)&&B5 (Aa x.2.2.1) 16))
(cnd (decide (0<=Aa x.1)&&(decide (Aa x.1<=Aa x.1)&&B5 (Aa x.1) 24))
(iter none (λd =>
 cnd (decide (d.1<Aa x.2.1))
(cnd (true&&AA (Aa d.2.1+Aa ((x.2.2.2.1,(x.2.2.2.1,0))::[])) 24)
(.next (wr .i64 (d.1+1),(d.2.1++(x.2.2.2.1,(x.2.2.2.1,0))::[],d.2.2)))
 dnn)
(.done (iter none (λc =>
 cnd (decide (c.1<Aa x.1))
(Ad (idx x.1 c.1) dnn λg =>
 cnd (decide (0<=Aa g.2.2.2.2.1)&&(decide (Aa g.2.2.2.2.1<=Aa g.2.2.2.2.1)&&B5 (Aa g.2.2.2.2.1) 8))
(cnd (true&&AA (Aa c.2.2.2.2.1+Aa (Ay (Aa g.2.2.2.2.1) 0::[])) 24)
(.next (wr .i64 (c.1+1),(c.2.1,(c.2.2.1,(c.2.2.2.1,(c.2.2.2.2.1++Ay (Aa g.2.2.2.2.1) 0::[],c.2.2.2.2.2))))))
 dnn)
 dnn)
(.done (some (c.2,0)))) Am ((0:Int),d.2)))) Am ((0:Int),([],(Ay (Aa x.2.2.1) ((0:Int),((0:Int),(0:Int))),(Ay (Aa x.2.2.1) (false,(0:Int)),([],Ay (Aa x.1) ((0:Int),((0:Int),(0:Int)))))))))
 none)
 none)
 none))
def OQ (x:Bk):Option Int :=
(cnd (decide (Aa x.1<64)||decide (4096<Aa x.1))
(some 180)
(cnd (!BB (Aa x.1) 64==0)
(some 180)
(some 0)))
def DS (x:Bk):Int :=
(cnd (decide (Aa x.1<64)||decide (4096<Aa x.1))
 180
(cnd (!BB (Aa x.1) 64==0)
 180
 0))
theorem gR (x:Bk):OQ x=some (DS x):=by unfold OQ DS;simp only[C0]
def P0 (x:Bk):Option (Int×Int) :=
 Ao (DS (x.1,())) λy =>
(cnd (!y==0)
(some (0,y))
(some (DZ IntKind.i64 (Aa x.1) 64,0)))
def C9 (x:Bk):Int×Int :=
 Ao (DS (x.1,())) λy =>
(cnd (!y==0)
(0,y)
(DZ IntKind.i64 (Aa x.1) 64,0))
theorem lK (x:Bk):P0 x=some (C9 x):=by unfold P0 C9;simp only[Ao,C0]
def NL (x:Bk):Option Bool :=
 Ao (C9 (x.1,())) λy =>
 Ao (DS (x.1,())) λy1 =>
 some (y1==0&&y.2==0&&decide (2<=y.1))
def GU (x:Bk):Bool :=
 Ao (C9 (x.1,())) λy =>
 Ao (DS (x.1,())) λy1 =>
 y1==0&&y.2==0&&decide (2<=y.1)
theorem cX (x:Bk):NL x=some (GU x):=by unfold NL GU;simp only[Ao]
def OR (x:Bk×Int):Option Int :=
 Ao (C9 (x.1.1,())) λy =>
(cnd (y.2==0&&(decide (x.2<0)||decide (y.1<=x.2)))
(some 2)
(some y.2))
def HG (x:Bk×Int):Int :=
 Ao (C9 (x.1.1,())) λy =>
(cnd (y.2==0&&(decide (x.2<0)||decide (y.1<=x.2)))
 2
 y.2)
theorem gS (x:Bk×Int):OR x=some (HG x):=by unfold OR HG;simp only[Ao,C0]
def O9 (x:Bk×Int):Option (List Int) :=
(cnd (decide (0<=wr .i64 (x.2*64))&&decide (wr .i64 (x.2*64)<=Aa x.1.1))
(cnd (decide (64<=Aa (A5 x.1.1 (wr .i64 (x.2*64)))))
(some (Ax (A5 x.1.1 (wr .i64 (x.2*64))) 64))
 none)
 none)
def Di (x:List Int):Option (List Int) :=
(cnd (true&&AA (0+Aa x) 1)
(some ([]++x))
 none)
def CZ (x:Bk×Int):Option (List Int×Int) :=
 Ao (HG ((x.1.1,()),x.2)) λy =>
(cnd (!y==0)
(some ([],y))
(Ad (O9 ((x.1.1,()),x.2)) none λc =>
 Ad (Di c) none λd =>
 some (d,0)))
def Iv (x:List Int):Option (Int×Int) :=
(cnd (decide (Aa x<1)||decide (8<Aa x))
(some (0,8))
(iter none (λc =>
 cnd (decide (c.2<Aa x))
(Ad (idx x c.2) dnn λd =>
 cnd (decide (0<=wr .i64 (8*c.2)))
(.next (Aq BinOp.or IntKind.u64 c.1 (A9 IntKind.u64 (wr .u64 d) (wr .i64 (8*c.2))),wr .i64 (c.2+1)))
 dnn)
(.done (some (c.1,0)))) Am ((0:Int),(0:Int))))
def CL (x:List Int):Option Int :=
 Ad (Iv x) none λc =>
 some c.1
def EZ (x:List Int):Option (Int×Int×Int) :=
 iter none (λc =>
 cnd (decide (c.2<Aa x))
(Ad (idx x c.2) dnn λd =>
 cnd (c.2==9&&decide (1<d))
(.done (some (0,(0,8))))
(cnd (decide (0<=wr .i64 (7*c.2)))
(cnd (decide (d<128))
(cnd (d==0&&decide (0<c.2))
(.done (some (0,(0,8))))
(.done (some (Aq BinOp.or IntKind.u64 c.1 (A9 IntKind.u64 (wr .u64 (Aq BinOp.and IntKind.u8 d 127)) (wr .i64 (7*c.2))),(wr .i64 (c.2+1),0)))))
(.next (Aq BinOp.or IntKind.u64 c.1 (A9 IntKind.u64 (wr .u64 (Aq BinOp.and IntKind.u8 d 127)) (wr .i64 (7*c.2))),wr .i64 (c.2+1))))
 dnn))
(.done (some (0,(0,8))))) Am ((0:Int),(0:Int))
def Ch (x:HF×Int):Option (HF×Int) :=
 Ad (EZ x.1.1.1) none λc =>
(cnd (!c.2.2==0||decide (wr .u64 x.2<c.1))
(some (((x.1.1.1,true),x.1.2),0))
(cnd (decide (0<=c.2.1)&&decide (c.2.1<=Aa x.1.1.1))
(some (((A5 x.1.1.1 c.2.1,x.1.1.2),x.1.2),wr .i64 c.1))
 none))
def DF (x:HF×Int):Option (HF×List Int) :=
 iter none (λc =>
 cnd (decide (c.2.1<x.2))
(Ad (Ch (c.2.2,1048576)) dnn λd =>
 cnd (true&&AA (Aa c.1+Aa (d.2::[])) 8)
(.next (c.1++d.2::[],(wr .i64 (c.2.1+1),d.1)))
 dnn)
(.done (some (c.2.2,c.1)))) Am ([],((0:Int),x.1))
def D5 (x:HF):Option (HF×List AJ) :=
 Ad (Ch (x,8)) none λo =>
 iter none (λc =>
 cnd (decide (c.2.1<o.2))
(Ad (Ch (c.2.2,1048576)) dnn λd =>
 Ad (Ch (d.1,1048576)) dnn λg =>
 Ad (Ch (g.1,8)) dnn λp =>
 Ad (DF p) dnn λh =>
 cnd (true&&AA (Aa c.1+Aa ((d.2,(g.2,h.2))::[])) 40)
(.next (c.1++(d.2,(g.2,h.2))::[],(wr .i64 (c.2.1+1),h.1)))
 dnn)
(.done (some (c.2.2,c.1)))) Am ([],((0:Int),o.1))
def DV (x:Int):Option (List Int) :=
 iter none (λc =>
 cnd (decide (127<c.1))
(cnd (true&&AA (Aa c.2+Aa (Aq BinOp.or IntKind.u8 (wr .u8 c.1) 128::[])) 1)
(.next (AH IntKind.u64 c.1 7,c.2++Aq BinOp.or IntKind.u8 (wr .u8 c.1) 128::[]))
 dnn)
(.done (cnd (true&&AA (Aa c.2+Aa (wr .u8 c.1::[])) 1)
(some (c.2++wr .u8 c.1::[]))
 none))) Am (x,[])
def Is (x:List AJ):Option (List Int×Int) :=
(cnd (decide (8<Aa x))
(some ([],4))
(iter none (λh =>
 cnd (decide (h.2<Aa (Aa x::[])))
(Ad (idx (Aa x::[]) h.2) dnn λd =>
 Ad (DV (wr .u64 d)) dnn λc =>
 cnd (true&&AA (Aa h.1+Aa c) 1)
(.next (h.1++c,wr .i64 (h.2+1)))
 dnn)
(.done (iter none (λd =>
 cnd (decide (d.1<Aa x))
(Ad (idx x d.1) dnn λc =>
 Ao (BX (c.1::[])) λy =>
 cnd (!y||!B0 (c.2.1,(0,wr .i64 (c.1-1)))||!B0 (Aa c.2.2,(1,8)))
(.done (some ([],170)))
(iter dnn (λo =>
 cnd (decide (o.2<Aa (c.1::c.2.1::Aa c.2.2::[])))
(Ad (idx (c.1::c.2.1::Aa c.2.2::[]) o.2) (.done dnn) λg =>
 Ad (DV (wr .u64 g)) (.done dnn) λp =>
 cnd (true&&AA (Aa o.1+Aa p) 1)
(.next (o.1++p,wr .i64 (o.2+1)))
(.done dnn))
(.done (iter dnn (λg =>
 cnd (decide (g.1<Aa c.2.2))
(Ad (idx c.2.2 g.1) (.done dnn) λp =>
 Ao (B0 (p,(0,1048576))) λy1 =>
 cnd (!y1)
(.done (.done (some ([],170))))
(iter (.done dnn) (λt =>
 cnd (decide (t.2<Aa (p::[])))
(Ad (idx (p::[]) t.2) (.done (.done dnn)) λE =>
 Ad (DV (wr .u64 E)) (.done (.done dnn)) λv =>
 cnd (true&&AA (Aa t.1+Aa v) 1)
(.next (t.1++v,wr .i64 (t.2+1)))
(.done (.done dnn)))
(.done (.next (wr .i64 (g.1+1),t.1)))) Am (g.2,(0:Int))))
(.done (.next (wr .i64 (d.1+1),g.2)))) Am ((0:Int),o.1)))) Am (d.2,(0:Int))))
(.done (some (d.2,0)))) Am ((0:Int),h.1)))) Am ([],(0:Int))))
def OS (x:List Int×List Int):Option Bool :=
 some (bytesOf x.1==bytesOf x.2)
def bytes_Equal (x:List Int×List Int):Bool :=
 bytesOf x.1==bytesOf x.2
theorem gU (x:List Int×List Int):OS x=some (bytes_Equal x):=by unfold OS bytes_Equal;rfl
def Ir (x:List Int):Option (List AJ×Int) :=
 Ad (D5 ((x,false),(0,([],([],([],([],([],(0,(0,(0,(0,(0,[]))))))))))))) none λc =>
 Ad (Is c.2) none λd =>
(cnd (c.1.1.2||!d.2==0||!bytes_Equal (d.1,x))
(some ([],8))
(some (c.2,0)))
def Iw (x:Int×Int):Option (List Int×Int) :=
(cnd (decide (x.2<1)||decide (8<x.2))
(some ([],2))
(cnd (decide (x.2<8))
(cnd (decide (0<=wr .i64 (8*x.2)))
(cnd (!AH IntKind.u64 x.1 (wr .i64 (8*x.2))==0)
(some ([],2))
(cnd (decide (0<=x.2)&&(decide (x.2<=x.2)&&B5 x.2 1))
(iter none (λc =>
 cnd (decide (c.1<Aa (Ay x.2 (0:Int))))
(cnd (decide (0<=wr .i64 (8*c.1)))
(Ad (idx c.2 c.1) dnn λ_ =>
 Ad (idx c.2 c.1) dnn λ_ =>
.next (wr .i64 (c.1+1),AB c.2 c.1 (wr .u8 (AH IntKind.u64 x.1 (wr .i64 (8*c.1))))))
 dnn)
(.done (some (c.2,0)))) Am ((0:Int),Ay x.2 (0:Int)))
 none))
 none)
(cnd (decide (0<=x.2)&&(decide (x.2<=x.2)&&B5 x.2 1))
(iter none (λc =>
 cnd (decide (c.1<Aa (Ay x.2 (0:Int))))
(cnd (decide (0<=wr .i64 (8*c.1)))
(Ad (idx c.2 c.1) dnn λ_ =>
 Ad (idx c.2 c.1) dnn λ_ =>
.next (wr .i64 (c.1+1),AB c.2 c.1 (wr .u8 (AH IntKind.u64 x.1 (wr .i64 (8*c.1))))))
 dnn)
(.done (some (c.2,0)))) Am ((0:Int),Ay x.2 (0:Int)))
 none)))
def GK (x:List (List Int)×List Int):Option (List Int):=match x with
 |(a::b::r,[])=>if Aa (a::b::r)<=1000000/\Aa (a::b::r).flatten<=1000000 then some (a::b::r).flatten else none
 |_=>none
def Cg (x:Dy×Int):Option (List (List Int)×Int) :=
(cnd (decide (x.2<1)||decide (32<x.2))
(some ([],2))
(cnd (decide (x.1.1<1)||decide (4611686018427387904<=x.1.1)||decide (3<x.1.2.1))
(some ([],190))
(Ad (Is x.1.2.2) none λc =>
 cnd (!c.2==0)
(some ([],c.2))
(Ad (DV (wr .u64 x.1.2.1)) none λd =>
 cnd (true&&AA (Aa d+Aa c.1) 1)
(Ad (DV (wr .u64 (Aa (d++c.1)))) none λg =>
 cnd (true&&AA (Aa g+Aa (d++c.1)) 1)
(cnd (decide (wr .i64 (48*x.2)<Aa (g++(d++c.1))))
(some ([],190))
(cnd (decide (0<=wr .i64 (wr .i64 (48*x.2)-Aa (g++(d++c.1))))&&(true&&AA (Aa (g++(d++c.1))+wr .i64 (wr .i64 (48*x.2)-Aa (g++(d++c.1)))) 1))
(Ad (Iw (wr .u64 x.1.1,8)) none λo =>
 iter none (λh =>
 cnd (decide (h.2<x.2))
(cnd (decide (0<=wr .i64 (h.2*48))&&decide (wr .i64 (h.2*48)<=Aa (g++(d++c.1)++Ay (wr .i64 (wr .i64 (48*x.2)-Aa (g++(d++c.1)))) 0)))
(cnd (decide (48<=Aa (A5 (g++(d++c.1)++Ay (wr .i64 (wr .i64 (48*x.2)-Aa (g++(d++c.1)))) 0) (wr .i64 (h.2*48)))))
(Ad (GK (o.1::Ax (A5 (g++(d++c.1)++Ay (wr .i64 (wr .i64 (48*x.2)-Aa (g++(d++c.1)))) 0) (wr .i64 (h.2*48))) 48::o.1::[],[])) dnn λp =>
 cnd (true&&AA (Aa h.1+Aa (p::[])) 24)
(.next (h.1++p::[],wr .i64 (h.2+1)))
 dnn)
 dnn)
 dnn)
(.done (some (h.1,0)))) Am ([],(0:Int)))
 none))
 none)
 none))))
def A8 (x:H6):Option H6 :=
 iter none (λd =>
 cnd (decide (d.2<Aa x.2.1))
(Ad (idx x.2.1 d.2) dnn λh =>
 cnd (decide (8<=Aa h))
(cnd (decide (48<=Aa (A5 h 8)))
(cnd (true&&AA (Aa d.1+Aa (Ax (A5 h 8) 48)) 1)
(.next (d.1++Ax (A5 h 8) 48,wr .i64 (d.2+1)))
 dnn)
 dnn)
 dnn)
(.done (Ad (idx x.2.1 0) none λh =>
 cnd (decide (8<=Aa h))
(Ad (CL (Ax h 8)) none λp =>
 Ad (EZ d.1) none λc =>
 cnd (!c.2.2==0||decide (c.1<1)||decide (wr .u64 (wr .i64 (Aa d.1-c.2.1))<c.1)||decide (4611686018427387904<=p))
(some x)
(cnd (decide (0<=c.2.1)&&decide (c.2.1<=Aa d.1))
(cnd (decide (0<=c.1)&&decide (c.1<=Aa d.1-c.2.1))
(Ad (EZ (EJ d.1 c.2.1 c.1)) none λg =>
 cnd (!g.2.2==0||decide (3<g.1))
(some x)
(cnd (decide (0<=g.2.1)&&decide (g.2.1<=c.1))
(Ad (Ir (EJ d.1 (c.2.1+g.2.1) (c.1-g.2.1))) none λt =>
 cnd (!t.2==0)
(some x)
(Ad (Cg ((wr .i64 p,(wr .u8 g.1,t.1)),Aa x.2.1)) none λv =>
 cnd (!v.2==0)
(some x)
(iter none (λo =>
 cnd (decide (o<Aa v.1))
(Ad (idx v.1 o) dnn λI =>
 Ad (idx x.2.1 o) dnn λE =>
 Ao (bytes_Equal (I,E)) λy =>
 cnd (!y)
(.done (some x))
(.next (wr .i64 (o+1))))
(.done (some ((wr .i64 p,(wr .u8 g.1,t.1)),(x.2.1,true))))) Am (0:Int))))
 none))
 none)
 none))
 none))) Am ([],(0:Int))
def E4 (x:Bk):Option (Dy×Int) :=
 Ao (C9 (x.1,())) λy =>
(cnd (!y.2==0)
(cnd (!y.2==0)
(some ((0,(0,[])),y.2))
 none)
(cnd (decide (y.1<2))
(some ((0,(0,[])),190))
(iter none (λc =>
 cnd (decide (c.1<DZ IntKind.i64 y.1 2))
(Ad (CZ ((x.1,()),wr .i64 (wr .i64 (0*DZ IntKind.i64 y.1 2)+c.1))) dnn λh =>
 cnd (true&&AA (Aa c.2.2.1+Aa (h.1::[])) 24)
(.next (wr .i64 (c.1+1),(c.2.1,(c.2.2.1++h.1::[],c.2.2.2))))
 dnn)
(.done (Ad (A8 c.2) none λh =>
 iter none (λd =>
 cnd (decide (d.1<DZ IntKind.i64 y.1 2))
(Ad (CZ ((x.1,()),wr .i64 (wr .i64 (1*DZ IntKind.i64 y.1 2)+d.1))) dnn λg =>
 cnd (true&&AA (Aa d.2.2.1+Aa (g.1::[])) 24)
(.next (wr .i64 (d.1+1),(d.2.1,(d.2.2.1++g.1::[],d.2.2.2))))
 dnn)
(.done (Ad (A8 d.2) none λg =>
 cnd (h.2.2&&!(g.2.2&&decide (h.1.1<g.1.1)))
(some (h.1,0))
(cnd g.2.2
(some (g.1,0))
(some ((0,(0,[])),190)))))) Am ((0:Int),(((0:Int),((0:Int),[])),([],false)))))) Am ((0:Int),(((0:Int),((0:Int),[])),([],false))))))
def FU (x:Al×Int×Int):Option Bool :=
 Ad (idx x.1.2.2.1 x.2.1) none λc =>
(cnd (decide (0<=x.2.2))
(some (Aq BinOp.and IntKind.u32 (AH IntKind.u32 c x.2.2) 1==1))
 none)
def GF (x:Al×Int×Int):Option Int :=
 Ad (idx x.1.2.2.2.1 x.2.1) none λc =>
 Ad (idx c x.2.2) none λd =>
 some d
def C3 (x:Al):Option Int :=
 iter none (λd =>
 cnd (decide (d.2<Aa x.2.1))
(iter dnn (λc =>
 cnd (decide (c.2<Aa x.2.1))
(Ad (FU (x,(d.2,c.2))) (.done dnn) λg =>
 cnd g
(Ad (GF (x,(d.2,c.2))) (.done dnn) λh =>
.next (B8 c.1 h,wr .i64 (c.2+1)))
(.next (c.1,wr .i64 (c.2+1))))
(.done (.next (c.1,wr .i64 (d.2+1))))) Am (d.1,(0:Int)))
(.done (some d.1))) Am ((0:Int),(0:Int))
def MX (x:Al):Option Bx :=
 Ad (C3 x) none λd =>
 iter none (λc =>
 cnd (decide (c.1<Aa x.2.1))
(cnd (true&&AA (Aa c.2.2.1+Aa ((1,(1,1048576))::[])) 24)
(.next (wr .i64 (c.1+1),((),(c.2.2.1++(1,(1,1048576))::[],c.2.2.2))))
 dnn)
(.done (some c.2.2))) Am ((0:Int),((),([],(d,false))))
def MV (x:Al):Option (Bx×Int) :=
 Ad (AD x) none λc =>
(cnd (!c==0)
(some (([],(0,false)),c))
(Ad (MX x) none λd =>
 some (d,0)))
def FJ (x:List Int):Option (List Int) :=
(cnd (true&&AA (0+Aa x) 1)
(some ([]++x))
 none)
def NI (x:Int):Option Ez :=
(cnd (x==2||x==3)
(some (2,(0,false)))
(some (1,(0,false))))
def Dk (x:Int):Ez :=
(cnd (x==2||x==3)
(2,(0,false))
(1,(0,false)))
theorem cS (x:Int):NI x=some (Dk x):=by unfold NI Dk;simp only[C0]
def Jc (x:Al×Bk):Option Be :=
 Ad (E4 (x.2.1,())) none λc =>
 Ad (MV x.1) none λd =>
 Ad (FJ x.2.1) none λg =>
 Ao (Dk c.1.2.1) λy =>
(cnd (decide (0<=Aa x.1.2.2.2.2.2.1)&&(decide (Aa x.1.2.2.2.2.2.1<=Aa x.1.2.2.2.2.2.1)&&B5 (Aa x.1.2.2.2.2.2.1) 16))
(cnd (decide (0<=Aa x.1.2.2.2.2.2.1)&&(decide (Aa x.1.2.2.2.2.2.1<=Aa x.1.2.2.2.2.2.1)&&B5 (Aa x.1.2.2.2.2.2.1) 40))
(cnd (decide (0<=Aa x.1.2.2.2.2.2.1)&&(decide (Aa x.1.2.2.2.2.2.1<=Aa x.1.2.2.2.2.2.1)&&B5 (Aa x.1.2.2.2.2.2.1) 40))
(cnd (decide (0<=Aa x.1.2.2.2.2.1)&&(decide (Aa x.1.2.2.2.2.1<=Aa x.1.2.2.2.2.1)&&B5 (Aa x.1.2.2.2.2.1) 8))
(cnd (decide (0<=Aa x.1.2.2.2.2.1)&&(decide (Aa x.1.2.2.2.2.1<=Aa x.1.2.2.2.2.1)&&B5 (Aa x.1.2.2.2.2.1) 8))
(cnd (decide (0<=Aa x.1.2.2.2.2.1)&&(decide (Aa x.1.2.2.2.2.1<=Aa x.1.2.2.2.2.1)&&B5 (Aa x.1.2.2.2.2.1) 8))
(some ((g,()),(d.1,(y,((0,0),((false,(0,0)),([],((0,(0,[])),(1048576,(Ay (Aa x.1.2.2.2.2.2.1) (false,(false,0)),(Ay (Aa x.1.2.2.2.2.2.1) (false,(0,(0,(false,0)))),(Ay (Aa x.1.2.2.2.2.2.1) (false,(0,(0,(0,0)))),(0,(0,(0,(Ay (Aa x.1.2.2.2.2.1) 0,(Ay (Aa x.1.2.2.2.2.1) 0,(Ay (Aa x.1.2.2.2.2.1) 0,0))))))))))))))))))
 none)
 none)
 none)
 none)
 none)
 none)
def G9 (x:Al×Bk):Option (Be×Int) :=
 Ad (AD x.1) none λc =>
(cnd (!c==0)
(some ((([],()),(([],(0,false)),((0,(0,false)),((0,0),((false,(0,0)),([],((0,(0,[])),(0,([],([],([],(0,(0,(0,([],([],([],0))))))))))))))))),c))
(Ao (GU (x.2.1,())) λy =>
 cnd (!y)
(some ((([],()),(([],(0,false)),((0,(0,false)),((0,0),((false,(0,0)),([],((0,(0,[])),(0,([],([],([],(0,(0,(0,([],([],([],0))))))))))))))))),8))
(Ad (Jc (x.1,(x.2.1,()))) none λd =>
 some (((d.1.1,()),d.2),0))))
def KP (x:AU×List Bk):Option (Bm×Int) :=
 Ad (KK x.1) none λg =>
(cnd (!g.2==0)
(some (([],(([],([],([],([],[])))),([],([],([],([],([],0))))))),g.2))
(cnd (!Aa x.2==Aa x.1.1)
(some (([],(([],([],([],([],[])))),([],([],([],([],([],0))))))),4))
(cnd (decide (0<=Aa x.1.1)&&(decide (Aa x.1.1<=Aa x.1.1)&&B5 (Aa x.1.1) 24))
(cnd (decide (0<=Aa x.1.1)&&(decide (Aa x.1.1<=Aa x.1.1)&&B5 (Aa x.1.1) 24))
(cnd (decide (0<=Aa x.1.1)&&(decide (Aa x.1.1<=Aa x.1.1)&&B5 (Aa x.1.1) 16))
(cnd (decide (0<=Aa x.1.1)&&(decide (Aa x.1.1<=Aa x.1.1)&&B5 (Aa x.1.1) 24))
(cnd (decide (0<=Aa x.1.1)&&(decide (Aa x.1.1<=Aa x.1.1)&&B5 (Aa x.1.1) 4))
(iter none (λc =>
 cnd (decide (c.1<Aa x.1.1))
(Ad (idx x.1.1 c.1) dnn λh =>
 Ad (idx x.2 c.1) dnn λo =>
 Ad (G9 (h,(o.1,()))) dnn λd =>
 cnd (!d.2==0)
(.done (some (([],(([],([],([],([],[])))),([],([],([],([],([],0))))))),d.2)))
(cnd (true&&AA (Aa c.2.2.1+Aa (((d.1.1.1,()),d.1.2)::[])) 368)
(.next (wr .i64 (c.1+1),(c.2.1,(c.2.2.1++((d.1.1.1,()),d.1.2)::[],c.2.2.2))))
 dnn))
(.done (some (c.2.2,0)))) Am ((0:Int),((([],(([],([],([],([],[])))),([],([],([],([],([],(0:Int)))))))):Bm),([],(g.1,(Ay (Aa x.1.1) [],(Ay (Aa x.1.1) [],(Ay (Aa x.1.1) (false,((0:Int),(0:Int))),(Ay (Aa x.1.1) [],(Ay (Aa x.1.1) (0:Int),(0:Int)))))))))))
 none)
 none)
 none)
 none)
 none)))
def BS (x:List (List Int)):Option (List Int) :=
 iter none (λd =>
 cnd (decide (d.2<Aa x))
(Ad (idx x d.2) dnn λc =>
 cnd (decide (wr .i64 (d.1+Aa c)<0))
 dnn
(.next (wr .i64 (d.1+Aa c),wr .i64 (d.2+1))))
(.done (cnd (decide (d.1<0))
 none
(cnd (decide (0<wr .i64 (d.1-0)))
(cnd (decide (0<=wr .i64 (d.1-0))&&AA (wr .i64 (d.1-0)) 1)
(cnd (decide (0<=Aa (Ay (wr .i64 (d.1-0)) (0:Int))))
(iter none (λc =>
 cnd (decide (c.1<Aa x))
(Ad (idx x c.1) dnn λg =>
 cnd (true&&AA (Aa c.2+Aa g) 1)
(.next (wr .i64 (c.1+1),c.2++g))
 dnn)
(.done (some c.2))) Am ((0:Int),Ax (Ay (wr .i64 (d.1-(0:Int))) (0:Int)) (0:Int)))
 none)
 none)
(iter none (λc =>
 cnd (decide (c.1<Aa x))
(Ad (idx x c.1) dnn λg =>
 cnd (true&&AA (Aa c.2+Aa g) 1)
(.next (wr .i64 (c.1+1),c.2++g))
 dnn)
(.done (some c.2))) Am ((0:Int),[])))))) Am ((0:Int),(0:Int))
def IY (x:AU×EA):Option Int :=
(cnd (!Aa x.2.1==Aa x.1.1||!Aa x.2.2.1==Aa x.1.1||!Aa x.2.2.2==Aa x.1.1)
(some 4)
(Ad (BS (x.2.2.1::x.2.2.2::[])) none λd =>
 iter none (λc =>
 cnd (decide (c<Aa d))
(Ad (idx d c) dnn λg =>
 cnd (decide (4<g))
(.done (some 2))
(.next (wr .i64 (c+1))))
(.done (some 0))) Am (0:Int)))
def G4 (x:List Be):Option (List Be) :=
(cnd (true&&AA (0+Aa x) 368)
(some ([]++x))
 none)
def E5 (x:List (List Int)):Option (List (List Int)) :=
(cnd (true&&AA (0+Aa x) 24)
(some ([]++x))
 none)
def Ig (x:List DJ):Option (List DJ) :=
(cnd (true&&AA (0+Aa x) 16)
(some ([]++x))
 none)
def Jn (x:List Int):Option (List Int) :=
(cnd (true&&AA (0+Aa x) 4)
(some ([]++x))
 none)
def Lz (x:Bm):Option Bm :=
 Ad (G4 x.1) none λc =>
 Ad (E5 x.2.2.1) none λd =>
 Ad (E5 x.2.2.2.1) none λg =>
 Ad (Ig x.2.2.2.2.1) none λh =>
 Ad (E5 x.2.2.2.2.2.1) none λo =>
 Ad (Jn x.2.2.2.2.2.2.1) none λp =>
 some (c,(x.2.1,(d,(g,(h,(o,(p,x.2.2.2.2.2.2.2)))))))
def Fe (x:Af1×Int):Option (List Int) :=
 Ad (idx x.1.1 x.2) none λc =>
 Ad (idx x.1.2 c.2) none λd =>
 some d
def JL (x:Int):Bool :=
 decide (x<0)||decide (1048576<x)
def Sp (x:Int):Option Bool:=some (JL x)
theorem cB (x:Int):Sp x=some (JL x):=rfl
def JM (x:List Int):Option Bool :=
 iter none (λc =>
 cnd (decide (c<Aa x))
(Ad (idx x c) dnn λd =>
 Ao (JL d) λy =>
 cnd y
(.done (some !decide (0<=c)))
(.next (wr .i64 (c+1))))
(.done (some true))) Am (0:Int)
def Mu (x:AU×Int):Option (Int×Int) :=
 Ad (FO x.1) none λc =>
(cnd (!c.2==0)
(some (0,c.2))
(cnd (decide (x.2<0))
(some (0,2))
(cnd (decide (65536<x.2))
(some (0,2))
(Ad (idx c.1 (Bb (DZ IntKind.i64 (wr .i64 (x.2*Aa c.1)) 65536) (wr .i64 (Aa c.1-1)))) none λd =>
 some (d,0)))))
def Es (x:Df×Int×Int):Option (Df×Int) :=
 Ad (JM (x.1.1::x.1.2.1::x.1.2.2::x.2.1::x.2.2::[])) none λc =>
(cnd (!c||x.2.2==0)
(some ((0,(0,0)),2))
(cnd (x.2.1==x.1.1)
(some ((x.1.1,(x.1.1,0)),0))
(cnd (x.2.1==x.1.2.1&&decide (0<x.1.2.2))
(cnd (decide (x.2.2<=wr .i64 (x.1.2.2+1)))
(some ((x.2.1,(x.2.1,0)),0))
(some ((x.1.1,(x.2.1,wr .i64 (x.1.2.2+1))),0)))
(cnd (decide (x.2.2<=1))
(some ((x.2.1,(x.2.1,0)),0))
(some ((x.1.1,(x.2.1,1)),0))))))
def Mt (x:AU×Df×Int):Option (Df×Int) :=
 Ad (FO x.1) none λg =>
(cnd (!g.2==0)
(some ((0,(0,0)),g.2))
(Ad (JM (x.2.1.1::x.2.1.2.1::x.2.1.2.2::[])) none λh =>
 cnd (!h)
(some ((0,(0,0)),2))
(Ad (Bd (g.1,x.2.1.1)) none λo =>
 cnd (!o)
(some ((0,(0,0)),2))
(Ad (Mu (x.1,x.2.2)) none λd =>
 cnd (!d.2==0)
(some ((0,(0,0)),d.2))
(cnd (decide (x.2.1.1<d.1))
(Ad (Es (x.2.1,(wr .i64 (x.2.1.1+x.1.2.2.2.2.2),3))) none λc =>
 some c)
(cnd (decide (d.1<x.2.1.1))
(Ad (Es (x.2.1,(wr .i64 (x.2.1.1-x.1.2.2.2.2.2),3))) none λc =>
 some c)
(Ad (Es (x.2.1,(x.2.1.1,3))) none λc =>
 some c)))))))
def Md (x:Fg):Bool :=
 decide (0<=x.2)&&decide (x.2<=1048576)
def gD (x:Fg):Option Bool:=some (Md x)
theorem Ach (x:Fg):gD x=some (Md x):=rfl
def Pt (x:AU×Int×Fg×Int×Int):Option (Fg×Int) :=
 Ad (FO x.1) none λc =>
(cnd (!c.2==0)
(some ((false,0),c.2))
(cnd (decide (x.2.1<0))
(some ((false,0),2))
(cnd (decide (Aa x.1.2.2.1<=x.2.1))
(some ((false,0),2))
(Ao (Md x.2.2.1) λy =>
 cnd (!y)
(some ((false,0),2))
(Ad (Bd (c.1,x.2.2.2.1)) none λd =>
 cnd (!d)
(some ((false,0),2))
(Ad (Bd (c.1,x.2.2.2.2)) none λg =>
 cnd (!g)
(some ((false,0),2))
(cnd (decide (wr .i64 (B8 x.2.2.2.1 x.2.2.2.2-Bb x.2.2.2.1 x.2.2.2.2)<=x.1.2.2.2.2.2)==x.2.2.1.1)
(some ((decide (wr .i64 (B8 x.2.2.2.1 x.2.2.2.2-Bb x.2.2.2.1 x.2.2.2.2)<=x.1.2.2.2.2.2),0),0))
(Ad (idx x.1.2.2.1 x.2.1) none λh =>
 cnd (decide (h.2.2.1<=wr .i64 (x.2.2.1.2+1)))
(some ((decide (wr .i64 (B8 x.2.2.2.1 x.2.2.2.2-Bb x.2.2.2.1 x.2.2.2.2)<=x.1.2.2.2.2.2),0),0))
(some ((x.2.2.1.1,wr .i64 (x.2.2.1.2+1)),0))))))))))
def MN (x:AU×Int):Option Int :=
 Ad (Du x.1) none λc =>
(cnd (!c==0)
(some c)
(cnd (decide (x.2<0)||decide (Aa x.1.2.2.1<=x.2))
(some 2)
(some 0)))
def KL (x:AU×Int×Df):Option Int :=
 Ad (MN (x.1,x.2.1)) none λc =>
(cnd (!c==0)
(some c)
(cnd (decide (x.2.2.1<0))
(some 2)
(Ad (idx x.1.2.2.1 x.2.1) none λd =>
 cnd (decide (Aa d.2.2.2<=x.2.2.1)||decide (x.2.2.2.1<0)||decide (1048576<x.2.2.2.1)||decide (x.2.2.2.2<0)||decide (1048576<x.2.2.2.2))
(some 2)
(some 0))))
def Lt (x:AU×Int×List Int):Option (Int×Int) :=
 Ad (EG x.2.2) none λd =>
(cnd (!d.2.2==0)
(some (0,d.2.2))
(cnd (Aa (Ay 8 (0:Int))==8)
(Ad (idx x.1.2.2.1 x.2.1) none λc =>
 cnd (Aa (CR (Ay 8 0) 0 8 x.2.2)==8&&(decide (0<=Aa c.2.2.2)&&decide (Aa c.2.2.2<=8)))
(Ad (EG (EJ (CR (Ay 8 0) 0 8 x.2.2) 0 (Aa c.2.2.2))) none λg =>
 some (g.1,g.2.2))
 none)
 none))
def Ls (x:AU×Int×Df×List Int):Option (Df×Int) :=
 Ad (KL (x.1,(x.2.1,x.2.2.1))) none λd =>
(cnd (!d==0)
(some ((0,(0,0)),d))
(Ad (Lt (x.1,(x.2.1,x.2.2.2))) none λc =>
 cnd (!c.2==0)
(some ((0,(0,0)),c.2))
(Ad (idx x.1.2.2.1 x.2.1) none λg =>
 Ad (Es (x.2.2.1,(c.1,g.2.2.1))) none λh =>
 some h)))
def NT (x:Fg):Option Bool :=
 Ao (Md x) λy =>
 some !y
def Kr (x:Fg):Bool :=
 Ao (Md x) λy =>
 !y
theorem dV (x:Fg):NT x=some (Kr x):=by unfold NT Kr;simp only[Ao]
def Ks (x:AU×List Fg):Option Int :=
 Ad (Du x.1) none λd =>
(cnd (!d==0)
(some d)
(cnd (!Aa x.2==Aa x.1.2.2.1)
(some 4)
(iter none (λc =>
 cnd (decide (c<Aa x.2))
(Ad (idx x.2 c) dnn λg =>
 Ao (Kr g) λy =>
 cnd y
(.done (cnd (decide (0<=c))
(some 2)
(some 0)))
(.next (wr .i64 (c+1))))
(.done (some 0))) Am (0:Int))))
def Ku (x:AU×List Int):Option Int :=
 Ad (FO x.1) none λd =>
(cnd (!Aa x.2==Aa x.1.2.1)
(some 4)
(iter none (λc =>
 cnd (decide (c<Aa x.2))
(Ad (idx x.2 c) dnn λg =>
 Ad (Bd (d.1,g)) dnn λh =>
 cnd (!h)
(.done (cnd (decide (0<=c))
(some 2)
(some 0)))
(.next (wr .i64 (c+1))))
(.done (some 0))) Am (0:Int)))
def Kv (x:AU×List Fg):Option (List Int) :=
(cnd (decide (0<=Aa x.1.2.1)&&(decide (Aa x.1.2.1<=Aa x.1.2.1)&&B5 (Aa x.1.2.1) 8))
(iter none (λg =>
 cnd (decide (g.1<Aa (Ay (Aa x.1.2.1) (0:Int))))
(Ad (idx g.2 g.1) dnn λ_ =>
 Ad (idx g.2 g.1) dnn λ_ =>
.next (wr .i64 (g.1+1),AB g.2 g.1 g.1))
(.done (iter none (λv =>
 iter dnn (λd =>
 cnd (decide (d.1<Aa x.1.2.2.1))
(Ad (idx x.1.2.2.1 d.1) (.done dnn) λh =>
 Ad (idx d.2 h.1) (.done dnn) λ_ =>
 Ad (idx d.2 h.1) (.done dnn) λo =>
 Ad (idx d.2 h.2.1) (.done dnn) λ_ =>
 Ad (idx d.2 h.2.1) (.done dnn) λp =>
 Ad (idx x.2 d.1) (.done dnn) λy =>
 cnd (y.1&&!o==p)
(iter (.done dnn) (λc =>
 cnd (decide (c.1<Aa d.2))
(Ad (idx c.2 c.1) (.done (.done dnn)) λ_ =>
 Ad (idx c.2 c.1) (.done (.done dnn)) λt =>
 cnd (t==B8 o p)
(Ad (idx c.2 c.1) (.done (.done dnn)) λ_ =>
 Ad (idx c.2 c.1) (.done (.done dnn)) λ_ =>
.next (wr .i64 (c.1+1),AB c.2 c.1 (Bb o p)))
(.next (wr .i64 (c.1+1),c.2)))
(.done (.done (.next c.2)))) Am ((0:Int),d.2))
(.next (wr .i64 (d.1+1),d.2)))
(.done (.done (some d.2)))) Am ((0:Int),v)) Am g.2))) Am ((0:Int),Ay (Aa x.1.2.1) (0:Int)))
 none)
def Ek (x:List Int):Option (List Int) :=
(cnd (true&&AA (0+Aa x) 8)
(some ([]++x))
 none)
def Kt (x:AU×List Fg×List Int):Option (List Int) :=
 Ad (Kv (x.1,x.2.1)) none λg =>
 Ad (Ek x.2.2) none λh =>
 iter none (λd =>
 cnd (decide (d.1<Aa h))
(iter dnn (λc =>
 cnd (decide (c.1<Aa x.2.2))
(Ad (idx x.2.2 c.1) (.done dnn) λo =>
 Ad (idx g d.1) (.done dnn) λp =>
 Ad (idx g c.1) (.done dnn) λt =>
 cnd (p==t)
(Ad (idx c.2 d.1) (.done dnn) λ_ =>
 Ad (idx c.2 d.1) (.done dnn) λv =>
 Ad (idx c.2 d.1) (.done dnn) λ_ =>
 Ad (idx c.2 d.1) (.done dnn) λ_ =>
.next (wr .i64 (c.1+1),AB c.2 d.1 (B8 v o)))
(.next (wr .i64 (c.1+1),c.2)))
(.done (.next (wr .i64 (d.1+1),c.2)))) Am ((0:Int),d.2))
(.done (some d.2))) Am ((0:Int),h)
def Nc (x:AU×List Fg×List Int):Option (List Int×Int) :=
 Ad (Ks (x.1,x.2.1)) none λc =>
(cnd (!c==0)
(some ([],c))
(Ad (Ku (x.1,x.2.2)) none λd =>
 cnd (!d==0)
(some ([],d))
(Ad (Kt x) none λg =>
 some (g,0))))
def LH (x:AU×List Fg×List Df×List Int):Option (List Int×Int) :=
 Ad (Ks (x.1,x.2.1)) none λX =>
(cnd (!X==0)
(some ([],X))
(cnd (!Aa x.2.2.1==Aa x.1.2.2.1)
(some ([],4))
(iter none (λy =>
 cnd (decide (y<Aa x.2.2.1))
(Ad (idx x.2.2.1 y) dnn λp =>
 cnd (decide (p.1<0))
(.done (some ([],2)))
(Ad (idx x.1.2.2.1 y) dnn λE =>
 cnd (decide (Aa E.2.2.2<=p.1))
(.done (some ([],2)))
(.next (wr .i64 (y+1)))))
(.done (Ad (Ku (x.1,x.2.2.2)) none λp =>
 cnd (!p==0)
(some ([],p))
(Ad (Kt (x.1,(x.2.1,x.2.2.2))) none λE =>
 cnd (decide (0<=Aa x.1.2.1)&&(decide (Aa x.1.2.1<=Aa x.1.2.1)&&B5 (Aa x.1.2.1) 8))
(Ad (Kv (x.1,x.2.1)) none λY =>
 iter none (λh =>
 cnd (decide (h.1<Aa Y))
(Ad (idx Y h.1) dnn λt =>
.next (wr .i64 (h.1+1),(h.2.1,Jw (Ty.int IntKind.i64) h.2.2 h.1 (t==h.1))))
(.done (iter none (λt =>
 cnd t.1
(iter dnn (λc =>
 cnd (decide (c.1<Aa x.1.2.2.1))
(Ad (idx x.1.2.2.1 c.1) (.done dnn) λd =>
 Ad (idx x.2.1 c.1) (.done dnn) λI =>
 cnd (!I.1||KY (Ty.int IntKind.i64) c.2.2.2 d.1==KY (Ty.int IntKind.i64) c.2.2.2 d.2.1)
(.next (wr .i64 (c.1+1),c.2))
(Ad (idx x.2.2.1 c.1) (.done dnn) λJ =>
 Ad (idx d.2.2.2 J.1) (.done dnn) λv =>
 Ad (idx E d.1) (.done dnn) λg =>
 cnd (KY (Ty.int IntKind.i64) c.2.2.2 d.1)
(Ad (idx c.2.2.1 d.1) (.done dnn) λ_ =>
 Ad (idx c.2.2.1 d.1) (.done dnn) λo =>
 cnd (!g==0)
(Ad (idx c.2.2.1 d.2.1) (.done dnn) λ_ =>
 Ad (idx c.2.2.1 d.2.1) (.done dnn) λ_ =>
.next (wr .i64 (c.1+1),(true,(AB c.2.2.1 d.2.1 (BB (wr .i64 (o+v)) g),Jw (Ty.int IntKind.i64) (Jw (Ty.int IntKind.i64) c.2.2.2 d.1 true) d.2.1 true))))
(.done dnn))
(Ad (idx c.2.2.1 d.2.1) (.done dnn) λ_ =>
 Ad (idx c.2.2.1 d.2.1) (.done dnn) λo =>
 cnd (!g==0)
(cnd (!g==0)
(Ad (idx c.2.2.1 d.1) (.done dnn) λ_ =>
 Ad (idx c.2.2.1 d.1) (.done dnn) λ_ =>
.next (wr .i64 (c.1+1),(true,(AB c.2.2.1 d.1 (BB (wr .i64 (wr .i64 (o-BB v g)+g)) g),Jw (Ty.int IntKind.i64) (Jw (Ty.int IntKind.i64) c.2.2.2 d.1 true) d.2.1 true))))
(.done dnn))
(.done dnn))))
(.done (.next c.2))) Am ((0:Int),(false,t.2)))
(.done (some (t.2.1,0)))) Am (true,h.2)))) Am ((0:Int),(Ay (Aa x.1.2.1) (0:Int),[])))
 none)))) Am (0:Int))))
def Q5 (x:AU×Int):Option (Int×Int) :=
 Ad (Du x.1) none λd =>
(cnd (!d==0)
(some (0,d))
(iter none (λc =>
 cnd (decide (c<Aa x.1.2.1))
(Ad (idx x.1.2.1 c) dnn λg =>
 Ad (Bd (g.1,x.2)) dnn λh =>
 cnd h
(.done (cnd (decide (c<0))
(some (0,2))
(some (c,0))))
(.next (wr .i64 (c+1))))
(.done (some (0,2)))) Am (0:Int)))
def Cf (x:Al):Int :=
 B8 1 (Aa x.2.2.2.2.2.2.2.2.2.2.2)
def V8 (x:Al):Option Int:=some (Cf x)
theorem pZ (x:Al):V8 x=some (Cf x):=rfl
def Gl (x:Int):Bool :=
 decide (0<=x)&&decide (x<=1048576)
def Wa (x:Int):Option Bool:=some (Gl x)
theorem p9 (x:Int):Wa x=some (Gl x):=rfl
def It (x:Int):Bool :=
 decide (x<0)||decide (65536<x)
def QC (x:Int):Option Bool:=some (It x)
theorem Yv (x:Int):QC x=some (It x):=rfl
def KR (x:List Int):Option Int :=
(cnd (decide (1024<Aa x))
(some 4)
(iter none (λc =>
 cnd (decide (c<Aa x))
(Ad (idx x c) dnn λd =>
 Ao (It d) λy =>
 cnd y
(.done (cnd (decide (0<=c))
(some 2)
(some 0)))
(.next (wr .i64 (c+1))))
(.done (some 0))) Am (0:Int)))
def HQ (x:Al×Int):Option Int :=
(cnd (!Aa x.1.2.2.2.2.1==0)
(some (BB (wr .i64 (x.2+1)) (Aa x.1.2.2.2.2.1)))
 none)
def M1 (x:Al×Int×Int):Option (Int×Int) :=
 CT (λc =>
 cnd (!c==0)
(some (0,c))
(Ad (Kj x) none λd =>
 some (d,0))) λk =>
 Ad (AD x.1) none λc =>
(cnd (!c==0)
(k c)
(iter none (λd =>
 cnd (decide (d<Aa (x.2.1::x.2.2::[])))
(Ad (idx (x.2.1::x.2.2::[]) d) dnn λg =>
 Ao (B0 (g,(0,wr .i64 (Aa x.1.2.2.2.2.1-1)))) λy =>
 cnd (!y)
(.done (k 2))
(.next (wr .i64 (d+1))))
(.done (k 0))) Am (0:Int)))
def Io (x:Al×Int):Option Int :=
 Ad (HQ x) none λc =>
 Ad (M1 (x.1,(x.2,c))) none λd =>
 some d.1
def EY (x:Al×AJ):Option (AJ×Int) :=
 Ad (AD x.1) none λp =>
(cnd (!p==0)
(some ((0,(0,[])),p))
(cnd (!Bb (B8 x.2.1 x.1.2.2.2.2.2.2.2.2.2.1) x.1.2.2.2.2.2.2.2.2.2.2.1==0)
(cnd (!Bb (B8 x.2.1 x.1.2.2.2.2.2.2.2.2.2.1) x.1.2.2.2.2.2.2.2.2.2.2.1==0)
(cnd (decide (0<=Aa x.1.2.2.2.2.1)&&(decide (Aa x.1.2.2.2.2.1<=Aa x.1.2.2.2.2.1)&&B5 (Aa x.1.2.2.2.2.1) 8))
(iter none (λc =>
 cnd (decide (c.1<Aa x.1.2.2.2.2.1))
(Ad (idx x.1.2.2.2.2.1 c.1) dnn λd =>
 Ad (Io (x.1,c.1)) dnn λo =>
 CT (λg =>
 CT (λh =>
 Ad (idx h.2.2 c.1) dnn λ_ =>
 Ad (idx h.2.2 c.1) dnn λt =>
 cnd (true&&AA (Aa h.2.1.2.1+Aa (wr .i64 (d.2.1+o)::[])) 8)
(.next (wr .i64 (c.1+1),(wr .i64 (c.2.1-wr .i64 (d.2.1+o)),(wr .i64 (c.2.2.1+t),(h.1,((h.2.1.1,(h.2.1.2.1++wr .i64 (d.2.1+o)::[],())),h.2.2))))))
 dnn) λk =>
 Ad (idx g.2 c.1) dnn λ_ =>
 Ad (idx g.2 c.1) dnn λv =>
 cnd (decide (0<v)&&decide (c.2.2.2.1<0))
(k (c.1,((g.1.1,(g.1.2.1,())),g.2)))
(k (c.2.2.2.1,((g.1.1,(g.1.2.1,())),g.2)))) λk =>
 cnd (decide (c.1<Aa x.2.2.2))
(Ad (idx x.2.2.2 c.1) dnn λg =>
 Ad (idx c.2.2.2.2.2 c.1) dnn λ_ =>
 Ad (idx c.2.2.2.2.2 c.1) dnn λ_ =>
 k ((c.2.2.2.2.1.1,(c.2.2.2.2.1.2.1,())),AB c.2.2.2.2.2 c.1 (B8 0 (wr .i64 (Bb (B8 0 g) x.1.2.2.2.2.2.2.2.2.2.2.1-wr .i64 (d.2.1+o))))))
(k ((c.2.2.2.2.1.1,(c.2.2.2.2.1.2.1,())),c.2.2.2.2.2)))
(.done (iter none (λd =>
 cnd (decide (d.1<Aa c.2.2.2.2.1.2.1))
(cnd (decide (0<c.2.2.1))
(Ad (idx c.2.2.2.2.2 d.1) dnn λo =>
 cnd (!c.2.2.1==0)
(Ad (idx d.2.2.2.1 d.1) dnn λ_ =>
 Ad (idx d.2.2.2.1 d.1) dnn λh =>
 Ad (idx d.2.2.2.1 d.1) dnn λ_ =>
 Ad (idx d.2.2.2.1 d.1) dnn λ_ =>
.next (wr .i64 (d.1+1),(wr .i64 (d.2.1-DZ IntKind.i64 (wr .i64 (c.2.1*o)) c.2.2.1),(d.2.2.1,(AB d.2.2.2.1 d.1 (wr .i64 (h+DZ IntKind.i64 (wr .i64 (c.2.1*o)) c.2.2.1)),())))))
 dnn)
(.next (wr .i64 (d.1+1),(d.2.1,(d.2.2.1,(d.2.2.2.1,()))))))
(.done (Ad (idx d.2.2.2.1 (B8 0 c.2.2.2.1)) none λ_ =>
 Ad (idx d.2.2.2.1 (B8 0 c.2.2.2.1)) none λg =>
 Ad (idx d.2.2.2.1 (B8 0 c.2.2.2.1)) none λ_ =>
 Ad (idx d.2.2.2.1 (B8 0 c.2.2.2.1)) none λ_ =>
 some ((d.2.2.1.1,(d.2.2.1.2,AB d.2.2.2.1 (B8 0 c.2.2.2.1) (wr .i64 (g+d.2.1)))),0)))) Am ((0:Int),(c.2.1,(c.2.2.2.2.1.1,(c.2.2.2.2.1.2.1,()))))))) Am ((0:Int),(Bb (B8 x.2.1 x.1.2.2.2.2.2.2.2.2.2.1) x.1.2.2.2.2.2.2.2.2.2.2.1,((0:Int),(-1,(((Bb (B8 x.2.1 x.1.2.2.2.2.2.2.2.2.2.1) x.1.2.2.2.2.2.2.2.2.2.2.1,BB (wr .i64 (BB x.2.2.1 (Bb (B8 x.2.1 x.1.2.2.2.2.2.2.2.2.2.1) x.1.2.2.2.2.2.2.2.2.2.2.1)+Bb (B8 x.2.1 x.1.2.2.2.2.2.2.2.2.2.1) x.1.2.2.2.2.2.2.2.2.2.2.1)) (Bb (B8 x.2.1 x.1.2.2.2.2.2.2.2.2.2.1) x.1.2.2.2.2.2.2.2.2.2.2.1)),([],())),Ay (Aa x.1.2.2.2.2.1) (0:Int)))))))
 none)
 none)
 none))
def Hc (x:Al×Int×Int):Option AJ :=
(cnd (decide (0<Aa x.1.2.2.2.2.2.2.2.2.2.2.2))
(Ad (idx x.1.2.2.2.2.2.2.2.2.2.2.2 x.2.1) none λd =>
 iter none (λc =>
 cnd (decide (c.1<Aa d.2.2))
(Ad (idx d.2.2 c.1) dnn λg =>
 cnd (!d.1==0)
(cnd (true&&AA (Aa c.2.2.1+Aa (DZ IntKind.i64 (wr .i64 (g*x.2.2)) d.1::[])) 8)
(.next (wr .i64 (c.1+1),((c.2.1.1,(c.2.1.2.1,())),(c.2.2.1++DZ IntKind.i64 (wr .i64 (g*x.2.2)) d.1::[],()))))
 dnn)
 dnn)
(.done (Ad (EY (x.1,(c.2.1.1,(c.2.1.2.1,c.2.2.1)))) none λg =>
 some g.1))) Am ((0:Int),((x.2.2,(d.2.1,())),([],()))))
(Ad (EY (x.1,(x.2.2,(0,[])))) none λd =>
 some d.1))
def Jf (x:AJ×AJ×List Int):Option Int :=
 iter none (λc =>
 cnd (decide (c.2<Aa x.2.1.2.2))
(Ad (idx x.2.1.2.2 c.2) dnn λd =>
 cnd (decide (c.2<Aa x.2.2))
(Ad (idx x.2.2 c.2) dnn λg =>
 Ad (idx x.1.2.2 c.2) dnn λh =>
 cnd (!d==0)
(.next (B8 c.1 (DZ IntKind.i64 (wr .i64 (g*h)) d),wr .i64 (c.2+1)))
 dnn)
(.next (c.1,wr .i64 (c.2+1))))
(.done (some c.1))) Am ((0:Int),(0:Int))
def NS (x:QL×QL):Option Int :=
(cnd (decide (x.1.2<x.2.2))
(some (-1))
(cnd (decide (x.2.2<x.1.2))
(some 1)
(some 0)))
def Kl (x:QL×QL):Int :=
(cnd (decide (x.1.2<x.2.2))
(-1)
(cnd (decide (x.2.2<x.1.2))
 1
 0))
theorem dN (x:QL×QL):NS x=some (Kl x):=by unfold NS Kl;simp only[C0]
def M7 (x:Al×Df×Int×List Int):Option (Int×Int) :=
 Ad (AD x.1) none λp =>
(cnd (!p==0)
(some (0,p))
(cnd (decide (x.2.1.1<0)||decide (Cf x.1<=x.2.1.1)||!Gl x.2.1.2.1||!Gl x.2.1.2.2||!Gl x.2.2.1)
(some (0,2))
(Ad (KR x.2.2.2) none λt =>
 cnd (!t==0)
(some (0,t))
(Ad (Hc (x.1,(x.2.1.1,x.2.2.1))) none λh =>
 Ad (Jf (h,(h,x.2.2.2))) none λv =>
 Ao (Cf x.1) λy =>
 iter none (λc =>
 cnd (decide (c.1<y))
(Ad (Hc (x.1,(c.1,x.2.2.1))) dnn λE =>
 Ad (Jf (h,(E,x.2.2.2))) dnn λg =>
 cnd (true&&AA (Aa c.2+Aa ((c.1,g)::[])) 16)
(.next (wr .i64 (c.1+1),c.2++(c.1,g)::[]))
 dnn)
(.done (cnd (decide (Aa c.2<1))
 none
(Ad (idx c.2 0) none λ_ =>
 Ad (idx c.2 0) none λg =>
 iter none (λd =>
 cnd (decide (d.1<Aa c.2))
(Ad (idx c.2 d.1) dnn λI =>
 Ao (Kl (I,d.2)) λy1 =>
 cnd (decide (y1<0))
(Ad (idx c.2 d.1) dnn λo =>
.next (wr .i64 (d.1+1),o))
(.next (wr .i64 (d.1+1),d.2)))
(.done (some (d.2.1,0)))) Am ((1:Int),g))))) Am ((0:Int),(x.2.1.1,v)::[])))))
def M6 (x:Al×Df×Int×List Int):Option (Df×Int) :=
 Ad (M7 x) none λc =>
(cnd (!c.2==0)
(some ((0,(0,0)),c.2))
(Ad (Es (x.2.1,(c.1,3))) none λd =>
 some d))
def LC (x:Al×Int×Int):Option (AJ×Int) :=
 Ad (AD x.1) none λc =>
(cnd (!c==0)
(some ((0,(0,[])),c))
(cnd (decide (x.2.1<0)||decide (Cf x.1<=x.2.1)||!Gl x.2.2)
(some ((0,(0,[])),2))
(Ad (Hc x) none λd =>
 some (d,0))))
def Lr (x:AU×AZ):Option (AZ×List FG×Int) :=
 Ad (GD x) none λx1 =>
(cnd (!x1==0)
(some (([],([],([],([],[])))),([],x1)))
(Ad (DU x.2) none λx2 =>
 iter none (λh =>
 cnd (decide (h.1<Aa x2.1))
(Ad (idx h.2.1.2.1 h.1) dnn λg =>
 Ad (idx h.2.2.1.2.2.2.1 g.2) dnn λd =>
 Ad (EG d) dnn λo =>
 Ad (idx h.2.2.1.1 h.1) dnn λ_ =>
 Ad (idx h.2.2.1.1 h.1) dnn λv =>
 Ad (Mt (h.2.1,(v,o.2.1))) dnn λc =>
 Ad (idx h.2.2.1.1 h.1) dnn λ_ =>
 Ad (idx h.2.2.1.1 h.1) dnn λ_ =>
.next (wr .i64 (h.1+1),(h.2.1,((AB h.2.2.1.1 h.1 c.1,h.2.2.1.2),h.2.2.2))))
(.done (iter none (λg =>
 cnd (decide (g.1<Aa h.2.1.2.2.1))
(Ad (idx h.2.1.2.2.1 g.1) dnn λd =>
 Ad (idx g.2.2.1.2.2.1 g.1) dnn λ_ =>
 Ad (idx g.2.2.1.2.2.1 g.1) dnn λI =>
 Ad (idx g.2.2.1.1 d.1) dnn λv =>
 Ad (idx g.2.2.1.1 d.2.1) dnn λc =>
 Ad (Pt (g.2.1,(g.1,(I,(v.1,c.1))))) dnn λt =>
 Ad (idx g.2.2.1.2.2.1 g.1) dnn λ_ =>
 Ad (idx g.2.2.1.2.2.1 g.1) dnn λ_ =>
.next (wr .i64 (g.1+1),(g.2.1,((g.2.2.1.1,(g.2.2.1.2.1,(AB g.2.2.1.2.2.1 g.1 t.1,g.2.2.1.2.2.2))),g.2.2.2))))
(.done (iter none (λd =>
 cnd (decide (d.1<Aa g.2.1.2.2.1))
(Ad (idx g.2.1.2.2.1 d.1) dnn λo =>
 Ad (idx d.2.2.1.2.1 d.1) dnn λ_ =>
 Ad (idx d.2.2.1.2.1 d.1) dnn λv =>
 Ad (Fe ((d.2.1.2.1,d.2.2.1.2.2.2.1),o.2.1)) dnn λc =>
 Ad (Ls (d.2.1,(d.1,(v,c)))) dnn λt =>
 Ad (idx d.2.2.1.2.1 d.1) dnn λ_ =>
 Ad (idx d.2.2.1.2.1 d.1) dnn λ_ =>
.next (wr .i64 (d.1+1),(d.2.1,((d.2.2.1.1,(AB d.2.2.1.2.1 d.1 t.1,d.2.2.1.2.2)),d.2.2.2))))
(.done (iter none (λo =>
 cnd (decide (o.1<Aa d.2.2.1.1))
(Ad (idx d.2.2.1.1 o.1) dnn λI =>
 cnd (true&&AA (Aa o.2.1+Aa (I.1::[])) 8)
(.next (wr .i64 (o.1+1),(o.2.1++I.1::[],o.2.2)))
 dnn)
(.done (Ad (Nc (o.2.2.1,(o.2.2.2.1.2.2.1,o.2.1))) none λI =>
 Ad (LH (o.2.2.1,(o.2.2.2.1.2.2.1,(o.2.2.2.1.2.1,o.2.1)))) none λv =>
 iter none (λc =>
 cnd (decide (c.1<Aa o.2.2.1.1))
(Ad (idx o.2.2.1.1 c.1) dnn λt =>
 Ad (Q5 (c.2.1,c.1)) dnn λy =>
 Ad (idx c.2.2.1.2.2.2.2 c.1) dnn λ_ =>
 Ad (idx c.2.2.1.2.2.2.2 c.1) dnn λX =>
 Ad (idx c.2.2.2.1 y.1) dnn λY =>
 Ad (idx c.2.2.1.2.2.2.1 c.1) dnn λZ =>
 Ad (M6 (t,(X,(Y,Z)))) dnn λE =>
 Ad (idx c.2.2.1.2.2.2.2 c.1) dnn λ_ =>
 Ad (idx c.2.2.1.2.2.2.2 c.1) dnn λ_ =>
 Ad (idx (AB c.2.2.1.2.2.2.2 c.1 E.1) c.1) dnn λ_ =>
 Ad (idx (AB c.2.2.1.2.2.2.2 c.1 E.1) c.1) dnn λa1 =>
 Ad (idx c.2.2.2.1 y.1) dnn λa6 =>
 Ad (LC (t,(a1.1,a6))) dnn λp =>
 Ad (idx c.2.2.2.2.1 y.1) dnn λJ =>
 cnd (!p.1.1==0)
(cnd (true&&AA (Aa c.2.2.2.2.2+Aa ((t.1,(p.1.1,(BB (wr .i64 (p.1.2.1+J)) p.1.1,p.1.2.2)))::[])) 48)
(.next (wr .i64 (c.1+1),(c.2.1,((c.2.2.1.1,(c.2.2.1.2.1,(c.2.2.1.2.2.1,(c.2.2.1.2.2.2.1,AB c.2.2.1.2.2.2.2 c.1 E.1)))),(c.2.2.2.1,(c.2.2.2.2.1,c.2.2.2.2.2++(t.1,(p.1.1,(BB (wr .i64 (p.1.2.1+J)) p.1.1,p.1.2.2)))::[]))))))
 dnn)
 dnn)
(.done (some (c.2.2.1,(c.2.2.2.2.2,0))))) Am ((0:Int),(o.2.2.1,(o.2.2.2.1,(I.1,(v.1,o.2.2.2.2.2.2)))))))) Am ((0:Int),([],d.2))))) Am ((0:Int),g.2)))) Am ((0:Int),h.2)))) Am ((0:Int),(x.1,(x2,(([]:List Int),(([]:List Int),([]:List FG))))))))
def RF (x:Int):Option (Int×Int) :=
(cnd (x==4294967295)
(some (0,2))
(some (wr .u32 (x+1),0)))
def Ht (x:Int):Int×Int :=
(cnd (x==4294967295)
(0,2)
(wr .u32 (x+1),0))
theorem sL (x:Int):RF x=some (Ht x):=by unfold RF Ht;simp only[C0]
def IS (x:Int):Bool :=
 decide (0<=x)&&decide (x<=65535)
def Vu (x:Int):Option Bool:=some (IS x)
theorem nM (x:Int):Vu x=some (IS x):=rfl
def IQ (x:List Int×List Int):Option (List Int) :=
 iter none (λc =>
 cnd (decide (c.2<Aa x.2))
(Ad (idx x.2 c.2) dnn λg =>
 Ad (DV (wr .u64 g)) dnn λd =>
 cnd (true&&AA (Aa c.1+Aa d) 1)
(.next (c.1++d,wr .i64 (c.2+1)))
 dnn)
(.done (some c.1))) Am (x.1,(0:Int))
def GC (x:FG):Option (List Int×Int) :=
 Ao (IS x.1) λy =>
(cnd (!y)
(some ([],2))
(Ad (Is (x.2::[])) none λc =>
 cnd (!c.2==0)
(some ([],c.2))
(Ad (IQ ([],x.1::x.2.1::x.2.2.1::Aa x.2.2.2::[])) none λd =>
 Ad (IQ (d,x.2.2.2)) none λg =>
 some (g,0))))
def Ke (x:List Int):Option Int :=
(cnd (Aa (Ay 16 (0:Int))==16)
(iter none (λc =>
 cnd (decide (c.2.1<Aa x))
(Ad (idx x c.2.1) dnn λd =>
 Ad (Tm c.2.2 16 (Aq BinOp.and IntKind.u32 (Aq BinOp.xor IntKind.u32 c.1 (wr .u32 d)) 15)) dnn λ_ =>
 Ad (idx c.2.2 (Aq BinOp.and IntKind.u32 (Aq BinOp.xor IntKind.u32 c.1 (wr .u32 d)) 15)) dnn λg =>
 Ad (Tm c.2.2 16 (Aq BinOp.and IntKind.u32 (Aq BinOp.xor IntKind.u32 (Aq BinOp.xor IntKind.u32 (AH IntKind.u32 c.1 4) g) (wr .u32 (AH IntKind.u8 d 4))) 15)) dnn λ_ =>
 Ad (idx c.2.2 (Aq BinOp.and IntKind.u32 (Aq BinOp.xor IntKind.u32 (Aq BinOp.xor IntKind.u32 (AH IntKind.u32 c.1 4) g) (wr .u32 (AH IntKind.u8 d 4))) 15)) dnn λh =>
.next (Aq BinOp.xor IntKind.u32 (AH IntKind.u32 (Aq BinOp.xor IntKind.u32 (AH IntKind.u32 c.1 4) g) 4) h,(wr .i64 (c.2.1+1),c.2.2)))
(.done (some (Vn IntKind.u32 c.1)))) Am ((4294967295:Int),((0:Int),(0:Int)::(498536548:Int)::(997073096:Int)::(651767980:Int)::(1994146192:Int)::(1802195444:Int)::(1303535960:Int)::(1342533948:Int)::(3988292384:Int)::(4027552580:Int)::(3604390888:Int)::(3412177804:Int)::(2607071920:Int)::(2262029012:Int)::(2685067896:Int)::(3183342108:Int)::[])))
 none)
def KG (x:CM):Option (List Int×Int) :=
(cnd (decide (512<Aa x.2.2))
(some ([],3))
(Ad (Iw (wr .u64 x.2.1,4)) none λc =>
 cnd (true&&AA (Aa (x.1::[])+Aa c.1) 1)
(cnd (true&&AA (Aa (x.1::[]++c.1)+Aa x.2.2) 1)
(Ad (Ke (x.1::[]++c.1++x.2.2)) none λg =>
 Ad (Iw (wr .u64 g,4)) none λd =>
 cnd (true&&AA (Aa (x.1::[]++c.1++x.2.2)+Aa d.1) 1)
(some (x.1::[]++c.1++x.2.2++d.1,0))
 none)
 none)
 none))
def Lp (x:List Int):Option (List Int) :=
(cnd (decide (0<=Aa x)&&B5 (Aa x) 1)
(iter none (λc =>
 cnd (decide (c.2<Aa x))
(Ad (idx x c.2) dnn λd =>
 cnd (d==125||d==126)
(cnd (true&&AA (Aa c.1+Aa ((125:Int)::[])) 1)
(cnd (true&&AA (Aa (c.1++125::[])+Aa (wr .u8 (d-32)::[])) 1)
(.next (c.1++125::[]++wr .u8 (d-32)::[],wr .i64 (c.2+1)))
 dnn)
 dnn)
(cnd (true&&AA (Aa c.1+Aa (d::[])) 1)
(.next (c.1++d::[],wr .i64 (c.2+1)))
 dnn))
(.done (some c.1))) Am (Ay 0 (0:Int),(0:Int)))
 none)
def G6 (x:CM):Option (List Int×Int) :=
 Ad (KG x) none λc =>
(cnd (!c.2==0)
(some ([],c.2))
(Ad (Lp c.1) none λd =>
 cnd (true&&AA (Aa ((126:Int)::[])+Aa d) 1)
(cnd (true&&AA (Aa (126::[]++d)+Aa ((126:Int)::[])) 1)
(some (126::[]++d++126::[],0))
 none)
 none))
def On (x:List Int×List Int×Int×Int):Option (List Int×List Int×Int) :=
(cnd (decide (16384<Aa x.1)||decide (16384<Aa x.2.1))
(some ([],([],3)))
(cnd (decide (4<x.2.2.1))
(some ([],([],2)))
(cnd (decide (x.2.2.2<0))
(some ([],([],2)))
(Ad (Di x.1) none λc =>
 cnd (x.2.2.1==3)
(Ad (Di x.2.1) none λd =>
 some (c,(d,0)))
(cnd (x.2.2.1==2)
(cnd (true&&AA (Aa c+Aa x.2.1) 1)
(cnd (true&&AA (Aa (c++x.2.1)+Aa x.2.1) 1)
(some (c++x.2.1++x.2.1,([],0)))
 none)
 none)
(cnd (x.2.2.1==0)
(cnd (true&&AA (Aa c+Aa x.2.1) 1)
(some (c++x.2.1,([],0)))
 none)
(cnd (x.2.2.1==4)
(cnd (true&&AA (Aa c+Aa x.2.1) 1)
(cnd (decide (0<Aa x.2.1))
(cnd (!Aa x.2.1==0)
(Ad (idx (c++x.2.1) (wr .i64 (Aa x.1+BB x.2.2.2 (Aa x.2.1)))) none λ_ =>
 Ad (idx (c++x.2.1) (wr .i64 (Aa x.1+BB x.2.2.2 (Aa x.2.1)))) none λg =>
 Ad (idx (c++x.2.1) (wr .i64 (Aa x.1+BB x.2.2.2 (Aa x.2.1)))) none λ_ =>
 Ad (idx (c++x.2.1) (wr .i64 (Aa x.1+BB x.2.2.2 (Aa x.2.1)))) none λ_ =>
 some (AB (c++x.2.1) (wr .i64 (Aa x.1+BB x.2.2.2 (Aa x.2.1))) (Aq BinOp.xor IntKind.u8 g 255),([],0)))
 none)
(some (c++x.2.1,([],0))))
 none)
(some (c,([],0))))))))))
def F9 (x:List Int×List Int×Int×Int):Option (List Int×List Int) :=
 Ad (On x) none λc =>
(cnd (decide (4096<Aa c.2.1))
(some (c.1,[]))
(some (c.1,c.2.1)))
def DB (x:Int):Bool :=
 decide (0<=x)&&decide (x<=1048576)
def Vz (x:Int):Option Bool:=some (DB x)
theorem nS (x:Int):Vz x=some (DB x):=rfl
def MY (x:Bx):Option (List Int) :=
(cnd (decide (0<=Aa x.1)&&(decide (Aa x.1<=Aa x.1)&&B5 (Aa x.1) 1))
(iter none (λc =>
 cnd (decide (c.1<Aa x.1))
(Ad (idx x.1 c.1) dnn λd =>
 Ad (idx c.2 c.1) dnn λ_ =>
 Ad (idx c.2 c.1) dnn λ_ =>
.next (wr .i64 (c.1+1),AB c.2 c.1 d.1))
(.done (some c.2))) Am ((0:Int),Ay (Aa x.1) (0:Int)))
 none)
def Iq (x:List Int):Option Bool :=
 iter none (λc =>
 cnd (decide (c<Aa x))
(Ad (idx x c) dnn λd =>
 cnd (!d==4)
(.done (some !decide (0<=c)))
(.next (wr .i64 (c+1))))
(.done (some true))) Am (0:Int)
def TY (x:Int):Option Bool :=
 some (x==1)
def DQ (x:Int):Bool :=
 x==1
theorem zF (x:Int):TY x=some (DQ x):=by unfold TY DQ;rfl
def HU (x:Al×List Int):Option Bool :=
 iter none (λc =>
 cnd (decide (c<Aa x.2))
(Ad (idx x.2 c) dnn λg =>
 Ao (DQ g) λy =>
 cnd y
(.next (wr .i64 (c+1)))
(iter dnn (λd =>
 cnd (decide (d<c))
(Ad (idx x.2 d) (.done dnn) λh =>
 Ao (DQ h) λy1 =>
 cnd (!y1)
(Ad (FU (x.1,(c,d))) (.done dnn) λo =>
 cnd o
(.done (.done (some true)))
(.next (wr .i64 (d+1))))
(.next (wr .i64 (d+1))))
(.done (.next (wr .i64 (c+1))))) Am (0:Int)))
(.done (some false))) Am (0:Int)
def Pj (x:Al×Bx):Option Bool :=
 Ad (MY x.2) none λc =>
(cnd (Aa c==Aa x.1.2.1&&decide (0<=x.2.2.1)&&decide (x.2.2.1<=1048576))
(Ad (Iq c) none λd =>
 cnd d
(some true)
(Ad (HU (x.1,c)) none λg =>
 some !g))
(some false))
def DI (x:List Int×Int):Option Int :=
 iter none (λc =>
 cnd (decide (c<Aa x.1))
(Ad (idx x.1 c) dnn λd =>
 cnd (x.2==d)
(.done (some c))
(.next (wr .i64 (c+1))))
(.done (some (-1)))) Am (0:Int)
def De (x:List Int×Int):Option Bool :=
 Ad (DI x) none λc =>
 some (decide (0<=c))
def RD (x:Int):Option Int :=
 some (Bb (B8 x 0) 1048576)
def DL (x:Int):Int :=
 Bb (B8 x 0) 1048576
theorem sH (x:Int):RD x=some (DL x):=by unfold RD DL;rfl
def Hr (x:Int):Bool :=
 decide (1<=x)&&decide (x<=3)
def Xl (x:Int):Option Bool:=some (Hr x)
theorem sF (x:Int):Xl x=some (Hr x):=rfl
def GP (x:Int×Int):Bool :=
 x.1==1&&(x.2==2&&true)||x.1==2&&(x.2==3&&true)||x.1==3&&(x.2==1&&true)
def Su (x:Int×Int):Option Bool:=some (GP x)
theorem cV (x:Int×Int):Su x=some (GP x):=rfl
def Tp (x:Fq×Co×Int):Option Int :=
 Ao (DL x.2.1.2.1) λy =>
 Ao (Hr x.2.1.1) λy1 =>
(cnd (!y1)
(some 2)
(Ao (Hr x.2.2) λy2 =>
 cnd (!y2)
(some 2)
(cnd (!x.2.2==x.2.1.1&&!GP (x.2.1.1,x.2.2))
(some 2)
(cnd (x.2.1.1==2&&x.2.2==3&&decide (y<x.1.2.1))
(some 5)
(cnd (x.2.1.1==3&&(x.2.2==3)==decide (x.1.2.2<=y))
(some 6)
(some 0))))))
def DK (x:Fq×Co×Int):Int :=
 Ao (DL x.2.1.2.1) λy =>
 Ao (Hr x.2.1.1) λy1 =>
(cnd (!y1)
 2
(Ao (Hr x.2.2) λy2 =>
 cnd (!y2)
 2
(cnd (!x.2.2==x.2.1.1&&!GP (x.2.1.1,x.2.2))
 2
(cnd (x.2.1.1==2&&x.2.2==3&&decide (y<x.1.2.1))
 5
(cnd (x.2.1.1==3&&(x.2.2==3)==decide (x.1.2.2<=y))
 6
 0)))))
theorem yE (x:Fq×Co×Int):Tp x=some (DK x):=by unfold Tp DK;simp only[Ao,C0]
def Ip (x:Al×Bx×List Int):Option Bool :=
 iter none (λc =>
 cnd (decide (c<Aa x.2.1.1))
(Ad (idx x.2.1.1 c) dnn λg =>
 Ad (idx x.2.2 c) dnn λh =>
 cnd (!h==2||g.1==2)
(.next (wr .i64 (c+1)))
(iter dnn (λd =>
 cnd (decide (d<Aa x.2.1.1))
(Ad (idx x.2.1.1 d) (.done dnn) λo =>
 Ad (FU (x.1,(d,c))) (.done dnn) λp =>
 cnd p
(Ad (GF (x.1,(d,c))) (.done dnn) λt =>
 cnd (decide (o.2.2<t))
(.done (.done (some true)))
(.next (wr .i64 (d+1))))
(.next (wr .i64 (d+1))))
(.done (.next (wr .i64 (c+1))))) Am (0:Int)))
(.done (some false))) Am (0:Int)
def MW (x:Al×Bx×List Int):Option Int :=
(cnd (!Aa x.2.2==Aa x.1.2.1)
(some 1)
(Ad (Iq x.2.2) none λo =>
 cnd o
(some 0)
(Ad (De (x.2.2,4)) none λp =>
 cnd p
(some 7)
(CT (λd =>
 cnd d
(some 8)
(iter none (λc =>
 cnd (decide (c<Aa x.2.1.1))
(Ad (idx x.2.1.1 c) dnn λg =>
 Ad (idx x.1.2.1 c) dnn λh =>
 Ad (idx x.2.2 c) dnn λt =>
 Ao (DK (h,(g,t))) λy =>
 cnd (!y==0&&!x.2.1.2.2)
(.done (some y))
(.next (wr .i64 (c+1))))
(.done (Ad (HU (x.1,x.2.2)) none λg =>
 cnd g
(some 3)
(Ad (Ip x) none λh =>
 cnd h
(some 4)
(some 0))))) Am (0:Int))) λk =>
 cnd (x.2.1.2.2||decide (0<x.2.1.2.1))
(iter none (λd =>
 cnd (decide (d<Aa x.2.2))
(Ad (idx x.2.2 d) dnn λc =>
 Ao (DQ c) λy =>
 cnd (!y)
(.done (k (decide (0<=d))))
(.next (wr .i64 (d+1))))
(.done (k false))) Am (0:Int))
(k false)))))
def GL (x:List Co):Option (List Co) :=
(cnd (true&&AA (0+Aa x) 24)
(some ([]++x))
 none)
def RE (x:Int):Option Int :=
 Ao (DL x) λy =>
 Ao (DL (wr .i64 (y+1))) λy1 =>
 some y1
def J8 (x:Int):Int :=
 Ao (DL x) λy =>
 Ao (DL (wr .i64 (y+1))) λy1 =>
 y1
theorem sI (x:Int):RE x=some (J8 x):=by unfold RE J8;simp only[Ao]
def RA (x:Fq×Co×Int):Option Co :=
 Ao (J8 x.2.1.2.2) λy =>
(cnd (x.2.2==x.2.1.1)
(Ao (J8 x.2.1.2.1) λy1 =>
 cnd (x.2.2==2)
(some (x.2.2,(y1,0)))
(some (x.2.2,(y1,y))))
(cnd (x.2.2==2)
(some (x.2.2,(1,0)))
(some (x.2.2,(1,y)))))
def J7 (x:Fq×Co×Int):Co :=
 Ao (J8 x.2.1.2.2) λy =>
(cnd (x.2.2==x.2.1.1)
(Ao (J8 x.2.1.2.1) λy1 =>
 cnd (x.2.2==2)
(x.2.2,(y1,0))
(x.2.2,(y1,y)))
(cnd (x.2.2==2)
(x.2.2,(1,0))
(x.2.2,(1,y))))
theorem sA (x:Fq×Co×Int):RA x=some (J7 x):=by unfold RA J7;simp only[Ao,C0]
def LA (x:Al×Bx×List Int):Option Bx :=
 Ad (GL x.2.1.1) none λh =>
 Ad (Iq x.2.2) none λd =>
 iter none (λc =>
 cnd (decide (c.1<Aa h))
(Ad (idx c.2 c.1) dnn λ_ =>
 Ad (idx c.2 c.1) dnn λo =>
 Ad (idx x.1.2.1 c.1) dnn λp =>
 Ad (idx x.2.2 c.1) dnn λt =>
 Ao (J7 (p,(o,t))) λy =>
 Ad (idx c.2 c.1) dnn λ_ =>
 Ad (idx c.2 c.1) dnn λ_ =>
.next (wr .i64 (c.1+1),AB c.2 c.1 y))
(.done (cnd d
(Ad (C3 x.1) none λg =>
 some (c.2,(g,d)))
(cnd x.2.1.2.2
(Ad (C3 x.1) none λg =>
 some (c.2,(B8 0 (wr .i64 (g-1)),d)))
(some (c.2,(B8 0 (wr .i64 (x.2.1.2.1-1)),d))))))) Am ((0:Int),h)
def HT (x:Al×Bx×List Int):Option (Bx×Int×Int) :=
 Ad (AD x.1) none λd =>
(cnd (!d==0)
(some (([],(0,false)),(0,d)))
(Ad (Pj (x.1,x.2.1)) none λh =>
 cnd (!h)
(some (([],(0,false)),(0,8)))
(Ad (MW x) none λg =>
 cnd (!g==0)
(Ad (GL x.2.1.1) none λc =>
 some ((c,x.2.1.2),(g,0)))
(Ad (LA x) none λc =>
 some (c,(0,0))))))
def N6 (x:Al×Bx):Option Bool :=
(cnd (!Aa x.2.1==Aa x.1.2.1)
(some false)
(cnd (decide (0<=Aa x.2.1)&&(decide (Aa x.2.1<=Aa x.2.1)&&B5 (Aa x.2.1) 1))
(CT (λc =>
 Ad (HT (x.1,(x.2,c))) none λh =>
 cnd (!h.2.2==0)
(some false)
(iter none (λd =>
 cnd (decide (d<Aa x.2.1))
(Ad (idx x.2.1 d) dnn λg =>
 cnd x.2.2.2
(cnd (!g.1==4)
(.done (some !decide (0<=d)))
(.next (wr .i64 (d+1))))
(cnd (decide (g.1<1)||decide (3<g.1)||decide (0<x.2.2.1)&&!g.1==1)
(.done (some !decide (0<=d)))
(.next (wr .i64 (d+1)))))
(.done (some true))) Am (0:Int))) λk =>
 iter none (λc =>
 cnd (decide (c.1<Aa (Ay (Aa x.2.1) (0:Int))))
(Ad (idx c.2 c.1) dnn λ_ =>
 Ad (idx c.2 c.1) dnn λ_ =>
.next (wr .i64 (c.1+1),AB c.2 c.1 4))
(.done (k c.2))) Am ((0:Int),Ay (Aa x.2.1) (0:Int)))
 none))
def J2 (x:Al×Bx):Option Int :=
 Ad (AD x.1) none λc =>
(cnd (!c==0)
(some c)
(Ad (N6 x) none λd =>
 cnd (!d)
(some 8)
(some 0)))
def IL (x:Int×Int):Option (List Int) :=
(cnd (decide (0<=x.1)&&(decide (x.1<=x.1)&&B5 x.1 1))
(iter none (λc =>
 cnd (decide (c.1<Aa (Ay x.1 (0:Int))))
(Ad (idx c.2 c.1) dnn λ_ =>
 Ad (idx c.2 c.1) dnn λ_ =>
.next (wr .i64 (c.1+1),AB c.2 c.1 x.2))
(.done (some c.2))) Am ((0:Int),Ay x.1 (0:Int)))
 none)
def RB (x:Fq×Co×Int):Option Int :=
 Ao (DL x.2.1.2.1) λy =>
(cnd (x.2.1.1==1)
(cnd (x.2.2==2)
(some 2)
(some 1))
(cnd (x.2.1.1==2)
(cnd (x.2.2==2||decide (y<x.1.2.1))
(some 2)
(some 3))
(cnd (x.2.1.1==3)
(cnd (decide (y<x.1.2.2))
(some 3)
(some 1))
(some 1))))
def FN (x:Fq×Co×Int):Int :=
 Ao (DL x.2.1.2.1) λy =>
(cnd (x.2.1.1==1)
(cnd (x.2.2==2)
 2
 1)
(cnd (x.2.1.1==2)
(cnd (x.2.2==2||decide (y<x.1.2.1))
 2
 3)
(cnd (x.2.1.1==3)
(cnd (decide (y<x.1.2.2))
 3
 1)
 1)))
theorem sC (x:Fq×Co×Int):RB x=some (FN x):=by unfold RB FN;simp only[Ao,C0]
def JZ (x:Al×Bx×List Int):Option (List Int) :=
 CT (λo =>
 cnd o
(Ad (FJ x.2.2) none λh =>
 some h)
(cnd x.2.1.2.2
(Ad (IL (Aa x.2.2,1)) none λh =>
 some h)
(cnd (decide (0<x.2.1.2.1))
(Ad (IL (Aa x.2.2,1)) none λh =>
 some h)
(Ad (IL (Aa x.2.2,1)) none λh =>
 iter none (λg =>
 cnd (decide (g.1<Aa x.2.1.1))
(Ad (idx x.2.1.1 g.1) dnn λc =>
 cnd (!c.1==1)
(Ad (idx x.1.2.1 g.1) dnn λp =>
 Ad (idx x.2.2 g.1) dnn λt =>
 Ao (FN (p,(c,t))) λy =>
 Ad (idx g.2 g.1) dnn λ_ =>
 Ad (idx g.2 g.1) dnn λ_ =>
.next (wr .i64 (g.1+1),AB g.2 g.1 y))
(.next (wr .i64 (g.1+1),g.2)))
(.done (iter none (λc =>
 cnd (decide (c.1<Aa x.2.1.1))
(Ad (idx x.2.1.1 c.1) dnn λp =>
 cnd (p.1==1)
(Ad (idx x.2.2 c.1) dnn λt =>
 cnd (t==2)
(iter dnn (λd =>
 cnd (decide (d.1<Aa x.2.1.1))
(Ad (idx x.2.1.1 d.1) (.done dnn) λJ =>
 Ad (idx x.1.2.2.1 c.1) (.done dnn) λX =>
 cnd (decide (0<=d.1))
(cnd (Aq BinOp.and IntKind.u32 (AH IntKind.u32 X d.1) 1==1)
(Ad (idx d.2 d.1) (.done dnn) λ_ =>
 Ad (idx d.2 d.1) (.done dnn) λv =>
 cnd (!v==1)
(.done (.next (wr .i64 (c.1+1),d.2)))
(Ad (idx x.1.2.2.2.1 d.1) (.done dnn) λE =>
 Ad (idx E c.1) (.done dnn) λI =>
 cnd (decide (J.2.2<I))
(.done (.next (wr .i64 (c.1+1),d.2)))
(.next (wr .i64 (d.1+1),d.2))))
(.next (wr .i64 (d.1+1),d.2)))
(.done dnn))
(.done (Ad (idx d.2 c.1) dnn λ_ =>
 Ad (idx d.2 c.1) dnn λ_ =>
.next (wr .i64 (c.1+1),AB d.2 c.1 2)))) Am ((0:Int),c.2))
(.next (wr .i64 (c.1+1),c.2)))
(.next (wr .i64 (c.1+1),c.2)))
(.done (some c.2))) Am ((0:Int),g.2)))) Am ((0:Int),h))))) λk =>
 iter none (λo =>
 cnd (decide (o<Aa x.2.2))
(Ad (idx x.2.2 o) dnn λh =>
 cnd (!h==4)
(.done (k !decide (0<=o)))
(.next (wr .i64 (o+1))))
(.done (k true))) Am (0:Int)
def N5 (x:Al×Bx×Int):Option (Bool×Int) :=
 Ad (J2 (x.1,x.2.1)) none λd =>
(cnd (!d==0)
(some (false,d))
(cnd (decide (x.2.2<0)||decide (Aa x.1.2.1<=x.2.2))
(some (false,2))
(Ad (IL (Aa x.1.2.1,1)) none λc =>
 Ad (idx c x.2.2) none λ_ =>
 Ad (idx c x.2.2) none λ_ =>
 Ad (JZ (x.1,(x.2.1,AB c x.2.2 2))) none λg =>
 Ad (idx g x.2.2) none λ_ =>
 Ad (idx g x.2.2) none λh =>
 some (h==2,0))))
def KH (x:Al×Ez):Option Int :=
 Ad (AD x.1) none λc =>
(cnd (!c==0)
(some c)
(cnd (decide (3<x.2.1)||decide (x.2.2.1<0)||decide (1048576<x.2.2.1)||x.2.2.2&&(!x.2.1==0||!x.2.2.1==0))
(some 8)
(some 0)))
def Qk (x:Ez×H5):Option Int :=
(cnd (x.1.2.2||!x.2.2.2.2)
(some 0)
(cnd (x.2.1&&x.2.2.1&&x.2.2.2.1)
(some 3)
(cnd x.2.2.1
(some 2)
(some 1))))
def Cd (x:Ez×H5):Int :=
(cnd (x.1.2.2||!x.2.2.2.2)
 0
(cnd (x.2.1&&x.2.2.1&&x.2.2.2.1)
 3
(cnd x.2.2.1
 2
 1)))
theorem nD (x:Ez×H5):Qk x=some (Cd x):=by unfold Qk Cd;simp only[C0]
def OV (x:Al×Ez×H5):Option Ez :=
 Ao (Cd ((x.2.1.1,(x.2.1.2.1,x.2.1.2.2||!x.2.2.2.2.2)),x.2.2)) λy =>
(cnd (decide (y<=x.2.1.1))
(some (y,(0,x.2.1.2.2||!x.2.2.2.2.2)))
(cnd (decide (x.1.2.2.2.2.2.2.2.2.1<=wr .i64 (x.2.1.2.1+1)))
(some (wr .u8 (x.2.1.1+1),(0,x.2.1.2.2||!x.2.2.2.2.2)))
(some (x.2.1.1,(wr .i64 (x.2.1.2.1+1),x.2.1.2.2||!x.2.2.2.2.2)))))
def DT (x:Al×Ez×H5):Ez :=
 Ao (Cd ((x.2.1.1,(x.2.1.2.1,x.2.1.2.2||!x.2.2.2.2.2)),x.2.2)) λy =>
(cnd (decide (y<=x.2.1.1))
(y,(0,x.2.1.2.2||!x.2.2.2.2.2))
(cnd (decide (x.1.2.2.2.2.2.2.2.2.1<=wr .i64 (x.2.1.2.1+1)))
(wr .u8 (x.2.1.1+1),(0,x.2.1.2.2||!x.2.2.2.2.2))
(x.2.1.1,(wr .i64 (x.2.1.2.1+1),x.2.1.2.2||!x.2.2.2.2.2))))
theorem iF (x:Al×Ez×H5):OV x=some (DT x):=by unfold OV DT;simp only[Ao,C0]
def Ja (x:Al×Ez×H5):Option (Ez×Int) :=
 Ad (KH (x.1,x.2.1)) none λc =>
(cnd (!c==0)
(some ((0,(0,false)),c))
(Ao (DT x) λy =>
 some (y,0)))
def Qm (x:DJ):Option Int :=
(cnd (decide (x.2.2<0)||decide (1048576<x.2.2)||!x.1&&!x.2.1==0)
(some 8)
(some 0))
def Hu (x:DJ):Int :=
(cnd (decide (x.2.2<0)||decide (1048576<x.2.2)||!x.1&&!x.2.1==0)
 8
 0)
theorem nL (x:DJ):Qm x=some (Hu x):=by unfold Qm Hu;simp only[C0]
def Ql (x:DJ×Int):Option (Bool×Int) :=
 Ao (Hu x.1) λy =>
(cnd (!y==0)
(some (false,y))
(cnd (decide (x.2<1)||decide (1048576<x.2))
(some (false,2))
(some (x.1.1&&decide (x.1.2.2<x.2),0))))
def KI (x:DJ×Int):Bool×Int :=
 Ao (Hu x.1) λy =>
(cnd (!y==0)
(false,y)
(cnd (decide (x.2<1)||decide (1048576<x.2))
(false,2)
(x.1.1&&decide (x.1.2.2<x.2),0)))
theorem nJ (x:DJ×Int):Ql x=some (KI x):=by unfold Ql KI;simp only[Ao,C0]
def IN:List Int->Int->Int->Int
 |[],_,_=>-1
 |b::l,c,i=>if b=c then i else IN l c (i+1)
def bytes_IndexByte (x:List Int×Int):Int:=IN x.1 x.2 0
def EX (x:AJ):Bool :=
 x.1==0&&x.2.1==0&&Aa x.2.2==0
def VE (x:AJ):Option Bool:=some (EX x)
theorem nT (x:AJ):VE x=some (EX x):=rfl
def Rz (x:C7):Option Int :=
(cnd (decide (Bb (Bb x.2.1 x.2.2.1) x.2.2.2.1<0)||decide (1048576<B8 x.2.1 x.2.2.1)||decide (1073741824<x.2.2.2.1))
(some 8)
(cnd (x.1&&!x.2.2.1==0)
(some 8)
(cnd (!x.1&&!x.2.1==0)
(some 8)
(cnd (!x.1==(Aq BinOp.and IntKind.u64 x.2.2.2.2 1==1))
(some 8)
(some 0)))))
def FM (x:C7):Int :=
(cnd (decide (Bb (Bb x.2.1 x.2.2.1) x.2.2.2.1<0)||decide (1048576<B8 x.2.1 x.2.2.1)||decide (1073741824<x.2.2.2.1))
 8
(cnd (x.1&&!x.2.2.1==0)
 8
(cnd (!x.1&&!x.2.1==0)
 8
(cnd (!x.1==(Aq BinOp.and IntKind.u64 x.2.2.2.2 1==1))
 8
 0))))
theorem rZ (x:C7):Rz x=some (FM x):=by unfold Rz FM;simp only[C0]
def Tk (x:C7×Int):Option (Bool×Int) :=
 Ao (FM x.1) λy =>
(cnd (!y==0)
(some (false,y))
(cnd (decide (x.2<0)||decide (1048576<x.2))
(some (false,2))
(some (!x.1.1&&decide (x.2<=x.1.2.2.1),0))))
def NG (x:C7×Int):Bool×Int :=
 Ao (FM x.1) λy =>
(cnd (!y==0)
(false,y)
(cnd (decide (x.2<0)||decide (1048576<x.2))
(false,2)
(!x.1.1&&decide (x.2<=x.1.2.2.1),0)))
theorem xW (x:C7×Int):Tk x=some (NG x):=by unfold Tk NG;simp only[Ao,C0]
def FY (x:Bl):Bool :=
 decide (0<=Bb x.2.1 x.2.2.2.2)&&decide (B8 x.2.1 x.2.2.2.2<=1048576)&&(x.2.2.2.1||x.2.2.2.2==0)
def eI (x:Bl):Option Bool:=some (FY x)
theorem AaP (x:Bl):eI x=some (FY x):=rfl
def K4 (x:Al×List Bl):Option Int :=
 Ad (AD x.1) none λd =>
(cnd (!d==0)
(some d)
(cnd (!Aa x.2==Aa x.1.2.2.2.2.2.1)
(some 4)
(iter none (λc =>
 cnd (decide (c<Aa x.2))
(Ad (idx x.2 c) dnn λg =>
 Ao (FY g) λy =>
 cnd (!y)
(.done (some 8))
(.next (wr .i64 (c+1))))
(.done (some 0))) Am (0:Int))))
def RR (x:Int×Int):Option Int :=
 Ao (Ew x.2) λy =>
 some (Aq BinOp.or IntKind.u32 x.1 y)
def FR (x:Int×Int):Int :=
 Ao (Ew x.2) λy =>
 Aq BinOp.or IntKind.u32 x.1 y
theorem sZ (x:Int×Int):RR x=some (FR x):=by unfold RR FR;simp only[Ao]
def NF (x:Bl):Option Bool :=
 some !x.2.2.2.1
def JT (x:Bl):Bool :=
 !x.2.2.2.1
theorem cL (x:Bl):NF x=some (JT x):=by unfold NF JT;rfl
def Mv (x:Al×List Bl):Option (Bool×Int) :=
 Ad (K4 x) none λd =>
(cnd (!d==0)
(some (false,d))
(iter none (λc =>
 cnd (decide (c.2.2<Aa x.2))
(Ad (idx x.2 c.2.2) dnn λh =>
 Ad (idx x.1.2.2.2.2.2.1 c.2.2) dnn λg =>
 Ao (FR (c.1,g.1)) λy =>
 Ao (JT h) λy1 =>
 cnd y1
(Ao (FR (c.2.1,g.1)) λy2 =>
.next (y,(y2,wr .i64 (c.2.2+1))))
(.next (y,(c.2.1,wr .i64 (c.2.2+1)))))
(.done (some (c.1==c.2.1,0)))) Am ((0:Int),((0:Int),(0:Int)))))
def Rv (x:Bl):Option Bool :=
 some (x.1||x.2.2.2.1)
def JU (x:Bl):Bool :=
 x.1||x.2.2.2.1
theorem rW (x:Bl):Rv x=some (JU x):=by unfold Rv JU;rfl
def N3 (x:Al×List Bl):Option (Int×Int) :=
 Ad (Mv x) none λg =>
(cnd (!g.2==0)
(some (0,g.2))
(iter none (λd =>
 cnd (decide (d.2<Aa x.1.2.2.2.2.1))
(Ad (idx x.1.2.2.2.2.1 d.2) dnn λc =>
 cnd c.2.2.2.2
(cnd (decide (0<=d.2))
(.next (Aq BinOp.or IntKind.u32 d.1 (A9 IntKind.u32 1 d.2),wr .i64 (d.2+1)))
 dnn)
(.next (d.1,wr .i64 (d.2+1))))
(.done (iter none (λc =>
 cnd (decide (c.2<Aa x.2))
(Ad (idx x.2 c.2) dnn λo =>
 Ao (JU o) λy =>
 cnd y
(Ad (idx x.1.2.2.2.2.2.1 c.2) dnn λh =>
 cnd (decide (0<=h.1))
(.next (Aq BinOp.or IntKind.u32 c.1 (A9 IntKind.u32 1 h.1),wr .i64 (c.2+1)))
 dnn)
(.next (c.1,wr .i64 (c.2+1))))
(.done (some (c.1,0)))) Am (d.1,(0:Int))))) Am ((0:Int),(0:Int))))
def Ms (x:Al×Int×Int):Option Int :=
(cnd (decide (0<=Aa x.1.2.2.2.2.1))
(cnd (!AH IntKind.u32 x.2.1 (Aa x.1.2.2.2.2.1)==0)
(some 8)
(cnd (decide (x.2.2<(-1))||decide (Aa x.1.2.2.2.2.1<=x.2.2))
(some 2)
(some 0)))
 none)
def HH (x:Al×Int×List Bl×Int):Option (Int×Int) :=
 Ad (N3 (x.1,x.2.2.1)) none λc =>
(cnd (!c.2==0)
(some (0,c.2))
(Ad (Ms (x.1,(x.2.1,x.2.2.2))) none λd =>
 cnd (!d==0)
(some (0,d))
(Ao (C1 (Aq BinOp.or IntKind.u32 x.2.1 c.1,x.2.2.2)) λy =>
 some (y,0))))
def F3 (x:Al×Be):Option Bool :=
(cnd (!Aa x.2.2.2.2.2.2.2.2.2.1==Aa x.1.2.2.2.2.2.1||!Aa x.2.2.2.2.2.2.2.2.2.2.2.1==Aa x.1.2.2.2.2.2.1)
(some false)
(iter none (λc =>
 cnd (decide (c<Aa x.1.2.2.2.2.2.1))
(Ad (idx x.2.2.2.2.2.2.2.2.2.2.2.1 c) dnn λd =>
 Ao (NG (d,0)) λy =>
 Ad (idx x.2.2.2.2.2.2.2.2.2.1 c) dnn λg =>
 Ao (DB g.2.2) λy1 =>
 cnd (!y1||!y.2==0)
(.done (some false))
(.next (wr .i64 (c+1))))
(.done (Ad (HH (x.1,(x.2.2.2.2.2.2.2.2.2.2.2.2.1,(x.2.2.2.2.2.2.2.2.2.2.1,-1)))) none λd =>
 some (d.2==0)))) Am (0:Int)))
def F1 (x:Al×Be):Option Bool :=
(cnd (!Aa x.2.2.2.2.2.2.2.2.2.2.2.2.2.2.2.1==Aa x.1.2.2.2.2.1||!Aa x.2.2.2.2.2.2.2.2.2.2.2.2.2.2.2.2.1==Aa x.1.2.2.2.2.1||!Aa x.2.2.2.2.2.2.2.2.2.2.2.2.2.2.2.2.2.1==Aa x.1.2.2.2.2.1)
(some false)
(iter none (λc =>
 cnd (decide (c<Aa x.1.2.2.2.2.1))
(Ad (idx x.2.2.2.2.2.2.2.2.2.2.2.2.2.2.2.1 c) dnn λd =>
 Ao (DB d) λy =>
 cnd (!y)
(.done (some false))
(Ad (idx x.2.2.2.2.2.2.2.2.2.2.2.2.2.2.2.2.1 c) dnn λg =>
 Ao (DB g) λy1 =>
 cnd (!y1)
(.done (some false))
(Ad (idx x.2.2.2.2.2.2.2.2.2.2.2.2.2.2.2.2.2.1 c) dnn λh =>
 Ao (DB h) λy2 =>
 cnd (!y2)
(.done (some false))
(Ad (idx x.2.2.2.2.2.2.2.2.2.2.2.2.2.2.2.2.1 c) dnn λo =>
 Ad (idx x.2.2.2.2.2.2.2.2.2.2.2.2.2.2.2.1 c) dnn λp =>
 cnd (decide (p<o))
(.done (some false))
(.next (wr .i64 (c+1)))))))
(.done (some true))) Am (0:Int)))
def Oa (x:Al×Be):Option Bool :=
 Ao (GU (x.2.1.1,())) λy =>
(cnd (!y||decide (x.2.2.2.2.1.1<0)||decide (Aa x.1.2.2.2.2.1<=x.2.2.2.2.1.1)||!DB x.2.2.2.2.1.2||!DB x.2.2.2.2.2.2.2.2.1||!DB x.2.2.2.2.2.2.2.2.2.2.2.2.2.1||decide (x.2.2.2.2.2.2.2.2.2.2.2.2.2.2.1<0)||decide (1073741824<x.2.2.2.2.2.2.2.2.2.2.2.2.2.2.1))
(some false)
(Ad (N5 (x.1,(x.2.2.1,0))) none λh =>
 cnd (!h.2==0)
(some false)
(Ad (Ja (x.1,(x.2.2.2.1,(false,(false,(false,false)))))) none λo =>
 cnd (!o.2==0)
(some false)
(Ao (KI (x.2.2.2.2.2.1,1)) λy1 =>
 cnd (!y1.2==0)
(some false)
(cnd (decide (2048<Aa x.2.2.2.2.2.2.1))
(some false)
(cnd (decide (0<Aa x.2.2.2.2.2.2.1))
(Ad (idx x.2.2.2.2.2.2.1 0) none λc =>
 cnd (!c==126)
(some false)
(cnd (decide (1<=Aa x.2.2.2.2.2.2.1))
(Ao (bytes_IndexByte (A5 x.2.2.2.2.2.2.1 1,126)) λy2 =>
 cnd (decide (0<=y2))
(some false)
(Ad (En (x.1,x.2.2.2.2.2.2.2.1)) none λd =>
 cnd (d.1||EX x.2.2.2.2.2.2.2.1)
(Ad (F3 (x.1,((x.2.1.1,()),x.2.2))) none λg =>
 cnd g
(Ad (F1 (x.1,((x.2.1.1,()),x.2.2))) none λp =>
 some p)
(some false))
(some false)))
 none))
(Ad (En (x.1,x.2.2.2.2.2.2.2.1)) none λc =>
 cnd (c.1||EX x.2.2.2.2.2.2.2.1)
(Ad (F3 (x.1,((x.2.1.1,()),x.2.2))) none λd =>
 cnd d
(Ad (F1 (x.1,((x.2.1.1,()),x.2.2))) none λg =>
 some g)
(some false))
(some false))))))))
def OW (x:Al×Be):Option Int :=
 Ad (AD x.1) none λc =>
(cnd (!c==0)
(some c)
(Ad (Oa (x.1,((x.2.1.1,()),x.2.2))) none λd =>
 cnd (!d)
(some 230)
(some 0)))
def Fa (x:List Int×Int):Option Int :=
 iter none (λc =>
 cnd (decide (0<=c))
(Ad (idx x.1 c) dnn λd =>
 cnd (d==x.2)
(.done (some c))
(.next (wr .i64 (c-1))))
(.done (some (-1)))) Am (wr .i64 (Aa x.1-(1:Int)))
def EC (x:List Int×Int):Option Int :=
 Ad (Fa x) none λc =>
 some c
def FL (x:List Int):Option (List Int×Int) :=
(cnd (decide (0<=Aa x)&&B5 (Aa x) 1)
(iter none (λc =>
 cnd (decide (c.2.2<Aa x))
(Ad (idx x c.2.2) dnn λd =>
 cnd (c.2.1&&!d==93&&!d==94)
(.done (some ([],8)))
(cnd (d==126)
(.done (some ([],8)))
(cnd c.2.1
(cnd (true&&AA (Aa c.1+Aa (wr .u8 (d+32)::[])) 1)
(.next (c.1++wr .u8 (d+32)::[],(false,wr .i64 (c.2.2+1))))
 dnn)
(cnd (d==125)
(.next (c.1,(true,wr .i64 (c.2.2+1))))
(cnd (true&&AA (Aa c.1+Aa (d::[])) 1)
(.next (c.1++d::[],(c.2.1,wr .i64 (c.2.2+1))))
 dnn)))))
(.done (cnd c.2.1
(some ([],8))
(some (c.1,0))))) Am (Ay 0 (0:Int),(false,(0:Int))))
 none)
def GO (x:List Int):Option (CM×Int) :=
(cnd (decide (wr .i64 (Aa x-4)<5)||decide (517<wr .i64 (Aa x-4)))
(some ((0,(0,[])),8))
(cnd (decide (5<=Aa x))
(Ad (Iv (A5 (Ax x 5) 1)) none λc =>
 cnd (decide (0<=wr .i64 (Aa x-4))&&decide (wr .i64 (Aa x-4)<=Aa x))
(Ad (Iv (A5 x (wr .i64 (Aa x-4)))) none λd =>
 cnd (decide (0<=wr .i64 (Aa x-4))&&decide (wr .i64 (Aa x-4)<=Aa x))
(Ad (Ke (Ax x (wr .i64 (Aa x-4)))) none λg =>
 cnd (!wr .u64 g==d.1)
(some ((0,(0,[])),8))
(Ad (idx x 0) none λh =>
 cnd (decide (5<=wr .i64 (Aa x-4))&&decide (wr .i64 (Aa x-4)<=Aa x))
(Ad (Di (A5 (Ax x (wr .i64 (Aa x-4))) 5)) none λo =>
 some ((h,(wr .u32 c.1,o)),0))
 none))
 none)
 none)
 none))
def Cv (x:List Int):Option (List CM×Int×Int) :=
(cnd (decide (16384<Aa x))
(some ([],(0,3)))
(cnd (decide (16384<Aa x))
(Ad (EC (x,126)) none λc =>
 some ([],(c,0)))
(iter none (λc =>
 cnd (decide (c.1<Aa x))
(Ad (idx x c.1) dnn λd =>
 cnd (d==126)
(Ad (FL c.2.2.1) dnn λh =>
 cnd (!h.2==0)
(cnd (decide (0<=Aa c.2.2.1))
(.next (wr .i64 (c.1+1),(c.2.1,(Ax c.2.2.1 0,(true,(false,c.2.2.2.2.2))))))
 dnn)
(Ad (GO h.1) dnn λg =>
 cnd (g.2==0&&c.2.2.2.1&&!c.2.2.2.2.1)
(cnd (true&&AA (Aa c.2.1+Aa (g.1::[])) 32)
(cnd (decide (0<=Aa c.2.2.1))
(.next (wr .i64 (c.1+1),(c.2.1++g.1::[],(Ax c.2.2.1 0,(true,(false,c.2.2.2.2.2))))))
 dnn)
 dnn)
(cnd (decide (0<=Aa c.2.2.1))
(.next (wr .i64 (c.1+1),(c.2.1,(Ax c.2.2.1 0,(true,(false,c.2.2.2.2.2))))))
 dnn)))
(cnd (decide (1043<=Aa c.2.2.1))
(.next (wr .i64 (c.1+1),(c.2.1,(c.2.2.1,(c.2.2.2.1,(true,c.2.2.2.2.2))))))
(cnd c.2.2.2.1
(cnd (true&&AA (Aa c.2.2.1+Aa (d::[])) 1)
(.next (wr .i64 (c.1+1),(c.2.1,(c.2.2.1++d::[],c.2.2.2))))
 dnn)
(.next (wr .i64 (c.1+1),c.2)))))
(.done (Ad (EC (x,126)) none λd =>
 some (c.2.1,(d,0))))) Am ((0:Int),([],([],(false,(false,true))))))))
def Gu (x:DJ×List CM):Option (DJ×List CM×Int) :=
 Ao (Hu x.1) λy =>
(cnd (!y==0)
(some ((false,(0,0)),([],y)))
(cnd (decide (1024<Aa x.2))
(some ((false,(0,0)),([],4)))
(iter none (λg =>
 cnd (decide (g.1<Aa x.2))
(Ad (idx x.2 g.1) dnn λc =>
 cnd (decide (512<Aa c.2.2))
(.done (some ((false,(0,0)),([],3))))
(.next (wr .i64 (g.1+1),g.2)))
(.done (iter none (λc =>
 cnd (decide (c.2.1<Aa x.2))
(Ad (idx x.2 c.2.1) dnn λd =>
 cnd (c.2.2.1&&decide (d.2.1<=c.2.2.2.1))
(.next (c.1,(wr .i64 (c.2.1+1),c.2.2)))
(Ad (Di d.2.2) dnn λh =>
 cnd (true&&AA (Aa c.1+Aa ((d.1,(d.2.1,h))::[])) 32)
(.next (c.1++(d.1,(d.2.1,h))::[],(wr .i64 (c.2.1+1),(true,(d.2.1,c.2.2.2.2)))))
 dnn))
(.done (cnd (decide (0<Aa c.1))
(some ((c.2.2.1,(c.2.2.2.1,0)),(c.1,0)))
(some ((c.2.2.1,(c.2.2.2.1,Bb (wr .i64 (c.2.2.2.2+1)) 1048576)),(c.1,0)))))) Am ([],((0:Int),x.1))))) Am ((0:Int),(false,((0:Int),(0:Int)))))))
def Bq (x:Ot×Int):Option (Ot×Int) :=
 Ad (EZ x.1.1) none λc =>
(cnd (!c.2.2==0||decide (wr .u64 x.2<c.1))
(some ((x.1.1,true),0))
(cnd (decide (0<=c.2.1)&&decide (c.2.1<=Aa x.1.1))
(some ((A5 x.1.1 c.2.1,x.1.2),wr .i64 c.1))
 none))
def Fy (x:List Int):Option (FG×Int) :=
 Ad (Bq ((x,false),65535)) none λg =>
 Ad (Bq (g.1,1048576)) none λh =>
 Ad (Bq (h.1,1048576)) none λo =>
 Ad (Bq (o.1,8)) none λp =>
 iter none (λc =>
 cnd (decide (c.1<p.2))
(Ad (Bq (c.2.2,1048576)) dnn λd =>
 cnd (true&&AA (Aa c.2.1.2.2.2+Aa (d.2::[])) 8)
(.next (wr .i64 (c.1+1),((c.2.1.1,(c.2.1.2.1,(c.2.1.2.2.1,c.2.1.2.2.2++d.2::[]))),d.1)))
 dnn)
(.done (Ad (GC c.2.1) none λd =>
 cnd (c.2.2.2||!d.2==0||!bytes_Equal (d.1,x))
(some ((0,(0,(0,[]))),8))
(some (c.2.1,0))))) Am ((0:Int),((g.2,(h.2,(o.2,[]))),p.1))
def Qn (x:Int×Int):Option Int :=
 some (Bb (wr .i64 (x.1+1)) x.2)
def Cw (x:Int×Int):Int :=
 Bb (wr .i64 (x.1+1)) x.2
theorem nQ (x:Int×Int):Qn x=some (Cw x):=by unfold Qn Cw;rfl
def Hw (x:CS):Option (CS×Bool) :=
(cnd (decide (0<=Bb 8192 (Aa x.2.2.1.1))&&decide (Bb 8192 (Aa x.2.2.1.1)<=Aa x.2.2.1.1))
(Ad (BS (x.2.1.2.2.2.2.2.1::Ax x.2.2.1.1 (Bb 8192 (Aa x.2.2.1.1))::[])) none λh =>
 Ad (Cv h) none λg =>
 CT (λd =>
 Ad (Gu (d.2.1.2.2.2.2.1,g.1)) none λo =>
 iter none (λc =>
 cnd (decide (c.2.1<Aa o.2.1))
(Ad (idx o.2.1 c.2.1) dnn λt =>
 Ad (Fy t.2.2) dnn λp =>
 cnd (t.1==2&&p.2==0&&p.1.1==c.2.2.1.1)
(Ad (EY (c.2.2.1,p.1.2)) dnn λv =>
.next (true,(wr .i64 (c.2.1+1),(c.2.2.1,(((c.2.2.2.1.1.1,()),(c.2.2.2.1.2.1,(c.2.2.2.1.2.2.1,(c.2.2.2.1.2.2.2.1,(c.2.2.2.1.2.2.2.2.1,(c.2.2.2.1.2.2.2.2.2.1,(v.1,c.2.2.2.1.2.2.2.2.2.2.2))))))),c.2.2.2.2)))))
(.next (c.1,(wr .i64 (c.2.1+1),(c.2.2.1,(((c.2.2.2.1.1.1,()),c.2.2.2.1.2),c.2.2.2.2))))))
(.done (Ao (Cw (c.2.2.2.1.2.2.2.2.2.2.2.1,1048576)) λy =>
 cnd c.1
(some ((c.2.2.1,(((c.2.2.2.1.1.1,()),(c.2.2.2.1.2.1,(c.2.2.2.1.2.2.1,(c.2.2.2.1.2.2.2.1,(c.2.2.2.1.2.2.2.2.1,(c.2.2.2.1.2.2.2.2.2.1,(c.2.2.2.1.2.2.2.2.2.2.1,(0,c.2.2.2.1.2.2.2.2.2.2.2.2)))))))),c.2.2.2.2)),c.1))
(some ((c.2.2.1,(((c.2.2.2.1.1.1,()),(c.2.2.2.1.2.1,(c.2.2.2.1.2.2.1,(c.2.2.2.1.2.2.2.1,(c.2.2.2.1.2.2.2.2.1,(c.2.2.2.1.2.2.2.2.2.1,(c.2.2.2.1.2.2.2.2.2.2.1,(y,c.2.2.2.1.2.2.2.2.2.2.2.2)))))))),c.2.2.2.2)),c.1))))) Am (false,((0:Int),(d.1,(((d.2.1.1.1,()),(d.2.1.2.1,(d.2.1.2.2.1,(d.2.1.2.2.2.1,(o.1,d.2.1.2.2.2.2.2))))),d.2.2))))) λk =>
 cnd (decide (0<=g.2.1)&&decide (wr .i64 (Aa h-g.2.1)<=2048))
(cnd (decide (0<=g.2.1)&&decide (g.2.1<=Aa h))
(Ad (FJ (A5 h g.2.1)) none λd =>
 k (x.1,(((x.2.1.1.1,()),(x.2.1.2.1,(x.2.1.2.2.1,(x.2.1.2.2.2.1,(x.2.1.2.2.2.2.1,(d,x.2.1.2.2.2.2.2.2)))))),x.2.2)))
 none)
(k (x.1,(((x.2.1.1.1,()),(x.2.1.2.1,(x.2.1.2.2.1,(x.2.1.2.2.2.1,(x.2.1.2.2.2.2.1,([],x.2.1.2.2.2.2.2.2)))))),x.2.2))))
 none)
def EK (x:List Int×List Int):Option Bool :=
(cnd (!Aa x.1==Aa x.2)
(some false)
(iter none (λc =>
 cnd (decide (c<Aa x.1))
(Ad (idx x.1 c) dnn λd =>
 Ad (idx x.2 c) dnn λg =>
 cnd (!d==g)
(.done (some false))
(.next (wr .i64 (c+1))))
(.done (some true))) Am (0:Int)))
def ME (x:AJ×AJ):Option Bool :=
(cnd (x.1.1==x.2.1&&x.1.2.1==x.2.2.1)
(Ad (EK (x.1.2.2,x.2.2.2)) none λc =>
 some c)
(some false))
def DR (x:H6×Int):Option Int :=
 iter none (λh =>
 cnd (decide (h.2<Aa x.1.2.1))
(Ad (idx x.1.2.1 h.2) dnn λd =>
 cnd (decide (8<=Aa d))
(Ad (CL (Ax d 8)) dnn λg =>
 cnd (decide (56<=Aa d))
(Ad (CL (A5 d 56)) dnn λo =>
 iter dnn (λc =>
 cnd (decide (c.2<Aa (g::o::[])))
(Ad (idx (g::o::[]) c.2) (.done dnn) λp =>
 cnd (decide (p<4611686018427387904))
(.next (B8 c.1 (wr .i64 p),wr .i64 (c.2+1)))
(.next (c.1,wr .i64 (c.2+1))))
(.done (.next (c.1,wr .i64 (h.2+1))))) Am (h.1,(0:Int)))
 dnn)
 dnn)
(.done (iter none (λd =>
 iter dnn (λg =>
 cnd (decide (g<Aa x.1.2.1))
(Ad (idx x.1.2.1 g) (.done dnn) λo =>
 Ad (idx o 56) (.done dnn) λc =>
 cnd (c==wr .u8 d)
(.done (.next (wr .i64 (d+1))))
(.next (wr .i64 (g+1))))
(.done (.done (some d)))) Am (0:Int)) Am (wr .i64 (h.1+(1:Int)))))) Am (x.2,(0:Int))
def Lb (x:Bk×Int×List AJ):Option (List Hi×Int) :=
 Ao (C9 (x.1.1,())) λy =>
(cnd (!y.2==0)
(cnd (!y.2==0)
(some ([],y.2))
(cnd (decide (3<x.2.1))
(some ([],2))
 none))
(cnd (decide (y.1<2))
(some ([],190))
(iter none (λh =>
 cnd (decide (h.1<DZ IntKind.i64 y.1 2))
(Ad (CZ ((x.1.1,()),wr .i64 (wr .i64 (0*DZ IntKind.i64 y.1 2)+h.1))) dnn λd =>
 cnd (true&&AA (Aa h.2.2.1+Aa (d.1::[])) 24)
(.next (wr .i64 (h.1+1),(h.2.1,(h.2.2.1++d.1::[],h.2.2.2))))
 dnn)
(.done (Ad (A8 h.2) none λd =>
 iter none (λo =>
 cnd (decide (o.1<DZ IntKind.i64 y.1 2))
(Ad (CZ ((x.1.1,()),wr .i64 (wr .i64 (1*DZ IntKind.i64 y.1 2)+o.1))) dnn λp =>
 cnd (true&&AA (Aa o.2.2.1+Aa (p.1::[])) 24)
(.next (wr .i64 (o.1+1),(o.2.1,(o.2.2.1++p.1::[],o.2.2.2))))
 dnn)
(.done (Ad (A8 o.2) none λp =>
 cnd (decide (3<x.2.1))
(some ([],2))
(Ad (Cg ((1,x.2),Aa d.2.1)) none λE =>
 cnd (!E.2==0)
(some ([],E.2))
(cnd (d.2.2&&!(p.2.2&&decide (d.1.1<p.1.1)))
(Ad (DR (p,d.1.1)) none λt =>
 cnd (decide (4611686018427387904<=t))
(some ([],190))
(Ad (Cg ((t,x.2),Aa d.2.1)) none λg =>
 iter none (λc =>
 cnd (decide (c.2<Aa g.1))
(Ad (idx g.1 c.2) dnn λv =>
 cnd (true&&AA (Aa c.1+Aa ((wr .i64 (wr .i64 (1*Aa d.2.1)+c.2),v)::[])) 32)
(.next (c.1++(wr .i64 (wr .i64 (1*Aa d.2.1)+c.2),v)::[],wr .i64 (c.2+1)))
 dnn)
(.done (some (c.1,g.2)))) Am ([],(0:Int))))
(cnd p.2.2
(Ad (DR (d,p.1.1)) none λt =>
 cnd (decide (4611686018427387904<=t))
(some ([],190))
(Ad (Cg ((t,x.2),Aa d.2.1)) none λg =>
 iter none (λc =>
 cnd (decide (c.2<Aa g.1))
(Ad (idx g.1 c.2) dnn λv =>
 cnd (true&&AA (Aa c.1+Aa ((wr .i64 (wr .i64 (0*Aa d.2.1)+c.2),v)::[])) 32)
(.next (c.1++(wr .i64 (wr .i64 (0*Aa d.2.1)+c.2),v)::[],wr .i64 (c.2+1)))
 dnn)
(.done (some (c.1,g.2)))) Am ([],(0:Int))))
(Ad (DR (d,0)) none λt =>
 cnd (decide (4611686018427387904<=t))
(some ([],190))
(Ad (Cg ((t,x.2),Aa d.2.1)) none λg =>
 iter none (λc =>
 cnd (decide (c.2<Aa g.1))
(Ad (idx g.1 c.2) dnn λv =>
 cnd (true&&AA (Aa c.1+Aa ((wr .i64 (wr .i64 (0*Aa d.2.1)+c.2),v)::[])) 32)
(.next (c.1++(wr .i64 (wr .i64 (0*Aa d.2.1)+c.2),v)::[],wr .i64 (c.2+1)))
 dnn)
(.done (some (c.1,g.2)))) Am ([],(0:Int)))))))))) Am ((0:Int),(((0:Int),((0:Int),[])),([],false)))))) Am ((0:Int),(((0:Int),((0:Int),[])),([],false))))))
def Fj (x:CS):Option CS :=
 Ad (E4 (x.2.1.1.1,())) none λc =>
(cnd (c.2==0&&c.1.2.1==x.2.1.2.2.1.1&&Aa c.1.2.2==1)
(Ad (idx c.1.2.2 0) none λd =>
 Ad (ME (d,x.2.1.2.2.2.2.2.2.1)) none λg =>
 cnd g
(some (x.1,(((x.2.1.1.1,()),x.2.1.2),x.2.2)))
(Ad (Lb ((x.2.1.1.1,()),(x.2.1.2.2.1.1,x.2.1.2.2.2.2.2.2.1::[]))) none λh =>
 some (x.1,(((x.2.1.1.1,()),x.2.1.2),(x.2.2.1,(h.1,x.2.2.2.2))))))
(Ad (Lb ((x.2.1.1.1,()),(x.2.1.2.2.1.1,x.2.1.2.2.2.2.2.2.1::[]))) none λd =>
 some (x.1,(((x.2.1.1.1,()),x.2.1.2),(x.2.2.1,(d.1,x.2.2.2.2))))))
def IG (x:Bk×List Hi×Int×Int):Option (Bk×Int) :=
 Ao (DS (x.1.1,())) λy =>
(cnd (!y==0)
(cnd (!y==0)
(some (([],()),y))
(some (([],()),y)))
(iter none (λd =>
 cnd (decide (d.1<Aa x.2.1))
(Ad (idx x.2.1 d.1) dnn λo =>
 Ao (HG ((x.1.1,()),o.1)) λy1 =>
 cnd (!y1==0)
(.done (cnd (!y1==0)
(some (([],()),y1))
(some ((d.2.1.1,()),y1))))
(cnd (!Aa o.2==64)
(.done (some (([],()),8)))
(.next (wr .i64 (d.1+1),((d.2.1.1,()),y1)))))
(.done (cnd (decide (x.2.2.1<0)||decide (Aa x.2.1<x.2.2.1)||decide (x.2.2.2<0)||decide (64<x.2.2.2))
(some (([],()),2))
(Ad (Di x.1.1) none λo =>
 iter none (λc =>
 cnd (decide (c.1<Aa x.2.1))
(Ad (idx x.2.1 c.1) dnn λg =>
 cnd (decide (c.1<x.2.2.1))
(Ad (S1 (Aa c.2.1,g.1)) dnn λh =>
.next (wr .i64 (c.1+1),(CR c.2.1 h.1 h.2 g.2,())))
(cnd (c.1==x.2.2.1)
(Ad (S1 (Aa c.2.1,g.1)) dnn λh =>
 cnd (decide (0<=x.2.2.2)&&decide (x.2.2.2<=Aa g.2))
(.next (wr .i64 (c.1+1),(CR c.2.1 h.1 h.2 (Ax g.2 x.2.2.2),())))
 dnn)
(.next (wr .i64 (c.1+1),(c.2.1,())))))
(.done (cnd (!d.2.2==0)
(some (([],()),d.2.2))
(some ((c.2.1,()),d.2.2))))) Am (0,(o,())))))) Am (0,(([],()),y))))
def E3 (x:List Int×Int):Option (List Int):=match x.1 with
 |v::[]=>if 1<=x.2/\x.2<=1000000 then some (Ay x.2 v) else none
 |_=>none
theorem sY {l:List Int} {k:Int} {y:List Int} (h:E3 (l,k)=some y):∃v,l=v::[]/\1<=k/\k<=1000000/\y=Ay k v:=by
 unfold E3 at h;split at h
 ·rename_i v d;split at h
  ·rename_i c;cases h;exact ⟨v,d,c.1,c.2,rfl⟩
  ·cases h
 ·cases h
def Fi (x:CS):Option (CS×List Int) :=
 Ad (E3 (4::[],Aa x.1.2.1)) none λc =>
 some ((x.1,(((x.2.1.1.1,()),x.2.1.2),x.2.2)),c)
def Hx (x:CS):Option CS :=
 CT (λg =>
 Ad (IG ((x.2.1.1.1,()),(x.2.2.2.1,(Bb (B8 0 x.2.2.1.2.2.2.2.1) (Aa x.2.2.2.1),g)))) none λh =>
 Ad (Jc (x.1,(h.1.1,()))) none λd =>
 Ad (Fi (x.1,(((d.1.1,()),d.2),x.2.2))) none λc =>
 Ad (HT (c.1.1,(x.2.1.2.1,c.2))) none λo =>
 Ao (Cw (x.2.1.2.2.2.2.2.2.2.2.2.2.2.2.2.1,1073741824)) λy =>
 some (c.1.1,(((c.1.2.1.1.1,()),(o.1,(c.1.2.1.2.2.1,(c.1.2.1.2.2.2.1,(c.1.2.1.2.2.2.2.1,(c.1.2.1.2.2.2.2.2.1,(c.1.2.1.2.2.2.2.2.2.1,(c.1.2.1.2.2.2.2.2.2.2.1,(c.1.2.1.2.2.2.2.2.2.2.2.1,(c.1.2.1.2.2.2.2.2.2.2.2.2.1,(c.1.2.1.2.2.2.2.2.2.2.2.2.2.1,(c.1.2.1.2.2.2.2.2.2.2.2.2.2.2.1,(c.1.2.1.2.2.2.2.2.2.2.2.2.2.2.2.1,(y,(c.1.2.1.2.2.2.2.2.2.2.2.2.2.2.2.2.2.1,(c.1.2.1.2.2.2.2.2.2.2.2.2.2.2.2.2.2.2.1,(c.1.2.1.2.2.2.2.2.2.2.2.2.2.2.2.2.2.2.2.1,x.2.1.2.2.2.2.2.2.2.2.2.2.2.2.2.2.2.2.2))))))))))))))))),(c.1.2.2.1,(c.1.2.2.2.1,(c.1.2.2.2.2.1,(c.1.2.2.2.2.2.1,(c.2,c.1.2.2.2.2.2.2.2)))))))) λk =>
(cnd (Bb (B8 0 x.2.2.1.2.2.2.2.1) (Aa x.2.2.2.1)==Aa x.2.2.2.1)
(k 0)
(k (Bb (B8 0 x.2.2.1.2.2.2.2.2.1) 63)))
def F6 (x:List Ji):Option (List Ji) :=
(cnd (true&&AA (0+Aa x) 16)
(some ([]++x))
 none)
def GB (x:List C7):Option (List C7) :=
(cnd (true&&AA (0+Aa x) 40)
(some ([]++x))
 none)
def CQ (x:(Bool×Bool×Int)×Bool×Int):(Bool×Bool×Int)×Int :=
 if x.1.2.2<0\/1048576<x.1.2.2 then ((false,false,0),8)
 else if x.2.2<1\/1048576<x.2.2 then ((false,false,0),2)
 else
  let s:=Bb ((if x.2.1=x.1.2.1 then x.1.2.2 else 0)+1) 1048576
  ((if x.2.2<=s then x.2.1 else x.1.1,x.2.1,s),0)
def Tj (x:C7×Bool):Option (C7×Int) :=
 Ao (FM x.1) λy =>
(cnd (!y==0)
(some ((false,(0,(0,(0,0)))),y))
(cnd (!x.2)
(some ((false,(0,(Bb (wr .i64 (x.1.2.2.1+1)) 1048576,(x.1.2.2.2.1,A9 IntKind.u64 x.1.2.2.2.2 1)))),0))
(cnd (!x.1.1)
(some ((true,(Bb (wr .i64 (x.1.2.1+1)) 1048576,(0,(Bb (wr .i64 (x.1.2.2.2.1+1)) 1073741824,Aq BinOp.or IntKind.u64 (A9 IntKind.u64 x.1.2.2.2.2 1) 1)))),0))
(some ((true,(Bb (wr .i64 (x.1.2.1+1)) 1048576,(0,(x.1.2.2.2.1,Aq BinOp.or IntKind.u64 (A9 IntKind.u64 x.1.2.2.2.2 1) 1)))),0)))))
def HK (x:C7×Bool):C7×Int :=
 Ao (FM x.1) λy =>
(cnd (!y==0)
((false,(0,(0,(0,0)))),y)
(cnd (!x.2)
((false,(0,(Bb (wr .i64 (x.1.2.2.1+1)) 1048576,(x.1.2.2.2.1,A9 IntKind.u64 x.1.2.2.2.2 1)))),0)
(cnd (!x.1.1)
((true,(Bb (wr .i64 (x.1.2.1+1)) 1048576,(0,(Bb (wr .i64 (x.1.2.2.2.1+1)) 1073741824,Aq BinOp.or IntKind.u64 (A9 IntKind.u64 x.1.2.2.2.2 1) 1)))),0)
((true,(Bb (wr .i64 (x.1.2.1+1)) 1048576,(0,(x.1.2.2.2.1,Aq BinOp.or IntKind.u64 (A9 IntKind.u64 x.1.2.2.2.2 1) 1)))),0))))
theorem xU (x:C7×Bool):Tj x=some (HK x):=by unfold Tj HK;simp only[Ao,C0]
def JJ (x:Int):Option Int :=
 some (yQ x)
def GJ (x:Int):Int:=Pa x
theorem UR (x:Int) (c:Jh [U64] x):JJ x=some (GJ x):=by have h:JJ x=some (yQ x):=id rfl;rw[h,Ae8 c];rfl
def Pc (x:Al×Int×Bl×Bool):Option Bl :=
(cnd (!x.2.2.2==x.2.2.1.1)
(Ad (idx x.1.2.2.2.2.2.1 x.2.1) none λc =>
 cnd (x.2.2.2&&decide (c.2.1<=Bb 1 1048576))
(some (x.2.2.2,(Bb 1 1048576,(Aq BinOp.or IntKind.u64 (A9 IntKind.u64 x.2.2.1.2.2.1 1) 1,(true,0)))))
(cnd (!x.2.2.2&&decide (c.2.2.1<=Bb 1 1048576))
(some (x.2.2.2,(Bb 1 1048576,(Aq BinOp.or IntKind.u64 (A9 IntKind.u64 x.2.2.1.2.2.1 1) 1,(true,0)))))
(Ao (GJ (Aq BinOp.or IntKind.u64 (A9 IntKind.u64 x.2.2.1.2.2.1 1) 1)) λy =>
 cnd (decide (c.2.2.2<y))
(some (x.2.2.2,(Bb 1 1048576,(Aq BinOp.or IntKind.u64 (A9 IntKind.u64 x.2.2.1.2.2.1 1) 1,(true,0)))))
(cnd x.2.2.1.2.2.2.1
(cnd (decide (x.1.2.2.2.2.2.2.2.2.1<=wr .i64 (x.2.2.1.2.2.2.2+1)))
(some (x.2.2.2,(Bb 1 1048576,(Aq BinOp.or IntKind.u64 (A9 IntKind.u64 x.2.2.1.2.2.1 1) 1,(false,0)))))
(some (x.2.2.2,(Bb 1 1048576,(Aq BinOp.or IntKind.u64 (A9 IntKind.u64 x.2.2.1.2.2.1 1) 1,(x.2.2.1.2.2.2.1,wr .i64 (x.2.2.1.2.2.2.2+1)))))))
(some (x.2.2.2,(Bb 1 1048576,(Aq BinOp.or IntKind.u64 (A9 IntKind.u64 x.2.2.1.2.2.1 1) 1,x.2.2.1.2.2.2))))))))
(Ad (idx x.1.2.2.2.2.2.1 x.2.1) none λc =>
 cnd (x.2.2.2&&decide (c.2.1<=Bb (wr .i64 (x.2.2.1.2.1+1)) 1048576))
(some (x.2.2.1.1,(Bb (wr .i64 (x.2.2.1.2.1+1)) 1048576,(A9 IntKind.u64 x.2.2.1.2.2.1 1,(true,0)))))
(cnd (!x.2.2.2&&decide (c.2.2.1<=Bb (wr .i64 (x.2.2.1.2.1+1)) 1048576))
(some (x.2.2.1.1,(Bb (wr .i64 (x.2.2.1.2.1+1)) 1048576,(A9 IntKind.u64 x.2.2.1.2.2.1 1,(true,0)))))
(Ao (GJ (A9 IntKind.u64 x.2.2.1.2.2.1 1)) λy =>
 cnd (decide (c.2.2.2<y))
(some (x.2.2.1.1,(Bb (wr .i64 (x.2.2.1.2.1+1)) 1048576,(A9 IntKind.u64 x.2.2.1.2.2.1 1,(true,0)))))
(cnd x.2.2.1.2.2.2.1
(cnd (decide (x.1.2.2.2.2.2.2.2.2.1<=wr .i64 (x.2.2.1.2.2.2.2+1)))
(some (x.2.2.1.1,(Bb (wr .i64 (x.2.2.1.2.1+1)) 1048576,(A9 IntKind.u64 x.2.2.1.2.2.1 1,(false,0)))))
(some (x.2.2.1.1,(Bb (wr .i64 (x.2.2.1.2.1+1)) 1048576,(A9 IntKind.u64 x.2.2.1.2.2.1 1,(x.2.2.1.2.2.2.1,wr .i64 (x.2.2.1.2.2.2.2+1)))))))
(some (x.2.2.1.1,(Bb (wr .i64 (x.2.2.1.2.1+1)) 1048576,(A9 IntKind.u64 x.2.2.1.2.2.1 1,x.2.2.1.2.2.2)))))))))
def QX (x:Al×List Bl×Int):Option (List Bl×Int) :=
 Ad (K4 (x.1,x.2.1)) none λd =>
(cnd (!d==0)
(some ([],d))
(cnd (decide (0<=Aa x.2.1)&&(decide (Aa x.2.1<=Aa x.2.1)&&B5 (Aa x.2.1) 40))
(iter none (λc =>
 cnd (decide (c.1<Aa x.2.1))
(Ad (idx x.2.1 c.1) dnn λg =>
 Ao (Fz (x.2.2,c.1)) λy =>
 Ad (Pc (x.1,(c.1,(g,y)))) dnn λh =>
 Ad (idx c.2 c.1) dnn λ_ =>
 Ad (idx c.2 c.1) dnn λ_ =>
.next (wr .i64 (c.1+1),AB c.2 c.1 h))
(.done (some (c.2,0)))) Am ((0:Int),Ay (Aa x.2.1) (false,((0:Int),((0:Int),(false,(0:Int)))))))
 none))
def Kp (x:Al×Int×Int):Option Bool :=
 Ad (idx x.1.2.2.2.2.1 x.2.1) none λc =>
(cnd (decide (0<=x.2.2))
(some (Aq BinOp.and IntKind.u32 (AH IntKind.u32 c.1 x.2.2) 1==1))
 none)
def Om (x:Al×Bx×Int):Option Bool :=
 iter none (λc =>
 cnd (decide (c<Aa x.2.1.1))
(Ad (idx x.2.1.1 c) dnn λd =>
 Ad (Kp (x.1,(x.2.2,c))) dnn λg =>
 cnd (g&&!d.1==2)
(.done (some false))
(.next (wr .i64 (c+1))))
(.done (some true))) Am (0:Int)
def GA (x:Al×Bx×Int):Option (Bool×Int) :=
 CT (λc =>
 cnd (c==0)
(Ad (Om x) none λd =>
 some (d,c))
(some (false,c))) λk =>
 Ad (AD x.1) none λc =>
(cnd (!c==0)
(k c)
(cnd (!Aa x.2.1.1==Aa x.1.2.1)
(k 8)
(cnd (decide (x.2.2<0)||decide (Aa x.1.2.2.2.2.1<=x.2.2))
(k 2)
(k 0))))
def HY (x:CS):Option CS :=
 Ad (F6 x.2.1.2.2.2.2.2.2.2.2.1) none λE =>
 Ad (F6 x.2.1.2.2.2.2.2.2.2.2.1) none λv =>
 Ad (GB x.2.1.2.2.2.2.2.2.2.2.2.2.1) none λI =>
 iter none (λc =>
 cnd (decide (c.1<Aa v))
(Ad (idx c.2.2.2.1.2.2.2.2.2.2.2.2.1 c.1) dnn λ_ =>
 Ad (idx c.2.2.2.1.2.2.2.2.2.2.2.2.1 c.1) dnn λg =>
 cnd (decide (0<=c.1))
(Ao (CQ (g,(Aq BinOp.and IntKind.u32 (AH IntKind.u32 c.2.2.2.2.1.2.1 c.1) 1==1,2))) λy =>
 Ad (idx c.2.2.2.1.2.2.2.2.2.2.2.2.1 c.1) dnn λ_ =>
 Ad (idx c.2.2.2.1.2.2.2.2.2.2.2.2.1 c.1) dnn λ_ =>
 Ad (idx c.2.2.2.1.2.2.2.2.2.2.2.2.2.2.1 c.1) dnn λ_ =>
 Ad (idx c.2.2.2.1.2.2.2.2.2.2.2.2.2.2.1 c.1) dnn λh =>
 Ad (idx (AB c.2.2.2.1.2.2.2.2.2.2.2.2.1 c.1 y.1) c.1) dnn λ_ =>
 Ad (idx (AB c.2.2.2.1.2.2.2.2.2.2.2.2.1 c.1 y.1) c.1) dnn λo =>
 Ao (HK (h,o.1)) λy1 =>
 Ad (idx c.2.2.2.1.2.2.2.2.2.2.2.2.2.2.1 c.1) dnn λ_ =>
 Ad (idx c.2.2.2.1.2.2.2.2.2.2.2.2.2.2.1 c.1) dnn λ_ =>
 Ad (idx (AB c.2.2.2.1.2.2.2.2.2.2.2.2.1 c.1 y.1) c.1) dnn λ_ =>
 Ad (idx (AB c.2.2.2.1.2.2.2.2.2.2.2.2.1 c.1 y.1) c.1) dnn λp =>
 cnd p.1
(cnd (decide (0<=c.1))
(.next (wr .i64 (c.1+1),(Aq BinOp.or IntKind.u32 c.2.1 (A9 IntKind.u32 1 c.1),(c.2.2.1,(((c.2.2.2.1.1.1,()),(c.2.2.2.1.2.1,(c.2.2.2.1.2.2.1,(c.2.2.2.1.2.2.2.1,(c.2.2.2.1.2.2.2.2.1,(c.2.2.2.1.2.2.2.2.2.1,(c.2.2.2.1.2.2.2.2.2.2.1,(c.2.2.2.1.2.2.2.2.2.2.2.1,(AB c.2.2.2.1.2.2.2.2.2.2.2.2.1 c.1 y.1,(c.2.2.2.1.2.2.2.2.2.2.2.2.2.1,(AB c.2.2.2.1.2.2.2.2.2.2.2.2.2.2.1 c.1 y1.1,c.2.2.2.1.2.2.2.2.2.2.2.2.2.2.2))))))))))),c.2.2.2.2)))))
 dnn)
(.next (wr .i64 (c.1+1),(c.2.1,(c.2.2.1,(((c.2.2.2.1.1.1,()),(c.2.2.2.1.2.1,(c.2.2.2.1.2.2.1,(c.2.2.2.1.2.2.2.1,(c.2.2.2.1.2.2.2.2.1,(c.2.2.2.1.2.2.2.2.2.1,(c.2.2.2.1.2.2.2.2.2.2.1,(c.2.2.2.1.2.2.2.2.2.2.2.1,(AB c.2.2.2.1.2.2.2.2.2.2.2.2.1 c.1 y.1,(c.2.2.2.1.2.2.2.2.2.2.2.2.2.1,(AB c.2.2.2.1.2.2.2.2.2.2.2.2.2.2.1 c.1 y1.1,c.2.2.2.1.2.2.2.2.2.2.2.2.2.2.2))))))))))),c.2.2.2.2))))))
 dnn)
(.done (Ad (QX (c.2.2.1,(c.2.2.2.1.2.2.2.2.2.2.2.2.2.1,c.2.1))) none λd =>
 Ad (GA (c.2.2.1,(c.2.2.2.1.2.1,c.2.2.2.1.2.2.2.1.1))) none λg =>
 cnd g.1
(Ad (HH (c.2.2.1,(c.2.2.2.1.2.2.2.2.2.2.2.2.2.2.2.1,(d.1,c.2.2.2.1.2.2.2.1.1)))) none λt =>
 some (c.2.2.1,(((c.2.2.2.1.1.1,()),(c.2.2.2.1.2.1,(c.2.2.2.1.2.2.1,(c.2.2.2.1.2.2.2.1,(c.2.2.2.1.2.2.2.2.1,(c.2.2.2.1.2.2.2.2.2.1,(c.2.2.2.1.2.2.2.2.2.2.1,(c.2.2.2.1.2.2.2.2.2.2.2.1,(c.2.2.2.1.2.2.2.2.2.2.2.2.1,(d.1,(c.2.2.2.1.2.2.2.2.2.2.2.2.2.2.1,(t.1,c.2.2.2.1.2.2.2.2.2.2.2.2.2.2.2.2)))))))))))),c.2.2.2.2)))
(Ad (HH (c.2.2.1,(c.2.2.2.1.2.2.2.2.2.2.2.2.2.2.2.1,(d.1,-1)))) none λt =>
 some (c.2.2.1,(((c.2.2.2.1.1.1,()),(c.2.2.2.1.2.1,(c.2.2.2.1.2.2.1,(c.2.2.2.1.2.2.2.1,(c.2.2.2.1.2.2.2.2.1,(c.2.2.2.1.2.2.2.2.2.1,(c.2.2.2.1.2.2.2.2.2.2.1,(c.2.2.2.1.2.2.2.2.2.2.2.1,(c.2.2.2.1.2.2.2.2.2.2.2.2.1,(d.1,(c.2.2.2.1.2.2.2.2.2.2.2.2.2.2.1,(t.1,c.2.2.2.1.2.2.2.2.2.2.2.2.2.2.2.2)))))))))))),c.2.2.2.2)))))) Am ((0:Int),((0:Int),(x.1,(((x.2.1.1.1,()),(x.2.1.2.1,(x.2.1.2.2.1,(x.2.1.2.2.2.1,(x.2.1.2.2.2.2.1,(x.2.1.2.2.2.2.2.1,(x.2.1.2.2.2.2.2.2.1,(x.2.1.2.2.2.2.2.2.2.1,(v,(x.2.1.2.2.2.2.2.2.2.2.2.1,(I,x.2.1.2.2.2.2.2.2.2.2.2.2.2))))))))))),(x.2.2.1,(x.2.2.2.1,(E,x.2.2.2.2.2)))))))
def Ie (x:Al×Int):Option Int :=
 Ad (AD x.1) none λc =>
(cnd (!c==0)
(some c)
(cnd (decide (x.2<0)||decide (1048576<x.2))
(some 2)
(some 0)))
def Lm (x:Al×List Int):Option Int :=
(cnd (!Aa x.2==Aa x.1.2.1)
(some 4)
(iter none (λc =>
 cnd (decide (c<Aa x.2))
(Ad (idx x.2 c) dnn λd =>
 cnd (decide (4<d))
(.done (some 2))
(.next (wr .i64 (c+1))))
(.done (some 0))) Am (0:Int)))
def Mp (x:Al×List Int×List Int):Option (Bool×Int) :=
 iter none (λd =>
 cnd (decide (d<Aa (x.2.1::x.2.2::[])))
(Ad (idx (x.2.1::x.2.2::[]) d) dnn λc =>
 cnd (d==1&&Aa c==0)
(.next (wr .i64 (d+1)))
(Ad (Lm (x.1,c)) dnn λg =>
 cnd (!g==0)
(.done (some (false,g)))
(.next (wr .i64 (d+1)))))
(.done (iter none (λc =>
 cnd (decide (c<Aa x.2.2))
(Ad (idx x.2.2 c) dnn λg =>
 Ad (idx x.2.1 c) dnn λh =>
 cnd (!h==g)
(.done (some (true,0)))
(.next (wr .i64 (c+1))))
(.done (some (false,0)))) Am (0:Int)))) Am (0:Int)
def N0 (x:Al×Int×List Int×List Int):Option (Int×Int) :=
 Ad (Ie (x.1,x.2.1)) none λd =>
(cnd (!d==0)
(some (0,d))
(Ad (Mp (x.1,x.2.2)) none λc =>
 cnd (!c.2==0||!c.1)
(some (0,c.2))
(some (Bb (wr .i64 (x.2.1+1)) 1048576,0))))
def KD (x:Al×Int):Option (Bool×Int) :=
 Ad (Ie x) none λc =>
(cnd (!c==0)
(some (false,c))
(some (decide (x.1.2.2.2.2.2.2.2.1<=x.2),0)))
def G3 (x:CS):Option (CS×H5×Dy) :=
 iter none (λg =>
 cnd (decide (g.2<Aa x.2.1.2.1.1))
(Ad (idx x.2.1.2.1.1 g.2) dnn λp =>
 cnd (true&&AA (Aa g.1+Aa (p.1::[])) 1)
(.next (g.1++p.1::[],wr .i64 (g.2+1)))
 dnn)
(.done (Ad (N0 (x.1,(x.2.1.2.2.2.2.2.2.2.2.2.2.2.2.1,(g.1,x.2.2.1.2.2.1)))) none λp =>
 CT (λd =>
 Ad (KD (x.1,d)) none λh =>
 Ad (E4 (x.2.1.1.1,())) none λc =>
 Ad (Mv (x.1,x.2.1.2.2.2.2.2.2.2.2.2.1)) none λo =>
 Ao (EX x.2.1.2.2.2.2.2.2.1) λy =>
 cnd (!y)
(cnd (!x.2.2.1.2.2.2.2.2.2)
(cnd (c.2==0)
(some ((x.1,(((x.2.1.1.1,()),(x.2.1.2.1,(x.2.1.2.2.1,(x.2.1.2.2.2.1,(x.2.1.2.2.2.2.1,(x.2.1.2.2.2.2.2.1,(x.2.1.2.2.2.2.2.2.1,(x.2.1.2.2.2.2.2.2.2.1,(x.2.1.2.2.2.2.2.2.2.2.1,(x.2.1.2.2.2.2.2.2.2.2.2.1,(x.2.1.2.2.2.2.2.2.2.2.2.2.1,(x.2.1.2.2.2.2.2.2.2.2.2.2.2.1,(d,x.2.1.2.2.2.2.2.2.2.2.2.2.2.2.2))))))))))))),x.2.2)),((decide (x.2.1.2.2.2.2.2.2.2.1<x.1.2.2.2.2.2.2.1),(decide (0<Aa c.1.2.2),(o.1,!h.1))),c.1)))
(some ((x.1,(((x.2.1.1.1,()),(x.2.1.2.1,(x.2.1.2.2.1,(x.2.1.2.2.2.1,(x.2.1.2.2.2.2.1,(x.2.1.2.2.2.2.2.1,(x.2.1.2.2.2.2.2.2.1,(x.2.1.2.2.2.2.2.2.2.1,(x.2.1.2.2.2.2.2.2.2.2.1,(x.2.1.2.2.2.2.2.2.2.2.2.1,(x.2.1.2.2.2.2.2.2.2.2.2.2.1,(x.2.1.2.2.2.2.2.2.2.2.2.2.2.1,(d,x.2.1.2.2.2.2.2.2.2.2.2.2.2.2.2))))))))))))),x.2.2)),((decide (x.2.1.2.2.2.2.2.2.2.1<x.1.2.2.2.2.2.2.1),(false,(o.1,!h.1))),c.1))))
(some ((x.1,(((x.2.1.1.1,()),(x.2.1.2.1,(x.2.1.2.2.1,(x.2.1.2.2.2.1,(x.2.1.2.2.2.2.1,(x.2.1.2.2.2.2.2.1,(x.2.1.2.2.2.2.2.2.1,(x.2.1.2.2.2.2.2.2.2.1,(x.2.1.2.2.2.2.2.2.2.2.1,(x.2.1.2.2.2.2.2.2.2.2.2.1,(x.2.1.2.2.2.2.2.2.2.2.2.2.1,(x.2.1.2.2.2.2.2.2.2.2.2.2.2.1,(d,x.2.1.2.2.2.2.2.2.2.2.2.2.2.2.2))))))))))))),x.2.2)),((decide (x.2.1.2.2.2.2.2.2.2.1<x.1.2.2.2.2.2.2.1),(false,(o.1,!h.1))),c.1))))
(cnd (!x.2.2.1.2.2.2.2.2.2)
(cnd (c.2==0)
(some ((x.1,(((x.2.1.1.1,()),(x.2.1.2.1,(x.2.1.2.2.1,(x.2.1.2.2.2.1,(x.2.1.2.2.2.2.1,(x.2.1.2.2.2.2.2.1,(x.2.1.2.2.2.2.2.2.1,(x.2.1.2.2.2.2.2.2.2.1,(x.2.1.2.2.2.2.2.2.2.2.1,(x.2.1.2.2.2.2.2.2.2.2.2.1,(x.2.1.2.2.2.2.2.2.2.2.2.2.1,(x.2.1.2.2.2.2.2.2.2.2.2.2.2.1,(d,x.2.1.2.2.2.2.2.2.2.2.2.2.2.2.2))))))))))))),x.2.2)),((false,(decide (0<Aa c.1.2.2),(o.1,!h.1))),c.1)))
(some ((x.1,(((x.2.1.1.1,()),(x.2.1.2.1,(x.2.1.2.2.1,(x.2.1.2.2.2.1,(x.2.1.2.2.2.2.1,(x.2.1.2.2.2.2.2.1,(x.2.1.2.2.2.2.2.2.1,(x.2.1.2.2.2.2.2.2.2.1,(x.2.1.2.2.2.2.2.2.2.2.1,(x.2.1.2.2.2.2.2.2.2.2.2.1,(x.2.1.2.2.2.2.2.2.2.2.2.2.1,(x.2.1.2.2.2.2.2.2.2.2.2.2.2.1,(d,x.2.1.2.2.2.2.2.2.2.2.2.2.2.2.2))))))))))))),x.2.2)),((false,(false,(o.1,!h.1))),c.1))))
(some ((x.1,(((x.2.1.1.1,()),(x.2.1.2.1,(x.2.1.2.2.1,(x.2.1.2.2.2.1,(x.2.1.2.2.2.2.1,(x.2.1.2.2.2.2.2.1,(x.2.1.2.2.2.2.2.2.1,(x.2.1.2.2.2.2.2.2.2.1,(x.2.1.2.2.2.2.2.2.2.2.1,(x.2.1.2.2.2.2.2.2.2.2.2.1,(x.2.1.2.2.2.2.2.2.2.2.2.2.1,(x.2.1.2.2.2.2.2.2.2.2.2.2.2.1,(d,x.2.1.2.2.2.2.2.2.2.2.2.2.2.2.2))))))))))))),x.2.2)),((false,(false,(o.1,!h.1))),c.1))))) λk =>
 cnd (!p.2==0)
(Ao (Cw (x.2.1.2.2.2.2.2.2.2.2.2.2.2.2.1,1048576)) λy =>
 k y)
(k p.1)))) Am ([],(0:Int))
def Hv (x:CS):Option Int :=
 iter none (λc =>
 cnd (decide (c.2<Aa x.1.2.2.2.2.1))
(Ad (idx x.1.2.2.2.2.1 c.2) dnn λg =>
 iter dnn (λd =>
 cnd (decide (d.2<Aa x.1.2.2.2.2.2.1))
(Ad (idx x.1.2.2.2.2.2.1 d.2) (.done dnn) λh =>
 Ad (idx x.2.1.2.2.2.2.2.2.2.2.2.2.1 d.2) (.done dnn) λo =>
 Ao (NG (o,g.2.2.2.1)) λy =>
.next (d.1&&(y.1||!h.1==c.2),wr .i64 (d.2+1)))
(.done (cnd d.1
(cnd (decide (0<=c.2))
(.next (Aq BinOp.or IntKind.u32 c.1 (A9 IntKind.u32 1 c.2),wr .i64 (c.2+1)))
 dnn)
(.next (c.1,wr .i64 (c.2+1)))))) Am (true,(0:Int)))
(.done (some c.1))) Am ((0:Int),(0:Int))
def M0 (x:Al×Int):Option Int :=
 iter none (λc =>
 cnd (decide (c.2<Aa x.1.2.2.2.2.1))
(Ad (idx x.1.2.2.2.2.1 c.2) dnn λd =>
 cnd d.2.2.2.2
(cnd (decide (0<=c.2))
(.next (Aq BinOp.or IntKind.u32 c.1 (A9 IntKind.u32 1 c.2),wr .i64 (c.2+1)))
 dnn)
(cnd (decide (0<=c.2))
(cnd (Aq BinOp.and IntKind.u32 (AH IntKind.u32 x.2 c.2) 1==1)
(cnd (decide (0<=c.2))
(.next (Aq BinOp.or IntKind.u32 c.1 (A9 IntKind.u32 1 c.2),wr .i64 (c.2+1)))
 dnn)
(.next (c.1,wr .i64 (c.2+1))))
 dnn))
(.done (some c.1))) Am ((0:Int),(0:Int))
def Bf (x:Int):Int:=if x=0 then 64 else (Lib.ctz 64 x.toNat:Int)
def MZ (x:Int×Int×Int):Option Int :=
(cnd (decide (0<=x.2.2))
(cnd (decide (0<=wr .i64 (x.2.1+1)))
(Ao (Bf (AH IntKind.u64 (Aq BinOp.or IntKind.u64 (wr .u64 x.1) (A9 IntKind.u64 (wr .u64 x.1) x.2.2)) (wr .i64 (x.2.1+1)))) λy =>
 cnd (!x.2.2==0)
(some (BB (wr .i64 (wr .i64 (x.2.1+1)+y)) x.2.2))
 none)
 none)
 none)
def Ol (x:Al×Int):Option (List Int) :=
(cnd (decide (0<=Aa x.1.2.1)&&(decide (Aa x.1.2.1<=Aa x.1.2.1)&&B5 (Aa x.1.2.1) 1))
(iter none (λc =>
 cnd (decide (c.1<Aa (Ay (Aa x.1.2.1) (0:Int))))
(Ad (idx c.2 c.1) dnn λ_ =>
 Ad (idx c.2 c.1) dnn λ_ =>
 Ad (Kp (x.1,(x.2,c.1))) dnn λd =>
 cnd d
(Ad (idx (AB c.2 c.1 1) c.1) dnn λ_ =>
 Ad (idx (AB c.2 c.1 1) c.1) dnn λ_ =>
.next (wr .i64 (c.1+1),AB (AB c.2 c.1 1) c.1 2))
(.next (wr .i64 (c.1+1),AB c.2 c.1 1)))
(.done (some c.2))) Am ((0:Int),Ay (Aa x.1.2.1) (0:Int)))
 none)
def ES (x:Al×Int):Option (List Int×Int) :=
 CT (λc =>
 cnd (!c==0)
(some ([],c))
(Ad (Ol x) none λd =>
 some (d,0))) λk =>
 Ad (AD x.1) none λc =>
(cnd (!c==0)
(k c)
(cnd (decide (x.2<0)||decide (Aa x.1.2.2.2.2.1<=x.2))
(k 2)
(k 0)))
def Pk (x:Al×Mf×Bx×Int×Int):Option (Mf×List Int×Int) :=
 Ad (AD x.1) none λg =>
(cnd (!g==0)
(some ((0,0),([],g)))
(cnd (decide (x.2.1.1<0))
(some ((0,0),([],2)))
(cnd (decide (Aa x.1.2.2.2.2.1<=x.2.1.1))
(some ((0,0),([],2)))
(cnd (decide (x.2.1.2<0))
(some ((0,0),([],2)))
(cnd (decide (1048576<x.2.1.2))
(some ((0,0),([],2)))
(cnd (!Aa x.2.2.1.1==Aa x.1.2.1)
(some ((0,0),([],8)))
(Ad (GA (x.1,(x.2.2.1,x.2.1.1))) none λo =>
 cnd (!o.1)
(Ad (ES (x.1,x.2.1.1)) none λc =>
 some ((x.2.1.1,0),c))
(Ad (idx x.1.2.2.2.2.1 x.2.1.1) none λc =>
 Ad (M0 (x.1,x.2.2.2.1)) none λh =>
 cnd (decide (0<=x.2.1.1))
(cnd (decide (0<=x.2.1.1))
(cnd (decide (c.2.1<=Bb (wr .i64 (x.2.1.2+1)) 1048576)&&!Aq BinOp.andNot IntKind.u32 h (A9 IntKind.u32 1 x.2.1.1)==0&&(Aq BinOp.and IntKind.u32 (AH IntKind.u32 x.2.2.2.2 x.2.1.1) 1==1||decide (c.2.2.1<=Bb (wr .i64 (x.2.1.2+1)) 1048576)))
(Ad (MZ (Aq BinOp.andNot IntKind.u32 h (A9 IntKind.u32 1 x.2.1.1),(x.2.1.1,Aa x.1.2.2.2.2.1))) none λd =>
 Ad (ES (x.1,d)) none λp =>
 some ((d,0),p))
(Ad (ES (x.1,x.2.1.1)) none λd =>
 some ((x.2.1.1,Bb (wr .i64 (x.2.1.2+1)) 1048576),d)))
 none)
 none))))))))
def CJ (l:List Int):Nat->Int
 |0=>0
 |k+1=>wr .i64 (CJ l k+l[k]?.getD 0)
def JA (l:List Int) (place:Int):Nat->Nat->Int×Int×Int
 |0,_=>(0,(0,170))
 |n+1,k=>if place<CJ l (k+1) then ((k:Int),(wr .i64 (wr .i64 (place-CJ l (k+1))+l[k]?.getD 0),0)) else JA l place n (k+1)
def HA (x:Al×AJ×Int):Option (Int×Int×Int) :=
 match En (x.1,x.2.1) with
 |none=>none
 |some (is,e)=>if e≠0 then some (0,(0,e)) else if is=false then some (0,(0,170)) else if x.2.2<0\/1073741824<x.2.2 then some (0,(0,2)) else if x.2.1.1=0\/1000000<Aa x.2.1.2.2 then none else
  some (JA x.2.1.2.2 (BB (wr .i64 (wr .i64 (x.2.2+x.2.1.1)-x.2.1.2.1)) x.2.1.1) x.2.1.2.2.length 0)
def FQ (x:Al×AJ×Int):Option (Int×Int) :=
 Ad (HA x) none λc =>
(cnd (!c.2.2==0)
(some (0,c.2.2))
(Ad (idx x.2.1.2.2 c.1) none λd =>
 Ad (Io (x.1,c.1)) none λg =>
 cnd (decide (wr .i64 (d-g)<=c.2.1))
(Ad (HQ (x.1,c.1)) none λh =>
 some (h,0))
(some (c.1,0))))
def HX (x:CS×Dy):Option CS :=
(cnd (x.1.2.1.2.2.1.1==0)
(Ad (Fi (x.1.1,(((x.1.2.1.1.1,()),x.1.2.1.2),x.1.2.2))) none λc =>
 some (c.1.1,(((c.1.2.1.1.1,()),c.1.2.1.2),(c.1.2.2.1,(c.1.2.2.2.1,(c.1.2.2.2.2.1,(c.2,c.1.2.2.2.2.2.2)))))))
(cnd (x.1.2.1.2.2.1.1==1)
(Ad (Hv (x.1.1,(((x.1.2.1.1.1,()),x.1.2.1.2),x.1.2.2))) none λc =>
 Ad (Pk (x.1.1,(x.1.2.1.2.2.2.1,(x.1.2.1.2.1,(x.1.2.1.2.2.2.2.2.2.2.2.2.2.2.1,c))))) none λd =>
 some (x.1.1,(((x.1.2.1.1.1,()),(x.1.2.1.2.1,(x.1.2.1.2.2.1,(d.1,x.1.2.1.2.2.2.2)))),(x.1.2.2.1,(x.1.2.2.2.1,(x.1.2.2.2.2.1,(d.2.1,x.1.2.2.2.2.2.2)))))))
(cnd (x.1.2.1.2.2.1.1==2)
(Ad (idx x.2.2.2 0) none λc =>
 Ad (EY (x.1.1,c)) none λd =>
 Ad (FQ (x.1.1,(d.1,x.1.2.1.2.2.2.2.2.2.2.2.2.2.2.2.2.1))) none λg =>
 Ad (ES (x.1.1,g.1)) none λh =>
 some (x.1.1,(((x.1.2.1.1.1,()),(x.1.2.1.2.1,(x.1.2.1.2.2.1,((g.1,0),x.1.2.1.2.2.2.2)))),(x.1.2.2.1,(x.1.2.2.2.1,(x.1.2.2.2.2.1,(h.1,x.1.2.2.2.2.2.2)))))))
(Ad (FQ (x.1.1,(x.1.2.1.2.2.2.2.2.2.1,x.1.2.1.2.2.2.2.2.2.2.2.2.2.2.2.2.1))) none λc =>
 Ad (ES (x.1.1,c.1)) none λd =>
 some (x.1.1,(((x.1.2.1.1.1,()),(x.1.2.1.2.1,(x.1.2.1.2.2.1,((c.1,0),x.1.2.1.2.2.2.2)))),(x.1.2.2.1,(x.1.2.2.2.1,(x.1.2.2.2.2.1,(d.1,x.1.2.2.2.2.2.2))))))))))
def JY (x:Al×Bx×List Int):Option (List Int×Int) :=
 Ad (J2 (x.1,x.2.1)) none λc =>
(cnd (!c==0)
(some ([],c))
(cnd (!Aa x.2.2==Aa x.1.2.1)
(some ([],90))
(Ad (JZ x) none λd =>
 some (d,0))))
def JV (x:Int):Int :=
 wr .i64 (Bb (B8 x (-1073741824)) 1073741824*65536)
def mQ (x:Int):Option Int:=some (JV x)
theorem AcL (x:Int):mQ x=some (JV x):=rfl
def OE (x:Int×Int):Option (Int×Int) :=
 Ao (BE x.1) λy =>
 Ao (BE x.2) λy1 =>
(cnd (y1==0)
(some (0,10))
(cnd (!y1==0)
(cnd (!y1==0)
(cnd (!BB (wr .i64 (y*65536)) y1==0&&!decide (wr .i64 (y*65536)<0)==decide (y1<0))
(Ao (BE (wr .i64 (DZ IntKind.i64 (wr .i64 (y*65536)) y1-1))) λy2 =>
 some (y2,0))
(Ao (BE (DZ IntKind.i64 (wr .i64 (y*65536)) y1)) λy2 =>
 some (y2,0)))
 none)
 none))
def G7 (x:Fs):Option (List Int×Int) :=
 Ao (IS x.1) λy =>
(cnd (!y)
(some ([],2))
(cnd (decide (3<x.2.1))
(some ([],2))
(cnd (decide (x.2.2.1<0))
(some ([],2))
(cnd (decide (1073741824<x.2.2.1))
(some ([],2))
(cnd (decide (8<Aa x.2.2.2))
(some ([],4))
(Ad (IQ ([],x.1::wr .i64 x.2.1::x.2.2.1::Aa x.2.2.2::[])) none λg =>
 iter none (λc =>
 cnd (decide (c.1<Aa x.2.2.2))
(Ad (idx x.2.2.2 c.1) dnn λd =>
 cnd (decide (d<0)||decide (70368744177664<d))
(.done (some ([],2)))
(Ad (IQ (c.2,d::[])) dnn λh =>
.next (wr .i64 (c.1+1),h)))
(.done (some (c.2,0)))) Am ((0:Int),g)))))))
def Gb (x:CS):Option CS :=
 CT (λp =>
 cnd p.2.2.1.2.2.2.1
(Ad (Hx (p.1,(((p.2.1.1.1,()),p.2.1.2),p.2.2))) none λt =>
 some (t.1,(((t.2.1.1.1,()),t.2.1.2),t.2.2)))
(Ad (IG ((p.2.1.1.1,()),(p.2.2.2.1,(Aa p.2.2.2.1,0)))) none λt =>
 Ad (HY (p.1,(((t.1.1,()),p.2.1.2),p.2.2))) none λY =>
 Ad (G3 (Y.1,(((Y.2.1.1.1,()),Y.2.1.2),Y.2.2))) none λE =>
 Ad (Ja (E.1.1,(E.1.2.1.2.2.1,E.2.1))) none λx5 =>
 Ad (HX ((E.1.1,(((E.1.2.1.1.1,()),(E.1.2.1.2.1,(x5.1,E.1.2.1.2.2.2))),E.1.2.2)),E.2.2)) none λo =>
 Ad (JY (o.1,(o.2.1.2.1,o.2.2.2.2.2.1))) none λx7 =>
 Ad (HT (o.1,(o.2.1.2.1,x7.1))) none λx8 =>
 Ad (Ek o.2.1.2.2.2.2.2.2.2.2.2.2.2.2.2.2.1) none λx9 =>
 Ad (Ek o.2.1.2.2.2.2.2.2.2.2.2.2.2.2.2.2.2.1) none λZ =>
 Ad (Ek o.2.1.2.2.2.2.2.2.2.2.2.2.2.2.2.2.2.2.1) none λa1 =>
 iter none (λg =>
 cnd (decide (g.1<Aa o.1.2.2.2.2.1))
(Ad (GA (g.2.1,(g.2.2.1.2.1,g.1))) dnn λc =>
 cnd (!c.1)
(.next (wr .i64 (g.1+1),(g.2.1,(((g.2.2.1.1.1,()),g.2.2.1.2),g.2.2.2))))
(iter dnn (λd =>
 cnd (decide (d.1<Aa g.2.1.2.2.2.2.2.1))
(Ad (idx g.2.1.2.2.2.2.2.1 d.1) (.done dnn) λh =>
 cnd (h.1==g.1)
(Ad (idx d.2.2.2.1.2.2.2.2.2.2.2.2.1 d.1) (.done dnn) λI =>
 cnd I.1
(Ad (idx d.2.2.2.2.2.2.1 d.1) (.done dnn) λv =>
 cnd (!v.1)
(Ad (idx d.2.2.2.1.2.2.2.2.2.2.2.2.2.2.2.2.2.2.2.2.1 g.1) (.done dnn) λ_ =>
 Ad (idx d.2.2.2.1.2.2.2.2.2.2.2.2.2.2.2.2.2.2.2.2.1 g.1) (.done dnn) λJ =>
 Ao (Cw (J,1048576)) λy =>
 Ad (idx d.2.2.2.1.2.2.2.2.2.2.2.2.2.2.2.2.2.2.2.2.1 g.1) (.done dnn) λ_ =>
 Ad (idx d.2.2.2.1.2.2.2.2.2.2.2.2.2.2.2.2.2.2.2.2.1 g.1) (.done dnn) λ_ =>
.next (wr .i64 (d.1+1),(true,(d.2.2.1,(((d.2.2.2.1.1.1,()),(d.2.2.2.1.2.1,(d.2.2.2.1.2.2.1,(d.2.2.2.1.2.2.2.1,(d.2.2.2.1.2.2.2.2.1,(d.2.2.2.1.2.2.2.2.2.1,(d.2.2.2.1.2.2.2.2.2.2.1,(d.2.2.2.1.2.2.2.2.2.2.2.1,(d.2.2.2.1.2.2.2.2.2.2.2.2.1,(d.2.2.2.1.2.2.2.2.2.2.2.2.2.1,(d.2.2.2.1.2.2.2.2.2.2.2.2.2.2.1,(d.2.2.2.1.2.2.2.2.2.2.2.2.2.2.2.1,(d.2.2.2.1.2.2.2.2.2.2.2.2.2.2.2.2.1,(d.2.2.2.1.2.2.2.2.2.2.2.2.2.2.2.2.2.1,(d.2.2.2.1.2.2.2.2.2.2.2.2.2.2.2.2.2.2.1,(d.2.2.2.1.2.2.2.2.2.2.2.2.2.2.2.2.2.2.2.1,(AB d.2.2.2.1.2.2.2.2.2.2.2.2.2.2.2.2.2.2.2.2.1 g.1 y,d.2.2.2.1.2.2.2.2.2.2.2.2.2.2.2.2.2.2.2.2.2))))))))))))))))),d.2.2.2.2)))))
(.next (wr .i64 (d.1+1),(true,(d.2.2.1,(((d.2.2.2.1.1.1,()),d.2.2.2.1.2),d.2.2.2.2))))))
(.next (wr .i64 (d.1+1),(d.2.1,(d.2.2.1,(((d.2.2.2.1.1.1,()),d.2.2.2.1.2),d.2.2.2.2))))))
(.next (wr .i64 (d.1+1),(d.2.1,(d.2.2.1,(((d.2.2.2.1.1.1,()),d.2.2.2.1.2),d.2.2.2.2))))))
(.done (CT (λh =>
 Ad (idx h.2.1.2.2.2.2.2.2.2.2.2.2.2.2.2.2.1 g.1) dnn λ_ =>
 Ad (idx h.2.1.2.2.2.2.2.2.2.2.2.2.2.2.2.2.1 g.1) dnn λv =>
 Ao (Cw (v,1048576)) λy =>
 Ad (idx h.2.1.2.2.2.2.2.2.2.2.2.2.2.2.2.2.1 g.1) dnn λ_ =>
 Ad (idx h.2.1.2.2.2.2.2.2.2.2.2.2.2.2.2.2.1 g.1) dnn λ_ =>
.next (wr .i64 (g.1+1),(h.1,(((h.2.1.1.1,()),(h.2.1.2.1,(h.2.1.2.2.1,(h.2.1.2.2.2.1,(h.2.1.2.2.2.2.1,(h.2.1.2.2.2.2.2.1,(h.2.1.2.2.2.2.2.2.1,(h.2.1.2.2.2.2.2.2.2.1,(h.2.1.2.2.2.2.2.2.2.2.1,(h.2.1.2.2.2.2.2.2.2.2.2.1,(h.2.1.2.2.2.2.2.2.2.2.2.2.1,(h.2.1.2.2.2.2.2.2.2.2.2.2.2.1,(h.2.1.2.2.2.2.2.2.2.2.2.2.2.2.1,(h.2.1.2.2.2.2.2.2.2.2.2.2.2.2.2.1,(AB h.2.1.2.2.2.2.2.2.2.2.2.2.2.2.2.2.1 g.1 y,h.2.1.2.2.2.2.2.2.2.2.2.2.2.2.2.2.2))))))))))))))),h.2.2)))) λk =>
 cnd d.2.1
(Ad (idx d.2.2.2.1.2.2.2.2.2.2.2.2.2.2.2.2.2.2.2.1 g.1) dnn λ_ =>
 Ad (idx d.2.2.2.1.2.2.2.2.2.2.2.2.2.2.2.2.2.2.2.1 g.1) dnn λI =>
 Ao (Cw (I,1048576)) λy =>
 Ad (idx d.2.2.2.1.2.2.2.2.2.2.2.2.2.2.2.2.2.2.2.1 g.1) dnn λ_ =>
 Ad (idx d.2.2.2.1.2.2.2.2.2.2.2.2.2.2.2.2.2.2.2.1 g.1) dnn λ_ =>
 k (d.2.2.1,(((d.2.2.2.1.1.1,()),(d.2.2.2.1.2.1,(d.2.2.2.1.2.2.1,(d.2.2.2.1.2.2.2.1,(d.2.2.2.1.2.2.2.2.1,(d.2.2.2.1.2.2.2.2.2.1,(d.2.2.2.1.2.2.2.2.2.2.1,(d.2.2.2.1.2.2.2.2.2.2.2.1,(d.2.2.2.1.2.2.2.2.2.2.2.2.1,(d.2.2.2.1.2.2.2.2.2.2.2.2.2.1,(d.2.2.2.1.2.2.2.2.2.2.2.2.2.2.1,(d.2.2.2.1.2.2.2.2.2.2.2.2.2.2.2.1,(d.2.2.2.1.2.2.2.2.2.2.2.2.2.2.2.2.1,(d.2.2.2.1.2.2.2.2.2.2.2.2.2.2.2.2.2.1,(d.2.2.2.1.2.2.2.2.2.2.2.2.2.2.2.2.2.2.1,(AB d.2.2.2.1.2.2.2.2.2.2.2.2.2.2.2.2.2.2.2.1 g.1 y,d.2.2.2.1.2.2.2.2.2.2.2.2.2.2.2.2.2.2.2.2)))))))))))))))),d.2.2.2.2)))
(k (d.2.2.1,(((d.2.2.2.1.1.1,()),d.2.2.2.1.2),d.2.2.2.2)))))) Am ((0:Int),(false,(g.2.1,(((g.2.2.1.1.1,()),g.2.2.1.2),g.2.2.2))))))
(.done (Ao (Ht g.2.2.1.2.2.2.2.2.2.2.2.2.2.2.2.2.2.2.2.2) λy =>
 cnd (!g.2.1.2.2.2.2.2.2.2.2.2.1==0)
(cnd (!BB (wr .i64 (g.2.2.1.2.2.2.2.2.2.2.2.2.2.2.2.2.1+1)) g.2.1.2.2.2.2.2.2.2.2.2.1==0||!y.2==0)
(Ao (Cw (g.2.2.1.2.2.2.2.2.2.2.2.2.2.2.2.2.1,1073741824)) λy1 =>
 some (g.2.1,(((g.2.2.1.1.1,()),(g.2.2.1.2.1,(g.2.2.1.2.2.1,(g.2.2.1.2.2.2.1,(g.2.2.1.2.2.2.2.1,(g.2.2.1.2.2.2.2.2.1,(g.2.2.1.2.2.2.2.2.2.1,(g.2.2.1.2.2.2.2.2.2.2.1,(g.2.2.1.2.2.2.2.2.2.2.2.1,(g.2.2.1.2.2.2.2.2.2.2.2.2.1,(g.2.2.1.2.2.2.2.2.2.2.2.2.2.1,(g.2.2.1.2.2.2.2.2.2.2.2.2.2.2.1,(g.2.2.1.2.2.2.2.2.2.2.2.2.2.2.2.1,(y1,g.2.2.1.2.2.2.2.2.2.2.2.2.2.2.2.2.2)))))))))))))),g.2.2.2)))
(iter none (λc =>
 cnd (decide (c.1<Aa g.2.1.2.2.2.2.1))
(Ad (idx c.2.2.2.1.2.2.2.2.2.2.2.2.2.2.2.2.2.2.1 c.1) dnn λ_ =>
 Ad (idx c.2.2.2.1.2.2.2.2.2.2.2.2.2.2.2.2.2.2.1 c.1) dnn λh =>
 Ad (idx c.2.2.2.1.2.2.2.2.2.2.2.2.2.2.2.2.2.2.2.1 c.1) dnn λ_ =>
 Ad (idx c.2.2.2.1.2.2.2.2.2.2.2.2.2.2.2.2.2.2.2.1 c.1) dnn λv =>
 Ad (idx c.2.2.2.1.2.2.2.2.2.2.2.2.2.2.2.2.2.2.2.2.1 c.1) dnn λ_ =>
 Ad (idx c.2.2.2.1.2.2.2.2.2.2.2.2.2.2.2.2.2.2.2.2.1 c.1) dnn λJ =>
 Ao (JV (Bb h (wr .i64 (v+J)))) λy1 =>
 Ad (idx c.2.2.2.1.2.2.2.2.2.2.2.2.2.2.2.2.2.2.1 c.1) dnn λ_ =>
 Ad (idx c.2.2.2.1.2.2.2.2.2.2.2.2.2.2.2.2.2.2.1 c.1) dnn λa6 =>
 Ao (JV (B8 1 a6)) λy2 =>
 Ad (OE (y1,y2)) dnn λX =>
 cnd (true&&AA (Aa c.2.1.2.2.2+Aa (X.1::[])) 8)
(Ad (idx c.2.2.2.1.2.2.2.2.2.2.2.2.2.2.2.2.2.2.1 c.1) dnn λ_ =>
 Ad (idx c.2.2.2.1.2.2.2.2.2.2.2.2.2.2.2.2.2.2.1 c.1) dnn λ_ =>
 Ad (idx c.2.2.2.1.2.2.2.2.2.2.2.2.2.2.2.2.2.2.2.1 c.1) dnn λ_ =>
 Ad (idx c.2.2.2.1.2.2.2.2.2.2.2.2.2.2.2.2.2.2.2.1 c.1) dnn λ_ =>
 Ad (idx c.2.2.2.1.2.2.2.2.2.2.2.2.2.2.2.2.2.2.2.2.1 c.1) dnn λ_ =>
 Ad (idx c.2.2.2.1.2.2.2.2.2.2.2.2.2.2.2.2.2.2.2.2.1 c.1) dnn λ_ =>
.next (wr .i64 (c.1+1),((c.2.1.1,(c.2.1.2.1,(c.2.1.2.2.1,c.2.1.2.2.2++X.1::[]))),(c.2.2.1,(((c.2.2.2.1.1.1,()),(c.2.2.2.1.2.1,(c.2.2.2.1.2.2.1,(c.2.2.2.1.2.2.2.1,(c.2.2.2.1.2.2.2.2.1,(c.2.2.2.1.2.2.2.2.2.1,(c.2.2.2.1.2.2.2.2.2.2.1,(c.2.2.2.1.2.2.2.2.2.2.2.1,(c.2.2.2.1.2.2.2.2.2.2.2.2.1,(c.2.2.2.1.2.2.2.2.2.2.2.2.2.1,(c.2.2.2.1.2.2.2.2.2.2.2.2.2.2.1,(c.2.2.2.1.2.2.2.2.2.2.2.2.2.2.2.1,(c.2.2.2.1.2.2.2.2.2.2.2.2.2.2.2.2.1,(c.2.2.2.1.2.2.2.2.2.2.2.2.2.2.2.2.2.1,(AB c.2.2.2.1.2.2.2.2.2.2.2.2.2.2.2.2.2.2.1 c.1 0,(AB c.2.2.2.1.2.2.2.2.2.2.2.2.2.2.2.2.2.2.2.1 c.1 0,(AB c.2.2.2.1.2.2.2.2.2.2.2.2.2.2.2.2.2.2.2.2.1 c.1 0,c.2.2.2.1.2.2.2.2.2.2.2.2.2.2.2.2.2.2.2.2.2))))))))))))))))),c.2.2.2.2)))))
 dnn)
(.done (Ad (G7 c.2.1) none λd =>
 Ad (G6 (3,(y.1,d.1))) none λh =>
 Ao (Cw (c.2.2.2.1.2.2.2.2.2.2.2.2.2.2.2.2.2.1,1073741824)) λy1 =>
 some (c.2.2.1,(((c.2.2.2.1.1.1,()),(c.2.2.2.1.2.1,(c.2.2.2.1.2.2.1,(c.2.2.2.1.2.2.2.1,(c.2.2.2.1.2.2.2.2.1,(c.2.2.2.1.2.2.2.2.2.1,(c.2.2.2.1.2.2.2.2.2.2.1,(c.2.2.2.1.2.2.2.2.2.2.2.1,(c.2.2.2.1.2.2.2.2.2.2.2.2.1,(c.2.2.2.1.2.2.2.2.2.2.2.2.2.1,(c.2.2.2.1.2.2.2.2.2.2.2.2.2.2.1,(c.2.2.2.1.2.2.2.2.2.2.2.2.2.2.2.1,(c.2.2.2.1.2.2.2.2.2.2.2.2.2.2.2.2.1,(y1,(c.2.2.2.1.2.2.2.2.2.2.2.2.2.2.2.2.2.2.1,(c.2.2.2.1.2.2.2.2.2.2.2.2.2.2.2.2.2.2.2.1,(c.2.2.2.1.2.2.2.2.2.2.2.2.2.2.2.2.2.2.2.2.1,y.1))))))))))))))))),(c.2.2.2.2.1,(c.2.2.2.2.2.1,(c.2.2.2.2.2.2.1,(c.2.2.2.2.2.2.2.1,(c.2.2.2.2.2.2.2.2.1,h.1)))))))))) Am ((0:Int),((g.2.1.1,(g.2.2.1.2.2.1.1,(g.2.2.1.2.2.2.2.2.2.2.2.2.2.2.2.2.1,[]))),(g.2.1,(((g.2.2.1.1.1,()),g.2.2.1.2),g.2.2.2))))))
 none))) Am ((0:Int),(o.1,(((o.2.1.1.1,()),(x8.1,(o.2.1.2.2.1,(o.2.1.2.2.2.1,(o.2.1.2.2.2.2.1,(o.2.1.2.2.2.2.2.1,(o.2.1.2.2.2.2.2.2.1,(o.2.1.2.2.2.2.2.2.2.1,(o.2.1.2.2.2.2.2.2.2.2.1,(o.2.1.2.2.2.2.2.2.2.2.2.1,(o.2.1.2.2.2.2.2.2.2.2.2.2.1,(o.2.1.2.2.2.2.2.2.2.2.2.2.2.1,(o.2.1.2.2.2.2.2.2.2.2.2.2.2.2.1,(o.2.1.2.2.2.2.2.2.2.2.2.2.2.2.2.1,(x9,(Z,(a1,o.2.1.2.2.2.2.2.2.2.2.2.2.2.2.2.2.2.2.2))))))))))))))))),(o.2.2.1,(o.2.2.2.1,(o.2.2.2.2.1,(o.2.2.2.2.2.1,(x7.1,o.2.2.2.2.2.2.2)))))))))) λk =>
 Ad (Hw (x.1,(((x.2.1.1.1,()),x.2.1.2),x.2.2))) none λp =>
(cnd p.2
(Ad (Fj (p.1.1,(((p.1.2.1.1.1,()),p.1.2.1.2),p.1.2.2))) none λt =>
 k (t.1,(((t.2.1.1.1,()),t.2.1.2),t.2.2)))
(k (p.1.1,(((p.1.2.1.1.1,()),p.1.2.1.2),p.1.2.2))))
def J9 (x:Al×Be×Kw):Option (Be×List Int×List Int×Int) :=
 Ad (OW (x.1,((x.2.1.1.1,()),x.2.1.2))) none λd =>
(cnd (!d==0)
(some ((([],()),(([],(0,false)),((0,(0,false)),((0,0),((false,(0,0)),([],((0,(0,[])),(0,([],([],([],(0,(0,(0,([],([],([],0))))))))))))))))),([],([],d))))
(Ad (Ek x.2.1.2.2.2.2.2.2.1.2.2) none λg =>
 Ad (Gb (x.1,(((x.2.1.1.1,()),(x.2.1.2.1,(x.2.1.2.2.1,(x.2.1.2.2.2.1,(x.2.1.2.2.2.2.1,(x.2.1.2.2.2.2.2.1,((x.2.1.2.2.2.2.2.2.1.1,(x.2.1.2.2.2.2.2.2.1.2.1,g)),x.2.1.2.2.2.2.2.2.2))))))),(x.2.2,([],([],([],([],[])))))))) none λc =>
 some (((c.2.1.1.1,()),c.2.1.2),(c.2.2.2.2.2.2.1,(c.2.2.2.2.2.2.2,0)))))
def F0 (x:List Int):Option (Fs×Int) :=
 Ad (Bq ((x,false),65535)) none λg =>
 Ad (Bq (g.1,3)) none λh =>
 Ad (Bq (h.1,1073741824)) none λo =>
 Ad (Bq (o.1,8)) none λp =>
 iter none (λc =>
 cnd (decide (c.1<p.2))
(Ad (Bq (c.2.2,70368744177664)) dnn λd =>
 cnd (true&&AA (Aa c.2.1.2.2.2+Aa (d.2::[])) 8)
(.next (wr .i64 (c.1+1),((c.2.1.1,(c.2.1.2.1,(c.2.1.2.2.1,c.2.1.2.2.2++d.2::[]))),d.1)))
 dnn)
(.done (Ad (G7 c.2.1) none λd =>
 cnd (c.2.2.2||!d.2==0||!bytes_Equal (d.1,x))
(some ((0,(0,(0,[]))),8))
(some (c.2.1,0))))) Am ((0:Int),((g.2,(wr .u8 h.2,(o.2,[]))),p.1))
def cP (l:List Int) (r:List Int):Option (List Int×Int) :=
 iter none (λc =>
 cnd (decide (c.1<Aa l))
(Ad (idx l c.1) dnn λg =>
 Ad (idx c.2 c.1) dnn λh =>
 Ad (G8 (h,(g,16384))) dnn λd =>
 cnd (!d.2==0)
(.done (some (c.2,d.2)))
(.next (wr .i64 (c.1+1),AB c.2 c.1 d.1)))
(.done (some (c.2,0)))) Am ((0:Int),r)
def E7 (x:AU×AZ×Fs):Option (AZ×Int) :=
 Ad (GD (x.1,x.2.1)) none λh =>
(cnd (!h==0)
(some (([],([],([],([],[])))),h))
(Ad (MJ (x.1,x.2.2.1)) none λd =>
 cnd (!d.2==0)
(some (([],([],([],([],[])))),d.2))
(Ad (idx x.2.1.2.2.2.1 d.1) none λo =>
 cnd (!Aa x.2.2.2.2.2==Aa o)
(some (([],([],([],([],[])))),4))
(Ad (DU x.2.1) none λc =>
 Ad (idx c.2.2.2.1 d.1) none λp =>
 Ad (cP x.2.2.2.2.2 p) none λg =>
 cnd (!g.2==0)
(some (([],([],([],([],[])))),g.2))
(some ((c.1,(c.2.1,(c.2.2.1,(AB c.2.2.2.1 d.1 g.1,c.2.2.2.2)))),0))))))
def MT (x:AU×Bm×EA):Option (Bm×List (List Int)) :=
 Ad (Lz x.2.1) none λY =>
 CT (λp =>
 CT (λc =>
 CT (λd =>
 CT (λx5 =>
 some (x5.2.1,x5.2.2.2.2.2)) λk =>
 k (d.1,((d.2.1.1,(d.2.1.2.1,(d.2.1.2.2.1,(d.2.1.2.2.2.1,(d.2.1.2.2.2.2.1,(d.2.1.2.2.2.2.2.1,(d.2.1.2.2.2.2.2.2.1,Bb (wr .i64 (d.2.1.2.2.2.2.2.2.2+1)) 1073741824))))))),d.2.2))) λk =>
 iter none (λd =>
 cnd (decide (d.1<Aa c.1.1))
(Ad (idx c.1.1 d.1) dnn λx5 =>
 Ad (idx d.2.2.1.2.2.2.2.2.1 d.1) dnn λ_ =>
 Ad (idx d.2.2.1.2.2.2.2.2.1 d.1) dnn λx7 =>
 Ad (idx d.2.2.2.2.2.1 d.1) dnn λ_ =>
 Ad (idx d.2.2.2.2.2.1 d.1) dnn λx9 =>
 Ad (BS (x7::x9::[])) dnn λt =>
 Ad (Cv t) dnn λv =>
 Ad (idx d.2.2.1.2.2.2.2.2.1 d.1) dnn λ_ =>
 Ad (idx d.2.2.1.2.2.2.2.2.1 d.1) dnn λ_ =>
 CT (λg =>
 Ad (idx g.2.1.2.2.2.2.1 d.1) dnn λ_ =>
 Ad (idx g.2.1.2.2.2.2.1 d.1) dnn λJ =>
 Ad (Gu (J,v.1)) dnn λo =>
 Ad (idx g.2.1.2.2.2.2.1 d.1) dnn λ_ =>
 Ad (idx g.2.1.2.2.2.2.1 d.1) dnn λ_ =>
 iter dnn (λh =>
 cnd (decide (h.1<Aa o.2.1))
(Ad (idx o.2.1 h.1) (.done dnn) λX =>
 Ad (F0 X.2.2) (.done dnn) λE =>
 cnd (!X.1==3||!E.2==0||!E.1.1==x5.1)
(.next (wr .i64 (h.1+1),h.2))
(Ad (E7 (h.2.1,(h.2.2.1.2.1,E.1))) (.done dnn) λI =>
 cnd (I.2==0)
(.next (wr .i64 (h.1+1),(h.2.1,((h.2.2.1.1,(I.1,h.2.2.1.2.2)),h.2.2.2))))
(.next (wr .i64 (h.1+1),h.2))))
(.done (.next (wr .i64 (d.1+1),h.2)))) Am ((0:Int),(g.1,((g.2.1.1,(g.2.1.2.1,(g.2.1.2.2.1,(g.2.1.2.2.2.1,(AB g.2.1.2.2.2.2.1 d.1 o.1,g.2.1.2.2.2.2.2))))),g.2.2)))) λk1 =>
 cnd (decide (0<=v.2.1)&&decide (wr .i64 (Aa t-v.2.1)<=2048))
(cnd (decide (0<=v.2.1)&&decide (v.2.1<=Aa t))
(Ad (FJ (A5 t v.2.1)) dnn λg =>
 Ad (idx (AB d.2.2.1.2.2.2.2.2.1 d.1 []) d.1) dnn λ_ =>
 Ad (idx (AB d.2.2.1.2.2.2.2.2.1 d.1 []) d.1) dnn λ_ =>
 k1 (d.2.1,((d.2.2.1.1,(d.2.2.1.2.1,(d.2.2.1.2.2.1,(d.2.2.1.2.2.2.1,(d.2.2.1.2.2.2.2.1,(AB (AB d.2.2.1.2.2.2.2.2.1 d.1 []) d.1 g,d.2.2.1.2.2.2.2.2.2)))))),d.2.2.2)))
 dnn)
(k1 (d.2.1,((d.2.2.1.1,(d.2.2.1.2.1,(d.2.2.1.2.2.1,(d.2.2.1.2.2.2.1,(d.2.2.1.2.2.2.2.1,(AB d.2.2.1.2.2.2.2.2.1 d.1 [],d.2.2.1.2.2.2.2.2.2)))))),d.2.2.2))))
(.done (k d.2))) Am ((0:Int),c)) λk =>
 cnd (decide (0<=Aa p.1.1)&&(decide (Aa p.1.1<=Aa p.1.1)&&B5 (Aa p.1.1) 24))
(iter none (λc =>
 cnd (decide (c.1<Aa p.1.1))
(Ad (idx p.1.1 c.1) dnn λd =>
 Ad (idx c.2.2.1.2.2.1 c.1) dnn λ_ =>
 Ad (idx c.2.2.1.2.2.1 c.1) dnn λx6 =>
 Ad (idx c.2.2.2.2.1 c.1) dnn λ_ =>
 Ad (idx c.2.2.2.2.1 c.1) dnn λx8 =>
 Ad (idx c.2.2.2.1.2.1 c.1) dnn λx9 =>
 Ad (F9 (x6,(x8,(x9,c.2.2.1.2.2.2.2.2.2.2)))) dnn λt =>
 Ad (idx c.2.2.1.2.2.1 c.1) dnn λ_ =>
 Ad (idx c.2.2.1.2.2.1 c.1) dnn λ_ =>
 Ad (idx c.2.2.2.1.1 c.1) dnn λZ =>
 Ad (BS (t.1::Z.1::[])) dnn λg =>
 Ad (idx c.2.2.1.1 c.1) dnn λ_ =>
 Ad (idx c.2.2.1.1 c.1) dnn λJ =>
 Ad (J9 (d,(((J.1.1,()),J.2),(g,Z.2)))) dnn λo =>
 Ad (idx c.2.2.1.1 c.1) dnn λ_ =>
 Ad (idx c.2.2.1.1 c.1) dnn λ_ =>
 cnd (true&&AA (Aa c.2.2.2.2.2.2+Aa (o.2.1::[])) 24)
(Ad (idx c.2.2.1.2.2.2.1 c.1) dnn λ_ =>
 Ad (idx c.2.2.1.2.2.2.1 c.1) dnn λX =>
 Ad (idx c.2.2.2.1.2.2 c.1) dnn λE =>
 Ad (F9 (X,(o.2.2.1,(E,c.2.2.1.2.2.2.2.2.2.2)))) dnn λI =>
 Ad (idx c.2.2.2.2.2.1 c.1) dnn λ_ =>
 Ad (idx c.2.2.2.2.2.1 c.1) dnn λ_ =>
 Ad (idx c.2.2.1.2.2.2.1 c.1) dnn λ_ =>
 Ad (idx c.2.2.1.2.2.2.1 c.1) dnn λ_ =>
.next (wr .i64 (c.1+1),(c.2.1,((AB c.2.2.1.1 c.1 ((o.1.1.1,()),o.1.2),(c.2.2.1.2.1,(AB c.2.2.1.2.2.1 c.1 t.2,(AB c.2.2.1.2.2.2.1 c.1 I.2,c.2.2.1.2.2.2.2)))),(c.2.2.2.1,(c.2.2.2.2.1,(AB c.2.2.2.2.2.1 c.1 I.1,c.2.2.2.2.2.2++o.2.1::[])))))))
 dnn)
(.done (k c.2))) Am ((0:Int),(p.1,(p.2.1,(p.2.2.1,(p.2.2.2.1,(Ay (Aa p.1.1) [],p.2.2.2.2.2)))))))
 none) λk =>
(cnd (decide (0<=Aa x.1.1)&&(decide (Aa x.1.1<=Aa x.1.1)&&B5 (Aa x.1.1) 24))
(cnd (!x.1.2.2.2.1==0)
(cnd (!BB Y.2.2.2.2.2.2.2 x.1.2.2.2.1==0)
(k (x.1,(Y,(x.2.2,(Ay (Aa x.1.1) ([]:List Int),(([]:List (List Int)),([]:List (List Int))))))))
(Ad (Lr (x.1,Y.2.1)) none λp =>
 iter none (λc =>
 cnd (decide (c.1<Aa p.2.1))
(Ad (idx p.2.1 c.1) dnn λd =>
 Ad (idx c.2.2.1.2.2.2.2.2.2.1 c.1) dnn λ_ =>
 Ad (idx c.2.2.1.2.2.2.2.2.2.1 c.1) dnn λx6 =>
 Ao (Ht x6) λy =>
 cnd (!y.2==0)
(.next (wr .i64 (c.1+1),c.2))
(Ad (GC d) dnn λx7 =>
 Ad (G6 (2,(y.1,x7.1))) dnn λx8 =>
 Ad (idx c.2.2.2.2.1 c.1) dnn λ_ =>
 Ad (idx c.2.2.2.2.1 c.1) dnn λ_ =>
 Ad (idx c.2.2.1.2.2.2.2.2.2.1 c.1) dnn λ_ =>
 Ad (idx c.2.2.1.2.2.2.2.2.2.1 c.1) dnn λ_ =>
.next (wr .i64 (c.1+1),(c.2.1,((c.2.2.1.1,(c.2.2.1.2.1,(c.2.2.1.2.2.1,(c.2.2.1.2.2.2.1,(c.2.2.1.2.2.2.2.1,(c.2.2.1.2.2.2.2.2.1,(AB c.2.2.1.2.2.2.2.2.2.1 c.1 y.1,c.2.2.1.2.2.2.2.2.2.2))))))),(c.2.2.2.1,(AB c.2.2.2.2.1 c.1 x8.1,c.2.2.2.2.2)))))))
(.done (k c.2))) Am ((0:Int),(x.1,((Y.1,(p.1,Y.2.2)),(x.2.2,(Ay (Aa x.1.1) [],([],[]))))))))
 none)
 none)
def Kg (x:AU×List Bk×List EA):Option (Bm×List (List (List Int))×Int) :=
 Ad (KP (x.1,x.2.1)) none λh =>
(cnd (!h.2==0)
(some (([],(([],([],([],([],[])))),([],([],([],([],([],0))))))),([],h.2)))
(cnd (decide (4096<Aa x.2.2))
(some (([],(([],([],([],([],[])))),([],([],([],([],([],0))))))),([],4)))
(iter none (λd =>
 cnd (decide (d.1<Aa x.2.2))
(Ad (idx x.2.2 d.1) dnn λc =>
 Ad (IY (x.1,c)) dnn λg =>
 cnd (!g==0)
(.done (some (([],(([],([],([],([],[])))),([],([],([],([],([],0))))))),([],g))))
(.next (wr .i64 (d.1+1),d.2)))
(.done (iter none (λc =>
 cnd (decide (c.2.1<Aa x.2.2))
(Ad (idx x.2.2 c.2.1) dnn λg =>
 Ad (MT (x.1,(c.2.2,g))) dnn λo =>
 cnd (true&&AA (Aa c.1+Aa (o.2::[])) 24)
(.next (c.1++o.2::[],(wr .i64 (c.2.1+1),o.1)))
 dnn)
(.done (some (c.2.2,(c.1,0))))) Am ([],((0:Int),h.1))))) Am ((0:Int),(([],(([],([],([],([],[])))),([],([],([],([],([],(0:Int)))))))):Bm)))))
def Xp (x:Al×Bk×List Kw):Option (List (List Int)×List Int×Int) :=
 Ad (G9 (x.1,(x.2.1.1,()))) none λg =>
(cnd (!g.2==0)
(some ([],([],g.2)))
(cnd (decide (4096<Aa x.2.2))
(some ([],([],4)))
(iter none (λc =>
 cnd (decide (c.2.2.1<Aa x.2.2))
(Ad (idx x.2.2 c.2.2.1) dnn λh =>
 Ad (Gb (x.1,(((c.2.2.2.1.1,()),c.2.2.2.2),(h,([],([],([],([],[])))))))) dnn λd =>
 cnd (true&&AA (Aa c.1+Aa (d.2.2.2.2.2.2.1::[])) 24)
(cnd (true&&AA (Aa c.2.1+Aa (d.2.1.2.2.1.1::[])) 1)
(.next (c.1++d.2.2.2.2.2.2.1::[],(c.2.1++d.2.1.2.2.1.1::[],(wr .i64 (c.2.2.1+1),((d.2.1.1.1,()),d.2.1.2)))))
 dnn)
 dnn)
(.done (some (c.1,(c.2.1,0))))) Am ([],([],((0:Int),((g.1.1.1,()),g.1.2)))))))
def XC (_:Unit):Option Bool :=
 Ao (Mc ()) λy =>
 Ad (Pq ()) none λh =>
(cnd (B5 4 88)
(Ad (Xp (y,((h.1,()),Ay 4 ([],(0,([],(false,(0,(0,false))))))))) none λc =>
 cnd (!c.2.2==0||!Aa c.1==4||!Aa c.2.1==4)
(some false)
(iter none (λd =>
 cnd (decide (d<4))
(Ad (idx c.1 d) dnn λg =>
 cnd (!Aa g==2)
(.done (some false))
(Ad (idx c.1 d) dnn λo =>
 Ad (idx o 1) dnn λp =>
 cnd (!p==1)
(.done (some false))
(Ad (idx c.1 d) dnn λt =>
 Ad (idx t 0) dnn λv =>
 cnd (!(v==2)==decide (1<d))
(.done (some false))
(.next (wr .i64 (d+1))))))
(.done (Ad (idx c.2.1 3) none λg =>
 some (g==1)))) Am (0:Int)))
 none)
def QF (_:Unit):Option Bool :=
 Ao (T3 ()) λy =>
 Ad (Pr (y,0)) none λt =>
 Ad (Pr (y,0)) none λv =>
 Ad (Pr (y,0)) none λE =>
 Ad (Pq ()) none λI =>
 Ad (Pq ()) none λJ =>
 Ad (Kg (y,((I.1,())::(J.1,())::[],t::v::E::[]))) none λc =>
 Ad (XC ()) none λX =>
(cnd (X&&c.2.2==0&&Aa c.2.1==3)
(Ad (idx c.2.1 2) none λY =>
 cnd (Aa Y==2)
(Ad (idx c.2.1 2) none λZ =>
 Ad (idx Z 1) none λd =>
 cnd (Aa d==2)
(Ad (idx c.2.1 2) none λg =>
 Ad (idx g 1) none λh =>
 Ad (idx h 0) none λo =>
 cnd (o==2&&c.1.2.2.2.2.2.2.2==3&&Aa c.1.1==2)
(Ad (idx c.1.1 1) none λp =>
 some (p.2.2.2.2.2.2.1.1==8))
(some false))
(some false))
(some false))
(some false))
def F8 (x:Al):Option Bool :=
(cnd (decide (40<Aa x.2.1)||decide (40<Aa x.2.2.1)||decide (40<Aa x.2.2.2.1)||decide (40<Aa x.2.2.2.2.1)||decide (60<Aa x.2.2.2.2.2.1)||decide (40<Aa x.2.2.2.2.2.2.2.2.2.2.2))
(some true)
(iter none (λd =>
 cnd (decide (d<Aa x.2.2.2.1))
(Ad (idx x.2.2.2.1 d) dnn λc =>
 cnd (decide (40<Aa c))
(.done (some true))
(.next (wr .i64 (d+1))))
(.done (iter none (λc =>
 cnd (decide (c<Aa x.2.2.2.2.2.2.2.2.2.2.2))
(Ad (idx x.2.2.2.2.2.2.2.2.2.2.2 c) dnn λg =>
 cnd (decide (40<Aa g.2.2))
(.done (some true))
(.next (wr .i64 (c+1))))
(.done (some false))) Am (0:Int)))) Am (0:Int)))
def Ly (x:AU):Option Bool :=
(cnd (decide (20<Aa x.1)||decide (30<Aa x.2.1)||decide (30<Aa x.2.2.1))
(some true)
(iter none (λg =>
 cnd (decide (g<Aa x.1))
(Ad (idx x.1 g) dnn λd =>
 Ad (F8 d) dnn λc =>
 cnd c
(.done (some true))
(.next (wr .i64 (g+1))))
(.done (iter none (λd =>
 cnd (decide (d<Aa x.2.1))
(Ad (idx x.2.1 d) dnn λc =>
 cnd (decide (60<Aa c.1))
(.done (some true))
(.next (wr .i64 (d+1))))
(.done (iter none (λc =>
 cnd (decide (c<Aa x.2.2.1))
(Ad (idx x.2.2.1 c) dnn λh =>
 cnd (decide (60<Aa h.2.2.2))
(.done (some true))
(.next (wr .i64 (c+1))))
(.done (some false))) Am (0:Int)))) Am (0:Int)))) Am (0:Int)))
def MS (x:List Kw):Option Int :=
 iter none (λc =>
 cnd (decide (c.2<Aa x))
(Ad (idx x c.2) dnn λd =>
 Ad (idx x c.2) dnn λg =>
.next (wr .i64 (c.1+wr .i64 (Aa d.1+Aa g.2.2.1)),wr .i64 (c.2+1)))
(.done (some c.1))) Am (Aa x,(0:Int))
def Ok (x:AU×List Bk×List EA):Option Bool :=
 Ad (Ly x.1) none λp =>
(cnd (p||!Aa x.2.1==Aa x.1.1||decide (Aa x.2.1<1)||decide (6<Aa x.2.1)||decide (40<Aa x.2.2))
(some false)
(Ad (Du x.1) none λt =>
 cnd (!t==0)
(some false)
(iter none (λh =>
 cnd (decide (h<Aa x.2.1))
(Ad (idx x.2.1 h) dnn λc =>
 cnd (decide (5000<Aa c.1))
(.done (some false))
(.next (wr .i64 (h+1))))
(.done (iter none (λc =>
 cnd (decide (c.2<Aa x.2.2))
(Ad (idx x.2.2 c.2) dnn λd =>
 cnd (!Aa d.1==Aa x.2.1||!Aa d.2.1==Aa x.2.1||!Aa d.2.2==Aa x.2.1)
(.done (some false))
(iter dnn (λg =>
 cnd (decide (g<Aa x.2.1))
(Ad (idx d.2.1 g) (.done dnn) λo =>
 cnd (decide (4<o))
(.done (.done (some false)))
(Ad (idx d.2.2 g) (.done dnn) λv =>
 cnd (decide (4<v))
(.done (.done (some false)))
(.next (wr .i64 (g+1)))))
(.done (Ad (MS d.1) dnn λo =>
.next (wr .i64 (c.1+o),wr .i64 (c.2+1))))) Am (0:Int)))
(.done (some (decide (c.1<=20000))))) Am ((0:Int),(0:Int))))) Am (0:Int))))
end Go.Proofs.YtlgpjdjcbincgaaGreatDoor
namespace Go.Proofs.YtlgpjdjcbincgaaGreatDoor
open Go.Den Go.RowKit Go.ChangeShapes
def AhN (x:AU×Int):Option Bool :=
 Ad (QF ()) none λo =>
(cnd (!o)
(some false)
(cnd (decide (x.2<1)||decide (60<x.2)||decide (6<Aa x.1.1))
(some o)
(iter none (λc =>
 cnd (decide (c.2<Aa x.1.1))
(Ad (Pq ()) dnn λp =>
 cnd (true&&AA (Aa c.1+Aa ((p.1,())::[])) 24)
(.next (c.1++(p.1,())::[],wr .i64 (c.2+1)))
 dnn)
(.done (Ad (Ok (x.1,(c.1,[]))) none λp =>
 cnd (!p)
(some o)
(iter none (λh =>
 cnd (decide (h.2<x.2))
(Ad (Pr (x.1,0)) dnn λd =>
 cnd (true&&AA (Aa h.1+Aa (d::[])) 72)
(.next (h.1++d::[],wr .i64 (h.2+1)))
 dnn)
(.done (Ad (Kg (x.1,(c.1,h.1))) none λd =>
 cnd (!d.2.2==0||!Aa d.1.1==Aa c.1)
(some false)
(iter none (λg =>
 cnd (decide (g<Aa c.1))
(Ad (idx x.1.1 g) dnn λt =>
 cnd (decide (0<Aa t.2.2.2.2.2.1)||decide (t.2.2.2.2.2.2.1<x.1.2.2.2.1)||decide (x.2<wr .i64 (2*t.2.2.2.2.2.2.2.2.1)))
(.next (wr .i64 (g+1)))
(Ad (idx d.1.1 g) dnn λv =>
 cnd (!v.2.2.1.1==3)
(.done (some false))
(Ad (idx d.1.1 g) dnn λy =>
 cnd (!y.2.2.2.2.2.2.1.1==x.1.2.2.2.1)
(.done (some false))
(.next (wr .i64 (g+1))))))
(.done (some o))) Am (0:Int))))) Am ([],(0:Int)))))) Am ([],(0:Int)))))
end Go.Proofs.YtlgpjdjcbincgaaGreatDoor
