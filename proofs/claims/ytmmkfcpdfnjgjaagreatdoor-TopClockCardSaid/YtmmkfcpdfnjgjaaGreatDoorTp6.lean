/- Part of a proof: plain readings of Go functions, their contracts, or plain facts of them. -/
import Derived.Test.YtmmkfcpdfnjgjaaGreatDoorTp5
import Derived.ArgAppend
import Derived.Deep.RegionHeld
import Derived.Laws.CopyOwn
import Derived.Laws.MakeOwn
import Derived.Lib.BytesEntry
import Derived.Lib.Walk
import Derived.LoopIn
import Derived.LoopNIn
import Derived.LoopTactic
import Derived.OwnWalkIn
import Derived.RangeFuncBound
import Derived.RangeFuncBox
import Derived.RangeFuncCalls
import Derived.RangeFuncFrom
import Derived.RangeFuncLeaves
import Derived.RangeFuncRecord
import Derived.Shelf.Abstract
import Derived.Shelf.Bits.Mul64
import Derived.Shelf.Bytes.SlJoin
import Derived.Tactics
import Derived.TacticsInMore
import Derived.WalkKit
import Derived.LaidLaws
namespace Go.Proofs.YtmmkfcpdfnjgjaaGreatDoor
open Go.Den Go.RowKit Go.ChangeShapes
def gL:List (Nat×Am):=[]
set_option maxRecDepth 100000 in
theorem AdF:∀x:Int×Int×Int,denote (mkC Tryz.prog V gL) 1 (Al Tryz.f52 {}) [I64,I64,I64] [Bo] false x=Vx x:=fun x=>by kernel_rfl
def VA:List (Nat×Am):=[(52,(spT [I64,I64,I64] [Bo] By))]
set_option maxRecDepth 100000 in
theorem rR:∀x:Ad,denote (mkC Tryz.prog V VA) 1 (Al Tryz.f53 {loops:=[(0,[.slot 48 I64])]}) [Ai] [Bo] false x=Ip x:=fun x=>by kernel_rfl
def VB:List (Nat×Am):=[(52,(spT [I64,I64,I64] [Bo] By))]
set_option maxRecDepth 100000 in
theorem rU:∀x:List Int,denote (mkC Tryz.prog V VB) 1 (Al Tryz.f97 {loops:=[(0,[.slot 7 I64])]}) [Ee] [Bo] false x=O5 x:=fun x=>by kernel_rfl
def Z4:List (Nat×Am):=[]
set_option maxRecDepth 100000 in
theorem Abj:∀x:Int,denote (mkC Tryz.prog V Z4) 1 (Al Tryz.f154 {}) [I64] [U32] false x=Sl x:=fun x=>by kernel_rfl
def Z3:List (Nat×Am):=[(154,(spT [I64] [U32] DK))]
set_option maxRecDepth 100000 in
theorem Abg:∀x:Int×Int,denote (mkC Tryz.prog V Z3) 1 (Al Tryz.f98 {}) [U32,I64] [Bo] false x=Sj x:=fun x=>by kernel_rfl
def Vu:List (Nat×Am):=[(97,(spT [Ee] [Bo] Bz)),(98,(spT [U32,I64] [Bo] Ei)),(52,(spT [I64,I64,I64] [Bo] By))]
set_option maxRecDepth 100000 in
theorem rK:∀x:Ad,denote (mkC Tryz.prog V Vu) 1 (Al Tryz.f54 {loops:=[(0,[.slot 11 I64]),(2,[.slot 39 I64])]}) [Ai] [Bo] false x=Io x:=fun x=>by kernel_rfl
def U7:List (Nat×Am):=[(155,(spT [U32] [I64] Bv))]
set_option maxRecDepth 100000 in
theorem pR:∀x:Int,denote (mkC Tryz.prog V U7) 1 (Al Tryz.f99 {}) [U32] [I64] false x=OX x:=fun x=>by kernel_rfl
def QY:List (Nat×Am):=[(154,(spT [I64] [U32] DK))]
set_option maxRecDepth 100000 in
theorem dR:∀x:Int×Int,denote (mkC Tryz.prog V QY) 1 (Al Tryz.f100 {}) [U32,I64] [U32] false x=ME x:=fun x=>by kernel_rfl
def U6:List (Nat×Am):=[(156,(spT [U32] [I64] IK))]
set_option maxRecDepth 100000 in
theorem pN:∀x:Int,denote (mkC Tryz.prog V U6) 1 (Al Tryz.f101 {}) [U32] [I64] false x=OW x:=fun x=>by kernel_rfl
def S2:List (Nat×Am):=[(97,(spT [Ee] [Bo] Bz)),(99,(spT [U32] [I64] GB)),(100,(spT [U32,I64] [U32] Co)),(101,(spT [U32] [I64] HE))]
set_option maxRecDepth 100000 in
theorem jR:∀x:Ad,denote (mkC Tryz.prog V S2) 1 (Al Tryz.f55 {loops:=[(0,[.slot 3 U32,.slot 11 I64]),(2,[.slot 6 U32])]}) [Ai] [Bo] false x=Ho x:=fun x=>by kernel_rfl
def XD:List (Nat×Am):=[(52,(spT [I64,I64,I64] [Bo] By)),(97,(spT [Ee] [Bo] Bz))]
set_option maxRecDepth 100000 in
theorem wW:∀x:Ad,denote (mkC Tryz.prog V XD) 1 (Al Tryz.f56 {loops:=[(0,[.slot 8 I64])]}) [Ai] [Bo] false x=Jj x:=fun x=>by kernel_rfl
def Vv:List (Nat×Am):=[(98,(spT [U32,I64] [Bo] Ei)),(99,(spT [U32] [I64] GB)),(100,(spT [U32,I64] [U32] Co))]
set_option maxRecDepth 100000 in
theorem rN:∀x:Ad×Int×Int,denote (mkC Tryz.prog V Vv) 1 (Al Tryz.f144 {loops:=[(0,[.slot 6 I64,.slot 13 I64]),(2,[.slot 6 I64,.slot 8 U32])]}) [Ai,I64,I64] [I64] false x=F8 x:=fun x=>by kernel_rfl
def Vy:List (Nat×Am):=[(144,(spP [Ai,I64,I64] [I64] F8))]
set_option maxRecDepth 100000 in
theorem rP:∀x:Ad×Int,denote (mkC Tryz.prog V Vy) 1 (Al Tryz.f79 {}) [Ai,I64] [I64] false x=EC x:=fun x=>by kernel_rfl
def VC:List (Nat×Am):=[(79,(spP [Ai,I64] [I64] EC)),(97,(spT [Ee] [Bo] Bz))]
set_option maxRecDepth 100000 in
theorem rX:∀x:Ad,denote (mkC Tryz.prog V VC) 1 (Al Tryz.f57 {loops:=[(0,[.slot 3 I64,.slot 8 I64])]}) [Ai] [Bo] false x=Iq x:=fun x=>by kernel_rfl
def XE:List (Nat×Am):=[(52,(spT [I64,I64,I64] [Bo] By)),(79,(spP [Ai,I64] [I64] EC))]
set_option maxRecDepth 100000 in
theorem wZ:∀x:Ad×Az,denote (mkC Tryz.prog V XE) 1 (Al Tryz.f34 {loops:=[(0,[.slot 5 I64,.slot 39 I64])]}) [Ai,Cc] [Bo] false x=GO x:=fun x=>by kernel_rfl
def Q7:List (Nat×Am):=[(34,(spP [Ai,Cc] [Bo] GO))]
set_option maxRecDepth 100000 in
theorem dX:∀x:Ad,denote (mkC Tryz.prog V Q7) 1 (Al Tryz.f58 {loops:=[(0,[.slot 8 I64])]}) [Ai] [Bo] false x=GY x:=fun x=>by kernel_rfl
def Vn:List (Nat×Am):=[(52,(spT [I64,I64,I64] [Bo] By)),(53,(spP [Ai] [Bo] Ip)),(54,(spP [Ai] [Bo] Io)),(55,(spP [Ai] [Bo] Ho)),(56,(spP [Ai] [Bo] Jj)),(57,(spP [Ai] [Bo] Iq)),(58,(spP [Ai] [Bo] GY))]
set_option maxRecDepth 100000 in
theorem qY:∀x:Ad,denote (mkC Tryz.prog V Vn) 1 (Al Tryz.f28 {loops:=[(0,[.slot 3 Bo,.slot 5 I64])]}) [Ai] [I64] false x=Aw x:=fun x=>by kernel_rfl
def XC:List (Nat×Am):=[(28,(spP [Ai] [I64] Aw)),(34,(spP [Ai,Cc] [Bo] GO))]
set_option maxRecDepth 100000 in
theorem wU:∀x:Ad×Az,denote (mkC Tryz.prog V XC) 1 (Al Tryz.f14 {}) [Ai,Cc] [Bo,I64] false x=CY x:=fun x=>by kernel_rfl
def gT:List (Nat×Am):=[]
set_option maxRecDepth 100000 in
theorem AdQ:∀x:Unit,denote (mkC Tryz.prog V gT) 1 (Al Tryz.f26 {}) [] [Ai] false x=VS x:=fun x=>by kernel_rfl
def aU:List (Nat×Am):=[]
set_option maxRecDepth 100000 in
theorem AbN:∀x:Unit,denote (mkC Tryz.prog V aU) 1 (Al Tryz.f16 {}) [] [AL] false x=GC x:=fun x=>by kernel_rfl
def SF:List (Nat×Am):=[]
set_option maxRecDepth 100000 in
theorem iC:∀x:Bb,denote (mkC Tryz.prog V SF) 1 (Al Tryz.f60 {}) [AL] [I64] false x=Ns x:=fun x=>by kernel_rfl
def TM:List (Nat×Am):=[(60,(spT [AL] [I64] CX))]
set_option maxRecDepth 100000 in
theorem lB:∀x:Bb,denote (mkC Tryz.prog V TM) 1 (Al Tryz.f59 {}) [AL] [I64,I64] false x=Ok x:=fun x=>by kernel_rfl
def QP:List (Nat×Am):=[(59,(spT [AL] [I64,I64] Cv)),(60,(spT [AL] [I64] CX))]
set_option maxRecDepth 100000 in
theorem dD:∀x:Bb,denote (mkC Tryz.prog V QP) 1 (Al Tryz.f29 {}) [AL] [Bo] false x=MA x:=fun x=>by kernel_rfl
def SG:List (Nat×Am):=[(59,(spT [AL] [I64,I64] Cv))]
set_option maxRecDepth 100000 in
theorem iF:∀x:Bb×Int,denote (mkC Tryz.prog V SG) 1 (Al Tryz.f117 {}) [AL,I64] [I64] false x=Nt x:=fun x=>by kernel_rfl
def Y8:List (Nat×Am):=[]
set_option maxRecDepth 100000 in
theorem Aab:∀x:Bb×Int,denote (mkC Tryz.prog V Y8) 1 (Al Tryz.f119 {}) [AL,I64] [U8s] false x=JZ x:=fun x=>by kernel_rfl
def TN:List (Nat×Am):=[(117,(spT [AL,I64] [I64] FM)),(119,(spP [AL,I64] [U8s] JZ)),(118,(spP [U8s] [U8s] C5 true))]
set_option maxRecDepth 100000 in
theorem lE:∀x:Bb×Int,denote (mkC Tryz.prog V TN) 1 (Al Tryz.f80 {}) [AL,I64] [U8s,I64] false x=Cm x:=fun x=>by kernel_rfl
def fZ:List (Nat×Am):=[]
set_option maxRecDepth 100000 in
theorem Adm:∀x:List Int,denote (mkC Tryz.prog V fZ) 1 (Al Tryz.f148 {loops:=[(0,[.slot 2 U64,.slot 16 I64])]}) [U8s] [U64,I64] false x=F4 x:=fun x=>by kernel_rfl
def Ra:List (Nat×Am):=[(148,(spP [U8s] [U64,I64] F4))]
set_option maxRecDepth 100000 in
theorem eD:∀x:List Int,denote (mkC Tryz.prog V Ra) 1 (Al Tryz.f87 {}) [U8s] [U64] false x=B8 x:=fun x=>by kernel_rfl
def ZV:List (Nat×Am):=[]
set_option maxRecDepth 100000 in
theorem Abb:∀x:List Int,denote (mkC Tryz.prog V ZV) 1 (Al Tryz.f93 {loops:=[(0,[.slot 5 U64,.slot 10 I64])]}) [U8s] [U64,I64,I64] false x=Dn x:=fun x=>by kernel_rfl
def L6:List (Nat×Am):=[(93,(spP [U8s] [U64,I64,I64] Dn))]
def L7:List (Nat×Am):=[]
set_option maxRecDepth 100000 in
theorem Th:∀x:FD×Int,EM (mkP Tryz.prog V L6 L7 []) 1 (Al Tryz.f218 {}) CZ [I64] CZ [I64] x=BD x:=fun x=>by kernel_rfl
def K8:List (Nat×Am):=[]
def K9:List (Nat×Am):=[(218,(spP [CZ,I64] [CZ,I64] BD))]
set_option maxRecDepth 100000 in
theorem Q3:∀x:FD×Int,EM (mkP Tryz.prog V K8 K9 []) 1 (Al Tryz.f219 {loops:=[(0,[.own 5 I64,.slot 7 I64,.box 0 CZ])]}) CZ [I64] CZ [Ee] x=CI x:=fun x=>by kernel_rfl
def LM:List (Nat×Am):=[]
def LN:List (Nat×Am):=[(218,(spP [CZ,I64] [CZ,I64] BD)),(219,(spP [CZ,I64] [CZ,Ee] CI))]
set_option maxRecDepth 100000 in
theorem Sq:∀x:FD,EM (mkP Tryz.prog V LM LN []) 1 (Al Tryz.f197 {loops:=[(0,[.own 2 Cc,.slot 8 I64,.box 0 CZ])]}) CZ [] CZ [FW] x=CV x:=fun x=>by kernel_rfl
def Xu:List (Nat×Am):=[]
set_option maxRecDepth 100000 in
theorem wD:∀x:Int,denote (mkC Tryz.prog V Xu) 1 (Al Tryz.f83 {loops:=[(0,[.slot 0 U64,.own 3 U8])]}) [U64] [U8s] true x=CK x:=fun x=>by kernel_rfl
def Vt:List (Nat×Am):=[(97,(spT [Ee] [Bo] Bz)),(52,(spT [I64,I64,I64] [Bo] By)),(83,(spP [U64] [U8s] CK true))]
noncomputable def Vs:List (Nat×Inl):=[(146,Al Tryz.f146 {loops:=[(0,[.own 0 U8,.slot 9 I64])]})]
set_option maxRecDepth 100000 in
theorem rH:∀x:List Az,denote (mkC Tryz.prog V Vt Vs) 2 (Al Tryz.f82 {loops:=[(0,[.slot 18 I64,.own 4 U8]),(2,[.slot 56 I64,.own 4 U8])]}) [FW] [U8s,I64] false x=EB x:=fun x=>by kernel_rfl
def SI:List (Nat×Am):=[]
set_option maxRecDepth 100000 in
theorem iI:∀x:List Int×List Int,denote (mkC Tryz.prog V SI) 1 (Al Tryz.f50 {}) [U8s,U8s] [Bo] false x=Nv x:=fun x=>by kernel_rfl
end Go.Proofs.YtmmkfcpdfnjgjaaGreatDoor
namespace Go.Proofs.YtmmkfcpdfnjgjaaGreatDoor
open Go.Den Go.RowKit Go.ChangeShapes
def Vq:List (Nat×Am):=[(82,(spP [FW] [U8s,I64] EB)),(50,(spT [U8s,U8s] [Bo] bytes_Equal))]
def Vr:List (Nat×Am):=[(197,(spP [CZ] [CZ,FW] CV))]
set_option maxRecDepth 100000 in
theorem rD:∀x:List Int,denote (mkP Tryz.prog V Vq Vr []) 1 (Al Tryz.f145 {}) [U8s] [FW,I64] false x=F7 x:=fun x=>by kernel_rfl
def gB:List (Nat×Am):=[]
set_option maxRecDepth 100000 in
theorem Ado:∀x:Int×Int,denote (mkC Tryz.prog V gB) 1 (Al Tryz.f84 {loops:=[(0,[.slot 29 I64,.arr 26 U8])]}) [U64,I64] [U8s,I64] false x=F5 x:=fun x=>by kernel_rfl
def Q8:List (Nat×Am):=[(82,(spP [FW] [U8s,I64] EB)),(83,(spP [U64] [U8s] CK true)),(84,(spP [U64,I64] [U8s,I64] F5)),(85,(spP [Lj,U8s] [U8s] G1))]
set_option maxRecDepth 100000 in
theorem eB:∀x:Bt×Int,denote (mkC Tryz.prog V Q8) 1 (Al Tryz.f36 {loops:=[(0,[.own 12 U8s,.slot 74 I64])]}) [HT,I64] [Lj,I64] false x=BL x:=fun x=>by kernel_rfl
def Nl:List (Nat×Am):=[(87,(spP [U8s] [U64] B8)),(93,(spP [U8s] [U64,I64,I64] Dn)),(145,(spP [U8s] [FW,I64] F7)),(36,(spP [HT,I64] [Lj,I64] BL)),(50,(spT [U8s,U8s] [Bo] bytes_Equal))]
def Nn:List (Nat×Am):=[]
set_option maxRecDepth 100000 in
theorem VN:∀x:E5,EM (mkP Tryz.prog V Nl Nn []) 1 (Al Tryz.f81 {loops:=[(0,[.own 2 U8,.slot 20 I64]),(2,[.slot 109 I64])]}) JW [] JW [] x=AY x:=fun x=>by kernel_rfl
def VH:List (Nat×Am):=[(59,(spT [AL] [I64,I64] Cv)),(80,(spP [AL,I64] [U8s,I64] Cm))]
noncomputable def VG:List (Nat×Inl):=[(35,Al Tryz.f35 {unr:=[(0,3)],loops:=[(2,[.slot 30 I64,.nbox JW [3]])]}),(37,Al Tryz.f37 {}),(86,Al Tryz.f86 {})]
def VI:List (Nat×Am):=[(81,(spP [JW] [JW] AY))]
set_option maxRecDepth 100000 in
theorem sA:∀x:Bb,denote (mkP Tryz.prog V VH VI VG) 4 (Al Tryz.f61 {}) [AL] [HT,I64] false x=D5 x:=fun x=>by kernel_rfl
def Vc:List (Nat×Am):=[]
set_option maxRecDepth 100000 in
theorem pZ:∀x:Ad×Int×Int,denote (mkC Tryz.prog V Vc) 1 (Al Tryz.f199 {}) [Ai,I64,I64] [Bo] false x=De x:=fun x=>by kernel_rfl
def Q1:List (Nat×Am):=[]
set_option maxRecDepth 100000 in
theorem dV:∀x:Ad×Int×Int,denote (mkC Tryz.prog V Q1) 1 (Al Tryz.f200 {}) [Ai,I64,I64] [I64] false x=DE x:=fun x=>by kernel_rfl
def PI:List (Nat×Am):=[(199,(spP [Ai,I64,I64] [Bo] De)),(200,(spP [Ai,I64,I64] [I64] DE))]
set_option maxRecDepth 100000 in
theorem Z9:∀x:Ad,denote (mkC Tryz.prog V PI) 1 (Al Tryz.f153 {loops:=[(0,[.slot 3 I64,.slot 9 I64]),(2,[.slot 3 I64,.slot 15 I64])]}) [Ai] [I64] false x=BU x:=fun x=>by kernel_rfl
def Vg:List (Nat×Am):=[(153,(spP [Ai] [I64] BU))]
set_option maxRecDepth 100000 in
theorem qH:∀x:Ad,denote (mkC Tryz.prog V Vg) 1 (Al Tryz.f102 {loops:=[(0,[.slot 10 I64,.fown 3 .unit Ga (.pair I64 Bo)])]}) [Ai] [A9] false x=Ii x:=fun x=>by kernel_rfl
def Vb:List (Nat×Am):=[(28,(spP [Ai] [I64] Aw)),(102,(spP [Ai] [A9] Ii))]
set_option maxRecDepth 100000 in
theorem pW:∀x:Ad,denote (mkC Tryz.prog V Vb) 1 (Al Tryz.f62 {}) [Ai] [A9,I64] false x=Ig x:=fun x=>by kernel_rfl
def QI:List (Nat×Am):=[]
set_option maxRecDepth 100000 in
theorem cN:∀x:Int,denote (mkC Tryz.prog V QI) 1 (Al Tryz.f64 {}) [U8] [EW] false x=Mx x:=fun x=>by kernel_rfl
def SV:List (Nat×Am):=[(61,(spP [AL] [HT,I64] D5)),(62,(spP [Ai] [A9,I64] Ig)),(63,(spP [U8s] [U8s] Fp true)),(64,(spT [U8] [EW] Cg))]
set_option maxRecDepth 100000 in
theorem jK:∀x:Ad×Bb,denote (mkC Tryz.prog V SV) 1 (Al Tryz.f30 {}) [Ai,AL] [Bu] false x=Fu x:=fun x=>by kernel_rfl
def SU:List (Nat×Am):=[(28,(spP [Ai] [I64] Aw)),(29,(spT [AL] [Bo] Dv)),(30,(spP [Ai,AL] [Bu] Fu))]
set_option maxRecDepth 100000 in
theorem jI:∀x:Ad×Bb,denote (mkC Tryz.prog V SU) 1 (Al Tryz.f9 {}) [Ai,AL] [Bu,I64] false x=BQ x:=fun x=>by kernel_rfl
def Is:List (Nat×Am):=[]
noncomputable def Ir:List (Nat×Inl):=[(161,Al Tryz.f161 {})]
set_option maxRecDepth 100000 in
theorem MG:∀x:List (List Int),denote (mkC Tryz.prog V Is Ir) 2 (Al Tryz.f110 {loops:=[(0,[.slot 3 I64,.slot 11 I64]),(2,[.slot 27 I64,.own 6 U8])]}) [Lj] [U8s] false x=CD x:=fun x=>by kernel_rfl
def Kk:List (Nat×Am):=[]
set_option maxRecDepth 100000 in
theorem Pa:∀x:List Int×Int,denote (mkC Tryz.prog V Kk) 1 (Al Tryz.f92 {loops:=[(0,[.slot 5 I64])]}) [U8s,U8] [I64] false x=Dj x:=fun x=>by kernel_rfl
def KY:List (Nat×Am):=[(92,(spP [U8s,U8] [I64] Dj))]
set_option maxRecDepth 100000 in
theorem QB:∀x:List Int×Int,denote (mkC Tryz.prog V KY) 1 (Al Tryz.f47 {}) [U8s,U8] [I64] false x=C9 x:=fun x=>by kernel_rfl
def T1:List (Nat×Am):=[]
set_option maxRecDepth 100000 in
theorem mD:∀x:List Int,denote (mkC Tryz.prog V T1) 1 (Al Tryz.f151 {loops:=[(0,[.own 4 U8,.slot 5 Bo,.slot 13 I64])]}) [U8s] [U8s,I64] true x=G3 x:=fun x=>by kernel_rfl
def gD:List (Nat×Am):=[]
set_option maxRecDepth 100000 in
theorem Adq:∀x:List Int,denote (mkC Tryz.prog V gD) 1 (Al Tryz.f198 {loops:=[(0,[.slot 4 U32,.slot 10 I64,.arr 3 U32])],unr:=[]}) [U8s] [U32] false x=GL x:=fun x=>by kernel_rfl
def T2:List (Nat×Am):=[(148,(spP [U8s] [U64,I64] F4)),(198,(spP [U8s] [U32] GL)),(118,(spP [U8s] [U8s] C5 true))]
set_option maxRecDepth 100000 in
theorem mG:∀x:List Int,denote (mkC Tryz.prog V T2) 1 (Al Tryz.f152 {}) [U8s] [FE,I64] false x=G4 x:=fun x=>by kernel_rfl
def T4:List (Nat×Am):=[(47,(spP [U8s,U8] [I64] C9)),(151,(spP [U8s] [U8s,I64] G3 true)),(152,(spP [U8s] [FE,I64] G4))]
noncomputable def T3:List (Nat×Inl):=[(45,Al Tryz.f45 {}),(46,Al Tryz.f46 {loops:=[(0,[.slot 25 I64,.own 6 FE,.fbox 0 Ad7 [0]])]}),(91,Al Tryz.f91 {})]
set_option maxRecDepth 100000 in
theorem mJ:∀x:List Int,denote (mkC Tryz.prog V T4 T3) 4 (Al Tryz.f21 {}) [U8s] [Hs,I64,I64] false x=DU x:=fun x=>by kernel_rfl
def Ul:List (Nat×Am):=[]
set_option maxRecDepth 100000 in
theorem nK:∀x:Cy,denote (mkC Tryz.prog V Ul) 1 (Al Tryz.f158 {}) [He] [I64] false x=OK x:=fun x=>by kernel_rfl
def Xj:List (Nat×Am):=[(158,(spT [He] [I64] FP)),(118,(spP [U8s] [U8s] C5 true))]
set_option maxRecDepth 100000 in
theorem vF:∀x:Cy×List BJ,denote (mkC Tryz.prog V Xj) 1 (Al Tryz.f111 {loops:=[(0,[.slot 25 I64,.box 4 He]),(2,[.own 10 FE,.slot 37 I64,.box 2 He])]}) [He,Hs] [He,Hs,I64] false x=GJ x:=fun x=>by kernel_rfl
def M6:List (Nat×Am):=[(93,(spP [U8s] [U64,I64,I64] Dn))]
def M7:List (Nat×Am):=[]
set_option maxRecDepth 100000 in
theorem Un:∀x:Pe×Int,EM (mkP Tryz.prog V M6 M7 []) 1 (Al Tryz.f48 {}) Jz [I64] Jz [I64] x=CA x:=fun x=>by kernel_rfl
def Ur:List (Nat×Am):=[]
set_option maxRecDepth 100000 in
theorem nN:∀x:Int,denote (mkC Tryz.prog V Ur) 1 (Al Tryz.f94 {}) [I64] [Bo] false x=OL x:=fun x=>by kernel_rfl
def ZE:List (Nat×Am):=[(83,(spP [U64] [U8s] CK true))]
def ZF:List (Nat×Am):=[]
set_option maxRecDepth 100000 in
theorem AaZ:∀x:List Int×List Int,Wh (mkP Tryz.prog V ZE ZF []) 1 (Al Tryz.f95 {loops:=[(0,[.own 0 U8,.slot 9 I64])]}) U8 [Ee] U8 [] x=FQ x:=fun x=>by kernel_rfl
def QL:List (Nat×Am):=[(94,(spT [I64] [Bo] Gz)),(82,(spP [FW] [U8s,I64] EB))]
def QN:List (Nat×Am):=[]
def QM:List (Nat×Am):=[(95,(spP [U8s,Ee] [U8s] FQ))]
set_option maxRecDepth 100000 in
theorem cY:∀x:Iy,denote (mkO Tryz.prog V QL QN QM []) 1 (Al Tryz.f162 {}) [Jy] [U8s,I64] false x=GW x:=fun x=>by kernel_rfl
def OI:List (Nat×Am):=[(162,(spP [Jy] [U8s,I64] GW)),(50,(spT [U8s,U8s] [Bo] bytes_Equal))]
def OJ:List (Nat×Am):=[(48,(spP [Jz,I64] [Jz,I64] CA))]
set_option maxRecDepth 100000 in
theorem Yo:∀x:List Int,denote (mkP Tryz.prog V OI OJ []) 1 (Al Tryz.f112 {loops:=[(0,[.slot 23 I64,.fbox 6 Jy [3],.box 11 Jz])]}) [U8s] [Jy,I64] false x=DY x:=fun x=>by kernel_rfl
def Xs:List (Nat×Am):=[]
set_option maxRecDepth 100000 in
theorem wA:∀x:Ad×Int,denote (mkC Tryz.prog V Xs) 1 (Al Tryz.f41 {}) [Ai,I64] [I64] false x=E2 x:=fun x=>by kernel_rfl
def Vp:List (Nat×Am):=[(144,(spP [Ai,I64,I64] [I64] F8)),(28,(spP [Ai] [I64] Aw)),(52,(spT [I64,I64,I64] [Bo] By))]
noncomputable def Vo:List (Nat×Inl):=[(149,Al Tryz.f149 {loops:=[(0,[.slot 17 I64])]}),(150,Al Tryz.f150 {})]
set_option maxRecDepth 100000 in
theorem q9:∀x:Ad×Int×Int,denote (mkC Tryz.prog V Vp Vo) 3 (Al Tryz.f89 {joins:=[(2,[])],outs:=[(2,[(8,I64)])]}) [Ai,I64,I64] [I64,I64] false x=Im x:=fun x=>by kernel_rfl
end Go.Proofs.YtmmkfcpdfnjgjaaGreatDoor
namespace Go.Proofs.YtmmkfcpdfnjgjaaGreatDoor
open Go.Den Go.RowKit Go.ChangeShapes
def UX:List (Nat×Am):=[(41,(spP [Ai,I64] [I64] E2)),(89,(spP [Ai,I64,I64] [I64,I64] Im))]
set_option maxRecDepth 100000 in
theorem o9:∀x:Ad×Int,denote (mkC Tryz.prog V UX) 1 (Al Tryz.f40 {}) [Ai,I64] [I64] false x=Fh x:=fun x=>by kernel_rfl
def US:List (Nat×Am):=[(28,(spP [Ai] [I64] Aw)),(40,(spP [Ai,I64] [I64] Fh))]
set_option maxRecDepth 100000 in
theorem oW:∀x:Ad×Az,denote (mkC Tryz.prog V US) 1 (Al Tryz.f113 {loops:=[(0,[.slot 54 I64,.slot 8 I64,.slot 9 I64,.slot 10 I64,.fown 7 (.pair I64 I64) I64 .unit,.arr 11 I64]),(2,[.slot 115 I64,.slot 15 I64,.fown 7 (.pair I64 I64) I64 .unit])],joins:=[(14,[.fown 7 (.pair I64 I64) I64 .unit,.arr 11 I64]),(16,[.slot 10 I64,.fown 7 (.pair I64 I64) I64 .unit,.arr 11 I64])]}) [Ai,Cc] [Cc,I64] false x=Fg x:=fun x=>by kernel_rfl
def Uv:List (Nat×Am):=[]
set_option maxRecDepth 100000 in
theorem nU:∀x:Int×Int,denote (mkC Tryz.prog V Uv) 1 (Al Tryz.f78 {}) [I64,I64] [I64] false x=OO x:=fun x=>by kernel_rfl
def Na:List (Nat×Am):=[(110,(spP [Lj] [U8s] CD)),(21,(spP [U8s] [Hs,I64,I64] DU)),(63,(spP [U8s] [U8s] Fp true)),(111,(spP [He,Hs] [He,Hs,I64] GJ)),(112,(spP [U8s] [Jy,I64] DY)),(113,(spP [Ai,Cc] [Cc,I64] Fg)),(78,(spT [I64,I64] [I64] B3))]
def Nb:List (Nat×Am):=[]
set_option maxRecDepth 100000 in
theorem UC:∀x:BX,EM (mkP Tryz.prog V Na Nb []) 1 (Al Tryz.f66 {loops:=[(0,[.slot 10 Bo,.slot 80 I64,.box 0 A6])],joins:=[(6,[.box 0 A6])]}) A6 [] A6 [Bo] x=EU x:=fun x=>by kernel_rfl
def Jv:List (Nat×Am):=[]
set_option maxRecDepth 100000 in
theorem NV:∀x:List Int×List Int,denote (mkC Tryz.prog V Jv) 1 (Al Tryz.f163 {loops:=[(0,[.slot 13 I64])]}) [Ee,Ee] [Bo] false x=C1 x:=fun x=>by kernel_rfl
def Uw:List (Nat×Am):=[(163,(spP [Ee,Ee] [Bo] C1))]
set_option maxRecDepth 100000 in
theorem nY:∀x:Az×Az,denote (mkC Tryz.prog V Uw) 1 (Al Tryz.f114 {}) [Cc,Cc] [Bo] false x=H7 x:=fun x=>by kernel_rfl
def Nj:List (Nat×Am):=[(87,(spP [U8s] [U64] B8))]
def Nk:List (Nat×Am):=[]
set_option maxRecDepth 100000 in
theorem VJ:∀x:E5×Int,N3 (mkP Tryz.prog V Nj Nk []) 1 (Al Tryz.f38 {loops:=[(0,[.slot 1 I64,.slot 16 I64]),(2,[.slot 1 I64,.slot 28 I64]),(4,[.slot 1 I64]),(6,[.slot 49 I64])]}) JW [I64] [I64] x=CW x:=fun x=>by kernel_rfl
def XL:List (Nat×Am):=[(36,(spP [HT,I64] [Lj,I64] BL)),(59,(spT [AL] [I64,I64] Cv)),(80,(spP [AL,I64] [U8s,I64] Cm))]
noncomputable def XK:List (Nat×Inl):=[(35,Al Tryz.f35 {unr:=[(0,3)],loops:=[(2,[.slot 30 I64,.nbox JW [3]])]}),(37,Al Tryz.f37 {}),(86,Al Tryz.f86 {})]
def XM:List (Nat×Am):=[(38,(spP [JW,I64] [I64] CW true)),(81,(spP [JW] [JW] AY))]
set_option maxRecDepth 100000 in
theorem w6:∀x:Bb×Int×List Az,denote (mkP Tryz.prog V XL XM XK) 4 (Al Tryz.f15 {loops:=[(0,[.own 18 Ad6,.slot 79 I64])]}) [AL,U8,FW] [NO,I64] false x=FT x:=fun x=>by kernel_rfl
def L4:List (Nat×Am):=[(61,(spP [AL] [HT,I64] D5)),(114,(spP [Cc,Cc] [Bo] H7)),(15,(spP [AL,U8,FW] [NO,I64] FT))]
def L5:List (Nat×Am):=[]
set_option maxRecDepth 100000 in
theorem Td:∀x:BX,EM (mkP Tryz.prog V L4 L5 []) 1 (Al Tryz.f67 {}) A6 [] A6 [] x=DJ x:=fun x=>by kernel_rfl
def LZ:List (Nat×Am):=[(164,(spP [U8s,I64] [U8s] Fj true))]
def L0:List (Nat×Am):=[]
set_option maxRecDepth 100000 in
theorem Ta:∀x:BX,EM (mkP Tryz.prog V LZ L0 []) 1 (Al Tryz.f115 {}) A6 [] A6 [U8s] x=C4 x:=fun x=>by kernel_rfl
def Vj:List (Nat×Am):=[]
set_option maxRecDepth 100000 in
theorem qO:∀x:Aq,denote (mkC Tryz.prog V Vj) 1 (Al Tryz.f185 {loops:=[(0,[.slot 13 I64,.arr 9 U8])]}) [A9] [U8s] true x=Ij x:=fun x=>by kernel_rfl
def Vi:List (Nat×Am):=[]
noncomputable def Vh:List (Nat×Inl):=[(181,Al Tryz.f181 {}),(211,Al Tryz.f211 {loops:=[(0,[.slot 8 I64])]}),(213,Al Tryz.f213 {})]
set_option maxRecDepth 100000 in
theorem qK:∀x:List Int,denote (mkC Tryz.prog V Vi Vh) 4 (Al Tryz.f186 {}) [U8s] [Bo] false x=EA x:=fun x=>by kernel_rfl
def aC:List (Nat×Am):=[]
set_option maxRecDepth 100000 in
theorem Abq:∀x:Int,denote (mkC Tryz.prog V aC) 1 (Al Tryz.f190 {}) [U8] [Bo] false x=So x:=fun x=>by kernel_rfl
def Xz:List (Nat×Am):=[(190,(spT [U8] [Bo] Dq)),(199,(spP [Ai,I64,I64] [Bo] De))]
set_option maxRecDepth 100000 in
theorem wN:∀x:Ad×List Int,denote (mkC Tryz.prog V Xz) 1 (Al Tryz.f187 {loops:=[(0,[.slot 9 I64]),(2,[.slot 18 I64])]}) [Ai,U8s] [Bo] false x=E3 x:=fun x=>by kernel_rfl
def aB:List (Nat×Am):=[(185,(spP [A9] [U8s] Ij true)),(186,(spP [U8s] [Bo] EA)),(187,(spP [Ai,U8s] [Bo] E3))]
set_option maxRecDepth 100000 in
theorem Abn:∀x:Ad×Aq,denote (mkC Tryz.prog V aB) 1 (Al Tryz.f136 {}) [Ai,A9] [Bo] false x=Kd x:=fun x=>by kernel_rfl
def HR:List (Nat×Am):=[]
set_option maxRecDepth 100000 in
theorem LU:∀x:List Int×Int,denote (mkC Tryz.prog V HR) 1 (Al Tryz.f214 {loops:=[(0,[.slot 8 I64])]}) [U8s,U8] [I64] false x=Cr x:=fun x=>by kernel_rfl
def Hb:List (Nat×Am):=[(214,(spP [U8s,U8] [I64] Cr))]
set_option maxRecDepth 100000 in
theorem KQ:∀x:List Int×Int,denote (mkC Tryz.prog V Hb) 1 (Al Tryz.f188 {}) [U8s,U8] [Bo] false x=B7 x:=fun x=>by kernel_rfl
def Xh:List (Nat×Am):=[]
set_option maxRecDepth 100000 in
theorem u7:∀x:Int,denote (mkC Tryz.prog V Xh) 1 (Al Tryz.f212 {}) [I64] [I64] false x=P7 x:=fun x=>by kernel_rfl
def Xg:List (Nat×Am):=[]
set_option maxRecDepth 100000 in
theorem u0:∀x:Int,denote (mkC Tryz.prog V Xg) 1 (Al Tryz.f215 {}) [U8] [Bo] false x=P5 x:=fun x=>by kernel_rfl
def QK:List (Nat×Am):=[]
set_option maxRecDepth 100000 in
theorem cU:∀x:Int×Int,denote (mkC Tryz.prog V QK) 1 (Al Tryz.f216 {}) [U8,U8] [Bo] false x=My x:=fun x=>by kernel_rfl
def ZC:List (Nat×Am):=[(212,(spT [I64] [I64] AP)),(215,(spT [U8] [Bo] GI)),(216,(spT [U8,U8] [Bo] F3))]
set_option maxRecDepth 100000 in
theorem AaT:∀x:CC×A5×Int,denote (mkC Tryz.prog V ZC) 1 (Al Tryz.f191 {}) [Kq,Ga,U8] [U8] false x=RP x:=fun x=>by kernel_rfl
def Vd:List (Nat×Am):=[(199,(spP [Ai,I64,I64] [Bo] De)),(200,(spP [Ai,I64,I64] [I64] DE))]
set_option maxRecDepth 100000 in
theorem qA:∀x:Ad×Aq×List Int,denote (mkC Tryz.prog V Vd) 1 (Al Tryz.f192 {loops:=[(0,[.slot 14 I64]),(2,[.slot 32 I64])]}) [Ai,A9,U8s] [Bo] false x=F6 x:=fun x=>by kernel_rfl
def Vf:List (Nat×Am):=[(186,(spP [U8s] [Bo] EA)),(188,(spP [U8s,U8] [Bo] B7)),(191,(spT [Kq,Ga,U8] [U8] DI)),(187,(spP [Ai,U8s] [Bo] E3)),(192,(spP [Ai,A9,U8s] [Bo] F6)),(190,(spT [U8] [Bo] Dq))]
noncomputable def Ve:List (Nat×Inl):=[(181,Al Tryz.f181 {}),(211,Al Tryz.f211 {loops:=[(0,[.slot 8 I64])]}),(189,Al Tryz.f189 {})]
set_option maxRecDepth 100000 in
theorem qD:∀x:Ad×Aq×List Int,denote (mkC Tryz.prog V Vf Ve) 4 (Al Tryz.f137 {loops:=[(1,[.slot 38 I64])],joins:=[(8,[])],outs:=[(8,[(23,Bo)])]}) [Ai,A9,U8s] [U8] false x=Ih x:=fun x=>by kernel_rfl
def Xi:List (Nat×Am):=[(212,(spT [I64] [I64] AP))]
set_option maxRecDepth 100000 in
theorem vB:∀x:Int,denote (mkC Tryz.prog V Xi) 1 (Al Tryz.f217 {}) [I64] [I64] false x=P8 x:=fun x=>by kernel_rfl
def Xe:List (Nat×Am):=[(217,(spT [I64] [I64] CT))]
set_option maxRecDepth 100000 in
theorem uS:∀x:CC×A5×Int,denote (mkC Tryz.prog V Xe) 1 (Al Tryz.f193 {}) [Kq,Ga,U8] [Ga] false x=P3 x:=fun x=>by kernel_rfl
def S1:List (Nat×Am):=[(138,(spP [To] [To] FX true)),(186,(spP [U8s] [Bo] EA)),(193,(spT [Kq,Ga,U8] [Ga] GH)),(153,(spP [Ai] [I64] BU))]
set_option maxRecDepth 100000 in
theorem jO:∀x:Ad×Aq×List Int,denote (mkC Tryz.prog V S1) 1 (Al Tryz.f139 {loops:=[(0,[.slot 23 I64,.arr 21 Ga])]}) [Ai,A9,U8s] [A9] false x=Hn x:=fun x=>by kernel_rfl
def Xy:List (Nat×Am):=[(28,(spP [Ai] [I64] Aw)),(136,(spP [Ai,A9] [Bo] Kd)),(137,(spP [Ai,A9,U8s] [U8] Ih)),(138,(spP [To] [To] FX true)),(139,(spP [Ai,A9,U8s] [A9] Hn))]
set_option maxRecDepth 100000 in
theorem wL:∀x:Ad×Aq×List Int,denote (mkC Tryz.prog V Xy) 1 (Al Tryz.f75 {}) [Ai,A9,U8s] [A9,U8,I64] false x=Ez x:=fun x=>by kernel_rfl
end Go.Proofs.YtmmkfcpdfnjgjaaGreatDoor
namespace Go.Proofs.YtmmkfcpdfnjgjaaGreatDoor
open Go.Den Go.RowKit Go.ChangeShapes
def Nc:List (Nat×Am):=[(69,(spP [AL,NO,I64,I64] [AL,I64] Hx)),(30,(spP [Ai,AL] [Bu] Fu)),(75,(spP [Ai,A9,U8s] [A9,U8,I64] Ez)),(78,(spT [I64,I64] [I64] B3))]
def Nd:List (Nat×Am):=[(115,(spP [A6] [A6,U8s] C4))]
set_option maxRecDepth 100000 in
theorem UG:∀x:BX,EM (mkP Tryz.prog V Nc Nd []) 1 (Al Tryz.f68 {joins:=[(4,[.slot 3 I64])]}) A6 [] A6 [] x=EV x:=fun x=>by kernel_rfl
def W6:List (Nat×Am):=[]
set_option maxRecDepth 100000 in
theorem uH:∀x:Bj,denote (mkC Tryz.prog V W6) 1 (Al Tryz.f166 {}) [Eo] [I64] false x=P2 x:=fun x=>by kernel_rfl
def Zu:List (Nat×Am):=[(166,(spT [Eo] [I64] EN))]
set_option maxRecDepth 100000 in
theorem AaB:∀x:Bj×Bool,denote (mkC Tryz.prog V Zu) 1 (Al Tryz.f123 {}) [Eo,Bo] [Eo,I64] false x=RJ x:=fun x=>by kernel_rfl
def fH:List (Nat×Am):=[]
set_option maxRecDepth 100000 in
theorem Acv:∀x:AK,denote (mkC Tryz.prog V fH) 1 (Al Tryz.f204 {}) [Ep] [Bo] false x=TY x:=fun x=>by kernel_rfl
def W4:List (Nat×Am):=[(28,(spP [Ai] [I64] Aw)),(204,(spT [Ep] [Bo] FI))]
set_option maxRecDepth 100000 in
theorem uF:∀x:Ad×List AK,denote (mkC Tryz.prog V W4) 1 (Al Tryz.f167 {loops:=[(0,[.slot 21 I64])]}) [Ai,CN] [I64] false x=GG x:=fun x=>by kernel_rfl
def MY:List (Nat×Am):=[]
set_option maxRecDepth 100000 in
theorem TI:∀x:Int,denote (mkC Tryz.prog V MY) 1 (Al Tryz.f205 {}) [U64] [I64] false x=JD x:=fun x=>by kernel_rfl
def Zq:List (Nat×Am):=[(205,(spT [U64] [I64] FG))]
set_option maxRecDepth 100000 in
theorem Aas:∀x:Ad×Int×AK×Bool,denote (mkC Tryz.prog V Zq) 1 (Al Tryz.f168 {}) [Ai,I64,Ep,Bo] [Ep] false x=J0 x:=fun x=>by kernel_rfl
def fG:List (Nat×Am):=[(167,(spP [Ai,CN] [I64] GG)),(98,(spT [U32,I64] [Bo] Ei)),(168,(spP [Ai,I64,Ep,Bo] [Ep] J0))]
set_option maxRecDepth 100000 in
theorem Acr:∀x:Ad×List AK×Int,denote (mkC Tryz.prog V fG) 1 (Al Tryz.f124 {loops:=[(0,[.slot 23 I64,.arr 20 Ep])]}) [Ai,CN,U32] [CN,I64] true x=K1 x:=fun x=>by kernel_rfl
def VU:List (Nat×Am):=[]
set_option maxRecDepth 100000 in
theorem sO:∀x:Ad×Int×Int,denote (mkC Tryz.prog V VU) 1 (Al Tryz.f90 {}) [Ai,I64,I64] [Bo] false x=F9 x:=fun x=>by kernel_rfl
def XZ:List (Nat×Am):=[(90,(spP [Ai,I64,I64] [Bo] F9))]
set_option maxRecDepth 100000 in
theorem xW:∀x:Ad×Aq×Int,denote (mkC Tryz.prog V XZ) 1 (Al Tryz.f44 {loops:=[(0,[.slot 12 I64])]}) [Ai,A9,I64] [Bo] false x=Jn x:=fun x=>by kernel_rfl
def XX:List (Nat×Am):=[(44,(spP [Ai,A9,I64] [Bo] Jn)),(28,(spP [Ai] [I64] Aw))]
noncomputable def XW:List (Nat×Inl):=[(42,Al Tryz.f42 {}),(43,Al Tryz.f43 {})]
set_option maxRecDepth 100000 in
theorem xQ:∀x:Ad×Aq×Int,denote (mkC Tryz.prog V XX XW) 3 (Al Tryz.f20 {joins:=[(2,[])],outs:=[(2,[(8,I64)])]}) [Ai,A9,I64] [Bo,I64] false x=Ck x:=fun x=>by kernel_rfl
def Xx:List (Nat×Am):=[(154,(spT [I64] [U32] DK))]
set_option maxRecDepth 100000 in
theorem wG:∀x:Int×Int,denote (mkC Tryz.prog V Xx) 1 (Al Tryz.f173 {}) [U32,I64] [U32] false x=Qf x:=fun x=>by kernel_rfl
def QG:List (Nat×Am):=[]
set_option maxRecDepth 100000 in
theorem cD:∀x:AK,denote (mkC Tryz.prog V QG) 1 (Al Tryz.f174 {}) [Ep] [Bo] false x=Mr x:=fun x=>by kernel_rfl
def Zo:List (Nat×Am):=[(167,(spP [Ai,CN] [I64] GG)),(173,(spT [U32,I64] [U32] Fv)),(174,(spT [Ep] [Bo] H4))]
set_option maxRecDepth 100000 in
theorem Aaq:∀x:Ad×List AK,denote (mkC Tryz.prog V Zo) 1 (Al Tryz.f128 {loops:=[(0,[.slot 7 U32,.slot 8 U32,.slot 20 I64])]}) [Ai,CN] [Bo,I64] false x=Hz x:=fun x=>by kernel_rfl
def WZ:List (Nat×Am):=[]
set_option maxRecDepth 100000 in
theorem uB:∀x:AK,denote (mkC Tryz.prog V WZ) 1 (Al Tryz.f206 {}) [Ep] [Bo] false x=PZ x:=fun x=>by kernel_rfl
def WV:List (Nat×Am):=[(128,(spP [Ai,CN] [Bo,I64] Hz)),(206,(spT [Ep] [Bo] IC))]
set_option maxRecDepth 100000 in
theorem tU:∀x:Ad×List AK,denote (mkC Tryz.prog V WV) 1 (Al Tryz.f169 {loops:=[(0,[.slot 4 U32,.slot 24 I64]),(2,[.slot 4 U32,.slot 38 I64])]}) [Ai,CN] [U32,I64] false x=Jb x:=fun x=>by kernel_rfl
def TP:List (Nat×Am):=[]
set_option maxRecDepth 100000 in
theorem lJ:∀x:Ad×Int×Int,denote (mkC Tryz.prog V TP) 1 (Al Tryz.f170 {}) [Ai,U32,I64] [I64] false x=H0 x:=fun x=>by kernel_rfl
def WT:List (Nat×Am):=[(169,(spP [Ai,CN] [U32,I64] Jb)),(170,(spP [Ai,U32,I64] [I64] H0)),(100,(spT [U32,I64] [U32] Co))]
set_option maxRecDepth 100000 in
theorem tS:∀x:Ad×Int×List AK×Int,denote (mkC Tryz.prog V WT) 1 (Al Tryz.f125 {}) [Ai,U32,CN,I64] [U32,I64] false x=E0 x:=fun x=>by kernel_rfl
def NK:List (Nat×Am):=[(120,(spP [V9] [V9] Gh true)),(121,(spP [X3] [X3] GQ true)),(122,(spT [Kr,Bo,I64] [Kr,I64] B4)),(123,(spT [Eo,Bo] [Eo,I64] G5)),(124,(spP [Ai,CN,U32] [CN,I64] K1 true)),(20,(spP [Ai,A9,I64] [Bo,I64] Ck)),(125,(spP [Ai,U32,CN,I64] [U32,I64] E0))]
def NL:List (Nat×Am):=[]
set_option maxRecDepth 100000 in
theorem WG:∀x:BX,EM (mkP Tryz.prog V NK NL []) 1 (Al Tryz.f70 {loops:=[(0,[.slot 42 I64,.slot 2 U32,.fbox 0 A6 [29,31]])]}) A6 [] A6 [] x=Fm x:=fun x=>by kernel_rfl
def Qv:List (Nat×Am):=[(28,(spP [Ai] [I64] Aw))]
set_option maxRecDepth 100000 in
theorem bW:∀x:Ad×Int,denote (mkC Tryz.prog V Qv) 1 (Al Tryz.f171 {}) [Ai,I64] [I64] false x=EK x:=fun x=>by kernel_rfl
def SE:List (Nat×Am):=[]
set_option maxRecDepth 100000 in
theorem hX:∀x:Ad×List Int,denote (mkC Tryz.prog V SE) 1 (Al Tryz.f207 {loops:=[(0,[.slot 15 I64])]}) [Ai,U8s] [I64] false x=Hh x:=fun x=>by kernel_rfl
def TD:List (Nat×Am):=[(207,(spP [Ai,U8s] [I64] Hh))]
set_option maxRecDepth 100000 in
theorem kY:∀x:Ad×List Int×List Int,denote (mkC Tryz.prog V TD) 1 (Al Tryz.f172 {loops:=[(0,[.slot 19 I64]),(2,[.slot 40 I64])]}) [Ai,U8s,U8s] [Bo,I64] false x=HY x:=fun x=>by kernel_rfl
def WS:List (Nat×Am):=[(171,(spP [Ai,I64] [I64] EK)),(172,(spP [Ai,U8s,U8s] [Bo,I64] HY))]
set_option maxRecDepth 100000 in
theorem tN:∀x:Ad×Int×List Int×List Int,denote (mkC Tryz.prog V WS) 1 (Al Tryz.f126 {}) [Ai,I64,U8s,U8s] [I64,I64] false x=Ja x:=fun x=>by kernel_rfl
def Qu:List (Nat×Am):=[(171,(spP [Ai,I64] [I64] EK))]
set_option maxRecDepth 100000 in
theorem bT:∀x:Ad×Int,denote (mkC Tryz.prog V Qu) 1 (Al Tryz.f127 {}) [Ai,I64] [Bo,I64] false x=GP x:=fun x=>by kernel_rfl
def UK:List (Nat×Am):=[]
set_option maxRecDepth 100000 in
theorem oE:∀x:Az,denote (mkC Tryz.prog V UK) 1 (Al Tryz.f107 {}) [Cc] [Bo] false x=OR x:=fun x=>by kernel_rfl
def LX:List (Nat×Am):=[(126,(spP [Ai,I64,U8s,U8s] [I64,I64] Ja)),(78,(spT [I64,I64] [I64] B3)),(127,(spP [Ai,I64] [Bo,I64] GP)),(61,(spP [AL] [HT,I64] D5)),(128,(spP [Ai,CN] [Bo,I64] Hz)),(107,(spT [Cc] [Bo] DO))]
def LY:List (Nat×Am):=[]
set_option maxRecDepth 100000 in
theorem S6:∀x:BX,EM (mkP Tryz.prog V LX LY []) 1 (Al Tryz.f71 {loops:=[(0,[.own 4 U8,.slot 21 I64])],joins:=[(10,[.slot 7 I64])]}) A6 [] A6 [HV,HT] x=Eu x:=fun x=>by kernel_rfl
def QJ:List (Nat×Am):=[(28,(spP [Ai] [I64] Aw))]
set_option maxRecDepth 100000 in
theorem cR:∀x:Ad×BR,denote (mkC Tryz.prog V QJ) 1 (Al Tryz.f129 {}) [Ai,EW] [I64] false x=GV x:=fun x=>by kernel_rfl
def Ui:List (Nat×Am):=[]
set_option maxRecDepth 100000 in
theorem nB:∀x:BR×DA,denote (mkC Tryz.prog V Ui) 1 (Al Tryz.f175 {}) [EW,HV] [U8] false x=OG x:=fun x=>by kernel_rfl
def SO:List (Nat×Am):=[(175,(spT [EW,HV] [U8] Bx))]
set_option maxRecDepth 100000 in
theorem iW:∀x:Ad×BR×DA,denote (mkC Tryz.prog V SO) 1 (Al Tryz.f130 {}) [Ai,EW,HV] [EW] false x=Nx x:=fun x=>by kernel_rfl
def SM:List (Nat×Am):=[(129,(spP [Ai,EW] [I64] GV)),(130,(spT [Ai,EW,HV] [EW] CJ))]
set_option maxRecDepth 100000 in
theorem iU:∀x:Ad×BR×DA,denote (mkC Tryz.prog V SM) 1 (Al Tryz.f72 {}) [Ai,EW,HV] [EW,I64] false x=Fs x:=fun x=>by kernel_rfl
def Zv:List (Nat×Am):=[(166,(spT [Eo] [I64] EN))]
set_option maxRecDepth 100000 in
theorem AaF:∀x:Bj×Int,denote (mkC Tryz.prog V Zv) 1 (Al Tryz.f160 {}) [Eo,I64] [Bo,I64] false x=RL x:=fun x=>by kernel_rfl
def M8:List (Nat×Am):=[(160,(spT [Eo,I64] [Bo,I64] JK))]
def M9:List (Nat×Am):=[]
set_option maxRecDepth 100000 in
theorem Uy:∀x:BX,N3 (mkP Tryz.prog V M8 M9 []) 1 (Al Tryz.f132 {loops:=[(0,[.slot 3 U32,.slot 17 I64]),(2,[.slot 6 Bo,.slot 28 I64])]}) A6 [] [U32] x=ET x:=fun x=>by kernel_rfl
end Go.Proofs.YtmmkfcpdfnjgjaaGreatDoor
namespace Go.Proofs.YtmmkfcpdfnjgjaaGreatDoor
open Go.Den Go.RowKit Go.ChangeShapes
def Vl:List (Nat×Am):=[]
set_option maxRecDepth 100000 in
theorem qV:∀x:Ad×Int,denote (mkC Tryz.prog V Vl) 1 (Al Tryz.f176 {loops:=[(0,[.slot 5 U32,.slot 11 I64])]}) [Ai,U32] [U32] false x=Il x:=fun x=>by kernel_rfl
def Vk:List (Nat×Am):=[(208,(spT [U64] [I64] Bg))]
set_option maxRecDepth 100000 in
theorem qS:∀x:Int×Int×Int,denote (mkC Tryz.prog V Vk) 1 (Al Tryz.f177 {}) [U32,I64,I64] [I64] false x=Ik x:=fun x=>by kernel_rfl
def XY:List (Nat×Am):=[(90,(spP [Ai,I64,I64] [Bo] F9))]
set_option maxRecDepth 100000 in
theorem xT:∀x:Ad×Int,denote (mkC Tryz.prog V XY) 1 (Al Tryz.f179 {loops:=[(0,[.slot 13 I64,.arr 10 U8])]}) [Ai,I64] [U8s] false x=Jm x:=fun x=>by kernel_rfl
def XU:List (Nat×Am):=[(179,(spP [Ai,I64] [U8s] Jm)),(28,(spP [Ai] [I64] Aw))]
noncomputable def XT:List (Nat×Inl):=[(42,Al Tryz.f42 {}),(178,Al Tryz.f178 {})]
set_option maxRecDepth 100000 in
theorem xN:∀x:Ad×Int,denote (mkC Tryz.prog V XU XT) 3 (Al Tryz.f133 {joins:=[(2,[])],outs:=[(2,[(6,I64)])]}) [Ai,I64] [U8s,I64] false x=DF x:=fun x=>by kernel_rfl
def aE:List (Nat×Am):=[(28,(spP [Ai] [I64] Aw)),(20,(spP [Ai,A9,I64] [Bo,I64] Ck)),(176,(spP [Ai,U32] [U32] Il)),(177,(spP [U32,I64,I64] [I64] Ik)),(133,(spP [Ai,I64] [U8s,I64] DF))]
set_option maxRecDepth 100000 in
theorem Abu:∀x:Ad×Ej×Aq×Int×Int,denote (mkC Tryz.prog V aE) 1 (Al Tryz.f131 {}) [Ai,X4,A9,U32,U32] [X4,U8s,I64] false x=Ke x:=fun x=>by kernel_rfl
def UU:List (Nat×Am):=[(18,(spP [Ai,Cc,I64] [I64,I64,I64] Em)),(40,(spP [Ai,I64] [I64] Fh)),(41,(spP [Ai,I64] [I64] E2))]
set_option maxRecDepth 100000 in
theorem oY:∀x:Ad×Az×Int,denote (mkC Tryz.prog V UU) 1 (Al Tryz.f19 {}) [Ai,Cc,I64] [I64,I64] false x=CF x:=fun x=>by kernel_rfl
def ND:List (Nat×Am):=[(131,(spP [Ai,X4,A9,U32,U32] [X4,U8s,I64] Ke)),(113,(spP [Ai,Cc] [Cc,I64] Fg)),(19,(spP [Ai,Cc,I64] [I64,I64] CF)),(133,(spP [Ai,I64] [U8s,I64] DF))]
def NF:List (Nat×Am):=[(115,(spP [A6] [A6,U8s] C4)),(132,(spP [A6] [U32] ET true))]
set_option maxRecDepth 100000 in
theorem Wx:∀x:BX×Bt,EM (mkP Tryz.prog V ND NF []) 1 (Al Tryz.f73 {}) A6 [HT] A6 [] x=Fl x:=fun x=>by kernel_rfl
def Xa:List (Nat×Am):=[(75,(spP [Ai,A9,U8s] [A9,U8,I64] Ez))]
noncomputable def W9:List (Nat×Inl):=[(209,Al Tryz.f209 {}),(223,Al Tryz.f223 {loops:=[(0,[.slot 8 I64])]}),(210,Al Tryz.f210 {})]
set_option maxRecDepth 100000 in
theorem uN:∀x:Ad×Aq,denote (mkC Tryz.prog V Xa W9) 4 (Al Tryz.f180 {loops:=[(0,[.slot 23 I64,.arr 20 U8])],joins:=[(9,[.arr 20 U8])]}) [Ai,A9] [Bo] false x=Je x:=fun x=>by kernel_rfl
def Ua:List (Nat×Am):=[(28,(spP [Ai] [I64] Aw)),(180,(spP [Ai,A9] [Bo] Je))]
set_option maxRecDepth 100000 in
theorem mV:∀x:Ad×Aq,denote (mkC Tryz.prog V Ua) 1 (Al Tryz.f134 {}) [Ai,A9] [I64] false x=F0 x:=fun x=>by kernel_rfl
def Zx:List (Nat×Am):=[]
set_option maxRecDepth 100000 in
theorem AaI:∀x:Int×Int,denote (mkC Tryz.prog V Zx) 1 (Al Tryz.f157 {loops:=[(0,[.slot 11 I64,.arr 8 U8])]}) [I64,U8] [U8s] true x=FN x:=fun x=>by kernel_rfl
def Xf:List (Nat×Am):=[(212,(spT [I64] [I64] AP))]
set_option maxRecDepth 100000 in
theorem uW:∀x:CC×A5×Int,denote (mkC Tryz.prog V Xf) 1 (Al Tryz.f183 {}) [Kq,Ga,U8] [U8] false x=P4 x:=fun x=>by kernel_rfl
def T8:List (Nat×Am):=[(63,(spP [U8s] [U8s] Fp true)),(157,(spP [I64,U8] [U8s] FN true)),(183,(spT [Kq,Ga,U8] [U8] DW))]
noncomputable def T7:List (Nat×Inl):=[(181,Al Tryz.f181 {}),(211,Al Tryz.f211 {loops:=[(0,[.slot 8 I64])]}),(182,Al Tryz.f182 {}),(184,Al Tryz.f184 {loops:=[(0,[.slot 11 I64,.barr 3 U8])]})]
set_option maxRecDepth 100000 in
theorem mS:∀x:Ad×Aq×List Int,denote (mkC Tryz.prog V T8 T7) 5 (Al Tryz.f135 {loops:=[(1,[.slot 36 I64,.barr 8 U8]),(3,[.slot 63 I64,.barr 8 U8])],joins:=[(2,[])],outs:=[(2,[(7,Bo)])]}) [Ai,A9,U8s] [U8s] true x=FZ x:=fun x=>by kernel_rfl
def T6:List (Nat×Am):=[(134,(spP [Ai,A9] [I64] F0)),(135,(spP [Ai,A9,U8s] [U8s] FZ true))]
set_option maxRecDepth 100000 in
theorem mP:∀x:Ad×Aq×List Int,denote (mkC Tryz.prog V T6) 1 (Al Tryz.f74 {}) [Ai,A9,U8s] [U8s,I64] true x=G6 x:=fun x=>by kernel_rfl
def Xk:List (Nat×Am):=[]
set_option maxRecDepth 100000 in
theorem vI:∀x:Int,denote (mkC Tryz.prog V Xk) 1 (Al Tryz.f140 {}) [U32] [U32,I64] false x=P9 x:=fun x=>by kernel_rfl
def mA:List (Nat×Am):=[]
set_option maxRecDepth 100000 in
theorem Aeq:∀x:Int,denote (mkC Tryz.prog V mA) 1 (Al Tryz.f142 {}) [I64] [I64] false x=Yh x:=fun x=>by kernel_rfl
def Zr:List (Nat×Am):=[]
set_option maxRecDepth 100000 in
theorem Aav:∀x:Int,denote (mkC Tryz.prog V Zr) 1 (Al Tryz.f194 {}) [I64] [I64] false x=RG x:=fun x=>by kernel_rfl
def fK:List (Nat×Am):=[(194,(spT [I64] [I64] HL))]
set_option maxRecDepth 100000 in
theorem AcC:∀x:Int×Int,denote (mkC Tryz.prog V fK) 1 (Al Tryz.f141 {}) [I64,I64] [I64,I64] false x=JH x:=fun x=>by kernel_rfl
def SP:List (Nat×Am):=[(94,(spT [I64] [Bo] Gz))]
def SR:List (Nat×Am):=[]
def SQ:List (Nat×Am):=[(95,(spP [U8s,Ee] [U8s] FQ))]
set_option maxRecDepth 100000 in
theorem jA:∀x:Jw,denote (mkO Tryz.prog V SP SR SQ []) 1 (Al Tryz.f49 {loops:=[(1,[.slot 41 I64,.own 4 U8])]}) [Wa] [U8s,I64] false x=Gn x:=fun x=>by kernel_rfl
def QH:List (Nat×Am):=[(84,(spP [U64,I64] [U8s,I64] F5)),(198,(spP [U8s] [U32] GL))]
set_option maxRecDepth 100000 in
theorem cI:∀x:BJ,denote (mkC Tryz.prog V QH) 1 (Al Tryz.f195 {}) [FE] [U8s,I64] true x=GR x:=fun x=>by kernel_rfl
def SK:List (Nat×Am):=[]
set_option maxRecDepth 100000 in
theorem iM:∀x:List Int,denote (mkC Tryz.prog V SK) 1 (Al Tryz.f196 {loops:=[(0,[.own 3 U8,.slot 11 I64])]}) [U8s] [U8s] true x=Hk x:=fun x=>by kernel_rfl
def SL:List (Nat×Am):=[(195,(spP [FE] [U8s,I64] GR true)),(196,(spP [U8s] [U8s] Hk true))]
set_option maxRecDepth 100000 in
theorem iP:∀x:BJ,denote (mkC Tryz.prog V SL) 1 (Al Tryz.f143 {}) [FE] [U8s,I64] false x=Gj x:=fun x=>by kernel_rfl
def NH:List (Nat×Am):=[(69,(spP [AL,NO,I64,I64] [AL,I64] Hx)),(72,(spP [Ai,EW,HV] [EW,I64] Fs)),(74,(spP [Ai,A9,U8s] [U8s,I64] G6 true)),(75,(spP [Ai,A9,U8s] [A9,U8,I64] Ez)),(78,(spT [I64,I64] [I64] B3)),(32,(spP [Ee] [Ee] E1 true)),(20,(spP [Ai,A9,I64] [Bo,I64] Ck)),(140,(spT [U32] [U32,I64] IE)),(142,(spT [I64] [I64] I2)),(141,(spP [I64,I64] [I64,I64] JH)),(49,(spP [Wa] [U8s,I64] Gn)),(143,(spP [FE] [U8s,I64] Gj))]
noncomputable def NG:List (Nat×Inl):=[(76,Al Tryz.f76 {loops:=[(0,[.slot 44 I64,.fbox 0 A6 [35,36,37]]),(2,[.slot 69 I64,.slot 5 Bo,.fbox 0 A6 [35,36,37]])],joins:=[(17,[.fbox 0 A6 [35,36,37]])]}),(77,Al Tryz.f77 {loops:=[(0,[.slot 59 I64,.fbox 4 Wa [3],.fbox 0 A6 [35,36,37]])]})]
def NI:List (Nat×Am):=[(66,(spP [A6] [A6,Bo] EU)),(67,(spP [A6] [A6] DJ)),(68,(spP [A6] [A6] EV)),(70,(spP [A6] [A6] Fm)),(71,(spP [A6] [A6,HV,HT] Eu)),(73,(spP [A6,HT] [A6] Fl))]
set_option maxRecDepth 100000 in
theorem WB:∀x:BX,EM (mkP Tryz.prog V NH NI NG) 3 (Al Tryz.f33 {frz:=[10],joins:=[(2,[.box 0 A6])]}) A6 [] A6 [] x=DG x:=fun x=>by kernel_rfl
def Xm:List (Nat×Am):=[(9,(spP [Ai,AL] [Bu,I64] BQ))]
def Xn:List (Nat×Am):=[(33,(spP [A6] [A6] DG))]
set_option maxRecDepth 100000 in
theorem vM:∀x:Ad×Bb×List Cd,denote (mkP Tryz.prog V Xm Xn []) 1 (Al Tryz.f25 {loops:=[(0,[.own 6 U8s,.own 7 U8,.slot 27 I64,.box 9 Bu])]}) [Ai,AL,Hg] [Lj,U8s,I64] false x=MR x:=fun x=>by kernel_rfl
def XO:List (Nat×Am):=[(26,(spT [] [Ai] Rg)),(16,(spP [] [AL] GC)),(25,(spP [Ai,AL,Hg] [Lj,U8s,I64] MR))]
set_option maxRecDepth 100000 in
theorem xD:∀x:Unit,denote (mkC Tryz.prog V XO) 1 (Al Tryz.f7 {loops:=[(0,[.slot 4 I64])]}) [] [Bo] false x=FU x:=fun x=>by kernel_rfl
def SZ:List (Nat×Am):=[]
set_option maxRecDepth 100000 in
theorem jM:∀x:Ad,denote (mkC Tryz.prog V SZ) 1 (Al Tryz.f13 {loops:=[(0,[.slot 3 I64]),(2,[.slot 4 I64])]}) [Ai] [Bo] false x=C6 x:=fun x=>by kernel_rfl
def U2:List (Nat×Am):=[]
set_option maxRecDepth 100000 in
theorem pG:∀x:List Cd,denote (mkC Tryz.prog V U2) 1 (Al Tryz.f27 {loops:=[(0,[.slot 3 I64,.slot 4 I64])]}) [Hg] [I64] false x=Ie x:=fun x=>by kernel_rfl
def aV:List (Nat×Am):=[(13,(spP [Ai] [Bo] C6)),(27,(spP [Hg] [I64] Ie))]
set_option maxRecDepth 100000 in
theorem AbP:∀x:Ad×Bb×List Cd,denote (mkC Tryz.prog V aV) 1 (Al Tryz.f8 {}) [Ai,AL,Hg] [Bo] false x=Kh x:=fun x=>by kernel_rfl
end Go.Proofs.YtmmkfcpdfnjgjaaGreatDoor
namespace Go.Proofs.YtmmkfcpdfnjgjaaGreatDoor
open Go.Den Go.RowKit Go.ChangeShapes
def XQ:List (Nat×Am):=[]
set_option maxRecDepth 100000 in
theorem xI:∀x:AM,denote (mkC Tryz.prog V XQ) 1 (Al Tryz.f10 {loops:=[(0,[.own 3 U8,.slot 4 I64])]}) [Bu] [U8s] false x=HQ x:=fun x=>by kernel_rfl
def Ux:List (Nat×Am):=[]
set_option maxRecDepth 100000 in
theorem oB:∀x:Int,denote (mkC Tryz.prog V Ux) 1 (Al Tryz.f103 {}) [I64] [Bo] false x=OQ x:=fun x=>by kernel_rfl
def W8:List (Nat×Am):=[(134,(spP [Ai,A9] [I64] F0)),(157,(spP [I64,U8] [U8s] FN true)),(135,(spP [Ai,A9,U8s] [U8s] FZ true))]
set_option maxRecDepth 100000 in
theorem uK:∀x:Ad×Aq×Int,denote (mkC Tryz.prog V W8) 1 (Al Tryz.f104 {}) [Ai,A9,I64] [Bo,I64] false x=Jd x:=fun x=>by kernel_rfl
def Uk:List (Nat×Am):=[(158,(spT [He] [I64] FP))]
set_option maxRecDepth 100000 in
theorem nG:∀x:Cy×Int,denote (mkC Tryz.prog V Uk) 1 (Al Tryz.f105 {}) [He,I64] [Bo,I64] false x=OH x:=fun x=>by kernel_rfl
def Py:List (Nat×Am):=[(160,(spT [Eo,I64] [Bo,I64] JK)),(103,(spT [I64] [Bo] CU)),(125,(spP [Ai,U32,CN,I64] [U32,I64] E0))]
set_option maxRecDepth 100000 in
theorem ZL:∀x:Ad×AM,denote (mkC Tryz.prog V Py) 1 (Al Tryz.f108 {loops:=[(0,[.slot 29 I64])]}) [Ai,Bu] [Bo] false x=El x:=fun x=>by kernel_rfl
def Px:List (Nat×Am):=[(103,(spT [I64] [Bo] CU))]
set_option maxRecDepth 100000 in
theorem ZI:∀x:Ad×AM,denote (mkC Tryz.prog V Px) 1 (Al Tryz.f109 {loops:=[(0,[.slot 30 I64])]}) [Ai,Bu] [Bo] false x=Ek x:=fun x=>by kernel_rfl
def Xo:List (Nat×Am):=[(29,(spT [AL] [Bo] Dv)),(103,(spT [I64] [Bo] CU)),(104,(spP [Ai,A9,I64] [Bo,I64] Jd)),(72,(spP [Ai,EW,HV] [EW,I64] Fs)),(105,(spT [He,I64] [Bo,I64] IP)),(106,(spT [U8s,U8] [I64] bytes_IndexByte)),(14,(spP [Ai,Cc] [Bo,I64] CY)),(107,(spT [Cc] [Bo] DO)),(108,(spP [Ai,Bu] [Bo] El)),(109,(spP [Ai,Bu] [Bo] Ek))]
set_option maxRecDepth 100000 in
theorem vR:∀x:Ad×AM,denote (mkC Tryz.prog V Xo) 1 (Al Tryz.f65 {}) [Ai,Bu] [Bo] false x=Jf x:=fun x=>by kernel_rfl
def SS:List (Nat×Am):=[(28,(spP [Ai] [I64] Aw)),(65,(spP [Ai,Bu] [Bo] Jf))]
set_option maxRecDepth 100000 in
theorem jF:∀x:Ad×AM,denote (mkC Tryz.prog V SS) 1 (Al Tryz.f31 {}) [Ai,Bu] [I64] false x=I3 x:=fun x=>by kernel_rfl
def Ut:List (Nat×Am):=[(31,(spP [Ai,Bu] [I64] I3)),(32,(spP [Ee] [Ee] E1 true))]
def Uu:List (Nat×Am):=[(33,(spP [A6] [A6] DG))]
set_option maxRecDepth 100000 in
theorem nR:∀x:Ad×AM×Cd,denote (mkP Tryz.prog V Ut Uu []) 1 (Al Tryz.f11 {}) [Ai,Bu,Oe] [Bu,U8s,U8s,I64] false x=Bq x:=fun x=>by kernel_rfl
def S4:List (Nat×Am):=[]
set_option maxRecDepth 100000 in
theorem jV:∀x:List Int,denote (mkC Tryz.prog V S4) 1 (Al Tryz.f12 {loops:=[(0,[.slot 3 I64,.slot 4 I64])]}) [U8s] [I64] false x=C7 x:=fun x=>by kernel_rfl
def Rf:List (Nat×Am):=[(7,(spP [] [Bo] FU)),(8,(spP [Ai,AL,Hg] [Bo] Kh)),(9,(spP [Ai,AL] [Bu,I64] BQ)),(10,(spP [Bu] [U8s] HQ)),(11,(spP [Ai,Bu,Oe] [Bu,U8s,U8s,I64] Bq)),(12,(spP [U8s] [I64] C7))]
set_option maxRecDepth 100000 in
theorem eN:∀x:Ad×Bb×List Cd×List Bool,denote (mkC Tryz.prog V Rf) 1 (Al Tryz.f3 {loops:=[(0,[.slot 12 I64,.box 10 Bu])]}) [Ai,AL,Hg,Bos] [Bo] false x=Iv x:=fun x=>by kernel_rfl
def XR:List (Nat×Am):=[]
set_option maxRecDepth 100000 in
theorem xL:∀x:Ad,denote (mkC Tryz.prog V XR) 1 (Al Tryz.f24 {loops:=[(0,[.slot 3 I64,.slot 4 I64]),(2,[.slot 3 I64,.slot 5 I64])]}) [Ai] [I64] false x=FV x:=fun x=>by kernel_rfl
def XP:List (Nat×Am):=[(24,(spP [Ai] [I64] FV))]
set_option maxRecDepth 100000 in
theorem xF:∀x:Ad,denote (mkC Tryz.prog V XP) 1 (Al Tryz.f17 {loops:=[(0,[.slot 3 I64]),(2,[.slot 4 I64])]}) [Ai] [Bo] false x=Jl x:=fun x=>by kernel_rfl
def Re:List (Nat×Am):=[(7,(spP [] [Bo] FU)),(13,(spP [Ai] [Bo] C6)),(14,(spP [Ai,Cc] [Bo,I64] CY)),(16,(spP [] [AL] GC)),(15,(spP [AL,U8,FW] [NO,I64] FT)),(17,(spP [Ai] [Bo] Jl)),(9,(spP [Ai,AL] [Bu,I64] BQ)),(11,(spP [Ai,Bu,Oe] [Bu,U8s,U8s,I64] Bq)),(18,(spP [Ai,Cc,I64] [I64,I64,I64] Em)),(19,(spP [Ai,Cc,I64] [I64,I64] CF)),(20,(spP [Ai,A9,I64] [Bo,I64] Ck))]
noncomputable def Rc:List (Nat×Inl):=[(16,Al Tryz.f16 {})]
set_option maxRecDepth 100000 in
theorem eJ:∀x:Ad×Az×List Int,denote (mkC Tryz.prog V Re Rc) 2 (Al Tryz.f4 {loops:=[(0,[.slot 13 I64,.fbox 12 AL [0]]),(2,[.slot 16 I64,.slot 17 I64,.box 14 Bu])]}) [Ai,Cc,PR] [Bo] false x=Iu x:=fun x=>by kernel_rfl
def PH:List (Nat×Am):=[(28,(spP [Ai] [I64] Aw)),(153,(spP [Ai] [I64] BU))]
set_option maxRecDepth 100000 in
theorem Z6:∀x:Ad,denote (mkC Tryz.prog V PH) 1 (Al Tryz.f96 {}) [Ai] [I64,I64] false x=Gg x:=fun x=>by kernel_rfl
def VT:List (Nat×Am):=[(96,(spP [Ai] [I64,I64] Gg))]
set_option maxRecDepth 100000 in
theorem sL:∀x:Ad,denote (mkC Tryz.prog V VT) 1 (Al Tryz.f51 {loops:=[(0,[.slot 6 I64,.slot 7 I64,.slot 21 I64])]}) [Ai] [I64,I64] false x=Iw x:=fun x=>by kernel_rfl
def XB:List (Nat×Am):=[(51,(spP [Ai] [I64,I64] Iw))]
set_option maxRecDepth 100000 in
theorem wQ:∀x:Ad,denote (mkC Tryz.prog V XB) 1 (Al Tryz.f23 {loops:=[(0,[.slot 6 I64,.slot 21 I64])]}) [Ai] [I64,I64] false x=Ji x:=fun x=>by kernel_rfl
def PM:List (Nat×Am):=[(7,(spP [] [Bo] FU)),(13,(spP [Ai] [Bo] C6)),(23,(spP [Ai] [I64,I64] Ji)),(16,(spP [] [AL] GC)),(9,(spP [Ai,AL] [Bu,I64] BQ)),(24,(spP [Ai] [I64] FV)),(11,(spP [Ai,Bu,Oe] [Bu,U8s,U8s,I64] Bq)),(20,(spP [Ai,A9,I64] [Bo,I64] Ck))]
set_option maxRecDepth 100000 in
theorem aR:∀x:Ad×Int×List Int×List Int,denote (mkC Tryz.prog V PM) 1 (Al Tryz.f6 {loops:=[(0,[.slot 14 U32,.slot 15 I64]),(2,[.slot 16 I64,.box 12 Bu]),(4,[.slot 21 I64,.box 12 Bu])],joins:=[(18,[]),(31,[.slot 22 U32])]}) [Ai,I64,PR,PR] [Bo] false x=HH x:=fun x=>by kernel_rfl
end Go.Proofs.YtmmkfcpdfnjgjaaGreatDoor
namespace Go.Proofs.YtmmkfcpdfnjgjaaGreatDoor
open Go.Den Go.RowKit Go.ChangeShapes Go.Shelf
theorem AdH:AllMeet Tryz.prog V gL:=.nil
theorem IF:Ap Tryz.prog V 52 (spT [I64,I64,I64] [Bo] By):=AZ AdH stays AB (hs:={}) (Av Tryz.func52 (by kernel_rfl) (by kernel_rfl) (by kernel_rfl)) false fun x=>(AdF x).trans (AdG x)
theorem rS:AllMeet Tryz.prog V VA:=(.cons IF .nil)
theorem rT:Ap Tryz.prog V 53 (spP [Ai] [Bo] Ip):=Ao rS stays AB (hs:={loops:=[(0,[.slot 48 I64])]}) (Av Tryz.func53 (by kernel_rfl) (by kernel_rfl) (by kernel_rfl)) false rR
theorem rW:AllMeet Tryz.prog V VB:=(.cons IF .nil)
theorem JS:Ap Tryz.prog V 97 (spT [Ee] [Bo] Bz):=RY (Ao rW stays AB (hs:={loops:=[(0,[.slot 7 I64])]}) (Av Tryz.func97 (by kernel_rfl) (by kernel_rfl) (by kernel_rfl)) false rU) rV
theorem Abl:AllMeet Tryz.prog V Z4:=.nil
theorem Sk:Ap Tryz.prog V 154 (spT [I64] [U32] DK):=RY (Ao Abl stays AB (hs:={}) (Av Tryz.func154 (by kernel_rfl) (by kernel_rfl) (by kernel_rfl)) false Abj) Abk
theorem Abi:AllMeet Tryz.prog V Z3:=(.cons Sk .nil)
theorem Si:Ap Tryz.prog V 98 (spT [U32,I64] [Bo] Ei):=AZ Abi stays AB (hs:={}) (Av Tryz.func98 (by kernel_rfl) (by kernel_rfl) (by kernel_rfl)) false fun x=>(Abg x).trans (Abh x)
theorem rL:AllMeet Tryz.prog V Vu:=(.cons JS (.cons Si (.cons IF .nil)))
theorem rM:Ap Tryz.prog V 54 (spP [Ai] [Bo] Io):=Ao rL stays AB (hs:={loops:=[(0,[.slot 11 I64]),(2,[.slot 39 I64])]}) (Av Tryz.func54 (by kernel_rfl) (by kernel_rfl) (by kernel_rfl)) false rK
theorem pT:AllMeet Tryz.prog V U7:=(.cons PX .nil)
theorem U9:Ap Tryz.prog V 99 (spT [U32] [I64] GB):=AZ pT stays AB (hs:={}) (Av Tryz.func99 (by kernel_rfl) (by kernel_rfl) (by kernel_rfl)) false fun x=>(pR x).trans (pS x)
theorem dT:AllMeet Tryz.prog V QY:=(.cons Sk .nil)
theorem MD:Ap Tryz.prog V 100 (spT [U32,I64] [U32] Co):=AZ dT stays AB (hs:={}) (Av Tryz.func100 (by kernel_rfl) (by kernel_rfl) (by kernel_rfl)) false fun x=>(dR x).trans (dS x)
theorem TG:∀x:Int,denote (mkC Tryz.prog V []) 1 (Al Tryz.f156 {}) [U32] [I64] false x=oO x:=fun x=>by kernel_rfl
theorem TH:Ap Tryz.prog V 156 (spT [U32] [I64] IK):=RY (Ao .nil stays AB (hs:={}) (Av Tryz.func156 (by kernel_rfl) (by kernel_rfl) (by kernel_rfl)) false TG) (fun x hf=>Ac6 (l9 hf))
theorem pP:AllMeet Tryz.prog V U6:=(.cons TH .nil)
theorem pQ:Ap Tryz.prog V 101 (spT [U32] [I64] HE):=AZ pP stays AB (hs:={}) (Av Tryz.func101 (by kernel_rfl) (by kernel_rfl) (by kernel_rfl)) false fun x=>(pN x).trans (pO x)
theorem jS:AllMeet Tryz.prog V S2:=(.cons JS (.cons U9 (.cons MD (.cons pQ .nil))))
theorem jT:Ap Tryz.prog V 55 (spP [Ai] [Bo] Ho):=Ao jS stays AB (hs:={loops:=[(0,[.slot 3 U32,.slot 11 I64]),(2,[.slot 6 U32])]}) (Av Tryz.func55 (by kernel_rfl) (by kernel_rfl) (by kernel_rfl)) false jR
theorem wX:AllMeet Tryz.prog V XD:=(.cons IF (.cons JS .nil))
theorem wY:Ap Tryz.prog V 56 (spP [Ai] [Bo] Jj):=Ao wX stays AB (hs:={loops:=[(0,[.slot 8 I64])]}) (Av Tryz.func56 (by kernel_rfl) (by kernel_rfl) (by kernel_rfl)) false wW
theorem rO:AllMeet Tryz.prog V Vv:=(.cons Si (.cons U9 (.cons MD .nil)))
theorem Vw:Ap Tryz.prog V 144 (spP [Ai,I64,I64] [I64] F8):=Ao rO stays AB (hs:={loops:=[(0,[.slot 6 I64,.slot 13 I64]),(2,[.slot 6 I64,.slot 8 U32])]}) (Av Tryz.func144 (by kernel_rfl) (by kernel_rfl) (by kernel_rfl)) false rN
theorem rQ:AllMeet Tryz.prog V Vy:=(.cons Vw .nil)
theorem Vz:Ap Tryz.prog V 79 (spP [Ai,I64] [I64] EC):=Ao rQ stays AB (hs:={}) (Av Tryz.func79 (by kernel_rfl) (by kernel_rfl) (by kernel_rfl)) false rP
theorem rY:AllMeet Tryz.prog V VC:=(.cons Vz (.cons JS .nil))
theorem rZ:Ap Tryz.prog V 57 (spP [Ai] [Bo] Iq):=Ao rY stays AB (hs:={loops:=[(0,[.slot 3 I64,.slot 8 I64])]}) (Av Tryz.func57 (by kernel_rfl) (by kernel_rfl) (by kernel_rfl)) false rX
theorem w4:AllMeet Tryz.prog V XE:=(.cons IF (.cons Vz .nil))
theorem XF:Ap Tryz.prog V 34 (spP [Ai,Cc] [Bo] GO):=Ao w4 stays AB (hs:={loops:=[(0,[.slot 5 I64,.slot 39 I64])]}) (Av Tryz.func34 (by kernel_rfl) (by kernel_rfl) (by kernel_rfl)) false wZ
theorem dY:AllMeet Tryz.prog V Q7:=(.cons XF .nil)
theorem dZ:Ap Tryz.prog V 58 (spP [Ai] [Bo] GY):=Ao dY stays AB (hs:={loops:=[(0,[.slot 8 I64])]}) (Av Tryz.func58 (by kernel_rfl) (by kernel_rfl) (by kernel_rfl)) false dX
theorem qZ:AllMeet Tryz.prog V Vn:=(.cons IF (.cons rT (.cons rM (.cons jT (.cons wY (.cons rZ (.cons dZ .nil)))))))
theorem CG:Ap Tryz.prog V 28 (spP [Ai] [I64] Aw):=Ao qZ stays AB (hs:={loops:=[(0,[.slot 3 Bo,.slot 5 I64])]}) (Av Tryz.func28 (by kernel_rfl) (by kernel_rfl) (by kernel_rfl)) false qY
theorem wV:AllMeet Tryz.prog V XC:=(.cons CG (.cons XF .nil))
theorem site_Plan_m:Ap Tryz.prog V 14 (spP [Ai,Cc] [Bo,I64] CY):=Ao wV stays AB (hs:={}) (Av Tryz.func14 (by kernel_rfl) (by kernel_rfl) (by kernel_rfl)) false wU
theorem AdS:AllMeet Tryz.prog V gT:=.nil
theorem AdT:Ap Tryz.prog V 26 (spT [] [Ai] Rg):=AZ AdS stays AB (hs:={}) (Av Tryz.func26 (by kernel_rfl) (by kernel_rfl) (by kernel_rfl)) false fun x=>(AdQ x).trans (AdR x)
theorem AbO:AllMeet Tryz.prog V aU:=.nil
theorem Sx:Ap Tryz.prog V 16 (spP [] [AL] GC):=Ao AbO stays AB (hs:={}) (Av Tryz.func16 (by kernel_rfl) (by kernel_rfl) (by kernel_rfl)) false AbN
theorem iE:AllMeet Tryz.prog V SF:=.nil
theorem Nr:Ap Tryz.prog V 60 (spT [AL] [I64] CX):=AZ iE stays AB (hs:={}) (Av Tryz.func60 (by kernel_rfl) (by kernel_rfl) (by kernel_rfl)) false fun x=>(iC x).trans (iD x)
theorem lD:AllMeet Tryz.prog V TM:=(.cons Nr .nil)
theorem Lt:Ap Tryz.prog V 59 (spT [AL] [I64,I64] Cv):=AZ lD stays AB (hs:={}) (Av Tryz.func59 (by kernel_rfl) (by kernel_rfl) (by kernel_rfl)) false fun x=>(lB x).trans (lC x)
theorem dF:AllMeet Tryz.prog V QP:=(.cons Lt (.cons Nr .nil))
theorem QQ:Ap Tryz.prog V 29 (spT [AL] [Bo] Dv):=AZ dF stays AB (hs:={}) (Av Tryz.func29 (by kernel_rfl) (by kernel_rfl) (by kernel_rfl)) false fun x=>(dD x).trans (dE x)
theorem iH:AllMeet Tryz.prog V SG:=(.cons Lt .nil)
theorem SH:Ap Tryz.prog V 117 (spT [AL,I64] [I64] FM):=AZ iH stays AB (hs:={}) (Av Tryz.func117 (by kernel_rfl) (by kernel_rfl) (by kernel_rfl)) false fun x=>(iF x).trans (iG x)
theorem Aac:AllMeet Tryz.prog V Y8:=.nil
theorem Aad:Ap Tryz.prog V 119 (spP [AL,I64] [U8s] JZ):=Ao Aac stays AB (hs:={}) (Av Tryz.func119 (by kernel_rfl) (by kernel_rfl) (by kernel_rfl)) false Aab
theorem KG:Ap Tryz.prog V 118 (spP [Ty.slice U8] [Ty.slice U8] C5 true) :=
 Jc (e:=5) (T:=U8) stays AB Tryz.func118 ⟨by kernel_rfl,rfl,by kernel_rfl,by kernel_rfl,by decide,⟨0,1,2,_,_,_,_,rfl,⟨rfl,rfl,rfl⟩,⟨rfl,rfl,rfl⟩,⟨rfl,⟨_,rfl⟩,rfl⟩,⟨rfl,rfl,rfl⟩⟩⟩ (fun l=>by kernel_rfl) (fun y h=>(Option.some.inj ((show C5 []=some [] by kernel_rfl).symm.trans h)).symm)
theorem lF:AllMeet Tryz.prog V TN:=(.cons SH (.cons Aad (.cons KG .nil)))
theorem TO:Ap Tryz.prog V 80 (spP [AL,I64] [U8s,I64] Cm):=Ao lF stays AB (hs:={}) (Av Tryz.func80 (by kernel_rfl) (by kernel_rfl) (by kernel_rfl)) false lE
theorem Adn:AllMeet Tryz.prog V fZ:=.nil
theorem gA:Ap Tryz.prog V 148 (spP [U8s] [U64,I64] F4):=Ao Adn stays AB (hs:={loops:=[(0,[.slot 2 U64,.slot 16 I64])]}) (Av Tryz.func148 (by kernel_rfl) (by kernel_rfl) (by kernel_rfl)) false Adm
theorem eE:AllMeet Tryz.prog V Ra:=(.cons gA .nil)
theorem Rb:Ap Tryz.prog V 87 (spP [U8s] [U64] B8):=Ao eE stays AB (hs:={}) (Av Tryz.func87 (by kernel_rfl) (by kernel_rfl) (by kernel_rfl)) false eD
theorem Abc:AllMeet Tryz.prog V ZV:=.nil
theorem Sg:Ap Tryz.prog V 93 (spP [U8s] [U64,I64,I64] Dn):=Ao Abc stays AB (hs:={loops:=[(0,[.slot 5 U64,.slot 10 I64])]}) (Av Tryz.func93 (by kernel_rfl) (by kernel_rfl) (by kernel_rfl)) false Abb
theorem Ti:AllMeet Tryz.prog V L6:=(.cons Sg .nil)
theorem Tj:AllMeetP Tryz.prog V L7:=.nil
theorem L8:C2 Tryz.prog V 218 (spP [CZ,I64] [CZ,I64] BD):=DD (hs:={}) Ti Tj AB AllOK.nil (Av Tryz.func218 (by kernel_rfl) (by kernel_rfl) (by kernel_rfl)) 1 Th
theorem Q4:AllMeet Tryz.prog V K8:=.nil
theorem Q6:AllMeetP Tryz.prog V K9:=(.cons L8 .nil)
theorem Q5:C2 Tryz.prog V 219 (spP [CZ,I64] [CZ,Ee] CI):=DD (hs:={loops:=[(0,[.own 5 I64,.slot 7 I64,.box 0 CZ])]}) Q4 Q6 AB AllOK.nil (Av Tryz.func219 (by kernel_rfl) (by kernel_rfl) (by kernel_rfl)) 1 Q3
theorem Sr:AllMeet Tryz.prog V LM:=.nil
theorem Su:AllMeetP Tryz.prog V LN:=(.cons L8 (.cons Q5 .nil))
theorem Ss:C2 Tryz.prog V 197 (spP [CZ] [CZ,FW] CV):=DD (hs:={loops:=[(0,[.own 2 Cc,.slot 8 I64,.box 0 CZ])]}) Sr Su AB AllOK.nil (Av Tryz.func197 (by kernel_rfl) (by kernel_rfl) (by kernel_rfl)) 1 Sq
theorem wE:AllMeet Tryz.prog V Xu:=.nil
theorem Qd:Ap Tryz.prog V 83 (spP [U64] [U8s] CK true):=Ao wE stays AB (hs:={loops:=[(0,[.slot 0 U64,.own 3 U8])]}) (Av Tryz.func83 (by kernel_rfl) (by kernel_rfl) (by kernel_rfl)) true wD
theorem rJ:AllMeet Tryz.prog V Vt:=(.cons JS (.cons IF (.cons Qd .nil)))
theorem rI:AllOK Tryz.prog Vs:=(.cons (Av Tryz.func146 (by kernel_rfl) (by kernel_rfl) (by kernel_rfl)) .nil)
theorem O4:Ap Tryz.prog V 82 (spP [FW] [U8s,I64] EB):=Dw rJ stays AB rI (hs:={loops:=[(0,[.slot 18 I64,.own 4 U8]),(2,[.slot 56 I64,.own 4 U8])]}) (Av Tryz.func82 (by kernel_rfl) (by kernel_rfl) (by kernel_rfl)) false 2 rH
theorem iK:AllMeet Tryz.prog V SI:=.nil
theorem Nu:Ap Tryz.prog V 50 (spT [U8s,U8s] [Bo] bytes_Equal):=AZ iK stays AB (hs:={}) (Av Tryz.func50 (by kernel_rfl) (by kernel_rfl) (by kernel_rfl)) false fun x=>(iI x).trans (iJ x)
theorem rE:AllMeet Tryz.prog V Vq:=(.cons O4 (.cons Nu .nil))
theorem rG:AllMeetP Tryz.prog V Vr:=(.cons Ss .nil)
theorem rF:Ap Tryz.prog V 145 (spP [U8s] [FW,I64] F7):=H9 (hs:={}) rE rG stays AB AllOK.nil (Av Tryz.func145 (by kernel_rfl) (by kernel_rfl) (by kernel_rfl)) false 1 rD
theorem Adp:AllMeet Tryz.prog V gB:=.nil
theorem gC:Ap Tryz.prog V 84 (spP [U64,I64] [U8s,I64] F5):=Ao Adp stays AB (hs:={loops:=[(0,[.slot 29 I64,.arr 26 U8])]}) (Av Tryz.func84 (by kernel_rfl) (by kernel_rfl) (by kernel_rfl)) false Ado
def AhL:Ren:=⟨fun n=>if n=14 then 85 else 147,fun t=>if t=22 then 30 else if t=26 then 98 else t,fun n=>n⟩
theorem Af3:SlLaysJ.n14 Tryz.prog AhL where
 mixed:=by kernel_rfl
 f14:=by kernel_rfl
 f15:=by kernel_rfl
 t0:=by kernel_rfl
 a0:=fun w=>by kernel_rfl
 z0:=fun w=>by kernel_rfl
 v0:=fun w=>by kernel_rfl
 t3:=by kernel_rfl
 a3:=fun w=>by kernel_rfl
 z3:=fun w=>by kernel_rfl
 v3:=fun w=>by kernel_rfl
 t4:=by kernel_rfl
 a4:=fun w=>by kernel_rfl
 z4:=fun w=>by kernel_rfl
 v4:=fun w=>by kernel_rfl
 t9:=by kernel_rfl
 a9:=fun w=>by kernel_rfl
 z9:=fun w=>by kernel_rfl
 v9:=fun w=>by kernel_rfl
 t20:=by kernel_rfl
 a20:=fun w=>by kernel_rfl
 z20:=fun w=>by kernel_rfl
 v20:=fun w=>by kernel_rfl
 t22:=by kernel_rfl
 a22:=fun w=>by kernel_rfl
 z22:=fun w=>by kernel_rfl
 v22:=fun w=>by kernel_rfl
 t26:=by kernel_rfl
 a26:=fun w=>by kernel_rfl
 z26:=fun w=>by kernel_rfl
 v26:=fun w=>by kernel_rfl
 t5:=by kernel_rfl
 z5:=fun w=>by kernel_rfl
 i5:=by kernel_rfl
theorem yU {w:World} {O:Nat→Prop}:∀ {l:List Int} {vs:List Value},RowOf (Reads w O U8) l vs→vs=l.map (fun n=>Value.int .u8 n)∧∀n∈l,0≤n∧n≤255
 |[],vs,h=>⟨h,fun n hn=>by cases hn⟩
 |n::l,vs,⟨v1,v2,e,⟨e1,e2⟩,h3⟩=>by
  obtain⟨k1,k2⟩:=yU h3
  subst e e1 k1
  have hn:0≤n∧n≤255:=by
   unfold inR at e2
   have e3:IntKind.u8.min≤n∧n≤IntKind.u8.max:=by simpa only[Bool.and_eq_true,decide_eq_true_eq] using e2
   exact e3
  refine ⟨rfl,fun m hm=>?_⟩
  rcases List.mem_cons.1 hm with rfl|hm
  ·exact hn
  ·exact k2 m hm
theorem cM {n:Int} (h:0≤n∧n≤255):((UInt8.ofNat n.toNat).toNat:Int)=n:=by
 simp only[UInt8.toNat_ofNat']
 omega
theorem Uh:∀ {a b:List Int},(∀n∈a,0≤n∧n≤255)→(∀n∈b,0≤n∧n≤255)→Lib.bytesOf a=Lib.bytesOf b→a=b
 |[],[],_,_,_=>rfl
 |[],_::_,_,_,h=>by simp[Lib.bytesOf] at h
 |_::_,[],_,_,h=>by simp[Lib.bytesOf] at h
 |x::a,y::b,ha,hb,h=>by
  simp only[Lib.bytesOf,List.map_cons,List.cons.injEq] at h
  have e:=congrArg (fun u:UInt8=>(u.toNat:Int)) h.1
  simp only[cM (ha x (List.mem_cons_self ..)),cM (hb y (List.mem_cons_self ..))] at e
  rw[e,Uh (fun n hn=>ha n (List.mem_cons_of_mem _ hn)) (fun n hn=>hb n (List.mem_cons_of_mem _ hn)) h.2]
theorem m7 {w:World} {O:Nat→Prop} {l:List Int} {vs:List Value} (h:Reads w O U8s l vs):∃v,vs=[v]∧Lib.HoldsBytes w v (Lib.bytesOf l)∧∀n∈l,0≤n∧n≤255:=by
 obtain⟨a,cap,rfl,hl,hm,hrow⟩:=h
 refine ⟨_,rfl,?_⟩
 rcases hrow with h0|⟨b,off,cells,rfl,_,hb,hat,hrw⟩
 ·have:l=[]:=List.eq_nil_of_length_eq_zero h0
  subst this
  exact ⟨⟨a,cap,rfl,fun _=>rfl,fun _ _ i x hx=>by simp[Lib.bytesOf] at hx⟩,fun n hn=>by cases hn⟩
 ·obtain⟨h1,h2⟩:=yU hrw
  refine ⟨⟨some ⟨b,off,none⟩,cap,(by rw[Lib.bytesOf_length];exact rfl),fun hh=>(by cases hh),fun p hp i x hx=>?_⟩,h2⟩
  cases hp
  unfold Lib.bytesOf at hx
  rw[List.getElem?_map,Option.map_eq_some_iff] at hx
  obtain⟨n,hn,rfl⟩:=hx
  rw[cM (h2 n (List.mem_of_getElem? hn))]
  have:=hat i (.int .u8 n) (by rw[h1,List.getElem?_map,hn];rfl)
  rw[←this]
  by_cases hj0:i=0<;>simp[Addr.add,hj0]
theorem m8 {w:World} {O:Nat→Prop}:∀ {l:List (List Int)} {vs:List Value},RowOf (Reads w O U8s) l vs→vs.length=l.length∧(∀(i:Nat) v x,vs[i]?=some v→l[i]?=some x→Lib.HoldsBytes w v (Lib.bytesOf x))∧∀x∈l,∀n∈x,0≤n∧n≤255
 |[],vs,h=>by
  have h':vs=[]:=h
  subst h'
  exact ⟨rfl,fun i v x h=>by simp at h,fun x hx=>by cases hx⟩
 |y::l,vs,⟨v1,v2,e,e1,h3⟩=>by
  obtain⟨k1,k2,k3⟩:=m8 h3
  obtain⟨v,rfl,e2,e3⟩:=m7 e1
  subst e
  refine ⟨by simp[k1],fun i u x hu hx=>?_,fun x hx=>?_⟩
  ·cases i with
   |zero=>simp at hu hx;subst hu hx;exact e2
   |succ i=>simp at hu hx;exact k2 i u x hu hx
  ·rcases List.mem_cons.1 hx with rfl|hx
   ·exact e3
   ·exact k3 x hx
theorem Af2 (l:List (List Int)):Lib.join (l.map Lib.bytesOf) []=Lib.bytesOf l.flatten:=by
 cases l with
 |nil=>rfl
 |cons x r =>
  rw[List.map_cons,Lib.join_cons]
  unfold Lib.joinTail
  simp only[List.nil_append,List.map_id']
  rw[List.flatten_cons]
  unfold Lib.bytesOf
  rw[List.map_append]
  congr 1
  rw[List.map_flatten]
theorem Af4 (l:List (List Int)):Lib.lens (l.map Lib.bytesOf)=l.flatten.length:=by
 unfold Lib.lens
 rw[List.length_flatten,List.map_map]
 congr 1
 exact List.map_congr_left fun x _=>Lib.bytesOf_length x
theorem m9 {w:World} {O:Nat→Prop}:∀ {l:List Int},(∀n∈l,0≤n∧n≤255)→RowOf (Reads w O U8) l (l.map fun n=>Value.int .u8 n)
 |[],_=>rfl
 |n::l,h=>⟨[.int .u8 n],l.map fun n=>Value.int .u8 n,rfl,⟨rfl,by
   have:=h n (List.mem_cons_self ..)
   unfold inR
   simp only[Bool.and_eq_true,decide_eq_true_eq]
   exact this⟩,m9 fun m hm=>h m (List.mem_cons_of_mem _ hm)⟩
theorem AeD (w:World) (F:Nat→Prop) (vals:List Value) (l:List (List Int)) (sep:List Int) (y:List Int) (hF:∀b,F b→b<w.heap.size) (hr:Ce w F [Lj,U8s] (l,sep) vals) (hy:G1 (l,sep)=some y) :
 Calls Tryz.prog 85 vals.toArray w fun e w'=>∃rs,e=.returned (Db rs)∧Below w.heap.size w w'∧Gv w.heap.size w' F false [U8s] y rs:=by
 have hl:2≤l.length∧sep=[]∧l.length≤1000000∧l.flatten.length≤1000000∧y=l.flatten:=by
  unfold G1 at hy
  split at hy
  ·rename_i a b r e
   obtain⟨rfl,rfl⟩:=Prod.mk.inj e
   split at hy
   ·rename_i c
    unfold Aa at c
    exact ⟨by simp,rfl,by omega,by omega,(Option.some.inj hy).symm⟩
   ·cases hy
  ·cases hy
 obtain⟨h2,rfl,h3,h4,rfl⟩:=hl
 obtain⟨us,vs',hus,rfl,us2,hus2,rfl⟩:=hr
 obtain⟨sv,rfl,hsv,_⟩:=m7 (show Reads w F U8s [] us2 from hus2)
 obtain⟨a,cap,rfl,hl,hm,hrow⟩:=hus
 rcases hrow with h0|⟨b,off,cells,rfl,_,hb,hat,hrw⟩
 ·have:l.length=0:=h0
  omega
 obtain⟨k1,k2,k3⟩:=m8 (show RowOf (Reads w F U8s) l cells from hrw)
 have hP:Lib.PartsAt w ⟨b,off,none⟩ cells (l.map Lib.bytesOf):=by
  refine ⟨by rw[k1,List.length_map],fun i v hv=>?_,fun i v x hv hx=>?_⟩
  ·have:=hat i v hv
   rw[←this]
   by_cases hj0:i=0<;>simp[Addr.add,hj0]
  ·rw[List.getElem?_map,Option.map_eq_some_iff] at hx
   obtain⟨z,hz,rfl⟩:=hx
   exact k2 i v z hv hz
 have hby:∀n∈l.flatten,0≤n∧n≤255:=fun n hn=>by
  obtain⟨x,hx,hnx⟩:=List.mem_flatten.1 hn
  exact k3 x hx n hnx
 refine (Any.bytes_Join_many Af3 b off l.length cap cells (l.map Lib.bytesOf) sv (Lib.bytesOf []) w (by rw[List.length_map]) h2 hP hl hsv (by omega) (by rw[Af4,show (Lib.bytesOf []).length=0 from rfl,Nat.zero_mul];omega)).mono ?_
 rintro e w' ⟨v',rfl,⟨g,c2,zs,rfl,hg,hle,hcm,hz,hzr,hbo,hc,_⟩,hB⟩
 rw[show Lib.bytesOf []=[] from rfl,Af2] at hbo hle ⊢
 rw[Lib.bytesOf_length] at hbo hle ⊢
 have hzy:zs.take l.flatten.length=l.flatten:=Uh (fun n hn=>by have:=hzr n (List.mem_of_mem_take hn);omega) hby hbo
 refine ⟨[.slice (some ⟨g,0,none⟩) l.flatten.length c2],rfl,hB,[.slice (some ⟨g,0,none⟩) l.flatten.length c2],⟨some ⟨g,0,none⟩,c2,rfl,hle,hcm,?_⟩,rfl⟩
 by_cases hn:l.flatten.length=0
 ·exact .inl hn
 ·refine .inr ⟨g,0,l.flatten.map fun n=>Value.int .u8 n,rfl,fun hh=>by have:=hF g hh;omega,?_,fun j v hj=>?_,m9 hby⟩
  ·exact World.block_lt_of_cell? w' ⟨g,0,none⟩ (hc 0 (by omega))
  ·rw[List.getElem?_map,Option.map_eq_some_iff] at hj
   obtain⟨n,hn,rfl⟩:=hj
   have hjl:j<l.flatten.length:=(List.getElem?_eq_some_iff.1 hn).1
   rw[Nat.zero_add,hc j (by omega)]
   have:zs[j]?=some n:=by
    have e:(zs.take l.flatten.length)[j]?=some n:=by rw[hzy];exact hn
    rw[List.getElem?_take,if_pos hjl] at e
    exact e
   rw[List.getD_eq_getElem?_getD,this]
   rfl
theorem lI:Ap Tryz.prog V 85 (spP [Lj,U8s] [U8s] G1) where
 enters:=enters_of Tryz.func85 (by kernel_rfl) rfl
 tot:=fun g hg=>by cases hg
 calls:=fun w F vals x y _ hF hr hy=>AeD w F vals x.1 x.2 y hF hr hy
theorem eC:AllMeet Tryz.prog V Q8:=(.cons O4 (.cons Qd (.cons gC (.cons lI .nil))))
theorem Q9:Ap Tryz.prog V 36 (spP [HT,I64] [Lj,I64] BL):=Ao eC stays AB (hs:={loops:=[(0,[.own 12 U8s,.slot 74 I64])]}) (Av Tryz.func36 (by kernel_rfl) (by kernel_rfl) (by kernel_rfl)) false eB
theorem VO:AllMeet Tryz.prog V Nl:=(.cons Rb (.cons Sg (.cons rF (.cons Q9 (.cons Nu .nil)))))
theorem VP:AllMeetP Tryz.prog V Nn:=.nil
theorem No:C2 Tryz.prog V 81 (spP [JW] [JW] AY):=DD (hs:={loops:=[(0,[.own 2 U8,.slot 20 I64]),(2,[.slot 109 I64])]}) VO VP AB AllOK.nil (Av Tryz.func81 (by kernel_rfl) (by kernel_rfl) (by kernel_rfl)) 1 VN
theorem sC:AllMeet Tryz.prog V VH:=(.cons Lt (.cons TO .nil))
theorem sB:AllOK Tryz.prog VG:=(.cons (Av Tryz.func35 (by kernel_rfl) (by kernel_rfl) (by kernel_rfl)) (.cons (Av Tryz.func37 (by kernel_rfl) (by kernel_rfl) (by kernel_rfl)) (.cons (Av Tryz.func86 (by kernel_rfl) (by kernel_rfl) (by kernel_rfl)) .nil)))
theorem sD:AllMeetP Tryz.prog V VI:=(.cons No .nil)
theorem O7:Ap Tryz.prog V 61 (spP [AL] [HT,I64] D5):=H9 (hs:={}) sC sD stays AB sB (Av Tryz.func61 (by kernel_rfl) (by kernel_rfl) (by kernel_rfl)) false 4 sA
theorem p9:AllMeet Tryz.prog V Vc:=.nil
theorem OZ:Ap Tryz.prog V 199 (spP [Ai,I64,I64] [Bo] De):=Ao p9 stays AB (hs:={}) (Av Tryz.func199 (by kernel_rfl) (by kernel_rfl) (by kernel_rfl)) false pZ
theorem dW:AllMeet Tryz.prog V Q1:=.nil
theorem Q2:Ap Tryz.prog V 200 (spP [Ai,I64,I64] [I64] DE):=Ao dW stays AB (hs:={}) (Av Tryz.func200 (by kernel_rfl) (by kernel_rfl) (by kernel_rfl)) false dV
theorem aA:AllMeet Tryz.prog V PI:=(.cons OZ (.cons Q2 .nil))
theorem LL:Ap Tryz.prog V 153 (spP [Ai] [I64] BU):=Ao aA stays AB (hs:={loops:=[(0,[.slot 3 I64,.slot 9 I64]),(2,[.slot 3 I64,.slot 15 I64])]}) (Av Tryz.func153 (by kernel_rfl) (by kernel_rfl) (by kernel_rfl)) false Z9
theorem qI:AllMeet Tryz.prog V Vg:=(.cons LL .nil)
theorem qJ:Ap Tryz.prog V 102 (spP [Ai] [A9] Ii):=Ao qI stays AB (hs:={loops:=[(0,[.slot 10 I64,.fown 3 .unit Ga (.pair I64 Bo)])]}) (Av Tryz.func102 (by kernel_rfl) (by kernel_rfl) (by kernel_rfl)) false qH
theorem pX:AllMeet Tryz.prog V Vb:=(.cons CG (.cons qJ .nil))
theorem pY:Ap Tryz.prog V 62 (spP [Ai] [A9,I64] Ig):=Ao pX stays AB (hs:={}) (Av Tryz.func62 (by kernel_rfl) (by kernel_rfl) (by kernel_rfl)) false pW
theorem TR:Ap Tryz.prog V 63 (spP [Ty.slice U8] [Ty.slice U8] Fp true) :=
 Jc (e:=5) (T:=U8) stays AB Tryz.func63 ⟨by kernel_rfl,rfl,by kernel_rfl,by kernel_rfl,by decide,⟨0,1,2,_,_,_,_,rfl,⟨rfl,rfl,rfl⟩,⟨rfl,rfl,rfl⟩,⟨rfl,⟨_,rfl⟩,rfl⟩,⟨rfl,rfl,rfl⟩⟩⟩ (fun l=>by kernel_rfl) (fun y h=>(Option.some.inj ((show Fp []=some [] by kernel_rfl).symm.trans h)).symm)
theorem cP:AllMeet Tryz.prog V QI:=.nil
theorem cQ:Ap Tryz.prog V 64 (spT [U8] [EW] Cg):=AZ cP stays AB (hs:={}) (Av Tryz.func64 (by kernel_rfl) (by kernel_rfl) (by kernel_rfl)) false fun x=>(cN x).trans (cO x)
theorem jL:AllMeet Tryz.prog V SV:=(.cons O7 (.cons pY (.cons TR (.cons cQ .nil))))
theorem SW:Ap Tryz.prog V 30 (spP [Ai,AL] [Bu] Fu):=Ao jL stays AB (hs:={}) (Av Tryz.func30 (by kernel_rfl) (by kernel_rfl) (by kernel_rfl)) false jK
theorem jJ:AllMeet Tryz.prog V SU:=(.cons CG (.cons QQ (.cons SW .nil)))
theorem KJ:Ap Tryz.prog V 9 (spP [Ai,AL] [Bu,I64] BQ):=Ao jJ stays AB (hs:={}) (Av Tryz.func9 (by kernel_rfl) (by kernel_rfl) (by kernel_rfl)) false jI
theorem MI:AllMeet Tryz.prog V Is:=.nil
theorem MH:AllOK Tryz.prog Ir:=(.cons (Av Tryz.func161 (by kernel_rfl) (by kernel_rfl) (by kernel_rfl)) .nil)
theorem MJ:Ap Tryz.prog V 110 (spP [Lj] [U8s] CD):=Dw MI stays AB MH (hs:={loops:=[(0,[.slot 3 I64,.slot 11 I64]),(2,[.slot 27 I64,.own 6 U8])]}) (Av Tryz.func110 (by kernel_rfl) (by kernel_rfl) (by kernel_rfl)) false 2 MG
theorem Pb:AllMeet Tryz.prog V Kk:=.nil
theorem Pc:Ap Tryz.prog V 92 (spP [U8s,U8] [I64] Dj):=Ao Pb stays AB (hs:={loops:=[(0,[.slot 5 I64])]}) (Av Tryz.func92 (by kernel_rfl) (by kernel_rfl) (by kernel_rfl)) false Pa
theorem QC:AllMeet Tryz.prog V KY:=(.cons Pc .nil)
theorem QD:Ap Tryz.prog V 47 (spP [U8s,U8] [I64] C9):=Ao QC stays AB (hs:={}) (Av Tryz.func47 (by kernel_rfl) (by kernel_rfl) (by kernel_rfl)) false QB
theorem mE:AllMeet Tryz.prog V T1:=.nil
theorem mF:Ap Tryz.prog V 151 (spP [U8s] [U8s,I64] G3 true):=Ao mE stays AB (hs:={loops:=[(0,[.own 4 U8,.slot 5 Bo,.slot 13 I64])]}) (Av Tryz.func151 (by kernel_rfl) (by kernel_rfl) (by kernel_rfl)) true mD
theorem Adr:AllMeet Tryz.prog V gD:=.nil
theorem gE:Ap Tryz.prog V 198 (spP [U8s] [U32] GL):=Ao Adr stays AB (hs:={loops:=[(0,[.slot 4 U32,.slot 10 I64,.arr 3 U32])],unr:=[]}) (Av Tryz.func198 (by kernel_rfl) (by kernel_rfl) (by kernel_rfl)) false Adq
theorem mH:AllMeet Tryz.prog V T2:=(.cons gA (.cons gE (.cons KG .nil)))
theorem mI:Ap Tryz.prog V 152 (spP [U8s] [FE,I64] G4):=Ao mH stays AB (hs:={}) (Av Tryz.func152 (by kernel_rfl) (by kernel_rfl) (by kernel_rfl)) false mG
theorem mL:AllMeet Tryz.prog V T4:=(.cons QD (.cons mF (.cons mI .nil)))
theorem mK:AllOK Tryz.prog T3:=(.cons (Av Tryz.func45 (by kernel_rfl) (by kernel_rfl) (by kernel_rfl)) (.cons (Av Tryz.func46 (by kernel_rfl) (by kernel_rfl) (by kernel_rfl)) (.cons (Av Tryz.func91 (by kernel_rfl) (by kernel_rfl) (by kernel_rfl)) .nil)))
theorem mM:Ap Tryz.prog V 21 (spP [U8s] [Hs,I64,I64] DU):=Dw mL stays AB mK (hs:={}) (Av Tryz.func21 (by kernel_rfl) (by kernel_rfl) (by kernel_rfl)) false 4 mJ
theorem nM:AllMeet Tryz.prog V Ul:=.nil
theorem Um:Ap Tryz.prog V 158 (spT [He] [I64] FP):=AZ nM stays AB (hs:={}) (Av Tryz.func158 (by kernel_rfl) (by kernel_rfl) (by kernel_rfl)) false fun x=>(nK x).trans (nL x)
theorem vG:AllMeet Tryz.prog V Xj:=(.cons Um (.cons KG .nil))
theorem vH:Ap Tryz.prog V 111 (spP [He,Hs] [He,Hs,I64] GJ):=Ao vG stays AB (hs:={loops:=[(0,[.slot 25 I64,.box 4 He]),(2,[.own 10 FE,.slot 37 I64,.box 2 He])]}) (Av Tryz.func111 (by kernel_rfl) (by kernel_rfl) (by kernel_rfl)) false vF
theorem Uo:AllMeet Tryz.prog V M6:=(.cons Sg .nil)
theorem Uq:AllMeetP Tryz.prog V M7:=.nil
theorem Up:C2 Tryz.prog V 48 (spP [Jz,I64] [Jz,I64] CA):=DD (hs:={}) Uo Uq AB AllOK.nil (Av Tryz.func48 (by kernel_rfl) (by kernel_rfl) (by kernel_rfl)) 1 Un
theorem nP:AllMeet Tryz.prog V Ur:=.nil
theorem Us:Ap Tryz.prog V 94 (spT [I64] [Bo] Gz):=AZ nP stays AB (hs:={}) (Av Tryz.func94 (by kernel_rfl) (by kernel_rfl) (by kernel_rfl)) false fun x=>(nN x).trans (nO x)
theorem Aa0:AllMeet Tryz.prog V ZE:=(.cons Qd .nil)
theorem Aa1:AllMeetP Tryz.prog V ZF:=.nil
theorem ZG:HU Tryz.prog V 95 (spP [U8s,Ee] [U8s] FQ):=vU (hs:={loops:=[(0,[.own 0 U8,.slot 9 I64])]}) Aa0 Aa1 AB AllOK.nil (Av Tryz.func95 (by kernel_rfl) (by kernel_rfl) (by kernel_rfl)) 1 AaZ
theorem cZ:AllMeet Tryz.prog V QL:=(.cons Us (.cons O4 .nil))
theorem dC:AllMeetP Tryz.prog V QN:=.nil
theorem dB:AllMeetO Tryz.prog V QM:=(.cons ZG .nil)
theorem dA:Ap Tryz.prog V 162 (spP [Jy] [U8s,I64] GW):=UO (hs:={}) cZ dC dB stays AB AllOK.nil (Av Tryz.func162 (by kernel_rfl) (by kernel_rfl) (by kernel_rfl)) false 1 cY
theorem Yp:AllMeet Tryz.prog V OI:=(.cons dA (.cons Nu .nil))
theorem Yr:AllMeetP Tryz.prog V OJ:=(.cons Up .nil)
theorem Yq:Ap Tryz.prog V 112 (spP [U8s] [Jy,I64] DY):=H9 (hs:={loops:=[(0,[.slot 23 I64,.fbox 6 Jy [3],.box 11 Jz])]}) Yp Yr stays AB AllOK.nil (Av Tryz.func112 (by kernel_rfl) (by kernel_rfl) (by kernel_rfl)) false 1 Yo
theorem wB:AllMeet Tryz.prog V Xs:=.nil
theorem Xt:Ap Tryz.prog V 41 (spP [Ai,I64] [I64] E2):=Ao wB stays AB (hs:={}) (Av Tryz.func41 (by kernel_rfl) (by kernel_rfl) (by kernel_rfl)) false wA
theorem rB:AllMeet Tryz.prog V Vp:=(.cons Vw (.cons CG (.cons IF .nil)))
theorem rA:AllOK Tryz.prog Vo:=(.cons (Av Tryz.func149 (by kernel_rfl) (by kernel_rfl) (by kernel_rfl)) (.cons (Av Tryz.func150 (by kernel_rfl) (by kernel_rfl) (by kernel_rfl)) .nil))
theorem rC:Ap Tryz.prog V 89 (spP [Ai,I64,I64] [I64,I64] Im):=Dw rB stays AB rA (hs:={joins:=[(2,[])],outs:=[(2,[(8,I64)])]}) (Av Tryz.func89 (by kernel_rfl) (by kernel_rfl) (by kernel_rfl)) false 3 q9
theorem pA:AllMeet Tryz.prog V UX:=(.cons Xt (.cons rC .nil))
theorem UY:Ap Tryz.prog V 40 (spP [Ai,I64] [I64] Fh):=Ao pA stays AB (hs:={}) (Av Tryz.func40 (by kernel_rfl) (by kernel_rfl) (by kernel_rfl)) false o9
theorem oX:AllMeet Tryz.prog V US:=(.cons CG (.cons UY .nil))
theorem UT:Ap Tryz.prog V 113 (spP [Ai,Cc] [Cc,I64] Fg):=Ao oX stays AB (hs:={loops:=[(0,[.slot 54 I64,.slot 8 I64,.slot 9 I64,.slot 10 I64,.fown 7 (.pair I64 I64) I64 .unit,.arr 11 I64]),(2,[.slot 115 I64,.slot 15 I64,.fown 7 (.pair I64 I64) I64 .unit])],joins:=[(14,[.fown 7 (.pair I64 I64) I64 .unit,.arr 11 I64]),(16,[.slot 10 I64,.fown 7 (.pair I64 I64) I64 .unit,.arr 11 I64])]}) (Av Tryz.func113 (by kernel_rfl) (by kernel_rfl) (by kernel_rfl)) false oW
theorem nX:AllMeet Tryz.prog V Uv:=.nil
theorem LF:Ap Tryz.prog V 78 (spT [I64,I64] [I64] B3):=AZ nX stays AB (hs:={}) (Av Tryz.func78 (by kernel_rfl) (by kernel_rfl) (by kernel_rfl)) false fun x=>(nU x).trans (nW x)
theorem UD:AllMeet Tryz.prog V Na:=(.cons MJ (.cons mM (.cons TR (.cons vH (.cons Yq (.cons UT (.cons LF .nil)))))))
theorem UF:AllMeetP Tryz.prog V Nb:=.nil
theorem UE:C2 Tryz.prog V 66 (spP [A6] [A6,Bo] EU):=DD (hs:={loops:=[(0,[.slot 10 Bo,.slot 80 I64,.box 0 A6])],joins:=[(6,[.box 0 A6])]}) UD UF AB AllOK.nil (Av Tryz.func66 (by kernel_rfl) (by kernel_rfl) (by kernel_rfl)) 1 UC
theorem NW:AllMeet Tryz.prog V Jv:=.nil
theorem NX:Ap Tryz.prog V 163 (spP [Ee,Ee] [Bo] C1):=Ao NW stays AB (hs:={loops:=[(0,[.slot 13 I64])]}) (Av Tryz.func163 (by kernel_rfl) (by kernel_rfl) (by kernel_rfl)) false NV
theorem nZ:AllMeet Tryz.prog V Uw:=(.cons NX .nil)
theorem oA:Ap Tryz.prog V 114 (spP [Cc,Cc] [Bo] H7):=Ao nZ stays AB (hs:={}) (Av Tryz.func114 (by kernel_rfl) (by kernel_rfl) (by kernel_rfl)) false nY
theorem VK:AllMeet Tryz.prog V Nj:=(.cons Rb .nil)
theorem VM:AllMeetP Tryz.prog V Nk:=.nil
theorem VL:C2 Tryz.prog V 38 (spP [JW,I64] [I64] CW true):=Xp (hs:={loops:=[(0,[.slot 1 I64,.slot 16 I64]),(2,[.slot 1 I64,.slot 28 I64]),(4,[.slot 1 I64]),(6,[.slot 49 I64])]}) VK VM stays AB AllOK.nil (Av Tryz.func38 (by kernel_rfl) (by kernel_rfl) (by kernel_rfl)) 1 VJ
theorem w8:AllMeet Tryz.prog V XL:=(.cons Q9 (.cons Lt (.cons TO .nil)))
theorem w7:AllOK Tryz.prog XK:=(.cons (Av Tryz.func35 (by kernel_rfl) (by kernel_rfl) (by kernel_rfl)) (.cons (Av Tryz.func37 (by kernel_rfl) (by kernel_rfl) (by kernel_rfl)) (.cons (Av Tryz.func86 (by kernel_rfl) (by kernel_rfl) (by kernel_rfl)) .nil)))
theorem w9:AllMeetP Tryz.prog V XM:=(.cons VL (.cons No .nil))
theorem XN:Ap Tryz.prog V 15 (spP [AL,U8,FW] [NO,I64] FT):=H9 (hs:={loops:=[(0,[.own 18 Ad6,.slot 79 I64])]}) w8 w9 stays AB w7 (Av Tryz.func15 (by kernel_rfl) (by kernel_rfl) (by kernel_rfl)) false 4 w6
theorem Te:AllMeet Tryz.prog V L4:=(.cons O7 (.cons oA (.cons XN .nil)))
theorem Tg:AllMeetP Tryz.prog V L5:=.nil
theorem Tf:C2 Tryz.prog V 67 (spP [A6] [A6] DJ):=DD (hs:={}) Te Tg AB AllOK.nil (Av Tryz.func67 (by kernel_rfl) (by kernel_rfl) (by kernel_rfl)) 1 Td
set_option maxRecDepth 100000 in
theorem Aae:HU Tryz.prog V 119 (spP [I64,I64] [I64,I64] Ru):=Aeb Tryz.func119 ⟨rfl,rfl,rfl,by kernel_rfl,by kernel_rfl,rfl,by kernel_rfl,by decide,⟨0,1,_,_,_,_,_,_,_,_,_,rfl,⟨rfl,rfl,rfl⟩,⟨rfl,rfl,rfl⟩,⟨rfl,rfl,rfl⟩,⟨rfl,rfl,rfl⟩,⟨rfl,rfl,rfl⟩,⟨rfl,⟨_,_,rfl⟩,rfl⟩,⟨rfl,rfl,rfl⟩,⟨rfl,rfl,rfl⟩,⟨rfl,rfl,rfl⟩⟩⟩
def Ls:List (Nat×Am):=[(60,spT [AL] [I64] CX),(117,spT [AL,I64] [I64] FM),(118,spP [U8s] [U8s] C5 true)]
theorem zZ:AllMeet Tryz.prog V Ls:=(.cons Nr (.cons SH (.cons KG .nil)))
def Rz:List (Nat×Am):=[(119,spP [I64,I64] [I64,I64] Ru)]
theorem Aaa:AllMeetO Tryz.prog V Rz:=.cons Aae .nil
def Y6:Hints:={loops:=[(0,[.slot 21 I64,.box 8 AL,.box 9 I64]),(2,[.slot 60 I64,.fbox 8 AL [0]])]}
set_option maxRecDepth 100000 in
theorem zY:∃i0 i1 ops0 o3 o4 rest,(Al Tryz.f69 Y6).code=.seq (.region i0 ops0 false) (.seq (.region i1 #[o3,o4] false) rest)∧(o3.dst=some 14∧o3.op=.makeFunc (.func 116) #[] #[.tmp 9,.tmp 8]∧o3.guard=none)∧(o4.dst=none∧(∃ats,o4.op=.defer {callee:=.value (.tmp 14),args:=#[],argTypes:=ats})∧o4.guard=none) ∧
 ∀x,b8 (mkO Tryz.prog V Ls [] Rz []) 1 (Al Tryz.f69 Y6) (Al Tryz.f116 {}) (.region i0 ops0 false) rest 14 8 9 [AL,NO,I64,I64] [AL,I64] x=Hx x :=
 ⟨_,_,_,_,_,_,rfl,⟨rfl,rfl,rfl⟩,⟨rfl,⟨_,rfl⟩,rfl⟩,fun x=>by kernel_rfl⟩
theorem Y7:Ap Tryz.prog V 69 (spP [AL,NO,I64,I64] [AL,I64] Hx):=by
 obtain⟨i0,i1,ops0,o3,o4,rest,hc,h3,h4,hd⟩:=zY
 exact dJ (C:=mkO Tryz.prog V Ls [] Rz []) (AllMeet.tblP (pl:=[]) (il:=[]) zZ) ⟨AllMeetP.ptbl (l:=Ls) (il:=[]) AllMeetP.nil,fun f sp hf=>Aaa (f,sp) (IA hf)⟩ stays AB (AllOK.inlP (V:=V) (l:=Ls) (pl:=[]) AllOK.nil)
  (Av Tryz.func69 (by kernel_rfl) (by kernel_rfl) (by kernel_rfl)) (Av (hs:={}) Tryz.func116 (by kernel_rfl) (by kernel_rfl) (by kernel_rfl)) rfl hc h3 h4 (by decide) 1 (fun x y hy=>(hd x).trans hy)
theorem U3 (n:Nat) (hn:n≤1000000):bits .and .u64 (n:Int) 4294967295=n:=by
 have h:=Mul64.maskN n (by omega)
 rw[h];omega
theorem Adz (n:Nat) (hn:n≤1000000) (w:World):Calls Tryz.prog 221 #[.int .u64 1,.int .u64 n] w fun e w'=>e=.returned (.tuple #[.int .u64 0,.int .u64 n])∧w'=w:=by
 have h1:=U3 1 (by omega)
 have h0:=U3 0 (by omega)
 have hm:=U3 n hn
 have e1:((1:Nat):Int)=1:=rfl
 have e0:((0:Nat):Int)=0:=rfl
 rw[e1] at h1
 rw[e0] at h0
 have d1:(1:Int)/4294967296=0:=by decide
 have d2:(n:Int)/4294967296=0:=by omega
 have wn:IntKind.u64.wrap (n:Int)=n:=by rw[IntKind.wrap_u64];omega
 go_enter Tryz.func221,Tryz.ntmps221
 go_wp2
 go_ret2
 exact ⟨rfl,rfl⟩
theorem Agr (n:Nat) (hn:n≤1000000) (w:World):Calls Tryz.prog 201 #[.int .u64 1,.int .u64 n] w fun e w'=>e=.returned (.tuple #[.int .u64 0,.int .u64 n])∧w'=w:=by
 have c64:=Adz n hn w
 have e131:∀args w,(callFunc 221 args).run Tryz.prog w=.ok (.enter 221 args) w:=enters_of Tryz.func221 (by kernel_rfl) rfl
 go_enter Tryz.func201,Tryz.ntmps201
 go_wp2_with (go_at_fn 221;refine c64.mono ?_;rintro e w' ⟨rfl,hw⟩;rw[hw])
 go_ret2
 exact ⟨rfl,rfl⟩
def Cq (n m:Nat) (v:Int):List Value:=List.replicate m (.int .u8 v)++List.replicate (n-m) (.int .u8 0)
theorem Qe {n m:Nat} {v:Int} (h:m≤n):(Cq n m v).length=n:=by simp[Cq];omega
theorem U5 {n m k:Nat} {v:Int} (h:m+k≤n):(Cq n m v).take m++List.replicate k (.int .u8 v)++(Cq n m v).drop (m+k)=Cq n (m+k) v:=by
 unfold Cq
 rw[List.take_append_of_le_length (by simp),List.take_of_length_le (by simp),List.drop_append,List.drop_of_length_le (by simp)]
 simp only[List.length_replicate,List.nil_append,List.drop_replicate,List.replicate_append_replicate]
 congr 2
 omega
theorem AeY (n:Nat):madeCells (Value.int .u8 0).cells n=(Cq n 0 0).toArray:=by
 apply Array.ext
 ·simp[madeCells,Cq]
 ·intro j h1 h2
  simp[madeCells,Cq,Value.cells,Nat.mod_one]
theorem Ady:(Tryz.prog.info? 5).map (fun i=>(i.zero,i.size,i.bytes))=some (some (.int .u8 0),1,1):=by kernel_rfl
theorem AeZ (n:Nat) (hn:n≤1000000) (w:World):(Instr.makeSlice 30 (.int .i64 n) (.int .i64 n)).run Tryz.prog w=.ok (.slice (some ⟨w.heap.size,0,none⟩) n n) (w.alloc (.cells (Cq n 0 0).toArray 5)):=by
 obtain⟨i,hi,hz,hs,hb⟩:=info_parts Ady
 have h:=run_makeSlice (P:=Tryz.prog) w 30 5 i (.int .u8 0) (by kernel_rfl) hi hz .i64 .i64 (n:Int) (n:Int) (by omega) (Int.le_refl _) (by rw[hs];omega) (by rw[hb];omega) (by omega)
 rw[h,hs,Int.toNat_natCast,Nat.mul_one,AeY]
theorem Adx (n:Nat) (v:Int) (h1:1≤n) (w:World) (p:Addr) (c:Nat) (hc:w.cell? p=some (.int .u8 v)) (g:Nat) (hg:w.heap[g]?=some (.cells (Cq n 0 0).toArray 5 (0,0))) (ty:TypeId) :
 (Builtin.copy_ #[30,30] ty #[.slice (some ⟨g,0,none⟩) n n,.slice (some p) 1 c]).run Tryz.prog w=.ok (.int .i64 1) (w.setRow g (Cq n 1 v).toArray):=by
 have h:=run_copy_row (P:=Tryz.prog) w 30 30 ty 5 g 0 n n p 1 c (Cq n 0 0).toArray 5 [.int .u8 v] (by kernel_rfl) (by kernel_rfl) hg (by show 1=min 1 n;omega) (fun j x hx=>by
  cases j with
  |zero=>simp at hx;subst hx;rw[show p.add 0=p by unfold Addr.add;split<;>simp_all];exact hc
  |succ j=>simp at hx) (by simp[Cq];omega) (by simp[Value.oneCell'])
 rw[h]
 have e:=U5 (n:=n) (m:=0) (k:=1) (v:=v) (by omega)
 have e2:(Cq n 0 0)=(Cq n 0 v):=by simp[Cq]
 rw[List.toList_toArray,e2,Nat.zero_add,List.length_singleton]
 simp only[List.replicate_one,Nat.zero_add] at e
 rw[e]
 rfl
theorem gH (n m:Nat) (v:Int) (h1:m<n) (w:World) (g:Nat) (hg:w.heap[g]?=some (.cells (Cq n m v).toArray 5 (0,0))) (ty:TypeId) (c1 c2:Nat) :
 (Builtin.copy_ #[30,30] ty #[.slice (some ⟨g,m,none⟩) (n-m) c1,.slice (some ⟨g,0,none⟩) m c2]).run Tryz.prog w=.ok (.int .i64 (min m (n-m):Nat)) (w.setRow g (Cq n (m+min m (n-m)) v).toArray):=by
 have hk:m+min m (n-m)≤n:=by omega
 have h:=run_copy_row (P:=Tryz.prog) w 30 30 ty 5 g m (n-m) c1 ⟨g,0,none⟩ m c2 (Cq n m v).toArray 5 (List.replicate (min m (n-m)) (.int .u8 v)) (by kernel_rfl) (by kernel_rfl) hg (by rw[List.length_replicate]) (fun j x hx=>by
  obtain⟨hj,rfl⟩:=List.getElem?_eq_some_iff.1 hx
  rw[List.length_replicate] at hj
  have hjm:j<m:=by omega
  have hcell:w.cell? ⟨g,j,none⟩=some (.int .u8 v):=by
   simp only[World.cell?,hg]
   simp[Cq,List.getElem?_append,hjm]
  rw[List.getElem_replicate,←hcell]
  by_cases hj0:j=0<;>simp[Addr.add,hj0]) (by simp only[List.length_replicate,List.size_toArray];rw[Qe (by omega)];omega) (fun x hx=>by rw[(List.mem_replicate.1 hx).2];rfl)
 rw[h,List.toList_toArray,List.length_replicate,U5 hk]
 rfl
set_option maxHeartbeats 4000000 in
set_option maxRecDepth 100000 in
theorem Ae0 (n:Nat) (v:Int) (hn1:1≤n) (hn:n≤1000000) (w:World) (p:Addr) (c:Nat) (hc:w.cell? p=some (.int .u8 v)):Calls Tryz.prog 164 #[.slice (some p) 1 c,.int .i64 n] w fun e w'=>e=.returned (.slice (some ⟨w.heap.size,0,none⟩) n n)∧Below w.heap.size w w'∧w'.heap[w.heap.size]?=some (.cells (Cq n n v).toArray 5 (0,0)):=by
 have c64:=Agr n hn w
 have hmk:=AeZ n hn w
 have e131:∀args w,(callFunc 201 args).run Tryz.prog w=.ok (.enter 201 args) w:=enters_of Tryz.func201 (by kernel_rfl) rfl
 have hg1:(w.alloc (.cells (Cq n 0 0).toArray 5)).heap[w.heap.size]?=some (.cells (Cq n 0 0).toArray 5 (0,0)):=World.alloc_heap_new _ _
 have hcp:=fun ty=>Adx n v hn1 (w.alloc (.cells (Cq n 0 0).toArray 5)) p c ((Below.refl _ w).alloc (Nat.le_refl _) _ |>.cell (World.block_lt_of_cell? w p hc) |>.trans hc) w.heap.size hg1 ty
 go_enter Tryz.func164,Tryz.ntmps164
 go_wp2_with (go_at_fn 201;refine c64.mono ?_;rintro e w' ⟨rfl,hw⟩;rw[hw])
 go_loopw [8] (fun i wr=>∃m:Nat,1≤m∧m≤n∧i=.int .i64 m∧wr.heap[w.heap.size]?=some (.cells (Cq n m v).toArray 5 (0,0))∧Below w.heap.size w wr) (fun i _=>n-(intOf i).toNat)
 case atStart=>exact ⟨1,Nat.le_refl _,hn1,rfl,setRow_heap _ _ _ _ _ _ hg1,below_setRow ((Below.refl _ w).alloc (Nat.le_refl _) _) (Nat.le_refl _) _⟩
 case round =>
  obtain⟨m,h0,h1,rfl,hg,hB⟩:=hrel
  have hcp2:=fun h ty=>gH n m v h wr w.heap.size hg ty
  go_wp2
  ·have hlt:m<n:=by assumption
   have hcp3:=gH n m v hlt wr.drew w.heap.size hg 3 (n-m) n
   go_region
   go_wp2
   go_roundw
   case rel=>exact ⟨m+min m (n-m),by omega,by omega,by simp,setRow_heap _ _ _ _ _ _ (show wr.drew.heap[w.heap.size]? = _ from hg),below_setRow (hB.drew) (Nat.le_refl _) _⟩
   case measure=>simp[intOf];omega
  ·have hmn:m=n:=by omega
   subst hmn
   go_ret
   exact ⟨rfl,hB,hg⟩
theorem pM {w:World} {O:Nat→Prop} {v:Int} (hv:inR .u8 v=true):∀n:Nat,RowOf (Reads w O U8) (List.replicate n v) (List.replicate n (Value.int .u8 v))
 |0=>rfl
 |n+1=>⟨[.int .u8 v],List.replicate n (.int .u8 v),by rw[List.replicate_succ];rfl,⟨rfl,hv⟩,pM hv n⟩
theorem Adw (w:World) (F:Nat→Prop) (vals:List Value) (l:List Int) (k:Int) (y:List Int) (hr:Ce w F [Ty.slice U8,I64] (l,k) vals) (hy:Fj (l,k)=some y) :
 Calls Tryz.prog 164 vals.toArray w fun e w'=>∃rs,e=.returned (Db rs)∧Below w.heap.size w w'∧Gv w.heap.size w' F true [Ty.slice U8] y rs:=by
 obtain⟨v,rfl,h1,h2,rfl⟩:=wF hy
 obtain⟨us,vs',hus,rfl,us2,hus2,rfl⟩:=hr
 obtain⟨rfl,_⟩:=(show us2=[.int .i64 k]∧inR .i64 k=true from hus2)
 obtain⟨a,cap,rfl,hl,hm,hrow⟩:=hus
 rcases hrow with h0|⟨b,off,cells,rfl,_,hb,hat,hrw⟩
 ·exact absurd h0 (by simp)
 ·obtain⟨v1,v2,rfl,⟨rfl,hv⟩,h3⟩:=hrw
  have hc:w.cell? ⟨b,off,none⟩=some (.int .u8 v):=hat 0 _ rfl
  obtain⟨n,rfl⟩:∃n:Nat,k=n:=⟨k.toNat,by omega⟩
  refine (Ae0 n v (by omega) (by omega) w ⟨b,off,none⟩ cap hc).mono fun e w' ⟨he,hB,hg⟩=>?_
  refine ⟨[.slice (some ⟨w.heap.size,0,none⟩) n n],he,hB,.slice (some ⟨w.heap.size,0,none⟩) n n,some w.heap.size,rfl,some ⟨w.heap.size,0,none⟩,n,?_,?_,?_,.inr ⟨w.heap.size,_,_,by omega,rfl,rfl,Nat.le_refl _,(Array.getElem?_eq_some_iff.1 hg).1,hg,?_,?_⟩⟩
  ·show Value.slice _ n n=Value.slice _ (List.length (List.replicate ((n:Int)).toNat v)) n
   simp
  ·show List.length (List.replicate ((n:Int)).toNat v)≤n
   simp
  ·unfold maxLen;omega
  ·rw[List.size_toArray,Qe (Nat.le_refl _)];exact (Nat.mul_one n).symm
  ·show RowOf _ (List.replicate ((n:Int)).toNat v) ((Cq n n v).toArray.toList.take (List.length (List.replicate ((n:Int)).toNat v)*1))
   simp only[Int.toNat_natCast,List.length_replicate,Nat.mul_one]
   rw[List.take_of_length_le (by rw[Qe (Nat.le_refl _)];exact Nat.le_refl _)]
   unfold Cq
   rw[Nat.sub_self,List.replicate_zero,List.append_nil]
   exact pM hv n
theorem aH:Ap Tryz.prog V 164 (spP [Ty.slice U8,I64] [Ty.slice U8] Fj true) where
 enters:=fun args w=>by
  have h:FnOK Tryz.prog 164 (Al Tryz.f164 {}):=Av Tryz.func164 (by kernel_rfl) (by kernel_rfl) (by kernel_rfl)
  exact h.enters args w
 tot:=fun g hg=>by cases hg
 calls:=fun w F vals x y _ _ hr hy=>Adw w F vals x.1 x.2 y hr hy
theorem Tb:AllMeet Tryz.prog V LZ:=(.cons aH .nil)
theorem Tc:AllMeetP Tryz.prog V L0:=.nil
theorem L3:C2 Tryz.prog V 115 (spP [A6] [A6,U8s] C4):=DD (hs:={}) Tb Tc AB AllOK.nil (Av Tryz.func115 (by kernel_rfl) (by kernel_rfl) (by kernel_rfl)) 1 Ta
theorem qP:AllMeet Tryz.prog V Vj:=.nil
theorem qQ:Ap Tryz.prog V 185 (spP [A9] [U8s] Ij true):=Ao qP stays AB (hs:={loops:=[(0,[.slot 13 I64,.arr 9 U8])]}) (Av Tryz.func185 (by kernel_rfl) (by kernel_rfl) (by kernel_rfl)) true qO
theorem qM:AllMeet Tryz.prog V Vi:=.nil
theorem qL:AllOK Tryz.prog Vh:=(.cons (Av Tryz.func181 (by kernel_rfl) (by kernel_rfl) (by kernel_rfl)) (.cons (Av Tryz.func211 (by kernel_rfl) (by kernel_rfl) (by kernel_rfl)) (.cons (Av Tryz.func213 (by kernel_rfl) (by kernel_rfl) (by kernel_rfl)) .nil)))
theorem O3:Ap Tryz.prog V 186 (spP [U8s] [Bo] EA):=Dw qM stays AB qL (hs:={}) (Av Tryz.func186 (by kernel_rfl) (by kernel_rfl) (by kernel_rfl)) false 4 qK
theorem Abs:AllMeet Tryz.prog V aC:=.nil
theorem aD:Ap Tryz.prog V 190 (spT [U8] [Bo] Dq):=AZ Abs stays AB (hs:={}) (Av Tryz.func190 (by kernel_rfl) (by kernel_rfl) (by kernel_rfl)) false fun x=>(Abq x).trans (Abr x)
theorem wO:AllMeet Tryz.prog V Xz:=(.cons aD (.cons OZ .nil))
theorem XA:Ap Tryz.prog V 187 (spP [Ai,U8s] [Bo] E3):=Ao wO stays AB (hs:={loops:=[(0,[.slot 9 I64]),(2,[.slot 18 I64])]}) (Av Tryz.func187 (by kernel_rfl) (by kernel_rfl) (by kernel_rfl)) false wN
theorem Abo:AllMeet Tryz.prog V aB:=(.cons qQ (.cons O3 (.cons XA .nil)))
theorem Abp:Ap Tryz.prog V 136 (spP [Ai,A9] [Bo] Kd):=Ao Abo stays AB (hs:={}) (Av Tryz.func136 (by kernel_rfl) (by kernel_rfl) (by kernel_rfl)) false Abn
theorem LV:AllMeet Tryz.prog V HR:=.nil
theorem LW:Ap Tryz.prog V 214 (spP [U8s,U8] [I64] Cr):=Ao LV stays AB (hs:={loops:=[(0,[.slot 8 I64])]}) (Av Tryz.func214 (by kernel_rfl) (by kernel_rfl) (by kernel_rfl)) false LU
theorem KR:AllMeet Tryz.prog V Hb:=(.cons LW .nil)
theorem KT:Ap Tryz.prog V 188 (spP [U8s,U8] [Bo] B7):=Ao KR stays AB (hs:={}) (Av Tryz.func188 (by kernel_rfl) (by kernel_rfl) (by kernel_rfl)) false KQ
theorem vA:AllMeet Tryz.prog V Xh:=.nil
theorem P6:Ap Tryz.prog V 212 (spT [I64] [I64] AP):=AZ vA stays AB (hs:={}) (Av Tryz.func212 (by kernel_rfl) (by kernel_rfl) (by kernel_rfl)) false fun x=>(u7 x).trans (u9 x)
theorem u5:AllMeet Tryz.prog V Xg:=.nil
theorem u6:Ap Tryz.prog V 215 (spT [U8] [Bo] GI):=AZ u5 stays AB (hs:={}) (Av Tryz.func215 (by kernel_rfl) (by kernel_rfl) (by kernel_rfl)) false fun x=>(u0 x).trans (u4 x)
theorem cW:AllMeet Tryz.prog V QK:=.nil
theorem cX:Ap Tryz.prog V 216 (spT [U8,U8] [Bo] F3):=AZ cW stays AB (hs:={}) (Av Tryz.func216 (by kernel_rfl) (by kernel_rfl) (by kernel_rfl)) false fun x=>(cU x).trans (cV x)
theorem AaV:AllMeet Tryz.prog V ZC:=(.cons P6 (.cons u6 (.cons cX .nil)))
theorem AaW:Ap Tryz.prog V 191 (spT [Kq,Ga,U8] [U8] DI):=AZ AaV stays AB (hs:={}) (Av Tryz.func191 (by kernel_rfl) (by kernel_rfl) (by kernel_rfl)) false fun x=>(AaT x).trans (AaU x)
theorem qB:AllMeet Tryz.prog V Vd:=(.cons OZ (.cons Q2 .nil))
theorem qC:Ap Tryz.prog V 192 (spP [Ai,A9,U8s] [Bo] F6):=Ao qB stays AB (hs:={loops:=[(0,[.slot 14 I64]),(2,[.slot 32 I64])]}) (Av Tryz.func192 (by kernel_rfl) (by kernel_rfl) (by kernel_rfl)) false qA
theorem qF:AllMeet Tryz.prog V Vf:=(.cons O3 (.cons KT (.cons AaW (.cons XA (.cons qC (.cons aD .nil))))))
theorem qE:AllOK Tryz.prog Ve:=(.cons (Av Tryz.func181 (by kernel_rfl) (by kernel_rfl) (by kernel_rfl)) (.cons (Av Tryz.func211 (by kernel_rfl) (by kernel_rfl) (by kernel_rfl)) (.cons (Av Tryz.func189 (by kernel_rfl) (by kernel_rfl) (by kernel_rfl)) .nil)))
theorem qG:Ap Tryz.prog V 137 (spP [Ai,A9,U8s] [U8] Ih):=Dw qF stays AB qE (hs:={loops:=[(1,[.slot 38 I64])],joins:=[(8,[])],outs:=[(8,[(23,Bo)])]}) (Av Tryz.func137 (by kernel_rfl) (by kernel_rfl) (by kernel_rfl)) false 4 qD
theorem TS:Ap Tryz.prog V 138 (spP [Ty.slice Ga] [Ty.slice Ga] FX true) :=
 Jc (e:=107) (T:=Ga) stays AB Tryz.func138 ⟨by kernel_rfl,rfl,by kernel_rfl,by kernel_rfl,by decide,⟨0,1,2,_,_,_,_,rfl,⟨rfl,rfl,rfl⟩,⟨rfl,rfl,rfl⟩,⟨rfl,⟨_,rfl⟩,rfl⟩,⟨rfl,rfl,rfl⟩⟩⟩ (fun l=>by kernel_rfl) (fun y h=>(Option.some.inj ((show FX []=some [] by kernel_rfl).symm.trans h)).symm)
theorem vD:AllMeet Tryz.prog V Xi:=(.cons P6 .nil)
theorem vE:Ap Tryz.prog V 217 (spT [I64] [I64] CT):=AZ vD stays AB (hs:={}) (Av Tryz.func217 (by kernel_rfl) (by kernel_rfl) (by kernel_rfl)) false fun x=>(vB x).trans (vC x)
theorem uU:AllMeet Tryz.prog V Xe:=(.cons vE .nil)
theorem uV:Ap Tryz.prog V 193 (spT [Kq,Ga,U8] [Ga] GH):=AZ uU stays AB (hs:={}) (Av Tryz.func193 (by kernel_rfl) (by kernel_rfl) (by kernel_rfl)) false fun x=>(uS x).trans (uT x)
theorem jP:AllMeet Tryz.prog V S1:=(.cons TS (.cons O3 (.cons uV (.cons LL .nil))))
theorem jQ:Ap Tryz.prog V 139 (spP [Ai,A9,U8s] [A9] Hn):=Ao jP stays AB (hs:={loops:=[(0,[.slot 23 I64,.arr 21 Ga])]}) (Av Tryz.func139 (by kernel_rfl) (by kernel_rfl) (by kernel_rfl)) false jO
theorem wM:AllMeet Tryz.prog V Xy:=(.cons CG (.cons Abp (.cons qG (.cons TS (.cons jQ .nil)))))
theorem Qi:Ap Tryz.prog V 75 (spP [Ai,A9,U8s] [A9,U8,I64] Ez):=Ao wM stays AB (hs:={}) (Av Tryz.func75 (by kernel_rfl) (by kernel_rfl) (by kernel_rfl)) false wL
theorem UH:AllMeet Tryz.prog V Nc:=(.cons Y7 (.cons SW (.cons Qi (.cons LF .nil))))
theorem UJ:AllMeetP Tryz.prog V Nd:=(.cons L3 .nil)
theorem UI:C2 Tryz.prog V 68 (spP [A6] [A6] EV):=DD (hs:={joins:=[(4,[.slot 3 I64])]}) UH UJ AB AllOK.nil (Av Tryz.func68 (by kernel_rfl) (by kernel_rfl) (by kernel_rfl)) 1 UG
theorem iL:Ap Tryz.prog V 120 (spP [Ty.slice Kr] [Ty.slice Kr] Gh true) :=
 Jc (e:=212) (T:=Kr) stays AB Tryz.func120 ⟨by kernel_rfl,rfl,by kernel_rfl,by kernel_rfl,by decide,⟨0,1,2,_,_,_,_,rfl,⟨rfl,rfl,rfl⟩,⟨rfl,rfl,rfl⟩,⟨rfl,⟨_,rfl⟩,rfl⟩,⟨rfl,rfl,rfl⟩⟩⟩ (fun l=>by kernel_rfl) (fun y h=>(Option.some.inj ((show Gh []=some [] by kernel_rfl).symm.trans h)).symm)
theorem bZ:Ap Tryz.prog V 121 (spP [Ty.slice Eo] [Ty.slice Eo] GQ true) :=
 Jc (e:=215) (T:=Eo) stays AB Tryz.func121 ⟨by kernel_rfl,rfl,by kernel_rfl,by kernel_rfl,by decide,⟨0,1,2,_,_,_,_,rfl,⟨rfl,rfl,rfl⟩,⟨rfl,rfl,rfl⟩,⟨rfl,⟨_,rfl⟩,rfl⟩,⟨rfl,rfl,rfl⟩⟩⟩ (fun l=>by kernel_rfl) (fun y h=>(Option.some.inj ((show GQ []=some [] by kernel_rfl).symm.trans h)).symm)
section
attribute [local go_sem] Oper.semAt_some
def puS (x r:Bool) (s:Int):Int:=min ((if x=r then s else 0)+1) 1048576
def puU (x u r:Bool) (s h:Int):Bool:=if h≤puS x r s then x else u
structure V8 (Bp:Nat) (u r:Bool) (s:Int) (W W1:World):Prop where
 os:W1.os=W.os
 tape:W1.tape=W.tape
 output:W1.output=W.output
 size:W1.heap.size=W.heap.size
 same:∀k,k≠Bp→W1.heap[k]?=W.heap[k]?
 box:W1.heap[Bp]?=some (.cells #[.bool u,.bool r,.int .i64 s] 212 (0,0))
set_option maxRecDepth 100000 in
set_option maxHeartbeats 4000000 in
theorem Adj (F:Fence) (n:Nat) (h8:F.fn 222) (hro:F.round=none) (hn:1≤n) (l Br Bp Bh b off cap:Nat) (x u r:Bool) (s h:Int) (hs:0≤s∧s≤1048576) (W:World)
 (hr:W.cell? ⟨Br,0,none⟩=some (.slice (some ⟨b,off,none⟩) 1 cap)) (hx:W.cell? ⟨b,off,none⟩=some (.bool x)) (hp:W.heap[Bp]?=some (.cells #[.bool u,.bool r,.int .i64 s] 212 (0,0))) (hh:W.cell? ⟨Bh,0,none⟩=some (.int .i64 h)) (hd:Br≠Bp∧b≠Bp∧Bh≠Bp)
 (R:World→Prop) (hY:∀W1,V8 Bp (puU x u r s h) x (puS x r s) W W1→YieldAt F (n-1) Tryz.prog l #[.agg #[.bool (puU x u r s h),.bool x,.int .i64 (puS x r s)]] W1 fun e W'=>e=.returned (.bool true)∧R W') :
 CallsIn F n Tryz.prog 222 #[.func (.yield l) #[] #[],.pointer (some ⟨Br,0,none⟩),.pointer (some ⟨Bp,0,none⟩),.pointer (some ⟨Bh,0,none⟩)] W fun e W'=>(∃v,e=.returned v)∧R W':=by
 have c0:W.cell? ⟨Bp,0,none⟩=some (.bool u):=by simp[World.cell?,hp]
 have c1:W.cell? ⟨Bp,1,none⟩=some (.bool r):=by simp[World.cell?,hp]
 have c2:W.cell? ⟨Bp,2,none⟩=some (.int .i64 s):=by simp[World.cell?,hp]
 have f0:W.frozen? ⟨Bp,0,none⟩=false:=by simp[World.frozen?,hp]
 have f1:W.frozen? ⟨Bp,1,none⟩=false:=by simp[World.frozen?,hp]
 have f2:W.frozen? ⟨Bp,2,none⟩=false:=by simp[World.frozen?,hp]
 refine callsIn_of_wp Tryz.func222 rfl h8 ?_ hro
 simp only[Tryz.ntmps222,List.size_toArray,List.length_cons,List.length_nil,Nat.reduceAdd,Nat.reduceSub,Array.replicate_succ,Array.replicate_zero,List.push_toArray,List.append_toArray,List.nil_append,List.cons_append]
 gi_wp2
 gi_loopw [9] (fun i wr=>(i=.int .i64 0∧wr=W)∨(i=.int .i64 1∧R wr)) (fun i _=>1-(intOf i).toNat)
 case atStart=>exact .inl ⟨rfl,rfl⟩
 case round =>
  rcases hrel with ⟨rfl,rfl⟩|⟨rfl,hR⟩
  ·obtain⟨hs0,hs1⟩:=hs
   obtain⟨hd1,hd2,hd3⟩:=hd
   have hlt:Bp<wr.heap.size:=(Array.getElem?_eq_some_iff.1 hp).1
   by_cases hxr:x=r
   ·subst hxr
    have PS:puS x x s=min (s+1) 1048576:=by simp[puS]
    have A0:=heap_setCell_same wr Bp 2 _ _ (.int .i64 (min (s+1) 1048576)) hp
    have A2:(wr.setCell ⟨Bp,2,none⟩ (.int .i64 (min (s+1) 1048576))).cell? ⟨Bp,2,none⟩=some (.int .i64 (min (s+1) 1048576)):=by simp[World.cell?,A0]
    have A1:(wr.setCell ⟨Bp,2,none⟩ (.int .i64 (min (s+1) 1048576))).cell? ⟨Bp,1,none⟩=some (.bool x):=by simp[World.cell?,A0]
    have Ac:(wr.setCell ⟨Bp,2,none⟩ (.int .i64 (min (s+1) 1048576))).cell? ⟨Bp,0,none⟩=some (.bool u):=by simp[World.cell?,A0]
    have Ah:(wr.setCell ⟨Bp,2,none⟩ (.int .i64 (min (s+1) 1048576))).cell? ⟨Bh,0,none⟩=some (.int .i64 h):=by
     repeat rw[World.cell?_setCell_far _ _ _ _ (fun e=>hd3 e.symm)]
     exact hh
    by_cases hle:h≤(min (s+1) 1048576)
    ·have PU:puU x u x s h=x:=by unfold puU;rw[PS,if_pos hle]
     have D0:=heap_setCell_same _ Bp 0 _ _ (.bool x) A0
     have D2:((wr.setCell ⟨Bp,2,none⟩ (.int .i64 (min (s+1) 1048576))).setCell ⟨Bp,0,none⟩ (.bool x)).cell? ⟨Bp,2,none⟩=some (.int .i64 (min (s+1) 1048576)):=by simp[World.cell?,D0]
     have D1:((wr.setCell ⟨Bp,2,none⟩ (.int .i64 (min (s+1) 1048576))).setCell ⟨Bp,0,none⟩ (.bool x)).cell? ⟨Bp,1,none⟩=some (.bool x):=by simp[World.cell?,D0]
     have Dc:((wr.setCell ⟨Bp,2,none⟩ (.int .i64 (min (s+1) 1048576))).setCell ⟨Bp,0,none⟩ (.bool x)).cell? ⟨Bp,0,none⟩=some (.bool x):=by simp[World.cell?,D0]
     have hS:V8 Bp (puU x u x s h) x (puS x x s) wr ((wr.setCell ⟨Bp,2,none⟩ (.int .i64 (min (s+1) 1048576))).setCell ⟨Bp,0,none⟩ (.bool x)):=⟨rfl,rfl,rfl,by simp,fun k hk=>(by repeat rw[heap_setCell_other _ _ _ _ hk]),by rw[PU,PS,D0];rfl⟩
     obtain⟨fn,tmps,assign,body,hy,hRd⟩:=hY _ hS
     simp only[PU,PS] at hy
     gi_wp2
     refine hRd.mono ?_
     rintro e W3 ⟨rfl,hR3⟩
     gi_wp2
     go_roundw
     case rel=>exact .inr ⟨rfl,hR3⟩
     case measure=>simp[intOf]
    ·have PU:puU x u x s h=u:=by unfold puU;rw[PS,if_neg hle]
     have hS:V8 Bp (puU x u x s h) x (puS x x s) wr (wr.setCell ⟨Bp,2,none⟩ (.int .i64 (min (s+1) 1048576))):=⟨rfl,rfl,rfl,by simp,fun k hk=>(by repeat rw[heap_setCell_other _ _ _ _ hk]),by rw[PU,PS,A0];rfl⟩
     obtain⟨fn,tmps,assign,body,hy,hRd⟩:=hY _ hS
     simp only[PU,PS] at hy
     gi_wp2
     refine hRd.mono ?_
     rintro e W3 ⟨rfl,hR3⟩
     gi_wp2
     go_roundw
     case rel=>exact .inr ⟨rfl,hR3⟩
     case measure=>simp[intOf]
   ·have PS:puS x r s=min 1 1048576:=by simp[puS,hxr]
    have hne:(x==r)=false:=by simpa using hxr
    have B1:=heap_setCell_same wr Bp 1 _ _ (.bool x) hp
    have B2:=heap_setCell_same _ Bp 2 _ _ (.int .i64 0) B1
    have A0:=heap_setCell_same _ Bp 2 _ _ (.int .i64 (min 1 1048576)) B2
    have B11:(wr.setCell ⟨Bp,1,none⟩ (.bool x)).cell? ⟨Bp,2,none⟩=some (.int .i64 s):=by simp[World.cell?,B1]
    have B22:((wr.setCell ⟨Bp,1,none⟩ (.bool x)).setCell ⟨Bp,2,none⟩ (.int .i64 0)).cell? ⟨Bp,2,none⟩=some (.int .i64 0):=by simp[World.cell?,B2]
    have A2:(((wr.setCell ⟨Bp,1,none⟩ (.bool x)).setCell ⟨Bp,2,none⟩ (.int .i64 0)).setCell ⟨Bp,2,none⟩ (.int .i64 (min 1 1048576))).cell? ⟨Bp,2,none⟩=some (.int .i64 (min 1 1048576)):=by simp[World.cell?,A0]
    have A1:(((wr.setCell ⟨Bp,1,none⟩ (.bool x)).setCell ⟨Bp,2,none⟩ (.int .i64 0)).setCell ⟨Bp,2,none⟩ (.int .i64 (min 1 1048576))).cell? ⟨Bp,1,none⟩=some (.bool x):=by simp[World.cell?,A0]
    have Ac:(((wr.setCell ⟨Bp,1,none⟩ (.bool x)).setCell ⟨Bp,2,none⟩ (.int .i64 0)).setCell ⟨Bp,2,none⟩ (.int .i64 (min 1 1048576))).cell? ⟨Bp,0,none⟩=some (.bool u):=by simp[World.cell?,A0]
    have Ah:(((wr.setCell ⟨Bp,1,none⟩ (.bool x)).setCell ⟨Bp,2,none⟩ (.int .i64 0)).setCell ⟨Bp,2,none⟩ (.int .i64 (min 1 1048576))).cell? ⟨Bh,0,none⟩=some (.int .i64 h):=by
     repeat rw[World.cell?_setCell_far _ _ _ _ (fun e=>hd3 e.symm)]
     exact hh
    by_cases hle:h≤(min 1 1048576)
    ·have PU:puU x u r s h=x:=by unfold puU;rw[PS,if_pos hle]
     have D0:=heap_setCell_same _ Bp 0 _ _ (.bool x) A0
     have D2:((((wr.setCell ⟨Bp,1,none⟩ (.bool x)).setCell ⟨Bp,2,none⟩ (.int .i64 0)).setCell ⟨Bp,2,none⟩ (.int .i64 (min 1 1048576))).setCell ⟨Bp,0,none⟩ (.bool x)).cell? ⟨Bp,2,none⟩=some (.int .i64 (min 1 1048576)):=by simp[World.cell?,D0]
     have D1:((((wr.setCell ⟨Bp,1,none⟩ (.bool x)).setCell ⟨Bp,2,none⟩ (.int .i64 0)).setCell ⟨Bp,2,none⟩ (.int .i64 (min 1 1048576))).setCell ⟨Bp,0,none⟩ (.bool x)).cell? ⟨Bp,1,none⟩=some (.bool x):=by simp[World.cell?,D0]
     have Dc:((((wr.setCell ⟨Bp,1,none⟩ (.bool x)).setCell ⟨Bp,2,none⟩ (.int .i64 0)).setCell ⟨Bp,2,none⟩ (.int .i64 (min 1 1048576))).setCell ⟨Bp,0,none⟩ (.bool x)).cell? ⟨Bp,0,none⟩=some (.bool x):=by simp[World.cell?,D0]
     have hS:V8 Bp (puU x u r s h) x (puS x r s) wr ((((wr.setCell ⟨Bp,1,none⟩ (.bool x)).setCell ⟨Bp,2,none⟩ (.int .i64 0)).setCell ⟨Bp,2,none⟩ (.int .i64 (min 1 1048576))).setCell ⟨Bp,0,none⟩ (.bool x)):=⟨rfl,rfl,rfl,by simp,fun k hk=>(by repeat rw[heap_setCell_other _ _ _ _ hk]),by rw[PU,PS,D0];rfl⟩
     obtain⟨fn,tmps,assign,body,hy,hRd⟩:=hY _ hS
     simp only[PU,PS] at hy
     gi_wp2
     refine hRd.mono ?_
     rintro e W3 ⟨rfl,hR3⟩
     gi_wp2
     go_roundw
     case rel=>exact .inr ⟨rfl,hR3⟩
     case measure=>simp[intOf]
    ·have PU:puU x u r s h=u:=by unfold puU;rw[PS,if_neg hle]
     have hS:V8 Bp (puU x u r s h) x (puS x r s) wr (((wr.setCell ⟨Bp,1,none⟩ (.bool x)).setCell ⟨Bp,2,none⟩ (.int .i64 0)).setCell ⟨Bp,2,none⟩ (.int .i64 (min 1 1048576))):=⟨rfl,rfl,rfl,by simp,fun k hk=>(by repeat rw[heap_setCell_other _ _ _ _ hk]),by rw[PU,PS,A0];rfl⟩
     obtain⟨fn,tmps,assign,body,hy,hRd⟩:=hY _ hS
     simp only[PU,PS] at hy
     gi_wp2
     refine hRd.mono ?_
     rintro e W3 ⟨rfl,hR3⟩
     gi_wp2
     go_roundw
     case rel=>exact .inr ⟨rfl,hR3⟩
     case measure=>simp[intOf]
  ·gi_wp2
   go_end0
   exact ⟨⟨_,rfl⟩,hR⟩
def puE (s h:Int):Int:=if s<0∨1048576<s then 8 else if h<1∨1048576<h then 2 else 0
set_option maxHeartbeats 1000000 in
theorem AeQ (F:Fence) (n:Nat) (hf:F.fn 202) (hro:F.round=none) (u r:Bool) (s h:Int) (w:World) :
 CallsIn F n Tryz.prog 202 #[.agg #[.bool u,.bool r,.int .i64 s],.int .i64 1,.int .i64 h] w fun e w'=>e=.returned (.int .i64 (puE s h))∧w'=w.alloc (.cells #[.bool u,.bool r,.int .i64 s] 212):=by
 refine callsIn_of_wp Tryz.func202 rfl hf ?_ hro
 simp only[Tryz.ntmps202,List.size_toArray,List.length_cons,List.length_nil,Nat.reduceAdd,Nat.reduceSub,Array.replicate_succ,Array.replicate_zero,List.push_toArray,List.append_toArray,List.nil_append,List.cons_append]
 gi_wp2
 all_goals go_ret
 all_goals refine ⟨?_,rfl⟩
 all_goals (first|(rw[show puE s h=8 from if_pos (by omega)];rfl)|(rw[show puE s h=2 from (if_neg (by omega)).trans (if_pos (by omega))];rfl)|(rw[show puE s h=0 from (if_neg (by omega)).trans (if_neg (by omega))];rfl))
set_option maxHeartbeats 1000000 in
theorem Adi (F:Fence) (n:Nat) (hf:F.fn 203) (hro:F.round=none) (u r:Bool) (s h:Int) (b off cap:Nat) (w:World) :
 CallsIn F n Tryz.prog 203 #[.agg #[.bool u,.bool r,.int .i64 s],.slice (some ⟨b,off,none⟩) 1 cap,.int .i64 h] w fun e w'=>e=.returned (.func (.func 222) #[] #[.pointer (some ⟨w.heap.size+1,0,none⟩),.pointer (some ⟨w.heap.size,0,none⟩),.pointer (some ⟨w.heap.size+1+1,0,none⟩)])∧w'=((w.alloc (.cells #[.bool u,.bool r,.int .i64 s] 212)).alloc (.cells #[.slice (some ⟨b,off,none⟩) 1 cap] 34)).alloc (.cells #[.int .i64 h] 3):=by
 refine callsIn_of_wp Tryz.func203 rfl hf ?_ hro
 simp only[Tryz.ntmps203,List.size_toArray,List.length_cons,List.length_nil,Nat.reduceAdd,Nat.reduceSub,Array.replicate_succ,Array.replicate_zero,List.push_toArray,List.append_toArray,List.nil_append,List.cons_append]
 gi_wp2
 go_ret
 exact ⟨by simp,rfl⟩
theorem Dx {W:World} {l k:Nat} {o':Obj} {o:Obj} (h:W.heap[k]?=some o) (hne:k≠l):(W.putObj l o').heap[k]?=some o:=(World.putObj_heap_other hne).trans h
theorem AeW {F:Fence} {n:Nat} {P:Program} {g:Operand} {ps:Array Tmp} {assign body:Code} {Q:Exit→Act→World→Prop} {a:Act} {w:World}
 (hro:F.round=none) (h1:1≤n) {gf:Nat} {lb:Array Value} (hg:a.eval g=.func (.func gf) #[] lb) (hFg:F.fn gf) (eg:∀args w,(callFunc gf args).run P w=.ok (.enter gf args) w)
 {args:Array Value} (hps:args.size=ps.size) (Set:World→World→Prop)
 (hS:∀W1 W2 k o,Set W1 W2→w.heap.size≤k→W1.heap[k]?=some o→W2.heap[k]?=some o)
 (hseq:∀(o:Obj) (R:World→Prop),(∀W2,Set ((w.alloc (.deferred (some []))).alloc o) W2→YieldAt F (n-1-1) P (w.heap.size+1) args W2 fun e W'=>e=.returned (.bool true)∧R W') →
   CallsIn F (n-1) P gf (#[.func (.yield (w.heap.size+1)) #[] #[]]++lb) ((w.alloc (.deferred (some []))).alloc o) fun e W'=>(∃v,e=.returned v)∧R W')
 (J:World→Prop) (hJ:∀W l o o',J W→w.heap.size≤l→W.heap[l]?=some o→o.isCells=false→J (W.putObj l o'))
 (J1:Act→World→Prop) (hJ1:∀a W l o o',J1 a W→w.heap.size≤l→W.heap[l]?=some o→o.isCells=false→J1 a (W.putObj l o'))
 (hassign:∀(l:Nat) (o:Obj) (W2:World),Set ((w.alloc (.deferred (some []))).alloc o) W2→assign.wpIn (F.inRound l) (n-1-1) P (Exit.then (fun a₁ w₁=>KeepsOthers W2 w₁∧J1 a₁ w₁) (fun _ _ _=>False)) {tmps:=(ps.zip args).foldl (fun t (p,v)=>t.setIfInBounds p v) a.tmps,defers:=[]} W2)
 (hbody:∀(l:Nat) (a₁:Act) (W:World),J1 a₁ W→body.wpIn (F.inRound l) (n-1-1) P (fun e _ W'=>e=.normal∧KeepsOthers W W'∧J W') a₁ W)
 (hdone:∀(D:Nat) (W:World),w.heap.size≤D→J W→W.heap[D]?=some (.deferred (some []))→Q .normal {a with defers:={target:=.collected D,args:=#[]}::a.defers} W) :
 (Code.rangeFunc g ps assign body).wpIn F n P Q a w:=by
 refine wpIn_rangeFunc ?_
 intro fn hfn
 rw[hro]
 obtain⟨rec,hrec⟩:∃rec:LoopState→Option Code→Loop,rec=fun st pe=>{state:=st,pending:=pe,fn,tmps:=a.tmps,params:=ps,assign,body,defers:=w.heap.size}:=⟨_,rfl⟩
 obtain⟨W1,hW1⟩:∃W1,(w.alloc (.deferred (some []))).alloc (.loop (rec .ready none))=W1:=⟨_,rfl⟩
 have hL1:W1.heap[w.heap.size+1]?=some (.loop (rec .ready none)):=by
  rw[←hW1];have:=World.alloc_heap_new (w.alloc (.deferred (some []))) (.loop (rec .ready none));rwa [World.size_alloc] at this
 have hK1:W1.heap[w.heap.size]?=some (.deferred (some [])):=by
  rw[←hW1];exact (Below.heap_alloc _ _ _ (by simp)).trans (World.alloc_heap_new w _)
 refine ⟨w.heap.size+1,[{target:=.collected w.heap.size,args:=#[]}],W1,{target:=.fn (.func gf) lb,args:=#[.func (.yield (w.heap.size+1)) #[] #[]]},W1,gf,
  #[.func (.yield (w.heap.size+1)) #[] #[]]++lb,W1,?_,?_,?_,?_,fun _=>h1,?_⟩
 ·rw[←hW1,hrec];exact run_enterLoop_outer _ _ _ _ _
 ·simp only[resolve,hg]
  simp[go_sem]
 ·intro f' hf';simp[Target.leads] at hf';subst hf';exact hFg
 ·simp[invoke,go_sem,eg]
 ·have hq:=hseq (.loop (rec .ready none)) (fun W=>J W∧W.heap[w.heap.size+1]?=some (.loop (rec .ready none))∧W.heap[w.heap.size]?=some (.deferred (some [])))
  rw[hW1] at hq
  refine (hq ?_).mono ?_
  ·intro W hset
   have hset':Set ((w.alloc (.deferred (some []))).alloc (.loop (rec .ready none))) W:=by rw[hW1];exact hset
   have hl:=hS _ _ _ _ hset (by omega) hL1
   have hk:=hS _ _ _ _ hset (Nat.le_refl _) hK1
   have hlt:w.heap.size+1<W.heap.size:=(Array.getElem?_eq_some_iff.1 hl).1
   have hy:=run_yield (P:=P) (args:=args) hl (by rw[hrec];exact hps)
   rw[hrec] at hy
   refine ⟨fn,_,assign,body,hy,roundIn_of_wpIn hfn (wpIn_mono (hassign _ _ W hset') ?_)⟩
   rintro e a1 w1 hp
   cases e with
   |normal =>
    obtain⟨hk1,hj1⟩:=hp
    have hl1:=hk1.same _ _ hl rfl
    have hd1:=hk1.same _ _ hk rfl
    have hlt1:=(Array.getElem?_eq_some_iff.1 hl1).1
    refine ⟨_,run_beginRound hl1 (by rw[hrec]),?_⟩
    have hl2:(w1.putObj (w.heap.size+1) (.loop {rec .ready none with state:=.busy})).heap[w.heap.size+1]?=some (.loop {rec .ready none with state:=.busy}):=World.putObj_heap_same hlt1
    have hk2:=Dx (l:=w.heap.size+1) (o':=.loop {rec .ready none with state:=.busy}) hd1 (by omega)
    refine wpIn_mono (hbody _ a1 _ (hJ1 _ _ _ _ _ hj1 (by omega) hl1 rfl)) ?_
    rintro e a3 W3 ⟨rfl,hk3,hj3⟩
    have hl3:=hk3.same _ _ hl2 rfl
    have hd3:=hk3.same _ _ hk2 rfl
    have hr:=run_endRound (P:=P) none hl3
    rw[hrec] at hr
    refine ⟨_,_,hr,rfl,hJ _ _ _ _ hj3 (by omega) hl3 rfl,?_,Dx hd3 (by omega)⟩
    rw[hrec]
    exact World.putObj_heap_same (Array.getElem?_eq_some_iff.1 hl3).1
   |_=>exact hp.elim
  ·rintro e W2 ⟨⟨v,rfl⟩,hj,hl,hk⟩
   exact ⟨none,_,by have:=run_endLoop (P:=P) hl (by rw[hrec];simp);rw[hrec] at this;exact this,hdone _ _ (Nat.le_refl _) (hJ _ _ _ _ hj (by omega) hl rfl) (Dx hk (by omega))⟩
def Afd (x u r:Bool) (s h:Int) (e:Ending):Prop:=∃sv,e=.returned (.tuple #[.agg (if puE s h=0 then #[.bool (puU x u r s h),.bool x,.int .i64 (puS x r s)] else #[.bool false,.bool false,.int .i64 0]),sv,.int .i64 (puE s h)])
theorem BK {W:World} {o x:Obj} {k:Nat} (h:W.heap[k]?=some x):(W.alloc o).heap[k]?=some x:=(Below.heap_alloc _ _ _ (Array.getElem?_eq_some_iff.1 h).1).trans h
theorem I1 {W:World} {o:Obj} {k:Nat} (h:k=W.heap.size):(W.alloc o).heap[k]?=some o:=by rw[h];exact World.alloc_heap_new W o
theorem TE {n₀:Nat} {W:World} {l:Nat} {o':Obj} (hl:n₀≤l):Below n₀ W (W.putObj l o') :=
 ⟨rfl,rfl,rfl,by simp[World.putObj],fun k hk=>World.putObj_heap_other (by omega)⟩
theorem Agm:(Tryz.prog.info? 4).map (fun i=>(i.zero,i.size,i.bytes))=some (some (.bool false),1,1):=by kernel_rfl
theorem Agn (w:World):(Instr.makeSlice 34 (.int .i64 0) (.int .i64 1)).run Tryz.prog w=.ok (.slice (some ⟨w.heap.size,0,none⟩) 0 1) (w.alloc (.cells #[.bool false] 4)):=by
 obtain⟨i,hi,hz,hs,hb⟩:=info_parts Agm
 have h:=run_makeSlice (P:=Tryz.prog) w 34 4 i (.bool false) (by kernel_rfl) hi hz .i64 .i64 0 1 (by omega) (by omega) (by rw[hs];decide) (by rw[hb];decide) (by omega)
 rw[h,hs]
 have e:madeCells (Value.bool false).cells (Int.toNat 1*1)=#[Value.bool false]:=by
  apply Array.ext
  ·simp[madeCells]
  ·intro j h1 h2
   simp[madeCells,Value.cells,Nat.mod_one]
 rw[e]
 rfl
set_option maxRecDepth 100000 in
set_option maxHeartbeats 4000000 in
theorem Aho (x u r:Bool) (s h:Int) (b off cap:Nat) (w:World) (hb:b<w.heap.size) (hx:w.cell? ⟨b,off,none⟩=some (.bool x)) :
 CallsIn Fence.wide 4 Tryz.prog 165 #[.agg #[.bool u,.bool r,.int .i64 s],.slice (some ⟨b,off,none⟩) 1 cap,.int .i64 h] w fun e W'=>Afd x u r s h e∧Below w.heap.size w W':=by
 refine callsIn_of_wp_marks Tryz.func165 rfl trivial ?_ rfl
 simp only[Tryz.ntmps165,List.size_toArray,List.length_cons,List.length_nil,Nat.reduceAdd,Nat.reduceSub,Array.replicate_succ,Array.replicate_zero,List.push_toArray,List.append_toArray,List.nil_append,List.cons_append]
 gi_wp2
 refine ⟨trivial,(AeQ Fence.wide 3 trivial rfl u r s h _).mono ?_⟩
 rintro e W1 ⟨rfl,rfl⟩
 by_cases hz:puE s h=0
 ·have hmk:=Agn
  gi_wp2
  refine ⟨trivial,(Adi Fence.wide 3 trivial rfl u r s h b off cap _).mono ?_⟩
  rintro e W3 ⟨rfl,hW3⟩
  have hsz:W3.heap.size=w.heap.size+8:=by rw[hW3];simp
  have hbw:Below w.heap.size w W3:=by
   rw[hW3]
   exact (((((((((Below.refl _ w).alloc (Nat.le_refl _) _).alloc (by simp) _).alloc (by simp;omega) _).alloc (by simp;omega) _).alloc (by simp;omega) _).alloc (by simp;omega) _).alloc (by simp;omega) _).alloc (by simp;omega) _)
  have at0:W3.heap[w.heap.size]?=some (.cells #[.bool u,.bool r,.int .i64 s] 212 (0,0)):=by
   rw[hW3];exact BK (BK (BK (BK (BK (BK (BK (I1 rfl)))))))
  have at1:W3.heap[w.heap.size+1]?=some (.cells #[.bool false,.bool false,.int .i64 0] 212 (0,0)):=by
   rw[hW3];exact BK (BK (BK (BK (BK (BK (I1 (by simp only[World.size_alloc])))))))
  have at3:W3.heap[w.heap.size+1+1+1]?=some (.cells #[.bool false] 4 (0,0)):=by
   rw[hW3];exact BK (BK (BK (BK (I1 (by simp only[World.size_alloc])))))
  have at4:W3.heap[w.heap.size+1+1+1+1]?=some (.cells #[.slice (some ⟨w.heap.size+1+1+1,0,none⟩) 0 1] 34 (0,0)):=by
   rw[hW3];exact BK (BK (BK (I1 (by simp only[World.size_alloc]))))
  have at5:W3.heap[w.heap.size+1+1+1+1+1]?=some (.cells #[.bool u,.bool r,.int .i64 s] 212 (0,0)):=by
   rw[hW3];exact BK (BK (I1 (by simp only[World.size_alloc])))
  have at6:W3.heap[w.heap.size+1+1+1+1+1+1]?=some (.cells #[.slice (some ⟨b,off,none⟩) 1 cap] 34 (0,0)):=by
   rw[hW3];exact BK (I1 (by simp only[World.size_alloc]))
  have at7:W3.heap[w.heap.size+1+1+1+1+1+1+1]?=some (.cells #[.int .i64 h] 3 (0,0)):=by
   rw[hW3];exact I1 (by simp only[World.size_alloc])
  have hs:0≤s∧s≤1048576:=by
   unfold puE at hz
   split at hz
   ·cases hz
   ·omega
  have fin:∀(W:World) (sv:Value) (tm:Array Value),Below w.heap.size w W→tm[6]?=some (.pointer (some ⟨w.heap.size+1,0,none⟩))→tm[7]?=some sv→tm[8]?=some (.int .i64 0)→W.heap[w.heap.size+1]?=some (.cells #[.bool (puU x u r s h),.bool x,.int .i64 (puS x r s)] 212 (0,0)) →
   ∃v,(results Tryz.f165 tm).run Tryz.prog W=.ok v W∧Afd x u r s h (.returned v)∧Below w.heap.size w W:=fun W sv tm hB t6 t7 t8 h1=>by
   have c0:W.cell? ⟨w.heap.size+1,0,none⟩=some (.bool (puU x u r s h)):=by simp[World.cell?,h1]
   have c1:W.cell? ⟨w.heap.size+1,1,none⟩=some (.bool x):=by simp[World.cell?,h1]
   have c2:W.cell? ⟨w.heap.size+1,2,none⟩=some (.int .i64 (puS x r s)):=by simp[World.cell?,h1]
   refine ⟨_,?_,⟨sv,rfl⟩,hB⟩
   rw[if_pos hz,hz]
   simp[results,Tryz.f165,go_sem,t6,t7,t8,c0,c1,c2]
  clear hW3
  simp only[World.size_alloc]
  gi_wp2
  refine AeW (F:=Fence.wide) (n:=4) (P:=Tryz.prog) ?h0 ?h1 (gf:=222) (lb:=#[.pointer (some ⟨w.heap.size+1+1+1+1+1+1,0,none⟩),.pointer (some ⟨w.heap.size+1+1+1+1+1,0,none⟩),.pointer (some ⟨w.heap.size+1+1+1+1+1+1+1,0,none⟩)]) ?hg ?hF ?heg
   (args:=#[.agg #[.bool (puU x u r s h),.bool x,.int .i64 (puS x r s)]]) ?hps (V8 (w.heap.size+1+1+1+1+1) (puU x u r s h) x (puS x r s)) ?hS ?hseq
   (fun W=>Below w.heap.size w W∧W.heap[w.heap.size]?=some (.cells #[.bool (puU x u r s h),.bool x,.int .i64 (puS x r s)] 212 (0,0))∧W.heap[w.heap.size+1]?=some (.cells #[.bool false,.bool false,.int .i64 0] 212 (0,0))∧W.heap[w.heap.size+1+1+1+1]?=some (.cells #[.slice (some ⟨w.heap.size+1+1+1,0,none⟩) 1 1] 34 (0,0)))
   ?hJ
   (fun a W=>∃N,w.heap.size+8≤N∧a={tmps:=#[.agg #[.bool u,.bool r,.int .i64 s],.slice (some ⟨b,off,none⟩) 1 cap,.int .i64 h,.pointer (some ⟨w.heap.size,0,none⟩),undef,undef,.pointer (some ⟨w.heap.size+1,0,none⟩),.slice none 0 0,.int .i64 0,.int .i64 0,.pointer (some ⟨w.heap.size+1+1+1+1,0,none⟩),.pointer (some ⟨N,0,none⟩),.agg #[.bool u,.bool r,.int .i64 s],.slice (some ⟨b,off,none⟩) 1 cap,.int .i64 1,.int .i64 h,.int .i64 0,.int .i64 0,.bool false,undef,undef,.slice (some ⟨b,off,none⟩) 1 cap,.int .i64 1,.slice (some ⟨w.heap.size+1+1+1,0,none⟩) 0 1,.agg #[.bool u,.bool r,.int .i64 s],.slice (some ⟨b,off,none⟩) 1 cap,.int .i64 h,.func (.func 222) #[] #[.pointer (some ⟨w.heap.size+1+1+1+1+1+1,0,none⟩),.pointer (some ⟨w.heap.size+1+1+1+1+1,0,none⟩),.pointer (some ⟨w.heap.size+1+1+1+1+1+1+1,0,none⟩)],.agg #[.bool (puU x u r s h),.bool x,.int .i64 (puS x r s)],undef,undef,undef,undef,undef,undef,undef,undef],defers:=[]} ∧
     Below w.heap.size w W∧W.heap[w.heap.size]?=some (.cells #[.bool u,.bool r,.int .i64 s] 212 (0,0))∧W.heap[w.heap.size+1]?=some (.cells #[.bool false,.bool false,.int .i64 0] 212 (0,0))∧W.heap[w.heap.size+1+1+1]?=some (.cells #[.bool false] 4 (0,0))∧W.heap[w.heap.size+1+1+1+1]?=some (.cells #[.slice (some ⟨w.heap.size+1+1+1,0,none⟩) 0 1] 34 (0,0))∧W.heap[N]?=some (.cells #[.bool (puU x u r s h),.bool x,.int .i64 (puS x r s)] 212 (0,0)))
   ?hJ1 ?assign ?body ?done
  case h0=>rfl
  case h1=>omega
  case hg=>rfl
  case hF=>trivial
  case heg=>exact enters_of Tryz.func222 (by kernel_rfl) rfl
  case hps=>rfl
  case hS =>
   intro W1 W2 k o hset hk hko
   rw[hset.same k (by omega)];exact hko
  case hseq =>
   intro o R hY
   have e6:((W3.alloc (.deferred (some []))).alloc o).cell? ⟨w.heap.size+1+1+1+1+1+1,0,none⟩=some (.slice (some ⟨b,off,none⟩) 1 cap):=by simp only[World.cell?,BK (BK at6)];rfl
   have e7:((W3.alloc (.deferred (some []))).alloc o).cell? ⟨w.heap.size+1+1+1+1+1+1+1,0,none⟩=some (.int .i64 h):=by simp only[World.cell?,BK (BK at7)];rfl
   have ex:((W3.alloc (.deferred (some []))).alloc o).cell? ⟨b,off,none⟩=some (.bool x):=((hbw.alloc (by omega) _).alloc (by simp;omega) _ |>.cell (p:=⟨b,off,none⟩) hb).trans hx
   exact Adj Fence.wide 3 trivial rfl (by omega) (W3.heap.size+1) _ _ _ b off cap x u r s h hs _ e6 ex (BK (BK at5)) e7 ⟨by omega,by omega,by omega⟩ R hY
  case hJ =>
   rintro W l o o' ⟨hB,q0,q1,q4⟩ hl ho hc
   exact ⟨hB.trans (TE (by omega)),Dx q0 (by omega),Dx q1 (by omega),Dx q4 (by omega)⟩
  case hJ1 =>
   rintro a W l o o' ⟨N,hN,ha,hB,q0,q1,q3,q4,qN⟩ hl ho hc
   have hNl:N≠l:=fun e=>by
    rw[e,ho] at qN
    cases Option.some.inj qN
    exact absurd hc (by simp[Obj.isCells])
   exact ⟨N,hN,ha,hB.trans (TE (by omega)),Dx q0 (by omega),Dx q1 (by omega),Dx q3 (by omega),Dx q4 (by omega),Dx qN hNl⟩
  case assign =>
   intro l o W2 hset
   have hsz2:W2.heap.size=w.heap.size+10:=by rw[hset.size];simp only[World.size_alloc];omega
   have hB2:Below w.heap.size w W2:=by
    have h2:=(hbw.alloc (by omega) (.deferred (some []))).alloc (by simp only[World.size_alloc];omega) o
    exact ⟨hset.os.trans h2.os,hset.tape.trans h2.tape,hset.output.trans h2.output,by rw[hset.size];exact h2.size,fun k hk=>by rw[hset.same k (by omega)];exact h2.block k hk⟩
   have g:∀k x,k≠w.heap.size+1+1+1+1+1→W3.heap[k]?=some x→W2.heap[k]?=some x:=fun k x hk hx=>by rw[hset.same k hk];exact BK (BK hx)
   gi_wp2
   exact ⟨KeepsOthers.alloc _ _,w.heap.size+10,by omega,rfl,hB2.alloc (by omega) _,BK (g _ _ (by omega) at0),BK (g _ _ (by omega) at1),BK (g _ _ (by omega) at3),BK (g _ _ (by omega) at4),I1 hsz2.symm⟩
  case body =>
   rintro l a₁ W ⟨N,hN,rfl,hB,q0,q1,q3,q4,qN⟩
   have n0:W.cell? ⟨N,0,none⟩=some (.bool (puU x u r s h)):=by simp[World.cell?,qN]
   have n1:W.cell? ⟨N,1,none⟩=some (.bool x):=by simp[World.cell?,qN]
   have n2:W.cell? ⟨N,2,none⟩=some (.int .i64 (puS x r s)):=by simp[World.cell?,qN]
   have m0:W.cell? ⟨w.heap.size,0,none⟩=some (.bool u):=by simp[World.cell?,q0]
   have m1:W.cell? ⟨w.heap.size,1,none⟩=some (.bool r):=by simp[World.cell?,q0]
   have m2:W.cell? ⟨w.heap.size,2,none⟩=some (.int .i64 s):=by simp[World.cell?,q0]
   have f0:W.frozen? ⟨w.heap.size,0,none⟩=false:=by simp[World.frozen?,q0]
   have f1:W.frozen? ⟨w.heap.size,1,none⟩=false:=by simp[World.frozen?,q0]
   have f2:W.frozen? ⟨w.heap.size,2,none⟩=false:=by simp[World.frozen?,q0]
   have k4:W.cell? ⟨w.heap.size+1+1+1+1,0,none⟩=some (.slice (some ⟨w.heap.size+1+1+1,0,none⟩) 0 1):=by simp[World.cell?,q4]
   have f4:W.frozen? ⟨w.heap.size+1+1+1+1,0,none⟩=false:=by simp[World.frozen?,q4]
   obtain⟨V,hV⟩:∃V,(((W.setCell ⟨w.heap.size,0,none⟩ (.bool (puU x u r s h))).setCell ⟨w.heap.size,1,none⟩ (.bool x)).setCell ⟨w.heap.size,2,none⟩ (.int .i64 (puS x r s)))=V:=⟨_,rfl⟩
   have hVs:V.heap.size=W.heap.size:=by rw[←hV];simp
   have hVk:∀k,k≠w.heap.size→V.heap[k]?=W.heap[k]?:=fun k hk=>by rw[←hV,heap_setCell_other _ _ _ _ hk,heap_setCell_other _ _ _ _ hk,heap_setCell_other _ _ _ _ hk]
   have A3:(V.alloc (.cells #[.bool (puU x u r s h)] 4)).heap[w.heap.size+1+1+1]?=some (.cells #[.bool false] 4 (0,0)):=BK ((hVk _ (by omega)).trans q3)
   have ac:(V.alloc (.cells #[.bool (puU x u r s h)] 4)).cell? ⟨w.heap.size+1+1+1,0,none⟩=some (.bool false):=by simp only[World.cell?,A3];rfl
   have af:(V.alloc (.cells #[.bool (puU x u r s h)] 4)).frozen? ⟨w.heap.size+1+1+1,0,none⟩=false:=by simp only[World.frozen?,A3];rfl
   obtain⟨U,hU⟩:∃U,(V.alloc (.cells #[.bool (puU x u r s h)] 4)).setCell ⟨w.heap.size+1+1+1,0,none⟩ (.bool (puU x u r s h))=U:=⟨_,rfl⟩
   have hUs:U.heap.size=W.heap.size+1:=by rw[←hU,World.size_setCell,World.size_alloc,hVs]
   have hWN:N<W.heap.size:=(Array.getElem?_eq_some_iff.1 qN).1
   have hUk:∀k,k<W.heap.size→k≠w.heap.size→k≠w.heap.size+1+1+1→U.heap[k]?=W.heap[k]?:=fun k hk h1 h2=>by
    rw[←hU,heap_setCell_other _ _ _ _ h2,Below.heap_alloc _ _ _ (by omega),hVk k h1]
   have U4:=(hUk _ (by omega) (by omega) (by omega)).trans q4
   have uc:U.cell? ⟨w.heap.size+1+1+1+1,0,none⟩=some (.slice (some ⟨w.heap.size+1+1+1,0,none⟩) 0 1):=by simp[World.cell?,U4]
   have uf:U.frozen? ⟨w.heap.size+1+1+1+1,0,none⟩=false:=by simp[World.frozen?,U4]
   have vN:=(hVk _ (by omega)).trans qN
   have v4:=(hVk _ (by omega)).trans q4
   have vn:V.cell? ⟨N,0,none⟩=some (.bool (puU x u r s h)):=by simp[World.cell?,vN]
   have vc:V.cell? ⟨w.heap.size+1+1+1+1,0,none⟩=some (.slice (some ⟨w.heap.size+1+1+1,0,none⟩) 0 1):=by simp[World.cell?,v4]
   have V0:V.heap[w.heap.size]?=some (.cells #[.bool (puU x u r s h),.bool x,.int .i64 (puS x r s)] 212 (0,0)):=by
    rw[←hV]
    exact heap_setCell_same _ _ 2 _ _ _ (heap_setCell_same _ _ 1 _ _ _ (heap_setCell_same _ _ 0 _ _ _ q0))
   have U0:U.heap[w.heap.size]?=some (.cells #[.bool (puU x u r s h),.bool x,.int .i64 (puS x r s)] 212 (0,0)):=by
    rw[←hU,heap_setCell_other _ _ _ _ (by show w.heap.size≠w.heap.size+1+1+1;omega)]
    exact BK V0
   have hKU:KeepsOthers W U:=by
    rw[←hU,←hV]
    exact ((((KeepsOthers.setCell _ _ _).trans (KeepsOthers.setCell _ _ _)).trans (KeepsOthers.setCell _ _ _)).trans (KeepsOthers.alloc _ _)).trans (KeepsOthers.setCell _ _ _)
   have hBU:Below w.heap.size w U:=by
    rw[←hU,←hV]
    exact ((((hB.setCell (Nat.le_refl _) _).setCell (Nat.le_refl _) _).setCell (Nat.le_refl _) _).alloc (by simp only[World.size_setCell];omega) _).setCell (by show w.heap.size≤w.heap.size+1+1+1;omega) _
   gi_wp2
   refine ⟨hKU.trans (KeepsOthers.setCell _ _ _),hBU.setCell (by show w.heap.size≤w.heap.size+1+1+1+1;omega) _,?_,?_,heap_setCell_same _ _ 0 _ _ _ U4⟩
   ·rw[heap_setCell_other _ _ _ _ (by show w.heap.size≠w.heap.size+1+1+1+1;omega)];exact U0
   ·rw[heap_setCell_other _ _ _ _ (by show w.heap.size+1≠w.heap.size+1+1+1+1;omega)];exact (hUk _ (by omega) (by omega) (by omega)).trans q1
  case done =>
   rintro D W hD ⟨hB,q0,q1,q4⟩ hdf
   have p0:W.cell? ⟨w.heap.size,0,none⟩=some (.bool (puU x u r s h)):=by simp[World.cell?,q0]
   have p1:W.cell? ⟨w.heap.size,1,none⟩=some (.bool x):=by simp[World.cell?,q0]
   have p2:W.cell? ⟨w.heap.size,2,none⟩=some (.int .i64 (puS x r s)):=by simp[World.cell?,q0]
   have r0:W.cell? ⟨w.heap.size+1,0,none⟩=some (.bool false):=by simp[World.cell?,q1]
   have r1:W.cell? ⟨w.heap.size+1,1,none⟩=some (.bool false):=by simp[World.cell?,q1]
   have r2:W.cell? ⟨w.heap.size+1,2,none⟩=some (.int .i64 0):=by simp[World.cell?,q1]
   have g0:W.frozen? ⟨w.heap.size+1,0,none⟩=false:=by simp[World.frozen?,q1]
   have g1:W.frozen? ⟨w.heap.size+1,1,none⟩=false:=by simp[World.frozen?,q1]
   have g2:W.frozen? ⟨w.heap.size+1,2,none⟩=false:=by simp[World.frozen?,q1]
   have k4:W.cell? ⟨w.heap.size+1+1+1+1,0,none⟩=some (.slice (some ⟨w.heap.size+1+1+1,0,none⟩) 1 1):=by simp[World.cell?,q4]
   have hmx:Tryz.prog.follows .mixedOrders=true:=by kernel_rfl
   gi_wp2
   gi_region
   gi_wp2
   have E:=heap_setCell_same _ _ 2 _ _ (.int .i64 (puS x r s)) (heap_setCell_same _ _ 1 _ _ (.bool x) (heap_setCell_same _ _ 0 _ _ (.bool (puU x u r s h)) q1))
   obtain⟨Z,hZ⟩:∃Z,(((W.setCell ⟨w.heap.size+1,0,none⟩ (.bool (puU x u r s h))).setCell ⟨w.heap.size+1,1,none⟩ (.bool x)).setCell ⟨w.heap.size+1,2,none⟩ (.int .i64 (puS x r s)))=Z:=⟨_,rfl⟩
   rw[hZ] at E
   have hne:∀i,D≠(⟨w.heap.size+1,i,none⟩:Addr).block:=fun i=>by show D≠w.heap.size+1;omega
   have hDf:Z.heap[D]?=some (.deferred (some [])):=by
    rw[←hZ,heap_setCell_other _ _ _ _ (hne 2),heap_setCell_other _ _ _ _ (hne 1),heap_setCell_other _ _ _ _ (hne 0)];exact hdf
   have hBZ:Below w.heap.size w Z:=by
    rw[←hZ]
    exact ((hB.setCell (by show w.heap.size≤w.heap.size+1;omega) _).setCell (by show w.heap.size≤w.heap.size+1;omega) _).setCell (by show w.heap.size≤w.heap.size+1;omega) _
   try rw[hZ]
   refine ⟨by simp,.inl ⟨D,Z.drew.putObj D (.deferred none),rfl,run_takeDeferred (w:=Z.drew) hDf,?_⟩⟩
   exact fin (Z.drew.putObj D (.deferred none)) _ _ (hBZ.drew.trans (TE (by omega))) rfl rfl rfl (Dx (W:=Z.drew) E (by omega))
 ·gi_wp2
  have c0:∀(W:World),W.heap[w.heap.size+1]?=some (.cells #[.bool false,.bool false,.int .i64 0] 212 (0,0))→W.cell? ⟨w.heap.size+1,0,none⟩=some (.bool false)∧W.cell? ⟨w.heap.size+1,1,none⟩=some (.bool false)∧W.cell? ⟨w.heap.size+1,2,none⟩=some (.int .i64 0):=fun W h1=>by simp[World.cell?,h1]
  obtain⟨k0,k1,k2⟩:=c0 (((w.alloc (.cells #[.bool u,.bool r,.int .i64 s] 212)).alloc (.cells #[.bool false,.bool false,.int .i64 0] 212)).alloc (.cells #[.bool u,.bool r,.int .i64 s] 212)) (BK (I1 (by simp only[World.size_alloc])))
  refine ⟨_,?_,⟨.slice none 0 0,rfl⟩,(((Below.refl _ w).alloc (Nat.le_refl _) _).alloc (by simp) _).alloc (by simp;omega) _⟩
  rw[if_neg hz]
  simp[results,Tryz.f165,go_sem,k0,k1,k2]
def Jr (x u r:Bool) (s h:Int):Bool×Bool×Int:=if puE s h=0 then (puU x u r s h,x,puS x r s) else (false,false,0)
set_option maxRecDepth 100000 in
set_option maxHeartbeats 4000000 in
theorem Ago (x u r:Bool) (s h:Int) (w:World) :
 CallsIn Fence.wide 5 Tryz.prog 122 #[.agg #[.bool u,.bool r,.int .i64 s],.bool x,.int .i64 h] w fun e W'=>e=.returned (.tuple #[.agg #[.bool (Jr x u r s h).1,.bool (Jr x u r s h).2.1,.int .i64 (Jr x u r s h).2.2],.int .i64 (puE s h)])∧Below w.heap.size w W':=by
 refine callsIn_of_wp_marks Tryz.func122 rfl trivial ?_ rfl
 simp only[Tryz.ntmps122,List.size_toArray,List.length_cons,List.length_nil,Nat.reduceAdd,Nat.reduceSub,Array.replicate_succ,Array.replicate_zero,List.push_toArray,List.append_toArray,List.nil_append,List.cons_append]
 gi_wp2
 obtain⟨W0,hW0⟩:∃W0,((w.alloc (.cells #[.bool u,.bool r,.int .i64 s] 212)).alloc (.cells #[.bool false,.bool false,.int .i64 0] 212)).alloc (.cells #[.bool x] 4)=W0:=⟨_,rfl⟩
 have hs0:W0.heap.size=w.heap.size+3:=by rw[←hW0];simp
 have hB0:Below w.heap.size w W0:=by rw[←hW0];exact (((Below.refl _ w).alloc (Nat.le_refl _) _).alloc (by simp) _).alloc (by simp;omega) _
 have q0:W0.heap[w.heap.size]?=some (.cells #[.bool u,.bool r,.int .i64 s] 212 (0,0)):=by rw[←hW0];exact BK (BK (I1 rfl))
 have q1:W0.heap[w.heap.size+1]?=some (.cells #[.bool false,.bool false,.int .i64 0] 212 (0,0)):=by rw[←hW0];exact BK (I1 (by simp only[World.size_alloc]))
 have q2:W0.heap[w.heap.size+1+1]?=some (.cells #[.bool x] 4 (0,0)):=by rw[←hW0];exact I1 (by simp only[World.size_alloc])
 have c2:W0.cell? ⟨w.heap.size+1+1,0,none⟩=some (.bool x):=by simp[World.cell?,q2]
 try rw[hW0]
 clear hW0
 refine ⟨trivial,(Aho x u r s h (w.heap.size+1+1) 0 1 W0 (by omega) c2).mono ?_⟩
 rintro e W1 ⟨⟨sv,rfl⟩,hB1⟩
 have hag:(if puE s h=0 then #[.bool (puU x u r s h),.bool x,.int .i64 (puS x r s)] else #[.bool false,.bool false,.int .i64 0])=(#[.bool (Jr x u r s h).1,.bool (Jr x u r s h).2.1,.int .i64 (Jr x u r s h).2.2]:Array Value):=by unfold Jr;split<;>rfl
 rw[hag]
 clear hag
 generalize hv:Jr x u r s h=v
 obtain⟨v1,v2,v3⟩:=v
 have p0:=(hB1.block _ (show w.heap.size<W0.heap.size by omega)).trans q0
 have p1:=(hB1.block _ (show w.heap.size+1<W0.heap.size by omega)).trans q1
 have hsz:=hB1.size
 have hB:Below w.heap.size w W1:=hB0.trans (hB1.mono (by omega))
 have m0:W1.cell? ⟨w.heap.size,0,none⟩=some (.bool u):=by simp[World.cell?,p0]
 have m1:W1.cell? ⟨w.heap.size,1,none⟩=some (.bool r):=by simp[World.cell?,p0]
 have m2:W1.cell? ⟨w.heap.size,2,none⟩=some (.int .i64 s):=by simp[World.cell?,p0]
 have f0:W1.frozen? ⟨w.heap.size,0,none⟩=false:=by simp[World.frozen?,p0]
 have f1:W1.frozen? ⟨w.heap.size,1,none⟩=false:=by simp[World.frozen?,p0]
 have f2:W1.frozen? ⟨w.heap.size,2,none⟩=false:=by simp[World.frozen?,p0]
 obtain⟨V,hV⟩:∃V,((W1.setCell ⟨w.heap.size,0,none⟩ (.bool v1)).setCell ⟨w.heap.size,1,none⟩ (.bool v2)).setCell ⟨w.heap.size,2,none⟩ (.int .i64 v3)=V:=⟨_,rfl⟩
 have V0:V.heap[w.heap.size]?=some (.cells #[.bool v1,.bool v2,.int .i64 v3] 212 (0,0)):=by
  rw[←hV];exact heap_setCell_same _ _ 2 _ _ _ (heap_setCell_same _ _ 1 _ _ _ (heap_setCell_same _ _ 0 _ _ _ p0))
 have V1:V.heap[w.heap.size+1]?=some (.cells #[.bool false,.bool false,.int .i64 0] 212 (0,0)):=by
  rw[←hV,heap_setCell_other _ _ _ _ (by show w.heap.size+1≠w.heap.size;omega),heap_setCell_other _ _ _ _ (by show w.heap.size+1≠w.heap.size;omega),heap_setCell_other _ _ _ _ (by show w.heap.size+1≠w.heap.size;omega)];exact p1
 have hBV:Below w.heap.size w V:=by
  rw[←hV];exact ((hB.setCell (Nat.le_refl _) _).setCell (Nat.le_refl _) _).setCell (Nat.le_refl _) _
 have n0:V.cell? ⟨w.heap.size,0,none⟩=some (.bool v1):=by simp[World.cell?,V0]
 have n1:V.cell? ⟨w.heap.size,1,none⟩=some (.bool v2):=by simp[World.cell?,V0]
 have n2:V.cell? ⟨w.heap.size,2,none⟩=some (.int .i64 v3):=by simp[World.cell?,V0]
 have k0:V.cell? ⟨w.heap.size+1,0,none⟩=some (.bool false):=by simp[World.cell?,V1]
 have k1:V.cell? ⟨w.heap.size+1,1,none⟩=some (.bool false):=by simp[World.cell?,V1]
 have k2:V.cell? ⟨w.heap.size+1,2,none⟩=some (.int .i64 0):=by simp[World.cell?,V1]
 have g0:V.frozen? ⟨w.heap.size+1,0,none⟩=false:=by simp[World.frozen?,V1]
 have g1:V.frozen? ⟨w.heap.size+1,1,none⟩=false:=by simp[World.frozen?,V1]
 have g2:V.frozen? ⟨w.heap.size+1,2,none⟩=false:=by simp[World.frozen?,V1]
 gi_wp2
 have E:=heap_setCell_same _ _ 2 _ _ (.int .i64 v3) (heap_setCell_same _ _ 1 _ _ (.bool v2) (heap_setCell_same _ _ 0 _ _ (.bool v1) V1))
 obtain⟨Z,hZ⟩:∃Z,((V.setCell ⟨w.heap.size+1,0,none⟩ (.bool v1)).setCell ⟨w.heap.size+1,1,none⟩ (.bool v2)).setCell ⟨w.heap.size+1,2,none⟩ (.int .i64 v3)=Z:=⟨_,rfl⟩
 have hBZ:Below w.heap.size w Z:=by
  rw[←hZ]
  exact ((hBV.setCell (by show w.heap.size≤w.heap.size+1;omega) _).setCell (by show w.heap.size≤w.heap.size+1;omega) _).setCell (by show w.heap.size≤w.heap.size+1;omega) _
 rw[hZ] at E ⊢
 have z0:Z.cell? ⟨w.heap.size+1,0,none⟩=some (.bool v1):=by simp[World.cell?,E]
 have z1:Z.cell? ⟨w.heap.size+1,1,none⟩=some (.bool v2):=by simp[World.cell?,E]
 have z2:Z.cell? ⟨w.heap.size+1,2,none⟩=some (.int .i64 v3):=by simp[World.cell?,E]
 refine ⟨.tuple #[.agg #[.bool v1,.bool v2,.int .i64 v3],.int .i64 (puE s h)],?_,by rw[hv],hBZ⟩
 simp[results,Tryz.f122,go_sem,z0,z1,z2]
theorem AeS (x u r:Bool) (s h:Int):B4 ((u,(r,s)),(x,h))=(Jr x u r s h,puE s h):=by
 unfold B4 Jr puE puU puS
 simp only
 by_cases c1:s<0∨1048576<s
 ·rw[if_pos c1,if_pos c1,if_neg (by decide)]
 ·rw[if_neg c1,if_neg c1]
  by_cases c2:h<1∨1048576<h
  ·rw[if_pos c2,if_pos c2,if_neg (by decide)]
  ·rw[if_neg c2,if_neg c2,if_pos rfl,DB]
theorem AeR (w:World) (F:Nat→Prop) (vals:List Value) (u r x:Bool) (s h:Int) (hr:Ce w F [Kr,Bo,I64] ((u,(r,s)),(x,h)) vals) :
 Calls Tryz.prog 122 vals.toArray w fun e w'=>∃rs,e=.returned (Db rs)∧Below w.heap.size w w'∧Gv w.heap.size w' F false [Kr,I64] (B4 ((u,(r,s)),(x,h))) rs:=by
 obtain⟨us,vs,h1,rfl,us2,vs2,h2,rfl,us3,h3,rfl⟩:=hr
 obtain⟨rfl,hh⟩:=(show us3=[.int .i64 h]∧inR .i64 h=true from h3)
 obtain rfl:=(show us2=[.bool x] from h2)
 obtain⟨a1,a2,rfl,e1,b1,b2,rfl,e2,e3⟩:=h1
 obtain rfl:=(show a1=[.bool u] from e1)
 obtain rfl:=(show b1=[.bool r] from e2)
 obtain⟨rfl,hs⟩:=(show b2=[.int .i64 s]∧inR .i64 s=true from e3)
 refine (callsIn_wide.1 (Ago x u r s h w)).mono ?_
 rintro e w' ⟨rfl,hB⟩
 rw[AeS]
 have hE:inR .i64 (puE s h)=true:=by
  unfold puE
  split
  ·rfl
  ·split<;>rfl
 have hS:inR .i64 (Jr x u r s h).2.2=true:=by
  unfold Jr
  split
  ·rename_i c
   have hs2:¬(s<0∨1048576<s):=fun hh=>by unfold puE at c;rw[if_pos hh] at c;cases c
   have:0≤puS x r s∧puS x r s≤1048576:=by unfold puS;split<;>omega
   unfold inR
   simp only[Bool.and_eq_true,decide_eq_true_eq]
   show (-9223372036854775808:Int)≤puS x r s∧puS x r s≤9223372036854775807
   omega
  ·rfl
 exact ⟨[.agg #[.bool (Jr x u r s h).1,.bool (Jr x u r s h).2.1,.int .i64 (Jr x u r s h).2.2],.int .i64 (puE s h)],rfl,hB,[.bool (Jr x u r s h).1,.bool (Jr x u r s h).2.1,.int .i64 (Jr x u r s h).2.2],_,⟨[.bool _],_,rfl,rfl,[.bool _],_,rfl,rfl,rfl,hS⟩,rfl,[.int .i64 (puE s h)],⟨rfl,hE⟩,rfl⟩
theorem pC:Ap Tryz.prog V 122 (spT [Kr,Bo,I64] [Kr,I64] B4) where
 enters:=enters_of Tryz.func122 (by kernel_rfl) rfl
 tot:=fun g hg x=>by cases hg;rfl
 calls:=fun w F vals x y _ _ hr hy=>by
  cases hy
  exact AeR w F vals x.1.1 x.1.2.1 x.2.1 x.1.2.2 x.2.2 hr
end
theorem uJ:AllMeet Tryz.prog V W6:=.nil
theorem W7:Ap Tryz.prog V 166 (spT [Eo] [I64] EN):=AZ uJ stays AB (hs:={}) (Av Tryz.func166 (by kernel_rfl) (by kernel_rfl) (by kernel_rfl)) false fun x=>(uH x).trans (uI x)
theorem AaD:AllMeet Tryz.prog V Zu:=(.cons W7 .nil)
theorem AaE:Ap Tryz.prog V 123 (spT [Eo,Bo] [Eo,I64] G5):=AZ AaD stays AB (hs:={}) (Av Tryz.func123 (by kernel_rfl) (by kernel_rfl) (by kernel_rfl)) false fun x=>(AaB x).trans (AaC x)
theorem Acx:AllMeet Tryz.prog V fH:=.nil
theorem Acy:Ap Tryz.prog V 204 (spT [Ep] [Bo] FI):=AZ Acx stays AB (hs:={}) (Av Tryz.func204 (by kernel_rfl) (by kernel_rfl) (by kernel_rfl)) false fun x=>(Acv x).trans (Acw x)
theorem uG:AllMeet Tryz.prog V W4:=(.cons CG (.cons Acy .nil))
theorem W5:Ap Tryz.prog V 167 (spP [Ai,CN] [I64] GG):=Ao uG stays AB (hs:={loops:=[(0,[.slot 21 I64])]}) (Av Tryz.func167 (by kernel_rfl) (by kernel_rfl) (by kernel_rfl)) false uF
theorem TK:AllMeet Tryz.prog V MY:=.nil
theorem TL:Ap Tryz.prog V 205 (spT [U64] [I64] FG):=RY (Ao TK stays AB (hs:={}) (Av Tryz.func205 (by kernel_rfl) (by kernel_rfl) (by kernel_rfl)) false TI) TJ
theorem Aat:AllMeet Tryz.prog V Zq:=(.cons TL .nil)
theorem Aau:Ap Tryz.prog V 168 (spP [Ai,I64,Ep,Bo] [Ep] J0):=Ao Aat stays AB (hs:={}) (Av Tryz.func168 (by kernel_rfl) (by kernel_rfl) (by kernel_rfl)) false Aas
theorem Acs:AllMeet Tryz.prog V fG:=(.cons W5 (.cons Si (.cons Aau .nil)))
theorem Acu:Ap Tryz.prog V 124 (spP [Ai,CN,U32] [CN,I64] K1 true):=Ao Acs stays AB (hs:={loops:=[(0,[.slot 23 I64,.arr 20 Ep])]}) (Av Tryz.func124 (by kernel_rfl) (by kernel_rfl) (by kernel_rfl)) true Acr
theorem sP:AllMeet Tryz.prog V VU:=.nil
theorem VV:Ap Tryz.prog V 90 (spP [Ai,I64,I64] [Bo] F9):=Ao sP stays AB (hs:={}) (Av Tryz.func90 (by kernel_rfl) (by kernel_rfl) (by kernel_rfl)) false sO
theorem xX:AllMeet Tryz.prog V XZ:=(.cons VV .nil)
theorem xY:Ap Tryz.prog V 44 (spP [Ai,A9,I64] [Bo] Jn):=Ao xX stays AB (hs:={loops:=[(0,[.slot 12 I64])]}) (Av Tryz.func44 (by kernel_rfl) (by kernel_rfl) (by kernel_rfl)) false xW
theorem xS:AllMeet Tryz.prog V XX:=(.cons xY (.cons CG .nil))
theorem xR:AllOK Tryz.prog XW:=(.cons (Av Tryz.func42 (by kernel_rfl) (by kernel_rfl) (by kernel_rfl)) (.cons (Av Tryz.func43 (by kernel_rfl) (by kernel_rfl) (by kernel_rfl)) .nil))
theorem KB:Ap Tryz.prog V 20 (spP [Ai,A9,I64] [Bo,I64] Ck):=Dw xS stays AB xR (hs:={joins:=[(2,[])],outs:=[(2,[(8,I64)])]}) (Av Tryz.func20 (by kernel_rfl) (by kernel_rfl) (by kernel_rfl)) false 3 xQ
theorem wI:AllMeet Tryz.prog V Xx:=(.cons Sk .nil)
theorem wJ:Ap Tryz.prog V 173 (spT [U32,I64] [U32] Fv):=AZ wI stays AB (hs:={}) (Av Tryz.func173 (by kernel_rfl) (by kernel_rfl) (by kernel_rfl)) false fun x=>(wG x).trans (wH x)
theorem cF:AllMeet Tryz.prog V QG:=.nil
theorem cG:Ap Tryz.prog V 174 (spT [Ep] [Bo] H4):=AZ cF stays AB (hs:={}) (Av Tryz.func174 (by kernel_rfl) (by kernel_rfl) (by kernel_rfl)) false fun x=>(cD x).trans (cE x)
theorem Aar:AllMeet Tryz.prog V Zo:=(.cons W5 (.cons wJ (.cons cG .nil)))
theorem Zp:Ap Tryz.prog V 128 (spP [Ai,CN] [Bo,I64] Hz):=Ao Aar stays AB (hs:={loops:=[(0,[.slot 7 U32,.slot 8 U32,.slot 20 I64])]}) (Av Tryz.func128 (by kernel_rfl) (by kernel_rfl) (by kernel_rfl)) false Aaq
theorem uD:AllMeet Tryz.prog V WZ:=.nil
theorem uE:Ap Tryz.prog V 206 (spT [Ep] [Bo] IC):=AZ uD stays AB (hs:={}) (Av Tryz.func206 (by kernel_rfl) (by kernel_rfl) (by kernel_rfl)) false fun x=>(uB x).trans (uC x)
theorem tV:AllMeet Tryz.prog V WV:=(.cons Zp (.cons uE .nil))
theorem tW:Ap Tryz.prog V 169 (spP [Ai,CN] [U32,I64] Jb):=Ao tV stays AB (hs:={loops:=[(0,[.slot 4 U32,.slot 24 I64]),(2,[.slot 4 U32,.slot 38 I64])]}) (Av Tryz.func169 (by kernel_rfl) (by kernel_rfl) (by kernel_rfl)) false tU
theorem lK:AllMeet Tryz.prog V TP:=.nil
theorem lL:Ap Tryz.prog V 170 (spP [Ai,U32,I64] [I64] H0):=Ao lK stays AB (hs:={}) (Av Tryz.func170 (by kernel_rfl) (by kernel_rfl) (by kernel_rfl)) false lJ
theorem tT:AllMeet Tryz.prog V WT:=(.cons tW (.cons lL (.cons MD .nil)))
theorem WU:Ap Tryz.prog V 125 (spP [Ai,U32,CN,I64] [U32,I64] E0):=Ao tT stays AB (hs:={}) (Av Tryz.func125 (by kernel_rfl) (by kernel_rfl) (by kernel_rfl)) false tS
theorem WH:AllMeet Tryz.prog V NK:=(.cons iL (.cons bZ (.cons pC (.cons AaE (.cons Acu (.cons KB (.cons WU .nil)))))))
theorem WJ:AllMeetP Tryz.prog V NL:=.nil
theorem WI:C2 Tryz.prog V 70 (spP [A6] [A6] Fm):=DD (hs:={loops:=[(0,[.slot 42 I64,.slot 2 U32,.fbox 0 A6 [29,31]])]}) WH WJ AB AllOK.nil (Av Tryz.func70 (by kernel_rfl) (by kernel_rfl) (by kernel_rfl)) 1 WG
theorem bX:AllMeet Tryz.prog V Qv:=(.cons CG .nil)
theorem Qw:Ap Tryz.prog V 171 (spP [Ai,I64] [I64] EK):=Ao bX stays AB (hs:={}) (Av Tryz.func171 (by kernel_rfl) (by kernel_rfl) (by kernel_rfl)) false bW
theorem iA:AllMeet Tryz.prog V SE:=.nil
theorem iB:Ap Tryz.prog V 207 (spP [Ai,U8s] [I64] Hh):=Ao iA stays AB (hs:={loops:=[(0,[.slot 15 I64])]}) (Av Tryz.func207 (by kernel_rfl) (by kernel_rfl) (by kernel_rfl)) false hX
theorem kZ:AllMeet Tryz.prog V TD:=(.cons iB .nil)
theorem k7:Ap Tryz.prog V 172 (spP [Ai,U8s,U8s] [Bo,I64] HY):=Ao kZ stays AB (hs:={loops:=[(0,[.slot 19 I64]),(2,[.slot 40 I64])]}) (Av Tryz.func172 (by kernel_rfl) (by kernel_rfl) (by kernel_rfl)) false kY
theorem tO:AllMeet Tryz.prog V WS:=(.cons Qw (.cons k7 .nil))
theorem tP:Ap Tryz.prog V 126 (spP [Ai,I64,U8s,U8s] [I64,I64] Ja):=Ao tO stays AB (hs:={}) (Av Tryz.func126 (by kernel_rfl) (by kernel_rfl) (by kernel_rfl)) false tN
theorem bU:AllMeet Tryz.prog V Qu:=(.cons Qw .nil)
theorem bV:Ap Tryz.prog V 127 (spP [Ai,I64] [Bo,I64] GP):=Ao bU stays AB (hs:={}) (Av Tryz.func127 (by kernel_rfl) (by kernel_rfl) (by kernel_rfl)) false bT
theorem oG:AllMeet Tryz.prog V UK:=.nil
theorem UL:Ap Tryz.prog V 107 (spT [Cc] [Bo] DO):=AZ oG stays AB (hs:={}) (Av Tryz.func107 (by kernel_rfl) (by kernel_rfl) (by kernel_rfl)) false fun x=>(oE x).trans (oF x)
theorem S7:AllMeet Tryz.prog V LX:=(.cons tP (.cons LF (.cons bV (.cons O7 (.cons Zp (.cons UL .nil))))))
theorem S9:AllMeetP Tryz.prog V LY:=.nil
theorem S8:C2 Tryz.prog V 71 (spP [A6] [A6,HV,HT] Eu):=DD (hs:={loops:=[(0,[.own 4 U8,.slot 21 I64])],joins:=[(10,[.slot 7 I64])]}) S7 S9 AB AllOK.nil (Av Tryz.func71 (by kernel_rfl) (by kernel_rfl) (by kernel_rfl)) 1 S6
theorem cS:AllMeet Tryz.prog V QJ:=(.cons CG .nil)
theorem cT:Ap Tryz.prog V 129 (spP [Ai,EW] [I64] GV):=Ao cS stays AB (hs:={}) (Av Tryz.func129 (by kernel_rfl) (by kernel_rfl) (by kernel_rfl)) false cR
theorem nD:AllMeet Tryz.prog V Ui:=.nil
theorem nE:Ap Tryz.prog V 175 (spT [EW,HV] [U8] Bx):=AZ nD stays AB (hs:={}) (Av Tryz.func175 (by kernel_rfl) (by kernel_rfl) (by kernel_rfl)) false fun x=>(nB x).trans (nC x)
theorem iY:AllMeet Tryz.prog V SO:=(.cons nE .nil)
theorem iZ:Ap Tryz.prog V 130 (spT [Ai,EW,HV] [EW] CJ):=AZ iY stays AB (hs:={}) (Av Tryz.func130 (by kernel_rfl) (by kernel_rfl) (by kernel_rfl)) false fun x=>(iW x).trans (iX x)
theorem iV:AllMeet Tryz.prog V SM:=(.cons cT (.cons iZ .nil))
theorem SN:Ap Tryz.prog V 72 (spP [Ai,EW,HV] [EW,I64] Fs):=Ao iV stays AB (hs:={}) (Av Tryz.func72 (by kernel_rfl) (by kernel_rfl) (by kernel_rfl)) false iU
theorem AaH:AllMeet Tryz.prog V Zv:=(.cons W7 .nil)
theorem Zw:Ap Tryz.prog V 160 (spT [Eo,I64] [Bo,I64] JK):=AZ AaH stays AB (hs:={}) (Av Tryz.func160 (by kernel_rfl) (by kernel_rfl) (by kernel_rfl)) false fun x=>(AaF x).trans (AaG x)
theorem Uz:AllMeet Tryz.prog V M8:=(.cons Zw .nil)
theorem UB:AllMeetP Tryz.prog V M9:=.nil
theorem UA:C2 Tryz.prog V 132 (spP [A6] [U32] ET true):=Xp (hs:={loops:=[(0,[.slot 3 U32,.slot 17 I64]),(2,[.slot 6 Bo,.slot 28 I64])]}) Uz UB stays AB AllOK.nil (Av Tryz.func132 (by kernel_rfl) (by kernel_rfl) (by kernel_rfl)) 1 Uy
theorem qW:AllMeet Tryz.prog V Vl:=.nil
theorem qX:Ap Tryz.prog V 176 (spP [Ai,U32] [U32] Il):=Ao qW stays AB (hs:={loops:=[(0,[.slot 5 U32,.slot 11 I64])]}) (Av Tryz.func176 (by kernel_rfl) (by kernel_rfl) (by kernel_rfl)) false qV
theorem qT:AllMeet Tryz.prog V Vk:=(.cons PY .nil)
theorem qU:Ap Tryz.prog V 177 (spP [U32,I64,I64] [I64] Ik):=Ao qT stays AB (hs:={}) (Av Tryz.func177 (by kernel_rfl) (by kernel_rfl) (by kernel_rfl)) false qS
theorem xU:AllMeet Tryz.prog V XY:=(.cons VV .nil)
theorem xV:Ap Tryz.prog V 179 (spP [Ai,I64] [U8s] Jm):=Ao xU stays AB (hs:={loops:=[(0,[.slot 13 I64,.arr 10 U8])]}) (Av Tryz.func179 (by kernel_rfl) (by kernel_rfl) (by kernel_rfl)) false xT
theorem xP:AllMeet Tryz.prog V XU:=(.cons xV (.cons CG .nil))
theorem xO:AllOK Tryz.prog XT:=(.cons (Av Tryz.func42 (by kernel_rfl) (by kernel_rfl) (by kernel_rfl)) (.cons (Av Tryz.func178 (by kernel_rfl) (by kernel_rfl) (by kernel_rfl)) .nil))
theorem XV:Ap Tryz.prog V 133 (spP [Ai,I64] [U8s,I64] DF):=Dw xP stays AB xO (hs:={joins:=[(2,[])],outs:=[(2,[(6,I64)])]}) (Av Tryz.func133 (by kernel_rfl) (by kernel_rfl) (by kernel_rfl)) false 3 xN
theorem Abv:AllMeet Tryz.prog V aE:=(.cons CG (.cons KB (.cons qX (.cons qU (.cons XV .nil)))))
theorem Abw:Ap Tryz.prog V 131 (spP [Ai,X4,A9,U32,U32] [X4,U8s,I64] Ke):=Ao Abv stays AB (hs:={}) (Av Tryz.func131 (by kernel_rfl) (by kernel_rfl) (by kernel_rfl)) false Abu
attribute [local go_sem] Oper.semAt_some
attribute [local go_sem] Oper.semAt_some
abbrev PQ (L:Nat):Type:={k:Nat // k<L}
def HX (L k:Nat):List (PQ L):=(List.range k).filterMap fun j=>if h:j<L then some ⟨j,h⟩ else none
theorem Lo {L k:Nat} (h:k<L):HX L (k+1)=HX L k++[⟨k,h⟩]:=by
 unfold HX
 rw[List.range_succ,List.filterMap_append]
 simp[h]
theorem Mh {L:Nat}:∀k:Nat,k≤L→(HX L k).length=k
 |0,_=>rfl
 |k+1,h=>by rw[Lo (by omega),List.length_append,Mh k (by omega)];rfl
theorem WR {L k:Nat} (j:PQ L) (h:j.1<k):j∈HX L k:=by
 unfold HX
 rw[List.mem_filterMap]
 exact ⟨j.1,by simpa using h,by simp[j.2]⟩
theorem Ws (n:Int):wr .i64 n=wrap64 n:=by unfold wr wrap64;rw[IntKind.wrap_i64]
theorem TB (zs:List Int) (k:Nat):CQ zs (k+1)=wrap64 (CQ zs k+(zs[k]?).getD 0):=Ws _
set_option maxRecDepth 100000 in
set_option maxHeartbeats 4000000 in
theorem Ab8 (F:Fence) (n:Nat) (h8:F.fn 88) (hro:F.round=none) (hn:1≤n) (l Bs n₀ b off len cap:Nat) (c0 o0:Int) (zs:List Int) (hreach:len≤1000000) (hb:b<n₀) (J Jx:List (PQ len)→World→Prop)
 (hY:∀pre x W,J pre W→pre.length<len→YieldAt F (n-1) Tryz.prog l #[.int .i64 (x.1:Int),.int .i64 (CQ zs (x.1+1))] W fun e W' =>
   (e=.returned (.bool true)∧J (pre++[x]) W'∧Below n₀ W W')∨(e=.returned (.bool false)∧Jx (pre++[x]) W'))
 (W:World) (hBs:W.heap[Bs]?=some (.cells #[.int .i64 c0,.int .i64 o0,.slice (some ⟨b,off,none⟩) len cap] 49 (0,0))) (hc:∀j,j<len→W.cell? ⟨b,off+j,none⟩=some (.int .i64 (zs[j]?.getD 0))) (h0:J [] W) :
 CallsIn F n Tryz.prog 88 #[.func (.yield l) #[] #[],.pointer (some ⟨Bs,0,none⟩)] W fun e W'=>(∃v,e=.returned v) ∧
  ((∃ys,ys=HX len len∧J ys W')∨(∃pre,(∃k,k≤len∧pre=HX len k)∧Jx pre W')):=by
 have hs2:W.cell? ⟨Bs,2,none⟩=some (.slice (some ⟨b,off,none⟩) len cap):=by simp[World.cell?,hBs]
 refine callsIn_of_wp Tryz.func88 rfl h8 ?_ hro
 simp only[Tryz.ntmps88,List.size_toArray,List.length_cons,List.length_nil,Nat.reduceAdd,Nat.reduceSub,Array.replicate_succ,Array.replicate_zero,List.push_toArray,List.append_toArray,List.nil_append,List.cons_append]
 gi_wp2
 gi_loopw [3,9] (fun e i wr=>∃k:Nat,k≤len∧e=.int .i64 (CQ zs k)∧i=.int .i64 k∧J (HX len k) wr∧Below n₀ W wr)
  (fun _ i _=>len-(intOf i).toNat)
 case atStart=>exact ⟨0,Nat.zero_le _,rfl,rfl,h0,Below.refl _ _⟩
 case round =>
  obtain⟨k,hk,rfl,rfl,hJs,hnx⟩:=hrel
  have hcx:k<len→wr.cell? ⟨b,off+k,none⟩=some (.int .i64 (zs[k]?.getD 0)):=fun h=>(hnx.cell (p:=⟨b,off+k,none⟩) hb).trans (hc k h)
  by_cases hlt:k<len
  ·obtain⟨fn,tmps,assign,body,hy,hR⟩:=hY _ ⟨k,hlt⟩ wr hJs (by rw[Mh _ hk];exact hlt)
   simp only[TB] at hy
   have hcx':=hcx hlt
   gi_wp2
   refine hR.mono ?_
   rintro e W3 (⟨rfl,hJ3,hk3⟩|⟨rfl,hJx3⟩)
   ·gi_wp2
    go_roundw
    case rel=>exact ⟨k+1,by omega,by rw[TB],by simp,by rw[Lo hlt];exact hJ3,hnx.trans hk3⟩
    case measure=>simp[intOf];omega
   ·gi_wp2
    refine bodyPost_ret (results_none rfl _ _ _) rfl ?_
    exact ⟨⟨_,rfl⟩,.inr ⟨_,⟨k+1,by omega,(Lo hlt).symm⟩,hJx3⟩⟩
  ·obtain rfl:k=len:=by omega
   gi_wp2
   go_end0
   exact ⟨⟨_,rfl⟩,.inl ⟨_,rfl,hJs⟩⟩
set_option maxRecDepth 100000 in
set_option maxHeartbeats 1000000 in
theorem gZ (F:Fence) (n:Nat) (h8:F.fn 88) (hro:F.round=none) (l Bs:Nat) (c0 o0:Int) (ad:Option Addr) (cap:Nat) {L:Nat} (J:List (PQ L)→World→Prop) (W:World) (hBs:W.heap[Bs]?=some (.cells #[.int .i64 c0,.int .i64 o0,.slice ad 0 cap] 49 (0,0))) (h0:J [] W) :
 CallsIn F n Tryz.prog 88 #[.func (.yield l) #[] #[],.pointer (some ⟨Bs,0,none⟩)] W fun e W'=>(∃v,e=.returned v)∧J [] W':=by
 have hs2:W.cell? ⟨Bs,2,none⟩=some (.slice ad 0 cap):=by simp[World.cell?,hBs]
 refine callsIn_of_wp Tryz.func88 rfl h8 ?_ hro
 simp only[Tryz.ntmps88,List.size_toArray,List.length_cons,List.length_nil,Nat.reduceAdd,Nat.reduceSub,Array.replicate_succ,Array.replicate_zero,List.push_toArray,List.append_toArray,List.nil_append,List.cons_append]
 gi_wp2
 gi_loopw [9] (fun i wr=>i=.int .i64 0∧J [] wr) (fun _ _=>0)
 case atStart=>exact ⟨rfl,h0⟩
 case round =>
  obtain⟨rfl,hJs⟩:=hrel
  gi_wp2
  go_end0
  exact ⟨⟨_,rfl⟩,hJs⟩
set_option maxHeartbeats 1000000 in
theorem Aec (F:Fence) (n:Nat) (h5:F.fn 39) (hro:F.round=none) (c0 o0:Int) (sv:Value) (w:World) :
 CallsIn F n Tryz.prog 39 #[.agg #[.int .i64 c0,.int .i64 o0,sv]] w fun e w'=>e=.returned (.func (.func 88) #[] #[.pointer (some ⟨w.heap.size,0,none⟩)])∧w'=w.alloc (.cells #[.int .i64 c0,.int .i64 o0,sv] 49):=by
 refine callsIn_of_wp Tryz.func39 rfl h5 ?_ hro
 simp only[Tryz.ntmps39,List.size_toArray,List.length_cons,List.length_nil,Nat.reduceAdd,Nat.reduceSub,Array.replicate_succ,Array.replicate_zero,List.push_toArray,List.append_toArray,List.nil_append,List.cons_append]
 gi_wp2
 go_ret
 exact ⟨rfl,rfl⟩
def AtInts (n₀:Nat) (W:World) (sv:Value) (zs:List Int):Prop :=
 (∃ad cap,sv=.slice ad 0 cap∧zs=[])∨∃b off cap,sv=.slice (some ⟨b,off,none⟩) zs.length cap∧b<n₀∧∀j,j<zs.length→W.cell? ⟨b,off+j,none⟩=some (.int .i64 (zs[j]?.getD 0))
theorem AtInts.below {n₀:Nat} {A B:World} (h:Below n₀ A B) {sv:Value} {zs:List Int}:AtInts n₀ A sv zs→AtInts n₀ B sv zs
 |.inl e=>.inl e
 |.inr ⟨b,off,cap,e,hb,hc⟩=>.inr ⟨b,off,cap,e,hb,fun j hj=>(h.cell (p:=⟨b,off+j,none⟩) hb).trans (hc j hj)⟩
theorem Aed (F:Fence) (n:Nat) (h8:F.fn 88) (hro:F.round=none) (hn:1≤n) (Bs n₀:Nat) (c0 o0:Int) (sv:Value) (zs:List Int) (hreach:zs.length≤1000000) (w:World) (hn₀:n₀≤w.heap.size)
 (hc:w.heap[Bs]?=some (.cells #[.int .i64 c0,.int .i64 o0,sv] 49 (0,0))) (hI:AtInts n₀ w sv zs) :
 SeqStopsK F n Tryz.prog 88 #[.pointer (some ⟨Bs,0,none⟩)] (fun x:PQ zs.length=>#[Value.int .i64 (x.1:Int),Value.int .i64 (CQ zs (x.1+1))]) (Below n₀) (fun ys=>ys=HX zs.length zs.length) (fun pre=>∃k,k≤zs.length∧pre=HX zs.length k) zs.length w:=fun l J Jx W hW _ _ hY h0=>by
 have hc':W.heap[Bs]?=some (.cells #[.int .i64 c0,.int .i64 o0,sv] 49 (0,0)):=by rw[hW.block Bs ((Array.getElem?_eq_some_iff.1 hc).1)];exact hc
 rcases hI.below (hW.mono hn₀) with ⟨ad,cap,rfl,rfl⟩|⟨b,off,cap,rfl,hb,hcs⟩
 ·exact (gZ F n h8 hro l Bs c0 o0 ad cap J W hc' h0).mono fun e W' ⟨he,hj⟩=>⟨he,.inl ⟨_,rfl,hj⟩⟩
 ·refine (Ab8 F n h8 hro hn l Bs n₀ b off zs.length cap c0 o0 zs hreach hb J Jx hY W hc' hcs h0).mono ?_
  rintro e W' ⟨he,⟨ys,rfl,hj⟩|⟨pre,⟨k,hk,rfl⟩,hj⟩⟩
  ·exact ⟨he,.inl ⟨_,rfl,hj⟩⟩
  ·exact ⟨he,.inr ⟨_,⟨k,hk,rfl⟩,hj⟩⟩
theorem X1 {F:Fence} {n:Nat} {P:Program} {ops:Array Oper} {Q:Exit→Act→World→Prop} (Inv:Array Bool→Act→World→Prop)
 (hstep:∀L a w i,Inv L a w→i∈Region.ready .any ops L→wpOpIn F n P ops Q i (Inv (L.setIfInBounds i true)) a w)
 (hdone:∀L a w,Inv L a w→Region.ready .any ops L=[]→Q .normal a w) :
 ∀(fuel:Nat) (L:Array Bool) (a:Act) (w:World),Inv L a w→L.toList.countP (fun b=>!b)≤fuel→wpAnyIn F n P .any ops Q fuel L a w
 |0,L,a,w,hI,hc=>by
  have hr:Region.ready .any ops L=[]:=by
   cases hr:Region.ready .any ops L with
   |nil=>rfl
   |cons i r =>
    obtain⟨o,_,h2,_⟩:=ready_iff.1 (show i∈Region.ready .any ops L by rw[hr];simp)
    have hm:false∈L.toList:=by
     obtain⟨hlt,he⟩:=Array.getElem?_eq_some_iff.1 h2
     rw[←he];simp
    have:=List.countP_pos_iff (p:=fun b=>!b) |>.2 ⟨false,hm,rfl⟩
    omega
  exact ⟨hr,hdone L a w hI hr⟩
 |fuel+1,L,a,w,hI,hc=>by
  refine ⟨hdone L a w hI,fun i hi=>?_⟩
  obtain⟨o,_,h2,_⟩:=ready_iff.1 hi
  obtain⟨hlt,he⟩:=Array.getElem?_eq_some_iff.1 h2
  refine wpOpIn_mono (fun a' w' hI'=>X1 Inv hstep hdone fuel _ a' w' hI' ?_) (hstep L a w i hI hi)
  rw[Array.toList_setIfInBounds,List.countP_set (by simpa using hlt)]
  have e2:L.toList[i]'(by simpa using hlt)=false:=by simpa using he
  rw[e2]
  have hm:false∈L.toList:=by rw[←e2];exact List.getElem_mem _
  have:=List.countP_pos_iff (p:=fun b=>!b) |>.2 ⟨false,hm,rfl⟩
  simp only[Bool.not_false,if_true,Bool.not_true,Bool.false_eq_true,if_false]
  omega
theorem zN {ops:Array Oper} {L:Array Bool} (hr:Region.ready .any ops L=[]) (hsz:L.size=ops.size) (hback:Mi 0 ops.toList=true):∀i,i<ops.size→L[i]?=some true:=by
 intro i
 induction i using Nat.strongRecOn with
 |_ i ih =>
  intro hi
  have hlt:i<L.size:=by omega
  cases hv:L[i]'hlt with
  |true=>rw[Array.getElem?_eq_getElem hlt,hv]
  |false =>
   exfalso
   have hm:i∈Region.ready .any ops L:=ready_iff.2 ⟨ops[i],by simp[hi],by rw[Array.getElem?_eq_getElem hlt,hv],fun e he hb=>by
    have hlt2:=Oi hback i ops[i] (by simp[hi]) e he hb
    rw[Nat.zero_add] at hlt2
    exact ih e.on hlt2 (by omega)⟩
   rw[hr] at hm;cases hm
def IJ (pp b off cap n k:Nat) (en pl z:Int):Nat→Value
 |0=>.int .i64 k
 |1=>.int .i64 pl
 |2=>.int .i64 en
 |3=>.int .i64 (wrap64 (pl-en))
 |4=>.pointer (some ⟨pp,2,none⟩)
 |5=>.slice (some ⟨b,off,none⟩) n cap
 |6=>.int .i64 k
 |7=>.pointer (some ⟨b,off+k,none⟩)
 |8=>.int .i64 z
 |_=>.int .i64 (wrap64 (wrap64 (pl-en)+z))
structure AtReg (H:Nat) (w0:World) (ip jp ep cp pp b off cap n k:Nat) (en pl z:Int) (V0:World) (L:Array Bool) (a:Act) (U:World):Prop where
 others:KeepsOthers V0 U
 size:L.size=13
 len:a.tmps.size=58
 t4:a.tmps.getD 4 undef=.pointer (some ⟨pp,0,none⟩)
 t6:a.tmps.getD 6 undef=.pointer (some ⟨ip,0,none⟩)
 t7:a.tmps.getD 7 undef=.pointer (some ⟨jp,0,none⟩)
 t8:a.tmps.getD 8 undef=.pointer (some ⟨ep,0,none⟩)
 t10:a.tmps.getD 10 undef=.pointer (some ⟨cp,0,none⟩)
 t11:a.tmps.getD 11 undef=.int .i64 k
 t12:a.tmps.getD 12 undef=.int .i64 en
 v:∀j,j<10→L[j]?=some true→a.tmps.getD (48+j) undef=IJ pp b off cap n k en pl z j
 cpl:U.cell? ⟨cp,0,none⟩=some (.int .i64 pl)
 csl:U.cell? ⟨pp,2,none⟩=some (.slice (some ⟨b,off,none⟩) n cap)
 cz:U.cell? ⟨b,off+k,none⟩=some (.int .i64 z)
 fi:U.frozen? ⟨ip,0,none⟩=false
 fj:U.frozen? ⟨jp,0,none⟩=false
 fe:U.frozen? ⟨ep,0,none⟩=false
 ci:(U.cell? ⟨ip,0,none⟩).isSome=true
 cj:(U.cell? ⟨jp,0,none⟩).isSome=true
 ce:(U.cell? ⟨ep,0,none⟩).isSome=true
 di:L[10]?=some true→U.cell? ⟨ip,0,none⟩=some (.int .i64 k)
 dj:L[11]?=some true→U.cell? ⟨jp,0,none⟩=some (.int .i64 (wrap64 (wrap64 (pl-en)+z)))
 de:L[12]?=some true→U.cell? ⟨ep,0,none⟩=some (.int .i64 0)
 below:Below H w0 U
section
variable {H:Nat} {w0:World} {ip jp ep cp pp b off cap n k:Nat} {en pl z:Int} {V0:World} {L:Array Bool} {a:Act} {U:World} {l m:Nat} {P:Program} {ops:Array Oper} {Q:Exit→Act→World→Prop}
theorem JL {a:Act} {s t:Nat} {v:Value} (hs:s<a.tmps.size):(a.put (some s) v).tmps.getD t undef=if t=s then v else a.tmps.getD t undef:=by
 simp only[Act.put,Array.getD_eq_getD_getElem?,Array.getElem?_setIfInBounds]
 by_cases h:s=t
 ·subst h;simp[hs]
 ·have:¬t=s:=fun e=>h e.symm
  simp[h,this]
theorem AtReg.put (h:AtReg H w0 ip jp ep cp pp b off cap n k en pl z V0 L a U) {i:Nat} (hi:i<10):AtReg H w0 ip jp ep cp pp b off cap n k en pl z V0 (L.setIfInBounds i true) (a.put (some (48+i)) (IJ pp b off cap n k en pl z i)) U:=by
 have hs:48+i<a.tmps.size:=by rw[h.len];omega
 have hL:∀j,j≠i→(L.setIfInBounds i true)[j]?=L[j]?:=fun j hj=>by
  rw[Array.getElem?_setIfInBounds]
  simp[Ne.symm hj]
 refine ⟨h.others,by simp[h.size],by simp[Act.put,h.len],?_,?_,?_,?_,?_,?_,?_,?_,h.cpl,h.csl,h.cz,h.fi,h.fj,h.fe,h.ci,h.cj,h.ce,?_,?_,?_,h.below⟩
 ·rw[JL hs,if_neg (by omega)];exact h.t4
 ·rw[JL hs,if_neg (by omega)];exact h.t6
 ·rw[JL hs,if_neg (by omega)];exact h.t7
 ·rw[JL hs,if_neg (by omega)];exact h.t8
 ·rw[JL hs,if_neg (by omega)];exact h.t10
 ·rw[JL hs,if_neg (by omega)];exact h.t11
 ·rw[JL hs,if_neg (by omega)];exact h.t12
 ·intro j hj hl
  rw[JL hs]
  by_cases e:j=i
  ·rw[if_pos (by omega),e]
  ·rw[if_neg (by omega)]
   exact h.v j hj (by rw[←hL j e];exact hl)
 ·rw[hL 10 (by omega)];exact h.di
 ·rw[hL 11 (by omega)];exact h.dj
 ·rw[hL 12 (by omega)];exact h.de
theorem Ks (h:AtReg H w0 ip jp ep cp pp b off cap n k en pl z V0 L a U) {i:Nat} {o:Oper} (ho:ops[i]?=some o) (hg:o.guard=none) (hnd:∀c,o.op≠.defer c) (hab:∀w ρ,o.about P w ρ=none) (hi:i<10) (hdst:o.dst=some (48+i))
 (hrun:(execOp a.eval o).run P U=.ok (.value (IJ pp b off cap n k en pl z i)) U):wpOpIn (Fence.wide.inRound l) m P ops Q i (AtReg H w0 ip jp ep cp pp b off cap n k en pl z V0 (L.setIfInBounds i true)) a U:=by
 refine wpOpIn_step ho fun K' hK=>?_
 rw[if_pos (by simp[Region.wanted,hg])]
 refine ⟨fun f hf=>(by rw[hab] at hf;cases hf),?_⟩
 rw[Fence.inRound_round,Oper.semAt_some _ _ _ hnd,hrun,Oper.uponIn_value,hdst]
 exact hK _ _ (h.put hi)
theorem bS {i:Nat} {o:Oper} {U':World} (ho:ops[i]?=some o) (hg:o.guard=none) (hnd:∀c,o.op≠.defer c) (hab:∀w ρ,o.about P w ρ=none) (hdst:o.dst=none)
 (hrun:(execOp a.eval o).run P U=.ok .skip U') (h:AtReg H w0 ip jp ep cp pp b off cap n k en pl z V0 (L.setIfInBounds i true) a U'):wpOpIn (Fence.wide.inRound l) m P ops Q i (AtReg H w0 ip jp ep cp pp b off cap n k en pl z V0 (L.setIfInBounds i true)) a U:=by
 refine wpOpIn_step ho fun K' hK=>?_
 rw[if_pos (by simp[Region.wanted,hg])]
 refine ⟨fun f hf=>(by rw[hab] at hf;cases hf),?_⟩
 rw[Fence.inRound_round,Oper.semAt_some _ _ _ hnd,hrun,Oper.uponIn_skip,hdst]
 exact hK _ _ h
theorem AtReg.mark (h:AtReg H w0 ip jp ep cp pp b off cap n k en pl z V0 L a U) {i:Nat} (hi:10≤i) {c:Nat} {v:Value} (hc:(i=10∧c=ip∧v=.int .i64 k)∨(i=11∧c=jp∧v=.int .i64 (wrap64 (wrap64 (pl-en)+z)))∨(i=12∧c=ep∧v=.int .i64 0))
 (hd:ip≠jp∧ip≠ep∧jp≠ep∧(cp≠ip∧cp≠jp∧cp≠ep)∧(pp≠ip∧pp≠jp∧pp≠ep)∧b≠ip∧b≠jp∧b≠ep) (hH:H≤ip∧H≤jp∧H≤ep) :
 AtReg H w0 ip jp ep cp pp b off cap n k en pl z V0 (L.setIfInBounds i true) a (U.setCell ⟨c,0,none⟩ v):=by
 have hL:∀j,j≠i→(L.setIfInBounds i true)[j]?=L[j]?:=fun j hj=>by
  rw[Array.getElem?_setIfInBounds]
  simp[Ne.symm hj]
 have hcH:H≤c:=by omega
 have hne:∀q o,q≠c→(U.setCell ⟨c,0,none⟩ v).cell? ⟨q,o,none⟩=U.cell? ⟨q,o,none⟩:=fun q o hq=>World.cell?_setCell_far _ _ _ _ (fun e=>hq e.symm)
 have hfz:∀q,(U.setCell ⟨c,0,none⟩ v).frozen? ⟨q,0,none⟩=U.frozen? ⟨q,0,none⟩:=fun q=>World.frozen?_setCell _ _ _ _
 have hsame:(U.cell? ⟨c,0,none⟩).isSome=true→(U.setCell ⟨c,0,none⟩ v).cell? ⟨c,0,none⟩=some v:=fun hs=>World.cell?_setCell_same' _ _ _ hs
 have hbel:Below H w0 (U.setCell ⟨c,0,none⟩ v):=h.below.setCell hcH v
 obtain⟨d1,d2,d3,⟨d4,d5,d6⟩,⟨d7,d8,d9⟩,d10,d11,d12⟩:=hd
 have some_of:∀q,(U.cell? ⟨q,0,none⟩).isSome=true→((U.setCell ⟨c,0,none⟩ v).cell? ⟨q,0,none⟩).isSome=true:=fun q hq=>by
  by_cases e:q=c
  ·subst e;rw[hsame hq];rfl
  ·rw[hne q 0 e];exact hq
 refine ⟨h.others.trans (KeepsOthers.setCell _ _ _),by simp[h.size],h.len,h.t4,h.t6,h.t7,h.t8,h.t10,h.t11,h.t12,fun j hj hl=>h.v j hj (by rw[←hL j (by omega)];exact hl),?_,?_,?_,by rw[hfz];exact h.fi,by rw[hfz];exact h.fj,by rw[hfz];exact h.fe,some_of _ h.ci,some_of _ h.cj,some_of _ h.ce,?_,?_,?_,hbel⟩
 ·rw[hne _ _ (by omega)];exact h.cpl
 ·rw[hne _ _ (by omega)];exact h.csl
 ·rw[hne _ _ (by omega)];exact h.cz
 ·intro hl
  rcases hc with ⟨rfl,rfl,rfl⟩|⟨rfl,rfl,rfl⟩|⟨rfl,rfl,rfl⟩
  ·exact hsame h.ci
  ·rw[hne _ _ (by omega)];exact h.di (by rw[←hL 10 (by omega)];exact hl)
  ·rw[hne _ _ (by omega)];exact h.di (by rw[←hL 10 (by omega)];exact hl)
 ·intro hl
  rcases hc with ⟨rfl,rfl,rfl⟩|⟨rfl,rfl,rfl⟩|⟨rfl,rfl,rfl⟩
  ·rw[hne _ _ (by omega)];exact h.dj (by rw[←hL 11 (by omega)];exact hl)
  ·exact hsame h.cj
  ·rw[hne _ _ (by omega)];exact h.dj (by rw[←hL 11 (by omega)];exact hl)
 ·intro hl
  rcases hc with ⟨rfl,rfl,rfl⟩|⟨rfl,rfl,rfl⟩|⟨rfl,rfl,rfl⟩
  ·rw[hne _ _ (by omega)];exact h.de (by rw[←hL 12 (by omega)];exact hl)
  ·rw[hne _ _ (by omega)];exact h.de (by rw[←hL 12 (by omega)];exact hl)
  ·exact hsame h.ce
end
def AtI (H:Nat) (w0:World) (pp ip jp ep cp:Nat) (sv:Value) (pl:Int) (zs:List Int) (pre:List (PQ zs.length)) (W:World):Prop :=
 ((∀k∈pre,¬pl<CQ zs (k.1+1))∧W.cell? ⟨pp,2,none⟩=some sv∧W.cell? ⟨ip,0,none⟩=some (.int .i64 0)∧W.frozen? ⟨ip,0,none⟩=false ∧
   W.cell? ⟨jp,0,none⟩=some (.int .i64 0)∧W.frozen? ⟨jp,0,none⟩=false∧W.cell? ⟨ep,0,none⟩=some (.int .i64 0)∧W.frozen? ⟨ep,0,none⟩=false∧W.cell? ⟨cp,0,none⟩=some (.int .i64 pl))∧Below H w0 W
def AtX (H:Nat) (w0:World) (ip jp ep:Nat) (pl:Int) (zs:List Int) (c:Code) (pre:List (PQ zs.length)) (W:World):Prop :=
 (c=.ret∧∃(pre':List (PQ zs.length)) (k:PQ zs.length),pre=pre'++[k]∧(∀j∈pre',¬pl<CQ zs (j.1+1))∧pl<CQ zs (k.1+1)∧W.cell? ⟨ip,0,none⟩=some (.int .i64 (k.1:Int)) ∧
   W.cell? ⟨jp,0,none⟩=some (.int .i64 (wrap64 (wrap64 (pl-CQ zs (k.1+1))+(zs[k.1]?).getD 0)))∧W.cell? ⟨ep,0,none⟩=some (.int .i64 0))∧Below H w0 W
theorem WQ {l:List Int} {pl:Int}:∀(n k j:Nat),k≤j→j<k+n→(∀i,k≤i→i<j→¬pl<CQ l (i+1))→pl<CQ l (j+1)→Jt l pl n k=((j:Int),(wr .i64 (wr .i64 (pl-CQ l (j+1))+(l[j]?).getD 0),0))
 |0,k,j,h1,h2,_,_=>by omega
 |n+1,k,j,h1,h2,hno,hy=>by
  rw[Jt]
  by_cases e:k=j
  ·subst e;rw[if_pos hy]
  ·rw[if_neg (hno k (Nat.le_refl _) (by omega))]
   exact WQ n (k+1) j (by omega) (by omega) (fun i hi hj=>hno i (by omega) hj) hy
theorem Y4 {l:List Int} {pl:Int}:∀(n k:Nat),(∀i,k≤i→i<k+n→¬pl<CQ l (i+1))→Jt l pl n k=(0,(0,170))
 |0,k,_=>rfl
 |n+1,k,hno=>by
  rw[Jt,if_neg (hno k (Nat.le_refl _) (by omega))]
  exact Y4 n (k+1) (fun i hi hj=>hno i (by omega) (by omega))
def Gp (zs:List Int) (cy of tk er:Int) (is:Bool):Int×Int×Int :=
 if er≠0 then (0,(0,er)) else if is=false then (0,(0,170)) else if tk<0∨1073741824<tk then (0,(0,2)) else Jt zs ((wrap64 (wrap64 (tk+cy)-of)).tmod cy) zs.length 0
theorem Qt {H:Nat} {w0 W:World} {ip jp ep:Nat} {x y z:Int} (hB:Below H w0 W) (hH:H≤ip∧H≤jp∧H≤ep) (hd:ip≠jp∧ip≠ep∧jp≠ep) (ci:(W.cell? ⟨ip,0,none⟩).isSome=true) (cj:(W.cell? ⟨jp,0,none⟩).isSome=true) (ce:(W.cell? ⟨ep,0,none⟩).isSome=true) :
 Below H w0 (((W.setCell ⟨ip,0,none⟩ (.int .i64 x)).setCell ⟨jp,0,none⟩ (.int .i64 y)).setCell ⟨ep,0,none⟩ (.int .i64 z)) ∧
 (((W.setCell ⟨ip,0,none⟩ (.int .i64 x)).setCell ⟨jp,0,none⟩ (.int .i64 y)).setCell ⟨ep,0,none⟩ (.int .i64 z)).cell? ⟨ip,0,none⟩=some (.int .i64 x) ∧
 (((W.setCell ⟨ip,0,none⟩ (.int .i64 x)).setCell ⟨jp,0,none⟩ (.int .i64 y)).setCell ⟨ep,0,none⟩ (.int .i64 z)).cell? ⟨jp,0,none⟩=some (.int .i64 y) ∧
 (((W.setCell ⟨ip,0,none⟩ (.int .i64 x)).setCell ⟨jp,0,none⟩ (.int .i64 y)).setCell ⟨ep,0,none⟩ (.int .i64 z)).cell? ⟨ep,0,none⟩=some (.int .i64 z):=by
 obtain⟨d1,d2,d3⟩:=hd
 have f:∀(U:World) (p q:Nat) (v:Value),p≠q→(U.setCell ⟨p,0,none⟩ v).cell? ⟨q,0,none⟩=U.cell? ⟨q,0,none⟩:=fun U p q v h=>World.cell?_setCell_far _ _ _ _ h
 have s:∀(U:World) (p:Nat) (v:Value),(U.cell? ⟨p,0,none⟩).isSome=true→(U.setCell ⟨p,0,none⟩ v).cell? ⟨p,0,none⟩=some v:=fun U p v h=>World.cell?_setCell_same' _ _ _ h
 refine ⟨((hB.setCell hH.1 _).setCell hH.2.1 _).setCell hH.2.2 _,?_,?_,?_⟩
 ·rw[f _ _ _ _ (Ne.symm d2),f _ _ _ _ (Ne.symm d1),s _ _ _ ci]
 ·rw[f _ _ _ _ (Ne.symm d3),s]
  rw[f _ _ _ _ d1];exact cj
 ·rw[s]
  rw[f _ _ _ _ d3,f _ _ _ _ d2];exact ce
theorem zT {W:World} {D q:Nat} {v:Value} {ds:Option (List Deferred)} (hdf:W.heap[D]?=some (.deferred ds)) (hq:W.cell? ⟨q,0,none⟩=some v) (e:D=q):False:=by
 subst e
 simp[World.cell?,hdf] at hq
def y9 (zs:List Int) (cy of tk er:Int) (is:Bool) (e:Ending):Prop:=inR .i64 er=true∧∃x y z:Int,(x,(y,z))=Gp zs cy of tk er is∧e=.returned (.tuple #[.int .i64 x,.int .i64 y,.int .i64 z])
set_option maxRecDepth 100000 in
set_option maxHeartbeats 8000000 in
theorem AfE (w:World) (c1 c2 c3 c4 c5 c6 c7 c8 c9 c10 c11 c12:Value) (cy of tk er:Int) (is:Bool) (sv:Value) (zs:List Int)
 (hI:AtInts w.heap.size w sv zs)
 (hP:∀W,Below w.heap.size w W→CallsIn Fence.wide 3 Tryz.prog 14 #[.agg #[c1,c2,c3,c4,c5,c6,c7,c8,c9,c10,c11,c12],.agg #[.int .i64 cy,.int .i64 of,sv]] W fun e W'=>e=.returned (.tuple #[.bool is,.int .i64 er])∧Below W.heap.size W W'∧inR .i64 er=true) (hgo:er=0→is=true→0≤tk→tk≤1073741824→cy≠0∧zs.length≤1000000) :
 CallsIn Fence.wide 4 Tryz.prog 18 #[.agg #[c1,c2,c3,c4,c5,c6,c7,c8,c9,c10,c11,c12],.agg #[.int .i64 cy,.int .i64 of,sv],.int .i64 tk] w fun e W'=>y9 zs cy of tk er is e∧Below w.heap.size w W':=by
 refine callsIn_of_wp_marks Tryz.func18 rfl trivial ?_ rfl
 simp only[Tryz.ntmps18,List.size_toArray,List.length_cons,List.length_nil,Nat.reduceAdd,Nat.reduceSub,Array.replicate_succ,Array.replicate_zero,List.push_toArray,List.append_toArray,List.nil_append,List.cons_append]
 gi_wp2
 obtain⟨W0,hW0⟩:∃W0,(((((w.alloc (.cells #[c1,c2,c3,c4,c5,c6,c7,c8,c9,c10,c11,c12] 29)).alloc (.cells #[.int .i64 cy,.int .i64 of,sv] 49)).alloc (.cells #[.int .i64 0] 3)).alloc (.cells #[.int .i64 0] 3)).alloc (.cells #[.int .i64 0] 55))=W0:=⟨_,rfl⟩
 have hs0:W0.heap.size=w.heap.size+5:=by rw[←hW0];simp
 have hbw:Below w.heap.size w W0:=by
  rw[←hW0]
  exact ((((((Below.refl _ w).alloc (Nat.le_refl _) _).alloc (by simp) _).alloc (by simp;omega) _).alloc (by simp;omega) _).alloc (by simp;omega) _)
 have hbox:W0.heap[w.heap.size+1]?=some (.cells #[.int .i64 cy,.int .i64 of,sv] 49 (0,0))∧W0.heap[w.heap.size+1+1]?=some (.cells #[.int .i64 0] 3 (0,0))∧W0.heap[w.heap.size+1+1+1]?=some (.cells #[.int .i64 0] 3 (0,0))∧W0.heap[w.heap.size+1+1+1+1]?=some (.cells #[.int .i64 0] 55 (0,0)):=by
  rw[←hW0]
  refine ⟨?_,?_,?_,?_⟩
  ·refine (Below.heap_alloc _ _ _ (by simp)).trans ((Below.heap_alloc _ _ _ (by simp)).trans ((Below.heap_alloc _ _ _ (by simp)).trans ?_))
   have:=World.alloc_heap_new (w.alloc (.cells #[c1,c2,c3,c4,c5,c6,c7,c8,c9,c10,c11,c12] 29)) (.cells #[.int .i64 cy,.int .i64 of,sv] 49)
   rwa [World.size_alloc] at this
  ·refine (Below.heap_alloc _ _ _ (by simp)).trans ((Below.heap_alloc _ _ _ (by simp)).trans ?_)
   have:=World.alloc_heap_new ((w.alloc (.cells #[c1,c2,c3,c4,c5,c6,c7,c8,c9,c10,c11,c12] 29)).alloc (.cells #[.int .i64 cy,.int .i64 of,sv] 49)) (.cells #[.int .i64 0] 3)
   rwa [World.size_alloc,World.size_alloc] at this
  ·refine (Below.heap_alloc _ _ _ (by simp)).trans ?_
   have:=World.alloc_heap_new (((w.alloc (.cells #[c1,c2,c3,c4,c5,c6,c7,c8,c9,c10,c11,c12] 29)).alloc (.cells #[.int .i64 cy,.int .i64 of,sv] 49)).alloc (.cells #[.int .i64 0] 3)) (.cells #[.int .i64 0] 3)
   rwa [World.size_alloc,World.size_alloc,World.size_alloc] at this
  ·have:=World.alloc_heap_new ((((w.alloc (.cells #[c1,c2,c3,c4,c5,c6,c7,c8,c9,c10,c11,c12] 29)).alloc (.cells #[.int .i64 cy,.int .i64 of,sv] 49)).alloc (.cells #[.int .i64 0] 3)).alloc (.cells #[.int .i64 0] 3)) (.cells #[.int .i64 0] 55)
   rwa [World.size_alloc,World.size_alloc,World.size_alloc,World.size_alloc] at this
 rw[hW0]
 refine ⟨trivial,(hP W0 hbw).mono ?_⟩
 rintro e W1 ⟨rfl,hB1,her⟩
 obtain⟨q1,q2,q3,q4⟩:=hbox
 have r1:=(hB1.block _ (show w.heap.size+1<W0.heap.size by omega)).trans q1
 have r2:=(hB1.block _ (show w.heap.size+1+1<W0.heap.size by omega)).trans q2
 have r3:=(hB1.block _ (show w.heap.size+1+1+1<W0.heap.size by omega)).trans q3
 have r4:=(hB1.block _ (show w.heap.size+1+1+1+1<W0.heap.size by omega)).trans q4
 have hsz:=hB1.size
 have hbw1:Below w.heap.size w W1:=hbw.trans (hB1.mono (by omega))
 have hI1:=hI.below hbw1
 have hI0:=hI
 clear hP q1 q2 q3 q4 hB1 hbw hI
 have m10:W1.cell? ⟨w.heap.size+1,0,none⟩=some (.int .i64 cy):=by simp[World.cell?,r1]
 have m11:W1.cell? ⟨w.heap.size+1,1,none⟩=some (.int .i64 of):=by simp[World.cell?,r1]
 have m12:W1.cell? ⟨w.heap.size+1,2,none⟩=some sv:=by simp[World.cell?,r1]
 have m2:W1.cell? ⟨w.heap.size+1+1,0,none⟩=some (.int .i64 0):=by simp[World.cell?,r2]
 have m3:W1.cell? ⟨w.heap.size+1+1+1,0,none⟩=some (.int .i64 0):=by simp[World.cell?,r3]
 have m4:W1.cell? ⟨w.heap.size+1+1+1+1,0,none⟩=some (.int .i64 0):=by simp[World.cell?,r4]
 have f2:W1.frozen? ⟨w.heap.size+1+1,0,none⟩=false:=by simp[World.frozen?,r2]
 have f3:W1.frozen? ⟨w.heap.size+1+1+1,0,none⟩=false:=by simp[World.frozen?,r3]
 have f4:W1.frozen? ⟨w.heap.size+1+1+1+1,0,none⟩=false:=by simp[World.frozen?,r4]
 have fin:∀(W:World) (x y z:Int) (tm:Array Value),Below w.heap.size w W→tm[6]?=some (.pointer (some ⟨w.heap.size+1+1,0,none⟩))→tm[7]?=some (.pointer (some ⟨w.heap.size+1+1+1,0,none⟩))→tm[8]?=some (.pointer (some ⟨w.heap.size+1+1+1+1,0,none⟩)) →
  W.cell? ⟨w.heap.size+1+1,0,none⟩=some (.int .i64 x)→W.cell? ⟨w.heap.size+1+1+1,0,none⟩=some (.int .i64 y)→W.cell? ⟨w.heap.size+1+1+1+1,0,none⟩=some (.int .i64 z)→(x,(y,z))=Gp zs cy of tk er is →
  ∃v,(results Tryz.f18 tm).run Tryz.prog W=.ok v W∧y9 zs cy of tk er is (.returned v)∧Below w.heap.size w W:=fun W x y z tm hB t6 t7 t8 h1 h2 h3 hr=>by
  refine ⟨_,?_,⟨her,x,y,z,hr,rfl⟩,hB⟩
  simp[results,Tryz.f18,go_sem,t6,t7,t8,h1,h2,h3]
 have fin2:∀(W:World) (x y z:Int) (tm:Array Value) (D:Nat),Below w.heap.size w W→tm[6]?=some (.pointer (some ⟨w.heap.size+1+1,0,none⟩))→tm[7]?=some (.pointer (some ⟨w.heap.size+1+1+1,0,none⟩))→tm[8]?=some (.pointer (some ⟨w.heap.size+1+1+1+1,0,none⟩)) →
  W.cell? ⟨w.heap.size+1+1,0,none⟩=some (.int .i64 x)→W.cell? ⟨w.heap.size+1+1+1,0,none⟩=some (.int .i64 y)→W.cell? ⟨w.heap.size+1+1+1+1,0,none⟩=some (.int .i64 z)→w.heap.size≤D→W.heap[D]?=some (.deferred (some []))→(x,(y,z))=Gp zs cy of tk er is →
  LeavesInM Fence.wide 4 Tryz.prog Tryz.f18 tm (fun e W'=>y9 zs cy of tk er is e∧Below w.heap.size w W') [{target:=.collected D,args:=#[]}] .returning W:=fun W x y z tm D hB t6 t7 t8 h1 h2 h3 hD hdf hr=>by
  refine ⟨by simp,.inl ⟨D,W.putObj D (.deferred none),rfl,run_takeDeferred hdf,?_⟩⟩
  have pc:∀q v,W.cell? ⟨q,0,none⟩=some v→(W.putObj D (.deferred none)).cell? ⟨q,0,none⟩=some v:=fun q v hv =>
   (World.cell?_of_block (World.putObj_heap_other (k:=q) (fun e=>zT hdf hv e.symm))).trans hv
  obtain⟨v,r1,r2,r3⟩:=fin (W.putObj D (.deferred none)) x y z tm (hB.trans (belowK_b (n₀:=w.heap.size) (w:=w) (Nat.le_refl _) W D _ _ hD hdf rfl rfl)) t6 t7 t8 (pc _ _ h1) (pc _ _ h2) (pc _ _ h3) hr
  exact ⟨v,r1,r2,r3⟩
 by_cases hz:er=0
 ·subst hz
  cases his:is with
  |false =>
   subst his
   gi_wp2
   have s4:=World.cell?_setCell_same' W1 ⟨w.heap.size+1+1+1+1,0,none⟩ (.int .i64 0) (by rw[m4];rfl)
   obtain⟨b1,b2,b3,b4⟩:=Qt (W:=W1.setCell ⟨w.heap.size+1+1+1+1,0,none⟩ (.int .i64 0)) (x:=0) (y:=0) (z:=170) (hbw1.setCell (by show w.heap.size≤w.heap.size+1+1+1+1;omega) _) (ip:=w.heap.size+1+1) (jp:=w.heap.size+1+1+1) (ep:=w.heap.size+1+1+1+1) (by omega) (by omega)
    (by rw[World.cell?_setCell_far _ _ _ _ (by show w.heap.size+1+1+1+1≠w.heap.size+1+1;omega),m2];rfl) (by rw[World.cell?_setCell_far _ _ _ _ (by show w.heap.size+1+1+1+1≠w.heap.size+1+1+1;omega),m3];rfl) (by rw[s4];rfl)
   exact fin _ 0 0 170 _ b1 rfl rfl rfl b2 b3 b4 rfl
  |true =>
   subst his
   by_cases ht:tk<0
   ·gi_wp2
    have s4:=World.cell?_setCell_same' W1 ⟨w.heap.size+1+1+1+1,0,none⟩ (.int .i64 0) (by rw[m4];rfl)
    obtain⟨b1,b2,b3,b4⟩:=Qt (W:=W1.setCell ⟨w.heap.size+1+1+1+1,0,none⟩ (.int .i64 0)) (x:=0) (y:=0) (z:=2) (hbw1.setCell (by show w.heap.size≤w.heap.size+1+1+1+1;omega) _) (ip:=w.heap.size+1+1) (jp:=w.heap.size+1+1+1) (ep:=w.heap.size+1+1+1+1) (by omega) (by omega)
     (by rw[World.cell?_setCell_far _ _ _ _ (by show w.heap.size+1+1+1+1≠w.heap.size+1+1;omega),m2];rfl) (by rw[World.cell?_setCell_far _ _ _ _ (by show w.heap.size+1+1+1+1≠w.heap.size+1+1+1;omega),m3];rfl) (by rw[s4];rfl)
    exact fin _ 0 0 2 _ b1 rfl rfl rfl b2 b3 b4 (by unfold Gp;rw[if_neg (by simp),if_neg (by simp),if_pos (by omega)])
   ·by_cases ht2:1073741824<tk
    ·gi_wp2
     have s4:=World.cell?_setCell_same' W1 ⟨w.heap.size+1+1+1+1,0,none⟩ (.int .i64 0) (by rw[m4];rfl)
     obtain⟨b1,b2,b3,b4⟩:=Qt (W:=W1.setCell ⟨w.heap.size+1+1+1+1,0,none⟩ (.int .i64 0)) (x:=0) (y:=0) (z:=2) (hbw1.setCell (by show w.heap.size≤w.heap.size+1+1+1+1;omega) _) (ip:=w.heap.size+1+1) (jp:=w.heap.size+1+1+1) (ep:=w.heap.size+1+1+1+1) (by omega) (by omega)
      (by rw[World.cell?_setCell_far _ _ _ _ (by show w.heap.size+1+1+1+1≠w.heap.size+1+1;omega),m2];rfl) (by rw[World.cell?_setCell_far _ _ _ _ (by show w.heap.size+1+1+1+1≠w.heap.size+1+1+1;omega),m3];rfl) (by rw[s4];rfl)
     exact fin _ 0 0 2 _ b1 rfl rfl rfl b2 b3 b4 (by unfold Gp;rw[if_neg (by simp),if_neg (by simp),if_pos (by omega)])
    ·obtain⟨hcy0,hlen⟩:=hgo rfl rfl (by omega) (by omega)
     obtain⟨pl,hpl⟩:∃pl,(wrap64 (wrap64 (tk+cy)-of)).tmod cy=pl:=⟨_,rfl⟩
     obtain⟨W2,hW2⟩:∃W2,(W1.setCell ⟨w.heap.size+1+1+1+1,0,none⟩ (.int .i64 0)).alloc (.cells #[.int .i64 pl] 3)=W2:=⟨_,rfl⟩
     have hA1:w.heap.size+5≤W1.heap.size:=by omega
     have hbS:Below w.heap.size w (W1.setCell ⟨w.heap.size+1+1+1+1,0,none⟩ (.int .i64 0)):=hbw1.setCell (by show w.heap.size≤w.heap.size+1+1+1+1;omega) _
     have hs2:W1.heap.size<W2.heap.size:=by rw[←hW2];simp
     have hb2:Below w.heap.size w W2:=by rw[←hW2];exact hbS.alloc (by simp;omega) _
     have old:∀q o v,q≠w.heap.size+1+1+1+1→q<W1.heap.size→W1.cell? ⟨q,o,none⟩=some v→W2.cell? ⟨q,o,none⟩=some v:=fun q o v hq hlt hv=>by
      rw[←hW2]
      refine ((Below.refl _ _).alloc (Nat.le_refl _) _ |>.cell (p:=⟨q,o,none⟩) (by simpa using hlt)).trans ?_
      rw[World.cell?_setCell_far _ _ _ _ (fun e=>hq e.symm)];exact hv
     have oldf:∀q o,q<W1.heap.size→W2.frozen? ⟨q,o,none⟩=W1.frozen? ⟨q,o,none⟩:=fun q o hlt=>by
      rw[←hW2,←World.frozen?_setCell W1 ⟨w.heap.size+1+1+1+1,0,none⟩ ⟨q,o,none⟩ (.int .i64 0)]
      exact (Below.refl (W1.setCell ⟨w.heap.size+1+1+1+1,0,none⟩ (.int .i64 0)).heap.size _).alloc (Nat.le_refl _) _ |>.frozen (p:=⟨q,o,none⟩) (by simpa using hlt)
     have k10:W2.cell? ⟨w.heap.size+1,0,none⟩=some (.int .i64 cy):=old _ _ _ (by omega) (by omega) m10
     have k11:W2.cell? ⟨w.heap.size+1,1,none⟩=some (.int .i64 of):=old _ _ _ (by omega) (by omega) m11
     have k12:W2.cell? ⟨w.heap.size+1,2,none⟩=some sv:=old _ _ _ (by omega) (by omega) m12
     have k2:W2.cell? ⟨w.heap.size+1+1,0,none⟩=some (.int .i64 0):=old _ _ _ (by omega) (by omega) m2
     have k3:W2.cell? ⟨w.heap.size+1+1+1,0,none⟩=some (.int .i64 0):=old _ _ _ (by omega) (by omega) m3
     have k4:W2.cell? ⟨w.heap.size+1+1+1+1,0,none⟩=some (.int .i64 0):=by
      rw[←hW2]
      refine ((Below.refl _ _).alloc (Nat.le_refl _) _ |>.cell (p:=⟨_,0,none⟩) (by simp;omega)).trans ?_
      exact World.cell?_setCell_same' W1 ⟨w.heap.size+1+1+1+1,0,none⟩ (.int .i64 0) (by rw[m4];rfl)
     have k20:W2.cell? ⟨W1.heap.size,0,none⟩=some (.int .i64 pl):=by
      have:=World.alloc_heap_new (W1.setCell ⟨w.heap.size+1+1+1+1,0,none⟩ (.int .i64 0)) (.cells #[.int .i64 pl] 3)
      rw[hW2,World.size_setCell] at this
      simp[World.cell?,this]
     gi_wp2
     refine ⟨trivial,(Aec Fence.wide 3 trivial rfl cy of sv W2).mono ?_⟩
     rintro e W3 ⟨rfl,rfl⟩
     gi_wp2
     have hA2:w.heap.size≤W2.heap.size:=by omega
     obtain⟨W3,hW3⟩:∃W3,W2.alloc (.cells #[.int .i64 cy,.int .i64 of,sv] 49)=W3:=⟨_,rfl⟩
     have hb3:Below w.heap.size w W3:=by rw[←hW3];exact hb2.alloc hA2 _
     have new:∀q o v,q<W2.heap.size→W2.cell? ⟨q,o,none⟩=some v→W3.cell? ⟨q,o,none⟩=some v:=fun q o v hlt hv=>by
      rw[←hW3]
      exact ((Below.refl _ _).alloc (Nat.le_refl _) _ |>.cell (p:=⟨q,o,none⟩) hlt).trans hv
     have newf:∀q o,q<W2.heap.size→W3.frozen? ⟨q,o,none⟩=W2.frozen? ⟨q,o,none⟩:=fun q o hlt=>by
      rw[←hW3]
      exact (Below.refl _ _).alloc (Nat.le_refl _) _ |>.frozen (p:=⟨q,o,none⟩) hlt
     have p1:W3.cell? ⟨w.heap.size+1,2,none⟩=some sv:=new _ _ _ (by omega) k12
     have p2:W3.cell? ⟨w.heap.size+1+1,0,none⟩=some (.int .i64 0)∧W3.frozen? ⟨w.heap.size+1+1,0,none⟩=false:=⟨new _ _ _ (by omega) k2,by rw[newf _ _ (by omega),oldf _ _ (by omega)];exact f2⟩
     have p3:W3.cell? ⟨w.heap.size+1+1+1,0,none⟩=some (.int .i64 0)∧W3.frozen? ⟨w.heap.size+1+1+1,0,none⟩=false:=⟨new _ _ _ (by omega) k3,by rw[newf _ _ (by omega),oldf _ _ (by omega)];exact f3⟩
     have p4:W3.cell? ⟨w.heap.size+1+1+1+1,0,none⟩=some (.int .i64 0)∧W3.frozen? ⟨w.heap.size+1+1+1+1,0,none⟩=false:=⟨new _ _ _ (by omega) k4,by rw[newf _ _ (by omega),oldf _ _ (by omega)];exact f4⟩
     have p5:W3.cell? ⟨W1.heap.size,0,none⟩=some (.int .i64 pl):=new _ _ _ (by omega) k20
     have hs3:W2.heap.size<W3.heap.size:=by rw[←hW3];simp
     have p6:W3.heap[W2.heap.size]?=some (.cells #[.int .i64 cy,.int .i64 of,sv] 49 (0,0)):=by rw[←hW3];exact World.alloc_heap_new _ _
     rw[hW3]
     refine wpIn_rangeFunc_ownF rfl (by omega) (gf:=88) (lb:=#[.pointer (some ⟨W2.heap.size,0,none⟩)]) rfl trivial (enters_of Tryz.func88 (by kernel_rfl) rfl)
      (Aed Fence.wide 3 trivial rfl (by omega) W2.heap.size w.heap.size cy of sv zs hlen W3 (by omega) p6 (hI0.below hb3)) (fun h k=>belowK_t h k) (belowK_b (by omega)) (Below.refl _ _) (fun _=>rfl)
      (fun pre W=>AtI w.heap.size w (w.heap.size+1) (w.heap.size+1+1) (w.heap.size+1+1+1) (w.heap.size+1+1+1+1) W1.heap.size sv pl zs pre W) (fun c pre W=>AtX w.heap.size w (w.heap.size+1+1) (w.heap.size+1+1+1) (w.heap.size+1+1+1+1) pl zs c pre W)
      (OwnFrom.and (Own.from (fun s A B row hs hg hr=>⟨hs.1,cell_kept hs.2.1 hg hr,cell_kept hs.2.2.1 hg hr,(frozen_kept hs.2.2.1 hg hr).trans hs.2.2.2.1,cell_kept hs.2.2.2.2.1 hg hr,(frozen_kept hs.2.2.2.2.1 hg hr).trans hs.2.2.2.2.2.1,cell_kept hs.2.2.2.2.2.2.1 hg hr,(frozen_kept hs.2.2.2.2.2.2.1 hg hr).trans hs.2.2.2.2.2.2.2.1,cell_kept hs.2.2.2.2.2.2.2.2 hg hr⟩) _) (ownFrom_below (Nat.le_refl _) (by omega)))
      (fun c=>OwnFrom.and (Own.from (fun s A B row hs hg hr=>by
        obtain⟨hc,pre',k,e1,e2,e3,e4,e5,e6⟩:=hs
        exact ⟨hc,pre',k,e1,e2,e3,cell_kept e4 hg hr,cell_kept e5 hg hr,cell_kept e6 hg hr⟩) _) (ownFrom_below (Nat.le_refl _) (by omega)))
      ⟨⟨fun k hk=>(by cases hk),p1,p2.1,p2.2,p3.1,p3.2,p4.1,p4.2,p5⟩,hb3⟩ ?a₁ ?assign ?body ?done ?stop
     case assign =>
      intro l x W K hK
      gi_wp2
      exact hK
     case body =>
      rintro l pre x W ⟨⟨hp,q1,q2,g2,q3,g3,q4,g4,q5⟩,hB⟩ _
      rcases hI0.below hB with ⟨ad,cap,_,hz0⟩|⟨b,off,cap,hsv,hb,hcs⟩
      ·exact absurd x.2 (fun hh=>by
        have:zs.length=0:=by rw[hz0];rfl
        omega)
      ·subst hsv
       have hx:=x.2
       have hcx:=hcs x.1 hx
       by_cases hlt:pl<CQ zs (x.1+1)
       ·have hp':=hp
        gi_wp2
        have hmx:Tryz.prog.follows .mixedOrders=true:=by kernel_rfl
        have hg3:F1 Tryz.prog 3=some false:=by kernel_rfl
        have hg30:F1 Tryz.prog 47=some false:=by kernel_rfl
        have hbx:b≠w.heap.size+1+1∧b≠w.heap.size+1+1+1∧b≠w.heap.size+1+1+1+1:=by omega
        refine wpIn_region_any hmx ?_
        refine X1 (AtReg w.heap.size w (w.heap.size+1+1) (w.heap.size+1+1+1) (w.heap.size+1+1+1+1) W1.heap.size (w.heap.size+1) b off cap zs.length x.1 (CQ zs (x.1+1)) pl ((zs[x.1]?).getD 0) W) ?_ ?_ _ _ _ _ ?_ ?_
        ·intro L a U i hI hi
         obtain⟨o,ho,hu,hdp⟩:=ready_iff.1 hi
         have hi13:i<13:=by simpa using (Array.getElem?_eq_some_iff.1 ho).1
         have hi':i=0∨i=1∨i=2∨i=3∨i=4∨i=5∨i=6∨i=7∨i=8∨i=9∨i=10∨i=11∨i=12:=by omega
         rcases hi' with rfl|rfl|rfl|rfl|rfl|rfl|rfl|rfl|rfl|rfl|rfl|rfl|rfl
         all_goals (simp only[List.getElem?_toArray,List.getElem?_cons_zero,List.getElem?_cons_succ,Option.some.injEq] at ho;subst ho)
         ·refine Ks hI rfl rfl (by intro c h;cases h) (fun _ _=>rfl) (by omega) rfl ?_
          simp[execOp,Act.eval,hI.t11,IJ]
         ·refine Ks hI rfl rfl (by intro c h;cases h) (fun _ _=>rfl) (by omega) rfl ?_
          have:=J4 (P:=Tryz.prog) hg3 hI.cpl
          simp[execOp,Act.eval,hI.t10,IJ,this]
         ·refine Ks hI rfl rfl (by intro c h;cases h) (fun _ _=>rfl) (by omega) rfl ?_
          simp[execOp,Act.eval,hI.t12,IJ]
         ·refine Ks hI rfl rfl (by intro c h;cases h) (fun _ _=>rfl) (by omega) rfl ?_
          have v1:=hI.v 1 (by omega) (hdp _ (by simp;exact .inl rfl) rfl)
          have v2:=hI.v 2 (by omega) (hdp _ (by simp;exact .inr rfl) rfl)
          simp[execOp,Act.eval,v1,v2,IJ,go_sem,wrap64,IntKind.wrap_i64]
         ·refine Ks hI rfl rfl (by intro c h;cases h) (fun _ _=>rfl) (by omega) rfl ?_
          simp[execOp,Act.eval,hI.t4,IJ,go_sem]
         ·refine Ks hI rfl rfl (by intro c h;cases h) (fun _ _=>rfl) (by omega) rfl ?_
          have v4:=hI.v 4 (by omega) (hdp _ (by simp;exact rfl) rfl)
          have:=J4 (P:=Tryz.prog) hg30 hI.csl
          simp[execOp,Act.eval,v4,IJ,this]
         ·refine Ks hI rfl rfl (by intro c h;cases h) (fun _ _=>rfl) (by omega) rfl ?_
          simp[execOp,Act.eval,hI.t11,IJ]
         ·refine Ks hI rfl rfl (by intro c h;cases h) (fun _ _=>rfl) (by omega) rfl ?_
          have v5:=hI.v 5 (by omega) (hdp _ (by simp;exact .inl rfl) rfl)
          have v6:=hI.v 6 (by omega) (hdp _ (by simp;exact .inr rfl) rfl)
          simp[execOp,Act.eval,v5,v6,IJ,go_sem,hx]
         ·refine Ks hI rfl rfl (by intro c h;cases h) (fun _ _=>rfl) (by omega) rfl ?_
          have v7:=hI.v 7 (by omega) (hdp _ (by simp;exact rfl) rfl)
          have:=J4 (P:=Tryz.prog) hg3 hI.cz
          simp[execOp,Act.eval,v7,IJ,this]
         ·refine Ks hI rfl rfl (by intro c h;cases h) (fun _ _=>rfl) (by omega) rfl ?_
          have v3:=hI.v 3 (by omega) (hdp _ (by simp;exact .inl rfl) rfl)
          have v8:=hI.v 8 (by omega) (hdp _ (by simp;exact .inr rfl) rfl)
          simp[execOp,Act.eval,v3,v8,IJ,go_sem,wrap64,IntKind.wrap_i64]
         ·obtain⟨cu,hcell⟩:=Option.isSome_iff_exists.1 hI.ci
          have v0:=hI.v 0 (by omega) (hdp _ (by simp;exact .inl rfl) rfl)
          refine bS (U':=U.setCell ⟨w.heap.size+1+1,0,none⟩ (.int .i64 (x.1:Int))) rfl rfl (by intro c h;cases h) (fun _ _=>rfl) rfl ?_ (hI.mark (by omega) (.inl ⟨rfl,rfl,rfl⟩) (by omega) (by omega))
          simp[execOp,Act.eval,v0,hI.t6,hI.fi,hcell,IJ,go_sem]
         ·obtain⟨cu,hcell⟩:=Option.isSome_iff_exists.1 hI.cj
          have v9:=hI.v 9 (by omega) (hdp _ (by simp;exact .inl rfl) rfl)
          refine bS (U':=U.setCell ⟨w.heap.size+1+1+1,0,none⟩ (.int .i64 (wrap64 (wrap64 (pl-CQ zs (x.1+1))+(zs[x.1]?).getD 0)))) rfl rfl (by intro c h;cases h) (fun _ _=>rfl) rfl ?_ (hI.mark (by omega) (.inr (.inl ⟨rfl,rfl,rfl⟩)) (by omega) (by omega))
          simp[execOp,Act.eval,v9,hI.t7,hI.fj,hcell,IJ,go_sem]
         ·obtain⟨cu,hcell⟩:=Option.isSome_iff_exists.1 hI.ce
          refine bS (U':=U.setCell ⟨w.heap.size+1+1+1+1,0,none⟩ (.int .i64 0)) rfl rfl (by intro c h;cases h) (fun _ _=>rfl) rfl ?_ (hI.mark (by omega) (.inr (.inr ⟨rfl,rfl,rfl⟩)) (by omega) (by omega))
          simp[execOp,Act.eval,hI.t8,hI.fe,hcell,go_sem]
        ·intro L a U hI hr
         have key:=zN hr (by rw[hI.size];rfl) (by kernel_rfl)
         rename_i hK
         refine hK _ _ ?_
         gi_wp2
         refine ⟨hI.others,⟨rfl,pre,x,rfl,(fun j hj=>Int.not_lt.2 (hp' j hj)),hlt,hI.di (key 10 (by decide)),hI.dj (key 11 (by decide)),hI.de (key 12 (by decide))⟩,hI.below⟩
        ·exact ⟨KeepsOthers.drew _,rfl,rfl,rfl,rfl,rfl,rfl,rfl,rfl,rfl,fun j _ hl=>(by
          rw[Array.getElem?_replicate] at hl
          split at hl<;>cases hl),q5,q1,hcx,g2,g3,g4,(by show (W.cell? _).isSome=true;rw[q2];rfl),(by show (W.cell? _).isSome=true;rw[q3];rfl),(by show (W.cell? _).isSome=true;rw[q4];rfl),
          fun hl=>(by rw[Array.getElem?_replicate] at hl;split at hl<;>cases hl),fun hl=>(by rw[Array.getElem?_replicate] at hl;split at hl<;>cases hl),fun hl=>(by rw[Array.getElem?_replicate] at hl;split at hl<;>cases hl),hB.drew⟩
        ·decide
       ·have hp':=hp
        gi_wp2
        exact ⟨KeepsOthers.refl _,Below.refl _ _,⟨fun k hk=>(by
         rcases List.mem_append.1 hk with hk|hk
         ·exact Int.not_lt.2 (hp' k hk)
         ·simp only[List.mem_singleton] at hk
          subst hk;omega),q1,q2,g2,q3,g3,q4,g4,q5⟩,hB⟩
     case done =>
      rintro D xs W hD hxs ⟨⟨hp,q1,q2,g2,q3,g3,q4,g4,q5⟩,hB⟩ hdf
      subst hxs
      have hres:Gp zs cy of tk 0 true=(0,(0,170)):=by
       unfold Gp
       rw[if_neg (by simp),if_neg (by simp),if_neg (by omega),hpl]
       exact Y4 _ _ fun i _ hi=>hp ⟨i,by omega⟩ (WR _ (by show i<zs.length;omega))
      gi_wp2
      obtain⟨b1,b2,b3,b4⟩:=Qt (W:=W) (x:=0) (y:=0) (z:=170) hB (ip:=w.heap.size+1+1) (jp:=w.heap.size+1+1+1) (ep:=w.heap.size+1+1+1+1) (by omega) (by omega) (by rw[q2];rfl) (by rw[q3];rfl) (by rw[q4];rfl)
      refine fin2 _ 0 0 170 _ D b1 rfl rfl rfl b2 b3 b4 (Nat.le_trans hb3.size hD) ?_ hres.symm
      rw[heap_setCell_other _ _ _ _ (fun e=>zT hdf q4 e),heap_setCell_other _ _ _ _ (fun e=>zT hdf q3 e),heap_setCell_other _ _ _ _ (fun e=>zT hdf q2 e)]
      exact hdf
     case stop =>
      rintro D c pre W hD ⟨k0,hk0,rfl⟩ ⟨⟨rfl,pre',k,e1,e2,e3,e4,e5,e6⟩,hB⟩ hdf
      have hk1:pre'.length+1=k0:=by
       have:=congrArg List.length e1
       rw[Mh _ hk0] at this
       simp at this;omega
      obtain rfl:k0=pre'.length+1:=by omega
      rw[Lo (by omega)] at e1
      obtain⟨e7,e8⟩:=List.append_inj' e1 rfl
      have hkv:k.1=pre'.length:=by
       have:=List.head_eq_of_cons_eq e8
       rw[←this]
      have hres:Gp zs cy of tk 0 true=((k.1:Int),(wrap64 (wrap64 (pl-CQ zs (k.1+1))+(zs[k.1]?).getD 0),0)):=by
       unfold Gp
       rw[if_neg (by simp),if_neg (by simp),if_neg (by omega),hpl,←Ws,←Ws]
       exact WQ _ _ _ (Nat.zero_le _) (by have:=k.2;omega) (fun i _ hi=>e2 ⟨i,by have:=k.2;omega⟩ (by have:=WR (k:=pre'.length) (⟨i,by have:=k.2;omega⟩:PQ zs.length) (by show i<pre'.length;omega);rwa [e7] at this)) e3
      gi_wp2
      exact fin2 _ _ _ _ _ D hB rfl rfl rfl e4 e5 e6 (Nat.le_trans hb3.size hD) hdf hres.symm
 ·gi_wp2
  have sE:=World.cell?_setCell_same' W1 ⟨w.heap.size+1+1+1+1,0,none⟩ (.int .i64 er) (by rw[m4];rfl)
  have hmx:Tryz.prog.follows .mixedOrders=true:=by kernel_rfl
  obtain⟨b1,b2,b3,b4⟩:=Qt (W:=W1.setCell ⟨w.heap.size+1+1+1+1,0,none⟩ (.int .i64 er)) (x:=0) (y:=0) (z:=er) (hbw1.setCell (by show w.heap.size≤w.heap.size+1+1+1+1;omega) _) (ip:=w.heap.size+1+1) (jp:=w.heap.size+1+1+1) (ep:=w.heap.size+1+1+1+1) (by omega) (by omega)
   (by rw[World.cell?_setCell_far _ _ _ _ (by show w.heap.size+1+1+1+1≠w.heap.size+1+1;omega),m2];rfl) (by rw[World.cell?_setCell_far _ _ _ _ (by show w.heap.size+1+1+1+1≠w.heap.size+1+1+1;omega),m3];rfl) (by rw[sE];rfl)
  gi_region
  gi_wp2
  exact fin _ 0 0 er _ b1.drew rfl rfl rfl b2 b3 b4 (by unfold Gp;rw[if_pos hz])
theorem AhN {α:Type}:∀ {l:List α},l.length=12→∃a b c d e f g h i j k m,l=[a,b,c,d,e,f,g,h,i,j,k,m]
 |[a,b,c,d,e,f,g,h,i,j,k,m],_=>⟨a,b,c,d,e,f,g,h,i,j,k,m,rfl⟩
 |[],h=>by cases h
 |[_],h=>by cases h
 |[_,_],h=>by cases h
 |[_,_,_],h=>by cases h
 |[_,_,_,_],h=>by cases h
 |[_,_,_,_,_],h=>by cases h
 |[_,_,_,_,_,_],h=>by cases h
 |[_,_,_,_,_,_,_],h=>by cases h
 |[_,_,_,_,_,_,_,_],h=>by cases h
 |[_,_,_,_,_,_,_,_,_],h=>by cases h
 |[_,_,_,_,_,_,_,_,_,_],h=>by cases h
 |[_,_,_,_,_,_,_,_,_,_,_],h=>by cases h
 |_::_::_::_::_::_::_::_::_::_::_::_::_::_,h=>by simp at h
theorem AfD {w:World} {O:Nat→Prop} {l:List Int} {v:Value} (h:Reads w O Ee l [v]):AtInts w.heap.size w v l:=by
 obtain⟨a,cap,e,hl,hm,hr⟩:=h
 simp only[List.cons.injEq,and_true] at e
 subst e
 rcases hr with hr|⟨b,off,cells,ea,hO,hb,hc,hrow⟩
 ·have:l=[]:=List.eq_nil_of_length_eq_zero hr
  subst this
  exact .inl ⟨a,cap,rfl,rfl⟩
 ·subst ea
  refine .inr ⟨b,off,cap,rfl,hb,fun j hj=>?_⟩
  obtain⟨pre,u,post,ec,hp,hu,hrd⟩:=RowOf.get (n:=1) (fun x vs=>AX I64) hrow (List.getElem?_eq_getElem hj)
  obtain⟨rfl,_⟩:=hrd
  refine hc j _ ?_
  rw[ec,List.getElem?_eq_getElem hj]
  simp
  rw[List.getElem?_append_right (by omega)]
  simp[show j-pre.length=0 by omega]
theorem kX {l:List Int} {pl:Int}:∀(n k:Nat),k+n≤1000000→inR .i64 (Jt l pl n k).1=true∧inR .i64 (Jt l pl n k).2.1=true∧inR .i64 (Jt l pl n k).2.2=true
 |0,k,_=>⟨rfl,rfl,rfl⟩
 |n+1,k,h=>by
  rw[Jt]
  split
  ·exact ⟨Wl (by unfold maxLen;omega),Fb _ _,rfl⟩
  ·exact kX n (k+1) (by omega)
theorem Ab7 {zs:List Int} {cy of tk er:Int} {is:Bool} (her:inR .i64 er=true) (hlen:er=0→is=true→0≤tk→tk≤1073741824→zs.length≤1000000) :
 inR .i64 (Gp zs cy of tk er is).1=true∧inR .i64 (Gp zs cy of tk er is).2.1=true∧inR .i64 (Gp zs cy of tk er is).2.2=true:=by
 unfold Gp
 by_cases h1:er=0
 ·rw[if_neg (by simpa using h1)]
  cases is with
  |false=>exact ⟨rfl,rfl,rfl⟩
  |true =>
   rw[if_neg (by simp)]
   split
   ·exact ⟨rfl,rfl,rfl⟩
   ·exact kX _ _ (by have:=hlen h1 rfl (by omega) (by omega);omega)
 ·rw[if_pos h1];exact ⟨rfl,rfl,her⟩
set_option maxRecDepth 100000 in
theorem Aea (w:World) (F:Nat→Prop) (vals:List Value) (x:Ad×Az×Int) (y:Int×Int×Int) (hV:V w) (hF:∀b,F b→b<w.heap.size) (hr:Ce w F [Ai,Cc,I64] x vals) (hy:Em x=some y) :
 Calls Tryz.prog 18 vals.toArray w fun e w'=>∃rs,e=.returned (Db rs)∧Below w.heap.size w w'∧Gv w.heap.size w' F false [I64,I64,I64] y rs:=by
 obtain⟨s,p,tk⟩:=x
 obtain⟨us,vs1,h1,rfl,us2,vs2,h2,rfl,us3,h3,rfl⟩:=hr
 obtain⟨rfl,_⟩:=(show us3=[.int .i64 tk]∧inR .i64 tk=true from h3)
 obtain⟨a1,a2,a3,a4,a5,a6,a7,a8,a9,a10,a11,a12,rfl⟩:=AhN (AX Ai h1)
 have h1':=h1
 have h2':=h2
 obtain⟨u1,r1,rfl,⟨rfl,_⟩,u2,u3,rfl,⟨rfl,_⟩,h4⟩:=h2
 obtain⟨v,rfl⟩:∃v,u3=[v]:=by obtain⟨a,cap,e,_⟩:=h4;exact ⟨_,e⟩
 have hI:=AfD h4
 have key:∀is er,CY (s,p)=some (is,er)→(er=0→is=true→0≤tk→tk≤1073741824→p.1≠0∧p.2.2.length≤1000000)→y=Gp p.2.2 p.1 p.2.1 tk er is →
  Calls Tryz.prog 18 (Go.Den.valOf Ai [a1,a2,a3,a4,a5,a6,a7,a8,a9,a10,a11,a12]::Go.Den.valOf Cc ([.int .i64 p.1]++([.int .i64 p.2.1]++[v]))::[Go.Den.valOf I64 [.int .i64 tk]]).toArray w fun e w'=>∃rs,e=.returned (Db rs)∧Below w.heap.size w w'∧Gv w.heap.size w' F false [I64,I64,I64] y rs:=fun is er hpl hgo hyr=>by
  refine (callsIn_wide.1 (AfE w a1 a2 a3 a4 a5 a6 a7 a8 a9 a10 a11 a12 p.1 p.2.1 tk er is v p.2.2 hI (fun W hB=>callsIn_wide.2 ?_) hgo)).mono ?_
  ·have hk:Keeps w F W F:=⟨hB.size,fun b hlt hO=>⟨hO,hB.block b hlt⟩⟩
   refine (site_Plan_m.calls W F _ (s,p) (is,er) (stays w W hB hV) (fun b hb=>Nat.lt_of_lt_of_le (hF b hb) hB.size) ⟨_,_,BB hk Ai h1',rfl,_,BB hk Cc h2',rfl⟩ hpl).mono ?_
   rintro e W' ⟨rs,rfl,hB2,hres⟩
   obtain⟨us4,vs4,g1,rfl,us5,g2,rfl⟩:=(show Ce W' F [Bo,I64] (is,er) rs from hres)
   have:us4=[.bool is]:=g1
   subst this
   obtain⟨rfl,hin⟩:=(show us5=[.int .i64 er]∧inR .i64 er=true from g2)
   exact ⟨rfl,hB2,hin⟩
  ·rintro e w' ⟨⟨her,r1,r2,r3,hr,rfl⟩,hB⟩
   have hin:=Ab7 (zs:=p.2.2) (cy:=p.1) (of:=p.2.1) (tk:=tk) (is:=is) her (fun a b c d=>(hgo a b c d).2)
   rw[hyr]
   rw[←hr] at hin ⊢
   exact ⟨[.int .i64 r1,.int .i64 r2,.int .i64 r3],rfl,hB,[.int .i64 r1],_,⟨rfl,hin.1⟩,rfl,[.int .i64 r2],_,⟨rfl,hin.2.1⟩,rfl,[.int .i64 r3],⟨rfl,hin.2.2⟩,rfl⟩
 unfold Em at hy
 split at hy
 ·cases hy
 ·rename_i is er hpl
  refine key is er hpl ?_ ?_
  ·rintro rfl rfl t0 t1
   rw[if_neg (by simp),if_neg (by simp),if_neg (by simp only;omega)] at hy
   split at hy
   ·cases hy
   ·rename_i hc
    simp only at hc
    unfold Aa at hc
    exact ⟨by omega,by omega⟩
  ·unfold Gp
   by_cases h0:er=0
   ·subst h0
    rw[if_neg (by simp)] at hy ⊢
    cases is with
    |false=>rw[if_pos rfl] at hy ⊢;cases hy;rfl
    |true =>
     rw[if_neg (by simp)] at hy ⊢
     simp only at hy
     by_cases ht:tk<0∨1073741824<tk
     ·rw[if_pos ht] at hy ⊢;cases hy;rfl
     ·rw[if_neg ht] at hy ⊢
      split at hy
      ·cases hy
      ·cases hy
       simp only[Ws]
       rfl
   ·rw[if_pos h0] at hy ⊢;cases hy;rfl
theorem fV:Ap Tryz.prog V 18 (spP [Ai,Cc,I64] [I64,I64,I64] Em) where
 enters:=enters_of Tryz.func18 (by kernel_rfl) rfl
 tot:=fun g hg=>by cases hg
 calls:=fun w F vals x y hV hF hr hy=>Aea w F vals x y hV hF hr hy
theorem oZ:AllMeet Tryz.prog V UU:=(.cons fV (.cons UY (.cons Xt .nil)))
theorem UW:Ap Tryz.prog V 19 (spP [Ai,Cc,I64] [I64,I64] CF):=Ao oZ stays AB (hs:={}) (Av Tryz.func19 (by kernel_rfl) (by kernel_rfl) (by kernel_rfl)) false oY
theorem Wy:AllMeet Tryz.prog V ND:=(.cons Abw (.cons UT (.cons UW (.cons XV .nil))))
theorem WA:AllMeetP Tryz.prog V NF:=(.cons L3 (.cons UA .nil))
theorem Wz:C2 Tryz.prog V 73 (spP [A6,HT] [A6] Fl):=DD (hs:={}) Wy WA AB AllOK.nil (Av Tryz.func73 (by kernel_rfl) (by kernel_rfl) (by kernel_rfl)) 1 Wx
theorem uP:AllMeet Tryz.prog V Xa:=(.cons Qi .nil)
theorem uO:AllOK Tryz.prog W9:=(.cons (Av Tryz.func209 (by kernel_rfl) (by kernel_rfl) (by kernel_rfl)) (.cons (Av Tryz.func223 (by kernel_rfl) (by kernel_rfl) (by kernel_rfl)) (.cons (Av Tryz.func210 (by kernel_rfl) (by kernel_rfl) (by kernel_rfl)) .nil)))
theorem uQ:Ap Tryz.prog V 180 (spP [Ai,A9] [Bo] Je):=Dw uP stays AB uO (hs:={loops:=[(0,[.slot 23 I64,.arr 20 U8])],joins:=[(9,[.arr 20 U8])]}) (Av Tryz.func180 (by kernel_rfl) (by kernel_rfl) (by kernel_rfl)) false 4 uN
theorem mW:AllMeet Tryz.prog V Ua:=(.cons CG (.cons uQ .nil))
theorem Ub:Ap Tryz.prog V 134 (spP [Ai,A9] [I64] F0):=Ao mW stays AB (hs:={}) (Av Tryz.func134 (by kernel_rfl) (by kernel_rfl) (by kernel_rfl)) false mV
theorem AaJ:AllMeet Tryz.prog V Zx:=.nil
theorem Zy:Ap Tryz.prog V 157 (spP [I64,U8] [U8s] FN true):=Ao AaJ stays AB (hs:={loops:=[(0,[.slot 11 I64,.arr 8 U8])]}) (Av Tryz.func157 (by kernel_rfl) (by kernel_rfl) (by kernel_rfl)) true AaI
theorem uY:AllMeet Tryz.prog V Xf:=(.cons P6 .nil)
theorem uZ:Ap Tryz.prog V 183 (spT [Kq,Ga,U8] [U8] DW):=AZ uY stays AB (hs:={}) (Av Tryz.func183 (by kernel_rfl) (by kernel_rfl) (by kernel_rfl)) false fun x=>(uW x).trans (uX x)
theorem mU:AllMeet Tryz.prog V T8:=(.cons TR (.cons Zy (.cons uZ .nil)))
theorem mT:AllOK Tryz.prog T7:=(.cons (Av Tryz.func181 (by kernel_rfl) (by kernel_rfl) (by kernel_rfl)) (.cons (Av Tryz.func211 (by kernel_rfl) (by kernel_rfl) (by kernel_rfl)) (.cons (Av Tryz.func182 (by kernel_rfl) (by kernel_rfl) (by kernel_rfl)) (.cons (Av Tryz.func184 (by kernel_rfl) (by kernel_rfl) (by kernel_rfl)) .nil))))
theorem T9:Ap Tryz.prog V 135 (spP [Ai,A9,U8s] [U8s] FZ true):=Dw mU stays AB mT (hs:={loops:=[(1,[.slot 36 I64,.barr 8 U8]),(3,[.slot 63 I64,.barr 8 U8])],joins:=[(2,[])],outs:=[(2,[(7,Bo)])]}) (Av Tryz.func135 (by kernel_rfl) (by kernel_rfl) (by kernel_rfl)) true 5 mS
theorem mQ:AllMeet Tryz.prog V T6:=(.cons Ub (.cons T9 .nil))
theorem mR:Ap Tryz.prog V 74 (spP [Ai,A9,U8s] [U8s,I64] G6 true):=Ao mQ stays AB (hs:={}) (Av Tryz.func74 (by kernel_rfl) (by kernel_rfl) (by kernel_rfl)) true mP
theorem WW:Ap Tryz.prog V 32 (spP [Ty.slice I64] [Ty.slice I64] E1 true) :=
 Jc (e:=3) (T:=I64) stays AB Tryz.func32 ⟨by kernel_rfl,rfl,by kernel_rfl,by kernel_rfl,by decide,⟨0,1,2,_,_,_,_,rfl,⟨rfl,rfl,rfl⟩,⟨rfl,rfl,rfl⟩,⟨rfl,⟨_,rfl⟩,rfl⟩,⟨rfl,rfl,rfl⟩⟩⟩ (fun l=>by kernel_rfl) (fun y h=>(Option.some.inj ((show E1 []=some [] by kernel_rfl).symm.trans h)).symm)
theorem vK:AllMeet Tryz.prog V Xk:=.nil
theorem vL:Ap Tryz.prog V 140 (spT [U32] [U32,I64] IE):=AZ vK stays AB (hs:={}) (Av Tryz.func140 (by kernel_rfl) (by kernel_rfl) (by kernel_rfl)) false fun x=>(vI x).trans (vJ x)
theorem Aes:AllMeet Tryz.prog V mA:=.nil
theorem Aet:Ap Tryz.prog V 142 (spT [I64] [I64] I2):=AZ Aes stays AB (hs:={}) (Av Tryz.func142 (by kernel_rfl) (by kernel_rfl) (by kernel_rfl)) false fun x=>(Aeq x).trans (Aer x)
theorem Aax:AllMeet Tryz.prog V Zr:=.nil
theorem Aay:Ap Tryz.prog V 194 (spT [I64] [I64] HL):=AZ Aax stays AB (hs:={}) (Av Tryz.func194 (by kernel_rfl) (by kernel_rfl) (by kernel_rfl)) false fun x=>(Aav x).trans (Aaw x)
theorem AcD:AllMeet Tryz.prog V fK:=(.cons Aay .nil)
theorem AcE:Ap Tryz.prog V 141 (spP [I64,I64] [I64,I64] JH):=Ao AcD stays AB (hs:={}) (Av Tryz.func141 (by kernel_rfl) (by kernel_rfl) (by kernel_rfl)) false AcC
theorem jB:AllMeet Tryz.prog V SP:=(.cons Us .nil)
theorem jE:AllMeetP Tryz.prog V SR:=.nil
theorem jD:AllMeetO Tryz.prog V SQ:=(.cons ZG .nil)
theorem jC:Ap Tryz.prog V 49 (spP [Wa] [U8s,I64] Gn):=UO (hs:={loops:=[(1,[.slot 41 I64,.own 4 U8])]}) jB jE jD stays AB AllOK.nil (Av Tryz.func49 (by kernel_rfl) (by kernel_rfl) (by kernel_rfl)) false 1 jA
theorem cJ:AllMeet Tryz.prog V QH:=(.cons gC (.cons gE .nil))
theorem cK:Ap Tryz.prog V 195 (spP [FE] [U8s,I64] GR true):=Ao cJ stays AB (hs:={}) (Av Tryz.func195 (by kernel_rfl) (by kernel_rfl) (by kernel_rfl)) true cI
theorem iN:AllMeet Tryz.prog V SK:=.nil
theorem iO:Ap Tryz.prog V 196 (spP [U8s] [U8s] Hk true):=Ao iN stays AB (hs:={loops:=[(0,[.own 3 U8,.slot 11 I64])]}) (Av Tryz.func196 (by kernel_rfl) (by kernel_rfl) (by kernel_rfl)) true iM
theorem iQ:AllMeet Tryz.prog V SL:=(.cons cK (.cons iO .nil))
theorem iR:Ap Tryz.prog V 143 (spP [FE] [U8s,I64] Gj):=Ao iQ stays AB (hs:={}) (Av Tryz.func143 (by kernel_rfl) (by kernel_rfl) (by kernel_rfl)) false iP
theorem WD:AllMeet Tryz.prog V NH:=(.cons Y7 (.cons SN (.cons mR (.cons Qi (.cons LF (.cons WW (.cons KB (.cons vL (.cons Aet (.cons AcE (.cons jC (.cons iR .nil))))))))))))
theorem WC:AllOK Tryz.prog NG:=(.cons (Av Tryz.func76 (by kernel_rfl) (by kernel_rfl) (by kernel_rfl)) (.cons (Av Tryz.func77 (by kernel_rfl) (by kernel_rfl) (by kernel_rfl)) .nil))
theorem WE:AllMeetP Tryz.prog V NI:=(.cons UE (.cons Tf (.cons UI (.cons WI (.cons S8 (.cons Wz .nil))))))
theorem NJ:C2 Tryz.prog V 33 (spP [A6] [A6] DG):=DD (hs:={frz:=[10],joins:=[(2,[.box 0 A6])]}) WD WE AB WC (Av Tryz.func33 (by kernel_rfl) (by kernel_rfl) (by kernel_rfl)) 3 WB
theorem vO:AllMeet Tryz.prog V Xm:=(.cons KJ .nil)
theorem vQ:AllMeetP Tryz.prog V Xn:=(.cons NJ .nil)
theorem vP:Ap Tryz.prog V 25 (spP [Ai,AL,Hg] [Lj,U8s,I64] MR):=H9 (hs:={loops:=[(0,[.own 6 U8s,.own 7 U8,.slot 27 I64,.box 9 Bu])]}) vO vQ stays AB AllOK.nil (Av Tryz.func25 (by kernel_rfl) (by kernel_rfl) (by kernel_rfl)) false 1 vM
theorem xE:AllMeet Tryz.prog V XO:=(.cons AdT (.cons Sx (.cons vP .nil)))
theorem Ql:Ap Tryz.prog V 7 (spP [] [Bo] FU):=Ao xE stays AB (hs:={loops:=[(0,[.slot 4 I64])]}) (Av Tryz.func7 (by kernel_rfl) (by kernel_rfl) (by kernel_rfl)) false xD
theorem jN:AllMeet Tryz.prog V SZ:=.nil
theorem NB:Ap Tryz.prog V 13 (spP [Ai] [Bo] C6):=Ao jN stays AB (hs:={loops:=[(0,[.slot 3 I64]),(2,[.slot 4 I64])]}) (Av Tryz.func13 (by kernel_rfl) (by kernel_rfl) (by kernel_rfl)) false jM
theorem pH:AllMeet Tryz.prog V U2:=.nil
theorem pI:Ap Tryz.prog V 27 (spP [Hg] [I64] Ie):=Ao pH stays AB (hs:={loops:=[(0,[.slot 3 I64,.slot 4 I64])]}) (Av Tryz.func27 (by kernel_rfl) (by kernel_rfl) (by kernel_rfl)) false pG
theorem AbQ:AllMeet Tryz.prog V aV:=(.cons NB (.cons pI .nil))
theorem AbR:Ap Tryz.prog V 8 (spP [Ai,AL,Hg] [Bo] Kh):=Ao AbQ stays AB (hs:={}) (Av Tryz.func8 (by kernel_rfl) (by kernel_rfl) (by kernel_rfl)) false AbP
theorem xJ:AllMeet Tryz.prog V XQ:=.nil
theorem xK:Ap Tryz.prog V 10 (spP [Bu] [U8s] HQ):=Ao xJ stays AB (hs:={loops:=[(0,[.own 3 U8,.slot 4 I64])]}) (Av Tryz.func10 (by kernel_rfl) (by kernel_rfl) (by kernel_rfl)) false xI
theorem oD:AllMeet Tryz.prog V Ux:=.nil
theorem OP:Ap Tryz.prog V 103 (spT [I64] [Bo] CU):=AZ oD stays AB (hs:={}) (Av Tryz.func103 (by kernel_rfl) (by kernel_rfl) (by kernel_rfl)) false fun x=>(oB x).trans (oC x)
theorem uL:AllMeet Tryz.prog V W8:=(.cons Ub (.cons Zy (.cons T9 .nil)))
theorem uM:Ap Tryz.prog V 104 (spP [Ai,A9,I64] [Bo,I64] Jd):=Ao uL stays AB (hs:={}) (Av Tryz.func104 (by kernel_rfl) (by kernel_rfl) (by kernel_rfl)) false uK
theorem nI:AllMeet Tryz.prog V Uk:=(.cons Um .nil)
theorem nJ:Ap Tryz.prog V 105 (spT [He,I64] [Bo,I64] IP):=AZ nI stays AB (hs:={}) (Av Tryz.func105 (by kernel_rfl) (by kernel_rfl) (by kernel_rfl)) false fun x=>(nG x).trans (nH x)
theorem cL {w:World} {O:Nat→Prop}:∀ {l:List Int} {vs:List Value},RowOf (Reads w O U8) l vs→vs=l.map (fun n=>Value.int .u8 n)∧∀n∈l,0≤n∧n≤255
 |[],vs,h=>⟨h,fun n hn=>by cases hn⟩
 |n::l,vs,⟨v1,v2,e,⟨e1,e2⟩,h3⟩=>by
  obtain⟨k1,k2⟩:=cL h3
  subst e e1 k1
  have hn:0≤n∧n≤255:=by
   unfold inR at e2
   have e3:IntKind.u8.min≤n∧n≤IntKind.u8.max:=by simpa only[Bool.and_eq_true,decide_eq_true_eq] using e2
   exact e3
  refine ⟨rfl,fun m hm=>?_⟩
  rcases List.mem_cons.1 hm with rfl|hm
  ·exact hn
  ·exact k2 m hm
theorem AfY {a b:Int} (ha:0≤a∧a≤255) (hb:0≤b∧b≤255):(UInt8.ofNat a.toNat==b.toNat.toUInt8)=decide (a=b):=by
 obtain⟨m,rfl⟩:∃m:Nat,a=m:=⟨a.toNat,by omega⟩
 obtain⟨n,rfl⟩:∃n:Nat,b=n:=⟨b.toNat,by omega⟩
 by_cases h:(m:Int)=n
 ·rw[h];simp
 ·rw[decide_eq_false h]
  have h2:m≠n:=by omega
  simp only[Int.toNat_natCast,beq_eq_false_iff_ne,ne_eq]
  intro hh
  have:=congrArg UInt8.toNat hh
  simp only[UInt8.toNat_ofNat',Nat.toUInt8] at this
  omega
theorem AhJ {c:Int} (hc:0≤c∧c≤255):∀(l:List Int) (i:Int),0≤i→(∀n∈l,0≤n∧n≤255)→IN l c i=if Lib.indexByte (Lib.bytesOf l) c.toNat.toUInt8 = -1 then -1 else Lib.indexByte (Lib.bytesOf l) c.toNat.toUInt8+i:=by
 intro l
 induction l with
 |nil=>intro i _ _;rfl
 |cons a l ih =>
  intro i hi h
  have ha:=h a (List.mem_cons_self ..)
  have hl:=ih (i+1) (by omega) fun n hn=>h n (List.mem_cons_of_mem _ hn)
  have ge:=Lib.indexByte_ge (Lib.bytesOf l) c.toNat.toUInt8
  unfold IN
  rw[show Lib.bytesOf (a::l)=UInt8.ofNat a.toNat::Lib.bytesOf l from rfl,Lib.indexByte,AfY ha hc]
  by_cases e:a=c
  ·rw[if_pos e,decide_eq_true e,if_pos rfl,if_neg (by decide)];omega
  ·rw[if_neg e,decide_eq_false e,hl]
   simp only[Bool.false_eq_true,if_false,beq_iff_eq]
   split
   ·rw[if_pos rfl]
   ·rw[if_neg (by omega)];omega
theorem Aha (w:World) (p:Option Addr) (cap:Nat) (xs:List Int) (c:Int) (hp:xs.length=0∨∃a,p=some a∧∀j x,xs[j]?=some x→w.cell? (a.add j)=some (.int .u8 x)) :
 (Extern.BytealgIndexByte.indexByte #[.slice p xs.length cap,.int .u8 c]).run Tryz.prog w=.ok (.int .i64 (Lib.indexByte (Lib.bytesOf xs) c.toNat.toUInt8)) w:=by
 have h:p=none∧xs=[]∨∃a,p=some a∧∀j x,xs[j]?=some x→w.cell? (a.add j)=some (.int .u8 x):=by
  rcases hp with h0|h
  ·have:=List.eq_nil_of_length_eq_zero h0
   subst this
   cases p with
   |none=>exact .inl ⟨rfl,rfl⟩
   |some a=>exact .inr ⟨a,rfl,fun j x hj=>by simp at hj⟩
  ·exact .inr h
 rcases h with ⟨rfl,rfl⟩|⟨a,rfl,h⟩
 ·exact Lib.run_indexByteNil w 0 cap c
 ·have hl:=Lib.run_loadBytesX (P:=Tryz.prog) w xs a .empty h
  have hs:=Lib.run_indexByteString (P:=Tryz.prog) ⟨(Lib.bytesOf xs).toArray⟩ c w
  have he:(⟨ByteArray.empty.data++(Lib.bytesOf xs).toArray⟩:ByteArray)=⟨(Lib.bytesOf xs).toArray⟩:=by
   apply ByteArray.ext
   show (#[]:Array UInt8)++(Lib.bytesOf xs).toArray=(Lib.bytesOf xs).toArray
   simp
  rw[he] at hl
  change Sem.run Tryz.prog (do
   let b ←Extern.Bytes.bytesOf (.slice (some a) xs.length cap)
   let c ←Extern.Bytes.asByte (.int .u8 c)
   match (List.range b.size).find? fun i=>b[i]! == c with
   |some i=>pure (goInt i)
   |none=>pure (goInt (-1))) w = _
  change Sem.run Tryz.prog (do
   let b ←Extern.Bytes.bytesOf (.string ⟨(Lib.bytesOf xs).toArray⟩)
   let c ←Extern.Bytes.asByte (.int .u8 c)
   match (List.range b.size).find? fun i=>b[i]! == c with
   |some i=>pure (goInt i)
   |none=>pure (goInt (-1))) w = _ at hs
  simp only[Extern.Bytes.bytesOf,Sem.run_bind,Sem.run_pure,hl,Result.andThen] at hs ⊢
  exact hs
set_option maxHeartbeats 1000000 in
set_option maxRecDepth 100000 in
theorem AfZ (w:World) (p:Option Addr) (cap:Nat) (xs:List Int) (c:Int) (hp:xs.length=0∨∃a,p=some a∧∀j x,xs[j]?=some x→w.cell? (a.add j)=some (.int .u8 x)) :
 Calls Tryz.prog 106 #[.slice p xs.length cap,.int .u8 c] w fun e w'=>e=.returned (.int .i64 (Lib.indexByte (Lib.bytesOf xs) c.toNat.toUInt8))∧w'=w:=by
 have hr:=Aha w p cap xs c hp
 go_enter Tryz.func106,Tryz.ntmps106
 go_wp2
 rw[run_callFunc_extern Tryz.func159 (by kernel_rfl) (by kernel_rfl) (by kernel_rfl) (e:=Extern.BytealgIndexByte.indexByte) (by kernel_rfl),hr]
 simp only[Result.andThen]
 rw[Oper.upon_value]
 go_wp2
 go_ret
 exact ⟨rfl,rfl⟩
theorem AhK {c:Int}:∀(l:List Int) (i:Int),0≤i→-1≤IN l c i∧IN l c i≤i+l.length:=by
 intro l
 induction l with
 |nil=>intro i _;unfold IN;simp;omega
 |cons a l ih =>
  intro i hi
  have:=ih (i+1) (by omega)
  unfold IN
  rw[List.length_cons]
  split<;>omega
theorem AeB (w:World) (F:Nat→Prop) (vals:List Value) (l:List Int) (c:Int) (hr:Ce w F [U8s,U8] (l,c) vals) :
 Calls Tryz.prog 106 vals.toArray w fun e w'=>∃rs,e=.returned (Db rs)∧Below w.heap.size w w'∧Gv w.heap.size w' F false [I64] (IN l c 0) rs:=by
 obtain⟨us,vs',hus,rfl,us2,hus2,rfl⟩:=hr
 obtain⟨rfl,hc⟩:=(show us2=[.int .u8 c]∧inR .u8 c=true from hus2)
 obtain⟨a,cap,rfl,hl,hm,hrow⟩:=hus
 have hcc:0≤c∧c≤255:=by
  unfold inR at hc
  have e3:IntKind.u8.min≤c∧c≤IntKind.u8.max:=by simpa only[Bool.and_eq_true,decide_eq_true_eq] using hc
  exact e3
 have hin:=AhK (c:=c) l 0 (by omega)
 have hle:List.length l≤maxLen:=Nat.le_trans hl hm
 have hp:l.length=0∨∃p,a=some p∧∀j x,l[j]?=some x→w.cell? (p.add j)=some (.int .u8 x):=by
  rcases hrow with h0|⟨b,off,cells,rfl,_,hb,hat,hrw⟩
  ·exact .inl h0
  ·refine .inr ⟨_,rfl,fun j x hj=>?_⟩
   obtain⟨h1,_⟩:=cL hrw
   have:=hat j (.int .u8 x) (by rw[h1,List.getElem?_map,hj];rfl)
   rw[←this]
   by_cases hj0:j=0<;>simp[Addr.add,hj0]
 have hb:∀n∈l,0≤n∧n≤255:=by
  rcases hrow with h0|⟨b,off,cells,rfl,_,hb,hat,hrw⟩
  ·have:l=[]:=List.eq_nil_of_length_eq_zero h0
   intro n hn;rw[this] at hn;cases hn
  ·exact (cL hrw).2
 refine (AfZ w a cap l c hp).mono fun e w' ⟨he,hw⟩=>?_
 subst hw
 refine ⟨[.int .i64 (IN l c 0)],?_,Below.refl _ _,?_⟩
 ·rw[he,AhJ hcc l 0 (by omega) hb]
  congr 2
  split
  ·rename_i e1;rw[e1]
  ·simp
 ·refine ⟨[.int .i64 (IN l c 0)],⟨rfl,?_⟩,rfl⟩
  unfold inR
  simp only[Bool.and_eq_true,decide_eq_true_eq]
  unfold maxLen at hle
  show (-9223372036854775808:Int)≤IN l c 0∧IN l c 0≤9223372036854775807
  omega
theorem Ww:Ap Tryz.prog V 106 (spT [U8s,U8] [I64] bytes_IndexByte) where
 enters:=fun args w=>by
  have h:FnOK Tryz.prog 106 (Al Tryz.f106 {}):=Av Tryz.func106 (by kernel_rfl) (by kernel_rfl) (by kernel_rfl)
  exact h.enters args w
 tot:=fun g hg x=>by cases hg;rfl
 calls:=fun w F vals x y _ _ hr hy=>by
  cases hy
  exact AeB w F vals x.1 x.2 hr
theorem ZM:AllMeet Tryz.prog V Py:=(.cons Zw (.cons OP (.cons WU .nil)))
theorem ZN:Ap Tryz.prog V 108 (spP [Ai,Bu] [Bo] El):=Ao ZM stays AB (hs:={loops:=[(0,[.slot 29 I64])]}) (Av Tryz.func108 (by kernel_rfl) (by kernel_rfl) (by kernel_rfl)) false ZL
theorem ZJ:AllMeet Tryz.prog V Px:=(.cons OP .nil)
theorem ZK:Ap Tryz.prog V 109 (spP [Ai,Bu] [Bo] Ek):=Ao ZJ stays AB (hs:={loops:=[(0,[.slot 30 I64])]}) (Av Tryz.func109 (by kernel_rfl) (by kernel_rfl) (by kernel_rfl)) false ZI
theorem vS:AllMeet Tryz.prog V Xo:=(.cons QQ (.cons OP (.cons uM (.cons SN (.cons nJ (.cons Ww (.cons site_Plan_m (.cons UL (.cons ZN (.cons ZK .nil))))))))))
theorem vT:Ap Tryz.prog V 65 (spP [Ai,Bu] [Bo] Jf):=Ao vS stays AB (hs:={}) (Av Tryz.func65 (by kernel_rfl) (by kernel_rfl) (by kernel_rfl)) false vR
theorem jG:AllMeet Tryz.prog V SS:=(.cons CG (.cons vT .nil))
theorem jH:Ap Tryz.prog V 31 (spP [Ai,Bu] [I64] I3):=Ao jG stays AB (hs:={}) (Av Tryz.func31 (by kernel_rfl) (by kernel_rfl) (by kernel_rfl)) false jF
theorem nS:AllMeet Tryz.prog V Ut:=(.cons jH (.cons WW .nil))
theorem nT:AllMeetP Tryz.prog V Uu:=(.cons NJ .nil)
theorem ON:Ap Tryz.prog V 11 (spP [Ai,Bu,Oe] [Bu,U8s,U8s,I64] Bq):=H9 (hs:={}) nS nT stays AB AllOK.nil (Av Tryz.func11 (by kernel_rfl) (by kernel_rfl) (by kernel_rfl)) false 1 nR
theorem jW:AllMeet Tryz.prog V S4:=.nil
theorem jX:Ap Tryz.prog V 12 (spP [U8s] [I64] C7):=Ao jW stays AB (hs:={loops:=[(0,[.slot 3 I64,.slot 4 I64])]}) (Av Tryz.func12 (by kernel_rfl) (by kernel_rfl) (by kernel_rfl)) false jV
end Go.Proofs.YtmmkfcpdfnjgjaaGreatDoor
namespace Go.Proofs.YtmmkfcpdfnjgjaaGreatDoor
open Go.Den Go.RowKit Go.ChangeShapes Go.Shelf
theorem eO:AllMeet Tryz.prog V Rf:=(.cons Ql (.cons AbR (.cons KJ (.cons xK (.cons ON (.cons jX .nil))))))
theorem eP:Ap Tryz.prog V 3 (spP [Ai,AL,Hg,Bos] [Bo] Iv):=Ao eO stays AB (hs:={loops:=[(0,[.slot 12 I64,.box 10 Bu])]}) (Av Tryz.func3 (by kernel_rfl) (by kernel_rfl) (by kernel_rfl)) false eN
theorem xM:AllMeet Tryz.prog V XR:=.nil
theorem XS:Ap Tryz.prog V 24 (spP [Ai] [I64] FV):=Ao xM stays AB (hs:={loops:=[(0,[.slot 3 I64,.slot 4 I64]),(2,[.slot 3 I64,.slot 5 I64])]}) (Av Tryz.func24 (by kernel_rfl) (by kernel_rfl) (by kernel_rfl)) false xL
theorem xG:AllMeet Tryz.prog V XP:=(.cons XS .nil)
theorem xH:Ap Tryz.prog V 17 (spP [Ai] [Bo] Jl):=Ao xG stays AB (hs:={loops:=[(0,[.slot 3 I64]),(2,[.slot 4 I64])]}) (Av Tryz.func17 (by kernel_rfl) (by kernel_rfl) (by kernel_rfl)) false xF
theorem eL:AllMeet Tryz.prog V Re:=(.cons Ql (.cons NB (.cons site_Plan_m (.cons Sx (.cons XN (.cons xH (.cons KJ (.cons ON (.cons fV (.cons UW (.cons KB .nil)))))))))))
theorem eK:AllOK Tryz.prog Rc:=(.cons (Av Tryz.func16 (by kernel_rfl) (by kernel_rfl) (by kernel_rfl)) .nil)
theorem eM:Ap Tryz.prog V 4 (spP [Ai,Cc,PR] [Bo] Iu):=Dw eL stays AB eK (hs:={loops:=[(0,[.slot 13 I64,.fbox 12 AL [0]]),(2,[.slot 16 I64,.slot 17 I64,.box 14 Bu])]}) (Av Tryz.func4 (by kernel_rfl) (by kernel_rfl) (by kernel_rfl)) false 2 eJ
theorem Z7:AllMeet Tryz.prog V PH:=(.cons CG (.cons LL .nil))
theorem Z8:Ap Tryz.prog V 96 (spP [Ai] [I64,I64] Gg):=Ao Z7 stays AB (hs:={}) (Av Tryz.func96 (by kernel_rfl) (by kernel_rfl) (by kernel_rfl)) false Z6
theorem sM:AllMeet Tryz.prog V VT:=(.cons Z8 .nil)
theorem sN:Ap Tryz.prog V 51 (spP [Ai] [I64,I64] Iw):=Ao sM stays AB (hs:={loops:=[(0,[.slot 6 I64,.slot 7 I64,.slot 21 I64])]}) (Av Tryz.func51 (by kernel_rfl) (by kernel_rfl) (by kernel_rfl)) false sL
theorem wR:AllMeet Tryz.prog V XB:=(.cons sN .nil)
theorem wS:Ap Tryz.prog V 23 (spP [Ai] [I64,I64] Ji):=Ao wR stays AB (hs:={loops:=[(0,[.slot 6 I64,.slot 21 I64])]}) (Av Tryz.func23 (by kernel_rfl) (by kernel_rfl) (by kernel_rfl)) false wQ
theorem aS:AllMeet Tryz.prog V PM:=(.cons Ql (.cons NB (.cons wS (.cons Sx (.cons KJ (.cons XS (.cons ON (.cons KB .nil))))))))
theorem aT:Ap Tryz.prog V 6 (spP [Ai,I64,PR,PR] [Bo] HH):=Ao aS stays AB (hs:={loops:=[(0,[.slot 14 U32,.slot 15 I64]),(2,[.slot 16 I64,.box 12 Bu]),(4,[.slot 21 I64,.box 12 Bu])],joins:=[(18,[]),(31,[.slot 22 U32])]}) (Av Tryz.func6 (by kernel_rfl) (by kernel_rfl) (by kernel_rfl)) false aR
end Go.Proofs.YtmmkfcpdfnjgjaaGreatDoor
namespace Go.Proofs.YtmmkfcpdfnjgjaaGreatDoor
open Go.Den Go.RowKit Go.ChangeShapes
theorem PN {H:Type} {enc:TypeId×Value→H} {P:Program} {w:World} {base:Nat} {sp:Nat→Bool} {held:Bool} {t e:TypeId} {n:Nat} {k:IntKind} (ht:P.underlying t=some (.array n e)) (he:P.underlying e=some (.int k)) (hc:P.cellsOf e=1) (hct:P.cellsOf t=n) {fuel:Nat} {cs:List Value} {ns:List Int} {p:List MemPlace}
 (h:DataW.trod enc P w base sp held fuel t cs=some (.agg (ns.map fun m=>.lit (.int k m)),p)):cs=ns.map fun m=>.int k m:=by
 cases fuel with
 |zero=>simp[DataW.trod] at h
 |succ fuel =>
  unfold DataW.trod at h
  rw[ht] at h
  simp only at h
  split at h
  ·rename_i hl
   rw[hct] at hl
   simp only[Option.map_eq_some_iff] at h
   obtain⟨xs,hx,hd⟩:=h
   have hd1:xs.map (·.1)=ns.map fun m=>.lit (.int k m):=by
    have:=congrArg Prod.fst hd
    simpa using this
   have hlen:xs.length=n:=by simpa using mapM_some_length hx
   have hnl:ns.length=n:=by
    have:=congrArg List.length hd1
    simpa[hlen] using this.symm
   apply List.ext_getElem
   ·simp[hl,hnl]
   ·intro i h1 h2
    have hi:i<n:=by omega
    have hg:=mapM_some_get hx i i (by simp[hi])
    rw[hc] at hg
    have hxi:xs[i]?=some xs[i]:=by simp[hlen,hi]
    rw[hxi] at hg
    obtain⟨m,e1,e2,_⟩:=DataW.trod_int he hg
    have e3:(cs.drop (i*1)).take 1=[cs[i]]:=by
     rw[Nat.mul_one,List.drop_eq_getElem_cons h1];rfl
    rw[e3] at e1
    have e4:cs[i]=.int k m:=by simpa using e1
    have e5:(xs.map (·.1))[i]?=some (.lit (.int k m)):=by
     simp[hxi,e2]
    rw[hd1] at e5
    have e6:ns[i]?=some ns[i]:=by simp[hnl,hi]
    rw[List.getElem?_map,e6] at e5
    simp only[Option.map_some,Option.some.injEq,DataW.lit.injEq,Lit.int.injEq,true_and] at e5
    rw[e4,List.getElem_map,e5]
  ·cases h
def tab:List Int:=Lib.deBruijn32tab.map fun (n:Nat)=>(n:Int)
def tab64:List Int:=Lib.deBruijn64tab.map fun (n:Nat)=>(n:Int)
theorem Tq {W:World} (h:laidMet Tryz.prog Rows.topRightRow.laid W):V W:=by
 obtain⟨ps,⟨g,t,cs,fuel,p,q,h1,h2,h3,h4,⟨g',t',cs',fuel',p',q',k1,k2,k3,k4,_,hps'⟩,hps⟩,_,hz⟩:=h
 have hg:g=1:=Option.some.inj (h1.symm.trans (show _ = some 1 by kernel_rfl))
 subst hg
 have ht:t=295:=Option.some.inj (h2.symm.trans (show (Tryz.prog.globals[1]?).map (·.type)=some 295 by kernel_rfl))
 subst ht
 have hg':g'=2:=Option.some.inj (k1.symm.trans (show _ = some 2 by kernel_rfl))
 subst hg'
 have ht':t'=315:=Option.some.inj (k2.symm.trans (show (Tryz.prog.globals[2]?).map (·.type)=some 315 by kernel_rfl))
 subst ht'
 have hc:cs.toList=tab.map fun m=>.int .u8 m:=PN (n:=32) (e:=5) (k:=.u8) (by kernel_rfl) (by kernel_rfl) (by kernel_rfl) (by kernel_rfl) h4
 have hc':cs'.toList=tab64.map fun m=>.int .u8 m:=PN (n:=64) (e:=5) (k:=.u8) (by kernel_rfl) (by kernel_rfl) (by kernel_rfl) (by kernel_rfl) k4
 have hsz:cs.size=32:=by
  have:=congrArg List.length hc
  simpa[tab,Lib.deBruijn32tab] using this
 have hsz':cs'.size=64:=by
  have:=congrArg List.length hc'
  simpa[tab64,Lib.deBruijn64tab] using this
 obtain⟨⟨c,ty,hc1⟩,_⟩:=hz 1 0 (by
  rw[hps,hsz]
  simp[MemPlace.row])
 obtain⟨⟨c',ty',hc1'⟩,_⟩:=hz 2 0 (by
  rw[hps,hps',hsz']
  simp[MemPlace.row])
 have hv:=h3
 unfold World.var? at hv
 rw[h1] at hv
 simp only[Option.bind_some,hc1,Option.some.injEq] at hv
 subst hv
 have hv':=k3
 unfold World.var? at hv'
 rw[k1] at hv'
 simp only[Option.bind_some,hc1',Option.some.injEq] at hv'
 subst hv'
 exact ⟨⟨c',ty',hc1',by rw[hc'];simp[tab64]⟩,c,ty,hc1,by rw[hc];simp[tab]⟩
noncomputable def Pt (os:Os):World :=
 let w0:=World.holding Tryz.prog os ⟨#[],#[],[]⟩
 {w0 with heap:=(w0.heap.modify 1 fun
   |.cells _ t frozen=>.cells (tab.map fun m=>Value.int .u8 m).toArray t frozen
   |o=>o).modify 2 fun
   |.cells _ t frozen=>.cells (tab64.map fun m=>Value.int .u8 m).toArray t frozen
   |o=>o}
theorem Ny (os:Os) (args:Array Value):laidMetH Tryz.prog Rows.topRightRow.laid ((Pt os).forCall (fun _ _=>0) ⟨#[],args,[]⟩).memory :=
 laidMet_of_run' 8 (by kernel_rfl) (by kernel_rfl)
end Go.Proofs.YtmmkfcpdfnjgjaaGreatDoor
