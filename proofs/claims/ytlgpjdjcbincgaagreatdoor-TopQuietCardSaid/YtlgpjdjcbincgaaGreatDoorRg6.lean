/- Part of a proof: plain readings of Go functions, their contracts, or plain facts of them. -/
import Derived.Test.YtlgpjdjcbincgaaGreatDoorRg5
import Derived.ArgAppend
import Derived.Deep.RegionHeld
import Derived.Laws.CopyOwn
import Derived.Laws.MakeOwn
import Derived.Lib.BytesEntry
import Derived.Lib.Walk
import Derived.LoopIn
import Derived.LoopNIn
import Derived.LoopTactic
import Derived.OwnWalkIn
import Derived.RangeFuncBound
import Derived.RangeFuncBox
import Derived.RangeFuncCalls
import Derived.RangeFuncFrom
import Derived.RangeFuncLeaves
import Derived.RangeFuncRecord
import Derived.Shelf.Abstract
import Derived.Shelf.Bits.Mul64
import Derived.Shelf.Bytes.SlJoin
import Derived.Tactics
import Derived.TacticsInMore
import Derived.WalkKit
set_option linter.all false
namespace Go.Proofs.YtlgpjdjcbincgaaGreatDoor
open Go.Den Go.RowKit Go.ChangeShapes Go.Shelf
set_option maxRecDepth 100000
noncomputable section
def IA:K:=ku [] 79 Tryz.f79 {} [ζ,ζ,ζ] [Bo] fS B0 λx _=>AbZ x
def pS:K:=kp [IA] 80 Tryz.f80 {loops:=[(0,[.slot 48 ζ])]} [AS] [Bo] M4
def Kk:K:=ku [IA] 136 Tryz.f136 {loops:=[(0,[.slot 7 ζ])]} [Λ] [Bo] QB BX pT
def TU:K:=ku [] 203 Tryz.f203 {} [ζ] [U32] TV Ew zB
def TS:K:=ku [TU] 137 Tryz.f137 {} [U32,ζ] [Bo] TT Fz λx _=>zA x
def pR:K:=kp [Kk,TS,IA] 81 Tryz.f81 {loops:=[(0,[.slot 11 ζ]),(2,[.slot 39 ζ])]} [AS] [Bo] M3
def VU:K:=ku [Ro] 138 Tryz.f138 {} [U32] [ζ] Qv I1 λx _=>pC x
def NP:K:=ku [TU] 139 Tryz.f139 {} [U32,ζ] [U32] NQ C1 λx _=>dJ x
def UO:∀x:Int,denote (mkC Tryz.prog V []) 1 (AG Tryz.f205 {}) [U32] [ζ] false x=oH x:=λx=>by kernel_rfl
def UQ:BM Tryz.prog V 205 (spT [U32] [ζ] IF):=n8 (yM .nil stays IM (Ij Tryz.func205 (by kernel_rfl) (by kernel_rfl) (by kernel_rfl)) false UO) λx c=>Abv (AcK c)
def UP:K:=⟨205,.t (spT [U32] [ζ] IF),UQ⟩
def pB:K:=ku [UP] 140 Tryz.f140 {} [U32] [ζ] Qu I0 λx _=>pA x
def iZ:K:=kp [Kk,VU,NP,pB] 82 Tryz.f82 {loops:=[(0,[.slot 3 U32,.slot 11 ζ]),(2,[.slot 6 U32])]} [AS] [Bo] LB
def tE:K:=kp [IA,Kk] 83 Tryz.f83 {loops:=[(0,[.slot 8 ζ])]} [AS] [Bo] Oh
def VZ:K:=kp [TS,VU,NP] 141 Tryz.f141 {loops:=[(0,[.slot 6 ζ,.slot 13 ζ]),(2,[.slot 6 ζ,.slot 8 U32])]} [AS,ζ,ζ] [ζ] Kj
def V2:K:=kp [VZ] 86 Tryz.f86 {} [AS,ζ] [ζ] GY
def pU:K:=kp [V2,Kk] 84 Tryz.f84 {loops:=[(0,[.slot 3 ζ,.slot 8 ζ])]} [AS] [Bo] M5
def Xx:K:=kp [IA,V2] 48 Tryz.f48 {loops:=[(0,[.slot 5 ζ,.slot 39 ζ])]} [AS,EI] [Bo] K9
def dL:K:=kp [Xx] 85 Tryz.f85 {loops:=[(0,[.slot 8 ζ])]} [AS] [Bo] KQ
def B9:K:=kp [IA,pS,pR,iZ,tE,pU,dL] 47 Tryz.f47 {loops:=[(0,[.slot 3 Bo,.slot 5 ζ])]} [AS] [ζ] AD
def Tε:K:=kp [B9,Xx] 27 Tryz.f27 {} [AS,EI] [Bo,ζ] En
def fζ:BM Tryz.prog V 27 (spP [AS,EI] [Bo,ζ] En):=Tε.ok
def Yε:K:=ku [] 247 Tryz.f247 {} [ζ] [ζ] Zz BE λx _=>xQ x
def gζ:K:=ku [] 276 Tryz.f276 {} [ζ,ζ,ζ] [ζ] Rx E6 λx _=>rY x
def iζ:K:=ku [] 277 Tryz.f277 {} [ζ] [U64,Bo] Te Eb λx _=>xP x
def dζ:K:=ku [] 278 Tryz.f278 {} [U64,U64] [U64,U64] UN bits_Mul64 λx _=>lI x
def TF:K:=ku [] 50 Tryz.f50 {} [ζ,ζ,ζ] [Bo] oC D8 λx _=>Adf x
def sQ:K:=kp [TF] 31 Tryz.f31 {} [CE] [Bo] Od
def sP:K:=kp [B9,TF] 32 Tryz.f32 {loops:=[(0,[.slot 10 ζ,.map 3 ζ])]} [CE] [Bo] Oc
def Pm:K:=kp [] 100 Tryz.f100 {loops:=[(0,[.slot 8 ζ])]} [Λ,ζ] [ζ] EL
def Cr:K:=kp [Pm] 51 Tryz.f51 {} [Λ,ζ] [Bo] Bd
def oD:K:=kp [TF,Cr] 33 Tryz.f33 {loops:=[(0,[.slot 12 ζ,.map 3 ζ]),(2,[.slot 19 ζ,.map 3 ζ])]} [CE] [Bo] MK
def oE:K:=kp [TF] 34 Tryz.f34 {loops:=[(0,[.slot 11 ζ,.map 3 (Ty.pair ζ ζ)])]} [CE] [Bo] ML (d:=4) (il:=[(52,AG Tryz.f52 {}),(101,AG Tryz.f101 {loops:=[(0,[.slot 8 ζ])]}),(53,AG Tryz.f53 {})])
def Gv:K:=kp [sQ,sP,oD,oE] 18 Tryz.f18 {unr:=[(0,5)]} [CE] [ζ] Du
def Kc:K:=kp [Gv] 248 Tryz.f248 {loops:=[(0,[.own 5 ζ,.slot 6 ζ])]} [CE] [Λ,ζ] FO
def iN:K:=ku [] 249 Tryz.f249 {} [Ec,ζ] [Bo] Uh Em λx _=>iM x
def Vw:K:=ku [] 198 Tryz.f198 {} [ζ] [Bo] Vx EW λx _=>nN x
def Yc:K:=ku [] 251 Tryz.f251 {} [ζ,ζ] [Bo] LP Im λx _=>Yb x
def NK:K:=kp [Vw,Yc] 179 Tryz.f179 {loops:=[(0,[.slot 13 ζ])]} [Λ] [ζ,ζ,ζ] EG (d:=2) (il:=[(250,AG Tryz.f250 {loops:=[(0,[.slot 5 ζ,.slot 10 ζ])]})])
def nZ:K:=kp [Kc,iN,Cr,NK] 174 Tryz.f174 {loops:=[(0,[.slot 67 ζ]),(2,[.slot 85 ζ]),(4,[.slot 122 ζ])]} [CE,Cb] [Bo] MI
def Sx:K:=kp [Gv,nZ] 105 Tryz.f105 {} [CE,Cb] [ζ] GD
def yP:K:=kp [Gv] 128 Tryz.f128 {} [CE,ζ] [ζ,ζ] MJ (d:=3) (il:=[(196,AG Tryz.f196 {loops:=[(0,[.slot 8 ζ])]}),(197,AG Tryz.f197 {})])
def MxW (w0 w:World):Prop:=V w/\Below w0.heap.size w0 w
def jX {w0 w w'} (h:MxW w0 w) (c:Below w.heap.size w w'):MxW w0 w':=⟨stays _ _ c h.1,h.2.trans (c.mono h.2.size)⟩
def Ae4 {w0} x w (c:MxW w0 w) (d:inR .i64 x=true):Calls Tryz.prog 247 #[.int .i64 x] w λe w'=>e=.returned (.int .i64 (BE x))/\MxW w0 w'/\inR .i64 (BE x)=true :=
 (Yε.ok.calls w (λ_=>False) [.int .i64 x] x (BE x) c.1 (λ_ h=>h.elim) ⟨_,⟨rfl,d⟩,rfl⟩ rfl).mono λe w' ⟨rs,g,t,us,⟨h1,y⟩,E⟩=>by subst E h1;exact ⟨g,jX c t,y⟩
def Adc {w0} x w (c:MxW w0 w) (d:inR .i64 x=true):Calls Tryz.prog 276 #[.int .i64 x,.int .i64 0,.int .i64 65536] w λe w'=>e=.returned (.int .i64 (E6 (x,(0,65536))))/\MxW w0 w'/\inR .i64 (E6 (x,(0,65536)))=true :=
 (gζ.ok.calls w (λ_=>False) [.int .i64 x,.int .i64 0,.int .i64 65536] (x,((0:Int),(65536:Int))) (E6 (x,(0,65536))) c.1 (λ_ h=>h.elim) ⟨_,_,⟨rfl,d⟩,rfl,_,_,⟨rfl,rfl⟩,rfl,_,⟨rfl,rfl⟩,rfl⟩ rfl).mono λe w' ⟨rs,g,t,us,⟨h1,y⟩,E⟩=>by subst E h1;exact ⟨g,jX c t,y⟩
def Ae3 {w0} x w (d:MxW w0 w) (g:inR .i64 x=true):Calls Tryz.prog 277 #[.int .i64 x] w λe w'=>e=.returned (.tuple #[.int .u64 (Eb x).1,.bool (Eb x).2])/\MxW w0 w'/\inR .u64 (Eb x).1=true :=
 (iζ.ok.calls w (λ_=>False) [.int .i64 x] x (Eb x) d.1 (λ_ h=>h.elim) ⟨_,⟨rfl,g⟩,rfl⟩ rfl).mono λe w' ⟨rs,t,y,us,vs,⟨h1,E⟩,I,c,h4,J⟩=>by subst I h1 J;cases show c = _ from h4;exact ⟨t,jX d y,E⟩
def AgE {w0} x y w (d:MxW w0 w) (g:inR .u64 x=true) (t:inR .u64 y=true):Calls Tryz.prog 278 #[.int .u64 x,.int .u64 y] w λe w'=>e=.returned (.tuple #[.int .u64 (bits_Mul64 (x,y)).1,.int .u64 (bits_Mul64 (x,y)).2])/\MxW w0 w'/\inR .u64 (bits_Mul64 (x,y)).1=true/\inR .u64 (bits_Mul64 (x,y)).2=true :=
 (dζ.ok.calls w (λ_=>False) [.int .u64 x,.int .u64 y] (x,y) (bits_Mul64 (x,y)) d.1 (λ_ h=>h.elim) ⟨_,_,⟨rfl,g⟩,rfl,_,⟨rfl,t⟩,rfl⟩ rfl).mono λe w' ⟨rs,E,I,us,vs,⟨h1,J⟩,X,Y,⟨h4,c⟩,Z⟩=>by subst X h1 Z h4;exact ⟨E,jX d I,J,c⟩
def oB x:inR .i64 (wrap64 x)=true:=by unfold inR wrap64;simp only[Qab,decide_eq_true_eq];show -9223372036854775808<=_/\_<=9223372036854775807;omega
def AgF x:inR .u64 (IntKind.u64.wrap x)=true:=by rw[show IntKind.u64.wrap x=x%18446744073709551616 from rfl];unfold inR;simp only[Qab,decide_eq_true_eq];show 0<=_/\_<=18446744073709551615;omega
def Ahq {x} (h:inR .u64 x=true):0<=x:=by unfold inR at h;simp only[Qab,decide_eq_true_eq] at h;exact h.1
def Ad3 x:wr .i64 x=wrap64 x:=by unfold wr wrap64;rw[IntKind.wrap_i64]
def Abo x:AH .u64 x 16=x/65536:=by show x.fdiv 65536=x/65536<;>grind
def Ad2 {a b c} (h:(Eb (wrap64 (BE b-BE a))).2=false):Ii (a,(b,c))=wrap64 (BE a+wrap64 (bits .or .u64 (IntKind.u64.wrap ((bits_Mul64 ((Eb (wrap64 (BE b-BE a))).1,IntKind.u64.wrap (E6 (c,(0,65536))))).1*281474976710656)) ((bits_Mul64 ((Eb (wrap64 (BE b-BE a))).1,IntKind.u64.wrap (E6 (c,(0,65536))))).2/65536))):=by unfold Ii;simp only[Ao,Ad3,Abo];rw[h];rfl
def vD {a b c} (h:(Eb (wrap64 (BE b-BE a))).2=true):Ii (a,(b,c))=wrap64 (BE a-wrap64 (bits .or .u64 (IntKind.u64.wrap (IntKind.u64.wrap ((bits_Mul64 ((Eb (wrap64 (BE b-BE a))).1,IntKind.u64.wrap (E6 (c,(0,65536))))).1+((bits_Mul64 ((Eb (wrap64 (BE b-BE a))).1,IntKind.u64.wrap (E6 (c,(0,65536))))).2+65535)/18446744073709551616)*281474976710656)) (((bits_Mul64 ((Eb (wrap64 (BE b-BE a))).1,IntKind.u64.wrap (E6 (c,(0,65536))))).2+65535)%18446744073709551616/65536))):=by unfold Ii;simp only[Ao,Ad3,Abo];rw[h];rfl
def Ahp a b c:inR .i64 (Ii (a,(b,c)))=true:=by
 cases h:(Eb (wrap64 (BE b-BE a))).2
 .rw[Ad2 h];exact oB _
 .rw[vD h];exact oB _
set_option maxHeartbeats 1000000 in
def Ae5 (a b c:Int) (w0 w:World) (d:MxW w0 w) (g:inR .i64 a=true) (h:inR .i64 b=true) (t:inR .i64 c=true) :
 Calls Tryz.prog 199 #[.int .i64 a,.int .i64 b,.int .i64 c] w λe w'=>e=.returned (.int .i64 (Ii (a,(b,c))))/\MxW w0 w':=by
 go_enter Tryz.func199,Tryz.ntmps199;go_wp2_with (first|(go_at_call 247;refine (Ae4 (w0:=w0) _ _ (by assumption) (by assumption)).mono ?_;rintro _ _ ⟨rfl,_,_⟩)|(go_at_call 276;refine (Adc (w0:=w0) _ _ (by assumption) (by assumption)).mono ?_;rintro _ _ ⟨rfl,_,_⟩)|(go_at_call 277;refine (Ae3 (w0:=w0) _ _ (by assumption) (oB _)).mono ?_;rintro _ _ ⟨rfl,_,_⟩)|(go_at_call 278;refine (AgE (w0:=w0) _ _ _ (by assumption) (by assumption) (AgF _)).mono ?_;rintro _ _ ⟨rfl,_,_,_⟩))
 .rw[run_callFunc_extern Tryz.func279 (by kernel_rfl) (by kernel_rfl) (by kernel_rfl) (e:=add64Entry) (by kernel_rfl),run_add64 _ _ _ (Ahq (by assumption)) (by decide) (by decide) (by decide)];simp only[Result.andThen];rw[Oper.upon_value];go_wp2;go_ret;exact ⟨by rw[vD (by assumption)];rfl,by assumption⟩
 .go_ret;exact ⟨by rw[Ad2 (by assumption)];rfl,by assumption⟩
def AaW:BM Tryz.prog V 199 (spT [ζ,ζ,ζ] [ζ] Ii) where
 enters:=enters_of Tryz.func199 (by kernel_rfl) rfl
 tot:=λg hg x=>by cases hg;rfl
 calls:=λw F c x y d _ h t=>by cases t;obtain⟨us,vs,⟨h1,E⟩,I,J,X,⟨h4,Y⟩,h6,Z,⟨h7,h8⟩,h9⟩:=h;subst h9 h7 h6 h4 I h1;refine (Ae5 x.1 x.2.1 x.2.2 w w ⟨d,Below.refl _ _⟩ E Y h8).mono λe w' ⟨he,hB⟩=>⟨[.int .i64 (Ii x)],he,hB.2,_,⟨rfl,Ahp x.1 x.2.1 x.2.2⟩,rfl⟩
def AaV:K:=⟨199,.t (spT [ζ,ζ,ζ] [ζ] Ii),AaW⟩
def Zε:K:=ku [Vw,AaV] 129 Tryz.f129 {} [ζ,ζ,ζ] [ζ,ζ] G8 CA λx _=>Jb x
def mA:BM Tryz.prog V 175 (spP [Ty.slice Ec] [Ty.slice Ec] BJ true) :=
 C2 (e:=148) stays IM Tryz.func175 ⟨by kernel_rfl,rfl,by kernel_rfl,by kernel_rfl,by decide,⟨0,1,2,_,_,_,_,rfl,⟨rfl,rfl,rfl⟩,⟨rfl,rfl,rfl⟩,⟨rfl,⟨_,rfl⟩,rfl⟩,⟨rfl,rfl,rfl⟩⟩⟩ λl=>by kernel_rfl λy h=>(Qag ((show BJ []=some [] by kernel_rfl).symm.trans h)).symm
def U3:K:=⟨175,.t (spP [Dz] [Dz] BJ true),mA⟩
def lV:BM Tryz.prog V 176 (spP [Ty.slice Mh] [Ty.slice Mh] Ej true) :=
 C2 (e:=304) stays IM Tryz.func176 ⟨by kernel_rfl,rfl,by kernel_rfl,by kernel_rfl,by decide,⟨0,1,2,_,_,_,_,rfl,⟨rfl,rfl,rfl⟩,⟨rfl,rfl,rfl⟩,⟨rfl,⟨_,rfl⟩,rfl⟩,⟨rfl,rfl,rfl⟩⟩⟩ λl=>by kernel_rfl λy h=>(Qag ((show Ej []=some [] by kernel_rfl).symm.trans h)).symm
def U1:K:=⟨176,.t (spP [Hj] [Hj] Ej true),lV⟩
def gY:BM Tryz.prog V 177 (spP [Ty.slice Λ] [Ty.slice Λ] CY true) :=
 C2 (e:=149) stays IM Tryz.func177 ⟨by kernel_rfl,rfl,by kernel_rfl,by kernel_rfl,by decide,⟨0,1,2,_,_,_,_,rfl,⟨rfl,rfl,rfl⟩,⟨rfl,rfl,rfl⟩,⟨rfl,⟨_,rfl⟩,rfl⟩,⟨rfl,rfl,rfl⟩⟩⟩ λl=>by kernel_rfl λy h=>(Qag ((show CY []=some [] by kernel_rfl).symm.trans h)).symm
def Ub:K:=⟨177,.t (spP [jG] [jG] CY true),gY⟩
def lY:BM Tryz.prog V 178 (spP [Ty.slice ζ] [Ty.slice ζ] B7 true) :=
 C2 (e:=2) stays IM Tryz.func178 ⟨by kernel_rfl,rfl,by kernel_rfl,by kernel_rfl,by decide,⟨0,1,2,_,_,_,_,rfl,⟨rfl,rfl,rfl⟩,⟨rfl,rfl,rfl⟩,⟨rfl,⟨_,rfl⟩,rfl⟩,⟨rfl,rfl,rfl⟩⟩⟩ λl=>by kernel_rfl λy h=>(Qag ((show B7 []=some [] by kernel_rfl).symm.trans h)).symm
def Qε:K:=⟨178,.t (spP [Λ] [Λ] B7 true),lY⟩
def iO:K:=ks [U3,U1,Ub,Qε] 106 Tryz.f106 {loops:=[(0,[.slot 27 ζ,.fbox 1 Cb [0,1,2,3,4]])]} [Cb] [0,1,2,3,4] Cb DU
def fY:K:=ku [] 28 Tryz.f28 {} [] [AS] fZ Mc λx _=>Aca x
def zW:K:=ku [fY] 15 Tryz.f15 {} [] [CE] T4 T3 λx _=>zV x
def zX:K:=kp [] 9 Tryz.f9 {loops:=[(0,[.slot 6 ζ,.fbox 5 Wu [0,1,2]])]} [CE,U8] [Wu] Pr
def aQ:K:=kp [] 7 Tryz.f7 {} [] [CI] Pq
def cY:K:=kp [Gv] 35 Tryz.f35 {loops:=[(0,[.slot 30 ζ,.fbox 5 Cb [0,3]]),(2,[.slot 46 ζ,.fbox 5 Cb [3]])]} [CE] [Cb,ζ] KK
def OP:K:=ku [] 102 Tryz.f102 {} [CI] [ζ] OQ DS λx _=>gR x
def Mr:K:=ku [OP] 74 Tryz.f74 {} [CI] [ζ,ζ] P0 C9 λx _=>lK x
def Sw:K:=ku [Mr,OP] 54 Tryz.f54 {} [CI] [Bo] NL GU λx _=>cX x
def Ua:K:=ku [Mr] 130 Tryz.f130 {} [CI,ζ] [ζ] OR HG λx _=>gS x
def w6:K:=kp [] 131 Tryz.f131 {} [CI,ζ] [U8s] O9
def gT:BM Tryz.prog V 124 (spP [Ty.slice U8] [Ty.slice U8] Di true) :=
 C2 (e:=5) stays IM Tryz.func124 ⟨by kernel_rfl,rfl,by kernel_rfl,by kernel_rfl,by decide,⟨0,1,2,_,_,_,_,rfl,⟨rfl,rfl,rfl⟩,⟨rfl,rfl,rfl⟩,⟨rfl,⟨_,rfl⟩,rfl⟩,⟨rfl,rfl,rfl⟩⟩⟩ λl=>by kernel_rfl λy h=>(Qag ((show Di []=some [] by kernel_rfl).symm.trans h)).symm
def I7:K:=⟨124,.t (spP [U8s] [U8s] Di true),gT⟩
def UT:K:=kp [Ua,w6,I7] 75 Tryz.f75 {} [CI,ζ] [U8s,ζ] CZ
def fK:K:=kp [] 200 Tryz.f200 {loops:=[(0,[.slot 2 U64,.slot 16 ζ])]} [U8s] [U64,ζ] Iv
def SG:K:=kp [fK] 132 Tryz.f132 {} [U8s] [U64] CL
def TQ:K:=kp [] 133 Tryz.f133 {loops:=[(0,[.slot 5 U64,.slot 10 ζ])]} [U8s] [U64,ζ,ζ] EZ
def Ni:K:=kpp [TQ] 280 Tryz.f280 {} LW [ζ] LW [ζ] Ch
def SE:K:=kpp [Ni] 281 Tryz.f281 {loops:=[(0,[.own 5 ζ,.slot 7 ζ,.box 0 LW])]} LW [ζ] LW [Λ] DF
def T1:K:=kpp [Ni,SE] 201 Tryz.f201 {loops:=[(0,[.own 2 EI,.slot 8 ζ,.box 0 LW])]} LW [] LW [Ov] D5
def RN:K:=kp [] 190 Tryz.f190 {loops:=[(0,[.slot 0 U64,.own 3 U8])]} [U64] [U8s] DV (fr:=true)
def QA:K:=kp [Kk,IA,RN] 113 Tryz.f113 {loops:=[(0,[.slot 18 ζ,.own 4 U8]),(2,[.slot 56 ζ,.own 4 U8])]} [Ov] [U8s,ζ] Is (d:=2) (il:=[(189,AG Tryz.f189 {loops:=[(0,[.own 0 U8,.slot 9 ζ])]})])
def Ln:K:=ku [] 127 Tryz.f127 {} [U8s,U8s] [Bo] OS bytes_Equal λx _=>gU x
def pQ:K:=kp [T1,QA,Ln] 134 Tryz.f134 {} [U8s] [Ov,ζ] Ir
def fL:K:=kp [] 191 Tryz.f191 {loops:=[(0,[.slot 29 ζ,.arr 26 U8])]} [U64,ζ] [U8s,ζ] Iw
def Ahm:Ren:=⟨λn=>if n=14 then 202 else 282,λt=>if t=22 then 29 else if t=26 then 45 else t,λn=>n⟩
def AeV:SlLaysJ.n14 Tryz.prog Ahm where
 mixed:=by kernel_rfl
 f14:=by kernel_rfl
 f15:=by kernel_rfl
 t0:=by kernel_rfl
 a0:=λw=>by kernel_rfl
 z0:=λw=>by kernel_rfl
 v0:=λw=>by kernel_rfl
 t3:=by kernel_rfl
 a3:=λw=>by kernel_rfl
 z3:=λw=>by kernel_rfl
 v3:=λw=>by kernel_rfl
 t4:=by kernel_rfl
 a4:=λw=>by kernel_rfl
 z4:=λw=>by kernel_rfl
 v4:=λw=>by kernel_rfl
 t9:=by kernel_rfl
 a9:=λw=>by kernel_rfl
 z9:=λw=>by kernel_rfl
 v9:=λw=>by kernel_rfl
 t20:=by kernel_rfl
 a20:=λw=>by kernel_rfl
 z20:=λw=>by kernel_rfl
 v20:=λw=>by kernel_rfl
 t22:=by kernel_rfl
 a22:=λw=>by kernel_rfl
 z22:=λw=>by kernel_rfl
 v22:=λw=>by kernel_rfl
 t26:=by kernel_rfl
 a26:=λw=>by kernel_rfl
 z26:=λw=>by kernel_rfl
 v26:=λw=>by kernel_rfl
 t5:=by kernel_rfl
 z5:=λw=>by kernel_rfl
 i5:=by kernel_rfl
def vB {w O}:∀ {l:List Int} {vs},ξ (Reads w O U8) l vs->vs=l.map (λn=>Value.int .u8 n)/\∀n∈l,0<=n/\n<=255
 |[],vs,h=>⟨h,λn c=>by cases c⟩
 |n::l,vs,⟨I,J,e,⟨g,t⟩,y⟩=>by
  obtain⟨k1,E⟩:=vB y;subst e g k1;have c:0<=n/\n<=255:=by
   unfold inR at t;have e3:IntKind.u8.min<=n/\n<=IntKind.u8.max:=by simp_all
   exact e3
  refine ⟨rfl,λm d=>?_⟩;rcases List.mem_cons.1 d with rfl|d
  .exact c
  .exact E m d
def cR {n} (h:0<=n/\n<=255):((UInt8.ofNat n.toNat).toNat:Int)=n:=by simp only[Qgb];omega
def Vr:∀ {a b},(∀n∈a,0<=n/\n<=255)->(∀n∈b,0<=n/\n<=255)->Lib.bytesOf a=Lib.bytesOf b->a=b
 |[],[],_,_,_=>rfl
 |[],_::_,_,_,h=>by simp[Lib.bytesOf] at h
 |_::_,[],_,_,h=>by simp[Lib.bytesOf] at h
 |x::a,y::b,d,g,h=>by simp only[Lib.bytesOf,Qcu,Qdo] at h;have e:=congrArg (λu:UInt8=>(u.toNat:Int)) h.1;simp only[cR (d x (Qbr ..)),cR (g y (Qbr ..))] at e;rw[e,Vr (λn c=>d n (Qak _ c)) (λn c=>g n (Qak _ c)) h.2]
def m9 {w O vs} {l:List Int} (h:Reads w O U8s l vs):∃v,vs=[v]/\Lib.HoldsBytes w v (Lib.bytesOf l)/\∀n∈l,0<=n/\n<=255:=by
 obtain⟨a,cap,rfl,Y,Z,c⟩:=h;refine ⟨_,rfl,?_⟩;rcases c with h0|⟨b,off,cells,rfl,_,hb,g,t⟩
 .have:l=[]:=Qad h0;subst this;exact ⟨⟨a,cap,rfl,λ_=>rfl,λ_ _ i x d=>by simp[Lib.bytesOf] at d⟩,λn y=>by cases y⟩
 .obtain⟨h1,I⟩:=vB t;refine ⟨⟨some ⟨b,off,none⟩,cap,by rw[Lib.bytesOf_length];exact rfl,λJ=>(by cases J),λp X i x d=>?_⟩,I⟩;cases X;unfold Lib.bytesOf at d;rw[Qbf,Qdm] at d;obtain⟨n,y,rfl⟩:=d;rw[cR (I n (Qcn y))];have:=g i (.int .u8 n) (by simp_all);rw[<-this];by_cases E:i=0<;>simp[Addr.add,E]
def nA {w O}:∀ {l:List (List Int)} {vs},ξ (Reads w O U8s) l vs->vs.length=l.length/\(∀(i:Nat) v x,vs[i]?=some v->l[i]?=some x->Lib.HoldsBytes w v (Lib.bytesOf x))/\∀x∈l,∀n∈x,0<=n/\n<=255
 |[],vs,h=>by have h':vs=[]:=h<;>simp_all
 |y::l,vs,⟨g,t,e,c,d⟩=>by obtain⟨k1,E,I⟩:=nA d;obtain⟨v,rfl,J,e3⟩:=m9 c;subst e<;>grind
def AeU (l:List (List Int)):Lib.join (l.map Lib.bytesOf) []=Lib.bytesOf l.flatten:=by
 cases l with
 |nil=>rfl
 |cons x r =>rw[Qcu,Lib.join_cons];unfold Lib.joinTail;simp only[Qaz,List.map_id'];rw[List.flatten_cons];unfold Lib.bytesOf<;>simp_all
def AeW (l:List (List Int)):Lib.lens (l.map Lib.bytesOf)=l.flatten.length:=by unfold Lib.lens;rw[List.length_flatten,List.map_map];congr 1;exact List.map_congr_left λx _=>Lib.bytesOf_length x
def nB {w O}:∀ {l:List Int},(∀n∈l,0<=n/\n<=255)->ξ (Reads w O U8) l (l.map λn=>Value.int .u8 n)
 |[],_=>rfl
 |n::l,h=>⟨[.int .u8 n],l.map λn=>Value.int .u8 n,rfl,⟨rfl,by have:=h n (Qbr ..);unfold inR;simp only[Qab,decide_eq_true_eq];exact this⟩,nB λm c=>h m (Qak _ c)⟩
def Ac5 w F d (l:List (List Int)) (sep:List Int) y (hF:∀b,F b->b<w.heap.size) (hr:BP w F [Jt,U8s] (l,sep) d) (I:GK (l,sep)=some y) :
 Calls Tryz.prog 202 d.toArray w λe w'=>∃rs,e=.returned (Cp rs)/\Below w.heap.size w w'/\Gd w.heap.size w' F false [U8s] y rs:=by
 have Z:2<=l.length/\sep=[]/\l.length<=1000000/\l.flatten.length<=1000000/\y=l.flatten:=by
  unfold GK at I;split at I
  .rename_i a b r e;obtain⟨rfl,rfl⟩:=Qds e;split at I
   .rename_i c;unfold Aa at c<;>grind
   .cases I
  .cases I
 obtain⟨h2,rfl,h3,h4,rfl⟩:=Z;obtain⟨us,ag,a1,rfl,a6,J,rfl⟩:=hr;obtain⟨sv,rfl,a7,_⟩:=m9 (show Reads w F U8s [] a6 from J);obtain⟨a,cap,rfl,Z,hm,X⟩:=a1;rcases X with h0|⟨b,off,cells,rfl,_,hb,a8,aa⟩
 .have:l.length=0:=h0;omega
 obtain⟨k1,k2,k3⟩:=nA (show ξ (Reads w F U8s) l cells from aa);have hP:Lib.PartsAt w ⟨b,off,none⟩ cells (l.map Lib.bytesOf):=by
  refine ⟨by rw[k1,Qdx],λi v hv=>?_,λi v x hv hx=>?_⟩
  .have:=a8 i v hv;rw[<-this];by_cases ab:i=0<;>simp[Addr.add,ab]
  grind
 have Y:∀n∈l.flatten,0<=n/\n<=255:=λn h=>by obtain⟨x,hx,ah⟩:=List.mem_flatten.1 h<;>grind
 refine (Any.bytes_Join_many AeV b off l.length cap cells (l.map Lib.bytesOf) sv (Lib.bytesOf []) w (by rw[Qdx]) h2 hP Z a7 (by omega) (by rw[AeW,show (Lib.bytesOf []).length=0 from rfl,Nat.zero_mul];omega)).mono ?_;rintro e w' ⟨v',rfl,⟨g,c2,zs,rfl,hg,t,ad,hz,ae,E,hc,_⟩,hB⟩;rw[show Lib.bytesOf []=[] from rfl,AeU] at E t ⊢;rw[Lib.bytesOf_length] at E t ⊢;refine ⟨[.slice (some ⟨g,0,none⟩) l.flatten.length c2],rfl,hB,[.slice (some ⟨g,0,none⟩) l.flatten.length c2],⟨some ⟨g,0,none⟩,c2,rfl,t,ad,?_⟩,rfl⟩;by_cases h:l.flatten.length=0
 .exact .inl h
 .refine .inr ⟨g,0,l.flatten.map λn=>Value.int .u8 n,rfl,λhh=>by have:=hF g hh;omega,?_,λj v hj=>?_,nB Y⟩
  .exact World.block_lt_of_cell? w' ⟨g,0,none⟩ (hc 0 (by omega))
  .rw[Qbf,Qdm] at hj;obtain⟨n,h,rfl⟩:=hj;have af:= (List.getElem?_eq_some_iff.1 h).1;rw[Qbm,hc j (by omega)];have:zs[j]?=some n:=by
    have e:(zs.take l.flatten.length)[j]?=some n:=by rw[Vr λn h=>by have:=ae n (Qde h);omega Y E];exact h
    rw[Qbg,if_pos af] at e;exact e
   rw[Qba,this];rfl
def lP:BM Tryz.prog V 202 (spP [Jt,U8s] [U8s] GK) where
 enters:=enters_of Tryz.func202 (by kernel_rfl) rfl
 tot:=λg hg=>by cases hg
 calls:=λw F c x y _ hF d h=>Ac5 w F c x.1 x.2 y hF d h
def lO:K:=⟨202,.t (spP [Jt,U8s] [U8s] GK),lP⟩
def SF:K:=kp [QA,RN,fL,lO] 135 Tryz.f135 {loops:=[(0,[.own 12 U8s,.slot 74 ζ])]} [YM,ζ] [Jt,ζ] Cg
def OL:K:=kpp [SG,TQ,pQ,SF,Ln] 76 Tryz.f76 {loops:=[(0,[.own 2 U8,.slot 20 ζ]),(2,[.slot 109 ζ])]} YO [] YO [] A8
def Km:K:=kp [Mr,UT,OL] 25 Tryz.f25 {} [CI] [YM,ζ] E4 (d:=4) (il:=[(44,AG Tryz.f44 {unr:=[(0,3)],loops:=[(2,[.slot 30 ζ,.nbox YO [3]])]}),(45,AG Tryz.f45 {}),(77,AG Tryz.f77 {})])
def Qx:K:=kp [] 299 Tryz.f299 {} [AS,ζ,ζ] [Bo] FU
def SD:K:=kp [] 303 Tryz.f303 {} [AS,ζ,ζ] [ζ] GF
def Rb:K:=kp [Qx,SD] 246 Tryz.f246 {loops:=[(0,[.slot 3 ζ,.slot 9 ζ]),(2,[.slot 3 ζ,.slot 15 ζ])]} [AS] [ζ] C3
def pJ:K:=kp [Rb] 173 Tryz.f173 {loops:=[(0,[.slot 10 ζ,.fown 3 .unit O7 (.pair ζ Bo)])]} [AS] [Ge] MX
def pG:K:=kp [B9,pJ] 103 Tryz.f103 {} [AS] [Ge,ζ] MV
def AaF:BM Tryz.prog V 68 (spP [Ty.slice U8] [Ty.slice U8] FJ true) :=
 C2 (e:=5) stays IM Tryz.func68 ⟨by kernel_rfl,rfl,by kernel_rfl,by kernel_rfl,by decide,⟨0,1,2,_,_,_,_,rfl,⟨rfl,rfl,rfl⟩,⟨rfl,rfl,rfl⟩,⟨rfl,⟨_,rfl⟩,rfl⟩,⟨rfl,rfl,rfl⟩⟩⟩ λl=>by kernel_rfl λy h=>(Qag ((show FJ []=some [] by kernel_rfl).symm.trans h)).symm
def QU:K:=⟨68,.t (spP [U8s] [U8s] FJ true),AaF⟩
def cT:K:=ku [] 104 Tryz.f104 {} [U8] [QN] NI Dk λx _=>cS x
def Ug:K:=kp [Km,pG,QU,cT] 55 Tryz.f55 {} [AS,CI] [H7] Jc
def Uf:K:=kp [B9,Sw,Ug] 36 Tryz.f36 {} [AS,CI] [H7,ζ] G9
def dI:K:=kp [cY,Uf] 20 Tryz.f20 {loops:=[(0,[.slot 46 ζ,.box 4 H8,.fbox 9 H8 [0]])]} [CE,Nk] [H8,ζ] KP
def E2:K:=kp [] 37 Tryz.f37 {loops:=[(0,[.slot 3 ζ,.slot 11 ζ]),(2,[.slot 27 ζ,.own 6 U8])]} [Jt] [U8s] BS (d:=2) (il:=[(56,AG Tryz.f56 {})])
def Yq:K:=kp [E2] 21 Tryz.f21 {loops:=[(0,[.slot 37 ζ])]} [CE,Wu] [ζ] IY
def hX:BM Tryz.prog V 57 (spP [Ty.slice H7] [Ty.slice H7] G4 true) :=
 C2 (e:=78) stays IM Tryz.func57 ⟨by kernel_rfl,rfl,by kernel_rfl,by kernel_rfl,by decide,⟨0,1,2,_,_,_,_,rfl,⟨rfl,rfl,rfl⟩,⟨rfl,rfl,rfl⟩,⟨rfl,⟨_,rfl⟩,rfl⟩,⟨rfl,rfl,rfl⟩⟩⟩ λl=>by kernel_rfl λy h=>(Qag ((show G4 []=some [] by kernel_rfl).symm.trans h)).symm
def gZ:K:=⟨57,.t (spP [bF] [bF] G4 true),hX⟩
def gX:BM Tryz.prog V 58 (spP [Ty.slice U8s] [Ty.slice U8s] E5 true) :=
 C2 (e:=29) stays IM Tryz.func58 ⟨by kernel_rfl,rfl,by kernel_rfl,by kernel_rfl,by decide,⟨0,1,2,_,_,_,_,rfl,⟨rfl,rfl,rfl⟩,⟨rfl,rfl,rfl⟩,⟨rfl,⟨_,rfl⟩,rfl⟩,⟨rfl,rfl,rfl⟩⟩⟩ λl=>by kernel_rfl λy h=>(Qag ((show E5 []=some [] by kernel_rfl).symm.trans h)).symm
def gW:K:=⟨58,.t (spP [Jt] [Jt] E5 true),gX⟩
def lX:BM Tryz.prog V 59 (spP [Ty.slice NX] [Ty.slice NX] Ig true) :=
 C2 (e:=70) stays IM Tryz.func59 ⟨by kernel_rfl,rfl,by kernel_rfl,by kernel_rfl,by decide,⟨0,1,2,_,_,_,_,rfl,⟨rfl,rfl,rfl⟩,⟨rfl,rfl,rfl⟩,⟨rfl,⟨_,rfl⟩,rfl⟩,⟨rfl,rfl,rfl⟩⟩⟩ λl=>by kernel_rfl λy h=>(Qag ((show Ig []=some [] by kernel_rfl).symm.trans h)).symm
def lW:K:=⟨59,.t (spP [kD] [kD] Ig true),lX⟩
def rR:BM Tryz.prog V 60 (spP [Ty.slice U32] [Ty.slice U32] Jn true) :=
 C2 (e:=68) stays IM Tryz.func60 ⟨by kernel_rfl,rfl,by kernel_rfl,by kernel_rfl,by decide,⟨0,1,2,_,_,_,_,rfl,⟨rfl,rfl,rfl⟩,⟨rfl,rfl,rfl⟩,⟨rfl,⟨_,rfl⟩,rfl⟩,⟨rfl,rfl,rfl⟩⟩⟩ λl=>by kernel_rfl λy h=>(Qag ((show Jn []=some [] by kernel_rfl).symm.trans h)).symm
def rQ:K:=⟨60,.t (spP [wF] [wF] Jn true),rR⟩
def iX:K:=ks [gZ,gW,lW,rQ] 38 Tryz.f38 {} [H8] [0,6,7,8,9,10] H8 Lz
def QJ:K:=kq [] 180 Tryz.f180 {} 14 [(1,Af7),(9,Λ)] [ζ] [Λ] Fe
def cC:K:=ku [] 305 Tryz.f305 {} [ζ] [Bo] Sp JL λx _=>cB x
def U7:K:=kp [cC] 252 Tryz.f252 {} [Λ] [Bo] JM (d:=3) (il:=[(52,AG Tryz.f52 {}),(101,AG Tryz.f101 {loops:=[(0,[.slot 8 ζ])]})])
def mF:K:=kp [Kc] 253 Tryz.f253 {} [CE,ζ] [ζ,ζ] Mu
def OU:K:=kp [U7] 254 Tryz.f254 {} [Ec,ζ,ζ] [Ec,ζ] Es
def mE:K:=kp [Kc,U7,Cr,mF,OU] 181 Tryz.f181 {} [CE,Ec,ζ] [Ec,ζ] Mt
def gC:K:=ku [] 255 Tryz.f255 {} [Mh] [Bo] gD Md λx _=>Ach x
def zZ:K:=kp [Kc,gC,Cr] 182 Tryz.f182 {} [CE,ζ,Mh,ζ,ζ] [Mh,ζ] Pt
def oI:K:=kp [Gv] 306 Tryz.f306 {} [CE,ζ] [ζ] MN
def dF:K:=kp [oI] 256 Tryz.f256 {} [CE,ζ,Ec] [ζ] KL
def iQ:K:=kp [NK] 257 Tryz.f257 {} [CE,ζ,Λ] [ζ,ζ] Lt
def iP:K:=kp [dF,iQ,OU] 183 Tryz.f183 {} [CE,ζ,Ec,Λ] [Ec,ζ] Ls
def dW:K:=ku [gC] 308 Tryz.f308 {} [Mh] [Bo] NT Kr λx _=>dV x
def Wi:K:=kp [Gv,dW] 258 Tryz.f258 {} [CE,Hj] [ζ] Ks (d:=3) (il:=[(307,AG Tryz.f307 {}),(321,AG Tryz.f321 {loops:=[(0,[.slot 8 ζ])]})])
def Wk:K:=kp [Kc,Cr] 259 Tryz.f259 {} [CE,Λ] [ζ] Ku (d:=4) (il:=[(52,AG Tryz.f52 {}),(101,AG Tryz.f101 {loops:=[(0,[.slot 8 ζ])]}),(309,AG Tryz.f309 {})])
def Wl:K:=kj [] 261 Tryz.f261 {loops:=[(0,[.slot 19 ζ,.arr 5 ζ]),(2,[.slot 30 ζ,.arr 5 ζ]),(4,[.slot 57 ζ,.arr 5 ζ])]} 0 [.arr 5 ζ] [CE,Hj] [Λ] Kv
def rP:BM Tryz.prog V 119 (spP [Ty.slice ζ] [Ty.slice ζ] Ek true) :=
 C2 (e:=3) stays IM Tryz.func119 ⟨by kernel_rfl,rfl,by kernel_rfl,by kernel_rfl,by decide,⟨0,1,2,_,_,_,_,rfl,⟨rfl,rfl,rfl⟩,⟨rfl,rfl,rfl⟩,⟨rfl,⟨_,rfl⟩,rfl⟩,⟨rfl,rfl,rfl⟩⟩⟩ λl=>by kernel_rfl λy h=>(Qag ((show Ek []=some [] by kernel_rfl).symm.trans h)).symm
def Rt:K:=⟨119,.t (spP [Λ] [Λ] Ek true),rP⟩
def Wj:K:=kp [Wl,Rt] 260 Tryz.f260 {loops:=[(0,[.slot 19 ζ,.arr 8 ζ]),(2,[.slot 24 ζ,.arr 8 ζ])]} [CE,Hj,Λ] [Λ] Kt (fr:=true)
def qK:K:=kp [Wi,Wk,Wj] 184 Tryz.f184 {} [CE,Hj,Λ] [Λ,ζ] Nc (fr:=true)
def jE:K:=kp [Wi,Wk,Wj,Wl] 185 Tryz.f185 {loops:=[(0,[.slot 38 ζ]),(2,[.slot 78 ζ,.arr 15 ζ,.map 16 ζ]),(4,[.slot 19 Bo,.arr 15 ζ,.map 16 ζ]),(6,[.slot 93 ζ,.slot 19 Bo,.arr 15 ζ,.map 16 ζ])]} [CE,Hj,Dz,Λ] [Λ,ζ] LH (fr:=true)
def Abp:K:=kp [Gv,Cr] 186 Tryz.f186 {} [CE,ζ] [ζ,ζ] Q5 (d:=3) (il:=[(262,AG Tryz.f262 {loops:=[(0,[.slot 8 ζ])]}),(263,AG Tryz.f263 {})])
def V7:K:=ku [] 265 Tryz.f265 {} [AS] [ζ] V8 Cf λx _=>pZ x
def V9:K:=ku [] 266 Tryz.f266 {} [ζ] [Bo] Wa Gl λx _=>p9 x
def Yw:K:=ku [] 323 Tryz.f323 {} [ζ] [Bo] QC It λx _=>Yv x
def dP:K:=kp [Yw] 310 Tryz.f310 {} [Λ] [ζ] KR (d:=3) (il:=[(322,AG Tryz.f322 {}),(324,AG Tryz.f324 {loops:=[(0,[.slot 8 ζ])]})])
def Xs:K:=kp [] 228 Tryz.f228 {} [AS,ζ] [ζ] HQ
def pP:K:=kp [VZ,B9,IA] 283 Tryz.f283 {joins:=[(2,[])],outs:=[(2,[(8,ζ)])]} [AS,ζ,ζ] [ζ,ζ] M1 (d:=3) (il:=[(315,AG Tryz.f315 {loops:=[(0,[.slot 17 ζ])]}),(316,AG Tryz.f316 {})])
def VM:K:=kp [Xs,pP] 206 Tryz.f206 {} [AS,ζ] [ζ] Io
def Qr:K:=kp [B9,VM] 143 Tryz.f143 {loops:=[(0,[.slot 54 ζ,.slot 8 ζ,.slot 9 ζ,.slot 10 ζ,.fown 7 (.pair ζ ζ) ζ .unit,.arr 11 ζ]),(2,[.slot 115 ζ,.slot 15 ζ,.fown 7 (.pair ζ ζ) ζ .unit])],joins:=[(14,[.fown 7 (.pair ζ ζ) ζ .unit,.arr 11 ζ]),(16,[.slot 10 ζ,.fown 7 (.pair ζ ζ) ζ .unit,.arr 11 ζ])]} [AS,EI] [EI,ζ] EY
def Um:K:=kp [Qr] 267 Tryz.f267 {loops:=[(0,[.slot 28 ζ,.fown 7 (.pair ζ (.pair ζ .unit)) ζ .unit])]} [AS,ζ,ζ] [EI] Hc
def jC:K:=kp [] 311 Tryz.f311 {loops:=[(0,[.slot 7 ζ,.slot 13 ζ])]} [EI,EI,Λ] [ζ] Jf
def dO:K:=ku [] 313 Tryz.f313 {} [wB,wB] [ζ] NS Kl λx _=>dN x
def pY:K:=kp [B9,V7,V9,dP,Um,jC,dO] 264 Tryz.f264 {loops:=[(0,[.slot 68 ζ,.own 13 wB])]} [AS,Ec,ζ,Λ] [ζ,ζ] M7 (d:=2) (il:=[(312,AG Tryz.f312 {loops:=[(0,[.slot 6 ζ,.box 5 wB])]})])
def pX:K:=kp [pY,OU] 187 Tryz.f187 {} [AS,Ec,ζ,Λ] [Ec,ζ] M6
def jB:K:=kp [B9,V7,V9,Um] 188 Tryz.f188 {} [AS,ζ,ζ] [EI,ζ] LC
def iJ:K:=kp [Sx,iO,QJ,NK,mE,zZ,iP,qK,jE,Abp,pX,jB] 61 Tryz.f61 {unr:=[(0,6)]} [CE,Cb] [Cb,dY,ζ] Lr (d:=7) (il:=[(180,AG Tryz.f180 {}),(107,AG Tryz.f107 {loops:=[(0,[.slot 12 ζ,.fbox 0 YJ [6,7,8,10,13]])]}),(108,AG Tryz.f108 {loops:=[(0,[.slot 10 ζ,.fbox 0 YJ [7,8,10,13]])]}),(109,AG Tryz.f109 {loops:=[(0,[.slot 10 ζ,.fbox 0 YJ [7,10,13]])]}),(110,AG Tryz.f110 {loops:=[(0,[.slot 11 ζ,.own 2 ζ,.fbox 0 YJ [10,13]])]}),(111,AG Tryz.f111 {loops:=[(0,[.slot 14 ζ,.fbox 0 YJ [10,13]])]})])
def Xo:K:=ku [] 62 Tryz.f62 {} [U32] [U32,ζ] RF Ht λx _=>sL x
def Vt:K:=ku [] 112 Tryz.f112 {} [ζ] [Bo] Vu IS λx _=>nM x
def ZO:K:=ko [RN] 114 Tryz.f114 {loops:=[(0,[.own 0 U8,.slot 9 ζ])]} U8 [Λ] U8 [] IQ
def Sv:K:=kp [Vt,QA,ZO] 63 Tryz.f63 {} [SU] [U8s,ζ] GC
def fM:K:=kp [] 192 Tryz.f192 {loops:=[(0,[.slot 4 U32,.slot 10 ζ,.arr 3 U32])],unr:=[]} [U8s] [U32] Ke
def cO:K:=kp [fL,fM] 115 Tryz.f115 {} [No] [U8s,ζ] KG (fr:=true)
def iC:K:=kp [] 116 Tryz.f116 {loops:=[(0,[.own 3 U8,.slot 11 ζ])]} [U8s] [U8s] Lp (fr:=true)
def Uc:K:=kp [cO,iC] 64 Tryz.f64 {} [No] [U8s,ζ] G6
def uC:K:=kp [I7] 117 Tryz.f117 {} [U8s,U8s,U8,ζ] [U8s,U8s,ζ] On
def iW:K:=kp [uC] 65 Tryz.f65 {} [U8s,U8s,U8,ζ] [U8s,U8s] F9
def Qo:K:=ku [] 268 Tryz.f268 {} [ζ] [Bo] Vz DB λx _=>nS x
def pK:K:=kp [] 237 Tryz.f237 {loops:=[(0,[.slot 13 ζ,.arr 9 U8])]} [Ge] [U8s] MY (fr:=true)
def Qy:K:=kp [] 238 Tryz.f238 {} [U8s] [Bo] Iq (d:=4) (il:=[(232,AG Tryz.f232 {}),(296,AG Tryz.f296 {loops:=[(0,[.slot 8 ζ])]}),(298,AG Tryz.f298 {})])
def aA:K:=ku [] 242 Tryz.f242 {} [U8] [Bo] TY DQ λx _=>zF x
def Xw:K:=kp [aA,Qx] 239 Tryz.f239 {loops:=[(0,[.slot 9 ζ]),(2,[.slot 18 ζ])]} [AS,U8s] [Bo] HU
def zE:K:=kp [pK,Qy,Xw] 167 Tryz.f167 {} [AS,Ge] [Bo] Pj
def Ng:K:=kp [] 300 Tryz.f300 {loops:=[(0,[.slot 8 ζ])]} [U8s,U8] [ζ] DI
def LU:K:=kp [Ng] 240 Tryz.f240 {} [U8s,U8] [Bo] De
def RC:K:=ku [] 297 Tryz.f297 {} [ζ] [ζ] RD DL λx _=>sH x
def sG:K:=ku [] 301 Tryz.f301 {} [U8] [Bo] Xl Hr λx _=>sF x
def cW:K:=ku [] 302 Tryz.f302 {} [U8,U8] [Bo] Su GP λx _=>cV x
def yF:K:=ku [RC,sG,cW] 243 Tryz.f243 {} [YL,O7,U8] [U8] Tp DK λx _=>yE x
def pH:K:=kp [Qx,SD] 244 Tryz.f244 {loops:=[(0,[.slot 14 ζ]),(2,[.slot 32 ζ])]} [AS,Ge,U8s] [Bo] Ip
def pI:K:=kp [Qy,LU,yF,Xw,pH,aA] 168 Tryz.f168 {loops:=[(1,[.slot 38 ζ])],joins:=[(8,[])],outs:=[(8,[(23,Bo)])]} [AS,Ge,U8s] [U8] MW (d:=4) (il:=[(232,AG Tryz.f232 {}),(296,AG Tryz.f296 {loops:=[(0,[.slot 8 ζ])]}),(241,AG Tryz.f241 {})])
def lZ:BM Tryz.prog V 169 (spP [Ty.slice O7] [Ty.slice O7] GL true) :=
 C2 (e:=278) stays IM Tryz.func169 ⟨by kernel_rfl,rfl,by kernel_rfl,by kernel_rfl,by decide,⟨0,1,2,_,_,_,_,rfl,⟨rfl,rfl,rfl⟩,⟨rfl,rfl,rfl⟩,⟨rfl,⟨_,rfl⟩,rfl⟩,⟨rfl,rfl,rfl⟩⟩⟩ λl=>by kernel_rfl λy h=>(Qag ((show GL []=some [] by kernel_rfl).symm.trans h)).symm
def U2:K:=⟨169,.t (spP [kE] [kE] GL true),lZ⟩
def sJ:K:=ku [RC] 304 Tryz.f304 {} [ζ] [ζ] RE J8 λx _=>sI x
def sB:K:=ku [sJ] 245 Tryz.f245 {} [YL,O7,U8] [O7] RA J7 λx _=>sA x
def iY:K:=kp [U2,Qy,sB,Rb] 170 Tryz.f170 {loops:=[(0,[.slot 23 ζ,.arr 21 O7])]} [AS,Ge,U8s] [Ge] LA
def RV:K:=kp [B9,zE,pI,U2,iY] 96 Tryz.f96 {} [AS,Ge,U8s] [Ge,U8,ζ] HT
def r8:K:=kp [RV] 231 Tryz.f231 {loops:=[(0,[.slot 23 ζ,.arr 20 U8])],joins:=[(9,[.arr 20 U8])]} [AS,Ge] [Bo] N6 (d:=4) (il:=[(294,AG Tryz.f294 {}),(320,AG Tryz.f320 {loops:=[(0,[.slot 8 ζ])]}),(295,AG Tryz.f295 {})])
def Vk:K:=kp [B9,r8] 165 Tryz.f165 {} [AS,Ge] [ζ] J2
def ZE:K:=kp [] 234 Tryz.f234 {loops:=[(0,[.slot 11 ζ,.arr 8 U8])]} [ζ,U8] [U8s] IL (fr:=true)
def sD:K:=ku [RC] 235 Tryz.f235 {} [YL,O7,U8] [U8] RB FN λx _=>sC x
def Vj:K:=kp [QU,ZE,sD] 166 Tryz.f166 {loops:=[(1,[.slot 36 ζ,.barr 8 U8]),(3,[.slot 63 ζ,.barr 8 U8])],joins:=[(2,[])],outs:=[(2,[(7,Bo)])]} [AS,Ge,U8s] [U8s] JZ (fr:=true) (d:=5) (il:=[(232,AG Tryz.f232 {}),(296,AG Tryz.f296 {loops:=[(0,[.slot 8 ζ])]}),(233,AG Tryz.f233 {}),(236,AG Tryz.f236 {loops:=[(0,[.slot 11 ζ,.barr 3 U8])]})])
def r7:K:=kp [Vk,ZE,Vj] 269 Tryz.f269 {} [AS,Ge,ζ] [Bo,ζ] N5
def cU:K:=kp [B9] 159 Tryz.f159 {} [AS,QN] [ζ] KH
def nE:K:=ku [] 223 Tryz.f223 {} [QN,YK] [U8] Qk Cd λx _=>nD x
def iG:K:=ku [nE] 160 Tryz.f160 {} [AS,QN,YK] [QN] OV DT λx _=>iF x
def Ud:K:=kp [cU,iG] 93 Tryz.f93 {} [AS,QN,YK] [QN,ζ] Ja
def Vs:K:=ku [] 123 Tryz.f123 {} [NX] [ζ] Qm Hu λx _=>nL x
def nK:K:=ku [Vs] 270 Tryz.f270 {} [NX,ζ] [Bo,ζ] Ql KI λx _=>nJ x
def cQ {w O}:∀ {l:List Int} {vs},ξ (Reads w O U8) l vs->vs=l.map (λn=>Value.int .u8 n)/\∀n∈l,0<=n/\n<=255
 |[],vs,h=>⟨h,λn c=>by cases c⟩
 |n::l,vs,⟨I,J,e,⟨g,t⟩,y⟩=>by
  obtain⟨k1,E⟩:=cQ y;subst e g k1;have c:0<=n/\n<=255:=by
   unfold inR at t;have e3:IntKind.u8.min<=n/\n<=IntKind.u8.max:=by simp_all
   exact e3
  refine ⟨rfl,λm d=>?_⟩;rcases List.mem_cons.1 d with rfl|d
  .exact c
  .exact E m d
def AeQ {a b:Int} (d:0<=a/\a<=255) (g:0<=b/\b<=255):(UInt8.ofNat a.toNat==b.toNat.toUInt8)=decide (a=b):=by
 obtain⟨m,rfl⟩:∃m:Nat,a=m:=⟨a.toNat,by omega⟩;obtain⟨n,rfl⟩:∃n:Nat,b=n:=⟨b.toNat,by omega⟩;by_cases h:(m:Int)=n
 .simp_all
 .rw[decide_eq_false h];have t:m≠n:=by omega
  simp only[Qae,beq_eq_false_iff_ne,ne_eq];intro c;have:=congrArg UInt8.toNat c;simp only[Qgb,Nat.toUInt8] at this;omega
def Ahk {c} (d:0<=c/\c<=255):∀l i,0<=i->(∀n∈l,0<=n/\n<=255)->IN l c i=if Lib.indexByte (Lib.bytesOf l) c.toNat.toUInt8 = -1 then -1 else Lib.indexByte (Lib.bytesOf l) c.toNat.toUInt8+i:=by
 intro l;induction l with
 |nil=>intro i _ _;rfl
 |cons a l g =>intro i hi h;have y:=g (i+1) (by omega) λn t=>h n (Qak _ t);have ge:=Lib.indexByte_ge (Lib.bytesOf l) c.toNat.toUInt8;unfold IN;rw[show Lib.bytesOf (a::l)=UInt8.ofNat a.toNat::Lib.bytesOf l from rfl,Lib.indexByte,AeQ (h a (Qbr ..)) d]<;>grind
def Agz w p cap xs c (t:xs.length=0\/∃a,p=some a/\∀j x,xs[j]?=some x->w.cell? (a.add j)=some (.int .u8 x)) :
 (Extern.BytealgIndexByte.indexByte #[.slice p xs.length cap,.int .u8 c]).run Tryz.prog w=.ok (.int .i64 (Lib.indexByte (Lib.bytesOf xs) c.toNat.toUInt8)) w:=by
 have h:p=none/\xs=[]\/∃a,p=some a/\∀j x,xs[j]?=some x->w.cell? (a.add j)=some (.int .u8 x):=by
  rcases t with h0|h
  .have:=Qad h0;subst this;cases p<;>simp_all
  simp_all
 rcases h with ⟨rfl,rfl⟩|⟨a,rfl,h⟩
 .exact Lib.run_indexByteNil w 0 cap c
 .have g:=Lib.run_loadBytesX (P:=Tryz.prog) w xs a .empty h;have d:=Lib.run_indexByteString (P:=Tryz.prog) ⟨(Lib.bytesOf xs).toArray⟩ c w;have y:(⟨ByteArray.empty.data++(Lib.bytesOf xs).toArray⟩:ByteArray)=⟨(Lib.bytesOf xs).toArray⟩:=by simp_all
  rw[y] at g;change Sem.run Tryz.prog (do
   let b <-Extern.Bytes.bytesOf (.slice (some a) xs.length cap)
   let c <-Extern.Bytes.asByte (.int .u8 c)
   match (List.range b.size).find? λi=>b[i]! == c with
   |some i=>pure (goInt i)
   |none=>pure (goInt (-1))) w = _;change Sem.run Tryz.prog (do
   let b <-Extern.Bytes.bytesOf (.string ⟨(Lib.bytesOf xs).toArray⟩)
   let c <-Extern.Bytes.asByte (.int .u8 c)
   match (List.range b.size).find? λi=>b[i]! == c with
   |some i=>pure (goInt i)
   |none=>pure (goInt (-1))) w = _ at d;simp only[Extern.Bytes.bytesOf,Sem.run_bind,Sem.run_pure,g,Result.andThen] at d ⊢;exact d
set_option maxHeartbeats 1000000 in
set_option maxRecDepth 100000 in
def AeR (w:World) (p:Option Addr) (cap:Nat) (xs:List Int) (c:Int) (d:xs.length=0\/∃a,p=some a/\∀j x,xs[j]?=some x->w.cell? (a.add j)=some (.int .u8 x)) :
 Calls Tryz.prog 271 #[.slice p xs.length cap,.int .u8 c] w λe w'=>e=.returned (.int .i64 (Lib.indexByte (Lib.bytesOf xs) c.toNat.toUInt8))/\w'=w:=by have g:=Agz w p cap xs c d;go_enter Tryz.func271,Tryz.ntmps271;go_wp2;rw[run_callFunc_extern Tryz.func314 (by kernel_rfl) (by kernel_rfl) (by kernel_rfl) (e:=Extern.BytealgIndexByte.indexByte) (by kernel_rfl),g];simp only[Result.andThen];rw[Oper.upon_value];go_wp2;go_ret;exact ⟨rfl,rfl⟩
def Ahl {c}:∀l i,0<=i->-1<=IN l c i/\IN l c i<=i+l.length:=by
 intro l;induction l with
 |nil=>intro i _;unfold IN;simp;omega
 |cons a l d =>intro i hi;have:=d (i+1) (by omega);unfold IN<;>grind
def Ac0 w F d (l:List Int) (c:Int) (hr:BP w F [U8s,U8] (l,c) d) :
 Calls Tryz.prog 271 d.toArray w λe w'=>∃rs,e=.returned (Cp rs)/\Below w.heap.size w w'/\Gd w.heap.size w' F false [ζ] (IN l c 0) rs:=by
 obtain⟨us,a1,E,rfl,I,t,rfl⟩:=hr;obtain⟨rfl,hc⟩:=show I=[.int .u8 c]/\inR .u8 c=true from t;obtain⟨a,cap,rfl,hl,hm,g⟩:=E;have J:0<=c/\c<=255:=by
  unfold inR at hc;have e3:IntKind.u8.min<=c/\c<=IntKind.u8.max:=by simp_all
  exact e3
 have a6:=Ahl (c:=c) l 0 (by omega);have X:List.length l<=maxLen:=Qbh hl hm;have hp:l.length=0\/∃p,a=some p/\∀j x,l[j]?=some x->w.cell? (p.add j)=some (.int .u8 x):=by
  rcases g with h0|⟨b,off,cells,rfl,_,Y,y,h⟩
  .exact .inl h0
  .refine .inr ⟨_,rfl,λj x hj=>?_⟩;obtain⟨h1,_⟩:=cQ h;have:=y j (.int .u8 x) (by simp_all);rw[<-this];by_cases Z:j=0<;>simp[Addr.add,Z]
 have Y:∀n∈l,0<=n/\n<=255:=by
  rcases g with h0|⟨b,off,cells,rfl,_,Y,y,h⟩
  .have:l=[]:=Qad h0<;>simp_all
  .exact (cQ h).2
 refine (AeR w a cap l c hp).mono λe w' ⟨he,hw⟩=>?_;subst hw;refine ⟨[.int .i64 (IN l c 0)],?_,Below.refl _ _,?_⟩
 .rw[he,Ahk J l 0 (by omega) Y];congr 2;split
  .rename_i e1;rw[e1]
  .simp
 .refine ⟨[.int .i64 (IN l c 0)],⟨rfl,?_⟩,rfl⟩;unfold inR;simp only[Qab,decide_eq_true_eq];unfold maxLen at X;show (-9223372036854775808:Int)<=IN l c 0/\IN l c 0<=9223372036854775807;omega
def WW:BM Tryz.prog V 271 (spT [U8s,U8] [ζ] bytes_IndexByte) where
 enters:=λargs w=>by simp_all
 tot:=λg hg x=>by cases hg;rfl
 calls:=λw F c x y _ _ d h=>by cases h;exact Ac0 w F c x.1 x.2 d
def WV:K:=⟨271,.t (spT [U8s,U8] [ζ] bytes_IndexByte),WW⟩
def VD:K:=ku [] 158 Tryz.f158 {} [EI] [Bo] VE EX λx _=>nT x
def Xh:K:=ku [] 211 Tryz.f211 {} [Nl] [ζ] Rz FM λx _=>rZ x
def ZD:K:=ku [Xh] 226 Tryz.f226 {} [Nl,ζ] [Bo,ζ] Tk NG λx _=>xW x
def AaQ:K:=ku [] 287 Tryz.f287 {} [Nn] [Bo] eI FY λx _=>AaP x
def Xd:K:=kp [B9,AaQ] 212 Tryz.f212 {loops:=[(0,[.slot 21 ζ])]} [AS,LJ] [ζ] K4
def s8:K:=ku [TU] 221 Tryz.f221 {} [U32,ζ] [U32] RR FR λx _=>sZ x
def cM:K:=ku [] 222 Tryz.f222 {} [Nn] [Bo] NF JT λx _=>cL x
def Zy:K:=kp [Xd,s8,cM] 157 Tryz.f157 {loops:=[(0,[.slot 7 U32,.slot 8 U32,.slot 20 ζ])]} [AS,LJ] [Bo,ζ] Mv
def rX:K:=ku [] 290 Tryz.f290 {} [Nn] [Bo] Rv JU λx _=>rW x
def rM:K:=kp [Zy,rX] 217 Tryz.f217 {loops:=[(0,[.slot 4 U32,.slot 24 ζ]),(2,[.slot 4 U32,.slot 38 ζ])]} [AS,LJ] [U32,ζ] N3
def lQ:K:=kp [] 218 Tryz.f218 {} [AS,U32,ζ] [ζ] Ms
def Xa:K:=kp [rM,lQ,NP] 154 Tryz.f154 {} [AS,U32,LJ,ζ] [U32,ζ] HH
def ZS:K:=kp [ZD,Qo,Xa] 272 Tryz.f272 {loops:=[(0,[.slot 29 ζ])]} [AS,H7] [Bo] F3
def ZR:K:=kp [Qo] 273 Tryz.f273 {loops:=[(0,[.slot 30 ζ])]} [AS,H7] [Bo] F1
def sO:K:=kp [Sw,Qo,r7,Ud,nK,WV,Tε,VD,ZS,ZR] 193 Tryz.f193 {} [AS,H7] [Bo] Oa
def iI:K:=kp [B9,sO] 118 Tryz.f118 {} [AS,H7] [ζ] OW
def QI:K:=kp [] 195 Tryz.f195 {loops:=[(0,[.slot 5 ζ])]} [U8s,U8] [ζ] Fa
def Sm:K:=kp [QI] 122 Tryz.f122 {} [U8s,U8] [ζ] EC
def mR:K:=kp [] 274 Tryz.f274 {loops:=[(0,[.own 4 U8,.slot 5 Bo,.slot 13 ζ])]} [U8s] [U8s,ζ] FL (fr:=true)
def mS:K:=kp [fK,fM,I7] 275 Tryz.f275 {} [U8s] [No,ζ] GO
def Vg:K:=kp [Sm,mR,mS] 67 Tryz.f67 {} [U8s] [Ux,ζ,ζ] Cv (d:=4) (il:=[(120,AG Tryz.f120 {}),(121,AG Tryz.f121 {loops:=[(0,[.slot 25 ζ,.own 6 No,.fbox 0 Acs [0]])]}),(194,AG Tryz.f194 {})])
def Xn:K:=kp [Vs,I7] 69 Tryz.f69 {loops:=[(0,[.slot 25 ζ,.box 4 NX]),(2,[.own 10 No,.slot 37 ζ,.box 2 NX])]} [NX,Ux] [NX,Ux,ζ] Gu
def OG:K:=kpp [TQ] 125 Tryz.f125 {} SV [ζ] SV [ζ] Bq
def X8:K:=kp [OG,Sv,Ln] 142 Tryz.f142 {loops:=[(0,[.slot 23 ζ,.fbox 6 SU [3],.box 11 SV])]} [U8s] [SU,ζ] Fy
def MD:K:=ku [] 99 Tryz.f99 {} [ζ,ζ] [ζ] Qn Cw λx _=>nQ x
def VB:K:=kpp [E2,Vg,QU,Xn,X8,Qr,MD] 87 Tryz.f87 {loops:=[(0,[.slot 10 Bo,.slot 80 ζ,.box 0 Er])],joins:=[(6,[.box 0 Er])]} Er [] Er [Bo] Hw
def Pl:K:=kp [] 207 Tryz.f207 {loops:=[(0,[.slot 13 ζ])]} [Λ,Λ] [Bo] EK
def nR:K:=kp [Pl] 144 Tryz.f144 {} [EI,EI] [Bo] ME
def Wb:K:=kr [SG] 208 Tryz.f208 {loops:=[(0,[.slot 1 ζ,.slot 16 ζ]),(2,[.slot 1 ζ,.slot 28 ζ]),(4,[.slot 1 ζ]),(6,[.slot 49 ζ])]} YO [ζ] [ζ] DR
def tH:K:=kp [SF,Wb,Mr,UT,OL] 145 Tryz.f145 {loops:=[(0,[.own 18 Af5,.slot 79 ζ])]} [CI,U8,Ov] [YN,ζ] Lb (d:=4) (il:=[(44,AG Tryz.f44 {unr:=[(0,3)],loops:=[(2,[.slot 30 ζ,.nbox YO [3]])]}),(45,AG Tryz.f45 {}),(77,AG Tryz.f77 {})])
def Up:K:=kpp [Km,nR,tH] 88 Tryz.f88 {} Er [] Er [] Fj
set_option maxRecDepth 100000 in
def w7:PQ Tryz.prog V 131 (spP [ζ,ζ] [ζ,ζ] S1):=Acx Tryz.func131 ⟨rfl,rfl,rfl,by kernel_rfl,by kernel_rfl,rfl,by kernel_rfl,by decide,⟨0,1,_,_,_,_,_,_,_,_,_,rfl,⟨rfl,rfl,rfl⟩,⟨rfl,rfl,rfl⟩,⟨rfl,rfl,rfl⟩,⟨rfl,rfl,rfl⟩,⟨rfl,rfl,rfl⟩,⟨rfl,⟨_,_,rfl⟩,rfl⟩,⟨rfl,rfl,rfl⟩,⟨rfl,rfl,rfl⟩,⟨rfl,rfl,rfl⟩⟩⟩
def wY:List K:=[OP,Ua,I7,⟨131,.o (spP [ζ,ζ] [ζ,ζ] S1),w7⟩]
def Zf:Hints:={loops:=[(0,[.slot 21 ζ,.box 8 CI,.box 9 ζ]),(2,[.slot 60 ζ,.fbox 8 CI [0]])]}
set_option maxRecDepth 100000 in
def wX:∃t i1 c d g rest,(AG Tryz.f90 Zf).code=.seq (.region t c false) (.seq (.region i1 #[d,g] false) rest)/\(d.dst=some 14/\d.op=.makeFunc (.func 147) #[] #[.tmp 9,.tmp 8]/\d.guard=none)/\(g.dst=none/\(∃h,g.op=.defer {callee:=.value (.tmp 14),args:=#[],argTypes:=h})/\g.guard=none) /\
 ∀x,cD (KX wY []) 1 (AG Tryz.f90 Zf) (AG Tryz.f147 {}) (.region t c false) rest 14 8 9 [CI,YN,ζ,ζ] [CI,ζ] x=IG x :=
 ⟨_,_,_,_,_,_,rfl,⟨rfl,rfl,rfl⟩,⟨rfl,⟨_,rfl⟩,rfl⟩,λx=>by kernel_rfl⟩
def wZ:BM Tryz.prog V 90 (spP [CI,YN,ζ,ζ] [CI,ζ] IG):=by
 obtain⟨E,i1,c,I,J,rest,d,g,h4,h⟩:=wX;exact dB HM Gt stays IM (HL .nil)
  (Ij Tryz.func90 (by kernel_rfl) (by kernel_rfl) (by kernel_rfl)) (Ij Tryz.func147 (by kernel_rfl) (by kernel_rfl) (by kernel_rfl)) rfl d g h4 (by decide) 1 λx y t=>(h x).trans t
def Zg:K:=⟨90,.t (spP [CI,YN,ζ,ζ] [CI,ζ] IG),wZ⟩
def VS (n:Nat) (c:n<=1000000):bits .and .u64 (n:Int) 4294967295=n:=by have h:=Mul64.maskN n (by omega)<;>omega
def AbV (n:Nat) (c:n<=1000000) w:Calls Tryz.prog 278 #[.int .u64 1,.int .u64 n] w λe w'=>e=.returned (.tuple #[.int .u64 0,.int .u64 n])/\w'=w:=by
 have h1:=VS 1 (by omega);have h0:=VS 0 (by omega);have h:=VS n c;have d:((1:Nat):Int)=1:=rfl;have g:((0:Nat):Int)=0:=rfl;rw[d] at h1;rw[g] at h0;have d1:(1:Int)/4294967296=0:=by decide
 have t:(n:Int)/4294967296=0:=by omega
 have wn:IntKind.u64.wrap (n:Int)=n:=by rw[IntKind.wrap_u64];omega
 go_enter Tryz.func278,Tryz.ntmps278;go_wp2;go_ret2<;>simp_all
def Afq (n:Nat) (d:n<=1000000) w:Calls Tryz.prog 284 #[.int .u64 1,.int .u64 n] w λe w'=>e=.returned (.tuple #[.int .u64 0,.int .u64 n])/\w'=w:=by have c:∀args w,(callFunc 278 args).run Tryz.prog w=.ok (.enter 278 args) w:=enters_of Tryz.func278 (by kernel_rfl) rfl;go_enter Tryz.func284,Tryz.ntmps284;go_wp2_with (go_at_fn 278;refine (AbV n d w).mono ?_;rintro e w' ⟨rfl,g⟩;rw[g]);go_ret2;exact ⟨rfl,rfl⟩
def Cj (n m:Nat) (v:Int):List Value:=List.replicate m (.int .u8 v)++List.replicate (n-m) (.int .u8 0)
def RQ {n m v} (h:m<=n):(Cj n m v).length=n:=by simp[Cj];omega
def VT {n m k v} (h:m+k<=n):(Cj n m v).take m++List.replicate k (.int .u8 v)++(Cj n m v).drop (m+k)=Cj n (m+k) v:=by unfold Cj;rw[Qea (by simp),Qas (by simp),Qfi,Qdl (by simp)];simp only[Qdb,Qaz,List.drop_replicate,List.replicate_append_replicate]<;>grind
def Adv n:madeCells (Value.int .u8 0).cells n=(Cj n 0 0).toArray:=by
 apply Array.ext
 .simp[madeCells,Cj]
 .intro j h1 c;simp[madeCells,Cj,Value.cells,Nat.mod_one]
def AbU:(Tryz.prog.info? 5).map (λi=>(i.zero,i.size,i.bytes))=some (some (.int .u8 0),1,1):=by kernel_rfl
def Adw (n:Nat) (g:n<=1000000) w:(Instr.makeSlice 29 (.int .i64 n) (.int .i64 n)).run Tryz.prog w=.ok (.slice (some ⟨w.heap.size,0,none⟩) n n) (w.alloc (.cells (Cj n 0 0).toArray 5)):=by obtain⟨i,hi,c,d,t⟩:=info_parts AbU;have h:=run_makeSlice w 29 5 i (.int .u8 0) (by kernel_rfl) hi c .i64 .i64 (n:Int) (n:Int) (by omega) (Qbb _) (by grind) (by grind) (by omega);rw[h,d,Qae,Qch,Adv]
def AbT n v (h1:1<=n) w p c (t:w.cell? p=some (.int .u8 v)) g (hg:w.heap[g]?=some (.cells (Cj n 0 0).toArray 5 (0,0))) ty :
 (Builtin.copy_ #[29,29] ty #[.slice (some ⟨g,0,none⟩) n n,.slice (some p) 1 c]).run Tryz.prog w=.ok (.int .i64 1) (w.setRow g (Cj n 1 v).toArray):=by
 have h:=run_copy_row (P:=Tryz.prog) w 29 29 ty 5 g 0 n n p 1 c (Cj n 0 0).toArray 5 [.int .u8 v] (by kernel_rfl) (by kernel_rfl) hg (by simp_all) (λj x d=>by
  cases j with
  |zero=>simp at d;subst d;rw[show p.add 0=p by unfold Addr.add<;>simp_all];exact t
  |succ j=>simp at d) (by simp[Cj];omega) (by simp[Value.oneCell']);rw[h];have e:=VT (k:=1) (v:=v) (by omega);have y:Cj n 0 0=Cj n 0 v:=by simp[Cj]
 rw[Qeo,y,Qbm,List.length_singleton];simp only[List.replicate_one,Qbm] at e;rw[e];rfl
def fO n m v (h1:m<n) w g (hg:w.heap[g]?=some (.cells (Cj n m v).toArray 5 (0,0))) ty c1 c2 :
 (Builtin.copy_ #[29,29] ty #[.slice (some ⟨g,m,none⟩) (n-m) c1,.slice (some ⟨g,0,none⟩) m c2]).run Tryz.prog w=.ok (.int .i64 (min m (n-m):Nat)) (w.setRow g (Cj n (m+min m (n-m)) v).toArray):=by
 have E:m+min m (n-m)<=n:=by omega
 have h:=run_copy_row (P:=Tryz.prog) w 29 29 ty 5 g m (n-m) c1 ⟨g,0,none⟩ m c2 (Cj n m v).toArray 5 (List.replicate (min m (n-m)) (.int .u8 v)) (by kernel_rfl) (by kernel_rfl) hg (by rw[Qdb]) λj x d=>by
  obtain⟨I,rfl⟩:=List.getElem?_eq_some_iff.1 d;rw[Qdb] at I;have t:j<m:=by omega
  have c:w.cell? ⟨g,j,none⟩=some (.int .u8 v):=by simp only[World.cell?,hg];simp[Cj,Qft,t]
  rw[List.getElem_replicate,<-c];by_cases y:j=0<;>simp[Addr.add,y] (by simp only[Qdb,Qbk];rw[RQ (by omega)];omega) (λx d=>by rw[(List.mem_replicate.1 d).2];rfl);rw[h,Qeo,Qdb,VT E];rfl
set_option maxHeartbeats 4000000 in
set_option maxRecDepth 100000 in
def Adx (n:Nat) (v:Int) (d:1<=n) (I:n<=1000000) (w:World) (p:Addr) (c:Nat) (J:w.cell? p=some (.int .u8 v)):Calls Tryz.prog 209 #[.slice (some p) 1 c,.int .i64 n] w λe w'=>e=.returned (.slice (some ⟨w.heap.size,0,none⟩) n n)/\Below w.heap.size w w'/\w'.heap[w.heap.size]?=some (.cells (Cj n n v).toArray 5 (0,0)):=by
 have t:=Afq n I w;have a6:=Adw n I w;have X:∀args w,(callFunc 284 args).run Tryz.prog w=.ok (.enter 284 args) w:=enters_of Tryz.func284 (by kernel_rfl) rfl;have g:(w.alloc (.cells (Cj n 0 0).toArray 5)).heap[w.heap.size]?=some (.cells (Cj n 0 0).toArray 5 (0,0)):=World.alloc_heap_new _ _;have a7:=λty=>AbT n v d (w.alloc (.cells (Cj n 0 0).toArray 5)) p c ((Below.refl _ w).alloc (χ _) _ |>.cell (World.block_lt_of_cell? w p J) |>.trans J) w.heap.size g ty;go_enter Tryz.func209,Tryz.ntmps209;go_wp2_with (go_at_fn 284;refine t.mono ?_;rintro e w' ⟨rfl,hw⟩;rw[hw]);go_loopw [8] (λi wr=>∃m:Nat,1<=m/\m<=n/\i=.int .i64 m/\wr.heap[w.heap.size]?=some (.cells (Cj n m v).toArray 5 (0,0))/\Below w.heap.size w wr) (λi _=>n-(intOf i).toNat);case atStart=>exact ⟨1,χ _,d,rfl,setRow_heap _ _ _ _ _ _ g,below_setRow ((Below.refl _ w).alloc (χ _) _) (χ _) _⟩
 case round =>
  obtain⟨m,h0,h1,rfl,hg,Y⟩:=hrel;have Z:=λh ty=>fO n m v h wr w.heap.size hg ty;go_wp2
  .have y:m<n:=by assumption
   have a1:=fO n m v y wr.drew w.heap.size hg 3 (n-m) n;go_region;go_wp2;go_roundw;case rel=>exact ⟨m+min m (n-m),by omega,by omega,by simp,setRow_heap _ _ _ _ _ _ (show wr.drew.heap[w.heap.size]? = _ from hg),below_setRow (Y.drew) (χ _) _⟩
   case measure=>simp[intOf];omega
  .have E:m=n:=by omega
   subst E;go_ret;exact ⟨rfl,Y,hg⟩
def o9 {w O v} (c:inR .u8 v=true):∀n:Nat,ξ (Reads w O U8) (List.replicate n v) (List.replicate n (Value.int .u8 v))
 |0=>rfl
 |n+1=>⟨[.int .u8 v],List.replicate n (.int .u8 v),by grind,⟨rfl,c⟩,o9 c n⟩
def AbS w F c (l:List Int) (k:Int) y (J:BP w F [Ty.slice U8,ζ] (l,k) c) (X:E3 (l,k)=some y) :
 Calls Tryz.prog 209 c.toArray w λe w'=>∃rs,e=.returned (Cp rs)/\Below w.heap.size w w'/\Gd w.heap.size w' F true [Ty.slice U8] y rs:=by
 obtain⟨v,rfl,h1,h2,rfl⟩:=sY X;obtain⟨us,Y,h,rfl,t,d,rfl⟩:=J;obtain⟨rfl,_⟩:=show t=[.int .i64 k]/\inR .i64 k=true from d;obtain⟨a,cap,rfl,hl,hm,g⟩:=h;rcases g with h0|⟨b,off,cells,rfl,_,hb,E,I⟩
 .exact absurd h0 (by simp)
 .obtain⟨v1,v2,rfl,⟨rfl,Z⟩,h3⟩:=I;obtain⟨n,rfl⟩:∃n:Nat,k=n:=⟨k.toNat,by omega⟩;refine (Adx n v (by omega) (by omega) w ⟨b,off,none⟩ cap (E 0 _ rfl)).mono λe w' ⟨he,hB,hg⟩=>?_;refine ⟨[.slice (some ⟨w.heap.size,0,none⟩) n n],he,hB,.slice (some ⟨w.heap.size,0,none⟩) n n,some w.heap.size,rfl,some ⟨w.heap.size,0,none⟩,n,?_,?_,?_,.inr ⟨w.heap.size,_,_,by omega,rfl,rfl,χ _,(Array.getElem?_eq_some_iff.1 hg).1,hg,?_,?_⟩⟩
  .show Value.slice _ n n=Value.slice _ (List.length (List.replicate (n:Int).toNat v)) n;simp
  .show List.length (List.replicate (n:Int).toNat v)<=n;simp
  .unfold maxLen;omega
  .rw[Qbk,RQ (χ _)];exact (Qch n).symm
  .show ξ _ (List.replicate (n:Int).toNat v) ((Cj n n v).toArray.toList.take (List.length (List.replicate (n:Int).toNat v)*1));simp only[Qae,Qdb,Qch];rw[Qas (by rw[RQ (χ _)]<;>omega)];unfold Cj;rw[Nat.sub_self,List.replicate_zero,Qbd];exact o9 Z n
def aE:BM Tryz.prog V 209 (spP [Ty.slice U8,ζ] [Ty.slice U8] E3 true) where
 enters:=λargs w=>by simp_all
 tot:=λg hg=>by cases hg
 calls:=λw F c x y _ _ d h=>AbS w F c x.1 x.2 y d h
def aD:K:=⟨209,.t (spP [U8s,ζ] [U8s] E3 true),aE⟩
def Nh:K:=kpp [aD] 146 Tryz.f146 {} Er [] Er [U8s] Fi
def VC:K:=kpp [Zg,Ug,Nh,RV,MD] 89 Tryz.f89 {joins:=[(4,[.slot 3 ζ])]} Er [] Er [] Hx
def iB:BM Tryz.prog V 148 (spP [Ty.slice Mi] [Ty.slice Mi] F6 true) :=
 C2 (e:=265) stays IM Tryz.func148 ⟨by kernel_rfl,rfl,by kernel_rfl,by kernel_rfl,by decide,⟨0,1,2,_,_,_,_,rfl,⟨rfl,rfl,rfl⟩,⟨rfl,rfl,rfl⟩,⟨rfl,⟨_,rfl⟩,rfl⟩,⟨rfl,rfl,rfl⟩⟩⟩ λl=>by kernel_rfl λy h=>(Qag ((show F6 []=some [] by kernel_rfl).symm.trans h)).symm
def iA:K:=⟨148,.t (spP [Wt] [Wt] F6 true),iB⟩
def cA:BM Tryz.prog V 149 (spP [Ty.slice Nl] [Ty.slice Nl] GB true) :=
 C2 (e:=268) stays IM Tryz.func149 ⟨by kernel_rfl,rfl,by kernel_rfl,by kernel_rfl,by decide,⟨0,1,2,_,_,_,_,rfl,⟨rfl,rfl,rfl⟩,⟨rfl,rfl,rfl⟩,⟨rfl,⟨_,rfl⟩,rfl⟩,⟨rfl,rfl,rfl⟩⟩⟩ λl=>by kernel_rfl λy h=>(Qag ((show GB []=some [] by kernel_rfl).symm.trans h)).symm
def b9:K:=⟨149,.t (spP [XL] [XL] GB true),cA⟩
section
attribute [local go_sem] Oper.semAt_some
def puS (x r:Bool) (s:Int):Int:=min ((if x=r then s else 0)+1) 1048576
def puU (x u r:Bool) (s h:Int):Bool:=if h<=puS x r s then x else u
structure Ws (Bp:Nat) (u r:Bool) (s:Int) (W W1:World):Prop where
 os:W1.os=W.os
 tape:W1.tape=W.tape
 output:W1.output=W.output
 size:W1.heap.size=W.heap.size
 same:∀k,k≠Bp->W1.heap[k]?=W.heap[k]?
 box:W1.heap[Bp]?=some (.cells #[.bool u,.bool r,.int .i64 s] 265 (0,0))
set_option maxRecDepth 100000 in
set_option maxHeartbeats 4000000 in
def AbL (F:Fence) (n:Nat) (h8:F.fn 318) (a6:F.round=none) (hn:1<=n) (l Br c Bh b off cap:Nat) (x u r:Bool) (s h:Int) (hs:0<=s/\s<=1048576) (W:World)
 (hr:W.cell? ⟨Br,0,none⟩=some (.slice (some ⟨b,off,none⟩) 1 cap)) (hx:W.cell? ⟨b,off,none⟩=some (.bool x)) (J:W.heap[c]?=some (.cells #[.bool u,.bool r,.int .i64 s] 265 (0,0))) (hh:W.cell? ⟨Bh,0,none⟩=some (.int .i64 h)) (hd:Br≠c/\b≠c/\Bh≠c)
 (R:World->Prop) (hY:∀W1,Ws c (puU x u r s h) x (puS x r s) W W1->YieldAt F (n-1) Tryz.prog l #[.agg #[.bool (puU x u r s h),.bool x,.int .i64 (puS x r s)]] W1 λe W'=>e=.returned (.bool true)/\R W') :
 CallsIn F n Tryz.prog 318 #[.func (.yield l) #[] #[],.pointer (some ⟨Br,0,none⟩),.pointer (some ⟨c,0,none⟩),.pointer (some ⟨Bh,0,none⟩)] W λe W'=>(∃v,e=.returned v)/\R W':=by
 have c0:W.cell? ⟨c,0,none⟩=some (.bool u):=by simp[World.cell?,J]
 have c1:W.cell? ⟨c,1,none⟩=some (.bool r):=by simp[World.cell?,J]
 have c2:W.cell? ⟨c,2,none⟩=some (.int .i64 s):=by simp[World.cell?,J]
 have f0:W.frozen? ⟨c,0,none⟩=false:=by simp[World.frozen?,J]
 have f1:W.frozen? ⟨c,1,none⟩=false:=by simp[World.frozen?,J]
 have f2:W.frozen? ⟨c,2,none⟩=false:=by simp[World.frozen?,J]
 refine callsIn_of_wp Tryz.func318 rfl h8 ?_ a6;simp only[Tryz.ntmps318,Qbk,Qay,Qbu,Nat.reduceAdd,Nat.reduceSub,Qbw,Qbx,Qcj,Qbz,Qaz,Qbs];gi_wp2;gi_loopw [9] (λi wr=>(i=.int .i64 0/\wr=W)\/(i=.int .i64 1/\R wr)) (λi _=>1-(intOf i).toNat);case atStart=>exact .inl ⟨rfl,rfl⟩
 case round =>
  rcases hrel with ⟨rfl,rfl⟩|⟨rfl,hR⟩
  .obtain⟨a7,a8⟩:=hs;obtain⟨aa,ab,a1⟩:=hd;have ad:c<wr.heap.size:=(Array.getElem?_eq_some_iff.1 J).1;by_cases Y:x=r
   .subst Y;have t:puS x x s=min (s+1) 1048576:=by simp[puS]
    have y:=heap_setCell_same wr c 2 _ _ (.int .i64 (min (s+1) 1048576)) J;have A2:(wr.setCell ⟨c,2,none⟩ (.int .i64 (min (s+1) 1048576))).cell? ⟨c,2,none⟩=some (.int .i64 (min (s+1) 1048576)):=by simp[World.cell?,y]
    have A1:(wr.setCell ⟨c,2,none⟩ (.int .i64 (min (s+1) 1048576))).cell? ⟨c,1,none⟩=some (.bool x):=by simp[World.cell?,y]
    have Ac:(wr.setCell ⟨c,2,none⟩ (.int .i64 (min (s+1) 1048576))).cell? ⟨c,0,none⟩=some (.bool u):=by simp[World.cell?,y]
    have Ah:(wr.setCell ⟨c,2,none⟩ (.int .i64 (min (s+1) 1048576))).cell? ⟨Bh,0,none⟩=some (.int .i64 h):=by
     repeat rw[World.cell?_setCell_far _ _ _ _ (λe=>a1 e.symm)]
     exact hh
    by_cases E:h<=(min (s+1) 1048576)
    .have I:puU x u x s h=x:=by unfold puU;rw[t,if_pos E]
     have X:=heap_setCell_same _ c 0 _ _ (.bool x) y;have D2:((wr.setCell ⟨c,2,none⟩ (.int .i64 (min (s+1) 1048576))).setCell ⟨c,0,none⟩ (.bool x)).cell? ⟨c,2,none⟩=some (.int .i64 (min (s+1) 1048576)):=by simp[World.cell?,X]
     have D1:((wr.setCell ⟨c,2,none⟩ (.int .i64 (min (s+1) 1048576))).setCell ⟨c,0,none⟩ (.bool x)).cell? ⟨c,1,none⟩=some (.bool x):=by simp[World.cell?,X]
     have Dc:((wr.setCell ⟨c,2,none⟩ (.int .i64 (min (s+1) 1048576))).setCell ⟨c,0,none⟩ (.bool x)).cell? ⟨c,0,none⟩=some (.bool x):=by simp[World.cell?,X]
     have hS:Ws c (puU x u x s h) x (puS x x s) wr ((wr.setCell ⟨c,2,none⟩ (.int .i64 (min (s+1) 1048576))).setCell ⟨c,0,none⟩ (.bool x)):=⟨rfl,rfl,rfl,by simp,λk Z=>(by repeat rw[heap_setCell_other _ _ _ _ Z]),by rw[I,t,X];rfl⟩;obtain⟨fn,tmps,assign,body,hy,d⟩:=hY _ hS;simp only[I,t] at hy;gi_wp2;refine d.mono ?_;rintro e W3 ⟨rfl,g⟩;gi_wp2;go_roundw;case rel=>exact .inr ⟨rfl,g⟩
     case measure=>simp[intOf]
    .have I:puU x u x s h=u:=by unfold puU;rw[t,if_neg E]
     have hS:Ws c (puU x u x s h) x (puS x x s) wr (wr.setCell ⟨c,2,none⟩ (.int .i64 (min (s+1) 1048576))):=⟨rfl,rfl,rfl,by simp,λk Z=>(by repeat rw[heap_setCell_other _ _ _ _ Z]),by rw[I,t,y];rfl⟩;obtain⟨fn,tmps,assign,body,hy,d⟩:=hY _ hS;simp only[I,t] at hy;gi_wp2;refine d.mono ?_;rintro e W3 ⟨rfl,g⟩;gi_wp2;go_roundw;case rel=>exact .inr ⟨rfl,g⟩
     case measure=>simp[intOf]
   .have t:puS x r s=min 1 1048576:=by simp[puS,Y]
    have ae:(x==r)=false:=by simpa using Y
    have B1:=heap_setCell_same wr c 1 _ _ (.bool x) J;have B2:=heap_setCell_same _ c 2 _ _ (.int .i64 0) B1;have y:=heap_setCell_same _ c 2 _ _ (.int .i64 (min 1 1048576)) B2;have af:(wr.setCell ⟨c,1,none⟩ (.bool x)).cell? ⟨c,2,none⟩=some (.int .i64 s):=by simp[World.cell?,B1]
    have ag:((wr.setCell ⟨c,1,none⟩ (.bool x)).setCell ⟨c,2,none⟩ (.int .i64 0)).cell? ⟨c,2,none⟩=some (.int .i64 0):=by simp[World.cell?,B2]
    have A2:(((wr.setCell ⟨c,1,none⟩ (.bool x)).setCell ⟨c,2,none⟩ (.int .i64 0)).setCell ⟨c,2,none⟩ (.int .i64 (min 1 1048576))).cell? ⟨c,2,none⟩=some (.int .i64 (min 1 1048576)):=by simp[World.cell?,y]
    have A1:(((wr.setCell ⟨c,1,none⟩ (.bool x)).setCell ⟨c,2,none⟩ (.int .i64 0)).setCell ⟨c,2,none⟩ (.int .i64 (min 1 1048576))).cell? ⟨c,1,none⟩=some (.bool x):=by simp[World.cell?,y]
    have Ac:(((wr.setCell ⟨c,1,none⟩ (.bool x)).setCell ⟨c,2,none⟩ (.int .i64 0)).setCell ⟨c,2,none⟩ (.int .i64 (min 1 1048576))).cell? ⟨c,0,none⟩=some (.bool u):=by simp[World.cell?,y]
    have Ah:(((wr.setCell ⟨c,1,none⟩ (.bool x)).setCell ⟨c,2,none⟩ (.int .i64 0)).setCell ⟨c,2,none⟩ (.int .i64 (min 1 1048576))).cell? ⟨Bh,0,none⟩=some (.int .i64 h):=by
     repeat rw[World.cell?_setCell_far _ _ _ _ (λe=>a1 e.symm)]
     exact hh
    by_cases E:h<=(min 1 1048576)
    .have I:puU x u r s h=x:=by unfold puU;rw[t,if_pos E]
     have X:=heap_setCell_same _ c 0 _ _ (.bool x) y;have D2:((((wr.setCell ⟨c,1,none⟩ (.bool x)).setCell ⟨c,2,none⟩ (.int .i64 0)).setCell ⟨c,2,none⟩ (.int .i64 (min 1 1048576))).setCell ⟨c,0,none⟩ (.bool x)).cell? ⟨c,2,none⟩=some (.int .i64 (min 1 1048576)):=by simp[World.cell?,X]
     have D1:((((wr.setCell ⟨c,1,none⟩ (.bool x)).setCell ⟨c,2,none⟩ (.int .i64 0)).setCell ⟨c,2,none⟩ (.int .i64 (min 1 1048576))).setCell ⟨c,0,none⟩ (.bool x)).cell? ⟨c,1,none⟩=some (.bool x):=by simp[World.cell?,X]
     have Dc:((((wr.setCell ⟨c,1,none⟩ (.bool x)).setCell ⟨c,2,none⟩ (.int .i64 0)).setCell ⟨c,2,none⟩ (.int .i64 (min 1 1048576))).setCell ⟨c,0,none⟩ (.bool x)).cell? ⟨c,0,none⟩=some (.bool x):=by simp[World.cell?,X]
     have hS:Ws c (puU x u r s h) x (puS x r s) wr ((((wr.setCell ⟨c,1,none⟩ (.bool x)).setCell ⟨c,2,none⟩ (.int .i64 0)).setCell ⟨c,2,none⟩ (.int .i64 (min 1 1048576))).setCell ⟨c,0,none⟩ (.bool x)):=⟨rfl,rfl,rfl,by simp,λk Z=>(by repeat rw[heap_setCell_other _ _ _ _ Z]),by rw[I,t,X];rfl⟩;obtain⟨fn,tmps,assign,body,hy,d⟩:=hY _ hS;simp only[I,t] at hy;gi_wp2;refine d.mono ?_;rintro e W3 ⟨rfl,g⟩;gi_wp2;go_roundw;case rel=>exact .inr ⟨rfl,g⟩
     case measure=>simp[intOf]
    .have I:puU x u r s h=u:=by unfold puU;rw[t,if_neg E]
     have hS:Ws c (puU x u r s h) x (puS x r s) wr (((wr.setCell ⟨c,1,none⟩ (.bool x)).setCell ⟨c,2,none⟩ (.int .i64 0)).setCell ⟨c,2,none⟩ (.int .i64 (min 1 1048576))):=⟨rfl,rfl,rfl,by simp,λk Z=>(by repeat rw[heap_setCell_other _ _ _ _ Z]),by rw[I,t,y];rfl⟩;obtain⟨fn,tmps,assign,body,hy,d⟩:=hY _ hS;simp only[I,t] at hy;gi_wp2;refine d.mono ?_;rintro e W3 ⟨rfl,g⟩;gi_wp2;go_roundw;case rel=>exact .inr ⟨rfl,g⟩
     case measure=>simp[intOf]
  .gi_wp2;go_end0;exact ⟨⟨_,rfl⟩,hR⟩
def puE (s h:Int):Int:=if s<0\/1048576<s then 8 else if h<1\/1048576<h then 2 else 0
set_option maxHeartbeats 1000000 in
def Adm (F:Fence) (n:Nat) (d:F.fn 285) (c:F.round=none) (u r:Bool) (s h:Int) (w:World) :
 CallsIn F n Tryz.prog 285 #[.agg #[.bool u,.bool r,.int .i64 s],.int .i64 1,.int .i64 h] w λe w'=>e=.returned (.int .i64 (puE s h))/\w'=w.alloc (.cells #[.bool u,.bool r,.int .i64 s] 265):=by
 refine callsIn_of_wp Tryz.func285 rfl d ?_ c;simp only[Tryz.ntmps285,Qbk,Qay,Qbu,Nat.reduceAdd,Nat.reduceSub,Qbw,Qbx,Qcj,Qbz,Qaz,Qbs];gi_wp2;all_goals go_ret
 all_goals refine ⟨?_,rfl⟩
 all_goals (first|(rw[show puE s h=8 from if_pos (by omega)];rfl)|(rw[show puE s h=2 from (if_neg (by omega)).trans (if_pos (by omega))];rfl)|(rw[show puE s h=0 from (if_neg (by omega)).trans (if_neg (by omega))];rfl))
set_option maxHeartbeats 1000000 in
def AbK (F:Fence) (n:Nat) (d:F.fn 286) (c:F.round=none) (u r:Bool) (s h:Int) (b off cap:Nat) (w:World) :
 CallsIn F n Tryz.prog 286 #[.agg #[.bool u,.bool r,.int .i64 s],.slice (some ⟨b,off,none⟩) 1 cap,.int .i64 h] w λe w'=>e=.returned (.func (.func 318) #[] #[.pointer (some ⟨w.heap.size+1,0,none⟩),.pointer (some ⟨w.heap.size,0,none⟩),.pointer (some ⟨w.heap.size+1+1,0,none⟩)])/\w'=((w.alloc (.cells #[.bool u,.bool r,.int .i64 s] 265)).alloc (.cells #[.slice (some ⟨b,off,none⟩) 1 cap] 341)).alloc (.cells #[.int .i64 h] 3):=by refine callsIn_of_wp Tryz.func286 rfl d ?_ c;simp only[Tryz.ntmps286,Qbk,Qay,Qbu,Nat.reduceAdd,Nat.reduceSub,Qbw,Qbx,Qcj,Qbz,Qaz,Qbs];gi_wp2;go_ret;exact ⟨by simp,rfl⟩
def Dm {l k o' o} {W:World} (h:W.heap[k]?=some o) (c:k≠l):(W.putObj l o').heap[k]?=some o:=(World.putObj_heap_other c).trans h
def Ads {F:Fence} {n:Nat} {P:Program} {g:Operand} {ps:Array Tmp} {assign body:Code} {Q:Exit->Act->World->Prop} {a:Act} {w:World}
 (ag:F.round=none) (h1:1<=n) {gf:Nat} {lb:Array Value} (hg:a.eval g=.func (.func gf) #[] lb) (ah:F.fn gf) (eg:∀args w,(callFunc gf args).run P w=.ok (.enter gf args) w)
 {args:Array Value} (hps:args.size=ps.size) (Set:World->World->Prop)
 (hS:∀I X k o,Set I X->w.heap.size<=k->I.heap[k]?=some o->X.heap[k]?=some o)
 (hseq:∀(o:Obj) (R:World->Prop),(∀X,Set ((w.alloc (.deferred (some []))).alloc o) X->YieldAt F (n-1-1) P (w.heap.size+1) args X λe W'=>e=.returned (.bool true)/\R W') ->
   CallsIn F (n-1) P gf (#[.func (.yield (w.heap.size+1)) #[] #[]]++lb) ((w.alloc (.deferred (some []))).alloc o) λe W'=>(∃v,e=.returned v)/\R W')
 (J:World->Prop) (hJ:∀W l o o',J W->w.heap.size<=l->W.heap[l]?=some o->o.isCells=false->J (W.putObj l o'))
 (J1:Act->World->Prop) (hJ1:∀a W l o o',J1 a W->w.heap.size<=l->W.heap[l]?=some o->o.isCells=false->J1 a (W.putObj l o'))
 (h:∀(l:Nat) (o:Obj) (X:World),Set ((w.alloc (.deferred (some []))).alloc o) X->assign.wpIn (F.inRound l) (n-1-1) P (Exit.then (λd Y=>KeepsOthers X Y/\J1 d Y) λ_ _ _=>False) {tmps:=(ps.zip args).foldl (λt (p,v)=>t.setIfInBounds p v) a.tmps,defers:=[]} X)
 (Z:∀(l:Nat) (d:Act) (W:World),J1 d W->body.wpIn (F.inRound l) (n-1-1) P (λe _ W'=>e=.normal/\KeepsOthers W W'/\J W') d W)
 (a6:∀(D:Nat) (W:World),w.heap.size<=D->J W->W.heap[D]?=some (.deferred (some []))->Q .normal {a with defers:={target:=.collected D,args:=#[]}::a.defers} W) :
 (Code.rangeFunc g ps assign body).wpIn F n P Q a w:=by
 refine wpIn_rangeFunc ?_;intro fn ai;rw[ag];obtain⟨rec,c⟩:∃rec:LoopState->Option Code->Loop,rec=λst pe=>{state:=st,pending:=pe,fn,tmps:=a.tmps,params:=ps,assign,body,defers:=w.heap.size}:=⟨_,rfl⟩;obtain⟨I,y⟩:∃I,(w.alloc (.deferred (some []))).alloc (.loop (rec .ready none))=I:=⟨_,rfl⟩;have aj:I.heap[w.heap.size+1]?=some (.loop (rec .ready none)):=by rw[<-y];have:=World.alloc_heap_new (w.alloc (.deferred (some []))) (.loop (rec .ready none));rwa [World.size_alloc] at this
 have ak:I.heap[w.heap.size]?=some (.deferred (some [])):=by rw[<-y];exact (Below.heap_alloc _ _ _ (by simp)).trans (World.alloc_heap_new w _)
 refine ⟨w.heap.size+1,[{target:=.collected w.heap.size,args:=#[]}],I,{target:=.fn (.func gf) lb,args:=#[.func (.yield (w.heap.size+1)) #[] #[]]},I,gf,
  #[.func (.yield (w.heap.size+1)) #[] #[]]++lb,I,?_,?_,?_,?_,λ_=>h1,?_⟩
 .rw[<-y,c];exact run_enterLoop_outer _ _ _ _ _
 .simp only[resolve,hg];simp[go_sem]
 .intro f' ab;simp[Target.leads] at ab;subst ab;exact ah
 .simp[invoke,go_sem,eg]
 .have hq:=hseq (.loop (rec .ready none)) λW=>J W/\W.heap[w.heap.size+1]?=some (.loop (rec .ready none))/\W.heap[w.heap.size]?=some (.deferred (some []));rw[y] at hq;refine (hq ?_).mono ?_
  .intro W E;have a7:Set ((w.alloc (.deferred (some []))).alloc (.loop (rec .ready none))) W:=by rw[y];exact E
   have hl:=hS _ _ _ _ E (by omega) aj;have hk:=hS _ _ _ _ E (χ _) ak;have av:w.heap.size+1<W.heap.size:=(Array.getElem?_eq_some_iff.1 hl).1;have hy:=run_yield (P:=P) (args:=args) hl (by rw[c];exact hps);rw[c] at hy;refine ⟨fn,_,assign,body,hy,roundIn_of_wpIn ai (wpIn_mono (h _ _ W a7) ?_)⟩;rintro e a1 w1 hp;cases e with
   |normal =>obtain⟨ad,al⟩:=hp;have a8:=ad.same _ _ hl rfl;have an:=ad.same _ _ hk rfl;have ae:=(Array.getElem?_eq_some_iff.1 a8).1;refine ⟨_,run_beginRound a8 (by rw[c]),?_⟩;have ao:(w1.putObj (w.heap.size+1) (.loop {rec .ready none with state:=.busy})).heap[w.heap.size+1]?=some (.loop {rec .ready none with state:=.busy}):=World.putObj_heap_same ae;have aq:=Dm (l:=w.heap.size+1) (o':=.loop {rec .ready none with state:=.busy}) an (by omega);refine wpIn_mono (Z _ a1 _ (hJ1 _ _ _ _ _ al (by omega) a8 rfl)) ?_;rintro e a3 W3 ⟨rfl,af,ar⟩;have aa:=af.same _ _ ao rfl;have au:=af.same _ _ aq rfl;have hr:=run_endRound (P:=P) none aa;rw[c] at hr;refine ⟨_,_,hr,rfl,hJ _ _ _ _ ar (by omega) aa rfl,?_,Dm au (by omega)⟩;rw[c];exact World.putObj_heap_same (Array.getElem?_eq_some_iff.1 aa).1
   |_=>exact hp.elim
  .rintro e X ⟨⟨v,rfl⟩,hj,hl,hk⟩;exact ⟨none,_,by have:=run_endLoop (P:=P) hl (by rw[c];simp);rw[c] at this;exact this,a6 _ _ (χ _) (hJ _ _ _ _ hj (by omega) hl rfl) (Dm hk (by omega))⟩
def AdV (x u r:Bool) (s h:Int) (e:Ending):Prop:=∃c,e=.returned (.tuple #[.agg (if puE s h=0 then #[.bool (puU x u r s h),.bool x,.int .i64 (puS x r s)] else #[.bool false,.bool false,.int .i64 0]),c,.int .i64 (puE s h)])
def BI {o x} {W:World} {k:Nat} (h:W.heap[k]?=some x):(W.alloc o).heap[k]?=some x:=(Below.heap_alloc _ _ _ (Array.getElem?_eq_some_iff.1 h).1).trans h
def I6 {o k} {W:World} (h:k=W.heap.size):(W.alloc o).heap[k]?=some o:=by rw[h];exact World.alloc_heap_new W o
def UK {n₀ W l o'} (c:n₀<=l):Below n₀ W (W.putObj l o') :=
 ⟨rfl,rfl,rfl,by simp[World.putObj],λk d=>World.putObj_heap_other (by omega)⟩
def Afl:(Tryz.prog.info? 4).map (λi=>(i.zero,i.size,i.bytes))=some (some (.bool false),1,1):=by kernel_rfl
def Afm w:(Instr.makeSlice 341 (.int .i64 0) (.int .i64 1)).run Tryz.prog w=.ok (.slice (some ⟨w.heap.size,0,none⟩) 0 1) (w.alloc (.cells #[.bool false] 4)):=by
 obtain⟨i,hi,c,d,g⟩:=info_parts Afl;have h:=run_makeSlice w 341 4 i (.bool false) (by kernel_rfl) hi c .i64 .i64 0 1 (by omega) (by omega) (by simp_all) (by omega) (by omega);rw[h,d];have e:madeCells (Value.bool false).cells (Int.toNat 1*1)=#[Value.bool false]:=by
  apply Array.ext
  .simp[madeCells]
  .intro j h1 t;simp[madeCells,Value.cells,Nat.mod_one]
 simp_all
set_option maxRecDepth 100000 in
set_option maxHeartbeats 4000000 in
def AgO (x u r:Bool) (s h:Int) (b off cap:Nat) (w:World) (hb:b<w.heap.size) (hx:w.cell? ⟨b,off,none⟩=some (.bool x)) :
 CallsIn Fence.wide 4 Tryz.prog 210 #[.agg #[.bool u,.bool r,.int .i64 s],.slice (some ⟨b,off,none⟩) 1 cap,.int .i64 h] w λe W'=>AdV x u r s h e/\Below w.heap.size w W':=by
 refine callsIn_of_wp_marks Tryz.func210 rfl trivial ?_ rfl;simp only[Tryz.ntmps210,Qbk,Qay,Qbu,Nat.reduceAdd,Nat.reduceSub,Qbw,Qbx,Qcj,Qbz,Qaz,Qbs];gi_wp2;refine ⟨trivial,(Adm Fence.wide 3 trivial rfl u r s h _).mono ?_⟩;rintro e W1 ⟨rfl,rfl⟩;by_cases hz:puE s h=0
 .have ay:=Afm;gi_wp2;refine ⟨trivial,(AbK Fence.wide 3 trivial rfl u r s h b off cap _).mono ?_⟩;rintro e y ⟨rfl,d⟩;have az:y.heap.size=w.heap.size+8:=by rw[d];simp
  have a7:Below w.heap.size w y:=by rw[d];exact (((((((((Below.refl _ w).alloc (χ _) _).alloc (by simp) _).alloc (by simp;omega) _).alloc (by simp;omega) _).alloc (by simp;omega) _).alloc (by simp;omega) _).alloc (by simp;omega) _).alloc (by simp;omega) _)
  have ab:y.heap[w.heap.size]?=some (.cells #[.bool u,.bool r,.int .i64 s] 265 (0,0)):=by rw[d];exact BI (BI (BI (BI (BI (BI (BI (I6 rfl)))))))
  have ad:y.heap[w.heap.size+1]?=some (.cells #[.bool false,.bool false,.int .i64 0] 265 (0,0)):=by rw[d];exact BI (BI (BI (BI (BI (BI (I6 (by simp only[World.size_alloc])))))))
  have ae:y.heap[w.heap.size+1+1+1]?=some (.cells #[.bool false] 4 (0,0)):=by rw[d];exact BI (BI (BI (BI (I6 (by simp only[World.size_alloc])))))
  have ag:y.heap[w.heap.size+1+1+1+1]?=some (.cells #[.slice (some ⟨w.heap.size+1+1+1,0,none⟩) 0 1] 341 (0,0)):=by rw[d];exact BI (BI (BI (I6 (by simp only[World.size_alloc]))))
  have ah:y.heap[w.heap.size+1+1+1+1+1]?=some (.cells #[.bool u,.bool r,.int .i64 s] 265 (0,0)):=by rw[d];exact BI (BI (I6 (by simp only[World.size_alloc])))
  have ai:y.heap[w.heap.size+1+1+1+1+1+1]?=some (.cells #[.slice (some ⟨b,off,none⟩) 1 cap] 341 (0,0)):=by rw[d];exact BI (I6 (by simp only[World.size_alloc]))
  have aj:y.heap[w.heap.size+1+1+1+1+1+1+1]?=some (.cells #[.int .i64 h] 3 (0,0)):=by rw[d];exact I6 (by simp only[World.size_alloc])
  have hs:0<=s/\s<=1048576:=by
   unfold puE at hz;split at hz
   .cases hz
   .omega
  have fin:∀(W:World) (sv:Value) (tm:Array Value),Below w.heap.size w W->tm[6]?=some (.pointer (some ⟨w.heap.size+1,0,none⟩))->tm[7]?=some sv->tm[8]?=some (.int .i64 0)->W.heap[w.heap.size+1]?=some (.cells #[.bool (puU x u r s h),.bool x,.int .i64 (puS x r s)] 265 (0,0)) ->
   ∃v,(results Tryz.f210 tm).run Tryz.prog W=.ok v W/\AdV x u r s h (.returned v)/\Below w.heap.size w W:=λW sv tm X t6 t7 t8 h1=>by
   have c0:W.cell? ⟨w.heap.size+1,0,none⟩=some (.bool (puU x u r s h)):=by simp[World.cell?,h1]
   have c1:W.cell? ⟨w.heap.size+1,1,none⟩=some (.bool x):=by simp[World.cell?,h1]
   have c2:W.cell? ⟨w.heap.size+1,2,none⟩=some (.int .i64 (puS x r s)):=by simp[World.cell?,h1]
   refine ⟨_,?_,⟨sv,rfl⟩,X⟩
   rw[if_pos hz,hz]
   simp[results,Tryz.f210,go_sem,t6,t7,t8,c0,c1,c2]
  clear d;simp only[World.size_alloc];gi_wp2;refine Ads (F:=Fence.wide) (n:=4) (P:=Tryz.prog) ?h0 ?h1 (gf:=318) (lb:=#[.pointer (some ⟨w.heap.size+1+1+1+1+1+1,0,none⟩),.pointer (some ⟨w.heap.size+1+1+1+1+1,0,none⟩),.pointer (some ⟨w.heap.size+1+1+1+1+1+1+1,0,none⟩)]) ?hg ?hF ?heg
   (args:=#[.agg #[.bool (puU x u r s h),.bool x,.int .i64 (puS x r s)]]) ?hps (Ws (w.heap.size+1+1+1+1+1) (puU x u r s h) x (puS x r s)) ?hS ?hseq
   (λW=>Below w.heap.size w W/\W.heap[w.heap.size]?=some (.cells #[.bool (puU x u r s h),.bool x,.int .i64 (puS x r s)] 265 (0,0))/\W.heap[w.heap.size+1]?=some (.cells #[.bool false,.bool false,.int .i64 0] 265 (0,0))/\W.heap[w.heap.size+1+1+1+1]?=some (.cells #[.slice (some ⟨w.heap.size+1+1+1,0,none⟩) 1 1] 341 (0,0)))
   ?hJ
   (λa W=>∃N,w.heap.size+8<=N/\a={tmps:=#[.agg #[.bool u,.bool r,.int .i64 s],.slice (some ⟨b,off,none⟩) 1 cap,.int .i64 h,.pointer (some ⟨w.heap.size,0,none⟩),undef,undef,.pointer (some ⟨w.heap.size+1,0,none⟩),.slice none 0 0,.int .i64 0,.int .i64 0,.pointer (some ⟨w.heap.size+1+1+1+1,0,none⟩),.pointer (some ⟨N,0,none⟩),.agg #[.bool u,.bool r,.int .i64 s],.slice (some ⟨b,off,none⟩) 1 cap,.int .i64 1,.int .i64 h,.int .i64 0,.int .i64 0,.bool false,undef,undef,.slice (some ⟨b,off,none⟩) 1 cap,.int .i64 1,.slice (some ⟨w.heap.size+1+1+1,0,none⟩) 0 1,.agg #[.bool u,.bool r,.int .i64 s],.slice (some ⟨b,off,none⟩) 1 cap,.int .i64 h,.func (.func 318) #[] #[.pointer (some ⟨w.heap.size+1+1+1+1+1+1,0,none⟩),.pointer (some ⟨w.heap.size+1+1+1+1+1,0,none⟩),.pointer (some ⟨w.heap.size+1+1+1+1+1+1+1,0,none⟩)],.agg #[.bool (puU x u r s h),.bool x,.int .i64 (puS x r s)],undef,undef,undef,undef,undef,undef,undef,undef],defers:=[]} /\
     Below w.heap.size w W/\W.heap[w.heap.size]?=some (.cells #[.bool u,.bool r,.int .i64 s] 265 (0,0))/\W.heap[w.heap.size+1]?=some (.cells #[.bool false,.bool false,.int .i64 0] 265 (0,0))/\W.heap[w.heap.size+1+1+1]?=some (.cells #[.bool false] 4 (0,0))/\W.heap[w.heap.size+1+1+1+1]?=some (.cells #[.slice (some ⟨w.heap.size+1+1+1,0,none⟩) 0 1] 341 (0,0))/\W.heap[N]?=some (.cells #[.bool (puU x u r s h),.bool x,.int .i64 (puS x r s)] 265 (0,0)))
   ?hJ1 ?assign ?body ?done;case h0=>rfl
  case h1=>omega
  case hg=>rfl
  case hF=>trivial
  case heg=>exact enters_of Tryz.func318 (by kernel_rfl) rfl
  case hps=>rfl
  case hS =>intro W1 W2 k o c Y ak;rw[c.same k (by omega)];exact ak
  case hseq =>
   intro o R hY;have e6:((y.alloc (.deferred (some []))).alloc o).cell? ⟨w.heap.size+1+1+1+1+1+1,0,none⟩=some (.slice (some ⟨b,off,none⟩) 1 cap):=by simp only[World.cell?,BI (BI ai)];rfl
   have e7:((y.alloc (.deferred (some []))).alloc o).cell? ⟨w.heap.size+1+1+1+1+1+1+1,0,none⟩=some (.int .i64 h):=by simp only[World.cell?,BI (BI aj)];rfl
   have ex:((y.alloc (.deferred (some []))).alloc o).cell? ⟨b,off,none⟩=some (.bool x):=((a7.alloc (by omega) _).alloc (by simp;omega) _ |>.cell (p:=⟨b,off,none⟩) hb).trans hx;exact AbL Fence.wide 3 trivial rfl (by omega) (y.heap.size+1) _ _ _ b off cap x u r s h hs _ e6 ex (BI (BI ah)) e7 ⟨by omega,by omega,by omega⟩ R hY
  case hJ =>rintro W l o o' ⟨X,t,I,J⟩ hl ho hc;exact ⟨X.trans (UK (by omega)),Dm t (by omega),Dm I (by omega),Dm J (by omega)⟩
  case hJ1 =>
   rintro a W l o o' ⟨N,hN,ha,X,t,I,q3,J,qN⟩ hl ho hc;have al:N≠l:=λe=>by rw[e,ho] at qN;cases Qag qN;exact absurd hc (by simp[Obj.isCells])
   exact ⟨N,hN,ha,X.trans (UK (by omega)),Dm t (by omega),Dm I (by omega),Dm q3 (by omega),Dm J (by omega),Dm qN al⟩
  case assign =>
   intro l o W2 c;have a8:W2.heap.size=w.heap.size+10:=by rw[c.size];simp only[World.size_alloc];omega
   have an:Below w.heap.size w W2:=by have h2:=(a7.alloc (by omega) (.deferred (some []))).alloc (by simp only[World.size_alloc];omega) o;exact ⟨c.os.trans h2.os,c.tape.trans h2.tape,c.output.trans h2.output,by rw[c.size];exact h2.size,λk Y=>by rw[c.same k (by omega)];exact h2.block k Y⟩
   have g:∀k x,k≠w.heap.size+1+1+1+1+1->y.heap[k]?=some x->W2.heap[k]?=some x:=λk x Y hx=>by rw[c.same k Y];exact BI (BI hx)
   gi_wp2;exact ⟨KeepsOthers.alloc _ _,w.heap.size+10,by omega,rfl,an.alloc (by omega) _,BI (g _ _ (by omega) ab),BI (g _ _ (by omega) ad),BI (g _ _ (by omega) ae),BI (g _ _ (by omega) ag),I6 a8.symm⟩
  case body =>
   rintro l ax W ⟨N,hN,rfl,X,t,I,q3,J,qN⟩;have n0:W.cell? ⟨N,0,none⟩=some (.bool (puU x u r s h)):=by simp[World.cell?,qN]
   have n1:W.cell? ⟨N,1,none⟩=some (.bool x):=by simp[World.cell?,qN]
   have n2:W.cell? ⟨N,2,none⟩=some (.int .i64 (puS x r s)):=by simp[World.cell?,qN]
   have m0:W.cell? ⟨w.heap.size,0,none⟩=some (.bool u):=by simp[World.cell?,t]
   have m1:W.cell? ⟨w.heap.size,1,none⟩=some (.bool r):=by simp[World.cell?,t]
   have m2:W.cell? ⟨w.heap.size,2,none⟩=some (.int .i64 s):=by simp[World.cell?,t]
   have f0:W.frozen? ⟨w.heap.size,0,none⟩=false:=by simp[World.frozen?,t]
   have f1:W.frozen? ⟨w.heap.size,1,none⟩=false:=by simp[World.frozen?,t]
   have f2:W.frozen? ⟨w.heap.size,2,none⟩=false:=by simp[World.frozen?,t]
   have k4:W.cell? ⟨w.heap.size+1+1+1+1,0,none⟩=some (.slice (some ⟨w.heap.size+1+1+1,0,none⟩) 0 1):=by simp[World.cell?,J]
   have f4:W.frozen? ⟨w.heap.size+1+1+1+1,0,none⟩=false:=by simp[World.frozen?,J]
   obtain⟨V,hV⟩:∃V,(((W.setCell ⟨w.heap.size,0,none⟩ (.bool (puU x u r s h))).setCell ⟨w.heap.size,1,none⟩ (.bool x)).setCell ⟨w.heap.size,2,none⟩ (.int .i64 (puS x r s)))=V:=⟨_,rfl⟩;have ao:V.heap.size=W.heap.size:=by rw[<-hV];simp
   have a1:∀k,k≠w.heap.size->V.heap[k]?=W.heap[k]?:=λk Y=>by rw[<-hV,heap_setCell_other _ _ _ _ Y,heap_setCell_other _ _ _ _ Y,heap_setCell_other _ _ _ _ Y]
   have A3:(V.alloc (.cells #[.bool (puU x u r s h)] 4)).heap[w.heap.size+1+1+1]?=some (.cells #[.bool false] 4 (0,0)):=BI ((a1 _ (by omega)).trans q3);have ac:(V.alloc (.cells #[.bool (puU x u r s h)] 4)).cell? ⟨w.heap.size+1+1+1,0,none⟩=some (.bool false):=by simp only[World.cell?,A3];rfl
   have af:(V.alloc (.cells #[.bool (puU x u r s h)] 4)).frozen? ⟨w.heap.size+1+1+1,0,none⟩=false:=by simp only[World.frozen?,A3];rfl
   obtain⟨U,hU⟩:∃U,(V.alloc (.cells #[.bool (puU x u r s h)] 4)).setCell ⟨w.heap.size+1+1+1,0,none⟩ (.bool (puU x u r s h))=U:=⟨_,rfl⟩;have aB:U.heap.size=W.heap.size+1:=by rw[<-hU,World.size_setCell,World.size_alloc,ao]
   have aP:N<W.heap.size:=(Array.getElem?_eq_some_iff.1 qN).1;have aa:∀k,k<W.heap.size->k≠w.heap.size->k≠w.heap.size+1+1+1->U.heap[k]?=W.heap[k]?:=λk Y h1 h2=>by rw[<-hU,heap_setCell_other _ _ _ _ h2,Below.heap_alloc _ _ _ (by omega),a1 k h1]
   have U4:=(aa _ (by omega) (by omega) (by omega)).trans J;have uc:U.cell? ⟨w.heap.size+1+1+1+1,0,none⟩=some (.slice (some ⟨w.heap.size+1+1+1,0,none⟩) 0 1):=by simp[World.cell?,U4]
   have uf:U.frozen? ⟨w.heap.size+1+1+1+1,0,none⟩=false:=by simp[World.frozen?,U4]
   have vN:=(a1 _ (by omega)).trans qN;have v4:=(a1 _ (by omega)).trans J;have vn:V.cell? ⟨N,0,none⟩=some (.bool (puU x u r s h)):=by simp[World.cell?,vN]
   have vc:V.cell? ⟨w.heap.size+1+1+1+1,0,none⟩=some (.slice (some ⟨w.heap.size+1+1+1,0,none⟩) 0 1):=by simp[World.cell?,v4]
   have V0:V.heap[w.heap.size]?=some (.cells #[.bool (puU x u r s h),.bool x,.int .i64 (puS x r s)] 265 (0,0)):=by rw[<-hV];exact heap_setCell_same _ _ 2 _ _ _ (heap_setCell_same _ _ 1 _ _ _ (heap_setCell_same _ _ 0 _ _ _ t))
   have U0:U.heap[w.heap.size]?=some (.cells #[.bool (puU x u r s h),.bool x,.int .i64 (puS x r s)] 265 (0,0)):=by rw[<-hU,heap_setCell_other _ _ _ _ (by show w.heap.size≠w.heap.size+1+1+1;omega)];exact BI V0
   have aq:KeepsOthers W U:=by rw[<-hU,<-hV];exact ((((KeepsOthers.setCell _ _ _).trans (KeepsOthers.setCell _ _ _)).trans (KeepsOthers.setCell _ _ _)).trans (KeepsOthers.alloc _ _)).trans (KeepsOthers.setCell _ _ _)
   have ar:Below w.heap.size w U:=by rw[<-hU,<-hV];exact ((((X.setCell (χ _) _).setCell (χ _) _).setCell (χ _) _).alloc (by simp only[World.size_setCell];omega) _).setCell (by show w.heap.size<=w.heap.size+1+1+1;omega) _
   gi_wp2;refine ⟨aq.trans (KeepsOthers.setCell _ _ _),ar.setCell (by show w.heap.size<=w.heap.size+1+1+1+1;omega) _,?_,?_,heap_setCell_same _ _ 0 _ _ _ U4⟩
   .rw[heap_setCell_other _ _ _ _ (by show w.heap.size≠w.heap.size+1+1+1+1;omega)];exact U0
   .rw[heap_setCell_other _ _ _ _ (by show w.heap.size+1≠w.heap.size+1+1+1+1;omega)];exact (aa _ (by omega) (by omega) (by omega)).trans I
  case done =>
   rintro D W hD ⟨X,t,I,J⟩ au;have p0:W.cell? ⟨w.heap.size,0,none⟩=some (.bool (puU x u r s h)):=by simp[World.cell?,t]
   have p1:W.cell? ⟨w.heap.size,1,none⟩=some (.bool x):=by simp[World.cell?,t]
   have p2:W.cell? ⟨w.heap.size,2,none⟩=some (.int .i64 (puS x r s)):=by simp[World.cell?,t]
   have r0:W.cell? ⟨w.heap.size+1,0,none⟩=some (.bool false):=by simp[World.cell?,I]
   have r1:W.cell? ⟨w.heap.size+1,1,none⟩=some (.bool false):=by simp[World.cell?,I]
   have r2:W.cell? ⟨w.heap.size+1,2,none⟩=some (.int .i64 0):=by simp[World.cell?,I]
   have g0:W.frozen? ⟨w.heap.size+1,0,none⟩=false:=by simp[World.frozen?,I]
   have g1:W.frozen? ⟨w.heap.size+1,1,none⟩=false:=by simp[World.frozen?,I]
   have g2:W.frozen? ⟨w.heap.size+1,2,none⟩=false:=by simp[World.frozen?,I]
   have k4:W.cell? ⟨w.heap.size+1+1+1+1,0,none⟩=some (.slice (some ⟨w.heap.size+1+1+1,0,none⟩) 1 1):=by simp[World.cell?,J]
   have b0:Tryz.prog.follows .mixedOrders=true:=by kernel_rfl
   gi_wp2;gi_region;gi_wp2;have E:=heap_setCell_same _ _ 2 _ _ (.int .i64 (puS x r s)) (heap_setCell_same _ _ 1 _ _ (.bool x) (heap_setCell_same _ _ 0 _ _ (.bool (puU x u r s h)) I));obtain⟨Z,hZ⟩:∃Z,(((W.setCell ⟨w.heap.size+1,0,none⟩ (.bool (puU x u r s h))).setCell ⟨w.heap.size+1,1,none⟩ (.bool x)).setCell ⟨w.heap.size+1,2,none⟩ (.int .i64 (puS x r s)))=Z:=⟨_,rfl⟩;rw[hZ] at E;have a6:∀i,D≠(⟨w.heap.size+1,i,none⟩:Addr).block:=λi=>by show D≠w.heap.size+1;omega
   have av:Z.heap[D]?=some (.deferred (some [])):=by rw[<-hZ,heap_setCell_other _ _ _ _ (a6 2),heap_setCell_other _ _ _ _ (a6 1),heap_setCell_other _ _ _ _ (a6 0)];exact au
   have aw:Below w.heap.size w Z:=by rw[<-hZ];exact ((X.setCell (by show w.heap.size<=w.heap.size+1;omega) _).setCell (by show w.heap.size<=w.heap.size+1;omega) _).setCell (by show w.heap.size<=w.heap.size+1;omega) _
   try rw[hZ]
   refine ⟨by simp,.inl ⟨D,Z.drew.putObj D (.deferred none),rfl,run_takeDeferred (w:=Z.drew) av,?_⟩⟩;exact fin (Z.drew.putObj D (.deferred none)) _ _ (aw.drew.trans (UK (by omega))) rfl rfl rfl (Dm (W:=Z.drew) E (by omega))
 .gi_wp2;have c0:∀(W:World),W.heap[w.heap.size+1]?=some (.cells #[.bool false,.bool false,.int .i64 0] 265 (0,0))->W.cell? ⟨w.heap.size+1,0,none⟩=some (.bool false)/\W.cell? ⟨w.heap.size+1,1,none⟩=some (.bool false)/\W.cell? ⟨w.heap.size+1,2,none⟩=some (.int .i64 0):=λW h1=>by simp[World.cell?,h1]
  obtain⟨k0,k1,k2⟩:=c0 (((w.alloc (.cells #[.bool u,.bool r,.int .i64 s] 265)).alloc (.cells #[.bool false,.bool false,.int .i64 0] 265)).alloc (.cells #[.bool u,.bool r,.int .i64 s] 265)) (BI (I6 (by simp only[World.size_alloc])));refine ⟨_,?_,⟨.slice none 0 0,rfl⟩,(((Below.refl _ w).alloc (χ _) _).alloc (by simp) _).alloc (by simp;omega) _⟩;rw[if_neg hz];simp[results,Tryz.f210,go_sem,k0,k1,k2]
def Jz (x u r:Bool) (s h:Int):Bool×Bool×Int:=if puE s h=0 then (puU x u r s h,x,puS x r s) else (false,false,0)
set_option maxRecDepth 100000 in
set_option maxHeartbeats 4000000 in
def Afn (x u r:Bool) (s h:Int) (w:World) :
 CallsIn Fence.wide 5 Tryz.prog 150 #[.agg #[.bool u,.bool r,.int .i64 s],.bool x,.int .i64 h] w λe W'=>e=.returned (.tuple #[.agg #[.bool (Jz x u r s h).1,.bool (Jz x u r s h).2.1,.int .i64 (Jz x u r s h).2.2],.int .i64 (puE s h)])/\Below w.heap.size w W':=by
 refine callsIn_of_wp_marks Tryz.func150 rfl trivial ?_ rfl;simp only[Tryz.ntmps150,Qbk,Qay,Qbu,Nat.reduceAdd,Nat.reduceSub,Qbw,Qbx,Qcj,Qbz,Qaz,Qbs];gi_wp2;obtain⟨d,c⟩:∃d,((w.alloc (.cells #[.bool u,.bool r,.int .i64 s] 265)).alloc (.cells #[.bool false,.bool false,.int .i64 0] 265)).alloc (.cells #[.bool x] 4)=d:=⟨_,rfl⟩;have a7:d.heap.size=w.heap.size+3:=by rw[<-c];simp
 have X:Below w.heap.size w d:=by rw[<-c];exact (((Below.refl _ w).alloc (χ _) _).alloc (by simp) _).alloc (by simp;omega) _
 have q0:d.heap[w.heap.size]?=some (.cells #[.bool u,.bool r,.int .i64 s] 265 (0,0)):=by rw[<-c];exact BI (BI (I6 rfl))
 have q1:d.heap[w.heap.size+1]?=some (.cells #[.bool false,.bool false,.int .i64 0] 265 (0,0)):=by rw[<-c];exact BI (I6 (by simp only[World.size_alloc]))
 have q2:d.heap[w.heap.size+1+1]?=some (.cells #[.bool x] 4 (0,0)):=by rw[<-c];exact I6 (by simp only[World.size_alloc])
 have c2:d.cell? ⟨w.heap.size+1+1,0,none⟩=some (.bool x):=by simp[World.cell?,q2]
 try rw[c]
 clear c;refine ⟨trivial,(AgO x u r s h (w.heap.size+1+1) 0 1 d (by omega) c2).mono ?_⟩;rintro e t ⟨⟨sv,rfl⟩,g⟩;have J:(if puE s h=0 then #[.bool (puU x u r s h),.bool x,.int .i64 (puS x r s)] else #[.bool false,.bool false,.int .i64 0])=(#[.bool (Jz x u r s h).1,.bool (Jz x u r s h).2.1,.int .i64 (Jz x u r s h).2.2]:Array Value):=by unfold Jz;split<;>rfl
 rw[J];clear J;generalize hv:Jz x u r s h=v;obtain⟨y,I,v3⟩:=v;have p0:=(g.block _ (show w.heap.size<d.heap.size by omega)).trans q0;have p1:=(g.block _ (show w.heap.size+1<d.heap.size by omega)).trans q1;have a8:=g.size;have hB:Below w.heap.size w t:=X.trans (g.mono (by omega));have m0:t.cell? ⟨w.heap.size,0,none⟩=some (.bool u):=by simp[World.cell?,p0]
 have m1:t.cell? ⟨w.heap.size,1,none⟩=some (.bool r):=by simp[World.cell?,p0]
 have m2:t.cell? ⟨w.heap.size,2,none⟩=some (.int .i64 s):=by simp[World.cell?,p0]
 have f0:t.frozen? ⟨w.heap.size,0,none⟩=false:=by simp[World.frozen?,p0]
 have f1:t.frozen? ⟨w.heap.size,1,none⟩=false:=by simp[World.frozen?,p0]
 have f2:t.frozen? ⟨w.heap.size,2,none⟩=false:=by simp[World.frozen?,p0]
 obtain⟨V,Y⟩:∃V,((t.setCell ⟨w.heap.size,0,none⟩ (.bool y)).setCell ⟨w.heap.size,1,none⟩ (.bool I)).setCell ⟨w.heap.size,2,none⟩ (.int .i64 v3)=V:=⟨_,rfl⟩;have V0:V.heap[w.heap.size]?=some (.cells #[.bool y,.bool I,.int .i64 v3] 265 (0,0)):=by rw[<-Y];exact heap_setCell_same _ _ 2 _ _ _ (heap_setCell_same _ _ 1 _ _ _ (heap_setCell_same _ _ 0 _ _ _ p0))
 have V1:V.heap[w.heap.size+1]?=some (.cells #[.bool false,.bool false,.int .i64 0] 265 (0,0)):=by rw[<-Y,heap_setCell_other _ _ _ _ (by show w.heap.size+1≠w.heap.size;omega),heap_setCell_other _ _ _ _ (by show w.heap.size+1≠w.heap.size;omega),heap_setCell_other _ _ _ _ (by show w.heap.size+1≠w.heap.size;omega)];exact p1
 have a1:Below w.heap.size w V:=by rw[<-Y];exact ((hB.setCell (χ _) _).setCell (χ _) _).setCell (χ _) _
 have n0:V.cell? ⟨w.heap.size,0,none⟩=some (.bool y):=by simp[World.cell?,V0]
 have n1:V.cell? ⟨w.heap.size,1,none⟩=some (.bool I):=by simp[World.cell?,V0]
 have n2:V.cell? ⟨w.heap.size,2,none⟩=some (.int .i64 v3):=by simp[World.cell?,V0]
 have k0:V.cell? ⟨w.heap.size+1,0,none⟩=some (.bool false):=by simp[World.cell?,V1]
 have k1:V.cell? ⟨w.heap.size+1,1,none⟩=some (.bool false):=by simp[World.cell?,V1]
 have k2:V.cell? ⟨w.heap.size+1,2,none⟩=some (.int .i64 0):=by simp[World.cell?,V1]
 have g0:V.frozen? ⟨w.heap.size+1,0,none⟩=false:=by simp[World.frozen?,V1]
 have g1:V.frozen? ⟨w.heap.size+1,1,none⟩=false:=by simp[World.frozen?,V1]
 have g2:V.frozen? ⟨w.heap.size+1,2,none⟩=false:=by simp[World.frozen?,V1]
 gi_wp2;have E:=heap_setCell_same _ _ 2 _ _ (.int .i64 v3) (heap_setCell_same _ _ 1 _ _ (.bool I) (heap_setCell_same _ _ 0 _ _ (.bool y) V1));obtain⟨Z,hZ⟩:∃Z,((V.setCell ⟨w.heap.size+1,0,none⟩ (.bool y)).setCell ⟨w.heap.size+1,1,none⟩ (.bool I)).setCell ⟨w.heap.size+1,2,none⟩ (.int .i64 v3)=Z:=⟨_,rfl⟩;have a6:Below w.heap.size w Z:=by rw[<-hZ];exact ((a1.setCell (by show w.heap.size<=w.heap.size+1;omega) _).setCell (by show w.heap.size<=w.heap.size+1;omega) _).setCell (by show w.heap.size<=w.heap.size+1;omega) _
 rw[hZ] at E ⊢;have z0:Z.cell? ⟨w.heap.size+1,0,none⟩=some (.bool y):=by simp[World.cell?,E]
 have z1:Z.cell? ⟨w.heap.size+1,1,none⟩=some (.bool I):=by simp[World.cell?,E]
 have z2:Z.cell? ⟨w.heap.size+1,2,none⟩=some (.int .i64 v3):=by simp[World.cell?,E]
 refine ⟨.tuple #[.agg #[.bool y,.bool I,.int .i64 v3],.int .i64 (puE s h)],?_,by rw[hv],a6⟩;simp[results,Tryz.f150,go_sem,z0,z1,z2]
def Ado x u r s h:CQ ((u,(r,s)),(x,h))=(Jz x u r s h,puE s h):=by
 unfold CQ Jz puE puU puS;simp only;by_cases c1:s<0\/1048576<s
 .rw[if_pos c1,if_pos c1,if_neg (by decide)]
 .rw[if_neg c1,if_neg c1];by_cases c2:h<1\/1048576<h
  .rw[if_pos c2,if_pos c2,if_neg (by decide)]
  .rw[if_neg c2,if_neg c2,if_pos rfl,Ds]
def Adn w F d (u r x:Bool) (s h:Int) (y:BP w F [Mi,Bo,ζ] ((u,(r,s)),(x,h)) d) :
 Calls Tryz.prog 150 d.toArray w λe w'=>∃rs,e=.returned (Cp rs)/\Below w.heap.size w w'/\Gd w.heap.size w' F false [Mi,ζ] (CQ ((u,(r,s)),(x,h))) rs:=by
 obtain⟨us,vs,h1,rfl,g,E,I,rfl,t,J,rfl⟩:=y;obtain⟨rfl,X⟩:=show t=[.int .i64 h]/\inR .i64 h=true from J;obtain rfl:=show g=[.bool x] from I;obtain⟨Y,a2,rfl,Z,b1,b2,rfl,e2,e3⟩:=h1;obtain rfl:=show Y=[.bool u] from Z;obtain rfl:=show b1=[.bool r] from e2;obtain⟨rfl,hs⟩:=show b2=[.int .i64 s]/\inR .i64 s=true from e3;refine (callsIn_wide.1 (Afn x u r s h w)).mono ?_;rintro e w' ⟨rfl,hB⟩;rw[Ado];have hE:inR .i64 (puE s h)=true:=by
  unfold puE;split
  .rfl
  .split<;>rfl
 have hS:inR .i64 (Jz x u r s h).2.2=true:=by
  unfold Jz;split
  .rename_i c;have a6:¬(s<0\/1048576<s):=λX=>by unfold puE at c<;>omega
   have:0<=puS x r s/\puS x r s<=1048576:=by unfold puS<;>omega
   unfold inR;simp only[Qab,decide_eq_true_eq];show (-9223372036854775808:Int)<=puS x r s/\puS x r s<=9223372036854775807;omega
  .rfl
 exact ⟨[.agg #[.bool (Jz x u r s h).1,.bool (Jz x u r s h).2.1,.int .i64 (Jz x u r s h).2.2],.int .i64 (puE s h)],rfl,hB,[.bool (Jz x u r s h).1,.bool (Jz x u r s h).2.1,.int .i64 (Jz x u r s h).2.2],_,⟨[.bool _],_,rfl,rfl,[.bool _],_,rfl,rfl,rfl,hS⟩,rfl,[.int .i64 (puE s h)],⟨rfl,hE⟩,rfl⟩
def oR:BM Tryz.prog V 150 (spT [Mi,Bo,ζ] [Mi,ζ] CQ) where
 enters:=enters_of Tryz.func150 (by kernel_rfl) rfl
 tot:=λg hg x=>by cases hg;rfl
 calls:=λw F c x y _ _ d h=>by cases h;exact Adn w F c x.1.1 x.1.2.1 x.2.1 x.1.2.2 x.2.2 d
end
end
end Go.Proofs.YtlgpjdjcbincgaaGreatDoor
