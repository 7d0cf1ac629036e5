/- Part of a plain reading of Go code: an evaluator of code as functions of typed data, and that it tells what the machine does. -/
import Derived.Calls
import Derived.Deep.MidRow
import Derived.Laws.AppendOwn
import Derived.Below
set_option linter.all false
namespace Go.Den
set_option linter.defProp false
def χ:=@Nat.le_refl
def Qab:=@Bool.and_eq_true
def Qac:=@Nat.lt_of_lt_of_le
def Qad:=@List.eq_nil_of_length_eq_zero
def Qae:=@Int.toNat_natCast
def Qaf:=@Option.some.injEq
def Qag:=@Option.some.inj
def Qah:=@List.mem_append_left
def Qai:=@Option.map_some
def Qaj:=@Bool.or_eq_true
def Qak:=@List.mem_cons_of_mem
def Qal:=@Bool.not_eq_true'
def Qam:=@Nat.shiftRight_eq_div_pow
def Qan:=@List.mem_append_right
def Qao:=@Array.getD_eq_getD_getElem?
def Qap:=@Bool.true_and
def Qaq:=@List.append_assoc
def Qar:=@Classical.byContradiction
def Qas:=@List.take_of_length_le
def Qat:=@Array.length_toList
def Qau:=@List.length_append
def Qav:=@Array.getElem?_toList
def Qaw:=@Nat.zero_le
def Qax:=@Int.toNat_of_nonneg
def Qay:=@List.length_cons
def Qaz:=@List.nil_append
def Qba:=@List.getD_eq_getElem?_getD
def Qbb:=@Int.le_refl
def Qbc:=@Option.getD_some
def Qbd:=@List.append_nil
def Qbe:=@Nat.le_of_ble_eq_true
def Qbf:=@List.getElem?_map
def Qbg:=@List.getElem?_take
def Qbh:=@Nat.le_trans
def Qbi:=@List.getElem?_cons_zero
def Qbj:=@List.getElem?_cons_succ
def Qbk:=@List.size_toArray
def Qbl:=@Bool.not_false
def Qbm:=@Nat.zero_add
def Qbn:=@List.length_take
def Qbo:=@Bool.not_true
def Qbp:=@Nat.pow_le_pow_right
def Qbq:=@Int.tmod_eq_emod_of_nonneg
def Qbr:=@List.mem_cons_self
def Qbs:=@List.cons_append
def Qbt:=@Array.getElem?_setIfInBounds_ne
def Qbu:=@List.length_nil
def Qbv:=@Bool.or_eq_false_iff
def Qbw:=@Array.replicate_succ
def Qbx:=@Array.replicate_zero
def Qby:=@Int.tmod_lt_of_pos
def Qbz:=@List.append_toArray
def Qca:=@Nat.lt_succ_of_lt
def Qcb:=@Int.not_lt
def Qcc:=@List.getElem?_toArray
def Qcd:=@Nat.add_mul
def Qce:=@Option.map_none
def Qcf:=@Array.toArray_toList
def Qcg:=@Int.fdiv_eq_ediv_of_nonneg
def Qch:=@Nat.mul_one
def Qci:=@List.take_add_one
def Qcj:=@List.push_toArray
def Qck:=@List.mem_append
def Qcl:=@Array.getElem?_replicate
def Qcm:=@Nat.lt_irrefl
def Qcn:=@List.mem_of_getElem?
def Qco:=@Nat.mul_le_mul_right
def Qcp:=@Int.emod_eq_of_lt
def Qcq:=@Decidable.not_not
def Qcr:=@Int.tmod_nonneg
def Qcs:=@List.getElem?_range
def Qct:=@Nat.testBit_lt_two_pow
def Qcu:=@List.map_cons
def Qcv:=@Prod.mk.injEq
def Qcw:=@Nat.and_le_right
def Qcx:=@Nat.lt_succ_self
def Qcy:=@List.getElem?_drop
def Qcz:=@Bool.false_eq_true
def Qda:=@Nat.lt_of_le_of_lt
def Qdb:=@List.length_replicate
def Qdc:=@List.getElem?_append_left
def Qdd:=@Array.eq_empty_of_size_eq_zero
def Qde:=@List.mem_of_mem_take
def Qdf:=@List.range_succ
def Qdg:=@Int.mul_le_mul_of_nonneg_right
def Qdh:=@Bool.not_eq_false
def Qdi:=@Int.eq_ofNat_of_zero_le
def Qdj:=@List.length_drop
def Qdk:=@Nat.mod_eq_of_lt
def Qdl:=@List.drop_of_length_le
def Qdm:=@Option.map_eq_some_iff
def Qdn:=@Int.natCast_add
def Qdo:=@List.cons.injEq
def Qdp:=@List.getElem?_append_right
def Qdq:=@List.ext_getElem?
def Qdr:=@Decidable.byContradiction
def Qds:=@Prod.mk.inj
def Qdt:=@Int.le_of_lt
def Qdu:=@List.take_append
def Qdv:=@List.getElem?_eq_getElem
def Qdw:=@List.mem_cons
def Qdx:=@List.length_map
def Qdy:=@List.map_append
def Qdz:=@Int.ediv_nonneg
def Qea:=@List.take_append_of_le_length
def Qeb:=@Nat.beq_refl
def Qec:=@List.singleton_append
def Qed:=@Array.getElem?_append
def Qee:=@Bool.false_and
def Qef:=@Int.mul_nonneg
def Qeg:=@Bool.and_eq_false_iff
def Qeh:=@Option.bind_some
def Qei:=@Int.max_eq_right
def Qej:=@List.not_mem_nil
def Qek:=@List.mem_of_mem_drop
def Qel:=@List.take_length
def Qem:=@Array.toList_setIfInBounds
def Qen:=@Int.tdiv_eq_ediv_of_nonneg
def Qeo:=@List.toList_toArray
def Qep:=@Nat.testBit_and
def Qeq:=@Int.max_eq_left
def Qer:=@Nat.min_eq_left
def Qes:=@List.mem_or_eq_of_mem_set
def Qet:=@Option.orElse_none
def Qeu:=@Nat.sub_zero
def Qev:=@Nat.and_lt_two_pow
def Qew:=@Bool.not_eq_false'
def Qex:=@Bool.eq_false_or_eq_true
def Qey:=@Nat.testBit_or
def Qez:=@Bool.and_false
def Qfa:=@Nat.or_lt_two_pow
def Qfb:=@List.foldl_append
def Qfc:=@Nat.one_mul
def Qfd:=@Int.pow_pos
def Qfe:=@Nat.testBit_shiftRight
def Qff:=@Array.all_eq_true_iff_forall_mem
def Qfg:=@BitVec.toNat_and
def Qfh:=@Nat.testBit_eq_decide_div_mod_eq
def Qfi:=@List.drop_append
def Qfj:=@Nat.le_add_right
def Qfk:=@List.filter_cons
def Qfl:=@List.mem_map
def Qfm:=@Nat.eq_of_testBit_eq
def Qfn:=@Nat.div_le_self
def Qfo:=@Nat.and_two_pow_sub_one_eq_mod
def Qfp:=@Nat.mod_lt
def Qfq:=@Nat.add_zero
def Qfr:=@List.length_set
def Qfs:=@List.foldl_cons
def Qft:=@List.getElem?_append
def Qfu:=@Array.toList_append
def Qfv:=@Array.toList_zipIdx
def Qfw:=@List.take_take
def Qfx:=@List.countP_eq_length_filter
def Qfy:=@Nat.testBit_two_pow_sub_one
def Qfz:=@Nat.testBit_two_pow_mul_add
def Qga:=@Array.foldl_toList
def Qgb:=@UInt8.toNat_ofNat'
def Qgc:=@List.filter_congr
def Qgd:=@List.flatMap_cons
def Qge:=@List.range'_succ
def Qgf:=@List.getElem_mem
def Qgg:=@Int.sub_self
def Qgh:=@Nat.add_comm
def Qgi:=@Array.toList_map
def Qgj:=@Nat.shiftLeft_eq
def Qgk:=@Nat.not_lt_zero
def Qgl:=@Nat.and_le_left
inductive Ty where
 |int (k:IntKind)
 |bool
 |slice (t:Ty)
 |unit
 |pair (a b:Ty)
def Ty.δ:Ty->Type
 |.int _=>Int
 |.bool=>Bool
 |.slice t=>List t.δ
 |.unit=>Unit
 |.pair a b=>a.δ×b.δ
def Ty.size:Ty->Nat
 |.unit=>0
 |.pair a b=>a.size+b.size
 |_=>1
def Ty.isAgg:Ty->Bool
 |.unit | .pair ..=>true
 |_=>false
def Bool.beq':Bool->Bool->Bool
 |true,b=>b
 |false,true=>false
 |false,false=>true
def MC:IntKind->IntKind->Bool
 |.i8,.i8 | .i16,.i16 | .i32,.i32 | .i64,.i64 | .u8,.u8 | .u16,.u16 | .u32,.u32 | .u64,.u64=>true
 |_,_=>false
def J6 {a b:IntKind} (h:MC a b=true):a=b:=by cases a<;>cases b<;>first|rfl|cases h
def Ty.eqp:(a b:Ty)->Option (PLift (a=b))
 |.int k,.int k'=>match h:MC k k' with
  |true=>some ⟨congrArg Ty.int (J6 h)⟩
  |false=>none
 |.bool,.bool=>some ⟨rfl⟩
 |.slice a,.slice b=>match Ty.eqp a b with
  |some h=>some ⟨congrArg Ty.slice h.down⟩
  |none=>none
 |.unit,.unit=>some ⟨rfl⟩
 |.pair a b,.pair c d=>match Ty.eqp a c,Ty.eqp b d with
  |some h,some g=>some ⟨(congrArg (Ty.pair · b) h.down).trans (congrArg (Ty.pair c) g.down)⟩
  |_,_=>none
 |_,_=>none
inductive Cell where
 |int (k:IntKind) (n:Int)
 |bool (b:Bool)
 |sl (t:Ty) (l:List t.δ)
 |nils
 |ref (k:Nat)
 |ptr (k off:Nat)
 |eptr (k:Nat) (i:Int)
 |nilp
 |sub (k:Nat) (lo n:Int)
 |mref (k:Nat)
 |lit (v:Value)
inductive V1 where
 |c (x:Cell)
 |a (cs:List Cell)
inductive aε where
 |undef
 |v (x:V1)
 |tup (vs:List V1)
 |iptr (cs:List Cell)
 |fn (f:FuncId) (caps:List Cell)
 |bfn (f:FuncId) (first:List Cell)
 |fptr (k:Nat) (i:Int) (off:Nat)
 |str (l:List UInt8)
 |fns (l:List (FuncId×Bool×List Cell))
 |fnp (f:FuncId×Bool×List Cell)
 |fna (l:List (FuncId×Bool×List Cell))
inductive Ψ where
 |box (cs:List Cell)
 |arr (t:Ty) (l:List t.δ)
 |map (t:Ty) (l:List (t.δ×Bool))
abbrev H4:=List (Nat×Ψ)
abbrev Env:=List (Nat×Option aε)
def assoc {α:Type}:List (Nat×α)->Nat->Option α
 |[],_=>none
 |(a,v)::r,k=>match Nat.beq a k with
  |true=>some v
  |false=>assoc r k
structure St where
 env:Env
 heap:H4
 next:Nat
structure RO where
 renv:Env
 rheap:H4
def St.get (R:RO) (st:St) (s:Nat):Option aε :=
 match assoc st.env s with
 |some v=>v
 |none=>(assoc R.renv s).join
def St.obj (R:RO) (st:St) (k:Nat):Option Ψ :=
 match assoc st.heap k with
 |some o=>some o
 |none=>assoc R.rheap k
def enc:(T:Ty)->T.δ->List Cell
 |.int k,n=>[.int k n]
 |.bool,b=>[.bool b]
 |.slice t,l=>[.sl t l]
 |.unit,_=>[]
 |.pair a b,x=>enc a x.1++enc b x.2
def Ru:(T:Ty)->T.δ->V1
 |.int k,n=>.c (.int k n)
 |.bool,b=>.c (.bool b)
 |.slice t,l=>.c (.sl t l)
 |.unit,_=>.a []
 |.pair a b,x=>.a (enc (.pair a b) x)
def Gg (t T:Ty) (l:List t.δ):Option (List T.δ) :=
 match Ty.eqp t T with
 |some h=>some (h.down▸l)
 |none=>none
def hi1 (b:Bool):Bool:=b
def hi2 (b:Bool):Bool:=hi1 b
def hi3 (b:Bool):Bool:=hi2 b
@[simp] def Θ (b:Bool):hi2 b=b:=rfl
def γ {A:Type} (b:Bool) (x y:A):A :=
 match hi2 b with
 |true=>x
 |false=>y
def AhF {A:Type} (b:Bool) (x y:A):A :=
 match hi3 b with
 |true=>x
 |false=>y
def Ao {α A:Type} (x:α) (f:α->A):A:=f x
def Jv (x y:Int):Int:=x+y
def Gi (x y:Int):Int:=x-y
def AhG (x y:Int):Int:=x*y
def BB (x y:Int):Int:=x.tmod y
def wr (k:IntKind) (n:Int):Int:=k.wrap n
def ltB (x y:Int):Bool:=decide (x<y)
def leB (x y:Int):Bool:=decide (x<=y)
def eqI (x y:Int):Bool:=x==y
def eqB (x y:Bool):Bool:=x==y
def C5 (x y:Bool):Bool:=x&&y
def bOr (x y:Bool):Bool:=x||y
def Nv (x:Bool):Bool:=!x
def Aa {α:Type} (l:List α):Int:=l.length
def DM {α:Type} (l m:List α):List α:=l++m
def AB {α:Type} (l:List α) (i:Int) (x:α):List α:=l.set i.toNat x
def Ay {α:Type} (n:Int) (x:α):List α:=List.replicate n.toNat x
def Ax {α:Type} (l:List α) (n:Int):List α:=l.take n.toNat
def A5 {α:Type} (l:List α) (n:Int):List α:=l.drop n.toNat
def eqS (a b:List UInt8):Bool:=a==b
def EJ {α:Type} (l:List α) (lo n:Int):List α:=(l.take (lo+n).toNat).drop lo.toNat
def idx {α:Type} (l:List α) (i:Int):Option α:=if 0<=i then l[i.toNat]? else none
def eqT:(t:Ty)->t.δ->t.δ->Bool
 |.int _,a,b=>@decide (a=b) (Int.instDecidableEq a b)
 |.bool,a,b=>Bool.beq' a b
 |.unit,_,_=>true
 |.pair a b,x,y=>eqT a x.1 y.1&&eqT b x.2 y.2
 |.slice _,_,_=>false
def KY (t:Ty):List (t.δ×Bool)->t.δ->Bool
 |[],_=>false
 |e::r,k=>if eqT t k e.1=true then e.2 else KY t r k
def Jw (t:Ty):List (t.δ×Bool)->t.δ->Bool->List (t.δ×Bool)
 |[],k,v=>[(k,v)]
 |e::r,k,v=>if eqT t k e.1=true then (k,v)::r else e::Jw t r k v
def dec (h:Nat->Option Ψ):(T:Ty)->List Cell->Option (T.δ×List Cell×List Nat)
 |.int k,.int k' n::r=>match MC k k' with
  |true=>some (n,r,[])
  |false=>none
 |.bool,.bool b::r=>some (b,r,[])
 |.slice t,.sl t' l::r=>match Gg t' t l with
  |some l=>some (l,r,[])
  |none=>none
 |.slice _,.nils::r=>some ([],r,[])
 |.slice t,.ref k::r=>match h k with
  |some (.arr t' l)=>match Gg t' t l with
   |some l=>some (l,r,[k])
   |none=>none
  |_=>none
 |.slice t,.sub k lo n::r=>match h k with
  |some (.arr t' l)=>match Gg t' t (EJ l lo n) with
   |some l=>some (l,r,[k])
   |none=>none
  |_=>none
 |.unit,r=>some ((),r,[])
 |.pair a b,r=>match dec h a r with
  |some (x,r,f)=>match dec h b r with
   |some (y,r,g)=>some ((x,y),r,f++g)
   |none=>none
  |none=>none
 |_,_=>none
def V1.cells:V1->List Cell
 |.c x=>[x]
 |.a cs=>cs
def GM (h:Nat->Option Ψ) (T:Ty) (v:V1):Option (T.δ×List Nat) :=
 match dec h T v.cells with
 |some (x,[],f)=>some (x,f)
 |_=>none
structure Eff where
 dst:Option aε
 upd:List (Nat×Option Ψ):=[]
 Γ:List Nat:=[]
 reads:List Nat:=[]
 next:Nat
inductive υ where
 |ok (e:Eff)
 |chk (b:Bool) (e:Eff)
 |bind (T:Ty) (x:T.δ) (f:T.δ->Eff)
 |opt (T:Ty) (o:Option T.δ) (f:T.δ->Eff)
 |alts (l:List (Bool×Eff))
def qI (f:TypeId->Option Ty):List Field->Option Ty
 |[]=>some .unit
 |[x]=>(f x.type).map λT=>.pair T .unit
 |[x,y]=>match f x.type,f y.type with
  |some a,some b=>some (.pair a b)
  |_,_=>none
 |x::r=>match f x.type,qI f r with
  |some a,some b=>some (.pair a b)
  |_,_=>none
def Wf (P:Program):Nat->TypeId->Option Ty
 |0,_=>none
 |n+1,t=>match P.underlying t with
  |some .bool=>some .bool
  |some (.int k)=>some (.int k)
  |some (.slice e)=>(Wf P n e).map .slice
  |some (.struct c)=>qI (Wf P n) c.toList
  |some (.array len e)=>(Wf P n e).map λT=>(List.replicate len T).foldr (λa b=>match b with | .unit=>a|b=>.pair a b) .unit
  |_=>none
end Go.Den
namespace Go.Den
def inR (k:IntKind) (n:Int):Bool:=decide (k.min<=n)&&decide (n<=k.max)
def cellOf:Value->Option Cell
 |.int k n=>match inR k n with
  |true=>some (.int k n)
  |false=>none
 |.bool b=>some (.bool b)
 |.slice none 0 0=>some .nils
 |.pointer none=>some .nilp
 |_=>none
def cellsOf:List Value->Option (List Cell)
 |[]=>some []
 |v::r=>match cellOf v,cellsOf r with
  |some c,some cs=>some (c::cs)
  |_,_=>none
def P4:Value->Option aε
 |.agg cs=>(cellsOf cs.toList).map λl=>.v (.a l)
 |.string s=>some (.str s.data.toList)
 |v=>(cellOf v).map λc=>.v (.c c)
def opv (R:RO) (st:St):Operand->Option aε
 |.tmp t=>st.get R t
 |.const v=>P4 v
 |.func f=>some (.fn f [])
 |.global _=>none
def Ω (R:RO) (st:St) (x:Operand):Option Cell :=
 match opv R st x with
 |some (.v (.c c))=>some c
 |_=>none
def op1 (R:RO) (st:St) (x:Operand):Option V1 :=
 match opv R st x with
 |some (.v c)=>some c
 |_=>none
def Aε (R:RO) (st:St):List Operand->Option (List V1)
 |[]=>some []
 |x::r=>match op1 R st x,Aε R st r with
  |some v,some vs=>some (v::vs)
  |_,_=>none
def Aq (op:BinOp) (k:IntKind) (x y:Int):Int :=
 let a:=BitVec.ofInt k.bits x
 let b:=BitVec.ofInt k.bits y
 k.wrap (match op with
  |.and=>(a &&& b).toNat
  |.or=>(a ||| b).toNat
  |.xor=>(a ^^^ b).toNat
  |_=>(a &&& ~~~b).toNat)
def A9 (k:IntKind) (x y:Int):Int:=k.wrap (x*2 ^ min y.toNat k.bits)
def AH (k:IntKind) (x y:Int):Int:=x.fdiv (2 ^ min y.toNat k.bits)
def DZ (k:IntKind) (x y:Int):Int:=k.wrap (x.tdiv y)
def Vn (k:IntKind) (x:Int):Int:=Aq .xor k (if k.signed then -1 else k.max) x
def Tm {α:Type} (l:List α) (n i:Int):Option α:=if Aa l=n then idx l i else none
def Eff.val (st:St) (v:aε):Eff:={dst:=some v,next:=st.next}
def Eff.c (st:St) (c:Cell):Eff:=Eff.val st (.v (.c c))
def Eff.b (st:St) (b:Bool):Eff:=Eff.c st (.bool b)
def Rj (st:St) (op:BinOp) (k:IntKind) (x:Int) (k':IntKind) (y:Int):Option υ :=
 match op with
 |.shl=>match k'.signed with
  |true=>some (.chk (leB 0 y) (.c st (.int k (A9 k x y))))
  |false=>some (.ok (.c st (.int k (A9 k x y))))
 |.shr=>match k'.signed with
  |true=>some (.chk (leB 0 y) (.c st (.int k (AH k x y))))
  |false=>some (.ok (.c st (.int k (AH k x y))))
 |op=>match MC k k' with
  |false=>none
  |true=>match op with
   |.add=>some (.ok (.c st (.int k (wr k (Jv x y)))))
   |.sub=>some (.ok (.c st (.int k (wr k (Gi x y)))))
   |.mul=>some (.ok (.c st (.int k (wr k (AhG x y)))))
   |.quo=>some (.chk (Nv (eqI y 0)) (.c st (.int k (DZ k x y))))
   |.rem=>some (.chk (Nv (eqI y 0)) (.c st (.int k (BB x y))))
   |.and | .or | .xor | .andNot=>some (.ok (.c st (.int k (Aq op k x y))))
   |.eql=>some (.ok (.b st (eqI x y)))
   |.neq=>some (.ok (.b st (Nv (eqI x y))))
   |.lss=>some (.ok (.b st (ltB x y)))
   |.leq=>some (.ok (.b st (leB x y)))
   |.gtr=>some (.ok (.b st (ltB y x)))
   |.geq=>some (.ok (.b st (leB y x)))
   |_=>none
def UU (P:Program) (t:TypeId) (x y:Option Cell):Option Bool :=
 match P.underlying t,x,y with
 |some (.int _),some (.int k a),some (.int k' b)=>match MC k k' with
  |true=>some (eqI a b)
  |false=>none
 |some .bool,some (.bool a),some (.bool b)=>some (eqB a b)
 |_,_,_=>none
def OC (P:Program) (a b:List Cell):List Field->Option Bool
 |[]=>some true
 |f::r=>match f.name== "_",P.info? f.type,UU P f.type a[f.offset]? b[f.offset]?,OC P a b r with
  |false,some _,some x,some y=>some (C5 x y)
  |_,_,_,_=>none
def NC (P:Program) (e:TypeId) (a b:List Cell):List Nat->Option Bool
 |[]=>some true
 |i::r=>match UU P e a[i]? b[i]?,NC P e a b r with
  |some x,some y=>some (C5 x y)
  |_,_=>none
def Vc (P:Program) (t:TypeId) (a b:List Cell):Option Bool :=
 match P.eqGuardType P.depth t with
 |true=>none
 |false=>match P.underlying t with
  |some (.struct c)=>match P.stoodInHeld t with
   |true=>none
   |false=>OC P a b c.toList
  |some (.array n e)=>match P.info? e with
   |some i=>match Nat.beq i.size 1 with
    |true=>NC P e a b (List.range n)
    |false=>none
   |none=>none
  |_=>none
def splice (cs:List Cell) (off:Nat) (vs:List Cell):List Cell:=cs.take off++vs++cs.drop (off+vs.length)
def El (P:Program) (t:TypeId):Option Bool :=
 match P.underlying t with
 |some (.struct _)|some (.array _ _)=>some true
 |some _=>some false
 |none=>none
def H2 (P:Program) (t:TypeId) (cs:List Cell):Option V1 :=
 match El P t,P.info? t with
 |some true,some i=>match Nat.ble i.size cs.length with
  |true=>some (.a (cs.take i.size))
  |false=>none
 |some false,some _=>match cs with
  |c::_=>some (.c c)
  |[]=>none
 |_,_=>none
def Dp:(T:Ty)->T.δ
 |.int _=>(0:Int)
 |.bool=>false
 |.slice _=>[]
 |.unit=>()
 |.pair a b=>(Dp a,Dp b)
def Gf (P:Program) (R:RO) (st:St) (t:TypeId):Option aε->Option υ
 |some (.v (.c (.ptr k off)))=>match st.obj R k with
  |some (.box cs)=>match H2 P t (cs.drop off) with
   |some v=>some (.ok {Eff.val st (.v v) with reads:=[k]})
   |none=>none
  |_=>none
 |some (.v (.c (.eptr k i)))=>match st.obj R k,P.info? t with
  |some (.arr T l),some inf=>match Nat.beq inf.size T.size,El P t with
   |true,some g=>match Bool.beq' g T.isAgg with
    |true=>some (.opt T (idx l i) λx=>{Eff.val st (.v (Ru T x)) with reads:=[k]})
    |false=>none
   |_,_=>none
  |_,_=>none
 |some (.iptr cs)=>match H2 P t cs with
  |some v=>some (.ok (Eff.val st (.v v)))
  |none=>none
 |some (.fnp (f,b,cs))=>match El P t with
  |some false=>some (.ok (Eff.val st (match b with|true=>.bfn f cs|false=>.fn f cs)))
  |_=>none
 |some (.fptr k i off)=>match st.obj R k with
  |some (.arr T l)=>match H2 P t ((enc T (Dp T)).drop off) with
   |some _=>some (.opt T (idx l i) λx=>{dst:=(H2 P t ((enc T x).drop off)).map .v,reads:=[k],next:=st.next})
   |none=>none
  |_=>none
 |_=>none
def Lj:Ty->List Value->Option (List Value)
 |.int k,.int k' 0::r=>match MC k k' with
  |true=>some r
  |false=>none
 |.bool,.bool false::r=>some r
 |.slice _,.slice none 0 0::r=>some r
 |.unit,r=>some r
 |.pair a b,r=>match Lj a r with
  |some r=>Lj b r
  |none=>none
 |_,_=>none
def K3 (P:Program) (e:TypeId) (T:Ty):Bool :=
 match P.info? e with
 |some i=>match Nat.beq i.size T.size,Nat.beq i.size 0,i.zero with
  |true,false,some v=>match Lj T v.cells.toList with
   |some []=>true
   |_=>false
  |_,_,_=>false
 |none=>false
def Vi:Nat:=12
def jM (P:Program) (t:TypeId):Option (Nat×Ty) :=
 match P.underlying t with
 |some (.array n e)=>match Nat.ble 3 n,Nat.ble n 65536,Wf P Vi e with
  |true,true,some T=>match K3 P e T with
   |true=>some (n,T)
   |false=>none
  |_,_,_=>none
 |_=>none
def T8 (T:Ty):Nat->List Value->Bool
 |0,[]=>true
 |0,_::_=>false
 |n+1,vs=>match Lj T vs with
  |some r=>T8 T n r
  |none=>false
def KW (h:Nat->Option Ψ) (T:Ty):Nat->List Cell->Option (List T.δ×List Nat)
 |0,[]=>some ([],[])
 |0,_::_=>none
 |n+1,cs=>match dec h T cs with
  |some (x,r,f)=>match KW h T n r with
   |some (xs,g)=>some (x::xs,f++g)
   |none=>none
  |none=>none
def isZ:Int->Bool
 |.ofNat 0=>true
 |_=>false
def Ho (P:Program) (R:RO) (st:St) (t:TypeId) (k:Nat) (i:Int) (T:Ty) (l:List T.δ) (sz:Nat) (v:V1):Option υ :=
 match jM P t with
 |some (n,_)=>match isZ i,Nat.beq sz (n*T.size),KW (st.obj R) T n v.cells with
  |true,true,some (xs,c)=>match c.any (Nat.beq k) with
   |false=>some (.chk (eqI (Aa l) n) {dst:=none,upd:=[(k,some (.arr T xs))],Γ:=c,reads:=k::c,next:=st.next})
   |true=>none
  |_,_,_=>none
 |none=>none
def GI (P:Program) (R:RO) (st:St) (t:TypeId) (a:Option aε) (v:V1):Option υ :=
 match P.info? t with
 |none=>none
 |some inf=>match Nat.beq v.cells.length inf.size with
  |false=>none
  |true=>match a with
   |some (.v (.c (.ptr k off)))=>match assoc st.heap k with
    |some (.box cs)=>match Nat.ble (off+v.cells.length) cs.length with
     |true=>some (.ok {dst:=none,upd:=[(k,some (.box (splice cs off v.cells)))],reads:=[k],next:=st.next})
     |false=>none
    |_=>none
   |some (.v (.c (.eptr k i)))=>match assoc st.heap k with
    |some (.arr T l)=>match Nat.beq inf.size T.size,GM (st.obj R) T v with
     |true,some (x,d)=>match d.any (Nat.beq k) with
      |false=>some (.opt T (idx l i) λ_=>{dst:=none,upd:=[(k,some (.arr T (AB l i x)))],Γ:=d,reads:=k::d,next:=st.next})
      |true=>none
     |false,_=>Ho P R st t k i T l inf.size v
     |true,none=>none
    |_=>none
   |_=>none
def Oq (P:Program) (t:TypeId):Option (List Cell) :=
 match P.info? t with
 |some i=>match i.zero with
  |some v=>cellsOf v.cells.toList
  |none=>none
 |none=>none
def Hk (P:Program) (st:St) (t:TypeId):Option υ :=
 match jM P t with
 |some (n,T)=>match P.info? t with
  |some i=>match i.zero with
   |some v=>match T8 T n v.cells.toList with
    |true=>some (.ok {dst:=some (.v (.c (.eptr st.next 0))),upd:=[(st.next,some (.arr T (Ay n (Dp T))))],next:=st.next+1})
    |false=>none
   |none=>none
  |none=>none
 |none=>match Oq P t with
  |some cs=>some (.ok {dst:=some (.v (.c (.ptr st.next 0))),upd:=[(st.next,some (.box cs))],next:=st.next+1})
  |none=>none
def WD (place:Nat->Option (Nat×Nat)) (cells:List Cell):List (Nat×V1)->Option (List Cell)
 |[]=>some cells
 |(i,v)::rest=>match place i with
  |none=>none
  |some (off,size)=>match Nat.beq v.cells.length size&&Nat.ble (off+v.cells.length) cells.length with
   |true=>WD place (splice cells off v.cells) rest
   |false=>none
def Fl (R:RO) (st:St):List (Nat×Operand)->Option (List (Nat×V1))
 |[]=>some []
 |(i,x)::r=>match op1 R st x,Fl R st r with
  |some v,some vs=>some ((i,v)::vs)
  |_,_=>none
def Mj (P:Program) (st:St) (t:TypeId) (parts:List (Nat×V1)):Option υ :=
 match Oq P t,P.underlying t with
 |some z,some (.struct c)=>match c.toList.mapM λf=>(P.info? f.type).map λi=>(f.offset,i.size) with
  |some places=>match WD (λi=>places[i]?) z parts with
   |some cs=>some (.ok (Eff.val st (.v (.a cs))))
   |none=>none
  |none=>none
 |some z,some (.array _ e)=>match P.info? e with
  |some inf=>match WD (λi=>some (i*inf.size,inf.size)) z parts with
   |some cs=>some (.ok (Eff.val st (.v (.a cs))))
   |none=>none
  |none=>none
 |_,_=>none
def lits (h:Nat->Option Ψ) (T:Ty):Nat->List (Nat×V1)->Option (List T.δ×List Nat)
 |_,[]=>some ([],[])
 |n,(i,v)::r=>match Nat.beq i n,GM h T v,lits h T (n+1) r with
  |true,some (x,f),some (xs,g)=>some (x::xs,f++g)
  |_,_,_=>none
def ER (P:Program) (R:RO) (st:St) (t:TypeId) (len:Nat) (parts:List (Nat×V1)):Option υ :=
 match P.underlying t with
 |some (.slice e)=>match Wf P Vi e with
  |some T=>match K3 P e T,Nat.beq parts.length len,Nat.ble (len*T.size) 16777216,lits (st.obj R) T 0 parts with
   |true,true,true,some (l,d)=>some (.ok {dst:=some (.v (.c (.ref st.next))),upd:=[(st.next,some (.arr T l))],Γ:=d,reads:=d,next:=st.next+1})
   |_,_,_,_=>none
  |none=>none
 |_=>none
def B5 (c:Int) (bytes:Nat):Bool:=decide ((bytes:Int)*c<=2 ^ 47)
def FC (P:Program) (st:St) (t:TypeId) (l c:Int):Option υ :=
 match P.underlying t with
 |some (.slice e)=>match Wf P Vi e,P.info? e with
  |some T,some inf=>match K3 P e T with
   |true=>some (.chk (C5 (leB 0 l) (C5 (leB l c) (B5 c inf.bytes))) {dst:=some (.v (.c (.ref st.next))),upd:=[(st.next,some (.arr T (Ay l (Dp T))))],next:=st.next+1})
   |false=>none
  |_,_=>none
 |_=>none
def Mm (P:Program) (s:TypeId) (f:Nat):Option (Nat×TypeId) :=
 match P.underlying s with
 |some (.struct c)=>match c[f]? with
  |some fd=>match P.info? fd.type with
   |some inf=>match Nat.beq inf.size 0 with
    |false=>some (fd.offset,fd.type)
    |true=>none
   |none=>none
  |none=>none
 |_=>none
def FB (P:Program) (st:St) (s:TypeId) (f:Nat):Option aε->Option υ
 |some (.v (.c (.ptr k off)))=>match Mm P s f with
  |some (o,_)=>some (.ok (.c st (.ptr k (off+o))))
  |none=>none
 |some (.iptr cs)=>match Mm P s f with
  |some (o,_)=>some (.ok (.val st (.iptr (cs.drop o))))
  |none=>none
 |some (.v (.c (.eptr k i)))=>match Mm P s f with
  |some (o,_)=>some (.ok (.val st (.fptr k i o)))
  |none=>none
 |some (.fptr k i off)=>match Mm P s f with
  |some (o,_)=>some (.ok (.val st (.fptr k i (off+o))))
  |none=>none
 |_=>none
def DA (P:Program) (R:RO) (st:St) (t:TypeId) (x:Option Cell) (i:Int):Option υ :=
 match P.underlying t with
 |some (.slice e)=>match P.info? e with
  |none=>none
  |some inf=>match x with
   |some (.sl T l)=>match Nat.beq inf.size T.size with
    |true=>some (.opt T (idx l i) λy=>Eff.val st (.iptr (enc T y)))
    |false=>none
   |some (.ref k)=>match st.obj R k with
    |some (.arr T l)=>match Nat.beq inf.size T.size with
     |true=>some (.opt T (idx l i) λ_=>{Eff.c st (.eptr k i) with reads:=[k]})
     |false=>none
    |_=>none
   |_=>none
 |some (.array n e)=>match P.info? e with
  |none=>none
  |some inf=>match x with
   |some (.eptr k j)=>match isZ j,st.obj R k with
    |true,some (.arr T l)=>match Nat.beq inf.size T.size with
     |true=>some (.opt T (Tm l n i) λ_=>{Eff.c st (.eptr k i) with reads:=[k]})
     |false=>none
    |_,_=>none
   |some (.ptr k off)=>match Nat.beq n 2 with
    |true=>some (.alts [(eqI i 0,Eff.c st (.ptr k off)),(eqI i 1,Eff.c st (.ptr k (off+inf.size)))])
    |false=>none
   |_=>none
 |_=>none
def GR (h:Nat->Option Ψ):Option Cell->Option ((T:Ty)×List T.δ×List Nat)
 |some (.sl T l)=>some ⟨T,l,[]⟩
 |some (.ref k)=>match h k with
  |some (.arr T l)=>some ⟨T,l,[k]⟩
  |_=>none
 |some (.sub k lo n)=>match h k with
  |some (.arr T l)=>some ⟨T,EJ l lo n,[k]⟩
  |_=>none
 |_=>none
def Rm (R:RO) (st:St) (x:Option aε):Option υ :=
 match x with
 |some (.fns l)=>some (.chk (leB (Int.ofNat l.length) 1099511627776) (.c st (.int .i64 (Int.ofNat l.length))))
 |some (.v (.c .nils))=>some (.ok (.c st (.int .i64 0)))
 |some (.v (.c c))=>match GR (st.obj R) (some c) with
  |some ⟨_,l,ks⟩=>some (.ok {Eff.c st (.int .i64 (Aa l)) with reads:=ks})
  |none=>none
 |_=>none
def jL (P:Program) (R:RO) (st:St) (t:TypeId) (x:Option aε):Option υ :=
 match P.underlying t with
 |some (.slice _)=>Rm R st x
 |some (.map ..)=>match x with
  |some (.v (.c (.mref k)))=>match st.obj R k with
   |some (.map _ l)=>some (.chk (leB (Aa l) 1099511627776) {Eff.c st (.int .i64 (Aa l)) with reads:=[k]})
   |_=>none
  |_=>none
 |some .string=>match x with
  |some (.str l)=>some (.chk (leB (Aa l) 1099511627776) (.c st (.int .i64 (Aa l))))
  |_=>none
 |_=>none
def AA (n:Int) (bytes:Nat):Bool:=decide (n*bytes<=2 ^ 46)
def DD (P:Program) (R:RO) (st:St) (t:TypeId) (s x:Option Cell):Option υ :=
 match P.underlying t with
 |some (.slice e)=>match P.info? e with
  |none=>none
  |some inf =>
   let mk (T:Ty) (l xs:List T.δ) (gone:List (Nat×Option Ψ)) (rd:List Nat):Option υ :=
    match K3 P e T with
    |true=>some (.chk (C5 (!Nat.beq inf.bytes 0) (AA (Jv (Aa l) (Aa xs)) inf.bytes))
      {dst:=some (.v (.c (.ref st.next))),upd:=gone++[(st.next,some (.arr T (DM l xs)))],reads:=rd,next:=st.next+1})
    |false=>none
   match s,x with
   |some .nils,some .nils=>match Wf P Vi e with
    |some T=>mk T [] [] [] []
    |none=>none
   |some .nils,x=>match GR (st.obj R) x with
    |some ⟨T,xs,ks⟩=>mk T [] xs [] ks
    |none=>none
   |some (.ref k),some .nils=>match assoc st.heap k,assoc R.rheap k with
    |some (.arr T l),none=>mk T l [] [(k,none)] [k]
    |_,_=>none
   |some (.ref k),x=>match assoc st.heap k,assoc R.rheap k,GR (st.obj R) x with
    |some (.arr T l),none,some ⟨d,xs,ks⟩=>match Gg d T xs with
     |some xs=>mk T l xs [(k,none)] (k::ks)
     |none=>none
    |_,_,_=>none
   |_,_=>none
 |_=>none
def D9 (P:Program) (R:RO) (st:St) (t:TypeId) (s x:Option Cell):Option υ :=
 match P.underlying t with
 |some (.slice e)=>match P.info? e,Wf P Vi e with
  |some inf,some T=>match K3 P e T,s,x with
   |true,some .nils,some (.int .i64 n)=>some (.chk (C5 (leB 0 n) (AA n inf.bytes)) {dst:=some (.v (.c (.ref st.next))),upd:=[(st.next,some (.arr T (Ay n (Dp T))))],next:=st.next+1})
   |true,some (.ref k),some (.int .i64 n)=>match assoc st.heap k,assoc R.rheap k with
    |some (.arr d l),none=>match Gg d T l with
     |some l=>some (.chk (C5 (leB 0 n) (C5 (!Nat.beq inf.bytes 0) (AA (Jv (Aa l) n) inf.bytes))) {dst:=some (.v (.c (.ref st.next))),upd:=[(k,none),(st.next,some (.arr T (DM l (Ay n (Dp T)))))],reads:=[k],next:=st.next+1})
     |none=>none
    |_,_=>none
   |_,_,_=>none
  |_,_=>none
 |_=>none
def isNum (v:Operand) (n:Int):Bool :=
 match v with
 |.const (.int .i64 m)=>m==n
 |_=>false
def JI (P:Program) (R:RO) (st:St) (n:Nat) (e:TypeId) (x:Option Cell) (lo hi d:Option Operand):Option υ :=
 match P.info? e,x,lo,d with
 |some inf,some (.eptr k i),none,none=>match isZ i,st.obj R k with
  |true,some (.arr T l)=>match Nat.beq inf.size T.size with
   |true=>match hi with
    |none=>some (.chk (eqI (Aa l) n) {Eff.c st (.sub k 0 n) with reads:=[k]})
    |some b=>match Ω R st b with
     |some (.int _ j)=>some (.chk (C5 (eqI (Aa l) n) (C5 (leB 0 j) (leB j n))) {Eff.c st (.sub k 0 j) with reads:=[k]})
     |_=>none
   |false=>none
  |_,_=>none
 |_,_,_,_=>none
def D7 (P:Program) (R:RO) (st:St) (t:TypeId) (x:Option Cell) (lo hi d:Option Operand):Option υ :=
 match P.underlying t with
 |some (.slice e)=>match P.info? e with
  |none=>none
  |some inf=>match x,d with
   |some (.sl T l),none=>match Nat.beq inf.size T.size with
    |false=>none
    |true =>
     match lo,hi with
     |none,none=>some (.ok (.c st (.sl T l)))
     |some a,none=>match Ω R st a with
      |some (.int _ i)=>some (.chk (C5 (leB 0 i) (leB i (Aa l))) (.c st (.sl T (A5 l i))))
      |_=>none
     |none,some b=>match Ω R st b with
      |some (.int _ j)=>some (.chk (C5 (leB 0 j) (leB j (Aa l))) (.c st (.sl T (Ax l j))))
      |_=>none
     |some a,some b=>match Ω R st a,Ω R st b with
      |some (.int _ i),some (.int _ j)=>some (.chk (C5 (leB 0 i) (C5 (leB i j) (leB j (Aa l)))) (.c st (.sl T (A5 (Ax l j) i))))
      |_,_=>none
   |some .nils,none=>match lo,hi with
    |none,some b=>match Ω R st b with
     |some (.int _ j)=>some (.chk (eqI j 0) (.c st .nils))
     |_=>none
    |_,_=>none
   |some (.ref k),none=>match lo,hi with
    |none,some b=>match Ω R st b,assoc st.heap k,assoc R.rheap k with
     |some (.int _ j),some (.arr T l),none=>match Nat.beq inf.size T.size with
      |true=>some (.chk (C5 (leB 0 j) (leB j (Aa l))) {dst:=some (.v (.c (.ref st.next))),upd:=[(k,none),(st.next,some (.arr T (Ax l j)))],reads:=[k],next:=st.next+1})
      |false=>none
     |_,_,_=>none
    |some a,none=>match Ω R st a,st.obj R k with
     |some (.int _ i),some (.arr T l)=>match Nat.beq inf.size T.size with
      |true=>some (.chk (C5 (leB 0 i) (leB i (Aa l))) {Eff.c st (.sub k i (Gi (Aa l) i)) with reads:=[k]})
      |false=>none
     |_,_=>none
    |some a,some b=>match Ω R st a,Ω R st b,st.obj R k with
     |some (.int _ i),some (.int _ j),some (.arr T l)=>match Nat.beq inf.size T.size with
      |true=>some (.chk (C5 (leB 0 i) (C5 (leB i j) (leB j (Aa l)))) {Eff.c st (.sub k i (Gi j i)) with reads:=[k]})
      |false=>none
     |_,_,_=>none
    |_,_=>none
   |some (.sub k o n),none=>match st.obj R k with
    |some (.arr T _)=>match Nat.beq inf.size T.size with
     |true=>match lo,hi with
      |none,some b=>match Ω R st b with
       |some (.int _ j)=>some (.chk (C5 (leB 0 j) (leB j n)) {Eff.c st (.sub k o j) with reads:=[k]})
       |_=>none
      |some a,none=>match Ω R st a with
       |some (.int _ i)=>some (.chk (C5 (leB 0 i) (leB i n)) {Eff.c st (.sub k (Jv o i) (Gi n i)) with reads:=[k]})
       |_=>none
      |_,_=>none
     |false=>none
    |_=>none
   |_,_=>none
 |some (.array n e)=>JI P R st n e x lo hi d
 |_=>none
def B8 (x y:Int):Int:=if y>x then y else x
def Bb (x y:Int):Int:=if y<x then y else x
def CR {α:Type} (l:List α) (lo n:Int) (s:List α):List α:=l.take lo.toNat++s.take n.toNat++l.drop (lo.toNat+(s.take n.toNat).length)
def LX (st:St):Option Cell->Option (Nat×Int×Int)
 |some (.ref k)=>match assoc st.heap k with
  |some (.arr _ l)=>some (k,0,Aa l)
  |_=>none
 |some (.sub k lo n)=>some (k,lo,n)
 |_=>none
def KB (P:Program) (R:RO) (st:St) (t:TypeId) (d s:Option Cell):Option υ :=
 match P.underlying t with
 |some (.slice e)=>match P.info? e,LX st d with
  |some inf,some (k,lo,n)=>match assoc st.heap k with
   |some (.arr T l)=>match Nat.beq T.size 1,Nat.beq inf.size 1,GR (st.obj R) s with
    |true,true,some ⟨g,xs,ks⟩=>match Gg g T xs with
     |some xs=>some (.ok {dst:=some (.v (.c (.int .i64 (Bb (Aa xs) n)))),upd:=[(k,some (.arr T (CR l lo n xs)))],reads:=k::ks,next:=st.next})
     |none=>none
    |_,_,_=>none
   |_=>none
  |_,_=>none
 |_=>none
def jP (P:Program) (t:TypeId):Bool :=
 match P.underlying t,P.info? t with
 |some .bool,some i=>match i.zero with
  |some (.bool false)=>true
  |_=>false
 |_,_=>false
def Q3 (P:Program) (t:TypeId):Option Ty :=
 match P.underlying t with
 |some (.map c d)=>match jP P d,P.underlying c with
  |true,some (.int k)=>some (.int k)
  |true,some (.array n e)=>match P.underlying e,P.info? e with
   |some (.int k),some inf=>match Nat.beq n 2&&(Nat.beq inf.size 1&&!P.eqGuardType P.depth c) with
    |true=>some (.pair (.int k) (.int k))
    |false=>none
   |_,_=>none
  |_,_=>none
 |_=>none
def IC (P:Program) (st:St) (t:TypeId):Option υ :=
 match Q3 P t with
 |some T=>some (.ok {dst:=some (.v (.c (.mref st.next))),upd:=[(st.next,some (.map T []))],next:=st.next+1})
 |none=>none
def Aab (P:Program) (t:TypeId):Option Nat :=
 match P.info? t with
 |some i=>match i.zero with
  |some v=>some v.cells.size
  |none=>none
 |none=>none
def Δ (R:RO) (st:St):Nat->List (Nat×Operand)->Option (List (FuncId×Bool×List Cell))
 |_,[]=>some []
 |n,(i,x)::r=>match Nat.beq i n,opv R st x,Δ R st (n+1) r with
  |true,some (.fn f cs),some l=>some ((f,false,cs)::l)
  |true,some (.bfn f cs),some l=>some ((f,true,cs)::l)
  |_,_,_=>none
def FH (P:Program) (R:RO) (st:St) (t:TypeId) (len:Nat) (parts:List (Nat×Operand)):Option υ :=
 match P.underlying t with
 |some (.slice e)=>match P.info? e,Δ R st 0 parts with
  |some inf,some l=>match Nat.beq inf.size 1&&(Nat.beq l.length len&&(Nat.ble len 16777216&&inf.zero.isSome)) with
   |true=>some (.ok (Eff.val st (.fns l)))
   |false=>none
  |_,_=>none
 |_=>none
def Gm (P:Program) (R:RO) (st:St) (t:TypeId) (parts:List (Nat×Operand)):Option υ :=
 match P.underlying t with
 |some (.array n e)=>match P.info? e,Δ R st 0 parts,Aab P t with
  |some inf,some l,some z=>match Nat.beq inf.size 1&&(Nat.beq l.length n&&Nat.beq z n) with
   |true=>some (.ok (Eff.val st (.fna l)))
   |false=>none
  |_,_,_=>none
 |_=>none
def PB (st:St) (n:Int):Nat->List (FuncId×Bool×List Cell)->List (Bool×Eff)
 |_,[]=>[]
 |j,f::r=>(eqI n (Int.ofNat j),Eff.val st (match f.2.1 with|true=>.bfn f.1 f.2.2|false=>.fn f.1 f.2.2))::PB st n (j+1) r
def Hl (P:Program) (st:St) (t:TypeId) (l:List (FuncId×Bool×List Cell)) (n:Int):Option υ :=
 match P.underlying t with
 |some (.array m e)=>match P.info? e,El P e with
  |some inf,some false=>match Nat.beq inf.size 1&&Nat.beq l.length m with
   |true=>some (.alts (PB st n 0 l))
   |false=>none
  |_,_=>none
 |_=>none
def Sr (st:St) (n:Int):Nat->List (FuncId×Bool×List Cell)->List (Bool×Eff)
 |_,[]=>[]
 |j,f::r=>(eqI n (Int.ofNat j),Eff.val st (.fnp f))::Sr st n (j+1) r
def Hm (P:Program) (st:St) (t:TypeId) (l:List (FuncId×Bool×List Cell)) (n:Int):Option υ :=
 match P.underlying t with
 |some (.slice e)=>match P.info? e with
  |some inf=>match Nat.beq inf.size 1 with
   |true=>some (.alts (Sr st n 0 l))
   |false=>none
  |none=>none
 |_=>none
def EB (st:St) (d:Bool) (k:IntKind) (acc:Int):List V1->Option υ
 |[]=>some (.ok (.c st (.int k acc)))
 |.c (.int k' y)::r=>match MC k k' with
  |true=>EB st d k (match d with|true=>B8 acc y|false=>Bb acc y) r
  |false=>none
 |_::_=>none
end Go.Den
namespace Go.Den
def AO:List Ty->Ty
 |[]=>.unit
 |[a]=>a
 |a::r=>.pair a (AO r)
structure FW where
 args:List Ty
 res:List Ty
 fresh:Bool
 fn:(AO args).δ->Option (AO res).δ
 tot:Option ((AO args).δ->(AO res).δ)
structure wC where
 args:List Ty
 res:Ty
 own:List Nat
 fn:(AO args).δ->Option res.δ
def VG (los:List (Nat×Ty)):List Ty:=los.map λx=>.slice x.2
structure vZ where
 size:Nat
 los:List (Nat×Ty)
 args:List Ty
 res:List Ty
 fn:(AO (AO (VG los)::args)).δ->Option (AO res).δ
def Ty.eε:Ty->Bool
 |.slice _=>true
 |.pair a b=>a.eε||b.eε
 |_=>false
def JX (sp:FW):Bool :=
 match sp.fresh,sp.res with
 |true,.slice t::r=>!(t.eε||r.any Ty.eε)
 |_,_=>false
inductive Item where
 |slot (s:Nat) (t:Ty)
 |own (s:Nat) (t:Ty)
 |box (s:Nat) (t:Ty)
 |arr (s:Nat) (t:Ty)
 |barr (s:Nat) (t:Ty)
 |bown (s:Nat) (t:Ty)
 |fown (s:Nat) (a e b:Ty)
 |fbox (s:Nat) (t:Ty) (own:List Nat)
 |nbox (t:Ty) (own:List Nat)
 |map (s:Nat) (t:Ty)
def Item.ty:Item->Ty
 |.slot _ t | .box _ t=>t
 |.own _ t | .arr _ t | .barr _ t | .bown _ t=>.slice t
 |.fown _ a e b=>.pair a (.pair (.slice e) b)
 |.fbox _ t _ | .nbox t _=>t
 |.map _ t=>.slice (.pair t .bool)
def Fh (l:List Item):Ty:=AO (l.map Item.ty)
structure Hints where
 loops:List (Nat×List Item):=[]
 joins:List (Nat×List Item):=[]
 outs:List (Nat×List (Nat×Ty)):=[]
 Γ:List Nat:=[]
 unr:List (Nat×Nat):=[]
structure Inl where
 code:Code
 nargs:Nat
 ntmps:Nat
 results:List ResultVar
 hints:Hints
structure Ctx where
 P:Program
 tbl:FuncId->Option FW
 inl:FuncId->Option Inl
 V:World->Prop:=λ_=>True
 qζ:FuncId->Option FW:=λ_=>none
 otbl:FuncId->Option FW:=λ_=>none
 stbl:FuncId->Option wC:=λ_=>none
 qtbl:FuncId->Option vZ:=λ_=>none
inductive Step (σ A:Type) where
 |next (s:σ)
 |done (a:A)
def Am:Nat:=2 ^ 64
def iter {σ A:Type} (bad:A) (f:σ->Step σ A):Nat->σ->A
 |0,_=>bad
 |n+1,s=>match f s with
  |.next c=>iter bad f n c
  |.done a=>a
def CT {σ A:Type} (k:σ->A) (body:(σ->A)->A):A:=body k
def Ad {α A:Type} (o:Option α) (bad:A) (f:α->A):A :=
 match o with
 |none=>bad
 |some x=>f x
inductive hε where
 |normal
 |exit (id:Nat)
 |ret
 |goto (l:Nat)
def LM (h:Nat->Option Ψ) (ks:List Nat):Cell->Cell
 |.sub k lo n=>match ks.any (Nat.beq k) with
  |true=>match h k with
   |some (.arr t l)=>.sl t (EJ l lo n)
   |_=>.sub k lo n
  |false=>.sub k lo n
 |.ref k=>match ks.any (Nat.beq k) with
  |true=>match h k with
   |some (.arr t l)=>.sl t l
   |_=>.ref k
  |false=>.ref k
 |c=>c
def jT (h:Nat->Option Ψ) (ks:List Nat):V1->V1
 |.c x=>.c (LM h ks x)
 |.a cs=>.a (cs.map (LM h ks))
def My (h:Nat->Option Ψ) (ks:List Nat):aε->aε
 |.v x=>.v (jT h ks x)
 |.tup vs=>.tup (vs.map (jT h ks))
 |.iptr cs=>.iptr (cs.map (LM h ks))
 |.fn f cs=>.fn f (cs.map (LM h ks))
 |.bfn f cs=>.bfn f (cs.map (LM h ks))
 |.fns l=>.fns (l.map λx=>(x.1,x.2.1,x.2.2.map (LM h ks)))
 |.fnp x=>.fnp (x.1,x.2.1,x.2.2.map (LM h ks))
 |.fna l=>.fna (l.map λx=>(x.1,x.2.1,x.2.2.map (LM h ks)))
 |x=>x
def X4 (h:Nat->Option Ψ) (ks:List Nat):Ψ->Ψ
 |.box cs=>.box (cs.map (LM h ks))
 |o=>o
def Qg (h:Nat->Option Ψ) (ks:List Nat):Env->Env
 |[]=>[]
 |(s,v)::r=>(s,v.map (My h ks))::Qg h ks r
def Ef (h:Nat->Option Ψ) (ks:List Nat):H4->H4
 |[]=>[]
 |(k,o)::r=>match ks.any (Nat.beq k) with
  |true=>Ef h ks r
  |false=>(k,X4 h ks o)::Ef h ks r
def dropKey (k:Nat):H4->H4
 |[]=>[]
 |(k',o)::r=>match Nat.beq k' k with
  |true=>dropKey k r
  |false=>(k',o)::dropKey k r
def Bw:List (Nat×Option Ψ)->H4->H4
 |[],h=>h
 |(k,some o)::r,h=>Bw r ((k,o)::dropKey k h)
 |(k,none)::r,h=>Bw r (dropKey k h)
def St.put (st:St) (d:Option Tmp) (v:Option aε):St :=
 match d with
 |some d=>{st with env:=(d,v)::st.env}
 |none=>st
def St.Γ (R:RO) (st:St) (ks:List Nat):St :=
 match ks with
 |[]=>st
 |ks=>{env:=Qg (st.obj R) ks st.env,heap:=Ef (st.obj R) ks st.heap,next:=st.next}
def St.after (R:RO) (st:St) (d:Option Tmp) (e:Eff):St :=
 St.put {env:=(st.Γ R e.Γ).env,heap:=Bw e.upd (st.Γ R e.Γ).heap,next:=e.next} d e.dst
def free (R:RO) (d:Option Tmp):Bool :=
 match d with
 |none=>true
 |some d=>match assoc R.renv d with
  |some _=>false
  |none=>true
def I9 (T:Ty):V1->Bool
 |.a _=>T.isAgg
 |.c _=>!T.isAgg
def Jk (P:Program) (R:RO) (st:St) (t:TypeId) (m:Option Cell) (v:V1):Option υ :=
 match Q3 P t,m with
 |some T,some (.mref k)=>match st.obj R k with
  |some (.map c l)=>match Ty.eqp T c,I9 c v,GM (st.obj R) c v with
   |some _,true,some (x,[])=>some (.ok {Eff.b st (KY c l x) with reads:=[k]})
   |_,_,_=>none
  |_=>none
 |_,_=>none
def Jl (P:Program) (R:RO) (st:St) (t:TypeId) (m:Option Cell) (v:V1) (b:Bool):Option υ :=
 match Q3 P t,m with
 |some T,some (.mref k)=>match assoc st.heap k with
  |some (.map c l)=>match Ty.eqp T c,I9 c v,GM (st.obj R) c v with
   |some _,true,some (x,[])=>some (.ok {dst:=none,upd:=[(k,some (.map c (Jw c l x b)))],reads:=[k],next:=st.next})
   |_,_,_=>none
  |_=>none
 |_,_=>none
def BY (h:Nat->Option Ψ):(c:List Ty)->List V1->Option ((AO c).δ×List Nat)
 |[],[]=>some ((),[])
 |[t],[v]=>match I9 t v with
  |true=>GM h t v
  |false=>none
 |t::u::r,v::vs=>match I9 t v,GM h t v,BY h (u::r) vs with
  |true,some (x,f),some (xs,g)=>some ((x,xs),f++g)
  |_,_,_=>none
 |_,_=>none
def Qs:(c:List Ty)->(AO c).δ->List V1
 |[],_=>[]
 |[t],x=>[Ru t x]
 |t::u::r,x=>Ru t x.1::Qs (u::r) x.2
def OK:List V1->aε
 |[v]=>.v v
 |vs=>.tup vs
def DO (st:St) (Γ reads:List Nat) (fresh:Bool):(res:List Ty)->(AO res).δ->Eff
 |res,x=>match fresh with
  |false=>{dst:=some (OK (Qs res x)),Γ,reads,next:=st.next}
  |true=>match res,x with
   |[.slice t],l=>{dst:=some (.v (.c (.ref st.next))),upd:=[(st.next,some (.arr t l))],Γ,reads,next:=st.next+1}
   |.slice t::u::r,x=>{dst:=some (.tup (.c (.ref st.next)::Qs (u::r) x.2)),upd:=[(st.next,some (.arr t x.1))],Γ,reads,next:=st.next+1}
   |_,_=>{dst:=none,Γ,reads,next:=st.next}
def Da:(c:List Ty)->{t:Ty}->t.δ->(AO c).δ->(AO (t::c)).δ
 |[],_,x,_=>x
 |_::_,_,x,y=>(x,y)
def HW:(c:List Ty)->{t:Ty}->(AO (t::c)).δ->t.δ
 |[],_,x=>x
 |_::_,_,x=>x.1
def LF:(c:List Ty)->{t:Ty}->(AO (t::c)).δ->(AO c).δ
 |[],_,_=>()
 |_::_,_,x=>x.2
def Qb (st:St) (k:Nat) (c:List Nat) (t:Ty) (rs:List Ty) (y:(AO (t::rs)).δ):Eff :=
 {dst:=some (OK (Qs rs (LF rs y))),upd:=[(k,some (.box (enc t (HW rs y))))],Γ:=c,reads:=k::c,next:=st.next}
def II (st:St) (k:Nat) (ks:List Nat) (rs:List Ty) (y:(AO rs).δ):Eff :=
 {dst:=some (OK (Qs rs y)),reads:=k::ks,next:=st.next}
def I5 (C:Ctx) (R:RO) (st:St) (f:FuncId) (args:List V1):Option υ :=
 match C.qζ f,args with
 |some {args:=t0::d,res:=rs,fresh:=true,fn,tot},.c (.ptr k 0)::rest=>match st.obj R k,rs.any Ty.eε with
  |some (.box cs),false=>match dec (st.obj R) t0 cs,BY (st.obj R) d rest with
   |some (x,[],h),some (xs,t)=>match tot with
    |some g=>some (.bind (AO rs) (g (Da d x xs)) (II st k (h++t) rs))
    |none=>some (.opt (AO rs) (fn (Da d x xs)) (II st k (h++t) rs))
   |_,_=>none
  |_,_=>none
 |some {args:=t0::d,res:=t1::rs,fresh:=false,fn,tot},.c (.ptr k 0)::rest=>match assoc st.heap k with
  |some (.box cs)=>match dec (st.obj R) t0 cs,BY (st.obj R) d rest with
   |some (x,[],h),some (xs,t)=>match tot with
    |some g=>some (.bind (AO (t1::rs)) (g (Da d x xs)) (Qb st k (h++t) t1 rs))
    |none=>some (.opt (AO (t1::rs)) (fn (Da d x xs)) (Qb st k (h++t) t1 rs))
   |_,_=>none
  |_=>none
 |_,_=>none
def JR (st:St) (gone:List (Nat×Option Ψ)) (rd:List Nat) (t:Ty) (rs:List Ty) (y:(AO (.slice t::rs)).δ):Eff :=
 {dst:=some (OK (.c (.ref st.next)::Qs rs (LF rs y))),upd:=gone++[(st.next,some (.arr t (HW (t:=.slice t) rs y)))],reads:=rd,next:=st.next+1}
def X0 (st:St) (k:Nat) (rd:List Nat) (y:(AO [.int .i64,.int .i64]).δ):Eff :=
 {dst:=some (.v (.c (.sub k y.1 y.2))),reads:=k::rd,next:=st.next}
def H9 (C:Ctx) (R:RO) (st:St) (f:FuncId) (args:List V1):Option υ :=
 match C.otbl f,args with
 |some {args:=.slice t::d,res:=.slice t'::rs,fresh:=_,fn,tot},.c c::rest=>match t'.eε||rs.any Ty.eε,BY (st.obj R) d rest with
  |false,some (xs,h)=>match c with
   |.nils=>match tot with
    |some g=>some (.bind (AO (.slice t'::rs)) (g (Da (t:=.slice t) d ([]:List t.δ) xs)) (JR st [] h t' rs))
    |none=>some (.opt (AO (.slice t'::rs)) (fn (Da (t:=.slice t) d ([]:List t.δ) xs)) (JR st [] h t' rs))
   |.ref k=>match assoc st.heap k,assoc R.rheap k,h.any (Nat.beq k) with
    |some (.arr T l),none,false=>match Gg T t l with
     |some l=>match tot with
      |some g=>some (.bind (AO (.slice t'::rs)) (g (Da (t:=.slice t) d l xs)) (JR st [(k,none)] (k::h) t' rs))
      |none=>some (.opt (AO (.slice t'::rs)) (fn (Da (t:=.slice t) d l xs)) (JR st [(k,none)] (k::h) t' rs))
     |none=>none
    |_,_,_=>none
   |_=>none
  |_,_=>none
 |some {args:=.int .i64::d,res:=[.int .i64,.int .i64],fresh:=_,fn,tot:=_},.a [.ref k]::rest=>match st.obj R k,BY (st.obj R) d rest with
  |some (.arr T l),some (xs,h)=>match Nat.beq T.size 1 with
   |true=>some (.opt (AO [.int .i64,.int .i64]) (fn (Da (t:=.int .i64) d (Aa l) xs)) (X0 st k h))
   |false=>none
  |_,_=>none
 |_,_=>none
def Ih (h:Nat->Option Ψ) (T:Ty) (cs:List Cell):Option (T.δ×List Cell×List Nat×List Nat) :=
 match dec h T cs with
 |some (x,r,f)=>some (x,r,f,[])
 |none=>none
def JO (h d:Nat->Option Ψ) (own:List Nat):(T:Ty)->Nat->List Cell->Option (T.δ×List Cell×List Nat×List Nat)
 |.slice t,off,c::r=>match own.any (Nat.beq off) with
  |false=>Ih h (.slice t) (c::r)
  |true=>match c with
   |.nils=>some (([]:List t.δ),r,[],[])
   |.ref k=>match d k with
    |some (.arr t' l)=>match Gg t' t l with
     |some l=>some (l,r,[],[k])
     |none=>none
    |_=>none
   |_=>none
 |.pair a b,off,cs=>match JO h d own a off cs with
  |some (x,r,f,g)=>match JO h d own b (off+a.size) r with
   |some (y,r,E,I)=>some ((x,y),r,f++E,g++I)
   |none=>none
  |none=>none
 |T,_,cs=>Ih h T cs
def EP (own:List Nat):(T:Ty)->Nat->T.δ->Nat->List Cell×List (Nat×Option Ψ)×Nat
 |.slice t,off,l,n=>match own.any (Nat.beq off) with
  |true=>([.ref n],[(n,some (.arr t l))],n+1)
  |false=>([.sl t l],[],n)
 |.pair a b,off,x,n=>match EP own a off x.1 n with
  |(cs,u,n)=>match EP own b (off+a.size) x.2 n with
   |(ds,v,n)=>(cs++ds,u++v,n)
 |T,_,x,n=>(enc T x,[],n)
def Va (st:St) (ks own:List Nat) (t:Ty) (y:t.δ):Eff :=
 match EP own t 0 y st.next with
 |(cs,u,n)=>{dst:=some (.v (.a cs)),upd:=u,Γ:=ks,reads:=ks,next:=n}
def Ml (C:Ctx) (R:RO) (st:St) (f:FuncId) (args:List V1):Option υ :=
 match C.stbl f with
 |some {args:=c,res:=t,own,fn}=>match BY (st.obj R) c args,Nat.ble t.size 16 with
  |some (x,ks),true=>some (.opt t (fn x) (Va st ks own t))
  |_,_=>none
 |none=>none
def nodup:List Nat->Bool
 |[]=>true
 |a::r=>!r.any (Nat.beq a)&&nodup r
def Qa (a b:List Nat):Bool:=a.all λx=>!b.any (Nat.beq x)
def zL (cs:List Cell) (o:Nat) (t:Ty):Option (List t.δ) :=
 match cs[o]? with
 |some (.sl t' l)=>Gg t' t l
 |_=>none
def jW (cs:List Cell):(los:List (Nat×Ty))->Option (AO (VG los)).δ
 |[]=>some ()
 |[x]=>zL cs x.1 x.2
 |x::y::r=>match zL cs x.1 x.2,jW cs (y::r) with
  |some a,some b=>some (a,b)
  |_,_=>none
def Mk (C:Ctx) (R:RO) (st:St) (f:FuncId) (args:List V1):Option υ :=
 match C.qtbl f,args with
 |some {size,los,args:=d,res:=rs,fn},.c (.ptr k 0)::rest=>match st.obj R k with
  |some (.box cs)=>match Nat.beq cs.length size,jW cs los,BY (st.obj R) d rest with
   |true,some x,some (xs,[])=>some (.opt (AO rs) (fn (Da d x xs)) (II st k [] rs))
   |_,_,_=>none
  |_=>none
 |_,_=>none
def KA (C:Ctx) (R:RO) (st:St) (f:FuncId) (args:List V1):Option υ :=
 match C.tbl f with
 |none=>match C.otbl f with
  |none=>match C.stbl f with
   |none=>match C.qtbl f with
    |none=>I5 C R st f args
    |some _=>Mk C R st f args
   |some _=>Ml C R st f args
  |some _=>H9 C R st f args
 |some sp=>match BY (st.obj R) sp.args args with
  |none=>none
  |some (x,ks) =>
   let c:=match sp.res.any Ty.eε&&!JX sp with
    |true=>ks
    |false=>[]
   match sp.tot with
   |some g=>some (.bind (AO sp.res) (g x) (DO st c ks sp.fresh sp.res))
   |none=>some (.opt (AO sp.res) (sp.fn x) (DO st c ks sp.fresh sp.res))
def HI (R:RO) (st:St):List Operand->Option (List Cell)
 |[]=>some []
 |x::r=>match Ω R st x,HI R st r with
  |some c,some cs=>some (c::cs)
  |_,_=>none
def bytesOf (l:List Int):List UInt8:=l.map λn=>UInt8.ofNat n.toNat
def Jg (l:List UInt8) (i:Int):Option Int:=if 0<=i then l[i.toNat]?.map λb=>(b.toNat:Int) else none
def aop (C:Ctx) (R:RO) (st:St) (o:Oper):Option υ :=
 let P:=C.P
 match o.op with
 |.move x | .assign x=>match opv R st x with
  |some v=>some (.ok {dst:=some v,next:=st.next})
  |none=>none
 |.pick c x y=>match Ω R st c with
  |some (.bool b)=>match opv R st (match b with|true=>x|false=>y) with
   |some v=>some (.ok {dst:=some v,next:=st.next})
   |none=>none
  |_=>none
 |.alloc e=>Hk P st e
 |.box _ x=>match op1 R st x with
  |some v=>some (.ok {dst:=some (.v (.c (.ptr st.next 0))),upd:=[(st.next,some (.box v.cells))],next:=st.next+1})
  |none=>none
 |.build t ps=>match Fl R st ps.toList with
  |some l=>Mj P st t l
  |none=>Gm P R st t ps.toList
 |.buildSlice t n ps=>match Fl R st ps.toList with
  |some l=>ER P R st t n l
  |none=>FH P R st t n ps.toList
 |.makeMap t none=>IC P st t
 |.lookup t x i false=>match op1 R st i with
  |some v=>Jk P R st t (Ω R st x) v
  |none=>none
 |.mapUpdate t m k v=>match op1 R st k,Ω R st v with
  |some x,some (.bool b)=>Jl P R st t (Ω R st m) x b
  |_,_=>none
 |.load t a=>Gf P R st t (opv R st a)
 |.store t a x=>match op1 R st x with
  |some v=>GI P R st t (opv R st a) v
  |none=>none
 |.binOp op t x y _=>match opv R st x,opv R st y with
  |some (.v (.c (.int k a))),some (.v (.c (.int k' b)))=>Rj st op k a k' b
  |some (.v (.c (.bool a))),some (.v (.c (.bool b)))=>match op,P.underlying t with
   |.eql,some .bool=>some (.ok (.b st (eqB a b)))
   |.neq,some .bool=>some (.ok (.b st (Nv (eqB a b))))
   |_,_=>none
  |some (.v (.a a)),some (.v (.a b))=>match Vc P t a b with
   |some e=>match op with
    |.eql=>some (.ok (.b st e))
    |.neq=>some (.ok (.b st (Nv e)))
    |_=>none
   |none=>none
  |some (.str a),some (.str b)=>match op with
   |.eql=>some (.ok (.b st (eqS a b)))
   |.neq=>some (.ok (.b st (Nv (eqS a b))))
   |_=>none
  |some (.v (.c (.ptr _ _))),some (.v (.c .nilp))=>match op,P.underlying t with
   |.eql,some (.pointer _)=>some (.ok (.b st false))
   |.neq,some (.pointer _)=>some (.ok (.b st true))
   |_,_=>none
  |_,_=>none
 |.unOp op _ x=>match op,Ω R st x with
  |.not,some (.bool b)=>some (.ok (.b st (Nv b)))
  |.neg,some (.int k n)=>some (.ok (.c st (.int k (wr k (Gi 0 n)))))
  |.xor,some (.int k n)=>some (.ok (.c st (.int k (Vn k n))))
  |_,_=>none
 |.convert s d x=>match P.underlying s,P.underlying d,Ω R st x with
  |some _,some (.int k),some (.int _ n)=>some (.ok (.c st (.int k (wr k n))))
  |some (.slice e),some .string,some c=>match P.underlying e with
   |some (.int .u8)=>match c with
    |.nils=>some (.ok (.val st (.str [])))
    |.sl (.int .u8) l=>some (.ok (.val st (.str (bytesOf l))))
    |.ref k=>match st.obj R k with
     |some (.arr (.int .u8) l)=>some (.ok {Eff.val st (.str (bytesOf l)) with reads:=[k]})
     |_=>none
    |_=>none
   |_=>none
  |_,_,_=>none
 |.makeFunc (.func f) first g=>match first.toList,HI R st g.toList with
  |[],some cs=>some (.ok (.val st (.fn f cs)))
  |[x],some []=>match Ω R st x with
   |some c=>some (.ok (.val st (.bfn f [c])))
   |none=>none
  |_,_=>none
 |.makeSlice t l c=>match Ω R st l,Ω R st c with
  |some (.int .i64 l),some (.int .i64 c)=>FC P st t l c
  |_,_=>none
 |.slice t x lo hi h=>D7 P R st t (Ω R st x) lo hi h
 |.fieldAddr s x f=>FB P st s f (opv R st x)
 |.field s x f=>match op1 R st x,Mm P s f with
  |some (.a cs),some (off,t)=>match H2 P t (cs.drop off) with
   |some v=>some (.ok (.val st (.v v)))
   |none=>none
  |_,_=>none
 |.indexAddr t x i=>match Ω R st i with
  |some (.int _ n)=>match opv R st x with
   |some (.fns l)=>Hm P st t l n
   |_=>DA P R st t (Ω R st x) n
  |_=>none
 |.index t x i=>match P.underlying t,opv R st x,Ω R st i with
  |some .string,some (.str l),some (.int _ n)=>some (.opt (.int .u8) (Jg l n) λy=>.c st (.int .u8 y))
  |some (.array _ _),some (.fna l),some (.int _ n)=>Hl P st t l n
  |_,_,_=>none
 |.extract x i=>match opv R st x with
  |some (.tup vs)=>match vs[i]? with
   |some v=>some (.ok (.val st (.v v)))
   |none=>none
  |_=>none
 |.nilCheck x=>match opv R st x with
  |some (.v (.c (.ptr k o)))=>some (.ok (.c st (.ptr k o)))
  |some (.iptr cs)=>some (.ok (.val st (.iptr cs)))
  |_=>none
 |.call c=>match c.callee with
  |.builtin .len=>match c.args.toList with
   |[x]=>match c.argTypes.toList with
    |[t]=>jL P R st t (opv R st x)
    |_=>none
   |_=>none
  |.builtin .append=>match c.args.toList,c.argTypes.toList with
   |[s,x],[t,t']=>match P.underlying t' with
    |some (.slice _)=>DD P R st t (Ω R st s) (Ω R st x)
    |some (.int _)=>D9 P R st t (Ω R st s) (Ω R st x)
    |_=>none
   |_,_=>none
  |.builtin .cap=>match c.args.toList,c.argTypes.toList with
   |[x],[t]=>match Ω R st x,P.underlying t with
    |some .nils,some (.slice _)=>some (.ok (.c st (.int .i64 0)))
    |_,_=>none
   |_,_=>none
  |.builtin .copy=>match c.args.toList,c.argTypes.toList with
   |[d,s],[t,_]=>KB P R st t (Ω R st d) (Ω R st s)
   |_,_=>none
  |.builtin .max=>match Aε R st c.args.toList with
   |some (.c (.int k a)::r)=>EB st true k a r
   |_=>none
  |.builtin .min=>match Aε R st c.args.toList with
   |some (.c (.int k a)::r)=>EB st false k a r
   |_=>none
  |.value (.func f)=>match Aε R st c.args.toList with
   |some vs=>KA C R st f vs
   |none=>none
  |.value (.tmp x)=>match st.get R x,Aε R st c.args.toList with
   |some (.bfn f cs),some vs=>KA C R st f (cs.map V1.c++vs)
   |some (.fn f []),some vs=>KA C R st f vs
   |_,_=>none
  |_=>none
 |_=>none
def Fc (ops:List Oper) (j:Nat):Option Nat :=
 match ops[j]? with
 |some o=>o.dst
 |none=>none
def Aa4 (g:Nat) (o:Oper):Option (Operand×Operand) :=
 match o.op with
 |.pick (.tmp c) a b=>match Nat.beq c g with
  |true=>some (a,b)
  |false=>none
 |_=>none
def L9 (g:Nat):List Oper->Option (List Oper×Oper×Operand×Operand×List Oper)
 |[]=>none
 |o::r=>match Aa4 g o with
  |some (a,b)=>some ([],o,a,b,r)
  |none=>match L9 g r with
   |some (c,p)=>some (o::c,p)
   |none=>none
def Gz (a b:Option (Nat×Bool)):Bool :=
 match a,b with
 |none,none=>true
 |some (i,x),some (j,y)=>Nat.beq i j&&Bool.beq' x y
 |_,_=>false
def isTrue:Operand->Bool
 |.const (.bool b)=>b
 |_=>false
def isFalse:Operand->Bool
 |.const (.bool b)=>!b
 |_=>false
def ω (ds:List Nat):Env->Env
 |[]=>[]
 |(s,v)::r=>match ds.any (Nat.beq s) with
  |true=>ω ds r
  |false=>(s,v)::ω ds r
def ψ:List Oper->List Nat
 |[]=>[]
 |o::r=>match o.dst with
  |some d=>d::ψ r
  |none=>ψ r
def Sz (R:RO) (st:St):List (Nat×Option Ψ)->Bool
 |[]=>true
 |[(k,some _)]=>match st.obj R k with
  |none=>true
  |some _=>false
 |_=>false
def VJ (g:Bool) (want:Bool) (a b:Operand) (x y:Bool):Bool :=
 match isFalse b,isTrue a with
 |true,_=>match want with
  |true=>C5 g x
  |false=>γ g x y
 |_,true=>match want with
  |false=>bOr g y
  |true=>γ g x y
 |_,_=>γ g x y
def aC (ops:List Oper) (g:Nat) (want:Bool):List Nat->List Oper->Bool
 |_,[]=>true
 |seen,o::r=>match o.guard with
  |none=>false
  |some (j,w)=>match Fc ops j with
   |none=>false
   |some c=>match seen.any (Nat.beq c)||Nat.beq c g&&Bool.beq' w want with
    |true=>aC ops g want (match o.dst with|some d=>d::seen|none=>seen) r
    |false=>false
def L3 (R:RO):List Nat->Bool
 |[]=>true
 |d::r=>match free R (some d) with
  |true=>L3 R r
  |false=>false
def Sk (R:RO) (ops:List Oper) (g:Nat) (want:Bool) (c:List Oper):Bool :=
 match aC ops g want [] c,(ψ c).any (Nat.beq g),L3 R (ψ c) with
 |true,false,true=>true
 |_,_,_=>false
def St.drop (st:St) (ds:List Nat):St:={st with env:=ω ds st.env}
def GZ (C:Ctx) (R:RO) (ops:List Oper):Nat->Option (Nat×Bool)->List Oper->St->Option St
 |0,_,_,_=>none
 |_+1,_,[],st=>some st
 |n+1,cur,o::r,st =>
  match Gz o.guard cur with
  |true=>match aop C R st o,free R o.dst with
   |some (.ok e),true=>match e.Γ,Sz R st e.upd with
    |[],true=>GZ C R ops n cur r (st.after R o.dst e)
    |_,_=>none
   |some (.bind _ x f),true=>match (f x).Γ,Sz R st (f x).upd with
    |[],true=>GZ C R ops n cur r (st.after R o.dst (f x))
    |_,_=>none
   |_,_=>none
  |false=>match o.guard with
   |none=>none
   |some (j,want)=>match Fc ops j with
    |none=>none
    |some g=>match st.get R g,L9 g (o::r) with
     |some (.v (.c (.bool c))),some (d,p,a,b,h)=>match Sk R ops g want d,GZ C R ops n (some (j,want)) d st,Gz p.guard cur,free R p.dst with
      |true,some st1,true,true=>match Ω R (match want with|true=>st1|false=>st.drop (ψ d)) a,Ω R (match want with|true=>st.drop (ψ d)|false=>st1) b with
       |some (.bool x),some (.bool y) =>
        GZ C R ops n cur h (St.put {env:=ω (ψ d) st.env,heap:=st.heap,next:=st1.next} p.dst (some (.v (.c (.bool (VJ c want a b x y))))))
       |_,_=>none
      |_,_,_,_=>none
     |_,_=>none
def JD (R:RO) (e:Eff):Bool :=
 e.Γ.all λk=>match assoc R.rheap k with
  |none=>true
  |some _=>false
def zT {A:Type} (R:RO) (st:St) (d:Option Tmp) (e:Eff) (K:St->A) (bad:A):A :=
 match JD R e with
 |true=>K (st.after R d e)
 |false=>bad
def Af8 {A:Type} (K:Eff->A) (bad:A):List (Bool×Eff)->A
 |[]=>bad
 |(b,e)::r=>AhF b (K e) (Af8 K bad r)
def Qd {A:Type} (R:RO) (d:Option Tmp) (x:Option υ) (K:Eff->A) (bad:A):A :=
 match free R d with
 |false=>bad
 |true=>match x with
  |none=>bad
  |some (.ok e)=>K e
  |some (.chk b e)=>γ b (K e) bad
  |some (.bind _ x f)=>Ao x λy=>K (f y)
  |some (.opt _ o f)=>Ad o bad λx=>K (f x)
  |some (.alts l)=>Af8 K bad l
def Ahj {A:Type} (R:RO) (st:St) (d:Option Tmp) (x:Option υ) (K:St->A) (bad:A):A :=
 Qd R d x (λe=>zT R st d e K bad) bad
def Vd:Option aε->List aε->Option (FuncId×List aε)
 |some (.fn g cs),vs=>some (g,vs++cs.map λc=>.v (.c c))
 |some (.bfn g cs),vs=>some (g,(cs.map λc=>.v (.c c))++vs)
 |_,_=>none
def Dε (C:Ctx) (R:RO) (st:St) (o:Oper):Option (Inl×List aε) :=
 match o.op with
 |.call c=>match c.callee with
  |.value f=>match avs R st c.args.toList with
   |some vs=>match Vd (opv R st f) vs with
    |some (g,us)=>match C.inl g with
     |some i=>match Nat.beq us.length i.nargs with
      |true=>some (i,us)
      |false=>none
     |none=>none
    |none=>none
   |none=>none
  |_=>none
 |_=>none
where
 avs (R:RO) (st:St):List Operand->Option (List aε)
  |[]=>some []
  |x::r=>match opv R st x,avs R st r with
   |some v,some vs=>some (v::vs)
   |_,_=>none
abbrev Gc:={A:Type}->RO->Inl->List aε->H4->Nat->(Option aε->H4->Nat->A)->A->A
def Rg {α A:Type} (o:Option α) (bad:A) (f:α->A):A :=
 match o with
 |none=>bad
 |some x=>f x
def Gh {A:Type} (C:Ctx) (inl:Gc) (R:RO) (ops:List Oper):Nat->Option (Nat×Bool)->List Oper->St->(St->A)->A->A
 |0,_,_,_,_,bad=>bad
 |_+1,_,[],st,K,_=>K st
 |n+1,cur,o::r,st,K,bad =>
  match Gz o.guard cur with
  |true=>match Dε C R st o with
   |some (i,vs)=>match free R o.dst with
    |true=>inl R i vs st.heap st.next (λv h nx=>Gh C inl R ops n cur r (St.put {st with heap:=h,next:=nx} o.dst v) K bad) bad
    |false=>bad
   |none=>Ahj R st o.dst (aop C R st o) (λst'=>Gh C inl R ops n cur r st' K bad) bad
  |false=>match o.guard with
   |none=>bad
   |some (j,want)=>match Fc ops j with
    |none=>bad
    |some g=>match st.get R g,L9 g (o::r) with
     |some (.v (.c (.bool c))),some (d,p,a,b,t)=>match Sk R ops g want d,Gz p.guard cur,free R p.dst with
      |true,true,true =>
       match GZ C R ops n (some (j,want)) d st with
       |some st1=>match Ω R (match want with|true=>st1|false=>st.drop (ψ d)) a,Ω R (match want with|true=>st.drop (ψ d)|false=>st1) b with
        |some (.bool x),some (.bool y) =>
         Gh C inl R ops n cur t (St.put {env:=ω (ψ d) st.env,heap:=st.heap,next:=st1.next} p.dst (some (.v (.c (.bool (VJ c want a b x y)))))) K bad
        |_,_=>bad
       |none =>
        match want with
        |true=>γ c
          (Gh C inl R ops n (some (j,want)) d st (λst1=>Rg (opv R st1 a) bad λv=>Gh C inl R ops n cur t (St.put (st1.drop (ψ d)) p.dst (some v)) K bad) bad)
          (Rg (opv R (st.drop (ψ d)) b) bad λv=>Gh C inl R ops n cur t (St.put (st.drop (ψ d)) p.dst (some v)) K bad)
        |false=>γ c
          (Rg (opv R (st.drop (ψ d)) a) bad λv=>Gh C inl R ops n cur t (St.put (st.drop (ψ d)) p.dst (some v)) K bad)
          (Gh C inl R ops n (some (j,want)) d st (λst1=>Rg (opv R st1 b) bad λv=>Gh C inl R ops n cur t (St.put (st1.drop (ψ d)) p.dst (some v)) K bad) bad)
      |_,_,_=>bad
     |_,_=>bad
def PJ (o:Oper):List Nat:=o.op.operands.toList.filterMap fun
 |.tmp t=>some t
 |_=>none
def looks (ops:List Oper) (o:Oper):List Nat :=
 match o.guard with
 |none=>PJ o
 |some (j,_)=>match Fc ops j with
  |some g=>g::PJ o
  |none=>PJ o
def has (ks:List Nat) (k:Nat):Bool:=ks.any (Nat.beq k)
def xZ (ks:List Nat):Option Nat->Bool
 |some k=>has ks k
 |none=>false
def zG:Option Nat->Option Nat->Bool
 |some a,some b=>Nat.beq a b
 |_,_=>false
def MH (c:List Nat):List Edge->Nat
 |[]=>0
 |e::r=>match Region.binds .any e with
  |true=>Nat.lor (Nat.lor (Nat.shiftLeft 1 e.on) (c.getD e.on 0)) (MH c r)
  |false=>MH c r
def jO (i:Nat):List Edge->Bool
 |[]=>true
 |e::r=>match Region.binds .any e&&!Nat.ble (e.on+1) i with
  |true=>false
  |false=>jO i r
abbrev Rng:=Nat×Nat×Nat
def ldR (P:Program) (R:RO) (st:St) (o:Oper):Option Rng :=
 match o.op with
 |.load t a=>match opv R st a with
  |some (.v (.c (.ptr k off)))=>match El P t,P.info? t with
   |some true,some i=>some (k,off,i.size)
   |some false,some _=>some (k,off,1)
   |_,_=>none
  |_=>none
 |_=>none
def stR (P:Program) (R:RO) (st:St) (o:Oper):Option Rng :=
 match o.op with
 |.store t a _=>match opv R st a with
  |some (.v (.c (.ptr k off)))=>match P.info? t with
   |some i=>some (k,off,i.size)
   |none=>none
  |_=>none
 |_=>none
def Ow:Option Rng->Option Rng->Bool
 |some (_,o,n),some (_,o',n')=>Nat.ble (o+n) o'||Nat.ble (o'+n') o
 |_,_=>false
structure JG where
 upd:List Nat
 reads:List Nat
 ld:Option Rng
 st:Option Rng
structure DOp where
 mask:Nat
 dst:Option Nat
 looks:List Nat
 upd:List Nat
 reads:List Nat
 ld:Option Rng
 st:Option Rng
def aI (x y:DOp):Bool:=x.upd.any (has y.reads)&&!Ow x.st y.ld
def Wz (x y:DOp):Bool :=
 zG x.dst y.dst||xZ y.looks x.dst||xZ x.looks y.dst||x.upd.any (has y.upd)||aI x y||aI y x
def WA (y:DOp):Nat->List DOp->Bool
 |_,[]=>true
 |i,x::r=>match Nat.testBit y.mask i||!Wz x y with
  |true=>WA y (i+1) r
  |false=>false
def SY:List DOp->List DOp->Bool
 |_,[]=>true
 |pre,y::r=>match WA y 0 pre with
  |true=>SY (pre++[y]) r
  |false=>false
def Jq:List Nat->List Oper->List Nat
 |ms,[]=>ms
 |ms,o::r=>Jq (ms++[MH ms o.after.toList]) r
def Nw:Nat->List Oper->Bool
 |_,[]=>true
 |i,o::r=>match jO i o.after.toList with
  |true=>Nw (i+1) r
  |false=>false
def xN (ops:List Oper):List Nat->List Oper->List JG->List DOp
 |m::ms,o::r,e::l=>{mask:=m,dst:=o.dst,looks:=looks ops o,upd:=e.upd,reads:=e.reads,ld:=e.ld,st:=e.st}::xN ops ms r l
 |_,_,_=>[]
def U9 (ops:List Oper) (log:List JG):Bool :=
 match Nw 0 ops with
 |true=>SY [] (xN ops (Jq [] ops) ops log)
 |false=>false
def BT (C:Ctx) (o:Oper):Bool :=
 match o.op with
 |.slice _ _ none (some _) _=>false
 |.move _ | .assign _ | .pick .. | .build .. | .load .. | .binOp .. | .unOp .. | .convert .. | .slice .. | .nilCheck _ | .fieldAddr .. | .field .. | .indexAddr .. | .index .. | .extract ..=>true
 |.call c=>match c.callee with
  |.builtin .len | .builtin .max | .builtin .min=>true
  |.value (.func f)=>match C.tbl f,C.inl f with
   |some sp,none=>match sp.fresh,sp.res.any Ty.eε with
    |false,false=>true
    |_,_=>false
   |_,_=>false
  |_=>false
 |_=>false
def QD (C:Ctx):List Oper->Bool
 |[]=>true
 |o::r=>match BT C o with
  |true=>QD C r
  |false=>false
def AaA (r:List Oper):Option Tmp->Bool
 |none=>false
 |some d=>r.any λo=>match o.op with
  |.call _ | .buildSlice ..=>has (PJ o) d
  |_=>false
def rB (r:List Oper):Option Tmp->Bool
 |none=>false
 |some d=>r.any λo=>match o.op with
  |.call {callee:=.builtin .append,args,.. }=>match args.toList with
   |.tmp t::_=>Nat.beq t d
   |_=>false
  |.assign (.tmp t)=>Nat.beq t d
  |_=>false
def aJ (r:List Oper):Option Tmp->Bool
 |none=>false
 |some d=>r.any λo=>match o.op with
  |.store _ (.tmp a) (.tmp t)=>Nat.beq t d&&r.any λo=>match o.op with
   |.indexAddr ..=>zG o.dst (some a)
   |_=>false
  |_=>false
def VL (n:Nat) (e:Eff):Eff :=
 match e with
 |{dst:=some (.v (.c (.ref k))),upd:=[(k',some (.arr T l))],Γ:=[],reads,next:=_}=>match Nat.beq k n,Nat.beq k' n with
  |true,true=>{dst:=some (.v (.c (.sl T l))),reads,next:=n}
  |_,_=>e
 |e=>e
def bT (C:Ctx) (R:RO) (st:St) (r:List Oper) (o:Oper):Option υ :=
 match aop C R st o with
 |some (.ok {dst:=some (.v (.c (.ref k))),upd:=[(k',some (.arr T l))],Γ:=[],reads,next})=>match rB r o.dst with
  |true=>some (.ok {dst:=some (.v (.c (.ref k))),upd:=[(k',some (.arr T l))],Γ:=[],reads,next})
  |false=>match o.op with
   |.buildSlice ..=>some (.ok {dst:=some (.v (.c (.sl T l))),reads,next:=st.next})
   |_=>some (.ok {dst:=some (.v (.c (.ref k))),upd:=[(k',some (.arr T l))],Γ:=[],reads,next})
 |some (.chk b {dst:=some (.v (.c (.ref k))),upd:=[(k',some (.arr T l))],Γ:=[],reads,next})=>match AaA r o.dst with
  |false=>some (.chk b {dst:=some (.v (.c (.ref k))),upd:=[(k',some (.arr T l))],Γ:=[],reads,next})
  |true=>match o.op with
   |.makeSlice ..=>some (.chk b {dst:=some (.v (.c (.sl T l))),reads,next:=st.next})
   |_=>some (.chk b {dst:=some (.v (.c (.ref k))),upd:=[(k',some (.arr T l))],Γ:=[],reads,next})
 |some (.opt T p f)=>match o.op,aJ r o.dst with
  |.call _,true=>some (.opt T p λx=>VL st.next (f x))
  |_,_=>some (.opt T p f)
 |some (.bind T p f)=>match o.op,aJ r o.dst with
  |.call _,true=>some (.bind T p λx=>VL st.next (f x))
  |_,_=>some (.bind T p f)
 |x=>x
def yK (P:Program) (R:RO) (st:St) (o:Oper) (e:Eff):JG:=⟨e.upd.map (·.1),e.reads,ldR P R st o,stR P R st o⟩
def JS {A:Type} (C:Ctx) (R:RO) (l:List Oper):List Oper->St->List JG->(List JG->St->A)->A->A
 |[],st,log,K,_=>K log st
 |o::r,st,log,K,bad=>match o.guard with
  |some (j,want)=>match Fc l j with
   |none=>bad
   |some g=>match free R (some g),free R o.dst,st.get R g with
    |true,true,some (.v (.c (.bool c)))=>match want with
     |true=>γ c
      (Qd R o.dst (bT C R (st.put (some g) (some (.v (.c (.bool true))))) r o) (λe=>match e.Γ with
        |[]=>JS C R l r { (st.put (some g) (some (.v (.c (.bool true))))).after R o.dst e with next:=st.next+16} (log++[yK C.P R (st.put (some g) (some (.v (.c (.bool true))))) o e]) K bad
        |_=>bad) bad)
      (JS C R l r { (st.put (some g) (some (.v (.c (.bool false))))).put o.dst (some .undef) with next:=st.next+16} (log++[⟨[],[],none,none⟩]) K bad)
     |false=>γ c
      (JS C R l r { (st.put (some g) (some (.v (.c (.bool true))))).put o.dst (some .undef) with next:=st.next+16} (log++[⟨[],[],none,none⟩]) K bad)
      (Qd R o.dst (bT C R (st.put (some g) (some (.v (.c (.bool false))))) r o) (λe=>match e.Γ with
        |[]=>JS C R l r { (st.put (some g) (some (.v (.c (.bool false))))).after R o.dst e with next:=st.next+16} (log++[yK C.P R (st.put (some g) (some (.v (.c (.bool false))))) o e]) K bad
        |_=>bad) bad)
    |_,_,_=>bad
  |none=>Qd R o.dst (bT C R st r o) (λe=>match e.Γ with
   |[]=>JS C R l r {st.after R o.dst e with next:=st.next+16} (log++[yK C.P R st o e]) K bad
   |_=>bad) bad
end Go.Den
namespace Go.Den
structure Got (T:Ty) where
 val:T.δ
 key:Nat:=0
 gone:List Nat:=[]
 Γ:List Nat:=[]
def AgR:Option aε->Option Nat
 |some (.v (.c (.ref k)))=>some k
 |some (.v (.c (.eptr k _)))=>some k
 |_=>none
def IJ (own:List Nat):(T:Ty)->Nat->T.δ->St->List Cell×St
 |.slice t,off,l,st=>match own.any (Nat.beq off) with
  |false=>([.sl t l],st)
  |true=>([.ref st.next],{st with heap:=(st.next,.arr t l)::st.heap,next:=st.next+1})
 |.pair a b,off,x,st=>match IJ own a off x.1 st with
  |(cs,st)=>match IJ own b (off+a.size) x.2 st with
   |(ds,st)=>(cs++ds,st)
 |T,_,x,st=>(enc T x,st)
def Sl (R:RO) (st:St) (t:Ty) (own:List Nat) (c:Nat):Option (Got t) :=
 match assoc st.heap c with
 |some (.box cs)=>match JO (st.obj R) (assoc st.heap) own t 0 cs with
  |some (x,[],f,g)=>some {val:=x,key:=c,gone:=c::g,Γ:=f}
  |_=>none
 |_=>none
def AgN:Option aε->Option Nat
 |some (.v (.c (.ptr k 0)))=>some k
 |_=>none
def oF:H4->Option Nat
 |[]=>none
 |(k,.box _)::r=>match oF r with
  |some j=>match Nat.ble j k with
   |true=>some k
   |false=>some j
  |none=>some k
 |_::r=>oF r
def BG (R:RO) (st:St):(i:Item)->Option (Got i.ty)
 |.slot s t=>match st.get R s with
  |some (.v v)=>match I9 t v,GM (st.obj R) t v with
   |true,some (x,f)=>some {val:=x,Γ:=f}
   |_,_=>none
  |_=>none
 |.own s t=>match st.get R s with
  |some (.v (.c .nils))=>some {val:=([]:List t.δ)}
  |some (.v (.c (.ref k)))=>match assoc st.heap k with
   |some (.arr t' l)=>match Gg t' t l with
    |some l=>some {val:=l,gone:=[k]}
    |none=>none
   |_=>none
  |_=>none
 |.box s t=>match st.get R s with
  |some (.v (.c (.ptr k 0)))=>match assoc st.heap k with
   |some (.box cs)=>match dec (st.obj R) t cs with
    |some (x,[],f)=>some {val:=x,key:=k,gone:=[k],Γ:=f}
    |_=>none
   |_=>none
  |_=>none
 |.arr s t=>match AgR (st.get R s) with
  |some k=>match assoc st.heap k with
   |some (.arr t' l)=>match Gg t' t l with
    |some l=>some {val:=l,key:=k,gone:=[k]}
    |none=>none
   |_=>none
  |none=>none
 |.barr s t=>match st.get R s with
  |some (.v (.c (.ptr b 0)))=>match st.obj R b with
   |some (.box [.ref k])=>match assoc st.heap k with
    |some (.arr t' l)=>match Gg t' t l with
     |some l=>some {val:=l,key:=k,gone:=[k]}
     |none=>none
    |_=>none
   |_=>none
  |_=>none
 |.bown s t=>match st.get R s with
  |some (.v (.c (.ptr b 0)))=>match assoc st.heap b with
   |some (.box [.nils])=>some {val:=([]:List t.δ),key:=b,gone:=[b]}
   |some (.box [.ref k])=>match assoc st.heap k with
    |some (.arr t' l)=>match Gg t' t l with
     |some l=>some {val:=l,key:=b,gone:=[b,k]}
     |none=>none
    |_=>none
   |_=>none
  |_=>none
 |.fown s a t b=>match st.get R s with
  |some (.v (.c (.ptr d 0)))=>match assoc st.heap d with
   |some (.box cs)=>match dec (st.obj R) a cs with
    |some (x,c::r,f)=>match dec (st.obj R) b r with
     |some (y,[],g)=>match c with
      |.nils=>some {val:=(x,(([]:List t.δ),y)),key:=d,gone:=[d],Γ:=f++g}
      |.ref k=>match assoc st.heap k with
       |some (.arr t' l)=>match Gg t' t l with
        |some l=>some {val:=(x,(l,y)),key:=d,gone:=[d,k],Γ:=f++g}
        |none=>none
       |_=>none
      |_=>none
     |_=>none
    |_=>none
   |_=>none
  |_=>none
 |.fbox s t own=>match AgN (st.get R s) with
  |some d=>Sl R st t own d
  |none=>none
 |.nbox t own=>match oF st.heap with
  |some d=>Sl R st t own d
  |none=>none
 |.map s t=>match st.get R s with
  |some (.v (.c (.mref k)))=>match assoc st.heap k with
   |some (.map t' l)=>match Gg (.pair t' .bool) (.pair t .bool) l with
    |some l=>some {val:=l,key:=k,gone:=[k]}
    |none=>none
   |_=>none
  |_=>none
structure Uv (T:Ty) where
 val:T.δ
 keys:List Nat
 gone:List Nat
 Γ:List Nat
def DN (R:RO) (st:St):(l:List Item)->Option (Uv (Fh l))
 |[]=>some ⟨(),[],[],[]⟩
 |[i]=>match BG R st i with
  |some g=>some ⟨g.val,[g.key],g.gone,g.Γ⟩
  |none=>none
 |i::j::r=>match BG R st i,DN R st (j::r) with
  |some g,some p=>some ⟨(g.val,p.val),g.key::p.keys,g.gone++p.gone,g.Γ++p.Γ⟩
  |_,_=>none
def pack (R:RO) (st:St) (l:List Item):Option (Uv (Fh l)) :=
 match DN R st l with
 |some p=>match nodup p.gone&&Qa p.gone p.Γ,p.Γ.all λk=>match assoc R.rheap k with|none=>true|some _=>false with
  |true,true=>some p
  |_,_=>none
 |none=>none
def SK (i:Item) (key:Nat) (x:i.ty.δ) (st:St):St :=
 match i,x with
 |.slot s t,x=>{st with env:=(s,some (.v (Ru t x)))::st.env}
 |.own s t,l=>{env:=(s,some (.v (.c (.ref st.next))))::st.env,heap:=(st.next,.arr t l)::st.heap,next:=st.next+1}
 |.box _ t,x=>{st with heap:=(key,.box (enc t x))::st.heap}
 |.arr _ t,l=>{st with heap:=(key,.arr t l)::st.heap}
 |.barr _ t,l=>{st with heap:=(key,.arr t l)::st.heap}
 |.bown _ t,l=>{st with heap:=(key,.box [.ref st.next])::(st.next,.arr t l)::st.heap,next:=st.next+1}
 |.fown _ a t b,x=>{st with heap:=(key,.box (enc a x.1++.ref st.next::enc b x.2.2))::(st.next,.arr t x.2.1)::st.heap,next:=st.next+1}
 |.fbox _ t own,x=>match IJ own t 0 x st with
  |(cs,st)=>{st with heap:=(key,.box cs)::st.heap}
 |.nbox t own,x=>match IJ own t 0 x st with
  |(cs,st)=>{st with heap:=(key,.box cs)::st.heap}
 |.map _ t,l=>{st with heap:=(key,.map t l)::st.heap}
def unpack:(l:List Item)->List Nat->(Fh l).δ->St->St
 |[],_,_,st=>st
 |[i],ks,x,st=>SK i (ks.headD 0) x st
 |i::j::r,ks,x,st=>SK i (ks.headD 0) x.1 (unpack (j::r) ks.tail x.2 st)
def Ba:Code->List Nat
 |.region _ ops _=>ψ ops.toList
 |.seq a b | .cond _ a b=>Ba a++Ba b
 |.block _ a | .loop a | .scope a=>Ba a
 |.rangeFunc _ ps a b=>ps.toList++Ba a++Ba b
 |_=>[]
def A6:Item->Option Nat
 |.slot s _ | .own s _=>some s
 |_=>none
def KC:H4->List Nat
 |[]=>[]
 |(k,.arr ..)::r=>k::KC r
 |_::r=>KC r
def dropKeys (ks:List Nat):H4->H4
 |[]=>[]
 |(k,o)::r=>match ks.any (Nat.beq k) with
  |true=>dropKeys ks r
  |false=>(k,o)::dropKeys ks r
def Bt (R:RO) (st:St) (gone:List Nat) (c:List Nat):Env×H4 :=
 let d:=(KC st.heap).filter λk=>!gone.any (Nat.beq k)
 (Qg (st.obj R) d (ω c st.env),Ef (st.obj R) d (dropKeys gone st.heap))
def within (R:RO) (rest:Env×H4):RO:={renv:=rest.1++R.renv,rheap:=rest.2++R.rheap}
def leave (rest:Env×H4) (st:St):St:={env:=st.env++rest.1,heap:=st.heap++rest.2,next:=st.next}
def Ki:List Nat->List Nat->Bool
 |[],[]=>true
 |a::l,b::m=>match Nat.beq a b with
  |true=>Ki l m
  |false=>false
 |_,_=>false
def Qf:Code->Option Nat
 |.region id _ _=>some id
 |.seq a b | .cond _ a b=>match Qf a with
  |some r=>some r
  |none=>Qf b
 |.block _ a | .loop a | .scope a=>Qf a
 |_=>none
def AgB (d:Hints) (c:Code):Option (List Item) :=
 match Qf c with
 |some r=>assoc d.joins r
 |none=>none
def Re:List (Nat×Ty)->List Item
 |[]=>[]
 |(s,t)::r=>.slot s t::Re r
def Fk (d:Hints) (c:Code):List Item :=
 match Qf c with
 |some r=>match assoc d.outs r with
  |some l=>Re l
  |none=>[]
 |none=>[]
def aZ:List Item->List Nat->List Nat
 |[],ks=>ks
 |_::r,ks=>0::aZ r ks
def known (R:RO) (c:Operand) (b:Bool) (st:St):St :=
 match c with
 |.tmp t=>match free R (some t) with
  |true=>{st with env:=(t,some (.v (.c (.bool b))))::st.env}
  |false=>st
 |_=>st
def cI {A:Type} (C:Ctx) (inl:Gc) (R:RO) (ops:List Oper) (st:St) (K:St->A) (bad:A):A :=
 match QD C ops with
 |true=>match U9 ops (ops.map λ_=>⟨[],[],none,none⟩) with
  |true=>Gh C inl R ops (2*ops.length+2) none ops st K bad
  |false=>bad
 |false=>JS C R ops ops st [] (λlog st'=>match U9 ops log with
  |true=>K st'
  |false=>bad) bad
def jS (c:Hints) (id:Nat) (R:RO) (st:St):St :=
 match c.Γ.any (Nat.beq id) with
 |true=>st.Γ R (KC st.heap)
 |false=>st
def Bi (C:Ctx) (inl:Gc) (d:Hints):(c:Code)->{A:Type}->RO->St->(hε->St->A)->A->A
 |.skip,_,_,st,K,_=>K .normal st
 |.label _,_,_,st,K,_=>K .normal st
 |.region id ops draw,_,R,st,K,bad=>match draw with
  |false=>Gh C inl R ops.toList (2*ops.toList.length+2) none ops.toList st (K .normal) bad
  |true=>cI C inl R ops.toList (jS d id R st) (K .normal) bad
 |.seq a b,A,R,st,K,bad=>match AgB d b with
  |none=>Bi C inl d a R st (λe st'=>match e with
    |.normal=>Bi C inl d b R st' K bad
    |.exit i=>K (.exit i) st'
    |.ret=>K .ret st'
    |.goto l=>K (.goto l) st') bad
  |some items=>match pack R st items with
   |none=>bad
   |some p =>
    match L3 R ((Fk d b++items).filterMap A6++Ba a) with
    |false=>bad
    |true =>
     CT (σ:=(Fh (Fk d b++items)).δ) (A:=A)
      (λx=>Bi C inl d b R (leave (Bt R st p.gone ((Fk d b++items).filterMap A6++Ba a)) (unpack (Fk d b++items) (aZ (Fk d b) p.keys) x {env:=[],heap:=[],next:=st.next})) K bad)
      λk=>Bi C inl d a (within R (Bt R st p.gone ((Fk d b++items).filterMap A6++Ba a))) (unpack items p.keys p.val {env:=[],heap:=[],next:=st.next})
        (λe st'=>match e with
          |.normal=>match pack (within R (Bt R st p.gone ((Fk d b++items).filterMap A6++Ba a))) st' (Fk d b++items) with
           |some q=>match Ki q.keys (aZ (Fk d b) p.keys) with
            |true=>k q.val
            |false=>bad
           |none=>bad
          |.exit i=>K (.exit i) (leave (Bt R st p.gone ((Fk d b++items).filterMap A6++Ba a)) st')
          |.ret=>K .ret (leave (Bt R st p.gone ((Fk d b++items).filterMap A6++Ba a)) st')
          |.goto l=>K (.goto l) (leave (Bt R st p.gone ((Fk d b++items).filterMap A6++Ba a)) st')) bad
 |.cond c x y,_,R,st,K,bad=>match Ω R st c with
  |some (.bool b)=>γ b (Bi C inl d x R (known R c true st) K bad) (Bi C inl d y R (known R c false st) K bad)
  |_=>bad
 |.block id (.loop body),A,R,st,K,bad=>match assoc d.loops id with
  |none=>match assoc d.unr id with
   |none=>bad
   |some n=>Nat.rec (motive:=λ_=>St->A) (λ_=>bad) (λ_ again st=>Bi C inl d body R st (λe st'=>match e with
     |.normal=>again st'
     |.exit i=>match Nat.beq i id with
      |true=>K .normal st'
      |false=>K (.exit i) st'
     |.ret=>K .ret st'
     |.goto l=>K (.goto l) st') bad) n st
  |some h=>match pack R st h with
   |none=>bad
   |some p =>
    match L3 R (h.filterMap A6++Ba body) with
    |false=>bad
    |true =>
     iter (σ:=(Fh h).δ) (A:=A) bad
      (λx=>Bi C inl d body (A:=Step (Fh h).δ A) (within R (Bt R st p.gone (h.filterMap A6++Ba body))) (unpack h p.keys x {env:=[],heap:=[],next:=st.next})
        (λe st'=>match e with
          |.normal=>match pack (within R (Bt R st p.gone (h.filterMap A6++Ba body))) st' h with
           |some q=>match Ki q.keys p.keys with
            |true=>.next q.val
            |false=>.done bad
           |none=>.done bad
          |.exit i=>.done (match Nat.beq i id with
           |true=>K .normal (leave (Bt R st p.gone (h.filterMap A6++Ba body)) st')
           |false=>K (.exit i) (leave (Bt R st p.gone (h.filterMap A6++Ba body)) st'))
          |.ret=>.done (K .ret (leave (Bt R st p.gone (h.filterMap A6++Ba body)) st'))
          |.goto l=>.done (K (.goto l) (leave (Bt R st p.gone (h.filterMap A6++Ba body)) st'))) (.done bad))
      Am p.val
 |.block id c,_,R,st,K,bad=>Bi C inl d c R st (λe st'=>match e with
   |.normal=>K .normal st'
   |.exit i=>match Nat.beq i id with
    |true=>K .normal st'
    |false=>K (.exit i) st'
   |.ret=>K .ret st'
   |.goto l=>K (.goto l) st') bad
 |.scope c,_,R,st,K,bad=>Bi C inl d c R st (λe st'=>match e with
   |.normal=>K .normal st'
   |.exit i=>K (.exit i) st'
   |.ret=>K .ret st'
   |.goto _=>bad) bad
 |.goto l,_,_,st,K,_=>K (.goto l) st
 |.exit id,_,_,st,K,_=>K (.exit id) st
 |.ret,_,_,st,K,_=>K .ret st
 |_,_,_,_,_,bad=>bad
def Z6 (P:Program) (R:RO) (st:St):ResultVar->Option V1
 |.tmp t=>match st.get R t with
  |some (.v v)=>some v
  |_=>none
 |.cell a t=>match Gf P R st t (st.get R a) with
  |some (.ok e)=>match e.dst with
   |some (.v v)=>some v
   |_=>none
  |_=>none
def E0 (P:Program) (R:RO) (st:St):List ResultVar->Option (List V1)
 |[]=>some []
 |x::r=>match Z6 P R st x,E0 P R st r with
  |some v,some vs=>some (v::vs)
  |_,_=>none
def CP:Nat->List aε->Env
 |_,[]=>[]
 |n,v::r=>(n,some v)::CP (n+1) r
def aK (R:RO) (st:St):List ResultVar->Option (List UInt8)
 |[.tmp t]=>match st.get R t with
  |some (.str l)=>some l
  |_=>none
 |_=>none
def EN (C:Ctx):Nat->Gc
 |0=>λ_ _ _ _ _ _ bad=>bad
 |d+1=>λR i args heap next K bad =>
  Bi C (EN C d) i.hints i.code {renv:=[],rheap:=R.rheap} {env:=CP 0 args,heap,next}
   (λe st=>match e with
     |.exit _ | .goto _=>bad
     |_=>match i.results with
      |[]=>K none st.heap st.next
      |rs=>match aK {renv:=[],rheap:=R.rheap} st rs with
       |some l=>K (some (.str l)) st.heap st.next
       |none=>match E0 C.P {renv:=[],rheap:=R.rheap} st rs with
        |some vs=>K (some (OK vs)) st.heap st.next
        |none=>bad) bad
def Cy:(c:List Ty)->(AO c).δ->List aε
 |[],_=>[]
 |[t],x=>[.v (Ru t x)]
 |t::u::r,x=>.v (Ru t x.1)::Cy (u::r) x.2
def LL (fr:Bool) (vs:List V1) (ks:List Nat):Bool :=
 match fr with
 |true=>(match vs with | .c (.ref _)::_=>true | .c .nils::_=>true|_=>false)&&nodup ks
 |false=>true
def denote (C:Ctx) (d:Nat) (i:Inl) (c g:List Ty) (fr:Bool) (x:(AO c).δ):Option (AO g).δ :=
 Bi C (EN C d) i.hints i.code {renv:=[],rheap:=[]} {env:=CP 0 (Cy c x),heap:=[],next:=0}
  (λe st=>match e with
    |.exit _ | .goto _=>none
    |_=>match E0 C.P {renv:=[],rheap:=[]} st i.results with
     |some vs=>match BY (st.obj {renv:=[],rheap:=[]}) g vs with
      |some (y,ks)=>match LL fr vs ks with
       |true=>some y
       |false=>none
      |none=>none
     |none=>none) none
def WB (C:Ctx) (d:Nat) (i:Inl) (t0:Ty) (g:List Ty) (t1:Ty) (h:List Ty) (x:(AO (t0::g)).δ):Option (AO (t1::h)).δ :=
 Bi C (EN C d) i.hints i.code {renv:=[],rheap:=[]} {env:=CP 0 (.v (.c (.ptr 0 0))::Cy g (LF g x)),heap:=[(0,.box (enc t0 (HW g x)))],next:=1}
  (λe st=>match e with
    |.exit _ | .goto _=>none
    |_=>match E0 C.P {renv:=[],rheap:=[]} st i.results,assoc st.heap 0 with
     |some vs,some (.box cs)=>match dec (st.obj {renv:=[],rheap:=[]}) t1 cs,BY (st.obj {renv:=[],rheap:=[]}) h vs with
      |some (z,[],_),some (y,_)=>some (Da h z y)
      |_,_=>none
     |_,_=>none) none
def NA (C:Ctx) (I:Inl) (c:List Ty) (fr:Bool) (e:hε) (st:St):Option (AO c).δ :=
 match e with
  |.exit _ | .goto _=>none
  |_=>match E0 C.P {renv:=[],rheap:=[]} st I.results with
   |some vs=>match BY (st.obj {renv:=[],rheap:=[]}) c vs with
    |some (y,ks)=>match LL fr vs ks with
     |true=>some y
     |false=>none
    |none=>none
   |none=>none
def cF (C:Ctx) (d:Nat) (i:Inl) (t:Ty) (g:List Ty) (t':Ty) (h:List Ty) (x:(AO (.slice t::g)).δ):Option (AO (.slice t'::h)).δ :=
 Bi C (EN C d) i.hints i.code {renv:=[],rheap:=[]} {env:=CP 0 (.v (.c (.ref 0))::Cy g (LF g x)),heap:=[(0,.arr t (HW (t:=.slice t) g x))],next:=1} (NA C i (.slice t'::h) true) none
def WC (C:Ctx) (d:Nat) (i:Inl) (t0:Ty) (c g:List Ty) (x:(AO (t0::c)).δ):Option (AO g).δ :=
 Bi C (EN C d) i.hints i.code {renv:=[],rheap:=[]} {env:=CP 0 (.iptr (enc t0 (HW c x))::Cy c (LF c x)),heap:=[],next:=0}
  (λe st=>match e with
    |.exit _ | .goto _=>none
    |_=>match E0 C.P {renv:=[],rheap:=[]} st i.results with
     |some vs=>match BY (st.obj {renv:=[],rheap:=[]}) g vs with
      |some (y,_)=>some y
      |none=>none
     |none=>none) none
def xI (C:Ctx) (I:Inl) (own:List Nat) (t:Ty) (e:hε) (st:St):Option t.δ :=
 match e with
  |.exit _ | .goto _=>none
  |_=>match E0 C.P {renv:=[],rheap:=[]} st I.results,t.isAgg with
   |some [.a cs],true=>match JO (st.obj {renv:=[],rheap:=[]}) (assoc st.heap) own t 0 cs with
    |some (y,[],f,g)=>match nodup g&&Qa g f with
     |true=>some y
     |false=>none
    |_=>none
   |_,_=>none
def denoteS (C:Ctx) (d:Nat) (i:Inl) (c:List Ty) (own:List Nat) (t:Ty) (x:(AO c).δ):Option t.δ :=
 Bi C (EN C d) i.hints i.code {renv:=[],rheap:=[]} {env:=CP 0 (Cy c x),heap:=[],next:=0} (xI C i own t) none
def xE (C:Ctx) (I:Inl) (R:RO) (c:List Ty) (e:hε) (st:St):Option (AO c).δ :=
 match e with
  |.exit _ | .goto _=>none
  |_=>match E0 C.P R st I.results with
   |some vs=>match BY (st.obj R) c vs with
    |some (y,[])=>some y
    |_=>none
   |none=>none
def GV:(los:List (Nat×Ty))->(AO (VG los)).δ->Nat->Option Cell
 |[],_,_=>none
 |[x],l,i=>match Nat.beq x.1 i with
  |true=>some (.sl x.2 l)
  |false=>none
 |x::y::r,l,i=>match Nat.beq x.1 i with
  |true=>some (.sl x.2 l.1)
  |false=>GV (y::r) l.2 i
def I8 (size:Nat) (los:List (Nat×Ty)) (x:(AO (VG los)).δ) (v:Nat->Value):List Cell :=
 (List.range size).map λi=>match GV los x i with
   |some c=>c
   |none=>.lit (v i)
def roQ (size:Nat) (los:List (Nat×Ty)) (x:(AO (VG los)).δ) (v:Nat->Value):RO :=
 {renv:=[],rheap:=[(0,.box (I8 size los x v))]}
def cG (C:Ctx) (d:Nat) (i:Inl) (size:Nat) (los:List (Nat×Ty)) (g h:List Ty) (v:Nat->Value) (x:(AO (AO (VG los)::g)).δ):Option (AO h).δ :=
 Bi C (EN C d) i.hints i.code (roQ size los (HW g x) v) {env:=CP 0 (.v (.c (.ptr 0 0))::Cy g (LF g x)),heap:=[],next:=1} (xE C i (roQ size los (HW g x) v) h) none
def ND (C:Ctx) (inl:Gc) (d:Hints) (l:Nat) (items:List Item):(c:Code)->{A:Type}->RO->St->(hε->St->A)->A->A
 |.seq (.label l') rest,A,R,st,K,bad=>match Nat.beq l' l with
  |false=>bad
  |true=>match pack R st items with
   |none=>bad
   |some p =>
    match L3 R (items.filterMap A6++Ba rest) with
    |false=>bad
    |true =>
     iter (σ:=(Fh items).δ) (A:=A) bad
      (λx=>Bi C inl d rest (A:=Step (Fh items).δ A) (within R (Bt R st p.gone (items.filterMap A6++Ba rest))) (unpack items p.keys x {env:=[],heap:=[],next:=st.next})
        (λe st'=>match e with
          |.normal=>.done (K .normal (leave (Bt R st p.gone (items.filterMap A6++Ba rest)) st'))
          |.exit i=>.done (K (.exit i) (leave (Bt R st p.gone (items.filterMap A6++Ba rest)) st'))
          |.ret=>.done (K .ret (leave (Bt R st p.gone (items.filterMap A6++Ba rest)) st'))
          |.goto l'=>match Nat.beq l' l,pack (within R (Bt R st p.gone (items.filterMap A6++Ba rest))) st' items with
           |true,some q=>match Ki q.keys p.keys with
            |true=>.next q.val
            |false=>.done bad
           |_,_=>.done bad) (.done bad))
      Am p.val
 |.seq a b,_,R,st,K,bad=>Bi C inl d a R st (λe st'=>match e with
   |.normal=>ND C inl d l items b R st' K bad
   |.exit i=>K (.exit i) st'
   |.ret=>K .ret st'
   |.goto _=>bad) bad
 |_,_,_,_,_,bad=>bad
def cK (C:Ctx) (inl:Gc) (d:Hints) (l:Nat) (items:List Item) (c:Code) {A:Type} (R:RO) (st:St) (K:hε->St->A) (bad:A):A :=
 match c with
 |.seq a (.scope c)=>Bi C inl d a R st (λe st'=>match e with
   |.normal=>ND C inl d l items c R st' K bad
   |.exit i=>K (.exit i) st'
   |.ret=>K .ret st'
   |.goto _=>bad) bad
 |_=>bad
def cE (C:Ctx) (d:Nat) (i:Inl) (l:Nat) (items:List Item) (c g:List Ty) (fr:Bool) (x:(AO c).δ):Option (AO g).δ :=
 cK C (EN C d) i.hints l items i.code {renv:=[],rheap:=[]} {env:=CP 0 (Cy c x),heap:=[],next:=0} (NA C i g fr) none
def AG (f:Func) (h:Hints):Inl:={code:=f.body.getD .skip,nargs:=f.params.size+f.nfree,ntmps:=f.ntmps,results:=f.results.toList,hints:=h}
def spT (a r:List Ty) (f:(AO a).δ->(AO r).δ) (fr:Bool:=false):FW:={args:=a,res:=r,fresh:=fr,fn:=λx=>some (f x),tot:=some f}
def spP (a r:List Ty) (f:(AO a).δ->Option (AO r).δ) (fr:Bool:=false):FW:={args:=a,res:=r,fresh:=fr,fn:=f,tot:=none}
end Go.Den
namespace Go.Den
open Go.RowKit
def ξ {α:Type} (R:α->List Value->Prop):List α->List Value->Prop
 |[],vs=>vs=[]
 |x::l,vs=>∃c d,vs=c++d/\R x c/\ξ R l d
def Reads (w:World) (O:Nat->Prop):(T:Ty)->T.δ->List Value->Prop
 |.int k,n,vs=>vs=[.int k n]/\inR k n=true
 |.bool,b,vs=>vs=[.bool b]
 |.slice t,l,vs=>∃a cap,vs=[.slice a (List.length (α:=t.δ) l) cap]/\List.length (α:=t.δ) l<=cap/\cap<=maxLen /\
   (List.length (α:=t.δ) l=0\/∃b off cells,a=some ⟨b,off,none⟩/\¬O b/\b<w.heap.size/\w.rangeAt b off cells/\ξ (Reads w O t) l cells)
 |.unit,_,vs=>vs=[]
 |.pair a b,x,vs=>∃c d,vs=c++d/\Reads w O a x.1 c/\Reads w O b x.2 d
def ξ.mono {α} {R R'} (h:∀x vs,R x vs->R' x vs):∀ {l:List α} {vs},ξ R l vs->ξ R' l vs
 |[],_,c=>c
 |_::_,_,⟨d,g,e,h1,t⟩=>⟨d,g,e,h _ _ h1,ξ.mono h t⟩
def ξ.append {α:Type} {R:α->List Value->Prop}:∀ {l m} {vs us},ξ R l vs->ξ R m us->ξ R (l++m) (vs++us)
 |[],_,_,_,h1,c=>by have:_ = []:=h1<;>simp_all
 |_::_,_,_,_,⟨d,g,e,h1,c⟩,h=>⟨d,g++_,by rw[e,Qaq],h1,ξ.append c h⟩
def ξ.length {α n} {R} (h:∀x vs,R x vs->vs.length=n):∀ {l:List α} {vs},ξ R l vs->vs.length=l.length*n
 |[],_,c=>by have:_ = []:=c<;>simp_all
 |_::l,_,⟨g,t,e,h1,d⟩=>by rw[e,Qau,h _ _ h1,ξ.length h d,Qay,Qcd,Qfc,Qgh]
def ξ.all {α} {R} {p:Value->Prop} (h:∀x vs,R x vs->∀v∈vs,p v):∀ {l:List α} {vs},ξ R l vs->∀v∈vs,p v
 |[],_,d,v,c=>by have:_ = []:=d<;>simp_all
 |_::_,_,⟨t,y,e,h1,g⟩,v,c=>by
  rw[e,Qck] at c;rcases c with c|c
  .exact h _ _ h1 v c
  .exact ξ.all h g v c
def ξ.get {α:Type} {R:α->List Value->Prop} {n:Nat} (h:∀x vs,R x vs->vs.length=n):∀ {l:List α} {vs:List Value},ξ R l vs->∀ {i:Nat} {x:α},l[i]?=some x ->
 ∃pre v post,vs=pre++v++post/\pre.length=i*n/\v.length=n/\R x v
 |[],_,_,i,x,c=>by simp at c
 |y::l,_,⟨d,g,e,h1,t⟩,i,x,c=>by
  cases i with
  |zero =>simp at c;subst c;exact ⟨[],d,g,by simp[e],by simp,h _ _ h1,h1⟩
  |succ i =>simp at c;obtain⟨pre,v,post,E,I,J,X⟩:=ξ.get h t c;exact ⟨d++pre,v,post,by rw[e,E];simp,by rw[Qau,h _ _ h1,I,Qcd];omega,J,X⟩
def ξ.set {α n} {R} (h:∀x vs,R x vs->vs.length=n):∀ {l} {vs},ξ R l vs->∀ {i} {x:α} {u},i<l.length->R x u ->
 ξ R (l.set i x) (vs.take (i*n)++u++vs.drop (i*n+n))
 |[],_,_,i,x,u,hi,_=>by simp at hi
 |y::l,_,⟨d,c,e,h1,g⟩,i,x,u,hi,t=>by
  have J:=h _ _ h1;cases i with
  |zero =>refine ⟨u,c,?_,t,g⟩<;>simp_all
  |succ i =>
   have:=ξ.set h g (by simpa using hi) t;refine ⟨d,_,?_,h1,this⟩;rw[e,Qcd,Qfc];have E:List.take (i*n+n) (d++c)=d++List.take (i*n) c:=by rw[Qdu];rw[Qas (by omega)];congr 2;omega
   have I:List.drop (i*n+n+n) (d++c)=List.drop (i*n+n) c:=by rw[Qfi];rw[Qdl (by omega)];simp;congr 1;omega
   rw[E,I];simp
def ξ.take {α n} {R} (h:∀x vs,R x vs->vs.length=n):∀ {l:List α} {vs},ξ R l vs->∀k,ξ R (l.take k) (vs.take (k*n))
 |[],_,c,k=>by have:_ = []:=c<;>simp_all
 |_::l,_,⟨d,g,e,h1,t⟩,k=>by
  cases k with
  |zero=>simp;rfl
  |succ k =>refine ⟨d,g.take (k*n),?_,h1,ξ.take h t k⟩;have:=h _ _ h1;rw[e,Qcd,Qfc,Qdu,Qas (by omega)]<;>simp_all
def ξ.drop {α n} {R} (h:∀x vs,R x vs->vs.length=n):∀ {l:List α} {vs},ξ R l vs->∀k,ξ R (l.drop k) (vs.drop (k*n))
 |[],_,t,k=>by have:_ = []:=t<;>simp_all
 |x::l,_,⟨d,c,e,h1,g⟩,k=>by
  cases k with
  |zero=>simp;exact ⟨d,c,e,h1,g⟩
  |succ k =>
   have:=h _ _ h1;have y:List.drop ((k+1)*n) (d++c)=List.drop (k*n) c:=by rw[Qcd,Qfc,Qfi,Qdl (by omega)]<;>simp_all
   rw[e,y];exact ξ.drop h g k
def IW {b off us} {w:World} (h:w.rangeAt b off us) n:w.rangeAt b off (us.take n):=λj v c=>by
 rw[Qbg] at c;split at c
 .exact h j v c
 .cases c
def KO {b off us} {w:World} (h:w.rangeAt b off us) n:w.rangeAt b (off+n) (us.drop n):=λj v c=>by rw[Qcy] at c;have:=h (n+j) v c<;>grind
def JK {b vs e fr} {w:World} (h:w.heap[b]?=some (.cells vs e fr)):w.rangeAt b 0 vs.toList:=λj u c=>by simp at c;simp[World.cell?,h,c]
def AW {w O}:∀T {x} {vs},Reads w O T x vs->vs.length=T.size
 |.int _,_,_,⟨h,_⟩=>by rw[h];rfl
 |.bool,_,_,h=>by have:= h;rw[this];rfl
 |.slice _,_,_,⟨_,_,h,_⟩=>by rw[h];rfl
 |.unit,_,_,h=>by have:= h;rw[this];rfl
 |.pair a b,_,_,⟨d,g,h,h1,c⟩=>by rw[h,Qau,AW a h1,AW b c];rfl
def Lu {w O}:∀T {x} {vs},Reads w O T x vs->∀v∈vs,v.oneCell'=true
 |.int _,_,_,⟨h,_⟩,v,c=>by rw[h] at c;simp at c;subst c;rfl
 |.bool,_,_,h,v,c=>by have:= h;rw[this] at c;simp at c;subst c;rfl
 |.slice _,_,_,⟨_,_,h,_⟩,v,c=>by rw[h] at c;simp at c;subst c;rfl
 |.unit,_,_,h,v,c=>by have:_ = _:=h<;>simp_all
 |.pair a b,_,_,⟨g,t,h,h1,d⟩,v,c=>by
  rw[h,Qck] at c;rcases c with c|c
  .exact Lu a h1 v c
  .exact Lu b d v c
structure ν (w:World) (O:Nat->Prop) (w':World) (O':Nat->Prop):Prop where
 size:w.heap.size<=w'.heap.size
 nε:∀b,b<w.heap.size->¬O b->¬O' b/\w'.heap[b]?=w.heap[b]?
def ν.refl w O:ν w O w O:=⟨χ _,λ_ _ h=>⟨h,rfl⟩⟩
def ν.trans {w c w2 O O1 d} (h:ν w O c O1) (h':ν c O1 w2 d):ν w O w2 d :=
 ⟨Qbh h.size h'.size,λb g t=>let ⟨a,e⟩:=h.nε b g t;let ⟨y,E⟩:=h'.nε b (Qac g h.size) a;⟨y,E.trans e⟩⟩
def ν.cell {w w' O O' b o v} (h:ν w O w' O') (d:¬O b) (c:w.cell? ⟨b,o,none⟩=some v):w'.cell? ⟨b,o,none⟩=some v:=by rw[World.cell?_of_block (h.nε b (World.block_lt_of_cell? w ⟨b,o,none⟩ c) d).2];exact c
def ν.range {w w' O O' b off cells} (h:ν w O w' O') (c:¬O b) (d:w.rangeAt b off cells):w'.rangeAt b off cells :=
 λj v g=>h.cell c (d j v g)
def Av {w w' O O'} (h:ν w O w' O'):∀(T:Ty) {x} {vs},Reads w O T x vs->Reads w' O' T x vs
 |.int _,_,_,c=>c
 |.bool,_,_,c=>c
 |.unit,_,_,c=>c
 |.pair a b,_,_,⟨E,I,e,h1,J⟩=>⟨E,I,e,Av h a h1,Av h b J⟩
 |.slice t,l,_,⟨a,cap,e,X,Y,c⟩=>by
  refine ⟨a,cap,e,X,Y,?_⟩;rcases c with c|⟨b,off,cells,Z,g,y,hc,d⟩
  .exact .inl c
  .exact .inr ⟨b,off,cells,Z,(h.nε b y g).1,Qac y h.size,h.range g hc,ξ.mono (λ_ _=>Av h t) d⟩
inductive π {α β:Type} (R:α->β->Prop):List α->List β->Prop
 |nil:π R [] []
 |cons {a b l m}:R a b->π R l m->π R (a::l) (b::m)
def π.mono {α β} {R R'} (h:∀a b,R a b->R' a b) {l:List α} {m:List β} (c:π R l m):π R' l m:=by
 induction c with
 |nil=>exact .nil
 |cons h1 _ d=>exact .cons (h _ _ h1) d
def π.length {α β:Type} {R:α->β->Prop} {l:List α} {m:List β} (h:π R l m):l.length=m.length:=by
 induction h with
 |nil=>rfl
 |cons _ _ c=>simp[c]
def π.append {α β:Type} {R:α->β->Prop} {l l':List α} {m c} (h:π R l m) (h':π R l' c):π R (l++l') (m++c):=by
 induction h with
 |nil=>exact h'
 |cons h1 _ d=>exact .cons h1 d
def π.take {α β:Type} {R:α->β->Prop} {l:List α} {m:List β} (h:π R l m) n:π R (l.take n) (m.take n):=by
 induction h generalizing n with
 |nil=>simp;exact .nil
 |cons h1 _ c=>cases n with
  |zero=>exact .nil
  |succ n=>exact .cons h1 (c n)
def π.drop {α β:Type} {R:α->β->Prop} {l:List α} {m:List β} (h:π R l m) n:π R (l.drop n) (m.drop n):=by
 induction h generalizing n with
 |nil=>simp;exact .nil
 |cons h1 c d=>cases n with
  |zero=>exact .cons h1 c
  |succ n=>exact d n
def π.get {α β:Type} {R:α->β->Prop} {l:List α} {m} (h:π R l m) {i:Nat} {a} (c:l[i]?=some a):∃b,m[i]?=some b/\R a b:=by
 induction h generalizing i with
 |nil=>simp at c
 |cons h1 _ d=>cases i with
  |zero=>simp_all
  |succ i=>exact d (by simpa using c)
def π.map {α β c R l m} {R':c->β->Prop} (f:α->c) (h:∀a b,R a b->R' (f a) b) (d:π R l m):π R' (l.map f) m:=by
 induction d with
 |nil=>exact .nil
 |cons h1 _ g=>exact .cons (h _ _ h1) g
def π.right {α β m} {R} {p:β->Prop} (h:∀a b,R a b->p b) {l:List α} (c:π R l m):∀b∈m,p b:=by
 induction c with
 |nil=>simp_all
 |cons h1 _ d =>grind
inductive Place where
 |box (b:Nat)
 |arr (a:Option Addr) (len cap size:Nat)
abbrev AI:=Nat->Option Place
def Place.block:Place->Option Nat
 |.box b=>some b
 |.arr (some a) _ cap _=>if cap=0 then none else some a.block
 |.arr none _ _ _=>none
def valOf (T:Ty) (vs:List Value):Value :=
 match T.isAgg with
 |true=>.agg vs.toArray
 |false=>vs.headD undef
def NW (w:World) (O:Nat->Prop) (t:Ty) (e:t.δ×Bool) (m:MapEntry):Prop:=∃us,Reads w O t e.1 us/\m.key=valOf t us/\m.val=.bool e.2
def AQ (w:World) (O:Nat->Prop) (μ:AI):Cell->Value->Prop
 |.int k n,v=>v=.int k n/\inR k n=true
 |.bool b,v=>v=.bool b
 |.sl t l,v=>Reads w O (.slice t) l [v]
 |.nils,v=>∃a,v=.slice a 0 0
 |.ref k,v=>∃a len cap sz,μ k=some (.arr a len cap sz)/\v=.slice a len cap
 |.ptr k off,v=>∃b,μ k=some (.box b)/\v=.pointer (some ⟨b,off,none⟩)
 |.eptr k i,v=>∃b len cap sz,μ k=some (.arr (some ⟨b,0,none⟩) len cap sz)/\0<=i/\i<len/\v=.pointer (some ⟨b,i.toNat*sz,none⟩)
 |.nilp,v=>v=.pointer none
 |.mref k,v=>∃b,μ k=some (.box b)/\v=.map (some b)
 |.lit x,v=>v=x/\x.oneCell'=true/\x.cells=#[x]
 |.sub k lo n,v=>∃a len cap sz d c,μ k=some (.arr a len cap sz)/\(0<=lo/\0<=n/\lo+n<=(len:Int))/\v=.slice d n.toNat c/\(n.toNat<=c/\c<=maxLen)/\(n=0\/∃b,a=some ⟨b,0,none⟩/\d=some ⟨b,lo.toNat*sz,none⟩)
def Cl (w:World) (O:Nat->Prop) (μ:AI):V1->Value->Prop
 |.c c,v=>AQ w O μ c v
 |.a cs,v=>∃vs,v=.agg vs/\π (AQ w O μ) cs vs.toList
def Nj (w:World) (O:Nat->Prop) (μ:AI):FuncId×Bool×List Cell->Value->Prop
 |(f,true,cs),v=>∃vs,v=.func (.func f) vs #[]/\π (AQ w O μ) cs vs.toList
 |(f,false,cs),v=>∃vs,v=.func (.func f) #[] vs/\π (AQ w O μ) cs vs.toList
def BW (w:World) (O:Nat->Prop) (μ:AI):aε->Value->Prop
 |.undef,v=>v=undef
 |.v x,v=>Cl w O μ x v
 |.tup xs,v=>∃vs,v=.tuple vs/\π (Cl w O μ) xs vs.toList
 |.iptr cs,v=>∃b off us,v=.pointer (some ⟨b,off,none⟩)/\¬O b/\b<w.heap.size/\w.rangeAt b off us/\π (AQ w O μ) cs us
 |.fn f cs,v=>∃vs,v=.func (.func f) #[] vs/\π (AQ w O μ) cs vs.toList
 |.bfn f cs,v=>∃vs,v=.func (.func f) vs #[]/\π (AQ w O μ) cs vs.toList
 |.fptr k i off,v=>∃b len cap sz,μ k=some (.arr (some ⟨b,0,none⟩) len cap sz)/\0<=i/\i<len/\v=.pointer (some ⟨b,i.toNat*sz+off,none⟩)
 |.str l,v=>∃s,v=.string s/\s.data.toList=l
 |.fns l,v=>∃b us,v=.slice (some ⟨b,0,none⟩) l.length l.length/\¬O b/\b<w.heap.size/\w.rangeAt b 0 us/\π (Nj w O μ) l us
 |.fna l,v=>∃us,v=.agg us/\π (Nj w O μ) l us.toList
 |.fnp f,v=>∃b off u,v=.pointer (some ⟨b,off,none⟩)/\¬O b/\b<w.heap.size/\w.cell? ⟨b,off,none⟩=some u/\Nj w O μ f u
def bε (w:World) (O:Nat->Prop) (μ:AI) (k:Nat):Ψ->Prop
 |.box cs=>∃b vs e,μ k=some (.box b)/\w.heap[b]?=some (.cells vs e (0,0))/\π (AQ w O μ) cs vs.toList
 |.arr t l=>∃a cap,μ k=some (.arr a l.length cap t.size)/\l.length<=cap/\cap<=maxLen /\
   (cap=0\/∃b vs e,a=some ⟨b,0,none⟩/\w.heap[b]?=some (.cells vs e (0,0))/\vs.size=cap*t.size/\ξ (Reads w O t) l (vs.toList.take (l.length*t.size)))
 |.map t l=>∃b es clock,μ k=some (.box b)/\w.heap[b]?=some (.map es clock)/\π (NW w O t) l es.toList
def μle (μ μ':AI):Prop:=∀k p,μ k=some p->μ' k=some p
def μle.refl μ:μle μ μ:=λ_ _ h=>h
def μle.trans {μ μ' c} (h:μle μ μ') (h':μle μ' c):μle μ c:=λ_ _ e=>h' _ _ (h _ _ e)
def Ce {w w' O O' μ μ'} (h:ν w O w' O') (d:μle μ μ'):∀c {v},AQ w O μ c v->AQ w' O' μ' c v
 |.int _ _,_,g=>g
 |.bool _,_,g=>g
 |.sl t l,_,g=>Av h (.slice t) g
 |.nils,_,g=>g
 |.ref _,_,⟨a,len,cap,sz,e,y⟩=>⟨a,len,cap,sz,d _ _ e,y⟩
 |.ptr _ _,_,⟨b,e,y⟩=>⟨b,d _ _ e,y⟩
 |.eptr _ _,_,⟨b,len,cap,sz,e,r⟩=>⟨b,len,cap,sz,d _ _ e,r⟩
 |.nilp,_,g=>g
 |.mref _,_,⟨b,e,y⟩=>⟨b,d _ _ e,y⟩
 |.lit _,_,h=>h
 |.sub _ _ _,_,⟨a,len,cap,sz,E,I,e,r⟩=>⟨a,len,cap,sz,E,I,d _ _ e,r⟩
def Xv {w w' O O' μ μ'} (h:ν w O w' O') (d:μle μ μ'):∀x {v},Cl w O μ x v->Cl w' O' μ' x v
 |.c c,_,g=>Ce h d c g
 |.a _,_,⟨vs,e,g⟩=>⟨vs,e,g.mono λc _=>Ce h d c⟩
def Ph {w w' O O' μ μ'} (h:ν w O w' O') (d:μle μ μ'):∀x {v},Nj w O μ x v->Nj w' O' μ' x v
 |(_,true,_),_,⟨vs,e,g⟩=>⟨vs,e,g.mono λc _=>Ce h d c⟩
 |(_,false,_),_,⟨vs,e,g⟩=>⟨vs,e,g.mono λc _=>Ce h d c⟩
def D3 {w w' O O' μ μ'} (h:ν w O w' O') (d:μle μ μ'):∀x {v},BW w O μ x v->BW w' O' μ' x v
 |.undef,_,g=>g
 |.v x,_,g=>Xv h d x g
 |.tup _,_,⟨vs,e,g⟩=>⟨vs,e,g.mono λc _=>Xv h d c⟩
 |.iptr _,_,⟨b,off,us,e,t,y,E,g⟩=>⟨b,off,us,e,(h.nε b y t).1,Qac y h.size,h.range t E,g.mono λc _=>Ce h d c⟩
 |.fn _ _,_,⟨vs,e,g⟩=>⟨vs,e,g.mono λc _=>Ce h d c⟩
 |.bfn _ _,_,⟨vs,e,g⟩=>⟨vs,e,g.mono λc _=>Ce h d c⟩
 |.fptr _ _ _,_,⟨b,len,cap,sz,e,r⟩=>⟨b,len,cap,sz,d _ _ e,r⟩
 |.str _,_,g=>g
 |.fns _,_,⟨b,us,e,t,y,E,g⟩=>⟨b,us,e,(h.nε b y t).1,Qac y h.size,h.range t E,g.mono λx _=>Ph h d x⟩
 |.fna _,_,⟨us,e,g⟩=>⟨us,e,g.mono λx _=>Ph h d x⟩
 |.fnp x,_,⟨b,off,u,e,t,y,E,g⟩=>⟨b,off,u,e,(h.nε b y t).1,Qac y h.size,h.cell t E,Ph h d x g⟩
def Cx {w w':World} {O O':Nat->Prop} {μ μ':AI} (h:ν w O w' O') (d:μle μ μ') {k:Nat} (o:Ψ)
 (E:∀p b,μ k=some p->p.block=some b->w'.heap[b]?=w.heap[b]?) (I:bε w O μ k o):bε w' O' μ' k o:=by
 cases o with
 |box cs =>obtain⟨b,vs,e,h1,g,y⟩:=I;exact ⟨b,vs,e,d _ _ h1,by rw[E _ b h1 rfl];exact g,y.mono λc _=>Ce h d c⟩
 |arr t l =>
  obtain⟨a,cap,h1,g,y,h4⟩:=I;refine ⟨a,cap,d _ _ h1,g,y,?_⟩;rcases h4 with h4|⟨b,vs,e,J,Y,h6,Z⟩
  .exact .inl h4
  .by_cases X:cap=0
   .exact .inl X
   .exact .inr ⟨b,vs,e,J,by rw[E _ b h1 (by rw[J];simp[Place.block,X])];exact Y,h6,Z.mono λ_ _=>Av h t⟩
 |map t l =>obtain⟨b,es,c,h1,g,y⟩:=I;exact ⟨b,es,c,d _ _ h1,by rw[E _ b h1 rfl];exact g,y.mono λe m ⟨us,r,r'⟩=>⟨us,Av h t r,r'⟩⟩
def VP {w O μ}:∀c {v},AQ w O μ c v->v.oneCell'=true
 |.int _ _,_,⟨h,_⟩=>by rw[h];rfl
 |.bool _,_,h=>by have:= h;rw[this];rfl
 |.sl _ _,_,⟨_,_,h,_⟩=>by simp at h;rw[h];rfl
 |.nils,_,⟨_,h⟩=>by rw[h];rfl
 |.ref _,_,⟨_,_,_,_,_,h⟩=>by rw[h];rfl
 |.ptr _ _,_,⟨_,_,h⟩=>by rw[h];rfl
 |.eptr _ _,_,⟨_,_,_,_,_,_,_,h⟩=>by rw[h];rfl
 |.nilp,_,h=>by have:= h;rw[this];rfl
 |.mref _,_,⟨_,_,h⟩=>by rw[h];rfl
 |.lit _,_,⟨h,h',_⟩=>by simp_all
 |.sub _ _ _,_,⟨_,_,_,_,_,_,_,_,h,_⟩=>by rw[h];rfl
def Pg {w O μ}:∀c {v},AQ w O μ c v->v.cells=#[v]
 |.int _ _,_,⟨h,_⟩=>by rw[h];rfl
 |.bool _,_,h=>by have:= h;rw[this];rfl
 |.sl _ _,_,⟨_,_,h,_⟩=>by simp at h;rw[h];rfl
 |.nils,_,⟨_,h⟩=>by rw[h];rfl
 |.ref _,_,⟨_,_,_,_,_,h⟩=>by rw[h];rfl
 |.ptr _ _,_,⟨_,_,h⟩=>by rw[h];rfl
 |.eptr _ _,_,⟨_,_,_,_,_,_,_,h⟩=>by rw[h];rfl
 |.nilp,_,h=>by have:= h;rw[this];rfl
 |.mref _,_,⟨_,_,h⟩=>by rw[h];rfl
 |.lit _,_,⟨h,_,h'⟩=>by simp_all
 |.sub _ _ _,_,⟨_,_,_,_,_,_,_,_,h,_⟩=>by rw[h];rfl
def Gx {w O μ}:∀x {v},Cl w O μ x v->π (AQ w O μ) x.cells v.cells.toList
 |.c c,v,h=>by rw[Pg c h];exact .cons h .nil
 |.a cs,_,⟨vs,e,h⟩=>by rw[e];exact h
def Fw {w O μ}:∀T {x} {vs},Reads w O T x vs->π (AQ w O μ) (enc T x) vs
 |.int _,_,_,⟨h,h'⟩=>by rw[h];exact .cons ⟨rfl,h'⟩ .nil
 |.bool,_,_,h=>by have:= h;rw[this];exact .cons rfl .nil
 |.slice _,_,_,h=>by obtain⟨a,cap,e,r⟩:=h;rw[e];exact .cons ⟨a,cap,rfl,r⟩ .nil
 |.unit,_,_,h=>by have:= h;rw[this];exact .nil
 |.pair a b,_,_,⟨d,g,h,h1,c⟩=>by rw[h];exact (Fw a h1).append (Fw b c)
def NB {w:World} {O:Nat->Prop} {μ:AI}:∀(T:Ty) {x:T.δ} {vs:List Value},Reads w O T x vs->Cl w O μ (Ru T x) (valOf T vs)
 |.int _,_,_,⟨h,h'⟩=>by rw[h];exact ⟨rfl,h'⟩
 |.bool,_,_,h=>by have:_ = _:=h;rw[this];rfl
 |.slice _,_,_,h=>by obtain⟨a,cap,e,r⟩:=h;rw[e];exact ⟨a,cap,rfl,r⟩
 |.unit,_,_,h=>by have:_ = _:=h;rw[this];exact ⟨_,rfl,.nil⟩
 |.pair a b,x,vs,h=>⟨vs.toArray,rfl,by simpa using Fw (μ:=μ) (.pair a b) h⟩
def Ea {t T l m} (h:Gg t T l=some m):∃e:t=T,m=e▸l:=by unfold Gg at h<;>grind
def beq_true {a b} (h:Nat.beq a b=true):a=b:=Nat.eq_of_beq_eq_true h
def beq_false {a b} (h:Nat.beq a b=false):a≠b:=Nat.ne_of_beq_eq_false h
def any_beq {k} {ks:List Nat}:ks.any (Nat.beq k)=true↔k∈ks:=by simp[List.any_eq_true]
structure Ξ where
 w0:World
 D:Nat->Prop
 base:Nat
 F:Nat->Prop
 dfr:List Deferred
structure ρ (B:Ξ) (R:RO) (st:St) (μ:AI) (O:Nat->Prop) (w:World):Prop where
 heap:∀k o,st.obj R k=some o->bε w O μ k o
 own:∀k o,st.obj R k=some o->∀p b,μ k=some p->p.block=some b->O b/\(B.base<=b/\¬B.F b)/\b<w.heap.size
 inj:∀k k' o o',st.obj R k=some o->st.obj R k'=some o'->∀p p' b,μ k=some p->μ k'=some p'->p.block=some b->p'.block=some b->k=k'
 foreign:∀b,B.F b->O b
 flt:∀b,B.F b->w.heap[b]?=B.w0.heap[b]?
 dom:∀k p,μ k=some p->k<st.next\/B.D k
 below:Below B.base B.w0 w
 bsize:B.base<=w.heap.size
 obound:∀b,O b->b<w.heap.size
structure Ev (B:Ξ) (R:RO) (st':St) (μ:AI) (O:Nat->Prop) (w:World) (μ':AI) (O':Nat->Prop) (w':World):Prop where
 le:μle μ μ'
 keeps:ν w O w' O'
 mem:ρ B R st' μ' O' w'
 new:∀k p,μ' k=some p->μ k=some p\/k<st'.next/\∃o,st'.obj R k=some o
def bε.some {w O μ k o} (h:bε w O μ k o):∃p,μ k=.some p:=by
 cases o with
 |box cs=>obtain⟨b,_,_,h1,_⟩:=h<;>simp_all
 |arr t l=>obtain⟨a,cap,h1,_⟩:=h<;>simp_all
 |map t l=>obtain⟨b,_,_,h1,_⟩:=h<;>simp_all
def ρ.congr {B:Ξ} {R:RO} {st st':St} {μ:AI} {O:Nat->Prop} {w:World} (h:ρ B R st μ O w) (c:∀k o,st'.obj R k=some o->st.obj R k=some o) (d:st.next<=st'.next):ρ B R st' μ O w :=
 {h with
  heap:=λk o e=>h.heap k o (c k o e)
  own:=λk o e=>h.own k o (c k o e)
  inj:=λk k' o o' e g=>h.inj k k' o o' (c k o e) (c k' o' g)
  dom:=λk p e=>(h.dom k p e).imp (λh=>Qac h d) id}
def AE {α} a v (r:List (Nat×α)) k:assoc ((a,v)::r) k=if a=k then some v else assoc r k:=by
 simp only[assoc];split
 .simp_all
 .rename_i h;rw[if_neg (beq_false h)]
def Dh {k k'}:∀ {h},assoc (dropKey k h) k'=if k'=k then none else assoc h k'
 |[]=>by simp[dropKey,assoc]
 |(a,o)::r=>by
  simp only[dropKey];split
  .rename_i e;have:=beq_true e;subst this;rw[Dh,AE]<;>grind
  .rename_i e;have c:=beq_false e;rw[AE,AE,Dh]<;>grind
def Dg {α k}:∀ {l m:List (Nat×α)},assoc (l++m) k=(assoc l k).orElse λ_=>assoc m k
 |[],m=>by simp[assoc]
 |(a,v)::r,m=>by rw[Qbs,AE,AE,Dg]<;>grind
def mε (R:RO) (k:Nat):Bool :=
 match assoc R.rheap k with
 |none=>true
 |some _=>false
def fε {R k}:mε R k=true↔assoc R.rheap k=none:=by unfold mε<;>grind
def Dv {R k k' o n e} {st:St} :
 ({env:=e,heap:=(k,o)::dropKey k st.heap,next:=n}:St).obj R k'=if k'=k then some o else st.obj R k':=by simp only[St.obj,AE,Dh]<;>grind
def Ym {R k k' n e} {st:St} (c:mε R k=true) :
 ({env:=e,heap:=dropKey k st.heap,next:=n}:St).obj R k'=if k'=k then none else st.obj R k':=by
 simp only[St.obj,Dh];by_cases h:k'=k
 .subst h;simp[fε.1 c]
 .simp[h]
def μset (μ:AI) (k:Nat) (p:Place):AI:=λj=>if j=k then some p else μ j
def μle_set {μ k p} (h:∀q,μ k=some q->False):μle μ (μset μ k p):=λj q e=>by unfold μset<;>grind
def μset_new {R μ n p o} {st':St} (h:st'.obj R n=some o) (d:n+1=st'.next) k q (c:μset μ n p k=some q) :
 μ k=some q\/k<st'.next/\∃o,st'.obj R k=some o:=by unfold μset at c<;>grind
def ρ.alloc {B:Ξ} {R:RO} {st:St} {μ:AI} {O:Nat->Prop} {w:World} (h:ρ B R st μ O w) (hD:¬B.D st.next) (obj:Obj) (p:Place) (o:Ψ)
 (y:p.block=none\/p.block=some w.heap.size)
 (ho:∀O' μ',ν w O (w.alloc obj) O'->μle μ μ'->μ' st.next=some p->bε (w.alloc obj) O' μ' st.next o) (e:Env) :
 ∃μ' O',Ev B R {env:=e,heap:=(st.next,o)::dropKey st.next st.heap,next:=st.next+1} μ O w μ' O' (w.alloc obj)/\μ' st.next=some p:=by
 have Y:∀q,μ st.next=some q->False:=λq e=>(h.dom _ _ e).elim (Qcm _) hD;have hk:ν w O (w.alloc obj) λb=>O b\/b=w.heap.size :=
  ⟨by simp,λb d hO=>⟨λhh=>hh.elim hO λe=>by omega,heap_alloc_old w obj b d⟩⟩;have Z:=μle_set (p:=p) Y;have t:μset μ st.next p st.next=some p:=by simp[μset]
 have c:∀k,k≠st.next->μset μ st.next p k=μ k:=λk hk=>by simp[μset,hk]
 refine ⟨μset μ st.next p,λb=>O b\/b=w.heap.size,⟨Z,hk,?_,μset_new (o:=o) (by rw[Dv];simp) rfl⟩,t⟩;have a6:(w.alloc obj).heap.size=w.heap.size+1:=by simp
 refine {heap:=λk o' X=>?_,own:=λk o' X q b E d=>?_,inj:=λk k' o1 o2 e1 e2 q q' b E I d J=>?_,foreign:=λb d=>.inl (h.foreign b d),flt:=λb d=>(heap_alloc_old w obj b (h.obound b (h.foreign b d))).trans (h.flt b d),dom:=λk q E=>?_,below:=h.below.alloc h.bsize obj,bsize:=by have:=h.bsize;omega,obound:=λb d=>d.elim λd=>by have:=h.obound b d;omega λd=>by omega}
 .rw[Dv] at X;by_cases g:k=st.next
  .rw[if_pos g] at X;cases X;subst g;exact ho _ _ hk Z t
  .rw[if_neg g] at X;refine Cx hk Z o' (λp' b a1 d=>heap_alloc_old w obj b ?_) (h.heap k o' X);exact (h.own k o' X p' b a1 d).2.2
 .rw[Dv] at X;by_cases g:k=st.next
  .subst g;rw[t] at E;cases E;rcases y with y|y
   .rw[y] at d;cases d
   .rw[y] at d;cases d;exact ⟨.inr rfl,⟨h.bsize,λhF=>Qcm _ (h.obound _ (h.foreign _ hF))⟩,by omega⟩
  .rw[if_neg g] at X;rw[c k g] at E;have:=h.own k o' X q b E d;exact ⟨.inl this.1,this.2.1,by omega⟩
 .rw[Dv] at e1 e2;by_cases h1:k=st.next<;>by_cases h2:k'=st.next
  .rw[h1,h2]
  .exfalso;subst h1;rw[t] at E;cases E;rw[if_neg h2] at e2;rw[c k' h2] at I;have:=(h.own k' o2 e2 q' b I J).2.2;rcases y with y|y
   .rw[y] at d;cases d
   .rw[y] at d;cases d;omega
  .exfalso;subst h2;rw[t] at I;cases I;rw[if_neg h1] at e1;rw[c k h1] at E;have:=(h.own k o1 e1 q b E d).2.2;rcases y with y|y
   .rw[y] at J;cases J
   .rw[y] at J;cases J;omega
  .rw[if_neg h1] at e1;rw[if_neg h2] at e2;rw[c k h1] at E;rw[c k' h2] at I;exact h.inj k k' o1 o2 e1 e2 q q' b E I d J
 .by_cases g:k=st.next
  .subst g;exact .inl (Qcx _)
  .rw[c k g] at E;exact (h.dom k q E).imp Qca id
def ρ.vζ {B:Ξ} {R:RO} {st:St} {μ:AI} {O:Nat->Prop} {w w':World} (h:ρ B R st μ O w) {k:Nat} {o:Ψ} {p:Place} {b:Nat}
 (I:st.obj R k=some o) (hp:μ k=some p) (hb:p.block=some b) (o':Ψ)
 (aa:w.heap.size<=w'.heap.size) (hw:∀c,c<w.heap.size->c≠b->w'.heap[c]?=w.heap[c]?) (Y:Below B.base w w')
 (ho:ν w O w' O->bε w' O μ k o') (e:Env) :
 Ev B R {env:=e,heap:=(k,o')::dropKey k st.heap,next:=st.next} μ O w μ O w':=by
 have E:=h.own k o I p b hp hb;have d:ν w O w' O:=⟨by omega,λc g hO=>⟨hO,hw c g λe=>hO (e▸E.1)⟩⟩;refine ⟨μle.refl _,d,{heap:=λj J t=>?_,own:=λj J t q c X g=>?_,inj:=λj j' o1 o2 e1 e2 q q' c X a6 g a7=>?_,foreign:=h.foreign,flt:=λc g=>(hw c (h.obound c (h.foreign c g)) λe=>E.2.1.2 (e▸g)).trans (h.flt c g),dom:=h.dom,below:=h.below.trans Y,bsize:=by have:=h.bsize;omega,obound:=λb hb=>by have:=h.obound b hb;omega},λ_ _ I=>.inl I⟩
 .rw[Dv] at t;by_cases y:j=k
  .rw[if_pos y] at t;cases t;subst y;exact ho d
  .rw[if_neg y] at t;refine Cx d (μle.refl _) J (λq c X g=>hw c (h.own j J t q c X g).2.2 ?_) (h.heap j J t);intro a8;exact y (h.inj j k J o t I q p b X hp (a8▸g) hb)
 .have:∃Z,st.obj R j=some Z:=by
   rw[Dv] at t;by_cases y:j=k
   .subst y;exact ⟨o,I⟩
   .rw[if_neg y] at t;exact ⟨J,t⟩
  obtain⟨Z,eo⟩:=this;have:=h.own j Z eo q c X g;exact ⟨this.1,this.2.1,by omega⟩
 .have get:∀i oi,({env:=e,heap:=(k,o')::dropKey k st.heap,next:=st.next}:St).obj R i=some oi->∃Z,st.obj R i=some Z:=λi oi ei=>by
   rw[Dv] at ei;by_cases y:i=k
   .subst y;exact ⟨o,I⟩
   .rw[if_neg y] at ei;exact ⟨oi,ei⟩
  obtain⟨a1,h1⟩:=get j o1 e1;obtain⟨a2,h2⟩:=get j' o2 e2;exact h.inj j j' a1 a2 h1 h2 q q' c X a6 g a7
def ρ.write {B:Ξ} {R:RO} {st:St} {μ:AI} {O:Nat->Prop} {w w':World} (h:ρ B R st μ O w) {k:Nat} {o:Ψ} {p:Place} {b:Nat}
 (t:st.obj R k=some o) (y:μ k=some p) (E:p.block=some b) (o':Ψ)
 (g:w'.heap.size=w.heap.size) (I:∀c,c≠b->w'.heap[c]?=w.heap[c]?) (d:Below B.base w w')
 (J:ν w O w' O->bε w' O μ k o') (e:Env) :
 Ev B R {env:=e,heap:=(k,o')::dropKey k st.heap,next:=st.next} μ O w μ O w' :=
 h.vζ t y E o' (Nat.le_of_eq g.symm) (λc _ X=>I c X) d J e
def F7 {h ks k}:∀ {c},assoc (Ef h ks c) k=if k∈ks then none else (assoc c k).map (X4 h ks)
 |[]=>by simp[Ef,assoc]
 |(a,o)::r=>by
  simp only[Ef];split
  .rename_i e;have:=any_beq.1 e;rw[F7,AE]<;>grind
  .rename_i e;have d:a∉ks:=λg=>by rw[any_beq.2 g] at e;cases e
   rw[AE,AE,F7]<;>grind
def Kf {w:World} {O O':Nat->Prop} {μ:AI} {k:Nat} {t:Ty} {l:List t.δ} (X:ν w O w O') (Y:bε w O μ k (.arr t l)) (Z:∀p b,μ k=some p->p.block=some b->¬O' b/\b<w.heap.size) {v:Value} (hv:AQ w O μ (.ref k) v) :
 Reads w O' (.slice t) l [v]:=by
 obtain⟨a,len,cap,sz,e,ev⟩:=hv;obtain⟨a',y,E,hl,hm,c⟩:=Y;rw[e] at E;cases E;refine ⟨a,cap,by rw[ev],hl,hm,?_⟩;by_cases I:cap=0
 .exact .inl (by omega)
 rcases c with c|⟨b,vs,el,J,d,hs,c⟩
 .exact absurd c I
 .have g:=Z _ b e (by subst J;simp[Place.block,I]);refine .inr ⟨b,0,vs.toList.take (l.length*t.size),J,g.1,g.2,λj v h=>?_,c.mono λ_ _=>Av X t⟩;rw[Qbg] at h;split at h
  .simp at h;simp[World.cell?,d,h]
  .cases h
def nX {α:Type} {l:List α} {lo n} {len:Nat} (c:l.length=len) (h0:0<=lo) (h1:0<=n) (d:lo+n<=(len:Int)):(EJ l lo n).length=n.toNat:=by unfold EJ<;>grind
def aU {w:World} {O:Nat->Prop} {μ:AI} {k:Nat} {t:Ty} {l:List t.δ} (hr:bε w O μ k (.arr t l)) {lo n:Int} {v:Value} (hv:AQ w O μ (.sub k lo n) v) :
 ∃a c cells,v=.slice a (EJ l lo n).length c/\(EJ l lo n).length<=c/\c<=maxLen/\((EJ l lo n).length=0\/∃b off,a=some ⟨b,off,none⟩/\(∃p,μ k=some p/\p.block=some b)/\w.rangeAt b off cells)/\ξ (Reads w O t) (EJ l lo n) cells:=by
 obtain⟨a,len,cap,sz,Y,Z,e,⟨h0,h1,h2⟩,ev,⟨h3,h4⟩,I⟩:=hv;obtain⟨a2,a1,e',hl,hm,d⟩:=hr;rw[e] at e';cases e';have g:(EJ l lo n).length=n.toNat:=nX rfl h0 h1 h2;by_cases J:n=0
 .have y:EJ l lo n=[]:=Qad (by rw[g,J];rfl);rw[y];exact ⟨Y,Z,[],by rw[ev,J];rfl,Qaw _,h4,.inl rfl,rfl⟩
 rw[g];rcases I with I|⟨b,ea,X⟩
 .exact absurd I J
 have hc:¬cap=0:=by clear d;omega
 rcases d with d|⟨b2,vs,el,E,h,hs,d⟩
 .exact absurd d hc
 .rw[ea] at E;cases E;refine ⟨Y,Z,((vs.toList.take (l.length*t.size)).take ((lo+n).toNat*t.size)).drop (lo.toNat*t.size),ev,h3,h4,.inr ⟨b,lo.toNat*t.size,X,⟨_,e,by subst ea;simp[Place.block,hc]⟩,?_⟩,?_⟩
  .have:=KO (IW (IW (JK h) (l.length*t.size)) ((lo+n).toNat*t.size)) (lo.toNat*t.size);rwa [Qbm] at this
  .exact ξ.drop (λx vs=>AW t) (ξ.take (λx vs=>AW t) d (lo+n).toNat) lo.toNat
def aV {w O O' μ k t l lo n v} (E:ν w O w O') (I:bε w O μ k (.arr t l)) (h:∀p b,μ k=some p->p.block=some b->¬O' b/\b<w.heap.size) (J:AQ w O μ (.sub k lo n) v) :
 Reads w O' (.slice t) (EJ l lo n) [v]:=by
 obtain⟨a,c,cells,X,h1,Y,d,h4⟩:=aU I J;refine ⟨a,c,by rw[X],h1,Y,?_⟩;rcases d with d|⟨b,off,Z,⟨p,y,g⟩,d⟩
 .exact .inl d
 .exact .inr ⟨b,off,cells,Z,(h p b y g).1,(h p b y g).2,d,h4.mono λ_ _=>Av E t⟩
def LN {w O O' μ h ks v} (d:ν w O w O') (E:∀k o,h k=some o->bε w O μ k o)
 (I:∀k∈ks,∀p b,μ k=some p->p.block=some b->¬O' b/\b<w.heap.size) c (g:AQ w O μ c v):AQ w O' μ (LM h ks c) v:=by
 cases c with
 |ref k =>
  simp only[LM];split
  .rename_i e;split
   .rename_i t l y;exact Kf d (E k _ y) (I k (any_beq.1 e)) g
   .exact Ce d (μle.refl _) _ g
  .exact Ce d (μle.refl _) _ g
 |sub k lo n =>
  simp only[LM];split
  .rename_i e;split
   .rename_i t l y;exact aV d (E k _ y) (I k (any_beq.1 e)) g
   .exact Ce d (μle.refl _) _ g
  .exact Ce d (μle.refl _) _ g
 |_=>exact Ce d (μle.refl _) _ g
def eP {w O O' μ h ks v} (d:ν w O w O') (g:∀k o,h k=some o->bε w O μ k o)
 (t:∀k∈ks,∀p b,μ k=some p->p.block=some b->¬O' b/\b<w.heap.size) x (y:Cl w O μ x v):Cl w O' μ (jT h ks x) v:=by
 cases x with
 |c c=>exact LN d g t c y
 |a cs=>obtain⟨vs,e,E⟩:=y;exact ⟨vs,e,E.map _ λc _=>LN d g t c⟩
def X3 {w O O' μ h ks v} (d:ν w O w O') (g:∀k o,h k=some o->bε w O μ k o)
 (t:∀k∈ks,∀p b,μ k=some p->p.block=some b->¬O' b/\b<w.heap.size) x (y:Nj w O μ x v):Nj w O' μ (x.1,x.2.1,x.2.2.map (LM h ks)) v:=by obtain⟨f,b,cs⟩:=x;cases b<;>(obtain⟨vs,e,E⟩:=y;exact ⟨vs,e,E.map _ λc _=>LN d g t c⟩)
def Qh {w O O' μ h ks v} (g:ν w O w O') (y:∀k o,h k=some o->bε w O μ k o)
 (E:∀k∈ks,∀p b,μ k=some p->p.block=some b->¬O' b/\b<w.heap.size) x (t:BW w O μ x v):BW w O' μ (My h ks x) v:=by
 cases x with
 |v x=>exact eP g y E x t
 |tup xs=>obtain⟨vs,e,d⟩:=t;exact ⟨vs,e,d.map _ λc _=>eP g y E c⟩
 |iptr cs =>obtain⟨b,off,us,e,h1,I,J,d⟩:=t;exact ⟨b,off,us,e,(g.nε b I h1).1,I,J,d.map _ λc _=>LN g y E c⟩
 |fn f cs=>obtain⟨vs,e,d⟩:=t;exact ⟨vs,e,d.map _ λc _=>LN g y E c⟩
 |bfn f cs=>obtain⟨vs,e,d⟩:=t;exact ⟨vs,e,d.map _ λc _=>LN g y E c⟩
 |fptr k i off=>exact t
 |undef=>exact t
 |str l=>exact t
 |fns l =>obtain⟨b,us,e,h1,I,J,d⟩:=t;exact ⟨b,us,by simp_all,(g.nε b I h1).1,I,J,d.map _ λx _=>X3 g y E x⟩
 |fna l =>obtain⟨us,e,d⟩:=t;exact ⟨us,e,d.map _ λx _=>X3 g y E x⟩
 |fnp x =>obtain⟨b,off,u,e,h1,I,J,d⟩:=t;exact ⟨b,off,u,e,(g.nε b I h1).1,I,J,X3 g y E x d⟩
def ρ.freeze {B:Ξ} {R:RO} {st:St} {μ:AI} {O:Nat->Prop} {w:World} (h:ρ B R st μ O w) (ks:List Nat) (a6:∀k∈ks,mε R k=true) (hl:∀k∈ks,∃o,st.obj R k=some o) (e:Env) :
 ∃O',ρ B R {env:=e,heap:=Ef (st.obj R) ks st.heap,next:=st.next} μ O' w/\ν w O w O' /\
  ∀k∈ks,∀p b,μ k=some p->p.block=some b->¬O' b/\b<w.heap.size:=by
 let O':Nat->Prop:=λb=>O b/\∀k∈ks,∀p,μ k=some p->p.block≠some b
 have hO:ν w O w O':=⟨χ _,λb _ Z=>⟨λhh=>Z hh.1,rfl⟩⟩
 have Z:∀k∈ks,∀p b,μ k=some p->p.block=some b->¬O' b/\b<w.heap.size:=λk g p b X y=>by obtain⟨o,J⟩:=hl k g;exact ⟨λhh=>hh.2 k g p X y,(h.own k o J p b X y).2.2⟩
 have a1:∀k,({env:=e,heap:=Ef (st.obj R) ks st.heap,next:=st.next}:St).obj R k=if k∈ks then none else match assoc st.heap k with|some o=>some (X4 (st.obj R) ks o)|none=>assoc R.rheap k:=λk=>by
  simp only[St.obj,F7];by_cases g:k∈ks
  .simp[g,fε.1 (a6 k g)]
  .simp only[g,if_false];cases assoc st.heap k<;>rfl
 have d:∀k o,({env:=e,heap:=Ef (st.obj R) ks st.heap,next:=st.next}:St).obj R k=some o->k∉ks/\∃E,st.obj R k=some E/\(o=X4 (st.obj R) ks E\/o=E):=λk o I=>by
  rw[a1] at I;by_cases g:k∈ks
  .rw[if_pos g] at I;cases I
  .rw[if_neg g] at I;refine ⟨g,?_⟩;cases ha:assoc st.heap k with
   |some E=>rw[ha] at I;cases I;exact ⟨E,by simp[St.obj,ha],.inl rfl⟩
   |none=>rw[ha] at I;exact ⟨o,by simp[St.obj,ha];exact I,.inr rfl⟩
 refine ⟨O',{heap:=λk o I=>?_,own:=λk o I p b X y=>?_,inj:=λk k' o o' e1 e2=>?_,foreign:=λb hF=>⟨h.foreign b hF,λk g p X y=>?_⟩,flt:=h.flt,dom:=h.dom,below:=h.below,bsize:=h.bsize,obound:=λb Z=>h.obound b Z.1},hO,Z⟩
 .obtain⟨g,E,h0,J⟩:=d k o I;have hr:=h.heap k E h0;have Y:bε w O' μ k E:=Cx hO (μle.refl _) E (λ_ _ _ _=>rfl) hr;rcases J with J|J
  .subst J;cases E with
   |box cs =>obtain⟨b,vs,el,h1,h2,h3⟩:=hr;exact ⟨b,vs,el,h1,h2,h3.map _ λc _=>LN hO h.heap Z c⟩
   |arr t l=>exact Y
   |map t l=>exact Y
  .subst J;exact Y
 .obtain⟨g,E,h0,_⟩:=d k o I;have:=h.own k E h0 p b X y;refine ⟨⟨this.1,λj hj q hq a7=>g ?_⟩,this.2⟩;obtain⟨oj,a8⟩:=hl j hj;rw[h.inj k j E oj h0 a8 p q b X hq y a7];exact hj
 .obtain⟨_,E,h0,_⟩:=d k o e1;obtain⟨_,aa,ab,_⟩:=d k' o' e2;exact h.inj k k' E aa h0 ab
 .obtain⟨o,J⟩:=hl k g;exact (h.own k o J p b X y).2.1.2 hF
def Ee {w O O' μ h} (J:ν w O w O') (hh:∀k o,h k=some o->bε w O μ k o) :
 ∀T {cs} {x} {rest} {I} {vs},dec h T cs=some (x,rest,I)->π (AQ w O μ) cs vs ->
  (∀k∈I,∀p b,μ k=some p->p.block=some b->¬O' b/\b<w.heap.size) ->
  ∃X v2,vs=X++v2/\Reads w O' T x X/\π (AQ w O μ) rest v2
 |.int k,cs,x,rest,I,vs,d,y,E=>by
  cases y with
  |nil=>simp[dec] at d
  |cons h1 g =>
   rename_i c v l m;cases c<;>simp[dec] at d;rename_i k' n;split at d
   .rename_i Y;simp at d;obtain⟨rfl,rfl,rfl⟩:=d;have:=J6 Y;subst this;obtain⟨rfl,hr⟩:=h1;exact ⟨[_],_,rfl,⟨rfl,hr⟩,g⟩
   .cases d
 |.bool,cs,x,rest,I,vs,d,y,E=>by
  cases y with
  |nil=>simp[dec] at d
  |cons h1 g =>rename_i c v l m;cases c<;>simp[dec] at d;obtain⟨rfl,rfl,rfl⟩:=d;have:= h1;subst this;exact ⟨[_],_,rfl,rfl,g⟩
 |.slice t,cs,x,rest,I,vs,d,y,E=>by
  cases y with
  |nil=>simp[dec] at d
  |cons h1 g =>
   rename_i c v l m;cases c<;>simp[dec] at d
   .rename_i t' l';split at d
    .rename_i Z hc;simp at d;obtain⟨rfl,rfl,rfl⟩:=d;obtain⟨rfl,rfl⟩:=Ea hc;exact ⟨[v],_,rfl,Ce J (μle.refl μ) _ h1,g⟩
    .cases d
   .obtain⟨rfl,rfl,rfl⟩:=d;obtain⟨a,rfl⟩:=h1;exact ⟨[_],_,rfl,⟨a,0,rfl,χ _,Qaw _,.inl rfl⟩,g⟩
   .rename_i k;split at d
    .rename_i t' l' ho;split at d
     .rename_i Z hc;simp at d;obtain⟨rfl,rfl,rfl⟩:=d;obtain⟨rfl,rfl⟩:=Ea hc;exact ⟨[v],_,rfl,Kf J (hh k _ ho) (E k (by simp)) h1,g⟩
     .cases d
    .cases d
   .rename_i k lo n;split at d
    .rename_i t' l' ho;split at d
     .rename_i Z hc;simp at d;obtain⟨rfl,rfl,rfl⟩:=d;obtain⟨rfl,rfl⟩:=Ea hc;exact ⟨[v],_,rfl,aV J (hh k _ ho) (E k (by simp)) h1,g⟩
     .cases d
    .cases d
 |.unit,cs,x,rest,I,vs,d,y,E=>by simp[dec] at d;obtain⟨rfl,rfl⟩:=d;exact ⟨[],vs,rfl,rfl,y⟩
 |.pair a b,cs,x,rest,I,vs,d,y,E=>by
  simp only[dec] at d;split at d
  .rename_i x1 r1 f1 h1;split at d
   .rename_i x2 r2 f2 g;simp at d;obtain⟨rfl,rfl,rfl⟩:=d;obtain⟨X,v2,rfl,a1,a6⟩:=Ee J hh a h1 y λk Y=>E k (by simp[Y]);obtain⟨v3,v4,rfl,a7,a8⟩:=Ee J hh b g a6 λk Y=>E k (by simp[Y]);exact ⟨X++v3,v4,by simp,⟨X,v3,rfl,a1,a7⟩,a8⟩
   .cases d
  .cases d
def GN {h:Nat->Option Ψ}:∀(T:Ty) {cs:List Cell} {x:T.δ} {rest:List Cell} {y:List Nat},dec h T cs=some (x,rest,y)->∀k∈y,∃t l,h k=some (.arr t l)
 |.int k,cs,x,rest,y,d=>by
  cases cs with
  |nil=>simp[dec] at d
  |cons c r=>cases c<;>simp[dec] at d;split at d<;>simp at d;obtain⟨_,_,rfl⟩:=d;simp
 |.bool,cs,x,rest,y,d=>by
  cases cs with
  |nil=>simp[dec] at d
  |cons c r=>cases c<;>simp[dec] at d;obtain⟨_,_,rfl⟩:=d;simp
 |.slice t,cs,x,rest,y,d=>by
  cases cs with
  |nil=>simp[dec] at d
  |cons c r =>
   cases c<;>simp[dec] at d
   .split at d<;>simp at d;obtain⟨_,_,rfl⟩:=d;simp
   .obtain⟨_,_,rfl⟩:=d;simp
   .split at d
    .rename_i t' l' I;split at d<;>simp at d;obtain⟨_,_,rfl⟩:=d;intro k' g;simp at g;subst g;exact ⟨t',l',I⟩
    .cases d
   .split at d
    .rename_i t' l' I;split at d<;>simp at d;obtain⟨_,_,rfl⟩:=d;intro k' g;simp at g;subst g;exact ⟨t',l',I⟩
    .cases d
 |.unit,cs,x,rest,y,d=>by simp[dec] at d;obtain⟨_,rfl⟩:=d;simp
 |.pair a b,cs,x,rest,y,d=>by
  simp only[dec] at d;split at d
  .rename_i X r1 Y h1;split at d
   .rename_i Z r2 f2 J;simp at d;obtain⟨_,_,rfl⟩:=d;intro k E;rcases List.mem_append.1 E with E|E
    .exact GN a h1 k E
    .exact GN b J k E
   .cases d
  .cases d
def Ia:List (Bool×Eff)->Option Eff
 |[]=>none
 |(b,e)::r=>if b then some e else Ia r
def υ.run:υ->Option Eff
 |.ok e=>some e
 |.chk b e=>if b then some e else none
 |.bind _ x f=>some (f x)
 |.opt _ o f=>o.map f
 |.alts l=>Ia l
def Bu {b c e} (h:(υ.chk b c).run=some e):b=true/\e=c:=by simp only[υ.run] at h<;>simp_all
def St.mem (R:RO) (st:St) (e:Eff):St:=St.after R st none e
def BL (B:Ξ) (R:RO) (st:St) (e:Eff) (μ:AI) (O:Nat->Prop) (w:World) (v:Value) (w':World):Prop :=
 ∃μ' O',Ev B R (st.mem R e) μ O w μ' O' w'/\(∀x u,BW w O μ x u->BW w' O' μ' (My (st.obj R) e.Γ x) u)/\∀x,e.dst=some x->BW w' O' μ' x v
def dε (P:Program) (o:Oper) (a:Act) (w:World) (Post:Value->World->Prop):Prop :=
 (∃v w',(execOp a.eval o).run P w=.ok (.value v) w'/\Post v w') \/
 (∃w',(execOp a.eval o).run P w=.ok .skip w'/\Post undef w') \/
 ∃f args,(execOp a.eval o).run P w=.ok (.enter f args) w/\Calls P f args w λe w'=>∃v,e=.returned v/\Post v w'
def dε.mono {P o a w Post c} (h:dε P o a w Post) (g:∀v w',Post v w'->c v w'):dε P o a w c:=by
 rcases h with ⟨v,w',d,h⟩|⟨w',d,h⟩|⟨f,args,d,h⟩
 .exact .inl ⟨v,w',d,g _ _ h⟩
 .exact .inr (.inl ⟨w',d,g _ _ h⟩)
 .exact .inr (.inr ⟨f,args,d,h.mono λe w' ⟨v,t,y⟩=>⟨v,t,g _ _ y⟩⟩)
def dε.wp {P o a w Post next Q} (h:dε P o a w Post)
 (d:∀v w',Post v w'->next (a.put o.dst v) w'):o.wp P a w next Q:=by
 unfold Oper.wp;rcases h with ⟨v,w',c,h⟩|⟨w',c,h⟩|⟨f,args,c,h⟩
 .rw[c];exact d _ _ h
 .rw[c];exact d _ _ h
 .rw[c];exact h.mono λe w' ⟨v,g,t⟩=>by simp_all
def CN (R:RO) (st:St) (μ:AI) (O:Nat->Prop) (w:World) (tmps:Array Value):Prop :=
 ∀s v,st.get R s=some v->BW w O μ v (tmps.getD s undef)
def Zl {w O μ v c} (h:cellOf v=some c):AQ w O μ c v:=by
 unfold cellOf at h;split at h
 .split at h
  .rename_i d;cases h;exact ⟨rfl,d⟩
  .cases h
 .cases h;rfl
 .cases h;exact ⟨none,rfl⟩
 .cases h;rfl
 .cases h
def K2 {w O μ}:∀ {vs} {cs},cellsOf vs=some cs->π (AQ w O μ) cs vs
 |[],cs,h=>by simp[cellsOf] at h;subst h;exact .nil
 |v::r,cs,h=>by
  simp only[cellsOf] at h;split at h
  .rename_i c l h1 d;cases h;exact .cons (Zl h1) (K2 d)
  .cases h
def mC {w O μ v x} (h:P4 v=some x):BW w O μ x v:=by
 unfold P4 at h;split at h
 .rename_i cs;cases d:cellsOf cs.toList with
  |none=>simp_all
  |some l=>rw[d] at h;cases h;exact ⟨_,rfl,K2 d⟩
 .cases h;exact ⟨_,rfl,rfl⟩
 .cases d:cellOf v with
  |none=>simp_all
  |some c=>rw[d] at h;cases h;exact Zl d
section
variable {B:Ξ} {R:RO} {st:St} {μ:AI} {O:Nat->Prop} {w:World} {a:Act} (hE:CN R st μ O w a.tmps)
include hE
def Bv {x v} (h:opv R st x=some v):BW w O μ v (a.eval x):=by
 cases x with
 |tmp t=>exact hE t v h
 |const c=>exact mC h
 |func f=>simp[opv] at h;subst h;exact ⟨#[],rfl,.nil⟩
 |global g=>simp[opv] at h
def AT {x c} (h:Ω R st x=some c):AQ w O μ c (a.eval x):=by
 unfold Ω at h;split at h
 .rename_i d h';cases h;exact Bv hE h'
 .cases h
def NM {x c} (h:op1 R st x=some c):Cl w O μ c (a.eval x):=by
 unfold op1 at h;split at h
 .rename_i d h';cases h;exact Bv hE h'
 .cases h
def NN:∀ {xs} {vs},Aε R st xs=some vs->π (Cl w O μ) vs (xs.map a.eval)
 |[],vs,h=>by simp[Aε] at h;subst h;exact .nil
 |x::r,vs,h=>by
  simp only[Aε] at h;split at h
  .rename_i v l h1 c;cases h;exact .cons (NM hE h1) (NN c)
  .cases h
def P2:∀ {xs} {vs},HI R st xs=some vs->π (AQ w O μ) vs (xs.map a.eval)
 |[],vs,h=>by simp[HI] at h;subst h;exact .nil
 |x::r,vs,h=>by
  simp only[HI] at h;split at h
  .rename_i v l h1 c;cases h;exact .cons (AT hE h1) (P2 c)
  .cases h
end
def Cn {h w O μ x u} (c:BW w O μ x u) (d:∀k o,h k=some o->bε w O μ k o):BW w O μ (My h [] x) u :=
 Qh (ν.refl w O) d (λk g=>by cases g) x c
def Zw {B R st μ O w e v} (c:ρ B R st μ O w) (g:e.upd=[]) (d:e.Γ=[]) (h:e.next=st.next)
 (t:∀x,e.dst=some x->BW w O μ x v):BL B R st e μ O w v w:=by
 refine ⟨μ,O,⟨μle.refl _,ν.refl _ _,?_,λ_ _ y=>.inl y⟩,λx u E=>by rw[d];exact Cn E c.heap,t⟩;refine c.congr (λk o I=>?_) ?_
 .simpa[St.mem,St.after,d,g,St.put,Bw,St.obj,St.Γ] using I
 .simp[St.mem,St.after,St.put,h]
def AX {P:Program} {B:Ξ} {R:RO} {st:St} {μ:AI} {O:Nat->Prop} {w:World} (c:ρ B R st μ O w) {o:Oper} {a:Act} {x:aε} {v:Value}
 (d:(execOp a.eval o).run P w=.ok (.value v) w) (g:BW w O μ x v) (rd:List Nat):dε P o a w (BL B R st {dst:=some x,reads:=rd,next:=st.next} μ O w) :=
 .inl ⟨v,w,d,Zw c rfl rfl rfl λy h=>by cases h;exact g⟩
def Vp {P t b} (h:El P t=some b) w:(isAgg t).run P w=.ok b w:=by
 unfold El at h;unfold isAgg;cases c:P.underlying t with
 |none=>simp[c] at h
 |some d =>rw[Sem.run_bind,run_underlying c w];cases d<;>simp_all
def fJ {b off pre v post} {w:World} (h:w.rangeAt b off (pre++v++post)):w.rangeAt b (off+pre.length) v:=λj x c=>by have d:= (List.getElem?_eq_some_iff.1 c).1;have:=h (pre.length+j) x (by grind)<;>grind
def ZQ {P w t b off us i} (c:El P t=some true) (hi:P.info? t=some i) (h:us.length=i.size) (y:w.rangeAt b off us) :
 (Instr.loadAt t (.pointer (some ⟨b,off,none⟩))).run P w=.ok (.agg us.toArray) w:=by
 unfold El at c;cases g:P.underlying t with
 |none=>simp[g] at c
 |some d =>refine run_loadAt_mid w b off t us d y g ?_ (by simp[hi,h])<;>grind
def IT {P w t b off u} (c:El P t=some false) (d:w.cell? ⟨b,off,none⟩=some u) :
 (Instr.loadAt t (.pointer (some ⟨b,off,none⟩))).run P w=.ok u w:=by simp[Instr.loadAt,Instr.sureAddr,loadVar,Vp c w,d]
def Na {P w O μ t cs y us b off} (h:H2 P t cs=some y) (d:π (AQ w O μ) cs us) (E:w.rangeAt b off us) :
 ∃v,(Instr.loadAt t (.pointer (some ⟨b,off,none⟩))).run P w=.ok v w/\Cl w O μ y v:=by
 unfold H2 at h;split at h
 .rename_i i hg hi;split at h
  .rename_i g;cases h;have I:= Qbe g;refine ⟨_,ZQ hg hi (us:=us.take i.size) (by rw[Qbn,<-d.length];omega) (IW E _),⟨_,rfl,?_⟩⟩;simpa using d.take i.size
  .cases h
 .rename_i i hg hi;split at h
  .rename_i c r;cases h;cases d with
   |cons h1 J=>exact ⟨_,IT hg (by simpa using E 0 _ rfl),h1⟩
  .cases h
 .cases h
def yV {P w O μ t T x us b off i} (hi:P.info? t=some i) (y:i.size=T.size) (hg:El P t=some T.isAgg)
 (d:Reads w O T x us) (g:w.rangeAt b off us):∃v,(Instr.loadAt t (.pointer (some ⟨b,off,none⟩))).run P w=.ok v w/\Cl w O μ (Ru T x) v:=by
 have h:=AW T d;refine ⟨valOf T us,?_,NB T d⟩;cases c:T.isAgg with
 |true =>rw[c] at hg;simp only[valOf,c];exact ZQ hg hi (by omega) g
 |false =>
  rw[c] at hg;simp only[valOf,c];cases us with
  |nil=>exfalso;cases T<;>simp[Ty.isAgg,Ty.size] at c h
  |cons u r=>exact IT hg (by simpa using g 0 u rfl)
def w8 {a b} (h:Bool.beq' a b=true):a=b:=by cases a<;>cases b<;>first|rfl|cases h
def NH {α:Type} {l:List α} {i} {x:α} (h:idx l i=some x):0<=i/\l[i.toNat]?=some x/\i.toNat<l.length:=by unfold idx at h<;>grind
def PV {w:World} {O:Nat->Prop} {μ:AI} {k:Nat} {t:Ty} {l:List t.δ} (h:bε w O μ k (.arr t l)) {i:Nat} {x:t.δ} (E:l[i]?=some x) :
 ∃b cap us vs e,μ k=some (.arr (some ⟨b,0,none⟩) l.length cap t.size)/\w.heap[b]?=some (.cells vs e (0,0))/\vs.size=cap*t.size/\l.length<=cap/\cap≠0/\Reads w O t x us/\w.rangeAt b (i*t.size) us:=by
 obtain⟨a,cap,e,X,hm,I⟩:=h;have hi:=(List.getElem?_eq_some_iff.1 E).1;rcases I with I|⟨b,vs,el,Y,J,Z,d⟩
 .omega
 .subst Y;obtain⟨pre,v,post,ev,hp,hv,y⟩:=ξ.get (λx vs=>AW t) d E;refine ⟨b,cap,v,vs,el,e,J,Z,X,by omega,y,?_⟩;have c:w.rangeAt b 0 (vs.toList.take (l.length*t.size)):=λj u g=>by
   rw[Qbg] at g;split at g
   .simp at g;simp[World.cell?,J,g]
   .cases g
  rw[ev] at c;have:=fJ c;rwa [hp,Qbm] at this
def Pb:∀T x,(enc T x).length=T.size
 |.int _,_=>rfl
 |.bool,_=>rfl
 |.slice _,_=>rfl
 |.unit,_=>rfl
 |.pair a b,x=>by simp only[enc,Qau,Pb a,Pb b,Ty.size]
def Ab5 {P t cs ds v} (h:H2 P t cs=some v) (c:cs.length=ds.length):∃u,H2 P t ds=some u:=by unfold H2 at h ⊢<;>grind
def q9 {P B R st μ O w a o t x out e} (J:ρ B R st μ O w) (hE:CN R st μ O w a.tmps) (ho:o.op=.load t x)
 (h:Gf P R st t (opv R st x)=some out) (I:out.run=some e):dε P o a w (BL B R st e μ O w):=by
  have d:∀v,(Instr.loadAt t (a.eval x)).run P w=.ok v w->(execOp a.eval o).run P w=.ok (.value v) w:=λv E=>by simp[execOp,ho,E]
  unfold Gf at h;split at h
  .rename_i k off X;have E:= Bv hE X;split at h
   .rename_i cs hk;split at h
    .rename_i Y ht;cases h;cases I;obtain⟨b,hb,ev⟩:=E;obtain⟨b',vs,el,a6,hc,ha⟩:=J.heap k _ hk;rw[hb] at a6;cases a6;obtain⟨v,E,Z⟩:=Na (b:=b) (off:=off) ht (ha.drop off) (by have:=KO (JK hc) off<;>simp_all);exact AX J (d v (by simp_all)) (x:=.v Y) Z [k]
    .cases h
   .cases h
  .rename_i k i X;have E:= Bv hE X;split at h
   .rename_i T l inf hk a7;split at h
    .rename_i g aa hg;split at h
     .rename_i hb;cases h;have ab:=w8 hb;subst ab;cases hq:idx l i with
      |none=>rw[υ.run,hq] at I;cases I
      |some y =>rw[υ.run,hq] at I;cases I;obtain⟨h0,hy,ae⟩:=NH hq;obtain⟨b,len,cap,sz,e1,_,_,ev⟩:=E;obtain⟨b',a8,us,vs,el,e2,hc,hs,af,ag,a1,c⟩:=PV (J.heap k _ hk) hy;rw[e1] at e2;cases e2;obtain⟨v,E,Z⟩:=yV a7 (beq_true aa) hg a1 c;exact AX J (d v (by simp_all)) (x:=.v (Ru T y)) Z [k]
     .cases h
    .cases h
   .cases h
  .rename_i cs X;have E:= Bv hE X;split at h
   .rename_i Y ht;cases h;cases I;obtain⟨b,off,us,ev,hO,hb,c,ha⟩:=E;obtain⟨v,E,Z⟩:=Na ht ha c;exact AX J (d v (by simp_all)) (x:=.v Y) Z []
   .cases h
  .rename_i f b cs X;obtain⟨ad,off,u,ev,hO,hb,hc,hf⟩:BW w O μ (.fnp (f,b,cs)) (a.eval x):=Bv hE X;split at h
   .rename_i hg;cases h;cases I;have hl:(Instr.loadAt t (a.eval x)).run P w=.ok u w:=by rw[ev];exact IT hg hc
    cases b with
    |true=>exact AX J (d u hl) (x:=.bfn f cs) hf []
    |false=>exact AX J (d u hl) (x:=.fn f cs) hf []
   .cases h
  .rename_i k i off X;have E:= Bv hE X;split at h
   .rename_i T l hk;split at h
    .rename_i v0 ah;cases h;cases hq:idx l i with
     |none=>rw[υ.run,hq] at I;cases I
     |some y =>
      rw[υ.run,hq] at I;cases I;obtain⟨h0,hy,ae⟩:=NH hq;obtain⟨b,len,cap,sz,e1,_,_,ev⟩:=E;obtain⟨b',a8,us,vs,el,e2,hc,hs,af,ag,a1,c⟩:=PV (J.heap k _ hk) hy;rw[e1] at e2;cases e2;obtain⟨Y,ht⟩:∃Y,H2 P t ((enc T y).drop off)=some Y:=Ab5 ah (by rw[Qdj,Qdj,Pb,Pb]);obtain⟨v,E,Z⟩:=Na ht ((Fw T a1).drop off) (KO c off);refine AX J (d v (by rw[ev];exact E)) (x:=.v Y) Z [k] |>.mono λv w' hh=>?_
      show BL B R st {dst:=(H2 P t ((enc T y).drop off)).map .v,reads:=[k],next:=st.next} μ O w v w';rw[ht];exact hh
    .cases h
   .cases h
  .cases h
def PC {h ks s}:∀ {e},assoc (Qg h ks e) s=(assoc e s).map (Option.map (My h ks))
 |[]=>rfl
 |(a,v)::r=>by simp only[Qg];rw[AE,AE,PC]<;>grind
def Gr {B R st μ O w} (c:ρ B R st μ O w) ks (d:∀k∈ks,mε R k=true) (y:∀k∈ks,∃o,st.obj R k=some o) :
 ∃O1,ρ B R (st.Γ R ks) μ O1 w/\ν w O w O1/\(∀k∈ks,∀p b,μ k=some p->p.block=some b->¬O1 b/\b<w.heap.size) /\
  ∀x u,BW w O μ x u->BW w O1 μ (My (st.obj R) ks x) u:=by
 cases ks with
 |nil=>exact ⟨O,c,ν.refl _ _,(λk E=>by cases E),λx u g=>Cn g c.heap⟩
 |cons k r =>obtain⟨O1,h1,h,t⟩:=c.freeze (k::r) d y (Qg (st.obj R) (k::r) st.env);exact ⟨O1,h1,h,t,λx u g=>Qh h c.heap t x g⟩
def Dx R (st:St) ks:(st.Γ R ks).next=st.next:=by cases ks<;>rfl
def uW {R ks k t l} {st:St} (h:st.obj R k=some (.arr t l)) (c:k∉ks):(st.Γ R ks).obj R k=some (.arr t l):=by
 cases ks with
 |nil=>exact h
 |cons j r =>
  simp only[St.Γ,St.obj,F7,if_neg c];simp only[St.obj] at h;cases d:assoc st.heap k with
  |some o=>rw[d] at h;cases h;rfl
  |none=>simp_all
def BR {B R st μ O O1 w e v w' μ' O'} (d:ν w O w O1)
 (g:∀x u,BW w O μ x u->BW w O1 μ (My (st.obj R) e.Γ x) u)
 (c:Ev B R {env:=(st.Γ R e.Γ).env,heap:=Bw e.upd (st.Γ R e.Γ).heap,next:=e.next} μ O1 w μ' O' w') (h:∀x,e.dst=some x->BW w' O' μ' x v):BL B R st e μ O w v w' :=
 ⟨μ',O',⟨c.le,d.trans c.keeps,c.mem,c.new⟩,λx u t=>D3 c.keeps c.le _ (g x u t),h⟩
def Kd {R e} (h:JD R e=true):∀k∈e.Γ,mε R k=true:=by intro k c;have:=List.all_eq_true.1 h k c;unfold mε;exact this
def RW {P w O μ t b off cur el i x v} (hi:P.info? t=some i) (E:Cl w O μ x v) (I:x.cells.length=i.size)
 (J:w.heap[b]?=some (.cells cur el (0,0))) (y:off+x.cells.length<=cur.size) :
 (Instr.storeAt t (.pointer (some ⟨b,off,none⟩)) v).run P w=.ok () (w.setRow b (cur.toList.take off++v.cells.toList++cur.toList.drop (off+x.cells.length)).toArray):=by
 have g:=Gx x E;have d:v.cells.size=i.size:=by rw[<-Qat,<-g.length,I]
 have:=run_storeCells_at P b off el v.cells.toList 0 cur w J (by simp_all) (g.right λc u h=>VP c h);simp only[Qfq,<-g.length] at this;simp[Instr.storeAt,Instr.sureAddr,storeVar,sizeOf,typeInfo,hi,d,this]
def below_setRow {n} w b cs (h:n<=b):Below n w (w.setRow b cs) :=
 ⟨rfl,rfl,rfl,by simp,λk c=>setRow_other w b k cs (by omega)⟩
def aH {w O μ cs vs us xs off} (h:π (AQ w O μ) cs us) (c:π (AQ w O μ) vs xs) :
 π (AQ w O μ) (splice cs off vs) (us.take off++xs++us.drop (off+vs.length)):=by unfold splice;exact ((h.take off).append c).append (h.drop _)
def KF {w O O' μ h T d v x g} (t:ν w O w O') (E:∀k o,h k=some o->bε w O μ k o) (c:GM h T d=some (x,g)) (I:Cl w O μ d v)
 (J:∀k∈g,∀p b,μ k=some p->p.block=some b->¬O' b/\b<w.heap.size):Reads w O' T x v.cells.toList:=by
 unfold GM at c;split at c
 .rename_i y f X;cases c;obtain⟨Z,a2,e,hr,Y⟩:=Ee t E T X (Gx d I) J;cases Y<;>simp_all
 .cases c
def JN {h T g x d} (c:GM h T g=some (x,d)):∀k∈d,∃t l,h k=some (.arr t l):=by
 unfold GM at c;split at c
 .rename_i y f E;cases c;exact GN T E
 .cases c
def rC {w O μ k T l i y b cap vs el us n} (h:bε w O μ k (.arr T l))
 (e1:μ k=some (.arr (some ⟨b,0,none⟩) l.length cap T.size)) (Y:cap≠0) (hc:w.heap[b]?=some (.cells vs el (0,0))) (ab:i.toNat<l.length) (Z:n=T.size) (E:Reads w O T y us) (a1:us.length=T.size)
 (t:ν w O (w.setRow b (vs.toList.take (i.toNat*T.size)++us++vs.toList.drop (i.toNat*T.size+n)).toArray) O) :
 bε (w.setRow b (vs.toList.take (i.toNat*T.size)++us++vs.toList.drop (i.toNat*T.size+n)).toArray) O μ k (.arr T (AB l i y)):=by
 subst Z;obtain⟨a2,a7,e3,d,a6,c⟩:=h;rw[e1] at e3;cases e3;rcases c with hz|⟨b2,ad,ae,I,J,af,c⟩
 .exact absurd hz Y
 .simp at I;subst I;rw[hc] at J;cases J;have a8:i.toNat*T.size+T.size<=l.length*T.size:=by have:(i.toNat+1)*T.size<=l.length*T.size:=Qco _ (by omega)<;>grind
  have aa:vs.toList.length=vs.size:=Qat;have ag:l.length*T.size<=vs.toList.length:=by have:=Qco T.size d;omega
  refine ⟨_,cap,by simpa[AB] using e1,by simpa[AB] using d,a6,.inr ⟨b,_,el,rfl,setRow_heap w b vs _ el _ hc,?_,?_⟩⟩
  .simp;omega
  .have g:=ξ.mono (λx vs=>Av t T) (ξ.set (λx vs=>AW T) c (i:=i.toNat) (x:=y) (by omega) E);have X:List.take ((AB l i y).length*T.size) (vs.toList.take (i.toNat*T.size)++us++vs.toList.drop (i.toNat*T.size+T.size)).toArray.toList =
    (vs.toList.take (l.length*T.size)).take (i.toNat*T.size)++us++(vs.toList.take (l.length*T.size)).drop (i.toNat*T.size+T.size):=by
    simp only[AB,Qfr]
    rw[Qdu,Qdu,Qau,Qbn,a1]
    rw[Qer (by omega)]
    rw[Qfw,Qfw,Nat.min_eq_right (by omega),Qer (by omega)]
    rw[Qas (l:=us) (by omega)]
    rw[List.drop_take]
    try (congr 2;omega)
   simp only[AB] at g X ⊢;rw[X];exact g
def m7 {i} (h:isZ i=true):i=0:=by unfold isZ at h<;>grind
def Zp {w O O' μ h T} (I:ν w O w O') (J:∀k o,h k=some o->bε w O μ k o) :
 ∀(n:Nat) {cs:List Cell} {xs:List T.δ} {d:List Nat} {vs:List Value},KW h T n cs=some (xs,d)->π (AQ w O μ) cs vs ->
  (∀k∈d,∀p b,μ k=some p->p.block=some b->¬O' b/\b<w.heap.size)->ξ (Reads w O' T) xs vs/\xs.length=n
 |0,[],xs,d,vs,c,t,_=>by simp[KW] at c;obtain⟨rfl,rfl⟩:=c;cases t;exact ⟨rfl,rfl⟩
 |0,_::_,xs,d,vs,c,_,_=>by simp[KW] at c
 |n+1,cs,xs,d,vs,c,t,X=>by
  simp only[KW] at c;split at c
  .rename_i x r f h1;split at c
   .rename_i ys g Y;cases c;obtain⟨Z,v2,rfl,hr,y⟩:=Ee I J T h1 t λk E=>X k (by simp[E]);obtain⟨h3,h4⟩:=Zp I J n Y y λk E=>X k (by simp[E]);exact ⟨⟨Z,v2,rfl,hr,h3⟩,by simp[h4]⟩
   .cases c
  .cases c
def eG {h T}:∀n {cs} {xs} {d},KW h T n cs=some (xs,d)->∀k∈d,∃t l,h k=some (.arr t l)
 |0,[],xs,d,c=>by simp[KW] at c<;>simp_all
 |0,_::_,xs,d,c=>by simp[KW] at c
 |n+1,cs,xs,d,c=>by
  simp only[KW] at c;split at c
  .rename_i x r f h1;split at c
   .rename_i ys g E;cases c;intro k y;rcases List.mem_append.1 y with y|y
    .exact GN T h1 k y
    .exact eG n E k y
   .cases c
  .cases c
def lC {P B R st μ O w a o t x y v1 out e} (hM:ρ B R st μ O w) (hE:CN R st μ O w a.tmps) (ho:o.op=.store t x y)
 (hy:op1 R st y=some v1) (h:GI P R st t (opv R st x) v1=some out) (he:out.run=some e) (al:JD R e=true):dε P o a w (BL B R st e μ O w):=by
  have J:= NM hE hy;have a1:∀w',(Instr.storeAt t (a.eval x) (a.eval y)).run P w=.ok () w'->(execOp a.eval o).run P w=.ok .skip w':=λw' hv=>by simp[execOp,ho,hv]
  unfold GI at h;split at h
  .cases h
  rename_i inf a6;split at h
  .cases h
  rename_i g;have g:=beq_true g;split at h
  .rename_i k off hx;split at h
   .rename_i cs hk;split at h
    .rename_i ag;cases h;cases he;have d:st.obj R k=some (.box cs):=by simp[St.obj,hk]
     obtain⟨b,hb,ev⟩:=Bv hE hx;obtain⟨b',vs,el,an,Z,ha⟩:=hM.heap k _ d;rw[hb] at an;cases an;have hs:=RW a6 J g Z (by rw[<-Qat,<-ha.length];exact Qbe ag);refine .inr (.inl ⟨_,a1 _ (by rw[ev];exact hs),?_⟩);refine BR (ν.refl _ _) (λx u hx=>Cn hx hM.heap) (μ':=μ) (O':=O) ?_ (λx hx=>by cases hx);refine hM.write d hb rfl (.box (splice cs off v1.cells)) (by simp) (λc Z=>setRow_other w b c _ Z) (below_setRow w b _ (hM.own k _ d _ b hb rfl).2.1.1) (λE=>?_) st.env;refine ⟨b,_,el,hb,setRow_heap w b vs _ el _ Z,?_⟩;have:=(aH (off:=off) ha (Gx v1 J)).mono λc u=>Ce E (μle.refl _) c<;>omega
    .cases h
   .cases h
  .rename_i k i hx;have hv:= Bv hE hx;split at h
   .rename_i T l hk;split at h
    .rename_i y' fz ao X;have ao:=beq_true ao;split at h
     .rename_i a7;cases h;cases hq:idx l i with
      |none=>rw[υ.run,hq] at he;cases he
      |some old =>
       rw[υ.run,hq] at he;cases he;obtain⟨h0,aw,az⟩:=NH hq;have d:st.obj R k=some (.arr T l):=by simp[St.obj,hk]
       obtain⟨O1,ah,a8,ak,aa⟩:=Gr hM fz (Kd al) (λj hj=>by obtain⟨t',l',e⟩:=JN X j hj<;>simp_all);have I:=uW d (λhm=>by rw[any_beq.2 hm] at a7;cases a7);obtain⟨b,len,cap,sz,e1,_,_,ev⟩:=hv;obtain⟨b',aq,us,vs,el,e2,Z,hs,ag,ai,aB,av⟩:=PV (hM.heap k _ d) aw;rw[e1] at e2;cases e2;have ab:v1.cells.length=T.size:=by omega
       have ae:i.toNat*T.size+v1.cells.length<=vs.size:=by rw[hs,ab];have:(i.toNat+1)*T.size<=cap*T.size:=Qco _ (by omega)<;>grind
       refine .inr (.inl ⟨_,a1 _ (by rw[ev];exact RW (P:=P) (off:=i.toNat*T.size) a6 J g Z ae),?_⟩);have Y:(Place.arr (some ⟨b,0,none⟩) l.length cap T.size).block=some b:=by simp[Place.block,ai]
       refine BR a8 aa (μ':=μ) (O':=O1) ?_ (λx hx=>by cases hx);have hW:=ah.write I e1 Y (.arr T (AB l i y')) (by simp) (λc Z=>setRow_other w b c _ Z) (below_setRow w b _ (hM.own k _ d _ b e1 Y).2.1.1)
        (λE=>rC (ah.heap k _ I) e1 ai Z (by omega) ab (KF a8 hM.heap X J ak) (by rw[<-(Gx v1 J).length,ab]) E) (st.Γ R fz).env;rw[Dx] at hW;exact hW
     .cases h
    .unfold Ho at h;split at h
     .rename_i n T' ay;split at h
      .rename_i xs fz hz hn X;have hn:=beq_true hn;have hz:=m7 hz;subst hz;split at h
       .rename_i a7;cases h;simp only[υ.run] at he;split at he
        .rename_i ar;cases he;have ar:(l.length:Int)=n:=by simpa[eqI,Aa] using ar
         have d:st.obj R k=some (.arr T l):=by simp[St.obj,hk]
         obtain⟨O1,ah,a8,ak,aa⟩:=Gr hM fz (Kd al) (λj hj=>by obtain⟨t',l',e⟩:=eG n X j hj<;>simp_all);have I:=uW d (λhm=>by rw[any_beq.2 hm] at a7;cases a7);obtain⟨b,len,cap,sz,e1,aP,b0,ev⟩:=hv;obtain⟨ad,aq,e2,ag,hm,aj⟩:=hM.heap k _ d;rw[e1] at e2;cases e2;rcases aj with b1|⟨b',vs,el,ea,Z,hs,aj⟩
         .omega
         simp only[Qaf,Addr.mk.injEq,and_true] at ea;subst ea;have af:n=l.length:=by omega
         have ae:0+v1.cells.length<=vs.size:=by rw[hs,g,hn,af,Qbm];exact Qco _ ag
         refine .inr (.inl ⟨_,a1 _ (by rw[ev,show Int.toNat 0*T.size=0 by simp];exact RW (P:=P) (off:=0) a6 J g Z ae),?_⟩);have ai:cap≠0:=by omega
         have Y:(Place.arr (some ⟨b,0,none⟩) l.length cap T.size).block=some b:=by simp[Place.block,ai]
         refine BR a8 aa (μ':=μ) (O':=O1) ?_ (λx hx=>by cases hx);obtain⟨ax,au⟩:=Zp a8 hM.heap n X (Gx v1 J) ak;have ab:(a.eval y).cells.toList.length=n*T.size:=by rw[<-(Gx v1 J).length,g,hn]
         have hW:=ah.write (w':=w.setRow b (vs.toList.take 0++(a.eval y).cells.toList++vs.toList.drop (0+v1.cells.length)).toArray) I e1 Y (.arr T xs) (by simp) (λc Z=>setRow_other w b c _ Z) (below_setRow w b _ (hM.own k _ d _ b e1 Y).2.1.1)
          (λE=>⟨_,cap,by rw[e1,au,af],by omega,hm,.inr ⟨b,_,el,rfl,setRow_heap w b vs _ el _ Z,by simp;simp at ab;omega,by have:=ξ.mono (λx vs=>Av E T) ax;simp only[List.take_zero,Qaz];rw[Qeo,au,Qea (by omega),Qas (by omega)];exact this⟩⟩) (st.Γ R fz).env;rw[Dx] at hW;exact hW
        .cases he
       .cases h
      .cases h
     .cases h
    .cases h
   .cases h
  .cases h
section
variable {P:Program} {B:Ξ} {R:RO} {st:St} {μ:AI} {O:Nat->Prop} {w:World} {a:Act}
def Abr {cs vs} (E:ρ B R st μ O w) (I:¬B.D st.next) (h:π (AQ w O μ) cs vs.toList) el :
 BL B R st {dst:=some (.v (.c (.ptr st.next 0))),upd:=[(st.next,some (.box cs))],next:=st.next+1} μ O w (.pointer (some ⟨w.heap.size,0,none⟩)) (w.alloc (.cells vs el)):=by
 obtain⟨μ',O',d,g⟩:=E.alloc I (.cells vs el) (.box w.heap.size) (.box cs) (.inr rfl)
  (λO' μ' J t g=>⟨w.heap.size,vs,el,g,heap_alloc_new w _,h.mono λc u=>Ce J t c⟩) st.env;exact BR (ν.refl _ _) (λx u y=>Cn y E.heap) d λx y=>by cases y;exact ⟨_,g,rfl⟩
def wI {o t x v} (d:ρ B R st μ O w) (g:¬B.D st.next) (y:CN R st μ O w a.tmps) (E:o.op=.box t x) (h:op1 R st x=some v) :
 dε P o a w (BL B R st {dst:=some (.v (.c (.ptr st.next 0))),upd:=[(st.next,some (.box v.cells))],next:=st.next+1} μ O w):=by refine .inl ⟨_,_,?_,Abr d g (Gx v (NM y h)) t⟩;simp[execOp,E,Instr.box,newVar,newRow]
def Vf:∀us n off (cells:Array Value),off+n+us.length<=cells.size ->
 ((us.zipIdx n).foldl (λcs (x:Value×Nat)=>cs.setIfInBounds (off+x.2) x.1) cells).toList=cells.toList.take (off+n)++us++cells.toList.drop (off+n+us.length)
 |[],n,off,cells,h=>by simp
 |u::r,n,off,cells,h=>by simp only[Qay] at h;rw[List.zipIdx_cons,Qfs,Vf r (n+1) off _ (by simp;omega)];simpa[Qem,Nat.add_assoc,Qgh 1] using list_seg_step cells.toList (off+n) u r (by simp;omega)
def X1 {place}:∀ {parts} {ps} {cs d} {vs},
 WD place cs parts=some d->π (λ(p:Nat×V1) (q:Nat×Value)=>p.1=q.1/\Cl w O μ p.2 q.2) parts ps->π (AQ w O μ) cs vs.toList ->
 ∃g,Instr.fill place vs ps=some g/\π (AQ w O μ) d g.toList
 |[],ps,cs,d,vs,h,I,E=>by cases I;simp[WD] at h;subst h;exact ⟨vs,rfl,E⟩
 |(i,X)::r,ps,cs,d,vs,h,I,E=>by
  cases I with
  |cons h1 h2 =>
   rename_i q m;obtain⟨j,v⟩:=q;obtain⟨y,hv⟩:=h1;simp only at y;subst y;simp only[WD] at h;split at h
   .cases h
   .rename_i off size J;split at h
    .rename_i t;simp only[Qab] at t;have hs:=beq_true t.1;have hf:=Qbe t.2;have Y:=Gx X hv;have a1:v.cells.size=X.cells.length:=by rw[<-Qat,<-Y.length]
     have a6:vs.size=cs.length:=by rw[<-Qat,<-E.length]
     have Z:=Vf v.cells.toList 0 off vs (by simp_all);obtain⟨g,e,ha⟩:=X1 (vs:=v.cells.zipIdx.foldl (λcs (c,j)=>cs.setIfInBounds (off+j) c) vs) h h2 (by have:=aH (off:=off) E Y;rw[<-Qga,Qfv]<;>simp_all);refine ⟨g,?_,ha⟩;simp only[Instr.fill,J]<;>simp_all
    .cases h
def TJ (c:CN R st μ O w a.tmps):∀ {ps} {vs},Fl R st ps=some vs ->
 π (λ(p:Nat×V1) (q:Nat×Value)=>p.1=q.1/\Cl w O μ p.2 q.2) vs (ps.map λx=>(x.1,a.eval x.2))
 |[],vs,h=>by simp[Fl] at h;subst h;exact .nil
 |(i,x)::r,vs,h=>by
  simp only[Fl] at h;split at h
  .rename_i v l h1 d;cases h;exact .cons ⟨rfl,NM c h1⟩ (TJ c d)
  .cases h
def kK {o t ps l out e} (hM:ρ B R st μ O w) (hE:CN R st μ O w a.tmps) (ho:o.op=.build t ps) (hl:Fl R st ps.toList=some l)
 (h:Mj P st t l=some out) (Z:out.run=some e):dε P o a w (BL B R st e μ O w):=by
  have hp:=TJ hE hl;have fin:∀cells cs,P.built t (ps.map λ(i,x)=>(i,a.eval x)).toList=some cells->π (AQ w O μ) cs cells.toList->dε P o a w (BL B R st (Eff.val st (.v (.a cs))) μ O w):=λcells cs hb hc=>by refine AX hM (x:=.v (.a cs)) ?_ ⟨_,rfl,hc⟩ [];simp only[execOp,ho,Sem.run_bind,run_build w t _ cells hb,Result.andThen_ok,Sem.run_pure]
  have hps:(ps.map λ(i,x)=>(i,a.eval x)).toList=ps.toList.map λx=>(x.1,a.eval x.2):=by simp
  unfold Mj Oq at h;split at h
  .rename_i z fs c I;split at c
   .rename_i it d;split at c
    .rename_i zv g;split at h
     .rename_i places J;split at h
      .rename_i cs X;cases h;cases Z;obtain⟨y,e1,Y⟩:=X1 X hp (K2 c);refine fin y cs ?_ Y;simp only[Program.built,d,I,g,J,hps]<;>simp_all
      .cases h
     .cases h
    .cases c
   .cases c
  .rename_i z n e' c I;split at c
   .rename_i it d;split at c
    .rename_i zv g;split at h
     .rename_i inf E;split at h
      .rename_i cs X;cases h;cases Z;obtain⟨y,e1,Y⟩:=X1 X hp (K2 c);refine fin y cs ?_ Y;simp only[Program.built,d,I,g,E,hps]<;>omega
      .cases h
     .cases h
    .cases c
   .cases c
  .cases h
def Nf:∀T {vs rest},Lj T vs=some rest->∃us,vs=us++rest/\Reads w O T (Dp T) us
 |.int k,vs,rest,h=>by
  unfold Lj at h;split at h<;>try (cases h;done)
  all_goals first
   |(rename_i c;cases c;done)
   |(rename_i k' d r c
     cases c
     split at h
     .rename_i g;cases h;have:=J6 g;subst this;exact ⟨[_],rfl,rfl,by cases k<;>decide⟩
     .cases h)
 |.bool,vs,rest,h=>by
  unfold Lj at h;split at h<;>try (cases h;done)
  all_goals first
   |(rename_i c _;cases c;done)
   |(rename_i c;cases c;done)
   |(cases h;exact ⟨[_],rfl,rfl⟩)
 |.slice t,vs,rest,h=>by
  unfold Lj at h;split at h<;>try (cases h;done)
  all_goals first
   |(rename_i c;cases c;done)
   |(cases h;exact ⟨[_],rfl,none,0,rfl,χ _,Qaw _,.inl rfl⟩)
 |.unit,vs,rest,h=>by simp only[Lj] at h;cases h;exact ⟨[],rfl,rfl⟩
 |.pair p q,vs,rest,h=>by
  simp only[Lj] at h;split at h
  .rename_i r h1;obtain⟨u1,y,r1⟩:=Nf p h1;obtain⟨u2,E,r2⟩:=Nf q h;exact ⟨u1++u2,by rw[y,E,Qaq],u1,u2,rfl,r1,r2⟩
  .cases h
end
def tε {k n}:inR k n=true↔k.min<=n/\n<=k.max:=by simp[inR]
def EV k n:inR k (k.wrap n)=true:=by rw[tε];cases k<;>simp only[IntKind.wrap,IntKind.min,IntKind.max,IntKind.bits,IntKind.signed]<;>simp<;>(try split)<;>omega
def qM {k n} (h:inR k n=true):k.wrap n=n:=by rw[tε] at h;cases k<;>simp only[IntKind.wrap,IntKind.min,IntKind.max,IntKind.bits,IntKind.signed] at h ⊢<;>simp at h ⊢<;>(try split)<;>omega
def PE {n} (h:n<=maxLen):inR .i64 (n:Int)=true:=by rw[tε];simp only[maxLen] at h;simp only[IntKind.min,IntKind.max,IntKind.bits,IntKind.signed];omega
section
variable {P:Program} {B:Ξ} {R:RO} {st:St} {μ:AI} {O:Nat->Prop} {w:World} {a:Act}
def Gq {e T} (h:K3 P e T=true):∃i z,P.info? e=some i/\i.zero=some z/\i.size=T.size/\0<T.size/\∀w O,Reads w O T (Dp T) z.cells.toList:=by
 unfold K3 at h;split at h
 .rename_i i hi;split at h
  .rename_i v h1 c d;have h1:=beq_true h1;have c:=beq_false c;split at h
   .rename_i g;refine ⟨i,v,hi,d,h1,by omega,λw O=>?_⟩;obtain⟨us,t,y⟩:=Nf (w:=w) (O:=O) T g<;>simp_all
   .cases h
  .cases h
 .cases h
def Mn {T l vs el cap O1 O' μ' k} (c:ξ (Reads w O1 T) l (vs.toList.take (l.length*T.size))) (d:l.length<=cap) (g:cap<=maxLen) (h:vs.size=cap*T.size)
 (t:ν w O1 (w.alloc (.cells vs el)) O') (y:μ' k=some (.arr (some ⟨w.heap.size,0,none⟩) l.length cap T.size)):bε (w.alloc (.cells vs el)) O' μ' k (.arr T l) :=
  ⟨_,cap,y,d,g,.inr ⟨w.heap.size,vs,el,rfl,heap_alloc_new w _,h,c.mono λ_ _=>Av t T⟩⟩
def Abq {T l vs cap} (Z:ρ B R st μ O w) (hD:¬B.D st.next) d rd (J:∀k∈d,mε R k=true) (hl:∀k∈d,∃o,st.obj R k=some o) el
 (g:∀O1,ν w O w O1->(∀k∈d,∀p b,μ k=some p->p.block=some b->¬O1 b/\b<w.heap.size)->ξ (Reads w O1 T) l (vs.toList.take (l.length*T.size))) (h:l.length<=cap) (hm:cap<=maxLen) (hs:vs.size=cap*T.size) :
 BL B R st {dst:=some (.v (.c (.ref st.next))),upd:=[(st.next,some (.arr T l))],Γ:=d,reads:=rd,next:=st.next+1} μ O w (.slice (some ⟨w.heap.size,0,none⟩) l.length cap) (w.alloc (.cells vs el)):=by
 obtain⟨O1,X,t,Y,y⟩:=Gr Z d J hl;obtain⟨μ',O',E,I⟩:=X.alloc (by rw[Dx];exact hD) (.cells vs el) (.arr (some ⟨w.heap.size,0,none⟩) l.length cap T.size) (.arr T l) (by simp only[Place.block]<;>grind)
  (λO' μ' hk a1 I=>by rw[Dx] at I ⊢;exact Mn (g O1 t Y) h hm hs hk I) (st.Γ R d).env;rw[Dx] at E I;exact BR t y E λx hx=>by cases hx;exact ⟨_,_,_,_,I,rfl⟩
def Wn {T}:∀n {vs},T8 T n vs=true->ξ (Reads w O T) (List.replicate n (Dp T)) vs
 |0,[],_=>rfl
 |0,_::_,h=>by cases h
 |n+1,vs,h=>by
  simp only[T8] at h;split at h
  .rename_i r c;obtain⟨us,e,h1⟩:=Nf T c;exact ⟨us,r,e,h1,Wn n h⟩
  .cases h
def wS {t n T} (h:jM P t=some (n,T)):3<=n/\n<=65536/\0<T.size:=by
 unfold jM at h;split at h
 .split at h
  .rename_i h1 d _;split at h
   .rename_i c;cases h;obtain⟨_,_,_,_,_,g,_⟩:=Gq c<;>simp_all
   .cases h
  .cases h
 .cases h
def YV {o t out e} (y:ρ B R st μ O w) (hD:¬B.D st.next) (ho:o.op=.alloc t) (h:Hk P st t=some out) (he:out.run=some e):dε P o a w (BL B R st e μ O w):=by
 unfold Hk at h;split at h
 .rename_i n T d;obtain⟨n3,n6,hT⟩:=wS d;split at h
  .rename_i i hi;split at h
   .rename_i v E;split at h
    .rename_i I;cases h;cases he;have g:=λO1=>Wn (w:=w) (O:=O1) (T:=T) n I;have J:v.cells.size=n*T.size:=by have:=ξ.length (λx vs=>AW T) (g O)<;>simp_all
     have hl:Ay (n:Int) (Dp T)=List.replicate n (Dp T):=by simp[Ay]
     have X:(Ay (n:Int) (Dp T)).length=n:=by simp_all
     refine .inl ⟨.pointer (some ⟨w.heap.size,0,none⟩),w.alloc (.cells v.cells t),?_,?_⟩
     .simp[execOp,ho,Instr.alloc,zeroValue,typeInfo,hi,E,newVar,newRow]
     .obtain⟨μ',O',Y,Z⟩:=y.alloc hD (.cells v.cells t) (.arr (some ⟨w.heap.size,0,none⟩) (Ay (n:Int) (Dp T)).length n T.size) (.arr T (Ay (n:Int) (Dp T))) (by simp only[Place.block]<;>grind)
       (λO' μ' hk a1 Z=>Mn (O1:=O) (by rw[X,Qas (by simp_all),hl];simp_all) (by omega) (by unfold maxLen;omega) J hk Z) st.env;refine BR (ν.refl _ _) (λx u hx=>Cn hx y.heap) Y λx hx=>?_;cases hx;exact ⟨_,_,_,_,Z,Qbb _,by omega,by simp⟩
    .cases h
   .cases h
  .cases h
 .split at h
  .rename_i cs c;cases h;cases he;unfold Oq at c;split at c
   .rename_i i hi;split at c
    .rename_i v E;refine .inl ⟨_,_,?_,Abr y hD (K2 c) t⟩;simp[execOp,ho,Instr.alloc,zeroValue,typeInfo,hi,E,newVar,newRow]
    simp_all
   simp_all
  .cases h
def eJ {T h O1} (hO:ν w O w O1) (hh:∀k o,h k=some o->bε w O μ k o) (hT:0<T.size):∀ {parts} {ps} {n} {l} {fz} {vs},
 lits h T n parts=some (l,fz)->π (λ(p:Nat×V1) (q:Nat×Value)=>p.1=q.1/\Cl w O μ p.2 q.2) parts ps->(n+parts.length)*T.size<=vs.size ->
 (∀k∈fz,∀p b,μ k=some p->p.block=some b->¬O1 b/\b<w.heap.size) ->
 ∃d news,Instr.fill (λi=>some (i*T.size,T.size)) vs ps=some d/\d.size=vs.size/\l.length=parts.length/\d.toList=vs.toList.take (n*T.size)++news++vs.toList.drop ((n+parts.length)*T.size)/\ξ (Reads w O1 T) l news
 |[],ps,n,l,fz,vs,E,hp,hs,hb=>by cases hp;simp[lits] at E;obtain⟨rfl,rfl⟩:=E;exact ⟨vs,[],rfl,rfl,rfl,by simp,rfl⟩
 |(i,v1)::r,ps,n,l,fz,vs,E,hp,hs,hb=>by
  cases hp with
  |cons h1 h2 =>
   rename_i q m;obtain⟨j,v⟩:=q;obtain⟨X,hv⟩:=h1;simp only at X;subst X;simp only[lits] at E;split at E
   .rename_i x f xs g hi hd I;have hi:=beq_true hi;subst hi;cases E;have Y:=KF hO hh hd hv λk hk=>hb k (by simp[hk]);have Z:=AW T Y;have a8:v.cells.size=T.size:=by omega
    simp only[Qay] at hs;have a6:(i+(r.length+1))*T.size=i*T.size+T.size+r.length*T.size:=by grind
    have t:=Vf v.cells.toList 0 (i*T.size) vs (by grind);obtain⟨d,news,e1,e2,e3,e4,e5⟩:=eJ hO hh hT I h2 (by
     have:(v.cells.zipIdx.foldl (λcs (c,j)=>cs.setIfInBounds (i*T.size+j) c) vs).size=vs.size:=by rw[<-Qat,<-Qga,Qfv,t]<;>grind
     rw[this];have:(i+1+r.length)*T.size=i*T.size+T.size+r.length*T.size:=by rw[Qcd,Qcd];omega
     omega) λk hk=>hb k (by simp[hk]);have y:(v.cells.zipIdx.foldl (λcs (c,j)=>cs.setIfInBounds (i*T.size+j) c) vs).toList=vs.toList.take (i*T.size)++v.cells.toList++vs.toList.drop (i*T.size+T.size):=by rw[<-Qga,Qfv,t,Z,Qfq]
    have aa:(v.cells.zipIdx.foldl (λcs (c,j)=>cs.setIfInBounds (i*T.size+j) c) vs).size=vs.size:=by rw[<-Qat,y]<;>grind
    refine ⟨d,v.cells.toList++news,?_,by omega,by simp[e3],?_,⟨_,_,rfl,Y,e5⟩⟩
    .simp only[Instr.fill]<;>grind
    .rw[e4,y];have a1:(i+1)*T.size=i*T.size+T.size:=by grind
     have J:(i+1+r.length)*T.size=i*T.size+T.size+r.length*T.size:=by grind
     have a7:(vs.toList.take (i*T.size)++v.cells.toList).length=i*T.size+T.size:=by rw[Qau,Qbn,Z,Qat];omega
     rw[a1,Qea (by omega),Qas (by omega)];rw[J,Qfi,Qdl (by omega),a7,List.drop_drop];simp only[Qay,a6,Qaz,Qaq];congr 3;congr 1;omega
   .cases E
def eV {h T}:∀ {parts} {n} {l} {E},lits h T n parts=some (l,E)->∀k∈E,∃o,h k=some o
 |[],n,l,E,d=>by simp[lits] at d<;>simp_all
 |(i,J)::r,n,l,E,d=>by
  simp only[lits] at d;split at d
  .rename_i x f xs g hi I c;cases d;intro k y;rcases List.mem_append.1 y with y|y
   .obtain⟨t,l,e⟩:=JN I k y<;>simp_all
   .exact eV c k y
  .cases d
def WT {o t n ps l out e} (hM:ρ B R st μ O w) (hD:¬B.D st.next) (hE:CN R st μ O w a.tmps) (ho:o.op=.buildSlice t n ps) (hl:Fl R st ps.toList=some l)
 (h:ER P R st t n l=some out) (he:out.run=some e) (a7:JD R e=true):dε P o a w (BL B R st e μ O w):=by
  have hp:=TJ hE hl;unfold ER at h;split at h
  .rename_i el hu;split at h
   .rename_i T hT;split at h
    .rename_i xs Y ab y Z d;cases h;cases he;obtain⟨i,z,hi,hz,ad,a1,al⟩:=Gq ab;have y:=beq_true y;have Z:=Qbe Z;have a6:xs.length=n:=by
      have:∀ {parts:List (Nat×V1)} {n:Nat} {l:List T.δ} {Y:List Nat},lits (st.obj R) T n parts=some (l,Y)->l.length=parts.length:=by
       intro parts;induction parts with
       |nil=>intro n l Y hl;simp[lits] at hl<;>simp_all
       |cons p r ih =>intro n l Y hl;obtain⟨i,v⟩:=p;simp only[lits] at hl<;>grind
      rw[this d,y]
     have hps:(ps.map λ(i,x)=>(i,a.eval x)).toList=ps.toList.map λx=>(x.1,a.eval x.2):=by simp
     let zero:= if n*T.size=0 then #[] else z.cells
     let c:= (Array.range (n*T.size)).map (zero[·%zero.size]!);have an:c.size=n*T.size:=by grind
     have J:∀O1,ν w O w O1->(∀k∈Y,∀p b,μ k=some p->p.block=some b->¬O1 b/\b<w.heap.size)->∃g,Instr.fill (λi=>some (i*T.size,T.size)) c (ps.toList.map λx=>(x.1,a.eval x.2))=some g/\g.size=n*T.size/\ξ (Reads w O1 T) xs (g.toList.take (xs.length*T.size)):=λO1 hk hb=>by obtain⟨g,news,e1,e2,e3,e4,e5⟩:=eJ hk hM.heap a1 (vs:=c) d hp (by simp_all) hb<;>grind
     have X:= eV d;obtain⟨O1,_,ae,af,_⟩:=Gr hM Y (Kd a7) X;obtain⟨g,hf,ag,_⟩:=J O1 ae af;refine .inl ⟨.slice (some ⟨w.heap.size,0,none⟩) xs.length xs.length,w.alloc (.cells g el),?_,?_⟩
     .have I:n*T.size=0\/n*T.size≠0:=by omega
      have E:(Array.range (n*T.size)).map (zero[·%zero.size]!)=c:=rfl;simp only[execOp,ho,Instr.buildSlice,Sem.run_bind,run_underlying hu,Result.andThen_ok,sizeOf,typeInfo,run_program,hi,Sem.run_pure,ad];rw[if_neg (by omega)];rcases I with I|I
      .have ah:n=0:=by rcases Nat.mul_eq_zero.1 I with h|h<;>omega
       subst ah;have ai:= Qad y;subst ai;have aj:ps.toList.map (λx=>(x.1,a.eval x.2))=[]:=by generalize ps.toList.map (λx=>(x.1,a.eval x.2))=q at hp;cases hp;rfl
       have ak:g=#[]:=Qdd (by omega);have he0:Array.map (λ_=>(default:Value)) (Array.range 0)=#[]:=Qdd (by simp);simp[aj,Instr.fill,newRow,ak,Qad a6,he0]
      .have:zero=z.cells:=by simp[zero,I]
       rw[this] at E;simp[I,zeroValue,typeInfo,hi,hz];rw[E,hf];simp[newRow,a6]
     .refine Abq hM hD Y Y (Kd a7) X el (λO2 hk hb=>?_) (χ _) (by simp only[maxLen];have:n<=n*T.size:=Nat.le_mul_of_pos_right _ a1;omega) (by rw[ag,a6]);obtain⟨ao,a8,_,aa⟩:=J O2 hk hb;rw[hf] at a8;cases a8;exact aa
    .cases h
   .cases h
  .cases h
end
section
variable {P:Program} {B:Ξ} {R:RO} {st:St} {μ:AI} {O:Nat->Prop} {w:World} {a:Act}
def Ra {α:Type} {Rd:α->List Value->Prop} {x:α} {z:Array Value} (g:Rd x z.toList) (h:0<z.size):∀l m,ξ Rd (List.replicate l x) (((List.range ((l+m)*z.size)).map λi=>z[i%z.size]!).take (l*z.size))
 |0,m=>by simp[ξ]
 |l+1,m=>by
  have h1:(l+1+m)*z.size=z.size+(l+m)*z.size:=by grind
  have t:(l+1)*z.size=z.size+l*z.size:=by grind
  have c:(List.range z.size).map (λi=>z[i%z.size]!)=z.toList:=by
   apply List.ext_getElem
   .simp
   .intro i d h4;simp at d;simp[Qdk d,d]
  refine ⟨z.toList,((List.range ((l+m)*z.size)).map λi=>z[i%z.size]!).take (l*z.size),?_,g,Ra g h l m⟩;rw[h1,t,List.range_add,Qdy,c,List.map_map];have:(λi=>z[i%z.size]!)∘(λx=>z.size+x)=λi=>z[i%z.size]!:=by funext i;simp
  rw[this,Qdu,Qas (by simp),Qat];congr 2;omega
def XS {o t x y l c out e} (hM:ρ B R st μ O w) (hD:¬B.D st.next) (ho:o.op=.makeSlice t x y) (hx:a.eval x=.int .i64 l) (hy:a.eval y=.int .i64 c) (aa:inR .i64 l=true) (J:inR .i64 c=true)
 (h:FC P st t l c=some out) (he:out.run=some e):dε P o a w (BL B R st e μ O w):=by
  unfold FC at h;split at h
  .rename_i el hu;split at h
   .rename_i T inf hT E;split at h
    .rename_i ab;cases h;simp only[υ.run] at he;split at he
     .rename_i hc;cases he;obtain⟨i,z,hi,hz,X,ae,Y⟩:=Gq ab;rw[E] at hi;cases hi;simp only[C5,leB,B5,Qab,decide_eq_true_eq] at hc;obtain⟨h0,h1,h2⟩:=hc;have Z:=qM aa;have a1:=qM J;have a6:z.cells.size=T.size:=by rw[<-Qat,AW T (Y w O)]
      have ag:= (tε.1 J).2;let zero:= if c.toNat*T.size=0 then #[] else z.cells
      let d:= (Array.range (c.toNat*T.size)).map (zero[·%zero.size]!);have a7:(Ay l (Dp T)).length=l.toNat:=by simp[Ay]
      refine .inl ⟨.slice (some ⟨w.heap.size,0,none⟩) l.toNat c.toNat,w.alloc (.cells d el),?_,?_⟩
      .have I:c.toNat*T.size=0\/c.toNat*T.size≠0:=by omega
       have ah:¬(inf.bytes:Int)*c>2 ^ 48:=by omega
       have g:(Array.range (c.toNat*T.size)).map (zero[·%zero.size]!)=d:=rfl;rcases I with I|I
       .have:zero=#[]:=by grind
        rw[this] at g;simp[execOp,ho,hx,hy,Instr.makeSlice,run_underlying hu,asInt,asIntOf,typeInfo,E,Z,a1,sizeOf,X,I,newRow] at g ⊢;grind
       .have:zero=z.cells:=by grind
        rw[this] at g;simp[execOp,ho,hx,hy,Instr.makeSlice,run_underlying hu,asInt,asIntOf,typeInfo,E,Z,a1,sizeOf,X,I,newRow,zeroValue,hz] at g ⊢;grind
      .have af:=Abq hM hD [] [] (by simp) (by simp) (T:=T) (l:=Ay l (Dp T)) (vs:=d) (cap:=c.toNat) el (λO2 hk hb=>?_) (by omega) (by simp only[maxLen]<;>simp_all) (by simp[d])
       .simp_all
       .rw[a7];by_cases a8:l.toNat=0
        .rw[a8];simp[Ay,a8,ξ]
        .have:zero=z.cells:=by
          have:c.toNat*T.size≠0:=by intro h;rcases Nat.mul_eq_zero.1 h with h|h<;>omega
          simp[zero,this]
         have hr:=Ra (Rd:=Reads w O2 T) (x:=Dp T) (z:=z.cells) (Y w O2) (by omega) l.toNat (c.toNat-l.toNat);rw[a6,show l.toNat+(c.toNat-l.toNat)=c.toNat by omega] at hr;simp only[Ay];have ad:d.toList=(List.range (c.toNat*T.size)).map λi=>z.cells[i%z.cells.size]!:=by simp[d,this]
         rw[ad,a6];exact hr
     .cases he
    .cases h
   .cases h
  .cases h
def W5 {s f off t} (h:Mm P s f=some (off,t)):∃c fd inf,P.underlying s=some (.struct c)/\c[f]?=some fd/\P.info? fd.type=some inf/\inf.size≠0/\fd.offset=off/\fd.type=t:=by
 unfold Mm at h;split at h
 .rename_i c d;split at h
  .rename_i fd g;split at h
   .rename_i inf hi;split at h
    .rename_i y;cases h;exact ⟨c,fd,inf,d,g,hi,beq_false y,rfl,rfl⟩
    .cases h
   .cases h
  .cases h
 .cases h
def K6 {s f off t} (h:Mm P s f=some (off,t)) b o:(Instr.fieldAt s (.pointer (some ⟨b,o,none⟩)) f).run P w=.ok (.pointer (some ⟨b,o+off,none⟩)) w:=by obtain⟨y,fd,inf,c,d,hi,g,rfl,rfl⟩:=W5 h;simp[Instr.fieldAt,run_underlying c,d,Instr.sureAddr,fieldPlace,sizeOf,typeInfo,hi,g,Addr.add_mid]
def XO {o s f x out e} (E:ρ B R st μ O w) (I:CN R st μ O w a.tmps) (J:o.op=.fieldAddr s x f)
 (h:FB P st s f (opv R st x)=some out) (X:out.run=some e):dε P o a w (BL B R st e μ O w):=by
  unfold FB at h;split at h
  .rename_i k off d;split at h
   .rename_i o' t g;cases h;cases X;obtain⟨b,Y,y⟩:=Bv I d;refine AX E (x:=.v (.c (.ptr k (off+o')))) ?_ ⟨b,Y,rfl⟩ [];simp only[execOp,J,y,Sem.run_bind,K6 g,Result.andThen_ok,Sem.run_pure]
   .cases h
  .rename_i cs d;split at h
   .rename_i o' t g;cases h;cases X;obtain⟨b,off,us,y,hO,Y,hr,ha⟩:=Bv I d;refine AX E (x:=.iptr (cs.drop o')) ?_ ⟨b,off+o',us.drop o',rfl,hO,Y,KO hr o',ha.drop o'⟩ [];simp only[execOp,J,y,Sem.run_bind,K6 g,Result.andThen_ok,Sem.run_pure]
   .cases h
  .rename_i k i d;split at h
   .rename_i o' t g;cases h;cases X;obtain⟨b,len,cap,sz,h1,Z,h3,y⟩:=Bv I d;refine AX E (x:=.fptr k i o') ?_ ⟨b,len,cap,sz,h1,Z,h3,rfl⟩ [];simp only[execOp,J,y,Sem.run_bind,K6 g,Result.andThen_ok,Sem.run_pure]
   .cases h
  .rename_i k i off d;split at h
   .rename_i o' t g;cases h;cases X;obtain⟨b,len,cap,sz,h1,Z,h3,y⟩:=Bv I d;refine AX E (x:=.fptr k i (off+o')) ?_ ⟨b,len,cap,sz,h1,Z,h3,rfl⟩ [];simp only[execOp,J,y,Sem.run_bind,K6 g,Result.andThen_ok,Sem.run_pure,Nat.add_assoc]
   .cases h
  .cases h
def XQ {o t x y k n out e} (hM:ρ B R st μ O w) (hE:CN R st μ O w a.tmps) (ho:o.op=.indexAddr t x y) (hy:a.eval y=.int k n)
 (h:DA P R st t (Ω R st x) n=some out) (d:out.run=some e):dε P o a w (BL B R st e μ O w):=by
  unfold DA at h;split at h
  .rename_i el hu;split at h
   .cases h
   rename_i inf g;have Z:∀b off len cap,a.eval x=.slice (some ⟨b,off,none⟩) len cap->0<=n->n.toNat<len->(execOp a.eval o).run P w=.ok (.value (.pointer (some ⟨b,off+n.toNat*inf.size,none⟩))) w:=λb off len cap ex h0 hl=>by
    have J:n<(len:Int):=by omega
    simp[execOp,ho,ex,hy,Instr.indexAt,asIntOf,run_underlying hu,h0,J,sizeOf,typeInfo,g,Addr.add_mid]
   split at h
   .rename_i T l hx;split at h
    .rename_i X;have X:=beq_true X;cases h;cases E:idx l n with
     |none=>rw[υ.run,E] at d;cases d
     |some z =>
      rw[υ.run,E] at d;cases d;obtain⟨h0,hz,J⟩:=NH E;obtain⟨ad,cap,ev,hl,hm,I⟩:=AT hE hx;simp only[Qdo,and_true] at ev;rcases I with I|⟨b,off,cells,ea,hO,hb,hr,I⟩
      .omega
      .subst ea;obtain⟨pre,v,post,ec,hp,ah,a1⟩:=ξ.get (λx vs=>AW T) I hz;rw[ec] at hr;have a8:=fJ hr;rw[hp] at a8;refine AX hM (x:=.iptr (enc T z)) (Z b off _ cap ev h0 J) ⟨b,_,v,rfl,hO,hb,?_,Fw T a1⟩ []<;>simp_all
    .cases h
   .rename_i k' hx;split at h
    .rename_i T l hk;split at h
     .rename_i X;cases h;cases E:idx l n with
      |none=>rw[υ.run,E] at d;cases d
      |some z =>rw[υ.run,E] at d;cases d;obtain⟨h0,hz,J⟩:=NH E;obtain⟨b,cap,us,vs,ab,e1,hc,hs,ae,af,a1,hr⟩:=PV (hM.heap k' _ hk) hz;obtain⟨ad,len,aa,sz,e2,ev⟩:=AT hE hx;rw[e1] at e2;cases e2;refine AX hM (x:=.v (.c (.eptr k' n))) (Z b 0 _ cap ev h0 J) ⟨b,l.length,cap,T.size,e1,h0,by omega,?_⟩ [k'];rw[beq_true X,Qbm]
     .cases h
    .cases h
   .cases h
  .rename_i len el hu;split at h
   .cases h
   rename_i inf g;split at h
   .rename_i k' j hx;split at h
    .rename_i T l hj hk;have hj:=m7 hj;subst hj;split at h
     .rename_i X;cases h;cases E:Tm l len n with
      |none=>rw[υ.run,E] at d;cases d
      |some z =>
       rw[υ.run,E] at d;cases d;unfold Tm at E;split at E
       .rename_i a6;obtain⟨h0,hz,J⟩:=NH E;have a6:l.length=len:=by unfold Aa at a6;omega
        obtain⟨b,cap,us,vs,ab,e1,hc,hs,ae,af,a1,hr⟩:=PV (hM.heap k' _ hk) hz;obtain⟨b2,ag,aa,sz,e2,ai,aj,ev⟩:=AT hE hx;rw[e1] at e2;cases e2;have Y:n<(l.length:Int):=by omega
        refine AX hM (x:=.v (.c (.eptr k' n))) (v:=.pointer (some ⟨b,n.toNat*inf.size,none⟩)) ?_ ⟨b,l.length,cap,T.size,e1,h0,Y,by rw[beq_true X]⟩ [k'];simp[execOp,ho,ev,hy,Instr.indexAt,asIntOf,run_underlying hu,h0,<-a6,Y,sizeOf,typeInfo,g,Addr.add_mid,Instr.sureAddr]
       .cases E
     .cases h
    .cases h
   .rename_i k' off hx;split at h
    .rename_i a7;have a7:=beq_true a7;subst a7;cases h;obtain⟨b,hb,ev⟩:=AT hE hx;have go:∀m:Nat,n=(m:Int)->m<2->(execOp a.eval o).run P w=.ok (.value (.pointer (some ⟨b,off+m*inf.size,none⟩))) w:=λm hm h2=>by
      have h0:0<=n:=by omega
      have Y:n<2:=by omega
      have ht:n.toNat=m:=by omega
      simp[execOp,ho,ev,hy,Instr.indexAt,asIntOf,run_underlying hu,h0,Y,ht,sizeOf,typeInfo,g,Addr.add_mid,Instr.sureAddr]
     simp only[υ.run,Ia] at d;split at d
     .rename_i h0;cases d;have h0:n=0:=by simpa[eqI] using h0
      exact AX hM (x:=.v (.c (.ptr k' off))) (by have:=go 0 h0 (by omega);rw[Nat.zero_mul] at this;exact this) ⟨b,hb,rfl⟩ []
     .split at d
      .rename_i h1;cases d;have h1:n=1:=by simpa[eqI] using h1
       exact AX hM (x:=.v (.c (.ptr k' (off+inf.size)))) (by have:=go 1 h1 (by omega);rw[Qfc] at this;exact this) ⟨b,hb,rfl⟩ []
      .cases d
    .cases h
   .cases h
  .cases h
def Tw {c T l ks v} (hM:ρ B R st μ O w) (h:GR (st.obj R) c=some ⟨T,l,ks⟩) (Y:∀c',c=some c'->AQ w O μ c' v) :
 ∃ad cap cells,v=.slice ad l.length cap/\l.length<=cap/\cap<=maxLen/\(l.length=0\/∃b off,ad=some ⟨b,off,none⟩/\w.rangeAt b off cells)/\(∀O1,ν w O w O1->ξ (Reads w O1 T) l cells)/\cells.length=l.length*T.size/\∀k∈ks,∃o,st.obj R k=some o:=by
 unfold GR at h;split at h
 .rename_i T' l';cases h;obtain⟨ad,cap,g,E,I,d⟩:=Y _ rfl;simp only[Qdo,and_true] at g;rcases d with d|⟨b,off,cells,J,X,hb,Z,d⟩
  .have y:= Qad d;subst y;exact ⟨ad,cap,[],g,E,I,.inl rfl,λ_ _=>rfl,by simp,by simp⟩
  .exact ⟨ad,cap,cells,g,E,I,.inr ⟨b,off,J,Z⟩,λO1 t=>d.mono λ_ _=>Av t T,ξ.length (λx vs=>AW T) d,by simp⟩
 .rename_i k;split at h
  .rename_i T' l' t;cases h;obtain⟨ad,len,cap,sz,e1,g⟩:=Y _ rfl;obtain⟨a6,a1,e2,E,I,d⟩:=hM.heap k _ t;rw[e1] at e2;cases e2;rcases d with d|⟨b,vs,el,J,hc,hs,d⟩
   .have y:l=[]:=Qad (by omega);subst y;exact ⟨ad,cap,[],g,E,I,.inl rfl,λ_ _=>rfl,by simp,by simp[t]⟩
   .exact ⟨ad,cap,_,g,E,I,.inr ⟨b,0,J,IW (JK hc) _⟩,λO1 X=>d.mono λ_ _=>Av X T,ξ.length (λx vs=>AW T) d,by simp[t]⟩
  .cases h
 .rename_i k lo n;split at h
  .rename_i T' l' t;cases h;obtain⟨a,c,cells,g,g1,g2,g3,g4⟩:=aU (hM.heap k _ t) (Y _ rfl);exact ⟨a,c,cells,g,g1,g2,g3.imp id λ⟨b,off,J,_,Z⟩=>⟨b,off,J,Z⟩,λO1 X=>g4.mono λ_ _=>Av X T,ξ.length (λx vs=>AW T) g4,by simp[t]⟩
  .cases h
 .cases h
def wM {o x t el args X out e} (J:ρ B R st μ O w) (Y:CN R st μ O w a.tmps) (hu:P.underlying t=some (.slice el)) (ho:o.op=.call {callee:=.builtin .len,args,argTypes:=X}) (Z:args.toList=[x]) (a6:X.toList=[t])
 (h:Rm R st (opv R st x)=some out) (he:out.run=some e):dε P o a w (BL B R st e μ O w):=by
  have g:args=#[x]:=by grind
  have y:X=#[t]:=by grind
  subst g;subst y;have d:∀ad n cap,a.eval x=.slice ad n cap->(execOp a.eval o).run P w=.ok (.value (.int .i64 n)) w:=λad n cap ex=>by simp[execOp,ho,resolve,invoke,builtin,ex,Builtin.len_,run_underlying hu,goInt]
  unfold Rm at h;split at h
  .rename_i l E;cases h;obtain⟨hb,rfl⟩:=Bu he;obtain⟨b,us,I,_⟩:BW w O μ (.fns l) (a.eval x):=Bv Y E;have hb:(l.length:Int)<=1099511627776:=by simpa[leB] using hb
   exact AX J (x:=.v (.c (.int .i64 (Int.ofNat l.length)))) (d _ _ _ I) ⟨rfl,PE (by unfold maxLen;omega)⟩ []
  .rename_i E;cases h;cases he;obtain⟨ad,I⟩:∃ad,a.eval x=.slice ad 0 0:=Bv Y E;exact AX J (x:=.v (.c (.int .i64 0))) (d ad 0 0 I) ⟨rfl,by decide⟩ []
  .rename_i c _ E;split at h
   .rename_i T l ks hl;cases h;cases he;obtain⟨ad,cap,cells,I,a1,hm,_⟩:=Tw J hl (λc' hc=>by cases hc;exact Bv Y E);exact AX J (x:=.v (.c (.int .i64 (Aa l)))) (d ad l.length cap I) ⟨rfl,PE (Qbh a1 hm)⟩ ks
   .cases h
  .cases h
end
section
variable {P:Program} {B:Ξ} {R:RO} {st:St} {μ:AI} {O:Nat->Prop} {w:World} {a:Act}
def Bε (w:World) (v:Value) (n size:Nat) (cells:List Value):Prop :=
 ∃ad cap,v=.slice ad n cap/\cells.length=n*size/\(n=0\/∃b off,ad=some ⟨b,off,none⟩/\w.rangeAt b off cells)
def Bε.first {v n size cells} (h:Bε w v n size cells) w' (d:∀p,w'.cell? p=w.cell? p):(Builtin.firstCells size n v).run P w'=.ok cells.toArray w':=by
 obtain⟨ad,cap,g,t,c⟩:=h;subst g;rcases c with c|⟨b,off,y,c⟩
 .subst c;have:cells=[]:=Qad (by omega);subst this;cases ad with
  |none=>simp[Builtin.firstCells]
  |some p=>simp[Builtin.firstCells,loadCells,loadCellsFrom]
 .subst y;exact run_firstCells_some w' size n ⟨b,off,none⟩ n cap cells t λj u E=>by rw[Addr.add_mid,d];exact c j u E
def SB {t ty e:TypeId} {i:TypeInfo} {z:Value} (X:P.underlying t=some (.slice e)) {t' Y:TypeId} (g:P.underlying t'=some (.slice Y)) (hi:P.info? e=some i) (Z:i.zero=some z)
 {base:Option Addr} {sLen sCap:Nat} {x:Value} {n:Nat} {olds news:List Value} (hs:Bε w (.slice base sLen sCap) sLen i.size olds) (I:Bε w x n i.size news)
 (c:sCap<sLen+n) (h:sLen+n<=maxLen) (hb:(sLen+n)*i.bytes<=140737488355328) :
 (Builtin.append_ #[t,t'] ty #[.slice base sLen sCap,x]).run P w =
   .ok (.slice (some ⟨w.heap.size,0,none⟩) (sLen+n) (grownCap w (sLen+n) sCap e)) (w.drew.alloc (.cells (olds.toArray++news.toArray++Builtin.zeroCells z.cells (grownCap w (sLen+n) sCap e-(sLen+n))) e)):=by
 have J:=growslice_fits (bytes:=i.bytes) c hb
 have y:=hs.first (P:=P) w.drew λp=>by simp
 have E:=I.first (P:=P) w.drew λp=>by simp
 obtain⟨ad,cap,ev,hl,hr⟩:=I
 subst ev
 have hn:¬sLen+n<=sCap:=by omega
 have d:¬Builtin.nextslicecap (sLen+n) sCap*i.bytes>2 ^ 48:=by
  have:(2:Nat) ^ 48=281474976710656:=by decide
  omega
 simp[Builtin.append_,run_underlying X,run_underlying g,sizeOf,typeInfo,zeroValue,hi,Z,Builtin.lenOf,hn,d,Question.forced,y,E,newRow,grownCap]
 rw[if_neg (by simp only[maxLen] at h;omega)]
 congr 3
 apply Array.ext'
 simp
def run_append_fits {t ty e i t' I base sLen sCap x n news w'} (y:P.underlying t=some (.slice e)) (g:P.underlying t'=some (.slice I)) (hi:P.info? e=some i)
 (E:Bε w x n i.size news) (d:sLen+n<=sCap)
   (c:(match base with|some p=>storeCells (p.add (sLen*i.size)) news|none=>pure ()).run P w=.ok () w') :
   (Builtin.append_ #[t,t'] ty #[.slice base sLen sCap,x]).run P w=.ok (.slice base (sLen+n) sCap) w':=by
  have h:=E.first (P:=P) w λp=>rfl;obtain⟨ad,cap,J,X,Y⟩:=E;subst J;cases base with
  |none =>simp at c;subst c;simp[Builtin.append_,run_underlying y,run_underlying g,sizeOf,typeInfo,hi,Builtin.lenOf,d,h]
  |some p =>simp only at c;simp[Builtin.append_,run_underlying y,run_underlying g,sizeOf,typeInfo,hi,Builtin.lenOf,d,h,c]
def ρ.drop (h:ρ B R st μ O w) {k:Nat} (d:mε R k=true) (e:Env):ρ B R {env:=e,heap:=dropKey k st.heap,next:=st.next} μ O w :=
 h.congr (λj o c=>by rw[Ym d] at c;split at c<;>first|cases c|exact c) (χ _)
def ρ.yζ (h:ρ B R st μ O w) (hD:¬B.D st.next) {k:Nat} {o:Ψ} {p:Place} (hk:st.obj R k=some o) (aa:mε R k=true) (hp:μ k=some p) {w':World} (q:Place) (hq:q.block=p.block) (o':Ψ)
 (ad:w'.heap.size=w.heap.size) (hw:∀c,p.block≠some c->w'.heap[c]?=w.heap[c]?) (a8:Below B.base w w')
 (ho:∀μ',ν w O w' O->μle μ μ'->μ' st.next=some q->bε w' O μ' st.next o') (e:Env) :
 ∃μ',Ev B R {env:=e,heap:=(st.next,o')::dropKey st.next (dropKey k st.heap),next:=st.next+1} μ O w μ' O w'/\μ' st.next=some q:=by
 have I:∀q,μ st.next=some q->False:=λq e=>(h.dom _ _ e).elim (Qcm _) hD;have a1:=μle_set (p:=q) I;have y:μset μ st.next q st.next=some q:=by simp[μset]
 have d:∀j,j≠st.next->μset μ st.next q j=μ j:=λj t=>by simp[μset,t]
 have E:ν w O w' O:=⟨by omega,λc hc hO=>⟨hO,hw c λe=>hO (h.own k o hk p c hp e).1⟩⟩;have ae:k≠st.next:=λe=>by subst e;exact I _ hp
 have J:∀j,({env:=e,heap:=(st.next,o')::dropKey st.next (dropKey k st.heap),next:=st.next+1}:St).obj R j=if j=st.next then some o' else if j=k then none else st.obj R j:=λj=>by
  have:=Dv (R:=R) (st:={env:=e,heap:=dropKey k st.heap,next:=st.next}) (k:=st.next) (k':=j) (o:=o') (n:=st.next+1) (e:=e);rw[this];split
  .rfl
  .rw[Ym aa]
 refine ⟨μset μ st.next q,⟨a1,E,{heap:=λj oj X=>?_,own:=λj oj X q' c Y hc=>?_,inj:=λj j' o1 o2 e1 e2 q1 q2 c h1 h2 a6 a7=>?_,foreign:=h.foreign,flt:=λc hc=>(hw c λe=>(h.own k o hk p c hp e).2.1.2 hc).trans (h.flt c hc),dom:=λj q' t=>?_,below:=h.below.trans a8,bsize:=by have:=h.bsize;omega,obound:=λb hb=>by have:=h.obound b hb;omega},μset_new (o:=o') (by rw[J];simp) rfl⟩,y⟩
 .rw[J] at X;split at X
  .rename_i t;subst t;cases X;exact ho _ E a1 y
  .rename_i t;split at X
   .cases X
   .rename_i Z;refine Cx E a1 oj (λq' c Y hc=>hw c λab=>Z ?_) (h.heap j oj X);exact h.inj j k oj o X hk q' p c Y hp hc ab
 .rw[J] at X;split at X
  .rename_i t;subst t;rw[y] at Y;cases Y;have:=h.own k o hk p c hp (hq▸hc);exact ⟨this.1,this.2.1,by omega⟩
  .rename_i t;split at X
   .cases X
   .rw[d j t] at Y;have:=h.own j oj X q' c Y hc;exact ⟨this.1,this.2.1,by omega⟩
 .rw[J] at e1 e2;by_cases t:j=st.next<;>by_cases g:j'=st.next
  .rw[t,g]
  .exfalso;subst t;rw[y] at h1;cases h1;rw[if_neg g] at e2;rw[d j' g] at h2;split at e2
   .cases e2
   .rename_i Z;exact Z (h.inj j' k o2 o e2 hk q2 p c h2 hp a7 (hq▸a6))
  .exfalso;subst g;rw[y] at h2;cases h2;rw[if_neg t] at e1;rw[d j t] at h1;split at e1
   .cases e1
   .rename_i Z;exact Z (h.inj j k o1 o e1 hk q1 p c h1 hp a6 (hq▸a7))
  .rw[if_neg t] at e1;rw[if_neg g] at e2;rw[d j t] at h1;rw[d j' g] at h2;split at e1
   .cases e1
   .split at e2
    .cases e2
    .exact h.inj j j' o1 o2 e1 e2 q1 q2 c h1 h2 a6 a7
 .by_cases g:j=st.next
  .subst g;exact .inl (Qcx _)
  .rw[d j g] at t;exact (h.dom j q' t).imp Qca id
def Ta (h:ρ B R st μ O w):ρ B R st μ O w.drew/\ν w O w.drew O:=by refine ⟨{h with heap:=λk o d=>Cx (⟨χ _,λ_ _ c=>⟨c,rfl⟩⟩:ν w O w.drew O) (μle.refl _) o (λ_ _ _ _=>rfl) (h.heap k o d),below:=h.below.drew,bsize:=h.bsize},⟨χ _,λ_ _ c=>⟨c,rfl⟩⟩⟩
def Z3 {k T l} (h:bε w O μ k (.arr T l)):∃ad cap cells,μ k=some (.arr ad l.length cap T.size)/\l.length<=cap/\cap<=maxLen/\Bε w (.slice ad l.length cap) l.length T.size cells/\ξ (Reads w O T) l cells:=by
 obtain⟨ad,cap,e,d,g,t⟩:=h;rcases t with t|⟨b,vs,el,y,E,I,c⟩
 .have:l=[]:=Qad (by omega);subst this;exact ⟨ad,cap,[],e,d,g,⟨ad,cap,rfl,by simp,.inl rfl⟩,rfl⟩
 .refine ⟨ad,cap,vs.toList.take (l.length*T.size),e,d,g,⟨ad,cap,rfl,?_,.inr ⟨b,0,y,IW (JK E) _⟩⟩,c⟩<;>simp_all
def W6 (hM:ρ B R st μ O w) (hD:¬B.D st.next) {t ty el:TypeId} {t':TypeId} {T:Ty} (ay:K3 P el T=true) {k:Nat} {l xs:List T.δ} (hk:st.obj R k=some (.arr T l)) (ak:mε R k=true)
 {s x:Value} (hs:AQ w O μ (.ref k) s) {news:List Value} (E:ξ (Reads w O T) xs news) {inf:TypeInfo} (al:P.info? el=some inf) (a7:AA (Jv (Aa l) (Aa xs)) inf.bytes=true)
 (hm:l.length+xs.length<=maxLen) (rd:List Nat)
 (a8:∀(z:Value),inf.zero=some z->∀ {base:Option Addr} {sLen sCap:Nat} {olds:List Value},Bε w (.slice base sLen sCap) sLen inf.size olds->sCap<sLen+xs.length->sLen+xs.length<=maxLen->(sLen+xs.length)*inf.bytes<=140737488355328 ->
   (Builtin.append_ #[t,t'] ty #[.slice base sLen sCap,x]).run P w=.ok (.slice (some ⟨w.heap.size,0,none⟩) (sLen+xs.length) (grownCap w (sLen+xs.length) sCap el)) (w.drew.alloc (.cells (olds.toArray++news.toArray++Builtin.zeroCells z.cells (grownCap w (sLen+xs.length) sCap el-(sLen+xs.length))) el)))
 (y:∀ {base:Option Addr} {sLen sCap:Nat} {w':World},sLen+xs.length<=sCap->(match base with|some p=>storeCells (p.add (sLen*inf.size)) news|none=>pure ()).run P w=.ok () w' ->
   (Builtin.append_ #[t,t'] ty #[.slice base sLen sCap,x]).run P w=.ok (.slice base (sLen+xs.length) sCap) w') :
 ∃v w',(Builtin.append_ #[t,t'] ty #[s,x]).run P w=.ok v w'/\BL B R st {dst:=some (.v (.c (.ref st.next))),upd:=[(k,none),(st.next,some (.arr T (DM l xs)))],reads:=rd,next:=st.next+1} μ O w v w':=by
 obtain⟨i,z,hi,hz,an,bc,az⟩:=Gq ay;rw[al] at hi;cases hi;obtain⟨ad,cap,olds,e1,hl,aa,ao,X⟩:=Z3 (hM.heap k _ hk);obtain⟨bh,len,bd,sz,e2,ev⟩:=hs;rw[e1] at e2;cases e2;subst ev;have aB:z.cells.size=T.size:=by rw[<-Qat,AW T (az w O)]
 have hb:(l.length+xs.length)*inf.bytes<=140737488355328:=by
  have h1:((l.length:Int)+(xs.length:Int))*(inf.bytes:Int)<=2 ^ 46:=of_decide_eq_true a7;have h2:(((l.length+xs.length)*inf.bytes:Nat):Int)=((l.length:Int)+(xs.length:Int))*(inf.bytes:Int):=by push_cast;rfl
  rw[<-h2] at h1;have h3:(2:Int) ^ 46<=140737488355328:=by decide
  omega
 have aq:∀u∈news,u.oneCell'=true:=ξ.all (λx vs h=>Lu T h) E;have bf:∀(e:Env),Bw [(k,none),(st.next,some (.arr T (DM l xs)))] st.heap=(st.next,.arr T (DM l xs))::dropKey st.next (dropKey k st.heap):=λ_=>rfl;have I:news.length=xs.length*T.size:=ξ.length (λx vs=>AW T) E;have ar:olds.length=l.length*T.size:=ξ.length (λx vs=>AW T) X;by_cases g:l.length+xs.length<=cap
 .have d:∀(w':World),w'.heap.size=w.heap.size->(∀c,(Place.arr ad l.length cap T.size).block≠some c->w'.heap[c]?=w.heap[c]?)->Below B.base w w' ->
   (∀μ',ν w O w' O->μle μ μ'->μ' st.next=some (.arr ad (l.length+xs.length) cap T.size)->bε w' O μ' st.next (.arr T (DM l xs))) ->
   BL B R st {dst:=some (.v (.c (.ref st.next))),upd:=[(k,none),(st.next,some (.arr T (DM l xs)))],reads:=rd,next:=st.next+1} μ O w (.slice ad (l.length+xs.length) cap) w':=λw' h1 h2 h3 h4=>by
   obtain⟨μ',J,hn⟩:=hM.yζ hD hk ak e1 (.arr ad (l.length+xs.length) cap T.size) (by cases ad<;>rfl) (.arr T (DM l xs)) h1 h2 h3 h4 st.env
   exact BR (ν.refl _ _) (λx u hx=>Cn hx hM.heap) J λx hx=>by cases hx;exact ⟨_,_,_,_,hn,rfl⟩
  obtain⟨bj,bg,e3,_,_,hr⟩:=hM.heap k _ hk;rw[e1] at e3;cases e3;rcases hr with aP|⟨b,vs,e',ea,hc,b0,ab⟩
  .have ae:l=[]:=Qad (by omega);have af:xs=[]:=Qad (by omega);subst ae;subst af;have ag:news=[]:=Qad (by simpa using I);subst ag;refine ⟨_,w,y g ?_,d w rfl (λ_ _=>rfl) (Below.refl _ _) λμ' _ _ hn=>⟨ad,cap,by simpa[DM] using hn,by simp[DM],aa,.inl aP⟩⟩;cases ad<;>simp[storeCells]
  .subst ea;have ah:l.length*T.size+news.length<=vs.size:=by rw[I,b0,<-Qcd];exact Qco _ g
   have au:=run_storeCells_at P b (l.length*T.size) e' news 0 vs w hc (by simpa using ah) aq;simp only[Qfq] at au;by_cases a1:cap=0
   .have ae:l=[]:=Qad (by omega);have af:xs=[]:=Qad (by omega);subst ae;subst af;have ag:news=[]:=Qad (by simpa using I);subst ag;refine ⟨_,w,y g (by simp[storeCells]),d w rfl (λ_ _=>rfl) (Below.refl _ _) λμ' _ _ hn=>⟨_,cap,by simpa[DM] using hn,by simp[DM],aa,.inl a1⟩⟩
   .have a6:(Place.arr (some ⟨b,0,none⟩) l.length cap T.size).block=some b:=by simp[Place.block,a1]
    have av:=hM.own k _ hk _ b e1 a6;refine ⟨_,_,y g (by simp only[an,Addr.add_mid,Qbm];exact au),d _ (by simp) (λc b1=>setRow_other w b c _ λe=>b1 (by rw[a6,e])) (below_setRow w b _ av.2.1.1) λμ' Y b2 hn=>?_⟩;refine ⟨_,cap,by simpa[DM] using hn,by simpa[DM] using g,aa,.inr ⟨b,_,e',rfl,setRow_heap w b vs _ e' _ hc,?_,?_⟩⟩
    .simp;omega
    .have Z:(DM l xs).length*T.size=(vs.toList.take (l.length*T.size)++news).length:=by simp only[DM,Qau,Qbn,Qat];rw[Qer (by omega),I,Qcd]
     rw[Z];simp only[List.take_left];exact ξ.append (ab.mono λ_ _=>Av Y T) (E.mono λ_ _=>Av Y T)
 .have aw:=a8 z hz (by rw[an];exact ao) (by omega:cap<l.length+xs.length) hm hb;refine ⟨_,_,aw,?_⟩;obtain⟨b3,ai⟩:=Ta hM;have b7:=b3.drop ak st.env;have b8:=grownCap_ge w (l.length+xs.length) cap el;have ax:=grownCap_le_maxLen w (l.length+xs.length) cap el hm;have aj:(olds.toArray++news.toArray++Builtin.zeroCells z.cells (grownCap w (l.length+xs.length) cap el-(l.length+xs.length))).size=grownCap w (l.length+xs.length) cap el*T.size:=by simp only[Array.size_append,Qbk,size_zeroCells,aB,ar,I,<-Qcd];congr 1;omega
  obtain⟨μ',O',J,hn⟩:=b7.alloc hD (.cells (olds.toArray++news.toArray++Builtin.zeroCells z.cells (grownCap w (l.length+xs.length) cap el-(l.length+xs.length))) el)
   (.arr (some ⟨w.heap.size,0,none⟩) (DM l xs).length (grownCap w (l.length+xs.length) cap el) T.size) (.arr T (DM l xs)) (by have:w.drew.heap.size=w.heap.size:=rfl;simp only[Place.block,this];split<;>simp)
   (λO' μ' ba b2 bb=>Mn (w:=w.drew) (T:=T) (l:=DM l xs) (by
     have Z:(DM l xs).length*T.size=(olds++news).length:=by simp only[DM,Qau];rw[ar,I,Qcd]
     rw[Z];simp only[Qfu,List.take_left];exact ξ.append (X.mono λ_ _=>Av ai T) (E.mono λ_ _=>Av ai T)) (by simpa[DM] using b8) ax aj ba (by simpa using bb)) st.env;refine BR (ν.refl _ _) (λx u hx=>Cn hx hM.heap) ⟨J.le,ai.trans J.keeps,J.mem,J.new⟩ λx hx=>by cases hx;exact ⟨_,_,_,_,hn,by simp[DM]⟩
def Y8 (hM:ρ B R st μ O w) (hD:¬B.D st.next) {t ty el:TypeId} (ht:P.underlying t=some (.slice el)) {t' J:TypeId} (h:P.underlying t'=some (.slice J)) {T:Ty} (y:K3 P el T=true) {k:Nat} {l xs:List T.δ} (hk:st.obj R k=some (.arr T l)) (X:mε R k=true)
 {s x:Value} (Y:AQ w O μ (.ref k) s) {news:List Value} (hx:Bε w x xs.length T.size news) (E:ξ (Reads w O T) xs news) {inf:TypeInfo} (d:P.info? el=some inf) (g:AA (Jv (Aa l) (Aa xs)) inf.bytes=true)
 (hm:l.length+xs.length<=maxLen) (rd:List Nat) :
 ∃v w',(Builtin.append_ #[t,t'] ty #[s,x]).run P w=.ok v w'/\BL B R st {dst:=some (.v (.c (.ref st.next))),upd:=[(k,none),(st.next,some (.arr T (DM l xs)))],reads:=rd,next:=st.next+1} μ O w v w':=by obtain⟨i,z,hi,hz,I,a1,a6⟩:=Gq y;rw[d] at hi;cases hi;exact W6 hM hD y hk X Y E d g hm rd (λz hz {_ _ _ _} Y h1 Z h3=>SB ht (ty:=ty) h d hz Y (by rw[I];exact hx) h1 Z h3) λ{_ _ _ _} h1 Z=>run_append_fits ht h d (by rw[I];exact hx) h1 Z
end
section
variable {P:Program} {B:Ξ} {R:RO} {st:St} {μ:AI} {O:Nat->Prop} {w:World} {a:Act}
def ρ.bare (h:ρ B R st μ O w) (hD:¬B.D st.next) (p:Place) (o:Ψ) (Z:p.block=none)
 (ho:∀μ',μle μ μ'->μ' st.next=some p->bε w O μ' st.next o) (e:Env) :
 ∃μ',Ev B R {env:=e,heap:=(st.next,o)::dropKey st.next st.heap,next:=st.next+1} μ O w μ' O w/\μ' st.next=some p:=by
 have y:∀q,μ st.next=some q->False:=λq e=>(h.dom _ _ e).elim (Qcm _) hD;have J:=μle_set (p:=p) y;have g:μset μ st.next p st.next=some p:=by simp[μset]
 have c:∀k,k≠st.next->μset μ st.next p k=μ k:=λk hk=>by simp[μset,hk]
 refine ⟨μset μ st.next p,⟨J,ν.refl _ _,{heap:=λk o' E=>?_,own:=λk o' E q b t X=>?_,inj:=λk k' o1 o2 e1 e2 q q' b t I X Y=>?_,foreign:=h.foreign,flt:=h.flt,dom:=λk q t=>?_,below:=h.below,bsize:=h.bsize,obound:=h.obound},μset_new (o:=o) (by rw[Dv];simp) rfl⟩,g⟩
 .rw[Dv] at E;by_cases d:k=st.next
  .rw[if_pos d] at E;cases E;subst d;exact ho _ J g
  .rw[if_neg d] at E;exact Cx (ν.refl _ _) J o' (λ_ _ _ _=>rfl) (h.heap k o' E)
 .rw[Dv] at E;by_cases d:k=st.next
  .subst d;rw[g] at t;cases t;rw[Z] at X;cases X
  .rw[if_neg d] at E;rw[c k d] at t;exact h.own k o' E q b t X
 .rw[Dv] at e1 e2;by_cases h1:k=st.next
  .subst h1;rw[g] at t;cases t;rw[Z] at X;cases X
  .by_cases h2:k'=st.next
   .subst h2;rw[g] at I;cases I;rw[Z] at Y;cases Y
   .rw[if_neg h1] at e1;rw[if_neg h2] at e2;rw[c k h1] at t;rw[c k' h2] at I;exact h.inj k k' o1 o2 e1 e2 q q' b t I X Y
 .by_cases d:k=st.next
  .subst d;exact .inl (Qcx _)
  .rw[c k d] at t;exact (h.dom k q t).imp Qca id
def RT {n m bytes:Nat} (h:AA (Jv (n:Int) (m:Int)) bytes=true):(n+m)*bytes<=140737488355328:=by have h1:((n:Int)+(m:Int))*(bytes:Int)<=2 ^ 46:=of_decide_eq_true h<;>grind
def Se (hM:ρ B R st μ O w) (hD:¬B.D st.next) {t ty el:TypeId} (ht:P.underlying t=some (.slice el)) {t' aa:TypeId} (Y:P.underlying t'=some (.slice aa)) {T:Ty} (ab:K3 P el T=true) {xs:List T.δ}
 {s x:Value} (hs:AQ w O μ .nils s) {news:List Value} (y:Bε w x xs.length T.size news) (E:ξ (Reads w O T) xs news) {inf:TypeInfo} (h:P.info? el=some inf) (I:AA (Jv (Aa ([]:List T.δ)) (Aa xs)) inf.bytes=true)
 (hm:xs.length<=maxLen) (rd:List Nat) :
 ∃v w',(Builtin.append_ #[t,t'] ty #[s,x]).run P w=.ok v w'/\BL B R st {dst:=some (.v (.c (.ref st.next))),upd:=[(st.next,some (.arr T (DM [] xs)))],reads:=rd,next:=st.next+1} μ O w v w':=by
 obtain⟨i,z,hi,hz,Z,aq,ae⟩:=Gq ab;rw[h] at hi;cases hi;obtain⟨ad,rfl⟩:=hs;have af:z.cells.size=T.size:=by rw[<-Qat,AW T (ae w O)]
 have hb:(0+xs.length)*inf.bytes<=140737488355328:=RT (n:=0) I;have J:news.length=xs.length*T.size:=ξ.length (λx vs=>AW T) E;by_cases a1:xs.length=0
 .have ag:xs=[]:=Qad a1;subst ag;have ah:news=[]:=Qad (by simpa using J);subst ah;obtain⟨μ',g,hn⟩:=hM.bare hD (.arr ad 0 0 T.size) (.arr T (DM [] [])) (by cases ad<;>simp[Place.block]) (λμ' _ hn=>⟨ad,0,by simpa[DM] using hn,by simp[DM],Qaw _,.inl rfl⟩) st.env;have ai:Bε w x 0 inf.size []:=by rw[Z];exact y
  have aj:(match ad with|some p=>storeCells (p.add (0*inf.size)) []|none=>pure ()).run P w=.ok () w:=by cases ad<;>simp[storeCells]
  have d:=run_append_fits (ty:=ty) (sCap:=0) ht Y h ai (χ 0) aj;refine ⟨_,w,d,?_⟩;exact BR (ν.refl _ _) (λx u y=>Cn y hM.heap) g λx y=>by cases y;exact ⟨_,_,_,_,hn,rfl⟩
 .have d:=SB ht (ty:=ty) (base:=ad) (sLen:=0) (sCap:=0) (olds:=[]) Y h hz ⟨ad,0,rfl,by simp,.inl rfl⟩ (by rw[Z];exact y) (by omega) (by omega) hb;rw[Qbm] at d;refine ⟨_,_,d,?_⟩;obtain⟨ak,a6⟩:=Ta hM;have al:=grownCap_ge w xs.length 0 el;have a7:=grownCap_le_maxLen w xs.length 0 el (by omega);have X:(([]:List Value).toArray++news.toArray++Builtin.zeroCells z.cells (grownCap w xs.length 0 el-xs.length)).size=grownCap w xs.length 0 el*T.size:=by simp only[Array.size_append,Qbk,size_zeroCells,af,J,Qbu,Qbm,<-Qcd];congr 1;omega
  obtain⟨μ',O',g,hn⟩:=ak.alloc hD (.cells (([]:List Value).toArray++news.toArray++Builtin.zeroCells z.cells (grownCap w xs.length 0 el-xs.length)) el)
   (.arr (some ⟨w.heap.size,0,none⟩) (DM [] xs).length (grownCap w xs.length 0 el) T.size) (.arr T (DM [] xs)) (by have:w.drew.heap.size=w.heap.size:=rfl;simp only[Place.block,this];split<;>simp)
   (λO' μ' an ar ao=>Mn (w:=w.drew) (T:=T) (l:=DM [] xs) (by
     have a8:(DM [] xs).length*T.size=news.length:=by simp only[DM,Qaz];rw[J]
     rw[a8];simp only[Qfu,Qaz,List.take_left];exact E.mono λ_ _=>Av a6 T) (by simpa[DM] using al) a7 X an (by simpa using ao)) st.env;exact BR (ν.refl _ _) (λx u y=>Cn y hM.heap) ⟨g.le,a6.trans g.keeps,g.mem,g.new⟩ λx y=>by cases y;exact ⟨_,_,_,_,hn,by simp[DM]⟩
def LG {c T l ks v} (y:ρ B R st μ O w) (h:GR (st.obj R) c=some ⟨T,l,ks⟩) (E:∀t,c=some t->AQ w O μ t v) :
 ∃cells,Bε w v l.length T.size cells/\ξ (Reads w O T) l cells/\l.length<=maxLen:=by obtain⟨ad,cap,cells,I,J,X,Y,d,g,_⟩:=Tw y h E;exact ⟨cells,⟨ad,cap,I,g,Y⟩,d O (ν.refl _ _),Qbh J X⟩
def pD {n m bytes:Nat} (c:0<bytes) (h:AA (Jv (n:Int) (m:Int)) bytes=true):n+m<=maxLen:=by have:=RT h;have d:n+m<=(n+m)*bytes:=Nat.le_mul_of_pos_right _ c;simp only[maxLen];omega
end
def BP (w:World) (O:Nat->Prop):(d:List Ty)->(AO d).δ->List Value->Prop
 |[],_,vs=>vs=[]
 |[t],x,vs=>∃us,Reads w O t x us/\vs=[valOf t us]
 |t::u::r,x,vs=>∃us c,Reads w O t x.1 us/\vs=valOf t us::c/\BP w O (u::r) x.2 c
def BV (n0:Nat) (w:World) (F:Nat->Prop) (G:Option Nat) (t:Ty) (l:List t.δ) (v:Value):Prop :=
 ∃a cap,v=.slice a l.length cap/\l.length<=cap/\cap<=maxLen /\
  (cap=0/\G=none\/∃b vs e,cap≠0/\G=some b/\a=some ⟨b,0,none⟩/\n0<=b/\b<w.heap.size/\w.heap[b]?=some (.cells vs e (0,0))/\vs.size=cap*t.size /\
    ξ (Reads w (λc=>F c\/G=some c) t) l (vs.toList.take (l.length*t.size)))
def Gd (n0:Nat) (w:World) (F:Nat->Prop) (fresh:Bool):(g:List Ty)->(AO g).δ->List Value->Prop
 |g,y,vs=>match fresh with
  |false=>BP w F g y vs
  |true=>match g,y with
   |[.slice t],l=>∃v G,vs=[v]/\BV n0 w F G t l v
   |.slice t::u::r,y=>∃v d G,vs=v::d/\BV n0 w F G t y.1 v/\BP w (λc=>F c\/G=some c) (u::r) y.2 d
   |_,_=>True
def Cp:List Value->Value
 |[v]=>v
 |vs=>.tuple vs.toArray
structure BM (P:Program) (V:World->Prop) (f:FuncId) (sp:FW):Prop where
 enters:∀(args:Array Value) (w:World),(callFunc f args).run P w=.ok (.enter f args) w
 tot:∀g,sp.tot=some g->∀x,sp.fn x=some (g x)
 calls:∀(w:World) (F:Nat->Prop) (vals:List Value) (x:(AO sp.args).δ) (y:(AO sp.res).δ),V w->(∀b,F b->b<w.heap.size)->BP w F sp.args x vals->sp.fn x=some y ->
  Calls P f vals.toArray w λe w'=>∃rs,e=.returned (Cp rs)/\Below w.heap.size w w'/\Gd w.heap.size w' F sp.fresh sp.res y rs
def AfV (P:Program) (V:World->Prop) (f:FuncId):FW->Prop
 |{args:=t0::h,res:=rs,fresh:=true,fn,tot:=_} =>
  ∀(w:World) (F:Nat->Prop) (b:Nat) (el:TypeId) (cur:Array Value) (d:List Value) (x:t0.δ) (xs:(AO h).δ) (y:(AO rs).δ),
   V w->(∀c,F c->c<w.heap.size)->¬F b->b<w.heap.size->w.heap[b]?=some (.cells cur el (0,0))->Reads w F t0 x cur.toList->BP w F h xs d->fn (Da h x xs)=some y ->
   Calls P f (.pointer (some ⟨b,0,none⟩)::d).toArray w λe w'=>∃rv,e=.returned (Cp rv)/\Below w.heap.size w w'/\BP w' F rs y rv
 |{args:=t0::h,res:=t1::rs,fresh:=false,fn,tot:=_} =>
  ∀(n0:Nat) (w:World) (F:Nat->Prop) (b:Nat) (el:TypeId) (cur:Array Value) (d:List Value) (x:t0.δ) (xs:(AO h).δ) (y:(AO (t1::rs)).δ),
   (∀w',Below n0 w w'->V w')->n0<=b->n0<=w.heap.size->(∀c,F c->c<w.heap.size)->F b->w.heap[b]?=some (.cells cur el (0,0))->Reads w F t0 x cur.toList->BP w F h xs d->fn (Da h x xs)=some y ->
   Calls P f (.pointer (some ⟨b,0,none⟩)::d).toArray w λe w'=>∃rv g t,e=.returned (Cp rv)/\Below n0 w w'/\(∀c,c<w.heap.size->c≠b->w'.heap[c]?=w.heap[c]?)/\w'.heap[b]?=some (.cells g t (0,0)) /\
    Reads w' F t1 (HW rs y) g.toList/\BP w' F rs (LF rs y) rv
 |_=>True
structure PR (P:Program) (V:World->Prop) (f:FuncId) (sp:FW):Prop where
 enters:∀(args:Array Value) (w:World),(callFunc f args).run P w=.ok (.enter f args) w
 tot:∀g,sp.tot=some g->∀x,sp.fn x=some (g x)
 calls:AfV P V f sp
def kA (n0:Nat) (w:World) (F:Nat->Prop) (G:Option Nat) (t:Ty) (l:List t.δ) (v:Value):Prop :=
 ∃a cap,v=.slice a l.length cap/\l.length<=cap/\cap<=maxLen /\
  (cap=0/\G=none\/∃b vs e,cap≠0/\G=some b/\a=some ⟨b,0,none⟩/\F b/\n0<=b/\w.heap[b]?=some (.cells vs e (0,0))/\vs.size=cap*t.size /\
    ξ (Reads w F t) l (vs.toList.take (l.length*t.size)))
def AfU (P:Program) (V:World->Prop) (f:FuncId):FW->Prop
 |{args:=.slice t::g,res:=.slice t'::rs,fresh:=_,fn,tot:=_} =>
  ∀(n0:Nat) (w:World) (F:Nat->Prop) (G:Option Nat) (v:Value) (l:List t.δ) (d:List Value) (xs:(AO g).δ) (y:(AO (.slice t'::rs)).δ),
   (∀w',Below n0 w w'->V w')->n0<=w.heap.size->(∀c,F c->c<w.heap.size)->kA n0 w F G t l v->BP w F g xs d->fn (Da (t:=.slice t) g l xs)=some y->t'.eε=false->rs.any Ty.eε=false ->
   Calls P f (v::d).toArray w λe w'=>∃h E J,e=.returned (Cp (h::E))/\Below n0 w w'/\(∀c,c<w.heap.size->G≠some c->w'.heap[c]?=w.heap[c]?)/\(∀b,J=some b->G=some b\/w.heap.size<=b) /\
    BV n0 w' F J t' (HW (t:=.slice t') rs y) h/\BP w' F rs (LF rs y) E
 |{args:=.int .i64::g,res:=[.int .i64,.int .i64],fresh:=_,fn,tot:=_} =>
  ∀(w:World) (F:Nat->Prop) (ad:Option Addr) (len cap:Nat) (d:List Value) (xs:(AO g).δ) (y:Int×Int),
   V w->(∀c,F c->c<w.heap.size)->len<=cap->cap<=maxLen->(cap=0\/∃b,ad=some ⟨b,0,none⟩)->BP w F g xs d->fn (Da (t:=.int .i64) g (len:Int) xs)=some y ->
   (0<=y.1/\0<=y.2/\y.1+y.2<=(len:Int))/\Calls P f (.agg #[.slice ad len cap]::d).toArray w λe w'=>Below w.heap.size w w'/\∃X I,e=.returned (.slice X y.2.toNat I)/\(y.2.toNat<=I/\I<=maxLen)/\(y.2=0\/∃b,ad=some ⟨b,0,none⟩/\X=some ⟨b,y.1.toNat,none⟩)
 |_=>True
structure PQ (P:Program) (V:World->Prop) (f:FuncId) (sp:FW):Prop where
 enters:∀(args:Array Value) (w:World),(callFunc f args).run P w=.ok (.enter f args) w
 tot:∀g,sp.tot=some g->∀x,sp.fn x=some (g x)
 calls:AfU P V f sp
def Me (c:Option Nat->(t:Ty)->List t.δ->Value->Prop) (w:World) (F:Nat->Prop) (own:List Nat):(T:Ty)->Nat->T.δ->List Value->List Nat->Prop
 |.slice t,off,l,us,d=>match own.any (Nat.beq off) with
  |true=>∃v G,us=[v]/\c G t l v/\d=G.toList
  |false=>Reads w F (.slice t) l us/\d=[]
 |.pair a b,off,x,us,d=>∃u1 u2 g h,us=u1++u2/\d=g++h/\Me c w F own a off x.1 u1 g/\Me c w F own b (off+a.size) x.2 u2 h
 |T,_,x,us,d=>Reads w F T x us/\d=[]
structure j9 (P:Program) (V:World->Prop) (f:FuncId) (sp:wC):Prop where
 enters:∀(args:Array Value) (w:World),(callFunc f args).run P w=.ok (.enter f args) w
 calls:∀(w:World) (F:Nat->Prop) (vals:List Value) (x:(AO sp.args).δ) (y:sp.res.δ),V w->(∀b,F b->b<w.heap.size)->BP w F sp.args x vals->sp.fn x=some y ->
  Calls P f vals.toArray w λe w'=>∃us Gs,e=.returned (.agg us)/\Below w.heap.size w w'/\Gs.Nodup/\Me (BV w.heap.size w' λc=>F c\/c∈Gs) w' (λc=>F c\/c∈Gs) sp.own sp.res 0 y us.toList Gs
structure j8 (P:Program) (V:World->Prop) (f:FuncId) (sp:vZ):Prop where
 enters:∀(args:Array Value) (w:World),(callFunc f args).run P w=.ok (.enter f args) w
 calls:∀(n0:Nat) (w:World) (F:Nat->Prop) (b:Nat) (el:TypeId) (cur:Array Value) (vals:List Value) (x:(AO (VG sp.los)).δ) (xs:(AO sp.args).δ) (y:(AO sp.res).δ),
  (∀w',Below n0 w w'->V w')->n0<=b->n0<=w.heap.size->(∀c,F c->c<w.heap.size)->F b->w.heap[b]?=some (.cells cur el (0,0))->cur.size=sp.size->(∀u∈cur.toList,u.oneCell'=true/\u.cells=#[u])->(∀i c,GV sp.los x i=some c->∃u,cur[i]?=some u/\AQ w F (λ_=>none) c u) ->
  BP w F sp.args xs vals->sp.fn (Da sp.args x xs)=some y ->
  Calls P f (.pointer (some ⟨b,0,none⟩)::vals).toArray w λe w'=>∃rv cur' el',e=.returned (Cp rv)/\Below n0 w w'/\(∀c,c<w.heap.size->c≠b->w'.heap[c]?=w.heap[c]?)/\w'.heap[b]?=some (.cells cur' el' (0,0))/\cur'.size=cur.size /\
   (∀i c,GV sp.los x i=some c->∃u,cur'[i]?=some u/\AQ w' F (λ_=>none) c u)/\(∀i,GV sp.los x i=none->cur'[i]?=cur[i]?)/\BP w' F sp.res y rv
abbrev HE (C:Ctx):Prop:=(∀f sp,C.qζ f=some sp->PR C.P C.V f sp)/\(∀f sp,C.otbl f=some sp->PQ C.P C.V f sp)/\(∀f sp,C.stbl f=some sp->j9 C.P C.V f sp)/\∀f sp,C.qtbl f=some sp->j8 C.P C.V f sp
def DG (C:Ctx) (B:Ξ):Prop:=(∀f sp,C.tbl f=some sp->BM C.P C.V f sp)/\(∀w,Below B.base B.w0 w->C.V w)/\HE C
section
variable {P:Program} {B:Ξ} {R:RO} {st:St} {μ:AI} {O:Nat->Prop} {w:World} {a:Act}
def X2 {T d v} (h:Cl w O μ d v) (t:I9 T d=true):v=valOf T v.cells.toList:=by
 cases d with
 |a cs =>have g:T.isAgg=true:=t;obtain⟨vs,rfl,_⟩:=h;simp[valOf,g,Value.cells]
 |c c =>
  have g:T.isAgg=false:=by simpa[I9] using t
  simp[valOf,g,Pg c h]
def Cm {O' h} (Y:ν w O w O') (Z:∀k o,h k=some o->bε w O μ k o):∀ {ts} {vs} {c} {x} {ks},
 BY h ts vs=some (x,ks)->π (Cl w O μ) vs c->(∀k∈ks,∀p b,μ k=some p->p.block=some b->¬O' b/\b<w.heap.size)->BP w O' ts x c
 |[],vs,c,x,ks,d,I,J=>by
  cases I with
  |nil=>rfl
  |cons h1 X=>simp[BY] at d
 |[t],vs,c,x,ks,d,I,J=>by
  cases I with
  |nil=>simp[BY] at d
  |cons h1 X =>
   cases X with
   |nil =>
    simp only[BY] at d;split at d
    .rename_i hf;refine ⟨_,KF Y Z d h1 J,?_⟩;rw[<-X2 h1 hf]
    .cases d
   |cons h3 h4=>simp[BY] at d
 |t::u::r,vs,c,x,ks,d,I,J=>by
  cases I with
  |nil=>simp[BY] at d
  |cons h1 X =>
   simp only[BY] at d;split at d
   .rename_i y f ys g hf hd E;cases d;refine ⟨_,_,KF Y Z hd h1 λk hk=>J k (by simp[hk]),?_,Cm Y Z E X λk hk=>J k (by simp[hk])⟩;rw[<-X2 h1 hf]
   .cases d
def Gn {h}:∀ {I} {vs} {x} {ks},BY h I vs=some (x,ks)->∀k∈ks,∃o,h k=some o
 |[],vs,x,ks,c=>by
  cases vs with
  |nil=>simp[BY] at c<;>grind
  |cons v r=>simp[BY] at c
 |[t],vs,x,ks,c=>by
  cases vs with
  |nil=>simp[BY] at c
  |cons v r =>
   cases r with
   |nil =>
    simp only[BY] at c;split at c
    .intro k d;obtain⟨t,l,e⟩:=JN c k d<;>simp_all
    .cases c
   |cons _ _=>simp[BY] at c
 |t::u::r,vs,x,ks,c=>by
  cases vs with
  |nil=>simp[BY] at c
  |cons v vs =>
   simp only[BY] at c;split at c
   .rename_i y f ys g X J E;cases c;intro k d;rcases List.mem_append.1 d with d|d
    .obtain⟨t,l,e⟩:=JN J k d<;>simp_all
    .exact Gn E k d
   .cases c
def Nr {h}:∀ {I} {vs} {x} {ks},BY h I vs=some (x,ks)->∀k∈ks,∃t l,h k=some (.arr t l)
 |[],vs,x,ks,c=>by
  cases vs with
  |nil=>simp[BY] at c<;>grind
  |cons v r=>simp[BY] at c
 |[t],vs,x,ks,c=>by
  cases vs with
  |nil=>simp[BY] at c
  |cons v r =>
   cases r with
   |nil =>
    simp only[BY] at c;split at c
    .intro k d;exact JN c k d
    .cases c
   |cons _ _=>simp[BY] at c
 |t::u::r,vs,x,ks,c=>by
  cases vs with
  |nil=>simp[BY] at c
  |cons v vs =>
   simp only[BY] at c;split at c
   .rename_i y f ys g X J E;cases c;intro k d;rcases List.mem_append.1 d with d|d
    .exact JN J k d
    .exact Nr E k d
   .cases c
def FE {w' O'}:∀T {x} {vs},T.eε=false->Reads w O T x vs->Reads w' O' T x vs
 |.int _,_,_,_,h=>h
 |.bool,_,_,_,h=>h
 |.unit,_,_,_,h=>h
 |.slice _,_,_,c,_=>by cases c
 |.pair a b,_,_,c,⟨d,g,e,h1,t⟩=>by simp only[Ty.eε,Qbv] at c;exact ⟨d,g,e,FE a c.1 h1,FE b c.2 t⟩
def Hb {w' O'}:∀ {d} {x} {vs},d.any Ty.eε=false->BP w O d x vs->BP w' O' d x vs
 |[],_,_,_,h=>h
 |[t],_,_,c,⟨us,h,e⟩=>⟨us,FE t (by simpa using c) h,e⟩
 |t::u::r,_,_,c,⟨us,g,h,e,y⟩=>by simp only[List.any_cons,Qbv] at c;exact ⟨us,g,FE t c.1 h,e,Hb (by simpa using c.2) y⟩
def HB:∀ {c} {x} {vs},BP w O c x vs->π (Cl w O μ) (Qs c x) vs
 |[],_,_,h=>by have:= h;rw[this];exact .nil
 |[t],_,_,⟨us,h,e⟩=>by rw[e];exact .cons (NB t h) .nil
 |t::u::r,_,_,⟨us,d,h,e,g⟩=>by rw[e];exact .cons (NB t h) (HB g)
def IZ {xs vs} (h:π (Cl w O μ) xs vs):BW w O μ (OK xs) (Cp vs):=by
 cases h with
 |nil=>exact ⟨#[],rfl,.nil⟩
 |cons h1 c =>
  cases c with
  |nil=>exact h1
  |cons d h4=>exact ⟨_,rfl,by simpa using π.cons h1 (.cons d h4)⟩
def ρ.grow (h:ρ B R st μ O w) {w':World} (c:Below w.heap.size w w'):ρ B R st μ O w'/\ν w O w' O:=by have I:ν w O w' O:=⟨c.size,λb t y=>⟨y,c.block b t⟩⟩;refine ⟨{h with heap:=λk o g=>Cx I (μle.refl _) o (λp b E d=>c.block b (h.own k o g p b E d).2.2) (h.heap k o g),own:=λk o g p b E d=>?_,flt:=λb hF=>(c.block b (h.obound b (h.foreign b hF))).trans (h.flt b hF),below:=h.below.trans (c.mono h.bsize),bsize:=Qbh h.bsize c.size,obound:=λb y=>Qac (h.obound b y) c.size},I⟩;have:=h.own k o g p b E d;exact ⟨this.1,this.2.1,Qac this.2.2 c.size⟩
def ρ.zζ (h:ρ B R st μ O w) (hD:¬B.D st.next) (p:Place) (o:Ψ) (hp:∀b,p.block=some b->¬O b/\B.base<=b/\b<w.heap.size)
 (ho:∀μ',μle μ μ'->μ' st.next=some p->bε w (λc=>O c\/p.block=some c) μ' st.next o)
 (hrel:∀k o',st.obj R k=some o'->bε w (λc=>O c\/p.block=some c) μ k o') (e:Env) :
 ∃μ',ρ B R {env:=e,heap:=(st.next,o)::dropKey st.next st.heap,next:=st.next+1} μ' (λc=>O c\/p.block=some c) w/\μle μ μ'/\μ' st.next=some p/\∀k q,μ' k=some q->μ k=some q\/k<st.next+1/\∃o',({env:=e,heap:=(st.next,o)::dropKey st.next st.heap,next:=st.next+1}:St).obj R k=some o':=by
 have J:∀q,μ st.next=some q->False:=λq e=>(h.dom _ _ e).elim (Qcm _) hD;have Y:=μle_set (p:=p) J;have t:μset μ st.next p st.next=some p:=by simp[μset]
 have d:∀k,k≠st.next->μset μ st.next p k=μ k:=λk hk=>by simp[μset,hk]
 refine ⟨μset μ st.next p,{heap:=λk o' X=>?_,own:=λk o' X q b y E=>?_,inj:=λk k' o1 o2 e1 e2 q q' b y I E Z=>?_,foreign:=λb E=>.inl (h.foreign b E),flt:=h.flt,dom:=λk q y=>?_,below:=h.below,bsize:=h.bsize,obound:=λb E=>E.elim (h.obound b) λE=>(hp b E).2.2},Y,t,λk q y=>μset_new (o:=o) (st':={env:=e,heap:=(st.next,o)::dropKey st.next st.heap,next:=st.next+1}) (by rw[Dv];simp) rfl k q y⟩
 .rw[Dv] at X;by_cases g:k=st.next
  .rw[if_pos g] at X;cases X;subst g;exact ho _ Y t
  .rw[if_neg g] at X;exact Cx (ν.refl _ _) Y o' (λ_ _ _ _=>rfl) (hrel k o' X)
 .rw[Dv] at X;by_cases g:k=st.next
  .subst g;rw[t] at y;cases y;exact ⟨.inr E,⟨(hp b E).2.1,λhF=>(hp b E).1 (h.foreign b hF)⟩,(hp b E).2.2⟩
  .rw[if_neg g] at X;rw[d k g] at y;have:=h.own k o' X q b y E;exact ⟨.inl this.1,this.2⟩
 .rw[Dv] at e1 e2;by_cases h1:k=st.next<;>by_cases h2:k'=st.next
  .rw[h1,h2]
  .exfalso;subst h1;rw[t] at y;cases y;rw[if_neg h2] at e2;rw[d k' h2] at I;exact (hp b E).1 (h.own k' o2 e2 q' b I Z).1
  .exfalso;subst h2;rw[t] at I;cases I;rw[if_neg h1] at e1;rw[d k h1] at y;exact (hp b Z).1 (h.own k o1 e1 q b y E).1
  .rw[if_neg h1] at e1;rw[if_neg h2] at e2;rw[d k h1] at y;rw[d k' h2] at I;exact h.inj k k' o1 o2 e1 e2 q q' b y I E Z
 .by_cases g:k=st.next
  .subst g;exact .inl (Qcx _)
  .rw[d k g] at y;exact (h.dom k q y).imp Qca id
def Xj {w w':World} {O:Nat->Prop} {n0:Nat} {G:Option Nat} (d:w.heap.size<=w'.heap.size) (I:w.heap.size<=n0) (t:∀b,b<w.heap.size->w'.heap[b]?=w.heap[b]?) (y:∀b,G=some b->n0<=b):ν w O w' λc=>O c\/G=some c :=
 ⟨d,λb g E=>⟨λh=>h.elim E λh=>by have:=y b h;omega,t b g⟩⟩
end
section
variable {B:Ξ} {μ μ':AI} {O:Nat->Prop} {w:World}
def ρ.add {R:RO} {st:St} (h:ρ B R st μ O w) {key:Nat} {p:Place} {o:Ψ} (hp:μ key=some p) (hb:∀b,p.block=some b->O b/\(B.base<=b/\¬B.F b)/\b<w.heap.size)
 (y:∀k' o',st.obj R k'=some o'->∀p' b,μ k'=some p'->p'.block=some b->p.block=some b->False) (ho:bε w O μ key o) (e:Env):ρ B R {env:=e,heap:=(key,o)::st.heap,next:=st.next} μ O w:=by
 have d:∀k',({env:=e,heap:=(key,o)::st.heap,next:=st.next}:St).obj R k'=if k'=key then some o else st.obj R k':=λk'=>by
  simp only[St.obj,AE];by_cases J:k'=key
  .subst J;simp
  .have:¬key=k':=λe=>J e.symm;simp[J,this]
 refine {h with heap:=λk o' E=>?_,own:=λk o' E q b I c=>?_,inj:=λk k' o1 o2 X Y q q' b I t c g=>?_}
 .rw[d] at E;split at E
  .rename_i J;cases E;subst J;exact ho
  .exact h.heap k o' E
 .rw[d] at E;split at E
  .rename_i J;subst J;rw[hp] at I;cases I;exact hb b c
  .exact h.own k o' E q b I c
 .rw[d] at X Y;split at X<;>split at Y
  .rename_i h1 Z;rw[h1,Z]
  .rename_i h1 Z;subst h1;rw[hp] at I;cases I;exact (y k' o2 Y q' b t g c).elim
  .rename_i h1 Z;subst Z;rw[hp] at t;cases t;exact (y k o1 X q b I c g).elim
  .exact h.inj k k' o1 o2 X Y q q' b I t c g
def ρ.extend {R:RO} {st:St} (h:ρ B R st μ O w) (hB:∀k,¬B.D k) (p:Place) (X:st.obj R st.next=none) (e:Env):ρ B R {env:=e,heap:=st.heap,next:=st.next+1} (μset μ st.next p) O w/\μle μ (μset μ st.next p):=by
 have d:∀q,μ st.next=some q->False:=λq e=>(h.dom _ _ e).elim (Qcm _) (hB _);have y:=μle_set (p:=p) d;have c:∀k o,st.obj R k=some o->μset μ st.next p k=μ k:=λk o Y=>by
  have:k≠st.next:=λe=>by rw[e,X] at Y;cases Y
  simp[μset,this]
 refine ⟨{h with heap:=λk o J=>Cx (ν.refl _ _) y o (λ_ _ _ _=>rfl) (h.heap k o J),own:=λk o J q b g t=>?_,inj:=λk k' Z o2 e1 e2 q q' b g E t I=>?_,dom:=λk q g=>?_},y⟩
 .rw[c k o J] at g;exact h.own k o J q b g t
 .rw[c k Z e1] at g;rw[c k' o2 e2] at E;exact h.inj k k' Z o2 e1 e2 q q' b g E t I
 .unfold μset at g;split at g
  .rename_i hk;subst hk;exact .inl (Qcx _)
  .exact (h.dom k q g).imp Qca id
end
section
variable {B:Ξ} {R:RO} {st:St} {μ:AI} {O O1:Nat->Prop} {w:World} {tmps:Array Value} {R1:RO} {n0:Nat}
structure Inv (B:Ξ) (R:RO) (st:St) (μ:AI) (O1:Nat->Prop) (w:World) (tmps:Array Value) (R1:RO) (n0:Nat) (rem:List Nat) (sc:St) (μc:AI):Prop where
 mem:ρ B R1 sc μc O1 w
 env:CN R1 sc μc O1 w tmps
 agree:∀k,k<n0->μc k=μ k
 next:n0<=sc.next
 src:∀k' o',sc.obj R1 k'=some o'->∀p' b,μc k'=some p'->p'.block=some b->∃k0 o0 p0,st.obj R k0=some o0/\k0∉rem/\μ k0=some p0/\p0.block=some b
def ρ.fresh (h:ρ B R st μ O w) (c:∀k,¬B.D k):st.obj R st.next=none/\∀q,μ st.next=some q->False:=by
 have d:∀q,μ st.next=some q->False:=λq e=>(h.dom _ _ e).elim (Qcm _) (c _);refine ⟨?_,d⟩;cases g:st.obj R st.next with
 |none=>rfl
 |some o =>obtain⟨p,t⟩:=(h.heap _ _ g).some<;>simp_all
def Yr {sc c s x} (h:CN R1 sc c O1 w tmps) (E:BW w O1 c x (tmps.getD s undef)) g n:CN R1 {env:=(s,some x)::sc.env,heap:=g,next:=n} c O1 w tmps:=λt v d=>by
 simp only[St.get,AE] at d;by_cases y:s=t
 .simp_all
 .simp[y] at d;exact h t v d
def Inv.nε {rem:List Nat} {sc:St} {d:AI} {k:Nat} (h:Inv B R st μ O1 w tmps R1 n0 (k::rem) sc d) (a1:k∉rem) (a6:∀p b,μ k=some p->p.block=some b->O1 b/\(B.base<=b/\¬B.F b)/\b<w.heap.size)
 (E:∀t Y p0 b p,st.obj R t=some Y->μ t=some p0->p0.block=some b->μ k=some p->p.block=some b->t=k) {Y:Ψ} (hk:st.obj R k=some Y) (a7:k<n0) {p:Place} (Z:μ k=some p) {o:Ψ} (ho:bε w O1 d k o) :
 Inv B R st μ O1 w tmps R1 n0 rem {sc with heap:=(k,o)::sc.heap} d:=by
 have I:d k=some p:=(h.agree k a7).trans Z;refine ⟨h.mem.add I (λb hb=>a6 p b Z hb) (λk' o' J p' b c g hb=>?_) ho sc.env,h.env,h.agree,h.next,λk' o' J p' b c g=>?_⟩
 .obtain⟨t,y,p0,h1,h2,h3,h4⟩:=h.src k' o' J p' b c g;exact h2 (by rw[E t y p0 b p h1 h3 h4 Z hb];simp)
 .simp only[St.obj,AE] at J;by_cases X:k=k'
  .subst X;rw[I] at c;cases c;exact ⟨k,Y,p,hk,a1,Z,g⟩
  .simp only[X,if_false] at J;obtain⟨t,y,p0,h1,h2,h3,h4⟩:=h.src k' o' J p' b c g;exact ⟨t,y,p0,h1,λhm=>h2 (Qak _ hm),h3,h4⟩
def Inv.fresh {rem:List Nat} {sc:St} {d:AI} (hB:∀k,¬B.D k) (p:Place) (gone:List Nat) (E:Inv B R st μ O1 w tmps R1 n0 (gone++rem) sc d) (Z:∀b,p.block=some b->O1 b/\(B.base<=b/\¬B.F b)/\b<w.heap.size)
 (I:∀b,p.block=some b->∃k o0,k∈gone/\k∉rem/\st.obj R k=some o0/\μ k=some p/\∀J t p0,st.obj R J=some t->μ J=some p0->p0.block=some b->J=k) {o:Ψ}
 (ho:∀μ',μle d μ'->μ' sc.next=some p->bε w O1 μ' sc.next o) :
 ∃μ',Inv B R st μ O1 w tmps R1 n0 rem {sc with heap:=(sc.next,o)::sc.heap,next:=sc.next+1} μ'/\μle d μ'/\μ' sc.next=some p:=by
 obtain⟨a1,a7⟩:=E.mem.fresh hB;obtain⟨h1,X⟩:=E.mem.extend hB p a1 sc.env;have h:μset d sc.next p sc.next=some p:=by simp[μset]
 have c:∀k,k≠sc.next->μset d sc.next p k=d k:=λk hk=>by simp[μset,hk]
 refine ⟨μset d sc.next p,⟨?_,?_,λk hk=>?_,Nat.le_succ_of_le E.next,λk' o' e' p' b g y=>?_⟩,X,h⟩
 .refine h1.add (key:=sc.next) h Z (λk' o' e' p' b g y hb=>?_) (ho _ X h) sc.env;have e2:sc.obj R1 k'=some o':=e';have a6:k'≠sc.next:=λe=>by rw[e,a1] at e2;cases e2
  rw[c k' a6] at g;obtain⟨J,t,p0,g1,g2,g3,g4⟩:=E.src k' o' e2 p' b g y;obtain⟨k,o0,m1,m2,m3,m4,m5⟩:=I b hb;exact g2 (by rw[m5 J t p0 g1 g3 g4];exact Qah _ m1)
 .intro s v hv;exact D3 (ν.refl _ _) X v (E.env s v hv)
 .rw[c k (by have:=E.next;omega)];exact E.agree k hk
 .simp only[St.obj,AE] at e';by_cases Y:sc.next=k'
  .subst Y;rw[h] at g;cases g;obtain⟨k,o0,m1,m2,m3,m4,m5⟩:=I b y;exact ⟨k,o0,p,m3,m2,m4,y⟩
  .simp only[Y,if_false] at e';rw[c k' λe=>Y e.symm] at g;obtain⟨J,t,p0,g1,g2,g3,g4⟩:=E.src k' o' e' p' b g y;exact ⟨J,t,p0,g1,λhm=>g2 (Qan _ hm),g3,g4⟩
def Inv.weaken {rem c sc d} (y:Inv B R st μ O1 w tmps R1 n0 rem sc d) (h:∀k∈c,k∈rem):Inv B R st μ O1 w tmps R1 n0 c sc d :=
 {y with src:=λk' o' I p' b g t=>let ⟨E,J,p0,h1,X,Y,h4⟩:=y.src k' o' I p' b g t;⟨E,J,p0,h1,λZ=>X (h E Z),Y,h4⟩}
def Ns {c:AI} (y:ν w O w O1) {k k':Nat} {t:Ty} {l:List t.δ} (h:bε w O μ k (.arr t l)) {p:Place} (E:μ k=some p) (I:c k'=some p):bε w O1 c k' (.arr t l):=by
 obtain⟨a,cap,e,h1,J,g⟩:=h;rw[E] at e;cases e;refine ⟨a,cap,I,h1,J,?_⟩;rcases g with g|⟨b,vs,el,X,Y,Z,d⟩
 .exact .inl g
 .exact .inr ⟨b,vs,el,X,Y,Z,d.mono λ_ _=>Av y t⟩
structure Src (B:Ξ) (R:RO) (st:St) (μ:AI) (O O1:Nat->Prop) (w:World) (tmps:Array Value) (gone:List Nat):Prop where
 mem:ρ B R st μ O w
 env:CN R st μ O w tmps
 keeps:ν w O w O1
 own:∀k∈gone,∀o,st.obj R k=some o->∀p b,μ k=some p->p.block=some b->O1 b
def AcI (hB:∀k,¬B.D k) {own:List Nat}:∀(T:Ty) {off:Nat} {cs:List Cell} {x:T.δ} {rest:List Cell} {J gn:List Nat} {vs:List Value} {rem:List Nat} {sc:St} {g:AI},JO (st.obj R) (assoc st.heap) own T off cs=some (x,rest,J,gn) ->
 π (AQ w O μ) cs vs->(∀k∈J,∀p b,μ k=some p->p.block=some b->¬O1 b/\b<w.heap.size)->Src B R st μ O O1 w tmps (gn++rem)->(gn++rem).Nodup->Inv B R st μ O1 w tmps R1 n0 (gn++rem) sc g ->
 ∃Y Z μ',vs=Y++Z/\π (AQ w O μ) rest Z/\Inv B R st μ O1 w tmps R1 n0 rem (IJ own T off x sc).2 μ'/\μle g μ'/\π (AQ w O1 μ') (IJ own T off x sc).1 Y:=by
 have leaf:∀(T:Ty) {cs:List Cell} {x:T.δ} {rest:List Cell} {J gn:List Nat} {vs:List Value} {rem:List Nat} {sc:St} {g:AI},Ih (st.obj R) T cs=some (x,rest,J,gn) ->
  π (AQ w O μ) cs vs->(∀k∈J,∀p b,μ k=some p->p.block=some b->¬O1 b/\b<w.heap.size)->Src B R st μ O O1 w tmps (gn++rem)->Inv B R st μ O1 w tmps R1 n0 (gn++rem) sc g ->
  ∃Y Z μ',vs=Y++Z/\π (AQ w O μ) rest Z/\Inv B R st μ O1 w tmps R1 n0 rem sc μ'/\μle g μ'/\π (AQ w O1 μ') (enc T x) Y:=λT cs x rest J gn vs rem sc g d X h hS E=>by
  unfold Ih at d
  split at d
  .rename_i x' r' f' ab;cases d;obtain⟨Y,Z,e,hr,a7⟩:=Ee hS.keeps hS.mem.heap T ab X h;exact ⟨Y,Z,g,e,a7,E,μle.refl _,Fw T hr⟩
  .cases d
 intro T;induction T with
 |int k=>intro off cs x rest J gn vs rem sc g d X h hS y E;exact leaf (.int k) d X h hS E
 |bool=>intro off cs x rest J gn vs rem sc g d X h hS y E;exact leaf .bool d X h hS E
 |unit=>intro off cs x rest J gn vs rem sc g d X h hS y E;exact leaf .unit d X h hS E
 |slice t _ =>
  intro off cs x rest J gn vs rem sc g d X h hS y E;cases X with
  |nil=>simp[JO,Ih,dec] at d
  |cons h1 h2 =>
   rename_i c u r us;simp only[JO] at d;simp only[IJ];split at d
   .rename_i a8;exact leaf (.slice t) d (.cons h1 h2) h hS E
   .rename_i a8;split at d
    .simp only[Qaf] at d;obtain⟨rfl,rfl,rfl,rfl⟩:=d;obtain⟨ad,ev⟩:∃ad,u=.slice ad 0 0:=h1;obtain⟨μ',g1,g2,g3⟩:=Inv.fresh (o:=.arr t []) hB (.arr ad 0 0 t.size) [] E (λb hb=>by cases ad<;>simp[Place.block] at hb) (λb hb=>by cases ad<;>simp[Place.block] at hb) λμ' _ hn=>⟨ad,0,hn,χ _,Qaw _,.inl rfl⟩;exact ⟨[u],us,μ',rfl,h2,g1,g2,.cons ⟨ad,0,0,t.size,g3,ev⟩ .nil⟩
    .rename_i k;split at d
     .rename_i t' l hk;split at d
      .rename_i l' hc;cases d;obtain⟨e1,e2⟩:=Ea hc;subst e1;have e3:l=x:=e2.symm;rw[e3] at hk;have I:st.obj R k=some (.arr t' x):=by simp[St.obj,hk]
       obtain⟨p,hp⟩:=(hS.mem.heap k _ I).some;have ae:k∉rem:=λhm=>(List.nodup_append.1 y).2.2 k (by simp) k hm rfl;obtain⟨μ',g1,g2,g3⟩:=Inv.fresh (o:=.arr t' x) hB p [k] E
        (λb hb=>⟨hS.own k (by simp) _ I p b hp hb,(hS.mem.own k _ I p b hp hb).2⟩)
        (λb hb=>⟨k,_,by simp,ae,I,hp,λk0 af p0 e1 e2 e3=>hS.mem.inj k0 k af _ e1 I p0 p b e2 hp e3 hb⟩)
        λμ' _ hn=>Ns hS.keeps (hS.mem.heap k _ I) hp hn;obtain⟨a1,a2,a3,a4,e1,e2⟩:∃a len cap sz,μ k=some (.arr a len cap sz)/\u=.slice a len cap:=h1;rw[hp] at e1;cases e1;exact ⟨[u],us,μ',rfl,h2,g1,g2,.cons ⟨a1,a2,a3,a4,g3,e2⟩ .nil⟩
      .cases d
     .cases d
    .cases d
 |pair a b ag ah =>
  intro off cs x rest J gn vs rem sc g d X h hS y E;simp only[JO] at d;split at d
  .rename_i x1 r1 f1 g1 ai;split at d
   .rename_i x2 r2 f2 g2 aj;cases d;rw[Qaq] at hS y E;obtain⟨Y,Z,au,rfl,ak,al,aa,an⟩:=ag (rem:=g2++rem) ai X (λk hk=>h k (Qah _ hk)) hS y E;obtain⟨v3,v4,ao,rfl,a7,aq,a6,ar⟩:=ah (rem:=rem) aj ak (λk hk=>h k (Qan _ hk)) {hS with own:=λk hk=>hS.own k (Qan _ hk)} (List.nodup_append.1 y).2.1 al;refine ⟨Y++v3,v4,ao,by simp,a7,?_,aa.trans a6,?_⟩
    .simp only[IJ];exact aq
    .simp only[IJ];exact (an.mono λc _=>Ce (ν.refl _ _) a6 c).append ar
   .cases d
  .cases d
end
section
variable {C:Ctx} {B:Ξ} {R:RO} {st:St} {μ:AI} {O:Nat->Prop} {w:World} {a:Act}
def eM {F n0 w' t l v G} (E:ρ B R st μ F w') (I:¬B.D st.next) (hF:∀b,F b->b<n0) (g:B.base<=n0) (h:BV n0 w' F G t l v) e
 (hrel:ν w O w' λc=>F c\/G=some c) (d:∀k o',st.obj R k=some o'->bε w' (λc=>F c\/G=some c) μ k o') :
 ∃μ',ρ B R {env:=e,heap:=(st.next,.arr t l)::dropKey st.next st.heap,next:=st.next+1} μ' (λc=>F c\/G=some c) w'/\μle μ μ'/\AQ w' (λc=>F c\/G=some c) μ' (.ref st.next) v/\∀k q,μ' k=some q->μ k=some q\/k<st.next+1/\∃o',({env:=e,heap:=(st.next,.arr t l)::dropKey st.next st.heap,next:=st.next+1}:St).obj R k=some o':=by
 obtain⟨ad,cap,J,X,Y,Z⟩:=h;have hG:(Place.arr ad l.length cap t.size).block=G:=by
  rcases Z with ⟨y,hg⟩|⟨b,vs,el,y,hg,ha,_⟩
  .subst y;subst hg;cases ad<;>simp[Place.block]
  .subst hg;subst ha;simp[Place.block,y]
 subst hG;obtain⟨μ',h1,h2,h3,h4⟩:=E.zζ I (.arr ad l.length cap t.size) (.arr t l) (λb hb=>by
  grind)
  (λμ' a1 hn=>⟨ad,cap,hn,X,Y,by grind⟩) d e;exact ⟨μ',h1,h2,⟨_,_,_,_,h3,J⟩,h4⟩
def eN {w' ks rd O1 sr y rs e} (hM:ρ B R st μ O w) (hD:¬B.D st.next) (a7:ρ B R (st.Γ R ks) μ O1 w) (Y:ρ B R (st.Γ R ks) μ O1 w')
 (Z:ν w O w O1) (aa:ν w O1 w' O1) (I:∀x u,BW w O μ x u->BW w O1 μ (My (st.obj R) ks x) u)
 (later:∀G:Option Nat,(∀b,G=some b->w.heap.size<=b)->ν w O1 w' λc=>O1 c\/G=some c)
 (X:∀G:Option Nat,(∀b,G=some b->w.heap.size<=b)->∀k o',(st.Γ R ks).obj R k=some o'->bε w' (λc=>O1 c\/G=some c) μ k o')
 (h:∀ {t} {l} {v} {G},BV w.heap.size w' O1 G t l v->∀b,G=some b->w.heap.size<=b)
 (E:e=DO st ks rd true sr y) (d:Gd w.heap.size w' O1 true sr y rs):BL B R st e μ O w (Cp rs) w':=by
 unfold DO at E;unfold Gd at d;simp only at E d;split at E
 .rename_i _ t l _;simp only at d;obtain⟨v,G,a1,J⟩:=d;subst a1;obtain⟨μ',h1,h2,h3,h9⟩:=eM Y (by rw[Dx];exact hD) (λb hb=>a7.obound b hb) hM.bsize J (st.Γ R ks).env (later G (h J)) (X G (h J));rw[Dx] at h1 h3 h9;subst E;exact BR Z I ⟨h2,later G (h J),h1,h9⟩ λz hz=>by cases hz;exact h3
 .rename_i _ _ t u r yy;simp only at d;obtain⟨v,a6,G,a1,J,g⟩:=d;subst a1;obtain⟨μ',h1,h2,h3,h9⟩:=eM Y (by rw[Dx];exact hD) (λb hb=>a7.obound b hb) hM.bsize J (st.Γ R ks).env (later G (h J)) (X G (h J));rw[Dx] at h1 h3 h9;subst E;refine BR Z I ⟨h2,later G (h J),h1,h9⟩ λz hz=>?_;cases hz;have a8:a6.length≠0:=by
   cases r with
   |nil=>obtain⟨us,_,e0⟩:=g;simp_all
   |cons u2 r2=>obtain⟨us,ab,_,e0,_⟩:=g;simp_all
  refine ⟨(v::a6).toArray,?_,by simpa using π.cons (a:=V1.c (.ref st.next)) h3 (HB (μ:=μ') g)⟩;cases a6 with
  |nil=>simp at a8
  |cons _ _=>rfl
 .subst E;refine BR Z I ⟨μle.refl _,aa,?_,λ_ _ hk=>.inl hk⟩ (λz hz=>by cases hz);exact Y.congr (λk o ek=>by simpa[Bw,St.obj] using ek) (by simp[Dx])
def Hz (own:List Nat) (T:Ty) (off:Nat) (y:T.δ) (s:St):St :=
 {env:=s.env,heap:=Bw (EP own T off y s.next).2.1 s.heap,next:=(EP own T off y s.next).2.2}
def dU {h}:∀ {u v},Bw (u++v) h=Bw v (Bw u h):=by
 intro u;induction u generalizing h with
 |nil=>intro v;rfl
 |cons x u c =>intro v;obtain⟨k,o⟩:=x;cases o<;>exact c
def AbE {own n0 w' J} (ab:B.base<=n0):∀T {off} {y} {us} {Z} {s} {μ} {d},
 ρ B R s μ d w'->(∀k,s.next<=k->k<s.next+T.size->¬B.D k)->Me (BV n0 w' J) w' J own T off y us Z->Z.Nodup->(∀c∈Z,¬d c/\J c)->(∀c,d c->J c)->(∀k o,s.obj R k=some o->bε w' J μ k o) ->
 ∃μ',ρ B R (Hz own T off y s) μ' (λc=>d c\/c∈Z) w'/\μle μ μ'/\π (AQ w' J μ') (EP own T off y s.next).1 us/\(∀k o,(Hz own T off y s).obj R k=some o->bε w' J μ' k o) /\
  (∀k q,μ' k=some q->μ k=some q\/k<(Hz own T off y s).next/\∃o,(Hz own T off y s).obj R k=some o)/\(∀k o,s.obj R k=some o->(Hz own T off y s).obj R k=some o)/\s.next<=(Hz own T off y s).next/\(Hz own T off y s).next<=s.next+T.size:=by
 have leaf:∀T {y:T.δ} {us:List Value} {Z:List Nat} {s:St} {μ:AI} {d:Nat->Prop} {s':St},s'=s->ρ B R s μ d w'->Reads w' J T y us/\Z=[]->(∀k o,s.obj R k=some o->bε w' J μ k o) ->
  ∃μ',ρ B R s' μ' (λc=>d c\/c∈Z) w'/\μle μ μ'/\π (AQ w' J μ') (enc T y) us/\(∀k o,s'.obj R k=some o->bε w' J μ' k o) /\
   (∀k q,μ' k=some q->μ k=some q\/k<s'.next/\∃o,s'.obj R k=some o)/\(∀k o,s.obj R k=some o->s'.obj R k=some o)/\s.next<=s'.next/\s'.next<=s.next+T.size:=λT {y us Z s μ d s'} he hM ⟨g,hG⟩ ho=>by
  subst he;subst hG
  refine ⟨μ,?_,μle.refl _,Fw T g,ho,λk q h=>.inl h,λk o h=>h,χ _,Qfj _ _⟩<;>simp_all
 intro T
 induction T with
 |int k=>intro off y us Z s μ d hM _ g _ _ _ ho;exact leaf (.int k) rfl hM g ho
 |bool=>intro off y us Z s μ d hM _ g _ _ _ ho;exact leaf .bool rfl hM g ho
 |unit=>intro off y us Z s μ d hM _ g _ _ _ ho;exact leaf .unit rfl hM g ho
 |slice t _ =>
  intro off y us Z s μ d hM hD g ae hG hO ho;simp only[Me] at g;cases X:own.any (Nat.beq off) with
  |false =>
   rw[X] at g;have e1:EP own (.slice t) off y s.next=([.sl t y],[],s.next):=by simp only[EP,X]
   have e2:Hz own (.slice t) off y s=s:=by unfold Hz;rw[e1];rfl
   rw[e1];exact leaf (.slice t) e2 hM g ho
  |true =>
   rw[X] at g;obtain⟨v,G,rfl,hf,rfl⟩:=g;have e1:EP own (.slice t) off y s.next=([.ref s.next],[(s.next,some (.arr t y))],s.next+1):=by simp only[EP,X]
   obtain⟨ad,cap,ev,hl,hm,g⟩:=hf;have Y:(Place.arr ad y.length cap t.size).block=G:=by
    rcases g with ⟨E,hg⟩|⟨b,vs,el,E,hg,ha,_⟩
    .subst E;subst hg;cases ad<;>simp[Place.block]
    .subst hg;subst ha;simp[Place.block,E]
   have af:∀b,G=some b->b∈G.toList:=λb hb=>by grind
   have ag:∀c,d c\/G=some c->J c:=λc E=>E.elim (hO c) λh=>(hG c (af c h)).2;have ah:ν w' J w' λc=>d c\/G=some c:=⟨χ _,λb _ hb=>⟨λhh=>hb (ag b hh),rfl⟩⟩;have aa:∀μ',μle μ μ'->μ' s.next=some (.arr ad y.length cap t.size)->bε w' J μ' s.next (.arr t y):=λμ' ai hn=>⟨ad,cap,hn,hl,hm,by
    rcases g with ⟨E,_⟩|⟨b',vs,el,E,hg,ha,h4,h5,h6,h7,h8⟩
    .exact .inl E
    .refine .inr ⟨b',vs,el,ha,h6,h7,h8.mono λ_ _=>Av ⟨χ _,λb _ hb=>⟨λhh=>hb ?_,rfl⟩⟩ t⟩;exact .inl hh⟩;obtain⟨μ',h1,h2,h3,h4⟩:=hM.zζ (hD _ (χ _) (by simp[Ty.size])) (.arr ad y.length cap t.size) (.arr t y) (λb hb=>by
    rw[Y] at hb;refine ⟨(hG b (af b hb)).1,?_⟩;rcases g with ⟨E,hg⟩|⟨b',vs,el,E,hg,ha,h4,h5,_⟩
    .rw[hg] at hb;cases hb
    .rw[hg] at hb;cases hb;exact ⟨Qbh ab h4,h5⟩)
    (λμ' ai hn=>Cx (by rw[Y];exact ah) (μle.refl _) _ (λ_ _ _ _=>rfl) (aa μ' ai hn))
    (λk o' I=>Cx (by rw[Y];exact ah) (μle.refl _) o' (λ_ _ _ _=>rfl) (ho k o' I)) s.env;have e2:Hz own (.slice t) off y s={env:=s.env,heap:=(s.next,.arr t y)::dropKey s.next s.heap,next:=s.next+1}:=by unfold Hz;rw[e1];rfl
   rw[e1,e2];have eO:(λc=>d c\/c∈G.toList)=λc=>d c\/(Place.arr ad y.length cap t.size).block=some c:=by funext c;rw[Y];cases G<;>simp[eq_comm]
   have aj:∀k o,s.obj R k=some o->k≠s.next:=λk o I e=>by subst e;obtain⟨p,hp⟩:=(hM.heap _ o I).some;exact (hM.dom _ p hp).elim (Qcm _) (hD _ (χ _) (by simp[Ty.size]))
   refine ⟨μ',by rw[eO];exact h1,h2,.cons ⟨ad,y.length,cap,t.size,h3,ev⟩ .nil,λk o I=>?_,h4,λk o I=>?_,Nat.le_succ _,by simp[Ty.size]⟩
   .rw[Dv] at I;by_cases e:k=s.next
    .rw[if_pos e] at I;cases I;subst e;exact aa μ' h2 h3
    .rw[if_neg e] at I;exact Cx (ν.refl _ _) h2 o (λ_ _ _ _=>rfl) (ho k o I)
   .rw[Dv,if_neg (aj k o I)];exact I
 |pair a b ak al =>
  intro off y us Z s μ d hM hD g ae hG hO ho;obtain⟨u1,u2,G1,G2,rfl,rfl,r1,r2⟩:=g;obtain⟨n1,n2,n3⟩:=List.nodup_append.1 ae;simp only[Ty.size] at hD;obtain⟨ao,a1,a2,a3,a4,a5,a6,a7,a8⟩:=ak hM (λk h1 h2=>hD k h1 (by omega)) r1 n1 (λc E=>hG c (Qah _ E)) hO ho;obtain⟨an,b1,b2,b3,b4,b5,b6,b7,b8⟩:=al a1 (λk h1 h2=>hD k (Qbh a7 h1) (by omega)) r2 n2 (λc E=>⟨λhh=>hh.elim (hG c (Qan _ E)).1 λh=>n3 c h c E rfl,(hG c (Qan _ E)).2⟩)
   (λc E=>E.elim (hO c) λh=>(hG c (Qah _ h)).2) a4;have e1:Hz own (.pair a b) off y s=Hz own b (off+a.size) y.2 (Hz own a off y.1 s):=by unfold Hz;simp only[EP,dU]
  have eO:(λc=>d c\/c∈G1++G2)=λc=>(d c\/c∈G1)\/c∈G2:=by funext c;simp only[Qck,or_assoc]
  rw[e1,eO];refine ⟨an,b1,a2.trans b2,?_,b4,λk q I=>?_,λk o I=>b6 k o (a6 k o I),Qbh a7 b7,by simp only[Ty.size];omega⟩
  .simp only[EP];exact (a3.mono λc _=>Ce (ν.refl _ _) b2 c).append b3
  .rcases b5 k q I with h|h
   .rcases a5 k q h with h|⟨h,o,h'⟩
    .exact .inl h
    .exact .inr ⟨Qac h b7,o,b6 k o h'⟩
   .exact .inr h
def kT {o f vs E out e} (hC:DG C B) (hM:ρ B R st μ O w) (hD:∀k,st.next<=k->k<st.next+16->¬B.D k) (hv:π (Cl w O μ) vs E) (Z:(execOp a.eval o).run C.P w=(callFunc f E.toArray).run C.P w)
 (h:Ml C R st f vs=some out) (he:out.run=some e) (a8:JD R e=true):dε C.P o a w (BL B R st e μ O w):=by
  unfold Ml at h;split at h
  .rename_i ts t own fn aa;have hm:=hC.2.2.2.2.1 f _ aa;split at h
   .rename_i x ks hx a1;have a1:=Qbe a1;cases h;obtain⟨y,hy,rfl⟩:∃y,fn x=some y/\e=Va st ks own t y:=by
     cases hq:fn x with
     |none=>rw[υ.run,hq] at he;cases he
     |some y=>rw[υ.run,hq] at he<;>simp_all
    have ab:(Va st ks own t y).Γ=ks:=rfl;obtain⟨O1,I,a6,ad,aj⟩:=Gr hM ks (by rw[<-ab];exact Kd a8) (Gn hx);refine .inr (.inr ⟨f,_,Z.trans (hm.enters _ w),?_⟩);refine (hm.calls w O1 _ x y (hC.2.1 w hM.below) (λb J=>I.obound b J) (Cm a6 hM.heap hx hv ad) hy).mono λe' w' ⟨us,X,ae,d,af,Y⟩=>⟨.agg us,ae,?_⟩;obtain⟨ag,ak⟩:=I.grow d;have a7:∀T {off:Nat} {y:T.δ} {us:List Value} {X:List Nat} {Ft:Nat->Prop},Me (BV w.heap.size w' Ft) w' Ft own T off y us X->∀b∈X,w.heap.size<=b:=by
     intro T;induction T with
     |int k=>intro off y us X Ft h b J;rw[h.2] at J;cases J
     |bool=>intro off y us X Ft h b J;rw[h.2] at J;cases J
     |unit=>intro off y us X Ft h b J;rw[h.2] at J;cases J
     |slice t _ =>
      intro off y us X Ft h b J;simp only[Me] at h;split at h
      .obtain⟨v,G,_,⟨_,_,_,_,_,hr⟩,rfl⟩:=h<;>grind
      simp_all
     |pair a b al an =>intro off y us X Ft ⟨u1,u2,G1,G2,_,hG,r1,r2⟩ c hc<;>grind
    have a7:=a7 t Y;have g:ν w O1 w' λc=>O1 c\/c∈X:=⟨d.size,λb ah hO=>⟨λh=>h.elim hO λh=>by grind,d.block b ah⟩⟩;obtain⟨μ',h1,h2,h3,h4,h5,h6,h7,h8⟩:=AbE hM.bsize t ag (λk k1 k2=>hD k (by rwa [Dx] at k1) (by rw[Dx] at k2;omega)) Y af (λc hc=>⟨λhh=>by have:=I.obound c hh<;>grind,.inr hc⟩) (λc hc=>.inl hc)
     λk o' hk=>Cx g (μle.refl _) o' (λp b hp ai=>d.block b (I.own k o' hk p b hp ai).2.2) (I.heap k o' hk);have e1:Hz own t 0 y (st.Γ R ks)={env:=(st.Γ R ks).env,heap:=Bw (Va st ks own t y).upd (st.Γ R ks).heap,next:=(Va st ks own t y).next}:=by unfold Hz Va;rw[Dx]
    rw[e1] at h1 h5;refine BR a6 (by simp_all) ⟨h2,g,h1,h5⟩ λz hz=>?_;cases hz;refine ⟨us,rfl,?_⟩;rw[Dx] at h3;exact h3
   .cases h
  .cases h
def vI {cs o t l} (h:zL cs o t=some l):cs[o]?=some (.sl t l):=by
 unfold zL at h;split at h
 .rename_i t' l' c;obtain⟨d,g⟩:=Ea h<;>simp_all
 .cases h
def Yd {cs}:∀ {los} {x} {i} {c},jW cs los=some x->GV los x i=some c->cs[i]?=some c
 |[],_,_,_,_,h=>by cases h
 |[z],x,i,c,h,d=>by
  simp only[GV] at d;split at d
  .rename_i e;cases d;rw[<-beq_true e];exact vI h
  .cases d
 |z::y::r,x,i,c,h,d=>by
  simp only[jW] at h;split at h
  .rename_i p q g t;cases h;simp only[GV] at d;split at d
   .rename_i e;cases d;rw[<-beq_true e];exact vI g
   .exact Yd t d
  .cases h
def OI:∀ {los} {x} {i} {c},GV los x i=some c->∃t l,c=.sl t l
 |[],_,_,_,h=>by cases h
 |[z],x,i,c,h=>by simp only[GV] at h<;>grind
 |z::y::r,x,i,c,h=>by
  simp only[GV] at h;split at h
  .grind
  .exact OI h
def Sd {α β:Type} {P:α->β->Prop}:∀ {l:List α} {m},π P l m->∀(i:Nat) x,l[i]?=some x->∃y,m[i]?=some y/\P x y
 |_,_,.nil,i,x,h=>by simp at h
 |_,_,.cons h1 c,0,x,h=>by simp_all
 |_,_,.cons h1 c,i+1,x,h=>by simpa using Sd c i x (by simpa using h)
def Rn {α β P}:∀ {l} {m:List β},l.length=m.length->(∀(i:Nat) (x:α),l[i]?=some x->∃y,m[i]?=some y/\P x y)->π P l m
 |[],[],_,_=>.nil
 |[],_::_,h,_=>by cases h
 |_::_,[],h,_=>by cases h
 |a::l,b::m,h,g=>by obtain⟨y,c,d⟩:=g 0 a rfl;cases c;exact .cons d (Rn (by simpa using h) λi x t=>by simpa using g (i+1) x (by simpa using t))
def kR {o f vs Y out e} (hC:DG C B) (g:ρ B R st μ O w) (hv:π (Cl w O μ) vs Y) (ab:(execOp a.eval o).run C.P w=(callFunc f Y.toArray).run C.P w)
 (h:Mk C R st f vs=some out) (he:out.run=some e):dε C.P o a w (BL B R st e μ O w):=by
  unfold Mk at h;split at h
  .rename_i size los ts rs fn k rest ak;have hm:=hC.2.2.2.2.2 f _ ak;split at h
   .rename_i cs hk;split at h
    .rename_i x xs al hx an;cases h;obtain⟨y,hy,rfl⟩:∃y,fn (Da ts x xs)=some y/\e=II st k [] rs y:=by
      cases hq:fn (Da ts x xs) with
      |none=>rw[υ.run,hq] at he;cases he
      |some y=>rw[υ.run,hq] at he<;>simp_all
     cases hv with
     |cons h1 h2 =>
      rename_i v af;obtain⟨b,a1,rfl⟩:AQ w O μ (.ptr k 0) v:=h1;obtain⟨b',cur,el,a8,ag,d⟩:=g.heap k (.box cs) hk;rw[a1] at a8;cases a8;have ah:=d.length;have I:=g.own k _ hk _ b a1 rfl;refine .inr (.inr ⟨f,_,ab.trans (hm.enters _ w),?_⟩);refine (hm.calls B.base w O b el cur af x xs y (λw' hb=>hC.2.1 w' (g.below.trans hb)) I.2.1.1 g.bsize g.obound I.1 ag (by simpa[beq_true al] using ah.symm) (λu hu=>?_) (λi c hi=>?_) (Cm (ν.refl w O) g.heap an h2 λj Z=>by cases Z) hy).mono λe' w' ⟨rv,ai,ao,aq,aa,E,ad,ay,ar,az,au⟩=>⟨Cp rv,aq,?_⟩
      .obtain⟨i,hi⟩:=List.mem_iff_getElem?.1 hu;have av:i<cs.length:=by grind
       obtain⟨u',a6,hr⟩:=Sd d i cs[i] (by simp[av]);rw[hi] at a6;cases a6;exact ⟨VP _ hr,Pg _ hr⟩
      .obtain⟨u,hu,hr⟩:=Sd d i c (Yd hx hi);obtain⟨t,l,rfl⟩:=OI hi;exact ⟨u,by rwa [Qav] at hu,hr⟩
      .have X:ν w O w' O:=⟨aa.size,λc J hO=>⟨hO,E c J λe=>hO (e▸I.1)⟩⟩;have aj:∀j oj p c,st.obj R j=some oj->j≠k->μ j=some p->p.block=some c->w'.heap[c]?=w.heap[c]?:=λj oj p c Z a7 hp J=>E c (g.own j oj Z p c hp J).2.2 λe=>a7 (by subst e;exact g.inj j k oj _ Z hk p _ c hp a1 J rfl);have aw:= {g with
        heap:=λj oj Z=>by
         by_cases a7:j=k
         .subst a7;rw[hk] at Z;cases Z;refine ⟨b,ai,ao,a1,ad,Rn (by grind) λi c hi=>?_⟩;obtain⟨u,hu,hr⟩:=Sd d i c hi;cases ae:GV los x i with
          |none=>exact ⟨u,by grind,Ce X (μle.refl _) _ hr⟩
          |some c' =>have:=Yd hx ae;rw[hi] at this;cases this;obtain⟨u',a6,ax⟩:=ar i c ae;obtain⟨t,l,rfl⟩:=OI ae;exact ⟨u',by rw[Qav];exact a6,ax⟩
         .exact Cx X (μle.refl _) oj (λp c hp J=>aj j oj p c Z a7 hp J) (g.heap j oj Z)
        own:=λj oj Z p c hp J=>by have:=g.own j oj Z p c hp J;exact ⟨this.1,this.2.1,Qac this.2.2 X.1⟩
        flt:=λc J=>(E c (g.obound c (g.foreign c J)) λe=>I.2.1.2 (e▸J)).trans (g.flt c J)
        below:=g.below.trans aa
        bsize:=Qbh g.bsize X.1
        obound:=λc J=>Qac (g.obound c J) X.1};refine BR (ν.refl _ _) (λx u hx=>Cn hx g.heap) ⟨μle.refl _,X,?_,λ_ _ hk=>.inl hk⟩ λz hz=>?_
       .exact aw.congr (λk o ek=>by simpa[II,Bw,St.Γ,St.obj] using ek) (by simp[II])
       .cases hz;exact IZ (HB au)
    .cases h
   .cases h
  .cases h
def AeJ {ks k cs} (h:assoc st.heap k=some (.box cs)) (d:k∉ks):∃c,(st.Γ R ks).obj R k=some (.box c):=by
 cases ks with
 |nil=>exact ⟨cs,by simp[St.Γ,St.obj,h]⟩
 |cons j r =>refine ⟨cs.map (LM (st.obj R) (j::r)),?_⟩;simp only[St.Γ,St.obj,F7,d,if_false,h,Qai,X4]
def kP {o f vs a6 out e} (hC:DG C B) (J:ρ B R st μ O w) (hv:π (Cl w O μ) vs a6) (a7:(execOp a.eval o).run C.P w=(callFunc f a6.toArray).run C.P w)
 (h:I5 C R st f vs=some out) (he:out.run=some e) (ax:JD R e=true):dε C.P o a w (BL B R st e μ O w):=by
  unfold I5 at h;split at h
  .rename_i t0 a8 rs fn tot k rest af;have hm:=hC.2.2.1 f _ af;split at h
   .rename_i cs hk ay;split at h
    .rename_i x f0 xs f1 hd hx;have hy:∃y,fn (Da a8 x xs)=some y/\e=II st k (f0++f1) rs y:=by
      split at h
      .rename_i g;cases h;simp only[υ.run,Qaf] at he;exact ⟨_,hm.tot g rfl _,he.symm⟩
      .cases h;cases hq:fn (Da a8 x xs) with
       |none=>rw[υ.run,hq] at he;cases he
       |some y=>rw[υ.run,hq] at he<;>simp_all
     obtain⟨y,hy,ag⟩:=hy;subst ag;have X:∀j∈f0++f1,∃t l,st.obj R j=some (.arr t l):=λj d=>by
      rcases List.mem_append.1 d with d|d
      .exact GN t0 hd j d
      .exact Nr hx j d
     cases hv with
     |cons h1 h2 =>
      rename_i v aa;obtain⟨b,Y,rfl⟩:=h1;obtain⟨b',cur,el,I,ab,E⟩:=J.heap k (.box cs) hk;rw[Y] at I;cases I;let F:= λc=>(O c/\c≠b)/\∀j∈f0++f1,∀p,μ j=some p->p.block≠some c;have hK:ν w O w F:=⟨χ _,λc _ hc=>⟨λhh=>hc hh.1.1,rfl⟩⟩;have ad:∀j∈f0++f1,∀p c,μ j=some p->p.block=some c->¬F c/\c<w.heap.size:=λj d p c hp hc=>by obtain⟨t,l,az⟩:=X j d;exact ⟨λhh=>hh.2 j d p hp hc,(J.own j _ az p c hp hc).2.2⟩
      obtain⟨a1,a2,e1,ah,ai⟩:=Ee hK J.heap t0 hd E λj d=>ad j (Qah _ d);cases ai;rw[Qbd] at e1;subst e1;refine .inr (.inr ⟨f,_,a7.trans (hm.enters _ w),?_⟩);refine (hm.calls w F b el cur aa x xs y (hC.2.1 w J.below) (λc hc=>J.obound c hc.1.1) (λhh=>hh.1.2 rfl) (J.own k _ hk _ b Y rfl).2.2 ab ah (Cm hK J.heap hx h2 λj d=>ad j (Qan _ d)) hy).mono λe' w' ⟨rv,aj,Z,ak⟩=>⟨Cp rv,aj,?_⟩;obtain⟨aB,aP⟩:=J.grow Z;refine BR (ν.refl _ _) (λx u hx=>Cn hx J.heap) ⟨μle.refl _,aP,?_,λ_ _ hk=>.inl hk⟩ λz hz=>?_
      .exact aB.congr (λk o ek=>by simpa[II,Bw,St.Γ,St.obj] using ek) (by simp[II])
      .cases hz;exact IZ (HB (Hb ay ak))
    .cases h
   .cases h
  .rename_i t0 a8 t1 rs fn tot k rest af;have hm:=hC.2.2.1 f _ af;split at h
   .rename_i cs hk;split at h
    .rename_i x f0 xs f1 hd hx;have hy:∃y,fn (Da a8 x xs)=some y/\e=Qb st k (f0++f1) t1 rs y:=by
      split at h
      .rename_i g;cases h;simp only[υ.run,Qaf] at he;exact ⟨_,hm.tot g rfl _,he.symm⟩
      .cases h;cases hq:fn (Da a8 x xs) with
       |none=>rw[υ.run,hq] at he;cases he
       |some y=>rw[υ.run,hq] at he<;>simp_all
     obtain⟨y,hy,ag⟩:=hy;subst ag;have X:∀j∈f0++f1,∃t l,st.obj R j=some (.arr t l):=λj d=>by
      rcases List.mem_append.1 d with d|d
      .exact GN t0 hd j d
      .exact Nr hx j d
     have b0:k∉f0++f1:=λd=>by obtain⟨t,l,hh⟩:=X k d;simp[St.obj,hk] at hh
     obtain⟨O1,al,an,ar,au⟩:=Gr J (f0++f1) (Kd ax) (λj d=>by grind);cases hv with
     |cons h1 h2 =>rename_i v aa;obtain⟨b,Y,rfl⟩:=h1;obtain⟨b',cur,el,I,ab,E⟩:=J.heap k (.box cs) (by simp[St.obj,hk]);rw[Y] at I;cases I;obtain⟨a1,a2,e1,ah,ai⟩:=Ee an J.heap t0 hd E λj d=>ar j (Qah _ d);cases ai;rw[Qbd] at e1;subst e1;obtain⟨b7,av⟩:=AeJ hk b0;have ae:=al.own k _ av _ b Y rfl;refine .inr (.inr ⟨f,_,a7.trans (hm.enters _ w),?_⟩);refine (hm.calls B.base w O1 b el cur aa x xs y (λw' hb=>hC.2.1 w' (J.below.trans hb)) ae.2.1.1 J.bsize (λc hc=>al.obound c hc) ae.1 ab ah (Cm an J.heap hx h2 λj d=>ar j (Qan _ d)) hy).mono λe' w' ⟨rv,aw,b1,aj,Z,ao,aq,b2,ak⟩=>⟨Cp rv,aj,?_⟩;have hW:=al.vζ av Y rfl (.box (enc t1 (HW rs y))) Z.size (λc hc b3=>ao c hc b3) Z (λ_=>⟨b,aw,b1,Y,aq,Fw t1 b2⟩) (st.Γ R (f0++f1)).env;rw[Dx] at hW;refine BR an au hW λz hz=>?_;cases hz;exact IZ (HB ak)
    .cases h
   .cases h
  .cases h
def Afc {w':World} (Y:ρ B R st μ O w) (hD:¬B.D st.next) {G G':Option Nat} (gone:List (Nat×Option Ψ)) {st1:St} (af:st1.heap=Bw gone st.heap) (g:∀j o,st1.obj R j=some o->st.obj R j=some o/\∀p b,μ j=some p->p.block=some b->G≠some b)
 (hG:∀b,G=some b->O b/\B.base<=b/\¬B.F b) (J:Below B.base w w') (aa:∀c,c<w.heap.size->G≠some c->w'.heap[c]?=w.heap[c]?) (ab:∀b,G'=some b->G=some b\/w.heap.size<=b) {t:Ty} {l:List t.δ} {v:Value} (hf:BV B.base w' O G' t l v) (e:Env) :
 ∃μ',ν w O w' (λc=>O c\/G'=some c)/\ρ B R {env:=e,heap:=(st.next,.arr t l)::dropKey st.next (Bw gone st.heap),next:=st.next+1} μ' (λc=>O c\/G'=some c) w'/\μle μ μ'/\AQ w' (λc=>O c\/G'=some c) μ' (.ref st.next) v/\∀k q,μ' k=some q->μ k=some q\/k<st.next+1/\∃o',({env:=e,heap:=(st.next,.arr t l)::dropKey st.next (Bw gone st.heap),next:=st.next+1}:St).obj R k=some o':=by
 have hK:ν w O w' λc=>O c\/G'=some c:=⟨J.size,λb E hO=>⟨λhh=>hh.elim hO λh=>(ab b h).elim (λh=>hO (hG b h).1) λh=>by omega,aa b E λh=>hO (hG b h).1⟩⟩;obtain⟨ad,cap,ev,hl,hm,hr⟩:=hf;have a8:∀q,μ st.next=some q->False:=λq e=>(Y.dom _ _ e).elim (Qcm _) hD;have a1:(Place.arr ad l.length cap t.size).block=G':=by
  rcases hr with ⟨hc,hg⟩|⟨b,vs,el,hc,hg,ha,_⟩
  .subst hc;subst hg;cases ad<;>simp[Place.block]
  .subst hg;subst ha;simp[Place.block,hc]
 generalize hp:Place.arr ad l.length cap t.size=p at a1;have ag:=μle_set (p:=p) a8;have X:μset μ st.next p st.next=some p:=by simp[μset]
 have d:∀k,k≠st.next->μset μ st.next p k=μ k:=λk hk=>by simp[μset,hk]
 have a6:∀k,({env:=e,heap:=(st.next,.arr t l)::dropKey st.next (Bw gone st.heap),next:=st.next+1}:St).obj R k=if k=st.next then some (.arr t l) else st1.obj R k:=λk=>by have h1:=Dv (R:=R) (st:=st1) (k:=st.next) (k':=k) (o:=.arr t l) (n:=st.next+1) (e:=e);rw[af] at h1;exact h1
 have Z:∀k o q b,st1.obj R k=some o->μ k=some q->q.block=some b->w'.heap[b]?=w.heap[b]?/\b<w.heap.size/\G'≠some b:=λk o q b hk I E=>by have h1:=Y.own k o (g k o hk).1 q b I E;have h2:=(g k o hk).2 q b I E;exact ⟨aa b h1.2.2 h2,h1.2.2,λh=>(ab b h).elim h2 λh=>by omega⟩
 refine ⟨μset μ st.next p,hK,{heap:=λk o' e'=>?_,own:=λk o' e' q b I E=>?_,inj:=λk k' o1 o2 e1 e2 q q' b I a7 E ae=>?_,foreign:=λb E=>.inl (Y.foreign b E),flt:=λb E=>(aa b (Y.obound b (Y.foreign b E)) λh=>(hG b h).2.2 E).trans (Y.flt b E),dom:=λk q I=>?_,below:=Y.below.trans J,bsize:=Qbh Y.bsize J.size,obound:=λb E=>E.elim (λh=>Qac (Y.obound b h) J.size) λh=>?_},ag,⟨ad,l.length,cap,t.size,by rw[hp];exact X,ev⟩,λk q I=>?_⟩
 .rw[a6] at e';by_cases y:k=st.next
  .rw[if_pos y] at e';cases e';subst y;refine ⟨ad,cap,by rw[hp];exact X,hl,hm,?_⟩;rcases hr with ⟨hc,_⟩|⟨b',vs,el,hc,hg,ha,h4,h5,h6,h7,h8⟩
   .exact .inl hc
   .exact .inr ⟨b',vs,el,ha,h6,h7,h8⟩
  .rw[if_neg y] at e';exact Cx hK ag o' (λq b I E=>(Z k o' q b e' I E).1) (Y.heap k o' (g k o' e').1)
 .rw[a6] at e';by_cases y:k=st.next
  .subst y;rw[X] at I;cases I;rw[a1] at E;rcases hr with ⟨_,hg⟩|⟨b',vs,el,hc,hg,ha,h4,h5,_⟩
   .rw[hg] at E;cases E
   .rw[hg] at E;cases E;refine ⟨.inr hg,⟨h4,λhF=>?_⟩,h5⟩;have ah:=Y.obound _ (Y.foreign _ hF);exact (ab _ hg).elim (λh=>(hG _ h).2.2 hF) λh=>by omega
  .rw[if_neg y] at e';rw[d k y] at I;have h1:=Y.own k o' (g k o' e').1 q b I E;exact ⟨.inl h1.1,h1.2.1,Qac h1.2.2 J.size⟩
 .rw[a6] at e1 e2;by_cases h1:k=st.next<;>by_cases h2:k'=st.next
  .rw[h1,h2]
  .exfalso;subst h1;rw[X] at I;cases I;rw[if_neg h2] at e2;rw[d k' h2] at a7;exact (Z k' o2 q' b e2 a7 ae).2.2 (a1▸E)
  .exfalso;subst h2;rw[X] at a7;cases a7;rw[if_neg h1] at e1;rw[d k h1] at I;exact (Z k o1 q b e1 I E).2.2 (a1▸ae)
  .rw[if_neg h1] at e1;rw[if_neg h2] at e2;rw[d k h1] at I;rw[d k' h2] at a7;exact Y.inj k k' o1 o2 (g k o1 e1).1 (g k' o2 e2).1 q q' b I a7 E ae
 .by_cases y:k=st.next
  .subst y;exact .inl (Qcx _)
  .rw[d k y] at I;exact (Y.dom k q I).imp Qca id
 .rcases hr with ⟨_,hg⟩|⟨b',vs,el,hc,hg,ha,h4,h5,_⟩
  .rw[hg] at h;cases h
  .rw[hg] at h;cases h;exact h5
 .by_cases y:k=st.next
  .subst y;exact .inr ⟨Qcx _,.arr t l,by rw[a6];simp⟩
  .rw[d k y] at I;exact .inl I
def Th {n0 F c G t l v} (d:t.eε=false):BV n0 w F G t l v->BV n0 w c G t l v:=λ⟨a,cap,h1,g,h,h4⟩ =>
 ⟨a,cap,h1,g,h,h4.imp id λ⟨b,vs,e,y,g1,E,I,J,X,Y,Z⟩=>⟨b,vs,e,y,g1,E,I,J,X,Y,Z.mono λ_ _=>FE t d⟩⟩
def kM {o f vs a6 out e} (hC:DG C B) (E:ρ B R st μ O w) (hD:¬B.D st.next) (hv:π (Cl w O μ) vs a6) (a7:(execOp a.eval o).run C.P w=(callFunc f a6.toArray).run C.P w)
 (h:H9 C R st f vs=some out) (X:out.run=some e):dε C.P o a w (BL B R st e μ O w):=by
  unfold H9 at h;split at h
  .rename_i t ts t' rs fr fn tot c rest ak;have hm:=hC.2.2.2.1 f _ ak;split at h
   .rename_i xs f1 a8 hx;simp only[Qbv] at a8;cases hv with
    |cons h1 h2 =>
     rename_i v aa;have aw:= λj I=>Nr hx j I;let F:= λc=>O c/\∀j∈f1,∀p,μ j=some p->p.block≠some c;have hK:ν w O w F:=⟨χ _,λc _ Y=>⟨λhh=>Y hh.1,rfl⟩⟩;have ab:∀j∈f1,∀p c,μ j=some p->p.block=some c->¬F c/\c<w.heap.size:=λj I p c J Y=>by obtain⟨t,l,al⟩:=aw j I;exact ⟨λhh=>hh.2 j I p J Y,(E.own j _ al p c J Y).2.2⟩
     have fin:∀l gone rd G y (st1:St),kA B.base w F G t l v->fn (Da ts l xs)=some y->e=JR st gone rd t' rs y->st1.heap=Bw gone st.heap ->
      (∀j o,st1.obj R j=some o->st.obj R j=some o/\∀p b,μ j=some p->p.block=some b->G≠some b)->(∀b,G=some b->O b/\B.base<=b/\¬B.F b)->(∀ae:St,Bw (gone++[(ae.next,some (.arr t' (HW rs y)))]) ae.heap=(ae.next,.arr t' (HW rs y))::dropKey ae.next (Bw gone ae.heap))->dε C.P o a w (BL B R st e μ O w):=λl gone rd G y st1 af hy Z b0 b1 b2 ax=>by
      refine .inr (.inr ⟨f,_,a7.trans (hm.enters _ w),?_⟩)
      refine (hm.calls B.base w F G v l aa xs y (λw' hb=>hC.2.1 w' (E.below.trans hb)) E.bsize (λc Y=>E.obound c Y.1) af (Cm hK E.heap hx h2 ab) hy a8.1 a8.2).mono λe' w' ⟨b3,b7,G',an,ag,b8,ba,bb,bc⟩=>⟨Cp (b3::b7),an,?_⟩
      obtain⟨μ',k1,k2,k3,k4,k5⟩:=Afc E hD gone b0 b1 b2 ag b8 ba (Th a8.1 bb) st.env
      subst Z
      refine BR (ν.refl _ _) (λx u hx=>Cn hx E.heap) ⟨k3,k1,?_,?_⟩ λz hz=>?_
      .have:=ax st;simp only[JR,St.Γ,this]<;>omega
      .have:=ax st;simp only[JR,St.Γ,this]<;>omega
      .cases hz;exact IZ (.cons k4 (HB (Hb a8.2 bc)))
     split at h
     .obtain⟨ad,rfl⟩:=h1;have a1:=λy hy Z=>fin [] [] f1 none y st ⟨ad,0,rfl,χ _,Qaw _,.inl ⟨rfl,rfl⟩⟩ hy Z rfl (λj o I=>⟨I,λ_ _ _ _ h=>by cases h⟩) (λb h=>by cases h) λ_=>rfl;split at h
      .rename_i g;cases h;simp only[υ.run,Qaf] at X;exact a1 _ (hm.tot g rfl _) X.symm
      .cases h;cases hq:fn (Da ts ([]:List t.δ) xs) with
       |none=>rw[υ.run,hq] at X;cases X
       |some y=>rw[υ.run,hq] at X<;>grind
     .rename_i k;split at h
      .rename_i T l0 hk bd ay;split at h
       .rename_i l Y;obtain⟨e1,e2⟩:=Ea Y;subst e1;have e3:l0=l:=e2.symm;rw[e3] at hk;have d:st.obj R k=some (.arr T l):=by simp[St.obj,hk]
        obtain⟨ad,len,cap,sz,J,rfl⟩:AQ w O μ (.ref k) v:=h1;obtain⟨bf,az,ah,hl,ao,hr⟩:=E.heap k _ d;rw[J] at ah;cases ah;have aB:∀b,(Place.arr ad l.length cap T.size).block=some b->F b:=λb hb=>by refine ⟨(E.own k _ d _ b J hb).1,λj I p aq ar=>(λbg=>by rw[any_beq.2 bg] at ay;cases ay) ?_⟩;obtain⟨tj,lj,bh⟩:=aw j I;rw[E.inj k j _ _ d bh _ p b J aq hb ar];exact I
        have af:kA B.base w F (Place.arr ad l.length cap T.size).block T l (.slice ad l.length cap):=by
         refine ⟨ad,cap,rfl,hl,ao,?_⟩;by_cases ai:cap=0
         .left;subst ai;refine ⟨rfl,?_⟩;cases ad<;>simp[Place.block]
         .right;rcases hr with hr|⟨b,vs,el,ea,au,hs,aP⟩
          .exact absurd hr ai
          .have av:(Place.arr ad l.length cap T.size).block=some b:=by rw[ea];simp[Place.block,ai]
           exact ⟨b,vs,el,ai,av,ea,aB b av,(E.own k _ d _ b J av).2.1.1,au,hs,aP.mono λ_ _=>Av hK T⟩
        have a1:=λy hy Z=>fin l [(k,none)] (k::f1) (Place.arr ad l.length cap T.size).block y {env:=st.env,heap:=dropKey k st.heap,next:=st.next} af hy Z rfl (λj o I=>by
         rw[Ym (fε.2 bd)] at I;split at I
         .cases I
         .rename_i bj;exact ⟨I,λp b aq ar hG=>bj (E.inj j k o _ I d p _ b aq J ar hG)⟩)
         (λb hb=>⟨(E.own k _ d _ b J hb).1,(E.own k _ d _ b J hb).2.1⟩) λ_=>rfl;split at h
        .rename_i g;cases h;simp only[υ.run,Qaf] at X;exact a1 _ (hm.tot g rfl _) X.symm
        .cases h;cases hq:fn (Da ts l xs) with
         |none=>rw[υ.run,hq] at X;cases X
         |some y=>rw[υ.run,hq] at X;cases X;exact a1 y hq rfl
       .cases h
      .cases h
     .cases h
   .cases h
  .rename_i ts fr fn tot k rest ak;have hm:=hC.2.2.2.1 f _ ak;split at h
   .rename_i T l xs f1 hk hx;split at h
    .rename_i bk;cases h;obtain⟨y,hy,Z⟩:∃y,fn (Da ts (Aa l) xs)=some y/\e=X0 st k f1 y:=by
      cases hq:fn (Da ts (Aa l) xs) with
      |none=>rw[υ.run,hq] at X;cases X
      |some y=>rw[υ.run,hq] at X;cases X;exact ⟨y,rfl,rfl⟩
     subst Z;cases hv with
     |cons h1 h2 =>
      rename_i v aa;obtain⟨us,rfl,bl⟩:∃us,v=.agg us/\π (AQ w O μ) [.ref k] us.toList:=h1;obtain⟨us⟩:=us;cases bl with
      |cons g1 g2 =>
      rename_i u bs;cases g2;obtain⟨ad,len,cap,sz,J,rfl⟩:AQ w O μ (.ref k) u:=g1;obtain⟨bf,az,ah,hl,ao,hr⟩:=E.heap k _ hk;rw[J] at ah;cases ah;let F:= λc=>O c/\∀j∈f1,∀p,μ j=some p->p.block≠some c;have ab:∀j∈f1,∀p c,μ j=some p->p.block=some c->¬F c/\c<w.heap.size:=λj I p c J Y=>by obtain⟨t,l,al⟩:=(λj I=>Nr hx j I) j I;exact ⟨λhh=>hh.2 j I p J Y,(E.own j _ al p c J Y).2.2⟩
      have bm:=Cm ⟨χ _,λc _ Y=>⟨λhh=>Y hh.1,rfl⟩⟩ E.heap hx h2 ab;refine .inr (.inr ⟨f,_,a7.trans (hm.enters _ w),?_⟩);obtain⟨aj,bn⟩:=hm.calls w F ad l.length cap aa xs y (hC.2.1 w E.below) (λc Y=>E.obound c Y.1) hl ao (hr.imp id λ⟨b,vs,el,ea,_⟩=>⟨b,ea⟩) bm hy;refine bn.mono λe' w' ⟨ag,a',c',an,bo,bp⟩=>⟨_,an,?_⟩;obtain⟨bq,br⟩:=E.grow ag;refine BR (ν.refl _ _) (λx u hx=>Cn hx E.heap) ⟨μle.refl _,br,?_,λ_ _ hk=>.inl hk⟩ λz hz=>?_
      .exact bq.congr (λk o ek=>by simpa[X0,Bw,St.Γ,St.obj] using ek) (by simp[X0])
      .cases hz;refine ⟨ad,l.length,cap,T.size,a',c',J,aj,rfl,bo,bp.imp id λ⟨b,h1,h2⟩=>⟨b,h1,?_⟩⟩;rw[h2,Nat.eq_of_beq_eq_true bk,Qch]
    .cases h
   .cases h
  .cases h
def AcQ {n0 F X sp y rs} (c:JX sp=true) (h:Gd n0 w F true sp.res y rs):Gd n0 w X true sp.res y rs:=by
 obtain⟨args,res,fresh,fn,tot⟩:=sp;simp only at y h ⊢;have Y:∀ {t:Ty} {l:List t.δ} {v:Value} {G:Option Nat},t.eε=false->BV n0 w F G t l v->BV n0 w X G t l v:=λ{t l v G} Z ⟨a,cap,h1,h2,h3,h4⟩ =>⟨a,cap,h1,h2,h3,h4.imp id λ⟨b,vs,e,g0,g1,g2,g3,g4,g5,g6,g7⟩=>⟨b,vs,e,g0,g1,g2,g3,g4,g5,g6,g7.mono λ_ _=>FE t Z⟩⟩;unfold JX at c;split at c
 .rename_i t r E d;simp only at E d;subst d;simp only[Qal,Qbv] at c;cases r with
  |nil =>obtain⟨v,G,g,I⟩:=h;exact ⟨v,G,g,Y c.1 I⟩
  |cons u r =>obtain⟨v,J,G,g,I,hr⟩:=h;exact ⟨v,J,G,g,Y c.1 I,Hb c.2 hr⟩
 .cases c
def Rl {o f vs aa out e} (hC:DG C B) (J:ρ B R st μ O w) (hD:∀k,st.next<=k->k<st.next+16->¬B.D k) (hv:π (Cl w O μ) vs aa) (X:(execOp a.eval o).run C.P w=(callFunc f aa.toArray).run C.P w)
 (h:KA C R st f vs=some out) (he:out.run=some e) (ah:JD R e=true):dε C.P o a w (BL B R st e μ O w):=by
  unfold KA at h;have ai:= hD _ (χ _) (by omega);split at h
  .split at h
   .split at h
    .split at h
     .exact kP hC J hv X h he ah
     .exact kR hC J hv X h he
    .exact kT hC J hD hv X h he ah
   .exact kM hC J ai hv X h he
  rename_i sp av;have hm:=hC.1 f sp av;split at h
  .cases h
  rename_i x ks hx;have hy:∃y,sp.fn x=some y/\e=DO st (match sp.res.any Ty.eε&&!JX sp with|true=>ks|false=>[]) ks sp.fresh sp.res y:=by
   simp only at h;split at h
   .rename_i g hg;cases h;simp only[υ.run,Qaf] at he;exact ⟨g x,hm.tot g hg x,he.symm⟩
   .cases h;cases hq:sp.fn x with
    |none=>rw[υ.run,hq] at he;cases he
    |some y=>rw[υ.run,hq] at he<;>grind
  obtain⟨y,hy,I⟩:=hy;have a1:=Gn hx;refine .inr (.inr ⟨f,_,X.trans (hm.enters _ w),?_⟩);cases aj:JX sp with
  |true =>
   have a6:sp.fresh=true:=by unfold JX at aj<;>grind
   have I:e=DO st [] ks true sp.res y:=by simp_all
   let F:= λb=>O b/\∀k∈ks,∀p,μ k=some p->p.block≠some b;have ab:∀k∈ks,∀p b,μ k=some p->p.block=some b->¬F b/\b<w.heap.size:=λk Z p b hp Y=>by obtain⟨oo,ak⟩:=a1 k Z;exact ⟨λhh=>hh.2 k Z p hp Y,(J.own k oo ak p b hp Y).2.2⟩
   refine (hm.calls w F _ x y (hC.2.1 w J.below) (λb Y=>J.obound b Y.1) (Cm ⟨χ _,λb _ Y=>⟨λhh=>Y hh.1,rfl⟩⟩ J.heap hx hv ab) hy).mono λe' w' ⟨rs,ad,d,E⟩=>⟨Cp rs,ad,?_⟩;obtain⟨a7,a8⟩:=J.grow d;rw[a6] at E;have later:∀G:Option Nat,(∀b,G=some b->w.heap.size<=b)->ν w O w' λc=>O c\/G=some c:=λG hG=>Xj d.size (χ _) (λb Y=>d.block b Y) hG;have ae:= λG hG k o' Z =>Cx (later G hG) (μle.refl _) o' (λp b hp al=>d.block b (J.own k o' Z p b hp al).2.2) (J.heap k o' Z);have an:∀ {t:Ty} {l:List t.δ} {v:Value} {G:Option Nat},BV w.heap.size w' O G t l v->∀b,G=some b->w.heap.size<=b:=λ{t l v G} hf b Y=>by obtain⟨_,_,_,_,_,hr⟩:=hf<;>simp_all
   exact eN (ks:=[]) J ai J a7 (ν.refl _ _) a8 (λx u hx=>Cn hx J.heap) later ae an I (AcQ aj E)
  |false =>
  rw[aj,Qbl,Bool.and_true] at I;cases af:sp.res.any Ty.eε with
  |false =>
   rw[af] at I;let F:= λb=>O b/\∀k∈ks,∀p,μ k=some p->p.block≠some b;have ab:∀k∈ks,∀p b,μ k=some p->p.block=some b->¬F b/\b<w.heap.size:=λk Z p b hp Y=>by obtain⟨oo,ak⟩:=a1 k Z;exact ⟨λhh=>hh.2 k Z p hp Y,(J.own k oo ak p b hp Y).2.2⟩
   refine (hm.calls w F _ x y (hC.2.1 w J.below) (λb Y=>J.obound b Y.1) (Cm ⟨χ _,λb _ Y=>⟨λhh=>Y hh.1,rfl⟩⟩ J.heap hx hv ab) hy).mono λe' w' ⟨rs,ad,d,E⟩=>⟨Cp rs,ad,?_⟩;obtain⟨a7,a8⟩:=J.grow d;cases a6:sp.fresh with
   |false =>
    rw[a6] at I E;subst I;refine BR (ν.refl _ _) (λx u hx=>Cn hx J.heap) ⟨μle.refl _,a8,?_,λ_ _ Z=>.inl Z⟩ λz hz=>?_
    .exact a7.congr (λk o ek=>by simpa[DO,Bw,St.Γ,St.obj] using ek) (by simp[DO])
    .simp only[DO,Qaf] at hz;subst hz;exact IZ (HB (Hb af E))
   |true =>
    rw[a6] at I E;have ay:∀t l,sp.res≠.slice t::l:=λt l hh=>by rw[hh] at af;simp[Ty.eε] at af
    have ar:e={dst:=none,Γ:=[],reads:=ks,next:=st.next}:=by rw[I];unfold DO<;>simp_all
    subst ar;refine BR (ν.refl _ _) (λx u hx=>Cn hx J.heap) ⟨μle.refl _,a8,?_,λ_ _ Z=>.inl Z⟩ (λz hz=>by cases hz);exact a7.congr (λk o ek=>by simpa[Bw,St.Γ,St.obj] using ek) (χ _)
  |true =>
   rw[af] at I;have aw:e.Γ=ks:=by rw[I];unfold DO<;>grind
   obtain⟨O1,ag,ao,ax,au⟩:=Gr J ks (by rw[<-aw];exact Kd ah) a1;refine (hm.calls w O1 _ x y (hC.2.1 w J.below) (λb Y=>ag.obound b Y) (Cm ao J.heap hx hv ax) hy).mono λe' w' ⟨rs,ad,d,E⟩=>⟨Cp rs,ad,?_⟩;obtain⟨a7,a8⟩:=ag.grow d;have aq:∀x u,BW w O μ x u->BW w O1 μ (My (st.obj R) e.Γ x) u:=by simp_all
   have later:∀G:Option Nat,(∀b,G=some b->w.heap.size<=b)->ν w O1 w' λc=>O1 c\/G=some c:=λG hG=>Xj d.size (χ _) (λb Y=>d.block b Y) hG;have ae:= λG hG k o' Z =>Cx (later G hG) (μle.refl _) o' (λp b hp al=>d.block b (ag.own k o' Z p b hp al).2.2) (ag.heap k o' Z);have an:∀ {t:Ty} {l:List t.δ} {v:Value} {G:Option Nat},BV w.heap.size w' O1 G t l v->∀b,G=some b->w.heap.size<=b:=λ{t l v G} hf b Y=>by obtain⟨_,_,_,_,_,hr⟩:=hf<;>simp_all
   cases a6:sp.fresh with
   |false =>
    rw[a6] at I E;subst I;refine BR ao aq ⟨μle.refl _,a8,?_,λ_ _ Z=>.inl Z⟩ λz hz=>?_
    .exact a7.congr (λk o ek=>by simpa[DO,Bw,St.obj] using ek) (by simp[DO,Dx])
    .simp only[DO,Qaf] at hz;subst hz;exact IZ (HB E)
   |true =>rw[a6] at I E;exact eN J ai ag a7 ao a8 au later ae an I E
end
section
variable {C:Ctx} {P:Program} {B:Ξ} {R:RO} {st:St} {μ:AI} {O:Nat->Prop} {w:World} {a:Act}
def gJ {o t t' s x args ts a8 out e} (hM:ρ B R st μ O w) (hD:¬B.D st.next) (hE:CN R st μ O w a.tmps) (ho:o.op=.call {callee:=.builtin .append,args,argTypes:=ts}) (aa:args.toList=[s,x]) (ab:ts.toList=[t,t']) (X:P.underlying t'=some (.slice a8))
 (h:DD P R st t (Ω R st s) (Ω R st x)=some out) (c:out.run=some e):dε P o a w (BL B R st e μ O w):=by
  have Y:args=#[s,x]:=by grind
  have a6:ts=#[t,t']:=by grind
  subst Y;subst a6;have a7:∀v w',(Builtin.append_ #[t,t'] o.type #[a.eval s,a.eval x]).run P w=.ok v w'->(execOp a.eval o).run P w=.ok (.value v) w':=λv w' hv=>by simp[execOp,ho,resolve,invoke,builtin,hv]
  have fin:(∃v w',(Builtin.append_ #[t,t'] o.type #[a.eval s,a.eval x]).run P w=.ok v w'/\BL B R st e μ O w v w')->dε P o a w (BL B R st e μ O w):=λ⟨v,w',h1,h2⟩=>.inl ⟨v,w',a7 v w' h1,h2⟩;unfold DD at h;split at h
  .rename_i el hu;split at h
   .cases h
   rename_i inf g;simp only at h;split at h
   .rename_i hs hx;split at h
    .rename_i T hT;split at h
     .rename_i d;cases h;simp only[υ.run] at c;split at c
      .rename_i E;simp only[Qab,C5] at E;cases c;refine fin (Se hM hD hu X d (AT hE hs) (xs:=[]) ?_ rfl g E.2 (Qaw _) []);obtain⟨ad,ev⟩:∃ad,a.eval x=.slice ad 0 0:=AT hE hx;exact ⟨ad,0,ev,by simp,.inl rfl⟩
      .cases c
     .cases h
    .cases h
   .rename_i hs _;split at h
    .rename_i T xs ks hl;split at h
     .rename_i d;cases h;simp only[υ.run] at c;split at c
      .rename_i E;simp only[Qab,C5] at E;cases c;obtain⟨cells,I,J,hm⟩:=LG hM hl λc' hc=>AT hE hc;exact fin (Se hM hD hu X d (AT hE hs) I J g E.2 hm ks)
      .cases c
     .cases h
    .cases h
   .rename_i k hs hx;split at h
    .rename_i T l hk a1;split at h
     .rename_i d;cases h;simp only[υ.run] at c;split at c
      .rename_i E;simp only[Qab,C5] at E;cases c;have y:st.obj R k=some (.arr T l):=by simp[St.obj,hk]
       obtain⟨ad,ev⟩:∃ad,a.eval x=.slice ad 0 0:=AT hE hx;obtain⟨_,_,_,_,ae,af,_⟩:=Z3 (hM.heap k _ y);exact fin (Y8 hM hD hu X d y (fε.2 a1) (AT hE hs) (xs:=[]) ⟨ad,0,ev,by simp,.inl rfl⟩ rfl g E.2 (by simp;omega) [k])
      .cases c
     .cases h
    .cases h
   .rename_i k hs _;split at h
    .rename_i T l T' xs ks hk a1 hl;split at h
     .rename_i ag hc;split at h
      .rename_i d;cases h;simp only[υ.run] at c;split at c
       .rename_i E;simp only[Qab,C5] at E;cases c;obtain⟨rfl,rfl⟩:=Ea hc;have y:st.obj R k=some (.arr T' l):=by simp[St.obj,hk]
        obtain⟨cells,I,J,hm⟩:=LG hM hl λc' hc=>AT hE hc;have Z:0<inf.bytes:=by have:=E.1;simp only[Qal] at this;have:=beq_false this;omega
        exact fin (Y8 hM hD hu X d y (fε.2 a1) (AT hE hs) I J g E.2 (pD Z E.2) (k::ks))
       .cases c
      .cases h
     .cases h
    .cases h
   .cases h
  .cases h
def TX {t I ty e i z k X} (Y:P.underlying t=some (.slice e)) (y:P.underlying I=some (.int X)) (hi:P.info? e=some i) (Z:i.zero=some z)
 ad (n:Nat) (h0:0<n) (hs:0<i.size) (a1:(n:Int)<=9223372036854775807) (a6:n*i.bytes<=281474976710656) :
 (Builtin.append_ #[t,I] ty #[.slice ad 0 0,.int k n]).run P w =
   .ok (.slice (some ⟨w.heap.size,0,none⟩) n (grownCap w n 0 e)) (w.drew.alloc (.cells (Builtin.zeroCells z.cells n++Builtin.zeroCells z.cells (grownCap w n 0 e-n)) e)):=by
 have J:n≠0:=by omega
 have hw:IntKind.i64.wrap (n:Int)=n:=by rw[IntKind.wrap_i64];omega
 have c:¬9223372036854775807<(n:Int):=by omega
 have d:¬281474976710656<Builtin.nextslicecap n 0*i.bytes:=by rw[nextslicecap_zero h0];omega
 have g:¬281474976710656<(n:Int)*(i.bytes:Int):=by omega
 have h:¬(n:Int)<0:=by omega
 have E:¬n*i.size=0:=Nat.mul_ne_zero J (by omega)
 have hf:(Builtin.firstCells i.size 0 (.slice ad 0 0)).run P w.drew=.ok #[] w.drew:=by
  cases ad with
  |none=>simp[Builtin.firstCells]
  |some p=>simp[Builtin.firstCells,loadCells,loadCellsFrom]
 simp[Builtin.append_,run_underlying Y,run_underlying y,sizeOf,typeInfo,zeroValue,hi,Z,asInt,asIntOf,hw,J,h,E,c,d,g,Question.forced,hf,newRow,grownCap]
def SC {t d ty e i k g} (h:P.underlying t=some (.slice e)) (c:P.underlying d=some (.int g)) (hi:P.info? e=some i)
 ad:(Builtin.append_ #[t,d] ty #[.slice ad 0 0,.int k 0]).run P w=.ok (.slice ad 0 0) w:=by
 have y:IntKind.i64.wrap (0:Int)=0:=by decide
 cases ad<;>simp[Builtin.append_,run_underlying h,run_underlying c,sizeOf,typeInfo,hi,asInt,asIntOf,y,storeCells]
def aY {z} n m:Builtin.zeroCells z n++Builtin.zeroCells z m=Builtin.zeroCells z (n+m):=by
 apply Array.ext
 .simp[size_zeroCells,Qcd]
 .intro j h1 c;simp only[Builtin.zeroCells] at h1 c ⊢;rw[Array.getElem_append];split
  .simp
  .rename_i h;simp only[Array.size_map,Array.size_range] at h;simp only[Array.getElem_map,Array.getElem_range,Array.size_map,Array.size_range];congr 1;rw[Nat.mul_comm n z.size] at h ⊢;exact Nat.sub_mul_mod (by omega)
def bM (hM:ρ B R st μ O w) (hD:¬B.D st.next) (hE:CN R st μ O w a.tmps) {o:Oper} {t t':TypeId} {s x:Operand} {args:Array Operand} {ts:Array TypeId} (ho:o.op=.call {callee:=.builtin .append,args,argTypes:=ts}) (ay:args.toList=[s,x]) (bb:ts.toList=[t,t']) {kn:IntKind} (a1:P.underlying t'=some (.int kn))
 {out:υ} {e:Eff} (h:D9 P R st t (Ω R st s) (Ω R st x)=some out) (he:out.run=some e):dε P o a w (BL B R st e μ O w):=by
 have aa:args=#[s,x]:=by grind
 have an:ts=#[t,t']:=by grind
 subst aa;subst an;have ah:∀v w',(Builtin.append_ #[t,t'] o.type #[a.eval s,a.eval x]).run P w=.ok v w'->(execOp a.eval o).run P w=.ok (.value v) w':=λv w' hv=>by simp[execOp,ho,resolve,invoke,builtin,hv]
 unfold D9 at h;split at h
 .rename_i el hu;split at h
  .rename_i inf T c hT;split at h
   .rename_i n ab hs hx;cases h;simp only[υ.run] at he;split at he
    .rename_i hc;cases he;simp only[C5,Qab] at hc;have h0:0<=n:=of_decide_eq_true hc.1;have h1:n*(inf.bytes:Int)<=2 ^ 46:=of_decide_eq_true hc.2;obtain⟨i,z,hi,hz,az,ao,a6⟩:=Gq ab;rw[c] at hi;cases hi;obtain⟨ad,aq⟩:∃ad,a.eval s=.slice ad 0 0:=AT hE hs;have E:AQ w O μ (.int .i64 n) (a.eval x):=AT hE hx;have ar:n<=9223372036854775807:=(tε.1 E.2).2;obtain⟨m,rfl⟩:∃m:Nat,n=(m:Int):=⟨n.toNat,by omega⟩;have y:z.cells.size=T.size:=by rw[<-Qat,AW T (a6 w O)]
     have aB:m*inf.bytes<=281474976710656:=by omega
     by_cases ae:m=0
     .subst ae;obtain⟨μ',X,hn⟩:=hM.bare hD (.arr ad 0 0 T.size) (.arr T (Ay 0 (Dp T))) (by cases ad<;>simp[Place.block]) (λμ' _ hn=>⟨ad,0,by simpa[Ay] using hn,by simp[Ay],Qaw _,.inl rfl⟩) st.env;exact .inl ⟨_,w,ah _ _ (by rw[aq,E.1];exact SC hu a1 c ad),BR (ν.refl _ _) (λx u hx=>Cn hx hM.heap) X λx hx=>by cases hx;exact ⟨_,_,_,_,hn,rfl⟩⟩
     .refine .inl ⟨_,_,ah _ _ (by rw[aq,E.1];exact TX (P:=P) (w:=w) (ty:=o.type) (k:=.i64) hu a1 c hz ad m (by omega) (by omega) (by omega) aB),?_⟩;obtain⟨aP,b0⟩:=Ta hM;have bc:=grownCap_ge w m 0 el;have J:Builtin.zeroCells z.cells m++Builtin.zeroCells z.cells (grownCap w m 0 el-m)=Builtin.zeroCells z.cells (grownCap w m 0 el):=by rw[aY]<;>simp_all
      have d:(Ay (m:Int) (Dp T)).length=m:=by simp[Ay]
      obtain⟨μ',O',X,hn⟩:=aP.alloc hD (.cells (Builtin.zeroCells z.cells m++Builtin.zeroCells z.cells (grownCap w m 0 el-m)) el)
       (.arr (some ⟨w.heap.size,0,none⟩) (Ay (m:Int) (Dp T)).length (grownCap w m 0 el) T.size) (.arr T (Ay (m:Int) (Dp T))) (by have:w.drew.heap.size=w.heap.size:=rfl;simp only[Place.block,this]<;>grind)
       (λO' μ' b1 bd ak=>Mn (w:=w.drew) (T:=T) (l:=Ay (m:Int) (Dp T)) (by
         rw[d];rw[J];have Y:=Ra (Rd:=Reads w.drew O T) (x:=Dp T) (z:=z.cells) (a6 w.drew O) (by omega) m (grownCap w m 0 el-m);rw[y,show m+(grownCap w m 0 el-m)=grownCap w m 0 el by omega] at Y;have al:(Builtin.zeroCells z.cells (grownCap w m 0 el)).toList=(List.range (grownCap w m 0 el*T.size)).map λi=>z.cells[i%z.cells.size]!:=by simp[Builtin.zeroCells,y]
         rw[al,y];exact Y) (by omega) (grownCap_le_maxLen w m 0 el (by simp only[maxLen];omega)) (by rw[J,size_zeroCells,y]) b1 (by simpa using ak)) st.env;exact BR (ν.refl _ _) (λx u hx=>Cn hx hM.heap) ⟨X.le,b0.trans X.keeps,X.mem,X.new⟩ λx hx=>by cases hx;exact ⟨_,_,_,_,hn,by rw[d]⟩
    .cases he
   .rename_i k n ab hs hx;split at h
    .rename_i Z l0 hk b2;split at h
     .rename_i l hc;cases h;obtain⟨e1,e2⟩:=Ea hc;subst e1;have e3:l0=l:=e2.symm;rw[e3] at hk;simp only[υ.run] at he;split at he
      .rename_i af;cases he;simp only[C5,Qab] at af;have h0:0<=n:=of_decide_eq_true af.1;have ag:0<inf.bytes:=by have:=af.2.1;simp only[Qal] at this;have:=beq_false this<;>omega
       obtain⟨i,z,hi,hz,az,ao,a6⟩:=Gq ab;rw[c] at hi;cases hi;have E:AQ w O μ (.int .i64 n) (a.eval x):=AT hE hx;have ar:n<=9223372036854775807:=(tε.1 E.2).2;obtain⟨m,rfl⟩:∃m:Nat,n=(m:Int):=⟨n.toNat,by omega⟩;have y:z.cells.size=Z.size:=by rw[<-Qat,AW Z (a6 w O)]
       have d:(Ay (m:Int) (Dp Z)).length=m:=by simp[Ay]
       have I:AA (Jv (Aa l) (Aa (Ay (m:Int) (Dp Z)))) inf.bytes=true:=by
        have:Aa (Ay (m:Int) (Dp Z))=(m:Int):=by unfold Aa;rw[d]
        rw[this];exact af.2.2
       have b3:=pD ag I;rw[d] at b3;have ai:=RT I;rw[d] at ai;have bf:m*inf.bytes<=140737488355328:=Qbh (Qco _ (Nat.le_add_left _ _)) ai;have au:st.obj R k=some (.arr Z l):=by simp[St.obj,hk]
       have av:ξ (Reads w O Z) (Ay (m:Int) (Dp Z)) (Builtin.zeroCells z.cells m).toList:=by
        have Y:=Ra (Rd:=Reads w O Z) (x:=Dp Z) (z:=z.cells) (a6 w O) (by omega) m 0;rw[y,Qfq] at Y;have al:(Builtin.zeroCells z.cells m).toList=(List.range (m*Z.size)).map λi=>z.cells[i%z.cells.size]!:=by simp[Builtin.zeroCells,y]
        rw[al,y];rw[Qas (by simp)] at Y;exact Y
       have hw:IntKind.i64.wrap (m:Int)=m:=by rw[IntKind.wrap_i64];omega
       have a7:¬(m:Int)<0:=by omega
       have a8:¬281474976710656<(m:Int)*(inf.bytes:Int):=by omega
       have aj:∀w1:World,(if m*inf.size=0 then (pure #[]:Sem (Array Value)) else do pure (Builtin.zeroCells (<-zeroValue el).cells m)).run P w1=.ok (Builtin.zeroCells z.cells m) w1:=λw1=>by
        by_cases ae:m*inf.size=0
        .have:m=0:=by rcases Nat.mul_eq_zero.1 ae with h|h<;>omega
         subst this;simp[Builtin.zeroCells]
        .simp[ae,zeroValue,typeInfo,c,hz]
       refine .inl ?_;have b7:=W6 (P:=P) (ty:=o.type) (t:=t) (t':=t') hM hD ab au (fε.2 b2) (AT hE hs) (x:=a.eval x) (xs:=Ay (m:Int) (Dp Z)) (news:=(Builtin.zeroCells z.cells m).toList) av c I (by omega) [k] ?_ ?_
       .grind
       .intro z' aw base sLen sCap olds b8 g1 g2 g3;rw[hz] at aw;cases aw;rw[d] at g1 g2 g3 ⊢;have ba:=growslice_fits (bytes:=inf.bytes) g1 g3;have ak:¬sLen+m<=sCap:=by omega
        have ax:¬Builtin.nextslicecap (sLen+m) sCap*inf.bytes>2 ^ 48:=by omega
        have g:=aj w.drew;rw[E.1];simp[Builtin.append_,run_underlying hu,run_underlying a1,sizeOf,typeInfo,zeroValue,c,hz,asInt,asIntOf,hw,a7,a8,ak,ax,Question.forced,b8.first (P:=P) w.drew λp=>by simp,newRow,grownCap] at g ⊢;rw[if_neg (by simp only[maxLen] at g2;omega)];simp;intro h0;rw[g h0];simp
       .intro base sLen sCap w' g1 g2;rw[d] at g1 ⊢;have g:=aj w;rw[E.1];cases base with
        |none =>simp at g2;subst g2;simp[Builtin.append_,run_underlying hu,run_underlying a1,sizeOf,typeInfo,zeroValue,c,hz,asInt,asIntOf,hw,a7,a8,g1] at g ⊢
        |some p =>simp only at g2;simp[Builtin.append_,run_underlying hu,run_underlying a1,sizeOf,typeInfo,zeroValue,c,hz,asInt,asIntOf,hw,a7,a8,g1] at g ⊢;simp[g2];intro h0;rw[g h0] at g2;simp[g2]
      .cases he
     .cases h
    .cases h
   .cases h
  .cases h
 .cases h
def FF {t el inf ad len cap lo hi l h} (E:P.underlying t=some (.slice el)) (c:P.info? el=some inf)
 (g:match lo with|none=>l=0|some v=>∃k i,v=.int k i/\0<=i/\l=i.toNat) (y:match hi with|none=>h=len|some v=>∃k i,v=.int k i/\0<=i/\h=i.toNat) (I:l<=h) (J:h<=cap) :
 (Instr.sliceAt t (.slice ad len cap) lo hi none).run P w=.ok (.slice (if cap=l then ad else ad.map (·.add (l*inf.size))) (h-l) (cap-l)) w:=by
 have h1:(match hi with|some v=>Instr.sliceBound v cap .sliceAcap|none=>pure len:Sem Nat).run P w=.ok h w:=by
  cases hi with
  |none=>simp_all
  |some v =>
   obtain⟨k,i,rfl,h0,rfl⟩:=y;have:i<=(cap:Int):=by omega
   simp[Instr.sliceBound,asIntOf,h0,this]
 have d:(match lo with|some v=>Instr.sliceBound v h .sliceB|none=>pure 0:Sem Nat).run P w=.ok l w:=by
  cases lo with
  |none=>simp_all
  |some v =>
   obtain⟨k,i,rfl,h0,rfl⟩:=g;have:i<=(h:Int):=by omega
   simp[Instr.sliceBound,asIntOf,h0,this]
 simp only[Instr.sliceAt,Sem.run_bind,run_underlying E,Result.andThen_ok,Instr.slice,Instr.sliceBounds,Sem.run_pure];cases hi with
 |none =>
  simp only[Sem.run_pure] at h1 ⊢;cases h1;cases lo with
  |none=>simp only[Sem.run_pure] at d ⊢;cases d;simp[sizeOf,typeInfo,c]
  |some v=>simp at d ⊢;rw[d];simp[sizeOf,typeInfo,c]
 |some v =>
  simp at h1 ⊢;rw[h1];cases lo with
  |none=>simp only[Sem.run_pure] at d ⊢;cases d;simp[sizeOf,typeInfo,c]
  |some v=>simp at d ⊢;rw[d];simp[sizeOf,typeInfo,c]
def tF {T xs v l h} (I:AQ w O μ (.sl T xs) v) (J:l<=h) (X:h<=xs.length) :
 ∃ad cap,v=.slice ad xs.length cap/\xs.length<=cap/\AQ w O μ (.sl T ((xs.take h).drop l)) (.slice (if cap=l then ad else ad.map (·.add (l*T.size))) (h-l) (cap-l)):=by
 obtain⟨ad,cap,y,E,hm,t⟩:=I;simp only[Qdo,and_true] at y;refine ⟨ad,cap,y,E,?_⟩;have Y:= E;have c:((xs.take h).drop l).length=h-l:=by simp;omega
 refine ⟨_,cap-l,by rw[c],by rw[c];omega,by omega,?_⟩;by_cases h0:h-l=0
 .left;rw[c];exact h0
 .right;rcases t with t|⟨b,off,cells,Z,hO,hb,d,g⟩
  .have:= t;omega
  .refine ⟨b,off+l*T.size,(cells.take (h*T.size)).drop (l*T.size),?_,hO,hb,KO (IW d _) _,ξ.drop (λx vs=>AW T) (ξ.take (λx vs=>AW T) g h) l⟩;rw[if_neg (by omega),Z];simp[Addr.add_mid]
end
end Go.Den
