/- Part of a plain reading of Go code: an evaluator of code as functions of typed data, and that it tells what the machine does. -/
import Derived.Calls
import Derived.Deep.MidRow
import Derived.Laws.AppendOwn
import Derived.Below
set_option linter.all false
namespace Go.Den
set_option linter.defProp false
def Qaa:=@Nat.le_refl
def Qab:=@Bool.and_eq_true
def Qac:=@Nat.lt_of_lt_of_le
def Qad:=@List.eq_nil_of_length_eq_zero
def Qae:=@Int.toNat_natCast
def Qaf:=@Option.some.injEq
def Qag:=@Option.some.inj
def Qah:=@List.mem_append_left
def Qai:=@Option.map_some
def Qaj:=@Bool.or_eq_true
def Qak:=@List.mem_cons_of_mem
def Qal:=@Bool.not_eq_true'
def Qam:=@Nat.shiftRight_eq_div_pow
def Qan:=@List.mem_append_right
def Qao:=@Array.getD_eq_getD_getElem?
def Qap:=@Bool.true_and
def Qaq:=@List.append_assoc
def Qar:=@Classical.byContradiction
def Qas:=@List.take_of_length_le
def Qat:=@Array.length_toList
def Qau:=@List.length_append
def Qav:=@Array.getElem?_toList
def Qaw:=@Nat.zero_le
def Qax:=@Int.toNat_of_nonneg
def Qay:=@List.length_cons
def Qaz:=@List.nil_append
def Qba:=@List.getD_eq_getElem?_getD
def Qbb:=@Int.le_refl
def Qbc:=@Option.getD_some
def Qbd:=@List.append_nil
def Qbe:=@Nat.le_of_ble_eq_true
def Qbf:=@List.getElem?_map
def Qbg:=@List.getElem?_take
def Qbh:=@Nat.le_trans
def Qbi:=@List.getElem?_cons_zero
def Qbj:=@List.getElem?_cons_succ
def Qbk:=@List.size_toArray
def Qbl:=@Bool.not_false
def Qbm:=@Nat.zero_add
def Qbn:=@List.length_take
def Qbo:=@Bool.not_true
def Qbp:=@Nat.pow_le_pow_right
def Qbq:=@Int.tmod_eq_emod_of_nonneg
def Qbr:=@List.mem_cons_self
def Qbs:=@List.cons_append
def Qbt:=@Array.getElem?_setIfInBounds_ne
def Qbu:=@List.length_nil
def Qbv:=@Bool.or_eq_false_iff
def Qbw:=@Array.replicate_succ
def Qbx:=@Array.replicate_zero
def Qby:=@Int.tmod_lt_of_pos
def Qbz:=@List.append_toArray
def Qca:=@Nat.lt_succ_of_lt
def Qcb:=@Int.not_lt
def Qcc:=@List.getElem?_toArray
def Qcd:=@Nat.add_mul
def Qce:=@Option.map_none
def Qcf:=@Array.toArray_toList
def Qcg:=@Int.fdiv_eq_ediv_of_nonneg
def Qch:=@Nat.mul_one
def Qci:=@List.take_add_one
def Qcj:=@List.push_toArray
def Qck:=@List.mem_append
def Qcl:=@Array.getElem?_replicate
def Qcm:=@Nat.lt_irrefl
def Qcn:=@List.mem_of_getElem?
def Qco:=@Nat.mul_le_mul_right
def Qcp:=@Int.emod_eq_of_lt
def Qcq:=@Decidable.not_not
def Qcr:=@Int.tmod_nonneg
def Qcs:=@List.getElem?_range
def Qct:=@Nat.testBit_lt_two_pow
def Qcu:=@List.map_cons
def Qcv:=@Prod.mk.injEq
def Qcw:=@Nat.and_le_right
def Qcx:=@Nat.lt_succ_self
def Qcy:=@List.getElem?_drop
def Qcz:=@Bool.false_eq_true
def Qda:=@Nat.lt_of_le_of_lt
def Qdb:=@List.length_replicate
def Qdc:=@List.getElem?_append_left
def Qdd:=@Array.eq_empty_of_size_eq_zero
def Qde:=@List.mem_of_mem_take
def Qdf:=@List.range_succ
def Qdg:=@Int.mul_le_mul_of_nonneg_right
def Qdh:=@Bool.not_eq_false
def Qdi:=@Int.eq_ofNat_of_zero_le
def Qdj:=@List.length_drop
def Qdk:=@Nat.mod_eq_of_lt
def Qdl:=@List.drop_of_length_le
def Qdm:=@Option.map_eq_some_iff
def Qdn:=@Int.natCast_add
def Qdo:=@List.cons.injEq
def Qdp:=@List.getElem?_append_right
def Qdq:=@List.ext_getElem?
def Qdr:=@Decidable.byContradiction
def Qds:=@Prod.mk.inj
def Qdt:=@Int.le_of_lt
def Qdu:=@List.take_append
def Qdv:=@List.getElem?_eq_getElem
def Qdw:=@List.mem_cons
def Qdx:=@List.length_map
def Qdy:=@List.map_append
def Qdz:=@Int.ediv_nonneg
def Qea:=@List.take_append_of_le_length
def Qeb:=@Nat.beq_refl
def Qec:=@List.singleton_append
def Qed:=@Array.getElem?_append
def Qee:=@Bool.false_and
def Qef:=@Int.mul_nonneg
def Qeg:=@Bool.and_eq_false_iff
def Qeh:=@Option.bind_some
def Qei:=@Int.max_eq_right
def Qej:=@List.not_mem_nil
def Qek:=@List.mem_of_mem_drop
def Qel:=@List.take_length
def Qem:=@Array.toList_setIfInBounds
def Qen:=@Int.tdiv_eq_ediv_of_nonneg
def Qeo:=@List.toList_toArray
def Qep:=@Nat.testBit_and
def Qeq:=@Int.max_eq_left
def Qer:=@Nat.min_eq_left
def Qes:=@List.mem_or_eq_of_mem_set
def Qet:=@Option.orElse_none
def Qeu:=@Nat.sub_zero
def Qev:=@Nat.and_lt_two_pow
def Qew:=@Bool.not_eq_false'
def Qex:=@Bool.eq_false_or_eq_true
def Qey:=@Nat.testBit_or
def Qez:=@Bool.and_false
def Qfa:=@Nat.or_lt_two_pow
def Qfb:=@List.foldl_append
def Qfc:=@Nat.one_mul
def Qfd:=@Int.pow_pos
def Qfe:=@Nat.testBit_shiftRight
def Qff:=@Array.all_eq_true_iff_forall_mem
def Qfg:=@BitVec.toNat_and
def Qfh:=@Nat.testBit_eq_decide_div_mod_eq
def Qfi:=@List.drop_append
def Qfj:=@Nat.le_add_right
def Qfk:=@List.filter_cons
def Qfl:=@List.mem_map
def Qfm:=@Nat.eq_of_testBit_eq
def Qfn:=@Nat.div_le_self
def Qfo:=@Nat.and_two_pow_sub_one_eq_mod
def Qfp:=@Nat.mod_lt
def Qfq:=@Nat.add_zero
def Qfr:=@List.length_set
def Qfs:=@List.foldl_cons
def Qft:=@List.getElem?_append
def Qfu:=@Array.toList_append
def Qfv:=@Array.toList_zipIdx
def Qfw:=@List.take_take
def Qfx:=@List.countP_eq_length_filter
def Qfy:=@Nat.testBit_two_pow_sub_one
def Qfz:=@Nat.testBit_two_pow_mul_add
def Qga:=@Array.foldl_toList
def Qgb:=@UInt8.toNat_ofNat'
def Qgc:=@List.filter_congr
def Qgd:=@List.flatMap_cons
def Qge:=@List.range'_succ
def Qgf:=@List.getElem_mem
def Qgg:=@Int.sub_self
def Qgh:=@Nat.add_comm
def Qgi:=@Array.toList_map
def Qgj:=@Nat.shiftLeft_eq
def Qgk:=@Nat.not_lt_zero
def Qgl:=@Nat.and_le_left
inductive Ty where
 |int (k:IntKind)
 |bool
 |slice (t:Ty)
 |unit
 |pair (a b:Ty)
def Ty.interp:Ty->Type
 |.int _=>Int
 |.bool=>Bool
 |.slice t=>List t.interp
 |.unit=>Unit
 |.pair a b=>a.interp×b.interp
def Ty.size:Ty->Nat
 |.unit=>0
 |.pair a b=>a.size+b.size
 |_=>1
def Ty.isAgg:Ty->Bool
 |.unit | .pair ..=>true
 |_=>false
def Bool.beq':Bool->Bool->Bool
 |true,b=>b
 |false,true=>false
 |false,false=>true
def MC:IntKind->IntKind->Bool
 |.i8,.i8 | .i16,.i16 | .i32,.i32 | .i64,.i64 | .u8,.u8 | .u16,.u16 | .u32,.u32 | .u64,.u64=>true
 |_,_=>false
theorem J6 {a b:IntKind} (h:MC a b=true):a=b:=by cases a<;>cases b<;>first|rfl|cases h
def Ty.eqp:(a b:Ty)->Option (PLift (a=b))
 |.int k,.int k'=>match h:MC k k' with
  |true=>some ⟨congrArg Ty.int (J6 h)⟩
  |false=>none
 |.bool,.bool=>some ⟨rfl⟩
 |.slice a,.slice b=>match Ty.eqp a b with
  |some h=>some ⟨congrArg Ty.slice h.down⟩
  |none=>none
 |.unit,.unit=>some ⟨rfl⟩
 |.pair a b,.pair c d=>match Ty.eqp a c,Ty.eqp b d with
  |some h,some g=>some ⟨(congrArg (Ty.pair · b) h.down).trans (congrArg (Ty.pair c) g.down)⟩
  |_,_=>none
 |_,_=>none
inductive Cell where
 |int (k:IntKind) (n:Int)
 |bool (b:Bool)
 |sl (t:Ty) (l:List t.interp)
 |nils
 |ref (k:Nat)
 |ptr (k off:Nat)
 |eptr (k:Nat) (i:Int)
 |nilp
 |sub (k:Nat) (lo n:Int)
 |mref (k:Nat)
 |lit (v:Value)
inductive V1 where
 |c (x:Cell)
 |a (cs:List Cell)
inductive AVal where
 |undef
 |v (x:V1)
 |tup (vs:List V1)
 |iptr (cs:List Cell)
 |fn (f:FuncId) (caps:List Cell)
 |bfn (f:FuncId) (first:List Cell)
 |fptr (k:Nat) (i:Int) (off:Nat)
 |str (l:List UInt8)
 |fns (l:List (FuncId×Bool×List Cell))
 |fnp (f:FuncId×Bool×List Cell)
 |fna (l:List (FuncId×Bool×List Cell))
inductive AObj where
 |box (cs:List Cell)
 |arr (t:Ty) (l:List t.interp)
 |map (t:Ty) (l:List (t.interp×Bool))
abbrev H4:=List (Nat×AObj)
abbrev Env:=List (Nat×Option AVal)
def assoc {α:Type}:List (Nat×α)->Nat->Option α
 |[],_=>none
 |(a,v)::r,k=>match Nat.beq a k with
  |true=>some v
  |false=>assoc r k
structure St where
 env:Env
 heap:H4
 next:Nat
structure RO where
 renv:Env
 rheap:H4
def St.get (R:RO) (st:St) (s:Nat):Option AVal :=
 match assoc st.env s with
 |some v=>v
 |none=>(assoc R.renv s).join
def St.obj (R:RO) (st:St) (k:Nat):Option AObj :=
 match assoc st.heap k with
 |some o=>some o
 |none=>assoc R.rheap k
def enc:(T:Ty)->T.interp->List Cell
 |.int k,n=>[.int k n]
 |.bool,b=>[.bool b]
 |.slice t,l=>[.sl t l]
 |.unit,_=>[]
 |.pair a b,x=>enc a x.1++enc b x.2
def Ru:(T:Ty)->T.interp->V1
 |.int k,n=>.c (.int k n)
 |.bool,b=>.c (.bool b)
 |.slice t,l=>.c (.sl t l)
 |.unit,_=>.a []
 |.pair a b,x=>.a (enc (.pair a b) x)
def Gg (t T:Ty) (l:List t.interp):Option (List T.interp) :=
 match Ty.eqp t T with
 |some h=>some (h.down▸l)
 |none=>none
def hi1 (b:Bool):Bool:=b
def hi2 (b:Bool):Bool:=hi1 b
def hi3 (b:Bool):Bool:=hi2 b
@[simp] theorem hi2_eq (b:Bool):hi2 b=b:=rfl
def cnd {A:Type} (b:Bool) (x y:A):A :=
 match hi2 b with
 |true=>x
 |false=>y
def AhF {A:Type} (b:Bool) (x y:A):A :=
 match hi3 b with
 |true=>x
 |false=>y
def Ao {α A:Type} (x:α) (f:α->A):A:=f x
def Jv (x y:Int):Int:=x+y
def Gi (x y:Int):Int:=x-y
def AhG (x y:Int):Int:=x*y
def BB (x y:Int):Int:=x.tmod y
def wr (k:IntKind) (n:Int):Int:=k.wrap n
def ltB (x y:Int):Bool:=decide (x<y)
def leB (x y:Int):Bool:=decide (x<=y)
def eqI (x y:Int):Bool:=x==y
def eqB (x y:Bool):Bool:=x==y
def C5 (x y:Bool):Bool:=x&&y
def bOr (x y:Bool):Bool:=x||y
def Nv (x:Bool):Bool:=!x
def Aa {α:Type} (l:List α):Int:=l.length
def DM {α:Type} (l m:List α):List α:=l++m
def AB {α:Type} (l:List α) (i:Int) (x:α):List α:=l.set i.toNat x
def Ay {α:Type} (n:Int) (x:α):List α:=List.replicate n.toNat x
def Ax {α:Type} (l:List α) (n:Int):List α:=l.take n.toNat
def A5 {α:Type} (l:List α) (n:Int):List α:=l.drop n.toNat
def eqS (a b:List UInt8):Bool:=a==b
def EJ {α:Type} (l:List α) (lo n:Int):List α:=(l.take (lo+n).toNat).drop lo.toNat
def idx {α:Type} (l:List α) (i:Int):Option α:=if 0<=i then l[i.toNat]? else none
def eqT:(t:Ty)->t.interp->t.interp->Bool
 |.int _,a,b=>@decide (a=b) (Int.instDecidableEq a b)
 |.bool,a,b=>Bool.beq' a b
 |.unit,_,_=>true
 |.pair a b,x,y=>eqT a x.1 y.1&&eqT b x.2 y.2
 |.slice _,_,_=>false
def KY (t:Ty):List (t.interp×Bool)->t.interp->Bool
 |[],_=>false
 |e::r,k=>if eqT t k e.1=true then e.2 else KY t r k
def Jw (t:Ty):List (t.interp×Bool)->t.interp->Bool->List (t.interp×Bool)
 |[],k,v=>[(k,v)]
 |e::r,k,v=>if eqT t k e.1=true then (k,v)::r else e::Jw t r k v
def dec (h:Nat->Option AObj):(T:Ty)->List Cell->Option (T.interp×List Cell×List Nat)
 |.int k,.int k' n::r=>match MC k k' with
  |true=>some (n,r,[])
  |false=>none
 |.bool,.bool b::r=>some (b,r,[])
 |.slice t,.sl t' l::r=>match Gg t' t l with
  |some l=>some (l,r,[])
  |none=>none
 |.slice _,.nils::r=>some ([],r,[])
 |.slice t,.ref k::r=>match h k with
  |some (.arr t' l)=>match Gg t' t l with
   |some l=>some (l,r,[k])
   |none=>none
  |_=>none
 |.slice t,.sub k lo n::r=>match h k with
  |some (.arr t' l)=>match Gg t' t (EJ l lo n) with
   |some l=>some (l,r,[k])
   |none=>none
  |_=>none
 |.unit,r=>some ((),r,[])
 |.pair a b,r=>match dec h a r with
  |some (x,r,f)=>match dec h b r with
   |some (y,r,g)=>some ((x,y),r,f++g)
   |none=>none
  |none=>none
 |_,_=>none
def V1.cells:V1->List Cell
 |.c x=>[x]
 |.a cs=>cs
def GM (h:Nat->Option AObj) (T:Ty) (v:V1):Option (T.interp×List Nat) :=
 match dec h T v.cells with
 |some (x,[],f)=>some (x,f)
 |_=>none
structure Eff where
 dst:Option AVal
 upd:List (Nat×Option AObj):=[]
 frz:List Nat:=[]
 reads:List Nat:=[]
 next:Nat
inductive AOut where
 |ok (e:Eff)
 |chk (b:Bool) (e:Eff)
 |bind (T:Ty) (x:T.interp) (f:T.interp->Eff)
 |opt (T:Ty) (o:Option T.interp) (f:T.interp->Eff)
 |alts (l:List (Bool×Eff))
def qI (f:TypeId->Option Ty):List Field->Option Ty
 |[]=>some .unit
 |[x]=>(f x.type).map λT=>.pair T .unit
 |[x,y]=>match f x.type,f y.type with
  |some a,some b=>some (.pair a b)
  |_,_=>none
 |x::r=>match f x.type,qI f r with
  |some a,some b=>some (.pair a b)
  |_,_=>none
def Wf (P:Program):Nat->TypeId->Option Ty
 |0,_=>none
 |n+1,t=>match P.underlying t with
  |some .bool=>some .bool
  |some (.int k)=>some (.int k)
  |some (.slice e)=>(Wf P n e).map .slice
  |some (.struct c)=>qI (Wf P n) c.toList
  |some (.array len e)=>(Wf P n e).map λT=>(List.replicate len T).foldr (λa b=>match b with | .unit=>a|b=>.pair a b) .unit
  |_=>none
end Go.Den
namespace Go.Den
def inR (k:IntKind) (n:Int):Bool:=decide (k.min<=n)&&decide (n<=k.max)
def cellOf:Value->Option Cell
 |.int k n=>match inR k n with
  |true=>some (.int k n)
  |false=>none
 |.bool b=>some (.bool b)
 |.slice none 0 0=>some .nils
 |.pointer none=>some .nilp
 |_=>none
def cellsOf:List Value->Option (List Cell)
 |[]=>some []
 |v::r=>match cellOf v,cellsOf r with
  |some c,some cs=>some (c::cs)
  |_,_=>none
def P4:Value->Option AVal
 |.agg cs=>(cellsOf cs.toList).map λl=>.v (.a l)
 |.string s=>some (.str s.data.toList)
 |v=>(cellOf v).map λc=>.v (.c c)
def opv (R:RO) (st:St):Operand->Option AVal
 |.tmp t=>st.get R t
 |.const v=>P4 v
 |.func f=>some (.fn f [])
 |.global _=>none
def opc (R:RO) (st:St) (x:Operand):Option Cell :=
 match opv R st x with
 |some (.v (.c c))=>some c
 |_=>none
def op1 (R:RO) (st:St) (x:Operand):Option V1 :=
 match opv R st x with
 |some (.v c)=>some c
 |_=>none
def ops1 (R:RO) (st:St):List Operand->Option (List V1)
 |[]=>some []
 |x::r=>match op1 R st x,ops1 R st r with
  |some v,some vs=>some (v::vs)
  |_,_=>none
def Aq (op:BinOp) (k:IntKind) (x y:Int):Int :=
 let a:=BitVec.ofInt k.bits x
 let b:=BitVec.ofInt k.bits y
 k.wrap (match op with
  |.and=>(a &&& b).toNat
  |.or=>(a ||| b).toNat
  |.xor=>(a ^^^ b).toNat
  |_=>(a &&& ~~~b).toNat)
def A9 (k:IntKind) (x y:Int):Int:=k.wrap (x*2 ^ min y.toNat k.bits)
def AH (k:IntKind) (x y:Int):Int:=x.fdiv (2 ^ min y.toNat k.bits)
def DZ (k:IntKind) (x y:Int):Int:=k.wrap (x.tdiv y)
def Vn (k:IntKind) (x:Int):Int:=Aq .xor k (if k.signed then -1 else k.max) x
def Tm {α:Type} (l:List α) (n i:Int):Option α:=if Aa l=n then idx l i else none
def Eff.val (st:St) (v:AVal):Eff:={dst:=some v,next:=st.next}
def Eff.c (st:St) (c:Cell):Eff:=Eff.val st (.v (.c c))
def Eff.b (st:St) (b:Bool):Eff:=Eff.c st (.bool b)
def Rj (st:St) (op:BinOp) (k:IntKind) (x:Int) (k':IntKind) (y:Int):Option AOut :=
 match op with
 |.shl=>match k'.signed with
  |true=>some (.chk (leB 0 y) (.c st (.int k (A9 k x y))))
  |false=>some (.ok (.c st (.int k (A9 k x y))))
 |.shr=>match k'.signed with
  |true=>some (.chk (leB 0 y) (.c st (.int k (AH k x y))))
  |false=>some (.ok (.c st (.int k (AH k x y))))
 |op=>match MC k k' with
  |false=>none
  |true=>match op with
   |.add=>some (.ok (.c st (.int k (wr k (Jv x y)))))
   |.sub=>some (.ok (.c st (.int k (wr k (Gi x y)))))
   |.mul=>some (.ok (.c st (.int k (wr k (AhG x y)))))
   |.quo=>some (.chk (Nv (eqI y 0)) (.c st (.int k (DZ k x y))))
   |.rem=>some (.chk (Nv (eqI y 0)) (.c st (.int k (BB x y))))
   |.and | .or | .xor | .andNot=>some (.ok (.c st (.int k (Aq op k x y))))
   |.eql=>some (.ok (.b st (eqI x y)))
   |.neq=>some (.ok (.b st (Nv (eqI x y))))
   |.lss=>some (.ok (.b st (ltB x y)))
   |.leq=>some (.ok (.b st (leB x y)))
   |.gtr=>some (.ok (.b st (ltB y x)))
   |.geq=>some (.ok (.b st (leB y x)))
   |_=>none
def UU (P:Program) (t:TypeId) (x y:Option Cell):Option Bool :=
 match P.underlying t,x,y with
 |some (.int _),some (.int k a),some (.int k' b)=>match MC k k' with
  |true=>some (eqI a b)
  |false=>none
 |some .bool,some (.bool a),some (.bool b)=>some (eqB a b)
 |_,_,_=>none
def OC (P:Program) (a b:List Cell):List Field->Option Bool
 |[]=>some true
 |f::r=>match f.name== "_",P.info? f.type,UU P f.type a[f.offset]? b[f.offset]?,OC P a b r with
  |false,some _,some x,some y=>some (C5 x y)
  |_,_,_,_=>none
def NC (P:Program) (e:TypeId) (a b:List Cell):List Nat->Option Bool
 |[]=>some true
 |i::r=>match UU P e a[i]? b[i]?,NC P e a b r with
  |some x,some y=>some (C5 x y)
  |_,_=>none
def Vc (P:Program) (t:TypeId) (a b:List Cell):Option Bool :=
 match P.eqGuardType P.depth t with
 |true=>none
 |false=>match P.underlying t with
  |some (.struct c)=>match P.stoodInHeld t with
   |true=>none
   |false=>OC P a b c.toList
  |some (.array n e)=>match P.info? e with
   |some i=>match Nat.beq i.size 1 with
    |true=>NC P e a b (List.range n)
    |false=>none
   |none=>none
  |_=>none
def splice (cs:List Cell) (off:Nat) (vs:List Cell):List Cell:=cs.take off++vs++cs.drop (off+vs.length)
def El (P:Program) (t:TypeId):Option Bool :=
 match P.underlying t with
 |some (.struct _)|some (.array _ _)=>some true
 |some _=>some false
 |none=>none
def H2 (P:Program) (t:TypeId) (cs:List Cell):Option V1 :=
 match El P t,P.info? t with
 |some true,some i=>match Nat.ble i.size cs.length with
  |true=>some (.a (cs.take i.size))
  |false=>none
 |some false,some _=>match cs with
  |c::_=>some (.c c)
  |[]=>none
 |_,_=>none
def Dp:(T:Ty)->T.interp
 |.int _=>(0:Int)
 |.bool=>false
 |.slice _=>[]
 |.unit=>()
 |.pair a b=>(Dp a,Dp b)
def Gf (P:Program) (R:RO) (st:St) (t:TypeId):Option AVal->Option AOut
 |some (.v (.c (.ptr k off)))=>match st.obj R k with
  |some (.box cs)=>match H2 P t (cs.drop off) with
   |some v=>some (.ok {Eff.val st (.v v) with reads:=[k]})
   |none=>none
  |_=>none
 |some (.v (.c (.eptr k i)))=>match st.obj R k,P.info? t with
  |some (.arr T l),some inf=>match Nat.beq inf.size T.size,El P t with
   |true,some g=>match Bool.beq' g T.isAgg with
    |true=>some (.opt T (idx l i) λx=>{Eff.val st (.v (Ru T x)) with reads:=[k]})
    |false=>none
   |_,_=>none
  |_,_=>none
 |some (.iptr cs)=>match H2 P t cs with
  |some v=>some (.ok (Eff.val st (.v v)))
  |none=>none
 |some (.fnp (f,b,cs))=>match El P t with
  |some false=>some (.ok (Eff.val st (match b with|true=>.bfn f cs|false=>.fn f cs)))
  |_=>none
 |some (.fptr k i off)=>match st.obj R k with
  |some (.arr T l)=>match H2 P t ((enc T (Dp T)).drop off) with
   |some _=>some (.opt T (idx l i) λx=>{dst:=(H2 P t ((enc T x).drop off)).map .v,reads:=[k],next:=st.next})
   |none=>none
  |_=>none
 |_=>none
def Lj:Ty->List Value->Option (List Value)
 |.int k,.int k' 0::r=>match MC k k' with
  |true=>some r
  |false=>none
 |.bool,.bool false::r=>some r
 |.slice _,.slice none 0 0::r=>some r
 |.unit,r=>some r
 |.pair a b,r=>match Lj a r with
  |some r=>Lj b r
  |none=>none
 |_,_=>none
def K3 (P:Program) (e:TypeId) (T:Ty):Bool :=
 match P.info? e with
 |some i=>match Nat.beq i.size T.size,Nat.beq i.size 0,i.zero with
  |true,false,some v=>match Lj T v.cells.toList with
   |some []=>true
   |_=>false
  |_,_,_=>false
 |none=>false
def Vi:Nat:=12
def jM (P:Program) (t:TypeId):Option (Nat×Ty) :=
 match P.underlying t with
 |some (.array n e)=>match Nat.ble 3 n,Nat.ble n 65536,Wf P Vi e with
  |true,true,some T=>match K3 P e T with
   |true=>some (n,T)
   |false=>none
  |_,_,_=>none
 |_=>none
def T8 (T:Ty):Nat->List Value->Bool
 |0,[]=>true
 |0,_::_=>false
 |n+1,vs=>match Lj T vs with
  |some r=>T8 T n r
  |none=>false
def KW (h:Nat->Option AObj) (T:Ty):Nat->List Cell->Option (List T.interp×List Nat)
 |0,[]=>some ([],[])
 |0,_::_=>none
 |n+1,cs=>match dec h T cs with
  |some (x,r,f)=>match KW h T n r with
   |some (xs,g)=>some (x::xs,f++g)
   |none=>none
  |none=>none
def isZ:Int->Bool
 |.ofNat 0=>true
 |_=>false
def Ho (P:Program) (R:RO) (st:St) (t:TypeId) (k:Nat) (i:Int) (T:Ty) (l:List T.interp) (sz:Nat) (v:V1):Option AOut :=
 match jM P t with
 |some (n,_)=>match isZ i,Nat.beq sz (n*T.size),KW (st.obj R) T n v.cells with
  |true,true,some (xs,c)=>match c.any (Nat.beq k) with
   |false=>some (.chk (eqI (Aa l) n) {dst:=none,upd:=[(k,some (.arr T xs))],frz:=c,reads:=k::c,next:=st.next})
   |true=>none
  |_,_,_=>none
 |none=>none
def GI (P:Program) (R:RO) (st:St) (t:TypeId) (a:Option AVal) (v:V1):Option AOut :=
 match P.info? t with
 |none=>none
 |some inf=>match Nat.beq v.cells.length inf.size with
  |false=>none
  |true=>match a with
   |some (.v (.c (.ptr k off)))=>match assoc st.heap k with
    |some (.box cs)=>match Nat.ble (off+v.cells.length) cs.length with
     |true=>some (.ok {dst:=none,upd:=[(k,some (.box (splice cs off v.cells)))],reads:=[k],next:=st.next})
     |false=>none
    |_=>none
   |some (.v (.c (.eptr k i)))=>match assoc st.heap k with
    |some (.arr T l)=>match Nat.beq inf.size T.size,GM (st.obj R) T v with
     |true,some (x,d)=>match d.any (Nat.beq k) with
      |false=>some (.opt T (idx l i) λ_=>{dst:=none,upd:=[(k,some (.arr T (AB l i x)))],frz:=d,reads:=k::d,next:=st.next})
      |true=>none
     |false,_=>Ho P R st t k i T l inf.size v
     |true,none=>none
    |_=>none
   |_=>none
def Oq (P:Program) (t:TypeId):Option (List Cell) :=
 match P.info? t with
 |some i=>match i.zero with
  |some v=>cellsOf v.cells.toList
  |none=>none
 |none=>none
def Hk (P:Program) (st:St) (t:TypeId):Option AOut :=
 match jM P t with
 |some (n,T)=>match P.info? t with
  |some i=>match i.zero with
   |some v=>match T8 T n v.cells.toList with
    |true=>some (.ok {dst:=some (.v (.c (.eptr st.next 0))),upd:=[(st.next,some (.arr T (Ay n (Dp T))))],next:=st.next+1})
    |false=>none
   |none=>none
  |none=>none
 |none=>match Oq P t with
  |some cs=>some (.ok {dst:=some (.v (.c (.ptr st.next 0))),upd:=[(st.next,some (.box cs))],next:=st.next+1})
  |none=>none
def WD (place:Nat->Option (Nat×Nat)) (cells:List Cell):List (Nat×V1)->Option (List Cell)
 |[]=>some cells
 |(i,v)::rest=>match place i with
  |none=>none
  |some (off,size)=>match Nat.beq v.cells.length size&&Nat.ble (off+v.cells.length) cells.length with
   |true=>WD place (splice cells off v.cells) rest
   |false=>none
def Fl (R:RO) (st:St):List (Nat×Operand)->Option (List (Nat×V1))
 |[]=>some []
 |(i,x)::r=>match op1 R st x,Fl R st r with
  |some v,some vs=>some ((i,v)::vs)
  |_,_=>none
def Mj (P:Program) (st:St) (t:TypeId) (parts:List (Nat×V1)):Option AOut :=
 match Oq P t,P.underlying t with
 |some z,some (.struct c)=>match c.toList.mapM λf=>(P.info? f.type).map λi=>(f.offset,i.size) with
  |some places=>match WD (λi=>places[i]?) z parts with
   |some cs=>some (.ok (Eff.val st (.v (.a cs))))
   |none=>none
  |none=>none
 |some z,some (.array _ e)=>match P.info? e with
  |some inf=>match WD (λi=>some (i*inf.size,inf.size)) z parts with
   |some cs=>some (.ok (Eff.val st (.v (.a cs))))
   |none=>none
  |none=>none
 |_,_=>none
def lits (h:Nat->Option AObj) (T:Ty):Nat->List (Nat×V1)->Option (List T.interp×List Nat)
 |_,[]=>some ([],[])
 |n,(i,v)::r=>match Nat.beq i n,GM h T v,lits h T (n+1) r with
  |true,some (x,f),some (xs,g)=>some (x::xs,f++g)
  |_,_,_=>none
def ER (P:Program) (R:RO) (st:St) (t:TypeId) (len:Nat) (parts:List (Nat×V1)):Option AOut :=
 match P.underlying t with
 |some (.slice e)=>match Wf P Vi e with
  |some T=>match K3 P e T,Nat.beq parts.length len,Nat.ble (len*T.size) 16777216,lits (st.obj R) T 0 parts with
   |true,true,true,some (l,d)=>some (.ok {dst:=some (.v (.c (.ref st.next))),upd:=[(st.next,some (.arr T l))],frz:=d,reads:=d,next:=st.next+1})
   |_,_,_,_=>none
  |none=>none
 |_=>none
def B5 (c:Int) (bytes:Nat):Bool:=decide ((bytes:Int)*c<=2 ^ 47)
def FC (P:Program) (st:St) (t:TypeId) (l c:Int):Option AOut :=
 match P.underlying t with
 |some (.slice e)=>match Wf P Vi e,P.info? e with
  |some T,some inf=>match K3 P e T with
   |true=>some (.chk (C5 (leB 0 l) (C5 (leB l c) (B5 c inf.bytes))) {dst:=some (.v (.c (.ref st.next))),upd:=[(st.next,some (.arr T (Ay l (Dp T))))],next:=st.next+1})
   |false=>none
  |_,_=>none
 |_=>none
def Mm (P:Program) (s:TypeId) (f:Nat):Option (Nat×TypeId) :=
 match P.underlying s with
 |some (.struct c)=>match c[f]? with
  |some fd=>match P.info? fd.type with
   |some inf=>match Nat.beq inf.size 0 with
    |false=>some (fd.offset,fd.type)
    |true=>none
   |none=>none
  |none=>none
 |_=>none
def FB (P:Program) (st:St) (s:TypeId) (f:Nat):Option AVal->Option AOut
 |some (.v (.c (.ptr k off)))=>match Mm P s f with
  |some (o,_)=>some (.ok (.c st (.ptr k (off+o))))
  |none=>none
 |some (.iptr cs)=>match Mm P s f with
  |some (o,_)=>some (.ok (.val st (.iptr (cs.drop o))))
  |none=>none
 |some (.v (.c (.eptr k i)))=>match Mm P s f with
  |some (o,_)=>some (.ok (.val st (.fptr k i o)))
  |none=>none
 |some (.fptr k i off)=>match Mm P s f with
  |some (o,_)=>some (.ok (.val st (.fptr k i (off+o))))
  |none=>none
 |_=>none
def DA (P:Program) (R:RO) (st:St) (t:TypeId) (x:Option Cell) (i:Int):Option AOut :=
 match P.underlying t with
 |some (.slice e)=>match P.info? e with
  |none=>none
  |some inf=>match x with
   |some (.sl T l)=>match Nat.beq inf.size T.size with
    |true=>some (.opt T (idx l i) λy=>Eff.val st (.iptr (enc T y)))
    |false=>none
   |some (.ref k)=>match st.obj R k with
    |some (.arr T l)=>match Nat.beq inf.size T.size with
     |true=>some (.opt T (idx l i) λ_=>{Eff.c st (.eptr k i) with reads:=[k]})
     |false=>none
    |_=>none
   |_=>none
 |some (.array n e)=>match P.info? e with
  |none=>none
  |some inf=>match x with
   |some (.eptr k j)=>match isZ j,st.obj R k with
    |true,some (.arr T l)=>match Nat.beq inf.size T.size with
     |true=>some (.opt T (Tm l n i) λ_=>{Eff.c st (.eptr k i) with reads:=[k]})
     |false=>none
    |_,_=>none
   |some (.ptr k off)=>match Nat.beq n 2 with
    |true=>some (.alts [(eqI i 0,Eff.c st (.ptr k off)),(eqI i 1,Eff.c st (.ptr k (off+inf.size)))])
    |false=>none
   |_=>none
 |_=>none
def GR (h:Nat->Option AObj):Option Cell->Option ((T:Ty)×List T.interp×List Nat)
 |some (.sl T l)=>some ⟨T,l,[]⟩
 |some (.ref k)=>match h k with
  |some (.arr T l)=>some ⟨T,l,[k]⟩
  |_=>none
 |some (.sub k lo n)=>match h k with
  |some (.arr T l)=>some ⟨T,EJ l lo n,[k]⟩
  |_=>none
 |_=>none
def Rm (R:RO) (st:St) (x:Option AVal):Option AOut :=
 match x with
 |some (.fns l)=>some (.chk (leB (Int.ofNat l.length) 1099511627776) (.c st (.int .i64 (Int.ofNat l.length))))
 |some (.v (.c .nils))=>some (.ok (.c st (.int .i64 0)))
 |some (.v (.c c))=>match GR (st.obj R) (some c) with
  |some ⟨_,l,ks⟩=>some (.ok {Eff.c st (.int .i64 (Aa l)) with reads:=ks})
  |none=>none
 |_=>none
def jL (P:Program) (R:RO) (st:St) (t:TypeId) (x:Option AVal):Option AOut :=
 match P.underlying t with
 |some (.slice _)=>Rm R st x
 |some (.map ..)=>match x with
  |some (.v (.c (.mref k)))=>match st.obj R k with
   |some (.map _ l)=>some (.chk (leB (Aa l) 1099511627776) {Eff.c st (.int .i64 (Aa l)) with reads:=[k]})
   |_=>none
  |_=>none
 |some .string=>match x with
  |some (.str l)=>some (.chk (leB (Aa l) 1099511627776) (.c st (.int .i64 (Aa l))))
  |_=>none
 |_=>none
def AA (n:Int) (bytes:Nat):Bool:=decide (n*bytes<=2 ^ 46)
def DD (P:Program) (R:RO) (st:St) (t:TypeId) (s x:Option Cell):Option AOut :=
 match P.underlying t with
 |some (.slice e)=>match P.info? e with
  |none=>none
  |some inf =>
   let mk (T:Ty) (l xs:List T.interp) (gone:List (Nat×Option AObj)) (rd:List Nat):Option AOut :=
    match K3 P e T with
    |true=>some (.chk (C5 (!Nat.beq inf.bytes 0) (AA (Jv (Aa l) (Aa xs)) inf.bytes))
      {dst:=some (.v (.c (.ref st.next))),upd:=gone++[(st.next,some (.arr T (DM l xs)))],reads:=rd,next:=st.next+1})
    |false=>none
   match s,x with
   |some .nils,some .nils=>match Wf P Vi e with
    |some T=>mk T [] [] [] []
    |none=>none
   |some .nils,x=>match GR (st.obj R) x with
    |some ⟨T,xs,ks⟩=>mk T [] xs [] ks
    |none=>none
   |some (.ref k),some .nils=>match assoc st.heap k,assoc R.rheap k with
    |some (.arr T l),none=>mk T l [] [(k,none)] [k]
    |_,_=>none
   |some (.ref k),x=>match assoc st.heap k,assoc R.rheap k,GR (st.obj R) x with
    |some (.arr T l),none,some ⟨d,xs,ks⟩=>match Gg d T xs with
     |some xs=>mk T l xs [(k,none)] (k::ks)
     |none=>none
    |_,_,_=>none
   |_,_=>none
 |_=>none
def D9 (P:Program) (R:RO) (st:St) (t:TypeId) (s x:Option Cell):Option AOut :=
 match P.underlying t with
 |some (.slice e)=>match P.info? e,Wf P Vi e with
  |some inf,some T=>match K3 P e T,s,x with
   |true,some .nils,some (.int .i64 n)=>some (.chk (C5 (leB 0 n) (AA n inf.bytes)) {dst:=some (.v (.c (.ref st.next))),upd:=[(st.next,some (.arr T (Ay n (Dp T))))],next:=st.next+1})
   |true,some (.ref k),some (.int .i64 n)=>match assoc st.heap k,assoc R.rheap k with
    |some (.arr d l),none=>match Gg d T l with
     |some l=>some (.chk (C5 (leB 0 n) (C5 (!Nat.beq inf.bytes 0) (AA (Jv (Aa l) n) inf.bytes))) {dst:=some (.v (.c (.ref st.next))),upd:=[(k,none),(st.next,some (.arr T (DM l (Ay n (Dp T)))))],reads:=[k],next:=st.next+1})
     |none=>none
    |_,_=>none
   |_,_,_=>none
  |_,_=>none
 |_=>none
def isNum (v:Operand) (n:Int):Bool :=
 match v with
 |.const (.int .i64 m)=>m==n
 |_=>false
def JI (P:Program) (R:RO) (st:St) (n:Nat) (e:TypeId) (x:Option Cell) (lo hi d:Option Operand):Option AOut :=
 match P.info? e,x,lo,d with
 |some inf,some (.eptr k i),none,none=>match isZ i,st.obj R k with
  |true,some (.arr T l)=>match Nat.beq inf.size T.size with
   |true=>match hi with
    |none=>some (.chk (eqI (Aa l) n) {Eff.c st (.sub k 0 n) with reads:=[k]})
    |some b=>match opc R st b with
     |some (.int _ j)=>some (.chk (C5 (eqI (Aa l) n) (C5 (leB 0 j) (leB j n))) {Eff.c st (.sub k 0 j) with reads:=[k]})
     |_=>none
   |false=>none
  |_,_=>none
 |_,_,_,_=>none
def D7 (P:Program) (R:RO) (st:St) (t:TypeId) (x:Option Cell) (lo hi d:Option Operand):Option AOut :=
 match P.underlying t with
 |some (.slice e)=>match P.info? e with
  |none=>none
  |some inf=>match x,d with
   |some (.sl T l),none=>match Nat.beq inf.size T.size with
    |false=>none
    |true =>
     match lo,hi with
     |none,none=>some (.ok (.c st (.sl T l)))
     |some a,none=>match opc R st a with
      |some (.int _ i)=>some (.chk (C5 (leB 0 i) (leB i (Aa l))) (.c st (.sl T (A5 l i))))
      |_=>none
     |none,some b=>match opc R st b with
      |some (.int _ j)=>some (.chk (C5 (leB 0 j) (leB j (Aa l))) (.c st (.sl T (Ax l j))))
      |_=>none
     |some a,some b=>match opc R st a,opc R st b with
      |some (.int _ i),some (.int _ j)=>some (.chk (C5 (leB 0 i) (C5 (leB i j) (leB j (Aa l)))) (.c st (.sl T (A5 (Ax l j) i))))
      |_,_=>none
   |some .nils,none=>match lo,hi with
    |none,some b=>match opc R st b with
     |some (.int _ j)=>some (.chk (eqI j 0) (.c st .nils))
     |_=>none
    |_,_=>none
   |some (.ref k),none=>match lo,hi with
    |none,some b=>match opc R st b,assoc st.heap k,assoc R.rheap k with
     |some (.int _ j),some (.arr T l),none=>match Nat.beq inf.size T.size with
      |true=>some (.chk (C5 (leB 0 j) (leB j (Aa l))) {dst:=some (.v (.c (.ref st.next))),upd:=[(k,none),(st.next,some (.arr T (Ax l j)))],reads:=[k],next:=st.next+1})
      |false=>none
     |_,_,_=>none
    |some a,none=>match opc R st a,st.obj R k with
     |some (.int _ i),some (.arr T l)=>match Nat.beq inf.size T.size with
      |true=>some (.chk (C5 (leB 0 i) (leB i (Aa l))) {Eff.c st (.sub k i (Gi (Aa l) i)) with reads:=[k]})
      |false=>none
     |_,_=>none
    |some a,some b=>match opc R st a,opc R st b,st.obj R k with
     |some (.int _ i),some (.int _ j),some (.arr T l)=>match Nat.beq inf.size T.size with
      |true=>some (.chk (C5 (leB 0 i) (C5 (leB i j) (leB j (Aa l)))) {Eff.c st (.sub k i (Gi j i)) with reads:=[k]})
      |false=>none
     |_,_,_=>none
    |_,_=>none
   |some (.sub k o n),none=>match st.obj R k with
    |some (.arr T _)=>match Nat.beq inf.size T.size with
     |true=>match lo,hi with
      |none,some b=>match opc R st b with
       |some (.int _ j)=>some (.chk (C5 (leB 0 j) (leB j n)) {Eff.c st (.sub k o j) with reads:=[k]})
       |_=>none
      |some a,none=>match opc R st a with
       |some (.int _ i)=>some (.chk (C5 (leB 0 i) (leB i n)) {Eff.c st (.sub k (Jv o i) (Gi n i)) with reads:=[k]})
       |_=>none
      |_,_=>none
     |false=>none
    |_=>none
   |_,_=>none
 |some (.array n e)=>JI P R st n e x lo hi d
 |_=>none
def B8 (x y:Int):Int:=if y>x then y else x
def Bb (x y:Int):Int:=if y<x then y else x
def CR {α:Type} (l:List α) (lo n:Int) (s:List α):List α:=l.take lo.toNat++s.take n.toNat++l.drop (lo.toNat+(s.take n.toNat).length)
def LX (st:St):Option Cell->Option (Nat×Int×Int)
 |some (.ref k)=>match assoc st.heap k with
  |some (.arr _ l)=>some (k,0,Aa l)
  |_=>none
 |some (.sub k lo n)=>some (k,lo,n)
 |_=>none
def KB (P:Program) (R:RO) (st:St) (t:TypeId) (d s:Option Cell):Option AOut :=
 match P.underlying t with
 |some (.slice e)=>match P.info? e,LX st d with
  |some inf,some (k,lo,n)=>match assoc st.heap k with
   |some (.arr T l)=>match Nat.beq T.size 1,Nat.beq inf.size 1,GR (st.obj R) s with
    |true,true,some ⟨g,xs,ks⟩=>match Gg g T xs with
     |some xs=>some (.ok {dst:=some (.v (.c (.int .i64 (Bb (Aa xs) n)))),upd:=[(k,some (.arr T (CR l lo n xs)))],reads:=k::ks,next:=st.next})
     |none=>none
    |_,_,_=>none
   |_=>none
  |_,_=>none
 |_=>none
def jP (P:Program) (t:TypeId):Bool :=
 match P.underlying t,P.info? t with
 |some .bool,some i=>match i.zero with
  |some (.bool false)=>true
  |_=>false
 |_,_=>false
def Q3 (P:Program) (t:TypeId):Option Ty :=
 match P.underlying t with
 |some (.map c d)=>match jP P d,P.underlying c with
  |true,some (.int k)=>some (.int k)
  |true,some (.array n e)=>match P.underlying e,P.info? e with
   |some (.int k),some inf=>match Nat.beq n 2&&(Nat.beq inf.size 1&&!P.eqGuardType P.depth c) with
    |true=>some (.pair (.int k) (.int k))
    |false=>none
   |_,_=>none
  |_,_=>none
 |_=>none
def IC (P:Program) (st:St) (t:TypeId):Option AOut :=
 match Q3 P t with
 |some T=>some (.ok {dst:=some (.v (.c (.mref st.next))),upd:=[(st.next,some (.map T []))],next:=st.next+1})
 |none=>none
def Aab (P:Program) (t:TypeId):Option Nat :=
 match P.info? t with
 |some i=>match i.zero with
  |some v=>some v.cells.size
  |none=>none
 |none=>none
def fnParts (R:RO) (st:St):Nat->List (Nat×Operand)->Option (List (FuncId×Bool×List Cell))
 |_,[]=>some []
 |n,(i,x)::r=>match Nat.beq i n,opv R st x,fnParts R st (n+1) r with
  |true,some (.fn f cs),some l=>some ((f,false,cs)::l)
  |true,some (.bfn f cs),some l=>some ((f,true,cs)::l)
  |_,_,_=>none
def FH (P:Program) (R:RO) (st:St) (t:TypeId) (len:Nat) (parts:List (Nat×Operand)):Option AOut :=
 match P.underlying t with
 |some (.slice e)=>match P.info? e,fnParts R st 0 parts with
  |some inf,some l=>match Nat.beq inf.size 1&&(Nat.beq l.length len&&(Nat.ble len 16777216&&inf.zero.isSome)) with
   |true=>some (.ok (Eff.val st (.fns l)))
   |false=>none
  |_,_=>none
 |_=>none
def Gm (P:Program) (R:RO) (st:St) (t:TypeId) (parts:List (Nat×Operand)):Option AOut :=
 match P.underlying t with
 |some (.array n e)=>match P.info? e,fnParts R st 0 parts,Aab P t with
  |some inf,some l,some z=>match Nat.beq inf.size 1&&(Nat.beq l.length n&&Nat.beq z n) with
   |true=>some (.ok (Eff.val st (.fna l)))
   |false=>none
  |_,_,_=>none
 |_=>none
def PB (st:St) (n:Int):Nat->List (FuncId×Bool×List Cell)->List (Bool×Eff)
 |_,[]=>[]
 |j,f::r=>(eqI n (Int.ofNat j),Eff.val st (match f.2.1 with|true=>.bfn f.1 f.2.2|false=>.fn f.1 f.2.2))::PB st n (j+1) r
def Hl (P:Program) (st:St) (t:TypeId) (l:List (FuncId×Bool×List Cell)) (n:Int):Option AOut :=
 match P.underlying t with
 |some (.array m e)=>match P.info? e,El P e with
  |some inf,some false=>match Nat.beq inf.size 1&&Nat.beq l.length m with
   |true=>some (.alts (PB st n 0 l))
   |false=>none
  |_,_=>none
 |_=>none
def Sr (st:St) (n:Int):Nat->List (FuncId×Bool×List Cell)->List (Bool×Eff)
 |_,[]=>[]
 |j,f::r=>(eqI n (Int.ofNat j),Eff.val st (.fnp f))::Sr st n (j+1) r
def Hm (P:Program) (st:St) (t:TypeId) (l:List (FuncId×Bool×List Cell)) (n:Int):Option AOut :=
 match P.underlying t with
 |some (.slice e)=>match P.info? e with
  |some inf=>match Nat.beq inf.size 1 with
   |true=>some (.alts (Sr st n 0 l))
   |false=>none
  |none=>none
 |_=>none
def EB (st:St) (d:Bool) (k:IntKind) (acc:Int):List V1->Option AOut
 |[]=>some (.ok (.c st (.int k acc)))
 |.c (.int k' y)::r=>match MC k k' with
  |true=>EB st d k (match d with|true=>B8 acc y|false=>Bb acc y) r
  |false=>none
 |_::_=>none
end Go.Den
namespace Go.Den
def AO:List Ty->Ty
 |[]=>.unit
 |[a]=>a
 |a::r=>.pair a (AO r)
structure FW where
 args:List Ty
 res:List Ty
 fresh:Bool
 fn:(AO args).interp->Option (AO res).interp
 tot:Option ((AO args).interp->(AO res).interp)
structure wC where
 args:List Ty
 res:Ty
 own:List Nat
 fn:(AO args).interp->Option res.interp
def VG (los:List (Nat×Ty)):List Ty:=los.map λx=>.slice x.2
structure vZ where
 size:Nat
 los:List (Nat×Ty)
 args:List Ty
 res:List Ty
 fn:(AO (AO (VG los)::args)).interp->Option (AO res).interp
def Ty.hasSl:Ty->Bool
 |.slice _=>true
 |.pair a b=>a.hasSl||b.hasSl
 |_=>false
def JX (sp:FW):Bool :=
 match sp.fresh,sp.res with
 |true,.slice t::r=>!(t.hasSl||r.any Ty.hasSl)
 |_,_=>false
inductive Item where
 |slot (s:Nat) (t:Ty)
 |own (s:Nat) (t:Ty)
 |box (s:Nat) (t:Ty)
 |arr (s:Nat) (t:Ty)
 |barr (s:Nat) (t:Ty)
 |bown (s:Nat) (t:Ty)
 |fown (s:Nat) (a e b:Ty)
 |fbox (s:Nat) (t:Ty) (own:List Nat)
 |nbox (t:Ty) (own:List Nat)
 |map (s:Nat) (t:Ty)
def Item.ty:Item->Ty
 |.slot _ t | .box _ t=>t
 |.own _ t | .arr _ t | .barr _ t | .bown _ t=>.slice t
 |.fown _ a e b=>.pair a (.pair (.slice e) b)
 |.fbox _ t _ | .nbox t _=>t
 |.map _ t=>.slice (.pair t .bool)
def Fh (l:List Item):Ty:=AO (l.map Item.ty)
structure Hints where
 loops:List (Nat×List Item):=[]
 joins:List (Nat×List Item):=[]
 outs:List (Nat×List (Nat×Ty)):=[]
 frz:List Nat:=[]
 unr:List (Nat×Nat):=[]
structure Inl where
 code:Code
 nargs:Nat
 ntmps:Nat
 results:List ResultVar
 hints:Hints
structure Ctx where
 P:Program
 tbl:FuncId->Option FW
 inl:FuncId->Option Inl
 V:World->Prop:=λ_=>True
 ptbl:FuncId->Option FW:=λ_=>none
 otbl:FuncId->Option FW:=λ_=>none
 stbl:FuncId->Option wC:=λ_=>none
 qtbl:FuncId->Option vZ:=λ_=>none
inductive Step (σ A:Type) where
 |next (s:σ)
 |done (a:A)
def Am:Nat:=2 ^ 64
def iter {σ A:Type} (bad:A) (f:σ->Step σ A):Nat->σ->A
 |0,_=>bad
 |n+1,s=>match f s with
  |.next c=>iter bad f n c
  |.done a=>a
def CT {σ A:Type} (k:σ->A) (body:(σ->A)->A):A:=body k
def Ad {α A:Type} (o:Option α) (bad:A) (f:α->A):A :=
 match o with
 |none=>bad
 |some x=>f x
inductive AExit where
 |normal
 |exit (id:Nat)
 |ret
 |goto (l:Nat)
def LM (h:Nat->Option AObj) (ks:List Nat):Cell->Cell
 |.sub k lo n=>match ks.any (Nat.beq k) with
  |true=>match h k with
   |some (.arr t l)=>.sl t (EJ l lo n)
   |_=>.sub k lo n
  |false=>.sub k lo n
 |.ref k=>match ks.any (Nat.beq k) with
  |true=>match h k with
   |some (.arr t l)=>.sl t l
   |_=>.ref k
  |false=>.ref k
 |c=>c
def jT (h:Nat->Option AObj) (ks:List Nat):V1->V1
 |.c x=>.c (LM h ks x)
 |.a cs=>.a (cs.map (LM h ks))
def My (h:Nat->Option AObj) (ks:List Nat):AVal->AVal
 |.v x=>.v (jT h ks x)
 |.tup vs=>.tup (vs.map (jT h ks))
 |.iptr cs=>.iptr (cs.map (LM h ks))
 |.fn f cs=>.fn f (cs.map (LM h ks))
 |.bfn f cs=>.bfn f (cs.map (LM h ks))
 |.fns l=>.fns (l.map λx=>(x.1,x.2.1,x.2.2.map (LM h ks)))
 |.fnp x=>.fnp (x.1,x.2.1,x.2.2.map (LM h ks))
 |.fna l=>.fna (l.map λx=>(x.1,x.2.1,x.2.2.map (LM h ks)))
 |x=>x
def X4 (h:Nat->Option AObj) (ks:List Nat):AObj->AObj
 |.box cs=>.box (cs.map (LM h ks))
 |o=>o
def Qg (h:Nat->Option AObj) (ks:List Nat):Env->Env
 |[]=>[]
 |(s,v)::r=>(s,v.map (My h ks))::Qg h ks r
def Ef (h:Nat->Option AObj) (ks:List Nat):H4->H4
 |[]=>[]
 |(k,o)::r=>match ks.any (Nat.beq k) with
  |true=>Ef h ks r
  |false=>(k,X4 h ks o)::Ef h ks r
def dropKey (k:Nat):H4->H4
 |[]=>[]
 |(k',o)::r=>match Nat.beq k' k with
  |true=>dropKey k r
  |false=>(k',o)::dropKey k r
def Bw:List (Nat×Option AObj)->H4->H4
 |[],h=>h
 |(k,some o)::r,h=>Bw r ((k,o)::dropKey k h)
 |(k,none)::r,h=>Bw r (dropKey k h)
def St.put (st:St) (d:Option Tmp) (v:Option AVal):St :=
 match d with
 |some d=>{st with env:=(d,v)::st.env}
 |none=>st
def St.frz (R:RO) (st:St) (ks:List Nat):St :=
 match ks with
 |[]=>st
 |ks=>{env:=Qg (st.obj R) ks st.env,heap:=Ef (st.obj R) ks st.heap,next:=st.next}
def St.after (R:RO) (st:St) (d:Option Tmp) (e:Eff):St :=
 St.put {env:=(st.frz R e.frz).env,heap:=Bw e.upd (st.frz R e.frz).heap,next:=e.next} d e.dst
def free (R:RO) (d:Option Tmp):Bool :=
 match d with
 |none=>true
 |some d=>match assoc R.renv d with
  |some _=>false
  |none=>true
def I9 (T:Ty):V1->Bool
 |.a _=>T.isAgg
 |.c _=>!T.isAgg
def Jk (P:Program) (R:RO) (st:St) (t:TypeId) (m:Option Cell) (v:V1):Option AOut :=
 match Q3 P t,m with
 |some T,some (.mref k)=>match st.obj R k with
  |some (.map c l)=>match Ty.eqp T c,I9 c v,GM (st.obj R) c v with
   |some _,true,some (x,[])=>some (.ok {Eff.b st (KY c l x) with reads:=[k]})
   |_,_,_=>none
  |_=>none
 |_,_=>none
def Jl (P:Program) (R:RO) (st:St) (t:TypeId) (m:Option Cell) (v:V1) (b:Bool):Option AOut :=
 match Q3 P t,m with
 |some T,some (.mref k)=>match assoc st.heap k with
  |some (.map c l)=>match Ty.eqp T c,I9 c v,GM (st.obj R) c v with
   |some _,true,some (x,[])=>some (.ok {dst:=none,upd:=[(k,some (.map c (Jw c l x b)))],reads:=[k],next:=st.next})
   |_,_,_=>none
  |_=>none
 |_,_=>none
def BY (h:Nat->Option AObj):(c:List Ty)->List V1->Option ((AO c).interp×List Nat)
 |[],[]=>some ((),[])
 |[t],[v]=>match I9 t v with
  |true=>GM h t v
  |false=>none
 |t::u::r,v::vs=>match I9 t v,GM h t v,BY h (u::r) vs with
  |true,some (x,f),some (xs,g)=>some ((x,xs),f++g)
  |_,_,_=>none
 |_,_=>none
def Qs:(c:List Ty)->(AO c).interp->List V1
 |[],_=>[]
 |[t],x=>[Ru t x]
 |t::u::r,x=>Ru t x.1::Qs (u::r) x.2
def OK:List V1->AVal
 |[v]=>.v v
 |vs=>.tup vs
def DO (st:St) (frz reads:List Nat) (fresh:Bool):(res:List Ty)->(AO res).interp->Eff
 |res,x=>match fresh with
  |false=>{dst:=some (OK (Qs res x)),frz,reads,next:=st.next}
  |true=>match res,x with
   |[.slice t],l=>{dst:=some (.v (.c (.ref st.next))),upd:=[(st.next,some (.arr t l))],frz,reads,next:=st.next+1}
   |.slice t::u::r,x=>{dst:=some (.tup (.c (.ref st.next)::Qs (u::r) x.2)),upd:=[(st.next,some (.arr t x.1))],frz,reads,next:=st.next+1}
   |_,_=>{dst:=none,frz,reads,next:=st.next}
def Da:(c:List Ty)->{t:Ty}->t.interp->(AO c).interp->(AO (t::c)).interp
 |[],_,x,_=>x
 |_::_,_,x,y=>(x,y)
def HW:(c:List Ty)->{t:Ty}->(AO (t::c)).interp->t.interp
 |[],_,x=>x
 |_::_,_,x=>x.1
def LF:(c:List Ty)->{t:Ty}->(AO (t::c)).interp->(AO c).interp
 |[],_,_=>()
 |_::_,_,x=>x.2
def Qb (st:St) (k:Nat) (c:List Nat) (t:Ty) (rs:List Ty) (y:(AO (t::rs)).interp):Eff :=
 {dst:=some (OK (Qs rs (LF rs y))),upd:=[(k,some (.box (enc t (HW rs y))))],frz:=c,reads:=k::c,next:=st.next}
def II (st:St) (k:Nat) (ks:List Nat) (rs:List Ty) (y:(AO rs).interp):Eff :=
 {dst:=some (OK (Qs rs y)),reads:=k::ks,next:=st.next}
def I5 (C:Ctx) (R:RO) (st:St) (f:FuncId) (args:List V1):Option AOut :=
 match C.ptbl f,args with
 |some {args:=t0::d,res:=rs,fresh:=true,fn,tot},.c (.ptr k 0)::rest=>match st.obj R k,rs.any Ty.hasSl with
  |some (.box cs),false=>match dec (st.obj R) t0 cs,BY (st.obj R) d rest with
   |some (x,[],h),some (xs,o)=>match tot with
    |some g=>some (.bind (AO rs) (g (Da d x xs)) (II st k (h++o) rs))
    |none=>some (.opt (AO rs) (fn (Da d x xs)) (II st k (h++o) rs))
   |_,_=>none
  |_,_=>none
 |some {args:=t0::d,res:=t1::rs,fresh:=false,fn,tot},.c (.ptr k 0)::rest=>match assoc st.heap k with
  |some (.box cs)=>match dec (st.obj R) t0 cs,BY (st.obj R) d rest with
   |some (x,[],h),some (xs,o)=>match tot with
    |some g=>some (.bind (AO (t1::rs)) (g (Da d x xs)) (Qb st k (h++o) t1 rs))
    |none=>some (.opt (AO (t1::rs)) (fn (Da d x xs)) (Qb st k (h++o) t1 rs))
   |_,_=>none
  |_=>none
 |_,_=>none
def JR (st:St) (gone:List (Nat×Option AObj)) (rd:List Nat) (t:Ty) (rs:List Ty) (y:(AO (.slice t::rs)).interp):Eff :=
 {dst:=some (OK (.c (.ref st.next)::Qs rs (LF rs y))),upd:=gone++[(st.next,some (.arr t (HW (t:=.slice t) rs y)))],reads:=rd,next:=st.next+1}
def X0 (st:St) (k:Nat) (rd:List Nat) (y:(AO [.int .i64,.int .i64]).interp):Eff :=
 {dst:=some (.v (.c (.sub k y.1 y.2))),reads:=k::rd,next:=st.next}
def H9 (C:Ctx) (R:RO) (st:St) (f:FuncId) (args:List V1):Option AOut :=
 match C.otbl f,args with
 |some {args:=.slice t::d,res:=.slice t'::rs,fresh:=_,fn,tot},.c c::rest=>match t'.hasSl||rs.any Ty.hasSl,BY (st.obj R) d rest with
  |false,some (xs,h)=>match c with
   |.nils=>match tot with
    |some g=>some (.bind (AO (.slice t'::rs)) (g (Da (t:=.slice t) d ([]:List t.interp) xs)) (JR st [] h t' rs))
    |none=>some (.opt (AO (.slice t'::rs)) (fn (Da (t:=.slice t) d ([]:List t.interp) xs)) (JR st [] h t' rs))
   |.ref k=>match assoc st.heap k,assoc R.rheap k,h.any (Nat.beq k) with
    |some (.arr T l),none,false=>match Gg T t l with
     |some l=>match tot with
      |some g=>some (.bind (AO (.slice t'::rs)) (g (Da (t:=.slice t) d l xs)) (JR st [(k,none)] (k::h) t' rs))
      |none=>some (.opt (AO (.slice t'::rs)) (fn (Da (t:=.slice t) d l xs)) (JR st [(k,none)] (k::h) t' rs))
     |none=>none
    |_,_,_=>none
   |_=>none
  |_,_=>none
 |some {args:=.int .i64::d,res:=[.int .i64,.int .i64],fresh:=_,fn,tot:=_},.a [.ref k]::rest=>match st.obj R k,BY (st.obj R) d rest with
  |some (.arr T l),some (xs,h)=>match Nat.beq T.size 1 with
   |true=>some (.opt (AO [.int .i64,.int .i64]) (fn (Da (t:=.int .i64) d (Aa l) xs)) (X0 st k h))
   |false=>none
  |_,_=>none
 |_,_=>none
def Ih (h:Nat->Option AObj) (T:Ty) (cs:List Cell):Option (T.interp×List Cell×List Nat×List Nat) :=
 match dec h T cs with
 |some (x,r,f)=>some (x,r,f,[])
 |none=>none
def JO (h d:Nat->Option AObj) (own:List Nat):(T:Ty)->Nat->List Cell->Option (T.interp×List Cell×List Nat×List Nat)
 |.slice t,off,c::r=>match own.any (Nat.beq off) with
  |false=>Ih h (.slice t) (c::r)
  |true=>match c with
   |.nils=>some (([]:List t.interp),r,[],[])
   |.ref k=>match d k with
    |some (.arr t' l)=>match Gg t' t l with
     |some l=>some (l,r,[],[k])
     |none=>none
    |_=>none
   |_=>none
 |.pair a b,off,cs=>match JO h d own a off cs with
  |some (x,r,f,g)=>match JO h d own b (off+a.size) r with
   |some (y,r,o,p)=>some ((x,y),r,f++o,g++p)
   |none=>none
  |none=>none
 |T,_,cs=>Ih h T cs
def EP (own:List Nat):(T:Ty)->Nat->T.interp->Nat->List Cell×List (Nat×Option AObj)×Nat
 |.slice t,off,l,n=>match own.any (Nat.beq off) with
  |true=>([.ref n],[(n,some (.arr t l))],n+1)
  |false=>([.sl t l],[],n)
 |.pair a b,off,x,n=>match EP own a off x.1 n with
  |(cs,u,n)=>match EP own b (off+a.size) x.2 n with
   |(ds,v,n)=>(cs++ds,u++v,n)
 |T,_,x,n=>(enc T x,[],n)
def Va (st:St) (ks own:List Nat) (t:Ty) (y:t.interp):Eff :=
 match EP own t 0 y st.next with
 |(cs,u,n)=>{dst:=some (.v (.a cs)),upd:=u,frz:=ks,reads:=ks,next:=n}
def Ml (C:Ctx) (R:RO) (st:St) (f:FuncId) (args:List V1):Option AOut :=
 match C.stbl f with
 |some {args:=c,res:=t,own,fn}=>match BY (st.obj R) c args,Nat.ble t.size 16 with
  |some (x,ks),true=>some (.opt t (fn x) (Va st ks own t))
  |_,_=>none
 |none=>none
def nodup:List Nat->Bool
 |[]=>true
 |a::r=>!r.any (Nat.beq a)&&nodup r
def Qa (a b:List Nat):Bool:=a.all λx=>!b.any (Nat.beq x)
def zL (cs:List Cell) (o:Nat) (t:Ty):Option (List t.interp) :=
 match cs[o]? with
 |some (.sl t' l)=>Gg t' t l
 |_=>none
def jW (cs:List Cell):(los:List (Nat×Ty))->Option (AO (VG los)).interp
 |[]=>some ()
 |[x]=>zL cs x.1 x.2
 |x::y::r=>match zL cs x.1 x.2,jW cs (y::r) with
  |some a,some b=>some (a,b)
  |_,_=>none
def Mk (C:Ctx) (R:RO) (st:St) (f:FuncId) (args:List V1):Option AOut :=
 match C.qtbl f,args with
 |some {size,los,args:=d,res:=rs,fn},.c (.ptr k 0)::rest=>match st.obj R k with
  |some (.box cs)=>match Nat.beq cs.length size,jW cs los,BY (st.obj R) d rest with
   |true,some x,some (xs,[])=>some (.opt (AO rs) (fn (Da d x xs)) (II st k [] rs))
   |_,_,_=>none
  |_=>none
 |_,_=>none
def KA (C:Ctx) (R:RO) (st:St) (f:FuncId) (args:List V1):Option AOut :=
 match C.tbl f with
 |none=>match C.otbl f with
  |none=>match C.stbl f with
   |none=>match C.qtbl f with
    |none=>I5 C R st f args
    |some _=>Mk C R st f args
   |some _=>Ml C R st f args
  |some _=>H9 C R st f args
 |some sp=>match BY (st.obj R) sp.args args with
  |none=>none
  |some (x,ks) =>
   let c:=match sp.res.any Ty.hasSl&&!JX sp with
    |true=>ks
    |false=>[]
   match sp.tot with
   |some g=>some (.bind (AO sp.res) (g x) (DO st c ks sp.fresh sp.res))
   |none=>some (.opt (AO sp.res) (sp.fn x) (DO st c ks sp.fresh sp.res))
def HI (R:RO) (st:St):List Operand->Option (List Cell)
 |[]=>some []
 |x::r=>match opc R st x,HI R st r with
  |some c,some cs=>some (c::cs)
  |_,_=>none
def bytesOf (l:List Int):List UInt8:=l.map λn=>UInt8.ofNat n.toNat
def Jg (l:List UInt8) (i:Int):Option Int:=if 0<=i then l[i.toNat]?.map λb=>(b.toNat:Int) else none
def aop (C:Ctx) (R:RO) (st:St) (o:Oper):Option AOut :=
 let P:=C.P
 match o.op with
 |.move x | .assign x=>match opv R st x with
  |some v=>some (.ok {dst:=some v,next:=st.next})
  |none=>none
 |.pick c x y=>match opc R st c with
  |some (.bool b)=>match opv R st (match b with|true=>x|false=>y) with
   |some v=>some (.ok {dst:=some v,next:=st.next})
   |none=>none
  |_=>none
 |.alloc e=>Hk P st e
 |.box _ x=>match op1 R st x with
  |some v=>some (.ok {dst:=some (.v (.c (.ptr st.next 0))),upd:=[(st.next,some (.box v.cells))],next:=st.next+1})
  |none=>none
 |.build t ps=>match Fl R st ps.toList with
  |some l=>Mj P st t l
  |none=>Gm P R st t ps.toList
 |.buildSlice t n ps=>match Fl R st ps.toList with
  |some l=>ER P R st t n l
  |none=>FH P R st t n ps.toList
 |.makeMap t none=>IC P st t
 |.lookup t x i false=>match op1 R st i with
  |some v=>Jk P R st t (opc R st x) v
  |none=>none
 |.mapUpdate t m k v=>match op1 R st k,opc R st v with
  |some x,some (.bool b)=>Jl P R st t (opc R st m) x b
  |_,_=>none
 |.load t a=>Gf P R st t (opv R st a)
 |.store t a x=>match op1 R st x with
  |some v=>GI P R st t (opv R st a) v
  |none=>none
 |.binOp op t x y _=>match opv R st x,opv R st y with
  |some (.v (.c (.int k a))),some (.v (.c (.int k' b)))=>Rj st op k a k' b
  |some (.v (.c (.bool a))),some (.v (.c (.bool b)))=>match op,P.underlying t with
   |.eql,some .bool=>some (.ok (.b st (eqB a b)))
   |.neq,some .bool=>some (.ok (.b st (Nv (eqB a b))))
   |_,_=>none
  |some (.v (.a a)),some (.v (.a b))=>match Vc P t a b with
   |some e=>match op with
    |.eql=>some (.ok (.b st e))
    |.neq=>some (.ok (.b st (Nv e)))
    |_=>none
   |none=>none
  |some (.str a),some (.str b)=>match op with
   |.eql=>some (.ok (.b st (eqS a b)))
   |.neq=>some (.ok (.b st (Nv (eqS a b))))
   |_=>none
  |some (.v (.c (.ptr _ _))),some (.v (.c .nilp))=>match op,P.underlying t with
   |.eql,some (.pointer _)=>some (.ok (.b st false))
   |.neq,some (.pointer _)=>some (.ok (.b st true))
   |_,_=>none
  |_,_=>none
 |.unOp op _ x=>match op,opc R st x with
  |.not,some (.bool b)=>some (.ok (.b st (Nv b)))
  |.neg,some (.int k n)=>some (.ok (.c st (.int k (wr k (Gi 0 n)))))
  |.xor,some (.int k n)=>some (.ok (.c st (.int k (Vn k n))))
  |_,_=>none
 |.convert s d x=>match P.underlying s,P.underlying d,opc R st x with
  |some _,some (.int k),some (.int _ n)=>some (.ok (.c st (.int k (wr k n))))
  |some (.slice e),some .string,some c=>match P.underlying e with
   |some (.int .u8)=>match c with
    |.nils=>some (.ok (.val st (.str [])))
    |.sl (.int .u8) l=>some (.ok (.val st (.str (bytesOf l))))
    |.ref k=>match st.obj R k with
     |some (.arr (.int .u8) l)=>some (.ok {Eff.val st (.str (bytesOf l)) with reads:=[k]})
     |_=>none
    |_=>none
   |_=>none
  |_,_,_=>none
 |.makeFunc (.func f) first g=>match first.toList,HI R st g.toList with
  |[],some cs=>some (.ok (.val st (.fn f cs)))
  |[x],some []=>match opc R st x with
   |some c=>some (.ok (.val st (.bfn f [c])))
   |none=>none
  |_,_=>none
 |.makeSlice t l c=>match opc R st l,opc R st c with
  |some (.int .i64 l),some (.int .i64 c)=>FC P st t l c
  |_,_=>none
 |.slice t x lo hi h=>D7 P R st t (opc R st x) lo hi h
 |.fieldAddr s x f=>FB P st s f (opv R st x)
 |.field s x f=>match op1 R st x,Mm P s f with
  |some (.a cs),some (off,t)=>match H2 P t (cs.drop off) with
   |some v=>some (.ok (.val st (.v v)))
   |none=>none
  |_,_=>none
 |.indexAddr t x i=>match opc R st i with
  |some (.int _ n)=>match opv R st x with
   |some (.fns l)=>Hm P st t l n
   |_=>DA P R st t (opc R st x) n
  |_=>none
 |.index t x i=>match P.underlying t,opv R st x,opc R st i with
  |some .string,some (.str l),some (.int _ n)=>some (.opt (.int .u8) (Jg l n) λy=>.c st (.int .u8 y))
  |some (.array _ _),some (.fna l),some (.int _ n)=>Hl P st t l n
  |_,_,_=>none
 |.extract x i=>match opv R st x with
  |some (.tup vs)=>match vs[i]? with
   |some v=>some (.ok (.val st (.v v)))
   |none=>none
  |_=>none
 |.nilCheck x=>match opv R st x with
  |some (.v (.c (.ptr k o)))=>some (.ok (.c st (.ptr k o)))
  |some (.iptr cs)=>some (.ok (.val st (.iptr cs)))
  |_=>none
 |.call c=>match c.callee with
  |.builtin .len=>match c.args.toList with
   |[x]=>match c.argTypes.toList with
    |[t]=>jL P R st t (opv R st x)
    |_=>none
   |_=>none
  |.builtin .append=>match c.args.toList,c.argTypes.toList with
   |[s,x],[t,t']=>match P.underlying t' with
    |some (.slice _)=>DD P R st t (opc R st s) (opc R st x)
    |some (.int _)=>D9 P R st t (opc R st s) (opc R st x)
    |_=>none
   |_,_=>none
  |.builtin .cap=>match c.args.toList,c.argTypes.toList with
   |[x],[t]=>match opc R st x,P.underlying t with
    |some .nils,some (.slice _)=>some (.ok (.c st (.int .i64 0)))
    |_,_=>none
   |_,_=>none
  |.builtin .copy=>match c.args.toList,c.argTypes.toList with
   |[d,s],[t,_]=>KB P R st t (opc R st d) (opc R st s)
   |_,_=>none
  |.builtin .max=>match ops1 R st c.args.toList with
   |some (.c (.int k a)::r)=>EB st true k a r
   |_=>none
  |.builtin .min=>match ops1 R st c.args.toList with
   |some (.c (.int k a)::r)=>EB st false k a r
   |_=>none
  |.value (.func f)=>match ops1 R st c.args.toList with
   |some vs=>KA C R st f vs
   |none=>none
  |.value (.tmp x)=>match st.get R x,ops1 R st c.args.toList with
   |some (.bfn f cs),some vs=>KA C R st f (cs.map V1.c++vs)
   |some (.fn f []),some vs=>KA C R st f vs
   |_,_=>none
  |_=>none
 |_=>none
def Fc (ops:List Oper) (j:Nat):Option Nat :=
 match ops[j]? with
 |some o=>o.dst
 |none=>none
def Aa4 (g:Nat) (o:Oper):Option (Operand×Operand) :=
 match o.op with
 |.pick (.tmp c) a b=>match Nat.beq c g with
  |true=>some (a,b)
  |false=>none
 |_=>none
def L9 (g:Nat):List Oper->Option (List Oper×Oper×Operand×Operand×List Oper)
 |[]=>none
 |o::r=>match Aa4 g o with
  |some (a,b)=>some ([],o,a,b,r)
  |none=>match L9 g r with
   |some (c,p)=>some (o::c,p)
   |none=>none
def Gz (a b:Option (Nat×Bool)):Bool :=
 match a,b with
 |none,none=>true
 |some (i,x),some (j,y)=>Nat.beq i j&&Bool.beq' x y
 |_,_=>false
def isTrue:Operand->Bool
 |.const (.bool b)=>b
 |_=>false
def isFalse:Operand->Bool
 |.const (.bool b)=>!b
 |_=>false
def dropSlots (ds:List Nat):Env->Env
 |[]=>[]
 |(s,v)::r=>match ds.any (Nat.beq s) with
  |true=>dropSlots ds r
  |false=>(s,v)::dropSlots ds r
def dsts:List Oper->List Nat
 |[]=>[]
 |o::r=>match o.dst with
  |some d=>d::dsts r
  |none=>dsts r
def Sz (R:RO) (st:St):List (Nat×Option AObj)->Bool
 |[]=>true
 |[(k,some _)]=>match st.obj R k with
  |none=>true
  |some _=>false
 |_=>false
def VJ (g:Bool) (want:Bool) (a b:Operand) (x y:Bool):Bool :=
 match isFalse b,isTrue a with
 |true,_=>match want with
  |true=>C5 g x
  |false=>cnd g x y
 |_,true=>match want with
  |false=>bOr g y
  |true=>cnd g x y
 |_,_=>cnd g x y
def aC (ops:List Oper) (g:Nat) (want:Bool):List Nat->List Oper->Bool
 |_,[]=>true
 |seen,o::r=>match o.guard with
  |none=>false
  |some (j,w)=>match Fc ops j with
   |none=>false
   |some c=>match seen.any (Nat.beq c)||Nat.beq c g&&Bool.beq' w want with
    |true=>aC ops g want (match o.dst with|some d=>d::seen|none=>seen) r
    |false=>false
def L3 (R:RO):List Nat->Bool
 |[]=>true
 |d::r=>match free R (some d) with
  |true=>L3 R r
  |false=>false
def Sk (R:RO) (ops:List Oper) (g:Nat) (want:Bool) (c:List Oper):Bool :=
 match aC ops g want [] c,(dsts c).any (Nat.beq g),L3 R (dsts c) with
 |true,false,true=>true
 |_,_,_=>false
def St.drop (st:St) (ds:List Nat):St:={st with env:=dropSlots ds st.env}
def GZ (C:Ctx) (R:RO) (ops:List Oper):Nat->Option (Nat×Bool)->List Oper->St->Option St
 |0,_,_,_=>none
 |_+1,_,[],st=>some st
 |n+1,cur,o::r,st =>
  match Gz o.guard cur with
  |true=>match aop C R st o,free R o.dst with
   |some (.ok e),true=>match e.frz,Sz R st e.upd with
    |[],true=>GZ C R ops n cur r (st.after R o.dst e)
    |_,_=>none
   |some (.bind _ x f),true=>match (f x).frz,Sz R st (f x).upd with
    |[],true=>GZ C R ops n cur r (st.after R o.dst (f x))
    |_,_=>none
   |_,_=>none
  |false=>match o.guard with
   |none=>none
   |some (j,want)=>match Fc ops j with
    |none=>none
    |some g=>match st.get R g,L9 g (o::r) with
     |some (.v (.c (.bool c))),some (d,p,a,b,h)=>match Sk R ops g want d,GZ C R ops n (some (j,want)) d st,Gz p.guard cur,free R p.dst with
      |true,some st1,true,true=>match opc R (match want with|true=>st1|false=>st.drop (dsts d)) a,opc R (match want with|true=>st.drop (dsts d)|false=>st1) b with
       |some (.bool x),some (.bool y) =>
        GZ C R ops n cur h (St.put {env:=dropSlots (dsts d) st.env,heap:=st.heap,next:=st1.next} p.dst (some (.v (.c (.bool (VJ c want a b x y))))))
       |_,_=>none
      |_,_,_,_=>none
     |_,_=>none
def JD (R:RO) (e:Eff):Bool :=
 e.frz.all λk=>match assoc R.rheap k with
  |none=>true
  |some _=>false
def zT {A:Type} (R:RO) (st:St) (d:Option Tmp) (e:Eff) (K:St->A) (bad:A):A :=
 match JD R e with
 |true=>K (st.after R d e)
 |false=>bad
def Af8 {A:Type} (K:Eff->A) (bad:A):List (Bool×Eff)->A
 |[]=>bad
 |(b,e)::r=>AhF b (K e) (Af8 K bad r)
def Qd {A:Type} (R:RO) (d:Option Tmp) (x:Option AOut) (K:Eff->A) (bad:A):A :=
 match free R d with
 |false=>bad
 |true=>match x with
  |none=>bad
  |some (.ok e)=>K e
  |some (.chk b e)=>cnd b (K e) bad
  |some (.bind _ x f)=>Ao x λy=>K (f y)
  |some (.opt _ o f)=>Ad o bad λx=>K (f x)
  |some (.alts l)=>Af8 K bad l
def Ahj {A:Type} (R:RO) (st:St) (d:Option Tmp) (x:Option AOut) (K:St->A) (bad:A):A :=
 Qd R d x (λe=>zT R st d e K bad) bad
def Vd:Option AVal->List AVal->Option (FuncId×List AVal)
 |some (.fn g cs),vs=>some (g,vs++cs.map λc=>.v (.c c))
 |some (.bfn g cs),vs=>some (g,(cs.map λc=>.v (.c c))++vs)
 |_,_=>none
def inlined (C:Ctx) (R:RO) (st:St) (o:Oper):Option (Inl×List AVal) :=
 match o.op with
 |.call c=>match c.callee with
  |.value f=>match avs R st c.args.toList with
   |some vs=>match Vd (opv R st f) vs with
    |some (g,us)=>match C.inl g with
     |some i=>match Nat.beq us.length i.nargs with
      |true=>some (i,us)
      |false=>none
     |none=>none
    |none=>none
   |none=>none
  |_=>none
 |_=>none
where
 avs (R:RO) (st:St):List Operand->Option (List AVal)
  |[]=>some []
  |x::r=>match opv R st x,avs R st r with
   |some v,some vs=>some (v::vs)
   |_,_=>none
abbrev Gc:={A:Type}->RO->Inl->List AVal->H4->Nat->(Option AVal->H4->Nat->A)->A->A
def Rg {α A:Type} (o:Option α) (bad:A) (f:α->A):A :=
 match o with
 |none=>bad
 |some x=>f x
def Gh {A:Type} (C:Ctx) (inl:Gc) (R:RO) (ops:List Oper):Nat->Option (Nat×Bool)->List Oper->St->(St->A)->A->A
 |0,_,_,_,_,bad=>bad
 |_+1,_,[],st,K,_=>K st
 |n+1,cur,o::r,st,K,bad =>
  match Gz o.guard cur with
  |true=>match inlined C R st o with
   |some (i,vs)=>match free R o.dst with
    |true=>inl R i vs st.heap st.next (λv h E=>Gh C inl R ops n cur r (St.put {st with heap:=h,next:=E} o.dst v) K bad) bad
    |false=>bad
   |none=>Ahj R st o.dst (aop C R st o) (λst'=>Gh C inl R ops n cur r st' K bad) bad
  |false=>match o.guard with
   |none=>bad
   |some (j,want)=>match Fc ops j with
    |none=>bad
    |some g=>match st.get R g,L9 g (o::r) with
     |some (.v (.c (.bool c))),some (d,p,a,b,t)=>match Sk R ops g want d,Gz p.guard cur,free R p.dst with
      |true,true,true =>
       match GZ C R ops n (some (j,want)) d st with
       |some st1=>match opc R (match want with|true=>st1|false=>st.drop (dsts d)) a,opc R (match want with|true=>st.drop (dsts d)|false=>st1) b with
        |some (.bool x),some (.bool y) =>
         Gh C inl R ops n cur t (St.put {env:=dropSlots (dsts d) st.env,heap:=st.heap,next:=st1.next} p.dst (some (.v (.c (.bool (VJ c want a b x y)))))) K bad
        |_,_=>bad
       |none =>
        match want with
        |true=>cnd c
          (Gh C inl R ops n (some (j,want)) d st (λst1=>Rg (opv R st1 a) bad λv=>Gh C inl R ops n cur t (St.put (st1.drop (dsts d)) p.dst (some v)) K bad) bad)
          (Rg (opv R (st.drop (dsts d)) b) bad λv=>Gh C inl R ops n cur t (St.put (st.drop (dsts d)) p.dst (some v)) K bad)
        |false=>cnd c
          (Rg (opv R (st.drop (dsts d)) a) bad λv=>Gh C inl R ops n cur t (St.put (st.drop (dsts d)) p.dst (some v)) K bad)
          (Gh C inl R ops n (some (j,want)) d st (λst1=>Rg (opv R st1 b) bad λv=>Gh C inl R ops n cur t (St.put (st1.drop (dsts d)) p.dst (some v)) K bad) bad)
      |_,_,_=>bad
     |_,_=>bad
def PJ (o:Oper):List Nat:=o.op.operands.toList.filterMap fun
 |.tmp t=>some t
 |_=>none
def looks (ops:List Oper) (o:Oper):List Nat :=
 match o.guard with
 |none=>PJ o
 |some (j,_)=>match Fc ops j with
  |some g=>g::PJ o
  |none=>PJ o
def has (ks:List Nat) (k:Nat):Bool:=ks.any (Nat.beq k)
def xZ (ks:List Nat):Option Nat->Bool
 |some k=>has ks k
 |none=>false
def zG:Option Nat->Option Nat->Bool
 |some a,some b=>Nat.beq a b
 |_,_=>false
def MH (c:List Nat):List Edge->Nat
 |[]=>0
 |e::r=>match Region.binds .any e with
  |true=>Nat.lor (Nat.lor (Nat.shiftLeft 1 e.on) (c.getD e.on 0)) (MH c r)
  |false=>MH c r
def jO (i:Nat):List Edge->Bool
 |[]=>true
 |e::r=>match Region.binds .any e&&!Nat.ble (e.on+1) i with
  |true=>false
  |false=>jO i r
abbrev Rng:=Nat×Nat×Nat
def ldR (P:Program) (R:RO) (st:St) (o:Oper):Option Rng :=
 match o.op with
 |.load t a=>match opv R st a with
  |some (.v (.c (.ptr k off)))=>match El P t,P.info? t with
   |some true,some i=>some (k,off,i.size)
   |some false,some _=>some (k,off,1)
   |_,_=>none
  |_=>none
 |_=>none
def stR (P:Program) (R:RO) (st:St) (o:Oper):Option Rng :=
 match o.op with
 |.store t a _=>match opv R st a with
  |some (.v (.c (.ptr k off)))=>match P.info? t with
   |some i=>some (k,off,i.size)
   |none=>none
  |_=>none
 |_=>none
def Ow:Option Rng->Option Rng->Bool
 |some (_,o,n),some (_,o',n')=>Nat.ble (o+n) o'||Nat.ble (o'+n') o
 |_,_=>false
structure JG where
 upd:List Nat
 reads:List Nat
 ld:Option Rng
 st:Option Rng
structure DOp where
 mask:Nat
 dst:Option Nat
 looks:List Nat
 upd:List Nat
 reads:List Nat
 ld:Option Rng
 st:Option Rng
def aI (x y:DOp):Bool:=x.upd.any (has y.reads)&&!Ow x.st y.ld
def Wz (x y:DOp):Bool :=
 zG x.dst y.dst||xZ y.looks x.dst||xZ x.looks y.dst||x.upd.any (has y.upd)||aI x y||aI y x
def WA (y:DOp):Nat->List DOp->Bool
 |_,[]=>true
 |i,x::r=>match Nat.testBit y.mask i||!Wz x y with
  |true=>WA y (i+1) r
  |false=>false
def SY:List DOp->List DOp->Bool
 |_,[]=>true
 |pre,y::r=>match WA y 0 pre with
  |true=>SY (pre++[y]) r
  |false=>false
def Jq:List Nat->List Oper->List Nat
 |ms,[]=>ms
 |ms,o::r=>Jq (ms++[MH ms o.after.toList]) r
def Nw:Nat->List Oper->Bool
 |_,[]=>true
 |i,o::r=>match jO i o.after.toList with
  |true=>Nw (i+1) r
  |false=>false
def xN (ops:List Oper):List Nat->List Oper->List JG->List DOp
 |m::ms,o::r,e::l=>{mask:=m,dst:=o.dst,looks:=looks ops o,upd:=e.upd,reads:=e.reads,ld:=e.ld,st:=e.st}::xN ops ms r l
 |_,_,_=>[]
def U9 (ops:List Oper) (log:List JG):Bool :=
 match Nw 0 ops with
 |true=>SY [] (xN ops (Jq [] ops) ops log)
 |false=>false
def BT (C:Ctx) (o:Oper):Bool :=
 match o.op with
 |.slice _ _ none (some _) _=>false
 |.move _ | .assign _ | .pick .. | .build .. | .load .. | .binOp .. | .unOp .. | .convert .. | .slice .. | .nilCheck _ | .fieldAddr .. | .field .. | .indexAddr .. | .index .. | .extract ..=>true
 |.call c=>match c.callee with
  |.builtin .len | .builtin .max | .builtin .min=>true
  |.value (.func f)=>match C.tbl f,C.inl f with
   |some sp,none=>match sp.fresh,sp.res.any Ty.hasSl with
    |false,false=>true
    |_,_=>false
   |_,_=>false
  |_=>false
 |_=>false
def QD (C:Ctx):List Oper->Bool
 |[]=>true
 |o::r=>match BT C o with
  |true=>QD C r
  |false=>false
def AaA (r:List Oper):Option Tmp->Bool
 |none=>false
 |some d=>r.any λo=>match o.op with
  |.call _ | .buildSlice ..=>has (PJ o) d
  |_=>false
def rB (r:List Oper):Option Tmp->Bool
 |none=>false
 |some d=>r.any λo=>match o.op with
  |.call {callee:=.builtin .append,args,.. }=>match args.toList with
   |.tmp t::_=>Nat.beq t d
   |_=>false
  |.assign (.tmp t)=>Nat.beq t d
  |_=>false
def aJ (r:List Oper):Option Tmp->Bool
 |none=>false
 |some d=>r.any λo=>match o.op with
  |.store _ (.tmp a) (.tmp t)=>Nat.beq t d&&r.any λo=>match o.op with
   |.indexAddr ..=>zG o.dst (some a)
   |_=>false
  |_=>false
def VL (n:Nat) (e:Eff):Eff :=
 match e with
 |{dst:=some (.v (.c (.ref k))),upd:=[(k',some (.arr T l))],frz:=[],reads,next:=_}=>match Nat.beq k n,Nat.beq k' n with
  |true,true=>{dst:=some (.v (.c (.sl T l))),reads,next:=n}
  |_,_=>e
 |e=>e
def bT (C:Ctx) (R:RO) (st:St) (r:List Oper) (o:Oper):Option AOut :=
 match aop C R st o with
 |some (.ok {dst:=some (.v (.c (.ref k))),upd:=[(k',some (.arr T l))],frz:=[],reads,next})=>match rB r o.dst with
  |true=>some (.ok {dst:=some (.v (.c (.ref k))),upd:=[(k',some (.arr T l))],frz:=[],reads,next})
  |false=>match o.op with
   |.buildSlice ..=>some (.ok {dst:=some (.v (.c (.sl T l))),reads,next:=st.next})
   |_=>some (.ok {dst:=some (.v (.c (.ref k))),upd:=[(k',some (.arr T l))],frz:=[],reads,next})
 |some (.chk b {dst:=some (.v (.c (.ref k))),upd:=[(k',some (.arr T l))],frz:=[],reads,next})=>match AaA r o.dst with
  |false=>some (.chk b {dst:=some (.v (.c (.ref k))),upd:=[(k',some (.arr T l))],frz:=[],reads,next})
  |true=>match o.op with
   |.makeSlice ..=>some (.chk b {dst:=some (.v (.c (.sl T l))),reads,next:=st.next})
   |_=>some (.chk b {dst:=some (.v (.c (.ref k))),upd:=[(k',some (.arr T l))],frz:=[],reads,next})
 |some (.opt T p f)=>match o.op,aJ r o.dst with
  |.call _,true=>some (.opt T p λx=>VL st.next (f x))
  |_,_=>some (.opt T p f)
 |some (.bind T p f)=>match o.op,aJ r o.dst with
  |.call _,true=>some (.bind T p λx=>VL st.next (f x))
  |_,_=>some (.bind T p f)
 |x=>x
def yK (P:Program) (R:RO) (st:St) (o:Oper) (e:Eff):JG:=⟨e.upd.map (·.1),e.reads,ldR P R st o,stR P R st o⟩
def JS {A:Type} (C:Ctx) (R:RO) (l:List Oper):List Oper->St->List JG->(List JG->St->A)->A->A
 |[],st,log,K,_=>K log st
 |o::r,st,log,K,bad=>match o.guard with
  |some (j,want)=>match Fc l j with
   |none=>bad
   |some g=>match free R (some g),free R o.dst,st.get R g with
    |true,true,some (.v (.c (.bool c)))=>match want with
     |true=>cnd c
      (Qd R o.dst (bT C R (st.put (some g) (some (.v (.c (.bool true))))) r o) (λe=>match e.frz with
        |[]=>JS C R l r { (st.put (some g) (some (.v (.c (.bool true))))).after R o.dst e with next:=st.next+16} (log++[yK C.P R (st.put (some g) (some (.v (.c (.bool true))))) o e]) K bad
        |_=>bad) bad)
      (JS C R l r { (st.put (some g) (some (.v (.c (.bool false))))).put o.dst (some .undef) with next:=st.next+16} (log++[⟨[],[],none,none⟩]) K bad)
     |false=>cnd c
      (JS C R l r { (st.put (some g) (some (.v (.c (.bool true))))).put o.dst (some .undef) with next:=st.next+16} (log++[⟨[],[],none,none⟩]) K bad)
      (Qd R o.dst (bT C R (st.put (some g) (some (.v (.c (.bool false))))) r o) (λe=>match e.frz with
        |[]=>JS C R l r { (st.put (some g) (some (.v (.c (.bool false))))).after R o.dst e with next:=st.next+16} (log++[yK C.P R (st.put (some g) (some (.v (.c (.bool false))))) o e]) K bad
        |_=>bad) bad)
    |_,_,_=>bad
  |none=>Qd R o.dst (bT C R st r o) (λe=>match e.frz with
   |[]=>JS C R l r {st.after R o.dst e with next:=st.next+16} (log++[yK C.P R st o e]) K bad
   |_=>bad) bad
end Go.Den
namespace Go.Den
structure Got (T:Ty) where
 val:T.interp
 key:Nat:=0
 gone:List Nat:=[]
 frz:List Nat:=[]
def AgR:Option AVal->Option Nat
 |some (.v (.c (.ref k)))=>some k
 |some (.v (.c (.eptr k _)))=>some k
 |_=>none
def IJ (own:List Nat):(T:Ty)->Nat->T.interp->St->List Cell×St
 |.slice t,off,l,st=>match own.any (Nat.beq off) with
  |false=>([.sl t l],st)
  |true=>([.ref st.next],{st with heap:=(st.next,.arr t l)::st.heap,next:=st.next+1})
 |.pair a b,off,x,st=>match IJ own a off x.1 st with
  |(cs,st)=>match IJ own b (off+a.size) x.2 st with
   |(ds,st)=>(cs++ds,st)
 |T,_,x,st=>(enc T x,st)
def Sl (R:RO) (st:St) (t:Ty) (own:List Nat) (c:Nat):Option (Got t) :=
 match assoc st.heap c with
 |some (.box cs)=>match JO (st.obj R) (assoc st.heap) own t 0 cs with
  |some (x,[],f,g)=>some {val:=x,key:=c,gone:=c::g,frz:=f}
  |_=>none
 |_=>none
def AgN:Option AVal->Option Nat
 |some (.v (.c (.ptr k 0)))=>some k
 |_=>none
def oF:H4->Option Nat
 |[]=>none
 |(k,.box _)::r=>match oF r with
  |some j=>match Nat.ble j k with
   |true=>some k
   |false=>some j
  |none=>some k
 |_::r=>oF r
def BG (R:RO) (st:St):(i:Item)->Option (Got i.ty)
 |.slot s t=>match st.get R s with
  |some (.v v)=>match I9 t v,GM (st.obj R) t v with
   |true,some (x,f)=>some {val:=x,frz:=f}
   |_,_=>none
  |_=>none
 |.own s t=>match st.get R s with
  |some (.v (.c .nils))=>some {val:=([]:List t.interp)}
  |some (.v (.c (.ref k)))=>match assoc st.heap k with
   |some (.arr t' l)=>match Gg t' t l with
    |some l=>some {val:=l,gone:=[k]}
    |none=>none
   |_=>none
  |_=>none
 |.box s t=>match st.get R s with
  |some (.v (.c (.ptr k 0)))=>match assoc st.heap k with
   |some (.box cs)=>match dec (st.obj R) t cs with
    |some (x,[],f)=>some {val:=x,key:=k,gone:=[k],frz:=f}
    |_=>none
   |_=>none
  |_=>none
 |.arr s t=>match AgR (st.get R s) with
  |some k=>match assoc st.heap k with
   |some (.arr t' l)=>match Gg t' t l with
    |some l=>some {val:=l,key:=k,gone:=[k]}
    |none=>none
   |_=>none
  |none=>none
 |.barr s t=>match st.get R s with
  |some (.v (.c (.ptr b 0)))=>match st.obj R b with
   |some (.box [.ref k])=>match assoc st.heap k with
    |some (.arr t' l)=>match Gg t' t l with
     |some l=>some {val:=l,key:=k,gone:=[k]}
     |none=>none
    |_=>none
   |_=>none
  |_=>none
 |.bown s t=>match st.get R s with
  |some (.v (.c (.ptr b 0)))=>match assoc st.heap b with
   |some (.box [.nils])=>some {val:=([]:List t.interp),key:=b,gone:=[b]}
   |some (.box [.ref k])=>match assoc st.heap k with
    |some (.arr t' l)=>match Gg t' t l with
     |some l=>some {val:=l,key:=b,gone:=[b,k]}
     |none=>none
    |_=>none
   |_=>none
  |_=>none
 |.fown s a t b=>match st.get R s with
  |some (.v (.c (.ptr d 0)))=>match assoc st.heap d with
   |some (.box cs)=>match dec (st.obj R) a cs with
    |some (x,c::r,f)=>match dec (st.obj R) b r with
     |some (y,[],g)=>match c with
      |.nils=>some {val:=(x,(([]:List t.interp),y)),key:=d,gone:=[d],frz:=f++g}
      |.ref k=>match assoc st.heap k with
       |some (.arr t' l)=>match Gg t' t l with
        |some l=>some {val:=(x,(l,y)),key:=d,gone:=[d,k],frz:=f++g}
        |none=>none
       |_=>none
      |_=>none
     |_=>none
    |_=>none
   |_=>none
  |_=>none
 |.fbox s t own=>match AgN (st.get R s) with
  |some d=>Sl R st t own d
  |none=>none
 |.nbox t own=>match oF st.heap with
  |some d=>Sl R st t own d
  |none=>none
 |.map s t=>match st.get R s with
  |some (.v (.c (.mref k)))=>match assoc st.heap k with
   |some (.map t' l)=>match Gg (.pair t' .bool) (.pair t .bool) l with
    |some l=>some {val:=l,key:=k,gone:=[k]}
    |none=>none
   |_=>none
  |_=>none
structure Uv (T:Ty) where
 val:T.interp
 keys:List Nat
 gone:List Nat
 frz:List Nat
def DN (R:RO) (st:St):(l:List Item)->Option (Uv (Fh l))
 |[]=>some ⟨(),[],[],[]⟩
 |[i]=>match BG R st i with
  |some g=>some ⟨g.val,[g.key],g.gone,g.frz⟩
  |none=>none
 |i::j::r=>match BG R st i,DN R st (j::r) with
  |some g,some p=>some ⟨(g.val,p.val),g.key::p.keys,g.gone++p.gone,g.frz++p.frz⟩
  |_,_=>none
def pack (R:RO) (st:St) (l:List Item):Option (Uv (Fh l)) :=
 match DN R st l with
 |some p=>match nodup p.gone&&Qa p.gone p.frz,p.frz.all λk=>match assoc R.rheap k with|none=>true|some _=>false with
  |true,true=>some p
  |_,_=>none
 |none=>none
def SK (i:Item) (key:Nat) (x:i.ty.interp) (st:St):St :=
 match i,x with
 |.slot s t,x=>{st with env:=(s,some (.v (Ru t x)))::st.env}
 |.own s t,l=>{env:=(s,some (.v (.c (.ref st.next))))::st.env,heap:=(st.next,.arr t l)::st.heap,next:=st.next+1}
 |.box _ t,x=>{st with heap:=(key,.box (enc t x))::st.heap}
 |.arr _ t,l=>{st with heap:=(key,.arr t l)::st.heap}
 |.barr _ t,l=>{st with heap:=(key,.arr t l)::st.heap}
 |.bown _ t,l=>{st with heap:=(key,.box [.ref st.next])::(st.next,.arr t l)::st.heap,next:=st.next+1}
 |.fown _ a t b,x=>{st with heap:=(key,.box (enc a x.1++.ref st.next::enc b x.2.2))::(st.next,.arr t x.2.1)::st.heap,next:=st.next+1}
 |.fbox _ t own,x=>match IJ own t 0 x st with
  |(cs,st)=>{st with heap:=(key,.box cs)::st.heap}
 |.nbox t own,x=>match IJ own t 0 x st with
  |(cs,st)=>{st with heap:=(key,.box cs)::st.heap}
 |.map _ t,l=>{st with heap:=(key,.map t l)::st.heap}
def unpack:(l:List Item)->List Nat->(Fh l).interp->St->St
 |[],_,_,st=>st
 |[i],ks,x,st=>SK i (ks.headD 0) x st
 |i::j::r,ks,x,st=>SK i (ks.headD 0) x.1 (unpack (j::r) ks.tail x.2 st)
def Ba:Code->List Nat
 |.region _ ops _=>dsts ops.toList
 |.seq a b | .cond _ a b=>Ba a++Ba b
 |.block _ a | .loop a | .scope a=>Ba a
 |.rangeFunc _ ps a b=>ps.toList++Ba a++Ba b
 |_=>[]
def A6:Item->Option Nat
 |.slot s _ | .own s _=>some s
 |_=>none
def KC:H4->List Nat
 |[]=>[]
 |(k,.arr ..)::r=>k::KC r
 |_::r=>KC r
def dropKeys (ks:List Nat):H4->H4
 |[]=>[]
 |(k,o)::r=>match ks.any (Nat.beq k) with
  |true=>dropKeys ks r
  |false=>(k,o)::dropKeys ks r
def Bt (R:RO) (st:St) (gone:List Nat) (c:List Nat):Env×H4 :=
 let d:=(KC st.heap).filter λk=>!gone.any (Nat.beq k)
 (Qg (st.obj R) d (dropSlots c st.env),Ef (st.obj R) d (dropKeys gone st.heap))
def within (R:RO) (rest:Env×H4):RO:={renv:=rest.1++R.renv,rheap:=rest.2++R.rheap}
def leave (rest:Env×H4) (st:St):St:={env:=st.env++rest.1,heap:=st.heap++rest.2,next:=st.next}
def Ki:List Nat->List Nat->Bool
 |[],[]=>true
 |a::l,b::m=>match Nat.beq a b with
  |true=>Ki l m
  |false=>false
 |_,_=>false
def Qf:Code->Option Nat
 |.region id _ _=>some id
 |.seq a b | .cond _ a b=>match Qf a with
  |some r=>some r
  |none=>Qf b
 |.block _ a | .loop a | .scope a=>Qf a
 |_=>none
def AgB (d:Hints) (c:Code):Option (List Item) :=
 match Qf c with
 |some r=>assoc d.joins r
 |none=>none
def Re:List (Nat×Ty)->List Item
 |[]=>[]
 |(s,t)::r=>.slot s t::Re r
def Fk (d:Hints) (c:Code):List Item :=
 match Qf c with
 |some r=>match assoc d.outs r with
  |some l=>Re l
  |none=>[]
 |none=>[]
def aZ:List Item->List Nat->List Nat
 |[],ks=>ks
 |_::r,ks=>0::aZ r ks
def known (R:RO) (c:Operand) (b:Bool) (st:St):St :=
 match c with
 |.tmp t=>match free R (some t) with
  |true=>{st with env:=(t,some (.v (.c (.bool b))))::st.env}
  |false=>st
 |_=>st
def cI {A:Type} (C:Ctx) (inl:Gc) (R:RO) (ops:List Oper) (st:St) (K:St->A) (bad:A):A :=
 match QD C ops with
 |true=>match U9 ops (ops.map λ_=>⟨[],[],none,none⟩) with
  |true=>Gh C inl R ops (2*ops.length+2) none ops st K bad
  |false=>bad
 |false=>JS C R ops ops st [] (λlog st'=>match U9 ops log with
  |true=>K st'
  |false=>bad) bad
def jS (c:Hints) (id:Nat) (R:RO) (st:St):St :=
 match c.frz.any (Nat.beq id) with
 |true=>st.frz R (KC st.heap)
 |false=>st
def Bi (C:Ctx) (inl:Gc) (d:Hints):(c:Code)->{A:Type}->RO->St->(AExit->St->A)->A->A
 |.skip,_,_,st,K,_=>K .normal st
 |.label _,_,_,st,K,_=>K .normal st
 |.region id ops draw,_,R,st,K,bad=>match draw with
  |false=>Gh C inl R ops.toList (2*ops.toList.length+2) none ops.toList st (K .normal) bad
  |true=>cI C inl R ops.toList (jS d id R st) (K .normal) bad
 |.seq a b,A,R,st,K,bad=>match AgB d b with
  |none=>Bi C inl d a R st (λe st'=>match e with
    |.normal=>Bi C inl d b R st' K bad
    |.exit i=>K (.exit i) st'
    |.ret=>K .ret st'
    |.goto l=>K (.goto l) st') bad
  |some items=>match pack R st items with
   |none=>bad
   |some p =>
    match L3 R ((Fk d b++items).filterMap A6++Ba a) with
    |false=>bad
    |true =>
     CT (σ:=(Fh (Fk d b++items)).interp) (A:=A)
      (λx=>Bi C inl d b R (leave (Bt R st p.gone ((Fk d b++items).filterMap A6++Ba a)) (unpack (Fk d b++items) (aZ (Fk d b) p.keys) x {env:=[],heap:=[],next:=st.next})) K bad)
      λk=>Bi C inl d a (within R (Bt R st p.gone ((Fk d b++items).filterMap A6++Ba a))) (unpack items p.keys p.val {env:=[],heap:=[],next:=st.next})
        (λe st'=>match e with
          |.normal=>match pack (within R (Bt R st p.gone ((Fk d b++items).filterMap A6++Ba a))) st' (Fk d b++items) with
           |some q=>match Ki q.keys (aZ (Fk d b) p.keys) with
            |true=>k q.val
            |false=>bad
           |none=>bad
          |.exit i=>K (.exit i) (leave (Bt R st p.gone ((Fk d b++items).filterMap A6++Ba a)) st')
          |.ret=>K .ret (leave (Bt R st p.gone ((Fk d b++items).filterMap A6++Ba a)) st')
          |.goto l=>K (.goto l) (leave (Bt R st p.gone ((Fk d b++items).filterMap A6++Ba a)) st')) bad
 |.cond c x y,_,R,st,K,bad=>match opc R st c with
  |some (.bool b)=>cnd b (Bi C inl d x R (known R c true st) K bad) (Bi C inl d y R (known R c false st) K bad)
  |_=>bad
 |.block id (.loop body),A,R,st,K,bad=>match assoc d.loops id with
  |none=>match assoc d.unr id with
   |none=>bad
   |some n=>Nat.rec (motive:=λ_=>St->A) (λ_=>bad) (λ_ again st=>Bi C inl d body R st (λe st'=>match e with
     |.normal=>again st'
     |.exit i=>match Nat.beq i id with
      |true=>K .normal st'
      |false=>K (.exit i) st'
     |.ret=>K .ret st'
     |.goto l=>K (.goto l) st') bad) n st
  |some h=>match pack R st h with
   |none=>bad
   |some p =>
    match L3 R (h.filterMap A6++Ba body) with
    |false=>bad
    |true =>
     iter (σ:=(Fh h).interp) (A:=A) bad
      (λx=>Bi C inl d body (A:=Step (Fh h).interp A) (within R (Bt R st p.gone (h.filterMap A6++Ba body))) (unpack h p.keys x {env:=[],heap:=[],next:=st.next})
        (λe st'=>match e with
          |.normal=>match pack (within R (Bt R st p.gone (h.filterMap A6++Ba body))) st' h with
           |some q=>match Ki q.keys p.keys with
            |true=>.next q.val
            |false=>.done bad
           |none=>.done bad
          |.exit i=>.done (match Nat.beq i id with
           |true=>K .normal (leave (Bt R st p.gone (h.filterMap A6++Ba body)) st')
           |false=>K (.exit i) (leave (Bt R st p.gone (h.filterMap A6++Ba body)) st'))
          |.ret=>.done (K .ret (leave (Bt R st p.gone (h.filterMap A6++Ba body)) st'))
          |.goto l=>.done (K (.goto l) (leave (Bt R st p.gone (h.filterMap A6++Ba body)) st'))) (.done bad))
      Am p.val
 |.block id c,_,R,st,K,bad=>Bi C inl d c R st (λe st'=>match e with
   |.normal=>K .normal st'
   |.exit i=>match Nat.beq i id with
    |true=>K .normal st'
    |false=>K (.exit i) st'
   |.ret=>K .ret st'
   |.goto l=>K (.goto l) st') bad
 |.scope c,_,R,st,K,bad=>Bi C inl d c R st (λe st'=>match e with
   |.normal=>K .normal st'
   |.exit i=>K (.exit i) st'
   |.ret=>K .ret st'
   |.goto _=>bad) bad
 |.goto l,_,_,st,K,_=>K (.goto l) st
 |.exit id,_,_,st,K,_=>K (.exit id) st
 |.ret,_,_,st,K,_=>K .ret st
 |_,_,_,_,_,bad=>bad
def Z6 (P:Program) (R:RO) (st:St):ResultVar->Option V1
 |.tmp t=>match st.get R t with
  |some (.v v)=>some v
  |_=>none
 |.cell a t=>match Gf P R st t (st.get R a) with
  |some (.ok e)=>match e.dst with
   |some (.v v)=>some v
   |_=>none
  |_=>none
def E0 (P:Program) (R:RO) (st:St):List ResultVar->Option (List V1)
 |[]=>some []
 |x::r=>match Z6 P R st x,E0 P R st r with
  |some v,some vs=>some (v::vs)
  |_,_=>none
def CP:Nat->List AVal->Env
 |_,[]=>[]
 |n,v::r=>(n,some v)::CP (n+1) r
def aK (R:RO) (st:St):List ResultVar->Option (List UInt8)
 |[.tmp t]=>match st.get R t with
  |some (.str l)=>some l
  |_=>none
 |_=>none
def EN (C:Ctx):Nat->Gc
 |0=>λ_ _ _ _ _ _ bad=>bad
 |d+1=>λR i args heap next K bad =>
  Bi C (EN C d) i.hints i.code {renv:=[],rheap:=R.rheap} {env:=CP 0 args,heap,next}
   (λe st=>match e with
     |.exit _ | .goto _=>bad
     |_=>match i.results with
      |[]=>K none st.heap st.next
      |rs=>match aK {renv:=[],rheap:=R.rheap} st rs with
       |some l=>K (some (.str l)) st.heap st.next
       |none=>match E0 C.P {renv:=[],rheap:=R.rheap} st rs with
        |some vs=>K (some (OK vs)) st.heap st.next
        |none=>bad) bad
def Cy:(c:List Ty)->(AO c).interp->List AVal
 |[],_=>[]
 |[t],x=>[.v (Ru t x)]
 |t::u::r,x=>.v (Ru t x.1)::Cy (u::r) x.2
def LL (fr:Bool) (vs:List V1) (ks:List Nat):Bool :=
 match fr with
 |true=>(match vs with | .c (.ref _)::_=>true | .c .nils::_=>true|_=>false)&&nodup ks
 |false=>true
def denote (C:Ctx) (d:Nat) (i:Inl) (c g:List Ty) (fr:Bool) (x:(AO c).interp):Option (AO g).interp :=
 Bi C (EN C d) i.hints i.code {renv:=[],rheap:=[]} {env:=CP 0 (Cy c x),heap:=[],next:=0}
  (λe st=>match e with
    |.exit _ | .goto _=>none
    |_=>match E0 C.P {renv:=[],rheap:=[]} st i.results with
     |some vs=>match BY (st.obj {renv:=[],rheap:=[]}) g vs with
      |some (y,ks)=>match LL fr vs ks with
       |true=>some y
       |false=>none
      |none=>none
     |none=>none) none
def WB (C:Ctx) (d:Nat) (i:Inl) (t0:Ty) (g:List Ty) (t1:Ty) (h:List Ty) (x:(AO (t0::g)).interp):Option (AO (t1::h)).interp :=
 Bi C (EN C d) i.hints i.code {renv:=[],rheap:=[]} {env:=CP 0 (.v (.c (.ptr 0 0))::Cy g (LF g x)),heap:=[(0,.box (enc t0 (HW g x)))],next:=1}
  (λe st=>match e with
    |.exit _ | .goto _=>none
    |_=>match E0 C.P {renv:=[],rheap:=[]} st i.results,assoc st.heap 0 with
     |some vs,some (.box cs)=>match dec (st.obj {renv:=[],rheap:=[]}) t1 cs,BY (st.obj {renv:=[],rheap:=[]}) h vs with
      |some (z,[],_),some (y,_)=>some (Da h z y)
      |_,_=>none
     |_,_=>none) none
def NA (C:Ctx) (I:Inl) (c:List Ty) (fr:Bool) (e:AExit) (st:St):Option (AO c).interp :=
 match e with
  |.exit _ | .goto _=>none
  |_=>match E0 C.P {renv:=[],rheap:=[]} st I.results with
   |some vs=>match BY (st.obj {renv:=[],rheap:=[]}) c vs with
    |some (y,ks)=>match LL fr vs ks with
     |true=>some y
     |false=>none
    |none=>none
   |none=>none
def cF (C:Ctx) (d:Nat) (i:Inl) (t:Ty) (g:List Ty) (t':Ty) (h:List Ty) (x:(AO (.slice t::g)).interp):Option (AO (.slice t'::h)).interp :=
 Bi C (EN C d) i.hints i.code {renv:=[],rheap:=[]} {env:=CP 0 (.v (.c (.ref 0))::Cy g (LF g x)),heap:=[(0,.arr t (HW (t:=.slice t) g x))],next:=1} (NA C i (.slice t'::h) true) none
def WC (C:Ctx) (d:Nat) (i:Inl) (t0:Ty) (c g:List Ty) (x:(AO (t0::c)).interp):Option (AO g).interp :=
 Bi C (EN C d) i.hints i.code {renv:=[],rheap:=[]} {env:=CP 0 (.iptr (enc t0 (HW c x))::Cy c (LF c x)),heap:=[],next:=0}
  (λe st=>match e with
    |.exit _ | .goto _=>none
    |_=>match E0 C.P {renv:=[],rheap:=[]} st i.results with
     |some vs=>match BY (st.obj {renv:=[],rheap:=[]}) g vs with
      |some (y,_)=>some y
      |none=>none
     |none=>none) none
def xI (C:Ctx) (I:Inl) (own:List Nat) (t:Ty) (e:AExit) (st:St):Option t.interp :=
 match e with
  |.exit _ | .goto _=>none
  |_=>match E0 C.P {renv:=[],rheap:=[]} st I.results,t.isAgg with
   |some [.a cs],true=>match JO (st.obj {renv:=[],rheap:=[]}) (assoc st.heap) own t 0 cs with
    |some (y,[],f,g)=>match nodup g&&Qa g f with
     |true=>some y
     |false=>none
    |_=>none
   |_,_=>none
def denoteS (C:Ctx) (d:Nat) (i:Inl) (c:List Ty) (own:List Nat) (t:Ty) (x:(AO c).interp):Option t.interp :=
 Bi C (EN C d) i.hints i.code {renv:=[],rheap:=[]} {env:=CP 0 (Cy c x),heap:=[],next:=0} (xI C i own t) none
def xE (C:Ctx) (I:Inl) (R:RO) (c:List Ty) (e:AExit) (st:St):Option (AO c).interp :=
 match e with
  |.exit _ | .goto _=>none
  |_=>match E0 C.P R st I.results with
   |some vs=>match BY (st.obj R) c vs with
    |some (y,[])=>some y
    |_=>none
   |none=>none
def GV:(los:List (Nat×Ty))->(AO (VG los)).interp->Nat->Option Cell
 |[],_,_=>none
 |[x],l,i=>match Nat.beq x.1 i with
  |true=>some (.sl x.2 l)
  |false=>none
 |x::y::r,l,i=>match Nat.beq x.1 i with
  |true=>some (.sl x.2 l.1)
  |false=>GV (y::r) l.2 i
def I8 (size:Nat) (los:List (Nat×Ty)) (x:(AO (VG los)).interp) (v:Nat->Value):List Cell :=
 (List.range size).map λi=>match GV los x i with
   |some c=>c
   |none=>.lit (v i)
def roQ (size:Nat) (los:List (Nat×Ty)) (x:(AO (VG los)).interp) (v:Nat->Value):RO :=
 {renv:=[],rheap:=[(0,.box (I8 size los x v))]}
def cG (C:Ctx) (d:Nat) (i:Inl) (size:Nat) (los:List (Nat×Ty)) (g h:List Ty) (v:Nat->Value) (x:(AO (AO (VG los)::g)).interp):Option (AO h).interp :=
 Bi C (EN C d) i.hints i.code (roQ size los (HW g x) v) {env:=CP 0 (.v (.c (.ptr 0 0))::Cy g (LF g x)),heap:=[],next:=1} (xE C i (roQ size los (HW g x) v) h) none
def ND (C:Ctx) (inl:Gc) (d:Hints) (l:Nat) (items:List Item):(c:Code)->{A:Type}->RO->St->(AExit->St->A)->A->A
 |.seq (.label l') rest,A,R,st,K,bad=>match Nat.beq l' l with
  |false=>bad
  |true=>match pack R st items with
   |none=>bad
   |some p =>
    match L3 R (items.filterMap A6++Ba rest) with
    |false=>bad
    |true =>
     iter (σ:=(Fh items).interp) (A:=A) bad
      (λx=>Bi C inl d rest (A:=Step (Fh items).interp A) (within R (Bt R st p.gone (items.filterMap A6++Ba rest))) (unpack items p.keys x {env:=[],heap:=[],next:=st.next})
        (λe st'=>match e with
          |.normal=>.done (K .normal (leave (Bt R st p.gone (items.filterMap A6++Ba rest)) st'))
          |.exit i=>.done (K (.exit i) (leave (Bt R st p.gone (items.filterMap A6++Ba rest)) st'))
          |.ret=>.done (K .ret (leave (Bt R st p.gone (items.filterMap A6++Ba rest)) st'))
          |.goto l'=>match Nat.beq l' l,pack (within R (Bt R st p.gone (items.filterMap A6++Ba rest))) st' items with
           |true,some q=>match Ki q.keys p.keys with
            |true=>.next q.val
            |false=>.done bad
           |_,_=>.done bad) (.done bad))
      Am p.val
 |.seq a b,_,R,st,K,bad=>Bi C inl d a R st (λe st'=>match e with
   |.normal=>ND C inl d l items b R st' K bad
   |.exit i=>K (.exit i) st'
   |.ret=>K .ret st'
   |.goto _=>bad) bad
 |_,_,_,_,_,bad=>bad
def cK (C:Ctx) (inl:Gc) (d:Hints) (l:Nat) (items:List Item) (c:Code) {A:Type} (R:RO) (st:St) (K:AExit->St->A) (bad:A):A :=
 match c with
 |.seq a (.scope c)=>Bi C inl d a R st (λe st'=>match e with
   |.normal=>ND C inl d l items c R st' K bad
   |.exit i=>K (.exit i) st'
   |.ret=>K .ret st'
   |.goto _=>bad) bad
 |_=>bad
def cE (C:Ctx) (d:Nat) (i:Inl) (l:Nat) (items:List Item) (c g:List Ty) (fr:Bool) (x:(AO c).interp):Option (AO g).interp :=
 cK C (EN C d) i.hints l items i.code {renv:=[],rheap:=[]} {env:=CP 0 (Cy c x),heap:=[],next:=0} (NA C i g fr) none
def AG (f:Func) (h:Hints):Inl:={code:=f.body.getD .skip,nargs:=f.params.size+f.nfree,ntmps:=f.ntmps,results:=f.results.toList,hints:=h}
def spT (a r:List Ty) (f:(AO a).interp->(AO r).interp) (fr:Bool:=false):FW:={args:=a,res:=r,fresh:=fr,fn:=λx=>some (f x),tot:=some f}
def spP (a r:List Ty) (f:(AO a).interp->Option (AO r).interp) (fr:Bool:=false):FW:={args:=a,res:=r,fresh:=fr,fn:=f,tot:=none}
end Go.Den
namespace Go.Den
open Go.RowKit
def RowOf {α:Type} (R:α->List Value->Prop):List α->List Value->Prop
 |[],vs=>vs=[]
 |x::l,vs=>∃c d,vs=c++d/\R x c/\RowOf R l d
def Reads (w:World) (O:Nat->Prop):(T:Ty)->T.interp->List Value->Prop
 |.int k,n,vs=>vs=[.int k n]/\inR k n=true
 |.bool,b,vs=>vs=[.bool b]
 |.slice t,l,vs=>∃a cap,vs=[.slice a (List.length (α:=t.interp) l) cap]/\List.length (α:=t.interp) l<=cap/\cap<=maxLen /\
   (List.length (α:=t.interp) l=0\/∃b off cells,a=some ⟨b,off,none⟩/\¬O b/\b<w.heap.size/\w.rangeAt b off cells/\RowOf (Reads w O t) l cells)
 |.unit,_,vs=>vs=[]
 |.pair a b,x,vs=>∃c d,vs=c++d/\Reads w O a x.1 c/\Reads w O b x.2 d
theorem RowOf.mono {α} {R R'} (h:∀x vs,R x vs->R' x vs):∀ {l:List α} {vs},RowOf R l vs->RowOf R' l vs
 |[],_,c=>c
 |_::_,_,⟨d,g,e,h1,o⟩=>⟨d,g,e,h _ _ h1,RowOf.mono h o⟩
theorem RowOf.append {α:Type} {R:α->List Value->Prop}:∀ {l m} {vs us},RowOf R l vs->RowOf R m us->RowOf R (l++m) (vs++us)
 |[],_,_,_,h1,c=>by have:_ = []:=h1<;>simp_all
 |_::_,_,_,_,⟨d,g,e,h1,c⟩,h=>⟨d,g++_,by rw[e,Qaq],h1,RowOf.append c h⟩
theorem RowOf.length {α n} {R} (h:∀x vs,R x vs->vs.length=n):∀ {l:List α} {vs},RowOf R l vs->vs.length=l.length*n
 |[],_,c=>by have:_ = []:=c<;>simp_all
 |_::l,_,⟨g,o,e,h1,d⟩=>by rw[e,Qau,h _ _ h1,RowOf.length h d,Qay,Qcd,Qfc,Qgh]
theorem RowOf.all {α} {R} {p:Value->Prop} (h:∀x vs,R x vs->∀v∈vs,p v):∀ {l:List α} {vs},RowOf R l vs->∀v∈vs,p v
 |[],_,d,v,c=>by have:_ = []:=d<;>simp_all
 |_::_,_,⟨o,t,e,h1,g⟩,v,c=>by
  rw[e,Qck] at c;rcases c with c|c
  ·exact h _ _ h1 v c
  ·exact RowOf.all h g v c
theorem RowOf.get {α:Type} {R:α->List Value->Prop} {n:Nat} (h:∀x vs,R x vs->vs.length=n):∀ {l:List α} {vs:List Value},RowOf R l vs->∀ {i:Nat} {x:α},l[i]?=some x ->
 ∃pre v post,vs=pre++v++post/\pre.length=i*n/\v.length=n/\R x v
 |[],_,_,i,x,c=>by simp at c
 |y::l,_,⟨d,g,e,h1,o⟩,i,x,c=>by
  cases i with
  |zero =>simp at c;subst c;exact ⟨[],d,g,by simp[e],by simp,h _ _ h1,h1⟩
  |succ i =>simp at c;obtain⟨pre,v,post,p,t,E,I⟩:=RowOf.get h o c;exact ⟨d++pre,v,post,by rw[e,p];simp,by rw[Qau,h _ _ h1,t,Qcd];omega,E,I⟩
theorem RowOf.set {α n} {R} (h:∀x vs,R x vs->vs.length=n):∀ {l} {vs},RowOf R l vs->∀ {i} {x:α} {u},i<l.length->R x u ->
 RowOf R (l.set i x) (vs.take (i*n)++u++vs.drop (i*n+n))
 |[],_,_,i,x,u,hi,_=>by simp at hi
 |y::l,_,⟨d,c,e,h1,g⟩,i,x,u,hi,o=>by
  have v:=h _ _ h1;cases i with
  |zero =>refine ⟨u,c,?_,o,g⟩<;>simp_all
  |succ i =>
   have:=RowOf.set h g (by simpa using hi) o;refine ⟨d,_,?_,h1,this⟩;rw[e,Qcd,Qfc];have p:List.take (i*n+n) (d++c)=d++List.take (i*n) c:=by rw[Qdu];rw[Qas (by omega)];congr 2;omega
   have t:List.drop (i*n+n+n) (d++c)=List.drop (i*n+n) c:=by rw[Qfi];rw[Qdl (by omega)];simp;congr 1;omega
   rw[p,t];simp
theorem RowOf.take {α n} {R} (h:∀x vs,R x vs->vs.length=n):∀ {l:List α} {vs},RowOf R l vs->∀k,RowOf R (l.take k) (vs.take (k*n))
 |[],_,c,k=>by have:_ = []:=c<;>simp_all
 |_::l,_,⟨d,g,e,h1,o⟩,k=>by
  cases k with
  |zero=>simp;rfl
  |succ k =>refine ⟨d,g.take (k*n),?_,h1,RowOf.take h o k⟩;have:=h _ _ h1;rw[e,Qcd,Qfc,Qdu,Qas (by omega)]<;>simp_all
theorem RowOf.drop {α n} {R} (h:∀x vs,R x vs->vs.length=n):∀ {l:List α} {vs},RowOf R l vs->∀k,RowOf R (l.drop k) (vs.drop (k*n))
 |[],_,o,k=>by have:_ = []:=o<;>simp_all
 |x::l,_,⟨d,c,e,h1,g⟩,k=>by
  cases k with
  |zero=>simp;exact ⟨d,c,e,h1,g⟩
  |succ k =>
   have:=h _ _ h1;have p:List.drop ((k+1)*n) (d++c)=List.drop (k*n) c:=by rw[Qcd,Qfc,Qfi,Qdl (by omega)]<;>simp_all
   rw[e,p];exact RowOf.drop h g k
theorem IW {b off us} {w:World} (h:w.rangeAt b off us) n:w.rangeAt b off (us.take n):=λj v c=>by
 rw[Qbg] at c;split at c
 ·exact h j v c
 ·cases c
theorem KO {b off us} {w:World} (h:w.rangeAt b off us) n:w.rangeAt b (off+n) (us.drop n):=λj v c=>by rw[Qcy] at c;have:=h (n+j) v c<;>grind
theorem JK {b vs e fr} {w:World} (h:w.heap[b]?=some (.cells vs e fr)):w.rangeAt b 0 vs.toList:=λj u c=>by simp at c;simp[World.cell?,h,c]
theorem AW {w O}:∀T {x} {vs},Reads w O T x vs->vs.length=T.size
 |.int _,_,_,⟨h,_⟩=>by rw[h];rfl
 |.bool,_,_,h=>by have:= h;rw[this];rfl
 |.slice _,_,_,⟨_,_,h,_⟩=>by rw[h];rfl
 |.unit,_,_,h=>by have:= h;rw[this];rfl
 |.pair a b,_,_,⟨d,g,h,h1,c⟩=>by rw[h,Qau,AW a h1,AW b c];rfl
theorem Lu {w O}:∀T {x} {vs},Reads w O T x vs->∀v∈vs,v.oneCell'=true
 |.int _,_,_,⟨h,_⟩,v,c=>by rw[h] at c;simp at c;subst c;rfl
 |.bool,_,_,h,v,c=>by have:= h;rw[this] at c;simp at c;subst c;rfl
 |.slice _,_,_,⟨_,_,h,_⟩,v,c=>by rw[h] at c;simp at c;subst c;rfl
 |.unit,_,_,h,v,c=>by have:_ = _:=h<;>simp_all
 |.pair a b,_,_,⟨g,o,h,h1,d⟩,v,c=>by
  rw[h,Qck] at c;rcases c with c|c
  ·exact Lu a h1 v c
  ·exact Lu b d v c
structure Keeps (w:World) (O:Nat->Prop) (w':World) (O':Nat->Prop):Prop where
 size:w.heap.size<=w'.heap.size
 keep:∀b,b<w.heap.size->¬O b->¬O' b/\w'.heap[b]?=w.heap[b]?
theorem Keeps.refl w O:Keeps w O w O:=⟨Qaa _,λ_ _ h=>⟨h,rfl⟩⟩
theorem Keeps.trans {w c w2 O O1 d} (h:Keeps w O c O1) (h':Keeps c O1 w2 d):Keeps w O w2 d :=
 ⟨Qbh h.size h'.size,λb g o=>let ⟨a,e⟩:=h.keep b g o;let ⟨p,t⟩:=h'.keep b (Qac g h.size) a;⟨p,t.trans e⟩⟩
theorem Keeps.cell {w w' O O' b o v} (h:Keeps w O w' O') (d:¬O b) (c:w.cell? ⟨b,o,none⟩=some v):w'.cell? ⟨b,o,none⟩=some v:=by rw[World.cell?_of_block (h.keep b (World.block_lt_of_cell? w ⟨b,o,none⟩ c) d).2];exact c
theorem Keeps.range {w w' O O' b off cells} (h:Keeps w O w' O') (c:¬O b) (d:w.rangeAt b off cells):w'.rangeAt b off cells :=
 λj v g=>h.cell c (d j v g)
theorem Av {w w' O O'} (h:Keeps w O w' O'):∀(T:Ty) {x} {vs},Reads w O T x vs->Reads w' O' T x vs
 |.int _,_,_,c=>c
 |.bool,_,_,c=>c
 |.unit,_,_,c=>c
 |.pair a b,_,_,⟨p,v,e,h1,y⟩=>⟨p,v,e,Av h a h1,Av h b y⟩
 |.slice t,l,_,⟨a,cap,e,E,I,c⟩=>by
  refine ⟨a,cap,e,E,I,?_⟩;rcases c with c|⟨b,off,cells,J,g,o,X,d⟩
  ·exact .inl c
  ·exact .inr ⟨b,off,cells,J,(h.keep b o g).1,Qac o h.size,h.range g X,RowOf.mono (λ_ _=>Av h t) d⟩
inductive All2 {α β:Type} (R:α->β->Prop):List α->List β->Prop
 |nil:All2 R [] []
 |cons {a b l m}:R a b->All2 R l m->All2 R (a::l) (b::m)
theorem All2.mono {α β} {R R'} (h:∀a b,R a b->R' a b) {l:List α} {m:List β} (c:All2 R l m):All2 R' l m:=by
 induction c with
 |nil=>exact .nil
 |cons h1 _ d=>exact .cons (h _ _ h1) d
theorem All2.length {α β:Type} {R:α->β->Prop} {l:List α} {m:List β} (h:All2 R l m):l.length=m.length:=by
 induction h with
 |nil=>rfl
 |cons _ _ c=>simp[c]
theorem All2.append {α β:Type} {R:α->β->Prop} {l l':List α} {m c} (h:All2 R l m) (h':All2 R l' c):All2 R (l++l') (m++c):=by
 induction h with
 |nil=>exact h'
 |cons h1 _ d=>exact .cons h1 d
theorem All2.take {α β:Type} {R:α->β->Prop} {l:List α} {m:List β} (h:All2 R l m) n:All2 R (l.take n) (m.take n):=by
 induction h generalizing n with
 |nil=>simp;exact .nil
 |cons h1 _ c=>cases n with
  |zero=>exact .nil
  |succ n=>exact .cons h1 (c n)
theorem All2.drop {α β:Type} {R:α->β->Prop} {l:List α} {m:List β} (h:All2 R l m) n:All2 R (l.drop n) (m.drop n):=by
 induction h generalizing n with
 |nil=>simp;exact .nil
 |cons h1 c d=>cases n with
  |zero=>exact .cons h1 c
  |succ n=>exact d n
theorem All2.get {α β:Type} {R:α->β->Prop} {l:List α} {m} (h:All2 R l m) {i:Nat} {a} (c:l[i]?=some a):∃b,m[i]?=some b/\R a b:=by
 induction h generalizing i with
 |nil=>simp at c
 |cons h1 _ d=>cases i with
  |zero=>simp_all
  |succ i=>exact d (by simpa using c)
theorem All2.map {α β c R l m} {R':c->β->Prop} (f:α->c) (h:∀a b,R a b->R' (f a) b) (d:All2 R l m):All2 R' (l.map f) m:=by
 induction d with
 |nil=>exact .nil
 |cons h1 _ g=>exact .cons (h _ _ h1) g
theorem All2.right {α β m} {R} {p:β->Prop} (h:∀a b,R a b->p b) {l:List α} (c:All2 R l m):∀b∈m,p b:=by
 induction c with
 |nil=>simp_all
 |cons h1 _ d =>grind
inductive Place where
 |box (b:Nat)
 |arr (a:Option Addr) (len cap size:Nat)
abbrev AI:=Nat->Option Place
def Place.block:Place->Option Nat
 |.box b=>some b
 |.arr (some a) _ cap _=>if cap=0 then none else some a.block
 |.arr none _ _ _=>none
def valOf (T:Ty) (vs:List Value):Value :=
 match T.isAgg with
 |true=>.agg vs.toArray
 |false=>vs.headD undef
def NW (w:World) (O:Nat->Prop) (t:Ty) (e:t.interp×Bool) (m:MapEntry):Prop:=∃us,Reads w O t e.1 us/\m.key=valOf t us/\m.val=.bool e.2
def AQ (w:World) (O:Nat->Prop) (μ:AI):Cell->Value->Prop
 |.int k n,v=>v=.int k n/\inR k n=true
 |.bool b,v=>v=.bool b
 |.sl t l,v=>Reads w O (.slice t) l [v]
 |.nils,v=>∃a,v=.slice a 0 0
 |.ref k,v=>∃a len cap sz,μ k=some (.arr a len cap sz)/\v=.slice a len cap
 |.ptr k off,v=>∃b,μ k=some (.box b)/\v=.pointer (some ⟨b,off,none⟩)
 |.eptr k i,v=>∃b len cap sz,μ k=some (.arr (some ⟨b,0,none⟩) len cap sz)/\0<=i/\i<len/\v=.pointer (some ⟨b,i.toNat*sz,none⟩)
 |.nilp,v=>v=.pointer none
 |.mref k,v=>∃b,μ k=some (.box b)/\v=.map (some b)
 |.lit x,v=>v=x/\x.oneCell'=true/\x.cells=#[x]
 |.sub k lo n,v=>∃a len cap sz d c,μ k=some (.arr a len cap sz)/\(0<=lo/\0<=n/\lo+n<=(len:Int))/\v=.slice d n.toNat c/\(n.toNat<=c/\c<=maxLen)/\(n=0\/∃b,a=some ⟨b,0,none⟩/\d=some ⟨b,lo.toNat*sz,none⟩)
def Cl (w:World) (O:Nat->Prop) (μ:AI):V1->Value->Prop
 |.c c,v=>AQ w O μ c v
 |.a cs,v=>∃vs,v=.agg vs/\All2 (AQ w O μ) cs vs.toList
def Nj (w:World) (O:Nat->Prop) (μ:AI):FuncId×Bool×List Cell->Value->Prop
 |(f,true,cs),v=>∃vs,v=.func (.func f) vs #[]/\All2 (AQ w O μ) cs vs.toList
 |(f,false,cs),v=>∃vs,v=.func (.func f) #[] vs/\All2 (AQ w O μ) cs vs.toList
def BW (w:World) (O:Nat->Prop) (μ:AI):AVal->Value->Prop
 |.undef,v=>v=undef
 |.v x,v=>Cl w O μ x v
 |.tup xs,v=>∃vs,v=.tuple vs/\All2 (Cl w O μ) xs vs.toList
 |.iptr cs,v=>∃b off us,v=.pointer (some ⟨b,off,none⟩)/\¬O b/\b<w.heap.size/\w.rangeAt b off us/\All2 (AQ w O μ) cs us
 |.fn f cs,v=>∃vs,v=.func (.func f) #[] vs/\All2 (AQ w O μ) cs vs.toList
 |.bfn f cs,v=>∃vs,v=.func (.func f) vs #[]/\All2 (AQ w O μ) cs vs.toList
 |.fptr k i off,v=>∃b len cap sz,μ k=some (.arr (some ⟨b,0,none⟩) len cap sz)/\0<=i/\i<len/\v=.pointer (some ⟨b,i.toNat*sz+off,none⟩)
 |.str l,v=>∃s,v=.string s/\s.data.toList=l
 |.fns l,v=>∃b us,v=.slice (some ⟨b,0,none⟩) l.length l.length/\¬O b/\b<w.heap.size/\w.rangeAt b 0 us/\All2 (Nj w O μ) l us
 |.fna l,v=>∃us,v=.agg us/\All2 (Nj w O μ) l us.toList
 |.fnp f,v=>∃b off u,v=.pointer (some ⟨b,off,none⟩)/\¬O b/\b<w.heap.size/\w.cell? ⟨b,off,none⟩=some u/\Nj w O μ f u
def RelO (w:World) (O:Nat->Prop) (μ:AI) (k:Nat):AObj->Prop
 |.box cs=>∃b vs e,μ k=some (.box b)/\w.heap[b]?=some (.cells vs e (0,0))/\All2 (AQ w O μ) cs vs.toList
 |.arr t l=>∃a cap,μ k=some (.arr a l.length cap t.size)/\l.length<=cap/\cap<=maxLen /\
   (cap=0\/∃b vs e,a=some ⟨b,0,none⟩/\w.heap[b]?=some (.cells vs e (0,0))/\vs.size=cap*t.size/\RowOf (Reads w O t) l (vs.toList.take (l.length*t.size)))
 |.map t l=>∃b es clock,μ k=some (.box b)/\w.heap[b]?=some (.map es clock)/\All2 (NW w O t) l es.toList
def μle (μ μ':AI):Prop:=∀k p,μ k=some p->μ' k=some p
theorem μle.refl μ:μle μ μ:=λ_ _ h=>h
theorem μle.trans {μ μ' c} (h:μle μ μ') (h':μle μ' c):μle μ c:=λ_ _ e=>h' _ _ (h _ _ e)
theorem Ce {w w' O O' μ μ'} (h:Keeps w O w' O') (d:μle μ μ'):∀c {v},AQ w O μ c v->AQ w' O' μ' c v
 |.int _ _,_,g=>g
 |.bool _,_,g=>g
 |.sl t l,_,g=>Av h (.slice t) g
 |.nils,_,g=>g
 |.ref _,_,⟨a,len,cap,sz,e,o⟩=>⟨a,len,cap,sz,d _ _ e,o⟩
 |.ptr _ _,_,⟨b,e,o⟩=>⟨b,d _ _ e,o⟩
 |.eptr _ _,_,⟨b,len,cap,sz,e,r⟩=>⟨b,len,cap,sz,d _ _ e,r⟩
 |.nilp,_,g=>g
 |.mref _,_,⟨b,e,o⟩=>⟨b,d _ _ e,o⟩
 |.lit _,_,h=>h
 |.sub _ _ _,_,⟨a,len,cap,sz,p,y,e,r⟩=>⟨a,len,cap,sz,p,y,d _ _ e,r⟩
theorem Xv {w w' O O' μ μ'} (h:Keeps w O w' O') (d:μle μ μ'):∀x {v},Cl w O μ x v->Cl w' O' μ' x v
 |.c c,_,g=>Ce h d c g
 |.a _,_,⟨vs,e,g⟩=>⟨vs,e,g.mono λc _=>Ce h d c⟩
theorem Ph {w w' O O' μ μ'} (h:Keeps w O w' O') (d:μle μ μ'):∀x {v},Nj w O μ x v->Nj w' O' μ' x v
 |(_,true,_),_,⟨vs,e,g⟩=>⟨vs,e,g.mono λc _=>Ce h d c⟩
 |(_,false,_),_,⟨vs,e,g⟩=>⟨vs,e,g.mono λc _=>Ce h d c⟩
theorem D3 {w w' O O' μ μ'} (h:Keeps w O w' O') (d:μle μ μ'):∀x {v},BW w O μ x v->BW w' O' μ' x v
 |.undef,_,g=>g
 |.v x,_,g=>Xv h d x g
 |.tup _,_,⟨vs,e,g⟩=>⟨vs,e,g.mono λc _=>Xv h d c⟩
 |.iptr _,_,⟨b,off,us,e,o,p,t,g⟩=>⟨b,off,us,e,(h.keep b p o).1,Qac p h.size,h.range o t,g.mono λc _=>Ce h d c⟩
 |.fn _ _,_,⟨vs,e,g⟩=>⟨vs,e,g.mono λc _=>Ce h d c⟩
 |.bfn _ _,_,⟨vs,e,g⟩=>⟨vs,e,g.mono λc _=>Ce h d c⟩
 |.fptr _ _ _,_,⟨b,len,cap,sz,e,r⟩=>⟨b,len,cap,sz,d _ _ e,r⟩
 |.str _,_,g=>g
 |.fns _,_,⟨b,us,e,o,p,t,g⟩=>⟨b,us,e,(h.keep b p o).1,Qac p h.size,h.range o t,g.mono λx _=>Ph h d x⟩
 |.fna _,_,⟨us,e,g⟩=>⟨us,e,g.mono λx _=>Ph h d x⟩
 |.fnp x,_,⟨b,off,u,e,o,p,t,g⟩=>⟨b,off,u,e,(h.keep b p o).1,Qac p h.size,h.cell o t,Ph h d x g⟩
theorem Cx {w w':World} {O O':Nat->Prop} {μ μ':AI} (h:Keeps w O w' O') (d:μle μ μ') {k:Nat} (o:AObj)
 (y:∀p b,μ k=some p->p.block=some b->w'.heap[b]?=w.heap[b]?) (E:RelO w O μ k o):RelO w' O' μ' k o:=by
 cases o with
 |box cs =>obtain⟨b,vs,e,h1,g,v⟩:=E;exact ⟨b,vs,e,d _ _ h1,by rw[y _ b h1 rfl];exact g,v.mono λc _=>Ce h d c⟩
 |arr t l =>
  obtain⟨a,cap,h1,g,v,h4⟩:=E;refine ⟨a,cap,d _ _ h1,g,v,?_⟩;rcases h4 with h4|⟨b,vs,e,I,X,h6,Y⟩
  ·exact .inl h4
  ·by_cases J:cap=0
   ·exact .inl J
   ·exact .inr ⟨b,vs,e,I,by rw[y _ b h1 (by rw[I];simp[Place.block,J])];exact X,h6,Y.mono λ_ _=>Av h t⟩
 |map t l =>obtain⟨b,es,c,h1,g,v⟩:=E;exact ⟨b,es,c,d _ _ h1,by rw[y _ b h1 rfl];exact g,v.mono λe m ⟨us,r,Z⟩=>⟨us,Av h t r,Z⟩⟩
theorem VP {w O μ}:∀c {v},AQ w O μ c v->v.oneCell'=true
 |.int _ _,_,⟨h,_⟩=>by rw[h];rfl
 |.bool _,_,h=>by have:= h;rw[this];rfl
 |.sl _ _,_,⟨_,_,h,_⟩=>by simp at h;rw[h];rfl
 |.nils,_,⟨_,h⟩=>by rw[h];rfl
 |.ref _,_,⟨_,_,_,_,_,h⟩=>by rw[h];rfl
 |.ptr _ _,_,⟨_,_,h⟩=>by rw[h];rfl
 |.eptr _ _,_,⟨_,_,_,_,_,_,_,h⟩=>by rw[h];rfl
 |.nilp,_,h=>by have:= h;rw[this];rfl
 |.mref _,_,⟨_,_,h⟩=>by rw[h];rfl
 |.lit _,_,⟨h,h',_⟩=>by simp_all
 |.sub _ _ _,_,⟨_,_,_,_,_,_,_,_,h,_⟩=>by rw[h];rfl
theorem Pg {w O μ}:∀c {v},AQ w O μ c v->v.cells=#[v]
 |.int _ _,_,⟨h,_⟩=>by rw[h];rfl
 |.bool _,_,h=>by have:= h;rw[this];rfl
 |.sl _ _,_,⟨_,_,h,_⟩=>by simp at h;rw[h];rfl
 |.nils,_,⟨_,h⟩=>by rw[h];rfl
 |.ref _,_,⟨_,_,_,_,_,h⟩=>by rw[h];rfl
 |.ptr _ _,_,⟨_,_,h⟩=>by rw[h];rfl
 |.eptr _ _,_,⟨_,_,_,_,_,_,_,h⟩=>by rw[h];rfl
 |.nilp,_,h=>by have:= h;rw[this];rfl
 |.mref _,_,⟨_,_,h⟩=>by rw[h];rfl
 |.lit _,_,⟨h,_,h'⟩=>by simp_all
 |.sub _ _ _,_,⟨_,_,_,_,_,_,_,_,h,_⟩=>by rw[h];rfl
theorem Gx {w O μ}:∀x {v},Cl w O μ x v->All2 (AQ w O μ) x.cells v.cells.toList
 |.c c,v,h=>by rw[Pg c h];exact .cons h .nil
 |.a cs,_,⟨vs,e,h⟩=>by rw[e];exact h
theorem Fw {w O μ}:∀T {x} {vs},Reads w O T x vs->All2 (AQ w O μ) (enc T x) vs
 |.int _,_,_,⟨h,h'⟩=>by rw[h];exact .cons ⟨rfl,h'⟩ .nil
 |.bool,_,_,h=>by have:= h;rw[this];exact .cons rfl .nil
 |.slice _,_,_,h=>by obtain⟨a,cap,e,r⟩:=h;rw[e];exact .cons ⟨a,cap,rfl,r⟩ .nil
 |.unit,_,_,h=>by have:= h;rw[this];exact .nil
 |.pair a b,_,_,⟨d,g,h,h1,c⟩=>by rw[h];exact (Fw a h1).append (Fw b c)
theorem NB {w:World} {O:Nat->Prop} {μ:AI}:∀(T:Ty) {x:T.interp} {vs:List Value},Reads w O T x vs->Cl w O μ (Ru T x) (valOf T vs)
 |.int _,_,_,⟨h,h'⟩=>by rw[h];exact ⟨rfl,h'⟩
 |.bool,_,_,h=>by have:_ = _:=h;rw[this];rfl
 |.slice _,_,_,h=>by obtain⟨a,cap,e,r⟩:=h;rw[e];exact ⟨a,cap,rfl,r⟩
 |.unit,_,_,h=>by have:_ = _:=h;rw[this];exact ⟨_,rfl,.nil⟩
 |.pair a b,x,vs,h=>⟨vs.toArray,rfl,by simpa using Fw (μ:=μ) (.pair a b) h⟩
end Go.Den
namespace Go.Den
open Go.RowKit
theorem Ea {t T l m} (h:Gg t T l=some m):∃e:t=T,m=e▸l:=by unfold Gg at h<;>grind
theorem beq_true {a b} (h:Nat.beq a b=true):a=b:=Nat.eq_of_beq_eq_true h
theorem beq_false {a b} (h:Nat.beq a b=false):a≠b:=Nat.ne_of_beq_eq_false h
theorem any_beq {k} {ks:List Nat}:ks.any (Nat.beq k)=true↔k∈ks:=by simp[List.any_eq_true]
structure Base where
 w0:World
 D:Nat->Prop
 base:Nat
 F:Nat->Prop
 dfr:List Deferred
structure RelM (B:Base) (R:RO) (st:St) (μ:AI) (O:Nat->Prop) (w:World):Prop where
 heap:∀k o,st.obj R k=some o->RelO w O μ k o
 own:∀k o,st.obj R k=some o->∀p b,μ k=some p->p.block=some b->O b/\(B.base<=b/\¬B.F b)/\b<w.heap.size
 inj:∀k k' o o',st.obj R k=some o->st.obj R k'=some o'->∀p p' b,μ k=some p->μ k'=some p'->p.block=some b->p'.block=some b->k=k'
 foreign:∀b,B.F b->O b
 flt:∀b,B.F b->w.heap[b]?=B.w0.heap[b]?
 dom:∀k p,μ k=some p->k<st.next\/B.D k
 below:Below B.base B.w0 w
 bsize:B.base<=w.heap.size
 obound:∀b,O b->b<w.heap.size
structure Ev (B:Base) (R:RO) (st':St) (μ:AI) (O:Nat->Prop) (w:World) (μ':AI) (O':Nat->Prop) (w':World):Prop where
 le:μle μ μ'
 keeps:Keeps w O w' O'
 mem:RelM B R st' μ' O' w'
 new:∀k p,μ' k=some p->μ k=some p\/k<st'.next/\∃o,st'.obj R k=some o
theorem RelO.some {w O μ k o} (h:RelO w O μ k o):∃p,μ k=.some p:=by
 cases o with
 |box cs=>obtain⟨b,_,_,h1,_⟩:=h<;>simp_all
 |arr t l=>obtain⟨a,cap,h1,_⟩:=h<;>simp_all
 |map t l=>obtain⟨b,_,_,h1,_⟩:=h<;>simp_all
theorem RelM.congr {B:Base} {R:RO} {st st':St} {μ:AI} {O:Nat->Prop} {w:World} (h:RelM B R st μ O w) (c:∀k o,st'.obj R k=some o->st.obj R k=some o) (d:st.next<=st'.next):RelM B R st' μ O w :=
 {h with
  heap:=λk o e=>h.heap k o (c k o e)
  own:=λk o e=>h.own k o (c k o e)
  inj:=λk k' o o' e g=>h.inj k k' o o' (c k o e) (c k' o' g)
  dom:=λk p e=>(h.dom k p e).imp (λh=>Qac h d) id}
theorem AE {α} a v (r:List (Nat×α)) k:assoc ((a,v)::r) k=if a=k then some v else assoc r k:=by
 simp only[assoc];split
 ·simp_all
 ·rename_i h;rw[if_neg (beq_false h)]
theorem Dh {k k'}:∀ {h},assoc (dropKey k h) k'=if k'=k then none else assoc h k'
 |[]=>by simp[dropKey,assoc]
 |(a,o)::r=>by
  simp only[dropKey];split
  ·rename_i e;have:=beq_true e;subst this;rw[Dh,AE]<;>grind
  ·rename_i e;have c:=beq_false e;rw[AE,AE,Dh]<;>grind
theorem Dg {α k}:∀ {l m:List (Nat×α)},assoc (l++m) k=(assoc l k).orElse λ_=>assoc m k
 |[],m=>by simp[assoc]
 |(a,v)::r,m=>by rw[Qbs,AE,AE,Dg]<;>grind
def noKey (R:RO) (k:Nat):Bool :=
 match assoc R.rheap k with
 |none=>true
 |some _=>false
theorem noKey_iff {R k}:noKey R k=true↔assoc R.rheap k=none:=by unfold noKey<;>grind
theorem Dv {R k k' o n e} {st:St} :
 ({env:=e,heap:=(k,o)::dropKey k st.heap,next:=n}:St).obj R k'=if k'=k then some o else st.obj R k':=by simp only[St.obj,AE,Dh]<;>grind
theorem Ym {R k k' n e} {st:St} (c:noKey R k=true) :
 ({env:=e,heap:=dropKey k st.heap,next:=n}:St).obj R k'=if k'=k then none else st.obj R k':=by
 simp only[St.obj,Dh];by_cases h:k'=k
 ·subst h;simp[noKey_iff.1 c]
 ·simp[h]
def μset (μ:AI) (k:Nat) (p:Place):AI:=λj=>if j=k then some p else μ j
theorem μle_set {μ k p} (h:∀q,μ k=some q->False):μle μ (μset μ k p):=λj q e=>by unfold μset<;>grind
theorem μset_new {R μ n p o} {st':St} (h:st'.obj R n=some o) (d:n+1=st'.next) k q (c:μset μ n p k=some q) :
 μ k=some q\/k<st'.next/\∃o,st'.obj R k=some o:=by unfold μset at c<;>grind
theorem RelM.alloc {B:Base} {R:RO} {st:St} {μ:AI} {O:Nat->Prop} {w:World} (h:RelM B R st μ O w) (hD:¬B.D st.next) (obj:Obj) (p:Place) (o:AObj)
 (v:p.block=none\/p.block=some w.heap.size)
 (ho:∀O' μ',Keeps w O (w.alloc obj) O'->μle μ μ'->μ' st.next=some p->RelO (w.alloc obj) O' μ' st.next o) (e:Env) :
 ∃μ' O',Ev B R {env:=e,heap:=(st.next,o)::dropKey st.next st.heap,next:=st.next+1} μ O w μ' O' (w.alloc obj)/\μ' st.next=some p:=by
 have X:∀q,μ st.next=some q->False:=λq e=>(h.dom _ _ e).elim (Qcm _) hD;have hk:Keeps w O (w.alloc obj) λb=>O b\/b=w.heap.size :=
  ⟨by simp,λb d hO=>⟨λhh=>hh.elim hO λe=>by omega,heap_alloc_old w obj b d⟩⟩;have Y:=μle_set (p:=p) X;have t:μset μ st.next p st.next=some p:=by simp[μset]
 have c:∀k,k≠st.next->μset μ st.next p k=μ k:=λk hk=>by simp[μset,hk]
 refine ⟨μset μ st.next p,λb=>O b\/b=w.heap.size,⟨Y,hk,?_,μset_new (o:=o) (by rw[Dv];simp) rfl⟩,t⟩;have a6:(w.alloc obj).heap.size=w.heap.size+1:=by simp
 refine {heap:=λk o' J=>?_,own:=λk o' J q b y d=>?_,inj:=λk k' o1 o2 e1 e2 q q' b y E d I=>?_,foreign:=λb d=>.inl (h.foreign b d),flt:=λb d=>(heap_alloc_old w obj b (h.obound b (h.foreign b d))).trans (h.flt b d),dom:=λk q y=>?_,below:=h.below.alloc h.bsize obj,bsize:=by have:=h.bsize;omega,obound:=λb d=>d.elim λd=>by have:=h.obound b d;omega λd=>by omega}
 ·rw[Dv] at J;by_cases g:k=st.next
  ·rw[if_pos g] at J;cases J;subst g;exact ho _ _ hk Y t
  ·rw[if_neg g] at J;refine Cx hk Y o' (λp' b a1 d=>heap_alloc_old w obj b ?_) (h.heap k o' J);exact (h.own k o' J p' b a1 d).2.2
 ·rw[Dv] at J;by_cases g:k=st.next
  ·subst g;rw[t] at y;cases y;rcases v with v|v
   ·rw[v] at d;cases d
   ·rw[v] at d;cases d;exact ⟨.inr rfl,⟨h.bsize,λhF=>Qcm _ (h.obound _ (h.foreign _ hF))⟩,by omega⟩
  ·rw[if_neg g] at J;rw[c k g] at y;have:=h.own k o' J q b y d;exact ⟨.inl this.1,this.2.1,by omega⟩
 ·rw[Dv] at e1 e2;by_cases h1:k=st.next<;>by_cases Z:k'=st.next
  ·rw[h1,Z]
  ·exfalso;subst h1;rw[t] at y;cases y;rw[if_neg Z] at e2;rw[c k' Z] at E;have:=(h.own k' o2 e2 q' b E I).2.2;rcases v with v|v
   ·rw[v] at d;cases d
   ·rw[v] at d;cases d;omega
  ·exfalso;subst Z;rw[t] at E;cases E;rw[if_neg h1] at e1;rw[c k h1] at y;have:=(h.own k o1 e1 q b y d).2.2;rcases v with v|v
   ·rw[v] at I;cases I
   ·rw[v] at I;cases I;omega
  ·rw[if_neg h1] at e1;rw[if_neg Z] at e2;rw[c k h1] at y;rw[c k' Z] at E;exact h.inj k k' o1 o2 e1 e2 q q' b y E d I
 ·by_cases g:k=st.next
  ·subst g;exact .inl (Qcx _)
  ·rw[c k g] at y;exact (h.dom k q y).imp Qca id
theorem RelM.writeG {B:Base} {R:RO} {st:St} {μ:AI} {O:Nat->Prop} {w w':World} (h:RelM B R st μ O w) {k:Nat} {o:AObj} {p:Place} {b:Nat}
 (E:st.obj R k=some o) (hp:μ k=some p) (Z:p.block=some b) (o':AObj)
 (aa:w.heap.size<=w'.heap.size) (hw:∀c,c<w.heap.size->c≠b->w'.heap[c]?=w.heap[c]?) (X:Below B.base w w')
 (ho:Keeps w O w' O->RelO w' O μ k o') (e:Env) :
 Ev B R {env:=e,heap:=(k,o')::dropKey k st.heap,next:=st.next} μ O w μ O w':=by
 have y:=h.own k o E p b hp Z;have d:Keeps w O w' O:=⟨by omega,λc g hO=>⟨hO,hw c g λe=>hO (e▸y.1)⟩⟩;refine ⟨μle.refl _,d,{heap:=λj I t=>?_,own:=λj I t q c J g=>?_,inj:=λj j' o1 o2 e1 e2 q q' c J a6 g a7=>?_,foreign:=h.foreign,flt:=λc g=>(hw c (h.obound c (h.foreign c g)) λe=>y.2.1.2 (e▸g)).trans (h.flt c g),dom:=h.dom,below:=h.below.trans X,bsize:=by have:=h.bsize;omega,obound:=λb Z=>by have:=h.obound b Z;omega},λ_ _ E=>.inl E⟩
 ·rw[Dv] at t;by_cases v:j=k
  ·rw[if_pos v] at t;cases t;subst v;exact ho d
  ·rw[if_neg v] at t;refine Cx d (μle.refl _) I (λq c J g=>hw c (h.own j I t q c J g).2.2 ?_) (h.heap j I t);intro a8;exact v (h.inj j k I o t E q p b J hp (a8▸g) Z)
 ·have:∃Y,st.obj R j=some Y:=by
   rw[Dv] at t;by_cases v:j=k
   ·subst v;exact ⟨o,E⟩
   ·rw[if_neg v] at t;exact ⟨I,t⟩
  obtain⟨Y,eo⟩:=this;have:=h.own j Y eo q c J g;exact ⟨this.1,this.2.1,by omega⟩
 ·have get:∀i oi,({env:=e,heap:=(k,o')::dropKey k st.heap,next:=st.next}:St).obj R i=some oi->∃Y,st.obj R i=some Y:=λi oi ei=>by
   rw[Dv] at ei;by_cases v:i=k
   ·subst v;exact ⟨o,E⟩
   ·rw[if_neg v] at ei;exact ⟨oi,ei⟩
  obtain⟨a1,h1⟩:=get j o1 e1;obtain⟨a2,h2⟩:=get j' o2 e2;exact h.inj j j' a1 a2 h1 h2 q q' c J a6 g a7
theorem RelM.write {B:Base} {R:RO} {st:St} {μ:AI} {O:Nat->Prop} {w w':World} (h:RelM B R st μ O w) {k:Nat} {o:AObj} {p:Place} {b:Nat}
 (t:st.obj R k=some o) (v:μ k=some p) (y:p.block=some b) (o':AObj)
 (g:w'.heap.size=w.heap.size) (E:∀c,c≠b->w'.heap[c]?=w.heap[c]?) (d:Below B.base w w')
 (I:Keeps w O w' O->RelO w' O μ k o') (e:Env) :
 Ev B R {env:=e,heap:=(k,o')::dropKey k st.heap,next:=st.next} μ O w μ O w' :=
 h.writeG t v y o' (Nat.le_of_eq g.symm) (λc _ J=>E c J) d I e
theorem F7 {h ks k}:∀ {c},assoc (Ef h ks c) k=if k∈ks then none else (assoc c k).map (X4 h ks)
 |[]=>by simp[Ef,assoc]
 |(a,o)::r=>by
  simp only[Ef];split
  ·rename_i e;have:=any_beq.1 e;rw[F7,AE]<;>grind
  ·rename_i e;have d:a∉ks:=λg=>by rw[any_beq.2 g] at e;cases e
   rw[AE,AE,F7]<;>grind
theorem Kf {w:World} {O O':Nat->Prop} {μ:AI} {k:Nat} {t:Ty} {l:List t.interp} (J:Keeps w O w O') (X:RelO w O μ k (.arr t l)) (Y:∀p b,μ k=some p->p.block=some b->¬O' b/\b<w.heap.size) {v:Value} (Z:AQ w O μ (.ref k) v) :
 Reads w O' (.slice t) l [v]:=by
 obtain⟨a,len,cap,sz,e,ev⟩:=Z;obtain⟨a',o,y,hl,hm,c⟩:=X;rw[e] at y;cases y;refine ⟨a,cap,by rw[ev],hl,hm,?_⟩;by_cases E:cap=0
 ·exact .inl (by omega)
 rcases c with c|⟨b,vs,el,I,d,hs,c⟩
 ·exact absurd c E
 ·have g:=Y _ b e (by subst I;simp[Place.block,E]);refine .inr ⟨b,0,vs.toList.take (l.length*t.size),I,g.1,g.2,λj v h=>?_,c.mono λ_ _=>Av J t⟩;rw[Qbg] at h;split at h
  ·simp at h;simp[World.cell?,d,h]
  ·cases h
theorem nX {α:Type} {l:List α} {lo n} {len:Nat} (c:l.length=len) (h0:0<=lo) (h1:0<=n) (d:lo+n<=(len:Int)):(EJ l lo n).length=n.toNat:=by unfold EJ<;>grind
theorem aU {w:World} {O:Nat->Prop} {μ:AI} {k:Nat} {t:Ty} {l:List t.interp} (hr:RelO w O μ k (.arr t l)) {lo n:Int} {v:Value} (hv:AQ w O μ (.sub k lo n) v) :
 ∃a c cells,v=.slice a (EJ l lo n).length c/\(EJ l lo n).length<=c/\c<=maxLen/\((EJ l lo n).length=0\/∃b off,a=some ⟨b,off,none⟩/\(∃p,μ k=some p/\p.block=some b)/\w.rangeAt b off cells)/\RowOf (Reads w O t) (EJ l lo n) cells:=by
 obtain⟨a,len,cap,sz,X,Y,e,⟨h0,h1,h2⟩,Z,⟨h3,h4⟩,E⟩:=hv;obtain⟨a2,a1,e',hl,hm,d⟩:=hr;rw[e] at e';cases e';have g:(EJ l lo n).length=n.toNat:=nX rfl h0 h1 h2;by_cases I:n=0
 ·have o:EJ l lo n=[]:=Qad (by rw[g,I];rfl);rw[o];exact ⟨X,Y,[],by rw[Z,I];rfl,Qaw _,h4,.inl rfl,rfl⟩
 rw[g];rcases E with E|⟨b,ea,J⟩
 ·exact absurd E I
 have hc:¬cap=0:=by clear d;omega
 rcases d with d|⟨b2,vs,el,y,h,hs,d⟩
 ·exact absurd d hc
 ·rw[ea] at y;cases y;refine ⟨X,Y,((vs.toList.take (l.length*t.size)).take ((lo+n).toNat*t.size)).drop (lo.toNat*t.size),Z,h3,h4,.inr ⟨b,lo.toNat*t.size,J,⟨_,e,by subst ea;simp[Place.block,hc]⟩,?_⟩,?_⟩
  ·have:=KO (IW (IW (JK h) (l.length*t.size)) ((lo+n).toNat*t.size)) (lo.toNat*t.size);rwa [Qbm] at this
  ·exact RowOf.drop (λx vs=>AW t) (RowOf.take (λx vs=>AW t) d (lo+n).toNat) lo.toNat
theorem aV {w O O' μ k t l lo n v} (y:Keeps w O w O') (E:RelO w O μ k (.arr t l)) (h:∀p b,μ k=some p->p.block=some b->¬O' b/\b<w.heap.size) (I:AQ w O μ (.sub k lo n) v) :
 Reads w O' (.slice t) (EJ l lo n) [v]:=by
 obtain⟨a,c,cells,J,h1,X,d,h4⟩:=aU E I;refine ⟨a,c,by rw[J],h1,X,?_⟩;rcases d with d|⟨b,off,Y,⟨p,o,g⟩,d⟩
 ·exact .inl d
 ·exact .inr ⟨b,off,cells,Y,(h p b o g).1,(h p b o g).2,d,h4.mono λ_ _=>Av y t⟩
theorem LN {w O O' μ h ks v} (d:Keeps w O w O') (E:∀k o,h k=some o->RelO w O μ k o)
 (I:∀k∈ks,∀p b,μ k=some p->p.block=some b->¬O' b/\b<w.heap.size) c (g:AQ w O μ c v):AQ w O' μ (LM h ks c) v:=by
 cases c with
 |ref k =>
  simp only[LM];split
  ·rename_i e;split
   ·rename_i t l y;exact Kf d (E k _ y) (I k (any_beq.1 e)) g
   ·exact Ce d (μle.refl _) _ g
  ·exact Ce d (μle.refl _) _ g
 |sub k lo n =>
  simp only[LM];split
  ·rename_i e;split
   ·rename_i t l y;exact aV d (E k _ y) (I k (any_beq.1 e)) g
   ·exact Ce d (μle.refl _) _ g
  ·exact Ce d (μle.refl _) _ g
 |_=>exact Ce d (μle.refl _) _ g
theorem eP {w O O' μ h ks v} (d:Keeps w O w O') (g:∀k o,h k=some o->RelO w O μ k o)
 (t:∀k∈ks,∀p b,μ k=some p->p.block=some b->¬O' b/\b<w.heap.size) x (y:Cl w O μ x v):Cl w O' μ (jT h ks x) v:=by
 cases x with
 |c c=>exact LN d g t c y
 |a cs=>obtain⟨vs,e,E⟩:=y;exact ⟨vs,e,E.map _ λc _=>LN d g t c⟩
theorem X3 {w O O' μ h ks v} (d:Keeps w O w O') (g:∀k o,h k=some o->RelO w O μ k o)
 (t:∀k∈ks,∀p b,μ k=some p->p.block=some b->¬O' b/\b<w.heap.size) x (y:Nj w O μ x v):Nj w O' μ (x.1,x.2.1,x.2.2.map (LM h ks)) v:=by obtain⟨f,b,cs⟩:=x;cases b<;>(obtain⟨vs,e,E⟩:=y;exact ⟨vs,e,E.map _ λc _=>LN d g t c⟩)
theorem Qh {w O O' μ h ks v} (g:Keeps w O w O') (y:∀k o,h k=some o->RelO w O μ k o)
 (E:∀k∈ks,∀p b,μ k=some p->p.block=some b->¬O' b/\b<w.heap.size) x (t:BW w O μ x v):BW w O' μ (My h ks x) v:=by
 cases x with
 |v x=>exact eP g y E x t
 |tup xs=>obtain⟨vs,e,d⟩:=t;exact ⟨vs,e,d.map _ λc _=>eP g y E c⟩
 |iptr cs =>obtain⟨b,off,us,e,h1,I,J,d⟩:=t;exact ⟨b,off,us,e,(g.keep b I h1).1,I,J,d.map _ λc _=>LN g y E c⟩
 |fn f cs=>obtain⟨vs,e,d⟩:=t;exact ⟨vs,e,d.map _ λc _=>LN g y E c⟩
 |bfn f cs=>obtain⟨vs,e,d⟩:=t;exact ⟨vs,e,d.map _ λc _=>LN g y E c⟩
 |fptr k i off=>exact t
 |undef=>exact t
 |str l=>exact t
 |fns l =>obtain⟨b,us,e,h1,I,J,d⟩:=t;exact ⟨b,us,by simp_all,(g.keep b I h1).1,I,J,d.map _ λx _=>X3 g y E x⟩
 |fna l =>obtain⟨us,e,d⟩:=t;exact ⟨us,e,d.map _ λx _=>X3 g y E x⟩
 |fnp x =>obtain⟨b,off,u,e,h1,I,J,d⟩:=t;exact ⟨b,off,u,e,(g.keep b I h1).1,I,J,X3 g y E x d⟩
theorem RelM.freeze {B:Base} {R:RO} {st:St} {μ:AI} {O:Nat->Prop} {w:World} (h:RelM B R st μ O w) (ks:List Nat) (a1:∀k∈ks,noKey R k=true) (hl:∀k∈ks,∃o,st.obj R k=some o) (e:Env) :
 ∃O',RelM B R {env:=e,heap:=Ef (st.obj R) ks st.heap,next:=st.next} μ O' w/\Keeps w O w O' /\
  ∀k∈ks,∀p b,μ k=some p->p.block=some b->¬O' b/\b<w.heap.size:=by
 let O':Nat->Prop:=λb=>O b/\∀k∈ks,∀p,μ k=some p->p.block≠some b
 have hO:Keeps w O w O':=⟨Qaa _,λb _ Y=>⟨λhh=>Y hh.1,rfl⟩⟩
 have Y:∀k∈ks,∀p b,μ k=some p->p.block=some b->¬O' b/\b<w.heap.size:=λk g p b J v=>by obtain⟨o,I⟩:=hl k g;exact ⟨λhh=>hh.2 k g p J v,(h.own k o I p b J v).2.2⟩
 have Z:∀k,({env:=e,heap:=Ef (st.obj R) ks st.heap,next:=st.next}:St).obj R k=if k∈ks then none else match assoc st.heap k with|some o=>some (X4 (st.obj R) ks o)|none=>assoc R.rheap k:=λk=>by
  simp only[St.obj,F7];by_cases g:k∈ks
  ·simp[g,noKey_iff.1 (a1 k g)]
  ·simp only[g,if_false];cases assoc st.heap k<;>rfl
 have d:∀k o,({env:=e,heap:=Ef (st.obj R) ks st.heap,next:=st.next}:St).obj R k=some o->k∉ks/\∃y,st.obj R k=some y/\(o=X4 (st.obj R) ks y\/o=y):=λk o E=>by
  rw[Z] at E;by_cases g:k∈ks
  ·rw[if_pos g] at E;cases E
  ·rw[if_neg g] at E;refine ⟨g,?_⟩;cases ha:assoc st.heap k with
   |some y=>rw[ha] at E;cases E;exact ⟨y,by simp[St.obj,ha],.inl rfl⟩
   |none=>rw[ha] at E;exact ⟨o,by simp[St.obj,ha];exact E,.inr rfl⟩
 refine ⟨O',{heap:=λk o E=>?_,own:=λk o E p b J v=>?_,inj:=λk k' o o' e1 e2=>?_,foreign:=λb hF=>⟨h.foreign b hF,λk g p J v=>?_⟩,flt:=h.flt,dom:=h.dom,below:=h.below,bsize:=h.bsize,obound:=λb Y=>h.obound b Y.1},hO,Y⟩
 ·obtain⟨g,y,h0,I⟩:=d k o E;have hr:=h.heap k y h0;have X:RelO w O' μ k y:=Cx hO (μle.refl _) y (λ_ _ _ _=>rfl) hr;rcases I with I|I
  ·subst I;cases y with
   |box cs =>obtain⟨b,vs,el,h1,h2,h3⟩:=hr;exact ⟨b,vs,el,h1,h2,h3.map _ λc _=>LN hO h.heap Y c⟩
   |arr t l=>exact X
   |map t l=>exact X
  ·subst I;exact X
 ·obtain⟨g,y,h0,_⟩:=d k o E;have:=h.own k y h0 p b J v;refine ⟨⟨this.1,λj hj q hq a6=>g ?_⟩,this.2⟩;obtain⟨oj,a7⟩:=hl j hj;rw[h.inj k j y oj h0 a7 p q b J hq v a6];exact hj
 ·obtain⟨_,y,h0,_⟩:=d k o e1;obtain⟨_,a8,aa,_⟩:=d k' o' e2;exact h.inj k k' y a8 h0 aa
 ·obtain⟨o,I⟩:=hl k g;exact (h.own k o I p b J v).2.1.2 hF
theorem Ee {w O O' μ h} (J:Keeps w O w O') (hh:∀k o,h k=some o->RelO w O μ k o) :
 ∀T {cs} {x} {rest} {I} {vs},dec h T cs=some (x,rest,I)->All2 (AQ w O μ) cs vs ->
  (∀k∈I,∀p b,μ k=some p->p.block=some b->¬O' b/\b<w.heap.size) ->
  ∃X v2,vs=X++v2/\Reads w O' T x X/\All2 (AQ w O μ) rest v2
 |.int k,cs,x,rest,I,vs,d,y,E=>by
  cases y with
  |nil=>simp[dec] at d
  |cons h1 g =>
   rename_i c v l m;cases c<;>simp[dec] at d;rename_i k' n;split at d
   ·rename_i Y;simp at d;obtain⟨rfl,rfl,rfl⟩:=d;have:=J6 Y;subst this;obtain⟨rfl,hr⟩:=h1;exact ⟨[_],_,rfl,⟨rfl,hr⟩,g⟩
   ·cases d
 |.bool,cs,x,rest,I,vs,d,y,E=>by
  cases y with
  |nil=>simp[dec] at d
  |cons h1 g =>rename_i c v l m;cases c<;>simp[dec] at d;obtain⟨rfl,rfl,rfl⟩:=d;have:= h1;subst this;exact ⟨[_],_,rfl,rfl,g⟩
 |.slice t,cs,x,rest,I,vs,d,y,E=>by
  cases y with
  |nil=>simp[dec] at d
  |cons h1 g =>
   rename_i c v l m;cases c<;>simp[dec] at d
   ·rename_i t' l';split at d
    ·rename_i Z hc;simp at d;obtain⟨rfl,rfl,rfl⟩:=d;obtain⟨rfl,rfl⟩:=Ea hc;exact ⟨[v],_,rfl,Ce J (μle.refl μ) _ h1,g⟩
    ·cases d
   ·obtain⟨rfl,rfl,rfl⟩:=d;obtain⟨a,rfl⟩:=h1;exact ⟨[_],_,rfl,⟨a,0,rfl,Qaa _,Qaw _,.inl rfl⟩,g⟩
   ·rename_i k;split at d
    ·rename_i t' l' ho;split at d
     ·rename_i Z hc;simp at d;obtain⟨rfl,rfl,rfl⟩:=d;obtain⟨rfl,rfl⟩:=Ea hc;exact ⟨[v],_,rfl,Kf J (hh k _ ho) (E k (by simp)) h1,g⟩
     ·cases d
    ·cases d
   ·rename_i k lo n;split at d
    ·rename_i t' l' ho;split at d
     ·rename_i Z hc;simp at d;obtain⟨rfl,rfl,rfl⟩:=d;obtain⟨rfl,rfl⟩:=Ea hc;exact ⟨[v],_,rfl,aV J (hh k _ ho) (E k (by simp)) h1,g⟩
     ·cases d
    ·cases d
 |.unit,cs,x,rest,I,vs,d,y,E=>by simp[dec] at d;obtain⟨rfl,rfl⟩:=d;exact ⟨[],vs,rfl,rfl,y⟩
 |.pair a b,cs,x,rest,I,vs,d,y,E=>by
  simp only[dec] at d;split at d
  ·rename_i x1 r1 f1 h1;split at d
   ·rename_i x2 r2 f2 g;simp at d;obtain⟨rfl,rfl,rfl⟩:=d;obtain⟨X,v2,rfl,a1,a6⟩:=Ee J hh a h1 y λk Y=>E k (by simp[Y]);obtain⟨v3,v4,rfl,a7,a8⟩:=Ee J hh b g a6 λk Y=>E k (by simp[Y]);exact ⟨X++v3,v4,by simp,⟨X,v3,rfl,a1,a7⟩,a8⟩
   ·cases d
  ·cases d
theorem GN {h:Nat->Option AObj}:∀(T:Ty) {cs:List Cell} {x:T.interp} {rest:List Cell} {o:List Nat},dec h T cs=some (x,rest,o)->∀k∈o,∃t l,h k=some (.arr t l)
 |.int k,cs,x,rest,o,d=>by
  cases cs with
  |nil=>simp[dec] at d
  |cons c r=>cases c<;>simp[dec] at d;split at d<;>simp at d;obtain⟨_,_,rfl⟩:=d;simp
 |.bool,cs,x,rest,o,d=>by
  cases cs with
  |nil=>simp[dec] at d
  |cons c r=>cases c<;>simp[dec] at d;obtain⟨_,_,rfl⟩:=d;simp
 |.slice t,cs,x,rest,o,d=>by
  cases cs with
  |nil=>simp[dec] at d
  |cons c r =>
   cases c<;>simp[dec] at d
   ·split at d<;>simp at d;obtain⟨_,_,rfl⟩:=d;simp
   ·obtain⟨_,_,rfl⟩:=d;simp
   ·split at d
    ·rename_i t' l' v;split at d<;>simp at d;obtain⟨_,_,rfl⟩:=d;intro k' g;simp at g;subst g;exact ⟨t',l',v⟩
    ·cases d
   ·split at d
    ·rename_i t' l' v;split at d<;>simp at d;obtain⟨_,_,rfl⟩:=d;intro k' g;simp at g;subst g;exact ⟨t',l',v⟩
    ·cases d
 |.unit,cs,x,rest,o,d=>by simp[dec] at d;obtain⟨_,rfl⟩:=d;simp
 |.pair a b,cs,x,rest,o,d=>by
  simp only[dec] at d;split at d
  ·rename_i E r1 I h1;split at d
   ·rename_i J r2 X y;simp at d;obtain⟨_,_,rfl⟩:=d;intro k p;rcases List.mem_append.1 p with p|p
    ·exact GN a h1 k p
    ·exact GN b y k p
   ·cases d
  ·cases d
end Go.Den
namespace Go.Den
open Go.RowKit
def Ia:List (Bool×Eff)->Option Eff
 |[]=>none
 |(b,e)::r=>if b then some e else Ia r
def AOut.run:AOut->Option Eff
 |.ok e=>some e
 |.chk b e=>if b then some e else none
 |.bind _ x f=>some (f x)
 |.opt _ o f=>o.map f
 |.alts l=>Ia l
theorem Bu {b c e} (h:(AOut.chk b c).run=some e):b=true/\e=c:=by simp only[AOut.run] at h<;>simp_all
def St.mem (R:RO) (st:St) (e:Eff):St:=St.after R st none e
def BL (B:Base) (R:RO) (st:St) (e:Eff) (μ:AI) (O:Nat->Prop) (w:World) (v:Value) (w':World):Prop :=
 ∃μ' O',Ev B R (st.mem R e) μ O w μ' O' w'/\(∀x u,BW w O μ x u->BW w' O' μ' (My (st.obj R) e.frz x) u)/\∀x,e.dst=some x->BW w' O' μ' x v
def Does (P:Program) (o:Oper) (a:Act) (w:World) (Post:Value->World->Prop):Prop :=
 (∃v w',(execOp a.eval o).run P w=.ok (.value v) w'/\Post v w') \/
 (∃w',(execOp a.eval o).run P w=.ok .skip w'/\Post undef w') \/
 ∃f args,(execOp a.eval o).run P w=.ok (.enter f args) w/\Calls P f args w λe w'=>∃v,e=.returned v/\Post v w'
theorem Does.mono {P o a w Post c} (h:Does P o a w Post) (g:∀v w',Post v w'->c v w'):Does P o a w c:=by
 rcases h with ⟨v,w',d,h⟩|⟨w',d,h⟩|⟨f,args,d,h⟩
 ·exact .inl ⟨v,w',d,g _ _ h⟩
 ·exact .inr (.inl ⟨w',d,g _ _ h⟩)
 ·exact .inr (.inr ⟨f,args,d,h.mono λe w' ⟨v,p,t⟩=>⟨v,p,g _ _ t⟩⟩)
theorem Does.wp {P o a w Post next Q} (h:Does P o a w Post)
 (d:∀v w',Post v w'->next (a.put o.dst v) w'):o.wp P a w next Q:=by
 unfold Oper.wp;rcases h with ⟨v,w',c,h⟩|⟨w',c,h⟩|⟨f,args,c,h⟩
 ·rw[c];exact d _ _ h
 ·rw[c];exact d _ _ h
 ·rw[c];exact h.mono λe w' ⟨v,g,p⟩=>by simp_all
def CN (R:RO) (st:St) (μ:AI) (O:Nat->Prop) (w:World) (tmps:Array Value):Prop :=
 ∀s v,st.get R s=some v->BW w O μ v (tmps.getD s undef)
theorem Zl {w O μ v c} (h:cellOf v=some c):AQ w O μ c v:=by
 unfold cellOf at h;split at h
 ·split at h
  ·rename_i d;cases h;exact ⟨rfl,d⟩
  ·cases h
 ·cases h;rfl
 ·cases h;exact ⟨none,rfl⟩
 ·cases h;rfl
 ·cases h
theorem K2 {w O μ}:∀ {vs} {cs},cellsOf vs=some cs->All2 (AQ w O μ) cs vs
 |[],cs,h=>by simp[cellsOf] at h;subst h;exact .nil
 |v::r,cs,h=>by
  simp only[cellsOf] at h;split at h
  ·rename_i c l h1 d;cases h;exact .cons (Zl h1) (K2 d)
  ·cases h
theorem mC {w O μ v x} (h:P4 v=some x):BW w O μ x v:=by
 unfold P4 at h;split at h
 ·rename_i cs;cases d:cellsOf cs.toList with
  |none=>simp_all
  |some l=>rw[d] at h;cases h;exact ⟨_,rfl,K2 d⟩
 ·cases h;exact ⟨_,rfl,rfl⟩
 ·cases d:cellOf v with
  |none=>simp_all
  |some c=>rw[d] at h;cases h;exact Zl d
section
variable {B:Base} {R:RO} {st:St} {μ:AI} {O:Nat->Prop} {w:World} {a:Act} (hE:CN R st μ O w a.tmps)
include hE
theorem Bv {x v} (h:opv R st x=some v):BW w O μ v (a.eval x):=by
 cases x with
 |tmp t=>exact hE t v h
 |const c=>exact mC h
 |func f=>simp[opv] at h;subst h;exact ⟨#[],rfl,.nil⟩
 |global g=>simp[opv] at h
theorem AT {x c} (h:opc R st x=some c):AQ w O μ c (a.eval x):=by
 unfold opc at h;split at h
 ·rename_i d h';cases h;exact Bv hE h'
 ·cases h
theorem NM {x c} (h:op1 R st x=some c):Cl w O μ c (a.eval x):=by
 unfold op1 at h;split at h
 ·rename_i d h';cases h;exact Bv hE h'
 ·cases h
theorem NN:∀ {xs} {vs},ops1 R st xs=some vs->All2 (Cl w O μ) vs (xs.map a.eval)
 |[],vs,h=>by simp[ops1] at h;subst h;exact .nil
 |x::r,vs,h=>by
  simp only[ops1] at h;split at h
  ·rename_i v l h1 c;cases h;exact .cons (NM hE h1) (NN c)
  ·cases h
theorem P2:∀ {xs} {vs},HI R st xs=some vs->All2 (AQ w O μ) vs (xs.map a.eval)
 |[],vs,h=>by simp[HI] at h;subst h;exact .nil
 |x::r,vs,h=>by
  simp only[HI] at h;split at h
  ·rename_i v l h1 c;cases h;exact .cons (AT hE h1) (P2 c)
  ·cases h
end
theorem Cn {h w O μ x u} (c:BW w O μ x u) (d:∀k o,h k=some o->RelO w O μ k o):BW w O μ (My h [] x) u :=
 Qh (Keeps.refl w O) d (λk g=>by cases g) x c
theorem Zw {B R st μ O w e v} (c:RelM B R st μ O w) (g:e.upd=[]) (d:e.frz=[]) (h:e.next=st.next)
 (p:∀x,e.dst=some x->BW w O μ x v):BL B R st e μ O w v w:=by
 refine ⟨μ,O,⟨μle.refl _,Keeps.refl _ _,?_,λ_ _ t=>.inl t⟩,λx u y=>by rw[d];exact Cn y c.heap,p⟩;refine c.congr (λk o E=>?_) ?_
 ·simpa[St.mem,St.after,d,g,St.put,Bw,St.obj,St.frz] using E
 ·simp[St.mem,St.after,St.put,h]
theorem AX {P:Program} {B:Base} {R:RO} {st:St} {μ:AI} {O:Nat->Prop} {w:World} (c:RelM B R st μ O w) {o:Oper} {a:Act} {x:AVal} {v:Value}
 (d:(execOp a.eval o).run P w=.ok (.value v) w) (g:BW w O μ x v) (rd:List Nat):Does P o a w (BL B R st {dst:=some x,reads:=rd,next:=st.next} μ O w) :=
 .inl ⟨v,w,d,Zw c rfl rfl rfl λy h=>by cases h;exact g⟩
theorem Vp {P t b} (h:El P t=some b) w:(isAgg t).run P w=.ok b w:=by
 unfold El at h;unfold isAgg;cases c:P.underlying t with
 |none=>simp[c] at h
 |some d =>rw[Sem.run_bind,run_underlying c w];cases d<;>simp_all
theorem fJ {b off pre v post} {w:World} (h:w.rangeAt b off (pre++v++post)):w.rangeAt b (off+pre.length) v:=λj x c=>by have d:= (List.getElem?_eq_some_iff.1 c).1;have:=h (pre.length+j) x (by grind)<;>grind
theorem ZQ {P w t b off us i} (c:El P t=some true) (hi:P.info? t=some i) (h:us.length=i.size) (o:w.rangeAt b off us) :
 (Instr.loadAt t (.pointer (some ⟨b,off,none⟩))).run P w=.ok (.agg us.toArray) w:=by
 unfold El at c;cases g:P.underlying t with
 |none=>simp[g] at c
 |some d =>refine run_loadAt_mid w b off t us d o g ?_ (by simp[hi,h])<;>grind
theorem IT {P w t b off u} (c:El P t=some false) (d:w.cell? ⟨b,off,none⟩=some u) :
 (Instr.loadAt t (.pointer (some ⟨b,off,none⟩))).run P w=.ok u w:=by simp[Instr.loadAt,Instr.sureAddr,loadVar,Vp c w,d]
theorem Na {P w O μ t cs o us b off} (h:H2 P t cs=some o) (d:All2 (AQ w O μ) cs us) (p:w.rangeAt b off us) :
 ∃v,(Instr.loadAt t (.pointer (some ⟨b,off,none⟩))).run P w=.ok v w/\Cl w O μ o v:=by
 unfold H2 at h;split at h
 ·rename_i i hg hi;split at h
  ·rename_i g;cases h;have y:= Qbe g;refine ⟨_,ZQ hg hi (us:=us.take i.size) (by rw[Qbn,<-d.length];omega) (IW p _),⟨_,rfl,?_⟩⟩;simpa using d.take i.size
  ·cases h
 ·rename_i i hg hi;split at h
  ·rename_i c r;cases h;cases d with
   |cons h1 E=>exact ⟨_,IT hg (by simpa using p 0 _ rfl),h1⟩
  ·cases h
 ·cases h
theorem yV {P w O μ t T x us b off i} (hi:P.info? t=some i) (o:i.size=T.size) (hg:El P t=some T.isAgg)
 (d:Reads w O T x us) (g:w.rangeAt b off us):∃v,(Instr.loadAt t (.pointer (some ⟨b,off,none⟩))).run P w=.ok v w/\Cl w O μ (Ru T x) v:=by
 have h:=AW T d;refine ⟨valOf T us,?_,NB T d⟩;cases c:T.isAgg with
 |true =>rw[c] at hg;simp only[valOf,c];exact ZQ hg hi (by omega) g
 |false =>
  rw[c] at hg;simp only[valOf,c];cases us with
  |nil=>exfalso;cases T<;>simp[Ty.isAgg,Ty.size] at c h
  |cons u r=>exact IT hg (by simpa using g 0 u rfl)
theorem w8 {a b} (h:Bool.beq' a b=true):a=b:=by cases a<;>cases b<;>first|rfl|cases h
theorem NH {α:Type} {l:List α} {i} {x:α} (h:idx l i=some x):0<=i/\l[i.toNat]?=some x/\i.toNat<l.length:=by unfold idx at h<;>grind
theorem PV {w:World} {O:Nat->Prop} {μ:AI} {k:Nat} {t:Ty} {l:List t.interp} (h:RelO w O μ k (.arr t l)) {i:Nat} {x:t.interp} (p:l[i]?=some x) :
 ∃b cap us vs e,μ k=some (.arr (some ⟨b,0,none⟩) l.length cap t.size)/\w.heap[b]?=some (.cells vs e (0,0))/\vs.size=cap*t.size/\l.length<=cap/\cap≠0/\Reads w O t x us/\w.rangeAt b (i*t.size) us:=by
 obtain⟨a,cap,e,I,hm,y⟩:=h;have hi:=(List.getElem?_eq_some_iff.1 p).1;rcases y with y|⟨b,vs,el,J,E,X,d⟩
 ·omega
 ·subst J;obtain⟨pre,v,post,Y,Z,hv,o⟩:=RowOf.get (λx vs=>AW t) d p;refine ⟨b,cap,v,vs,el,e,E,X,I,by omega,o,?_⟩;have c:w.rangeAt b 0 (vs.toList.take (l.length*t.size)):=λj u g=>by
   rw[Qbg] at g;split at g
   ·simp at g;simp[World.cell?,E,g]
   ·cases g
  rw[Y] at c;have:=fJ c;rwa [Z,Qbm] at this
theorem Pb:∀T x,(enc T x).length=T.size
 |.int _,_=>rfl
 |.bool,_=>rfl
 |.slice _,_=>rfl
 |.unit,_=>rfl
 |.pair a b,x=>by simp only[enc,Qau,Pb a,Pb b,Ty.size]
theorem Ab5 {P t cs ds v} (h:H2 P t cs=some v) (c:cs.length=ds.length):∃u,H2 P t ds=some u:=by unfold H2 at h ⊢<;>grind
theorem q9 {P B R st μ O w a o t x out e} (I:RelM B R st μ O w) (hE:CN R st μ O w a.tmps) (ho:o.op=.load t x)
 (h:Gf P R st t (opv R st x)=some out) (E:out.run=some e):Does P o a w (BL B R st e μ O w):=by
  have d:∀v,(Instr.loadAt t (a.eval x)).run P w=.ok v w->(execOp a.eval o).run P w=.ok (.value v) w:=λv p=>by simp[execOp,ho,p]
  unfold Gf at h;split at h
  ·rename_i k off J;have p:= Bv hE J;split at h
   ·rename_i cs hk;split at h
    ·rename_i X ht;cases h;cases E;obtain⟨b,hb,ev⟩:=p;obtain⟨b',vs,el,a6,hc,ha⟩:=I.heap k _ hk;rw[hb] at a6;cases a6;obtain⟨v,p,Y⟩:=Na (b:=b) (off:=off) ht (ha.drop off) (by have:=KO (JK hc) off<;>simp_all);exact AX I (d v (by simp_all)) (x:=.v X) Y [k]
    ·cases h
   ·cases h
  ·rename_i k i J;have p:= Bv hE J;split at h
   ·rename_i T l inf hk a7;split at h
    ·rename_i g aa hg;split at h
     ·rename_i hb;cases h;have ab:=w8 hb;subst ab;cases Z:idx l i with
      |none=>rw[AOut.run,Z] at E;cases E
      |some y =>rw[AOut.run,Z] at E;cases E;obtain⟨h0,hy,ae⟩:=NH Z;obtain⟨b,len,cap,sz,e1,_,_,ev⟩:=p;obtain⟨b',a8,us,vs,el,e2,hc,hs,af,ag,a1,c⟩:=PV (I.heap k _ hk) hy;rw[e1] at e2;cases e2;obtain⟨v,p,Y⟩:=yV a7 (beq_true aa) hg a1 c;exact AX I (d v (by simp_all)) (x:=.v (Ru T y)) Y [k]
     ·cases h
    ·cases h
   ·cases h
  ·rename_i cs J;have p:= Bv hE J;split at h
   ·rename_i X ht;cases h;cases E;obtain⟨b,off,us,ev,hO,hb,c,ha⟩:=p;obtain⟨v,p,Y⟩:=Na ht ha c;exact AX I (d v (by simp_all)) (x:=.v X) Y []
   ·cases h
  ·rename_i f b cs J;obtain⟨ad,off,u,ev,hO,hb,hc,hf⟩:BW w O μ (.fnp (f,b,cs)) (a.eval x):=Bv hE J;split at h
   ·rename_i hg;cases h;cases E;have hl:(Instr.loadAt t (a.eval x)).run P w=.ok u w:=by rw[ev];exact IT hg hc
    cases b with
    |true=>exact AX I (d u hl) (x:=.bfn f cs) hf []
    |false=>exact AX I (d u hl) (x:=.fn f cs) hf []
   ·cases h
  ·rename_i k i off J;have p:= Bv hE J;split at h
   ·rename_i T l hk;split at h
    ·rename_i v0 ah;cases h;cases Z:idx l i with
     |none=>rw[AOut.run,Z] at E;cases E
     |some y =>
      rw[AOut.run,Z] at E;cases E;obtain⟨h0,hy,ae⟩:=NH Z;obtain⟨b,len,cap,sz,e1,_,_,ev⟩:=p;obtain⟨b',a8,us,vs,el,e2,hc,hs,af,ag,a1,c⟩:=PV (I.heap k _ hk) hy;rw[e1] at e2;cases e2;obtain⟨X,ht⟩:∃X,H2 P t ((enc T y).drop off)=some X:=Ab5 ah (by rw[Qdj,Qdj,Pb,Pb]);obtain⟨v,p,Y⟩:=Na ht ((Fw T a1).drop off) (KO c off);refine AX I (d v (by rw[ev];exact p)) (x:=.v X) Y [k] |>.mono λv w' hh=>?_
      show BL B R st {dst:=(H2 P t ((enc T y).drop off)).map .v,reads:=[k],next:=st.next} μ O w v w';rw[ht];exact hh
    ·cases h
   ·cases h
  ·cases h
end Go.Den
namespace Go.Den
open Go.RowKit
theorem PC {h ks s}:∀ {e},assoc (Qg h ks e) s=(assoc e s).map (Option.map (My h ks))
 |[]=>rfl
 |(a,v)::r=>by simp only[Qg];rw[AE,AE,PC]<;>grind
theorem Gr {B R st μ O w} (c:RelM B R st μ O w) ks (d:∀k∈ks,noKey R k=true) (v:∀k∈ks,∃o,st.obj R k=some o) :
 ∃O1,RelM B R (st.frz R ks) μ O1 w/\Keeps w O w O1/\(∀k∈ks,∀p b,μ k=some p->p.block=some b->¬O1 b/\b<w.heap.size) /\
  ∀x u,BW w O μ x u->BW w O1 μ (My (st.obj R) ks x) u:=by
 cases ks with
 |nil=>exact ⟨O,c,Keeps.refl _ _,(λk y=>by cases y),λx u g=>Cn g c.heap⟩
 |cons k r =>obtain⟨O1,h1,h,t⟩:=c.freeze (k::r) d v (Qg (st.obj R) (k::r) st.env);exact ⟨O1,h1,h,t,λx u g=>Qh h c.heap t x g⟩
theorem Dx R (st:St) ks:(st.frz R ks).next=st.next:=by cases ks<;>rfl
theorem uW {R ks k t l} {st:St} (h:st.obj R k=some (.arr t l)) (c:k∉ks):(st.frz R ks).obj R k=some (.arr t l):=by
 cases ks with
 |nil=>exact h
 |cons j r =>
  simp only[St.frz,St.obj,F7,if_neg c];simp only[St.obj] at h;cases d:assoc st.heap k with
  |some o=>rw[d] at h;cases h;rfl
  |none=>simp_all
theorem BR {B R st μ O O1 w e v w' μ' O'} (d:Keeps w O w O1)
 (g:∀x u,BW w O μ x u->BW w O1 μ (My (st.obj R) e.frz x) u)
 (c:Ev B R {env:=(st.frz R e.frz).env,heap:=Bw e.upd (st.frz R e.frz).heap,next:=e.next} μ O1 w μ' O' w') (h:∀x,e.dst=some x->BW w' O' μ' x v):BL B R st e μ O w v w' :=
 ⟨μ',O',⟨c.le,d.trans c.keeps,c.mem,c.new⟩,λx u o=>D3 c.keeps c.le _ (g x u o),h⟩
theorem Kd {R e} (h:JD R e=true):∀k∈e.frz,noKey R k=true:=by intro k c;have:=List.all_eq_true.1 h k c;unfold noKey;exact this
theorem RW {P w O μ t b off cur el i x v} (hi:P.info? t=some i) (p:Cl w O μ x v) (y:x.cells.length=i.size)
 (E:w.heap[b]?=some (.cells cur el (0,0))) (o:off+x.cells.length<=cur.size) :
 (Instr.storeAt t (.pointer (some ⟨b,off,none⟩)) v).run P w=.ok () (w.setRow b (cur.toList.take off++v.cells.toList++cur.toList.drop (off+x.cells.length)).toArray):=by
 have g:=Gx x p;have d:v.cells.size=i.size:=by rw[<-Qat,<-g.length,y]
 have:=run_storeCells_at P b off el v.cells.toList 0 cur w E (by simp_all) (g.right λc u h=>VP c h);simp only[Qfq,<-g.length] at this;simp[Instr.storeAt,Instr.sureAddr,storeVar,sizeOf,typeInfo,hi,d,this]
theorem below_setRow {n} w b cs (h:n<=b):Below n w (w.setRow b cs) :=
 ⟨rfl,rfl,rfl,by simp,λk c=>setRow_other w b k cs (by omega)⟩
theorem aH {w O μ cs vs us xs off} (h:All2 (AQ w O μ) cs us) (c:All2 (AQ w O μ) vs xs) :
 All2 (AQ w O μ) (splice cs off vs) (us.take off++xs++us.drop (off+vs.length)):=by unfold splice;exact ((h.take off).append c).append (h.drop _)
theorem KF {w O O' μ h T d v x g} (t:Keeps w O w O') (E:∀k o,h k=some o->RelO w O μ k o) (c:GM h T d=some (x,g)) (I:Cl w O μ d v)
 (J:∀k∈g,∀p b,μ k=some p->p.block=some b->¬O' b/\b<w.heap.size):Reads w O' T x v.cells.toList:=by
 unfold GM at c;split at c
 ·rename_i y f X;cases c;obtain⟨Z,a2,e,hr,Y⟩:=Ee t E T X (Gx d I) J;cases Y<;>simp_all
 ·cases c
theorem JN {h T g x d} (c:GM h T g=some (x,d)):∀k∈d,∃t l,h k=some (.arr t l):=by
 unfold GM at c;split at c
 ·rename_i y f o;cases c;exact GN T o
 ·cases c
theorem rC {w O μ k T l i y b cap vs el us n} (h:RelO w O μ k (.arr T l))
 (Z:μ k=some (.arr (some ⟨b,0,none⟩) l.length cap T.size)) (I:cap≠0) (hc:w.heap[b]?=some (.cells vs el (0,0))) (a8:i.toNat<l.length) (J:n=T.size) (p:Reads w O T y us) (X:us.length=T.size)
 (o:Keeps w O (w.setRow b (vs.toList.take (i.toNat*T.size)++us++vs.toList.drop (i.toNat*T.size+n)).toArray) O) :
 RelO (w.setRow b (vs.toList.take (i.toNat*T.size)++us++vs.toList.drop (i.toNat*T.size+n)).toArray) O μ k (.arr T (AB l i y)):=by
 subst J;obtain⟨a2,a1,e3,d,Y,c⟩:=h;rw[Z] at e3;cases e3;rcases c with hz|⟨b2,aa,ab,t,v,ad,c⟩
 ·exact absurd hz I
 ·simp at t;subst t;rw[hc] at v;cases v;have a6:i.toNat*T.size+T.size<=l.length*T.size:=by have:(i.toNat+1)*T.size<=l.length*T.size:=Qco _ (by omega)<;>grind
  have a7:vs.toList.length=vs.size:=Qat;have ae:l.length*T.size<=vs.toList.length:=by have:=Qco T.size d;omega
  refine ⟨_,cap,by simpa[AB] using Z,by simpa[AB] using d,Y,.inr ⟨b,_,el,rfl,setRow_heap w b vs _ el _ hc,?_,?_⟩⟩
  ·simp;omega
  ·have g:=RowOf.mono (λx vs=>Av o T) (RowOf.set (λx vs=>AW T) c (i:=i.toNat) (x:=y) (by omega) p);have E:List.take ((AB l i y).length*T.size) (vs.toList.take (i.toNat*T.size)++us++vs.toList.drop (i.toNat*T.size+T.size)).toArray.toList =
    (vs.toList.take (l.length*T.size)).take (i.toNat*T.size)++us++(vs.toList.take (l.length*T.size)).drop (i.toNat*T.size+T.size):=by
    simp only[AB,Qfr]
    rw[Qdu,Qdu,Qau,Qbn,X]
    rw[Qer (by omega)]
    rw[Qfw,Qfw,Nat.min_eq_right (by omega),Qer (by omega)]
    rw[Qas (l:=us) (by omega)]
    rw[List.drop_take]
    try (congr 2;omega)
   simp only[AB] at g E ⊢;rw[E];exact g
theorem m7 {i} (h:isZ i=true):i=0:=by unfold isZ at h<;>grind
theorem Zp {w O O' μ h T} (E:Keeps w O w O') (I:∀k o,h k=some o->RelO w O μ k o) :
 ∀(n:Nat) {cs:List Cell} {xs:List T.interp} {d:List Nat} {vs:List Value},KW h T n cs=some (xs,d)->All2 (AQ w O μ) cs vs ->
  (∀k∈d,∀p b,μ k=some p->p.block=some b->¬O' b/\b<w.heap.size)->RowOf (Reads w O' T) xs vs/\xs.length=n
 |0,[],xs,d,vs,c,t,_=>by simp[KW] at c;obtain⟨rfl,rfl⟩:=c;cases t;exact ⟨rfl,rfl⟩
 |0,_::_,xs,d,vs,c,_,_=>by simp[KW] at c
 |n+1,cs,xs,d,vs,c,t,J=>by
  simp only[KW] at c;split at c
  ·rename_i x r f h1;split at c
   ·rename_i ys g X;cases c;obtain⟨Y,Z,rfl,hr,v⟩:=Ee E I T h1 t λk y=>J k (by simp[y]);obtain⟨h3,h4⟩:=Zp E I n X v λk y=>J k (by simp[y]);exact ⟨⟨Y,Z,rfl,hr,h3⟩,by simp[h4]⟩
   ·cases c
  ·cases c
theorem eG {h T}:∀n {cs} {xs} {d},KW h T n cs=some (xs,d)->∀k∈d,∃t l,h k=some (.arr t l)
 |0,[],xs,d,c=>by simp[KW] at c<;>simp_all
 |0,_::_,xs,d,c=>by simp[KW] at c
 |n+1,cs,xs,d,c=>by
  simp only[KW] at c;split at c
  ·rename_i x r f h1;split at c
   ·rename_i ys g p;cases c;intro k o;rcases List.mem_append.1 o with o|o
    ·exact GN T h1 k o
    ·exact eG n p k o
   ·cases c
  ·cases c
theorem lC {P B R st μ O w a o t x y Z out e} (Y:RelM B R st μ O w) (hE:CN R st μ O w a.tmps) (ho:o.op=.store t x y)
 (hy:op1 R st y=some Z) (h:GI P R st t (opv R st x) Z=some out) (he:out.run=some e) (al:JD R e=true):Does P o a w (BL B R st e μ O w):=by
  have E:= NM hE hy;have a1:∀w',(Instr.storeAt t (a.eval x) (a.eval y)).run P w=.ok () w'->(execOp a.eval o).run P w=.ok .skip w':=λw' hv=>by simp[execOp,ho,hv]
  unfold GI at h;split at h
  ·cases h
  rename_i inf a6;split at h
  ·cases h
  rename_i g;have g:=beq_true g;split at h
  ·rename_i k off hx;split at h
   ·rename_i cs hk;split at h
    ·rename_i ag;cases h;cases he;have d:st.obj R k=some (.box cs):=by simp[St.obj,hk]
     obtain⟨b,hb,ev⟩:=Bv hE hx;obtain⟨b',vs,el,an,X,ha⟩:=Y.heap k _ d;rw[hb] at an;cases an;have hs:=RW a6 E g X (by rw[<-Qat,<-ha.length];exact Qbe ag);refine .inr (.inl ⟨_,a1 _ (by rw[ev];exact hs),?_⟩);refine BR (Keeps.refl _ _) (λx u hx=>Cn hx Y.heap) (μ':=μ) (O':=O) ?_ (λx hx=>by cases hx);refine Y.write d hb rfl (.box (splice cs off Z.cells)) (by simp) (λc X=>setRow_other w b c _ X) (below_setRow w b _ (Y.own k _ d _ b hb rfl).2.1.1) (λp=>?_) st.env;refine ⟨b,_,el,hb,setRow_heap w b vs _ el _ X,?_⟩;have:=(aH (off:=off) ha (Gx Z E)).mono λc u=>Ce p (μle.refl _) c<;>omega
    ·cases h
   ·cases h
  ·rename_i k i hx;have hv:= Bv hE hx;split at h
   ·rename_i T l hk;split at h
    ·rename_i y' fz ao I;have ao:=beq_true ao;split at h
     ·rename_i a7;cases h;cases hq:idx l i with
      |none=>rw[AOut.run,hq] at he;cases he
      |some old =>
       rw[AOut.run,hq] at he;cases he;obtain⟨h0,aw,az⟩:=NH hq;have d:st.obj R k=some (.arr T l):=by simp[St.obj,hk]
       obtain⟨O1,ah,a8,ak,aa⟩:=Gr Y fz (Kd al) (λj hj=>by obtain⟨t',l',e⟩:=JN I j hj<;>simp_all);have v:=uW d (λhm=>by rw[any_beq.2 hm] at a7;cases a7);obtain⟨b,len,cap,sz,e1,_,_,ev⟩:=hv;obtain⟨b',aq,us,vs,el,e2,X,hs,ag,ai,b0,av⟩:=PV (Y.heap k _ d) aw;rw[e1] at e2;cases e2;have ab:Z.cells.length=T.size:=by omega
       have ae:i.toNat*T.size+Z.cells.length<=vs.size:=by rw[hs,ab];have:(i.toNat+1)*T.size<=cap*T.size:=Qco _ (by omega)<;>grind
       refine .inr (.inl ⟨_,a1 _ (by rw[ev];exact RW (P:=P) (off:=i.toNat*T.size) a6 E g X ae),?_⟩);have J:(Place.arr (some ⟨b,0,none⟩) l.length cap T.size).block=some b:=by simp[Place.block,ai]
       refine BR a8 aa (μ':=μ) (O':=O1) ?_ (λx hx=>by cases hx);have hW:=ah.write v e1 J (.arr T (AB l i y')) (by simp) (λc X=>setRow_other w b c _ X) (below_setRow w b _ (Y.own k _ d _ b e1 J).2.1.1)
        (λp=>rC (ah.heap k _ v) e1 ai X (by omega) ab (KF a8 Y.heap I E ak) (by rw[<-(Gx Z E).length,ab]) p) (st.frz R fz).env;rw[Dx] at hW;exact hW
     ·cases h
    ·unfold Ho at h;split at h
     ·rename_i n T' ay;split at h
      ·rename_i xs fz hz hn I;have hn:=beq_true hn;have hz:=m7 hz;subst hz;split at h
       ·rename_i a7;cases h;simp only[AOut.run] at he;split at he
        ·rename_i ar;cases he;have ar:(l.length:Int)=n:=by simpa[eqI,Aa] using ar
         have d:st.obj R k=some (.arr T l):=by simp[St.obj,hk]
         obtain⟨O1,ah,a8,ak,aa⟩:=Gr Y fz (Kd al) (λj hj=>by obtain⟨t',l',e⟩:=eG n I j hj<;>simp_all);have v:=uW d (λhm=>by rw[any_beq.2 hm] at a7;cases a7);obtain⟨b,len,cap,sz,e1,b1,b2,ev⟩:=hv;obtain⟨ad,aq,e2,ag,hm,aj⟩:=Y.heap k _ d;rw[e1] at e2;cases e2;rcases aj with b3|⟨b',vs,el,ea,X,hs,aj⟩
         ·omega
         simp only[Qaf,Addr.mk.injEq,and_true] at ea;subst ea;have af:n=l.length:=by omega
         have ae:0+Z.cells.length<=vs.size:=by rw[hs,g,hn,af,Qbm];exact Qco _ ag
         refine .inr (.inl ⟨_,a1 _ (by rw[ev,show Int.toNat 0*T.size=0 by simp];exact RW (P:=P) (off:=0) a6 E g X ae),?_⟩);have ai:cap≠0:=by omega
         have J:(Place.arr (some ⟨b,0,none⟩) l.length cap T.size).block=some b:=by simp[Place.block,ai]
         refine BR a8 aa (μ':=μ) (O':=O1) ?_ (λx hx=>by cases hx);obtain⟨ax,au⟩:=Zp a8 Y.heap n I (Gx Z E) ak;have ab:(a.eval y).cells.toList.length=n*T.size:=by rw[<-(Gx Z E).length,g,hn]
         have hW:=ah.write (w':=w.setRow b (vs.toList.take 0++(a.eval y).cells.toList++vs.toList.drop (0+Z.cells.length)).toArray) v e1 J (.arr T xs) (by simp) (λc X=>setRow_other w b c _ X) (below_setRow w b _ (Y.own k _ d _ b e1 J).2.1.1)
          (λp=>⟨_,cap,by rw[e1,au,af],by omega,hm,.inr ⟨b,_,el,rfl,setRow_heap w b vs _ el _ X,by simp;simp at ab;omega,by have:=RowOf.mono (λx vs=>Av p T) ax;simp only[List.take_zero,Qaz];rw[Qeo,au,Qea (by omega),Qas (by omega)];exact this⟩⟩) (st.frz R fz).env;rw[Dx] at hW;exact hW
        ·cases he
       ·cases h
      ·cases h
     ·cases h
    ·cases h
   ·cases h
  ·cases h
end Go.Den
namespace Go.Den
open Go.RowKit
section
variable {P:Program} {B:Base} {R:RO} {st:St} {μ:AI} {O:Nat->Prop} {w:World} {a:Act}
theorem Abr {cs vs} (t:RelM B R st μ O w) (y:¬B.D st.next) (h:All2 (AQ w O μ) cs vs.toList) el :
 BL B R st {dst:=some (.v (.c (.ptr st.next 0))),upd:=[(st.next,some (.box cs))],next:=st.next+1} μ O w (.pointer (some ⟨w.heap.size,0,none⟩)) (w.alloc (.cells vs el)):=by
 obtain⟨μ',O',d,g⟩:=t.alloc y (.cells vs el) (.box w.heap.size) (.box cs) (.inr rfl)
  (λO' μ' E o g=>⟨w.heap.size,vs,el,g,heap_alloc_new w _,h.mono λc u=>Ce E o c⟩) st.env;exact BR (Keeps.refl _ _) (λx u p=>Cn p t.heap) d λx p=>by cases p;exact ⟨_,g,rfl⟩
theorem wI {o t x v} (d:RelM B R st μ O w) (g:¬B.D st.next) (p:CN R st μ O w a.tmps) (y:o.op=.box t x) (h:op1 R st x=some v) :
 Does P o a w (BL B R st {dst:=some (.v (.c (.ptr st.next 0))),upd:=[(st.next,some (.box v.cells))],next:=st.next+1} μ O w):=by refine .inl ⟨_,_,?_,Abr d g (Gx v (NM p h)) t⟩;simp[execOp,y,Instr.box,newVar,newRow]
theorem Vf:∀us n off (cells:Array Value),off+n+us.length<=cells.size ->
 ((us.zipIdx n).foldl (λcs (x:Value×Nat)=>cs.setIfInBounds (off+x.2) x.1) cells).toList=cells.toList.take (off+n)++us++cells.toList.drop (off+n+us.length)
 |[],n,off,cells,h=>by simp
 |u::r,n,off,cells,h=>by simp only[Qay] at h;rw[List.zipIdx_cons,Qfs,Vf r (n+1) off _ (by simp;omega)];simpa[Qem,Nat.add_assoc,Qgh 1] using list_seg_step cells.toList (off+n) u r (by simp;omega)
theorem X1 {place}:∀ {parts} {ps} {cs d} {vs},
 WD place cs parts=some d->All2 (λ(p:Nat×V1) (q:Nat×Value)=>p.1=q.1/\Cl w O μ p.2 q.2) parts ps->All2 (AQ w O μ) cs vs.toList ->
 ∃g,Instr.fill place vs ps=some g/\All2 (AQ w O μ) d g.toList
 |[],ps,cs,d,vs,h,E,y=>by cases E;simp[WD] at h;subst h;exact ⟨vs,rfl,y⟩
 |(i,J)::r,ps,cs,d,vs,h,E,y=>by
  cases E with
  |cons h1 Z =>
   rename_i q m;obtain⟨j,v⟩:=q;obtain⟨t,hv⟩:=h1;simp only at t;subst t;simp only[WD] at h;split at h
   ·cases h
   ·rename_i off size I;split at h
    ·rename_i o;simp only[Qab] at o;have hs:=beq_true o.1;have hf:=Qbe o.2;have X:=Gx J hv;have a1:v.cells.size=J.cells.length:=by rw[<-Qat,<-X.length]
     have a6:vs.size=cs.length:=by rw[<-Qat,<-y.length]
     have Y:=Vf v.cells.toList 0 off vs (by simp_all);obtain⟨g,e,ha⟩:=X1 (vs:=v.cells.zipIdx.foldl (λcs (c,j)=>cs.setIfInBounds (off+j) c) vs) h Z (by have:=aH (off:=off) y X;rw[<-Qga,Qfv]<;>simp_all);refine ⟨g,?_,ha⟩;simp only[Instr.fill,I]<;>simp_all
    ·cases h
theorem TJ (c:CN R st μ O w a.tmps):∀ {ps} {vs},Fl R st ps=some vs ->
 All2 (λ(p:Nat×V1) (q:Nat×Value)=>p.1=q.1/\Cl w O μ p.2 q.2) vs (ps.map λx=>(x.1,a.eval x.2))
 |[],vs,h=>by simp[Fl] at h;subst h;exact .nil
 |(i,x)::r,vs,h=>by
  simp only[Fl] at h;split at h
  ·rename_i v l h1 d;cases h;exact .cons ⟨rfl,NM c h1⟩ (TJ c d)
  ·cases h
theorem kK {o t ps l out e} (hM:RelM B R st μ O w) (hE:CN R st μ O w a.tmps) (ho:o.op=.build t ps) (hl:Fl R st ps.toList=some l)
 (h:Mj P st t l=some out) (Y:out.run=some e):Does P o a w (BL B R st e μ O w):=by
  have Z:=TJ hE hl;have fin:∀cells cs,P.built t (ps.map λ(i,x)=>(i,a.eval x)).toList=some cells->All2 (AQ w O μ) cs cells.toList->Does P o a w (BL B R st (Eff.val st (.v (.a cs))) μ O w):=λcells cs hb hc=>by refine AX hM (x:=.v (.a cs)) ?_ ⟨_,rfl,hc⟩ [];simp only[execOp,ho,Sem.run_bind,run_build w t _ cells hb,Result.andThen_ok,Sem.run_pure]
  have hps:(ps.map λ(i,x)=>(i,a.eval x)).toList=ps.toList.map λx=>(x.1,a.eval x.2):=by simp
  unfold Mj Oq at h;split at h
  ·rename_i z fs c E;split at c
   ·rename_i it d;split at c
    ·rename_i zv g;split at h
     ·rename_i places I;split at h
      ·rename_i cs J;cases h;cases Y;obtain⟨p,e1,X⟩:=X1 J Z (K2 c);refine fin p cs ?_ X;simp only[Program.built,d,E,g,I,hps]<;>simp_all
      ·cases h
     ·cases h
    ·cases c
   ·cases c
  ·rename_i z n e' c E;split at c
   ·rename_i it d;split at c
    ·rename_i zv g;split at h
     ·rename_i inf y;split at h
      ·rename_i cs J;cases h;cases Y;obtain⟨p,e1,X⟩:=X1 J Z (K2 c);refine fin p cs ?_ X;simp only[Program.built,d,E,g,y,hps]<;>omega
      ·cases h
     ·cases h
    ·cases c
   ·cases c
  ·cases h
theorem Nf:∀T {vs rest},Lj T vs=some rest->∃us,vs=us++rest/\Reads w O T (Dp T) us
 |.int k,vs,rest,h=>by
  unfold Lj at h;split at h<;>try (cases h;done)
  all_goals first
   |(rename_i c;cases c;done)
   |(rename_i k' d r c
     cases c
     split at h
     ·rename_i g;cases h;have:=J6 g;subst this;exact ⟨[_],rfl,rfl,by cases k<;>decide⟩
     ·cases h)
 |.bool,vs,rest,h=>by
  unfold Lj at h;split at h<;>try (cases h;done)
  all_goals first
   |(rename_i c _;cases c;done)
   |(rename_i c;cases c;done)
   |(cases h;exact ⟨[_],rfl,rfl⟩)
 |.slice t,vs,rest,h=>by
  unfold Lj at h;split at h<;>try (cases h;done)
  all_goals first
   |(rename_i c;cases c;done)
   |(cases h;exact ⟨[_],rfl,none,0,rfl,Qaa _,Qaw _,.inl rfl⟩)
 |.unit,vs,rest,h=>by simp only[Lj] at h;cases h;exact ⟨[],rfl,rfl⟩
 |.pair p q,vs,rest,h=>by
  simp only[Lj] at h;split at h
  ·rename_i r h1;obtain⟨u1,o,r1⟩:=Nf p h1;obtain⟨u2,v,r2⟩:=Nf q h;exact ⟨u1++u2,by rw[o,v,Qaq],u1,u2,rfl,r1,r2⟩
  ·cases h
end
end Go.Den
namespace Go.Den
open Go.RowKit
theorem inR_iff {k n}:inR k n=true↔k.min<=n/\n<=k.max:=by simp[inR]
theorem EV k n:inR k (k.wrap n)=true:=by rw[inR_iff];cases k<;>simp only[IntKind.wrap,IntKind.min,IntKind.max,IntKind.bits,IntKind.signed]<;>simp<;>(try split)<;>omega
theorem qM {k n} (h:inR k n=true):k.wrap n=n:=by rw[inR_iff] at h;cases k<;>simp only[IntKind.wrap,IntKind.min,IntKind.max,IntKind.bits,IntKind.signed] at h ⊢<;>simp at h ⊢<;>(try split)<;>omega
theorem PE {n} (h:n<=maxLen):inR .i64 (n:Int)=true:=by rw[inR_iff];simp only[maxLen] at h;simp only[IntKind.min,IntKind.max,IntKind.bits,IntKind.signed];omega
section
variable {P:Program} {B:Base} {R:RO} {st:St} {μ:AI} {O:Nat->Prop} {w:World} {a:Act}
theorem Gq {e T} (h:K3 P e T=true):∃i z,P.info? e=some i/\i.zero=some z/\i.size=T.size/\0<T.size/\∀w O,Reads w O T (Dp T) z.cells.toList:=by
 unfold K3 at h;split at h
 ·rename_i i hi;split at h
  ·rename_i v h1 c d;have h1:=beq_true h1;have c:=beq_false c;split at h
   ·rename_i g;refine ⟨i,v,hi,d,h1,by omega,λw O=>?_⟩;obtain⟨us,o,p⟩:=Nf (w:=w) (O:=O) T g<;>simp_all
   ·cases h
  ·cases h
 ·cases h
theorem Mn {T l vs el cap O1 O' μ' k} (c:RowOf (Reads w O1 T) l (vs.toList.take (l.length*T.size))) (d:l.length<=cap) (g:cap<=maxLen) (h:vs.size=cap*T.size)
 (o:Keeps w O1 (w.alloc (.cells vs el)) O') (p:μ' k=some (.arr (some ⟨w.heap.size,0,none⟩) l.length cap T.size)):RelO (w.alloc (.cells vs el)) O' μ' k (.arr T l) :=
  ⟨_,cap,p,d,g,.inr ⟨w.heap.size,vs,el,rfl,heap_alloc_new w _,h,c.mono λ_ _=>Av o T⟩⟩
theorem Abq {T l vs cap} (Z:RelM B R st μ O w) (hD:¬B.D st.next) d rd (J:∀k∈d,noKey R k=true) (hl:∀k∈d,∃o,st.obj R k=some o) el
 (g:∀O1,Keeps w O w O1->(∀k∈d,∀p b,μ k=some p->p.block=some b->¬O1 b/\b<w.heap.size)->RowOf (Reads w O1 T) l (vs.toList.take (l.length*T.size))) (h:l.length<=cap) (hm:cap<=maxLen) (hs:vs.size=cap*T.size) :
 BL B R st {dst:=some (.v (.c (.ref st.next))),upd:=[(st.next,some (.arr T l))],frz:=d,reads:=rd,next:=st.next+1} μ O w (.slice (some ⟨w.heap.size,0,none⟩) l.length cap) (w.alloc (.cells vs el)):=by
 obtain⟨O1,X,t,Y,y⟩:=Gr Z d J hl;obtain⟨μ',O',E,I⟩:=X.alloc (by rw[Dx];exact hD) (.cells vs el) (.arr (some ⟨w.heap.size,0,none⟩) l.length cap T.size) (.arr T l) (by simp only[Place.block]<;>grind)
  (λO' μ' hk a1 I=>by rw[Dx] at I ⊢;exact Mn (g O1 t Y) h hm hs hk I) (st.frz R d).env;rw[Dx] at E I;exact BR t y E λx hx=>by cases hx;exact ⟨_,_,_,_,I,rfl⟩
theorem Wn {T}:∀n {vs},T8 T n vs=true->RowOf (Reads w O T) (List.replicate n (Dp T)) vs
 |0,[],_=>rfl
 |0,_::_,h=>by cases h
 |n+1,vs,h=>by
  simp only[T8] at h;split at h
  ·rename_i r c;obtain⟨us,e,h1⟩:=Nf T c;exact ⟨us,r,e,h1,Wn n h⟩
  ·cases h
theorem wS {t n T} (h:jM P t=some (n,T)):3<=n/\n<=65536/\0<T.size:=by
 unfold jM at h;split at h
 ·split at h
  ·rename_i h1 d _;split at h
   ·rename_i c;cases h;obtain⟨_,_,_,_,_,g,_⟩:=Gq c<;>simp_all
   ·cases h
  ·cases h
 ·cases h
theorem YV {o t out e} (p:RelM B R st μ O w) (hD:¬B.D st.next) (ho:o.op=.alloc t) (h:Hk P st t=some out) (he:out.run=some e):Does P o a w (BL B R st e μ O w):=by
 unfold Hk at h;split at h
 ·rename_i n T d;obtain⟨n3,n6,hT⟩:=wS d;split at h
  ·rename_i i hi;split at h
   ·rename_i v y;split at h
    ·rename_i E;cases h;cases he;have g:=λO1=>Wn (w:=w) (O:=O1) (T:=T) n E;have I:v.cells.size=n*T.size:=by have:=RowOf.length (λx vs=>AW T) (g O)<;>simp_all
     have hl:Ay (n:Int) (Dp T)=List.replicate n (Dp T):=by simp[Ay]
     have J:(Ay (n:Int) (Dp T)).length=n:=by simp_all
     refine .inl ⟨.pointer (some ⟨w.heap.size,0,none⟩),w.alloc (.cells v.cells t),?_,?_⟩
     ·simp[execOp,ho,Instr.alloc,zeroValue,typeInfo,hi,y,newVar,newRow]
     ·obtain⟨μ',O',X,Y⟩:=p.alloc hD (.cells v.cells t) (.arr (some ⟨w.heap.size,0,none⟩) (Ay (n:Int) (Dp T)).length n T.size) (.arr T (Ay (n:Int) (Dp T))) (by simp only[Place.block]<;>grind)
       (λO' μ' hk a1 Y=>Mn (O1:=O) (by rw[J,Qas (by simp_all),hl];simp_all) (by omega) (by unfold maxLen;omega) I hk Y) st.env;refine BR (Keeps.refl _ _) (λx u Z=>Cn Z p.heap) X λx Z=>?_;cases Z;exact ⟨_,_,_,_,Y,Qbb _,by omega,by simp⟩
    ·cases h
   ·cases h
  ·cases h
 ·split at h
  ·rename_i cs c;cases h;cases he;unfold Oq at c;split at c
   ·rename_i i hi;split at c
    ·rename_i v y;refine .inl ⟨_,_,?_,Abr p hD (K2 c) t⟩;simp[execOp,ho,Instr.alloc,zeroValue,typeInfo,hi,y,newVar,newRow]
    simp_all
   simp_all
  ·cases h
theorem eJ {T h O1} (hO:Keeps w O w O1) (hh:∀k o,h k=some o->RelO w O μ k o) (hT:0<T.size):∀ {parts} {ps} {n} {l} {fz} {vs},
 lits h T n parts=some (l,fz)->All2 (λ(p:Nat×V1) (q:Nat×Value)=>p.1=q.1/\Cl w O μ p.2 q.2) parts ps->(n+parts.length)*T.size<=vs.size ->
 (∀k∈fz,∀p b,μ k=some p->p.block=some b->¬O1 b/\b<w.heap.size) ->
 ∃d news,Instr.fill (λi=>some (i*T.size,T.size)) vs ps=some d/\d.size=vs.size/\l.length=parts.length/\d.toList=vs.toList.take (n*T.size)++news++vs.toList.drop ((n+parts.length)*T.size)/\RowOf (Reads w O1 T) l news
 |[],ps,n,l,fz,vs,E,hp,hs,hb=>by cases hp;simp[lits] at E;obtain⟨rfl,rfl⟩:=E;exact ⟨vs,[],rfl,rfl,rfl,by simp,rfl⟩
 |(i,v1)::r,ps,n,l,fz,vs,E,hp,hs,hb=>by
  cases hp with
  |cons h1 h2 =>
   rename_i q m;obtain⟨j,v⟩:=q;obtain⟨X,hv⟩:=h1;simp only at X;subst X;simp only[lits] at E;split at E
   ·rename_i x f xs g hi hd I;have hi:=beq_true hi;subst hi;cases E;have Y:=KF hO hh hd hv λk hk=>hb k (by simp[hk]);have Z:=AW T Y;have a8:v.cells.size=T.size:=by omega
    simp only[Qay] at hs;have a6:(i+(r.length+1))*T.size=i*T.size+T.size+r.length*T.size:=by grind
    have t:=Vf v.cells.toList 0 (i*T.size) vs (by grind);obtain⟨d,news,e1,e2,e3,e4,e5⟩:=eJ hO hh hT I h2 (by
     have:(v.cells.zipIdx.foldl (λcs (c,j)=>cs.setIfInBounds (i*T.size+j) c) vs).size=vs.size:=by rw[<-Qat,<-Qga,Qfv,t]<;>grind
     rw[this];have:(i+1+r.length)*T.size=i*T.size+T.size+r.length*T.size:=by rw[Qcd,Qcd];omega
     omega) λk hk=>hb k (by simp[hk]);have y:(v.cells.zipIdx.foldl (λcs (c,j)=>cs.setIfInBounds (i*T.size+j) c) vs).toList=vs.toList.take (i*T.size)++v.cells.toList++vs.toList.drop (i*T.size+T.size):=by rw[<-Qga,Qfv,t,Z,Qfq]
    have aa:(v.cells.zipIdx.foldl (λcs (c,j)=>cs.setIfInBounds (i*T.size+j) c) vs).size=vs.size:=by rw[<-Qat,y]<;>grind
    refine ⟨d,v.cells.toList++news,?_,by omega,by simp[e3],?_,⟨_,_,rfl,Y,e5⟩⟩
    ·simp only[Instr.fill]<;>grind
    ·rw[e4,y];have a1:(i+1)*T.size=i*T.size+T.size:=by grind
     have J:(i+1+r.length)*T.size=i*T.size+T.size+r.length*T.size:=by grind
     have a7:(vs.toList.take (i*T.size)++v.cells.toList).length=i*T.size+T.size:=by rw[Qau,Qbn,Z,Qat];omega
     rw[a1,Qea (by omega),Qas (by omega)];rw[J,Qfi,Qdl (by omega),a7,List.drop_drop];simp only[Qay,a6,Qaz,Qaq];congr 3;congr 1;omega
   ·cases E
theorem eV {h T}:∀ {parts} {n} {l} {v},lits h T n parts=some (l,v)->∀k∈v,∃o,h k=some o
 |[],n,l,v,d=>by simp[lits] at d<;>simp_all
 |(i,E)::r,n,l,v,d=>by
  simp only[lits] at d;split at d
  ·rename_i x f xs g hi y c;cases d;intro k p;rcases List.mem_append.1 p with p|p
   ·obtain⟨t,l,e⟩:=JN y k p<;>simp_all
   ·exact eV c k p
  ·cases d
theorem WT {o t n ps l out e} (hM:RelM B R st μ O w) (hD:¬B.D st.next) (hE:CN R st μ O w a.tmps) (ho:o.op=.buildSlice t n ps) (hl:Fl R st ps.toList=some l)
 (h:ER P R st t n l=some out) (he:out.run=some e) (a7:JD R e=true):Does P o a w (BL B R st e μ O w):=by
  have hp:=TJ hE hl;unfold ER at h;split at h
  ·rename_i el hu;split at h
   ·rename_i T hT;split at h
    ·rename_i xs Y ab y Z d;cases h;cases he;obtain⟨i,z,hi,hz,ad,a1,al⟩:=Gq ab;have y:=beq_true y;have Z:=Qbe Z;have a6:xs.length=n:=by
      have:∀ {parts:List (Nat×V1)} {n:Nat} {l:List T.interp} {Y:List Nat},lits (st.obj R) T n parts=some (l,Y)->l.length=parts.length:=by
       intro parts;induction parts with
       |nil=>intro n l Y hl;simp[lits] at hl<;>simp_all
       |cons p r ih =>intro n l Y hl;obtain⟨i,v⟩:=p;simp only[lits] at hl<;>grind
      rw[this d,y]
     have hps:(ps.map λ(i,x)=>(i,a.eval x)).toList=ps.toList.map λx=>(x.1,a.eval x.2):=by simp
     let zero:= if n*T.size=0 then #[] else z.cells
     let c:= (Array.range (n*T.size)).map (zero[·%zero.size]!);have an:c.size=n*T.size:=by grind
     have J:∀O1,Keeps w O w O1->(∀k∈Y,∀p b,μ k=some p->p.block=some b->¬O1 b/\b<w.heap.size)->∃g,Instr.fill (λi=>some (i*T.size,T.size)) c (ps.toList.map λx=>(x.1,a.eval x.2))=some g/\g.size=n*T.size/\RowOf (Reads w O1 T) xs (g.toList.take (xs.length*T.size)):=λO1 hk hb=>by obtain⟨g,news,e1,e2,e3,e4,e5⟩:=eJ hk hM.heap a1 (vs:=c) d hp (by simp_all) hb<;>grind
     have X:= eV d;obtain⟨O1,_,ae,af,_⟩:=Gr hM Y (Kd a7) X;obtain⟨g,hf,ag,_⟩:=J O1 ae af;refine .inl ⟨.slice (some ⟨w.heap.size,0,none⟩) xs.length xs.length,w.alloc (.cells g el),?_,?_⟩
     ·have I:n*T.size=0\/n*T.size≠0:=by omega
      have E:(Array.range (n*T.size)).map (zero[·%zero.size]!)=c:=rfl;simp only[execOp,ho,Instr.buildSlice,Sem.run_bind,run_underlying hu,Result.andThen_ok,sizeOf,typeInfo,run_program,hi,Sem.run_pure,ad];rw[if_neg (by omega)];rcases I with I|I
      ·have ah:n=0:=by rcases Nat.mul_eq_zero.1 I with h|h<;>omega
       subst ah;have ai:= Qad y;subst ai;have aj:ps.toList.map (λx=>(x.1,a.eval x.2))=[]:=by generalize ps.toList.map (λx=>(x.1,a.eval x.2))=q at hp;cases hp;rfl
       have ak:g=#[]:=Qdd (by omega);have he0:Array.map (λ_=>(default:Value)) (Array.range 0)=#[]:=Qdd (by simp);simp[aj,Instr.fill,newRow,ak,Qad a6,he0]
      ·have:zero=z.cells:=by simp[zero,I]
       rw[this] at E;simp[I,zeroValue,typeInfo,hi,hz];rw[E,hf];simp[newRow,a6]
     ·refine Abq hM hD Y Y (Kd a7) X el (λO2 hk hb=>?_) (Qaa _) (by simp only[maxLen];have:n<=n*T.size:=Nat.le_mul_of_pos_right _ a1;omega) (by rw[ag,a6]);obtain⟨ao,a8,_,aa⟩:=J O2 hk hb;rw[hf] at a8;cases a8;exact aa
    ·cases h
   ·cases h
  ·cases h
end
end Go.Den
namespace Go.Den
open Go.RowKit
section
variable {P:Program} {B:Base} {R:RO} {st:St} {μ:AI} {O:Nat->Prop} {w:World} {a:Act}
theorem Ra {α:Type} {Rd:α->List Value->Prop} {x:α} {z:Array Value} (g:Rd x z.toList) (h:0<z.size):∀l m,RowOf Rd (List.replicate l x) (((List.range ((l+m)*z.size)).map λi=>z[i%z.size]!).take (l*z.size))
 |0,m=>by simp[RowOf]
 |l+1,m=>by
  have h1:(l+1+m)*z.size=z.size+(l+m)*z.size:=by grind
  have o:(l+1)*z.size=z.size+l*z.size:=by grind
  have c:(List.range z.size).map (λi=>z[i%z.size]!)=z.toList:=by
   apply List.ext_getElem
   ·simp
   ·intro i d h4;simp at d;simp[Qdk d,d]
  refine ⟨z.toList,((List.range ((l+m)*z.size)).map λi=>z[i%z.size]!).take (l*z.size),?_,g,Ra g h l m⟩;rw[h1,o,List.range_add,Qdy,c,List.map_map];have:(λi=>z[i%z.size]!)∘(λx=>z.size+x)=λi=>z[i%z.size]!:=by funext i;simp
  rw[this,Qdu,Qas (by simp),Qat];congr 2;omega
theorem XS {o t x y l c out e} (hM:RelM B R st μ O w) (hD:¬B.D st.next) (ho:o.op=.makeSlice t x y) (hx:a.eval x=.int .i64 l) (hy:a.eval y=.int .i64 c) (a7:inR .i64 l=true) (E:inR .i64 c=true)
 (h:FC P st t l c=some out) (he:out.run=some e):Does P o a w (BL B R st e μ O w):=by
  unfold FC at h;split at h
  ·rename_i el hu;split at h
   ·rename_i T inf hT p;split at h
    ·rename_i a8;cases h;simp only[AOut.run] at he;split at he
     ·rename_i hc;cases he;obtain⟨i,z,hi,hz,I,ab,J⟩:=Gq a8;rw[p] at hi;cases hi;simp only[C5,leB,B5,Qab,decide_eq_true_eq] at hc;obtain⟨h0,h1,h2⟩:=hc;have X:=qM a7;have Y:=qM E;have Z:z.cells.size=T.size:=by rw[<-Qat,AW T (J w O)]
      have ae:= (inR_iff.1 E).2;let zero:= if c.toNat*T.size=0 then #[] else z.cells
      let d:= (Array.range (c.toNat*T.size)).map (zero[·%zero.size]!);have a1:(Ay l (Dp T)).length=l.toNat:=by simp[Ay]
      refine .inl ⟨.slice (some ⟨w.heap.size,0,none⟩) l.toNat c.toNat,w.alloc (.cells d el),?_,?_⟩
      ·have v:c.toNat*T.size=0\/c.toNat*T.size≠0:=by omega
       have af:¬(inf.bytes:Int)*c>2 ^ 48:=by omega
       have g:(Array.range (c.toNat*T.size)).map (zero[·%zero.size]!)=d:=rfl;rcases v with v|v
       ·have:zero=#[]:=by grind
        rw[this] at g;simp[execOp,ho,hx,hy,Instr.makeSlice,run_underlying hu,asInt,asIntOf,typeInfo,p,X,Y,sizeOf,I,v,newRow] at g ⊢;grind
       ·have:zero=z.cells:=by grind
        rw[this] at g;simp[execOp,ho,hx,hy,Instr.makeSlice,run_underlying hu,asInt,asIntOf,typeInfo,p,X,Y,sizeOf,I,v,newRow,zeroValue,hz] at g ⊢;grind
      ·have ad:=Abq hM hD [] [] (by simp) (by simp) (T:=T) (l:=Ay l (Dp T)) (vs:=d) (cap:=c.toNat) el (λO2 hk hb=>?_) (by omega) (by simp only[maxLen]<;>simp_all) (by simp[d])
       ·simp_all
       ·rw[a1];by_cases a6:l.toNat=0
        ·rw[a6];simp[Ay,a6,RowOf]
        ·have:zero=z.cells:=by
          have:c.toNat*T.size≠0:=by intro h;rcases Nat.mul_eq_zero.1 h with h|h<;>omega
          simp[zero,this]
         have hr:=Ra (Rd:=Reads w O2 T) (x:=Dp T) (z:=z.cells) (J w O2) (by omega) l.toNat (c.toNat-l.toNat);rw[Z,show l.toNat+(c.toNat-l.toNat)=c.toNat by omega] at hr;simp only[Ay];have aa:d.toList=(List.range (c.toNat*T.size)).map λi=>z.cells[i%z.cells.size]!:=by simp[d,this]
         rw[aa,Z];exact hr
     ·cases he
    ·cases h
   ·cases h
  ·cases h
theorem W5 {s f off t} (h:Mm P s f=some (off,t)):∃c fd inf,P.underlying s=some (.struct c)/\c[f]?=some fd/\P.info? fd.type=some inf/\inf.size≠0/\fd.offset=off/\fd.type=t:=by
 unfold Mm at h;split at h
 ·rename_i c d;split at h
  ·rename_i fd g;split at h
   ·rename_i inf hi;split at h
    ·rename_i o;cases h;exact ⟨c,fd,inf,d,g,hi,beq_false o,rfl,rfl⟩
    ·cases h
   ·cases h
  ·cases h
 ·cases h
theorem K6 {s f off t} (h:Mm P s f=some (off,t)) b o:(Instr.fieldAt s (.pointer (some ⟨b,o,none⟩)) f).run P w=.ok (.pointer (some ⟨b,o+off,none⟩)) w:=by obtain⟨p,fd,inf,c,d,hi,g,rfl,rfl⟩:=W5 h;simp[Instr.fieldAt,run_underlying c,d,Instr.sureAddr,fieldPlace,sizeOf,typeInfo,hi,g,Addr.add_mid]
theorem XO {o s f x out e} (y:RelM B R st μ O w) (E:CN R st μ O w a.tmps) (I:o.op=.fieldAddr s x f)
 (h:FB P st s f (opv R st x)=some out) (J:out.run=some e):Does P o a w (BL B R st e μ O w):=by
  unfold FB at h;split at h
  ·rename_i k off d;split at h
   ·rename_i o' t g;cases h;cases J;obtain⟨b,X,p⟩:=Bv E d;refine AX y (x:=.v (.c (.ptr k (off+o')))) ?_ ⟨b,X,rfl⟩ [];simp only[execOp,I,p,Sem.run_bind,K6 g,Result.andThen_ok,Sem.run_pure]
   ·cases h
  ·rename_i cs d;split at h
   ·rename_i o' t g;cases h;cases J;obtain⟨b,off,us,p,hO,X,hr,ha⟩:=Bv E d;refine AX y (x:=.iptr (cs.drop o')) ?_ ⟨b,off+o',us.drop o',rfl,hO,X,KO hr o',ha.drop o'⟩ [];simp only[execOp,I,p,Sem.run_bind,K6 g,Result.andThen_ok,Sem.run_pure]
   ·cases h
  ·rename_i k i d;split at h
   ·rename_i o' t g;cases h;cases J;obtain⟨b,len,cap,sz,h1,Y,Z,p⟩:=Bv E d;refine AX y (x:=.fptr k i o') ?_ ⟨b,len,cap,sz,h1,Y,Z,rfl⟩ [];simp only[execOp,I,p,Sem.run_bind,K6 g,Result.andThen_ok,Sem.run_pure]
   ·cases h
  ·rename_i k i off d;split at h
   ·rename_i o' t g;cases h;cases J;obtain⟨b,len,cap,sz,h1,Y,Z,p⟩:=Bv E d;refine AX y (x:=.fptr k i (off+o')) ?_ ⟨b,len,cap,sz,h1,Y,Z,rfl⟩ [];simp only[execOp,I,p,Sem.run_bind,K6 g,Result.andThen_ok,Sem.run_pure,Nat.add_assoc]
   ·cases h
  ·cases h
theorem XQ {o t x y k n out e} (hM:RelM B R st μ O w) (hE:CN R st μ O w a.tmps) (ho:o.op=.indexAddr t x y) (hy:a.eval y=.int k n)
 (h:DA P R st t (opc R st x) n=some out) (d:out.run=some e):Does P o a w (BL B R st e μ O w):=by
  unfold DA at h;split at h
  ·rename_i el hu;split at h
   ·cases h
   rename_i inf g;have Y:∀b off len cap,a.eval x=.slice (some ⟨b,off,none⟩) len cap->0<=n->n.toNat<len->(execOp a.eval o).run P w=.ok (.value (.pointer (some ⟨b,off+n.toNat*inf.size,none⟩))) w:=λb off len cap ex h0 hl=>by
    have I:n<(len:Int):=by omega
    simp[execOp,ho,ex,hy,Instr.indexAt,asIntOf,run_underlying hu,h0,I,sizeOf,typeInfo,g,Addr.add_mid]
   split at h
   ·rename_i T l hx;split at h
    ·rename_i J;have J:=beq_true J;cases h;cases p:idx l n with
     |none=>rw[AOut.run,p] at d;cases d
     |some z =>
      rw[AOut.run,p] at d;cases d;obtain⟨h0,hz,I⟩:=NH p;obtain⟨ad,cap,Z,hl,hm,E⟩:=AT hE hx;simp only[Qdo,and_true] at Z;rcases E with E|⟨b,off,cells,ea,hO,hb,hr,E⟩
      ·omega
      ·subst ea;obtain⟨pre,v,post,ec,hp,ah,a1⟩:=RowOf.get (λx vs=>AW T) E hz;rw[ec] at hr;have a8:=fJ hr;rw[hp] at a8;refine AX hM (x:=.iptr (enc T z)) (Y b off _ cap Z h0 I) ⟨b,_,v,rfl,hO,hb,?_,Fw T a1⟩ []<;>simp_all
    ·cases h
   ·rename_i k' hx;split at h
    ·rename_i T l hk;split at h
     ·rename_i J;cases h;cases p:idx l n with
      |none=>rw[AOut.run,p] at d;cases d
      |some z =>rw[AOut.run,p] at d;cases d;obtain⟨h0,hz,I⟩:=NH p;obtain⟨b,cap,us,vs,ab,e1,hc,hs,ae,af,a1,hr⟩:=PV (hM.heap k' _ hk) hz;obtain⟨ad,len,aa,sz,e2,Z⟩:=AT hE hx;rw[e1] at e2;cases e2;refine AX hM (x:=.v (.c (.eptr k' n))) (Y b 0 _ cap Z h0 I) ⟨b,l.length,cap,T.size,e1,h0,by omega,?_⟩ [k'];rw[beq_true J,Qbm]
     ·cases h
    ·cases h
   ·cases h
  ·rename_i len el hu;split at h
   ·cases h
   rename_i inf g;split at h
   ·rename_i k' j hx;split at h
    ·rename_i T l hj hk;have hj:=m7 hj;subst hj;split at h
     ·rename_i J;cases h;cases p:Tm l len n with
      |none=>rw[AOut.run,p] at d;cases d
      |some z =>
       rw[AOut.run,p] at d;cases d;unfold Tm at p;split at p
       ·rename_i a6;obtain⟨h0,hz,I⟩:=NH p;have a6:l.length=len:=by unfold Aa at a6;omega
        obtain⟨b,cap,us,vs,ab,e1,hc,hs,ae,af,a1,hr⟩:=PV (hM.heap k' _ hk) hz;obtain⟨b2,ag,aa,sz,e2,ai,aj,Z⟩:=AT hE hx;rw[e1] at e2;cases e2;have X:n<(l.length:Int):=by omega
        refine AX hM (x:=.v (.c (.eptr k' n))) (v:=.pointer (some ⟨b,n.toNat*inf.size,none⟩)) ?_ ⟨b,l.length,cap,T.size,e1,h0,X,by rw[beq_true J]⟩ [k'];simp[execOp,ho,Z,hy,Instr.indexAt,asIntOf,run_underlying hu,h0,<-a6,X,sizeOf,typeInfo,g,Addr.add_mid,Instr.sureAddr]
       ·cases p
     ·cases h
    ·cases h
   ·rename_i k' off hx;split at h
    ·rename_i a7;have a7:=beq_true a7;subst a7;cases h;obtain⟨b,hb,Z⟩:=AT hE hx;have go:∀m:Nat,n=(m:Int)->m<2->(execOp a.eval o).run P w=.ok (.value (.pointer (some ⟨b,off+m*inf.size,none⟩))) w:=λm hm h2=>by
      have h0:0<=n:=by omega
      have X:n<2:=by omega
      have ht:n.toNat=m:=by omega
      simp[execOp,ho,Z,hy,Instr.indexAt,asIntOf,run_underlying hu,h0,X,ht,sizeOf,typeInfo,g,Addr.add_mid,Instr.sureAddr]
     simp only[AOut.run,Ia] at d;split at d
     ·rename_i h0;cases d;have h0:n=0:=by simpa[eqI] using h0
      exact AX hM (x:=.v (.c (.ptr k' off))) (by have:=go 0 h0 (by omega);rw[Nat.zero_mul] at this;exact this) ⟨b,hb,rfl⟩ []
     ·split at d
      ·rename_i h1;cases d;have h1:n=1:=by simpa[eqI] using h1
       exact AX hM (x:=.v (.c (.ptr k' (off+inf.size)))) (by have:=go 1 h1 (by omega);rw[Qfc] at this;exact this) ⟨b,hb,rfl⟩ []
      ·cases d
    ·cases h
   ·cases h
  ·cases h
theorem Tw {c T l ks v} (Z:RelM B R st μ O w) (h:GR (st.obj R) c=some ⟨T,l,ks⟩) (X:∀c',c=some c'->AQ w O μ c' v) :
 ∃ad cap cells,v=.slice ad l.length cap/\l.length<=cap/\cap<=maxLen/\(l.length=0\/∃b off,ad=some ⟨b,off,none⟩/\w.rangeAt b off cells)/\(∀O1,Keeps w O w O1->RowOf (Reads w O1 T) l cells)/\cells.length=l.length*T.size/\∀k∈ks,∃o,st.obj R k=some o:=by
 unfold GR at h;split at h
 ·rename_i T' l';cases h;obtain⟨ad,cap,g,y,E,d⟩:=X _ rfl;simp only[Qdo,and_true] at g;rcases d with d|⟨b,off,cells,I,J,hb,Y,d⟩
  ·have t:= Qad d;subst t;exact ⟨ad,cap,[],g,y,E,.inl rfl,λ_ _=>rfl,by simp,by simp⟩
  ·exact ⟨ad,cap,cells,g,y,E,.inr ⟨b,off,I,Y⟩,λO1 p=>d.mono λ_ _=>Av p T,RowOf.length (λx vs=>AW T) d,by simp⟩
 ·rename_i k;split at h
  ·rename_i T' l' p;cases h;obtain⟨ad,len,cap,sz,e1,g⟩:=X _ rfl;obtain⟨a6,a1,e2,y,E,d⟩:=Z.heap k _ p;rw[e1] at e2;cases e2;rcases d with d|⟨b,vs,el,I,hc,hs,d⟩
   ·have t:l=[]:=Qad (by omega);subst t;exact ⟨ad,cap,[],g,y,E,.inl rfl,λ_ _=>rfl,by simp,by simp[p]⟩
   ·exact ⟨ad,cap,_,g,y,E,.inr ⟨b,0,I,IW (JK hc) _⟩,λO1 J=>d.mono λ_ _=>Av J T,RowOf.length (λx vs=>AW T) d,by simp[p]⟩
  ·cases h
 ·rename_i k lo n;split at h
  ·rename_i T' l' p;cases h;obtain⟨a,c,cells,g,g1,g2,g3,g4⟩:=aU (Z.heap k _ p) (X _ rfl);exact ⟨a,c,cells,g,g1,g2,g3.imp id λ⟨b,off,I,_,Y⟩=>⟨b,off,I,Y⟩,λO1 J=>g4.mono λ_ _=>Av J T,RowOf.length (λx vs=>AW T) g4,by simp[p]⟩
  ·cases h
 ·cases h
theorem wM {o x t el args J out e} (I:RelM B R st μ O w) (X:CN R st μ O w a.tmps) (hu:P.underlying t=some (.slice el)) (ho:o.op=.call {callee:=.builtin .len,args,argTypes:=J}) (Y:args.toList=[x]) (a6:J.toList=[t])
 (h:Rm R st (opv R st x)=some out) (Z:out.run=some e):Does P o a w (BL B R st e μ O w):=by
  have g:args=#[x]:=by grind
  have p:J=#[t]:=by grind
  subst g;subst p;have d:∀ad n cap,a.eval x=.slice ad n cap->(execOp a.eval o).run P w=.ok (.value (.int .i64 n)) w:=λad n cap ex=>by simp[execOp,ho,resolve,invoke,builtin,ex,Builtin.len_,run_underlying hu,goInt]
  unfold Rm at h;split at h
  ·rename_i l y;cases h;obtain⟨hb,rfl⟩:=Bu Z;obtain⟨b,us,E,_⟩:BW w O μ (.fns l) (a.eval x):=Bv X y;have hb:(l.length:Int)<=1099511627776:=by simpa[leB] using hb
   exact AX I (x:=.v (.c (.int .i64 (Int.ofNat l.length)))) (d _ _ _ E) ⟨rfl,PE (by unfold maxLen;omega)⟩ []
  ·rename_i y;cases h;cases Z;obtain⟨ad,E⟩:∃ad,a.eval x=.slice ad 0 0:=Bv X y;exact AX I (x:=.v (.c (.int .i64 0))) (d ad 0 0 E) ⟨rfl,by decide⟩ []
  ·rename_i c _ y;split at h
   ·rename_i T l ks hl;cases h;cases Z;obtain⟨ad,cap,cells,E,a1,hm,_⟩:=Tw I hl (λc' hc=>by cases hc;exact Bv X y);exact AX I (x:=.v (.c (.int .i64 (Aa l)))) (d ad l.length cap E) ⟨rfl,PE (Qbh a1 hm)⟩ ks
   ·cases h
  ·cases h
end
end Go.Den
namespace Go.Den
open Go.RowKit
section
variable {P:Program} {B:Base} {R:RO} {st:St} {μ:AI} {O:Nat->Prop} {w:World} {a:Act}
def Under (w:World) (v:Value) (n size:Nat) (cells:List Value):Prop :=
 ∃ad cap,v=.slice ad n cap/\cells.length=n*size/\(n=0\/∃b off,ad=some ⟨b,off,none⟩/\w.rangeAt b off cells)
theorem Under.first {v n size cells} (h:Under w v n size cells) w' (d:∀p,w'.cell? p=w.cell? p):(Builtin.firstCells size n v).run P w'=.ok cells.toArray w':=by
 obtain⟨ad,cap,g,o,c⟩:=h;subst g;rcases c with c|⟨b,off,t,c⟩
 ·subst c;have:cells=[]:=Qad (by omega);subst this;cases ad with
  |none=>simp[Builtin.firstCells]
  |some p=>simp[Builtin.firstCells,loadCells,loadCellsFrom]
 ·subst t;exact run_firstCells_some w' size n ⟨b,off,none⟩ n cap cells o λj u y=>by rw[Addr.add_mid,d];exact c j u y
theorem SB {t ty e:TypeId} {i:TypeInfo} {z:Value} (I:P.underlying t=some (.slice e)) {t' J:TypeId} (g:P.underlying t'=some (.slice J)) (hi:P.info? e=some i) (X:i.zero=some z)
 {base:Option Addr} {sLen sCap:Nat} {x:Value} {n:Nat} {olds news:List Value} (Y:Under w (.slice base sLen sCap) sLen i.size olds) (y:Under w x n i.size news)
 (c:sCap<sLen+n) (h:sLen+n<=maxLen) (Z:(sLen+n)*i.bytes<=140737488355328) :
 (Builtin.append_ #[t,t'] ty #[.slice base sLen sCap,x]).run P w =
   .ok (.slice (some ⟨w.heap.size,0,none⟩) (sLen+n) (grownCap w (sLen+n) sCap e)) (w.drew.alloc (.cells (olds.toArray++news.toArray++Builtin.zeroCells z.cells (grownCap w (sLen+n) sCap e-(sLen+n))) e)):=by
 have E:=growslice_fits (bytes:=i.bytes) c Z
 have o:=Y.first (P:=P) w.drew λp=>by simp
 have v:=y.first (P:=P) w.drew λp=>by simp
 obtain⟨ad,cap,ev,hl,hr⟩:=y
 subst ev
 have hn:¬sLen+n<=sCap:=by omega
 have d:¬Builtin.nextslicecap (sLen+n) sCap*i.bytes>2 ^ 48:=by
  have:(2:Nat) ^ 48=281474976710656:=by decide
  omega
 simp[Builtin.append_,run_underlying I,run_underlying g,sizeOf,typeInfo,zeroValue,hi,X,Builtin.lenOf,hn,d,Question.forced,o,v,newRow,grownCap]
 rw[if_neg (by simp only[maxLen] at h;omega)]
 congr 3
 apply Array.ext'
 simp
theorem run_append_fits {t ty e i t' y base sLen sCap x n news w'} (o:P.underlying t=some (.slice e)) (g:P.underlying t'=some (.slice y)) (hi:P.info? e=some i)
 (v:Under w x n i.size news) (d:sLen+n<=sCap)
   (c:(match base with|some p=>storeCells (p.add (sLen*i.size)) news|none=>pure ()).run P w=.ok () w') :
   (Builtin.append_ #[t,t'] ty #[.slice base sLen sCap,x]).run P w=.ok (.slice base (sLen+n) sCap) w':=by
  have h:=v.first (P:=P) w λp=>rfl;obtain⟨ad,cap,E,I,J⟩:=v;subst E;cases base with
  |none =>simp at c;subst c;simp[Builtin.append_,run_underlying o,run_underlying g,sizeOf,typeInfo,hi,Builtin.lenOf,d,h]
  |some p =>simp only at c;simp[Builtin.append_,run_underlying o,run_underlying g,sizeOf,typeInfo,hi,Builtin.lenOf,d,h,c]
theorem RelM.drop (h:RelM B R st μ O w) {k:Nat} (d:noKey R k=true) (e:Env):RelM B R {env:=e,heap:=dropKey k st.heap,next:=st.next} μ O w :=
 h.congr (λj o c=>by rw[Ym d] at c;split at c<;>first|cases c|exact c) (Qaa _)
theorem RelM.rekey (h:RelM B R st μ O w) (hD:¬B.D st.next) {k:Nat} {o:AObj} {p:Place} (hk:st.obj R k=some o) (aa:noKey R k=true) (hp:μ k=some p) {w':World} (q:Place) (hq:q.block=p.block) (o':AObj)
 (ad:w'.heap.size=w.heap.size) (hw:∀c,p.block≠some c->w'.heap[c]?=w.heap[c]?) (a8:Below B.base w w')
 (ho:∀μ',Keeps w O w' O->μle μ μ'->μ' st.next=some q->RelO w' O μ' st.next o') (e:Env) :
 ∃μ',Ev B R {env:=e,heap:=(st.next,o')::dropKey st.next (dropKey k st.heap),next:=st.next+1} μ O w μ' O w'/\μ' st.next=some q:=by
 have E:∀q,μ st.next=some q->False:=λq e=>(h.dom _ _ e).elim (Qcm _) hD;have a1:=μle_set (p:=q) E;have v:μset μ st.next q st.next=some q:=by simp[μset]
 have d:∀j,j≠st.next->μset μ st.next q j=μ j:=λj t=>by simp[μset,t]
 have y:Keeps w O w' O:=⟨by omega,λc hc hO=>⟨hO,hw c λe=>hO (h.own k o hk p c hp e).1⟩⟩;have ae:k≠st.next:=λe=>by subst e;exact E _ hp
 have I:∀j,({env:=e,heap:=(st.next,o')::dropKey st.next (dropKey k st.heap),next:=st.next+1}:St).obj R j=if j=st.next then some o' else if j=k then none else st.obj R j:=λj=>by
  have:=Dv (R:=R) (st:={env:=e,heap:=dropKey k st.heap,next:=st.next}) (k:=st.next) (k':=j) (o:=o') (n:=st.next+1) (e:=e);rw[this];split
  ·rfl
  ·rw[Ym aa]
 refine ⟨μset μ st.next q,⟨a1,y,{heap:=λj oj J=>?_,own:=λj oj J q' c X hc=>?_,inj:=λj j' o1 o2 Z e2 q1 q2 c h1 h2 a6 a7=>?_,foreign:=h.foreign,flt:=λc hc=>(hw c λe=>(h.own k o hk p c hp e).2.1.2 hc).trans (h.flt c hc),dom:=λj q' t=>?_,below:=h.below.trans a8,bsize:=by have:=h.bsize;omega,obound:=λb hb=>by have:=h.obound b hb;omega},μset_new (o:=o') (by rw[I];simp) rfl⟩,v⟩
 ·rw[I] at J;split at J
  ·rename_i t;subst t;cases J;exact ho _ y a1 v
  ·rename_i t;split at J
   ·cases J
   ·rename_i Y;refine Cx y a1 oj (λq' c X hc=>hw c λab=>Y ?_) (h.heap j oj J);exact h.inj j k oj o J hk q' p c X hp hc ab
 ·rw[I] at J;split at J
  ·rename_i t;subst t;rw[v] at X;cases X;have:=h.own k o hk p c hp (hq▸hc);exact ⟨this.1,this.2.1,by omega⟩
  ·rename_i t;split at J
   ·cases J
   ·rw[d j t] at X;have:=h.own j oj J q' c X hc;exact ⟨this.1,this.2.1,by omega⟩
 ·rw[I] at Z e2;by_cases t:j=st.next<;>by_cases g:j'=st.next
  ·rw[t,g]
  ·exfalso;subst t;rw[v] at h1;cases h1;rw[if_neg g] at e2;rw[d j' g] at h2;split at e2
   ·cases e2
   ·rename_i Y;exact Y (h.inj j' k o2 o e2 hk q2 p c h2 hp a7 (hq▸a6))
  ·exfalso;subst g;rw[v] at h2;cases h2;rw[if_neg t] at Z;rw[d j t] at h1;split at Z
   ·cases Z
   ·rename_i Y;exact Y (h.inj j k o1 o Z hk q1 p c h1 hp a6 (hq▸a7))
  ·rw[if_neg t] at Z;rw[if_neg g] at e2;rw[d j t] at h1;rw[d j' g] at h2;split at Z
   ·cases Z
   ·split at e2
    ·cases e2
    ·exact h.inj j j' o1 o2 Z e2 q1 q2 c h1 h2 a6 a7
 ·by_cases g:j=st.next
  ·subst g;exact .inl (Qcx _)
  ·rw[d j g] at t;exact (h.dom j q' t).imp Qca id
theorem Ta (h:RelM B R st μ O w):RelM B R st μ O w.drew/\Keeps w O w.drew O:=by refine ⟨{h with heap:=λk o d=>Cx (⟨Qaa _,λ_ _ c=>⟨c,rfl⟩⟩:Keeps w O w.drew O) (μle.refl _) o (λ_ _ _ _=>rfl) (h.heap k o d),below:=h.below.drew,bsize:=h.bsize},⟨Qaa _,λ_ _ c=>⟨c,rfl⟩⟩⟩
theorem Z3 {k T l} (h:RelO w O μ k (.arr T l)):∃ad cap cells,μ k=some (.arr ad l.length cap T.size)/\l.length<=cap/\cap<=maxLen/\Under w (.slice ad l.length cap) l.length T.size cells/\RowOf (Reads w O T) l cells:=by
 obtain⟨ad,cap,e,d,g,o⟩:=h;rcases o with o|⟨b,vs,el,p,t,v,c⟩
 ·have:l=[]:=Qad (by omega);subst this;exact ⟨ad,cap,[],e,d,g,⟨ad,cap,rfl,by simp,.inl rfl⟩,rfl⟩
 ·refine ⟨ad,cap,vs.toList.take (l.length*T.size),e,d,g,⟨ad,cap,rfl,?_,.inr ⟨b,0,p,IW (JK t) _⟩⟩,c⟩<;>simp_all
theorem W6 (hM:RelM B R st μ O w) (hD:¬B.D st.next) {t ty el:TypeId} {t':TypeId} {T:Ty} (ay:K3 P el T=true) {k:Nat} {l xs:List T.interp} (hk:st.obj R k=some (.arr T l)) (ak:noKey R k=true)
 {s x:Value} (hs:AQ w O μ (.ref k) s) {news:List Value} (y:RowOf (Reads w O T) xs news) {inf:TypeInfo} (al:P.info? el=some inf) (a7:AA (Jv (Aa l) (Aa xs)) inf.bytes=true)
 (hm:l.length+xs.length<=maxLen) (rd:List Nat)
 (a8:∀(z:Value),inf.zero=some z->∀ {base:Option Addr} {sLen sCap:Nat} {olds:List Value},Under w (.slice base sLen sCap) sLen inf.size olds->sCap<sLen+xs.length->sLen+xs.length<=maxLen->(sLen+xs.length)*inf.bytes<=140737488355328 ->
   (Builtin.append_ #[t,t'] ty #[.slice base sLen sCap,x]).run P w=.ok (.slice (some ⟨w.heap.size,0,none⟩) (sLen+xs.length) (grownCap w (sLen+xs.length) sCap el)) (w.drew.alloc (.cells (olds.toArray++news.toArray++Builtin.zeroCells z.cells (grownCap w (sLen+xs.length) sCap el-(sLen+xs.length))) el)))
 (o:∀ {base:Option Addr} {sLen sCap:Nat} {w':World},sLen+xs.length<=sCap->(match base with|some p=>storeCells (p.add (sLen*inf.size)) news|none=>pure ()).run P w=.ok () w' ->
   (Builtin.append_ #[t,t'] ty #[.slice base sLen sCap,x]).run P w=.ok (.slice base (sLen+xs.length) sCap) w') :
 ∃v w',(Builtin.append_ #[t,t'] ty #[s,x]).run P w=.ok v w'/\BL B R st {dst:=some (.v (.c (.ref st.next))),upd:=[(k,none),(st.next,some (.arr T (DM l xs)))],reads:=rd,next:=st.next+1} μ O w v w':=by
 obtain⟨i,z,hi,hz,an,bf,az⟩:=Gq ay;rw[al] at hi;cases hi;obtain⟨ad,cap,olds,e1,hl,aa,ao,J⟩:=Z3 (hM.heap k _ hk);obtain⟨bk,len,bg,sz,e2,ev⟩:=hs;rw[e1] at e2;cases e2;subst ev;have b0:z.cells.size=T.size:=by rw[<-Qat,AW T (az w O)]
 have hb:(l.length+xs.length)*inf.bytes<=140737488355328:=by
  have h1:((l.length:Int)+(xs.length:Int))*(inf.bytes:Int)<=2 ^ 46:=of_decide_eq_true a7;have h2:(((l.length+xs.length)*inf.bytes:Nat):Int)=((l.length:Int)+(xs.length:Int))*(inf.bytes:Int):=by push_cast;rfl
  rw[<-h2] at h1;have h3:(2:Int) ^ 46<=140737488355328:=by decide
  omega
 have aq:∀u∈news,u.oneCell'=true:=RowOf.all (λx vs h=>Lu T h) y;have bh:∀(e:Env),Bw [(k,none),(st.next,some (.arr T (DM l xs)))] st.heap=(st.next,.arr T (DM l xs))::dropKey st.next (dropKey k st.heap):=λ_=>rfl;have E:news.length=xs.length*T.size:=RowOf.length (λx vs=>AW T) y;have ar:olds.length=l.length*T.size:=RowOf.length (λx vs=>AW T) J;by_cases g:l.length+xs.length<=cap
 ·have d:∀(w':World),w'.heap.size=w.heap.size->(∀c,(Place.arr ad l.length cap T.size).block≠some c->w'.heap[c]?=w.heap[c]?)->Below B.base w w' ->
   (∀μ',Keeps w O w' O->μle μ μ'->μ' st.next=some (.arr ad (l.length+xs.length) cap T.size)->RelO w' O μ' st.next (.arr T (DM l xs))) ->
   BL B R st {dst:=some (.v (.c (.ref st.next))),upd:=[(k,none),(st.next,some (.arr T (DM l xs)))],reads:=rd,next:=st.next+1} μ O w (.slice ad (l.length+xs.length) cap) w':=λw' h1 h2 h3 h4=>by
   obtain⟨μ',I,Z⟩:=hM.rekey hD hk ak e1 (.arr ad (l.length+xs.length) cap T.size) (by cases ad<;>rfl) (.arr T (DM l xs)) h1 h2 h3 h4 st.env
   exact BR (Keeps.refl _ _) (λx u hx=>Cn hx hM.heap) I λx hx=>by cases hx;exact ⟨_,_,_,_,Z,rfl⟩
  obtain⟨bl,bj,e3,_,_,hr⟩:=hM.heap k _ hk;rw[e1] at e3;cases e3;rcases hr with b1|⟨b,vs,e',ea,hc,b2,ab⟩
  ·have ae:l=[]:=Qad (by omega);have af:xs=[]:=Qad (by omega);subst ae;subst af;have ag:news=[]:=Qad (by simpa using E);subst ag;refine ⟨_,w,o g ?_,d w rfl (λ_ _=>rfl) (Below.refl _ _) λμ' _ _ Z=>⟨ad,cap,by simpa[DM] using Z,by simp[DM],aa,.inl b1⟩⟩;cases ad<;>simp[storeCells]
  ·subst ea;have ah:l.length*T.size+news.length<=vs.size:=by rw[E,b2,<-Qcd];exact Qco _ g
   have au:=run_storeCells_at P b (l.length*T.size) e' news 0 vs w hc (by simpa using ah) aq;simp only[Qfq] at au;by_cases a1:cap=0
   ·have ae:l=[]:=Qad (by omega);have af:xs=[]:=Qad (by omega);subst ae;subst af;have ag:news=[]:=Qad (by simpa using E);subst ag;refine ⟨_,w,o g (by simp[storeCells]),d w rfl (λ_ _=>rfl) (Below.refl _ _) λμ' _ _ Z=>⟨_,cap,by simpa[DM] using Z,by simp[DM],aa,.inl a1⟩⟩
   ·have a6:(Place.arr (some ⟨b,0,none⟩) l.length cap T.size).block=some b:=by simp[Place.block,a1]
    have av:=hM.own k _ hk _ b e1 a6;refine ⟨_,_,o g (by simp only[an,Addr.add_mid,Qbm];exact au),d _ (by simp) (λc b3=>setRow_other w b c _ λe=>b3 (by rw[a6,e])) (below_setRow w b _ av.2.1.1) λμ' X b7 Z=>?_⟩;refine ⟨_,cap,by simpa[DM] using Z,by simpa[DM] using g,aa,.inr ⟨b,_,e',rfl,setRow_heap w b vs _ e' _ hc,?_,?_⟩⟩
    ·simp;omega
    ·have Y:(DM l xs).length*T.size=(vs.toList.take (l.length*T.size)++news).length:=by simp only[DM,Qau,Qbn,Qat];rw[Qer (by omega),E,Qcd]
     rw[Y];simp only[List.take_left];exact RowOf.append (ab.mono λ_ _=>Av X T) (y.mono λ_ _=>Av X T)
 ·have aw:=a8 z hz (by rw[an];exact ao) (by omega:cap<l.length+xs.length) hm hb;refine ⟨_,_,aw,?_⟩;obtain⟨b8,ai⟩:=Ta hM;have ba:=b8.drop ak st.env;have bb:=grownCap_ge w (l.length+xs.length) cap el;have ax:=grownCap_le_maxLen w (l.length+xs.length) cap el hm;have aj:(olds.toArray++news.toArray++Builtin.zeroCells z.cells (grownCap w (l.length+xs.length) cap el-(l.length+xs.length))).size=grownCap w (l.length+xs.length) cap el*T.size:=by simp only[Array.size_append,Qbk,size_zeroCells,b0,ar,E,<-Qcd];congr 1;omega
  obtain⟨μ',O',I,Z⟩:=ba.alloc hD (.cells (olds.toArray++news.toArray++Builtin.zeroCells z.cells (grownCap w (l.length+xs.length) cap el-(l.length+xs.length))) el)
   (.arr (some ⟨w.heap.size,0,none⟩) (DM l xs).length (grownCap w (l.length+xs.length) cap el) T.size) (.arr T (DM l xs)) (by have:w.drew.heap.size=w.heap.size:=rfl;simp only[Place.block,this];split<;>simp)
   (λO' μ' bc b7 bd=>Mn (w:=w.drew) (T:=T) (l:=DM l xs) (by
     have Y:(DM l xs).length*T.size=(olds++news).length:=by simp only[DM,Qau];rw[ar,E,Qcd]
     rw[Y];simp only[Qfu,List.take_left];exact RowOf.append (J.mono λ_ _=>Av ai T) (y.mono λ_ _=>Av ai T)) (by simpa[DM] using bb) ax aj bc (by simpa using bd)) st.env;refine BR (Keeps.refl _ _) (λx u hx=>Cn hx hM.heap) ⟨I.le,ai.trans I.keeps,I.mem,I.new⟩ λx hx=>by cases hx;exact ⟨_,_,_,_,Z,by simp[DM]⟩
theorem Y8 (hM:RelM B R st μ O w) (hD:¬B.D st.next) {t ty el:TypeId} (Y:P.underlying t=some (.slice el)) {t' E:TypeId} (h:P.underlying t'=some (.slice E)) {T:Ty} (o:K3 P el T=true) {k:Nat} {l xs:List T.interp} (hk:st.obj R k=some (.arr T l)) (I:noKey R k=true)
 {s x:Value} (J:AQ w O μ (.ref k) s) {news:List Value} (Z:Under w x xs.length T.size news) (p:RowOf (Reads w O T) xs news) {inf:TypeInfo} (d:P.info? el=some inf) (g:AA (Jv (Aa l) (Aa xs)) inf.bytes=true)
 (hm:l.length+xs.length<=maxLen) (rd:List Nat) :
 ∃v w',(Builtin.append_ #[t,t'] ty #[s,x]).run P w=.ok v w'/\BL B R st {dst:=some (.v (.c (.ref st.next))),upd:=[(k,none),(st.next,some (.arr T (DM l xs)))],reads:=rd,next:=st.next+1} μ O w v w':=by obtain⟨i,z,hi,hz,y,a1,a6⟩:=Gq o;rw[d] at hi;cases hi;exact W6 hM hD o hk I J p d g hm rd (λz hz {_ _ _ _} J h1 X h3=>SB Y (ty:=ty) h d hz J (by rw[y];exact Z) h1 X h3) λ{_ _ _ _} h1 X=>run_append_fits Y h d (by rw[y];exact Z) h1 X
end
end Go.Den
namespace Go.Den
open Go.RowKit
section
variable {P:Program} {B:Base} {R:RO} {st:St} {μ:AI} {O:Nat->Prop} {w:World} {a:Act}
theorem RelM.bare (h:RelM B R st μ O w) (hD:¬B.D st.next) (p:Place) (o:AObj) (Y:p.block=none)
 (ho:∀μ',μle μ μ'->μ' st.next=some p->RelO w O μ' st.next o) (e:Env) :
 ∃μ',Ev B R {env:=e,heap:=(st.next,o)::dropKey st.next st.heap,next:=st.next+1} μ O w μ' O w/\μ' st.next=some p:=by
 have v:∀q,μ st.next=some q->False:=λq e=>(h.dom _ _ e).elim (Qcm _) hD;have I:=μle_set (p:=p) v;have g:μset μ st.next p st.next=some p:=by simp[μset]
 have c:∀k,k≠st.next->μset μ st.next p k=μ k:=λk hk=>by simp[μset,hk]
 refine ⟨μset μ st.next p,⟨I,Keeps.refl _ _,{heap:=λk o' y=>?_,own:=λk o' y q b t J=>?_,inj:=λk k' o1 o2 Z e2 q q' b t E J X=>?_,foreign:=h.foreign,flt:=h.flt,dom:=λk q t=>?_,below:=h.below,bsize:=h.bsize,obound:=h.obound},μset_new (o:=o) (by rw[Dv];simp) rfl⟩,g⟩
 ·rw[Dv] at y;by_cases d:k=st.next
  ·rw[if_pos d] at y;cases y;subst d;exact ho _ I g
  ·rw[if_neg d] at y;exact Cx (Keeps.refl _ _) I o' (λ_ _ _ _=>rfl) (h.heap k o' y)
 ·rw[Dv] at y;by_cases d:k=st.next
  ·subst d;rw[g] at t;cases t;rw[Y] at J;cases J
  ·rw[if_neg d] at y;rw[c k d] at t;exact h.own k o' y q b t J
 ·rw[Dv] at Z e2;by_cases h1:k=st.next
  ·subst h1;rw[g] at t;cases t;rw[Y] at J;cases J
  ·by_cases h2:k'=st.next
   ·subst h2;rw[g] at E;cases E;rw[Y] at X;cases X
   ·rw[if_neg h1] at Z;rw[if_neg h2] at e2;rw[c k h1] at t;rw[c k' h2] at E;exact h.inj k k' o1 o2 Z e2 q q' b t E J X
 ·by_cases d:k=st.next
  ·subst d;exact .inl (Qcx _)
  ·rw[c k d] at t;exact (h.dom k q t).imp Qca id
theorem RT {n m bytes:Nat} (h:AA (Jv (n:Int) (m:Int)) bytes=true):(n+m)*bytes<=140737488355328:=by have h1:((n:Int)+(m:Int))*(bytes:Int)<=2 ^ 46:=of_decide_eq_true h<;>grind
theorem Se (hM:RelM B R st μ O w) (hD:¬B.D st.next) {t ty el:TypeId} (ht:P.underlying t=some (.slice el)) {t' a8:TypeId} (X:P.underlying t'=some (.slice a8)) {T:Ty} (aa:K3 P el T=true) {xs:List T.interp}
 {s x:Value} (hs:AQ w O μ .nils s) {news:List Value} (o:Under w x xs.length T.size news) (y:RowOf (Reads w O T) xs news) {inf:TypeInfo} (h:P.info? el=some inf) (E:AA (Jv (Aa ([]:List T.interp)) (Aa xs)) inf.bytes=true)
 (hm:xs.length<=maxLen) (rd:List Nat) :
 ∃v w',(Builtin.append_ #[t,t'] ty #[s,x]).run P w=.ok v w'/\BL B R st {dst:=some (.v (.c (.ref st.next))),upd:=[(st.next,some (.arr T (DM [] xs)))],reads:=rd,next:=st.next+1} μ O w v w':=by
 obtain⟨i,z,hi,hz,Y,ao,ab⟩:=Gq aa;rw[h] at hi;cases hi;obtain⟨ad,rfl⟩:=hs;have ae:z.cells.size=T.size:=by rw[<-Qat,AW T (ab w O)]
 have hb:(0+xs.length)*inf.bytes<=140737488355328:=RT (n:=0) E;have I:news.length=xs.length*T.size:=RowOf.length (λx vs=>AW T) y;by_cases Z:xs.length=0
 ·have af:xs=[]:=Qad Z;subst af;have ag:news=[]:=Qad (by simpa using I);subst ag;obtain⟨μ',g,hn⟩:=hM.bare hD (.arr ad 0 0 T.size) (.arr T (DM [] [])) (by cases ad<;>simp[Place.block]) (λμ' _ hn=>⟨ad,0,by simpa[DM] using hn,by simp[DM],Qaw _,.inl rfl⟩) st.env;have ah:Under w x 0 inf.size []:=by rw[Y];exact o
  have ai:(match ad with|some p=>storeCells (p.add (0*inf.size)) []|none=>pure ()).run P w=.ok () w:=by cases ad<;>simp[storeCells]
  have d:=run_append_fits (ty:=ty) (sCap:=0) ht X h ah (Qaa 0) ai;refine ⟨_,w,d,?_⟩;exact BR (Keeps.refl _ _) (λx u o=>Cn o hM.heap) g λx o=>by cases o;exact ⟨_,_,_,_,hn,rfl⟩
 ·have d:=SB ht (ty:=ty) (base:=ad) (sLen:=0) (sCap:=0) (olds:=[]) X h hz ⟨ad,0,rfl,by simp,.inl rfl⟩ (by rw[Y];exact o) (by omega) (by omega) hb;rw[Qbm] at d;refine ⟨_,_,d,?_⟩;obtain⟨aj,a1⟩:=Ta hM;have ak:=grownCap_ge w xs.length 0 el;have a6:=grownCap_le_maxLen w xs.length 0 el (by omega);have J:(([]:List Value).toArray++news.toArray++Builtin.zeroCells z.cells (grownCap w xs.length 0 el-xs.length)).size=grownCap w xs.length 0 el*T.size:=by simp only[Array.size_append,Qbk,size_zeroCells,ae,I,Qbu,Qbm,<-Qcd];congr 1;omega
  obtain⟨μ',O',g,hn⟩:=aj.alloc hD (.cells (([]:List Value).toArray++news.toArray++Builtin.zeroCells z.cells (grownCap w xs.length 0 el-xs.length)) el)
   (.arr (some ⟨w.heap.size,0,none⟩) (DM [] xs).length (grownCap w xs.length 0 el) T.size) (.arr T (DM [] xs)) (by have:w.drew.heap.size=w.heap.size:=rfl;simp only[Place.block,this];split<;>simp)
   (λO' μ' al aq an=>Mn (w:=w.drew) (T:=T) (l:=DM [] xs) (by
     have a7:(DM [] xs).length*T.size=news.length:=by simp only[DM,Qaz];rw[I]
     rw[a7];simp only[Qfu,Qaz,List.take_left];exact y.mono λ_ _=>Av a1 T) (by simpa[DM] using ak) a6 J al (by simpa using an)) st.env;exact BR (Keeps.refl _ _) (λx u o=>Cn o hM.heap) ⟨g.le,a1.trans g.keeps,g.mem,g.new⟩ λx o=>by cases o;exact ⟨_,_,_,_,hn,by simp[DM]⟩
theorem LG {c T l ks v} (p:RelM B R st μ O w) (h:GR (st.obj R) c=some ⟨T,l,ks⟩) (t:∀o,c=some o->AQ w O μ o v) :
 ∃cells,Under w v l.length T.size cells/\RowOf (Reads w O T) l cells/\l.length<=maxLen:=by obtain⟨ad,cap,cells,y,E,I,J,d,g,_⟩:=Tw p h t;exact ⟨cells,⟨ad,cap,y,g,J⟩,d O (Keeps.refl _ _),Qbh E I⟩
theorem pD {n m bytes:Nat} (c:0<bytes) (h:AA (Jv (n:Int) (m:Int)) bytes=true):n+m<=maxLen:=by have:=RT h;have d:n+m<=(n+m)*bytes:=Nat.le_mul_of_pos_right _ c;simp only[maxLen];omega
end
end Go.Den
namespace Go.Den
open Go.RowKit
def BP (w:World) (O:Nat->Prop):(d:List Ty)->(AO d).interp->List Value->Prop
 |[],_,vs=>vs=[]
 |[t],x,vs=>∃us,Reads w O t x us/\vs=[valOf t us]
 |t::u::r,x,vs=>∃us c,Reads w O t x.1 us/\vs=valOf t us::c/\BP w O (u::r) x.2 c
def BV (n0:Nat) (w:World) (F:Nat->Prop) (G:Option Nat) (t:Ty) (l:List t.interp) (v:Value):Prop :=
 ∃a cap,v=.slice a l.length cap/\l.length<=cap/\cap<=maxLen /\
  (cap=0/\G=none\/∃b vs e,cap≠0/\G=some b/\a=some ⟨b,0,none⟩/\n0<=b/\b<w.heap.size/\w.heap[b]?=some (.cells vs e (0,0))/\vs.size=cap*t.size /\
    RowOf (Reads w (λc=>F c\/G=some c) t) l (vs.toList.take (l.length*t.size)))
def Gd (n0:Nat) (w:World) (F:Nat->Prop) (fresh:Bool):(g:List Ty)->(AO g).interp->List Value->Prop
 |g,y,vs=>match fresh with
  |false=>BP w F g y vs
  |true=>match g,y with
   |[.slice t],l=>∃v G,vs=[v]/\BV n0 w F G t l v
   |.slice t::u::r,y=>∃v d G,vs=v::d/\BV n0 w F G t y.1 v/\BP w (λc=>F c\/G=some c) (u::r) y.2 d
   |_,_=>True
def Cp:List Value->Value
 |[v]=>v
 |vs=>.tuple vs.toArray
structure BM (P:Program) (V:World->Prop) (f:FuncId) (sp:FW):Prop where
 enters:∀(args:Array Value) (w:World),(callFunc f args).run P w=.ok (.enter f args) w
 tot:∀g,sp.tot=some g->∀x,sp.fn x=some (g x)
 calls:∀(w:World) (F:Nat->Prop) (vals:List Value) (x:(AO sp.args).interp) (y:(AO sp.res).interp),V w->(∀b,F b->b<w.heap.size)->BP w F sp.args x vals->sp.fn x=some y ->
  Calls P f vals.toArray w λe w'=>∃rs,e=.returned (Cp rs)/\Below w.heap.size w w'/\Gd w.heap.size w' F sp.fresh sp.res y rs
def AfV (P:Program) (V:World->Prop) (f:FuncId):FW->Prop
 |{args:=t0::h,res:=rs,fresh:=true,fn,tot:=_} =>
  ∀(w:World) (F:Nat->Prop) (b:Nat) (el:TypeId) (cur:Array Value) (d:List Value) (x:t0.interp) (xs:(AO h).interp) (y:(AO rs).interp),
   V w->(∀c,F c->c<w.heap.size)->¬F b->b<w.heap.size->w.heap[b]?=some (.cells cur el (0,0))->Reads w F t0 x cur.toList->BP w F h xs d->fn (Da h x xs)=some y ->
   Calls P f (.pointer (some ⟨b,0,none⟩)::d).toArray w λe w'=>∃rv,e=.returned (Cp rv)/\Below w.heap.size w w'/\BP w' F rs y rv
 |{args:=t0::h,res:=t1::rs,fresh:=false,fn,tot:=_} =>
  ∀(n0:Nat) (w:World) (F:Nat->Prop) (b:Nat) (el:TypeId) (cur:Array Value) (d:List Value) (x:t0.interp) (xs:(AO h).interp) (y:(AO (t1::rs)).interp),
   (∀w',Below n0 w w'->V w')->n0<=b->n0<=w.heap.size->(∀c,F c->c<w.heap.size)->F b->w.heap[b]?=some (.cells cur el (0,0))->Reads w F t0 x cur.toList->BP w F h xs d->fn (Da h x xs)=some y ->
   Calls P f (.pointer (some ⟨b,0,none⟩)::d).toArray w λe w'=>∃rv g o,e=.returned (Cp rv)/\Below n0 w w'/\(∀c,c<w.heap.size->c≠b->w'.heap[c]?=w.heap[c]?)/\w'.heap[b]?=some (.cells g o (0,0)) /\
    Reads w' F t1 (HW rs y) g.toList/\BP w' F rs (LF rs y) rv
 |_=>True
structure PR (P:Program) (V:World->Prop) (f:FuncId) (sp:FW):Prop where
 enters:∀(args:Array Value) (w:World),(callFunc f args).run P w=.ok (.enter f args) w
 tot:∀g,sp.tot=some g->∀x,sp.fn x=some (g x)
 calls:AfV P V f sp
def kA (n0:Nat) (w:World) (F:Nat->Prop) (G:Option Nat) (t:Ty) (l:List t.interp) (v:Value):Prop :=
 ∃a cap,v=.slice a l.length cap/\l.length<=cap/\cap<=maxLen /\
  (cap=0/\G=none\/∃b vs e,cap≠0/\G=some b/\a=some ⟨b,0,none⟩/\F b/\n0<=b/\w.heap[b]?=some (.cells vs e (0,0))/\vs.size=cap*t.size /\
    RowOf (Reads w F t) l (vs.toList.take (l.length*t.size)))
def AfU (P:Program) (V:World->Prop) (f:FuncId):FW->Prop
 |{args:=.slice t::g,res:=.slice t'::rs,fresh:=_,fn,tot:=_} =>
  ∀(n0:Nat) (w:World) (F:Nat->Prop) (G:Option Nat) (v:Value) (l:List t.interp) (d:List Value) (xs:(AO g).interp) (y:(AO (.slice t'::rs)).interp),
   (∀w',Below n0 w w'->V w')->n0<=w.heap.size->(∀c,F c->c<w.heap.size)->kA n0 w F G t l v->BP w F g xs d->fn (Da (t:=.slice t) g l xs)=some y->t'.hasSl=false->rs.any Ty.hasSl=false ->
   Calls P f (v::d).toArray w λe w'=>∃h o E,e=.returned (Cp (h::o))/\Below n0 w w'/\(∀c,c<w.heap.size->G≠some c->w'.heap[c]?=w.heap[c]?)/\(∀b,E=some b->G=some b\/w.heap.size<=b) /\
    BV n0 w' F E t' (HW (t:=.slice t') rs y) h/\BP w' F rs (LF rs y) o
 |{args:=.int .i64::g,res:=[.int .i64,.int .i64],fresh:=_,fn,tot:=_} =>
  ∀(w:World) (F:Nat->Prop) (ad:Option Addr) (len cap:Nat) (d:List Value) (xs:(AO g).interp) (y:Int×Int),
   V w->(∀c,F c->c<w.heap.size)->len<=cap->cap<=maxLen->(cap=0\/∃b,ad=some ⟨b,0,none⟩)->BP w F g xs d->fn (Da (t:=.int .i64) g (len:Int) xs)=some y ->
   (0<=y.1/\0<=y.2/\y.1+y.2<=(len:Int))/\Calls P f (.agg #[.slice ad len cap]::d).toArray w λe w'=>Below w.heap.size w w'/\∃I p,e=.returned (.slice I y.2.toNat p)/\(y.2.toNat<=p/\p<=maxLen)/\(y.2=0\/∃b,ad=some ⟨b,0,none⟩/\I=some ⟨b,y.1.toNat,none⟩)
 |_=>True
structure PQ (P:Program) (V:World->Prop) (f:FuncId) (sp:FW):Prop where
 enters:∀(args:Array Value) (w:World),(callFunc f args).run P w=.ok (.enter f args) w
 tot:∀g,sp.tot=some g->∀x,sp.fn x=some (g x)
 calls:AfU P V f sp
def Me (c:Option Nat->(t:Ty)->List t.interp->Value->Prop) (w:World) (F:Nat->Prop) (own:List Nat):(T:Ty)->Nat->T.interp->List Value->List Nat->Prop
 |.slice t,off,l,us,d=>match own.any (Nat.beq off) with
  |true=>∃v G,us=[v]/\c G t l v/\d=G.toList
  |false=>Reads w F (.slice t) l us/\d=[]
 |.pair a b,off,x,us,d=>∃u1 u2 g h,us=u1++u2/\d=g++h/\Me c w F own a off x.1 u1 g/\Me c w F own b (off+a.size) x.2 u2 h
 |T,_,x,us,d=>Reads w F T x us/\d=[]
structure j9 (P:Program) (V:World->Prop) (f:FuncId) (sp:wC):Prop where
 enters:∀(args:Array Value) (w:World),(callFunc f args).run P w=.ok (.enter f args) w
 calls:∀(w:World) (F:Nat->Prop) (vals:List Value) (x:(AO sp.args).interp) (y:sp.res.interp),V w->(∀b,F b->b<w.heap.size)->BP w F sp.args x vals->sp.fn x=some y ->
  Calls P f vals.toArray w λe w'=>∃us Gs,e=.returned (.agg us)/\Below w.heap.size w w'/\Gs.Nodup/\Me (BV w.heap.size w' λc=>F c\/c∈Gs) w' (λc=>F c\/c∈Gs) sp.own sp.res 0 y us.toList Gs
structure j8 (P:Program) (V:World->Prop) (f:FuncId) (sp:vZ):Prop where
 enters:∀(args:Array Value) (w:World),(callFunc f args).run P w=.ok (.enter f args) w
 calls:∀(n0:Nat) (w:World) (F:Nat->Prop) (b:Nat) (el:TypeId) (cur:Array Value) (vals:List Value) (x:(AO (VG sp.los)).interp) (xs:(AO sp.args).interp) (y:(AO sp.res).interp),
  (∀w',Below n0 w w'->V w')->n0<=b->n0<=w.heap.size->(∀c,F c->c<w.heap.size)->F b->w.heap[b]?=some (.cells cur el (0,0))->cur.size=sp.size->(∀u∈cur.toList,u.oneCell'=true/\u.cells=#[u])->(∀i c,GV sp.los x i=some c->∃u,cur[i]?=some u/\AQ w F (λ_=>none) c u) ->
  BP w F sp.args xs vals->sp.fn (Da sp.args x xs)=some y ->
  Calls P f (.pointer (some ⟨b,0,none⟩)::vals).toArray w λe w'=>∃rv cur' el',e=.returned (Cp rv)/\Below n0 w w'/\(∀c,c<w.heap.size->c≠b->w'.heap[c]?=w.heap[c]?)/\w'.heap[b]?=some (.cells cur' el' (0,0))/\cur'.size=cur.size /\
   (∀i c,GV sp.los x i=some c->∃u,cur'[i]?=some u/\AQ w' F (λ_=>none) c u)/\(∀i,GV sp.los x i=none->cur'[i]?=cur[i]?)/\BP w' F sp.res y rv
abbrev HE (C:Ctx):Prop:=(∀f sp,C.ptbl f=some sp->PR C.P C.V f sp)/\(∀f sp,C.otbl f=some sp->PQ C.P C.V f sp)/\(∀f sp,C.stbl f=some sp->j9 C.P C.V f sp)/\∀f sp,C.qtbl f=some sp->j8 C.P C.V f sp
def DG (C:Ctx) (B:Base):Prop:=(∀f sp,C.tbl f=some sp->BM C.P C.V f sp)/\(∀w,Below B.base B.w0 w->C.V w)/\HE C
section
variable {P:Program} {B:Base} {R:RO} {st:St} {μ:AI} {O:Nat->Prop} {w:World} {a:Act}
theorem X2 {T d v} (h:Cl w O μ d v) (o:I9 T d=true):v=valOf T v.cells.toList:=by
 cases d with
 |a cs =>have g:T.isAgg=true:=o;obtain⟨vs,rfl,_⟩:=h;simp[valOf,g,Value.cells]
 |c c =>
  have g:T.isAgg=false:=by simpa[I9] using o
  simp[valOf,g,Pg c h]
theorem Cm {O' h} (X:Keeps w O w O') (Y:∀k o,h k=some o->RelO w O μ k o):∀ {ts} {vs} {c} {x} {ks},
 BY h ts vs=some (x,ks)->All2 (Cl w O μ) vs c->(∀k∈ks,∀p b,μ k=some p->p.block=some b->¬O' b/\b<w.heap.size)->BP w O' ts x c
 |[],vs,c,x,ks,d,E,I=>by
  cases E with
  |nil=>rfl
  |cons h1 J=>simp[BY] at d
 |[t],vs,c,x,ks,d,E,I=>by
  cases E with
  |nil=>simp[BY] at d
  |cons h1 J =>
   cases J with
   |nil =>
    simp only[BY] at d;split at d
    ·rename_i Z;refine ⟨_,KF X Y d h1 I,?_⟩;rw[<-X2 h1 Z]
    ·cases d
   |cons h3 h4=>simp[BY] at d
 |t::u::r,vs,c,x,ks,d,E,I=>by
  cases E with
  |nil=>simp[BY] at d
  |cons h1 J =>
   simp only[BY] at d;split at d
   ·rename_i y f ys g Z hd v;cases d;refine ⟨_,_,KF X Y hd h1 λk hk=>I k (by simp[hk]),?_,Cm X Y v J λk hk=>I k (by simp[hk])⟩;rw[<-X2 h1 Z]
   ·cases d
theorem Gn {h}:∀ {E} {vs} {x} {ks},BY h E vs=some (x,ks)->∀k∈ks,∃o,h k=some o
 |[],vs,x,ks,c=>by
  cases vs with
  |nil=>simp[BY] at c<;>grind
  |cons v r=>simp[BY] at c
 |[t],vs,x,ks,c=>by
  cases vs with
  |nil=>simp[BY] at c
  |cons v r =>
   cases r with
   |nil =>
    simp only[BY] at c;split at c
    ·intro k d;obtain⟨t,l,e⟩:=JN c k d<;>simp_all
    ·cases c
   |cons _ _=>simp[BY] at c
 |t::u::r,vs,x,ks,c=>by
  cases vs with
  |nil=>simp[BY] at c
  |cons v vs =>
   simp only[BY] at c;split at c
   ·rename_i y f ys g J I p;cases c;intro k d;rcases List.mem_append.1 d with d|d
    ·obtain⟨t,l,e⟩:=JN I k d<;>simp_all
    ·exact Gn p k d
   ·cases c
theorem Nr {h}:∀ {p} {vs} {x} {ks},BY h p vs=some (x,ks)->∀k∈ks,∃t l,h k=some (.arr t l)
 |[],vs,x,ks,c=>by
  cases vs with
  |nil=>simp[BY] at c<;>grind
  |cons v r=>simp[BY] at c
 |[t],vs,x,ks,c=>by
  cases vs with
  |nil=>simp[BY] at c
  |cons v r =>
   cases r with
   |nil =>
    simp only[BY] at c;split at c
    ·intro k d;exact JN c k d
    ·cases c
   |cons _ _=>simp[BY] at c
 |t::u::r,vs,x,ks,c=>by
  cases vs with
  |nil=>simp[BY] at c
  |cons v vs =>
   simp only[BY] at c;split at c
   ·rename_i y f ys g I E o;cases c;intro k d;rcases List.mem_append.1 d with d|d
    ·exact JN E k d
    ·exact Nr o k d
   ·cases c
theorem FE {w' O'}:∀T {x} {vs},T.hasSl=false->Reads w O T x vs->Reads w' O' T x vs
 |.int _,_,_,_,h=>h
 |.bool,_,_,_,h=>h
 |.unit,_,_,_,h=>h
 |.slice _,_,_,c,_=>by cases c
 |.pair a b,_,_,c,⟨d,g,e,h1,o⟩=>by simp only[Ty.hasSl,Qbv] at c;exact ⟨d,g,e,FE a c.1 h1,FE b c.2 o⟩
theorem Hb {w' O'}:∀ {d} {x} {vs},d.any Ty.hasSl=false->BP w O d x vs->BP w' O' d x vs
 |[],_,_,_,h=>h
 |[t],_,_,c,⟨us,h,e⟩=>⟨us,FE t (by simpa using c) h,e⟩
 |t::u::r,_,_,c,⟨us,g,h,e,o⟩=>by simp only[List.any_cons,Qbv] at c;exact ⟨us,g,FE t c.1 h,e,Hb (by simpa using c.2) o⟩
theorem HB:∀ {c} {x} {vs},BP w O c x vs->All2 (Cl w O μ) (Qs c x) vs
 |[],_,_,h=>by have:= h;rw[this];exact .nil
 |[t],_,_,⟨us,h,e⟩=>by rw[e];exact .cons (NB t h) .nil
 |t::u::r,_,_,⟨us,d,h,e,g⟩=>by rw[e];exact .cons (NB t h) (HB g)
theorem IZ {xs vs} (h:All2 (Cl w O μ) xs vs):BW w O μ (OK xs) (Cp vs):=by
 cases h with
 |nil=>exact ⟨#[],rfl,.nil⟩
 |cons h1 c =>
  cases c with
  |nil=>exact h1
  |cons d h4=>exact ⟨_,rfl,by simpa using All2.cons h1 (.cons d h4)⟩
theorem RelM.grow (h:RelM B R st μ O w) {w':World} (c:Below w.heap.size w w'):RelM B R st μ O w'/\Keeps w O w' O:=by have E:Keeps w O w' O:=⟨c.size,λb t v=>⟨v,c.block b t⟩⟩;refine ⟨{h with heap:=λk o g=>Cx E (μle.refl _) o (λp b y d=>c.block b (h.own k o g p b y d).2.2) (h.heap k o g),own:=λk o g p b y d=>?_,flt:=λb hF=>(c.block b (h.obound b (h.foreign b hF))).trans (h.flt b hF),below:=h.below.trans (c.mono h.bsize),bsize:=Qbh h.bsize c.size,obound:=λb v=>Qac (h.obound b v) c.size},E⟩;have:=h.own k o g p b y d;exact ⟨this.1,this.2.1,Qac this.2.2 c.size⟩
theorem RelM.adopt (h:RelM B R st μ O w) (hD:¬B.D st.next) (p:Place) (o:AObj) (Z:∀b,p.block=some b->¬O b/\B.base<=b/\b<w.heap.size)
 (ho:∀μ',μle μ μ'->μ' st.next=some p->RelO w (λc=>O c\/p.block=some c) μ' st.next o)
 (hrel:∀k o',st.obj R k=some o'->RelO w (λc=>O c\/p.block=some c) μ k o') (e:Env) :
 ∃μ',RelM B R {env:=e,heap:=(st.next,o)::dropKey st.next st.heap,next:=st.next+1} μ' (λc=>O c\/p.block=some c) w/\μle μ μ'/\μ' st.next=some p/\∀k q,μ' k=some q->μ k=some q\/k<st.next+1/\∃o',({env:=e,heap:=(st.next,o)::dropKey st.next st.heap,next:=st.next+1}:St).obj R k=some o':=by
 have I:∀q,μ st.next=some q->False:=λq e=>(h.dom _ _ e).elim (Qcm _) hD;have X:=μle_set (p:=p) I;have t:μset μ st.next p st.next=some p:=by simp[μset]
 have d:∀k,k≠st.next->μset μ st.next p k=μ k:=λk hk=>by simp[μset,hk]
 refine ⟨μset μ st.next p,{heap:=λk o' J=>?_,own:=λk o' J q b v y=>?_,inj:=λk k' o1 o2 e1 e2 q q' b v E y Y=>?_,foreign:=λb y=>.inl (h.foreign b y),flt:=h.flt,dom:=λk q v=>?_,below:=h.below,bsize:=h.bsize,obound:=λb y=>y.elim (h.obound b) λy=>(Z b y).2.2},X,t,λk q v=>μset_new (o:=o) (st':={env:=e,heap:=(st.next,o)::dropKey st.next st.heap,next:=st.next+1}) (by rw[Dv];simp) rfl k q v⟩
 ·rw[Dv] at J;by_cases g:k=st.next
  ·rw[if_pos g] at J;cases J;subst g;exact ho _ X t
  ·rw[if_neg g] at J;exact Cx (Keeps.refl _ _) X o' (λ_ _ _ _=>rfl) (hrel k o' J)
 ·rw[Dv] at J;by_cases g:k=st.next
  ·subst g;rw[t] at v;cases v;exact ⟨.inr y,⟨(Z b y).2.1,λhF=>(Z b y).1 (h.foreign b hF)⟩,(Z b y).2.2⟩
  ·rw[if_neg g] at J;rw[d k g] at v;have:=h.own k o' J q b v y;exact ⟨.inl this.1,this.2⟩
 ·rw[Dv] at e1 e2;by_cases h1:k=st.next<;>by_cases h2:k'=st.next
  ·rw[h1,h2]
  ·exfalso;subst h1;rw[t] at v;cases v;rw[if_neg h2] at e2;rw[d k' h2] at E;exact (Z b y).1 (h.own k' o2 e2 q' b E Y).1
  ·exfalso;subst h2;rw[t] at E;cases E;rw[if_neg h1] at e1;rw[d k h1] at v;exact (Z b Y).1 (h.own k o1 e1 q b v y).1
  ·rw[if_neg h1] at e1;rw[if_neg h2] at e2;rw[d k h1] at v;rw[d k' h2] at E;exact h.inj k k' o1 o2 e1 e2 q q' b v E y Y
 ·by_cases g:k=st.next
  ·subst g;exact .inl (Qcx _)
  ·rw[d k g] at v;exact (h.dom k q v).imp Qca id
theorem Xj {w w':World} {O:Nat->Prop} {n0:Nat} {G:Option Nat} (d:w.heap.size<=w'.heap.size) (v:w.heap.size<=n0) (o:∀b,b<w.heap.size->w'.heap[b]?=w.heap[b]?) (p:∀b,G=some b->n0<=b):Keeps w O w' λc=>O c\/G=some c :=
 ⟨d,λb g t=>⟨λh=>h.elim t λh=>by have:=p b h;omega,o b g⟩⟩
end
section
variable {B:Base} {μ μ':AI} {O:Nat->Prop} {w:World}
theorem RelM.add {R:RO} {st:St} (h:RelM B R st μ O w) {key:Nat} {p:Place} {o:AObj} (Z:μ key=some p) (hb:∀b,p.block=some b->O b/\(B.base<=b/\¬B.F b)/\b<w.heap.size)
 (v:∀k' o',st.obj R k'=some o'->∀p' b,μ k'=some p'->p'.block=some b->p.block=some b->False) (ho:RelO w O μ key o) (e:Env):RelM B R {env:=e,heap:=(key,o)::st.heap,next:=st.next} μ O w:=by
 have d:∀k',({env:=e,heap:=(key,o)::st.heap,next:=st.next}:St).obj R k'=if k'=key then some o else st.obj R k':=λk'=>by
  simp only[St.obj,AE];by_cases I:k'=key
  ·subst I;simp
  ·have:¬key=k':=λe=>I e.symm;simp[I,this]
 refine {h with heap:=λk o' y=>?_,own:=λk o' y q b E c=>?_,inj:=λk k' o1 o2 J X q q' b E t c g=>?_}
 ·rw[d] at y;split at y
  ·rename_i I;cases y;subst I;exact ho
  ·exact h.heap k o' y
 ·rw[d] at y;split at y
  ·rename_i I;subst I;rw[Z] at E;cases E;exact hb b c
  ·exact h.own k o' y q b E c
 ·rw[d] at J X;split at J<;>split at X
  ·rename_i h1 Y;rw[h1,Y]
  ·rename_i h1 Y;subst h1;rw[Z] at E;cases E;exact (v k' o2 X q' b t g c).elim
  ·rename_i h1 Y;subst Y;rw[Z] at t;cases t;exact (v k o1 J q b E c g).elim
  ·exact h.inj k k' o1 o2 J X q q' b E t c g
theorem RelM.extend {R:RO} {st:St} (h:RelM B R st μ O w) (hB:∀k,¬B.D k) (p:Place) (J:st.obj R st.next=none) (e:Env):RelM B R {env:=e,heap:=st.heap,next:=st.next+1} (μset μ st.next p) O w/\μle μ (μset μ st.next p):=by
 have d:∀q,μ st.next=some q->False:=λq e=>(h.dom _ _ e).elim (Qcm _) (hB _);have v:=μle_set (p:=p) d;have c:∀k o,st.obj R k=some o->μset μ st.next p k=μ k:=λk o X=>by
  have:k≠st.next:=λe=>by rw[e,J] at X;cases X
  simp[μset,this]
 refine ⟨{h with heap:=λk o I=>Cx (Keeps.refl _ _) v o (λ_ _ _ _=>rfl) (h.heap k o I),own:=λk o I q b g t=>?_,inj:=λk k' Y Z e1 e2 q q' b g y t E=>?_,dom:=λk q g=>?_},v⟩
 ·rw[c k o I] at g;exact h.own k o I q b g t
 ·rw[c k Y e1] at g;rw[c k' Z e2] at y;exact h.inj k k' Y Z e1 e2 q q' b g y t E
 ·unfold μset at g;split at g
  ·rename_i hk;subst hk;exact .inl (Qcx _)
  ·exact (h.dom k q g).imp Qca id
end
section
variable {B:Base} {R:RO} {st:St} {μ:AI} {O O1:Nat->Prop} {w:World} {tmps:Array Value} {R1:RO} {n0:Nat}
structure Inv (B:Base) (R:RO) (st:St) (μ:AI) (O1:Nat->Prop) (w:World) (tmps:Array Value) (R1:RO) (n0:Nat) (rem:List Nat) (sc:St) (μc:AI):Prop where
 mem:RelM B R1 sc μc O1 w
 env:CN R1 sc μc O1 w tmps
 agree:∀k,k<n0->μc k=μ k
 next:n0<=sc.next
 src:∀k' o',sc.obj R1 k'=some o'->∀p' b,μc k'=some p'->p'.block=some b->∃k0 o0 p0,st.obj R k0=some o0/\k0∉rem/\μ k0=some p0/\p0.block=some b
theorem RelM.fresh (h:RelM B R st μ O w) (c:∀k,¬B.D k):st.obj R st.next=none/\∀q,μ st.next=some q->False:=by
 have d:∀q,μ st.next=some q->False:=λq e=>(h.dom _ _ e).elim (Qcm _) (c _);refine ⟨?_,d⟩;cases g:st.obj R st.next with
 |none=>rfl
 |some o =>obtain⟨p,t⟩:=(h.heap _ _ g).some<;>simp_all
theorem Yr {sc c s x} (h:CN R1 sc c O1 w tmps) (p:BW w O1 c x (tmps.getD s undef)) g n:CN R1 {env:=(s,some x)::sc.env,heap:=g,next:=n} c O1 w tmps:=λt v d=>by
 simp only[St.get,AE] at d;by_cases o:s=t
 ·simp_all
 ·simp[o] at d;exact h t v d
theorem Inv.keep {rem:List Nat} {sc:St} {d:AI} {k:Nat} (h:Inv B R st μ O1 w tmps R1 n0 (k::rem) sc d) (Z:k∉rem) (a1:∀p b,μ k=some p->p.block=some b->O1 b/\(B.base<=b/\¬B.F b)/\b<w.heap.size)
 (y:∀t X p0 b p,st.obj R t=some X->μ t=some p0->p0.block=some b->μ k=some p->p.block=some b->t=k) {X:AObj} (hk:st.obj R k=some X) (a6:k<n0) {p:Place} (Y:μ k=some p) {o:AObj} (ho:RelO w O1 d k o) :
 Inv B R st μ O1 w tmps R1 n0 rem {sc with heap:=(k,o)::sc.heap} d:=by
 have E:d k=some p:=(h.agree k a6).trans Y;refine ⟨h.mem.add E (λb hb=>a1 p b Y hb) (λk' o' I p' b c g hb=>?_) ho sc.env,h.env,h.agree,h.next,λk' o' I p' b c g=>?_⟩
 ·obtain⟨t,v,p0,h1,h2,h3,h4⟩:=h.src k' o' I p' b c g;exact h2 (by rw[y t v p0 b p h1 h3 h4 Y hb];simp)
 ·simp only[St.obj,AE] at I;by_cases J:k=k'
  ·subst J;rw[E] at c;cases c;exact ⟨k,X,p,hk,Z,Y,g⟩
  ·simp only[J,if_false] at I;obtain⟨t,v,p0,h1,h2,h3,h4⟩:=h.src k' o' I p' b c g;exact ⟨t,v,p0,h1,λhm=>h2 (Qak _ hm),h3,h4⟩
theorem Inv.fresh {rem:List Nat} {sc:St} {d:AI} (hB:∀k,¬B.D k) (p:Place) (gone:List Nat) (E:Inv B R st μ O1 w tmps R1 n0 (gone++rem) sc d) (Z:∀b,p.block=some b->O1 b/\(B.base<=b/\¬B.F b)/\b<w.heap.size)
 (I:∀b,p.block=some b->∃k o0,k∈gone/\k∉rem/\st.obj R k=some o0/\μ k=some p/\∀J t p0,st.obj R J=some t->μ J=some p0->p0.block=some b->J=k) {o:AObj}
 (ho:∀μ',μle d μ'->μ' sc.next=some p->RelO w O1 μ' sc.next o) :
 ∃μ',Inv B R st μ O1 w tmps R1 n0 rem {sc with heap:=(sc.next,o)::sc.heap,next:=sc.next+1} μ'/\μle d μ'/\μ' sc.next=some p:=by
 obtain⟨a1,a7⟩:=E.mem.fresh hB;obtain⟨h1,X⟩:=E.mem.extend hB p a1 sc.env;have h:μset d sc.next p sc.next=some p:=by simp[μset]
 have c:∀k,k≠sc.next->μset d sc.next p k=d k:=λk hk=>by simp[μset,hk]
 refine ⟨μset d sc.next p,⟨?_,?_,λk hk=>?_,Nat.le_succ_of_le E.next,λk' o' e' p' b g y=>?_⟩,X,h⟩
 ·refine h1.add (key:=sc.next) h Z (λk' o' e' p' b g y hb=>?_) (ho _ X h) sc.env;have e2:sc.obj R1 k'=some o':=e';have a6:k'≠sc.next:=λe=>by rw[e,a1] at e2;cases e2
  rw[c k' a6] at g;obtain⟨J,t,p0,g1,g2,g3,g4⟩:=E.src k' o' e2 p' b g y;obtain⟨k,o0,m1,m2,m3,m4,m5⟩:=I b hb;exact g2 (by rw[m5 J t p0 g1 g3 g4];exact Qah _ m1)
 ·intro s v hv;exact D3 (Keeps.refl _ _) X v (E.env s v hv)
 ·rw[c k (by have:=E.next;omega)];exact E.agree k hk
 ·simp only[St.obj,AE] at e';by_cases Y:sc.next=k'
  ·subst Y;rw[h] at g;cases g;obtain⟨k,o0,m1,m2,m3,m4,m5⟩:=I b y;exact ⟨k,o0,p,m3,m2,m4,y⟩
  ·simp only[Y,if_false] at e';rw[c k' λe=>Y e.symm] at g;obtain⟨J,t,p0,g1,g2,g3,g4⟩:=E.src k' o' e' p' b g y;exact ⟨J,t,p0,g1,λhm=>g2 (Qan _ hm),g3,g4⟩
theorem Inv.weaken {rem c sc d} (p:Inv B R st μ O1 w tmps R1 n0 rem sc d) (h:∀k∈c,k∈rem):Inv B R st μ O1 w tmps R1 n0 c sc d :=
 {p with src:=λk' o' v y b g o=>let ⟨t,E,p0,h1,I,J,h4⟩:=p.src k' o' v y b g o;⟨t,E,p0,h1,λX=>I (h t X),J,h4⟩}
theorem Ns {c:AI} (o:Keeps w O w O1) {k k':Nat} {t:Ty} {l:List t.interp} (h:RelO w O μ k (.arr t l)) {p:Place} (v:μ k=some p) (y:c k'=some p):RelO w O1 c k' (.arr t l):=by
 obtain⟨a,cap,e,h1,E,g⟩:=h;rw[v] at e;cases e;refine ⟨a,cap,y,h1,E,?_⟩;rcases g with g|⟨b,vs,el,I,J,X,d⟩
 ·exact .inl g
 ·exact .inr ⟨b,vs,el,I,J,X,d.mono λ_ _=>Av o t⟩
structure Src (B:Base) (R:RO) (st:St) (μ:AI) (O O1:Nat->Prop) (w:World) (tmps:Array Value) (gone:List Nat):Prop where
 mem:RelM B R st μ O w
 env:CN R st μ O w tmps
 keeps:Keeps w O w O1
 own:∀k∈gone,∀o,st.obj R k=some o->∀p b,μ k=some p->p.block=some b->O1 b
theorem AcI (hB:∀k,¬B.D k) {own:List Nat}:∀(T:Ty) {off:Nat} {cs:List Cell} {x:T.interp} {rest:List Cell} {I gn:List Nat} {vs:List Value} {rem:List Nat} {sc:St} {g:AI},JO (st.obj R) (assoc st.heap) own T off cs=some (x,rest,I,gn) ->
 All2 (AQ w O μ) cs vs->(∀k∈I,∀p b,μ k=some p->p.block=some b->¬O1 b/\b<w.heap.size)->Src B R st μ O O1 w tmps (gn++rem)->(gn++rem).Nodup->Inv B R st μ O1 w tmps R1 n0 (gn++rem) sc g ->
 ∃X Y μ',vs=X++Y/\All2 (AQ w O μ) rest Y/\Inv B R st μ O1 w tmps R1 n0 rem (IJ own T off x sc).2 μ'/\μle g μ'/\All2 (AQ w O1 μ') (IJ own T off x sc).1 X:=by
 have leaf:∀(T:Ty) {cs:List Cell} {x:T.interp} {rest:List Cell} {I gn:List Nat} {vs:List Value} {rem:List Nat} {sc:St} {g:AI},Ih (st.obj R) T cs=some (x,rest,I,gn) ->
  All2 (AQ w O μ) cs vs->(∀k∈I,∀p b,μ k=some p->p.block=some b->¬O1 b/\b<w.heap.size)->Src B R st μ O O1 w tmps (gn++rem)->Inv B R st μ O1 w tmps R1 n0 (gn++rem) sc g ->
  ∃X Y μ',vs=X++Y/\All2 (AQ w O μ) rest Y/\Inv B R st μ O1 w tmps R1 n0 rem sc μ'/\μle g μ'/\All2 (AQ w O1 μ') (enc T x) X:=λT cs x rest I gn vs rem sc g d J h hS y=>by
  unfold Ih at d
  split at d
  ·rename_i x' r' f' ab;cases d;obtain⟨X,Y,e,hr,a7⟩:=Ee hS.keeps hS.mem.heap T ab J h;exact ⟨X,Y,g,e,a7,y,μle.refl _,Fw T hr⟩
  ·cases d
 intro T;induction T with
 |int k=>intro off cs x rest I gn vs rem sc g d J h hS v y;exact leaf (.int k) d J h hS y
 |bool=>intro off cs x rest I gn vs rem sc g d J h hS v y;exact leaf .bool d J h hS y
 |unit=>intro off cs x rest I gn vs rem sc g d J h hS v y;exact leaf .unit d J h hS y
 |slice t _ =>
  intro off cs x rest I gn vs rem sc g d J h hS v y;cases J with
  |nil=>simp[JO,Ih,dec] at d
  |cons h1 h2 =>
   rename_i c u r us;simp only[JO] at d;simp only[IJ];split at d
   ·rename_i a8;exact leaf (.slice t) d (.cons h1 h2) h hS y
   ·rename_i a8;split at d
    ·simp only[Qaf] at d;obtain⟨rfl,rfl,rfl,rfl⟩:=d;obtain⟨ad,ev⟩:∃ad,u=.slice ad 0 0:=h1;obtain⟨μ',g1,g2,g3⟩:=Inv.fresh (o:=.arr t []) hB (.arr ad 0 0 t.size) [] y (λb Z=>by cases ad<;>simp[Place.block] at Z) (λb Z=>by cases ad<;>simp[Place.block] at Z) λμ' _ hn=>⟨ad,0,hn,Qaa _,Qaw _,.inl rfl⟩;exact ⟨[u],us,μ',rfl,h2,g1,g2,.cons ⟨ad,0,0,t.size,g3,ev⟩ .nil⟩
    ·rename_i k;split at d
     ·rename_i t' l hk;split at d
      ·rename_i l' hc;cases d;obtain⟨e1,e2⟩:=Ea hc;subst e1;have e3:l=x:=e2.symm;rw[e3] at hk;have E:st.obj R k=some (.arr t' x):=by simp[St.obj,hk]
       obtain⟨p,hp⟩:=(hS.mem.heap k _ E).some;have ae:k∉rem:=λhm=>(List.nodup_append.1 v).2.2 k (by simp) k hm rfl;obtain⟨μ',g1,g2,g3⟩:=Inv.fresh (o:=.arr t' x) hB p [k] y
        (λb Z=>⟨hS.own k (by simp) _ E p b hp Z,(hS.mem.own k _ E p b hp Z).2⟩)
        (λb Z=>⟨k,_,by simp,ae,E,hp,λk0 af p0 e1 e2 e3=>hS.mem.inj k0 k af _ e1 E p0 p b e2 hp e3 Z⟩)
        λμ' _ hn=>Ns hS.keeps (hS.mem.heap k _ E) hp hn;obtain⟨a1,a2,a3,a4,e1,e2⟩:∃a len cap sz,μ k=some (.arr a len cap sz)/\u=.slice a len cap:=h1;rw[hp] at e1;cases e1;exact ⟨[u],us,μ',rfl,h2,g1,g2,.cons ⟨a1,a2,a3,a4,g3,e2⟩ .nil⟩
      ·cases d
     ·cases d
    ·cases d
 |pair a b ag ah =>
  intro off cs x rest I gn vs rem sc g d J h hS v y;simp only[JO] at d;split at d
  ·rename_i x1 r1 f1 g1 ai;split at d
   ·rename_i x2 r2 f2 g2 aj;cases d;rw[Qaq] at hS v y;obtain⟨X,Y,au,rfl,ak,al,aa,an⟩:=ag (rem:=g2++rem) ai J (λk hk=>h k (Qah _ hk)) hS v y;obtain⟨v3,v4,ao,rfl,a7,aq,a6,ar⟩:=ah (rem:=rem) aj ak (λk hk=>h k (Qan _ hk)) {hS with own:=λk hk=>hS.own k (Qan _ hk)} (List.nodup_append.1 v).2.1 al;refine ⟨X++v3,v4,ao,by simp,a7,?_,aa.trans a6,?_⟩
    ·simp only[IJ];exact aq
    ·simp only[IJ];exact (an.mono λc _=>Ce (Keeps.refl _ _) a6 c).append ar
   ·cases d
  ·cases d
end
end Go.Den
namespace Go.Den
open Go.RowKit
section
variable {C:Ctx} {B:Base} {R:RO} {st:St} {μ:AI} {O:Nat->Prop} {w:World} {a:Act}
theorem eM {F n0 w' t l v G} (p:RelM B R st μ F w') (y:¬B.D st.next) (hF:∀b,F b->b<n0) (g:B.base<=n0) (h:BV n0 w' F G t l v) e
 (hrel:Keeps w O w' λc=>F c\/G=some c) (d:∀k o',st.obj R k=some o'->RelO w' (λc=>F c\/G=some c) μ k o') :
 ∃μ',RelM B R {env:=e,heap:=(st.next,.arr t l)::dropKey st.next st.heap,next:=st.next+1} μ' (λc=>F c\/G=some c) w'/\μle μ μ'/\AQ w' (λc=>F c\/G=some c) μ' (.ref st.next) v/\∀k q,μ' k=some q->μ k=some q\/k<st.next+1/\∃o',({env:=e,heap:=(st.next,.arr t l)::dropKey st.next st.heap,next:=st.next+1}:St).obj R k=some o':=by
 obtain⟨ad,cap,E,I,J,X⟩:=h;have Y:(Place.arr ad l.length cap t.size).block=G:=by
  rcases X with ⟨o,hg⟩|⟨b,vs,el,o,hg,Z,_⟩
  ·subst o;subst hg;cases ad<;>simp[Place.block]
  ·subst hg;subst Z;simp[Place.block,o]
 subst Y;obtain⟨μ',h1,h2,h3,h4⟩:=p.adopt y (.arr ad l.length cap t.size) (.arr t l) (λb hb=>by
  grind)
  (λμ' a1 hn=>⟨ad,cap,hn,I,J,by grind⟩) d e;exact ⟨μ',h1,h2,⟨_,_,_,_,h3,E⟩,h4⟩
theorem eN {w' ks rd O1 sr y rs e} (hM:RelM B R st μ O w) (hD:¬B.D st.next) (a6:RelM B R (st.frz R ks) μ O1 w) (X:RelM B R (st.frz R ks) μ O1 w')
 (Y:Keeps w O w O1) (a8:Keeps w O1 w' O1) (E:∀x u,BW w O μ x u->BW w O1 μ (My (st.obj R) ks x) u)
 (later:∀G:Option Nat,(∀b,G=some b->w.heap.size<=b)->Keeps w O1 w' λc=>O1 c\/G=some c)
 (J:∀G:Option Nat,(∀b,G=some b->w.heap.size<=b)->∀k o',(st.frz R ks).obj R k=some o'->RelO w' (λc=>O1 c\/G=some c) μ k o')
 (h:∀ {t} {l} {v} {G},BV w.heap.size w' O1 G t l v->∀b,G=some b->w.heap.size<=b)
 (p:e=DO st ks rd true sr y) (d:Gd w.heap.size w' O1 true sr y rs):BL B R st e μ O w (Cp rs) w':=by
 unfold DO at p;unfold Gd at d;simp only at p d;split at p
 ·rename_i _ t l _;simp only at d;obtain⟨v,G,Z,I⟩:=d;subst Z;obtain⟨μ',h1,h2,h3,h9⟩:=eM X (by rw[Dx];exact hD) (λb hb=>a6.obound b hb) hM.bsize I (st.frz R ks).env (later G (h I)) (J G (h I));rw[Dx] at h1 h3 h9;subst p;exact BR Y E ⟨h2,later G (h I),h1,h9⟩ λz hz=>by cases hz;exact h3
 ·rename_i _ _ t u r yy;simp only at d;obtain⟨v,a1,G,Z,I,g⟩:=d;subst Z;obtain⟨μ',h1,h2,h3,h9⟩:=eM X (by rw[Dx];exact hD) (λb hb=>a6.obound b hb) hM.bsize I (st.frz R ks).env (later G (h I)) (J G (h I));rw[Dx] at h1 h3 h9;subst p;refine BR Y E ⟨h2,later G (h I),h1,h9⟩ λz hz=>?_;cases hz;have a7:a1.length≠0:=by
   cases r with
   |nil=>obtain⟨us,_,e0⟩:=g;simp_all
   |cons u2 r2=>obtain⟨us,aa,_,e0,_⟩:=g;simp_all
  refine ⟨(v::a1).toArray,?_,by simpa using All2.cons (a:=V1.c (.ref st.next)) h3 (HB (μ:=μ') g)⟩;cases a1 with
  |nil=>simp at a7
  |cons _ _=>rfl
 ·subst p;refine BR Y E ⟨μle.refl _,a8,?_,λ_ _ hk=>.inl hk⟩ (λz hz=>by cases hz);exact X.congr (λk o ek=>by simpa[Bw,St.obj] using ek) (by simp[Dx])
def Hz (own:List Nat) (T:Ty) (off:Nat) (y:T.interp) (s:St):St :=
 {env:=s.env,heap:=Bw (EP own T off y s.next).2.1 s.heap,next:=(EP own T off y s.next).2.2}
theorem dU {h}:∀ {u v},Bw (u++v) h=Bw v (Bw u h):=by
 intro u;induction u generalizing h with
 |nil=>intro v;rfl
 |cons x u c =>intro v;obtain⟨k,o⟩:=x;cases o<;>exact c
theorem AbE {own n0 w' J} (ab:B.base<=n0):∀T {off} {y} {us} {Z} {s} {μ} {d},
 RelM B R s μ d w'->(∀k,s.next<=k->k<s.next+T.size->¬B.D k)->Me (BV n0 w' J) w' J own T off y us Z->Z.Nodup->(∀c∈Z,¬d c/\J c)->(∀c,d c->J c)->(∀k o,s.obj R k=some o->RelO w' J μ k o) ->
 ∃μ',RelM B R (Hz own T off y s) μ' (λc=>d c\/c∈Z) w'/\μle μ μ'/\All2 (AQ w' J μ') (EP own T off y s.next).1 us/\(∀k o,(Hz own T off y s).obj R k=some o->RelO w' J μ' k o) /\
  (∀k q,μ' k=some q->μ k=some q\/k<(Hz own T off y s).next/\∃o,(Hz own T off y s).obj R k=some o)/\(∀k o,s.obj R k=some o->(Hz own T off y s).obj R k=some o)/\s.next<=(Hz own T off y s).next/\(Hz own T off y s).next<=s.next+T.size:=by
 have leaf:∀T {y:T.interp} {us:List Value} {Z:List Nat} {s:St} {μ:AI} {d:Nat->Prop} {s':St},s'=s->RelM B R s μ d w'->Reads w' J T y us/\Z=[]->(∀k o,s.obj R k=some o->RelO w' J μ k o) ->
  ∃μ',RelM B R s' μ' (λc=>d c\/c∈Z) w'/\μle μ μ'/\All2 (AQ w' J μ') (enc T y) us/\(∀k o,s'.obj R k=some o->RelO w' J μ' k o) /\
   (∀k q,μ' k=some q->μ k=some q\/k<s'.next/\∃o,s'.obj R k=some o)/\(∀k o,s.obj R k=some o->s'.obj R k=some o)/\s.next<=s'.next/\s'.next<=s.next+T.size:=λT {y us Z s μ d s'} he hM ⟨g,hG⟩ ho=>by
  subst he;subst hG
  refine ⟨μ,?_,μle.refl _,Fw T g,ho,λk q h=>.inl h,λk o h=>h,Qaa _,Qfj _ _⟩<;>simp_all
 intro T
 induction T with
 |int k=>intro off y us Z s μ d hM _ g _ _ _ ho;exact leaf (.int k) rfl hM g ho
 |bool=>intro off y us Z s μ d hM _ g _ _ _ ho;exact leaf .bool rfl hM g ho
 |unit=>intro off y us Z s μ d hM _ g _ _ _ ho;exact leaf .unit rfl hM g ho
 |slice t _ =>
  intro off y us Z s μ d hM hD g ae hG hO ho;simp only[Me] at g;cases X:own.any (Nat.beq off) with
  |false =>
   rw[X] at g;have e1:EP own (.slice t) off y s.next=([.sl t y],[],s.next):=by simp only[EP,X]
   have e2:Hz own (.slice t) off y s=s:=by unfold Hz;rw[e1];rfl
   rw[e1];exact leaf (.slice t) e2 hM g ho
  |true =>
   rw[X] at g;obtain⟨v,G,rfl,hf,rfl⟩:=g;have e1:EP own (.slice t) off y s.next=([.ref s.next],[(s.next,some (.arr t y))],s.next+1):=by simp only[EP,X]
   obtain⟨ad,cap,ev,hl,hm,g⟩:=hf;have Y:(Place.arr ad y.length cap t.size).block=G:=by
    rcases g with ⟨E,hg⟩|⟨b,vs,el,E,hg,ha,_⟩
    ·subst E;subst hg;cases ad<;>simp[Place.block]
    ·subst hg;subst ha;simp[Place.block,E]
   have af:∀b,G=some b->b∈G.toList:=λb hb=>by grind
   have ag:∀c,d c\/G=some c->J c:=λc E=>E.elim (hO c) λh=>(hG c (af c h)).2;have ah:Keeps w' J w' λc=>d c\/G=some c:=⟨Qaa _,λb _ hb=>⟨λhh=>hb (ag b hh),rfl⟩⟩;have aa:∀μ',μle μ μ'->μ' s.next=some (.arr ad y.length cap t.size)->RelO w' J μ' s.next (.arr t y):=λμ' ai hn=>⟨ad,cap,hn,hl,hm,by
    rcases g with ⟨E,_⟩|⟨b',vs,el,E,hg,ha,h4,h5,h6,h7,h8⟩
    ·exact .inl E
    ·refine .inr ⟨b',vs,el,ha,h6,h7,h8.mono λ_ _=>Av ⟨Qaa _,λb _ hb=>⟨λhh=>hb ?_,rfl⟩⟩ t⟩;exact .inl hh⟩;obtain⟨μ',h1,h2,h3,h4⟩:=hM.adopt (hD _ (Qaa _) (by simp[Ty.size])) (.arr ad y.length cap t.size) (.arr t y) (λb hb=>by
    rw[Y] at hb;refine ⟨(hG b (af b hb)).1,?_⟩;rcases g with ⟨E,hg⟩|⟨b',vs,el,E,hg,ha,h4,h5,_⟩
    ·rw[hg] at hb;cases hb
    ·rw[hg] at hb;cases hb;exact ⟨Qbh ab h4,h5⟩)
    (λμ' ai hn=>Cx (by rw[Y];exact ah) (μle.refl _) _ (λ_ _ _ _=>rfl) (aa μ' ai hn))
    (λk o' I=>Cx (by rw[Y];exact ah) (μle.refl _) o' (λ_ _ _ _=>rfl) (ho k o' I)) s.env;have e2:Hz own (.slice t) off y s={env:=s.env,heap:=(s.next,.arr t y)::dropKey s.next s.heap,next:=s.next+1}:=by unfold Hz;rw[e1];rfl
   rw[e1,e2];have eO:(λc=>d c\/c∈G.toList)=λc=>d c\/(Place.arr ad y.length cap t.size).block=some c:=by funext c;rw[Y];cases G<;>simp[eq_comm]
   have aj:∀k o,s.obj R k=some o->k≠s.next:=λk o I e=>by subst e;obtain⟨p,hp⟩:=(hM.heap _ o I).some;exact (hM.dom _ p hp).elim (Qcm _) (hD _ (Qaa _) (by simp[Ty.size]))
   refine ⟨μ',by rw[eO];exact h1,h2,.cons ⟨ad,y.length,cap,t.size,h3,ev⟩ .nil,λk o I=>?_,h4,λk o I=>?_,Nat.le_succ _,by simp[Ty.size]⟩
   ·rw[Dv] at I;by_cases e:k=s.next
    ·rw[if_pos e] at I;cases I;subst e;exact aa μ' h2 h3
    ·rw[if_neg e] at I;exact Cx (Keeps.refl _ _) h2 o (λ_ _ _ _=>rfl) (ho k o I)
   ·rw[Dv,if_neg (aj k o I)];exact I
 |pair a b ak al =>
  intro off y us Z s μ d hM hD g ae hG hO ho;obtain⟨u1,u2,G1,G2,rfl,rfl,r1,r2⟩:=g;obtain⟨n1,n2,n3⟩:=List.nodup_append.1 ae;simp only[Ty.size] at hD;obtain⟨ao,a1,a2,a3,a4,a5,a6,a7,a8⟩:=ak hM (λk h1 h2=>hD k h1 (by omega)) r1 n1 (λc E=>hG c (Qah _ E)) hO ho;obtain⟨an,b1,b2,b3,b4,b5,b6,b7,b8⟩:=al a1 (λk h1 h2=>hD k (Qbh a7 h1) (by omega)) r2 n2 (λc E=>⟨λhh=>hh.elim (hG c (Qan _ E)).1 λh=>n3 c h c E rfl,(hG c (Qan _ E)).2⟩)
   (λc E=>E.elim (hO c) λh=>(hG c (Qah _ h)).2) a4;have e1:Hz own (.pair a b) off y s=Hz own b (off+a.size) y.2 (Hz own a off y.1 s):=by unfold Hz;simp only[EP,dU]
  have eO:(λc=>d c\/c∈G1++G2)=λc=>(d c\/c∈G1)\/c∈G2:=by funext c;simp only[Qck,or_assoc]
  rw[e1,eO];refine ⟨an,b1,a2.trans b2,?_,b4,λk q I=>?_,λk o I=>b6 k o (a6 k o I),Qbh a7 b7,by simp only[Ty.size];omega⟩
  ·simp only[EP];exact (a3.mono λc _=>Ce (Keeps.refl _ _) b2 c).append b3
  ·rcases b5 k q I with h|h
   ·rcases a5 k q h with h|⟨h,o,h'⟩
    ·exact .inl h
    ·exact .inr ⟨Qac h b7,o,b6 k o h'⟩
   ·exact .inr h
theorem kT {o f vs E out e} (hC:DG C B) (hM:RelM B R st μ O w) (hD:∀k,st.next<=k->k<st.next+16->¬B.D k) (hv:All2 (Cl w O μ) vs E) (Z:(execOp a.eval o).run C.P w=(callFunc f E.toArray).run C.P w)
 (h:Ml C R st f vs=some out) (he:out.run=some e) (a8:JD R e=true):Does C.P o a w (BL B R st e μ O w):=by
  unfold Ml at h;split at h
  ·rename_i ts t own fn aa;have hm:=hC.2.2.2.2.1 f _ aa;split at h
   ·rename_i x ks hx a1;have a1:=Qbe a1;cases h;obtain⟨y,hy,rfl⟩:∃y,fn x=some y/\e=Va st ks own t y:=by
     cases hq:fn x with
     |none=>rw[AOut.run,hq] at he;cases he
     |some y=>rw[AOut.run,hq] at he<;>simp_all
    have ab:(Va st ks own t y).frz=ks:=rfl;obtain⟨O1,I,a6,ad,aj⟩:=Gr hM ks (by rw[<-ab];exact Kd a8) (Gn hx);refine .inr (.inr ⟨f,_,Z.trans (hm.enters _ w),?_⟩);refine (hm.calls w O1 _ x y (hC.2.1 w hM.below) (λb J=>I.obound b J) (Cm a6 hM.heap hx hv ad) hy).mono λe' w' ⟨us,X,ae,d,af,Y⟩=>⟨.agg us,ae,?_⟩;obtain⟨ag,ak⟩:=I.grow d;have a7:∀T {off:Nat} {y:T.interp} {us:List Value} {X:List Nat} {Ft:Nat->Prop},Me (BV w.heap.size w' Ft) w' Ft own T off y us X->∀b∈X,w.heap.size<=b:=by
     intro T;induction T with
     |int k=>intro off y us X Ft h b J;rw[h.2] at J;cases J
     |bool=>intro off y us X Ft h b J;rw[h.2] at J;cases J
     |unit=>intro off y us X Ft h b J;rw[h.2] at J;cases J
     |slice t _ =>
      intro off y us X Ft h b J;simp only[Me] at h;split at h
      ·obtain⟨v,G,_,⟨_,_,_,_,_,hr⟩,rfl⟩:=h<;>grind
      simp_all
     |pair a b al an =>intro off y us X Ft ⟨u1,u2,G1,G2,_,hG,r1,r2⟩ c hc<;>grind
    have a7:=a7 t Y;have g:Keeps w O1 w' λc=>O1 c\/c∈X:=⟨d.size,λb ah hO=>⟨λh=>h.elim hO λh=>by grind,d.block b ah⟩⟩;obtain⟨μ',h1,h2,h3,h4,h5,h6,h7,h8⟩:=AbE hM.bsize t ag (λk k1 k2=>hD k (by rwa [Dx] at k1) (by rw[Dx] at k2;omega)) Y af (λc hc=>⟨λhh=>by have:=I.obound c hh<;>grind,.inr hc⟩) (λc hc=>.inl hc)
     λk o' hk=>Cx g (μle.refl _) o' (λp b hp ai=>d.block b (I.own k o' hk p b hp ai).2.2) (I.heap k o' hk);have e1:Hz own t 0 y (st.frz R ks)={env:=(st.frz R ks).env,heap:=Bw (Va st ks own t y).upd (st.frz R ks).heap,next:=(Va st ks own t y).next}:=by unfold Hz Va;rw[Dx]
    rw[e1] at h1 h5;refine BR a6 (by simp_all) ⟨h2,g,h1,h5⟩ λz hz=>?_;cases hz;refine ⟨us,rfl,?_⟩;rw[Dx] at h3;exact h3
   ·cases h
  ·cases h
theorem vI {cs o t l} (h:zL cs o t=some l):cs[o]?=some (.sl t l):=by
 unfold zL at h;split at h
 ·rename_i t' l' c;obtain⟨d,g⟩:=Ea h<;>simp_all
 ·cases h
theorem Yd {cs}:∀ {los} {x} {i} {c},jW cs los=some x->GV los x i=some c->cs[i]?=some c
 |[],_,_,_,_,h=>by cases h
 |[z],x,i,c,h,d=>by
  simp only[GV] at d;split at d
  ·rename_i e;cases d;rw[<-beq_true e];exact vI h
  ·cases d
 |z::y::r,x,i,c,h,d=>by
  simp only[jW] at h;split at h
  ·rename_i p q g o;cases h;simp only[GV] at d;split at d
   ·rename_i e;cases d;rw[<-beq_true e];exact vI g
   ·exact Yd o d
  ·cases h
theorem OI:∀ {los} {x} {i} {c},GV los x i=some c->∃t l,c=.sl t l
 |[],_,_,_,h=>by cases h
 |[z],x,i,c,h=>by simp only[GV] at h<;>grind
 |z::y::r,x,i,c,h=>by
  simp only[GV] at h;split at h
  ·grind
  ·exact OI h
theorem Sd {α β:Type} {P:α->β->Prop}:∀ {l:List α} {m},All2 P l m->∀(i:Nat) x,l[i]?=some x->∃y,m[i]?=some y/\P x y
 |_,_,.nil,i,x,h=>by simp at h
 |_,_,.cons h1 c,0,x,h=>by simp_all
 |_,_,.cons h1 c,i+1,x,h=>by simpa using Sd c i x (by simpa using h)
theorem Rn {α β P}:∀ {l} {m:List β},l.length=m.length->(∀(i:Nat) (x:α),l[i]?=some x->∃y,m[i]?=some y/\P x y)->All2 P l m
 |[],[],_,_=>.nil
 |[],_::_,h,_=>by cases h
 |_::_,[],h,_=>by cases h
 |a::l,b::m,h,g=>by obtain⟨y,c,d⟩:=g 0 a rfl;cases c;exact .cons d (Rn (by simpa using h) λi x o=>by simpa using g (i+1) x (by simpa using o))
theorem kR {o f vs Y out e} (hC:DG C B) (g:RelM B R st μ O w) (hv:All2 (Cl w O μ) vs Y) (ab:(execOp a.eval o).run C.P w=(callFunc f Y.toArray).run C.P w)
 (h:Mk C R st f vs=some out) (he:out.run=some e):Does C.P o a w (BL B R st e μ O w):=by
  unfold Mk at h;split at h
  ·rename_i size los ts rs fn k rest ak;have hm:=hC.2.2.2.2.2 f _ ak;split at h
   ·rename_i cs hk;split at h
    ·rename_i x xs al hx an;cases h;obtain⟨y,hy,rfl⟩:∃y,fn (Da ts x xs)=some y/\e=II st k [] rs y:=by
      cases hq:fn (Da ts x xs) with
      |none=>rw[AOut.run,hq] at he;cases he
      |some y=>rw[AOut.run,hq] at he<;>simp_all
     cases hv with
     |cons h1 h2 =>
      rename_i v af;obtain⟨b,a1,rfl⟩:AQ w O μ (.ptr k 0) v:=h1;obtain⟨b',cur,el,a8,ag,d⟩:=g.heap k (.box cs) hk;rw[a1] at a8;cases a8;have ah:=d.length;have I:=g.own k _ hk _ b a1 rfl;refine .inr (.inr ⟨f,_,ab.trans (hm.enters _ w),?_⟩);refine (hm.calls B.base w O b el cur af x xs y (λw' hb=>hC.2.1 w' (g.below.trans hb)) I.2.1.1 g.bsize g.obound I.1 ag (by simpa[beq_true al] using ah.symm) (λu hu=>?_) (λi c hi=>?_) (Cm (Keeps.refl w O) g.heap an h2 λj Z=>by cases Z) hy).mono λe' w' ⟨rv,ai,ao,aq,aa,E,ad,ay,ar,az,au⟩=>⟨Cp rv,aq,?_⟩
      ·obtain⟨i,hi⟩:=List.mem_iff_getElem?.1 hu;have av:i<cs.length:=by grind
       obtain⟨u',a6,hr⟩:=Sd d i cs[i] (by simp[av]);rw[hi] at a6;cases a6;exact ⟨VP _ hr,Pg _ hr⟩
      ·obtain⟨u,hu,hr⟩:=Sd d i c (Yd hx hi);obtain⟨t,l,rfl⟩:=OI hi;exact ⟨u,by rwa [Qav] at hu,hr⟩
      ·have X:Keeps w O w' O:=⟨aa.size,λc J hO=>⟨hO,E c J λe=>hO (e▸I.1)⟩⟩;have aj:∀j oj p c,st.obj R j=some oj->j≠k->μ j=some p->p.block=some c->w'.heap[c]?=w.heap[c]?:=λj oj p c Z a7 hp J=>E c (g.own j oj Z p c hp J).2.2 λe=>a7 (by subst e;exact g.inj j k oj _ Z hk p _ c hp a1 J rfl);have aw:= {g with
        heap:=λj oj Z=>by
         by_cases a7:j=k
         ·subst a7;rw[hk] at Z;cases Z;refine ⟨b,ai,ao,a1,ad,Rn (by grind) λi c hi=>?_⟩;obtain⟨u,hu,hr⟩:=Sd d i c hi;cases ae:GV los x i with
          |none=>exact ⟨u,by grind,Ce X (μle.refl _) _ hr⟩
          |some c' =>have:=Yd hx ae;rw[hi] at this;cases this;obtain⟨u',a6,ax⟩:=ar i c ae;obtain⟨t,l,rfl⟩:=OI ae;exact ⟨u',by rw[Qav];exact a6,ax⟩
         ·exact Cx X (μle.refl _) oj (λp c hp J=>aj j oj p c Z a7 hp J) (g.heap j oj Z)
        own:=λj oj Z p c hp J=>by have:=g.own j oj Z p c hp J;exact ⟨this.1,this.2.1,Qac this.2.2 X.1⟩
        flt:=λc J=>(E c (g.obound c (g.foreign c J)) λe=>I.2.1.2 (e▸J)).trans (g.flt c J)
        below:=g.below.trans aa
        bsize:=Qbh g.bsize X.1
        obound:=λc J=>Qac (g.obound c J) X.1};refine BR (Keeps.refl _ _) (λx u hx=>Cn hx g.heap) ⟨μle.refl _,X,?_,λ_ _ hk=>.inl hk⟩ λz hz=>?_
       ·exact aw.congr (λk o ek=>by simpa[II,Bw,St.frz,St.obj] using ek) (by simp[II])
       ·cases hz;exact IZ (HB au)
    ·cases h
   ·cases h
  ·cases h
theorem AeJ {ks k cs} (h:assoc st.heap k=some (.box cs)) (d:k∉ks):∃c,(st.frz R ks).obj R k=some (.box c):=by
 cases ks with
 |nil=>exact ⟨cs,by simp[St.frz,St.obj,h]⟩
 |cons j r =>refine ⟨cs.map (LM (st.obj R) (j::r)),?_⟩;simp only[St.frz,St.obj,F7,d,if_false,h,Qai,X4]
theorem kP {o f vs a6 out e} (hC:DG C B) (J:RelM B R st μ O w) (hv:All2 (Cl w O μ) vs a6) (a7:(execOp a.eval o).run C.P w=(callFunc f a6.toArray).run C.P w)
 (h:I5 C R st f vs=some out) (he:out.run=some e) (ax:JD R e=true):Does C.P o a w (BL B R st e μ O w):=by
  unfold I5 at h;split at h
  ·rename_i t0 a8 rs fn tot k rest af;have hm:=hC.2.2.1 f _ af;split at h
   ·rename_i cs hk ay;split at h
    ·rename_i x f0 xs f1 hd hx;have hy:∃y,fn (Da a8 x xs)=some y/\e=II st k (f0++f1) rs y:=by
      split at h
      ·rename_i g;cases h;simp only[AOut.run,Qaf] at he;exact ⟨_,hm.tot g rfl _,he.symm⟩
      ·cases h;cases hq:fn (Da a8 x xs) with
       |none=>rw[AOut.run,hq] at he;cases he
       |some y=>rw[AOut.run,hq] at he<;>simp_all
     obtain⟨y,hy,ag⟩:=hy;subst ag;have X:∀j∈f0++f1,∃t l,st.obj R j=some (.arr t l):=λj d=>by
      rcases List.mem_append.1 d with d|d
      ·exact GN t0 hd j d
      ·exact Nr hx j d
     cases hv with
     |cons h1 h2 =>
      rename_i v aa;obtain⟨b,Y,rfl⟩:=h1;obtain⟨b',cur,el,I,ab,E⟩:=J.heap k (.box cs) hk;rw[Y] at I;cases I;let F:= λc=>(O c/\c≠b)/\∀j∈f0++f1,∀p,μ j=some p->p.block≠some c;have hK:Keeps w O w F:=⟨Qaa _,λc _ hc=>⟨λhh=>hc hh.1.1,rfl⟩⟩;have ad:∀j∈f0++f1,∀p c,μ j=some p->p.block=some c->¬F c/\c<w.heap.size:=λj d p c hp hc=>by obtain⟨t,l,az⟩:=X j d;exact ⟨λhh=>hh.2 j d p hp hc,(J.own j _ az p c hp hc).2.2⟩
      obtain⟨a1,a2,e1,ah,ai⟩:=Ee hK J.heap t0 hd E λj d=>ad j (Qah _ d);cases ai;rw[Qbd] at e1;subst e1;refine .inr (.inr ⟨f,_,a7.trans (hm.enters _ w),?_⟩);refine (hm.calls w F b el cur aa x xs y (hC.2.1 w J.below) (λc hc=>J.obound c hc.1.1) (λhh=>hh.1.2 rfl) (J.own k _ hk _ b Y rfl).2.2 ab ah (Cm hK J.heap hx h2 λj d=>ad j (Qan _ d)) hy).mono λe' w' ⟨rv,aj,Z,ak⟩=>⟨Cp rv,aj,?_⟩;obtain⟨b0,b1⟩:=J.grow Z;refine BR (Keeps.refl _ _) (λx u hx=>Cn hx J.heap) ⟨μle.refl _,b1,?_,λ_ _ hk=>.inl hk⟩ λz hz=>?_
      ·exact b0.congr (λk o ek=>by simpa[II,Bw,St.frz,St.obj] using ek) (by simp[II])
      ·cases hz;exact IZ (HB (Hb ay ak))
    ·cases h
   ·cases h
  ·rename_i t0 a8 t1 rs fn tot k rest af;have hm:=hC.2.2.1 f _ af;split at h
   ·rename_i cs hk;split at h
    ·rename_i x f0 xs f1 hd hx;have hy:∃y,fn (Da a8 x xs)=some y/\e=Qb st k (f0++f1) t1 rs y:=by
      split at h
      ·rename_i g;cases h;simp only[AOut.run,Qaf] at he;exact ⟨_,hm.tot g rfl _,he.symm⟩
      ·cases h;cases hq:fn (Da a8 x xs) with
       |none=>rw[AOut.run,hq] at he;cases he
       |some y=>rw[AOut.run,hq] at he<;>simp_all
     obtain⟨y,hy,ag⟩:=hy;subst ag;have X:∀j∈f0++f1,∃t l,st.obj R j=some (.arr t l):=λj d=>by
      rcases List.mem_append.1 d with d|d
      ·exact GN t0 hd j d
      ·exact Nr hx j d
     have b2:k∉f0++f1:=λd=>by obtain⟨t,l,hh⟩:=X k d;simp[St.obj,hk] at hh
     obtain⟨O1,al,an,ar,au⟩:=Gr J (f0++f1) (Kd ax) (λj d=>by grind);cases hv with
     |cons h1 h2 =>rename_i v aa;obtain⟨b,Y,rfl⟩:=h1;obtain⟨b',cur,el,I,ab,E⟩:=J.heap k (.box cs) (by simp[St.obj,hk]);rw[Y] at I;cases I;obtain⟨a1,a2,e1,ah,ai⟩:=Ee an J.heap t0 hd E λj d=>ar j (Qah _ d);cases ai;rw[Qbd] at e1;subst e1;obtain⟨ba,av⟩:=AeJ hk b2;have ae:=al.own k _ av _ b Y rfl;refine .inr (.inr ⟨f,_,a7.trans (hm.enters _ w),?_⟩);refine (hm.calls B.base w O1 b el cur aa x xs y (λw' hb=>hC.2.1 w' (J.below.trans hb)) ae.2.1.1 J.bsize (λc hc=>al.obound c hc) ae.1 ab ah (Cm an J.heap hx h2 λj d=>ar j (Qan _ d)) hy).mono λe' w' ⟨rv,aw,b3,aj,Z,ao,aq,b7,ak⟩=>⟨Cp rv,aj,?_⟩;have hW:=al.writeG av Y rfl (.box (enc t1 (HW rs y))) Z.size (λc hc b8=>ao c hc b8) Z (λ_=>⟨b,aw,b3,Y,aq,Fw t1 b7⟩) (st.frz R (f0++f1)).env;rw[Dx] at hW;refine BR an au hW λz hz=>?_;cases hz;exact IZ (HB ak)
    ·cases h
   ·cases h
  ·cases h
theorem Afc {w':World} (Y:RelM B R st μ O w) (hD:¬B.D st.next) {G G':Option Nat} (gone:List (Nat×Option AObj)) {st1:St} (af:st1.heap=Bw gone st.heap) (g:∀j o,st1.obj R j=some o->st.obj R j=some o/\∀p b,μ j=some p->p.block=some b->G≠some b)
 (hG:∀b,G=some b->O b/\B.base<=b/\¬B.F b) (J:Below B.base w w') (aa:∀c,c<w.heap.size->G≠some c->w'.heap[c]?=w.heap[c]?) (ab:∀b,G'=some b->G=some b\/w.heap.size<=b) {t:Ty} {l:List t.interp} {v:Value} (hf:BV B.base w' O G' t l v) (e:Env) :
 ∃μ',Keeps w O w' (λc=>O c\/G'=some c)/\RelM B R {env:=e,heap:=(st.next,.arr t l)::dropKey st.next (Bw gone st.heap),next:=st.next+1} μ' (λc=>O c\/G'=some c) w'/\μle μ μ'/\AQ w' (λc=>O c\/G'=some c) μ' (.ref st.next) v/\∀k q,μ' k=some q->μ k=some q\/k<st.next+1/\∃o',({env:=e,heap:=(st.next,.arr t l)::dropKey st.next (Bw gone st.heap),next:=st.next+1}:St).obj R k=some o':=by
 have hK:Keeps w O w' λc=>O c\/G'=some c:=⟨J.size,λb E hO=>⟨λhh=>hh.elim hO λh=>(ab b h).elim (λh=>hO (hG b h).1) λh=>by omega,aa b E λh=>hO (hG b h).1⟩⟩;obtain⟨ad,cap,ev,hl,hm,hr⟩:=hf;have a8:∀q,μ st.next=some q->False:=λq e=>(Y.dom _ _ e).elim (Qcm _) hD;have a1:(Place.arr ad l.length cap t.size).block=G':=by
  rcases hr with ⟨hc,hg⟩|⟨b,vs,el,hc,hg,ha,_⟩
  ·subst hc;subst hg;cases ad<;>simp[Place.block]
  ·subst hg;subst ha;simp[Place.block,hc]
 generalize hp:Place.arr ad l.length cap t.size=p at a1;have ag:=μle_set (p:=p) a8;have X:μset μ st.next p st.next=some p:=by simp[μset]
 have d:∀k,k≠st.next->μset μ st.next p k=μ k:=λk hk=>by simp[μset,hk]
 have a6:∀k,({env:=e,heap:=(st.next,.arr t l)::dropKey st.next (Bw gone st.heap),next:=st.next+1}:St).obj R k=if k=st.next then some (.arr t l) else st1.obj R k:=λk=>by have h1:=Dv (R:=R) (st:=st1) (k:=st.next) (k':=k) (o:=.arr t l) (n:=st.next+1) (e:=e);rw[af] at h1;exact h1
 have Z:∀k o q b,st1.obj R k=some o->μ k=some q->q.block=some b->w'.heap[b]?=w.heap[b]?/\b<w.heap.size/\G'≠some b:=λk o q b hk I E=>by have h1:=Y.own k o (g k o hk).1 q b I E;have h2:=(g k o hk).2 q b I E;exact ⟨aa b h1.2.2 h2,h1.2.2,λh=>(ab b h).elim h2 λh=>by omega⟩
 refine ⟨μset μ st.next p,hK,{heap:=λk o' e'=>?_,own:=λk o' e' q b I E=>?_,inj:=λk k' o1 o2 e1 e2 q q' b I a7 E ae=>?_,foreign:=λb E=>.inl (Y.foreign b E),flt:=λb E=>(aa b (Y.obound b (Y.foreign b E)) λh=>(hG b h).2.2 E).trans (Y.flt b E),dom:=λk q I=>?_,below:=Y.below.trans J,bsize:=Qbh Y.bsize J.size,obound:=λb E=>E.elim (λh=>Qac (Y.obound b h) J.size) λh=>?_},ag,⟨ad,l.length,cap,t.size,by rw[hp];exact X,ev⟩,λk q I=>?_⟩
 ·rw[a6] at e';by_cases y:k=st.next
  ·rw[if_pos y] at e';cases e';subst y;refine ⟨ad,cap,by rw[hp];exact X,hl,hm,?_⟩;rcases hr with ⟨hc,_⟩|⟨b',vs,el,hc,hg,ha,h4,h5,h6,h7,h8⟩
   ·exact .inl hc
   ·exact .inr ⟨b',vs,el,ha,h6,h7,h8⟩
  ·rw[if_neg y] at e';exact Cx hK ag o' (λq b I E=>(Z k o' q b e' I E).1) (Y.heap k o' (g k o' e').1)
 ·rw[a6] at e';by_cases y:k=st.next
  ·subst y;rw[X] at I;cases I;rw[a1] at E;rcases hr with ⟨_,hg⟩|⟨b',vs,el,hc,hg,ha,h4,h5,_⟩
   ·rw[hg] at E;cases E
   ·rw[hg] at E;cases E;refine ⟨.inr hg,⟨h4,λhF=>?_⟩,h5⟩;have ah:=Y.obound _ (Y.foreign _ hF);exact (ab _ hg).elim (λh=>(hG _ h).2.2 hF) λh=>by omega
  ·rw[if_neg y] at e';rw[d k y] at I;have h1:=Y.own k o' (g k o' e').1 q b I E;exact ⟨.inl h1.1,h1.2.1,Qac h1.2.2 J.size⟩
 ·rw[a6] at e1 e2;by_cases h1:k=st.next<;>by_cases h2:k'=st.next
  ·rw[h1,h2]
  ·exfalso;subst h1;rw[X] at I;cases I;rw[if_neg h2] at e2;rw[d k' h2] at a7;exact (Z k' o2 q' b e2 a7 ae).2.2 (a1▸E)
  ·exfalso;subst h2;rw[X] at a7;cases a7;rw[if_neg h1] at e1;rw[d k h1] at I;exact (Z k o1 q b e1 I E).2.2 (a1▸ae)
  ·rw[if_neg h1] at e1;rw[if_neg h2] at e2;rw[d k h1] at I;rw[d k' h2] at a7;exact Y.inj k k' o1 o2 (g k o1 e1).1 (g k' o2 e2).1 q q' b I a7 E ae
 ·by_cases y:k=st.next
  ·subst y;exact .inl (Qcx _)
  ·rw[d k y] at I;exact (Y.dom k q I).imp Qca id
 ·rcases hr with ⟨_,hg⟩|⟨b',vs,el,hc,hg,ha,h4,h5,_⟩
  ·rw[hg] at h;cases h
  ·rw[hg] at h;cases h;exact h5
 ·by_cases y:k=st.next
  ·subst y;exact .inr ⟨Qcx _,.arr t l,by rw[a6];simp⟩
  ·rw[d k y] at I;exact .inl I
theorem Th {n0 F c G t l v} (d:t.hasSl=false):BV n0 w F G t l v->BV n0 w c G t l v:=λ⟨a,cap,h1,g,h,h4⟩ =>
 ⟨a,cap,h1,g,h,h4.imp id λ⟨b,vs,e,o,g1,p,y,E,I,J,X⟩=>⟨b,vs,e,o,g1,p,y,E,I,J,X.mono λ_ _=>FE t d⟩⟩
theorem kM {o f vs a6 out e} (hC:DG C B) (E:RelM B R st μ O w) (hD:¬B.D st.next) (hv:All2 (Cl w O μ) vs a6) (a7:(execOp a.eval o).run C.P w=(callFunc f a6.toArray).run C.P w)
 (h:H9 C R st f vs=some out) (X:out.run=some e):Does C.P o a w (BL B R st e μ O w):=by
  unfold H9 at h;split at h
  ·rename_i t ts t' rs fr fn tot c rest ak;have hm:=hC.2.2.2.1 f _ ak;split at h
   ·rename_i xs f1 a8 hx;simp only[Qbv] at a8;cases hv with
    |cons h1 h2 =>
     rename_i v aa;have aw:= λj I=>Nr hx j I;let F:= λc=>O c/\∀j∈f1,∀p,μ j=some p->p.block≠some c;have hK:Keeps w O w F:=⟨Qaa _,λc _ Y=>⟨λhh=>Y hh.1,rfl⟩⟩;have ab:∀j∈f1,∀p c,μ j=some p->p.block=some c->¬F c/\c<w.heap.size:=λj I p c J Y=>by obtain⟨t,l,al⟩:=aw j I;exact ⟨λhh=>hh.2 j I p J Y,(E.own j _ al p c J Y).2.2⟩
     have fin:∀l gone rd G y (st1:St),kA B.base w F G t l v->fn (Da ts l xs)=some y->e=JR st gone rd t' rs y->st1.heap=Bw gone st.heap ->
      (∀j o,st1.obj R j=some o->st.obj R j=some o/\∀p b,μ j=some p->p.block=some b->G≠some b)->(∀b,G=some b->O b/\B.base<=b/\¬B.F b)->(∀ae:St,Bw (gone++[(ae.next,some (.arr t' (HW rs y)))]) ae.heap=(ae.next,.arr t' (HW rs y))::dropKey ae.next (Bw gone ae.heap))->Does C.P o a w (BL B R st e μ O w):=λl gone rd G y st1 af hy Z b2 b3 b7 ax=>by
      refine .inr (.inr ⟨f,_,a7.trans (hm.enters _ w),?_⟩)
      refine (hm.calls B.base w F G v l aa xs y (λw' hb=>hC.2.1 w' (E.below.trans hb)) E.bsize (λc Y=>E.obound c Y.1) af (Cm hK E.heap hx h2 ab) hy a8.1 a8.2).mono λe' w' ⟨b8,ba,G',an,ag,bb,bc,bd,bf⟩=>⟨Cp (b8::ba),an,?_⟩
      obtain⟨μ',k1,k2,k3,k4,k5⟩:=Afc E hD gone b2 b3 b7 ag bb bc (Th a8.1 bd) st.env
      subst Z
      refine BR (Keeps.refl _ _) (λx u hx=>Cn hx E.heap) ⟨k3,k1,?_,?_⟩ λz hz=>?_
      ·have:=ax st;simp only[JR,St.frz,this]<;>omega
      ·have:=ax st;simp only[JR,St.frz,this]<;>omega
      ·cases hz;exact IZ (.cons k4 (HB (Hb a8.2 bf)))
     split at h
     ·obtain⟨ad,rfl⟩:=h1;have a1:=λy hy Z=>fin [] [] f1 none y st ⟨ad,0,rfl,Qaa _,Qaw _,.inl ⟨rfl,rfl⟩⟩ hy Z rfl (λj o I=>⟨I,λ_ _ _ _ h=>by cases h⟩) (λb h=>by cases h) λ_=>rfl;split at h
      ·rename_i g;cases h;simp only[AOut.run,Qaf] at X;exact a1 _ (hm.tot g rfl _) X.symm
      ·cases h;cases hq:fn (Da ts ([]:List t.interp) xs) with
       |none=>rw[AOut.run,hq] at X;cases X
       |some y=>rw[AOut.run,hq] at X<;>grind
     ·rename_i k;split at h
      ·rename_i T l0 hk bg ay;split at h
       ·rename_i l Y;obtain⟨e1,e2⟩:=Ea Y;subst e1;have e3:l0=l:=e2.symm;rw[e3] at hk;have d:st.obj R k=some (.arr T l):=by simp[St.obj,hk]
        obtain⟨ad,len,cap,sz,J,rfl⟩:AQ w O μ (.ref k) v:=h1;obtain⟨bh,az,ah,hl,ao,hr⟩:=E.heap k _ d;rw[J] at ah;cases ah;have b0:∀b,(Place.arr ad l.length cap T.size).block=some b->F b:=λb hb=>by refine ⟨(E.own k _ d _ b J hb).1,λj I p aq ar=>(λbj=>by rw[any_beq.2 bj] at ay;cases ay) ?_⟩;obtain⟨tj,lj,bk⟩:=aw j I;rw[E.inj k j _ _ d bk _ p b J aq hb ar];exact I
        have af:kA B.base w F (Place.arr ad l.length cap T.size).block T l (.slice ad l.length cap):=by
         refine ⟨ad,cap,rfl,hl,ao,?_⟩;by_cases ai:cap=0
         ·left;subst ai;refine ⟨rfl,?_⟩;cases ad<;>simp[Place.block]
         ·right;rcases hr with hr|⟨b,vs,el,ea,au,hs,b1⟩
          ·exact absurd hr ai
          ·have av:(Place.arr ad l.length cap T.size).block=some b:=by rw[ea];simp[Place.block,ai]
           exact ⟨b,vs,el,ai,av,ea,b0 b av,(E.own k _ d _ b J av).2.1.1,au,hs,b1.mono λ_ _=>Av hK T⟩
        have a1:=λy hy Z=>fin l [(k,none)] (k::f1) (Place.arr ad l.length cap T.size).block y {env:=st.env,heap:=dropKey k st.heap,next:=st.next} af hy Z rfl (λj o I=>by
         rw[Ym (noKey_iff.2 bg)] at I;split at I
         ·cases I
         ·rename_i bl;exact ⟨I,λp b aq ar hG=>bl (E.inj j k o _ I d p _ b aq J ar hG)⟩)
         (λb hb=>⟨(E.own k _ d _ b J hb).1,(E.own k _ d _ b J hb).2.1⟩) λ_=>rfl;split at h
        ·rename_i g;cases h;simp only[AOut.run,Qaf] at X;exact a1 _ (hm.tot g rfl _) X.symm
        ·cases h;cases hq:fn (Da ts l xs) with
         |none=>rw[AOut.run,hq] at X;cases X
         |some y=>rw[AOut.run,hq] at X;cases X;exact a1 y hq rfl
       ·cases h
      ·cases h
     ·cases h
   ·cases h
  ·rename_i ts fr fn tot k rest ak;have hm:=hC.2.2.2.1 f _ ak;split at h
   ·rename_i T l xs f1 hk hx;split at h
    ·rename_i bm;cases h;obtain⟨y,hy,Z⟩:∃y,fn (Da ts (Aa l) xs)=some y/\e=X0 st k f1 y:=by
      cases hq:fn (Da ts (Aa l) xs) with
      |none=>rw[AOut.run,hq] at X;cases X
      |some y=>rw[AOut.run,hq] at X;cases X;exact ⟨y,rfl,rfl⟩
     subst Z;cases hv with
     |cons h1 h2 =>
      rename_i v aa;obtain⟨us,rfl,bn⟩:∃us,v=.agg us/\All2 (AQ w O μ) [.ref k] us.toList:=h1;obtain⟨us⟩:=us;cases bn with
      |cons g1 g2 =>
      rename_i u bu;cases g2;obtain⟨ad,len,cap,sz,J,rfl⟩:AQ w O μ (.ref k) u:=g1;obtain⟨bh,az,ah,hl,ao,hr⟩:=E.heap k _ hk;rw[J] at ah;cases ah;let F:= λc=>O c/\∀j∈f1,∀p,μ j=some p->p.block≠some c;have ab:∀j∈f1,∀p c,μ j=some p->p.block=some c->¬F c/\c<w.heap.size:=λj I p c J Y=>by obtain⟨t,l,al⟩:=(λj I=>Nr hx j I) j I;exact ⟨λhh=>hh.2 j I p J Y,(E.own j _ al p c J Y).2.2⟩
      have bo:=Cm ⟨Qaa _,λc _ Y=>⟨λhh=>Y hh.1,rfl⟩⟩ E.heap hx h2 ab;refine .inr (.inr ⟨f,_,a7.trans (hm.enters _ w),?_⟩);obtain⟨aj,bp⟩:=hm.calls w F ad l.length cap aa xs y (hC.2.1 w E.below) (λc Y=>E.obound c Y.1) hl ao (hr.imp id λ⟨b,vs,el,ea,_⟩=>⟨b,ea⟩) bo hy;refine bp.mono λe' w' ⟨ag,a',c',an,bq,br⟩=>⟨_,an,?_⟩;obtain⟨bs,bt⟩:=E.grow ag;refine BR (Keeps.refl _ _) (λx u hx=>Cn hx E.heap) ⟨μle.refl _,bt,?_,λ_ _ hk=>.inl hk⟩ λz hz=>?_
      ·exact bs.congr (λk o ek=>by simpa[X0,Bw,St.frz,St.obj] using ek) (by simp[X0])
      ·cases hz;refine ⟨ad,l.length,cap,T.size,a',c',J,aj,rfl,bq,br.imp id λ⟨b,h1,h2⟩=>⟨b,h1,?_⟩⟩;rw[h2,Nat.eq_of_beq_eq_true bm,Qch]
    ·cases h
   ·cases h
  ·cases h
theorem AcQ {n0 F I sp y rs} (c:JX sp=true) (h:Gd n0 w F true sp.res y rs):Gd n0 w I true sp.res y rs:=by
 obtain⟨args,res,fresh,fn,tot⟩:=sp;simp only at y h ⊢;have J:∀ {t:Ty} {l:List t.interp} {v:Value} {G:Option Nat},t.hasSl=false->BV n0 w F G t l v->BV n0 w I G t l v:=λ{t l v G} X ⟨a,cap,h1,Y,Z,h4⟩ =>⟨a,cap,h1,Y,Z,h4.imp id λ⟨b,vs,e,g0,g1,g2,g3,g4,g5,g6,g7⟩=>⟨b,vs,e,g0,g1,g2,g3,g4,g5,g6,g7.mono λ_ _=>FE t X⟩⟩;unfold JX at c;split at c
 ·rename_i t r o d;simp only at o d;subst d;simp only[Qal,Qbv] at c;cases r with
  |nil =>obtain⟨v,G,g,p⟩:=h;exact ⟨v,G,g,J c.1 p⟩
  |cons u r =>obtain⟨v,E,G,g,p,hr⟩:=h;exact ⟨v,E,G,g,J c.1 p,Hb c.2 hr⟩
 ·cases c
theorem Rl {o f vs aa out e} (hC:DG C B) (J:RelM B R st μ O w) (hD:∀k,st.next<=k->k<st.next+16->¬B.D k) (hv:All2 (Cl w O μ) vs aa) (X:(execOp a.eval o).run C.P w=(callFunc f aa.toArray).run C.P w)
 (h:KA C R st f vs=some out) (he:out.run=some e) (ah:JD R e=true):Does C.P o a w (BL B R st e μ O w):=by
  unfold KA at h;have ai:= hD _ (Qaa _) (by omega);split at h
  ·split at h
   ·split at h
    ·split at h
     ·exact kP hC J hv X h he ah
     ·exact kR hC J hv X h he
    ·exact kT hC J hD hv X h he ah
   ·exact kM hC J ai hv X h he
  rename_i sp av;have hm:=hC.1 f sp av;split at h
  ·cases h
  rename_i x ks hx;have hy:∃y,sp.fn x=some y/\e=DO st (match sp.res.any Ty.hasSl&&!JX sp with|true=>ks|false=>[]) ks sp.fresh sp.res y:=by
   simp only at h;split at h
   ·rename_i g hg;cases h;simp only[AOut.run,Qaf] at he;exact ⟨g x,hm.tot g hg x,he.symm⟩
   ·cases h;cases hq:sp.fn x with
    |none=>rw[AOut.run,hq] at he;cases he
    |some y=>rw[AOut.run,hq] at he<;>grind
  obtain⟨y,hy,I⟩:=hy;have a1:=Gn hx;refine .inr (.inr ⟨f,_,X.trans (hm.enters _ w),?_⟩);cases aj:JX sp with
  |true =>
   have a6:sp.fresh=true:=by unfold JX at aj<;>grind
   have I:e=DO st [] ks true sp.res y:=by simp_all
   let F:= λb=>O b/\∀k∈ks,∀p,μ k=some p->p.block≠some b;have ab:∀k∈ks,∀p b,μ k=some p->p.block=some b->¬F b/\b<w.heap.size:=λk Z p b hp Y=>by obtain⟨oo,ak⟩:=a1 k Z;exact ⟨λhh=>hh.2 k Z p hp Y,(J.own k oo ak p b hp Y).2.2⟩
   refine (hm.calls w F _ x y (hC.2.1 w J.below) (λb Y=>J.obound b Y.1) (Cm ⟨Qaa _,λb _ Y=>⟨λhh=>Y hh.1,rfl⟩⟩ J.heap hx hv ab) hy).mono λe' w' ⟨rs,ad,d,E⟩=>⟨Cp rs,ad,?_⟩;obtain⟨a7,a8⟩:=J.grow d;rw[a6] at E;have later:∀G:Option Nat,(∀b,G=some b->w.heap.size<=b)->Keeps w O w' λc=>O c\/G=some c:=λG hG=>Xj d.size (Qaa _) (λb Y=>d.block b Y) hG;have ae:= λG hG k o' Z =>Cx (later G hG) (μle.refl _) o' (λp b hp al=>d.block b (J.own k o' Z p b hp al).2.2) (J.heap k o' Z);have an:∀ {t:Ty} {l:List t.interp} {v:Value} {G:Option Nat},BV w.heap.size w' O G t l v->∀b,G=some b->w.heap.size<=b:=λ{t l v G} hf b Y=>by obtain⟨_,_,_,_,_,hr⟩:=hf<;>simp_all
   exact eN (ks:=[]) J ai J a7 (Keeps.refl _ _) a8 (λx u hx=>Cn hx J.heap) later ae an I (AcQ aj E)
  |false =>
  rw[aj,Qbl,Bool.and_true] at I;cases af:sp.res.any Ty.hasSl with
  |false =>
   rw[af] at I;let F:= λb=>O b/\∀k∈ks,∀p,μ k=some p->p.block≠some b;have ab:∀k∈ks,∀p b,μ k=some p->p.block=some b->¬F b/\b<w.heap.size:=λk Z p b hp Y=>by obtain⟨oo,ak⟩:=a1 k Z;exact ⟨λhh=>hh.2 k Z p hp Y,(J.own k oo ak p b hp Y).2.2⟩
   refine (hm.calls w F _ x y (hC.2.1 w J.below) (λb Y=>J.obound b Y.1) (Cm ⟨Qaa _,λb _ Y=>⟨λhh=>Y hh.1,rfl⟩⟩ J.heap hx hv ab) hy).mono λe' w' ⟨rs,ad,d,E⟩=>⟨Cp rs,ad,?_⟩;obtain⟨a7,a8⟩:=J.grow d;cases a6:sp.fresh with
   |false =>
    rw[a6] at I E;subst I;refine BR (Keeps.refl _ _) (λx u hx=>Cn hx J.heap) ⟨μle.refl _,a8,?_,λ_ _ Z=>.inl Z⟩ λz hz=>?_
    ·exact a7.congr (λk o ek=>by simpa[DO,Bw,St.frz,St.obj] using ek) (by simp[DO])
    ·simp only[DO,Qaf] at hz;subst hz;exact IZ (HB (Hb af E))
   |true =>
    rw[a6] at I E;have ay:∀t l,sp.res≠.slice t::l:=λt l hh=>by rw[hh] at af;simp[Ty.hasSl] at af
    have ar:e={dst:=none,frz:=[],reads:=ks,next:=st.next}:=by rw[I];unfold DO<;>simp_all
    subst ar;refine BR (Keeps.refl _ _) (λx u hx=>Cn hx J.heap) ⟨μle.refl _,a8,?_,λ_ _ Z=>.inl Z⟩ (λz hz=>by cases hz);exact a7.congr (λk o ek=>by simpa[Bw,St.frz,St.obj] using ek) (Qaa _)
  |true =>
   rw[af] at I;have aw:e.frz=ks:=by rw[I];unfold DO<;>grind
   obtain⟨O1,ag,ao,ax,au⟩:=Gr J ks (by rw[<-aw];exact Kd ah) a1;refine (hm.calls w O1 _ x y (hC.2.1 w J.below) (λb Y=>ag.obound b Y) (Cm ao J.heap hx hv ax) hy).mono λe' w' ⟨rs,ad,d,E⟩=>⟨Cp rs,ad,?_⟩;obtain⟨a7,a8⟩:=ag.grow d;have aq:∀x u,BW w O μ x u->BW w O1 μ (My (st.obj R) e.frz x) u:=by simp_all
   have later:∀G:Option Nat,(∀b,G=some b->w.heap.size<=b)->Keeps w O1 w' λc=>O1 c\/G=some c:=λG hG=>Xj d.size (Qaa _) (λb Y=>d.block b Y) hG;have ae:= λG hG k o' Z =>Cx (later G hG) (μle.refl _) o' (λp b hp al=>d.block b (ag.own k o' Z p b hp al).2.2) (ag.heap k o' Z);have an:∀ {t:Ty} {l:List t.interp} {v:Value} {G:Option Nat},BV w.heap.size w' O1 G t l v->∀b,G=some b->w.heap.size<=b:=λ{t l v G} hf b Y=>by obtain⟨_,_,_,_,_,hr⟩:=hf<;>simp_all
   cases a6:sp.fresh with
   |false =>
    rw[a6] at I E;subst I;refine BR ao aq ⟨μle.refl _,a8,?_,λ_ _ Z=>.inl Z⟩ λz hz=>?_
    ·exact a7.congr (λk o ek=>by simpa[DO,Bw,St.obj] using ek) (by simp[DO,Dx])
    ·simp only[DO,Qaf] at hz;subst hz;exact IZ (HB E)
   |true =>rw[a6] at I E;exact eN J ai ag a7 ao a8 au later ae an I E
end
end Go.Den
namespace Go.Den
open Go.RowKit
section
variable {C:Ctx} {P:Program} {B:Base} {R:RO} {st:St} {μ:AI} {O:Nat->Prop} {w:World} {a:Act}
theorem gJ {o t t' s x args ts a8 out e} (hM:RelM B R st μ O w) (hD:¬B.D st.next) (Z:CN R st μ O w a.tmps) (ho:o.op=.call {callee:=.builtin .append,args,argTypes:=ts}) (aa:args.toList=[s,x]) (ab:ts.toList=[t,t']) (J:P.underlying t'=some (.slice a8))
 (h:DD P R st t (opc R st s) (opc R st x)=some out) (c:out.run=some e):Does P o a w (BL B R st e μ O w):=by
  have X:args=#[s,x]:=by grind
  have a6:ts=#[t,t']:=by grind
  subst X;subst a6;have a7:∀v w',(Builtin.append_ #[t,t'] o.type #[a.eval s,a.eval x]).run P w=.ok v w'->(execOp a.eval o).run P w=.ok (.value v) w':=λv w' hv=>by simp[execOp,ho,resolve,invoke,builtin,hv]
  have fin:(∃v w',(Builtin.append_ #[t,t'] o.type #[a.eval s,a.eval x]).run P w=.ok v w'/\BL B R st e μ O w v w')->Does P o a w (BL B R st e μ O w):=λ⟨v,w',h1,h2⟩=>.inl ⟨v,w',a7 v w' h1,h2⟩;unfold DD at h;split at h
  ·rename_i el hu;split at h
   ·cases h
   rename_i inf g;simp only at h;split at h
   ·rename_i hs hx;split at h
    ·rename_i T hT;split at h
     ·rename_i d;cases h;simp only[AOut.run] at c;split at c
      ·rename_i y;simp only[Qab,C5] at y;cases c;refine fin (Se hM hD hu J d (AT Z hs) (xs:=[]) ?_ rfl g y.2 (Qaw _) []);obtain⟨ad,ev⟩:∃ad,a.eval x=.slice ad 0 0:=AT Z hx;exact ⟨ad,0,ev,by simp,.inl rfl⟩
      ·cases c
     ·cases h
    ·cases h
   ·rename_i hs _;split at h
    ·rename_i T xs ks hl;split at h
     ·rename_i d;cases h;simp only[AOut.run] at c;split at c
      ·rename_i y;simp only[Qab,C5] at y;cases c;obtain⟨cells,E,I,hm⟩:=LG hM hl λc' hc=>AT Z hc;exact fin (Se hM hD hu J d (AT Z hs) E I g y.2 hm ks)
      ·cases c
     ·cases h
    ·cases h
   ·rename_i k hs hx;split at h
    ·rename_i T l hk a1;split at h
     ·rename_i d;cases h;simp only[AOut.run] at c;split at c
      ·rename_i y;simp only[Qab,C5] at y;cases c;have p:st.obj R k=some (.arr T l):=by simp[St.obj,hk]
       obtain⟨ad,ev⟩:∃ad,a.eval x=.slice ad 0 0:=AT Z hx;obtain⟨_,_,_,_,ae,af,_⟩:=Z3 (hM.heap k _ p);exact fin (Y8 hM hD hu J d p (noKey_iff.2 a1) (AT Z hs) (xs:=[]) ⟨ad,0,ev,by simp,.inl rfl⟩ rfl g y.2 (by simp;omega) [k])
      ·cases c
     ·cases h
    ·cases h
   ·rename_i k hs _;split at h
    ·rename_i T l T' xs ks hk a1 hl;split at h
     ·rename_i ag hc;split at h
      ·rename_i d;cases h;simp only[AOut.run] at c;split at c
       ·rename_i y;simp only[Qab,C5] at y;cases c;obtain⟨rfl,rfl⟩:=Ea hc;have p:st.obj R k=some (.arr T' l):=by simp[St.obj,hk]
        obtain⟨cells,E,I,hm⟩:=LG hM hl λc' hc=>AT Z hc;have Y:0<inf.bytes:=by have:=y.1;simp only[Qal] at this;have:=beq_false this;omega
        exact fin (Y8 hM hD hu J d p (noKey_iff.2 a1) (AT Z hs) E I g y.2 (pD Y y.2) (k::ks))
       ·cases c
      ·cases h
     ·cases h
    ·cases h
   ·cases h
  ·cases h
theorem TX {t y ty e i z k I} (J:P.underlying t=some (.slice e)) (o:P.underlying y=some (.int I)) (hi:P.info? e=some i) (X:i.zero=some z)
 ad (n:Nat) (h0:0<n) (hs:0<i.size) (Y:(n:Int)<=9223372036854775807) (Z:n*i.bytes<=281474976710656) :
 (Builtin.append_ #[t,y] ty #[.slice ad 0 0,.int k n]).run P w =
   .ok (.slice (some ⟨w.heap.size,0,none⟩) n (grownCap w n 0 e)) (w.drew.alloc (.cells (Builtin.zeroCells z.cells n++Builtin.zeroCells z.cells (grownCap w n 0 e-n)) e)):=by
 have E:n≠0:=by omega
 have hw:IntKind.i64.wrap (n:Int)=n:=by rw[IntKind.wrap_i64];omega
 have c:¬9223372036854775807<(n:Int):=by omega
 have d:¬281474976710656<Builtin.nextslicecap n 0*i.bytes:=by rw[nextslicecap_zero h0];omega
 have g:¬281474976710656<(n:Int)*(i.bytes:Int):=by omega
 have h:¬(n:Int)<0:=by omega
 have v:¬n*i.size=0:=Nat.mul_ne_zero E (by omega)
 have hf:(Builtin.firstCells i.size 0 (.slice ad 0 0)).run P w.drew=.ok #[] w.drew:=by
  cases ad with
  |none=>simp[Builtin.firstCells]
  |some p=>simp[Builtin.firstCells,loadCells,loadCellsFrom]
 simp[Builtin.append_,run_underlying J,run_underlying o,sizeOf,typeInfo,zeroValue,hi,X,asInt,asIntOf,hw,E,h,v,c,d,g,Question.forced,hf,newRow,grownCap]
theorem SC {t d ty e i k g} (h:P.underlying t=some (.slice e)) (c:P.underlying d=some (.int g)) (hi:P.info? e=some i)
 ad:(Builtin.append_ #[t,d] ty #[.slice ad 0 0,.int k 0]).run P w=.ok (.slice ad 0 0) w:=by
 have o:IntKind.i64.wrap (0:Int)=0:=by decide
 cases ad<;>simp[Builtin.append_,run_underlying h,run_underlying c,sizeOf,typeInfo,hi,asInt,asIntOf,o,storeCells]
theorem aY {z} n m:Builtin.zeroCells z n++Builtin.zeroCells z m=Builtin.zeroCells z (n+m):=by
 apply Array.ext
 ·simp[size_zeroCells,Qcd]
 ·intro j h1 c;simp only[Builtin.zeroCells] at h1 c ⊢;rw[Array.getElem_append];split
  ·simp
  ·rename_i h;simp only[Array.size_map,Array.size_range] at h;simp only[Array.getElem_map,Array.getElem_range,Array.size_map,Array.size_range];congr 1;rw[Nat.mul_comm n z.size] at h ⊢;exact Nat.sub_mul_mod (by omega)
theorem bM (hM:RelM B R st μ O w) (hD:¬B.D st.next) (hE:CN R st μ O w a.tmps) {o:Oper} {t t':TypeId} {s x:Operand} {args:Array Operand} {ts:Array TypeId} (ho:o.op=.call {callee:=.builtin .append,args,argTypes:=ts}) (ay:args.toList=[s,x]) (bd:ts.toList=[t,t']) {kn:IntKind} (a1:P.underlying t'=some (.int kn))
 {out:AOut} {e:Eff} (h:D9 P R st t (opc R st s) (opc R st x)=some out) (he:out.run=some e):Does P o a w (BL B R st e μ O w):=by
 have aa:args=#[s,x]:=by grind
 have an:ts=#[t,t']:=by grind
 subst aa;subst an;have ah:∀v w',(Builtin.append_ #[t,t'] o.type #[a.eval s,a.eval x]).run P w=.ok v w'->(execOp a.eval o).run P w=.ok (.value v) w':=λv w' hv=>by simp[execOp,ho,resolve,invoke,builtin,hv]
 unfold D9 at h;split at h
 ·rename_i el hu;split at h
  ·rename_i inf T c hT;split at h
   ·rename_i n ab hs hx;cases h;simp only[AOut.run] at he;split at he
    ·rename_i hc;cases he;simp only[C5,Qab] at hc;have h0:0<=n:=of_decide_eq_true hc.1;have h1:n*(inf.bytes:Int)<=2 ^ 46:=of_decide_eq_true hc.2;obtain⟨i,z,hi,hz,az,ao,a6⟩:=Gq ab;rw[c] at hi;cases hi;obtain⟨ad,aq⟩:∃ad,a.eval s=.slice ad 0 0:=AT hE hs;have E:AQ w O μ (.int .i64 n) (a.eval x):=AT hE hx;have ar:n<=9223372036854775807:=(inR_iff.1 E.2).2;obtain⟨m,rfl⟩:∃m:Nat,n=(m:Int):=⟨n.toNat,by omega⟩;have y:z.cells.size=T.size:=by rw[<-Qat,AW T (a6 w O)]
     have b0:m*inf.bytes<=281474976710656:=by omega
     by_cases ae:m=0
     ·subst ae;obtain⟨μ',X,hn⟩:=hM.bare hD (.arr ad 0 0 T.size) (.arr T (Ay 0 (Dp T))) (by cases ad<;>simp[Place.block]) (λμ' _ hn=>⟨ad,0,by simpa[Ay] using hn,by simp[Ay],Qaw _,.inl rfl⟩) st.env;exact .inl ⟨_,w,ah _ _ (by rw[aq,E.1];exact SC hu a1 c ad),BR (Keeps.refl _ _) (λx u hx=>Cn hx hM.heap) X λx hx=>by cases hx;exact ⟨_,_,_,_,hn,rfl⟩⟩
     ·refine .inl ⟨_,_,ah _ _ (by rw[aq,E.1];exact TX (P:=P) (w:=w) (ty:=o.type) (k:=.i64) hu a1 c hz ad m (by omega) (by omega) (by omega) b0),?_⟩;obtain⟨b1,b2⟩:=Ta hM;have bf:=grownCap_ge w m 0 el;have J:Builtin.zeroCells z.cells m++Builtin.zeroCells z.cells (grownCap w m 0 el-m)=Builtin.zeroCells z.cells (grownCap w m 0 el):=by rw[aY]<;>simp_all
      have d:(Ay (m:Int) (Dp T)).length=m:=by simp[Ay]
      obtain⟨μ',O',X,hn⟩:=b1.alloc hD (.cells (Builtin.zeroCells z.cells m++Builtin.zeroCells z.cells (grownCap w m 0 el-m)) el)
       (.arr (some ⟨w.heap.size,0,none⟩) (Ay (m:Int) (Dp T)).length (grownCap w m 0 el) T.size) (.arr T (Ay (m:Int) (Dp T))) (by have:w.drew.heap.size=w.heap.size:=rfl;simp only[Place.block,this]<;>grind)
       (λO' μ' b3 bg ak=>Mn (w:=w.drew) (T:=T) (l:=Ay (m:Int) (Dp T)) (by
         rw[d];rw[J];have Y:=Ra (Rd:=Reads w.drew O T) (x:=Dp T) (z:=z.cells) (a6 w.drew O) (by omega) m (grownCap w m 0 el-m);rw[y,show m+(grownCap w m 0 el-m)=grownCap w m 0 el by omega] at Y;have al:(Builtin.zeroCells z.cells (grownCap w m 0 el)).toList=(List.range (grownCap w m 0 el*T.size)).map λi=>z.cells[i%z.cells.size]!:=by simp[Builtin.zeroCells,y]
         rw[al,y];exact Y) (by omega) (grownCap_le_maxLen w m 0 el (by simp only[maxLen];omega)) (by rw[J,size_zeroCells,y]) b3 (by simpa using ak)) st.env;exact BR (Keeps.refl _ _) (λx u hx=>Cn hx hM.heap) ⟨X.le,b2.trans X.keeps,X.mem,X.new⟩ λx hx=>by cases hx;exact ⟨_,_,_,_,hn,by rw[d]⟩
    ·cases he
   ·rename_i k n ab hs hx;split at h
    ·rename_i Z l0 hk b7;split at h
     ·rename_i l hc;cases h;obtain⟨e1,e2⟩:=Ea hc;subst e1;have e3:l0=l:=e2.symm;rw[e3] at hk;simp only[AOut.run] at he;split at he
      ·rename_i af;cases he;simp only[C5,Qab] at af;have h0:0<=n:=of_decide_eq_true af.1;have ag:0<inf.bytes:=by have:=af.2.1;simp only[Qal] at this;have:=beq_false this<;>omega
       obtain⟨i,z,hi,hz,az,ao,a6⟩:=Gq ab;rw[c] at hi;cases hi;have E:AQ w O μ (.int .i64 n) (a.eval x):=AT hE hx;have ar:n<=9223372036854775807:=(inR_iff.1 E.2).2;obtain⟨m,rfl⟩:∃m:Nat,n=(m:Int):=⟨n.toNat,by omega⟩;have y:z.cells.size=Z.size:=by rw[<-Qat,AW Z (a6 w O)]
       have d:(Ay (m:Int) (Dp Z)).length=m:=by simp[Ay]
       have I:AA (Jv (Aa l) (Aa (Ay (m:Int) (Dp Z)))) inf.bytes=true:=by
        have:Aa (Ay (m:Int) (Dp Z))=(m:Int):=by unfold Aa;rw[d]
        rw[this];exact af.2.2
       have b8:=pD ag I;rw[d] at b8;have ai:=RT I;rw[d] at ai;have bh:m*inf.bytes<=140737488355328:=Qbh (Qco _ (Nat.le_add_left _ _)) ai;have au:st.obj R k=some (.arr Z l):=by simp[St.obj,hk]
       have av:RowOf (Reads w O Z) (Ay (m:Int) (Dp Z)) (Builtin.zeroCells z.cells m).toList:=by
        have Y:=Ra (Rd:=Reads w O Z) (x:=Dp Z) (z:=z.cells) (a6 w O) (by omega) m 0;rw[y,Qfq] at Y;have al:(Builtin.zeroCells z.cells m).toList=(List.range (m*Z.size)).map λi=>z.cells[i%z.cells.size]!:=by simp[Builtin.zeroCells,y]
        rw[al,y];rw[Qas (by simp)] at Y;exact Y
       have hw:IntKind.i64.wrap (m:Int)=m:=by rw[IntKind.wrap_i64];omega
       have a7:¬(m:Int)<0:=by omega
       have a8:¬281474976710656<(m:Int)*(inf.bytes:Int):=by omega
       have aj:∀w1:World,(if m*inf.size=0 then (pure #[]:Sem (Array Value)) else do pure (Builtin.zeroCells (<-zeroValue el).cells m)).run P w1=.ok (Builtin.zeroCells z.cells m) w1:=λw1=>by
        by_cases ae:m*inf.size=0
        ·have:m=0:=by rcases Nat.mul_eq_zero.1 ae with h|h<;>omega
         subst this;simp[Builtin.zeroCells]
        ·simp[ae,zeroValue,typeInfo,c,hz]
       refine .inl ?_;have ba:=W6 (P:=P) (ty:=o.type) (t:=t) (t':=t') hM hD ab au (noKey_iff.2 b7) (AT hE hs) (x:=a.eval x) (xs:=Ay (m:Int) (Dp Z)) (news:=(Builtin.zeroCells z.cells m).toList) av c I (by omega) [k] ?_ ?_
       ·grind
       ·intro z' aw base sLen sCap olds bb g1 g2 g3;rw[hz] at aw;cases aw;rw[d] at g1 g2 g3 ⊢;have bc:=growslice_fits (bytes:=inf.bytes) g1 g3;have ak:¬sLen+m<=sCap:=by omega
        have ax:¬Builtin.nextslicecap (sLen+m) sCap*inf.bytes>2 ^ 48:=by omega
        have g:=aj w.drew;rw[E.1];simp[Builtin.append_,run_underlying hu,run_underlying a1,sizeOf,typeInfo,zeroValue,c,hz,asInt,asIntOf,hw,a7,a8,ak,ax,Question.forced,bb.first (P:=P) w.drew λp=>by simp,newRow,grownCap] at g ⊢;rw[if_neg (by simp only[maxLen] at g2;omega)];simp;intro h0;rw[g h0];simp
       ·intro base sLen sCap w' g1 g2;rw[d] at g1 ⊢;have g:=aj w;rw[E.1];cases base with
        |none =>simp at g2;subst g2;simp[Builtin.append_,run_underlying hu,run_underlying a1,sizeOf,typeInfo,zeroValue,c,hz,asInt,asIntOf,hw,a7,a8,g1] at g ⊢
        |some p =>simp only at g2;simp[Builtin.append_,run_underlying hu,run_underlying a1,sizeOf,typeInfo,zeroValue,c,hz,asInt,asIntOf,hw,a7,a8,g1] at g ⊢;simp[g2];intro h0;rw[g h0] at g2;simp[g2]
      ·cases he
     ·cases h
    ·cases h
   ·cases h
  ·cases h
 ·cases h
theorem FF {t el inf ad len cap lo hi l h} (p:P.underlying t=some (.slice el)) (c:P.info? el=some inf)
 (g:match lo with|none=>l=0|some v=>∃k i,v=.int k i/\0<=i/\l=i.toNat) (o:match hi with|none=>h=len|some v=>∃k i,v=.int k i/\0<=i/\h=i.toNat) (y:l<=h) (E:h<=cap) :
 (Instr.sliceAt t (.slice ad len cap) lo hi none).run P w=.ok (.slice (if cap=l then ad else ad.map (·.add (l*inf.size))) (h-l) (cap-l)) w:=by
 have h1:(match hi with|some v=>Instr.sliceBound v cap .sliceAcap|none=>pure len:Sem Nat).run P w=.ok h w:=by
  cases hi with
  |none=>simp_all
  |some v =>
   obtain⟨k,i,rfl,h0,rfl⟩:=o;have:i<=(cap:Int):=by omega
   simp[Instr.sliceBound,asIntOf,h0,this]
 have d:(match lo with|some v=>Instr.sliceBound v h .sliceB|none=>pure 0:Sem Nat).run P w=.ok l w:=by
  cases lo with
  |none=>simp_all
  |some v =>
   obtain⟨k,i,rfl,h0,rfl⟩:=g;have:i<=(h:Int):=by omega
   simp[Instr.sliceBound,asIntOf,h0,this]
 simp only[Instr.sliceAt,Sem.run_bind,run_underlying p,Result.andThen_ok,Instr.slice,Instr.sliceBounds,Sem.run_pure];cases hi with
 |none =>
  simp only[Sem.run_pure] at h1 ⊢;cases h1;cases lo with
  |none=>simp only[Sem.run_pure] at d ⊢;cases d;simp[sizeOf,typeInfo,c]
  |some v=>simp at d ⊢;rw[d];simp[sizeOf,typeInfo,c]
 |some v =>
  simp at h1 ⊢;rw[h1];cases lo with
  |none=>simp only[Sem.run_pure] at d ⊢;cases d;simp[sizeOf,typeInfo,c]
  |some v=>simp at d ⊢;rw[d];simp[sizeOf,typeInfo,c]
theorem tF {T xs v l h} (y:AQ w O μ (.sl T xs) v) (E:l<=h) (I:h<=xs.length) :
 ∃ad cap,v=.slice ad xs.length cap/\xs.length<=cap/\AQ w O μ (.sl T ((xs.take h).drop l)) (.slice (if cap=l then ad else ad.map (·.add (l*T.size))) (h-l) (cap-l)):=by
 obtain⟨ad,cap,p,t,hm,o⟩:=y;simp only[Qdo,and_true] at p;refine ⟨ad,cap,p,t,?_⟩;have J:= t;have c:((xs.take h).drop l).length=h-l:=by simp;omega
 refine ⟨_,cap-l,by rw[c],by rw[c];omega,by omega,?_⟩;by_cases h0:h-l=0
 ·left;rw[c];exact h0
 ·right;rcases o with o|⟨b,off,cells,X,Y,Z,d,g⟩
  ·have:= o;omega
  ·refine ⟨b,off+l*T.size,(cells.take (h*T.size)).drop (l*T.size),?_,Y,Z,KO (IW d _) _,RowOf.drop (λx vs=>AW T) (RowOf.take (λx vs=>AW T) g h) l⟩;rw[if_neg (by omega),X];simp[Addr.add_mid]
end
end Go.Den
