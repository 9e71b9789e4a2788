/- The framework, the program's texts and what is shown of them: part 1. -/
import Derived.WalkKit
import Derived.KernelRfl
import Derived.Orders
import Derived.Still
set_option linter.unusedVariables false
set_option linter.unusedSimpArgs false
set_option maxRecDepth 100000
namespace Go.Sx
inductive Cmp where
 |eql|neq|lss|leq|gtr|geq
def zx4:BinOp->Option Cmp
 |.eql => some .eql|.neq => some .neq|.lss => some .lss|.leq => some .leq|.gtr => some .gtr|.geq => some .geq
 |_ => none
inductive Sh where
 |int (k:IntKind)|bool|str|slc|ptr|val
inductive zAB(I B S N P V:Type) where
 |int (n:I)|bool (b:B)|str (s:S)|slc (p:P) (l c:N)|ptr (p:P)|val (v:V)
inductive MC(V:Type) where
 |makeSlice (t:TypeId) (l c:V)
 |append (ats:Array TypeId) (t:TypeId) (xs:List V)
 |copy (ats:Array TypeId) (t:TypeId) (xs:List V)
 |delete (ats:Array TypeId) (t:TypeId) (xs:List V)
 |clear (ats:Array TypeId) (t:TypeId) (xs:List V)
 |len (ats:Array TypeId) (t:TypeId) (xs:List V)
 |lookup (t:TypeId) (m k:V) (ok:Bool)
 |mapUpdate (t:TypeId) (m k x:V)
 |makeMap (t:TypeId)
 |range (t:TypeId) (x:V)
 |next (it:V) (isString:Bool) (t:TypeId)
 |entry (it:V)
 |extract (x:V) (i:Nat)
 |convert (src dst:TypeId) (x:V)
 |eq (op:BinOp) (t:TypeId) (cx cy:Bool) (x y:V)
 |buildSlice (t:TypeId) (n:Nat) (parts:List (Nat×V))
 |makeInterface (t:TypeId) (x:V)
 |typeAssert (x:V) (t u:TypeId) (ok:Bool)
 |index (t:TypeId) (x i:V)
 |slice (t:TypeId) (x:V) (lo hi mx:Option V)
structure Alg where
 I:Type
 B:Type
 Q:Type
 S:Type
 N:Type
 P:Type
 V:Type
 W:Type
 O:Type
 iLit:Int->I
 iBin:BinOp->IntKind->Bool->I->I->I
 iConv:IntKind->I->I
 iN:N->I
 iLen:S->I
 iAt:S->I->I
 iMin:I->I->I
 iMax:I->I->I
 iIte:B->I->I->I
 bLit:Bool->B
 bCmp:Cmp->I->I->B
 bSCmp:Cmp->S->S->B
 bNilP:P->B
 bNot:B->B
 bAnd:B->B->B
 bOr:B->B->B
 bIte:B->B->B->B
 qLit:Bool->Q
 qCmp:Cmp->I->I->Q
 qSCmp:Cmp->S->S->Q
 qNilP:Bool->P->Q
 qAtom:Bool->B->Q
 qAnd:Q->Q->Q
 qOr:Q->Q->Q
 sLit:ByteArray->S
 sCat:S->S->S
 sSub:S->I->I->S
 sIte:B->S->S->S
 nLit:Nat->N
 nI:I->N
 nSub:N->I->N
 pNil:P
 pAt:N->Nat->P
 pAdd:P->Nat->P
 pIdx:P->I->Nat->P
 pCut:P->N->I->Nat->P
 vInt:IntKind->I->V
 vBool:B->V
 vStr:S->V
 vSlc:P->N->N->V
 vPtr:P->V
 vAgg:List V->V
 vTup:List V->V
 vFn:Nat->List V->V
 vLit:Value->V
 vIte:B->V->V->V
 oTrue:O
 oFail:String->O
 oAnd:O->O->O
 oImp:Q->O->O
 oRange:IntKind->I->O
 oNe0:I->O
 oNonneg:I->O
 oLe:I->I->O
 oLt:I->I->O
 oSome:P->O
 oCat:S->S->O
 oEqV:V->V->O
 oExt:W->W->O
 oKept:List N->W->W->O
 oCell:List N->W->P->Nat->V->O
 oCells:List N->W->P->Nat->V->O
 exI:String->(I->O)->O
 exB:String->(B->O)->O
 exS:String->(S->O)->O
 exN:String->(N->O)->O
 exP:String->(P->O)->O
 exV:String->(V->O)->O
 allExt:List N->List N->W->(W->O)->O
 allNum:W->(N->O)->O
 oFn:Nat->List V->W->(V->W->O)->O
 oFnV:V->List V->W->(V->W->O)->O
 oFnB:V->List V->W->(V->W->O)->O
 oInv:String->V->List V->W->(V->W->O)->O
 oRun:MC V->W->(V->W->O)->O
 oStore:W->P->List V->List N->(W->O)->O
 oOne:V->O
 oNew:W->TypeId->List V->(P->W->O)->O
 oRet:V->W->O
 loop:List (String×Sh)->List (zAB I B S N P V)->W->((List (zAB I B S N P V)->W->O)->List (zAB I B S N P V)->W->O)->O
 join:List (String×Sh)->((List (zAB I B S N P V)->W->O)->O)->(List (zAB I B S N P V)->W->O)->O
variable {A:Alg}
inductive BE(A:Alg) where
 |lit (b:Bool)
 |cmp (op:Cmp) (x y:A.I)
 |scmp (op:Cmp) (x y:A.S)
 |nilp (is:Bool) (p:A.P)
 |atom (is:Bool) (b:A.B)
 |and (x y:BE A)
 |or (x y:BE A)
def zOd:Cmp->Cmp
 |.eql => .neq|.neq => .eql|.lss => .geq|.geq => .lss|.gtr => .leq|.leq => .gtr
def BE.neg:BE A->BE A
 |.lit b => .lit (!b)
 |.cmp op x y => .cmp (zOd op) x y
 |.scmp op x y => .scmp (zOd op) x y
 |.nilp is p => .nilp (!is) p
 |.atom is b => .atom (!is) b
 |.and x y => .or x.neg y.neg
 |.or x y => .and x.neg y.neg
def BE.den:BE A->A.B
 |.lit b => A.bLit b
 |.cmp op x y => A.bCmp op x y
 |.scmp op x y => A.bSCmp op x y
 |.nilp true p => A.bNilP p
 |.nilp false p => A.bNot (A.bNilP p)
 |.atom true b => b
 |.atom false b => A.bNot b
 |.and x y => A.bAnd x.den y.den
 |.or x y => A.bOr x.den y.den
def BE.prop:BE A->A.Q
 |.lit b => A.qLit b
 |.cmp op x y => A.qCmp op x y
 |.scmp op x y => A.qSCmp op x y
 |.nilp is p => A.qNilP is p
 |.atom is b => A.qAtom is b
 |.and x y => A.qAnd x.prop y.prop
 |.or x y => A.qOr x.prop y.prop
def BE.mkAnd:BE A->BE A->BE A
 |.lit true,y => y
 |.lit false,_ => .lit false
 |x,.lit true => x
 |x,y => .and x y
def BE.mkOr:BE A->BE A->BE A
 |.lit false,y => y
 |.lit true,_ => .lit true
 |x,.lit false => x
 |x,y => .or x y
inductive Sc(A:Alg) where
 |int (k:IntKind) (n:A.I)
 |intc (k:IntKind) (n:Int)
 |bool (b:BE A)
 |str (s:A.S)
 |slc (p:A.P) (l c:A.N)
 |ptr (p:A.P)
 |loc (j:Nat) (b:A.N) (off:Nat)
 |fn (f:Nat) (cap:List A.V)
 |val (v:A.V)
def Sc.toV:Sc A->A.V
 |.int k n => A.vInt k n
 |.intc k n => A.vInt k (A.iLit n)
 |.bool b => A.vBool b.den
 |.str s => A.vStr s
 |.slc p l c => A.vSlc p l c
 |.ptr p => A.vPtr p
 |.loc _ b off => A.vPtr (A.pAt b off)
 |.fn f cap => A.vFn f cap
 |.val v => v
inductive SV(A:Alg) where
 |sc (x:Sc A)
 |agg (l:List (Sc A))
def SV.toV:SV A->A.V
 |.sc x => x.toV
 |.agg l => A.vAgg (l.map Sc.toV)
def SV.cells:SV A->List (Sc A)
 |.sc x => [x]
 |.agg l => l
inductive SL(A:Alg) where
 |one (v:SV A)
 |tup (l:List (SV A))
 |undef
def SL.toV:SL A->A.V
 |.one v => v.toV
 |.tup l => A.vTup (l.map SV.toV)
 |.undef => A.vTup []
def zdZ{α:Type}:List (Nat×α)->Nat->Option α
 |[],_ => none
 |(k,v)::r,i => bif Nat.beq k i then some v else zdZ r i
def zvd{α:Type}:List (Nat×α)->Nat->α->List (Nat×α)
 |[],i,x => [(i,x)]
 |(k,v)::r,i,x => bif Nat.beq k i then (k,x)::r else (k,v)::zvd r i x
def zia:List Nat->Nat->Bool
 |[],_ => false
 |k::r,i => bif Nat.beq k i then true else zia r i
structure Blk(A:Alg) where
 num:A.N
 ty:TypeId
 cells:List (Sc A)
abbrev Ent(A:Alg):=SL A×Option (Nat×Bool)
structure St(A:Alg) where
 ov:List (Nat×Option (Ent A))
 bl:List (Nat×Blk A)
 nx:Nat
 anchor:A.W
 ax:Nat
 dirty:List Nat
structure Cfg where
 wrap:List Nat:=[]
 pub:List Nat:=[]
 muts:List Nat:=[]
 names:Array String:=#[]
 orders:List (Nat×List Nat):=[]
 joins:List (Nat×List Nat):=[]
 N:Nat
structure Ro(A:Alg) where
 sl:List (Nat×SL A)
 bl:List (Nat×Blk A)
def Ro.get(ro:Ro A)(st:St A)(i:Nat):Option (Ent A) :=
 match zdZ st.ov i with
 |some e => e
 |none => (zdZ ro.sl i).map fun v => (v,none)
def Ro.blk(ro:Ro A)(st:St A)(j:Nat):Option (Blk A) :=
 match zdZ st.bl j with
 |some b => some b
 |none => zdZ ro.bl j
def Ro.dn(ro:Ro A)(st:St A):List A.N :=
 st.dirty.filterMap fun j=>(ro.blk st j).map (·.num)
def Ro.nums(ro:Ro A)(st:St A):List A.N :=
 (List.range st.nx).filterMap fun j=>(ro.blk st j).map (·.num)
def shOf(P:Program)(t:TypeId):Sh :=
 match P.underlying t with
 |some (.int k) => .int k
 |some .bool => .bool
 |some .string => .str
 |some (.slice _) => .slc
 |some (.pointer _) => .ptr
 |_ => .val
def zdu(P:Program)(t:TypeId):Bool :=
 match P.underlying t with
 |some (.struct _)|some (.array _ _) => true
 |_ => false
def zxU(P:Program):Nat->TypeId->List Sh
 |0,_ => []
 |d+1,t =>
  match P.underlying t with
  |some (.struct fs) => fs.toList.flatMap fun f => zxU P d f.type
  |some (.array n e) => (List.replicate n (zxU P d e)).flatten
  |_ => [shOf P t]
def ofValue:Value->Sc A
 |.int k n => .intc k n
 |.bool b => .bool (.lit b)
 |.string s => .str (A.sLit s)
 |.slice none 0 0 => .slc A.pNil (A.nLit 0) (A.nLit 0)
 |.pointer none => .ptr A.pNil
 |v => .val (A.vLit v)
def zkE:Value->SV A
 |.agg cs => .agg (cs.toList.map ofValue)
 |v => .sc (ofValue v)
def zpb(P:Program)(t:TypeId):Option (SV A) :=
 match (P.info? t).bind (·.zero) with
 |some z => some (zkE z)
 |none => none
def Sc.asI:Sc A->Option (IntKind×A.I)
 |.int k n => some (k,n)
 |.intc k n => some (k,A.iLit n)
 |_ => none
def kEq:IntKind->IntKind->Bool
 |.i8,.i8|.i16,.i16|.i32,.i32|.i64,.i64|.u8,.u8|.u16,.u16|.u32,.u32|.u64,.u64 => true
 |_,_ => false
def zoR:List A.O->A.O->A.O
 |[],k => k
 |o::r,k => A.oAnd o (zoR r k)
def zpY(ro:Ro A)(st:St A)(ok:Option (Nat×Bool)->Bool):Operand->Option (SL A)
 |.const v => some (.one (zkE v))
 |.func f => some (.one (.sc (.fn f [])))
 |.global g => some (.one (.sc (.ptr (A.pAt (A.nLit g) 0))))
 |.tmp t =>
  match ro.get st t with
  |some (v,key) => bif ok key then some v else none
  |none => none
def one?:Option (SL A)->Option (SV A)
 |some (.one v) => some v
 |_ => none
def sc?:Option (SL A)->Option (Sc A)
 |some (.one (.sc x)) => some x
 |_ => none
def zuP:Sc A->List A.O
 | .intc _ n => bif n == 0 then [A.oFail "zero"] else []
 |.int _ n => [A.oNe0 n]
 | _ => [A.oFail "zero"]
def zFZ:Sc A->List A.O
 | .intc _ n => bif decide (n < 0) then [A.oFail "negative"] else []
 |.int _ n => [A.oNonneg n]
 | _ => [A.oFail "negative"]
def zKD(op:Cmp)(x y:Int):Bool :=
 match op with
 |.eql => decide (x=y)|.neq => !decide (x=y)|.lss => decide (x<y)|.leq => decide (x<=y)|.gtr => decide (y<x)|.geq => decide (y<=x)
def zoS(w:Bool)(op:BinOp)(k:IntKind)(x y:A.I)(sy:Sc A):Option (List A.O×Sc A) :=
 match zx4 op with
 |some c => some ([],.bool (.cmp c x y))
 |none =>
  match op with
  |.add|.sub|.mul => some (bif w then [] else [A.oRange k (A.iBin op k false x y)],.int k (A.iBin op k w x y))
  |.and|.or|.xor|.andNot => some ([],.int k (A.iBin op k true x y))
  |.quo => some (zuP sy++(bif w then [] else [A.oRange k (A.iBin op k false x y)]),.int k (A.iBin op k w x y))
  |.rem => some (zuP sy,.int k (A.iBin op k true x y))
  |_ => none
def beEq(eq:Bool)(x y:BE A):BE A :=
 match x,y with
 |.lit b,y => bif b==eq then y else y.neg
 |x,.lit b => bif b==eq then x else x.neg
 |x,y => bif eq then .or (.and x y) (.and x.neg y.neg) else .or (.and x y.neg) (.and x.neg y)
def zMy:List (Sc A)->List (Sc A)->Option (BE A)
 |[],[] => some (.lit true)
 |x::r,y::s =>
  let h:Option (BE A):=match x,y with
   |.bool a,.bool b => some (beEq true a b)
   |.str a,.str b => some (.scmp .eql a b)
   |x,y => match x.asI,y.asI with
    |some (k,a),some (k',b) => bif kEq k k' then some (.cmp .eql a b) else none
    |_,_ => none
  match h,zMy r s with
  |some a,some b => some (a.mkAnd b)
  |_,_ => none
 |_,_ => none
def zhj:BinOp->Bool
 |.shl|.shr => true
 |_ => false
def zry(op:BinOp)(x y:Sc A):Option (List A.O×Sc A) :=
 match x.asI with
 |some (k,a) => match y.asI with
  |some (_,b) => some (zFZ y,.int k (A.iBin op k true a b))
  |none => none
 |none => none
def zAW(op:BinOp)(a b:BE A):Option (List A.O×Sc A) :=
 match op with
 |.eql => some ([],.bool (beEq true a b))
 |.neq => some ([],.bool (beEq false a b))
 |_ => none
def zJ2(op:BinOp)(a b:A.S):Option (List A.O×Sc A) :=
 match zx4 op with
 |some c => some ([],.bool (.scmp c a b))
 |none => match op with
  |.add => some ([A.oCat a b],.str (A.sCat a b))
  |_ => none
def zJe(w:Bool)(op:BinOp)(k:IntKind)(a b:Int):Option (List A.O×Sc A) :=
 match zx4 op with
 |some c => some ([],.bool (.lit (zKD c a b)))
 |none => zoS w op k (A.iLit a) (A.iLit b) (.intc k b)
def zzo(w:Bool)(op:BinOp)(x y:Sc A):Option (List A.O×Sc A) :=
 match x.asI with
 |some (k,a) => match y.asI with
  |some (k',b) => bif kEq k k' then zoS w op k a b y else none
  |none => none
 |none => none
def zv7(w:Bool)(op:BinOp)(x y:Sc A):Option (List A.O×Sc A) :=
 bif zhj op then zry op x y else
 match x with
 |.bool a => match y with|.bool b => zAW op a b|_ => none
 |.str a => match y with|.str b => zJ2 op a b|_ => none
 |.intc k a => match y with|.intc k' b => (bif kEq k k' then zJe w op k a b else none)|y => zzo w op (.intc k a) y
 |x => zzo w op x y
def zuy:Sc A->Bool
 |.bool _ => true
 |_ => false
def zzp(P:Program)(t:TypeId):Bool :=
 match P.underlying t with
 |some .bool => true
 |_ => false
def zFG:Operand->Bool
 |.const (.slice none 0 0) => true
 |.const (.pointer none) => true
 |_ => false
def zcs:Sc A->Bool
 |.loc .. => false
 |_ => true
def za3(v:SV A):Bool:=v.cells.all zcs
def zo3:List (Sc A)->List A.O
 |[] => []
 |.val v::r => A.oOne v::zo3 r
 |_::r => zo3 r
def zDe(P:Program)(op:BinOp)(t:TypeId)(x:Sc A):Option (List A.O×Sc A) :=
 match op,x,P.underlying t with
 |.eql,.slc p _ _,some (.slice _) => some ([],.bool (.nilp true p))
 |.neq,.slc p _ _,some (.slice _) => some ([],.bool (.nilp false p))
 |.eql,.ptr p,some (.pointer _) => some ([],.bool (.nilp true p))
 |.neq,.ptr p,some (.pointer _) => some ([],.bool (.nilp false p))
 |_,_,_ => none
def zeo{α:Type}:Nat->List α->List α
 |0,_ => []
 |n+1,x::r => x::zeo n r
 |_+1,[] => []
def zbR{α:Type}:Nat->List α->List α
 |0,l => l
 |n+1,_::r => zbR n r
 |_+1,[] => []
def zkB:Operand->Bool
 |.const (.slice none 0 0) => true
 |_ => false
def zaE{α:Type}:List α->Nat->List α->List α
 |l,_,[] => l
 |l,i,x::r => zaE (l.set i x) (i+1) r
def zhi(P:Program)(t:TypeId)(f:Nat):Option (Nat×TypeId) :=
 match P.underlying t with
 |some (.struct fs) => match fs[f]? with
  |some x => some (x.offset,x.type)
  |none => none
 |_ => none
def zj8(P:Program)(t:TypeId)(cs:List (Sc A))(off:Nat):Option (SV A) :=
 match P.underlying t with
 |none => none
 |some _ =>
  bif zdu P t then some (.agg (zeo (P.cellsOf t) (zbR off cs)))
  else match zbR off cs with
   |x::_ => some (.sc x)
   |[] => none
def zec(place:Nat->Option (Nat×Nat)):List (Sc A)->List (Nat×SV A)->Option (List (Sc A))
 |cs,[] => some cs
 |cs,(i,v)::r =>
  match place i with
  |some (off,size) => bif Nat.beq v.cells.length size&&Nat.ble (off+size) cs.length then zec place (zaE cs off v.cells) r else none
  |none => none
def zqk(P:Program)(t:TypeId)(parts:List (Nat×SV A)):Option (SV A) :=
 match (zpb P t:Option (SV A)) with
 |some (.agg z) =>
  match P.underlying t with
  |some (.struct fs) => bif !(fs.toList.all fun f => (P.info? f.type).isSome) then none else (zec (fun i => (zhi P t i).map fun x => (x.1,P.cellsOf x.2)) z parts).map .agg
  |some (.array _ e) => bif !(P.info? e).isSome then none else (zec (fun i => some (i*P.cellsOf e,P.cellsOf e)) z parts).map .agg
  |_ => none
 |_ => none
def zlU(rd:Operand->Option (SL A)):List (Nat×Operand)->Option (List (Nat×SV A))
 |[] => some []
 |(i,x)::r =>
  match one? (rd x),zlU rd r with
  |some v,some l => some ((i,v)::l)
  |_,_ => none
def zol(rd:Operand->Option (SL A)):List Operand->Option (List (SV A))
 |[] => some []
 |x::r =>
  match one? (rd x),zol rd r with
  |some v,some l => some (v::l)
  |_,_ => none
def zjV(f:A.I->A.I->A.I)(k:IntKind):A.I->List (SV A)->Option (Sc A)
 |a,[] => some (.int k a)
 |a,.sc x::r =>
  match x.asI with
  |some (k',b) => bif kEq k k' then zjV f k (f a b) r else none
  |none => none
 |_,.agg _::_ => none
def znZ(x:Sc A)(y:Operand):Bool :=
 match x with
 |.slc .. => zFG y&&zkB y
 |.ptr .. => zFG y&&!zkB y
 |_ => false
def zf7(rd:Operand->Option (SL A))(x:Option Operand)(dflt:A.I):Option A.I :=
 match x with
 |none => some dflt
 |some y => (sc? (rd y)).bind fun a => a.asI.map (·.2)
def wrapAt(cfg:Cfg)(o:Oper):Bool :=
 match o.dst with
 |some d => zia cfg.wrap d
 |none => false
def zqS(r:Option (List A.O×Sc A)):Option (List A.O×SL A) :=
 match r with
 |some (os,x) => some (os,.one (.sc x))
 |none => none
def zca(P:Program)(cfg:Cfg)(ro:Ro A)(st:St A)(rd:Operand->Option (SL A))(o:Oper):Option (List A.O×SL A) :=
 let w:=wrapAt cfg o
 let ret (x:Sc A):Option (List A.O×SL A):=some ([],.one (.sc x))
 match o.op with
 |.move x|.assign x => match rd x with|some v => some ([],v)|none => none
 |.binOp op t x y _ =>
  match sc? (rd x) with
  |none => none
  |some a =>
   bif znZ a y then zqS (zDe P op t a)
   else bif zuy a&&!zzp P t then none else match sc? (rd y) with|some b=>zqS (zv7 w op a b)|none=>none
 |.unOp op _ x =>
  match op,sc? (rd x) with
  |.not,some (.bool b) => ret (.bool b.neg)
  |.neg,some a => match a.asI with
   |some (k,n) => zqS (zoS w .sub k (A.iLit 0) n a)
   |none => none
  |.xor,some a => match a.asI with
   |some (k,n) => ret (.int k (A.iBin .xor k true (A.iLit (if k.signed then -1 else k.max)) n))
   |none => none
  |_,_ => none
 |.convert src dst x =>
  match sc? (rd x),P.underlying dst,P.underlying src with
  |some (.str s),some .string,some .string => ret (.str s)
  |some (.intc _ n),some (.int k),some _ => ret (.intc k (k.wrap n))
  |some (.int _ n),some (.int k),some _ => bif w then ret (.int k (A.iConv k n)) else some ([A.oRange k n],.one (.sc (.int k n)))
  |_,_,_ => none
 |.extract x i =>
  match rd x with
  |some (.tup l) => match zbR i l with|v::_ => some ([],.one v)|[] => none
  |_ => none
 |.field t x f =>
  match rd x,zhi P t f with
  |some (.one (.agg cs)),some (off,u) => match zj8 P u cs off with|some v => some ([],.one v)|none => none
  |_,_ => none
 |.build t parts =>
  match zlU rd parts.toList with
  |some ps => bif !(ps.all fun x => za3 x.2) then none else match zqk P t ps with|some v => some (ps.flatMap fun x => zo3 x.2.cells,.one v)|none => none
  |none => none
 |.nilCheck x =>
  match sc? (rd x) with
  |some (.ptr p) => some ([A.oSome p],.one (.sc (.ptr p)))
  |some (.loc j b off) => ret (.loc j b off)
  |_ => none
 |.fieldAddr t x f =>
  match sc? (rd x),zhi P t f with
  |some a,some (off,u) =>
   bif Nat.beq (P.cellsOf u) 0 then none else
   match a with
   |.loc j b o' => ret (.loc j b (o'+off))
   |.ptr p => some ([A.oSome p],.one (.sc (.ptr (A.pAdd p off))))
   |_ => none
  |_,_ => none
 |.indexAddr t x ix =>
  match sc? (rd x),sc? (rd ix),P.underlying t with
  |some (.slc p l _),some i,some (.slice e) =>
   bif !(P.underlying e).isSome then none else match i.asI with
   |some (_,n) => some ([A.oSome p,A.oLe (A.iLit 0) n,A.oLt n (A.iN l)],.one (.sc (.ptr (A.pIdx p n (P.cellsOf e)))))
   |none => none
  |some (.ptr p),some i,some (.array n e) =>
   bif !(P.underlying e).isSome then none else match i.asI with
   |some (_,m) => some ([A.oSome p,A.oLe (A.iLit 0) m,A.oLt m (A.iLit n)],.one (.sc (.ptr (A.pIdx p m (P.cellsOf e)))))
   |none => none
  |some (.loc j b off),some (.intc _ m),some (.array n e) =>
   bif (P.underlying e).isSome&&decide (0<=m)&&decide (m<(n:Int)) then ret (.loc j b (off+m.toNat*P.cellsOf e)) else none
  |_,_,_ => none
 |.index t x ix =>
  match sc? (rd x),sc? (rd ix),P.underlying t with
  |some (.str s),some i,some .string =>
   match i.asI with
   |some (_,n) => some ([A.oLe (A.iLit 0) n,A.oLt n (A.iLen s)],.one (.sc (.int .u8 (A.iAt s n))))
   |none => none
  |_,_,_ => none
 |.slice t x lo hi mx =>
  match mx with
  |some z =>
   bif hi.isNone then none else
   match sc? (rd x),P.underlying t with
   |some (.slc p len cap),some (.slice e) =>
    bif !(P.underlying e).isSome then none else
    match zf7 rd lo (A.iLit 0),zf7 rd hi (A.iN len),zf7 rd (some z) (A.iN cap) with
    |some l,some h,some m => some ([A.oLe (A.iLit 0) l,A.oLe l h,A.oLe h m,A.oLe m (A.iN cap)],
     .one (.sc (.slc (A.pCut p (A.nI m) l (P.cellsOf e)) (A.nI (A.iBin .sub .i64 false h l)) (A.nSub (A.nI m) l))))
    |_,_,_ => none
   |_,_ => none
  |none =>
   match sc? (rd x),P.underlying t with
   |some (.str s),some .string =>
    match zf7 rd lo (A.iLit 0),zf7 rd hi (A.iLen s) with
    |some l,some h => some ([A.oLe (A.iLit 0) l,A.oLe l h,A.oLe h (A.iLen s)],.one (.sc (.str (A.sSub s l h))))
    |_,_ => none
   |some (.slc p len cap),some (.slice e) =>
    bif !(P.underlying e).isSome then none else
    match zf7 rd lo (A.iLit 0),zf7 rd hi (A.iN len) with
    |some l,some h => some ([A.oLe (A.iLit 0) l,A.oLe l h,A.oLe h (A.iN cap)],
     .one (.sc (.slc (A.pCut p cap l (P.cellsOf e)) (A.nI (A.iBin .sub .i64 false h l)) (A.nSub cap l))))
    |_,_ => none
   |_,_ => none
 |.load t x =>
  match sc? (rd x) with
  |some (.loc j _ off) =>
   match ro.blk st j with
   |some b => match zj8 P t b.cells off with
    |some v => bif Nat.beq v.cells.length (P.cellsOf t) then some ([],.one v) else none
    |none => none
   |none => none
  |_ => none
 |.call { callee:=.builtin .len,args,argTypes } =>
  match args.toList,argTypes.toList with
  |[x],[t] => match sc? (rd x),P.underlying t with
   |some (.slc _ l _),some (.slice _) => ret (.int .i64 (A.iN l))
   |some (.str s),some .string => ret (.int .i64 (A.iLen s))
   |_,_ => none
  |_,_ => none
 |.call { callee:=.builtin .cap,args,argTypes } =>
  match args.toList,argTypes.toList with
  |[x],[t] => match sc? (rd x),P.underlying t with
   |some (.slc _ _ c),some (.slice _) => ret (.int .i64 (A.iN c))
   |_,_ => none
  |_,_ => none
 |.call { callee:=.builtin .min,args,.. } =>
  match zol rd args.toList with
  |some (.sc x::r) => match x.asI with
   |some (k,a) => zqS ((zjV A.iMin k a r).map fun y => ([],y))
   |none => none
  |_ => none
 |.call { callee:=.builtin .max,args,.. } =>
  match zol rd args.toList with
  |some (.sc x::r) => match x.asI with
   |some (k,a) => zqS ((zjV A.iMax k a r).map fun y => ([],y))
   |none => none
  |_ => none
 |.makeFunc (.func f) first captured =>
  match first.toList,zol rd captured.toList with
  |[],some l => bif l.all za3 then ret (.fn f (l.map SV.toV)) else none
  |_,_ => none
 |_ => none
inductive KS where
 |yes|no|sym (j:Nat)|bad
def zjw(ops:Array Oper)(j:Nat):Option Nat :=
 match ops[j]? with
 |some o => o.dst
 |none => none
def zu9(f:Nat×Bool->KS):Option (Nat×Bool)->KS
 |none => .yes
 |some k => f k
def zhk(ops:Array Oper)(ro:Ro A)(st:St A):Nat->Nat×Bool->KS
 |0,_ => .bad
 |d+1,(j,want) =>
  match zjw ops j with
  |none => .bad
  |some dj =>
   match ro.get st dj with
   |none => .bad
   |some (v,key) =>
    match zu9 (zhk ops ro st d) key with
    |.yes =>
     match v with
     |.one (.sc (.bool (.lit c))) => bif c==want then .yes else .no
     |.one (.sc (.bool _)) => .sym j
     |.undef => .no
     |_ => .bad
    |.no => .no
    |.sym j0 => .sym j0
    |.bad => .bad
def zFA(a b:Nat×Bool):Bool:=Nat.beq a.1 b.1&&a.2==b.2
def zDC(ops:Array Oper)(ro:Ro A)(st:St A)(a:Nat×Bool):Nat->Nat×Bool->Bool
 |0,_ => false
 |d+1,b =>
  bif zFA a b then true else
  match zjw ops b.1 with
  |none => false
  |some dj =>
   match ro.get st dj with
   |some (_,some k) => zDC ops ro st a d k
   |_ => false
def zkP(ops:Array Oper)(ro:Ro A)(st:St A)(cur:Option (Nat×Bool)):Option (Nat×Bool)->Bool
 |none => true
 |some k =>
  match zhk ops ro st 50 k with
  |.yes => true
  |_ => match cur with
   |some c => zDC ops ro st k 50 c
   |none => false
def impB(b:BE A)(want:Bool)(k:A.O):A.O :=
 match b with
 |.lit _ => k
 |b => A.oImp (bif want then b else b.neg).prop k
def zwB(ops:Array Oper)(ro:Ro A)(st:St A):Nat->Nat×Bool->A.O->A.O
 |0,_,k => k
 |d+1,(j,want),k =>
  match zjw ops j with
  |none => k
  |some dj =>
   match ro.get st dj with
   |some (.one (.sc (.bool b)),key) =>
    match key with
    |none => impB b want k
    |some k' => zwB ops ro st d k' (impB b want k)
   |_ => k
def zpW(b x y:BE A):BE A :=
 match x,y with
 |.lit true,y => b.mkOr y
 |.lit false,y => b.neg.mkAnd y
 |x,.lit false => b.mkAnd x
 |x,.lit true => b.neg.mkOr x
 |x,y => (b.mkAnd x).mkOr (b.neg.mkAnd y)
def zzQ(ops:Array Oper)(t:Nat):Nat->Option Nat
 |0 => none
 |i+1 => match zjw ops i with
  |some d => bif Nat.beq d t then some i else zzQ ops t i
  |none => zzQ ops t i
def zo6(ops:Array Oper)(ro:Ro A)(st:St A)(cur:Option (Nat×Bool))(c a b:Operand):Option (SL A) :=
 match sc? (zpY ro st (zkP ops ro st cur) c) with
 |some (.bool (.lit true)) => zpY ro st (zkP ops ro st cur) a
 |some (.bool (.lit false)) => zpY ro st (zkP ops ro st cur) b
 |some (.bool t) =>
  let j:Option Nat:=match c with|.tmp x=>zzQ ops x ops.size|_=>none
  let side (want:Bool) (x:Operand):Option (Sc A) :=
   match j with
   |some j => sc? (zpY ro st (fun key => zkP ops ro st cur key||(match key with|some k => zFA k (j,want)|none => false)) x)
   |none => sc? (zpY ro st (zkP ops ro st cur) x)
  match side true a,side false b with
  |some (.bool x),some (.bool y) => some (.one (.sc (.bool (zpW t x y))))
  |_,_ => none
 |_ => none
def St.put(st:St A)(dst:Option Tmp)(e:Option (Ent A)):St A :=
 match dst with
 |some d => { st with ov:=zvd st.ov d e }
 |none => st
def zzb(ops:Array Oper)(st:St A)(dst:Option Tmp):Bool :=
 match dst with
 |none => true
 |some d => st.ov.all fun x => match x.2 with
  |some (_,some (j,_)) => match zjw ops j with
   |some e => !Nat.beq d e
   |none => true
  |_ => true
def zDg(cfg:Cfg)(ops:Array Oper)(st:St A)(dst:Option Tmp):Bool :=
 zzb ops st dst&&match dst with|some d=>Nat.blt d cfg.N|none=>true
def zuz:Operand->Bool
 |.const _ => true
 |_ => false
def exSh(nm:String):Sh->(Sc A->A.O)->A.O
 |.int k,f => A.exI nm fun x => f (.int k x)
 |.bool,f => A.exB nm fun b => f (.bool (.atom true b))
 |.str,f => A.exS nm fun s => f (.str s)
 | .slc, f => A.exP nm fun p => A.exN (nm ++ "l") fun l => A.exN (nm ++ "c") fun c => f (.slc p l c)
 |.ptr,f => A.exP nm fun p => f (.ptr p)
 |.val,f => A.exV nm fun v => f (.val v)
def zMD(nm:String):Nat->List Sh->(List (Sc A)->A.O)->A.O
 |_,[],f => f []
 | i, s :: r, f => exSh (nm ++ "_" ++ toString i) s fun x => zMD nm (i + 1) r fun l => f (x :: l)
def exTy(P:Program)(nm:String)(t:TypeId)(f:SV A->A.O):A.O :=
 bif zdu P t then zMD nm 0 (zxU P 6 t) fun l=>f (.agg l)
 else exSh nm (shOf P t) fun x=>f (.sc x)
def zIL(P:Program):List (String×TypeId)->(List (SV A)->A.O)->A.O
 |[],f => f []
 |(nm,t)::r,f => exTy P nm t fun v => zIL P r fun l => f (v::l)
def zJV:Sh->Bool
 |.int _|.bool|.str => true
 |_ => false
def zbW(l:List (SV A)):SL A :=
 match l with
 |[v] => .one v
 |l => .tup l
def zK0(cfg:Cfg)(dst:Option Tmp):String :=
 match dst with
 | some d => match cfg.names[d]? with | some n => bif n == "" then "t" else n | none => "t"
 | none => "t"
def St.moved(st:St A)(w:A.W):St A:={ st with anchor:=w,ax:=st.nx,dirty:=[] }
def zuE(nums:List A.N)(w1 w2:A.W)(k:A.O):A.O :=
 match nums with
 |[] => k
 |nums => A.oAnd (A.oKept nums w1 w2) k
def zgT(P:Program)(ro:Ro A)(st:St A)(nm:String)(ext:Bool)(rts:List TypeId)
  (call:A.W->(A.V->A.W->A.O)->A.O) (k:SL A->St A->A.O):A.O :=
 let nums:=ro.nums st
 let moves:=!(rts.all fun t=>(bif zdu P t then zxU P 6 t else [shOf P t]).all zJV)
 let fin (v:A.V) (st:St A):=zIL P (rts.map fun t=>(nm,t)) fun l =>
  A.oAnd (A.oEqV v (zbW l).toV) (k (zbW l) st)
 A.allExt (ro.dn st) (bif ext&&!moves then [] else nums) st.anchor fun w1=>call w1 fun v w2 =>
  bif ext then A.oAnd (A.oExt w1 w2) (fin v (bif moves then st.moved w2 else st))
  else zuE nums w1 w2 (fin v (st.moved w2))
def zz2(P:Program)(ro:Ro A)(st:St A)(nm:String)(rts:Option (List TypeId))(m:MC A.V)(k:SL A->St A->A.O):A.O :=
 let nums:=ro.nums st
 A.allExt (ro.dn st) nums st.anchor fun w1=>A.oRun m w1 fun v w2 =>
  let fin:=match rts with
   |some l => zIL P (l.map fun t => (nm,t)) fun l => A.oAnd (A.oEqV v (zbW l).toV) (k (zbW l) (st.moved w2))
   |none => k .undef (st.moved w2)
  zuE nums w1 w2 fin
def zBH(dn:List A.N)(w:A.W)(nm:String)(p:A.P):Nat->List Sh->(List (Sc A)->A.O)->A.O
 |_,[],f => f []
 |i,s::r,f => exSh nm s fun x => A.oAnd (A.oCell dn w p i x.toV) (zBH dn w nm p (i+1) r fun l => f (x::l))
def zng(P:Program)(t:TypeId):List TypeId :=
 match P.underlying t with
 |some (.tuple ts) => ts.toList
 |_ => [t]
def zN9(r:Option (SL A)):Option (List A.O×SL A) :=
 match r with
 |some v => some ([],v)
 |none => none
def zJ7(P:Program)(cfg:Cfg)(ops:Array Oper)(ro:Ro A)(st:St A)(o:Oper)(g:Nat×Bool):Option (List A.O×SL A) :=
 match o.op with
 |.pick c a b => zN9 (zo6 ops ro st (some g) c a b)
 |_ => zca P cfg ro st (zpY ro st (zkP ops ro st (some g))) o
def zK3(ops:Array Oper)(dst:Option Tmp)(g:Nat×Bool):Bool :=
 match dst,zjw ops g.1 with
 |some d,some e => !Nat.beq d e
 |_,_ => true
def zJp(P:Program)(cfg:Cfg)(ops:Array Oper)(ro:Ro A)(st:St A)(o:Oper):Option (List A.O×SL A) :=
 match o.op with
 |.pick c a b => zN9 (zo6 ops ro st none c a b)
 |_ => zca P cfg ro st (zpY ro st (zkP ops ro st none)) o
def zuM(cfg:Cfg)(ro:Ro A)(st:St A)(o:Oper)(t:TypeId)(v:SV A)(put:SL A->St A->A.O):A.O :=
 match o.dst with
 | none => A.oFail ("box " ++ o.pos)
 |some d =>
  bif !za3 v then A.oFail ("escapes " ++ o.pos) else
  bif zia cfg.pub d then
   A.allExt (ro.dn st) (ro.nums st) st.anchor fun w1=>A.oNew w1 t (v.cells.map Sc.toV) fun p w2=>put (.one (.sc (.ptr p))) (st.moved w2)
  else
   zoR (zo3 v.cells) (A.allNum st.anchor fun b =>
    put (.one (.sc (.loc st.nx b 0))) { st with bl:=zvd st.bl st.nx ⟨b,t,v.cells⟩,nx:=st.nx+1 })
def zuG(P:Program)(ro:Ro A)(st:St A)(nm:String)(o:Oper)(t:TypeId)(p:A.P)(put:SL A->St A->A.O):A.O :=
 match P.underlying t with
 | none => A.oFail ("load " ++ o.pos)
 |some _ =>
  bif zdu P t&&Nat.ble 40 (P.cellsOf t) then
   A.exV nm fun v=>A.oAnd (A.oCells (ro.dn st) st.anchor p (P.cellsOf t) v) (put (.one (.sc (.val v))) st)
  else bif zdu P t then
   A.oAnd (A.oSome p) (zBH (ro.dn st) st.anchor nm p 0 (zxU P 6 t) fun l =>
    bif Nat.beq l.length (P.cellsOf t) then put (.one (.agg l)) st else A.oFail ("load size " ++ o.pos))
  else zBH (ro.dn st) st.anchor nm p 0 [shOf P t] fun l =>
   match l with
   |[x] => put (.one (.sc x)) st
   | _ => A.oFail "load"
def zuj(st:St A)(j:Nat):List Nat:=bif Nat.blt j st.ax&&!zia st.dirty j then j::st.dirty else st.dirty
def zrB(P:Program)(ro:Ro A)(st:St A)(o:Oper)(t:TypeId)(x:Sc A)(v:SV A)(put:SL A->St A->A.O):A.O :=
 bif !(Nat.beq v.cells.length (P.cellsOf t) && za3 v && !(Nat.beq (P.cellsOf t) 0)) then A.oFail ("store size " ++ o.pos) else
 match x with
 |.loc j _ off =>
  match ro.blk st j with
  |some b =>
   bif Nat.ble (off+v.cells.length) b.cells.length then
    zoR (zo3 v.cells) (put .undef { st with
     bl:=zvd st.bl j { b with cells:=zaE b.cells off v.cells }
     dirty:=zuj st j })
   else A.oFail ("store size " ++ o.pos)
  | none => A.oFail ("store " ++ o.pos)
 |.ptr p => A.oStore st.anchor p (v.cells.map Sc.toV) (ro.nums st) fun w2 => put .undef { st with anchor:=w2 }
 | _ => A.oFail ("store " ++ o.pos)
def zED(P:Program)(cfg:Cfg)(ro:Ro A)(st:St A)(rd:Operand->Option (SL A))(nm:String)(o:Oper)(f:Operand)(args:List Operand)(put:SL A->St A->A.O):A.O :=
 match one? (rd f),zol rd args with
 |some (.sc (.fn f cap)),some l =>
  bif l.all za3 then zgT P ro st nm (!zia cfg.muts f) (zng P o.type) (fun w kk=>A.oFn f (l.map SV.toV++cap) w kk) put
  else A.oFail ("escapes " ++ o.pos)
 |some (.sc (.val v)),some l =>
  bif l.all za3 then zgT P ro st nm (!zia cfg.muts 1000000) (zng P o.type) (fun w kk=>bif zia cfg.muts 2000000 then A.oFnB v (l.map SV.toV) w kk else A.oFnV v (l.map SV.toV) w kk) put
  else A.oFail ("escapes " ++ o.pos)
 | _, _ => A.oFail ("call " ++ o.pos)
def zMU(P:Program)(cfg:Cfg)(ro:Ro A)(st:St A)(rd:Operand->Option (SL A))(nm:String)(o:Oper)(r:Operand)(m:String)(args:List Operand)(put:SL A->St A->A.O):A.O :=
 match one? (rd r),zol rd args with
 |some v,some l =>
  bif za3 v&&l.all za3 then zgT P ro st nm false (zng P o.type) (fun w kk=>A.oInv m v.toV (l.map SV.toV) w kk) put
  else A.oFail ("escapes " ++ o.pos)
 | _, _ => A.oFail ("invoke " ++ o.pos)
def zpo(rd:Operand->Option (SL A))(x:Operand):Option A.V :=
 match one? (rd x) with
 |some v => bif za3 v then some v.toV else none
 |none => none
def zOi(rd:Operand->Option (SL A)):Option Operand->Option (Option A.V)
 |none => some none
 |some x => (zpo rd x).map some
def zq0(P:Program)(rd:Operand->Option (SL A))(o:Oper):Option (MC A.V) :=
 match o.op with
 |.call { callee:=.builtin b,args,argTypes } =>
  match zol rd args.toList with
  |some l => bif !(l.all za3) then none else
   match b with
   |.append => some (.append argTypes o.type (l.map SV.toV))
   |.copy => some (.copy argTypes o.type (l.map SV.toV))
   |.delete => some (.delete argTypes o.type (l.map SV.toV))
   |.clear => some (.clear argTypes o.type (l.map SV.toV))
   |.len => some (.len argTypes o.type (l.map SV.toV))
   |_ => none
  |none => none
 |.makeSlice t l c => (zpo rd l).bind fun x => (zpo rd c).map fun y => .makeSlice t x y
 |.buildSlice t n parts => (zlU rd parts.toList).bind fun l => bif l.all fun x => za3 x.2 then some (.buildSlice t n (l.map fun x => (x.1,x.2.toV))) else none
 |.lookup t m x ok => (zpo rd m).bind fun a => (zpo rd x).map fun b => .lookup t a b ok
 |.mapUpdate t m x y => (zpo rd m).bind fun a => (zpo rd x).bind fun b => (zpo rd y).map fun c => .mapUpdate t a b c
 |.insert t m x y => (zpo rd m).bind fun a => (zpo rd x).bind fun b => (zpo rd y).map fun c => .mapUpdate t a b c
 |.makeMap t none => some (.makeMap t)
 |.range t x => (zpo rd x).map fun a => .range t a
 |.next x s => (zpo rd x).map fun a => .next a s o.type
 |.entry x => (zpo rd x).map fun a => .entry a
 |.extract x i => (zpo rd x).map fun a => .extract a i
 |.convert src dst x => (zpo rd x).map fun a => .convert src dst a
 |.binOp op t x y _ => (zpo rd x).bind fun a => (zpo rd y).map fun b => .eq op t (zuz x) (zuz y) a b
 |.makeInterface t x => (zpo rd x).map fun a => .makeInterface t a
 |.typeAssert x t u ok => (zpo rd x).map fun a => .typeAssert a t u ok
 |.index t x i => (zpo rd x).bind fun a => (zpo rd i).map fun b => .index t a b
 |.slice t x lo hi mx => (zpo rd x).bind fun a => (zOi rd lo).bind fun b => (zOi rd hi).bind fun c => (zOi rd mx).map fun d => .slice t a b c d
 |_ => none
def zbZ(o:Oper):Bool :=
 match o.op with
 |.mapUpdate ..|.insert .. => true
 |_ => false
def znb(o:Oper):Bool :=
 match o.op with
 |.makeSlice ..|.buildSlice ..|.lookup ..|.makeMap ..|.convert ..|.binOp ..|.index ..|.makeInterface ..|.typeAssert ..|.entry ..|.extract .. => true
 |.call { callee:=.builtin .len,.. } => true
 |_ => false
def mcTy(P:Program)(o:Oper):TypeId :=
 match o.op with
 |.range ..|.next ..|.entry .. => P.types.size
 |_ => o.type
def zFK(P:Program)(ro:Ro A)(st:St A)(rd:Operand->Option (SL A))(nm:String)(o:Oper)(put:SL A->St A->A.O):A.O :=
 match zq0 P rd o with
 |some m => bif znb o&&!zbZ o then zgT P ro st nm true (zng P (mcTy P o)) (fun w kk => A.oRun m w kk) put
  else zz2 P ro st nm (bif zbZ o then none else some (zng P (mcTy P o))) m put
 | none => A.oFail ("op " ++ o.pos)
def zsg(P:Program)(cfg:Cfg)(ro:Ro A)(st:St A)(rd:Operand->Option (SL A))(o:Oper)(put:SL A->St A->A.O):A.O :=
 let nm:=zK0 cfg o.dst
 match o.op with
 | .box t x => match one? (rd x) with | some v => zuM cfg ro st o t v put | none => A.oFail ("box " ++ o.pos)
 | .alloc t => match (zpb P t : Option (SV A)) with | some v => zuM cfg ro st o t v put | none => A.oFail ("alloc " ++ o.pos)
 | .load t x => match sc? (rd x) with | some (.ptr p) => zuG P ro st nm o t p put | _ => A.oFail ("load " ++ o.pos)
 | .store t x y => match sc? (rd x), one? (rd y) with | some a, some v => zrB P ro st o t a v put | _, _ => A.oFail ("store " ++ o.pos)
 |.call { callee:=.value f,args,.. } => zED P cfg ro st rd nm o f args.toList put
 |.call { callee:=.invoke r m,args,.. } => zMU P cfg ro st rd nm o r m args.toList put
 |_ => zFK P ro st rd nm o put
def zBe(x:Nat×Option (Ent A)):Nat×Option (Ent A) :=
 match x.2 with
 |some (_,some _) => (x.1,none)
 |_ => x
def zy0(st:St A):St A:={ st with ov:=st.ov.map zBe }
inductive Kd where
 |pure|read|soft|hard
 deriving DecidableEq
def Kd.quiet:Kd->Bool
 |.pure|.read => true
 |_ => false
def zDr(cfg:Cfg):Operand->Bool
 |.func g => !zia cfg.muts g&&!zia cfg.muts 1000000
 |_ => cfg.muts.isEmpty
def zMI(P:Program)(t:TypeId):Bool :=
 match P.underlying t with
 |some (.int _)|some .bool => true
 |_ => false
def zzt(P:Program)(cfg:Cfg)(o:Oper):Kd :=
 match o.op with
 |.move _|.assign _|.unOp ..|.extract ..|.field ..|.build ..|.nilCheck ..|.fieldAddr ..|.indexAddr ..|.slice ..|.pick .. => .pure
 |.load .. => .read
 |.binOp _ t _ _ _ => bif zMI P t||(match P.underlying t with|some .string => true|_ => false) then .pure else .soft
 |.convert s d _ => bif (zMI P s&&zMI P d)||(match P.underlying s,P.underlying d with|some .string,some .string => true|_,_ => false) then .pure else .soft
 |.index t _ _ => bif (match P.underlying t with|some .string => true|_ => false) then .pure else .soft
 |.box ..|.alloc .. => .soft
 |.call { callee:=.value f,.. } => bif zDr cfg f then .soft else .hard
 |.call { callee:=.builtin .min,.. }|.call { callee:=.builtin .max,.. }|.call { callee:=.builtin .cap,.. } => .pure
 |.call { callee:=.builtin .len,argTypes,.. } => bif (match argTypes.toList with|[t] => (match P.underlying t with|some (.slice _)|some .string => true|_ => false)|_ => false) then .pure else .soft
 |.makeFunc .. => .pure
 |_ => bif znb o&&!zbZ o then .soft else .hard
def dep(md:Region.Mode)(ops:Array Oper):Nat->Nat->Nat->Bool
 |0,_,_ => false
 |n+1,i,j =>
  match ops[i]? with
  |some o => o.after.toList.any fun e => Region.binds md e&&(Nat.beq e.on j||dep md ops n e.on j)
  |none => false
def near(md:Region.Mode)(ops:Array Oper)(i j:Nat):Bool :=
 match ops[i]? with
 |some o => o.after.toList.any fun e => Region.binds md e&&Nat.beq e.on j
 |none => false
def zGe(md:Region.Mode)(ops:Array Oper)(kd:Oper->Kd)(n:Nat)(j i:Nat):Bool :=
 match ops[j]?,ops[i]? with
 |some oj,some oi => !near md ops j i&&((oi.apart ops oj&&(kd oj).quiet&&(decide (kd oj=.pure)||decide (kd oi=.soft)||(kd oi).quiet))||dep md ops n i j)
 |_,_ => false
def zyT(md:Region.Mode)(rem:List Nat)(o:Oper):Bool:=o.after.toList.any fun e=>Region.binds md e&&zia rem e.on
def zgv(i:Nat):List Nat->List Nat
 |[] => []
 |j::r => bif Nat.beq i j then r else j::zgv i r
inductive DT where
 |stop
 |op (i:Nat) (t:DT)
 |alt (s t:DT)
def DT.chain:List Nat->DT
 |[] => .stop
 |i::r => .op i (chain r)
def DT.heads:DT->List Nat
 |.stop => []
 |.op i _ => [i]
 |.alt s t => s.heads++t.heads
def DT.hasAlt:DT->Bool
 |.stop => false
 |.op _ t => t.hasAlt
 |.alt _ _ => true
def zNo(md:Region.Mode)(ops:Array Oper)(rem:List Nat)(j:Nat):Bool :=
 match ops[j]? with
 |some o => zia rem j&&!zyT md rem o
 |none => false
def bnd(md:Region.Mode)(ops:Array Oper)(rem:List Nat)(i:Nat):Bool :=
 match ops[i]? with
 |some o => zyT md rem o
 |none => true
def okD(md:Region.Mode)(ops:Array Oper)(kd:Oper->Kd)(n:Nat):Bool->DT->List Nat->Bool
 |f,.stop,rem => !f&&rem.isEmpty
 |f,.op j t,rem => zNo md ops rem j&&(f||(zgv j rem).all fun i => zGe md ops kd n j i)&&okD md ops kd n false t (zgv j rem)
 |f,.alt s t,rem => okD md ops kd n true s rem&&okD md ops kd n true t rem&&(f||rem.all fun i => zia (s.heads++t.heads) i||bnd md ops rem i)
def zKK(p:Nat->Bool):List Nat->Option Nat
 |[] => none
 |i::r => bif p i then some i else zKK p r
def altOf:List DT->DT
 |[] => .stop
 |[t] => t
 |t::r => .alt t (altOf r)
def zFP(md:Region.Mode)(ops:Array Oper)(kd:Oper->Kd)(n:Nat):Nat->List Nat->DT
 |0,_ => .stop
 |m+1,rem =>
  match zKK (fun j=>zNo md ops rem j&&(zgv j rem).all fun i=>zGe md ops kd n j i) rem with
  |some j => .op j (zFP md ops kd n m (zgv j rem))
  |none => altOf ((rem.filter fun j => zNo md ops rem j).map fun j => .op j (zFP md ops kd n m (zgv j rem)))
def zMp(P:Program)(cfg:Cfg)(ops:Array Oper):Option DT :=
 let t:=zFP .any ops (zzt P cfg) ops.size ops.size (List.range ops.size)
 bif P.follows .mixedOrders&&Region.noSelect ops&&(ops.toList.all fun o=>o.after.toList.all fun e=>Nat.blt e.on ops.size)&&okD .any ops (zzt P cfg) ops.size false t (List.range ops.size) then some t else none
def zgc(o:Oper):Bool :=
 match o.op with
 |.load .. => true
 |_ => false
def loud(P:Program)(cfg:Cfg)(dr:Bool)(o:Oper):Bool:=dr&&(zzt P cfg o).quiet&&!zgc o
def zGU(P:Program)(cfg:Cfg)(dr:Bool)(ops:Array Oper)(ro:Ro A)(st:St A)(o:Oper)(k:St A->A.O):A.O :=
 let put (v:SL A) (st:St A):A.O:=k (st.put o.dst (some (v,none)))
 bif !zDg cfg ops st o.dst then A.oFail ("dst " ++ o.pos) else
 match zJp P cfg ops ro st o with
 |some (obs,v) => zoR obs (put v st)
 | none => bif loud P cfg dr o then A.oFail ("loud " ++ o.pos) else zsg P cfg ro st (zpY ro st (zkP ops ro st none)) o put
def zh3(P:Program)(cfg:Cfg)(dr:Bool)(ops:Array Oper)(ro:Ro A):Nat->DT->St A->(St A->A.O)->A.O
 | 0, _, _, _ => A.oFail "fuel"
 |_+1,.stop,st,k => k (zy0 st)
 |n+1,.alt s t,st,k => A.oAnd (zh3 P cfg dr ops ro n s st k) (zh3 P cfg dr ops ro n t st k)
 |n+1,.op i zay,st,k =>
  match ops[i]? with
  | none => A.oFail "operation"
  |some o =>
  match zu9 (zhk ops ro st 50) o.guard,o.guard with
  |.yes,_ => zGU P cfg dr ops ro st o fun st => zh3 P cfg dr ops ro n zay st k
  | .no, _ => bif zDg cfg ops st o.dst then zh3 P cfg dr ops ro n zay (st.put o.dst (some (.undef, none))) k else A.oFail ("dst " ++ o.pos)
  |.sym j0,some g =>
   match zJ7 P cfg ops ro st o g with
   |some (obs,v) =>
    bif zDg cfg ops st o.dst&&zK3 ops o.dst g then
     zoR (obs.map (zwB ops ro st 50 g)) (zh3 P cfg dr ops ro n zay (st.put o.dst (some (v,some g))) k)
    else A.oFail ("dst " ++ o.pos)
   |none =>
    match zjw ops j0 with
    | none => A.oFail "guard"
    |some d0 =>
     match ro.get st d0 with
     |some (.one (.sc (.bool b)),_) =>
      A.oAnd (A.oImp b.prop (zh3 P cfg dr ops ro n (.op i zay) { st with ov:=zvd st.ov d0 (some (.one (.sc (.bool (.lit true))),none)) } k))
       (A.oImp b.neg.prop (zh3 P cfg dr ops ro n (.op i zay) { st with ov:=zvd st.ov d0 (some (.one (.sc (.bool (.lit false))),none)) } k))
     | _ => A.oFail "guard"
  | _, _ => A.oFail ("guard " ++ o.pos)
inductive Ex where
 |normal|exit (id:Nat)|ret
def zKj:List Oper->List Nat
 |[] => []
 |o::r => match o.dst with|some d => d::zKj r|none => zKj r
def zns:Code->List Nat
 |.region _ ops _ => zKj ops.toList
 |.seq a b => zns a++zns b
 |.cond _ a b => zns a++zns b
 |.block _ a => zns a
 |.loop a => zns a
 |.scope a => zns a
 |_ => []
def zHC:Code->Bool
 |.ret => true
 |.seq a b => zHC a||zHC b
 |.cond _ a b => zHC a&&zHC b
 |.block _ a => zHC a
 |.scope a => zHC a
 |_ => false
def zg8:Code->List Nat
 |.region _ ops _ => zKj ops.toList
 |.seq a b => bif zHC a||zHC b then [] else zg8 a++zg8 b
 |.cond _ a b => zg8 a++zg8 b
 |.block _ a => zg8 a
 |.loop a => zg8 a
 |.scope a => zg8 a
 |_ => []
def zeR:List Oper->List Nat
 |[] => []
 |o::r => match o.op with
  |.store _ (.tmp a) _ => a::zeR r
  |.fieldAddr _ (.tmp a) _ => (match o.dst with|some d => bif zia (zeR r) d then a::zeR r else zeR r|none => zeR r)
  |.indexAddr _ (.tmp a) _ => (match o.dst with|some d => bif zia (zeR r) d then a::zeR r else zeR r|none => zeR r)
  |_ => zeR r
def zg4:Code->List Nat
 |.region _ ops _ => zeR ops.toList
 |.seq a b => bif zHC a||zHC b then [] else zg4 a++zg4 b
 |.cond _ a b => zg4 a++zg4 b
 |.block _ a => zg4 a
 |.loop a => zg4 a
 |.scope a => zg4 a
 |_ => []
def Sc.atom:Sc A->Option (Sh×zAB A.I A.B A.S A.N A.P A.V)
 |.int k n => some (.int k,.int n)
 |.intc k n => some (.int k,.int (A.iLit n))
 |.bool b => some (.bool,.bool b.den)
 |.str s => some (.str,.str s)
 |.slc p l c => some (.slc,.slc p l c)
 |.ptr p => some (.ptr,.ptr p)
 |.val v => some (.val,.val v)
 |.fn f cap => some (.val,.val (A.vFn f cap))
 |.loc .. => none
def zF3:Sh->zAB A.I A.B A.S A.N A.P A.V->Option (Sc A)
 |.int k,.int n => some (.int k n)
 |.bool,.bool b => some (.bool (.atom true b))
 |.str,.str s => some (.str s)
 |.slc,.slc p l c => some (.slc p l c)
 |.ptr,.ptr p => some (.ptr p)
 |.val,.val v => some (.val v)
 |_,_ => none
def zlv:List (Sc A)->Option (List (Sh×zAB A.I A.B A.S A.N A.P A.V))
 |[] => some []
 |x::r => match x.atom,zlv r with
  |some a,some l => some (a::l)
  |_,_ => none
def zcd:List Sh->List (zAB A.I A.B A.S A.N A.P A.V)->Option (List (Sc A))
 |[],[] => some []
 |s::r,a::l => match zF3 s a,zcd r l with
  |some x,some l => some (x::l)
  |_,_ => none
 |_,_ => none
structure Hv where
 slots:List (Nat×Bool×Nat)   -- slot,an aggregate?,how many cells
 blocks:List (Nat×Nat)        -- block,how many cells
def zqI(ro:Ro A)(st:St A):List (Nat×Bool×Nat)->Option (List (Sc A))
 |[] => some []
 |(i,agg,n)::r =>
  match ro.get st i,zqI ro st r with
  |some (.one (.sc x),none),some l => bif !agg&&Nat.beq n 1 then some (x::l) else none
  |some (.one (.agg cs),none),some l => bif agg&&Nat.beq n cs.length then some (cs++l) else none
  |_,_ => none
def znR(ro:Ro A)(st:St A):List (Nat×Nat)->Option (List (Sc A))
 |[] => some []
 |(j,n)::r =>
  match ro.blk st j,znR ro st r with
  |some b,some l => bif Nat.beq n b.cells.length then some (b.cells++l) else none
  |_,_ => none
def zem:List (Nat×Bool×Nat)->List (Sc A)->List (Nat×Option (Ent A))×List (Sc A)
 |[],l => ([],l)
 |(i,agg,n)::r,l =>
  let (ov,zay):=zem r (zbR n l)
  match agg,l with
  |true,l => ((i,some (.one (.agg (zeo n l)),none))::ov,zay)
  |false,x::_ => ((i,some (.one (.sc x),none))::ov,zay)
  |false,[] => ((i,none)::ov,zay)
def zfA(ro:Ro A)(st:St A):List (Nat×Nat)->List (Sc A)->List (Nat×Blk A)
 |[],_ => []
 |(j,n)::r,l =>
  match ro.blk st j with
  |some b => (j,{ b with cells:=zeo n l })::zfA ro st r (zbR n l)
  |none => zfA ro st r (zbR n l)
def zAQ(n:Nat)(ro:Ro A)(st:St A):List (Nat×SL A) :=
 (List.range n).filterMap fun i=>match ro.get st i with
  |some (v,none) => some (i,v)
  |_ => none
def zEp(ro:Ro A)(st:St A):List (Nat×Blk A) :=
 (List.range st.nx).filterMap fun j=>(ro.blk st j).map fun b=>(j,b)
def nub:List Nat->List Nat
 |[] => []
 |x::r => let l:=nub r;bif zia l x then l else x::l
def hvOf(ro:Ro A)(st:St A)(body:Code):Hv :=
 let ws:=nub (zg8 body)
 let ss:=nub (zg4 body)
 {
  slots:=ws.filterMap fun i=>match ro.get st i with
   |some (.one (.sc (.loc ..)),none) => none
   |some (.one (.sc _),none) => some (i,false,1)
   |some (.one (.agg cs),none) => some (i,true,cs.length)
   |_ => none
  blocks:=nub (ss.filterMap fun i=>match ro.get st i with|some (.one (.sc (.loc j _ _)),none)=>some j|_=>none) |>.filterMap fun j=>(ro.blk st j).map fun b=>(j,b.cells.length) }
def znV(cfg:Cfg)(hv:Hv):List String :=
 (hv.slots.flatMap fun x => List.replicate x.2.2 (match cfg.names[x.1]? with | some n => bif n == "" then "k" else n | none => "k")) ++
  (hv.blocks.flatMap fun x => List.replicate x.2 "c")
def shEq:Sh->Sh->Bool
 |.int k,.int j => kEq k j
 |.bool,.bool|.str,.str|.slc,.slc|.ptr,.ptr|.val,.val => true
 |_,_ => false
def zDq:List Sh->List Sh->Bool
 |[],[] => true
 |a::r,b::s => shEq a b&&zDq r s
 |_,_ => false
def zaI{α:Type}(l:List (Nat×α)):List Nat:=l.map (·.1)
def zmJ(hv:Hv)(body:Code)(cs:List (Sc A)):List (Nat×Option (Ent A))×List (Sc A) :=
 let (ov,zay):=zem hv.slots cs
 (ov++(nub (zns body)).filterMap fun i=>(bif zia (zaI ov) i then none else some (i,none)),zay)
def za2(cfg:Cfg)(ro:Ro A)(st:St A):Ro A:={ sl:=zAQ cfg.N ro st,bl:=zEp ro st }
def zmI(hv:Hv)(st:St A):List Nat:=zaI hv.blocks++st.dirty
def zaN(ro:Ro A)(st:St A)(hv:Hv)(body:Code)(cs:List (Sc A))(w:A.W):St A :=
 let l:=zmJ hv body cs
 { ov:=l.1,bl:=zfA ro st hv.blocks l.2,nx:=st.nx,anchor:=w,ax:=st.nx,dirty:=zmI hv st }
def zmB(ro:Ro A)(st:St A)(hv:Hv):Option (List (Sc A)) :=
 (zqI ro st hv.slots).bind fun ss=>(znR ro st hv.blocks).map fun bs=>ss++bs
def zpK(hv:Hv)(st head:St A)(shs:List Sh)(rh:Ro A)(st':St A):Option (List (zAB A.I A.B A.S A.N A.P A.V)) :=
 (zmB rh st' hv).bind fun l=>(zlv l).bind fun al =>
  bif zDq (al.map (·.1)) shs&&(st'.bl.all fun x=>Nat.ble st.nx x.1||zia (zaI hv.blocks) x.1) &&
   (st'.ov.all fun x=>zia (zaI head.ov) x.1)&&(st'.dirty.all fun j=>zia (zmI hv st) j&&Nat.blt j st.nx) then some (al.map (·.2)) else none
def zbV(st st':St A):St A :=
 {
  ov:=st'.ov++(st.ov.filter fun x=>!zia (zaI st'.ov) x.1),bl:=st'.bl++(st.bl.filter fun x=>!zia (zaI st'.bl) x.1),
  nx:=st'.nx,anchor:=st'.anchor,ax:=st'.ax,dirty:=st'.dirty }
def zly:List Nat->Bool
 |[] => true
 |x::r => !zia r x&&zly r
def seqK(k:Ex->St A->A.O)(next:St A->A.O):Ex->St A->A.O
 |.normal,st => next st
 |e,st => k e st
def zKz(id:Nat)(k:Ex->St A->A.O):Ex->St A->A.O
 |.exit i,st => bif Nat.beq i id then k .normal st else k (.exit i) st
 |e,st => k e st
def ztP{α:Type}(f:α->A.O):Option α->A.O
 |some x => f x
 | none => A.oFail "loop"
def zGz(cfg:Cfg)(ro:Ro A)(st:St A)(hv:Hv)(body:Code)(shs:List Sh)(cs:List (Sc A))(w:A.W)
  (back:List (zAB A.I A.B A.S A.N A.P A.V)->A.W->A.O) (k:Ex->St A->A.O):Ex->St A->A.O
 |.normal,st' =>
  match zpK hv st (zaN ro st hv body cs w) shs (za2 cfg ro st) st' with
  |some vs => back vs st'.anchor
  | none => A.oFail "loop back"
 |e,st' => k e (zbV st st')
def zM3(cfg:Cfg)(o:Oper):Option (Nat×TypeId) :=
 match o.dst with
 |some d =>
  match o.op with
  |.assign _|.alloc _|.box _ _ => some (d,o.type)
  |_ => bif (match zdZ cfg.joins 999999 with|some l => zia l d|none => false) then some (d,o.type) else
   match cfg.names[d]? with
   | some n => bif n == "" then none else some (d, o.type)
   |none => none
 |none => none
def zFn(P:Program)(cfg:Cfg):List Oper->List (Nat×Bool×Nat)
 |[] => []
 |o::r =>
  let l:=zFn P cfg r
  match zM3 cfg o with
  |some (d,t) => bif zia (zaI l) d then l else (d,zdu P t,bif zdu P t then (zxU P 6 t).length else 1)::l
  |none => l
def ztA(P:Program)(cfg:Cfg)(ro:Ro A)(st:St A)(ops:Array Oper):Hv :=
 {
  slots:=zFn P cfg ops.toList
  blocks:=(nub ((nub (zeR ops.toList)).filterMap fun i=>match ro.get st i with|some (.one (.sc (.loc j _ _)),none)=>some j|_=>none)).filterMap fun j=>(ro.blk st j).map fun b=>(j,b.cells.length) }
def tyOf(ops:List Oper)(d:Nat):TypeId :=
 match ops with
 |[] => 0
 |o::r => match o.dst with
  |some e => bif Nat.beq e d then (match o.op with|.alloc _|.box _ _ => 1000000|_ => o.type) else tyOf r d
  |none => tyOf r d
def zI1(P:Program)(ro:Ro A)(st:St A)(hv:Hv)(ops:Array Oper):List Sh :=
 (hv.slots.flatMap fun x=>let t:=tyOf ops.toList x.1;bif Nat.beq t 1000000 then [.ptr] else bif x.2.1 then zxU P 6 t else [shOf P t]) ++
  hv.blocks.flatMap fun x=>match ro.blk st x.1 with|some b=>b.cells.filterMap fun c=>c.atom.map (·.1)|none=>[]
def zzs(cfg:Cfg)(ro:Ro A)(st:St A)(hv:Hv)(body:Code)(shs:List Sh)(pos:String)(leave:List (zAB A.I A.B A.S A.N A.P A.V)->A.W->A.O)(st':St A):A.O :=
 match zpK hv st (zaN ro st hv body [] st.anchor) shs (za2 cfg ro st) st' with
 |some vs => leave vs st'.anchor
 |none => A.oFail pos
def zsM:Code->List Oper
 |.region _ ops _ => ops.toList
 |.seq a b => zsM a++zsM b
 |.cond _ a b => zsM a++zsM b
 |.block _ a => zsM a
 |.loop a => zsM a
 |.scope a => zsM a
 |_ => []
def zFm(P:Program)(ro:Ro A)(st:St A)(l:List Nat)(ops:List Oper):Hv :=
 {
  slots:=l.map fun d=>let t:=tyOf ops d;(d,zdu P t,bif zdu P t then (zxU P 6 t).length else 1)
  blocks:=(nub ((nub (zeR ops)).filterMap fun i=>match ro.get st i with|some (.one (.sc (.loc j _ _)),none)=>some j|_=>none)).filterMap fun j=>(ro.blk st j).map fun b=>(j,b.cells.length) }
def zEy(cfg:Cfg)(ro:Ro A)(st:St A)(hv:Hv)(body:Code)(shs:List Sh)(id:Nat)(leave:List (zAB A.I A.B A.S A.N A.P A.V)->A.W->A.O)(k:Ex->St A->A.O):Ex->St A->A.O
 | .normal, st' => zzs cfg ro st hv body shs "block back" leave st'
 | .exit i, st' => bif Nat.beq i id then zzs cfg ro st hv body shs "block back" leave st' else k (.exit i) (zbV st st')
 |.ret,st' => k .ret (zbV st st')
def sx(P:Program)(cfg:Cfg):Code->Ro A->St A->(Ex->St A->A.O)->A.O
 |.skip,_,st,k => k .normal st
 |.label _,_,st,k => k .normal st
 |.exit id,_,st,k => k (.exit id) st
 |.ret,_,st,k => k .ret st
 |.seq a b,ro,st,k => sx P cfg a ro st (seqK k fun st => sx P cfg b ro st k)
 |.cond c a b,ro,st,k =>
  match sc? (zpY ro st (zkP #[] ro st none) c) with
  |some (.bool t) =>
   match t with
   |.lit true => sx P cfg a ro st k
   |.lit false => sx P cfg b ro st k
   |t => A.oAnd (A.oImp t.prop (sx P cfg a ro st k)) (A.oImp t.neg.prop (sx P cfg b ro st k))
  | _ => A.oFail "cond"
 |.block id a,ro,st,k =>
  match zdZ cfg.joins id with
  |none => sx P cfg a ro st (zKz id k)
  |some l =>
   let ops:=zsM a
   let hv:=zFm P ro st l ops
   let shs:=zI1 P ro st hv ops.toArray
   bif !(zly (zaI hv.slots) && zly (zaI hv.blocks) && hv.blocks.all fun x => (ro.blk st x.1).isSome) then A.oFail "join keys" else
   A.join (List.zip (znV cfg hv) shs)
    (fun leave=>sx P cfg a (za2 cfg ro st) (zaN ro st ⟨[],[]⟩ .skip [] st.anchor) (zEy cfg ro st hv a shs id leave k))
    (fun vars w=>ztP (fun cs=>k .normal (zbV st (zaN ro st hv a cs w))) (zcd shs vars))
 |.region id ops draw,ro,st,k =>
  let fuel:=4*ops.size+4+ops.size*ops.size
  bif draw then
   match zMp P cfg ops with
   |some t =>
    bif t.hasAlt then
     let hv:=ztA P cfg ro st ops
     let shs:=zI1 P ro st hv ops
     bif !(zly (zaI hv.slots) && zly (zaI hv.blocks) && hv.blocks.all fun x => (ro.blk st x.1).isSome) then A.oFail "join keys" else
     A.join (List.zip (znV cfg hv) shs)
      (fun leave => zh3 P cfg true ops (za2 cfg ro st) fuel t (zaN ro st ⟨[], []⟩ .skip [] st.anchor) (zzs cfg ro st hv (.region id ops draw) shs ("join back " ++ match ops[0]? with | some o => o.pos | none => "") leave))
      (fun vars w=>ztP (fun cs=>k .normal (zbV st (zaN ro st hv (.region id ops draw) cs w))) (zcd shs vars))
    else zh3 P cfg true ops ro fuel t st (fun st=>k .normal st)
   | none => A.oFail ("draw " ++ match ops[0]? with | some o => o.pos | none => "")
  else zh3 P cfg false ops ro fuel (.chain (List.range ops.size)) st (fun st=>k .normal st)
 |.loop body,ro,st,k =>
  let hv:=hvOf ro st body
  match (zmB ro st hv).bind zlv with
  | none => A.oFail "loop slots"
  |some al =>
   let shs:=al.map (·.1)
   bif !(zly (zaI hv.slots) && zly (zaI hv.blocks)) then A.oFail "loop keys" else
   A.loop (List.zip (znV cfg hv) shs) (al.map (·.2)) st.anchor fun back vars w =>
    ztP (fun cs=>sx P cfg body (za2 cfg ro st) (zaN ro st hv body cs w) (zGz cfg ro st hv body shs cs w back k)) (zcd shs vars)
 | .scope _, _, _, _ => A.oFail "scope"
 | .rangeFunc .., _, _, _ => A.oFail "rangeFunc"
 | .goto _, _, _, _ => A.oFail "goto"
 | .refuse _, _, _, _ => A.oFail "refuse"
end Go.Sx
namespace Go.Sx
open RowKit
def Ext(w w':World):Prop:=Below w.heap.size w w'
structure But(ds:List Nat)(w w':World):Prop where
 os:w'.os=w.os
 tape:w'.tape=w.tape
 output:w'.output=w.output
 size:w.heap.size<=w'.heap.size
 block:∀k,k<w.heap.size->k∉ds->w'.heap[k]?=w.heap[k]?
structure zag(ds ns:List Nat)(w w':World):Prop extends But ds w w' where
 lt:∀b∈ns,b<w'.heap.size
def zbY(ns:List Nat)(w w':World):Prop:=∀b∈ns,w'.heap[b]?=w.heap[b]?
def InR(k:IntKind)(x:Int):Prop:=k.min<=x/\x<=k.max
def zc2(x y:ByteArray):Prop:=x.size+y.size<=9223372036854775807
def sLt(x y:ByteArray):Bool:=Op.bytesLess x.toList y.toList
def sAt(s:ByteArray)(i:Int):Int:=((s.data.toList.getD i.toNat 0).toNat:Int)
def pAdd(p:Option Addr)(n:Nat):Option Addr:=p.map (·.add n)
def pIdx(p:Option Addr)(i:Int)(n:Nat):Option Addr:=p.map (·.add (i.toNat*n))
def pCut(p:Option Addr)(cap:Nat)(l:Int)(n:Nat):Option Addr:=if cap=l.toNat then p else p.map (·.add (l.toNat*n))
def cell(w:World)(p:Option Addr)(i:Nat):Option Value:=p.bind fun a=>w.cell? (a.add i)
def zyu(ds:List Nat)(p:Option Addr):Prop:=∀b∈ds,∀a,p=some a->a.block≠b
def CellsAre(ds:List Nat)(w:World)(p:Option Addr)(n:Nat)(v:Value):Prop :=
 ∃cs:List Value,v=.agg cs.toArray/\cs.length=n/\(∀j u,cs[j]?=some u->cell w p j=some u)/\zyu ds p/\p≠none
def zxY:Prop:=False
def zan(op:BinOp)(k:IntKind)(x y:Int):Int :=
 match op with
 |.and => k.wrap ((BitVec.ofInt k.bits x &&& BitVec.ofInt k.bits y).toNat:Int)
 |.or => k.wrap ((BitVec.ofInt k.bits x ||| BitVec.ofInt k.bits y).toNat:Int)
 |.xor => k.wrap ((BitVec.ofInt k.bits x ^^^ BitVec.ofInt k.bits y).toNat:Int)
 |.andNot => k.wrap ((BitVec.ofInt k.bits x &&& ~~~ BitVec.ofInt k.bits y).toNat:Int)
 |.shl => k.wrap (x*2^(min y.toNat k.bits))
 |.shr => x.fdiv (2^(min y.toNat k.bits))
 |_ => 0
def zut(op:BinOp)(k:IntKind)(w:Bool)(x y:Int):Int :=
 match op,w with
 |.add,false => x+y
 |.sub,false => x-y
 |.mul,false => x*y
 |.quo,false => x.tdiv y
 |.add,true => k.wrap (x+y)
 |.sub,true => k.wrap (x-y)
 |.mul,true => k.wrap (x*y)
 |.quo,true => k.wrap (x.tdiv y)
 |.rem,_ => x.tmod y
 |op,_ => zan op k x y
def zmc(P:Program)(f:FuncId):Prop:=∀args w,(callFunc f args).run P w=.ok (.enter f args) w
def FnP(P:Program)(f:FuncId)(args:Array Value)(w:World)(K:Value->World->Prop):Prop :=
 zmc P f/\Calls P f args w fun e w'=>∃v,e=.returned v/\K v w'
theorem FnP.mono{P:Program}{f:FuncId}{args:Array Value}{w:World}{K K':Value->World->Prop}(h:FnP P f args w K)(hk:∀v w',K v w'->K' v w'):FnP P f args w K' :=
 ⟨h.1,h.2.mono fun e w' ⟨v,he,hv⟩=>⟨v,he,hk _ _ hv⟩⟩
def zgP(P:Program)(v:Value)(args:List Value)(w:World)(K:Value->World->Prop):Prop :=
 ∃f cap,v=.func (.func f) #[] cap/\FnP P f (args.toArray++cap) w K
def zLr(P:Program)(v:Value)(args:List Value)(w:World)(K:Value->World->Prop):Prop :=
 ∃f bd cap,v=.func (.func f) bd cap/\FnP P f (bd++args.toArray++cap) w K
def zsc(P:Program)(m:String)(v:Value)(args:List Value)(w:World)(K:Value->World->Prop):Prop :=
 ∃t x f r,v=.iface t x/\(method (P.types.size+Made.depth) t x m).run P w=.ok (f,r) w/\FnP P f (#[r]++args.toArray) w K
def opd(c:Bool):Operand:=if c then .const undef else .tmp 0
def MC.sem:MC Value->Sem Value
 |.makeSlice t l c => Instr.makeSlice t l c
 |.append ats t xs => Builtin.append_ ats t xs.toArray
 |.copy ats t xs => Builtin.copy_ ats t xs.toArray
 |.delete ats t xs => Builtin.delete_ ats t xs.toArray
 |.clear ats t xs => Builtin.clear_ ats t xs.toArray
 |.len ats t xs => Builtin.len_ ats t xs.toArray
 |.lookup t m k ok => Instr.lookup t m k ok
 |.mapUpdate t m k x => do Instr.mapUpdate t m k x;pure undef
 |.makeMap t => Instr.makeMap t none
 |.range t x => Instr.range t x
 |.next it s t => Instr.next it s t
 |.entry it => Instr.entry it
 |.extract x i => Instr.extract x i
 |.convert a b x => Go.convert a b x
 |.eq op t cx cy x y => do eqGuard op t (opd cx) (opd cy) x y;Go.binOp op t x y
 |.buildSlice t n ps => Instr.buildSlice t n ps.toArray
 |.makeInterface t x => Instr.makeInterface t x
 |.typeAssert x t u ok => Instr.typeAssert x t u ok
 |.index t x i => Instr.index t x i
 |.slice t x lo hi mx => Instr.sliceAt t x lo hi mx
def Run(P:Program)(m:MC Value)(w:World)(K:Value->World->Prop):Prop :=
 ∃v w',m.sem.run P w=.ok v w'/\K v w'
def setCells(w:World)(a:Addr):List Value->Nat->World
 |[],_ => w
 |v::r,i => setCells (w.setCell (a.add i) v) a r (i+1)
structure zLy(w:World)(p:Option Addr)(vs:List Value)(ns:List Nat):Prop where
 some:p≠none
 cells:∀i,i<vs.length->(cell w p i).isSome=true
 free:∀i,i<vs.length->∀a,p=.some a->w.frozen? (a.add i)=false
 apart:zyu ns p
 one:∀v∈vs,v.oneCell'=true
def zak(w:World)(p:Option Addr)(vs:List Value)(ns:List Nat)(K:World->Prop):Prop :=
 zLy w p vs ns/\∀w',w'=setCells w (p.getD default) vs 0->K w'
structure zCy(w:World)(t:TypeId)(vs:List Value)(p:Option Addr)(w':World):Prop where
 at_:p=some ⟨w.heap.size,0,none⟩
 is:w'=w.alloc (.cells vs.toArray t)
 ext:Ext w w'
 size:w'.heap.size=w.heap.size+1
 block:w'.heap[w.heap.size]?=some (.cells vs.toArray t)
def New(w:World)(t:TypeId)(vs:List Value)(K:Option Addr->World->Prop):Prop :=
 (∀v∈vs,v.oneCell'=true)/\∀p w',zCy w t vs p w'->K p w'
def zDY:List Sh->Type->Type
 |[],R => World->R
 |.int _::r,R => Int->zDY r R
 |.bool::r,R => Bool->zDY r R
 |.str::r,R => ByteArray->zDY r R
 |.slc::r,R => Option Addr->Nat->Nat->zDY r R
 |.ptr::r,R => Option Addr->zDY r R
 |.val::r,R => Value->zDY r R
abbrev At:=zAB Int Bool ByteArray Nat (Option Addr) Value
def zpA{R:Type}(d:R):(l:List Sh)->zDY l R->List At->World->R
 |[],f,[],w => f w
 |.int _::r,f,.int n::l,w => zpA d r (f n) l w
 |.bool::r,f,.bool b::l,w => zpA d r (f b) l w
 |.str::r,f,.str s::l,w => zpA d r (f s) l w
 |.slc::r,f,.slc p n c::l,w => zpA d r (f p n c) l w
 |.ptr::r,f,.ptr p::l,w => zpA d r (f p) l w
 |.val::r,f,.val v::l,w => zpA d r (f v) l w
 |_,_,_,_ => d
def zH4:List Sh->(List At->Prop)->Prop
 |[],f => f []
 |.int _::r,f => ∀n:Int,zH4 r fun l => f (.int n::l)
 |.bool::r,f => ∀b:Bool,zH4 r fun l => f (.bool b::l)
 |.str::r,f => ∀s:ByteArray,zH4 r fun l => f (.str s::l)
 |.slc::r,f => ∀(p:Option Addr)(n c:Nat),zH4 r fun l => f (.slc p n c::l)
 |.ptr::r,f => ∀p:Option Addr,zH4 r fun l => f (.ptr p::l)
 |.val::r,f => ∀v:Value,zH4 r fun l => f (.val v::l)
def zKC(op:Cmp)(x y:Int):Bool :=
 match op with
 |.eql => decide (x=y)|.neq => decide (x≠y)|.lss => decide (x<y)|.leq => decide (x<=y)|.gtr => decide (y<x)|.geq => decide (y<=x)
def cmpQ(op:Cmp)(x y:Int):Prop :=
 match op with
 |.eql => x=y|.neq => x≠y|.lss => x<y|.leq => x<=y|.gtr => y<x|.geq => y<=x
def zz7(op:Cmp)(x y:ByteArray):Bool :=
 match op with
 |.eql => decide (x=y)|.neq => decide (x≠y)|.lss => decide (sLt x y=true)|.geq => decide (sLt x y=false)|.gtr => decide (sLt y x=true)|.leq => decide (sLt y x=false)
def scmpQ(op:Cmp)(x y:ByteArray):Prop :=
 match op with
 |.eql => x=y|.neq => x≠y|.lss => sLt x y=true|.geq => sLt x y=false|.gtr => sLt y x=true|.leq => sLt y x=false
@[reducible] def sem(P:Program)(Q:Value->World->Prop):Alg where
 I:=Int
 B:=Bool
 Q:=Prop
 S:=ByteArray
 N:=Nat
 P:=Option Addr
 V:=Value
 W:=World
 O:=Prop
 iLit n:=n
 iBin:=zut
 iConv k n:=k.wrap n
 iN n:=(n:Int)
 iLen s:=(s.size:Int)
 iAt:=sAt
 iMin x y:=min x y
 iMax x y:=max x y
 iIte b x y:=bif b then x else y
 bLit b:=b
 bCmp:=zKC
 bSCmp:=zz7
 bNilP p:=p.isNone
 bNot b:=!b
 bAnd x y:=x&&y
 bOr x y:=x||y
 bIte b x y:=bif b then x else y
 qLit b:=if b then True else False
 qCmp:=cmpQ
 qSCmp:=scmpQ
 qNilP is p:=if is then p=none else p≠none
 qAtom is b:=b=is
 qAnd x y:=x/\y
 qOr x y:=x\/y
 sLit s:=s
 sCat x y:=x++y
 sSub s l h:=s.extract l.toNat h.toNat
 sIte b x y:=bif b then x else y
 nLit n:=n
 nI n:=n.toNat
 nSub n i:=n-i.toNat
 pNil:=none
 pAt b n:=some ⟨b,n,none⟩
 pAdd:=pAdd
 pIdx:=pIdx
 pCut:=pCut
 vInt k n:=.int k n
 vBool b:=.bool b
 vStr s:=.string s
 vSlc p l c:=.slice p l c
 vPtr p:=.pointer p
 vAgg l:=.agg l.toArray
 vTup l:=.tuple l.toArray
 vFn f l:=.func (.func f) #[] l.toArray
 vLit v:=v
 vIte b x y:=bif b then x else y
 oTrue:=True
 oFail _:=zxY
 oAnd x y:=x/\y
 oImp q x:=q->x
 oRange:=InR
 oNe0 x:=x≠0
 oNonneg x:=0<=x
 oLe x y:=x<=y
 oLt x y:=x<y
 oSome p:=p≠none
 oCat:=zc2
 oEqV x y:=x=y
 oExt:=Ext
 oKept:=zbY
 oCell ds w p k v:=match ds with|[]=>cell w p k=some v|ds=>cell w p k=some v/\zyu ds p
 oCells:=CellsAre
 exI _ f:=∃x,f x
 exB _ f:=∃x,f x
 exS _ f:=∃x,f x
 exN _ f:=∃x,f x
 exP _ f:=∃x,f x
 exV _ f:=∃x,f x
 allExt ds ns w f:=match ds,ns with
  |[],[] => ∀w',Ext w w'->f w'
  |ds,ns => ∀w',zag ds ns w w'->f w'
 allNum w f:=∀b,w.heap.size<=b->f b
 oFn f args w k:=FnP P f args.toArray w k
 oFnV v args w k:=zgP P v args w k
 oFnB v args w k:=zLr P v args w k
 oInv m v args w k:=zsc P m v args w k
 oRun m w k:=Run P m w k
 oStore w p vs ns f:=zak w p vs ns f
 oOne v:=v.oneCell'=true
 oNew w t vs f:=New w t vs f
 oRet v w:=Q v w
 loop shs init w body :=
  ∃(I:zDY (shs.map (·.2)) Prop) (M:zDY (shs.map (·.2)) Nat),zpA False (shs.map (·.2)) I init w /\
   zH4 (shs.map (·.2)) fun vs=>∀w':World,zpA False (shs.map (·.2)) I vs w' ->
    body (fun vs' w''=>zpA False (shs.map (·.2)) I vs' w''/\zpA 0 (shs.map (·.2)) M vs' w''<zpA 0 (shs.map (·.2)) M vs w') vs w'
 join shs br body :=
  ∃(I:zDY (shs.map (·.2)) Prop),br (fun vs w=>zpA False (shs.map (·.2)) I vs w) /\
   zH4 (shs.map (·.2)) fun vs=>∀w':World,zpA False (shs.map (·.2)) I vs w'->body vs w'
end Go.Sx
namespace Go.Sx
def st0{A:Alg}(ps:List (SV A))(w:A.W):St A :=
 { ov:=ps.zipIdx.map fun x=>(x.2,some (.one x.1,none)),bl:=[],nx:=0,anchor:=w,ax:=0,dirty:=[] }
def zz0{A:Alg}(P:Program)(ro:Ro A)(st:St A):List ResultVar->Option (List (SV A))
 |[] => some []
 |.tmp t::r =>
  match one? ((ro.get st t).bind fun e=>match e.2 with|none=>some e.1|some _=>none),zz0 P ro st r with
  |some v,some l => some (v::l)
  |_,_ => none
 |.cell a t::r =>
  match sc? ((ro.get st a).bind fun e=>match e.2 with|none=>some e.1|some _=>none),zz0 P ro st r with
  |some (.loc j _ off),some l =>
   match ro.blk st j with
   |some b => match zj8 P t b.cells off with
    |some v => bif Nat.beq v.cells.length (P.cellsOf t) then some (v::l) else none
    |none => none
   |none => none
  |_,_ => none
def zz1{A:Alg}(P:Program)(fn:Func)(ro:Ro A)(st:St A):A.O :=
 match zz0 P ro st fn.results.toList with
 | some l => bif l.all za3 then A.allExt (ro.dn st) [] st.anchor fun w => A.oRet (zbW l).toV w else A.oFail "results escape"
 | none => A.oFail "results"
def zKL{A:Alg}(P:Program)(cfg:Cfg)(fn:Func)(c:Code)(ps:List (SV A))(w:A.W):A.O :=
 sx P cfg c { sl:=[],bl:=[] } (st0 ps w) fun e st=>match e with
  | .exit _ => A.oFail "exit"
  |_ => zz1 P fn { sl:=[],bl:=[] } st
end Go.Sx
namespace Go.Sx
open RowKit
variable {P:Program} {Q:Value->World->Prop}
@[simp] theorem toV_int(k:IntKind)(n:Int):(Sc.int k n:Sc (sem P Q)).toV=Value.int k n:=rfl
@[simp] theorem toV_intc (k:IntKind) (n:Int):(Sc.intc k n:Sc (sem P Q)).toV=Value.int k n:=rfl
@[simp] theorem toV_bool (b:BE (sem P Q)):(Sc.bool b:Sc (sem P Q)).toV=Value.bool b.den:=rfl
@[simp] theorem toV_str (s:ByteArray):(Sc.str s:Sc (sem P Q)).toV=Value.string s:=rfl
@[simp] theorem toV_slc (p:Option Addr) (l c:Nat):(Sc.slc p l c:Sc (sem P Q)).toV=Value.slice p l c:=rfl
@[simp] theorem toV_ptr (p:Option Addr):(Sc.ptr p:Sc (sem P Q)).toV=Value.pointer p:=rfl
@[simp] theorem toV_loc (j b off:Nat):(Sc.loc j b off:Sc (sem P Q)).toV=Value.pointer (some ⟨b,off,none⟩):=rfl
@[simp] theorem toV_fn (f:Nat) (cap:List Value):(Sc.fn f cap:Sc (sem P Q)).toV=Value.func (.func f) #[] cap.toArray:=rfl
@[simp] theorem toV_val (v:Value):(Sc.val v:Sc (sem P Q)).toV=v:=rfl
@[simp] theorem toV_sc (x:Sc (sem P Q)):(SV.sc x).toV=x.toV:=rfl
@[simp] theorem toV_agg (l:List (Sc (sem P Q))):(SV.agg l).toV=Value.agg (l.map Sc.toV).toArray:=rfl
@[simp] theorem toV_one (v:SV (sem P Q)):(SL.one v).toV=v.toV:=rfl
@[simp] theorem toV_tup (l:List (SV (sem P Q))):(SL.tup l).toV=Value.tuple (l.map SV.toV).toArray:=rfl
@[simp] theorem toV_undef:(SL.undef:SL (sem P Q)).toV=undef:=rfl
theorem zrJ (v:Value):(ofValue v:Sc (sem P Q)).toV=v:=by
 unfold ofValue
 split<;>rfl
theorem zkg(v:Value):(zkE v:SV (sem P Q)).toV=v:=by
 unfold zkE
 split
 ·rename_i cs
  simp only[toV_agg,List.map_map]
  congr 1
  have:(Sc.toV∘(ofValue:Value->Sc (sem P Q)))=id:=funext fun x=>zrJ x
  rw[this];simp
 ·exact zrJ _
theorem zdN:∀b:BE (sem P Q),b.neg.den=!b.den
 |.lit b => rfl
 |.cmp op x y => by
  show zKC (zOd op) x y=!zKC op x y
  cases op<;>simp[zOd,zKC]<;>(try (rw[Bool.eq_iff_iff];simp))
 |.scmp op x y => by
  show zz7 (zOd op) x y=!zz7 op x y
  cases op<;>simp[zOd,zz7]
 |.nilp is p => by cases is<;>show _=!_<;>simp[BE.neg,BE.den]
 |.atom is b => by cases is<;>show _=!_<;>simp[BE.neg,BE.den]
 |.and x y => by
  show(x.neg.den||y.neg.den)=!(x.den&&y.den)
  rw[zdN x,zdN y];simp
 |.or x y => by
  show(x.neg.den&&y.neg.den)=!(x.den||y.den)
  rw[zdN x,zdN y];simp
theorem ze1:∀b:BE (sem P Q),b.prop↔b.den=true
 |.lit b => by cases b<;>simp[BE.prop,BE.den]
 |.cmp op x y => by
  show cmpQ op x y↔zKC op x y=true
  cases op<;>simp[cmpQ,zKC]
 |.scmp op x y => by
  show scmpQ op x y↔zz7 op x y=true
  cases op<;>simp[scmpQ,zz7]
 |.nilp is p => by cases is<;>cases p<;>simp[BE.prop,BE.den]
 |.atom is b => by cases is<;>simp[BE.prop,BE.den]
 |.and x y => by
  show(x.prop/\y.prop)↔(x.den&&y.den)=true
  rw[ze1 x,ze1 y];simp
 |.or x y => by
  show(x.prop\/y.prop)↔(x.den||y.den)=true
  rw[ze1 x,ze1 y];simp
theorem zES(x y:BE (sem P Q)):(x.mkAnd y).den=(x.den&&y.den):=by
 unfold BE.mkAnd
 split
 ·show _=(true&&_);simp
 ·show false=(false&&_);simp
 ·show _=(_&&true);simp
 ·rfl
theorem zIt(x y:BE (sem P Q)):(x.mkOr y).den=(x.den||y.den):=by
 unfold BE.mkOr
 split
 ·show _=(false||_);simp
 ·show true=(true||_);simp
 ·show _=(_||false);simp
 ·rfl
theorem znr{k:IntKind}{x:Int}(h:InR k x):k.wrap x=x:=by
 obtain⟨h1,h2⟩:=h
 cases k<;>simp[IntKind.min,IntKind.max,IntKind.signed,IntKind.bits] at h1 h2 <;>
  simp[IntKind.wrap,IntKind.signed,IntKind.bits]<;>omega
theorem zwJ{j k:IntKind}(h:kEq j k=true):j=k:=by
 cases j<;>cases k<;>first|rfl|(simp[kEq] at h)
theorem zcE{x:Sc (sem P Q)}{k:IntKind}{n:Int}(h:x.asI=some (k,n)):x.toV=Value.int k n:=by
 cases x<;>simp[Sc.asI] at h
 ·obtain⟨rfl,rfl⟩:=h;rfl
 ·obtain⟨rfl,rfl⟩:=h;rfl
def All:List Prop->Prop
 |[] => True
 |o::r => o/\All r
theorem znv:∀(l r:List Prop),All (l++r)↔(All l/\All r)
 |[],r => by simp[All]
 |o::l,r => by simp[All,znv l r,and_assoc]
theorem zhN:∀(l:List Prop)(k:Prop),(zoR (A:=sem P Q) l k:Prop)↔(All l/\k)
 |[],k => by simp[zoR,All]
 |o::r,k => by
  show(o/\zoR (A:=sem P Q) r k)↔_
  rw[zhN r k]
  simp only[All,and_assoc]
theorem zH8(x y:ByteArray):(x.toList==y.toList)=decide (x=y):=by
 rw[Bool.eq_iff_iff]
 simp only[beq_iff_eq,decide_eq_true_eq]
 constructor
 ·intro h
  have h':x.data.toList=y.data.toList:=by simpa[ByteArray.toList_eq] using h
  cases x;cases y;simp_all
 ·rintro rfl;rfl
theorem zru(op:BinOp)(c:Cmp)(h:zx4 op=some c)(t:TypeId)(k:IntKind)(a b:Int)(w:World) :
  (binOp op t (.int k a) (.int k b)).run P w=.ok (.bool (zKC c a b)) w:=by
 cases op<;>simp[zx4] at h<;>subst h<;>simp[binOp,Op.intCmp,zKC]<;>first|rfl|(rw[Bool.eq_iff_iff];simp)
theorem dT(b:Bool)(i:Decidable (b=true)):@decide (b=true) i=b:=by cases b<;>simp
theorem dF(b:Bool)(i:Decidable (b=false)):@decide (b=false) i=!b:=by cases b<;>simp
theorem zz4(op:BinOp)(c:Cmp)(h:zx4 op=some c)(t:TypeId)(a b:ByteArray)(w:World) :
  (binOp op t (.string a) (.string b)).run P w=.ok (.bool (zz7 c a b)) w:=by
 have tri:∀x y:List UInt8,(Op.bytesLess x y||x==y)=!Op.bytesLess y x:=by
  intro x
  induction x with
  |nil => intro y;cases y<;>simp[Op.bytesLess]
  |cons a x ih =>
   intro y
   cases y with
   |nil => simp[Op.bytesLess]
   |cons b y =>
    have h:=ih y
    simp only[Op.bytesLess]
    rcases Nat.lt_trichotomy a.toNat b.toNat with hl|he|hg
    ·have h1:a<b:=UInt8.lt_iff_toNat_lt.2 hl
     have h2:¬b<a:=fun h=>by have:=UInt8.lt_iff_toNat_lt.1 h;omega
     have h3:b≠a:=fun h=>by rw[h] at hl;omega
     simp[h1,h2,h3]
    ·have h0:a=b:=UInt8.toNat_inj.1 he
     subst h0
     have h1:¬a<a:=fun h=>by have:=UInt8.lt_iff_toNat_lt.1 h;omega
     simp only[h1,decide_false,Bool.false_or,beq_self_eq_true,Bool.true_and]
     rw[<-h];simp
    ·have h1:b<a:=UInt8.lt_iff_toNat_lt.2 hg
     have h2:¬a<b:=fun h=>by have:=UInt8.lt_iff_toNat_lt.1 h;omega
     have h3:a≠b:=fun h=>by rw[h] at hg;omega
     simp[h1,h2,h3]
 cases op<;>simp[zx4] at h<;>subst h<;>simp only[binOp,Op.stringOp,zz7,zH8,Sem.run_pure]
 ·congr 2;simp
 ·rw[dT];rfl
 ·rw[<-zH8,tri,dF];rfl
 ·rw[<-zH8,tri,dT,Bool.not_not];rfl
 ·rw[dF];rfl
theorem zIs(eq:Bool)(x y:BE (sem P Q)):(beEq eq x y).den=((x.den==y.den)==eq):=by
 unfold beEq
 split
 ·rename_i b
  have:(BE.lit b:BE (sem P Q)).den=b:=rfl
  rw[this]
  cases b<;>cases eq<;>simp[zdN]
 ·rename_i b _
  have:(BE.lit b:BE (sem P Q)).den=b:=rfl
  rw[this]
  cases b<;>cases eq<;>simp[zdN]
 ·cases eq
  ·show((x.den&&y.neg.den)||(x.neg.den&&y.den))=_
   rw[zdN,zdN];cases x.den<;>cases y.den<;>rfl
  ·show((x.den&&y.den)||(x.neg.den&&y.neg.den))=_
   rw[zdN,zdN];cases x.den<;>cases y.den<;>rfl
theorem ztM{x:Sc (sem P Q)}{k:IntKind}{n:Int}(h:All (zuP x))(hx:x.asI=some (k,n)):n≠0:=by
 cases x<;>simp[Sc.asI] at hx
 ·obtain⟨rfl,rfl⟩:=hx;exact h.1
 ·rename_i m
  obtain⟨rfl,rfl⟩:=hx
  intro h0
  have h0:m=0:=h0
  subst h0
  simp[zuP,All,zxY] at h
theorem zF0{x:Sc (sem P Q)}{k:IntKind}{n:Int}(h:All (zFZ x))(hx:x.asI=some (k,n)):(0:Int)<=n:=by
 cases x<;>simp[Sc.asI] at hx
 ·obtain⟨rfl,rfl⟩:=hx;exact h.1
 ·rename_i m
  obtain⟨rfl,rfl⟩:=hx
  show(0:Int)<=m
  apply Int.not_lt.1
  intro h0
  simp[zFZ,h0,All,zxY] at h
theorem zoo{wr:Bool}{op:BinOp}{k:IntKind}{a b:Int}{sy z:Sc (sem P Q)}{k':IntKind}{obs:List Prop}(hs:sy.asI=some (k',b))
  (h:zoS wr op k a b sy=some (obs,z)) (ho:All obs) (hsh:op≠.shl/\op≠.shr) (t:TypeId) (w:World) :
  (binOp op t (.int k a) (.int k b)).run P w=.ok z.toV w:=by
 unfold zoS at h
 split at h
 ·rename_i c hc
  simp only[Option.some.injEq,Prod.mk.injEq] at h
  obtain⟨rfl,rfl⟩:=h
  exact zru op c hc t k a b w
 ·cases op<;>simp[zx4] at *<;>obtain⟨rfl,rfl⟩:=h
  case add=>cases wr<;>simp[binOp,Op.intArith,zut];exact(znr ho.1)
  case sub=>cases wr<;>simp[binOp,Op.intArith,zut];exact(znr ho.1)
  case mul=>cases wr<;>simp[binOp,Op.intArith,zut];exact(znr ho.1)
  case quo =>
   rw[znv] at ho
   have h0:=ztM ho.1 hs
   cases wr<;>simp[binOp,Op.intDiv,zut,h0]
   exact znr ho.2.1
  case rem =>
   have h0:=ztM ho hs
   simp[binOp,Op.intDiv,zut,h0]
  all_goals simp[binOp,Op.intBits,zut,zan]
theorem zwi(d:Nat){t:TypeId}(ht:P.underlying t=some .bool)(a b:Bool)(w:World):(Op.equalIn (d+1) t (.bool a) (.bool b)).run P w=.ok (a==b) w:=by
 simp only[Op.equalIn,Sem.run_bind,run_underlying ht,Result.andThen_ok,Sem.run_pure]
theorem zmw(d:Nat){t e:TypeId}(ht:P.underlying t=some (.slice e))(p:Option Addr)(l c:Nat)(w:World):(Op.equalIn (d+1) t (.slice p l c) (.slice none 0 0)).run P w=.ok p.isNone w:=by
 cases p<;>simp[Op.equalIn,Sem.run_bind,run_underlying ht]
theorem zqv(d:Nat){t e:TypeId}(ht:P.underlying t=some (.pointer e))(p:Option Addr)(w:World):(Op.equalIn (d+1) t (.pointer p) (.pointer none)).run P w=.ok p.isNone w:=by
 cases p<;>simp[Op.equalIn,Sem.run_bind,run_underlying ht]
def zOg(x:Sc (sem P Q)):Value:=match x with|.slc ..=>.slice none 0 0|_=>.pointer none
theorem zGG{op:BinOp}{t:TypeId}{x z:Sc (sem P Q)}{obs:List Prop}(h:zDe P op t x=some (obs,z))(w:World) :
  (binOp op t x.toV (zOg x)).run P w=.ok z.toV w:=by
 unfold zDe at h
 split at h<;>simp only[Option.some.injEq,Prod.mk.injEq,reduceCtorEq] at h<;>obtain⟨rfl,rfl⟩:=h
 ·rename_i p l c e ht
  have e:(Op.equal t (.slice p l c) (.slice none 0 0)).run P w=.ok (Option.isNone p) w:=zmw (P:=P) 9999 ht p l c w
  simp only[toV_slc,zOg,binOp,Sem.run_bind,e,Result.andThen_ok,Sem.run_pure,toV_bool];rfl
 ·rename_i p l c e ht
  have e:(Op.equal t (.slice p l c) (.slice none 0 0)).run P w=.ok (Option.isNone p) w:=zmw (P:=P) 9999 ht p l c w
  simp only[toV_slc,zOg,binOp,Sem.run_bind,e,Result.andThen_ok,Sem.run_pure,toV_bool];rfl
 ·rename_i p e ht
  have e:(Op.equal t (.pointer p) (.pointer none)).run P w=.ok (Option.isNone p) w:=zqv (P:=P) 9999 ht p w
  simp only[toV_ptr,zOg,binOp,Sem.run_bind,e,Result.andThen_ok,Sem.run_pure,toV_bool];rfl
 ·rename_i p e ht
  have e:(Op.equal t (.pointer p) (.pointer none)).run P w=.ok (Option.isNone p) w:=zqv (P:=P) 9999 ht p w
  simp only[toV_ptr,zOg,binOp,Sem.run_bind,e,Result.andThen_ok,Sem.run_pure,toV_bool];rfl
theorem zDn{op:BinOp}{x y:BE (sem P Q)}{z:Sc (sem P Q)}{obs:List Prop}{t:TypeId}(ht:P.underlying t=some .bool)
  (h:zAW op x y=some (obs,z)) (w:World):(binOp op t (.bool x.den) (.bool y.den)).run P w=.ok z.toV w:=by
 have e:(Op.equal t (.bool x.den) (.bool y.den)).run P w=.ok (x.den==y.den) w:=by
  exact zwi 9999 ht _ _ w
 cases op<;>simp only[zAW,Option.some.injEq,Prod.mk.injEq,reduceCtorEq] at h<;>obtain⟨rfl,rfl⟩:=h <;>
  simp only[binOp,Sem.run_bind,e,Result.andThen_ok,Sem.run_pure,toV_bool,zIs]<;>congr 2<;>cases x.den<;>cases y.den<;>rfl
theorem zGI{op:BinOp}{x y:ByteArray}{z:Sc (sem P Q)}{obs:List Prop}{t:TypeId}
  (h:zJ2 (A:=sem P Q) op x y=some (obs,z)) (ho:All obs) (w:World):(binOp op t (.string x) (.string y)).run P w=.ok z.toV w:=by
 unfold zJ2 at h
 split at h
 ·rename_i c hc
  simp only[Option.some.injEq,Prod.mk.injEq] at h
  obtain⟨rfl,rfl⟩:=h
  exact zz4 op c hc t x y w
 ·cases op<;>simp at h
  obtain⟨rfl,rfl⟩:=h
  have h1:x.size+y.size<=9223372036854775807:=ho.1
  have h2:¬(((x.size+y.size:Nat):Int)>IntKind.max .i64):=by
   simp only[IntKind.max,IntKind.signed,IntKind.bits];simp;omega
  simp only[binOp,Op.stringOp]
  rw[if_neg h2];rfl
theorem zz6{op:BinOp}(hop:zhj op=true){x y z:Sc (sem P Q)}{obs:List Prop}
  (h:zry op x y=some (obs,z)) (ho:All obs) (t:TypeId) (w:World):(binOp op t x.toV y.toV).run P w=.ok z.toV w:=by
 unfold zry at h
 split at h
 ·rename_i k a hx
  split at h
  ·rename_i k' b hy
   simp only[Option.some.injEq,Prod.mk.injEq] at h
   obtain⟨rfl,rfl⟩:=h
   have hb:=zF0 ho hy
   rw[zcE hx,zcE hy]
   have hb':¬b<0:=Int.not_lt.2 hb
   cases op<;>simp[zhj] at hop<;>simp[binOp,Op.shift,zut,zan,hb']
  ·simp at h
 ·simp at h
theorem zxN{wr:Bool}{op:BinOp}(hop:zhj op=false){x y z:Sc (sem P Q)}{obs:List Prop}
  (h:zzo wr op x y=some (obs,z)) (ho:All obs) (t:TypeId) (w:World):(binOp op t x.toV y.toV).run P w=.ok z.toV w:=by
 unfold zzo at h
 split at h
 ·rename_i k a hx
  split at h
  ·rename_i k' b hy
   cases hk:kEq k k'
   ·rw[hk] at h;simp at h
   ·rw[hk] at h
    obtain rfl:=zwJ hk
    simp only[cond_true] at h
    rw[zcE hx,zcE hy]
    exact zoo hy h ho (by cases op<;>simp_all[zhj]) t w
  ·simp at h
 ·simp at h
theorem zGE{wr:Bool}{op:BinOp}(hop:zhj op=false){k:IntKind}{a b:Int}{z:Sc (sem P Q)}{obs:List Prop}
  (h:zJe (A:=sem P Q) wr op k a b=some (obs,z)) (ho:All obs) (t:TypeId) (w:World):(binOp op t (.int k a) (.int k b)).run P w=.ok z.toV w:=by
 unfold zJe at h
 split at h
 ·rename_i c hc
  simp only[Option.some.injEq,Prod.mk.injEq] at h
  obtain⟨rfl,rfl⟩:=h
  rw[zru op c hc t k a b w]
  simp only[toV_bool]
  congr 2
  cases c<;>simp[zKC,zKD,BE.den]
 ·exact zoo (sy:=.intc k b) rfl h ho (by cases op<;>simp_all[zhj]) t w
theorem zGC{wr:Bool}{op:BinOp}{x y z:Sc (sem P Q)}{obs:List Prop}{t:TypeId}(ht:zuy x=true->P.underlying t=some .bool)
  (h:zv7 wr op x y=some (obs,z)) (ho:All obs) (w:World):(binOp op t x.toV y.toV).run P w=.ok z.toV w:=by
 unfold zv7 at h
 cases hop:zhj op
 ·rw[hop] at h
  simp only[cond_false] at h
  split at h
  ·split at h
   ·exact zDn (ht rfl) h w
   ·simp at h
  ·split at h
   ·exact zGI h ho w
   ·simp at h
  ·split at h
   ·rename_i k a _ k' b
    cases hk:kEq k k'
    ·rw[hk] at h;simp at h
    ·rw[hk] at h
     obtain rfl:=zwJ hk
     exact zGE hop h ho t w
   ·exact zxN hop h ho t w
  ·exact zxN hop h ho t w
 ·rw[hop] at h
  exact zz6 hop h ho t w
def zjC(ops:Array Oper)(a:Act)(k:Nat×Bool):Prop:=yielded ops a.tmps k.1=some k.2
def zMx(ops:Array Oper)(a:Act)(i:Nat)(e:Ent (sem P Q)):Prop :=
 match e.2 with
 |none => a.tmps.getD i undef=e.1.toV
 |some k => (zjC ops a k->a.tmps.getD i undef=e.1.toV)/\(¬zjC ops a k->a.tmps.getD i undef=undef)
structure zvP(cfg:Cfg)(ops:Array Oper)(ro:Ro (sem P Q))(st:St (sem P Q))(a:Act):Prop where
 size:a.tmps.size=cfg.N
 defers:a.defers=[]
 fr:∀i e,ro.get st i=some e->zMx ops a i e
def znH(w:World)(b:Blk (sem P Q)):Prop:=w.heap[(b.num:Nat)]?=some (.cells (b.cells.map Sc.toV).toArray b.ty)
structure zck(ro:Ro (sem P Q))(st:St (sem P Q))(w:World):Prop where
 but:But (ro.dn st) st.anchor w
 bk:∀j b,ro.blk st j=some b->znH w b
 lt:∀j b,ro.blk st j=some b->j<st.nx
 ord:∀i j b c,ro.blk st i=some b->ro.blk st j=some c->i<j->(b.num:Nat)<c.num
 ax:∀j b,ro.blk st j=some b->st.ax<=j->(World.heap st.anchor).size<=b.num
 nol:∀j b,ro.blk st j=some b->b.cells.all zcs=true
 same:∀j b b0,zdZ ro.bl j=some b0->ro.blk st j=some b->b.num=b0.num/\b.ty=b0.ty
theorem sc?_some{r:Option (SL (sem P Q))}{x:Sc (sem P Q)}(h:sc? r=some x):r=some (.one (.sc x)):=by
 unfold sc? at h;split at h<;>simp_all
theorem one?_some{r:Option (SL (sem P Q))}{x:SV (sem P Q)}(h:one? r=some x):r=some (.one x):=by
 unfold one? at h;split at h<;>simp_all
def zbM(a:Act)(rd:Operand->Option (SL (sem P Q))):Prop:=∀x v,rd x=some v->a.eval x=v.toV
theorem zbM.sc{a:Act}{rd:Operand->Option (SL (sem P Q))}(h:zbM a rd){x:Operand}{v:Sc (sem P Q)}(hx:sc? (rd x)=some v):a.eval x=v.toV:=by
 have:=h x _ (sc?_some hx)
 simpa using this
theorem zbM.one{a:Act}{rd:Operand->Option (SL (sem P Q))}(h:zbM a rd){x:Operand}{v:SV (sem P Q)}(hx:one? (rd x)=some v):a.eval x=v.toV:=by
 have:=h x _ (one?_some hx)
 simpa using this
theorem zrv{op:BinOp}{t:TypeId}{x y:Operand}{u v:Value}(h:(∃k n,u=.int k n)\/(∃b,u=.bool b)\/(∃s,u=.string s)\/(∃p l c,u=.slice p l c)\/(∃p,u=.pointer p))(w:World) :
  (eqGuard op t x y u v).run P w=.ok () w:=by
 unfold eqGuard
 rcases h with⟨k,n,rfl⟩|⟨b,rfl⟩|⟨s,rfl⟩|⟨p,l,c,rfl⟩|⟨p,rfl⟩<;>simp<;>split<;>simp
def zbs(P:Program)(o:Oper)(a:Act)(w:World)(v:Value):Prop:=(execOp a.eval o).run P w=.ok (.value v) w
section
variable {a:Act} {w:World} {rd:Operand->Option (SL (sem P Q))} {o:Oper}
theorem za5{s:Sem Value}{v:Value}(h:execOp a.eval o=(do pure (.value (<-s))))(hs:s.run P w=.ok v w):zbs P o a w v:=by
 unfold zbs;rw[h];simp[hs]
theorem zKM{x:Operand}{v:SL (sem P Q)}(ho:o.op=.move x\/o.op=.assign x)(hr:zbM a rd)(h:rd x=some v):zbs P o a w v.toV:=by
 have:=hr x v h
 unfold zbs
 rcases ho with ho|ho<;>simp[execOp,ho,this]
theorem zCX{x z:Sc (sem P Q)}{wr:Bool}{op:BinOp}{y:Sc (sem P Q)}{obs:List Prop}(h:zv7 wr op x y=some (obs,z)) :
  (∃k n,x.toV=.int k n)\/(∃b,x.toV=.bool b)\/(∃s,x.toV=.string s):=by
 cases x with
 |int k n => exact .inl ⟨k,n,rfl⟩
 |intc k n => exact .inl ⟨k,n,rfl⟩
 |bool b => exact .inr (.inl ⟨b.den,rfl⟩)
 |str s => exact .inr (.inr ⟨s,rfl⟩)
 |_ => cases op<;>simp[zv7,zhj,zry,zzo,Sc.asI] at h
theorem zML{op:BinOp}{t u:TypeId}{x y:Operand}{wr:Bool}{sx sy z:Sc (sem P Q)}{obs:List Prop}(ho:o.op=.binOp op t x y u)(hr:zbM a rd)
  (hx:sc? (rd x)=some sx) (hy:sc? (rd y)=some sy) (hb:zuy sx=true->P.underlying t=some .bool) (h:zv7 wr op sx sy=some (obs,z)) (hobs:All obs):zbs P o a w z.toV:=by
 refine za5 (s:=do eqGuard op t x y (a.eval x) (a.eval y);binOp op t (a.eval x) (a.eval y)) (by simp[execOp,ho]) ?_
 rw[hr.sc hx,hr.sc hy]
 have hg:(∃k n,sx.toV=.int k n)\/(∃b,sx.toV=.bool b)\/(∃s,sx.toV=.string s)\/(∃p l c,sx.toV=.slice p l c)\/(∃p,sx.toV=.pointer p):=by
  rcases zCX h with h|h|h
  ·exact .inl h
  ·exact .inr (.inl h)
  ·exact .inr (.inr (.inl h))
 simp only[Sem.run_bind,zrv hg,Result.andThen_ok]
 exact zGC hb h hobs w
theorem g_nil{op:BinOp}{t u:TypeId}{x y:Operand}{sx z:Sc (sem P Q)}{obs:List Prop}(ho:o.op=.binOp op t x y u)(hr:zbM a rd)
  (hx:sc? (rd x)=some sx) (hf:znZ sx y=true)
  (h:zDe P op t sx=some (obs,z)):zbs P o a w z.toV:=by
 refine za5 (s:=do eqGuard op t x y (a.eval x) (a.eval y);binOp op t (a.eval x) (a.eval y)) (by simp[execOp,ho]) ?_
 rw[hr.sc hx]
 have key:=zGG h w
 have hg:(∃k n,sx.toV=.int k n)\/(∃b,sx.toV=.bool b)\/(∃s,sx.toV=.string s)\/(∃p l c,sx.toV=.slice p l c)\/(∃p,sx.toV=.pointer p):=by
  cases sx with
  |slc p l c => exact .inr (.inr (.inr (.inl ⟨p,l,c,rfl⟩)))
  |ptr p => exact .inr (.inr (.inr (.inr ⟨p,rfl⟩)))
  |_ => simp[znZ] at hf
 simp only[Sem.run_bind,zrv hg,Result.andThen_ok]
 have hy:a.eval y=zOg sx:=by
  cases sx with
  |slc p l c =>
   simp only[znZ,Bool.and_eq_true] at hf
   have h2:=hf.2
   unfold zkB at h2
   split at h2
   ·rfl
   ·simp at h2
  |ptr p =>
   simp only[znZ,Bool.and_eq_true,Bool.not_eq_true'] at hf
   have h1:=hf.1
   unfold zFG at h1
   split at h1
   ·simp[zkB] at hf
   ·rfl
   ·simp at h1
  |_ => simp[znZ] at hf
 rw[hy];exact key
theorem zmE{t:TypeId}{d:TypeDesc}(h:P.underlying t=some d):∃i,P.info? t=some i:=by
 unfold Program.underlying at h
 cases hi:P.info? t with
 |none => simp[hi] at h
 |some i => exact⟨i,rfl⟩
theorem zbT{t:TypeId}{d:TypeDesc}(h:P.underlying t=some d)(w:World):(sizeOf t).run P w=.ok (P.cellsOf t) w:=by
 obtain⟨i,hi⟩:=zmE h
 simp[sizeOf,typeInfo,hi,Program.cellsOf]
theorem zeQ{t:TypeId}{d:TypeDesc}(h:P.underlying t=some d)(w:World):(isAgg t).run P w=.ok (zdu P t) w:=by
 simp only[isAgg,Sem.run_bind,run_underlying h,Result.andThen_ok,zdu,h]
 cases d<;>rfl
theorem zlY{α:Type}:∀(n:Nat)(l:List α),zeo n l=l.take n
 |0,l => by simp[zeo]
 |n+1,[] => by simp[zeo]
 |n+1,x::r => by simp[zeo,zlY n r]
theorem zeb{α:Type}:∀(n:Nat)(l:List α),zbR n l=l.drop n
 |0,l => by simp[zbR]
 |n+1,[] => by simp[zbR]
 |n+1,x::r => by simp[zbR,zeb n r]
theorem zi0{α β:Type}(f:α->β):∀(vs:List α)(l:List α)(i:Nat),(zaE l i vs).map f=zaE (l.map f) i (vs.map f)
 |[],l,i => by simp[zaE]
 |v::r,l,i => by simp[zaE,zi0 f r,List.map_set]
theorem zJQ{t:TypeId}{cs:List (Sc (sem P Q))}{off:Nat}{v:SV (sem P Q)}(h:zj8 P t cs off=some v)(w:World) :
  (part t (cs.map Sc.toV).toArray off).run P w=.ok v.toV w:=by
 unfold zj8 at h
 split at h
 ·simp at h
 ·rename_i d hd
  simp only[part,Sem.run_bind,zeQ hd,Result.andThen_ok]
  cases ha:zdu P t
  ·rw[ha] at h
   simp only[cond_false,zeb] at h
   split at h
   ·rename_i x r hx
    simp only[Option.some.injEq] at h
    subst h
    have h2:cs[off]?=some x:=by
     have:=congrArg (fun l=>l[0]?) hx
     simpa using this
    simp[h2]
   ·simp at h
  ·rw[ha] at h
   simp only[cond_true,Option.some.injEq] at h
   subst h
   simp only[if_true,Sem.run_bind,zbT hd,Result.andThen_ok,Sem.run_pure,toV_agg,zlY,zeb]
   congr 2
   simp[List.map_take,List.map_drop]
theorem zFb{x:Operand}{i:Nat}{l:List (SV (sem P Q))}{v:SV (sem P Q)}{r:List (SV (sem P Q))}(ho:o.op=.extract x i)(hr:zbM a rd)(hx:rd x=some (.tup l))
  (h:zbR i l=v::r):zbs P o a w v.toV:=by
 have e:=hr x _ hx
 rw[zeb] at h
 have h2:l[i]?=some v:=by
  have:=congrArg (fun l=>l[0]?) h
  simpa using this
 refine za5 (s:=Instr.extract (a.eval x) i) (by simp[execOp,ho]) ?_
 rw[e]
 simp[Instr.extract,h2]
theorem zoU{t:TypeId}{f off:Nat}{u:TypeId}(h:zhi P t f=some (off,u)):∃fs:Array Field,∃x:Field,P.underlying t=some (.struct fs)/\fs[f]?=some x/\x.offset=off/\x.type=u:=by
 unfold zhi at h
 split at h
 ·rename_i fs hu
  split at h
  ·rename_i x hx
   simp only[Option.some.injEq,Prod.mk.injEq] at h
   exact⟨fs,x,hu,hx,h.1,h.2⟩
  ·simp at h
 ·simp at h
theorem zMN{t u:TypeId}{x:Operand}{f off:Nat}{cs:List (Sc (sem P Q))}{v:SV (sem P Q)}(ho:o.op=.field t x f)(hr:zbM a rd)(hx:rd x=some (.one (.agg cs)))
  (hf:zhi P t f=some (off,u)) (h:zj8 P u cs off=some v):zbs P o a w v.toV:=by
 have e:=hr x _ hx
 obtain⟨fs,y,h1,h2,rfl,rfl⟩:=zoU hf
 refine za5 (s:=Instr.field t (a.eval x) f) (by simp[execOp,ho]) ?_
 rw[e]
 simp only[Instr.field,Sem.run_bind,run_underlying h1,Result.andThen_ok,h2,toV_one,toV_agg,asAgg,Sem.run_pure]
 exact zJQ h w
theorem zsl{x:Operand}{p:Option Addr}(ho:o.op=.nilCheck x)(hr:zbM a rd)(hx:sc? (rd x)=some (.ptr p))(hp:p≠none):zbs P o a w (.pointer p):=by
 have e:=hr.sc hx
 simp only[toV_ptr] at e
 cases p with
 |none => exact absurd rfl hp
 |some q => unfold zbs;simp[execOp,ho,e]
theorem zsk{x:Operand}{j off:Nat}{b:Nat}(ho:o.op=.nilCheck x)(hr:zbM a rd)(hx:sc? (rd x)=some (Sc.loc (A:=sem P Q) j b off)):zbs P o a w (.pointer (some ⟨b,off,none⟩)):=by
 have e:=hr.sc hx
 simp only[toV_loc] at e
 unfold zbs;simp[execOp,ho,e]
theorem zrw{t u:TypeId}{f off:Nat}(hf:zhi P t f=some (off,u))(h0:(P.cellsOf u).beq 0=false)(q:Addr)(w:World) :
  (Instr.fieldAt t (.pointer (some q)) f).run P w=.ok (.pointer (some (q.add off))) w:=by
 obtain⟨fs,y,h1,h2,rfl,rfl⟩:=zoU hf
 have hne:P.cellsOf y.type≠0:=fun h=>by rw[h] at h0;simp at h0
 have hs:(sizeOf y.type).run P w=.ok (P.cellsOf y.type) w:=by
  unfold Program.cellsOf at *
  cases hi:P.info? y.type with
  |none => simp[hi] at hne
  |some i => simp[sizeOf,typeInfo,hi]
 simp only[Instr.fieldAt,Sem.run_bind,run_underlying h1,Result.andThen_ok,h2,Instr.sureAddr,Sem.run_pure,fieldPlace,hs,hne,if_false]
theorem znC(b o n:Nat):(⟨b,o,none⟩:Addr).add n=⟨b,o+n,none⟩:=by
 unfold Addr.add;split<;>simp_all
theorem zqD{t u:TypeId}{x:Operand}{f off j o':Nat}{b:Nat}(ho:o.op=.fieldAddr t x f)(hr:zbM a rd)(hx:sc? (rd x)=some (Sc.loc (A:=sem P Q) j b o'))
  (hf:zhi P t f=some (off,u)) (h0:(P.cellsOf u).beq 0=false):zbs P o a w (.pointer (some ⟨b,o'+off,none⟩)):=by
 have e:=hr.sc hx
 refine za5 (s:=Instr.fieldAt t (a.eval x) f) (by simp[execOp,ho]) ?_
 rw[e]
 simp only[toV_loc]
 rw[zrw hf h0,znC]
theorem zqE{t u:TypeId}{x:Operand}{f off:Nat}{p:Option Addr}(ho:o.op=.fieldAddr t x f)(hr:zbM a rd)(hx:sc? (rd x)=some (Sc.ptr (A:=sem P Q) p))
  (hf:zhi P t f=some (off,u)) (h0:(P.cellsOf u).beq 0=false) (hp:p≠none):zbs P o a w (.pointer (pAdd p off)):=by
 have e:=hr.sc hx
 cases p with
 |none => exact absurd rfl hp
 |some q =>
  refine za5 (s:=Instr.fieldAt t (a.eval x) f) (by simp[execOp,ho]) ?_
  rw[e]
  simp only[toV_ptr]
  rw[zrw hf h0];rfl
theorem zqH{t e:TypeId}{x ix:Operand}{p:Option Addr}{l c:Nat}{si:Sc (sem P Q)}{k:IntKind}{n:Int}(ho:o.op=.indexAddr t x ix)(hr:zbM a rd)
  (hx:sc? (rd x)=some (Sc.slc (A:=sem P Q) p l c)) (hi:sc? (rd ix)=some si) (hk:si.asI=some (k,n)) (ht:P.underlying t=some (.slice e)) (he:(P.underlying e).isSome=true)
  (hp:p≠none) (h0:0<=n) (h1:n<(l:Int)):zbs P o a w (.pointer (pIdx p n (P.cellsOf e))):=by
 have ex:=hr.sc hx
 have ei:=hr.sc hi
 rw[zcE hk] at ei
 obtain⟨d,hd⟩:=Option.isSome_iff_exists.1 he
 cases p with
 |none => exact absurd rfl hp
 |some q =>
  refine za5 (s:=Instr.indexAt t (a.eval x) (a.eval ix)) (by simp[execOp,ho]) ?_
  rw[ex,ei]
  simp[Instr.indexAt,asIntOf,run_underlying ht,h0,h1,zbT hd,pIdx]
theorem zqG{t e:TypeId}{x ix:Operand}{p:Option Addr}{l:Nat}{si:Sc (sem P Q)}{k:IntKind}{n:Int}(ho:o.op=.indexAddr t x ix)(hr:zbM a rd)
  (hx:sc? (rd x)=some (Sc.ptr (A:=sem P Q) p)) (hi:sc? (rd ix)=some si) (hk:si.asI=some (k,n)) (ht:P.underlying t=some (.array l e)) (he:(P.underlying e).isSome=true)
  (hp:p≠none) (h0:0<=n) (h1:n<(l:Int)):zbs P o a w (.pointer (pIdx p n (P.cellsOf e))):=by
 have ex:=hr.sc hx
 have ei:=hr.sc hi
 rw[zcE hk] at ei
 obtain⟨d,hd⟩:=Option.isSome_iff_exists.1 he
 cases p with
 |none => exact absurd rfl hp
 |some q =>
  refine za5 (s:=Instr.indexAt t (a.eval x) (a.eval ix)) (by simp[execOp,ho]) ?_
  rw[ex,ei]
  simp[Instr.indexAt,asIntOf,run_underlying ht,h0,h1,zbT hd,pIdx,Instr.sureAddr]
theorem zqF{t e:TypeId}{x ix:Operand}{j off:Nat}{b:Nat}{l:Nat}{k:IntKind}{n:Int}(ho:o.op=.indexAddr t x ix)(hr:zbM a rd)
  (hx:sc? (rd x)=some (Sc.loc (A:=sem P Q) j b off)) (hi:sc? (rd ix)=some (Sc.intc k n)) (ht:P.underlying t=some (.array l e)) (he:(P.underlying e).isSome=true)
  (h0:0<=n) (h1:n<(l:Int)):zbs P o a w (.pointer (some ⟨b,off+n.toNat*P.cellsOf e,none⟩)):=by
 have ex:=hr.sc hx
 have ei:=hr.sc hi
 obtain⟨d,hd⟩:=Option.isSome_iff_exists.1 he
 refine za5 (s:=Instr.indexAt t (a.eval x) (a.eval ix)) (by simp[execOp,ho]) ?_
 rw[ex,ei]
 simp[Instr.indexAt,asIntOf,run_underlying ht,h0,h1,zbT hd,Instr.sureAddr,znC]
theorem zze{t:TypeId}{x ix:Operand}{s:ByteArray}{si:Sc (sem P Q)}{k:IntKind}{n:Int}(ho:o.op=.index t x ix)(hr:zbM a rd)
  (hx:sc? (rd x)=some (Sc.str (A:=sem P Q) s)) (hi:sc? (rd ix)=some si) (hk:si.asI=some (k,n)) (ht:P.underlying t=some .string)
  (h0:0<=n) (h1:n<(s.size:Int)):zbs P o a w (.int .u8 (sAt s n)):=by
 have ex:=hr.sc hx
 have ei:=hr.sc hi
 rw[zcE hk] at ei
 refine za5 (s:=Instr.index t (a.eval x) (a.eval ix)) (by simp[execOp,ho]) ?_
 rw[ex,ei]
 have hn:n.toNat<s.size:=by omega
 have hb:s[n.toNat]?=some s[n.toNat]:=by simp[hn]
 have hd:s.data.toList[n.toNat]?=some s[n.toNat]:=by
  rw[List.getElem?_eq_getElem (by simpa using hn)];rfl
 simp[Instr.index,asIntOf,run_underlying ht,h0,hb,sAt,hd]
theorem zcq{v:Value}{k:IntKind}{n:Int}{y:Nat}{code:BoundsCode}(hv:v=.int k n)(h0:0<=n)(h1:n<=(y:Int))(w:World):(Instr.sliceBound v y code).run P w=.ok n.toNat w:=by
 subst hv
 simp[Instr.sliceBound,asIntOf,h0,h1]
theorem zfN{a:Act}{rd:Operand->Option (SL (sem P Q))}(hr:zbM a rd){y:Operand}{d n:Int}(h:zf7 (A:=sem P Q) rd (some y) d=some n):∃k,a.eval y=.int k n:=by
 unfold zf7 at h
 simp only[Option.bind_eq_some_iff] at h
 obtain⟨s,hs,h⟩:=h
 cases hk:s.asI with
 |none => rw[hk] at h;simp at h
 |some kn =>
  obtain⟨k,m⟩:=kn
  rw[hk] at h
  simp only[Option.map_some,Option.some.injEq] at h
  subst h
  exact⟨k,by rw[hr.sc hs,zcE hk]⟩
theorem zzg{t:TypeId}{x:Operand}{lo hi:Option Operand}{s:ByteArray}{l h:Int}(ho:o.op=.slice t x lo hi none)(hr:zbM a rd)
  (hx:sc? (rd x)=some (Sc.str (A:=sem P Q) s)) (ht:P.underlying t=some .string) (hl:zf7 (A:=sem P Q) rd lo (0:Int)=some l) (hh:zf7 (A:=sem P Q) rd hi (s.size:Int)=some h)
  (h0:0<=l) (h1:l<=h) (h2:h<=(s.size:Int)):zbs P o a w (.string (s.extract l.toNat h.toNat)):=by
 have ex:=hr.sc hx
 refine za5 (s:=Instr.sliceAt t (a.eval x) (lo.map a.eval) (hi.map a.eval) (Option.map a.eval none)) (by simp[execOp,ho]) ?_
 rw[ex]
 have hb:∀w,(Instr.sliceBounds false s.size s.size (lo.map a.eval) (hi.map a.eval) none).run P w=.ok (l.toNat,h.toNat,s.size) w:=by
  intro w
  unfold Instr.sliceBounds
  cases hi with
  |none =>
   simp only[zf7,Option.some.injEq] at hh
   subst hh
   cases lo with
   |none =>
    simp only[zf7,Option.some.injEq] at hl
    subst hl
    simp
   |some y =>
    obtain⟨k,hk⟩:=zfN hr hl
    simp only[Option.map_none,Option.map_some,pure_bind,Sem.run_bind]
    rw[zcq hk h0 (by omega)]
    simp
  |some z =>
   obtain⟨k',hk'⟩:=zfN hr hh
   cases lo with
   |none =>
    simp only[zf7,Option.some.injEq] at hl
    subst hl
    simp only[Option.map_none,Option.map_some,pure_bind,Sem.run_bind]
    rw[zcq hk' (by omega) h2]
    simp
   |some y =>
    obtain⟨k,hk⟩:=zfN hr hl
    simp only[Option.map_some,pure_bind,Sem.run_bind]
    rw[zcq hk' (by omega) h2]
    simp only[Result.andThen_ok]
    rw[zcq hk h0 (by omega)]
    simp
 simp[Instr.sliceAt,Instr.slice,run_underlying ht,hb]
theorem zIS{t e:TypeId}{x z:Operand}{lo hi:Option Operand}{p:Option Addr}{len cap:Nat}{l h m:Int}(ho:o.op=.slice t x lo hi (some z))(hr:zbM a rd)
  (hx:sc? (rd x)=some (Sc.slc (A:=sem P Q) p len cap)) (ht:P.underlying t=some (.slice e)) (he:(P.underlying e).isSome=true) (hsome:hi.isSome=true) (hl:zf7 (A:=sem P Q) rd lo (0:Int)=some l) (hh:zf7 (A:=sem P Q) rd hi (len:Int)=some h) (hm:zf7 (A:=sem P Q) rd (some z) (cap:Int)=some m)
  (h0:0<=l) (h1:l<=h) (h2:h<=m) (h3:m<=(cap:Int)):zbs P o a w (.slice (pCut p m.toNat l (P.cellsOf e)) (h-l).toNat (m.toNat-l.toNat)):=by
 have ex:=hr.sc hx
 obtain⟨d,hd⟩:=Option.isSome_iff_exists.1 he
 refine za5 (s:=Instr.sliceAt t (a.eval x) (lo.map a.eval) (hi.map a.eval) (Option.map a.eval (some z))) (by simp[execOp,ho]) ?_
 rw[ex]
 obtain⟨k3,hk3⟩:=zfN hr hm
 have hb:∀w,(Instr.sliceBounds true len cap (lo.map a.eval) (hi.map a.eval) (some (a.eval z))).run P w=.ok (l.toNat,h.toNat,m.toNat) w:=by
  intro w
  unfold Instr.sliceBounds
  cases hi with
  |none => cases hsome
  |some y =>
   obtain⟨k',hk'⟩:=zfN hr hh
   cases lo with
   |none =>
    simp only[zf7,Option.some.injEq] at hl
    subst hl
    simp only[Option.map_none,Option.map_some,pure_bind,Sem.run_bind]
    rw[zcq hk3 (by omega) h3]
    simp only[Result.andThen_ok]
    rw[zcq hk' (by omega) (by omega)]
    simp
   |some u =>
    obtain⟨k,hk⟩:=zfN hr hl
    simp only[Option.map_some,pure_bind,Sem.run_bind]
    rw[zcq hk3 (by omega) h3]
    simp only[Result.andThen_ok]
    rw[zcq hk' (by omega) (by omega)]
    simp only[Result.andThen_ok]
    rw[zcq hk h0 (by omega)]
    simp
 have hlen:(h-l).toNat=h.toNat-l.toNat:=by omega
 simp[Instr.sliceAt,Instr.slice,run_underlying ht,hb,zbT hd,pCut,hlen]
theorem zzf{t e:TypeId}{x:Operand}{lo hi:Option Operand}{p:Option Addr}{len cap:Nat}{l h:Int}(ho:o.op=.slice t x lo hi none)(hr:zbM a rd)
  (hx:sc? (rd x)=some (Sc.slc (A:=sem P Q) p len cap)) (ht:P.underlying t=some (.slice e)) (he:(P.underlying e).isSome=true) (hl:zf7 (A:=sem P Q) rd lo (0:Int)=some l) (hh:zf7 (A:=sem P Q) rd hi (len:Int)=some h)
  (h0:0<=l) (h1:l<=h) (h2:h<=(cap:Int)):zbs P o a w (.slice (pCut p cap l (P.cellsOf e)) (h-l).toNat (cap-l.toNat)):=by
 have ex:=hr.sc hx
 obtain⟨d,hd⟩:=Option.isSome_iff_exists.1 he
 refine za5 (s:=Instr.sliceAt t (a.eval x) (lo.map a.eval) (hi.map a.eval) (Option.map a.eval none)) (by simp[execOp,ho]) ?_
 rw[ex]
 have hb:∀w,(Instr.sliceBounds true len cap (lo.map a.eval) (hi.map a.eval) none).run P w=.ok (l.toNat,h.toNat,cap) w:=by
  intro w
  unfold Instr.sliceBounds
  cases hi with
  |none =>
   simp only[zf7,Option.some.injEq] at hh
   subst hh
   cases lo with
   |none =>
    simp only[zf7,Option.some.injEq] at hl
    subst hl
    simp
   |some y =>
    obtain⟨k,hk⟩:=zfN hr hl
    simp only[Option.map_none,Option.map_some,pure_bind,Sem.run_bind]
    rw[zcq hk h0 (by omega)]
    simp
  |some z =>
   obtain⟨k',hk'⟩:=zfN hr hh
   cases lo with
   |none =>
    simp only[zf7,Option.some.injEq] at hl
    subst hl
    simp only[Option.map_none,Option.map_some,pure_bind,Sem.run_bind]
    rw[zcq hk' (by omega) h2]
    simp
   |some y =>
    obtain⟨k,hk⟩:=zfN hr hl
    simp only[Option.map_some,pure_bind,Sem.run_bind]
    rw[zcq hk' (by omega) h2]
    simp only[Result.andThen_ok]
    rw[zcq hk h0 (by omega)]
    simp
 have hlen:(h-l).toNat=h.toNat-l.toNat:=by omega
 simp[Instr.sliceAt,Instr.slice,run_underlying ht,hb,zbT hd,pCut,hlen]
theorem ztW{t:TypeId}{b off:Nat}{cs:List (Sc (sem P Q))}{ty:TypeId}{v:SV (sem P Q)}(hb:w.heap[b]?=some (.cells (cs.map Sc.toV).toArray ty))
  (h:zj8 P t cs off=some v) (hl:(v.cells.length).beq (P.cellsOf t)=true):(Instr.loadAt t (.pointer (some ⟨b,off,none⟩))).run P w=.ok v.toV w:=by
 have hl':v.cells.length=P.cellsOf t:=by simpa using hl
 have hcell:∀i x,cs[i]?=some x->w.cell? ⟨b,i,none⟩=some x.toV:=by
  intro i x hx
  simp[World.cell?,hb,hx]
 unfold zj8 at h
 split at h
 ·simp at h
 ·rename_i d hd
  simp only[Instr.loadAt,Instr.sureAddr,Sem.run_bind,Sem.run_pure,Result.andThen_ok,loadVar,zeQ hd]
  cases ha:zdu P t
  ·rw[ha] at h
   simp only[cond_false,zeb] at h
   split at h
   ·rename_i x r hx
    simp only[Option.some.injEq] at h
    subst h
    have h2:cs[off]?=some x:=by
     have:=congrArg (fun l=>l[0]?) hx
     simpa using this
    simp[hcell off x h2]
   ·simp at h
  ·rw[ha] at h
   simp only[cond_true,Option.some.injEq] at h
   subst h
   simp only[if_true,Sem.run_bind,zbT hd,Result.andThen_ok]
   simp only[SV.cells,zlY,zeb] at hl'
   have hlc:∀j u,(((cs.drop off).take (P.cellsOf t)).map Sc.toV)[j]?=some u->w.cell? (Addr.add ⟨b,off,none⟩ j)=some u:=by
    intro j u hj
    rw[znC]
    rw[List.getElem?_map] at hj
    simp only[Option.map_eq_some_iff] at hj
    obtain⟨x,hx,rfl⟩:=hj
    rw[List.getElem?_take] at hx
    split at hx
    ·rw[List.getElem?_drop] at hx
     exact hcell _ x hx
    ·simp at hx
   have:=run_loadCells_list (P:=P) (w:=w) ⟨b,off,none⟩ (((cs.drop off).take (P.cellsOf t)).map Sc.toV) hlc
   rw[List.length_map,hl'] at this
   rw[this]
   simp[zlY,zeb]
theorem zC0{t:TypeId}{x:Operand}{j off:Nat}{b:Nat}{cs:List (Sc (sem P Q))}{ty:TypeId}{v:SV (sem P Q)}(ho:o.op=.load t x)(hr:zbM a rd)
  (hx:sc? (rd x)=some (Sc.loc (A:=sem P Q) j b off)) (hb:w.heap[b]?=some (.cells (cs.map Sc.toV).toArray ty))
  (h:zj8 P t cs off=some v) (hl:(v.cells.length).beq (P.cellsOf t)=true):zbs P o a w v.toV:=by
 have ex:=hr.sc hx
 refine za5 (s:=Instr.loadAt t (a.eval x)) (by simp[execOp,ho]) ?_
 rw[ex]
 exact ztW hb h hl
theorem zjW{b:Builtin}{args:Array Operand}{ats:Array TypeId}{s:Sem Value}{v:Value}(ho:o.op=.call { callee:=.builtin b,args,argTypes:=ats })
  (hb:∀cs,builtin b ats o.type cs (args.map a.eval)=(do pure (.value (<-s)))) (h:s.run P w=.ok v w):zbs P o a w v:=by
 unfold zbs
 have:execOp a.eval o=builtin b ats o.type (args.map fun|.const _=>true|_=>false) (args.map a.eval):=by
  cases o;subst ho;rfl
 rw[this,hb]
 simp[h]
theorem zdX{rd:Operand->Option (SL (sem P Q))}(hr:zbM a rd):∀{xs:List Operand} {l:List (SV (sem P Q))},zol rd xs=some l->xs.map a.eval=l.map SV.toV
 |[],l,h => by simp[zol] at h;subst h;rfl
 |x::r,l,h => by
  unfold zol at h
  split at h
  ·rename_i v l' hv hl
   simp only[Option.some.injEq] at h
   subst h
   simp[hr.one hv,zdX hr hl]
  ·simp at h
theorem zC1{f:Nat}{first captured:Array Operand}{l:List (SV (sem P Q))}(ho:o.op=.makeFunc (.func f) first captured)(hr:zbM a rd)(hf:first.toList=[])
  (h:zol rd captured.toList=some l):zbs P o a w (.func (.func f) #[] (l.map SV.toV).toArray):=by
 have e:=zdX hr h
 refine za5 (s:=Instr.makeFunc (.func f) (first.map a.eval) (captured.map a.eval)) (by simp[execOp,ho]) ?_
 have h1:first=#[]:=by simpa using hf
 have h2:captured.map a.eval=(l.map SV.toV).toArray:=by
  rw[<-e,<-Array.toList_map]
 simp[Instr.makeFunc,h1,h2]
theorem minI(b x:Int):(if b<x then b else x)=min x b:=by rw[Int.min_def];split<;>split<;>omega
theorem maxI(b x:Int):(if b>x then b else x)=max x b:=by rw[Int.max_def];split<;>split<;>omega
theorem zDB{α:Type}{xs:Array α}{l:List α}(h:xs.toList=l):xs=l.toArray:=by rw[<-h]
theorem zwq:∀{r:List (SV (sem P Q))} {k:IntKind} {x:Int} {z:Sc (sem P Q)},zjV (A:=sem P Q) (fun x y=>min x y) k x r=some z ->
  ((r.map SV.toV).foldlM Builtin.min2 (Value.int k x)).run P w=.ok z.toV w
 |[],k,x,z,h => by simp[zjV] at h;subst h;simp
 |.agg _::_,k,x,z,h => by simp[zjV] at h
 |.sc y::r,k,x,z,h => by
  unfold zjV at h
  split at h
  ·rename_i k' b hy
   cases hk:kEq k k'
   ·rw[hk] at h;simp at h
   ·rw[hk] at h
    obtain rfl:=zwJ hk
    simp only[cond_true] at h
    simp only[List.map_cons,List.foldlM_cons,toV_sc,zcE hy,Builtin.min2,Sem.run_bind,Sem.run_pure,Result.andThen_ok]
    rw[minI b x]
    exact zwq h
  ·simp at h
theorem zwp:∀{r:List (SV (sem P Q))} {k:IntKind} {x:Int} {z:Sc (sem P Q)},zjV (A:=sem P Q) (fun x y=>max x y) k x r=some z ->
  ((r.map SV.toV).foldlM Builtin.max2 (Value.int k x)).run P w=.ok z.toV w
 |[],k,x,z,h => by simp[zjV] at h;subst h;simp
 |.agg _::_,k,x,z,h => by simp[zjV] at h
 |.sc y::r,k,x,z,h => by
  unfold zjV at h
  split at h
  ·rename_i k' b hy
   cases hk:kEq k k'
   ·rw[hk] at h;simp at h
   ·rw[hk] at h
    obtain rfl:=zwJ hk
    simp only[cond_true] at h
    simp only[List.map_cons,List.foldlM_cons,toV_sc,zcE hy,Builtin.max2,Sem.run_bind,Sem.run_pure,Result.andThen_ok]
    rw[maxI b x]
    exact zwp h
  ·simp at h
theorem g_min{args:Array Operand}{ats:Array TypeId}{x:Sc (sem P Q)}{r:List (SV (sem P Q))}{k:IntKind}{n:Int}{z:Sc (sem P Q)}(ho:o.op=.call { callee:=.builtin .min,args,argTypes:=ats })(hr:zbM a rd)
  (h:zol rd args.toList=some (.sc x::r)) (hx:x.asI=some (k,n)) (hz:zjV (A:=sem P Q) (fun x y=>min x y) k n r=some z):zbs P o a w z.toV:=by
 have e:=zdX hr h
 refine zjW ho (s:=Builtin.min_ ats o.type (args.map a.eval)) (fun cs=>rfl) ?_
 unfold Builtin.min_
 have:(args.map a.eval).toList=Value.int k n::r.map SV.toV:=by rw[Array.toList_map,e];simp[zcE hx]
 rw[this]
 exact zwq hz
theorem g_max{args:Array Operand}{ats:Array TypeId}{x:Sc (sem P Q)}{r:List (SV (sem P Q))}{k:IntKind}{n:Int}{z:Sc (sem P Q)}(ho:o.op=.call { callee:=.builtin .max,args,argTypes:=ats })(hr:zbM a rd)
  (h:zol rd args.toList=some (.sc x::r)) (hx:x.asI=some (k,n)) (hz:zjV (A:=sem P Q) (fun x y=>max x y) k n r=some z):zbs P o a w z.toV:=by
 have e:=zdX hr h
 refine zjW ho (s:=Builtin.max_ ats o.type (args.map a.eval)) (fun cs=>rfl) ?_
 unfold Builtin.max_
 have:(args.map a.eval).toList=Value.int k n::r.map SV.toV:=by rw[Array.toList_map,e];simp[zcE hx]
 rw[this]
 exact zwp hz
theorem zFc{args:Array Operand}{ats:Array TypeId}{x:Operand}{t e:TypeId}{p:Option Addr}{l c:Nat}(ho:o.op=.call { callee:=.builtin .len,args,argTypes:=ats })(hr:zbM a rd)
  (ha:args.toList=[x]) (ht:ats.toList=[t]) (hu:P.underlying t=some (.slice e)) (hx:sc? (rd x)=some (Sc.slc (A:=sem P Q) p l c)):zbs P o a w (.int .i64 (l:Int)):=by
 have ex:=hr.sc hx
 obtain rfl:=zDB ha
 obtain rfl:=zDB ht
 refine zjW ho (s:=Builtin.len_ [t].toArray o.type ([x].toArray.map a.eval)) (fun cs=>rfl) ?_
 simp[Builtin.len_,ex,run_underlying hu,goInt]
theorem zFd{args:Array Operand}{ats:Array TypeId}{x:Operand}{t:TypeId}{s:ByteArray}(ho:o.op=.call { callee:=.builtin .len,args,argTypes:=ats })(hr:zbM a rd)
  (ha:args.toList=[x]) (ht:ats.toList=[t]) (hu:P.underlying t=some .string) (hx:sc? (rd x)=some (Sc.str (A:=sem P Q) s)):zbs P o a w (.int .i64 (s.size:Int)):=by
 have ex:=hr.sc hx
 obtain rfl:=zDB ha
 obtain rfl:=zDB ht
 refine zjW ho (s:=Builtin.len_ [t].toArray o.type ([x].toArray.map a.eval)) (fun cs=>rfl) ?_
 simp[Builtin.len_,ex,run_underlying hu,goInt]
theorem zFa{args:Array Operand}{ats:Array TypeId}{x:Operand}{t e:TypeId}{p:Option Addr}{l c:Nat}(ho:o.op=.call { callee:=.builtin .cap,args,argTypes:=ats })(hr:zbM a rd)
  (ha:args.toList=[x]) (ht:ats.toList=[t]) (hu:P.underlying t=some (.slice e)) (hx:sc? (rd x)=some (Sc.slc (A:=sem P Q) p l c)):zbs P o a w (.int .i64 (c:Int)):=by
 have ex:=hr.sc hx
 obtain rfl:=zDB ha
 obtain rfl:=zDB ht
 refine zjW ho (s:=Builtin.cap_ [t].toArray o.type ([x].toArray.map a.eval)) (fun cs=>rfl) ?_
 simp[Builtin.cap_,ex,run_underlying hu,goInt]
theorem zCu(off:Nat):∀(vs:List Value)(k:Nat)(cs:List Value),
  (vs.zipIdx k).foldl (fun(cs:Array Value) (x:Value×Nat)=>cs.setIfInBounds (off+x.2) x.1) cs.toArray=(zaE cs (off+k) vs).toArray
 |[],k,cs => by simp[zaE]
 |v::r,k,cs => by
  simp only[List.zipIdx_cons,List.foldl_cons,zaE]
  have:=zCu off r (k+1) (cs.set (off+k) v)
  rw[show off+(k+1)=off+k+1 from rfl] at this
  rw[<-this]
  congr 1
  simp
def zhL(v:SV (sem P Q)):Prop:=v.toV.cells=(v.cells.map Sc.toV).toArray
theorem zGh{v:SV (sem P Q)}(h:All (zo3 v.cells)):zhL v:=by
 cases v with
 |agg l => rfl
 |sc x =>
  cases x with
  |val u =>
   have h1:u.oneCell'=true:=h.1
   show u.cells=#[u]
   cases u<;>first|rfl|(simp[Value.oneCell'] at h1)
  |_ => rfl
theorem zy7{place:Nat->Option (Nat×Nat)}:∀{ps:List (Nat×SV (sem P Q))} {cs cs':List (Sc (sem P Q))},zec place cs ps=some cs'->(∀x∈ps,zhL x.2) ->
  Instr.fill place (cs.map Sc.toV).toArray (ps.map fun x=>(x.1,x.2.toV))=some (cs'.map Sc.toV).toArray
 |[],cs,cs',h,_ => by simp[zec] at h;subst h;rfl
 |(i,v)::r,cs,cs',h,hp => by
  unfold zec at h
  split at h
  ·rename_i off size hpl
   have hv:zhL v:=hp (i,v) (List.mem_cons_self ..)
   cases hc:(Nat.beq v.cells.length size&&Nat.ble (off+size) cs.length)
   ·rw[hc] at h;simp at h
   ·rw[hc] at h
    simp only[cond_true] at h
    simp only[Bool.and_eq_true,Nat.beq_eq,Nat.ble_eq] at hc
    have ih:=zy7 h fun x hx=>hp x (List.mem_cons_of_mem _ hx)
    simp only[List.map_cons,Instr.fill,hpl]
    unfold zhL at hv
    rw[hv]
    rw[if_neg (by simp;omega)]
    rw[<-ih]
    congr 1
    have:=zCu off (v.cells.map Sc.toV) 0 (cs.map Sc.toV)
    rw[zi0]
    rw[Nat.add_zero] at this
    rw[<-this]
    rw[<-Array.foldl_toList]
    simp
  ·simp at h
theorem zj9{rd:Operand->Option (SL (sem P Q))}(hr:zbM a rd):∀{xs:List (Nat×Operand)} {l:List (Nat×SV (sem P Q))},zlU rd xs=some l ->
  xs.map (fun x=>(x.1,a.eval x.2))=l.map fun x=>(x.1,x.2.toV)
 |[],l,h => by simp[zlU] at h;subst h;rfl
 |(i,x)::r,l,h => by
  unfold zlU at h
  split at h
  ·rename_i v l' hv hl
   simp only[Option.some.injEq] at h
   subst h
   simp[hr.one hv,zj9 hr hl]
  ·simp at h
theorem zDE{t:TypeId}{z:List (Sc (sem P Q))}(h:(zpb P t:Option (SV (sem P Q)))=some (.agg z)):∃i,∃zv,P.info? t=some i/\i.zero=some zv/\zv.cells=(z.map Sc.toV).toArray:=by
 unfold zpb at h
 cases hi:P.info? t with
 |none => simp[hi] at h
 |some i =>
  cases hz:i.zero with
  |none => simp[hi,hz] at h
  |some zv =>
   simp only[hi,Option.bind_some,hz,Option.some.injEq] at h
   refine⟨i,zv,rfl,hz,?_⟩
   have e:=congrArg SV.toV h
   rw[zkg,toV_agg] at e
   rw[e];rfl
theorem zqX(P:Program):∀(fs:List Field),(fs.all fun f=>(P.info? f.type).isSome)=true->fs.mapM (fun f=>(P.info? f.type).map fun i=>(f.offset,i.size))=some (fs.map fun f=>(f.offset,P.cellsOf f.type))
 |[],_ => by simp
 |f::r,h => by
  simp only[List.all_cons,Bool.and_eq_true] at h
  obtain⟨i,hi⟩:=Option.isSome_iff_exists.1 h.1
  simp[List.mapM_cons,hi,zqX P r h.2,Program.cellsOf]
theorem zMM{t:TypeId}{parts:Array (Nat×Operand)}{ps:List (Nat×SV (sem P Q))}{v:SV (sem P Q)}(ho:o.op=.build t parts)(hr:zbM a rd)
  (hp:zlU rd parts.toList=some ps) (hob:∀x∈ps,zhL x.2) (h:zqk P t ps=some v):zbs P o a w v.toV:=by
 have e:=zj9 hr hp
 refine za5 (s:=Instr.build t (parts.map fun(i,x)=>(i,a.eval x))) (by simp[execOp,ho]) ?_
 have e2:(parts.map fun(i,x)=>(i,a.eval x)).toList=ps.map fun x=>(x.1,x.2.toV):=by rw[Array.toList_map,<-e]
 unfold zqk at h
 split at h
 ·rename_i z hz
  obtain⟨i,zv,hi,hzv,hzc⟩:=zDE hz
  split at h
  ·rename_i fs hu
   cases hall:fs.toList.all fun f=>(P.info? f.type).isSome
   ·rw[hall] at h;simp at h
   ·rw[hall] at h
    simp only[Bool.not_true,cond_false,Option.map_eq_some_iff] at h
    obtain⟨cs,hcs,rfl⟩:=h
    have hf:=zy7 hcs hob
    refine run_build w t _ _ ?_
    unfold Program.built
    rw[hi,hu,e2]
    simp only[hzv,zqX P fs.toList hall]
    rw[hzc,<-hf]
    congr 1
    funext k
    simp only[zhi,hu]
    rw[List.getElem?_toArray,List.getElem?_map,Array.getElem?_toList]
    cases fs[k]?<;>rfl
  ·rename_i n e' hu
   cases hall:(P.info? e').isSome
   ·rw[hall] at h;simp at h
   ·rw[hall] at h
    simp only[Bool.not_true,cond_false,Option.map_eq_some_iff] at h
    obtain⟨cs,hcs,rfl⟩:=h
    obtain⟨ie,hie⟩:=Option.isSome_iff_exists.1 hall
    have hf:=zy7 hcs hob
    refine run_build w t _ _ ?_
    unfold Program.built
    rw[hi,hu,e2]
    simp only[hzv,hie]
    rw[hzc,<-hf]
    congr 1
    funext k
    simp[Program.cellsOf,hie]
  ·simp at h
 ·simp at h
theorem g_not{x:Operand}{t:TypeId}{b:BE (sem P Q)}(ho:o.op=.unOp .not t x)(hr:zbM a rd)(hx:sc? (rd x)=some (.bool b)):zbs P o a w (.bool b.neg.den):=by
 have e:=hr.sc hx
 refine za5 (s:=Op.unary .not (a.eval x)) (by simp[execOp,ho]) ?_
 rw[e];simp[Op.unary,zdN]
theorem g_neg{x:Operand}{t:TypeId}{s z:Sc (sem P Q)}{k:IntKind}{n:Int}{wr:Bool}{obs:List Prop}(ho:o.op=.unOp .neg t x)(hr:zbM a rd)(hx:sc? (rd x)=some s)(hk:s.asI=some (k,n))
  (h:zoS (A:=sem P Q) wr .sub k (0:Int) n s=some (obs,z)) (hobs:All obs):zbs P o a w z.toV:=by
 have e:=hr.sc hx
 refine za5 (s:=Op.unary .neg (a.eval x)) (by simp[execOp,ho]) ?_
 rw[e,zcE hk]
 have:=zoo hk h hobs (by simp) t w
 simpa[binOp,Op.unary] using this
theorem g_xor{x:Operand}{t:TypeId}{s:Sc (sem P Q)}{k:IntKind}{n:Int}(ho:o.op=.unOp .xor t x)(hr:zbM a rd)(hx:sc? (rd x)=some s)(hk:s.asI=some (k,n)) :
  zbs P o a w (.int k (zut .xor k true (if k.signed then -1 else k.max) n)):=by
 have e:=hr.sc hx
 refine za5 (s:=Op.unary .xor (a.eval x)) (by simp[execOp,ho]) ?_
 rw[e,zcE hk]
 simp[Op.unary,Op.intBits,zut,zan]
theorem zmA{src dst:TypeId}{x:Operand}{k k':IntKind}{n:Int}{s:Sc (sem P Q)}(ho:o.op=.convert src dst x)(hr:zbM a rd)(hx:sc? (rd x)=some s)(hk:s.asI=some (k',n))
  (hd:P.underlying dst=some (.int k)) (hs:(P.underlying src).isSome=true):zbs P o a w (.int k (k.wrap n)):=by
 have e:=hr.sc hx
 obtain⟨d,hs⟩:=Option.isSome_iff_exists.1 hs
 refine za5 (s:=convert src dst (a.eval x)) (by simp[execOp,ho]) ?_
 rw[e,zcE hk]
 simp[convert,run_underlying hd,run_underlying hs,Conv.intToInt]
theorem zur{src dst:TypeId}{x:Operand}{s:ByteArray}(ho:o.op=.convert src dst x)(hr:zbM a rd)(hx:sc? (rd x)=some (Sc.str (A:=sem P Q) s))
  (hd:P.underlying dst=some .string) (hs:P.underlying src=some .string):zbs P o a w (.string s):=by
 have e:=hr.sc hx
 refine za5 (s:=convert src dst (a.eval x)) (by simp[execOp,ho]) ?_
 rw[e]
 simp[convert,run_underlying hd,run_underlying hs]
theorem zBQ:∀{ps:List (Nat×SV (sem P Q))},All (ps.flatMap fun x=>zo3 x.2.cells)->∀x∈ps,zhL x.2
 |[],_,x,hx => by cases hx
 |p::r,h,x,hx => by
  rw[List.flatMap_cons,znv] at h
  rcases List.mem_cons.1 hx with rfl|hx
  ·exact zGh h.1
  ·exact zBQ h.2 x hx
def zl9(ro:Ro (sem P Q))(st:St (sem P Q)):SL (sem P Q)->Prop
 |.one (.sc (.loc j n _)) => j<st.nx/\∀b,ro.blk st j=some b->b.num=n
 |.one (.sc _) => True
 |.one (.agg l) => l.all zcs=true
 |.tup l => l.all za3=true
 |.undef => True
theorem zdq{ro:Ro (sem P Q)}{st:St (sem P Q)}{v:SV (sem P Q)}(h:za3 v=true):zl9 ro st (.one v):=by
 cases v with
 |agg l => exact h
 |sc x => cases x<;>simp[za3,SV.cells,zcs] at h<;>trivial
theorem zop{ro:Ro (sem P Q)}{st:St (sem P Q)}{x:Sc (sem P Q)}(h:zcs x=true):zl9 ro st (.one (.sc x)) :=
 zdq (by simp[za3,SV.cells,h])
theorem zo5{t:TypeId}{cs:List (Sc (sem P Q))}{off:Nat}{v:SV (sem P Q)}(h:zj8 P t cs off=some v)(hc:cs.all zcs=true):za3 v=true:=by
 unfold zj8 at h
 split at h
 ·simp at h
 ·cases ha:zdu P t
  ·rw[ha] at h
   simp only[cond_false,zeb] at h
   split at h
   ·rename_i x r hx
    simp only[Option.some.injEq] at h
    subst h
    have:x∈cs:=List.mem_of_mem_drop (hx▸List.mem_cons_self ..)
    simp only[za3,SV.cells,List.all_cons,List.all_nil,Bool.and_true]
    exact List.all_eq_true.1 hc x this
   ·simp at h
  ·rw[ha] at h
   simp only[cond_true,Option.some.injEq] at h
   subst h
   simp only[za3,SV.cells,zlY,zeb,List.all_eq_true] at *
   intro x hx
   exact hc x (List.mem_of_mem_drop (List.mem_of_mem_take hx))
theorem zmR(v:Value):zcs (ofValue v:Sc (sem P Q))=true:=by
 unfold ofValue;split<;>rfl
theorem zlb(v:Value):za3 (zkE v:SV (sem P Q))=true:=by
 unfold zkE
 split
 ·simp only[za3,SV.cells,List.all_eq_true]
  intro x hx
  simp only[List.mem_map] at hx
  obtain⟨u,_,rfl⟩:=hx
  exact zmR u
 ·simp[za3,SV.cells,zmR]
theorem zyt{t:TypeId}{v:SV (sem P Q)}(h:(zpb P t:Option (SV (sem P Q)))=some v):za3 v=true:=by
 unfold zpb at h
 split at h
 ·simp only[Option.some.injEq] at h;subst h;exact zlb _
 ·simp at h
theorem zhu{p:Sc (sem P Q)->Bool}:∀(vs l:List (Sc (sem P Q))) (i:Nat),l.all p=true->vs.all p=true->(zaE l i vs).all p=true
 |[],l,i,h,_ => h
 |v::r,l,i,h,hv => by
  simp only[List.all_cons,Bool.and_eq_true] at hv
  refine zhu r _ _ ?_ hv.2
  simp only[List.all_eq_true] at *
  intro x hx
  rcases List.mem_or_eq_of_mem_set hx with hx|rfl
  ·exact h x hx
  ·exact hv.1
theorem zgb{place:Nat->Option (Nat×Nat)}:∀{ps:List (Nat×SV (sem P Q))} {cs cs':List (Sc (sem P Q))},zec place cs ps=some cs'->cs.all zcs=true->(ps.all fun x=>za3 x.2)=true->cs'.all zcs=true
 |[],cs,cs',h,hc,_ => by simp[zec] at h;subst h;exact hc
 |(i,v)::r,cs,cs',h,hc,hp => by
  simp only[List.all_cons,Bool.and_eq_true] at hp
  unfold zec at h
  split at h
  ·rename_i off size hpl
   cases hcc:(Nat.beq v.cells.length size&&Nat.ble (off+size) cs.length)
   ·rw[hcc] at h;simp at h
   ·rw[hcc] at h
    exact zgb h (zhu _ _ _ hc hp.1) hp.2
  ·simp at h
theorem zud{t:TypeId}{ps:List (Nat×SV (sem P Q))}{v:SV (sem P Q)}(h:zqk P t ps=some v)(hp:(ps.all fun x=>za3 x.2)=true):za3 v=true:=by
 unfold zqk at h
 split at h
 ·rename_i z hz
  have hzn:z.all zcs=true:=zyt hz
  split at h
  ·rename_i fs hu
   cases hall:fs.toList.all fun f=>(P.info? f.type).isSome
   ·rw[hall] at h;simp at h
   ·rw[hall] at h
    simp only[Bool.not_true,cond_false,Option.map_eq_some_iff] at h
    obtain⟨cs,hcs,rfl⟩:=h
    exact zgb hcs hzn hp
  ·rename_i n e' hu
   cases hall:(P.info? e').isSome
   ·rw[hall] at h;simp at h
   ·rw[hall] at h
    simp only[Bool.not_true,cond_false,Option.map_eq_some_iff] at h
    obtain⟨cs,hcs,rfl⟩:=h
    exact zgb hcs hzn hp
  ·simp at h
 ·simp at h
theorem zjO{wr:Bool}{op:BinOp}{k:IntKind}{x y:Int}{sy z:Sc (sem P Q)}{obs:List Prop}(h:zoS (A:=sem P Q) wr op k x y sy=some (obs,z)):zcs z=true:=by
 unfold zoS at h
 split at h
 ·simp only[Option.some.injEq,Prod.mk.injEq] at h;obtain⟨_,rfl⟩:=h;rfl
 ·cases op<;>simp at h<;>obtain⟨_,rfl⟩:=h<;>rfl
theorem zyS{wr:Bool}{op:BinOp}{x y z:Sc (sem P Q)}{obs:List Prop}(h:zv7 wr op x y=some (obs,z)):zcs z=true:=by
 have hint:∀{x y:Sc (sem P Q)},zzo wr op x y=some (obs,z)->zcs z=true:=by
  intro x y h
  unfold zzo at h
  split at h
  ·split at h
   ·simp only[cond_eq_ite] at h
    split at h
    ·exact zjO h
    ·simp at h
   ·simp at h
  ·simp at h
 unfold zv7 at h
 cases hop:zhj op<;>rw[hop] at h
 ·simp only[cond_false] at h
  split at h
  ·split at h
   ·cases op<;>simp[zAW] at h<;>obtain⟨_,rfl⟩:=h<;>rfl
   ·simp at h
  ·split at h
   ·unfold zJ2 at h
    split at h
    ·simp only[Option.some.injEq,Prod.mk.injEq] at h;obtain⟨_,rfl⟩:=h;rfl
    ·cases op<;>simp at h;obtain⟨_,rfl⟩:=h;rfl
   ·simp at h
  ·split at h
   ·rename_i k a _ k' b
    cases hk:kEq k k'<;>rw[hk] at h
    ·simp at h
    ·unfold zJe at h
     split at h
     ·simp only[cond_true,Option.some.injEq,Prod.mk.injEq] at h;obtain⟨_,rfl⟩:=h;rfl
     ·exact zjO h
   ·exact hint h
  ·exact hint h
 ·unfold zry at h
  simp only[cond_true] at h
  split at h
  ·split at h
   ·simp only[Option.some.injEq,Prod.mk.injEq] at h;obtain⟨_,rfl⟩:=h;rfl
   ·simp at h
  ·simp at h
theorem zlB{f:Int->Int->Int}:∀{r:List (SV (sem P Q))} {k:IntKind} {x:Int} {z:Sc (sem P Q)},zjV (A:=sem P Q) f k x r=some z->zcs z=true
 |[],k,x,z,h => by simp[zjV] at h;subst h;rfl
 |.agg _::_,k,x,z,h => by simp[zjV] at h
 |.sc y::r,k,x,z,h => by
  unfold zjV at h
  split at h
  ·simp only[cond_eq_ite] at h
   split at h
   ·exact zlB h
   ·simp at h
  ·simp at h
theorem zzw{op:BinOp}{t:TypeId}{x z:Sc (sem P Q)}{obs:List Prop}(h:zDe P op t x=some (obs,z)):zcs z=true:=by
 unfold zDe at h
 split at h<;>simp only[Option.some.injEq,Prod.mk.injEq,reduceCtorEq] at h<;>obtain⟨_,rfl⟩:=h<;>rfl
theorem zuQ{α:Type}{x:Option α}(h:¬((!x.isSome)=true)):x.isSome=true:=by cases x<;>simp_all
theorem zCb{ro:Ro (sem P Q)}{st:St (sem P Q)}{j off off':Nat}{b:Nat}(h:zl9 ro st (.one (.sc (Sc.loc (A:=sem P Q) j b off)))):zl9 ro st (.one (.sc (Sc.loc (A:=sem P Q) j b off'))):=h
theorem zwG{t:TypeId}(h:zzp P t=true):P.underlying t=some .bool:=by
 unfold zzp at h;split at h<;>simp_all
theorem zGJ{r:Option (List Prop×Sc (sem P Q))}{obs:List Prop}{v:SL (sem P Q)}
  (h:zqS (A:=sem P Q) r=some (obs,v)):∃z,r=some (obs,z)/\v=.one (.sc z):=by
 unfold zqS at h
 split at h
 ·simp only[Option.some.injEq,Prod.mk.injEq] at h
  obtain⟨rfl,rfl⟩:=h
  exact⟨_,rfl,rfl⟩
 ·simp at h
theorem ztR{cfg:Cfg}{ro:Ro (sem P Q)}{st:St (sem P Q)}{obs:List Prop}{v:SL (sem P Q)}(hs:∀x v,rd x=some v->zl9 ro st v)
  (hnl:∀j b,ro.blk st j=some b->b.cells.all zcs=true)
  (h:zca P cfg ro st rd o=some (obs,v)):(zbM a rd->(zgc o=false\/∀j b,ro.blk st j=some b->znH w b)->All obs->zbs P o a w v.toV)/\zl9 ro st v:=by
 cases ho:o.op with
 |move x =>
  simp only[zca,ho] at h
  split at h
  ·simp only[Option.some.injEq,Prod.mk.injEq] at h
   obtain⟨rfl,rfl⟩:=h
   rename_i hv
   exact⟨fun hr hbk hobs=>zKM (.inl ho) hr hv,hs _ _ hv⟩
  ·simp at h
 |assign x =>
  simp only[zca,ho] at h
  split at h
  ·simp only[Option.some.injEq,Prod.mk.injEq] at h
   obtain⟨rfl,rfl⟩:=h
   rename_i hv
   exact⟨fun hr hbk hobs=>zKM (.inr ho) hr hv,hs _ _ hv⟩
  ·simp at h
 |binOp op t x y u =>
  simp only[zca,ho] at h
  split at h
  ·simp at h
  ·rename_i sx hx
   simp only[cond_eq_ite] at h
   split at h
   ·rename_i hn
    obtain⟨z,hz,rfl⟩:=zGJ h
    exact⟨fun hr hbk hobs=>g_nil ho hr hx hn hz,zop (zzw hz)⟩
   ·split at h
    ·simp at h
    ·rename_i hb
     split at h
     ·rename_i sy hy
      obtain⟨z,hz,rfl⟩:=zGJ h
      refine⟨fun hr hbk hobs=>zML ho hr hx hy (fun hb1=>?_) hz hobs,zop (zyS hz)⟩
      simp only[hb1,Bool.true_and,Bool.not_eq_true',Bool.not_eq_false] at hb
      exact zwG hb
     ·simp at h
 |unOp op t x =>
  simp only[zca,ho] at h
  split at h
  ·rename_i b hx
   simp only[Option.some.injEq,Prod.mk.injEq] at h
   obtain⟨rfl,rfl⟩:=h
   exact⟨fun hr hbk hobs=>g_not ho hr hx,trivial⟩
  ·rename_i s hx
   split at h
   ·rename_i k n hk
    obtain⟨z,hz,rfl⟩:=zGJ h
    exact⟨fun hr hbk hobs=>g_neg ho hr hx hk hz hobs,zop (zjO hz)⟩
   ·simp at h
  ·rename_i s hx
   split at h
   ·rename_i k n hk
    simp only[Option.some.injEq,Prod.mk.injEq] at h
    obtain⟨rfl,rfl⟩:=h
    exact⟨fun hr hbk hobs=>g_xor ho hr hx hk,trivial⟩
   ·simp at h
  ·simp at h
 |convert src dst x =>
  simp only[zca,ho] at h
  split at h
  ·rename_i s hx hd hsrc
   simp only[Option.some.injEq,Prod.mk.injEq] at h
   obtain⟨rfl,rfl⟩:=h
   exact⟨fun hr hbk hobs=>zur ho hr hx hd hsrc,trivial⟩
  ·rename_i k' n k d hx hd hsrc
   simp only[Option.some.injEq,Prod.mk.injEq] at h
   obtain⟨rfl,rfl⟩:=h
   exact⟨fun hr hbk hobs=>zmA (s:=.intc k' n) ho hr hx rfl hd (by rw[hsrc];rfl),trivial⟩
  ·rename_i k' n k d hx hd hsrc
   simp only[cond_eq_ite] at h
   have g:=fun(hr:zbM a rd)=>zmA (w:=w) (s:=.int k' n) ho hr hx rfl hd (by rw[hsrc];rfl)
   split at h
   ·simp only[Option.some.injEq,Prod.mk.injEq] at h
    obtain⟨rfl,rfl⟩:=h
    exact⟨fun hr _ _=>g hr,trivial⟩
   ·simp only[Option.some.injEq,Prod.mk.injEq] at h
    obtain⟨rfl,rfl⟩:=h
    refine⟨fun hr _ hobs=>?_,trivial⟩
    have g:=g hr
    rw[znr hobs.1] at g
    exact g
  ·simp at h
 |extract x i =>
  simp only[zca,ho] at h
  split at h
  ·rename_i l hx
   split at h
   ·rename_i y r hl
    simp only[Option.some.injEq,Prod.mk.injEq] at h
    obtain⟨rfl,rfl⟩:=h
    have hall:l.all za3=true:=hs _ _ hx
    refine⟨fun hr hbk hobs=>zFb ho hr hx hl,zdq ?_⟩
    rw[zeb] at hl
    exact List.all_eq_true.1 hall y (List.mem_of_mem_drop (hl▸List.mem_cons_self ..))
   ·simp at h
  ·simp at h
 |field t x f =>
  simp only[zca,ho] at h
  split at h
  ·rename_i cs off u hx hf
   split at h
   ·rename_i y hp
    simp only[Option.some.injEq,Prod.mk.injEq] at h
    obtain⟨rfl,rfl⟩:=h
    exact⟨fun hr hbk hobs=>zMN ho hr hx hf hp,zdq (zo5 hp (hs _ _ hx))⟩
   ·simp at h
  ·simp at h
 |build t parts =>
  simp only[zca,ho] at h
  split at h
  ·rename_i ps hp
   simp only[cond_eq_ite] at h
   split at h
   ·simp at h
   ·rename_i hall
    split at h
    ·rename_i y hb
     simp only[Option.some.injEq,Prod.mk.injEq] at h
     obtain⟨rfl,rfl⟩:=h
     exact⟨fun hr hbk hobs=>zMM ho hr hp (zBQ hobs) hb,zdq (zud hb (by simpa using hall))⟩
    ·simp at h
  ·simp at h
 |nilCheck x =>
  simp only[zca,ho] at h
  split at h
  ·rename_i p hx
   simp only[Option.some.injEq,Prod.mk.injEq] at h
   obtain⟨rfl,rfl⟩:=h
   exact⟨fun hr hbk hobs=>zsl ho hr hx hobs.1,trivial⟩
  ·rename_i j b off hx
   simp only[Option.some.injEq,Prod.mk.injEq] at h
   obtain⟨rfl,rfl⟩:=h
   exact⟨fun hr hbk hobs=>zsk ho hr hx,hs _ _ (sc?_some hx)⟩
  ·simp at h
 |fieldAddr t x f =>
  simp only[zca,ho] at h
  split at h
  ·rename_i s off u hx hf
   simp only[cond_eq_ite] at h
   split at h
   ·simp at h
   ·rename_i h0
    split at h
    ·rename_i j b o'
     simp only[Option.some.injEq,Prod.mk.injEq] at h
     obtain⟨rfl,rfl⟩:=h
     exact⟨fun hr hbk hobs=>zqD ho hr hx hf (Bool.eq_false_iff.2 h0),zCb (hs _ _ (sc?_some hx))⟩
    ·rename_i p
     simp only[Option.some.injEq,Prod.mk.injEq] at h
     obtain⟨rfl,rfl⟩:=h
     exact⟨fun hr hbk hobs=>zqE ho hr hx hf (Bool.eq_false_iff.2 h0) hobs.1,trivial⟩
    ·simp at h
  ·simp at h
 |indexAddr t x ix =>
  simp only[zca,ho] at h
  split at h
  ·rename_i p l c i e hx hi ht
   simp only[cond_eq_ite] at h
   split at h
   ·simp at h
   ·rename_i he
    split at h
    ·rename_i k n hk
     simp only[Option.some.injEq,Prod.mk.injEq] at h
     obtain⟨rfl,rfl⟩:=h
     exact⟨fun hr hbk hobs=>zqH ho hr hx hi hk ht (zuQ he) hobs.1 hobs.2.1 hobs.2.2.1,trivial⟩
    ·simp at h
  ·rename_i p i n e hx hi ht
   simp only[cond_eq_ite] at h
   split at h
   ·simp at h
   ·rename_i he
    split at h
    ·rename_i k m hk
     simp only[Option.some.injEq,Prod.mk.injEq] at h
     obtain⟨rfl,rfl⟩:=h
     exact⟨fun hr hbk hobs=>zqG ho hr hx hi hk ht (zuQ he) hobs.1 hobs.2.1 hobs.2.2.1,trivial⟩
    ·simp at h
  ·rename_i j b off k m n e hx hi ht
   simp only[cond_eq_ite] at h
   split at h
   ·rename_i hc
    simp only[Bool.and_eq_true,decide_eq_true_eq] at hc
    simp only[Option.some.injEq,Prod.mk.injEq] at h
    obtain⟨rfl,rfl⟩:=h
    exact⟨fun hr hbk hobs=>zqF ho hr hx hi ht hc.1.1 hc.1.2 hc.2,zCb (hs _ _ (sc?_some hx))⟩
   ·simp at h
  ·simp at h
 |index t x ix =>
  simp only[zca,ho] at h
  split at h
  ·rename_i s i hx hi ht
   split at h
   ·rename_i k n hk
    simp only[Option.some.injEq,Prod.mk.injEq] at h
    obtain⟨rfl,rfl⟩:=h
    exact⟨fun hr hbk hobs=>zze ho hr hx hi hk ht hobs.1 hobs.2.1,trivial⟩
   ·simp at h
  ·simp at h
 |slice t x lo hi mx =>
  simp only[zca,ho] at h
  split at h
  ·rename_i z
   simp only[cond_eq_ite] at h
   split at h
   ·simp at h
   ·rename_i hhi
    split at h
    ·rename_i p len cap e hx ht
     split at h
     ·simp at h
     ·rename_i he
      split at h
      ·rename_i l hh m h1 h2 h3
       simp only[Option.some.injEq,Prod.mk.injEq] at h
       obtain⟨rfl,rfl⟩:=h
       exact⟨fun hr hbk hobs=>zIS ho hr hx ht (zuQ he) (by cases hi<;>simp_all) h1 h2 h3 hobs.1 hobs.2.1 hobs.2.2.1 hobs.2.2.2.1,trivial⟩
      ·simp at h
    ·simp at h
  ·split at h
   ·rename_i s hx ht
    split at h
    ·rename_i l hh h1 h2
     simp only[Option.some.injEq,Prod.mk.injEq] at h
     obtain⟨rfl,rfl⟩:=h
     exact⟨fun hr hbk hobs=>zzg ho hr hx ht h1 h2 hobs.1 hobs.2.1 hobs.2.2.1,trivial⟩
    ·simp at h
   ·rename_i p len cap e hx ht
    simp only[cond_eq_ite] at h
    split at h
    ·simp at h
    ·rename_i he
     split at h
     ·rename_i l hh h1 h2
      simp only[Option.some.injEq,Prod.mk.injEq] at h
      obtain⟨rfl,rfl⟩:=h
      exact⟨fun hr hbk hobs=>zzf ho hr hx ht (zuQ he) h1 h2 hobs.1 hobs.2.1 hobs.2.2.1,trivial⟩
     ·simp at h
   ·simp at h
 |load t x =>
  simp only[zca,ho] at h
  split at h
  ·rename_i j n off hx
   split at h
   ·rename_i b hb
    split at h
    ·rename_i y hp
     simp only[cond_eq_ite] at h
     split at h
     ·rename_i hl
      simp only[Option.some.injEq,Prod.mk.injEq] at h
      obtain⟨rfl,rfl⟩:=h
      have hn:b.num=n:=(hs _ _ (sc?_some hx)).2 b hb
      refine⟨fun hr hbk hobs=>?_,zdq (zo5 hp (hnl j b hb))⟩
      have hbk':=hbk.resolve_left (by simp[zgc,ho]) j b hb
      unfold znH at hbk'
      rw[hn] at hbk'
      exact zC0 ho hr hx hbk' hp hl
     ·simp at h
    ·simp at h
   ·simp at h
  ·simp at h
 |call c =>
  obtain⟨callee,args,ats⟩:=c
  cases callee with
  |value f => simp[zca,ho] at h
  |invoke f m => simp[zca,ho] at h
  |builtin b =>
   cases b with
   |len =>
    simp only[zca,ho] at h
    split at h
    ·rename_i x t ha ht
     split at h
     ·rename_i p l c e hx hu
      simp only[Option.some.injEq,Prod.mk.injEq] at h
      obtain⟨rfl,rfl⟩:=h
      exact⟨fun hr hbk hobs=>zFc ho hr ha ht hu hx,trivial⟩
     ·rename_i s hx hu
      simp only[Option.some.injEq,Prod.mk.injEq] at h
      obtain⟨rfl,rfl⟩:=h
      exact⟨fun hr hbk hobs=>zFd ho hr ha ht hu hx,trivial⟩
     ·simp at h
    ·simp at h
   |cap =>
    simp only[zca,ho] at h
    split at h
    ·rename_i x t ha ht
     split at h
     ·rename_i p l c e hx hu
      simp only[Option.some.injEq,Prod.mk.injEq] at h
      obtain⟨rfl,rfl⟩:=h
      exact⟨fun hr hbk hobs=>zFa ho hr ha ht hu hx,trivial⟩
     ·simp at h
    ·simp at h
   |min =>
    simp only[zca,ho] at h
    split at h
    ·rename_i x r hl
     split at h
     ·rename_i k n hk
      obtain⟨z,hz,rfl⟩:=zGJ h
      simp only[Option.map_eq_some_iff,Prod.mk.injEq] at hz
      obtain⟨z',hz',rfl,rfl⟩:=hz
      exact⟨fun hr hbk hobs=>g_min ho hr hl hk hz',zop (zlB hz')⟩
     ·simp at h
    ·simp at h
   |max =>
    simp only[zca,ho] at h
    split at h
    ·rename_i x r hl
     split at h
     ·rename_i k n hk
      obtain⟨z,hz,rfl⟩:=zGJ h
      simp only[Option.map_eq_some_iff,Prod.mk.injEq] at hz
      obtain⟨z',hz',rfl,rfl⟩:=hz
      exact⟨fun hr hbk hobs=>g_max ho hr hl hk hz',zop (zlB hz')⟩
     ·simp at h
    ·simp at h
   |_ => simp[zca,ho] at h
 |makeFunc fn first captured =>
  cases fn with
  |func f =>
   simp only[zca,ho] at h
   split at h
   ·rename_i l hf hl
    simp only[cond_eq_ite] at h
    split at h
    ·simp only[Option.some.injEq,Prod.mk.injEq] at h
     obtain⟨rfl,rfl⟩:=h
     exact⟨fun hr hbk hobs=>zC1 ho hr hf hl,trivial⟩
    ·simp at h
   ·simp at h
  |_ => simp[zca,ho] at h
 |_ => simp[zca,ho] at h
end
theorem zeU{ops:Array Oper}{tmps:Array Value}{j:Nat}{c:Bool}:yielded ops tmps j=some c↔∃d,zjw ops j=some d/\tmps.getD d undef=.bool c:=by
 unfold yielded zjw
 cases ho:ops[j]? with
 |none => simp
 |some o =>
  simp only[Option.bind_some]
  cases hd:o.dst with
  |none => simp
  |some d =>
   simp only[Option.bind_some,Option.some.injEq,exists_eq_left']
   rw[Array.getD_eq_getD_getElem?]
   cases hv:tmps[d]? with
   |none => simp[undef]
   |some v => cases v<;>simp[undef]
section
variable {cfg:Cfg} {ops:Array Oper} {ro:Ro (sem P Q)} {st:St (sem P Q)} {a:Act}
theorem zy1{i:Nat}{v:SL (sem P Q)}{key:Option (Nat×Bool)}(h:zMx ops a i (v,key))(hk:∀k,key=some k->zjC ops a k):a.tmps.getD i undef=v.toV:=by
 cases key with
 |none => exact h
 |some k => exact h.1 (hk k rfl)
theorem zEZ{i:Nat}{v:SL (sem P Q)}{k:Nat×Bool}(h:zMx ops a i (v,some k))(hk:¬zjC ops a k):a.tmps.getD i undef=undef:=h.2 hk
def zjK(ops:Array Oper)(ro:Ro (sem P Q))(st:St (sem P Q))(a:Act)(k:Nat×Bool):KS->Prop
 |.yes => zjC ops a k
 |.no => ¬zjC ops a k
 |.sym j => ∃d key,∃b:BE (sem P Q),zjw ops j=some d/\ro.get st d=some (.one (.sc (.bool b)),key)/\a.tmps.getD d undef=.bool b.den
 |.bad => True
theorem zhT(hf:zvP cfg ops ro st a):∀(n:Nat)(k:Nat×Bool),zjK ops ro st a k (zhk ops ro st n k)
 |0,k => by simp[zhk,zjK]
 |n+1,(j,want) => by
  unfold zhk
  cases hd:zjw ops j with
  |none => simp[zjK]
  |some d =>
   simp only
   cases hg:ro.get st d with
   |none => simp[zjK]
   |some e =>
    obtain⟨v,key⟩:=e
    simp only
    have he:=hf.fr d _ hg
    have hsat:zjC ops a (j,want)↔a.tmps.getD d undef=.bool want:=by
     unfold zjC
     rw[zeU]
     constructor
     ·rintro⟨d',h1,h2⟩
      rw[hd] at h1
      obtain rfl:=Option.some.inj h1
      exact h2
     ·intro h;exact⟨d,hd,h⟩
    have hin:(match zu9 (zhk ops ro st n) key with
      |.yes => ∀k,key=some k->zjC ops a k
      |.no => ∃k,key=some k/\¬zjC ops a k
      |.sym j => ∃d key,∃b:BE (sem P Q),zjw ops j=some d/\ro.get st d=some (.one (.sc (.bool b)),key)/\a.tmps.getD d undef=.bool b.den
      |.bad => True):=by
     cases key with
     |none => simp[zu9]
     |some k =>
      show(match zhk ops ro st n k with
       |.yes => ∀k',some k=some k'->zjC ops a k'
       |.no => ∃k',some k=some k'/\¬zjC ops a k'
       |.sym j => ∃d key,∃b:BE (sem P Q),zjw ops j=some d/\ro.get st d=some (.one (.sc (.bool b)),key)/\a.tmps.getD d undef=.bool b.den
       |.bad => True)
      have ih:=zhT hf n k
      cases hks:zhk ops ro st n k<;>rw[hks] at ih<;>simp only[zjK] at ih ⊢
      ·intro k' hk';obtain rfl:=Option.some.inj hk';exact ih
      ·exact⟨k,rfl,ih⟩
      ·exact ih
    generalize hks:zu9 (zhk ops ro st n) key=s at hin ⊢
    cases s with
    |yes =>
     simp only at hin ⊢
     have hv:=zy1 he hin
     split
     ·rename_i c
      have hv:a.tmps.getD d undef=.bool c:=hv
      cases hc:(c==want)
      ·simp only[cond_false,zjK]
       rw[hsat,hv]
       intro h
       have:c=want:=by injection h
       simp[this] at hc
      ·simp only[cond_true,zjK]
       rw[hsat,hv]
       simp at hc
       rw[hc]
     ·rename_i b hb
      exact⟨d,key,b,hd,hg,hv⟩
     ·simp only[zjK]
      rw[hsat,hv]
      simp[undef]
     ·simp[zjK]
    |no =>
     simp only at hin ⊢
     obtain⟨k,rfl,hk⟩:=hin
     simp only[zjK]
     rw[hsat,zEZ he hk]
     simp[undef]
    |sym j0 => exact hin
    |bad => simp[zjK]
theorem zBy{a b:Nat×Bool}(h:zFA a b=true):a=b:=by
 unfold zFA at h
 simp only[Bool.and_eq_true,Nat.beq_eq,beq_iff_eq] at h
 exact Prod.ext h.1 h.2
theorem zCm(hf:zvP cfg ops ro st a):∀(n:Nat)(k c:Nat×Bool),zDC ops ro st k n c=true->zjC ops a c->zjC ops a k
 |0,k,c,h,_ => by simp[zDC] at h
 |n+1,k,c,h,hc => by
  unfold zDC at h
  simp only[cond_eq_ite] at h
  split at h
  ·rename_i he
   rw[zBy he];exact hc
  ·split at h
   ·simp at h
   ·rename_i d hd
    split at h
    ·rename_i v k' hg
     refine zCm hf n k k' h ?_
     have he:=hf.fr d _ hg
     apply Classical.byContradiction
     intro hn
     have hu:=zEZ he hn
     unfold zjC at hc
     rw[zeU] at hc
     obtain⟨d',h1,h2⟩:=hc
     rw[hd] at h1
     obtain rfl:=Option.some.inj h1
     rw[hu] at h2
     simp[undef] at h2
    ·simp at h
theorem zBz(hf:zvP cfg ops ro st a){cur key:Option (Nat×Bool)}(hcur:∀c,cur=some c->zjC ops a c)(h:zkP ops ro st cur key=true):∀k,key=some k->zjC ops a k:=by
 intro k hk
 subst hk
 simp only[zkP] at h
 have:=zhT hf 50 k
 split at h
 ·rename_i hy
  rw[hy] at this;exact this
 ·split at h
  ·rename_i c
   exact zCm hf 50 k c h (hcur c rfl)
  ·simp at h
theorem zGr(hf:zvP cfg ops ro st a){ok:Option (Nat×Bool)->Bool}(hok:∀key,ok key=true->∀k,key=some k->zjC ops a k):zbM a (zpY ro st ok):=by
 intro x v h
 cases x with
 |const u =>
  simp only[zpY,Option.some.injEq] at h
  subst h
  exact(zkg u).symm
 |func f =>
  simp only[zpY,Option.some.injEq] at h
  subst h
  rfl
 |global g =>
  simp only[zpY,Option.some.injEq] at h
  subst h
  rfl
 |tmp t =>
  simp only[zpY] at h
  split at h
  ·rename_i u key hg
   simp only[cond_eq_ite] at h
   split at h
   ·rename_i hk
    simp only[Option.some.injEq] at h
    subst h
    exact zy1 (hf.fr t _ hg) (hok key hk)
   ·simp at h
  ·simp at h
theorem zJD(hf:zvP cfg ops ro st a){cur:Option (Nat×Bool)}(hcur:∀c,cur=some c->zjC ops a c):zbM a (zpY ro st (zkP ops ro st cur)) :=
 zGr hf fun _ h=>zBz hf hcur h
def zeL(ro:Ro (sem P Q))(st:St (sem P Q)):Prop:=∀i e,ro.get st i=some e->zl9 ro st e.1
theorem zlV(hs:zeL ro st){ok:Option (Nat×Bool)->Bool}:∀x v,zpY ro st ok x=some v->zl9 ro st v:=by
 intro x v h
 cases x with
 |const u =>
  simp only[zpY,Option.some.injEq] at h
  subst h
  exact zdq (zlb u)
 |func f =>
  simp only[zpY,Option.some.injEq] at h
  subst h
  trivial
 |global g =>
  simp only[zpY,Option.some.injEq] at h
  subst h
  trivial
 |tmp t =>
  simp only[zpY] at h
  split at h
  ·rename_i u key hg
   simp only[cond_eq_ite] at h
   split at h
   ·simp only[Option.some.injEq] at h
    subst h
    exact hs t _ hg
   ·simp at h
  ·simp at h
theorem zoi{t:Nat}:∀{n j:Nat},zzQ ops t n=some j->zjw ops j=some t
 |0,j,h => by simp[zzQ] at h
 |n+1,j,h => by
  unfold zzQ at h
  split at h
  ·rename_i d hd
   simp only[cond_eq_ite] at h
   split at h
   ·rename_i he
    simp only[Option.some.injEq] at h
    subst h
    rw[hd];simpa using he
   ·exact zoi h
  ·exact zoi h
theorem zwb(b x y:BE (sem P Q)):(zpW b x y).den=if b.den=true then x.den else y.den:=by
 have hl:∀c,(BE.lit c:BE (sem P Q)).den=c:=fun _=>rfl
 unfold zpW
 split<;>simp only[zES,zIt,zdN,hl]<;>cases hb:BE.den b<;>simp
theorem zGj{c x y:Operand}{v:SL (sem P Q)}{cur:Option (Nat×Bool)}(hs:zeL ro st)(h:zo6 ops ro st cur c x y=some v):zl9 ro st v:=by
 unfold zo6 at h
 split at h
 ·exact zlV hs _ _ h
 ·exact zlV hs _ _ h
 ·simp only at h
  split at h
  ·simp only[Option.some.injEq] at h
   subst h
   trivial
  ·simp at h
 ·simp at h
theorem zJR{c x y:Operand}{v:SL (sem P Q)}{cur:Option (Nat×Bool)}{o:Oper}{w:World}(hf:zvP cfg ops ro st a)(hs:zeL ro st)(hcur:∀c,cur=some c->zjC ops a c)
  (ho:o.op=.pick c x y) (h:zo6 ops ro st cur c x y=some v):zbs P o a w v.toV/\zl9 ro st v:=by
 have hr:=zJD (P:=P) (Q:=Q) hf hcur
 have gives:∀(t:Bool)(u:Value),a.eval c=.bool t->(if t then a.eval x else a.eval y)=u->zbs P o a w u:=by
  intro t u hc hu
  subst hu
  unfold zbs
  cases t<;>simp[execOp,ho,hc,asBool]
 unfold zo6 at h
 split at h
 ·rename_i hc
  exact⟨gives true _ (hr.sc hc) (hr _ _ h),zlV hs _ _ h⟩
 ·rename_i hc
  exact⟨gives false _ (hr.sc hc) (hr _ _ h),zlV hs _ _ h⟩
 ·rename_i t _ _ hc
  have hcv:a.eval c=.bool t.den:=hr.sc hc
  simp only at h
  split at h
  ·rename_i bx by_ hx hy
   simp only[Option.some.injEq] at h
   subst h
   refine⟨gives t.den _ hcv ?_,trivial⟩
   show _=Value.bool (zpW t bx by_).den
   rw[zwb]
   have side:∀(want:Bool) (z:Operand) (u:Sc (sem P Q)),t.den=want ->
     (match (match c with|.tmp x=>zzQ ops x ops.size|_=>none) with
      |some j => sc? (zpY ro st (fun key => zkP ops ro st cur key||(match key with|some k => zFA k (j,want)|none => false)) z)
      |none => sc? (zpY ro st (zkP ops ro st cur) z))=some u->a.eval z=u.toV:=by
    intro want z u hw hz
    split at hz
    ·rename_i j hj
     split at hj
     ·rename_i tx
      have hdst:=zoi hj
      refine(zGr hf (fun key hk k hkk=>?_)).sc hz
      subst hkk
      simp only[Bool.or_eq_true] at hk
      rcases hk with hk|hk
      ·exact zBz hf hcur hk k rfl
      ·rw[zBy hk]
       unfold zjC
       rw[zeU]
       exact⟨tx,hdst,by rw[<-hw];exact hcv⟩
     ·simp at hj
    ·exact hr.sc hz
   cases ht:BE.den t
   ·exact side false y _ ht hy
   ·exact side true x _ ht hx
  ·simp at h
 ·simp at h
end
theorem beqF{i j:Nat}(h:¬i=j):Nat.beq i j=false:=by
 cases hb:Nat.beq i j
 ·rfl
 ·exact absurd (Nat.eq_of_beq_eq_true hb) h
theorem beqN{i j:Nat}(h:Nat.beq i j=false):i≠j:=fun e=>by subst e;simp at h
theorem zhU{α:Type}:∀(l:List (Nat×α)) (i:Nat) (x:α) (j:Nat),zdZ (zvd l i x) j=if i=j then some x else zdZ l j
 |[],i,x,j => by
  by_cases h:i=j
  ·subst h;simp[zvd,zdZ]
  ·have:Nat.beq i j=false:=beqF h
   simp[zvd,zdZ,this,h]
 |(k,v)::r,i,x,j => by
  unfold zvd
  cases hk:Nat.beq k i
  ·simp only[cond_false,zdZ]
   rw[zhU r i x j]
   have hne:k≠i:=beqN hk
   cases hj:Nat.beq k j
   ·rfl
   ·have:k=j:=by simpa using hj
    subst this
    simp[Ne.symm hne]
  ·have hki:k=i:=by simpa using hk
   subst hki
   simp only[cond_true,zdZ]
   by_cases h:k=j
   ·subst h;simp
   ·have:Nat.beq k j=false:=beqF h
    simp[this,h]
theorem zc0:∀(l:List Nat)(i:Nat),zia l i=true↔i∈l
 |[],i => by simp[zia]
 |k::r,i => by
  unfold zia
  cases h:Nat.beq k i
  ·have:k≠i:=beqN h
   simp[zc0 r i,Ne.symm this]
  ·have:k=i:=by simpa using h
   simp[this]
theorem Ext.of_but{w w':World}(h:But [] w w'):Ext w w':=⟨h.os,h.tape,h.output,h.size,fun k hk=>h.block k hk (by simp)⟩
theorem Ext.refl(w:World):Ext w w:=Below.refl _ w
theorem Ext.trans{a b c:World}(h:Ext a b)(k:Ext b c):Ext a c:=Below.trans h (Below.mono k h.size)
theorem But.refl(ds:List Nat)(w:World):But ds w w:=⟨rfl,rfl,rfl,Nat.le_refl _,fun _ _ _=>rfl⟩
theorem But.trans{ds:List Nat}{a b c:World}(h:But ds a b)(k:Ext b c):But ds a c :=
 ⟨k.os.trans h.os,k.tape.trans h.tape,k.output.trans h.output,Nat.le_trans h.size k.size,fun i hi hn=>(k.block i (Nat.lt_of_lt_of_le hi h.size)).trans (h.block i hi hn)⟩
theorem But.mono{ds ds':List Nat}{a b:World}(h:But ds a b)(hs:∀d∈ds,d∈ds'):But ds' a b :=
 ⟨h.os,h.tape,h.output,h.size,fun i hi hn=>h.block i hi fun hm=>hn (hs _ hm)⟩
theorem zjL{ds ns:List Nat}{w w':World}{f:World->Prop}(h:(sem P Q).allExt ds ns w f)(hb:But ds w w')(hn:∀b∈ns,b<w'.heap.size):f w':=by
 cases ds with
 |nil => cases ns with
  |nil => exact h w' (Ext.of_but hb)
  |cons b r => exact h w' ⟨hb,hn⟩
 |cons d r => exact h w' ⟨hb,hn⟩
theorem zEI{w:World}{a:Addr}{v:Value}(h:w.cell? a=some v):a.block<w.heap.size:=by
 unfold World.cell? at h
 split at h
 ·rename_i c t f hc
  exact(Array.getElem?_eq_some_iff.1 hc).1
 ·simp at h
theorem zaL(a:Addr)(n:Nat):(a.add n).block=a.block:=by
 unfold Addr.add;split<;>rfl
theorem zpC{ds:List Nat}{w w':World}(h:But ds w w'){a:Addr}{v:Value}(hc:w.cell? a=some v)(hf:a.block∉ds):w'.cell? a=some v:=by
 rw[<-hc]
 exact World.cell?_of_block (w:=w) (h.block a.block (zEI hc) hf)
theorem ze2(a:Addr):∀(vs:List Value)(i:Nat)(w:World),
  (setCells w a vs i).os=w.os/\(setCells w a vs i).tape=w.tape/\(setCells w a vs i).output=w.output/\(setCells w a vs i).heap.size=w.heap.size /\
   ∀k,k≠a.block->(setCells w a vs i).heap[k]?=w.heap[k]?
 |[],i,w => ⟨rfl,rfl,rfl,rfl,fun _ _ => rfl⟩
 |v::r,i,w => by
  obtain⟨h1,h2,h3,h4,h5⟩:=ze2 a r (i+1) (w.setCell (a.add i) v)
  refine⟨h1,h2,h3,?_,fun k hk=>?_⟩
  ·simp only[setCells];rw[h4];simp[World.setCell]
  ·simp only[setCells]
   rw[h5 k hk]
   exact Below.heap_setCell _ _ _ _ (by rw[zaL];exact hk)
theorem zlg(b off:Nat)(ty:TypeId)(fz:Nat×Nat):∀(vs:List Value)(i:Nat)(w:World)(cs:List Value),w.heap[b]?=some (.cells cs.toArray ty fz) ->
  (setCells w ⟨b,off,none⟩ vs i).heap[b]?=some (.cells (zaE cs (off+i) vs).toArray ty fz)
 |[],i,w,cs,h => h
 |v::r,i,w,cs,h => by
  simp only[setCells,zaE]
  rw[show off+i+1=off+(i+1) from rfl]
  refine zlg b off ty fz r (i+1) _ _ ?_
  rw[znC]
  simp only[World.setCell,Array.getElem?_modify,h]
  simp
theorem zsm{w:World}{a b:Addr}{v:Value}(h:(w.cell? b).isSome=true):((w.setCell a v).cell? b).isSome=true:=by
 unfold World.cell? at *
 simp only[World.setCell,Array.getElem?_modify]
 split at h
 ·rename_i c t f hc
  rw[hc]
  by_cases hab:a.block=b.block
  ·simp only[hab,if_true,Option.map_some]
   split at h
   ·simp at h
   ·rename_i hs
    simp only[hs,if_false,Bool.false_eq_true]
    split
    ·exact h
    ·rw[Array.getElem?_setIfInBounds]
     split
     ·split
      ·rfl
      ·rename_i h1 h2
       rw[Array.getElem?_eq_none (by omega:c.size<=b.off)] at h
       simp at h
     ·exact h
  ·simp only[hab,if_false]
   exact h
 ·simp at h
theorem zsj{w:World}{a b:Addr}{v:Value}:(w.setCell a v).frozen? b=w.frozen? b:=by
 unfold World.frozen?
 simp only[World.setCell,Array.getElem?_modify]
 by_cases hab:a.block=b.block
 ·simp only[hab,if_true]
  cases hb:w.heap[b.block]? with
  |none => rfl
  |some o => cases o<;>rfl
 ·simp only[hab,if_false]
theorem zht(a:Addr):∀(vs:List Value)(i:Nat)(w:World),(∀j,j<vs.length->(w.cell? (a.add (i+j))).isSome=true) ->
  (∀j,j<vs.length->w.frozen? (a.add (i+j))=false)->(∀v∈vs,v.oneCell'=true)->(storeCells a vs i).run P w=.ok () (setCells w a vs i)
 |[],i,w,_,_,_ => rfl
 |v::r,i,w,h1,h2,h3 => by
  have e0:=h1 0 (by simp)
  have f0:=h2 0 (by simp)
  rw[Nat.add_zero] at e0 f0
  obtain⟨u,hu⟩:=Option.isSome_iff_exists.1 e0
  simp only[storeCells,Sem.run_bind]
  rw[run_store P w _ v .plain (h3 v (List.mem_cons_self ..)),hu]
  simp only[f0,Bool.false_eq_true,if_false,Result.andThen_ok,setCells]
  refine zht a r (i+1) _ (fun j hj=>?_) (fun j hj=>?_) (fun v hv=>h3 v (List.mem_cons_of_mem _ hv))
  ·have:=h1 (j+1) (by simp;omega)
   rw[show i+(j+1)=i+1+j from by omega] at this
   exact zsm this
  ·have:=h2 (j+1) (by simp;omega)
   rw[show i+(j+1)=i+1+j from by omega] at this
   rw[zsj];exact this
structure Same(ro:Ro (sem P Q))(st st':St (sem P Q)):Prop where
 ov:st'.ov=st.ov
 slOk:∀u,zl9 ro st u->zl9 ro st' u
theorem zrz{ro:Ro (sem P Q)}{st st':St (sem P Q)}(hn:st.nx<=st'.nx)(h:∀j,j<st.nx->∀b',ro.blk st' j=some b'->∃b,ro.blk st j=some b/\b.num=b'.num):∀u,zl9 ro st u->zl9 ro st' u:=by
 intro u hu
 cases u with
 |one v =>
  cases v with
  |agg l => exact hu
  |sc x =>
   cases x with
   |loc j n off =>
    refine⟨Nat.lt_of_lt_of_le hu.1 hn,fun b' hb'=>?_⟩
    obtain⟨b,hb,he⟩:=h j hu.1 b' hb'
    rw[<-he];exact hu.2 b hb
   |_ => trivial
 |tup l => exact hu
 |undef => trivial
section
variable {cfg:Cfg} {ro:Ro (sem P Q)} {st:St (sem P Q)} {a:Act} {o:Oper} {w:World} {rd:Operand->Option (SL (sem P Q))} {put:SL (sem P Q)->St (sem P Q)->Prop} {Qx:Exit->Act->World->Prop}
def zDG(sf:Prop)(ro:Ro (sem P Q))(st:St (sem P Q))(o:Oper)(a:Act)(put:SL (sem P Q)->St (sem P Q)->Prop)(a':Act)(w':World):Prop :=
 ∃v st',put v st'/\a'=a.put o.dst v.toV/\(zck ro st' w'/\(sf->∀x,zck ro st' x->zck ro st x))/\zl9 ro st' v/\Same ro st st'
theorem zvO{v:Value}{w':World}{K:Act->World->Prop}(h:(execOp a.eval o).run P w=.ok (.value v) w')(hk:K (a.put o.dst v) w'):o.wp P a w K Qx:=by
 unfold Oper.wp;rw[h];exact hk
theorem zvJ{w':World}{K:Act->World->Prop}(h:(execOp a.eval o).run P w=.ok .skip w')(hk:K (a.put o.dst undef) w'):o.wp P a w K Qx:=by
 unfold Oper.wp;rw[h];exact hk
theorem zlK(hw:zck ro st w){j:Nat}{b:Blk (sem P Q)}(h:ro.blk st j=some b):(b.num:Nat)<w.heap.size:=by
 have:=hw.bk j b h
 unfold znH at this
 exact(Array.getElem?_eq_some_iff.1 this).1
theorem zeP{α:Type}:∀{l:List (Nat×α)} {j:Nat} {x:α},zdZ l j=some x->(j,x)∈l
 |[],j,x,h => by simp[zdZ] at h
 |(k,v)::r,j,x,h => by
  unfold zdZ at h
  cases hk:Nat.beq k j<;>rw[hk] at h
  ·exact List.mem_cons_of_mem _ (zeP h)
  ·simp only[cond_true,Option.some.injEq] at h
   subst h
   rw[Nat.eq_of_beq_eq_true hk]
   exact List.mem_cons_self ..
theorem zpM{d:Nat}:d∈ro.nums st↔∃j b,j<st.nx/\ro.blk st j=some b/\b.num=d:=by
 unfold Ro.nums
 simp only[List.mem_filterMap,List.mem_range,Option.map_eq_some_iff]
 constructor
 ·rintro⟨j,hj,b,hb,rfl⟩;exact⟨j,b,hj,hb,rfl⟩
 ·rintro⟨j,b,hj,hb,rfl⟩;exact⟨j,hj,b,hb,rfl⟩
theorem zk9{d:Nat}:d∈ro.dn st↔∃j b,j∈st.dirty/\ro.blk st j=some b/\b.num=d:=by
 unfold Ro.dn
 simp only[List.mem_filterMap,Option.map_eq_some_iff]
 constructor
 ·rintro⟨j,hj,b,hb,rfl⟩;exact⟨j,b,hj,hb,rfl⟩
 ·rintro⟨j,b,hj,hb,rfl⟩;exact⟨j,hj,b,hb,rfl⟩
theorem zmQ(hw:zck ro st w):∀d∈ro.nums st,d<w.heap.size:=by
 intro d hd
 obtain⟨j,b,_,hb,rfl⟩:=zpM.1 hd
 exact zlK hw hb
theorem zCR(hw:zck ro st w){d:Nat}(h:d∈ro.dn st):d∈ro.nums st:=by
 obtain⟨j,b,hj,hb,rfl⟩:=zk9.1 h
 exact zpM.2 ⟨j,b,hw.lt j b hb,hb,rfl⟩
theorem zfY{w2:World}(hw:zck ro st w)(hk:∀j b,ro.blk st j=some b->w2.heap[(b.num:Nat)]?=w.heap[(b.num:Nat)]?):zck ro (St.moved (A:=sem P Q) st w2) w2 where
 but:=But.refl _ _
 bk j b h:=by unfold znH;rw[hk j b h];exact hw.bk j b h
 lt j b h:=hw.lt j b h
 ord i j b c hb hc hij:=hw.ord i j b c hb hc hij
 ax j b h hj:=absurd (hw.lt j b h) (Nat.not_lt.2 hj)
 nol j b h:=hw.nol j b h
 same j b b0 h0 h:=hw.same j b b0 h0 h
theorem zfZ(w2:World):Same ro st (St.moved (A:=sem P Q) st w2):=⟨rfl,fun u hu=>by
 cases u with
 |one v => cases v with
  |agg l => exact hu
  |sc x => cases x<;>first|exact hu|trivial
 |tup l => exact hu
 |undef => trivial⟩
theorem zBY{w2:World}(hw:zck ro st w)(he:Ext w w2):zck ro st w2 where
 but:=hw.but.trans he
 bk j b h:=by unfold znH;rw[he.block _ (zlK hw h)];exact hw.bk j b h
 lt:=hw.lt
 ord:=hw.ord
 ax:=hw.ax
 nol:=hw.nol
 same:=hw.same
theorem zgl:Same ro st st:=⟨rfl,fun _ h=>h⟩
theorem zub(st:St (sem P Q))(b:Blk (sem P Q))(j:Nat):ro.blk { st with bl:=zvd st.bl st.nx b,nx:=st.nx+1 } j=if st.nx=j then some b else ro.blk st j:=by
 unfold Ro.blk
 simp only[zhU]
 by_cases h:st.nx=j
 ·simp[h]
 ·simp only[h,if_false]
theorem zoq{w2 x:World}(hw:zck ro st w)(hx:Ext w w2)(h:zck ro (St.moved (A:=sem P Q) st w2) x):zck ro st x where
 but:=hw.but.trans (hx.trans (Ext.of_but h.but))
 bk:=fun j b hb=>h.bk j b hb
 lt:=hw.lt
 ord:=hw.ord
 ax:=hw.ax
 nol:=hw.nol
 same:=hw.same
theorem zJZ{b0:Blk (sem P Q)}{x:World}(hw:zck ro st w)(hs:(World.heap st.anchor).size<=(b0.num:Nat))(h:zck ro { st with bl:=zvd st.bl st.nx b0,nx:=st.nx+1 } x):zck ro st x where
 but:=⟨h.but.os,h.but.tape,h.but.output,h.but.size,fun k hk hn=>h.but.block k hk fun hm=>by
  obtain⟨j,b,hj,hb,he⟩:=zk9.1 hm
  rw[zub] at hb
  split at hb
  ·obtain rfl:=Option.some.inj hb
   have hk:k<(World.heap st.anchor).size:=hk
   have he:(b0.num:Nat)=k:=he
   exact absurd hk (Nat.not_lt.2 (he▸hs))
  ·exact hn (zk9.2 ⟨j,b,hj,hb,he⟩)⟩
 bk:=fun j b hb=>h.bk j b (by rw[zub,if_neg (Ne.symm (Nat.ne_of_lt (hw.lt j b hb)))];exact hb)
 lt:=hw.lt
 ord:=hw.ord
 ax:=hw.ax
 nol:=hw.nol
 same:=hw.same
theorem zEW{t:TypeId}{v:SV (sem P Q)}(hw:zck ro st w)
  (hrun:(execOp a.eval o).run P w=.ok (.value (.pointer (some ⟨w.heap.size,0,none⟩))) (w.alloc (.cells v.toV.cells t)))
  (hpv:za3 v=true->(∀u∈v.cells.map Sc.toV,u.oneCell'=true)->zhL v) {sf:Prop} (h:zuM cfg ro st o t v put):o.wp P a w (zDG sf ro st o a put) Qx:=by
 refine zvO hrun ?_
 unfold zuM at h
 split at h
 ·exact h.elim
 ·rename_i d hd
  simp only[cond_eq_ite] at h
  split at h
  ·exact h.elim
  ·rename_i hnl
   have hnl:za3 v=true:=by simpa using hnl
   split at h
   ·
    have h1:=zjL (P:=P) (Q:=Q) h hw.but (zmQ hw)
    obtain⟨hone,hk⟩:=h1
    have hp:=hpv hnl hone
    unfold zhL at hp
    rw[hp]
    have hx:Ext w (w.alloc (.cells (v.cells.map Sc.toV).toArray t)):=Below.alloc (Below.refl _ w) (Nat.le_refl _) _
    have hpu:=hk (some ⟨w.heap.size,0,none⟩) (w.alloc (.cells (v.cells.map Sc.toV).toArray t))
     ⟨rfl,rfl,hx,Array.size_push ..,by show(w.heap.push _)[w.heap.size]?=_;simp⟩
    refine⟨_,_,hpu,rfl,⟨zfY hw fun j b hb=>?_,fun _ x=>zoq hw hx⟩,trivial,zfZ _⟩
    exact hx.block _ (zlK hw hb)
   ·
    rw[zhN] at h
    obtain⟨hone,hk⟩:=h
    have hp:zhL v:=zGh hone
    unfold zhL at hp
    rw[hp]
    have hpu:=hk w.heap.size hw.but.size
    have hx:Ext w (w.alloc (.cells (v.cells.map Sc.toV).toArray t)):=Below.alloc (Below.refl _ w) (Nat.le_refl _) _
    have hnew:∀j b,ro.blk { st with bl:=zvd st.bl st.nx ⟨w.heap.size,t,v.cells⟩,nx:=st.nx+1 } j=some b->(j=st.nx/\b=⟨w.heap.size,t,v.cells⟩)\/(j≠st.nx/\ro.blk st j=some b):=by
     intro j b hb
     rw[zub] at hb
     split at hb
     ·rename_i he;exact .inl ⟨he.symm,(Option.some.inj hb).symm⟩
     ·rename_i he;exact .inr ⟨Ne.symm he,hb⟩
    refine⟨_,_,hpu,rfl,⟨?_,fun _ x=>zJZ hw hw.but.size⟩,?_,⟨rfl,?_⟩⟩
    ·refine⟨?_,?_,?_,?_,?_,?_,?_⟩
     ·refine(hw.but.trans hx).mono fun d hd=>?_
      obtain⟨j,b,hj,hb,rfl⟩:=zk9.1 hd
      refine zk9.2 ⟨j,b,hj,?_,rfl⟩
      rw[zub,if_neg (Ne.symm (Nat.ne_of_lt (hw.lt j b hb)))]
      exact hb
     ·intro j b hb
      rcases hnew j b hb with⟨rfl,rfl⟩|⟨_,hb⟩
      ·show(w.heap.push _)[w.heap.size]?=_
       simp
      ·unfold znH;rw[hx.block _ (zlK hw hb)];exact hw.bk j b hb
     ·intro j b hb
      rcases hnew j b hb with⟨rfl,_⟩|⟨_,hb⟩
      ·exact Nat.lt_succ_self _
      ·exact Nat.lt_succ_of_lt (hw.lt j b hb)
     ·intro i j b c hb hc hij
      rcases hnew i b hb with⟨rfl,rfl⟩|⟨_,hb⟩
      ·rcases hnew j c hc with⟨rfl,_⟩|⟨_,hc⟩
       ·exact absurd hij (Nat.lt_irrefl _)
       ·have:=hw.lt j c hc;omega
      ·rcases hnew j c hc with⟨rfl,rfl⟩|⟨_,hc⟩
       ·exact zlK hw hb
       ·exact hw.ord i j b c hb hc hij
     ·intro j b hb hj
      rcases hnew j b hb with⟨rfl,rfl⟩|⟨_,hb⟩
      ·exact hw.but.size
      ·exact hw.ax j b hb hj
     ·intro j b hb
      rcases hnew j b hb with⟨rfl,rfl⟩|⟨_,hb⟩
      ·exact hnl
      ·exact hw.nol j b hb
     ·intro j b b0 h0 hb
      rcases hnew j b hb with⟨rfl,rfl⟩|⟨_,hb⟩
      ·exfalso
       have:∃b1,ro.blk st st.nx=some b1:=by
        unfold Ro.blk
        split
        ·exact⟨_,rfl⟩
        ·exact⟨b0,h0⟩
       obtain⟨b1,hb1⟩:=this
       exact Nat.lt_irrefl _ (hw.lt _ _ hb1)
      ·exact hw.same j b b0 h0 hb
    ·refine⟨Nat.lt_succ_self _,fun b hb=>?_⟩
     rcases hnew _ b hb with⟨_,rfl⟩|⟨h,_⟩
     ·rfl
     ·exact absurd rfl h
    ·refine zrz (Nat.le_succ _) fun j hj b' hb'=>?_
     rcases hnew j b' hb' with⟨rfl,_⟩|⟨_,hb⟩
     ·exact absurd hj (Nat.lt_irrefl _)
     ·exact⟨b',hb,rfl⟩
theorem zu8{v:SV (sem P Q)}(h:∀u∈v.cells.map Sc.toV,u.oneCell'=true):zhL v:=by
 cases v with
 |agg l => rfl
 |sc x =>
  have h1:x.toV.oneCell'=true:=h _ (by simp[SV.cells])
  show x.toV.cells=#[x.toV]
  generalize x.toV=u at h1
  cases u<;>first|rfl|(simp[Value.oneCell'] at h1)
theorem zNy{t:TypeId}{x:Operand}{v:Value}(ho:o.op=.box t x)(hx:a.eval x=v):(execOp a.eval o).run P w=.ok (.value (.pointer (some ⟨w.heap.size,0,none⟩))) (w.alloc (.cells v.cells t)):=by
 simp[execOp,ho,Instr.box,newVar,newRow,hx]
theorem zGB{t:TypeId}{v:SV (sem P Q)}(ho:o.op=.alloc t)(hz:(zpb P t:Option (SV (sem P Q)))=some v):(execOp a.eval o).run P w=.ok (.value (.pointer (some ⟨w.heap.size,0,none⟩))) (w.alloc (.cells v.toV.cells t)):=by
 have hzv:(zeroValue t).run P w=.ok v.toV w:=by
  unfold zpb at hz
  cases hi:P.info? t with
  |none => simp[hi] at hz
  |some i =>
   cases hzz:i.zero with
   |none => simp[hi,hzz] at hz
   |some z =>
    simp only[hi,Option.bind_some,hzz,Option.some.injEq] at hz
    subst hz
    rw[zkg]
    simp[zeroValue,typeInfo,hi,hzz]
 simp[execOp,ho,Instr.alloc,hzv,newVar,newRow]
theorem zqy{nm:String}{s:Sh}{f:Sc (sem P Q)->Prop}(h:exSh (A:=sem P Q) nm s f):∃x,zcs x=true/\f x:=by
 cases s with
 |int k => obtain⟨n,h⟩:=h;exact⟨_,rfl,h⟩
 |bool => obtain⟨n,h⟩:=h;exact⟨_,rfl,h⟩
 |str => obtain⟨n,h⟩:=h;exact⟨_,rfl,h⟩
 |slc => obtain⟨p,l,c,h⟩:=h;exact⟨_,rfl,h⟩
 |ptr => obtain⟨n,h⟩:=h;exact⟨_,rfl,h⟩
 |val => obtain⟨n,h⟩:=h;exact⟨_,rfl,h⟩
theorem ztw{nm:String}:∀{l:List Sh} {i:Nat} {f:List (Sc (sem P Q))->Prop},zMD (A:=sem P Q) nm i l f->∃x,x.all zcs=true/\f x
 |[],i,f,h => ⟨[],rfl,h⟩
 |s::r,i,f,h => by
  obtain⟨x,hx,h⟩:=zqy h
  obtain⟨y,hy,h⟩:=ztw h
  exact⟨x::y,by simp[hx,hy],h⟩
theorem zE6{nm:String}{t:TypeId}{f:SV (sem P Q)->Prop}(h:exTy (A:=sem P Q) P nm t f):∃x,za3 x=true/\f x:=by
 unfold exTy at h
 simp only[cond_eq_ite] at h
 split at h
 ·obtain⟨x,hx,h⟩:=ztw h
  exact⟨.agg x,hx,h⟩
 ·obtain⟨x,hx,h⟩:=zqy h
  exact⟨.sc x,by simp[za3,SV.cells,hx],h⟩
theorem zeO:∀{l:List (String×TypeId)} {f:List (SV (sem P Q))->Prop},zIL (A:=sem P Q) P l f->∃x,x.all za3=true/\f x
 |[],f,h => ⟨[],rfl,h⟩
 |(nm,t)::r,f,h => by
  obtain⟨x,hx,h⟩:=zE6 h
  obtain⟨y,hy,h⟩:=zeO h
  exact⟨x::y,by simp[hx,hy],h⟩
theorem zdp{l:List (SV (sem P Q))}(h:l.all za3=true):zl9 ro st (zbW l):=by
 unfold zbW
 split
 ·simp only[List.all_cons,List.all_nil,Bool.and_true] at h
  exact zdq h
 ·exact h
theorem zDf{ds:List Nat}{wa:World}{p:Option Addr}{i:Nat}{v:Value}(h:(sem P Q).oCell ds wa p i v):cell wa p i=some v/\zyu ds p:=by
 cases ds with
 |nil => exact⟨h,fun b hb => by cases hb⟩
 |cons d r => exact h
theorem zlG{ds:List Nat}{wa:World}{nm:String}{p:Option Addr}:∀{l:List Sh} {i:Nat} {f:List (Sc (sem P Q))->Prop},zBH (A:=sem P Q) ds wa nm p i l f ->
  ∃x,x.all zcs=true/\(∀j u,x[j]?=some u->cell wa p (i+j)=some u.toV)/\(x≠[]->zyu ds p)/\f x
 |[],i,f,h => ⟨[],rfl,by simp,by simp,h⟩
 |s::r,i,f,h => by
  obtain⟨x,hx,h1,h2⟩:=zqy h
  obtain⟨hc,hfr⟩:=zDf (P:=P) (Q:=Q) h1
  obtain⟨y,hy,hyc,_,h⟩:=zlG h2
  refine⟨x::y,by simp[hx,hy],?_,fun _=>hfr,h⟩
  intro j u hj
  cases j with
  |zero => simp only[List.getElem?_cons_zero,Option.some.injEq] at hj;subst hj;exact hc
  |succ j =>
   rw[List.getElem?_cons_succ] at hj
   have:=hyc j u hj
   rw[show i+(j+1)=i+1+j from by omega];exact this
theorem zEH{wa:World}{p:Option Addr}{i:Nat}{v:Value}(h:cell wa p i=some v):∃q,p=some q/\wa.cell? (q.add i)=some v:=by
 cases p with
 |none => simp[cell] at h
 |some q => exact⟨q,rfl,h⟩
theorem zIA{nm:String}{t:TypeId}{x:Operand}{p:Option Addr}(hr:zbM a rd)(ho:o.op=.load t x)(hx:sc? (rd x)=some (Sc.ptr (A:=sem P Q) p))
  (h:zuG P ro st nm o t p put):∃v,(∀w,zck ro st w->zbs P o a w v.toV)/\zl9 ro st v/\put v st:=by
 have ex:=hr.sc hx
 unfold zuG at h
 split at h
 ·exact h.elim
 ·rename_i d hd
  simp only[cond_eq_ite] at h
  split at h
  ·rename_i hbig
   have hagg:zdu P t=true:=by simp only[Bool.and_eq_true] at hbig;exact hbig.1
   obtain⟨u,⟨cs,rfl,hl,hc,hfr,hp⟩,h⟩:=h
   refine⟨.one (.sc (.val (.agg cs.toArray))),fun w hw=>?_,trivial,h⟩
   cases p with
   |none => exact absurd rfl hp
   |some q =>
    refine za5 (s:=Instr.loadAt t (a.eval x)) (by simp[execOp,ho]) ?_
    rw[ex]
    simp only[toV_ptr,Instr.loadAt,Instr.sureAddr,Sem.run_bind,Sem.run_pure,Result.andThen_ok,loadVar,zeQ hd,hagg,if_true,zbT hd]
    have hlc:∀j u,cs[j]?=some u->w.cell? (q.add j)=some u:=by
     intro j u hj
     have h2:st.anchor.cell? (q.add j)=some u:=hc j u hj
     refine zpC hw.but h2 ?_
     intro hm
     exact hfr _ hm q rfl (zaL q j).symm
    have:=run_loadCells_list (P:=P) (w:=w) q cs hlc
    rw[hl] at this
    rw[this];simp
  split at h
  ·rename_i hagg
   obtain⟨hp,h⟩:=h
   obtain⟨cs,hn,hc,hfr,h⟩:=zlG h
   split at h
   ·rename_i hl
    have hl:cs.length=P.cellsOf t:=by simpa using hl
    refine⟨.one (.agg cs),fun w hw=>?_,hn,h⟩
    cases p with
    |none => exact absurd rfl hp
    |some q =>
     refine za5 (s:=Instr.loadAt t (a.eval x)) (by simp[execOp,ho]) ?_
     rw[ex]
     simp only[toV_ptr,Instr.loadAt,Instr.sureAddr,Sem.run_bind,Sem.run_pure,Result.andThen_ok,loadVar,zeQ hd,hagg,if_true,zbT hd]
     have hlc:∀j u,(cs.map Sc.toV)[j]?=some u->w.cell? (q.add j)=some u:=by
      intro j u hj
      rw[List.getElem?_map] at hj
      simp only[Option.map_eq_some_iff] at hj
      obtain⟨y,hy,rfl⟩:=hj
      have h1:=hc j y hy
      rw[Nat.zero_add] at h1
      have h2:st.anchor.cell? (q.add j)=some y.toV:=h1
      refine zpC hw.but h2 ?_
      have hne:cs≠[]:=by intro h0;rw[h0] at hy;simp at hy
      intro hm
      exact hfr hne _ hm q rfl (zaL q j).symm
     have:=run_loadCells_list (P:=P) (w:=w) q (cs.map Sc.toV) hlc
     rw[List.length_map,hl] at this
     rw[this];simp
   ·exact h.elim
  ·rename_i hagg
   obtain⟨cs,hn,hc,hfr,h'⟩:=zlG h
   clear h
   split at h'
   ·rename_i y
    have h1:=hc 0 y rfl
    rw[Nat.add_zero] at h1
    obtain⟨q,rfl,h2⟩:=zEH h1
    have h2:st.anchor.cell? q=some y.toV:=h2
    refine⟨.one (.sc y),fun w hw=>?_,zop (by simpa using hn),h'⟩
    refine za5 (s:=Instr.loadAt t (a.eval x)) (by simp[execOp,ho]) ?_
    rw[ex]
    have h3:w.cell? q=some y.toV:=zpC hw.but h2 fun hm=>hfr (by simp) _ hm q rfl rfl
    have hagg:zdu P t=false:=by simpa using hagg
    simp[Instr.loadAt,Instr.sureAddr,loadVar,zeQ hd,hagg,h3]
   ·exact h'.elim
theorem zDm{w2:World}{st2:St (sem P Q)}(hw:zck ro st w)(hbl:st2.bl=st.bl)(hnx:st2.nx=st.nx)(hax:st2.ax=st.ax)(hd:st2.dirty=st.dirty)
  (hbut:But (ro.dn st) st2.anchor w2) (hsz:(World.heap st2.anchor).size=(World.heap st.anchor).size) (hk:∀j b,ro.blk st j=some b->w2.heap[(b.num:Nat)]?=w.heap[(b.num:Nat)]?):zck ro st2 w2:=by
 have hb:∀j,ro.blk st2 j=ro.blk st j:=fun j=>by unfold Ro.blk;rw[hbl]
 have hdn:ro.dn st2=ro.dn st:=by unfold Ro.dn;rw[hd];congr 1;funext j;rw[hb]
 refine⟨by rw[hdn];exact hbut,fun j b h=>?_,fun j b h=>?_,fun i j b c h1 h2=>?_,fun j b h hj=>?_,fun j b h=>?_,fun j b b0 h0 h=>?_⟩
 ·rw[hb] at h;unfold znH;rw[hk j b h];exact hw.bk j b h
 ·rw[hb] at h;rw[hnx];exact hw.lt j b h
 ·rw[hb] at h1 h2;exact hw.ord i j b c h1 h2
 ·rw[hb] at h;rw[hax] at hj;rw[hsz];exact hw.ax j b h hj
 ·rw[hb] at h;exact hw.nol j b h
 ·rw[hb] at h;exact hw.same j b b0 h0 h
theorem zxQ{ds:List Nat}{wa w:World}(h:But ds wa w){q:Addr}(hq:q.block<wa.heap.size)(hf:q.block∉ds)(vs:List Value):∀i,But ds (setCells wa q vs i) (setCells w q vs i):=by
 induction vs generalizing wa w with
 |nil => intro i;exact h
 |cons v r ih =>
  intro i
  refine ih ?_ ?_ _
  ·refine⟨h.os,h.tape,h.output,?_,fun k hk hn=>?_⟩
   ·simp only[World.setCell,Array.size_modify];exact h.size
   ·simp only[World.setCell,Array.size_modify] at hk
    simp only[World.setCell,Array.getElem?_modify]
    rw[h.block k hk hn]
  ·simp only[World.setCell,Array.size_modify];exact hq
theorem zo7{t:TypeId}{x y:Operand}{q:Addr}{v:SV (sem P Q)}{w2:World}(ho:o.op=.store t x y)(hx:a.eval x=.pointer (some q))(hy:a.eval y=v.toV)(hv:zhL v)(hsz:v.cells.length=P.cellsOf t)(h0:P.cellsOf t≠0)
  (hrun:(storeCells q (v.cells.map Sc.toV) 0).run P w=.ok () w2):(execOp a.eval o).run P w=.ok .skip w2:=by
 unfold zhL at hv
 have hs:(sizeOf t).run P w=.ok (P.cellsOf t) w:=by
  unfold Program.cellsOf at *
  cases hi:P.info? t with
  |none => simp[hi] at h0
  |some i => simp[sizeOf,typeInfo,hi]
 simp only[execOp,ho,Instr.storeAt,hx,hy,Instr.sureAddr,storeVar,Sem.run_bind,Sem.run_pure,Result.andThen_ok,hs,hv,List.size_toArray,List.length_map,hsz]
 simp[hrun]
theorem zEx{st2:St (sem P Q)}{j:Nat}{b':Blk (sem P Q)}(hbl:st2.bl=zvd st.bl j b')(i:Nat):ro.blk st2 i=if j=i then some b' else ro.blk st i:=by
 unfold Ro.blk
 rw[hbl,zhU]
 by_cases h:j=i
 ·simp[h]
 ·simp only[h,if_false]
theorem zEX{t:TypeId}{x y:Operand}{sx:Sc (sem P Q)}{v:SV (sem P Q)}(hr:zbM a rd)(hs:∀x v,rd x=some v->zl9 ro st v)(ho:o.op=.store t x y)(hx:sc? (rd x)=some sx)(hy:one? (rd y)=some v)
  (hw:zck ro st w) (h:zrB P ro st o t sx v put):o.wp P a w (zDG False ro st o a put) Qx:=by
 have ex:=hr.sc hx
 have ey:=hr.one hy
 unfold zrB at h
 simp only[cond_eq_ite] at h
 split at h
 ·exact h.elim
 ·rename_i hc
  have hc:(v.cells.length=P.cellsOf t/\za3 v=true)/\P.cellsOf t≠0:=by
   simpa[Nat.beq_eq] using hc
  obtain⟨⟨hsz,hnl⟩,h0⟩:=hc
  split at h
  ·
   rename_i j n off
   split at h
   ·rename_i b hb
    split at h
    ·rename_i hfit
     have hfit:off+v.cells.length<=b.cells.length:=by simpa using hfit
     rw[zhN] at h
     obtain⟨hone,hk⟩:=h
     have hv:=zGh hone
     have hloc:=hs _ _ (sc?_some hx)
     have hnum:b.num=n:=hloc.2 b hb
     have hbk:w.heap[(n:Nat)]?=some (.cells (b.cells.map Sc.toV).toArray b.ty):=by
      have:=hw.bk j b hb;unfold znH at this;rw[hnum] at this;exact this
     have hcell:∀i,i<v.cells.length->(w.cell? (Addr.add ⟨n,off,none⟩ i)).isSome=true:=by
      intro i hi
      rw[znC]
      simp only[World.cell?,hbk]
      simp;omega
     have hfr:∀i,w.frozen? (Addr.add ⟨n,off,none⟩ i)=false:=by
      intro i
      rw[znC]
      simp[World.frozen?,hbk]
     have honec:∀u∈v.cells.map Sc.toV,u.oneCell'=true:=by
      intro u hu
      obtain⟨z,hz,rfl⟩:=List.mem_map.1 hu
      have hall:∀(l:List (Sc (sem P Q))),All (zo3 l)->∀z∈l,(z.toV).oneCell'=true:=by
       intro l
       induction l with
       |nil => intro _ z hz;cases hz
       |cons c r ih =>
        intro h z hz
        rcases List.mem_cons.1 hz with rfl|hz
        ·cases z<;>first|rfl|exact h.1
        ·refine ih ?_ z hz
         cases c<;>first|exact h|exact h.2
      exact hall _ hone z hz
     have hrun:=zht (P:=P) ⟨n,off,none⟩ (v.cells.map Sc.toV) 0 w (by intro i hi;rw[Nat.zero_add];exact hcell i (by simpa using hi)) (by intro i _;exact hfr _) honec
     refine zvJ (zo7 ho (by rw[ex];rfl) ey hv hsz h0 hrun) ?_
     obtain⟨f1,f2,f3,f4,f5⟩:=ze2 ⟨n,off,none⟩ (v.cells.map Sc.toV) 0 w
     have fb:=zlg n off b.ty (0,0) (v.cells.map Sc.toV) 0 w (b.cells.map Sc.toV) hbk
     rw[Nat.add_zero,<-zi0] at fb
     have hblk:∀i b',(if j=i then some ({ b with cells:=zaE b.cells off v.cells }:Blk (sem P Q)) else ro.blk st i)=some b'->(i=j/\b'={ b with cells:=zaE b.cells off v.cells })\/(i≠j/\ro.blk st i=some b'):=by
      intro i b' h
      split at h
      ·rename_i he;exact .inl ⟨he.symm,(Option.some.inj h).symm⟩
      ·rename_i he;exact .inr ⟨Ne.symm he,h⟩
     have hne:∀i b',i≠j->ro.blk st i=some b'->(b'.num:Nat)≠n:=by
      intro i b' hij hb' he
      rcases Nat.lt_or_gt_of_ne hij with hl|hg
      ·have h3:=hw.ord i j b' b hb' hb hl;rw[hnum] at h3;exact Nat.ne_of_lt h3 he
      ·have h3:=hw.ord j i b b' hb hb' hg;rw[hnum] at h3;exact Nat.ne_of_gt h3 he
     refine⟨_,_,hk,rfl,⟨?_,fun h=>h.elim⟩,trivial,⟨rfl,?_⟩⟩
     ·have hget:=fun i=>zEx (P:=P) (Q:=Q) (ro:=ro) (st:=st) (st2:={ st with bl:=zvd st.bl j { b with cells:=zaE b.cells off v.cells },dirty:=zuj st j }) (j:=j) (b':={ b with cells:=zaE b.cells off v.cells }) rfl i
      refine⟨?_,?_,?_,?_,?_,?_,?_⟩
      ·refine⟨f1.trans hw.but.os,f2.trans hw.but.tape,f3.trans hw.but.output,by rw[f4];exact hw.but.size,fun k hk hn=>?_⟩
       have hkn:k≠n:=by
        intro hkn
        subst hkn
        by_cases hj:j<st.ax
        ·refine hn (zk9.2 ⟨j,{ b with cells:=zaE b.cells off v.cells },?_,by rw[hget,if_pos rfl],hnum⟩)
         have hblt:Nat.blt j st.ax=true:=by rw[Nat.blt_eq];exact hj
         simp only[zuj,hblt,Bool.true_and]
         cases hm:zia st.dirty j
         ·simp
         ·simp only[Bool.not_true,cond_false];exact(zc0 _ _).1 hm
        ·have h3:=hw.ax j b hb (Nat.not_lt.1 hj)
         rw[hnum] at h3;exact absurd hk (Nat.not_lt.2 h3)
       rw[f5 k hkn]
       refine hw.but.block k hk fun hm=>hn ?_
       obtain⟨i,b',hi,hb',hnb⟩:=zk9.1 hm
       by_cases hij:i=j
       ·subst hij
        rw[hb] at hb'
        obtain rfl:=Option.some.inj hb'
        exact absurd (hnb.symm.trans hnum) hkn
       ·refine zk9.2 ⟨i,b',?_,by rw[hget,if_neg (Ne.symm hij)];exact hb',hnb⟩
        simp only[zuj,cond_eq_ite]
        split
        ·exact List.mem_cons_of_mem _ hi
        ·exact hi
      ·intro i b' hb'
       rw[hget] at hb'
       rcases hblk i b' hb' with⟨_,rfl⟩|⟨hij,hb'⟩
       ·show _=_
        rw[show(({ b with cells:=zaE b.cells off v.cells }:Blk (sem P Q)).num)=n from hnum]
        exact fb
       ·unfold znH
        rw[f5 _ (hne i b' hij hb')]
        exact hw.bk i b' hb'
      ·intro i b' hb'
       rw[hget] at hb'
       rcases hblk i b' hb' with⟨rfl,rfl⟩|⟨hij,hb'⟩
       ·exact hw.lt _ b hb
       ·exact hw.lt i b' hb'
      ·intro i k b1 b2 h1 h2 hik
       rw[hget] at h1 h2
       rcases hblk i b1 h1 with⟨e1,f1⟩|⟨_,g1⟩<;>rcases hblk k b2 h2 with⟨e2,f2⟩|⟨_,g2⟩
       ·rw[e1,e2] at hik;exact absurd hik (Nat.lt_irrefl _)
       ·rw[f1];rw[e1] at hik;exact hw.ord _ k b b2 hb g2 hik
       ·rw[f2];rw[e2] at hik;exact hw.ord i _ b1 b g1 hb hik
       ·exact hw.ord i k b1 b2 g1 g2 hik
      ·intro i b' hb' hi
       rw[hget] at hb'
       rcases hblk i b' hb' with⟨rfl,rfl⟩|⟨_,hb'⟩
       ·exact hw.ax _ b hb hi
       ·exact hw.ax i b' hb' hi
      ·intro i b' hb'
       rw[hget] at hb'
       rcases hblk i b' hb' with⟨rfl,rfl⟩|⟨_,hb'⟩
       ·exact zhu _ _ _ (hw.nol _ b hb) hnl
       ·exact hw.nol i b' hb'
      ·intro i b' b0 h0 hb'
       rw[hget] at hb'
       rcases hblk i b' hb' with⟨rfl,rfl⟩|⟨_,hb'⟩
       ·exact hw.same _ b b0 h0 hb
       ·exact hw.same i b' b0 h0 hb'
     ·refine zrz (Nat.le_refl _) fun i _ b' hb'=>?_
      rw[zEx (P:=P) (Q:=Q) (ro:=ro) (st:=st) rfl i] at hb'
      rcases hblk i b' hb' with⟨rfl,rfl⟩|⟨_,hb'⟩
      ·exact⟨b,hb,rfl⟩
      ·exact⟨b',hb',rfl⟩
    ·exact h.elim
   ·exact h.elim
  ·
   rename_i p
   obtain⟨hok,hk⟩:=h
   cases p with
   |none => exact absurd rfl hok.some
   |some q =>
    have hv:=zu8 hok.one
    have hpos:0<v.cells.length:=by omega
    have hcell:∀i,i<v.cells.length->∃u,st.anchor.cell? (q.add i)=some u:=fun i hi=>Option.isSome_iff_exists.1 (hok.cells i (by simpa using hi))
    obtain⟨u0,hu0⟩:=hcell 0 hpos
    have hq:q.block<(World.heap st.anchor).size:=by have:=zEI hu0;rwa [zaL] at this
    have hnn:q.block∉ro.nums st:=fun hm=>hok.apart _ hm q rfl rfl
    have hnd:q.block∉ro.dn st:=fun hm=>hnn (zCR hw hm)
    have hblkq:w.heap[q.block]?=(World.heap st.anchor)[q.block]?:=hw.but.block _ hq hnd
    have hrun:=zht (P:=P) q (v.cells.map Sc.toV) 0 w
     (by intro i hi;rw[Nat.zero_add];obtain⟨u,hu⟩:=hcell i (by simpa using hi);rw[zpC hw.but hu (by rw[zaL];exact hnd)];rfl)
     (by
       intro i hi;rw[Nat.zero_add];have:=hok.free i (by simpa using hi) q rfl
       rw[<-this];exact World.frozen?_of_block (w:=st.anchor) (by rw[zaL];exact hblkq)) hok.one
    refine zvJ (zo7 ho (by rw[ex];rfl) ey hv hsz h0 hrun) ?_
    have hpu:=hk _ rfl
    refine⟨_,_,hpu,rfl,⟨?_,fun h=>h.elim⟩,trivial,⟨rfl,zrz (Nat.le_refl _) fun i _ b' hb'=>⟨b',hb',rfl⟩⟩⟩
    obtain⟨f1,f2,f3,f4,f5⟩:=ze2 q (v.cells.map Sc.toV) 0 w
    obtain⟨g1,g2,g3,g4,g5⟩:=ze2 q (v.cells.map Sc.toV) 0 st.anchor
    refine zDm hw rfl rfl rfl rfl (zxQ hw.but hq hnd _ 0) g4 fun j b hb=>f5 _ ?_
    intro he
    exact hnn (he▸zpM.2 ⟨j,b,hw.lt j b hb,hb,rfl⟩)
  ·exact h.elim
theorem zoV{ns:List Nat}{w2:World}{k:Prop}(h:zuE (A:=sem P Q) ns w w2 k):(∀b∈ns,w2.heap[b]?=w.heap[b]?)/\k:=by
 unfold zuE at h
 split at h
 ·exact⟨fun b hb=>(by cases hb),h⟩
 ·exact⟨h.1,h.2⟩
theorem zBw{w2:World}(hw:zck ro st w)(hk:∀b∈ro.nums st,w2.heap[b]?=w.heap[b]?):∀j b,ro.blk st j=some b->w2.heap[(b.num:Nat)]?=w.heap[(b.num:Nat)]? :=
 fun j b hb=>hk _ (zpM.2 ⟨j,b,hw.lt j b hb,hb,rfl⟩)
theorem zjR{nm:String}{ext:Bool}{rts:List TypeId}{call:World->(Value->World->Prop)->Prop}(hw:zck ro st w)
  (hcall:∀K,call w K->∃f args,(execOp a.eval o).run P w=.ok (.enter f args) w/\Calls P f args w (fun e w'=>∃v,e=.returned v/\K v w'))
  (h:zgT P ro st nm ext rts call put):o.wp P a w (zDG (ext=true) ro st o a put) Qx:=by
 unfold zgT at h
 simp only at h
 have h1:=zjL (P:=P) (Q:=Q) h hw.but (by
  intro b hb
  simp only[cond_eq_ite] at hb
  split at hb
  ·cases hb
  ·exact zmQ hw b hb)
 obtain⟨f,args,hrun,hc⟩:=hcall _ h1
 unfold Oper.wp
 rw[hrun]
 refine hc.mono fun e w2 ⟨v,he,hv⟩=>?_
 subst he
 show zDG (ext=true) ro st o a put (a.put o.dst v) w2
 simp only[cond_eq_ite] at hv
 split at hv
 ·obtain⟨hx,hv⟩:=hv
  have hx:Ext w w2:=hx
  split at hv
  ·obtain⟨l,hl,he,hv⟩:=zeO hv
   have he:v=(zbW l).toV:=he
   exact⟨_,_,hv,by rw[he],⟨zfY hw fun j b hb=>hx.block _ (zlK hw hb),fun _ x=>zoq hw hx⟩,zdp hl,zfZ _⟩
  ·obtain⟨l,hl,he,hv⟩:=zeO hv
   have he:v=(zbW l).toV:=he
   exact⟨_,_,hv,by rw[he],⟨zBY hw hx,fun _ x h=>h⟩,zdp hl,zgl⟩
 ·obtain⟨hk,hv⟩:=zoV hv
  obtain⟨l,hl,he,hv⟩:=zeO hv
  have he:v=(zbW l).toV:=he
  exact⟨_,_,hv,by rw[he],⟨zfY hw (zBw hw hk),fun h=>absurd h ‹¬ext=true›⟩,zdp hl,zfZ _⟩
theorem ziX{f:Operand}{args:Array Operand}{ats:Array TypeId}{g:Nat}{cap:Array Value}(ho:o.op=.call { callee:=.value f,args,argTypes:=ats })(hf:a.eval f=.func (.func g) #[] cap)
  (he:zmc P g):(execOp a.eval o).run P w=.ok (.enter g (args.map a.eval++cap)) w:=by
 have:execOp a.eval o=(do let d <-resolve a.eval { callee:=.value f,args,argTypes:=ats } o.type;invoke d.target d.args):=by
  cases o;subst ho;rfl
 rw[this]
 simp only[resolve,hf,Deferred.ofValue,Sem.run_bind,Sem.run_pure,Result.andThen_ok,invoke]
 rw[he];simp
theorem zz3{f:Operand}{args:Array Operand}{ats:Array TypeId}{g:Nat}{bd cap:Array Value}(ho:o.op=.call { callee:=.value f,args,argTypes:=ats })(hf:a.eval f=.func (.func g) bd cap)
  (he:zmc P g):(execOp a.eval o).run P w=.ok (.enter g (bd++args.map a.eval++cap)) w:=by
 have:execOp a.eval o=(do let d <-resolve a.eval { callee:=.value f,args,argTypes:=ats } o.type;invoke d.target d.args):=by
  cases o;subst ho;rfl
 rw[this]
 simp only[resolve,hf,Deferred.ofValue,Sem.run_bind,Sem.run_pure,Result.andThen_ok,invoke]
 rw[he]
theorem zNH{c:Bool}(h:(bif c then Kd.soft else Kd.hard)=Kd.soft):c=true:=by cases c<;>first|rfl|cases h
theorem zef{sf sf':Prop}{a':Act}{w':World}(h:sf'->sf)(hl:zDG sf ro st o a put a' w'):zDG sf' ro st o a put a' w':=by
 obtain⟨v,st',h1,h2,⟨h3,h4⟩,h5,h6⟩:=hl
 exact⟨v,st',h1,h2,⟨h3,fun hs=>h4 (h hs)⟩,h5,h6⟩
theorem zDs{f:Operand}{g:Nat}{cap:List Value}(hs:zDr cfg f=true)(ef:a.eval f=(SV.sc (Sc.fn (A:=sem P Q) g cap)).toV):(!zia cfg.muts g)=true:=by
 unfold zDr at hs
 split at hs
 ·rename_i g'
  have:g'=g:=by
   simp only[Act.eval,SV.toV,Sc.toV] at ef
   injection ef with e1 e2 e3
   injection e1
  simp only[Bool.and_eq_true] at hs
  rw[<-this];exact hs.1
 ·rw[List.isEmpty_iff.1 hs];rfl
theorem zJY{f:Operand}(hs:zDr cfg f=true):(!zia cfg.muts 1000000)=true:=by
 unfold zDr at hs
 split at hs
 ·simp only[Bool.and_eq_true] at hs
  exact hs.2
 ·rw[List.isEmpty_iff.1 hs];rfl
theorem zIz{nm:String}{f:Operand}{args:Array Operand}{ats:Array TypeId}(hr:zbM a rd)(ho:o.op=.call { callee:=.value f,args,argTypes:=ats })(hw:zck ro st w)
  (h:zED P cfg ro st rd nm o f args.toList put):o.wp P a w (zDG (zDr cfg f=true) ro st o a put) Qx:=by
 unfold zED at h
 split at h
 ·rename_i g cap l hf hl
  have ef:=hr.one hf
  have el:=zdX hr hl
  have ea:args.map a.eval=(l.map SV.toV).toArray:=by rw[<-el,<-Array.toList_map]
  simp only[cond_eq_ite] at h
  split at h
  ·refine Oper.wp_mono (fun _ _=>zef (fun hs=>zDs hs ef)) (zjR hw (fun K hK=>?_) h)
   have hK:FnP P g (l.map SV.toV++cap).toArray w K:=hK
   refine⟨g,_,ziX ho ef hK.1,?_⟩
   have e2:args.map a.eval++cap.toArray=(l.map SV.toV++cap).toArray:=by rw[ea];simp
   rw[e2];exact hK.2
  ·exact h.elim
 ·rename_i u l hf hl
  have ef:=hr.one hf
  have el:=zdX hr hl
  have ea:args.map a.eval=(l.map SV.toV).toArray:=by rw[<-el,<-Array.toList_map]
  simp only[cond_eq_ite] at h
  split at h
  ·refine Oper.wp_mono (fun _ _=>zef (fun hs=>zJY hs)) (zjR hw (fun K hK=>?_) h)
   have hK:(bif zia cfg.muts 2000000 then zLr P u (l.map SV.toV) w K else zgP P u (l.map SV.toV) w K):=by
    revert hK
    cases zia cfg.muts 2000000<;>exact id
   simp only[cond_eq_ite] at hK
   split at hK
   ·obtain⟨g,bd,cap,hu,hK⟩:=hK
    have hu:u=.func (.func g) bd cap:=hu
    refine⟨g,_,zz3 ho (by rw[ef];exact hu) hK.1,?_⟩
    rw[ea];exact hK.2
   ·obtain⟨g,cap,hu,hK⟩:=hK
    have hu:u=.func (.func g) #[] cap:=hu
    refine⟨g,_,ziX ho (by rw[ef];exact hu) hK.1,?_⟩
    rw[ea];exact hK.2
  ·exact h.elim
 ·exact h.elim
theorem zDp{r:Operand}{m:String}{args:Array Operand}{ats:Array TypeId}{t:TypeId}{x:Value}{g:Nat}{rv:Value}(ho:o.op=.call { callee:=.invoke r m,args,argTypes:=ats })(hf:a.eval r=.iface t x)
  (hm:(method (P.types.size+Made.depth) t x m).run P w=.ok (g,rv) w) (he:zmc P g):(execOp a.eval o).run P w=.ok (.enter g (#[rv]++args.map a.eval)) w:=by
 have:execOp a.eval o=(do let d <-resolve a.eval { callee:=.invoke r m,args,argTypes:=ats } o.type;invoke d.target d.args):=by
  cases o;subst ho;rfl
 rw[this]
 have e1:(#[Value.iface t x]++args.map a.eval)[0]?=some (Value.iface t x):=by rw[Array.getElem?_append_left (by simp)];rfl
 have e2:(#[Value.iface t x]++args.map a.eval).extract 1 (#[Value.iface t x]++args.map a.eval).size=args.map a.eval:=by
  apply Array.ext'
  simp
  exact List.take_of_length_le (by simp)
 simp only[resolve,hf,Sem.run_bind,Sem.run_pure,Result.andThen_ok,invoke,e1,e2,callMethod]
 rw[show(Sem.run P program w)=.ok P w from rfl]
 simp only[Result.andThen_ok]
 rw[hm]
 simp only[Result.andThen_ok]
 rw[he]
theorem zMq{nm:String}{r:Operand}{m:String}{args:Array Operand}{ats:Array TypeId}(hr:zbM a rd)(ho:o.op=.call { callee:=.invoke r m,args,argTypes:=ats })(hw:zck ro st w)
  (h:zMU P cfg ro st rd nm o r m args.toList put):o.wp P a w (zDG (false=true) ro st o a put) Qx:=by
 unfold zMU at h
 split at h
 ·rename_i v l hf hl
  have ef:=hr.one hf
  have el:=zdX hr hl
  have ea:args.map a.eval=(l.map SV.toV).toArray:=by rw[<-el,<-Array.toList_map]
  simp only[cond_eq_ite] at h
  split at h
  ·refine zjR hw (fun K hK=>?_) h
   obtain⟨t,x,g,rv,hv,hm,hK⟩:=hK
   have hv:v.toV=.iface t x:=hv
   refine⟨g,_,zDp ho (by rw[ef];exact hv) hm hK.1,?_⟩
   rw[ea];exact hK.2
  ·exact h.elim
 ·exact h.elim
theorem zMr{nm:String}{rts:Option (List TypeId)}{m:MC Value}(hw:zck ro st w)
  (hrun:∀v w',(MC.sem m).run P w=.ok v w'->(match rts with|some _=>(execOp a.eval o).run P w=.ok (.value v) w'|none=>(execOp a.eval o).run P w=.ok .skip w'))
  (h:zz2 P ro st nm rts m put):o.wp P a w (zDG False ro st o a put) Qx:=by
 unfold zz2 at h
 simp only at h
 have h1:=zjL (P:=P) (Q:=Q) h hw.but (zmQ hw)
 obtain⟨v,w2,hm,hv⟩:=h1
 have hr:=hrun v w2 hm
 obtain⟨hk,hv⟩:=zoV hv
 have hk:=zBw hw hk
 cases rts with
 |some l =>
  obtain⟨l,hl,he,hv⟩:=zeO hv
  have he:v=(zbW l).toV:=he
  exact zvO hr ⟨_,_,hv,by rw[he],⟨zfY hw hk,fun h=>h.elim⟩,zdp hl,zfZ _⟩
 |none => exact zvJ hr ⟨_,_,hv,rfl,⟨zfY hw hk,fun h => h.elim⟩,trivial,zfZ _⟩
theorem zIB{nm:String}{rts:List TypeId}{m:MC Value}(hw:zck ro st w)
  (hrun:∀v w',(MC.sem m).run P w=.ok v w'->(execOp a.eval o).run P w=.ok (.value v) w')
  (h:zgT (A:=sem P Q) P ro st nm true rts (fun w kk=>Run P m w kk) put):o.wp P a w (zDG True ro st o a put) Qx:=by
 unfold zgT at h
 simp only at h
 have h1:=zjL (P:=P) (Q:=Q) h hw.but (by
  intro b hb
  simp only[cond_eq_ite] at hb
  split at hb
  ·cases hb
  ·exact zmQ hw b hb)
 obtain⟨v,w2,hm,hv⟩:=h1
 refine zvO (hrun v w2 hm) ?_
 simp only[cond_true] at hv
 obtain⟨hx,hv⟩:=hv
 have hx:Ext w w2:=hx
 simp only[cond_eq_ite] at hv
 split at hv
 ·obtain⟨l,hl,he,hv⟩:=zeO hv
  have he:v=(zbW l).toV:=he
  exact⟨_,_,hv,by rw[he],⟨zfY hw fun j b hb=>hx.block _ (zlK hw hb),fun _ x=>zoq hw hx⟩,zdp hl,zfZ _⟩
 ·obtain⟨l,hl,he,hv⟩:=zeO hv
  have he:v=(zbW l).toV:=he
  exact⟨_,_,hv,by rw[he],⟨zBY hw hx,fun _ x h=>h⟩,zdp hl,zgl⟩
theorem kd_mc{o:Oper}(h:zzt P cfg o=.soft)(h1:∀t x,o.op≠.box t x)(h2:∀t,o.op≠.alloc t)(h3:∀f a t,o.op≠.call ⟨.value f,a,t⟩):(znb o&&!zbZ o)=true:=by
 cases ho:o.op with
 |box t x => exact absurd ho (h1 t x)
 |alloc t => exact absurd ho (h2 t)
 |call c =>
  obtain⟨callee,args,ats⟩:=c
  cases callee with
  |value f => exact absurd ho (h3 f args ats)
  |invoke f m => simp[zzt,ho,znb] at h
  |builtin b => cases b<;>simp[zzt,ho,znb,zbZ] at h ⊢
 |_ => simp[zzt,ho,znb,zbZ] at h ⊢
theorem zy2(op:BinOp)(t:TypeId)(x y:Operand)(u v:Value):eqGuard op t x y u v=eqGuard op t (opd (zuz x)) (opd (zuz y)) u v:=by
 unfold eqGuard
 cases x<;>cases y<;>rfl
theorem zaR(hr:zbM a rd){x:Operand}{v:Value}(h:zpo (A:=sem P Q) rd x=some v):a.eval x=v:=by
 unfold zpo at h
 split at h
 ·rename_i u hu
  simp only[cond_eq_ite] at h
  split at h
  ·simp only[Option.some.injEq] at h
   rw[hr.one hu];exact h
  ·simp at h
 ·simp at h
theorem zrl(hr:zbM a rd){x:Option Operand}{v:Option Value}(h:zOi (A:=sem P Q) rd x=some v):x.map a.eval=v:=by
 cases x with
 |none => simp only[zOi,Option.some.injEq] at h;subst h;rfl
 |some x =>
  simp only[zOi,Option.map_eq_some_iff] at h
  obtain⟨u,hu,rfl⟩:=h
  simp[zaR hr hu]
def zDU(P:Program)(o:Oper)(a:Act)(m:MC Value):Prop:=∀w v w',(MC.sem m).run P w=.ok v w'->(if zbZ o then (execOp a.eval o).run P w=.ok .skip w' else (execOp a.eval o).run P w=.ok (.value v) w')
theorem zbS{m:MC Value}(hs:zbZ o=false)(h:execOp a.eval o=(do pure (.value (<-MC.sem m)))):zDU P o a m:=by
 intro w v w' hm
 rw[hs]
 simp only[Bool.false_eq_true,if_false]
 rw[h];simp[hm]
theorem zFL{m:MC Value}(hr:zbM a rd)(h:zq0 P rd o=some m):zDU P o a m:=by
 cases ho:o.op with
 |call c =>
  obtain⟨callee,args,ats⟩:=c
  cases callee with
  |value f => simp[zq0,ho] at h
  |invoke f m => simp[zq0,ho] at h
  |builtin b =>
   simp only[zq0,ho] at h
   split at h
   ·rename_i l hl
    have el:=zdX hr hl
    have ea:args.map a.eval=(l.map SV.toV).toArray:=by rw[<-el,<-Array.toList_map]
    have hx:execOp a.eval o=builtin b ats o.type (args.map fun|.const _=>true|_=>false) (args.map a.eval):=by
     cases o;subst ho;rfl
    simp only[cond_eq_ite] at h
    split at h
    ·simp at h
    ·cases b<;>simp only[Option.some.injEq,reduceCtorEq] at h<;>subst h <;>
      exact zbS (by simp[zbZ,ho]) (by rw[hx,ea];rfl)
   ·simp at h
 |makeSlice t l c =>
  simp only[zq0,ho,Option.bind_eq_some_iff,Option.map_eq_some_iff] at h
  obtain⟨x,hx,y,hy,rfl⟩:=h
  refine zbS (by simp[zbZ,ho]) ?_
  simp[execOp,ho,MC.sem,zaR hr hx,zaR hr hy]
 |buildSlice t n parts =>
  simp only[zq0,ho,Option.bind_eq_some_iff] at h
  obtain⟨l,hl,h⟩:=h
  simp only[cond_eq_ite] at h
  split at h
  ·simp only[Option.some.injEq] at h
   subst h
   have e:=zj9 hr hl
   refine zbS (by simp[zbZ,ho]) ?_
   have e2:(parts.map fun(i,x)=>(i,a.eval x))=(l.map fun x=>(x.1,x.2.toV)).toArray:=by rw[<-e,<-Array.toList_map]
   simp only[execOp,ho,MC.sem,e2]
  ·simp at h
 |lookup t m x ok =>
  simp only[zq0,ho,Option.bind_eq_some_iff,Option.map_eq_some_iff] at h
  obtain⟨u,hu,y,hy,rfl⟩:=h
  exact zbS (by simp[zbZ,ho]) (by simp[execOp,ho,MC.sem,zaR hr hu,zaR hr hy])
 |mapUpdate t m x y =>
  simp only[zq0,ho,Option.bind_eq_some_iff,Option.map_eq_some_iff] at h
  obtain⟨u,hu,z,hz,c,hc,rfl⟩:=h
  intro w v w' hm
  simp only[MC.sem,Sem.run_bind] at hm
  have:zbZ o=true:=by simp[zbZ,ho]
  rw[this]
  simp only[if_true,execOp,ho,zaR hr hu,zaR hr hz,zaR hr hc,Sem.run_bind]
  cases hq:(Instr.mapUpdate t u z c).run P w with
  |ok x w2 => rw[hq] at hm;simp at hm;simp[hm.2]
  |halt x w2 => rw[hq] at hm;simp at hm
 |insert t m x y =>
  simp only[zq0,ho,Option.bind_eq_some_iff,Option.map_eq_some_iff] at h
  obtain⟨u,hu,z,hz,c,hc,rfl⟩:=h
  intro w v w' hm
  simp only[MC.sem,Sem.run_bind] at hm
  have:zbZ o=true:=by simp[zbZ,ho]
  rw[this]
  simp only[if_true,execOp,ho,zaR hr hu,zaR hr hz,zaR hr hc,Sem.run_bind]
  cases hq:(Instr.mapUpdate t u z c).run P w with
  |ok x w2 => rw[hq] at hm;simp at hm;simp[hm.2]
  |halt x w2 => rw[hq] at hm;simp at hm
 |makeMap t r =>
  cases r with
  |none =>
   simp only[zq0,ho,Option.some.injEq] at h
   subst h
   exact zbS (by simp[zbZ,ho]) (by simp[execOp,ho,MC.sem])
  |some x => simp[zq0,ho] at h
 |range t x =>
  simp only[zq0,ho,Option.map_eq_some_iff] at h
  obtain⟨u,hu,rfl⟩:=h
  exact zbS (by simp[zbZ,ho]) (by simp[execOp,ho,MC.sem,zaR hr hu])
 |next x s =>
  simp only[zq0,ho,Option.map_eq_some_iff] at h
  obtain⟨u,hu,rfl⟩:=h
  exact zbS (by simp[zbZ,ho]) (by simp[execOp,ho,MC.sem,zaR hr hu])
 |entry x =>
  simp only[zq0,ho,Option.map_eq_some_iff] at h
  obtain⟨u,hu,rfl⟩:=h
  exact zbS (by simp[zbZ,ho]) (by simp[execOp,ho,MC.sem,zaR hr hu])
 |extract x i =>
  simp only[zq0,ho,Option.map_eq_some_iff] at h
  obtain⟨u,hu,rfl⟩:=h
  exact zbS (by simp[zbZ,ho]) (by simp[execOp,ho,MC.sem,zaR hr hu])
 |convert src dst x =>
  simp only[zq0,ho,Option.map_eq_some_iff] at h
  obtain⟨u,hu,rfl⟩:=h
  exact zbS (by simp[zbZ,ho]) (by simp[execOp,ho,MC.sem,zaR hr hu])
 |binOp op t x y ty =>
  simp only[zq0,ho,Option.bind_eq_some_iff,Option.map_eq_some_iff] at h
  obtain⟨u,hu,z,hz,rfl⟩:=h
  refine zbS (by simp[zbZ,ho]) ?_
  simp only[execOp,ho,MC.sem,zaR hr hu,zaR hr hz]
  rw[zy2]
 |makeInterface t x =>
  simp only[zq0,ho,Option.map_eq_some_iff] at h
  obtain⟨u,hu,rfl⟩:=h
  exact zbS (by simp[zbZ,ho]) (by simp[execOp,ho,MC.sem,zaR hr hu])
 |typeAssert x t u ok =>
  simp only[zq0,ho,Option.map_eq_some_iff] at h
  obtain⟨z,hu,rfl⟩:=h
  exact zbS (by simp[zbZ,ho]) (by simp[execOp,ho,MC.sem,zaR hr hu])
 |index t x i =>
  simp only[zq0,ho,Option.bind_eq_some_iff,Option.map_eq_some_iff] at h
  obtain⟨u,hu,z,hz,rfl⟩:=h
  exact zbS (by simp[zbZ,ho]) (by simp[execOp,ho,MC.sem,zaR hr hu,zaR hr hz])
 |slice t x lo hi mx =>
  simp only[zq0,ho,Option.bind_eq_some_iff,Option.map_eq_some_iff] at h
  obtain⟨u,hu,b,hb,c,hc,d,hd,rfl⟩:=h
  exact zbS (by simp[zbZ,ho]) (by simp only[execOp,ho,MC.sem,zaR hr hu,zrl hr hb,zrl hr hc,zrl hr hd])
 |_ => simp[zq0,ho] at h
theorem eff_op(hr:zbM a rd)(hs:∀x v,rd x=some v->zl9 ro st v)(h:zsg P cfg ro st rd o put) :
  (∃v,(∀w,zck ro st w->zbs P o a w v.toV)/\zl9 ro st v/\put v st)\/(zgc o=false/\∀w,zck ro st w->o.wp P a w (zDG (zzt P cfg o=.soft) ro st o a put) Qx):=by
 have hmc:zFK P ro st rd (zK0 cfg o.dst) o put->∀w,zck ro st w->o.wp P a w (zDG ((znb o&&!zbZ o)=true) ro st o a put) Qx:=by
  intro h w hw
  unfold zFK at h
  split at h
  ·rename_i m hm
   simp only[cond_eq_ite] at h
   split at h
   ·rename_i hsoft
    refine Oper.wp_mono (fun _ _=>zef (fun _=>trivial)) (zIB hw (fun v w' hv=>?_) h)
    have:=zFL hr hm w v w' hv
    have hk:zbZ o=false:=by simp at hsoft;exact hsoft.2
    rw[hk] at this
    simpa using this
   ·rename_i hsoft
    refine Oper.wp_mono (fun _ _=>zef (fun h=>hsoft h)) (zMr hw (fun v w' hv=>?_) h)
    have:=zFL hr hm w v w' hv
    cases hk:zbZ o<;>rw[hk] at this<;>simpa using this
  ·exact h.elim
 cases ho:o.op with
 |box t x =>
  simp only[zsg,ho] at h
  split at h
  ·rename_i v hv
   exact .inr ⟨by simp[zgc,ho],fun w hw=>zEW hw (zNy ho (hr.one hv)) (fun _ h1=>zu8 h1) h⟩
  ·exact h.elim
 |alloc t =>
  simp only[zsg,ho] at h
  split at h
  ·rename_i v hv
   exact .inr ⟨by simp[zgc,ho],fun w hw=>zEW hw (zGB ho hv) (fun _ h1=>zu8 h1) h⟩
  ·exact h.elim
 |load t x =>
  simp only[zsg,ho] at h
  split at h
  ·rename_i p hp
   exact .inl (zIA hr ho hp h)
  ·exact h.elim
 |store t x y =>
  simp only[zsg,ho] at h
  split at h
  ·rename_i sx v hx hy
   exact .inr ⟨by simp[zgc,ho],fun w hw=>Oper.wp_mono (fun _ _=>zef (fun h=>by simp[zzt,ho,znb] at h)) (zEX hr hs ho hx hy hw h)⟩
  ·exact h.elim
 |call c =>
  obtain⟨callee,args,ats⟩:=c
  cases callee with
  |value f =>
   simp only[zsg,ho] at h
   exact .inr ⟨by simp[zgc,ho],fun w hw=>Oper.wp_mono (fun _ _=>zef (fun h=>zNH (by simpa[zzt,ho] using h))) (zIz hr ho hw h)⟩
  |invoke f m =>
   simp only[zsg,ho] at h
   exact .inr ⟨by simp[zgc,ho],fun w hw=>Oper.wp_mono (fun _ _=>zef (fun h=>by simp[zzt,ho,znb] at h)) (zMq hr ho hw h)⟩
  |builtin b => exact .inr ⟨by simp[zgc,ho],fun w hw => Oper.wp_mono (fun _ _ => zef (fun h => kd_mc h (by intro _ _ he;rw[ho] at he;cases he) (by intro _ he;rw[ho] at he;cases he) (by intro _ _ _ he;rw[ho] at he;cases he))) (hmc (by simpa only[zsg,ho] using h) w hw)⟩
 |_ => exact .inr ⟨by simp[zgc,ho],fun w hw => Oper.wp_mono (fun _ _ => zef (fun h => kd_mc h (by intro _ _ he;rw[ho] at he;cases he) (by intro _ he;rw[ho] at he;cases he) (by intro _ _ _ he;rw[ho] at he;cases he))) (hmc (by simpa only[zsg,ho] using h) w hw)⟩
end
variable {P:Program} {ops:Array Oper}
def NoEx:Exit->Act->World->Prop:=fun _ _ _=>False
def zkN(P:Program)(ops:Array Oper)(kd:Oper->Kd)(K:Act->World->Prop):DT->(World->Prop)->Act->Prop
 |.stop,C,a => ∀w,C w->K a w
 |.alt s t,C,a => zkN P ops kd K s C a/\zkN P ops kd K t C a
 |.op i l,C,a =>
  match ops[i]? with
  |none => zkN P ops kd K l C a
  |some o =>
   if Region.wanted o (yielded ops a.tmps) then
    (∃v,(∀w,(kd o=.pure\/C w)->zbs P o a w v)/\zkN P ops kd K l C (a.put o.dst v)) \/
    ((kd o).quiet=false/\∀w,C w->o.wp P a w (fun a' w'=>∃v,a'=a.put o.dst v/\∃C':World->Prop,C' w'/\(kd o=.soft->∀x,C' x->C x)/\zkN P ops kd K l C' a') NoEx)
   else zkN P ops kd K l C (a.put o.dst undef)
theorem putD(a:Act)(d:Option Tmp)(v:Value):(a.put d v).defers=a.defers:=by cases d<;>rfl
theorem zC9:¬LetsOut NoEx:=fun⟨_,_,h⟩=>h
theorem zHh{o:Oper}{a:Act}{w:World}{K:Act->World->Prop}{Qx:Exit->Act->World->Prop}(h:o.wp P a w K NoEx):o.wp P a w K Qx:=by
 unfold Oper.wp at *
 generalize (execOp a.eval o).run P w=r at *
 cases r with
 |ok n w' =>
  cases n<;>simp only[Oper.upon] at h ⊢ <;>
   first
    |exact h
    |exact Calls.mono h (fun e w'' he => by cases e<;>first|exact he|exact absurd he zC9|exact he.elim)
    |exact Rows.mono h (fun _ _ he => he)
 |halt x w' => cases x<;>simp only[Oper.upon] at h ⊢<;>exact h.elim
theorem zwt{o:Oper}{a:Act}{w:World}{v u:Value}{d:Option Tmp}(hs:∀cs b,o.op≠.select cs b)(hd:∀t,d=some t->t∉o.looksAt ops):zbs P o (a.put d u) w v↔zbs P o a w v:=by
 unfold zbs
 rw[execOp_put o hs a d u hd]
def zit(P:Program)(ops:Array Oper)(kd:Oper->Kd)(C:World->Prop)(o:Oper)(v:Value)(a:Act):Prop :=
 (Region.wanted o (yielded ops a.tmps)=true/\∀w,(kd o=.pure\/C w)->zbs P o a w v)\/(Region.wanted o (yielded ops a.tmps)=false/\v=undef)
theorem zit.can{kd:Oper->Kd}{K:Act->World->Prop}{C:World->Prop}{o:Oper}{v:Value}{a:Act}{i:Nat}{l:DT}(hi:ops[i]?=some o)(h:zit P ops kd C o v a)(hc:zkN P ops kd K l C (a.put o.dst v)):zkN P ops kd K (.op i l) C a:=by
 simp only[zkN,hi]
 rcases h with⟨hw,hg⟩|⟨hw,rfl⟩
 ·rw[if_pos hw];exact .inl ⟨v,hg,hc⟩
 ·rw[if_neg (by rw[hw];simp)];exact hc
theorem zit.put{kd:Oper->Kd}{C C':World->Prop}{o:Oper}{v u:Value}{a:Act}{d:Option Tmp}(hs:∀cs b,o.op≠.select cs b)(hd:∀t,d=some t->t∉o.looksAt ops)(hC:kd o=.pure\/∀x,C' x->C x)(h:zit P ops kd C o v a) :
  zit P ops kd C' o v (a.put d u):=by
 rcases h with⟨hw,hg⟩|⟨hw,rfl⟩
 ·refine .inl ⟨by rw[wanted_put o a d u hd];exact hw,fun w hw'=>(zwt hs hd).2 (hg w ?_)⟩
  rcases hw' with h|h
  ·exact .inl h
  ·exact hC.imp id (fun f=>f w h)
 ·exact .inr ⟨by rw[wanted_put o a d u hd];exact hw,rfl⟩
theorem zkN.quiet{kd:Oper->Kd}{K:Act->World->Prop}{C:World->Prop}{o:Oper}{a:Act}{i:Nat}{l:DT}(hi:ops[i]?=some o)(hq:(kd o).quiet=true)(h:zkN P ops kd K (.op i l) C a):∃v,zit P ops kd C o v a/\zkN P ops kd K l C (a.put o.dst v):=by
 simp only[zkN,hi] at h
 split at h
 ·rename_i hw
  rcases h with⟨v,hg,hc⟩|⟨hn,_⟩
  ·exact⟨v,.inl ⟨hw,hg⟩,hc⟩
  ·rw[hq] at hn;cases hn
 ·rename_i hw
  exact⟨undef,.inr ⟨by simpa using hw,rfl⟩,h⟩
theorem zIl{kd:Oper->Kd}{K:Act->World->Prop}{i j:Nat}{oi oj:Oper}{l:DT}{C:World->Prop}{a:Act}(hi:ops[i]?=some oi)(hj:ops[j]?=some oj)(hap:oi.apart ops oj=true)
  (hsi:∀cs b,oi.op≠.select cs b) (hsj:∀cs b,oj.op≠.select cs b) (hq:(kd oj).quiet=true) (hok:kd oj=.pure\/kd oi=.soft\/(kd oi).quiet=true)
  (h:zkN P ops kd K (.op j (.op i l)) C a):zkN P ops kd K (.op i (.op j l)) C a:=by
 obtain⟨h1,h2,h3⟩:=Oper.apart_spec hap
 have h2':∀d,oj.dst=some d->oi.dst≠some d:=fun d hd he=>h2 d he hd
 obtain⟨vj,qj,hc⟩:=h.quiet hj hq
 simp only[zkN,hi] at hc ⊢
 rw[wanted_put oi a oj.dst vj h3] at hc
 split at hc
 ·rename_i hwi
  rw[if_pos hwi]
  rcases hc with⟨vi,hg,hc⟩|⟨hn,hc⟩
  ·refine .inl ⟨vi,fun w hw=>(zwt hsi h3).1 (hg w hw),?_⟩
   refine zit.can hj (qj.put hsj h1 (.inr fun _ h=>h)) ?_
   rw[Act.put_comm a vi vj h2];exact hc
  ·refine .inr ⟨hn,fun w hw=>?_⟩
   have hcw:=hc w hw
   have hsub:∀C':World->Prop,(kd oi=.soft->∀x,C' x->C x)->kd oj=.pure\/∀x,C' x->C x:=by
    intro C' hs
    rcases hok with h|h|h
    ·exact .inl h
    ·exact .inr (hs h)
    ·rw[h] at hn;cases hn
   have key:∀u w',(∃v,(a.put oj.dst vj).put oi.dst u=(a.put oj.dst vj).put oi.dst v/\∃C':World->Prop,C' w'/\(kd oi=.soft->∀x,C' x->C x)/\zkN P ops kd K l C' ((a.put oj.dst vj).put oi.dst u)) ->
     ∃v,a.put oi.dst u=a.put oi.dst v/\∃C':World->Prop,C' w'/\(kd oi=.soft->∀x,C' x->C x)/\zkN P ops kd K (.op j l) C' (a.put oi.dst u):=by
    rintro u w' ⟨v,_,C',hC',hs,hcan⟩
    refine⟨u,rfl,C',hC',hs,zit.can hj (qj.put hsj h1 (hsub C' hs)) ?_⟩
    rw[Act.put_comm a u vj h2];exact hcan
   unfold Oper.wp at *
   rw[execOp_put oi hsi a oj.dst vj h3] at hcw
   generalize (execOp a.eval oi).run P w=r at *
   cases r with
   |ok n w' =>
    cases n<;>simp only[Oper.upon] at hcw ⊢
    case value u=>exact key u w' hcw
    case skip=>exact key undef w' hcw
    case defer d =>
     obtain⟨v,he,_⟩:=hcw
     have:=congrArg (fun x:Act=>x.defers.length) he
     simp[putD] at this
    case enter f args =>
     refine Calls.mono hcw fun e w'' he=>?_
     cases e with
     |returned u => exact key u w'' he
     |panicked c => exact he.elim
     |outgrown => exact he
    case row row args=>exact Rows.mono hcw fun u w'' he=>key u w'' he
   |halt x w' => cases x<;>simp only[Oper.upon] at hcw ⊢<;>exact hcw.elim
 ·rename_i hwi
  rw[if_neg hwi]
  refine zit.can hj (qj.put hsj h1 (.inr fun _ h=>h)) ?_
  rw[Act.put_comm a undef vj h2];exact hc
structure Lst(md:Region.Mode)(ops:Array Oper)(l:List Nat)(listed:Array Bool):Prop where
 size:listed.size=ops.size
 un:∀k,k<ops.size->(listed.getD k true=false↔k∈l)
 lt:∀k∈l,k<ops.size
 down:∀(k:Nat) o,ops[k]?=some o->k∉l->∀e∈o.after,Region.binds md e=true->e.on∉l
theorem zzi{listed:Array Bool}{k:Nat}(h:k<listed.size):listed.getD k true=listed.getD k false:=by
 simp[Array.getD,h]
def Down(md:Region.Mode)(ops:Array Oper)(l:List Nat):Prop:=∀(k:Nat) o,ops[k]?=some o->k∉l->∀e∈o.after,Region.binds md e=true->e.on∉l
def zHU(md:Region.Mode)(ops:Array Oper)(l:List Nat)(i:Nat):Prop:=∀o,ops[i]?=some o->∀e∈o.after,Region.binds md e=true->e.on∉l
theorem zET{md:Region.Mode}{l:List Nat}(h:Down md ops l):∀(n i j:Nat),zHU md ops l i->dep md ops n i j=true->j∉l
 |0,i,j,_,hd => by cases hd
 |n+1,i,j,hi,hd => by
  unfold dep at hd
  split at hd
  ·rename_i o ho
   simp only[List.any_eq_true,Bool.and_eq_true,Bool.or_eq_true] at hd
   obtain⟨e,he,hb,hd⟩:=hd
   have hoff:=hi o ho e (by simpa using he) hb
   rcases hd with hd|hd
   ·have:=Nat.eq_of_beq_eq_true hd
    subst this
    exact hoff
   ·exact zET h n e.on j (fun o' ho' e' he' hb'=>h e.on o' ho' hoff e' he' hb') hd
  ·cases hd
theorem zgU(i:Nat):∀l:List Nat,zgv i l=l.erase i
 |[] => rfl
 |j::r => by
  unfold zgv
  by_cases h:i=j
  ·subst h;simp[Nat.beq_refl]
  ·have h1:Nat.beq i j=false:=by
    cases hb:Nat.beq i j
    ·rfl
    ·exact absurd (Nat.eq_of_beq_eq_true hb) h
   rw[h1,zgU i r]
   simp[List.erase_cons,Ne.symm h]
theorem zdE{l:List Nat}(hd:l.Nodup){i k:Nat}:k∈zgv i l↔k≠i/\k∈l:=by
 rw[zgU];exact hd.mem_erase_iff
theorem zlJ{l:List Nat}(hd:l.Nodup)(i:Nat):(zgv i l).Nodup:=by
 rw[zgU];exact hd.erase i
theorem zCT{l:List Nat}(i j:Nat):zgv i (zgv j l)=zgv j (zgv i l):=by
 rw[zgU,zgU,zgU,zgU];exact List.erase_comm ..
theorem zm3{md:Region.Mode}{l:List Nat}{j:Nat}(h:zNo md ops l j=true):∃o,ops[j]?=some o/\j∈l/\zHU md ops l j:=by
 unfold zNo at h
 split at h
 ·rename_i o ho
  simp only[Bool.and_eq_true,Bool.not_eq_true'] at h
  refine⟨o,ho,(zc0 _ _).1 h.1,fun o' ho' e he hb hm=>?_⟩
  rw[ho] at ho'
  obtain rfl:=Option.some.inj ho'
  have:=h.2
  unfold zyT at this
  rw[List.any_eq_false] at this
  refine this e (by simpa using he) ?_
  simp only[Bool.and_eq_true]
  exact⟨hb,(zc0 _ _).2 hm⟩
 ·cases h
theorem zwe{md:Region.Mode}{l:List Nat}(hd:l.Nodup)(h:Down md ops l){j:Nat}(hj:zHU md ops l j):Down md ops (zgv j l):=by
 intro k o ho hk e he hb hm
 rw[zdE hd] at hk hm
 by_cases hkj:k=j
 ·subst hkj;exact hj o ho e he hb hm.2
 ·exact h k o ho (fun hkl=>hk ⟨hkj,hkl⟩) e he hb hm.2
theorem zF9{md:Region.Mode}{l:List Nat}(hd:l.Nodup){i j:Nat}(h:zHU md ops l i):zHU md ops (zgv j l) i:=fun o ho e he hb hm=>h o ho e he hb ((zdE hd).1 hm).2
theorem all_sub{p:Nat->Bool}{l l':List Nat}(h:l.all p=true)(hs:∀x∈l',x∈l):l'.all p=true:=by
 simp only[List.all_eq_true] at h ⊢
 exact fun x hx=>h x (hs x hx)
theorem zEz{md:Region.Mode}{l l':List Nat}{o:Oper}(h:zyT md l o=false)(hs:∀x∈l',x∈l):zyT md l' o=false:=by
 unfold zyT at h ⊢
 rw[List.any_eq_false] at h ⊢
 intro e he hb
 simp only[Bool.and_eq_true] at hb
 exact h e he (by simp only[Bool.and_eq_true];exact⟨hb.1,(zc0 _ _).2 (hs _ ((zc0 _ _).1 hb.2))⟩)
theorem znU{md:Region.Mode}{kd:Oper->Kd}{n i:Nat}{K:Act->World->Prop}:∀(S:DT)(rem:List Nat),i∈S.heads->okD md ops kd n true S rem=true->∃T',okD md ops kd n false T' (zgv i rem)=true/\∀C a,zkN P ops kd K S C a->zkN P ops kd K (.op i T') C a
 |.stop,rem,h,_ => by cases h
 |.op j t,rem,h,hok => by
  simp only[DT.heads,List.mem_singleton] at h
  subst h
  simp only[okD,Bool.and_eq_true] at hok
  exact⟨t,hok.2,fun C a h=>h⟩
 |.alt s t,rem,h,hok => by
  simp only[DT.heads,List.mem_append] at h
  simp only[okD,Bool.and_eq_true] at hok
  rcases h with h|h
  ·obtain⟨T',h1,h2⟩:=znU s rem h hok.1.1
   exact⟨T',h1,fun C a h=>h2 C a h.1⟩
  ·obtain⟨T',h1,h2⟩:=znU t rem h hok.1.2
   exact⟨T',h1,fun C a h=>h2 C a h.2⟩
theorem zAX{md:Region.Mode}{kd:Oper->Kd}{n i:Nat}{oi:Oper}{K:Act->World->Prop}(hi:ops[i]?=some oi)(hsel:∀(j:Nat) (o:Oper) cs b,ops[j]?=some o->o.op≠.select cs b) :
  ∀(T:DT)(rem:List Nat),rem.Nodup->Down md ops rem->i∈rem->zHU md ops rem i->okD md ops kd n false T rem=true->∃T',okD md ops kd n false T' (zgv i rem)=true/\∀C a,zkN P ops kd K T C a->zkN P ops kd K (.op i T') C a
 |.stop,rem,_,_,him,_,hok => by
  simp only[okD,Bool.not_false,Bool.true_and,List.isEmpty_iff] at hok
  subst hok;cases him
 |.alt s t,rem,hd,hD,him,hop,hok => by
  have hok0:=hok
  simp only[okD,Bool.and_eq_true,Bool.false_or,List.all_eq_true,Bool.or_eq_true] at hok
  have hh:i∈s.heads++t.heads:=by
   rcases hok.2 i him with h|h
   ·exact(zc0 _ _).1 h
   ·unfold bnd at h
    rw[hi] at h
    simp only at h
    unfold zyT at h
    simp only[List.any_eq_true,Bool.and_eq_true] at h
    obtain⟨e,he,hb,hm⟩:=h
    exact absurd ((zc0 _ _).1 hm) (hop oi hi e (by simpa using he) hb)
  refine znU (.alt s t) rem hh ?_
  simp only[okD,Bool.and_eq_true,Bool.true_or]
  exact⟨hok.1,trivial⟩
 |.op j t,rem,hd,hD,him,hop,hok => by
  simp only[okD,Bool.and_eq_true,Bool.false_or,List.all_eq_true] at hok
  obtain⟨⟨h1,h2⟩,h3⟩:=hok
  obtain⟨oj,hj,hjm,hjo⟩:=zm3 h1
  by_cases hij:i=j
  ·subst hij;exact⟨t,h3,fun C a h=>h⟩
  ·have him':i∈zgv j rem:=(zdE hd).2 ⟨hij,him⟩
   obtain⟨T',g1,g2⟩:=zAX (K:=K) hi hsel t (zgv j rem) (zlJ hd j) (zwe hd hD hjo) him' (zF9 hd hop) h3
   have hp:=h2 i him'
   unfold zGe at hp
   rw[hj,hi] at hp
   simp only[Bool.and_eq_true,Bool.or_eq_true,decide_eq_true_eq] at hp
   have hnd:¬dep md ops n i j=true:=fun h=>zET hD n i j hop h hjm
   have hp2:oi.apart ops oj=true/\(kd oj).quiet=true/\(kd oj=.pure\/kd oi=.soft\/(kd oi).quiet=true):=by
    rcases hp.2 with h|h
    ·exact⟨h.1.1,h.1.2,by rcases h.2 with (h|h)|h<;>simp[h]⟩
    ·exact absurd h hnd
   refine⟨.op j T',?_,fun C a h=>?_⟩
   ·simp only[okD,Bool.and_eq_true,Bool.false_or]
    refine⟨⟨?_,?_⟩,?_⟩
    ·unfold zNo
     rw[hj]
     simp only[Bool.and_eq_true,Bool.not_eq_true']
     refine⟨(zc0 _ _).2 ((zdE hd).2 ⟨Ne.symm hij,hjm⟩),?_⟩
     unfold zNo at h1
     rw[hj] at h1
     simp only[Bool.and_eq_true,Bool.not_eq_true'] at h1
     exact zEz h1.2 fun x hx=>((zdE hd).1 hx).2
    ·simp only[List.all_eq_true]
     intro x hx
     rw[zdE (zlJ hd i),zdE hd] at hx
     exact h2 x ((zdE hd).2 ⟨hx.1,hx.2.2⟩)
    ·rw[zCT];exact g1
   ·obtain⟨vj,qj,hc⟩:=zkN.quiet hj hp2.2.1 h
    exact zIl hi hj hp2.1 (fun cs b=>hsel i oi cs b hi) (fun cs b=>hsel j oj cs b hj) hp2.2.1 hp2.2.2 (qj.can hj (g2 _ _ hc))
theorem zDb{md:Region.Mode}{l:List Nat}{listed:Array Bool}(hL:Lst md ops l listed){j:Nat}{o:Oper}(ho:ops[j]?=some o)(hin:∀e∈o.after,e.on<ops.size)(hm:j∈l)(hop:zHU md ops l j):j∈Region.ready md ops listed:=by
 refine mem_ready.2 ⟨(hL.un j (Array.getElem?_eq_some_iff.1 ho).1).2 hm,o,ho,fun e he hb=>?_⟩
 have hlt:=hin e he
 have hnot:=hop o ho e he hb
 rw[<-zzi (by rw[hL.size];exact hlt)]
 cases hg:listed.getD e.on true
 ·exact absurd ((hL.un _ hlt).1 hg) hnot
 ·rfl
theorem zNb{md:Region.Mode}{l:List Nat}{i:Nat}{listed:Array Bool}(hd:l.Nodup)(h:Lst md ops l listed)(hi:i∈l)(hop:zHU md ops l i):Lst md ops (zgv i l) (listed.setIfInBounds i true):=by
 have hil:=h.lt i hi
 refine⟨by simp[h.size],fun k hk=>?_,fun k hk=>h.lt k ((zdE hd).1 hk).2,zwe hd h.down hop⟩
 rw[zdE hd]
 by_cases hki:k=i
 ·subst hki
  constructor
  ·intro hf
   rw[zzi (by simpa[h.size] using hil)] at hf
   rw[show(listed.setIfInBounds k true).getD k false=true by simp[Array.getD,h.size,hil]] at hf
   cases hf
  ·intro hm;exact absurd rfl hm.1
 ·rw[getD_set_ne true (Ne.symm hki),h.un k hk]
  simp[hki]
theorem zqn{md:Region.Mode}{kd:Oper->Kd}{n:Nat}{Qx:Exit->Act->World->Prop}(hsel:∀(j:Nat) (o:Oper) cs b,ops[j]?=some o->o.op≠.select cs b)(hin:∀(j:Nat)(o:Oper),ops[j]?=some o->∀e∈o.after,e.on<ops.size) :
  ∀(fuel:Nat)(T:DT)(l:List Nat)(listed:Array Bool)(C:World->Prop)(a:Act)(w:World),l.length=fuel->l.Nodup->okD md ops kd n false T l=true->Lst md ops l listed->zkN P ops kd (Qx .normal) T C a->C w->wpAny P md ops Qx fuel listed a w
 |0,T,l,listed,C,a,w,hl,hnd,hok,hL,hc,hw => by
  obtain rfl:=List.length_eq_zero_iff.1 hl
  have hready:Region.ready md ops listed=[]:=by
   rw[List.eq_nil_iff_forall_not_mem]
   intro j hj
   obtain⟨h1,o,ho,_⟩:=mem_ready.1 hj
   have:=(hL.un j (Array.getElem?_eq_some_iff.1 ho).1).1 h1
   cases this
  refine⟨hready,?_⟩
  cases T with
  |stop => exact hc w hw
  |op j t =>
   simp only[okD,Bool.and_eq_true] at hok
   obtain⟨_,_,hm,_⟩:=zm3 hok.1.1
   cases hm
  |alt s t =>
   exfalso
   simp only[okD,Bool.and_eq_true] at hok
   have key:∀S:DT,okD md ops kd n true S []=true->False:=by
    intro S
    induction S with
    |stop => intro h;simp[okD] at h
    |op j t _ =>
     intro h
     simp only[okD,Bool.and_eq_true] at h
     obtain⟨_,_,hm,_⟩:=zm3 h.1.1
     cases hm
    |alt s t ihs _ =>
     intro h
     simp only[okD,Bool.and_eq_true] at h
     exact ihs h.1.1
   exact key s hok.1.1
 |fuel+1,T,l,listed,C,a,w,hl,hnd,hok,hL,hc,hw => by
  constructor
  ·intro hr
   exfalso
   have some_:∃j,j∈Region.ready md ops listed:=by
    have key:∀(S:DT)(f:Bool),okD md ops kd n f S l=true->∃j,j∈Region.ready md ops listed:=by
     intro S
     induction S with
     |stop =>
      intro f h
      simp only[okD,Bool.and_eq_true,List.isEmpty_iff] at h
      rw[h.2] at hl;simp at hl
     |op j t _ =>
      intro f h
      simp only[okD,Bool.and_eq_true] at h
      obtain⟨o,ho,hm,hop⟩:=zm3 h.1.1
      exact⟨j,zDb hL ho (hin j o ho) hm hop⟩
     |alt s t ihs _ =>
      intro f h
      simp only[okD,Bool.and_eq_true] at h
      exact ihs true h.1.1
    exact key T false hok
   obtain⟨j,hj⟩:=some_
   rw[hr] at hj
   cases hj
  ·intro i hi
   obtain⟨h1,o,ho,hafter⟩:=mem_ready.1 hi
   have him:=(hL.un i (Array.getElem?_eq_some_iff.1 ho).1).1 h1
   have hop:zHU md ops l i:=by
    intro o' ho' e he hb hm
    rw[ho] at ho'
    obtain rfl:=Option.some.inj ho'
    have h2:=hafter e he hb
    have hlt:=hL.lt _ hm
    have:=(hL.un _ hlt).2 hm
    rw[zzi (by rw[hL.size];exact hlt),h2] at this
    cases this
   obtain⟨T',g1,g2⟩:=zAX (P:=P) (K:=Qx .normal) ho hsel T l hnd hL.down him hop hok
   have hpull:=g2 C a hc
   have hL':=zNb hnd hL him hop
   have hlen:(zgv i l).length=fuel:=by rw[zgU,List.length_erase_of_mem him];omega
   have hnd':=zlJ hnd i
   unfold wpOp
   simp only[ho]
   simp only[zkN,ho] at hpull
   split at hpull
   ·rename_i hwant
    rw[if_pos hwant]
    refine .inl ?_
    rcases hpull with⟨v,hg,hcan⟩|⟨_,hcan⟩
    ·have hgv:=hg w (.inr hw)
     unfold zbs at hgv
     unfold Oper.wp
     rw[hgv]
     exact zqn hsel hin fuel _ _ _ C _ w hlen hnd' g1 hL' hcan hw
    ·refine Oper.wp_mono (fun a' w' hk=>?_) (zHh (hcan w hw))
     obtain⟨v,_,C',hC',_,hcan'⟩:=hk
     exact zqn hsel hin fuel _ _ _ C' _ w' hlen hnd' g1 hL' hcan' hC'
   ·rename_i hwant
    rw[if_neg hwant]
    exact zqn hsel hin fuel _ _ _ C _ w hlen hnd' g1 hL' hpull hw
variable {P:Program} {Q:Value->World->Prop}
section
variable {cfg:Cfg} {ops:Array Oper} {ro:Ro (sem P Q)} {st:St (sem P Q)} {a:Act}
theorem zJB(d:Option Tmp)(v:Value):(a.put d v).tmps.size=a.tmps.size:=by
 cases d<;>simp[Act.put]
theorem zDk(d:Option Tmp)(v:Value):(a.put d v).defers=a.defers:=by
 cases d<;>rfl
theorem zpX(d:Tmp)(v:Value)(i:Nat)(hd:d<a.tmps.size):(a.put (some d) v).tmps.getD i undef=if i=d then v else a.tmps.getD i undef:=by
 simp only[Act.put,Array.getD_eq_getD_getElem?,Array.getElem?_setIfInBounds]
 by_cases h:d=i
 ·subst h;simp[hd]
 ·simp[h,Ne.symm h]
theorem zFf(st:St (sem P Q))(d:Tmp)(e:Option (Ent (sem P Q)))(i:Nat):ro.get (st.put (some d) e) i=if d=i then e else ro.get st i:=by
 unfold Ro.get St.put
 simp only[zhU]
 by_cases h:d=i
 ·simp[h]
 ·simp only[h,if_false]
theorem zB6{d:Tmp}{v:Value}{k:Nat×Bool}(hd:d<a.tmps.size)(hne:zjw ops k.1≠some d):zjC ops (a.put (some d) v) k↔zjC ops a k:=by
 unfold zjC
 rw[zeU,zeU]
 constructor
 ·rintro⟨e,h1,h2⟩
  refine⟨e,h1,?_⟩
  rw[zpX d v e hd,if_neg (by rintro rfl;exact hne h1)] at h2
  exact h2
 ·rintro⟨e,h1,h2⟩
  refine⟨e,h1,?_⟩
  rw[zpX d v e hd,if_neg (by rintro rfl;exact hne h1)]
  exact h2
theorem zCY{d:Tmp}(h:zzb ops st (some d)=true){i:Nat}{v:SL (sem P Q)}{k:Nat×Bool}(hg:ro.get st i=some (v,some k)):zjw ops k.1≠some d:=by
 unfold Ro.get at hg
 split at hg
 ·rename_i e he
  subst hg
  have hm:=zeP he
  unfold zzb at h
  simp only[List.all_eq_true] at h
  have:=h _ hm
  obtain⟨j,wnt⟩:=k
  simp only at this
  intro hd
  simp only[hd] at this
  simp at this
 ·cases hl:zdZ ro.sl i<;>rw[hl] at hg<;>simp at hg
theorem zkH{st':St (sem P Q)}{dst:Option Tmp}{v:SL (sem P Q)}{key:Option (Nat×Bool)}{u:Value}(hf:zvP cfg ops ro st a)(hov:st'.ov=st.ov)(hd:zDg cfg ops st dst=true)
  (hk:∀d,dst=some d->∀k,key=some k->zjw ops k.1≠some d)
  (hv:match key with|none=>u=v.toV|some k=>(zjC ops a k->u=v.toV)/\(¬zjC ops a k->u=undef)):zvP cfg ops ro (st'.put dst (some (v,key))) (a.put dst u):=by
 have hget:∀i,ro.get st' i=ro.get st i:=fun i=>by unfold Ro.get;rw[hov]
 simp only[zDg,Bool.and_eq_true] at hd
 refine⟨by rw[zJB];exact hf.size,by rw[zDk];exact hf.defers,fun i e he=>?_⟩
 cases dst with
 |none =>
  have he:ro.get st i=some e:=by rw[<-hget];exact he
  exact hf.fr i e he
 |some d =>
  have hdl:d<a.tmps.size:=by rw[hf.size];have:=hd.2;simpa[Nat.blt_eq] using this
  rw[zFf] at he
  split at he
  ·rename_i hdi
   subst hdi
   obtain rfl:=Option.some.inj he
   have hval:(a.put (some d) u).tmps.getD d undef=u:=by rw[zpX d u d hdl,if_pos rfl]
   cases key with
   |none => show _=_;rw[hval];exact hv
   |some k =>
    have hs:=zB6 (v:=u) hdl (hk d rfl k rfl)
    exact⟨fun h=>hval.trans (hv.1 (hs.1 h)),fun h=>hval.trans (hv.2 fun h'=>h (hs.2 h'))⟩
  ·rename_i hdi
   rw[hget] at he
   have hold:=hf.fr i e he
   obtain⟨v',key'⟩:=e
   have hval:(a.put (some d) u).tmps.getD i undef=a.tmps.getD i undef:=by rw[zpX d u i hdl,if_neg (Ne.symm hdi)]
   cases key' with
   |none => show _=_;rw[hval];exact hold
   |some k =>
    have hs:=zB6 (v:=u) hdl (zCY hd.1 he)
    exact⟨fun h=>hval.trans (hold.1 (hs.1 h)),fun h=>hval.trans (hold.2 fun h'=>h (hs.2 h'))⟩
theorem zh5{st':St (sem P Q)}{dst:Option Tmp}{v:SL (sem P Q)}{key:Option (Nat×Bool)}(hs:zeL ro st)(hsame:Same ro st st')(hv:zl9 ro st' v):zeL ro (st'.put dst (some (v,key))):=by
 have hget:∀i,ro.get st' i=ro.get st i:=fun i=>by unfold Ro.get;rw[hsame.ov]
 have hblk:∀u,zl9 ro st' u->zl9 ro (st'.put dst (some (v,key))) u:=by
  intro u hu
  cases dst with
  |none => exact hu
  |some d => cases u with
   |one x => cases x with
    |agg l => exact hu
    |sc y => cases y<;>first|exact hu|trivial
   |tup l => exact hu
   |undef => trivial
 intro i e he
 cases dst with
 |none =>
  have he:ro.get st i=some e:=by rw[<-hget];exact he
  exact hsame.slOk _ (hs i e he)
 |some d =>
  rw[zFf] at he
  split at he
  ·obtain rfl:=Option.some.inj he
   exact hblk _ hv
  ·rw[hget] at he
   exact hblk _ (hsame.slOk _ (hs i e he))
theorem zel{w:World}{st':St (sem P Q)}{dst:Option Tmp}{e:Option (Ent (sem P Q))}(hw:zck ro st' w):zck ro (st'.put dst e) w:=by
 cases dst with
 |none => exact hw
 |some d => exact⟨hw.but,hw.bk,hw.lt,hw.ord,hw.ax,hw.nol,hw.same⟩
theorem zka{w:World}{st':St (sem P Q)}{dst:Option Tmp}{e:Option (Ent (sem P Q))}(hw:zck ro (st'.put dst e) w):zck ro st' w:=by
 cases dst with
 |none => exact hw
 |some d => exact⟨hw.but,hw.bk,hw.lt,hw.ord,hw.ax,hw.nol,hw.same⟩
structure zvV(cfg:Cfg)(ro:Ro (sem P Q))(st:St (sem P Q))(a:Act):Prop where
 size:a.tmps.size=cfg.N
 defers:a.defers=[]
 fr:∀i e,ro.get st i=some e->e.2=none/\a.tmps.getD i undef=e.1.toV
theorem zvV.relF(h:zvV cfg ro st a):zvP cfg ops ro st a:=⟨h.size,h.defers,fun i e he=>by
 obtain⟨v,key⟩:=e
 obtain⟨h1,h2⟩:=h.fr i _ he
 simp only at h1
 subst h1
 exact h2⟩
theorem zuH:∀(l:List (Nat×Option (Ent (sem P Q)))) (i:Nat),zdZ (l.map zBe) i =
  (zdZ l i).map fun e=>match e with|some (_,some _)=>none|e=>e
 |[],i => rfl
 |(k,e)::r,i => by
  have ih:=zuH r i
  simp only[List.map_cons]
  cases hk:Nat.beq k i
  ·have h1:zdZ ((k,e)::r) i=zdZ r i:=by simp[zdZ,hk]
   rw[h1,<-ih]
   unfold zBe
   split<;>simp[zdZ,hk]
  ·have h1:zdZ ((k,e)::r) i=some e:=by simp[zdZ,hk]
   rw[h1]
   unfold zBe
   split<;>simp_all[zdZ]
theorem zJH(hf:zvP cfg ops ro st a):zvV cfg ro (zy0 st) a:=by
 refine⟨hf.size,hf.defers,fun i e he=>?_⟩
 have hl:=zuH st.ov i
 unfold Ro.get zy0 at he
 simp only at he
 rw[hl] at he
 cases hlo:zdZ st.ov i with
 |none =>
  rw[hlo] at he
  simp only[Option.map_none] at he
  have hg:ro.get st i=some e:=by unfold Ro.get;rw[hlo];exact he
  cases hs:zdZ ro.sl i with
  |none => rw[hs] at he;simp at he
  |some v =>
   rw[hs] at he
   simp only[Option.map_some,Option.some.injEq] at he
   subst he
   exact⟨rfl,hf.fr i _ hg⟩
 |some oe =>
  rw[hlo] at he
  simp only[Option.map_some] at he
  cases oe with
  |none => simp at he
  |some e' =>
   obtain⟨v,key⟩:=e'
   have hg:ro.get st i=some (v,key):=by unfold Ro.get;rw[hlo]
   cases key with
   |none =>
    simp only[Option.some.injEq] at he
    subst he
    exact⟨rfl,hf.fr i _ hg⟩
   |some k => simp at he
theorem zGO(hs:zeL ro st):zeL ro (zy0 st):=by
 intro i e he
 have:∃e',ro.get st i=some e'/\e'.1=e.1:=by
  have hl:=zuH st.ov i
  unfold Ro.get zy0 at he
  simp only at he
  rw[hl] at he
  cases hlo:zdZ st.ov i with
  |none =>
   rw[hlo] at he
   exact⟨e,by unfold Ro.get;rw[hlo];exact he,rfl⟩
  |some oe =>
   rw[hlo] at he
   simp only[Option.map_some] at he
   cases oe with
   |none => simp at he
   |some e' =>
    obtain⟨v,key⟩:=e'
    cases key with
    |none =>
     simp only[Option.some.injEq] at he
     exact⟨(v,none),by unfold Ro.get;rw[hlo],by rw[<-he]⟩
    |some k => simp at he
 obtain⟨e',he',h1⟩:=this
 rw[<-h1]
 have:=hs i e' he'
 revert this
 generalize e'.1=u
 intro hu
 cases u with
 |one x => cases x with
  |agg l => exact hu
  |sc y => cases y<;>first|exact hu|trivial
 |tup l => exact hu
 |undef => trivial
theorem zJI{w:World}:zck ro (zy0 st) w↔zck ro st w :=
 ⟨fun hw=>⟨hw.but,hw.bk,hw.lt,hw.ord,hw.ax,hw.nol,hw.same⟩,fun hw=>⟨hw.but,hw.bk,hw.lt,hw.ord,hw.ax,hw.nol,hw.same⟩⟩
def zCH(P:Program)(cfg:Cfg)(ops:Array Oper)(ro:Ro (sem P Q))(st:St (sem P Q))(o:Oper):Option (Nat×Bool)->Option (List Prop×SL (sem P Q))
 |none => zJp P cfg ops ro st o
 |some g => zJ7 P cfg ops ro st o g
theorem zt7{o:Oper}{obs:List Prop}{v:SL (sem P Q)}{cur:Option (Nat×Bool)}(hs:zeL ro st)(hnl:∀j b,ro.blk st j=some b->b.cells.all zcs=true)
  (h:zCH P cfg ops ro st o cur=some (obs,v)):zl9 ro st v:=by
 have hpure:zca P cfg ro st (zpY ro st (zkP ops ro st cur)) o=some (obs,v)->zl9 ro st v:=fun h =>
  (ztR (a:=⟨#[],[]⟩) (w:=default) (zlV hs) hnl h).2
 have hpick:∀c x y,zN9 (zo6 ops ro st cur c x y)=some (obs,v)->zl9 ro st v:=by
  intro c x y h
  unfold zN9 at h
  split at h
  ·rename_i u hu
   simp only[Option.some.injEq,Prod.mk.injEq] at h
   obtain⟨_,rfl⟩:=h
   exact zGj hs hu
  ·simp at h
 cases cur with
 |none =>
  simp only[zCH,zJp] at h
  split at h
  ·exact hpick _ _ _ h
  ·exact hpure h
 |some g =>
  simp only[zCH,zJ7] at h
  split at h
  ·exact hpick _ _ _ h
  ·exact hpure h
theorem zK4{o:Oper}{w:World}{obs:List Prop}{v:SL (sem P Q)}{cur:Option (Nat×Bool)}(hf:zvP cfg ops ro st a)(hs:zeL ro st)(hnol:∀j b,ro.blk st j=some b->b.cells.all zcs=true)(hw:zgc o=false\/zck ro st w)(hcur:∀c,cur=some c->zjC ops a c)
  (h:zCH P cfg ops ro st o cur=some (obs,v)) (hobs:All obs):zbs P o a w v.toV:=by
 have hpure:zca P cfg ro st (zpY ro st (zkP ops ro st cur)) o=some (obs,v)->zbs P o a w v.toV:=fun h =>
  (ztR (zlV hs) hnol h).1 (zJD hf hcur) (hw.imp id (·.bk)) hobs
 have hpick:∀c x y,o.op=.pick c x y->zN9 (zo6 ops ro st cur c x y)=some (obs,v)->zbs P o a w v.toV:=by
  intro c x y ho h
  unfold zN9 at h
  split at h
  ·rename_i u hu
   simp only[Option.some.injEq,Prod.mk.injEq] at h
   obtain⟨rfl,rfl⟩:=h
   exact(zJR hf hs hcur ho hu).1
  ·simp at h
 cases cur with
 |none =>
  simp only[zCH,zJp] at h
  split at h
  ·rename_i c x y ho
   exact hpick c x y ho h
  ·exact hpure h
 |some g =>
  simp only[zCH,zJ7] at h
  split at h
  ·rename_i c x y ho
   exact hpick c x y ho h
  ·exact hpure h
theorem zkM{o:Oper}:Region.wanted o (yielded ops a.tmps)=true↔(∀g,o.guard=some g->zjC ops a g):=by
 unfold Region.wanted zjC
 cases hg:o.guard with
 |none => simp
 |some g =>
  obtain⟨j,want⟩:=g
  simp
theorem zwC(hf:zvP cfg ops ro st a):∀(n:Nat)(g:Nat×Bool)(k:Prop),zwB (A:=sem P Q) ops ro st n g k->zjC ops a g->k
 |0,g,k,h,_ => h
 |n+1,(j,want),k,h,hg => by
  unfold zwB at h
  have hg':=hg
  unfold zjC at hg'
  rw[zeU] at hg'
  obtain⟨d,hd,hv⟩:=hg'
  rw[hd] at h
  simp only at h
  split at h
  ·rename_i b key hget
   have he:=hf.fr d _ hget
   have hkey:∀k',key=some k'->zjC ops a k':=by
    intro k' hk'
    subst hk'
    apply Classical.byContradiction
    intro hn
    rw[zEZ he hn] at hv
    simp[undef] at hv
   have hb:a.tmps.getD d undef=.bool b.den:=zy1 he hkey
   have hbw:b.den=want:=by
    rw[hb] at hv
    injection hv
   have hin:impB (A:=sem P Q) b want k->k:=by
    intro h
    unfold impB at h
    split at h
    ·exact h
    ·refine h ?_
     cases want
     ·simp only[cond_false];rw[ze1,zdN,hbw];rfl
     ·simp only[cond_true];rw[ze1,hbw]
   split at h
   ·exact hin h
   ·rename_i k'
    exact hin (zwC hf n k' _ h (hkey k' rfl))
  ·exact h
theorem zEq(hf:zvP cfg ops ro st a){n:Nat}{g:Nat×Bool}(hg:zjC ops a g):∀{l:List Prop},All (l.map (zwB (A:=sem P Q) ops ro st n g))->All l
 |[],_ => trivial
 |o::r,h => ⟨zwC hf n g o h.1 hg,zEq hf hg h.2⟩
theorem zBX{d:Nat}{b:BE (sem P Q)}{c:Bool}(hf:zvP cfg ops ro st a)(hv:a.tmps.getD d undef=.bool b.den)(hb:b.den=c) :
  zvP cfg ops ro { st with ov:=zvd st.ov d (some (.one (.sc (.bool (.lit c))),none)) } a:=by
 refine⟨hf.size,hf.defers,fun i e he=>?_⟩
 unfold Ro.get at he
 simp only[zhU] at he
 by_cases h:d=i
 ·subst h
  simp only[if_true,Option.some.injEq] at he
  subst he
  show a.tmps.getD d undef=.bool c
  rw[hv,hb]
 ·simp only[h,if_false] at he
  exact hf.fr i e he
theorem zxV{d:Nat}{c:Bool}(hs:zeL ro st):zeL ro { st with ov:=zvd st.ov d (some (.one (.sc (.bool (.lit c))),none)) }:=by
 intro i e he
 unfold Ro.get at he
 simp only[zhU] at he
 by_cases h:d=i
 ·subst h
  simp only[if_true,Option.some.injEq] at he
  subst he
  trivial
 ·simp only[h,if_false] at he
  have:=hs i e he
  revert this
  generalize e.1=u
  intro hu
  cases u with
  |one x => cases x with
   |agg l => exact hu
   |sc y => cases y<;>first|exact hu|trivial
  |tup l => exact hu
  |undef => trivial
theorem zvf{w:World}{ov:List (Nat×Option (Ent (sem P Q)))}:zck ro { st with ov } w↔zck ro st w :=
 ⟨fun hw=>⟨hw.but,hw.bk,hw.lt,hw.ord,hw.ax,hw.nol,hw.same⟩,fun hw=>⟨hw.but,hw.bk,hw.lt,hw.ord,hw.ax,hw.nol,hw.same⟩⟩
def kdD(P:Program)(cfg:Cfg)(dr:Bool)(o:Oper):Kd:=bif dr then zzt P cfg o else .hard
theorem zM2{P:Program}{cfg:Cfg}{o:Oper}(h:zzt P cfg o=.pure):zgc o=false:=by
 unfold zzt at h
 unfold zgc
 split at h<;>simp_all
theorem zuD{P:Program}{cfg:Cfg}{dr:Bool}{o:Oper}(h:kdD P cfg dr o=.pure):zgc o=false:=by
 unfold kdD at h
 cases dr with
 |true => exact zM2 h
 |false => cases h
theorem zNK{dr:Bool}{K:Act->World->Prop}{o:Oper}{i:Nat}{l:DT}{k:St (sem P Q)->Prop}(hi:ops[i]?=some o)(hwant:Region.wanted o (yielded ops a.tmps)=true)
  (hf:zvP cfg ops ro st a) (hs:zeL ro st) (hex:∃w,zck ro st w) (h:zGU P cfg dr ops ro st o k)
  (ih:∀st' a',k st'->zvP cfg ops ro st' a'->zeL ro st'->(∃w,zck ro st' w)->zkN P ops (kdD P cfg dr) K l (zck ro st') a'):zkN P ops (kdD P cfg dr) K (.op i l) (zck ro st) a:=by
 simp only[zkN,hi,hwant,if_true]
 unfold zGU at h
 simp only[cond_eq_ite] at h
 split at h
 ·exact h.elim
 ·rename_i hd
  have hd:zDg cfg ops st o.dst=true:=by simpa using hd
  have hc0:∀c,(none:Option (Nat×Bool))=some c->zjC ops a c:=fun c hc=>by cases hc
  split at h
  ·rename_i obs v hn
   rw[zhN] at h
   obtain⟨w0,hw0⟩:=hex
   refine .inl ⟨v.toV,fun w hw=>zK4 (cur:=none) hf hs hw0.nol (hw.imp zuD id) hc0 hn h.1,?_⟩
   have hC:zck ro (st.put o.dst (some (v,none)))=zck ro st:=funext fun w=>propext ⟨zka,zel⟩
   have hsl:=zt7 (cur:=none) hs hw0.nol hn
   have:=ih _ (a.put o.dst v.toV) h.2 (zkH hf rfl hd (fun _ _ _ hk=>by cases hk) rfl) (zh5 hs zgl hsl) ⟨w0,zel hw0⟩
   rw[hC] at this;exact this
  ·rename_i hn
   split at h
   ·exact h.elim
   rename_i hloud
   rcases eff_op (Qx:=NoEx) (zJD hf hc0) (zlV hs) h with⟨v,hg,hsl,hp⟩|⟨hld,hwp⟩
   ·have hnp:kdD P cfg dr o≠.pure:=by
     intro hpu
     have h1:=zuD hpu
     unfold kdD at hpu
     cases dr with
     |false => cases hpu
     |true =>
      have hpu:zzt P cfg o=.pure:=hpu
      unfold loud at hloud
      rw[h1,hpu] at hloud
      simp[Kd.quiet] at hloud
    obtain⟨w0,hw0⟩:=hex
    refine .inl ⟨v.toV,fun w hw=>hg w (hw.resolve_left hnp),?_⟩
    have:=ih _ (a.put o.dst v.toV) hp (zkH hf rfl hd (fun _ _ _ hk=>by cases hk) rfl) (zh5 hs zgl hsl) ⟨w0,zel hw0⟩
    have hC:zck ro (st.put o.dst (some (v,none)))=zck ro st:=funext fun w=>propext ⟨zka,zel⟩
    rw[hC] at this;exact this
   ·refine .inr ⟨?_,fun w hw=>Oper.wp_mono (fun a' w' hl=>?_) (hwp w hw)⟩
    ·unfold kdD
     cases dr with
     |false => rfl
     |true =>
      have hloud:loud P cfg true o=false:=by simpa using hloud
      unfold loud at hloud
      rw[hld] at hloud
      simpa using hloud
    ·obtain⟨v,st',hp,rfl,⟨hw',hsf⟩,hsl,hsame⟩:=hl
     refine⟨v.toV,rfl,zck ro (st'.put o.dst (some (v,none))),zel hw',?_,?_⟩
     ·intro hso x hx
      refine hsf ?_ x (zka hx)
      unfold kdD at hso
      cases dr with
      |false => cases hso
      |true => exact hso
     ·exact ih _ _ hp (zkH hf hsame.ov hd (fun _ _ _ hk=>by cases hk) rfl) (zh5 hs hsame hsl) ⟨_,zel hw'⟩
theorem zdc{dr:Bool}{K:Act->World->Prop}:∀(n:Nat) (l:DT) (st:St (sem P Q)) (a:Act) (k:St (sem P Q)->Prop),zh3 P cfg dr ops ro n l st k->zvP cfg ops ro st a->zeL ro st->(∃w,zck ro st w) ->
  (∀st' a',k st'->zvV cfg ro st' a'->zeL ro st'->∀w,zck ro st' w->K a' w)->zkN P ops (kdD P cfg dr) K l (zck ro st) a
 |0,l,st,a,k,h,_,_,_,_ => h.elim
 |n+1,.alt s t,st,a,k,h,hf,hs,hex,hk => by
  obtain⟨h1,h2⟩:=h
  exact⟨zdc n s st a k h1 hf hs hex hk,zdc n t st a k h2 hf hs hex hk⟩
 |n+1,.stop,st,a,k,h,hf,hs,hex,hk => by
  intro w hw
  exact hk (zy0 st) a h (zJH hf) (zGO hs) w (zJI.2 hw)
 |n+1,.op i l,st,a,k,h,hf,hs,hex,hk => by
  unfold zh3 at h
  split at h
  ·exact h.elim
  ·rename_i o hi
   split at h
   ·
    rename_i hy
    have hwant:Region.wanted o (yielded ops a.tmps)=true:=by
     rw[zkM]
     intro g hg
     rw[hg] at hy
     have:=zhT hf 50 g
     simp only[zu9] at hy
     rw[hy] at this;exact this
    exact zNK hi hwant hf hs hex h fun st' a' hk' hf' hs' hex'=>zdc n l st' a' k hk' hf' hs' hex' hk
   ·
    rename_i hno
    have hwant:¬Region.wanted o (yielded ops a.tmps)=true:=by
     rw[zkM]
     intro hall
     cases hg:o.guard with
     |none => rw[hg] at hno;simp[zu9] at hno
     |some g =>
      rw[hg] at hno
      simp only[zu9] at hno
      have:=zhT hf 50 g
      rw[hno] at this
      exact this (hall g hg)
    simp only[cond_eq_ite] at h
    split at h
    ·rename_i hd
     simp only[zkN,hi,hwant,Bool.false_eq_true,if_false]
     have:=zdc n l _ (a.put o.dst undef) k h (zkH (v:=.undef) hf rfl hd (fun _ _ _ hk=>by cases hk) rfl) (zh5 hs zgl trivial) (hex.imp fun _ h=>zel h) hk
     have hC:zck ro (st.put o.dst (some (.undef,none)))=zck ro st:=funext fun w=>propext ⟨zka,zel⟩
     rw[hC] at this;exact this
    ·exact h.elim
   ·
    rename_i j0 g hsym hg
    rw[hg] at hsym
    simp only[zu9] at hsym
    have hstat:=zhT hf 50 g
    rw[hsym] at hstat
    split at h
    ·rename_i obs v hop
     simp only[cond_eq_ite] at h
     split at h
     ·rename_i hd
      simp only[Bool.and_eq_true] at hd
      rw[zhN] at h
      obtain⟨hobs,h⟩:=h
      have hself:∀d,o.dst=some d->∀k',some g=some k'->zjw ops k'.1≠some d:=by
       intro d hdd k' hk' he
       obtain rfl:=Option.some.inj hk'
       have:=hd.2
       unfold zK3 at this
       rw[hdd,he] at this
       simp at this
      have hC:∀e,zck ro (st.put o.dst e)=zck ro st:=fun e=>funext fun w=>propext ⟨zka,zel⟩
      simp only[zkN,hi]
      by_cases hsat:zjC ops a g
      ·have hwant:Region.wanted o (yielded ops a.tmps)=true:=by
        rw[zkM];intro g' hg';rw[hg] at hg';obtain rfl:=Option.some.inj hg';exact hsat
       have hcur:∀c,some g=some c->zjC ops a c:=fun c hc=>by obtain rfl:=Option.some.inj hc;exact hsat
       have hob:=zEq hf hsat hobs
       rw[if_pos hwant]
       obtain⟨w0,hw0⟩:=hex
       have hsl:=zt7 (cur:=some g) hs hw0.nol hop
       refine .inl ⟨v.toV,fun w hw=>zK4 (cur:=some g) hf hs hw0.nol (hw.imp zuD id) hcur hop hob,?_⟩
       have:=zdc n l _ (a.put o.dst v.toV) k h (zkH (key:=some g) hf rfl hd.1 hself ⟨fun _=>rfl,fun hn=>absurd hsat hn⟩) (zh5 hs zgl hsl) ⟨w0,zel hw0⟩ hk
       rw[hC] at this;exact this
      ·have hwant:¬Region.wanted o (yielded ops a.tmps)=true:=by
        rw[zkM];intro hall;exact hsat (hall g hg)
       rw[if_neg hwant]
       obtain⟨w0,hw0⟩:=hex
       have hsl:=zt7 (cur:=some g) hs hw0.nol hop
       have:=zdc n l _ (a.put o.dst undef) k h (zkH (key:=some g) hf rfl hd.1 hself ⟨fun hy=>absurd hy hsat,fun _=>rfl⟩) (zh5 hs zgl hsl) ⟨w0,zel hw0⟩ hk
       rw[hC] at this;exact this
     ·exact h.elim
    ·split at h
     ·exact h.elim
     ·rename_i d0 hd0
      obtain⟨d,key,b,h1,h2,h3⟩:=hstat
      rw[hd0] at h1
      obtain rfl:=Option.some.inj h1
      rw[h2] at h
      obtain⟨ht,hfa⟩:=h
      cases hb:b.den
      ·have:=zdc n (.op i l) _ a k (hfa (by rw[ze1,zdN,hb];rfl)) (zBX hf h3 hb) (zxV hs) (hex.imp fun _ h=>zvf.2 h) hk
       have hC:zck ro { st with ov:=zvd st.ov d0 (some (.one (.sc (.bool (.lit false))),none)) }=zck ro st:=funext fun w=>propext zvf
       rw[hC] at this;exact this
      ·have:=zdc n (.op i l) _ a k (ht (by rw[ze1,hb])) (zBX hf h3 hb) (zxV hs) (hex.imp fun _ h=>zvf.2 h) hk
       have hC:zck ro { st with ov:=zvd st.ov d0 (some (.one (.sc (.bool (.lit true))),none)) }=zck ro st:=funext fun w=>propext zvf
       rw[hC] at this;exact this
   ·exact h.elim
end
variable {P:Program} {Q:Value->World->Prop}
theorem zNE{a b:Sh}(h:shEq a b=true):a=b:=by
 cases a<;>cases b<;>simp[shEq] at h<;>first|rfl|(rw[zwJ h])
theorem zCa:∀{a b:List Sh},zDq a b=true->a=b
 |[],[],_ => rfl
 |a::r,b::s,h => by
  simp only[zDq,Bool.and_eq_true] at h
  rw[zNE h.1,zCa h.2]
 |[],_::_,h => by simp[zDq] at h
 |_::_,[],h => by simp[zDq] at h
def zyG:List Sh->List At->Prop
 |[],[] => True
 |.int _::r,.int _::l => zyG r l
 |.bool::r,.bool _::l => zyG r l
 |.str::r,.str _::l => zyG r l
 |.slc::r,.slc _ _ _::l => zyG r l
 |.ptr::r,.ptr _::l => zyG r l
 |.val::r,.val _::l => zyG r l
 |_,_ => False
theorem ziv:∀{shs:List Sh}{f:List At->Prop},zH4 shs f->∀l,zyG shs l->f l
 |[],f,h,[],_ => h
 |.int _::r,f,h,.int n::l,hf => ziv (h n) l hf
 |.bool::r,f,h,.bool n::l,hf => ziv (h n) l hf
 |.str::r,f,h,.str n::l,hf => ziv (h n) l hf
 |.slc::r,f,h,.slc p n c::l,hf => ziv (h p n c) l hf
 |.ptr::r,f,h,.ptr n::l,hf => ziv (h n) l hf
 |.val::r,f,h,.val n::l,hf => ziv (h n) l hf
 |.bool::_,_,_,.int _::_,hf|.bool::_,_,_,.str _::_,hf|.bool::_,_,_,.slc _ _ _::_,hf|.bool::_,_,_,.ptr _::_,hf|.bool::_,_,_,.val _::_,hf => hf.elim
 |.int _::_,_,_,.bool _::_,hf|.int _::_,_,_,.str _::_,hf|.int _::_,_,_,.slc _ _ _::_,hf|.int _::_,_,_,.ptr _::_,hf|.int _::_,_,_,.val _::_,hf => hf.elim
 |.str::_,_,_,.int _::_,hf|.str::_,_,_,.bool _::_,hf|.str::_,_,_,.slc _ _ _::_,hf|.str::_,_,_,.ptr _::_,hf|.str::_,_,_,.val _::_,hf => hf.elim
 |.slc::_,_,_,.int _::_,hf|.slc::_,_,_,.str _::_,hf|.slc::_,_,_,.bool _::_,hf|.slc::_,_,_,.ptr _::_,hf|.slc::_,_,_,.val _::_,hf => hf.elim
 |.ptr::_,_,_,.int _::_,hf|.ptr::_,_,_,.str _::_,hf|.ptr::_,_,_,.slc _ _ _::_,hf|.ptr::_,_,_,.bool _::_,hf|.ptr::_,_,_,.val _::_,hf => hf.elim
 |.val::_,_,_,.int _::_,hf|.val::_,_,_,.str _::_,hf|.val::_,_,_,.slc _ _ _::_,hf|.val::_,_,_,.ptr _::_,hf|.val::_,_,_,.bool _::_,hf => hf.elim
 |[],_,_,_::_,hf => hf.elim
 |.int _::_,_,_,[],hf|.bool::_,_,_,[],hf|.str::_,_,_,[],hf|.slc::_,_,_,[],hf|.ptr::_,_,_,[],hf|.val::_,_,_,[],hf => hf.elim
theorem zL0{x:Sc (sem P Q)}{s:Sh}{at_:At}(h:x.atom=some (s,at_)):∃y:Sc (sem P Q),zF3 s at_=some y/\y.toV=x.toV/\zcs y=true/\(∀r l,zyG (s::r) (at_::l)↔zyG r l):=by
 cases x<;>simp[Sc.atom] at h<;>obtain⟨rfl,rfl⟩:=h<;>exact⟨_,rfl,rfl,rfl,fun _ _=>Iff.rfl⟩
theorem zua:∀{l:List (Sc (sem P Q))} {al:List (Sh×At)},zlv l=some al ->
  ∃cs:List (Sc (sem P Q)),zcd (al.map (·.1)) (al.map (·.2))=some cs/\cs.map Sc.toV=l.map Sc.toV/\cs.all zcs=true/\zyG (al.map (·.1)) (al.map (·.2))
 |[],al,h => by simp[zlv] at h;subst h;exact⟨[],rfl,rfl,rfl,trivial⟩
 |x::r,al,h => by
  unfold zlv at h
  split at h
  ·rename_i a l' ha hl
   simp only[Option.some.injEq] at h
   subst h
   obtain⟨s,at_⟩:=a
   obtain⟨y,hy,hyv,hyn,hfit⟩:=zL0 ha
   obtain⟨cs,hcs,hcv,hcn,hf⟩:=zua hl
   refine⟨y::cs,?_,by simp[hyv,hcv],by simp[hyn,hcn],(hfit _ _).2 hf⟩
   simp[zcd,hy,hcs]
  ·simp at h
section
variable {cfg:Cfg} {ro:Ro (sem P Q)} {st:St (sem P Q)} {a:Act} {w:World}
theorem zos:∀{sl:List (Nat×Bool×Nat)} {l:List (Sc (sem P Q))},zqI ro st sl=some l->∀(cs zay:List (Sc (sem P Q))),(∃tl,cs=tl++zay/\tl.map Sc.toV=l.map Sc.toV)->cs.all zcs=true ->
  (zem sl cs).2=zay/\zaI (zem sl cs).1=zaI sl/\∀i e,(i,e)∈(zem sl cs).1->∃v u,e=some (.one v,none)/\ro.get st i=some (.one u,none)/\v.toV=u.toV/\za3 v=true
 |[],l,h,cs,zay,⟨tl,htl,hv⟩,_ => by
  simp[zqI] at h
  subst h
  have:tl=[]:=by simpa using hv
  subst this
  exact⟨htl,rfl,fun i e he=>by cases he⟩
 |(i,agg,n)::r,l,h,cs,zay,⟨tl,htl,hv⟩,hcn => by
  unfold zqI at h
  split at h
  ·
   rename_i x l' hg hr
   simp only[cond_eq_ite] at h
   split at h
   ·rename_i hc
    simp only[Bool.and_eq_true,Bool.not_eq_true',Nat.beq_eq] at hc
    obtain⟨ha,rfl⟩:=hc
    subst ha
    simp only[Option.some.injEq] at h
    subst h
    cases tl with
    |nil => simp at hv
    |cons y tl' =>
     simp only[List.map_cons,List.cons.injEq] at hv
     subst htl
     have hcn':(tl'++zay).all zcs=true:=by
      simp only[List.cons_append,List.all_cons,Bool.and_eq_true] at hcn;exact hcn.2
     have hy:zcs y=true:=by
      simp only[List.cons_append,List.all_cons,Bool.and_eq_true] at hcn;exact hcn.1
     obtain⟨h1,h2,h3⟩:=zos hr (tl'++zay) zay ⟨tl',rfl,hv.2⟩ hcn'
     have hd:zbR 1 (y::tl'++zay)=tl'++zay:=by rw[zeb];rfl
     simp only[zem,hd]
     refine⟨h1,by simp[zaI] at h2 ⊢;exact h2,fun j e he=>?_⟩
     rcases List.mem_cons.1 he with he|he
     ·obtain⟨rfl,rfl⟩:=Prod.mk.inj he
      exact⟨.sc y,.sc x,rfl,hg,hv.1,by simp[za3,SV.cells,hy]⟩
     ·exact h3 j e he
   ·simp at h
  ·
   rename_i cs0 l' hg hr
   simp only[cond_eq_ite] at h
   split at h
   ·rename_i hc
    simp only[Bool.and_eq_true,Nat.beq_eq] at hc
    obtain⟨ha,rfl⟩:=hc
    subst ha
    simp only[Option.some.injEq] at h
    subst h
    simp only[List.map_append] at hv
    have hlen:cs0.length<=tl.length:=by
     have:=congrArg List.length hv
     simp at this;omega
    subst htl
    have e1:(tl.take cs0.length).map Sc.toV=cs0.map Sc.toV:=by
     rw[List.map_take,hv,List.take_left' (by simp)]
    have e2:(tl.drop cs0.length).map Sc.toV=l'.map Sc.toV:=by
     rw[List.map_drop,hv,List.drop_left' (by simp)]
    have hdr:zbR cs0.length (tl++zay)=tl.drop cs0.length++zay:=by
     rw[zeb,List.drop_append_of_le_length hlen]
    have htk:zeo cs0.length (tl++zay)=tl.take cs0.length:=by
     rw[zlY,List.take_append_of_le_length hlen]
    have hcn':(tl.drop cs0.length++zay).all zcs=true:=by
     rw[<-hdr,zeb]
     simp only[List.all_eq_true] at *
     intro x hx;exact hcn x (List.mem_of_mem_drop hx)
    obtain⟨h1,h2,h3⟩:=zos hr (tl.drop cs0.length++zay) zay ⟨tl.drop cs0.length,rfl,e2⟩ hcn'
    simp only[zem,hdr,htk]
    refine⟨h1,by simp[zaI] at h2 ⊢;exact h2,fun j e he=>?_⟩
    rcases List.mem_cons.1 he with he|he
    ·obtain⟨rfl,rfl⟩:=Prod.mk.inj he
     refine⟨.agg (tl.take cs0.length),.agg cs0,rfl,hg,by rw[toV_agg,toV_agg,e1],?_⟩
     simp only[za3,SV.cells,List.all_eq_true] at *
     intro x hx;exact hcn x (List.mem_append_left _ (List.mem_of_mem_take hx))
    ·exact h3 j e he
   ·simp at h
  ·simp at h
theorem zt1{ro2:Ro (sem P Q)}{st2:St (sem P Q)}:∀{bl:List (Nat×Nat)} {l:List (Sc (sem P Q))},znR ro2 st2 bl=some l->(∀j n,(j,n)∈bl->∃b,ro.blk st j=some b)->∀(cs:List (Sc (sem P Q))),cs.map Sc.toV=l.map Sc.toV->cs.all zcs=true ->
  zaI (zfA ro st bl cs)=zaI bl/\∀j b',(j,b')∈zfA ro st bl cs->∃b b2,ro.blk st j=some b/\ro2.blk st2 j=some b2/\b'.num=b.num/\b'.ty=b.ty/\b'.cells.map Sc.toV=b2.cells.map Sc.toV/\b'.cells.all zcs=true
 |[],l,h,_,cs,hv,hcn => ⟨rfl,fun j b hb => by cases hb⟩
 |(j,n)::r,l,h,hex,cs,hv,hcn => by
  unfold znR at h
  split at h
  ·rename_i b2 l' hb2 hr
   simp only[cond_eq_ite] at h
   split at h
   ·rename_i hn
    have hn:n=b2.cells.length:=by simpa using hn
    subst hn
    simp only[Option.some.injEq] at h
    subst h
    obtain⟨b,hb⟩:=hex j _ (List.mem_cons_self ..)
    simp only[List.map_append] at hv
    have e1:(cs.take b2.cells.length).map Sc.toV=b2.cells.map Sc.toV:=by
     rw[List.map_take,hv,List.take_left' (by simp)]
    have e2:(cs.drop b2.cells.length).map Sc.toV=l'.map Sc.toV:=by
     rw[List.map_drop,hv,List.drop_left' (by simp)]
    have n1:(cs.take b2.cells.length).all zcs=true:=by
     simp only[List.all_eq_true] at *;intro x hx;exact hcn x (List.mem_of_mem_take hx)
    have n2:(cs.drop b2.cells.length).all zcs=true:=by
     simp only[List.all_eq_true] at *;intro x hx;exact hcn x (List.mem_of_mem_drop hx)
    obtain⟨h1,h2⟩:=zt1 hr (fun i m hm=>hex i m (List.mem_cons_of_mem _ hm)) _ e2 n2
    simp only[zfA,hb,zlY,zeb]
    refine⟨by simp[zaI] at h1 ⊢;exact h1,fun i b' hi=>?_⟩
    rcases List.mem_cons.1 hi with hi|hi
    ·obtain⟨rfl,rfl⟩:=Prod.mk.inj hi
     exact⟨b,b2,hb,hb2,rfl,rfl,e1,n1⟩
    ·exact h2 i b' hi
   ·simp at h
  ·simp at h
theorem zgd{α:Type}:∀{l:List (Nat×α)} {i:Nat},zdZ l i=none↔i∉zaI l
 |[],i => by simp[zdZ,zaI]
 |(k,v)::r,i => by
  unfold zdZ
  cases hk:Nat.beq k i
  ·have hne:=beqN hk
   have ih:=zgd (l:=r) (i:=i)
   simp only[cond_false,ih,zaI,List.map_cons,List.mem_cons,not_or]
   exact⟨fun h=>⟨Ne.symm hne,h⟩,fun h=>h.2⟩
  ·have:=Nat.eq_of_beq_eq_true hk
   subst this
   simp[zaI]
theorem zlH{α:Type}:∀(l r:List (Nat×α)) (i:Nat),zdZ (l++r) i=match zdZ l i with|some x=>some x|none=>zdZ r i
 |[],r,i => rfl
 |(k,v)::l,r,i => by
  simp only[List.cons_append,zdZ]
  cases hk:Nat.beq k i
  ·simp only[cond_false];exact zlH l r i
  ·rfl
theorem zlI{α:Type}(p:Nat->Bool):∀(l:List (Nat×α)) (i:Nat),zdZ (l.filter fun x=>p x.1) i=if p i then zdZ l i else none
 |[],i => by simp[zdZ]
 |(k,v)::r,i => by
  have ih:=zlI p r i
  simp only[List.filter_cons]
  cases hk:Nat.beq k i
  ·have h1:zdZ ((k,v)::r) i=zdZ r i:=by simp[zdZ,hk]
   rw[h1,<-ih]
   split
   ·simp[zdZ,hk]
   ·rfl
  ·have:=Nat.eq_of_beq_eq_true hk
   subst this
   cases hp:p k
   ·simp only[Bool.false_eq_true,if_false]
    rw[ih,hp];simp
   ·simp[zdZ]
theorem ztG{α:Type}(f:Nat->Option α)(n i:Nat):zdZ ((List.range n).filterMap fun j=>(f j).map fun x=>(j,x)) i=if i<n then f i else none:=by
 have key:∀(l:List Nat),zdZ (l.filterMap fun j=>(f j).map fun x=>(j,x)) i=if i∈l then f i else none:=by
  intro l
  induction l with
  |nil => simp[zdZ]
  |cons k r ih =>
   simp only[List.filterMap_cons]
   cases hf:f k with
   |none =>
    simp only[Option.map_none,ih,List.mem_cons]
    by_cases h:i=k
    ·subst h;simp[hf]
    ·simp[h]
   |some x =>
    simp only[Option.map_some,zdZ,List.mem_cons]
    by_cases h:k=i
    ·subst h;simp[hf]
    ·rw[beqF h];simp only[cond_false,ih,Ne.symm h,false_or]
 rw[key]
 simp
theorem zbt(hw:zck ro st w)(j:Nat):zdZ (za2 cfg ro st).bl j=ro.blk st j:=by
 unfold za2 zEp
 simp only
 rw[ztG (fun j=>ro.blk st j)]
 split
 ·rfl
 ·rename_i h
  cases hb:ro.blk st j with
  |none => rfl
  |some b => exact absurd (hw.lt j b hb) h
theorem zhl{i:Nat}{v:SL (sem P Q)}:zdZ (za2 cfg ro st).sl i=some v↔i<cfg.N/\ro.get st i=some (v,none):=by
 have:(za2 cfg ro st).sl=(List.range cfg.N).filterMap fun j=>((match ro.get st j with|some (v,none)=>some v|_=>none):Option (SL (sem P Q))).map fun x=>(j,x):=by
  unfold za2 zAQ
  simp only
  congr 1
  funext j
  cases ro.get st j with
  |none => rfl
  |some e => obtain⟨v,key⟩:=e;cases key<;>rfl
 rw[this,ztG (fun j=>(match ro.get st j with|some (v,none)=>some v|_=>none))]
 split
 ·rename_i h
  cases hg:ro.get st i with
  |none => simp
  |some e =>
   obtain⟨u,key⟩:=e
   cases key<;>simp[h]
 ·rename_i h
  simp[h]
theorem zgZ{hv:Hv}{body:Code}{cs:List (Sc (sem P Q))}{wa:World}{j:Nat}{b':Blk (sem P Q)}(hw:zck ro st w)
  (hsp:∀j b',(j,b')∈zfA ro st hv.blocks (zmJ hv body cs).2->∃b,ro.blk st j=some b/\b'.num=b.num/\b'.ty=b.ty/\b'.cells.all zcs=true)
  (h:(za2 cfg ro st).blk (zaN ro st hv body cs wa) j=some b'):∃b,ro.blk st j=some b/\b'.num=b.num/\b'.ty=b.ty/\b'.cells.all zcs=true:=by
 unfold Ro.blk at h
 split at h
 ·rename_i b1 hb1
  obtain rfl:=Option.some.inj h
  exact hsp j _ (zeP hb1)
 ·rw[zbt hw] at h
  exact⟨b',h,rfl,rfl,hw.nol j b' h⟩
theorem zFh{hv:Hv}{body:Code}{cs:List (Sc (sem P Q))}{wa w':World}(hw:zck ro st w)
  (hsp:∀j b',(j,b')∈zfA ro st hv.blocks (zmJ hv body cs).2->∃b,ro.blk st j=some b/\b'.num=b.num/\b'.ty=b.ty/\b'.cells.all zcs=true)
  (hbut:But ((za2 cfg ro st).dn (zaN ro st hv body cs wa)) wa w')
  (hbk:∀j b',(za2 cfg ro st).blk (zaN ro st hv body cs wa) j=some b'->znH w' b'):zck (za2 cfg ro st) (zaN ro st hv body cs wa) w':=by
 refine⟨hbut,hbk,fun j b h=>?_,fun i j b c h1 h2 hij=>?_,fun j b h hj=>?_,fun j b h=>?_,fun j b b0 h0 h=>?_⟩
 ·obtain⟨b1,hb1,_⟩:=zgZ hw hsp h
  exact hw.lt j b1 hb1
 ·obtain⟨b1,hb1,e1,_⟩:=zgZ hw hsp h1
  obtain⟨b2,hb2,e2,_⟩:=zgZ hw hsp h2
  rw[e1,e2]
  exact hw.ord i j b1 b2 hb1 hb2 hij
 ·obtain⟨b1,hb1,_⟩:=zgZ hw hsp h
  exact absurd (hw.lt j b1 hb1) (Nat.not_lt.2 hj)
 ·obtain⟨b1,hb1,_,_,hn⟩:=zgZ hw hsp h
  exact hn
 ·obtain⟨b1,hb1,e1,e2,_⟩:=zgZ hw hsp h
  rw[zbt hw,hb1] at h0
  obtain rfl:=Option.some.inj h0
  exact⟨e1,e2⟩
theorem zBp{hv:Hv}{body:Code}{cs:List (Sc (sem P Q))}{wa:World}{ro2:Ro (sem P Q)}{st2:St (sem P Q)}{i:Nat}{e:Ent (sem P Q)}
  (hsp:∀i e,(i,e)∈(zem hv.slots cs).1->∃v u,e=some (.one v,none)/\ro2.get st2 i=some (.one u,none)/\v.toV=u.toV/\za3 v=true)
  (h:(za2 cfg ro st).get (zaN ro st hv body cs wa) i=some e) :
  (∃v u,e=(.one v,none)/\ro2.get st2 i=some (.one u,none)/\v.toV=u.toV/\za3 v=true) \/
  (i∉zaI (zaN ro st hv body cs wa).ov/\∃v,e=(v,none)/\i<cfg.N/\ro.get st i=some (v,none)):=by
 unfold Ro.get at h
 split at h
 ·rename_i e' he
  have hm:=zeP he
  subst h
  have hm':(i,some e)∈(zem hv.slots cs).1++(nub (zns body)).filterMap fun i=>(bif zia (zaI (zem hv.slots cs).1) i then none else some (i,none)):=hm
  rcases List.mem_append.1 hm' with hm|hm
  ·obtain⟨v,u,he,h1,h2,h3⟩:=hsp i _ hm
   exact .inl ⟨v,u,Option.some.inj he,h1,h2,h3⟩
  ·simp only[List.mem_filterMap] at hm
   obtain⟨k,_,hk⟩:=hm
   cases hmem:zia (zaI (zem hv.slots cs).1) k<;>rw[hmem] at hk<;>simp at hk
 ·rename_i hn
  cases hl:zdZ (za2 cfg ro st).sl i with
  |none => rw[hl] at h;simp at h
  |some v =>
   rw[hl] at h
   simp only[Option.map_some,Option.some.injEq] at h
   obtain⟨h1,h2⟩:=zhl.1 hl
   exact .inr ⟨zgd.1 hn,v,h.symm,h1,h2⟩
theorem zGP{hv:Hv}{body:Code}{cs:List (Sc (sem P Q))}{wa:World}(hw:zck ro st w)
  (hsp:∀j b',(j,b')∈zfA ro st hv.blocks (zmJ hv body cs).2->∃b,ro.blk st j=some b/\b'.num=b.num/\b'.ty=b.ty/\b'.cells.all zcs=true) {u:SL (sem P Q)} (h:zl9 ro st u) :
  zl9 (za2 cfg ro st) (zaN ro st hv body cs wa) u:=by
 cases u with
 |one x => cases x with
  |agg l => exact h
  |sc y =>
   cases y with
   |loc j n off =>
    refine⟨h.1,fun b' hb'=>?_⟩
    obtain⟨b,hb,e,_⟩:=zgZ hw hsp hb'
    rw[e];exact h.2 b hb
   |_ => trivial
 |tup l => exact h
 |undef => trivial
structure zAE(cfg:Cfg)(ro:Ro (sem P Q))(st:St (sem P Q))(hv:Hv)(body:Code)(cs:List (Sc (sem P Q)))(wa:World)(a:Act)(w:World):Prop where
 c:zvV cfg (za2 cfg ro st) (zaN ro st hv body cs wa) a
 s:zeL (za2 cfg ro st) (zaN ro st hv body cs wa)
 w:zck (za2 cfg ro st) (zaN ro st hv body cs wa) w
theorem zKO{hv:Hv}{body:Code}{cs:List (Sc (sem P Q))}{wa w':World}{a':Act}{ro2:Ro (sem P Q)}{st2:St (sem P Q)}{l:List (Sc (sem P Q))}(hw:zck ro st w)(hs:zeL ro st)
  (hg:zmB ro2 st2 hv=some l) (hcv:cs.map Sc.toV=l.map Sc.toV) (hcn:cs.all zcs=true)
  (hc2:zvV cfg ro2 st2 a') (hw2:zck ro2 st2 w') 
  (hrest:∀i v,i∉zaI (zaN ro st hv body cs wa).ov->ro.get st i=some (v,none)->i<cfg.N->a'.tmps.getD i undef=v.toV)
  (hex:∀j n,(j,n)∈hv.blocks->∃b,ro.blk st j=some b)
  (hnum:∀j b b2,ro.blk st j=some b->ro2.blk st2 j=some b2->b2.num=b.num/\b2.ty=b.ty)
  (hkeep:∀j b,j∉zaI hv.blocks->ro.blk st j=some b->ro2.blk st2 j=some b)
  (hbut:But (ro2.dn st2) wa w') (hdirty:∀j∈st2.dirty,j∈zmI hv st) (hdx:∀j b2,j∈st2.dirty->ro2.blk st2 j=some b2->∃b,ro.blk st j=some b) :
  zAE cfg ro st hv body cs wa a' w':=by
 unfold zmB at hg
 simp only[Option.bind_eq_some_iff,Option.map_eq_some_iff] at hg
 obtain⟨ss,hss,bs,hbs,rfl⟩:=hg
 rw[List.map_append] at hcv
 have hlen:ss.length<=cs.length:=by have:=congrArg List.length hcv;simp at this;omega
 have e1:(cs.take ss.length).map Sc.toV=ss.map Sc.toV:=by rw[List.map_take,hcv,List.take_left' (by simp)]
 have e2:(cs.drop ss.length).map Sc.toV=bs.map Sc.toV:=by rw[List.map_drop,hcv,List.drop_left' (by simp)]
 obtain⟨s1,s2,s3⟩:=zos hss cs (cs.drop ss.length) ⟨cs.take ss.length,(List.take_append_drop _ _).symm,e1⟩ hcn
 have n2:(cs.drop ss.length).all zcs=true:=by
  simp only[List.all_eq_true] at *;intro x hx;exact hcn x (List.mem_of_mem_drop hx)
 have hrest2:(zmJ hv body cs).2=cs.drop ss.length:=s1
 obtain⟨b1,b2⟩:=zt1 (ro:=ro) (st:=st) hbs hex _ e2 n2
 have hsp:∀j b',(j,b')∈zfA ro st hv.blocks (zmJ hv body cs).2->∃b,ro.blk st j=some b/\b'.num=b.num/\b'.ty=b.ty/\b'.cells.all zcs=true:=by
  intro j b' hm
  rw[hrest2] at hm
  obtain⟨b,c,h1,h2,h3,h4,h5,h6⟩:=b2 j b' hm
  exact⟨b,h1,h3,h4,h6⟩
 refine⟨⟨hc2.size,hc2.defers,fun i e he=>?_⟩,fun i e he=>?_,zFh hw hsp ?_ fun j b' hb'=>?_⟩
 ·rcases zBp s3 he with⟨v,u,rfl,hu,hvu,_⟩|⟨hni,v,rfl,hi,hgv⟩
  ·exact⟨rfl,by have:=(hc2.fr i _ hu).2;show _=v.toV;rw[hvu];exact this⟩
  ·exact⟨rfl,hrest i v hni hgv hi⟩
 ·rcases zBp s3 he with⟨v,u,rfl,hu,hvu,hn⟩|⟨hni,v,rfl,hi,hgv⟩
  ·exact zdq hn
  ·exact zGP hw hsp (hs i _ hgv)
 ·refine hbut.mono fun d hd=>?_
  obtain⟨j,c,hj,hc,rfl⟩:=zk9.1 hd
  obtain⟨b,hb⟩:=hdx j c hj hc
  have hblk:∃b',(za2 cfg ro st).blk (zaN ro st hv body cs wa) j=some b':=by
   unfold Ro.blk
   split
   ·exact⟨_,rfl⟩
   ·rw[zbt hw];exact⟨b,hb⟩
  obtain⟨b',hb'⟩:=hblk
  obtain⟨b0,hb0,en,_⟩:=zgZ hw hsp hb'
  refine zk9.2 ⟨j,b',hdirty j hj,hb',?_⟩
  rw[hb] at hb0
  obtain rfl:=Option.some.inj hb0
  rw[en,(hnum j b c hb hc).1]
 ·unfold Ro.blk at hb'
  split at hb'
  ·rename_i b1' hl
   obtain rfl:=Option.some.inj hb'
   have hm:=zeP hl
   have hm:(j,b1')∈zfA ro st hv.blocks (zmJ hv body cs).2:=hm
   rw[hrest2] at hm
   obtain⟨b,c,h1,h2,h3,h4,h5,h6⟩:=b2 j b1' hm
   have hc:=hw2.bk j c h2
   obtain⟨en,et⟩:=hnum j b c h1 h2
   unfold znH at hc ⊢
   rw[h3,h4,h5,<-en,<-et]
   exact hc
  ·rename_i hn
   rw[zbt hw] at hb'
   have hnk:j∉zaI hv.blocks:=by
    have h1:j∉zaI (zfA ro st hv.blocks (zmJ hv body cs).2):=zgd.1 hn
    rw[hrest2,b1] at h1
    exact h1
   exact hw2.bk j b' (hkeep j b' hnk hb')
end
end Go.Sx
