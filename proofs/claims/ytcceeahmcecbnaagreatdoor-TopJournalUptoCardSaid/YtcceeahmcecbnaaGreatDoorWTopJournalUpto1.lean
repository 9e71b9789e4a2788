/- The framework, the program's texts and what is shown of them: part 1. -/
import Derived.WalkKit
import Derived.KernelRfl
import Derived.Orders
import Derived.Still
set_option linter.unusedVariables false
set_option linter.unusedSimpArgs false
set_option maxRecDepth 100000
namespace Go.Sx
inductive Cmp where
 |eql|neq|lss|leq|gtr|geq
def zv1:BinOp->Option Cmp
 |.eql => some .eql|.neq => some .neq|.lss => some .lss|.leq => some .leq|.gtr => some .gtr|.geq => some .geq
 |_ => none
inductive Sh where
 |int (k:IntKind)|bool|str|slc|ptr|val
inductive zyy(I B S N P V:Type) where
 |int (n:I)|bool (b:B)|str (s:S)|slc (p:P) (l c:N)|ptr (p:P)|val (v:V)
inductive MC(V:Type) where
 |makeSlice (t:TypeId) (l c:V)
 |append (ats:Array TypeId) (t:TypeId) (xs:List V)
 |copy (ats:Array TypeId) (t:TypeId) (xs:List V)
 |delete (ats:Array TypeId) (t:TypeId) (xs:List V)
 |clear (ats:Array TypeId) (t:TypeId) (xs:List V)
 |len (ats:Array TypeId) (t:TypeId) (xs:List V)
 |lookup (t:TypeId) (m k:V) (ok:Bool)
 |mapUpdate (t:TypeId) (m k x:V)
 |makeMap (t:TypeId)
 |range (t:TypeId) (x:V)
 |next (it:V) (isString:Bool) (t:TypeId)
 |entry (it:V)
 |extract (x:V) (i:Nat)
 |convert (src dst:TypeId) (x:V)
 |eq (op:BinOp) (t:TypeId) (cx cy:Bool) (x y:V)
 |buildSlice (t:TypeId) (n:Nat) (parts:List (Nat×V))
 |makeInterface (t:TypeId) (x:V)
 |typeAssert (x:V) (t u:TypeId) (ok:Bool)
 |index (t:TypeId) (x i:V)
 |slice (t:TypeId) (x:V) (lo hi mx:Option V)
structure Alg where
 I:Type
 B:Type
 Q:Type
 S:Type
 N:Type
 P:Type
 V:Type
 W:Type
 O:Type
 iLit:Int->I
 iBin:BinOp->IntKind->Bool->I->I->I
 iConv:IntKind->I->I
 iN:N->I
 iLen:S->I
 iAt:S->I->I
 iMin:I->I->I
 iMax:I->I->I
 iIte:B->I->I->I
 bLit:Bool->B
 bCmp:Cmp->I->I->B
 bSCmp:Cmp->S->S->B
 bNilP:P->B
 bNot:B->B
 bAnd:B->B->B
 bOr:B->B->B
 bIte:B->B->B->B
 qLit:Bool->Q
 qCmp:Cmp->I->I->Q
 qSCmp:Cmp->S->S->Q
 qNilP:Bool->P->Q
 qAtom:Bool->B->Q
 qAnd:Q->Q->Q
 qOr:Q->Q->Q
 sLit:ByteArray->S
 sCat:S->S->S
 sSub:S->I->I->S
 sIte:B->S->S->S
 nLit:Nat->N
 nI:I->N
 nSub:N->I->N
 pNil:P
 pAt:N->Nat->P
 pAdd:P->Nat->P
 pIdx:P->I->Nat->P
 pCut:P->N->I->Nat->P
 vInt:IntKind->I->V
 vBool:B->V
 vStr:S->V
 vSlc:P->N->N->V
 vPtr:P->V
 vAgg:List V->V
 vTup:List V->V
 vFn:Nat->List V->V
 vLit:Value->V
 vIte:B->V->V->V
 oTrue:O
 oFail:String->O
 oAnd:O->O->O
 oImp:Q->O->O
 oRange:IntKind->I->O
 oNe0:I->O
 oNonneg:I->O
 oLe:I->I->O
 oLt:I->I->O
 oSome:P->O
 oCat:S->S->O
 oEqV:V->V->O
 oExt:W->W->O
 oKept:List N->W->W->O
 oCell:List N->W->P->Nat->V->O
 oCells:List N->W->P->Nat->V->O
 exI:String->(I->O)->O
 exB:String->(B->O)->O
 exS:String->(S->O)->O
 exN:String->(N->O)->O
 exP:String->(P->O)->O
 exV:String->(V->O)->O
 allExt:List N->List N->W->(W->O)->O
 allNum:W->(N->O)->O
 oFn:Nat->List V->W->(V->W->O)->O
 oFnV:V->List V->W->(V->W->O)->O
 oFnB:V->List V->W->(V->W->O)->O
 oInv:String->V->List V->W->(V->W->O)->O
 oRun:MC V->W->(V->W->O)->O
 oStore:W->P->List V->List N->(W->O)->O
 oOne:V->O
 oNew:W->TypeId->List V->(P->W->O)->O
 oRet:V->W->O
 loop:List (String×Sh)->List (zyy I B S N P V)->W->((List (zyy I B S N P V)->W->O)->List (zyy I B S N P V)->W->O)->O
 join:List (String×Sh)->((List (zyy I B S N P V)->W->O)->O)->(List (zyy I B S N P V)->W->O)->O
variable {A:Alg}
inductive BE(A:Alg) where
 |lit (b:Bool)
 |cmp (op:Cmp) (x y:A.I)
 |scmp (op:Cmp) (x y:A.S)
 |nilp (is:Bool) (p:A.P)
 |atom (is:Bool) (b:A.B)
 |and (x y:BE A)
 |or (x y:BE A)
def zLc:Cmp->Cmp
 |.eql => .neq|.neq => .eql|.lss => .geq|.geq => .lss|.gtr => .leq|.leq => .gtr
def BE.neg:BE A->BE A
 |.lit b => .lit (!b)
 |.cmp op x y => .cmp (zLc op) x y
 |.scmp op x y => .scmp (zLc op) x y
 |.nilp is p => .nilp (!is) p
 |.atom is b => .atom (!is) b
 |.and x y => .or x.neg y.neg
 |.or x y => .and x.neg y.neg
def BE.den:BE A->A.B
 |.lit b => A.bLit b
 |.cmp op x y => A.bCmp op x y
 |.scmp op x y => A.bSCmp op x y
 |.nilp true p => A.bNilP p
 |.nilp false p => A.bNot (A.bNilP p)
 |.atom true b => b
 |.atom false b => A.bNot b
 |.and x y => A.bAnd x.den y.den
 |.or x y => A.bOr x.den y.den
def BE.prop:BE A->A.Q
 |.lit b => A.qLit b
 |.cmp op x y => A.qCmp op x y
 |.scmp op x y => A.qSCmp op x y
 |.nilp is p => A.qNilP is p
 |.atom is b => A.qAtom is b
 |.and x y => A.qAnd x.prop y.prop
 |.or x y => A.qOr x.prop y.prop
def BE.mkAnd:BE A->BE A->BE A
 |.lit true,y => y
 |.lit false,_ => .lit false
 |x,.lit true => x
 |x,y => .and x y
def BE.mkOr:BE A->BE A->BE A
 |.lit false,y => y
 |.lit true,_ => .lit true
 |x,.lit false => x
 |x,y => .or x y
inductive Sc(A:Alg) where
 |int (k:IntKind) (n:A.I)
 |intc (k:IntKind) (n:Int)
 |bool (b:BE A)
 |str (s:A.S)
 |slc (p:A.P) (l c:A.N)
 |ptr (p:A.P)
 |loc (j:Nat) (b:A.N) (off:Nat)
 |fn (f:Nat) (cap:List A.V)
 |val (v:A.V)
def Sc.toV:Sc A->A.V
 |.int k n => A.vInt k n
 |.intc k n => A.vInt k (A.iLit n)
 |.bool b => A.vBool b.den
 |.str s => A.vStr s
 |.slc p l c => A.vSlc p l c
 |.ptr p => A.vPtr p
 |.loc _ b off => A.vPtr (A.pAt b off)
 |.fn f cap => A.vFn f cap
 |.val v => v
inductive SV(A:Alg) where
 |sc (x:Sc A)
 |agg (l:List (Sc A))
def SV.toV:SV A->A.V
 |.sc x => x.toV
 |.agg l => A.vAgg (l.map Sc.toV)
def SV.cells:SV A->List (Sc A)
 |.sc x => [x]
 |.agg l => l
inductive SL(A:Alg) where
 |one (v:SV A)
 |tup (l:List (SV A))
 |undef
def SL.toV:SL A->A.V
 |.one v => v.toV
 |.tup l => A.vTup (l.map SV.toV)
 |.undef => A.vTup []
def zdD{α:Type}:List (Nat×α)->Nat->Option α
 |[],_ => none
 |(k,v)::r,i => bif Nat.beq k i then some v else zdD r i
def zto{α:Type}:List (Nat×α)->Nat->α->List (Nat×α)
 |[],i,x => [(i,x)]
 |(k,v)::r,i,x => bif Nat.beq k i then (k,x)::r else (k,v)::zto r i x
def zhg:List Nat->Nat->Bool
 |[],_ => false
 |k::r,i => bif Nat.beq k i then true else zhg r i
structure Blk(A:Alg) where
 num:A.N
 ty:TypeId
 cells:List (Sc A)
abbrev Ent(A:Alg):=SL A×Option (Nat×Bool)
structure St(A:Alg) where
 ov:List (Nat×Option (Ent A))
 bl:List (Nat×Blk A)
 nx:Nat
 anchor:A.W
 ax:Nat
 dirty:List Nat
structure Cfg where
 wrap:List Nat:=[]
 pub:List Nat:=[]
 muts:List Nat:=[]
 names:Array String:=#[]
 orders:List (Nat×List Nat):=[]
 joins:List (Nat×List Nat):=[]
 N:Nat
structure Ro(A:Alg) where
 sl:List (Nat×SL A)
 bl:List (Nat×Blk A)
def Ro.get(ro:Ro A)(st:St A)(i:Nat):Option (Ent A) :=
 match zdD st.ov i with
 |some e => e
 |none => (zdD ro.sl i).map fun v => (v,none)
def Ro.blk(ro:Ro A)(st:St A)(j:Nat):Option (Blk A) :=
 match zdD st.bl j with
 |some b => some b
 |none => zdD ro.bl j
def Ro.dn(ro:Ro A)(st:St A):List A.N :=
 st.dirty.filterMap fun j=>(ro.blk st j).map (·.num)
def Ro.nums(ro:Ro A)(st:St A):List A.N :=
 (List.range st.nx).filterMap fun j=>(ro.blk st j).map (·.num)
def shOf(P:Program)(t:TypeId):Sh :=
 match P.underlying t with
 |some (.int k) => .int k
 |some .bool => .bool
 |some .string => .str
 |some (.slice _) => .slc
 |some (.pointer _) => .ptr
 |_ => .val
def zda(P:Program)(t:TypeId):Bool :=
 match P.underlying t with
 |some (.struct _)|some (.array _ _) => true
 |_ => false
def zvV(P:Program):Nat->TypeId->List Sh
 |0,_ => []
 |d+1,t =>
  match P.underlying t with
  |some (.struct fs) => fs.toList.flatMap fun f => zvV P d f.type
  |some (.array n e) => (List.replicate n (zvV P d e)).flatten
  |_ => [shOf P t]
def ofValue:Value->Sc A
 |.int k n => .intc k n
 |.bool b => .bool (.lit b)
 |.string s => .str (A.sLit s)
 |.slice none 0 0 => .slc A.pNil (A.nLit 0) (A.nLit 0)
 |.pointer none => .ptr A.pNil
 |v => .val (A.vLit v)
def zjI:Value->SV A
 |.agg cs => .agg (cs.toList.map ofValue)
 |v => .sc (ofValue v)
def zn2(P:Program)(t:TypeId):Option (SV A) :=
 match (P.info? t).bind (·.zero) with
 |some z => some (zjI z)
 |none => none
def Sc.asI:Sc A->Option (IntKind×A.I)
 |.int k n => some (k,n)
 |.intc k n => some (k,A.iLit n)
 |_ => none
def kEq:IntKind->IntKind->Bool
 |.i8,.i8|.i16,.i16|.i32,.i32|.i64,.i64|.u8,.u8|.u16,.u16|.u32,.u32|.u64,.u64 => true
 |_,_ => false
def znI:List A.O->A.O->A.O
 |[],k => k
 |o::r,k => A.oAnd o (znI r k)
def zoI(ro:Ro A)(st:St A)(ok:Option (Nat×Bool)->Bool):Operand->Option (SL A)
 |.const v => some (.one (zjI v))
 |.func f => some (.one (.sc (.fn f [])))
 |.global g => some (.one (.sc (.ptr (A.pAt (A.nLit g) 0))))
 |.tmp t =>
  match ro.get st t with
  |some (v,key) => bif ok key then some v else none
  |none => none
def one?:Option (SL A)->Option (SV A)
 |some (.one v) => some v
 |_ => none
def sc?:Option (SL A)->Option (Sc A)
 |some (.one (.sc x)) => some x
 |_ => none
def zs1:Sc A->List A.O
 | .intc _ n => bif n == 0 then [A.oFail "zero"] else []
 |.int _ n => [A.oNe0 n]
 | _ => [A.oFail "zero"]
def zDw:Sc A->List A.O
 | .intc _ n => bif decide (n < 0) then [A.oFail "negative"] else []
 |.int _ n => [A.oNonneg n]
 | _ => [A.oFail "negative"]
def zHS(op:Cmp)(x y:Int):Bool :=
 match op with
 |.eql => decide (x=y)|.neq => !decide (x=y)|.lss => decide (x<y)|.leq => decide (x<=y)|.gtr => decide (y<x)|.geq => decide (y<=x)
def znJ(w:Bool)(op:BinOp)(k:IntKind)(x y:A.I)(sy:Sc A):Option (List A.O×Sc A) :=
 match zv1 op with
 |some c => some ([],.bool (.cmp c x y))
 |none =>
  match op with
  |.add|.sub|.mul => some (bif w then [] else [A.oRange k (A.iBin op k false x y)],.int k (A.iBin op k w x y))
  |.and|.or|.xor|.andNot => some ([],.int k (A.iBin op k true x y))
  |.quo => some (zs1 sy++(bif w then [] else [A.oRange k (A.iBin op k false x y)]),.int k (A.iBin op k w x y))
  |.rem => some (zs1 sy,.int k (A.iBin op k true x y))
  |_ => none
def beEq(eq:Bool)(x y:BE A):BE A :=
 match x,y with
 |.lit b,y => bif b==eq then y else y.neg
 |x,.lit b => bif b==eq then x else x.neg
 |x,y => bif eq then .or (.and x y) (.and x.neg y.neg) else .or (.and x y.neg) (.and x.neg y)
def zJG:List (Sc A)->List (Sc A)->Option (BE A)
 |[],[] => some (.lit true)
 |x::r,y::s =>
  let h:Option (BE A):=match x,y with
   |.bool a,.bool b => some (beEq true a b)
   |.str a,.str b => some (.scmp .eql a b)
   |x,y => match x.asI,y.asI with
    |some (k,a),some (k',b) => bif kEq k k' then some (.cmp .eql a b) else none
    |_,_ => none
  match h,zJG r s with
  |some a,some b => some (a.mkAnd b)
  |_,_ => none
 |_,_ => none
def zgw:BinOp->Bool
 |.shl|.shr => true
 |_ => false
def zp8(op:BinOp)(x y:Sc A):Option (List A.O×Sc A) :=
 match x.asI with
 |some (k,a) => match y.asI with
  |some (_,b) => some (zDw y,.int k (A.iBin op k true a b))
  |none => none
 |none => none
def zyT(op:BinOp)(a b:BE A):Option (List A.O×Sc A) :=
 match op with
 |.eql => some ([],.bool (beEq true a b))
 |.neq => some ([],.bool (beEq false a b))
 |_ => none
def zHl(op:BinOp)(a b:A.S):Option (List A.O×Sc A) :=
 match zv1 op with
 |some c => some ([],.bool (.scmp c a b))
 |none => match op with
  |.add => some ([A.oCat a b],.str (A.sCat a b))
  |_ => none
def zGz(w:Bool)(op:BinOp)(k:IntKind)(a b:Int):Option (List A.O×Sc A) :=
 match zv1 op with
 |some c => some ([],.bool (.lit (zHS c a b)))
 |none => znJ w op k (A.iLit a) (A.iLit b) (.intc k b)
def zxl(w:Bool)(op:BinOp)(x y:Sc A):Option (List A.O×Sc A) :=
 match x.asI with
 |some (k,a) => match y.asI with
  |some (k',b) => bif kEq k k' then znJ w op k a b y else none
  |none => none
 |none => none
def zue(w:Bool)(op:BinOp)(x y:Sc A):Option (List A.O×Sc A) :=
 bif zgw op then zp8 op x y else
 match x with
 |.bool a => match y with|.bool b => zyT op a b|_ => none
 |.str a => match y with|.str b => zHl op a b|_ => none
 |.intc k a => match y with|.intc k' b => (bif kEq k k' then zGz w op k a b else none)|y => zxl w op (.intc k a) y
 |x => zxl w op x y
def zsK:Sc A->Bool
 |.bool _ => true
 |_ => false
def zxm(P:Program)(t:TypeId):Bool :=
 match P.underlying t with
 |some .bool => true
 |_ => false
def zDg:Operand->Bool
 |.const (.slice none 0 0) => true
 |.const (.pointer none) => true
 |_ => false
def zcd:Sc A->Bool
 |.loc .. => false
 |_ => true
def zaY(v:SV A):Bool:=v.cells.all zcd
def znU:List (Sc A)->List A.O
 |[] => []
 |.val v::r => A.oOne v::znU r
 |_::r => znU r
def zAW(P:Program)(op:BinOp)(t:TypeId)(x:Sc A):Option (List A.O×Sc A) :=
 match op,x,P.underlying t with
 |.eql,.slc p _ _,some (.slice _) => some ([],.bool (.nilp true p))
 |.neq,.slc p _ _,some (.slice _) => some ([],.bool (.nilp false p))
 |.eql,.ptr p,some (.pointer _) => some ([],.bool (.nilp true p))
 |.neq,.ptr p,some (.pointer _) => some ([],.bool (.nilp false p))
 |_,_,_ => none
def zd3{α:Type}:Nat->List α->List α
 |0,_ => []
 |n+1,x::r => x::zd3 n r
 |_+1,[] => []
def zbB{α:Type}:Nat->List α->List α
 |0,l => l
 |n+1,_::r => zbB n r
 |_+1,[] => []
def zjF:Operand->Bool
 |.const (.slice none 0 0) => true
 |_ => false
def zaE{α:Type}:List α->Nat->List α->List α
 |l,_,[] => l
 |l,i,x::r => zaE (l.set i x) (i+1) r
def zgv(P:Program)(t:TypeId)(f:Nat):Option (Nat×TypeId) :=
 match P.underlying t with
 |some (.struct fs) => match fs[f]? with
  |some x => some (x.offset,x.type)
  |none => none
 |_ => none
def zje(P:Program)(t:TypeId)(cs:List (Sc A))(off:Nat):Option (SV A) :=
 match P.underlying t with
 |none => none
 |some _ =>
  bif zda P t then some (.agg (zd3 (P.cellsOf t) (zbB off cs)))
  else match zbB off cs with
   |x::_ => some (.sc x)
   |[] => none
def zdS(place:Nat->Option (Nat×Nat)):List (Sc A)->List (Nat×SV A)->Option (List (Sc A))
 |cs,[] => some cs
 |cs,(i,v)::r =>
  match place i with
  |some (off,size) => bif Nat.beq v.cells.length size&&Nat.ble (off+size) cs.length then zdS place (zaE cs off v.cells) r else none
  |none => none
def zo3(P:Program)(t:TypeId)(parts:List (Nat×SV A)):Option (SV A) :=
 match (zn2 P t:Option (SV A)) with
 |some (.agg z) =>
  match P.underlying t with
  |some (.struct fs) => bif !(fs.toList.all fun f => (P.info? f.type).isSome) then none else (zdS (fun i => (zgv P t i).map fun x => (x.1,P.cellsOf x.2)) z parts).map .agg
  |some (.array _ e) => bif !(P.info? e).isSome then none else (zdS (fun i => some (i*P.cellsOf e,P.cellsOf e)) z parts).map .agg
  |_ => none
 |_ => none
def zkP(rd:Operand->Option (SL A)):List (Nat×Operand)->Option (List (Nat×SV A))
 |[] => some []
 |(i,x)::r =>
  match one? (rd x),zkP rd r with
  |some v,some l => some ((i,v)::l)
  |_,_ => none
def znc(rd:Operand->Option (SL A)):List Operand->Option (List (SV A))
 |[] => some []
 |x::r =>
  match one? (rd x),znc rd r with
  |some v,some l => some (v::l)
  |_,_ => none
def zi2(f:A.I->A.I->A.I)(k:IntKind):A.I->List (SV A)->Option (Sc A)
 |a,[] => some (.int k a)
 |a,.sc x::r =>
  match x.asI with
  |some (k',b) => bif kEq k k' then zi2 f k (f a b) r else none
  |none => none
 |_,.agg _::_ => none
def zmP(x:Sc A)(y:Operand):Bool :=
 match x with
 |.slc .. => zDg y&&zjF y
 |.ptr .. => zDg y&&!zjF y
 |_ => false
def zfv(rd:Operand->Option (SL A))(x:Option Operand)(dflt:A.I):Option A.I :=
 match x with
 |none => some dflt
 |some y => (sc? (rd y)).bind fun a => a.asI.map (·.2)
def wrapAt(cfg:Cfg)(o:Oper):Bool :=
 match o.dst with
 |some d => zhg cfg.wrap d
 |none => false
def zpw(r:Option (List A.O×Sc A)):Option (List A.O×SL A) :=
 match r with
 |some (os,x) => some (os,.one (.sc x))
 |none => none
def zbT(P:Program)(cfg:Cfg)(ro:Ro A)(st:St A)(rd:Operand->Option (SL A))(o:Oper):Option (List A.O×SL A) :=
 let w:=wrapAt cfg o
 let ret (x:Sc A):Option (List A.O×SL A):=some ([],.one (.sc x))
 match o.op with
 |.move x|.assign x => match rd x with|some v => some ([],v)|none => none
 |.binOp op t x y _ =>
  match sc? (rd x) with
  |none => none
  |some a =>
   bif zmP a y then zpw (zAW P op t a)
   else bif zsK a&&!zxm P t then none else match sc? (rd y) with|some b=>zpw (zue w op a b)|none=>none
 |.unOp op _ x =>
  match op,sc? (rd x) with
  |.not,some (.bool b) => ret (.bool b.neg)
  |.neg,some a => match a.asI with
   |some (k,n) => zpw (znJ w .sub k (A.iLit 0) n a)
   |none => none
  |.xor,some a => match a.asI with
   |some (k,n) => ret (.int k (A.iBin .xor k true (A.iLit (if k.signed then -1 else k.max)) n))
   |none => none
  |_,_ => none
 |.convert src dst x =>
  match sc? (rd x),P.underlying dst,P.underlying src with
  |some (.str s),some .string,some .string => ret (.str s)
  |some (.intc _ n),some (.int k),some _ => ret (.intc k (k.wrap n))
  |some (.int _ n),some (.int k),some _ => bif w then ret (.int k (A.iConv k n)) else some ([A.oRange k n],.one (.sc (.int k n)))
  |_,_,_ => none
 |.extract x i =>
  match rd x with
  |some (.tup l) => match zbB i l with|v::_ => some ([],.one v)|[] => none
  |_ => none
 |.field t x f =>
  match rd x,zgv P t f with
  |some (.one (.agg cs)),some (off,u) => match zje P u cs off with|some v => some ([],.one v)|none => none
  |_,_ => none
 |.build t parts =>
  match zkP rd parts.toList with
  |some ps => bif !(ps.all fun x => zaY x.2) then none else match zo3 P t ps with|some v => some (ps.flatMap fun x => znU x.2.cells,.one v)|none => none
  |none => none
 |.nilCheck x =>
  match sc? (rd x) with
  |some (.ptr p) => some ([A.oSome p],.one (.sc (.ptr p)))
  |some (.loc j b off) => ret (.loc j b off)
  |_ => none
 |.fieldAddr t x f =>
  match sc? (rd x),zgv P t f with
  |some a,some (off,u) =>
   bif Nat.beq (P.cellsOf u) 0 then none else
   match a with
   |.loc j b o' => ret (.loc j b (o'+off))
   |.ptr p => some ([A.oSome p],.one (.sc (.ptr (A.pAdd p off))))
   |_ => none
  |_,_ => none
 |.indexAddr t x ix =>
  match sc? (rd x),sc? (rd ix),P.underlying t with
  |some (.slc p l _),some i,some (.slice e) =>
   bif !(P.underlying e).isSome then none else match i.asI with
   |some (_,n) => some ([A.oSome p,A.oLe (A.iLit 0) n,A.oLt n (A.iN l)],.one (.sc (.ptr (A.pIdx p n (P.cellsOf e)))))
   |none => none
  |some (.ptr p),some i,some (.array n e) =>
   bif !(P.underlying e).isSome then none else match i.asI with
   |some (_,m) => some ([A.oSome p,A.oLe (A.iLit 0) m,A.oLt m (A.iLit n)],.one (.sc (.ptr (A.pIdx p m (P.cellsOf e)))))
   |none => none
  |some (.loc j b off),some (.intc _ m),some (.array n e) =>
   bif (P.underlying e).isSome&&decide (0<=m)&&decide (m<(n:Int)) then ret (.loc j b (off+m.toNat*P.cellsOf e)) else none
  |_,_,_ => none
 |.index t x ix =>
  match sc? (rd x),sc? (rd ix),P.underlying t with
  |some (.str s),some i,some .string =>
   match i.asI with
   |some (_,n) => some ([A.oLe (A.iLit 0) n,A.oLt n (A.iLen s)],.one (.sc (.int .u8 (A.iAt s n))))
   |none => none
  |_,_,_ => none
 |.slice t x lo hi mx =>
  match mx with
  |some z =>
   bif hi.isNone then none else
   match sc? (rd x),P.underlying t with
   |some (.slc p len cap),some (.slice e) =>
    bif !(P.underlying e).isSome then none else
    match zfv rd lo (A.iLit 0),zfv rd hi (A.iN len),zfv rd (some z) (A.iN cap) with
    |some l,some h,some m => some ([A.oLe (A.iLit 0) l,A.oLe l h,A.oLe h m,A.oLe m (A.iN cap)],
     .one (.sc (.slc (A.pCut p (A.nI m) l (P.cellsOf e)) (A.nI (A.iBin .sub .i64 false h l)) (A.nSub (A.nI m) l))))
    |_,_,_ => none
   |_,_ => none
  |none =>
   match sc? (rd x),P.underlying t with
   |some (.str s),some .string =>
    match zfv rd lo (A.iLit 0),zfv rd hi (A.iLen s) with
    |some l,some h => some ([A.oLe (A.iLit 0) l,A.oLe l h,A.oLe h (A.iLen s)],.one (.sc (.str (A.sSub s l h))))
    |_,_ => none
   |some (.slc p len cap),some (.slice e) =>
    bif !(P.underlying e).isSome then none else
    match zfv rd lo (A.iLit 0),zfv rd hi (A.iN len) with
    |some l,some h => some ([A.oLe (A.iLit 0) l,A.oLe l h,A.oLe h (A.iN cap)],
     .one (.sc (.slc (A.pCut p cap l (P.cellsOf e)) (A.nI (A.iBin .sub .i64 false h l)) (A.nSub cap l))))
    |_,_ => none
   |_,_ => none
 |.load t x =>
  match sc? (rd x) with
  |some (.loc j _ off) =>
   match ro.blk st j with
   |some b => match zje P t b.cells off with
    |some v => bif Nat.beq v.cells.length (P.cellsOf t) then some ([],.one v) else none
    |none => none
   |none => none
  |_ => none
 |.call { callee:=.builtin .len,args,argTypes } =>
  match args.toList,argTypes.toList with
  |[x],[t] => match sc? (rd x),P.underlying t with
   |some (.slc _ l _),some (.slice _) => ret (.int .i64 (A.iN l))
   |some (.str s),some .string => ret (.int .i64 (A.iLen s))
   |_,_ => none
  |_,_ => none
 |.call { callee:=.builtin .cap,args,argTypes } =>
  match args.toList,argTypes.toList with
  |[x],[t] => match sc? (rd x),P.underlying t with
   |some (.slc _ _ c),some (.slice _) => ret (.int .i64 (A.iN c))
   |_,_ => none
  |_,_ => none
 |.call { callee:=.builtin .min,args,.. } =>
  match znc rd args.toList with
  |some (.sc x::r) => match x.asI with
   |some (k,a) => zpw ((zi2 A.iMin k a r).map fun y => ([],y))
   |none => none
  |_ => none
 |.call { callee:=.builtin .max,args,.. } =>
  match znc rd args.toList with
  |some (.sc x::r) => match x.asI with
   |some (k,a) => zpw ((zi2 A.iMax k a r).map fun y => ([],y))
   |none => none
  |_ => none
 |.makeFunc (.func f) first captured =>
  match first.toList,znc rd captured.toList with
  |[],some l => bif l.all zaY then ret (.fn f (l.map SV.toV)) else none
  |_,_ => none
 |_ => none
inductive KS where
 |yes|no|sym (j:Nat)|bad
def ziB(ops:Array Oper)(j:Nat):Option Nat :=
 match ops[j]? with
 |some o => o.dst
 |none => none
def ztj(f:Nat×Bool->KS):Option (Nat×Bool)->KS
 |none => .yes
 |some k => f k
def zgx(ops:Array Oper)(ro:Ro A)(st:St A):Nat->Nat×Bool->KS
 |0,_ => .bad
 |d+1,(j,want) =>
  match ziB ops j with
  |none => .bad
  |some dj =>
   match ro.get st dj with
   |none => .bad
   |some (v,key) =>
    match ztj (zgx ops ro st d) key with
    |.yes =>
     match v with
     |.one (.sc (.bool (.lit c))) => bif c==want then .yes else .no
     |.one (.sc (.bool _)) => .sym j
     |.undef => .no
     |_ => .bad
    |.no => .no
    |.sym j0 => .sym j0
    |.bad => .bad
def zDb(a b:Nat×Bool):Bool:=Nat.beq a.1 b.1&&a.2==b.2
def zBg(ops:Array Oper)(ro:Ro A)(st:St A)(a:Nat×Bool):Nat->Nat×Bool->Bool
 |0,_ => false
 |d+1,b =>
  bif zDb a b then true else
  match ziB ops b.1 with
  |none => false
  |some dj =>
   match ro.get st dj with
   |some (_,some k) => zBg ops ro st a d k
   |_ => false
def zjR(ops:Array Oper)(ro:Ro A)(st:St A)(cur:Option (Nat×Bool)):Option (Nat×Bool)->Bool
 |none => true
 |some k =>
  match zgx ops ro st 50 k with
  |.yes => true
  |_ => match cur with
   |some c => zBg ops ro st k 50 c
   |none => false
def impB(b:BE A)(want:Bool)(k:A.O):A.O :=
 match b with
 |.lit _ => k
 |b => A.oImp (bif want then b else b.neg).prop k
def zuH(ops:Array Oper)(ro:Ro A)(st:St A):Nat->Nat×Bool->A.O->A.O
 |0,_,k => k
 |d+1,(j,want),k =>
  match ziB ops j with
  |none => k
  |some dj =>
   match ro.get st dj with
   |some (.one (.sc (.bool b)),key) =>
    match key with
    |none => impB b want k
    |some k' => zuH ops ro st d k' (impB b want k)
   |_ => k
def zoG(b x y:BE A):BE A :=
 match x,y with
 |.lit true,y => b.mkOr y
 |.lit false,y => b.neg.mkAnd y
 |x,.lit false => b.mkAnd x
 |x,.lit true => b.neg.mkOr x
 |x,y => (b.mkAnd x).mkOr (b.neg.mkAnd y)
def zxO(ops:Array Oper)(t:Nat):Nat->Option Nat
 |0 => none
 |i+1 => match ziB ops i with
  |some d => bif Nat.beq d t then some i else zxO ops t i
  |none => zxO ops t i
def znX(ops:Array Oper)(ro:Ro A)(st:St A)(cur:Option (Nat×Bool))(c a b:Operand):Option (SL A) :=
 match sc? (zoI ro st (zjR ops ro st cur) c) with
 |some (.bool (.lit true)) => zoI ro st (zjR ops ro st cur) a
 |some (.bool (.lit false)) => zoI ro st (zjR ops ro st cur) b
 |some (.bool t) =>
  let j:Option Nat:=match c with|.tmp x=>zxO ops x ops.size|_=>none
  let side (want:Bool) (x:Operand):Option (Sc A) :=
   match j with
   |some j => sc? (zoI ro st (fun key => zjR ops ro st cur key||(match key with|some k => zDb k (j,want)|none => false)) x)
   |none => sc? (zoI ro st (zjR ops ro st cur) x)
  match side true a,side false b with
  |some (.bool x),some (.bool y) => some (.one (.sc (.bool (zoG t x y))))
  |_,_ => none
 |_ => none
def St.put(st:St A)(dst:Option Tmp)(e:Option (Ent A)):St A :=
 match dst with
 |some d => { st with ov:=zto st.ov d e }
 |none => st
def zw9(ops:Array Oper)(st:St A)(dst:Option Tmp):Bool :=
 match dst with
 |none => true
 |some d => st.ov.all fun x => match x.2 with
  |some (_,some (j,_)) => match ziB ops j with
   |some e => !Nat.beq d e
   |none => true
  |_ => true
def zAY(cfg:Cfg)(ops:Array Oper)(st:St A)(dst:Option Tmp):Bool :=
 zw9 ops st dst&&match dst with|some d=>Nat.blt d cfg.N|none=>true
def zsL:Operand->Bool
 |.const _ => true
 |_ => false
def exSh(nm:String):Sh->(Sc A->A.O)->A.O
 |.int k,f => A.exI nm fun x => f (.int k x)
 |.bool,f => A.exB nm fun b => f (.bool (.atom true b))
 |.str,f => A.exS nm fun s => f (.str s)
 | .slc, f => A.exP nm fun p => A.exN (nm ++ "l") fun l => A.exN (nm ++ "c") fun c => f (.slc p l c)
 |.ptr,f => A.exP nm fun p => f (.ptr p)
 |.val,f => A.exV nm fun v => f (.val v)
def zJM(nm:String):Nat->List Sh->(List (Sc A)->A.O)->A.O
 |_,[],f => f []
 | i, s :: r, f => exSh (nm ++ "_" ++ toString i) s fun x => zJM nm (i + 1) r fun l => f (x :: l)
def exTy(P:Program)(nm:String)(t:TypeId)(f:SV A->A.O):A.O :=
 bif zda P t then zJM nm 0 (zvV P 6 t) fun l=>f (.agg l)
 else exSh nm (shOf P t) fun x=>f (.sc x)
def zF7(P:Program):List (String×TypeId)->(List (SV A)->A.O)->A.O
 |[],f => f []
 |(nm,t)::r,f => exTy P nm t fun v => zF7 P r fun l => f (v::l)
def zHe:Sh->Bool
 |.int _|.bool|.str => true
 |_ => false
def zbF(l:List (SV A)):SL A :=
 match l with
 |[v] => .one v
 |l => .tup l
def zId(cfg:Cfg)(dst:Option Tmp):String :=
 match dst with
 | some d => match cfg.names[d]? with | some n => bif n == "" then "t" else n | none => "t"
 | none => "t"
def St.moved(st:St A)(w:A.W):St A:={ st with anchor:=w,ax:=st.nx,dirty:=[] }
def zsP(nums:List A.N)(w1 w2:A.W)(k:A.O):A.O :=
 match nums with
 |[] => k
 |nums => A.oAnd (A.oKept nums w1 w2) k
def zf8(P:Program)(ro:Ro A)(st:St A)(nm:String)(ext:Bool)(rts:List TypeId)
  (call:A.W->(A.V->A.W->A.O)->A.O) (k:SL A->St A->A.O):A.O :=
 let nums:=ro.nums st
 let moves:=!(rts.all fun t=>(bif zda P t then zvV P 6 t else [shOf P t]).all zHe)
 let fin (v:A.V) (st:St A):=zF7 P (rts.map fun t=>(nm,t)) fun l =>
  A.oAnd (A.oEqV v (zbF l).toV) (k (zbF l) st)
 A.allExt (ro.dn st) (bif ext&&!moves then [] else nums) st.anchor fun w1=>call w1 fun v w2 =>
  bif ext then A.oAnd (A.oExt w1 w2) (fin v (bif moves then st.moved w2 else st))
  else zsP nums w1 w2 (fin v (st.moved w2))
def zx0(P:Program)(ro:Ro A)(st:St A)(nm:String)(rts:Option (List TypeId))(m:MC A.V)(k:SL A->St A->A.O):A.O :=
 let nums:=ro.nums st
 A.allExt (ro.dn st) nums st.anchor fun w1=>A.oRun m w1 fun v w2 =>
  let fin:=match rts with
   |some l => zF7 P (l.map fun t => (nm,t)) fun l => A.oAnd (A.oEqV v (zbF l).toV) (k (zbF l) (st.moved w2))
   |none => k .undef (st.moved w2)
  zsP nums w1 w2 fin
def zzy(dn:List A.N)(w:A.W)(nm:String)(p:A.P):Nat->List Sh->(List (Sc A)->A.O)->A.O
 |_,[],f => f []
 |i,s::r,f => exSh nm s fun x => A.oAnd (A.oCell dn w p i x.toV) (zzy dn w nm p (i+1) r fun l => f (x::l))
def zl4(P:Program)(t:TypeId):List TypeId :=
 match P.underlying t with
 |some (.tuple ts) => ts.toList
 |_ => [t]
def zK8(r:Option (SL A)):Option (List A.O×SL A) :=
 match r with
 |some v => some ([],v)
 |none => none
def zHp(P:Program)(cfg:Cfg)(ops:Array Oper)(ro:Ro A)(st:St A)(o:Oper)(g:Nat×Bool):Option (List A.O×SL A) :=
 match o.op with
 |.pick c a b => zK8 (znX ops ro st (some g) c a b)
 |_ => zbT P cfg ro st (zoI ro st (zjR ops ro st (some g))) o
def zIg(ops:Array Oper)(dst:Option Tmp)(g:Nat×Bool):Bool :=
 match dst,ziB ops g.1 with
 |some d,some e => !Nat.beq d e
 |_,_ => true
def zGI(P:Program)(cfg:Cfg)(ops:Array Oper)(ro:Ro A)(st:St A)(o:Oper):Option (List A.O×SL A) :=
 match o.op with
 |.pick c a b => zK8 (znX ops ro st none c a b)
 |_ => zbT P cfg ro st (zoI ro st (zjR ops ro st none)) o
def zsY(cfg:Cfg)(ro:Ro A)(st:St A)(o:Oper)(t:TypeId)(v:SV A)(put:SL A->St A->A.O):A.O :=
 match o.dst with
 | none => A.oFail ("box " ++ o.pos)
 |some d =>
  bif !zaY v then A.oFail ("escapes " ++ o.pos) else
  bif zhg cfg.pub d then
   A.allExt (ro.dn st) (ro.nums st) st.anchor fun w1=>A.oNew w1 t (v.cells.map Sc.toV) fun p w2=>put (.one (.sc (.ptr p))) (st.moved w2)
  else
   znI (znU v.cells) (A.allNum st.anchor fun b =>
    put (.one (.sc (.loc st.nx b 0))) { st with bl:=zto st.bl st.nx ⟨b,t,v.cells⟩,nx:=st.nx+1 })
def zsS(P:Program)(ro:Ro A)(st:St A)(nm:String)(o:Oper)(t:TypeId)(p:A.P)(put:SL A->St A->A.O):A.O :=
 match P.underlying t with
 | none => A.oFail ("load " ++ o.pos)
 |some _ =>
  bif zda P t&&Nat.ble 40 (P.cellsOf t) then
   A.exV nm fun v=>A.oAnd (A.oCells (ro.dn st) st.anchor p (P.cellsOf t) v) (put (.one (.sc (.val v))) st)
  else bif zda P t then
   A.oAnd (A.oSome p) (zzy (ro.dn st) st.anchor nm p 0 (zvV P 6 t) fun l =>
    bif Nat.beq l.length (P.cellsOf t) then put (.one (.agg l)) st else A.oFail ("load size " ++ o.pos))
  else zzy (ro.dn st) st.anchor nm p 0 [shOf P t] fun l =>
   match l with
   |[x] => put (.one (.sc x)) st
   | _ => A.oFail "load"
def zst(st:St A)(j:Nat):List Nat:=bif Nat.blt j st.ax&&!zhg st.dirty j then j::st.dirty else st.dirty
def zqb(P:Program)(ro:Ro A)(st:St A)(o:Oper)(t:TypeId)(x:Sc A)(v:SV A)(put:SL A->St A->A.O):A.O :=
 bif !(Nat.beq v.cells.length (P.cellsOf t) && zaY v && !(Nat.beq (P.cellsOf t) 0)) then A.oFail ("store size " ++ o.pos) else
 match x with
 |.loc j _ off =>
  match ro.blk st j with
  |some b =>
   bif Nat.ble (off+v.cells.length) b.cells.length then
    znI (znU v.cells) (put .undef { st with
     bl:=zto st.bl j { b with cells:=zaE b.cells off v.cells }
     dirty:=zst st j })
   else A.oFail ("store size " ++ o.pos)
  | none => A.oFail ("store " ++ o.pos)
 |.ptr p => A.oStore st.anchor p (v.cells.map Sc.toV) (ro.nums st) fun w2 => put .undef { st with anchor:=w2 }
 | _ => A.oFail ("store " ++ o.pos)
def zCd(P:Program)(cfg:Cfg)(ro:Ro A)(st:St A)(rd:Operand->Option (SL A))(nm:String)(o:Oper)(f:Operand)(args:List Operand)(put:SL A->St A->A.O):A.O :=
 match one? (rd f),znc rd args with
 |some (.sc (.fn f cap)),some l =>
  bif l.all zaY then zf8 P ro st nm (!zhg cfg.muts f) (zl4 P o.type) (fun w kk=>A.oFn f (l.map SV.toV++cap) w kk) put
  else A.oFail ("escapes " ++ o.pos)
 |some (.sc (.val v)),some l =>
  bif l.all zaY then zf8 P ro st nm (!zhg cfg.muts 1000000) (zl4 P o.type) (fun w kk=>bif zhg cfg.muts 2000000 then A.oFnB v (l.map SV.toV) w kk else A.oFnV v (l.map SV.toV) w kk) put
  else A.oFail ("escapes " ++ o.pos)
 | _, _ => A.oFail ("call " ++ o.pos)
def zJZ(P:Program)(cfg:Cfg)(ro:Ro A)(st:St A)(rd:Operand->Option (SL A))(nm:String)(o:Oper)(r:Operand)(m:String)(args:List Operand)(put:SL A->St A->A.O):A.O :=
 match one? (rd r),znc rd args with
 |some v,some l =>
  bif zaY v&&l.all zaY then zf8 P ro st nm false (zl4 P o.type) (fun w kk=>A.oInv m v.toV (l.map SV.toV) w kk) put
  else A.oFail ("escapes " ++ o.pos)
 | _, _ => A.oFail ("invoke " ++ o.pos)
def zod(rd:Operand->Option (SL A))(x:Operand):Option A.V :=
 match one? (rd x) with
 |some v => bif zaY v then some v.toV else none
 |none => none
def zLh(rd:Operand->Option (SL A)):Option Operand->Option (Option A.V)
 |none => some none
 |some x => (zod rd x).map some
def zpE(P:Program)(rd:Operand->Option (SL A))(o:Oper):Option (MC A.V) :=
 match o.op with
 |.call { callee:=.builtin b,args,argTypes } =>
  match znc rd args.toList with
  |some l => bif !(l.all zaY) then none else
   match b with
   |.append => some (.append argTypes o.type (l.map SV.toV))
   |.copy => some (.copy argTypes o.type (l.map SV.toV))
   |.delete => some (.delete argTypes o.type (l.map SV.toV))
   |.clear => some (.clear argTypes o.type (l.map SV.toV))
   |.len => some (.len argTypes o.type (l.map SV.toV))
   |_ => none
  |none => none
 |.makeSlice t l c => (zod rd l).bind fun x => (zod rd c).map fun y => .makeSlice t x y
 |.buildSlice t n parts => (zkP rd parts.toList).bind fun l => bif l.all fun x => zaY x.2 then some (.buildSlice t n (l.map fun x => (x.1,x.2.toV))) else none
 |.lookup t m x ok => (zod rd m).bind fun a => (zod rd x).map fun b => .lookup t a b ok
 |.mapUpdate t m x y => (zod rd m).bind fun a => (zod rd x).bind fun b => (zod rd y).map fun c => .mapUpdate t a b c
 |.insert t m x y => (zod rd m).bind fun a => (zod rd x).bind fun b => (zod rd y).map fun c => .mapUpdate t a b c
 |.makeMap t none => some (.makeMap t)
 |.range t x => (zod rd x).map fun a => .range t a
 |.next x s => (zod rd x).map fun a => .next a s o.type
 |.entry x => (zod rd x).map fun a => .entry a
 |.extract x i => (zod rd x).map fun a => .extract a i
 |.convert src dst x => (zod rd x).map fun a => .convert src dst a
 |.binOp op t x y _ => (zod rd x).bind fun a => (zod rd y).map fun b => .eq op t (zsL x) (zsL y) a b
 |.makeInterface t x => (zod rd x).map fun a => .makeInterface t a
 |.typeAssert x t u ok => (zod rd x).map fun a => .typeAssert a t u ok
 |.index t x i => (zod rd x).bind fun a => (zod rd i).map fun b => .index t a b
 |.slice t x lo hi mx => (zod rd x).bind fun a => (zLh rd lo).bind fun b => (zLh rd hi).bind fun c => (zLh rd mx).map fun d => .slice t a b c d
 |_ => none
def zbH(o:Oper):Bool :=
 match o.op with
 |.mapUpdate ..|.insert .. => true
 |_ => false
def zl0(o:Oper):Bool :=
 match o.op with
 |.makeSlice ..|.buildSlice ..|.lookup ..|.makeMap ..|.convert ..|.binOp ..|.index ..|.makeInterface ..|.typeAssert ..|.entry ..|.extract .. => true
 |.call { callee:=.builtin .len,.. } => true
 |_ => false
def mcTy(P:Program)(o:Oper):TypeId :=
 match o.op with
 |.range ..|.next ..|.entry .. => P.types.size
 |_ => o.type
def zDk(P:Program)(ro:Ro A)(st:St A)(rd:Operand->Option (SL A))(nm:String)(o:Oper)(put:SL A->St A->A.O):A.O :=
 match zpE P rd o with
 |some m => bif zl0 o&&!zbH o then zf8 P ro st nm true (zl4 P (mcTy P o)) (fun w kk => A.oRun m w kk) put
  else zx0 P ro st nm (bif zbH o then none else some (zl4 P (mcTy P o))) m put
 | none => A.oFail ("op " ++ o.pos)
def zqH(P:Program)(cfg:Cfg)(ro:Ro A)(st:St A)(rd:Operand->Option (SL A))(o:Oper)(put:SL A->St A->A.O):A.O :=
 let nm:=zId cfg o.dst
 match o.op with
 | .box t x => match one? (rd x) with | some v => zsY cfg ro st o t v put | none => A.oFail ("box " ++ o.pos)
 | .alloc t => match (zn2 P t : Option (SV A)) with | some v => zsY cfg ro st o t v put | none => A.oFail ("alloc " ++ o.pos)
 | .load t x => match sc? (rd x) with | some (.ptr p) => zsS P ro st nm o t p put | _ => A.oFail ("load " ++ o.pos)
 | .store t x y => match sc? (rd x), one? (rd y) with | some a, some v => zqb P ro st o t a v put | _, _ => A.oFail ("store " ++ o.pos)
 |.call { callee:=.value f,args,.. } => zCd P cfg ro st rd nm o f args.toList put
 |.call { callee:=.invoke r m,args,.. } => zJZ P cfg ro st rd nm o r m args.toList put
 |_ => zDk P ro st rd nm o put
def zza(x:Nat×Option (Ent A)):Nat×Option (Ent A) :=
 match x.2 with
 |some (_,some _) => (x.1,none)
 |_ => x
def zwY(st:St A):St A:={ st with ov:=st.ov.map zza }
inductive Kd where
 |pure|read|soft|hard
 deriving DecidableEq
def Kd.quiet:Kd->Bool
 |.pure|.read => true
 |_ => false
def zA9(cfg:Cfg):Operand->Bool
 |.func g => !zhg cfg.muts g&&!zhg cfg.muts 1000000
 |_ => cfg.muts.isEmpty
def zJQ(P:Program)(t:TypeId):Bool :=
 match P.underlying t with
 |some (.int _)|some .bool => true
 |_ => false
def zxq(P:Program)(cfg:Cfg)(o:Oper):Kd :=
 match o.op with
 |.move _|.assign _|.unOp ..|.extract ..|.field ..|.build ..|.nilCheck ..|.fieldAddr ..|.indexAddr ..|.slice ..|.pick .. => .pure
 |.load .. => .read
 |.binOp _ t _ _ _ => bif zJQ P t||(match P.underlying t with|some .string => true|_ => false) then .pure else .soft
 |.convert s d _ => bif (zJQ P s&&zJQ P d)||(match P.underlying s,P.underlying d with|some .string,some .string => true|_,_ => false) then .pure else .soft
 |.index t _ _ => bif (match P.underlying t with|some .string => true|_ => false) then .pure else .soft
 |.box ..|.alloc .. => .soft
 |.call { callee:=.value f,.. } => bif zA9 cfg f then .soft else .hard
 |.call { callee:=.builtin .min,.. }|.call { callee:=.builtin .max,.. }|.call { callee:=.builtin .cap,.. } => .pure
 |.call { callee:=.builtin .len,argTypes,.. } => bif (match argTypes.toList with|[t] => (match P.underlying t with|some (.slice _)|some .string => true|_ => false)|_ => false) then .pure else .soft
 |.makeFunc .. => .pure
 |_ => bif zl0 o&&!zbH o then .soft else .hard
def dep(md:Region.Mode)(ops:Array Oper):Nat->Nat->Nat->Bool
 |0,_,_ => false
 |n+1,i,j =>
  match ops[i]? with
  |some o => o.after.toList.any fun e => Region.binds md e&&(Nat.beq e.on j||dep md ops n e.on j)
  |none => false
def near(md:Region.Mode)(ops:Array Oper)(i j:Nat):Bool :=
 match ops[i]? with
 |some o => o.after.toList.any fun e => Region.binds md e&&Nat.beq e.on j
 |none => false
def zDH(md:Region.Mode)(ops:Array Oper)(kd:Oper->Kd)(n:Nat)(j i:Nat):Bool :=
 match ops[j]?,ops[i]? with
 |some oj,some oi => !near md ops j i&&((oi.apart ops oj&&(kd oj).quiet&&(decide (kd oj=.pure)||decide (kd oi=.soft)||(kd oi).quiet))||dep md ops n i j)
 |_,_ => false
def zwR(md:Region.Mode)(rem:List Nat)(o:Oper):Bool:=o.after.toList.any fun e=>Region.binds md e&&zhg rem e.on
def zfS(i:Nat):List Nat->List Nat
 |[] => []
 |j::r => bif Nat.beq i j then r else j::zfS i r
inductive DT where
 |stop
 |op (i:Nat) (t:DT)
 |alt (s t:DT)
def DT.chain:List Nat->DT
 |[] => .stop
 |i::r => .op i (chain r)
def DT.heads:DT->List Nat
 |.stop => []
 |.op i _ => [i]
 |.alt s t => s.heads++t.heads
def DT.hasAlt:DT->Bool
 |.stop => false
 |.op _ t => t.hasAlt
 |.alt _ _ => true
def zKq(md:Region.Mode)(ops:Array Oper)(rem:List Nat)(j:Nat):Bool :=
 match ops[j]? with
 |some o => zhg rem j&&!zwR md rem o
 |none => false
def bnd(md:Region.Mode)(ops:Array Oper)(rem:List Nat)(i:Nat):Bool :=
 match ops[i]? with
 |some o => zwR md rem o
 |none => true
def okD(md:Region.Mode)(ops:Array Oper)(kd:Oper->Kd)(n:Nat):Bool->DT->List Nat->Bool
 |f,.stop,rem => !f&&rem.isEmpty
 |f,.op j t,rem => zKq md ops rem j&&(f||(zfS j rem).all fun i => zDH md ops kd n j i)&&okD md ops kd n false t (zfS j rem)
 |f,.alt s t,rem => okD md ops kd n true s rem&&okD md ops kd n true t rem&&(f||rem.all fun i => zhg (s.heads++t.heads) i||bnd md ops rem i)
def zHY(p:Nat->Bool):List Nat->Option Nat
 |[] => none
 |i::r => bif p i then some i else zHY p r
def altOf:List DT->DT
 |[] => .stop
 |[t] => t
 |t::r => .alt t (altOf r)
def zDo(md:Region.Mode)(ops:Array Oper)(kd:Oper->Kd)(n:Nat):Nat->List Nat->DT
 |0,_ => .stop
 |m+1,rem =>
  match zHY (fun j=>zKq md ops rem j&&(zfS j rem).all fun i=>zDH md ops kd n j i) rem with
  |some j => .op j (zDo md ops kd n m (zfS j rem))
  |none => altOf ((rem.filter fun j => zKq md ops rem j).map fun j => .op j (zDo md ops kd n m (zfS j rem)))
def zJx(P:Program)(cfg:Cfg)(ops:Array Oper):Option DT :=
 let t:=zDo .any ops (zxq P cfg) ops.size ops.size (List.range ops.size)
 bif P.follows .mixedOrders&&Region.noSelect ops&&(ops.toList.all fun o=>o.after.toList.all fun e=>Nat.blt e.on ops.size)&&okD .any ops (zxq P cfg) ops.size false t (List.range ops.size) then some t else none
def zfA(o:Oper):Bool :=
 match o.op with
 |.load .. => true
 |_ => false
def loud(P:Program)(cfg:Cfg)(dr:Bool)(o:Oper):Bool:=dr&&(zxq P cfg o).quiet&&!zfA o
def zEk(P:Program)(cfg:Cfg)(dr:Bool)(ops:Array Oper)(ro:Ro A)(st:St A)(o:Oper)(k:St A->A.O):A.O :=
 let put (v:SL A) (st:St A):A.O:=k (st.put o.dst (some (v,none)))
 bif !zAY cfg ops st o.dst then A.oFail ("dst " ++ o.pos) else
 match zGI P cfg ops ro st o with
 |some (obs,v) => znI obs (put v st)
 | none => bif loud P cfg dr o then A.oFail ("loud " ++ o.pos) else zqH P cfg ro st (zoI ro st (zjR ops ro st none)) o put
def zha(P:Program)(cfg:Cfg)(dr:Bool)(ops:Array Oper)(ro:Ro A):Nat->DT->St A->(St A->A.O)->A.O
 | 0, _, _, _ => A.oFail "fuel"
 |_+1,.stop,st,k => k (zwY st)
 |n+1,.alt s t,st,k => A.oAnd (zha P cfg dr ops ro n s st k) (zha P cfg dr ops ro n t st k)
 |n+1,.op i zat,st,k =>
  match ops[i]? with
  | none => A.oFail "operation"
  |some o =>
  match ztj (zgx ops ro st 50) o.guard,o.guard with
  |.yes,_ => zEk P cfg dr ops ro st o fun st => zha P cfg dr ops ro n zat st k
  | .no, _ => bif zAY cfg ops st o.dst then zha P cfg dr ops ro n zat (st.put o.dst (some (.undef, none))) k else A.oFail ("dst " ++ o.pos)
  |.sym j0,some g =>
   match zHp P cfg ops ro st o g with
   |some (obs,v) =>
    bif zAY cfg ops st o.dst&&zIg ops o.dst g then
     znI (obs.map (zuH ops ro st 50 g)) (zha P cfg dr ops ro n zat (st.put o.dst (some (v,some g))) k)
    else A.oFail ("dst " ++ o.pos)
   |none =>
    match ziB ops j0 with
    | none => A.oFail "guard"
    |some d0 =>
     match ro.get st d0 with
     |some (.one (.sc (.bool b)),_) =>
      A.oAnd (A.oImp b.prop (zha P cfg dr ops ro n (.op i zat) { st with ov:=zto st.ov d0 (some (.one (.sc (.bool (.lit true))),none)) } k))
       (A.oImp b.neg.prop (zha P cfg dr ops ro n (.op i zat) { st with ov:=zto st.ov d0 (some (.one (.sc (.bool (.lit false))),none)) } k))
     | _ => A.oFail "guard"
  | _, _ => A.oFail ("guard " ++ o.pos)
inductive Ex where
 |normal|exit (id:Nat)|ret
def zHz:List Oper->List Nat
 |[] => []
 |o::r => match o.dst with|some d => d::zHz r|none => zHz r
def zmg:Code->List Nat
 |.region _ ops _ => zHz ops.toList
 |.seq a b => zmg a++zmg b
 |.cond _ a b => zmg a++zmg b
 |.block _ a => zmg a
 |.loop a => zmg a
 |.scope a => zmg a
 |_ => []
def zE4:Code->Bool
 |.ret => true
 |.seq a b => zE4 a||zE4 b
 |.cond _ a b => zE4 a&&zE4 b
 |.block _ a => zE4 a
 |.scope a => zE4 a
 |_ => false
def zgl:Code->List Nat
 |.region _ ops _ => zHz ops.toList
 |.seq a b => bif zE4 a||zE4 b then [] else zgl a++zgl b
 |.cond _ a b => zgl a++zgl b
 |.block _ a => zgl a
 |.loop a => zgl a
 |.scope a => zgl a
 |_ => []
def zep:List Oper->List Nat
 |[] => []
 |o::r => match o.op with
  |.store _ (.tmp a) _ => a::zep r
  |.fieldAddr _ (.tmp a) _ => (match o.dst with|some d => bif zhg (zep r) d then a::zep r else zep r|none => zep r)
  |.indexAddr _ (.tmp a) _ => (match o.dst with|some d => bif zhg (zep r) d then a::zep r else zep r|none => zep r)
  |_ => zep r
def zgk:Code->List Nat
 |.region _ ops _ => zep ops.toList
 |.seq a b => bif zE4 a||zE4 b then [] else zgk a++zgk b
 |.cond _ a b => zgk a++zgk b
 |.block _ a => zgk a
 |.loop a => zgk a
 |.scope a => zgk a
 |_ => []
def Sc.atom:Sc A->Option (Sh×zyy A.I A.B A.S A.N A.P A.V)
 |.int k n => some (.int k,.int n)
 |.intc k n => some (.int k,.int (A.iLit n))
 |.bool b => some (.bool,.bool b.den)
 |.str s => some (.str,.str s)
 |.slc p l c => some (.slc,.slc p l c)
 |.ptr p => some (.ptr,.ptr p)
 |.val v => some (.val,.val v)
 |.fn f cap => some (.val,.val (A.vFn f cap))
 |.loc .. => none
def zDy:Sh->zyy A.I A.B A.S A.N A.P A.V->Option (Sc A)
 |.int k,.int n => some (.int k n)
 |.bool,.bool b => some (.bool (.atom true b))
 |.str,.str s => some (.str s)
 |.slc,.slc p l c => some (.slc p l c)
 |.ptr,.ptr p => some (.ptr p)
 |.val,.val v => some (.val v)
 |_,_ => none
def zks:List (Sc A)->Option (List (Sh×zyy A.I A.B A.S A.N A.P A.V))
 |[] => some []
 |x::r => match x.atom,zks r with
  |some a,some l => some (a::l)
  |_,_ => none
def zbZ:List Sh->List (zyy A.I A.B A.S A.N A.P A.V)->Option (List (Sc A))
 |[],[] => some []
 |s::r,a::l => match zDy s a,zbZ r l with
  |some x,some l => some (x::l)
  |_,_ => none
 |_,_ => none
structure Hv where
 slots:List (Nat×Bool×Nat)   -- slot,an aggregate?,how many cells
 blocks:List (Nat×Nat)        -- block,how many cells
def zpo(ro:Ro A)(st:St A):List (Nat×Bool×Nat)->Option (List (Sc A))
 |[] => some []
 |(i,agg,n)::r =>
  match ro.get st i,zpo ro st r with
  |some (.one (.sc x),none),some l => bif !agg&&Nat.beq n 1 then some (x::l) else none
  |some (.one (.agg cs),none),some l => bif agg&&Nat.beq n cs.length then some (cs++l) else none
  |_,_ => none
def zmH(ro:Ro A)(st:St A):List (Nat×Nat)->Option (List (Sc A))
 |[] => some []
 |(j,n)::r =>
  match ro.blk st j,zmH ro st r with
  |some b,some l => bif Nat.beq n b.cells.length then some (b.cells++l) else none
  |_,_ => none
def zd1:List (Nat×Bool×Nat)->List (Sc A)->List (Nat×Option (Ent A))×List (Sc A)
 |[],l => ([],l)
 |(i,agg,n)::r,l =>
  let (ov,zat):=zd1 r (zbB n l)
  match agg,l with
  |true,l => ((i,some (.one (.agg (zd3 n l)),none))::ov,zat)
  |false,x::_ => ((i,some (.one (.sc x),none))::ov,zat)
  |false,[] => ((i,none)::ov,zat)
def ze0(ro:Ro A)(st:St A):List (Nat×Nat)->List (Sc A)->List (Nat×Blk A)
 |[],_ => []
 |(j,n)::r,l =>
  match ro.blk st j with
  |some b => (j,{ b with cells:=zd3 n l })::ze0 ro st r (zbB n l)
  |none => ze0 ro st r (zbB n l)
def zyO(n:Nat)(ro:Ro A)(st:St A):List (Nat×SL A) :=
 (List.range n).filterMap fun i=>match ro.get st i with
  |some (v,none) => some (i,v)
  |_ => none
def zBZ(ro:Ro A)(st:St A):List (Nat×Blk A) :=
 (List.range st.nx).filterMap fun j=>(ro.blk st j).map fun b=>(j,b)
def nub:List Nat->List Nat
 |[] => []
 |x::r => let l:=nub r;bif zhg l x then l else x::l
def hvOf(ro:Ro A)(st:St A)(body:Code):Hv :=
 let ws:=nub (zgl body)
 let ss:=nub (zgk body)
 {
  slots:=ws.filterMap fun i=>match ro.get st i with
   |some (.one (.sc (.loc ..)),none) => none
   |some (.one (.sc _),none) => some (i,false,1)
   |some (.one (.agg cs),none) => some (i,true,cs.length)
   |_ => none
  blocks:=nub (ss.filterMap fun i=>match ro.get st i with|some (.one (.sc (.loc j _ _)),none)=>some j|_=>none) |>.filterMap fun j=>(ro.blk st j).map fun b=>(j,b.cells.length) }
def zmL(cfg:Cfg)(hv:Hv):List String :=
 (hv.slots.flatMap fun x => List.replicate x.2.2 (match cfg.names[x.1]? with | some n => bif n == "" then "k" else n | none => "k")) ++
  (hv.blocks.flatMap fun x => List.replicate x.2 "c")
def shEq:Sh->Sh->Bool
 |.int k,.int j => kEq k j
 |.bool,.bool|.str,.str|.slc,.slc|.ptr,.ptr|.val,.val => true
 |_,_ => false
def zA7:List Sh->List Sh->Bool
 |[],[] => true
 |a::r,b::s => shEq a b&&zA7 r s
 |_,_ => false
def zaI{α:Type}(l:List (Nat×α)):List Nat:=l.map (·.1)
def zly(hv:Hv)(body:Code)(cs:List (Sc A)):List (Nat×Option (Ent A))×List (Sc A) :=
 let (ov,zat):=zd1 hv.slots cs
 (ov++(nub (zmg body)).filterMap fun i=>(bif zhg (zaI ov) i then none else some (i,none)),zat)
def zaX(cfg:Cfg)(ro:Ro A)(st:St A):Ro A:={ sl:=zyO cfg.N ro st,bl:=zBZ ro st }
def zlx(hv:Hv)(st:St A):List Nat:=zaI hv.blocks++st.dirty
def zaM(ro:Ro A)(st:St A)(hv:Hv)(body:Code)(cs:List (Sc A))(w:A.W):St A :=
 let l:=zly hv body cs
 { ov:=l.1,bl:=ze0 ro st hv.blocks l.2,nx:=st.nx,anchor:=w,ax:=st.nx,dirty:=zlx hv st }
def zlq(ro:Ro A)(st:St A)(hv:Hv):Option (List (Sc A)) :=
 (zpo ro st hv.slots).bind fun ss=>(zmH ro st hv.blocks).map fun bs=>ss++bs
def zox(hv:Hv)(st head:St A)(shs:List Sh)(rh:Ro A)(st':St A):Option (List (zyy A.I A.B A.S A.N A.P A.V)) :=
 (zlq rh st' hv).bind fun l=>(zks l).bind fun al =>
  bif zA7 (al.map (·.1)) shs&&(st'.bl.all fun x=>Nat.ble st.nx x.1||zhg (zaI hv.blocks) x.1) &&
   (st'.ov.all fun x=>zhg (zaI head.ov) x.1)&&(st'.dirty.all fun j=>zhg (zlx hv st) j&&Nat.blt j st.nx) then some (al.map (·.2)) else none
def zbE(st st':St A):St A :=
 {
  ov:=st'.ov++(st.ov.filter fun x=>!zhg (zaI st'.ov) x.1),bl:=st'.bl++(st.bl.filter fun x=>!zhg (zaI st'.bl) x.1),
  nx:=st'.nx,anchor:=st'.anchor,ax:=st'.ax,dirty:=st'.dirty }
def zkv:List Nat->Bool
 |[] => true
 |x::r => !zhg r x&&zkv r
def seqK(k:Ex->St A->A.O)(next:St A->A.O):Ex->St A->A.O
 |.normal,st => next st
 |e,st => k e st
def zHO(id:Nat)(k:Ex->St A->A.O):Ex->St A->A.O
 |.exit i,st => bif Nat.beq i id then k .normal st else k (.exit i) st
 |e,st => k e st
def zr1{α:Type}(f:α->A.O):Option α->A.O
 |some x => f x
 | none => A.oFail "loop"
def zD2(cfg:Cfg)(ro:Ro A)(st:St A)(hv:Hv)(body:Code)(shs:List Sh)(cs:List (Sc A))(w:A.W)
  (back:List (zyy A.I A.B A.S A.N A.P A.V)->A.W->A.O) (k:Ex->St A->A.O):Ex->St A->A.O
 |.normal,st' =>
  match zox hv st (zaM ro st hv body cs w) shs (zaX cfg ro st) st' with
  |some vs => back vs st'.anchor
  | none => A.oFail "loop back"
 |e,st' => k e (zbE st st')
def zJ8(cfg:Cfg)(o:Oper):Option (Nat×TypeId) :=
 match o.dst with
 |some d =>
  match o.op with
  |.assign _|.alloc _|.box _ _ => some (d,o.type)
  |_ => bif (match zdD cfg.joins 999999 with|some l => zhg l d|none => false) then some (d,o.type) else
   match cfg.names[d]? with
   | some n => bif n == "" then none else some (d, o.type)
   |none => none
 |none => none
def zCX(P:Program)(cfg:Cfg):List Oper->List (Nat×Bool×Nat)
 |[] => []
 |o::r =>
  let l:=zCX P cfg r
  match zJ8 cfg o with
  |some (d,t) => bif zhg (zaI l) d then l else (d,zda P t,bif zda P t then (zvV P 6 t).length else 1)::l
  |none => l
def zrM(P:Program)(cfg:Cfg)(ro:Ro A)(st:St A)(ops:Array Oper):Hv :=
 {
  slots:=zCX P cfg ops.toList
  blocks:=(nub ((nub (zep ops.toList)).filterMap fun i=>match ro.get st i with|some (.one (.sc (.loc j _ _)),none)=>some j|_=>none)).filterMap fun j=>(ro.blk st j).map fun b=>(j,b.cells.length) }
def tyOf(ops:List Oper)(d:Nat):TypeId :=
 match ops with
 |[] => 0
 |o::r => match o.dst with
  |some e => bif Nat.beq e d then (match o.op with|.alloc _|.box _ _ => 1000000|_ => o.type) else tyOf r d
  |none => tyOf r d
def zGm(P:Program)(ro:Ro A)(st:St A)(hv:Hv)(ops:Array Oper):List Sh :=
 (hv.slots.flatMap fun x=>let t:=tyOf ops.toList x.1;bif Nat.beq t 1000000 then [.ptr] else bif x.2.1 then zvV P 6 t else [shOf P t]) ++
  hv.blocks.flatMap fun x=>match ro.blk st x.1 with|some b=>b.cells.filterMap fun c=>c.atom.map (·.1)|none=>[]
def zxp(cfg:Cfg)(ro:Ro A)(st:St A)(hv:Hv)(body:Code)(shs:List Sh)(pos:String)(leave:List (zyy A.I A.B A.S A.N A.P A.V)->A.W->A.O)(st':St A):A.O :=
 match zox hv st (zaM ro st hv body [] st.anchor) shs (zaX cfg ro st) st' with
 |some vs => leave vs st'.anchor
 |none => A.oFail pos
def zq9:Code->List Oper
 |.region _ ops _ => ops.toList
 |.seq a b => zq9 a++zq9 b
 |.cond _ a b => zq9 a++zq9 b
 |.block _ a => zq9 a
 |.loop a => zq9 a
 |.scope a => zq9 a
 |_ => []
def zCW(P:Program)(ro:Ro A)(st:St A)(l:List Nat)(ops:List Oper):Hv :=
 {
  slots:=l.map fun d=>let t:=tyOf ops d;(d,zda P t,bif zda P t then (zvV P 6 t).length else 1)
  blocks:=(nub ((nub (zep ops)).filterMap fun i=>match ro.get st i with|some (.one (.sc (.loc j _ _)),none)=>some j|_=>none)).filterMap fun j=>(ro.blk st j).map fun b=>(j,b.cells.length) }
def zB8(cfg:Cfg)(ro:Ro A)(st:St A)(hv:Hv)(body:Code)(shs:List Sh)(id:Nat)(leave:List (zyy A.I A.B A.S A.N A.P A.V)->A.W->A.O)(k:Ex->St A->A.O):Ex->St A->A.O
 | .normal, st' => zxp cfg ro st hv body shs "block back" leave st'
 | .exit i, st' => bif Nat.beq i id then zxp cfg ro st hv body shs "block back" leave st' else k (.exit i) (zbE st st')
 |.ret,st' => k .ret (zbE st st')
def sx(P:Program)(cfg:Cfg):Code->Ro A->St A->(Ex->St A->A.O)->A.O
 |.skip,_,st,k => k .normal st
 |.label _,_,st,k => k .normal st
 |.exit id,_,st,k => k (.exit id) st
 |.ret,_,st,k => k .ret st
 |.seq a b,ro,st,k => sx P cfg a ro st (seqK k fun st => sx P cfg b ro st k)
 |.cond c a b,ro,st,k =>
  match sc? (zoI ro st (zjR #[] ro st none) c) with
  |some (.bool t) =>
   match t with
   |.lit true => sx P cfg a ro st k
   |.lit false => sx P cfg b ro st k
   |t => A.oAnd (A.oImp t.prop (sx P cfg a ro st k)) (A.oImp t.neg.prop (sx P cfg b ro st k))
  | _ => A.oFail "cond"
 |.block id a,ro,st,k =>
  match zdD cfg.joins id with
  |none => sx P cfg a ro st (zHO id k)
  |some l =>
   let ops:=zq9 a
   let hv:=zCW P ro st l ops
   let shs:=zGm P ro st hv ops.toArray
   bif !(zkv (zaI hv.slots) && zkv (zaI hv.blocks) && hv.blocks.all fun x => (ro.blk st x.1).isSome) then A.oFail "join keys" else
   A.join (List.zip (zmL cfg hv) shs)
    (fun leave=>sx P cfg a (zaX cfg ro st) (zaM ro st ⟨[],[]⟩ .skip [] st.anchor) (zB8 cfg ro st hv a shs id leave k))
    (fun vars w=>zr1 (fun cs=>k .normal (zbE st (zaM ro st hv a cs w))) (zbZ shs vars))
 |.region id ops draw,ro,st,k =>
  let fuel:=4*ops.size+4+ops.size*ops.size
  bif draw then
   match zJx P cfg ops with
   |some t =>
    bif t.hasAlt then
     let hv:=zrM P cfg ro st ops
     let shs:=zGm P ro st hv ops
     bif !(zkv (zaI hv.slots) && zkv (zaI hv.blocks) && hv.blocks.all fun x => (ro.blk st x.1).isSome) then A.oFail "join keys" else
     A.join (List.zip (zmL cfg hv) shs)
      (fun leave => zha P cfg true ops (zaX cfg ro st) fuel t (zaM ro st ⟨[], []⟩ .skip [] st.anchor) (zxp cfg ro st hv (.region id ops draw) shs ("join back " ++ match ops[0]? with | some o => o.pos | none => "") leave))
      (fun vars w=>zr1 (fun cs=>k .normal (zbE st (zaM ro st hv (.region id ops draw) cs w))) (zbZ shs vars))
    else zha P cfg true ops ro fuel t st (fun st=>k .normal st)
   | none => A.oFail ("draw " ++ match ops[0]? with | some o => o.pos | none => "")
  else zha P cfg false ops ro fuel (.chain (List.range ops.size)) st (fun st=>k .normal st)
 |.loop body,ro,st,k =>
  let hv:=hvOf ro st body
  match (zlq ro st hv).bind zks with
  | none => A.oFail "loop slots"
  |some al =>
   let shs:=al.map (·.1)
   bif !(zkv (zaI hv.slots) && zkv (zaI hv.blocks)) then A.oFail "loop keys" else
   A.loop (List.zip (zmL cfg hv) shs) (al.map (·.2)) st.anchor fun back vars w =>
    zr1 (fun cs=>sx P cfg body (zaX cfg ro st) (zaM ro st hv body cs w) (zD2 cfg ro st hv body shs cs w back k)) (zbZ shs vars)
 | .scope _, _, _, _ => A.oFail "scope"
 | .rangeFunc .., _, _, _ => A.oFail "rangeFunc"
 | .goto _, _, _, _ => A.oFail "goto"
 | .refuse _, _, _, _ => A.oFail "refuse"
end Go.Sx
namespace Go.Sx
open RowKit
def Ext(w w':World):Prop:=Below w.heap.size w w'
structure But(ds:List Nat)(w w':World):Prop where
 os:w'.os=w.os
 tape:w'.tape=w.tape
 output:w'.output=w.output
 size:w.heap.size<=w'.heap.size
 block:∀k,k<w.heap.size->k∉ds->w'.heap[k]?=w.heap[k]?
structure zag(ds ns:List Nat)(w w':World):Prop extends But ds w w' where
 lt:∀b∈ns,b<w'.heap.size
def zbK(ns:List Nat)(w w':World):Prop:=∀b∈ns,w'.heap[b]?=w.heap[b]?
def InR(k:IntKind)(x:Int):Prop:=k.min<=x/\x<=k.max
def zdl(x y:ByteArray):Prop:=x.size+y.size<=9223372036854775807
def sLt(x y:ByteArray):Bool:=Op.bytesLess x.toList y.toList
def sAt(s:ByteArray)(i:Int):Int:=((s.data.toList.getD i.toNat 0).toNat:Int)
def pAdd(p:Option Addr)(n:Nat):Option Addr:=p.map (·.add n)
def pIdx(p:Option Addr)(i:Int)(n:Nat):Option Addr:=p.map (·.add (i.toNat*n))
def pCut(p:Option Addr)(cap:Nat)(l:Int)(n:Nat):Option Addr:=if cap=l.toNat then p else p.map (·.add (l.toNat*n))
def cell(w:World)(p:Option Addr)(i:Nat):Option Value:=p.bind fun a=>w.cell? (a.add i)
def zwq(ds:List Nat)(p:Option Addr):Prop:=∀b∈ds,∀a,p=some a->a.block≠b
def CellsAre(ds:List Nat)(w:World)(p:Option Addr)(n:Nat)(v:Value):Prop :=
 ∃cs:List Value,v=.agg cs.toArray/\cs.length=n/\(∀j u,cs[j]?=some u->cell w p j=some u)/\zwq ds p/\p≠none
def zEs:Prop:=False
def zaw(op:BinOp)(k:IntKind)(x y:Int):Int :=
 match op with
 |.and => k.wrap ((BitVec.ofInt k.bits x &&& BitVec.ofInt k.bits y).toNat:Int)
 |.or => k.wrap ((BitVec.ofInt k.bits x ||| BitVec.ofInt k.bits y).toNat:Int)
 |.xor => k.wrap ((BitVec.ofInt k.bits x ^^^ BitVec.ofInt k.bits y).toNat:Int)
 |.andNot => k.wrap ((BitVec.ofInt k.bits x &&& ~~~ BitVec.ofInt k.bits y).toNat:Int)
 |.shl => k.wrap (x*2^(min y.toNat k.bits))
 |.shr => x.fdiv (2^(min y.toNat k.bits))
 |_ => 0
def zsF(op:BinOp)(k:IntKind)(w:Bool)(x y:Int):Int :=
 match op,w with
 |.add,false => x+y
 |.sub,false => x-y
 |.mul,false => x*y
 |.quo,false => x.tdiv y
 |.add,true => k.wrap (x+y)
 |.sub,true => k.wrap (x-y)
 |.mul,true => k.wrap (x*y)
 |.quo,true => k.wrap (x.tdiv y)
 |.rem,_ => x.tmod y
 |op,_ => zaw op k x y
def znF(P:Program)(f:FuncId):Prop:=∀args w,(callFunc f args).run P w=.ok (.enter f args) w
def FnP(P:Program)(f:FuncId)(args:Array Value)(w:World)(K:Value->World->Prop):Prop :=
 znF P f/\Calls P f args w fun e w'=>∃v,e=.returned v/\K v w'
theorem FnP.mono{P:Program}{f:FuncId}{args:Array Value}{w:World}{K K':Value->World->Prop}(h:FnP P f args w K)(hk:∀v w',K v w'->K' v w'):FnP P f args w K' :=
 ⟨h.1,h.2.mono fun e w' ⟨v,he,hv⟩=>⟨v,he,hk _ _ hv⟩⟩
def zil(P:Program)(v:Value)(args:List Value)(w:World)(K:Value->World->Prop):Prop :=
 ∃f cap,v=.func (.func f) #[] cap/\FnP P f (args.toArray++cap) w K
def zIE(P:Program)(v:Value)(args:List Value)(w:World)(K:Value->World->Prop):Prop :=
 ∃f bd cap,v=.func (.func f) bd cap/\FnP P f (bd++args.toArray++cap) w K
def zqE(P:Program)(m:String)(v:Value)(args:List Value)(w:World)(K:Value->World->Prop):Prop :=
 ∃t x f r,v=.iface t x/\(method (P.types.size+Made.depth) t x m).run P w=.ok (f,r) w/\FnP P f (#[r]++args.toArray) w K
def opd(c:Bool):Operand:=if c then .const undef else .tmp 0
def MC.sem:MC Value->Sem Value
 |.makeSlice t l c => Instr.makeSlice t l c
 |.append ats t xs => Builtin.append_ ats t xs.toArray
 |.copy ats t xs => Builtin.copy_ ats t xs.toArray
 |.delete ats t xs => Builtin.delete_ ats t xs.toArray
 |.clear ats t xs => Builtin.clear_ ats t xs.toArray
 |.len ats t xs => Builtin.len_ ats t xs.toArray
 |.lookup t m k ok => Instr.lookup t m k ok
 |.mapUpdate t m k x => do Instr.mapUpdate t m k x;pure undef
 |.makeMap t => Instr.makeMap t none
 |.range t x => Instr.range t x
 |.next it s t => Instr.next it s t
 |.entry it => Instr.entry it
 |.extract x i => Instr.extract x i
 |.convert a b x => Go.convert a b x
 |.eq op t cx cy x y => do eqGuard op t (opd cx) (opd cy) x y;Go.binOp op t x y
 |.buildSlice t n ps => Instr.buildSlice t n ps.toArray
 |.makeInterface t x => Instr.makeInterface t x
 |.typeAssert x t u ok => Instr.typeAssert x t u ok
 |.index t x i => Instr.index t x i
 |.slice t x lo hi mx => Instr.sliceAt t x lo hi mx
def Run(P:Program)(m:MC Value)(w:World)(K:Value->World->Prop):Prop :=
 ∃v w',m.sem.run P w=.ok v w'/\K v w'
def setCells(w:World)(a:Addr):List Value->Nat->World
 |[],_ => w
 |v::r,i => setCells (w.setCell (a.add i) v) a r (i+1)
structure zIJ(w:World)(p:Option Addr)(vs:List Value)(ns:List Nat):Prop where
 some:p≠none
 cells:∀i,i<vs.length->(cell w p i).isSome=true
 free:∀i,i<vs.length->∀a,p=.some a->w.frozen? (a.add i)=false
 apart:zwq ns p
 one:∀v∈vs,v.oneCell'=true
def zan(w:World)(p:Option Addr)(vs:List Value)(ns:List Nat)(K:World->Prop):Prop :=
 zIJ w p vs ns/\∀w',w'=setCells w (p.getD default) vs 0->K w'
structure zAi(w:World)(t:TypeId)(vs:List Value)(p:Option Addr)(w':World):Prop where
 at_:p=some ⟨w.heap.size,0,none⟩
 is:w'=w.alloc (.cells vs.toArray t)
 ext:Ext w w'
 size:w'.heap.size=w.heap.size+1
 block:w'.heap[w.heap.size]?=some (.cells vs.toArray t)
def New(w:World)(t:TypeId)(vs:List Value)(K:Option Addr->World->Prop):Prop :=
 (∀v∈vs,v.oneCell'=true)/\∀p w',zAi w t vs p w'->K p w'
def zBB:List Sh->Type->Type
 |[],R => World->R
 |.int _::r,R => Int->zBB r R
 |.bool::r,R => Bool->zBB r R
 |.str::r,R => ByteArray->zBB r R
 |.slc::r,R => Option Addr->Nat->Nat->zBB r R
 |.ptr::r,R => Option Addr->zBB r R
 |.val::r,R => Value->zBB r R
abbrev At:=zyy Int Bool ByteArray Nat (Option Addr) Value
def zop{R:Type}(d:R):(l:List Sh)->zBB l R->List At->World->R
 |[],f,[],w => f w
 |.int _::r,f,.int n::l,w => zop d r (f n) l w
 |.bool::r,f,.bool b::l,w => zop d r (f b) l w
 |.str::r,f,.str s::l,w => zop d r (f s) l w
 |.slc::r,f,.slc p n c::l,w => zop d r (f p n c) l w
 |.ptr::r,f,.ptr p::l,w => zop d r (f p) l w
 |.val::r,f,.val v::l,w => zop d r (f v) l w
 |_,_,_,_ => d
def zFp:List Sh->(List At->Prop)->Prop
 |[],f => f []
 |.int _::r,f => ∀n:Int,zFp r fun l => f (.int n::l)
 |.bool::r,f => ∀b:Bool,zFp r fun l => f (.bool b::l)
 |.str::r,f => ∀s:ByteArray,zFp r fun l => f (.str s::l)
 |.slc::r,f => ∀(p:Option Addr)(n c:Nat),zFp r fun l => f (.slc p n c::l)
 |.ptr::r,f => ∀p:Option Addr,zFp r fun l => f (.ptr p::l)
 |.val::r,f => ∀v:Value,zFp r fun l => f (.val v::l)
def zHR(op:Cmp)(x y:Int):Bool :=
 match op with
 |.eql => decide (x=y)|.neq => decide (x≠y)|.lss => decide (x<y)|.leq => decide (x<=y)|.gtr => decide (y<x)|.geq => decide (y<=x)
def cmpQ(op:Cmp)(x y:Int):Prop :=
 match op with
 |.eql => x=y|.neq => x≠y|.lss => x<y|.leq => x<=y|.gtr => y<x|.geq => y<=x
def zx5(op:Cmp)(x y:ByteArray):Bool :=
 match op with
 |.eql => decide (x=y)|.neq => decide (x≠y)|.lss => decide (sLt x y=true)|.geq => decide (sLt x y=false)|.gtr => decide (sLt y x=true)|.leq => decide (sLt y x=false)
def scmpQ(op:Cmp)(x y:ByteArray):Prop :=
 match op with
 |.eql => x=y|.neq => x≠y|.lss => sLt x y=true|.geq => sLt x y=false|.gtr => sLt y x=true|.leq => sLt y x=false
@[reducible] def sem(P:Program)(Q:Value->World->Prop):Alg where
 I:=Int
 B:=Bool
 Q:=Prop
 S:=ByteArray
 N:=Nat
 P:=Option Addr
 V:=Value
 W:=World
 O:=Prop
 iLit n:=n
 iBin:=zsF
 iConv k n:=k.wrap n
 iN n:=(n:Int)
 iLen s:=(s.size:Int)
 iAt:=sAt
 iMin x y:=min x y
 iMax x y:=max x y
 iIte b x y:=bif b then x else y
 bLit b:=b
 bCmp:=zHR
 bSCmp:=zx5
 bNilP p:=p.isNone
 bNot b:=!b
 bAnd x y:=x&&y
 bOr x y:=x||y
 bIte b x y:=bif b then x else y
 qLit b:=if b then True else False
 qCmp:=cmpQ
 qSCmp:=scmpQ
 qNilP is p:=if is then p=none else p≠none
 qAtom is b:=b=is
 qAnd x y:=x/\y
 qOr x y:=x\/y
 sLit s:=s
 sCat x y:=x++y
 sSub s l h:=s.extract l.toNat h.toNat
 sIte b x y:=bif b then x else y
 nLit n:=n
 nI n:=n.toNat
 nSub n i:=n-i.toNat
 pNil:=none
 pAt b n:=some ⟨b,n,none⟩
 pAdd:=pAdd
 pIdx:=pIdx
 pCut:=pCut
 vInt k n:=.int k n
 vBool b:=.bool b
 vStr s:=.string s
 vSlc p l c:=.slice p l c
 vPtr p:=.pointer p
 vAgg l:=.agg l.toArray
 vTup l:=.tuple l.toArray
 vFn f l:=.func (.func f) #[] l.toArray
 vLit v:=v
 vIte b x y:=bif b then x else y
 oTrue:=True
 oFail _:=zEs
 oAnd x y:=x/\y
 oImp q x:=q->x
 oRange:=InR
 oNe0 x:=x≠0
 oNonneg x:=0<=x
 oLe x y:=x<=y
 oLt x y:=x<y
 oSome p:=p≠none
 oCat:=zdl
 oEqV x y:=x=y
 oExt:=Ext
 oKept:=zbK
 oCell ds w p k v:=match ds with|[]=>cell w p k=some v|ds=>cell w p k=some v/\zwq ds p
 oCells:=CellsAre
 exI _ f:=∃x,f x
 exB _ f:=∃x,f x
 exS _ f:=∃x,f x
 exN _ f:=∃x,f x
 exP _ f:=∃x,f x
 exV _ f:=∃x,f x
 allExt ds ns w f:=match ds,ns with
  |[],[] => ∀w',Ext w w'->f w'
  |ds,ns => ∀w',zag ds ns w w'->f w'
 allNum w f:=∀b,w.heap.size<=b->f b
 oFn f args w k:=FnP P f args.toArray w k
 oFnV v args w k:=zil P v args w k
 oFnB v args w k:=zIE P v args w k
 oInv m v args w k:=zqE P m v args w k
 oRun m w k:=Run P m w k
 oStore w p vs ns f:=zan w p vs ns f
 oOne v:=v.oneCell'=true
 oNew w t vs f:=New w t vs f
 oRet v w:=Q v w
 loop shs init w body :=
  ∃(I:zBB (shs.map (·.2)) Prop) (M:zBB (shs.map (·.2)) Nat),zop False (shs.map (·.2)) I init w /\
   zFp (shs.map (·.2)) fun vs=>∀w':World,zop False (shs.map (·.2)) I vs w' ->
    body (fun vs' w''=>zop False (shs.map (·.2)) I vs' w''/\zop 0 (shs.map (·.2)) M vs' w''<zop 0 (shs.map (·.2)) M vs w') vs w'
 join shs br body :=
  ∃(I:zBB (shs.map (·.2)) Prop),br (fun vs w=>zop False (shs.map (·.2)) I vs w) /\
   zFp (shs.map (·.2)) fun vs=>∀w':World,zop False (shs.map (·.2)) I vs w'->body vs w'
end Go.Sx
namespace Go.Sx
def st0{A:Alg}(ps:List (SV A))(w:A.W):St A :=
 { ov:=ps.zipIdx.map fun x=>(x.2,some (.one x.1,none)),bl:=[],nx:=0,anchor:=w,ax:=0,dirty:=[] }
def zxY{A:Alg}(P:Program)(ro:Ro A)(st:St A):List ResultVar->Option (List (SV A))
 |[] => some []
 |.tmp t::r =>
  match one? ((ro.get st t).bind fun e=>match e.2 with|none=>some e.1|some _=>none),zxY P ro st r with
  |some v,some l => some (v::l)
  |_,_ => none
 |.cell a t::r =>
  match sc? ((ro.get st a).bind fun e=>match e.2 with|none=>some e.1|some _=>none),zxY P ro st r with
  |some (.loc j _ off),some l =>
   match ro.blk st j with
   |some b => match zje P t b.cells off with
    |some v => bif Nat.beq v.cells.length (P.cellsOf t) then some (v::l) else none
    |none => none
   |none => none
  |_,_ => none
def zxZ{A:Alg}(P:Program)(fn:Func)(ro:Ro A)(st:St A):A.O :=
 match zxY P ro st fn.results.toList with
 | some l => bif l.all zaY then A.allExt (ro.dn st) [] st.anchor fun w => A.oRet (zbF l).toV w else A.oFail "results escape"
 | none => A.oFail "results"
def zHZ{A:Alg}(P:Program)(cfg:Cfg)(fn:Func)(c:Code)(ps:List (SV A))(w:A.W):A.O :=
 sx P cfg c { sl:=[],bl:=[] } (st0 ps w) fun e st=>match e with
  | .exit _ => A.oFail "exit"
  |_ => zxZ P fn { sl:=[],bl:=[] } st
end Go.Sx
namespace Go.Sx
open RowKit
variable {P:Program} {Q:Value->World->Prop}
@[simp] theorem toV_int(k:IntKind)(n:Int):(Sc.int k n:Sc (sem P Q)).toV=Value.int k n:=rfl
@[simp] theorem toV_intc (k:IntKind) (n:Int):(Sc.intc k n:Sc (sem P Q)).toV=Value.int k n:=rfl
@[simp] theorem toV_bool (b:BE (sem P Q)):(Sc.bool b:Sc (sem P Q)).toV=Value.bool b.den:=rfl
@[simp] theorem toV_str (s:ByteArray):(Sc.str s:Sc (sem P Q)).toV=Value.string s:=rfl
@[simp] theorem toV_slc (p:Option Addr) (l c:Nat):(Sc.slc p l c:Sc (sem P Q)).toV=Value.slice p l c:=rfl
@[simp] theorem toV_ptr (p:Option Addr):(Sc.ptr p:Sc (sem P Q)).toV=Value.pointer p:=rfl
@[simp] theorem toV_loc (j b off:Nat):(Sc.loc j b off:Sc (sem P Q)).toV=Value.pointer (some ⟨b,off,none⟩):=rfl
@[simp] theorem toV_fn (f:Nat) (cap:List Value):(Sc.fn f cap:Sc (sem P Q)).toV=Value.func (.func f) #[] cap.toArray:=rfl
@[simp] theorem toV_val (v:Value):(Sc.val v:Sc (sem P Q)).toV=v:=rfl
@[simp] theorem toV_sc (x:Sc (sem P Q)):(SV.sc x).toV=x.toV:=rfl
@[simp] theorem toV_agg (l:List (Sc (sem P Q))):(SV.agg l).toV=Value.agg (l.map Sc.toV).toArray:=rfl
@[simp] theorem toV_one (v:SV (sem P Q)):(SL.one v).toV=v.toV:=rfl
@[simp] theorem toV_tup (l:List (SV (sem P Q))):(SL.tup l).toV=Value.tuple (l.map SV.toV).toArray:=rfl
@[simp] theorem toV_undef:(SL.undef:SL (sem P Q)).toV=undef:=rfl
theorem zqh (v:Value):(ofValue v:Sc (sem P Q)).toV=v:=by
 unfold ofValue
 split<;>rfl
theorem zjn(v:Value):(zjI v:SV (sem P Q)).toV=v:=by
 unfold zjI
 split
 ·rename_i cs
  simp only[toV_agg,List.map_map]
  congr 1
  have:(Sc.toV∘(ofValue:Value->Sc (sem P Q)))=id:=funext fun x=>zqh x
  rw[this];simp
 ·exact zqh _
theorem zdr:∀b:BE (sem P Q),b.neg.den=!b.den
 |.lit b => rfl
 |.cmp op x y => by
  show zHR (zLc op) x y=!zHR op x y
  cases op<;>simp[zLc,zHR]<;>(try (rw[Bool.eq_iff_iff];simp))
 |.scmp op x y => by
  show zx5 (zLc op) x y=!zx5 op x y
  cases op<;>simp[zLc,zx5]
 |.nilp is p => by cases is<;>show _=!_<;>simp[BE.neg,BE.den]
 |.atom is b => by cases is<;>show _=!_<;>simp[BE.neg,BE.den]
 |.and x y => by
  show(x.neg.den||y.neg.den)=!(x.den&&y.den)
  rw[zdr x,zdr y];simp
 |.or x y => by
  show(x.neg.den&&y.neg.den)=!(x.den||y.den)
  rw[zdr x,zdr y];simp
theorem zey:∀b:BE (sem P Q),b.prop↔b.den=true
 |.lit b => by cases b<;>simp[BE.prop,BE.den]
 |.cmp op x y => by
  show cmpQ op x y↔zHR op x y=true
  cases op<;>simp[cmpQ,zHR]
 |.scmp op x y => by
  show scmpQ op x y↔zx5 op x y=true
  cases op<;>simp[scmpQ,zx5]
 |.nilp is p => by cases is<;>cases p<;>simp[BE.prop,BE.den]
 |.atom is b => by cases is<;>simp[BE.prop,BE.den]
 |.and x y => by
  show(x.prop/\y.prop)↔(x.den&&y.den)=true
  rw[zey x,zey y];simp
 |.or x y => by
  show(x.prop\/y.prop)↔(x.den||y.den)=true
  rw[zey x,zey y];simp
theorem zCs(x y:BE (sem P Q)):(x.mkAnd y).den=(x.den&&y.den):=by
 unfold BE.mkAnd
 split
 ·show _=(true&&_);simp
 ·show false=(false&&_);simp
 ·show _=(_&&true);simp
 ·rfl
theorem zFO(x y:BE (sem P Q)):(x.mkOr y).den=(x.den||y.den):=by
 unfold BE.mkOr
 split
 ·show _=(false||_);simp
 ·show true=(true||_);simp
 ·show _=(_||false);simp
 ·rfl
theorem zmf{k:IntKind}{x:Int}(h:InR k x):k.wrap x=x:=by
 obtain⟨h1,h2⟩:=h
 cases k<;>simp[IntKind.min,IntKind.max,IntKind.signed,IntKind.bits] at h1 h2 <;>
  simp[IntKind.wrap,IntKind.signed,IntKind.bits]<;>omega
theorem zuQ{j k:IntKind}(h:kEq j k=true):j=k:=by
 cases j<;>cases k<;>first|rfl|(simp[kEq] at h)
theorem zcm{x:Sc (sem P Q)}{k:IntKind}{n:Int}(h:x.asI=some (k,n)):x.toV=Value.int k n:=by
 cases x<;>simp[Sc.asI] at h
 ·obtain⟨rfl,rfl⟩:=h;rfl
 ·obtain⟨rfl,rfl⟩:=h;rfl
def All:List Prop->Prop
 |[] => True
 |o::r => o/\All r
theorem zmj:∀(l r:List Prop),All (l++r)↔(All l/\All r)
 |[],r => by simp[All]
 |o::l,r => by simp[All,zmj l r,and_assoc]
theorem zgV:∀(l:List Prop)(k:Prop),(znI (A:=sem P Q) l k:Prop)↔(All l/\k)
 |[],k => by simp[znI,All]
 |o::r,k => by
  show(o/\znI (A:=sem P Q) r k)↔_
  rw[zgV r k]
  simp only[All,and_assoc]
theorem zFt(x y:ByteArray):(x.toList==y.toList)=decide (x=y):=by
 rw[Bool.eq_iff_iff]
 simp only[beq_iff_eq,decide_eq_true_eq]
 constructor
 ·intro h
  have h':x.data.toList=y.data.toList:=by simpa[ByteArray.toList_eq] using h
  cases x;cases y;simp_all
 ·rintro rfl;rfl
theorem zp4(op:BinOp)(c:Cmp)(h:zv1 op=some c)(t:TypeId)(k:IntKind)(a b:Int)(w:World) :
  (binOp op t (.int k a) (.int k b)).run P w=.ok (.bool (zHR c a b)) w:=by
 cases op<;>simp[zv1] at h<;>subst h<;>simp[binOp,Op.intCmp,zHR]<;>first|rfl|(rw[Bool.eq_iff_iff];simp)
theorem dT(b:Bool)(i:Decidable (b=true)):@decide (b=true) i=b:=by cases b<;>simp
theorem dF(b:Bool)(i:Decidable (b=false)):@decide (b=false) i=!b:=by cases b<;>simp
theorem zx2(op:BinOp)(c:Cmp)(h:zv1 op=some c)(t:TypeId)(a b:ByteArray)(w:World) :
  (binOp op t (.string a) (.string b)).run P w=.ok (.bool (zx5 c a b)) w:=by
 have tri:∀x y:List UInt8,(Op.bytesLess x y||x==y)=!Op.bytesLess y x:=by
  intro x
  induction x with
  |nil => intro y;cases y<;>simp[Op.bytesLess]
  |cons a x ih =>
   intro y
   cases y with
   |nil => simp[Op.bytesLess]
   |cons b y =>
    have h:=ih y
    simp only[Op.bytesLess]
    rcases Nat.lt_trichotomy a.toNat b.toNat with hl|he|hg
    ·have h1:a<b:=UInt8.lt_iff_toNat_lt.2 hl
     have h2:¬b<a:=fun h=>by have:=UInt8.lt_iff_toNat_lt.1 h;omega
     have h3:b≠a:=fun h=>by rw[h] at hl;omega
     simp[h1,h2,h3]
    ·have h0:a=b:=UInt8.toNat_inj.1 he
     subst h0
     have h1:¬a<a:=fun h=>by have:=UInt8.lt_iff_toNat_lt.1 h;omega
     simp only[h1,decide_false,Bool.false_or,beq_self_eq_true,Bool.true_and]
     rw[<-h];simp
    ·have h1:b<a:=UInt8.lt_iff_toNat_lt.2 hg
     have h2:¬a<b:=fun h=>by have:=UInt8.lt_iff_toNat_lt.1 h;omega
     have h3:a≠b:=fun h=>by rw[h] at hg;omega
     simp[h1,h2,h3]
 cases op<;>simp[zv1] at h<;>subst h<;>simp only[binOp,Op.stringOp,zx5,zFt,Sem.run_pure]
 ·congr 2;simp
 ·rw[dT];rfl
 ·rw[<-zFt,tri,dF];rfl
 ·rw[<-zFt,tri,dT,Bool.not_not];rfl
 ·rw[dF];rfl
theorem zFN(eq:Bool)(x y:BE (sem P Q)):(beEq eq x y).den=((x.den==y.den)==eq):=by
 unfold beEq
 split
 ·rename_i b
  have:(BE.lit b:BE (sem P Q)).den=b:=rfl
  rw[this]
  cases b<;>cases eq<;>simp[zdr]
 ·rename_i b _
  have:(BE.lit b:BE (sem P Q)).den=b:=rfl
  rw[this]
  cases b<;>cases eq<;>simp[zdr]
 ·cases eq
  ·show((x.den&&y.neg.den)||(x.neg.den&&y.den))=_
   rw[zdr,zdr];cases x.den<;>cases y.den<;>rfl
  ·show((x.den&&y.den)||(x.neg.den&&y.neg.den))=_
   rw[zdr,zdr];cases x.den<;>cases y.den<;>rfl
theorem zrY{x:Sc (sem P Q)}{k:IntKind}{n:Int}(h:All (zs1 x))(hx:x.asI=some (k,n)):n≠0:=by
 cases x<;>simp[Sc.asI] at hx
 ·obtain⟨rfl,rfl⟩:=hx;exact h.1
 ·rename_i m
  obtain⟨rfl,rfl⟩:=hx
  intro h0
  have h0:m=0:=h0
  subst h0
  simp[zs1,All,zEs] at h
theorem zDx{x:Sc (sem P Q)}{k:IntKind}{n:Int}(h:All (zDw x))(hx:x.asI=some (k,n)):(0:Int)<=n:=by
 cases x<;>simp[Sc.asI] at hx
 ·obtain⟨rfl,rfl⟩:=hx;exact h.1
 ·rename_i m
  obtain⟨rfl,rfl⟩:=hx
  show(0:Int)<=m
  apply Int.not_lt.1
  intro h0
  simp[zDw,h0,All,zEs] at h
theorem zne{wr:Bool}{op:BinOp}{k:IntKind}{a b:Int}{sy z:Sc (sem P Q)}{k':IntKind}{obs:List Prop}(hs:sy.asI=some (k',b))
  (h:znJ wr op k a b sy=some (obs,z)) (ho:All obs) (hsh:op≠.shl/\op≠.shr) (t:TypeId) (w:World) :
  (binOp op t (.int k a) (.int k b)).run P w=.ok z.toV w:=by
 unfold znJ at h
 split at h
 ·rename_i c hc
  simp only[Option.some.injEq,Prod.mk.injEq] at h
  obtain⟨rfl,rfl⟩:=h
  exact zp4 op c hc t k a b w
 ·cases op<;>simp[zv1] at *<;>obtain⟨rfl,rfl⟩:=h
  case add=>cases wr<;>simp[binOp,Op.intArith,zsF];exact(zmf ho.1)
  case sub=>cases wr<;>simp[binOp,Op.intArith,zsF];exact(zmf ho.1)
  case mul=>cases wr<;>simp[binOp,Op.intArith,zsF];exact(zmf ho.1)
  case quo =>
   rw[zmj] at ho
   have h0:=zrY ho.1 hs
   cases wr<;>simp[binOp,Op.intDiv,zsF,h0]
   exact zmf ho.2.1
  case rem =>
   have h0:=zrY ho hs
   simp[binOp,Op.intDiv,zsF,h0]
  all_goals simp[binOp,Op.intBits,zsF,zaw]
theorem zuo(d:Nat){t:TypeId}(ht:P.underlying t=some .bool)(a b:Bool)(w:World):(Op.equalIn (d+1) t (.bool a) (.bool b)).run P w=.ok (a==b) w:=by
 simp only[Op.equalIn,Sem.run_bind,run_underlying ht,Result.andThen_ok,Sem.run_pure]
theorem zlm(d:Nat){t e:TypeId}(ht:P.underlying t=some (.slice e))(p:Option Addr)(l c:Nat)(w:World):(Op.equalIn (d+1) t (.slice p l c) (.slice none 0 0)).run P w=.ok p.isNone w:=by
 cases p<;>simp[Op.equalIn,Sem.run_bind,run_underlying ht]
theorem zpd(d:Nat){t e:TypeId}(ht:P.underlying t=some (.pointer e))(p:Option Addr)(w:World):(Op.equalIn (d+1) t (.pointer p) (.pointer none)).run P w=.ok p.isNone w:=by
 cases p<;>simp[Op.equalIn,Sem.run_bind,run_underlying ht]
def zLf(x:Sc (sem P Q)):Value:=match x with|.slc ..=>.slice none 0 0|_=>.pointer none
theorem zD8{op:BinOp}{t:TypeId}{x z:Sc (sem P Q)}{obs:List Prop}(h:zAW P op t x=some (obs,z))(w:World) :
  (binOp op t x.toV (zLf x)).run P w=.ok z.toV w:=by
 unfold zAW at h
 split at h<;>simp only[Option.some.injEq,Prod.mk.injEq,reduceCtorEq] at h<;>obtain⟨rfl,rfl⟩:=h
 ·rename_i p l c e ht
  have e:(Op.equal t (.slice p l c) (.slice none 0 0)).run P w=.ok (Option.isNone p) w:=zlm (P:=P) 9999 ht p l c w
  simp only[toV_slc,zLf,binOp,Sem.run_bind,e,Result.andThen_ok,Sem.run_pure,toV_bool];rfl
 ·rename_i p l c e ht
  have e:(Op.equal t (.slice p l c) (.slice none 0 0)).run P w=.ok (Option.isNone p) w:=zlm (P:=P) 9999 ht p l c w
  simp only[toV_slc,zLf,binOp,Sem.run_bind,e,Result.andThen_ok,Sem.run_pure,toV_bool];rfl
 ·rename_i p e ht
  have e:(Op.equal t (.pointer p) (.pointer none)).run P w=.ok (Option.isNone p) w:=zpd (P:=P) 9999 ht p w
  simp only[toV_ptr,zLf,binOp,Sem.run_bind,e,Result.andThen_ok,Sem.run_pure,toV_bool];rfl
 ·rename_i p e ht
  have e:(Op.equal t (.pointer p) (.pointer none)).run P w=.ok (Option.isNone p) w:=zpd (P:=P) 9999 ht p w
  simp only[toV_ptr,zLf,binOp,Sem.run_bind,e,Result.andThen_ok,Sem.run_pure,toV_bool];rfl
theorem zA4{op:BinOp}{x y:BE (sem P Q)}{z:Sc (sem P Q)}{obs:List Prop}{t:TypeId}(ht:P.underlying t=some .bool)
  (h:zyT op x y=some (obs,z)) (w:World):(binOp op t (.bool x.den) (.bool y.den)).run P w=.ok z.toV w:=by
 have e:(Op.equal t (.bool x.den) (.bool y.den)).run P w=.ok (x.den==y.den) w:=by
  exact zuo 9999 ht _ _ w
 cases op<;>simp only[zyT,Option.some.injEq,Prod.mk.injEq,reduceCtorEq] at h<;>obtain⟨rfl,rfl⟩:=h <;>
  simp only[binOp,Sem.run_bind,e,Result.andThen_ok,Sem.run_pure,toV_bool,zFN]<;>congr 2<;>cases x.den<;>cases y.den<;>rfl
theorem zD9{op:BinOp}{x y:ByteArray}{z:Sc (sem P Q)}{obs:List Prop}{t:TypeId}
  (h:zHl (A:=sem P Q) op x y=some (obs,z)) (ho:All obs) (w:World):(binOp op t (.string x) (.string y)).run P w=.ok z.toV w:=by
 unfold zHl at h
 split at h
 ·rename_i c hc
  simp only[Option.some.injEq,Prod.mk.injEq] at h
  obtain⟨rfl,rfl⟩:=h
  exact zx2 op c hc t x y w
 ·cases op<;>simp at h
  obtain⟨rfl,rfl⟩:=h
  have h1:x.size+y.size<=9223372036854775807:=ho.1
  have h2:¬(((x.size+y.size:Nat):Int)>IntKind.max .i64):=by
   simp only[IntKind.max,IntKind.signed,IntKind.bits];simp;omega
  simp only[binOp,Op.stringOp]
  rw[if_neg h2];rfl
theorem zx4{op:BinOp}(hop:zgw op=true){x y z:Sc (sem P Q)}{obs:List Prop}
  (h:zp8 op x y=some (obs,z)) (ho:All obs) (t:TypeId) (w:World):(binOp op t x.toV y.toV).run P w=.ok z.toV w:=by
 unfold zp8 at h
 split at h
 ·rename_i k a hx
  split at h
  ·rename_i k' b hy
   simp only[Option.some.injEq,Prod.mk.injEq] at h
   obtain⟨rfl,rfl⟩:=h
   have hb:=zDx ho hy
   rw[zcm hx,zcm hy]
   have hb':¬b<0:=Int.not_lt.2 hb
   cases op<;>simp[zgw] at hop<;>simp[binOp,Op.shift,zsF,zaw,hb']
  ·simp at h
 ·simp at h
theorem zvP{wr:Bool}{op:BinOp}(hop:zgw op=false){x y z:Sc (sem P Q)}{obs:List Prop}
  (h:zxl wr op x y=some (obs,z)) (ho:All obs) (t:TypeId) (w:World):(binOp op t x.toV y.toV).run P w=.ok z.toV w:=by
 unfold zxl at h
 split at h
 ·rename_i k a hx
  split at h
  ·rename_i k' b hy
   cases hk:kEq k k'
   ·rw[hk] at h;simp at h
   ·rw[hk] at h
    obtain rfl:=zuQ hk
    simp only[cond_true] at h
    rw[zcm hx,zcm hy]
    exact zne hy h ho (by cases op<;>simp_all[zgw]) t w
  ·simp at h
 ·simp at h
theorem zD6{wr:Bool}{op:BinOp}(hop:zgw op=false){k:IntKind}{a b:Int}{z:Sc (sem P Q)}{obs:List Prop}
  (h:zGz (A:=sem P Q) wr op k a b=some (obs,z)) (ho:All obs) (t:TypeId) (w:World):(binOp op t (.int k a) (.int k b)).run P w=.ok z.toV w:=by
 unfold zGz at h
 split at h
 ·rename_i c hc
  simp only[Option.some.injEq,Prod.mk.injEq] at h
  obtain⟨rfl,rfl⟩:=h
  rw[zp4 op c hc t k a b w]
  simp only[toV_bool]
  congr 2
  cases c<;>simp[zHR,zHS,BE.den]
 ·exact zne (sy:=.intc k b) rfl h ho (by cases op<;>simp_all[zgw]) t w
theorem zD4{wr:Bool}{op:BinOp}{x y z:Sc (sem P Q)}{obs:List Prop}{t:TypeId}(ht:zsK x=true->P.underlying t=some .bool)
  (h:zue wr op x y=some (obs,z)) (ho:All obs) (w:World):(binOp op t x.toV y.toV).run P w=.ok z.toV w:=by
 unfold zue at h
 cases hop:zgw op
 ·rw[hop] at h
  simp only[cond_false] at h
  split at h
  ·split at h
   ·exact zA4 (ht rfl) h w
   ·simp at h
  ·split at h
   ·exact zD9 h ho w
   ·simp at h
  ·split at h
   ·rename_i k a _ k' b
    cases hk:kEq k k'
    ·rw[hk] at h;simp at h
    ·rw[hk] at h
     obtain rfl:=zuQ hk
     exact zD6 hop h ho t w
   ·exact zvP hop h ho t w
  ·exact zvP hop h ho t w
 ·rw[hop] at h
  exact zx4 hop h ho t w
def ziI(ops:Array Oper)(a:Act)(k:Nat×Bool):Prop:=yielded ops a.tmps k.1=some k.2
def zJF(ops:Array Oper)(a:Act)(i:Nat)(e:Ent (sem P Q)):Prop :=
 match e.2 with
 |none => a.tmps.getD i undef=e.1.toV
 |some k => (ziI ops a k->a.tmps.getD i undef=e.1.toV)/\(¬ziI ops a k->a.tmps.getD i undef=undef)
structure ztV(cfg:Cfg)(ops:Array Oper)(ro:Ro (sem P Q))(st:St (sem P Q))(a:Act):Prop where
 size:a.tmps.size=cfg.N
 defers:a.defers=[]
 fr:∀i e,ro.get st i=some e->zJF ops a i e
def zmx(w:World)(b:Blk (sem P Q)):Prop:=w.heap[(b.num:Nat)]?=some (.cells (b.cells.map Sc.toV).toArray b.ty)
structure zb7(ro:Ro (sem P Q))(st:St (sem P Q))(w:World):Prop where
 but:But (ro.dn st) st.anchor w
 bk:∀j b,ro.blk st j=some b->zmx w b
 lt:∀j b,ro.blk st j=some b->j<st.nx
 ord:∀i j b c,ro.blk st i=some b->ro.blk st j=some c->i<j->(b.num:Nat)<c.num
 ax:∀j b,ro.blk st j=some b->st.ax<=j->(World.heap st.anchor).size<=b.num
 nol:∀j b,ro.blk st j=some b->b.cells.all zcd=true
 same:∀j b b0,zdD ro.bl j=some b0->ro.blk st j=some b->b.num=b0.num/\b.ty=b0.ty
theorem sc?_some{r:Option (SL (sem P Q))}{x:Sc (sem P Q)}(h:sc? r=some x):r=some (.one (.sc x)):=by
 unfold sc? at h;split at h<;>simp_all
theorem one?_some{r:Option (SL (sem P Q))}{x:SV (sem P Q)}(h:one? r=some x):r=some (.one x):=by
 unfold one? at h;split at h<;>simp_all
def zbw(a:Act)(rd:Operand->Option (SL (sem P Q))):Prop:=∀x v,rd x=some v->a.eval x=v.toV
theorem zbw.sc{a:Act}{rd:Operand->Option (SL (sem P Q))}(h:zbw a rd){x:Operand}{v:Sc (sem P Q)}(hx:sc? (rd x)=some v):a.eval x=v.toV:=by
 have:=h x _ (sc?_some hx)
 simpa using this
theorem zbw.one{a:Act}{rd:Operand->Option (SL (sem P Q))}(h:zbw a rd){x:Operand}{v:SV (sem P Q)}(hx:one? (rd x)=some v):a.eval x=v.toV:=by
 have:=h x _ (one?_some hx)
 simpa using this
theorem zp5{op:BinOp}{t:TypeId}{x y:Operand}{u v:Value}(h:(∃k n,u=.int k n)\/(∃b,u=.bool b)\/(∃s,u=.string s)\/(∃p l c,u=.slice p l c)\/(∃p,u=.pointer p))(w:World) :
  (eqGuard op t x y u v).run P w=.ok () w:=by
 unfold eqGuard
 rcases h with⟨k,n,rfl⟩|⟨b,rfl⟩|⟨s,rfl⟩|⟨p,l,c,rfl⟩|⟨p,rfl⟩<;>simp<;>split<;>simp
def zbe(P:Program)(o:Oper)(a:Act)(w:World)(v:Value):Prop:=(execOp a.eval o).run P w=.ok (.value v) w
section
variable {a:Act} {w:World} {rd:Operand->Option (SL (sem P Q))} {o:Oper}
theorem zaZ{s:Sem Value}{v:Value}(h:execOp a.eval o=(do pure (.value (<-s))))(hs:s.run P w=.ok v w):zbe P o a w v:=by
 unfold zbe;rw[h];simp[hs]
theorem zH0{x:Operand}{v:SL (sem P Q)}(ho:o.op=.move x\/o.op=.assign x)(hr:zbw a rd)(h:rd x=some v):zbe P o a w v.toV:=by
 have:=hr x v h
 unfold zbe
 rcases ho with ho|ho<;>simp[execOp,ho,this]
theorem zAF{x z:Sc (sem P Q)}{wr:Bool}{op:BinOp}{y:Sc (sem P Q)}{obs:List Prop}(h:zue wr op x y=some (obs,z)) :
  (∃k n,x.toV=.int k n)\/(∃b,x.toV=.bool b)\/(∃s,x.toV=.string s):=by
 cases x with
 |int k n => exact .inl ⟨k,n,rfl⟩
 |intc k n => exact .inl ⟨k,n,rfl⟩
 |bool b => exact .inr (.inl ⟨b.den,rfl⟩)
 |str s => exact .inr (.inr ⟨s,rfl⟩)
 |_ => cases op<;>simp[zue,zgw,zp8,zxl,Sc.asI] at h
theorem zJS{op:BinOp}{t u:TypeId}{x y:Operand}{wr:Bool}{sx sy z:Sc (sem P Q)}{obs:List Prop}(ho:o.op=.binOp op t x y u)(hr:zbw a rd)
  (hx:sc? (rd x)=some sx) (hy:sc? (rd y)=some sy) (hb:zsK sx=true->P.underlying t=some .bool) (h:zue wr op sx sy=some (obs,z)) (hobs:All obs):zbe P o a w z.toV:=by
 refine zaZ (s:=do eqGuard op t x y (a.eval x) (a.eval y);binOp op t (a.eval x) (a.eval y)) (by simp[execOp,ho]) ?_
 rw[hr.sc hx,hr.sc hy]
 have hg:(∃k n,sx.toV=.int k n)\/(∃b,sx.toV=.bool b)\/(∃s,sx.toV=.string s)\/(∃p l c,sx.toV=.slice p l c)\/(∃p,sx.toV=.pointer p):=by
  rcases zAF h with h|h|h
  ·exact .inl h
  ·exact .inr (.inl h)
  ·exact .inr (.inr (.inl h))
 simp only[Sem.run_bind,zp5 hg,Result.andThen_ok]
 exact zD4 hb h hobs w
theorem g_nil{op:BinOp}{t u:TypeId}{x y:Operand}{sx z:Sc (sem P Q)}{obs:List Prop}(ho:o.op=.binOp op t x y u)(hr:zbw a rd)
  (hx:sc? (rd x)=some sx) (hf:zmP sx y=true)
  (h:zAW P op t sx=some (obs,z)):zbe P o a w z.toV:=by
 refine zaZ (s:=do eqGuard op t x y (a.eval x) (a.eval y);binOp op t (a.eval x) (a.eval y)) (by simp[execOp,ho]) ?_
 rw[hr.sc hx]
 have key:=zD8 h w
 have hg:(∃k n,sx.toV=.int k n)\/(∃b,sx.toV=.bool b)\/(∃s,sx.toV=.string s)\/(∃p l c,sx.toV=.slice p l c)\/(∃p,sx.toV=.pointer p):=by
  cases sx with
  |slc p l c => exact .inr (.inr (.inr (.inl ⟨p,l,c,rfl⟩)))
  |ptr p => exact .inr (.inr (.inr (.inr ⟨p,rfl⟩)))
  |_ => simp[zmP] at hf
 simp only[Sem.run_bind,zp5 hg,Result.andThen_ok]
 have hy:a.eval y=zLf sx:=by
  cases sx with
  |slc p l c =>
   simp only[zmP,Bool.and_eq_true] at hf
   have h2:=hf.2
   unfold zjF at h2
   split at h2
   ·rfl
   ·simp at h2
  |ptr p =>
   simp only[zmP,Bool.and_eq_true,Bool.not_eq_true'] at hf
   have h1:=hf.1
   unfold zDg at h1
   split at h1
   ·simp[zjF] at hf
   ·rfl
   ·simp at h1
  |_ => simp[zmP] at hf
 rw[hy];exact key
theorem zlt{t:TypeId}{d:TypeDesc}(h:P.underlying t=some d):∃i,P.info? t=some i:=by
 unfold Program.underlying at h
 cases hi:P.info? t with
 |none => simp[hi] at h
 |some i => exact⟨i,rfl⟩
theorem zbD{t:TypeId}{d:TypeDesc}(h:P.underlying t=some d)(w:World):(sizeOf t).run P w=.ok (P.cellsOf t) w:=by
 obtain⟨i,hi⟩:=zlt h
 simp[sizeOf,typeInfo,hi,Program.cellsOf]
theorem zeo{t:TypeId}{d:TypeDesc}(h:P.underlying t=some d)(w:World):(isAgg t).run P w=.ok (zda P t) w:=by
 simp only[isAgg,Sem.run_bind,run_underlying h,Result.andThen_ok,zda,h]
 cases d<;>rfl
theorem zkV{α:Type}:∀(n:Nat)(l:List α),zd3 n l=l.take n
 |0,l => by simp[zd3]
 |n+1,[] => by simp[zd3]
 |n+1,x::r => by simp[zd3,zkV n r]
theorem zdR{α:Type}:∀(n:Nat)(l:List α),zbB n l=l.drop n
 |0,l => by simp[zbB]
 |n+1,[] => by simp[zbB]
 |n+1,x::r => by simp[zbB,zdR n r]
theorem zh2{α β:Type}(f:α->β):∀(vs:List α)(l:List α)(i:Nat),(zaE l i vs).map f=zaE (l.map f) i (vs.map f)
 |[],l,i => by simp[zaE]
 |v::r,l,i => by simp[zaE,zh2 f r,List.map_set]
theorem zHa{t:TypeId}{cs:List (Sc (sem P Q))}{off:Nat}{v:SV (sem P Q)}(h:zje P t cs off=some v)(w:World) :
  (part t (cs.map Sc.toV).toArray off).run P w=.ok v.toV w:=by
 unfold zje at h
 split at h
 ·simp at h
 ·rename_i d hd
  simp only[part,Sem.run_bind,zeo hd,Result.andThen_ok]
  cases ha:zda P t
  ·rw[ha] at h
   simp only[cond_false,zdR] at h
   split at h
   ·rename_i x r hx
    simp only[Option.some.injEq] at h
    subst h
    have h2:cs[off]?=some x:=by
     have:=congrArg (fun l=>l[0]?) hx
     simpa using this
    simp[h2]
   ·simp at h
  ·rw[ha] at h
   simp only[cond_true,Option.some.injEq] at h
   subst h
   simp only[if_true,Sem.run_bind,zbD hd,Result.andThen_ok,Sem.run_pure,toV_agg,zkV,zdR]
   congr 2
   simp[List.map_take,List.map_drop]
theorem zCM{x:Operand}{i:Nat}{l:List (SV (sem P Q))}{v:SV (sem P Q)}{r:List (SV (sem P Q))}(ho:o.op=.extract x i)(hr:zbw a rd)(hx:rd x=some (.tup l))
  (h:zbB i l=v::r):zbe P o a w v.toV:=by
 have e:=hr x _ hx
 rw[zdR] at h
 have h2:l[i]?=some v:=by
  have:=congrArg (fun l=>l[0]?) h
  simpa using this
 refine zaZ (s:=Instr.extract (a.eval x) i) (by simp[execOp,ho]) ?_
 rw[e]
 simp[Instr.extract,h2]
theorem znL{t:TypeId}{f off:Nat}{u:TypeId}(h:zgv P t f=some (off,u)):∃fs:Array Field,∃x:Field,P.underlying t=some (.struct fs)/\fs[f]?=some x/\x.offset=off/\x.type=u:=by
 unfold zgv at h
 split at h
 ·rename_i fs hu
  split at h
  ·rename_i x hx
   simp only[Option.some.injEq,Prod.mk.injEq] at h
   exact⟨fs,x,hu,hx,h.1,h.2⟩
  ·simp at h
 ·simp at h
theorem zJU{t u:TypeId}{x:Operand}{f off:Nat}{cs:List (Sc (sem P Q))}{v:SV (sem P Q)}(ho:o.op=.field t x f)(hr:zbw a rd)(hx:rd x=some (.one (.agg cs)))
  (hf:zgv P t f=some (off,u)) (h:zje P u cs off=some v):zbe P o a w v.toV:=by
 have e:=hr x _ hx
 obtain⟨fs,y,h1,h2,rfl,rfl⟩:=znL hf
 refine zaZ (s:=Instr.field t (a.eval x) f) (by simp[execOp,ho]) ?_
 rw[e]
 simp only[Instr.field,Sem.run_bind,run_underlying h1,Result.andThen_ok,h2,toV_one,toV_agg,asAgg,Sem.run_pure]
 exact zHa h w
theorem zqN{x:Operand}{p:Option Addr}(ho:o.op=.nilCheck x)(hr:zbw a rd)(hx:sc? (rd x)=some (.ptr p))(hp:p≠none):zbe P o a w (.pointer p):=by
 have e:=hr.sc hx
 simp only[toV_ptr] at e
 cases p with
 |none => exact absurd rfl hp
 |some q => unfold zbe;simp[execOp,ho,e]
theorem zqM{x:Operand}{j off:Nat}{b:Nat}(ho:o.op=.nilCheck x)(hr:zbw a rd)(hx:sc? (rd x)=some (Sc.loc (A:=sem P Q) j b off)):zbe P o a w (.pointer (some ⟨b,off,none⟩)):=by
 have e:=hr.sc hx
 simp only[toV_loc] at e
 unfold zbe;simp[execOp,ho,e]
theorem zp6{t u:TypeId}{f off:Nat}(hf:zgv P t f=some (off,u))(h0:(P.cellsOf u).beq 0=false)(q:Addr)(w:World) :
  (Instr.fieldAt t (.pointer (some q)) f).run P w=.ok (.pointer (some (q.add off))) w:=by
 obtain⟨fs,y,h1,h2,rfl,rfl⟩:=znL hf
 have hne:P.cellsOf y.type≠0:=fun h=>by rw[h] at h0;simp at h0
 have hs:(sizeOf y.type).run P w=.ok (P.cellsOf y.type) w:=by
  unfold Program.cellsOf at *
  cases hi:P.info? y.type with
  |none => simp[hi] at hne
  |some i => simp[sizeOf,typeInfo,hi]
 simp only[Instr.fieldAt,Sem.run_bind,run_underlying h1,Result.andThen_ok,h2,Instr.sureAddr,Sem.run_pure,fieldPlace,hs,hne,if_false]
theorem zms(b o n:Nat):(⟨b,o,none⟩:Addr).add n=⟨b,o+n,none⟩:=by
 unfold Addr.add;split<;>simp_all
theorem zpj{t u:TypeId}{x:Operand}{f off j o':Nat}{b:Nat}(ho:o.op=.fieldAddr t x f)(hr:zbw a rd)(hx:sc? (rd x)=some (Sc.loc (A:=sem P Q) j b o'))
  (hf:zgv P t f=some (off,u)) (h0:(P.cellsOf u).beq 0=false):zbe P o a w (.pointer (some ⟨b,o'+off,none⟩)):=by
 have e:=hr.sc hx
 refine zaZ (s:=Instr.fieldAt t (a.eval x) f) (by simp[execOp,ho]) ?_
 rw[e]
 simp only[toV_loc]
 rw[zp6 hf h0,zms]
theorem zpk{t u:TypeId}{x:Operand}{f off:Nat}{p:Option Addr}(ho:o.op=.fieldAddr t x f)(hr:zbw a rd)(hx:sc? (rd x)=some (Sc.ptr (A:=sem P Q) p))
  (hf:zgv P t f=some (off,u)) (h0:(P.cellsOf u).beq 0=false) (hp:p≠none):zbe P o a w (.pointer (pAdd p off)):=by
 have e:=hr.sc hx
 cases p with
 |none => exact absurd rfl hp
 |some q =>
  refine zaZ (s:=Instr.fieldAt t (a.eval x) f) (by simp[execOp,ho]) ?_
  rw[e]
  simp only[toV_ptr]
  rw[zp6 hf h0];rfl
theorem zpn{t e:TypeId}{x ix:Operand}{p:Option Addr}{l c:Nat}{si:Sc (sem P Q)}{k:IntKind}{n:Int}(ho:o.op=.indexAddr t x ix)(hr:zbw a rd)
  (hx:sc? (rd x)=some (Sc.slc (A:=sem P Q) p l c)) (hi:sc? (rd ix)=some si) (hk:si.asI=some (k,n)) (ht:P.underlying t=some (.slice e)) (he:(P.underlying e).isSome=true)
  (hp:p≠none) (h0:0<=n) (h1:n<(l:Int)):zbe P o a w (.pointer (pIdx p n (P.cellsOf e))):=by
 have ex:=hr.sc hx
 have ei:=hr.sc hi
 rw[zcm hk] at ei
 obtain⟨d,hd⟩:=Option.isSome_iff_exists.1 he
 cases p with
 |none => exact absurd rfl hp
 |some q =>
  refine zaZ (s:=Instr.indexAt t (a.eval x) (a.eval ix)) (by simp[execOp,ho]) ?_
  rw[ex,ei]
  simp[Instr.indexAt,asIntOf,run_underlying ht,h0,h1,zbD hd,pIdx]
theorem zpm{t e:TypeId}{x ix:Operand}{p:Option Addr}{l:Nat}{si:Sc (sem P Q)}{k:IntKind}{n:Int}(ho:o.op=.indexAddr t x ix)(hr:zbw a rd)
  (hx:sc? (rd x)=some (Sc.ptr (A:=sem P Q) p)) (hi:sc? (rd ix)=some si) (hk:si.asI=some (k,n)) (ht:P.underlying t=some (.array l e)) (he:(P.underlying e).isSome=true)
  (hp:p≠none) (h0:0<=n) (h1:n<(l:Int)):zbe P o a w (.pointer (pIdx p n (P.cellsOf e))):=by
 have ex:=hr.sc hx
 have ei:=hr.sc hi
 rw[zcm hk] at ei
 obtain⟨d,hd⟩:=Option.isSome_iff_exists.1 he
 cases p with
 |none => exact absurd rfl hp
 |some q =>
  refine zaZ (s:=Instr.indexAt t (a.eval x) (a.eval ix)) (by simp[execOp,ho]) ?_
  rw[ex,ei]
  simp[Instr.indexAt,asIntOf,run_underlying ht,h0,h1,zbD hd,pIdx,Instr.sureAddr]
theorem zpl{t e:TypeId}{x ix:Operand}{j off:Nat}{b:Nat}{l:Nat}{k:IntKind}{n:Int}(ho:o.op=.indexAddr t x ix)(hr:zbw a rd)
  (hx:sc? (rd x)=some (Sc.loc (A:=sem P Q) j b off)) (hi:sc? (rd ix)=some (Sc.intc k n)) (ht:P.underlying t=some (.array l e)) (he:(P.underlying e).isSome=true)
  (h0:0<=n) (h1:n<(l:Int)):zbe P o a w (.pointer (some ⟨b,off+n.toNat*P.cellsOf e,none⟩)):=by
 have ex:=hr.sc hx
 have ei:=hr.sc hi
 obtain⟨d,hd⟩:=Option.isSome_iff_exists.1 he
 refine zaZ (s:=Instr.indexAt t (a.eval x) (a.eval ix)) (by simp[execOp,ho]) ?_
 rw[ex,ei]
 simp[Instr.indexAt,asIntOf,run_underlying ht,h0,h1,zbD hd,Instr.sureAddr,zms]
theorem zxb{t:TypeId}{x ix:Operand}{s:ByteArray}{si:Sc (sem P Q)}{k:IntKind}{n:Int}(ho:o.op=.index t x ix)(hr:zbw a rd)
  (hx:sc? (rd x)=some (Sc.str (A:=sem P Q) s)) (hi:sc? (rd ix)=some si) (hk:si.asI=some (k,n)) (ht:P.underlying t=some .string)
  (h0:0<=n) (h1:n<(s.size:Int)):zbe P o a w (.int .u8 (sAt s n)):=by
 have ex:=hr.sc hx
 have ei:=hr.sc hi
 rw[zcm hk] at ei
 refine zaZ (s:=Instr.index t (a.eval x) (a.eval ix)) (by simp[execOp,ho]) ?_
 rw[ex,ei]
 have hn:n.toNat<s.size:=by omega
 have hb:s[n.toNat]?=some s[n.toNat]:=by simp[hn]
 have hd:s.data.toList[n.toNat]?=some s[n.toNat]:=by
  rw[List.getElem?_eq_getElem (by simpa using hn)];rfl
 simp[Instr.index,asIntOf,run_underlying ht,h0,hb,sAt,hd]
theorem zcc{v:Value}{k:IntKind}{n:Int}{y:Nat}{code:BoundsCode}(hv:v=.int k n)(h0:0<=n)(h1:n<=(y:Int))(w:World):(Instr.sliceBound v y code).run P w=.ok n.toNat w:=by
 subst hv
 simp[Instr.sliceBound,asIntOf,h0,h1]
theorem zfa{a:Act}{rd:Operand->Option (SL (sem P Q))}(hr:zbw a rd){y:Operand}{d n:Int}(h:zfv (A:=sem P Q) rd (some y) d=some n):∃k,a.eval y=.int k n:=by
 unfold zfv at h
 simp only[Option.bind_eq_some_iff] at h
 obtain⟨s,hs,h⟩:=h
 cases hk:s.asI with
 |none => rw[hk] at h;simp at h
 |some kn =>
  obtain⟨k,m⟩:=kn
  rw[hk] at h
  simp only[Option.map_some,Option.some.injEq] at h
  subst h
  exact⟨k,by rw[hr.sc hs,zcm hk]⟩
theorem zxd{t:TypeId}{x:Operand}{lo hi:Option Operand}{s:ByteArray}{l h:Int}(ho:o.op=.slice t x lo hi none)(hr:zbw a rd)
  (hx:sc? (rd x)=some (Sc.str (A:=sem P Q) s)) (ht:P.underlying t=some .string) (hl:zfv (A:=sem P Q) rd lo (0:Int)=some l) (hh:zfv (A:=sem P Q) rd hi (s.size:Int)=some h)
  (h0:0<=l) (h1:l<=h) (h2:h<=(s.size:Int)):zbe P o a w (.string (s.extract l.toNat h.toNat)):=by
 have ex:=hr.sc hx
 refine zaZ (s:=Instr.sliceAt t (a.eval x) (lo.map a.eval) (hi.map a.eval) (Option.map a.eval none)) (by simp[execOp,ho]) ?_
 rw[ex]
 have hb:∀w,(Instr.sliceBounds false s.size s.size (lo.map a.eval) (hi.map a.eval) none).run P w=.ok (l.toNat,h.toNat,s.size) w:=by
  intro w
  unfold Instr.sliceBounds
  cases hi with
  |none =>
   simp only[zfv,Option.some.injEq] at hh
   subst hh
   cases lo with
   |none =>
    simp only[zfv,Option.some.injEq] at hl
    subst hl
    simp
   |some y =>
    obtain⟨k,hk⟩:=zfa hr hl
    simp only[Option.map_none,Option.map_some,pure_bind,Sem.run_bind]
    rw[zcc hk h0 (by omega)]
    simp
  |some z =>
   obtain⟨k',hk'⟩:=zfa hr hh
   cases lo with
   |none =>
    simp only[zfv,Option.some.injEq] at hl
    subst hl
    simp only[Option.map_none,Option.map_some,pure_bind,Sem.run_bind]
    rw[zcc hk' (by omega) h2]
    simp
   |some y =>
    obtain⟨k,hk⟩:=zfa hr hl
    simp only[Option.map_some,pure_bind,Sem.run_bind]
    rw[zcc hk' (by omega) h2]
    simp only[Result.andThen_ok]
    rw[zcc hk h0 (by omega)]
    simp
 simp[Instr.sliceAt,Instr.slice,run_underlying ht,hb]
theorem zGf{t e:TypeId}{x z:Operand}{lo hi:Option Operand}{p:Option Addr}{len cap:Nat}{l h m:Int}(ho:o.op=.slice t x lo hi (some z))(hr:zbw a rd)
  (hx:sc? (rd x)=some (Sc.slc (A:=sem P Q) p len cap)) (ht:P.underlying t=some (.slice e)) (he:(P.underlying e).isSome=true) (hsome:hi.isSome=true) (hl:zfv (A:=sem P Q) rd lo (0:Int)=some l) (hh:zfv (A:=sem P Q) rd hi (len:Int)=some h) (hm:zfv (A:=sem P Q) rd (some z) (cap:Int)=some m)
  (h0:0<=l) (h1:l<=h) (h2:h<=m) (h3:m<=(cap:Int)):zbe P o a w (.slice (pCut p m.toNat l (P.cellsOf e)) (h-l).toNat (m.toNat-l.toNat)):=by
 have ex:=hr.sc hx
 obtain⟨d,hd⟩:=Option.isSome_iff_exists.1 he
 refine zaZ (s:=Instr.sliceAt t (a.eval x) (lo.map a.eval) (hi.map a.eval) (Option.map a.eval (some z))) (by simp[execOp,ho]) ?_
 rw[ex]
 obtain⟨k3,hk3⟩:=zfa hr hm
 have hb:∀w,(Instr.sliceBounds true len cap (lo.map a.eval) (hi.map a.eval) (some (a.eval z))).run P w=.ok (l.toNat,h.toNat,m.toNat) w:=by
  intro w
  unfold Instr.sliceBounds
  cases hi with
  |none => cases hsome
  |some y =>
   obtain⟨k',hk'⟩:=zfa hr hh
   cases lo with
   |none =>
    simp only[zfv,Option.some.injEq] at hl
    subst hl
    simp only[Option.map_none,Option.map_some,pure_bind,Sem.run_bind]
    rw[zcc hk3 (by omega) h3]
    simp only[Result.andThen_ok]
    rw[zcc hk' (by omega) (by omega)]
    simp
   |some u =>
    obtain⟨k,hk⟩:=zfa hr hl
    simp only[Option.map_some,pure_bind,Sem.run_bind]
    rw[zcc hk3 (by omega) h3]
    simp only[Result.andThen_ok]
    rw[zcc hk' (by omega) (by omega)]
    simp only[Result.andThen_ok]
    rw[zcc hk h0 (by omega)]
    simp
 have hlen:(h-l).toNat=h.toNat-l.toNat:=by omega
 simp[Instr.sliceAt,Instr.slice,run_underlying ht,hb,zbD hd,pCut,hlen]
theorem zxc{t e:TypeId}{x:Operand}{lo hi:Option Operand}{p:Option Addr}{len cap:Nat}{l h:Int}(ho:o.op=.slice t x lo hi none)(hr:zbw a rd)
  (hx:sc? (rd x)=some (Sc.slc (A:=sem P Q) p len cap)) (ht:P.underlying t=some (.slice e)) (he:(P.underlying e).isSome=true) (hl:zfv (A:=sem P Q) rd lo (0:Int)=some l) (hh:zfv (A:=sem P Q) rd hi (len:Int)=some h)
  (h0:0<=l) (h1:l<=h) (h2:h<=(cap:Int)):zbe P o a w (.slice (pCut p cap l (P.cellsOf e)) (h-l).toNat (cap-l.toNat)):=by
 have ex:=hr.sc hx
 obtain⟨d,hd⟩:=Option.isSome_iff_exists.1 he
 refine zaZ (s:=Instr.sliceAt t (a.eval x) (lo.map a.eval) (hi.map a.eval) (Option.map a.eval none)) (by simp[execOp,ho]) ?_
 rw[ex]
 have hb:∀w,(Instr.sliceBounds true len cap (lo.map a.eval) (hi.map a.eval) none).run P w=.ok (l.toNat,h.toNat,cap) w:=by
  intro w
  unfold Instr.sliceBounds
  cases hi with
  |none =>
   simp only[zfv,Option.some.injEq] at hh
   subst hh
   cases lo with
   |none =>
    simp only[zfv,Option.some.injEq] at hl
    subst hl
    simp
   |some y =>
    obtain⟨k,hk⟩:=zfa hr hl
    simp only[Option.map_none,Option.map_some,pure_bind,Sem.run_bind]
    rw[zcc hk h0 (by omega)]
    simp
  |some z =>
   obtain⟨k',hk'⟩:=zfa hr hh
   cases lo with
   |none =>
    simp only[zfv,Option.some.injEq] at hl
    subst hl
    simp only[Option.map_none,Option.map_some,pure_bind,Sem.run_bind]
    rw[zcc hk' (by omega) h2]
    simp
   |some y =>
    obtain⟨k,hk⟩:=zfa hr hl
    simp only[Option.map_some,pure_bind,Sem.run_bind]
    rw[zcc hk' (by omega) h2]
    simp only[Result.andThen_ok]
    rw[zcc hk h0 (by omega)]
    simp
 have hlen:(h-l).toNat=h.toNat-l.toNat:=by omega
 simp[Instr.sliceAt,Instr.slice,run_underlying ht,hb,zbD hd,pCut,hlen]
theorem zr8{t:TypeId}{b off:Nat}{cs:List (Sc (sem P Q))}{ty:TypeId}{v:SV (sem P Q)}(hb:w.heap[b]?=some (.cells (cs.map Sc.toV).toArray ty))
  (h:zje P t cs off=some v) (hl:(v.cells.length).beq (P.cellsOf t)=true):(Instr.loadAt t (.pointer (some ⟨b,off,none⟩))).run P w=.ok v.toV w:=by
 have hl':v.cells.length=P.cellsOf t:=by simpa using hl
 have hcell:∀i x,cs[i]?=some x->w.cell? ⟨b,i,none⟩=some x.toV:=by
  intro i x hx
  simp[World.cell?,hb,hx]
 unfold zje at h
 split at h
 ·simp at h
 ·rename_i d hd
  simp only[Instr.loadAt,Instr.sureAddr,Sem.run_bind,Sem.run_pure,Result.andThen_ok,loadVar,zeo hd]
  cases ha:zda P t
  ·rw[ha] at h
   simp only[cond_false,zdR] at h
   split at h
   ·rename_i x r hx
    simp only[Option.some.injEq] at h
    subst h
    have h2:cs[off]?=some x:=by
     have:=congrArg (fun l=>l[0]?) hx
     simpa using this
    simp[hcell off x h2]
   ·simp at h
  ·rw[ha] at h
   simp only[cond_true,Option.some.injEq] at h
   subst h
   simp only[if_true,Sem.run_bind,zbD hd,Result.andThen_ok]
   simp only[SV.cells,zkV,zdR] at hl'
   have hlc:∀j u,(((cs.drop off).take (P.cellsOf t)).map Sc.toV)[j]?=some u->w.cell? (Addr.add ⟨b,off,none⟩ j)=some u:=by
    intro j u hj
    rw[zms]
    rw[List.getElem?_map] at hj
    simp only[Option.map_eq_some_iff] at hj
    obtain⟨x,hx,rfl⟩:=hj
    rw[List.getElem?_take] at hx
    split at hx
    ·rw[List.getElem?_drop] at hx
     exact hcell _ x hx
    ·simp at hx
   have:=run_loadCells_list (P:=P) (w:=w) ⟨b,off,none⟩ (((cs.drop off).take (P.cellsOf t)).map Sc.toV) hlc
   rw[List.length_map,hl'] at this
   rw[this]
   simp[zkV,zdR]
theorem zAI{t:TypeId}{x:Operand}{j off:Nat}{b:Nat}{cs:List (Sc (sem P Q))}{ty:TypeId}{v:SV (sem P Q)}(ho:o.op=.load t x)(hr:zbw a rd)
  (hx:sc? (rd x)=some (Sc.loc (A:=sem P Q) j b off)) (hb:w.heap[b]?=some (.cells (cs.map Sc.toV).toArray ty))
  (h:zje P t cs off=some v) (hl:(v.cells.length).beq (P.cellsOf t)=true):zbe P o a w v.toV:=by
 have ex:=hr.sc hx
 refine zaZ (s:=Instr.loadAt t (a.eval x)) (by simp[execOp,ho]) ?_
 rw[ex]
 exact zr8 hb h hl
theorem zi3{b:Builtin}{args:Array Operand}{ats:Array TypeId}{s:Sem Value}{v:Value}(ho:o.op=.call { callee:=.builtin b,args,argTypes:=ats })
  (hb:∀cs,builtin b ats o.type cs (args.map a.eval)=(do pure (.value (<-s)))) (h:s.run P w=.ok v w):zbe P o a w v:=by
 unfold zbe
 have:execOp a.eval o=builtin b ats o.type (args.map fun|.const _=>true|_=>false) (args.map a.eval):=by
  cases o;subst ho;rfl
 rw[this,hb]
 simp[h]
theorem zdB{rd:Operand->Option (SL (sem P Q))}(hr:zbw a rd):∀{xs:List Operand} {l:List (SV (sem P Q))},znc rd xs=some l->xs.map a.eval=l.map SV.toV
 |[],l,h => by simp[znc] at h;subst h;rfl
 |x::r,l,h => by
  unfold znc at h
  split at h
  ·rename_i v l' hv hl
   simp only[Option.some.injEq] at h
   subst h
   simp[hr.one hv,zdB hr hl]
  ·simp at h
theorem zAJ{f:Nat}{first captured:Array Operand}{l:List (SV (sem P Q))}(ho:o.op=.makeFunc (.func f) first captured)(hr:zbw a rd)(hf:first.toList=[])
  (h:znc rd captured.toList=some l):zbe P o a w (.func (.func f) #[] (l.map SV.toV).toArray):=by
 have e:=zdB hr h
 refine zaZ (s:=Instr.makeFunc (.func f) (first.map a.eval) (captured.map a.eval)) (by simp[execOp,ho]) ?_
 have h1:first=#[]:=by simpa using hf
 have h2:captured.map a.eval=(l.map SV.toV).toArray:=by
  rw[<-e,<-Array.toList_map]
 simp[Instr.makeFunc,h1,h2]
theorem minI(b x:Int):(if b<x then b else x)=min x b:=by rw[Int.min_def];split<;>split<;>omega
theorem maxI(b x:Int):(if b>x then b else x)=max x b:=by rw[Int.max_def];split<;>split<;>omega
theorem zBf{α:Type}{xs:Array α}{l:List α}(h:xs.toList=l):xs=l.toArray:=by rw[<-h]
theorem zux:∀{r:List (SV (sem P Q))} {k:IntKind} {x:Int} {z:Sc (sem P Q)},zi2 (A:=sem P Q) (fun x y=>min x y) k x r=some z ->
  ((r.map SV.toV).foldlM Builtin.min2 (Value.int k x)).run P w=.ok z.toV w
 |[],k,x,z,h => by simp[zi2] at h;subst h;simp
 |.agg _::_,k,x,z,h => by simp[zi2] at h
 |.sc y::r,k,x,z,h => by
  unfold zi2 at h
  split at h
  ·rename_i k' b hy
   cases hk:kEq k k'
   ·rw[hk] at h;simp at h
   ·rw[hk] at h
    obtain rfl:=zuQ hk
    simp only[cond_true] at h
    simp only[List.map_cons,List.foldlM_cons,toV_sc,zcm hy,Builtin.min2,Sem.run_bind,Sem.run_pure,Result.andThen_ok]
    rw[minI b x]
    exact zux h
  ·simp at h
theorem zuw:∀{r:List (SV (sem P Q))} {k:IntKind} {x:Int} {z:Sc (sem P Q)},zi2 (A:=sem P Q) (fun x y=>max x y) k x r=some z ->
  ((r.map SV.toV).foldlM Builtin.max2 (Value.int k x)).run P w=.ok z.toV w
 |[],k,x,z,h => by simp[zi2] at h;subst h;simp
 |.agg _::_,k,x,z,h => by simp[zi2] at h
 |.sc y::r,k,x,z,h => by
  unfold zi2 at h
  split at h
  ·rename_i k' b hy
   cases hk:kEq k k'
   ·rw[hk] at h;simp at h
   ·rw[hk] at h
    obtain rfl:=zuQ hk
    simp only[cond_true] at h
    simp only[List.map_cons,List.foldlM_cons,toV_sc,zcm hy,Builtin.max2,Sem.run_bind,Sem.run_pure,Result.andThen_ok]
    rw[maxI b x]
    exact zuw h
  ·simp at h
theorem g_min{args:Array Operand}{ats:Array TypeId}{x:Sc (sem P Q)}{r:List (SV (sem P Q))}{k:IntKind}{n:Int}{z:Sc (sem P Q)}(ho:o.op=.call { callee:=.builtin .min,args,argTypes:=ats })(hr:zbw a rd)
  (h:znc rd args.toList=some (.sc x::r)) (hx:x.asI=some (k,n)) (hz:zi2 (A:=sem P Q) (fun x y=>min x y) k n r=some z):zbe P o a w z.toV:=by
 have e:=zdB hr h
 refine zi3 ho (s:=Builtin.min_ ats o.type (args.map a.eval)) (fun cs=>rfl) ?_
 unfold Builtin.min_
 have:(args.map a.eval).toList=Value.int k n::r.map SV.toV:=by rw[Array.toList_map,e];simp[zcm hx]
 rw[this]
 exact zux hz
theorem g_max{args:Array Operand}{ats:Array TypeId}{x:Sc (sem P Q)}{r:List (SV (sem P Q))}{k:IntKind}{n:Int}{z:Sc (sem P Q)}(ho:o.op=.call { callee:=.builtin .max,args,argTypes:=ats })(hr:zbw a rd)
  (h:znc rd args.toList=some (.sc x::r)) (hx:x.asI=some (k,n)) (hz:zi2 (A:=sem P Q) (fun x y=>max x y) k n r=some z):zbe P o a w z.toV:=by
 have e:=zdB hr h
 refine zi3 ho (s:=Builtin.max_ ats o.type (args.map a.eval)) (fun cs=>rfl) ?_
 unfold Builtin.max_
 have:(args.map a.eval).toList=Value.int k n::r.map SV.toV:=by rw[Array.toList_map,e];simp[zcm hx]
 rw[this]
 exact zuw hz
theorem zCN{args:Array Operand}{ats:Array TypeId}{x:Operand}{t e:TypeId}{p:Option Addr}{l c:Nat}(ho:o.op=.call { callee:=.builtin .len,args,argTypes:=ats })(hr:zbw a rd)
  (ha:args.toList=[x]) (ht:ats.toList=[t]) (hu:P.underlying t=some (.slice e)) (hx:sc? (rd x)=some (Sc.slc (A:=sem P Q) p l c)):zbe P o a w (.int .i64 (l:Int)):=by
 have ex:=hr.sc hx
 obtain rfl:=zBf ha
 obtain rfl:=zBf ht
 refine zi3 ho (s:=Builtin.len_ [t].toArray o.type ([x].toArray.map a.eval)) (fun cs=>rfl) ?_
 simp[Builtin.len_,ex,run_underlying hu,goInt]
theorem zCO{args:Array Operand}{ats:Array TypeId}{x:Operand}{t:TypeId}{s:ByteArray}(ho:o.op=.call { callee:=.builtin .len,args,argTypes:=ats })(hr:zbw a rd)
  (ha:args.toList=[x]) (ht:ats.toList=[t]) (hu:P.underlying t=some .string) (hx:sc? (rd x)=some (Sc.str (A:=sem P Q) s)):zbe P o a w (.int .i64 (s.size:Int)):=by
 have ex:=hr.sc hx
 obtain rfl:=zBf ha
 obtain rfl:=zBf ht
 refine zi3 ho (s:=Builtin.len_ [t].toArray o.type ([x].toArray.map a.eval)) (fun cs=>rfl) ?_
 simp[Builtin.len_,ex,run_underlying hu,goInt]
theorem zCL{args:Array Operand}{ats:Array TypeId}{x:Operand}{t e:TypeId}{p:Option Addr}{l c:Nat}(ho:o.op=.call { callee:=.builtin .cap,args,argTypes:=ats })(hr:zbw a rd)
  (ha:args.toList=[x]) (ht:ats.toList=[t]) (hu:P.underlying t=some (.slice e)) (hx:sc? (rd x)=some (Sc.slc (A:=sem P Q) p l c)):zbe P o a w (.int .i64 (c:Int)):=by
 have ex:=hr.sc hx
 obtain rfl:=zBf ha
 obtain rfl:=zBf ht
 refine zi3 ho (s:=Builtin.cap_ [t].toArray o.type ([x].toArray.map a.eval)) (fun cs=>rfl) ?_
 simp[Builtin.cap_,ex,run_underlying hu,goInt]
theorem zAg(off:Nat):∀(vs:List Value)(k:Nat)(cs:List Value),
  (vs.zipIdx k).foldl (fun(cs:Array Value) (x:Value×Nat)=>cs.setIfInBounds (off+x.2) x.1) cs.toArray=(zaE cs (off+k) vs).toArray
 |[],k,cs => by simp[zaE]
 |v::r,k,cs => by
  simp only[List.zipIdx_cons,List.foldl_cons,zaE]
  have:=zAg off r (k+1) (cs.set (off+k) v)
  rw[show off+(k+1)=off+k+1 from rfl] at this
  rw[<-this]
  congr 1
  simp
def zgU(v:SV (sem P Q)):Prop:=v.toV.cells=(v.cells.map Sc.toV).toArray
theorem zDJ{v:SV (sem P Q)}(h:All (znU v.cells)):zgU v:=by
 cases v with
 |agg l => rfl
 |sc x =>
  cases x with
  |val u =>
   have h1:u.oneCell'=true:=h.1
   show u.cells=#[u]
   cases u<;>first|rfl|(simp[Value.oneCell'] at h1)
  |_ => rfl
theorem zw5{place:Nat->Option (Nat×Nat)}:∀{ps:List (Nat×SV (sem P Q))} {cs cs':List (Sc (sem P Q))},zdS place cs ps=some cs'->(∀x∈ps,zgU x.2) ->
  Instr.fill place (cs.map Sc.toV).toArray (ps.map fun x=>(x.1,x.2.toV))=some (cs'.map Sc.toV).toArray
 |[],cs,cs',h,_ => by simp[zdS] at h;subst h;rfl
 |(i,v)::r,cs,cs',h,hp => by
  unfold zdS at h
  split at h
  ·rename_i off size hpl
   have hv:zgU v:=hp (i,v) (List.mem_cons_self ..)
   cases hc:(Nat.beq v.cells.length size&&Nat.ble (off+size) cs.length)
   ·rw[hc] at h;simp at h
   ·rw[hc] at h
    simp only[cond_true] at h
    simp only[Bool.and_eq_true,Nat.beq_eq,Nat.ble_eq] at hc
    have ih:=zw5 h fun x hx=>hp x (List.mem_cons_of_mem _ hx)
    simp only[List.map_cons,Instr.fill,hpl]
    unfold zgU at hv
    rw[hv]
    rw[if_neg (by simp;omega)]
    rw[<-ih]
    congr 1
    have:=zAg off (v.cells.map Sc.toV) 0 (cs.map Sc.toV)
    rw[zh2]
    rw[Nat.add_zero] at this
    rw[<-this]
    rw[<-Array.foldl_toList]
    simp
  ·simp at h
theorem zjg{rd:Operand->Option (SL (sem P Q))}(hr:zbw a rd):∀{xs:List (Nat×Operand)} {l:List (Nat×SV (sem P Q))},zkP rd xs=some l ->
  xs.map (fun x=>(x.1,a.eval x.2))=l.map fun x=>(x.1,x.2.toV)
 |[],l,h => by simp[zkP] at h;subst h;rfl
 |(i,x)::r,l,h => by
  unfold zkP at h
  split at h
  ·rename_i v l' hv hl
   simp only[Option.some.injEq] at h
   subst h
   simp[hr.one hv,zjg hr hl]
  ·simp at h
theorem zBi{t:TypeId}{z:List (Sc (sem P Q))}(h:(zn2 P t:Option (SV (sem P Q)))=some (.agg z)):∃i,∃zv,P.info? t=some i/\i.zero=some zv/\zv.cells=(z.map Sc.toV).toArray:=by
 unfold zn2 at h
 cases hi:P.info? t with
 |none => simp[hi] at h
 |some i =>
  cases hz:i.zero with
  |none => simp[hi,hz] at h
  |some zv =>
   simp only[hi,Option.bind_some,hz,Option.some.injEq] at h
   refine⟨i,zv,rfl,hz,?_⟩
   have e:=congrArg SV.toV h
   rw[zjn,toV_agg] at e
   rw[e];rfl
theorem zpB(P:Program):∀(fs:List Field),(fs.all fun f=>(P.info? f.type).isSome)=true->fs.mapM (fun f=>(P.info? f.type).map fun i=>(f.offset,i.size))=some (fs.map fun f=>(f.offset,P.cellsOf f.type))
 |[],_ => by simp
 |f::r,h => by
  simp only[List.all_cons,Bool.and_eq_true] at h
  obtain⟨i,hi⟩:=Option.isSome_iff_exists.1 h.1
  simp[List.mapM_cons,hi,zpB P r h.2,Program.cellsOf]
theorem zJT{t:TypeId}{parts:Array (Nat×Operand)}{ps:List (Nat×SV (sem P Q))}{v:SV (sem P Q)}(ho:o.op=.build t parts)(hr:zbw a rd)
  (hp:zkP rd parts.toList=some ps) (hob:∀x∈ps,zgU x.2) (h:zo3 P t ps=some v):zbe P o a w v.toV:=by
 have e:=zjg hr hp
 refine zaZ (s:=Instr.build t (parts.map fun(i,x)=>(i,a.eval x))) (by simp[execOp,ho]) ?_
 have e2:(parts.map fun(i,x)=>(i,a.eval x)).toList=ps.map fun x=>(x.1,x.2.toV):=by rw[Array.toList_map,<-e]
 unfold zo3 at h
 split at h
 ·rename_i z hz
  obtain⟨i,zv,hi,hzv,hzc⟩:=zBi hz
  split at h
  ·rename_i fs hu
   cases hall:fs.toList.all fun f=>(P.info? f.type).isSome
   ·rw[hall] at h;simp at h
   ·rw[hall] at h
    simp only[Bool.not_true,cond_false,Option.map_eq_some_iff] at h
    obtain⟨cs,hcs,rfl⟩:=h
    have hf:=zw5 hcs hob
    refine run_build w t _ _ ?_
    unfold Program.built
    rw[hi,hu,e2]
    simp only[hzv,zpB P fs.toList hall]
    rw[hzc,<-hf]
    congr 1
    funext k
    simp only[zgv,hu]
    rw[List.getElem?_toArray,List.getElem?_map,Array.getElem?_toList]
    cases fs[k]?<;>rfl
  ·rename_i n e' hu
   cases hall:(P.info? e').isSome
   ·rw[hall] at h;simp at h
   ·rw[hall] at h
    simp only[Bool.not_true,cond_false,Option.map_eq_some_iff] at h
    obtain⟨cs,hcs,rfl⟩:=h
    obtain⟨ie,hie⟩:=Option.isSome_iff_exists.1 hall
    have hf:=zw5 hcs hob
    refine run_build w t _ _ ?_
    unfold Program.built
    rw[hi,hu,e2]
    simp only[hzv,hie]
    rw[hzc,<-hf]
    congr 1
    funext k
    simp[Program.cellsOf,hie]
  ·simp at h
 ·simp at h
theorem g_not{x:Operand}{t:TypeId}{b:BE (sem P Q)}(ho:o.op=.unOp .not t x)(hr:zbw a rd)(hx:sc? (rd x)=some (.bool b)):zbe P o a w (.bool b.neg.den):=by
 have e:=hr.sc hx
 refine zaZ (s:=Op.unary .not (a.eval x)) (by simp[execOp,ho]) ?_
 rw[e];simp[Op.unary,zdr]
theorem g_neg{x:Operand}{t:TypeId}{s z:Sc (sem P Q)}{k:IntKind}{n:Int}{wr:Bool}{obs:List Prop}(ho:o.op=.unOp .neg t x)(hr:zbw a rd)(hx:sc? (rd x)=some s)(hk:s.asI=some (k,n))
  (h:znJ (A:=sem P Q) wr .sub k (0:Int) n s=some (obs,z)) (hobs:All obs):zbe P o a w z.toV:=by
 have e:=hr.sc hx
 refine zaZ (s:=Op.unary .neg (a.eval x)) (by simp[execOp,ho]) ?_
 rw[e,zcm hk]
 have:=zne hk h hobs (by simp) t w
 simpa[binOp,Op.unary] using this
theorem g_xor{x:Operand}{t:TypeId}{s:Sc (sem P Q)}{k:IntKind}{n:Int}(ho:o.op=.unOp .xor t x)(hr:zbw a rd)(hx:sc? (rd x)=some s)(hk:s.asI=some (k,n)) :
  zbe P o a w (.int k (zsF .xor k true (if k.signed then -1 else k.max) n)):=by
 have e:=hr.sc hx
 refine zaZ (s:=Op.unary .xor (a.eval x)) (by simp[execOp,ho]) ?_
 rw[e,zcm hk]
 simp[Op.unary,Op.intBits,zsF,zaw]
theorem zlp{src dst:TypeId}{x:Operand}{k k':IntKind}{n:Int}{s:Sc (sem P Q)}(ho:o.op=.convert src dst x)(hr:zbw a rd)(hx:sc? (rd x)=some s)(hk:s.asI=some (k',n))
  (hd:P.underlying dst=some (.int k)) (hs:(P.underlying src).isSome=true):zbe P o a w (.int k (k.wrap n)):=by
 have e:=hr.sc hx
 obtain⟨d,hs⟩:=Option.isSome_iff_exists.1 hs
 refine zaZ (s:=convert src dst (a.eval x)) (by simp[execOp,ho]) ?_
 rw[e,zcm hk]
 simp[convert,run_underlying hd,run_underlying hs,Conv.intToInt]
theorem zsD{src dst:TypeId}{x:Operand}{s:ByteArray}(ho:o.op=.convert src dst x)(hr:zbw a rd)(hx:sc? (rd x)=some (Sc.str (A:=sem P Q) s))
  (hd:P.underlying dst=some .string) (hs:P.underlying src=some .string):zbe P o a w (.string s):=by
 have e:=hr.sc hx
 refine zaZ (s:=convert src dst (a.eval x)) (by simp[execOp,ho]) ?_
 rw[e]
 simp[convert,run_underlying hd,run_underlying hs]
theorem zzE:∀{ps:List (Nat×SV (sem P Q))},All (ps.flatMap fun x=>znU x.2.cells)->∀x∈ps,zgU x.2
 |[],_,x,hx => by cases hx
 |p::r,h,x,hx => by
  rw[List.flatMap_cons,zmj] at h
  rcases List.mem_cons.1 hx with rfl|hx
  ·exact zDJ h.1
  ·exact zzE h.2 x hx
def zk5(ro:Ro (sem P Q))(st:St (sem P Q)):SL (sem P Q)->Prop
 |.one (.sc (.loc j n _)) => j<st.nx/\∀b,ro.blk st j=some b->b.num=n
 |.one (.sc _) => True
 |.one (.agg l) => l.all zcd=true
 |.tup l => l.all zaY=true
 |.undef => True
theorem zc6{ro:Ro (sem P Q)}{st:St (sem P Q)}{v:SV (sem P Q)}(h:zaY v=true):zk5 ro st (.one v):=by
 cases v with
 |agg l => exact h
 |sc x => cases x<;>simp[zaY,SV.cells,zcd] at h<;>trivial
theorem zng{ro:Ro (sem P Q)}{st:St (sem P Q)}{x:Sc (sem P Q)}(h:zcd x=true):zk5 ro st (.one (.sc x)) :=
 zc6 (by simp[zaY,SV.cells,h])
theorem znW{t:TypeId}{cs:List (Sc (sem P Q))}{off:Nat}{v:SV (sem P Q)}(h:zje P t cs off=some v)(hc:cs.all zcd=true):zaY v=true:=by
 unfold zje at h
 split at h
 ·simp at h
 ·cases ha:zda P t
  ·rw[ha] at h
   simp only[cond_false,zdR] at h
   split at h
   ·rename_i x r hx
    simp only[Option.some.injEq] at h
    subst h
    have:x∈cs:=List.mem_of_mem_drop (hx▸List.mem_cons_self ..)
    simp only[zaY,SV.cells,List.all_cons,List.all_nil,Bool.and_true]
    exact List.all_eq_true.1 hc x this
   ·simp at h
  ·rw[ha] at h
   simp only[cond_true,Option.some.injEq] at h
   subst h
   simp only[zaY,SV.cells,zkV,zdR,List.all_eq_true] at *
   intro x hx
   exact hc x (List.mem_of_mem_drop (List.mem_of_mem_take hx))
theorem zlF(v:Value):zcd (ofValue v:Sc (sem P Q))=true:=by
 unfold ofValue;split<;>rfl
theorem zj8(v:Value):zaY (zjI v:SV (sem P Q))=true:=by
 unfold zjI
 split
 ·simp only[zaY,SV.cells,List.all_eq_true]
  intro x hx
  simp only[List.mem_map] at hx
  obtain⟨u,_,rfl⟩:=hx
  exact zlF u
 ·simp[zaY,SV.cells,zlF]
theorem zwp{t:TypeId}{v:SV (sem P Q)}(h:(zn2 P t:Option (SV (sem P Q)))=some v):zaY v=true:=by
 unfold zn2 at h
 split at h
 ·simp only[Option.some.injEq] at h;subst h;exact zj8 _
 ·simp at h
theorem zgG{p:Sc (sem P Q)->Bool}:∀(vs l:List (Sc (sem P Q))) (i:Nat),l.all p=true->vs.all p=true->(zaE l i vs).all p=true
 |[],l,i,h,_ => h
 |v::r,l,i,h,hv => by
  simp only[List.all_cons,Bool.and_eq_true] at hv
  refine zgG r _ _ ?_ hv.2
  simp only[List.all_eq_true] at *
  intro x hx
  rcases List.mem_or_eq_of_mem_set hx with hx|rfl
  ·exact h x hx
  ·exact hv.1
theorem zfz{place:Nat->Option (Nat×Nat)}:∀{ps:List (Nat×SV (sem P Q))} {cs cs':List (Sc (sem P Q))},zdS place cs ps=some cs'->cs.all zcd=true->(ps.all fun x=>zaY x.2)=true->cs'.all zcd=true
 |[],cs,cs',h,hc,_ => by simp[zdS] at h;subst h;exact hc
 |(i,v)::r,cs,cs',h,hc,hp => by
  simp only[List.all_cons,Bool.and_eq_true] at hp
  unfold zdS at h
  split at h
  ·rename_i off size hpl
   cases hcc:(Nat.beq v.cells.length size&&Nat.ble (off+size) cs.length)
   ·rw[hcc] at h;simp at h
   ·rw[hcc] at h
    exact zfz h (zgG _ _ _ hc hp.1) hp.2
  ·simp at h
theorem zsp{t:TypeId}{ps:List (Nat×SV (sem P Q))}{v:SV (sem P Q)}(h:zo3 P t ps=some v)(hp:(ps.all fun x=>zaY x.2)=true):zaY v=true:=by
 unfold zo3 at h
 split at h
 ·rename_i z hz
  have hzn:z.all zcd=true:=zwp hz
  split at h
  ·rename_i fs hu
   cases hall:fs.toList.all fun f=>(P.info? f.type).isSome
   ·rw[hall] at h;simp at h
   ·rw[hall] at h
    simp only[Bool.not_true,cond_false,Option.map_eq_some_iff] at h
    obtain⟨cs,hcs,rfl⟩:=h
    exact zfz hcs hzn hp
  ·rename_i n e' hu
   cases hall:(P.info? e').isSome
   ·rw[hall] at h;simp at h
   ·rw[hall] at h
    simp only[Bool.not_true,cond_false,Option.map_eq_some_iff] at h
    obtain⟨cs,hcs,rfl⟩:=h
    exact zfz hcs hzn hp
  ·simp at h
 ·simp at h
theorem ziU{wr:Bool}{op:BinOp}{k:IntKind}{x y:Int}{sy z:Sc (sem P Q)}{obs:List Prop}(h:znJ (A:=sem P Q) wr op k x y sy=some (obs,z)):zcd z=true:=by
 unfold znJ at h
 split at h
 ·simp only[Option.some.injEq,Prod.mk.injEq] at h;obtain⟨_,rfl⟩:=h;rfl
 ·cases op<;>simp at h<;>obtain⟨_,rfl⟩:=h<;>rfl
theorem zwQ{wr:Bool}{op:BinOp}{x y z:Sc (sem P Q)}{obs:List Prop}(h:zue wr op x y=some (obs,z)):zcd z=true:=by
 have hint:∀{x y:Sc (sem P Q)},zxl wr op x y=some (obs,z)->zcd z=true:=by
  intro x y h
  unfold zxl at h
  split at h
  ·split at h
   ·simp only[cond_eq_ite] at h
    split at h
    ·exact ziU h
    ·simp at h
   ·simp at h
  ·simp at h
 unfold zue at h
 cases hop:zgw op<;>rw[hop] at h
 ·simp only[cond_false] at h
  split at h
  ·split at h
   ·cases op<;>simp[zyT] at h<;>obtain⟨_,rfl⟩:=h<;>rfl
   ·simp at h
  ·split at h
   ·unfold zHl at h
    split at h
    ·simp only[Option.some.injEq,Prod.mk.injEq] at h;obtain⟨_,rfl⟩:=h;rfl
    ·cases op<;>simp at h;obtain⟨_,rfl⟩:=h;rfl
   ·simp at h
  ·split at h
   ·rename_i k a _ k' b
    cases hk:kEq k k'<;>rw[hk] at h
    ·simp at h
    ·unfold zGz at h
     split at h
     ·simp only[cond_true,Option.some.injEq,Prod.mk.injEq] at h;obtain⟨_,rfl⟩:=h;rfl
     ·exact ziU h
   ·exact hint h
  ·exact hint h
 ·unfold zp8 at h
  simp only[cond_true] at h
  split at h
  ·split at h
   ·simp only[Option.some.injEq,Prod.mk.injEq] at h;obtain⟨_,rfl⟩:=h;rfl
   ·simp at h
  ·simp at h
theorem zky{f:Int->Int->Int}:∀{r:List (SV (sem P Q))} {k:IntKind} {x:Int} {z:Sc (sem P Q)},zi2 (A:=sem P Q) f k x r=some z->zcd z=true
 |[],k,x,z,h => by simp[zi2] at h;subst h;rfl
 |.agg _::_,k,x,z,h => by simp[zi2] at h
 |.sc y::r,k,x,z,h => by
  unfold zi2 at h
  split at h
  ·simp only[cond_eq_ite] at h
   split at h
   ·exact zky h
   ·simp at h
  ·simp at h
theorem zxt{op:BinOp}{t:TypeId}{x z:Sc (sem P Q)}{obs:List Prop}(h:zAW P op t x=some (obs,z)):zcd z=true:=by
 unfold zAW at h
 split at h<;>simp only[Option.some.injEq,Prod.mk.injEq,reduceCtorEq] at h<;>obtain⟨_,rfl⟩:=h<;>rfl
theorem zs2{α:Type}{x:Option α}(h:¬((!x.isSome)=true)):x.isSome=true:=by cases x<;>simp_all
theorem zzY{ro:Ro (sem P Q)}{st:St (sem P Q)}{j off off':Nat}{b:Nat}(h:zk5 ro st (.one (.sc (Sc.loc (A:=sem P Q) j b off)))):zk5 ro st (.one (.sc (Sc.loc (A:=sem P Q) j b off'))):=h
theorem zuM{t:TypeId}(h:zxm P t=true):P.underlying t=some .bool:=by
 unfold zxm at h;split at h<;>simp_all
theorem zEa{r:Option (List Prop×Sc (sem P Q))}{obs:List Prop}{v:SL (sem P Q)}
  (h:zpw (A:=sem P Q) r=some (obs,v)):∃z,r=some (obs,z)/\v=.one (.sc z):=by
 unfold zpw at h
 split at h
 ·simp only[Option.some.injEq,Prod.mk.injEq] at h
  obtain⟨rfl,rfl⟩:=h
  exact⟨_,rfl,rfl⟩
 ·simp at h
theorem zr3{cfg:Cfg}{ro:Ro (sem P Q)}{st:St (sem P Q)}{obs:List Prop}{v:SL (sem P Q)}(hs:∀x v,rd x=some v->zk5 ro st v)
  (hnl:∀j b,ro.blk st j=some b->b.cells.all zcd=true)
  (h:zbT P cfg ro st rd o=some (obs,v)):(zbw a rd->(zfA o=false\/∀j b,ro.blk st j=some b->zmx w b)->All obs->zbe P o a w v.toV)/\zk5 ro st v:=by
 cases ho:o.op with
 |move x =>
  simp only[zbT,ho] at h
  split at h
  ·simp only[Option.some.injEq,Prod.mk.injEq] at h
   obtain⟨rfl,rfl⟩:=h
   rename_i hv
   exact⟨fun hr hbk hobs=>zH0 (.inl ho) hr hv,hs _ _ hv⟩
  ·simp at h
 |assign x =>
  simp only[zbT,ho] at h
  split at h
  ·simp only[Option.some.injEq,Prod.mk.injEq] at h
   obtain⟨rfl,rfl⟩:=h
   rename_i hv
   exact⟨fun hr hbk hobs=>zH0 (.inr ho) hr hv,hs _ _ hv⟩
  ·simp at h
 |binOp op t x y u =>
  simp only[zbT,ho] at h
  split at h
  ·simp at h
  ·rename_i sx hx
   simp only[cond_eq_ite] at h
   split at h
   ·rename_i hn
    obtain⟨z,hz,rfl⟩:=zEa h
    exact⟨fun hr hbk hobs=>g_nil ho hr hx hn hz,zng (zxt hz)⟩
   ·split at h
    ·simp at h
    ·rename_i hb
     split at h
     ·rename_i sy hy
      obtain⟨z,hz,rfl⟩:=zEa h
      refine⟨fun hr hbk hobs=>zJS ho hr hx hy (fun hb1=>?_) hz hobs,zng (zwQ hz)⟩
      simp only[hb1,Bool.true_and,Bool.not_eq_true',Bool.not_eq_false] at hb
      exact zuM hb
     ·simp at h
 |unOp op t x =>
  simp only[zbT,ho] at h
  split at h
  ·rename_i b hx
   simp only[Option.some.injEq,Prod.mk.injEq] at h
   obtain⟨rfl,rfl⟩:=h
   exact⟨fun hr hbk hobs=>g_not ho hr hx,trivial⟩
  ·rename_i s hx
   split at h
   ·rename_i k n hk
    obtain⟨z,hz,rfl⟩:=zEa h
    exact⟨fun hr hbk hobs=>g_neg ho hr hx hk hz hobs,zng (ziU hz)⟩
   ·simp at h
  ·rename_i s hx
   split at h
   ·rename_i k n hk
    simp only[Option.some.injEq,Prod.mk.injEq] at h
    obtain⟨rfl,rfl⟩:=h
    exact⟨fun hr hbk hobs=>g_xor ho hr hx hk,trivial⟩
   ·simp at h
  ·simp at h
 |convert src dst x =>
  simp only[zbT,ho] at h
  split at h
  ·rename_i s hx hd hsrc
   simp only[Option.some.injEq,Prod.mk.injEq] at h
   obtain⟨rfl,rfl⟩:=h
   exact⟨fun hr hbk hobs=>zsD ho hr hx hd hsrc,trivial⟩
  ·rename_i k' n k d hx hd hsrc
   simp only[Option.some.injEq,Prod.mk.injEq] at h
   obtain⟨rfl,rfl⟩:=h
   exact⟨fun hr hbk hobs=>zlp (s:=.intc k' n) ho hr hx rfl hd (by rw[hsrc];rfl),trivial⟩
  ·rename_i k' n k d hx hd hsrc
   simp only[cond_eq_ite] at h
   have g:=fun(hr:zbw a rd)=>zlp (w:=w) (s:=.int k' n) ho hr hx rfl hd (by rw[hsrc];rfl)
   split at h
   ·simp only[Option.some.injEq,Prod.mk.injEq] at h
    obtain⟨rfl,rfl⟩:=h
    exact⟨fun hr _ _=>g hr,trivial⟩
   ·simp only[Option.some.injEq,Prod.mk.injEq] at h
    obtain⟨rfl,rfl⟩:=h
    refine⟨fun hr _ hobs=>?_,trivial⟩
    have g:=g hr
    rw[zmf hobs.1] at g
    exact g
  ·simp at h
 |extract x i =>
  simp only[zbT,ho] at h
  split at h
  ·rename_i l hx
   split at h
   ·rename_i y r hl
    simp only[Option.some.injEq,Prod.mk.injEq] at h
    obtain⟨rfl,rfl⟩:=h
    have hall:l.all zaY=true:=hs _ _ hx
    refine⟨fun hr hbk hobs=>zCM ho hr hx hl,zc6 ?_⟩
    rw[zdR] at hl
    exact List.all_eq_true.1 hall y (List.mem_of_mem_drop (hl▸List.mem_cons_self ..))
   ·simp at h
  ·simp at h
 |field t x f =>
  simp only[zbT,ho] at h
  split at h
  ·rename_i cs off u hx hf
   split at h
   ·rename_i y hp
    simp only[Option.some.injEq,Prod.mk.injEq] at h
    obtain⟨rfl,rfl⟩:=h
    exact⟨fun hr hbk hobs=>zJU ho hr hx hf hp,zc6 (znW hp (hs _ _ hx))⟩
   ·simp at h
  ·simp at h
 |build t parts =>
  simp only[zbT,ho] at h
  split at h
  ·rename_i ps hp
   simp only[cond_eq_ite] at h
   split at h
   ·simp at h
   ·rename_i hall
    split at h
    ·rename_i y hb
     simp only[Option.some.injEq,Prod.mk.injEq] at h
     obtain⟨rfl,rfl⟩:=h
     exact⟨fun hr hbk hobs=>zJT ho hr hp (zzE hobs) hb,zc6 (zsp hb (by simpa using hall))⟩
    ·simp at h
  ·simp at h
 |nilCheck x =>
  simp only[zbT,ho] at h
  split at h
  ·rename_i p hx
   simp only[Option.some.injEq,Prod.mk.injEq] at h
   obtain⟨rfl,rfl⟩:=h
   exact⟨fun hr hbk hobs=>zqN ho hr hx hobs.1,trivial⟩
  ·rename_i j b off hx
   simp only[Option.some.injEq,Prod.mk.injEq] at h
   obtain⟨rfl,rfl⟩:=h
   exact⟨fun hr hbk hobs=>zqM ho hr hx,hs _ _ (sc?_some hx)⟩
  ·simp at h
 |fieldAddr t x f =>
  simp only[zbT,ho] at h
  split at h
  ·rename_i s off u hx hf
   simp only[cond_eq_ite] at h
   split at h
   ·simp at h
   ·rename_i h0
    split at h
    ·rename_i j b o'
     simp only[Option.some.injEq,Prod.mk.injEq] at h
     obtain⟨rfl,rfl⟩:=h
     exact⟨fun hr hbk hobs=>zpj ho hr hx hf (Bool.eq_false_iff.2 h0),zzY (hs _ _ (sc?_some hx))⟩
    ·rename_i p
     simp only[Option.some.injEq,Prod.mk.injEq] at h
     obtain⟨rfl,rfl⟩:=h
     exact⟨fun hr hbk hobs=>zpk ho hr hx hf (Bool.eq_false_iff.2 h0) hobs.1,trivial⟩
    ·simp at h
  ·simp at h
 |indexAddr t x ix =>
  simp only[zbT,ho] at h
  split at h
  ·rename_i p l c i e hx hi ht
   simp only[cond_eq_ite] at h
   split at h
   ·simp at h
   ·rename_i he
    split at h
    ·rename_i k n hk
     simp only[Option.some.injEq,Prod.mk.injEq] at h
     obtain⟨rfl,rfl⟩:=h
     exact⟨fun hr hbk hobs=>zpn ho hr hx hi hk ht (zs2 he) hobs.1 hobs.2.1 hobs.2.2.1,trivial⟩
    ·simp at h
  ·rename_i p i n e hx hi ht
   simp only[cond_eq_ite] at h
   split at h
   ·simp at h
   ·rename_i he
    split at h
    ·rename_i k m hk
     simp only[Option.some.injEq,Prod.mk.injEq] at h
     obtain⟨rfl,rfl⟩:=h
     exact⟨fun hr hbk hobs=>zpm ho hr hx hi hk ht (zs2 he) hobs.1 hobs.2.1 hobs.2.2.1,trivial⟩
    ·simp at h
  ·rename_i j b off k m n e hx hi ht
   simp only[cond_eq_ite] at h
   split at h
   ·rename_i hc
    simp only[Bool.and_eq_true,decide_eq_true_eq] at hc
    simp only[Option.some.injEq,Prod.mk.injEq] at h
    obtain⟨rfl,rfl⟩:=h
    exact⟨fun hr hbk hobs=>zpl ho hr hx hi ht hc.1.1 hc.1.2 hc.2,zzY (hs _ _ (sc?_some hx))⟩
   ·simp at h
  ·simp at h
 |index t x ix =>
  simp only[zbT,ho] at h
  split at h
  ·rename_i s i hx hi ht
   split at h
   ·rename_i k n hk
    simp only[Option.some.injEq,Prod.mk.injEq] at h
    obtain⟨rfl,rfl⟩:=h
    exact⟨fun hr hbk hobs=>zxb ho hr hx hi hk ht hobs.1 hobs.2.1,trivial⟩
   ·simp at h
  ·simp at h
 |slice t x lo hi mx =>
  simp only[zbT,ho] at h
  split at h
  ·rename_i z
   simp only[cond_eq_ite] at h
   split at h
   ·simp at h
   ·rename_i hhi
    split at h
    ·rename_i p len cap e hx ht
     split at h
     ·simp at h
     ·rename_i he
      split at h
      ·rename_i l hh m h1 h2 h3
       simp only[Option.some.injEq,Prod.mk.injEq] at h
       obtain⟨rfl,rfl⟩:=h
       exact⟨fun hr hbk hobs=>zGf ho hr hx ht (zs2 he) (by cases hi<;>simp_all) h1 h2 h3 hobs.1 hobs.2.1 hobs.2.2.1 hobs.2.2.2.1,trivial⟩
      ·simp at h
    ·simp at h
  ·split at h
   ·rename_i s hx ht
    split at h
    ·rename_i l hh h1 h2
     simp only[Option.some.injEq,Prod.mk.injEq] at h
     obtain⟨rfl,rfl⟩:=h
     exact⟨fun hr hbk hobs=>zxd ho hr hx ht h1 h2 hobs.1 hobs.2.1 hobs.2.2.1,trivial⟩
    ·simp at h
   ·rename_i p len cap e hx ht
    simp only[cond_eq_ite] at h
    split at h
    ·simp at h
    ·rename_i he
     split at h
     ·rename_i l hh h1 h2
      simp only[Option.some.injEq,Prod.mk.injEq] at h
      obtain⟨rfl,rfl⟩:=h
      exact⟨fun hr hbk hobs=>zxc ho hr hx ht (zs2 he) h1 h2 hobs.1 hobs.2.1 hobs.2.2.1,trivial⟩
     ·simp at h
   ·simp at h
 |load t x =>
  simp only[zbT,ho] at h
  split at h
  ·rename_i j n off hx
   split at h
   ·rename_i b hb
    split at h
    ·rename_i y hp
     simp only[cond_eq_ite] at h
     split at h
     ·rename_i hl
      simp only[Option.some.injEq,Prod.mk.injEq] at h
      obtain⟨rfl,rfl⟩:=h
      have hn:b.num=n:=(hs _ _ (sc?_some hx)).2 b hb
      refine⟨fun hr hbk hobs=>?_,zc6 (znW hp (hnl j b hb))⟩
      have hbk':=hbk.resolve_left (by simp[zfA,ho]) j b hb
      unfold zmx at hbk'
      rw[hn] at hbk'
      exact zAI ho hr hx hbk' hp hl
     ·simp at h
    ·simp at h
   ·simp at h
  ·simp at h
 |call c =>
  obtain⟨callee,args,ats⟩:=c
  cases callee with
  |value f => simp[zbT,ho] at h
  |invoke f m => simp[zbT,ho] at h
  |builtin b =>
   cases b with
   |len =>
    simp only[zbT,ho] at h
    split at h
    ·rename_i x t ha ht
     split at h
     ·rename_i p l c e hx hu
      simp only[Option.some.injEq,Prod.mk.injEq] at h
      obtain⟨rfl,rfl⟩:=h
      exact⟨fun hr hbk hobs=>zCN ho hr ha ht hu hx,trivial⟩
     ·rename_i s hx hu
      simp only[Option.some.injEq,Prod.mk.injEq] at h
      obtain⟨rfl,rfl⟩:=h
      exact⟨fun hr hbk hobs=>zCO ho hr ha ht hu hx,trivial⟩
     ·simp at h
    ·simp at h
   |cap =>
    simp only[zbT,ho] at h
    split at h
    ·rename_i x t ha ht
     split at h
     ·rename_i p l c e hx hu
      simp only[Option.some.injEq,Prod.mk.injEq] at h
      obtain⟨rfl,rfl⟩:=h
      exact⟨fun hr hbk hobs=>zCL ho hr ha ht hu hx,trivial⟩
     ·simp at h
    ·simp at h
   |min =>
    simp only[zbT,ho] at h
    split at h
    ·rename_i x r hl
     split at h
     ·rename_i k n hk
      obtain⟨z,hz,rfl⟩:=zEa h
      simp only[Option.map_eq_some_iff,Prod.mk.injEq] at hz
      obtain⟨z',hz',rfl,rfl⟩:=hz
      exact⟨fun hr hbk hobs=>g_min ho hr hl hk hz',zng (zky hz')⟩
     ·simp at h
    ·simp at h
   |max =>
    simp only[zbT,ho] at h
    split at h
    ·rename_i x r hl
     split at h
     ·rename_i k n hk
      obtain⟨z,hz,rfl⟩:=zEa h
      simp only[Option.map_eq_some_iff,Prod.mk.injEq] at hz
      obtain⟨z',hz',rfl,rfl⟩:=hz
      exact⟨fun hr hbk hobs=>g_max ho hr hl hk hz',zng (zky hz')⟩
     ·simp at h
    ·simp at h
   |_ => simp[zbT,ho] at h
 |makeFunc fn first captured =>
  cases fn with
  |func f =>
   simp only[zbT,ho] at h
   split at h
   ·rename_i l hf hl
    simp only[cond_eq_ite] at h
    split at h
    ·simp only[Option.some.injEq,Prod.mk.injEq] at h
     obtain⟨rfl,rfl⟩:=h
     exact⟨fun hr hbk hobs=>zAJ ho hr hf hl,trivial⟩
    ·simp at h
   ·simp at h
  |_ => simp[zbT,ho] at h
 |_ => simp[zbT,ho] at h
end
theorem zes{ops:Array Oper}{tmps:Array Value}{j:Nat}{c:Bool}:yielded ops tmps j=some c↔∃d,ziB ops j=some d/\tmps.getD d undef=.bool c:=by
 unfold yielded ziB
 cases ho:ops[j]? with
 |none => simp
 |some o =>
  simp only[Option.bind_some]
  cases hd:o.dst with
  |none => simp
  |some d =>
   simp only[Option.bind_some,Option.some.injEq,exists_eq_left']
   rw[Array.getD_eq_getD_getElem?]
   cases hv:tmps[d]? with
   |none => simp[undef]
   |some v => cases v<;>simp[undef]
section
variable {cfg:Cfg} {ops:Array Oper} {ro:Ro (sem P Q)} {st:St (sem P Q)} {a:Act}
theorem zwZ{i:Nat}{v:SL (sem P Q)}{key:Option (Nat×Bool)}(h:zJF ops a i (v,key))(hk:∀k,key=some k->ziI ops a k):a.tmps.getD i undef=v.toV:=by
 cases key with
 |none => exact h
 |some k => exact h.1 (hk k rfl)
theorem zCA{i:Nat}{v:SL (sem P Q)}{k:Nat×Bool}(h:zJF ops a i (v,some k))(hk:¬ziI ops a k):a.tmps.getD i undef=undef:=h.2 hk
def ziQ(ops:Array Oper)(ro:Ro (sem P Q))(st:St (sem P Q))(a:Act)(k:Nat×Bool):KS->Prop
 |.yes => ziI ops a k
 |.no => ¬ziI ops a k
 |.sym j => ∃d key,∃b:BE (sem P Q),ziB ops j=some d/\ro.get st d=some (.one (.sc (.bool b)),key)/\a.tmps.getD d undef=.bool b.den
 |.bad => True
theorem zg0(hf:ztV cfg ops ro st a):∀(n:Nat)(k:Nat×Bool),ziQ ops ro st a k (zgx ops ro st n k)
 |0,k => by simp[zgx,ziQ]
 |n+1,(j,want) => by
  unfold zgx
  cases hd:ziB ops j with
  |none => simp[ziQ]
  |some d =>
   simp only
   cases hg:ro.get st d with
   |none => simp[ziQ]
   |some e =>
    obtain⟨v,key⟩:=e
    simp only
    have he:=hf.fr d _ hg
    have hsat:ziI ops a (j,want)↔a.tmps.getD d undef=.bool want:=by
     unfold ziI
     rw[zes]
     constructor
     ·rintro⟨d',h1,h2⟩
      rw[hd] at h1
      obtain rfl:=Option.some.inj h1
      exact h2
     ·intro h;exact⟨d,hd,h⟩
    have hin:(match ztj (zgx ops ro st n) key with
      |.yes => ∀k,key=some k->ziI ops a k
      |.no => ∃k,key=some k/\¬ziI ops a k
      |.sym j => ∃d key,∃b:BE (sem P Q),ziB ops j=some d/\ro.get st d=some (.one (.sc (.bool b)),key)/\a.tmps.getD d undef=.bool b.den
      |.bad => True):=by
     cases key with
     |none => simp[ztj]
     |some k =>
      show(match zgx ops ro st n k with
       |.yes => ∀k',some k=some k'->ziI ops a k'
       |.no => ∃k',some k=some k'/\¬ziI ops a k'
       |.sym j => ∃d key,∃b:BE (sem P Q),ziB ops j=some d/\ro.get st d=some (.one (.sc (.bool b)),key)/\a.tmps.getD d undef=.bool b.den
       |.bad => True)
      have ih:=zg0 hf n k
      cases hks:zgx ops ro st n k<;>rw[hks] at ih<;>simp only[ziQ] at ih ⊢
      ·intro k' hk';obtain rfl:=Option.some.inj hk';exact ih
      ·exact⟨k,rfl,ih⟩
      ·exact ih
    generalize hks:ztj (zgx ops ro st n) key=s at hin ⊢
    cases s with
    |yes =>
     simp only at hin ⊢
     have hv:=zwZ he hin
     split
     ·rename_i c
      have hv:a.tmps.getD d undef=.bool c:=hv
      cases hc:(c==want)
      ·simp only[cond_false,ziQ]
       rw[hsat,hv]
       intro h
       have:c=want:=by injection h
       simp[this] at hc
      ·simp only[cond_true,ziQ]
       rw[hsat,hv]
       simp at hc
       rw[hc]
     ·rename_i b hb
      exact⟨d,key,b,hd,hg,hv⟩
     ·simp only[ziQ]
      rw[hsat,hv]
      simp[undef]
     ·simp[ziQ]
    |no =>
     simp only at hin ⊢
     obtain⟨k,rfl,hk⟩:=hin
     simp only[ziQ]
     rw[hsat,zCA he hk]
     simp[undef]
    |sym j0 => exact hin
    |bad => simp[ziQ]
theorem zzq{a b:Nat×Bool}(h:zDb a b=true):a=b:=by
 unfold zDb at h
 simp only[Bool.and_eq_true,Nat.beq_eq,beq_iff_eq] at h
 exact Prod.ext h.1 h.2
theorem zz8(hf:ztV cfg ops ro st a):∀(n:Nat)(k c:Nat×Bool),zBg ops ro st k n c=true->ziI ops a c->ziI ops a k
 |0,k,c,h,_ => by simp[zBg] at h
 |n+1,k,c,h,hc => by
  unfold zBg at h
  simp only[cond_eq_ite] at h
  split at h
  ·rename_i he
   rw[zzq he];exact hc
  ·split at h
   ·simp at h
   ·rename_i d hd
    split at h
    ·rename_i v k' hg
     refine zz8 hf n k k' h ?_
     have he:=hf.fr d _ hg
     apply Classical.byContradiction
     intro hn
     have hu:=zCA he hn
     unfold ziI at hc
     rw[zes] at hc
     obtain⟨d',h1,h2⟩:=hc
     rw[hd] at h1
     obtain rfl:=Option.some.inj h1
     rw[hu] at h2
     simp[undef] at h2
    ·simp at h
theorem zzr(hf:ztV cfg ops ro st a){cur key:Option (Nat×Bool)}(hcur:∀c,cur=some c->ziI ops a c)(h:zjR ops ro st cur key=true):∀k,key=some k->ziI ops a k:=by
 intro k hk
 subst hk
 simp only[zjR] at h
 have:=zg0 hf 50 k
 split at h
 ·rename_i hy
  rw[hy] at this;exact this
 ·split at h
  ·rename_i c
   exact zz8 hf 50 k c h (hcur c rfl)
  ·simp at h
theorem zDU(hf:ztV cfg ops ro st a){ok:Option (Nat×Bool)->Bool}(hok:∀key,ok key=true->∀k,key=some k->ziI ops a k):zbw a (zoI ro st ok):=by
 intro x v h
 cases x with
 |const u =>
  simp only[zoI,Option.some.injEq] at h
  subst h
  exact(zjn u).symm
 |func f =>
  simp only[zoI,Option.some.injEq] at h
  subst h
  rfl
 |global g =>
  simp only[zoI,Option.some.injEq] at h
  subst h
  rfl
 |tmp t =>
  simp only[zoI] at h
  split at h
  ·rename_i u key hg
   simp only[cond_eq_ite] at h
   split at h
   ·rename_i hk
    simp only[Option.some.injEq] at h
    subst h
    exact zwZ (hf.fr t _ hg) (hok key hk)
   ·simp at h
  ·simp at h
theorem zGV(hf:ztV cfg ops ro st a){cur:Option (Nat×Bool)}(hcur:∀c,cur=some c->ziI ops a c):zbw a (zoI ro st (zjR ops ro st cur)) :=
 zDU hf fun _ h=>zzr hf hcur h
def zei(ro:Ro (sem P Q))(st:St (sem P Q)):Prop:=∀i e,ro.get st i=some e->zk5 ro st e.1
theorem zkQ(hs:zei ro st){ok:Option (Nat×Bool)->Bool}:∀x v,zoI ro st ok x=some v->zk5 ro st v:=by
 intro x v h
 cases x with
 |const u =>
  simp only[zoI,Option.some.injEq] at h
  subst h
  exact zc6 (zj8 u)
 |func f =>
  simp only[zoI,Option.some.injEq] at h
  subst h
  trivial
 |global g =>
  simp only[zoI,Option.some.injEq] at h
  subst h
  trivial
 |tmp t =>
  simp only[zoI] at h
  split at h
  ·rename_i u key hg
   simp only[cond_eq_ite] at h
   split at h
   ·simp only[Option.some.injEq] at h
    subst h
    exact hs t _ hg
   ·simp at h
  ·simp at h
theorem zm9{t:Nat}:∀{n j:Nat},zxO ops t n=some j->ziB ops j=some t
 |0,j,h => by simp[zxO] at h
 |n+1,j,h => by
  unfold zxO at h
  split at h
  ·rename_i d hd
   simp only[cond_eq_ite] at h
   split at h
   ·rename_i he
    simp only[Option.some.injEq] at h
    subst h
    rw[hd];simpa using he
   ·exact zm9 h
  ·exact zm9 h
theorem zuh(b x y:BE (sem P Q)):(zoG b x y).den=if b.den=true then x.den else y.den:=by
 have hl:∀c,(BE.lit c:BE (sem P Q)).den=c:=fun _=>rfl
 unfold zoG
 split<;>simp only[zCs,zFO,zdr,hl]<;>cases hb:BE.den b<;>simp
theorem zDL{c x y:Operand}{v:SL (sem P Q)}{cur:Option (Nat×Bool)}(hs:zei ro st)(h:znX ops ro st cur c x y=some v):zk5 ro st v:=by
 unfold znX at h
 split at h
 ·exact zkQ hs _ _ h
 ·exact zkQ hs _ _ h
 ·simp only at h
  split at h
  ·simp only[Option.some.injEq] at h
   subst h
   trivial
  ·simp at h
 ·simp at h
theorem zHb{c x y:Operand}{v:SL (sem P Q)}{cur:Option (Nat×Bool)}{o:Oper}{w:World}(hf:ztV cfg ops ro st a)(hs:zei ro st)(hcur:∀c,cur=some c->ziI ops a c)
  (ho:o.op=.pick c x y) (h:znX ops ro st cur c x y=some v):zbe P o a w v.toV/\zk5 ro st v:=by
 have hr:=zGV (P:=P) (Q:=Q) hf hcur
 have gives:∀(t:Bool)(u:Value),a.eval c=.bool t->(if t then a.eval x else a.eval y)=u->zbe P o a w u:=by
  intro t u hc hu
  subst hu
  unfold zbe
  cases t<;>simp[execOp,ho,hc,asBool]
 unfold znX at h
 split at h
 ·rename_i hc
  exact⟨gives true _ (hr.sc hc) (hr _ _ h),zkQ hs _ _ h⟩
 ·rename_i hc
  exact⟨gives false _ (hr.sc hc) (hr _ _ h),zkQ hs _ _ h⟩
 ·rename_i t _ _ hc
  have hcv:a.eval c=.bool t.den:=hr.sc hc
  simp only at h
  split at h
  ·rename_i bx by_ hx hy
   simp only[Option.some.injEq] at h
   subst h
   refine⟨gives t.den _ hcv ?_,trivial⟩
   show _=Value.bool (zoG t bx by_).den
   rw[zuh]
   have side:∀(want:Bool) (z:Operand) (u:Sc (sem P Q)),t.den=want ->
     (match (match c with|.tmp x=>zxO ops x ops.size|_=>none) with
      |some j => sc? (zoI ro st (fun key => zjR ops ro st cur key||(match key with|some k => zDb k (j,want)|none => false)) z)
      |none => sc? (zoI ro st (zjR ops ro st cur) z))=some u->a.eval z=u.toV:=by
    intro want z u hw hz
    split at hz
    ·rename_i j hj
     split at hj
     ·rename_i tx
      have hdst:=zm9 hj
      refine(zDU hf (fun key hk k hkk=>?_)).sc hz
      subst hkk
      simp only[Bool.or_eq_true] at hk
      rcases hk with hk|hk
      ·exact zzr hf hcur hk k rfl
      ·rw[zzq hk]
       unfold ziI
       rw[zes]
       exact⟨tx,hdst,by rw[<-hw];exact hcv⟩
     ·simp at hj
    ·exact hr.sc hz
   cases ht:BE.den t
   ·exact side false y _ ht hy
   ·exact side true x _ ht hx
  ·simp at h
 ·simp at h
end
theorem beqF{i j:Nat}(h:¬i=j):Nat.beq i j=false:=by
 cases hb:Nat.beq i j
 ·rfl
 ·exact absurd (Nat.eq_of_beq_eq_true hb) h
theorem beqN{i j:Nat}(h:Nat.beq i j=false):i≠j:=fun e=>by subst e;simp at h
theorem zg1{α:Type}:∀(l:List (Nat×α)) (i:Nat) (x:α) (j:Nat),zdD (zto l i x) j=if i=j then some x else zdD l j
 |[],i,x,j => by
  by_cases h:i=j
  ·subst h;simp[zto,zdD]
  ·have:Nat.beq i j=false:=beqF h
   simp[zto,zdD,this,h]
 |(k,v)::r,i,x,j => by
  unfold zto
  cases hk:Nat.beq k i
  ·simp only[cond_false,zdD]
   rw[zg1 r i x j]
   have hne:k≠i:=beqN hk
   cases hj:Nat.beq k j
   ·rfl
   ·have:k=j:=by simpa using hj
    subst this
    simp[Ne.symm hne]
  ·have hki:k=i:=by simpa using hk
   subst hki
   simp only[cond_true,zdD]
   by_cases h:k=j
   ·subst h;simp
   ·have:Nat.beq k j=false:=beqF h
    simp[this,h]
theorem zcI:∀(l:List Nat)(i:Nat),zhg l i=true↔i∈l
 |[],i => by simp[zhg]
 |k::r,i => by
  unfold zhg
  cases h:Nat.beq k i
  ·have:k≠i:=beqN h
   simp[zcI r i,Ne.symm this]
  ·have:k=i:=by simpa using h
   simp[this]
theorem Ext.of_but{w w':World}(h:But [] w w'):Ext w w':=⟨h.os,h.tape,h.output,h.size,fun k hk=>h.block k hk (by simp)⟩
theorem Ext.refl(w:World):Ext w w:=Below.refl _ w
theorem Ext.trans{a b c:World}(h:Ext a b)(k:Ext b c):Ext a c:=Below.trans h (Below.mono k h.size)
theorem But.refl(ds:List Nat)(w:World):But ds w w:=⟨rfl,rfl,rfl,Nat.le_refl _,fun _ _ _=>rfl⟩
theorem But.trans{ds:List Nat}{a b c:World}(h:But ds a b)(k:Ext b c):But ds a c :=
 ⟨k.os.trans h.os,k.tape.trans h.tape,k.output.trans h.output,Nat.le_trans h.size k.size,fun i hi hn=>(k.block i (Nat.lt_of_lt_of_le hi h.size)).trans (h.block i hi hn)⟩
theorem But.mono{ds ds':List Nat}{a b:World}(h:But ds a b)(hs:∀d∈ds,d∈ds'):But ds' a b :=
 ⟨h.os,h.tape,h.output,h.size,fun i hi hn=>h.block i hi fun hm=>hn (hs _ hm)⟩
theorem ziR{ds ns:List Nat}{w w':World}{f:World->Prop}(h:(sem P Q).allExt ds ns w f)(hb:But ds w w')(hn:∀b∈ns,b<w'.heap.size):f w':=by
 cases ds with
 |nil => cases ns with
  |nil => exact h w' (Ext.of_but hb)
  |cons b r => exact h w' ⟨hb,hn⟩
 |cons d r => exact h w' ⟨hb,hn⟩
theorem zCi{w:World}{a:Addr}{v:Value}(h:w.cell? a=some v):a.block<w.heap.size:=by
 unfold World.cell? at h
 split at h
 ·rename_i c t f hc
  exact(Array.getElem?_eq_some_iff.1 hc).1
 ·simp at h
theorem zaU(a:Addr)(n:Nat):(a.add n).block=a.block:=by
 unfold Addr.add;split<;>rfl
theorem zor{ds:List Nat}{w w':World}(h:But ds w w'){a:Addr}{v:Value}(hc:w.cell? a=some v)(hf:a.block∉ds):w'.cell? a=some v:=by
 rw[<-hc]
 exact World.cell?_of_block (w:=w) (h.block a.block (zCi hc) hf)
theorem zez(a:Addr):∀(vs:List Value)(i:Nat)(w:World),
  (setCells w a vs i).os=w.os/\(setCells w a vs i).tape=w.tape/\(setCells w a vs i).output=w.output/\(setCells w a vs i).heap.size=w.heap.size /\
   ∀k,k≠a.block->(setCells w a vs i).heap[k]?=w.heap[k]?
 |[],i,w => ⟨rfl,rfl,rfl,rfl,fun _ _ => rfl⟩
 |v::r,i,w => by
  obtain⟨h1,h2,h3,h4,h5⟩:=zez a r (i+1) (w.setCell (a.add i) v)
  refine⟨h1,h2,h3,?_,fun k hk=>?_⟩
  ·simp only[setCells];rw[h4];simp[World.setCell]
  ·simp only[setCells]
   rw[h5 k hk]
   exact Below.heap_setCell _ _ _ _ (by rw[zaU];exact hk)
theorem zkf(b off:Nat)(ty:TypeId)(fz:Nat×Nat):∀(vs:List Value)(i:Nat)(w:World)(cs:List Value),w.heap[b]?=some (.cells cs.toArray ty fz) ->
  (setCells w ⟨b,off,none⟩ vs i).heap[b]?=some (.cells (zaE cs (off+i) vs).toArray ty fz)
 |[],i,w,cs,h => h
 |v::r,i,w,cs,h => by
  simp only[setCells,zaE]
  rw[show off+i+1=off+(i+1) from rfl]
  refine zkf b off ty fz r (i+1) _ _ ?_
  rw[zms]
  simp only[World.setCell,Array.getElem?_modify,h]
  simp
theorem zqO{w:World}{a b:Addr}{v:Value}(h:(w.cell? b).isSome=true):((w.setCell a v).cell? b).isSome=true:=by
 unfold World.cell? at *
 simp only[World.setCell,Array.getElem?_modify]
 split at h
 ·rename_i c t f hc
  rw[hc]
  by_cases hab:a.block=b.block
  ·simp only[hab,if_true,Option.map_some]
   split at h
   ·simp at h
   ·rename_i hs
    simp only[hs,if_false,Bool.false_eq_true]
    split
    ·exact h
    ·rw[Array.getElem?_setIfInBounds]
     split
     ·split
      ·rfl
      ·rename_i h1 h2
       rw[Array.getElem?_eq_none (by omega:c.size<=b.off)] at h
       simp at h
     ·exact h
  ·simp only[hab,if_false]
   exact h
 ·simp at h
theorem zqL{w:World}{a b:Addr}{v:Value}:(w.setCell a v).frozen? b=w.frozen? b:=by
 unfold World.frozen?
 simp only[World.setCell,Array.getElem?_modify]
 by_cases hab:a.block=b.block
 ·simp only[hab,if_true]
  cases hb:w.heap[b.block]? with
  |none => rfl
  |some o => cases o<;>rfl
 ·simp only[hab,if_false]
theorem zgF(a:Addr):∀(vs:List Value)(i:Nat)(w:World),(∀j,j<vs.length->(w.cell? (a.add (i+j))).isSome=true) ->
  (∀j,j<vs.length->w.frozen? (a.add (i+j))=false)->(∀v∈vs,v.oneCell'=true)->(storeCells a vs i).run P w=.ok () (setCells w a vs i)
 |[],i,w,_,_,_ => rfl
 |v::r,i,w,h1,h2,h3 => by
  have e0:=h1 0 (by simp)
  have f0:=h2 0 (by simp)
  rw[Nat.add_zero] at e0 f0
  obtain⟨u,hu⟩:=Option.isSome_iff_exists.1 e0
  simp only[storeCells,Sem.run_bind]
  rw[run_store P w _ v .plain (h3 v (List.mem_cons_self ..)),hu]
  simp only[f0,Bool.false_eq_true,if_false,Result.andThen_ok,setCells]
  refine zgF a r (i+1) _ (fun j hj=>?_) (fun j hj=>?_) (fun v hv=>h3 v (List.mem_cons_of_mem _ hv))
  ·have:=h1 (j+1) (by simp;omega)
   rw[show i+(j+1)=i+1+j from by omega] at this
   exact zqO this
  ·have:=h2 (j+1) (by simp;omega)
   rw[show i+(j+1)=i+1+j from by omega] at this
   rw[zqL];exact this
structure Same(ro:Ro (sem P Q))(st st':St (sem P Q)):Prop where
 ov:st'.ov=st.ov
 slOk:∀u,zk5 ro st u->zk5 ro st' u
theorem zp9{ro:Ro (sem P Q)}{st st':St (sem P Q)}(hn:st.nx<=st'.nx)(h:∀j,j<st.nx->∀b',ro.blk st' j=some b'->∃b,ro.blk st j=some b/\b.num=b'.num):∀u,zk5 ro st u->zk5 ro st' u:=by
 intro u hu
 cases u with
 |one v =>
  cases v with
  |agg l => exact hu
  |sc x =>
   cases x with
   |loc j n off =>
    refine⟨Nat.lt_of_lt_of_le hu.1 hn,fun b' hb'=>?_⟩
    obtain⟨b,hb,he⟩:=h j hu.1 b' hb'
    rw[<-he];exact hu.2 b hb
   |_ => trivial
 |tup l => exact hu
 |undef => trivial
section
variable {cfg:Cfg} {ro:Ro (sem P Q)} {st:St (sem P Q)} {a:Act} {o:Oper} {w:World} {rd:Operand->Option (SL (sem P Q))} {put:SL (sem P Q)->St (sem P Q)->Prop} {Qx:Exit->Act->World->Prop}
def zBl(sf:Prop)(ro:Ro (sem P Q))(st:St (sem P Q))(o:Oper)(a:Act)(put:SL (sem P Q)->St (sem P Q)->Prop)(a':Act)(w':World):Prop :=
 ∃v st',put v st'/\a'=a.put o.dst v.toV/\(zb7 ro st' w'/\(sf->∀x,zb7 ro st' x->zb7 ro st x))/\zk5 ro st' v/\Same ro st st'
theorem ztU{v:Value}{w':World}{K:Act->World->Prop}(h:(execOp a.eval o).run P w=.ok (.value v) w')(hk:K (a.put o.dst v) w'):o.wp P a w K Qx:=by
 unfold Oper.wp;rw[h];exact hk
theorem ztS{w':World}{K:Act->World->Prop}(h:(execOp a.eval o).run P w=.ok .skip w')(hk:K (a.put o.dst undef) w'):o.wp P a w K Qx:=by
 unfold Oper.wp;rw[h];exact hk
theorem zkG(hw:zb7 ro st w){j:Nat}{b:Blk (sem P Q)}(h:ro.blk st j=some b):(b.num:Nat)<w.heap.size:=by
 have:=hw.bk j b h
 unfold zmx at this
 exact(Array.getElem?_eq_some_iff.1 this).1
theorem zem{α:Type}:∀{l:List (Nat×α)} {j:Nat} {x:α},zdD l j=some x->(j,x)∈l
 |[],j,x,h => by simp[zdD] at h
 |(k,v)::r,j,x,h => by
  unfold zdD at h
  cases hk:Nat.beq k j<;>rw[hk] at h
  ·exact List.mem_cons_of_mem _ (zem h)
  ·simp only[cond_true,Option.some.injEq] at h
   subst h
   rw[Nat.eq_of_beq_eq_true hk]
   exact List.mem_cons_self ..
theorem zoz{d:Nat}:d∈ro.nums st↔∃j b,j<st.nx/\ro.blk st j=some b/\b.num=d:=by
 unfold Ro.nums
 simp only[List.mem_filterMap,List.mem_range,Option.map_eq_some_iff]
 constructor
 ·rintro⟨j,hj,b,hb,rfl⟩;exact⟨j,b,hj,hb,rfl⟩
 ·rintro⟨j,b,hj,hb,rfl⟩;exact⟨j,hj,b,hb,rfl⟩
theorem zj5{d:Nat}:d∈ro.dn st↔∃j b,j∈st.dirty/\ro.blk st j=some b/\b.num=d:=by
 unfold Ro.dn
 simp only[List.mem_filterMap,Option.map_eq_some_iff]
 constructor
 ·rintro⟨j,hj,b,hb,rfl⟩;exact⟨j,b,hj,hb,rfl⟩
 ·rintro⟨j,b,hj,hb,rfl⟩;exact⟨j,hj,b,hb,rfl⟩
theorem zlE(hw:zb7 ro st w):∀d∈ro.nums st,d<w.heap.size:=by
 intro d hd
 obtain⟨j,b,_,hb,rfl⟩:=zoz.1 hd
 exact zkG hw hb
theorem zAz(hw:zb7 ro st w){d:Nat}(h:d∈ro.dn st):d∈ro.nums st:=by
 obtain⟨j,b,hj,hb,rfl⟩:=zj5.1 h
 exact zoz.2 ⟨j,b,hw.lt j b hb,hb,rfl⟩
theorem zfk{w2:World}(hw:zb7 ro st w)(hk:∀j b,ro.blk st j=some b->w2.heap[(b.num:Nat)]?=w.heap[(b.num:Nat)]?):zb7 ro (St.moved (A:=sem P Q) st w2) w2 where
 but:=But.refl _ _
 bk j b h:=by unfold zmx;rw[hk j b h];exact hw.bk j b h
 lt j b h:=hw.lt j b h
 ord i j b c hb hc hij:=hw.ord i j b c hb hc hij
 ax j b h hj:=absurd (hw.lt j b h) (Nat.not_lt.2 hj)
 nol j b h:=hw.nol j b h
 same j b b0 h0 h:=hw.same j b b0 h0 h
theorem zfl(w2:World):Same ro st (St.moved (A:=sem P Q) st w2):=⟨rfl,fun u hu=>by
 cases u with
 |one v => cases v with
  |agg l => exact hu
  |sc x => cases x<;>first|exact hu|trivial
 |tup l => exact hu
 |undef => trivial⟩
theorem zzM{w2:World}(hw:zb7 ro st w)(he:Ext w w2):zb7 ro st w2 where
 but:=hw.but.trans he
 bk j b h:=by unfold zmx;rw[he.block _ (zkG hw h)];exact hw.bk j b h
 lt:=hw.lt
 ord:=hw.ord
 ax:=hw.ax
 nol:=hw.nol
 same:=hw.same
theorem zfI:Same ro st st:=⟨rfl,fun _ h=>h⟩
theorem zso(st:St (sem P Q))(b:Blk (sem P Q))(j:Nat):ro.blk { st with bl:=zto st.bl st.nx b,nx:=st.nx+1 } j=if st.nx=j then some b else ro.blk st j:=by
 unfold Ro.blk
 simp only[zg1]
 by_cases h:st.nx=j
 ·simp[h]
 ·simp only[h,if_false]
theorem znh{w2 x:World}(hw:zb7 ro st w)(hx:Ext w w2)(h:zb7 ro (St.moved (A:=sem P Q) st w2) x):zb7 ro st x where
 but:=hw.but.trans (hx.trans (Ext.of_but h.but))
 bk:=fun j b hb=>h.bk j b hb
 lt:=hw.lt
 ord:=hw.ord
 ax:=hw.ax
 nol:=hw.nol
 same:=hw.same
theorem zHi{b0:Blk (sem P Q)}{x:World}(hw:zb7 ro st w)(hs:(World.heap st.anchor).size<=(b0.num:Nat))(h:zb7 ro { st with bl:=zto st.bl st.nx b0,nx:=st.nx+1 } x):zb7 ro st x where
 but:=⟨h.but.os,h.but.tape,h.but.output,h.but.size,fun k hk hn=>h.but.block k hk fun hm=>by
  obtain⟨j,b,hj,hb,he⟩:=zj5.1 hm
  rw[zso] at hb
  split at hb
  ·obtain rfl:=Option.some.inj hb
   have hk:k<(World.heap st.anchor).size:=hk
   have he:(b0.num:Nat)=k:=he
   exact absurd hk (Nat.not_lt.2 (he▸hs))
  ·exact hn (zj5.2 ⟨j,b,hj,hb,he⟩)⟩
 bk:=fun j b hb=>h.bk j b (by rw[zso,if_neg (Ne.symm (Nat.ne_of_lt (hw.lt j b hb)))];exact hb)
 lt:=hw.lt
 ord:=hw.ord
 ax:=hw.ax
 nol:=hw.nol
 same:=hw.same
theorem zCx{t:TypeId}{v:SV (sem P Q)}(hw:zb7 ro st w)
  (hrun:(execOp a.eval o).run P w=.ok (.value (.pointer (some ⟨w.heap.size,0,none⟩))) (w.alloc (.cells v.toV.cells t)))
  (hpv:zaY v=true->(∀u∈v.cells.map Sc.toV,u.oneCell'=true)->zgU v) {sf:Prop} (h:zsY cfg ro st o t v put):o.wp P a w (zBl sf ro st o a put) Qx:=by
 refine ztU hrun ?_
 unfold zsY at h
 split at h
 ·exact h.elim
 ·rename_i d hd
  simp only[cond_eq_ite] at h
  split at h
  ·exact h.elim
  ·rename_i hnl
   have hnl:zaY v=true:=by simpa using hnl
   split at h
   ·
    have h1:=ziR (P:=P) (Q:=Q) h hw.but (zlE hw)
    obtain⟨hone,hk⟩:=h1
    have hp:=hpv hnl hone
    unfold zgU at hp
    rw[hp]
    have hx:Ext w (w.alloc (.cells (v.cells.map Sc.toV).toArray t)):=Below.alloc (Below.refl _ w) (Nat.le_refl _) _
    have hpu:=hk (some ⟨w.heap.size,0,none⟩) (w.alloc (.cells (v.cells.map Sc.toV).toArray t))
     ⟨rfl,rfl,hx,Array.size_push ..,by show(w.heap.push _)[w.heap.size]?=_;simp⟩
    refine⟨_,_,hpu,rfl,⟨zfk hw fun j b hb=>?_,fun _ x=>znh hw hx⟩,trivial,zfl _⟩
    exact hx.block _ (zkG hw hb)
   ·
    rw[zgV] at h
    obtain⟨hone,hk⟩:=h
    have hp:zgU v:=zDJ hone
    unfold zgU at hp
    rw[hp]
    have hpu:=hk w.heap.size hw.but.size
    have hx:Ext w (w.alloc (.cells (v.cells.map Sc.toV).toArray t)):=Below.alloc (Below.refl _ w) (Nat.le_refl _) _
    have hnew:∀j b,ro.blk { st with bl:=zto st.bl st.nx ⟨w.heap.size,t,v.cells⟩,nx:=st.nx+1 } j=some b->(j=st.nx/\b=⟨w.heap.size,t,v.cells⟩)\/(j≠st.nx/\ro.blk st j=some b):=by
     intro j b hb
     rw[zso] at hb
     split at hb
     ·rename_i he;exact .inl ⟨he.symm,(Option.some.inj hb).symm⟩
     ·rename_i he;exact .inr ⟨Ne.symm he,hb⟩
    refine⟨_,_,hpu,rfl,⟨?_,fun _ x=>zHi hw hw.but.size⟩,?_,⟨rfl,?_⟩⟩
    ·refine⟨?_,?_,?_,?_,?_,?_,?_⟩
     ·refine(hw.but.trans hx).mono fun d hd=>?_
      obtain⟨j,b,hj,hb,rfl⟩:=zj5.1 hd
      refine zj5.2 ⟨j,b,hj,?_,rfl⟩
      rw[zso,if_neg (Ne.symm (Nat.ne_of_lt (hw.lt j b hb)))]
      exact hb
     ·intro j b hb
      rcases hnew j b hb with⟨rfl,rfl⟩|⟨_,hb⟩
      ·show(w.heap.push _)[w.heap.size]?=_
       simp
      ·unfold zmx;rw[hx.block _ (zkG hw hb)];exact hw.bk j b hb
     ·intro j b hb
      rcases hnew j b hb with⟨rfl,_⟩|⟨_,hb⟩
      ·exact Nat.lt_succ_self _
      ·exact Nat.lt_succ_of_lt (hw.lt j b hb)
     ·intro i j b c hb hc hij
      rcases hnew i b hb with⟨rfl,rfl⟩|⟨_,hb⟩
      ·rcases hnew j c hc with⟨rfl,_⟩|⟨_,hc⟩
       ·exact absurd hij (Nat.lt_irrefl _)
       ·have:=hw.lt j c hc;omega
      ·rcases hnew j c hc with⟨rfl,rfl⟩|⟨_,hc⟩
       ·exact zkG hw hb
       ·exact hw.ord i j b c hb hc hij
     ·intro j b hb hj
      rcases hnew j b hb with⟨rfl,rfl⟩|⟨_,hb⟩
      ·exact hw.but.size
      ·exact hw.ax j b hb hj
     ·intro j b hb
      rcases hnew j b hb with⟨rfl,rfl⟩|⟨_,hb⟩
      ·exact hnl
      ·exact hw.nol j b hb
     ·intro j b b0 h0 hb
      rcases hnew j b hb with⟨rfl,rfl⟩|⟨_,hb⟩
      ·exfalso
       have:∃b1,ro.blk st st.nx=some b1:=by
        unfold Ro.blk
        split
        ·exact⟨_,rfl⟩
        ·exact⟨b0,h0⟩
       obtain⟨b1,hb1⟩:=this
       exact Nat.lt_irrefl _ (hw.lt _ _ hb1)
      ·exact hw.same j b b0 h0 hb
    ·refine⟨Nat.lt_succ_self _,fun b hb=>?_⟩
     rcases hnew _ b hb with⟨_,rfl⟩|⟨h,_⟩
     ·rfl
     ·exact absurd rfl h
    ·refine zp9 (Nat.le_succ _) fun j hj b' hb'=>?_
     rcases hnew j b' hb' with⟨rfl,_⟩|⟨_,hb⟩
     ·exact absurd hj (Nat.lt_irrefl _)
     ·exact⟨b',hb,rfl⟩
theorem zti{v:SV (sem P Q)}(h:∀u∈v.cells.map Sc.toV,u.oneCell'=true):zgU v:=by
 cases v with
 |agg l => rfl
 |sc x =>
  have h1:x.toV.oneCell'=true:=h _ (by simp[SV.cells])
  show x.toV.cells=#[x.toV]
  generalize x.toV=u at h1
  cases u<;>first|rfl|(simp[Value.oneCell'] at h1)
theorem zKz{t:TypeId}{x:Operand}{v:Value}(ho:o.op=.box t x)(hx:a.eval x=v):(execOp a.eval o).run P w=.ok (.value (.pointer (some ⟨w.heap.size,0,none⟩))) (w.alloc (.cells v.cells t)):=by
 simp[execOp,ho,Instr.box,newVar,newRow,hx]
theorem zD3{t:TypeId}{v:SV (sem P Q)}(ho:o.op=.alloc t)(hz:(zn2 P t:Option (SV (sem P Q)))=some v):(execOp a.eval o).run P w=.ok (.value (.pointer (some ⟨w.heap.size,0,none⟩))) (w.alloc (.cells v.toV.cells t)):=by
 have hzv:(zeroValue t).run P w=.ok v.toV w:=by
  unfold zn2 at hz
  cases hi:P.info? t with
  |none => simp[hi] at hz
  |some i =>
   cases hzz:i.zero with
   |none => simp[hi,hzz] at hz
   |some z =>
    simp only[hi,Option.bind_some,hzz,Option.some.injEq] at hz
    subst hz
    rw[zjn]
    simp[zeroValue,typeInfo,hi,hzz]
 simp[execOp,ho,Instr.alloc,hzv,newVar,newRow]
theorem zpf{nm:String}{s:Sh}{f:Sc (sem P Q)->Prop}(h:exSh (A:=sem P Q) nm s f):∃x,zcd x=true/\f x:=by
 cases s with
 |int k => obtain⟨n,h⟩:=h;exact⟨_,rfl,h⟩
 |bool => obtain⟨n,h⟩:=h;exact⟨_,rfl,h⟩
 |str => obtain⟨n,h⟩:=h;exact⟨_,rfl,h⟩
 |slc => obtain⟨p,l,c,h⟩:=h;exact⟨_,rfl,h⟩
 |ptr => obtain⟨n,h⟩:=h;exact⟨_,rfl,h⟩
 |val => obtain⟨n,h⟩:=h;exact⟨_,rfl,h⟩
theorem zrJ{nm:String}:∀{l:List Sh} {i:Nat} {f:List (Sc (sem P Q))->Prop},zJM (A:=sem P Q) nm i l f->∃x,x.all zcd=true/\f x
 |[],i,f,h => ⟨[],rfl,h⟩
 |s::r,i,f,h => by
  obtain⟨x,hx,h⟩:=zpf h
  obtain⟨y,hy,h⟩:=zrJ h
  exact⟨x::y,by simp[hx,hy],h⟩
theorem zCH{nm:String}{t:TypeId}{f:SV (sem P Q)->Prop}(h:exTy (A:=sem P Q) P nm t f):∃x,zaY x=true/\f x:=by
 unfold exTy at h
 simp only[cond_eq_ite] at h
 split at h
 ·obtain⟨x,hx,h⟩:=zrJ h
  exact⟨.agg x,hx,h⟩
 ·obtain⟨x,hx,h⟩:=zpf h
  exact⟨.sc x,by simp[zaY,SV.cells,hx],h⟩
theorem zel:∀{l:List (String×TypeId)} {f:List (SV (sem P Q))->Prop},zF7 (A:=sem P Q) P l f->∃x,x.all zaY=true/\f x
 |[],f,h => ⟨[],rfl,h⟩
 |(nm,t)::r,f,h => by
  obtain⟨x,hx,h⟩:=zCH h
  obtain⟨y,hy,h⟩:=zel h
  exact⟨x::y,by simp[hx,hy],h⟩
theorem zc5{l:List (SV (sem P Q))}(h:l.all zaY=true):zk5 ro st (zbF l):=by
 unfold zbF
 split
 ·simp only[List.all_cons,List.all_nil,Bool.and_true] at h
  exact zc6 h
 ·exact h
theorem zAX{ds:List Nat}{wa:World}{p:Option Addr}{i:Nat}{v:Value}(h:(sem P Q).oCell ds wa p i v):cell wa p i=some v/\zwq ds p:=by
 cases ds with
 |nil => exact⟨h,fun b hb => by cases hb⟩
 |cons d r => exact h
theorem zkC{ds:List Nat}{wa:World}{nm:String}{p:Option Addr}:∀{l:List Sh} {i:Nat} {f:List (Sc (sem P Q))->Prop},zzy (A:=sem P Q) ds wa nm p i l f ->
  ∃x,x.all zcd=true/\(∀j u,x[j]?=some u->cell wa p (i+j)=some u.toV)/\(x≠[]->zwq ds p)/\f x
 |[],i,f,h => ⟨[],rfl,by simp,by simp,h⟩
 |s::r,i,f,h => by
  obtain⟨x,hx,h1,h2⟩:=zpf h
  obtain⟨hc,hfr⟩:=zAX (P:=P) (Q:=Q) h1
  obtain⟨y,hy,hyc,_,h⟩:=zkC h2
  refine⟨x::y,by simp[hx,hy],?_,fun _=>hfr,h⟩
  intro j u hj
  cases j with
  |zero => simp only[List.getElem?_cons_zero,Option.some.injEq] at hj;subst hj;exact hc
  |succ j =>
   rw[List.getElem?_cons_succ] at hj
   have:=hyc j u hj
   rw[show i+(j+1)=i+1+j from by omega];exact this
theorem zCh{wa:World}{p:Option Addr}{i:Nat}{v:Value}(h:cell wa p i=some v):∃q,p=some q/\wa.cell? (q.add i)=some v:=by
 cases p with
 |none => simp[cell] at h
 |some q => exact⟨q,rfl,h⟩
theorem zFU{nm:String}{t:TypeId}{x:Operand}{p:Option Addr}(hr:zbw a rd)(ho:o.op=.load t x)(hx:sc? (rd x)=some (Sc.ptr (A:=sem P Q) p))
  (h:zsS P ro st nm o t p put):∃v,(∀w,zb7 ro st w->zbe P o a w v.toV)/\zk5 ro st v/\put v st:=by
 have ex:=hr.sc hx
 unfold zsS at h
 split at h
 ·exact h.elim
 ·rename_i d hd
  simp only[cond_eq_ite] at h
  split at h
  ·rename_i hbig
   have hagg:zda P t=true:=by simp only[Bool.and_eq_true] at hbig;exact hbig.1
   obtain⟨u,⟨cs,rfl,hl,hc,hfr,hp⟩,h⟩:=h
   refine⟨.one (.sc (.val (.agg cs.toArray))),fun w hw=>?_,trivial,h⟩
   cases p with
   |none => exact absurd rfl hp
   |some q =>
    refine zaZ (s:=Instr.loadAt t (a.eval x)) (by simp[execOp,ho]) ?_
    rw[ex]
    simp only[toV_ptr,Instr.loadAt,Instr.sureAddr,Sem.run_bind,Sem.run_pure,Result.andThen_ok,loadVar,zeo hd,hagg,if_true,zbD hd]
    have hlc:∀j u,cs[j]?=some u->w.cell? (q.add j)=some u:=by
     intro j u hj
     have h2:st.anchor.cell? (q.add j)=some u:=hc j u hj
     refine zor hw.but h2 ?_
     intro hm
     exact hfr _ hm q rfl (zaU q j).symm
    have:=run_loadCells_list (P:=P) (w:=w) q cs hlc
    rw[hl] at this
    rw[this];simp
  split at h
  ·rename_i hagg
   obtain⟨hp,h⟩:=h
   obtain⟨cs,hn,hc,hfr,h⟩:=zkC h
   split at h
   ·rename_i hl
    have hl:cs.length=P.cellsOf t:=by simpa using hl
    refine⟨.one (.agg cs),fun w hw=>?_,hn,h⟩
    cases p with
    |none => exact absurd rfl hp
    |some q =>
     refine zaZ (s:=Instr.loadAt t (a.eval x)) (by simp[execOp,ho]) ?_
     rw[ex]
     simp only[toV_ptr,Instr.loadAt,Instr.sureAddr,Sem.run_bind,Sem.run_pure,Result.andThen_ok,loadVar,zeo hd,hagg,if_true,zbD hd]
     have hlc:∀j u,(cs.map Sc.toV)[j]?=some u->w.cell? (q.add j)=some u:=by
      intro j u hj
      rw[List.getElem?_map] at hj
      simp only[Option.map_eq_some_iff] at hj
      obtain⟨y,hy,rfl⟩:=hj
      have h1:=hc j y hy
      rw[Nat.zero_add] at h1
      have h2:st.anchor.cell? (q.add j)=some y.toV:=h1
      refine zor hw.but h2 ?_
      have hne:cs≠[]:=by intro h0;rw[h0] at hy;simp at hy
      intro hm
      exact hfr hne _ hm q rfl (zaU q j).symm
     have:=run_loadCells_list (P:=P) (w:=w) q (cs.map Sc.toV) hlc
     rw[List.length_map,hl] at this
     rw[this];simp
   ·exact h.elim
  ·rename_i hagg
   obtain⟨cs,hn,hc,hfr,h'⟩:=zkC h
   clear h
   split at h'
   ·rename_i y
    have h1:=hc 0 y rfl
    rw[Nat.add_zero] at h1
    obtain⟨q,rfl,h2⟩:=zCh h1
    have h2:st.anchor.cell? q=some y.toV:=h2
    refine⟨.one (.sc y),fun w hw=>?_,zng (by simpa using hn),h'⟩
    refine zaZ (s:=Instr.loadAt t (a.eval x)) (by simp[execOp,ho]) ?_
    rw[ex]
    have h3:w.cell? q=some y.toV:=zor hw.but h2 fun hm=>hfr (by simp) _ hm q rfl rfl
    have hagg:zda P t=false:=by simpa using hagg
    simp[Instr.loadAt,Instr.sureAddr,loadVar,zeo hd,hagg,h3]
   ·exact h'.elim
theorem zA3{w2:World}{st2:St (sem P Q)}(hw:zb7 ro st w)(hbl:st2.bl=st.bl)(hnx:st2.nx=st.nx)(hax:st2.ax=st.ax)(hd:st2.dirty=st.dirty)
  (hbut:But (ro.dn st) st2.anchor w2) (hsz:(World.heap st2.anchor).size=(World.heap st.anchor).size) (hk:∀j b,ro.blk st j=some b->w2.heap[(b.num:Nat)]?=w.heap[(b.num:Nat)]?):zb7 ro st2 w2:=by
 have hb:∀j,ro.blk st2 j=ro.blk st j:=fun j=>by unfold Ro.blk;rw[hbl]
 have hdn:ro.dn st2=ro.dn st:=by unfold Ro.dn;rw[hd];congr 1;funext j;rw[hb]
 refine⟨by rw[hdn];exact hbut,fun j b h=>?_,fun j b h=>?_,fun i j b c h1 h2=>?_,fun j b h hj=>?_,fun j b h=>?_,fun j b b0 h0 h=>?_⟩
 ·rw[hb] at h;unfold zmx;rw[hk j b h];exact hw.bk j b h
 ·rw[hb] at h;rw[hnx];exact hw.lt j b h
 ·rw[hb] at h1 h2;exact hw.ord i j b c h1 h2
 ·rw[hb] at h;rw[hax] at hj;rw[hsz];exact hw.ax j b h hj
 ·rw[hb] at h;exact hw.nol j b h
 ·rw[hb] at h;exact hw.same j b b0 h0 h
theorem zvR{ds:List Nat}{wa w:World}(h:But ds wa w){q:Addr}(hq:q.block<wa.heap.size)(hf:q.block∉ds)(vs:List Value):∀i,But ds (setCells wa q vs i) (setCells w q vs i):=by
 induction vs generalizing wa w with
 |nil => intro i;exact h
 |cons v r ih =>
  intro i
  refine ih ?_ ?_ _
  ·refine⟨h.os,h.tape,h.output,?_,fun k hk hn=>?_⟩
   ·simp only[World.setCell,Array.size_modify];exact h.size
   ·simp only[World.setCell,Array.size_modify] at hk
    simp only[World.setCell,Array.getElem?_modify]
    rw[h.block k hk hn]
  ·simp only[World.setCell,Array.size_modify];exact hq
theorem znY{t:TypeId}{x y:Operand}{q:Addr}{v:SV (sem P Q)}{w2:World}(ho:o.op=.store t x y)(hx:a.eval x=.pointer (some q))(hy:a.eval y=v.toV)(hv:zgU v)(hsz:v.cells.length=P.cellsOf t)(h0:P.cellsOf t≠0)
  (hrun:(storeCells q (v.cells.map Sc.toV) 0).run P w=.ok () w2):(execOp a.eval o).run P w=.ok .skip w2:=by
 unfold zgU at hv
 have hs:(sizeOf t).run P w=.ok (P.cellsOf t) w:=by
  unfold Program.cellsOf at *
  cases hi:P.info? t with
  |none => simp[hi] at h0
  |some i => simp[sizeOf,typeInfo,hi]
 simp only[execOp,ho,Instr.storeAt,hx,hy,Instr.sureAddr,storeVar,Sem.run_bind,Sem.run_pure,Result.andThen_ok,hs,hv,List.size_toArray,List.length_map,hsz]
 simp[hrun]
theorem zB7{st2:St (sem P Q)}{j:Nat}{b':Blk (sem P Q)}(hbl:st2.bl=zto st.bl j b')(i:Nat):ro.blk st2 i=if j=i then some b' else ro.blk st i:=by
 unfold Ro.blk
 rw[hbl,zg1]
 by_cases h:j=i
 ·simp[h]
 ·simp only[h,if_false]
theorem zCy{t:TypeId}{x y:Operand}{sx:Sc (sem P Q)}{v:SV (sem P Q)}(hr:zbw a rd)(hs:∀x v,rd x=some v->zk5 ro st v)(ho:o.op=.store t x y)(hx:sc? (rd x)=some sx)(hy:one? (rd y)=some v)
  (hw:zb7 ro st w) (h:zqb P ro st o t sx v put):o.wp P a w (zBl False ro st o a put) Qx:=by
 have ex:=hr.sc hx
 have ey:=hr.one hy
 unfold zqb at h
 simp only[cond_eq_ite] at h
 split at h
 ·exact h.elim
 ·rename_i hc
  have hc:(v.cells.length=P.cellsOf t/\zaY v=true)/\P.cellsOf t≠0:=by
   simpa[Nat.beq_eq] using hc
  obtain⟨⟨hsz,hnl⟩,h0⟩:=hc
  split at h
  ·
   rename_i j n off
   split at h
   ·rename_i b hb
    split at h
    ·rename_i hfit
     have hfit:off+v.cells.length<=b.cells.length:=by simpa using hfit
     rw[zgV] at h
     obtain⟨hone,hk⟩:=h
     have hv:=zDJ hone
     have hloc:=hs _ _ (sc?_some hx)
     have hnum:b.num=n:=hloc.2 b hb
     have hbk:w.heap[(n:Nat)]?=some (.cells (b.cells.map Sc.toV).toArray b.ty):=by
      have:=hw.bk j b hb;unfold zmx at this;rw[hnum] at this;exact this
     have hcell:∀i,i<v.cells.length->(w.cell? (Addr.add ⟨n,off,none⟩ i)).isSome=true:=by
      intro i hi
      rw[zms]
      simp only[World.cell?,hbk]
      simp;omega
     have hfr:∀i,w.frozen? (Addr.add ⟨n,off,none⟩ i)=false:=by
      intro i
      rw[zms]
      simp[World.frozen?,hbk]
     have honec:∀u∈v.cells.map Sc.toV,u.oneCell'=true:=by
      intro u hu
      obtain⟨z,hz,rfl⟩:=List.mem_map.1 hu
      have hall:∀(l:List (Sc (sem P Q))),All (znU l)->∀z∈l,(z.toV).oneCell'=true:=by
       intro l
       induction l with
       |nil => intro _ z hz;cases hz
       |cons c r ih =>
        intro h z hz
        rcases List.mem_cons.1 hz with rfl|hz
        ·cases z<;>first|rfl|exact h.1
        ·refine ih ?_ z hz
         cases c<;>first|exact h|exact h.2
      exact hall _ hone z hz
     have hrun:=zgF (P:=P) ⟨n,off,none⟩ (v.cells.map Sc.toV) 0 w (by intro i hi;rw[Nat.zero_add];exact hcell i (by simpa using hi)) (by intro i _;exact hfr _) honec
     refine ztS (znY ho (by rw[ex];rfl) ey hv hsz h0 hrun) ?_
     obtain⟨f1,f2,f3,f4,f5⟩:=zez ⟨n,off,none⟩ (v.cells.map Sc.toV) 0 w
     have fb:=zkf n off b.ty (0,0) (v.cells.map Sc.toV) 0 w (b.cells.map Sc.toV) hbk
     rw[Nat.add_zero,<-zh2] at fb
     have hblk:∀i b',(if j=i then some ({ b with cells:=zaE b.cells off v.cells }:Blk (sem P Q)) else ro.blk st i)=some b'->(i=j/\b'={ b with cells:=zaE b.cells off v.cells })\/(i≠j/\ro.blk st i=some b'):=by
      intro i b' h
      split at h
      ·rename_i he;exact .inl ⟨he.symm,(Option.some.inj h).symm⟩
      ·rename_i he;exact .inr ⟨Ne.symm he,h⟩
     have hne:∀i b',i≠j->ro.blk st i=some b'->(b'.num:Nat)≠n:=by
      intro i b' hij hb' he
      rcases Nat.lt_or_gt_of_ne hij with hl|hg
      ·have h3:=hw.ord i j b' b hb' hb hl;rw[hnum] at h3;exact Nat.ne_of_lt h3 he
      ·have h3:=hw.ord j i b b' hb hb' hg;rw[hnum] at h3;exact Nat.ne_of_gt h3 he
     refine⟨_,_,hk,rfl,⟨?_,fun h=>h.elim⟩,trivial,⟨rfl,?_⟩⟩
     ·have hget:=fun i=>zB7 (P:=P) (Q:=Q) (ro:=ro) (st:=st) (st2:={ st with bl:=zto st.bl j { b with cells:=zaE b.cells off v.cells },dirty:=zst st j }) (j:=j) (b':={ b with cells:=zaE b.cells off v.cells }) rfl i
      refine⟨?_,?_,?_,?_,?_,?_,?_⟩
      ·refine⟨f1.trans hw.but.os,f2.trans hw.but.tape,f3.trans hw.but.output,by rw[f4];exact hw.but.size,fun k hk hn=>?_⟩
       have hkn:k≠n:=by
        intro hkn
        subst hkn
        by_cases hj:j<st.ax
        ·refine hn (zj5.2 ⟨j,{ b with cells:=zaE b.cells off v.cells },?_,by rw[hget,if_pos rfl],hnum⟩)
         have hblt:Nat.blt j st.ax=true:=by rw[Nat.blt_eq];exact hj
         simp only[zst,hblt,Bool.true_and]
         cases hm:zhg st.dirty j
         ·simp
         ·simp only[Bool.not_true,cond_false];exact(zcI _ _).1 hm
        ·have h3:=hw.ax j b hb (Nat.not_lt.1 hj)
         rw[hnum] at h3;exact absurd hk (Nat.not_lt.2 h3)
       rw[f5 k hkn]
       refine hw.but.block k hk fun hm=>hn ?_
       obtain⟨i,b',hi,hb',hnb⟩:=zj5.1 hm
       by_cases hij:i=j
       ·subst hij
        rw[hb] at hb'
        obtain rfl:=Option.some.inj hb'
        exact absurd (hnb.symm.trans hnum) hkn
       ·refine zj5.2 ⟨i,b',?_,by rw[hget,if_neg (Ne.symm hij)];exact hb',hnb⟩
        simp only[zst,cond_eq_ite]
        split
        ·exact List.mem_cons_of_mem _ hi
        ·exact hi
      ·intro i b' hb'
       rw[hget] at hb'
       rcases hblk i b' hb' with⟨_,rfl⟩|⟨hij,hb'⟩
       ·show _=_
        rw[show(({ b with cells:=zaE b.cells off v.cells }:Blk (sem P Q)).num)=n from hnum]
        exact fb
       ·unfold zmx
        rw[f5 _ (hne i b' hij hb')]
        exact hw.bk i b' hb'
      ·intro i b' hb'
       rw[hget] at hb'
       rcases hblk i b' hb' with⟨rfl,rfl⟩|⟨hij,hb'⟩
       ·exact hw.lt _ b hb
       ·exact hw.lt i b' hb'
      ·intro i k b1 b2 h1 h2 hik
       rw[hget] at h1 h2
       rcases hblk i b1 h1 with⟨e1,f1⟩|⟨_,g1⟩<;>rcases hblk k b2 h2 with⟨e2,f2⟩|⟨_,g2⟩
       ·rw[e1,e2] at hik;exact absurd hik (Nat.lt_irrefl _)
       ·rw[f1];rw[e1] at hik;exact hw.ord _ k b b2 hb g2 hik
       ·rw[f2];rw[e2] at hik;exact hw.ord i _ b1 b g1 hb hik
       ·exact hw.ord i k b1 b2 g1 g2 hik
      ·intro i b' hb' hi
       rw[hget] at hb'
       rcases hblk i b' hb' with⟨rfl,rfl⟩|⟨_,hb'⟩
       ·exact hw.ax _ b hb hi
       ·exact hw.ax i b' hb' hi
      ·intro i b' hb'
       rw[hget] at hb'
       rcases hblk i b' hb' with⟨rfl,rfl⟩|⟨_,hb'⟩
       ·exact zgG _ _ _ (hw.nol _ b hb) hnl
       ·exact hw.nol i b' hb'
      ·intro i b' b0 h0 hb'
       rw[hget] at hb'
       rcases hblk i b' hb' with⟨rfl,rfl⟩|⟨_,hb'⟩
       ·exact hw.same _ b b0 h0 hb
       ·exact hw.same i b' b0 h0 hb'
     ·refine zp9 (Nat.le_refl _) fun i _ b' hb'=>?_
      rw[zB7 (P:=P) (Q:=Q) (ro:=ro) (st:=st) rfl i] at hb'
      rcases hblk i b' hb' with⟨rfl,rfl⟩|⟨_,hb'⟩
      ·exact⟨b,hb,rfl⟩
      ·exact⟨b',hb',rfl⟩
    ·exact h.elim
   ·exact h.elim
  ·
   rename_i p
   obtain⟨hok,hk⟩:=h
   cases p with
   |none => exact absurd rfl hok.some
   |some q =>
    have hv:=zti hok.one
    have hpos:0<v.cells.length:=by omega
    have hcell:∀i,i<v.cells.length->∃u,st.anchor.cell? (q.add i)=some u:=fun i hi=>Option.isSome_iff_exists.1 (hok.cells i (by simpa using hi))
    obtain⟨u0,hu0⟩:=hcell 0 hpos
    have hq:q.block<(World.heap st.anchor).size:=by have:=zCi hu0;rwa [zaU] at this
    have hnn:q.block∉ro.nums st:=fun hm=>hok.apart _ hm q rfl rfl
    have hnd:q.block∉ro.dn st:=fun hm=>hnn (zAz hw hm)
    have hblkq:w.heap[q.block]?=(World.heap st.anchor)[q.block]?:=hw.but.block _ hq hnd
    have hrun:=zgF (P:=P) q (v.cells.map Sc.toV) 0 w
     (by intro i hi;rw[Nat.zero_add];obtain⟨u,hu⟩:=hcell i (by simpa using hi);rw[zor hw.but hu (by rw[zaU];exact hnd)];rfl)
     (by
       intro i hi;rw[Nat.zero_add];have:=hok.free i (by simpa using hi) q rfl
       rw[<-this];exact World.frozen?_of_block (w:=st.anchor) (by rw[zaU];exact hblkq)) hok.one
    refine ztS (znY ho (by rw[ex];rfl) ey hv hsz h0 hrun) ?_
    have hpu:=hk _ rfl
    refine⟨_,_,hpu,rfl,⟨?_,fun h=>h.elim⟩,trivial,⟨rfl,zp9 (Nat.le_refl _) fun i _ b' hb'=>⟨b',hb',rfl⟩⟩⟩
    obtain⟨f1,f2,f3,f4,f5⟩:=zez q (v.cells.map Sc.toV) 0 w
    obtain⟨g1,g2,g3,g4,g5⟩:=zez q (v.cells.map Sc.toV) 0 st.anchor
    refine zA3 hw rfl rfl rfl rfl (zvR hw.but hq hnd _ 0) g4 fun j b hb=>f5 _ ?_
    intro he
    exact hnn (he▸zoz.2 ⟨j,b,hw.lt j b hb,hb,rfl⟩)
  ·exact h.elim
theorem znM{ns:List Nat}{w2:World}{k:Prop}(h:zsP (A:=sem P Q) ns w w2 k):(∀b∈ns,w2.heap[b]?=w.heap[b]?)/\k:=by
 unfold zsP at h
 split at h
 ·exact⟨fun b hb=>(by cases hb),h⟩
 ·exact⟨h.1,h.2⟩
theorem zzp{w2:World}(hw:zb7 ro st w)(hk:∀b∈ro.nums st,w2.heap[b]?=w.heap[b]?):∀j b,ro.blk st j=some b->w2.heap[(b.num:Nat)]?=w.heap[(b.num:Nat)]? :=
 fun j b hb=>hk _ (zoz.2 ⟨j,b,hw.lt j b hb,hb,rfl⟩)
theorem ziY{nm:String}{ext:Bool}{rts:List TypeId}{call:World->(Value->World->Prop)->Prop}(hw:zb7 ro st w)
  (hcall:∀K,call w K->∃f args,(execOp a.eval o).run P w=.ok (.enter f args) w/\Calls P f args w (fun e w'=>∃v,e=.returned v/\K v w'))
  (h:zf8 P ro st nm ext rts call put):o.wp P a w (zBl (ext=true) ro st o a put) Qx:=by
 unfold zf8 at h
 simp only at h
 have h1:=ziR (P:=P) (Q:=Q) h hw.but (by
  intro b hb
  simp only[cond_eq_ite] at hb
  split at hb
  ·cases hb
  ·exact zlE hw b hb)
 obtain⟨f,args,hrun,hc⟩:=hcall _ h1
 unfold Oper.wp
 rw[hrun]
 refine hc.mono fun e w2 ⟨v,he,hv⟩=>?_
 subst he
 show zBl (ext=true) ro st o a put (a.put o.dst v) w2
 simp only[cond_eq_ite] at hv
 split at hv
 ·obtain⟨hx,hv⟩:=hv
  have hx:Ext w w2:=hx
  split at hv
  ·obtain⟨l,hl,he,hv⟩:=zel hv
   have he:v=(zbF l).toV:=he
   exact⟨_,_,hv,by rw[he],⟨zfk hw fun j b hb=>hx.block _ (zkG hw hb),fun _ x=>znh hw hx⟩,zc5 hl,zfl _⟩
  ·obtain⟨l,hl,he,hv⟩:=zel hv
   have he:v=(zbF l).toV:=he
   exact⟨_,_,hv,by rw[he],⟨zzM hw hx,fun _ x h=>h⟩,zc5 hl,zfI⟩
 ·obtain⟨hk,hv⟩:=znM hv
  obtain⟨l,hl,he,hv⟩:=zel hv
  have he:v=(zbF l).toV:=he
  exact⟨_,_,hv,by rw[he],⟨zfk hw (zzp hw hk),fun h=>absurd h ‹¬ext=true›⟩,zc5 hl,zfl _⟩
theorem zhZ{f:Operand}{args:Array Operand}{ats:Array TypeId}{g:Nat}{cap:Array Value}(ho:o.op=.call { callee:=.value f,args,argTypes:=ats })(hf:a.eval f=.func (.func g) #[] cap)
  (he:znF P g):(execOp a.eval o).run P w=.ok (.enter g (args.map a.eval++cap)) w:=by
 have:execOp a.eval o=(do let d <-resolve a.eval { callee:=.value f,args,argTypes:=ats } o.type;invoke d.target d.args):=by
  cases o;subst ho;rfl
 rw[this]
 simp only[resolve,hf,Deferred.ofValue,Sem.run_bind,Sem.run_pure,Result.andThen_ok,invoke]
 rw[he];simp
theorem zx1{f:Operand}{args:Array Operand}{ats:Array TypeId}{g:Nat}{bd cap:Array Value}(ho:o.op=.call { callee:=.value f,args,argTypes:=ats })(hf:a.eval f=.func (.func g) bd cap)
  (he:znF P g):(execOp a.eval o).run P w=.ok (.enter g (bd++args.map a.eval++cap)) w:=by
 have:execOp a.eval o=(do let d <-resolve a.eval { callee:=.value f,args,argTypes:=ats } o.type;invoke d.target d.args):=by
  cases o;subst ho;rfl
 rw[this]
 simp only[resolve,hf,Deferred.ofValue,Sem.run_bind,Sem.run_pure,Result.andThen_ok,invoke]
 rw[he]
theorem zKJ{c:Bool}(h:(bif c then Kd.soft else Kd.hard)=Kd.soft):c=true:=by cases c<;>first|rfl|cases h
theorem zdV{sf sf':Prop}{a':Act}{w':World}(h:sf'->sf)(hl:zBl sf ro st o a put a' w'):zBl sf' ro st o a put a' w':=by
 obtain⟨v,st',h1,h2,⟨h3,h4⟩,h5,h6⟩:=hl
 exact⟨v,st',h1,h2,⟨h3,fun hs=>h4 (h hs)⟩,h5,h6⟩
theorem zBa{f:Operand}{g:Nat}{cap:List Value}(hs:zA9 cfg f=true)(ef:a.eval f=(SV.sc (Sc.fn (A:=sem P Q) g cap)).toV):(!zhg cfg.muts g)=true:=by
 unfold zA9 at hs
 split at hs
 ·rename_i g'
  have:g'=g:=by
   simp only[Act.eval,SV.toV,Sc.toV] at ef
   injection ef with e1 e2 e3
   injection e1
  simp only[Bool.and_eq_true] at hs
  rw[<-this];exact hs.1
 ·rw[List.isEmpty_iff.1 hs];rfl
theorem zHh{f:Operand}(hs:zA9 cfg f=true):(!zhg cfg.muts 1000000)=true:=by
 unfold zA9 at hs
 split at hs
 ·simp only[Bool.and_eq_true] at hs
  exact hs.2
 ·rw[List.isEmpty_iff.1 hs];rfl
theorem zFT{nm:String}{f:Operand}{args:Array Operand}{ats:Array TypeId}(hr:zbw a rd)(ho:o.op=.call { callee:=.value f,args,argTypes:=ats })(hw:zb7 ro st w)
  (h:zCd P cfg ro st rd nm o f args.toList put):o.wp P a w (zBl (zA9 cfg f=true) ro st o a put) Qx:=by
 unfold zCd at h
 split at h
 ·rename_i g cap l hf hl
  have ef:=hr.one hf
  have el:=zdB hr hl
  have ea:args.map a.eval=(l.map SV.toV).toArray:=by rw[<-el,<-Array.toList_map]
  simp only[cond_eq_ite] at h
  split at h
  ·refine Oper.wp_mono (fun _ _=>zdV (fun hs=>zBa hs ef)) (ziY hw (fun K hK=>?_) h)
   have hK:FnP P g (l.map SV.toV++cap).toArray w K:=hK
   refine⟨g,_,zhZ ho ef hK.1,?_⟩
   have e2:args.map a.eval++cap.toArray=(l.map SV.toV++cap).toArray:=by rw[ea];simp
   rw[e2];exact hK.2
  ·exact h.elim
 ·rename_i u l hf hl
  have ef:=hr.one hf
  have el:=zdB hr hl
  have ea:args.map a.eval=(l.map SV.toV).toArray:=by rw[<-el,<-Array.toList_map]
  simp only[cond_eq_ite] at h
  split at h
  ·refine Oper.wp_mono (fun _ _=>zdV (fun hs=>zHh hs)) (ziY hw (fun K hK=>?_) h)
   have hK:(bif zhg cfg.muts 2000000 then zIE P u (l.map SV.toV) w K else zil P u (l.map SV.toV) w K):=by
    revert hK
    cases zhg cfg.muts 2000000<;>exact id
   simp only[cond_eq_ite] at hK
   split at hK
   ·obtain⟨g,bd,cap,hu,hK⟩:=hK
    have hu:u=.func (.func g) bd cap:=hu
    refine⟨g,_,zx1 ho (by rw[ef];exact hu) hK.1,?_⟩
    rw[ea];exact hK.2
   ·obtain⟨g,cap,hu,hK⟩:=hK
    have hu:u=.func (.func g) #[] cap:=hu
    refine⟨g,_,zhZ ho (by rw[ef];exact hu) hK.1,?_⟩
    rw[ea];exact hK.2
  ·exact h.elim
 ·exact h.elim
theorem zA6{r:Operand}{m:String}{args:Array Operand}{ats:Array TypeId}{t:TypeId}{x:Value}{g:Nat}{rv:Value}(ho:o.op=.call { callee:=.invoke r m,args,argTypes:=ats })(hf:a.eval r=.iface t x)
  (hm:(method (P.types.size+Made.depth) t x m).run P w=.ok (g,rv) w) (he:znF P g):(execOp a.eval o).run P w=.ok (.enter g (#[rv]++args.map a.eval)) w:=by
 have:execOp a.eval o=(do let d <-resolve a.eval { callee:=.invoke r m,args,argTypes:=ats } o.type;invoke d.target d.args):=by
  cases o;subst ho;rfl
 rw[this]
 have e1:(#[Value.iface t x]++args.map a.eval)[0]?=some (Value.iface t x):=by rw[Array.getElem?_append_left (by simp)];rfl
 have e2:(#[Value.iface t x]++args.map a.eval).extract 1 (#[Value.iface t x]++args.map a.eval).size=args.map a.eval:=by
  apply Array.ext'
  simp
  exact List.take_of_length_le (by simp)
 simp only[resolve,hf,Sem.run_bind,Sem.run_pure,Result.andThen_ok,invoke,e1,e2,callMethod]
 rw[show(Sem.run P program w)=.ok P w from rfl]
 simp only[Result.andThen_ok]
 rw[hm]
 simp only[Result.andThen_ok]
 rw[he]
theorem zJy{nm:String}{r:Operand}{m:String}{args:Array Operand}{ats:Array TypeId}(hr:zbw a rd)(ho:o.op=.call { callee:=.invoke r m,args,argTypes:=ats })(hw:zb7 ro st w)
  (h:zJZ P cfg ro st rd nm o r m args.toList put):o.wp P a w (zBl (false=true) ro st o a put) Qx:=by
 unfold zJZ at h
 split at h
 ·rename_i v l hf hl
  have ef:=hr.one hf
  have el:=zdB hr hl
  have ea:args.map a.eval=(l.map SV.toV).toArray:=by rw[<-el,<-Array.toList_map]
  simp only[cond_eq_ite] at h
  split at h
  ·refine ziY hw (fun K hK=>?_) h
   obtain⟨t,x,g,rv,hv,hm,hK⟩:=hK
   have hv:v.toV=.iface t x:=hv
   refine⟨g,_,zA6 ho (by rw[ef];exact hv) hm hK.1,?_⟩
   rw[ea];exact hK.2
  ·exact h.elim
 ·exact h.elim
theorem zJz{nm:String}{rts:Option (List TypeId)}{m:MC Value}(hw:zb7 ro st w)
  (hrun:∀v w',(MC.sem m).run P w=.ok v w'->(match rts with|some _=>(execOp a.eval o).run P w=.ok (.value v) w'|none=>(execOp a.eval o).run P w=.ok .skip w'))
  (h:zx0 P ro st nm rts m put):o.wp P a w (zBl False ro st o a put) Qx:=by
 unfold zx0 at h
 simp only at h
 have h1:=ziR (P:=P) (Q:=Q) h hw.but (zlE hw)
 obtain⟨v,w2,hm,hv⟩:=h1
 have hr:=hrun v w2 hm
 obtain⟨hk,hv⟩:=znM hv
 have hk:=zzp hw hk
 cases rts with
 |some l =>
  obtain⟨l,hl,he,hv⟩:=zel hv
  have he:v=(zbF l).toV:=he
  exact ztU hr ⟨_,_,hv,by rw[he],⟨zfk hw hk,fun h=>h.elim⟩,zc5 hl,zfl _⟩
 |none => exact ztS hr ⟨_,_,hv,rfl,⟨zfk hw hk,fun h => h.elim⟩,trivial,zfl _⟩
theorem zFV{nm:String}{rts:List TypeId}{m:MC Value}(hw:zb7 ro st w)
  (hrun:∀v w',(MC.sem m).run P w=.ok v w'->(execOp a.eval o).run P w=.ok (.value v) w')
  (h:zf8 (A:=sem P Q) P ro st nm true rts (fun w kk=>Run P m w kk) put):o.wp P a w (zBl True ro st o a put) Qx:=by
 unfold zf8 at h
 simp only at h
 have h1:=ziR (P:=P) (Q:=Q) h hw.but (by
  intro b hb
  simp only[cond_eq_ite] at hb
  split at hb
  ·cases hb
  ·exact zlE hw b hb)
 obtain⟨v,w2,hm,hv⟩:=h1
 refine ztU (hrun v w2 hm) ?_
 simp only[cond_true] at hv
 obtain⟨hx,hv⟩:=hv
 have hx:Ext w w2:=hx
 simp only[cond_eq_ite] at hv
 split at hv
 ·obtain⟨l,hl,he,hv⟩:=zel hv
  have he:v=(zbF l).toV:=he
  exact⟨_,_,hv,by rw[he],⟨zfk hw fun j b hb=>hx.block _ (zkG hw hb),fun _ x=>znh hw hx⟩,zc5 hl,zfl _⟩
 ·obtain⟨l,hl,he,hv⟩:=zel hv
  have he:v=(zbF l).toV:=he
  exact⟨_,_,hv,by rw[he],⟨zzM hw hx,fun _ x h=>h⟩,zc5 hl,zfI⟩
theorem kd_mc{o:Oper}(h:zxq P cfg o=.soft)(h1:∀t x,o.op≠.box t x)(h2:∀t,o.op≠.alloc t)(h3:∀f a t,o.op≠.call ⟨.value f,a,t⟩):(zl0 o&&!zbH o)=true:=by
 cases ho:o.op with
 |box t x => exact absurd ho (h1 t x)
 |alloc t => exact absurd ho (h2 t)
 |call c =>
  obtain⟨callee,args,ats⟩:=c
  cases callee with
  |value f => exact absurd ho (h3 f args ats)
  |invoke f m => simp[zxq,ho,zl0] at h
  |builtin b => cases b<;>simp[zxq,ho,zl0,zbH] at h ⊢
 |_ => simp[zxq,ho,zl0,zbH] at h ⊢
theorem zw0(op:BinOp)(t:TypeId)(x y:Operand)(u v:Value):eqGuard op t x y u v=eqGuard op t (opd (zsL x)) (opd (zsL y)) u v:=by
 unfold eqGuard
 cases x<;>cases y<;>rfl
theorem zaQ(hr:zbw a rd){x:Operand}{v:Value}(h:zod (A:=sem P Q) rd x=some v):a.eval x=v:=by
 unfold zod at h
 split at h
 ·rename_i u hu
  simp only[cond_eq_ite] at h
  split at h
  ·simp only[Option.some.injEq] at h
   rw[hr.one hu];exact h
  ·simp at h
 ·simp at h
theorem zpW(hr:zbw a rd){x:Option Operand}{v:Option Value}(h:zLh (A:=sem P Q) rd x=some v):x.map a.eval=v:=by
 cases x with
 |none => simp only[zLh,Option.some.injEq] at h;subst h;rfl
 |some x =>
  simp only[zLh,Option.map_eq_some_iff] at h
  obtain⟨u,hu,rfl⟩:=h
  simp[zaQ hr hu]
def zBy(P:Program)(o:Oper)(a:Act)(m:MC Value):Prop:=∀w v w',(MC.sem m).run P w=.ok v w'->(if zbH o then (execOp a.eval o).run P w=.ok .skip w' else (execOp a.eval o).run P w=.ok (.value v) w')
theorem zbC{m:MC Value}(hs:zbH o=false)(h:execOp a.eval o=(do pure (.value (<-MC.sem m)))):zBy P o a m:=by
 intro w v w' hm
 rw[hs]
 simp only[Bool.false_eq_true,if_false]
 rw[h];simp[hm]
theorem zDl{m:MC Value}(hr:zbw a rd)(h:zpE P rd o=some m):zBy P o a m:=by
 cases ho:o.op with
 |call c =>
  obtain⟨callee,args,ats⟩:=c
  cases callee with
  |value f => simp[zpE,ho] at h
  |invoke f m => simp[zpE,ho] at h
  |builtin b =>
   simp only[zpE,ho] at h
   split at h
   ·rename_i l hl
    have el:=zdB hr hl
    have ea:args.map a.eval=(l.map SV.toV).toArray:=by rw[<-el,<-Array.toList_map]
    have hx:execOp a.eval o=builtin b ats o.type (args.map fun|.const _=>true|_=>false) (args.map a.eval):=by
     cases o;subst ho;rfl
    simp only[cond_eq_ite] at h
    split at h
    ·simp at h
    ·cases b<;>simp only[Option.some.injEq,reduceCtorEq] at h<;>subst h <;>
      exact zbC (by simp[zbH,ho]) (by rw[hx,ea];rfl)
   ·simp at h
 |makeSlice t l c =>
  simp only[zpE,ho,Option.bind_eq_some_iff,Option.map_eq_some_iff] at h
  obtain⟨x,hx,y,hy,rfl⟩:=h
  refine zbC (by simp[zbH,ho]) ?_
  simp[execOp,ho,MC.sem,zaQ hr hx,zaQ hr hy]
 |buildSlice t n parts =>
  simp only[zpE,ho,Option.bind_eq_some_iff] at h
  obtain⟨l,hl,h⟩:=h
  simp only[cond_eq_ite] at h
  split at h
  ·simp only[Option.some.injEq] at h
   subst h
   have e:=zjg hr hl
   refine zbC (by simp[zbH,ho]) ?_
   have e2:(parts.map fun(i,x)=>(i,a.eval x))=(l.map fun x=>(x.1,x.2.toV)).toArray:=by rw[<-e,<-Array.toList_map]
   simp only[execOp,ho,MC.sem,e2]
  ·simp at h
 |lookup t m x ok =>
  simp only[zpE,ho,Option.bind_eq_some_iff,Option.map_eq_some_iff] at h
  obtain⟨u,hu,y,hy,rfl⟩:=h
  exact zbC (by simp[zbH,ho]) (by simp[execOp,ho,MC.sem,zaQ hr hu,zaQ hr hy])
 |mapUpdate t m x y =>
  simp only[zpE,ho,Option.bind_eq_some_iff,Option.map_eq_some_iff] at h
  obtain⟨u,hu,z,hz,c,hc,rfl⟩:=h
  intro w v w' hm
  simp only[MC.sem,Sem.run_bind] at hm
  have:zbH o=true:=by simp[zbH,ho]
  rw[this]
  simp only[if_true,execOp,ho,zaQ hr hu,zaQ hr hz,zaQ hr hc,Sem.run_bind]
  cases hq:(Instr.mapUpdate t u z c).run P w with
  |ok x w2 => rw[hq] at hm;simp at hm;simp[hm.2]
  |halt x w2 => rw[hq] at hm;simp at hm
 |insert t m x y =>
  simp only[zpE,ho,Option.bind_eq_some_iff,Option.map_eq_some_iff] at h
  obtain⟨u,hu,z,hz,c,hc,rfl⟩:=h
  intro w v w' hm
  simp only[MC.sem,Sem.run_bind] at hm
  have:zbH o=true:=by simp[zbH,ho]
  rw[this]
  simp only[if_true,execOp,ho,zaQ hr hu,zaQ hr hz,zaQ hr hc,Sem.run_bind]
  cases hq:(Instr.mapUpdate t u z c).run P w with
  |ok x w2 => rw[hq] at hm;simp at hm;simp[hm.2]
  |halt x w2 => rw[hq] at hm;simp at hm
 |makeMap t r =>
  cases r with
  |none =>
   simp only[zpE,ho,Option.some.injEq] at h
   subst h
   exact zbC (by simp[zbH,ho]) (by simp[execOp,ho,MC.sem])
  |some x => simp[zpE,ho] at h
 |range t x =>
  simp only[zpE,ho,Option.map_eq_some_iff] at h
  obtain⟨u,hu,rfl⟩:=h
  exact zbC (by simp[zbH,ho]) (by simp[execOp,ho,MC.sem,zaQ hr hu])
 |next x s =>
  simp only[zpE,ho,Option.map_eq_some_iff] at h
  obtain⟨u,hu,rfl⟩:=h
  exact zbC (by simp[zbH,ho]) (by simp[execOp,ho,MC.sem,zaQ hr hu])
 |entry x =>
  simp only[zpE,ho,Option.map_eq_some_iff] at h
  obtain⟨u,hu,rfl⟩:=h
  exact zbC (by simp[zbH,ho]) (by simp[execOp,ho,MC.sem,zaQ hr hu])
 |extract x i =>
  simp only[zpE,ho,Option.map_eq_some_iff] at h
  obtain⟨u,hu,rfl⟩:=h
  exact zbC (by simp[zbH,ho]) (by simp[execOp,ho,MC.sem,zaQ hr hu])
 |convert src dst x =>
  simp only[zpE,ho,Option.map_eq_some_iff] at h
  obtain⟨u,hu,rfl⟩:=h
  exact zbC (by simp[zbH,ho]) (by simp[execOp,ho,MC.sem,zaQ hr hu])
 |binOp op t x y ty =>
  simp only[zpE,ho,Option.bind_eq_some_iff,Option.map_eq_some_iff] at h
  obtain⟨u,hu,z,hz,rfl⟩:=h
  refine zbC (by simp[zbH,ho]) ?_
  simp only[execOp,ho,MC.sem,zaQ hr hu,zaQ hr hz]
  rw[zw0]
 |makeInterface t x =>
  simp only[zpE,ho,Option.map_eq_some_iff] at h
  obtain⟨u,hu,rfl⟩:=h
  exact zbC (by simp[zbH,ho]) (by simp[execOp,ho,MC.sem,zaQ hr hu])
 |typeAssert x t u ok =>
  simp only[zpE,ho,Option.map_eq_some_iff] at h
  obtain⟨z,hu,rfl⟩:=h
  exact zbC (by simp[zbH,ho]) (by simp[execOp,ho,MC.sem,zaQ hr hu])
 |index t x i =>
  simp only[zpE,ho,Option.bind_eq_some_iff,Option.map_eq_some_iff] at h
  obtain⟨u,hu,z,hz,rfl⟩:=h
  exact zbC (by simp[zbH,ho]) (by simp[execOp,ho,MC.sem,zaQ hr hu,zaQ hr hz])
 |slice t x lo hi mx =>
  simp only[zpE,ho,Option.bind_eq_some_iff,Option.map_eq_some_iff] at h
  obtain⟨u,hu,b,hb,c,hc,d,hd,rfl⟩:=h
  exact zbC (by simp[zbH,ho]) (by simp only[execOp,ho,MC.sem,zaQ hr hu,zpW hr hb,zpW hr hc,zpW hr hd])
 |_ => simp[zpE,ho] at h
theorem eff_op(hr:zbw a rd)(hs:∀x v,rd x=some v->zk5 ro st v)(h:zqH P cfg ro st rd o put) :
  (∃v,(∀w,zb7 ro st w->zbe P o a w v.toV)/\zk5 ro st v/\put v st)\/(zfA o=false/\∀w,zb7 ro st w->o.wp P a w (zBl (zxq P cfg o=.soft) ro st o a put) Qx):=by
 have hmc:zDk P ro st rd (zId cfg o.dst) o put->∀w,zb7 ro st w->o.wp P a w (zBl ((zl0 o&&!zbH o)=true) ro st o a put) Qx:=by
  intro h w hw
  unfold zDk at h
  split at h
  ·rename_i m hm
   simp only[cond_eq_ite] at h
   split at h
   ·rename_i hsoft
    refine Oper.wp_mono (fun _ _=>zdV (fun _=>trivial)) (zFV hw (fun v w' hv=>?_) h)
    have:=zDl hr hm w v w' hv
    have hk:zbH o=false:=by simp at hsoft;exact hsoft.2
    rw[hk] at this
    simpa using this
   ·rename_i hsoft
    refine Oper.wp_mono (fun _ _=>zdV (fun h=>hsoft h)) (zJz hw (fun v w' hv=>?_) h)
    have:=zDl hr hm w v w' hv
    cases hk:zbH o<;>rw[hk] at this<;>simpa using this
  ·exact h.elim
 cases ho:o.op with
 |box t x =>
  simp only[zqH,ho] at h
  split at h
  ·rename_i v hv
   exact .inr ⟨by simp[zfA,ho],fun w hw=>zCx hw (zKz ho (hr.one hv)) (fun _ h1=>zti h1) h⟩
  ·exact h.elim
 |alloc t =>
  simp only[zqH,ho] at h
  split at h
  ·rename_i v hv
   exact .inr ⟨by simp[zfA,ho],fun w hw=>zCx hw (zD3 ho hv) (fun _ h1=>zti h1) h⟩
  ·exact h.elim
 |load t x =>
  simp only[zqH,ho] at h
  split at h
  ·rename_i p hp
   exact .inl (zFU hr ho hp h)
  ·exact h.elim
 |store t x y =>
  simp only[zqH,ho] at h
  split at h
  ·rename_i sx v hx hy
   exact .inr ⟨by simp[zfA,ho],fun w hw=>Oper.wp_mono (fun _ _=>zdV (fun h=>by simp[zxq,ho,zl0] at h)) (zCy hr hs ho hx hy hw h)⟩
  ·exact h.elim
 |call c =>
  obtain⟨callee,args,ats⟩:=c
  cases callee with
  |value f =>
   simp only[zqH,ho] at h
   exact .inr ⟨by simp[zfA,ho],fun w hw=>Oper.wp_mono (fun _ _=>zdV (fun h=>zKJ (by simpa[zxq,ho] using h))) (zFT hr ho hw h)⟩
  |invoke f m =>
   simp only[zqH,ho] at h
   exact .inr ⟨by simp[zfA,ho],fun w hw=>Oper.wp_mono (fun _ _=>zdV (fun h=>by simp[zxq,ho,zl0] at h)) (zJy hr ho hw h)⟩
  |builtin b => exact .inr ⟨by simp[zfA,ho],fun w hw => Oper.wp_mono (fun _ _ => zdV (fun h => kd_mc h (by intro _ _ he;rw[ho] at he;cases he) (by intro _ he;rw[ho] at he;cases he) (by intro _ _ _ he;rw[ho] at he;cases he))) (hmc (by simpa only[zqH,ho] using h) w hw)⟩
 |_ => exact .inr ⟨by simp[zfA,ho],fun w hw => Oper.wp_mono (fun _ _ => zdV (fun h => kd_mc h (by intro _ _ he;rw[ho] at he;cases he) (by intro _ he;rw[ho] at he;cases he) (by intro _ _ _ he;rw[ho] at he;cases he))) (hmc (by simpa only[zqH,ho] using h) w hw)⟩
end
variable {P:Program} {ops:Array Oper}
def NoEx:Exit->Act->World->Prop:=fun _ _ _=>False
def zjQ(P:Program)(ops:Array Oper)(kd:Oper->Kd)(K:Act->World->Prop):DT->(World->Prop)->Act->Prop
 |.stop,C,a => ∀w,C w->K a w
 |.alt s t,C,a => zjQ P ops kd K s C a/\zjQ P ops kd K t C a
 |.op i l,C,a =>
  match ops[i]? with
  |none => zjQ P ops kd K l C a
  |some o =>
   if Region.wanted o (yielded ops a.tmps) then
    (∃v,(∀w,(kd o=.pure\/C w)->zbe P o a w v)/\zjQ P ops kd K l C (a.put o.dst v)) \/
    ((kd o).quiet=false/\∀w,C w->o.wp P a w (fun a' w'=>∃v,a'=a.put o.dst v/\∃C':World->Prop,C' w'/\(kd o=.soft->∀x,C' x->C x)/\zjQ P ops kd K l C' a') NoEx)
   else zjQ P ops kd K l C (a.put o.dst undef)
theorem putD(a:Act)(d:Option Tmp)(v:Value):(a.put d v).defers=a.defers:=by cases d<;>rfl
theorem zAR:¬LetsOut NoEx:=fun⟨_,_,h⟩=>h
theorem zEK{o:Oper}{a:Act}{w:World}{K:Act->World->Prop}{Qx:Exit->Act->World->Prop}(h:o.wp P a w K NoEx):o.wp P a w K Qx:=by
 unfold Oper.wp at *
 generalize (execOp a.eval o).run P w=r at *
 cases r with
 |ok n w' =>
  cases n<;>simp only[Oper.upon] at h ⊢ <;>
   first
    |exact h
    |exact Calls.mono h (fun e w'' he => by cases e<;>first|exact he|exact absurd he zAR|exact he.elim)
    |exact Rows.mono h (fun _ _ he => he)
 |halt x w' => cases x<;>simp only[Oper.upon] at h ⊢<;>exact h.elim
theorem zuA{o:Oper}{a:Act}{w:World}{v u:Value}{d:Option Tmp}(hs:∀cs b,o.op≠.select cs b)(hd:∀t,d=some t->t∉o.looksAt ops):zbe P o (a.put d u) w v↔zbe P o a w v:=by
 unfold zbe
 rw[execOp_put o hs a d u hd]
def zhy(P:Program)(ops:Array Oper)(kd:Oper->Kd)(C:World->Prop)(o:Oper)(v:Value)(a:Act):Prop :=
 (Region.wanted o (yielded ops a.tmps)=true/\∀w,(kd o=.pure\/C w)->zbe P o a w v)\/(Region.wanted o (yielded ops a.tmps)=false/\v=undef)
theorem zhy.can{kd:Oper->Kd}{K:Act->World->Prop}{C:World->Prop}{o:Oper}{v:Value}{a:Act}{i:Nat}{l:DT}(hi:ops[i]?=some o)(h:zhy P ops kd C o v a)(hc:zjQ P ops kd K l C (a.put o.dst v)):zjQ P ops kd K (.op i l) C a:=by
 simp only[zjQ,hi]
 rcases h with⟨hw,hg⟩|⟨hw,rfl⟩
 ·rw[if_pos hw];exact .inl ⟨v,hg,hc⟩
 ·rw[if_neg (by rw[hw];simp)];exact hc
theorem zhy.put{kd:Oper->Kd}{C C':World->Prop}{o:Oper}{v u:Value}{a:Act}{d:Option Tmp}(hs:∀cs b,o.op≠.select cs b)(hd:∀t,d=some t->t∉o.looksAt ops)(hC:kd o=.pure\/∀x,C' x->C x)(h:zhy P ops kd C o v a) :
  zhy P ops kd C' o v (a.put d u):=by
 rcases h with⟨hw,hg⟩|⟨hw,rfl⟩
 ·refine .inl ⟨by rw[wanted_put o a d u hd];exact hw,fun w hw'=>(zuA hs hd).2 (hg w ?_)⟩
  rcases hw' with h|h
  ·exact .inl h
  ·exact hC.imp id (fun f=>f w h)
 ·exact .inr ⟨by rw[wanted_put o a d u hd];exact hw,rfl⟩
theorem zjQ.quiet{kd:Oper->Kd}{K:Act->World->Prop}{C:World->Prop}{o:Oper}{a:Act}{i:Nat}{l:DT}(hi:ops[i]?=some o)(hq:(kd o).quiet=true)(h:zjQ P ops kd K (.op i l) C a):∃v,zhy P ops kd C o v a/\zjQ P ops kd K l C (a.put o.dst v):=by
 simp only[zjQ,hi] at h
 split at h
 ·rename_i hw
  rcases h with⟨v,hg,hc⟩|⟨hn,_⟩
  ·exact⟨v,.inl ⟨hw,hg⟩,hc⟩
  ·rw[hq] at hn;cases hn
 ·rename_i hw
  exact⟨undef,.inr ⟨by simpa using hw,rfl⟩,h⟩
theorem zFF{kd:Oper->Kd}{K:Act->World->Prop}{i j:Nat}{oi oj:Oper}{l:DT}{C:World->Prop}{a:Act}(hi:ops[i]?=some oi)(hj:ops[j]?=some oj)(hap:oi.apart ops oj=true)
  (hsi:∀cs b,oi.op≠.select cs b) (hsj:∀cs b,oj.op≠.select cs b) (hq:(kd oj).quiet=true) (hok:kd oj=.pure\/kd oi=.soft\/(kd oi).quiet=true)
  (h:zjQ P ops kd K (.op j (.op i l)) C a):zjQ P ops kd K (.op i (.op j l)) C a:=by
 obtain⟨h1,h2,h3⟩:=Oper.apart_spec hap
 have h2':∀d,oj.dst=some d->oi.dst≠some d:=fun d hd he=>h2 d he hd
 obtain⟨vj,qj,hc⟩:=h.quiet hj hq
 simp only[zjQ,hi] at hc ⊢
 rw[wanted_put oi a oj.dst vj h3] at hc
 split at hc
 ·rename_i hwi
  rw[if_pos hwi]
  rcases hc with⟨vi,hg,hc⟩|⟨hn,hc⟩
  ·refine .inl ⟨vi,fun w hw=>(zuA hsi h3).1 (hg w hw),?_⟩
   refine zhy.can hj (qj.put hsj h1 (.inr fun _ h=>h)) ?_
   rw[Act.put_comm a vi vj h2];exact hc
  ·refine .inr ⟨hn,fun w hw=>?_⟩
   have hcw:=hc w hw
   have hsub:∀C':World->Prop,(kd oi=.soft->∀x,C' x->C x)->kd oj=.pure\/∀x,C' x->C x:=by
    intro C' hs
    rcases hok with h|h|h
    ·exact .inl h
    ·exact .inr (hs h)
    ·rw[h] at hn;cases hn
   have key:∀u w',(∃v,(a.put oj.dst vj).put oi.dst u=(a.put oj.dst vj).put oi.dst v/\∃C':World->Prop,C' w'/\(kd oi=.soft->∀x,C' x->C x)/\zjQ P ops kd K l C' ((a.put oj.dst vj).put oi.dst u)) ->
     ∃v,a.put oi.dst u=a.put oi.dst v/\∃C':World->Prop,C' w'/\(kd oi=.soft->∀x,C' x->C x)/\zjQ P ops kd K (.op j l) C' (a.put oi.dst u):=by
    rintro u w' ⟨v,_,C',hC',hs,hcan⟩
    refine⟨u,rfl,C',hC',hs,zhy.can hj (qj.put hsj h1 (hsub C' hs)) ?_⟩
    rw[Act.put_comm a u vj h2];exact hcan
   unfold Oper.wp at *
   rw[execOp_put oi hsi a oj.dst vj h3] at hcw
   generalize (execOp a.eval oi).run P w=r at *
   cases r with
   |ok n w' =>
    cases n<;>simp only[Oper.upon] at hcw ⊢
    case value u=>exact key u w' hcw
    case skip=>exact key undef w' hcw
    case defer d =>
     obtain⟨v,he,_⟩:=hcw
     have:=congrArg (fun x:Act=>x.defers.length) he
     simp[putD] at this
    case enter f args =>
     refine Calls.mono hcw fun e w'' he=>?_
     cases e with
     |returned u => exact key u w'' he
     |panicked c => exact he.elim
     |outgrown => exact he
    case row row args=>exact Rows.mono hcw fun u w'' he=>key u w'' he
   |halt x w' => cases x<;>simp only[Oper.upon] at hcw ⊢<;>exact hcw.elim
 ·rename_i hwi
  rw[if_neg hwi]
  refine zhy.can hj (qj.put hsj h1 (.inr fun _ h=>h)) ?_
  rw[Act.put_comm a undef vj h2];exact hc
structure Lst(md:Region.Mode)(ops:Array Oper)(l:List Nat)(listed:Array Bool):Prop where
 size:listed.size=ops.size
 un:∀k,k<ops.size->(listed.getD k true=false↔k∈l)
 lt:∀k∈l,k<ops.size
 down:∀(k:Nat) o,ops[k]?=some o->k∉l->∀e∈o.after,Region.binds md e=true->e.on∉l
theorem zxf{listed:Array Bool}{k:Nat}(h:k<listed.size):listed.getD k true=listed.getD k false:=by
 simp[Array.getD,h]
def Down(md:Region.Mode)(ops:Array Oper)(l:List Nat):Prop:=∀(k:Nat) o,ops[k]?=some o->k∉l->∀e∈o.after,Region.binds md e=true->e.on∉l
def zFg(md:Region.Mode)(ops:Array Oper)(l:List Nat)(i:Nat):Prop:=∀o,ops[i]?=some o->∀e∈o.after,Region.binds md e=true->e.on∉l
theorem zCt{md:Region.Mode}{l:List Nat}(h:Down md ops l):∀(n i j:Nat),zFg md ops l i->dep md ops n i j=true->j∉l
 |0,i,j,_,hd => by cases hd
 |n+1,i,j,hi,hd => by
  unfold dep at hd
  split at hd
  ·rename_i o ho
   simp only[List.any_eq_true,Bool.and_eq_true,Bool.or_eq_true] at hd
   obtain⟨e,he,hb,hd⟩:=hd
   have hoff:=hi o ho e (by simpa using he) hb
   rcases hd with hd|hd
   ·have:=Nat.eq_of_beq_eq_true hd
    subst this
    exact hoff
   ·exact zCt h n e.on j (fun o' ho' e' he' hb'=>h e.on o' ho' hoff e' he' hb') hd
  ·cases hd
theorem zf9(i:Nat):∀l:List Nat,zfS i l=l.erase i
 |[] => rfl
 |j::r => by
  unfold zfS
  by_cases h:i=j
  ·subst h;simp[Nat.beq_refl]
  ·have h1:Nat.beq i j=false:=by
    cases hb:Nat.beq i j
    ·rfl
    ·exact absurd (Nat.eq_of_beq_eq_true hb) h
   rw[h1,zf9 i r]
   simp[List.erase_cons,Ne.symm h]
theorem zdj{l:List Nat}(hd:l.Nodup){i k:Nat}:k∈zfS i l↔k≠i/\k∈l:=by
 rw[zf9];exact hd.mem_erase_iff
theorem zkF{l:List Nat}(hd:l.Nodup)(i:Nat):(zfS i l).Nodup:=by
 rw[zf9];exact hd.erase i
theorem zAB{l:List Nat}(i j:Nat):zfS i (zfS j l)=zfS j (zfS i l):=by
 rw[zf9,zf9,zf9,zf9];exact List.erase_comm ..
theorem zlR{md:Region.Mode}{l:List Nat}{j:Nat}(h:zKq md ops l j=true):∃o,ops[j]?=some o/\j∈l/\zFg md ops l j:=by
 unfold zKq at h
 split at h
 ·rename_i o ho
  simp only[Bool.and_eq_true,Bool.not_eq_true'] at h
  refine⟨o,ho,(zcI _ _).1 h.1,fun o' ho' e he hb hm=>?_⟩
  rw[ho] at ho'
  obtain rfl:=Option.some.inj ho'
  have:=h.2
  unfold zwR at this
  rw[List.any_eq_false] at this
  refine this e (by simpa using he) ?_
  simp only[Bool.and_eq_true]
  exact⟨hb,(zcI _ _).2 hm⟩
 ·cases h
theorem zuk{md:Region.Mode}{l:List Nat}(hd:l.Nodup)(h:Down md ops l){j:Nat}(hj:zFg md ops l j):Down md ops (zfS j l):=by
 intro k o ho hk e he hb hm
 rw[zdj hd] at hk hm
 by_cases hkj:k=j
 ·subst hkj;exact hj o ho e he hb hm.2
 ·exact h k o ho (fun hkl=>hk ⟨hkj,hkl⟩) e he hb hm.2
theorem zDD{md:Region.Mode}{l:List Nat}(hd:l.Nodup){i j:Nat}(h:zFg md ops l i):zFg md ops (zfS j l) i:=fun o ho e he hb hm=>h o ho e he hb ((zdj hd).1 hm).2
theorem all_sub{p:Nat->Bool}{l l':List Nat}(h:l.all p=true)(hs:∀x∈l',x∈l):l'.all p=true:=by
 simp only[List.all_eq_true] at h ⊢
 exact fun x hx=>h x (hs x hx)
theorem zB9{md:Region.Mode}{l l':List Nat}{o:Oper}(h:zwR md l o=false)(hs:∀x∈l',x∈l):zwR md l' o=false:=by
 unfold zwR at h ⊢
 rw[List.any_eq_false] at h ⊢
 intro e he hb
 simp only[Bool.and_eq_true] at hb
 exact h e he (by simp only[Bool.and_eq_true];exact⟨hb.1,(zcI _ _).2 (hs _ ((zcI _ _).1 hb.2))⟩)
theorem zmK{md:Region.Mode}{kd:Oper->Kd}{n i:Nat}{K:Act->World->Prop}:∀(S:DT)(rem:List Nat),i∈S.heads->okD md ops kd n true S rem=true->∃T',okD md ops kd n false T' (zfS i rem)=true/\∀C a,zjQ P ops kd K S C a->zjQ P ops kd K (.op i T') C a
 |.stop,rem,h,_ => by cases h
 |.op j t,rem,h,hok => by
  simp only[DT.heads,List.mem_singleton] at h
  subst h
  simp only[okD,Bool.and_eq_true] at hok
  exact⟨t,hok.2,fun C a h=>h⟩
 |.alt s t,rem,h,hok => by
  simp only[DT.heads,List.mem_append] at h
  simp only[okD,Bool.and_eq_true] at hok
  rcases h with h|h
  ·obtain⟨T',h1,h2⟩:=zmK s rem h hok.1.1
   exact⟨T',h1,fun C a h=>h2 C a h.1⟩
  ·obtain⟨T',h1,h2⟩:=zmK t rem h hok.1.2
   exact⟨T',h1,fun C a h=>h2 C a h.2⟩
theorem zyU{md:Region.Mode}{kd:Oper->Kd}{n i:Nat}{oi:Oper}{K:Act->World->Prop}(hi:ops[i]?=some oi)(hsel:∀(j:Nat) (o:Oper) cs b,ops[j]?=some o->o.op≠.select cs b) :
  ∀(T:DT)(rem:List Nat),rem.Nodup->Down md ops rem->i∈rem->zFg md ops rem i->okD md ops kd n false T rem=true->∃T',okD md ops kd n false T' (zfS i rem)=true/\∀C a,zjQ P ops kd K T C a->zjQ P ops kd K (.op i T') C a
 |.stop,rem,_,_,him,_,hok => by
  simp only[okD,Bool.not_false,Bool.true_and,List.isEmpty_iff] at hok
  subst hok;cases him
 |.alt s t,rem,hd,hD,him,hop,hok => by
  have hok0:=hok
  simp only[okD,Bool.and_eq_true,Bool.false_or,List.all_eq_true,Bool.or_eq_true] at hok
  have hh:i∈s.heads++t.heads:=by
   rcases hok.2 i him with h|h
   ·exact(zcI _ _).1 h
   ·unfold bnd at h
    rw[hi] at h
    simp only at h
    unfold zwR at h
    simp only[List.any_eq_true,Bool.and_eq_true] at h
    obtain⟨e,he,hb,hm⟩:=h
    exact absurd ((zcI _ _).1 hm) (hop oi hi e (by simpa using he) hb)
  refine zmK (.alt s t) rem hh ?_
  simp only[okD,Bool.and_eq_true,Bool.true_or]
  exact⟨hok.1,trivial⟩
 |.op j t,rem,hd,hD,him,hop,hok => by
  simp only[okD,Bool.and_eq_true,Bool.false_or,List.all_eq_true] at hok
  obtain⟨⟨h1,h2⟩,h3⟩:=hok
  obtain⟨oj,hj,hjm,hjo⟩:=zlR h1
  by_cases hij:i=j
  ·subst hij;exact⟨t,h3,fun C a h=>h⟩
  ·have him':i∈zfS j rem:=(zdj hd).2 ⟨hij,him⟩
   obtain⟨T',g1,g2⟩:=zyU (K:=K) hi hsel t (zfS j rem) (zkF hd j) (zuk hd hD hjo) him' (zDD hd hop) h3
   have hp:=h2 i him'
   unfold zDH at hp
   rw[hj,hi] at hp
   simp only[Bool.and_eq_true,Bool.or_eq_true,decide_eq_true_eq] at hp
   have hnd:¬dep md ops n i j=true:=fun h=>zCt hD n i j hop h hjm
   have hp2:oi.apart ops oj=true/\(kd oj).quiet=true/\(kd oj=.pure\/kd oi=.soft\/(kd oi).quiet=true):=by
    rcases hp.2 with h|h
    ·exact⟨h.1.1,h.1.2,by rcases h.2 with (h|h)|h<;>simp[h]⟩
    ·exact absurd h hnd
   refine⟨.op j T',?_,fun C a h=>?_⟩
   ·simp only[okD,Bool.and_eq_true,Bool.false_or]
    refine⟨⟨?_,?_⟩,?_⟩
    ·unfold zKq
     rw[hj]
     simp only[Bool.and_eq_true,Bool.not_eq_true']
     refine⟨(zcI _ _).2 ((zdj hd).2 ⟨Ne.symm hij,hjm⟩),?_⟩
     unfold zKq at h1
     rw[hj] at h1
     simp only[Bool.and_eq_true,Bool.not_eq_true'] at h1
     exact zB9 h1.2 fun x hx=>((zdj hd).1 hx).2
    ·simp only[List.all_eq_true]
     intro x hx
     rw[zdj (zkF hd i),zdj hd] at hx
     exact h2 x ((zdj hd).2 ⟨hx.1,hx.2.2⟩)
    ·rw[zAB];exact g1
   ·obtain⟨vj,qj,hc⟩:=zjQ.quiet hj hp2.2.1 h
    exact zFF hi hj hp2.1 (fun cs b=>hsel i oi cs b hi) (fun cs b=>hsel j oj cs b hj) hp2.2.1 hp2.2.2 (qj.can hj (g2 _ _ hc))
theorem zAT{md:Region.Mode}{l:List Nat}{listed:Array Bool}(hL:Lst md ops l listed){j:Nat}{o:Oper}(ho:ops[j]?=some o)(hin:∀e∈o.after,e.on<ops.size)(hm:j∈l)(hop:zFg md ops l j):j∈Region.ready md ops listed:=by
 refine mem_ready.2 ⟨(hL.un j (Array.getElem?_eq_some_iff.1 ho).1).2 hm,o,ho,fun e he hb=>?_⟩
 have hlt:=hin e he
 have hnot:=hop o ho e he hb
 rw[<-zxf (by rw[hL.size];exact hlt)]
 cases hg:listed.getD e.on true
 ·exact absurd ((hL.un _ hlt).1 hg) hnot
 ·rfl
theorem zKg{md:Region.Mode}{l:List Nat}{i:Nat}{listed:Array Bool}(hd:l.Nodup)(h:Lst md ops l listed)(hi:i∈l)(hop:zFg md ops l i):Lst md ops (zfS i l) (listed.setIfInBounds i true):=by
 have hil:=h.lt i hi
 refine⟨by simp[h.size],fun k hk=>?_,fun k hk=>h.lt k ((zdj hd).1 hk).2,zuk hd h.down hop⟩
 rw[zdj hd]
 by_cases hki:k=i
 ·subst hki
  constructor
  ·intro hf
   rw[zxf (by simpa[h.size] using hil)] at hf
   rw[show(listed.setIfInBounds k true).getD k false=true by simp[Array.getD,h.size,hil]] at hf
   cases hf
  ·intro hm;exact absurd rfl hm.1
 ·rw[getD_set_ne true (Ne.symm hki),h.un k hk]
  simp[hki]
theorem zo6{md:Region.Mode}{kd:Oper->Kd}{n:Nat}{Qx:Exit->Act->World->Prop}(hsel:∀(j:Nat) (o:Oper) cs b,ops[j]?=some o->o.op≠.select cs b)(hin:∀(j:Nat)(o:Oper),ops[j]?=some o->∀e∈o.after,e.on<ops.size) :
  ∀(fuel:Nat)(T:DT)(l:List Nat)(listed:Array Bool)(C:World->Prop)(a:Act)(w:World),l.length=fuel->l.Nodup->okD md ops kd n false T l=true->Lst md ops l listed->zjQ P ops kd (Qx .normal) T C a->C w->wpAny P md ops Qx fuel listed a w
 |0,T,l,listed,C,a,w,hl,hnd,hok,hL,hc,hw => by
  obtain rfl:=List.length_eq_zero_iff.1 hl
  have hready:Region.ready md ops listed=[]:=by
   rw[List.eq_nil_iff_forall_not_mem]
   intro j hj
   obtain⟨h1,o,ho,_⟩:=mem_ready.1 hj
   have:=(hL.un j (Array.getElem?_eq_some_iff.1 ho).1).1 h1
   cases this
  refine⟨hready,?_⟩
  cases T with
  |stop => exact hc w hw
  |op j t =>
   simp only[okD,Bool.and_eq_true] at hok
   obtain⟨_,_,hm,_⟩:=zlR hok.1.1
   cases hm
  |alt s t =>
   exfalso
   simp only[okD,Bool.and_eq_true] at hok
   have key:∀S:DT,okD md ops kd n true S []=true->False:=by
    intro S
    induction S with
    |stop => intro h;simp[okD] at h
    |op j t _ =>
     intro h
     simp only[okD,Bool.and_eq_true] at h
     obtain⟨_,_,hm,_⟩:=zlR h.1.1
     cases hm
    |alt s t ihs _ =>
     intro h
     simp only[okD,Bool.and_eq_true] at h
     exact ihs h.1.1
   exact key s hok.1.1
 |fuel+1,T,l,listed,C,a,w,hl,hnd,hok,hL,hc,hw => by
  constructor
  ·intro hr
   exfalso
   have some_:∃j,j∈Region.ready md ops listed:=by
    have key:∀(S:DT)(f:Bool),okD md ops kd n f S l=true->∃j,j∈Region.ready md ops listed:=by
     intro S
     induction S with
     |stop =>
      intro f h
      simp only[okD,Bool.and_eq_true,List.isEmpty_iff] at h
      rw[h.2] at hl;simp at hl
     |op j t _ =>
      intro f h
      simp only[okD,Bool.and_eq_true] at h
      obtain⟨o,ho,hm,hop⟩:=zlR h.1.1
      exact⟨j,zAT hL ho (hin j o ho) hm hop⟩
     |alt s t ihs _ =>
      intro f h
      simp only[okD,Bool.and_eq_true] at h
      exact ihs true h.1.1
    exact key T false hok
   obtain⟨j,hj⟩:=some_
   rw[hr] at hj
   cases hj
  ·intro i hi
   obtain⟨h1,o,ho,hafter⟩:=mem_ready.1 hi
   have him:=(hL.un i (Array.getElem?_eq_some_iff.1 ho).1).1 h1
   have hop:zFg md ops l i:=by
    intro o' ho' e he hb hm
    rw[ho] at ho'
    obtain rfl:=Option.some.inj ho'
    have h2:=hafter e he hb
    have hlt:=hL.lt _ hm
    have:=(hL.un _ hlt).2 hm
    rw[zxf (by rw[hL.size];exact hlt),h2] at this
    cases this
   obtain⟨T',g1,g2⟩:=zyU (P:=P) (K:=Qx .normal) ho hsel T l hnd hL.down him hop hok
   have hpull:=g2 C a hc
   have hL':=zKg hnd hL him hop
   have hlen:(zfS i l).length=fuel:=by rw[zf9,List.length_erase_of_mem him];omega
   have hnd':=zkF hnd i
   unfold wpOp
   simp only[ho]
   simp only[zjQ,ho] at hpull
   split at hpull
   ·rename_i hwant
    rw[if_pos hwant]
    refine .inl ?_
    rcases hpull with⟨v,hg,hcan⟩|⟨_,hcan⟩
    ·have hgv:=hg w (.inr hw)
     unfold zbe at hgv
     unfold Oper.wp
     rw[hgv]
     exact zo6 hsel hin fuel _ _ _ C _ w hlen hnd' g1 hL' hcan hw
    ·refine Oper.wp_mono (fun a' w' hk=>?_) (zEK (hcan w hw))
     obtain⟨v,_,C',hC',_,hcan'⟩:=hk
     exact zo6 hsel hin fuel _ _ _ C' _ w' hlen hnd' g1 hL' hcan' hC'
   ·rename_i hwant
    rw[if_neg hwant]
    exact zo6 hsel hin fuel _ _ _ C _ w hlen hnd' g1 hL' hpull hw
variable {P:Program} {Q:Value->World->Prop}
section
variable {cfg:Cfg} {ops:Array Oper} {ro:Ro (sem P Q)} {st:St (sem P Q)} {a:Act}
theorem zGT(d:Option Tmp)(v:Value):(a.put d v).tmps.size=a.tmps.size:=by
 cases d<;>simp[Act.put]
theorem zA1(d:Option Tmp)(v:Value):(a.put d v).defers=a.defers:=by
 cases d<;>rfl
theorem zoH(d:Tmp)(v:Value)(i:Nat)(hd:d<a.tmps.size):(a.put (some d) v).tmps.getD i undef=if i=d then v else a.tmps.getD i undef:=by
 simp only[Act.put,Array.getD_eq_getD_getElem?,Array.getElem?_setIfInBounds]
 by_cases h:d=i
 ·subst h;simp[hd]
 ·simp[h,Ne.symm h]
theorem zCQ(st:St (sem P Q))(d:Tmp)(e:Option (Ent (sem P Q)))(i:Nat):ro.get (st.put (some d) e) i=if d=i then e else ro.get st i:=by
 unfold Ro.get St.put
 simp only[zg1]
 by_cases h:d=i
 ·simp[h]
 ·simp only[h,if_false]
theorem zzU{d:Tmp}{v:Value}{k:Nat×Bool}(hd:d<a.tmps.size)(hne:ziB ops k.1≠some d):ziI ops (a.put (some d) v) k↔ziI ops a k:=by
 unfold ziI
 rw[zes,zes]
 constructor
 ·rintro⟨e,h1,h2⟩
  refine⟨e,h1,?_⟩
  rw[zoH d v e hd,if_neg (by rintro rfl;exact hne h1)] at h2
  exact h2
 ·rintro⟨e,h1,h2⟩
  refine⟨e,h1,?_⟩
  rw[zoH d v e hd,if_neg (by rintro rfl;exact hne h1)]
  exact h2
theorem zAG{d:Tmp}(h:zw9 ops st (some d)=true){i:Nat}{v:SL (sem P Q)}{k:Nat×Bool}(hg:ro.get st i=some (v,some k)):ziB ops k.1≠some d:=by
 unfold Ro.get at hg
 split at hg
 ·rename_i e he
  subst hg
  have hm:=zem he
  unfold zw9 at h
  simp only[List.all_eq_true] at h
  have:=h _ hm
  obtain⟨j,wnt⟩:=k
  simp only at this
  intro hd
  simp only[hd] at this
  simp at this
 ·cases hl:zdD ro.sl i<;>rw[hl] at hg<;>simp at hg
theorem zjM{st':St (sem P Q)}{dst:Option Tmp}{v:SL (sem P Q)}{key:Option (Nat×Bool)}{u:Value}(hf:ztV cfg ops ro st a)(hov:st'.ov=st.ov)(hd:zAY cfg ops st dst=true)
  (hk:∀d,dst=some d->∀k,key=some k->ziB ops k.1≠some d)
  (hv:match key with|none=>u=v.toV|some k=>(ziI ops a k->u=v.toV)/\(¬ziI ops a k->u=undef)):ztV cfg ops ro (st'.put dst (some (v,key))) (a.put dst u):=by
 have hget:∀i,ro.get st' i=ro.get st i:=fun i=>by unfold Ro.get;rw[hov]
 simp only[zAY,Bool.and_eq_true] at hd
 refine⟨by rw[zGT];exact hf.size,by rw[zA1];exact hf.defers,fun i e he=>?_⟩
 cases dst with
 |none =>
  have he:ro.get st i=some e:=by rw[<-hget];exact he
  exact hf.fr i e he
 |some d =>
  have hdl:d<a.tmps.size:=by rw[hf.size];have:=hd.2;simpa[Nat.blt_eq] using this
  rw[zCQ] at he
  split at he
  ·rename_i hdi
   subst hdi
   obtain rfl:=Option.some.inj he
   have hval:(a.put (some d) u).tmps.getD d undef=u:=by rw[zoH d u d hdl,if_pos rfl]
   cases key with
   |none => show _=_;rw[hval];exact hv
   |some k =>
    have hs:=zzU (v:=u) hdl (hk d rfl k rfl)
    exact⟨fun h=>hval.trans (hv.1 (hs.1 h)),fun h=>hval.trans (hv.2 fun h'=>h (hs.2 h'))⟩
  ·rename_i hdi
   rw[hget] at he
   have hold:=hf.fr i e he
   obtain⟨v',key'⟩:=e
   have hval:(a.put (some d) u).tmps.getD i undef=a.tmps.getD i undef:=by rw[zoH d u i hdl,if_neg (Ne.symm hdi)]
   cases key' with
   |none => show _=_;rw[hval];exact hold
   |some k =>
    have hs:=zzU (v:=u) hdl (zAG hd.1 he)
    exact⟨fun h=>hval.trans (hold.1 (hs.1 h)),fun h=>hval.trans (hold.2 fun h'=>h (hs.2 h'))⟩
theorem zhb{st':St (sem P Q)}{dst:Option Tmp}{v:SL (sem P Q)}{key:Option (Nat×Bool)}(hs:zei ro st)(hsame:Same ro st st')(hv:zk5 ro st' v):zei ro (st'.put dst (some (v,key))):=by
 have hget:∀i,ro.get st' i=ro.get st i:=fun i=>by unfold Ro.get;rw[hsame.ov]
 have hblk:∀u,zk5 ro st' u->zk5 ro (st'.put dst (some (v,key))) u:=by
  intro u hu
  cases dst with
  |none => exact hu
  |some d => cases u with
   |one x => cases x with
    |agg l => exact hu
    |sc y => cases y<;>first|exact hu|trivial
   |tup l => exact hu
   |undef => trivial
 intro i e he
 cases dst with
 |none =>
  have he:ro.get st i=some e:=by rw[<-hget];exact he
  exact hsame.slOk _ (hs i e he)
 |some d =>
  rw[zCQ] at he
  split at he
  ·obtain rfl:=Option.some.inj he
   exact hblk _ hv
  ·rw[hget] at he
   exact hblk _ (hsame.slOk _ (hs i e he))
theorem zdZ{w:World}{st':St (sem P Q)}{dst:Option Tmp}{e:Option (Ent (sem P Q))}(hw:zb7 ro st' w):zb7 ro (st'.put dst e) w:=by
 cases dst with
 |none => exact hw
 |some d => exact⟨hw.but,hw.bk,hw.lt,hw.ord,hw.ax,hw.nol,hw.same⟩
theorem zjh{w:World}{st':St (sem P Q)}{dst:Option Tmp}{e:Option (Ent (sem P Q))}(hw:zb7 ro (st'.put dst e) w):zb7 ro st' w:=by
 cases dst with
 |none => exact hw
 |some d => exact⟨hw.but,hw.bk,hw.lt,hw.ord,hw.ax,hw.nol,hw.same⟩
structure zt2(cfg:Cfg)(ro:Ro (sem P Q))(st:St (sem P Q))(a:Act):Prop where
 size:a.tmps.size=cfg.N
 defers:a.defers=[]
 fr:∀i e,ro.get st i=some e->e.2=none/\a.tmps.getD i undef=e.1.toV
theorem zt2.relF(h:zt2 cfg ro st a):ztV cfg ops ro st a:=⟨h.size,h.defers,fun i e he=>by
 obtain⟨v,key⟩:=e
 obtain⟨h1,h2⟩:=h.fr i _ he
 simp only at h1
 subst h1
 exact h2⟩
theorem zsT:∀(l:List (Nat×Option (Ent (sem P Q)))) (i:Nat),zdD (l.map zza) i =
  (zdD l i).map fun e=>match e with|some (_,some _)=>none|e=>e
 |[],i => rfl
 |(k,e)::r,i => by
  have ih:=zsT r i
  simp only[List.map_cons]
  cases hk:Nat.beq k i
  ·have h1:zdD ((k,e)::r) i=zdD r i:=by simp[zdD,hk]
   rw[h1,<-ih]
   unfold zza
   split<;>simp[zdD,hk]
  ·have h1:zdD ((k,e)::r) i=some e:=by simp[zdD,hk]
   rw[h1]
   unfold zza
   split<;>simp_all[zdD]
theorem zGZ(hf:ztV cfg ops ro st a):zt2 cfg ro (zwY st) a:=by
 refine⟨hf.size,hf.defers,fun i e he=>?_⟩
 have hl:=zsT st.ov i
 unfold Ro.get zwY at he
 simp only at he
 rw[hl] at he
 cases hlo:zdD st.ov i with
 |none =>
  rw[hlo] at he
  simp only[Option.map_none] at he
  have hg:ro.get st i=some e:=by unfold Ro.get;rw[hlo];exact he
  cases hs:zdD ro.sl i with
  |none => rw[hs] at he;simp at he
  |some v =>
   rw[hs] at he
   simp only[Option.map_some,Option.some.injEq] at he
   subst he
   exact⟨rfl,hf.fr i _ hg⟩
 |some oe =>
  rw[hlo] at he
  simp only[Option.map_some] at he
  cases oe with
  |none => simp at he
  |some e' =>
   obtain⟨v,key⟩:=e'
   have hg:ro.get st i=some (v,key):=by unfold Ro.get;rw[hlo]
   cases key with
   |none =>
    simp only[Option.some.injEq] at he
    subst he
    exact⟨rfl,hf.fr i _ hg⟩
   |some k => simp at he
theorem zEe(hs:zei ro st):zei ro (zwY st):=by
 intro i e he
 have:∃e',ro.get st i=some e'/\e'.1=e.1:=by
  have hl:=zsT st.ov i
  unfold Ro.get zwY at he
  simp only at he
  rw[hl] at he
  cases hlo:zdD st.ov i with
  |none =>
   rw[hlo] at he
   exact⟨e,by unfold Ro.get;rw[hlo];exact he,rfl⟩
  |some oe =>
   rw[hlo] at he
   simp only[Option.map_some] at he
   cases oe with
   |none => simp at he
   |some e' =>
    obtain⟨v,key⟩:=e'
    cases key with
    |none =>
     simp only[Option.some.injEq] at he
     exact⟨(v,none),by unfold Ro.get;rw[hlo],by rw[<-he]⟩
    |some k => simp at he
 obtain⟨e',he',h1⟩:=this
 rw[<-h1]
 have:=hs i e' he'
 revert this
 generalize e'.1=u
 intro hu
 cases u with
 |one x => cases x with
  |agg l => exact hu
  |sc y => cases y<;>first|exact hu|trivial
 |tup l => exact hu
 |undef => trivial
theorem zG0{w:World}:zb7 ro (zwY st) w↔zb7 ro st w :=
 ⟨fun hw=>⟨hw.but,hw.bk,hw.lt,hw.ord,hw.ax,hw.nol,hw.same⟩,fun hw=>⟨hw.but,hw.bk,hw.lt,hw.ord,hw.ax,hw.nol,hw.same⟩⟩
def zAq(P:Program)(cfg:Cfg)(ops:Array Oper)(ro:Ro (sem P Q))(st:St (sem P Q))(o:Oper):Option (Nat×Bool)->Option (List Prop×SL (sem P Q))
 |none => zGI P cfg ops ro st o
 |some g => zHp P cfg ops ro st o g
theorem zsj{o:Oper}{obs:List Prop}{v:SL (sem P Q)}{cur:Option (Nat×Bool)}(hs:zei ro st)(hnl:∀j b,ro.blk st j=some b->b.cells.all zcd=true)
  (h:zAq P cfg ops ro st o cur=some (obs,v)):zk5 ro st v:=by
 have hpure:zbT P cfg ro st (zoI ro st (zjR ops ro st cur)) o=some (obs,v)->zk5 ro st v:=fun h =>
  (zr3 (a:=⟨#[],[]⟩) (w:=default) (zkQ hs) hnl h).2
 have hpick:∀c x y,zK8 (znX ops ro st cur c x y)=some (obs,v)->zk5 ro st v:=by
  intro c x y h
  unfold zK8 at h
  split at h
  ·rename_i u hu
   simp only[Option.some.injEq,Prod.mk.injEq] at h
   obtain⟨_,rfl⟩:=h
   exact zDL hs hu
  ·simp at h
 cases cur with
 |none =>
  simp only[zAq,zGI] at h
  split at h
  ·exact hpick _ _ _ h
  ·exact hpure h
 |some g =>
  simp only[zAq,zHp] at h
  split at h
  ·exact hpick _ _ _ h
  ·exact hpure h
theorem zIh{o:Oper}{w:World}{obs:List Prop}{v:SL (sem P Q)}{cur:Option (Nat×Bool)}(hf:ztV cfg ops ro st a)(hs:zei ro st)(hnol:∀j b,ro.blk st j=some b->b.cells.all zcd=true)(hw:zfA o=false\/zb7 ro st w)(hcur:∀c,cur=some c->ziI ops a c)
  (h:zAq P cfg ops ro st o cur=some (obs,v)) (hobs:All obs):zbe P o a w v.toV:=by
 have hpure:zbT P cfg ro st (zoI ro st (zjR ops ro st cur)) o=some (obs,v)->zbe P o a w v.toV:=fun h =>
  (zr3 (zkQ hs) hnol h).1 (zGV hf hcur) (hw.imp id (·.bk)) hobs
 have hpick:∀c x y,o.op=.pick c x y->zK8 (znX ops ro st cur c x y)=some (obs,v)->zbe P o a w v.toV:=by
  intro c x y ho h
  unfold zK8 at h
  split at h
  ·rename_i u hu
   simp only[Option.some.injEq,Prod.mk.injEq] at h
   obtain⟨rfl,rfl⟩:=h
   exact(zHb hf hs hcur ho hu).1
  ·simp at h
 cases cur with
 |none =>
  simp only[zAq,zGI] at h
  split at h
  ·rename_i c x y ho
   exact hpick c x y ho h
  ·exact hpure h
 |some g =>
  simp only[zAq,zHp] at h
  split at h
  ·rename_i c x y ho
   exact hpick c x y ho h
  ·exact hpure h
theorem zjP{o:Oper}:Region.wanted o (yielded ops a.tmps)=true↔(∀g,o.guard=some g->ziI ops a g):=by
 unfold Region.wanted ziI
 cases hg:o.guard with
 |none => simp
 |some g =>
  obtain⟨j,want⟩:=g
  simp
theorem zuI(hf:ztV cfg ops ro st a):∀(n:Nat)(g:Nat×Bool)(k:Prop),zuH (A:=sem P Q) ops ro st n g k->ziI ops a g->k
 |0,g,k,h,_ => h
 |n+1,(j,want),k,h,hg => by
  unfold zuH at h
  have hg':=hg
  unfold ziI at hg'
  rw[zes] at hg'
  obtain⟨d,hd,hv⟩:=hg'
  rw[hd] at h
  simp only at h
  split at h
  ·rename_i b key hget
   have he:=hf.fr d _ hget
   have hkey:∀k',key=some k'->ziI ops a k':=by
    intro k' hk'
    subst hk'
    apply Classical.byContradiction
    intro hn
    rw[zCA he hn] at hv
    simp[undef] at hv
   have hb:a.tmps.getD d undef=.bool b.den:=zwZ he hkey
   have hbw:b.den=want:=by
    rw[hb] at hv
    injection hv
   have hin:impB (A:=sem P Q) b want k->k:=by
    intro h
    unfold impB at h
    split at h
    ·exact h
    ·refine h ?_
     cases want
     ·simp only[cond_false];rw[zey,zdr,hbw];rfl
     ·simp only[cond_true];rw[zey,hbw]
   split at h
   ·exact hin h
   ·rename_i k'
    exact hin (zuI hf n k' _ h (hkey k' rfl))
  ·exact h
theorem zB0(hf:ztV cfg ops ro st a){n:Nat}{g:Nat×Bool}(hg:ziI ops a g):∀{l:List Prop},All (l.map (zuH (A:=sem P Q) ops ro st n g))->All l
 |[],_ => trivial
 |o::r,h => ⟨zuI hf n g o h.1 hg,zB0 hf hg h.2⟩
theorem zzL{d:Nat}{b:BE (sem P Q)}{c:Bool}(hf:ztV cfg ops ro st a)(hv:a.tmps.getD d undef=.bool b.den)(hb:b.den=c) :
  ztV cfg ops ro { st with ov:=zto st.ov d (some (.one (.sc (.bool (.lit c))),none)) } a:=by
 refine⟨hf.size,hf.defers,fun i e he=>?_⟩
 unfold Ro.get at he
 simp only[zg1] at he
 by_cases h:d=i
 ·subst h
  simp only[if_true,Option.some.injEq] at he
  subst he
  show a.tmps.getD d undef=.bool c
  rw[hv,hb]
 ·simp only[h,if_false] at he
  exact hf.fr i e he
theorem zvW{d:Nat}{c:Bool}(hs:zei ro st):zei ro { st with ov:=zto st.ov d (some (.one (.sc (.bool (.lit c))),none)) }:=by
 intro i e he
 unfold Ro.get at he
 simp only[zg1] at he
 by_cases h:d=i
 ·subst h
  simp only[if_true,Option.some.injEq] at he
  subst he
  trivial
 ·simp only[h,if_false] at he
  have:=hs i e he
  revert this
  generalize e.1=u
  intro hu
  cases u with
  |one x => cases x with
   |agg l => exact hu
   |sc y => cases y<;>first|exact hu|trivial
  |tup l => exact hu
  |undef => trivial
theorem ztq{w:World}{ov:List (Nat×Option (Ent (sem P Q)))}:zb7 ro { st with ov } w↔zb7 ro st w :=
 ⟨fun hw=>⟨hw.but,hw.bk,hw.lt,hw.ord,hw.ax,hw.nol,hw.same⟩,fun hw=>⟨hw.but,hw.bk,hw.lt,hw.ord,hw.ax,hw.nol,hw.same⟩⟩
def kdD(P:Program)(cfg:Cfg)(dr:Bool)(o:Oper):Kd:=bif dr then zxq P cfg o else .hard
theorem zJ7{P:Program}{cfg:Cfg}{o:Oper}(h:zxq P cfg o=.pure):zfA o=false:=by
 unfold zxq at h
 unfold zfA
 split at h<;>simp_all
theorem zsO{P:Program}{cfg:Cfg}{dr:Bool}{o:Oper}(h:kdD P cfg dr o=.pure):zfA o=false:=by
 unfold kdD at h
 cases dr with
 |true => exact zJ7 h
 |false => cases h
theorem zKM{dr:Bool}{K:Act->World->Prop}{o:Oper}{i:Nat}{l:DT}{k:St (sem P Q)->Prop}(hi:ops[i]?=some o)(hwant:Region.wanted o (yielded ops a.tmps)=true)
  (hf:ztV cfg ops ro st a) (hs:zei ro st) (hex:∃w,zb7 ro st w) (h:zEk P cfg dr ops ro st o k)
  (ih:∀st' a',k st'->ztV cfg ops ro st' a'->zei ro st'->(∃w,zb7 ro st' w)->zjQ P ops (kdD P cfg dr) K l (zb7 ro st') a'):zjQ P ops (kdD P cfg dr) K (.op i l) (zb7 ro st) a:=by
 simp only[zjQ,hi,hwant,if_true]
 unfold zEk at h
 simp only[cond_eq_ite] at h
 split at h
 ·exact h.elim
 ·rename_i hd
  have hd:zAY cfg ops st o.dst=true:=by simpa using hd
  have hc0:∀c,(none:Option (Nat×Bool))=some c->ziI ops a c:=fun c hc=>by cases hc
  split at h
  ·rename_i obs v hn
   rw[zgV] at h
   obtain⟨w0,hw0⟩:=hex
   refine .inl ⟨v.toV,fun w hw=>zIh (cur:=none) hf hs hw0.nol (hw.imp zsO id) hc0 hn h.1,?_⟩
   have hC:zb7 ro (st.put o.dst (some (v,none)))=zb7 ro st:=funext fun w=>propext ⟨zjh,zdZ⟩
   have hsl:=zsj (cur:=none) hs hw0.nol hn
   have:=ih _ (a.put o.dst v.toV) h.2 (zjM hf rfl hd (fun _ _ _ hk=>by cases hk) rfl) (zhb hs zfI hsl) ⟨w0,zdZ hw0⟩
   rw[hC] at this;exact this
  ·rename_i hn
   split at h
   ·exact h.elim
   rename_i hloud
   rcases eff_op (Qx:=NoEx) (zGV hf hc0) (zkQ hs) h with⟨v,hg,hsl,hp⟩|⟨hld,hwp⟩
   ·have hnp:kdD P cfg dr o≠.pure:=by
     intro hpu
     have h1:=zsO hpu
     unfold kdD at hpu
     cases dr with
     |false => cases hpu
     |true =>
      have hpu:zxq P cfg o=.pure:=hpu
      unfold loud at hloud
      rw[h1,hpu] at hloud
      simp[Kd.quiet] at hloud
    obtain⟨w0,hw0⟩:=hex
    refine .inl ⟨v.toV,fun w hw=>hg w (hw.resolve_left hnp),?_⟩
    have:=ih _ (a.put o.dst v.toV) hp (zjM hf rfl hd (fun _ _ _ hk=>by cases hk) rfl) (zhb hs zfI hsl) ⟨w0,zdZ hw0⟩
    have hC:zb7 ro (st.put o.dst (some (v,none)))=zb7 ro st:=funext fun w=>propext ⟨zjh,zdZ⟩
    rw[hC] at this;exact this
   ·refine .inr ⟨?_,fun w hw=>Oper.wp_mono (fun a' w' hl=>?_) (hwp w hw)⟩
    ·unfold kdD
     cases dr with
     |false => rfl
     |true =>
      have hloud:loud P cfg true o=false:=by simpa using hloud
      unfold loud at hloud
      rw[hld] at hloud
      simpa using hloud
    ·obtain⟨v,st',hp,rfl,⟨hw',hsf⟩,hsl,hsame⟩:=hl
     refine⟨v.toV,rfl,zb7 ro (st'.put o.dst (some (v,none))),zdZ hw',?_,?_⟩
     ·intro hso x hx
      refine hsf ?_ x (zjh hx)
      unfold kdD at hso
      cases dr with
      |false => cases hso
      |true => exact hso
     ·exact ih _ _ hp (zjM hf hsame.ov hd (fun _ _ _ hk=>by cases hk) rfl) (zhb hs hsame hsl) ⟨_,zdZ hw'⟩
theorem zcR{dr:Bool}{K:Act->World->Prop}:∀(n:Nat) (l:DT) (st:St (sem P Q)) (a:Act) (k:St (sem P Q)->Prop),zha P cfg dr ops ro n l st k->ztV cfg ops ro st a->zei ro st->(∃w,zb7 ro st w) ->
  (∀st' a',k st'->zt2 cfg ro st' a'->zei ro st'->∀w,zb7 ro st' w->K a' w)->zjQ P ops (kdD P cfg dr) K l (zb7 ro st) a
 |0,l,st,a,k,h,_,_,_,_ => h.elim
 |n+1,.alt s t,st,a,k,h,hf,hs,hex,hk => by
  obtain⟨h1,h2⟩:=h
  exact⟨zcR n s st a k h1 hf hs hex hk,zcR n t st a k h2 hf hs hex hk⟩
 |n+1,.stop,st,a,k,h,hf,hs,hex,hk => by
  intro w hw
  exact hk (zwY st) a h (zGZ hf) (zEe hs) w (zG0.2 hw)
 |n+1,.op i l,st,a,k,h,hf,hs,hex,hk => by
  unfold zha at h
  split at h
  ·exact h.elim
  ·rename_i o hi
   split at h
   ·
    rename_i hy
    have hwant:Region.wanted o (yielded ops a.tmps)=true:=by
     rw[zjP]
     intro g hg
     rw[hg] at hy
     have:=zg0 hf 50 g
     simp only[ztj] at hy
     rw[hy] at this;exact this
    exact zKM hi hwant hf hs hex h fun st' a' hk' hf' hs' hex'=>zcR n l st' a' k hk' hf' hs' hex' hk
   ·
    rename_i hno
    have hwant:¬Region.wanted o (yielded ops a.tmps)=true:=by
     rw[zjP]
     intro hall
     cases hg:o.guard with
     |none => rw[hg] at hno;simp[ztj] at hno
     |some g =>
      rw[hg] at hno
      simp only[ztj] at hno
      have:=zg0 hf 50 g
      rw[hno] at this
      exact this (hall g hg)
    simp only[cond_eq_ite] at h
    split at h
    ·rename_i hd
     simp only[zjQ,hi,hwant,Bool.false_eq_true,if_false]
     have:=zcR n l _ (a.put o.dst undef) k h (zjM (v:=.undef) hf rfl hd (fun _ _ _ hk=>by cases hk) rfl) (zhb hs zfI trivial) (hex.imp fun _ h=>zdZ h) hk
     have hC:zb7 ro (st.put o.dst (some (.undef,none)))=zb7 ro st:=funext fun w=>propext ⟨zjh,zdZ⟩
     rw[hC] at this;exact this
    ·exact h.elim
   ·
    rename_i j0 g hsym hg
    rw[hg] at hsym
    simp only[ztj] at hsym
    have hstat:=zg0 hf 50 g
    rw[hsym] at hstat
    split at h
    ·rename_i obs v hop
     simp only[cond_eq_ite] at h
     split at h
     ·rename_i hd
      simp only[Bool.and_eq_true] at hd
      rw[zgV] at h
      obtain⟨hobs,h⟩:=h
      have hself:∀d,o.dst=some d->∀k',some g=some k'->ziB ops k'.1≠some d:=by
       intro d hdd k' hk' he
       obtain rfl:=Option.some.inj hk'
       have:=hd.2
       unfold zIg at this
       rw[hdd,he] at this
       simp at this
      have hC:∀e,zb7 ro (st.put o.dst e)=zb7 ro st:=fun e=>funext fun w=>propext ⟨zjh,zdZ⟩
      simp only[zjQ,hi]
      by_cases hsat:ziI ops a g
      ·have hwant:Region.wanted o (yielded ops a.tmps)=true:=by
        rw[zjP];intro g' hg';rw[hg] at hg';obtain rfl:=Option.some.inj hg';exact hsat
       have hcur:∀c,some g=some c->ziI ops a c:=fun c hc=>by obtain rfl:=Option.some.inj hc;exact hsat
       have hob:=zB0 hf hsat hobs
       rw[if_pos hwant]
       obtain⟨w0,hw0⟩:=hex
       have hsl:=zsj (cur:=some g) hs hw0.nol hop
       refine .inl ⟨v.toV,fun w hw=>zIh (cur:=some g) hf hs hw0.nol (hw.imp zsO id) hcur hop hob,?_⟩
       have:=zcR n l _ (a.put o.dst v.toV) k h (zjM (key:=some g) hf rfl hd.1 hself ⟨fun _=>rfl,fun hn=>absurd hsat hn⟩) (zhb hs zfI hsl) ⟨w0,zdZ hw0⟩ hk
       rw[hC] at this;exact this
      ·have hwant:¬Region.wanted o (yielded ops a.tmps)=true:=by
        rw[zjP];intro hall;exact hsat (hall g hg)
       rw[if_neg hwant]
       obtain⟨w0,hw0⟩:=hex
       have hsl:=zsj (cur:=some g) hs hw0.nol hop
       have:=zcR n l _ (a.put o.dst undef) k h (zjM (key:=some g) hf rfl hd.1 hself ⟨fun hy=>absurd hy hsat,fun _=>rfl⟩) (zhb hs zfI hsl) ⟨w0,zdZ hw0⟩ hk
       rw[hC] at this;exact this
     ·exact h.elim
    ·split at h
     ·exact h.elim
     ·rename_i d0 hd0
      obtain⟨d,key,b,h1,h2,h3⟩:=hstat
      rw[hd0] at h1
      obtain rfl:=Option.some.inj h1
      rw[h2] at h
      obtain⟨ht,hfa⟩:=h
      cases hb:b.den
      ·have:=zcR n (.op i l) _ a k (hfa (by rw[zey,zdr,hb];rfl)) (zzL hf h3 hb) (zvW hs) (hex.imp fun _ h=>ztq.2 h) hk
       have hC:zb7 ro { st with ov:=zto st.ov d0 (some (.one (.sc (.bool (.lit false))),none)) }=zb7 ro st:=funext fun w=>propext ztq
       rw[hC] at this;exact this
      ·have:=zcR n (.op i l) _ a k (ht (by rw[zey,hb])) (zzL hf h3 hb) (zvW hs) (hex.imp fun _ h=>ztq.2 h) hk
       have hC:zb7 ro { st with ov:=zto st.ov d0 (some (.one (.sc (.bool (.lit true))),none)) }=zb7 ro st:=funext fun w=>propext ztq
       rw[hC] at this;exact this
   ·exact h.elim
end
variable {P:Program} {Q:Value->World->Prop}
theorem zKG{a b:Sh}(h:shEq a b=true):a=b:=by
 cases a<;>cases b<;>simp[shEq] at h<;>first|rfl|(rw[zuQ h])
theorem zzX:∀{a b:List Sh},zA7 a b=true->a=b
 |[],[],_ => rfl
 |a::r,b::s,h => by
  simp only[zA7,Bool.and_eq_true] at h
  rw[zKG h.1,zzX h.2]
 |[],_::_,h => by simp[zA7] at h
 |_::_,[],h => by simp[zA7] at h
def zwC:List Sh->List At->Prop
 |[],[] => True
 |.int _::r,.int _::l => zwC r l
 |.bool::r,.bool _::l => zwC r l
 |.str::r,.str _::l => zwC r l
 |.slc::r,.slc _ _ _::l => zwC r l
 |.ptr::r,.ptr _::l => zwC r l
 |.val::r,.val _::l => zwC r l
 |_,_ => False
theorem zhA:∀{shs:List Sh}{f:List At->Prop},zFp shs f->∀l,zwC shs l->f l
 |[],f,h,[],_ => h
 |.int _::r,f,h,.int n::l,hf => zhA (h n) l hf
 |.bool::r,f,h,.bool n::l,hf => zhA (h n) l hf
 |.str::r,f,h,.str n::l,hf => zhA (h n) l hf
 |.slc::r,f,h,.slc p n c::l,hf => zhA (h p n c) l hf
 |.ptr::r,f,h,.ptr n::l,hf => zhA (h n) l hf
 |.val::r,f,h,.val n::l,hf => zhA (h n) l hf
 |.bool::_,_,_,.int _::_,hf|.bool::_,_,_,.str _::_,hf|.bool::_,_,_,.slc _ _ _::_,hf|.bool::_,_,_,.ptr _::_,hf|.bool::_,_,_,.val _::_,hf => hf.elim
 |.int _::_,_,_,.bool _::_,hf|.int _::_,_,_,.str _::_,hf|.int _::_,_,_,.slc _ _ _::_,hf|.int _::_,_,_,.ptr _::_,hf|.int _::_,_,_,.val _::_,hf => hf.elim
 |.str::_,_,_,.int _::_,hf|.str::_,_,_,.bool _::_,hf|.str::_,_,_,.slc _ _ _::_,hf|.str::_,_,_,.ptr _::_,hf|.str::_,_,_,.val _::_,hf => hf.elim
 |.slc::_,_,_,.int _::_,hf|.slc::_,_,_,.str _::_,hf|.slc::_,_,_,.bool _::_,hf|.slc::_,_,_,.ptr _::_,hf|.slc::_,_,_,.val _::_,hf => hf.elim
 |.ptr::_,_,_,.int _::_,hf|.ptr::_,_,_,.str _::_,hf|.ptr::_,_,_,.slc _ _ _::_,hf|.ptr::_,_,_,.bool _::_,hf|.ptr::_,_,_,.val _::_,hf => hf.elim
 |.val::_,_,_,.int _::_,hf|.val::_,_,_,.str _::_,hf|.val::_,_,_,.slc _ _ _::_,hf|.val::_,_,_,.ptr _::_,hf|.val::_,_,_,.bool _::_,hf => hf.elim
 |[],_,_,_::_,hf => hf.elim
 |.int _::_,_,_,[],hf|.bool::_,_,_,[],hf|.str::_,_,_,[],hf|.slc::_,_,_,[],hf|.ptr::_,_,_,[],hf|.val::_,_,_,[],hf => hf.elim
theorem zJa{x:Sc (sem P Q)}{s:Sh}{at_:At}(h:x.atom=some (s,at_)):∃y:Sc (sem P Q),zDy s at_=some y/\y.toV=x.toV/\zcd y=true/\(∀r l,zwC (s::r) (at_::l)↔zwC r l):=by
 cases x<;>simp[Sc.atom] at h<;>obtain⟨rfl,rfl⟩:=h<;>exact⟨_,rfl,rfl,rfl,fun _ _=>Iff.rfl⟩
theorem zsn:∀{l:List (Sc (sem P Q))} {al:List (Sh×At)},zks l=some al ->
  ∃cs:List (Sc (sem P Q)),zbZ (al.map (·.1)) (al.map (·.2))=some cs/\cs.map Sc.toV=l.map Sc.toV/\cs.all zcd=true/\zwC (al.map (·.1)) (al.map (·.2))
 |[],al,h => by simp[zks] at h;subst h;exact⟨[],rfl,rfl,rfl,trivial⟩
 |x::r,al,h => by
  unfold zks at h
  split at h
  ·rename_i a l' ha hl
   simp only[Option.some.injEq] at h
   subst h
   obtain⟨s,at_⟩:=a
   obtain⟨y,hy,hyv,hyn,hfit⟩:=zJa ha
   obtain⟨cs,hcs,hcv,hcn,hf⟩:=zsn hl
   refine⟨y::cs,?_,by simp[hyv,hcv],by simp[hyn,hcn],(hfit _ _).2 hf⟩
   simp[zbZ,hy,hcs]
  ·simp at h
section
variable {cfg:Cfg} {ro:Ro (sem P Q)} {st:St (sem P Q)} {a:Act} {w:World}
theorem znj:∀{sl:List (Nat×Bool×Nat)} {l:List (Sc (sem P Q))},zpo ro st sl=some l->∀(cs zat:List (Sc (sem P Q))),(∃tl,cs=tl++zat/\tl.map Sc.toV=l.map Sc.toV)->cs.all zcd=true ->
  (zd1 sl cs).2=zat/\zaI (zd1 sl cs).1=zaI sl/\∀i e,(i,e)∈(zd1 sl cs).1->∃v u,e=some (.one v,none)/\ro.get st i=some (.one u,none)/\v.toV=u.toV/\zaY v=true
 |[],l,h,cs,zat,⟨tl,htl,hv⟩,_ => by
  simp[zpo] at h
  subst h
  have:tl=[]:=by simpa using hv
  subst this
  exact⟨htl,rfl,fun i e he=>by cases he⟩
 |(i,agg,n)::r,l,h,cs,zat,⟨tl,htl,hv⟩,hcn => by
  unfold zpo at h
  split at h
  ·
   rename_i x l' hg hr
   simp only[cond_eq_ite] at h
   split at h
   ·rename_i hc
    simp only[Bool.and_eq_true,Bool.not_eq_true',Nat.beq_eq] at hc
    obtain⟨ha,rfl⟩:=hc
    subst ha
    simp only[Option.some.injEq] at h
    subst h
    cases tl with
    |nil => simp at hv
    |cons y tl' =>
     simp only[List.map_cons,List.cons.injEq] at hv
     subst htl
     have hcn':(tl'++zat).all zcd=true:=by
      simp only[List.cons_append,List.all_cons,Bool.and_eq_true] at hcn;exact hcn.2
     have hy:zcd y=true:=by
      simp only[List.cons_append,List.all_cons,Bool.and_eq_true] at hcn;exact hcn.1
     obtain⟨h1,h2,h3⟩:=znj hr (tl'++zat) zat ⟨tl',rfl,hv.2⟩ hcn'
     have hd:zbB 1 (y::tl'++zat)=tl'++zat:=by rw[zdR];rfl
     simp only[zd1,hd]
     refine⟨h1,by simp[zaI] at h2 ⊢;exact h2,fun j e he=>?_⟩
     rcases List.mem_cons.1 he with he|he
     ·obtain⟨rfl,rfl⟩:=Prod.mk.inj he
      exact⟨.sc y,.sc x,rfl,hg,hv.1,by simp[zaY,SV.cells,hy]⟩
     ·exact h3 j e he
   ·simp at h
  ·
   rename_i cs0 l' hg hr
   simp only[cond_eq_ite] at h
   split at h
   ·rename_i hc
    simp only[Bool.and_eq_true,Nat.beq_eq] at hc
    obtain⟨ha,rfl⟩:=hc
    subst ha
    simp only[Option.some.injEq] at h
    subst h
    simp only[List.map_append] at hv
    have hlen:cs0.length<=tl.length:=by
     have:=congrArg List.length hv
     simp at this;omega
    subst htl
    have e1:(tl.take cs0.length).map Sc.toV=cs0.map Sc.toV:=by
     rw[List.map_take,hv,List.take_left' (by simp)]
    have e2:(tl.drop cs0.length).map Sc.toV=l'.map Sc.toV:=by
     rw[List.map_drop,hv,List.drop_left' (by simp)]
    have hdr:zbB cs0.length (tl++zat)=tl.drop cs0.length++zat:=by
     rw[zdR,List.drop_append_of_le_length hlen]
    have htk:zd3 cs0.length (tl++zat)=tl.take cs0.length:=by
     rw[zkV,List.take_append_of_le_length hlen]
    have hcn':(tl.drop cs0.length++zat).all zcd=true:=by
     rw[<-hdr,zdR]
     simp only[List.all_eq_true] at *
     intro x hx;exact hcn x (List.mem_of_mem_drop hx)
    obtain⟨h1,h2,h3⟩:=znj hr (tl.drop cs0.length++zat) zat ⟨tl.drop cs0.length,rfl,e2⟩ hcn'
    simp only[zd1,hdr,htk]
    refine⟨h1,by simp[zaI] at h2 ⊢;exact h2,fun j e he=>?_⟩
    rcases List.mem_cons.1 he with he|he
    ·obtain⟨rfl,rfl⟩:=Prod.mk.inj he
     refine⟨.agg (tl.take cs0.length),.agg cs0,rfl,hg,by rw[toV_agg,toV_agg,e1],?_⟩
     simp only[zaY,SV.cells,List.all_eq_true] at *
     intro x hx;exact hcn x (List.mem_append_left _ (List.mem_of_mem_take hx))
    ·exact h3 j e he
   ·simp at h
  ·simp at h
theorem zsc{ro2:Ro (sem P Q)}{st2:St (sem P Q)}:∀{bl:List (Nat×Nat)} {l:List (Sc (sem P Q))},zmH ro2 st2 bl=some l->(∀j n,(j,n)∈bl->∃b,ro.blk st j=some b)->∀(cs:List (Sc (sem P Q))),cs.map Sc.toV=l.map Sc.toV->cs.all zcd=true ->
  zaI (ze0 ro st bl cs)=zaI bl/\∀j b',(j,b')∈ze0 ro st bl cs->∃b b2,ro.blk st j=some b/\ro2.blk st2 j=some b2/\b'.num=b.num/\b'.ty=b.ty/\b'.cells.map Sc.toV=b2.cells.map Sc.toV/\b'.cells.all zcd=true
 |[],l,h,_,cs,hv,hcn => ⟨rfl,fun j b hb => by cases hb⟩
 |(j,n)::r,l,h,hex,cs,hv,hcn => by
  unfold zmH at h
  split at h
  ·rename_i b2 l' hb2 hr
   simp only[cond_eq_ite] at h
   split at h
   ·rename_i hn
    have hn:n=b2.cells.length:=by simpa using hn
    subst hn
    simp only[Option.some.injEq] at h
    subst h
    obtain⟨b,hb⟩:=hex j _ (List.mem_cons_self ..)
    simp only[List.map_append] at hv
    have e1:(cs.take b2.cells.length).map Sc.toV=b2.cells.map Sc.toV:=by
     rw[List.map_take,hv,List.take_left' (by simp)]
    have e2:(cs.drop b2.cells.length).map Sc.toV=l'.map Sc.toV:=by
     rw[List.map_drop,hv,List.drop_left' (by simp)]
    have n1:(cs.take b2.cells.length).all zcd=true:=by
     simp only[List.all_eq_true] at *;intro x hx;exact hcn x (List.mem_of_mem_take hx)
    have n2:(cs.drop b2.cells.length).all zcd=true:=by
     simp only[List.all_eq_true] at *;intro x hx;exact hcn x (List.mem_of_mem_drop hx)
    obtain⟨h1,h2⟩:=zsc hr (fun i m hm=>hex i m (List.mem_cons_of_mem _ hm)) _ e2 n2
    simp only[ze0,hb,zkV,zdR]
    refine⟨by simp[zaI] at h1 ⊢;exact h1,fun i b' hi=>?_⟩
    rcases List.mem_cons.1 hi with hi|hi
    ·obtain⟨rfl,rfl⟩:=Prod.mk.inj hi
     exact⟨b,b2,hb,hb2,rfl,rfl,e1,n1⟩
    ·exact h2 i b' hi
   ·simp at h
  ·simp at h
theorem zfB{α:Type}:∀{l:List (Nat×α)} {i:Nat},zdD l i=none↔i∉zaI l
 |[],i => by simp[zdD,zaI]
 |(k,v)::r,i => by
  unfold zdD
  cases hk:Nat.beq k i
  ·have hne:=beqN hk
   have ih:=zfB (l:=r) (i:=i)
   simp only[cond_false,ih,zaI,List.map_cons,List.mem_cons,not_or]
   exact⟨fun h=>⟨Ne.symm hne,h⟩,fun h=>h.2⟩
  ·have:=Nat.eq_of_beq_eq_true hk
   subst this
   simp[zaI]
theorem zkD{α:Type}:∀(l r:List (Nat×α)) (i:Nat),zdD (l++r) i=match zdD l i with|some x=>some x|none=>zdD r i
 |[],r,i => rfl
 |(k,v)::l,r,i => by
  simp only[List.cons_append,zdD]
  cases hk:Nat.beq k i
  ·simp only[cond_false];exact zkD l r i
  ·rfl
theorem zkE{α:Type}(p:Nat->Bool):∀(l:List (Nat×α)) (i:Nat),zdD (l.filter fun x=>p x.1) i=if p i then zdD l i else none
 |[],i => by simp[zdD]
 |(k,v)::r,i => by
  have ih:=zkE p r i
  simp only[List.filter_cons]
  cases hk:Nat.beq k i
  ·have h1:zdD ((k,v)::r) i=zdD r i:=by simp[zdD,hk]
   rw[h1,<-ih]
   split
   ·simp[zdD,hk]
   ·rfl
  ·have:=Nat.eq_of_beq_eq_true hk
   subst this
   cases hp:p k
   ·simp only[Bool.false_eq_true,if_false]
    rw[ih,hp];simp
   ·simp[zdD]
theorem zrS{α:Type}(f:Nat->Option α)(n i:Nat):zdD ((List.range n).filterMap fun j=>(f j).map fun x=>(j,x)) i=if i<n then f i else none:=by
 have key:∀(l:List Nat),zdD (l.filterMap fun j=>(f j).map fun x=>(j,x)) i=if i∈l then f i else none:=by
  intro l
  induction l with
  |nil => simp[zdD]
  |cons k r ih =>
   simp only[List.filterMap_cons]
   cases hf:f k with
   |none =>
    simp only[Option.map_none,ih,List.mem_cons]
    by_cases h:i=k
    ·subst h;simp[hf]
    ·simp[h]
   |some x =>
    simp only[Option.map_some,zdD,List.mem_cons]
    by_cases h:k=i
    ·subst h;simp[hf]
    ·rw[beqF h];simp only[cond_false,ih,Ne.symm h,false_or]
 rw[key]
 simp
theorem zbg(hw:zb7 ro st w)(j:Nat):zdD (zaX cfg ro st).bl j=ro.blk st j:=by
 unfold zaX zBZ
 simp only
 rw[zrS (fun j=>ro.blk st j)]
 split
 ·rfl
 ·rename_i h
  cases hb:ro.blk st j with
  |none => rfl
  |some b => exact absurd (hw.lt j b hb) h
theorem zgy{i:Nat}{v:SL (sem P Q)}:zdD (zaX cfg ro st).sl i=some v↔i<cfg.N/\ro.get st i=some (v,none):=by
 have:(zaX cfg ro st).sl=(List.range cfg.N).filterMap fun j=>((match ro.get st j with|some (v,none)=>some v|_=>none):Option (SL (sem P Q))).map fun x=>(j,x):=by
  unfold zaX zyO
  simp only
  congr 1
  funext j
  cases ro.get st j with
  |none => rfl
  |some e => obtain⟨v,key⟩:=e;cases key<;>rfl
 rw[this,zrS (fun j=>(match ro.get st j with|some (v,none)=>some v|_=>none))]
 split
 ·rename_i h
  cases hg:ro.get st i with
  |none => simp
  |some e =>
   obtain⟨u,key⟩:=e
   cases key<;>simp[h]
 ·rename_i h
  simp[h]
theorem zgf{hv:Hv}{body:Code}{cs:List (Sc (sem P Q))}{wa:World}{j:Nat}{b':Blk (sem P Q)}(hw:zb7 ro st w)
  (hsp:∀j b',(j,b')∈ze0 ro st hv.blocks (zly hv body cs).2->∃b,ro.blk st j=some b/\b'.num=b.num/\b'.ty=b.ty/\b'.cells.all zcd=true)
  (h:(zaX cfg ro st).blk (zaM ro st hv body cs wa) j=some b'):∃b,ro.blk st j=some b/\b'.num=b.num/\b'.ty=b.ty/\b'.cells.all zcd=true:=by
 unfold Ro.blk at h
 split at h
 ·rename_i b1 hb1
  obtain rfl:=Option.some.inj h
  exact hsp j _ (zem hb1)
 ·rw[zbg hw] at h
  exact⟨b',h,rfl,rfl,hw.nol j b' h⟩
theorem zCS{hv:Hv}{body:Code}{cs:List (Sc (sem P Q))}{wa w':World}(hw:zb7 ro st w)
  (hsp:∀j b',(j,b')∈ze0 ro st hv.blocks (zly hv body cs).2->∃b,ro.blk st j=some b/\b'.num=b.num/\b'.ty=b.ty/\b'.cells.all zcd=true)
  (hbut:But ((zaX cfg ro st).dn (zaM ro st hv body cs wa)) wa w')
  (hbk:∀j b',(zaX cfg ro st).blk (zaM ro st hv body cs wa) j=some b'->zmx w' b'):zb7 (zaX cfg ro st) (zaM ro st hv body cs wa) w':=by
 refine⟨hbut,hbk,fun j b h=>?_,fun i j b c h1 h2 hij=>?_,fun j b h hj=>?_,fun j b h=>?_,fun j b b0 h0 h=>?_⟩
 ·obtain⟨b1,hb1,_⟩:=zgf hw hsp h
  exact hw.lt j b1 hb1
 ·obtain⟨b1,hb1,e1,_⟩:=zgf hw hsp h1
  obtain⟨b2,hb2,e2,_⟩:=zgf hw hsp h2
  rw[e1,e2]
  exact hw.ord i j b1 b2 hb1 hb2 hij
 ·obtain⟨b1,hb1,_⟩:=zgf hw hsp h
  exact absurd (hw.lt j b1 hb1) (Nat.not_lt.2 hj)
 ·obtain⟨b1,hb1,_,_,hn⟩:=zgf hw hsp h
  exact hn
 ·obtain⟨b1,hb1,e1,e2,_⟩:=zgf hw hsp h
  rw[zbg hw,hb1] at h0
  obtain rfl:=Option.some.inj h0
  exact⟨e1,e2⟩
theorem zzj{hv:Hv}{body:Code}{cs:List (Sc (sem P Q))}{wa:World}{ro2:Ro (sem P Q)}{st2:St (sem P Q)}{i:Nat}{e:Ent (sem P Q)}
  (hsp:∀i e,(i,e)∈(zd1 hv.slots cs).1->∃v u,e=some (.one v,none)/\ro2.get st2 i=some (.one u,none)/\v.toV=u.toV/\zaY v=true)
  (h:(zaX cfg ro st).get (zaM ro st hv body cs wa) i=some e) :
  (∃v u,e=(.one v,none)/\ro2.get st2 i=some (.one u,none)/\v.toV=u.toV/\zaY v=true) \/
  (i∉zaI (zaM ro st hv body cs wa).ov/\∃v,e=(v,none)/\i<cfg.N/\ro.get st i=some (v,none)):=by
 unfold Ro.get at h
 split at h
 ·rename_i e' he
  have hm:=zem he
  subst h
  have hm':(i,some e)∈(zd1 hv.slots cs).1++(nub (zmg body)).filterMap fun i=>(bif zhg (zaI (zd1 hv.slots cs).1) i then none else some (i,none)):=hm
  rcases List.mem_append.1 hm' with hm|hm
  ·obtain⟨v,u,he,h1,h2,h3⟩:=hsp i _ hm
   exact .inl ⟨v,u,Option.some.inj he,h1,h2,h3⟩
  ·simp only[List.mem_filterMap] at hm
   obtain⟨k,_,hk⟩:=hm
   cases hmem:zhg (zaI (zd1 hv.slots cs).1) k<;>rw[hmem] at hk<;>simp at hk
 ·rename_i hn
  cases hl:zdD (zaX cfg ro st).sl i with
  |none => rw[hl] at h;simp at h
  |some v =>
   rw[hl] at h
   simp only[Option.map_some,Option.some.injEq] at h
   obtain⟨h1,h2⟩:=zgy.1 hl
   exact .inr ⟨zfB.1 hn,v,h.symm,h1,h2⟩
theorem zEf{hv:Hv}{body:Code}{cs:List (Sc (sem P Q))}{wa:World}(hw:zb7 ro st w)
  (hsp:∀j b',(j,b')∈ze0 ro st hv.blocks (zly hv body cs).2->∃b,ro.blk st j=some b/\b'.num=b.num/\b'.ty=b.ty/\b'.cells.all zcd=true) {u:SL (sem P Q)} (h:zk5 ro st u) :
  zk5 (zaX cfg ro st) (zaM ro st hv body cs wa) u:=by
 cases u with
 |one x => cases x with
  |agg l => exact h
  |sc y =>
   cases y with
   |loc j n off =>
    refine⟨h.1,fun b' hb'=>?_⟩
    obtain⟨b,hb,e,_⟩:=zgf hw hsp hb'
    rw[e];exact h.2 b hb
   |_ => trivial
 |tup l => exact h
 |undef => trivial
structure zyC(cfg:Cfg)(ro:Ro (sem P Q))(st:St (sem P Q))(hv:Hv)(body:Code)(cs:List (Sc (sem P Q)))(wa:World)(a:Act)(w:World):Prop where
 c:zt2 cfg (zaX cfg ro st) (zaM ro st hv body cs wa) a
 s:zei (zaX cfg ro st) (zaM ro st hv body cs wa)
 w:zb7 (zaX cfg ro st) (zaM ro st hv body cs wa) w
theorem zH2{hv:Hv}{body:Code}{cs:List (Sc (sem P Q))}{wa w':World}{a':Act}{ro2:Ro (sem P Q)}{st2:St (sem P Q)}{l:List (Sc (sem P Q))}(hw:zb7 ro st w)(hs:zei ro st)
  (hg:zlq ro2 st2 hv=some l) (hcv:cs.map Sc.toV=l.map Sc.toV) (hcn:cs.all zcd=true)
  (hc2:zt2 cfg ro2 st2 a') (hw2:zb7 ro2 st2 w') 
  (hrest:∀i v,i∉zaI (zaM ro st hv body cs wa).ov->ro.get st i=some (v,none)->i<cfg.N->a'.tmps.getD i undef=v.toV)
  (hex:∀j n,(j,n)∈hv.blocks->∃b,ro.blk st j=some b)
  (hnum:∀j b b2,ro.blk st j=some b->ro2.blk st2 j=some b2->b2.num=b.num/\b2.ty=b.ty)
  (hkeep:∀j b,j∉zaI hv.blocks->ro.blk st j=some b->ro2.blk st2 j=some b)
  (hbut:But (ro2.dn st2) wa w') (hdirty:∀j∈st2.dirty,j∈zlx hv st) (hdx:∀j b2,j∈st2.dirty->ro2.blk st2 j=some b2->∃b,ro.blk st j=some b) :
  zyC cfg ro st hv body cs wa a' w':=by
 unfold zlq at hg
 simp only[Option.bind_eq_some_iff,Option.map_eq_some_iff] at hg
 obtain⟨ss,hss,bs,hbs,rfl⟩:=hg
 rw[List.map_append] at hcv
 have hlen:ss.length<=cs.length:=by have:=congrArg List.length hcv;simp at this;omega
 have e1:(cs.take ss.length).map Sc.toV=ss.map Sc.toV:=by rw[List.map_take,hcv,List.take_left' (by simp)]
 have e2:(cs.drop ss.length).map Sc.toV=bs.map Sc.toV:=by rw[List.map_drop,hcv,List.drop_left' (by simp)]
 obtain⟨s1,s2,s3⟩:=znj hss cs (cs.drop ss.length) ⟨cs.take ss.length,(List.take_append_drop _ _).symm,e1⟩ hcn
 have n2:(cs.drop ss.length).all zcd=true:=by
  simp only[List.all_eq_true] at *;intro x hx;exact hcn x (List.mem_of_mem_drop hx)
 have hrest2:(zly hv body cs).2=cs.drop ss.length:=s1
 obtain⟨b1,b2⟩:=zsc (ro:=ro) (st:=st) hbs hex _ e2 n2
 have hsp:∀j b',(j,b')∈ze0 ro st hv.blocks (zly hv body cs).2->∃b,ro.blk st j=some b/\b'.num=b.num/\b'.ty=b.ty/\b'.cells.all zcd=true:=by
  intro j b' hm
  rw[hrest2] at hm
  obtain⟨b,c,h1,h2,h3,h4,h5,h6⟩:=b2 j b' hm
  exact⟨b,h1,h3,h4,h6⟩
 refine⟨⟨hc2.size,hc2.defers,fun i e he=>?_⟩,fun i e he=>?_,zCS hw hsp ?_ fun j b' hb'=>?_⟩
 ·rcases zzj s3 he with⟨v,u,rfl,hu,hvu,_⟩|⟨hni,v,rfl,hi,hgv⟩
  ·exact⟨rfl,by have:=(hc2.fr i _ hu).2;show _=v.toV;rw[hvu];exact this⟩
  ·exact⟨rfl,hrest i v hni hgv hi⟩
 ·rcases zzj s3 he with⟨v,u,rfl,hu,hvu,hn⟩|⟨hni,v,rfl,hi,hgv⟩
  ·exact zc6 hn
  ·exact zEf hw hsp (hs i _ hgv)
 ·refine hbut.mono fun d hd=>?_
  obtain⟨j,c,hj,hc,rfl⟩:=zj5.1 hd
  obtain⟨b,hb⟩:=hdx j c hj hc
  have hblk:∃b',(zaX cfg ro st).blk (zaM ro st hv body cs wa) j=some b':=by
   unfold Ro.blk
   split
   ·exact⟨_,rfl⟩
   ·rw[zbg hw];exact⟨b,hb⟩
  obtain⟨b',hb'⟩:=hblk
  obtain⟨b0,hb0,en,_⟩:=zgf hw hsp hb'
  refine zj5.2 ⟨j,b',hdirty j hj,hb',?_⟩
  rw[hb] at hb0
  obtain rfl:=Option.some.inj hb0
  rw[en,(hnum j b c hb hc).1]
 ·unfold Ro.blk at hb'
  split at hb'
  ·rename_i b1' hl
   obtain rfl:=Option.some.inj hb'
   have hm:=zem hl
   have hm:(j,b1')∈ze0 ro st hv.blocks (zly hv body cs).2:=hm
   rw[hrest2] at hm
   obtain⟨b,c,h1,h2,h3,h4,h5,h6⟩:=b2 j b1' hm
   have hc:=hw2.bk j c h2
   obtain⟨en,et⟩:=hnum j b c h1 h2
   unfold zmx at hc ⊢
   rw[h3,h4,h5,<-en,<-et]
   exact hc
  ·rename_i hn
   rw[zbg hw] at hb'
   have hnk:j∉zaI hv.blocks:=by
    have h1:j∉zaI (ze0 ro st hv.blocks (zly hv body cs).2):=zfB.1 hn
    rw[hrest2,b1] at h1
    exact h1
   exact hw2.bk j b' (hkeep j b' hnk hb')
end
end Go.Sx
