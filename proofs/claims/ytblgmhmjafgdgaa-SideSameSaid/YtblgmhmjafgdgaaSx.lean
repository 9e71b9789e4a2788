/- A symbolic executor for the model's code, over an algebra: one instance gives a proposition (and a theorem says that it implies the call's contract), another one prints that proposition's text. -/
import Derived.WalkKit
import Derived.KernelRfl
import Derived.Orders
import Derived.Still
set_option linter.unusedVariables false
namespace Go.Sx

inductive Cmp where
  | eql | neq | lss | leq | gtr | geq

def toCmp : BinOp → Option Cmp
  | .eql => some .eql | .neq => some .neq | .lss => some .lss | .leq => some .leq | .gtr => some .gtr | .geq => some .geq
  | _ => none

inductive Sh where
  | int (k : IntKind) | bool | str | slc | ptr | val

inductive Atom (I B S N P V : Type) where
  | int (n : I) | bool (b : B) | str (s : S) | slc (p : P) (l c : N) | ptr (p : P) | val (v : V)

/-- Instructions that are told as they stand. -/
inductive MC (V : Type) where
  | makeSlice (t : TypeId) (l c : V)
  | append (ats : Array TypeId) (t : TypeId) (xs : List V)
  | copy (ats : Array TypeId) (t : TypeId) (xs : List V)
  | delete (ats : Array TypeId) (t : TypeId) (xs : List V)
  | clear (ats : Array TypeId) (t : TypeId) (xs : List V)
  | len (ats : Array TypeId) (t : TypeId) (xs : List V)
  | lookup (t : TypeId) (m k : V) (ok : Bool)
  | mapUpdate (t : TypeId) (m k x : V)
  | makeMap (t : TypeId)
  | range (t : TypeId) (x : V)
  | next (it : V) (isString : Bool) (t : TypeId)
  | entry (it : V)
  | extract (x : V) (i : Nat)
  | convert (src dst : TypeId) (x : V)
  | eq (op : BinOp) (t : TypeId) (cx cy : Bool) (x y : V)
  | buildSlice (t : TypeId) (n : Nat) (parts : List (Nat × V))
  | makeInterface (t : TypeId) (x : V)
  | typeAssert (x : V) (t u : TypeId) (ok : Bool)
  | index (t : TypeId) (x i : V)
  | slice (t : TypeId) (x : V) (lo hi mx : Option V)

structure Alg where
  I : Type
  B : Type
  Q : Type
  S : Type
  N : Type
  P : Type
  V : Type
  W : Type
  O : Type
  iLit : Int → I
  iBin : BinOp → IntKind → Bool → I → I → I
  iConv : IntKind → I → I
  iN : N → I
  iLen : S → I
  iAt : S → I → I
  iMin : I → I → I
  iMax : I → I → I
  iIte : B → I → I → I
  bLit : Bool → B
  bCmp : Cmp → I → I → B
  bSCmp : Cmp → S → S → B
  bNilP : P → B
  bNot : B → B
  bAnd : B → B → B
  bOr : B → B → B
  bIte : B → B → B → B
  qLit : Bool → Q
  qCmp : Cmp → I → I → Q
  qSCmp : Cmp → S → S → Q
  qNilP : Bool → P → Q
  qAtom : Bool → B → Q
  qAnd : Q → Q → Q
  qOr : Q → Q → Q
  sLit : ByteArray → S
  sCat : S → S → S
  sSub : S → I → I → S
  sIte : B → S → S → S
  nLit : Nat → N
  nI : I → N
  nSub : N → I → N
  pNil : P
  pAt : N → Nat → P
  pAdd : P → Nat → P
  pIdx : P → I → Nat → P
  pCut : P → N → I → Nat → P
  vInt : IntKind → I → V
  vBool : B → V
  vStr : S → V
  vSlc : P → N → N → V
  vPtr : P → V
  vAgg : List V → V
  vTup : List V → V
  vFn : Nat → List V → V
  vLit : Value → V
  vIte : B → V → V → V
  oTrue : O
  oFail : String → O
  oAnd : O → O → O
  oImp : Q → O → O
  oRange : IntKind → I → O
  oNe0 : I → O
  oNonneg : I → O
  oLe : I → I → O
  oLt : I → I → O
  oSome : P → O
  oCat : S → S → O
  oEqV : V → V → O
  oExt : W → W → O
  oKept : List N → W → W → O
  oCell : List N → W → P → Nat → V → O
  oCells : List N → W → P → Nat → V → O
  exI : String → (I → O) → O
  exB : String → (B → O) → O
  exS : String → (S → O) → O
  exN : String → (N → O) → O
  exP : String → (P → O) → O
  exV : String → (V → O) → O
  allExt : List N → List N → W → (W → O) → O
  allNum : W → (N → O) → O
  oFn : Nat → List V → W → (V → W → O) → O
  oFnV : V → List V → W → (V → W → O) → O
  oFnB : V → List V → W → (V → W → O) → O
  oInv : String → V → List V → W → (V → W → O) → O
  oRun : MC V → W → (V → W → O) → O
  oStore : W → P → List V → List N → (W → O) → O
  oOne : V → O
  oNew : W → TypeId → List V → (P → W → O) → O
  oRet : V → W → O
  loop : List (String × Sh) → List (Atom I B S N P V) → W → ((List (Atom I B S N P V) → W → O) → List (Atom I B S N P V) → W → O) → O
  join : List (String × Sh) → ((List (Atom I B S N P V) → W → O) → O) → (List (Atom I B S N P V) → W → O) → O


variable {A : Alg}

/-- Tests, kept as trees so that they can be told as propositions. -/
inductive BE (A : Alg) where
  | lit (b : Bool)
  | cmp (op : Cmp) (x y : A.I)
  | scmp (op : Cmp) (x y : A.S)
  | nilp (is : Bool) (p : A.P)
  | atom (is : Bool) (b : A.B)
  | and (x y : BE A)
  | or (x y : BE A)

def flip : Cmp → Cmp
  | .eql => .neq | .neq => .eql | .lss => .geq | .geq => .lss | .gtr => .leq | .leq => .gtr

def BE.neg : BE A → BE A
  | .lit b => .lit (!b)
  | .cmp op x y => .cmp (flip op) x y
  | .scmp op x y => .scmp (flip op) x y
  | .nilp is p => .nilp (!is) p
  | .atom is b => .atom (!is) b
  | .and x y => .or x.neg y.neg
  | .or x y => .and x.neg y.neg

def BE.den : BE A → A.B
  | .lit b => A.bLit b
  | .cmp op x y => A.bCmp op x y
  | .scmp op x y => A.bSCmp op x y
  | .nilp true p => A.bNilP p
  | .nilp false p => A.bNot (A.bNilP p)
  | .atom true b => b
  | .atom false b => A.bNot b
  | .and x y => A.bAnd x.den y.den
  | .or x y => A.bOr x.den y.den

def BE.prop : BE A → A.Q
  | .lit b => A.qLit b
  | .cmp op x y => A.qCmp op x y
  | .scmp op x y => A.qSCmp op x y
  | .nilp is p => A.qNilP is p
  | .atom is b => A.qAtom is b
  | .and x y => A.qAnd x.prop y.prop
  | .or x y => A.qOr x.prop y.prop

def BE.mkAnd : BE A → BE A → BE A
  | .lit true, y => y
  | .lit false, _ => .lit false
  | x, .lit true => x
  | x, y => .and x y

def BE.mkOr : BE A → BE A → BE A
  | .lit false, y => y
  | .lit true, _ => .lit true
  | x, .lit false => x
  | x, y => .or x y

/-- One cell's value. -/
inductive Sc (A : Alg) where
  | int (k : IntKind) (n : A.I)
  | intc (k : IntKind) (n : Int)
  | bool (b : BE A)
  | str (s : A.S)
  | slc (p : A.P) (l c : A.N)
  | ptr (p : A.P)
  | loc (j : Nat) (b : A.N) (off : Nat)
  | fn (f : Nat) (cap : List A.V)
  | val (v : A.V)

def Sc.toV : Sc A → A.V
  | .int k n => A.vInt k n
  | .intc k n => A.vInt k (A.iLit n)
  | .bool b => A.vBool b.den
  | .str s => A.vStr s
  | .slc p l c => A.vSlc p l c
  | .ptr p => A.vPtr p
  | .loc _ b off => A.vPtr (A.pAt b off)
  | .fn f cap => A.vFn f cap
  | .val v => v

inductive SV (A : Alg) where
  | sc (x : Sc A)
  | agg (l : List (Sc A))

def SV.toV : SV A → A.V
  | .sc x => x.toV
  | .agg l => A.vAgg (l.map Sc.toV)

def SV.cells : SV A → List (Sc A)
  | .sc x => [x]
  | .agg l => l

/-- What a slot holds. -/
inductive SL (A : Alg) where
  | one (v : SV A)
  | tup (l : List (SV A))
  | undef

def SL.toV : SL A → A.V
  | .one v => v.toV
  | .tup l => A.vTup (l.map SV.toV)
  | .undef => A.vTup []

def look {α : Type} : List (Nat × α) → Nat → Option α
  | [], _ => none
  | (k, v) :: r, i => bif Nat.beq k i then some v else look r i

def putA {α : Type} : List (Nat × α) → Nat → α → List (Nat × α)
  | [], i, x => [(i, x)]
  | (k, v) :: r, i, x => bif Nat.beq k i then (k, x) :: r else (k, v) :: putA r i x

def memN : List Nat → Nat → Bool
  | [], _ => false
  | k :: r, i => bif Nat.beq k i then true else memN r i

structure Blk (A : Alg) where
  num : A.N
  ty : TypeId
  cells : List (Sc A)

/-- A slot's entry: its value, and (inside a region) the guard under which it was written. -/
abbrev Ent (A : Alg) := SL A × Option (Nat × Bool)

structure St (A : Alg) where
  ov : List (Nat × Option (Ent A))
  bl : List (Nat × Blk A)
  nx : Nat
  anchor : A.W
  ax : Nat
  dirty : List Nat

structure Cfg where
  wrap : List Nat := []
  pub : List Nat := []
  muts : List Nat := []
  names : Array String := #[]
  orders : List (Nat × List Nat) := []
  joins : List (Nat × List Nat) := []
  N : Nat

/-- What does not turn: the slots and blocks as they were when the innermost loop was entered. -/
structure Ro (A : Alg) where
  sl : List (Nat × SL A)
  bl : List (Nat × Blk A)

def Ro.get (ro : Ro A) (st : St A) (i : Nat) : Option (Ent A) :=
  match look st.ov i with
  | some e => e
  | none => (look ro.sl i).map fun v => (v, none)

def Ro.blk (ro : Ro A) (st : St A) (j : Nat) : Option (Blk A) :=
  match look st.bl j with
  | some b => some b
  | none => look ro.bl j

def Ro.dn (ro : Ro A) (st : St A) : List A.N :=
  st.dirty.filterMap fun j => (ro.blk st j).map (·.num)

def Ro.nums (ro : Ro A) (st : St A) : List A.N :=
  (List.range st.nx).filterMap fun j => (ro.blk st j).map (·.num)

def shOf (P : Program) (t : TypeId) : Sh :=
  match P.underlying t with
  | some (.int k) => .int k
  | some .bool => .bool
  | some .string => .str
  | some (.slice _) => .slc
  | some (.pointer _) => .ptr
  | _ => .val

def isAggT (P : Program) (t : TypeId) : Bool :=
  match P.underlying t with
  | some (.struct _) | some (.array _ _) => true
  | _ => false

/-- The shapes of a type's cells. -/
def shsOf (P : Program) : Nat → TypeId → List Sh
  | 0, _ => []
  | d + 1, t =>
    match P.underlying t with
    | some (.struct fs) => fs.toList.flatMap fun f => shsOf P d f.type
    | some (.array n e) => (List.replicate n (shsOf P d e)).flatten
    | _ => [shOf P t]

def ofValue : Value → Sc A
  | .int k n => .intc k n
  | .bool b => .bool (.lit b)
  | .string s => .str (A.sLit s)
  | .slice none 0 0 => .slc A.pNil (A.nLit 0) (A.nLit 0)
  | .pointer none => .ptr A.pNil
  | v => .val (A.vLit v)

def ofValueV : Value → SV A
  | .agg cs => .agg (cs.toList.map ofValue)
  | v => .sc (ofValue v)

def zeroOf (P : Program) (t : TypeId) : Option (SV A) :=
  match (P.info? t).bind (·.zero) with
  | some z => some (ofValueV z)
  | none => none

def Sc.asI : Sc A → Option (IntKind × A.I)
  | .int k n => some (k, n)
  | .intc k n => some (k, A.iLit n)
  | _ => none

def kEq : IntKind → IntKind → Bool
  | .i8, .i8 | .i16, .i16 | .i32, .i32 | .i64, .i64 | .u8, .u8 | .u16, .u16 | .u32, .u32 | .u64, .u64 => true
  | _, _ => false

def andAll : List A.O → A.O → A.O
  | [], k => k
  | o :: r, k => A.oAnd o (andAll r k)

/-- Reading an operand: a literal, a function, or a slot; 'ok' says whether an entry's guard is met. -/
def rdOf (ro : Ro A) (st : St A) (ok : Option (Nat × Bool) → Bool) : Operand → Option (SL A)
  | .const v => some (.one (ofValueV v))
  | .func f => some (.one (.sc (.fn f [])))
  | .global g => some (.one (.sc (.ptr (A.pAt (A.nLit g) 0))))
  | .tmp t =>
    match ro.get st t with
    | some (v, key) => bif ok key then some v else none
    | none => none

def one? : Option (SL A) → Option (SV A)
  | some (.one v) => some v
  | _ => none
def sc? : Option (SL A) → Option (Sc A)
  | some (.one (.sc x)) => some x
  | _ => none

def nonzero : Sc A → List A.O
  | .intc _ n => bif n == 0 then [A.oFail "zero"] else []
  | .int _ n => [A.oNe0 n]
  | _ => [A.oFail "zero"]
def nonneg : Sc A → List A.O
  | .intc _ n => bif decide (n < 0) then [A.oFail "negative"] else []
  | .int _ n => [A.oNonneg n]
  | _ => [A.oFail "negative"]

def cmpLit (op : Cmp) (x y : Int) : Bool :=
  match op with
  | .eql => decide (x = y) | .neq => !decide (x = y) | .lss => decide (x < y) | .leq => decide (x ≤ y) | .gtr => decide (y < x) | .geq => decide (y ≤ x)

def binInt (w : Bool) (op : BinOp) (k : IntKind) (x y : A.I) (sy : Sc A) : Option (List A.O × Sc A) :=
  match toCmp op with
  | some c => some ([], .bool (.cmp c x y))
  | none =>
    match op with
    | .add | .sub | .mul => some (bif w then [] else [A.oRange k (A.iBin op k false x y)], .int k (A.iBin op k w x y))
    | .and | .or | .xor | .andNot => some ([], .int k (A.iBin op k true x y))
    | .quo => some (nonzero sy ++ (bif w then [] else [A.oRange k (A.iBin op k false x y)]), .int k (A.iBin op k w x y))
    | .rem => some (nonzero sy, .int k (A.iBin op k true x y))
    | _ => none

def beEq (eq : Bool) (x y : BE A) : BE A :=
  match x, y with
  | .lit b, y => bif b == eq then y else y.neg
  | x, .lit b => bif b == eq then x else x.neg
  | x, y => bif eq then .or (.and x y) (.and x.neg y.neg) else .or (.and x y.neg) (.and x.neg y)

/-- Cell by cell. -/
def eqCells : List (Sc A) → List (Sc A) → Option (BE A)
  | [], [] => some (.lit true)
  | x :: r, y :: s =>
    let h : Option (BE A) := match x, y with
      | .bool a, .bool b => some (beEq true a b)
      | .str a, .str b => some (.scmp .eql a b)
      | x, y => match x.asI, y.asI with
        | some (k, a), some (k', b) => bif kEq k k' then some (.cmp .eql a b) else none
        | _, _ => none
    match h, eqCells r s with
    | some a, some b => some (a.mkAnd b)
    | _, _ => none
  | _, _ => none

def isShift : BinOp → Bool
  | .shl | .shr => true
  | _ => false
def shiftSc (op : BinOp) (x y : Sc A) : Option (List A.O × Sc A) :=
  match x.asI with
  | some (k, a) => match y.asI with
    | some (_, b) => some (nonneg y, .int k (A.iBin op k true a b))
    | none => none
  | none => none
def boolSc (op : BinOp) (a b : BE A) : Option (List A.O × Sc A) :=
  match op with
  | .eql => some ([], .bool (beEq true a b))
  | .neq => some ([], .bool (beEq false a b))
  | _ => none
def strSc (op : BinOp) (a b : A.S) : Option (List A.O × Sc A) :=
  match toCmp op with
  | some c => some ([], .bool (.scmp c a b))
  | none => match op with
    | .add => some ([A.oCat a b], .str (A.sCat a b))
    | _ => none
def litSc (w : Bool) (op : BinOp) (k : IntKind) (a b : Int) : Option (List A.O × Sc A) :=
  match toCmp op with
  | some c => some ([], .bool (.lit (cmpLit c a b)))
  | none => binInt w op k (A.iLit a) (A.iLit b) (.intc k b)
def intSc (w : Bool) (op : BinOp) (x y : Sc A) : Option (List A.O × Sc A) :=
  match x.asI with
  | some (k, a) => match y.asI with
    | some (k', b) => bif kEq k k' then binInt w op k a b y else none
    | none => none
  | none => none
def binSc (w : Bool) (op : BinOp) (x y : Sc A) : Option (List A.O × Sc A) :=
  bif isShift op then shiftSc op x y else
  match x with
  | .bool a => match y with | .bool b => boolSc op a b | _ => none
  | .str a => match y with | .str b => strSc op a b | _ => none
  | .intc k a => match y with | .intc k' b => (bif kEq k k' then litSc w op k a b else none) | y => intSc w op (.intc k a) y
  | x => intSc w op x y

def isBoolSc : Sc A → Bool
  | .bool _ => true
  | _ => false
def isBoolT (P : Program) (t : TypeId) : Bool :=
  match P.underlying t with
  | some .bool => true
  | _ => false

def litNil : Operand → Bool
  | .const (.slice none 0 0) => true
  | .const (.pointer none) => true
  | _ => false

def noLoc : Sc A → Bool
  | .loc .. => false
  | _ => true
def noLocV (v : SV A) : Bool := v.cells.all noLoc

/-- A value of which only the name is known: that it is one cell. -/
def oneObs : List (Sc A) → List A.O
  | [] => []
  | .val v :: r => A.oOne v :: oneObs r
  | _ :: r => oneObs r

/-- 'x == nil', 'x != nil' at a slice or a pointer. -/
def nilOp (P : Program) (op : BinOp) (t : TypeId) (x : Sc A) : Option (List A.O × Sc A) :=
  match op, x, P.underlying t with
  | .eql, .slc p _ _, some (.slice _) => some ([], .bool (.nilp true p))
  | .neq, .slc p _ _, some (.slice _) => some ([], .bool (.nilp false p))
  | .eql, .ptr p, some (.pointer _) => some ([], .bool (.nilp true p))
  | .neq, .ptr p, some (.pointer _) => some ([], .bool (.nilp false p))
  | _, _, _ => none

def takeCells {α : Type} : Nat → List α → List α
  | 0, _ => []
  | n + 1, x :: r => x :: takeCells n r
  | _ + 1, [] => []
def dropCells {α : Type} : Nat → List α → List α
  | 0, l => l
  | n + 1, _ :: r => dropCells n r
  | _ + 1, [] => []
def isSliceNil : Operand → Bool
  | .const (.slice none 0 0) => true
  | _ => false
def setCellsAt {α : Type} : List α → Nat → List α → List α
  | l, _, [] => l
  | l, i, x :: r => setCellsAt (l.set i x) (i + 1) r

def fieldOf (P : Program) (t : TypeId) (f : Nat) : Option (Nat × TypeId) :=
  match P.underlying t with
  | some (.struct fs) => match fs[f]? with
    | some x => some (x.offset, x.type)
    | none => none
  | _ => none

def partOf (P : Program) (t : TypeId) (cs : List (Sc A)) (off : Nat) : Option (SV A) :=
  match P.underlying t with
  | none => none
  | some _ =>
    bif isAggT P t then some (.agg (takeCells (P.cellsOf t) (dropCells off cs)))
    else match dropCells off cs with
      | x :: _ => some (.sc x)
      | [] => none

def fillParts (place : Nat → Option (Nat × Nat)) : List (Sc A) → List (Nat × SV A) → Option (List (Sc A))
  | cs, [] => some cs
  | cs, (i, v) :: r =>
    match place i with
    | some (off, size) => bif Nat.beq v.cells.length size && Nat.ble (off + size) cs.length then fillParts place (setCellsAt cs off v.cells) r else none
    | none => none

def buildOf (P : Program) (t : TypeId) (parts : List (Nat × SV A)) : Option (SV A) :=
  match (zeroOf P t : Option (SV A)) with
  | some (.agg z) =>
    match P.underlying t with
    | some (.struct fs) => bif !(fs.toList.all fun f => (P.info? f.type).isSome) then none else (fillParts (fun i => (fieldOf P t i).map fun x => (x.1, P.cellsOf x.2)) z parts).map .agg
    | some (.array _ e) => bif !(P.info? e).isSome then none else (fillParts (fun i => some (i * P.cellsOf e, P.cellsOf e)) z parts).map .agg
    | _ => none
  | _ => none

def rdParts (rd : Operand → Option (SL A)) : List (Nat × Operand) → Option (List (Nat × SV A))
  | [] => some []
  | (i, x) :: r =>
    match one? (rd x), rdParts rd r with
    | some v, some l => some ((i, v) :: l)
    | _, _ => none
def rdAll (rd : Operand → Option (SL A)) : List Operand → Option (List (SV A))
  | [] => some []
  | x :: r =>
    match one? (rd x), rdAll rd r with
    | some v, some l => some (v :: l)
    | _, _ => none

def foldI (f : A.I → A.I → A.I) (k : IntKind) : A.I → List (SV A) → Option (Sc A)
  | a, [] => some (.int k a)
  | a, .sc x :: r =>
    match x.asI with
    | some (k', b) => bif kEq k k' then foldI f k (f a b) r else none
    | none => none
  | _, .agg _ :: _ => none

/-- A nil literal of the operand's own sort. -/
def nilFits (x : Sc A) (y : Operand) : Bool :=
  match x with
  | .slc .. => litNil y && isSliceNil y
  | .ptr .. => litNil y && !isSliceNil y
  | _ => false

/-- A bound of a slice expression: told, or left out. -/
def bndOf (rd : Operand → Option (SL A)) (x : Option Operand) (dflt : A.I) : Option A.I :=
  match x with
  | none => some dflt
  | some y => (sc? (rd y)).bind fun a => a.asI.map (·.2)

/-- Is the sum that is written here to be wrapped round? -/
def wrapAt (cfg : Cfg) (o : Oper) : Bool :=
  match o.dst with
  | some d => memN cfg.wrap d
  | none => false

def liftSc (r : Option (List A.O × Sc A)) : Option (List A.O × SL A) :=
  match r with
  | some (os, x) => some (os, .one (.sc x))
  | none => none

/-- Operations that read no memory but tracked blocks and turn nothing. -/
def pureOp (P : Program) (cfg : Cfg) (ro : Ro A) (st : St A) (rd : Operand → Option (SL A)) (o : Oper) : Option (List A.O × SL A) :=
  let w := wrapAt cfg o
  let ret (x : Sc A) : Option (List A.O × SL A) := some ([], .one (.sc x))
  match o.op with
  | .move x | .assign x => match rd x with | some v => some ([], v) | none => none
  | .binOp op t x y _ =>
    match sc? (rd x) with
    | none => none
    | some a =>
      bif nilFits a y then liftSc (nilOp P op t a)
      else bif isBoolSc a && !isBoolT P t then none else match sc? (rd y) with | some b => liftSc (binSc w op a b) | none => none
  | .unOp op _ x =>
    match op, sc? (rd x) with
    | .not, some (.bool b) => ret (.bool b.neg)
    | .neg, some a => match a.asI with
      | some (k, n) => liftSc (binInt w .sub k (A.iLit 0) n a)
      | none => none
    | .xor, some a => match a.asI with
      | some (k, n) => ret (.int k (A.iBin .xor k true (A.iLit (if k.signed then -1 else k.max)) n))
      | none => none
    | _, _ => none
  | .convert src dst x =>
    match sc? (rd x), P.underlying dst, P.underlying src with
    | some (.str s), some .string, some .string => ret (.str s)
    | some (.intc _ n), some (.int k), some _ => ret (.intc k (k.wrap n))
    | some (.int _ n), some (.int k), some _ => bif w then ret (.int k (A.iConv k n)) else some ([A.oRange k n], .one (.sc (.int k n)))
    | _, _, _ => none
  | .extract x i =>
    match rd x with
    | some (.tup l) => match dropCells i l with | v :: _ => some ([], .one v) | [] => none
    | _ => none
  | .field t x f =>
    match rd x, fieldOf P t f with
    | some (.one (.agg cs)), some (off, u) => match partOf P u cs off with | some v => some ([], .one v) | none => none
    | _, _ => none
  | .build t parts =>
    match rdParts rd parts.toList with
    | some ps => bif !(ps.all fun x => noLocV x.2) then none else match buildOf P t ps with | some v => some (ps.flatMap fun x => oneObs x.2.cells, .one v) | none => none
    | none => none
  | .nilCheck x =>
    match sc? (rd x) with
    | some (.ptr p) => some ([A.oSome p], .one (.sc (.ptr p)))
    | some (.loc j b off) => ret (.loc j b off)
    | _ => none
  | .fieldAddr t x f =>
    match sc? (rd x), fieldOf P t f with
    | some a, some (off, u) =>
      bif Nat.beq (P.cellsOf u) 0 then none else
      match a with
      | .loc j b o' => ret (.loc j b (o' + off))
      | .ptr p => some ([A.oSome p], .one (.sc (.ptr (A.pAdd p off))))
      | _ => none
    | _, _ => none
  | .indexAddr t x ix =>
    match sc? (rd x), sc? (rd ix), P.underlying t with
    | some (.slc p l _), some i, some (.slice e) =>
      bif !(P.underlying e).isSome then none else match i.asI with
      | some (_, n) => some ([A.oSome p, A.oLe (A.iLit 0) n, A.oLt n (A.iN l)], .one (.sc (.ptr (A.pIdx p n (P.cellsOf e)))))
      | none => none
    | some (.ptr p), some i, some (.array n e) =>
      bif !(P.underlying e).isSome then none else match i.asI with
      | some (_, m) => some ([A.oSome p, A.oLe (A.iLit 0) m, A.oLt m (A.iLit n)], .one (.sc (.ptr (A.pIdx p m (P.cellsOf e)))))
      | none => none
    | some (.loc j b off), some (.intc _ m), some (.array n e) =>
      bif (P.underlying e).isSome && decide (0 ≤ m) && decide (m < (n : Int)) then ret (.loc j b (off + m.toNat * P.cellsOf e)) else none
    | _, _, _ => none
  | .index t x ix =>
    match sc? (rd x), sc? (rd ix), P.underlying t with
    | some (.str s), some i, some .string =>
      match i.asI with
      | some (_, n) => some ([A.oLe (A.iLit 0) n, A.oLt n (A.iLen s)], .one (.sc (.int .u8 (A.iAt s n))))
      | none => none
    | _, _, _ => none
  | .slice t x lo hi mx =>
    match mx with
    | some z =>
      bif hi.isNone then none else
      match sc? (rd x), P.underlying t with
      | some (.slc p len cap), some (.slice e) =>
        bif !(P.underlying e).isSome then none else
        match bndOf rd lo (A.iLit 0), bndOf rd hi (A.iN len), bndOf rd (some z) (A.iN cap) with
        | some l, some h, some m => some ([A.oLe (A.iLit 0) l, A.oLe l h, A.oLe h m, A.oLe m (A.iN cap)],
            .one (.sc (.slc (A.pCut p (A.nI m) l (P.cellsOf e)) (A.nI (A.iBin .sub .i64 false h l)) (A.nSub (A.nI m) l))))
        | _, _, _ => none
      | _, _ => none
    | none =>
      match sc? (rd x), P.underlying t with
      | some (.str s), some .string =>
        match bndOf rd lo (A.iLit 0), bndOf rd hi (A.iLen s) with
        | some l, some h => some ([A.oLe (A.iLit 0) l, A.oLe l h, A.oLe h (A.iLen s)], .one (.sc (.str (A.sSub s l h))))
        | _, _ => none
      | some (.slc p len cap), some (.slice e) =>
        bif !(P.underlying e).isSome then none else
        match bndOf rd lo (A.iLit 0), bndOf rd hi (A.iN len) with
        | some l, some h => some ([A.oLe (A.iLit 0) l, A.oLe l h, A.oLe h (A.iN cap)],
            .one (.sc (.slc (A.pCut p cap l (P.cellsOf e)) (A.nI (A.iBin .sub .i64 false h l)) (A.nSub cap l))))
        | _, _ => none
      | _, _ => none
  | .load t x =>
    match sc? (rd x) with
    | some (.loc j _ off) =>
      match ro.blk st j with
      | some b => match partOf P t b.cells off with
        | some v => bif Nat.beq v.cells.length (P.cellsOf t) then some ([], .one v) else none
        | none => none
      | none => none
    | _ => none
  | .call { callee := .builtin .len, args, argTypes } =>
    match args.toList, argTypes.toList with
    | [x], [t] => match sc? (rd x), P.underlying t with
      | some (.slc _ l _), some (.slice _) => ret (.int .i64 (A.iN l))
      | some (.str s), some .string => ret (.int .i64 (A.iLen s))
      | _, _ => none
    | _, _ => none
  | .call { callee := .builtin .cap, args, argTypes } =>
    match args.toList, argTypes.toList with
    | [x], [t] => match sc? (rd x), P.underlying t with
      | some (.slc _ _ c), some (.slice _) => ret (.int .i64 (A.iN c))
      | _, _ => none
    | _, _ => none
  | .call { callee := .builtin .min, args, .. } =>
    match rdAll rd args.toList with
    | some (.sc x :: r) => match x.asI with
      | some (k, a) => liftSc ((foldI A.iMin k a r).map fun y => ([], y))
      | none => none
    | _ => none
  | .call { callee := .builtin .max, args, .. } =>
    match rdAll rd args.toList with
    | some (.sc x :: r) => match x.asI with
      | some (k, a) => liftSc ((foldI A.iMax k a r).map fun y => ([], y))
      | none => none
    | _ => none
  | .makeFunc (.func f) first captured =>
    match first.toList, rdAll rd captured.toList with
    | [], some l => bif l.all noLocV then ret (.fn f (l.map SV.toV)) else none
    | _, _ => none
  | _ => none

/-! ### Guards -/

inductive KS where
  | yes | no | sym (j : Nat) | bad

def dstOf (ops : Array Oper) (j : Nat) : Option Nat :=
  match ops[j]? with
  | some o => o.dst
  | none => none

def optKS (f : Nat × Bool → KS) : Option (Nat × Bool) → KS
  | none => .yes
  | some k => f k

/-- Is the guard (j, want) met? 'sym j0': the outermost guard that is not decided. -/
def keyStat (ops : Array Oper) (ro : Ro A) (st : St A) : Nat → Nat × Bool → KS
  | 0, _ => .bad
  | d + 1, (j, want) =>
    match dstOf ops j with
    | none => .bad
    | some dj =>
      match ro.get st dj with
      | none => .bad
      | some (v, key) =>
        match optKS (keyStat ops ro st d) key with
        | .yes =>
          match v with
          | .one (.sc (.bool (.lit c))) => bif c == want then .yes else .no
          | .one (.sc (.bool _)) => .sym j
          | .undef => .no
          | _ => .bad
        | .no => .no
        | .sym j0 => .sym j0
        | .bad => .bad

def keyEq (a b : Nat × Bool) : Bool := Nat.beq a.1 b.1 && a.2 == b.2

/-- Does the guard 'b' being met say that 'a' is met? -/
def under (ops : Array Oper) (ro : Ro A) (st : St A) (a : Nat × Bool) : Nat → Nat × Bool → Bool
  | 0, _ => false
  | d + 1, b =>
    bif keyEq a b then true else
    match dstOf ops b.1 with
    | none => false
    | some dj =>
      match ro.get st dj with
      | some (_, some k) => under ops ro st a d k
      | _ => false

def keyOk (ops : Array Oper) (ro : Ro A) (st : St A) (cur : Option (Nat × Bool)) : Option (Nat × Bool) → Bool
  | none => true
  | some k =>
    match keyStat ops ro st 50 k with
    | .yes => true
    | _ => match cur with
      | some c => under ops ro st k 50 c
      | none => false

def impB (b : BE A) (want : Bool) (k : A.O) : A.O :=
  match b with
  | .lit _ => k
  | b => A.oImp (bif want then b else b.neg).prop k

/-- The guard's own test, as a chain of premises. -/
def impKey (ops : Array Oper) (ro : Ro A) (st : St A) : Nat → Nat × Bool → A.O → A.O
  | 0, _, k => k
  | d + 1, (j, want), k =>
    match dstOf ops j with
    | none => k
    | some dj =>
      match ro.get st dj with
      | some (.one (.sc (.bool b)), key) =>
        match key with
        | none => impB b want k
        | some k' => impKey ops ro st d k' (impB b want k)
      | _ => k

def iteSc (b : BE A) (x y : Sc A) : Option (Sc A) :=
  match x, y with
  | .bool c, .bool d => some (.bool ((b.mkAnd c).mkOr (b.neg.mkAnd d)))
  | .str s, .str t => some (.str (A.sIte b.den s t))
  | x, y => match x.asI, y.asI with
    | some (k, a), some (k', c) => bif kEq k k' then some (.int k (A.iIte b.den a c)) else none
    | _, _ => none

def pickBool (b x y : BE A) : BE A :=
  match x, y with
  | .lit true, y => b.mkOr y
  | .lit false, y => b.neg.mkAnd y
  | x, .lit false => b.mkAnd x
  | x, .lit true => b.neg.mkOr x
  | x, y => (b.mkAnd x).mkOr (b.neg.mkAnd y)

def opIdx (ops : Array Oper) (t : Nat) : Nat → Option Nat
  | 0 => none
  | i + 1 => match dstOf ops i with
    | some d => bif Nat.beq d t then some i else opIdx ops t i
    | none => opIdx ops t i

/-- 'pick c a b': the one side lies under the test, the other one under its contrary. -/
def pickOp (ops : Array Oper) (ro : Ro A) (st : St A) (cur : Option (Nat × Bool)) (c a b : Operand) : Option (SL A) :=
  match sc? (rdOf ro st (keyOk ops ro st cur) c) with
  | some (.bool (.lit true)) => rdOf ro st (keyOk ops ro st cur) a
  | some (.bool (.lit false)) => rdOf ro st (keyOk ops ro st cur) b
  | some (.bool t) =>
    let j : Option Nat := match c with | .tmp x => opIdx ops x ops.size | _ => none
    let side (want : Bool) (x : Operand) : Option (Sc A) :=
      match j with
      | some j => sc? (rdOf ro st (fun key => keyOk ops ro st cur key || (match key with | some k => keyEq k (j, want) | none => false)) x)
      | none => sc? (rdOf ro st (keyOk ops ro st cur) x)
    match side true a, side false b with
    | some (.bool x), some (.bool y) => some (.one (.sc (.bool (pickBool t x y))))
    | _, _ => none
  | _ => none

def St.put (st : St A) (dst : Option Tmp) (e : Option (Ent A)) : St A :=
  match dst with
  | some d => { st with ov := putA st.ov d e }
  | none => st

/-- No entry may lean on a guard whose slot is written. -/
def freeDst (ops : Array Oper) (st : St A) (dst : Option Tmp) : Bool :=
  match dst with
  | none => true
  | some d => st.ov.all fun x => match x.2 with
    | some (_, some (j, _)) => match dstOf ops j with
      | some e => !Nat.beq d e
      | none => true
    | _ => true

def okDst (cfg : Cfg) (ops : Array Oper) (st : St A) (dst : Option Tmp) : Bool :=
  freeDst ops st dst && match dst with | some d => Nat.blt d cfg.N | none => true

def isConst : Operand → Bool
  | .const _ => true
  | _ => false

/-! ### Operations that reach out -/

def exSh (nm : String) : Sh → (Sc A → A.O) → A.O
  | .int k, f => A.exI nm fun x => f (.int k x)
  | .bool, f => A.exB nm fun b => f (.bool (.atom true b))
  | .str, f => A.exS nm fun s => f (.str s)
  | .slc, f => A.exP nm fun p => A.exN (nm ++ "l") fun l => A.exN (nm ++ "c") fun c => f (.slc p l c)
  | .ptr, f => A.exP nm fun p => f (.ptr p)
  | .val, f => A.exV nm fun v => f (.val v)

def exShs (nm : String) : Nat → List Sh → (List (Sc A) → A.O) → A.O
  | _, [], f => f []
  | i, s :: r, f => exSh (nm ++ "_" ++ toString i) s fun x => exShs nm (i + 1) r fun l => f (x :: l)

def exTy (P : Program) (nm : String) (t : TypeId) (f : SV A → A.O) : A.O :=
  bif isAggT P t then exShs nm 0 (shsOf P 6 t) fun l => f (.agg l)
  else exSh nm (shOf P t) fun x => f (.sc x)

def exTys (P : Program) : List (String × TypeId) → (List (SV A) → A.O) → A.O
  | [], f => f []
  | (nm, t) :: r, f => exTy P nm t fun v => exTys P r fun l => f (v :: l)

def scalarSh : Sh → Bool
  | .int _ | .bool | .str => true
  | _ => false

/-- What a call hands back. -/
def resultOf (l : List (SV A)) : SL A :=
  match l with
  | [v] => .one v
  | l => .tup l

def nameOf (cfg : Cfg) (dst : Option Tmp) : String :=
  match dst with
  | some d => match cfg.names[d]? with | some n => bif n == "" then "t" else n | none => "t"
  | none => "t"

def St.moved (st : St A) (w : A.W) : St A := { st with anchor := w, ax := st.nx, dirty := [] }

def keptAnd (nums : List A.N) (w1 w2 : A.W) (k : A.O) : A.O :=
  match nums with
  | [] => k
  | nums => A.oAnd (A.oKept nums w1 w2) k

def callNode (P : Program) (ro : Ro A) (st : St A) (nm : String) (ext : Bool) (rts : List TypeId)
    (call : A.W → (A.V → A.W → A.O) → A.O) (k : SL A → St A → A.O) : A.O :=
  let nums := ro.nums st
  let moves := !(rts.all fun t => (bif isAggT P t then shsOf P 6 t else [shOf P t]).all scalarSh)
  let fin (v : A.V) (st : St A) := exTys P (rts.map fun t => (nm, t)) fun l =>
    A.oAnd (A.oEqV v (resultOf l).toV) (k (resultOf l) st)
  A.allExt (ro.dn st) (bif ext && !moves then [] else nums) st.anchor fun w1 => call w1 fun v w2 =>
    bif ext then A.oAnd (A.oExt w1 w2) (fin v (bif moves then st.moved w2 else st))
    else keptAnd nums w1 w2 (fin v (st.moved w2))

def runNode (P : Program) (ro : Ro A) (st : St A) (nm : String) (rts : Option (List TypeId)) (m : MC A.V) (k : SL A → St A → A.O) : A.O :=
  let nums := ro.nums st
  A.allExt (ro.dn st) nums st.anchor fun w1 => A.oRun m w1 fun v w2 =>
    let fin := match rts with
      | some l => exTys P (l.map fun t => (nm, t)) fun l => A.oAnd (A.oEqV v (resultOf l).toV) (k (resultOf l) (st.moved w2))
      | none => k .undef (st.moved w2)
    keptAnd nums w1 w2 fin

def loadSc (dn : List A.N) (w : A.W) (nm : String) (p : A.P) : Nat → List Sh → (List (Sc A) → A.O) → A.O
  | _, [], f => f []
  | i, s :: r, f => exSh nm s fun x => A.oAnd (A.oCell dn w p i x.toV) (loadSc dn w nm p (i + 1) r fun l => f (x :: l))

def tupTypes (P : Program) (t : TypeId) : List TypeId :=
  match P.underlying t with
  | some (.tuple ts) => ts.toList
  | _ => [t]

def bare (r : Option (SL A)) : Option (List A.O × SL A) :=
  match r with
  | some v => some ([], v)
  | none => none

/-- An operation whose guard is not decided, if it is pure. -/
def symOp (P : Program) (cfg : Cfg) (ops : Array Oper) (ro : Ro A) (st : St A) (o : Oper) (g : Nat × Bool) : Option (List A.O × SL A) :=
  match o.op with
  | .pick c a b => bare (pickOp ops ro st (some g) c a b)
  | _ => pureOp P cfg ro st (rdOf ro st (keyOk ops ro st (some g))) o

/-- The slot that is written is not the guard's own. -/
def noSelf (ops : Array Oper) (dst : Option Tmp) (g : Nat × Bool) : Bool :=
  match dst, dstOf ops g.1 with
  | some d, some e => !Nat.beq d e
  | _, _ => true

/-- What a decided, pure operation gives. -/
def nowOp (P : Program) (cfg : Cfg) (ops : Array Oper) (ro : Ro A) (st : St A) (o : Oper) : Option (List A.O × SL A) :=
  match o.op with
  | .pick c a b => bare (pickOp ops ro st none c a b)
  | _ => pureOp P cfg ro st (rdOf ro st (keyOk ops ro st none)) o

/-! Each operation that reaches out, by itself: 'put' goes on with the value that lies in the operation's slot. -/

def newNode (cfg : Cfg) (ro : Ro A) (st : St A) (o : Oper) (t : TypeId) (v : SV A) (put : SL A → St A → A.O) : A.O :=
  match o.dst with
  | none => A.oFail ("box " ++ o.pos)
  | some d =>
    bif !noLocV v then A.oFail ("escapes " ++ o.pos) else
    bif memN cfg.pub d then
      A.allExt (ro.dn st) (ro.nums st) st.anchor fun w1 => A.oNew w1 t (v.cells.map Sc.toV) fun p w2 => put (.one (.sc (.ptr p))) (st.moved w2)
    else
      andAll (oneObs v.cells) (A.allNum st.anchor fun b =>
        put (.one (.sc (.loc st.nx b 0))) { st with bl := putA st.bl st.nx ⟨b, t, v.cells⟩, nx := st.nx + 1 })

def loadNode (P : Program) (ro : Ro A) (st : St A) (nm : String) (o : Oper) (t : TypeId) (p : A.P) (put : SL A → St A → A.O) : A.O :=
  match P.underlying t with
  | none => A.oFail ("load " ++ o.pos)
  | some _ =>
    bif isAggT P t && Nat.ble 40 (P.cellsOf t) then
      A.exV nm fun v => A.oAnd (A.oCells (ro.dn st) st.anchor p (P.cellsOf t) v) (put (.one (.sc (.val v))) st)
    else bif isAggT P t then
      A.oAnd (A.oSome p) (loadSc (ro.dn st) st.anchor nm p 0 (shsOf P 6 t) fun l =>
        bif Nat.beq l.length (P.cellsOf t) then put (.one (.agg l)) st else A.oFail ("load size " ++ o.pos))
    else loadSc (ro.dn st) st.anchor nm p 0 [shOf P t] fun l =>
      match l with
      | [x] => put (.one (.sc x)) st
      | _ => A.oFail "load"

/-- A block that lies below the anchor is told as turned. -/
def dirtied (st : St A) (j : Nat) : List Nat := bif Nat.blt j st.ax && !memN st.dirty j then j :: st.dirty else st.dirty

def storeNode (P : Program) (ro : Ro A) (st : St A) (o : Oper) (t : TypeId) (x : Sc A) (v : SV A) (put : SL A → St A → A.O) : A.O :=
  bif !(Nat.beq v.cells.length (P.cellsOf t) && noLocV v && !(Nat.beq (P.cellsOf t) 0)) then A.oFail ("store size " ++ o.pos) else
  match x with
  | .loc j _ off =>
    match ro.blk st j with
    | some b =>
      bif Nat.ble (off + v.cells.length) b.cells.length then
        andAll (oneObs v.cells) (put .undef { st with
          bl := putA st.bl j { b with cells := setCellsAt b.cells off v.cells }
          dirty := dirtied st j })
      else A.oFail ("store size " ++ o.pos)
    | none => A.oFail ("store " ++ o.pos)
  | .ptr p => A.oStore st.anchor p (v.cells.map Sc.toV) (ro.nums st) fun w2 => put .undef { st with anchor := w2 }
  | _ => A.oFail ("store " ++ o.pos)

def callOp (P : Program) (cfg : Cfg) (ro : Ro A) (st : St A) (rd : Operand → Option (SL A)) (nm : String) (o : Oper) (f : Operand) (args : List Operand) (put : SL A → St A → A.O) : A.O :=
  match one? (rd f), rdAll rd args with
  | some (.sc (.fn f cap)), some l =>
    bif l.all noLocV then callNode P ro st nm (!memN cfg.muts f) (tupTypes P o.type) (fun w kk => A.oFn f (l.map SV.toV ++ cap) w kk) put
    else A.oFail ("escapes " ++ o.pos)
  | some (.sc (.val v)), some l =>
    bif l.all noLocV then callNode P ro st nm (!memN cfg.muts 1000000) (tupTypes P o.type) (fun w kk => bif memN cfg.muts 2000000 then A.oFnB v (l.map SV.toV) w kk else A.oFnV v (l.map SV.toV) w kk) put
    else A.oFail ("escapes " ++ o.pos)
  | _, _ => A.oFail ("call " ++ o.pos)

/-- A call of a method through an interface value. -/
def invOp (P : Program) (cfg : Cfg) (ro : Ro A) (st : St A) (rd : Operand → Option (SL A)) (nm : String) (o : Oper) (r : Operand) (m : String) (args : List Operand) (put : SL A → St A → A.O) : A.O :=
  match one? (rd r), rdAll rd args with
  | some v, some l =>
    bif noLocV v && l.all noLocV then callNode P ro st nm false (tupTypes P o.type) (fun w kk => A.oInv m v.toV (l.map SV.toV) w kk) put
    else A.oFail ("escapes " ++ o.pos)
  | _, _ => A.oFail ("invoke " ++ o.pos)

def oneV (rd : Operand → Option (SL A)) (x : Operand) : Option A.V :=
  match one? (rd x) with
  | some v => bif noLocV v then some v.toV else none
  | none => none

def optV (rd : Operand → Option (SL A)) : Option Operand → Option (Option A.V)
  | none => some none
  | some x => (oneV rd x).map some

/-- The instruction that is told as it stands. -/
def mcOf (P : Program) (rd : Operand → Option (SL A)) (o : Oper) : Option (MC A.V) :=
  match o.op with
  | .call { callee := .builtin b, args, argTypes } =>
    match rdAll rd args.toList with
    | some l => bif !(l.all noLocV) then none else
      match b with
      | .append => some (.append argTypes o.type (l.map SV.toV))
      | .copy => some (.copy argTypes o.type (l.map SV.toV))
      | .delete => some (.delete argTypes o.type (l.map SV.toV))
      | .clear => some (.clear argTypes o.type (l.map SV.toV))
      | .len => some (.len argTypes o.type (l.map SV.toV))
      | _ => none
    | none => none
  | .makeSlice t l c => (oneV rd l).bind fun x => (oneV rd c).map fun y => .makeSlice t x y
  | .buildSlice t n parts => (rdParts rd parts.toList).bind fun l => bif l.all fun x => noLocV x.2 then some (.buildSlice t n (l.map fun x => (x.1, x.2.toV))) else none
  | .lookup t m x ok => (oneV rd m).bind fun a => (oneV rd x).map fun b => .lookup t a b ok
  | .mapUpdate t m x y => (oneV rd m).bind fun a => (oneV rd x).bind fun b => (oneV rd y).map fun c => .mapUpdate t a b c
  | .insert t m x y => (oneV rd m).bind fun a => (oneV rd x).bind fun b => (oneV rd y).map fun c => .mapUpdate t a b c
  | .makeMap t none => some (.makeMap t)
  | .range t x => (oneV rd x).map fun a => .range t a
  | .next x s => (oneV rd x).map fun a => .next a s o.type
  | .entry x => (oneV rd x).map fun a => .entry a
  | .extract x i => (oneV rd x).map fun a => .extract a i
  | .convert src dst x => (oneV rd x).map fun a => .convert src dst a
  | .binOp op t x y _ => (oneV rd x).bind fun a => (oneV rd y).map fun b => .eq op t (isConst x) (isConst y) a b
  | .makeInterface t x => (oneV rd x).map fun a => .makeInterface t a
  | .typeAssert x t u ok => (oneV rd x).map fun a => .typeAssert a t u ok
  | .index t x i => (oneV rd x).bind fun a => (oneV rd i).map fun b => .index t a b
  | .slice t x lo hi mx => (oneV rd x).bind fun a => (optV rd lo).bind fun b => (optV rd hi).bind fun c => (optV rd mx).map fun d => .slice t a b c d
  | _ => none

def isSkip (o : Oper) : Bool :=
  match o.op with
  | .mapUpdate .. | .insert .. => true
  | _ => false

/-- Instructions that turn nothing that was there. -/
def softOp (o : Oper) : Bool :=
  match o.op with
  | .makeSlice .. | .buildSlice .. | .lookup .. | .makeMap .. | .convert .. | .binOp .. | .index .. | .makeInterface .. | .typeAssert .. | .entry .. | .extract .. => true
  | .call { callee := .builtin .len, .. } => true
  | _ => false

/-- What a range, its step and its entry give is kept as it stands: a type that is none. -/
def mcTy (P : Program) (o : Oper) : TypeId :=
  match o.op with
  | .range .. | .next .. | .entry .. => P.types.size
  | _ => o.type

def mcNode (P : Program) (ro : Ro A) (st : St A) (rd : Operand → Option (SL A)) (nm : String) (o : Oper) (put : SL A → St A → A.O) : A.O :=
  match mcOf P rd o with
  | some m => bif softOp o && !isSkip o then callNode P ro st nm true (tupTypes P (mcTy P o)) (fun w kk => A.oRun m w kk) put
    else runNode P ro st nm (bif isSkip o then none else some (tupTypes P (mcTy P o))) m put
  | none => A.oFail ("op " ++ o.pos)

def effOp (P : Program) (cfg : Cfg) (ro : Ro A) (st : St A) (rd : Operand → Option (SL A)) (o : Oper) (put : SL A → St A → A.O) : A.O :=
  let nm := nameOf cfg o.dst
  match o.op with
  | .box t x => match one? (rd x) with | some v => newNode cfg ro st o t v put | none => A.oFail ("box " ++ o.pos)
  | .alloc t => match (zeroOf P t : Option (SV A)) with | some v => newNode cfg ro st o t v put | none => A.oFail ("alloc " ++ o.pos)
  | .load t x => match sc? (rd x) with | some (.ptr p) => loadNode P ro st nm o t p put | _ => A.oFail ("load " ++ o.pos)
  | .store t x y => match sc? (rd x), one? (rd y) with | some a, some v => storeNode P ro st o t a v put | _, _ => A.oFail ("store " ++ o.pos)
  | .call { callee := .value f, args, .. } => callOp P cfg ro st rd nm o f args.toList put
  | .call { callee := .invoke r m, args, .. } => invOp P cfg ro st rd nm o r m args.toList put
  | _ => mcNode P ro st rd nm o put

def endEnt (x : Nat × Option (Ent A)) : Nat × Option (Ent A) :=
  match x.2 with
  | some (_, some _) => (x.1, none)
  | _ => x
/-- At a region's end what lies under a guard is forgotten. -/
def endSt (st : St A) : St A := { st with ov := st.ov.map endEnt }

/-! ### Regions that draw their order -/

/-- What an operation does to what is known of memory. pure: nothing, and it looks at nothing; read: nothing; soft: what was known is known still; hard: anything. -/
inductive Kd where
  | pure | read | soft | hard
  deriving DecidableEq

def Kd.quiet : Kd → Bool
  | .pure | .read => true
  | _ => false

def softF (cfg : Cfg) : Operand → Bool
  | .func g => !memN cfg.muts g && !memN cfg.muts 1000000
  | _ => cfg.muts.isEmpty

def flatT (P : Program) (t : TypeId) : Bool :=
  match P.underlying t with
  | some (.int _) | some .bool => true
  | _ => false

def kdOf (P : Program) (cfg : Cfg) (o : Oper) : Kd :=
  match o.op with
  | .move _ | .assign _ | .unOp .. | .extract .. | .field .. | .build .. | .nilCheck .. | .fieldAddr .. | .indexAddr .. | .slice .. | .pick .. => .pure
  | .load .. => .read
  | .binOp _ t _ _ _ => bif flatT P t || (match P.underlying t with | some .string => true | _ => false) then .pure else .soft
  | .convert s d _ => bif (flatT P s && flatT P d) || (match P.underlying s, P.underlying d with | some .string, some .string => true | _, _ => false) then .pure else .soft
  | .index t _ _ => bif (match P.underlying t with | some .string => true | _ => false) then .pure else .soft
  | .box .. | .alloc .. => .soft
  | .call { callee := .value f, .. } => bif softF cfg f then .soft else .hard
  | .call { callee := .builtin .min, .. } | .call { callee := .builtin .max, .. } | .call { callee := .builtin .cap, .. } => .pure
  | .call { callee := .builtin .len, argTypes, .. } => bif (match argTypes.toList with | [t] => (match P.underlying t with | some (.slice _) | some .string => true | _ => false) | _ => false) then .pure else .soft
  | .makeFunc .. => .pure
  | _ => bif softOp o && !isSkip o then .soft else .hard

/-- 'i' comes behind 'j', directly or through others. -/
def dep (md : Region.Mode) (ops : Array Oper) : Nat → Nat → Nat → Bool
  | 0, _, _ => false
  | n + 1, i, j =>
    match ops[i]? with
    | some o => o.after.toList.any fun e => Region.binds md e && (Nat.beq e.on j || dep md ops n e.on j)
    | none => false

def near (md : Region.Mode) (ops : Array Oper) (i j : Nat) : Bool :=
  match ops[i]? with
  | some o => o.after.toList.any fun e => Region.binds md e && Nat.beq e.on j
  | none => false

/-- 'j' stands ahead of 'i'. -/
def pairOk (md : Region.Mode) (ops : Array Oper) (kd : Oper → Kd) (n : Nat) (j i : Nat) : Bool :=
  match ops[j]?, ops[i]? with
  | some oj, some oi => !near md ops j i && ((oi.apart ops oj && (kd oj).quiet && (decide (kd oj = .pure) || decide (kd oi = .soft) || (kd oi).quiet)) || dep md ops n i j)
  | _, _ => false

def bound (md : Region.Mode) (rem : List Nat) (o : Oper) : Bool := o.after.toList.any fun e => Region.binds md e && memN rem e.on

def dropN (i : Nat) : List Nat → List Nat
  | [] => []
  | j :: r => bif Nat.beq i j then r else j :: dropN i r

/-- The orders in which a region's operations are run through: one behind the other; or either way. -/
inductive DT where
  | stop
  | op (i : Nat) (t : DT)
  | alt (s t : DT)

def DT.chain : List Nat → DT
  | [] => .stop
  | i :: r => .op i (chain r)

def DT.heads : DT → List Nat
  | .stop => []
  | .op i _ => [i]
  | .alt s t => s.heads ++ t.heads

def DT.hasAlt : DT → Bool
  | .stop => false
  | .op _ t => t.hasAlt
  | .alt _ _ => true

/-- It may come now: nothing that is left is ahead of it. -/
def opOk (md : Region.Mode) (ops : Array Oper) (rem : List Nat) (j : Nat) : Bool :=
  match ops[j]? with
  | some o => memN rem j && !bound md rem o
  | none => false

def bnd (md : Region.Mode) (ops : Array Oper) (rem : List Nat) (i : Nat) : Bool :=
  match ops[i]? with
  | some o => bound md rem o
  | none => true

def okD (md : Region.Mode) (ops : Array Oper) (kd : Oper → Kd) (n : Nat) : Bool → DT → List Nat → Bool
  | f, .stop, rem => !f && rem.isEmpty
  | f, .op j t, rem => opOk md ops rem j && (f || (dropN j rem).all fun i => pairOk md ops kd n j i) && okD md ops kd n false t (dropN j rem)
  | f, .alt s t, rem => okD md ops kd n true s rem && okD md ops kd n true t rem && (f || rem.all fun i => memN (s.heads ++ t.heads) i || bnd md ops rem i)

def firstN (p : Nat → Bool) : List Nat → Option Nat
  | [] => none
  | i :: r => bif p i then some i else firstN p r

def altOf : List DT → DT
  | [] => .stop
  | [t] => t
  | t :: r => .alt t (altOf r)

def mkTree (md : Region.Mode) (ops : Array Oper) (kd : Oper → Kd) (n : Nat) : Nat → List Nat → DT
  | 0, _ => .stop
  | m + 1, rem =>
    match firstN (fun j => opOk md ops rem j && (dropN j rem).all fun i => pairOk md ops kd n j i) rem with
    | some j => .op j (mkTree md ops kd n m (dropN j rem))
    | none => altOf ((rem.filter fun j => opOk md ops rem j).map fun j => .op j (mkTree md ops kd n m (dropN j rem)))

/-- The orders of a region that draws; none: they can't be told. -/
def drawT (P : Program) (cfg : Cfg) (ops : Array Oper) : Option DT :=
  let t := mkTree .any ops (kdOf P cfg) ops.size ops.size (List.range ops.size)
  bif P.follows .mixedOrders && Region.noSelect ops && (ops.toList.all fun o => o.after.toList.all fun e => Nat.blt e.on ops.size) && okD .any ops (kdOf P cfg) ops.size false t (List.range ops.size) then some t else none

def isLoad (o : Oper) : Bool :=
  match o.op with
  | .load .. => true
  | _ => false

/-- In a region that draws: what counts as quiet must be so. -/
def loud (P : Program) (cfg : Cfg) (dr : Bool) (o : Oper) : Bool := dr && (kdOf P cfg o).quiet && !isLoad o

/-- An operation that is carried out: its effect, and what follows. -/
def stepOp (P : Program) (cfg : Cfg) (dr : Bool) (ops : Array Oper) (ro : Ro A) (st : St A) (o : Oper) (k : St A → A.O) : A.O :=
  let put (v : SL A) (st : St A) : A.O := k (st.put o.dst (some (v, none)))
  bif !okDst cfg ops st o.dst then A.oFail ("dst " ++ o.pos) else
  match nowOp P cfg ops ro st o with
  | some (obs, v) => andAll obs (put v st)
  | none => bif loud P cfg dr o then A.oFail ("loud " ++ o.pos) else effOp P cfg ro st (rdOf ro st (keyOk ops ro st none)) o put

/-- A guarded operation: passed over, carried out, carried out under its guard (if it is pure), or: the outermost guard is decided first. -/
def runOps (P : Program) (cfg : Cfg) (dr : Bool) (ops : Array Oper) (ro : Ro A) : Nat → DT → St A → (St A → A.O) → A.O
  | 0, _, _, _ => A.oFail "fuel"
  | _ + 1, .stop, st, k => k (endSt st)
  | n + 1, .alt s t, st, k => A.oAnd (runOps P cfg dr ops ro n s st k) (runOps P cfg dr ops ro n t st k)
  | n + 1, .op i rest, st, k =>
    match ops[i]? with
    | none => A.oFail "operation"
    | some o =>
    match optKS (keyStat ops ro st 50) o.guard, o.guard with
    | .yes, _ => stepOp P cfg dr ops ro st o fun st => runOps P cfg dr ops ro n rest st k
    | .no, _ => bif okDst cfg ops st o.dst then runOps P cfg dr ops ro n rest (st.put o.dst (some (.undef, none))) k else A.oFail ("dst " ++ o.pos)
    | .sym j0, some g =>
      match symOp P cfg ops ro st o g with
      | some (obs, v) =>
        bif okDst cfg ops st o.dst && noSelf ops o.dst g then
          andAll (obs.map (impKey ops ro st 50 g)) (runOps P cfg dr ops ro n rest (st.put o.dst (some (v, some g))) k)
        else A.oFail ("dst " ++ o.pos)
      | none =>
        match dstOf ops j0 with
        | none => A.oFail "guard"
        | some d0 =>
          match ro.get st d0 with
          | some (.one (.sc (.bool b)), _) =>
            A.oAnd (A.oImp b.prop (runOps P cfg dr ops ro n (.op i rest) { st with ov := putA st.ov d0 (some (.one (.sc (.bool (.lit true))), none)) } k))
              (A.oImp b.neg.prop (runOps P cfg dr ops ro n (.op i rest) { st with ov := putA st.ov d0 (some (.one (.sc (.bool (.lit false))), none)) } k))
          | _ => A.oFail "guard"
    | _, _ => A.oFail ("guard " ++ o.pos)

/-! ### Code -/

inductive Ex where
  | normal | exit (id : Nat) | ret

/-- Slots that the code writes. -/
def wrOps : List Oper → List Nat
  | [] => []
  | o :: r => match o.dst with | some d => d :: wrOps r | none => wrOps r
def writes : Code → List Nat
  | .region _ ops _ => wrOps ops.toList
  | .seq a b => writes a ++ writes b
  | .cond _ a b => writes a ++ writes b
  | .block _ a => writes a
  | .loop a => writes a
  | .scope a => writes a
  | _ => []

/-- Does the code never come to an end but by 'return'? -/
def ends : Code → Bool
  | .ret => true
  | .seq a b => ends a || ends b
  | .cond _ a b => ends a && ends b
  | .block _ a => ends a
  | .scope a => ends a
  | _ => false
/-- Slots that are written on ways that do not end by 'return' (a hint). -/
def writesOn : Code → List Nat
  | .region _ ops _ => wrOps ops.toList
  | .seq a b => bif ends a || ends b then [] else writesOn a ++ writesOn b
  | .cond _ a b => writesOn a ++ writesOn b
  | .block _ a => writesOn a
  | .loop a => writesOn a
  | .scope a => writesOn a
  | _ => []
/-- Tracked blocks that are stored to: by slot (a hint: a store's address is a slot that holds the block's pointer, or a field of it). -/
def storeTs : List Oper → List Nat
  | [] => []
  | o :: r => match o.op with
    | .store _ (.tmp a) _ => a :: storeTs r
    | .fieldAddr _ (.tmp a) _ => (match o.dst with | some d => bif memN (storeTs r) d then a :: storeTs r else storeTs r | none => storeTs r)
    | .indexAddr _ (.tmp a) _ => (match o.dst with | some d => bif memN (storeTs r) d then a :: storeTs r else storeTs r | none => storeTs r)
    | _ => storeTs r
def storesOn : Code → List Nat
  | .region _ ops _ => storeTs ops.toList
  | .seq a b => bif ends a || ends b then [] else storesOn a ++ storesOn b
  | .cond _ a b => storesOn a ++ storesOn b
  | .block _ a => storesOn a
  | .loop a => storesOn a
  | .scope a => storesOn a
  | _ => []

def Sc.atom : Sc A → Option (Sh × Atom A.I A.B A.S A.N A.P A.V)
  | .int k n => some (.int k, .int n)
  | .intc k n => some (.int k, .int (A.iLit n))
  | .bool b => some (.bool, .bool b.den)
  | .str s => some (.str, .str s)
  | .slc p l c => some (.slc, .slc p l c)
  | .ptr p => some (.ptr, .ptr p)
  | .val v => some (.val, .val v)
  | .fn f cap => some (.val, .val (A.vFn f cap))
  | .loc .. => none

def ofAtom : Sh → Atom A.I A.B A.S A.N A.P A.V → Option (Sc A)
  | .int k, .int n => some (.int k n)
  | .bool, .bool b => some (.bool (.atom true b))
  | .str, .str s => some (.str s)
  | .slc, .slc p l c => some (.slc p l c)
  | .ptr, .ptr p => some (.ptr p)
  | .val, .val v => some (.val v)
  | _, _ => none

def atomsOf : List (Sc A) → Option (List (Sh × Atom A.I A.B A.S A.N A.P A.V))
  | [] => some []
  | x :: r => match x.atom, atomsOf r with
    | some a, some l => some (a :: l)
    | _, _ => none

def ofAtoms : List Sh → List (Atom A.I A.B A.S A.N A.P A.V) → Option (List (Sc A))
  | [], [] => some []
  | s :: r, a :: l => match ofAtom s a, ofAtoms r l with
    | some x, some l => some (x :: l)
    | _, _ => none
  | _, _ => none

/-- What a loop turns: slots, and tracked blocks. -/
structure Hv where
  slots : List (Nat × Bool × Nat)   -- slot, an aggregate?, how many cells
  blocks : List (Nat × Nat)        -- block, how many cells

def gatherS (ro : Ro A) (st : St A) : List (Nat × Bool × Nat) → Option (List (Sc A))
  | [] => some []
  | (i, agg, n) :: r =>
    match ro.get st i, gatherS ro st r with
    | some (.one (.sc x), none), some l => bif !agg && Nat.beq n 1 then some (x :: l) else none
    | some (.one (.agg cs), none), some l => bif agg && Nat.beq n cs.length then some (cs ++ l) else none
    | _, _ => none
def gatherB (ro : Ro A) (st : St A) : List (Nat × Nat) → Option (List (Sc A))
  | [] => some []
  | (j, n) :: r =>
    match ro.blk st j, gatherB ro st r with
    | some b, some l => bif Nat.beq n b.cells.length then some (b.cells ++ l) else none
    | _, _ => none

def spreadS : List (Nat × Bool × Nat) → List (Sc A) → List (Nat × Option (Ent A)) × List (Sc A)
  | [], l => ([], l)
  | (i, agg, n) :: r, l =>
    let (ov, rest) := spreadS r (dropCells n l)
    match agg, l with
    | true, l => ((i, some (.one (.agg (takeCells n l)), none)) :: ov, rest)
    | false, x :: _ => ((i, some (.one (.sc x), none)) :: ov, rest)
    | false, [] => ((i, none) :: ov, rest)
def spreadB (ro : Ro A) (st : St A) : List (Nat × Nat) → List (Sc A) → List (Nat × Blk A)
  | [], _ => []
  | (j, n) :: r, l =>
    match ro.blk st j with
    | some b => (j, { b with cells := takeCells n l }) :: spreadB ro st r (dropCells n l)
    | none => spreadB ro st r (dropCells n l)

/-- The whole frame, as it is now. -/
def allSlots (n : Nat) (ro : Ro A) (st : St A) : List (Nat × SL A) :=
  (List.range n).filterMap fun i => match ro.get st i with
    | some (v, none) => some (i, v)
    | _ => none
def allBlks (ro : Ro A) (st : St A) : List (Nat × Blk A) :=
  (List.range st.nx).filterMap fun j => (ro.blk st j).map fun b => (j, b)

def nub : List Nat → List Nat
  | [] => []
  | x :: r => let l := nub r; bif memN l x then l else x :: l

def hvOf (ro : Ro A) (st : St A) (body : Code) : Hv :=
  let ws := nub (writesOn body)
  let ss := nub (storesOn body)
  { slots := ws.filterMap fun i => match ro.get st i with
      | some (.one (.sc (.loc ..)), none) => none
      | some (.one (.sc _), none) => some (i, false, 1)
      | some (.one (.agg cs), none) => some (i, true, cs.length)
      | _ => none
    blocks := nub (ss.filterMap fun i => match ro.get st i with | some (.one (.sc (.loc j _ _)), none) => some j | _ => none) |>.filterMap fun j => (ro.blk st j).map fun b => (j, b.cells.length) }

def hvNames (cfg : Cfg) (hv : Hv) : List String :=
  (hv.slots.flatMap fun x => List.replicate x.2.2 (match cfg.names[x.1]? with | some n => bif n == "" then "k" else n | none => "k")) ++
    (hv.blocks.flatMap fun x => List.replicate x.2 "c")

def shEq : Sh → Sh → Bool
  | .int k, .int j => kEq k j
  | .bool, .bool | .str, .str | .slc, .slc | .ptr, .ptr | .val, .val => true
  | _, _ => false
def shEqs : List Sh → List Sh → Bool
  | [], [] => true
  | a :: r, b :: s => shEq a b && shEqs r s
  | _, _ => false

def keysOf {α : Type} (l : List (Nat × α)) : List Nat := l.map (·.1)

def loopOv (hv : Hv) (body : Code) (cs : List (Sc A)) : List (Nat × Option (Ent A)) × List (Sc A) :=
  let (ov, rest) := spreadS hv.slots cs
  (ov ++ (nub (writes body)).filterMap fun i => (bif memN (keysOf ov) i then none else some (i, none)), rest)

/-- The slots and blocks as they are when the loop is entered. -/
def loopRo (cfg : Cfg) (ro : Ro A) (st : St A) : Ro A := { sl := allSlots cfg.N ro st, bl := allBlks ro st }

def loopDirty (hv : Hv) (st : St A) : List Nat := keysOf hv.blocks ++ st.dirty

/-- At the head of a round. -/
def loopHead (ro : Ro A) (st : St A) (hv : Hv) (body : Code) (cs : List (Sc A)) (w : A.W) : St A :=
  let l := loopOv hv body cs
  { ov := l.1, bl := spreadB ro st hv.blocks l.2, nx := st.nx, anchor := w, ax := st.nx, dirty := loopDirty hv st }

def gather (ro : Ro A) (st : St A) (hv : Hv) : Option (List (Sc A)) :=
  (gatherS ro st hv.slots).bind fun ss => (gatherB ro st hv.blocks).map fun bs => ss ++ bs

/-- At the end of a round: what is carried on. -/
def loopBack (hv : Hv) (st head : St A) (shs : List Sh) (rh : Ro A) (st' : St A) : Option (List (Atom A.I A.B A.S A.N A.P A.V)) :=
  (gather rh st' hv).bind fun l => (atomsOf l).bind fun al =>
    bif shEqs (al.map (·.1)) shs && (st'.bl.all fun x => Nat.ble st.nx x.1 || memN (keysOf hv.blocks) x.1) &&
      (st'.ov.all fun x => memN (keysOf head.ov) x.1) && (st'.dirty.all fun j => memN (loopDirty hv st) j && Nat.blt j st.nx) then some (al.map (·.2)) else none

/-- Behind the loop: the outer slots and blocks, under those of the round. -/
def loopExit (st st' : St A) : St A :=
  { ov := st'.ov ++ (st.ov.filter fun x => !memN (keysOf st'.ov) x.1), bl := st'.bl ++ (st.bl.filter fun x => !memN (keysOf st'.bl) x.1),
    nx := st'.nx, anchor := st'.anchor, ax := st'.ax, dirty := st'.dirty }

def dupFree : List Nat → Bool
  | [] => true
  | x :: r => !memN r x && dupFree r

def seqK (k : Ex → St A → A.O) (next : St A → A.O) : Ex → St A → A.O
  | .normal, st => next st
  | e, st => k e st

def blockK (id : Nat) (k : Ex → St A → A.O) : Ex → St A → A.O
  | .exit i, st => bif Nat.beq i id then k .normal st else k (.exit i) st
  | e, st => k e st

def orFail {α : Type} (f : α → A.O) : Option α → A.O
  | some x => f x
  | none => A.oFail "loop"

def roundK (cfg : Cfg) (ro : Ro A) (st : St A) (hv : Hv) (body : Code) (shs : List Sh) (cs : List (Sc A)) (w : A.W)
    (back : List (Atom A.I A.B A.S A.N A.P A.V) → A.W → A.O) (k : Ex → St A → A.O) : Ex → St A → A.O
  | .normal, st' =>
    match loopBack hv st (loopHead ro st hv body cs w) shs (loopRo cfg ro st) st' with
    | some vs => back vs st'.anchor
    | none => A.oFail "loop back"
  | e, st' => k e (loopExit st st')

/-- What is carried on behind a region that was run through in several orders: variables (a hint). -/
def keptDst (cfg : Cfg) (o : Oper) : Option (Nat × TypeId) :=
  match o.dst with
  | some d =>
    match o.op with
    | .assign _ | .alloc _ | .box _ _ => some (d, o.type)
    | _ => bif (match look cfg.joins 999999 with | some l => memN l d | none => false) then some (d, o.type) else
      match cfg.names[d]? with
      | some n => bif n == "" then none else some (d, o.type)
      | none => none
  | none => none

def hvSlots (P : Program) (cfg : Cfg) : List Oper → List (Nat × Bool × Nat)
  | [] => []
  | o :: r =>
    let l := hvSlots P cfg r
    match keptDst cfg o with
    | some (d, t) => bif memN (keysOf l) d then l else (d, isAggT P t, bif isAggT P t then (shsOf P 6 t).length else 1) :: l
    | none => l

def hvJoin (P : Program) (cfg : Cfg) (ro : Ro A) (st : St A) (ops : Array Oper) : Hv :=
  { slots := hvSlots P cfg ops.toList
    blocks := (nub ((nub (storeTs ops.toList)).filterMap fun i => match ro.get st i with | some (.one (.sc (.loc j _ _)), none) => some j | _ => none)).filterMap fun j => (ro.blk st j).map fun b => (j, b.cells.length) }

def tyOf (ops : List Oper) (d : Nat) : TypeId :=
  match ops with
  | [] => 0
  | o :: r => match o.dst with
    | some e => bif Nat.beq e d then (match o.op with | .alloc _ | .box _ _ => 1000000 | _ => o.type) else tyOf r d
    | none => tyOf r d

/-- The shapes of what is carried on (a hint: each order's end is held against them). -/
def hvShs (P : Program) (ro : Ro A) (st : St A) (hv : Hv) (ops : Array Oper) : List Sh :=
  (hv.slots.flatMap fun x => let t := tyOf ops.toList x.1; bif Nat.beq t 1000000 then [.ptr] else bif x.2.1 then shsOf P 6 t else [shOf P t]) ++
    hv.blocks.flatMap fun x => match ro.blk st x.1 with | some b => b.cells.filterMap fun c => c.atom.map (·.1) | none => []

def joinK (cfg : Cfg) (ro : Ro A) (st : St A) (hv : Hv) (body : Code) (shs : List Sh) (pos : String) (leave : List (Atom A.I A.B A.S A.N A.P A.V) → A.W → A.O) (st' : St A) : A.O :=
  match loopBack hv st (loopHead ro st hv body [] st.anchor) shs (loopRo cfg ro st) st' with
  | some vs => leave vs st'.anchor
  | none => A.oFail pos

/-- All operations of a code. -/
def opsOf : Code → List Oper
  | .region _ ops _ => ops.toList
  | .seq a b => opsOf a ++ opsOf b
  | .cond _ a b => opsOf a ++ opsOf b
  | .block _ a => opsOf a
  | .loop a => opsOf a
  | .scope a => opsOf a
  | _ => []

/-- What is carried on behind a block where ways meet: the slots that are named, and tracked blocks that are stored to. -/
def hvBlock (P : Program) (ro : Ro A) (st : St A) (l : List Nat) (ops : List Oper) : Hv :=
  { slots := l.map fun d => let t := tyOf ops d; (d, isAggT P t, bif isAggT P t then (shsOf P 6 t).length else 1)
    blocks := (nub ((nub (storeTs ops)).filterMap fun i => match ro.get st i with | some (.one (.sc (.loc j _ _)), none) => some j | _ => none)).filterMap fun j => (ro.blk st j).map fun b => (j, b.cells.length) }

/-- At the end of a block where ways meet. -/
def blockJ (cfg : Cfg) (ro : Ro A) (st : St A) (hv : Hv) (body : Code) (shs : List Sh) (id : Nat) (leave : List (Atom A.I A.B A.S A.N A.P A.V) → A.W → A.O) (k : Ex → St A → A.O) : Ex → St A → A.O
  | .normal, st' => joinK cfg ro st hv body shs "block back" leave st'
  | .exit i, st' => bif Nat.beq i id then joinK cfg ro st hv body shs "block back" leave st' else k (.exit i) (loopExit st st')
  | .ret, st' => k .ret (loopExit st st')

def sx (P : Program) (cfg : Cfg) : Code → Ro A → St A → (Ex → St A → A.O) → A.O
  | .skip, _, st, k => k .normal st
  | .label _, _, st, k => k .normal st
  | .exit id, _, st, k => k (.exit id) st
  | .ret, _, st, k => k .ret st
  | .seq a b, ro, st, k => sx P cfg a ro st (seqK k fun st => sx P cfg b ro st k)
  | .cond c a b, ro, st, k =>
    match sc? (rdOf ro st (keyOk #[] ro st none) c) with
    | some (.bool t) =>
      match t with
      | .lit true => sx P cfg a ro st k
      | .lit false => sx P cfg b ro st k
      | t => A.oAnd (A.oImp t.prop (sx P cfg a ro st k)) (A.oImp t.neg.prop (sx P cfg b ro st k))
    | _ => A.oFail "cond"
  | .block id a, ro, st, k =>
    match look cfg.joins id with
    | none => sx P cfg a ro st (blockK id k)
    | some l =>
      let ops := opsOf a
      let hv := hvBlock P ro st l ops
      let shs := hvShs P ro st hv ops.toArray
      bif !(dupFree (keysOf hv.slots) && dupFree (keysOf hv.blocks) && hv.blocks.all fun x => (ro.blk st x.1).isSome) then A.oFail "join keys" else
      A.join (List.zip (hvNames cfg hv) shs)
        (fun leave => sx P cfg a (loopRo cfg ro st) (loopHead ro st ⟨[], []⟩ .skip [] st.anchor) (blockJ cfg ro st hv a shs id leave k))
        (fun vars w => orFail (fun cs => k .normal (loopExit st (loopHead ro st hv a cs w))) (ofAtoms shs vars))
  | .region id ops draw, ro, st, k =>
    let fuel := 4 * ops.size + 4 + ops.size * ops.size
    bif draw then
      match drawT P cfg ops with
      | some t =>
        bif t.hasAlt then
          let hv := hvJoin P cfg ro st ops
          let shs := hvShs P ro st hv ops
          bif !(dupFree (keysOf hv.slots) && dupFree (keysOf hv.blocks) && hv.blocks.all fun x => (ro.blk st x.1).isSome) then A.oFail "join keys" else
          A.join (List.zip (hvNames cfg hv) shs)
            (fun leave => runOps P cfg true ops (loopRo cfg ro st) fuel t (loopHead ro st ⟨[], []⟩ .skip [] st.anchor) (joinK cfg ro st hv (.region id ops draw) shs ("join back " ++ match ops[0]? with | some o => o.pos | none => "") leave))
            (fun vars w => orFail (fun cs => k .normal (loopExit st (loopHead ro st hv (.region id ops draw) cs w))) (ofAtoms shs vars))
        else runOps P cfg true ops ro fuel t st (fun st => k .normal st)
      | none => A.oFail ("draw " ++ match ops[0]? with | some o => o.pos | none => "")
    else runOps P cfg false ops ro fuel (.chain (List.range ops.size)) st (fun st => k .normal st)
  | .loop body, ro, st, k =>
    let hv := hvOf ro st body
    match (gather ro st hv).bind atomsOf with
    | none => A.oFail "loop slots"
    | some al =>
      let shs := al.map (·.1)
      bif !(dupFree (keysOf hv.slots) && dupFree (keysOf hv.blocks)) then A.oFail "loop keys" else
      A.loop (List.zip (hvNames cfg hv) shs) (al.map (·.2)) st.anchor fun back vars w =>
        orFail (fun cs => sx P cfg body (loopRo cfg ro st) (loopHead ro st hv body cs w) (roundK cfg ro st hv body shs cs w back k)) (ofAtoms shs vars)
  | .scope _, _, _, _ => A.oFail "scope"
  | .rangeFunc .., _, _, _ => A.oFail "rangeFunc"
  | .goto _, _, _, _ => A.oFail "goto"
  | .refuse _, _, _, _ => A.oFail "refuse"
end Go.Sx
