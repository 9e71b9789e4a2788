/- The semantic instance of the executor's algebra. -/
import Derived.Test.YtblgmhmjafgdgaaSx
set_option linter.unusedVariables false
namespace Go.Sx
open RowKit

def Ext (w w' : World) : Prop := Below w.heap.size w w'

structure But (ds : List Nat) (w w' : World) : Prop where
  os : w'.os = w.os
  tape : w'.tape = w.tape
  output : w'.output = w.output
  size : w.heap.size ≤ w'.heap.size
  block : ∀ k, k < w.heap.size → k ∉ ds → w'.heap[k]? = w.heap[k]?

structure ExtB (ds ns : List Nat) (w w' : World) : Prop extends But ds w w' where
  lt : ∀ b ∈ ns, b < w'.heap.size

def Kept (ns : List Nat) (w w' : World) : Prop := ∀ b ∈ ns, w'.heap[b]? = w.heap[b]?

def InR (k : IntKind) (x : Int) : Prop := k.min ≤ x ∧ x ≤ k.max
def CatOk (x y : ByteArray) : Prop := x.size + y.size ≤ 9223372036854775807
def sLt (x y : ByteArray) : Bool := Op.bytesLess x.toList y.toList
def sAt (s : ByteArray) (i : Int) : Int := ((s.data.toList.getD i.toNat 0).toNat : Int)
def pAdd (p : Option Addr) (n : Nat) : Option Addr := p.map (·.add n)
def pIdx (p : Option Addr) (i : Int) (n : Nat) : Option Addr := p.map (·.add (i.toNat * n))
def pCut (p : Option Addr) (cap : Nat) (l : Int) (n : Nat) : Option Addr := if cap = l.toNat then p else p.map (·.add (l.toNat * n))
def cell (w : World) (p : Option Addr) (i : Nat) : Option Value := p.bind fun a => w.cell? (a.add i)
def Free (ds : List Nat) (p : Option Addr) : Prop := ∀ b ∈ ds, ∀ a, p = some a → a.block ≠ b
/-- A big value is read from memory, cell by cell. -/
def CellsAre (ds : List Nat) (w : World) (p : Option Addr) (n : Nat) (v : Value) : Prop :=
  ∃ cs : List Value, v = .agg cs.toArray ∧ cs.length = n ∧ (∀ j u, cs[j]? = some u → cell w p j = some u) ∧ Free ds p ∧ p ≠ none
def sxFail : Prop := False

def iBit (op : BinOp) (k : IntKind) (x y : Int) : Int :=
  match op with
  | .and => k.wrap ((BitVec.ofInt k.bits x &&& BitVec.ofInt k.bits y).toNat : Int)
  | .or => k.wrap ((BitVec.ofInt k.bits x ||| BitVec.ofInt k.bits y).toNat : Int)
  | .xor => k.wrap ((BitVec.ofInt k.bits x ^^^ BitVec.ofInt k.bits y).toNat : Int)
  | .andNot => k.wrap ((BitVec.ofInt k.bits x &&& ~~~ BitVec.ofInt k.bits y).toNat : Int)
  | .shl => k.wrap (x * 2 ^ (min y.toNat k.bits))
  | .shr => x.fdiv (2 ^ (min y.toNat k.bits))
  | _ => 0

def iBinS (op : BinOp) (k : IntKind) (w : Bool) (x y : Int) : Int :=
  match op, w with
  | .add, false => x + y
  | .sub, false => x - y
  | .mul, false => x * y
  | .quo, false => x.tdiv y
  | .add, true => k.wrap (x + y)
  | .sub, true => k.wrap (x - y)
  | .mul, true => k.wrap (x * y)
  | .quo, true => k.wrap (x.tdiv y)
  | .rem, _ => x.tmod y
  | op, _ => iBit op k x y

/-- The function is entered by a call (it has a body of its own). -/
def Enters (P : Program) (f : FuncId) : Prop := ∀ args w, (callFunc f args).run P w = .ok (.enter f args) w

def FnP (P : Program) (f : FuncId) (args : Array Value) (w : World) (K : Value → World → Prop) : Prop :=
  Enters P f ∧ Calls P f args w fun e w' => ∃ v, e = .returned v ∧ K v w'

theorem FnP.mono {P : Program} {f : FuncId} {args : Array Value} {w : World} {K K' : Value → World → Prop} (h : FnP P f args w K) (hk : ∀ v w', K v w' → K' v w') : FnP P f args w K' :=
  ⟨h.1, h.2.mono fun e w' ⟨v, he, hv⟩ => ⟨v, he, hk _ _ hv⟩⟩

def FnVP (P : Program) (v : Value) (args : List Value) (w : World) (K : Value → World → Prop) : Prop :=
  ∃ f cap, v = .func (.func f) #[] cap ∧ FnP P f (args.toArray ++ cap) w K

/-- As FnVP; the function value may have its first arguments bound (a method value). -/
def FnVB (P : Program) (v : Value) (args : List Value) (w : World) (K : Value → World → Prop) : Prop :=
  ∃ f bd cap, v = .func (.func f) bd cap ∧ FnP P f (bd ++ args.toArray ++ cap) w K

/-- A method called through an interface value: the value is one of a type that has the method, and the method's run is told. -/
def InvP (P : Program) (m : String) (v : Value) (args : List Value) (w : World) (K : Value → World → Prop) : Prop :=
  ∃ t x f r, v = .iface t x ∧ (method (P.types.size + Made.depth) t x m).run P w = .ok (f, r) w ∧ FnP P f (#[r] ++ args.toArray) w K

def opd (c : Bool) : Operand := if c then .const undef else .tmp 0

def MC.sem : MC Value → Sem Value
  | .makeSlice t l c => Instr.makeSlice t l c
  | .append ats t xs => Builtin.append_ ats t xs.toArray
  | .copy ats t xs => Builtin.copy_ ats t xs.toArray
  | .delete ats t xs => Builtin.delete_ ats t xs.toArray
  | .clear ats t xs => Builtin.clear_ ats t xs.toArray
  | .len ats t xs => Builtin.len_ ats t xs.toArray
  | .lookup t m k ok => Instr.lookup t m k ok
  | .mapUpdate t m k x => do Instr.mapUpdate t m k x; pure undef
  | .makeMap t => Instr.makeMap t none
  | .range t x => Instr.range t x
  | .next it s t => Instr.next it s t
  | .entry it => Instr.entry it
  | .extract x i => Instr.extract x i
  | .convert a b x => Go.convert a b x
  | .eq op t cx cy x y => do eqGuard op t (opd cx) (opd cy) x y; Go.binOp op t x y
  | .buildSlice t n ps => Instr.buildSlice t n ps.toArray
  | .makeInterface t x => Instr.makeInterface t x
  | .typeAssert x t u ok => Instr.typeAssert x t u ok
  | .index t x i => Instr.index t x i
  | .slice t x lo hi mx => Instr.sliceAt t x lo hi mx

def Run (P : Program) (m : MC Value) (w : World) (K : Value → World → Prop) : Prop :=
  ∃ v w', m.sem.run P w = .ok v w' ∧ K v w'

def setCells (w : World) (a : Addr) : List Value → Nat → World
  | [], _ => w
  | v :: r, i => setCells (w.setCell (a.add i) v) a r (i + 1)

structure StoreOk (w : World) (p : Option Addr) (vs : List Value) (ns : List Nat) : Prop where
  some : p ≠ none
  cells : ∀ i, i < vs.length → (cell w p i).isSome = true
  free : ∀ i, i < vs.length → ∀ a, p = .some a → w.frozen? (a.add i) = false
  apart : Free ns p
  one : ∀ v ∈ vs, v.oneCell' = true

def Store (w : World) (p : Option Addr) (vs : List Value) (ns : List Nat) (K : World → Prop) : Prop :=
  StoreOk w p vs ns ∧ ∀ w', w' = setCells w (p.getD default) vs 0 → K w'

structure NewOk (w : World) (t : TypeId) (vs : List Value) (p : Option Addr) (w' : World) : Prop where
  at_ : p = some ⟨w.heap.size, 0, none⟩
  is : w' = w.alloc (.cells vs.toArray t)
  ext : Ext w w'
  size : w'.heap.size = w.heap.size + 1
  block : w'.heap[w.heap.size]? = some (.cells vs.toArray t)

def New (w : World) (t : TypeId) (vs : List Value) (K : Option Addr → World → Prop) : Prop :=
  (∀ v ∈ vs, v.oneCell' = true) ∧ ∀ p w', NewOk w t vs p w' → K p w'

def InvT : List Sh → Type → Type
  | [], R => World → R
  | .int _ :: r, R => Int → InvT r R
  | .bool :: r, R => Bool → InvT r R
  | .str :: r, R => ByteArray → InvT r R
  | .slc :: r, R => Option Addr → Nat → Nat → InvT r R
  | .ptr :: r, R => Option Addr → InvT r R
  | .val :: r, R => Value → InvT r R

abbrev At := Atom Int Bool ByteArray Nat (Option Addr) Value

def appT {R : Type} (d : R) : (l : List Sh) → InvT l R → List At → World → R
  | [], f, [], w => f w
  | .int _ :: r, f, .int n :: l, w => appT d r (f n) l w
  | .bool :: r, f, .bool b :: l, w => appT d r (f b) l w
  | .str :: r, f, .str s :: l, w => appT d r (f s) l w
  | .slc :: r, f, .slc p n c :: l, w => appT d r (f p n c) l w
  | .ptr :: r, f, .ptr p :: l, w => appT d r (f p) l w
  | .val :: r, f, .val v :: l, w => appT d r (f v) l w
  | _, _, _, _ => d

def allT : List Sh → (List At → Prop) → Prop
  | [], f => f []
  | .int _ :: r, f => ∀ n : Int, allT r fun l => f (.int n :: l)
  | .bool :: r, f => ∀ b : Bool, allT r fun l => f (.bool b :: l)
  | .str :: r, f => ∀ s : ByteArray, allT r fun l => f (.str s :: l)
  | .slc :: r, f => ∀ (p : Option Addr) (n c : Nat), allT r fun l => f (.slc p n c :: l)
  | .ptr :: r, f => ∀ p : Option Addr, allT r fun l => f (.ptr p :: l)
  | .val :: r, f => ∀ v : Value, allT r fun l => f (.val v :: l)

def cmpB (op : Cmp) (x y : Int) : Bool :=
  match op with
  | .eql => decide (x = y) | .neq => decide (x ≠ y) | .lss => decide (x < y) | .leq => decide (x ≤ y) | .gtr => decide (y < x) | .geq => decide (y ≤ x)
def cmpQ (op : Cmp) (x y : Int) : Prop :=
  match op with
  | .eql => x = y | .neq => x ≠ y | .lss => x < y | .leq => x ≤ y | .gtr => y < x | .geq => y ≤ x
def scmpB (op : Cmp) (x y : ByteArray) : Bool :=
  match op with
  | .eql => decide (x = y) | .neq => decide (x ≠ y) | .lss => decide (sLt x y = true) | .geq => decide (sLt x y = false) | .gtr => decide (sLt y x = true) | .leq => decide (sLt y x = false)
def scmpQ (op : Cmp) (x y : ByteArray) : Prop :=
  match op with
  | .eql => x = y | .neq => x ≠ y | .lss => sLt x y = true | .geq => sLt x y = false | .gtr => sLt y x = true | .leq => sLt y x = false

@[reducible] def sem (P : Program) (Q : Value → World → Prop) : Alg where
  I := Int
  B := Bool
  Q := Prop
  S := ByteArray
  N := Nat
  P := Option Addr
  V := Value
  W := World
  O := Prop
  iLit n := n
  iBin := iBinS
  iConv k n := k.wrap n
  iN n := (n : Int)
  iLen s := (s.size : Int)
  iAt := sAt
  iMin x y := min x y
  iMax x y := max x y
  iIte b x y := bif b then x else y
  bLit b := b
  bCmp := cmpB
  bSCmp := scmpB
  bNilP p := p.isNone
  bNot b := !b
  bAnd x y := x && y
  bOr x y := x || y
  bIte b x y := bif b then x else y
  qLit b := if b then True else False
  qCmp := cmpQ
  qSCmp := scmpQ
  qNilP is p := if is then p = none else p ≠ none
  qAtom is b := b = is
  qAnd x y := x ∧ y
  qOr x y := x ∨ y
  sLit s := s
  sCat x y := x ++ y
  sSub s l h := s.extract l.toNat h.toNat
  sIte b x y := bif b then x else y
  nLit n := n
  nI n := n.toNat
  nSub n i := n - i.toNat
  pNil := none
  pAt b n := some ⟨b, n, none⟩
  pAdd := pAdd
  pIdx := pIdx
  pCut := pCut
  vInt k n := .int k n
  vBool b := .bool b
  vStr s := .string s
  vSlc p l c := .slice p l c
  vPtr p := .pointer p
  vAgg l := .agg l.toArray
  vTup l := .tuple l.toArray
  vFn f l := .func (.func f) #[] l.toArray
  vLit v := v
  vIte b x y := bif b then x else y
  oTrue := True
  oFail _ := sxFail
  oAnd x y := x ∧ y
  oImp q x := q → x
  oRange := InR
  oNe0 x := x ≠ 0
  oNonneg x := 0 ≤ x
  oLe x y := x ≤ y
  oLt x y := x < y
  oSome p := p ≠ none
  oCat := CatOk
  oEqV x y := x = y
  oExt := Ext
  oKept := Kept
  oCell ds w p k v := match ds with | [] => cell w p k = some v | ds => cell w p k = some v ∧ Free ds p
  oCells := CellsAre
  exI _ f := ∃ x, f x
  exB _ f := ∃ x, f x
  exS _ f := ∃ x, f x
  exN _ f := ∃ x, f x
  exP _ f := ∃ x, f x
  exV _ f := ∃ x, f x
  allExt ds ns w f := match ds, ns with
    | [], [] => ∀ w', Ext w w' → f w'
    | ds, ns => ∀ w', ExtB ds ns w w' → f w'
  allNum w f := ∀ b, w.heap.size ≤ b → f b
  oFn f args w k := FnP P f args.toArray w k
  oFnV v args w k := FnVP P v args w k
  oFnB v args w k := FnVB P v args w k
  oInv m v args w k := InvP P m v args w k
  oRun m w k := Run P m w k
  oStore w p vs ns f := Store w p vs ns f
  oOne v := v.oneCell' = true
  oNew w t vs f := New w t vs f
  oRet v w := Q v w
  loop shs init w body :=
    ∃ (I : InvT (shs.map (·.2)) Prop) (M : InvT (shs.map (·.2)) Nat), appT False (shs.map (·.2)) I init w ∧
      allT (shs.map (·.2)) fun vs => ∀ w' : World, appT False (shs.map (·.2)) I vs w' →
        body (fun vs' w'' => appT False (shs.map (·.2)) I vs' w'' ∧ appT 0 (shs.map (·.2)) M vs' w'' < appT 0 (shs.map (·.2)) M vs w') vs w'
  join shs br body :=
    ∃ (I : InvT (shs.map (·.2)) Prop), br (fun vs w => appT False (shs.map (·.2)) I vs w) ∧
      allT (shs.map (·.2)) fun vs => ∀ w' : World, appT False (shs.map (·.2)) I vs w' → body vs w'

end Go.Sx

namespace Go.Sx
/-- How a function begins, and ends. -/
def st0 {A : Alg} (ps : List (SV A)) (w : A.W) : St A :=
  { ov := ps.zipIdx.map fun x => (x.2, some (.one x.1, none)), bl := [], nx := 0, anchor := w, ax := 0, dirty := [] }

def resOf {A : Alg} (P : Program) (ro : Ro A) (st : St A) : List ResultVar → Option (List (SV A))
  | [] => some []
  | .tmp t :: r =>
    match one? ((ro.get st t).bind fun e => match e.2 with | none => some e.1 | some _ => none), resOf P ro st r with
    | some v, some l => some (v :: l)
    | _, _ => none
  | .cell a t :: r =>
    match sc? ((ro.get st a).bind fun e => match e.2 with | none => some e.1 | some _ => none), resOf P ro st r with
    | some (.loc j _ off), some l =>
      match ro.blk st j with
      | some b => match partOf P t b.cells off with
        | some v => bif Nat.beq v.cells.length (P.cellsOf t) then some (v :: l) else none
        | none => none
      | none => none
    | _, _ => none

def retNode {A : Alg} (P : Program) (fn : Func) (ro : Ro A) (st : St A) : A.O :=
  match resOf P ro st fn.results.toList with
  | some l => bif l.all noLocV then A.allExt (ro.dn st) [] st.anchor fun w => A.oRet (resultOf l).toV w else A.oFail "results escape"
  | none => A.oFail "results"

def fnNode {A : Alg} (P : Program) (cfg : Cfg) (fn : Func) (c : Code) (ps : List (SV A)) (w : A.W) : A.O :=
  sx P cfg c { sl := [], bl := [] } (st0 ps w) fun e st => match e with
    | .exit _ => A.oFail "exit"
    | _ => retNode P fn { sl := [], bl := [] } st
end Go.Sx
