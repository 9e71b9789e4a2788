/- The executor's theorem. -/
import Derived.Test.YtblgmhmjafgdgaaSxS
set_option linter.unusedVariables false
set_option linter.unusedSimpArgs false
namespace Go.Sx
open RowKit
variable {P : Program} {Q : Value → World → Prop}

/-! ### Literals, tests -/

@[simp] theorem toV_int (k : IntKind) (n : Int) : (Sc.int k n : Sc (sem P Q)).toV = Value.int k n := rfl
@[simp] theorem toV_intc (k : IntKind) (n : Int) : (Sc.intc k n : Sc (sem P Q)).toV = Value.int k n := rfl
@[simp] theorem toV_bool (b : BE (sem P Q)) : (Sc.bool b : Sc (sem P Q)).toV = Value.bool b.den := rfl
@[simp] theorem toV_str (s : ByteArray) : (Sc.str s : Sc (sem P Q)).toV = Value.string s := rfl
@[simp] theorem toV_slc (p : Option Addr) (l c : Nat) : (Sc.slc p l c : Sc (sem P Q)).toV = Value.slice p l c := rfl
@[simp] theorem toV_ptr (p : Option Addr) : (Sc.ptr p : Sc (sem P Q)).toV = Value.pointer p := rfl
@[simp] theorem toV_loc (j b off : Nat) : (Sc.loc j b off : Sc (sem P Q)).toV = Value.pointer (some ⟨b, off, none⟩) := rfl
@[simp] theorem toV_fn (f : Nat) (cap : List Value) : (Sc.fn f cap : Sc (sem P Q)).toV = Value.func (.func f) #[] cap.toArray := rfl
@[simp] theorem toV_val (v : Value) : (Sc.val v : Sc (sem P Q)).toV = v := rfl
@[simp] theorem toV_sc (x : Sc (sem P Q)) : (SV.sc x).toV = x.toV := rfl
@[simp] theorem toV_agg (l : List (Sc (sem P Q))) : (SV.agg l).toV = Value.agg (l.map Sc.toV).toArray := rfl
@[simp] theorem toV_one (v : SV (sem P Q)) : (SL.one v).toV = v.toV := rfl
@[simp] theorem toV_tup (l : List (SV (sem P Q))) : (SL.tup l).toV = Value.tuple (l.map SV.toV).toArray := rfl
@[simp] theorem toV_undef : (SL.undef : SL (sem P Q)).toV = undef := rfl

theorem toV_ofValue (v : Value) : (ofValue v : Sc (sem P Q)).toV = v := by
  unfold ofValue
  split <;> rfl

theorem toV_ofValueV (v : Value) : (ofValueV v : SV (sem P Q)).toV = v := by
  unfold ofValueV
  split
  · rename_i cs
    simp only [toV_agg, List.map_map]
    congr 1
    have : (Sc.toV ∘ (ofValue : Value → Sc (sem P Q))) = id := funext fun x => toV_ofValue x
    rw [this]; simp
  · exact toV_ofValue _

theorem den_neg : ∀ b : BE (sem P Q), b.neg.den = !b.den
  | .lit b => rfl
  | .cmp op x y => by
    show cmpB (flip op) x y = !cmpB op x y
    cases op <;> simp [flip, cmpB] <;> (try (rw [Bool.eq_iff_iff]; simp))
  | .scmp op x y => by
    show scmpB (flip op) x y = !scmpB op x y
    cases op <;> simp [flip, scmpB]
  | .nilp is p => by cases is <;> show _ = !_ <;> simp [BE.neg, BE.den]
  | .atom is b => by cases is <;> show _ = !_ <;> simp [BE.neg, BE.den]
  | .and x y => by
    show (x.neg.den || y.neg.den) = !(x.den && y.den)
    rw [den_neg x, den_neg y]; simp
  | .or x y => by
    show (x.neg.den && y.neg.den) = !(x.den || y.den)
    rw [den_neg x, den_neg y]; simp

theorem prop_iff : ∀ b : BE (sem P Q), b.prop ↔ b.den = true
  | .lit b => by cases b <;> simp [BE.prop, BE.den]
  | .cmp op x y => by
    show cmpQ op x y ↔ cmpB op x y = true
    cases op <;> simp [cmpQ, cmpB]
  | .scmp op x y => by
    show scmpQ op x y ↔ scmpB op x y = true
    cases op <;> simp [scmpQ, scmpB]
  | .nilp is p => by cases is <;> cases p <;> simp [BE.prop, BE.den]
  | .atom is b => by cases is <;> simp [BE.prop, BE.den]
  | .and x y => by
    show (x.prop ∧ y.prop) ↔ (x.den && y.den) = true
    rw [prop_iff x, prop_iff y]; simp
  | .or x y => by
    show (x.prop ∨ y.prop) ↔ (x.den || y.den) = true
    rw [prop_iff x, prop_iff y]; simp

theorem den_mkAnd (x y : BE (sem P Q)) : (x.mkAnd y).den = (x.den && y.den) := by
  unfold BE.mkAnd
  split
  · show _ = (true && _); simp
  · show false = (false && _); simp
  · show _ = (_ && true); simp
  · rfl

theorem den_mkOr (x y : BE (sem P Q)) : (x.mkOr y).den = (x.den || y.den) := by
  unfold BE.mkOr
  split
  · show _ = (false || _); simp
  · show true = (true || _); simp
  · show _ = (_ || false); simp
  · rfl

theorem wrap_inR {k : IntKind} {x : Int} (h : InR k x) : k.wrap x = x := by
  obtain ⟨h1, h2⟩ := h
  cases k <;> simp [IntKind.min, IntKind.max, IntKind.signed, IntKind.bits] at h1 h2 <;>
    simp [IntKind.wrap, IntKind.signed, IntKind.bits] <;> omega

theorem kEq_eq {j k : IntKind} (h : kEq j k = true) : j = k := by
  cases j <;> cases k <;> first | rfl | (simp [kEq] at h)

theorem asI_some {x : Sc (sem P Q)} {k : IntKind} {n : Int} (h : x.asI = some (k, n)) : x.toV = Value.int k n := by
  cases x <;> simp [Sc.asI] at h
  · obtain ⟨rfl, rfl⟩ := h; rfl
  · obtain ⟨rfl, rfl⟩ := h; rfl

/-! ### Operations on values -/

def All : List Prop → Prop
  | [] => True
  | o :: r => o ∧ All r

theorem All_append : ∀ (l r : List Prop), All (l ++ r) ↔ (All l ∧ All r)
  | [], r => by simp [All]
  | o :: l, r => by simp [All, All_append l r, and_assoc]

theorem andAll_iff : ∀ (l : List Prop) (k : Prop), (andAll (A := sem P Q) l k : Prop) ↔ (All l ∧ k)
  | [], k => by simp [andAll, All]
  | o :: r, k => by
    show (o ∧ andAll (A := sem P Q) r k) ↔ _
    rw [andAll_iff r k]
    simp only [All, and_assoc]

theorem ba_eq (x y : ByteArray) : (x.toList == y.toList) = decide (x = y) := by
  rw [Bool.eq_iff_iff]
  simp only [beq_iff_eq, decide_eq_true_eq]
  constructor
  · intro h
    have h' : x.data.toList = y.data.toList := by simpa [ByteArray.toList_eq] using h
    cases x; cases y; simp_all
  · rintro rfl; rfl

theorem run_cmp_int (op : BinOp) (c : Cmp) (h : toCmp op = some c) (t : TypeId) (k : IntKind) (a b : Int) (w : World) :
    (binOp op t (.int k a) (.int k b)).run P w = .ok (.bool (cmpB c a b)) w := by
  cases op <;> simp [toCmp] at h <;> subst h <;> simp [binOp, Op.intCmp, cmpB] <;> first | rfl | (rw [Bool.eq_iff_iff]; simp)

theorem dT (b : Bool) (i : Decidable (b = true)) : @decide (b = true) i = b := by cases b <;> simp
theorem dF (b : Bool) (i : Decidable (b = false)) : @decide (b = false) i = !b := by cases b <;> simp

theorem run_cmp_str (op : BinOp) (c : Cmp) (h : toCmp op = some c) (t : TypeId) (a b : ByteArray) (w : World) :
    (binOp op t (.string a) (.string b)).run P w = .ok (.bool (scmpB c a b)) w := by
  have tri : ∀ x y : List UInt8, (Op.bytesLess x y || x == y) = !Op.bytesLess y x := by
    intro x
    induction x with
    | nil => intro y; cases y <;> simp [Op.bytesLess]
    | cons a x ih =>
      intro y
      cases y with
      | nil => simp [Op.bytesLess]
      | cons b y =>
        have h := ih y
        simp only [Op.bytesLess]
        rcases Nat.lt_trichotomy a.toNat b.toNat with hl | he | hg
        · have h1 : a < b := UInt8.lt_iff_toNat_lt.2 hl
          have h2 : ¬ b < a := fun h => by have := UInt8.lt_iff_toNat_lt.1 h; omega
          have h3 : b ≠ a := fun h => by rw [h] at hl; omega
          simp [h1, h2, h3]
        · have h0 : a = b := UInt8.toNat_inj.1 he
          subst h0
          have h1 : ¬ a < a := fun h => by have := UInt8.lt_iff_toNat_lt.1 h; omega
          simp only [h1, decide_false, Bool.false_or, beq_self_eq_true, Bool.true_and]
          rw [← h]; simp
        · have h1 : b < a := UInt8.lt_iff_toNat_lt.2 hg
          have h2 : ¬ a < b := fun h => by have := UInt8.lt_iff_toNat_lt.1 h; omega
          have h3 : a ≠ b := fun h => by rw [h] at hg; omega
          simp [h1, h2, h3]
  cases op <;> simp [toCmp] at h <;> subst h <;> simp only [binOp, Op.stringOp, scmpB, ba_eq, Sem.run_pure]
  · congr 2; simp
  · rw [dT]; rfl
  · rw [← ba_eq, tri, dF]; rfl
  · rw [← ba_eq, tri, dT, Bool.not_not]; rfl
  · rw [dF]; rfl

theorem den_beEq (eq : Bool) (x y : BE (sem P Q)) : (beEq eq x y).den = ((x.den == y.den) == eq) := by
  unfold beEq
  split
  · rename_i b
    have : (BE.lit b : BE (sem P Q)).den = b := rfl
    rw [this]
    cases b <;> cases eq <;> simp [den_neg]
  · rename_i b _
    have : (BE.lit b : BE (sem P Q)).den = b := rfl
    rw [this]
    cases b <;> cases eq <;> simp [den_neg]
  · cases eq
    · show ((x.den && y.neg.den) || (x.neg.den && y.den)) = _
      rw [den_neg, den_neg]; cases x.den <;> cases y.den <;> rfl
    · show ((x.den && y.den) || (x.neg.den && y.neg.den)) = _
      rw [den_neg, den_neg]; cases x.den <;> cases y.den <;> rfl

theorem nonzero_ne {x : Sc (sem P Q)} {k : IntKind} {n : Int} (h : All (nonzero x)) (hx : x.asI = some (k, n)) : n ≠ 0 := by
  cases x <;> simp [Sc.asI] at hx
  · obtain ⟨rfl, rfl⟩ := hx; exact h.1
  · rename_i m
    obtain ⟨rfl, rfl⟩ := hx
    intro h0
    have h0 : m = 0 := h0
    subst h0
    simp [nonzero, All, sxFail] at h

theorem nonneg_le {x : Sc (sem P Q)} {k : IntKind} {n : Int} (h : All (nonneg x)) (hx : x.asI = some (k, n)) : (0 : Int) ≤ n := by
  cases x <;> simp [Sc.asI] at hx
  · obtain ⟨rfl, rfl⟩ := hx; exact h.1
  · rename_i m
    obtain ⟨rfl, rfl⟩ := hx
    show (0 : Int) ≤ m
    apply Int.not_lt.1
    intro h0
    simp [nonneg, h0, All, sxFail] at h

theorem run_binInt {wr : Bool} {op : BinOp} {k : IntKind} {a b : Int} {sy z : Sc (sem P Q)} {k' : IntKind} {obs : List Prop} (hs : sy.asI = some (k', b))
    (h : binInt wr op k a b sy = some (obs, z)) (ho : All obs) (hsh : op ≠ .shl ∧ op ≠ .shr) (t : TypeId) (w : World) :
    (binOp op t (.int k a) (.int k b)).run P w = .ok z.toV w := by
  unfold binInt at h
  split at h
  · rename_i c hc
    simp only [Option.some.injEq, Prod.mk.injEq] at h
    obtain ⟨rfl, rfl⟩ := h
    exact run_cmp_int op c hc t k a b w
  · cases op <;> simp [toCmp] at * <;> obtain ⟨rfl, rfl⟩ := h
    case add => cases wr <;> simp [binOp, Op.intArith, iBinS]; exact (wrap_inR ho.1)
    case sub => cases wr <;> simp [binOp, Op.intArith, iBinS]; exact (wrap_inR ho.1)
    case mul => cases wr <;> simp [binOp, Op.intArith, iBinS]; exact (wrap_inR ho.1)
    case quo =>
      rw [All_append] at ho
      have h0 := nonzero_ne ho.1 hs
      cases wr <;> simp [binOp, Op.intDiv, iBinS, h0]
      exact wrap_inR ho.2.1
    case rem =>
      have h0 := nonzero_ne ho hs
      simp [binOp, Op.intDiv, iBinS, h0]
    all_goals simp [binOp, Op.intBits, iBinS, iBit]

theorem equalIn_bool (d : Nat) {t : TypeId} (ht : P.underlying t = some .bool) (a b : Bool) (w : World) : (Op.equalIn (d + 1) t (.bool a) (.bool b)).run P w = .ok (a == b) w := by
  simp only [Op.equalIn, Sem.run_bind, run_underlying ht, Result.andThen_ok, Sem.run_pure]

theorem equalIn_slice (d : Nat) {t e : TypeId} (ht : P.underlying t = some (.slice e)) (p : Option Addr) (l c : Nat) (w : World) : (Op.equalIn (d + 1) t (.slice p l c) (.slice none 0 0)).run P w = .ok p.isNone w := by
  cases p <;> simp [Op.equalIn, Sem.run_bind, run_underlying ht]

theorem equalIn_ptr (d : Nat) {t e : TypeId} (ht : P.underlying t = some (.pointer e)) (p : Option Addr) (w : World) : (Op.equalIn (d + 1) t (.pointer p) (.pointer none)).run P w = .ok p.isNone w := by
  cases p <;> simp [Op.equalIn, Sem.run_bind, run_underlying ht]

def nilV (x : Sc (sem P Q)) : Value := match x with | .slc .. => .slice none 0 0 | _ => .pointer none

theorem run_nilOp {op : BinOp} {t : TypeId} {x z : Sc (sem P Q)} {obs : List Prop} (h : nilOp P op t x = some (obs, z)) (w : World) :
    (binOp op t x.toV (nilV x)).run P w = .ok z.toV w := by
  unfold nilOp at h
  split at h <;> simp only [Option.some.injEq, Prod.mk.injEq, reduceCtorEq] at h <;> obtain ⟨rfl, rfl⟩ := h
  · rename_i p l c e ht
    have e : (Op.equal t (.slice p l c) (.slice none 0 0)).run P w = .ok (Option.isNone p) w := equalIn_slice (P := P) 9999 ht p l c w
    simp only [toV_slc, nilV, binOp, Sem.run_bind, e, Result.andThen_ok, Sem.run_pure, toV_bool]; rfl
  · rename_i p l c e ht
    have e : (Op.equal t (.slice p l c) (.slice none 0 0)).run P w = .ok (Option.isNone p) w := equalIn_slice (P := P) 9999 ht p l c w
    simp only [toV_slc, nilV, binOp, Sem.run_bind, e, Result.andThen_ok, Sem.run_pure, toV_bool]; rfl
  · rename_i p e ht
    have e : (Op.equal t (.pointer p) (.pointer none)).run P w = .ok (Option.isNone p) w := equalIn_ptr (P := P) 9999 ht p w
    simp only [toV_ptr, nilV, binOp, Sem.run_bind, e, Result.andThen_ok, Sem.run_pure, toV_bool]; rfl
  · rename_i p e ht
    have e : (Op.equal t (.pointer p) (.pointer none)).run P w = .ok (Option.isNone p) w := equalIn_ptr (P := P) 9999 ht p w
    simp only [toV_ptr, nilV, binOp, Sem.run_bind, e, Result.andThen_ok, Sem.run_pure, toV_bool]; rfl

theorem run_boolSc {op : BinOp} {x y : BE (sem P Q)} {z : Sc (sem P Q)} {obs : List Prop} {t : TypeId} (ht : P.underlying t = some .bool)
    (h : boolSc op x y = some (obs, z)) (w : World) : (binOp op t (.bool x.den) (.bool y.den)).run P w = .ok z.toV w := by
  have e : (Op.equal t (.bool x.den) (.bool y.den)).run P w = .ok (x.den == y.den) w := by
    exact equalIn_bool 9999 ht _ _ w
  cases op <;> simp only [boolSc, Option.some.injEq, Prod.mk.injEq, reduceCtorEq] at h <;> obtain ⟨rfl, rfl⟩ := h <;>
    simp only [binOp, Sem.run_bind, e, Result.andThen_ok, Sem.run_pure, toV_bool, den_beEq] <;> congr 2 <;> cases x.den <;> cases y.den <;> rfl

theorem run_strSc {op : BinOp} {x y : ByteArray} {z : Sc (sem P Q)} {obs : List Prop} {t : TypeId}
    (h : strSc (A := sem P Q) op x y = some (obs, z)) (ho : All obs) (w : World) : (binOp op t (.string x) (.string y)).run P w = .ok z.toV w := by
  unfold strSc at h
  split at h
  · rename_i c hc
    simp only [Option.some.injEq, Prod.mk.injEq] at h
    obtain ⟨rfl, rfl⟩ := h
    exact run_cmp_str op c hc t x y w
  · cases op <;> simp at h
    obtain ⟨rfl, rfl⟩ := h
    have h1 : x.size + y.size ≤ 9223372036854775807 := ho.1
    have h2 : ¬ (((x.size + y.size : Nat) : Int) > IntKind.max .i64) := by
      simp only [IntKind.max, IntKind.signed, IntKind.bits]; simp; omega
    simp only [binOp, Op.stringOp]
    rw [if_neg h2]; rfl

theorem run_shiftSc {op : BinOp} (hop : isShift op = true) {x y z : Sc (sem P Q)} {obs : List Prop}
    (h : shiftSc op x y = some (obs, z)) (ho : All obs) (t : TypeId) (w : World) : (binOp op t x.toV y.toV).run P w = .ok z.toV w := by
  unfold shiftSc at h
  split at h
  · rename_i k a hx
    split at h
    · rename_i k' b hy
      simp only [Option.some.injEq, Prod.mk.injEq] at h
      obtain ⟨rfl, rfl⟩ := h
      have hb := nonneg_le ho hy
      rw [asI_some hx, asI_some hy]
      have hb' : ¬ b < 0 := Int.not_lt.2 hb
      cases op <;> simp [isShift] at hop <;> simp [binOp, Op.shift, iBinS, iBit, hb']
    · simp at h
  · simp at h

theorem run_intSc {wr : Bool} {op : BinOp} (hop : isShift op = false) {x y z : Sc (sem P Q)} {obs : List Prop}
    (h : intSc wr op x y = some (obs, z)) (ho : All obs) (t : TypeId) (w : World) : (binOp op t x.toV y.toV).run P w = .ok z.toV w := by
  unfold intSc at h
  split at h
  · rename_i k a hx
    split at h
    · rename_i k' b hy
      cases hk : kEq k k'
      · rw [hk] at h; simp at h
      · rw [hk] at h
        obtain rfl := kEq_eq hk
        simp only [cond_true] at h
        rw [asI_some hx, asI_some hy]
        exact run_binInt hy h ho (by cases op <;> simp_all [isShift]) t w
    · simp at h
  · simp at h

theorem run_litSc {wr : Bool} {op : BinOp} (hop : isShift op = false) {k : IntKind} {a b : Int} {z : Sc (sem P Q)} {obs : List Prop}
    (h : litSc (A := sem P Q) wr op k a b = some (obs, z)) (ho : All obs) (t : TypeId) (w : World) : (binOp op t (.int k a) (.int k b)).run P w = .ok z.toV w := by
  unfold litSc at h
  split at h
  · rename_i c hc
    simp only [Option.some.injEq, Prod.mk.injEq] at h
    obtain ⟨rfl, rfl⟩ := h
    rw [run_cmp_int op c hc t k a b w]
    simp only [toV_bool]
    congr 2
    cases c <;> simp [cmpB, cmpLit, BE.den]
  · exact run_binInt (sy := .intc k b) rfl h ho (by cases op <;> simp_all [isShift]) t w

theorem run_binSc {wr : Bool} {op : BinOp} {x y z : Sc (sem P Q)} {obs : List Prop} {t : TypeId} (ht : isBoolSc x = true → P.underlying t = some .bool)
    (h : binSc wr op x y = some (obs, z)) (ho : All obs) (w : World) : (binOp op t x.toV y.toV).run P w = .ok z.toV w := by
  unfold binSc at h
  cases hop : isShift op
  · rw [hop] at h
    simp only [cond_false] at h
    split at h
    · split at h
      · exact run_boolSc (ht rfl) h w
      · simp at h
    · split at h
      · exact run_strSc h ho w
      · simp at h
    · split at h
      · rename_i k a _ k' b
        cases hk : kEq k k'
        · rw [hk] at h; simp at h
        · rw [hk] at h
          obtain rfl := kEq_eq hk
          exact run_litSc hop h ho t w
      · exact run_intSc hop h ho t w
    · exact run_intSc hop h ho t w
  · rw [hop] at h
    exact run_shiftSc hop h ho t w

/-! ### What is known of the frame and of the world -/

def satK (ops : Array Oper) (a : Act) (k : Nat × Bool) : Prop := yielded ops a.tmps k.1 = some k.2

def entOk (ops : Array Oper) (a : Act) (i : Nat) (e : Ent (sem P Q)) : Prop :=
  match e.2 with
  | none => a.tmps.getD i undef = e.1.toV
  | some k => (satK ops a k → a.tmps.getD i undef = e.1.toV) ∧ (¬ satK ops a k → a.tmps.getD i undef = undef)

structure RelF (cfg : Cfg) (ops : Array Oper) (ro : Ro (sem P Q)) (st : St (sem P Q)) (a : Act) : Prop where
  size : a.tmps.size = cfg.N
  defers : a.defers = []
  fr : ∀ i e, ro.get st i = some e → entOk ops a i e

def blkOk (w : World) (b : Blk (sem P Q)) : Prop := w.heap[(b.num : Nat)]? = some (.cells (b.cells.map Sc.toV).toArray b.ty)

structure RelW (ro : Ro (sem P Q)) (st : St (sem P Q)) (w : World) : Prop where
  but : But (ro.dn st) st.anchor w
  bk : ∀ j b, ro.blk st j = some b → blkOk w b
  lt : ∀ j b, ro.blk st j = some b → j < st.nx
  ord : ∀ i j b c, ro.blk st i = some b → ro.blk st j = some c → i < j → (b.num : Nat) < c.num
  ax : ∀ j b, ro.blk st j = some b → st.ax ≤ j → (World.heap st.anchor).size ≤ b.num
  nol : ∀ j b, ro.blk st j = some b → b.cells.all noLoc = true
  same : ∀ j b b0, look ro.bl j = some b0 → ro.blk st j = some b → b.num = b0.num ∧ b.ty = b0.ty

/-! ### Pure operations -/

theorem sc?_some {r : Option (SL (sem P Q))} {x : Sc (sem P Q)} (h : sc? r = some x) : r = some (.one (.sc x)) := by
  unfold sc? at h; split at h <;> simp_all

theorem one?_some {r : Option (SL (sem P Q))} {x : SV (sem P Q)} (h : one? r = some x) : r = some (.one x) := by
  unfold one? at h; split at h <;> simp_all

def Reads (a : Act) (rd : Operand → Option (SL (sem P Q))) : Prop := ∀ x v, rd x = some v → a.eval x = v.toV

theorem Reads.sc {a : Act} {rd : Operand → Option (SL (sem P Q))} (h : Reads a rd) {x : Operand} {v : Sc (sem P Q)} (hx : sc? (rd x) = some v) : a.eval x = v.toV := by
  have := h x _ (sc?_some hx)
  simpa using this

theorem Reads.one {a : Act} {rd : Operand → Option (SL (sem P Q))} (h : Reads a rd) {x : Operand} {v : SV (sem P Q)} (hx : one? (rd x) = some v) : a.eval x = v.toV := by
  have := h x _ (one?_some hx)
  simpa using this

theorem run_eqGuard {op : BinOp} {t : TypeId} {x y : Operand} {u v : Value} (h : (∃ k n, u = .int k n) ∨ (∃ b, u = .bool b) ∨ (∃ s, u = .string s) ∨ (∃ p l c, u = .slice p l c) ∨ (∃ p, u = .pointer p)) (w : World) :
    (eqGuard op t x y u v).run P w = .ok () w := by
  unfold eqGuard
  rcases h with ⟨k, n, rfl⟩ | ⟨b, rfl⟩ | ⟨s, rfl⟩ | ⟨p, l, c, rfl⟩ | ⟨p, rfl⟩ <;> simp <;> split <;> simp

/-- What 'pureOp' says of one operation. -/
def Gives (P : Program) (o : Oper) (a : Act) (w : World) (v : Value) : Prop := (execOp a.eval o).run P w = .ok (.value v) w

section
variable {a : Act} {w : World} {rd : Operand → Option (SL (sem P Q))} {o : Oper}

theorem gives_of {s : Sem Value} {v : Value} (h : execOp a.eval o = (do pure (.value (← s)))) (hs : s.run P w = .ok v w) : Gives P o a w v := by
  unfold Gives; rw [h]; simp [hs]

theorem g_move {x : Operand} {v : SL (sem P Q)} (ho : o.op = .move x ∨ o.op = .assign x) (hr : Reads a rd) (h : rd x = some v) : Gives P o a w v.toV := by
  have := hr x v h
  unfold Gives
  rcases ho with ho | ho <;> simp [execOp, ho, this]

theorem fits_guard {x z : Sc (sem P Q)} {wr : Bool} {op : BinOp} {y : Sc (sem P Q)} {obs : List Prop} (h : binSc wr op x y = some (obs, z)) :
    (∃ k n, x.toV = .int k n) ∨ (∃ b, x.toV = .bool b) ∨ (∃ s, x.toV = .string s) := by
  cases x with
  | int k n => exact .inl ⟨k, n, rfl⟩
  | intc k n => exact .inl ⟨k, n, rfl⟩
  | bool b => exact .inr (.inl ⟨b.den, rfl⟩)
  | str s => exact .inr (.inr ⟨s, rfl⟩)
  | _ => cases op <;> simp [binSc, isShift, shiftSc, intSc, Sc.asI] at h

theorem g_binOp {op : BinOp} {t u : TypeId} {x y : Operand} {wr : Bool} {sx sy z : Sc (sem P Q)} {obs : List Prop} (ho : o.op = .binOp op t x y u) (hr : Reads a rd)
    (hx : sc? (rd x) = some sx) (hy : sc? (rd y) = some sy) (hb : isBoolSc sx = true → P.underlying t = some .bool) (h : binSc wr op sx sy = some (obs, z)) (hobs : All obs) : Gives P o a w z.toV := by
  refine gives_of (s := do eqGuard op t x y (a.eval x) (a.eval y); binOp op t (a.eval x) (a.eval y)) (by simp [execOp, ho]) ?_
  rw [hr.sc hx, hr.sc hy]
  have hg : (∃ k n, sx.toV = .int k n) ∨ (∃ b, sx.toV = .bool b) ∨ (∃ s, sx.toV = .string s) ∨ (∃ p l c, sx.toV = .slice p l c) ∨ (∃ p, sx.toV = .pointer p) := by
    rcases fits_guard h with h | h | h
    · exact .inl h
    · exact .inr (.inl h)
    · exact .inr (.inr (.inl h))
  simp only [Sem.run_bind, run_eqGuard hg, Result.andThen_ok]
  exact run_binSc hb h hobs w


theorem g_nil {op : BinOp} {t u : TypeId} {x y : Operand} {sx z : Sc (sem P Q)} {obs : List Prop} (ho : o.op = .binOp op t x y u) (hr : Reads a rd)
    (hx : sc? (rd x) = some sx) (hf : nilFits sx y = true)
    (h : nilOp P op t sx = some (obs, z)) : Gives P o a w z.toV := by
  refine gives_of (s := do eqGuard op t x y (a.eval x) (a.eval y); binOp op t (a.eval x) (a.eval y)) (by simp [execOp, ho]) ?_
  rw [hr.sc hx]
  have key := run_nilOp h w
  have hg : (∃ k n, sx.toV = .int k n) ∨ (∃ b, sx.toV = .bool b) ∨ (∃ s, sx.toV = .string s) ∨ (∃ p l c, sx.toV = .slice p l c) ∨ (∃ p, sx.toV = .pointer p) := by
    cases sx with
    | slc p l c => exact .inr (.inr (.inr (.inl ⟨p, l, c, rfl⟩)))
    | ptr p => exact .inr (.inr (.inr (.inr ⟨p, rfl⟩)))
    | _ => simp [nilFits] at hf
  simp only [Sem.run_bind, run_eqGuard hg, Result.andThen_ok]
  have hy : a.eval y = nilV sx := by
    cases sx with
    | slc p l c =>
      simp only [nilFits, Bool.and_eq_true] at hf
      have h2 := hf.2
      unfold isSliceNil at h2
      split at h2
      · rfl
      · simp at h2
    | ptr p =>
      simp only [nilFits, Bool.and_eq_true, Bool.not_eq_true'] at hf
      have h1 := hf.1
      unfold litNil at h1
      split at h1
      · simp [isSliceNil] at hf
      · rfl
      · simp at h1
    | _ => simp [nilFits] at hf
  rw [hy]; exact key

theorem info_of_underlying {t : TypeId} {d : TypeDesc} (h : P.underlying t = some d) : ∃ i, P.info? t = some i := by
  unfold Program.underlying at h
  cases hi : P.info? t with
  | none => simp [hi] at h
  | some i => exact ⟨i, rfl⟩

theorem run_sizeOf' {t : TypeId} {d : TypeDesc} (h : P.underlying t = some d) (w : World) : (sizeOf t).run P w = .ok (P.cellsOf t) w := by
  obtain ⟨i, hi⟩ := info_of_underlying h
  simp [sizeOf, typeInfo, hi, Program.cellsOf]

theorem run_isAgg' {t : TypeId} {d : TypeDesc} (h : P.underlying t = some d) (w : World) : (isAgg t).run P w = .ok (isAggT P t) w := by
  simp only [isAgg, Sem.run_bind, run_underlying h, Result.andThen_ok, isAggT, h]
  cases d <;> rfl

theorem take_eq {α : Type} : ∀ (n : Nat) (l : List α), takeCells n l = l.take n
  | 0, l => by simp [takeCells]
  | n + 1, [] => by simp [takeCells]
  | n + 1, x :: r => by simp [takeCells, take_eq n r]
theorem drop_eq {α : Type} : ∀ (n : Nat) (l : List α), dropCells n l = l.drop n
  | 0, l => by simp [dropCells]
  | n + 1, [] => by simp [dropCells]
  | n + 1, x :: r => by simp [dropCells, drop_eq n r]
theorem setCellsAt_eq {α β : Type} (f : α → β) : ∀ (vs : List α) (l : List α) (i : Nat), (setCellsAt l i vs).map f = setCellsAt (l.map f) i (vs.map f)
  | [], l, i => by simp [setCellsAt]
  | v :: r, l, i => by simp [setCellsAt, setCellsAt_eq f r, List.map_set]
theorem setCellsAt_len {α : Type} : ∀ (vs : List α) (l : List α) (i : Nat), (setCellsAt l i vs).length = l.length
  | [], l, i => by simp [setCellsAt]
  | v :: r, l, i => by simp [setCellsAt, setCellsAt_len r]

theorem run_part {t : TypeId} {cs : List (Sc (sem P Q))} {off : Nat} {v : SV (sem P Q)} (h : partOf P t cs off = some v) (w : World) :
    (part t (cs.map Sc.toV).toArray off).run P w = .ok v.toV w := by
  unfold partOf at h
  split at h
  · simp at h
  · rename_i d hd
    simp only [part, Sem.run_bind, run_isAgg' hd, Result.andThen_ok]
    cases ha : isAggT P t
    · rw [ha] at h
      simp only [cond_false, drop_eq] at h
      split at h
      · rename_i x r hx
        simp only [Option.some.injEq] at h
        subst h
        have h2 : cs[off]? = some x := by
          have := congrArg (fun l => l[0]?) hx
          simpa using this
        simp [h2]
      · simp at h
    · rw [ha] at h
      simp only [cond_true, Option.some.injEq] at h
      subst h
      simp only [if_true, Sem.run_bind, run_sizeOf' hd, Result.andThen_ok, Sem.run_pure, toV_agg, take_eq, drop_eq]
      congr 2
      simp [List.map_take, List.map_drop]

theorem g_extract {x : Operand} {i : Nat} {l : List (SV (sem P Q))} {v : SV (sem P Q)} {r : List (SV (sem P Q))} (ho : o.op = .extract x i) (hr : Reads a rd) (hx : rd x = some (.tup l))
    (h : dropCells i l = v :: r) : Gives P o a w v.toV := by
  have e := hr x _ hx
  rw [drop_eq] at h
  have h2 : l[i]? = some v := by
    have := congrArg (fun l => l[0]?) h
    simpa using this
  refine gives_of (s := Instr.extract (a.eval x) i) (by simp [execOp, ho]) ?_
  rw [e]
  simp [Instr.extract, h2]

theorem fieldOf_some {t : TypeId} {f off : Nat} {u : TypeId} (h : fieldOf P t f = some (off, u)) : ∃ fs : Array Field, ∃ x : Field, P.underlying t = some (.struct fs) ∧ fs[f]? = some x ∧ x.offset = off ∧ x.type = u := by
  unfold fieldOf at h
  split at h
  · rename_i fs hu
    split at h
    · rename_i x hx
      simp only [Option.some.injEq, Prod.mk.injEq] at h
      exact ⟨fs, x, hu, hx, h.1, h.2⟩
    · simp at h
  · simp at h

theorem g_field {t u : TypeId} {x : Operand} {f off : Nat} {cs : List (Sc (sem P Q))} {v : SV (sem P Q)} (ho : o.op = .field t x f) (hr : Reads a rd) (hx : rd x = some (.one (.agg cs)))
    (hf : fieldOf P t f = some (off, u)) (h : partOf P u cs off = some v) : Gives P o a w v.toV := by
  have e := hr x _ hx
  obtain ⟨fs, y, h1, h2, rfl, rfl⟩ := fieldOf_some hf
  refine gives_of (s := Instr.field t (a.eval x) f) (by simp [execOp, ho]) ?_
  rw [e]
  simp only [Instr.field, Sem.run_bind, run_underlying h1, Result.andThen_ok, h2, toV_one, toV_agg, asAgg, Sem.run_pure]
  exact run_part h w

theorem g_nilCheck_ptr {x : Operand} {p : Option Addr} (ho : o.op = .nilCheck x) (hr : Reads a rd) (hx : sc? (rd x) = some (.ptr p)) (hp : p ≠ none) : Gives P o a w (.pointer p) := by
  have e := hr.sc hx
  simp only [toV_ptr] at e
  cases p with
  | none => exact absurd rfl hp
  | some q => unfold Gives; simp [execOp, ho, e]

theorem g_nilCheck_loc {x : Operand} {j off : Nat} {b : Nat} (ho : o.op = .nilCheck x) (hr : Reads a rd) (hx : sc? (rd x) = some (Sc.loc (A := sem P Q) j b off)) : Gives P o a w (.pointer (some ⟨b, off, none⟩)) := by
  have e := hr.sc hx
  simp only [toV_loc] at e
  unfold Gives; simp [execOp, ho, e]

theorem run_fieldAt {t u : TypeId} {f off : Nat} (hf : fieldOf P t f = some (off, u)) (h0 : (P.cellsOf u).beq 0 = false) (q : Addr) (w : World) :
    (Instr.fieldAt t (.pointer (some q)) f).run P w = .ok (.pointer (some (q.add off))) w := by
  obtain ⟨fs, y, h1, h2, rfl, rfl⟩ := fieldOf_some hf
  have hne : P.cellsOf y.type ≠ 0 := fun h => by rw [h] at h0; simp at h0
  have hs : (sizeOf y.type).run P w = .ok (P.cellsOf y.type) w := by
    unfold Program.cellsOf at *
    cases hi : P.info? y.type with
    | none => simp [hi] at hne
    | some i => simp [sizeOf, typeInfo, hi]
  simp only [Instr.fieldAt, Sem.run_bind, run_underlying h1, Result.andThen_ok, h2, Instr.sureAddr, Sem.run_pure, fieldPlace, hs, hne, if_false]

theorem add_loc (b o n : Nat) : (⟨b, o, none⟩ : Addr).add n = ⟨b, o + n, none⟩ := by
  unfold Addr.add; split <;> simp_all

theorem g_fieldAddr_loc {t u : TypeId} {x : Operand} {f off j o' : Nat} {b : Nat} (ho : o.op = .fieldAddr t x f) (hr : Reads a rd) (hx : sc? (rd x) = some (Sc.loc (A := sem P Q) j b o'))
    (hf : fieldOf P t f = some (off, u)) (h0 : (P.cellsOf u).beq 0 = false) : Gives P o a w (.pointer (some ⟨b, o' + off, none⟩)) := by
  have e := hr.sc hx
  refine gives_of (s := Instr.fieldAt t (a.eval x) f) (by simp [execOp, ho]) ?_
  rw [e]
  simp only [toV_loc]
  rw [run_fieldAt hf h0, add_loc]

theorem g_fieldAddr_ptr {t u : TypeId} {x : Operand} {f off : Nat} {p : Option Addr} (ho : o.op = .fieldAddr t x f) (hr : Reads a rd) (hx : sc? (rd x) = some (Sc.ptr (A := sem P Q) p))
    (hf : fieldOf P t f = some (off, u)) (h0 : (P.cellsOf u).beq 0 = false) (hp : p ≠ none) : Gives P o a w (.pointer (pAdd p off)) := by
  have e := hr.sc hx
  cases p with
  | none => exact absurd rfl hp
  | some q =>
    refine gives_of (s := Instr.fieldAt t (a.eval x) f) (by simp [execOp, ho]) ?_
    rw [e]
    simp only [toV_ptr]
    rw [run_fieldAt hf h0]; rfl


theorem cellsOf_some {t : TypeId} {d : TypeDesc} (h : P.underlying t = some d) (w : World) : (sizeOf t).run P w = .ok (P.cellsOf t) w := run_sizeOf' h w

theorem idx_addr (q : Addr) (n : Int) (s : Nat) : (pIdx (some q) n s) = some (q.add (n.toNat * s)) := rfl

theorem g_indexAddr_slc {t e : TypeId} {x ix : Operand} {p : Option Addr} {l c : Nat} {si : Sc (sem P Q)} {k : IntKind} {n : Int} (ho : o.op = .indexAddr t x ix) (hr : Reads a rd)
    (hx : sc? (rd x) = some (Sc.slc (A := sem P Q) p l c)) (hi : sc? (rd ix) = some si) (hk : si.asI = some (k, n)) (ht : P.underlying t = some (.slice e)) (he : (P.underlying e).isSome = true)
    (hp : p ≠ none) (h0 : 0 ≤ n) (h1 : n < (l : Int)) : Gives P o a w (.pointer (pIdx p n (P.cellsOf e))) := by
  have ex := hr.sc hx
  have ei := hr.sc hi
  rw [asI_some hk] at ei
  obtain ⟨d, hd⟩ := Option.isSome_iff_exists.1 he
  cases p with
  | none => exact absurd rfl hp
  | some q =>
    refine gives_of (s := Instr.indexAt t (a.eval x) (a.eval ix)) (by simp [execOp, ho]) ?_
    rw [ex, ei]
    simp [Instr.indexAt, asIntOf, run_underlying ht, h0, h1, run_sizeOf' hd, pIdx]

theorem g_indexAddr_ptr {t e : TypeId} {x ix : Operand} {p : Option Addr} {l : Nat} {si : Sc (sem P Q)} {k : IntKind} {n : Int} (ho : o.op = .indexAddr t x ix) (hr : Reads a rd)
    (hx : sc? (rd x) = some (Sc.ptr (A := sem P Q) p)) (hi : sc? (rd ix) = some si) (hk : si.asI = some (k, n)) (ht : P.underlying t = some (.array l e)) (he : (P.underlying e).isSome = true)
    (hp : p ≠ none) (h0 : 0 ≤ n) (h1 : n < (l : Int)) : Gives P o a w (.pointer (pIdx p n (P.cellsOf e))) := by
  have ex := hr.sc hx
  have ei := hr.sc hi
  rw [asI_some hk] at ei
  obtain ⟨d, hd⟩ := Option.isSome_iff_exists.1 he
  cases p with
  | none => exact absurd rfl hp
  | some q =>
    refine gives_of (s := Instr.indexAt t (a.eval x) (a.eval ix)) (by simp [execOp, ho]) ?_
    rw [ex, ei]
    simp [Instr.indexAt, asIntOf, run_underlying ht, h0, h1, run_sizeOf' hd, pIdx, Instr.sureAddr]

theorem g_indexAddr_loc {t e : TypeId} {x ix : Operand} {j off : Nat} {b : Nat} {l : Nat} {k : IntKind} {n : Int} (ho : o.op = .indexAddr t x ix) (hr : Reads a rd)
    (hx : sc? (rd x) = some (Sc.loc (A := sem P Q) j b off)) (hi : sc? (rd ix) = some (Sc.intc k n)) (ht : P.underlying t = some (.array l e)) (he : (P.underlying e).isSome = true)
    (h0 : 0 ≤ n) (h1 : n < (l : Int)) : Gives P o a w (.pointer (some ⟨b, off + n.toNat * P.cellsOf e, none⟩)) := by
  have ex := hr.sc hx
  have ei := hr.sc hi
  obtain ⟨d, hd⟩ := Option.isSome_iff_exists.1 he
  refine gives_of (s := Instr.indexAt t (a.eval x) (a.eval ix)) (by simp [execOp, ho]) ?_
  rw [ex, ei]
  simp [Instr.indexAt, asIntOf, run_underlying ht, h0, h1, run_sizeOf' hd, Instr.sureAddr, add_loc]

theorem g_index_str {t : TypeId} {x ix : Operand} {s : ByteArray} {si : Sc (sem P Q)} {k : IntKind} {n : Int} (ho : o.op = .index t x ix) (hr : Reads a rd)
    (hx : sc? (rd x) = some (Sc.str (A := sem P Q) s)) (hi : sc? (rd ix) = some si) (hk : si.asI = some (k, n)) (ht : P.underlying t = some .string)
    (h0 : 0 ≤ n) (h1 : n < (s.size : Int)) : Gives P o a w (.int .u8 (sAt s n)) := by
  have ex := hr.sc hx
  have ei := hr.sc hi
  rw [asI_some hk] at ei
  refine gives_of (s := Instr.index t (a.eval x) (a.eval ix)) (by simp [execOp, ho]) ?_
  rw [ex, ei]
  have hn : n.toNat < s.size := by omega
  have hb : s[n.toNat]? = some s[n.toNat] := by simp [hn]
  have hd : s.data.toList[n.toNat]? = some s[n.toNat] := by
    rw [List.getElem?_eq_getElem (by simpa using hn)]; rfl
  simp [Instr.index, asIntOf, run_underlying ht, h0, hb, sAt, hd]

theorem run_bound {v : Value} {k : IntKind} {n : Int} {y : Nat} {code : BoundsCode} (hv : v = .int k n) (h0 : 0 ≤ n) (h1 : n ≤ (y : Int)) (w : World) : (Instr.sliceBound v y code).run P w = .ok n.toNat w := by
  subst hv
  simp [Instr.sliceBound, asIntOf, h0, h1]

theorem bnd_some {a : Act} {rd : Operand → Option (SL (sem P Q))} (hr : Reads a rd) {y : Operand} {d n : Int} (h : bndOf (A := sem P Q) rd (some y) d = some n) : ∃ k, a.eval y = .int k n := by
  unfold bndOf at h
  simp only [Option.bind_eq_some_iff] at h
  obtain ⟨s, hs, h⟩ := h
  cases hk : s.asI with
  | none => rw [hk] at h; simp at h
  | some kn =>
    obtain ⟨k, m⟩ := kn
    rw [hk] at h
    simp only [Option.map_some, Option.some.injEq] at h
    subst h
    exact ⟨k, by rw [hr.sc hs, asI_some hk]⟩

theorem g_slice_str {t : TypeId} {x : Operand} {lo hi : Option Operand} {s : ByteArray} {l h : Int} (ho : o.op = .slice t x lo hi none) (hr : Reads a rd)
    (hx : sc? (rd x) = some (Sc.str (A := sem P Q) s)) (ht : P.underlying t = some .string) (hl : bndOf (A := sem P Q) rd lo (0 : Int) = some l) (hh : bndOf (A := sem P Q) rd hi (s.size : Int) = some h)
    (h0 : 0 ≤ l) (h1 : l ≤ h) (h2 : h ≤ (s.size : Int)) : Gives P o a w (.string (s.extract l.toNat h.toNat)) := by
  have ex := hr.sc hx
  refine gives_of (s := Instr.sliceAt t (a.eval x) (lo.map a.eval) (hi.map a.eval) (Option.map a.eval none)) (by simp [execOp, ho]) ?_
  rw [ex]
  have hb : ∀ w, (Instr.sliceBounds false s.size s.size (lo.map a.eval) (hi.map a.eval) none).run P w = .ok (l.toNat, h.toNat, s.size) w := by
    intro w
    unfold Instr.sliceBounds
    cases hi with
    | none =>
      simp only [bndOf, Option.some.injEq] at hh
      subst hh
      cases lo with
      | none =>
        simp only [bndOf, Option.some.injEq] at hl
        subst hl
        simp
      | some y =>
        obtain ⟨k, hk⟩ := bnd_some hr hl
        simp only [Option.map_none, Option.map_some, pure_bind, Sem.run_bind]
        rw [run_bound hk h0 (by omega)]
        simp
    | some z =>
      obtain ⟨k', hk'⟩ := bnd_some hr hh
      cases lo with
      | none =>
        simp only [bndOf, Option.some.injEq] at hl
        subst hl
        simp only [Option.map_none, Option.map_some, pure_bind, Sem.run_bind]
        rw [run_bound hk' (by omega) h2]
        simp
      | some y =>
        obtain ⟨k, hk⟩ := bnd_some hr hl
        simp only [Option.map_some, pure_bind, Sem.run_bind]
        rw [run_bound hk' (by omega) h2]
        simp only [Result.andThen_ok]
        rw [run_bound hk h0 (by omega)]
        simp
  simp [Instr.sliceAt, Instr.slice, run_underlying ht, hb]

theorem g_slice3 {t e : TypeId} {x z : Operand} {lo hi : Option Operand} {p : Option Addr} {len cap : Nat} {l h m : Int} (ho : o.op = .slice t x lo hi (some z)) (hr : Reads a rd)
    (hx : sc? (rd x) = some (Sc.slc (A := sem P Q) p len cap)) (ht : P.underlying t = some (.slice e)) (he : (P.underlying e).isSome = true) (hsome : hi.isSome = true) (hl : bndOf (A := sem P Q) rd lo (0 : Int) = some l) (hh : bndOf (A := sem P Q) rd hi (len : Int) = some h) (hm : bndOf (A := sem P Q) rd (some z) (cap : Int) = some m)
    (h0 : 0 ≤ l) (h1 : l ≤ h) (h2 : h ≤ m) (h3 : m ≤ (cap : Int)) : Gives P o a w (.slice (pCut p m.toNat l (P.cellsOf e)) (h - l).toNat (m.toNat - l.toNat)) := by
  have ex := hr.sc hx
  obtain ⟨d, hd⟩ := Option.isSome_iff_exists.1 he
  refine gives_of (s := Instr.sliceAt t (a.eval x) (lo.map a.eval) (hi.map a.eval) (Option.map a.eval (some z))) (by simp [execOp, ho]) ?_
  rw [ex]
  obtain ⟨k3, hk3⟩ := bnd_some hr hm
  have hb : ∀ w, (Instr.sliceBounds true len cap (lo.map a.eval) (hi.map a.eval) (some (a.eval z))).run P w = .ok (l.toNat, h.toNat, m.toNat) w := by
    intro w
    unfold Instr.sliceBounds
    cases hi with
    | none => cases hsome
    | some y =>
      obtain ⟨k', hk'⟩ := bnd_some hr hh
      cases lo with
      | none =>
        simp only [bndOf, Option.some.injEq] at hl
        subst hl
        simp only [Option.map_none, Option.map_some, pure_bind, Sem.run_bind]
        rw [run_bound hk3 (by omega) h3]
        simp only [Result.andThen_ok]
        rw [run_bound hk' (by omega) (by omega)]
        simp
      | some u =>
        obtain ⟨k, hk⟩ := bnd_some hr hl
        simp only [Option.map_some, pure_bind, Sem.run_bind]
        rw [run_bound hk3 (by omega) h3]
        simp only [Result.andThen_ok]
        rw [run_bound hk' (by omega) (by omega)]
        simp only [Result.andThen_ok]
        rw [run_bound hk h0 (by omega)]
        simp
  have hlen : (h - l).toNat = h.toNat - l.toNat := by omega
  simp [Instr.sliceAt, Instr.slice, run_underlying ht, hb, run_sizeOf' hd, pCut, hlen]

theorem g_slice_slc {t e : TypeId} {x : Operand} {lo hi : Option Operand} {p : Option Addr} {len cap : Nat} {l h : Int} (ho : o.op = .slice t x lo hi none) (hr : Reads a rd)
    (hx : sc? (rd x) = some (Sc.slc (A := sem P Q) p len cap)) (ht : P.underlying t = some (.slice e)) (he : (P.underlying e).isSome = true) (hl : bndOf (A := sem P Q) rd lo (0 : Int) = some l) (hh : bndOf (A := sem P Q) rd hi (len : Int) = some h)
    (h0 : 0 ≤ l) (h1 : l ≤ h) (h2 : h ≤ (cap : Int)) : Gives P o a w (.slice (pCut p cap l (P.cellsOf e)) (h - l).toNat (cap - l.toNat)) := by
  have ex := hr.sc hx
  obtain ⟨d, hd⟩ := Option.isSome_iff_exists.1 he
  refine gives_of (s := Instr.sliceAt t (a.eval x) (lo.map a.eval) (hi.map a.eval) (Option.map a.eval none)) (by simp [execOp, ho]) ?_
  rw [ex]
  have hb : ∀ w, (Instr.sliceBounds true len cap (lo.map a.eval) (hi.map a.eval) none).run P w = .ok (l.toNat, h.toNat, cap) w := by
    intro w
    unfold Instr.sliceBounds
    cases hi with
    | none =>
      simp only [bndOf, Option.some.injEq] at hh
      subst hh
      cases lo with
      | none =>
        simp only [bndOf, Option.some.injEq] at hl
        subst hl
        simp
      | some y =>
        obtain ⟨k, hk⟩ := bnd_some hr hl
        simp only [Option.map_none, Option.map_some, pure_bind, Sem.run_bind]
        rw [run_bound hk h0 (by omega)]
        simp
    | some z =>
      obtain ⟨k', hk'⟩ := bnd_some hr hh
      cases lo with
      | none =>
        simp only [bndOf, Option.some.injEq] at hl
        subst hl
        simp only [Option.map_none, Option.map_some, pure_bind, Sem.run_bind]
        rw [run_bound hk' (by omega) h2]
        simp
      | some y =>
        obtain ⟨k, hk⟩ := bnd_some hr hl
        simp only [Option.map_some, pure_bind, Sem.run_bind]
        rw [run_bound hk' (by omega) h2]
        simp only [Result.andThen_ok]
        rw [run_bound hk h0 (by omega)]
        simp
  have hlen : (h - l).toNat = h.toNat - l.toNat := by omega
  simp [Instr.sliceAt, Instr.slice, run_underlying ht, hb, run_sizeOf' hd, pCut, hlen]


theorem run_loadAt {t : TypeId} {b off : Nat} {cs : List (Sc (sem P Q))} {ty : TypeId} {v : SV (sem P Q)} (hb : w.heap[b]? = some (.cells (cs.map Sc.toV).toArray ty))
    (h : partOf P t cs off = some v) (hl : (v.cells.length).beq (P.cellsOf t) = true) : (Instr.loadAt t (.pointer (some ⟨b, off, none⟩))).run P w = .ok v.toV w := by
  have hl' : v.cells.length = P.cellsOf t := by simpa using hl
  have hcell : ∀ i x, cs[i]? = some x → w.cell? ⟨b, i, none⟩ = some x.toV := by
    intro i x hx
    simp [World.cell?, hb, hx]
  unfold partOf at h
  split at h
  · simp at h
  · rename_i d hd
    simp only [Instr.loadAt, Instr.sureAddr, Sem.run_bind, Sem.run_pure, Result.andThen_ok, loadVar, run_isAgg' hd]
    cases ha : isAggT P t
    · rw [ha] at h
      simp only [cond_false, drop_eq] at h
      split at h
      · rename_i x r hx
        simp only [Option.some.injEq] at h
        subst h
        have h2 : cs[off]? = some x := by
          have := congrArg (fun l => l[0]?) hx
          simpa using this
        simp [hcell off x h2]
      · simp at h
    · rw [ha] at h
      simp only [cond_true, Option.some.injEq] at h
      subst h
      simp only [if_true, Sem.run_bind, run_sizeOf' hd, Result.andThen_ok]
      simp only [SV.cells, take_eq, drop_eq] at hl'
      have hlc : ∀ j u, (((cs.drop off).take (P.cellsOf t)).map Sc.toV)[j]? = some u → w.cell? (Addr.add ⟨b, off, none⟩ j) = some u := by
        intro j u hj
        rw [add_loc]
        rw [List.getElem?_map] at hj
        simp only [Option.map_eq_some_iff] at hj
        obtain ⟨x, hx, rfl⟩ := hj
        rw [List.getElem?_take] at hx
        split at hx
        · rw [List.getElem?_drop] at hx
          exact hcell _ x hx
        · simp at hx
      have := run_loadCells_list (P := P) (w := w) ⟨b, off, none⟩ (((cs.drop off).take (P.cellsOf t)).map Sc.toV) hlc
      rw [List.length_map, hl'] at this
      rw [this]
      simp [take_eq, drop_eq]

theorem g_load_loc {t : TypeId} {x : Operand} {j off : Nat} {b : Nat} {cs : List (Sc (sem P Q))} {ty : TypeId} {v : SV (sem P Q)} (ho : o.op = .load t x) (hr : Reads a rd)
    (hx : sc? (rd x) = some (Sc.loc (A := sem P Q) j b off)) (hb : w.heap[b]? = some (.cells (cs.map Sc.toV).toArray ty))
    (h : partOf P t cs off = some v) (hl : (v.cells.length).beq (P.cellsOf t) = true) : Gives P o a w v.toV := by
  have ex := hr.sc hx
  refine gives_of (s := Instr.loadAt t (a.eval x)) (by simp [execOp, ho]) ?_
  rw [ex]
  exact run_loadAt hb h hl

theorem g_builtin {b : Builtin} {args : Array Operand} {ats : Array TypeId} {s : Sem Value} {v : Value} (ho : o.op = .call { callee := .builtin b, args, argTypes := ats })
    (hb : ∀ cs, builtin b ats o.type cs (args.map a.eval) = (do pure (.value (← s)))) (h : s.run P w = .ok v w) : Gives P o a w v := by
  unfold Gives
  have : execOp a.eval o = builtin b ats o.type (args.map fun | .const _ => true | _ => false) (args.map a.eval) := by
    cases o; subst ho; rfl
  rw [this, hb]
  simp [h]

theorem rdAll_some {rd : Operand → Option (SL (sem P Q))} (hr : Reads a rd) : ∀ {xs : List Operand} {l : List (SV (sem P Q))}, rdAll rd xs = some l → xs.map a.eval = l.map SV.toV
  | [], l, h => by simp [rdAll] at h; subst h; rfl
  | x :: r, l, h => by
    unfold rdAll at h
    split at h
    · rename_i v l' hv hl
      simp only [Option.some.injEq] at h
      subst h
      simp [hr.one hv, rdAll_some hr hl]
    · simp at h

theorem g_makeFunc {f : Nat} {first captured : Array Operand} {l : List (SV (sem P Q))} (ho : o.op = .makeFunc (.func f) first captured) (hr : Reads a rd) (hf : first.toList = [])
    (h : rdAll rd captured.toList = some l) : Gives P o a w (.func (.func f) #[] (l.map SV.toV).toArray) := by
  have e := rdAll_some hr h
  refine gives_of (s := Instr.makeFunc (.func f) (first.map a.eval) (captured.map a.eval)) (by simp [execOp, ho]) ?_
  have h1 : first = #[] := by simpa using hf
  have h2 : captured.map a.eval = (l.map SV.toV).toArray := by
    rw [← e, ← Array.toList_map]
  simp [Instr.makeFunc, h1, h2]

theorem minI (b x : Int) : (if b < x then b else x) = min x b := by rw [Int.min_def]; split <;> split <;> omega
theorem maxI (b x : Int) : (if b > x then b else x) = max x b := by rw [Int.max_def]; split <;> split <;> omega
theorem toArr {α : Type} {xs : Array α} {l : List α} (h : xs.toList = l) : xs = l.toArray := by rw [← h]

theorem foldI_min : ∀ {r : List (SV (sem P Q))} {k : IntKind} {x : Int} {z : Sc (sem P Q)}, foldI (A := sem P Q) (fun x y => min x y) k x r = some z →
    ((r.map SV.toV).foldlM Builtin.min2 (Value.int k x)).run P w = .ok z.toV w
  | [], k, x, z, h => by simp [foldI] at h; subst h; simp
  | .agg _ :: _, k, x, z, h => by simp [foldI] at h
  | .sc y :: r, k, x, z, h => by
    unfold foldI at h
    split at h
    · rename_i k' b hy
      cases hk : kEq k k'
      · rw [hk] at h; simp at h
      · rw [hk] at h
        obtain rfl := kEq_eq hk
        simp only [cond_true] at h
        simp only [List.map_cons, List.foldlM_cons, toV_sc, asI_some hy, Builtin.min2, Sem.run_bind, Sem.run_pure, Result.andThen_ok]
        rw [minI b x]
        exact foldI_min h
    · simp at h

theorem foldI_max : ∀ {r : List (SV (sem P Q))} {k : IntKind} {x : Int} {z : Sc (sem P Q)}, foldI (A := sem P Q) (fun x y => max x y) k x r = some z →
    ((r.map SV.toV).foldlM Builtin.max2 (Value.int k x)).run P w = .ok z.toV w
  | [], k, x, z, h => by simp [foldI] at h; subst h; simp
  | .agg _ :: _, k, x, z, h => by simp [foldI] at h
  | .sc y :: r, k, x, z, h => by
    unfold foldI at h
    split at h
    · rename_i k' b hy
      cases hk : kEq k k'
      · rw [hk] at h; simp at h
      · rw [hk] at h
        obtain rfl := kEq_eq hk
        simp only [cond_true] at h
        simp only [List.map_cons, List.foldlM_cons, toV_sc, asI_some hy, Builtin.max2, Sem.run_bind, Sem.run_pure, Result.andThen_ok]
        rw [maxI b x]
        exact foldI_max h
    · simp at h

theorem g_min {args : Array Operand} {ats : Array TypeId} {x : Sc (sem P Q)} {r : List (SV (sem P Q))} {k : IntKind} {n : Int} {z : Sc (sem P Q)} (ho : o.op = .call { callee := .builtin .min, args, argTypes := ats }) (hr : Reads a rd)
    (h : rdAll rd args.toList = some (.sc x :: r)) (hx : x.asI = some (k, n)) (hz : foldI (A := sem P Q) (fun x y => min x y) k n r = some z) : Gives P o a w z.toV := by
  have e := rdAll_some hr h
  refine g_builtin ho (s := Builtin.min_ ats o.type (args.map a.eval)) (fun cs => rfl) ?_
  unfold Builtin.min_
  have : (args.map a.eval).toList = Value.int k n :: r.map SV.toV := by rw [Array.toList_map, e]; simp [asI_some hx]
  rw [this]
  exact foldI_min hz

theorem g_max {args : Array Operand} {ats : Array TypeId} {x : Sc (sem P Q)} {r : List (SV (sem P Q))} {k : IntKind} {n : Int} {z : Sc (sem P Q)} (ho : o.op = .call { callee := .builtin .max, args, argTypes := ats }) (hr : Reads a rd)
    (h : rdAll rd args.toList = some (.sc x :: r)) (hx : x.asI = some (k, n)) (hz : foldI (A := sem P Q) (fun x y => max x y) k n r = some z) : Gives P o a w z.toV := by
  have e := rdAll_some hr h
  refine g_builtin ho (s := Builtin.max_ ats o.type (args.map a.eval)) (fun cs => rfl) ?_
  unfold Builtin.max_
  have : (args.map a.eval).toList = Value.int k n :: r.map SV.toV := by rw [Array.toList_map, e]; simp [asI_some hx]
  rw [this]
  exact foldI_max hz

theorem g_len_slc {args : Array Operand} {ats : Array TypeId} {x : Operand} {t e : TypeId} {p : Option Addr} {l c : Nat} (ho : o.op = .call { callee := .builtin .len, args, argTypes := ats }) (hr : Reads a rd)
    (ha : args.toList = [x]) (ht : ats.toList = [t]) (hu : P.underlying t = some (.slice e)) (hx : sc? (rd x) = some (Sc.slc (A := sem P Q) p l c)) : Gives P o a w (.int .i64 (l : Int)) := by
  have ex := hr.sc hx
  obtain rfl := toArr ha
  obtain rfl := toArr ht
  refine g_builtin ho (s := Builtin.len_ [t].toArray o.type ([x].toArray.map a.eval)) (fun cs => rfl) ?_
  simp [Builtin.len_, ex, run_underlying hu, goInt]

theorem g_len_str {args : Array Operand} {ats : Array TypeId} {x : Operand} {t : TypeId} {s : ByteArray} (ho : o.op = .call { callee := .builtin .len, args, argTypes := ats }) (hr : Reads a rd)
    (ha : args.toList = [x]) (ht : ats.toList = [t]) (hu : P.underlying t = some .string) (hx : sc? (rd x) = some (Sc.str (A := sem P Q) s)) : Gives P o a w (.int .i64 (s.size : Int)) := by
  have ex := hr.sc hx
  obtain rfl := toArr ha
  obtain rfl := toArr ht
  refine g_builtin ho (s := Builtin.len_ [t].toArray o.type ([x].toArray.map a.eval)) (fun cs => rfl) ?_
  simp [Builtin.len_, ex, run_underlying hu, goInt]

theorem g_cap_slc {args : Array Operand} {ats : Array TypeId} {x : Operand} {t e : TypeId} {p : Option Addr} {l c : Nat} (ho : o.op = .call { callee := .builtin .cap, args, argTypes := ats }) (hr : Reads a rd)
    (ha : args.toList = [x]) (ht : ats.toList = [t]) (hu : P.underlying t = some (.slice e)) (hx : sc? (rd x) = some (Sc.slc (A := sem P Q) p l c)) : Gives P o a w (.int .i64 (c : Int)) := by
  have ex := hr.sc hx
  obtain rfl := toArr ha
  obtain rfl := toArr ht
  refine g_builtin ho (s := Builtin.cap_ [t].toArray o.type ([x].toArray.map a.eval)) (fun cs => rfl) ?_
  simp [Builtin.cap_, ex, run_underlying hu, goInt]


theorem zip_fold (off : Nat) : ∀ (vs : List Value) (k : Nat) (cs : List Value),
    (vs.zipIdx k).foldl (fun (cs : Array Value) (x : Value × Nat) => cs.setIfInBounds (off + x.2) x.1) cs.toArray = (setCellsAt cs (off + k) vs).toArray
  | [], k, cs => by simp [setCellsAt]
  | v :: r, k, cs => by
    simp only [List.zipIdx_cons, List.foldl_cons, setCellsAt]
    have := zip_fold off r (k + 1) (cs.set (off + k) v)
    rw [show off + (k + 1) = off + k + 1 from rfl] at this
    rw [← this]
    congr 1
    simp

/-- A part's cells are the value's. -/
def PartOk (v : SV (sem P Q)) : Prop := v.toV.cells = (v.cells.map Sc.toV).toArray

theorem partOk {v : SV (sem P Q)} (h : All (oneObs v.cells)) : PartOk v := by
  cases v with
  | agg l => rfl
  | sc x =>
    cases x with
    | val u =>
      have h1 : u.oneCell' = true := h.1
      show u.cells = #[u]
      cases u <;> first | rfl | (simp [Value.oneCell'] at h1)
    | _ => rfl

theorem fill_eq {place : Nat → Option (Nat × Nat)} : ∀ {ps : List (Nat × SV (sem P Q))} {cs cs' : List (Sc (sem P Q))}, fillParts place cs ps = some cs' → (∀ x ∈ ps, PartOk x.2) →
    Instr.fill place (cs.map Sc.toV).toArray (ps.map fun x => (x.1, x.2.toV)) = some (cs'.map Sc.toV).toArray
  | [], cs, cs', h, _ => by simp [fillParts] at h; subst h; rfl
  | (i, v) :: r, cs, cs', h, hp => by
    unfold fillParts at h
    split at h
    · rename_i off size hpl
      have hv : PartOk v := hp (i, v) (List.mem_cons_self ..)
      cases hc : (Nat.beq v.cells.length size && Nat.ble (off + size) cs.length)
      · rw [hc] at h; simp at h
      · rw [hc] at h
        simp only [cond_true] at h
        simp only [Bool.and_eq_true, Nat.beq_eq, Nat.ble_eq] at hc
        have ih := fill_eq h fun x hx => hp x (List.mem_cons_of_mem _ hx)
        simp only [List.map_cons, Instr.fill, hpl]
        unfold PartOk at hv
        rw [hv]
        rw [if_neg (by simp; omega)]
        rw [← ih]
        congr 1
        have := zip_fold off (v.cells.map Sc.toV) 0 (cs.map Sc.toV)
        rw [setCellsAt_eq]
        rw [Nat.add_zero] at this
        rw [← this]
        rw [← Array.foldl_toList]
        simp
    · simp at h

theorem rdParts_some {rd : Operand → Option (SL (sem P Q))} (hr : Reads a rd) : ∀ {xs : List (Nat × Operand)} {l : List (Nat × SV (sem P Q))}, rdParts rd xs = some l →
    xs.map (fun x => (x.1, a.eval x.2)) = l.map fun x => (x.1, x.2.toV)
  | [], l, h => by simp [rdParts] at h; subst h; rfl
  | (i, x) :: r, l, h => by
    unfold rdParts at h
    split at h
    · rename_i v l' hv hl
      simp only [Option.some.injEq] at h
      subst h
      simp [hr.one hv, rdParts_some hr hl]
    · simp at h

theorem zeroOf_agg {t : TypeId} {z : List (Sc (sem P Q))} (h : (zeroOf P t : Option (SV (sem P Q))) = some (.agg z)) : ∃ i, ∃ zv, P.info? t = some i ∧ i.zero = some zv ∧ zv.cells = (z.map Sc.toV).toArray := by
  unfold zeroOf at h
  cases hi : P.info? t with
  | none => simp [hi] at h
  | some i =>
    cases hz : i.zero with
    | none => simp [hi, hz] at h
    | some zv =>
      simp only [hi, Option.bind_some, hz, Option.some.injEq] at h
      refine ⟨i, zv, rfl, hz, ?_⟩
      have e := congrArg SV.toV h
      rw [toV_ofValueV, toV_agg] at e
      rw [e]; rfl

theorem mapM_places (P : Program) : ∀ (fs : List Field), (fs.all fun f => (P.info? f.type).isSome) = true → fs.mapM (fun f => (P.info? f.type).map fun i => (f.offset, i.size)) = some (fs.map fun f => (f.offset, P.cellsOf f.type))
  | [], _ => by simp
  | f :: r, h => by
    simp only [List.all_cons, Bool.and_eq_true] at h
    obtain ⟨i, hi⟩ := Option.isSome_iff_exists.1 h.1
    simp [List.mapM_cons, hi, mapM_places P r h.2, Program.cellsOf]

theorem g_build {t : TypeId} {parts : Array (Nat × Operand)} {ps : List (Nat × SV (sem P Q))} {v : SV (sem P Q)} (ho : o.op = .build t parts) (hr : Reads a rd)
    (hp : rdParts rd parts.toList = some ps) (hob : ∀ x ∈ ps, PartOk x.2) (h : buildOf P t ps = some v) : Gives P o a w v.toV := by
  have e := rdParts_some hr hp
  refine gives_of (s := Instr.build t (parts.map fun (i, x) => (i, a.eval x))) (by simp [execOp, ho]) ?_
  have e2 : (parts.map fun (i, x) => (i, a.eval x)).toList = ps.map fun x => (x.1, x.2.toV) := by rw [Array.toList_map, ← e]
  unfold buildOf at h
  split at h
  · rename_i z hz
    obtain ⟨i, zv, hi, hzv, hzc⟩ := zeroOf_agg hz
    split at h
    · rename_i fs hu
      cases hall : fs.toList.all fun f => (P.info? f.type).isSome
      · rw [hall] at h; simp at h
      · rw [hall] at h
        simp only [Bool.not_true, cond_false, Option.map_eq_some_iff] at h
        obtain ⟨cs, hcs, rfl⟩ := h
        have hf := fill_eq hcs hob
        refine run_build w t _ _ ?_
        unfold Program.built
        rw [hi, hu, e2]
        simp only [hzv, mapM_places P fs.toList hall]
        rw [hzc, ← hf]
        congr 1
        funext k
        simp only [fieldOf, hu]
        rw [List.getElem?_toArray, List.getElem?_map, Array.getElem?_toList]
        cases fs[k]? <;> rfl
    · rename_i n e' hu
      cases hall : (P.info? e').isSome
      · rw [hall] at h; simp at h
      · rw [hall] at h
        simp only [Bool.not_true, cond_false, Option.map_eq_some_iff] at h
        obtain ⟨cs, hcs, rfl⟩ := h
        obtain ⟨ie, hie⟩ := Option.isSome_iff_exists.1 hall
        have hf := fill_eq hcs hob
        refine run_build w t _ _ ?_
        unfold Program.built
        rw [hi, hu, e2]
        simp only [hzv, hie]
        rw [hzc, ← hf]
        congr 1
        funext k
        simp [Program.cellsOf, hie]
    · simp at h
  · simp at h

theorem g_not {x : Operand} {t : TypeId} {b : BE (sem P Q)} (ho : o.op = .unOp .not t x) (hr : Reads a rd) (hx : sc? (rd x) = some (.bool b)) : Gives P o a w (.bool b.neg.den) := by
  have e := hr.sc hx
  refine gives_of (s := Op.unary .not (a.eval x)) (by simp [execOp, ho]) ?_
  rw [e]; simp [Op.unary, den_neg]

theorem g_neg {x : Operand} {t : TypeId} {s z : Sc (sem P Q)} {k : IntKind} {n : Int} {wr : Bool} {obs : List Prop} (ho : o.op = .unOp .neg t x) (hr : Reads a rd) (hx : sc? (rd x) = some s) (hk : s.asI = some (k, n))
    (h : binInt (A := sem P Q) wr .sub k (0 : Int) n s = some (obs, z)) (hobs : All obs) : Gives P o a w z.toV := by
  have e := hr.sc hx
  refine gives_of (s := Op.unary .neg (a.eval x)) (by simp [execOp, ho]) ?_
  rw [e, asI_some hk]
  have := run_binInt hk h hobs (by simp) t w
  simpa [binOp, Op.unary] using this

theorem g_xor {x : Operand} {t : TypeId} {s : Sc (sem P Q)} {k : IntKind} {n : Int} (ho : o.op = .unOp .xor t x) (hr : Reads a rd) (hx : sc? (rd x) = some s) (hk : s.asI = some (k, n)) :
    Gives P o a w (.int k (iBinS .xor k true (if k.signed then -1 else k.max) n)) := by
  have e := hr.sc hx
  refine gives_of (s := Op.unary .xor (a.eval x)) (by simp [execOp, ho]) ?_
  rw [e, asI_some hk]
  simp [Op.unary, Op.intBits, iBinS, iBit]

theorem g_convert_int {src dst : TypeId} {x : Operand} {k k' : IntKind} {n : Int} {s : Sc (sem P Q)} (ho : o.op = .convert src dst x) (hr : Reads a rd) (hx : sc? (rd x) = some s) (hk : s.asI = some (k', n))
    (hd : P.underlying dst = some (.int k)) (hs : (P.underlying src).isSome = true) : Gives P o a w (.int k (k.wrap n)) := by
  have e := hr.sc hx
  obtain ⟨d, hs⟩ := Option.isSome_iff_exists.1 hs
  refine gives_of (s := convert src dst (a.eval x)) (by simp [execOp, ho]) ?_
  rw [e, asI_some hk]
  simp [convert, run_underlying hd, run_underlying hs, Conv.intToInt]

theorem g_convert_str {src dst : TypeId} {x : Operand} {s : ByteArray} (ho : o.op = .convert src dst x) (hr : Reads a rd) (hx : sc? (rd x) = some (Sc.str (A := sem P Q) s))
    (hd : P.underlying dst = some .string) (hs : P.underlying src = some .string) : Gives P o a w (.string s) := by
  have e := hr.sc hx
  refine gives_of (s := convert src dst (a.eval x)) (by simp [execOp, ho]) ?_
  rw [e]
  simp [convert, run_underlying hd, run_underlying hs]


theorem part_all : ∀ {ps : List (Nat × SV (sem P Q))}, All (ps.flatMap fun x => oneObs x.2.cells) → ∀ x ∈ ps, PartOk x.2
  | [], _, x, hx => by cases hx
  | p :: r, h, x, hx => by
    rw [List.flatMap_cons, All_append] at h
    rcases List.mem_cons.1 hx with rfl | hx
    · exact partOk h.1
    · exact part_all h.2 x hx


/-- No pointer to a tracked block but such as lie in a slot by themselves, and they know their block. -/
def SlOk (ro : Ro (sem P Q)) (st : St (sem P Q)) : SL (sem P Q) → Prop
  | .one (.sc (.loc j n _)) => j < st.nx ∧ ∀ b, ro.blk st j = some b → b.num = n
  | .one (.sc _) => True
  | .one (.agg l) => l.all noLoc = true
  | .tup l => l.all noLocV = true
  | .undef => True

theorem slOk_noLoc {ro : Ro (sem P Q)} {st : St (sem P Q)} {v : SV (sem P Q)} (h : noLocV v = true) : SlOk ro st (.one v) := by
  cases v with
  | agg l => exact h
  | sc x => cases x <;> simp [noLocV, SV.cells, noLoc] at h <;> trivial

theorem slOk_sc {ro : Ro (sem P Q)} {st : St (sem P Q)} {x : Sc (sem P Q)} (h : noLoc x = true) : SlOk ro st (.one (.sc x)) :=
  slOk_noLoc (by simp [noLocV, SV.cells, h])

theorem partOf_noLoc {t : TypeId} {cs : List (Sc (sem P Q))} {off : Nat} {v : SV (sem P Q)} (h : partOf P t cs off = some v) (hc : cs.all noLoc = true) : noLocV v = true := by
  unfold partOf at h
  split at h
  · simp at h
  · cases ha : isAggT P t
    · rw [ha] at h
      simp only [cond_false, drop_eq] at h
      split at h
      · rename_i x r hx
        simp only [Option.some.injEq] at h
        subst h
        have : x ∈ cs := List.mem_of_mem_drop (hx ▸ List.mem_cons_self ..)
        simp only [noLocV, SV.cells, List.all_cons, List.all_nil, Bool.and_true]
        exact List.all_eq_true.1 hc x this
      · simp at h
    · rw [ha] at h
      simp only [cond_true, Option.some.injEq] at h
      subst h
      simp only [noLocV, SV.cells, take_eq, drop_eq, List.all_eq_true] at *
      intro x hx
      exact hc x (List.mem_of_mem_drop (List.mem_of_mem_take hx))

theorem ofValue_noLoc (v : Value) : noLoc (ofValue v : Sc (sem P Q)) = true := by
  unfold ofValue; split <;> rfl

theorem ofValueV_noLoc (v : Value) : noLocV (ofValueV v : SV (sem P Q)) = true := by
  unfold ofValueV
  split
  · simp only [noLocV, SV.cells, List.all_eq_true]
    intro x hx
    simp only [List.mem_map] at hx
    obtain ⟨u, _, rfl⟩ := hx
    exact ofValue_noLoc u
  · simp [noLocV, SV.cells, ofValue_noLoc]

theorem zeroOf_noLoc {t : TypeId} {v : SV (sem P Q)} (h : (zeroOf P t : Option (SV (sem P Q))) = some v) : noLocV v = true := by
  unfold zeroOf at h
  split at h
  · simp only [Option.some.injEq] at h; subst h; exact ofValueV_noLoc _
  · simp at h

theorem setCellsAt_all {p : Sc (sem P Q) → Bool} : ∀ (vs l : List (Sc (sem P Q))) (i : Nat), l.all p = true → vs.all p = true → (setCellsAt l i vs).all p = true
  | [], l, i, h, _ => h
  | v :: r, l, i, h, hv => by
    simp only [List.all_cons, Bool.and_eq_true] at hv
    refine setCellsAt_all r _ _ ?_ hv.2
    simp only [List.all_eq_true] at *
    intro x hx
    rcases List.mem_or_eq_of_mem_set hx with hx | rfl
    · exact h x hx
    · exact hv.1

theorem fillParts_noLoc {place : Nat → Option (Nat × Nat)} : ∀ {ps : List (Nat × SV (sem P Q))} {cs cs' : List (Sc (sem P Q))}, fillParts place cs ps = some cs' → cs.all noLoc = true → (ps.all fun x => noLocV x.2) = true → cs'.all noLoc = true
  | [], cs, cs', h, hc, _ => by simp [fillParts] at h; subst h; exact hc
  | (i, v) :: r, cs, cs', h, hc, hp => by
    simp only [List.all_cons, Bool.and_eq_true] at hp
    unfold fillParts at h
    split at h
    · rename_i off size hpl
      cases hcc : (Nat.beq v.cells.length size && Nat.ble (off + size) cs.length)
      · rw [hcc] at h; simp at h
      · rw [hcc] at h
        exact fillParts_noLoc h (setCellsAt_all _ _ _ hc hp.1) hp.2
    · simp at h

theorem buildOf_noLoc {t : TypeId} {ps : List (Nat × SV (sem P Q))} {v : SV (sem P Q)} (h : buildOf P t ps = some v) (hp : (ps.all fun x => noLocV x.2) = true) : noLocV v = true := by
  unfold buildOf at h
  split at h
  · rename_i z hz
    have hzn : z.all noLoc = true := zeroOf_noLoc hz
    split at h
    · rename_i fs hu
      cases hall : fs.toList.all fun f => (P.info? f.type).isSome
      · rw [hall] at h; simp at h
      · rw [hall] at h
        simp only [Bool.not_true, cond_false, Option.map_eq_some_iff] at h
        obtain ⟨cs, hcs, rfl⟩ := h
        exact fillParts_noLoc hcs hzn hp
    · rename_i n e' hu
      cases hall : (P.info? e').isSome
      · rw [hall] at h; simp at h
      · rw [hall] at h
        simp only [Bool.not_true, cond_false, Option.map_eq_some_iff] at h
        obtain ⟨cs, hcs, rfl⟩ := h
        exact fillParts_noLoc hcs hzn hp
    · simp at h
  · simp at h

theorem binInt_noLoc {wr : Bool} {op : BinOp} {k : IntKind} {x y : Int} {sy z : Sc (sem P Q)} {obs : List Prop} (h : binInt (A := sem P Q) wr op k x y sy = some (obs, z)) : noLoc z = true := by
  unfold binInt at h
  split at h
  · simp only [Option.some.injEq, Prod.mk.injEq] at h; obtain ⟨_, rfl⟩ := h; rfl
  · cases op <;> simp at h <;> obtain ⟨_, rfl⟩ := h <;> rfl

theorem binSc_noLoc {wr : Bool} {op : BinOp} {x y z : Sc (sem P Q)} {obs : List Prop} (h : binSc wr op x y = some (obs, z)) : noLoc z = true := by
  have hint : ∀ {x y : Sc (sem P Q)}, intSc wr op x y = some (obs, z) → noLoc z = true := by
    intro x y h
    unfold intSc at h
    split at h
    · split at h
      · simp only [cond_eq_ite] at h
        split at h
        · exact binInt_noLoc h
        · simp at h
      · simp at h
    · simp at h
  unfold binSc at h
  cases hop : isShift op <;> rw [hop] at h
  · simp only [cond_false] at h
    split at h
    · split at h
      · cases op <;> simp [boolSc] at h <;> obtain ⟨_, rfl⟩ := h <;> rfl
      · simp at h
    · split at h
      · unfold strSc at h
        split at h
        · simp only [Option.some.injEq, Prod.mk.injEq] at h; obtain ⟨_, rfl⟩ := h; rfl
        · cases op <;> simp at h; obtain ⟨_, rfl⟩ := h; rfl
      · simp at h
    · split at h
      · rename_i k a _ k' b
        cases hk : kEq k k' <;> rw [hk] at h
        · simp at h
        · unfold litSc at h
          split at h
          · simp only [cond_true, Option.some.injEq, Prod.mk.injEq] at h; obtain ⟨_, rfl⟩ := h; rfl
          · exact binInt_noLoc h
      · exact hint h
    · exact hint h
  · unfold shiftSc at h
    simp only [cond_true] at h
    split at h
    · split at h
      · simp only [Option.some.injEq, Prod.mk.injEq] at h; obtain ⟨_, rfl⟩ := h; rfl
      · simp at h
    · simp at h

theorem foldI_noLoc {f : Int → Int → Int} : ∀ {r : List (SV (sem P Q))} {k : IntKind} {x : Int} {z : Sc (sem P Q)}, foldI (A := sem P Q) f k x r = some z → noLoc z = true
  | [], k, x, z, h => by simp [foldI] at h; subst h; rfl
  | .agg _ :: _, k, x, z, h => by simp [foldI] at h
  | .sc y :: r, k, x, z, h => by
    unfold foldI at h
    split at h
    · simp only [cond_eq_ite] at h
      split at h
      · exact foldI_noLoc h
      · simp at h
    · simp at h

theorem nilOp_noLoc {op : BinOp} {t : TypeId} {x z : Sc (sem P Q)} {obs : List Prop} (h : nilOp P op t x = some (obs, z)) : noLoc z = true := by
  unfold nilOp at h
  split at h <;> simp only [Option.some.injEq, Prod.mk.injEq, reduceCtorEq] at h <;> obtain ⟨_, rfl⟩ := h <;> rfl

theorem notSome {α : Type} {x : Option α} (h : ¬ ((!x.isSome) = true)) : x.isSome = true := by cases x <;> simp_all

theorem slOk_off {ro : Ro (sem P Q)} {st : St (sem P Q)} {j off off' : Nat} {b : Nat} (h : SlOk ro st (.one (.sc (Sc.loc (A := sem P Q) j b off)))) : SlOk ro st (.one (.sc (Sc.loc (A := sem P Q) j b off'))) := h

theorem isBoolT_some {t : TypeId} (h : isBoolT P t = true) : P.underlying t = some .bool := by
  unfold isBoolT at h; split at h <;> simp_all

theorem scRes {r : Option (List Prop × Sc (sem P Q))} {obs : List Prop} {v : SL (sem P Q)}
    (h : liftSc (A := sem P Q) r = some (obs, v)) : ∃ z, r = some (obs, z) ∧ v = .one (.sc z) := by
  unfold liftSc at h
  split at h
  · simp only [Option.some.injEq, Prod.mk.injEq] at h
    obtain ⟨rfl, rfl⟩ := h
    exact ⟨_, rfl, rfl⟩
  · simp at h

/-- Every pure operation gives what 'pureOp' says, in every world that is known to be so. -/
theorem pure_gives {cfg : Cfg} {ro : Ro (sem P Q)} {st : St (sem P Q)} {obs : List Prop} {v : SL (sem P Q)} (hs : ∀ x v, rd x = some v → SlOk ro st v)
    (hnl : ∀ j b, ro.blk st j = some b → b.cells.all noLoc = true)
    (h : pureOp P cfg ro st rd o = some (obs, v)) : (Reads a rd → (isLoad o = false ∨ ∀ j b, ro.blk st j = some b → blkOk w b) → All obs → Gives P o a w v.toV) ∧ SlOk ro st v := by
  cases ho : o.op with
  | move x =>
    simp only [pureOp, ho] at h
    split at h
    · simp only [Option.some.injEq, Prod.mk.injEq] at h
      obtain ⟨rfl, rfl⟩ := h
      rename_i hv
      exact ⟨fun hr hbk hobs => g_move (.inl ho) hr hv, hs _ _ hv⟩
    · simp at h
  | assign x =>
    simp only [pureOp, ho] at h
    split at h
    · simp only [Option.some.injEq, Prod.mk.injEq] at h
      obtain ⟨rfl, rfl⟩ := h
      rename_i hv
      exact ⟨fun hr hbk hobs => g_move (.inr ho) hr hv, hs _ _ hv⟩
    · simp at h
  | binOp op t x y u =>
    simp only [pureOp, ho] at h
    split at h
    · simp at h
    · rename_i sx hx
      simp only [cond_eq_ite] at h
      split at h
      · rename_i hn
        obtain ⟨z, hz, rfl⟩ := scRes h
        exact ⟨fun hr hbk hobs => g_nil ho hr hx hn hz, slOk_sc (nilOp_noLoc hz)⟩
      · split at h
        · simp at h
        · rename_i hb
          split at h
          · rename_i sy hy
            obtain ⟨z, hz, rfl⟩ := scRes h
            refine ⟨fun hr hbk hobs => g_binOp ho hr hx hy (fun hb1 => ?_) hz hobs, slOk_sc (binSc_noLoc hz)⟩
            simp only [hb1, Bool.true_and, Bool.not_eq_true', Bool.not_eq_false] at hb
            exact isBoolT_some hb
          · simp at h
  | unOp op t x =>
    simp only [pureOp, ho] at h
    split at h
    · rename_i b hx
      simp only [Option.some.injEq, Prod.mk.injEq] at h
      obtain ⟨rfl, rfl⟩ := h
      exact ⟨fun hr hbk hobs => g_not ho hr hx, trivial⟩
    · rename_i s hx
      split at h
      · rename_i k n hk
        obtain ⟨z, hz, rfl⟩ := scRes h
        exact ⟨fun hr hbk hobs => g_neg ho hr hx hk hz hobs, slOk_sc (binInt_noLoc hz)⟩
      · simp at h
    · rename_i s hx
      split at h
      · rename_i k n hk
        simp only [Option.some.injEq, Prod.mk.injEq] at h
        obtain ⟨rfl, rfl⟩ := h
        exact ⟨fun hr hbk hobs => g_xor ho hr hx hk, trivial⟩
      · simp at h
    · simp at h
  | convert src dst x =>
    simp only [pureOp, ho] at h
    split at h
    · rename_i s hx hd hsrc
      simp only [Option.some.injEq, Prod.mk.injEq] at h
      obtain ⟨rfl, rfl⟩ := h
      exact ⟨fun hr hbk hobs => g_convert_str ho hr hx hd hsrc, trivial⟩
    · rename_i k' n k d hx hd hsrc
      simp only [Option.some.injEq, Prod.mk.injEq] at h
      obtain ⟨rfl, rfl⟩ := h
      exact ⟨fun hr hbk hobs => g_convert_int (s := .intc k' n) ho hr hx rfl hd (by rw [hsrc]; rfl), trivial⟩
    · rename_i k' n k d hx hd hsrc
      simp only [cond_eq_ite] at h
      have g := fun (hr : Reads a rd) => g_convert_int (w := w) (s := .int k' n) ho hr hx rfl hd (by rw [hsrc]; rfl)
      split at h
      · simp only [Option.some.injEq, Prod.mk.injEq] at h
        obtain ⟨rfl, rfl⟩ := h
        exact ⟨fun hr _ _ => g hr, trivial⟩
      · simp only [Option.some.injEq, Prod.mk.injEq] at h
        obtain ⟨rfl, rfl⟩ := h
        refine ⟨fun hr _ hobs => ?_, trivial⟩
        have g := g hr
        rw [wrap_inR hobs.1] at g
        exact g
    · simp at h
  | extract x i =>
    simp only [pureOp, ho] at h
    split at h
    · rename_i l hx
      split at h
      · rename_i y r hl
        simp only [Option.some.injEq, Prod.mk.injEq] at h
        obtain ⟨rfl, rfl⟩ := h
        have hall : l.all noLocV = true := hs _ _ hx
        refine ⟨fun hr hbk hobs => g_extract ho hr hx hl, slOk_noLoc ?_⟩
        rw [drop_eq] at hl
        exact List.all_eq_true.1 hall y (List.mem_of_mem_drop (hl ▸ List.mem_cons_self ..))
      · simp at h
    · simp at h
  | field t x f =>
    simp only [pureOp, ho] at h
    split at h
    · rename_i cs off u hx hf
      split at h
      · rename_i y hp
        simp only [Option.some.injEq, Prod.mk.injEq] at h
        obtain ⟨rfl, rfl⟩ := h
        exact ⟨fun hr hbk hobs => g_field ho hr hx hf hp, slOk_noLoc (partOf_noLoc hp (hs _ _ hx))⟩
      · simp at h
    · simp at h
  | build t parts =>
    simp only [pureOp, ho] at h
    split at h
    · rename_i ps hp
      simp only [cond_eq_ite] at h
      split at h
      · simp at h
      · rename_i hall
        split at h
        · rename_i y hb
          simp only [Option.some.injEq, Prod.mk.injEq] at h
          obtain ⟨rfl, rfl⟩ := h
          exact ⟨fun hr hbk hobs => g_build ho hr hp (part_all hobs) hb, slOk_noLoc (buildOf_noLoc hb (by simpa using hall))⟩
        · simp at h
    · simp at h
  | nilCheck x =>
    simp only [pureOp, ho] at h
    split at h
    · rename_i p hx
      simp only [Option.some.injEq, Prod.mk.injEq] at h
      obtain ⟨rfl, rfl⟩ := h
      exact ⟨fun hr hbk hobs => g_nilCheck_ptr ho hr hx hobs.1, trivial⟩
    · rename_i j b off hx
      simp only [Option.some.injEq, Prod.mk.injEq] at h
      obtain ⟨rfl, rfl⟩ := h
      exact ⟨fun hr hbk hobs => g_nilCheck_loc ho hr hx, hs _ _ (sc?_some hx)⟩
    · simp at h
  | fieldAddr t x f =>
    simp only [pureOp, ho] at h
    split at h
    · rename_i s off u hx hf
      simp only [cond_eq_ite] at h
      split at h
      · simp at h
      · rename_i h0
        split at h
        · rename_i j b o'
          simp only [Option.some.injEq, Prod.mk.injEq] at h
          obtain ⟨rfl, rfl⟩ := h
          exact ⟨fun hr hbk hobs => g_fieldAddr_loc ho hr hx hf (Bool.eq_false_iff.2 h0), slOk_off (hs _ _ (sc?_some hx))⟩
        · rename_i p
          simp only [Option.some.injEq, Prod.mk.injEq] at h
          obtain ⟨rfl, rfl⟩ := h
          exact ⟨fun hr hbk hobs => g_fieldAddr_ptr ho hr hx hf (Bool.eq_false_iff.2 h0) hobs.1, trivial⟩
        · simp at h
    · simp at h
  | indexAddr t x ix =>
    simp only [pureOp, ho] at h
    split at h
    · rename_i p l c i e hx hi ht
      simp only [cond_eq_ite] at h
      split at h
      · simp at h
      · rename_i he
        split at h
        · rename_i k n hk
          simp only [Option.some.injEq, Prod.mk.injEq] at h
          obtain ⟨rfl, rfl⟩ := h
          exact ⟨fun hr hbk hobs => g_indexAddr_slc ho hr hx hi hk ht (notSome he) hobs.1 hobs.2.1 hobs.2.2.1, trivial⟩
        · simp at h
    · rename_i p i n e hx hi ht
      simp only [cond_eq_ite] at h
      split at h
      · simp at h
      · rename_i he
        split at h
        · rename_i k m hk
          simp only [Option.some.injEq, Prod.mk.injEq] at h
          obtain ⟨rfl, rfl⟩ := h
          exact ⟨fun hr hbk hobs => g_indexAddr_ptr ho hr hx hi hk ht (notSome he) hobs.1 hobs.2.1 hobs.2.2.1, trivial⟩
        · simp at h
    · rename_i j b off k m n e hx hi ht
      simp only [cond_eq_ite] at h
      split at h
      · rename_i hc
        simp only [Bool.and_eq_true, decide_eq_true_eq] at hc
        simp only [Option.some.injEq, Prod.mk.injEq] at h
        obtain ⟨rfl, rfl⟩ := h
        exact ⟨fun hr hbk hobs => g_indexAddr_loc ho hr hx hi ht hc.1.1 hc.1.2 hc.2, slOk_off (hs _ _ (sc?_some hx))⟩
      · simp at h
    · simp at h
  | index t x ix =>
    simp only [pureOp, ho] at h
    split at h
    · rename_i s i hx hi ht
      split at h
      · rename_i k n hk
        simp only [Option.some.injEq, Prod.mk.injEq] at h
        obtain ⟨rfl, rfl⟩ := h
        exact ⟨fun hr hbk hobs => g_index_str ho hr hx hi hk ht hobs.1 hobs.2.1, trivial⟩
      · simp at h
    · simp at h
  | slice t x lo hi mx =>
    simp only [pureOp, ho] at h
    split at h
    · rename_i z
      simp only [cond_eq_ite] at h
      split at h
      · simp at h
      · rename_i hhi
        split at h
        · rename_i p len cap e hx ht
          split at h
          · simp at h
          · rename_i he
            split at h
            · rename_i l hh m h1 h2 h3
              simp only [Option.some.injEq, Prod.mk.injEq] at h
              obtain ⟨rfl, rfl⟩ := h
              exact ⟨fun hr hbk hobs => g_slice3 ho hr hx ht (notSome he) (by cases hi <;> simp_all) h1 h2 h3 hobs.1 hobs.2.1 hobs.2.2.1 hobs.2.2.2.1, trivial⟩
            · simp at h
        · simp at h
    · split at h
      · rename_i s hx ht
        split at h
        · rename_i l hh h1 h2
          simp only [Option.some.injEq, Prod.mk.injEq] at h
          obtain ⟨rfl, rfl⟩ := h
          exact ⟨fun hr hbk hobs => g_slice_str ho hr hx ht h1 h2 hobs.1 hobs.2.1 hobs.2.2.1, trivial⟩
        · simp at h
      · rename_i p len cap e hx ht
        simp only [cond_eq_ite] at h
        split at h
        · simp at h
        · rename_i he
          split at h
          · rename_i l hh h1 h2
            simp only [Option.some.injEq, Prod.mk.injEq] at h
            obtain ⟨rfl, rfl⟩ := h
            exact ⟨fun hr hbk hobs => g_slice_slc ho hr hx ht (notSome he) h1 h2 hobs.1 hobs.2.1 hobs.2.2.1, trivial⟩
          · simp at h
      · simp at h
  | load t x =>
    simp only [pureOp, ho] at h
    split at h
    · rename_i j n off hx
      split at h
      · rename_i b hb
        split at h
        · rename_i y hp
          simp only [cond_eq_ite] at h
          split at h
          · rename_i hl
            simp only [Option.some.injEq, Prod.mk.injEq] at h
            obtain ⟨rfl, rfl⟩ := h
            have hn : b.num = n := (hs _ _ (sc?_some hx)).2 b hb
            refine ⟨fun hr hbk hobs => ?_, slOk_noLoc (partOf_noLoc hp (hnl j b hb))⟩
            have hbk' := hbk.resolve_left (by simp [isLoad, ho]) j b hb
            unfold blkOk at hbk'
            rw [hn] at hbk'
            exact g_load_loc ho hr hx hbk' hp hl
          · simp at h
        · simp at h
      · simp at h
    · simp at h
  | call c =>
    obtain ⟨callee, args, ats⟩ := c
    cases callee with
    | value f => simp [pureOp, ho] at h
    | invoke f m => simp [pureOp, ho] at h
    | builtin b =>
      cases b with
      | len =>
        simp only [pureOp, ho] at h
        split at h
        · rename_i x t ha ht
          split at h
          · rename_i p l c e hx hu
            simp only [Option.some.injEq, Prod.mk.injEq] at h
            obtain ⟨rfl, rfl⟩ := h
            exact ⟨fun hr hbk hobs => g_len_slc ho hr ha ht hu hx, trivial⟩
          · rename_i s hx hu
            simp only [Option.some.injEq, Prod.mk.injEq] at h
            obtain ⟨rfl, rfl⟩ := h
            exact ⟨fun hr hbk hobs => g_len_str ho hr ha ht hu hx, trivial⟩
          · simp at h
        · simp at h
      | cap =>
        simp only [pureOp, ho] at h
        split at h
        · rename_i x t ha ht
          split at h
          · rename_i p l c e hx hu
            simp only [Option.some.injEq, Prod.mk.injEq] at h
            obtain ⟨rfl, rfl⟩ := h
            exact ⟨fun hr hbk hobs => g_cap_slc ho hr ha ht hu hx, trivial⟩
          · simp at h
        · simp at h
      | min =>
        simp only [pureOp, ho] at h
        split at h
        · rename_i x r hl
          split at h
          · rename_i k n hk
            obtain ⟨z, hz, rfl⟩ := scRes h
            simp only [Option.map_eq_some_iff, Prod.mk.injEq] at hz
            obtain ⟨z', hz', rfl, rfl⟩ := hz
            exact ⟨fun hr hbk hobs => g_min ho hr hl hk hz', slOk_sc (foldI_noLoc hz')⟩
          · simp at h
        · simp at h
      | max =>
        simp only [pureOp, ho] at h
        split at h
        · rename_i x r hl
          split at h
          · rename_i k n hk
            obtain ⟨z, hz, rfl⟩ := scRes h
            simp only [Option.map_eq_some_iff, Prod.mk.injEq] at hz
            obtain ⟨z', hz', rfl, rfl⟩ := hz
            exact ⟨fun hr hbk hobs => g_max ho hr hl hk hz', slOk_sc (foldI_noLoc hz')⟩
          · simp at h
        · simp at h
      | _ => simp [pureOp, ho] at h
  | makeFunc fn first captured =>
    cases fn with
    | func f =>
      simp only [pureOp, ho] at h
      split at h
      · rename_i l hf hl
        simp only [cond_eq_ite] at h
        split at h
        · simp only [Option.some.injEq, Prod.mk.injEq] at h
          obtain ⟨rfl, rfl⟩ := h
          exact ⟨fun hr hbk hobs => g_makeFunc ho hr hf hl, trivial⟩
        · simp at h
      · simp at h
    | _ => simp [pureOp, ho] at h
  | _ => simp [pureOp, ho] at h
end

/-! ### Guards -/

theorem yielded_iff {ops : Array Oper} {tmps : Array Value} {j : Nat} {c : Bool} : yielded ops tmps j = some c ↔ ∃ d, dstOf ops j = some d ∧ tmps.getD d undef = .bool c := by
  unfold yielded dstOf
  cases ho : ops[j]? with
  | none => simp
  | some o =>
    simp only [Option.bind_some]
    cases hd : o.dst with
    | none => simp
    | some d =>
      simp only [Option.bind_some, Option.some.injEq, exists_eq_left']
      rw [Array.getD_eq_getD_getElem?]
      cases hv : tmps[d]? with
      | none => simp [undef]
      | some v => cases v <;> simp [undef]

section
variable {cfg : Cfg} {ops : Array Oper} {ro : Ro (sem P Q)} {st : St (sem P Q)} {a : Act}

theorem ent_yes {i : Nat} {v : SL (sem P Q)} {key : Option (Nat × Bool)} (h : entOk ops a i (v, key)) (hk : ∀ k, key = some k → satK ops a k) : a.tmps.getD i undef = v.toV := by
  cases key with
  | none => exact h
  | some k => exact h.1 (hk k rfl)

theorem ent_no {i : Nat} {v : SL (sem P Q)} {k : Nat × Bool} (h : entOk ops a i (v, some k)) (hk : ¬ satK ops a k) : a.tmps.getD i undef = undef := h.2 hk

/-- What 'keyStat' answers. -/
def StatOk (ops : Array Oper) (ro : Ro (sem P Q)) (st : St (sem P Q)) (a : Act) (k : Nat × Bool) : KS → Prop
  | .yes => satK ops a k
  | .no => ¬ satK ops a k
  | .sym j => ∃ d key, ∃ b : BE (sem P Q), dstOf ops j = some d ∧ ro.get st d = some (.one (.sc (.bool b)), key) ∧ a.tmps.getD d undef = .bool b.den
  | .bad => True

theorem keyStat_ok (hf : RelF cfg ops ro st a) : ∀ (n : Nat) (k : Nat × Bool), StatOk ops ro st a k (keyStat ops ro st n k)
  | 0, k => by simp [keyStat, StatOk]
  | n + 1, (j, want) => by
    unfold keyStat
    cases hd : dstOf ops j with
    | none => simp [StatOk]
    | some d =>
      simp only
      cases hg : ro.get st d with
      | none => simp [StatOk]
      | some e =>
        obtain ⟨v, key⟩ := e
        simp only
        have he := hf.fr d _ hg
        have hsat : satK ops a (j, want) ↔ a.tmps.getD d undef = .bool want := by
          unfold satK
          rw [yielded_iff]
          constructor
          · rintro ⟨d', h1, h2⟩
            rw [hd] at h1
            obtain rfl := Option.some.inj h1
            exact h2
          · intro h; exact ⟨d, hd, h⟩
        -- the inner guard
        have hin : (match optKS (keyStat ops ro st n) key with
            | .yes => ∀ k, key = some k → satK ops a k
            | .no => ∃ k, key = some k ∧ ¬ satK ops a k
            | .sym j => ∃ d key, ∃ b : BE (sem P Q), dstOf ops j = some d ∧ ro.get st d = some (.one (.sc (.bool b)), key) ∧ a.tmps.getD d undef = .bool b.den
            | .bad => True) := by
          cases key with
          | none => simp [optKS]
          | some k =>
            show (match keyStat ops ro st n k with
              | .yes => ∀ k', some k = some k' → satK ops a k'
              | .no => ∃ k', some k = some k' ∧ ¬ satK ops a k'
              | .sym j => ∃ d key, ∃ b : BE (sem P Q), dstOf ops j = some d ∧ ro.get st d = some (.one (.sc (.bool b)), key) ∧ a.tmps.getD d undef = .bool b.den
              | .bad => True)
            have ih := keyStat_ok hf n k
            cases hks : keyStat ops ro st n k <;> rw [hks] at ih <;> simp only [StatOk] at ih ⊢
            · intro k' hk'; obtain rfl := Option.some.inj hk'; exact ih
            · exact ⟨k, rfl, ih⟩
            · exact ih
        generalize hks : optKS (keyStat ops ro st n) key = s at hin ⊢
        cases s with
        | yes =>
          simp only at hin ⊢
          have hv := ent_yes he hin
          split
          · rename_i c
            have hv : a.tmps.getD d undef = .bool c := hv
            cases hc : (c == want)
            · simp only [cond_false, StatOk]
              rw [hsat, hv]
              intro h
              have : c = want := by injection h
              simp [this] at hc
            · simp only [cond_true, StatOk]
              rw [hsat, hv]
              simp at hc
              rw [hc]
          · rename_i b hb
            exact ⟨d, key, b, hd, hg, hv⟩
          · simp only [StatOk]
            rw [hsat, hv]
            simp [undef]
          · simp [StatOk]
        | no =>
          simp only at hin ⊢
          obtain ⟨k, rfl, hk⟩ := hin
          simp only [StatOk]
          rw [hsat, ent_no he hk]
          simp [undef]
        | sym j0 => exact hin
        | bad => simp [StatOk]

theorem keyEq_eq {a b : Nat × Bool} (h : keyEq a b = true) : a = b := by
  unfold keyEq at h
  simp only [Bool.and_eq_true, Nat.beq_eq, beq_iff_eq] at h
  exact Prod.ext h.1 h.2

theorem under_ok (hf : RelF cfg ops ro st a) : ∀ (n : Nat) (k c : Nat × Bool), under ops ro st k n c = true → satK ops a c → satK ops a k
  | 0, k, c, h, _ => by simp [under] at h
  | n + 1, k, c, h, hc => by
    unfold under at h
    simp only [cond_eq_ite] at h
    split at h
    · rename_i he
      rw [keyEq_eq he]; exact hc
    · split at h
      · simp at h
      · rename_i d hd
        split at h
        · rename_i v k' hg
          refine under_ok hf n k k' h ?_
          have he := hf.fr d _ hg
          apply Classical.byContradiction
          intro hn
          have hu := ent_no he hn
          unfold satK at hc
          rw [yielded_iff] at hc
          obtain ⟨d', h1, h2⟩ := hc
          rw [hd] at h1
          obtain rfl := Option.some.inj h1
          rw [hu] at h2
          simp [undef] at h2
        · simp at h

theorem keyOk_ok (hf : RelF cfg ops ro st a) {cur key : Option (Nat × Bool)} (hcur : ∀ c, cur = some c → satK ops a c) (h : keyOk ops ro st cur key = true) : ∀ k, key = some k → satK ops a k := by
  intro k hk
  subst hk
  simp only [keyOk] at h
  have := keyStat_ok hf 50 k
  split at h
  · rename_i hy
    rw [hy] at this; exact this
  · split at h
    · rename_i c
      exact under_ok hf 50 k c h (hcur c rfl)
    · simp at h

theorem rdOf_ok (hf : RelF cfg ops ro st a) {ok : Option (Nat × Bool) → Bool} (hok : ∀ key, ok key = true → ∀ k, key = some k → satK ops a k) : Reads a (rdOf ro st ok) := by
  intro x v h
  cases x with
  | const u =>
    simp only [rdOf, Option.some.injEq] at h
    subst h
    exact (toV_ofValueV u).symm
  | func f =>
    simp only [rdOf, Option.some.injEq] at h
    subst h
    rfl
  | global g =>
    simp only [rdOf, Option.some.injEq] at h
    subst h
    rfl
  | tmp t =>
    simp only [rdOf] at h
    split at h
    · rename_i u key hg
      simp only [cond_eq_ite] at h
      split at h
      · rename_i hk
        simp only [Option.some.injEq] at h
        subst h
        exact ent_yes (hf.fr t _ hg) (hok key hk)
      · simp at h
    · simp at h

theorem rd_ok (hf : RelF cfg ops ro st a) {cur : Option (Nat × Bool)} (hcur : ∀ c, cur = some c → satK ops a c) : Reads a (rdOf ro st (keyOk ops ro st cur)) :=
  rdOf_ok hf fun _ h => keyOk_ok hf hcur h

/-- Slots hold no stray pointers to tracked blocks. -/
def SlAll (ro : Ro (sem P Q)) (st : St (sem P Q)) : Prop := ∀ i e, ro.get st i = some e → SlOk ro st e.1

theorem rd_slOk (hs : SlAll ro st) {ok : Option (Nat × Bool) → Bool} : ∀ x v, rdOf ro st ok x = some v → SlOk ro st v := by
  intro x v h
  cases x with
  | const u =>
    simp only [rdOf, Option.some.injEq] at h
    subst h
    exact slOk_noLoc (ofValueV_noLoc u)
  | func f =>
    simp only [rdOf, Option.some.injEq] at h
    subst h
    trivial
  | global g =>
    simp only [rdOf, Option.some.injEq] at h
    subst h
    trivial
  | tmp t =>
    simp only [rdOf] at h
    split at h
    · rename_i u key hg
      simp only [cond_eq_ite] at h
      split at h
      · simp only [Option.some.injEq] at h
        subst h
        exact hs t _ hg
      · simp at h
    · simp at h

theorem opIdx_some {t : Nat} : ∀ {n j : Nat}, opIdx ops t n = some j → dstOf ops j = some t
  | 0, j, h => by simp [opIdx] at h
  | n + 1, j, h => by
    unfold opIdx at h
    split at h
    · rename_i d hd
      simp only [cond_eq_ite] at h
      split at h
      · rename_i he
        simp only [Option.some.injEq] at h
        subst h
        rw [hd]; simpa using he
      · exact opIdx_some h
    · exact opIdx_some h

theorem den_pickBool (b x y : BE (sem P Q)) : (pickBool b x y).den = if b.den = true then x.den else y.den := by
  have hl : ∀ c, (BE.lit c : BE (sem P Q)).den = c := fun _ => rfl
  unfold pickBool
  split <;> simp only [den_mkAnd, den_mkOr, den_neg, hl] <;> cases hb : BE.den b <;> simp

theorem pick_slOk {c x y : Operand} {v : SL (sem P Q)} {cur : Option (Nat × Bool)} (hs : SlAll ro st) (h : pickOp ops ro st cur c x y = some v) : SlOk ro st v := by
  unfold pickOp at h
  split at h
  · exact rd_slOk hs _ _ h
  · exact rd_slOk hs _ _ h
  · simp only at h
    split at h
    · simp only [Option.some.injEq] at h
      subst h
      trivial
    · simp at h
  · simp at h

theorem run_pick {c x y : Operand} {v : SL (sem P Q)} {cur : Option (Nat × Bool)} {o : Oper} {w : World} (hf : RelF cfg ops ro st a) (hs : SlAll ro st) (hcur : ∀ c, cur = some c → satK ops a c)
    (ho : o.op = .pick c x y) (h : pickOp ops ro st cur c x y = some v) : Gives P o a w v.toV ∧ SlOk ro st v := by
  have hr := rd_ok (P := P) (Q := Q) hf hcur
  have gives : ∀ (t : Bool) (u : Value), a.eval c = .bool t → (if t then a.eval x else a.eval y) = u → Gives P o a w u := by
    intro t u hc hu
    subst hu
    unfold Gives
    cases t <;> simp [execOp, ho, hc, asBool]
  unfold pickOp at h
  split at h
  · rename_i hc
    exact ⟨gives true _ (hr.sc hc) (hr _ _ h), rd_slOk hs _ _ h⟩
  · rename_i hc
    exact ⟨gives false _ (hr.sc hc) (hr _ _ h), rd_slOk hs _ _ h⟩
  · rename_i t _ _ hc
    have hcv : a.eval c = .bool t.den := hr.sc hc
    simp only at h
    split at h
    · rename_i bx by_ hx hy
      simp only [Option.some.injEq] at h
      subst h
      refine ⟨gives t.den _ hcv ?_, trivial⟩
      show _ = Value.bool (pickBool t bx by_).den
      rw [den_pickBool]
      -- the side that is taken is read under its guard
      have side : ∀ (want : Bool) (z : Operand) (u : Sc (sem P Q)), t.den = want →
          (match (match c with | .tmp x => opIdx ops x ops.size | _ => none) with
            | some j => sc? (rdOf ro st (fun key => keyOk ops ro st cur key || (match key with | some k => keyEq k (j, want) | none => false)) z)
            | none => sc? (rdOf ro st (keyOk ops ro st cur) z)) = some u → a.eval z = u.toV := by
        intro want z u hw hz
        split at hz
        · rename_i j hj
          split at hj
          · rename_i tx
            have hdst := opIdx_some hj
            refine (rdOf_ok hf (fun key hk k hkk => ?_)).sc hz
            subst hkk
            simp only [Bool.or_eq_true] at hk
            rcases hk with hk | hk
            · exact keyOk_ok hf hcur hk k rfl
            · rw [keyEq_eq hk]
              unfold satK
              rw [yielded_iff]
              exact ⟨tx, hdst, by rw [← hw]; exact hcv⟩
          · simp at hj
        · exact hr.sc hz
      cases ht : BE.den t
      · exact side false y _ ht hy
      · exact side true x _ ht hx
    · simp at h
  · simp at h
end

/-! ### Regions, one operation at a time -/

/-- The operations in the order of the list. 'C': what is known of the world. -/
def Can (P : Program) (ops : Array Oper) (soft : Oper → Bool) (Qx : Exit → Act → World → Prop) : List Nat → (World → Prop) → Act → Prop
  | [], C, a => ∀ w, C w → Qx .normal a w
  | i :: l, C, a =>
    match ops[i]? with
    | none => Can P ops soft Qx l C a
    | some o =>
      if Region.wanted o (yielded ops a.tmps) then
        (∃ v, (∀ w, C w → Gives P o a w v) ∧ Can P ops soft Qx l C (a.put o.dst v)) ∨
        (∀ w, C w → o.wp P a w (fun a' w' => ∃ C' : World → Prop, C' w' ∧ (soft o = true → ∀ x, C' x → C x) ∧ Can P ops soft Qx l C' a') Qx)
      else Can P ops soft Qx l C (a.put o.dst undef)

theorem can_text {ops : Array Oper} {soft : Oper → Bool} {Qx : Exit → Act → World → Prop} : ∀ (l : List Nat) (C : World → Prop) (a : Act) (w : World), Can P ops soft Qx l C a → C w → wpOps P ops Qx l a w
  | [], C, a, w, h, hw => h w hw
  | i :: l, C, a, w, h, hw => by
    simp only [Can] at h
    simp only [wpOps]
    split at h
    · rename_i ho
      simp only [ho]
      exact can_text l C a w h hw
    · rename_i o ho
      simp only [ho]
      split at h
      · rename_i hwant
        rw [if_pos hwant]
        refine .inl ?_
        rcases h with ⟨v, hv, hc⟩ | h
        · have hg := hv w hw
          unfold Gives at hg
          unfold Oper.wp
          rw [hg]
          exact can_text l C _ w hc hw
        · refine Oper.wp_mono (fun a' w' hk => ?_) (h w hw)
          obtain ⟨C', hC', _, hc⟩ := hk
          exact can_text l C' a' w' hc hC'
      · rename_i hwant
        rw [if_neg hwant]
        exact can_text l C _ w h hw

/-! ### Assoc lists -/

theorem beqF {i j : Nat} (h : ¬ i = j) : Nat.beq i j = false := by
  cases hb : Nat.beq i j
  · rfl
  · exact absurd (Nat.eq_of_beq_eq_true hb) h
theorem beqN {i j : Nat} (h : Nat.beq i j = false) : i ≠ j := fun e => by subst e; simp at h

theorem look_putA {α : Type} : ∀ (l : List (Nat × α)) (i : Nat) (x : α) (j : Nat), look (putA l i x) j = if i = j then some x else look l j
  | [], i, x, j => by
    by_cases h : i = j
    · subst h; simp [putA, look]
    · have : Nat.beq i j = false := beqF h
      simp [putA, look, this, h]
  | (k, v) :: r, i, x, j => by
    unfold putA
    cases hk : Nat.beq k i
    · simp only [cond_false, look]
      rw [look_putA r i x j]
      have hne : k ≠ i := beqN hk
      cases hj : Nat.beq k j
      · rfl
      · have : k = j := by simpa using hj
        subst this
        simp [Ne.symm hne]
    · have hki : k = i := by simpa using hk
      subst hki
      simp only [cond_true, look]
      by_cases h : k = j
      · subst h; simp
      · have : Nat.beq k j = false := beqF h
        simp [this, h]

theorem memN_iff : ∀ (l : List Nat) (i : Nat), memN l i = true ↔ i ∈ l
  | [], i => by simp [memN]
  | k :: r, i => by
    unfold memN
    cases h : Nat.beq k i
    · have : k ≠ i := beqN h
      simp [memN_iff r i, Ne.symm this]
    · have : k = i := by simpa using h
      simp [this]

/-! ### Worlds -/

theorem Ext.of_but {w w' : World} (h : But [] w w') : Ext w w' := ⟨h.os, h.tape, h.output, h.size, fun k hk => h.block k hk (by simp)⟩
theorem But.of_ext {ds : List Nat} {w w' : World} (h : Ext w w') : But ds w w' := ⟨h.os, h.tape, h.output, h.size, fun k hk _ => h.block k hk⟩
theorem Ext.refl (w : World) : Ext w w := Below.refl _ w
theorem Ext.trans {a b c : World} (h : Ext a b) (k : Ext b c) : Ext a c := Below.trans h (Below.mono k h.size)
theorem But.refl (ds : List Nat) (w : World) : But ds w w := ⟨rfl, rfl, rfl, Nat.le_refl _, fun _ _ _ => rfl⟩
theorem But.trans {ds : List Nat} {a b c : World} (h : But ds a b) (k : Ext b c) : But ds a c :=
  ⟨k.os.trans h.os, k.tape.trans h.tape, k.output.trans h.output, Nat.le_trans h.size k.size, fun i hi hn => (k.block i (Nat.lt_of_lt_of_le hi h.size)).trans (h.block i hi hn)⟩
theorem But.mono {ds ds' : List Nat} {a b : World} (h : But ds a b) (hs : ∀ d ∈ ds, d ∈ ds') : But ds' a b :=
  ⟨h.os, h.tape, h.output, h.size, fun i hi hn => h.block i hi fun hm => hn (hs _ hm)⟩

/-- What 'allExt' says, at a world that fits. -/
theorem allExt_at {ds ns : List Nat} {w w' : World} {f : World → Prop} (h : (sem P Q).allExt ds ns w f) (hb : But ds w w') (hn : ∀ b ∈ ns, b < w'.heap.size) : f w' := by
  cases ds with
  | nil => cases ns with
    | nil => exact h w' (Ext.of_but hb)
    | cons b r => exact h w' ⟨hb, hn⟩
  | cons d r => exact h w' ⟨hb, hn⟩

theorem cell_lt {w : World} {a : Addr} {v : Value} (h : w.cell? a = some v) : a.block < w.heap.size := by
  unfold World.cell? at h
  split at h
  · rename_i c t f hc
    exact (Array.getElem?_eq_some_iff.1 hc).1
  · simp at h

theorem add_block (a : Addr) (n : Nat) : (a.add n).block = a.block := by
  unfold Addr.add; split <;> rfl

theorem cell_but {ds : List Nat} {w w' : World} (h : But ds w w') {a : Addr} {v : Value} (hc : w.cell? a = some v) (hf : a.block ∉ ds) : w'.cell? a = some v := by
  rw [← hc]
  exact World.cell?_of_block (w := w) (h.block a.block (cell_lt hc) hf)

/-- The cells that are stored, one behind the other. -/
theorem setCells_frame (a : Addr) : ∀ (vs : List Value) (i : Nat) (w : World),
    (setCells w a vs i).os = w.os ∧ (setCells w a vs i).tape = w.tape ∧ (setCells w a vs i).output = w.output ∧ (setCells w a vs i).heap.size = w.heap.size ∧
      ∀ k, k ≠ a.block → (setCells w a vs i).heap[k]? = w.heap[k]?
  | [], i, w => ⟨rfl, rfl, rfl, rfl, fun _ _ => rfl⟩
  | v :: r, i, w => by
    obtain ⟨h1, h2, h3, h4, h5⟩ := setCells_frame a r (i + 1) (w.setCell (a.add i) v)
    refine ⟨h1, h2, h3, ?_, fun k hk => ?_⟩
    · simp only [setCells]; rw [h4]; simp [World.setCell]
    · simp only [setCells]
      rw [h5 k hk]
      exact Below.heap_setCell _ _ _ _ (by rw [add_block]; exact hk)

theorem setCells_block (b off : Nat) (ty : TypeId) (fz : Nat × Nat) : ∀ (vs : List Value) (i : Nat) (w : World) (cs : List Value), w.heap[b]? = some (.cells cs.toArray ty fz) →
    (setCells w ⟨b, off, none⟩ vs i).heap[b]? = some (.cells (setCellsAt cs (off + i) vs).toArray ty fz)
  | [], i, w, cs, h => h
  | v :: r, i, w, cs, h => by
    simp only [setCells, setCellsAt]
    rw [show off + i + 1 = off + (i + 1) from rfl]
    refine setCells_block b off ty fz r (i + 1) _ _ ?_
    rw [add_loc]
    simp only [World.setCell, Array.getElem?_modify, h]
    simp

theorem isSome_setCell {w : World} {a b : Addr} {v : Value} (h : (w.cell? b).isSome = true) : ((w.setCell a v).cell? b).isSome = true := by
  unfold World.cell? at *
  simp only [World.setCell, Array.getElem?_modify]
  split at h
  · rename_i c t f hc
    rw [hc]
    by_cases hab : a.block = b.block
    · simp only [hab, if_true, Option.map_some]
      split at h
      · simp at h
      · rename_i hs
        simp only [hs, if_false, Bool.false_eq_true]
        split
        · exact h
        · rw [Array.getElem?_setIfInBounds]
          split
          · split
            · rfl
            · rename_i h1 h2
              rw [Array.getElem?_eq_none (by omega : c.size ≤ b.off)] at h
              simp at h
          · exact h
    · simp only [hab, if_false]
      exact h
  · simp at h

theorem frozen_setCell {w : World} {a b : Addr} {v : Value} : (w.setCell a v).frozen? b = w.frozen? b := by
  unfold World.frozen?
  simp only [World.setCell, Array.getElem?_modify]
  by_cases hab : a.block = b.block
  · simp only [hab, if_true]
    cases hb : w.heap[b.block]? with
    | none => rfl
    | some o => cases o <;> rfl
  · simp only [hab, if_false]

theorem run_storeCells (a : Addr) : ∀ (vs : List Value) (i : Nat) (w : World), (∀ j, j < vs.length → (w.cell? (a.add (i + j))).isSome = true) →
    (∀ j, j < vs.length → w.frozen? (a.add (i + j)) = false) → (∀ v ∈ vs, v.oneCell' = true) → (storeCells a vs i).run P w = .ok () (setCells w a vs i)
  | [], i, w, _, _, _ => rfl
  | v :: r, i, w, h1, h2, h3 => by
    have e0 := h1 0 (by simp)
    have f0 := h2 0 (by simp)
    rw [Nat.add_zero] at e0 f0
    obtain ⟨u, hu⟩ := Option.isSome_iff_exists.1 e0
    simp only [storeCells, Sem.run_bind]
    rw [run_store P w _ v .plain (h3 v (List.mem_cons_self ..)), hu]
    simp only [f0, Bool.false_eq_true, if_false, Result.andThen_ok, setCells]
    refine run_storeCells a r (i + 1) _ (fun j hj => ?_) (fun j hj => ?_) (fun v hv => h3 v (List.mem_cons_of_mem _ hv))
    · have := h1 (j + 1) (by simp; omega)
      rw [show i + (j + 1) = i + 1 + j from by omega] at this
      exact isSome_setCell this
    · have := h2 (j + 1) (by simp; omega)
      rw [show i + (j + 1) = i + 1 + j from by omega] at this
      rw [frozen_setCell]; exact this

/-! ### Operations that reach out -/

structure Same (ro : Ro (sem P Q)) (st st' : St (sem P Q)) : Prop where
  ov : st'.ov = st.ov
  slOk : ∀ u, SlOk ro st u → SlOk ro st' u

theorem slOk_mono {ro : Ro (sem P Q)} {st st' : St (sem P Q)} (hn : st.nx ≤ st'.nx) (h : ∀ j, j < st.nx → ∀ b', ro.blk st' j = some b' → ∃ b, ro.blk st j = some b ∧ b.num = b'.num) : ∀ u, SlOk ro st u → SlOk ro st' u := by
  intro u hu
  cases u with
  | one v =>
    cases v with
    | agg l => exact hu
    | sc x =>
      cases x with
      | loc j n off =>
        refine ⟨Nat.lt_of_lt_of_le hu.1 hn, fun b' hb' => ?_⟩
        obtain ⟨b, hb, he⟩ := h j hu.1 b' hb'
        rw [← he]; exact hu.2 b hb
      | _ => trivial
  | tup l => exact hu
  | undef => trivial

section
variable {cfg : Cfg} {ro : Ro (sem P Q)} {st : St (sem P Q)} {a : Act} {o : Oper} {w : World} {rd : Operand → Option (SL (sem P Q))} {put : SL (sem P Q) → St (sem P Q) → Prop} {Qx : Exit → Act → World → Prop}

/-- What is left behind an operation that reaches out. -/
def Left (sf : Prop) (ro : Ro (sem P Q)) (st : St (sem P Q)) (o : Oper) (a : Act) (put : SL (sem P Q) → St (sem P Q) → Prop) (a' : Act) (w' : World) : Prop :=
  ∃ v st', put v st' ∧ a' = a.put o.dst v.toV ∧ (RelW ro st' w' ∧ (sf → ∀ x, RelW ro st' x → RelW ro st x)) ∧ SlOk ro st' v ∧ Same ro st st'

theorem wp_value {v : Value} {w' : World} {K : Act → World → Prop} (h : (execOp a.eval o).run P w = .ok (.value v) w') (hk : K (a.put o.dst v) w') : o.wp P a w K Qx := by
  unfold Oper.wp; rw [h]; exact hk
theorem wp_skip' {w' : World} {K : Act → World → Prop} (h : (execOp a.eval o).run P w = .ok .skip w') (hk : K (a.put o.dst undef) w') : o.wp P a w K Qx := by
  unfold Oper.wp; rw [h]; exact hk

theorem nums_lt (hw : RelW ro st w) {j : Nat} {b : Blk (sem P Q)} (h : ro.blk st j = some b) : (b.num : Nat) < w.heap.size := by
  have := hw.bk j b h
  unfold blkOk at this
  exact (Array.getElem?_eq_some_iff.1 this).1

theorem mem_of_look {α : Type} : ∀ {l : List (Nat × α)} {j : Nat} {x : α}, look l j = some x → (j, x) ∈ l
  | [], j, x, h => by simp [look] at h
  | (k, v) :: r, j, x, h => by
    unfold look at h
    cases hk : Nat.beq k j <;> rw [hk] at h
    · exact List.mem_cons_of_mem _ (mem_of_look h)
    · simp only [cond_true, Option.some.injEq] at h
      subst h
      rw [Nat.eq_of_beq_eq_true hk]
      exact List.mem_cons_self ..

theorem mem_nums {d : Nat} : d ∈ ro.nums st ↔ ∃ j b, j < st.nx ∧ ro.blk st j = some b ∧ b.num = d := by
  unfold Ro.nums
  simp only [List.mem_filterMap, List.mem_range, Option.map_eq_some_iff]
  constructor
  · rintro ⟨j, hj, b, hb, rfl⟩; exact ⟨j, b, hj, hb, rfl⟩
  · rintro ⟨j, b, hj, hb, rfl⟩; exact ⟨j, hj, b, hb, rfl⟩

theorem mem_dn {d : Nat} : d ∈ ro.dn st ↔ ∃ j b, j ∈ st.dirty ∧ ro.blk st j = some b ∧ b.num = d := by
  unfold Ro.dn
  simp only [List.mem_filterMap, Option.map_eq_some_iff]
  constructor
  · rintro ⟨j, hj, b, hb, rfl⟩; exact ⟨j, b, hj, hb, rfl⟩
  · rintro ⟨j, b, hj, hb, rfl⟩; exact ⟨j, hj, b, hb, rfl⟩

theorem nums_size (hw : RelW ro st w) : ∀ d ∈ ro.nums st, d < w.heap.size := by
  intro d hd
  obtain ⟨j, b, _, hb, rfl⟩ := mem_nums.1 hd
  exact nums_lt hw hb

theorem dn_in_nums (hw : RelW ro st w) {d : Nat} (h : d ∈ ro.dn st) : d ∈ ro.nums st := by
  obtain ⟨j, b, hj, hb, rfl⟩ := mem_dn.1 h
  exact mem_nums.2 ⟨j, b, hw.lt j b hb, hb, rfl⟩

theorem blk_moved (w2 : World) (j : Nat) : ro.blk (St.moved (A := sem P Q) st w2) j = ro.blk st j := rfl

theorem dn_moved (w2 : World) : ro.dn (St.moved (A := sem P Q) st w2) = [] := rfl

/-- Behind a step to another world in which the tracked blocks are as they were. -/
theorem relW_moved {w2 : World} (hw : RelW ro st w) (hk : ∀ j b, ro.blk st j = some b → w2.heap[(b.num : Nat)]? = w.heap[(b.num : Nat)]?) : RelW ro (St.moved (A := sem P Q) st w2) w2 where
  but := But.refl _ _
  bk j b h := by unfold blkOk; rw [hk j b h]; exact hw.bk j b h
  lt j b h := hw.lt j b h
  ord i j b c hb hc hij := hw.ord i j b c hb hc hij
  ax j b h hj := absurd (hw.lt j b h) (Nat.not_lt.2 hj)
  nol j b h := hw.nol j b h
  same j b b0 h0 h := hw.same j b b0 h0 h

theorem same_moved (w2 : World) : Same ro st (St.moved (A := sem P Q) st w2) := ⟨rfl, fun u hu => by
  cases u with
  | one v => cases v with
    | agg l => exact hu
    | sc x => cases x <;> first | exact hu | trivial
  | tup l => exact hu
  | undef => trivial⟩

/-- Behind a step that only adds blocks, the anchor stays. -/
theorem relW_ext {w2 : World} (hw : RelW ro st w) (he : Ext w w2) : RelW ro st w2 where
  but := hw.but.trans he
  bk j b h := by unfold blkOk; rw [he.block _ (nums_lt hw h)]; exact hw.bk j b h
  lt := hw.lt
  ord := hw.ord
  ax := hw.ax
  nol := hw.nol
  same := hw.same

theorem same_refl : Same ro st st := ⟨rfl, fun _ h => h⟩

theorem blk_new (st : St (sem P Q)) (b : Blk (sem P Q)) (j : Nat) : ro.blk { st with bl := putA st.bl st.nx b, nx := st.nx + 1 } j = if st.nx = j then some b else ro.blk st j := by
  unfold Ro.blk
  simp only [look_putA]
  by_cases h : st.nx = j
  · simp [h]
  · simp only [h, if_false]

theorem soft_moved {w2 x : World} (hw : RelW ro st w) (hx : Ext w w2) (h : RelW ro (St.moved (A := sem P Q) st w2) x) : RelW ro st x where
  but := hw.but.trans (hx.trans (Ext.of_but h.but))
  bk := fun j b hb => h.bk j b hb
  lt := hw.lt
  ord := hw.ord
  ax := hw.ax
  nol := hw.nol
  same := hw.same

theorem soft_new {b0 : Blk (sem P Q)} {x : World} (hw : RelW ro st w) (hs : (World.heap st.anchor).size ≤ (b0.num : Nat)) (h : RelW ro { st with bl := putA st.bl st.nx b0, nx := st.nx + 1 } x) : RelW ro st x where
  but := ⟨h.but.os, h.but.tape, h.but.output, h.but.size, fun k hk hn => h.but.block k hk fun hm => by
    obtain ⟨j, b, hj, hb, he⟩ := mem_dn.1 hm
    rw [blk_new] at hb
    split at hb
    · obtain rfl := Option.some.inj hb
      have hk : k < (World.heap st.anchor).size := hk
      have he : (b0.num : Nat) = k := he
      exact absurd hk (Nat.not_lt.2 (he ▸ hs))
    · exact hn (mem_dn.2 ⟨j, b, hj, hb, he⟩)⟩
  bk := fun j b hb => h.bk j b (by rw [blk_new, if_neg (Ne.symm (Nat.ne_of_lt (hw.lt j b hb)))]; exact hb)
  lt := hw.lt
  ord := hw.ord
  ax := hw.ax
  nol := hw.nol
  same := hw.same

theorem eff_new {t : TypeId} {v : SV (sem P Q)} (hw : RelW ro st w)
    (hrun : (execOp a.eval o).run P w = .ok (.value (.pointer (some ⟨w.heap.size, 0, none⟩))) (w.alloc (.cells v.toV.cells t)))
    (hpv : noLocV v = true → (∀ u ∈ v.cells.map Sc.toV, u.oneCell' = true) → PartOk v) {sf : Prop} (h : newNode cfg ro st o t v put) : o.wp P a w (Left sf ro st o a put) Qx := by
  refine wp_value hrun ?_
  unfold newNode at h
  split at h
  · exact h.elim
  · rename_i d hd
    simp only [cond_eq_ite] at h
    split at h
    · exact h.elim
    · rename_i hnl
      have hnl : noLocV v = true := by simpa using hnl
      split at h
      · -- a block that is told of
        have h1 := allExt_at (P := P) (Q := Q) h hw.but (nums_size hw)
        obtain ⟨hone, hk⟩ := h1
        have hp := hpv hnl hone
        unfold PartOk at hp
        rw [hp]
        have hx : Ext w (w.alloc (.cells (v.cells.map Sc.toV).toArray t)) := Below.alloc (Below.refl _ w) (Nat.le_refl _) _
        have hpu := hk (some ⟨w.heap.size, 0, none⟩) (w.alloc (.cells (v.cells.map Sc.toV).toArray t))
          ⟨rfl, rfl, hx, Array.size_push .., by show (w.heap.push _)[w.heap.size]? = _; simp⟩
        refine ⟨_, _, hpu, rfl, ⟨relW_moved hw fun j b hb => ?_, fun _ x => soft_moved hw hx⟩, trivial, same_moved _⟩
        exact hx.block _ (nums_lt hw hb)
      · -- a tracked block
        rw [andAll_iff] at h
        obtain ⟨hone, hk⟩ := h
        have hp : PartOk v := partOk hone
        unfold PartOk at hp
        rw [hp]
        have hpu := hk w.heap.size hw.but.size
        have hx : Ext w (w.alloc (.cells (v.cells.map Sc.toV).toArray t)) := Below.alloc (Below.refl _ w) (Nat.le_refl _) _
        have hnew : ∀ j b, ro.blk { st with bl := putA st.bl st.nx ⟨w.heap.size, t, v.cells⟩, nx := st.nx + 1 } j = some b → (j = st.nx ∧ b = ⟨w.heap.size, t, v.cells⟩) ∨ (j ≠ st.nx ∧ ro.blk st j = some b) := by
          intro j b hb
          rw [blk_new] at hb
          split at hb
          · rename_i he; exact .inl ⟨he.symm, (Option.some.inj hb).symm⟩
          · rename_i he; exact .inr ⟨Ne.symm he, hb⟩
        refine ⟨_, _, hpu, rfl, ⟨?_, fun _ x => soft_new hw hw.but.size⟩, ?_, ⟨rfl, ?_⟩⟩
        · refine ⟨?_, ?_, ?_, ?_, ?_, ?_, ?_⟩
          · refine (hw.but.trans hx).mono fun d hd => ?_
            obtain ⟨j, b, hj, hb, rfl⟩ := mem_dn.1 hd
            refine mem_dn.2 ⟨j, b, hj, ?_, rfl⟩
            rw [blk_new, if_neg (Ne.symm (Nat.ne_of_lt (hw.lt j b hb)))]
            exact hb
          · intro j b hb
            rcases hnew j b hb with ⟨rfl, rfl⟩ | ⟨_, hb⟩
            · show (w.heap.push _)[w.heap.size]? = _
              simp
            · unfold blkOk; rw [hx.block _ (nums_lt hw hb)]; exact hw.bk j b hb
          · intro j b hb
            rcases hnew j b hb with ⟨rfl, _⟩ | ⟨_, hb⟩
            · exact Nat.lt_succ_self _
            · exact Nat.lt_succ_of_lt (hw.lt j b hb)
          · intro i j b c hb hc hij
            rcases hnew i b hb with ⟨rfl, rfl⟩ | ⟨_, hb⟩
            · rcases hnew j c hc with ⟨rfl, _⟩ | ⟨_, hc⟩
              · exact absurd hij (Nat.lt_irrefl _)
              · have := hw.lt j c hc; omega
            · rcases hnew j c hc with ⟨rfl, rfl⟩ | ⟨_, hc⟩
              · exact nums_lt hw hb
              · exact hw.ord i j b c hb hc hij
          · intro j b hb hj
            rcases hnew j b hb with ⟨rfl, rfl⟩ | ⟨_, hb⟩
            · exact hw.but.size
            · exact hw.ax j b hb hj
          · intro j b hb
            rcases hnew j b hb with ⟨rfl, rfl⟩ | ⟨_, hb⟩
            · exact hnl
            · exact hw.nol j b hb
          · intro j b b0 h0 hb
            rcases hnew j b hb with ⟨rfl, rfl⟩ | ⟨_, hb⟩
            · exfalso
              have : ∃ b1, ro.blk st st.nx = some b1 := by
                unfold Ro.blk
                split
                · exact ⟨_, rfl⟩
                · exact ⟨b0, h0⟩
              obtain ⟨b1, hb1⟩ := this
              exact Nat.lt_irrefl _ (hw.lt _ _ hb1)
            · exact hw.same j b b0 h0 hb
        · refine ⟨Nat.lt_succ_self _, fun b hb => ?_⟩
          rcases hnew _ b hb with ⟨_, rfl⟩ | ⟨h, _⟩
          · rfl
          · exact absurd rfl h
        · refine slOk_mono (Nat.le_succ _) fun j hj b' hb' => ?_
          rcases hnew j b' hb' with ⟨rfl, _⟩ | ⟨_, hb⟩
          · exact absurd hj (Nat.lt_irrefl _)
          · exact ⟨b', hb, rfl⟩

theorem one_part {v : SV (sem P Q)} (h : ∀ u ∈ v.cells.map Sc.toV, u.oneCell' = true) : PartOk v := by
  cases v with
  | agg l => rfl
  | sc x =>
    have h1 : x.toV.oneCell' = true := h _ (by simp [SV.cells])
    show x.toV.cells = #[x.toV]
    generalize x.toV = u at h1
    cases u <;> first | rfl | (simp [Value.oneCell'] at h1)

theorem run_box {t : TypeId} {x : Operand} {v : Value} (ho : o.op = .box t x) (hx : a.eval x = v) : (execOp a.eval o).run P w = .ok (.value (.pointer (some ⟨w.heap.size, 0, none⟩))) (w.alloc (.cells v.cells t)) := by
  simp [execOp, ho, Instr.box, newVar, newRow, hx]

theorem run_alloc {t : TypeId} {v : SV (sem P Q)} (ho : o.op = .alloc t) (hz : (zeroOf P t : Option (SV (sem P Q))) = some v) : (execOp a.eval o).run P w = .ok (.value (.pointer (some ⟨w.heap.size, 0, none⟩))) (w.alloc (.cells v.toV.cells t)) := by
  have hzv : (zeroValue t).run P w = .ok v.toV w := by
    unfold zeroOf at hz
    cases hi : P.info? t with
    | none => simp [hi] at hz
    | some i =>
      cases hzz : i.zero with
      | none => simp [hi, hzz] at hz
      | some z =>
        simp only [hi, Option.bind_some, hzz, Option.some.injEq] at hz
        subst hz
        rw [toV_ofValueV]
        simp [zeroValue, typeInfo, hi, hzz]
  simp [execOp, ho, Instr.alloc, hzv, newVar, newRow]


/-! ### Values that are told by what follows -/

theorem exSh_some {nm : String} {s : Sh} {f : Sc (sem P Q) → Prop} (h : exSh (A := sem P Q) nm s f) : ∃ x, noLoc x = true ∧ f x := by
  cases s with
  | int k => obtain ⟨n, h⟩ := h; exact ⟨_, rfl, h⟩
  | bool => obtain ⟨n, h⟩ := h; exact ⟨_, rfl, h⟩
  | str => obtain ⟨n, h⟩ := h; exact ⟨_, rfl, h⟩
  | slc => obtain ⟨p, l, c, h⟩ := h; exact ⟨_, rfl, h⟩
  | ptr => obtain ⟨n, h⟩ := h; exact ⟨_, rfl, h⟩
  | val => obtain ⟨n, h⟩ := h; exact ⟨_, rfl, h⟩

theorem exShs_some {nm : String} : ∀ {l : List Sh} {i : Nat} {f : List (Sc (sem P Q)) → Prop}, exShs (A := sem P Q) nm i l f → ∃ x, x.all noLoc = true ∧ f x
  | [], i, f, h => ⟨[], rfl, h⟩
  | s :: r, i, f, h => by
    obtain ⟨x, hx, h⟩ := exSh_some h
    obtain ⟨y, hy, h⟩ := exShs_some h
    exact ⟨x :: y, by simp [hx, hy], h⟩

theorem exTy_some {nm : String} {t : TypeId} {f : SV (sem P Q) → Prop} (h : exTy (A := sem P Q) P nm t f) : ∃ x, noLocV x = true ∧ f x := by
  unfold exTy at h
  simp only [cond_eq_ite] at h
  split at h
  · obtain ⟨x, hx, h⟩ := exShs_some h
    exact ⟨.agg x, hx, h⟩
  · obtain ⟨x, hx, h⟩ := exSh_some h
    exact ⟨.sc x, by simp [noLocV, SV.cells, hx], h⟩

theorem exTys_some : ∀ {l : List (String × TypeId)} {f : List (SV (sem P Q)) → Prop}, exTys (A := sem P Q) P l f → ∃ x, x.all noLocV = true ∧ f x
  | [], f, h => ⟨[], rfl, h⟩
  | (nm, t) :: r, f, h => by
    obtain ⟨x, hx, h⟩ := exTy_some h
    obtain ⟨y, hy, h⟩ := exTys_some h
    exact ⟨x :: y, by simp [hx, hy], h⟩

theorem resultOf_slOk {l : List (SV (sem P Q))} (h : l.all noLocV = true) : SlOk ro st (resultOf l) := by
  unfold resultOf
  split
  · simp only [List.all_cons, List.all_nil, Bool.and_true] at h
    exact slOk_noLoc h
  · exact h

/-! ### Loads -/

theorem oCell_some {ds : List Nat} {wa : World} {p : Option Addr} {i : Nat} {v : Value} (h : (sem P Q).oCell ds wa p i v) : cell wa p i = some v ∧ Free ds p := by
  cases ds with
  | nil => exact ⟨h, fun b hb => by cases hb⟩
  | cons d r => exact h

theorem loadSc_some {ds : List Nat} {wa : World} {nm : String} {p : Option Addr} : ∀ {l : List Sh} {i : Nat} {f : List (Sc (sem P Q)) → Prop}, loadSc (A := sem P Q) ds wa nm p i l f →
    ∃ x, x.all noLoc = true ∧ (∀ j u, x[j]? = some u → cell wa p (i + j) = some u.toV) ∧ (x ≠ [] → Free ds p) ∧ f x
  | [], i, f, h => ⟨[], rfl, by simp, by simp, h⟩
  | s :: r, i, f, h => by
    obtain ⟨x, hx, h1, h2⟩ := exSh_some h
    obtain ⟨hc, hfr⟩ := oCell_some (P := P) (Q := Q) h1
    obtain ⟨y, hy, hyc, _, h⟩ := loadSc_some h2
    refine ⟨x :: y, by simp [hx, hy], ?_, fun _ => hfr, h⟩
    intro j u hj
    cases j with
    | zero => simp only [List.getElem?_cons_zero, Option.some.injEq] at hj; subst hj; exact hc
    | succ j =>
      rw [List.getElem?_cons_succ] at hj
      have := hyc j u hj
      rw [show i + (j + 1) = i + 1 + j from by omega]; exact this

theorem cell_addr {wa : World} {p : Option Addr} {i : Nat} {v : Value} (h : cell wa p i = some v) : ∃ q, p = some q ∧ wa.cell? (q.add i) = some v := by
  cases p with
  | none => simp [cell] at h
  | some q => exact ⟨q, rfl, h⟩

theorem eff_load {nm : String} {t : TypeId} {x : Operand} {p : Option Addr} (hr : Reads a rd) (ho : o.op = .load t x) (hx : sc? (rd x) = some (Sc.ptr (A := sem P Q) p))
    (h : loadNode P ro st nm o t p put) : ∃ v, (∀ w, RelW ro st w → Gives P o a w v.toV) ∧ SlOk ro st v ∧ put v st := by
  have ex := hr.sc hx
  unfold loadNode at h
  split at h
  · exact h.elim
  · rename_i d hd
    simp only [cond_eq_ite] at h
    split at h
    · rename_i hbig
      have hagg : isAggT P t = true := by simp only [Bool.and_eq_true] at hbig; exact hbig.1
      obtain ⟨u, ⟨cs, rfl, hl, hc, hfr, hp⟩, h⟩ := h
      refine ⟨.one (.sc (.val (.agg cs.toArray))), fun w hw => ?_, trivial, h⟩
      cases p with
      | none => exact absurd rfl hp
      | some q =>
        refine gives_of (s := Instr.loadAt t (a.eval x)) (by simp [execOp, ho]) ?_
        rw [ex]
        simp only [toV_ptr, Instr.loadAt, Instr.sureAddr, Sem.run_bind, Sem.run_pure, Result.andThen_ok, loadVar, run_isAgg' hd, hagg, if_true, run_sizeOf' hd]
        have hlc : ∀ j u, cs[j]? = some u → w.cell? (q.add j) = some u := by
          intro j u hj
          have h2 : st.anchor.cell? (q.add j) = some u := hc j u hj
          refine cell_but hw.but h2 ?_
          intro hm
          exact hfr _ hm q rfl (add_block q j).symm
        have := run_loadCells_list (P := P) (w := w) q cs hlc
        rw [hl] at this
        rw [this]; simp
    split at h
    · rename_i hagg
      obtain ⟨hp, h⟩ := h
      obtain ⟨cs, hn, hc, hfr, h⟩ := loadSc_some h
      split at h
      · rename_i hl
        have hl : cs.length = P.cellsOf t := by simpa using hl
        refine ⟨.one (.agg cs), fun w hw => ?_, hn, h⟩
        cases p with
        | none => exact absurd rfl hp
        | some q =>
          refine gives_of (s := Instr.loadAt t (a.eval x)) (by simp [execOp, ho]) ?_
          rw [ex]
          simp only [toV_ptr, Instr.loadAt, Instr.sureAddr, Sem.run_bind, Sem.run_pure, Result.andThen_ok, loadVar, run_isAgg' hd, hagg, if_true, run_sizeOf' hd]
          have hlc : ∀ j u, (cs.map Sc.toV)[j]? = some u → w.cell? (q.add j) = some u := by
            intro j u hj
            rw [List.getElem?_map] at hj
            simp only [Option.map_eq_some_iff] at hj
            obtain ⟨y, hy, rfl⟩ := hj
            have h1 := hc j y hy
            rw [Nat.zero_add] at h1
            have h2 : st.anchor.cell? (q.add j) = some y.toV := h1
            refine cell_but hw.but h2 ?_
            have hne : cs ≠ [] := by intro h0; rw [h0] at hy; simp at hy
            intro hm
            exact hfr hne _ hm q rfl (add_block q j).symm
          have := run_loadCells_list (P := P) (w := w) q (cs.map Sc.toV) hlc
          rw [List.length_map, hl] at this
          rw [this]; simp
      · exact h.elim
    · rename_i hagg
      obtain ⟨cs, hn, hc, hfr, h'⟩ := loadSc_some h
      clear h
      split at h'
      · rename_i y
        have h1 := hc 0 y rfl
        rw [Nat.add_zero] at h1
        obtain ⟨q, rfl, h2⟩ := cell_addr h1
        have h2 : st.anchor.cell? q = some y.toV := h2
        refine ⟨.one (.sc y), fun w hw => ?_, slOk_sc (by simpa using hn), h'⟩
        refine gives_of (s := Instr.loadAt t (a.eval x)) (by simp [execOp, ho]) ?_
        rw [ex]
        have h3 : w.cell? q = some y.toV := cell_but hw.but h2 fun hm => hfr (by simp) _ hm q rfl rfl
        have hagg : isAggT P t = false := by simpa using hagg
        simp [Instr.loadAt, Instr.sureAddr, loadVar, run_isAgg' hd, hagg, h3]
      · exact h'.elim

/-! ### Stores -/

theorem relW_store {w2 : World} {st2 : St (sem P Q)} (hw : RelW ro st w) (hbl : st2.bl = st.bl) (hnx : st2.nx = st.nx) (hax : st2.ax = st.ax) (hd : st2.dirty = st.dirty)
    (hbut : But (ro.dn st) st2.anchor w2) (hsz : (World.heap st2.anchor).size = (World.heap st.anchor).size) (hk : ∀ j b, ro.blk st j = some b → w2.heap[(b.num : Nat)]? = w.heap[(b.num : Nat)]?) : RelW ro st2 w2 := by
  have hb : ∀ j, ro.blk st2 j = ro.blk st j := fun j => by unfold Ro.blk; rw [hbl]
  have hdn : ro.dn st2 = ro.dn st := by unfold Ro.dn; rw [hd]; congr 1; funext j; rw [hb]
  refine ⟨by rw [hdn]; exact hbut, fun j b h => ?_, fun j b h => ?_, fun i j b c h1 h2 => ?_, fun j b h hj => ?_, fun j b h => ?_, fun j b b0 h0 h => ?_⟩
  · rw [hb] at h; unfold blkOk; rw [hk j b h]; exact hw.bk j b h
  · rw [hb] at h; rw [hnx]; exact hw.lt j b h
  · rw [hb] at h1 h2; exact hw.ord i j b c h1 h2
  · rw [hb] at h; rw [hax] at hj; rw [hsz]; exact hw.ax j b h hj
  · rw [hb] at h; exact hw.nol j b h
  · rw [hb] at h; exact hw.same j b b0 h0 h

theorem setCells_but {ds : List Nat} {wa w : World} (h : But ds wa w) {q : Addr} (hq : q.block < wa.heap.size) (hf : q.block ∉ ds) (vs : List Value) : ∀ i, But ds (setCells wa q vs i) (setCells w q vs i) := by
  induction vs generalizing wa w with
  | nil => intro i; exact h
  | cons v r ih =>
    intro i
    refine ih ?_ ?_ _
    · refine ⟨h.os, h.tape, h.output, ?_, fun k hk hn => ?_⟩
      · simp only [World.setCell, Array.size_modify]; exact h.size
      · simp only [World.setCell, Array.size_modify] at hk
        simp only [World.setCell, Array.getElem?_modify]
        rw [h.block k hk hn]
    · simp only [World.setCell, Array.size_modify]; exact hq

theorem run_store_op {t : TypeId} {x y : Operand} {q : Addr} {v : SV (sem P Q)} {w2 : World} (ho : o.op = .store t x y) (hx : a.eval x = .pointer (some q)) (hy : a.eval y = v.toV) (hv : PartOk v) (hsz : v.cells.length = P.cellsOf t) (h0 : P.cellsOf t ≠ 0)
    (hrun : (storeCells q (v.cells.map Sc.toV) 0).run P w = .ok () w2) : (execOp a.eval o).run P w = .ok .skip w2 := by
  unfold PartOk at hv
  have hs : (sizeOf t).run P w = .ok (P.cellsOf t) w := by
    unfold Program.cellsOf at *
    cases hi : P.info? t with
    | none => simp [hi] at h0
    | some i => simp [sizeOf, typeInfo, hi]
  simp only [execOp, ho, Instr.storeAt, hx, hy, Instr.sureAddr, storeVar, Sem.run_bind, Sem.run_pure, Result.andThen_ok, hs, hv, List.size_toArray, List.length_map, hsz]
  simp [hrun]

theorem blk_set {st2 : St (sem P Q)} {j : Nat} {b' : Blk (sem P Q)} (hbl : st2.bl = putA st.bl j b') (i : Nat) : ro.blk st2 i = if j = i then some b' else ro.blk st i := by
  unfold Ro.blk
  rw [hbl, look_putA]
  by_cases h : j = i
  · simp [h]
  · simp only [h, if_false]

theorem eff_store {t : TypeId} {x y : Operand} {sx : Sc (sem P Q)} {v : SV (sem P Q)} (hr : Reads a rd) (hs : ∀ x v, rd x = some v → SlOk ro st v) (ho : o.op = .store t x y) (hx : sc? (rd x) = some sx) (hy : one? (rd y) = some v)
    (hw : RelW ro st w) (h : storeNode P ro st o t sx v put) : o.wp P a w (Left False ro st o a put) Qx := by
  have ex := hr.sc hx
  have ey := hr.one hy
  unfold storeNode at h
  simp only [cond_eq_ite] at h
  split at h
  · exact h.elim
  · rename_i hc
    have hc : (v.cells.length = P.cellsOf t ∧ noLocV v = true) ∧ P.cellsOf t ≠ 0 := by
      simpa [Nat.beq_eq] using hc
    obtain ⟨⟨hsz, hnl⟩, h0⟩ := hc
    split at h
    · -- a tracked block
      rename_i j n off
      split at h
      · rename_i b hb
        split at h
        · rename_i hfit
          have hfit : off + v.cells.length ≤ b.cells.length := by simpa using hfit
          rw [andAll_iff] at h
          obtain ⟨hone, hk⟩ := h
          have hv := partOk hone
          have hloc := hs _ _ (sc?_some hx)
          have hnum : b.num = n := hloc.2 b hb
          have hbk : w.heap[(n : Nat)]? = some (.cells (b.cells.map Sc.toV).toArray b.ty) := by
            have := hw.bk j b hb; unfold blkOk at this; rw [hnum] at this; exact this
          have hcell : ∀ i, i < v.cells.length → (w.cell? (Addr.add ⟨n, off, none⟩ i)).isSome = true := by
            intro i hi
            rw [add_loc]
            simp only [World.cell?, hbk]
            simp; omega
          have hfr : ∀ i, w.frozen? (Addr.add ⟨n, off, none⟩ i) = false := by
            intro i
            rw [add_loc]
            simp [World.frozen?, hbk]
          have honec : ∀ u ∈ v.cells.map Sc.toV, u.oneCell' = true := by
            intro u hu
            obtain ⟨z, hz, rfl⟩ := List.mem_map.1 hu
            have hall : ∀ (l : List (Sc (sem P Q))), All (oneObs l) → ∀ z ∈ l, (z.toV).oneCell' = true := by
              intro l
              induction l with
              | nil => intro _ z hz; cases hz
              | cons c r ih =>
                intro h z hz
                rcases List.mem_cons.1 hz with rfl | hz
                · cases z <;> first | rfl | exact h.1
                · refine ih ?_ z hz
                  cases c <;> first | exact h | exact h.2
            exact hall _ hone z hz
          have hrun := run_storeCells (P := P) ⟨n, off, none⟩ (v.cells.map Sc.toV) 0 w (by intro i hi; rw [Nat.zero_add]; exact hcell i (by simpa using hi)) (by intro i _; exact hfr _) honec
          refine wp_skip' (run_store_op ho (by rw [ex]; rfl) ey hv hsz h0 hrun) ?_
          obtain ⟨f1, f2, f3, f4, f5⟩ := setCells_frame ⟨n, off, none⟩ (v.cells.map Sc.toV) 0 w
          have fb := setCells_block n off b.ty (0, 0) (v.cells.map Sc.toV) 0 w (b.cells.map Sc.toV) hbk
          rw [Nat.add_zero, ← setCellsAt_eq] at fb
          have hblk : ∀ i b', (if j = i then some ({ b with cells := setCellsAt b.cells off v.cells } : Blk (sem P Q)) else ro.blk st i) = some b' → (i = j ∧ b' = { b with cells := setCellsAt b.cells off v.cells }) ∨ (i ≠ j ∧ ro.blk st i = some b') := by
            intro i b' h
            split at h
            · rename_i he; exact .inl ⟨he.symm, (Option.some.inj h).symm⟩
            · rename_i he; exact .inr ⟨Ne.symm he, h⟩
          have hne : ∀ i b', i ≠ j → ro.blk st i = some b' → (b'.num : Nat) ≠ n := by
            intro i b' hij hb' he
            rcases Nat.lt_or_gt_of_ne hij with hl | hg
            · have h3 := hw.ord i j b' b hb' hb hl; rw [hnum] at h3; exact Nat.ne_of_lt h3 he
            · have h3 := hw.ord j i b b' hb hb' hg; rw [hnum] at h3; exact Nat.ne_of_gt h3 he
          refine ⟨_, _, hk, rfl, ⟨?_, fun h => h.elim⟩, trivial, ⟨rfl, ?_⟩⟩
          · have hget := fun i => blk_set (P := P) (Q := Q) (ro := ro) (st := st) (st2 := { st with bl := putA st.bl j { b with cells := setCellsAt b.cells off v.cells }, dirty := dirtied st j }) (j := j) (b' := { b with cells := setCellsAt b.cells off v.cells }) rfl i
            refine ⟨?_, ?_, ?_, ?_, ?_, ?_, ?_⟩
            · refine ⟨f1.trans hw.but.os, f2.trans hw.but.tape, f3.trans hw.but.output, by rw [f4]; exact hw.but.size, fun k hk hn => ?_⟩
              have hkn : k ≠ n := by
                intro hkn
                subst hkn
                -- the block lies below the anchor: then it is told as turned
                by_cases hj : j < st.ax
                · refine hn (mem_dn.2 ⟨j, { b with cells := setCellsAt b.cells off v.cells }, ?_, by rw [hget, if_pos rfl], hnum⟩)
                  have hblt : Nat.blt j st.ax = true := by rw [Nat.blt_eq]; exact hj
                  simp only [dirtied, hblt, Bool.true_and]
                  cases hm : memN st.dirty j
                  · simp
                  · simp only [Bool.not_true, cond_false]; exact (memN_iff _ _).1 hm
                · have h3 := hw.ax j b hb (Nat.not_lt.1 hj)
                  rw [hnum] at h3; exact absurd hk (Nat.not_lt.2 h3)
              rw [f5 k hkn]
              refine hw.but.block k hk fun hm => hn ?_
              obtain ⟨i, b', hi, hb', hnb⟩ := mem_dn.1 hm
              by_cases hij : i = j
              · subst hij
                rw [hb] at hb'
                obtain rfl := Option.some.inj hb'
                exact absurd (hnb.symm.trans hnum) hkn
              · refine mem_dn.2 ⟨i, b', ?_, by rw [hget, if_neg (Ne.symm hij)]; exact hb', hnb⟩
                simp only [dirtied, cond_eq_ite]
                split
                · exact List.mem_cons_of_mem _ hi
                · exact hi
            · intro i b' hb'
              rw [hget] at hb'
              rcases hblk i b' hb' with ⟨_, rfl⟩ | ⟨hij, hb'⟩
              · show _ = _
                rw [show (({ b with cells := setCellsAt b.cells off v.cells } : Blk (sem P Q)).num) = n from hnum]
                exact fb
              · unfold blkOk
                rw [f5 _ (hne i b' hij hb')]
                exact hw.bk i b' hb'
            · intro i b' hb'
              rw [hget] at hb'
              rcases hblk i b' hb' with ⟨rfl, rfl⟩ | ⟨hij, hb'⟩
              · exact hw.lt _ b hb
              · exact hw.lt i b' hb'
            · intro i k b1 b2 h1 h2 hik
              rw [hget] at h1 h2
              rcases hblk i b1 h1 with ⟨e1, f1⟩ | ⟨_, g1⟩ <;> rcases hblk k b2 h2 with ⟨e2, f2⟩ | ⟨_, g2⟩
              · rw [e1, e2] at hik; exact absurd hik (Nat.lt_irrefl _)
              · rw [f1]; rw [e1] at hik; exact hw.ord _ k b b2 hb g2 hik
              · rw [f2]; rw [e2] at hik; exact hw.ord i _ b1 b g1 hb hik
              · exact hw.ord i k b1 b2 g1 g2 hik
            · intro i b' hb' hi
              rw [hget] at hb'
              rcases hblk i b' hb' with ⟨rfl, rfl⟩ | ⟨_, hb'⟩
              · exact hw.ax _ b hb hi
              · exact hw.ax i b' hb' hi
            · intro i b' hb'
              rw [hget] at hb'
              rcases hblk i b' hb' with ⟨rfl, rfl⟩ | ⟨_, hb'⟩
              · exact setCellsAt_all _ _ _ (hw.nol _ b hb) hnl
              · exact hw.nol i b' hb'
            · intro i b' b0 h0 hb'
              rw [hget] at hb'
              rcases hblk i b' hb' with ⟨rfl, rfl⟩ | ⟨_, hb'⟩
              · exact hw.same _ b b0 h0 hb
              · exact hw.same i b' b0 h0 hb'
          · refine slOk_mono (Nat.le_refl _) fun i _ b' hb' => ?_
            rw [blk_set (P := P) (Q := Q) (ro := ro) (st := st) rfl i] at hb'
            rcases hblk i b' hb' with ⟨rfl, rfl⟩ | ⟨_, hb'⟩
            · exact ⟨b, hb, rfl⟩
            · exact ⟨b', hb', rfl⟩
        · exact h.elim
      · exact h.elim
    · -- memory that is told of
      rename_i p
      obtain ⟨hok, hk⟩ := h
      cases p with
      | none => exact absurd rfl hok.some
      | some q =>
        have hv := one_part hok.one
        have hpos : 0 < v.cells.length := by omega
        have hcell : ∀ i, i < v.cells.length → ∃ u, st.anchor.cell? (q.add i) = some u := fun i hi => Option.isSome_iff_exists.1 (hok.cells i (by simpa using hi))
        obtain ⟨u0, hu0⟩ := hcell 0 hpos
        have hq : q.block < (World.heap st.anchor).size := by have := cell_lt hu0; rwa [add_block] at this
        have hnn : q.block ∉ ro.nums st := fun hm => hok.apart _ hm q rfl rfl
        have hnd : q.block ∉ ro.dn st := fun hm => hnn (dn_in_nums hw hm)
        have hblkq : w.heap[q.block]? = (World.heap st.anchor)[q.block]? := hw.but.block _ hq hnd
        have hrun := run_storeCells (P := P) q (v.cells.map Sc.toV) 0 w
          (by intro i hi; rw [Nat.zero_add]; obtain ⟨u, hu⟩ := hcell i (by simpa using hi); rw [cell_but hw.but hu (by rw [add_block]; exact hnd)]; rfl)
          (by intro i hi; rw [Nat.zero_add]; have := hok.free i (by simpa using hi) q rfl
              rw [← this]; exact World.frozen?_of_block (w := st.anchor) (by rw [add_block]; exact hblkq)) hok.one
        refine wp_skip' (run_store_op ho (by rw [ex]; rfl) ey hv hsz h0 hrun) ?_
        have hpu := hk _ rfl
        refine ⟨_, _, hpu, rfl, ⟨?_, fun h => h.elim⟩, trivial, ⟨rfl, slOk_mono (Nat.le_refl _) fun i _ b' hb' => ⟨b', hb', rfl⟩⟩⟩
        obtain ⟨f1, f2, f3, f4, f5⟩ := setCells_frame q (v.cells.map Sc.toV) 0 w
        obtain ⟨g1, g2, g3, g4, g5⟩ := setCells_frame q (v.cells.map Sc.toV) 0 st.anchor
        refine relW_store hw rfl rfl rfl rfl (setCells_but hw.but hq hnd _ 0) g4 fun j b hb => f5 _ ?_
        intro he
        exact hnn (he ▸ mem_nums.2 ⟨j, b, hw.lt j b hb, hb, rfl⟩)
    · exact h.elim

/-! ### Calls, and instructions that are told as they stand -/

theorem keptAnd_some {ns : List Nat} {w2 : World} {k : Prop} (h : keptAnd (A := sem P Q) ns w w2 k) : (∀ b ∈ ns, w2.heap[b]? = w.heap[b]?) ∧ k := by
  unfold keptAnd at h
  split at h
  · exact ⟨fun b hb => (by cases hb), h⟩
  · exact ⟨h.1, h.2⟩

theorem kept_blk {w2 : World} (hw : RelW ro st w) (hk : ∀ b ∈ ro.nums st, w2.heap[b]? = w.heap[b]?) : ∀ j b, ro.blk st j = some b → w2.heap[(b.num : Nat)]? = w.heap[(b.num : Nat)]? :=
  fun j b hb => hk _ (mem_nums.2 ⟨j, b, hw.lt j b hb, hb, rfl⟩)

theorem eff_callNode {nm : String} {ext : Bool} {rts : List TypeId} {call : World → (Value → World → Prop) → Prop} (hw : RelW ro st w)
    (hcall : ∀ K, call w K → ∃ f args, (execOp a.eval o).run P w = .ok (.enter f args) w ∧ Calls P f args w (fun e w' => ∃ v, e = .returned v ∧ K v w'))
    (h : callNode P ro st nm ext rts call put) : o.wp P a w (Left (ext = true) ro st o a put) Qx := by
  unfold callNode at h
  simp only at h
  have h1 := allExt_at (P := P) (Q := Q) h hw.but (by
    intro b hb
    simp only [cond_eq_ite] at hb
    split at hb
    · cases hb
    · exact nums_size hw b hb)
  obtain ⟨f, args, hrun, hc⟩ := hcall _ h1
  unfold Oper.wp
  rw [hrun]
  refine hc.mono fun e w2 ⟨v, he, hv⟩ => ?_
  subst he
  show Left (ext = true) ro st o a put (a.put o.dst v) w2
  simp only [cond_eq_ite] at hv
  split at hv
  · obtain ⟨hx, hv⟩ := hv
    have hx : Ext w w2 := hx
    split at hv
    · obtain ⟨l, hl, he, hv⟩ := exTys_some hv
      have he : v = (resultOf l).toV := he
      exact ⟨_, _, hv, by rw [he], ⟨relW_moved hw fun j b hb => hx.block _ (nums_lt hw hb), fun _ x => soft_moved hw hx⟩, resultOf_slOk hl, same_moved _⟩
    · obtain ⟨l, hl, he, hv⟩ := exTys_some hv
      have he : v = (resultOf l).toV := he
      exact ⟨_, _, hv, by rw [he], ⟨relW_ext hw hx, fun _ x h => h⟩, resultOf_slOk hl, same_refl⟩
  · obtain ⟨hk, hv⟩ := keptAnd_some hv
    obtain ⟨l, hl, he, hv⟩ := exTys_some hv
    have he : v = (resultOf l).toV := he
    exact ⟨_, _, hv, by rw [he], ⟨relW_moved hw (kept_blk hw hk), fun h => absurd h ‹¬ext = true›⟩, resultOf_slOk hl, same_moved _⟩

theorem run_call_fn {f : Operand} {args : Array Operand} {ats : Array TypeId} {g : Nat} {cap : Array Value} (ho : o.op = .call { callee := .value f, args, argTypes := ats }) (hf : a.eval f = .func (.func g) #[] cap)
    (he : Enters P g) : (execOp a.eval o).run P w = .ok (.enter g (args.map a.eval ++ cap)) w := by
  have : execOp a.eval o = (do let d ← resolve a.eval { callee := .value f, args, argTypes := ats } o.type; invoke d.target d.args) := by
    cases o; subst ho; rfl
  rw [this]
  simp only [resolve, hf, Deferred.ofValue, Sem.run_bind, Sem.run_pure, Result.andThen_ok, invoke]
  rw [he]; simp

theorem run_call_fb {f : Operand} {args : Array Operand} {ats : Array TypeId} {g : Nat} {bd cap : Array Value} (ho : o.op = .call { callee := .value f, args, argTypes := ats }) (hf : a.eval f = .func (.func g) bd cap)
    (he : Enters P g) : (execOp a.eval o).run P w = .ok (.enter g (bd ++ args.map a.eval ++ cap)) w := by
  have : execOp a.eval o = (do let d ← resolve a.eval { callee := .value f, args, argTypes := ats } o.type; invoke d.target d.args) := by
    cases o; subst ho; rfl
  rw [this]
  simp only [resolve, hf, Deferred.ofValue, Sem.run_bind, Sem.run_pure, Result.andThen_ok, invoke]
  rw [he]

theorem ne_soft {c : Bool} {p : Prop} (h : (bif c then Kd.read else Kd.hard) = Kd.soft) : p := by cases c <;> cases h
theorem soft_of {c : Bool} (h : (bif c then Kd.soft else Kd.hard) = Kd.soft) : c = true := by cases c <;> first | rfl | cases h

theorem left_mono {sf sf' : Prop} {a' : Act} {w' : World} (h : sf' → sf) (hl : Left sf ro st o a put a' w') : Left sf' ro st o a put a' w' := by
  obtain ⟨v, st', h1, h2, ⟨h3, h4⟩, h5, h6⟩ := hl
  exact ⟨v, st', h1, h2, ⟨h3, fun hs => h4 (h hs)⟩, h5, h6⟩

theorem soft_known {f : Operand} {g : Nat} {cap : List Value} (hs : softF cfg f = true) (ef : a.eval f = (SV.sc (Sc.fn (A := sem P Q) g cap)).toV) : (!memN cfg.muts g) = true := by
  unfold softF at hs
  split at hs
  · rename_i g'
    have : g' = g := by
      simp only [Act.eval, SV.toV, Sc.toV] at ef
      injection ef with e1 e2 e3
      injection e1
    simp only [Bool.and_eq_true] at hs
    rw [← this]; exact hs.1
  · rw [List.isEmpty_iff.1 hs]; rfl

theorem soft_any {f : Operand} (hs : softF cfg f = true) : (!memN cfg.muts 1000000) = true := by
  unfold softF at hs
  split at hs
  · simp only [Bool.and_eq_true] at hs
    exact hs.2
  · rw [List.isEmpty_iff.1 hs]; rfl

theorem eff_call {nm : String} {f : Operand} {args : Array Operand} {ats : Array TypeId} (hr : Reads a rd) (ho : o.op = .call { callee := .value f, args, argTypes := ats }) (hw : RelW ro st w)
    (h : callOp P cfg ro st rd nm o f args.toList put) : o.wp P a w (Left (softF cfg f = true) ro st o a put) Qx := by
  unfold callOp at h
  split at h
  · rename_i g cap l hf hl
    have ef := hr.one hf
    have el := rdAll_some hr hl
    have ea : args.map a.eval = (l.map SV.toV).toArray := by rw [← el, ← Array.toList_map]
    simp only [cond_eq_ite] at h
    split at h
    · refine Oper.wp_mono (fun _ _ => left_mono (fun hs => soft_known hs ef)) (eff_callNode hw (fun K hK => ?_) h)
      have hK : FnP P g (l.map SV.toV ++ cap).toArray w K := hK
      refine ⟨g, _, run_call_fn ho ef hK.1, ?_⟩
      have e2 : args.map a.eval ++ cap.toArray = (l.map SV.toV ++ cap).toArray := by rw [ea]; simp
      rw [e2]; exact hK.2
    · exact h.elim
  · rename_i u l hf hl
    have ef := hr.one hf
    have el := rdAll_some hr hl
    have ea : args.map a.eval = (l.map SV.toV).toArray := by rw [← el, ← Array.toList_map]
    simp only [cond_eq_ite] at h
    split at h
    · refine Oper.wp_mono (fun _ _ => left_mono (fun hs => soft_any hs)) (eff_callNode hw (fun K hK => ?_) h)
      have hK : (bif memN cfg.muts 2000000 then FnVB P u (l.map SV.toV) w K else FnVP P u (l.map SV.toV) w K) := by
        revert hK
        cases memN cfg.muts 2000000 <;> exact id
      simp only [cond_eq_ite] at hK
      split at hK
      · obtain ⟨g, bd, cap, hu, hK⟩ := hK
        have hu : u = .func (.func g) bd cap := hu
        refine ⟨g, _, run_call_fb ho (by rw [ef]; exact hu) hK.1, ?_⟩
        rw [ea]; exact hK.2
      · obtain ⟨g, cap, hu, hK⟩ := hK
        have hu : u = .func (.func g) #[] cap := hu
        refine ⟨g, _, run_call_fn ho (by rw [ef]; exact hu) hK.1, ?_⟩
        rw [ea]; exact hK.2
    · exact h.elim
  · exact h.elim

theorem run_invoke {r : Operand} {m : String} {args : Array Operand} {ats : Array TypeId} {t : TypeId} {x : Value} {g : Nat} {rv : Value} (ho : o.op = .call { callee := .invoke r m, args, argTypes := ats }) (hf : a.eval r = .iface t x)
    (hm : (method (P.types.size + Made.depth) t x m).run P w = .ok (g, rv) w) (he : Enters P g) : (execOp a.eval o).run P w = .ok (.enter g (#[rv] ++ args.map a.eval)) w := by
  have : execOp a.eval o = (do let d ← resolve a.eval { callee := .invoke r m, args, argTypes := ats } o.type; invoke d.target d.args) := by
    cases o; subst ho; rfl
  rw [this]
  have e1 : (#[Value.iface t x] ++ args.map a.eval)[0]? = some (Value.iface t x) := by rw [Array.getElem?_append_left (by simp)]; rfl
  have e2 : (#[Value.iface t x] ++ args.map a.eval).extract 1 (#[Value.iface t x] ++ args.map a.eval).size = args.map a.eval := by
    apply Array.ext'
    simp
    exact List.take_of_length_le (by simp)
  simp only [resolve, hf, Sem.run_bind, Sem.run_pure, Result.andThen_ok, invoke, e1, e2, callMethod]
  rw [show (Sem.run P program w) = .ok P w from rfl]
  simp only [Result.andThen_ok]
  rw [hm]
  simp only [Result.andThen_ok]
  rw [he]

theorem eff_inv {nm : String} {r : Operand} {m : String} {args : Array Operand} {ats : Array TypeId} (hr : Reads a rd) (ho : o.op = .call { callee := .invoke r m, args, argTypes := ats }) (hw : RelW ro st w)
    (h : invOp P cfg ro st rd nm o r m args.toList put) : o.wp P a w (Left (false = true) ro st o a put) Qx := by
  unfold invOp at h
  split at h
  · rename_i v l hf hl
    have ef := hr.one hf
    have el := rdAll_some hr hl
    have ea : args.map a.eval = (l.map SV.toV).toArray := by rw [← el, ← Array.toList_map]
    simp only [cond_eq_ite] at h
    split at h
    · refine eff_callNode hw (fun K hK => ?_) h
      obtain ⟨t, x, g, rv, hv, hm, hK⟩ := hK
      have hv : v.toV = .iface t x := hv
      refine ⟨g, _, run_invoke ho (by rw [ef]; exact hv) hm hK.1, ?_⟩
      rw [ea]; exact hK.2
    · exact h.elim
  · exact h.elim

theorem eff_run {nm : String} {rts : Option (List TypeId)} {m : MC Value} (hw : RelW ro st w)
    (hrun : ∀ v w', (MC.sem m).run P w = .ok v w' → (match rts with | some _ => (execOp a.eval o).run P w = .ok (.value v) w' | none => (execOp a.eval o).run P w = .ok .skip w'))
    (h : runNode P ro st nm rts m put) : o.wp P a w (Left False ro st o a put) Qx := by
  unfold runNode at h
  simp only at h
  have h1 := allExt_at (P := P) (Q := Q) h hw.but (nums_size hw)
  obtain ⟨v, w2, hm, hv⟩ := h1
  have hr := hrun v w2 hm
  obtain ⟨hk, hv⟩ := keptAnd_some hv
  have hk := kept_blk hw hk
  cases rts with
  | some l =>
    obtain ⟨l, hl, he, hv⟩ := exTys_some hv
    have he : v = (resultOf l).toV := he
    exact wp_value hr ⟨_, _, hv, by rw [he], ⟨relW_moved hw hk, fun h => h.elim⟩, resultOf_slOk hl, same_moved _⟩
  | none => exact wp_skip' hr ⟨_, _, hv, rfl, ⟨relW_moved hw hk, fun h => h.elim⟩, trivial, same_moved _⟩

theorem eff_runS {nm : String} {rts : List TypeId} {m : MC Value} (hw : RelW ro st w)
    (hrun : ∀ v w', (MC.sem m).run P w = .ok v w' → (execOp a.eval o).run P w = .ok (.value v) w')
    (h : callNode (A := sem P Q) P ro st nm true rts (fun w kk => Run P m w kk) put) : o.wp P a w (Left True ro st o a put) Qx := by
  unfold callNode at h
  simp only at h
  have h1 := allExt_at (P := P) (Q := Q) h hw.but (by
    intro b hb
    simp only [cond_eq_ite] at hb
    split at hb
    · cases hb
    · exact nums_size hw b hb)
  obtain ⟨v, w2, hm, hv⟩ := h1
  refine wp_value (hrun v w2 hm) ?_
  simp only [cond_true] at hv
  obtain ⟨hx, hv⟩ := hv
  have hx : Ext w w2 := hx
  simp only [cond_eq_ite] at hv
  split at hv
  · obtain ⟨l, hl, he, hv⟩ := exTys_some hv
    have he : v = (resultOf l).toV := he
    exact ⟨_, _, hv, by rw [he], ⟨relW_moved hw fun j b hb => hx.block _ (nums_lt hw hb), fun _ x => soft_moved hw hx⟩, resultOf_slOk hl, same_moved _⟩
  · obtain ⟨l, hl, he, hv⟩ := exTys_some hv
    have he : v = (resultOf l).toV := he
    exact ⟨_, _, hv, by rw [he], ⟨relW_ext hw hx, fun _ x h => h⟩, resultOf_slOk hl, same_refl⟩

theorem kd_mc {o : Oper} (h : kdOf P cfg o = .soft) (h1 : ∀ t x, o.op ≠ .box t x) (h2 : ∀ t, o.op ≠ .alloc t) (h3 : ∀ f a t, o.op ≠ .call ⟨.value f, a, t⟩) : (softOp o && !isSkip o) = true := by
  cases ho : o.op with
  | box t x => exact absurd ho (h1 t x)
  | alloc t => exact absurd ho (h2 t)
  | call c =>
    obtain ⟨callee, args, ats⟩ := c
    cases callee with
    | value f => exact absurd ho (h3 f args ats)
    | invoke f m => simp [kdOf, ho, softOp] at h
    | builtin b => cases b <;> simp [kdOf, ho, softOp, isSkip] at h ⊢
  | _ => simp [kdOf, ho, softOp, isSkip] at h ⊢

theorem eqGuard_opd (op : BinOp) (t : TypeId) (x y : Operand) (u v : Value) : eqGuard op t x y u v = eqGuard op t (opd (isConst x)) (opd (isConst y)) u v := by
  unfold eqGuard
  cases x <;> cases y <;> rfl

theorem oneV_some (hr : Reads a rd) {x : Operand} {v : Value} (h : oneV (A := sem P Q) rd x = some v) : a.eval x = v := by
  unfold oneV at h
  split at h
  · rename_i u hu
    simp only [cond_eq_ite] at h
    split at h
    · simp only [Option.some.injEq] at h
      rw [hr.one hu]; exact h
    · simp at h
  · simp at h

theorem optV_some (hr : Reads a rd) {x : Option Operand} {v : Option Value} (h : optV (A := sem P Q) rd x = some v) : x.map a.eval = v := by
  cases x with
  | none => simp only [optV, Option.some.injEq] at h; subst h; rfl
  | some x =>
    simp only [optV, Option.map_eq_some_iff] at h
    obtain ⟨u, hu, rfl⟩ := h
    simp [oneV_some hr hu]

/-- How the operation's run follows from the instruction's. -/
def Follows (P : Program) (o : Oper) (a : Act) (m : MC Value) : Prop := ∀ w v w', (MC.sem m).run P w = .ok v w' → (if isSkip o then (execOp a.eval o).run P w = .ok .skip w' else (execOp a.eval o).run P w = .ok (.value v) w')

theorem follows_v {m : MC Value} (hs : isSkip o = false) (h : execOp a.eval o = (do pure (.value (← MC.sem m)))) : Follows P o a m := by
  intro w v w' hm
  rw [hs]
  simp only [Bool.false_eq_true, if_false]
  rw [h]; simp [hm]

theorem mcOf_ok {m : MC Value} (hr : Reads a rd) (h : mcOf P rd o = some m) : Follows P o a m := by
  cases ho : o.op with
  | call c =>
    obtain ⟨callee, args, ats⟩ := c
    cases callee with
    | value f => simp [mcOf, ho] at h
    | invoke f m => simp [mcOf, ho] at h
    | builtin b =>
      simp only [mcOf, ho] at h
      split at h
      · rename_i l hl
        have el := rdAll_some hr hl
        have ea : args.map a.eval = (l.map SV.toV).toArray := by rw [← el, ← Array.toList_map]
        have hx : execOp a.eval o = builtin b ats o.type (args.map fun | .const _ => true | _ => false) (args.map a.eval) := by
          cases o; subst ho; rfl
        simp only [cond_eq_ite] at h
        split at h
        · simp at h
        · cases b <;> simp only [Option.some.injEq, reduceCtorEq] at h <;> subst h <;>
            exact follows_v (by simp [isSkip, ho]) (by rw [hx, ea]; rfl)
      · simp at h
  | makeSlice t l c =>
    simp only [mcOf, ho, Option.bind_eq_some_iff, Option.map_eq_some_iff] at h
    obtain ⟨x, hx, y, hy, rfl⟩ := h
    refine follows_v (by simp [isSkip, ho]) ?_
    simp [execOp, ho, MC.sem, oneV_some hr hx, oneV_some hr hy]
  | buildSlice t n parts =>
    simp only [mcOf, ho, Option.bind_eq_some_iff] at h
    obtain ⟨l, hl, h⟩ := h
    simp only [cond_eq_ite] at h
    split at h
    · simp only [Option.some.injEq] at h
      subst h
      have e := rdParts_some hr hl
      refine follows_v (by simp [isSkip, ho]) ?_
      have e2 : (parts.map fun (i, x) => (i, a.eval x)) = (l.map fun x => (x.1, x.2.toV)).toArray := by rw [← e, ← Array.toList_map]
      simp only [execOp, ho, MC.sem, e2]
    · simp at h
  | lookup t m x ok =>
    simp only [mcOf, ho, Option.bind_eq_some_iff, Option.map_eq_some_iff] at h
    obtain ⟨u, hu, y, hy, rfl⟩ := h
    exact follows_v (by simp [isSkip, ho]) (by simp [execOp, ho, MC.sem, oneV_some hr hu, oneV_some hr hy])
  | mapUpdate t m x y =>
    simp only [mcOf, ho, Option.bind_eq_some_iff, Option.map_eq_some_iff] at h
    obtain ⟨u, hu, z, hz, c, hc, rfl⟩ := h
    intro w v w' hm
    simp only [MC.sem, Sem.run_bind] at hm
    have : isSkip o = true := by simp [isSkip, ho]
    rw [this]
    simp only [if_true, execOp, ho, oneV_some hr hu, oneV_some hr hz, oneV_some hr hc, Sem.run_bind]
    cases hq : (Instr.mapUpdate t u z c).run P w with
    | ok x w2 => rw [hq] at hm; simp at hm; simp [hm.2]
    | halt x w2 => rw [hq] at hm; simp at hm
  | insert t m x y =>
    simp only [mcOf, ho, Option.bind_eq_some_iff, Option.map_eq_some_iff] at h
    obtain ⟨u, hu, z, hz, c, hc, rfl⟩ := h
    intro w v w' hm
    simp only [MC.sem, Sem.run_bind] at hm
    have : isSkip o = true := by simp [isSkip, ho]
    rw [this]
    simp only [if_true, execOp, ho, oneV_some hr hu, oneV_some hr hz, oneV_some hr hc, Sem.run_bind]
    cases hq : (Instr.mapUpdate t u z c).run P w with
    | ok x w2 => rw [hq] at hm; simp at hm; simp [hm.2]
    | halt x w2 => rw [hq] at hm; simp at hm
  | makeMap t r =>
    cases r with
    | none =>
      simp only [mcOf, ho, Option.some.injEq] at h
      subst h
      exact follows_v (by simp [isSkip, ho]) (by simp [execOp, ho, MC.sem])
    | some x => simp [mcOf, ho] at h
  | range t x =>
    simp only [mcOf, ho, Option.map_eq_some_iff] at h
    obtain ⟨u, hu, rfl⟩ := h
    exact follows_v (by simp [isSkip, ho]) (by simp [execOp, ho, MC.sem, oneV_some hr hu])
  | next x s =>
    simp only [mcOf, ho, Option.map_eq_some_iff] at h
    obtain ⟨u, hu, rfl⟩ := h
    exact follows_v (by simp [isSkip, ho]) (by simp [execOp, ho, MC.sem, oneV_some hr hu])
  | entry x =>
    simp only [mcOf, ho, Option.map_eq_some_iff] at h
    obtain ⟨u, hu, rfl⟩ := h
    exact follows_v (by simp [isSkip, ho]) (by simp [execOp, ho, MC.sem, oneV_some hr hu])
  | extract x i =>
    simp only [mcOf, ho, Option.map_eq_some_iff] at h
    obtain ⟨u, hu, rfl⟩ := h
    exact follows_v (by simp [isSkip, ho]) (by simp [execOp, ho, MC.sem, oneV_some hr hu])
  | convert src dst x =>
    simp only [mcOf, ho, Option.map_eq_some_iff] at h
    obtain ⟨u, hu, rfl⟩ := h
    exact follows_v (by simp [isSkip, ho]) (by simp [execOp, ho, MC.sem, oneV_some hr hu])
  | binOp op t x y ty =>
    simp only [mcOf, ho, Option.bind_eq_some_iff, Option.map_eq_some_iff] at h
    obtain ⟨u, hu, z, hz, rfl⟩ := h
    refine follows_v (by simp [isSkip, ho]) ?_
    simp only [execOp, ho, MC.sem, oneV_some hr hu, oneV_some hr hz]
    rw [eqGuard_opd]
  | makeInterface t x =>
    simp only [mcOf, ho, Option.map_eq_some_iff] at h
    obtain ⟨u, hu, rfl⟩ := h
    exact follows_v (by simp [isSkip, ho]) (by simp [execOp, ho, MC.sem, oneV_some hr hu])
  | typeAssert x t u ok =>
    simp only [mcOf, ho, Option.map_eq_some_iff] at h
    obtain ⟨z, hu, rfl⟩ := h
    exact follows_v (by simp [isSkip, ho]) (by simp [execOp, ho, MC.sem, oneV_some hr hu])
  | index t x i =>
    simp only [mcOf, ho, Option.bind_eq_some_iff, Option.map_eq_some_iff] at h
    obtain ⟨u, hu, z, hz, rfl⟩ := h
    exact follows_v (by simp [isSkip, ho]) (by simp [execOp, ho, MC.sem, oneV_some hr hu, oneV_some hr hz])
  | slice t x lo hi mx =>
    simp only [mcOf, ho, Option.bind_eq_some_iff, Option.map_eq_some_iff] at h
    obtain ⟨u, hu, b, hb, c, hc, d, hd, rfl⟩ := h
    exact follows_v (by simp [isSkip, ho]) (by simp only [execOp, ho, MC.sem, oneV_some hr hu, optV_some hr hb, optV_some hr hc, optV_some hr hd])
  | _ => simp [mcOf, ho] at h

/-- Every operation that reaches out. -/
theorem eff_op (hr : Reads a rd) (hs : ∀ x v, rd x = some v → SlOk ro st v) (h : effOp P cfg ro st rd o put) :
    (∃ v, (∀ w, RelW ro st w → Gives P o a w v.toV) ∧ SlOk ro st v ∧ put v st) ∨ (isLoad o = false ∧ ∀ w, RelW ro st w → o.wp P a w (Left (kdOf P cfg o = .soft) ro st o a put) Qx) := by
  have hmc : mcNode P ro st rd (nameOf cfg o.dst) o put → ∀ w, RelW ro st w → o.wp P a w (Left ((softOp o && !isSkip o) = true) ro st o a put) Qx := by
    intro h w hw
    unfold mcNode at h
    split at h
    · rename_i m hm
      simp only [cond_eq_ite] at h
      split at h
      · rename_i hsoft
        refine Oper.wp_mono (fun _ _ => left_mono (fun _ => trivial)) (eff_runS hw (fun v w' hv => ?_) h)
        have := mcOf_ok hr hm w v w' hv
        have hk : isSkip o = false := by simp at hsoft; exact hsoft.2
        rw [hk] at this
        simpa using this
      · rename_i hsoft
        refine Oper.wp_mono (fun _ _ => left_mono (fun h => hsoft h)) (eff_run hw (fun v w' hv => ?_) h)
        have := mcOf_ok hr hm w v w' hv
        cases hk : isSkip o <;> rw [hk] at this <;> simpa using this
    · exact h.elim
  cases ho : o.op with
  | box t x =>
    simp only [effOp, ho] at h
    split at h
    · rename_i v hv
      exact .inr ⟨by simp [isLoad, ho], fun w hw => eff_new hw (run_box ho (hr.one hv)) (fun _ h1 => one_part h1) h⟩
    · exact h.elim
  | alloc t =>
    simp only [effOp, ho] at h
    split at h
    · rename_i v hv
      exact .inr ⟨by simp [isLoad, ho], fun w hw => eff_new hw (run_alloc ho hv) (fun _ h1 => one_part h1) h⟩
    · exact h.elim
  | load t x =>
    simp only [effOp, ho] at h
    split at h
    · rename_i p hp
      exact .inl (eff_load hr ho hp h)
    · exact h.elim
  | store t x y =>
    simp only [effOp, ho] at h
    split at h
    · rename_i sx v hx hy
      exact .inr ⟨by simp [isLoad, ho], fun w hw => Oper.wp_mono (fun _ _ => left_mono (fun h => by simp [kdOf, ho, softOp] at h)) (eff_store hr hs ho hx hy hw h)⟩
    · exact h.elim
  | call c =>
    obtain ⟨callee, args, ats⟩ := c
    cases callee with
    | value f =>
      simp only [effOp, ho] at h
      exact .inr ⟨by simp [isLoad, ho], fun w hw => Oper.wp_mono (fun _ _ => left_mono (fun h => soft_of (by simpa [kdOf, ho] using h))) (eff_call hr ho hw h)⟩
    | invoke f m =>
      simp only [effOp, ho] at h
      exact .inr ⟨by simp [isLoad, ho], fun w hw => Oper.wp_mono (fun _ _ => left_mono (fun h => by simp [kdOf, ho, softOp] at h)) (eff_inv hr ho hw h)⟩
    | builtin b => exact .inr ⟨by simp [isLoad, ho], fun w hw => Oper.wp_mono (fun _ _ => left_mono (fun h => kd_mc h (by intro _ _ he; rw [ho] at he; cases he) (by intro _ he; rw [ho] at he; cases he) (by intro _ _ _ he; rw [ho] at he; cases he))) (hmc (by simpa only [effOp, ho] using h) w hw)⟩
  | _ => exact .inr ⟨by simp [isLoad, ho], fun w hw => Oper.wp_mono (fun _ _ => left_mono (fun h => kd_mc h (by intro _ _ he; rw [ho] at he; cases he) (by intro _ he; rw [ho] at he; cases he) (by intro _ _ _ he; rw [ho] at he; cases he))) (hmc (by simpa only [effOp, ho] using h) w hw)⟩
end
end Go.Sx
