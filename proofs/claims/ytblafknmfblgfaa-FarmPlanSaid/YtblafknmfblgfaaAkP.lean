/- Asks: trees, where they lie in memory, what is wrong with them. -/
import Derived.Test.YtblafknmfblgfaaNdA
import Derived.Test.YtblafknmfblgfaaTxtB
import Derived.Laws.IdiomStrings
set_option linter.unusedVariables false
set_option linter.unusedSimpArgs false
namespace Go.Proofs.Ytblafknmfblgfaa
open Go.Sx Go.RowKit

/-- The bytes of a text, as numbers. -/
def bytesI (s : ByteArray) : List Int := s.data.toList.map fun b => (b.toNat : Int)
theorem bytesI_len (s : ByteArray) : (bytesI s).length = s.size := by simp [bytesI]
theorem bytesI_at {s : ByteArray} {i : Nat} (h : i < s.size) : (bytesI s).getD i 0 = sAt s i := by
  have h' : i < s.data.toList.length := by simpa using h
  simp only [bytesI, sAt, List.getD_eq_getElem?_getD, List.getElem?_map, Int.toNat_natCast, List.getElem?_eq_getElem h', Option.map_some, Option.getD_some]
/-- '[]byte(s)': the bytes in a new row. -/
theorem run_s2b {P : Program} {src dst e : TypeId} {s : ByteArray} (hs : P.underlying src = some .string) (hd : P.underlying dst = some (.slice e)) (he : P.underlying e = some (.int .u8)) {w : World} {K : Value → World → Prop}
    (hk : ∀ p c w', Ext w w' → Ints .u8 w' p (bytesI s) → K (.slice p s.size c) w') : Run P (.convert src dst (.string s)) w K := by
  refine ⟨_, _, run_bytes_of_string w src dst e s hs hd he, hk _ _ _ ?_ fun i v hv => ?_⟩
  · exact Below.alloc (B := w.heap.size) (a := w) (w := w.drew) ⟨rfl, rfl, rfl, Nat.le_refl _, fun _ _ => rfl⟩ (Nat.le_refl _) _
  · obtain ⟨hi, hv⟩ := List.getElem?_eq_some_iff.1 hv
    have hi' : i < s.data.size := by simpa [bytesI] using hi
    have hc := World.cell?_alloc_mark w.drew (bytesRow s (grownCap w s.size 0 e)) e ((bytesRow s (grownCap w s.size 0 e)).size, (bytesRow s (grownCap w s.size 0 e)).size + 1) i
    rw [bytesRow_at s _ i hi'] at hc
    simp only [cell, Option.bind_some]
    have ha : (Addr.add ⟨w.heap.size, 0, none⟩ i) = ⟨w.drew.heap.size, i, none⟩ := by simp [Addr.add]; intro h; exact h.symm
    rw [ha, hc, ← hv]
    simp [bytesI]

inductive AT where
  | mk (k : Int) (key val : ByteArray) (n : Int) (xs : List AT)
def AT.k : AT → Int | .mk k _ _ _ _ => k
def AT.key : AT → ByteArray | .mk _ key _ _ _ => key
def AT.val : AT → ByteArray | .mk _ _ val _ _ => val
def AT.n : AT → Int | .mk _ _ _ n _ => n
def AT.xs : AT → List AT | .mk _ _ _ _ xs => xs
theorem AT.eta (t : AT) : t = .mk t.k t.key t.val t.n t.xs := by cases t; rfl
theorem AT.ind {P : AT → Prop} (h : ∀ k key val n xs, (∀ x ∈ xs, P x) → P (.mk k key val n xs)) (t : AT) : P t := by
  refine AT.rec (motive_1 := P) (motive_2 := fun l => ∀ x ∈ l, P x) ?_ ?_ ?_ t
  · intro k key val n xs ih; exact h k key val n xs ih
  · intro x hx; cases hx
  · intro x l h1 h2 y hy
    rcases List.mem_cons.1 hy with rfl | hy
    · exact h1
    · exact h2 y hy

/-- An ask's cells. -/
def encA (t : AT) (p : Option Addr) (c : Nat) : List Value := [.int .i64 t.k, .string t.key, .string t.val, .int .i64 t.n, .slice p t.xs.length c]
abbrev av (t : AT) (p : Option Addr) (c : Nat) : Value := .agg #[.int .i64 t.k, .string t.key, .string t.val, .int .i64 t.n, .slice p t.xs.length c]
theorem encA_len (t : AT) (p : Option Addr) (c : Nat) : (encA t p c).length = 5 := rfl

mutual
/-- Where an ask's inner ones lie. -/
def IsT (w : World) : AT → Option Addr → Nat → Prop
  | .mk _ _ _ _ xs, p, c => xs.length ≤ c ∧ IsL w xs p 0
def IsL (w : World) : List AT → Option Addr → Nat → Prop
  | [], _, _ => True
  | x :: r, p, i => (∃ p' c', (∀ j u, (encA x p' c')[j]? = some u → cell w p (i * 5 + j) = some u) ∧ IsT w x p' c') ∧ IsL w r p (i + 1)
end

theorem IsL.get {w : World} : ∀ {xs : List AT} {p : Option Addr} {i : Nat}, IsL w xs p i → ∀ {j : Nat} {x : AT}, xs[j]? = some x → ∃ p' c', (∀ m u, (encA x p' c')[m]? = some u → cell w p ((i + j) * 5 + m) = some u) ∧ IsT w x p' c'
  | [], p, i, h, j, x, hx => by simp at hx
  | y :: r, p, i, h, j, x, hx => by
    unfold IsL at h
    cases j with
    | zero =>
      simp at hx; subst hx
      exact h.1
    | succ j =>
      have := IsL.get h.2 (j := j) (x := x) (by simpa using hx)
      rw [show i + (j + 1) = i + 1 + j by omega]
      exact this

theorem IsL.of {w : World} : ∀ {xs : List AT} {p : Option Addr} {i : Nat}, (∀ (j : Nat) (x : AT), xs[j]? = some x → ∃ p' c', (∀ m u, (encA x p' c')[m]? = some u → cell w p ((i + j) * 5 + m) = some u) ∧ IsT w x p' c') → IsL w xs p i
  | [], p, i, h => by unfold IsL; trivial
  | y :: r, p, i, h => by
    unfold IsL
    refine ⟨h 0 y rfl, IsL.of fun j x hx => ?_⟩
    have := h (j + 1) x (by simpa using hx)
    rw [show i + (j + 1) = i + 1 + j by omega] at this
    exact this

theorem IsT.ext {w w' : World} (he : Ext w w') : ∀ (t : AT) (p : Option Addr) (c : Nat), IsT w t p c → IsT w' t p c := by
  intro t
  induction t using AT.ind with
  | h k key val n xs ih =>
    intro p c h
    unfold IsT at h ⊢
    refine ⟨h.1, IsL.of fun j x hx => ?_⟩
    obtain ⟨p', c', h1, h2⟩ := h.2.get hx
    exact ⟨p', c', fun m u hu => ext_cell he (h1 m u hu), ih x (List.mem_of_getElem? hx) p' c' h2⟩

/-- An ask's kth inner one, as the code reads it. -/
theorem IsT.at {w : World} {t : AT} {p : Option Addr} {c : Nat} (h : IsT w t p c) {k : Int} (h0 : 0 ≤ k) (hk : k < t.xs.length) :
    ∃ x p' c', t.xs[k.toNat]? = some x ∧ x ∈ t.xs ∧ IsT w x p' c' ∧ p ≠ none ∧ pIdx p k 5 ≠ none ∧ cell w (pIdx p k 5) 0 = some (.int .i64 x.k) ∧ cell w (pIdx p k 5) 1 = some (.string x.key) ∧ cell w (pIdx p k 5) 2 = some (.string x.val) ∧
      cell w (pIdx p k 5) 3 = some (.int .i64 x.n) ∧ cell w (pIdx p k 5) 4 = some (.slice p' x.xs.length c') := by
  cases t with
  | mk kk key val n xs =>
    unfold IsT at h
    have hk : k < xs.length := hk
    obtain ⟨x, hx⟩ : ∃ x, xs[k.toNat]? = some x := ⟨_, List.getElem?_eq_getElem (by omega)⟩
    obtain ⟨p', c', h1, h2⟩ := h.2.get hx
    simp only [Nat.zero_add] at h1
    have g : ∀ (m : Nat) u, (encA x p' c')[m]? = some u → cell w (pIdx p k 5) m = some u := fun m u hu => by rw [cell_pIdx]; exact h1 m u hu
    have g0 := g 0 _ rfl
    exact ⟨x, p', c', hx, List.mem_of_getElem? hx, h2, fun hq => cell_p g0 (pIdx_none.2 hq), cell_p g0, g0, g 1 _ rfl, g 2 _ rfl, g 3 _ rfl, g 4 _ rfl⟩

mutual
/-- All is of a size that there can be. -/
def WfA : AT → Prop
  | .mk k key val n xs => InR .i64 k ∧ key.size ≤ 9223372036854775807 ∧ val.size ≤ 9223372036854775807 ∧ InR .i64 n ∧ xs.length ≤ 9223372036854775807 ∧ WfL xs
def WfL : List AT → Prop
  | [] => True
  | x :: r => WfA x ∧ WfL r
end
theorem WfL.mem : ∀ {l : List AT}, WfL l → ∀ x ∈ l, WfA x
  | [], _, x, hx => by cases hx
  | y :: r, h, x, hx => by
    unfold WfL at h
    rcases List.mem_cons.1 hx with rfl | hx
    · exact h.1
    · exact WfL.mem h.2 x hx
theorem WfL.of : ∀ {l : List AT}, (∀ x ∈ l, WfA x) → WfL l
  | [], _ => by unfold WfL; trivial
  | y :: r, h => by unfold WfL; exact ⟨h y (List.mem_cons_self ..), WfL.of fun x hx => h x (List.mem_cons_of_mem _ hx)⟩
theorem WfA.len {t : AT} (h : WfA t) : t.xs.length ≤ 9223372036854775807 := by cases t; unfold WfA at h; exact h.2.2.2.2.1
theorem WfA.sub {t : AT} (h : WfA t) : ∀ x ∈ t.xs, WfA x := by cases t; unfold WfA at h; exact h.2.2.2.2.2.mem

/-- An ask that came in is a tree. -/
theorem ask_good {w : World} : ∀ (n : Nat) (cs : List Value), Go.Sx.Good Try.prog w n T_Ask cs → ∃ t p c, cs = encA t p c ∧ IsT w t p c ∧ WfA t := by
  intro n
  induction n using Nat.strongRecOn with
  | _ n ih =>
  intro cs hg
  have hlv := leaves_ok (P := Try.prog) 6 T_Ask [T_int, T_string, T_string, T_int64, T_sl_Ask] n cs (by kernel_rfl) hg
  obtain ⟨v0, r0, rfl, l0, hlv⟩ := lvs_cons hlv
  obtain ⟨v1, r1, rfl, l1, hlv⟩ := lvs_cons hlv
  obtain ⟨v2, r2, rfl, l2, hlv⟩ := lvs_cons hlv
  obtain ⟨v3, r3, rfl, l3, hlv⟩ := lvs_cons hlv
  obtain ⟨v4, r4, rfl, l4, hlv⟩ := lvs_cons hlv
  obtain rfl := lvs_nil hlv
  obtain ⟨k, rfl, hk⟩ := leaf_int (k := .i64) (by kernel_rfl) l0
  obtain ⟨key, rfl, hkey⟩ := leaf_str (by kernel_rfl) l1
  obtain ⟨val, rfl, hval⟩ := leaf_str (by kernel_rfl) l2
  obtain ⟨m, rfl, hm⟩ := leaf_int (k := .i64) (by kernel_rfl) l3
  -- the inner ones
  have hsl : ∃ n', n' < n ∧ Go.Sx.Good Try.prog w n' T_sl_Ask [v4] := by
    cases n with
    | zero => exact hg.elim
    | succ n =>
      unfold Go.Sx.Good at hg
      have hu : Try.prog.underlying T_Ask = some (.struct (Try.prog.fieldsOf T_Ask)) := by kernel_rfl
      rw [hu] at hg
      have hf : ((Try.prog.fieldsOf T_Ask)[4]?).map (fun f => (f.type, f.offset)) = some (T_sl_Ask, 4) := by kernel_rfl
      obtain ⟨f, hf1, hf2⟩ := Option.map_eq_some_iff.1 hf
      simp only [Prod.mk.injEq] at hf2
      have := hg.2 f (by have := Array.mem_of_getElem? hf1; simpa using this)
      rw [hf2.1, hf2.2] at this
      exact ⟨n, by omega, by simpa [show Try.prog.cellsOf T_sl_Ask = 1 by kernel_rfl] using this⟩
  obtain ⟨n1, hn1, hsl⟩ := hsl
  have hin : ∃ p l c, v4 = .slice p l c ∧ l ≤ c ∧ c ≤ 9223372036854775807 ∧ (p = none → c = 0) ∧ ∀ a, p = some a → ∀ i, i < c → ∃ n2 es, n2 < n ∧ w.cells? 0 (a.add (i * 5)) 5 = some es ∧ Go.Sx.Good Try.prog w n2 T_Ask es := by
    cases n1 with
    | zero => exact hsl.elim
    | succ n1 =>
      unfold Go.Sx.Good at hsl
      have hu : Try.prog.underlying T_sl_Ask = some (.slice T_Ask) := by kernel_rfl
      have hc5 : Try.prog.cellsOf T_Ask = 5 := by kernel_rfl
      rw [hu] at hsl
      simp only [hc5] at hsl
      rcases hsl with h | ⟨a, len, cap, h, h1, h2, h3⟩
      · simp only [List.cons.injEq, and_true] at h
        exact ⟨none, 0, 0, h, Nat.le_refl _, by omega, fun _ => rfl, fun a ha => by cases ha⟩
      · simp only [List.cons.injEq, and_true] at h
        refine ⟨some a, len, cap, h, h1, h2, fun ha => (by cases ha), fun b hb i hi => ?_⟩
        obtain rfl := Option.some.inj hb
        obtain ⟨es, h4, h5⟩ := h3 i hi
        exact ⟨n1, es, by omega, h4, h5⟩
  obtain ⟨p, l, c, rfl, hlc, hcm, hpn, hel⟩ := hin
  have hxs : ∀ (d i : Nat), i + d = l → ∃ xs : List AT, xs.length = d ∧ (∀ x ∈ xs, WfA x) ∧ IsL w xs p i := by
    intro d
    induction d with
    | zero => exact fun i _ => ⟨[], rfl, fun x hx => (by cases hx), by unfold IsL; trivial⟩
    | succ d ihd =>
      intro i hi
      obtain ⟨xs, h1, h2, h3⟩ := ihd (i + 1) (by omega)
      cases p with
      | none => have := hpn rfl; omega
      | some a =>
        obtain ⟨n2, es, h4, h5, h6⟩ := hel a rfl i (by omega)
        obtain ⟨x, p', c', rfl, h7, h8⟩ := ih n2 h4 es h6
        refine ⟨x :: xs, by simp [h1], fun y hy => ?_, ?_⟩
        · rcases List.mem_cons.1 hy with rfl | hy
          · exact h8
          · exact h2 y hy
        · unfold IsL
          refine ⟨⟨p', c', fun j u hu => ?_, h7⟩, h3⟩
          have := (cells?_some h5).2 j u hu
          simp only [cell, Option.bind_some] at this ⊢
          rw [← add_add]; exact this
  obtain ⟨xs, h1, h2, h3⟩ := hxs l 0 (by omega)
  subst h1
  exact ⟨.mk k key val m xs, p, c, rfl, by unfold IsT; exact ⟨hlc, h3⟩, by unfold WfA; exact ⟨hk, hkey, hval, hm, by omega, WfL.of h2⟩⟩

/-- The inner ones of an ask that came in. -/
theorem ask_arg {W : World} {p : Option Addr} {l c : Nat} (h : SlcArg Try.prog W T_Ask p l c) {k : Int} (hk : InR .i64 k) {key val : ByteArray} (hkey : key.size ≤ 9223372036854775807) (hval : val.size ≤ 9223372036854775807) {n : Int} (hn : InR .i64 n) :
    ∃ t : AT, t.k = k ∧ t.key = key ∧ t.val = val ∧ t.n = n ∧ t.xs.length = l ∧ IsT W t p c ∧ WfA t := by
  have hc5 : Try.prog.cellsOf T_Ask = 5 := by kernel_rfl
  have hxs : ∀ (d i : Nat), i + d = l → ∃ xs : List AT, xs.length = d ∧ (∀ x ∈ xs, WfA x) ∧ IsL W xs p i := by
    intro d
    induction d with
    | zero => exact fun i _ => ⟨[], rfl, fun x hx => (by cases hx), by unfold IsL; trivial⟩
    | succ d ihd =>
      intro i hi
      obtain ⟨xs, h1, h2, h3⟩ := ihd (i + 1) (by omega)
      have hle := h.le
      cases p with
      | none => have := h.nil rfl; omega
      | some a =>
        obtain ⟨n2, es, h5, h6⟩ := h.el a rfl i (by omega)
        rw [hc5] at h5
        obtain ⟨x, p', c', rfl, h7, h8⟩ := ask_good n2 es h6
        refine ⟨x :: xs, by simp [h1], fun y hy => ?_, ?_⟩
        · rcases List.mem_cons.1 hy with rfl | hy
          · exact h8
          · exact h2 y hy
        · unfold IsL
          refine ⟨⟨p', c', fun j u hu => ?_, h7⟩, h3⟩
          have := (cells?_some h5).2 j u hu
          simp only [cell, Option.bind_some] at this ⊢
          rw [← add_add]; exact this
  obtain ⟨xs, h1, h2, h3⟩ := hxs l 0 (by omega)
  have := h.le
  have := h.max
  subst h1
  exact ⟨.mk k key val n xs, rfl, rfl, rfl, rfl, rfl, by unfold IsT; exact ⟨h.le, h3⟩, by unfold WfA; exact ⟨hk, hkey, hval, hn, by omega, WfL.of h2⟩⟩

/-! ### What asks are -/
def okC (b : Int) : Bool := (decide (97 ≤ b) && decide (b ≤ 122)) || (decide (48 ≤ b) && decide (b ≤ 57)) || decide (b = 45)
def lbB (s : ByteArray) : Bool := decide (0 < s.size) && decide (s.size ≤ 20) && decide (97 ≤ sAt s 0) && decide (sAt s 0 ≤ 122) && (bytesI s).all okC
def cpuS : ByteArray := ⟨#[99, 112, 117]⟩
def memS : ByteArray := ⟨#[109, 101, 109]⟩
def gpuS : ByteArray := ⟨#[103, 112, 117]⟩
def unB (s : ByteArray) : Bool := decide (s = cpuS) || decide (s = memS) || decide (s = gpuS)
def emS : ByteArray := ⟨#[]⟩

def inner (k : Int) : Nat := if k = 5 ∨ k = 6 then 2 else if k = 4 then 1 else 0
/-- What is wrong with an ask, the inner ones aside. -/
def err1 (k : Int) (key val : ByteArray) (n : Int) (l : Nat) : Int :=
  if k < 1 ∨ 6 < k then 1 else if l ≠ inner k then 1
  else if (4 ≤ k ∧ key ≠ emS) ∨ (k ≠ 2 ∧ val ≠ emS) ∨ (k ≠ 3 ∧ n ≠ 0) then 1
  else if (k = 3 ∧ unB key = false) ∨ ((k = 1 ∨ k = 2) ∧ lbB key = false) ∨ (k = 2 ∧ lbB val = false) then 3
  else if n < 0 ∨ 1099511627776 < n then 4 else 0
mutual
def errA : AT → Int
  | .mk k key val n xs => if err1 k key val n xs.length ≠ 0 then err1 k key val n xs.length else errL xs
def errL : List AT → Int
  | [] => 0
  | x :: r => if errA x ≠ 0 then errA x else errL r
end
mutual
def cntA : AT → Int
  | .mk _ _ _ _ xs => cntL xs 1
def cntL : List AT → Int → Int
  | [], n => n
  | x :: r, n => cntL r (IntKind.wrap .i64 (n + cntA x))
end
def errC (t : AT) : Int := if 60 < cntA t then 2 else errA t

theorem errL_zero : ∀ {l : List AT}, errL l = 0 ↔ ∀ x ∈ l, errA x = 0
  | [] => by unfold errL; simp
  | y :: r => by
    unfold errL
    have := errL_zero (l := r)
    by_cases h : errA y = 0
    · simp [h, this]
    · simp [h]
theorem errL_first : ∀ {l : List AT} {k : Nat} {x : AT}, l[k]? = some x → (∀ j y, j < k → l[j]? = some y → errA y = 0) → errA x ≠ 0 → errL l = errA x
  | [], k, x, h, _, _ => by simp at h
  | y :: r, 0, x, h, _, hx => by simp at h; subst h; unfold errL; rw [if_pos hx]
  | y :: r, k + 1, x, h, hb, hx => by
    unfold errL
    rw [if_neg (by simp [hb 0 y (by omega) rfl])]
    exact errL_first (by simpa using h) (fun j z hj hz => hb (j + 1) z (by omega) (by simpa using hz)) hx

mutual
def valA (at_ : AT → Bool) : AT → Bool
  | .mk k key val n xs => if k = 4 then !(valL at_ xs).getD 0 false else if k = 5 then (valL at_ xs).getD 0 false && (valL at_ xs).getD 1 false else if k = 6 then (valL at_ xs).getD 0 false || (valL at_ xs).getD 1 false else at_ (.mk k key val n xs)
def valL (at_ : AT → Bool) : List AT → List Bool
  | [] => []
  | x :: r => valA at_ x :: valL at_ r
end
theorem valL_map (at_ : AT → Bool) (l : List AT) : valL at_ l = l.map (valA at_) := by
  induction l with
  | nil => unfold valL; rfl
  | cons x r ih => unfold valL; rw [ih]; rfl

theorem errA_node {t : AT} (h : errA t = 0) : err1 t.k t.key t.val t.n t.xs.length = 0 ∧ ∀ x ∈ t.xs, errA x = 0 := by
  cases t with
  | mk k key val n xs =>
    unfold errA at h
    split at h
    · rename_i h1; exact absurd h h1
    · rename_i h1
      exact ⟨Classical.not_not.1 h1, errL_zero.1 h⟩
theorem err1_len {k : Int} {key val : ByteArray} {n : Int} {l : Nat} (h : err1 k key val n l = 0) : l = inner k := by
  unfold err1 at h
  split at h
  · omega
  · split at h
    · omega
    · rename_i h2; exact Classical.not_not.1 h2
end Go.Proofs.Ytblafknmfblgfaa
