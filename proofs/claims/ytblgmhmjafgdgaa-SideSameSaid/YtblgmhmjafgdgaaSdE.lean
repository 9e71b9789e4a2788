/- side.each, whole, at nets and at rows of things. -/
import Derived.Test.YtblgmhmjafgdgaaSdD
set_option linter.unusedVariables false
set_option linter.unusedSimpArgs false
set_option linter.unusedSectionVars false
/- each[Net, int64], whole, part 1: the worlds up to the first Add. -/
namespace Go.Po
open Go Go.Conc Go.Tw Go.Proofs
open Go.ConcR (KK WgAt stA smA rd wr mk)
variable [FnSet]
namespace E9
def wb (N : Nat) (a fv : Value) (ln : Nat) : WB := ⟨N + 5, N + 4, N, N + 1, N + 3, a, .slice (some ⟨N + 2, 0, none⟩) ln ln, fv⟩
def row (ln : Nat) : Array Value := madeCells #[.int .i64 0] ln
section
variable (W : World) (a fv : Value) (ln : Nat)
def v1 : World := W.alloc (.cells #[a] 22)
def v2 : World := (v1 W a).alloc (.cells #[fv] 43)
def v3 : World := (v2 W a fv).alloc (.cells (row ln) 2)
def v4 : World := (v3 W a fv ln).alloc (.cells #[.slice none 0 0] 25)
def v5 : World := (v4 W a fv ln).setCell ⟨W.heap.size + 3, 0, none⟩ (.slice (some ⟨W.heap.size + 2, 0, none⟩) ln ln)
def v6 : World := (v5 W a fv ln).alloc (.cells #[.int .i64 0] 52)
def v7 : World := (v6 W a fv ln).alloc (.cells #[.int .u64 0, .int .u32 0] 59)
theorem s1 : (v1 W a).heap.size = W.heap.size + 1 := size_alloc' _ _
theorem s2 : (v2 W a fv).heap.size = W.heap.size + 2 := by rw [v2, size_alloc', s1]
theorem s3 : (v3 W a fv ln).heap.size = W.heap.size + 3 := by rw [v3, size_alloc', s2]
theorem s4 : (v4 W a fv ln).heap.size = W.heap.size + 4 := by rw [v4, size_alloc', s3]
theorem s5 : (v5 W a fv ln).heap.size = W.heap.size + 4 := by rw [v5, setCell_size, s4]
theorem s6 : (v6 W a fv ln).heap.size = W.heap.size + 5 := by rw [v6, size_alloc', s5]
theorem s7 : (v7 W a fv ln).heap.size = W.heap.size + 6 := by rw [v7, size_alloc', s6]
theorem alloc_old {w : World} {o : Obj} {i : Nat} (h : i < w.heap.size) : (w.alloc o).heap[i]? = w.heap[i]? := by
  show (w.heap.push o)[i]? = _
  rw [Array.getElem?_push, if_neg (by omega)]
theorem alloc_new {w : World} {o : Obj} {i : Nat} (h : i = w.heap.size) : (w.alloc o).heap[i]? = some o := by
  subst h
  show (w.heap.push o)[_]? = _
  simp
theorem h4_3 : (v4 W a fv ln).heap[W.heap.size + 3]? = some (.cells #[.slice none 0 0] 25) := alloc_new (s3 W a fv ln).symm
section
theorem h7_old {i : Nat} (h : i < W.heap.size) : (v7 W a fv ln).heap[i]? = W.heap[i]? := by
  rw [v7, alloc_old (by rw [s6]; omega), v6, alloc_old (by rw [s5]; omega), v5, setCell_ne _ _ _ (by show i ≠ W.heap.size + 3; omega), v4, alloc_old (by rw [s3]; omega), v3, alloc_old (by rw [s2]; omega), v2, alloc_old (by rw [s1]; omega), v1, alloc_old h]
theorem h7_0 : (v7 W a fv ln).heap[W.heap.size]? = some (.cells #[a] 22) := by
  rw [v7, alloc_old (by rw [s6]; omega), v6, alloc_old (by rw [s5]; omega), v5, setCell_ne _ _ _ (by show W.heap.size ≠ W.heap.size + 3; omega), v4, alloc_old (by rw [s3]; omega), v3, alloc_old (by rw [s2]; omega), v2, alloc_old (by rw [s1]; omega), v1, alloc_new rfl]
theorem h7_1 : (v7 W a fv ln).heap[W.heap.size + 1]? = some (.cells #[fv] 43) := by
  rw [v7, alloc_old (by rw [s6]; omega), v6, alloc_old (by rw [s5]; omega), v5, setCell_ne _ _ _ (by show W.heap.size + 1 ≠ W.heap.size + 3; omega), v4, alloc_old (by rw [s3]; omega), v3, alloc_old (by rw [s2]; omega), v2, alloc_new (s1 W a).symm]
theorem h7_2 : (v7 W a fv ln).heap[W.heap.size + 2]? = some (.cells (row ln) 2) := by
  rw [v7, alloc_old (by rw [s6]; omega), v6, alloc_old (by rw [s5]; omega), v5, setCell_ne _ _ _ (by show W.heap.size + 2 ≠ W.heap.size + 3; omega), v4, alloc_old (by rw [s3]; omega), v3, alloc_new (s2 W a fv).symm]
theorem h7_3 : (v7 W a fv ln).heap[W.heap.size + 3]? = some (.cells #[.slice (some ⟨W.heap.size + 2, 0, none⟩) ln ln] 25) := by
  rw [v7, alloc_old (by rw [s6]; omega), v6, alloc_old (by rw [s5]; omega), v5]
  exact setCell_at_ _ 0 _ (h4_3 W a fv ln)
theorem h7_4 : (v7 W a fv ln).heap[W.heap.size + 4]? = some (.cells #[.int .i64 0] 52) := by
  rw [v7, alloc_old (by rw [s6]; omega), v6, alloc_new (s5 W a fv ln).symm]
theorem h7_5 : (v7 W a fv ln).heap[W.heap.size + 5]? = some (.cells #[.int .u64 0, .int .u32 0] 59) := by
  rw [v7, alloc_new (s6 W a fv ln).symm]
end
end
theorem zs : (Try.prog.info? 25).bind (·.zero) = some (.slice none 0 0) ∧ (Try.prog.info? 52).bind (·.zero) = some (.agg #[.int .i64 0]) ∧ (Try.prog.info? 59).bind (·.zero) = some (.agg #[.int .u64 0, .int .u32 0]) ∧ (Try.prog.info? 25).map (·.size) = some 1 := ⟨by kernel_rfl, by kernel_rfl, by kernel_rfl, by kernel_rfl⟩
theorem i2 : ∃ i, Try.prog.info? 2 = some i ∧ i.zero = some (.int .i64 0) ∧ i.bytes = 8 ∧ i.size = 1 := by
  have h : (Try.prog.info? 2).map (fun i => (i.zero, i.bytes, i.size)) = some (some (.int .i64 0), 8, 1) := by kernel_rfl
  obtain ⟨i, h1, h2⟩ := Option.map_eq_some_iff.1 h
  simp only [Prod.mk.injEq] at h2
  exact ⟨i, h1, h2.1, h2.2.1, h2.2.2⟩
/-- What goroutine 0 may list meanwhile. -/
def OkP (N : Nat) (w : World) (e : Event) : Prop := ∃ ad wr, e = ⟨.cell ad, wr, false⟩ ∧ (ad.block = N ∨ ad.block = N + 1 ∨ ad.block = N + 3) ∧ ad.block < w.heap.size
section
theorem turns_box' {P : Program} {Ok : World → Event → Prop} {w : World} {t : TypeId} {v : Value} {N : Nat} (h : w.heap.size = N) (hv : v.cells = #[v]) : Turns P Ok (bxS t v) (some (ptr N)) w (w.alloc (.cells #[v] t)) := by
  subst h
  have := turns_box (P := P) (Ok := Ok) (w := w) (t := t) (v := v)
  rwa [hv] at this
theorem turns_alloc' {P : Program} {Ok : World → Event → Prop} {w : World} {t : TypeId} {z : Value} {cs : Array Value} {N : Nat} (h : w.heap.size = N) (hz : (P.info? t).bind (·.zero) = some z) (hc : z.cells = cs) : Turns P Ok (alS t) (some (ptr N)) w (w.alloc (.cells cs t)) := by
  subst h; subst hc
  exact turns_alloc hz
theorem chain (W : World) (oa : Option Addr) (ln cap : Nat) (fv : Value) (hfv : fv.cells = #[fv]) (hl : ln ≤ 60) {n : Nat} (h1 : 1 ≤ n) (h16 : n ≤ 16) : AllTurn Try.prog (OkP W.heap.size) [bxS 22 (.slice oa ln cap), bxS 43 fv, pure (.value (.bool (decide ((n : Int) < 1)))), pure (.value (.bool (decide ((n : Int) > 16)))), ldS 22 ⟨W.heap.size, 0, none⟩,
    pure (.value (.bool (decide ((ln : Int) > 60)))), ldS 22 ⟨W.heap.size, 0, none⟩, mkS 25 ln, alS 25, stS 25 ⟨W.heap.size + 3, 0, none⟩ (.slice (some ⟨W.heap.size + 2, 0, none⟩) ln ln), alS 52, alS 59] (script (wb W.heap.size (.slice oa ln cap) fv ln)) W (v7 W (.slice oa ln cap) fv ln) := by
  generalize ha : (Value.slice oa ln cap) = a
  have hac : a.cells = #[a] := by subst ha; rfl
  have hld : Turns Try.prog (OkP W.heap.size) (ldS 22 ⟨W.heap.size, 0, none⟩) (some a) (v2 W a fv) (v2 W a fv) := by
    refine turns_ld W16.tys.1 ?_ ⟨_, _, rfl, .inl rfl, by rw [s2]; show W.heap.size < _; omega⟩
    have : (v2 W a fv).heap[W.heap.size]? = some (.cells #[a] 22) := by rw [v2, alloc_old (by rw [s1]; omega), v1, alloc_new rfl]
    simp [World.cell?, this]
  obtain ⟨i, hi, hz, hb, hs⟩ := i2
  have hmk := turns_make (P := Try.prog) (Ok := OkP W.heap.size) (w := v2 W a fv) W16.u25 hi hz hb hs (l := ln) (by omega)
  rw [s2] at hmk
  refine ⟨v1 W a, turns_box' rfl hac, v2 W a fv, turns_box' (s1 W a) hfv, _, turns_pure (by simp; omega), _, turns_pure (by simp; omega), _, hld, _, turns_pure (by simp; omega), _, hld, v3 W a fv ln, hmk, v4 W a fv ln, turns_alloc' (s3 W a fv ln) zs.1 rfl, v5 W a fv ln, ?_, v6 W a fv ln, turns_alloc' (s5 W a fv ln) zs.2.1 rfl, v7 W a fv ln, turns_alloc' (s6 W a fv ln) zs.2.2.1 rfl, rfl⟩
  have h43 := h4_3 W a fv ln
  refine turns_st (v := .slice (some ⟨W.heap.size + 2, 0, none⟩) ln ln) (u := .slice none 0 0) zs.2.2.2 rfl rfl (by simp [World.cell?, h43]) (by simp [World.frozen?, h43]) ⟨_, _, rfl, .inr (.inr rfl), ?_⟩
  show W.heap.size + 3 < _
  rw [setCell_size, s4]; omega
end
end E9
end Go.Po
/- each[Net, int64], whole, part 2: beside leavers, from its entry to its return. -/
namespace Go.Po
open Go Go.Conc Go.Tw Go.Proofs
open Go.ConcR (KK WgAt stA smA rd wr mk)
variable [FnSet]
/-- The cells of these blocks. -/
def ShL (ShB : Nat → Prop) (l : Loc) : Prop := ∃ a, l = .cell a ∧ ShB a.block
theorem Past.shun {S S' : Loc → Prop} (h : ∀ l, S l → S' l) {B : Nat} {t : Trace} (hP : Past S B t) : Past S' B t := ⟨hP.clean, fun i a h1 h2 => (hP.known i a h1 h2).imp id fun x => ⟨h _ x.1, x.2⟩, hP.over, hP.hears, hP.seen⟩
/-- What is asked of the list and of the function: each element is read where it stood; f of it, alone, ends with R. -/
structure Ctr (okB : Nat → Bool) (W : World) (N0 : Nat) (ShB : Nat → Prop) (tl te : TypeId) (fr : Value → Frame) (a : Value) (ln : Nat) (R : Nat → Value) (pad : Nat → Addr) (el : Nat → Value) : Prop where
  n0 : N0 ≤ W.heap.size
  sh : ∀ b, ShB b → b < W.heap.size
  cb : ∀ b, b < N0 → FnSet.cb b → ¬ ShB b
  int : ∀ i, ∃ k x, R i = .int k x
  el5 : ∀ i, i < ln → ∀ w, (ixS tl a (.int .i64 i)).run Try.prog w = .ok (nextOf (some (.pointer (some (pad i))))) w ∧ (ixS tl a (.int .i64 i)).events Try.prog w #[] = #[]
  el6 : ∀ i, i < ln → ∀ w, (∀ b, b < W.heap.size → w.heap[b]? = W.heap[b]?) → (ldS te (pad i)).run Try.prog w = .ok (nextOf (some (el i))) w ∧ ∀ e ∈ (ldS te (pad i)).events Try.prog w #[], ∃ ad, e = ⟨.cell ad, false, false⟩ ∧ ad.block < W.heap.size ∧ ¬ ShB ad.block
  f : ∀ i, i < ln → ∃ frL xw, FR Try.prog okB idr N0 frL (fr (el i)) ∧ LT Try.prog (fun v _ => v = R i) frL [] xw ∧ ∀ w : World, (∀ b, b < W.heap.size → w.heap[b]? = W.heap[b]?) → W.heap.size ≤ w.heap.size → WR N0 idr N0 xw w
namespace E9
section
variable (okB : Nat → Bool) (W : World) (a fv : Value) (ln n N0 g0 : Nat) (ShB : Nat → Prop) (R : Nat → Value) (pad : Nat → Addr) (el : Nat → Value) (cs : List Frame)
noncomputable def pool0 : Pool := { P := Try.prog, okB := okB, ty := 59, nty := 52, oty := 2, W1 := v7 W a fv ln, N0 := N0, nx := W.heap.size + 4, ou := W.heap.size + 2, wg := W.heap.size + 5, n := n, len := ln, g0 := g0, ShB := ShB, R := R, PA := fun _ => False, PC := fun _ _ => False, PS := fun _ _ => False, Anch := fun _ => False, Exit := fun _ => False }
noncomputable def pool : Pool := { P := Try.prog, okB := okB, ty := 59, nty := 52, oty := 2, W1 := v7 W a fv ln, N0 := N0, nx := W.heap.size + 4, ou := W.heap.size + 2, wg := W.heap.size + 5, n := n, len := ln, g0 := g0, ShB := ShB, R := R, PA := W16.PA (wb W.heap.size a fv ln), PC := W16.PC (pool0 okB W a fv ln n N0 g0 ShB R) (wb W.heap.size a fv ln) pad el, PS := W16.PS (pool0 okB W a fv ln n N0 g0 ShB R) (wb W.heap.size a fv ln) pad el, Anch := Anch (pool0 okB W a fv ln n N0 g0 ShB R) (wb W.heap.size a fv ln) cs, Exit := Exit (pool0 okB W a fv ln n N0 g0 ShB R) (wb W.heap.size a fv ln) cs }
end
section
variable {okB : Nat → Bool} {W : World} {oa : Option Addr} {cap ln n N0 g0 : Nat} {ShB : Nat → Prop} {R : Nat → Value} {pad : Nat → Addr} {el : Nat → Value} {cs : List Frame}
theorem still_old {a fv : Value} {b : Nat} (h : b < W.heap.size) : (pool okB W a fv ln n N0 g0 ShB R pad el cs).Still b := ⟨by show b < (v7 W a fv ln).heap.size; rw [s7]; omega, by show b ≠ W.heap.size + 4; omega, by show b ≠ W.heap.size + 2; omega, by show b ≠ W.heap.size + 5; omega⟩
theorem S_old {a fv : Value} {w : World} (h : (pool okB W a fv ln n N0 g0 ShB R pad el cs).S w) : (∀ b, b < W.heap.size → w.heap[b]? = W.heap[b]?) ∧ W.heap.size ≤ w.heap.size :=
  ⟨fun b hb => (h.still b (still_old hb)).trans (h7_old W a fv ln hb), by have := h.size; simp only [pool, s7] at this; omega⟩
theorem hypM (env : EnvC Try.prog okB) (hC : Ctr okB W N0 ShB 22 37 W16.fr (.slice oa ln cap) ln R pad el) (hl : ln ≤ 60) (h1 : 1 ≤ n) (h16 : n ≤ 16) (hg0 : 0 < g0) :
    (pool okB W (.slice oa ln cap) (.func (.func 10) #[] #[]) ln n N0 g0 ShB R pad el cs).HypM ∧ Work (pool okB W (.slice oa ln cap) (.func (.func 10) #[] #[]) ln n N0 g0 ShB R pad el cs) (wb W.heap.size (.slice oa ln cap) (.func (.func 10) #[] #[]) ln) oa cap 22 37 W16.fr pad el := by
  have hs := s7 W (.slice oa ln cap) (.func (.func 10) #[] #[]) ln
  have ro : ∀ k, (k = 0 ∨ k = 1 ∨ k = 3) → (pool okB W (.slice oa ln cap) (.func (.func 10) #[] #[]) ln n N0 g0 ShB R pad el cs).RO (W.heap.size + k) := fun k hk =>
    ⟨⟨by show W.heap.size + k < (v7 W _ _ ln).heap.size; rw [hs]; omega, by show W.heap.size + k ≠ W.heap.size + 4; omega, by show W.heap.size + k ≠ W.heap.size + 2; omega, by show W.heap.size + k ≠ W.heap.size + 5; omega⟩, fun h => by have := hC.sh _ h; omega⟩
  have hW : Work (pool okB W (.slice oa ln cap) (.func (.func 10) #[] #[]) ln n N0 g0 ShB R pad el cs) (wb W.heap.size (.slice oa ln cap) (.func (.func 10) #[] #[]) ln) oa cap 22 37 W16.fr pad el :=
    ⟨rfl, h16, hl, rfl, rfl, rfl, rfl, ⟨ro 0 (.inl rfl), 22, h7_0 W _ _ ln⟩, ⟨ro 1 (.inr (.inl rfl)), 43, h7_1 W _ _ ln⟩, ⟨ro 3 (.inr (.inr rfl)), 25, h7_3 W _ _ ln⟩,
      fun i hi w hw => ⟨w.drawn, (hC.el5 i hi w).1, by rw [show (pool okB W (.slice oa ln cap) (.func (.func 10) #[] #[]) ln n N0 g0 ShB R pad el cs).P = Try.prog from rfl]; intro e he; rw [show (wb W.heap.size (.slice oa ln cap) (.func (.func 10) #[] #[]) ln).a = .slice oa ln cap from rfl, (hC.el5 i hi w).2] at he; simp at he⟩,
      fun i hi w hw => let ⟨h1, h2⟩ := hC.el6 i hi w (S_old hw).1; ⟨w.drawn, h1, fun e he => let ⟨ad, h3, h4, h5⟩ := h2 e he; ⟨ad, h3, still_old h4, h5⟩⟩,
      fun i hi => let ⟨frL, xw, h1, h2, h3⟩ := hC.f i hi; ⟨frL, xw, h1, h2, fun w hw => h3 w (S_old hw).1 (S_old hw).2⟩⟩
  have hn0 := hC.n0
  have geo : (pool okB W (.slice oa ln cap) (.func (.func 10) #[] #[]) ln n N0 g0 ShB R pad el cs).Geo :=
    ⟨by show N0 ≤ (v7 W _ _ ln).heap.size; rw [hs]; omega, ⟨by show N0 ≤ W.heap.size + 4; omega, by show W.heap.size + 4 < (v7 W _ _ ln).heap.size; rw [hs]; omega⟩, ⟨by show N0 ≤ W.heap.size + 2; omega, by show W.heap.size + 2 < (v7 W _ _ ln).heap.size; rw [hs]; omega⟩, ⟨by show N0 ≤ W.heap.size + 5; omega, by show W.heap.size + 5 < (v7 W _ _ ln).heap.size; rw [hs]; omega⟩,
      by show W.heap.size + 4 ≠ W.heap.size + 2; omega, by show W.heap.size + 4 ≠ W.heap.size + 5; omega, by show W.heap.size + 2 ≠ W.heap.size + 5; omega, hC.cb, env, hC.int, hg0⟩
  refine ⟨⟨⟨geo, W16.add_ hW rfl rfl rfl, W16.call_ hW rfl rfl rfl, W16.store_ hW hC.int rfl rfl⟩, ?_, h1, anch_ rfl h16 rfl rfl⟩, hW⟩
  show n < 2147483648
  omega
end
end E9
end Go.Po
/- each[Net, int64], whole, part 3: the law. -/
namespace Go.Po
open Go Go.Conc Go.Tw Go.Proofs
open Go.ConcR (KK WgAt stA smA rd wr mk)
variable [FnSet]
/-- Goroutine 0 stands at g, in world w (but for draws), beside leavers; all that is behind it is known or shunned. -/
def Bes (P : Program) (ShB : Nat → Prop) (g : Goroutine) (w : World) (m : Machine) (t : Trace) : Prop :=
  ∃ (gs : Array Goroutine) (sl : Option (Nat × Nat)) (q : Nat → Nat) (d : Nat), m = crowd gs (w.at d) sl ∧ gs[0]? = some g ∧ Leavers P t gs q ∧ Past (ShL ShB) w.heap.size t ∧ ∀ op ∈ t, op.g < gs.size
theorem runNT_then {P : Program} : ∀ {N N' : Nat} {m m₁ m₂ : Machine} {t t₁ t₂ : Trace}, runNT P N m t = (.next m₁, t₁) → runNT P N' m₁ t₁ = (.next m₂, t₂) → runNT P (N + N') m t = (.next m₂, t₂)
  | 0, N', m, m₁, m₂, t, t₁, t₂, h, hk => by simp only [runNT, Prod.mk.injEq, Stepped.next.injEq] at h; rw [Nat.zero_add, h.1, h.2]; exact hk
  | N + 1, N', m, m₁, m₂, t, t₁, t₂, h, hk => by
    rw [Nat.succ_add]
    simp only [runNT] at h ⊢
    split at h
    · rename_i m' ops hs
      exact runNT_then h hk
    · rename_i e ops hne hs
      simp only [Prod.mk.injEq] at h
      exact absurd h.1 (hne _)
/-- .. and leads to. -/
def Lds (P : Program) (m : Machine) (t : Trace) (Q : Machine → Trace → Prop) : Prop := ∃ N m' t', runNT P N m t = (.next m', t') ∧ Q m' t'
theorem Lds.trans {P : Program} {m : Machine} {t : Trace} {Q Q' : Machine → Trace → Prop} (h : Lds P m t Q) (hq : ∀ m t, Q m t → Lds P m t Q') : Lds P m t Q' := by
  obtain ⟨N, m', t', h1, h2⟩ := h
  obtain ⟨N', m'', t'', h3, h4⟩ := hq m' t' h2
  exact ⟨N + N', m'', t'', runNT_then h1 h3, h4⟩
/-- A step of goroutine 0's between two calls that go. -/
def OkG (ShB : Nat → Prop) (w : World) (e : Event) : Prop := (∃ ad wr, e = ⟨.cell ad, wr, false⟩ ∧ ¬ ShB ad.block ∧ ad.block < w.heap.size) ∨ (∃ r, e = ⟨.obj r, false, false⟩ ∧ r < w.heap.size) ∨ e = ⟨.mark .noRoom, false, true⟩
theorem evL_of_OkG {ShB : Nat → Prop} {w : World} {e : Event} (h : OkG ShB w e) : EvL (ShL ShB) w.heap.size e := by
  rcases h with ⟨ad, wr, rfl, h1, h2⟩ | ⟨r, rfl, h2⟩ | rfl
  · exact evL_cell ad wr (fun ⟨a, ha, hs⟩ => by cases ha; exact h1 hs) h2
  · refine ⟨fun x hx hs => ?_, by simp, by simp, h2⟩
    simp only [show MemAct.ofEvent ⟨.obj r, false, false⟩ = .access ⟨.obj r, false, false⟩ from rfl, MemAct.touch?, Option.some.injEq] at hx
    subst hx
    obtain ⟨a, ha, _⟩ := hs
    cases ha
  · exact ⟨fun x hx => (by simp only [show (MemAct.ofEvent ⟨.mark .noRoom, false, true⟩).touch? = none from rfl] at hx; cases hx), by simp, by simp, trivial⟩
/-- Goroutine 0 alone, beside leavers. -/
theorem bes_go0 {P : Program} {ShB : Nat → Prop} {Ok : World → Event → Prop} {K : Goroutine → World → Prop} {g : Goroutine} {w : World} {m : Machine} {t : Trace} (hOk : ∀ w e, Ok w e → OkG ShB w e) (h : Bes P ShB g w m t) (hG : Go0 P Ok K g w) :
    Lds P m t fun m' t' => ∃ g' w' u sz, K g' w' ∧ Bes P ShB g' w' m' t' ∧ t' = t ++ u ∧ ∀ op ∈ u, ByOp Ok sz op := by
  obtain ⟨gs, sl, q, d, rfl, h0, hL, hP, hg⟩ := h
  obtain ⟨N, gs', a', w', sl', t', u, q', h1, h2, h3, h4, h5, h6, h7, h8⟩ := go0_beside (Shun := ShL ShB) (fun w e h => evL_of_OkG (hOk w e h)) hG d gs sl t q h0 hL hP
  refine ⟨N, _, t', h1, a', w', u, gs.size, h4, ⟨gs', sl', q', w'.drawn, rfl, h3, h5, h6, fun op hop => ?_⟩, h7, h8⟩
  rw [h2]
  rw [h7] at hop
  rcases Array.mem_append.1 hop with h | h
  · exact hg op h
  · rcases h8 op h with ⟨e, _⟩ | ⟨_, e, _⟩
    · rw [e]; exact (Array.getElem?_eq_some_iff.1 h0).1
    · exact e
namespace E9
theorem each {okB : Nat → Bool} {W : World} {oa : Option Addr} {cap ln n N0 : Nat} {ShB : Nat → Prop} {R : Nat → Value} {pad : Nat → Addr} {el : Nat → Value} {c : Frame} {rest : List Frame} (env : EnvC Try.prog okB) (hC : Ctr okB W N0 ShB 22 37 W16.fr (.slice oa ln cap) ln R pad el) (hl : ln ≤ 60) (h1 : 1 ≤ n) (h16 : n ≤ 16)
    {m : Machine} {t : Trace} (hB : Bes Try.prog ShB (Gx (Frame.enter Try.prog 9 #[.slice oa ln cap, .int .i64 n, .func (.func 10) #[] #[]] .normal, c :: rest)) W m t) :
    Lds Try.prog m t fun m' t' => ∃ (w' : World) (os : Array Value) (ShB' : Nat → Prop), Bes Try.prog ShB' (Gx (c.finish (.tuple #[.slice (some ⟨W.heap.size + 2, 0, none⟩) ln ln, .int .i64 0]), rest)) w' m' t' ∧ (∀ b, b < W.heap.size → w'.heap[b]? = W.heap[b]?) ∧ W.heap.size + 6 ≤ w'.heap.size ∧ (w'.os = W.os ∧ w'.output = W.output) ∧
      w'.heap[W.heap.size + 2]? = some (.cells os 2) ∧ os.size = ln ∧ (∀ i, i < ln → os[i]? = some (R i)) ∧ (∀ b, ShB' b ↔ ShB b ∨ b = W.heap.size + 4 ∨ b = W.heap.size + 5) := by
  obtain ⟨wd, hwd⟩ : ∃ b, b = wb W.heap.size (.slice oa ln cap) (.func (.func 10) #[] #[]) ln := ⟨_, rfl⟩
  have hG : Go0 Try.prog (OkP W.heap.size) (fun g w => (∃ f, g = Gx (Ls wd n 0 f (c :: rest))) ∧ w.heap = (v7 W (.slice oa ln cap) (.func (.func 10) #[] #[]) ln).heap ∧ w.os = W.os ∧ w.output = W.output) (Gx (x0 wd n c rest)) W := by
    subst hwd
    refine go0_scr (fun w d e h => h) (scr9 _ oa ln cap rfl n c rest) (chain W oa ln cap _ rfl hl h1 h16) ?_
    obtain ⟨h2, h3⟩ := pre_to (wb W.heap.size (.slice oa ln cap) (.func (.func 10) #[] #[]) ln) oa ln cap rfl n c rest
    exact go0_nx (x := pre _ n c rest) h2 (by rw [h3]; exact .stop fun d => ⟨⟨_, rfl⟩, rfl, rfl, rfl⟩)
  have hB' : Bes Try.prog ShB (Gx (x0 wd n c rest)) W m t := by subst hwd; exact hB
  have htl : ∀ op ∈ t, op.act.low W.heap.size := by obtain ⟨_, _, _, _, _, _, _, hP, _⟩ := hB; exact hP.seen
  refine (bes_go0 (ShB := ShB) (fun w e ⟨ad, wr, he, hb, hlt⟩ => .inl ⟨ad, wr, he, fun hs => by have := hC.sh _ hs; omega, hlt⟩) hB' hG).trans ?_
  rintro m1 t1 ⟨g1, w1, u, sz, ⟨⟨f, rfl⟩, hh, hos, hout⟩, ⟨gs, sl, q, d, rfl, h0, hL, hP, hg⟩, rfl, hu⟩
  obtain ⟨hyp, hW⟩ := hypM (pad := pad) (cs := c :: rest) (g0 := gs.size) env hC hl h1 h16 (Array.getElem?_eq_some_iff.1 h0).1
  have htl1 : ∀ (i : Nat) (op : MemOp), (t ++ u)[i]? = some op → op.act.low W.heap.size ∨ ByOp (OkP W.heap.size) sz op := fun i op hi => by
    rcases getElem?_append_cases hi with ⟨_, h⟩ | ⟨_, h⟩
    · exact .inl (htl op (Array.mem_of_getElem? h))
    · exact .inr (hu op h)
  obtain ⟨k, rfl⟩ : ∃ k, n = k + 1 := ⟨n - 1, by omega⟩
  have hch := W16.child_ hW rfl
  have hsp := spawns (p := pool okB W (.slice oa ln cap) (.func (.func 10) #[] #[]) ln (k + 1) N0 gs.size ShB R pad el (c :: rest)) (b := wb W.heap.size (.slice oa ln cap) (.func (.func 10) #[] #[]) ln) (cs := c :: rest) rfl h16 rfl rfl hch (k + 1) (Nat.le_refl _) f
  obtain ⟨mm, hsp⟩ := hsp
  have e0 : ((((pool okB W (.slice oa ln cap) (.func (.func 10) #[] #[]) ln (k + 1) N0 gs.size ShB R pad el (c :: rest)).n - (k + 1) : Nat)) : Int) = 0 := by
    show (((k + 1) - (k + 1) : Nat) : Int) = 0
    omega
  rw [e0] at hsp
  subst hwd
  have hrow : (row ln).size = ln := size_madeCells _ _
  have hdone := pool_from (p := pool okB W (.slice oa ln cap) (.func (.func 10) #[] #[]) ln (k + 1) N0 gs.size ShB R pad el (c :: rest)) (Sh0 := ShL ShB) (w := w1.at d) (sl := sl) (os := row ln) hyp h0 hsp rfl hL hP hh ⟨hos, hout⟩ (h7_4 W _ _ ln) ⟨h7_2 W _ _ ln, hrow⟩ (h7_5 W _ _ ln)
    (fun i op y hi hy b hb => ?_) (fun l hl' hsl => ?_) (fun i hi => ?_) hg
  · obtain ⟨N, m2, t2, hr, gs2, w2, sl2, a2, q2, os, c2, rfl, k1, k2, k3, kg, k4, k5, k6, k7, k8, k9, k10, k11, k12⟩ := hdone
    obtain ⟨y, m', kk, f', rfl, hy1, hy2⟩ := k2
    have hs7 := s7 W (.slice oa ln cap) (.func (.func 10) #[] #[]) ln
    have hsz2 : W.heap.size + 6 ≤ w2.heap.size := by have := k7; simp only [pool, hs7] at this; exact this
    have still : ∀ b, b < W.heap.size + 4 → b ≠ W.heap.size + 2 → w2.heap[b]? = (v7 W (.slice oa ln cap) (.func (.func 10) #[] #[]) ln).heap[b]? := fun b hb hne =>
      k6 b ⟨by show b < (v7 W _ _ ln).heap.size; rw [hs7]; omega, by show b ≠ W.heap.size + 4; omega, hne, by show b ≠ W.heap.size + 5; omega⟩
    have h3 : w2.heap[W.heap.size + 3]? = some (.cells #[.slice (some ⟨W.heap.size + 2, 0, none⟩) ln ln] 25) := (still _ (by omega) (by omega)).trans (h7_3 W _ _ ln)
    have hB2 : Bes Try.prog (fun b => ShB b ∨ b = W.heap.size + 4 ∨ b = W.heap.size + 5) (Gx y) w2 (crowd gs2 w2 sl2) t2 := by
      refine ⟨gs2, sl2, q2, w2.drawn, rfl, k1, k4, Past.shun (fun l hl => ?_) k5, fun op hop => ?_⟩
      · rcases hl with ⟨a, ha, hs⟩ | ⟨a, ha, hs⟩
        · exact ⟨a, ha, .inl hs⟩
        · exact ⟨a, ha, .inr hs⟩
      · exact kg op hop
    have hgo : Go0 Try.prog (fun w e => e = ⟨.cell ⟨W.heap.size + 3, 0, none⟩, false, false⟩ ∧ W.heap.size + 6 ≤ w.heap.size) (fun g w => g = Gx (c.finish (.tuple #[.slice (some ⟨W.heap.size + 2, 0, none⟩) ln ln, .int .i64 0]), rest) ∧ w.heap = w2.heap ∧ w.os = w2.os ∧ w.output = w2.output) (Gx y) w2 := by
      refine go0_nx hy1 ?_
      rw [hy2]
      refine go0_nx (e_ok _ _ kk f' _) (go0_put (e1_ask _ _ kk f' _) (some (.slice (some ⟨W.heap.size + 2, 0, none⟩) ln ln)) (fun w d e h => h) (turns_ld W16.tys.2.1 (by simp [World.cell?, wb, h3]) ⟨rfl, hsz2⟩) ?_)
      obtain ⟨h5, h6⟩ := e1_to (wb W.heap.size (.slice oa ln cap) (.func (.func 10) #[] #[]) ln) (k + 1) kk f' c rest
      have fin : Go0 Try.prog (fun w e => e = ⟨.cell ⟨W.heap.size + 3, 0, none⟩, false, false⟩ ∧ W.heap.size + 6 ≤ w.heap.size) (fun g w => g = Gx (c.finish (.tuple #[.slice (some ⟨W.heap.size + 2, 0, none⟩) ln ln, .int .i64 0]), rest) ∧ w.heap = w2.heap ∧ w.os = w2.os ∧ w.output = w2.output) (Gx (nx Try.prog 5 (put (e1 (wb W.heap.size (.slice oa ln cap) (.func (.func 10) #[] #[]) ln) (k + 1) kk f' (c :: rest)) (wb W.heap.size (.slice oa ln cap) (.func (.func 10) #[] #[]) ln).o))) w2 := by
        rw [h6]; exact .stop fun d => ⟨rfl, rfl, rfl, rfl⟩
      exact go0_nx h5 fin
    refine Lds.trans ⟨N, _, t2, hr, hB2⟩ fun m t hB => ?_
    have hnsh : ¬ (ShB (W.heap.size + 3) ∨ W.heap.size + 3 = W.heap.size + 4 ∨ W.heap.size + 3 = W.heap.size + 5) := by
      rintro (h | h | h)
      · have := hC.sh _ h; omega
      · omega
      · omega
    refine (bes_go0 (ShB := fun b => ShB b ∨ b = W.heap.size + 4 ∨ b = W.heap.size + 5) (fun w e ⟨he, hlt⟩ => .inl ⟨_, _, he, hnsh, by show W.heap.size + 3 < _; omega⟩) hB hgo).trans ?_
    rintro m3 t3 ⟨g3, w3, u3, sz3, ⟨rfl, e1, e2, e3⟩, hB3, _, _⟩
    refine ⟨0, m3, t3, rfl, w3, os, _, hB3, fun b hb => ?_, by rw [e1]; exact hsz2, ⟨e2.trans k8.1, e3.trans k8.2⟩, by rw [e1]; exact k11.1, k11.2, k12, fun b => Iff.rfl⟩
    rw [e1, still b (by omega) (by omega)]
    exact h7_old W _ _ ln hb
  · rcases htl1 i op hi with hlo | hby
    · have hl2 := low_touch hlo hy
      rw [hb] at hl2
      have : b.block < W.heap.size := hl2
      exact ⟨by show b.block ≠ W.heap.size + 4; omega, by show b.block ≠ W.heap.size + 2; omega, by show b.block ≠ W.heap.size + 5; omega⟩
    · rcases hby with ⟨_, w, e, ⟨ad, wr, rfl, hbl, _⟩, ha⟩ | ⟨_, _, e, hm, ha⟩
      · rw [ha] at hy
        simp only [ofEvent_cell0, MemAct.touch?, Option.some.injEq] at hy
        subst hy
        cases hb
        exact ⟨by show _ ≠ W.heap.size + 4; omega, by show _ ≠ W.heap.size + 2; omega, by show _ ≠ W.heap.size + 5; omega⟩
      · rw [ha, touch_mute hm] at hy; cases hy
  · obtain ⟨a, rfl, hs⟩ := hsl
    rcases hl' with ⟨b, hb, hr⟩ | ⟨r, hr, _⟩
    · cases hb; exact hr.2 hs
    · cases hr
  · obtain ⟨op, hop, ha⟩ := Option.map_eq_some_iff.1 hi
    rcases htl1 i op hop with hlo | hby
    · rw [ha] at hlo
      have : W.heap.size + 5 < W.heap.size := hlo
      omega
    · rcases hby with ⟨_, w, e, ⟨ad, wr, rfl, hbl, _⟩, hax⟩ | ⟨_, _, e, hm, hax⟩
      · rw [ha] at hax; simp [ofEvent_cell0] at hax
      · have := Go.ConcR.loc_of_ofEvent (hax.symm.trans ha)
        obtain ⟨loc, wr, sy⟩ := e
        simp only at this
        subst this
        simp [Event.mute] at hm
end E9
end Go.Po
/- each[[]int64, int], part 1: its worker (printed by mk12.py out of each[Net, int64]'s). -/
namespace Go.Po
open Go Go.Conc Go.Tw Go.Proofs
open Go.ConcR (KK WgAt stA smA rd wr mk)
noncomputable def ops21 : Array Oper := (((Try.prog.funcs[21]?).bind (·.body)).bind (findReg 4)).getD #[]
theorem sets21 : setsOk ops21 LL10 10 7 9 = true := by kernel_rfl
theorem reg21 (b : WB) (bx : Addr) (hfv : b.fv = .func (.func 13) #[] #[.pointer (some bx)]) (c : Nat) (pad : Addr) (el r po : Value) (f : Nat → Value) (k : List Item) (df : List Deferred) (cs : List Frame) :
    Reg Try.prog ops21 10 7 9 LL10 (rst 21 ops21 (rvals b c pad el r po) (rbase b c f) k df cs) (rvals b c pad el r po) (rsem 23 29 47 25 b c pad) (Frame.enter Try.prog 13 #[el, .pointer (some bx)] .normal) := by
  obtain ⟨wg, nx, bl, bf, vo, a, o, fv⟩ := b
  simp only at hfv
  subst hfv
  refine Reg.of (by decide) sets21 (fun order => ?_) (fun order => ?_)
  · kernel_rfl
  · kernel_rfl
namespace W21
/-- The goroutine's bottom frame. -/
noncomputable abbrev B0 : Frame := { (default : Frame) with fn := Try.prog.funcs.size, defers := [], mode := .panicking [goexitEntry] }
def caps (b : WB) : Array Value := #[.pointer (some ⟨b.wg, 0, none⟩), .pointer (some ⟨b.nx, 0, none⟩), .pointer (some ⟨b.bl, 0, none⟩), .pointer (some ⟨b.bf, 0, none⟩), .pointer (some ⟨b.vo, 0, none⟩)]
def dfr (b : WB) : Deferred := { target := .fn (.func 21) (caps b), args := #[] }
noncomputable def ch (b : WB) : FrS := ({ (default : Frame) with fn := Try.prog.funcs.size, defers := [dfr b], mode := .panicking [goexitEntry] }, [])
noncomputable def p1 (b : WB) : FrS := nx Try.prog 18 (ch b)
theorem ch_ok (b : WB) : okx Try.prog 18 (ch b) = true := by kernel_rfl
theorem p1_ask (b : WB) : asked (p1 b) = some (callFunc 41 #[.pointer (some ⟨b.nx, 0, none⟩), .int .i64 1]) := by kernel_rfl
def dn (b : WB) : Deferred := { target := .fn (.func 17) #[], args := #[.pointer (some ⟨b.wg, 0, none⟩)] }
def mkF (tmps : Array Value) (todo : List Item) (b : WB) : Frame := { fn := 21, tmps := tmps, todo := todo, defers := [dn b], mode := .run, kind := .deferred }
/-- At the load of the list. -/
noncomputable def tq : List Item := (nx Try.prog 13 (put (p1 ⟨0, 0, 0, 0, 0, undef, undef, undef⟩) (.int .i64 1))).1.todo
noncomputable def q (b : WB) (ci : Int) (f : Nat → Value) : FrS := (mkF ((rbase b ci f).setIfInBounds 8 (.int .i64 ci)) tq b, [B0])
theorem p1_to (b : WB) (c : Nat) : okx Try.prog 13 (put (p1 b) (.int .i64 ((c : Int) + 1))) = true ∧ nx Try.prog 13 (put (p1 b) (.int .i64 ((c : Int) + 1))) = q b (IntKind.i64.wrap ((c : Int) + 1 - 1)) (fun i => (nx Try.prog 13 (put (p1 b) (.int .i64 ((c : Int) + 1)))).1.tmps.getD i undef) := ⟨by kernel_rfl, by kernel_rfl⟩
/-- At the loop's condition. -/
noncomputable def tr : List Item := (nx Try.prog 3 (put (q ⟨0, 0, 0, 0, 0, undef, undef, undef⟩ 0 fun _ => undef) (.slice none 0 0))).1.todo
noncomputable def r (b : WB) (ci : Int) (bb : Bool) (f : Nat → Value) : FrS := (mkF ((rbase b ci f).setIfInBounds 11 (.bool bb)) tr b, [B0])
theorem q_to (b : WB) (ci : Int) (f : Nat → Value) (oa : Option Addr) (ln cap : Nat) : okx Try.prog 3 (put (q b ci f) (.slice oa ln cap)) = true ∧ nx Try.prog 3 (put (q b ci f) (.slice oa ln cap)) = r b ci (decide (ci < (ln : Int))) (fun i => (nx Try.prog 3 (put (q b ci f) (.slice oa ln cap))).1.tmps.getD i undef) := ⟨by kernel_rfl, by kernel_rfl⟩
theorem q_ask (b : WB) (ci : Int) (f : Nat → Value) : asked (q b ci f) = some (ldS 23 ⟨b.bl, 0, none⟩) := by kernel_rfl
/-- At the draw. -/
noncomputable def tx : List Item := (nx Try.prog 4 (r ⟨0, 0, 0, 0, 0, undef, undef, undef⟩ 0 true fun _ => undef)).1.todo
noncomputable def x (b : WB) (ci : Int) (f : Nat → Value) : FrS := (mkF (rbase b ci f) tx b, [B0])
theorem tx_eq : tx = .code (.region 4 ops21 true) :: tx.tail := by kernel_rfl
theorem r_true (b : WB) (ci : Int) (f : Nat → Value) : okx Try.prog 4 (r b ci true f) = true ∧ nx Try.prog 4 (r b ci true f) = x b ci (fun i => (nx Try.prog 4 (r b ci true f)).1.tmps.getD i undef) := ⟨by kernel_rfl, by kernel_rfl⟩
theorem r_false (b : WB) (ci : Int) (f : Nat → Value) : okx Try.prog 4 (r b ci false f) = true ∧ nx Try.prog 4 (r b ci false f) = d0 b.wg ((nx Try.prog 4 (r b ci false f)).2.headD default) [B0] := ⟨by kernel_rfl, by kernel_rfl⟩
/-- A later turn of the loop, at the counter. -/
noncomputable def t3 : List Item := ((nx Try.prog 14 (put (rst 21 ops21 (fun _ => undef) (rbase ⟨0, 0, 0, 0, 0, undef, undef, undef⟩ 0 fun _ => undef) tx.tail [dn ⟨0, 0, 0, 0, 0, undef, undef, undef⟩] [B0] (arr 511) [9]) undef)).2.headD default).todo
noncomputable def p2 (b : WB) (ci : Int) (f : Nat → Value) : FrS := ((p1 b).1, [mkF (rbase b ci f) t3 b, B0])
theorem p2_ask (b : WB) (ci : Int) (f : Nat → Value) : asked (p2 b ci f) = some (callFunc 41 #[.pointer (some ⟨b.nx, 0, none⟩), .int .i64 1]) := by kernel_rfl
theorem p2_to (b : WB) (ci : Int) (f : Nat → Value) (c : Nat) : okx Try.prog 12 (put (p2 b ci f) (.int .i64 ((c : Int) + 1))) = true ∧ nx Try.prog 12 (put (p2 b ci f) (.int .i64 ((c : Int) + 1))) = q b (IntKind.i64.wrap ((c : Int) + 1 - 1)) (fun i => (nx Try.prog 12 (put (p2 b ci f) (.int .i64 ((c : Int) + 1)))).1.tmps.getD i undef) := ⟨by kernel_rfl, by kernel_rfl⟩
/-- At the store. -/
noncomputable def s9 (b : WB) (ci : Int) (vals : Nat → Value) (f : Nat → Value) : FrS := rst 21 ops21 vals (rbase b ci f) tx.tail [dn b] [B0] (arr 511) [9]
theorem s9_ask (b : WB) (ci : Int) (vals : Nat → Value) (f : Nat → Value) (ad : Addr) (h8 : vals 8 = .pointer (some ad)) : asked (s9 b ci vals f) = some (stS 3 ad (vals 7)) := by
  have : asked (s9 b ci vals f) = some (do Instr.storeAt 3 (vals 8) (vals 7); pure .skip) := by kernel_rfl
  rw [this, h8]
theorem s9_to (b : WB) (ci : Int) (vals : Nat → Value) (f : Nat → Value) : okx Try.prog 14 (put (s9 b ci vals f) undef) = true ∧ nx Try.prog 14 (put (s9 b ci vals f) undef) = p2 b ci (fun i => ((nx Try.prog 14 (put (s9 b ci vals f) undef)).2.headD default).tmps.getD i undef) := ⟨by kernel_rfl, by kernel_rfl⟩
theorem only9 : ((prs ops21 LL10).all fun x => x.2 != 9 || x.1 == arr 511) = true := by kernel_rfl
/-- The end. -/
theorem r_end (b : WB) (ci : Int) (f : Nat → Value) : okx Try.prog 1 (ret ((nx Try.prog 4 (r b ci false f)).2.headD default), [B0]) = true ∧ nx Try.prog 1 (ret ((nx Try.prog 4 (r b ci false f)).2.headD default), [B0]) = (B0, []) := ⟨by kernel_rfl, by kernel_rfl⟩
theorem b0_cat : B0.catches Try.prog = false := by kernel_rfl
end W21
variable [FnSet]
namespace W21
def rv (p : Pool) (b : WB) (pad : Nat → Addr) (el : Nat → Value) (i : Nat) : Nat → Value := rvals b i (pad i) (el i) (p.R i) (.pointer (some ⟨p.ou, i, none⟩))
noncomputable def fr (bx : Addr) (v : Value) : Frame := Frame.enter Try.prog 13 #[v, .pointer (some bx)] .normal
noncomputable def sta (p : Pool) (b : WB) (pad : Nat → Addr) (el : Nat → Value) (i : Nat) (f : Nat → Value) : Array Bool → List Nat → FrS := rst 21 ops21 (rv p b pad el i) (rbase b i f) tx.tail [dn b] [B0]
def PA (b : WB) (g : Goroutine) : Prop := g = Gx (p1 b) ∨ ∃ ci f, g = Gx (p2 b ci f)
def PC (bx : Addr) (p : Pool) (b : WB) (pad : Nat → Addr) (el : Nat → Value) (i : Nat) (g : Goroutine) : Prop := ∃ (n : Nat) (l : Array Bool) (fuel t : Nat) (f : Nat → Value), l ∈ LL10.getD n [] ∧ 7 ∈ Region.ready .any ops21 l ∧ fuel + (n + 1) = 10 ∧
  g = Gx (fr bx (el i), (sta p b pad el i f l (7 :: Region.linearise.go .any ops21 fuel t (l.setIfInBounds 7 true) [])).1 :: (sta p b pad el i f l (7 :: Region.linearise.go .any ops21 fuel t (l.setIfInBounds 7 true) [])).2)
def PS (p : Pool) (b : WB) (pad : Nat → Addr) (el : Nat → Value) (i : Nat) (g : Goroutine) : Prop := ∃ f, g = Gx (s9 b i (rv p b pad el i) f)
theorem tys : (Try.prog.underlying 23).map plainD = some true ∧ (Try.prog.underlying 29).map plainD = some true ∧ (Try.prog.underlying 47).map plainD = some true := ⟨by kernel_rfl, by kernel_rfl, by kernel_rfl⟩
theorem u25 : Try.prog.underlying 29 = some (.slice 3) := by kernel_rfl
theorem z2 : (Try.prog.info? 3).map (·.size) = some 1 := by kernel_rfl
theorem mixed : Try.prog.follows .mixedOrders = true := by kernel_rfl
theorem ops_size : ops21.size = 10 := by kernel_rfl
section
variable {p : Pool} {b : WB} {oa : Option Addr} {cap : Nat} {pad : Nat → Addr} {el : Nat → Value} {bx : Addr}
theorem asks (W : Work p b oa cap 23 25 (fr bx) pad el) {i : Nat} (hi : i < p.len) : ∀ n l, l ∈ LL10.getD n [] → ∀ j ∈ Region.ready .any ops21 l, j ≠ 7 → j ≠ 9 → p.Asks p.EvR (rsem 23 29 47 25 b i (pad i) j) (some (rv p b pad el i j)) := by
  intro n l hl j hj h7 h9
  have hlt : j < 10 := by
    have := List.mem_filter.1 hj
    simpa [ops_size] using this.1
  obtain ⟨tyl, hl'⟩ := W.bl.2
  obtain ⟨tyf, hf'⟩ := W.bf.2
  obtain ⟨tyo, ho'⟩ := W.vo.2
  rcases (by omega : j = 0 ∨ j = 1 ∨ j = 2 ∨ j = 3 ∨ j = 4 ∨ j = 5 ∨ j = 6 ∨ j = 8) with rfl | rfl | rfl | rfl | rfl | rfl | rfl | rfl
  · exact asks_ld W.prog W.vo.1 ho' tys.2.1
  · exact asks_pure _
  · exact asks_ld W.prog W.bf.1 hf' tys.2.2
  · exact asks_ld W.prog W.bl.1 hl' tys.1
  · exact asks_pure _
  · exact W.el5 i hi
  · exact W.el6 i hi
  · have := asks_ix (p := p) W.prog (t := 29) (b := p.ou) (o := 0) (cap := p.len) u25 z2 hi
    simp only [Nat.mul_one, Nat.zero_add] at this
    show p.Asks p.EvR (ixS 29 b.o (.int .i64 i)) (some (.pointer (some ⟨p.ou, i, none⟩)))
    rw [W.o]
    exact this
theorem reg (W : Work p b oa cap 23 25 (fr bx) pad el) (hfv : b.fv = .func (.func 13) #[] #[.pointer (some bx)]) (i : Nat) (f : Nat → Value) : Reg Try.prog ops21 10 7 9 LL10 (sta p b pad el i f) (rv p b pad el i) (rsem 23 29 47 25 b i (pad i)) (fr bx (el i)) :=
  reg21 b bx hfv i (pad i) (el i) (p.R i) (.pointer (some ⟨p.ou, i, none⟩)) f tx.tail [dn b] [B0]
/-- From behind the counter's add. -/
theorem after (W : Work p b oa cap 23 25 (fr bx) pad el) (hfv : b.fv = .func (.func 13) #[] #[.pointer (some bx)]) (hPC : p.PC = PC bx p b pad el) {c : Nat} (hc : c < 1000) (f : Nat → Value) : (c < p.len → ∃ m, p.WkR (p.PC c) m (Gx (q b c f))) ∧ (p.len ≤ c → ∃ m, p.WkR p.AtR0 m (Gx (q b c f))) := by
  obtain ⟨tyl, hl'⟩ := W.bl.2
  have hload : p.Asks p.EvR (ldS 23 ⟨b.bl, 0, none⟩) (some b.a) := asks_ld W.prog W.bl.1 hl' tys.1
  have hq := q_to b c f oa p.len cap
  have hgo : ∀ {K : Goroutine → Prop}, (∃ m, p.WkR K m (Gx (r b c (decide ((c : Int) < (p.len : Int))) (fun i => (nx Try.prog 3 (put (q b c f) (.slice oa p.len cap))).1.tmps.getD i undef)))) → ∃ m, p.WkR K m (Gx (q b c f)) := fun {K} hk => by
    refine wlk_put (q_ask b c f) (some b.a) hload ?_
    rw [show valOf (some b.a) = b.a from rfl, W.a]
    exact wlk_nxP W.prog hq.1 (by rw [hq.2]; exact hk)
  refine ⟨fun hlt => hgo ?_, fun hge => hgo ?_⟩
  · rw [show decide ((c : Int) < (p.len : Int)) = true by simp; omega]
    generalize (fun i => (nx Try.prog 3 (put (q b c f) (.slice oa p.len cap))).1.tmps.getD i undef) = f1
    refine wlk_nxP W.prog (r_true b c f1).1 ?_
    rw [(r_true b c f1).2]
    generalize (fun i => (nx Try.prog 4 (r b c true f1)).1.tmps.getD i undef) = f2
    have R := reg W hfv c f2
    have hK : ∀ t, p.WkR (p.PC c) 10 (Gx (sta p b pad el c f2 (Array.replicate 10 false) (Region.linearise.go .any ops21 10 t (Array.replicate 10 false) []))) := fun t =>
      reg_ahead W.prog R (asks W hlt) (fun n l fuel t hl hi hf => by rw [hPC]; exact ⟨n, l, fuel, t, f2, hl, hi, hf, rfl⟩) 10 t 0 _ rfl (by decide) (by decide)
    refine ⟨10 + 1, .inr ⟨rfl, fun w hw => ?_⟩⟩
    obtain ⟨t, ht⟩ := reg_draw (P := Try.prog) (main := false) (x := x b c f2) (ops := ops21) (id := 4) (k := tx.tail) rfl rfl tx_eq mixed w
    rw [W.prog]
    refine ⟨_, w.drawn + 1, #[], ht, by intro e he; simp at he, ?_⟩
    rw [ops_size]
    exact hK t
  · rw [show decide ((c : Int) < (p.len : Int)) = false by simp; omega]
    generalize (fun i => (nx Try.prog 3 (put (q b c f) (.slice oa p.len cap))).1.tmps.getD i undef) = f1
    refine wlk_nxP W.prog (r_false b c f1).1 ?_
    rw [(r_false b c f1).2, W.wg]
    refine wDone W.prog W.n16 (q := 2) ?_
    rw [W.prog]
    exact quits_nx (n := 1) (r_end b c f1).1 (by rw [(r_end b c f1).2]; exact quits_end rfl rfl rfl b0_cat)
theorem add_ (W : Work p b oa cap 23 25 (fr bx) pad el) (hfv : b.fv = .func (.func 13) #[] #[.pointer (some bx)]) (hPA : p.PA = PA b) (hPC : p.PC = PC bx p b pad el) : ∀ g, p.PA g → g.status = .running ∧ ∀ (c : Nat) w, p.S w → c ≤ p.len + p.n → p.NxAt w c →
    ∃ g', stepG p.P false g w = .go g' (w.setCell p.nxA (.int .i64 (c + 1))) #[rd p.nxA, wr p.nxA] ∧ (c < p.len → ∃ m, p.WkR (p.PC c) m g') ∧ (p.len ≤ c → ∃ m, p.WkR p.AtR0 m g') := by
  intro g hg
  rw [hPA] at hg
  have hl := W.l60
  have hn := W.n16
  rcases hg with rfl | ⟨ci, f, rfl⟩
  · refine ⟨rfl, fun c w hw hc hnx => ⟨_, nx_add W.prog (by rw [← W.nx]; exact p1_ask b) (by omega) hnx, ?_⟩⟩
    obtain ⟨h1, h2⟩ := p1_to b c
    rw [show ((c : Int) + 1 - 1) = c by omega, wrap_i64 (by omega)] at h2
    obtain ⟨h3, h4⟩ := after W hfv hPC (c := c) (by omega) (fun i => (nx Try.prog 13 (put (p1 b) (.int .i64 ((c : Int) + 1)))).1.tmps.getD i undef)
    rw [← h2] at h3 h4
    exact ⟨fun h => wlk_nxP W.prog h1 (h3 h), fun h => wlk_nxP W.prog h1 (h4 h)⟩
  · refine ⟨rfl, fun c w hw hc hnx => ⟨_, nx_add W.prog (by rw [← W.nx]; exact p2_ask b ci f) (by omega) hnx, ?_⟩⟩
    obtain ⟨h1, h2⟩ := p2_to b ci f c
    rw [show ((c : Int) + 1 - 1) = c by omega, wrap_i64 (by omega)] at h2
    obtain ⟨h3, h4⟩ := after W hfv hPC (c := c) (by omega) (fun i => (nx Try.prog 12 (put (p2 b ci f) (.int .i64 ((c : Int) + 1)))).1.tmps.getD i undef)
    rw [← h2] at h3 h4
    exact ⟨fun h => wlk_nxP W.prog h1 (h3 h), fun h => wlk_nxP W.prog h1 (h4 h)⟩
theorem is511 {l : Array Bool} {n : Nat} (hl : l ∈ LL10.getD n []) (h9 : 9 ∈ Region.ready .any ops21 l) : l = arr 511 := by
  have hm : (l, 9) ∈ prs ops21 LL10 := by
    refine List.mem_flatMap.2 ⟨l, ?_, List.mem_map.2 ⟨9, h9, rfl⟩⟩
    have hn : n < LL10.length := by
      rcases Nat.lt_or_ge n LL10.length with h | h
      · exact h
      · rw [List.getD_eq_getElem?_getD, List.getElem?_eq_none h] at hl; cases hl
    refine List.mem_flatten.2 ⟨LL10.getD n [], ?_, hl⟩
    rw [List.getD_eq_getElem?_getD, List.getElem?_eq_getElem hn]
    exact List.getElem_mem _
  have := List.all_eq_true.1 only9 _ hm
  simpa using this
theorem call_ (W : Work p b oa cap 23 25 (fr bx) pad el) (hfv : b.fv = .func (.func 13) #[] #[.pointer (some bx)]) (hPC : p.PC = PC bx p b pad el) (hPS : p.PS = PS p b pad el) : ∀ i g, i < p.len → p.PC i g →
    ∃ frL fr xw c rest, g = G fr (c :: rest) ∧ FR p.P p.okB idr p.N0 frL fr ∧ LT p.P (fun v _ => v = p.R i) frL [] xw ∧ (∀ w, p.S w → WR p.N0 idr p.N0 xw w) ∧ ∃ m, p.WkR (p.PS i) m (G (c.finish (p.R i)) rest) := by
  intro i g hi hg
  rw [hPC] at hg
  obtain ⟨n, l, fuel, t, f, hl, h7, hf, rfl⟩ := hg
  obtain ⟨frL, xw, h1, h2, h3⟩ := W.f i hi
  have R := reg W hfv i f
  refine ⟨frL, fr bx (el i), xw, _, _, rfl, h1, h2, h3, ?_⟩
  have h4 := (R.call n l hl h7 (Region.linearise.go .any ops21 fuel t (l.setIfInBounds 7 true) [])).2.2
  have h5 := reg_behind (main := false) (K := p.PS i) W.prog R (asks W hi) (fun n l hl h9 => by rw [hPS, is511 hl h9]; exact ⟨f, rfl⟩) fuel t (n + 1) _ (by omega) (R.clo n l hl 7 h7 (by decide)) (R.nic n l hl h7).2
  rw [← h4] at h5
  exact h5
theorem store_ (W : Work p b oa cap 23 25 (fr bx) pad el) (hint : ∀ i, ∃ k x, p.R i = .int k x) (hPA : p.PA = PA b) (hPS : p.PS = PS p b pad el) : ∀ i g, i < p.len → p.PS i g → g.status = .running ∧ ∀ w, p.S w →
    ∃ g', stepG p.P false g w = .go g' (w.setCell (p.outA i) (p.R i)) #[⟨.cell (p.outA i), true, false⟩] ∧ ∃ m, p.WkR p.PA m g' := by
  intro i g hi hg
  rw [hPS] at hg
  obtain ⟨f, rfl⟩ := hg
  refine ⟨rfl, fun w hw => ?_⟩
  obtain ⟨k, x, hR⟩ := hint i
  obtain ⟨os, hos, hsz⟩ := hw.ou
  have hc : w.cell? ⟨p.ou, i, none⟩ = some (os[i]'(by omega)) := by simp [World.cell?, hos]
  have hz : w.frozen? ⟨p.ou, i, none⟩ = false := by simp [World.frozen?, hos]
  obtain ⟨h1, h2⟩ := st_ok (P := Try.prog) (t := 3) (v := p.R i) z2 (by rw [hR]; rfl) (by rw [hR]; rfl) hc hz
  have hask : asked (s9 b i (rv p b pad el i) f) = some (stS 3 ⟨p.ou, i, none⟩ (p.R i)) := s9_ask b i (rv p b pad el i) f ⟨p.ou, i, none⟩ rfl
  refine ⟨Gx (put (s9 b i (rv p b pad el i) f) undef), ?_, ?_⟩
  · have hs : seen Try.prog (s9 b i (rv p b pad el i) f).1.fn #[⟨.cell ⟨p.ou, i, none⟩, true, false⟩] = #[⟨.cell ⟨p.ou, i, none⟩, true, false⟩] := by kernel_rfl
    exact stop_step (main := false) W.prog hask (v := none) ⟨h1, by rw [h2]; exact hs⟩
  · obtain ⟨h3, h4⟩ := s9_to b i (rv p b pad el i) f
    exact wlk_nxP W.prog h3 (by rw [h4]; exact wlk_stop (by rw [hPA]; exact .inr ⟨_, _, rfl⟩))
theorem child_ (W : Work p b oa cap 23 25 (fr bx) pad el) (hPA : p.PA = PA b) : ∃ m, p.WkR p.PA m (Gx (ch b)) := wlk_nxP W.prog (ch_ok b) (wlk_stop (by rw [hPA]; exact .inl rfl))
end
end W21
end Go.Po
/- each[[]int64, int], part 2: the starter; the law (printed by mk12.py). -/
namespace Go.Po
open Go Go.Conc Go.Tw Go.Proofs
open Go.ConcR (KK WgAt stA smA rd wr mk)
namespace E12
def run1 (P : Program) (x : FrS) (nv : Nat × Value) : FrS := put (nx P nv.1 x) nv.2
def runL (P : Program) (l : List (Nat × Value)) (x : FrS) : FrS := l.foldl (run1 P) x
def script (b : WB) : List (Nat × Option Value) := [(2, some (ptr b.bl)), (0, some (ptr b.bf)), (8, some (.bool false)), (2, some (.bool false)), (6, some b.a), (1, some (.bool false)), (7, some b.a), (1, some b.o), (0, some (ptr b.vo)), (0, none), (3, some (ptr b.nx)), (3, some (ptr b.wg))]
noncomputable def x0 (b : WB) (n : Nat) (c : Frame) (rest : List Frame) : FrS := (Frame.enter Try.prog 12 #[b.a, .int .i64 n, b.fv] .normal, c :: rest)
noncomputable def pre (b : WB) (n : Nat) (c : Frame) (rest : List Frame) : FrS := runL Try.prog ((script b).map fun x => (x.1, valOf x.2)) (x0 b n c rest)
theorem scr12 (b : WB) (oa : Option Addr) (ln cap : Nat) (hb : b.a = .slice oa ln cap) (n : Nat) (c : Frame) (rest : List Frame) : scr Try.prog (script b) (x0 b n c rest).1 (x0 b n c rest).2 = some ([bxS 23 b.a, bxS 47 b.fv, pure (.value (.bool (decide ((n : Int) < 1)))), pure (.value (.bool (decide ((n : Int) > 16)))), ldS 23 ⟨b.bl, 0, none⟩,
    pure (.value (.bool (decide ((ln : Int) > 60)))), ldS 23 ⟨b.bl, 0, none⟩, mkS 29 ln, alS 29, stS 29 ⟨b.vo, 0, none⟩ b.o, alS 52, alS 59], (pre b n c rest).1, (pre b n c rest).2) := by
  obtain ⟨wg, nx, bl, bf, vo, a, o, fv⟩ := b
  simp only at hb
  subst hb
  kernel_rfl
def base (b : WB) (n : Nat) (k : Int) (f : Nat → Value) : Array Value := #[b.a, .int .i64 n, b.fv, ptr b.bl, f 4, ptr b.bf, f 6, f 7, ptr b.vo, ptr b.nx, ptr b.wg, f 11, f 12, f 13, f 14, f 15, f 16, f 17, f 18, f 19, f 20, f 21, f 22, f 23, f 24, .int .i64 n, .int .i64 k, f 27, f 28, f 29, f 30, f 31, f 32]
def mkF (tmps : Array Value) (todo : List Item) : Frame := { fn := 12, tmps := tmps, todo := todo, defers := [], mode := .run, kind := .normal }
abbrev b0 : WB := ⟨0, 0, 0, 0, 0, .slice none 0 0, undef, undef⟩
/-- At the loop's comparison. -/
noncomputable def tL : List Item := (nx Try.prog 11 (pre b0 1 default [])).1.todo
noncomputable def Ls (b : WB) (n : Nat) (k : Int) (f : Nat → Value) (cs : List Frame) : FrS := (mkF (base b n k f) tL, cs)
theorem pre_to (b : WB) (oa : Option Addr) (ln cap : Nat) (hb : b.a = .slice oa ln cap) (n : Nat) (c : Frame) (rest : List Frame) : okx Try.prog 11 (pre b n c rest) = true ∧ nx Try.prog 11 (pre b n c rest) = Ls b n 0 (fun i => (nx Try.prog 11 (pre b n c rest)).1.tmps.getD i undef) (c :: rest) := by
  obtain ⟨wg, nx, bl, bf, vo, a, o, fv⟩ := b
  simp only at hb
  subst hb
  exact ⟨by kernel_rfl, by kernel_rfl⟩
theorem L_ask (b : WB) (n : Nat) (k : Int) (f : Nat → Value) (cs : List Frame) : asked (Ls b n k f cs) = some (pure (.value (.bool (decide (k < (n : Int)))))) := by kernel_rfl
/-- Into Add. -/
noncomputable def tA : List Item := ((nx Try.prog 9 (put (Ls b0 1 0 (fun _ => undef) []) (.bool true))).2.headD default).todo
noncomputable def cA (b : WB) (n : Nat) (k : Int) (f : Nat → Value) : Frame := mkF (base b n k f) tA
theorem L_true (b : WB) (n : Nat) (k : Int) (f : Nat → Value) (cs : List Frame) : okx Try.prog 9 (put (Ls b n k f cs) (.bool true)) = true ∧ nx Try.prog 9 (put (Ls b n k f cs) (.bool true)) = a0 b.wg (cA b n k (fun i => ((nx Try.prog 9 (put (Ls b n k f cs) (.bool true))).2.headD default).tmps.getD i undef)) cs := ⟨by kernel_rfl, by kernel_rfl⟩
/-- Into Wait. -/
noncomputable def tW : List Item := ((nx Try.prog 7 (put (Ls b0 1 0 (fun _ => undef) []) (.bool false))).2.headD default).todo
noncomputable def cW (b : WB) (n : Nat) (k : Int) (f : Nat → Value) : Frame := mkF (base b n k f) tW
theorem L_false (b : WB) (n : Nat) (k : Int) (f : Nat → Value) (cs : List Frame) : okx Try.prog 7 (put (Ls b n k f cs) (.bool false)) = true ∧ nx Try.prog 7 (put (Ls b n k f cs) (.bool false)) = w0 b.wg (cW b n k (fun i => ((nx Try.prog 7 (put (Ls b n k f cs) (.bool false))).2.headD default).tmps.getD i undef)) cs := ⟨by kernel_rfl, by kernel_rfl⟩
/-- At the go statement. -/
noncomputable def gA (b : WB) (n : Nat) (k : Int) (f : Nat → Value) (cs : List Frame) : FrS := nx Try.prog 3 ((cA b n k f).finish tup0, cs)
theorem g_ok (b : WB) (n : Nat) (k : Int) (f : Nat → Value) (cs : List Frame) : okx Try.prog 3 ((cA b n k f).finish tup0, cs) = true := by kernel_rfl
theorem g_ask (b : WB) (n : Nat) (k : Int) (f : Nat → Value) (cs : List Frame) : asked (gA b n k f cs) = some (pure (.spawn (W21.dfr b))) := by kernel_rfl
theorem g_hd (b : WB) (n : Nat) (k : Int) (f : Nat → Value) (cs : List Frame) : (hd (gA b n k f cs).1).isSome = true := by kernel_rfl
theorem g_to (b : WB) (n : Nat) (k : Int) (f : Nat → Value) (cs : List Frame) : okx Try.prog 9 ((gA b n k f cs).1.finish undef, (gA b n k f cs).2) = true ∧ nx Try.prog 9 ((gA b n k f cs).1.finish undef, (gA b n k f cs).2) = Ls b n (IntKind.i64.wrap (k + 1)) (fun i => (nx Try.prog 9 ((gA b n k f cs).1.finish undef, (gA b n k f cs).2)).1.tmps.getD i undef) cs := ⟨by kernel_rfl, by kernel_rfl⟩
/-- Behind Wait. -/
noncomputable def e1 (b : WB) (n : Nat) (k : Int) (f : Nat → Value) (cs : List Frame) : FrS := nx Try.prog 3 ((cW b n k f).finish tup0, cs)
theorem e_ok (b : WB) (n : Nat) (k : Int) (f : Nat → Value) (cs : List Frame) : okx Try.prog 3 ((cW b n k f).finish tup0, cs) = true := by kernel_rfl
theorem e1_ask (b : WB) (n : Nat) (k : Int) (f : Nat → Value) (cs : List Frame) : asked (e1 b n k f cs) = some (ldS 29 ⟨b.vo, 0, none⟩) := by kernel_rfl
theorem e1_to (b : WB) (n : Nat) (k : Int) (f : Nat → Value) (c : Frame) (rest : List Frame) : okx Try.prog 5 (put (e1 b n k f (c :: rest)) b.o) = true ∧ nx Try.prog 5 (put (e1 b n k f (c :: rest)) b.o) = (c.finish (.tuple #[b.o, .int .i64 0]), rest) := ⟨by kernel_rfl, by kernel_rfl⟩
end E12
variable [FnSet]
namespace E12
section
variable {p : Pool} {b : WB} {oa : Option Addr} {cap : Nat} {pad : Nat → Addr} {el : Nat → Value} {cs : List Frame}
/-- At Wait's load, whatever was left before. -/
def Anch (p : Pool) (b : WB) (cs : List Frame) (g : Goroutine) : Prop := ∃ f k f', g = Gx (w2 f p.wg (cW b p.n k f') cs)
def Exit (p : Pool) (b : WB) (cs : List Frame) (g : Goroutine) : Prop := ∃ y m k f', g = Gx y ∧ okx Try.prog m y = true ∧ nx Try.prog m y = ((cW b p.n k f').finish tup0, cs)
theorem anch_ (hP : p.P = Try.prog) (hn : p.n ≤ 16) (hA : p.Anch = Anch p b cs) (hE : p.Exit = Exit p b cs) : ∀ g, p.Anch g → g.status = .running ∧ ∃ m, p.M0 p.AtW1 m g := by
  intro g hg
  rw [hA] at hg
  obtain ⟨f, k, f', rfl⟩ := hg
  exact ⟨rfl, wlk_stop (main := true) (wAnch hP hn (fun y n h1 h2 => by rw [hE]; exact ⟨y, n, k, f', rfl, h1, h2⟩) (fun f => by rw [hA]; exact ⟨f, k, f', rfl⟩) f)⟩
theorem spawn_at (hP : p.P = Try.prog) (hch : ∃ m, p.WkR p.PA m (Gx (W21.ch b))) {Next : Goroutine → Prop} {n : Nat} {k : Int} {f : Nat → Value} (hN : Next (Gx ((gA b n k f cs).1.finish undef, (gA b n k f cs).2))) : p.AtGoS Next (Gx (gA b n k f cs)) := by
  refine ⟨rfl, _, Gx (W21.ch b), fun w _ => ?_, rfl, hch, hN⟩
  have hi := g_hd b n k f cs
  have ha := g_ask b n k f cs
  cases ho : hd (gA b n k f cs).1 with
  | none => rw [ho] at hi; cases hi
  | some o =>
    unfold asked ask at ha
    rw [ho] at ha
    simp only [Option.map_some, Option.some.injEq] at ha
    rw [hP]
    exact spawn_step ho (d := W21.dfr b) rfl (by rw [ha]; rfl) (by rw [ha]; simp [Tw.seen_nil])
theorem spawns (hP : p.P = Try.prog) (hn : p.n ≤ 16) (hwg : b.wg = p.wg) (hA : p.Anch = Anch p b cs) (hch : ∃ m, p.WkR p.PA m (Gx (W21.ch b))) : ∀ r, r ≤ p.n → ∀ f, p.Spawns r (Gx (Ls b p.n ((p.n - r : Nat) : Int) f cs))
  | 0, _, f => by
    refine wlk_put (main := true) (L_ask b p.n _ f cs) (some (.bool false)) (asks_pure' (by simp)) ?_
    obtain ⟨h1, h2⟩ := L_false b p.n ((p.n - 0 : Nat) : Int) f cs
    refine wlk_nxP (main := true) hP h1 ?_
    rw [show valOf (some (Value.bool false)) = .bool false from rfl, h2, hwg]
    exact wWait hP (fun f => by rw [hA]; exact ⟨f, _, _, rfl⟩)
  | r + 1, hr, f => by
    refine wlk_put (main := true) (L_ask b p.n _ f cs) (some (.bool true)) (asks_pure' (by simp; omega)) ?_
    obtain ⟨h1, h2⟩ := L_true b p.n ((p.n - (r + 1) : Nat) : Int) f cs
    refine wlk_nxP (main := true) hP h1 ?_
    rw [show valOf (some (Value.bool true)) = .bool true from rfl, h2, hwg]
    generalize (fun i => ((nx Try.prog 9 (put (Ls b p.n ((p.n - (r + 1) : Nat) : Int) f cs) (.bool true))).2.headD default).tmps.getD i undef) = f1
    refine wAdd hP hn (wlk_nxP (main := true) hP (g_ok b p.n _ f1 cs) (wlk_stop (main := true) (spawn_at hP hch ?_)))
    obtain ⟨h3, h4⟩ := g_to b p.n ((p.n - (r + 1) : Nat) : Int) f1 cs
    refine spawns_of hP h3 ?_
    rw [h4, wrap_i64 (by omega), show (((p.n - (r + 1) : Nat) : Int) + 1) = ((p.n - r : Nat) : Int) by omega]
    exact spawns hP hn hwg hA hch r (by omega) _
end
end E12
namespace E12
def wb (N : Nat) (a fv : Value) (ln : Nat) : WB := ⟨N + 5, N + 4, N, N + 1, N + 3, a, .slice (some ⟨N + 2, 0, none⟩) ln ln, fv⟩
def row (ln : Nat) : Array Value := madeCells #[.int .i64 0] ln
section
variable (W : World) (a fv : Value) (ln : Nat)
def v1 : World := W.alloc (.cells #[a] 23)
def v2 : World := (v1 W a).alloc (.cells #[fv] 47)
def v3 : World := (v2 W a fv).alloc (.cells (row ln) 3)
def v4 : World := (v3 W a fv ln).alloc (.cells #[.slice none 0 0] 29)
def v5 : World := (v4 W a fv ln).setCell ⟨W.heap.size + 3, 0, none⟩ (.slice (some ⟨W.heap.size + 2, 0, none⟩) ln ln)
def v6 : World := (v5 W a fv ln).alloc (.cells #[.int .i64 0] 52)
def v7 : World := (v6 W a fv ln).alloc (.cells #[.int .u64 0, .int .u32 0] 59)
theorem s1 : (v1 W a).heap.size = W.heap.size + 1 := size_alloc' _ _
theorem s2 : (v2 W a fv).heap.size = W.heap.size + 2 := by rw [v2, size_alloc', s1]
theorem s3 : (v3 W a fv ln).heap.size = W.heap.size + 3 := by rw [v3, size_alloc', s2]
theorem s4 : (v4 W a fv ln).heap.size = W.heap.size + 4 := by rw [v4, size_alloc', s3]
theorem s5 : (v5 W a fv ln).heap.size = W.heap.size + 4 := by rw [v5, setCell_size, s4]
theorem s6 : (v6 W a fv ln).heap.size = W.heap.size + 5 := by rw [v6, size_alloc', s5]
theorem s7 : (v7 W a fv ln).heap.size = W.heap.size + 6 := by rw [v7, size_alloc', s6]
theorem alloc_old {w : World} {o : Obj} {i : Nat} (h : i < w.heap.size) : (w.alloc o).heap[i]? = w.heap[i]? := by
  show (w.heap.push o)[i]? = _
  rw [Array.getElem?_push, if_neg (by omega)]
theorem alloc_new {w : World} {o : Obj} {i : Nat} (h : i = w.heap.size) : (w.alloc o).heap[i]? = some o := by
  subst h
  show (w.heap.push o)[_]? = _
  simp
theorem h4_3 : (v4 W a fv ln).heap[W.heap.size + 3]? = some (.cells #[.slice none 0 0] 29) := alloc_new (s3 W a fv ln).symm
section
theorem h7_old {i : Nat} (h : i < W.heap.size) : (v7 W a fv ln).heap[i]? = W.heap[i]? := by
  rw [v7, alloc_old (by rw [s6]; omega), v6, alloc_old (by rw [s5]; omega), v5, setCell_ne _ _ _ (by show i ≠ W.heap.size + 3; omega), v4, alloc_old (by rw [s3]; omega), v3, alloc_old (by rw [s2]; omega), v2, alloc_old (by rw [s1]; omega), v1, alloc_old h]
theorem h7_0 : (v7 W a fv ln).heap[W.heap.size]? = some (.cells #[a] 23) := by
  rw [v7, alloc_old (by rw [s6]; omega), v6, alloc_old (by rw [s5]; omega), v5, setCell_ne _ _ _ (by show W.heap.size ≠ W.heap.size + 3; omega), v4, alloc_old (by rw [s3]; omega), v3, alloc_old (by rw [s2]; omega), v2, alloc_old (by rw [s1]; omega), v1, alloc_new rfl]
theorem h7_1 : (v7 W a fv ln).heap[W.heap.size + 1]? = some (.cells #[fv] 47) := by
  rw [v7, alloc_old (by rw [s6]; omega), v6, alloc_old (by rw [s5]; omega), v5, setCell_ne _ _ _ (by show W.heap.size + 1 ≠ W.heap.size + 3; omega), v4, alloc_old (by rw [s3]; omega), v3, alloc_old (by rw [s2]; omega), v2, alloc_new (s1 W a).symm]
theorem h7_2 : (v7 W a fv ln).heap[W.heap.size + 2]? = some (.cells (row ln) 3) := by
  rw [v7, alloc_old (by rw [s6]; omega), v6, alloc_old (by rw [s5]; omega), v5, setCell_ne _ _ _ (by show W.heap.size + 2 ≠ W.heap.size + 3; omega), v4, alloc_old (by rw [s3]; omega), v3, alloc_new (s2 W a fv).symm]
theorem h7_3 : (v7 W a fv ln).heap[W.heap.size + 3]? = some (.cells #[.slice (some ⟨W.heap.size + 2, 0, none⟩) ln ln] 29) := by
  rw [v7, alloc_old (by rw [s6]; omega), v6, alloc_old (by rw [s5]; omega), v5]
  exact setCell_at_ _ 0 _ (h4_3 W a fv ln)
theorem h7_4 : (v7 W a fv ln).heap[W.heap.size + 4]? = some (.cells #[.int .i64 0] 52) := by
  rw [v7, alloc_old (by rw [s6]; omega), v6, alloc_new (s5 W a fv ln).symm]
theorem h7_5 : (v7 W a fv ln).heap[W.heap.size + 5]? = some (.cells #[.int .u64 0, .int .u32 0] 59) := by
  rw [v7, alloc_new (s6 W a fv ln).symm]
end
end
theorem zs : (Try.prog.info? 29).bind (·.zero) = some (.slice none 0 0) ∧ (Try.prog.info? 52).bind (·.zero) = some (.agg #[.int .i64 0]) ∧ (Try.prog.info? 59).bind (·.zero) = some (.agg #[.int .u64 0, .int .u32 0]) ∧ (Try.prog.info? 29).map (·.size) = some 1 := ⟨by kernel_rfl, by kernel_rfl, by kernel_rfl, by kernel_rfl⟩
theorem i2 : ∃ i, Try.prog.info? 3 = some i ∧ i.zero = some (.int .i64 0) ∧ i.bytes = 8 ∧ i.size = 1 := by
  have h : (Try.prog.info? 3).map (fun i => (i.zero, i.bytes, i.size)) = some (some (.int .i64 0), 8, 1) := by kernel_rfl
  obtain ⟨i, h1, h2⟩ := Option.map_eq_some_iff.1 h
  simp only [Prod.mk.injEq] at h2
  exact ⟨i, h1, h2.1, h2.2.1, h2.2.2⟩
/-- What goroutine 0 may list meanwhile. -/
def OkP (N : Nat) (w : World) (e : Event) : Prop := ∃ ad wr, e = ⟨.cell ad, wr, false⟩ ∧ (ad.block = N ∨ ad.block = N + 1 ∨ ad.block = N + 3) ∧ ad.block < w.heap.size
section
theorem turns_box' {P : Program} {Ok : World → Event → Prop} {w : World} {t : TypeId} {v : Value} {N : Nat} (h : w.heap.size = N) (hv : v.cells = #[v]) : Turns P Ok (bxS t v) (some (ptr N)) w (w.alloc (.cells #[v] t)) := by
  subst h
  have := turns_box (P := P) (Ok := Ok) (w := w) (t := t) (v := v)
  rwa [hv] at this
theorem turns_alloc' {P : Program} {Ok : World → Event → Prop} {w : World} {t : TypeId} {z : Value} {cs : Array Value} {N : Nat} (h : w.heap.size = N) (hz : (P.info? t).bind (·.zero) = some z) (hc : z.cells = cs) : Turns P Ok (alS t) (some (ptr N)) w (w.alloc (.cells cs t)) := by
  subst h; subst hc
  exact turns_alloc hz
theorem chain (W : World) (oa : Option Addr) (ln cap : Nat) (fv : Value) (hfv : fv.cells = #[fv]) (hl : ln ≤ 60) {n : Nat} (h1 : 1 ≤ n) (h16 : n ≤ 16) : AllTurn Try.prog (OkP W.heap.size) [bxS 23 (.slice oa ln cap), bxS 47 fv, pure (.value (.bool (decide ((n : Int) < 1)))), pure (.value (.bool (decide ((n : Int) > 16)))), ldS 23 ⟨W.heap.size, 0, none⟩,
    pure (.value (.bool (decide ((ln : Int) > 60)))), ldS 23 ⟨W.heap.size, 0, none⟩, mkS 29 ln, alS 29, stS 29 ⟨W.heap.size + 3, 0, none⟩ (.slice (some ⟨W.heap.size + 2, 0, none⟩) ln ln), alS 52, alS 59] (script (wb W.heap.size (.slice oa ln cap) fv ln)) W (v7 W (.slice oa ln cap) fv ln) := by
  generalize ha : (Value.slice oa ln cap) = a
  have hac : a.cells = #[a] := by subst ha; rfl
  have hld : Turns Try.prog (OkP W.heap.size) (ldS 23 ⟨W.heap.size, 0, none⟩) (some a) (v2 W a fv) (v2 W a fv) := by
    refine turns_ld W21.tys.1 ?_ ⟨_, _, rfl, .inl rfl, by rw [s2]; show W.heap.size < _; omega⟩
    have : (v2 W a fv).heap[W.heap.size]? = some (.cells #[a] 23) := by rw [v2, alloc_old (by rw [s1]; omega), v1, alloc_new rfl]
    simp [World.cell?, this]
  obtain ⟨i, hi, hz, hb, hs⟩ := i2
  have hmk := turns_make (P := Try.prog) (Ok := OkP W.heap.size) (w := v2 W a fv) W21.u25 hi hz hb hs (l := ln) (by omega)
  rw [s2] at hmk
  refine ⟨v1 W a, turns_box' rfl hac, v2 W a fv, turns_box' (s1 W a) hfv, _, turns_pure (by simp; omega), _, turns_pure (by simp; omega), _, hld, _, turns_pure (by simp; omega), _, hld, v3 W a fv ln, hmk, v4 W a fv ln, turns_alloc' (s3 W a fv ln) zs.1 rfl, v5 W a fv ln, ?_, v6 W a fv ln, turns_alloc' (s5 W a fv ln) zs.2.1 rfl, v7 W a fv ln, turns_alloc' (s6 W a fv ln) zs.2.2.1 rfl, rfl⟩
  have h43 := h4_3 W a fv ln
  refine turns_st (v := .slice (some ⟨W.heap.size + 2, 0, none⟩) ln ln) (u := .slice none 0 0) zs.2.2.2 rfl rfl (by simp [World.cell?, h43]) (by simp [World.frozen?, h43]) ⟨_, _, rfl, .inr (.inr rfl), ?_⟩
  show W.heap.size + 3 < _
  rw [setCell_size, s4]; omega
end
end E12
namespace E12
section
variable (bx : Addr) (okB : Nat → Bool) (W : World) (a fv : Value) (ln n N0 g0 : Nat) (ShB : Nat → Prop) (R : Nat → Value) (pad : Nat → Addr) (el : Nat → Value) (cs : List Frame)
noncomputable def pool0 : Pool := { P := Try.prog, okB := okB, ty := 59, nty := 52, oty := 3, W1 := v7 W a fv ln, N0 := N0, nx := W.heap.size + 4, ou := W.heap.size + 2, wg := W.heap.size + 5, n := n, len := ln, g0 := g0, ShB := ShB, R := R, PA := fun _ => False, PC := fun _ _ => False, PS := fun _ _ => False, Anch := fun _ => False, Exit := fun _ => False }
noncomputable def pool : Pool := { P := Try.prog, okB := okB, ty := 59, nty := 52, oty := 3, W1 := v7 W a fv ln, N0 := N0, nx := W.heap.size + 4, ou := W.heap.size + 2, wg := W.heap.size + 5, n := n, len := ln, g0 := g0, ShB := ShB, R := R, PA := W21.PA (wb W.heap.size a fv ln), PC := W21.PC bx (pool0 okB W a fv ln n N0 g0 ShB R) (wb W.heap.size a fv ln) pad el, PS := W21.PS (pool0 okB W a fv ln n N0 g0 ShB R) (wb W.heap.size a fv ln) pad el, Anch := Anch (pool0 okB W a fv ln n N0 g0 ShB R) (wb W.heap.size a fv ln) cs, Exit := Exit (pool0 okB W a fv ln n N0 g0 ShB R) (wb W.heap.size a fv ln) cs }
end
section
variable {okB : Nat → Bool} {W : World} {oa : Option Addr} {cap ln n N0 g0 : Nat} {ShB : Nat → Prop} {R : Nat → Value} {pad : Nat → Addr} {el : Nat → Value} {cs : List Frame} {bx : Addr}
theorem still_old {a fv : Value} {b : Nat} (h : b < W.heap.size) : (pool bx okB W a fv ln n N0 g0 ShB R pad el cs).Still b := ⟨by show b < (v7 W a fv ln).heap.size; rw [s7]; omega, by show b ≠ W.heap.size + 4; omega, by show b ≠ W.heap.size + 2; omega, by show b ≠ W.heap.size + 5; omega⟩
theorem S_old {a fv : Value} {w : World} (h : (pool bx okB W a fv ln n N0 g0 ShB R pad el cs).S w) : (∀ b, b < W.heap.size → w.heap[b]? = W.heap[b]?) ∧ W.heap.size ≤ w.heap.size :=
  ⟨fun b hb => (h.still b (still_old hb)).trans (h7_old W a fv ln hb), by have := h.size; simp only [pool, s7] at this; omega⟩
theorem hypM (env : EnvC Try.prog okB) (hC : Ctr okB W N0 ShB 23 25 (W21.fr bx) (.slice oa ln cap) ln R pad el) (hl : ln ≤ 60) (h1 : 1 ≤ n) (h16 : n ≤ 16) (hg0 : 0 < g0) :
    (pool bx okB W (.slice oa ln cap) (.func (.func 13) #[] #[.pointer (some bx)]) ln n N0 g0 ShB R pad el cs).HypM ∧ Work (pool bx okB W (.slice oa ln cap) (.func (.func 13) #[] #[.pointer (some bx)]) ln n N0 g0 ShB R pad el cs) (wb W.heap.size (.slice oa ln cap) (.func (.func 13) #[] #[.pointer (some bx)]) ln) oa cap 23 25 (W21.fr bx) pad el := by
  have hs := s7 W (.slice oa ln cap) (.func (.func 13) #[] #[.pointer (some bx)]) ln
  have ro : ∀ k, (k = 0 ∨ k = 1 ∨ k = 3) → (pool bx okB W (.slice oa ln cap) (.func (.func 13) #[] #[.pointer (some bx)]) ln n N0 g0 ShB R pad el cs).RO (W.heap.size + k) := fun k hk =>
    ⟨⟨by show W.heap.size + k < (v7 W _ _ ln).heap.size; rw [hs]; omega, by show W.heap.size + k ≠ W.heap.size + 4; omega, by show W.heap.size + k ≠ W.heap.size + 2; omega, by show W.heap.size + k ≠ W.heap.size + 5; omega⟩, fun h => by have := hC.sh _ h; omega⟩
  have hW : Work (pool bx okB W (.slice oa ln cap) (.func (.func 13) #[] #[.pointer (some bx)]) ln n N0 g0 ShB R pad el cs) (wb W.heap.size (.slice oa ln cap) (.func (.func 13) #[] #[.pointer (some bx)]) ln) oa cap 23 25 (W21.fr bx) pad el :=
    ⟨rfl, h16, hl, rfl, rfl, rfl, rfl, ⟨ro 0 (.inl rfl), 23, h7_0 W _ _ ln⟩, ⟨ro 1 (.inr (.inl rfl)), 47, h7_1 W _ _ ln⟩, ⟨ro 3 (.inr (.inr rfl)), 29, h7_3 W _ _ ln⟩,
      fun i hi w hw => ⟨w.drawn, (hC.el5 i hi w).1, by rw [show (pool bx okB W (.slice oa ln cap) (.func (.func 13) #[] #[.pointer (some bx)]) ln n N0 g0 ShB R pad el cs).P = Try.prog from rfl]; intro e he; rw [show (wb W.heap.size (.slice oa ln cap) (.func (.func 13) #[] #[.pointer (some bx)]) ln).a = .slice oa ln cap from rfl, (hC.el5 i hi w).2] at he; simp at he⟩,
      fun i hi w hw => let ⟨h1, h2⟩ := hC.el6 i hi w (S_old hw).1; ⟨w.drawn, h1, fun e he => let ⟨ad, h3, h4, h5⟩ := h2 e he; ⟨ad, h3, still_old h4, h5⟩⟩,
      fun i hi => let ⟨frL, xw, h1, h2, h3⟩ := hC.f i hi; ⟨frL, xw, h1, h2, fun w hw => h3 w (S_old hw).1 (S_old hw).2⟩⟩
  have hn0 := hC.n0
  have geo : (pool bx okB W (.slice oa ln cap) (.func (.func 13) #[] #[.pointer (some bx)]) ln n N0 g0 ShB R pad el cs).Geo :=
    ⟨by show N0 ≤ (v7 W _ _ ln).heap.size; rw [hs]; omega, ⟨by show N0 ≤ W.heap.size + 4; omega, by show W.heap.size + 4 < (v7 W _ _ ln).heap.size; rw [hs]; omega⟩, ⟨by show N0 ≤ W.heap.size + 2; omega, by show W.heap.size + 2 < (v7 W _ _ ln).heap.size; rw [hs]; omega⟩, ⟨by show N0 ≤ W.heap.size + 5; omega, by show W.heap.size + 5 < (v7 W _ _ ln).heap.size; rw [hs]; omega⟩,
      by show W.heap.size + 4 ≠ W.heap.size + 2; omega, by show W.heap.size + 4 ≠ W.heap.size + 5; omega, by show W.heap.size + 2 ≠ W.heap.size + 5; omega, hC.cb, env, hC.int, hg0⟩
  refine ⟨⟨⟨geo, W21.add_ hW rfl rfl rfl, W21.call_ hW rfl rfl rfl, W21.store_ hW hC.int rfl rfl⟩, ?_, h1, anch_ rfl h16 rfl rfl⟩, hW⟩
  show n < 2147483648
  omega
end
end E12
namespace E12
theorem each {okB : Nat → Bool} {W : World} {oa : Option Addr} {cap ln n N0 : Nat} {ShB : Nat → Prop} {R : Nat → Value} {pad : Nat → Addr} {el : Nat → Value} {c : Frame} {rest : List Frame} {bx : Addr} (env : EnvC Try.prog okB) (hC : Ctr okB W N0 ShB 23 25 (W21.fr bx) (.slice oa ln cap) ln R pad el) (hl : ln ≤ 60) (h1 : 1 ≤ n) (h16 : n ≤ 16)
    {m : Machine} {t : Trace} (hB : Bes Try.prog ShB (Gx (Frame.enter Try.prog 12 #[.slice oa ln cap, .int .i64 n, .func (.func 13) #[] #[.pointer (some bx)]] .normal, c :: rest)) W m t) :
    Lds Try.prog m t fun m' t' => ∃ (w' : World) (os : Array Value) (ShB' : Nat → Prop), Bes Try.prog ShB' (Gx (c.finish (.tuple #[.slice (some ⟨W.heap.size + 2, 0, none⟩) ln ln, .int .i64 0]), rest)) w' m' t' ∧ (∀ b, b < W.heap.size → w'.heap[b]? = W.heap[b]?) ∧ W.heap.size + 6 ≤ w'.heap.size ∧ (w'.os = W.os ∧ w'.output = W.output) ∧
      w'.heap[W.heap.size + 2]? = some (.cells os 3) ∧ os.size = ln ∧ (∀ i, i < ln → os[i]? = some (R i)) ∧ (∀ b, ShB' b ↔ ShB b ∨ b = W.heap.size + 4 ∨ b = W.heap.size + 5) := by
  obtain ⟨wd, hwd⟩ : ∃ b, b = wb W.heap.size (.slice oa ln cap) (.func (.func 13) #[] #[.pointer (some bx)]) ln := ⟨_, rfl⟩
  have hG : Go0 Try.prog (OkP W.heap.size) (fun g w => (∃ f, g = Gx (Ls wd n 0 f (c :: rest))) ∧ w.heap = (v7 W (.slice oa ln cap) (.func (.func 13) #[] #[.pointer (some bx)]) ln).heap ∧ w.os = W.os ∧ w.output = W.output) (Gx (x0 wd n c rest)) W := by
    subst hwd
    refine go0_scr (fun w d e h => h) (scr12 _ oa ln cap rfl n c rest) (chain W oa ln cap _ rfl hl h1 h16) ?_
    obtain ⟨h2, h3⟩ := pre_to (wb W.heap.size (.slice oa ln cap) (.func (.func 13) #[] #[.pointer (some bx)]) ln) oa ln cap rfl n c rest
    exact go0_nx (x := pre _ n c rest) h2 (by rw [h3]; exact .stop fun d => ⟨⟨_, rfl⟩, rfl, rfl, rfl⟩)
  have hB' : Bes Try.prog ShB (Gx (x0 wd n c rest)) W m t := by subst hwd; exact hB
  have htl : ∀ op ∈ t, op.act.low W.heap.size := by obtain ⟨_, _, _, _, _, _, _, hP, _⟩ := hB; exact hP.seen
  refine (bes_go0 (ShB := ShB) (fun w e ⟨ad, wr, he, hb, hlt⟩ => .inl ⟨ad, wr, he, fun hs => by have := hC.sh _ hs; omega, hlt⟩) hB' hG).trans ?_
  rintro m1 t1 ⟨g1, w1, u, sz, ⟨⟨f, rfl⟩, hh, hos, hout⟩, ⟨gs, sl, q, d, rfl, h0, hL, hP, hg⟩, rfl, hu⟩
  obtain ⟨hyp, hW⟩ := hypM (pad := pad) (cs := c :: rest) (g0 := gs.size) env hC hl h1 h16 (Array.getElem?_eq_some_iff.1 h0).1
  have htl1 : ∀ (i : Nat) (op : MemOp), (t ++ u)[i]? = some op → op.act.low W.heap.size ∨ ByOp (OkP W.heap.size) sz op := fun i op hi => by
    rcases getElem?_append_cases hi with ⟨_, h⟩ | ⟨_, h⟩
    · exact .inl (htl op (Array.mem_of_getElem? h))
    · exact .inr (hu op h)
  obtain ⟨k, rfl⟩ : ∃ k, n = k + 1 := ⟨n - 1, by omega⟩
  have hch := W21.child_ hW rfl
  have hsp := spawns (p := pool bx okB W (.slice oa ln cap) (.func (.func 13) #[] #[.pointer (some bx)]) ln (k + 1) N0 gs.size ShB R pad el (c :: rest)) (b := wb W.heap.size (.slice oa ln cap) (.func (.func 13) #[] #[.pointer (some bx)]) ln) (cs := c :: rest) rfl h16 rfl rfl hch (k + 1) (Nat.le_refl _) f
  obtain ⟨mm, hsp⟩ := hsp
  have e0 : ((((pool bx okB W (.slice oa ln cap) (.func (.func 13) #[] #[.pointer (some bx)]) ln (k + 1) N0 gs.size ShB R pad el (c :: rest)).n - (k + 1) : Nat)) : Int) = 0 := by
    show (((k + 1) - (k + 1) : Nat) : Int) = 0
    omega
  rw [e0] at hsp
  subst hwd
  have hrow : (row ln).size = ln := size_madeCells _ _
  have hdone := pool_from (p := pool bx okB W (.slice oa ln cap) (.func (.func 13) #[] #[.pointer (some bx)]) ln (k + 1) N0 gs.size ShB R pad el (c :: rest)) (Sh0 := ShL ShB) (w := w1.at d) (sl := sl) (os := row ln) hyp h0 hsp rfl hL hP hh ⟨hos, hout⟩ (h7_4 W _ _ ln) ⟨h7_2 W _ _ ln, hrow⟩ (h7_5 W _ _ ln)
    (fun i op y hi hy b hb => ?_) (fun l hl' hsl => ?_) (fun i hi => ?_) hg
  · obtain ⟨N, m2, t2, hr, gs2, w2, sl2, a2, q2, os, c2, rfl, k1, k2, k3, kg, k4, k5, k6, k7, k8, k9, k10, k11, k12⟩ := hdone
    obtain ⟨y, m', kk, f', rfl, hy1, hy2⟩ := k2
    have hs7 := s7 W (.slice oa ln cap) (.func (.func 13) #[] #[.pointer (some bx)]) ln
    have hsz2 : W.heap.size + 6 ≤ w2.heap.size := by have := k7; simp only [pool, hs7] at this; exact this
    have still : ∀ b, b < W.heap.size + 4 → b ≠ W.heap.size + 2 → w2.heap[b]? = (v7 W (.slice oa ln cap) (.func (.func 13) #[] #[.pointer (some bx)]) ln).heap[b]? := fun b hb hne =>
      k6 b ⟨by show b < (v7 W _ _ ln).heap.size; rw [hs7]; omega, by show b ≠ W.heap.size + 4; omega, hne, by show b ≠ W.heap.size + 5; omega⟩
    have h3 : w2.heap[W.heap.size + 3]? = some (.cells #[.slice (some ⟨W.heap.size + 2, 0, none⟩) ln ln] 29) := (still _ (by omega) (by omega)).trans (h7_3 W _ _ ln)
    have hB2 : Bes Try.prog (fun b => ShB b ∨ b = W.heap.size + 4 ∨ b = W.heap.size + 5) (Gx y) w2 (crowd gs2 w2 sl2) t2 := by
      refine ⟨gs2, sl2, q2, w2.drawn, rfl, k1, k4, Past.shun (fun l hl => ?_) k5, fun op hop => ?_⟩
      · rcases hl with ⟨a, ha, hs⟩ | ⟨a, ha, hs⟩
        · exact ⟨a, ha, .inl hs⟩
        · exact ⟨a, ha, .inr hs⟩
      · exact kg op hop
    have hgo : Go0 Try.prog (fun w e => e = ⟨.cell ⟨W.heap.size + 3, 0, none⟩, false, false⟩ ∧ W.heap.size + 6 ≤ w.heap.size) (fun g w => g = Gx (c.finish (.tuple #[.slice (some ⟨W.heap.size + 2, 0, none⟩) ln ln, .int .i64 0]), rest) ∧ w.heap = w2.heap ∧ w.os = w2.os ∧ w.output = w2.output) (Gx y) w2 := by
      refine go0_nx hy1 ?_
      rw [hy2]
      refine go0_nx (e_ok _ _ kk f' _) (go0_put (e1_ask _ _ kk f' _) (some (.slice (some ⟨W.heap.size + 2, 0, none⟩) ln ln)) (fun w d e h => h) (turns_ld W21.tys.2.1 (by simp [World.cell?, wb, h3]) ⟨rfl, hsz2⟩) ?_)
      obtain ⟨h5, h6⟩ := e1_to (wb W.heap.size (.slice oa ln cap) (.func (.func 13) #[] #[.pointer (some bx)]) ln) (k + 1) kk f' c rest
      have fin : Go0 Try.prog (fun w e => e = ⟨.cell ⟨W.heap.size + 3, 0, none⟩, false, false⟩ ∧ W.heap.size + 6 ≤ w.heap.size) (fun g w => g = Gx (c.finish (.tuple #[.slice (some ⟨W.heap.size + 2, 0, none⟩) ln ln, .int .i64 0]), rest) ∧ w.heap = w2.heap ∧ w.os = w2.os ∧ w.output = w2.output) (Gx (nx Try.prog 5 (put (e1 (wb W.heap.size (.slice oa ln cap) (.func (.func 13) #[] #[.pointer (some bx)]) ln) (k + 1) kk f' (c :: rest)) (wb W.heap.size (.slice oa ln cap) (.func (.func 13) #[] #[.pointer (some bx)]) ln).o))) w2 := by
        rw [h6]; exact .stop fun d => ⟨rfl, rfl, rfl, rfl⟩
      exact go0_nx h5 fin
    refine Lds.trans ⟨N, _, t2, hr, hB2⟩ fun m t hB => ?_
    have hnsh : ¬ (ShB (W.heap.size + 3) ∨ W.heap.size + 3 = W.heap.size + 4 ∨ W.heap.size + 3 = W.heap.size + 5) := by
      rintro (h | h | h)
      · have := hC.sh _ h; omega
      · omega
      · omega
    refine (bes_go0 (ShB := fun b => ShB b ∨ b = W.heap.size + 4 ∨ b = W.heap.size + 5) (fun w e ⟨he, hlt⟩ => .inl ⟨_, _, he, hnsh, by show W.heap.size + 3 < _; omega⟩) hB hgo).trans ?_
    rintro m3 t3 ⟨g3, w3, u3, sz3, ⟨rfl, e1, e2, e3⟩, hB3, _, _⟩
    refine ⟨0, m3, t3, rfl, w3, os, _, hB3, fun b hb => ?_, by rw [e1]; exact hsz2, ⟨e2.trans k8.1, e3.trans k8.2⟩, by rw [e1]; exact k11.1, k11.2, k12, fun b => Iff.rfl⟩
    rw [e1, still b (by omega) (by omega)]
    exact h7_old W _ _ ln hb
  · rcases htl1 i op hi with hlo | hby
    · have hl2 := low_touch hlo hy
      rw [hb] at hl2
      have : b.block < W.heap.size := hl2
      exact ⟨by show b.block ≠ W.heap.size + 4; omega, by show b.block ≠ W.heap.size + 2; omega, by show b.block ≠ W.heap.size + 5; omega⟩
    · rcases hby with ⟨_, w, e, ⟨ad, wr, rfl, hbl, _⟩, ha⟩ | ⟨_, _, e, hm, ha⟩
      · rw [ha] at hy
        simp only [ofEvent_cell0, MemAct.touch?, Option.some.injEq] at hy
        subst hy
        cases hb
        exact ⟨by show _ ≠ W.heap.size + 4; omega, by show _ ≠ W.heap.size + 2; omega, by show _ ≠ W.heap.size + 5; omega⟩
      · rw [ha, touch_mute hm] at hy; cases hy
  · obtain ⟨a, rfl, hs⟩ := hsl
    rcases hl' with ⟨b, hb, hr⟩ | ⟨r, hr, _⟩
    · cases hb; exact hr.2 hs
    · cases hr
  · obtain ⟨op, hop, ha⟩ := Option.map_eq_some_iff.1 hi
    rcases htl1 i op hop with hlo | hby
    · rw [ha] at hlo
      have : W.heap.size + 5 < W.heap.size := hlo
      omega
    · rcases hby with ⟨_, w, e, ⟨ad, wr, rfl, hbl, _⟩, hax⟩ | ⟨_, _, e, hm, hax⟩
      · rw [ha] at hax; simp [ofEvent_cell0] at hax
      · have := Go.ConcR.loc_of_ofEvent (hax.symm.trans ha)
        obtain ⟨loc, wr, sy⟩ := e
        simp only at this
        subst this
        simp [Event.mute] at hm
end E12
end Go.Po
