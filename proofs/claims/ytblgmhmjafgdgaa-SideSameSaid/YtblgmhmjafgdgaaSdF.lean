/- The lone worlds and contracts of what the workers call; goroutine 0's own states. -/
import Derived.Test.YtblgmhmjafgdgaaSdE
import Derived.Test.YtblgmhmjafgdgaaLnA
import Derived.Test.YtblgmhmjafgdgaaLnD
set_option linter.unusedVariables false
set_option linter.unusedSimpArgs false
set_option linter.unusedSectionVars false
/- The functions that the two closures reach are borne: each has a body of borne operations; no type's zero value bears a block. -/
namespace Go.Po
open Go Go.Conc Go.Tw Go.Proofs
def fids : List Nat := [7, 8, 10, 11, 13, 14, 20, 22, 23, 24, 25, 26, 27, 47, 48, 49, 50, 56, 57, 58, 59]
def okB (f : Nat) : Bool := fids.contains f
/-- The functions; the blocks are given. -/
abbrev fset (cb : Nat → Prop) : FnSet := ⟨fun f => okB f = true, cb⟩
def nbF : Nat → Value → Bool
  | 0, _ => false
  | n + 1, v => match v with
    | .agg xs => xs.all (nbF n)
    | .tuple xs => xs.all (nbF n)
    | .float _ _ => true
    | v => nbB v
section
variable [FnSet]
theorem nbF_nb : ∀ {n : Nat} {v : Value}, nbF n v = true → NB v
  | 0, v, h => by cases h
  | n + 1, v, h => by
    unfold nbF at h
    split at h
    · exact .agg _ fun i hi => nbF_nb (all_get h i hi)
    · exact .tup _ fun i hi => nbF_nb (all_get h i hi)
    · exact .float _ _
    · exact nbB_nb h
end
def bodyOk (P : Program) (f : Nat) : Bool := match P.funcs[f]? with
  | some fn => !(fn.name == "runtime.NumGoroutine") && (match fn.body with | some c => codeOk P okB c | none => false)
  | none => false
def zeroOk (P : Program) (t : Nat) : Bool := match P.info? t with
  | some i => (match i.zero with | some v => nbF 9 v | none => true)
  | none => true
theorem bodies_ok : fids.all (bodyOk Try.prog) = true := by kernel_rfl
theorem zeros_ok : (List.range 120).all (zeroOk Try.prog) = true := by kernel_rfl
theorem types_size : Try.prog.types.size = 120 := by kernel_rfl
theorem globals_size : Try.prog.globals.size = 0 := by kernel_rfl
theorem body_of {f : Nat} (h : okB f = true) : ∃ fn c, Try.prog.funcs[f]? = some fn ∧ (fn.name == "runtime.NumGoroutine") = false ∧ fn.body = some c ∧ codeOk Try.prog okB c = true := by
  have hm : f ∈ fids := by simpa [okB] using h
  have := List.all_eq_true.1 bodies_ok f hm
  unfold bodyOk at this
  split at this
  · rename_i fn hf
    rw [Bool.and_eq_true] at this
    obtain ⟨h1, h2⟩ := this
    split at h2
    · rename_i c hc
      exact ⟨fn, c, hf, by simpa using h1, hc, h2⟩
    · cases h2
  · cases this
theorem envC (cb : Nat → Prop) : @EnvC (fset cb) Try.prog okB := by
  letI := fset cb
  refine ⟨⟨fun f h => h, fun f h => ?_, fun t ht i v hi hz => ?_, fun b _ => by rw [globals_size]; exact Nat.zero_le b⟩, fun f h fn hf => ?_⟩
  · obtain ⟨fn, c, h1, h2, h3, _⟩ := body_of h
    exact ⟨fn, h1, by rw [h3]; rfl, h2⟩
  · rw [types_size] at ht
    have := List.all_eq_true.1 zeros_ok t (List.mem_range.2 ht)
    unfold zeroOk at this
    rw [hi] at this
    simp only [hz] at this
    exact nbF_nb this
  · obtain ⟨fn', c, h1, _, h3, h4⟩ := body_of h
    rw [h1] at hf
    cases hf
    exact ⟨c, h3, h4⟩
end Go.Po
/- The lone world: what a contract is asked of: all rows that there are, frozen, integers and truths as they are, all else dark. -/
namespace Go.Po
open Go Go.Conc Go.Tw Go.Proofs
section
variable [FnSet]
/-- A value of the lone world: it stands for the other, and for itself; integers are kept. -/
def LonV (n : Nat) (v u : Value) : Prop := VR idr n u v ∧ VR idr n u u ∧ ∀ k x, v = .int k x → u = v
theorem lon_ex (n : Nat) (v : Value) : ∃ u, LonV n v u := by
  cases v with
  | bool b => exact ⟨.bool b, .bool b, .bool b, fun k x h => by cases h⟩
  | int k x => exact ⟨.int k x, .int k x, .int k x, fun _ _ _ => rfl⟩
  | agg xs =>
    have ih : ∀ (i : Fin xs.size), ∃ u, LonV n xs[i] u := fun i => lon_ex n xs[i]
    refine ⟨.agg (Array.ofFn fun i => (ih i).choose), .agg _ _ (by simp) fun i h h' => ?_, .agg _ _ rfl fun i h h' => ?_, fun k x h => by cases h⟩
    · simp only [Array.getElem_ofFn]; exact (ih ⟨i, h'⟩).choose_spec.1
    · simp only [Array.getElem_ofFn]; exact (ih ⟨i, by simpa using h⟩).choose_spec.2.1
  | tuple xs =>
    have ih : ∀ (i : Fin xs.size), ∃ u, LonV n xs[i] u := fun i => lon_ex n xs[i]
    refine ⟨.tuple (Array.ofFn fun i => (ih i).choose), .tup _ _ (by simp) fun i h h' => ?_, .tup _ _ rfl fun i h h' => ?_, fun k x h => by cases h⟩
    · simp only [Array.getElem_ofFn]; exact (ih ⟨i, h'⟩).choose_spec.1
    · simp only [Array.getElem_ofFn]; exact (ih ⟨i, by simpa using h⟩).choose_spec.2.1
  | _ => exact ⟨poison, .poison _ rfl, .poison _ rfl, fun k x h => by cases h⟩
  termination_by SizeOf.sizeOf v
noncomputable def lon (n : Nat) (v : Value) : Value := (lon_ex n v).choose
theorem lon_spec (n : Nat) (v : Value) : LonV n v (lon n v) := (lon_ex n v).choose_spec
theorem lon_int (n : Nat) (k : IntKind) (x : Int) : lon n (.int k x) = .int k x := (lon_spec n (.int k x)).2.2 k x rfl
noncomputable def loneO (n : Nat) : Option Obj → Obj
  | some (.cells c e f) => .cells (c.map (lon n)) e (0, max c.size f.2)
  | _ => .cells #[] 0 (0, 0)
/-- The lone world of the first n blocks. -/
noncomputable def loneW (W : World) (n : Nat) : World := { heap := Array.ofFn (n := n) fun b => loneO n W.heap[b.1]?, tape := fun _ _ => 0, drawn := 0, os := W.os, output := #[] }
theorem loneW_size (W : World) (n : Nat) : (loneW W n).heap.size = n := by simp [loneW]
theorem loneW_at (W : World) {n b : Nat} (h : b < n) : (loneW W n).heap[b]? = some (loneO n W.heap[b]?) := by
  simp [loneW, h]
theorem loneO_cells (n : Nat) (o : Option Obj) : ∃ c e f, loneO n o = .cells c e f ∧ f.1 = 0 ∧ c.size ≤ f.2 := by
  unfold loneO
  split
  · exact ⟨_, _, _, rfl, rfl, by simp; omega⟩
  · exact ⟨_, _, _, rfl, rfl, by simp⟩
theorem loneW_even (W : World) (n : Nat) : Even (loneW W n) := by
  intro b o h
  have hlt : b < n := by rw [← loneW_size W n]; exact (Array.getElem?_eq_some_iff.1 h).1
  rw [loneW_at W hlt] at h
  obtain ⟨c, e, f, h1, _⟩ := loneO_cells n W.heap[b]?
  rw [h1] at h
  cases h; rfl
theorem loneW_cell (W : World) {n : Nat} {a : Addr} {k : IntKind} {x : Int} (h : W.cell? a = some (.int k x)) (ha : a.block < n) : (loneW W n).cell? a = some (.int k x) := by
  unfold World.cell? at h ⊢
  rw [loneW_at W ha]
  split at h
  · rename_i c e f hc
    rw [hc]
    simp only [loneO]
    split at h
    · cases h
    · rename_i hs
      simp only [hs]
      simp [h, lon_int]
  · cases h
end
/-- The blocks into which the functions that are called may point: the new ones; and the rows that there are, unless they are shunned. -/
def cbOf (W : World) (ShB : Nat → Prop) (b : Nat) : Prop := W.heap.size ≤ b ∨ (¬ ShB b ∧ ∃ c e f, W.heap[b]? = some (.cells c e f))
section
variable (W : World) (ShB : Nat → Prop)
theorem or_lone [FnSet] (n : Nat) (c : Array Value) (e : TypeId) (f : Nat × Nat) : OR idr n (.cells (c.map (lon n)) e (0, max c.size f.2)) (.cells c e f) := by
  refine .cells _ _ _ _ _ (.of_get? (by simp) fun i a b ha hb => ?_) fun i h1 h2 => ⟨Nat.zero_le i, ?_⟩
  · simp only [Array.getElem?_map] at ha
    rw [hb] at ha
    cases ha
    exact (lon_spec n b).1
  · show i < max c.size f.2
    omega
theorem or_lone2 [FnSet] (n : Nat) (c : Array Value) (e : TypeId) (f : Nat × Nat) : OR idr n (.cells (c.map (lon n)) e f) (.cells (c.map (lon n)) e f) := by
  refine .cells _ _ _ _ _ (.of_get? rfl fun i a b ha hb => ?_) fun i h1 h2 => ⟨h1, h2⟩
  rw [ha] at hb
  cases hb
  simp only [Array.getElem?_map] at ha
  obtain ⟨v, _, rfl⟩ := Option.map_eq_some_iff.1 ha
  exact (lon_spec n v).2.1
theorem lone_frz [FnSet] {W : World} {n : Nat} (b : Nat) (c : Array Value) (e : TypeId) (f : Nat × Nat) (hb : b < n) (h : (loneW W n).heap[b]? = some (.cells c e f)) : f.1 = 0 ∧ c.size ≤ f.2 := by
  rw [loneW_at W hb] at h
  obtain ⟨c', e', f', h1, h2, h3⟩ := loneO_cells n W.heap[b]?
  rw [h1] at h
  cases h
  exact ⟨h2, h3⟩
theorem lone_WR (w : World) (hb : ∀ b, b < W.heap.size → w.heap[b]? = W.heap[b]?) (hs : W.heap.size ≤ w.heap.size) : @WR (fset (cbOf W ShB)) W.heap.size idr W.heap.size (@loneW (fset (cbOf W ShB)) W W.heap.size) w := by
  letI := fset (cbOf W ShB)
  refine ⟨loneW_size _ _, Nat.le_refl _, fun _ _ => rfl, fun _ _ _ _ h => h, fun b o hcb ho => ?_, fun b hb => .inl hb, fun b hb => Nat.lt_of_lt_of_le hb hs, lone_frz⟩
  have hlt : b < W.heap.size := by rw [← loneW_size W W.heap.size]; exact (Array.getElem?_eq_some_iff.1 ho).1
  rw [loneW_at W hlt] at ho
  have hcb : cbOf W ShB b := hcb
  obtain ⟨c, e, f, hc⟩ := (hcb.resolve_left (by omega)).2
  rw [hc] at ho
  cases ho
  exact ⟨_, (hb b hlt).trans hc, or_lone _ c e f⟩
theorem lone_WRs : @WR (fset (cbOf W ShB)) W.heap.size idr W.heap.size (@loneW (fset (cbOf W ShB)) W W.heap.size) (@loneW (fset (cbOf W ShB)) W W.heap.size) := by
  letI := fset (cbOf W ShB)
  refine ⟨loneW_size _ _, Nat.le_refl _, fun _ _ => rfl, fun _ _ _ _ h => h, fun b o hcb ho => ?_, fun b hb => .inl hb, fun b hb => by rw [loneW_size]; exact hb, lone_frz⟩
  refine ⟨o, ho, ?_⟩
  have hlt : b < W.heap.size := by rw [← loneW_size W W.heap.size]; exact (Array.getElem?_eq_some_iff.1 ho).1
  rw [loneW_at W hlt] at ho
  have hcb : cbOf W ShB b := hcb
  obtain ⟨c, e, f, hc⟩ := (hcb.resolve_left (by omega)).2
  rw [hc] at ho
  cases ho
  exact or_lone2 _ c e _
end
end Go.Po
/- Goroutine 0 beside leavers calls a function whose lone run is known: it comes back with what the lone run gives. -/
namespace Go.Po
open Go Go.Conc Go.Tw Go.Proofs
open Go.ConcR (KK WgAt stA smA rd wr mk)
section
variable {P : Program} {Ok : World → Event → Prop} {K : Goroutine → World → Prop}
theorem Go0.mk_step {g : Goroutine} {w : World} (hr : g.status = .running) (h : ∀ d, ∃ g' w' es, stepG P true g (w.at d) = .go g' w' es ∧ w.heap.size ≤ w'.heap.size ∧ (∀ e ∈ es, Ok w' e) ∧ Go0 P Ok K g' w') : Go0 P Ok K g w :=
  .step (fun d => ((h d).choose, (h d).choose_spec.choose, (h d).choose_spec.choose_spec.choose)) hr (fun d => (h d).choose_spec.choose_spec.choose_spec.1) (fun d => (h d).choose_spec.choose_spec.choose_spec.2.1)
    (fun d => (h d).choose_spec.choose_spec.choose_spec.2.2.1) (fun d => (h d).choose_spec.choose_spec.choose_spec.2.2.2)
end
section
variable {N : Nat}
/-- What was there below N is as it was. -/
structure Kept (N : Nat) (W w : World) : Prop where
  old : ∀ b, b < N → w.heap[b]? = W.heap[b]?
  size : N ≤ w.heap.size
  os : w.os = W.os
  out : w.output = W.output
theorem Kept.refl {W : World} (h : N ≤ W.heap.size) : Kept N W W := ⟨fun _ _ => rfl, h, rfl, rfl⟩
theorem Kept.at {W w : World} (h : Kept N W w) (d : Nat) : Kept N W (w.at d) := ⟨h.old, h.size, h.os, h.out⟩
theorem Kept.trans {N' : Nat} {W w w' : World} (h : Kept N W w) (k : Kept N' w w') (hN : N ≤ N') : Kept N W w' := ⟨fun b hb => (k.old b (Nat.lt_of_lt_of_le hb hN)).trans (h.old b hb), Nat.le_trans hN k.size, k.os.trans h.os, k.out.trans h.out⟩
end
section
variable [FnSet] {P : Program} {B N : Nat} {okB : Nat → Bool} {ShB : Nat → Prop}
theorem LT.mono {Q Q' : Value → World → Prop} (hq : ∀ v w, Q v w → Q' v w) {fr : Frame} {cs : List Frame} {w : World} (h : LT P Q fr cs w) : LT P Q' fr cs w := by
  induction h with
  | leave fr w fn v h1 h2 h3 h4 => exact .leave fr w fn v h1 h2 h3 (hq _ _ h4)
  | step fr cs w nx h1 h2 _ ih => exact .step fr cs w nx h1 h2 ih
theorem WR.atC {ρ : Ren} {n : Nat} {wL wC : World} (h : WR B ρ n wL wC) (d : Nat) : WR B ρ n wL (wC.at d) := ⟨h.size, h.base, h.old, h.inj, h.obj, h.cbn, h.in_, h.frz⟩
theorem okG_of {ρ' : Ren} {nn' : Nat} {wL w' : World} (hsh : ∀ b, ShB b → b < N) (hcb : ∀ b, b < B → FnSet.cb b → ¬ ShB b) (hw : WR B ρ' nn' wL w') (hown : ∀ y, B ≤ y → y < nn' → N ≤ ρ' y) {e : Event} (h : Ev B ρ' nn' e) : OkG ShB w' e := by
  have cl : ∀ y, In nn' y → ¬ ShB (ρ' y) ∧ ρ' y < w'.heap.size := fun y hy => by
    refine ⟨fun hs => ?_, hw.in_ y hy.lt⟩
    rcases Nat.lt_or_ge y B with hlt | hge
    · rw [hw.old y hlt] at hs
      exact hcb y hlt hy.cb hs
    · have := hsh _ hs
      have := hown y hge hy.lt
      omega
  cases h with
  | rd a y hy ha =>
    obtain ⟨h1, h2⟩ := cl y hy
    exact .inl ⟨a, false, rfl, by rw [ha]; exact h1, by rw [ha]; exact h2⟩
  | wr a y h1 h2 ha =>
    obtain ⟨h3, h4⟩ := cl y ⟨h2, hw.cbn y h1⟩
    exact .inl ⟨a, true, rfl, by rw [ha]; exact h3, by rw [ha]; exact h4⟩
  | room => exact .inr (.inr rfl)
  | obj r y hy ha =>
    obtain ⟨h1, h2⟩ := cl y hy
    exact .inr (.inl ⟨r, rfl, by rw [ha]; exact h2⟩)
theorem go0_lt {K : Goroutine → World → Prop} {W : World} {c : Frame} {rest : List Frame} {R : Value} (E : EnvC P okB) (hR : ∀ (ρ : Ren) (n : Nat) v', VR ρ n R v' → v' = R) (hsh : ∀ b, ShB b → b < N) (hcb : ∀ b, b < B → FnSet.cb b → ¬ ShB b) (hBN : B ≤ N)
    (hk : ∀ w', Kept N W w' → Go0 P (OkG ShB) K (G (c.finish R) rest) w') {fr : Frame} {cs : List Frame} {xw : World} (h : LT P (fun v _ => v = R) fr cs xw) :
    ∀ {ρ : Ren} {nn : Nat} {frC : Frame} {csC : List Frame} {w : World}, FR P okB ρ nn fr frC → CR P okB ρ nn cs csC → WR B ρ nn xw w → (∀ y, B ≤ y → y < nn → N ≤ ρ y) → Kept N W w → Go0 P (OkG ShB) K (G frC (csC ++ c :: rest)) w := by
  have kept : ∀ {ρ ρ' : Ren} {nn nn' : Nat} {w w' : World}, (∀ y, B ≤ y → y < nn → N ≤ ρ y) → Gu B ρ nn w ρ' nn' w' → Kept N W w → Kept N W w' := fun hown gu hw =>
    ⟨fun b hb => (gu.same b (Nat.lt_of_lt_of_le hb hw.size) fun y h1 h2 e => by have := hown y h1 h2; omega).trans (hw.old b hb), Nat.le_trans hw.size gu.size, gu.os.trans hw.os, gu.out.trans hw.out⟩
  have own' : ∀ {ρ ρ' : Ren} {nn nn' : Nat} {w w' : World}, (∀ y, B ≤ y → y < nn → N ≤ ρ y) → Ex ρ nn ρ' nn' → Gu B ρ nn w ρ' nn' w' → N ≤ w.heap.size → ∀ y, B ≤ y → y < nn' → N ≤ ρ' y := fun {ρ ρ' nn nn' w w'} hown ex gu hs y h1 h2 => by
    rcases Nat.lt_or_ge y nn with hlt | hge
    · rw [ex.eq y hlt]; exact hown y h1 hlt
    · exact Nat.le_trans hs (gu.fresh y hge h2)
  induction h with
  | leave fr w0 fn v hm hfn hr hq =>
    intro ρ nn frC csC w hf hc hw hown hkp
    cases hc with
    | nil =>
      refine Go0.mk_step rfl fun d => ?_
      obtain ⟨ρ', nn', v', w', ex, r1, hv, hw', gu, _, hes⟩ := rel_results (P := P) (B := B) fn hf.tmps (Tw.wt w0 w.tape d) (w.at d) (WR.wtL (WR.atC hw d) _ _) v _ (hr w.tape d) (fun i _ q => rfl)
      subst hq
      have := hR _ _ _ hv
      subst this
      have hg : (gsem P frC ([] ++ c :: rest)).run P (w.at d) = .ok (c.finish v', rest) w' := by
        unfold gsem
        simp only [hf.mode, hm, List.nil_append, hf.fn, hfn]
        rw [Sem.run_bind, r1]
        rfl
      have hst := gsem_step (main := true) hf.pl' hg
      have hge : (gsem P frC ([] ++ c :: rest)).events P (w.at d) #[] = (results fn frC.tmps).events P (w.at d) #[] := by
        unfold gsem
        simp only [hf.mode, hm, List.nil_append, hf.fn, hfn]
        rw [Sem.events_bind, r1, Result.evThen_ok, Sem.events_acc, pure_events]
        simp
      rw [hge] at hst
      exact ⟨_, w', _, hst, gu.size, fun e he => okG_of hsh hcb hw' (own' hown ex gu hkp.size) (hes e (mem_seen he)), hk w' (kept hown gu (hkp.at d))⟩
  | step fr cs w0 nx ha hs _ ih =>
    intro ρ nn frC csC w hf hc hw hown hkp
    refine Go0.mk_step rfl fun d => ?_
    have hr := hs w.tape d
    obtain ⟨ρ', nn', b, w', ex, r1, ⟨hf', xs, ys, h1, h2, hc'⟩, hw', gu, _, hes⟩ := rel_gsem (B := B) E hf hc [bot] (c :: rest) ha (Tw.wt w0 w.tape d) (w.at d) (WR.wtL (WR.atC hw d) _ _) _ _ hr (fun i _ q => rfl)
    simp only at hf' h1
    have hxs : (nx w.tape d).2.1 = xs := by simpa using h1
    subst hxs
    obtain ⟨b1, b2⟩ := b
    simp only at h2 hf'
    subst h2
    have hst := gsem_step (main := true) hf.pl' r1
    exact ⟨_, w', _, hst, gu.size, fun e he => okG_of hsh hcb hw' (own' hown ex gu hkp.size) (hes e (mem_seen he)), ih _ _ hf' hc' hw' (own' hown ex gu hkp.size) (kept hown gu (hkp.at d))⟩
end
end Go.Po
/- The lone runs of what is called: the spans of nets, the boxes of things, the equality of rows. -/
namespace Go.Po
open Go Go.Conc Go.Tw Go.Proofs Go.Sx
open Go.Proofs.Ytblgmhmjafgdgaa (E SpanIs BinIs Edges encE Spans1_k Bins1_k Equal64_k EqualI_k)

/-- What a slice that came in is: its block is a row. -/
structure SlcIn (W : World) (p : Option Addr) (l c : Nat) : Prop where
  le : l ≤ c
  max : (l : Int) ≤ 9223372036854775807
  blk : c ≠ 0 → ∃ a cs e f, p = some a ∧ W.heap[a.block]? = some (.cells cs e f)
theorem SlcIn.lt {W : World} {p : Option Addr} {l c : Nat} (h : SlcIn W p l c) (hc : c ≠ 0) : ∃ a, p = some a ∧ a.block < W.heap.size := by
  obtain ⟨a, cs, e, f, h1, h2⟩ := h.blk hc
  exact ⟨a, h1, (Array.getElem?_eq_some_iff.1 h2).1⟩
theorem SlcIn.kept {W W' : World} {N : Nat} {p : Option Addr} {l c : Nat} (h : SlcIn W p l c) (hk : Kept N W W') (hN : N = W.heap.size) : SlcIn W' p l c :=
  ⟨h.le, h.max, fun hc => let ⟨a, cs, e, f, h1, h2⟩ := h.blk hc; ⟨a, cs, e, f, h1, (hk.old _ (by rw [hN]; exact (Array.getElem?_eq_some_iff.1 h2).1)).trans h2⟩⟩
theorem cell?_kept {W W' : World} {N : Nat} (hk : Kept N W W') (hN : N = W.heap.size) {a : Addr} {v : Value} (h : W.cell? a = some v) : W'.cell? a = some v := by
  unfold World.cell? at h ⊢
  split at h
  · rename_i c e f hc
    rw [hk.old _ (by rw [hN]; exact (Array.getElem?_eq_some_iff.1 hc).1), hc]
    exact h
  · cases h
theorem cell_kept {W W' : World} {N : Nat} (hk : Kept N W W') (hN : N = W.heap.size) {p : Option Addr} {i : Nat} {v : Value} (h : cell W p i = some v) : cell W' p i = some v := by
  cases p with
  | none => cases h
  | some a => exact cell?_kept hk hN h
theorem cell?_lt {W : World} {a : Addr} {v : Value} (h : W.cell? a = some v) : a.block < W.heap.size := by
  unfold World.cell? at h
  split at h
  · rename_i c e f hc
    exact (Array.getElem?_eq_some_iff.1 hc).1
  · cases h
/-- A slice without room points nowhere, in the lone world. -/
def nzp (p : Option Addr) (c : Nat) : Option Addr := if c = 0 then none else p
section
variable [FnSet]
theorem cell_lone {W : World} {p : Option Addr} {i : Nat} {k : IntKind} {x : Int} (h : cell W p i = some (.int k x)) : cell (loneW W W.heap.size) p i = some (.int k x) := by
  cases p with
  | none => cases h
  | some a => exact loneW_cell W h (cell?_lt h)
theorem ints_lone {W : World} {p : Option Addr} {c : Nat} {k : IntKind} {xs : List Int} (h : Ints k W p xs) (hc : xs.length ≤ c) : Ints k (loneW W W.heap.size) (nzp p c) xs := by
  intro i v hv
  have hlt := (List.getElem?_eq_some_iff.1 hv).1
  simp only [List.length_map] at hlt
  have h1 := h i v hv
  rw [nzp, if_neg (by omega)]
  simp only [List.getElem?_map] at hv
  obtain ⟨x, _, rfl⟩ := Option.map_eq_some_iff.1 hv
  exact cell_lone h1
theorem edges_lone {W : World} {p : Option Addr} {c : Nat} {L : List E} (h : Edges W p L) (hc : L.length ≤ c) : Edges (loneW W W.heap.size) (nzp p c) L := by
  intro i x hx j u hu
  have hlt := (List.getElem?_eq_some_iff.1 hx).1
  have h1 := h i x hx j u hu
  rw [nzp, if_neg (by omega)]
  have hj : j < 2 := by
    have := (List.getElem?_eq_some_iff.1 hu).1
    simpa [encE] using this
  rcases (by omega : j = 0 ∨ j = 1) with rfl | rfl
  · cases hu; exact cell_lone h1
  · cases hu; exact cell_lone h1
end
section
variable {W : World} {ShB : Nat → Prop} {base : Nat}
/-- A slice in the lone world, and in company. -/
theorem vr_slc {p : Option Addr} {l c : Nat} (h : SlcIn W p l c) (hs : ∀ a, p = some a → c ≠ 0 → ¬ ShB a.block) : @VR (fset (cbOf W ShB)) idr W.heap.size (.slice (nzp p c) l c) (.slice p l c) := by
  letI := fset (cbOf W ShB)
  by_cases hc : c = 0
  · subst hc
    obtain rfl : l = 0 := by have := h.le; omega
    exact .sz p
  · obtain ⟨a, cs, e, f, rfl, h2⟩ := h.blk hc
    rw [nzp, if_neg hc]
    exact .sl a l c ⟨(Array.getElem?_eq_some_iff.1 h2).1, .inr ⟨hs a rfl hc, cs, e, f, h2⟩⟩
theorem vr_slc2 {p : Option Addr} {l c : Nat} (h : SlcIn W p l c) (hs : ∀ a, p = some a → c ≠ 0 → ¬ ShB a.block) : @VR (fset (cbOf W ShB)) idr W.heap.size (.slice (nzp p c) l c) (.slice (nzp p c) l c) := by
  letI := fset (cbOf W ShB)
  by_cases hc : c = 0
  · subst hc
    exact .snil l 0
  · obtain ⟨a, cs, e, f, rfl, h2⟩ := h.blk hc
    rw [nzp, if_neg hc]
    exact .sl a l c ⟨(Array.getElem?_eq_some_iff.1 h2).1, .inr ⟨hs a rfl hc, cs, e, f, h2⟩⟩
/-- A contract, in the lone world, as a tree of steps, beside the frame in company. -/
theorem lone_call {f : Nat} {argsL args : Array Value} {R : Value} (hf : okB f = true) (ha : @AR (fset (cbOf W ShB)) idr W.heap.size argsL args) (ha2 : @AR (fset (cbOf W ShB)) idr W.heap.size argsL argsL)
    (hc : ∀ w : World, w.heap = (@loneW (fset (cbOf W ShB)) W W.heap.size).heap → FnP Try.prog f argsL w fun v _ => v = R) :
    @FR (fset (cbOf W ShB)) Try.prog okB idr W.heap.size (Frame.enter Try.prog f argsL .normal) (Frame.enter Try.prog f args .normal) ∧
    LT Try.prog (fun v _ => v = R) (Frame.enter Try.prog f argsL .normal) [] (@loneW (fset (cbOf W ShB)) W W.heap.size) := by
  letI := fset (cbOf W ShB)
  refine ⟨fr_enter (envC _) hf ha, LT.mono (fun v w ⟨_, _, h⟩ => h) (lt_of_calls (envC _) (K := fun v _ => v = R) hf ha2 (lone_WRs W ShB) (loneW_even W _) fun T d => ?_)⟩
  exact (hc (Tw.wt (loneW W W.heap.size) T d) rfl).2
theorem cells_heap {w w' : World} (h : w'.heap = w.heap) {p : Option Addr} {vs : List Value} (hc : Sx.Cells w p vs) : Sx.Cells w' p vs := fun i v hv => by
  have := hc i v hv
  unfold cell at this ⊢
  cases p with
  | none => cases this
  | some a => simp only [Option.bind_some, World.cell?, h] at this ⊢; exact this
theorem recs_heap {α : Type} {s : Nat} {enc : α → List Value} {w w' : World} (h : w'.heap = w.heap) {p : Option Addr} {xs : List α} (hc : Sx.Recs s enc w p xs) : Sx.Recs s enc w' p xs := fun i x hx j u hu => by
  have := hc i x hx j u hu
  unfold cell at this ⊢
  cases p with
  | none => cases this
  | some a => simp only [Option.bind_some, World.cell?, h] at this ⊢; exact this
/-- A net, as it was told. -/
structure NetD where
  n : Int
  p : Option Addr
  c : Nat
  L : List E
  q : Option Addr
  d : Nat
  D : List Int
def NetD.val (x : NetD) : Value := .agg #[.int .i64 x.n, .slice x.p x.L.length x.c, .slice x.q x.D.length x.d]
structure NetD.Ok (x : NetD) (W : World) : Prop where
  sp : SlcIn W x.p x.L.length x.c
  sq : SlcIn W x.q x.D.length x.d
  ed : Edges W x.p x.L
  ds : Ints .i64 W x.q x.D
open Classical in
/-- What its span is. -/
noncomputable def NetD.span (x : NetD) : Int := if h : ∃ r, SpanIs x.n x.L x.D r then h.choose else 0
theorem NetD.span_eq {x : NetD} {r : Int} (h : SpanIs x.n x.L x.D r) : x.span = r := by
  have hx : ∃ r, SpanIs x.n x.L x.D r := ⟨r, h⟩
  unfold NetD.span
  rw [dif_pos hx]
  exact hx.choose_spec.same h
/-- What the function of side.Spans does, alone. -/
theorem net_lone {x : NetD} (hx : x.Ok W) (hs : ∀ a, (x.p = some a → x.c ≠ 0 → ¬ ShB a.block) ∧ (x.q = some a → x.d ≠ 0 → ¬ ShB a.block)) :
    ∃ frL, @FR (fset (cbOf W ShB)) Try.prog okB idr W.heap.size frL (Frame.enter Try.prog 10 #[x.val] .normal) ∧
      LT Try.prog (fun v _ => v = .int .i64 x.span) frL [] (@loneW (fset (cbOf W ShB)) W W.heap.size) := by
  letI := fset (cbOf W ShB)
  obtain ⟨hp, hq, he, hd⟩ := hx
  refine ⟨_, lone_call (argsL := #[.agg #[.int .i64 x.n, .slice (nzp x.p x.c) x.L.length x.c, .slice (nzp x.q x.d) x.D.length x.d]]) rfl (.one (AR.agg ?_)) (.one (AR.agg ?_)) fun w hw => ?_⟩
  · exact ((AR.one (.int _ _)).push (vr_slc hp fun a => (hs a).1)).push (vr_slc hq fun a => (hs a).2)
  · exact ((AR.one (.int _ _)).push (vr_slc2 hp fun a => (hs a).1)).push (vr_slc2 hq fun a => (hs a).2)
  · refine (Spans1_k x.n (nzp x.p x.c) x.c x.L hp.max (nzp x.q x.d) x.d x.D hq.max w (recs_heap hw (edges_lone he hp.le)) (cells_heap hw (ints_lone hd hq.le))).mono fun v w' ⟨r, hv, hr⟩ => ?_
    rw [hv, NetD.span_eq hr]
/-- A row of things, as it was told. -/
structure ThD where
  p : Option Addr
  c : Nat
  L : List Int
def ThD.val (x : ThD) : Value := .slice x.p x.L.length x.c
structure ThD.Ok (x : ThD) (W : World) : Prop where
  sp : SlcIn W x.p x.L.length x.c
  ds : Ints .i64 W x.p x.L
open Classical in
noncomputable def ThD.bins (s : Int) (x : ThD) : Int := if h : ∃ r, BinIs s x.L r then h.choose else 0
theorem ThD.bins_eq {s : Int} {x : ThD} {r : Int} (h : BinIs s x.L r) : x.bins s = r := by
  have hx : ∃ r, BinIs s x.L r := ⟨r, h⟩
  unfold ThD.bins
  rw [dif_pos hx]
  exact hx.choose_spec.same h
/-- What the function of side.Bins does, alone. -/
theorem bin_lone {x : ThD} {s : Int} {bx : Nat} {ty : TypeId} (hx : x.Ok W) (hs : ∀ a, x.p = some a → x.c ≠ 0 → ¬ ShB a.block) (hb : W.heap[bx]? = some (.cells #[.int .i64 s] ty)) (hbs : ¬ ShB bx) :
    ∃ frL, @FR (fset (cbOf W ShB)) Try.prog okB idr W.heap.size frL (Frame.enter Try.prog 13 #[x.val, .pointer (some ⟨bx, 0, none⟩)] .normal) ∧
      LT Try.prog (fun v _ => v = .int .i64 (x.bins s)) frL [] (@loneW (fset (cbOf W ShB)) W W.heap.size) := by
  letI := fset (cbOf W ShB)
  obtain ⟨hp, hd⟩ := hx
  have hbl : bx < W.heap.size := (Array.getElem?_eq_some_iff.1 hb).1
  have hin : In W.heap.size bx := ⟨hbl, .inr ⟨hbs, _, _, _, hb⟩⟩
  refine ⟨_, lone_call (argsL := #[.slice (nzp x.p x.c) x.L.length x.c, .pointer (some ⟨bx, 0, none⟩)]) rfl ?_ ?_ fun w hw => ?_⟩
  · exact (AR.one (vr_slc hp hs)).push (.ptr ⟨bx, 0, none⟩ hin)
  · exact (AR.one (vr_slc2 hp hs)).push (.ptr ⟨bx, 0, none⟩ hin)
  · have hc : cell (loneW W W.heap.size) (some ⟨bx, 0, none⟩) 0 = some (.int .i64 s) := cell_lone (by simp [cell, World.cell?, hb, Addr.add])
    have hc' : cell w (some ⟨bx, 0, none⟩) 0 = some (.int .i64 s) := by
      simp only [cell, Option.bind_some, World.cell?, hw] at hc ⊢
      exact hc
    refine (Bins1_k s (nzp x.p x.c) x.c x.L hp.max (some ⟨bx, 0, none⟩) w (cells_heap hw (ints_lone hd hp.le)) hc').mono fun v w' ⟨r, hv, hr⟩ => ?_
    rw [hv, ThD.bins_eq hr]
/-- Where results lie: nowhere, or in a row of their own. -/
def ResAt (W : World) (v : Value) (X : List Int) : Prop :=
  (v = .slice none 0 0 ∧ X = []) ∨ ∃ b ty, v = .slice (some ⟨b, 0, none⟩) X.length X.length ∧ W.heap[b]? = some (.cells (X.map (.int .i64)).toArray ty)
theorem ResAt.kept {W W' : World} {N : Nat} {v : Value} {X : List Int} (h : ResAt W v X) (hk : Kept N W W') (hN : N = W.heap.size) : ResAt W' v X := by
  rcases h with h | ⟨b, ty, h1, h2⟩
  · exact .inl h
  · exact .inr ⟨b, ty, h1, (hk.old _ (by rw [hN]; exact (Array.getElem?_eq_some_iff.1 h2).1)).trans h2⟩
theorem ResAt.slc {v : Value} {X : List Int} (h : ResAt W v X) : ∃ p, v = .slice p X.length X.length ∧ Ints .i64 W p X ∧ ∀ a, p = some a → a.block < W.heap.size ∧ ∃ cs e f, W.heap[a.block]? = some (.cells cs e f) := by
  rcases h with ⟨rfl, rfl⟩ | ⟨b, ty, rfl, h2⟩
  · exact ⟨none, rfl, fun i v hv => by simp at hv, fun a ha => by cases ha⟩
  · refine ⟨_, rfl, fun i v hv => ?_, fun a ha => by cases ha; exact ⟨(Array.getElem?_eq_some_iff.1 h2).1, _, _, _, h2⟩⟩
    simp only [cell, Option.bind_some, World.cell?, add_none, Nat.zero_add, h2]
    simpa using hv
theorem equal_lone {f : Nat} {v v' : Value} {X : List Int} (hf : f = 7 ∨ f = 8) (h : ResAt W v X) (h' : ResAt W v' X) (hl : X.length ≤ 60) (hs : ∀ b, (∃ o l c, v = .slice (some ⟨b, o, none⟩) l c) ∨ (∃ o l c, v' = .slice (some ⟨b, o, none⟩) l c) → ¬ ShB b) :
    ∃ frL, @FR (fset (cbOf W ShB)) Try.prog okB idr W.heap.size frL (Frame.enter Try.prog f #[v, v'] .normal) ∧
      LT Try.prog (fun v _ => v = .bool true) frL [] (@loneW (fset (cbOf W ShB)) W W.heap.size) := by
  letI := fset (cbOf W ShB)
  have vr : ∀ u, ResAt W u X → (∀ b, (∃ o l c, u = .slice (some ⟨b, o, none⟩) l c) → ¬ ShB b) → VR idr W.heap.size u u := by
    intro u hu hb
    rcases hu with ⟨rfl, rfl⟩ | ⟨b, ty, rfl, h2⟩
    · exact .snil 0 0
    · exact .sl ⟨b, 0, none⟩ _ _ ⟨(Array.getElem?_eq_some_iff.1 h2).1, .inr ⟨hb b ⟨_, _, _, rfl⟩, _, _, _, h2⟩⟩
  have ha : AR idr W.heap.size #[v, v'] #[v, v'] := .two (vr v h fun b hb => hs b (.inl hb)) (vr v' h' fun b hb => hs b (.inr hb))
  have lone : ∀ u, ResAt W u X → ∃ p, u = .slice p X.length X.length ∧ Ints .i64 (loneW W W.heap.size) p X := by
    intro u hu
    obtain ⟨p, h1, h2, _⟩ := hu.slc
    refine ⟨p, h1, fun i v hv => ?_⟩
    have := h2 i v hv
    simp only [List.getElem?_map] at hv
    obtain ⟨x, _, rfl⟩ := Option.map_eq_some_iff.1 hv
    exact cell_lone this
  obtain ⟨p, rfl, hp⟩ := lone v h
  obtain ⟨q, rfl, hq⟩ := lone v' h'
  refine ⟨_, lone_call (by rcases hf with rfl | rfl <;> rfl) ha ha fun w hw => ?_⟩
  rcases hf with rfl | rfl
  · exact Equal64_k p q X.length X.length X (by omega) w (cells_heap hw hp) (cells_heap hw hq)
  · exact EqualI_k p q X.length X.length X (by omega) w (cells_heap hw hp) (cells_heap hw hq)
end
end Go.Po
/- Goroutine 0's own states: side.Spans, side.Bins, sides, SideSame, by reckoning. -/
namespace Go.Po
open Go Go.Conc Go.Tw Go.Proofs
/-- The frame that waits. -/
def wfr (x : FrS) : Frame := x.2.headD default
namespace F5
noncomputable def x0 (a n : Value) (cs : List Frame) : FrS := (Frame.enter Try.prog 5 #[a, n] .normal, cs)
noncomputable def c5 (a n : Value) : Frame := wfr (nx Try.prog 10 (x0 a n []))
theorem call (a n : Value) (cs : List Frame) : okx Try.prog 10 (x0 a n cs) = true ∧ nx Try.prog 10 (x0 a n cs) = (Frame.enter Try.prog 9 #[a, n, .func (.func 10) #[] #[]] .normal, c5 a n :: cs) := ⟨by kernel_rfl, by kernel_rfl⟩
theorem back (a n v e : Value) (c : Frame) (cs : List Frame) : okx Try.prog 7 ((c5 a n).finish (.tuple #[v, e]), c :: cs) = true ∧ nx Try.prog 7 ((c5 a n).finish (.tuple #[v, e]), c :: cs) = (c.finish (.tuple #[v, e]), cs) := ⟨by kernel_rfl, by kernel_rfl⟩
end F5
namespace F6
noncomputable def x0 (a s n : Value) (cs : List Frame) : FrS := (Frame.enter Try.prog 6 #[a, s, n] .normal, cs)
noncomputable def x1 (a s n : Value) (cs : List Frame) : FrS := nx Try.prog 2 (x0 a s n cs)
theorem x0_ok (a s n : Value) (cs : List Frame) : okx Try.prog 2 (x0 a s n cs) = true := by kernel_rfl
theorem x1_ask (a s n : Value) (cs : List Frame) : asked (x1 a s n cs) = some (bxS 2 s) := by kernel_rfl
noncomputable def c6 (a s n p : Value) : Frame := wfr (nx Try.prog 9 (put (x1 a s n []) p))
theorem call (a s n p : Value) (cs : List Frame) : okx Try.prog 9 (put (x1 a s n cs) p) = true ∧ nx Try.prog 9 (put (x1 a s n cs) p) = (Frame.enter Try.prog 12 #[a, n, .func (.func 13) #[] #[p]] .normal, c6 a s n p :: cs) := ⟨by kernel_rfl, by kernel_rfl⟩
theorem back (a s n p v e : Value) (c : Frame) (cs : List Frame) : okx Try.prog 7 ((c6 a s n p).finish (.tuple #[v, e]), c :: cs) = true ∧ nx Try.prog 7 ((c6 a s n p).finish (.tuple #[v, e]), c :: cs) = (c.finish (.tuple #[v, e]), cs) := ⟨by kernel_rfl, by kernel_rfl⟩
end F6
namespace F4
noncomputable def x0 (cs : List Frame) : FrS := (Frame.enter Try.prog 4 #[] .normal, cs)
noncomputable def x1 (cs : List Frame) : FrS := nx Try.prog 6 (x0 cs)
abbrev bsS (t : TypeId) (n : Nat) (ps : Array (Nat × Value)) : Sem Next := do pure (.value (← Instr.buildSlice t n ps))
theorem x0_ok (cs : List Frame) : okx Try.prog 6 (x0 cs) = true := by kernel_rfl
theorem x1_ask (cs : List Frame) : asked (x1 cs) = some (bsS 25 1 #[(0, .int .i64 4)]) := by kernel_rfl
abbrev sl1 (b : Nat) : Value := .slice (some ⟨b, 0, none⟩) 1 1
noncomputable def x2 (p : Nat) (cs : List Frame) : FrS := nx Try.prog 1 (put (x1 cs) (sl1 p))
theorem x1_ok (p : Nat) (cs : List Frame) : okx Try.prog 1 (put (x1 cs) (sl1 p)) = true := by kernel_rfl
theorem x2_ask (p : Nat) (cs : List Frame) : asked (x2 p cs) = some (bsS 22 1 #[(0, .agg #[.int .i64 1, .slice none 0 0, sl1 p])]) := by kernel_rfl
noncomputable def c4 (p q : Nat) : Frame := wfr (nx Try.prog 1 (put (x2 p []) (sl1 q)))
theorem call (p q : Nat) (cs : List Frame) : okx Try.prog 1 (put (x2 p cs) (sl1 q)) = true ∧ nx Try.prog 1 (put (x2 p cs) (sl1 q)) = (Frame.enter Try.prog 5 #[sl1 q, .int .i64 1] .normal, c4 p q :: cs) := ⟨by kernel_rfl, by kernel_rfl⟩
noncomputable def x3 (p q b : Nat) (cs : List Frame) : FrS := nx Try.prog 18 ((c4 p q).finish (.tuple #[sl1 b, .int .i64 0]), cs)
theorem x3_ok (p q b : Nat) (cs : List Frame) : okx Try.prog 18 ((c4 p q).finish (.tuple #[sl1 b, .int .i64 0]), cs) = true := by kernel_rfl
theorem x3_ask (p q b : Nat) (cs : List Frame) : asked (x3 p q b cs) = some (ldS 2 ⟨b, 0, none⟩) := by kernel_rfl
theorem back (p q b : Nat) (c : Frame) (cs : List Frame) : okx Try.prog 6 (put (x3 p q b (c :: cs)) (.int .i64 4)) = true ∧ nx Try.prog 6 (put (x3 p q b (c :: cs)) (.int .i64 4)) = (c.finish (.bool true), cs) := ⟨by kernel_rfl, by kernel_rfl⟩
end F4
namespace F3
section
variable (l m s a b : Value)
noncomputable def x0 : FrS := (Frame.enter Try.prog 3 #[l, m, s, a, b] .normal, [])
noncomputable def c1 : Frame := wfr (nx Try.prog 8 (x0 l m s a b))
theorem call1 : okx Try.prog 8 (x0 l m s a b) = true ∧ nx Try.prog 8 (x0 l m s a b) = (Frame.enter Try.prog 4 #[] .normal, [c1 l m s a b]) := ⟨by kernel_rfl, by kernel_rfl⟩
noncomputable def y1 : FrS := ((c1 l m s a b).finish (.bool true), [])
noncomputable def c2 : Frame := wfr (nx Try.prog 9 (y1 l m s a b))
theorem call2 : okx Try.prog 9 (y1 l m s a b) = true ∧ nx Try.prog 9 (y1 l m s a b) = (Frame.enter Try.prog 5 #[l, a] .normal, [c2 l m s a b]) := ⟨by kernel_rfl, by kernel_rfl⟩
variable (p e : Value)
noncomputable def y2 : FrS := ((c2 l m s a b).finish (.tuple #[p, e]), [])
noncomputable def c3 : Frame := wfr (nx Try.prog 11 (y2 l m s a b p e))
theorem call3 : okx Try.prog 11 (y2 l m s a b p e) = true ∧ nx Try.prog 11 (y2 l m s a b p e) = (Frame.enter Try.prog 5 #[l, b] .normal, [c3 l m s a b p e]) := ⟨by kernel_rfl, by kernel_rfl⟩
variable (q f : Value)
noncomputable def y3 : FrS := ((c3 l m s a b p e).finish (.tuple #[q, f]), [])
noncomputable def c4 : Frame := wfr (nx Try.prog 12 (y3 l m s a b p e q f))
theorem call4 : okx Try.prog 12 (y3 l m s a b p e q f) = true ∧ nx Try.prog 12 (y3 l m s a b p e q f) = (Frame.enter Try.prog 6 #[m, s, a] .normal, [c4 l m s a b p e q f]) := ⟨by kernel_rfl, by kernel_rfl⟩
variable (r g : Value)
noncomputable def y4 : FrS := ((c4 l m s a b p e q f).finish (.tuple #[r, g]), [])
noncomputable def c5 : Frame := wfr (nx Try.prog 12 (y4 l m s a b p e q f r g))
theorem call5 : okx Try.prog 12 (y4 l m s a b p e q f r g) = true ∧ nx Try.prog 12 (y4 l m s a b p e q f r g) = (Frame.enter Try.prog 6 #[m, s, b] .normal, [c5 l m s a b p e q f r g]) := ⟨by kernel_rfl, by kernel_rfl⟩
variable (u h : Value)
noncomputable def y5 : FrS := ((c5 l m s a b p e q f r g).finish (.tuple #[u, h]), [])
end
section
variable (l m s : Value) (na nb : Int) (p e q f r g u h : Value)
noncomputable def z0 : FrS := nx Try.prog 10 (y5 l m s (.int .i64 na) (.int .i64 nb) p e q f r g u h)
theorem y5_ok : okx Try.prog 10 (y5 l m s (.int .i64 na) (.int .i64 nb) p e q f r g u h) = true := by kernel_rfl
theorem z0_ask : asked (z0 l m s na nb p e q f r g u h) = some (pure (.value (.bool (decide (na < 1))))) := by kernel_rfl
end
end F3
end Go.Po
/- SideSame's own end, by reckoning: the four comparisons; the two equalities; the return. -/
namespace Go.Po
open Go Go.Conc Go.Tw Go.Proofs
namespace F3
section
variable (l m s : Value) (na nb : Int) (p e q f r g u h : Value)
noncomputable def z1 : FrS := nx Try.prog 2 (put (z0 l m s na nb p e q f r g u h) (.bool false))
theorem z1_ok : okx Try.prog 2 (put (z0 l m s na nb p e q f r g u h) (.bool false)) = true := by kernel_rfl
theorem z1_ask : asked (z1 l m s na nb p e q f r g u h) = some (pure (.value (.bool (decide (na > 16))))) := by kernel_rfl
noncomputable def z2 : FrS := nx Try.prog 3 (put (z1 l m s na nb p e q f r g u h) (.bool false))
theorem z2_ok : okx Try.prog 3 (put (z1 l m s na nb p e q f r g u h) (.bool false)) = true := by kernel_rfl
theorem z2_ask : asked (z2 l m s na nb p e q f r g u h) = some (pure (.value (.bool (decide (nb < 1))))) := by kernel_rfl
noncomputable def z3 : FrS := nx Try.prog 3 (put (z2 l m s na nb p e q f r g u h) (.bool false))
theorem z3_ok : okx Try.prog 3 (put (z2 l m s na nb p e q f r g u h) (.bool false)) = true := by kernel_rfl
theorem z3_ask : asked (z3 l m s na nb p e q f r g u h) = some (pure (.value (.bool (decide (nb > 16))))) := by kernel_rfl
/-- The call's end. -/
def Ends (x : FrS) : Prop := x.2 = [] ∧ ∀ w, stepG Try.prog true (Gx x) w = .ended (.done (.bool true)) w #[]
noncomputable def e0 : FrS := nx Try.prog 19 (put (z0 l m s na nb p e q f r g u h) (.bool true))
theorem e0_ok : okx Try.prog 19 (put (z0 l m s na nb p e q f r g u h) (.bool true)) = true := by kernel_rfl
theorem e0_end (w : World) : stepG Try.prog true (Gx (e0 l m s na nb p e q f r g u h)) w = .ended (.done (.bool true)) w #[] := by kernel_rfl
noncomputable def e1 : FrS := nx Try.prog 16 (put (z1 l m s na nb p e q f r g u h) (.bool true))
theorem e1_ok : okx Try.prog 16 (put (z1 l m s na nb p e q f r g u h) (.bool true)) = true := by kernel_rfl
theorem e1_end (w : World) : stepG Try.prog true (Gx (e1 l m s na nb p e q f r g u h)) w = .ended (.done (.bool true)) w #[] := by kernel_rfl
noncomputable def e2 : FrS := nx Try.prog 12 (put (z2 l m s na nb p e q f r g u h) (.bool true))
theorem e2_ok : okx Try.prog 12 (put (z2 l m s na nb p e q f r g u h) (.bool true)) = true := by kernel_rfl
theorem e2_end (w : World) : stepG Try.prog true (Gx (e2 l m s na nb p e q f r g u h)) w = .ended (.done (.bool true)) w #[] := by kernel_rfl
noncomputable def e3 : FrS := nx Try.prog 8 (put (z3 l m s na nb p e q f r g u h) (.bool true))
theorem e3_ok : okx Try.prog 8 (put (z3 l m s na nb p e q f r g u h) (.bool true)) = true := by kernel_rfl
theorem e3_end (w : World) : stepG Try.prog true (Gx (e3 l m s na nb p e q f r g u h)) w = .ended (.done (.bool true)) w #[] := by kernel_rfl
end
section
variable (l m s : Value) (na nb : Int) (p q r u : Value)
/-- Both had no room, or had it. -/
noncomputable abbrev zz (k j : Int) : FrS := put (z3 l m s na nb p (.int .i64 k) q (.int .i64 k) r (.int .i64 j) u (.int .i64 j)) (.bool false)
noncomputable def c6 (k j : Int) : Frame := wfr (nx Try.prog 18 (zz l m s na nb p q r u k j))
theorem call00 : okx Try.prog 18 (zz l m s na nb p q r u 0 0) = true ∧ nx Try.prog 18 (zz l m s na nb p q r u 0 0) = (Frame.enter Try.prog 7 #[p, q] .normal, [c6 l m s na nb p q r u 0 0]) := ⟨by kernel_rfl, by kernel_rfl⟩
theorem call02 : okx Try.prog 18 (zz l m s na nb p q r u 0 2) = true ∧ nx Try.prog 18 (zz l m s na nb p q r u 0 2) = (Frame.enter Try.prog 7 #[p, q] .normal, [c6 l m s na nb p q r u 0 2]) := ⟨by kernel_rfl, by kernel_rfl⟩
theorem call20 : okx Try.prog 18 (zz l m s na nb p q r u 2 0) = true ∧ nx Try.prog 18 (zz l m s na nb p q r u 2 0) = (Frame.enter Try.prog 7 #[p, q] .normal, [c6 l m s na nb p q r u 2 0]) := ⟨by kernel_rfl, by kernel_rfl⟩
theorem call22 : okx Try.prog 18 (zz l m s na nb p q r u 2 2) = true ∧ nx Try.prog 18 (zz l m s na nb p q r u 2 2) = (Frame.enter Try.prog 7 #[p, q] .normal, [c6 l m s na nb p q r u 2 2]) := ⟨by kernel_rfl, by kernel_rfl⟩
noncomputable def c7 (k j : Int) : Frame := wfr (nx Try.prog 5 ((c6 l m s na nb p q r u k j).finish (.bool true), []))
noncomputable def fin (k j : Int) : FrS := nx Try.prog 4 ((c7 l m s na nb p q r u k j).finish (.bool true), [])
section
variable (k j : Int)
theorem call7 (h : (k = 0 ∨ k = 2) ∧ (j = 0 ∨ j = 2)) : okx Try.prog 18 (zz l m s na nb p q r u k j) = true ∧ nx Try.prog 18 (zz l m s na nb p q r u k j) = (Frame.enter Try.prog 7 #[p, q] .normal, [c6 l m s na nb p q r u k j]) := by
  obtain ⟨rfl | rfl, rfl | rfl⟩ := h
  · exact call00 l m s na nb p q r u
  · exact call02 l m s na nb p q r u
  · exact call20 l m s na nb p q r u
  · exact call22 l m s na nb p q r u
theorem call8 (h : (k = 0 ∨ k = 2) ∧ (j = 0 ∨ j = 2)) : okx Try.prog 5 ((c6 l m s na nb p q r u k j).finish (.bool true), []) = true ∧ nx Try.prog 5 ((c6 l m s na nb p q r u k j).finish (.bool true), []) = (Frame.enter Try.prog 8 #[r, u] .normal, [c7 l m s na nb p q r u k j]) := by
  obtain ⟨rfl | rfl, rfl | rfl⟩ := h
  · exact ⟨by kernel_rfl, by kernel_rfl⟩
  · exact ⟨by kernel_rfl, by kernel_rfl⟩
  · exact ⟨by kernel_rfl, by kernel_rfl⟩
  · exact ⟨by kernel_rfl, by kernel_rfl⟩
theorem fin_ok (h : (k = 0 ∨ k = 2) ∧ (j = 0 ∨ j = 2)) : okx Try.prog 4 ((c7 l m s na nb p q r u k j).finish (.bool true), []) = true := by
  obtain ⟨rfl | rfl, rfl | rfl⟩ := h
  · kernel_rfl
  · kernel_rfl
  · kernel_rfl
  · kernel_rfl
theorem fin_end (h : (k = 0 ∨ k = 2) ∧ (j = 0 ∨ j = 2)) (w : World) : stepG Try.prog true (Gx (fin l m s na nb p q r u k j)) w = .ended (.done (.bool true)) w #[] := by
  obtain ⟨rfl | rfl, rfl | rfl⟩ := h
  · kernel_rfl
  · kernel_rfl
  · kernel_rfl
  · kernel_rfl
end
end
end F3
end Go.Po
