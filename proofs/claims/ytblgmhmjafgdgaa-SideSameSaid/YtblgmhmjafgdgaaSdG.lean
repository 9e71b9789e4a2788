/- SideSame, beside leavers, from its entry to its return; its arguments opened. -/
import Derived.Test.YtblgmhmjafgdgaaSdF
set_option linter.unusedVariables false
set_option linter.unusedSimpArgs false
set_option linter.unusedSectionVars false
/- each's ways out: too few workers, too many; too long a list; goroutine 0 between two calls. -/
namespace Go.Po
open Go Go.Conc Go.Tw Go.Proofs
/-- The same world, but for draws. -/
structure Same (W w : World) : Prop where
  heap : w.heap = W.heap
  os : w.os = W.os
  out : w.output = W.output
theorem Same.kept {W w : World} (h : Same W w) : Kept W.heap.size W w := ⟨fun b _ => by rw [h.heap], by rw [h.heap]; exact Nat.le_refl _, h.os, h.out⟩
section
variable [FnSet] {ShB : Nat → Prop} {m : Machine} {t : Trace} {W : World} {x : FrS}
theorem bes_nx {n : Nat} (hB : Bes Try.prog ShB (Gx x) W m t) (ho : okx Try.prog n x = true) : Lds Try.prog m t fun m' t' => ∃ w', Bes Try.prog ShB (Gx (nx Try.prog n x)) w' m' t' ∧ Same W w' := by
  refine (bes_go0 (Ok := fun _ _ => False) (K := fun g w => g = Gx (nx Try.prog n x) ∧ Same W w) (fun _ _ h => h.elim) hB (go0_nx ho (.stop fun d => ⟨rfl, rfl, rfl, rfl⟩))).trans ?_
  rintro m' t' ⟨g', w', u, sz, ⟨rfl, hs⟩, hB', _, _⟩
  exact ⟨0, m', t', rfl, w', hB', hs⟩
theorem bes_to {n : Nat} {y : FrS} (hB : Bes Try.prog ShB (Gx x) W m t) (h : okx Try.prog n x = true ∧ nx Try.prog n x = y) : Lds Try.prog m t fun m' t' => ∃ w', Bes Try.prog ShB (Gx y) w' m' t' ∧ Same W w' := by
  have := bes_nx hB h.1
  rwa [h.2] at this
theorem bes_put {s : Sem Next} {Ok : World → Event → Prop} {W' : World} (v : Option Value) (hB : Bes Try.prog ShB (Gx x) W m t) (ha : asked x = some s) (hat : ∀ w d e, Ok w e → Ok (w.at d) e) (hOk : ∀ w e, Ok w e → OkG ShB w e) (hT : Turns Try.prog Ok s v W W') :
    Lds Try.prog m t fun m' t' => ∃ w', Bes Try.prog ShB (Gx (put x (valOf v))) w' m' t' ∧ Same W' w' := by
  refine (bes_go0 (Ok := Ok) (K := fun g w => g = Gx (put x (valOf v)) ∧ Same W' w) hOk hB (go0_put ha v hat hT (.stop fun d => ⟨rfl, rfl, rfl, rfl⟩))).trans ?_
  rintro m' t' ⟨g', w', u, sz, ⟨rfl, hs⟩, hB', _, _⟩
  exact ⟨0, m', t', rfl, w', hB', hs⟩
/-- A comparison, or what else looks at no world. -/
theorem bes_pure {v : Value} (hB : Bes Try.prog ShB (Gx x) W m t) (ha : asked x = some (pure (.value v))) : Lds Try.prog m t fun m' t' => ∃ w', Bes Try.prog ShB (Gx (put x v)) w' m' t' ∧ Same W w' :=
  bes_put (Ok := fun _ _ => False) (some v) hB ha (fun _ _ _ h => h.elim) (fun _ _ h => h.elim) ⟨Nat.le_refl _, fun d => ⟨d, rfl, fun e he => by simp at he⟩⟩
end
section
variable {ShB : Nat → Prop} {m : Machine} {t : Trace} {W : World} {x : FrS}
/-- A call of what ends alone. -/
theorem bes_lt {cb : Nat → Prop} {R : Value} {c : Frame} {rest : List Frame} {fr frL : Frame} {xw : World} (hB : Bes Try.prog ShB (Gx (fr, c :: rest)) W m t) (hR : @FnSet.ok (fset cb) = @FnSet.ok (fset cb) → ∀ (ρ : Ren) (n : Nat) v', @VR (fset cb) ρ n R v' → v' = R) (hsh : ∀ b, ShB b → b < W.heap.size)
    (hcb : ∀ b, b < W.heap.size → cb b → ¬ ShB b) (hF : @FR (fset cb) Try.prog okB idr W.heap.size frL fr) (hL : LT Try.prog (fun v _ => v = R) frL [] xw) (hw : @WR (fset cb) W.heap.size idr W.heap.size xw W) :
    Lds Try.prog m t fun m' t' => ∃ w', Bes Try.prog ShB (Gx (c.finish R, rest)) w' m' t' ∧ Kept W.heap.size W w' := by
  letI := fset cb
  have hG : Go0 Try.prog (OkG ShB) (fun g w => g = Gx (c.finish R, rest) ∧ Kept W.heap.size W w) (G fr ([] ++ c :: rest)) W :=
    go0_lt (envC cb) (hR rfl) hsh hcb (Nat.le_refl _) (fun w' hk => .stop fun d => ⟨rfl, hk.at d⟩) hL hF .nil hw (fun y h1 h2 => by omega) (Kept.refl (Nat.le_refl _))
  refine (bes_go0 (Ok := OkG ShB) (fun _ _ h => h) hB hG).trans ?_
  rintro m' t' ⟨g', w', u, sz, ⟨rfl, hs⟩, hB', _, _⟩
  exact ⟨0, m', t', rfl, w', hB', hs⟩
end
namespace E9
section
variable (a fv : Value) (n : Int) (bl : Nat) (q : Value) (cs : List Frame)
noncomputable def bb0 : FrS := nx Try.prog 2 (Frame.enter Try.prog 9 #[a, .int .i64 n, fv] .normal, cs)
theorem bb0_ok : okx Try.prog 2 (Frame.enter Try.prog 9 #[a, .int .i64 n, fv] .normal, cs) = true := by kernel_rfl
theorem bb0_ask : asked (bb0 a fv n cs) = some (bxS 22 a) := by kernel_rfl
noncomputable def bb1 : FrS := put (bb0 a fv n cs) (.pointer (some ⟨bl, 0, none⟩))
theorem bb1_ask : asked (bb1 a fv n bl cs) = some (bxS 43 fv) := by kernel_rfl
noncomputable def bb2 : FrS := nx Try.prog 8 (put (bb1 a fv n bl cs) q)
theorem bb2_ok : okx Try.prog 8 (put (bb1 a fv n bl cs) q) = true := by kernel_rfl
theorem bb2_ask : asked (bb2 a fv n bl q cs) = some (pure (.value (.bool (decide (n < 1))))) := by kernel_rfl
theorem bb2_out (c : Frame) : okx Try.prog 14 (put (bb2 a fv n bl q (c :: cs)) (.bool true)) = true ∧ nx Try.prog 14 (put (bb2 a fv n bl q (c :: cs)) (.bool true)) = (c.finish (.tuple #[.slice none 0 0, .int .i64 1]), cs) := ⟨by kernel_rfl, by kernel_rfl⟩
noncomputable def bb3 : FrS := nx Try.prog 2 (put (bb2 a fv n bl q cs) (.bool false))
theorem bb3_ok : okx Try.prog 2 (put (bb2 a fv n bl q cs) (.bool false)) = true := by kernel_rfl
theorem bb3_ask : asked (bb3 a fv n bl q cs) = some (pure (.value (.bool (decide (n > 16))))) := by kernel_rfl
theorem bb3_out (c : Frame) : okx Try.prog 11 (put (bb3 a fv n bl q (c :: cs)) (.bool true)) = true ∧ nx Try.prog 11 (put (bb3 a fv n bl q (c :: cs)) (.bool true)) = (c.finish (.tuple #[.slice none 0 0, .int .i64 1]), cs) := ⟨by kernel_rfl, by kernel_rfl⟩
noncomputable def bb4 : FrS := nx Try.prog 6 (put (bb3 a fv n bl q cs) (.bool false))
theorem bb4_ok : okx Try.prog 6 (put (bb3 a fv n bl q cs) (.bool false)) = true := by kernel_rfl
theorem bb4_ask : asked (bb4 a fv n bl q cs) = some (ldS 22 ⟨bl, 0, none⟩) := by kernel_rfl
noncomputable def bb5 (oa : Option Addr) (ln cap : Nat) : FrS := nx Try.prog 1 (put (bb4 a fv n bl q cs) (.slice oa ln cap))
theorem bb5_ok (oa : Option Addr) (ln cap : Nat) : okx Try.prog 1 (put (bb4 a fv n bl q cs) (.slice oa ln cap)) = true := by kernel_rfl
theorem bb5_ask (oa : Option Addr) (ln cap : Nat) : asked (bb5 a fv n bl q cs oa ln cap) = some (pure (.value (.bool (decide ((ln : Int) > 60))))) := by kernel_rfl
theorem bb5_out (oa : Option Addr) (ln cap : Nat) (c : Frame) : okx Try.prog 10 (put (bb5 a fv n bl q (c :: cs) oa ln cap) (.bool true)) = true ∧ nx Try.prog 10 (put (bb5 a fv n bl q (c :: cs) oa ln cap) (.bool true)) = (c.finish (.tuple #[.slice none 0 0, .int .i64 2]), cs) := ⟨by kernel_rfl, by kernel_rfl⟩
end
theorem each_err [FnSet] {ShB : Nat → Prop} {m : Machine} {t : Trace} {W : World} {c : Frame} {rest : List Frame} {oa : Option Addr} {ln cap : Nat} {fv : Value} {n : Int} (hfv : fv.cells = #[fv]) (hsh : ∀ b, ShB b → b < W.heap.size) (h : n < 1 ∨ 16 < n ∨ 60 < ln)
    (hB : Bes Try.prog ShB (Gx (Frame.enter Try.prog 9 #[.slice oa ln cap, .int .i64 n, fv] .normal, c :: rest)) W m t) :
    Lds Try.prog m t fun m' t' => ∃ w' e, Bes Try.prog ShB (Gx (c.finish (.tuple #[.slice none 0 0, .int .i64 e]), rest)) w' m' t' ∧ Kept W.heap.size W w' ∧ (1 ≤ n → n ≤ 16 → e = 2) := by
  have k12 : ∀ {w w' : World}, Kept W.heap.size W w → Same w w' → Kept W.heap.size W w' := fun h k => h.trans k.kept h.size
  generalize ha : (Value.slice oa ln cap) = a at hB
  have hac : a.cells = #[a] := by subst ha; rfl
  refine (bes_nx hB (bb0_ok a fv n _)).trans ?_
  rintro m t ⟨w1, hB, hs⟩
  have hk := (Kept.refl (Nat.le_refl W.heap.size)).trans hs.kept (Nat.le_refl _)
  have hsz1 : w1.heap.size = W.heap.size := by rw [hs.heap]
  refine (bes_put (Ok := fun _ _ => False) _ hB (bb0_ask a fv n _) (fun _ _ _ h => h.elim) (fun _ _ h => h.elim) (turns_box' (N := w1.heap.size) rfl hac)).trans ?_
  rintro m t ⟨w2, hB, hs2⟩
  have hk2 : Kept W.heap.size W w2 := ⟨fun b hb => by rw [hs2.heap, alloc_old (by omega), hs.heap], by rw [hs2.heap, size_alloc']; omega, by rw [hs2.os]; exact hs.os, by rw [hs2.out]; exact hs.out⟩
  have hsz2 : w2.heap.size = w1.heap.size + 1 := by rw [hs2.heap, size_alloc']
  refine (bes_put (Ok := fun _ _ => False) _ hB (bb1_ask a fv n _ _) (fun _ _ _ h => h.elim) (fun _ _ h => h.elim) (turns_box' (N := w2.heap.size) rfl hfv)).trans ?_
  rintro m t ⟨w3, hB, hs3⟩
  have hk3 : Kept W.heap.size W w3 := ⟨fun b hb => by rw [hs3.heap, alloc_old (by omega)]; exact hk2.old b hb, by rw [hs3.heap, size_alloc']; omega, by rw [hs3.os]; exact hk2.os, by rw [hs3.out]; exact hk2.out⟩
  have hsz3 : w3.heap.size = w2.heap.size + 1 := by rw [hs3.heap, size_alloc']
  have hl3 : w3.heap[w1.heap.size]? = some (.cells #[a] 22) := by rw [hs3.heap, alloc_old (by omega), hs2.heap, alloc_new rfl]
  refine (bes_nx hB (bb2_ok a fv n _ _ _)).trans ?_
  rintro m t ⟨w4, hB, hs4⟩
  have hk4 := k12 hk3 hs4
  refine (bes_pure hB (bb2_ask a fv n _ _ _)).trans ?_
  rintro m t ⟨w5, hB, hs5⟩
  have hk5 := k12 hk4 hs5
  by_cases h1 : n < 1
  · rw [show decide (n < 1) = true by simpa using h1] at hB
    refine (bes_to hB (bb2_out a fv n w1.heap.size (ptr w2.heap.size) rest c)).trans ?_
    rintro m t ⟨w6, hB, hs6⟩
    exact ⟨0, m, t, rfl, w6, 1, hB, k12 hk5 hs6, fun h => by omega⟩
  rw [show decide (n < 1) = false by simpa using h1] at hB
  refine (bes_nx hB (bb3_ok a fv n _ _ _)).trans ?_
  rintro m t ⟨w6, hB, hs6⟩
  refine (bes_pure hB (bb3_ask a fv n _ _ _)).trans ?_
  rintro m t ⟨w7, hB, hs7⟩
  have hk7 := k12 (k12 hk5 hs6) hs7
  by_cases h2 : n > 16
  · rw [show decide (n > 16) = true by simpa using h2] at hB
    refine (bes_to hB (bb3_out a fv n w1.heap.size (ptr w2.heap.size) rest c)).trans ?_
    rintro m t ⟨w8, hB, hs8⟩
    exact ⟨0, m, t, rfl, w8, 1, hB, k12 hk7 hs8, fun _ h => by omega⟩
  rw [show decide (n > 16) = false by simpa using h2] at hB
  refine (bes_nx hB (bb4_ok a fv n _ _ _)).trans ?_
  rintro m t ⟨w8, hB, hs8⟩
  have hk8 := k12 hk7 hs8
  have hsz8 : w8.heap.size = w3.heap.size := by rw [hs8.heap, hs7.heap, hs6.heap, hs5.heap, hs4.heap]
  have hl8 : w8.heap[w1.heap.size]? = some (.cells #[a] 22) := by rw [hs8.heap, hs7.heap, hs6.heap, hs5.heap, hs4.heap]; exact hl3
  refine (bes_put (Ok := fun w e => e = ⟨.cell ⟨w1.heap.size, 0, none⟩, false, false⟩ ∧ w1.heap.size < w.heap.size) (some a) hB (bb4_ask a fv n _ _ _) (fun _ _ _ h => h)
    (fun w e ⟨he, hlt⟩ => .inl ⟨_, _, he, fun hs => by have := hsh _ hs; show False; simp only at this; omega, hlt⟩) (turns_ld (by kernel_rfl) (by simp [World.cell?, hl8]) ⟨rfl, by omega⟩)).trans ?_
  rintro m t ⟨w9, hB, hs9⟩
  have hk9 := k12 hk8 hs9
  subst ha
  have h3 : 60 < ln := by omega
  refine (bes_nx hB (bb5_ok _ fv n _ _ _ oa ln cap)).trans ?_
  rintro m t ⟨w10, hB, hs10⟩
  refine (bes_pure hB (bb5_ask _ fv n _ _ _ oa ln cap)).trans ?_
  rintro m t ⟨w11, hB, hs11⟩
  rw [show decide ((ln : Int) > 60) = true by simp; omega] at hB
  refine (bes_to hB (bb5_out (.slice oa ln cap) fv n w1.heap.size (ptr w2.heap.size) rest oa ln cap c)).trans ?_
  rintro m t ⟨w12, hB, hs12⟩
  exact ⟨0, m, t, rfl, w12, 2, hB, k12 (k12 (k12 hk9 hs10) hs11) hs12, fun _ _ => rfl⟩
end E9
namespace E12
section
variable (a fv : Value) (n : Int) (bl : Nat) (q : Value) (cs : List Frame)
noncomputable def bb0 : FrS := nx Try.prog 2 (Frame.enter Try.prog 12 #[a, .int .i64 n, fv] .normal, cs)
theorem bb0_ok : okx Try.prog 2 (Frame.enter Try.prog 12 #[a, .int .i64 n, fv] .normal, cs) = true := by kernel_rfl
theorem bb0_ask : asked (bb0 a fv n cs) = some (bxS 23 a) := by kernel_rfl
noncomputable def bb1 : FrS := put (bb0 a fv n cs) (.pointer (some ⟨bl, 0, none⟩))
theorem bb1_ask : asked (bb1 a fv n bl cs) = some (bxS 47 fv) := by kernel_rfl
noncomputable def bb2 : FrS := nx Try.prog 8 (put (bb1 a fv n bl cs) q)
theorem bb2_ok : okx Try.prog 8 (put (bb1 a fv n bl cs) q) = true := by kernel_rfl
theorem bb2_ask : asked (bb2 a fv n bl q cs) = some (pure (.value (.bool (decide (n < 1))))) := by kernel_rfl
theorem bb2_out (c : Frame) : okx Try.prog 14 (put (bb2 a fv n bl q (c :: cs)) (.bool true)) = true ∧ nx Try.prog 14 (put (bb2 a fv n bl q (c :: cs)) (.bool true)) = (c.finish (.tuple #[.slice none 0 0, .int .i64 1]), cs) := ⟨by kernel_rfl, by kernel_rfl⟩
noncomputable def bb3 : FrS := nx Try.prog 2 (put (bb2 a fv n bl q cs) (.bool false))
theorem bb3_ok : okx Try.prog 2 (put (bb2 a fv n bl q cs) (.bool false)) = true := by kernel_rfl
theorem bb3_ask : asked (bb3 a fv n bl q cs) = some (pure (.value (.bool (decide (n > 16))))) := by kernel_rfl
theorem bb3_out (c : Frame) : okx Try.prog 11 (put (bb3 a fv n bl q (c :: cs)) (.bool true)) = true ∧ nx Try.prog 11 (put (bb3 a fv n bl q (c :: cs)) (.bool true)) = (c.finish (.tuple #[.slice none 0 0, .int .i64 1]), cs) := ⟨by kernel_rfl, by kernel_rfl⟩
noncomputable def bb4 : FrS := nx Try.prog 6 (put (bb3 a fv n bl q cs) (.bool false))
theorem bb4_ok : okx Try.prog 6 (put (bb3 a fv n bl q cs) (.bool false)) = true := by kernel_rfl
theorem bb4_ask : asked (bb4 a fv n bl q cs) = some (ldS 23 ⟨bl, 0, none⟩) := by kernel_rfl
noncomputable def bb5 (oa : Option Addr) (ln cap : Nat) : FrS := nx Try.prog 1 (put (bb4 a fv n bl q cs) (.slice oa ln cap))
theorem bb5_ok (oa : Option Addr) (ln cap : Nat) : okx Try.prog 1 (put (bb4 a fv n bl q cs) (.slice oa ln cap)) = true := by kernel_rfl
theorem bb5_ask (oa : Option Addr) (ln cap : Nat) : asked (bb5 a fv n bl q cs oa ln cap) = some (pure (.value (.bool (decide ((ln : Int) > 60))))) := by kernel_rfl
theorem bb5_out (oa : Option Addr) (ln cap : Nat) (c : Frame) : okx Try.prog 10 (put (bb5 a fv n bl q (c :: cs) oa ln cap) (.bool true)) = true ∧ nx Try.prog 10 (put (bb5 a fv n bl q (c :: cs) oa ln cap) (.bool true)) = (c.finish (.tuple #[.slice none 0 0, .int .i64 2]), cs) := ⟨by kernel_rfl, by kernel_rfl⟩
end
theorem each_err [FnSet] {ShB : Nat → Prop} {m : Machine} {t : Trace} {W : World} {c : Frame} {rest : List Frame} {oa : Option Addr} {ln cap : Nat} {fv : Value} {n : Int} (hfv : fv.cells = #[fv]) (hsh : ∀ b, ShB b → b < W.heap.size) (h : n < 1 ∨ 16 < n ∨ 60 < ln)
    (hB : Bes Try.prog ShB (Gx (Frame.enter Try.prog 12 #[.slice oa ln cap, .int .i64 n, fv] .normal, c :: rest)) W m t) :
    Lds Try.prog m t fun m' t' => ∃ w' e, Bes Try.prog ShB (Gx (c.finish (.tuple #[.slice none 0 0, .int .i64 e]), rest)) w' m' t' ∧ Kept W.heap.size W w' ∧ (1 ≤ n → n ≤ 16 → e = 2) := by
  have k12 : ∀ {w w' : World}, Kept W.heap.size W w → Same w w' → Kept W.heap.size W w' := fun h k => h.trans k.kept h.size
  generalize ha : (Value.slice oa ln cap) = a at hB
  have hac : a.cells = #[a] := by subst ha; rfl
  refine (bes_nx hB (bb0_ok a fv n _)).trans ?_
  rintro m t ⟨w1, hB, hs⟩
  have hk := (Kept.refl (Nat.le_refl W.heap.size)).trans hs.kept (Nat.le_refl _)
  have hsz1 : w1.heap.size = W.heap.size := by rw [hs.heap]
  refine (bes_put (Ok := fun _ _ => False) _ hB (bb0_ask a fv n _) (fun _ _ _ h => h.elim) (fun _ _ h => h.elim) (E9.turns_box' (N := w1.heap.size) rfl hac)).trans ?_
  rintro m t ⟨w2, hB, hs2⟩
  have hk2 : Kept W.heap.size W w2 := ⟨fun b hb => by rw [hs2.heap, E9.alloc_old (by omega), hs.heap], by rw [hs2.heap, size_alloc']; omega, by rw [hs2.os]; exact hs.os, by rw [hs2.out]; exact hs.out⟩
  have hsz2 : w2.heap.size = w1.heap.size + 1 := by rw [hs2.heap, size_alloc']
  refine (bes_put (Ok := fun _ _ => False) _ hB (bb1_ask a fv n _ _) (fun _ _ _ h => h.elim) (fun _ _ h => h.elim) (E9.turns_box' (N := w2.heap.size) rfl hfv)).trans ?_
  rintro m t ⟨w3, hB, hs3⟩
  have hk3 : Kept W.heap.size W w3 := ⟨fun b hb => by rw [hs3.heap, E9.alloc_old (by omega)]; exact hk2.old b hb, by rw [hs3.heap, size_alloc']; omega, by rw [hs3.os]; exact hk2.os, by rw [hs3.out]; exact hk2.out⟩
  have hsz3 : w3.heap.size = w2.heap.size + 1 := by rw [hs3.heap, size_alloc']
  have hl3 : w3.heap[w1.heap.size]? = some (.cells #[a] 23) := by rw [hs3.heap, E9.alloc_old (by omega), hs2.heap, E9.alloc_new rfl]
  refine (bes_nx hB (bb2_ok a fv n _ _ _)).trans ?_
  rintro m t ⟨w4, hB, hs4⟩
  have hk4 := k12 hk3 hs4
  refine (bes_pure hB (bb2_ask a fv n _ _ _)).trans ?_
  rintro m t ⟨w5, hB, hs5⟩
  have hk5 := k12 hk4 hs5
  by_cases h1 : n < 1
  · rw [show decide (n < 1) = true by simpa using h1] at hB
    refine (bes_to hB (bb2_out a fv n w1.heap.size (ptr w2.heap.size) rest c)).trans ?_
    rintro m t ⟨w6, hB, hs6⟩
    exact ⟨0, m, t, rfl, w6, 1, hB, k12 hk5 hs6, fun h => by omega⟩
  rw [show decide (n < 1) = false by simpa using h1] at hB
  refine (bes_nx hB (bb3_ok a fv n _ _ _)).trans ?_
  rintro m t ⟨w6, hB, hs6⟩
  refine (bes_pure hB (bb3_ask a fv n _ _ _)).trans ?_
  rintro m t ⟨w7, hB, hs7⟩
  have hk7 := k12 (k12 hk5 hs6) hs7
  by_cases h2 : n > 16
  · rw [show decide (n > 16) = true by simpa using h2] at hB
    refine (bes_to hB (bb3_out a fv n w1.heap.size (ptr w2.heap.size) rest c)).trans ?_
    rintro m t ⟨w8, hB, hs8⟩
    exact ⟨0, m, t, rfl, w8, 1, hB, k12 hk7 hs8, fun _ h => by omega⟩
  rw [show decide (n > 16) = false by simpa using h2] at hB
  refine (bes_nx hB (bb4_ok a fv n _ _ _)).trans ?_
  rintro m t ⟨w8, hB, hs8⟩
  have hk8 := k12 hk7 hs8
  have hsz8 : w8.heap.size = w3.heap.size := by rw [hs8.heap, hs7.heap, hs6.heap, hs5.heap, hs4.heap]
  have hl8 : w8.heap[w1.heap.size]? = some (.cells #[a] 23) := by rw [hs8.heap, hs7.heap, hs6.heap, hs5.heap, hs4.heap]; exact hl3
  refine (bes_put (Ok := fun w e => e = ⟨.cell ⟨w1.heap.size, 0, none⟩, false, false⟩ ∧ w1.heap.size < w.heap.size) (some a) hB (bb4_ask a fv n _ _ _) (fun _ _ _ h => h)
    (fun w e ⟨he, hlt⟩ => .inl ⟨_, _, he, fun hs => by have := hsh _ hs; show False; simp only at this; omega, hlt⟩) (turns_ld (by kernel_rfl) (by simp [World.cell?, hl8]) ⟨rfl, by omega⟩)).trans ?_
  rintro m t ⟨w9, hB, hs9⟩
  have hk9 := k12 hk8 hs9
  subst ha
  have h3 : 60 < ln := by omega
  refine (bes_nx hB (bb5_ok _ fv n _ _ _ oa ln cap)).trans ?_
  rintro m t ⟨w10, hB, hs10⟩
  refine (bes_pure hB (bb5_ask _ fv n _ _ _ oa ln cap)).trans ?_
  rintro m t ⟨w11, hB, hs11⟩
  rw [show decide ((ln : Int) > 60) = true by simp; omega] at hB
  refine (bes_to hB (bb5_out (.slice oa ln cap) fv n w1.heap.size (ptr w2.heap.size) rest oa ln cap c)).trans ?_
  rintro m t ⟨w12, hB, hs12⟩
  exact ⟨0, m, t, rfl, w12, 2, hB, k12 (k12 (k12 hk9 hs10) hs11) hs12, fun _ _ => rfl⟩
end E12
end Go.Po
/- The pools, with what is known of their functions: side.Spans, side.Bins, beside leavers. -/
namespace Go.Po
open Go Go.Conc Go.Tw Go.Proofs Go.Sx
def eL (ln : Nat) : Int := if ln ≤ 60 then 0 else 2
def xL (ln : Nat) (r : Nat → Int) : List Int := if ln ≤ 60 then (List.range ln).map r else []
/-- What is shunned behind a call: what was shunned, and some of the call's own. -/
def ShOk (N : Nat) (ShB : Nat → Prop) (w : World) (ShB' : Nat → Prop) : Prop := ∀ b, ShB' b → (ShB b ∨ N ≤ b) ∧ b < w.heap.size
def Vis (ShB : Nat → Prop) (v : Value) : Prop := ∀ b o l c, v = .slice (some ⟨b, o, none⟩) l c → ¬ ShB b
/-- The nets lie so. -/
def NetsAt (W : World) (ShB : Nat → Prop) (oa : Option Addr) (ln : Nat) (X : Nat → NetD) : Prop := ∀ i, i < ln → ∃ b o, oa = some ⟨b, o, none⟩ ∧ ¬ ShB b ∧ W.cell? ⟨b, o + i * 3, none⟩ = some (.int .i64 (X i).n) ∧ W.cell? ⟨b, o + i * 3 + 1, none⟩ = some (.slice (X i).p (X i).L.length (X i).c) ∧
  W.cell? ⟨b, o + i * 3 + 2, none⟩ = some (.slice (X i).q (X i).D.length (X i).d) ∧ (X i).Ok W ∧ ∀ a, ((X i).p = some a → (X i).c ≠ 0 → ¬ ShB a.block) ∧ ((X i).q = some a → (X i).d ≠ 0 → ¬ ShB a.block)
/-- The rows of things lie so. -/
def RowsAt (W : World) (ShB : Nat → Prop) (oa : Option Addr) (ln : Nat) (X : Nat → ThD) : Prop := ∀ i, i < ln → ∃ b o, oa = some ⟨b, o, none⟩ ∧ ¬ ShB b ∧ W.cell? ⟨b, o + i * 1, none⟩ = some (X i).val ∧ (X i).Ok W ∧ ∀ a, (X i).p = some a → (X i).c ≠ 0 → ¬ ShB a.block
def padOf (oa : Option Addr) (k i : Nat) : Addr := ⟨(oa.getD default).block, (oa.getD default).off + i * k, none⟩
theorem u22 : Try.prog.underlying 22 = some (.slice 37) ∧ (Try.prog.info? 37).map (·.size) = some 3 ∧ Try.prog.underlying 23 = some (.slice 25) ∧ (Try.prog.info? 25).map (·.size) = some 1 ∧ (Try.prog.underlying 25).map plainD = some true := ⟨by kernel_rfl, by kernel_rfl, by kernel_rfl, by kernel_rfl, by kernel_rfl⟩
theorem u37 : ∃ fs, Try.prog.underlying 37 = some (.struct fs) := by
  have h : (Try.prog.underlying 37).map (fun d => match d with | .struct _ => true | _ => false) = some true := by kernel_rfl
  obtain ⟨d, h1, h2⟩ := Option.map_eq_some_iff.1 h
  cases d <;> first | exact ⟨_, h1⟩ | cases h2
section
variable {ShB : Nat → Prop} {W : World} {oa : Option Addr} {ln cap : Nat}
theorem ctrS {X : Nat → NetD} (hsh : ∀ b, ShB b → b < W.heap.size) (hN : NetsAt W ShB oa ln X) :
    @Ctr (fset (cbOf W ShB)) okB W W.heap.size ShB 22 37 W16.fr (.slice oa ln cap) ln (fun i => .int .i64 (X i).span) (padOf oa 3) (fun i => (X i).val) := by
  letI := fset (cbOf W ShB)
  refine ⟨Nat.le_refl _, hsh, fun b hb hcb => ((show cbOf W ShB b from hcb).resolve_left (by omega)).1, fun i => ⟨_, _, rfl⟩, fun i hi w => ?_, fun i hi w hw => ?_, fun i hi => ?_⟩
  · obtain ⟨b, o, rfl, _⟩ := hN i hi
    exact ix_ok u22.1 u22.2.1 hi
  · obtain ⟨b, o, rfl, h0, h1, h2, h3, _⟩ := hN i hi
    obtain ⟨fs, hfs⟩ := u37
    have hlt : b < W.heap.size := cell?_lt h1
    have hk : ∀ {k : Nat} {v : Value}, W.cell? ⟨b, k, none⟩ = some v → w.cell? ⟨b, k, none⟩ = some v := fun {k v} h => by
      unfold World.cell? at h ⊢
      rw [hw b hlt]; exact h
    obtain ⟨r1, r2⟩ := ld3_ok (P := Try.prog) (w := w) (b := b) (o := o + i * 3) hfs u22.2.1 (hk h1) (hk h2) (hk h3)
    refine ⟨r1, fun e he => ?_⟩
    rw [show padOf (some ⟨b, o, none⟩) 3 i = ⟨b, o + i * 3, none⟩ from rfl, r2] at he
    simp at he
    rcases he with rfl | rfl | rfl <;> exact ⟨_, rfl, hlt, h0⟩
  · obtain ⟨b, o, rfl, h0, h1, h2, h3, hx, hs⟩ := hN i hi
    obtain ⟨frL, k1, k2⟩ := net_lone hx hs
    exact ⟨frL, _, k1, k2, fun w hw hsz => lone_WR W ShB w hw hsz⟩
theorem ctrB {X : Nat → ThD} {s : Int} {bx : Nat} {ty : TypeId} (hsh : ∀ b, ShB b → b < W.heap.size) (hN : RowsAt W ShB oa ln X) (hb : W.heap[bx]? = some (.cells #[.int .i64 s] ty)) (hbs : ¬ ShB bx) :
    @Ctr (fset (cbOf W ShB)) okB W W.heap.size ShB 23 25 (W21.fr ⟨bx, 0, none⟩) (.slice oa ln cap) ln (fun i => .int .i64 ((X i).bins s)) (padOf oa 1) (fun i => (X i).val) := by
  letI := fset (cbOf W ShB)
  refine ⟨Nat.le_refl _, hsh, fun b hb hcb => ((show cbOf W ShB b from hcb).resolve_left (by omega)).1, fun i => ⟨_, _, rfl⟩, fun i hi w => ?_, fun i hi w hw => ?_, fun i hi => ?_⟩
  · obtain ⟨b, o, rfl, _⟩ := hN i hi
    exact ix_ok u22.2.2.1 u22.2.2.2.1 hi
  · obtain ⟨b, o, rfl, h0, h1, _⟩ := hN i hi
    have hlt : b < W.heap.size := cell?_lt h1
    have hk : w.cell? ⟨b, o + i * 1, none⟩ = some (X i).val := by
      unfold World.cell? at h1 ⊢
      rw [hw b hlt]; exact h1
    obtain ⟨r1, r2⟩ := ld_ok' (P := Try.prog) (w := w) (ad := ⟨b, o + i * 1, none⟩) u22.2.2.2.2 hk
    refine ⟨r1, fun e he => ?_⟩
    rw [show padOf (some ⟨b, o, none⟩) 1 i = ⟨b, o + i * 1, none⟩ from rfl, r2] at he
    simp at he
    subst he
    exact ⟨_, rfl, hlt, h0⟩
  · obtain ⟨b, o, rfl, h0, h1, hx, hs⟩ := hN i hi
    obtain ⟨frL, k1, k2⟩ := bin_lone hx hs hb hbs
    exact ⟨frL, _, k1, k2, fun w hw hsz => lone_WR W ShB w hw hsz⟩
theorem NetsAt.kept {X : Nat → NetD} {W' : World} {N : Nat} (h : NetsAt W ShB oa ln X) (hk : Kept N W W') (hN : N = W.heap.size) : NetsAt W' ShB oa ln X := fun i hi => by
  obtain ⟨b, o, h1, h2, h3, h4, h5, h6, h7⟩ := h i hi
  exact ⟨b, o, h1, h2, cell?_kept hk hN h3, cell?_kept hk hN h4, cell?_kept hk hN h5, ⟨h6.sp.kept hk hN, h6.sq.kept hk hN, fun i x hx j u hu => cell_kept hk hN (h6.ed i x hx j u hu), fun i v hv => cell_kept hk hN (h6.ds i v hv)⟩, h7⟩
theorem RowsAt.kept {X : Nat → ThD} {W' : World} {N : Nat} (h : RowsAt W ShB oa ln X) (hk : Kept N W W') (hN : N = W.heap.size) : RowsAt W' ShB oa ln X := fun i hi => by
  obtain ⟨b, o, h1, h2, h3, h6, h7⟩ := h i hi
  exact ⟨b, o, h1, h2, cell?_kept hk hN h3, ⟨h6.sp.kept hk hN, fun i v hv => cell_kept hk hN (h6.ds i v hv)⟩, h7⟩
theorem eachS {m : Machine} {t : Trace} {c : Frame} {rest : List Frame} {X : Nat → NetD} {n : Int} (hsh : ∀ b, ShB b → b < W.heap.size) (hN : NetsAt W ShB oa ln X)
    (hB : Bes Try.prog ShB (Gx (Frame.enter Try.prog 9 #[.slice oa ln cap, .int .i64 n, .func (.func 10) #[] #[]] .normal, c :: rest)) W m t) :
    Lds Try.prog m t fun m' t' => ∃ w' ShB' v e, Bes Try.prog ShB' (Gx (c.finish (.tuple #[v, .int .i64 e]), rest)) w' m' t' ∧ Kept W.heap.size W w' ∧ ShOk W.heap.size ShB w' ShB' ∧ (1 ≤ n → n ≤ 16 → e = eL ln ∧ ResAt w' v (xL ln fun i => (X i).span) ∧ Vis ShB' v) := by
  letI := fset (cbOf W ShB)
  by_cases hbad : n < 1 ∨ 16 < n ∨ 60 < ln
  · refine (E9.each_err rfl hsh hbad hB).trans ?_
    rintro m t ⟨w', e, hB, hk, he⟩
    refine ⟨0, m, t, rfl, w', ShB, _, e, hB, hk, fun b hb => ⟨.inl hb, by have := hsh b hb; have := hk.size; omega⟩, fun h1 h2 => ?_⟩
    have h60 : ¬ ln ≤ 60 := by omega
    refine ⟨by rw [he h1 h2, eL, if_neg h60], .inl ⟨rfl, by rw [xL, if_neg h60]⟩, fun b o l c h => by cases h⟩
  · obtain ⟨k, rfl⟩ : ∃ k : Nat, n = k := ⟨n.toNat, by omega⟩
    refine (E9.each (envC _) (ctrS hsh hN) (by omega) (n := k) (by omega) (by omega) hB).trans ?_
    rintro m t ⟨w', os, ShB', hB, hold, hsz, hos, hou, hoz, hoe, hsB⟩
    refine ⟨0, m, t, rfl, w', ShB', _, 0, hB, ⟨hold, by omega, hos.1, hos.2⟩, fun b hb => ?_, fun _ _ => ?_⟩
    · rcases (hsB b).1 hb with h | rfl | rfl
      · exact ⟨.inl h, by have := hsh b h; omega⟩
      · exact ⟨.inr (by omega), by omega⟩
      · exact ⟨.inr (by omega), by omega⟩
    · have h60 : ln ≤ 60 := by omega
      have hx : xL ln (fun i => (X i).span) = (List.range ln).map fun i => (X i).span := by rw [xL, if_pos h60]
      refine ⟨by rw [eL, if_pos h60], .inr ⟨W.heap.size + 2, 2, by rw [hx]; simp, ?_⟩, fun b o l c h => ?_⟩
      · rw [hou]
        congr 2
        refine Array.ext_getElem? fun i => ?_
        rw [hx]
        by_cases hi : i < ln
        · rw [hoe i hi]; simp [hi]
        · rw [Array.getElem?_eq_none (by omega)]
          simp [hi]
      · cases h
        intro hs
        rcases (hsB _).1 hs with h | h | h
        · have := hsh _ h; omega
        · omega
        · omega
theorem eachB {m : Machine} {t : Trace} {c : Frame} {rest : List Frame} {X : Nat → ThD} {s : Int} {bx : Nat} {ty : TypeId} {n : Int} (hsh : ∀ b, ShB b → b < W.heap.size) (hN : RowsAt W ShB oa ln X) (hb : W.heap[bx]? = some (.cells #[.int .i64 s] ty)) (hbs : ¬ ShB bx)
    (hB : Bes Try.prog ShB (Gx (Frame.enter Try.prog 12 #[.slice oa ln cap, .int .i64 n, .func (.func 13) #[] #[.pointer (some ⟨bx, 0, none⟩)]] .normal, c :: rest)) W m t) :
    Lds Try.prog m t fun m' t' => ∃ w' ShB' v e, Bes Try.prog ShB' (Gx (c.finish (.tuple #[v, .int .i64 e]), rest)) w' m' t' ∧ Kept W.heap.size W w' ∧ ShOk W.heap.size ShB w' ShB' ∧ (1 ≤ n → n ≤ 16 → e = eL ln ∧ ResAt w' v (xL ln fun i => (X i).bins s) ∧ Vis ShB' v) := by
  letI := fset (cbOf W ShB)
  by_cases hbad : n < 1 ∨ 16 < n ∨ 60 < ln
  · refine (E12.each_err rfl hsh hbad hB).trans ?_
    rintro m t ⟨w', e, hB, hk, he⟩
    refine ⟨0, m, t, rfl, w', ShB, _, e, hB, hk, fun b hb => ⟨.inl hb, by have := hsh b hb; have := hk.size; omega⟩, fun h1 h2 => ?_⟩
    have h60 : ¬ ln ≤ 60 := by omega
    refine ⟨by rw [he h1 h2, eL, if_neg h60], .inl ⟨rfl, by rw [xL, if_neg h60]⟩, fun b o l c h => by cases h⟩
  · obtain ⟨k, rfl⟩ : ∃ k : Nat, n = k := ⟨n.toNat, by omega⟩
    refine (E12.each (envC _) (ctrB hsh hN hb hbs) (by omega) (n := k) (by omega) (by omega) hB).trans ?_
    rintro m t ⟨w', os, ShB', hB, hold, hsz, hos, hou, hoz, hoe, hsB⟩
    refine ⟨0, m, t, rfl, w', ShB', _, 0, hB, ⟨hold, by omega, hos.1, hos.2⟩, fun b hb => ?_, fun _ _ => ?_⟩
    · rcases (hsB b).1 hb with h | rfl | rfl
      · exact ⟨.inl h, by have := hsh b h; omega⟩
      · exact ⟨.inr (by omega), by omega⟩
      · exact ⟨.inr (by omega), by omega⟩
    · have h60 : ln ≤ 60 := by omega
      have hx : xL ln (fun i => (X i).bins s) = (List.range ln).map fun i => (X i).bins s := by rw [xL, if_pos h60]
      refine ⟨by rw [eL, if_pos h60], .inr ⟨W.heap.size + 2, 3, by rw [hx]; simp, ?_⟩, fun b o l c h => ?_⟩
      · rw [hou]
        congr 2
        refine Array.ext_getElem? fun i => ?_
        rw [hx]
        by_cases hi : i < ln
        · rw [hoe i hi]; simp [hi]
        · rw [Array.getElem?_eq_none (by omega)]
          simp [hi]
      · cases h
        intro hs
        rcases (hsB _).1 hs with h | h | h
        · have := hsh _ h; omega
        · omega
        · omega
theorem spans {m : Machine} {t : Trace} {c : Frame} {rest : List Frame} {X : Nat → NetD} {n : Int} (hsh : ∀ b, ShB b → b < W.heap.size) (hN : NetsAt W ShB oa ln X)
    (hB : Bes Try.prog ShB (Gx (Frame.enter Try.prog 5 #[.slice oa ln cap, .int .i64 n] .normal, c :: rest)) W m t) :
    Lds Try.prog m t fun m' t' => ∃ w' ShB' v e, Bes Try.prog ShB' (Gx (c.finish (.tuple #[v, .int .i64 e]), rest)) w' m' t' ∧ Kept W.heap.size W w' ∧ ShOk W.heap.size ShB w' ShB' ∧ (1 ≤ n → n ≤ 16 → e = eL ln ∧ ResAt w' v (xL ln fun i => (X i).span) ∧ Vis ShB' v) := by
  letI := fset (cbOf W ShB)
  refine (bes_to hB (F5.call (.slice oa ln cap) (.int .i64 n) (c :: rest))).trans ?_
  rintro m t ⟨w1, hB, hs1⟩
  have hz1 : w1.heap.size = W.heap.size := by rw [hs1.heap]
  refine (eachS (by rw [hz1]; exact hsh) (hN.kept hs1.kept rfl) hB).trans ?_
  rintro m t ⟨w2, ShB', v, e, hB, hk, hok, hres⟩
  refine (bes_to hB (F5.back (.slice oa ln cap) (.int .i64 n) v (.int .i64 e) c rest)).trans ?_
  rintro m t ⟨w3, hB, hs3⟩
  have hz3 : w3.heap.size = w2.heap.size := by rw [hs3.heap]
  refine ⟨0, m, t, rfl, w3, ShB', v, e, hB, (hs1.kept.trans (hz1 ▸ hk) (Nat.le_refl _)).trans hs3.kept (by have := hk.size; omega), by rw [ShOk, hz3]; rw [hz1] at hok; exact hok, fun h1 h2 => ?_⟩
  obtain ⟨h3, h4, h5⟩ := hres h1 h2
  exact ⟨h3, h4.kept hs3.kept rfl, h5⟩
theorem bins {m : Machine} {t : Trace} {c : Frame} {rest : List Frame} {X : Nat → ThD} {s n : Int} (hsh : ∀ b, ShB b → b < W.heap.size) (hN : RowsAt W ShB oa ln X)
    (hB : Bes Try.prog ShB (Gx (Frame.enter Try.prog 6 #[.slice oa ln cap, .int .i64 s, .int .i64 n] .normal, c :: rest)) W m t) :
    Lds Try.prog m t fun m' t' => ∃ w' ShB' v e, Bes Try.prog ShB' (Gx (c.finish (.tuple #[v, .int .i64 e]), rest)) w' m' t' ∧ Kept W.heap.size W w' ∧ ShOk W.heap.size ShB w' ShB' ∧ (1 ≤ n → n ≤ 16 → e = eL ln ∧ ResAt w' v (xL ln fun i => (X i).bins s) ∧ Vis ShB' v) := by
  letI := fset (cbOf W ShB)
  refine (bes_nx hB (F6.x0_ok (.slice oa ln cap) (.int .i64 s) (.int .i64 n) (c :: rest))).trans ?_
  rintro m t ⟨w0, hB, hs0⟩
  have hz0 : w0.heap.size = W.heap.size := by rw [hs0.heap]
  refine (bes_put (Ok := fun _ _ => False) _ hB (F6.x1_ask _ _ _ _) (fun _ _ _ h => h.elim) (fun _ _ h => h.elim) (E9.turns_box' (N := w0.heap.size) rfl rfl)).trans ?_
  rintro m t ⟨wa, hB, hsa⟩
  refine (bes_to hB (F6.call (.slice oa ln cap) (.int .i64 s) (.int .i64 n) (ptr w0.heap.size) (c :: rest))).trans ?_
  rintro m t ⟨w1, hB, hs1⟩
  have hh1 : w1.heap = (w0.alloc (.cells #[.int .i64 s] 2)).heap := by rw [hs1.heap, hsa.heap]
  have hz1 : w1.heap.size = W.heap.size + 1 := by rw [hh1, size_alloc', hz0]
  have hk1 : Kept W.heap.size W w1 := ⟨fun b hb => by rw [hh1, E9.alloc_old (by omega), hs0.heap], by omega, by rw [hs1.os, hsa.os]; exact hs0.os, by rw [hs1.out, hsa.out]; exact hs0.out⟩
  have hbx : w1.heap[w0.heap.size]? = some (.cells #[.int .i64 s] 2) := by rw [hh1, E9.alloc_new rfl]
  refine (eachB (bx := w0.heap.size) (s := s) (fun b hb => by have := hsh b hb; omega) (hN.kept hk1 rfl) hbx (fun h => by have := hsh _ h; omega) hB).trans ?_
  rintro m t ⟨w2, ShB', v, e, hB, hk, hok, hres⟩
  refine (bes_to hB (F6.back (.slice oa ln cap) (.int .i64 s) (.int .i64 n) (ptr w0.heap.size) v (.int .i64 e) c rest)).trans ?_
  rintro m t ⟨w3, hB, hs3⟩
  have hz3 : w3.heap.size = w2.heap.size := by rw [hs3.heap]
  have hz2 := hk.size
  refine ⟨0, m, t, rfl, w3, ShB', v, e, hB, (hk1.trans hk (by omega)).trans hs3.kept (by omega), fun b hb => ?_, fun h1 h2 => ?_⟩
  · obtain ⟨h1, h2⟩ := hok b hb
    exact ⟨h1.imp id fun h => by omega, by omega⟩
  · obtain ⟨h3, h4, h5⟩ := hres h1 h2
    exact ⟨h3, h4.kept hs3.kept rfl, h5⟩
end
end Go.Po
/- sides, beside leavers: one net, one worker; it answers true. -/
namespace Go.Po
open Go Go.Conc Go.Tw Go.Proofs Go.Sx
open Go.Proofs.Ytblgmhmjafgdgaa (E SpanIs Topo Plan)
namespace F4
theorem bs1_run (w : World) (d : Nat) : (bsS 25 1 #[(0, .int .i64 4)]).run Try.prog (w.at d) = .ok (nextOf (some (sl1 w.heap.size))) ((w.alloc (.cells #[.int .i64 4] 2)).at d) := by kernel_rfl
theorem bs1_ev (w : World) (d : Nat) : (bsS 25 1 #[(0, .int .i64 4)]).events Try.prog (w.at d) #[] = #[] := by kernel_rfl
theorem bs2_run (p : Nat) (w : World) (d : Nat) : (bsS 22 1 #[(0, .agg #[.int .i64 1, .slice none 0 0, sl1 p])]).run Try.prog (w.at d) = .ok (nextOf (some (sl1 w.heap.size))) ((w.alloc (.cells #[.int .i64 1, .slice none 0 0, sl1 p] 37)).at d) := by kernel_rfl
theorem bs2_ev (p : Nat) (w : World) (d : Nat) : (bsS 22 1 #[(0, .agg #[.int .i64 1, .slice none 0 0, sl1 p])]).events Try.prog (w.at d) #[] = #[] := by kernel_rfl
theorem turns1 [FnSet] (w : World) : Turns Try.prog (fun _ _ => False) (bsS 25 1 #[(0, .int .i64 4)]) (some (sl1 w.heap.size)) w (w.alloc (.cells #[.int .i64 4] 2)) :=
  turns_of (by rw [size_alloc']; omega) (bs1_run w) fun d e he => by rw [bs1_ev] at he; simp at he
theorem turns2 [FnSet] (p : Nat) (w : World) : Turns Try.prog (fun _ _ => False) (bsS 22 1 #[(0, .agg #[.int .i64 1, .slice none 0 0, sl1 p])]) (some (sl1 w.heap.size)) w (w.alloc (.cells #[.int .i64 1, .slice none 0 0, sl1 p] 37)) :=
  turns_of (by rw [size_alloc']; omega) (bs2_run p w) fun d e he => by rw [bs2_ev] at he; simp at he
/-- The one net that sides looks at. -/
def net (b : Nat) : NetD := ⟨1, none, 0, [], some ⟨b, 0, none⟩, 1, [4]⟩
theorem net_span (b : Nat) : (net b).span = 4 := by
  refine NetD.span_eq (.inr ⟨⟨by show (0 : Int) ≤ 1; omega, by show (1 : Int) ≤ 60; omega, by simp [net], fun e he => by simp [net] at he⟩, ⟨rfl, fun x hx => by simp [net] at hx; omega⟩, ⟨[0], ?_⟩, [0], [0], ?_⟩)
  · refine ⟨fun y hy => ⟨0, by simpa using hy, Nat.zero_lt_one⟩, fun i hi => ?_, fun k e he _ => by simp [net] at he⟩
    have hi : i < 1 := hi
    obtain rfl : i = 0 := by omega
    rfl
  · have z : ∀ i : Nat, i < (net b).n.toNat → i = 0 := fun i hi => by
      have hi : i < 1 := hi
      omega
    refine ⟨rfl, rfl, fun i hi => ?_, fun e he => by simp [net] at he, fun i hi => .inl ?_, by omega, by omega, fun i hi => ?_, .inr ⟨0, Nat.zero_lt_one, rfl⟩, fun i hi => ?_, fun e he => by simp [net] at he, fun i hi => .inl ?_⟩
    · rw [z i hi]; exact Int.le_refl 0
    · rw [z i hi]; rfl
    · rw [z i hi]; exact Int.le_refl 4
    · rw [z i hi]; exact Int.le_refl 4
    · rw [z i hi]; rfl
end F4
theorem sides {ShB : Nat → Prop} {W : World} {m : Machine} {t : Trace} {c : Frame} {rest : List Frame} (hsh : ∀ b, ShB b → b < W.heap.size)
    (hB : Bes Try.prog ShB (Gx (Frame.enter Try.prog 4 #[] .normal, c :: rest)) W m t) :
    Lds Try.prog m t fun m' t' => ∃ w' ShB', Bes Try.prog ShB' (Gx (c.finish (.bool true), rest)) w' m' t' ∧ Kept W.heap.size W w' ∧ ShOk W.heap.size ShB w' ShB' := by
  letI := fset (cbOf W ShB)
  refine (bes_nx hB (F4.x0_ok (c :: rest))).trans ?_
  rintro m t ⟨w1, hB, hs1⟩
  have hz1 : w1.heap.size = W.heap.size := by rw [hs1.heap]
  refine (bes_put (Ok := fun _ _ => False) _ hB (F4.x1_ask (c :: rest)) (fun _ _ _ h => h.elim) (fun _ _ h => h.elim) (F4.turns1 w1)).trans ?_
  rintro m t ⟨w2, hB, hs2⟩
  have hz2 : w2.heap.size = w1.heap.size + 1 := by rw [hs2.heap, size_alloc']
  refine (bes_nx hB (F4.x1_ok w1.heap.size (c :: rest))).trans ?_
  rintro m t ⟨w3, hB, hs3⟩
  have hz3 : w3.heap.size = w2.heap.size := by rw [hs3.heap]
  refine (bes_put (Ok := fun _ _ => False) _ hB (F4.x2_ask w1.heap.size (c :: rest)) (fun _ _ _ h => h.elim) (fun _ _ h => h.elim) (F4.turns2 w1.heap.size w3)).trans ?_
  rintro m t ⟨w4, hB, hs4⟩
  have hz4 : w4.heap.size = w3.heap.size + 1 := by rw [hs4.heap, size_alloc']
  refine (bes_to hB (F4.call w1.heap.size w3.heap.size (c :: rest))).trans ?_
  rintro m t ⟨w5, hB, hs5⟩
  have hz5 : w5.heap.size = w4.heap.size := by rw [hs5.heap]
  have hk5 : Kept W.heap.size W w5 := ⟨fun b hb => by rw [hs5.heap, hs4.heap, E9.alloc_old (by omega), hs3.heap, hs2.heap, E9.alloc_old (by omega), hs1.heap], by omega, by rw [hs5.os, hs4.os]; show w3.os = _; rw [hs3.os, hs2.os]; exact hs1.os, by rw [hs5.out, hs4.out]; show w3.output = _; rw [hs3.out, hs2.out]; exact hs1.out⟩
  have hd : w5.heap[w1.heap.size]? = some (.cells #[.int .i64 4] 2) := by rw [hs5.heap, hs4.heap, E9.alloc_old (by omega), hs3.heap, hs2.heap, E9.alloc_new rfl]
  have hn : w5.heap[w3.heap.size]? = some (.cells #[.int .i64 1, .slice none 0 0, F4.sl1 w1.heap.size] 37) := by rw [hs5.heap, hs4.heap, E9.alloc_new rfl]
  have nsh : ∀ b, W.heap.size ≤ b → ¬ ShB b := fun b hb h => by have := hsh b h; omega
  have hN : NetsAt w5 ShB (some ⟨w3.heap.size, 0, none⟩) 1 (fun _ => F4.net w1.heap.size) := by
    intro i hi
    obtain rfl : i = 0 := by omega
    refine ⟨_, _, rfl, nsh _ (by omega), by simp [World.cell?, hn, F4.net], by simp [World.cell?, hn, F4.net], by simp [World.cell?, hn, F4.net], ⟨⟨Nat.le_refl _, by simp [F4.net], fun h => absurd rfl h⟩, ⟨Nat.le_refl _, by simp [F4.net], fun _ => ⟨_, _, _, _, rfl, hd⟩⟩, fun j x hx => by simp [F4.net] at hx, fun j v hv => ?_⟩, fun a => ⟨(fun h => by cases h), fun h _ => ?_⟩⟩
    · have hj : j < 1 := by have := (List.getElem?_eq_some_iff.1 hv).1; simpa [F4.net] using this
      obtain rfl : j = 0 := by omega
      cases hv
      simp [cell, F4.net, World.cell?, add_none, hd]
    · cases h
      exact nsh _ (by show W.heap.size ≤ w1.heap.size; omega)
  refine (spans (fun b hb => by have := hsh b hb; omega) hN hB).trans ?_
  rintro m t ⟨w6, ShB', v, e, hB, hk6, hok, hres⟩
  obtain ⟨he, hv, hvis⟩ := hres (by omega) (by omega)
  have hz6 := hk6.size
  obtain rfl : e = 0 := he
  have hx : xL 1 (fun _ => (F4.net w1.heap.size).span) = [4] := by rw [xL, if_pos (by omega), F4.net_span]; rfl
  rw [hx] at hv
  rcases hv with ⟨_, h⟩ | ⟨b, ty, rfl, hb⟩
  · cases h
  refine (bes_nx hB (F4.x3_ok w1.heap.size w3.heap.size b (c :: rest))).trans ?_
  rintro m t ⟨w7, hB, hs7⟩
  have hb7 : w7.heap[b]? = some (.cells #[.int .i64 4] ty) := by rw [hs7.heap]; exact hb
  have hbl : b < w7.heap.size := (Array.getElem?_eq_some_iff.1 hb7).1
  refine (bes_put (Ok := fun w e => e = ⟨.cell ⟨b, 0, none⟩, false, false⟩ ∧ b < w.heap.size) (some (.int .i64 4)) hB (F4.x3_ask w1.heap.size w3.heap.size b (c :: rest)) (fun _ _ _ h => h)
    (fun w e ⟨he, hlt⟩ => .inl ⟨_, _, he, hvis b 0 1 1 rfl, hlt⟩) (turns_ld (by kernel_rfl) (by simp [World.cell?, hb7]) ⟨rfl, hbl⟩)).trans ?_
  rintro m t ⟨w8, hB, hs8⟩
  refine (bes_to hB (F4.back w1.heap.size w3.heap.size b c rest)).trans ?_
  rintro m t ⟨w9, hB, hs9⟩
  have hz9 : w9.heap.size = w6.heap.size := by rw [hs9.heap, hs8.heap, hs7.heap]
  refine ⟨0, m, t, rfl, w9, ShB', hB, (((hk5.trans hk6 (by omega)).trans hs7.kept (by omega)).trans hs8.kept (by rw [hs7.heap]; omega)).trans hs9.kept (by rw [hs8.heap, hs7.heap]; omega), fun b hb => ?_⟩
  obtain ⟨h1, h2⟩ := hok b hb
  exact ⟨h1.imp id fun h => by omega, by omega⟩
end Go.Po
/- SideSame, beside leavers, from its entry to its return: it answers true. -/
namespace Go.Po
open Go Go.Conc Go.Tw Go.Proofs Go.Sx
/-- What is known at each moment: the old blocks are as they were; only new ones are shunned. -/
structure Now (W w : World) (ShB : Nat → Prop) : Prop where
  kept : Kept W.heap.size W w
  sh : ∀ b, ShB b → W.heap.size ≤ b ∧ b < w.heap.size
section
variable {W w w' : World} {ShB ShB' : Nat → Prop} {oa : Option Addr} {ln : Nat}
theorem Now.same (h : Now W w ShB) (k : Same w w') : Now W w' ShB := ⟨h.kept.trans k.kept h.kept.size, fun b hb => by rw [k.heap]; exact h.sh b hb⟩
theorem Now.call (h : Now W w ShB) (k : Kept w.heap.size w w') (o : ShOk w.heap.size ShB w' ShB') : Now W w' ShB' := ⟨h.kept.trans k h.kept.size, fun b hb => by
  obtain ⟨h1, h2⟩ := o b hb
  refine ⟨?_, h2⟩
  rcases h1 with h1 | h1
  · exact (h.sh b h1).1
  · exact Nat.le_trans h.kept.size h1⟩
theorem Now.lt (h : Now W w ShB) : ∀ b, ShB b → b < w.heap.size := fun b hb => (h.sh b hb).2
theorem NetsAt.now {X : Nat → NetD} (h : NetsAt W (fun _ => False) oa ln X) (k : Now W w ShB) : NetsAt w ShB oa ln X := by
  refine NetsAt.kept (W := W) (fun i hi => ?_) k.kept rfl
  obtain ⟨b, o, h1, h2, h3, h4, h5, h6, h7⟩ := h i hi
  have no : ∀ b, b < W.heap.size → ¬ ShB b := fun b hb hs => by have := (k.sh b hs).1; omega
  refine ⟨b, o, h1, no _ (cell?_lt h3), h3, h4, h5, h6, fun a => ⟨fun e hc => ?_, fun e hc => ?_⟩⟩
  · obtain ⟨a', e', hlt⟩ := h6.sp.lt hc
    rw [e] at e'; cases e'
    exact no _ hlt
  · obtain ⟨a', e', hlt⟩ := h6.sq.lt hc
    rw [e] at e'; cases e'
    exact no _ hlt
theorem RowsAt.now {X : Nat → ThD} (h : RowsAt W (fun _ => False) oa ln X) (k : Now W w ShB) : RowsAt w ShB oa ln X := by
  refine RowsAt.kept (W := W) (fun i hi => ?_) k.kept rfl
  obtain ⟨b, o, h1, h2, h3, h6, h7⟩ := h i hi
  have no : ∀ b, b < W.heap.size → ¬ ShB b := fun b hb hs => by have := (k.sh b hs).1; omega
  refine ⟨b, o, h1, no _ (cell?_lt h3), h3, h6, fun a e hc => ?_⟩
  obtain ⟨a', e', hlt⟩ := h6.sp.lt hc
  rw [e] at e'; cases e'
  exact no _ hlt
/-- A result that is still to be seen. -/
structure Seen (w : World) (ShB : Nat → Prop) (v : Value) (X : List Int) : Prop where
  at_ : ResAt w v X
  vis : Vis ShB v
theorem Seen.same {v : Value} {X : List Int} (h : Seen w ShB v X) (k : Same w w') : Seen w' ShB v X := ⟨h.at_.kept k.kept rfl, h.vis⟩
theorem Seen.call {v : Value} {X : List Int} (h : Seen w ShB v X) (k : Kept w.heap.size w w') (o : ShOk w.heap.size ShB w' ShB') : Seen w' ShB' v X := by
  refine ⟨h.at_.kept k rfl, fun b o' l c e hs => ?_⟩
  rcases (o b hs).1 with h1 | h1
  · exact h.vis b o' l c e h1
  · obtain ⟨p, hp, _, hlt⟩ := h.at_.slc
    rw [e] at hp
    cases hp
    have : b < w.heap.size := (hlt _ rfl).1
    omega
theorem ShOk.refl (h : ∀ b, ShB b → b < w.heap.size) (k : Kept w.heap.size w w') : ShOk w.heap.size ShB w' ShB := fun b hb => ⟨.inl hb, by have := h b hb; have := k.size; omega⟩
end
theorem equal_to {ShB : Nat → Prop} {w : World} {m : Machine} {t : Trace} {f : Nat} {v v' : Value} {X : List Int} {c : Frame} {rest : List Frame} (hf : f = 7 ∨ f = 8) (hsh : ∀ b, ShB b → b < w.heap.size) (hl : X.length ≤ 60) (h : Seen w ShB v X) (h' : Seen w ShB v' X)
    (hB : Bes Try.prog ShB (Gx (Frame.enter Try.prog f #[v, v'] .normal, c :: rest)) w m t) :
    Lds Try.prog m t fun m' t' => ∃ w', Bes Try.prog ShB (Gx (c.finish (.bool true), rest)) w' m' t' ∧ Kept w.heap.size w w' := by
  obtain ⟨frL, k1, k2⟩ := equal_lone (ShB := ShB) hf h.at_ h'.at_ hl fun b hb => by
    rcases hb with ⟨o, l, c, e⟩ | ⟨o, l, c, e⟩
    · exact h.vis b o l c e
    · exact h'.vis b o l c e
  exact bes_lt (cb := cbOf w ShB) hB (fun _ ρ n v' hv => by cases hv; rfl) hsh (fun b hb hcb => ((show cbOf w ShB b from hcb).resolve_left (by omega)).1) k1 k2 (lone_WR w ShB w (fun _ _ => rfl) (Nat.le_refl _))
/-- The call stands at its end. -/
def AtLast (g : Goroutine) : Prop := g.status = .running ∧ ∀ w, stepG Try.prog true g w = .ended (.done (.bool true)) w #[]
theorem eL_cases (ln : Nat) : eL ln = 0 ∨ eL ln = 2 := by unfold eL; split <;> simp
theorem xL_len (ln : Nat) (r : Nat → Int) : (xL ln r).length ≤ 60 := by
  unfold xL
  split
  · simpa
  · simp
theorem sideSame {W : World} {m : Machine} {t : Trace} {oa ob : Option Addr} {ln cap lm cm : Nat} {X : Nat → NetD} {Y : Nat → ThD} {s na nb : Int} (hN : NetsAt W (fun _ => False) oa ln X) (hM : RowsAt W (fun _ => False) ob lm Y)
    (hB : Bes Try.prog (fun _ => False) (Gx (F3.x0 (.slice oa ln cap) (.slice ob lm cm) (.int .i64 s) (.int .i64 na) (.int .i64 nb))) W m t) :
    Lds Try.prog m t fun m' t' => ∃ g w' ShB', Bes Try.prog ShB' g w' m' t' ∧ Kept W.heap.size W w' ∧ AtLast g := by
  letI := fset (cbOf W fun _ => False)
  have n0 : Now W W fun _ => False := ⟨Kept.refl (Nat.le_refl _), fun b h => h.elim⟩
  refine (bes_to hB (F3.call1 _ _ _ _ _)).trans ?_
  rintro m t ⟨w1, hB, hs⟩
  have n1 := n0.same hs
  refine (sides n1.lt hB).trans ?_
  rintro m t ⟨w2, S2, hB, hk, ho⟩
  have n2 := n1.call hk ho
  refine (bes_to hB (F3.call2 _ _ _ _ _)).trans ?_
  rintro m t ⟨w3, hB, hs⟩
  have n3 := n2.same hs
  refine (spans n3.lt (hN.now n3) hB).trans ?_
  rintro m t ⟨w4, S4, p, e, hB, hk, ho, r4⟩
  have n4 := n3.call hk ho
  refine (bes_to hB (F3.call3 _ _ _ _ _ _ _)).trans ?_
  rintro m t ⟨w5, hB, hs5⟩
  have n5 := n4.same hs5
  refine (spans n5.lt (hN.now n5) hB).trans ?_
  rintro m t ⟨w6, S6, q, f, hB, hk6, ho6, r6⟩
  have n6 := n5.call hk6 ho6
  refine (bes_to hB (F3.call4 _ _ _ _ _ _ _ _ _)).trans ?_
  rintro m t ⟨w7, hB, hs7⟩
  have n7 := n6.same hs7
  refine (bins n7.lt (hM.now n7) hB).trans ?_
  rintro m t ⟨w8, S8, r, g, hB, hk8, ho8, r8⟩
  have n8 := n7.call hk8 ho8
  refine (bes_to hB (F3.call5 _ _ _ _ _ _ _ _ _ _ _)).trans ?_
  rintro m t ⟨w9, hB, hs9⟩
  have n9 := n8.same hs9
  refine (bins n9.lt (hM.now n9) hB).trans ?_
  rintro m t ⟨wa, Sa, u, h, hB, hka, hoa, ra⟩
  have na_ := n9.call hka hoa
  refine (bes_nx hB (F3.y5_ok _ _ _ na nb p (.int .i64 e) q (.int .i64 f) r (.int .i64 g) u (.int .i64 h))).trans ?_
  rintro m t ⟨wb, hB, hsb⟩
  have nb_ := na_.same hsb
  refine (bes_pure hB (F3.z0_ask _ _ _ _ _ _ _ _ _ _ _ _ _)).trans ?_
  rintro m t ⟨wc, hB, hsc⟩
  have nc := nb_.same hsc
  by_cases h1 : na < 1
  · rw [show decide (na < 1) = true by simpa using h1] at hB
    refine (bes_nx hB (F3.e0_ok _ _ _ _ _ _ _ _ _ _ _ _ _)).trans ?_
    rintro m t ⟨wz, hB, hsz⟩
    exact ⟨0, m, t, rfl, _, wz, Sa, hB, (nc.same hsz).kept, rfl, F3.e0_end _ _ _ _ _ _ _ _ _ _ _ _ _⟩
  rw [show decide (na < 1) = false by simpa using h1] at hB
  refine (bes_nx hB (F3.z1_ok _ _ _ _ _ _ _ _ _ _ _ _ _)).trans ?_
  rintro m t ⟨wd, hB, hsd⟩
  have nd := nc.same hsd
  refine (bes_pure hB (F3.z1_ask _ _ _ _ _ _ _ _ _ _ _ _ _)).trans ?_
  rintro m t ⟨we, hB, hse⟩
  have ne := nd.same hse
  by_cases h2 : na > 16
  · rw [show decide (na > 16) = true by simpa using h2] at hB
    refine (bes_nx hB (F3.e1_ok _ _ _ _ _ _ _ _ _ _ _ _ _)).trans ?_
    rintro m t ⟨wz, hB, hsz⟩
    exact ⟨0, m, t, rfl, _, wz, Sa, hB, (ne.same hsz).kept, rfl, F3.e1_end _ _ _ _ _ _ _ _ _ _ _ _ _⟩
  rw [show decide (na > 16) = false by simpa using h2] at hB
  refine (bes_nx hB (F3.z2_ok _ _ _ _ _ _ _ _ _ _ _ _ _)).trans ?_
  rintro m t ⟨wf, hB, hsf⟩
  have nf := ne.same hsf
  refine (bes_pure hB (F3.z2_ask _ _ _ _ _ _ _ _ _ _ _ _ _)).trans ?_
  rintro m t ⟨wg, hB, hsg⟩
  have ng := nf.same hsg
  by_cases h3 : nb < 1
  · rw [show decide (nb < 1) = true by simpa using h3] at hB
    refine (bes_nx hB (F3.e2_ok _ _ _ _ _ _ _ _ _ _ _ _ _)).trans ?_
    rintro m t ⟨wz, hB, hsz⟩
    exact ⟨0, m, t, rfl, _, wz, Sa, hB, (ng.same hsz).kept, rfl, F3.e2_end _ _ _ _ _ _ _ _ _ _ _ _ _⟩
  rw [show decide (nb < 1) = false by simpa using h3] at hB
  refine (bes_nx hB (F3.z3_ok _ _ _ _ _ _ _ _ _ _ _ _ _)).trans ?_
  rintro m t ⟨wh, hB, hsh⟩
  have nh := ng.same hsh
  refine (bes_pure hB (F3.z3_ask _ _ _ _ _ _ _ _ _ _ _ _ _)).trans ?_
  rintro m t ⟨wi, hB, hsi⟩
  have ni := nh.same hsi
  by_cases h4 : nb > 16
  · rw [show decide (nb > 16) = true by simpa using h4] at hB
    refine (bes_nx hB (F3.e3_ok _ _ _ _ _ _ _ _ _ _ _ _ _)).trans ?_
    rintro m t ⟨wz, hB, hsz⟩
    exact ⟨0, m, t, rfl, _, wz, Sa, hB, (ni.same hsz).kept, rfl, F3.e3_end _ _ _ _ _ _ _ _ _ _ _ _ _⟩
  rw [show decide (nb > 16) = false by simpa using h4] at hB
  obtain ⟨rfl, p1, p2⟩ := r4 (by omega) (by omega)
  obtain ⟨rfl, q1, q2⟩ := r6 (by omega) (by omega)
  obtain ⟨rfl, r1, r2⟩ := r8 (by omega) (by omega)
  obtain ⟨rfl, u1, u2⟩ := ra (by omega) (by omega)
  have tail : ∀ {v : Value} {Z : List Int}, Seen wa Sa v Z → Seen wi Sa v Z := fun h => (((((((h.same hsb).same hsc).same hsd).same hse).same hsf).same hsg).same hsh).same hsi
  have sp : Seen wi Sa p (xL ln fun i => (X i).span) := tail ((((((Seen.mk p1 p2).same hs5).call hk6 ho6).same hs7).call hk8 ho8).same hs9 |>.call hka hoa)
  have sq : Seen wi Sa q (xL ln fun i => (X i).span) := tail ((((Seen.mk q1 q2).same hs7).call hk8 ho8).same hs9 |>.call hka hoa)
  have sr : Seen wi Sa r (xL lm fun i => (Y i).bins s) := tail ((Seen.mk r1 r2).same hs9 |>.call hka hoa)
  have su : Seen wi Sa u (xL lm fun i => (Y i).bins s) := tail (Seen.mk u1 u2)
  have hc : (eL ln = 0 ∨ eL ln = 2) ∧ (eL lm = 0 ∨ eL lm = 2) := ⟨eL_cases ln, eL_cases lm⟩
  refine (bes_to hB (F3.call7 (.slice oa ln cap) (.slice ob lm cm) (.int .i64 s) na nb p q r u (eL ln) (eL lm) hc)).trans ?_
  rintro m t ⟨wj, hB, hsj⟩
  have nj := ni.same hsj
  refine (equal_to (.inl rfl) nj.lt (xL_len _ _) (sp.same hsj) (sq.same hsj) hB).trans ?_
  rintro m t ⟨wk, hB, hkk⟩
  have hok := ShOk.refl nj.lt hkk
  have nk := nj.call hkk hok
  refine (bes_to hB (F3.call8 (.slice oa ln cap) (.slice ob lm cm) (.int .i64 s) na nb p q r u (eL ln) (eL lm) hc)).trans ?_
  rintro m t ⟨wl, hB, hsl⟩
  have nl := nk.same hsl
  refine (equal_to (.inr rfl) nl.lt (xL_len _ _) (((sr.same hsj).call hkk hok).same hsl) (((su.same hsj).call hkk hok).same hsl) hB).trans ?_
  rintro m t ⟨wm, hB, hkm⟩
  have nm := nl.call hkm (ShOk.refl nl.lt hkm)
  refine (bes_nx hB (F3.fin_ok (.slice oa ln cap) (.slice ob lm cm) (.int .i64 s) na nb p q r u (eL ln) (eL lm) hc)).trans ?_
  rintro m t ⟨wn, hB, hsn⟩
  exact ⟨0, m, t, rfl, _, wn, Sa, hB, (nm.same hsn).kept, rfl, F3.fin_end (.slice oa ln cap) (.slice ob lm cm) (.int .i64 s) na nb p q r u (eL ln) (eL lm) hc⟩
end Go.Po
/- SideSame's arguments, opened: nets, and rows of things. -/
namespace Go.Po
open Go Go.Conc Go.Tw Go.Proofs Go.Sx
open Go.Proofs.Ytblgmhmjafgdgaa (E Edges encE)
theorem opened (W : World) (R : Array Value → Prop) (h : ∀ l : Option Addr, ∀ ll : Nat, ∀ lc : Nat, SlcArg Try.prog W 37 l ll lc → ∀ m : Option Addr, ∀ ml : Nat, ∀ mc : Nat, SlcArg Try.prog W 25 m ml mc → ∀ s : Int, InR .i64 s → ∀ a : Int, InR .i64 a → ∀ b : Int, InR .i64 b → R #[.slice l ll lc, .slice m ml mc, .int .i64 s, .int .i64 a, .int .i64 b])
    (args : Array Value) (hg : Sx.GoodAll Try.prog W Try.f3.params.toList args.toList) : R args := by
  have e_ : (ArgsAll Try.prog W Try.f3.params.toList fun l => R l.toArray) = (∀ l : Option Addr, ∀ ll : Nat, ∀ lc : Nat, SlcArg Try.prog W 37 l ll lc → ∀ m : Option Addr, ∀ ml : Nat, ∀ mc : Nat, SlcArg Try.prog W 25 m ml mc → ∀ s : Int, InR .i64 s → ∀ a : Int, InR .i64 a → ∀ b : Int, InR .i64 b → R #[.slice l ll lc, .slice m ml mc, .int .i64 s, .int .i64 a, .int .i64 b]) := by kernel_rfl
  exact args_open (by rw [e_]; exact h) args hg
theorem slcIn_of {W : World} {e : TypeId} {p : Option Addr} {l c : Nat} (h : SlcArg Try.prog W e p l c) (hc : 0 < Try.prog.cellsOf e) : SlcIn W p l c := by
  refine ⟨h.le, by have := h.le; have := h.max; omega, fun hne => ?_⟩
  cases p with
  | none => exact absurd (h.nil rfl) hne
  | some a =>
    obtain ⟨n, es, h4, _⟩ := h.el a rfl 0 (by omega)
    obtain ⟨h6, h7⟩ := cells?_some h4
    have h0 : es[0]? = some (es[0]'(by omega)) := List.getElem?_eq_getElem _
    have := h7 0 _ h0
    have this : W.cell? ((a.add (0 * Try.prog.cellsOf e)).add 0) = some _ := this
    have e0 : (a.add (0 * Try.prog.cellsOf e)).add 0 = a := by simp [Addr.add]
    rw [e0] at this
    unfold World.cell? at this
    split at this
    · rename_i cs t f hcs
      exact ⟨a, cs, t, f, rfl, hcs⟩
    · cases this
theorem edges_of {W : World} {p : Option Addr} {n c : Nat} (h : SlcArg Try.prog W 64 p n c) : ∃ L : List E, L.length = n ∧ Edges W p L := by
  obtain ⟨L, h1, _, h3⟩ := h.recs2 (α := E) (t1 := 3) (t2 := 3) (k1 := .i64) (k2 := .i64) (by kernel_rfl) (by kernel_rfl) (by kernel_rfl) (by kernel_rfl) (fun a b => ⟨a, b⟩) encE (fun _ _ => rfl)
  exact ⟨L, h1, h3⟩
def NetD.enc (x : NetD) : List Value := [.int .i64 x.n, .slice x.p x.L.length x.c, .slice x.q x.D.length x.d]
instance : Inhabited NetD := ⟨⟨0, none, 0, [], none, 0, []⟩⟩
instance : Inhabited ThD := ⟨⟨none, 0, []⟩⟩
theorem netTypes : leaves Try.prog 6 37 = some [3, 35, 25] ∧ Try.prog.underlying 3 = some (.int .i64) ∧ Try.prog.underlying 35 = some (.slice 64) ∧ Try.prog.underlying 25 = some (.slice 2) ∧ Try.prog.underlying 2 = some (.int .i64) := ⟨by kernel_rfl, by kernel_rfl, by kernel_rfl, by kernel_rfl, by kernel_rfl⟩
theorem cellsT : Try.prog.cellsOf 37 = 3 ∧ Try.prog.cellsOf 64 = 2 ∧ Try.prog.cellsOf 2 = 1 ∧ Try.prog.cellsOf 25 = 1 := ⟨by kernel_rfl, by kernel_rfl, by kernel_rfl, by kernel_rfl⟩
theorem slc_of {W : World} {t e : TypeId} {v : Value} (hu : Try.prog.underlying t = some (.slice e)) (h : Leaf Try.prog W t v) : ∃ p l c, v = .slice p l c ∧ SlcArg Try.prog W e p l c := by
  obtain ⟨p, l, c, rfl, h1, h2, h3, h4⟩ := leaf_slice hu h
  exact ⟨p, l, c, rfl, ⟨h1, h2, h3, h4⟩⟩
theorem net_of {W : World} {n : Nat} {es : List Value} (h : Sx.Good Try.prog W n 37 es) : ∃ x : NetD, es = x.enc ∧ x.Ok W := by
  have hl := leaves_ok 6 37 _ n es netTypes.1 h
  obtain ⟨v0, r0, rfl, k0, hl⟩ := lvs_cons hl
  obtain ⟨v1, r1, rfl, k1, hl⟩ := lvs_cons hl
  obtain ⟨v2, r2, rfl, k2, hl⟩ := lvs_cons hl
  obtain rfl := lvs_nil hl
  obtain ⟨x, rfl, _⟩ := leaf_int netTypes.2.1 k0
  obtain ⟨p, l, c, rfl, s1⟩ := slc_of netTypes.2.2.1 k1
  obtain ⟨q, l2, d, rfl, s2⟩ := slc_of netTypes.2.2.2.1 k2
  obtain ⟨L, rfl, hL⟩ := edges_of s1
  obtain ⟨D, rfl, _, hD⟩ := s2.ints netTypes.2.2.2.2 cellsT.2.2.1
  exact ⟨⟨x, p, c, L, q, d, D⟩, rfl, slcIn_of s1 (by rw [cellsT.2.1]; omega), slcIn_of s2 (by rw [cellsT.2.2.1]; omega), hL, hD⟩
theorem row_of {W : World} {n : Nat} {es : List Value} (h : Sx.Good Try.prog W n 25 es) : ∃ x : ThD, es = [x.val] ∧ x.Ok W := by
  have hl := leaves_ok 6 25 [25] n es (by kernel_rfl) h
  obtain ⟨v0, r0, rfl, k0, hl⟩ := lvs_cons hl
  obtain rfl := lvs_nil hl
  obtain ⟨p, l, c, rfl, s1⟩ := slc_of netTypes.2.2.2.1 k0
  obtain ⟨D, rfl, _, hD⟩ := s1.ints netTypes.2.2.2.2 cellsT.2.2.1
  exact ⟨⟨p, c, D⟩, rfl, slcIn_of s1 (by rw [cellsT.2.2.1]; omega), hD⟩
theorem plain_at {W : World} {p : Option Addr} {k : Nat} {v : Value} (h : cell W p k = some v) (h0 : ∃ u, cell W p 0 = some u) : ∃ b o, p = some ⟨b, o, none⟩ ∧ W.cell? ⟨b, o + k, none⟩ = some v := by
  cases p with
  | none => cases h
  | some a =>
    obtain ⟨b, o, sp⟩ := a
    obtain ⟨u, h0⟩ := h0
    have hs : sp = none := by
      simp only [cell, Option.bind_some, Addr.add, if_true, World.cell?] at h0
      cases sp with
      | none => rfl
      | some x => split at h0 <;> simp at h0
    subst hs
    refine ⟨b, o, rfl, ?_⟩
    simp only [cell, Option.bind_some, add_none] at h
    exact h
theorem nets_of {W : World} {p : Option Addr} {l c : Nat} (h : SlcArg Try.prog W 37 p l c) : ∃ X : Nat → NetD, NetsAt W (fun _ => False) p l X := by
  obtain ⟨xs, h1, h2, h3⟩ := h.list NetD.enc (fun x => x.Ok W) (fun n es hg _ => net_of hg)
  rw [cellsT.1] at h3
  refine ⟨fun i => xs.getD i default, fun i hi => ?_⟩
  have get : ∀ i, i < l → xs[i]? = some (xs.getD i default) := fun i hi => getElem?_getD xs default (by omega)
  have at0 : ∃ u, cell W p 0 = some u := ⟨_, h3 0 _ (get 0 (by omega)) 0 _ rfl⟩
  obtain ⟨b, o, rfl, k0⟩ := plain_at (h3 i _ (get i hi) 0 _ rfl) at0
  obtain ⟨b1, o1, e1, k1⟩ := plain_at (h3 i _ (get i hi) 1 _ rfl) at0
  obtain ⟨b2, o2, e2, k2⟩ := plain_at (h3 i _ (get i hi) 2 _ rfl) at0
  cases e1; cases e2
  exact ⟨b, o, rfl, id, k0, k1, k2, h2 _ (List.mem_of_getElem? (get i hi)), fun a => ⟨fun _ _ => id, fun _ _ => id⟩⟩
theorem rows_of {W : World} {p : Option Addr} {l c : Nat} (h : SlcArg Try.prog W 25 p l c) : ∃ X : Nat → ThD, RowsAt W (fun _ => False) p l X := by
  obtain ⟨xs, h1, h2, h3⟩ := h.list (fun x : ThD => [x.val]) (fun x => x.Ok W) (fun n es hg _ => row_of hg)
  rw [cellsT.2.2.2] at h3
  refine ⟨fun i => xs.getD i default, fun i hi => ?_⟩
  have get : ∀ i, i < l → xs[i]? = some (xs.getD i default) := fun i hi => getElem?_getD xs default (by omega)
  have at0 : ∃ u, cell W p 0 = some u := ⟨_, h3 0 _ (get 0 (by omega)) 0 _ rfl⟩
  obtain ⟨b, o, rfl, k0⟩ := plain_at (h3 i _ (get i hi) 0 _ rfl) at0
  exact ⟨b, o, rfl, id, k0, h2 _ (List.mem_of_getElem? (get i hi)), fun a _ _ => id⟩
end Go.Po
