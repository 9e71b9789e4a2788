/- First fit, the greatest ones first: how many boxes it takes. -/
import Derived.Test.YtblgmhmjafgdgaaLnT
set_option linter.unusedVariables false
set_option linter.unusedSimpArgs false
namespace Go.Proofs.Ytblgmhmjafgdgaa
open Go.Sx Go.RowKit

abbrev dg (D : List Int) (i : Nat) : Int := D.getD i 0
def nums (n : Nat) : List Int := (List.range n).map Int.ofNat
theorem nums_succ (n : Nat) : nums (n + 1) = nums n ++ [(n : Int)] := by simp [nums, List.range_succ]
theorem nums_len (n : Nat) : (nums n).length = n := by simp [nums]
theorem nums_at {n i : Nat} (h : i < n) : (nums n).getD i 0 = i := by simp [nums, List.getD_eq_getElem?_getD, h]
theorem mem_set_cases {X : List Int} {k : Nat} {v x : Int} (h : x ∈ X.set k v) : x ∈ X ∨ x = v := List.mem_or_eq_of_mem_set h
def okP (s : Int) (L : List Int) : Prop := L.length ≤ 100 ∧ (1 ≤ s ∧ s ≤ 1099511627776) ∧ ∀ x ∈ L, 1 ≤ x ∧ x ≤ s
theorem compare_k (x y : Int) (w : World) : FnP Try.prog F_cmp_Compare_int64 #[.int .i64 x, .int .i64 y] w fun v w' => Ext w w' ∧ ∃ t : Int, v = .int .i64 t ∧ (t < 0 ↔ x < y) := by
  refine ok_cmp_Compare_int64 x y w _ fun w0 h0 => ?_
  refine ok_cmp_isNaN_int64 x w0 _ fun w1 h1 => ⟨h1, _, rfl, fun w3 h3 => ?_⟩
  refine ok_cmp_isNaN_int64 y w3 _ fun w4 h4 => ⟨h4, _, rfl, fun h => by simp at h, fun _ => ⟨fun h => by simp at h, fun _ => ⟨fun h w6 h6 => ⟨h6, -1, rfl, by omega⟩, fun h => ⟨fun h' w6 h6 => ⟨h6, 1, rfl, by omega⟩, fun h' w6 h6 => ⟨h6, 0, rfl, by omega⟩⟩⟩⟩⟩
theorem nums_mem {n : Nat} {x : Int} (h : x ∈ nums n) : 0 ≤ x ∧ x < n := by
  simp only [nums, List.mem_map, List.mem_range] at h
  obtain ⟨a, ha, rfl⟩ := h
  simp; omega
theorem pnumbers_k (n : Nat) (hn : n ≤ 100000) (w : World) : FnP Try.prog F_pack_numbers #[.int .i64 n] w fun v w' => Ext w w' ∧ ∃ q c, v = .slice q n c ∧ Own w.heap.size w' T_int 1 q n c ((nums n).map (.int .i64)) := by
  refine ok_pack_numbers n w _ ⟨fun q m c k w' => Ext w w' ∧ 0 ≤ k ∧ k ≤ n ∧ (m : Int) = k ∧ Own w.heap.size w' T_int 1 q m c ((nums k.toNat).map (.int .i64)), fun _ _ _ k _ => (n - k).toNat, ⟨Ext.refl _, by omega, by omega, by omega, Own.nil⟩, ?_⟩
  rintro q m c k w3 ⟨hw, hk0, hk1, hm, o⟩
  refine ⟨fun hlt => ?_, fun hge w4 h4 => ⟨hw.trans h4, q, c, ?_, ?_⟩⟩
  · refine push_int elem_sl_int o hw.size (by omega) (by omega) fun p' c' w' o' g hne => ⟨i64 (by omega), ⟨g.ext hw o, by omega, by omega, by omega, ?_⟩, by simp only []; omega⟩
    rw [show (k + 1).toNat = k.toNat + 1 by omega, nums_succ]
    rwa [Int.toNat_of_nonneg hk0]
  · rw [show m = n by omega]
  · obtain rfl : m = n := by omega
    rw [show k.toNat = m by omega] at o
    exact o.ext h4
open Classical in
noncomputable def errP (s : Int) (L : List Int) : Int := if 100 < L.length then 2 else if ¬ (1 ≤ s ∧ s ≤ 1099511627776) then 1 else if ∀ x ∈ L, 1 ≤ x ∧ x ≤ s then 0 else 4
theorem errP_ok {s : Int} {L : List Int} : errP s L = 0 ↔ okP s L := by
  unfold errP okP
  by_cases h2 : 100 < L.length
  · rw [if_pos h2]; constructor <;> intro h' <;> omega
  · rw [if_neg h2]
    by_cases h1 : 1 ≤ s ∧ s ≤ 1099511627776
    · rw [if_neg (by simpa using h1)]
      by_cases h3 : ∀ x ∈ L, 1 ≤ x ∧ x ≤ s
      · rw [if_pos h3]; exact ⟨fun _ => ⟨by omega, h1, h3⟩, fun _ => rfl⟩
      · rw [if_neg h3]; exact ⟨fun h' => by omega, fun h' => absurd h'.2.2 h3⟩
    · rw [if_pos h1]; constructor <;> intro h' <;> omega
theorem pcheck2_k (s : Int) (q : Option Addr) (c : Nat) (L : List Int) (h64 : (L.length : Int) ≤ 9223372036854775807) (w : World) (hL : Ints .i64 w q L) : FnP Try.prog F_pack_Check #[.slice q L.length c, .int .i64 s] w fun v w' => Ext w w' ∧ v = .int .i64 (errP s L) := by
  refine ok_pack_Check q L.length c s w _ ⟨fun h w0 h0 => ⟨h0, by unfold errP; rw [if_pos (by omega)]⟩, fun h1 => ⟨fun h w0 h0 => ⟨h0, by unfold errP; rw [if_neg (by omega), if_pos (by omega)]⟩, fun h2 => ?_⟩⟩
  refine ⟨fun k w' => w' = w ∧ 0 ≤ k ∧ k ≤ L.length ∧ ∀ j : Nat, (j : Int) < k → 1 ≤ dg L j ∧ dg L j ≤ s, fun k _ => (L.length - k).toNat, ⟨rfl, by omega, by omega, fun j hj => by omega⟩, ?_⟩
  rintro k w ⟨rfl, hk0, hk1, hall⟩
  refine ⟨fun hlt => ?_, fun hge w3 h3 => ⟨h3, ?_⟩⟩
  · have g := Ints.idx hL hk0 hlt
    refine ⟨fun hq => cell_p g (pIdx_none.2 hq), hk0, hlt, _, g, fun hbad w4 h4 => ⟨h4, ?_⟩, fun hgd => ⟨i64 (by omega), ⟨rfl, by omega, by omega, fun j hj => ?_⟩, by simp only []; omega⟩⟩
    · unfold errP
      rw [if_neg (by omega), if_neg (by omega), if_neg (fun h => ?_)]
      have := h _ (getD_mem L 0 (i := k.toNat) (by omega)); omega
    · by_cases hjk : (j : Int) < k
      · exact hall j hjk
      · obtain rfl : j = k.toNat := by omega
        exact hgd
  · congr 1; symm
    rw [errP_ok]
    refine ⟨by omega, h2, fun x hx => ?_⟩
    obtain ⟨j, hj, rfl⟩ := List.getElem_of_mem hx
    have := hall j (by omega)
    simpa [dg, List.getD_eq_getElem?_getD, hj] using this
structure FStep (s : Int) (L F on : List Int) (i : Nat) (F' on' : List Int) : Prop where
  ex : ∃ k, (∀ j, j < k → s < F.getD j 0 + dg L i) ∧ ((k < F.length ∧ F.getD k 0 + dg L i ≤ s ∧ F' = F.set k (F.getD k 0 + dg L i)) ∨ (k = F.length ∧ F' = F ++ [dg L i])) ∧ on' = on.set i k
inductive FF (s : Int) (L : List Int) : List Int → List Int → List Int → Prop
  | nil : FF s L [] [] (List.replicate L.length 0)
  | cons {row F on : List Int} {i : Nat} {F' on' : List Int} : FF s L row F on → i < L.length → FStep s L F on i F' on' → FF s L (row ++ [(i : Int)]) F' on'
theorem FF.len {s : Int} {L row F on : List Int} (h : FF s L row F on) : F.length ≤ row.length ∧ on.length = L.length := by
  induction h with
  | nil => simp
  | cons _ _ hs ih =>
    obtain ⟨k, _, h, rfl⟩ := hs.ex
    rcases h with ⟨_, _, rfl⟩ | ⟨_, rfl⟩ <;> simp <;> omega
theorem FF.ok {s : Int} {L : List Int} (hL : ∀ x ∈ L, 1 ≤ x ∧ x ≤ s) {row F on : List Int} (h : FF s L row F on) : ∀ x ∈ F, 1 ≤ x ∧ x ≤ s := by
  induction h with
  | nil => simp
  | @cons row F on i F' on' _ hi hs ih =>
    have hx := hL _ (getD_mem L 0 hi)
    obtain ⟨k, _, h, _⟩ := hs.ex
    rcases h with ⟨hk, hle, rfl⟩ | ⟨_, rfl⟩
    · intro x hx'
      rcases mem_set_cases hx' with h | rfl
      · exact ih x h
      · have := ih _ (getD_mem F 0 hk)
        unfold dg at hle ⊢
        omega
    · intro x hx'
      rcases List.mem_append.1 hx' with h | h
      · exact ih x h
      · simp at h; subst h; exact hx
theorem first_k (s : Int) (q : Option Addr) (c : Nat) (L : List Int) (hok : okP s L) (r : Option Addr) (rc : Nat) (R : List Int) (hR : ∀ x ∈ R, 0 ≤ x ∧ x < L.length) (hRl : R.length ≤ 100) (w : World) (hLm : Ints .i64 w q L) (hRm : Ints .i64 w r R) :
    FnP Try.prog F_pack_first #[.slice q L.length c, .int .i64 s, .slice r R.length rc] w fun v w' => Ext w w' ∧ ∃ p oc F on, v = .tuple #[.slice p L.length oc, .int .i64 F.length] ∧ Own w.heap.size w' T_int 1 p L.length oc (on.map (.int .i64)) ∧ FF s L R F on := by
  obtain ⟨hl, hs, hLb⟩ := hok
  refine ok_pack_first q L.length c s r R.length rc w _ fun w0 h0 => ?_
  refine mk_ints elem_sl_int (by omega) (by omega) (by omega) fun w1 o1 e1 => ⟨e1, _, _, _, rfl, ?_⟩
  have hx1 := h0.trans e1
  have o1 := o1 w.heap.size h0.size
  simp only [Int.toNat_natCast] at o1 ⊢
  generalize (some ⟨w0.heap.size, 0, none⟩ : Option Addr) = t2 at o1 ⊢
  refine ⟨fun f n d k w' => Ext w w' ∧ 0 ≤ k ∧ k ≤ R.length ∧ ∃ F on, Own w.heap.size w' T_int64 1 f n d (F.map (.int .i64)) ∧ Own w.heap.size w' T_int 1 t2 L.length L.length (on.map (.int .i64)) ∧ Apart t2 f ∧ FF s L (R.take k.toNat) F on, fun _ _ _ k _ => (R.length - k).toNat, ⟨hx1, by omega, by omega, [], _, Own.nil, o1, Apart.nil, .nil⟩, ?_⟩
  rintro f n d k w8 ⟨hx, hk0, hk1, F, on, oF, oN, hap, hP⟩
  have hFn := oF.leni
  have hFl := hP.len
  refine ⟨fun hlt => ?_, fun hge w9 h9 => ⟨hx.trans h9, t2, _, F, on, by rw [hFn], oN.ext h9, ?_⟩⟩
  · have gR := Ints.idx (hRm.ext hx) hk0 hlt
    have hxm := hR _ (getD_mem R 0 (i := k.toNat) (by omega))
    generalize hxv : R.getD k.toNat 0 = x at *
    have gL := Ints.idx (hLm.ext hx) hxm.1 hxm.2
    have hLx := hLb _ (getD_mem L 0 (i := x.toNat) (by omega))
    have hq : q ≠ none := fun hq => cell_p gL (pIdx_none.2 hq)
    have hok := hP.ok hLb
    have hFk : F.length ≤ 100 := by have := hFl.1; rw [List.length_take] at this; omega
    have htake : R.take (k + 1).toNat = R.take k.toNat ++ [((x.toNat : Nat) : Int)] := by
      rw [show (k + 1).toNat = k.toNat + 1 by omega, List.take_add_one, getElem?_getD R 0 (by omega), hxv, Int.toNat_of_nonneg hxm.1]; rfl
    have ht2 : t2 ≠ none := oN.ne1 (by omega) (by omega)
    refine ⟨fun hq => cell_p gR (pIdx_none.2 hq), hk0, hlt, x, gR, fun j w' => w' = w8 ∧ 0 ≤ j ∧ j ≤ n ∧ ∀ a : Nat, (a : Int) < j → s < F.getD a 0 + dg L x.toNat, fun j _ => (n - j).toNat, ⟨rfl, by omega, by omega, fun a ha => by omega⟩, ?_⟩
    rintro j w12 ⟨rfl, hj0, hj1, hno⟩
    refine ⟨fun h => oF.ne1 (by omega) (by omega), fun _ => hj0, fun h => h, fun hlt2 => ?_, fun hge => ⟨fun _ => ?_, fun h => by omega⟩⟩
    · have gF := oF.int_at hj0 (by omega)
      have hF1 := hok _ (getD_mem F 0 (i := j.toNat) (by omega))
      refine ⟨_, gF, hq, hxm.1, hxm.2, _, gL, i64 (by omega), fun hbig => ⟨i64 (by omega), ⟨rfl, by omega, by omega, fun a ha => ?_⟩, by simp only []; omega⟩, fun hfit => ⟨fun h => by omega, fun _ => ?_⟩⟩
      · by_cases haj : (a : Int) < j
        · exact hno a haj
        · obtain rfl : a = j.toNat := by omega
          exact hbig
      · have hf : f ≠ none := oF.ne1 (by omega) (by omega)
        refine ⟨hf, hj0, hlt2, _, gF, hq, hxm.1, hxm.2, _, gL, i64 (by omega), hf, hj0, hlt2, ?_⟩
        refine store_int oF hj0 (by omega) (by simp) fun w17 o17 g17 => ⟨ht2, hxm.1, hxm.2, ?_⟩
        refine store_int (oN.st hap g17) hxm.1 (by omega) (by simp) fun w18 o18 g18 => ⟨i64 (by omega), ⟨g18.ext (g17.ext hx oF) (oN.st hap g17), by omega, by omega, _, _, o17.st hap.symm g18, o18, hap, ?_⟩, by simp only []; omega⟩
        rw [htake]
        exact .cons hP (by omega) ⟨j.toNat, fun a ha => hno a (by omega), .inl ⟨by omega, hfit, rfl⟩, by rw [Int.toNat_of_nonneg hj0]⟩
    · obtain rfl : j = n := by omega
      refine push_int elem_sl_int64 oF hx.size (by omega) (by omega) fun p2 c2 w19 o19 g19 hp2 => ?_
      have hx19 := g19.ext hx oF
      have g0 := o19.int_at (i := (n : Int)) (by omega) (by simp; omega)
      have hap2 := hap.grew oN g19
      have gL2 := Ints.idx (hLm.ext hx19) hxm.1 hxm.2
      have hz : (F ++ [(0 : Int)]).getD ((n : Int).toNat) 0 = 0 := by
        rw [Int.toNat_natCast, ← hFn]; simp [List.getD_eq_getElem?_getD]
      rw [hz] at g0
      refine ⟨hp2, by omega, by omega, _, g0, hq, hxm.1, hxm.2, _, gL2, i64 (by omega), hp2, by omega, by omega, ?_⟩
      refine store_int o19 (by omega) (by simp; omega) (by simp) fun w27 o27 g27 => ⟨ht2, hxm.1, hxm.2, ?_⟩
      have oN27 := (oN.st hap g19).st hap2 g27
      refine store_int oN27 hxm.1 (by omega) (by simp) fun w28 o28 g28 => ⟨i64 (by omega), ⟨g28.ext (g27.ext hx19 o19) oN27, by omega, by omega, F ++ [dg L x.toNat], _, ?_, o28, hap2, ?_⟩, by simp only []; omega⟩
      · have := o27.st hap2.symm g28
        have e : (F ++ [(0 : Int)]).set (n : Int).toNat (0 + L.getD x.toNat 0) = F ++ [dg L x.toNat] := by
          rw [Int.toNat_natCast, ← hFn, List.set_append_right _ _ (Nat.le_refl _)]; simp [dg]
        rw [e] at this
        exact this
      · rw [htake]
        exact .cons hP (by omega) ⟨n, fun a ha => hno a (by omega), .inr ⟨hFn.symm, rfl⟩, rfl⟩
  · obtain rfl : k = R.length := by omega
    simpa using hP
end Go.Proofs.Ytblgmhmjafgdgaa
