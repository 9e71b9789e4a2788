/- The greatest ones first: at most half as many boxes more; the law PackDown. -/
import Derived.Test.YtmdnjnflmijofaaPLi
set_option linter.unusedVariables false
set_option linter.unusedSimpArgs false
namespace Go.Proofs.Ytmdnjnflmijofaa
open Go.Sx Go.RowKit

/-- What stands in the boxes from k on. -/
structure Tail (s : Int) (k : Nat) (F Z cnt : List Int) : Prop where
  len : k + cnt.length = F.length
  num : (Z.length : Int) = sumL cnt
  sum : sumL Z = sumL (F.drop k)
  out : ∀ z ∈ Z, 1 ≤ z ∧ ∀ j, j < k → s < F.getD j 0 + z
  each : ∀ t, t < cnt.length → 1 ≤ cnt.getD t 0 ∧ 2 * F.getD (k + t) 0 ≤ s * cnt.getD t 0 ∧ (t + 1 < cnt.length → 2 ≤ cnt.getD t 0)
inductive DInv (s : Int) (L : List Int) (k : Nat) (row F : List Int) : Prop
  | few : F.length ≤ k → DInv s L k row F
  | big : k + 1 ≤ (row.filter fun i => decide (s < 2 * dg L i.toNat)).length → DInv s L k row F
  | small (Z cnt : List Int) : (∃ y ∈ row, 2 * dg L y.toNat ≤ s) → Tail s k F Z cnt → DInv s L k row F

theorem sumL_split (F : List Int) (k : Nat) : sumL F = sumL (F.take k) + sumL (F.drop k) := by
  rw [← sumL_append, List.take_append_drop]

theorem getD_app_left (F : List Int) (x : Int) {j : Nat} (h : j < F.length) : (F ++ [x]).getD j 0 = F.getD j 0 := by
  simp [List.getD_eq_getElem?_getD, List.getElem?_append_left h]
theorem getD_app_last (F : List Int) (x : Int) : (F ++ [x]).getD F.length 0 = x := by simp [List.getD_eq_getElem?_getD]

theorem FF.down {s : Int} {L : List Int} (hL : ∀ x ∈ L, 1 ≤ x ∧ x ≤ s) (k : Nat) {row F on : List Int} (h : FF s L row F on) : row.Pairwise (fun a b => dg L b.toNat ≤ dg L a.toNat) → DInv s L k row F := by
  induction h with
  | nil => exact fun _ => .few (by simp)
  | @cons row F on i F' on' hr hi hs ih =>
    intro hpw
    rw [List.pairwise_append] at hpw
    obtain ⟨p1, _, p3⟩ := hpw
    have hle : ∀ y ∈ row, dg L i ≤ dg L y.toNat := fun y hy => by simpa using p3 y hy i (by simp)
    have hd := hL _ (getD_mem L 0 hi)
    have hd' : 1 ≤ dg L i ∧ dg L i ≤ s := hd
    obtain ⟨p, hp, h, rfl⟩ := hs.ex
    have hlen := hr.len.1
    rcases ih p1 with hfew | hbig | ⟨Z, cnt, ⟨y, hy, hys⟩, T⟩
    · rcases h with ⟨hpl, _, rfl⟩ | ⟨rfl, rfl⟩
      · exact .few (by simpa using hfew)
      · by_cases hk : F.length + 1 ≤ k
        · exact .few (by simpa using hk)
        · obtain rfl : k = F.length := by omega
          by_cases hx : s < 2 * dg L i
          · refine .big ?_
            have : (row ++ [(i : Int)]).filter (fun i => decide (s < 2 * dg L i.toNat)) = row ++ [(i : Int)] := by
              rw [List.filter_eq_self]
              intro a ha
              rcases List.mem_append.1 ha with h | h
              · have := hle a h; exact decide_eq_true (by omega)
              · obtain rfl : a = i := by simpa using h
                simpa using hx
            rw [this]; simp; omega
          · refine .small [dg L i] [1] ⟨i, by simp, by simpa using (by omega : 2 * dg L i ≤ s)⟩ ⟨by simp, by simp [sumL], by simp, fun z hz => ?_, fun t ht => ?_⟩
            · obtain rfl : z = dg L i := by simpa using hz
              exact ⟨hd'.1, fun j hj => by rw [getD_app_left F _ hj]; exact hp j hj⟩
            · obtain rfl : t = 0 := by simpa using ht
              rw [Nat.add_zero, getD_app_last]
              exact ⟨by simp, by simp only [List.getD_cons_zero, Int.mul_one]; omega, fun h => by simp at h⟩
    · refine .big ?_
      rw [List.filter_append, List.length_append]; omega
    · have hxs : 2 * dg L i ≤ s := by have := hle y hy; omega
      have hT1 := T.len
      rcases h with ⟨hpl, hfit, rfl⟩ | ⟨rfl, rfl⟩
      · have up : ∀ j, F.getD j 0 ≤ (F.set p (F.getD p 0 + dg L i)).getD j 0 := fun j => by
          rw [getD_set _ _ _ _ _ hpl]
          by_cases hj : j = p
          · rw [if_pos hj, hj]; omega
          · rw [if_neg hj]; omega
        by_cases hpk : p < k
        · refine .small Z cnt ⟨y, by simp [hy], hys⟩ ⟨by simpa using hT1, T.num, by rw [T.sum, List.drop_set_of_lt hpk], fun z hz => ⟨(T.out z hz).1, fun j hj => by have := (T.out z hz).2 j hj; have := up j; omega⟩, fun t ht => ?_⟩
          rw [getD_set _ _ _ _ _ hpl, if_neg (by omega)]
          exact T.each t ht
        · have hpc : p - k < cnt.length := by omega
          refine .small (dg L i :: Z) (cnt.set (p - k) (cnt.getD (p - k) 0 + 1)) ⟨y, by simp [hy], hys⟩ ⟨by simpa using hT1, ?_, ?_, fun z hz => ?_, fun t ht => ?_⟩
          · rw [sumL_set hpc]; have := T.num; simp only [List.length_cons]; omega
          · have h1 := sumL_split F k
            have h2 := sumL_split (F.set p (F.getD p 0 + dg L i)) k
            rw [sumL_set hpl, List.take_set_of_le (by omega)] at h2
            have := T.sum
            simp only [sumL]; omega
          · rcases List.mem_cons.1 hz with rfl | hz
            · exact ⟨hd'.1, fun j hj => by have := hp j (by omega); have := up j; omega⟩
            · exact ⟨(T.out z hz).1, fun j hj => by have := (T.out z hz).2 j hj; have := up j; omega⟩
          · rw [List.length_set] at ht ⊢
            obtain ⟨t1, t2, t3⟩ := T.each t ht
            rw [getD_set _ _ _ _ _ hpc, getD_set _ _ _ _ _ hpl]
            by_cases htp : t = p - k
            · rw [if_pos htp, if_pos (by omega), show p - k = t from htp.symm, show p = k + t by omega, Int.mul_add s, Int.mul_one]
              exact ⟨by omega, by omega, fun h => by have := t3 h; omega⟩
            · rw [if_neg htp, if_neg (by omega)]
              exact ⟨t1, t2, t3⟩
      · refine .small (dg L i :: Z) (cnt ++ [1]) ⟨y, by simp [hy], hys⟩ ⟨by simp; omega, ?_, ?_, fun z hz => ?_, fun t ht => ?_⟩
        · rw [sumL_append]; have := T.num; simp [sumL]; omega
        · rw [List.drop_append_of_le_length (by omega), sumL_append]; have := T.sum; simp [sumL]; omega
        · rcases List.mem_cons.1 hz with rfl | hz
          · exact ⟨hd'.1, fun j hj => by rw [getD_app_left F _ (by omega)]; exact hp j (by omega)⟩
          · exact ⟨(T.out z hz).1, fun j hj => by rw [getD_app_left F _ (by omega)]; exact (T.out z hz).2 j hj⟩
        · simp only [List.length_append, List.length_cons, List.length_nil] at ht ⊢
          by_cases htl : t < cnt.length
          · obtain ⟨t1, t2, t3⟩ := T.each t htl
            rw [getD_app_left cnt _ htl, getD_app_left F _ (by omega)]
            refine ⟨t1, t2, fun _ => ?_⟩
            have h1 := hp (k + t) (by omega)
            refine Classical.byContradiction fun hno => ?_
            have h2 : cnt.getD t 0 = 1 := by omega
            rw [h2] at t2; omega
          · obtain rfl : t = cnt.length := by omega
            rw [getD_app_last, hT1, getD_app_last]
            exact ⟨by omega, by omega, fun h => by omega⟩

/-- At most one great thing in a box. -/
def bigN (s : Int) (X : List Int) : Nat := (X.filter fun x => decide (s < 2 * x)).length
theorem bigN_cons (s x : Int) (X : List Int) : bigN s (x :: X) = (if s < 2 * x then 1 else 0) + bigN s X := by
  unfold bigN
  by_cases h : s < 2 * x
  · rw [List.filter_cons_of_pos (by simpa using h), if_pos h]; simp; omega
  · rw [List.filter_cons_of_neg (by simpa using h), if_neg h]; omega
theorem bigN_set (s : Int) (v : Int) : ∀ (F : List Int) (k : Nat), k < F.length → bigN s (F.set k v) + (if s < 2 * F.getD k 0 then 1 else 0) = bigN s F + if s < 2 * v then 1 else 0
  | [], k, h => by simp at h
  | a :: F, 0, _ => by simp only [List.set_cons_zero, bigN_cons, List.getD_cons_zero]; omega
  | a :: F, k + 1, h => by
    have := bigN_set s v F k (by simpa using h)
    simp only [List.set_cons_succ, bigN_cons, List.getD_cons_succ]; omega
theorem bigN_append (s : Int) (X Y : List Int) : bigN s (X ++ Y) = bigN s X + bigN s Y := by simp [bigN]
theorem Fill.bigs {s : Int} {L F : List Int} {n : Nat} (h : Fill s L F n) (hF : ∀ x ∈ F, 0 ≤ x) (hL : ∀ x ∈ L, 0 ≤ x) : bigN s L + bigN s F ≤ n := by
  induction h with
  | nil => unfold bigN; simp; exact List.length_filter_le _ _
  | @put x L F n k hk hs _ ih =>
    have hx := hL x (by simp)
    have hfk := hF _ (getD_mem F 0 hk)
    have := ih (fun y hy => by
      rcases mem_set_cases hy with h | rfl
      · exact hF y h
      · omega) (fun y hy => hL y (by simp [hy]))
    have hb := bigN_set s (F.getD k 0 + x) F k hk
    rw [bigN_cons]
    by_cases h1 : s < 2 * x
    · rw [if_pos h1]
      rw [if_neg (by omega), if_pos (by omega)] at hb
      omega
    · rw [if_neg h1]
      by_cases h2 : s < 2 * F.getD k 0
      · rw [if_pos h2, if_pos (by omega)] at hb; omega
      · rw [if_neg h2] at hb; omega
  | @new x L F n _ ih =>
    have := ih (fun y hy => by
      rcases List.mem_append.1 hy with h | h
      · exact hF y h
      · simp at h; subst h; exact hL y (by simp)) (fun y hy => hL y (by simp [hy]))
    rw [bigN_append] at this
    rw [bigN_cons]
    have e : bigN s [x] = (if s < 2 * x then 1 else 0) := by rw [bigN_cons]; simp [bigN]
    omega

theorem take_out {s : Int} : ∀ (k : Nat) (F Z : List Int), k ≤ F.length → k ≤ Z.length → (∀ z ∈ Z, 1 ≤ z ∧ ∀ j, j < k → s < F.getD j 0 + z) → k * (s + 1) ≤ sumL (F.take k) + sumL Z
  | 0, F, Z, _, _, h => by
    have := sumL_ge (X := Z) (v := 0) fun z hz => by have := (h z hz).1; omega
    simp [sumL]; omega
  | k + 1, F, Z, hF, hZ, h => by
    cases F with
    | nil => simp at hF
    | cons a F =>
      cases Z with
      | nil => simp at hZ
      | cons z Z =>
        have h1 := (h z (by simp)).2 0 (by omega)
        have := take_out k F Z (by simpa using hF) (by simpa using hZ) fun y hy => ⟨(h y (by simp [hy])).1, fun j hj => by simpa using (h y (by simp [hy])).2 (j + 1) (by omega)⟩
        simp only [List.getD_cons_zero] at h1
        simp only [List.take_succ_cons, sumL, Int.natCast_add, Int.add_mul]
        simp only [Int.mul_add] at this ⊢
        omega

theorem down_bound {s : Int} {L row F on : List Int} (hs : 1 ≤ s) (hL : ∀ x ∈ L, 1 ≤ x ∧ x ≤ s) (hp : row.Perm (nums L.length)) (hf : Falls (fun x => dg L x.toNat) row 0 L.length) (h : FF s L row F on) {k : Nat} (hk : Fill s L [] k) : 2 * F.length ≤ 3 * k := by
  refine Classical.byContradiction fun hno => ?_
  have hrl : row.length = L.length := by rw [hp.length_eq, nums_len]
  have hpw : row.Pairwise (fun a b => dg L b.toNat ≤ dg L a.toNat) := by
    rw [List.pairwise_iff_getElem]
    intro i j hi hj hij
    have := hf i j (by omega) hij (by omega)
    simpa [List.getD_eq_getElem?_getD, hi, hj] using this
  have hsum := hk.sum (by simp) fun x hx => (hL x hx).2
  have hok := h.ok hL
  rw [← rowsum hp, ← hok.2.1] at hsum
  simp only [sumL, Int.zero_add] at hsum
  rcases h.down hL k hpw with hfew | hbig | ⟨Z, cnt, _, T⟩
  · omega
  · have hb := hk.bigs (by simp) fun x hx => by have := hL x hx; omega
    have e : (row.filter fun i => decide (s < 2 * dg L i.toNat)).length = bigN s L := by
      rw [(hp.filter _).length_eq]
      have : ∀ n, n ≤ L.length → ((nums n).filter fun i => decide (s < 2 * dg L i.toNat)).length = bigN s (L.take n) := by
        intro n
        induction n with
        | zero => intro _; rfl
        | succ n ih =>
          intro hn
          rw [nums_succ, List.filter_append, List.length_append, ih (by omega), List.take_add_one, bigN_append, getElem?_getD L 0 (by omega)]
          congr 1
          rw [show (some (L.getD n 0)).toList = [L.getD n 0] from rfl, bigN_cons]
          by_cases hb : s < 2 * L.getD n 0
          · rw [if_pos hb, List.filter_cons_of_pos (by exact decide_eq_true hb)]; rfl
          · rw [if_neg hb, List.filter_cons_of_neg (by simpa [dg] using hb)]; rfl
      rw [this _ (Nat.le_refl _), List.take_of_length_le (Nat.le_refl _)]
    rw [e] at hbig
    omega
  · have hT1 := T.len
    have hcnt : 2 * (cnt.length : Int) - 1 ≤ sumL cnt := by
      have : ∀ c : List Int, (∀ t, t < c.length → 1 ≤ c.getD t 0 ∧ (t + 1 < c.length → 2 ≤ c.getD t 0)) → 2 * (c.length : Int) - 1 ≤ sumL c := by
        intro c
        induction c with
        | nil => intro _; simp [sumL]
        | cons a c ih =>
          intro hc
          have h0 := hc 0 (by simp)
          have := ih fun t ht => by simpa using hc (t + 1) (by simpa using ht)
          simp only [List.getD_cons_zero, List.length_cons, sumL] at h0 this ⊢
          by_cases hcl : c.length = 0
          · have : c = [] := List.eq_nil_of_length_eq_zero hcl
            subst this; simp [sumL]; omega
          · have := h0.2 (by omega); omega
      exact this cnt fun t ht => ⟨(T.each t ht).1, (T.each t ht).2.2⟩
    have hn := T.num
    have ht := take_out k F Z (by omega) (by omega) T.out
    have hsp := sumL_split F k
    rw [← T.sum] at hsp
    rw [Int.mul_add] at ht
    have hk0 : k = 0 := by omega
    subst hk0
    have := sumL_ge (X := F) (v := 1) fun x hx => (hok.1 x hx).1
    simp at hsum
    omega
/-- A way to put things into boxes, box by box as they are begun. -/
theorem Fill.of_boxes {s : Int} {L I : List Int} (hI : I.length = L.length) (N : Nat) (hr : ∀ x ∈ I, 0 ≤ x ∧ x < N) (hin : ∀ b : Nat, b < N → ∃ j, j < I.length ∧ I.getD j 0 = b) (hp : ∀ b : Nat, b < N → partOf L I L.length b ≤ s) (h0 : ∀ k, k < L.length → 0 ≤ dg L k) : Fill s L [] N := by
  have key : ∀ (d i : Nat), i + d = L.length → ∀ K F : List Int, K.Nodup → F.length = K.length → (∀ j, j < K.length → F.getD j 0 = partOf L I i (K.getD j 0)) → (∀ b, b ∈ K ↔ ∃ j, j < i ∧ I.getD j 0 = b) → Fill s (L.drop i) F N := by
    intro d
    induction d with
    | zero =>
      intro i hi K F hK hFK _ hmem
      obtain rfl : i = L.length := by omega
      have : K.length = N := by
        rw [len_of_same hK (nums_nodup N) fun a => ?_, nums_len]
        rw [hmem]
        constructor
        · rintro ⟨j, hj, rfl⟩
          have := hr _ (getD_mem I 0 (i := j) (by omega))
          simp only [nums, List.mem_map, List.mem_range]
          exact ⟨(I.getD j 0).toNat, by omega, Int.toNat_of_nonneg this.1⟩
        · intro ha
          have := nums_mem ha
          obtain ⟨j, hj, he⟩ := hin a.toNat (by omega)
          rw [Int.toNat_of_nonneg this.1] at he
          exact ⟨j, by omega, he⟩
      rw [List.drop_of_length_le (Nat.le_refl _), ← this, ← hFK]
      exact .nil
    | succ d ih =>
      intro i hi K F hK hFK hF hmem
      have hil : i < L.length := by omega
      have hdrop : L.drop i = L.getD i 0 :: L.drop (i + 1) := by
        rw [List.drop_eq_getElem_cons hil]; simp [List.getD_eq_getElem?_getD, hil]
      have hb := hr _ (getD_mem I 0 (i := i) (by omega))
      have hnext : ∀ c, partOf L I (i + 1) c = partOf L I i c + if I.getD i 0 = c then dg L i else 0 := fun c => rfl
      rw [hdrop]
      have hmem' : ∀ b, (∃ j, j < i + 1 ∧ I.getD j 0 = b) ↔ (∃ j, j < i ∧ I.getD j 0 = b) ∨ b = I.getD i 0 := fun b => by
        constructor
        · rintro ⟨j, hj, he⟩
          by_cases hji : j = i
          · subst hji; exact .inr he.symm
          · exact .inl ⟨j, by omega, he⟩
        · rintro (⟨j, hj, he⟩ | rfl)
          · exact ⟨j, by omega, he⟩
          · exact ⟨i, by omega, rfl⟩
      by_cases hk : I.getD i 0 ∈ K
      · obtain ⟨t, ht, hte⟩ := List.getElem_of_mem hk
        have hte' : K.getD t 0 = I.getD i 0 := by simpa [List.getD_eq_getElem?_getD, ht] using hte
        have hFt := hF t ht
        rw [hte'] at hFt
        have hle : F.getD t 0 + L.getD i 0 ≤ s := by
          have h1 := partOf_mono (L := L) (I := I) (I.getD i 0) (show i + 1 ≤ L.length by omega) h0
          have h2 := hp (I.getD i 0).toNat (by omega)
          rw [Int.toNat_of_nonneg hb.1] at h2
          rw [hnext, if_pos rfl] at h1
          simp only [dg] at h1; omega
        refine .put (by omega) hle (ih (i + 1) (by omega) K _ hK (by simpa using hFK) (fun j hj => ?_) fun b => ?_)
        · rw [getD_set _ _ _ _ _ (by omega), hnext]
          by_cases hjt : j = t
          · subst hjt; rw [if_pos rfl, hte', if_pos rfl, hFt]
          · rw [if_neg hjt, if_neg, hF j hj]
            · omega
            · intro he
              refine hjt ?_
              have h1 : K[j] = K[t] := by
                rw [hte, he]; simp [List.getD_eq_getElem?_getD, hj]
              have hpw := List.pairwise_iff_getElem.1 hK
              rcases Nat.lt_trichotomy j t with h | h | h
              · exact absurd h1 (hpw j t hj ht h)
              · exact h
              · exact absurd h1.symm (hpw t j ht hj h)
        · rw [hmem', hmem]
          constructor
          · exact fun h => .inl h
          · rintro (h | rfl)
            · exact h
            · exact (hmem _).1 hk
      · have hz : partOf L I i (I.getD i 0) = 0 := partOf_zero fun j hj he => hk ((hmem _).2 ⟨j, hj, he⟩)
        refine .new (ih (i + 1) (by omega) (K ++ [I.getD i 0]) _ ?_ (by simp [hFK]) (fun j hj => ?_) fun b => ?_)
        · rw [List.nodup_append]
          exact ⟨hK, by simp, fun a ha b hb he => by simp at hb; subst hb; subst he; exact hk (by simpa using ha)⟩
        · simp only [List.length_append, List.length_cons, List.length_nil] at hj
          rw [hnext]
          by_cases hjK : j < K.length
          · rw [getD_app_left F _ (by omega), getD_app_left K _ hjK, if_neg, hF j hjK]
            · omega
            · intro he; exact hk (he ▸ getD_mem K 0 hjK)
          · obtain rfl : j = K.length := by omega
            rw [getD_app_last, ← hFK, getD_app_last, hz, if_pos rfl]; simp [dg]
        · rw [hmem', ← hmem]; simp
  simpa using key L.length 0 (by omega) [] [] (by simp) rfl (fun j hj => by simp at hj) (fun b => by simp)

theorem Least2_k (s : Int) (q : Option Addr) (c : Nat) (L : List Int) (hc : L.length ≤ c) (h64 : (L.length : Int) ≤ 9223372036854775807) (w : World) (hL : Ints .i64 w q L) : FnP Try.prog F_pack_Least #[.slice q L.length c, .int .i64 s] w fun v w' => Ext w w' ∧ ∃ t e, v = .tuple #[.int .i64 t, .int .i64 e] ∧ (¬ okP s L → e = errP s L) ∧ (okP s L → 9 < L.length → e = 2) ∧ (okP s L → L.length ≤ 9 → e = 0 ∧ Bst s L [] (L.length + 1) t) := by
  refine ok_pack_Least q L.length c s w _ fun w0 h0 => ?_
  refine (pcheck2_k s q c L h64 w0 (hL.ext h0)).mono fun v w1 ⟨e1, hv⟩ => ⟨e1, _, hv, fun hne w3 h3 => ⟨h3, 0, _, rfl, fun _ => rfl, fun h => absurd (errP_ok.2 h) hne, fun h => absurd (errP_ok.2 h) hne⟩, fun h => ⟨fun h9 w3 h3 => ⟨h3, 0, 2, rfl, fun hno => absurd (errP_ok.1 h) hno, fun _ _ => rfl, fun _ _ => by omega⟩, fun h9 => ⟨i64 (by omega), fun w3 h3 => ?_⟩⟩⟩
  have hok := errP_ok.1 h
  refine (least_k s hok.2.1 L hok.2.2 q c hc w w3 h3 hL none 0 0 [] _ (by omega) (by simp) Own.nil).mono fun v w4 ⟨e4, t, hv, hB⟩ => ⟨e4, t, hv, fun w6 h6 => ⟨h6, t, 0, rfl, fun hno => absurd hok hno, fun _ _ => by omega, fun _ _ => ⟨rfl, hB⟩⟩⟩

theorem core_PackDown (W : World) : ∀ l : Option Addr, ∀ ll : Nat, ∀ lc : Nat, SlcArg Try.prog W T_int64 l ll lc → ∀ size : Int, InR .i64 size →
    FnP Try.prog F_shiftbellkeep_PackDown #[.slice l ll lc, .int .i64 size] W fun v W' => v = .bool true ∧ Ext W W' := by
  intro q ll lc hl s hsr
  obtain ⟨L, rfl, _, hL⟩ := hl.ints (k := .i64) (by kernel_rfl) (by kernel_rfl)
  have h64 : (L.length : Int) ≤ 9223372036854775807 := by have := hl.le; have := hl.max; omega
  refine ok_shiftbellkeep_PackDown q L.length lc s W _ fun w0 h0 => ?_
  refine (packs_k w0).mono fun v w1 ⟨e1, hv⟩ => ⟨e1, true, hv, fun h => by simp at h, fun _ w3 h3 => ?_⟩
  refine (Down_k s q lc L h64 w3 (hL.ext h3)).mono fun v w4 ⟨e4, p, n, oc, t, hv, hb1, hg1⟩ => ⟨e4, p, n, oc, t, _, hv, fun w10 h10 => ?_⟩
  have hx4 := h3.trans e4
  have hx10 := hx4.trans h10
  refine (Least2_k s q lc L hl.le h64 w10 (hL.ext hx10)).mono fun v w11 ⟨e11, k, e, hv, hn1, hn2, hn3⟩ => ⟨e11, k, e, hv, fun w14 h14 => ?_⟩
  refine run_lit elem_sl_Errno [.int .i64 (errP s L), .int .i64 e] rfl rfl (by intro v hv; simp at hv; rcases hv with rfl | rfl <;> rfl) (by omega) (by omega) fun w15 o15 e15 => ⟨e15, _, _, _, rfl, fun w19 h19 => ?_⟩
  have oG := (o15 0 (Nat.zero_le _)).ext h19
  have hx15 := (hx4.trans h14).trans e15
  refine (good_k (some ⟨w14.heap.size, 0, none⟩) 2 2 [errP s L, e] rfl (by omega) w19 oG.cells).mono fun v w20 ⟨e20, hv⟩ => ⟨e20, _, hv, fun hbad => ?_, fun hgd => ?_⟩
  · intro w22 h22
    refine ⟨b_true ?_, hx15.trans h22⟩
    by_cases hok : okP s L
    · have h0 := errP_ok.2 hok
      by_cases h9 : 9 < L.length
      · have he := hn2 hok h9
        simp [he]; omega
      · have he := (hn3 hok (by omega)).1
        rw [h0, he] at hbad
        simp at hbad
    · have h0 : errP s L ≠ 0 := fun h => hok (errP_ok.1 h)
      simp [h0, (hb1 hok).2]
  · rw [decide_eq_true_iff] at hgd
    have hok : okP s L := errP_ok.1 (hgd (errP s L) (by simp))
    have he : e = 0 := hgd e (by simp)
    have h9 : L.length ≤ 9 := by
      refine Classical.byContradiction fun h => ?_
      have := hn2 hok (by omega); omega
    obtain ⟨_, hB⟩ := hn3 hok h9
    obtain ⟨rfl, row, F, on, rfl, hp, hfl, oN, hP⟩ := hg1 hok
    have hok' := hok
    obtain ⟨hl100, hs, hLb⟩ := hok'
    obtain ⟨c1, c2, c3⟩ := hP.boxes hLb hp
    have hF := hP.ok hLb
    have l1 := hP.len
    have hfill := Fill.of_boxes (s := s) (L := L) (I := on) l1.2 F.length c1 c3 (fun b hb => by rw [c2 b hb]; exact (hF.1 _ (getD_mem F 0 hb)).2) (fun k hk => by have := hLb _ (getD_mem L 0 hk); simp only [dg]; omega)
    have h1 := hB.all _ hfill
    have hr := l1.1
    rw [hp.length_eq, nums_len] at hr
    obtain ⟨m, rfl, hm⟩ : ∃ m : Nat, k = m ∧ Fill s L [] m := by
      rcases hB.is with h | h
      · omega
      · exact h
    have h2 := down_bound hs.1 hLb hp (hfl (by omega)) hP hm
    refine ⟨fun _ => i64 (by omega), fun _ => i64 (by omega), fun w22 h22 => ⟨b_true ?_, hx15.trans h22⟩⟩
    rw [Bool.and_eq_true, decide_eq_true_iff, decide_eq_true_iff]
    omega
end Go.Proofs.Ytmdnjnflmijofaa
