/- Package book: Gaps, Find, Put; the law BookGaps. -/
import Derived.Test.YtlgcnfmifkbefaaBkB
set_option linter.unusedVariables false
set_option linter.unusedSimpArgs false
namespace Go.Proofs.Ytlgcnfmifkbefaa
open Go.Sx Go.RowKit

theorem Gaps_k (size : Int) (p : Option Addr) (c : Nat) (L : List Sl) (h63 : (L.length : Int) ≤ 9223372036854775807) (n : Int) (w : World) (hL : SlsAt w p L) :
    FnP Try.prog F_book_Gaps #[.int .i64 size, .slice p L.length c, .int .i64 n] w fun v w' => Ext w w' ∧ ∃ q m d e, v = .tuple #[.slice q m d, .int .i64 e] ∧
      ((e ≠ 0 ∧ m = 0 ∧ ¬ (okB size L ∧ 1 ≤ n ∧ n ≤ size)) ∨ (e = 0 ∧ okB size L ∧ 1 ≤ n ∧ n ≤ size ∧ m = (gapsF size n L).length ∧ SlsAt w' q (gapsF size n L))) := by
  refine ok_book_Gaps size p L.length c n w _ fun w0 h0 => ?_
  refine (Check_k size p c L h63 w0 (hL.ext h0)).mono fun v w1 ⟨e1, e, hv, he, _⟩ => ⟨e1, e, hv, fun hne w3 h3 => ⟨h3, _, _, _, _, rfl, .inl ⟨hne, rfl, fun h => hne (he.2 h.1)⟩⟩, fun h0' => ⟨fun hr w3 h3 => ⟨h3, _, _, _, _, rfl, .inl ⟨by omega, rfl, fun h => by omega⟩⟩, fun hn w3 h3 => ?_⟩⟩
  have hok := he.1 h0'
  exact (gaps_k size p c L hok n hn w3 (hL.ext h3)).mono fun v w4 ⟨e4, q, d, hv, hG⟩ => ⟨e4, _, _, _, hv, fun w8 h8 => ⟨(h3.trans e4).trans h8, _, _, _, _, rfl, .inr ⟨rfl, hok, hn.1, hn.2, rfl, hG.ext h8⟩⟩⟩

theorem gapsF_nil : gapsF 5 1 [] = [⟨0, 1000000, 5⟩] := by
  have hv : Vs 5 [] := fun s hs => by cases hs
  have ht : times [] = [0, 1000000] := rising_ext (times_sorted []) (by simp) fun x => by rw [times_mem, mem_ends]; simp
  unfold gapsF
  rw [ht]
  show gapsK 5 1 [] 1 = _
  rw [gapsK, gapsK]
  simp only [tm', ht]
  rfl
theorem books_k (w : World) : FnP Try.prog F_shiftbellkeep_books #[] w fun v w' => Ext w w' ∧ v = .bool true := by
  refine ok_shiftbellkeep_books w _ fun w0 h0 => ?_
  refine (Gaps_k 5 none 0 [] (by simp) 1 w0 (fun i x hx => by simp at hx)).mono fun v w1 ⟨e1, q, m, d, e, hv, hr⟩ => ⟨e1, q, m, d, e, hv, ?_⟩
  have hok : okB 5 [] := okB_of (by omega) (by simp) (fun s hs => by cases hs) fun t _ _ => by simp [load]
  rcases hr with ⟨_, _, h⟩ | ⟨rfl, _, _, _, rfl, hG⟩
  · exact absurd ⟨hok, by omega, by omega⟩ h
  · rw [gapsF_nil] at hG ⊢
    obtain ⟨a1, a2, g0, g1, g2⟩ := slot_at hG (k := 0) (by omega) (by simp)
    refine ⟨fun _ => a1, fun _ => by omega, fun _ => by simp, fun _ => a2, fun _ => ⟨_, by rw [cell_pAdd]; exact g1, fun w7 h7 => ⟨(h0.trans e1).trans h7, rfl⟩⟩, fun h => by simp at h⟩

theorem slots_arg {W : World} {p : Option Addr} {l c : Nat} (h : SlcArg Try.prog W T_Slot p l c) : ∃ L : List Sl, L.length = l ∧ (L.length : Int) ≤ 9223372036854775807 ∧ (∀ s ∈ L, InR .i64 s.f ∧ InR .i64 s.t ∧ InR .i64 s.n) ∧ SlsAt W p L := by
  obtain ⟨L, h1, h2, h3⟩ := h.list (α := Sl) encS (fun s => InR .i64 s.f ∧ InR .i64 s.t ∧ InR .i64 s.n) (fun n es hg he => by
    have hlv := leaves_ok (P := Try.prog) 6 T_Slot [T_int, T_int, T_int64] n es (by kernel_rfl) hg
    obtain ⟨v0, r0, rfl, l0, hlv⟩ := lvs_cons hlv
    obtain ⟨v1, r1, rfl, l1, hlv⟩ := lvs_cons hlv
    obtain ⟨v2, r2, rfl, l2, hlv⟩ := lvs_cons hlv
    obtain rfl := lvs_nil hlv
    obtain ⟨a, rfl, ha⟩ := leaf_int (k := .i64) (by kernel_rfl) l0
    obtain ⟨b, rfl, hb⟩ := leaf_int (k := .i64) (by kernel_rfl) l1
    obtain ⟨d, rfl, hd⟩ := leaf_int (k := .i64) (by kernel_rfl) l2
    exact ⟨⟨a, b, d⟩, rfl, ha, hb, hd⟩)
  rw [show Try.prog.cellsOf T_Slot = 3 by kernel_rfl] at h3
  have := h.le
  have := h.max
  exact ⟨L, h1, by omega, h2, h3⟩

theorem most_one {L : List Sl} {t m : Int} (h : isMost L t (t + 1) m) : m = load L t := by
  obtain ⟨_, u, h1, h2, h3⟩ := h
  obtain rfl : u = t := by omega
  exact h3.symm

theorem core_BookGaps (W : World) : ∀ size : Int, InR .i64 size → ∀ l : Option Addr, ∀ ll : Nat, ∀ lc : Nat, SlcArg Try.prog W T_Slot l ll lc → ∀ n : Int, InR .i64 n → ∀ t : Int, InR .i64 t →
    FnP Try.prog F_shiftbellkeep_BookGaps #[.int .i64 size, .slice l ll lc, .int .i64 n, .int .i64 t] W fun v W' => v = .bool true ∧ Ext W W' := by
  intro size _ p ll c hl n _ t _
  obtain ⟨L, rfl, h63, _, hL⟩ := slots_arg hl
  refine ok_shiftbellkeep_BookGaps size p L.length c n t W _ fun w0 h0 => ?_
  refine (books_k w0).mono fun v w1 ⟨e1, hv⟩ => ⟨e1, true, hv, fun h => by (cases h), fun _ w3 h3 => ?_⟩
  refine (Gaps_k size p c L h63 n w3 (hL.ext h3)).mono fun v w4 ⟨e4, q, m, d, e, hv, hr⟩ => ⟨e4, q, m, d, e, hv, fun hne w9 h9 => ⟨?_, (h3.trans e4).trans h9⟩, fun he => ?_⟩
  · rcases hr with ⟨_, rfl, _⟩ | ⟨h, _⟩
    · simp
    · exact absurd h hne
  obtain ⟨hok, hn1, hn2, rfl, hG⟩ : okB size L ∧ 1 ≤ n ∧ n ≤ size ∧ m = (gapsF size n L).length ∧ SlsAt w4 q (gapsF size n L) := by
    rcases hr with ⟨h, _⟩ | ⟨_, h⟩
    · exact absurd he h
    · exact h
  have x4 := h3.trans e4
  have hGI := gaps_all (n := n) hok.2.2.1
  have hsz := hok.1
  have hgl : (gapsF size n L).length ≤ 300 := by
    have h1 := gapsK_len size n L ((times L).length - 1)
    have h2 := times_len L
    have h3 := hok.2.1
    unfold gapsF; omega
  generalize hgs : gapsF size n L = G at hG hGI hgl
  refine ⟨fun b k w' => w' = w4 ∧ 0 ≤ k ∧ k ≤ G.length ∧ (b = true ↔ ∃ i : Nat, (i : Int) < k ∧ (G.getD i default).f ≤ t ∧ t < (G.getD i default).t), fun _ k _ => (G.length - k).toNat, ⟨rfl, by omega, by omega, by simp; intro i hi; omega⟩, ?_⟩
  rintro b k w12 ⟨rfl, hk0, hk1, hb⟩
  refine ⟨fun hlt => ?_, fun hge w13 h13 => ?_⟩
  · obtain ⟨hq, hq3, g0, g1, g2⟩ := slot_at hG hk0 hlt
    have hgm := getD_mem G default (i := k.toNat) (by omega)
    have hg := hGI.each _ hgm
    have step : ∀ k' : Int, k' = k + 1 → ((b || (decide ((G.getD k.toNat default).f ≤ t) && decide (t < (G.getD k.toNat default).t))) = true ↔ ∃ i : Nat, (i : Int) < k' ∧ (G.getD i default).f ≤ t ∧ t < (G.getD i default).t) := fun k' hk' => by
      subst hk'
      rw [Bool.or_eq_true, hb, Bool.and_eq_true, decide_eq_true_iff, decide_eq_true_iff]
      constructor
      · rintro (⟨i, hi, h⟩ | h)
        · exact ⟨i, by omega, h⟩
        · exact ⟨k.toNat, by omega, h⟩
      · rintro ⟨i, hi, h⟩
        by_cases hik : (i : Int) < k
        · exact .inl ⟨i, hik, h⟩
        · obtain rfl : i = k.toNat := by omega
          exact .inr h
    have prev : 0 < k → Go.Sx.cell w12 (pIdx q (k - 1) 3) 1 = some (.int .i64 (G.getD (k - 1).toNat default).t) ∧ pIdx q (k - 1) 3 ≠ none ∧ (G.getD (k - 1).toNat default).t < (G.getD k.toNat default).f := fun hk => by
      obtain ⟨_, b3, _, f1, _⟩ := slot_at hG (k := k - 1) (by omega) (by omega)
      refine ⟨f1, b3, ?_⟩
      have := (List.pairwise_iff_getElem.1 hGI.apart) (k - 1).toNat k.toNat (by omega) (by omega) (by omega)
      simpa [List.getD_eq_getElem?_getD, show k.toNat - 1 < G.length by omega, show (k - 1).toNat < G.length by omega, show k.toNat < G.length by omega] using this
    generalize hgd : G.getD k.toNat default = g at g0 g1 g2 hg step prev
    obtain ⟨a1, a2, a3, a4, a5⟩ := hg
    have most : ∀ w18, Ext w12 w18 → FnP Try.prog F_book_Most #[.int .i64 size, .slice p L.length c, .int .i64 g.f, .int .i64 g.t] w18 fun v19 w19 => Ext w18 w19 ∧ ∃ t20 : Int, ∃ t21 : Int, v19 = .tuple #[.int .i64 t20, .int .i64 t21] ∧ t21 = 0 ∧ t20 = size - g.n := fun w18 h18 =>
      (Most_k size p c L h63 g.f g.t w18 (hL.ext (x4.trans h18))).mono fun v w19 ⟨e19, mm, f, hv, hm⟩ => ⟨e19, mm, f, hv, by
        rcases hm with ⟨_, _, h⟩ | ⟨h1, _, _, _, _, h2⟩
        · exact absurd ⟨hok, a1, a2, a3⟩ h
        · exact ⟨h1, isMost_eq h2 a5⟩⟩
    refine ⟨hq, hk0, hlt, hq3, _, g0, _, g1, _, g2, fun b16 _ => ⟨fun _ _ => i64 (by omega), fun _ _ => hq, fun _ _ => by omega, fun _ _ => by omega, fun _ hk => (prev hk).2.1, fun hbad => by omega, fun _ => ⟨fun hk => ?_, fun hk w17 h17 => ?_⟩⟩⟩
    · obtain ⟨f1, _, hlt'⟩ := prev hk
      refine ⟨_, by rw [cell_pAdd]; exact f1, fun hbad => by omega, fun _ w18 h18 => (most w18 h18).mono fun v w19 ⟨e19, mm, f, hv, hf, hmm⟩ => ⟨e19, mm, f, hv, fun _ => i64 (by omega), fun hbad => by omega, fun _ => ⟨i64 (by omega), ⟨rfl, by omega, by omega, step _ rfl⟩, by simp only []; omega⟩⟩⟩
    · exact (most w17 h17).mono fun v w18 ⟨e18, mm, f, hv, hf, hmm⟩ => ⟨e18, mm, f, hv, fun _ => i64 (by omega), fun hbad => by omega, fun _ => ⟨i64 (by omega), ⟨rfl, by omega, by omega, step _ rfl⟩, by simp only []; omega⟩⟩
  · have hin : b = true ↔ ∃ g ∈ G, g.f ≤ t ∧ t < g.t := by
      rw [hb]
      constructor
      · rintro ⟨i, hi, h⟩; exact ⟨_, getD_mem G default (by omega), h⟩
      · rintro ⟨g, hg, h⟩
        obtain ⟨i, hi, rfl⟩ := List.getElem_of_mem hg
        exact ⟨i, by omega, by simpa [List.getD_eq_getElem?_getD, hi] using h⟩
    refine (Most_k size p c L h63 t _ w13 (hL.ext (x4.trans h13))).mono fun v w14 ⟨e14, mm, f, hv, hm⟩ => ⟨e14, mm, f, hv, fun _ hf => ?_, fun w17 h17 => ⟨b_true ?_, x4.trans h17⟩⟩
    · rcases hm with ⟨h, _⟩ | ⟨_, _, _, _, _, _, u, _, _, hu⟩
      · exact absurd hf h
      · have := load_bound (hok.2.2.1.bound hok.1.2) u
        have := hok.2.1
        exact i64 (by omega)
    · rcases hm with ⟨hne, _, hno⟩ | ⟨rfl, _, t0, t1, t2, hmm⟩
      · have : b = false := by
          cases b with
          | false => rfl
          | true =>
            exfalso
            obtain ⟨g, hg, h1, h2⟩ := hin.1 rfl
            obtain ⟨a1, a2, a3, _⟩ := hGI.each g hg
            refine hno ⟨hok, by omega, ?_, ?_⟩ <;> rw [wrap64 (by omega)] <;> omega
        simp [hne, this]
      · have ht : t < 1000000 ∧ IntKind.wrap .i64 (t + 1) = t + 1 := by
          have : t < 1000000 := by omega
          exact ⟨this, wrap64 (by omega)⟩
        rw [ht.2] at hmm
        have hmm := most_one hmm
        have h3 := hGI.all t t0 ht.1
        rw [← hin] at h3
        subst hmm
        cases b with
        | true => simp [h3.1 rfl]
        | false =>
          have : ¬ (load L t + n ≤ size) := fun h => by have := h3.2 h; cases this
          have : size < load L t + n := by omega
          simp [this]
end Go.Proofs.Ytlgcnfmifkbefaa
