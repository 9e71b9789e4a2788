/- Asks: what package ask's Check, value and Holds answer. -/
import Derived.Test.YtblafknmfblgfaaAkP
set_option linter.unusedVariables false
set_option linter.unusedSimpArgs false
namespace Go.Proofs.Ytblafknmfblgfaa
open Go.Sx Go.RowKit

theorem Label_k (s : ByteArray) (hs : s.size ≤ 9223372036854775807) (w : World) : FnP Try.prog F_ask_Label #[.string s] w fun v w' => Ext w w' ∧ v = .bool (lbB s) := by
  have hem : s ≠ emS ↔ 0 < s.size := by
    constructor
    · intro h
      refine Nat.pos_of_ne_zero fun h0 => h ?_
      have h1 : s.data.size = 0 := h0
      have h2 : s = ByteArray.empty := by simpa using h1
      rw [h2]; rfl
    · rintro h rfl
      simp [emS] at h; exact absurd h (by decide)
  refine ok_ask_Label s w _ ⟨fun _ => by omega, fun h => ?_, fun _ => by omega, fun h => ?_, fun h w0 h0 => ⟨h0, ?_⟩, fun h w0 h0 => ?_⟩
  · have := hem.1 h.1; omega
  · have := hem.1 h.1.1; omega
  · congr 1
    symm
    unfold lbB
    rcases h with ((h | h) | h) | h
    · have : ¬ 0 < s.size := fun hp => (hem.2 hp) h
      simp [this]
    · have : ¬ s.size ≤ 20 := by omega
      simp [this]
    · have : ¬ 97 ≤ sAt s 0 := by omega
      simp [this]
    · have : ¬ sAt s 0 ≤ 122 := by omega
      simp [this]
  · obtain ⟨⟨⟨h1, h2⟩, h3⟩, h4⟩ := h
    have hp := hem.1 h1
    refine run_s2b (e := T_uint8) (by kernel_rfl) (by kernel_rfl) (by kernel_rfl) fun p c w1 e1 hb => ⟨e1, p, s.size, c, rfl, ?_⟩
    have hlen := bytesI_len s
    refine ⟨fun k w' => w' = w1 ∧ 0 ≤ k ∧ k ≤ s.size ∧ ∀ i : Nat, (i : Int) < k → okC ((bytesI s).getD i 0) = true, fun k _ => (s.size - k).toNat, ⟨rfl, by omega, by omega, fun i hi => by omega⟩, ?_⟩
    rintro k w1 ⟨rfl, hk0, hk1, hall⟩
    refine ⟨fun hlt => ?_, fun hge w8 h8 => ⟨(h0.trans e1).trans h8, ?_⟩⟩
    · have g := Ints.idx hb hk0 (by omega)
      refine ⟨fun hq => cell_p g (pIdx_none.2 hq), hk0, hlt, _, g, fun hbad w9 h9 => ⟨(h0.trans e1).trans h9, ?_⟩, fun hok => ⟨i64 (by omega), ⟨rfl, by omega, by omega, fun i hi => ?_⟩, by simp only []; omega⟩⟩
      · congr 1
        symm
        have hno : okC ((bytesI s).getD k.toNat 0) = false := by
          unfold okC
          generalize (bytesI s).getD k.toNat 0 = b at hbad
          simp; omega
        have : (bytesI s).all okC = false := by
          rw [List.all_eq_false]
          exact ⟨_, getD_mem (bytesI s) 0 (i := k.toNat) (by omega), by rw [hno]; simp⟩
        unfold lbB
        simp [this]
      · by_cases hik : (i : Int) < k
        · exact hall i hik
        · obtain rfl : i = k.toNat := by omega
          unfold okC
          generalize (bytesI s).getD k.toNat 0 = b at hok
          simp; omega
    · congr 1
      symm
      have : (bytesI s).all okC = true := by
        rw [List.all_eq_true]
        intro x hx
        obtain ⟨i, hi, rfl⟩ := List.getElem_of_mem hx
        have := hall i (by omega)
        simpa [List.getD_eq_getElem?_getD, hi] using this
      unfold lbB
      simp only [this, Bool.and_true, Bool.and_eq_true, decide_eq_true_eq]
      exact ⟨⟨⟨hp, by omega⟩, h3⟩, h4⟩

theorem count_k : ∀ (t : AT) (p : Option Addr) (c : Nat) (w : World), IsT w t p c → WfA t → FnP Try.prog F_ask_count #[av t p c] w fun v w' => Ext w w' ∧ v = .int .i64 (cntA t) := by
  intro t
  induction t using AT.ind with
  | h k key val n xs ih =>
    intro p c w hT hW
    have hlen := hW.len
    refine ok_ask_count k key val n p xs.length c w _ fun b0 _ => ?_
    refine ⟨fun m k2 w' => w' = w ∧ 0 ≤ k2 ∧ k2 ≤ xs.length ∧ cntL (xs.drop k2.toNat) m = cntL xs 1, fun _ k2 _ => (xs.length - k2).toNat, ⟨rfl, by omega, by omega, rfl⟩, ?_⟩
    rintro m k2 w ⟨rfl, hk0, hk1, hc⟩
    refine ⟨fun hlt => ?_, fun hge w5 h5 => ⟨h5, ?_⟩⟩
    · obtain ⟨x, p', c', hx, hmem, hIx, hp, hp5, g0, g1, g2, g3, g4⟩ := hT.at hk0 (by exact hlt)
      have hx : xs[k2.toNat]? = some x := hx
      refine ⟨hp, hk0, hlt, hp5, _, g0, _, g1, _, g2, _, g3, _, _, _, g4, fun b12 _ w13 h13 => ?_⟩
      refine (ih x hmem p' c' w13 (hIx.ext h13 _ _ _) (hW.sub x hmem)).mono fun v w14 ⟨e14, hv⟩ => ⟨e14, _, hv, i64 (by have hlen : xs.length ≤ 9223372036854775807 := hlen; omega), ⟨rfl, by omega, by omega, ?_⟩, by simp only []; omega⟩
      rw [← hc, show (k2 + 1).toNat = k2.toNat + 1 by omega]
      obtain ⟨hi, he⟩ := List.getElem?_eq_some_iff.1 hx
      rw [List.drop_eq_getElem_cons hi, he]
      show _ = cntL (x :: xs.drop (k2.toNat + 1)) m
      rw [cntL]
    · have hd : xs.drop k2.toNat = [] := List.drop_of_length_le (by omega)
      rw [hd] at hc
      unfold cntA
      rw [← hc, cntL]

theorem unit_k (s : ByteArray) (w : World) : FnP Try.prog F_ask_unit #[.string s] w fun v w' => Ext w w' ∧ v = .bool (unB s) :=
  ok_ask_unit s w _ fun w0 h0 => ⟨h0, rfl⟩

theorem check_k : ∀ (t : AT) (p : Option Addr) (c : Nat) (w : World), IsT w t p c → WfA t → FnP Try.prog F_ask_check #[av t p c] w fun v w' => Ext w w' ∧ v = .int .i64 (errA t) := by
  intro t
  induction t using AT.ind with
  | h k key val n xs ih =>
    intro p c w hT hW
    have hlen : xs.length ≤ 9223372036854775807 := hW.len
    have hWn := hW
    unfold WfA at hWn
    obtain ⟨hk, hkey, hval, hn, _, _⟩ := hWn
    have E : errA (.mk k key val n xs) = if err1 k key val n xs.length ≠ 0 then err1 k key val n xs.length else errL xs := by rw [errA]
    rw [E]
    have bad : ∀ e : Int, err1 k key val n xs.length = e → e ≠ 0 → ∀ w1, Ext w w1 → Ext w w1 ∧ Value.int .i64 e = .int .i64 (if err1 k key val n xs.length ≠ 0 then err1 k key val n xs.length else errL xs) := fun e he hne w1 h1 => ⟨h1, by rw [he, if_pos hne]⟩
    refine ok_ask_check k key val n p xs.length c w _ fun b0 _ => ⟨fun hb w1 h1 => bad 1 (by unfold err1; rw [if_pos hb]) (by omega) w1 h1, fun hg => ?_⟩
    have hr : ¬ (k < 1 ∨ 6 < k) := by omega
    refine ⟨fun i b w' => w' = w ∧ i = inner k ∧ (b = true ↔ k < 4), ?_, ?_⟩
    · have h5 : k = 5 → (w = w ∧ ((0 : Int) + 1) + 1 = inner k ∧ (false = true ↔ k < 4)) := fun h => ⟨rfl, by unfold inner; rw [if_pos (.inl h)]; rfl, by simp; omega⟩
      have h6 : k = 6 → (w = w ∧ ((0 : Int) + 1) + 1 = inner k ∧ (false = true ↔ k < 4)) := fun h => ⟨rfl, by unfold inner; rw [if_pos (.inr h)]; rfl, by simp; omega⟩
      have h4 : k = 4 → (w = w ∧ (0 : Int) + 1 = inner k ∧ (false = true ↔ k < 4)) := fun h => ⟨rfl, by unfold inner; rw [if_neg (by omega), if_pos h]; rfl, by simp; omega⟩
      have h0 : k ≠ 4 → k ≠ 5 → k ≠ 6 → (w = w ∧ (0 : Int) = inner k ∧ (true = true ↔ k < 4)) := fun h4 h5 h6 => ⟨rfl, by unfold inner; rw [if_neg (by omega), if_neg h4]; rfl, by simp; omega⟩
      exact ⟨fun h => ⟨fun _ => ⟨i64 (by omega), i64 (by omega), h5 h⟩, fun hn => absurd h hn⟩, fun hn5 => ⟨fun h => ⟨i64 (by omega), i64 (by omega), h6 h⟩, fun hn6 => ⟨fun h => ⟨i64 (by omega), h4 h⟩, fun hn4 => h0 hn4 hn5 hn6⟩⟩⟩
    rintro i b w ⟨rfl, rfl, hb⟩
    refine ⟨fun hbd w5 h5 => bad 1 ?_ (by omega) w5 h5, fun hok => ?_⟩
    · unfold err1
      rw [if_neg hr]
      by_cases hl : xs.length = inner k
      · rw [if_neg (by simpa using hl), if_pos]
        rcases hbd with ((h | ⟨h, h'⟩) | ⟨h, h'⟩) | ⟨h, h'⟩
        · omega
        · left
          refine ⟨?_, h'⟩
          cases b
          · simp at hb; exact hb
          · cases h
        · right; left; exact ⟨h, h'⟩
        · right; right; exact ⟨h, h'⟩
      · rw [if_pos hl]
    · obtain ⟨⟨⟨hl, hke⟩, hva⟩, hnn⟩ := hok
      have hl' : xs.length = inner k := by omega
      have h2 : ¬ xs.length ≠ inner k := by simpa using hl'
      have h3 : ¬ ((4 ≤ k ∧ key ≠ emS) ∨ (k ≠ 2 ∧ val ≠ emS) ∨ (k ≠ 3 ∧ n ≠ 0)) := by
        rintro (⟨h, h'⟩ | ⟨h, h'⟩ | ⟨h, h'⟩)
        · rcases hke with hk' | hk'
          · have := hb.1 hk'; omega
          · exact h' hk'
        · rcases hva with hv' | hv'
          · exact h hv'
          · exact h' hv'
        · rcases hnn with hn' | hn'
          · exact h hn'
          · exact h' hn'
      have e3 : ((k = 3 ∧ unB key = false) ∨ ((k = 1 ∨ k = 2) ∧ lbB key = false) ∨ (k = 2 ∧ lbB val = false)) → err1 k key val n xs.length = 3 := fun h => by
        unfold err1; rw [if_neg hr, if_neg h2, if_neg h3, if_pos h]
      have e4 : ¬ ((k = 3 ∧ unB key = false) ∨ ((k = 1 ∨ k = 2) ∧ lbB key = false) ∨ (k = 2 ∧ lbB val = false)) → (n < 0 ∨ 1099511627776 < n) → err1 k key val n xs.length = 4 := fun h h' => by
        unfold err1; rw [if_neg hr, if_neg h2, if_neg h3, if_neg h, if_pos h']
      have e0 : ¬ ((k = 3 ∧ unB key = false) ∨ ((k = 1 ∨ k = 2) ∧ lbB key = false) ∨ (k = 2 ∧ lbB val = false)) → ¬ (n < 0 ∨ 1099511627776 < n) → err1 k key val n xs.length = 0 := fun h h' => by
        unfold err1; rw [if_neg hr, if_neg h2, if_neg h3, if_neg h, if_neg h']
      refine ⟨fun w' => w' = w ∧ err1 k key val n xs.length = 0, ?_, ?_⟩
      · refine ⟨fun hk3 w7 h7 => ?_, fun hk3 => ⟨fun hk12 w7 h7 => ?_, fun hk12 => ⟨fun h2 => by omega, fun hk2 => ⟨fun hb4 w7 h7 => bad 4 (e4 ?_ hb4) (by omega) w7 h7, fun hg4 => ⟨rfl, e0 ?_ (by omega)⟩⟩⟩⟩⟩
        · refine (unit_k key w7).mono fun v w8 ⟨e8, hv⟩ => ⟨e8, _, hv, fun hf => ⟨fun _ w10 h10 => bad 3 (e3 (.inl ⟨hk3, hf⟩)) (by omega) w10 h10, fun ht => by rw [hf] at ht; cases ht⟩, fun ht => ⟨fun hk12 => by omega, fun _ => ⟨fun h2 => by omega, fun hk2 => ⟨fun hb4 w10 h10 => bad 4 (e4 ?_ hb4) (by omega) w10 h10, fun hg4 => ⟨rfl, e0 ?_ (by omega)⟩⟩⟩⟩⟩
          all_goals
            rintro (⟨_, h⟩ | ⟨h, _⟩ | ⟨h, _⟩)
            · rw [ht] at h; cases h
            · omega
            · omega
        · refine (Label_k key hkey w7).mono fun v w8 ⟨e8, hv⟩ => ⟨e8, _, hv, fun hf => ⟨fun _ w10 h10 => bad 3 (e3 (.inr (.inl ⟨hk12, hf⟩))) (by omega) w10 h10, fun ht => by rw [hf] at ht; cases ht⟩, fun ht => ⟨fun hk2 w10 h10 => ?_, fun hk2 => ⟨fun hb4 w10 h10 => bad 4 (e4 ?_ hb4) (by omega) w10 h10, fun hg4 => ⟨rfl, e0 ?_ (by omega)⟩⟩⟩⟩
          · refine (Label_k val hval w10).mono fun v w11 ⟨e11, hv⟩ => ⟨e11, _, hv, fun hf => fun w13 h13 => bad 3 (e3 (.inr (.inr ⟨hk2, hf⟩))) (by omega) w13 h13, fun ht2 => ⟨fun hb4 w13 h13 => bad 4 (e4 ?_ hb4) (by omega) w13 h13, fun hg4 => ⟨rfl, e0 ?_ (by omega)⟩⟩⟩
            all_goals
              rintro (⟨h, _⟩ | ⟨_, h⟩ | ⟨_, h⟩)
              · omega
              · rw [ht] at h; cases h
              · rw [ht2] at h; cases h
          all_goals
            rintro (⟨h, _⟩ | ⟨_, h⟩ | ⟨h, _⟩)
            · omega
            · rw [ht] at h; cases h
            · omega
        all_goals
          rintro (⟨h, _⟩ | ⟨h, _⟩ | ⟨h, _⟩)
          · omega
          · omega
          · omega
      · rintro w ⟨rfl, herr⟩
        rw [herr, if_neg (by omega)]
        refine ⟨fun k2 w' => w' = w ∧ 0 ≤ k2 ∧ k2 ≤ xs.length ∧ ∀ (j : Nat) (y : AT), (j : Int) < k2 → xs[j]? = some y → errA y = 0, fun k2 _ => (xs.length - k2).toNat, ⟨rfl, by omega, by omega, fun j y hj => by omega⟩, ?_⟩
        rintro k2 w ⟨rfl, hk0, hk1, hall⟩
        refine ⟨fun hlt => ?_, fun hge w10 h10 => ⟨h10, ?_⟩⟩
        · obtain ⟨x, p', c', hx, hmem, hIx, hp, hp5, g0, g1, g2, g3, g4⟩ := hT.at hk0 (by exact hlt)
          have hx : xs[k2.toNat]? = some x := hx
          refine ⟨hp, hk0, hlt, hp5, _, g0, _, g1, _, g2, _, g3, _, _, _, g4, fun b17 _ w18 h18 => ?_⟩
          refine (ih x hmem p' c' w18 (hIx.ext h18 _ _ _) (hW.sub x hmem)).mono fun v w19 ⟨e19, hv⟩ => ⟨e19, _, hv, fun hne w21 h21 => ⟨h21, ?_⟩, fun he => ⟨i64 (by omega), ⟨rfl, by omega, by omega, fun j y hj hy => ?_⟩, by simp only []; omega⟩⟩
          · rw [errL_first hx (fun j y hj hy => hall j y (by omega) hy) hne]
          · by_cases hjk : (j : Int) < k2
            · exact hall j y hjk hy
            · obtain rfl : j = k2.toNat := by omega
              rw [hx] at hy; obtain rfl := Option.some.inj hy
              exact he
        · rw [errL_zero.2 fun x hx => ?_]
          obtain ⟨j, hj, rfl⟩ := List.getElem_of_mem hx
          exact hall j _ (by omega) (List.getElem?_eq_getElem hj)

theorem Check_k (t : AT) (p : Option Addr) (c : Nat) (w : World) (hT : IsT w t p c) (hW : WfA t) : FnP Try.prog F_ask_Check #[av t p c] w fun v w' => Ext w w' ∧ v = .int .i64 (errC t) := by
  refine ok_ask_Check t.k t.key t.val t.n p t.xs.length c w _ fun b0 _ w1 h1 => ?_
  refine (count_k t p c w1 (hT.ext h1 _ _ _) hW).mono fun v w2 ⟨e2, hv⟩ => ⟨e2, _, hv, fun hgt w4 h4 => ⟨h4, ?_⟩, fun hle w4 h4 => ?_⟩
  · unfold errC; rw [if_pos hgt]
  · refine (check_k t p c w4 (hT.ext h4 _ _ _) hW).mono fun v w5 ⟨e5, hv⟩ => ⟨e5, _, hv, fun w7 h7 => ⟨h7, ?_⟩⟩
    unfold errC; rw [if_neg (by omega)]

theorem value_k {w0 : World} {f : Value} {at_ : AT → Bool} (hf : ∀ (y : AT) (p : Option Addr) (c : Nat) (w : World), Ext w0 w → IsT w y p c → errA y = 0 → y.k < 4 → FnVP Try.prog f [av y p c] w fun v w' => Ext w w' ∧ v = .bool (at_ y)) :
    ∀ (t : AT) (p : Option Addr) (c : Nat) (w : World), Ext w0 w → IsT w t p c → errA t = 0 → FnP Try.prog F_ask_value #[av t p c, f] w fun v w' => Ext w w' ∧ v = .bool (valA at_ t) := by
  intro t
  induction t using AT.ind with
  | h k key val n xs ih =>
    intro p c w hx0 hT he
    obtain ⟨h1, hsub⟩ := errA_node he
    have hlen : xs.length = inner k := err1_len h1
    have hin : ¬ (k < 1 ∨ 6 < k) := fun hb => by
      have h1 : err1 k key val n xs.length = 0 := h1
      unfold err1 at h1; rw [if_pos hb] at h1; omega
    have V : valA at_ (.mk k key val n xs) = if k = 4 then !(xs.map (valA at_)).getD 0 false else if k = 5 then (xs.map (valA at_)).getD 0 false && (xs.map (valA at_)).getD 1 false else if k = 6 then (xs.map (valA at_)).getD 0 false || (xs.map (valA at_)).getD 1 false else at_ (.mk k key val n xs) := by
      rw [valA, valL_map]
    rw [V]
    have sub : ∀ (i : Int), 0 ≤ i → i < xs.length → ∃ x p' c', (xs.map (valA at_)).getD i.toNat false = valA at_ x ∧ p ≠ none ∧ pIdx p i 5 ≠ none ∧ Go.Sx.cell w (pIdx p i 5) 0 = some (.int .i64 x.k) ∧ Go.Sx.cell w (pIdx p i 5) 1 = some (.string x.key) ∧ Go.Sx.cell w (pIdx p i 5) 2 = some (.string x.val) ∧
        Go.Sx.cell w (pIdx p i 5) 3 = some (.int .i64 x.n) ∧ Go.Sx.cell w (pIdx p i 5) 4 = some (.slice p' x.xs.length c') ∧ ∀ w', Ext w w' → FnP Try.prog F_ask_value #[av x p' c', f] w' fun v w'' => Ext w' w'' ∧ v = .bool (valA at_ x) := fun i h0 hi => by
      obtain ⟨x, p', c', hx, hmem, hIx, hp, hp5, g0, g1, g2, g3, g4⟩ := hT.at h0 (by exact hi)
      have hx : xs[i.toNat]? = some x := hx
      refine ⟨x, p', c', ?_, hp, hp5, g0, g1, g2, g3, g4, fun w' hw' => ih x hmem p' c' w' (hx0.trans hw') (hIx.ext hw' _ _ _) (hsub x hmem)⟩
      rw [List.getD_eq_getElem?_getD, List.getElem?_map, hx]; rfl
    refine ok_ask_value k key val n p xs.length c f w _ fun b0 _ => ⟨fun h4 => ?_, fun h4 => ⟨fun h5 => ?_, fun h5 => ⟨fun h6 => ?_, fun h6 w1 hw1 => ?_⟩⟩⟩
    · have hl : xs.length = 1 := by rw [hlen]; unfold inner; rw [if_neg (by omega), if_pos h4]
      obtain ⟨x, p', c', hv, hp, hp5, g0, g1, g2, g3, g4, hF⟩ := sub 0 (by omega) (by omega)
      refine ⟨hp, by omega, by omega, hp5, _, g0, _, g1, _, g2, _, g3, _, _, _, g4, fun w8 h8 => (hF w8 h8).mono fun v w9 ⟨e9, hv'⟩ => ⟨e9, _, hv', fun w11 h11 => ⟨h11, ?_⟩⟩⟩
      rw [if_pos h4, show (0 : Nat) = (0 : Int).toNat from rfl, hv]
    · have hl : xs.length = 2 := by rw [hlen]; unfold inner; rw [if_pos (.inl h5)]
      obtain ⟨x, p', c', hv, hp, hp5, g0, g1, g2, g3, g4, hF⟩ := sub 0 (by omega) (by omega)
      obtain ⟨y, q', d', hv2, hq, hq5, f0, f1, f2, f3, f4, hG⟩ := sub 1 (by omega) (by omega)
      rw [if_neg h4, if_pos h5, show (0 : Nat) = (0 : Int).toNat from rfl, hv, show (1 : Nat) = (1 : Int).toNat from rfl, hv2]
      refine ⟨hp, by omega, by omega, hp5, _, g0, _, g1, _, g2, _, g3, _, _, _, g4, fun w8 h8 => (hF w8 h8).mono fun v w9 ⟨e9, hv'⟩ => ⟨e9, _, hv', fun _ => hp, fun _ => by omega, fun _ => by omega, fun ht => ⟨hq5, _, f0, _, f1, _, f2, _, f3, _, _, _, f4, fun w18 h18 => (hG w18 h18).mono fun v w19 ⟨e19, hv''⟩ => ⟨e19, _, hv'', fun w21 h21 => ⟨h21, by rw [ht]; rfl⟩⟩⟩, fun hf' w11 h11 => ⟨h11, by rw [hf']; rfl⟩⟩⟩
    · have hl : xs.length = 2 := by rw [hlen]; unfold inner; rw [if_pos (.inr h6)]
      obtain ⟨x, p', c', hv, hp, hp5, g0, g1, g2, g3, g4, hF⟩ := sub 0 (by omega) (by omega)
      obtain ⟨y, q', d', hv2, hq, hq5, f0, f1, f2, f3, f4, hG⟩ := sub 1 (by omega) (by omega)
      rw [if_neg h4, if_neg h5, if_pos h6, show (0 : Nat) = (0 : Int).toNat from rfl, hv, show (1 : Nat) = (1 : Int).toNat from rfl, hv2]
      refine ⟨hp, by omega, by omega, hp5, _, g0, _, g1, _, g2, _, g3, _, _, _, g4, fun w8 h8 => (hF w8 h8).mono fun v w9 ⟨e9, hv'⟩ => ⟨e9, _, hv', fun _ => hp, fun _ => by omega, fun _ => by omega, fun ht w11 h11 => ⟨h11, by rw [ht]; rfl⟩, fun hf' => ⟨hq5, _, f0, _, f1, _, f2, _, f3, _, _, _, f4, fun w18 h18 => (hG w18 h18).mono fun v w19 ⟨e19, hv''⟩ => ⟨e19, _, hv'', fun w21 h21 => ⟨h21, by rw [hf']; rfl⟩⟩⟩⟩⟩
    · rw [if_neg h4, if_neg h5, if_neg h6]
      obtain ⟨g, cap, hv, hF⟩ := hf (.mk k key val n xs) p c w1 (hx0.trans hw1) (hT.ext hw1 _ _ _) he (by show k < 4; omega)
      exact ⟨g, cap, hv, hF.mono fun v w2 ⟨e2, hv'⟩ => ⟨e2, _, hv', fun w4 hw4 => ⟨hw4, rfl⟩⟩⟩

/-! ### Hosts -/
structure Lb where
  key : ByteArray
  val : ByteArray
deriving Inhabited
abbrev encLb (x : Lb) : List Value := [.string x.key, .string x.val]
abbrev Lbs (w : World) (p : Option Addr) (L : List Lb) : Prop := Recs 2 encLb w p L
structure Ht where
  name : ByteArray
  labels : List Lb
  has : Nd
  used : Nd
deriving Inhabited
/-- A host's cells: its labels' row lies at p. -/
abbrev encH (h : Ht) (p : Option Addr) (c : Nat) : List Value := [.string h.name, .slice p h.labels.length c, .int .i64 h.has.c, .int .i64 h.has.m, .int .i64 h.has.g, .int .i64 h.used.c, .int .i64 h.used.m, .int .i64 h.used.g]
abbrev hv (h : Ht) (p : Option Addr) (c : Nat) : Value := .agg #[.string h.name, .slice p h.labels.length c, .int .i64 h.has.c, .int .i64 h.has.m, .int .i64 h.has.g, .int .i64 h.used.c, .int .i64 h.used.m, .int .i64 h.used.g]

def amt (x : Nd) (key : ByteArray) : Int := if key = cpuS then x.c else if key = memS then x.m else x.g
/-- What an atom says of a host. -/
def atH (h : Ht) (y : AT) : Bool := if y.k = 3 then decide (y.n ≤ amt h.has y.key) else h.labels.any fun l => decide (l.key = y.key) && (decide (y.k = 1) || decide (l.val = y.val))

theorem amount_k (x : Nd) (key : ByteArray) (w : World) : FnP Try.prog F_ask_amount #[nv x, .string key] w fun v w' => Ext w w' ∧ v = .int .i64 (amt x key) :=
  ok_ask_amount x.c x.m x.g key w _ fun b0 _ => ⟨fun h w1 h1 => ⟨h1, by unfold amt; rw [if_pos (show key = cpuS from h)]⟩, fun h => ⟨fun h2 w1 h1 => ⟨h1, by unfold amt; rw [if_neg (show ¬ key = cpuS from h), if_pos (show key = memS from h2)]⟩, fun h2 w1 h1 => ⟨h1, by unfold amt; rw [if_neg (show ¬ key = cpuS from h), if_neg (show ¬ key = memS from h2)]⟩⟩⟩

theorem anyLb_k (p : Option Addr) (c : Nat) (L : List Lb) (h63 : L.length ≤ 9223372036854775807) (f : Value) (Pr : Lb → Bool) (w : World) (hL : Lbs w p L) (hf : ∀ e ∈ L, ∀ w', Ext w w' → FnVP Try.prog f [.agg #[.string e.key, .string e.val]] w' fun v w'' => Ext w' w'' ∧ v = .bool (Pr e)) :
    FnP Try.prog F_slices_ContainsFunc_api_Label_api_Label #[.slice p L.length c, f] w fun v w' => Ext w w' ∧ v = .bool (L.any Pr) := by
  refine ok_slices_ContainsFunc_api_Label_api_Label p L.length c f w _ fun w0 h0 => ?_
  refine FnP.mono (K := fun v w' => Ext w0 w' ∧ ∃ t : Int, v = .int .i64 t ∧ (0 ≤ t ↔ L.any Pr = true)) ?_ fun v w1 ⟨e1, t, hv, ht⟩ => ⟨e1, t, hv, fun w3 h3 => ⟨h3, by congr 1; rw [Bool.eq_iff_iff, decide_eq_true_iff]; exact ht⟩⟩
  refine ok_slices_IndexFunc_api_Label_api_Label p L.length c f w0 _ ⟨fun k w' => w' = w0 ∧ 0 ≤ k ∧ k ≤ L.length ∧ ∀ j : Nat, (j : Int) < k → Pr (L.getD j default) = false, fun k _ => (L.length - k).toNat, ⟨rfl, by omega, by omega, fun j hj => by omega⟩, ?_⟩
  rintro k w2 ⟨rfl, hk0, hk1, hno⟩
  refine ⟨fun hlt => ?_, fun hge w3 h3 => ⟨h3, -1, rfl, ?_⟩⟩
  · have g0 := (hL.ext h0).idx default hk0 hlt (j := 0) rfl
    have g1 := (hL.ext h0).idx default hk0 hlt (j := 1) rfl
    have hm := getD_mem L default (i := k.toNat) (by omega)
    refine ⟨fun hq => cell_p g0 (pIdx_none.2 hq), hk0, hlt, cell_p g0, _, g0, _, g1, fun w5 h5 => ?_⟩
    obtain ⟨fn, cap, hv, hF⟩ := hf _ hm w5 (h0.trans h5)
    refine ⟨fn, cap, hv, hF.mono fun v w6 ⟨e6, hv⟩ => ⟨e6, _, hv, fun hy w8 h8 => ⟨h8, k, rfl, ?_⟩, fun hn => ⟨i64 (by omega), ⟨rfl, by omega, by omega, fun j hj => ?_⟩, by simp only []; omega⟩⟩⟩
    · exact ⟨fun _ => List.any_eq_true.2 ⟨_, hm, hy⟩, fun _ => hk0⟩
    · by_cases hjk : (j : Int) < k
      · exact hno j hjk
      · obtain rfl : j = k.toNat := by omega
        exact hn
  · refine ⟨fun h => by omega, fun h => ?_⟩
    obtain ⟨e, he, hpe⟩ := List.any_eq_true.1 h
    obtain ⟨i, hi, rfl⟩ := List.getElem_of_mem he
    have := hno i (by omega)
    simp only [List.getD_eq_getElem?_getD, List.getElem?_eq_getElem hi, Option.getD_some] at this
    rw [this] at hpe; cases hpe

theorem Holds_k (t : AT) (p : Option Addr) (c : Nat) (h : Ht) (q : Option Addr) (d : Nat) (hl : h.labels.length ≤ 9223372036854775807) (w : World) (hT : IsT w t p c) (hW : WfA t) (hL : Lbs w q h.labels) :
    FnP Try.prog F_ask_Holds #[av t p c, hv h q d] w fun v w' => Ext w w' ∧ v = .tuple #[.bool (if errC t = 0 then valA (atH h) t else false), .int .i64 (errC t)] := by
  refine ok_ask_Holds t.k t.key t.val t.n p t.xs.length c h.name q h.labels.length d h.has.c h.has.m h.has.g h.used.c h.used.m h.used.g w _ fun b0 hb0 w1 x1 => ?_
  have h1 := extB_ext x1
  refine new_own (t := T_Host) (by intro v hv; simp at hv; rcases hv with rfl | rfl | rfl | rfl | rfl | rfl | rfl | rfl <;> rfl) fun w2 o2 e2 => fun w3 h3 => ?_
  have c2 := (o2 0 (Nat.zero_le _)).cells
  have x2 := h1.trans e2
  refine (Check_k t p c w3 (hT.ext (x2.trans h3) _ _ _) hW).mono fun v w4 ⟨e4, hv⟩ => ⟨e4, _, hv, fun hne w6 h6 => ⟨x2.trans h6, by rw [if_neg hne]⟩, fun he w6 h6 => ?_⟩
  have heA : errA t = 0 := by
    unfold errC at he
    split at he
    · omega
    · exact he
  refine (value_k (w0 := w2) (at_ := atH h) (fun y py cy wy hwy hTy hey hky => ⟨F_ask_Holds_1, #[.pointer (some ⟨w1.heap.size, 0, none⟩)], rfl, ?_⟩) t p c w6 h6 (hT.ext (x2.trans h6) _ _ _) heA).mono fun v w7 ⟨e7, hv⟩ => ⟨e7, _, hv, fun w9 h9 => ⟨x2.trans h9, by rw [if_pos he, he]⟩⟩
  have cy' := c2.ext hwy
  have hLy := hL.ext (x2.trans hwy)
  refine (ok_ask_Holds_1 y.k y.key y.val y.n py y.xs.length cy (some ⟨w1.heap.size, 0, none⟩) wy _ fun w0' h0' => ?_ : FnP Try.prog F_ask_Holds_1 #[av y py cy, .pointer (some ⟨w1.heap.size, 0, none⟩)] wy _)
  refine new_own (t := T_Ask) (by intro v hv; simp at hv; rcases hv with rfl | rfl | rfl | rfl | rfl <;> rfl) fun wa oa ea => ?_
  have ca := (oa 0 (Nat.zero_le _)).cells
  have hxa := h0'.trans ea
  have cy2 := cy'.ext hxa
  have A : ∀ (i : Nat) u, (encA y py cy)[i]? = some u → Go.Sx.cell wa (pAdd (some ⟨w0'.heap.size, 0, none⟩) i) 0 = some u := fun i u hu => by rw [cell_pAdd]; exact ca i u hu
  refine ⟨by simp, _, A 0 _ rfl, fun h3' => ⟨by simp, by simp [pAdd], _, by rw [cell_pAdd]; exact cy2 2 _ rfl, _, by rw [cell_pAdd]; exact cy2 3 _ rfl, _, by rw [cell_pAdd]; exact cy2 4 _ rfl, by simp, _, A 1 _ rfl, by simp, _, A 3 _ rfl, fun w8 h8 => ?_⟩, fun h3' => ⟨by simp, _, _, _, by rw [cell_pAdd]; exact cy2 1 _ rfl, fun w6' h6' => ?_⟩⟩
  · refine (amount_k h.has y.key w8).mono fun v w9 ⟨e9, hv⟩ => ⟨e9, _, hv, fun w11 h11 => ⟨hxa.trans h11, ?_⟩⟩
    unfold atH; rw [if_pos h3']
  · refine (anyLb_k q d h.labels hl _ (fun l => decide (l.key = y.key) && (decide (y.k = 1) || decide (l.val = y.val))) w6' (hLy.ext (hxa.trans h6')) fun e he w' hw' => ⟨F_ask_Holds_1_1, #[.pointer (some ⟨w0'.heap.size, 0, none⟩)], rfl, ?_⟩).mono fun v w7 ⟨e7, hv⟩ => ⟨e7, _, hv, fun w9 h9 => ⟨hxa.trans h9, ?_⟩⟩
    · have B : ∀ (i : Nat) u, (encA y py cy)[i]? = some u → Go.Sx.cell w' (pAdd (some ⟨w0'.heap.size, 0, none⟩) i) 0 = some u := fun i u hu => ext_cell (h6'.trans hw') (A i u hu)
      show FnP Try.prog F_ask_Holds_1_1 #[.agg #[.string e.key, .string e.val], .pointer (some ⟨w0'.heap.size, 0, none⟩)] w' _
      refine ok_ask_Holds_1_1 e.key e.val (some ⟨w0'.heap.size, 0, none⟩) w' _ fun b0 _ => ⟨by simp, _, B 1 _ rfl, fun _ => by simp, fun hk => ⟨_, B 0 _ rfl, fun _ => by simp, fun h1' w3' h3'' => ⟨h3'', ?_⟩, fun h1' => ⟨_, B 2 _ rfl, fun w4' h4' => ⟨h4', ?_⟩⟩⟩, fun hk w2' h2' => ⟨h2', ?_⟩⟩
      · simp [hk, h1']
      · simp [hk, h1']
      · simp [hk]
    · unfold atH; rw [if_neg h3']
end Go.Proofs.Ytblafknmfblgfaa
