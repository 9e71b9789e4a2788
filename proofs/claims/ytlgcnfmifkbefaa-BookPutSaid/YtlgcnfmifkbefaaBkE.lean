/- The laws BookFind and BookPut. -/
import Derived.Test.YtlgcnfmifkbefaaBkD
set_option linter.unusedVariables false
set_option linter.unusedSimpArgs false
namespace Go.Proofs.Ytlgcnfmifkbefaa
open Go.Sx Go.RowKit

theorem core_BookFind (W : World) : ∀ size : Int, InR .i64 size → ∀ l : Option Addr, ∀ ll : Nat, ∀ lc : Nat, SlcArg Try.prog W T_Slot l ll lc → ∀ n : Int, InR .i64 n → ∀ long : Int, InR .i64 long → ∀ after : Int, InR .i64 after → ∀ other : Int, InR .i64 other →
    FnP Try.prog F_shiftbellkeep_BookFind #[.int .i64 size, .slice l ll lc, .int .i64 n, .int .i64 long, .int .i64 after, .int .i64 other] W fun v W' => v = .bool true ∧ Ext W W' := by
  intro size _ p ll c hl n _ long hlong after _ other _
  obtain ⟨L, rfl, h63, _, hL⟩ := slots_arg hl
  refine ok_shiftbellkeep_BookFind size p L.length c n long after other W _ fun w0 h0 => ?_
  refine (books_k w0).mono fun v w1 ⟨e1, hv⟩ => ⟨e1, true, hv, fun h => by (cases h), fun _ w3 h3 => ?_⟩
  refine (Find_k size p c L h63 n long after w3 (hL.ext h3)).mono fun v w4 ⟨e4, a, e, hv, hr⟩ => ⟨e4, a, e, hv, ?_⟩
  have last : goodF size n long after L → after ≤ other → (∀ b, after ≤ b → b = other → ¬ fits size n long L b) → ∀ {w' : World}, Ext W w' → FnP Try.prog F_book_Most #[.int .i64 size, .slice p L.length c, .int .i64 other, .int .i64 (IntKind.wrap .i64 (other + long))] w' fun v w'' => Ext w' w'' ∧ ∃ m f, v = .tuple #[.int .i64 m, .int .i64 f] ∧ ((f = 0) → InR .i64 (m + n)) ∧ (decide (f ≠ 0) || decide (size < m + n)) = true := fun hg hao hno {w'} hw =>
    (Most_k size p c L h63 other _ w' (hL.ext hw)).mono fun v w'' ⟨e'', m, f, hv, hm⟩ => ⟨e'', m, f, hv, by
      obtain ⟨hok, ⟨n1, n2⟩, ⟨l1, l2⟩, a0, a1⟩ := hg
      rcases hm with ⟨hne, _⟩ | ⟨rfl, _, o0, o1, o2, hmm⟩
      · exact ⟨fun h => absurd h hne, by simp [hne]⟩
      · have hw64 : IntKind.wrap .i64 (other + long) = other + long := wrap64 (by omega)
        rw [hw64] at o1 o2 hmm
        obtain ⟨hup, u, u1, u2, u3⟩ := hmm
        have hb := load_bound (hok.2.2.1.bound hok.1.2) u
        have := hok.2.1
        have hsz := hok.1
        refine ⟨fun _ => i64 (by omega), ?_⟩
        have : size < m + n := by
          rcases Int.lt_or_le size (m + n) with h | h
          · exact h
          · exact absurd ⟨o0, o2, fun t h1 h2 => by have := hup t h1 h2; omega⟩ (hno other hao rfl)
        simp [this]⟩
  have ha : InR .i64 (a + long) := by
    have := of64 hlong
    rcases hr with ⟨_, _, rfl, _⟩ | ⟨_, rfl, _⟩ | ⟨_, hg, _, hf, _⟩
    · exact i64 (by omega)
    · exact i64 (by omega)
    · have := hf.1; have := hf.2.1; exact i64 (by omega)
  refine ⟨ha, fun b7 hb7 => ⟨fun he => ⟨ha, fun w8 h8 => ?_⟩, fun hne => ⟨fun h5 w8 h8 => ⟨b_true ?_, h8⟩, fun h5 => ⟨fun hor w8 h8 => ⟨rfl, h8⟩, fun hor w8 h8 => ?_⟩⟩⟩⟩
  · obtain ⟨hg, haft, hf, hmin⟩ : goodF size n long after L ∧ after ≤ a ∧ fits size n long L a ∧ ∀ b, after ≤ b → b < a → ¬ fits size n long L b := by
      rcases hr with ⟨h, _⟩ | ⟨h, _⟩ | ⟨_, h⟩
      · exact absurd he h
      · omega
      · exact h
    obtain ⟨hok, ⟨n1, n2⟩, ⟨l1, l2⟩, a0, a1⟩ := id hg
    obtain ⟨f0, f1, f2⟩ := id hf
    refine (Most_k size p c L h63 a (a + long) w8 (hL.ext h8)).mono fun v w9 ⟨e9, m, f, hv, hm⟩ => ⟨e9, m, f, hv, fun w12 x12 => ?_⟩
    obtain ⟨rfl, hmm⟩ : f = 0 ∧ isMost L a (a + long) m := by
      rcases hm with ⟨_, _, h⟩ | ⟨h, _, _, _, _, h'⟩
      · exact absurd ⟨hok, f0, by omega, f1⟩ h
      · exact ⟨h, h'⟩
    have h12 := extB_ext x12
    have hmn : m + n ≤ size := by
      obtain ⟨_, u, u1, u2, u3⟩ := hmm
      have := f2 u u1 u2; omega
    have hm0 : 0 ≤ m := by
      obtain ⟨_, u, u1, u2, u3⟩ := hmm
      have := load_bound (hok.2.2.1.bound hok.1.2) u; omega
    have hsz := hok.1
    refine (Put_k size p c L h63 ⟨a, a + long, n⟩ w12 (hL.ext h12)).mono fun v w13 ⟨e13, q, mm, d, g, hv, hp⟩ => ⟨e13, q, mm, d, g, hv, fun _ => i64 (by omega), fun hbad => ?_, fun _ => ⟨fun h => by omega, fun _ => ⟨fun _ w18 h18 => ⟨rfl, (h12.trans e13).trans h18⟩, fun hor w18 h18 => ?_⟩⟩⟩
    · exfalso
      have hokx : okB size [⟨a, a + long, n⟩] := okB_of hsz (by simp) (fun s hs => by simp at hs; subst hs; exact ⟨f0, by simp only []; omega, f1, n1, n2⟩) fun t _ _ => by
        rw [part_one]; unfold part; split <;> omega
      have hg7 : g = 0 ∨ g = 7 := by
        rcases hp with ⟨hg0, _, h7 | h | h | ⟨h99, h⟩⟩ | ⟨h, _⟩
        · exact .inr h7
        · exact absurd hok h
        · exact absurd hokx h
        · refine absurd (okB_of hsz (by have := hok.2.1; simp; omega) (fun s hs => ?_) fun t t0 t1 => ?_) h
          · rcases List.mem_append.1 hs with hs | hs
            · exact hok.2.2.1 s hs
            · exact hokx.2.2.1 s hs
          · rw [load_app, part_one]
            unfold part
            split
            · rename_i ht
              have := f2 t ht.1 ht.2
              simp only []; omega
            · have := okB_all hok t0 t1; omega
        · exact .inl h
      rcases hbad with ((h | h) | h) | h
      · omega
      · exact h rfl
      · omega
      · omega
    · refine (last hg hor.1 (fun b hb hbo hfb => ?_) ((h12.trans e13).trans h18)).mono fun v w19 ⟨e19, m', f', hv, hi, hd⟩ => ⟨e19, m', f', hv, hi, fun w22 h22 => ⟨b_true hd, (h12.trans e13).trans h22⟩⟩
      subst hbo
      rcases hor.2 with h | h
      · exact absurd he h
      · exact hmin b hb h hfb
  · rcases hr with ⟨_, _, rfl, _⟩ | ⟨rfl, _⟩ | ⟨h, _⟩
    · rfl
    · exact absurd rfl h5.2
    · exact absurd h hne
  · obtain ⟨hg, hno⟩ : goodF size n long after L ∧ ∀ b, after ≤ b → ¬ fits size n long L b := by
      rcases hr with ⟨h1, h2, _⟩ | ⟨_, _, h⟩ | ⟨h, _⟩
      · omega
      · exact h
      · exact absurd h hne
    exact (last hg hor.1 (fun b hb _ => hno b hb) h8).mono fun v w9 ⟨e9, m', f', hv, hi, hd⟩ => ⟨e9, m', f', hv, hi, fun w12 h12 => ⟨b_true hd, h12⟩⟩

theorem core_BookPut (W : World) : ∀ size : Int, InR .i64 size → ∀ l : Option Addr, ∀ ll : Nat, ∀ lc : Nat, SlcArg Try.prog W T_Slot l ll lc → ∀ x_0 : Int, InR .i64 x_0 → ∀ x_1 : Int, InR .i64 x_1 → ∀ x_2 : Int, InR .i64 x_2 → ∀ t : Int, InR .i64 t →
    FnP Try.prog F_shiftbellkeep_BookPut #[.int .i64 size, .slice l ll lc, .agg #[.int .i64 x_0, .int .i64 x_1, .int .i64 x_2], .int .i64 t] W fun v W' => v = .bool true ∧ Ext W W' := by
  intro size _ p ll c hl x0 _ x1 _ x2 _ t _
  obtain ⟨L, rfl, h63, _, hL⟩ := slots_arg hl
  obtain ⟨x, rfl, rfl, rfl⟩ : ∃ x : Sl, x0 = x.f ∧ x1 = x.t ∧ x2 = x.n := ⟨⟨x0, x1, x2⟩, rfl, rfl, rfl⟩
  refine ok_shiftbellkeep_BookPut size p L.length c x.f x.t x.n t W _ fun b0 hb0 w1 h1 => ?_
  refine (books_k w1).mono fun v w2 ⟨e2, hv⟩ => ⟨e2, true, hv, fun h => by (cases h), fun _ w4 x4 => ?_⟩
  have h4 := extB_ext x4
  refine (Put_k size p c L h63 x w4 (hL.ext h4)).mono fun v w5 ⟨e5, q, m, d, e, hv, hp⟩ => ⟨e5, q, m, d, e, hv, fun hne w10 h10 => ⟨?_, (h4.trans e5).trans h10⟩, fun he w10 h10 => ?_⟩
  · rcases hp with ⟨_, rfl, _⟩ | ⟨h, _⟩
    · simp
    · exact absurd h hne
  obtain ⟨hok, hokx, hok2, rfl, hM⟩ : okB size L ∧ okB size [x] ∧ okB size (L ++ [x]) ∧ m = L.length + 1 ∧ SlsAt w5 q (L ++ [x]) := by
    rcases hp with ⟨h, _⟩ | ⟨_, h⟩
    · exact absurd he h
    · exact h
  have x5 := h4.trans e5
  have hlen : (L ++ [x]).length = L.length + 1 := by simp
  have hl100 := hok.2.1
  have hsz := hok.1
  have hx := hokx.2.2.1 x (by simp)
  refine (Most_k size p c L h63 t _ w10 (hL.ext (x5.trans h10))).mono fun v w11 ⟨e11, ma, f, hv, hm⟩ => ⟨e11, ma, f, hv, fun w14 h14 => ?_⟩
  have M2 := Most_k size q d (L ++ [x]) (by rw [hlen]; omega) t (IntKind.wrap .i64 (t + 1)) w14 (hM.ext h14)
  rw [hlen] at M2
  refine M2.mono fun v w15 ⟨e15, mb, g, hv, hm2⟩ => ⟨e15, mb, g, hv, fun hne w18 h18 => ⟨b_true ?_, x5.trans h18⟩, fun hf => ?_⟩
  · rw [decide_eq_true_iff]
    rcases hm with ⟨_, ⟨_, h4'⟩, hno⟩ | ⟨h, _⟩
    · rcases hm2 with ⟨_, ⟨_, h4''⟩, _⟩ | ⟨_, _, h1, h2, h3, _⟩
      · rw [h4' hok, h4'' hok2]
      · exact absurd ⟨hok, h1, h2, h3⟩ hno
    · exact absurd h hne
  · obtain ⟨t0, t1, t2, hmm⟩ : 0 ≤ t ∧ t < IntKind.wrap .i64 (t + 1) ∧ IntKind.wrap .i64 (t + 1) ≤ 1000000 ∧ isMost L t (IntKind.wrap .i64 (t + 1)) ma := by
      rcases hm with ⟨h, _⟩ | ⟨_, _, h1, h2, h3, h4⟩
      · exact absurd hf h
      · exact ⟨h1, h2, h3, h4⟩
    obtain ⟨rfl, hmm2⟩ : g = 0 ∧ isMost (L ++ [x]) t (IntKind.wrap .i64 (t + 1)) mb := by
      rcases hm2 with ⟨_, _, h⟩ | ⟨h, _, _, _, _, h4⟩
      · exact absurd ⟨hok2, t0, t1, t2⟩ h
      · exact ⟨h, h4⟩
    have hw : IntKind.wrap .i64 (t + 1) = t + 1 := wrap64 (by omega)
    rw [hw] at hmm hmm2
    have ha := most_one hmm
    have hb := most_one hmm2
    rw [load_app, part_one] at hb
    have hl := load_bound (hok.2.2.1.bound hok.1.2) t
    have chk : ∀ w18, Ext w5 w18 → FnP Try.prog F_book_Check #[.int .i64 size, .slice q (L.length + 1) d] w18 fun v w' => Ext w18 w' ∧ ∃ e, v = .int .i64 e ∧ e = 0 := fun w18 h18 => by
      have C := Check_k size q d (L ++ [x]) (by rw [hlen]; omega) w18 (hM.ext h18)
      rw [hlen] at C
      exact C.mono fun v w' ⟨e', e, hv, he, _⟩ => ⟨e', e, hv, he.2 hok2⟩
    refine ⟨fun hin => ⟨i64 (by omega), fun _ w18 h18 => (chk w18 h18).mono fun v w19 ⟨e19, e, hv, he⟩ => ⟨e19, e, hv, fun w21 h21 => ⟨b_true (by simp [he]), x5.trans h21⟩⟩, fun hbad => ?_⟩, fun hout => ⟨fun _ w18 h18 => (chk w18 h18).mono fun v w19 ⟨e19, e, hv, he⟩ => ⟨e19, e, hv, fun w21 h21 => ⟨b_true (by simp [he]), x5.trans h21⟩⟩, fun hbad => ?_⟩⟩
    · rw [show part x t = x.n from if_pos hin] at hb
      omega
    · rw [show part x t = 0 from if_neg (by omega)] at hb
      omega
end Go.Proofs.Ytlgcnfmifkbefaa
