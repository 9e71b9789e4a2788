/- The law BookLess. -/
import Derived.Test.YtlgcnfmifkbefaaBkD
import Derived.Test.YtlgcnfmifkbefaaTxtB
set_option linter.unusedVariables false
set_option linter.unusedSimpArgs false
namespace Go.Proofs.Ytlgcnfmifkbefaa
open Go.Sx Go.RowKit

theorem fits_less {size n long : Int} {L M : List Sl} {a n' long' : Int} (h : fits size n long L a) (hn : n' ≤ n) (hl : long' ≤ long) (hL : ∀ t, load M t ≤ load L t) : fits size n' long' M a := by
  obtain ⟨h0, h1, h2⟩ := h
  exact ⟨h0, by omega, fun t t0 t1 => by have := h2 t t0 (by omega); have := hL t; omega⟩

/-- What is found where less is needed is not later. -/
theorem Find_less (size : Int) (p : Option Addr) (c : Nat) (M : List Sl) (h63 : (M.length : Int) ≤ 9223372036854775807) (n long after a : Int) (w : World) (hM : SlsAt w p M) (hg : goodF size n long after M) (ha : after ≤ a) (hf : fits size n long M a) :
    FnP Try.prog F_book_Find #[.int .i64 size, .slice p M.length c, .int .i64 n, .int .i64 long, .int .i64 after] w fun v w' => Ext w w' ∧ ∃ b e, v = .tuple #[.int .i64 b, .int .i64 e] ∧ e = 0 ∧ b ≤ a :=
  (Find_k size p c M h63 n long after w hM).mono fun v w' ⟨e', b, e, hv, hr⟩ => ⟨e', b, e, hv, by
    rcases hr with ⟨_, _, _, h⟩ | ⟨_, _, _, h⟩ | ⟨h0, _, _, _, h⟩
    · exact absurd hg h
    · exact absurd hf (h a ha)
    · refine ⟨h0, ?_⟩
      rcases Int.lt_or_le a b with h1 | h1
      · exact absurd hf (h a ha h1)
      · exact h1⟩

theorem Delete_k (B : Nat) (q : Option Addr) (n c : Nat) (L : List Sl) (hn : n = L.length) (i : Int) (h0 : 0 ≤ i) (h1 : i < n) (w : World) (ho : Own B w T_Slot 3 q n c (L.flatMap encS)) (h100 : n ≤ 100) :
    FnP Try.prog F_slices_Delete_api_Slot_api_Slot #[.slice q n c, .int .i64 i, .int .i64 (i + 1)] w fun v w' => ∃ m d, v = .slice q m d ∧ m = (L.eraseIdx i.toNat).length ∧ Own B w' T_Slot 3 q m d ((L.eraseIdx i.toNat).flatMap encS) ∧ Grew w w' q q := by
  have hle := ho.le
  refine ok_slices_Delete_api_Slot_api_Slot q n c i (i + 1) w _ ⟨h0, by omega, by omega, by omega, fun h => by omega, fun _ => ?_⟩
  refine delete_txt (Q := fun v w' => ∃ m d, v = .slice q m d ∧ m = (L.eraseIdx i.toNat).length ∧ Own B w' T_Slot 3 q m d ((L.eraseIdx i.toNat).flatMap encS) ∧ Grew w w' q q) elem_sl_Slot (by omega) (by intro u hu; simp [Value.cells] at hu; rcases hu with rfl | rfl | rfl <;> rfl) ho (recs_one (fun x u hu => by simp at hu; rcases hu with rfl | rfl | rfl <;> rfl) L) h0 (by omega) (by omega) fun w' g o => ?_
  have he : (L.eraseIdx i.toNat) = L.take i.toNat ++ L.drop (i.toNat + 1) := List.eraseIdx_eq_take_drop_succ ..
  have hlen : (L.eraseIdx i.toNat).length = i.toNat + (n - (i + 1).toNat) := by
    rw [he, List.length_append, List.length_take, List.length_drop]; omega
  refine ⟨_, _, rfl, hlen.symm, ?_, g⟩
  rw [recs_take (enc := encS) (s := 3) (fun _ => rfl), recs_drop (enc := encS) (s := 3) (fun _ => rfl), show (i + 1).toNat = i.toNat + 1 by omega, ← List.flatMap_append, ← he] at o
  rw [show i.toNat + (n - (i.toNat + 1)) = i.toNat + (n - (i + 1).toNat) by omega] at o
  exact o

theorem core_BookLess (W : World) : ∀ size : Int, InR .i64 size → ∀ l : Option Addr, ∀ ll : Nat, ∀ lc : Nat, SlcArg Try.prog W T_Slot l ll lc → ∀ n : Int, InR .i64 n → ∀ long : Int, InR .i64 long → ∀ after : Int, InR .i64 after → ∀ less : Int, InR .i64 less → ∀ shorter : Int, InR .i64 shorter → ∀ at_v : Int, InR .i64 at_v →
    FnP Try.prog F_shiftbellkeep_BookLess #[.int .i64 size, .slice l ll lc, .int .i64 n, .int .i64 long, .int .i64 after, .int .i64 less, .int .i64 shorter, .int .i64 at_v] W fun v W' => v = .bool true ∧ Ext W W' := by
  intro size _ p ll c hl n _ long _ after _ less _ shorter _ i hi
  obtain ⟨L, rfl, h63, _, hL⟩ := slots_arg hl
  refine ok_shiftbellkeep_BookLess size p L.length c n long after less shorter i W _ fun w0 h0 => ?_
  refine (books_k w0).mono fun v w1 ⟨e1, hv⟩ => ⟨e1, true, hv, fun h => by (cases h), fun _ w3 h3 => ?_⟩
  refine (Find_k size p c L h63 n long after w3 (hL.ext h3)).mono fun v w4 ⟨e4, a, e, hv, hr⟩ => ⟨e4, a, e, hv, fun hne w7 h7 => ⟨b_true ?_, h7⟩, fun he => ?_⟩
  · rcases hr with ⟨_, _, rfl, _⟩ | ⟨_, rfl, _⟩ | ⟨h, _⟩
    · rfl
    · rfl
    · exact absurd h hne
  obtain ⟨hg, haft, hf⟩ : goodF size n long after L ∧ after ≤ a ∧ fits size n long L a := by
    rcases hr with ⟨h, _⟩ | ⟨h, _⟩ | ⟨_, h1, h2, h3, _⟩
    · exact absurd he h
    · omega
    · exact ⟨h1, h2, h3⟩
  obtain ⟨hok, ⟨n1, n2⟩, ⟨l1, l2⟩, a0, a1⟩ := id hg
  have hl100 := hok.2.1
  -- with a slot less
  have tail : 0 ≤ i → i < L.length → ∀ w7, Ext W w7 → FnP Try.prog F_slices_Clone_api_Slot_api_Slot #[.slice p L.length c] w7 fun v8 w8 => Ext w7 w8 ∧ ∃ t9 : Option Addr, ∃ tl10 : Nat, ∃ tc11 : Nat, v8 = .slice t9 tl10 tc11 ∧ InR .i64 (i + 1) ∧
      ∀ w12, Ext w8 w12 → FnP Try.prog F_slices_Delete_api_Slot_api_Slot #[.slice t9 tl10 tc11, .int .i64 i, .int .i64 (i + 1)] w12 fun v13 w13 => ∃ t14 : Option Addr, ∃ tl15 : Nat, ∃ tc16 : Nat, v13 = .slice t14 tl15 tc16 ∧
        ∀ w17, Ext w13 w17 → FnP Try.prog F_book_Find #[.int .i64 size, .slice t14 tl15 tc16, .int .i64 n, .int .i64 long, .int .i64 after] w17 fun v18 w18 => Ext w17 w18 ∧ ∃ t19 : Int, ∃ t20 : Int, v18 = .tuple #[.int .i64 t19, .int .i64 t20] ∧ ∀ w21, Ext w13 w21 → (Value.bool ((decide (t20 = 0)) && (decide (t19 ≤ a))) = .bool true ∧ Ext W w21) := fun i0 i1 w7 h7 => by
    refine (Clone_k p c L hl100 w7 (hL.ext h7)).mono fun v w8 ⟨e8, q, d, hv, o8⟩ => ⟨e8, q, _, d, hv, i64 (by omega), fun w12 h12 => ?_⟩
    refine (Delete_k _ q L.length d L rfl i i0 i1 w12 ((o8.weak h7.size).ext h12) hl100).mono fun v w13 ⟨m, d', hv, hm, o13, g13⟩ => ⟨q, m, d', hv, fun w17 h17 => ?_⟩
    have x13 : Ext W w13 := g13.ext ((h7.trans e8).trans h12) ((o8.weak h7.size).ext h12)
    have hld : ∀ t, load (L.eraseIdx i.toNat) t ≤ load L t := fun t => by
      have h1 : L = L.take i.toNat ++ L[i.toNat] :: L.drop (i.toNat + 1) := by rw [List.getElem_cons_drop, List.take_append_drop]
      have h2 : load L t = load (L.take i.toNat) t + (part L[i.toNat] t + load (L.drop (i.toNat + 1)) t) := by
        conv => lhs; rw [h1]
        rw [load_app]; rfl
      rw [List.eraseIdx_eq_take_drop_succ, load_app, h2]
      have h3 : 0 ≤ part L[i.toNat] t := by
        have := hok.2.2.1 L[i.toNat] (List.getElem_mem _)
        unfold part; split <;> omega
      omega
    have hel : (L.eraseIdx i.toNat).length ≤ 100 := Nat.le_trans (List.length_eraseIdx_le _ _) hl100
    have hg' : goodF size n long after (L.eraseIdx i.toNat) := ⟨okB_of hok.1 hel (fun s hs => hok.2.2.1 s (List.mem_of_mem_eraseIdx hs)) fun t t0 t1 => Int.le_trans (hld t) (okB_all hok t0 t1), hg.2⟩
    subst hm
    have hA : SlsAt w13 q (L.eraseIdx i.toNat) := o13.recs fun _ _ => rfl
    exact (Find_less size q d' (L.eraseIdx i.toNat) (by omega) n long after a w17 (hA.ext h17) hg' haft (fits_less hf (Int.le_refl _) (Int.le_refl _) hld)).mono fun v w18 ⟨e18, b, f, hv, hf0, hb⟩ => ⟨e18, b, f, hv, fun w21 h21 => ⟨b_true (by simp [hf0, hb]), x13.trans h21⟩⟩
  refine ⟨fun hin w7 h7 => ?_, fun _ => ⟨fun _ w7 h7 => ⟨rfl, h7⟩, fun hi2 w7 h7 => tail hi2.1 hi2.2 w7 h7⟩⟩
  refine (Find_less size p c L h63 less shorter after a w7 (hL.ext h7) ⟨hok, ⟨by omega, by omega⟩, ⟨by omega, by omega⟩, a0, a1⟩ haft (fits_less hf (by omega) (by omega) fun t => Int.le_refl _)).mono fun v w8 ⟨e8, b, f, hv, hf0, hb⟩ => ⟨e8, b, f, hv, fun hbad => by omega, fun _ => ⟨fun _ w11 h11 => ⟨rfl, h11⟩, fun hi2 w11 h11 => tail hi2.1 hi2.2 w11 h11⟩⟩
end Go.Proofs.Ytlgcnfmifkbefaa
