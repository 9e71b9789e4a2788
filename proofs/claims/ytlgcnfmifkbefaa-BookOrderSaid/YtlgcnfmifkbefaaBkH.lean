/- The law BookOrder. -/
import Derived.Test.YtlgcnfmifkbefaaBkG
set_option linter.unusedVariables false
set_option linter.unusedSimpArgs false
namespace Go.Proofs.Ytlgcnfmifkbefaa
open Go.Sx Go.RowKit

theorem CloneB_k (p : Option Addr) (c : Nat) (L : List Sl) (hb : L.length * 24 ≤ 140737488351232) (w : World) (h : SlsAt w p L) :
    FnP Try.prog F_slices_Clone_api_Slot_api_Slot #[.slice p L.length c] w fun v w' => Ext w w' ∧ ∃ q' c', v = .slice q' L.length c' ∧ Own w.heap.size w' T_Slot 3 q' L.length c' (L.flatMap encS) := by
  refine ok_slices_Clone_api_Slot_api_Slot p L.length c w _ ⟨fun hn w0 h0 => ?_, fun hn => ?_⟩
  · cases L with
    | nil => exact ⟨h0, none, 0, rfl, Own.nil⟩
    | cons x r => exact absurd hn (h.ne (List.mem_cons_self ..) (by simp))
  · refine clone_txt (Q := fun v w' => Ext w w' ∧ ∃ q' c', v = .slice q' L.length c' ∧ Own w.heap.size w' T_Slot 3 q' L.length c' (L.flatMap encS)) elem_sl_Slot (by omega) (recs_cells (enc := encS) (s := 3) (fun _ => rfl) h) (recs_len (enc := encS) (s := 3) (fun _ => rfl) L) (recs_one (fun x u hu => ?_) L) (by omega) (by omega) hn fun p' c' w' hx o => ⟨hx, p', c', rfl, o⟩
    simp at hu; rcases hu with rfl | rfl | rfl <;> rfl

theorem EqualS_k (p : Option Addr) (c : Nat) (q : Option Addr) (d : Nat) (G : List Sl) (h63 : (G.length : Int) ≤ 9223372036854775807) (w : World) (hp : SlsAt w p G) (hq : SlsAt w q G) :
    FnP Try.prog F_slices_Equal_api_Slot_api_Slot #[.slice p G.length c, .slice q G.length d] w fun v w' => Ext w w' ∧ v = .bool true := by
  refine ok_slices_Equal_api_Slot_api_Slot p G.length c q G.length d w _ ⟨fun h => absurd rfl h, fun _ => ?_⟩
  refine ⟨fun k w' => w' = w ∧ 0 ≤ k ∧ k ≤ G.length, fun k _ => (G.length - k).toNat, ⟨rfl, by omega, by omega⟩, ?_⟩
  rintro k w2 ⟨rfl, hk0, hk1⟩
  refine ⟨fun hlt => ?_, fun _ w3 h3 => ⟨h3, rfl⟩⟩
  obtain ⟨a1, a2, a3, a4, a5⟩ := slot_at hp hk0 hlt
  obtain ⟨b1, b2, b3, b4, b5⟩ := slot_at hq hk0 hlt
  refine ⟨a1, hk0, hlt, a2, _, a3, _, a4, _, a5, b1, hk0, hlt, b2, _, b3, _, b4, _, b5, fun w9 h9 => ?_⟩
  exact run_nes (k := .i64) (n := 3) (by kernel_rfl) (by kernel_rfl) (by kernel_rfl) (by kernel_rfl) [(G.getD k.toNat default).f, (G.getD k.toNat default).t, (G.getD k.toNat default).n] [(G.getD k.toNat default).f, (G.getD k.toNat default).t, (G.getD k.toNat default).n] rfl rfl ⟨Ext.refl _, _, rfl, fun h => by simp at h, fun _ => ⟨i64 (by omega), ⟨rfl, by omega, by omega⟩, by simp only []; omega⟩⟩

theorem okB_perm {size : Int} {A B : List Sl} (h : A.Perm B) (ho : okB size A) : okB size B :=
  okB_of ho.1 (by rw [← h.length_eq]; exact ho.2.1) (fun s hs => ho.2.2.1 s (h.mem_iff.2 hs)) fun t t0 t1 => by rw [← load_perm h]; exact okB_all ho t0 t1
theorem fits_perm {size n long : Int} {A B : List Sl} (h : A.Perm B) {a : Int} (hf : fits size n long A a) : fits size n long B a := ⟨hf.1, hf.2.1, fun t t0 t1 => by rw [← load_perm h]; exact hf.2.2 t t0 t1⟩
theorem isMost_perm {A B : List Sl} (h : A.Perm B) {a b m : Int} (hm : isMost A a b m) : isMost B a b m := by
  obtain ⟨h1, t, h2, h3, h4⟩ := hm
  exact ⟨fun t t0 t1 => by rw [← load_perm h]; exact h1 t t0 t1, t, h2, h3, by rw [← load_perm h]; exact h4⟩

theorem core_BookOrder (W : World) : ∀ size : Int, InR .i64 size → ∀ l : Option Addr, ∀ ll : Nat, ∀ lc : Nat, SlcArg Try.prog W T_Slot l ll lc → ll * 24 ≤ 140737488351232 → ∀ from_v : Int, InR .i64 from_v → ∀ to : Int, InR .i64 to → ∀ n : Int, InR .i64 n → ∀ long : Int, InR .i64 long →
    FnP Try.prog F_shiftbellkeep_BookOrder #[.int .i64 size, .slice l ll lc, .int .i64 from_v, .int .i64 to, .int .i64 n, .int .i64 long] W fun v W' => v = .bool true ∧ Ext W W' := by
  intro size _ p ll c hl hb a _ b _ n _ long _
  obtain ⟨L, rfl, h63, _, hL⟩ := slots_arg hl
  refine ok_shiftbellkeep_BookOrder size p L.length c a b n long W _ fun w0 h0 => ?_
  refine (books_k w0).mono fun v w1 ⟨e1, hv⟩ => ⟨e1, true, hv, fun h => by (cases h), fun _ w3 h3 => ?_⟩
  refine (CloneB_k p c L hb w3 (hL.ext h3)).mono fun v w4 ⟨e4, q, d, hv, o4⟩ => ⟨e4, q, _, d, hv, fun w8 h8 => ?_⟩
  have o8 := (o4.weak h3.size).ext h8
  refine (Reverse_k rfl (by omega) o8).mono fun v w9 ⟨hv, o9, g9⟩ => ⟨hv, fun w10 h10 => ?_⟩
  have x9 : Ext W w9 := g9.ext ((h3.trans e4).trans h8) o8
  have hR : SlsAt w9 q L.reverse := o9.recs fun _ _ => rfl
  have pm : L.Perm L.reverse := (List.reverse_perm L).symm
  have pm' : L.reverse.Perm L := List.reverse_perm L
  have hrl : L.reverse.length = L.length := List.length_reverse
  have hr63 : (L.reverse.length : Int) ≤ 9223372036854775807 := by omega
  refine (Most_k size p c L h63 a b w10 (hL.ext (x9.trans h10))).mono fun v w11 ⟨e11, m1, f1, hv, r1⟩ => ⟨e11, m1, f1, hv, fun w14 h14 => ?_⟩
  have M2 := Most_k size q d L.reverse hr63 a b w14 (hR.ext h14)
  rw [hrl] at M2
  refine M2.mono fun v w15 ⟨e15, m2, f2, hv, r2⟩ => ⟨e15, m2, f2, hv, fun w18 h18 => ?_⟩
  refine (Find_k size p c L h63 n long a w18 (hL.ext (x9.trans h18))).mono fun v w19 ⟨e19, u1, g1, hv, s1⟩ => ⟨e19, u1, g1, hv, fun w22 h22 => ?_⟩
  have F2 := Find_k size q d L.reverse hr63 n long a w22 (hR.ext h22)
  rw [hrl] at F2
  refine F2.mono fun v w23 ⟨e23, u2, g2, hv, s2⟩ => ⟨e23, u2, g2, hv, fun w26 h26 => ?_⟩
  refine (Gaps_k size p c L h63 n w26 (hL.ext (x9.trans h26))).mono fun v w27 ⟨e27, q1, k1, d1, i1, hv, t1⟩ => ⟨e27, q1, k1, d1, i1, hv, fun w32 h32 => ?_⟩
  have G2 := Gaps_k size q d L.reverse hr63 n w32 (hR.ext ((h26.trans e27).trans h32))
  rw [hrl] at G2
  refine G2.mono fun v w33 ⟨e33, q2, k2, d2, i2, hv, t2⟩ => ⟨e33, q2, k2, d2, i2, hv, ?_⟩
  have hmost : m1 = m2 ∧ (f1 = 0 ↔ f2 = 0) := by
    rcases r1 with ⟨n1, ⟨z1, _⟩, x1⟩ | ⟨z1, o1, c1, c2, c3, mm1⟩
    · rcases r2 with ⟨n2, ⟨z2, _⟩, x2⟩ | ⟨z2, o2, c1, c2, c3, mm2⟩
      · exact ⟨by omega, by omega⟩
      · exact absurd ⟨okB_perm pm' o2, c1, c2, c3⟩ x1
    · rcases r2 with ⟨n2, ⟨z2, _⟩, x2⟩ | ⟨z2, o2, _, _, _, mm2⟩
      · exact absurd ⟨okB_perm pm o1, c1, c2, c3⟩ x2
      · exact ⟨isMost_eq mm1 (isMost_perm pm' mm2), by omega⟩
  have hfind : u1 = u2 ∧ (g1 = 0 ↔ g2 = 0) := by
    rcases s1 with ⟨n1, v1, z1, x1⟩ | ⟨v1, z1, o1, x1⟩ | ⟨v1, o1, y1, x1, l1⟩
    · rcases s2 with ⟨n2, v2, z2, x2⟩ | ⟨v2, z2, o2, x2⟩ | ⟨v2, o2, y2, x2, l2⟩
      · exact ⟨by omega, by omega⟩
      · exact absurd ⟨okB_perm pm' o2.1, o2.2⟩ x1
      · exact absurd ⟨okB_perm pm' o2.1, o2.2⟩ x1
    · rcases s2 with ⟨n2, v2, z2, x2⟩ | ⟨v2, z2, o2, x2⟩ | ⟨v2, o2, y2, x2, l2⟩
      · exact absurd ⟨okB_perm pm o1.1, o1.2⟩ x2
      · exact ⟨by omega, by omega⟩
      · exact absurd (fits_perm pm' x2) (x1 u2 y2)
    · rcases s2 with ⟨n2, v2, z2, x2⟩ | ⟨v2, z2, o2, x2⟩ | ⟨v2, o2, y2, x2, l2⟩
      · exact absurd ⟨okB_perm pm o1.1, o1.2⟩ x2
      · exact absurd (fits_perm pm x1) (x2 u1 y1)
      · refine ⟨?_, by omega⟩
        rcases Int.lt_trichotomy u1 u2 with h | h | h
        · exact absurd (fits_perm pm x1) (l2 u1 y1 h)
        · exact h
        · exact absurd (fits_perm pm' x2) (l1 u2 y2 h)
  obtain ⟨rfl, hf⟩ := hmost
  obtain ⟨rfl, hgq⟩ := hfind
  refine ⟨fun _ w38 h38 => ?_, fun h => by rcases h with h | h <;> exact absurd rfl h⟩
  have x33 : Ext W w33 := (((x9.trans h26).trans e27).trans h32).trans e33
  have fin : ∀ {w41 : World}, Ext w33 w41 → (i1 = 0 ↔ i2 = 0) → (Value.bool (((true && (((decide (f1 = 0)) && (decide (f2 = 0))) || ((decide (f1 ≠ 0)) && (decide (f2 ≠ 0))))) && (((decide (g1 = 0)) && (decide (g2 = 0))) || ((decide (g1 ≠ 0)) && (decide (g2 ≠ 0))))) && (((decide (i1 = 0)) && (decide (i2 = 0))) || ((decide (i1 ≠ 0)) && (decide (i2 ≠ 0))))) = .bool true ∧ Ext W w41) := fun hw hi => ⟨b_true (by
    by_cases c1 : f1 = 0 <;> by_cases c2 : g1 = 0 <;> by_cases c3 : i1 = 0 <;> simp_all), x33.trans hw⟩
  have eqr : ∃ G : List Sl, k1 = G.length ∧ k2 = G.length ∧ (G.length : Int) ≤ 300 ∧ SlsAt w38 q1 G ∧ SlsAt w38 q2 G ∧ (i1 = 0 ↔ i2 = 0) := by
    rcases t1 with ⟨n1, z1, x1⟩ | ⟨z1, o1, c1, c2, y1, S1⟩
    · rcases t2 with ⟨n2, z2, x2⟩ | ⟨z2, o2, c1, c2, y2, S2⟩
      · exact ⟨[], z1, z2, by simp, fun i x hx => by simp at hx, fun i x hx => by simp at hx, by omega⟩
      · exact absurd ⟨okB_perm pm' o2, c1, c2⟩ x1
    · rcases t2 with ⟨n2, z2, x2⟩ | ⟨z2, o2, _, _, y2, S2⟩
      · exact absurd ⟨okB_perm pm o1, c1, c2⟩ x2
      · have hgp : gapsF size n L.reverse = gapsF size n L := gapsF_perm pm'
        rw [hgp] at y2 S2
        have h1 := gapsK_len size n L ((times L).length - 1)
        have h2 := times_len L
        have h3 := o1.2.1
        exact ⟨gapsF size n L, y1, y2, by unfold gapsF; omega, S1.ext ((h32.trans e33).trans h38), S2.ext h38, by omega⟩
  obtain ⟨G, rfl, rfl, hG3, hS1, hS2, hi⟩ := eqr
  exact (EqualS_k q1 d1 q2 d2 G (by omega) w38 hS1 hS2).mono fun v w39 ⟨e39, hv⟩ => ⟨e39, true, hv, fun w41 h41 => fin h41 hi⟩
end Go.Proofs.Ytlgcnfmifkbefaa
