/- Texts of asks. -/
import Derived.Test.YtenppnomdejmlaaGreatDoorAtN
set_option linter.unusedVariables false
set_option linter.unusedSimpArgs false
namespace Go.Proofs.YtenppnomdejmlaaGreatDoor
open Go.Sx Go.RowKit

/-- The table that numerals are written with. -/
structure GP (w : World) : Prop where
  pow : Lib.TabIs Tryz.prog w "internal/strconv.uint64pow10" .u64 Lib.pow10Tab
theorem GP.ext {w w' : World} (g : GP w) (e : Ext w w') : GP w' := ⟨tab_ext g.pow e⟩
theorem FormatP_k (n : Int) (h : -9223372036854775808 ≤ n ∧ n ≤ 9223372036854775807) (w : World) (g : GP w) : FnP Tryz.prog F_strconv_FormatInt #[.int .i64 n, .int .i64 10] w fun v w' => Ext w w' ∧ v = .string (ofL (Lib.itoa n)) :=
  ⟨fun args w => Tryz.call53 args w, (Tryz.strconv_FormatInt_10 n h.1 h.2 w g.pow).mono fun e w' ⟨he, k, os, hw⟩ => ⟨_, he, by rw [hw]; exact below_grow, rfl⟩⟩

mutual
/-- How many asks an ask is made of, each as often as it is met. -/
def nod : AT → Nat
  | .mk _ _ _ _ xs => 1 + nodL xs
def nodL : List AT → Nat
  | [] => 0
  | x :: r => nod x + nodL r
end
mutual
def txt : AT → List UInt8
  | .mk k key val n xs => if k = 1 then 63 :: key.data.toList else if k = 2 then key.data.toList ++ 61 :: val.data.toList else if k = 3 then key.data.toList ++ 62 :: 61 :: Lib.itoa n
    else if k = 4 then 33 :: (txtL xs).headD [] else 40 :: ((txtL xs).getD 0 [] ++ (if k = 5 then 38 else 124) :: ((txtL xs).getD 1 [] ++ [41]))
def txtL : List AT → List (List UInt8)
  | [] => []
  | x :: r => txt x :: txtL r
end
theorem txt1 (key val : ByteArray) (n : Int) (xs : List AT) : txt (.mk 1 key val n xs) = 63 :: key.data.toList := by rw [txt, if_pos rfl]
theorem txt2 (key val : ByteArray) (n : Int) (xs : List AT) : txt (.mk 2 key val n xs) = key.data.toList ++ 61 :: val.data.toList := by rw [txt, if_neg (by omega), if_pos rfl]
theorem txt3 (key val : ByteArray) (n : Int) (xs : List AT) : txt (.mk 3 key val n xs) = key.data.toList ++ 62 :: 61 :: Lib.itoa n := by rw [txt, if_neg (by omega), if_neg (by omega), if_pos rfl]
theorem txt4 (key val : ByteArray) (n : Int) (x : AT) : txt (.mk 4 key val n [x]) = 33 :: txt x := by rw [txt, if_neg (by omega), if_neg (by omega), if_neg (by omega), if_pos rfl]; simp [txtL]
theorem txt56 {k : Int} (hk : k = 5 ∨ k = 6) (key val : ByteArray) (n : Int) (x y : AT) : txt (.mk k key val n [x, y]) = 40 :: (txt x ++ (if k = 5 then 38 else 124) :: (txt y ++ [41])) := by
  rw [txt, if_neg (by omega), if_neg (by omega), if_neg (by omega), if_neg (by omega)]; simp [txtL]
theorem lbB_size {s : ByteArray} (h : lbB s = true) : 0 < s.size ∧ s.size ≤ 20 := by
  unfold lbB at h
  simp only [Bool.and_eq_true, decide_eq_true_eq] at h
  exact h.1.1.1
theorem unB_size {s : ByteArray} (h : unB s = true) : s.size = 3 := by
  unfold unB at h
  simp only [Bool.or_eq_true, decide_eq_true_eq] at h
  rcases h with (h | h) | h <;> (rw [h]; rfl)
/-- What an atom that is none wrong is. -/
theorem atom_ok {k : Int} {key val : ByteArray} {n : Int} {xs : List AT} (h : errA (.mk k key val n xs) = 0) (hk : k < 4) :
    (k = 1 ∧ lbB key = true ∧ val = emS ∧ n = 0) ∨ (k = 2 ∧ lbB key = true ∧ lbB val = true ∧ n = 0) ∨ (k = 3 ∧ unB key = true ∧ val = emS ∧ 0 ≤ n ∧ n ≤ 1099511627776) := by
  obtain ⟨h1, _⟩ := errA_node h
  have h1 : err1 k key val n xs.length = 0 := h1
  unfold err1 at h1
  split at h1
  · omega
  rename_i a1
  split at h1
  · omega
  split at h1
  · omega
  rename_i a3
  split at h1
  · omega
  rename_i a4
  split at h1
  · omega
  rename_i a5
  have hk3 : k = 1 ∨ k = 2 ∨ k = 3 := by omega
  rcases hk3 with rfl | rfl | rfl
  · refine .inl ⟨rfl, ?_, ?_, ?_⟩
    · cases hb : lbB key with
      | true => rfl
      | false => exact absurd (.inr (.inl ⟨.inl rfl, hb⟩)) a4
    · exact Classical.byContradiction fun hv => a3 (.inr (.inl ⟨by omega, hv⟩))
    · exact Classical.byContradiction fun hv => a3 (.inr (.inr ⟨by omega, hv⟩))
  · refine .inr (.inl ⟨rfl, ?_, ?_, ?_⟩)
    · cases hb : lbB key with
      | true => rfl
      | false => exact absurd (.inr (.inl ⟨.inr rfl, hb⟩)) a4
    · cases hb : lbB val with
      | true => rfl
      | false => exact absurd (.inr (.inr ⟨rfl, hb⟩)) a4
    · exact Classical.byContradiction fun hv => a3 (.inr (.inr ⟨by omega, hv⟩))
  · refine .inr (.inr ⟨rfl, ?_, ?_, by omega, by omega⟩)
    · cases hb : unB key with
      | true => rfl
      | false => exact absurd (.inl ⟨rfl, hb⟩) a4
    · exact Classical.byContradiction fun hv => a3 (.inr (.inl ⟨by omega, hv⟩))
theorem bs_len (s : ByteArray) : s.data.toList.length = s.size := by simp
theorem txt_len : ∀ t : AT, errA t = 0 → (txt t).length ≤ 50 * nod t := by
  intro t
  induction t using AT.ind with
  | h k key val n xs ih =>
    intro h
    rcases ask_cases h with ⟨rfl, x, rfl, hx⟩ | ⟨hk, x, y, rfl, hx, hy⟩ | ⟨hk1, hk4, rfl⟩
    · have := ih x (by simp) hx
      rw [txt4]
      simp only [nod, nodL, List.length_cons]; omega
    · have h1 := ih x (by simp) hx
      have h2 := ih y (by simp) hy
      rw [txt56 hk]
      simp only [nod, nodL, List.length_cons, List.length_append, List.length_nil]; omega
    · rcases atom_ok h hk4 with ⟨rfl, a, b, c⟩ | ⟨rfl, a, b, c⟩ | ⟨rfl, a, b, c, d⟩
      · have := lbB_size a
        rw [txt1]; simp only [nod, nodL, List.length_cons, bs_len]; omega
      · have h1 := lbB_size a
        have h2 := lbB_size b
        rw [txt2]; simp only [nod, nodL, List.length_cons, List.length_append, bs_len]; omega
      · have h1 := unB_size a
        have h2 := Lib.itoa_length_le n (by omega) (by omega)
        rw [txt3]; simp only [nod, nodL, List.length_cons, List.length_append, bs_len]; omega

theorem text_k : ∀ (t : AT) (p : Option Addr) (c : Nat) (w : World), IsT w t p c → errA t = 0 → nod t ≤ 1099511627776 → GP w → FnP Tryz.prog F_ask_text #[av t p c] w fun v w' => Ext w w' ∧ v = .string (ofL (txt t)) := by
  intro t
  induction t using AT.ind with
  | h k key val n xs ih =>
    intro p c w hT h hN g
    refine ok_ask_text k key val n p xs.length c w _ fun b0 _ => ?_
    rcases ask_cases h with ⟨rfl, x, rfl, hx⟩ | ⟨hk, x, y, rfl, hx, hy⟩ | ⟨hk1, hk4, rfl⟩
    · obtain ⟨x', p', c', e1, _, hT', np, np5, g0, g1, g2, g3, g4⟩ := hT.at (k := 0) (by omega) (by show (0 : Int) < ((1 : Nat) : Int); omega)
      have : x' = x := by have h' : [x][0]? = some x' := e1; simpa using h'.symm
      subst this
      have hn : nod x' ≤ 1099511627776 := by simp only [nod, nodL] at hN; omega
      have hl := txt_len x' hx
      refine ⟨fun h => by omega, fun _ => ⟨fun h => by omega, fun _ => ⟨fun h => by omega, fun _ => ⟨fun _ => ⟨np, by omega, by simp, np5, _, g0, _, g1, _, g2, _, g3, _, _, _, g4, fun w8 h8 => (ih x' (by simp) p' c' w8 (hT'.ext h8) hx hn (g.ext h8)).mono fun v w9 ⟨e9, hv⟩ => ⟨e9, _, hv, ?_, fun w11 h11 => ⟨h11, ?_⟩⟩⟩, fun h => absurd rfl h⟩⟩⟩⟩
      · unfold CatOk; rw [ofL_size]; show 1 + _ ≤ _; omega
      · rw [txt4, ← ofL_of ((⟨#[33]⟩ : ByteArray) ++ _), bs_app]; rfl
    · obtain ⟨x', p', c', e1, _, hT', np, np5, g0, g1, g2, g3, g4⟩ := hT.at (k := 0) (by omega) (by show (0 : Int) < ((2 : Nat) : Int); omega)
      have : x' = x := by have h' : [x, y][0]? = some x' := e1; simpa using h'.symm
      subst this
      obtain ⟨y', p2, c2, e2, _, hT2, np2, np52, q0, q1, q2, q3, q4⟩ := hT.at (k := 1) (by omega) (by show (1 : Int) < ((2 : Nat) : Int); omega)
      have : y' = y := by have h' : [x', y][1]? = some y' := e2; simpa using h'.symm
      subst this
      have hn1 : nod x' ≤ 1099511627776 := by simp only [nod, nodL] at hN; omega
      have hn2 : nod y' ≤ 1099511627776 := by simp only [nod, nodL] at hN; omega
      have hl1 := txt_len x' hx
      have hl2 := txt_len y' hy
      have hcat : ∀ m : UInt8, (((((⟨#[40]⟩ : ByteArray) ++ ofL (txt x')) ++ (⟨#[m]⟩ : ByteArray)) ++ ofL (txt y')) ++ (⟨#[41]⟩ : ByteArray)) = ofL (40 :: (txt x' ++ m :: (txt y' ++ [41]))) := fun m => by
        rw [← ofL_of (((((⟨#[40]⟩ : ByteArray) ++ ofL (txt x')) ++ (⟨#[m]⟩ : ByteArray)) ++ ofL (txt y')) ++ (⟨#[41]⟩ : ByteArray)), bs_app, bs_app, bs_app, bs_app]
        simp [ofL]
      have s1 : ∀ m : UInt8, (⟨#[m]⟩ : ByteArray).size = 1 := fun _ => rfl
      refine ⟨fun h => by omega, fun _ => ⟨fun h => by omega, fun _ => ⟨fun h => by omega, fun _ => ⟨fun h => by omega, fun _ => ⟨fun h5 => ?_, fun h5 => ?_⟩⟩⟩⟩⟩
      all_goals refine ⟨np, by omega, by simp, np5, _, g0, _, g1, _, g2, _, g3, _, _, _, g4, np, by omega, by simp, np52, _, q0, _, q1, _, q2, _, q3, _, _, _, q4, fun w15 h15 => (ih x' (by simp) p' c' w15 (hT'.ext h15) hx hn1 (g.ext h15)).mono fun v w16 ⟨e16, hv⟩ => ⟨e16, _, hv, ?_, ?_, fun w18 h18 => (ih y' (by simp) p2 c2 w18 (hT2.ext h18) hy hn2 (g.ext h18)).mono fun v w19 ⟨e19, hv⟩ => ⟨e19, _, hv, ?_, ?_, fun w21 h21 => ⟨h21, ?_⟩⟩⟩⟩
      all_goals first
        | (rw [hcat, txt56 hk]; simp [h5])
        | (unfold CatOk; simp only [ByteArray.size_append, s1, ofL_size]; omega)
    · rcases atom_ok h hk4 with ⟨rfl, a, b, c'⟩ | ⟨rfl, a, b, c'⟩ | ⟨rfl, a, b, c', d⟩
      · have hs := lbB_size a
        refine ⟨fun _ => ⟨?_, fun w1 h1 => ⟨h1, ?_⟩⟩, fun h => absurd rfl h⟩
        · unfold CatOk; show 1 + _ ≤ _; omega
        · rw [txt1, ← ofL_of ((⟨#[63]⟩ : ByteArray) ++ _), bs_app]; rfl
      · have hs := lbB_size a
        have hs2 := lbB_size b
        refine ⟨fun h => by omega, fun _ => ⟨fun _ => ⟨?_, ?_, fun w1 h1 => ⟨h1, ?_⟩⟩, fun h => absurd rfl h⟩⟩
        · unfold CatOk; show _ + 1 ≤ _; omega
        · unfold CatOk; rw [ByteArray.size_append]; show _ + 1 + _ ≤ _; omega
        · rw [txt2, ← ofL_of ((key ++ (⟨#[61]⟩ : ByteArray)) ++ val), bs_app, bs_app]; simp
      · have hs := unB_size a
        have hil := Lib.itoa_length_le n (by omega) (by omega)
        refine ⟨fun h => by omega, fun _ => ⟨fun h => by omega, fun _ => ⟨fun _ => ⟨?_, fun w1 h1 => (FormatP_k n (by omega) w1 (g.ext h1)).mono fun v w2 ⟨e2, hv⟩ => ⟨e2, _, hv, ?_, fun w4 h4 => ⟨h4, ?_⟩⟩⟩, fun h => absurd rfl h⟩⟩⟩
        · unfold CatOk; show _ + 2 ≤ _; omega
        · unfold CatOk; rw [ByteArray.size_append, ofL_size]; show _ + 2 + _ ≤ _; omega
        · rw [txt3, ← ofL_of ((key ++ (⟨#[62, 61]⟩ : ByteArray)) ++ _), bs_app, bs_app]; simp [ofL]
end Go.Proofs.YtenppnomdejmlaaGreatDoor
