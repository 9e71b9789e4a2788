/- Asks that hold alike. -/
import Derived.Test.YteelndoflikliaaDoorAtY
set_option linter.unusedVariables false
set_option linter.unusedSimpArgs false
namespace Go.Proofs.YteelndoflikliaaDoor
open Go.Sx Go.RowKit

theorem value_kP {w0 : World} {Pr : AT → Prop} (hPr : ∀ t, Pr t → ∀ x ∈ t.xs, Pr x) {f : Value} {at_ : AT → Bool} (hf : ∀ (y : AT) (p : Option Addr) (c : Nat) (w : World), Ext w0 w → IsT w y p c → errA y = 0 → y.k < 4 → Pr y → FnVP Tryd.prog f [av y p c] w fun v w' => Ext w w' ∧ v = .bool (at_ y)) :
    ∀ (t : AT) (p : Option Addr) (c : Nat) (w : World), Ext w0 w → IsT w t p c → errA t = 0 → Pr t → FnP Tryd.prog F_ask_value #[av t p c, f] w fun v w' => Ext w w' ∧ v = .bool (valA at_ t) := by
  intro t
  induction t using AT.ind with
  | h k key val n xs ih =>
    intro p c w hx0 hT he hpr
    obtain ⟨h1, hsub⟩ := errA_node he
    have hlen : xs.length = inner k := err1_len h1
    have hin : ¬ (k < 1 ∨ 6 < k) := fun hb => by
      have h1 : err1 k key val n xs.length = 0 := h1
      unfold err1 at h1; rw [if_pos hb] at h1; omega
    have V : valA at_ (.mk k key val n xs) = if k = 4 then !(xs.map (valA at_)).getD 0 false else if k = 5 then (xs.map (valA at_)).getD 0 false && (xs.map (valA at_)).getD 1 false else if k = 6 then (xs.map (valA at_)).getD 0 false || (xs.map (valA at_)).getD 1 false else at_ (.mk k key val n xs) := by
      rw [valA, valL_map]
    rw [V]
    have sub : ∀ (i : Int), 0 ≤ i → i < xs.length → ∃ x p' c', (xs.map (valA at_)).getD i.toNat false = valA at_ x ∧ p ≠ none ∧ pIdx p i 5 ≠ none ∧ Go.Sx.cell w (pIdx p i 5) 0 = some (.int .i64 x.k) ∧ Go.Sx.cell w (pIdx p i 5) 1 = some (.string x.key) ∧ Go.Sx.cell w (pIdx p i 5) 2 = some (.string x.val) ∧
        Go.Sx.cell w (pIdx p i 5) 3 = some (.int .i64 x.n) ∧ Go.Sx.cell w (pIdx p i 5) 4 = some (.slice p' x.xs.length c') ∧ ∀ w', Ext w w' → FnP Tryd.prog F_ask_value #[av x p' c', f] w' fun v w'' => Ext w' w'' ∧ v = .bool (valA at_ x) := fun i h0 hi => by
      obtain ⟨x, p', c', hx, hmem, hIx, hp, hp5, g0, g1, g2, g3, g4⟩ := hT.at h0 (by exact hi)
      have hx : xs[i.toNat]? = some x := hx
      refine ⟨x, p', c', ?_, hp, hp5, g0, g1, g2, g3, g4, fun w' hw' => ih x hmem p' c' w' (hx0.trans hw') (hIx.ext hw' _ _ _) (hsub x hmem) (hPr _ hpr x hmem)⟩
      rw [List.getD_eq_getElem?_getD, List.getElem?_map, hx]; rfl
    refine ok_ask_value k key val n p xs.length c f w _ fun b0 _ => ⟨fun h4 => ?_, fun h4 => ⟨fun h5 => ?_, fun h5 => ⟨fun h6 => ?_, fun h6 w1 hw1 => ?_⟩⟩⟩
    · have hl : xs.length = 1 := by rw [hlen]; unfold inner; rw [if_neg (by omega), if_pos h4]
      obtain ⟨x, p', c', hv, hp, hp5, g0, g1, g2, g3, g4, hF⟩ := sub 0 (by omega) (by omega)
      refine ⟨hp, by omega, by omega, hp5, _, g0, _, g1, _, g2, _, g3, _, _, _, g4, fun w8 h8 => (hF w8 h8).mono fun v w9 ⟨e9, hv'⟩ => ⟨e9, _, hv', fun w11 h11 => ⟨h11, ?_⟩⟩⟩
      rw [if_pos h4, show (0 : Nat) = (0 : Int).toNat from rfl, hv]
    · have hl : xs.length = 2 := by rw [hlen]; unfold inner; rw [if_pos (.inl h5)]
      obtain ⟨x, p', c', hv, hp, hp5, g0, g1, g2, g3, g4, hF⟩ := sub 0 (by omega) (by omega)
      obtain ⟨y, q', d', hv2, hq, hq5, f0, f1, f2, f3, f4, hG⟩ := sub 1 (by omega) (by omega)
      rw [if_neg h4, if_pos h5, show (0 : Nat) = (0 : Int).toNat from rfl, hv, show (1 : Nat) = (1 : Int).toNat from rfl, hv2]
      refine ⟨hp, by omega, by omega, hp5, _, g0, _, g1, _, g2, _, g3, _, _, _, g4, fun w8 h8 => (hF w8 h8).mono fun v w9 ⟨e9, hv'⟩ => ⟨e9, _, hv', fun _ => hp, fun _ => by omega, fun _ => by omega, fun ht => ⟨hq5, _, f0, _, f1, _, f2, _, f3, _, _, _, f4, fun w18 h18 => (hG w18 h18).mono fun v w19 ⟨e19, hv''⟩ => ⟨e19, _, hv'', fun w21 h21 => ⟨h21, by rw [ht]; rfl⟩⟩⟩, fun hf' w11 h11 => ⟨h11, by rw [hf']; rfl⟩⟩⟩
    · have hl : xs.length = 2 := by rw [hlen]; unfold inner; rw [if_pos (.inr h6)]
      obtain ⟨x, p', c', hv, hp, hp5, g0, g1, g2, g3, g4, hF⟩ := sub 0 (by omega) (by omega)
      obtain ⟨y, q', d', hv2, hq, hq5, f0, f1, f2, f3, f4, hG⟩ := sub 1 (by omega) (by omega)
      rw [if_neg h4, if_neg h5, if_pos h6, show (0 : Nat) = (0 : Int).toNat from rfl, hv, show (1 : Nat) = (1 : Int).toNat from rfl, hv2]
      refine ⟨hp, by omega, by omega, hp5, _, g0, _, g1, _, g2, _, g3, _, _, _, g4, fun w8 h8 => (hF w8 h8).mono fun v w9 ⟨e9, hv'⟩ => ⟨e9, _, hv', fun _ => hp, fun _ => by omega, fun _ => by omega, fun ht w11 h11 => ⟨h11, by rw [ht]; rfl⟩, fun hf' => ⟨hq5, _, f0, _, f1, _, f2, _, f3, _, _, _, f4, fun w18 h18 => (hG w18 h18).mono fun v w19 ⟨e19, hv''⟩ => ⟨e19, _, hv'', fun w21 h21 => ⟨h21, by rw [hf']; rfl⟩⟩⟩⟩⟩
    · rw [if_neg h4, if_neg h5, if_neg h6]
      obtain ⟨g, cap, hv, hF⟩ := hf (.mk k key val n xs) p c w1 (hx0.trans hw1) (hT.ext hw1 _ _ _) he (by show k < 4; omega) hpr
      exact ⟨g, cap, hv, hF.mono fun v w2 ⟨e2, hv'⟩ => ⟨e2, _, hv', fun w4 hw4 => ⟨hw4, rfl⟩⟩⟩

mutual
/-- The atoms' texts, each as often as it is met. -/
def lv : AT → List (List UInt8)
  | .mk k key val n xs => if xs.length = 0 then [txt (.mk k key val n xs)] else lvL xs
def lvL : List AT → List (List UInt8)
  | [] => []
  | x :: r => lv x ++ lvL r
end
theorem lvL_mem : ∀ {xs : List AT} {x : AT}, x ∈ xs → ∀ a ∈ lv x, a ∈ lvL xs
  | y :: r, x, h, a, ha => by
    rw [lvL, List.mem_append]
    rcases List.mem_cons.1 h with rfl | h
    · exact .inl ha
    · exact .inr (lvL_mem h a ha)
theorem lv_sub {t x : AT} (h : x ∈ t.xs) : ∀ a ∈ lv x, a ∈ lv t := by
  cases t with
  | mk k key val n xs =>
    have h : x ∈ xs := h
    intro a ha
    have : ¬ xs.length = 0 := fun h0 => by
      rw [List.eq_nil_of_length_eq_zero h0] at h; cases h
    rw [lv, if_neg this]
    exact lvL_mem h a ha
theorem ats_mem : ∀ (t : AT) (A : List (List UInt8)) (a : List UInt8), a ∈ ats t A ↔ a ∈ A ∨ a ∈ lv t := by
  intro t
  induction t using AT.ind with
  | h k key val n xs ih =>
    intro A a
    have hL : ∀ (xs : List AT), (∀ x ∈ xs, ∀ (A : List (List UInt8)) (a : List UInt8), a ∈ ats x A ↔ a ∈ A ∨ a ∈ lv x) → ∀ A, a ∈ atsL xs A ↔ a ∈ A ∨ a ∈ lvL xs := by
      intro xs
      induction xs with
      | nil => intro _ A; simp [atsL, lvL]
      | cons x r ihr =>
        intro hx A
        rw [atsL, ihr (fun y hy => hx y (List.mem_cons_of_mem _ hy)), hx x (List.mem_cons_self ..), lvL, List.mem_append, or_assoc]
    rw [ats, lv]
    split
    · split
      · rename_i h
        constructor
        · exact .inl
        · rintro (h' | h')
          · exact h'
          · rw [List.mem_singleton] at h'; rw [h']; exact h
      · rw [List.mem_append]
    · exact hL xs ih A
theorem ats_nodup : ∀ (t : AT) (A : List (List UInt8)), A.Nodup → (ats t A).Nodup := by
  intro t
  induction t using AT.ind with
  | h k key val n xs ih =>
    intro A hA
    have hL : ∀ (xs : List AT), (∀ x ∈ xs, ∀ A : List (List UInt8), A.Nodup → (ats x A).Nodup) → ∀ A : List (List UInt8), A.Nodup → (atsL xs A).Nodup := by
      intro xs
      induction xs with
      | nil => intro _ A h; simpa [atsL] using h
      | cons x r ihr =>
        intro hx A h
        rw [atsL]
        exact ihr (fun y hy => hx y (List.mem_cons_of_mem _ hy)) _ (hx x (List.mem_cons_self ..) A h)
    rw [ats]
    split
    · split
      · exact hA
      · rename_i h
        rw [List.nodup_append]
        refine ⟨hA, by simp, fun a ha b hb he => ?_⟩
        rw [List.mem_singleton] at hb
        exact h (by rw [← hb, ← he]; exact ha)
    · exact hL xs ih A hA

/-- What an atom is, where the bits of s tell it. -/
def atS (L : List (List UInt8)) (s : Int) (z : AT) : Bool := s.toNat.testBit (ix (L.map ofL) (ofL (txt z)))
theorem bit_i64 {s : Int} {i : Nat} (h0 : 0 ≤ s) (h1 : s ≤ 9223372036854775807) (hi : i < 63) : decide (iBit .and .i64 (iBit .shr .i64 s (i : Int)) 1 = 1) = s.toNat.testBit i := by
  have e1 : iBit .shr .i64 s (i : Int) = ((s.toNat / 2 ^ i : Nat) : Int) := by
    have hb : min ((i : Int)).toNat (IntKind.bits .i64) = i := by rw [show IntKind.bits .i64 = 64 from rfl]; omega
    simp only [iBit, hb]
    rw [Int.fdiv_eq_ediv_of_nonneg _ (Int.le_of_lt (by have : (0 : Nat) < 2 ^ i := Nat.pow_pos (by omega); exact_mod_cast this))]
    rw [show s = ((s.toNat : Nat) : Int) by omega]
    simp
  rw [e1, Nat.testBit_eq_decide_div_mod_eq]
  generalize s.toNat / 2 ^ i = m
  have e2 : iBit .and .i64 ((m : Nat) : Int) 1 = ((m % 2 : Nat) : Int) := by
    have h : (BitVec.ofInt 64 ((m : Nat) : Int) &&& BitVec.ofInt 64 1).toNat = m % 2 := by
      rw [BitVec.toNat_and, show (BitVec.ofInt 64 1).toNat = 1 from rfl, Nat.and_one_is_mod, BitVec.ofInt_natCast, BitVec.toNat_ofNat]
      omega
    show IntKind.wrap .i64 (((BitVec.ofInt 64 ((m : Nat) : Int) &&& BitVec.ofInt 64 1).toNat : Nat) : Int) = _
    rw [h]
    exact wrap64 (by omega)
  rw [e2, decide_eq_decide]
  omega
theorem closure_k (L : List (List UInt8)) (hL : L.length ≤ 12) (s : Int) (hs : 0 ≤ s ∧ s ≤ 4096) (ps pa q : Option Addr) (d : Nat) (z : AT) (p : Option Addr) (c : Nat) (w : World) (g : GP w) (hT : IsT w z p c) (hz : errA z = 0) (hk : z.k < 4) (hm : ∀ a ∈ lv z, a ∈ L)
    (h1 : Go.Sx.cell w ps 0 = some (.int .i64 s)) (h2 : Go.Sx.cell w pa 0 = some (.slice q L.length d)) (h3 : Cells w q (L.map fun a => Value.string (ofL a))) :
    FnP Tryd.prog F_ask_Alike_1 #[av z p c, .pointer ps, .pointer pa] w fun v w' => Ext w w' ∧ v = .bool (atS L s z) := by
  cases z with
  | mk k key val n xs =>
    have hk : k < 4 := hk
    have hxs : xs = [] := by
      rcases ask_cases hz with ⟨h, _⟩ | ⟨h, _⟩ | ⟨_, _, h⟩
      · omega
      · omega
      · exact h
    subst hxs
    refine ok_ask_Alike_1 k key val n p ([] : List AT).length c ps pa w _ fun b0 _ => ⟨s, h1, q, L.length, d, h2, fun w5 h5 => ?_⟩
    refine (text_k (.mk k key val n []) p c w5 (hT.ext h5) hz (by simp [nod, nodL]) (g.ext h5)).mono fun v w6 ⟨e6, hv⟩ => ⟨e6, _, hv, fun w8 h8 => ?_⟩
    have hc : Cells w8 q ((L.map ofL).map Value.string) := by rw [List.map_map]; exact h3.ext h8
    have hi := Index_k (L.map ofL) q d (ofL (txt (.mk k key val n []))) (by rw [List.length_map]; omega) w8 hc
    rw [List.length_map] at hi
    have hmem : ofL (txt (.mk k key val n [])) ∈ L.map ofL := List.mem_map.2 ⟨_, hm _ (by rw [lv, if_pos (show ([] : List AT).length = 0 from rfl)]; simp), rfl⟩
    refine hi.mono fun v w9 ⟨e9, i, hv, hi⟩ => ⟨e9, i, hv, ?_⟩
    obtain rfl : i = (ix (L.map ofL) (ofL (txt (.mk k key val n []))) : Int) := by
      rcases hi with ⟨_, h⟩ | ⟨h, _⟩
      · exact h
      · exact absurd hmem h
    have hlt := (ix_lt hmem).1
    rw [List.length_map] at hlt
    exact ⟨by omega, fun w11 h11 => ⟨h11, by rw [bit_i64 hs.1 (by omega) (by omega)]; rfl⟩⟩
end Go.Proofs.YteelndoflikliaaDoor
