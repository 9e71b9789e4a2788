/- Scripts with gaps: cuts, parse, Names. -/
import Derived.Test.YtjeboeahhhhbdaaDoorTmP
import Derived.Test.YtjeboeahhhhbdaaDoorTmW
import Derived.Test.YtjeboeahhhhbdaaDoorTxt
set_option linter.unusedVariables false
set_option linter.unusedSimpArgs false
namespace Go.Proofs.YtjeboeahhhhbdaaDoor
open Go.Sx Go.RowKit

theorem idx_cases (c : UInt8) : ∀ l : By, (c ∉ l ∧ Lib.indexByte l c = -1) ∨ ∃ a b, l = a ++ c :: b ∧ c ∉ a ∧ Lib.indexByte l c = a.length
  | [] => .inl ⟨by simp, rfl⟩
  | x :: l => by
    by_cases hx : x = c
    · subst hx; exact .inr ⟨[], l, rfl, by simp, by simp [Lib.indexByte]⟩
    · rcases idx_cases c l with ⟨h1, h2⟩ | ⟨a, b, h1, h2, h3⟩
      · exact .inl ⟨by simp [h1, Ne.symm hx], by simp [Lib.indexByte, hx, h2]⟩
      · refine .inr ⟨x :: a, b, by simp [h1], by simp [h2, Ne.symm hx], ?_⟩
        simp only [Lib.indexByte, h3, beq_iff_eq, hx, if_false]
        rw [if_neg (by omega)]; simp
theorem ext_a (a b : By) : (ofL (a ++ b)).extract 0 a.length = ofL a := by
  rw [← ofL_of ((ofL (a ++ b)).extract 0 a.length)]
  congr 1
  simp [ofL]
theorem ext_b (a b : By) (k : Nat) (hk : k = a.length) (n : Nat) (hn : n = a.length + b.length) : (ofL (a ++ b)).extract k n = ofL b := by
  rw [← ofL_of ((ofL (a ++ b)).extract k n)]
  congr 1
  subst hk hn
  simp [ofL]
theorem sIndex_k (s : ByteArray) (c : UInt8) (w : World) : FnP Tryd.prog F_internal_stringslite_Index #[.string s, .string ⟨#[c]⟩] w fun v w' => Ext w w' ∧ v = .int .i64 (Lib.indexByte s.data.toList c) :=
  ⟨fun args w => Tryd.call62 args w, (Tryd.stringslite_Index_one s c w).mono fun e w' ⟨he, hw⟩ => ⟨_, he, hw ▸ Ext.refl _, rfl⟩⟩
theorem size_list (s : ByteArray) : s.size = s.data.toList.length := by simp
theorem Cut_k (c : UInt8) (s : ByteArray) (hs : s.size ≤ 9223372036854775807) (w : World) : FnP Tryd.prog F_strings_Cut #[.string s, .string ⟨#[c]⟩] w fun v w' => Ext w w' ∧
    ((c ∉ s.data.toList ∧ v = .tuple #[.string s, .string ⟨#[]⟩, .bool false]) ∨ ∃ a b, s.data.toList = a ++ c :: b ∧ c ∉ a ∧ v = .tuple #[.string (ofL a), .string (ofL b), .bool true]) := by
  have lite : ∀ w, FnP Tryd.prog F_internal_stringslite_Cut #[.string s, .string ⟨#[c]⟩] w fun v w' => Ext w w' ∧
    ((c ∉ s.data.toList ∧ v = .tuple #[.string s, .string ⟨#[]⟩, .bool false]) ∨ ∃ a b, s.data.toList = a ++ c :: b ∧ c ∉ a ∧ v = .tuple #[.string (ofL a), .string (ofL b), .bool true]) := by
    intro w
    refine ok_internal_stringslite_Cut s ⟨#[c]⟩ w _ fun w0 h0 => (sIndex_k s c w0).mono fun v w1 ⟨e1, hv⟩ => ⟨e1, _, hv, ?_⟩
    have s1 : (⟨#[c]⟩ : ByteArray).size = 1 := rfl
    rcases idx_cases c s.data.toList with ⟨h1, h2⟩ | ⟨a, b, h1, h2, h3⟩
    · rw [h2]; exact ⟨fun h => by omega, fun _ w3 h3 => ⟨h3, .inl ⟨h1, rfl⟩⟩⟩
    · rw [h3, s1]
      have hsz : s.size = a.length + 1 + b.length := by rw [size_list, h1]; simp; omega
      have hs' : s = ofL (a ++ c :: b) := by rw [← h1, ofL_of]
      refine ⟨fun _ => ⟨by omega, by omega, by omega, i64 (by omega), by omega, by omega, by omega, fun w3 h3 => ⟨h3, .inr ⟨a, b, h1, h2, ?_⟩⟩⟩, fun h => by omega⟩
      have e1 : s.extract (0 : Int).toNat ((a.length : Nat) : Int).toNat = ofL a := by
        rw [hs']; simpa using ext_a a (c :: b)
      have e2 : s.extract (((a.length : Nat) : Int) + ((1 : Nat) : Int)).toNat (s.size : Int).toNat = ofL b := by
        have := ext_b (a ++ [c]) b (((a.length : Nat) : Int) + ((1 : Nat) : Int)).toNat (by simp <;> omega) (s.size : Int).toNat (by simp <;> omega)
        rw [← this, hs']; simp
      rw [e1, e2]
  refine ok_strings_Cut s ⟨#[c]⟩ w _ fun w0 h0 => (lite w0).mono fun v w1 ⟨e1, hv⟩ => ⟨e1, ?_⟩
  rcases hv with ⟨h1, hv⟩ | ⟨a, b, h1, h2, hv⟩
  · exact ⟨_, _, _, hv, fun w5 h5 => ⟨h5, .inl ⟨h1, rfl⟩⟩⟩
  · exact ⟨_, _, _, hv, fun w5 h5 => ⟨h5, .inr ⟨a, b, h1, h2, rfl⟩⟩⟩
theorem CutPrefix_k (c : UInt8) (s : ByteArray) (hs : s.size ≤ 9223372036854775807) (w : World) : FnP Tryd.prog F_strings_CutPrefix #[.string s, .string ⟨#[c]⟩] w fun v w' => Ext w w' ∧
    (((∀ t, s.data.toList ≠ c :: t) ∧ v = .tuple #[.string s, .bool false]) ∨ ∃ t, s.data.toList = c :: t ∧ v = .tuple #[.string (ofL t), .bool true]) := by
  have s1 : (⟨#[c]⟩ : ByteArray).size = 1 := rfl
  have has : ∀ w, FnP Tryd.prog F_internal_stringslite_HasPrefix #[.string s, .string ⟨#[c]⟩] w fun v w' => Ext w w' ∧
      (((∀ t, s.data.toList ≠ c :: t) ∧ v = .bool false) ∨ ∃ t, s.data.toList = c :: t ∧ v = .bool true) := by
    intro w
    refine ok_internal_stringslite_HasPrefix s ⟨#[c]⟩ w _ ⟨fun _ => by omega, fun _ => by omega, fun h => h, fun w0 h0 => ⟨h0, ?_⟩⟩
    rw [s1]
    have hl := size_list s
    have he : s = ofL s.data.toList := (ofL_of s).symm
    cases h : s.data.toList with
    | nil =>
      rw [h] at hl
      refine .inl ⟨fun t ht => (by cases ht), ?_⟩
      have h0 : s.size = 0 := hl
      simp [h0]
    | cons x t =>
      rw [h] at hl he
      have h1 : (((1 : Nat) : Int) ≤ (s.size : Int)) := by rw [hl]; simp; omega
      have h2 : s.extract (0 : Int).toNat (((1 : Nat) : Int)).toNat = ofL [x] := by rw [he]; exact ext_a [x] t
      rw [h2]
      by_cases hx : x = c
      · subst hx
        refine .inr ⟨t, rfl, ?_⟩
        have : (ofL [x] : ByteArray) = ⟨#[x]⟩ := rfl
        have h1' : (1 : Int) ≤ (s.size : Int) := h1
        simp [h1', this]
      · refine .inl ⟨fun t' ht => by simp at ht; exact hx ht.1, ?_⟩
        have : ¬ (ofL [x] : ByteArray) = ⟨#[c]⟩ := fun he => hx (by have := congrArg (fun s : ByteArray => s.data.toList) he; simpa [ofL] using this)
        simp [this]
  have lite : ∀ w, FnP Tryd.prog F_internal_stringslite_CutPrefix #[.string s, .string ⟨#[c]⟩] w fun v w' => Ext w w' ∧
      (((∀ t, s.data.toList ≠ c :: t) ∧ v = .tuple #[.string s, .bool false]) ∨ ∃ t, s.data.toList = c :: t ∧ v = .tuple #[.string (ofL t), .bool true]) := by
    intro w
    refine ok_internal_stringslite_CutPrefix s ⟨#[c]⟩ w _ fun w0 h0 => (has w0).mono fun v w1 ⟨e1, hv⟩ => ⟨e1, ?_⟩
    rcases hv with ⟨h1, hv⟩ | ⟨t, h1, hv⟩
    · exact ⟨_, hv, fun _ w3 h3 => ⟨h3, .inl ⟨h1, rfl⟩⟩, fun h => by cases h⟩
    · have hl := size_list s
      rw [h1, List.length_cons] at hl
      refine ⟨_, hv, fun h => by (cases h), fun _ => ⟨by omega, by rw [s1]; omega, by omega, fun w3 h3 => ⟨h3, .inr ⟨t, h1, ?_⟩⟩⟩⟩
      have hs' : s = ofL ([c] ++ t) := by rw [← ofL_of s, h1]; rfl
      have e2 : s.extract (((⟨#[c]⟩ : ByteArray).size : Nat) : Int).toNat (s.size : Int).toNat = ofL t := by
        have := ext_b [c] t (((⟨#[c]⟩ : ByteArray).size : Nat) : Int).toNat (by rw [s1]; rfl) (s.size : Int).toNat (by simp <;> omega)
        rw [← this, hs']
      rw [e2]
  refine ok_strings_CutPrefix s ⟨#[c]⟩ w _ fun w0 h0 => (lite w0).mono fun v w1 ⟨e1, hv⟩ => ⟨e1, ?_⟩
  rcases hv with ⟨h1, hv⟩ | ⟨t, h1, hv⟩
  · exact ⟨_, _, hv, fun w5 h5 => ⟨h5, .inl ⟨h1, rfl⟩⟩⟩
  · exact ⟨_, _, hv, fun w5 h5 => ⟨h5, .inr ⟨t, h1, rfl⟩⟩⟩

theorem Index_k (L : List ByteArray) (p : Option Addr) (c : Nat) (v : ByteArray) (hL : L.length ≤ 1099511627776) (w : World) (h : Cells w p (L.map Value.string)) :
    FnP Tryd.prog F_slices_Index_string_string #[.slice p L.length c, .string v] w fun r w' => Ext w w' ∧ ∃ i : Int, r = .int .i64 i ∧ ((v ∈ L ∧ 0 ≤ i) ∨ (v ∉ L ∧ i = -1)) := by
  refine ok_slices_Index_string_string p L.length c v w _ ⟨fun k w' => w' = w ∧ 0 ≤ k ∧ k ≤ L.length ∧ ∀ j : Nat, (j : Int) < k → L[j]? ≠ some v, fun k _ => (L.length - k).toNat, ⟨rfl, by omega, by omega, fun j hj => by omega⟩, ?_⟩
  rintro k w2 ⟨rfl, hk0, hk1, hall⟩
  refine ⟨fun hlt => ?_, fun hge w3 h3 => ⟨h3, -1, rfl, .inr ⟨fun hm => ?_, rfl⟩⟩⟩
  · obtain ⟨s, hs⟩ : ∃ s, L[k.toNat]? = some s := ⟨_, List.getElem?_eq_getElem (by omega)⟩
    have hc : Go.Sx.cell w2 (pIdx p k 1) 0 = some (.string s) := by
      rw [cell_pIdx]
      exact h _ _ (by simp [hs])
    refine ⟨fun hq => cell_p hc (pIdx_none.2 hq), hk0, hlt, s, hc, fun he w4 h4 => ⟨h4, k, rfl, .inl ⟨?_, hk0⟩⟩, fun hne => ⟨i64 (by omega), ⟨rfl, by omega, by omega, fun j hj => ?_⟩, by simp only []; omega⟩⟩
    · subst he; exact List.mem_of_getElem? hs
    · by_cases hjk : (j : Int) < k
      · exact hall j hjk
      · have : j = k.toNat := by omega
        rw [this, hs]
        intro h; injection h with h; exact hne h.symm
  · obtain ⟨j, hj, hv⟩ := List.getElem_of_mem hm
    exact hall j (by omega) (by rw [List.getElem?_eq_getElem hj, hv])
theorem Contains_k (L : List ByteArray) (p : Option Addr) (c : Nat) (v : ByteArray) (hL : L.length ≤ 1099511627776) (w : World) (h : Cells w p (L.map Value.string)) :
    FnP Tryd.prog F_slices_Contains_string_string #[.slice p L.length c, .string v] w fun r w' => Ext w w' ∧ ∃ b : Bool, r = .bool b ∧ (b = true ↔ v ∈ L) := by
  refine ok_slices_Contains_string_string p L.length c v w _ fun w0 h0 => (Index_k L p c v hL w0 (h.ext h0)).mono fun r w1 ⟨e1, i, hv, hi⟩ => ⟨e1, i, hv, fun w3 h3 => ⟨h3, _, rfl, ?_⟩⟩
  rw [decide_eq_true_iff]
  rcases hi with ⟨a, b⟩ | ⟨a, b⟩
  · exact ⟨fun _ => a, fun _ => by omega⟩
  · exact ⟨fun h => by omega, fun h => absurd h a⟩

/-- A script's run: each piece is handed on, in its order. -/
theorem parse_k (s : ByteArray) (hs : s.size ≤ 9223372036854775807) (text gap : Value) (I : List Sg → World → Prop) (w : World) (h0 : I [] w) (hI : ∀ L w w', I L w → Ext w w' → I L w')
    (ht : ∀ L l w, I L w → l.length ≤ s.size → (gaps L).length ≤ s.size → FnVP Tryd.prog text [.string (ofL l)] w fun v w' => v = .tuple #[] ∧ I (L ++ [.txt l]) w')
    (hg : ∀ L n w, I L w → lbL n → (gaps L).length < s.size → FnVP Tryd.prog gap [.string (ofL n)] w fun v w' => v = .tuple #[] ∧ I (L ++ [.gap n]) w') :
    FnP Tryd.prog F_tmpl_parse #[.string s, text, gap] w fun v w' => ∃ L b, v = .bool b ∧ Segs s.data.toList L b ∧ I L w' := by
  refine ok_tmpl_parse s text gap w _ ⟨fun s1 w' => ∃ L, I L w' ∧ (∀ M b, Segs s1.data.toList M b → Segs s.data.toList (L ++ M) b) ∧ (gaps L).length + s1.size ≤ s.size, fun s1 _ => s1.size, ⟨[], h0, fun M b h => h, by simp [gaps]⟩, ?_⟩
  rintro s1 w2 ⟨L, hL, hM, hlen⟩ w3 h3
  refine (Cut_k 36 s1 (by omega) w3).mono fun v w4 ⟨e4, hv⟩ => ⟨e4, ?_⟩
  rcases hv with ⟨hno, hv⟩ | ⟨a, b, hl, ha, hv⟩
  · refine ⟨_, _, _, hv, fun w8 h8 => ?_⟩
    obtain ⟨fi, cap, hfe, hfp⟩ := ht L s1.data.toList w8 (hI _ _ _ hL h8) (by rw [← size_list]; omega) (by omega)
    rw [ofL_of] at hfp
    refine ⟨fi, cap, hfe, hfp.mono fun v w9 ⟨hv9, h9⟩ => ⟨hv9, fun _ w10 h10 => ⟨_, true, rfl, hM _ _ (.stop hno), hI _ _ _ h9 h10⟩, fun h => by cases h⟩⟩
  have hsz : s1.size = a.length + 1 + b.length := by rw [size_list, hl]; simp; omega
  refine ⟨_, _, _, hv, fun w8 h8 => ?_⟩
  obtain ⟨fi, cap, hfe, hfp⟩ := ht L a w8 (hI _ _ _ hL h8) (by omega) (by omega)
  refine ⟨fi, cap, hfe, hfp.mono fun v w9 ⟨hv9, I9⟩ => ⟨hv9, fun h => by (cases h), fun _ w10 h10 => ?_⟩⟩
  have hbl : (ofL b).size = b.length := rfl
  have g0 : ∀ M : List Sg, (gaps (L ++ [.txt a])).length = (gaps L).length := fun _ => by simp [gaps_app, gaps]
  refine (CutPrefix_k 36 (ofL b) (by omega) w10).mono fun v w11 ⟨e11, hv⟩ => ⟨e11, ?_⟩
  rcases hv with ⟨hno, hv⟩ | ⟨t, hb, hv⟩
  · have hno : ∀ t, b ≠ 36 :: t := hno
    refine ⟨_, _, hv, fun h => by (cases h), fun _ w14 h14 => ?_⟩
    refine (Cut_k 125 (ofL b) (by omega) w14).mono fun v w15 ⟨e15, hv⟩ => ⟨e15, ?_⟩
    have bad : (∀ n t, lbL n → b ≠ 123 :: (n ++ 125 :: t)) → Segs s.data.toList (L ++ [.txt a]) false := fun h2 => hM _ _ (by rw [hl]; exact .bad ha hno h2)
    rcases hv with ⟨hn2, hv⟩ | ⟨c, d, hb, hc, hv⟩
    · have hn2 : (125 : UInt8) ∉ b := hn2
      have hbad := bad fun n t _ he => hn2 (by rw [he]; simp)
      refine ⟨_, _, _, hv, fun w19 h19 => (CutPrefix_k 123 (ofL b) (by omega) w19).mono fun v w20 ⟨e20, hv⟩ => ⟨e20, ?_⟩⟩
      rcases hv with ⟨_, hv⟩ | ⟨t, _, hv⟩
      · exact ⟨_, _, hv, fun _ w23 h23 => ⟨_, false, rfl, hbad, hI _ _ _ I9 h23⟩, fun h => by cases h.2⟩
      · exact ⟨_, _, hv, fun _ w23 h23 => ⟨_, false, rfl, hbad, hI _ _ _ I9 h23⟩, fun h => by cases h.2⟩
    · have hb : b = c ++ 125 :: d := hb
      have hcl : (ofL c).size = c.length := rfl
      have hbd : b.length = c.length + 1 + d.length := by rw [hb]; simp; omega
      refine ⟨_, _, _, hv, fun w19 h19 => (CutPrefix_k 123 (ofL c) (by omega) w19).mono fun v w20 ⟨e20, hv⟩ => ⟨e20, ?_⟩⟩
      rcases hv with ⟨hn3, hv⟩ | ⟨t, hct, hv⟩
      · have hn3 : ∀ t, c ≠ 123 :: t := hn3
        have hbad := bad fun n t hn he => by
          have : c ++ 125 :: d = (123 :: n) ++ 125 :: t := by rw [← hb, he]; rfl
          obtain ⟨h1, _⟩ := split_uniq this hc (by simp; exact lb_125 hn)
          exact hn3 _ h1
        exact ⟨_, _, hv, fun _ w23 h23 => ⟨_, false, rfl, hbad, hI _ _ _ I9 h23⟩, fun h => by cases h.1⟩
      · have hct : c = 123 :: t := hct
        have htl : c.length = t.length + 1 := by rw [hct]; rfl
        refine ⟨_, _, hv, fun h => by (rcases h with h | h <;> cases h), fun _ w23 h23 => ?_⟩
        refine (Label_k (ofL t) (by rw [ofL_size]; omega) w23).mono fun v w24 ⟨e24, hv⟩ => ⟨e24, _, hv, fun hf w26 h26 => ?_, fun hlb w26 h26 => ?_⟩
        · have hbad := bad fun n t' hn he => by
            have : c ++ 125 :: d = (123 :: n) ++ 125 :: t' := by rw [← hb, he]; rfl
            obtain ⟨h1, _⟩ := split_uniq this hc (by simp; exact lb_125 hn)
            rw [hct] at h1
            simp only [List.cons.injEq, true_and] at h1
            subst h1
            unfold lbL at hn
            rw [hf] at hn; cases hn
          exact ⟨_, false, rfl, hbad, hI _ _ _ I9 h26⟩
        · obtain ⟨fi, cap, hfe, hfp⟩ := hg (L ++ [.txt a]) t w26 (hI _ _ _ I9 h26) hlb (by rw [g0 []]; omega)
          refine ⟨fi, cap, hfe, hfp.mono fun v w27 ⟨hv27, I27⟩ => ⟨hv27, ⟨_, I27, fun M b' hseg => ?_, ?_⟩, ?_⟩⟩
          · have : Segs s1.data.toList (.txt a :: .gap t :: M) b' := by
              rw [hl, hb, hct]
              exact .gap ha hlb hseg
            simpa using hM _ _ this
          · rw [gaps_app, List.length_append, g0 [], ofL_size]
            simp only [gaps, List.length_cons, List.length_nil]; omega
          · simp only [ofL_size]; omega
  · have hb : b = 36 :: t := hb
    have htl : b.length = t.length + 1 := by rw [hb]; rfl
    refine ⟨_, _, hv, fun _ w14 h14 => ?_, fun h => by cases h⟩
    obtain ⟨fi, cap, hfe, hfp⟩ := ht (L ++ [.txt a]) [36] w14 (hI _ _ _ I9 h14) (by simp; omega) (by rw [g0 []]; omega)
    refine ⟨fi, cap, hfe, hfp.mono fun v w15 ⟨hv15, I15⟩ => ⟨hv15, ⟨_, I15, fun M b' hseg => ?_, ?_⟩, ?_⟩⟩
    · have : Segs s1.data.toList (.txt a :: .txt [36] :: M) b' := by
        rw [hl, hb]
        exact .dol ha hseg
      simpa using hM _ _ this
    · rw [gaps_app, List.length_append, g0 [], ofL_size]
      simp only [gaps, List.length_nil]; omega
    · simp only [ofL_size]; omega
end Go.Proofs.YtjeboeahhhhbdaaDoor
