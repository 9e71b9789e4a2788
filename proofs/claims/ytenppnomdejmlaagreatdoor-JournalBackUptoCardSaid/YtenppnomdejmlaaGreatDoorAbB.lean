/- The reader of asks: an ask, and two of them. -/
import Derived.Test.YtenppnomdejmlaaGreatDoorAbA
set_option linter.unusedVariables false
set_option linter.unusedSimpArgs false
namespace Go.Proofs.YtenppnomdejmlaaGreatDoor
open Go.Sx Go.RowKit

theorem parse_rng {l : List UInt8} {n : Int} (h : Lib.parseIntB 64 l = .ok n) : InR .i64 n := by
  have e : (2 : Nat) ^ (64 - 1) = 9223372036854775808 := by decide
  unfold Lib.parseIntB at h
  split at h
  · cases h
  · simp only at h
    split at h
    · cases h
    · cases h
    · rename_i u _
      split at h
      · cases h
      · rename_i h1
        split at h
        · cases h
        · rename_i h3
          injection h with h
          rw [e] at h1 h3
          split at h
          · rename_i h2; exact i64 (by simp [h2] at h1 h3; omega)
          · rename_i h2; exact i64 (by simp [h2] at h1 h3; omega)

/-! ### What texts begin with -/
theorem lb_sgs {s : ByteArray} (h : lbB s = true) : ∀ x ∈ s.data.toList, x ∉ sgs := fun x hx hs => by
  have key : ∀ x ∈ sgs, okC (x.toNat : Int) = false := by decide
  unfold lbB at h
  simp only [Bool.and_eq_true] at h
  have := List.all_eq_true.1 h.2 (x.toNat : Int) (List.mem_map.2 ⟨x, hx, rfl⟩)
  rw [key x hs] at this
  cases this
theorem un_sgs {s : ByteArray} (h : unB s = true) : ∀ x ∈ s.data.toList, x ∉ sgs := by
  unfold unB at h
  simp only [Bool.or_eq_true, decide_eq_true_eq] at h
  rcases h with (h | h) | h <;> (subst h; decide)
theorem itoa_sgs {n : Int} (h : 0 ≤ n) : ∀ x ∈ Lib.itoa n, x ∉ sgs := fun x hx hs => by
  have key : ∀ x ∈ sgs, x.toNat < 48 ∨ 57 < x.toNat := by decide
  rcases key x hs with hk | hk
  · exact itoa_no h hk hx
  · exact itoa_no2 h hk hx
theorem head_no {k y r : List UInt8} {c : UInt8} (hne : k ≠ []) (hk : ∀ x ∈ k, x ∉ sgs) (hc : c ∈ sgs) : k ++ y ≠ c :: r := by
  cases k with
  | nil => exact absurd rfl hne
  | cons a k =>
    intro h
    simp at h
    exact hk a (by simp) (h.1 ▸ hc)
theorem lb_ne {s : ByteArray} (h : lbB s = true) : s.data.toList ≠ [] := fun h0 => by
  have := (lbB_size h).1
  rw [← bs_len, h0] at this
  simp at this
theorem un_ne {s : ByteArray} (h : unB s = true) : s.data.toList ≠ [] := fun h0 => by
  have := unB_size h
  rw [← bs_len, h0] at this
  simp at this

theorem err1_em {k : Int} {key val : ByteArray} {n : Int} {l : Nat} (h : err1 k key val n l = 0) (hk : 4 ≤ k) : key = emS ∧ val = emS ∧ n = 0 := by
  unfold err1 at h
  split at h
  · omega
  split at h
  · omega
  split at h
  · omega
  rename_i a
  refine ⟨Classical.byContradiction fun h1 => a (.inl ⟨hk, h1⟩), Classical.byContradiction fun h1 => a (.inr (.inl ⟨by omega, h1⟩)), Classical.byContradiction fun h1 => a (.inr (.inr ⟨by omega, h1⟩))⟩
theorem nod1 (k : Int) (key val : ByteArray) (n : Int) : nod (.mk k key val n []) = 1 := by simp [nod, nodL]
theorem txt_inv {t : AT} (h : errA t = 0) :
    (∃ key, t = .mk 1 key emS 0 [] ∧ lbB key = true ∧ txt t = 63 :: key.data.toList) ∨
    (∃ key val, t = .mk 2 key val 0 [] ∧ lbB key = true ∧ lbB val = true ∧ txt t = key.data.toList ++ 61 :: val.data.toList) ∨
    (∃ key n, t = .mk 3 key emS n [] ∧ unB key = true ∧ 0 ≤ n ∧ n ≤ 1099511627776 ∧ txt t = key.data.toList ++ 62 :: 61 :: Lib.itoa n) ∨
    (∃ x, t = .mk 4 emS emS 0 [x] ∧ errA x = 0 ∧ txt t = 33 :: txt x ∧ nod t = 1 + nod x) ∨
    (∃ k x y, (k = 5 ∨ k = 6) ∧ t = .mk k emS emS 0 [x, y] ∧ errA x = 0 ∧ errA y = 0 ∧ txt t = 40 :: (txt x ++ (if k = 5 then 38 else 124) :: (txt y ++ [41])) ∧ nod t = 1 + nod x + nod y) := by
  cases t with
  | mk k key val n xs =>
  have h1 : err1 k key val n xs.length = 0 := (errA_node h).1
  rcases ask_cases h with ⟨rfl, x, rfl, hx⟩ | ⟨hk, x, y, rfl, hx, hy⟩ | ⟨hk1, hk4, rfl⟩
  · obtain ⟨rfl, rfl, rfl⟩ := err1_em h1 (by omega)
    exact .inr (.inr (.inr (.inl ⟨x, rfl, hx, txt4 _ _ _ _, by simp [nod, nodL]⟩)))
  · obtain ⟨rfl, rfl, rfl⟩ := err1_em h1 (by omega)
    exact .inr (.inr (.inr (.inr ⟨k, x, y, hk, rfl, hx, hy, txt56 hk _ _ _ _ _, by simp [nod, nodL]; omega⟩)))
  · rcases atom_ok h hk4 with ⟨rfl, a, rfl, rfl⟩ | ⟨rfl, a, b, rfl⟩ | ⟨rfl, a, rfl, c, d⟩
    · exact .inl ⟨key, rfl, a, txt1 _ _ _ _⟩
    · exact .inr (.inl ⟨key, val, rfl, a, b, txt2 _ _ _ _⟩)
    · exact .inr (.inr (.inl ⟨key, n, rfl, a, c, d, txt3 _ _ _ _⟩))

/-! ### What a call leaves -/
theorem fr_b {rb b0 : Nat} {w w' w'' : World} (h : Fr (· = rb) w w') (hb : w.heap.size ≤ b0) (x : ExtB [b0] [] w' w'') : Fr (· = rb) w w'' :=
  h.trans (S' := fun b => b = b0) (fr_extB x (by intro d hd; simp at hd; exact .inl hd)) fun b hb' => .inr (hb' ▸ hb)
theorem RD.b {B : Nat} {w w' : World} {rb b0 : Nat} {l : List UInt8} {left : Nat} (o : RD B w rb l left) (hb : b0 ≠ rb) (x : ExtB [b0] [] w w') : RD B w' rb l left :=
  RD.fr (S := fun b => b = b0) o (fr_extB x (by intro d hd; simp at hd; exact .inl hd)) fun h => hb h.symm
theorem kept_of {rb : Nat} {w w' : World} {ns : List Nat} (h : Fr (· = rb) w w') (hn : ∀ b ∈ ns, b < w.heap.size ∧ b ≠ rb) : Kept ns w w' := h.kept hn

structure Post (B rb : Nat) (l : List UInt8) (left : Nat) (w : World) (t : AT) (p : Option Addr) (c : Nat) (ok : Bool) (w' : World) (l' : List UInt8) (left' : Nat) (used : Nat) : Prop where
  fr : Fr (· = rb) w w'
  rd : RD B w' rb l' left'
  len : l'.length ≤ l.length
  le : left' ≤ left
  good : ok = true → WfA t ∧ nod t + left' = left + used ∧ ∀ S : Nat → Prop, (∀ b, S b → b < w.heap.size) → ∀ w'', Fr S w' w'' → IsT w'' t p c
def AskPost (B rb : Nat) (l : List UInt8) (left : Nat) (w : World) (t : AT) (p : Option Addr) (c : Nat) (ok : Bool) (w' : World) : Prop :=
  ∃ l' left', Post B rb l left w t p c ok w' l' left' 0 ∧ ∀ t0 rest, errA t0 = 0 → nod t0 ≤ left → l = txt t0 ++ rest → sep rest → asc l → ok = true ∧ t = t0 ∧ l' = rest
def TwoPost (B rb : Nat) (l : List UInt8) (left : Nat) (w : World) (t : AT) (p : Option Addr) (c : Nat) (ok : Bool) (w' : World) : Prop :=
  ∃ l' left', Post B rb l left w t p c ok w' l' left' 1 ∧ ∀ (k : Int) (x y : AT) rest, (k = 5 ∨ k = 6) → errA x = 0 → errA y = 0 → nod x + nod y ≤ left → l = txt x ++ (if k = 5 then 38 else 124) :: (txt y ++ 41 :: rest) → asc l → ok = true ∧ t = .mk k emS emS 0 [x, y] ∧ l' = rest
def AskC (n : Nat) : Prop := ∀ (W0 w : World) (B rb left : Nat) (l : List UInt8), (left ≤ n ∧ left ≤ 60) → GB W0 → Ext W0 w → W0.heap.size ≤ rb → RD B w rb l left → l.length ≤ 2000 →
  FnP Tryz.prog F_ask_reader_ask #[rp rb] w fun v w' => ∃ t p c ok, v = .tuple #[av t p c, .bool ok] ∧ AskPost B rb l left w t p c ok w'
def TwoC (n : Nat) : Prop := ∀ (W0 w : World) (B rb left : Nat) (l : List UInt8), (left ≤ n ∧ left ≤ 60) → GB W0 → Ext W0 w → W0.heap.size ≤ rb → RD B w rb l left → l.length ≤ 2000 →
  FnP Tryz.prog F_ask_reader_two #[rp rb] w fun v w' => ∃ t p c ok, v = .tuple #[av t p c, .bool ok] ∧ TwoPost B rb l left w t p c ok w'

theorem asc_tail {a b : List UInt8} (h : asc (a ++ b)) : asc b := fun x hx => h x (List.mem_append_right _ hx)
theorem asc_cons {a : UInt8} {b : List UInt8} (h : asc (a :: b)) : asc b := fun x hx => h x (List.mem_cons_of_mem _ hx)
theorem wf_leaf {k : Int} (hk : 0 ≤ k ∧ k ≤ 100) {a b : List UInt8} (ha : a.length ≤ 2000) (hb : b.length ≤ 2000) {n : Int} (hn : InR .i64 n) : WfA (.mk k (ofL a) (ofL b) n []) := by
  unfold WfA
  exact ⟨i64 (by omega), by rw [ofL_size]; omega, by rw [ofL_size]; omega, hn, by simp, by unfold WfL; trivial⟩
theorem isT_leaf {w : World} {k : Int} {key val : ByteArray} {n : Int} {p : Option Addr} {c : Nat} : IsT w (.mk k key val n []) p c := by
  unfold IsT
  exact ⟨Nat.zero_le _, by unfold IsL; trivial⟩

theorem two_k (n : Nat) (hA : AskC n) : TwoC n := by
  intro W0 w B rb left l hn g h0 hrb o hl
  refine ok_ask_reader_two _ w _ fun b0 hb0 w1 x1 => ?_
  have hlt := o.lt
  have hb0r : b0 ≠ rb := by omega
  have h1 := extB_ext x1
  have o1 := Own.ext o h1
  refine (hA W0 w1 B rb left l hn g (h0.trans h1) hrb o1 hl).mono fun v w2 ⟨x, px, cx, ok1, hv, l2, left2, P2, C2⟩ => ⟨kept_of P2.fr (by intro b hb; simp at hb; subst hb; exact ⟨x1.lt _ (by simp), hb0r⟩), x.k, x.key, x.val, x.n, px, x.xs.length, cx, ok1, hv, fun b11 hb11 => ⟨fun hno w12 x12 => ?_, fun hok w12 x12 => ?_⟩⟩
  · refine ⟨zeroA, none, 0, false, rfl, l2, left2, ⟨fr_b ((fr_ext h1).tr P2.fr) hb0 x12, RD.b P2.rd hb0r x12, P2.len, P2.le, fun h => by cases h⟩, fun k a b rest hk ha hb hnod he hasc => ?_⟩
    have := C2 a _ ha (by omega) he (by split <;> exact sep_cons (by decide)) hasc
    rw [hno] at this
    exact absurd this.1 (by simp)
  subst hok
  obtain ⟨hWx, hnx, hTx⟩ := P2.good rfl
  have f2 : Fr (· = rb) w w2 := (fr_ext h1).tr P2.fr
  have h12 := extB_ext x12
  have hb2 : rb < w2.heap.size := P2.rd.lt
  have hb0w : b0 < w1.heap.size := x1.lt b0 (by simp)
  have s12 : w1.heap.size ≤ w2.heap.size := P2.fr.size
  have hns : ∀ b ∈ [b0, b11], b < w12.heap.size ∧ b ≠ rb := by
    intro b hb
    refine ⟨x12.lt b hb, ?_⟩
    simp at hb
    rcases hb with rfl | rfl
    · exact hb0r
    · omega
  -- behind the sign between the two
  have tail : ∀ (k : Int) (w15 : World), (k = 5 ∨ k = 6) → ∀ (l4 : List UInt8), Fr (· = rb) w2 w15 → RD B w15 rb l4 left2 → b0 < w15.heap.size → b11 < w15.heap.size → l4.length ≤ l2.length →
      (∀ (k' : Int) (a b : AT) rest, (k' = 5 ∨ k' = 6) → errA a = 0 → errA b = 0 → nod a + nod b ≤ left → l = txt a ++ (if k' = 5 then 38 else 124) :: (txt b ++ 41 :: rest) → asc l → k' = k ∧ x = a ∧ l4 = txt b ++ 41 :: rest) →
      FnP Tryz.prog F_ask_reader_ask #[rp rb] w15 fun v w16 => Kept [b0, b11] w15 w16 ∧ ∃ y py cy ok2, v = .tuple #[av y py cy, .bool ok2] ∧ ∀ b25 : Nat, w16.heap.size ≤ b25 →
        ∃ (J : Bool → Int → ByteArray → ByteArray → Int → Option Addr → Nat → Nat → World → Prop),
          (∀ w34, ExtB [] [b0, b11, b25] w16 w34 → Run Tryz.prog (.buildSlice T_sl_Ask 2 [(0, av x px cx), (1, av y py cy)]) w34 fun v35 w35 => Ext w34 w35 ∧ ∃ t36 : Option Addr, ∃ tl37 : Nat, ∃ tc38 : Nat, v35 = (.slice t36 tl37 tc38) ∧
            ((ok2 = true → ∀ w39, ExtB [] [b0, b11, b25] w35 w39 → FnP Tryz.prog F_ask_reader_take #[rp rb, .int .u8 41] w39 fun v40 w40 => Kept [b0, b11, b25] w39 w40 ∧ ∃ t41 : Bool, v40 = .bool t41 ∧ J t41 k (⟨#[]⟩ : ByteArray) (⟨#[]⟩ : ByteArray) 0 t36 tl37 tc38 w40) ∧ (ok2 = false → J false k (⟨#[]⟩ : ByteArray) (⟨#[]⟩ : ByteArray) 0 t36 tl37 tc38 w35))) ∧
          (ok2 = true → ∀ w34, ExtB [] [b0, b11, b25] w16 w34 → FnP Tryz.prog F_ask_reader_take #[rp rb, .int .u8 41] w34 fun v35 w35 => Kept [b0, b11, b25] w34 w35 ∧ ∃ t36 : Bool, v35 = .bool t36 ∧
            ∀ w37, ExtB [] [b0, b11, b25] w35 w37 → Run Tryz.prog (.buildSlice T_sl_Ask 2 [(0, av x px cx), (1, av y py cy)]) w37 fun v38 w38 => Ext w37 w38 ∧ ∃ t39 : Option Addr, ∃ tl40 : Nat, ∃ tc41 : Nat, v38 = (.slice t39 tl40 tc41) ∧ J t36 k (⟨#[]⟩ : ByteArray) (⟨#[]⟩ : ByteArray) 0 t39 tl40 tc41 w38) ∧
          (ok2 = false → ∀ w34, ExtB [] [b0, b11, b25] w16 w34 → Run Tryz.prog (.buildSlice T_sl_Ask 2 [(0, av x px cx), (1, av y py cy)]) w34 fun v35 w35 => Ext w34 w35 ∧ ∃ t36 : Option Addr, ∃ tl37 : Nat, ∃ tc38 : Nat, v35 = (.slice t36 tl37 tc38) ∧ J false k (⟨#[]⟩ : ByteArray) (⟨#[]⟩ : ByteArray) 0 t36 tl37 tc38 w35) ∧
          (∀ ok kk key val nn q ql qc w33, J ok kk key val nn q ql qc w33 → ∀ w34, ExtB [b0] [] w33 w34 → ∃ t p c ok', Value.tuple #[.agg #[.int .i64 kk, .string key, .string val, .int .i64 nn, .slice q ql qc], .bool ok] = .tuple #[av t p c, .bool ok'] ∧ TwoPost B rb l left w t p c ok' w34) := by
    intro k w15 hk l4 f15 o15 hb015 hb1115 hl4 hC
    have hl2 := P2.len
    have ext15 : Ext W0 w15 := (f2.tr f15).ext h0 (by intro b hb; omega)
    have hle2 := P2.le
    refine (hA W0 w15 B rb left2 l4 (by omega) g ext15 hrb o15 (by omega)).mono fun v w16 ⟨y, py, cy, ok2, hv, l5, left5, P5, C5⟩ => ⟨kept_of P5.fr (by intro b hb; simp at hb; rcases hb with rfl | rfl; (· exact ⟨hb015, hb0r⟩); exact ⟨hb1115, by omega⟩), y, py, cy, ok2, hv, fun b25 hb25 => ?_⟩
    have f16 : Fr (· = rb) w w16 := (f2.tr f15).tr P5.fr
    have hrb16 : rb < w16.heap.size := P5.rd.lt
    have sz2 : w2.heap.size ≤ w15.heap.size := f15.size
    have sz5 : w15.heap.size ≤ w16.heap.size := P5.fr.size
    have szw : w.heap.size ≤ w2.heap.size := f2.size
    have hnb : ∀ (w' : World), (∀ b ∈ [b0, b11, b25], b < w'.heap.size) → ∀ b ∈ [b0, b11, b25], b < w'.heap.size ∧ b ≠ rb := by
      intro w' h b hb
      refine ⟨h b hb, ?_⟩
      simp at hb
      rcases hb with rfl | rfl | rfl <;> omega
    -- the two stand in a new row: whatever was turned behind w16 of the reader alone
    have built : ∀ (w35 w36 : World) (q : Option Addr) (qc : Nat), Fr (· = rb) w16 w35 → Own w16.heap.size w35 T_Ask 5 q 2 qc (encA x px cx ++ encA y py cy) → Fr (fun b => b = rb) w35 w36 →
        ok2 = true → ∀ S : Nat → Prop, (∀ b, S b → b < w.heap.size) → ∀ w'', Fr (fun b => S b ∨ b = b0) w36 w'' → IsT w'' (.mk k emS emS 0 [x, y]) q qc := by
      intro w35 w36 q qc fa ow fb hok2 S hS w'' fc
      subst hok2
      obtain ⟨hWy, hny, hTy⟩ := P5.good rfl
      have fall : Fr (fun b => b = rb ∨ S b ∨ b = b0) w16 w'' := ((fa.tr fb).mono fun b hb => .inl hb).tr (fc.mono fun b hb => .inr hb)
      have bnd : ∀ b, (b = rb ∨ S b ∨ b = b0) → b < w1.heap.size := by
        intro b hb
        have := h1.size
        rcases hb with rfl | hb | rfl
        · omega
        · have := hS b hb; omega
        · exact hb0w
      have tx : IsT w'' x px cx := hTx _ bnd w'' ((f15.mono fun b hb => .inl hb).tr ((P5.fr.mono fun b hb => .inl hb).tr fall))
      have ty : IsT w'' y py cy := hTy _ (fun b hb => by have := bnd b hb; omega) w'' fall
      unfold IsT
      have hle := ow.le
      refine ⟨by simpa using hle.1, isL_lit (l := [(x, px, cx), (y, py, cy)]) (fun j u hu => ?_) (by intro z hz; simp at hz; rcases hz with rfl | rfl <;> assumption)⟩
      have hcell : Go.Sx.cell w35 q j = some u := ow.cells j u (by simpa using hu)
      have hq : ∀ a, q = some a → ¬ (a.block = rb ∨ S a.block ∨ a.block = b0) := fun a ha hb => by
        have := (ow.lt a ha).1
        have := bnd _ hb
        omega
      have := cell_fr hcell ((fb.mono fun b hb => .inl hb).tr (fc.mono fun b hb => .inr hb) : Fr (fun b => b = rb ∨ S b ∨ b = b0) w35 w'') hq
      simpa using this
    refine ⟨fun ok kk key val nn q ql qc w' => (kk = k ∧ key = (⟨#[]⟩ : ByteArray) ∧ val = (⟨#[]⟩ : ByteArray) ∧ nn = 0) ∧ ql = 2 ∧ Fr (· = rb) w16 w' ∧ ∃ l6, RD B w' rb l6 left5 ∧ l6.length ≤ l5.length ∧ (ok = true → ok2 = true ∧ ∀ S : Nat → Prop, (∀ b, S b → b < w.heap.size) → ∀ w'', Fr (fun b => S b ∨ b = b0) w' w'' → IsT w'' (.mk k emS emS 0 [x, y]) q qc) ∧ (∀ rest, l5 = 41 :: rest → ok2 = true → ok = true ∧ l6 = rest), ?_, ?_, ?_, ?_⟩
    · intro w34 x34
      have h34 := extB_ext x34
      refine run_lit elem_sl_Ask [av x px cx, av y py cy] rfl rfl (by intro v hv; simp at hv; rcases hv with rfl | rfl <;> rfl) (by omega) (by omega) fun w35 o35 e35 => ⟨e35, _, _, _, rfl, fun hok2 w39 x39 => ?_, fun hok2 => ?_⟩
      · have h39 := extB_ext x39
        have ow : Own w16.heap.size w39 T_Ask 5 (some ⟨w34.heap.size, 0, none⟩) 2 2 (encA x px cx ++ encA y py cy) := (by simpa [Value.cells, encA] using (o35 w16.heap.size h34.size)) |> fun o => Own.ext o h39
        refine (take_k (Own.ext (Own.ext (Own.ext P5.rd h34) e35) h39) (by have := P5.len; omega) 41 41 rfl).mono fun v w40 ⟨f40, hor⟩ => ⟨kept_of f40 (hnb w39 x39.lt), ?_⟩
        have fa : Fr (· = rb) w16 w39 := fr_ext ((h34.trans e35).trans h39)
        rcases hor with ⟨r, hr, hv, o40⟩ | ⟨hr, hv, o40⟩
        · exact ⟨true, hv, ⟨rfl, rfl, rfl, rfl⟩, rfl, fa.tr f40, r, o40, by rw [hr]; simp, fun _ => ⟨hok2, built w39 w40 _ _ fa ow f40 hok2⟩, fun rest he _ => ⟨rfl, by rw [hr] at he; simpa using he⟩⟩
        · exact ⟨false, hv, ⟨rfl, rfl, rfl, rfl⟩, rfl, fa.tr f40, l5, o40, Nat.le_refl _, fun h => (by cases h), fun rest he _ => absurd he (hr rest)⟩
      · exact ⟨⟨rfl, rfl, rfl, rfl⟩, rfl, fr_ext (h34.trans e35), l5, Own.ext (Own.ext P5.rd h34) e35, Nat.le_refl _, fun h => (by cases h), fun rest he hb => (by rw [hok2] at hb; cases hb)⟩
    · intro hok2 w34 x34
      have h34 := extB_ext x34
      refine (take_k (Own.ext P5.rd h34) (by have := P5.len; omega) 41 41 rfl).mono fun v w35 ⟨f35, hor⟩ => ⟨kept_of f35 (hnb w34 x34.lt), ?_⟩
      have fa : Fr (· = rb) w16 w35 := (fr_ext h34).tr f35
      have body : ∀ (t36 : Bool) (l6 : List UInt8), RD B w35 rb l6 left5 → l6.length ≤ l5.length → (∀ rest, l5 = 41 :: rest → ok2 = true → t36 = true ∧ l6 = rest) → ∀ w37, ExtB [] [b0, b11, b25] w35 w37 → Run Tryz.prog (.buildSlice T_sl_Ask 2 [(0, av x px cx), (1, av y py cy)]) w37 fun v38 w38 => Ext w37 w38 ∧ ∃ t39 : Option Addr, ∃ tl40 : Nat, ∃ tc41 : Nat, v38 = (.slice t39 tl40 tc41) ∧
          ((k = k ∧ (⟨#[]⟩ : ByteArray) = (⟨#[]⟩ : ByteArray) ∧ (⟨#[]⟩ : ByteArray) = (⟨#[]⟩ : ByteArray) ∧ (0 : Int) = 0) ∧ tl40 = 2 ∧ Fr (· = rb) w16 w38 ∧ ∃ l6, RD B w38 rb l6 left5 ∧ l6.length ≤ l5.length ∧ (t36 = true → ok2 = true ∧ ∀ S : Nat → Prop, (∀ b, S b → b < w.heap.size) → ∀ w'', Fr (fun b => S b ∨ b = b0) w38 w'' → IsT w'' (.mk k emS emS 0 [x, y]) t39 tc41) ∧ (∀ rest, l5 = 41 :: rest → ok2 = true → t36 = true ∧ l6 = rest)) := by
        intro t36 l6 o6 hl6 hr6 w37 x37
        have h37 := extB_ext x37
        refine run_lit elem_sl_Ask [av x px cx, av y py cy] rfl rfl (by intro v hv; simp at hv; rcases hv with rfl | rfl <;> rfl) (by omega) (by omega) fun w38 o38 e38 => ⟨e38, _, _, _, rfl, ⟨rfl, rfl, rfl, rfl⟩, rfl, fa.tr (fr_ext (h37.trans e38)), l6, Own.ext (Own.ext o6 h37) e38, hl6, fun _ => ⟨hok2, ?_⟩, hr6⟩
        have ow : Own w16.heap.size w38 T_Ask 5 (some ⟨w37.heap.size, 0, none⟩) 2 2 (encA x px cx ++ encA y py cy) := by simpa [Value.cells, encA] using (o38 w16.heap.size (Nat.le_trans fa.size h37.size))
        exact built w38 w38 _ _ (fa.tr (fr_ext (h37.trans e38))) ow (Fr.refl _ _) hok2
      rcases hor with ⟨r, hr, hv, o40⟩ | ⟨hr, hv, o40⟩
      · exact ⟨true, hv, body true r o40 (by rw [hr]; simp) fun rest he _ => ⟨rfl, by rw [hr] at he; simpa using he⟩⟩
      · exact ⟨false, hv, body false l5 o40 (Nat.le_refl _) fun rest he _ => absurd he (hr rest)⟩
    · intro hok2 w34 x34
      have h34 := extB_ext x34
      refine run_lit elem_sl_Ask [av x px cx, av y py cy] rfl rfl (by intro v hv; simp at hv; rcases hv with rfl | rfl <;> rfl) (by omega) (by omega) fun w35 o35 e35 => ⟨e35, _, _, _, rfl, ⟨rfl, rfl, rfl, rfl⟩, rfl, fr_ext (h34.trans e35), l5, Own.ext (Own.ext P5.rd h34) e35, Nat.le_refl _, fun h => (by cases h), fun rest he hb => (by rw [hok2] at hb; cases hb)⟩
    · rintro ok kk key val nn q ql qc w33 ⟨⟨rfl, rfl, rfl, rfl⟩, rfl, f33, l6, o6, hl6, hgood, hrest⟩ w34 x34
      have hlen5 := P5.len
      have hle5 := P5.le
      refine ⟨.mk _ emS emS 0 [x, y], q, qc, ok, rfl, l6, left5, ⟨fr_b (f16.tr f33) hb0 x34, RD.b o6 hb0r x34, by omega, by omega, fun hok => ?_⟩, fun k' a b rest hk' ha hb hnod he hasc => ?_⟩
      · obtain ⟨hok2, hT⟩ := hgood hok
        obtain ⟨hWy, hny, _⟩ := P5.good hok2
        refine ⟨opA_wf (by omega) (by simp) (by intro z hz; simp at hz; rcases hz with rfl | rfl <;> assumption), by simp only [nod, nodL]; omega, fun S hS w'' fw => hT S hS w'' ?_⟩
        exact (fr_extB x34 (by intro d hd; simp at hd; exact .inl (.inr hd))).tr (fw.mono fun b hb => .inl hb)
      · obtain ⟨rfl, rfl, hl4'⟩ := hC k' a b rest hk' ha hb hnod he hasc
        have hasc4 : asc l4 := by
          rw [hl4']
          rw [he] at hasc
          exact asc_cons (asc_tail hasc)
        obtain ⟨h5, rfl, hl5⟩ := C5 b (41 :: rest) hb (by omega) hl4' (sep_cons (by decide)) hasc4
        obtain ⟨hk1, hk2⟩ := hrest rest hl5 h5
        exact ⟨hk1, rfl, hk2⟩
  refine (take_k (Own.ext P2.rd h12) (by have := P2.len; omega) 124 124 rfl).mono fun v w13 ⟨f13, hor⟩ => ⟨kept_of f13 hns, ?_⟩
  have szn : w12.heap.size ≤ w13.heap.size := f13.size
  have bnd13 : ∀ b ∈ [b0, b11], b < w13.heap.size := fun b hb => by have := (hns b hb).1; omega
  rcases hor with ⟨r, hr, hv, o13⟩ | ⟨hr, hv, o13⟩
  · refine ⟨true, hv, fun _ w15 x15 => ?_, fun h => (by cases h)⟩
    refine (tail 6 w15 (.inr rfl) r (((fr_ext h12).tr f13).tr (fr_ext (extB_ext x15))) (Own.ext o13 (extB_ext x15)) (x15.lt _ (by simp)) (x15.lt _ (by simp)) (by rw [hr]; simp) fun k' a b rest hk' ha hb hnod he hasc => ?_).mono fun v w16 ⟨kp, y, py, cy, ok2, hv, hJ⟩ => ⟨kp, y.k, y.key, y.val, y.n, py, y.xs.length, cy, ok2, hv, fun b25 hb25 => ?_⟩
    · obtain ⟨_, hxa, hl2⟩ := C2 a _ ha (by omega) he (by split <;> exact sep_cons (by decide)) hasc
      rw [hr] at hl2
      simp only [List.cons.injEq] at hl2
      refine ⟨?_, hxa, hl2.2⟩
      rcases hk' with rfl | rfl
      · exact absurd hl2.1 (by decide)
      · rfl
    · obtain ⟨J, ja, jb, jc, jd⟩ := hJ b25 hb25
      refine ⟨J, ?_, jd⟩
      repeat' (first | exact ja | exact jb | exact jc | apply And.intro)
  · refine ⟨false, hv, fun h => (by cases h), fun _ w15 x15 => ?_⟩
    have h15 := extB_ext x15
    have hns15 : ∀ b ∈ [b0, b11], b < w15.heap.size ∧ b ≠ rb := fun b hb => ⟨x15.lt b hb, (hns b hb).2⟩
    refine (take_k (Own.ext o13 h15) (by have := P2.len; omega) 38 38 rfl).mono fun v w16 ⟨f16, hor⟩ => ⟨kept_of f16 hns15, ?_⟩
    rcases hor with ⟨r, hr2, hv, o16⟩ | ⟨hr2, hv, o16⟩
    · refine ⟨true, hv, fun h => (by cases h), fun _ w18 x18 => ?_⟩
      refine (tail 5 w18 (.inl rfl) r ((((fr_ext h12).tr f13).tr (fr_ext h15)).tr (f16.tr (fr_ext (extB_ext x18)))) (Own.ext o16 (extB_ext x18)) (x18.lt _ (by simp)) (x18.lt _ (by simp)) (by rw [hr2]; simp) fun k' a b rest hk' ha hb hnod he hasc => ?_).mono fun v w19 ⟨kp, y, py, cy, ok2, hv, hJ⟩ => ⟨kp, y.k, y.key, y.val, y.n, py, y.xs.length, cy, ok2, hv, fun b25 hb25 => ?_⟩
      · obtain ⟨_, hxa, hl2⟩ := C2 a _ ha (by omega) he (by split <;> exact sep_cons (by decide)) hasc
        rw [hr2] at hl2
        simp only [List.cons.injEq] at hl2
        refine ⟨?_, hxa, hl2.2⟩
        rcases hk' with rfl | rfl
        · rfl
        · exact absurd hl2.1 (by decide)
      · obtain ⟨J, ja, jb, jc, jd⟩ := hJ b25 hb25
        refine ⟨J, ?_, jd⟩
        repeat' (first | exact ja | exact jb | exact jc | apply And.intro)
    · refine ⟨false, hv, fun _ w18 x18 => ?_, fun h => (by cases h)⟩
      refine ⟨zeroA, none, 0, false, rfl, l2, left2, ⟨fr_b ((f2.tr ((fr_ext h12).tr f13)).tr ((fr_ext h15).tr f16)) hb0 x18, RD.b o16 hb0r x18, P2.len, P2.le, fun h => (by cases h)⟩, fun k a b rest hk ha hb hnod he hasc => ?_⟩
      obtain ⟨_, _, hl2⟩ := C2 a _ ha (by omega) he (by split <;> exact sep_cons (by decide)) hasc
      rcases hk with rfl | rfl
      · exact absurd hl2 (hr2 _)
      · exact absurd hl2 (hr _)
end Go.Proofs.YtenppnomdejmlaaGreatDoor
