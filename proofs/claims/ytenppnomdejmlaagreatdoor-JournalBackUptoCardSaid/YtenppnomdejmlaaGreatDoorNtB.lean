/- Needs as texts: parts, Check, text, Text. -/
import Derived.Test.YtenppnomdejmlaaGreatDoorNtA
import Derived.Lib.ItoaLen
set_option linter.unusedVariables false
set_option linter.unusedSimpArgs false
namespace Go.Proofs.YtenppnomdejmlaaGreatDoor
open Go.Sx Go.RowKit

/-- How much of what. -/
structure Nd where
  c : Int
  m : Int
  g : Int
deriving DecidableEq, Inhabited
abbrev encN (x : Nd) : List Value := [.int .i64 x.c, .int .i64 x.m, .int .i64 x.g]
abbrev nv (x : Nd) : Value := .agg #[.int .i64 x.c, .int .i64 x.m, .int .i64 x.g]
def okN (x : Nd) : Prop := (0 ≤ x.c ∧ x.c ≤ 1099511627776) ∧ (0 ≤ x.m ∧ x.m ≤ 1099511627776) ∧ (0 ≤ x.g ∧ x.g ≤ 1099511627776)
instance (x : Nd) : Decidable (okN x) := by unfold okN; infer_instance
def fitN (a b : Nd) : Prop := a.c ≤ b.c ∧ a.m ≤ b.m ∧ a.g ≤ b.g
instance (a b : Nd) : Decidable (fitN a b) := by unfold fitN; infer_instance
def addN (a b : Nd) : Nd := ⟨a.c + b.c, a.m + b.m, a.g + b.g⟩
def subN (a b : Nd) : Nd := ⟨a.c - b.c, a.m - b.m, a.g - b.g⟩
def zeroN : Nd := ⟨0, 0, 0⟩
def errN (x : Nd) : Int := if okN x then 0 else 4
theorem errN_ok {x : Nd} : errN x = 0 ↔ okN x := by unfold errN; split <;> simp_all
theorem errN_no {x : Nd} (h : ¬ okN x) : errN x = 4 := if_neg h
theorem nd_eq {a b : Nd} : a = b ↔ [a.c, a.m, a.g] = [b.c, b.m, b.g] := by cases a; cases b; simp
/-- The need's part by its number. -/
def ndAt (x : Nd) (i : Nat) : Int := match i with | 0 => x.c | 1 => x.m | _ => x.g
theorem okN_at {x : Nd} : okN x ↔ ∀ i, i < 3 → 0 ≤ ndAt x i ∧ ndAt x i ≤ 1099511627776 := by
  constructor
  · rintro ⟨h1, h2, h3⟩ i hi
    match i, hi with
    | 0, _ => exact h1
    | 1, _ => exact h2
    | 2, _ => exact h3
  · intro h
    exact ⟨h 0 (by omega), h 1 (by omega), h 2 (by omega)⟩

theorem eqN_k {a b : Nd} {w : World} {K : Value → World → Prop} (hk : K (.bool (decide (a = b))) w) : Run Tryz.prog (.eq .eql T_Need false false (nv a) (nv b)) w K :=
  run_eqs (n := 3) (k := .i64) (by kernel_rfl) (by kernel_rfl) (by kernel_rfl) (by kernel_rfl) [a.c, a.m, a.g] [b.c, b.m, b.g] rfl rfl (by
    have : decide (a = b) = decide ([a.c, a.m, a.g] = [b.c, b.m, b.g]) := decide_eq_decide.2 nd_eq
    rwa [this] at hk)

/-- The names of the parts. -/
def pn (i : Nat) : ByteArray := match i with | 0 => ⟨#[99, 112, 117]⟩ | 1 => ⟨#[109, 101, 109]⟩ | _ => ⟨#[103, 112, 117]⟩
abbrev partsL (a : Option Addr) : List Value := [.string (pn 0), .pointer (pAdd a 0), .string (pn 1), .pointer (pAdd a 1), .string (pn 2), .pointer (pAdd a 2)]
theorem part_at {w : World} {q a : Option Addr} (h : Cells w q (partsL a)) {k : Int} (h0 : 0 ≤ k) (h1 : k < 3) : Go.Sx.cell w (pIdx q k 2) 0 = some (.string (pn k.toNat)) ∧ Go.Sx.cell w (pIdx q k 2) 1 = some (.pointer (pAdd a k.toNat)) := by
  have hk : k = 0 ∨ k = 1 ∨ k = 2 := by omega
  rcases hk with rfl | rfl | rfl
  · exact ⟨by rw [cell_pIdx]; exact h 0 _ rfl, by rw [cell_pIdx]; exact h 1 _ rfl⟩
  · exact ⟨by rw [cell_pIdx]; exact h 2 _ rfl, by rw [cell_pIdx]; exact h 3 _ rfl⟩
  · exact ⟨by rw [cell_pIdx]; exact h 4 _ rfl, by rw [cell_pIdx]; exact h 5 _ rfl⟩

theorem parts_k (a : Option Addr) (ha : a ≠ none) (w : World) : FnP Tryz.prog F_need_parts #[.pointer a] w fun v w' => Ext w w' ∧ ∃ q, v = .slice q 3 3 ∧ Cells w' q (partsL a) ∧ ∀ x, q = some x → w.heap.size ≤ x.block := by
  refine ok_need_parts a w _ ⟨ha, ha, ha, ha, ha, ha, fun w0 h0 => ?_⟩
  refine run_lit elem_sl_need_part [_, _, _] rfl rfl (by intro v hv; simp at hv; rcases hv with rfl | rfl | rfl <;> rfl) (by omega) (by omega) fun w1 o1 e1 => ⟨e1, _, _, _, rfl, fun w5 h5 => ⟨(h0.trans e1).trans h5, _, rfl, ?_, fun x hx => ?_⟩⟩
  · have o5 := ((o1 0 (Nat.zero_le _)).ext h5).cells
    exact o5
  · obtain rfl := Option.some.inj hx
    exact h0.size

/-- A need in memory. -/
abbrev NdAt (w : World) (p : Option Addr) (x : Nd) : Prop := Cells w p (encN x)
theorem nd_at {w : World} {p : Option Addr} {x : Nd} (h : NdAt w p x) {i : Nat} (hi : i < 3) : Go.Sx.cell w (pAdd p i) 0 = some (.int .i64 (ndAt x i)) := by
  rw [cell_pAdd, Nat.add_zero]
  match i, hi with
  | 0, _ => exact h 0 _ rfl
  | 1, _ => exact h 1 _ rfl
  | 2, _ => exact h 2 _ rfl

theorem ncheck_k (x : Nd) (w : World) : FnP Tryz.prog F_need_Check #[nv x] w fun v w' => Ext w w' ∧ v = .int .i64 (errN x) := by
  refine ok_need_Check x.c x.m x.g w _ fun w0 h0 => ?_
  refine new_own (by simp [Value.oneCell']) fun w1 o1 e1 => fun w2 h2 => ?_
  have c1 : NdAt w1 (some ⟨w0.heap.size, 0, none⟩) x := (o1 0 (Nat.zero_le _)).cells
  have n1 : (some (⟨w0.heap.size, 0, none⟩ : Addr)) ≠ none := by simp
  generalize (some (⟨w0.heap.size, 0, none⟩ : Addr)) = p1 at c1 n1 ⊢
  refine (parts_k p1 n1 w2).mono fun v w3 ⟨e3, q, hv, hq, _⟩ => ⟨e3, q, 3, 3, hv, ?_⟩
  have c3 := (c1.ext h2).ext e3
  have x3 := ((h0.trans e1).trans h2).trans e3
  refine ⟨fun k w' => w' = w3 ∧ 0 ≤ k ∧ k ≤ 3 ∧ ∀ i : Nat, (i : Int) < k → 0 ≤ ndAt x i ∧ ndAt x i ≤ 1099511627776, fun k _ => (3 - k).toNat, ⟨rfl, by omega, by omega, fun i hi => by omega⟩, ?_⟩
  rintro k w3 ⟨rfl, hk0, hk1, hall⟩
  refine ⟨fun hlt => ?_, fun hge w10 h10 => ⟨x3.trans h10, ?_⟩⟩
  · obtain ⟨d1, d2⟩ := part_at hq hk0 hlt
    have ci := nd_at c3 (i := k.toNat) (by omega)
    have hne : pAdd p1 k.toNat ≠ none := fun h => n1 (pAdd_none.1 h)
    have bad : ¬ (0 ≤ ndAt x k.toNat ∧ ndAt x k.toNat ≤ 1099511627776) → errN x = 4 := fun h => errN_no fun ho => h (okN_at.1 ho _ (by omega))
    refine ⟨fun hq => cell_p d1 (pIdx_none.2 hq), hk0, hlt, cell_p d1, _, d1, _, d2, fun b12 _ => ⟨hne, _, ci, fun _ => hne, fun hn w14 h14 => ⟨x3.trans h14, by rw [bad (by omega)]⟩, fun hp => ⟨_, ci, fun hb w15 h15 => ⟨x3.trans h15, by rw [bad (by omega)]⟩, fun hl => ⟨i64 (by omega), ⟨rfl, by omega, by omega, fun i hi => ?_⟩, by simp only []; omega⟩⟩⟩⟩
    by_cases hik : (i : Int) < k
    · exact hall i hik
    · obtain rfl : i = k.toNat := by omega
      omega
  · rw [errN_ok.2 (okN_at.2 fun i hi => hall i (by omega))]

/-! ### The text -/
def rng (x : Nd) : Prop := ∀ i, i < 3 → -9223372036854775808 ≤ ndAt x i ∧ ndAt x i ≤ 9223372036854775807
theorem okN.rng {x : Nd} (h : okN x) : rng x := fun i hi => by have := okN_at.1 h i hi; omega
def idx (x : Nd) (k : Nat) : List Nat := (List.range k).filter fun i => decide (ndAt x i ≠ 0)
def piece (x : Nd) (i : Nat) : List UInt8 := (pn i).data.toList ++ 61 :: Lib.itoa (ndAt x i)
def pcs (x : Nd) (k : Nat) : List (List UInt8) := (idx x k).map (piece x)
def textL (x : Nd) : List UInt8 := if pcs x 3 = [] then [45] else Lib.join (pcs x 3) [44]
theorem idx_succ (x : Nd) (k : Nat) : idx x (k + 1) = idx x k ++ if ndAt x k ≠ 0 then [k] else [] := by
  unfold idx
  rw [List.range_succ, List.filter_append]
  congr 1
  by_cases h : ndAt x k = 0 <;> simp [h]
theorem pcs_succ (x : Nd) (k : Nat) : pcs x (k + 1) = pcs x k ++ if ndAt x k ≠ 0 then [piece x k] else [] := by
  unfold pcs
  rw [idx_succ, List.map_append]
  congr 1
  split <;> rfl
theorem idx_lt {x : Nd} {k i : Nat} (h : i ∈ idx x k) : i < k ∧ ndAt x i ≠ 0 := by
  unfold idx at h
  rw [List.mem_filter, List.mem_range] at h
  exact ⟨h.1, by simpa using h.2⟩
theorem pn_len (i : Nat) : (pn i).size = 3 := by
  match i with
  | 0 => rfl
  | 1 => rfl
  | n + 2 => rfl
theorem piece_len {x : Nd} (hx : rng x) {i : Nat} (hi : i < 3) : (piece x i).length ≤ 25 := by
  unfold piece
  have := Lib.itoa_length_le (ndAt x i) (hx i hi).1 (hx i hi).2
  have h3 : (pn i).data.toList.length = 3 := pn_len i
  rw [List.length_append, List.length_cons, h3]; omega
theorem join_len {c : UInt8} {m : Nat} : ∀ (L : List (List UInt8)), (∀ y ∈ L, y.length ≤ m) → (Lib.join L [c]).length ≤ L.length * (m + 1)
  | [], _ => by simp [Lib.join_nil]
  | [x], h => by rw [Lib.join_one]; have := h x (List.mem_cons_self ..); simp; omega
  | x :: y :: L, h => by
    have ih := join_len (c := c) (y :: L) fun z hz => h z (List.mem_cons_of_mem _ hz)
    have hx := h x (List.mem_cons_self ..)
    have e : Lib.join (x :: y :: L) [c] = x ++ c :: Lib.join (y :: L) [c] := by
      rw [Lib.join_cons, Lib.join_cons]
      simp [Lib.joinTail]
    rw [e, List.length_append, List.length_cons, List.length_cons, Nat.add_mul]
    omega
theorem idx_len (x : Nd) (k : Nat) : (idx x k).length ≤ k := by
  unfold idx
  have := List.length_filter_le (fun i => decide (ndAt x i ≠ 0)) (List.range k)
  rwa [List.length_range] at this
theorem join_pcs {x : Nd} (hx : rng x) : (Lib.join (pcs x 3) [44]).length ≤ 78 := by
  have h1 := join_len (c := 44) (m := 25) (pcs x 3) fun y hy => by
    obtain ⟨i, hi, rfl⟩ := List.mem_map.1 hy
    exact piece_len hx (idx_lt hi).1
  have h2 : (pcs x 3).length ≤ 3 := by unfold pcs; rw [List.length_map]; exact idx_len x 3
  omega

theorem ntext_k (x : Nd) (hx : rng x) (w : World) (g : GB w) : FnP Tryz.prog F_need_text #[nv x] w fun v w' => Ext w w' ∧ v = .string (ofL (textL x)) := by
  refine ok_need_text x.c x.m x.g w _ fun w0 h0 => ?_
  refine new_own (by simp [Value.oneCell']) fun w1 o1 e1 => fun w2 h2 => ?_
  have c1 : NdAt w1 (some ⟨w0.heap.size, 0, none⟩) x := (o1 0 (Nat.zero_le _)).cells
  have n1 : (some (⟨w0.heap.size, 0, none⟩ : Addr)) ≠ none := by simp
  have l1 : ∀ a, (some (⟨w0.heap.size, 0, none⟩ : Addr)) = some a → a.block < w1.heap.size := c1.lt (by simp)
  generalize (some (⟨w0.heap.size, 0, none⟩ : Addr)) = p1 at c1 n1 l1 ⊢
  refine (parts_k p1 n1 w2).mono fun v w3 ⟨e3, q, hv, hq, hqb⟩ => ⟨e3, q, 3, 3, hv, ?_⟩
  have x3 := ((h0.trans e1).trans h2).trans e3
  refine ⟨fun out outl outc k w' => Ext w w' ∧ 0 ≤ k ∧ k ≤ 3 ∧ NdAt w' p1 x ∧ Cells w' q (partsL p1) ∧ Own w.heap.size w' T_string 1 out outl outc ((pcs x k.toNat).map fun l => Value.string (ofL l)) ∧ Apart p1 out ∧ Apart q out ∧ (out = none ↔ pcs x k.toNat = []), fun _ _ _ k _ => (3 - k).toNat,
    ⟨x3, by omega, by omega, (c1.ext h2).ext e3, hq, Own.nil, Apart.nil, Apart.nil, by simp [pcs, idx]⟩, ?_⟩
  rintro out outl outc k w10 ⟨x10, hk0, hk3, c10, q10, o10, a1, a2, hout⟩
  refine ⟨fun hlt => ?_, fun hge => ?_⟩
  · obtain ⟨d1, d2⟩ := part_at q10 hk0 hlt
    have ci := nd_at c10 (i := k.toNat) (by omega)
    have hne : pAdd p1 k.toNat ≠ none := fun h => n1 (pAdd_none.1 h)
    have hr := hx k.toNat (by omega)
    have hil := Lib.itoa_length_le (ndAt x k.toNat) hr.1 hr.2
    have hlen : (pcs x k.toNat).length ≤ 3 := by unfold pcs; rw [List.length_map]; have := idx_len x k.toNat; omega
    have hol := o10.leni
    have hps : (pn k.toNat).size = 3 := pn_len _
    refine ⟨fun hq => cell_p d1 (pIdx_none.2 hq), hk0, hlt, cell_p d1, _, d1, _, d2, fun b13 hb13 => ⟨hne, _, ci, fun hnz => ?_, fun hz => ?_⟩⟩
    · refine ⟨by unfold CatOk; rw [hps]; decide, hne, _, ci, fun w16 h16 => ?_⟩
      refine (FormatInt_k _ hr w16 ((g.ext x10).ext h16)).mono fun v w17 ⟨e17, hv⟩ => ⟨e17, _, hv, ?_, ?_⟩
      · unfold CatOk
        rw [ByteArray.size_append, hps, ofL_size]
        show 3 + 1 + _ ≤ _
        omega
      · have hpc : (pn k.toNat ++ (⟨#[61]⟩ : ByteArray)) ++ ofL (Lib.itoa (ndAt x k.toNat)) = ofL (piece x k.toNat) := by
          rw [← ofL_of ((pn k.toNat ++ (⟨#[61]⟩ : ByteArray)) ++ ofL (Lib.itoa (ndAt x k.toNat))), bs_app, bs_app]
          unfold piece
          rw [ofL_list]
          simp
        rw [hpc]
        refine push_B elem_sl_string (by omega) o10 x10.size (fun b hb y hy => by simp at hb; subst hb; have := (o10.lt y hy).2; omega) rfl (by intro u hu; simp [Value.cells] at hu; subst hu; rfl) (by omega) (by omega) (by omega) fun p' c' w' o' g' np _ => ⟨i64 (by omega), ⟨g'.ext x10 o10, by omega, by omega, c10.grew a1 g', q10.grew a2 g', ?_, a1.grewC (c10.lt (by simp)) g', a2.grewC (q10.lt (by simp)) g', ?_⟩, by simp only []; omega⟩
        · rw [show (k + 1).toNat = k.toNat + 1 by omega, pcs_succ, if_pos hnz, List.map_append]
          simpa [Value.cells] using o'
        · rw [show (k + 1).toNat = k.toNat + 1 by omega, pcs_succ, if_pos hnz]
          simp [np]
    · have hp : pcs x (k + 1).toNat = pcs x k.toNat := by
        rw [show (k + 1).toNat = k.toNat + 1 by omega, pcs_succ, if_neg (by simpa using hz), List.append_nil]
      exact ⟨i64 (by omega), ⟨x10, by omega, by omega, c10, q10, by rw [hp]; exact o10, a1, a2, by rw [hp]; exact hout⟩, by simp only []; omega⟩
  · obtain rfl : k = 3 := by omega
    have hout : out = none ↔ pcs x 3 = [] := hout
    have o10 : Own w.heap.size w10 T_string 1 out outl outc ((pcs x 3).map fun l => Value.string (ofL l)) := o10
    refine ⟨fun hn w11 h11 => ⟨x10.trans h11, ?_⟩, fun hn w11 h11 => ?_⟩
    · unfold textL; rw [if_pos (hout.1 hn)]; rfl
    · have hpn : pcs x 3 ≠ [] := fun h => hn (hout.2 h)
      refine (Join_k (pcs x 3) 44 out outl outc w.heap.size T_string w11 (o10.ext h11) hpn (by have := join_pcs hx; omega)).mono fun v w12 ⟨e12, hv⟩ => ⟨e12, _, hv, fun w14 h14 => ⟨x10.trans h14, ?_⟩⟩
      unfold textL; rw [if_neg hpn]

theorem nText_k (x : Nd) (w : World) (g : GB w) : FnP Tryz.prog F_need_Text #[nv x] w fun v w' => Ext w w' ∧ ∃ (t : ByteArray) (e : Int), v = .tuple #[.string t, .int .i64 e] ∧ (e = 0 ↔ okN x) ∧ (e ≠ 0 → t = ⟨#[]⟩) ∧ (e = 0 → t = ofL (textL x)) := by
  refine ok_need_Text x.c x.m x.g w _ fun b0 _ w1 h1 => (ncheck_k x w1).mono fun v w2 ⟨e2, hv⟩ => ⟨e2, _, hv, fun hne w4 h4 => ⟨h4, _, _, rfl, errN_ok, fun _ => rfl, fun h => absurd h hne⟩, fun hz w4 h4 => ?_⟩
  have ok := errN_ok.1 hz
  exact (ntext_k x ok.rng w4 (g.ext h4)).mono fun v w5 ⟨e5, hv⟩ => ⟨e5, _, hv, fun w7 h7 => ⟨h7, _, _, rfl, ⟨fun _ => ok, fun _ => rfl⟩, fun h => absurd rfl h, fun _ => rfl⟩⟩
end Go.Proofs.YtenppnomdejmlaaGreatDoor
