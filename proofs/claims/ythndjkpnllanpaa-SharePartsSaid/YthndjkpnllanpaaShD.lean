/- What share.Whole answers. -/
import Derived.Test.YthndjkpnllanpaaShT
import Derived.Test.YthndjkpnllanpaaSxR
set_option linter.unusedVariables false
set_option linter.unusedSimpArgs false
namespace Go.Proofs.Ythndjkpnllanpaa
open Go.Sx Go.RowKit

/-! ### One row of several: a literal, and what is added of it, in whatever order -/
section
variable {P : Program} {w0 w : World} {rs : List HRow}
theorem lit_step (H : Held w0 [] w rs) {t e : TypeId} {b : Nat} {z : Value} (he : slEl P t = some (e, 1, b, z)) {k : IntKind} {x : Int} {K : Option Addr → Nat → Nat → World → Prop}
    (hk : ∀ q w', Held w0 [] w' (⟨e, 1, q, 1, 1, [.int k x]⟩ :: rs) → K q 1 1 w') :
    ∀ w1, Ext w w1 → Run P (.buildSlice t 1 [(0, .int k x)]) w1 fun v2 w2 => Ext w1 w2 ∧ ∃ q : Option Addr, ∃ m : Nat, ∃ d : Nat, v2 = .slice q m d ∧ K q m d w2 := by
  intro w1 e1
  refine run_lit he [.int k x] rfl rfl (fun u hu => by simp at hu; subst hu; rfl) (by omega) (by omega) fun w2 o2 e2 => ⟨e2, _, _, _, rfl, hk _ w2 ?_⟩
  refine (H.to e1).new0 (fun B hB => ?_) e2 (fun b hb => by cases hb)
  have := o2 B hB
  simpa [Value.cells] using this
theorem app_step (H : Held w0 [] w rs) {t ty e : TypeId} {b : Nat} {z : Value} (he : slEl P t = some (e, 1, b, z)) (i j : Nat) {p q : Option Addr} {n c : Nat} {xs : List Value} {k : IntKind} {x : Int} (hi : rs[i]? = some ⟨e, 1, p, n, c, xs⟩) (hj : rs[j]? = some ⟨e, 1, q, 1, 1, [.int k x]⟩)
    (hn : n < 1000) (hb8 : b ≤ 8) {K : Option Addr → Nat → Nat → World → Prop}
    (hk : ∀ p' c' w', Held w0 [] w' (rs.set i ⟨e, 1, p', n + 1, c', xs ++ [.int k x]⟩) → K p' (n + 1) c' w') :
    ∀ w1, Ext w w1 → Run P (.append #[t, t] ty [.slice p n c, .slice q 1 1]) w1 fun v2 w2 => ∃ q : Option Addr, ∃ m : Nat, ∃ d : Nat, v2 = .slice q m d ∧ K q m d w2 := by
  intro w1 e1
  have H1 := H.to e1
  have hb : (n + 1) * b ≤ 140737488355328 := Nat.le_trans (Nat.mul_le_mul (show n + 1 ≤ 1000 by omega) hb8) (by decide)
  have hm : n + 1 ≤ 9223372036854775807 := by omega
  have o := H1.get i hi
  have ol := H1.get j hj
  refine run_app he (by omega) o H1.ext.size (ol.ne (by simp)) (news := [.int k x]) (by simp) ol.cells (by intro u hu; simp at hu; subst hu; rfl) hb hm fun p' c' w2 h2 h3 h4 => ⟨_, _, _, rfl, hk p' c' w2 ?_⟩
  have o2 : HRow.ok w0.heap.size w2 ⟨e, 1, p', n + 1, c', xs ++ [Value.int k x]⟩ := h2
  exact H1.put i hi o2 h3 (fun b hb => by cases hb)
end

theorem Compare_k (x y : Int) (w : World) : FnP Try.prog F_cmp_Compare_uint64 #[.int .u64 x, .int .u64 y] w fun v w' => Ext w w' ∧ ∃ t : Int, v = .int .i64 t ∧ (t < 0 ↔ x < y) := by
  have nan : ∀ (x : Int) (w : World), FnP Try.prog F_cmp_isNaN_uint64 #[.int .u64 x] w fun v w' => Ext w w' ∧ v = .bool false := fun x w => ok_cmp_isNaN_uint64 x w _ fun w0 h0 => ⟨h0, by simp⟩
  refine ok_cmp_Compare_uint64 x y w _ fun w0 h0 => ?_
  refine (nan x w0).mono fun v w1 ⟨e1, hv⟩ => ⟨e1, false, hv, fun w3 h3 => ?_⟩
  refine (nan y w3).mono fun v w4 ⟨e4, hv⟩ => ⟨e4, false, hv, fun h => (by cases h), fun _ => ⟨fun h => (by cases h), fun _ => ⟨fun hl w6 h6 => ⟨h6, _, rfl, by omega⟩, fun hl => ⟨fun hg w6 h6 => ⟨h6, _, rfl, by omega⟩, fun hg w6 h6 => ⟨h6, _, rfl, by omega⟩⟩⟩⟩⟩

def upto (k : Nat) : List Int := List.map (fun i : Nat => (i : Int)) (List.range k)
theorem upto_succ (k : Nat) : upto (k + 1) = upto k ++ [(k : Int)] := by simp [upto, List.range_succ]
theorem upto_len (k : Nat) : (upto k).length = k := by simp [upto]
theorem mem_upto {k : Nat} {x : Int} (h : x ∈ upto k) : 0 ≤ x ∧ x < k := by
  simp only [upto, List.mem_map, List.mem_range] at h
  obtain ⟨i, hi, rfl⟩ := h
  omega
/-- Each part, and what is left of it. -/
def quos (all S : Int) (l : List Int) : List Int := l.map fun x => all * x / S
def rems (all S : Int) (l : List Int) : List Int := l.map fun x => all * x % S
theorem take_map_succ {α β : Type} [Inhabited α] (f : α → β) (l : List α) (d : α) {k : Nat} (h : k < l.length) : (l.map f).take (k + 1) = (l.map f).take k ++ [f (l.getD k d)] := by
  rw [List.take_succ_eq_append_getElem (by simpa using h)]
  simp [List.getD_eq_getElem?_getD, h]
/-- One more to each of these. -/
def bump : List Int → List Int → List Int
  | Z, [] => Z
  | Z, i :: r => bump (Z.set i.toNat (Z.getD i.toNat 0 + 1)) r
theorem bump_append : ∀ (Z a b : List Int), bump Z (a ++ b) = bump (bump Z a) b
  | Z, [], b => rfl
  | Z, i :: a, b => bump_append _ a b
theorem bump_len : ∀ (Z a : List Int), (bump Z a).length = Z.length
  | Z, [] => rfl
  | Z, i :: a => by rw [bump, bump_len]; simp

/-- What is told of the parts. -/
structure Parts (all : Int) (l Z : List Int) : Prop where
  ok : okS all l
  pos : 0 < sumL l
  le : sumL l ≤ 1000000000
  row : ∃ Y : List Int, Y.Perm (upto l.length) ∧ Falls (fun i => (rems all (sumL l) l).getD i.toNat 0) Y 0 l.length ∧ Z = bump (quos all (sumL l) l) (Y.take (all - sumL (quos all (sumL l) l)).toNat) ∧ 0 ≤ all - sumL (quos all (sumL l) l) ∧ all - sumL (quos all (sumL l) l) ≤ l.length

theorem split_sum (all S : Int) (hS : 0 < S) : ∀ l : List Int, sumL (quos all S l) * S + sumL (rems all S l) = all * sumL l
  | [] => by simp [quos, rems, sumL]
  | x :: l => by
    have ih := split_sum all S hS l
    have hx := Int.mul_ediv_add_emod (all * x) S
    simp only [quos, rems, List.map_cons, sumL] at ih ⊢
    rw [Int.add_mul, Int.mul_add, ← ih, Int.mul_comm (all * x / S) S]
    omega
theorem left_bounds {all : Int} {l : List Int} (hok : okS all l) (hpos : 0 < sumL l) : 0 ≤ all - sumL (quos all (sumL l) l) ∧ all - sumL (quos all (sumL l) l) ≤ l.length := by
  have h := split_sum all (sumL l) hpos l
  have hr : ∀ x ∈ rems all (sumL l) l, 0 ≤ x ∧ x ≤ sumL l := fun x hx => by
    simp only [rems, List.mem_map] at hx
    obtain ⟨y, _, rfl⟩ := hx
    have := Int.emod_nonneg (all * y) (by omega : sumL l ≠ 0)
    have := Int.emod_lt_of_pos (all * y) hpos
    omega
  have hb := sumL_bounds hr
  have hlen : (rems all (sumL l) l).length = l.length := by simp [rems]
  rw [hlen] at hb
  have e : (all - sumL (quos all (sumL l) l)) * sumL l = sumL (rems all (sumL l) l) := by rw [Int.sub_mul]; omega
  constructor
  · apply Int.le_of_mul_le_mul_right (a := sumL l) ?_ hpos
    rw [e]; omega
  · apply Int.le_of_mul_le_mul_right (a := sumL l) ?_ hpos
    rw [e]; exact hb.2
theorem quo_bounds {all S x : Int} (h0 : 0 ≤ all ∧ all ≤ 1099511627776) (hS : 0 < S) (hx : 0 ≤ x ∧ x ≤ S) : 0 ≤ all * x / S ∧ all * x / S ≤ all := by
  refine ⟨Int.ediv_nonneg (Int.mul_nonneg h0.1 hx.1) (by omega), ?_⟩
  have h1 : all * x ≤ all * S := Int.mul_le_mul_of_nonneg_left hx.2 h0.1
  have := Int.ediv_le_ediv hS h1
  rwa [Int.mul_ediv_cancel _ (by omega)] at this
theorem mem_le_sum : ∀ {l : List Int}, (∀ x ∈ l, 0 ≤ x) → ∀ x ∈ l, x ≤ sumL l
  | a :: l, h, x, hx => by
    have hl : ∀ y ∈ l, 0 ≤ y := fun y hy => h y (List.mem_cons_of_mem _ hy)
    have h0 : 0 ≤ sumL l := by
      clear hx h
      induction l with
      | nil => exact Int.le_refl _
      | cons b l ih => simp only [sumL]; have := hl b (List.mem_cons_self ..); have := ih fun y hy => hl y (List.mem_cons_of_mem _ hy); omega
    have ha := h a (List.mem_cons_self ..)
    simp only [sumL]
    rcases List.mem_cons.1 hx with rfl | hx
    · omega
    · have := mem_le_sum hl x hx; omega

/-- What the sort leaves: the remainders, the parts, and where the remainders are told of. -/
def Rest (w : World) (row : Option Addr) (rs : List HRow) (w' : World) : Prop := Ext w w' ∧ ∀ r ∈ rs, r.ok w.heap.size w' ∧ Apart r.p row
theorem Rest.keeps {w : World} {row : Option Addr} {rs : List HRow} (h : ∀ a, row = some a → w.heap.size ≤ a.block) : Keeps (Rest w row rs) row := fun w1 w2 ⟨he, hr⟩ g =>
  ⟨Grew.below g he he.size h, fun r hm => ⟨(hr r hm).1.st (hr r hm).2 g, (hr r hm).2⟩⟩

theorem leaf_k {w w' : World} {rs : List HRow} {t1 t2 t3 A B C : HRow} {e : TypeId} {box c : Option Addr} {cl cc : Nat} {old : Value} (H : Held w [] w' rs) (hrs : rs = [t1, t2, t3, A, B, C, ⟨e, 1, box, 1, 1, [old]⟩]) {K : World → Prop}
    (hk : ∀ w'', Held w [] w'' [A, B, C, ⟨e, 1, box, 1, 1, [.slice c cl cc]⟩] → K w'') : Store w' box [.slice c cl cc] [] K := by
  subst hrs
  refine H.store 6 rfl 0 (map_add0 _) (by simp) (by simp) (by intro v hv; simp at hv; subst hv; rfl) (fun b hb => by cases hb) fun w'' H' _ => hk w'' ?_
  exact H'.pick [3, 4, 5, 6] (by decide) rfl

set_option maxHeartbeats 20000000 in
theorem Whole_k (all : Int) (p : Option Addr) (cp : Nat) (l : List Int) (h63 : (l.length : Int) ≤ 9223372036854775807) (w : World) (h : Ints .i64 w p l) : FnP Try.prog F_share_Whole #[.int .i64 all, .slice p l.length cp] w fun v w' => Ext w w' ∧ ∃ q m d e, v = .tuple #[.slice q m d, .int .i64 e] ∧
    ((e ≠ 0 ∧ m = 0) ∨ (e = 0 ∧ m = l.length ∧ ∃ Z, Parts all l Z ∧ Own w.heap.size w' T_int64 1 q m d (Z.map (.int .i64)))) := by
  refine ok_share_Whole all p l.length cp w _ ?_
  intro w0 h0
  refine (check_k all p cp l h63 w0 (h.ext h0)).mono fun v w1 ⟨e1, hv⟩ => ⟨e1, _, hv, fun hne w3 h3 => ⟨h3, _, _, _, _, rfl, .inl ⟨hne, rfl⟩⟩, fun he => ?_⟩
  have hok := errS_ok.1 he
  obtain ⟨a0, a1, hlen, hx⟩ := hok
  refine ⟨fun s k w' => w' = w ∧ 0 ≤ k ∧ k ≤ l.length ∧ s = sumL (l.take k.toNat), fun _ k _ => (l.length - k).toNat, ⟨rfl, by omega, by omega, by simp [sumL]⟩, ?_⟩
  rintro s k w6 ⟨rfl, hk0, hk1, rfl⟩
  refine ⟨fun hlt => ?_, fun hge => ?_⟩
  · have hb := sumL_take_bounds (n := k.toNat + 1) hx (by omega)
    have hs := sumL_take_succ l (n := k.toNat) (by omega)
    have hb0 := sumL_take_bounds (n := k.toNat) hx (by omega)
    refine ⟨fun hp => cell_p (h.idx hk0 hlt) (pIdx_none.2 hp), hk0, hlt, _, h.idx hk0 hlt, i64 (by omega), i64 (by omega), ⟨rfl, by omega, by omega, by rw [show (k + 1).toNat = k.toNat + 1 by omega, hs]⟩, by simp only []; omega⟩
  have hkl : k = l.length := by omega
  subst hkl
  rw [show ((l.length : Int)).toNat = l.length by omega, List.take_length]
  refine ⟨fun hz w7 h7 => ⟨h7, _, _, _, _, rfl, .inl ⟨by omega, rfl⟩⟩, fun hnz => ⟨fun hbig w7 h7 => ⟨h7, _, _, _, _, rfl, .inl ⟨by omega, rfl⟩⟩, fun hsm w7 h7 => ?_⟩⟩
  have hS : 0 < sumL l := by have := sumL_bounds hx; omega
  have hall : 0 ≤ all ∧ all ≤ 1099511627776 := ⟨a0, a1⟩
  have hle := mem_le_sum (l := l) fun x hx' => (hx x hx').1
  have hlb := left_bounds ⟨a0, a1, hlen, hx⟩ hS
  have hqb : ∀ x ∈ quos all (sumL l) l, 0 ≤ x ∧ x ≤ 1099511627776 := fun x hx' => by
    simp only [quos, List.mem_map] at hx'
    obtain ⟨y, hy, rfl⟩ := hx'
    have := quo_bounds hall hS ⟨(hx y hy).1, hle y hy⟩
    omega
  have hql : (quos all (sumL l) l).length = l.length := by simp [quos]
  have hrl : (rems all (sumL l) l).length = l.length := by simp [rems]
  have Hn : Held w6 [] w7 [⟨T_int, 1, none, 0, 0, []⟩, ⟨T_uint64, 1, none, 0, 0, []⟩, ⟨T_int64, 1, none, 0, 0, []⟩] := by
    refine ⟨h7, fun i r hr => ?_, fun i j x y hij hi hj => ?_, fun i r hr b hb => by cases hb⟩
    · match i, hr with
      | 0, hr => simp at hr; subst hr; exact Own.nil
      | 1, hr => simp at hr; subst hr; exact Own.nil
      | 2, hr => simp at hr; subst hr; exact Own.nil
    · match i, hi with
      | 0, hi => simp at hi; subst hi; exact fun u v hu _ => by cases hu
      | 1, hi => simp at hi; subst hi; exact fun u v hu _ => by cases hu
      | 2, hi => simp at hi; subst hi; exact fun u v hu _ => by cases hu
  refine Hn.new_row (by intro v hv; simp at hv; subst hv; rfl) (fun b hb => by cases hb) fun box w8 H8 e8 => ?_
  refine ⟨fun row rl rc out ol oc left k w' => 0 ≤ k ∧ k ≤ l.length ∧ (rl : Int) = k ∧ (ol : Int) = k ∧ left = all - sumL ((quos all (sumL l) l).take k.toNat) ∧ ∃ (c : Option Addr) (cl cc : Nat), (cl : Int) = k ∧
      Held w6 [] w' [⟨T_int, 1, row, rl, rc, (upto k.toNat).map (.int .i64)⟩, ⟨T_uint64, 1, c, cl, cc, ((rems all (sumL l) l).take k.toNat).map (.int .u64)⟩, ⟨T_int64, 1, out, ol, oc, ((quos all (sumL l) l).take k.toNat).map (.int .i64)⟩, ⟨37, 1, box, 1, 1, [.slice c cl cc]⟩],
    fun _ _ _ _ _ _ _ k _ => (l.length - k).toNat, ⟨by omega, by omega, by omega, by omega, by simp [sumL], none, 0, 0, by omega, H8.pick [1, 2, 3, 0] (by decide) rfl⟩, ?_⟩
  clear H8 e8 Hn
  rintro row rl rc out ol oc left k w14 ⟨hk0, hk1, hrl', hol', hleft, c, cl, cc, hcl, H⟩
  have hq1 := sumL_take_bounds (n := k.toNat) hqb (by omega)
  refine ⟨fun hlt => ?_, fun hge w15 h15 => ?_⟩
  · have hI := Ints.idx (h.ext H.ext) hk0 hlt
    have hxk := hx _ (getD_mem l 0 (i := k.toNat) (by omega))
    have hxs := hle _ (getD_mem l 0 (i := k.toNat) (by omega))
    have htq := take_map_succ (fun x => all * x / sumL l) l 0 (k := k.toNat) (by omega)
    have htr := take_map_succ (fun x => all * x % sumL l) l 0 (k := k.toNat) (by omega)
    revert hI hxk hxs htq htr
    generalize l.getD k.toNat 0 = x
    intro hI hxk hxs htq htr
    have hqx := quo_bounds hall hS ⟨hxk.1, hxs⟩
    have hrx := Int.emod_nonneg (all * x) (by omega : sumL l ≠ 0)
    have hrx2 := Int.emod_lt_of_pos (all * x) hS
    refine ⟨fun hp => cell_p hI (pIdx_none.2 hp), hk0, hlt, x, hI, ru64 (by omega), ru64 (by omega), fun w16 h16 => ?_⟩
    refine (Mul64_k all x hall (by omega) w16).mono fun v w17 ⟨e17, hv⟩ => ⟨e17, _, _, hv, ru64 (by omega), fun w20 h20 => ?_⟩
    have hax : 0 ≤ all * x := Int.mul_nonneg a0 hxk.1
    have hax2 : all * x ≤ 1099511627776 * sumL l := Int.le_trans (Int.mul_le_mul_of_nonneg_left hxs a0) (Int.mul_le_mul_of_nonneg_right a1 (by omega))
    have hdiv : all * x / 18446744073709551616 * 18446744073709551616 + all * x % 18446744073709551616 = all * x := by omega
    refine (Div64_k (all * x / 18446744073709551616) (all * x % 18446744073709551616) (sumL l) ⟨hS, hsm⟩ ⟨by omega, by omega⟩ ⟨by omega, by omega⟩ w20).mono fun v w21 ⟨e21, hv⟩ => ⟨e21, _, _, hv, ?_⟩
    rw [hdiv]
    refine ⟨fun row' rl' rc' out' ol' oc' w' => rl' = rl + 1 ∧ ol' = ol + 1 ∧ ∃ (c' : Option Addr) (cc' : Nat), Held w6 [] w' [⟨T_int, 1, row', rl', rc', (upto k.toNat).map (.int .i64) ++ [.int .i64 k]⟩, ⟨T_uint64, 1, c', cl + 1, cc', ((rems all (sumL l) l).take k.toNat).map (.int .u64) ++ [.int .u64 (all * x % sumL l)]⟩, ⟨T_int64, 1, out', ol', oc', ((quos all (sumL l) l).take k.toNat).map (.int .i64) ++ [.int .i64 (all * x / sumL l)]⟩, ⟨37, 1, box, 1, 1, [.slice c' (cl + 1) cc']⟩], ⟨i64 (by omega), ?_⟩, ?_⟩
    · have hl1 : rl < 1000 := by omega
      have hl2 : cl < 1000 := by omega
      have hl3 : ol < 1000 := by omega
      clear hdiv hax2 hax htq htr hI e21 e17 h20 h16 hv
      refine And.intro ?_ ?_
      · refine lit_step H elem_sl_int fun q w' H => ?_
        refine And.intro ?_ ?_
        · refine app_step H elem_sl_int 1 0 rfl rfl hl1 (by decide) fun q c' w' H => ?_
          refine ⟨_, _, _, (H.get 4 rfl).cells 0 _ rfl, ?_⟩
          refine And.intro ?_ ?_
          · refine lit_step H elem_sl_uint64 fun q w' H => ?_
            refine And.intro ?_ ?_
            · refine app_step H elem_sl_uint64 3 0 rfl rfl hl2 (by decide) fun q c' w' H => ?_
              refine lit_step H elem_sl_int64 fun q w' H => ?_
              refine app_step H elem_sl_int64 5 0 rfl rfl hl3 (by decide) fun q c' w' H => ?_
              exact leaf_k H rfl fun w'' H => ⟨rfl, rfl, _, _, H⟩
            · refine lit_step H elem_sl_int64 fun q w' H => ?_
              refine app_step H elem_sl_uint64 4 1 rfl rfl hl2 (by decide) fun q c' w' H => ?_
              refine app_step H elem_sl_int64 5 0 rfl rfl hl3 (by decide) fun q c' w' H => ?_
              exact leaf_k H rfl fun w'' H => ⟨rfl, rfl, _, _, H⟩
          · refine lit_step H elem_sl_int64 fun q w' H => ?_
            refine lit_step H elem_sl_uint64 fun q w' H => ?_
            refine app_step H elem_sl_uint64 4 0 rfl rfl hl2 (by decide) fun q c' w' H => ?_
            refine app_step H elem_sl_int64 5 1 rfl rfl hl3 (by decide) fun q c' w' H => ?_
            exact leaf_k H rfl fun w'' H => ⟨rfl, rfl, _, _, H⟩
        · refine And.intro ?_ ?_
          · refine ⟨_, _, _, (H.get 4 rfl).cells 0 _ rfl, ?_⟩
            refine And.intro ?_ ?_
            · refine app_step H elem_sl_int 1 0 rfl rfl hl1 (by decide) fun q c' w' H => ?_
              refine And.intro ?_ ?_
              · refine lit_step H elem_sl_uint64 fun q w' H => ?_
                refine And.intro ?_ ?_
                · refine app_step H elem_sl_uint64 3 0 rfl rfl hl2 (by decide) fun q c' w' H => ?_
                  refine lit_step H elem_sl_int64 fun q w' H => ?_
                  refine app_step H elem_sl_int64 5 0 rfl rfl hl3 (by decide) fun q c' w' H => ?_
                  exact leaf_k H rfl fun w'' H => ⟨rfl, rfl, _, _, H⟩
                · refine lit_step H elem_sl_int64 fun q w' H => ?_
                  refine app_step H elem_sl_uint64 4 1 rfl rfl hl2 (by decide) fun q c' w' H => ?_
                  refine app_step H elem_sl_int64 5 0 rfl rfl hl3 (by decide) fun q c' w' H => ?_
                  exact leaf_k H rfl fun w'' H => ⟨rfl, rfl, _, _, H⟩
              · refine lit_step H elem_sl_int64 fun q w' H => ?_
                refine lit_step H elem_sl_uint64 fun q w' H => ?_
                refine app_step H elem_sl_uint64 4 0 rfl rfl hl2 (by decide) fun q c' w' H => ?_
                refine app_step H elem_sl_int64 5 1 rfl rfl hl3 (by decide) fun q c' w' H => ?_
                exact leaf_k H rfl fun w'' H => ⟨rfl, rfl, _, _, H⟩
            · refine And.intro ?_ ?_
              · refine lit_step H elem_sl_uint64 fun q w' H => ?_
                refine And.intro ?_ ?_
                · refine app_step H elem_sl_int 2 1 rfl rfl hl1 (by decide) fun q c' w' H => ?_
                  refine And.intro ?_ ?_
                  · refine app_step H elem_sl_uint64 3 0 rfl rfl hl2 (by decide) fun q c' w' H => ?_
                    refine lit_step H elem_sl_int64 fun q w' H => ?_
                    refine app_step H elem_sl_int64 5 0 rfl rfl hl3 (by decide) fun q c' w' H => ?_
                    exact leaf_k H rfl fun w'' H => ⟨rfl, rfl, _, _, H⟩
                  · refine lit_step H elem_sl_int64 fun q w' H => ?_
                    refine app_step H elem_sl_uint64 4 1 rfl rfl hl2 (by decide) fun q c' w' H => ?_
                    refine app_step H elem_sl_int64 5 0 rfl rfl hl3 (by decide) fun q c' w' H => ?_
                    exact leaf_k H rfl fun w'' H => ⟨rfl, rfl, _, _, H⟩
                · refine lit_step H elem_sl_int64 fun q w' H => ?_
                  refine app_step H elem_sl_int 3 2 rfl rfl hl1 (by decide) fun q c' w' H => ?_
                  refine app_step H elem_sl_uint64 4 1 rfl rfl hl2 (by decide) fun q c' w' H => ?_
                  refine app_step H elem_sl_int64 5 0 rfl rfl hl3 (by decide) fun q c' w' H => ?_
                  exact leaf_k H rfl fun w'' H => ⟨rfl, rfl, _, _, H⟩
              · refine lit_step H elem_sl_int64 fun q w' H => ?_
                refine And.intro ?_ ?_
                · refine app_step H elem_sl_int 2 1 rfl rfl hl1 (by decide) fun q c' w' H => ?_
                  refine lit_step H elem_sl_uint64 fun q w' H => ?_
                  refine app_step H elem_sl_uint64 4 0 rfl rfl hl2 (by decide) fun q c' w' H => ?_
                  refine app_step H elem_sl_int64 5 1 rfl rfl hl3 (by decide) fun q c' w' H => ?_
                  exact leaf_k H rfl fun w'' H => ⟨rfl, rfl, _, _, H⟩
                · refine lit_step H elem_sl_uint64 fun q w' H => ?_
                  refine app_step H elem_sl_int 3 2 rfl rfl hl1 (by decide) fun q c' w' H => ?_
                  refine app_step H elem_sl_uint64 4 0 rfl rfl hl2 (by decide) fun q c' w' H => ?_
                  refine app_step H elem_sl_int64 5 1 rfl rfl hl3 (by decide) fun q c' w' H => ?_
                  exact leaf_k H rfl fun w'' H => ⟨rfl, rfl, _, _, H⟩
          · refine And.intro ?_ ?_
            · refine lit_step H elem_sl_uint64 fun q w' H => ?_
              refine And.intro ?_ ?_
              · refine app_step H elem_sl_int 2 1 rfl rfl hl1 (by decide) fun q c' w' H => ?_
                refine ⟨_, _, _, (H.get 5 rfl).cells 0 _ rfl, ?_⟩
                refine And.intro ?_ ?_
                · refine app_step H elem_sl_uint64 3 0 rfl rfl hl2 (by decide) fun q c' w' H => ?_
                  refine lit_step H elem_sl_int64 fun q w' H => ?_
                  refine app_step H elem_sl_int64 5 0 rfl rfl hl3 (by decide) fun q c' w' H => ?_
                  exact leaf_k H rfl fun w'' H => ⟨rfl, rfl, _, _, H⟩
                · refine lit_step H elem_sl_int64 fun q w' H => ?_
                  refine app_step H elem_sl_uint64 4 1 rfl rfl hl2 (by decide) fun q c' w' H => ?_
                  refine app_step H elem_sl_int64 5 0 rfl rfl hl3 (by decide) fun q c' w' H => ?_
                  exact leaf_k H rfl fun w'' H => ⟨rfl, rfl, _, _, H⟩
              · refine And.intro ?_ ?_
                · refine ⟨_, _, _, (H.get 5 rfl).cells 0 _ rfl, ?_⟩
                  refine And.intro ?_ ?_
                  · refine app_step H elem_sl_int 2 1 rfl rfl hl1 (by decide) fun q c' w' H => ?_
                    refine And.intro ?_ ?_
                    · refine app_step H elem_sl_uint64 3 0 rfl rfl hl2 (by decide) fun q c' w' H => ?_
                      refine lit_step H elem_sl_int64 fun q w' H => ?_
                      refine app_step H elem_sl_int64 5 0 rfl rfl hl3 (by decide) fun q c' w' H => ?_
                      exact leaf_k H rfl fun w'' H => ⟨rfl, rfl, _, _, H⟩
                    · refine lit_step H elem_sl_int64 fun q w' H => ?_
                      refine app_step H elem_sl_uint64 4 1 rfl rfl hl2 (by decide) fun q c' w' H => ?_
                      refine app_step H elem_sl_int64 5 0 rfl rfl hl3 (by decide) fun q c' w' H => ?_
                      exact leaf_k H rfl fun w'' H => ⟨rfl, rfl, _, _, H⟩
                  · refine lit_step H elem_sl_int64 fun q w' H => ?_
                    refine app_step H elem_sl_int 3 2 rfl rfl hl1 (by decide) fun q c' w' H => ?_
                    refine app_step H elem_sl_uint64 4 1 rfl rfl hl2 (by decide) fun q c' w' H => ?_
                    refine app_step H elem_sl_int64 5 0 rfl rfl hl3 (by decide) fun q c' w' H => ?_
                    exact leaf_k H rfl fun w'' H => ⟨rfl, rfl, _, _, H⟩
                · refine lit_step H elem_sl_int64 fun q w' H => ?_
                  refine And.intro ?_ ?_
                  · refine app_step H elem_sl_int 3 2 rfl rfl hl1 (by decide) fun q c' w' H => ?_
                    refine ⟨_, _, _, (H.get 6 rfl).cells 0 _ rfl, ?_⟩
                    refine app_step H elem_sl_uint64 4 1 rfl rfl hl2 (by decide) fun q c' w' H => ?_
                    refine app_step H elem_sl_int64 5 0 rfl rfl hl3 (by decide) fun q c' w' H => ?_
                    exact leaf_k H rfl fun w'' H => ⟨rfl, rfl, _, _, H⟩
                  · refine ⟨_, _, _, (H.get 6 rfl).cells 0 _ rfl, ?_⟩
                    refine app_step H elem_sl_int 3 2 rfl rfl hl1 (by decide) fun q c' w' H => ?_
                    refine app_step H elem_sl_uint64 4 1 rfl rfl hl2 (by decide) fun q c' w' H => ?_
                    refine app_step H elem_sl_int64 5 0 rfl rfl hl3 (by decide) fun q c' w' H => ?_
                    exact leaf_k H rfl fun w'' H => ⟨rfl, rfl, _, _, H⟩
            · refine lit_step H elem_sl_int64 fun q w' H => ?_
              refine And.intro ?_ ?_
              · refine app_step H elem_sl_int 2 1 rfl rfl hl1 (by decide) fun q c' w' H => ?_
                refine ⟨_, _, _, (H.get 5 rfl).cells 0 _ rfl, ?_⟩
                refine lit_step H elem_sl_uint64 fun q w' H => ?_
                refine app_step H elem_sl_uint64 4 0 rfl rfl hl2 (by decide) fun q c' w' H => ?_
                refine app_step H elem_sl_int64 5 1 rfl rfl hl3 (by decide) fun q c' w' H => ?_
                exact leaf_k H rfl fun w'' H => ⟨rfl, rfl, _, _, H⟩
              · refine And.intro ?_ ?_
                · refine ⟨_, _, _, (H.get 5 rfl).cells 0 _ rfl, ?_⟩
                  refine And.intro ?_ ?_
                  · refine app_step H elem_sl_int 2 1 rfl rfl hl1 (by decide) fun q c' w' H => ?_
                    refine lit_step H elem_sl_uint64 fun q w' H => ?_
                    refine app_step H elem_sl_uint64 4 0 rfl rfl hl2 (by decide) fun q c' w' H => ?_
                    refine app_step H elem_sl_int64 5 1 rfl rfl hl3 (by decide) fun q c' w' H => ?_
                    exact leaf_k H rfl fun w'' H => ⟨rfl, rfl, _, _, H⟩
                  · refine lit_step H elem_sl_uint64 fun q w' H => ?_
                    refine app_step H elem_sl_int 3 2 rfl rfl hl1 (by decide) fun q c' w' H => ?_
                    refine app_step H elem_sl_uint64 4 0 rfl rfl hl2 (by decide) fun q c' w' H => ?_
                    refine app_step H elem_sl_int64 5 1 rfl rfl hl3 (by decide) fun q c' w' H => ?_
                    exact leaf_k H rfl fun w'' H => ⟨rfl, rfl, _, _, H⟩
                · refine lit_step H elem_sl_uint64 fun q w' H => ?_
                  refine And.intro ?_ ?_
                  · refine app_step H elem_sl_int 3 2 rfl rfl hl1 (by decide) fun q c' w' H => ?_
                    refine ⟨_, _, _, (H.get 6 rfl).cells 0 _ rfl, ?_⟩
                    refine app_step H elem_sl_uint64 4 0 rfl rfl hl2 (by decide) fun q c' w' H => ?_
                    refine app_step H elem_sl_int64 5 1 rfl rfl hl3 (by decide) fun q c' w' H => ?_
                    exact leaf_k H rfl fun w'' H => ⟨rfl, rfl, _, _, H⟩
                  · refine ⟨_, _, _, (H.get 6 rfl).cells 0 _ rfl, ?_⟩
                    refine app_step H elem_sl_int 3 2 rfl rfl hl1 (by decide) fun q c' w' H => ?_
                    refine app_step H elem_sl_uint64 4 0 rfl rfl hl2 (by decide) fun q c' w' H => ?_
                    refine app_step H elem_sl_int64 5 1 rfl rfl hl3 (by decide) fun q c' w' H => ?_
                    exact leaf_k H rfl fun w'' H => ⟨rfl, rfl, _, _, H⟩
      · refine And.intro ?_ ?_
        · refine ⟨_, _, _, (H.get 3 rfl).cells 0 _ rfl, ?_⟩
          refine And.intro ?_ ?_
          · refine lit_step H elem_sl_int fun q w' H => ?_
            refine And.intro ?_ ?_
            · refine app_step H elem_sl_int 1 0 rfl rfl hl1 (by decide) fun q c' w' H => ?_
              refine And.intro ?_ ?_
              · refine lit_step H elem_sl_uint64 fun q w' H => ?_
                refine And.intro ?_ ?_
                · refine app_step H elem_sl_uint64 3 0 rfl rfl hl2 (by decide) fun q c' w' H => ?_
                  refine lit_step H elem_sl_int64 fun q w' H => ?_
                  refine app_step H elem_sl_int64 5 0 rfl rfl hl3 (by decide) fun q c' w' H => ?_
                  exact leaf_k H rfl fun w'' H => ⟨rfl, rfl, _, _, H⟩
                · refine lit_step H elem_sl_int64 fun q w' H => ?_
                  refine app_step H elem_sl_uint64 4 1 rfl rfl hl2 (by decide) fun q c' w' H => ?_
                  refine app_step H elem_sl_int64 5 0 rfl rfl hl3 (by decide) fun q c' w' H => ?_
                  exact leaf_k H rfl fun w'' H => ⟨rfl, rfl, _, _, H⟩
              · refine lit_step H elem_sl_int64 fun q w' H => ?_
                refine lit_step H elem_sl_uint64 fun q w' H => ?_
                refine app_step H elem_sl_uint64 4 0 rfl rfl hl2 (by decide) fun q c' w' H => ?_
                refine app_step H elem_sl_int64 5 1 rfl rfl hl3 (by decide) fun q c' w' H => ?_
                exact leaf_k H rfl fun w'' H => ⟨rfl, rfl, _, _, H⟩
            · refine And.intro ?_ ?_
              · refine lit_step H elem_sl_uint64 fun q w' H => ?_
                refine And.intro ?_ ?_
                · refine app_step H elem_sl_int 2 1 rfl rfl hl1 (by decide) fun q c' w' H => ?_
                  refine And.intro ?_ ?_
                  · refine app_step H elem_sl_uint64 3 0 rfl rfl hl2 (by decide) fun q c' w' H => ?_
                    refine lit_step H elem_sl_int64 fun q w' H => ?_
                    refine app_step H elem_sl_int64 5 0 rfl rfl hl3 (by decide) fun q c' w' H => ?_
                    exact leaf_k H rfl fun w'' H => ⟨rfl, rfl, _, _, H⟩
                  · refine lit_step H elem_sl_int64 fun q w' H => ?_
                    refine app_step H elem_sl_uint64 4 1 rfl rfl hl2 (by decide) fun q c' w' H => ?_
                    refine app_step H elem_sl_int64 5 0 rfl rfl hl3 (by decide) fun q c' w' H => ?_
                    exact leaf_k H rfl fun w'' H => ⟨rfl, rfl, _, _, H⟩
                · refine lit_step H elem_sl_int64 fun q w' H => ?_
                  refine app_step H elem_sl_int 3 2 rfl rfl hl1 (by decide) fun q c' w' H => ?_
                  refine app_step H elem_sl_uint64 4 1 rfl rfl hl2 (by decide) fun q c' w' H => ?_
                  refine app_step H elem_sl_int64 5 0 rfl rfl hl3 (by decide) fun q c' w' H => ?_
                  exact leaf_k H rfl fun w'' H => ⟨rfl, rfl, _, _, H⟩
              · refine lit_step H elem_sl_int64 fun q w' H => ?_
                refine And.intro ?_ ?_
                · refine app_step H elem_sl_int 2 1 rfl rfl hl1 (by decide) fun q c' w' H => ?_
                  refine lit_step H elem_sl_uint64 fun q w' H => ?_
                  refine app_step H elem_sl_uint64 4 0 rfl rfl hl2 (by decide) fun q c' w' H => ?_
                  refine app_step H elem_sl_int64 5 1 rfl rfl hl3 (by decide) fun q c' w' H => ?_
                  exact leaf_k H rfl fun w'' H => ⟨rfl, rfl, _, _, H⟩
                · refine lit_step H elem_sl_uint64 fun q w' H => ?_
                  refine app_step H elem_sl_int 3 2 rfl rfl hl1 (by decide) fun q c' w' H => ?_
                  refine app_step H elem_sl_uint64 4 0 rfl rfl hl2 (by decide) fun q c' w' H => ?_
                  refine app_step H elem_sl_int64 5 1 rfl rfl hl3 (by decide) fun q c' w' H => ?_
                  exact leaf_k H rfl fun w'' H => ⟨rfl, rfl, _, _, H⟩
          · refine And.intro ?_ ?_
            · refine lit_step H elem_sl_uint64 fun q w' H => ?_
              refine And.intro ?_ ?_
              · refine lit_step H elem_sl_int fun q w' H => ?_
                refine And.intro ?_ ?_
                · refine app_step H elem_sl_int 2 0 rfl rfl hl1 (by decide) fun q c' w' H => ?_
                  refine And.intro ?_ ?_
                  · refine app_step H elem_sl_uint64 3 1 rfl rfl hl2 (by decide) fun q c' w' H => ?_
                    refine lit_step H elem_sl_int64 fun q w' H => ?_
                    refine app_step H elem_sl_int64 5 0 rfl rfl hl3 (by decide) fun q c' w' H => ?_
                    exact leaf_k H rfl fun w'' H => ⟨rfl, rfl, _, _, H⟩
                  · refine lit_step H elem_sl_int64 fun q w' H => ?_
                    refine app_step H elem_sl_uint64 4 2 rfl rfl hl2 (by decide) fun q c' w' H => ?_
                    refine app_step H elem_sl_int64 5 0 rfl rfl hl3 (by decide) fun q c' w' H => ?_
                    exact leaf_k H rfl fun w'' H => ⟨rfl, rfl, _, _, H⟩
                · refine lit_step H elem_sl_int64 fun q w' H => ?_
                  refine app_step H elem_sl_int 3 1 rfl rfl hl1 (by decide) fun q c' w' H => ?_
                  refine app_step H elem_sl_uint64 4 2 rfl rfl hl2 (by decide) fun q c' w' H => ?_
                  refine app_step H elem_sl_int64 5 0 rfl rfl hl3 (by decide) fun q c' w' H => ?_
                  exact leaf_k H rfl fun w'' H => ⟨rfl, rfl, _, _, H⟩
              · refine lit_step H elem_sl_int64 fun q w' H => ?_
                refine lit_step H elem_sl_int fun q w' H => ?_
                refine app_step H elem_sl_int 3 0 rfl rfl hl1 (by decide) fun q c' w' H => ?_
                refine app_step H elem_sl_uint64 4 2 rfl rfl hl2 (by decide) fun q c' w' H => ?_
                refine app_step H elem_sl_int64 5 1 rfl rfl hl3 (by decide) fun q c' w' H => ?_
                exact leaf_k H rfl fun w'' H => ⟨rfl, rfl, _, _, H⟩
            · refine lit_step H elem_sl_int64 fun q w' H => ?_
              refine And.intro ?_ ?_
              · refine lit_step H elem_sl_int fun q w' H => ?_
                refine And.intro ?_ ?_
                · refine app_step H elem_sl_int 2 0 rfl rfl hl1 (by decide) fun q c' w' H => ?_
                  refine lit_step H elem_sl_uint64 fun q w' H => ?_
                  refine app_step H elem_sl_uint64 4 0 rfl rfl hl2 (by decide) fun q c' w' H => ?_
                  refine app_step H elem_sl_int64 5 2 rfl rfl hl3 (by decide) fun q c' w' H => ?_
                  exact leaf_k H rfl fun w'' H => ⟨rfl, rfl, _, _, H⟩
                · refine lit_step H elem_sl_uint64 fun q w' H => ?_
                  refine app_step H elem_sl_int 3 1 rfl rfl hl1 (by decide) fun q c' w' H => ?_
                  refine app_step H elem_sl_uint64 4 0 rfl rfl hl2 (by decide) fun q c' w' H => ?_
                  refine app_step H elem_sl_int64 5 2 rfl rfl hl3 (by decide) fun q c' w' H => ?_
                  exact leaf_k H rfl fun w'' H => ⟨rfl, rfl, _, _, H⟩
              · refine lit_step H elem_sl_uint64 fun q w' H => ?_
                refine lit_step H elem_sl_int fun q w' H => ?_
                refine app_step H elem_sl_int 3 0 rfl rfl hl1 (by decide) fun q c' w' H => ?_
                refine app_step H elem_sl_uint64 4 1 rfl rfl hl2 (by decide) fun q c' w' H => ?_
                refine app_step H elem_sl_int64 5 2 rfl rfl hl3 (by decide) fun q c' w' H => ?_
                exact leaf_k H rfl fun w'' H => ⟨rfl, rfl, _, _, H⟩
        · refine And.intro ?_ ?_
          · refine lit_step H elem_sl_uint64 fun q w' H => ?_
            refine And.intro ?_ ?_
            · refine lit_step H elem_sl_int fun q w' H => ?_
              refine And.intro ?_ ?_
              · refine app_step H elem_sl_int 2 0 rfl rfl hl1 (by decide) fun q c' w' H => ?_
                refine ⟨_, _, _, (H.get 5 rfl).cells 0 _ rfl, ?_⟩
                refine And.intro ?_ ?_
                · refine app_step H elem_sl_uint64 3 1 rfl rfl hl2 (by decide) fun q c' w' H => ?_
                  refine lit_step H elem_sl_int64 fun q w' H => ?_
                  refine app_step H elem_sl_int64 5 0 rfl rfl hl3 (by decide) fun q c' w' H => ?_
                  exact leaf_k H rfl fun w'' H => ⟨rfl, rfl, _, _, H⟩
                · refine lit_step H elem_sl_int64 fun q w' H => ?_
                  refine app_step H elem_sl_uint64 4 2 rfl rfl hl2 (by decide) fun q c' w' H => ?_
                  refine app_step H elem_sl_int64 5 0 rfl rfl hl3 (by decide) fun q c' w' H => ?_
                  exact leaf_k H rfl fun w'' H => ⟨rfl, rfl, _, _, H⟩
              · refine And.intro ?_ ?_
                · refine ⟨_, _, _, (H.get 5 rfl).cells 0 _ rfl, ?_⟩
                  refine And.intro ?_ ?_
                  · refine app_step H elem_sl_int 2 0 rfl rfl hl1 (by decide) fun q c' w' H => ?_
                    refine And.intro ?_ ?_
                    · refine app_step H elem_sl_uint64 3 1 rfl rfl hl2 (by decide) fun q c' w' H => ?_
                      refine lit_step H elem_sl_int64 fun q w' H => ?_
                      refine app_step H elem_sl_int64 5 0 rfl rfl hl3 (by decide) fun q c' w' H => ?_
                      exact leaf_k H rfl fun w'' H => ⟨rfl, rfl, _, _, H⟩
                    · refine lit_step H elem_sl_int64 fun q w' H => ?_
                      refine app_step H elem_sl_uint64 4 2 rfl rfl hl2 (by decide) fun q c' w' H => ?_
                      refine app_step H elem_sl_int64 5 0 rfl rfl hl3 (by decide) fun q c' w' H => ?_
                      exact leaf_k H rfl fun w'' H => ⟨rfl, rfl, _, _, H⟩
                  · refine lit_step H elem_sl_int64 fun q w' H => ?_
                    refine app_step H elem_sl_int 3 1 rfl rfl hl1 (by decide) fun q c' w' H => ?_
                    refine app_step H elem_sl_uint64 4 2 rfl rfl hl2 (by decide) fun q c' w' H => ?_
                    refine app_step H elem_sl_int64 5 0 rfl rfl hl3 (by decide) fun q c' w' H => ?_
                    exact leaf_k H rfl fun w'' H => ⟨rfl, rfl, _, _, H⟩
                · refine lit_step H elem_sl_int64 fun q w' H => ?_
                  refine And.intro ?_ ?_
                  · refine app_step H elem_sl_int 3 1 rfl rfl hl1 (by decide) fun q c' w' H => ?_
                    refine ⟨_, _, _, (H.get 6 rfl).cells 0 _ rfl, ?_⟩
                    refine app_step H elem_sl_uint64 4 2 rfl rfl hl2 (by decide) fun q c' w' H => ?_
                    refine app_step H elem_sl_int64 5 0 rfl rfl hl3 (by decide) fun q c' w' H => ?_
                    exact leaf_k H rfl fun w'' H => ⟨rfl, rfl, _, _, H⟩
                  · refine ⟨_, _, _, (H.get 6 rfl).cells 0 _ rfl, ?_⟩
                    refine app_step H elem_sl_int 3 1 rfl rfl hl1 (by decide) fun q c' w' H => ?_
                    refine app_step H elem_sl_uint64 4 2 rfl rfl hl2 (by decide) fun q c' w' H => ?_
                    refine app_step H elem_sl_int64 5 0 rfl rfl hl3 (by decide) fun q c' w' H => ?_
                    exact leaf_k H rfl fun w'' H => ⟨rfl, rfl, _, _, H⟩
            · refine And.intro ?_ ?_
              · refine ⟨_, _, _, (H.get 4 rfl).cells 0 _ rfl, ?_⟩
                refine And.intro ?_ ?_
                · refine lit_step H elem_sl_int fun q w' H => ?_
                  refine And.intro ?_ ?_
                  · refine app_step H elem_sl_int 2 0 rfl rfl hl1 (by decide) fun q c' w' H => ?_
                    refine And.intro ?_ ?_
                    · refine app_step H elem_sl_uint64 3 1 rfl rfl hl2 (by decide) fun q c' w' H => ?_
                      refine lit_step H elem_sl_int64 fun q w' H => ?_
                      refine app_step H elem_sl_int64 5 0 rfl rfl hl3 (by decide) fun q c' w' H => ?_
                      exact leaf_k H rfl fun w'' H => ⟨rfl, rfl, _, _, H⟩
                    · refine lit_step H elem_sl_int64 fun q w' H => ?_
                      refine app_step H elem_sl_uint64 4 2 rfl rfl hl2 (by decide) fun q c' w' H => ?_
                      refine app_step H elem_sl_int64 5 0 rfl rfl hl3 (by decide) fun q c' w' H => ?_
                      exact leaf_k H rfl fun w'' H => ⟨rfl, rfl, _, _, H⟩
                  · refine lit_step H elem_sl_int64 fun q w' H => ?_
                    refine app_step H elem_sl_int 3 1 rfl rfl hl1 (by decide) fun q c' w' H => ?_
                    refine app_step H elem_sl_uint64 4 2 rfl rfl hl2 (by decide) fun q c' w' H => ?_
                    refine app_step H elem_sl_int64 5 0 rfl rfl hl3 (by decide) fun q c' w' H => ?_
                    exact leaf_k H rfl fun w'' H => ⟨rfl, rfl, _, _, H⟩
                · refine lit_step H elem_sl_int64 fun q w' H => ?_
                  refine lit_step H elem_sl_int fun q w' H => ?_
                  refine app_step H elem_sl_int 3 0 rfl rfl hl1 (by decide) fun q c' w' H => ?_
                  refine app_step H elem_sl_uint64 4 2 rfl rfl hl2 (by decide) fun q c' w' H => ?_
                  refine app_step H elem_sl_int64 5 1 rfl rfl hl3 (by decide) fun q c' w' H => ?_
                  exact leaf_k H rfl fun w'' H => ⟨rfl, rfl, _, _, H⟩
              · refine lit_step H elem_sl_int64 fun q w' H => ?_
                refine And.intro ?_ ?_
                · refine lit_step H elem_sl_int fun q w' H => ?_
                  refine And.intro ?_ ?_
                  · refine app_step H elem_sl_int 3 0 rfl rfl hl1 (by decide) fun q c' w' H => ?_
                    refine ⟨_, _, _, (H.get 6 rfl).cells 0 _ rfl, ?_⟩
                    refine app_step H elem_sl_uint64 4 2 rfl rfl hl2 (by decide) fun q c' w' H => ?_
                    refine app_step H elem_sl_int64 5 1 rfl rfl hl3 (by decide) fun q c' w' H => ?_
                    exact leaf_k H rfl fun w'' H => ⟨rfl, rfl, _, _, H⟩
                  · refine ⟨_, _, _, (H.get 6 rfl).cells 0 _ rfl, ?_⟩
                    refine app_step H elem_sl_int 3 0 rfl rfl hl1 (by decide) fun q c' w' H => ?_
                    refine app_step H elem_sl_uint64 4 2 rfl rfl hl2 (by decide) fun q c' w' H => ?_
                    refine app_step H elem_sl_int64 5 1 rfl rfl hl3 (by decide) fun q c' w' H => ?_
                    exact leaf_k H rfl fun w'' H => ⟨rfl, rfl, _, _, H⟩
                · refine ⟨_, _, _, (H.get 5 rfl).cells 0 _ rfl, ?_⟩
                  refine lit_step H elem_sl_int fun q w' H => ?_
                  refine app_step H elem_sl_int 3 0 rfl rfl hl1 (by decide) fun q c' w' H => ?_
                  refine app_step H elem_sl_uint64 4 2 rfl rfl hl2 (by decide) fun q c' w' H => ?_
                  refine app_step H elem_sl_int64 5 1 rfl rfl hl3 (by decide) fun q c' w' H => ?_
                  exact leaf_k H rfl fun w'' H => ⟨rfl, rfl, _, _, H⟩
          · refine lit_step H elem_sl_int64 fun q w' H => ?_
            refine And.intro ?_ ?_
            · refine lit_step H elem_sl_int fun q w' H => ?_
              refine And.intro ?_ ?_
              · refine app_step H elem_sl_int 2 0 rfl rfl hl1 (by decide) fun q c' w' H => ?_
                refine ⟨_, _, _, (H.get 5 rfl).cells 0 _ rfl, ?_⟩
                refine lit_step H elem_sl_uint64 fun q w' H => ?_
                refine app_step H elem_sl_uint64 4 0 rfl rfl hl2 (by decide) fun q c' w' H => ?_
                refine app_step H elem_sl_int64 5 2 rfl rfl hl3 (by decide) fun q c' w' H => ?_
                exact leaf_k H rfl fun w'' H => ⟨rfl, rfl, _, _, H⟩
              · refine And.intro ?_ ?_
                · refine ⟨_, _, _, (H.get 5 rfl).cells 0 _ rfl, ?_⟩
                  refine And.intro ?_ ?_
                  · refine app_step H elem_sl_int 2 0 rfl rfl hl1 (by decide) fun q c' w' H => ?_
                    refine lit_step H elem_sl_uint64 fun q w' H => ?_
                    refine app_step H elem_sl_uint64 4 0 rfl rfl hl2 (by decide) fun q c' w' H => ?_
                    refine app_step H elem_sl_int64 5 2 rfl rfl hl3 (by decide) fun q c' w' H => ?_
                    exact leaf_k H rfl fun w'' H => ⟨rfl, rfl, _, _, H⟩
                  · refine lit_step H elem_sl_uint64 fun q w' H => ?_
                    refine app_step H elem_sl_int 3 1 rfl rfl hl1 (by decide) fun q c' w' H => ?_
                    refine app_step H elem_sl_uint64 4 0 rfl rfl hl2 (by decide) fun q c' w' H => ?_
                    refine app_step H elem_sl_int64 5 2 rfl rfl hl3 (by decide) fun q c' w' H => ?_
                    exact leaf_k H rfl fun w'' H => ⟨rfl, rfl, _, _, H⟩
                · refine lit_step H elem_sl_uint64 fun q w' H => ?_
                  refine And.intro ?_ ?_
                  · refine app_step H elem_sl_int 3 1 rfl rfl hl1 (by decide) fun q c' w' H => ?_
                    refine ⟨_, _, _, (H.get 6 rfl).cells 0 _ rfl, ?_⟩
                    refine app_step H elem_sl_uint64 4 0 rfl rfl hl2 (by decide) fun q c' w' H => ?_
                    refine app_step H elem_sl_int64 5 2 rfl rfl hl3 (by decide) fun q c' w' H => ?_
                    exact leaf_k H rfl fun w'' H => ⟨rfl, rfl, _, _, H⟩
                  · refine ⟨_, _, _, (H.get 6 rfl).cells 0 _ rfl, ?_⟩
                    refine app_step H elem_sl_int 3 1 rfl rfl hl1 (by decide) fun q c' w' H => ?_
                    refine app_step H elem_sl_uint64 4 0 rfl rfl hl2 (by decide) fun q c' w' H => ?_
                    refine app_step H elem_sl_int64 5 2 rfl rfl hl3 (by decide) fun q c' w' H => ?_
                    exact leaf_k H rfl fun w'' H => ⟨rfl, rfl, _, _, H⟩
            · refine And.intro ?_ ?_
              · refine ⟨_, _, _, (H.get 4 rfl).cells 0 _ rfl, ?_⟩
                refine And.intro ?_ ?_
                · refine lit_step H elem_sl_int fun q w' H => ?_
                  refine And.intro ?_ ?_
                  · refine app_step H elem_sl_int 2 0 rfl rfl hl1 (by decide) fun q c' w' H => ?_
                    refine lit_step H elem_sl_uint64 fun q w' H => ?_
                    refine app_step H elem_sl_uint64 4 0 rfl rfl hl2 (by decide) fun q c' w' H => ?_
                    refine app_step H elem_sl_int64 5 2 rfl rfl hl3 (by decide) fun q c' w' H => ?_
                    exact leaf_k H rfl fun w'' H => ⟨rfl, rfl, _, _, H⟩
                  · refine lit_step H elem_sl_uint64 fun q w' H => ?_
                    refine app_step H elem_sl_int 3 1 rfl rfl hl1 (by decide) fun q c' w' H => ?_
                    refine app_step H elem_sl_uint64 4 0 rfl rfl hl2 (by decide) fun q c' w' H => ?_
                    refine app_step H elem_sl_int64 5 2 rfl rfl hl3 (by decide) fun q c' w' H => ?_
                    exact leaf_k H rfl fun w'' H => ⟨rfl, rfl, _, _, H⟩
                · refine lit_step H elem_sl_uint64 fun q w' H => ?_
                  refine lit_step H elem_sl_int fun q w' H => ?_
                  refine app_step H elem_sl_int 3 0 rfl rfl hl1 (by decide) fun q c' w' H => ?_
                  refine app_step H elem_sl_uint64 4 1 rfl rfl hl2 (by decide) fun q c' w' H => ?_
                  refine app_step H elem_sl_int64 5 2 rfl rfl hl3 (by decide) fun q c' w' H => ?_
                  exact leaf_k H rfl fun w'' H => ⟨rfl, rfl, _, _, H⟩
              · refine lit_step H elem_sl_uint64 fun q w' H => ?_
                refine And.intro ?_ ?_
                · refine lit_step H elem_sl_int fun q w' H => ?_
                  refine And.intro ?_ ?_
                  · refine app_step H elem_sl_int 3 0 rfl rfl hl1 (by decide) fun q c' w' H => ?_
                    refine ⟨_, _, _, (H.get 6 rfl).cells 0 _ rfl, ?_⟩
                    refine app_step H elem_sl_uint64 4 1 rfl rfl hl2 (by decide) fun q c' w' H => ?_
                    refine app_step H elem_sl_int64 5 2 rfl rfl hl3 (by decide) fun q c' w' H => ?_
                    exact leaf_k H rfl fun w'' H => ⟨rfl, rfl, _, _, H⟩
                  · refine ⟨_, _, _, (H.get 6 rfl).cells 0 _ rfl, ?_⟩
                    refine app_step H elem_sl_int 3 0 rfl rfl hl1 (by decide) fun q c' w' H => ?_
                    refine app_step H elem_sl_uint64 4 1 rfl rfl hl2 (by decide) fun q c' w' H => ?_
                    refine app_step H elem_sl_int64 5 2 rfl rfl hl3 (by decide) fun q c' w' H => ?_
                    exact leaf_k H rfl fun w'' H => ⟨rfl, rfl, _, _, H⟩
                · refine ⟨_, _, _, (H.get 5 rfl).cells 0 _ rfl, ?_⟩
                  refine lit_step H elem_sl_int fun q w' H => ?_
                  refine app_step H elem_sl_int 3 0 rfl rfl hl1 (by decide) fun q c' w' H => ?_
                  refine app_step H elem_sl_uint64 4 1 rfl rfl hl2 (by decide) fun q c' w' H => ?_
                  refine app_step H elem_sl_int64 5 2 rfl rfl hl3 (by decide) fun q c' w' H => ?_
                  exact leaf_k H rfl fun w'' H => ⟨rfl, rfl, _, _, H⟩
    · rintro row' rl' rc' out' ol' oc' w27 ⟨rfl, rfl, c', cc', H'⟩
      have hk' : (k + 1).toNat = k.toNat + 1 := by omega
      have hs : sumL ((quos all (sumL l) l).take (k.toNat + 1)) = sumL ((quos all (sumL l) l).take k.toNat) + all * x / sumL l := by
        show sumL ((l.map fun x => all * x / sumL l).take (k.toNat + 1)) = _
        rw [htq, sumL_append]; simp [sumL, quos]
      refine ⟨i64 (by omega), i64 (by omega), i64 (by omega), ⟨by omega, by omega, by omega, by omega, by rw [hk', hs]; omega, c', cl + 1, cc', by omega, ?_⟩, by simp only []; omega⟩
      have e1 : upto (k + 1).toNat = upto k.toNat ++ [k] := by rw [hk', upto_succ]; congr 2; omega
      have e2 : (rems all (sumL l) l).take (k + 1).toNat = (rems all (sumL l) l).take k.toNat ++ [all * x % sumL l] := by rw [hk']; exact htr
      have e3 : (quos all (sumL l) l).take (k + 1).toNat = (quos all (sumL l) l).take k.toNat ++ [all * x / sumL l] := by rw [hk']; exact htq
      rw [e1, e2, e3]
      simp only [List.map_append, List.map_cons, List.map_nil]
      exact H'
  · have hkl : k = l.length := by omega
    subst hkl
    rw [show ((l.length : Int)).toNat = l.length by omega] at H hleft
    rw [← hql] at H hleft
    rw [List.take_length] at hleft
    rw [List.take_length, hql] at H
    have hrt : (rems all (sumL l) l).take l.length = rems all (sumL l) l := by rw [← hrl, List.take_length]
    rw [hrt] at H
    obtain rfl : rl = l.length := by omega
    obtain rfl : ol = l.length := by omega
    obtain rfl : cl = l.length := by omega
    have H15 := H.to h15
    have oR := H15.get 0 rfl
    have hG : Keeps (Rest w6 row [⟨T_uint64, 1, c, l.length, cc, (rems all (sumL l) l).map (.int .u64)⟩, ⟨T_int64, 1, out, l.length, oc, (quos all (sumL l) l).map (.int .i64)⟩, ⟨37, 1, box, 1, 1, [.slice c l.length cc]⟩]) row := Rest.keeps fun a ha => (oR.lt a ha).1
    have g15 : Rest w6 row [⟨T_uint64, 1, c, l.length, cc, (rems all (sumL l) l).map (.int .u64)⟩, ⟨T_int64, 1, out, l.length, oc, (quos all (sumL l) l).map (.int .i64)⟩, ⟨37, 1, box, 1, 1, [.slice c l.length cc]⟩] w15 := ⟨H15.ext, fun r hr => by
      simp only [List.mem_cons, List.not_mem_nil, or_false] at hr
      rcases hr with rfl | rfl | rfl
      · exact ⟨H15.get 1 rfl, H15.apart 1 0 _ _ (by decide) rfl rfl⟩
      · exact ⟨H15.get 2 rfl, H15.apart 2 0 _ _ (by decide) rfl rfl⟩
      · exact ⟨H15.get 3 rfl, H15.apart 3 0 _ _ (by decide) rfl rfl⟩⟩
    have hcmp : Cmps (Rest w6 row [⟨T_uint64, 1, c, l.length, cc, (rems all (sumL l) l).map (.int .u64)⟩, ⟨T_int64, 1, out, l.length, oc, (quos all (sumL l) l).map (.int .i64)⟩, ⟨37, 1, box, 1, 1, [.slice c l.length cc]⟩]) (fun x => 0 ≤ x ∧ x < l.length) (fun i => (rems all (sumL l) l).getD i.toNat 0) (.func (.func 19) #[] #[.pointer box]) := fun x y w' g' hxx hyy => by
      have ob : Own w6.heap.size w' 37 1 box 1 1 [.slice c l.length cc] := (g'.2 ⟨37, 1, box, 1, 1, [.slice c l.length cc]⟩ (by simp)).1
      have oc' : Own w6.heap.size w' T_uint64 1 c l.length cc ((rems all (sumL l) l).map (.int .u64)) := (g'.2 ⟨T_uint64, 1, c, l.length, cc, (rems all (sumL l) l).map (.int .u64)⟩ (by simp)).1
      have cb := ob.cells 0 _ rfl
      have cx := oc'.int_at (i := x) hxx.1 (by omega)
      have cy := oc'.int_at (i := y) hyy.1 (by omega)
      have hcn : c ≠ none := oc'.ne1 (by omega) (by omega)
      refine ⟨_, _, rfl, (ok_share_Whole_1 x y box w' _ ⟨c, _, _, cb, hcn, hyy.1, hyy.2, _, cy, c, _, _, cb, hcn, hxx.1, hxx.2, _, cx, fun w8 h8 => ?_⟩ : FnP Try.prog 19 _ _ _)⟩
      exact (Compare_k _ _ w8).mono fun v w9 ⟨e9, t, hv, ht⟩ => ⟨e9, t, hv, fun w11 h11 => ⟨h11, t, rfl, ht⟩⟩
    refine (sort_k hG hcmp (upto l.length) (fun x hx' => mem_upto hx') (by omega) w15 H15.ext g15 oR).mono fun v w16 ⟨hv, Y, hY, hfall⟩ => ⟨hv, Int.le_refl _, ?_⟩
    have hYl : Y.length = l.length := hY.len
    have hYm : ∀ y ∈ Y, 0 ≤ y ∧ y < l.length := fun y hy => mem_upto (hY.perm.mem_iff.1 hy)
    have hrc := oR.le
    rw [pCut_zero]
    rw [hleft]
    refine ⟨hlb.1, by omega, fun k w' => 0 ≤ k ∧ k ≤ all - sumL (quos all (sumL l) l) ∧ Ext w6 w' ∧ Own w6.heap.size w' T_int 1 row l.length rc (Y.map (.int .i64)) ∧ Own w6.heap.size w' T_int64 1 out l.length oc ((bump (quos all (sumL l) l) (Y.take k.toNat)).map (.int .i64)), fun k _ => (all - sumL (quos all (sumL l) l) - k).toNat, ⟨Int.le_refl _, hlb.1, hY.g.1, hY.own, (hY.g.2 ⟨T_int64, 1, out, l.length, oc, (quos all (sumL l) l).map (.int .i64)⟩ (by simp)).1⟩, ?_⟩
    have hap : Apart out row := (hY.g.2 ⟨T_int64, 1, out, l.length, oc, (quos all (sumL l) l).map (.int .i64)⟩ (by simp)).2
    rintro k w19 ⟨hk0, hk1', hx19, o1, o2⟩
    have hbl : (bump (quos all (sumL l) l) (Y.take k.toNat)).length = l.length := by rw [bump_len, hql]
    refine ⟨fun hlt => ?_, fun hge' w20 h20 => ⟨hx19.trans h20, _, _, _, _, rfl, .inr ⟨rfl, rfl, _, ⟨⟨a0, a1, hlen, hx⟩, hS, hsm, Y, hY.perm, hfall, rfl, hlb.1, hlb.2⟩, ?_⟩⟩⟩
    · have hyk := hYm _ (getD_mem Y 0 (i := k.toNat) (by omega))
      have hbk : ∀ x ∈ quos all (sumL l) l, 0 ≤ x ∧ x ≤ 1099511627776 := hqb
      have ho := o2.int_at (i := Y.getD k.toNat 0) hyk.1 (by omega)
      have hbnd : ∀ (B Z : List Int) (m : Int), (∀ x ∈ Z, 0 ≤ x ∧ x ≤ m) → ∀ x ∈ bump Z B, 0 ≤ x ∧ x ≤ m + B.length := by
        intro B
        induction B with
        | nil => intro Z m hZ x hx'; have := hZ x hx'; simp; omega
        | cons b B ih =>
          intro Z m hZ x hx'
          have := ih (Z.set b.toNat (Z.getD b.toNat 0 + 1)) (m + 1) (fun y hy => by
            rcases List.mem_or_eq_of_mem_set hy with hy | rfl
            · have := hZ y hy; omega
            · by_cases hb : b.toNat < Z.length
              · have := hZ _ (getD_mem Z 0 hb); omega
              · rw [List.set_eq_of_length_le (by omega)] at hy
                have := hZ _ hy; omega) x hx'
          simp only [List.length_cons]; omega
      have hv := hbnd (Y.take k.toNat) _ _ hbk _ (getD_mem (bump (quos all (sumL l) l) (Y.take k.toNat)) 0 (i := (Y.getD k.toNat 0).toNat) (by omega))
      have htl : ((Y.take k.toNat).length : Int) ≤ 100 := by rw [List.length_take]; omega
      have hrn : row ≠ none := o1.ne1 (by omega) (by omega)
      have hon : out ≠ none := o2.ne1 (by omega) (by omega)
      refine ⟨hrn, hk0, hlt, _, o1.int_at hk0 (by omega), hon, hyk.1, hyk.2, _, ho, i64 (by omega), hon, hyk.1, hyk.2, ?_⟩
      refine store_int o2 hyk.1 (by omega) (by simp) fun w22 o22 g22 => ⟨i64 (by omega), ⟨by omega, by omega, g22.ext hx19 o2, o1.st (Apart.symm hap) g22, ?_⟩, by simp only []; omega⟩
      rw [show (k + 1).toNat = k.toNat + 1 by omega, List.take_succ_eq_append_getElem (by omega), bump_append]
      have hg : Y.getD k.toNat 0 = Y[k.toNat]'(by omega) := by simp [List.getD_eq_getElem?_getD, show k.toNat < Y.length by omega]
      rw [← hg]
      exact o22
    · rw [show k = all - sumL (quos all (sumL l) l) by omega] at o2
      exact o2.ext h20
end Go.Proofs.Ythndjkpnllanpaa
