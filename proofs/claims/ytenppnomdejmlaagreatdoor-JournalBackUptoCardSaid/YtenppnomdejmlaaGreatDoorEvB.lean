/- Events are decoded. -/
import Derived.Test.YtenppnomdejmlaaGreatDoorEvA
import Derived.Test.YtenppnomdejmlaaGreatDoorTxtV
set_option linter.unusedVariables false
set_option linter.unusedSimpArgs false
namespace Go.Proofs.YtenppnomdejmlaaGreatDoor
open Go.Sx Go.RowKit

/-! ### Numbers of bytes -/
theorem wrap60 (n : Int) (h0 : 0 ≤ n) (h1 : n < 2 ^ 60) : IntKind.wrap .i64 n = n := by
  have e : (2 : Int) ^ 60 = 1152921504606846976 := by decide
  rw [e] at h1
  exact wrap64 (by omega)
theorem shl8 {n : Int} (h : 0 ≤ n ∧ n < 1099511627776) : iBit .shl .i64 n 8 = n * 256 := by
  show IntKind.wrap .i64 (n * 2 ^ (min (8 : Int).toNat IntKind.i64.bits)) = _
  rw [show min (8 : Int).toNat IntKind.i64.bits = 8 by decide, show (2 : Int) ^ 8 = 256 by decide]
  exact wrap64 (by omega)
theorem join8 {n c : Int} (h : 0 ≤ n ∧ n < 1099511627776) (hc : 0 ≤ c ∧ c ≤ 255) : iBit .or .i64 (iBit .shl .i64 n 8) c = n * 256 + c := by
  rw [shl8 h]
  have e60 : (2 : Int) ^ 60 = 1152921504606846976 := by decide
  have e8 : (2 : Int) ^ 8 = 256 := by decide
  exact bits_join .i64 60 (by decide) wrap60 8 (n * 256) c (by omega) (by rw [e8]; omega) (by rw [e60]; omega) hc.1 (by rw [e8]; omega) (by rw [e60]; omega)
theorem mask8 {n : Int} (h : 0 ≤ n ∧ n < 1099511627776) : iBit .and .i64 n 255 = n % 256 := by
  have e60 : (2 : Int) ^ 60 = 1152921504606846976 := by decide
  have := bits_mask .i64 60 (by decide) wrap60 8 (by decide) n h.1 (by rw [e60]; omega)
  rw [show (2 : Int) ^ 8 - 1 = 255 by decide, show (2 : Int) ^ 8 = 256 by decide] at this
  exact this
theorem shr_k (n : Int) (k : Nat) (hk : k ≤ 64) : iBit .shr .i64 n (k : Int) = n / (2 ^ k : Int) := by
  show n.fdiv (2 ^ (min ((k : Int)).toNat IntKind.i64.bits)) = _
  rw [show min ((k : Int)).toNat IntKind.i64.bits = k by simp only [Int.toNat_natCast, IntKind.bits]; omega]
  exact Int.fdiv_eq_ediv_of_nonneg _ (Int.le_of_lt (Int.pow_pos (by decide)))
theorem num2 (n : Int) : num n 2 = [ub (n / 256), ub n] := by
  have a := shr_k n 8 (by decide)
  have b := shr_k n 0 (by decide)
  rw [show (2 : Int) ^ 8 = 256 by decide] at a
  rw [show (2 : Int) ^ 0 = 1 by decide, Int.ediv_one] at b
  show [ub (iBit .shr .i64 n ((8 : Nat) : Int)), ub (iBit .shr .i64 n ((0 : Nat) : Int))] = _
  rw [a, b]
theorem num4 (n : Int) : num n 4 = [ub (n / 16777216), ub (n / 65536), ub (n / 256), ub n] := by
  have a := shr_k n 24 (by decide)
  have b := shr_k n 16 (by decide)
  have c := shr_k n 8 (by decide)
  have d := shr_k n 0 (by decide)
  rw [show (2 : Int) ^ 24 = 16777216 by decide] at a
  rw [show (2 : Int) ^ 16 = 65536 by decide] at b
  rw [show (2 : Int) ^ 8 = 256 by decide] at c
  rw [show (2 : Int) ^ 0 = 1 by decide, Int.ediv_one] at d
  show [ub (iBit .shr .i64 n ((24 : Nat) : Int)), ub (iBit .shr .i64 n ((16 : Nat) : Int)), ub (iBit .shr .i64 n ((8 : Nat) : Int)), ub (iBit .shr .i64 n ((0 : Nat) : Int))] = _
  rw [a, b, c, d]
def nOf (l : Bs) : Int := l.foldl (fun n c => iBit .or .i64 (iBit .shl .i64 n 8) (c.toNat : Int)) 0
theorem u8b (c : UInt8) : 0 ≤ (c.toNat : Int) ∧ (c.toNat : Int) ≤ 255 := by have := c.toNat_lt; omega
theorem nOf2 (a b : UInt8) : nOf [a, b] = a.toNat * 256 + b.toNat := by
  have ha := u8b a; have hb := u8b b
  simp only [nOf, List.foldl_cons, List.foldl_nil]
  rw [join8 (by omega) ha, join8 (by omega) hb]
  omega
theorem nOf3 (a b c : UInt8) : nOf [a, b, c] = (a.toNat * 256 + b.toNat) * 256 + c.toNat := by
  have ha := u8b a; have hb := u8b b; have hc := u8b c
  simp only [nOf, List.foldl_cons, List.foldl_nil]
  rw [join8 (by omega) ha, join8 (by omega) hb, join8 (by omega) hc]
  omega
theorem nOf4 (a b c d : UInt8) : nOf [a, b, c, d] = ((a.toNat * 256 + b.toNat) * 256 + c.toNat) * 256 + d.toNat := by
  have ha := u8b a; have hb := u8b b; have hc := u8b c; have hd := u8b d
  simp only [nOf, List.foldl_cons, List.foldl_nil]
  rw [join8 (by omega) ha, join8 (by omega) hb, join8 (by omega) hc, join8 (by omega) hd]
  omega

/-! ### Decoding -/
structure ET (bs : Bs) (x : Ev) : Prop where
  ok : okE x
  nod : nod x.job.ask ≤ 1048576
  is : enc x = bs
  ask : x.kind = 1 → (txt x.job.ask).length ≤ 2000
def ERes (w : World) (bs : Bs) (v : Value) (w' : World) : Prop := Ext w w' ∧ ∃ x pa ca pf cf e, v = .tuple #[evv x pa ca pf cf, .int .i64 e] ∧ WfJ x.job ∧ (∀ S : Nat → Prop, (∀ b, S b → b < w.heap.size) → ∀ w'', Fr S w' w'' → IsJ w'' x.job pa ca pf) ∧
  ((e ≠ 0 ∧ x = zeroE ∧ pa = none ∧ ca = 0 ∧ pf = none ∧ cf = 0) ∨ (e = 0 ∧ okE x ∧ nod x.job.ask ≤ 60 ∧ enc x = bs ∧ (x.kind = 1 → (txt x.job.ask).length ≤ 2000))) ∧ (∀ x0, ET bs x0 → bs.length ≤ 3001 → e = 0 ∧ x = x0)
theorem eres_zero {w w' : World} {bs : Bs} (x : Ext w w') {e : Int} (he : e ≠ 0) (hno : ∀ x0, ET bs x0 → bs.length ≤ 3001 → False) : ERes w bs (.tuple #[evv zeroE none 0 none 0, .int .i64 e]) w' :=
  ⟨x, zeroE, none, 0, none, 0, e, rfl, zeroJ_wf, fun _ _ _ _ => zeroJ_at _, .inl ⟨he, rfl, rfl, rfl, rfl, rfl⟩, fun x0 h hs => (hno x0 h hs).elim⟩
theorem ints_cut {w : World} {p : Option Addr} {c j : Nat} {l : Bs} (h : Ints .u8 w p (bI l)) (hlc : l.length ≤ c) : Ints .u8 w (pCut p c (j : Int) 1) (bI (l.drop j)) := by
  rcases Nat.lt_or_ge j l.length with hj | hj
  · intro i v hv
    rw [cell_pCut _ _ _ _ _ _ (by simp; omega)]
    simp only [Int.toNat_natCast, Nat.mul_one]
    refine h (j + i) v ?_
    simp only [bI, List.map_drop, List.map_map] at hv ⊢
    rw [List.getElem?_drop] at hv
    exact hv
  · rw [List.drop_of_length_le hj]; exact Cells.nil
theorem ints_pre {w : World} {p : Option Addr} {j : Nat} {l : Bs} (h : Ints .u8 w p (bI l)) : Ints .u8 w p (bI (l.take j)) := fun i v hv => by
  refine h i v ?_
  simp only [bI, List.map_take, List.getElem?_take] at hv ⊢
  split at hv
  · exact hv
  · cases hv
theorem ev_ext {x y : Ev} (h1 : x.kind = y.kind) (h2 : x.job = y.job) (h3 : x.n = y.n) (h4 : x.id = y.id) (h5 : x.ok = y.ok) : x = y := by
  cases x; cases y; simp only at h1 h2 h3 h4 h5; subst h1 h2 h3 h4 h5; rfl

theorem Decode_k (b : Option Addr) (bc : Nat) (bs : Bs) (w : World) (hi : Ints .u8 w b (bI bs)) (hbc : bs.length ≤ bc) (hbm : bc ≤ 9223372036854775807) (g : GB w) : FnP Tryz.prog F_event_Decode #[.slice b bs.length bc] w (ERes w bs) := by
  refine ok_event_Decode b bs.length bc w _ fun b0 hb0 => ⟨fun hbig w1 h1 => eres_zero h1 (by decide) fun x0 _ h => by omega, fun hle => ⟨fun h0 w1 h1 => eres_zero h1 (by decide) fun x0 hx _ => ?_, fun hne => ?_⟩⟩
  · have := congrArg List.length hx.is
    unfold enc at this
    simp at this
    omega
  obtain ⟨k0, rest, rfl⟩ : ∃ k0 rest, bs = k0 :: rest := by
    cases bs with
    | nil => exact absurd rfl hne
    | cons k r => exact ⟨k, r, rfl⟩
  have hk0 := u8b k0
  have g0 : Go.Sx.cell w (pIdx b 0 1) 0 = some (.int .u8 k0.toNat) := by
    rw [cell_pIdx]
    exact hi 0 _ rfl
  have hri : Ints .u8 w (pCut b bc ((1 : Nat) : Int) 1) (bI rest) := ints_cut (j := 1) hi hbc
  have hri : Ints .u8 w (pCut b bc 1 1) (bI rest) := hri
  have hlr : (k0 :: rest).length = rest.length + 1 := rfl
  -- what kind it must be
  have hkd : ∀ x0, ET (k0 :: rest) x0 → x0.kind = k0.toNat ∧ enc x0 = k0 :: rest := fun x0 hx => by
    have h1 := hx.is
    have hk := okE_kind hx.ok
    refine ⟨?_, h1⟩
    unfold enc at h1
    have h2 := (List.cons.inj h1).1
    rw [← h2, ub_small (by omega)]
  -- the event is encoded again
  have tail : ∀ (x : Ev) (pa : Option Addr) (ca : Nat) (pf : Option Addr) (cf : Nat) (w7 : World), Ext w w7 → WfJ x.job → nod x.job.ask ≤ 60 → (x.kind = 1 → (txt x.job.ask).length ≤ 2000) → (∀ S : Nat → Prop, (∀ b, S b → b < w.heap.size ∨ b = b0) → ∀ w'', Fr S w7 w'' → IsJ w'' x.job pa ca pf) →
      (∀ x0, ET (k0 :: rest) x0 → (k0 :: rest).length ≤ 3001 → x = x0) →
      FnP Tryz.prog F_event_Encode #[evv x pa ca pf cf] w7 fun v8 w8 => Ext w7 w8 ∧ ∃ t9 : Option Addr, ∃ tl10 : Nat, ∃ tc11 : Nat, ∃ t12 : Int, v8 = (.tuple #[(.slice t9 tl10 tc11), (.int .i64 t12)]) ∧
        ((t12 ≠ 0) → ∀ w13, ExtB [b0] [] w8 w13 → ERes w (k0 :: rest) (.tuple #[evv zeroE none 0 none 0, .int .i64 3]) w13) ∧
        ((t12 = 0) → ∀ w13, Ext w8 w13 → FnP Tryz.prog F_bytes_Equal #[(.slice t9 tl10 tc11), (.slice b (k0 :: rest).length bc)] w13 fun v14 w14 => Ext w13 w14 ∧ ∃ t15 : Bool, v14 = (.bool t15) ∧
          ((t15 = false) → ∀ w16, ExtB [b0] [] w8 w16 → ERes w (k0 :: rest) (.tuple #[evv zeroE none 0 none 0, .int .i64 3]) w16) ∧
          ((t15 = true) → ∀ w16, ExtB [b0] [] w8 w16 → ERes w (k0 :: rest) (.tuple #[evv x pa ca pf cf, .int .i64 0]) w16)) := by
    intro x pa ca pf cf w7 hw7 hW hn hask hJ hC
    refine (eEncode_k x pa ca pf cf w7 (hJ (fun _ => False) (fun _ h => h.elim) w7 (Fr.refl _ _)) hW (by omega) (g.ext hw7)).mono fun v w8 ⟨e8, p, n, c, e, hv, heq, hz, hok⟩ => ⟨e8, p, n, c, e, hv, fun hne w13 x13 => ?_, fun he w13 h13 => ?_⟩
    · refine eres_zero (but_ext x13 (hw7.trans e8) (by intro d hd; simp at hd; omega)) (by decide) fun x0 hx hs => ?_
      have := hC x0 hx hs
      subst this
      exact hne (heq.2 hx.ok)
    · obtain ⟨rfl, o⟩ := hok he
      refine (Equal_k w13 rfl rfl (o.cells.ext h13) (((hi.ext hw7).ext e8).ext h13)).mono fun v w14 ⟨e14, hv⟩ => ⟨e14, _, hv, fun hf w16 x16 => ?_, fun ht w16 x16 => ?_⟩
      · refine eres_zero (but_ext x16 (hw7.trans e8) (by intro d hd; simp at hd; omega)) (by decide) fun x0 hx hs => ?_
        have := hC x0 hx hs
        subst this
        exact of_decide_eq_false hf hx.is
      · refine ⟨but_ext x16 (hw7.trans e8) (by intro d hd; simp at hd; omega), x, pa, ca, pf, cf, 0, rfl, hW, fun S hS w'' fw => ?_, .inr ⟨rfl, heq.1 he, hn, of_decide_eq_true ht, hask⟩, fun x0 hx hs => ⟨rfl, hC x0 hx hs⟩⟩
        exact hJ (fun b => S b ∨ b = b0) (fun b hb => hb.imp (hS b) id) w'' ((fr_ext e8).tr ((fr_extB x16 (by intro d hd; simp at hd; exact .inl (.inr hd))).tr (fw.mono fun b hb => .inl hb)))
  have zt : ∀ (S : Nat → Prop) (w7 w'' : World), Fr S w7 w'' → IsJ w'' zeroJ none 0 none := fun _ _ _ _ => zeroJ_at _
  have hzn : nod zeroJ.ask ≤ 60 := by decide
  refine ⟨fun h => cell_p g0 (pIdx_none.2 h), by omega, by omega, _, g0, i64 (by omega), fun b2 hb2 => ⟨by omega, by omega, by omega, by omega, by omega, by simp only [Int.toNat_one]; omega, ?_⟩⟩
  refine ⟨fun n k w' => w' = w ∧ 0 ≤ k ∧ k ≤ min 4 (rest.length : Int) ∧ n = nOf ((rest.take 4).take k.toNat), fun _ k _ => (4 - k).toNat, ⟨rfl, by omega, by omega, by simp [nOf]⟩, ?_⟩
  rintro n k w' ⟨rfl, hk1, hk2, rfl⟩
  have hl4 : (rest.take 4).length = min 4 rest.length := List.length_take
  refine ⟨fun hlt => ?_, fun hge => ?_⟩
  · have hlt' : k.toNat < min 4 rest.length := by omega
    have hcell : Go.Sx.cell w' (pIdx (pCut (pCut b bc 1 1) (bc - (1 : Int).toNat) 0 1) k 1) 0 = some (.int .u8 ((rest.take 4)[k.toNat]'(by omega)).toNat) := by
      rw [pCut_zero, cell_pIdx]
      refine hri _ _ ?_
      simp [bI, show k.toNat < rest.length by omega]
    have hb := u8b ((rest.take 4)[k.toNat]'(by omega))
    refine ⟨fun h => cell_p hcell (pIdx_none.2 h), hk1, hlt, _, hcell, i64 (by omega), i64 (by omega), ⟨rfl, by omega, by omega, ?_⟩, by simp only []; omega⟩
    have e : (rest.take 4).take (k.toNat + 1) = (rest.take 4).take k.toNat ++ [(rest.take 4)[k.toNat]'(by omega)] := List.take_succ_eq_append_getElem (by omega)
    rw [show (k + 1).toNat = k.toNat + 1 by omega, e]
    unfold nOf
    rw [List.foldl_append]
    rfl
  have hkm : k.toNat = min 4 rest.length := by omega
  rw [List.take_of_length_le (by rw [hl4]; omega)]
  refine ⟨fun h1 w7 h7 => ?_, fun h1 => ⟨fun h2 w7 x7 => ?_, fun h2 => ⟨fun h4 w7 x7 => ?_, fun h4 => ⟨fun h5 w7 x7 => ?_, fun h5 w7 x7 => ?_⟩⟩⟩⟩
  · -- a job
    refine run_b2s (e := T_uint8) (bs := rest) (by kernel_rfl) (by kernel_rfl) (by kernel_rfl) (by omega) (hri.ext h7) ⟨Ext.refl _, _, rfl, fun w10 x10 => ?_⟩
    have h10 := extB_ext x10
    have hb0_10 : b0 < w10.heap.size := x10.lt b0 (by simp)
    have hb2_10 : b2 < w10.heap.size := x10.lt b2 (by simp)
    refine (jRead_k (bT rest) (by rw [bT_size]; omega) w10 (g.ext h10)).mono fun v w11 ⟨e11, j, pa, ca, pf, cf, e, hv, hWj, hTj, hor, hcomp⟩ => ⟨e11, j.user, j.prio, j.nd.c, j.nd.m, j.nd.g, j.ask.k, j.ask.key, j.ask.val, j.ask.n, pa, j.ask.xs.length, ca, pf, j.aft.length, cf, e, hv, fun b28 hb28 => ?_⟩
    have hw11 := h10.trans e11
    have hcj : ∀ x0, ET (k0 :: rest) x0 → (k0 :: rest).length ≤ 3001 → e = 0 ∧ (⟨1, j, 0, 0, false⟩ : Ev) = x0 := fun x0 hx hs => by
      obtain ⟨hk, hen⟩ := hkd x0 hx
      have hk1 : x0.kind = 1 := by omega
      obtain ⟨ho, hn0, hi0, hb0'⟩ : okJ x0.job ∧ x0.n = 0 ∧ x0.id = 0 ∧ x0.ok = false := by
        rcases hx.ok with q | q | q | q | q
        · exact q.2
        all_goals (have := q.1; omega)
      unfold enc at hen
      rw [if_pos hk1] at hen
      obtain ⟨_, hen⟩ := List.cons.inj hen
      obtain ⟨a1, a2⟩ := hcomp x0.job ⟨ho, hx.nod, by rw [← hen]; rfl, hx.ask hk1⟩ (by rw [bT_size]; omega)
      exact ⟨a1, ev_ext hk1.symm a2 hn0.symm hi0.symm hb0'.symm⟩
    refine ⟨fun hne2 w29 x29 => ?_, fun he w29 x29 => ?_⟩
    · exact eres_zero (but_ext x29 hw11 (by intro d hd; simp at hd; omega)) (by decide) fun x0 hx hs => hne2 (hcj x0 hx hs).1
    · have hw29 : Ext w' w29 := but_ext x29 hw11 (by intro d hd; simp at hd; omega)
      obtain ⟨hoj, hnj, _, haj⟩ : okJ j ∧ nod j.ask ≤ 60 ∧ True ∧ (txt j.ask).length ≤ 2000 := by
        rcases hor with ⟨h, _⟩ | ⟨_, q1, q2, _, q4⟩
        · exact absurd he h
        · exact ⟨q1, q2, trivial, q4⟩
      have := tail ⟨1, j, 0, 0, false⟩ pa ca pf cf w29 hw29 hWj hnj (fun _ => haj) (fun S hS w'' fw => ?_) fun x0 hx hs => (hcj x0 hx hs).2
      · rw [h1]; exact this
      · refine hTj (fun b => S b ∨ b = b2) (fun b hb => ?_) w'' ((fr_extB x29 (by intro d hd; simp at hd; exact .inl (.inr hd))).tr (fw.mono fun b hb => .inl hb))
        have := h10.size
        rcases hb with hb | rfl
        · rcases hS b hb with h | rfl
          · omega
          · exact hb0_10
        · exact hb2_10
  · -- time goes on
    refine tail ⟨k0.toNat, zeroJ, nOf (rest.take 4), 0, false⟩ none 0 none 0 w7 (but_ext x7 (Ext.refl _) (by intro d hd; simp at hd; omega)) zeroJ_wf hzn (fun h => absurd h h1) (fun S _ w'' fw => zt S w7 w'' fw) fun x0 hx hs => ?_
    obtain ⟨hk, hen⟩ := hkd x0 hx
    rcases hx.ok with q | q | q | q | q
    · have := q.1; omega
    · obtain ⟨q1, q2, q3, q4, q5⟩ := q
      unfold enc at hen
      rw [if_neg (by omega), if_pos q1, num4] at hen
      obtain ⟨_, hen⟩ := List.cons.inj hen
      refine ev_ext hk.symm q2.symm ?_ q4.symm q5.symm
      rw [← hen]
      show nOf [_, _, _, _] = _
      rw [nOf4, ub_nat, ub_nat, ub_nat, ub_nat]
      omega
    all_goals (have := q.1; omega)
  · -- a report
    have hl3 : rest.length = 3 := by omega
    refine tail ⟨k0.toNat, zeroJ, 0, iBit .shr .i64 (nOf (rest.take 4)) 8, decide (iBit .and .i64 (nOf (rest.take 4)) 255 = 1)⟩ none 0 none 0 w7 (but_ext x7 (Ext.refl _) (by intro d hd; simp at hd; omega)) zeroJ_wf hzn (fun h => absurd h h1) (fun S _ w'' fw => zt S w7 w'' fw) fun x0 hx hs => ?_
    obtain ⟨hk, hen⟩ := hkd x0 hx
    rcases hx.ok with q | q | q | q | q
    · have := q.1; omega
    · have := q.1; omega
    · have := q.1; omega
    · obtain ⟨q1, q2, q3, q4⟩ := q
      unfold enc at hen
      rw [if_neg (by omega), if_neg (by omega), if_pos q1, num2] at hen
      obtain ⟨_, hen⟩ := List.cons.inj hen
      have hn : nOf (rest.take 4) = x0.id * 256 + (if x0.ok = true then 1 else 0) := by
        rw [← hen]
        show nOf [_, _, _] = _
        rw [nOf3, ub_nat, ub_nat]
        cases x0.ok <;> simp <;> omega
      have hs8 := shr_k (nOf (rest.take 4)) 8 (by decide)
      rw [show (2 : Int) ^ 8 = 256 by decide] at hs8
      have hm := mask8 (n := nOf (rest.take 4)) (by rw [hn]; split <;> omega)
      refine ev_ext hk.symm q2.symm q3.symm ?_ ?_
      · show iBit .shr .i64 _ ((8 : Nat) : Int) = _
        rw [hs8, hn]
        split <;> omega
      · show decide (iBit .and .i64 _ 255 = 1) = _
        rw [hm, hn]
        cases x0.ok
        · simp <;> omega
        · simp <;> omega
    · have := q.1; omega
  · -- no more
    refine tail ⟨k0.toNat, zeroJ, 0, nOf (rest.take 4), false⟩ none 0 none 0 w7 (but_ext x7 (Ext.refl _) (by intro d hd; simp at hd; omega)) zeroJ_wf hzn (fun h => absurd h h1) (fun S _ w'' fw => zt S w7 w'' fw) fun x0 hx hs => ?_
    obtain ⟨hk, hen⟩ := hkd x0 hx
    rcases hx.ok with q | q | q | q | q
    · have := q.1; omega
    · have := q.1; omega
    · have := q.1; omega
    · have := q.1; omega
    · obtain ⟨q1, q2, q3, q4, q5⟩ := q
      unfold enc at hen
      rw [if_neg (by omega), if_neg (by omega), if_neg (by omega), if_pos q1, num2] at hen
      obtain ⟨_, hen⟩ := List.cons.inj hen
      refine ev_ext hk.symm q2.symm q3.symm ?_ q5.symm
      rw [← hen]
      show nOf [_, _] = _
      rw [nOf2, ub_nat, ub_nat]
      omega
  · -- a plan, or none of all
    refine tail ⟨k0.toNat, zeroJ, 0, 0, false⟩ none 0 none 0 w7 (extB_ext x7) zeroJ_wf hzn (fun h => absurd h h1) (fun S _ w'' fw => zt S w7 w'' fw) fun x0 hx hs => ?_
    obtain ⟨hk, hen⟩ := hkd x0 hx
    rcases hx.ok with q | q | q | q | q
    · have := q.1; omega
    · have := q.1; omega
    · exact ev_ext hk.symm q.2.1.symm q.2.2.1.symm q.2.2.2.1.symm q.2.2.2.2.symm
    · exfalso
      unfold enc at hen
      rw [if_neg (by omega), if_neg (by omega), if_pos q.1, num2] at hen
      have := congrArg List.length hen
      simp at this
      omega
    · have := q.1; omega
end Go.Proofs.YtenppnomdejmlaaGreatDoor
