/- Tickets, in plain words: a seal tells its ticket; a sign changed changes the sum. -/
import Derived.Test.YtjeboeahhhhbdaaDoorTkB
import Derived.Lib.ParseIntBCases
import Derived.Lib.IndexLaws
set_option linter.unusedVariables false
set_option linter.unusedSimpArgs false
namespace Go.Proofs.YtjeboeahhhhbdaaDoor
open Go.Sx Go.RowKit

/-! ### Numerals -/
theorem u8_nat {n : Nat} (h : n < 256) : (UInt8.ofNat n).toNat = n := by simp; omega
theorem dec_digits : ∀ (u : Nat), ∀ c ∈ Lib.decDigits u, 48 ≤ c.toNat ∧ c.toNat ≤ 57 := by
  intro u
  induction u using Nat.strongRecOn with
  | _ u ih =>
    intro c hc
    rw [Lib.decDigits] at hc
    split at hc
    · obtain rfl := List.mem_singleton.1 hc
      rw [u8_nat (by omega)]; omega
    · rcases List.mem_append.1 hc with h | h
      · exact ih (u / 10) (by omega) c h
      · obtain rfl := List.mem_singleton.1 h
        rw [u8_nat (by omega)]; omega
theorem dec_ne (u : Nat) : Lib.decDigits u ≠ [] := by
  rw [Lib.decDigits]; split <;> simp
theorem parseM_app {M : Nat} : ∀ {l : List UInt8} {acc v : Nat} (r : List UInt8), Lib.parseUintM M acc l = .ok v → Lib.parseUintM M acc (l ++ r) = Lib.parseUintM M v r
  | [], acc, v, r, h => by
    simp only [Lib.parseUintM, Lib.NumEnd.ok.injEq] at h
    subst h; rfl
  | c :: l, acc, v, r, h => by
    simp only [Lib.parseUintM, List.cons_append] at h ⊢
    split at h
    · rename_i hd
      rw [if_pos hd]
      split at h
      · cases h
      · rename_i h2
        rw [if_neg h2]
        split at h
        · cases h
        · rename_i h3
          rw [if_neg h3]
          exact parseM_app r h
    · cases h
theorem parse_dec : ∀ (u : Nat), u ≤ 1099511627776 → Lib.parseUintM 18446744073709551615 0 (Lib.decDigits u) = .ok u := by
  intro u
  induction u using Nat.strongRecOn with
  | _ u ih =>
    intro hu
    rw [Lib.decDigits]
    split
    · rename_i h
      simp only [Lib.parseUintM]
      rw [u8_nat (by omega), if_pos (by omega), if_neg (by omega), if_neg (by omega)]
      congr 1; omega
    · rename_i h
      rw [parseM_app _ (ih (u / 10) (by omega) (by omega))]
      simp only [Lib.parseUintM]
      rw [u8_nat (by omega), if_pos (by omega), if_neg (by omega), if_neg (by omega)]
      congr 1; omega
theorem itoa_dec {n : Int} (h : 0 ≤ n) : Lib.itoa n = Lib.decDigits n.toNat := by
  unfold Lib.itoa; rw [if_neg (by omega)]
theorem parse_itoa {n : Int} (h : 0 ≤ n ∧ n ≤ 1099511627776) : Lib.parseIntB 64 (Lib.itoa n) = .ok n := by
  rw [itoa_dec h.1]
  have hd := dec_digits n.toNat
  cases hl : Lib.decDigits n.toNat with
  | nil => exact absurd hl (dec_ne _)
  | cons c r =>
    have hc := hd c (by rw [hl]; exact List.mem_cons_self ..)
    rw [Lib.parseIntB_plain 64 c r (by omega) (by omega), ← hl]
    unfold Lib.parseUintB
    rw [if_neg (dec_ne _), show (2 : Nat) ^ 64 - 1 = 18446744073709551615 by decide, parse_dec _ (by omega)]
    show (if (2 : Nat) ^ (64 - 1) ≤ n.toNat then _ else _) = _
    rw [if_neg (by have : (2 : Nat) ^ (64 - 1) = 9223372036854775808 := by decide
                   omega)]
    congr 1; omega
theorem itoa_inj {m n : Int} (hm : 0 ≤ m ∧ m ≤ 1099511627776) (hn : 0 ≤ n ∧ n ≤ 1099511627776) (h : Lib.itoa m = Lib.itoa n) : m = n := by
  have := parse_itoa hm
  rw [h, parse_itoa hn] at this
  injection this with e
  exact e.symm
theorem itoa_dot {n : Int} (h : 0 ≤ n) : (46 : UInt8) ∉ Lib.itoa n := fun hm => by
  rw [itoa_dec h] at hm
  have := dec_digits _ _ hm
  have e : (46 : UInt8).toNat = 46 := rfl
  omega

/-! ### Labels have no dot -/
theorem lb_dot {s : ByteArray} (h : lbB s = true) : (46 : UInt8) ∉ s.data.toList := fun hm => by
  unfold lbB at h
  simp only [Bool.and_eq_true] at h
  have := List.all_eq_true.1 h.2 46 (List.mem_map.2 ⟨46, hm, rfl⟩)
  exact absurd this (by decide)
theorem dot_split {a b c d : List UInt8} (ha : (46 : UInt8) ∉ a) (hc : (46 : UInt8) ∉ c) (h : a ++ 46 :: b = c ++ 46 :: d) : a = c ∧ b = d := by
  induction a generalizing c with
  | nil =>
    cases c with
    | nil => simpa using h
    | cons x c =>
      simp only [List.nil_append, List.cons_append, List.cons.injEq] at h
      exact absurd (by rw [h.1]; exact List.mem_cons_self ..) hc
  | cons y a ih =>
    cases c with
    | nil =>
      simp only [List.nil_append, List.cons_append, List.cons.injEq] at h
      exact absurd (by rw [← h.1]; exact List.mem_cons_self ..) ha
    | cons x c =>
      simp only [List.cons_append, List.cons.injEq] at h
      obtain ⟨h1, h2⟩ := ih (fun hm => ha (List.mem_cons_of_mem _ hm)) (fun hm => hc (List.mem_cons_of_mem _ hm)) h.2
      exact ⟨by rw [h.1, h1], h2⟩
theorem bodyL_eq (t : Tk) (r : List UInt8) : bodyL t ++ 46 :: r = t.user.data.toList ++ 46 :: (Lib.itoa t.from' ++ 46 :: (Lib.itoa t.til ++ 46 :: (Lib.itoa t.most ++ 46 :: r))) := by
  unfold bodyL
  simp only [List.append_assoc, List.cons_append]
theorem body_inj {t u : Tk} {r q : List UInt8} (ht : okT t) (hu : okT u) (h : bodyL t ++ 46 :: r = bodyL u ++ 46 :: q) : t = u ∧ r = q := by
  obtain ⟨a1, a2, a3, a4, a5⟩ := ht
  obtain ⟨b1, b2, b3, b4, b5⟩ := hu
  rw [bodyL_eq, bodyL_eq] at h
  obtain ⟨e1, h⟩ := dot_split (lb_dot a1) (lb_dot b1) h
  obtain ⟨e2, h⟩ := dot_split (itoa_dot (by omega)) (itoa_dot (by omega)) h
  obtain ⟨e3, h⟩ := dot_split (itoa_dot (by omega)) (itoa_dot (by omega)) h
  obtain ⟨e4, h⟩ := dot_split (itoa_dot (by omega)) (itoa_dot (by omega)) h
  refine ⟨?_, h⟩
  have u1 : t.user = u.user := by rw [← ofL_of t.user, e1, ofL_of]
  have u2 := itoa_inj (by omega) (by omega) e2
  have u3 := itoa_inj (by omega) (by omega) e3
  have u4 := itoa_inj (by omega) (by omega) e4
  cases t; cases u
  simp only at u1 u2 u3 u4
  rw [u1, u2, u3, u4]
theorem seal_inj {key : Int} {t u : Tk} (ht : okT t) (hu : okT u) (h : sealL key t = sealL key u) : t = u := (body_inj ht hu h).1

/-! ### The law TicketApart -/
theorem tickets_k (w : World) : FnP Tryd.prog F_shiftbellkeep_tickets #[] w fun v w' => Ext w w' ∧ v = .bool true := by
  refine ok_shiftbellkeep_tickets w _ fun w0 h0 => (Sum_k 0 emS (by decide) w0).mono fun v w1 ⟨e1, hv⟩ => ⟨e1, 0, hv, fun _ w3 h3 => (Sum_k 5 emS (by decide) w3).mono fun v w4 ⟨e4, hv⟩ => ⟨e4, 5, hv, fun w6 h6 => ⟨h6, rfl⟩⟩, fun h => absurd rfl h⟩

theorem eqT {t u : Tk} {cx cy : Bool} {w : World} {K : Value → World → Prop} (hk : ∀ b : Bool, (b = true ↔ t = u) → K (.bool b) w) : Run Tryd.prog (.eq .eql T_Ticket cx cy (tkv t) (tkv u)) w K := by
  refine run_eqF (op := .eql) (n := 4) (by kernel_rfl) (by kernel_rfl) (by kernel_rfl) (by kernel_rfl) [.string t.user, .int .i64 t.from', .int .i64 t.til, .int .i64 t.most] [.string u.user, .int .i64 u.from', .int .i64 u.til, .int .i64 u.most] rfl rfl [some .string, some (.int .i64), some (.int .i64), some (.int .i64)] (by kernel_rfl) (fun i o ho x y hx hy => ?_) (.inl rfl) fun b hb => hk b ?_
  · match i, ho with
    | 0, ho => cases ho; cases hx; cases hy; exact ⟨⟨_, rfl⟩, _, rfl⟩
    | 1, ho => cases ho; cases hx; cases hy; exact ⟨⟨_, rfl⟩, _, rfl⟩
    | 2, ho => cases ho; cases hx; cases hy; exact ⟨⟨_, rfl⟩, _, rfl⟩
    | 3, ho => cases ho; cases hx; cases hy; exact ⟨⟨_, rfl⟩, _, rfl⟩
    | n + 4, ho => simp at ho
  · rw [hb, if_pos rfl]
    cases t; cases u
    simp

theorem core_TicketApart (W : World) (hg : GA W) : ∀ key : Int, InR .u64 key → ∀ t_0 : ByteArray, t_0.size ≤ 9223372036854775807 → ∀ t_1 : Int, InR .i64 t_1 → ∀ t_2 : Int, InR .i64 t_2 → ∀ t_3 : Int, InR .i64 t_3 → ∀ u_0 : ByteArray, u_0.size ≤ 9223372036854775807 → ∀ u_1 : Int, InR .i64 u_1 → ∀ u_2 : Int, InR .i64 u_2 → ∀ u_3 : Int, InR .i64 u_3 →
    FnP Tryd.prog F_shiftbellkeep_TicketApart #[.int .u64 key, .agg #[.string t_0, .int .i64 t_1, .int .i64 t_2, .int .i64 t_3], .agg #[.string u_0, .int .i64 u_1, .int .i64 u_2, .int .i64 u_3]] W fun v W' => v = .bool true ∧ Ext W W' := by
  intro key hk t_0 ht0 t_1 _ t_2 _ t_3 _ u_0 hu0 u_1 _ u_2 _ u_3 _
  have hk : 0 ≤ key ∧ key ≤ 18446744073709551615 := hk
  let t : Tk := ⟨t_0, t_1, t_2, t_3⟩
  let u : Tk := ⟨u_0, u_1, u_2, u_3⟩
  refine ok_shiftbellkeep_TicketApart key t_0 t_1 t_2 t_3 u_0 u_1 u_2 u_3 W _ fun b0 _ b1 _ w2 h2 => (tickets_k w2).mono fun v w3 ⟨e3, hv⟩ => ⟨e3, true, hv, (fun h => by cases h), fun _ w5 h5 => ?_⟩
  refine (Seal_k key hk t ht0 w5 (hg.ext h5)).mono fun v w6 ⟨e6, s, e, hv, he, hne, h0e⟩ => ⟨e6, s, e, hv, fun w9 h9 => ?_⟩
  refine (Seal_k key hk u hu0 w9 (hg.ext h9)).mono fun v w10 ⟨e10, s', e', hv, he', hne', h0e'⟩ => ⟨e10, s', e', hv, fun w13 x13 => ?_⟩
  have h13 := extB_ext x13
  refine good_lit (K := fun b w14 => _) [e, e'] rfl rfl (by simp) (by simp) (fun w14 h14 => ?_) w13 h13
  refine ⟨fun hb w21 h21 => ⟨b_true ?_, h14.trans h21⟩, fun hb w21 h21 => eqT (t := t) (u := u) fun b hbb => ⟨Ext.refl _, b, rfl, fun w24 h24 => ⟨b_true ?_, h14.trans h24⟩⟩⟩
  · rw [Bool.and_eq_true, Bool.or_eq_true, Bool.or_eq_true, decide_eq_true_eq, decide_eq_true_eq, decide_eq_true_eq, decide_eq_true_eq]
    refine ⟨?_, ?_⟩
    · by_cases h : e = 0
      · exact .inl h
      · exact .inr (hne h)
    · by_cases h : e' = 0
      · exact .inl h
      · exact .inr (hne' h)
  · have hb : e = 0 ∧ e' = 0 := by simpa using hb
    have hs := h0e hb.1
    have hs' := h0e' hb.2
    have key2 : s = s' ↔ t = u := by
      rw [hs, hs']
      exact ⟨fun h => seal_inj (he.1 hb.1) (he'.1 hb.2) (ofL_inj h), fun h => by rw [h]⟩
    by_cases hss : s = s'
    · have : b = true := hbb.2 (key2.1 hss)
      simp [hss, this]
    · have : b = false := by
        cases b with
        | false => rfl
        | true => exact absurd (key2.2 (hbb.1 rfl)) hss
      simp [hss, this]
end Go.Proofs.YtjeboeahhhhbdaaDoor
