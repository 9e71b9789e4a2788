/- The laws TicketBack and TicketRenewed. -/
import Derived.Test.YtjeboeahhhhbdaaDoorTkF
set_option linter.unusedVariables false
set_option linter.unusedSimpArgs false
namespace Go.Proofs.YtjeboeahhhhbdaaDoor
open Go.Sx Go.RowKit

/-! ### The laws TicketBack and TicketRenewed -/
theorem core_TicketBack (W : World) (hg : GB W) : ∀ key : Int, InR .u64 key → ∀ t_0 : ByteArray, t_0.size ≤ 9223372036854775807 → ∀ t_1 : Int, InR .i64 t_1 → ∀ t_2 : Int, InR .i64 t_2 → ∀ t_3 : Int, InR .i64 t_3 → ∀ now : Int, InR .i64 now →
    FnP Tryd.prog F_shiftbellkeep_TicketBack #[.int .u64 key, .agg #[.string t_0, .int .i64 t_1, .int .i64 t_2, .int .i64 t_3], .int .i64 now] W fun v W' => v = .bool true ∧ Ext W W' := by
  intro key hk t_0 ht0 t_1 _ t_2 _ t_3 _ now _
  have hk : 0 ≤ key ∧ key ≤ 18446744073709551615 := hk
  let t : Tk := ⟨t_0, t_1, t_2, t_3⟩
  refine ok_shiftbellkeep_TicketBack key t_0 t_1 t_2 t_3 now W _ fun b0 _ w1 h1 => (tickets_k w1).mono fun v w2 ⟨e2, hv⟩ => ⟨e2, true, hv, (fun h => by cases h), fun _ w4 h4 => ?_⟩
  refine (Seal_k key hk t ht0 w4 (hg.ext h4).toGA).mono fun v w5 ⟨e5, s, e, hv, he, hne, h0e⟩ => ⟨e5, s, e, hv, fun hn w8 h8 => ⟨b_true (decide_eq_true (hne hn)), h8⟩, fun hz w8 h8 => ?_⟩
  have ok := he.1 hz
  have hs := h0e hz
  refine (Open_k key hk s (by rw [hs, ofL_size]; have := seal_len (key := key) ok; omega) now w8 (hg.ext h8)).mono fun v w9 ⟨e9, u, e', hv, _, hu1, hu2, hu3⟩ => ⟨e9, u.user, u.from', u.til, u.most, e', hv, fun b15 _ => ?_⟩
  obtain ⟨g1, g2⟩ := hu3 t ok hs
  refine ⟨fun hor => ?_, fun hand => ?_⟩
  · have h11 := g2 hor
    refine ⟨fun _ w16 h16 => eqT (t := u) (u := tk0) fun b hb => ⟨Ext.refl _, b, rfl, fun w19 h19 => ⟨b_true (hb.2 (hu1 (by omega))), h19⟩⟩, fun h => absurd h11 h⟩
  · obtain ⟨h0, htu⟩ := g1 hand.1 hand.2
    refine ⟨fun _ w16 h16 => eqT (t := u) (u := t) fun b hb => ⟨Ext.refl _, b, rfl, fun w19 h19 => ⟨b_true (hb.2 htu), h19⟩⟩, fun h => absurd h0 h⟩

theorem seal_ne {key : Int} {t : Tk} : emS ≠ ofL (sealL key t) := fun h => by
  have := congrArg ByteArray.size h
  rw [ofL_size] at this
  have e : emS.size = 0 := rfl
  unfold sealL at this
  simp [hexL_len, e] at this

theorem core_TicketRenewed (W : World) (hg : GB W) : ∀ key : Int, InR .u64 key → ∀ t_0 : ByteArray, t_0.size ≤ 9223372036854775807 → ∀ t_1 : Int, InR .i64 t_1 → ∀ t_2 : Int, InR .i64 t_2 → ∀ t_3 : Int, InR .i64 t_3 → ∀ now : Int, InR .i64 now → ∀ til : Int, InR .i64 til →
    FnP Tryd.prog F_shiftbellkeep_TicketRenewed #[.int .u64 key, .agg #[.string t_0, .int .i64 t_1, .int .i64 t_2, .int .i64 t_3], .int .i64 now, .int .i64 til] W fun v W' => v = .bool true ∧ Ext W W' := by
  intro key hk t_0 ht0 t_1 _ t_2 _ t_3 _ now _ til _
  have hk : 0 ≤ key ∧ key ≤ 18446744073709551615 := hk
  let t : Tk := ⟨t_0, t_1, t_2, t_3⟩
  refine ok_shiftbellkeep_TicketRenewed key t_0 t_1 t_2 t_3 now til W _ fun b0 _ w1 h1 => (tickets_k w1).mono fun v w2 ⟨e2, hv⟩ => ⟨e2, true, hv, (fun h => by cases h), fun _ w4 h4 => ?_⟩
  refine (Seal_k key hk t ht0 w4 (hg.ext h4).toGA).mono fun v w5 ⟨e5, s, e, hv, he, hne, h0e⟩ => ⟨e5, s, e, hv, fun w8 h8 => ?_⟩
  refine ok_ticket_Renew key s now til w8 _ fun w9 h9 => ?_
  have hsz : s.size < 4294967281 := by
    by_cases hz : e = 0
    · rw [h0e hz, ofL_size]; have := seal_len (key := key) (he.1 hz); omega
    · rw [hne hz]; decide
  refine (Open_k key hk s hsz now w9 ((hg.ext h8).ext h9)).mono fun v w10 ⟨e10, u, e', hv, hus, hu1, hu2, hu3⟩ => ⟨e10, u.user, u.from', u.til, u.most, e', hv, fun b7 _ => ?_⟩
  -- an answer that is none
  have none_ : ∀ (e2 : Int) (w' : World), Ext w8 w' → e2 ≠ 0 → (e ≠ 0 ∨ now < t_1 ∨ t_2 < now ∨ til < t_2 ∨ t_3 < til) →
      Ext w8 w' ∧ ∃ t10 : ByteArray, ∃ t11 : Int, Value.tuple #[.string (⟨#[]⟩ : ByteArray), .int .i64 e2] = .tuple #[.string t10, .int .i64 t11] ∧
        (((e ≠ 0) ∨ (t11 ≠ 0)) → ∀ w12, Ext W w12 → (Value.bool ((decide (t10 = (⟨#[]⟩ : ByteArray))) && (((((decide (e ≠ 0)) || (decide (now < t_1))) || (decide (t_2 < now))) || (decide (til < t_2))) || (decide (t_3 < til)))) = .bool true ∧ Ext W w12)) ∧
        (((e = 0) ∧ (t11 = 0)) → ∀ w12, Ext W w12 → FnP Tryd.prog F_ticket_Open #[.int .u64 key, .string t10, .int .i64 now] w12 fun v13 w13 => Ext w12 w13 ∧ ∃ t_014 : ByteArray, ∃ t_115 : Int, ∃ t_216 : Int, ∃ t_317 : Int, ∃ t18 : Int, v13 = .tuple #[.agg #[.string t_014, .int .i64 t_115, .int .i64 t_216, .int .i64 t_317], .int .i64 t18] ∧
          ∀ b19 : Nat, W.heap.size ≤ b19 → (((t18 = 0) → ∀ w20, Ext W w20 → Run Tryd.prog (.eq .eql 37 false false (.agg #[.string t_014, .int .i64 t_115, .int .i64 t_216, .int .i64 t_317]) (.agg #[.string t_0, .int .i64 t_1, .int .i64 til, .int .i64 t_3])) w20 fun v21 w21 => Ext w20 w21 ∧ ∃ t22 : Bool, v21 = .bool t22 ∧ ∀ w23, Ext W w23 → (Value.bool (t22 && decide (t_216 ≤ t_317)) = .bool true ∧ Ext W w23)) ∧ ((t18 ≠ 0) → ∀ w20, Ext W w20 → (Value.bool false = .bool true ∧ Ext W w20)))) := by
    intro e2 w' hx h2 hor
    refine ⟨hx, emS, e2, rfl, fun _ w12 h12 => ⟨b_true ?_, h12⟩, fun h => absurd h.2 h2⟩
    have hd : decide (emS = (⟨#[]⟩ : ByteArray)) = true := decide_eq_true rfl
    rw [hd, Bool.true_and]
    simp only [Bool.or_eq_true, decide_eq_true_eq]
    rcases hor with h | h | h | h | h
    · exact .inl (.inl (.inl (.inl h)))
    · exact .inl (.inl (.inl (.inr h)))
    · exact .inl (.inl (.inr h))
    · exact .inl (.inr h)
    · exact .inr h
  by_cases hz : e = 0
  · have ok := he.1 hz
    have hs := h0e hz
    obtain ⟨g1, g2⟩ := hu3 t ok hs
    by_cases hr : t_1 ≤ now ∧ now ≤ t_2
    · obtain ⟨h0, htu⟩ := g1 hr.1 hr.2
      have hm : u.most = t_3 := by rw [htu]
      have ht : u.til = t_2 := by rw [htu]
      refine ⟨fun h => absurd h0 h, fun _ => ⟨fun hlt w11 h11 => none_ 10 w11 h11 (by omega) (.inr (.inr (.inr (.inr (by omega))))), fun hle => ⟨fun hlt w11 h11 => none_ 1 w11 h11 (by omega) (.inr (.inr (.inr (.inl (by omega))))), fun hge w11 h11 => ?_⟩⟩⟩
      let t2 : Tk := ⟨t_0, t_1, til, t_3⟩
      have hu2' : (⟨u.user, u.from', til, u.most⟩ : Tk) = t2 := by rw [htu]
      obtain ⟨o1, o2, o3, o4, o5⟩ := ok
      have ok2 : okT t2 := ⟨o1, o2, by show t_1 ≤ til; simp only [t] at o3; omega, by show til ≤ t_3; omega, o5⟩
      have hsl := Seal_k key hk ⟨u.user, u.from', til, u.most⟩ (by rw [htu]; exact ht0) w11 ((hg.ext h8).ext h11).toGA
      rw [hu2'] at hsl
      have hval : tkv t2 = .agg #[.string u.user, .int .i64 u.from', .int .i64 til, .int .i64 u.most] := by rw [← hu2']; rfl
      rw [hval] at hsl
      refine hsl.mono fun v w12 ⟨e12, s2, e2, hv, he2, hne2, h0e2⟩ => ⟨e12, s2, e2, hv, fun w13 h13 => ⟨h13, s2, e2, rfl, fun hor => ?_, fun hand w14 h14 => ?_⟩⟩
      · have := he2.2 ok2
        rcases hor with h | h
        · exact absurd hz h
        · exact absurd this h
      · have hs2 := h0e2 hand.2
        refine (Open_k key hk s2 (by rw [hs2, ofL_size]; have := seal_len (key := key) ok2; omega) now w14 (hg.ext h14)).mono fun v w15 ⟨e15, u2, e3, hv, _, _, _, hu4⟩ => ⟨e15, u2.user, u2.from', u2.til, u2.most, e3, hv, fun b19 _ => ?_⟩
        obtain ⟨hz3, htu2⟩ := (hu4 t2 ok2 hs2).1 hr.1 (by show now ≤ til; omega)
        refine ⟨fun _ w20 h20 => eqT (t := u2) (u := t2) fun b hb => ⟨Ext.refl _, b, rfl, fun w23 h23 => ⟨b_true ?_, h23⟩⟩, fun h => absurd hz3 h⟩
        rw [hb.2 htu2, Bool.true_and, decide_eq_true_eq, htu2]
        exact ok2.2.2.2.1
    · have h11 := g2 (by show now < t_1 ∨ t_2 < now; omega)
      refine ⟨fun _ w11 h11' => none_ e' w11 h11' (by omega) (by omega), fun h => by omega⟩
  · have hne' : e' ≠ 0 := fun h => by
      have := (hu2 h).2.1
      rw [hne hz] at this
      exact seal_ne this
    exact ⟨fun _ w11 h11 => none_ e' w11 h11 hne' (.inl hz), fun h => absurd h hne'⟩
end Go.Proofs.YtjeboeahhhhbdaaDoor
