/- Frames of events, cut from bytes; what is told of bytes is framed to just these. -/
import Derived.Test.YtenppnomdejmlaaGreatDoorEvB
set_option linter.unusedVariables false
set_option linter.unusedSimpArgs false
namespace Go.Proofs.YtenppnomdejmlaaGreatDoor
open Go.Sx Go.RowKit

theorem enc_len {x : Ev} (h : okE x) (hn : nod x.job.ask ≤ 1048576) : (enc x).length ≤ 15006 := by
  unfold enc
  rw [List.length_cons]
  split
  · rename_i hk
    have hoj : okJ x.job := by
      rcases h with q | q | q | q | q
      · exact q.2.1
      all_goals (have := q.1; omega)
    have := jtx_le hoj hn
    omega
  · split
    · rw [num_len]; omega
    · split
      · rw [List.length_append, num_len]; simp
      · split
        · rw [num_len]; omega
        · simp

theorem eFrame_k (x : Ev) (pa : Option Addr) (ca : Nat) (pf : Option Addr) (cf : Nat) (w : World) (hJ : IsJ w x.job pa ca pf) (hW : WfJ x.job) (hn : nod x.job.ask ≤ 1048576) (g : GB w) : FnP Tryz.prog F_journal_Frame #[evv x pa ca pf cf] w fun v w' => Ext w w' ∧ ∃ p n c e, v = .tuple #[.slice p n c, .int .i64 e] ∧ (e = 0 ↔ okE x) ∧ (e ≠ 0 → p = none ∧ n = 0 ∧ c = 0) ∧ (e = 0 → n = (fr (enc x)).length ∧ Own w.heap.size w' T_uint8 1 p n c ((bI (fr (enc x))).map (.int .u8))) := by
  refine ok_journal_Frame x.kind x.job.user x.job.prio x.job.nd.c x.job.nd.m x.job.nd.g x.job.ask.k x.job.ask.key x.job.ask.val x.job.ask.n pa x.job.ask.xs.length ca pf x.job.aft.length cf x.n x.id x.ok w _ fun b0 hb0 w1 x1 => ?_
  have e1 := extB_ext x1
  refine (eEncode_k x pa ca pf cf w1 (hJ.ext e1) hW hn (g.ext e1)).mono fun v w2 ⟨e2, p, n, c, e, hv, heq, hz, hok⟩ => ⟨e2, p, n, c, e, hv, fun hne w7 h7 => ⟨(e1.trans e2).trans h7, none, 0, 0, e, rfl, heq, fun _ => ⟨rfl, rfl, rfl⟩, fun h => absurd h hne⟩, fun he => ?_⟩
  obtain ⟨rfl, oE⟩ := hok he
  have ho := heq.1 he
  subst he
  have hlen := enc_len ho hn
  generalize hbs : enc x = bs at oE hlen ⊢
  have hi : Ints .u8 w2 p (bI bs) := oE.cells
  refine fun w7 x7 => run_litB [ub (iBit .shr .i64 (bs.length : Int) 8), ub (bs.length : Int)] (by rw [wrap8, wrap8]; rfl) rfl (by omega) (by omega) fun w8 o8 e8 => ⟨e8, _, _, _, rfl, fun w12 x12 => ?_⟩
  have e7 := extB_ext x7
  have e12 := extB_ext x12
  have o12 := (o8 w7.heap.size (Nat.le_refl _)).ext e12
  have hi12 : Ints .u8 w12 p (bI bs) := (((hi.ext e7).ext e8).ext e12)
  have h712 : Ext w7 w12 := e8.trans e12
  have hb7 : b0 < w7.heap.size := x7.lt b0 (by simp)
  refine run_appB o12 h712.size rfl hi12 (by omega) fun p' c' w13 o13 g13 => ⟨fun b hb => ?_, p', _, c', rfl, fun w17 h17 => ?_⟩
  · have := x12.lt b hb
    refine g13.by_.block b this fun h => ?_
    simp only [blk, Option.map_some, Option.some.injEq] at h
    simp at hb
    omega
  have h713 : Ext w7 w13 := g13.ext h712 o12
  have hi13 : Ints .u8 w13 p (bI bs) := (hi.ext e7).ext h713
  refine run_b2s (e := T_uint8) (by kernel_rfl) (by kernel_rfl) (by kernel_rfl) rfl (hi13.ext h17) ⟨Ext.refl _, _, rfl, fun w20 h20 => (Sum_k 0 bs (by omega) w20).mono fun v w21 ⟨e21, hv⟩ => ⟨e21, _, hv, ?_⟩⟩
  refine ⟨fun out outl outc i w' => ∃ k : Nat, k ≤ 8 ∧ i = 56 - 8 * (k : Int) ∧ outl = bs.length + 2 + k ∧ Own w7.heap.size w' T_uint8 1 out outl outc ((bI (fr0 bs ++ tl8 (sumJ 0 bs) k)).map (.int .u8)) ∧ Ext w7 w', fun _ _ _ i _ => (i + 8).toNat, ⟨0, by omega, rfl, by omega, ?_, h713⟩, ?_⟩
  · show Own w7.heap.size w13 T_uint8 1 p' (2 + bs.length) c' _
    simpa [fr0, tl8] using o13
  rintro out outl outc i w26 ⟨k, hk, rfl, rfl, o26, h26⟩
  refine ⟨fun hi0 => ⟨hi0, ?_⟩, fun hneg w27 h27 => ?_⟩
  · have hns : ∀ b ∈ [b0], ∀ x, out = some x → x.block ≠ b := fun b hb x hx => by
      have := (o26.lt x hx).1
      simp at hb; omega
    rw [wrap8]
    refine push_intB elem_sl_uint8 o26 h26.size hns (by omega) (by omega) fun p' c' w' o' g' _ _ => ⟨i64 (by omega), ⟨k + 1, by omega, by omega, by omega, ?_, g'.ext h26 o26⟩, by simp only []; omega⟩
    rw [tl8_succ, ← List.append_assoc, bI_app]
    exact o'
  · obtain rfl : k = 8 := by omega
    have hw7 : Ext w w7 := (e1.trans e2).trans e7
    exact ⟨(hw7.trans h26).trans h27, out, _, outc, 0, rfl, heq, fun h => absurd rfl h, fun _ => ⟨by rw [fr_len], (o26.weak hw7.size).ext h27⟩⟩

/-! ### What a frame begins with -/
theorem fr_head {bs : Bs} (h : bs.length ≤ 65535) : ∃ a b r, fr bs = a :: b :: r ∧ (a.toNat : Int) * 256 + b.toNat = bs.length ∧ r.take bs.length = bs := by
  refine ⟨_, _, bs ++ tl8 (sumJ 0 bs) 8, rfl, ?_, List.take_left⟩
  have hs := shr_k (bs.length : Int) 8 (by decide)
  rw [show (2 : Int) ^ 8 = 256 by decide] at hs
  rw [ub_nat, ub_nat]
  show (iBit .shr .i64 (bs.length : Int) ((8 : Nat) : Int)) % 256 * 256 + _ = _
  rw [hs]
  omega
/-- A beginning of a frame, and no more. -/
def stuck (l : Bs) : Prop := ∀ a b r, l = a :: b :: r → (l.length : Int) < (a.toNat : Int) * 256 + b.toNat + 10
structure Whole (x : Ev) : Prop where
  ok : okE x
  nod : nod x.job.ask ≤ 1048576
  ask : x.kind = 1 → (txt x.job.ask).length ≤ 2000
  len : (enc x).length ≤ 3001
def frs (L : List Ev) : Bs := L.flatMap fun x => fr (enc x)

structure EvR where
  x : Ev
  pa : Option Addr
  ca : Nat
  pf : Option Addr
  cf : Nat
abbrev encR (r : EvR) : List Value := evcs r.x r.pa r.ca r.pf r.cf
structure GoodR (r : EvR) : Prop where
  ok : okE r.x
  wf : WfJ r.x.job
  nod : nod r.x.job.ask ≤ 60
  ask : r.x.kind = 1 → (txt r.x.job.ask).length ≤ 2000
def CutRes (w : World) (bs : Bs) (v : Value) (w' : World) : Prop := Ext w w' ∧ ∃ (rs : List EvR) (p : Option Addr) (c : Nat) (n : Int), v = .tuple #[.slice p rs.length c, .int .i64 n] ∧ Own w.heap.size w' T_Event 15 p rs.length c (rs.flatMap encR) ∧ (∀ r ∈ rs, GoodR r ∧ IsJ w' r.x.job r.pa r.ca r.pf) ∧ 0 ≤ n ∧ n ≤ bs.length ∧ bs.take n.toNat = frs (rs.map (·.x)) ∧
  ∀ (L : List Ev) (tl : Bs), (∀ x ∈ L, Whole x) → stuck tl → bs = frs L ++ tl → rs.map (·.x) = L

theorem frs_app (a b : List Ev) : frs (a ++ b) = frs a ++ frs b := by simp [frs]
theorem shl_u8 (a : UInt8) : iBit .shl .i64 (a.toNat : Int) 8 = a.toNat * 256 := shl8 (by have := u8b a; omega)

theorem Cut_k2 (b : Option Addr) (bc : Nat) (bs : Bs) (w : World) (hi : Ints .u8 w b (bI bs)) (hbc : bs.length ≤ bc) (hbm : bc ≤ 9223372036854775807) (hbl : bs.length ≤ 1048576) (g : GB w) : FnP Tryz.prog F_journal_Cut #[.slice b bs.length bc] w (CutRes w bs) := by
  refine ok_journal_Cut b bs.length bc w _ ⟨fun out outl outc at_ w' => Ext w w' ∧ 0 ≤ at_ ∧ at_ ≤ bs.length ∧ ∃ rs : List EvR, outl = rs.length ∧ (rs.length : Int) ≤ at_ ∧ Own w.heap.size w' T_Event 15 out outl outc (rs.flatMap encR) ∧ (∀ r ∈ rs, GoodR r ∧ ∀ w'', Fr (fun k => ∃ a, out = some a ∧ a.block = k) w' w'' → IsJ w'' r.x.job r.pa r.ca r.pf) ∧ bs.take at_.toNat = frs (rs.map (·.x)) ∧
      (∀ (L : List Ev) (tl : Bs), (∀ x ∈ L, Whole x) → stuck tl → bs = frs L ++ tl → rs.map (·.x) = L.take rs.length ∧ rs.length ≤ L.length), fun _ _ _ at_ _ => (bs.length - at_).toNat, ⟨Ext.refl _, by omega, by omega, [], rfl, by simp, Own.nil, fun r hr => (by cases hr), by simp [frs], fun L tl _ _ _ => ⟨by simp, by simp⟩⟩, ?_⟩
  rintro out outl outc at_ w3 ⟨x3, ha0, ha1, rs, rfl, hrl, o3, hrs, htk, hcomp⟩
  -- what is left
  generalize hrest : bs.drop at_.toNat = rest
  have hrlen : rest.length = (bs.length - at_).toNat := by rw [← hrest, List.length_drop]; omega
  have hbsr : bs = frs (rs.map (·.x)) ++ rest := by rw [← htk, ← hrest, List.take_append_drop]
  have hia := (hi.ext x3)
  have hri : Ints .u8 w3 (pCut b bc at_ 1) (bI rest) := by
    have := ints_cut (j := at_.toNat) hia hbc
    rw [hrest, Int.toNat_of_nonneg ha0] at this
    exact this
  have hrc : rest.length ≤ bc - at_.toNat := by omega
  -- it ends here
  have fin : ∀ w4, Ext w3 w4 → (∀ (L : List Ev) (tl : Bs), (∀ x ∈ L, Whole x) → stuck tl → bs = frs L ++ tl → rs.length < L.length → False) → CutRes w bs (.tuple #[.slice out rs.length outc, .int .i64 at_]) w4 := fun w4 h4 hno =>
    ⟨x3.trans h4, rs, out, outc, at_, rfl, o3.ext h4, fun r hr => ⟨(hrs r hr).1, (hrs r hr).2 w4 (fr_ext h4)⟩, ha0, ha1, htk, fun L tl hL ht he => by
      obtain ⟨h1, h2⟩ := hcomp L tl hL ht he
      have : rs.length = L.length := by
        rcases Nat.lt_or_ge rs.length L.length with h | h
        · exact (hno L tl hL ht he h).elim
        · omega
      rw [h1, this, List.take_length]⟩
  -- the next one of what stands there
  have next : ∀ (L : List Ev) (tl : Bs), (∀ x ∈ L, Whole x) → stuck tl → bs = frs L ++ tl → rs.length < L.length → ∃ x r2, L[rs.length]? = some x ∧ Whole x ∧ rest = fr (enc x) ++ r2 := fun L tl hL ht he hlt => by
    obtain ⟨h1, h2⟩ := hcomp L tl hL ht he
    obtain ⟨x, hx⟩ : ∃ x, L[rs.length]? = some x := ⟨_, List.getElem?_eq_getElem hlt⟩
    have hsplit : L = L.take rs.length ++ x :: L.drop (rs.length + 1) := by
      have e1 := (List.take_append_drop rs.length L).symm
      rw [List.drop_eq_getElem_cons hlt] at e1
      rw [List.getElem?_eq_getElem hlt] at hx
      rw [← Option.some.inj hx]
      exact e1
    refine ⟨x, frs (L.drop (rs.length + 1)) ++ tl, hx, hL x (List.mem_of_getElem? hx), ?_⟩
    have e2 : frs L = frs (L.take rs.length) ++ (fr (enc x) ++ frs (L.drop (rs.length + 1))) := by
      conv => lhs; rw [hsplit]
      rw [frs_app]
      rfl
    rw [e2, ← h1] at he
    rw [hbsr] at he
    have := List.append_cancel_left (by simpa [List.append_assoc] using he : frs (rs.map (·.x)) ++ rest = frs (rs.map (·.x)) ++ (fr (enc x) ++ (frs (L.drop (rs.length + 1)) ++ tl)))
    exact this
  refine ⟨ha0, by omega, by omega, fun hsm w4 h4 => fin w4 h4 fun L tl hL ht he hlt => ?_, fun h2 => ?_⟩
  · obtain ⟨x, r2, _, _, hx⟩ := next L tl hL ht he hlt
    have := congrArg List.length hx
    rw [List.length_append, fr_len] at this
    omega
  obtain ⟨a, b1, r, rfl⟩ : ∃ a b1 r, rest = a :: b1 :: r := by
    match rest, (show 2 ≤ rest.length by omega) with
    | a :: b :: r, _ => exact ⟨a, b, r, rfl⟩
  have ga : Go.Sx.cell w3 (pIdx (pCut b bc at_ 1) 0 1) 0 = some (.int .u8 a.toNat) := by rw [cell_pIdx]; exact hri 0 _ rfl
  have gb : Go.Sx.cell w3 (pIdx (pCut b bc at_ 1) 1 1) 0 = some (.int .u8 b1.toNat) := by rw [cell_pIdx]; exact hri 1 _ rfl
  have hpn : pCut b bc at_ 1 ≠ none := fun h => cell_p ga (pIdx_none.2 h)
  have ua := u8b a
  have ub1 := u8b b1
  have hl2 : (a :: b1 :: r).length = r.length + 2 := rfl
  refine ⟨hpn, by omega, by omega, _, ga, i64 (by omega), hpn, by omega, by omega, _, gb, i64 (by omega), ?_⟩
  rw [shl_u8]
  refine ⟨i64 (by omega), i64 (by omega), fun hsm w6 h6 => fin w6 h6 fun L tl hL ht he hlt => ?_, fun hge => ?_⟩
  · obtain ⟨x, r2, _, hx, hx2⟩ := next L tl hL ht he hlt
    obtain ⟨a', b', r', hf, hl, _⟩ := fr_head (bs := enc x) (by have := hx.len; omega)
    have h3 := congrArg List.length hx2
    rw [List.length_append, fr_len] at h3
    rw [hf] at hx2
    simp only [List.cons_append, List.cons.injEq] at hx2
    rw [hx2.1, hx2.2.1] at hsm
    omega
  have hnr : (a.toNat : Int) * 256 + b1.toNat + 8 ≤ r.length := by omega
  generalize hm : (a.toNat * 256 + b1.toNat : Nat) = m
  have hmI : (a.toNat : Int) * 256 + b1.toNat = (m : Int) := by rw [← hm]; simp
  rw [hmI] at hge hnr ⊢
  have hcutm : Ints .u8 w3 (pCut (pCut b bc at_ 1) (bc - at_.toNat) 2 1) (bI (r.take m)) := by
    have h1 := ints_cut (j := 2) hri hrc
    exact ints_pre (j := m) h1
  have hlm : ((((m : Int) + 2) - 2).toNat : Nat) = (r.take m).length := by rw [List.length_take]; omega
  refine ⟨i64 (by omega), by omega, by omega, by omega, fun w6 h6 => ?_⟩
  rw [hlm]
  refine (Decode_k _ _ (r.take m) w6 (hcutm.ext h6) (by rw [List.length_take]; simp only [show (2 : Int).toNat = 2 from rfl]; omega) (by omega) (g.ext (x3.trans h6))).mono fun v w7 ⟨e7, x, pa, ca, pf, cf, e, hv, hWx, hJx, horx, hcx⟩ => ⟨e7, x.kind, x.job.user, x.job.prio, x.job.nd.c, x.job.nd.m, x.job.nd.g, x.job.ask.k, x.job.ask.key, x.job.ask.val, x.job.ask.n, pa, x.job.ask.xs.length, ca, pf, x.job.aft.length, cf, x.n, x.id, x.ok, e, hv, fun b28 hb28 w29 x29 => ?_⟩
  have h29 := extB_ext x29
  have hw29 : Ext w w29 := ((x3.trans h6).trans e7).trans h29
  have hnx : nod x.job.ask ≤ 60 := by
    rcases horx with ⟨_, rfl, _⟩ | ⟨_, _, h, _⟩
    · decide
    · exact h
  refine (eFrame_k x pa ca pf cf w29 (hJx (fun _ => False) (fun _ h => h.elim) w29 (fr_ext h29)) hWx (by omega) (g.ext hw29)).mono fun v w30 ⟨e30, q, n30, c30, e3, hv, heq3, hz3, hok3⟩ => ⟨e30, q, n30, c30, e3, hv, fun _ => i64 (by omega), fun _ => by omega, fun _ => by omega, fun _ => by omega, fun hbad w35 h35 => ?_, fun hgd w35 h35 => ?_⟩
  · refine fin w35 ((((h6.trans e7).trans h29).trans e30).trans h35) fun L tl hL ht he hlt => ?_
    obtain ⟨y, r2, _, hy, hy2⟩ := next L tl hL ht he hlt
    obtain ⟨a', b', r', hf, hl, htk2⟩ := fr_head (bs := enc y) (by have := hy.len; omega)
    have hy2' := hy2
    rw [hf] at hy2
    simp only [List.cons_append, List.cons.injEq] at hy2
    have hmm : m = (enc y).length := by rw [hy2.1, hy2.2.1] at hmI; omega
    have hr' : r.take m = enc y := by
      rw [hy2.2.2, hmm, List.take_append_of_le_length (by have := congrArg List.length htk2; rw [List.length_take] at this; omega), htk2]
    obtain ⟨c1, c2⟩ := hcx y ⟨hy.ok, hy.nod, hr'.symm, hy.ask⟩ (by rw [hr']; exact hy.len)
    rcases hbad with h | h
    · exact h c1
    · exact h (heq3.2 (by rw [c2]; exact hy.ok))
  obtain ⟨rfl, oF⟩ := hok3 hgd.2
  have hokx := heq3.1 hgd.2
  have hencx : enc x = r.take m := by
    rcases horx with ⟨h, _⟩ | ⟨_, _, _, h, _⟩
    · exact absurd hgd.1 h
    · exact h
  have haskx : x.kind = 1 → (txt x.job.ask).length ≤ 2000 := by
    rcases horx with ⟨h, _⟩ | ⟨_, _, _, _, h⟩
    · exact absurd hgd.1 h
    · exact h
  have hml : (r.take m).length = m := by rw [List.length_take]; omega
  have hfl : (fr (enc x)).length = m + 10 := by rw [fr_len, hencx, hml]
  have hw30 : Ext w w30 := hw29.trans e30
  have h330 : Ext w3 w30 := ((h6.trans e7).trans h29).trans e30
  have hcut2 : Ints .u8 w35 (pCut (pCut b bc at_ 1) (bc - at_.toNat) 0 1) (bI ((a :: b1 :: r).take (m + 10))) := by
    rw [pCut_zero]
    exact (ints_pre (j := m + 10) hri).ext (h330.trans h35)
  refine (Equal_k w35 rfl (by rw [List.length_take]; omega) (oF.cells.ext h35) hcut2).mono fun v w36 ⟨e36, hv⟩ => ⟨e36, _, hv, fun hf w38 h38 => ?_, fun ht => ?_⟩
  · refine fin w38 (h330.trans h38) fun L tl hL ht he hlt => ?_
    obtain ⟨y, r2, _, hy, hy2⟩ := next L tl hL ht he hlt
    obtain ⟨a', b', r', hff, hl, htk2⟩ := fr_head (bs := enc y) (by have := hy.len; omega)
    have hy2' := hy2
    rw [hff] at hy2
    simp only [List.cons_append, List.cons.injEq] at hy2
    have hmm : m = (enc y).length := by rw [hy2.1, hy2.2.1] at hmI; omega
    have hr' : r.take m = enc y := by
      rw [hy2.2.2, hmm, List.take_append_of_le_length (by have := congrArg List.length htk2; rw [List.length_take] at this; omega), htk2]
    refine of_decide_eq_false hf ?_
    rw [hy2', hencx, hr', List.take_append_of_le_length (by rw [fr_len]; omega), List.take_of_length_le (by rw [fr_len]; omega)]
  have hfeq : fr (enc x) = (a :: b1 :: r).take (m + 10) := of_decide_eq_true ht
  have o30 := o3.ext h330
  have hrs2 : rs.length ≤ 1048576 := by omega
  have hb28n : ∀ k ∈ [b28], ∀ y, out = some y → y.block ≠ k := fun k hk y hy => by
    simp at hk; subst hk
    have := (o3.lt y hy).2
    have := h6.size; have := e7.size
    omega
  refine push_B (v := evv x pa ca pf cf) elem_sl_Event (by omega) o30 hw30.size hb28n rfl (by intro u hu; simp [Value.cells] at hu; rcases hu with rfl | rfl | rfl | rfl | rfl | rfl | rfl | rfl | rfl | rfl | rfl | rfl | rfl | rfl | rfl <;> rfl) (by omega) (by omega) (by omega) fun p' c' w44 o44 g44 _ _ => ⟨i64 (by omega), i64 (by omega), ⟨g44.ext hw30 o30, by omega, by omega, rs ++ [⟨x, pa, ca, pf, cf⟩], by simp, by simp; omega, ?_, fun r hr => ?_, ?_, fun L tl hL ht he => ?_⟩, ?_⟩
  · rw [List.flatMap_append]
    simpa [Value.cells] using o44
  · have hsz44 := g44.size
    have step : ∀ (w0 w'' : World), Ext w0 w30 → w0.heap.size ≤ w30.heap.size → Fr (fun k => ∃ a, p' = some a ∧ a.block = k) w44 w'' → Fr (fun k => ∃ a, out = some a ∧ a.block = k) w0 w'' := fun w0 w'' h08 hs fw => by
      have f1 : Fr (fun k => ∃ a, out = some a ∧ a.block = k) w0 w44 := (fr_ext h08).tr (fr_grew g44 fun a ha => ⟨a, ha, rfl⟩)
      refine f1.trans fw fun k hk => ?_
      obtain ⟨a2, ha2, hk2⟩ := hk
      rcases g44.new with hn | hn
      · left
        rw [ha2] at hn
        cases hout : out with
        | none => rw [hout] at hn; simp [blk] at hn
        | some y => rw [hout] at hn; simp [blk] at hn; exact ⟨y, rfl, by omega⟩
      · right
        have := hn a2 ha2
        omega
    rcases List.mem_append.1 hr with hr | hr
    · exact ⟨(hrs r hr).1, fun w'' fw => (hrs r hr).2 w'' (step w3 w'' h330 h330.size fw)⟩
    · simp at hr; subst hr
      have h738 : Ext w7 w30 := h29.trans e30
      refine ⟨⟨hokx, hWx, hnx, haskx⟩, fun w'' fw => hJx (fun k => ∃ a, out = some a ∧ a.block = k) (fun k hk => ?_) w'' (step w7 w'' h738 h738.size fw)⟩
      obtain ⟨y, hy, rfl⟩ := hk
      have := (o3.lt y hy).2
      have := h6.size
      omega
  · rw [List.map_append, frs_app, ← htk]
    have e1 : (at_ + ((m : Int) + 10)).toNat = at_.toNat + (m + 10) := by omega
    rw [e1, List.take_add, hrest]
    congr 1
    rw [← hfeq]
    simp [frs]
  · obtain ⟨h1, h2⟩ := hcomp L tl hL ht he
    rcases Nat.lt_or_ge rs.length L.length with hlt | hge2
    · obtain ⟨y, r2, hyL, hy, hy2⟩ := next L tl hL ht he hlt
      obtain ⟨a', b', r', hff, hl, htk2⟩ := fr_head (bs := enc y) (by have := hy.len; omega)
      rw [hff] at hy2
      simp only [List.cons_append, List.cons.injEq] at hy2
      have hmm : m = (enc y).length := by rw [hy2.1, hy2.2.1] at hmI; omega
      have hr' : r.take m = enc y := by
        rw [hy2.2.2, hmm, List.take_append_of_le_length (by have := congrArg List.length htk2; rw [List.length_take] at this; omega), htk2]
      obtain ⟨_, c2⟩ := hcx y ⟨hy.ok, hy.nod, hr'.symm, hy.ask⟩ (by rw [hr']; exact hy.len)
      refine ⟨?_, by simp; omega⟩
      rw [List.map_append, h1, List.length_append, List.length_singleton, List.take_add_one, hyL]
      simp [c2]
    · have hlL : rs.length = L.length := by omega
      have htl : a :: b1 :: r = tl := by
        rw [h1, hlL, List.take_length] at hbsr
        rw [he] at hbsr
        exact (List.append_cancel_left hbsr).symm
      have := ht a b1 r htl.symm
      rw [← htl] at this
      omega
  · simp only []
    omega
end Go.Proofs.YtenppnomdejmlaaGreatDoor
