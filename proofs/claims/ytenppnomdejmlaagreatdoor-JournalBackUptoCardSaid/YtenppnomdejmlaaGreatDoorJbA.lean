/- Jobs: what is checked of them, and their texts. -/
import Derived.Test.YtenppnomdejmlaaGreatDoorAbD
import Derived.Test.YtenppnomdejmlaaGreatDoorTxtJ
import Derived.Lib.AtoiAllCases
set_option linter.unusedVariables false
set_option linter.unusedSimpArgs false
namespace Go.Proofs.YtenppnomdejmlaaGreatDoor
open Go.Sx Go.RowKit

/-! ### Numbers -/
theorem parse_neg {n : Int} (h : -1099511627776 ≤ n ∧ n < 0) : Lib.parseIntB 64 (Lib.itoa n) = .ok n := by
  unfold Lib.itoa
  rw [if_pos (by omega), Lib.parseIntB_minus]
  unfold Lib.parseUintB
  rw [if_neg (dec_ne _), show (2 : Nat) ^ 64 - 1 = 18446744073709551615 by decide, parse_dec _ (by omega)]
  show (if (2 : Nat) ^ (64 - 1) < n.natAbs then _ else _) = _
  rw [if_neg (by have : (2 : Nat) ^ (64 - 1) = 9223372036854775808 := by decide
                 omega)]
  congr 1; omega
theorem parse_any {n : Int} (h : -1099511627776 ≤ n ∧ n ≤ 1099511627776) : Lib.parseIntB 64 (Lib.itoa n) = .ok n := by
  rcases Int.lt_or_le n 0 with h0 | h0
  · exact parse_neg ⟨h.1, h0⟩
  · exact parse_itoa ⟨h0, h.2⟩
theorem itoa_any {n : Int} : ∀ c ∈ Lib.itoa n, c = 45 ∨ (48 ≤ c.toNat ∧ c.toNat ≤ 57) := fun c hc => by
  unfold Lib.itoa at hc
  split at hc
  · rcases List.mem_cons.1 hc with h | h
    · exact .inl h
    · exact .inr (dec_digits _ c h)
  · exact .inr (dec_digits _ c hc)
theorem atoi_parse (l : List UInt8) : Lib.atoiAll l = Lib.parseIntB 64 l := by
  unfold Lib.atoiAll Lib.parseIntB
  cases l with
  | nil => rfl
  | cons c r =>
    simp only [Lib.parseUintB_64]
    rfl
theorem Atoi_k (s : ByteArray) (hs : s.size ≤ 281474976710656) (w : World) (g : GB w) : FnP Tryz.prog F_strconv_Atoi #[.string s] w fun v w' => Ext w w' ∧ ∃ (n : Int) (ev : Value), v = .tuple #[.int .i64 n, ev] ∧
    ((ev = .nilIface ∧ Lib.parseIntB 64 s.data.toList = .ok n) ∨ ((∃ a b, ev = .iface a b) ∧ ∀ m, Lib.parseIntB 64 s.data.toList ≠ .ok m)) := by
  have en : Enters Tryz.prog F_strconv_Atoi := fun args w => Tryz.call28 args w
  rw [← atoi_parse]
  cases hp : Lib.atoiAll s.data.toList with
  | ok v =>
    refine ⟨en, (Tryz.strconv_Atoi_ok s (by omega) v hp w).mono fun e w' ⟨he, hw⟩ => ⟨_, he, ?_, v, .nilIface, rfl, .inl ⟨rfl, rfl⟩⟩⟩
    rcases hw with rfl | ⟨t, rfl⟩
    · exact Ext.refl _
    · exact Lib.bytesWorld_below w 5 t
  | range =>
    obtain ⟨ev, h1, h2⟩ := g.eRan
    exact ⟨en, (Tryz.strconv_Atoi_range s hs hp ev w (cell0 h1) h2).mono fun e w' ⟨N, he, _, _, hb⟩ => ⟨_, he, hb, _, _, rfl, .inr ⟨⟨_, _, rfl⟩, fun m h => by cases h⟩⟩⟩
  | _ =>
    obtain ⟨ev, h1, h2⟩ := g.eSyn
    exact ⟨en, (Tryz.strconv_Atoi_syntax s hs hp ev w (cell0 h1) h2).mono fun e w' ⟨N, he, _, _, hb⟩ => ⟨_, he, hb, _, _, rfl, .inr ⟨⟨_, _, rfl⟩, fun m h => by cases h⟩⟩⟩
theorem Itoa_k (n : Int) (h : -9223372036854775808 ≤ n ∧ n ≤ 9223372036854775807) (w : World) (g : GB w) : FnP Tryz.prog F_strconv_Itoa #[.int .i64 n] w fun v w' => Ext w w' ∧ v = .string (ofL (Lib.itoa n)) :=
  ⟨fun args w => Tryz.call25 args w, (Tryz.strconv_Itoa n h.1 h.2 w g.pow).mono fun e w' ⟨he, k, os, hw⟩ => ⟨_, he, by rw [hw]; exact below_grow, rfl⟩⟩

/-! ### Jobs -/
structure Jb where
  user : ByteArray
  prio : Int
  nd : Nd
  ask : AT
  aft : List Int
abbrev jcs (j : Jb) (pa : Option Addr) (ca : Nat) (pf : Option Addr) (cf : Nat) : List Value := [.string j.user, .int .i64 j.prio, .int .i64 j.nd.c, .int .i64 j.nd.m, .int .i64 j.nd.g, .int .i64 j.ask.k, .string j.ask.key, .string j.ask.val, .int .i64 j.ask.n, .slice pa j.ask.xs.length ca, .slice pf j.aft.length cf]
abbrev jv (j : Jb) (pa : Option Addr) (ca : Nat) (pf : Option Addr) (cf : Nat) : Value := .agg #[.string j.user, .int .i64 j.prio, .int .i64 j.nd.c, .int .i64 j.nd.m, .int .i64 j.nd.g, .int .i64 j.ask.k, .string j.ask.key, .string j.ask.val, .int .i64 j.ask.n, .slice pa j.ask.xs.length ca, .slice pf j.aft.length cf]
/-- Where a job's inner parts lie. -/
def IsJ (w : World) (j : Jb) (pa : Option Addr) (ca : Nat) (pf : Option Addr) : Prop := IsT w j.ask pa ca ∧ Ints .i64 w pf j.aft
theorem IsJ.ext {w w' : World} {j : Jb} {pa : Option Addr} {ca : Nat} {pf : Option Addr} (h : IsJ w j pa ca pf) (e : Ext w w') : IsJ w' j pa ca pf := ⟨h.1.ext e, h.2.ext e⟩
/-- All is of a size that there can be. -/
structure WfJ (j : Jb) : Prop where
  user : j.user.size ≤ 9223372036854775807
  prio : InR .i64 j.prio
  nd : rng j.nd
  ask : WfA j.ask
  len : j.aft.length ≤ 9223372036854775807
  aft : ∀ x ∈ j.aft, InR .i64 x
/-- Rising numbers of jobs, above one that is told. -/
def upA : Int → List Int → Prop
  | _, [] => True
  | a, x :: r => 1 ≤ x ∧ x ≤ 60 ∧ a < x ∧ upA x r
theorem upA_take {l : List Int} : ∀ {a : Int} (k : Nat), upA a l → upA a (l.take k) := by
  induction l with
  | nil => intro a k _; simp [upA]
  | cons x r ih =>
    intro a k h
    cases k with
    | zero => simp [upA]
    | succ k => exact ⟨h.1, h.2.1, h.2.2.1, ih k h.2.2.2⟩
def lastA (a : Int) (l : List Int) : Int := l.getLast?.getD a
theorem upA_snoc {x : Int} : ∀ {l : List Int} {a : Int}, upA a (l ++ [x]) ↔ upA a l ∧ 1 ≤ x ∧ x ≤ 60 ∧ lastA a l < x
  | [], a => by simp [upA, lastA]
  | y :: r, a => by
    have ih := upA_snoc (l := r) (a := y) (x := x)
    simp only [List.cons_append, upA, ih]
    have : lastA a (y :: r) = lastA y r := by
      unfold lastA
      cases r with
      | nil => rfl
      | cons z r => simp [List.getLast?_cons]
    rw [this]
    constructor
    · rintro ⟨h1, h2, h3, h4, h5⟩; exact ⟨⟨h1, h2, h3, h4⟩, h5⟩
    · rintro ⟨⟨h1, h2, h3, h4⟩, h5⟩; exact ⟨h1, h2, h3, h4, h5⟩
theorem upA_mem {l : List Int} : ∀ {a : Int}, upA a l → ∀ x ∈ l, 1 ≤ x ∧ x ≤ 60 := by
  induction l with
  | nil => intro a _ x hx; cases hx
  | cons y r ih =>
    intro a h x hx
    rcases List.mem_cons.1 hx with rfl | hx
    · exact ⟨h.1, h.2.1⟩
    · exact ih h.2.2.2 x hx
structure okJ (j : Jb) : Prop where
  user : lbB j.user = true
  prio : -1000 ≤ j.prio ∧ j.prio ≤ 1000
  nd : okN j.nd
  ask : errC j.ask = 0
  len : j.aft.length ≤ 8
  up : upA 0 j.aft

theorem jCheck_k (j : Jb) (pa : Option Addr) (ca : Nat) (pf : Option Addr) (cf : Nat) (w : World) (hJ : IsJ w j pa ca pf) (hW : WfJ j) : FnP Tryz.prog F_job_Check #[jv j pa ca pf cf] w fun v w' => Ext w w' ∧ ∃ e : Int, v = .int .i64 e ∧ (e = 0 ↔ okJ j) := by
  refine ok_job_Check j.user j.prio j.nd.c j.nd.m j.nd.g j.ask.k j.ask.key j.ask.val j.ask.n pa j.ask.xs.length ca pf j.aft.length cf w _ fun b0 hb0 w1 h1 => (Label_k j.user hW.user w1).mono fun v w2 ⟨e2, hv⟩ => ⟨e2, _, hv, fun hno w4 h4 => ?_, fun hyes => ⟨fun hbad w4 h4 => ?_, fun hpr w4 h4 => ?_⟩⟩
  · exact ⟨h4, 3, rfl, by simp, fun h => by rw [h.user] at hno; cases hno⟩
  · exact ⟨h4, 4, rfl, by simp, fun h => by have := h.prio; omega⟩
  refine (ncheck_k j.nd w4).mono fun v w5 ⟨e5, hv⟩ => ⟨e5, _, hv, fun hne w7 h7 => ⟨h7, _, rfl, fun h => absurd h hne, fun h => absurd (errN_ok.2 h.nd) hne⟩, fun hz w7 h7 => ?_⟩
  refine (Check_k j.ask pa ca w7 (hJ.1.ext h7) hW.ask).mono fun v w8 ⟨e8, hv⟩ => ⟨e8, _, hv, fun hne w10 h10 => ⟨h10, _, rfl, fun h => absurd h hne, fun h => absurd h.ask hne⟩, fun hz2 => ⟨fun hbig w10 h10 => ⟨h10, 2, rfl, by simp, fun h => by have := h.len; omega⟩, fun hle => ?_⟩⟩
  refine ⟨fun last k w' => w' = w ∧ 0 ≤ k ∧ k ≤ j.aft.length ∧ upA 0 (j.aft.take k.toNat) ∧ last = lastA 0 (j.aft.take k.toNat), fun _ k _ => (j.aft.length - k).toNat, ⟨rfl, by omega, by omega, by simp [upA], by simp [lastA]⟩, ?_⟩
  rintro last k w' ⟨rfl, hk0, hk1, hup, rfl⟩
  have all : ∀ e : Int, (upA 0 j.aft → False) → e ≠ 0 → (e = 0 ↔ okJ j) := fun e h he => ⟨fun h' => absurd h' he, fun h' => (h h'.up).elim⟩
  refine ⟨fun hlt => ?_, fun hge w14 h14 => ⟨h14, 0, rfl, fun _ => ⟨hyes, ⟨by omega, by omega⟩, errN_ok.1 hz, hz2, by omega, by rw [List.take_of_length_le (by omega)] at hup; exact hup⟩, fun _ => rfl⟩⟩
  have g := Ints.idx hJ.2 hk0 hlt
  have hget : j.aft.take (k.toNat + 1) = j.aft.take k.toNat ++ [j.aft.getD k.toNat 0] := by
    rw [List.take_succ_eq_append_getElem (by omega)]
    congr 2
    simp [List.getD_eq_getElem?_getD, show k.toNat < j.aft.length by omega]
  refine ⟨fun hq => cell_p g (pIdx_none.2 hq), hk0, hlt, _, g, fun hbad w15 h15 => ⟨h15, 4, rfl, all 4 (fun h => ?_) (by decide)⟩, fun hin => ⟨fun hle2 w15 h15 => ⟨h15, 6, rfl, all 6 (fun h => ?_) (by decide)⟩, fun hgt => ⟨i64 (by omega), ⟨rfl, by omega, by omega, ?_, ?_⟩, by simp only []; omega⟩⟩⟩
  · have := upA_take (k.toNat + 1) h
    rw [hget, upA_snoc] at this
    omega
  · have := upA_take (k.toNat + 1) h
    rw [hget, upA_snoc] at this
    omega
  · rw [show (k + 1).toNat = k.toNat + 1 by omega, hget, upA_snoc]
    exact ⟨hup, hin.1, hin.2, hgt⟩
  · rw [show (k + 1).toNat = k.toNat + 1 by omega, hget]
    simp [lastA]

def aftL (l : List Int) : List UInt8 := if l = [] then [45] else Lib.join (l.map Lib.itoa) [44]
theorem aft_len {l : List Int} (h : l.length ≤ 8) (hr : ∀ x ∈ l, InR .i64 x) : (aftL l).length ≤ 200 := by
  unfold aftL
  split
  · simp
  · have := join_len (c := 44) (m := 21) (l.map Lib.itoa) (fun y hy => by
      obtain ⟨x, hx, rfl⟩ := List.mem_map.1 hy
      have := of64 (hr x hx)
      exact Lib.itoa_length_le x this.1 this.2)
    rw [List.length_map] at this
    omega
theorem after_k (l : List Int) (p : Option Addr) (c : Nat) (w : World) (hp : Ints .i64 w p l) (h8 : l.length ≤ 8) (hr : ∀ x ∈ l, InR .i64 x) (g : GB w) : FnP Tryz.prog F_job_after #[.slice p l.length c] w fun v w' => Ext w w' ∧ v = .string (ofL (aftL l)) := by
  refine ok_job_after p l.length c w _ ⟨fun h0 w0 e0 => ⟨e0, ?_⟩, fun hne => ?_⟩
  · have : l = [] := List.eq_nil_of_length_eq_zero (by omega)
    subst this
    rfl
  have hl : l ≠ [] := fun h => hne (by rw [h]; rfl)
  refine ⟨fun out outl outc k w' => Ext w w' ∧ 0 ≤ k ∧ k ≤ l.length ∧ Own w.heap.size w' T_string 1 out outl outc (((l.take k.toNat).map Lib.itoa).map fun y => Value.string (ofL y)), fun _ _ _ k _ => (l.length - k).toNat, ⟨Ext.refl _, by omega, by omega, Own.nil⟩, ?_⟩
  rintro out outl outc k w3 ⟨x3, hk0, hk1, o3⟩
  refine ⟨fun hlt => ?_, fun hge w4 h4 => ?_⟩
  · have gc := Ints.idx (hp.ext x3) hk0 hlt
    have hol := o3.leni
    have hm := hr _ (getD_mem l 0 (i := k.toNat) (by omega))
    refine ⟨fun hq => cell_p gc (pIdx_none.2 hq), hk0, hlt, _, gc, fun w5 h5 => (Itoa_k _ (of64 hm) w5 ((g.ext x3).ext h5)).mono fun v w6 ⟨e6, hv⟩ => ⟨e6, _, hv, ?_⟩⟩
    simp only [List.length_map, List.length_take] at hol
    refine push elem_sl_string (by omega) o3 x3.size rfl (by intro u hu; simp [Value.cells] at hu; subst hu; rfl) (by omega) (by omega) (by omega) fun p' c' w' o' g' _ => ⟨i64 (by omega), ⟨g'.ext x3 o3, by omega, by omega, ?_⟩, by simp only []; omega⟩
    rw [show (k + 1).toNat = k.toNat + 1 by omega, List.take_succ_eq_append_getElem (by omega), List.map_append, List.map_append]
    simpa [Value.cells, List.getD_eq_getElem?_getD, show k.toNat < l.length by omega] using o'
  · have hkl : k.toNat = l.length := by omega
    rw [hkl, List.take_length] at o3
    refine (Join_k (l.map Lib.itoa) 44 out outl outc w.heap.size T_string w4 (o3.ext h4) (by simpa using hl) ?_).mono fun v w5 ⟨e5, hv⟩ => ⟨e5, _, hv, fun w7 h7 => ⟨x3.trans h7, ?_⟩⟩
    · have := aft_len h8 hr
      unfold aftL at this
      rw [if_neg hl] at this
      omega
    · unfold aftL; rw [if_neg hl]

def jps (j : Jb) : List (List UInt8) := [j.user.data.toList, Lib.itoa j.prio, textL j.nd, aftL j.aft, txt j.ask]
def jtx (j : Jb) : List UInt8 := Lib.join (jps j) [32]
theorem okJ.rng {j : Jb} (h : okJ j) : ∀ x ∈ j.aft, InR .i64 x := fun x hx => by have := upA_mem h.up x hx; exact i64 (by omega)
theorem text_len {x : Nd} (hx : rng x) : (textL x).length ≤ 78 := by
  unfold textL
  split
  · simp
  · exact join_pcs hx
theorem jps_len {j : Jb} (h : okJ j) (hn : nod j.ask ≤ 1048576) : ∀ y ∈ jps j, y.length ≤ 3000 := by
  have h1 := lbB_size h.user
  have h2 := Lib.itoa_length_le j.prio (by have := h.prio; omega) (by have := h.prio; omega)
  have h3 := text_len h.nd.rng
  have h4 := aft_len h.len h.rng
  obtain ⟨h5, h6⟩ := errC_ok.1 h.ask
  have h7 := txt_len j.ask h6
  rw [cnt_nod j.ask hn] at h5
  intro y hy
  unfold jps at hy
  simp only [List.mem_cons, List.not_mem_nil, or_false] at hy
  rcases hy with rfl | rfl | rfl | rfl | rfl
  · rw [bs_len]; omega
  · omega
  · omega
  · omega
  · omega
theorem jText_k (j : Jb) (pa : Option Addr) (ca : Nat) (pf : Option Addr) (cf : Nat) (w : World) (hJ : IsJ w j pa ca pf) (hW : WfJ j) (hn : nod j.ask ≤ 1048576) (g : GB w) : FnP Tryz.prog F_job_Text #[jv j pa ca pf cf] w fun v w' => Ext w w' ∧ ∃ (t : ByteArray) (e : Int), v = .tuple #[.string t, .int .i64 e] ∧ (e = 0 ↔ okJ j) ∧ (e ≠ 0 → t = emS) ∧ (e = 0 → t = ofL (jtx j)) := by
  refine ok_job_Text j.user j.prio j.nd.c j.nd.m j.nd.g j.ask.k j.ask.key j.ask.val j.ask.n pa j.ask.xs.length ca pf j.aft.length cf w _ fun b0 hb0 w1 h1 => (jCheck_k j pa ca pf cf w1 (hJ.ext h1) hW).mono fun v w2 ⟨e2, e, hv, he⟩ => ⟨e2, e, hv, fun hne w4 h4 => ⟨h4, emS, e, rfl, he, fun _ => rfl, fun h => absurd h hne⟩, fun hz w4 h4 => ?_⟩
  have ho := he.1 hz
  refine (nText_k j.nd w4 (g.ext h4)).mono fun v w5 ⟨e5, t5, f5, hv, hf, _, ht5⟩ => ⟨e5, t5, f5, hv, fun w8 h8 => ?_⟩
  have ht5 := ht5 (hf.2 ho.nd)
  refine (Text_k j.ask pa ca w8 (hJ.1.ext h8) hW.ask hn ⟨(g.ext h8).pow⟩).mono fun v w9 ⟨e9, hor⟩ => ?_
  rcases hor with ⟨hne, _⟩ | ⟨_, hv⟩
  · exact absurd ho.ask hne
  refine ⟨e9, _, _, hv, fun w12 h12 => (Itoa_k j.prio (of64 hW.prio) w12 (g.ext h12)).mono fun v w13 ⟨e13, hv⟩ => ⟨e13, _, hv, fun w15 h15 => (after_k j.aft pf cf w15 (hJ.2.ext h15) ho.len ho.rng (g.ext h15)).mono fun v w16 ⟨e16, hv⟩ => ⟨e16, _, hv, fun w18 x18 => ?_⟩⟩⟩
  have h18 := extB_ext x18
  refine run_lit elem_sl_string [.string j.user, .string (ofL (Lib.itoa j.prio)), .string t5, .string (ofL (aftL j.aft)), .string (ofL (txt j.ask))] rfl rfl (by intro v hv; simp at hv; rcases hv with rfl | rfl | rfl | rfl | rfl <;> rfl) (by omega) (by omega) fun w19 o19 e19 => ⟨e19, _, _, _, rfl, fun w23 h23 => ?_⟩
  have o23 := (o19 w18.heap.size (Nat.le_refl _)).ext h23
  have hrow : ([.string j.user, .string (ofL (Lib.itoa j.prio)), .string t5, .string (ofL (aftL j.aft)), .string (ofL (txt j.ask))] : List Value).flatMap (fun v => v.cells.toList) = (jps j).map fun l => Value.string (ofL l) := by
    rw [ht5]
    simp [Value.cells, jps, ofL_of]
  rw [hrow] at o23
  refine (Join_k (jps j) 32 _ _ _ _ T_string w23 o23 (by simp [jps]) ?_).mono fun v w24 ⟨e24, hv⟩ => ⟨e24, _, hv, fun w26 h26 => ⟨(h18.trans e19).trans h26, _, 0, rfl, ⟨fun _ => ho, fun _ => rfl⟩, fun h => absurd rfl h, fun _ => rfl⟩⟩
  have := join_len (c := 32) (m := 3000) (jps j) (jps_len ho hn)
  simp only [jps, List.length_cons, List.length_nil] at this ⊢
  omega
end Go.Proofs.YtenppnomdejmlaaGreatDoor
