/- Advance: who is due is told, by time, and by the order of coming. -/
import Derived.Test.YtkpkbbapaamflaaWhE
set_option linter.unusedVariables false
set_option linter.unusedSimpArgs false
namespace Go.Proofs.Ytkpkbbapaamflaa
open Go.Sx Go.RowKit

def fic (x : Tm) : List Value := [.int .i64 x.t, .int .i64 x.id]
def adOk (n : Int) : Prop := 0 ≤ n ∧ n ≤ 16777216
instance (n : Int) : Decidable (adOk n) := by unfold adOk; infer_instance
def adE (n : Int) : Int := if adOk n then 0 else 1
def adN (now n : Int) : Int := if adOk n then now + n else now
def adL (now : Int) (L : List Tm) (n : Int) : List Tm := if adOk n then L.filter fun x => decide (now + n < x.t) else L
def adK (now : Int) (L : List Tm) (n : Int) : List Tm := if adOk n then L.filter fun x => decide (x.t ≤ now + n) else []

theorem filter_same {a b : Int} {L : List Tm} (hab : a ≤ b) (h : ∀ x ∈ L, a < x.t → b < x.t) : (L.filter fun x => decide (b < x.t)) = (L.filter fun x => decide (a < x.t)) ∧ (L.filter fun x => decide (x.t ≤ b)) = L.filter fun x => decide (x.t ≤ a) := by
  constructor
  · refine List.filter_congr fun x hx => ?_
    have := h x hx
    rw [decide_eq_decide]; omega
  · refine List.filter_congr fun x hx => ?_
    have := h x hx
    rw [decide_eq_decide]; omega
theorem hd_le {L : List Tm} (h : L.Pairwise before) : ∀ x ∈ L, hdT L ≤ x.t := by
  cases L with
  | nil => exact fun x hx => by cases hx
  | cons a l =>
    rw [List.pairwise_cons] at h
    intro x hx
    rcases List.mem_cons.1 hx with rfl | hx
    · exact Int.le_refl _
    · have := h.1 x hx; unfold before at this; simp only [hdT]; omega
theorem due_len {L : List Tm} (h : L ≠ []) : 1 ≤ (L.filter fun x => decide (x.t = hdT L)).length := by
  cases L with
  | nil => exact absurd rfl h
  | cons a l => simp [hdT]
theorem asc_due {w : World} {p : Option Addr} {L : List Tm} {t : Int} (hs : L.Pairwise before) (h : Recs 3 tmc w p (L.filter fun x => decide (x.t = t))) : Asc w p (L.filter fun x => decide (x.t = t)) := by
  refine ⟨h, fun i j hij hj => ?_⟩
  have hp := hs.filter fun x => decide (x.t = t)
  by_cases he : i = j
  · subst he; exact Int.le_refl _
  · have hi : i < (L.filter fun x => decide (x.t = t)).length := by omega
    have h1 := List.pairwise_iff_getElem.1 hp i j hi hj (by omega)
    have a1 := (List.mem_filter.1 (List.getElem_mem hi)).2
    have a2 := (List.mem_filter.1 (List.getElem_mem hj)).2
    simp only [decide_eq_true_eq] at a1 a2
    rw [List.getD_eq_getElem?_getD, List.getD_eq_getElem?_getD, List.getElem?_eq_getElem hi, List.getElem?_eq_getElem hj]
    unfold before at h1
    simp only [Option.getD_some]; omega

section
variable {B : Nat} {w : World} {wb : Nat} {now born : Int} {L : List Tm} {F : Nat → Prop}

theorem adv_k (h : WS B w wb now born L F) (hn : now ≤ 2305843009213693952) (hb : born ≤ 1000000) {n : Int} (hin : InR .i64 n) :
    FnP Try.prog F_wheel_Wheel_Advance #[.pointer (ptr wb), .int .i64 n] w fun v w' => ∃ p c F', v = .tuple #[.slice p (adK now L n).length c, .int .i64 (adE n)] ∧ Own w.heap.size w' T_Fire 2 p (adK now L n).length c ((adK now L n).flatMap fic) ∧
      WS B w' wb (adN now n) born (adL now L n) F' ∧ Fr F w w' ∧ (∀ b, F' b → F b ∨ w.heap.size ≤ b) ∧ ∀ a, p = some a → ¬ F' a.block := by
  have nn := ptr_ne wb
  have n0 := h.n0
  have h200 := h.len
  refine ok_wheel_Wheel_Advance (ptr wb) n w _ ⟨fun hbad w0 e0 => ?_, fun hok => ?_⟩
  · have hno : ¬ adOk n := by unfold adOk; omega
    have e1 : adE n = 1 := by unfold adE; rw [if_neg hno]
    have e2 : adN now n = now := by unfold adN; rw [if_neg hno]
    have e3 : adL now L n = L := by unfold adL; rw [if_neg hno]
    have e4 : adK now L n = [] := by unfold adK; rw [if_neg hno]
    rw [e1, e2, e3, e4]
    exact ⟨none, 0, F, rfl, Own.nil, h.ext e0, fr_ext e0, fun b hb => .inl hb, fun a ha => by cases ha⟩
  have hyes : adOk n := hok
  have e1 : adE n = 0 := by unfold adE; rw [if_pos hyes]
  have e2 : adN now n = now + n := by unfold adN; rw [if_pos hyes]
  have e3 : adL now L n = L.filter fun x => decide (now + n < x.t) := by unfold adL; rw [if_pos hyes]
  have e4 : adK now L n = L.filter fun x => decide (x.t ≤ now + n) := by unfold adK; rw [if_pos hyes]
  rw [e1, e2, e3, e4]
  obtain ⟨mb0, M0, R0, i0, _⟩ := h.ex
  refine ⟨nn, nn, now, i0.nw, i64 (by omega), ?_⟩
  generalize hend : now + n = en
  have hlo : now ≤ en := by omega
  have hhi : en ≤ now + 16777216 := by omega
  have hst0 : (L.filter fun x => decide (now < x.t)) = L ∧ (L.filter fun x => decide (x.t ≤ now)) = [] := by
    refine ⟨List.filter_eq_self.2 fun x hx => by simpa using h.st x hx, List.filter_eq_nil_iff.2 fun x hx => ?_⟩
    have := h.st x hx; simp; omega
  refine ⟨fun out outl outc w3 => ∃ now3 F3, now ≤ now3 ∧ now3 ≤ en ∧ WS B w3 wb now3 born (L.filter fun x => decide (now3 < x.t)) F3 ∧ Own w.heap.size w3 T_Fire 2 out outl outc ((L.filter fun x => decide (x.t ≤ now3)).flatMap fic) ∧
      outl = (L.filter fun x => decide (x.t ≤ now3)).length ∧ Fr F w w3 ∧ (∀ b, F3 b → F b ∨ w.heap.size ≤ b) ∧ ∀ a, out = some a → ¬ F3 a.block, fun _ outl _ _ => L.length - outl,
    ⟨now, F, Int.le_refl _, hlo, by rw [hst0.1]; exact h, by rw [hst0.2]; exact Own.nil, by rw [hst0.2]; rfl, Fr.refl _ _, fun b hb => .inl hb, fun a ha => by cases ha⟩, ?_⟩
  rintro out outl outc w3 ⟨now3, F3, g1, g2, s3, o3, hol, f3, k3, ap3⟩ w4 e4'
  refine (nextS_k (s3.ext e4')).mono fun v w5 ⟨e5, hv⟩ => ⟨e5, _, _, hv, fun hend' w8 e8 => ?_, fun hgo w8 e8 => ?_⟩
  · -- the end
    obtain ⟨mb, M, R, i3, hM, hl, hF⟩ := s3.ex
    have hall : ∀ x ∈ L, now3 < x.t → en < x.t := fun x hx hxt => by
      have hmem : x ∈ L.filter fun x => decide (now3 < x.t) := List.mem_filter.2 ⟨hx, by simpa using hxt⟩
      have := hd_le s3.ok.sorted x hmem
      rcases hend' with he | he
      · simp only [Bool.not_eq_false', List.isEmpty_iff] at he
        rw [he] at hmem; cases hmem
      · omega
    obtain ⟨q1, q2⟩ := filter_same g2 hall
    refine (to_k (i3.ext e8) (Nat.le_trans s3.hB e8.size) (to := en) hl (fun x hx => ?_) s3.n0 g2 (by omega) (by have := s3.len; omega)).mono fun v w9 ⟨hv, R', i9, l9, f9, k9⟩ => ⟨hv, fun w10 e10 => ?_⟩
    · have h1 := List.mem_filter.1 hx
      have h2 := hall x h1.1 (by simpa using h1.2)
      have h3 := s3.ok.hi x hx
      omega
    · have o10 : Own w.heap.size w10 T_Fire 2 out outl outc ((L.filter fun x => decide (x.t ≤ now3)).flatMap fic) := ((o3.ext e8).fr f9 fun a ha hc => ap3 a ha (hF _ hc)).ext e10
      have fend := ((f3.tr (fr_ext e8)).trans (f9.mono hF) fun b hb => k3 b hb).tr (fr_ext e10)
      refine ⟨out, outc, WF wb mb R', ?_, ?_, ⟨⟨mb, M, R', i9.ext e10, ?_, ?_, fun b hb => hb⟩, ?_, fun x hx => by simpa using (List.mem_filter.1 hx).2, Nat.le_trans (List.length_filter_le ..) h.len, by omega, h.b0, Nat.le_trans h.hB fend.size, fun b hb => (i9.ext e10).foot hb⟩, fend, fun b hb => ?_, fun a ha hc => ?_⟩
      · rw [q2, hol]
      · rw [q2, ← hol]; exact o10
      · rw [q1]; exact hM
      · rw [q1]; exact l9
      · rw [q1]
        exact s3.ok.to g2 fun x hx => by
          have h1 := List.mem_filter.1 hx
          have := hall x h1.1 (by simpa using h1.2); omega
      · rcases k9 b hb with h' | h'
        · exact k3 b (hF b h')
        · exact .inr (Nat.le_trans (Nat.le_trans f3.size e8.size) h')
      · rcases k9 _ hc with h' | h'
        · exact ap3 a ha (hF _ h')
        · have := (o3.lt a ha).2
          have := e8.size
          omega
  · -- who is due
    obtain ⟨mb, M, R, i3, hM, hl, hF⟩ := s3.ex
    generalize hL3 : (L.filter fun x => decide (now3 < x.t)) = L3 at s3 hM hl hv hgo
    obtain ⟨hne, hle⟩ := hgo
    have hne : L3 ≠ [] := by simpa using hne
    generalize hat : hdT L3 = at_ at hle hv
    have hge : ∀ x ∈ L3, at_ ≤ x.t := fun x hx => by rw [← hat]; exact hd_le s3.ok.sorted x hx
    have hmx : ∃ x ∈ L3, x.t = at_ := by
      cases L3 with
      | nil => exact absurd rfl hne
      | cons a l => exact ⟨a, List.mem_cons_self .., hat⟩
    obtain ⟨x0, hx0, hxt0⟩ := hmx
    have hgt : now3 < at_ := by rw [← hxt0]; exact s3.st x0 hx0
    refine (to_k (i3.ext e8) (Nat.le_trans s3.hB e8.size) (to := at_) hl (fun x hx => ⟨hge x hx, s3.ok.hi x hx⟩) s3.n0 (by omega) (by omega) (by have := s3.len; omega)).mono fun v w9 ⟨hv9, R4, i9, l9, f9, k9⟩ => ⟨hv9, fun w10 e10 => ?_⟩
    have s3n := s3.n0
    have i10 := i9.ext e10
    refine (slot_k i10.nw (by omega) (by omega) (t := at_) (by omega) (by omega)).mono fun v w11 ⟨e11, hv11⟩ => ⟨e11, _, hv11, pAdd_ne nn, ?_⟩
    have ok4 : WOk at_ born L3 := s3.ok.to (by omega) hge
    have hrow := l9.due ok4
    have hj := sx_lt at_ at_
    generalize hjs : sx at_ at_ = j at hrow hj
    have hrow : (R4 j).l = L3.filter fun x => decide (x.t = at_) := hrow
    have i11 := i10.ext e11
    refine ⟨_, _, _, i11.at hj, fun w16 e16 => ?_⟩
    have i16 := i11.ext e16
    have hD1 : 1 ≤ (R4 j).l.length := by rw [hrow, ← hat]; exact due_len hne
    have hDL : (R4 j).l.length ≤ L.length := by rw [hrow, ← hL3]; exact Nat.le_trans (List.length_filter_le ..) (List.length_filter_le ..)
    have rec16 : Recs 3 tmc w16 (R4 j).p (R4 j).l := Own.recs (i16.row j hj) fun x _ => tmc_len x
    have asc16 : Asc w16 (R4 j).p (R4 j).l := by rw [hrow] at rec16 ⊢; exact asc_due s3.ok.sorted rec16
    refine (sort_k asc16 (by omega) hD1).mono fun v w17 ⟨e17, hv17⟩ => ⟨hv17, pAdd_ne nn, ?_⟩
    have i17 := i16.ext e17
    have x17 := ((e10.trans e11).trans e16).trans e17
    have f17 : Fr F w w17 := (((f3.tr (fr_ext e8)).trans (f9.mono hF) fun b hb => k3 b hb)).tr (fr_ext x17)
    have kR : ∀ b, WF wb mb R4 b → F b ∨ w.heap.size ≤ b := fun b hb => by
      rcases k9 b hb with h' | h'
      · exact k3 b (hF b h')
      · exact .inr (Nat.le_trans (Nat.le_trans f3.size e8.size) h')
    have apR : ∀ a, out = some a → ¬ WF wb mb R4 a.block := fun a ha hc => by
      rcases k9 _ hc with h' | h'
      · exact ap3 a ha (hF _ h')
      · have := (o3.lt a ha).2
        have := e8.size
        omega
    have o17 : Own w.heap.size w17 T_Fire 2 out outl outc ((L.filter fun x => decide (x.t ≤ now3)).flatMap fic) := ((o3.ext e8).fr f9 fun a ha hc => ap3 a ha (hF _ hc)).ext x17
    have hMp : M.Perm (((R4 j).l ++ L3.filter fun x => decide (at_ < x.t)).map mv) := by
      refine hM.trans (List.Perm.map mv ?_)
      rw [hrow]
      refine (List.Perm.of_eq ?_).trans (filter_perm_split _ _ L3 fun x hx => ?_).symm
      · rw [eq_comm, List.filter_eq_self]
        intro x hx
        have := hge x hx
        simp; omega
      · simp; omega
    generalize hE : (L3.filter fun x => decide (at_ < x.t)) = E at hMp
    generalize hK3 : (L.filter fun x => decide (x.t ≤ now3)) = K3 at o17 hol
    refine ⟨_, _, _, i17.at hj, ?_⟩
    refine ⟨fun out outl outc k w' => ∃ m : Nat, k = m ∧ m ≤ (R4 j).l.length ∧ ∃ M', WI B w' wb mb at_ born M' R4 ∧ M'.Perm (((R4 j).l.drop m ++ E).map mv) ∧ Own w.heap.size w' T_Fire 2 out outl outc ((K3 ++ (R4 j).l.take m).flatMap fic) ∧ outl = K3.length + m ∧ Fr F w w' ∧ ∀ a, out = some a → ¬ WF wb mb R4 a.block,
      fun _ _ _ k _ => ((R4 j).l.length - k).toNat, ⟨0, rfl, by omega, M, i17, by rw [List.drop_zero]; exact hMp, by rw [List.take_zero, List.append_nil]; exact o17, hol, f17, apR⟩, ?_⟩
    rintro out2 outl2 outc2 k w24 ⟨m, rfl, hm, M', i24, hM', o24, hol2, f24, ap24⟩
    have hK3L : K3.length ≤ L.length := by rw [← hK3]; exact List.length_filter_le ..
    refine ⟨fun hlt => ?_, fun hgee => ?_⟩
    · have hml : m < (R4 j).l.length := by omega
      have rec24 : Recs 3 tmc w24 (R4 j).p (R4 j).l := Own.recs (i24.row j hj) fun x _ => tmc_len x
      obtain ⟨a1, a2, a3, a4, a5⟩ := rec_at rec24 hml
      refine ⟨a1, by omega, by omega, a2, _, a3, _, a4, _, a5, fun b hb => ?_⟩
      have hbs : w.heap.size ≤ w24.heap.size := f24.size
      refine push_B elem_sl_Fire (by omega) o24 hbs (fun b' hb' x hx he => by
        obtain rfl : b' = b := by simpa using hb'
        have := (o24.lt x hx).2; omega) rfl (by intro u hu; simp [Value.cells] at hu; rcases hu with rfl | rfl <;> rfl) (by omega) (by omega) (by omega) fun p' c' w35 o35 g35 hp' hf' => ⟨nn, nn, ?_⟩
      have i35 : WI B w35 wb mb at_ born M' R4 := i24.fr (fr_grew (S := fun b => ∃ a, out2 = some a ∧ a.block = b) g35 fun a ha => ⟨a, ha, rfl⟩) fun b hb ⟨a, ha, he⟩ => ap24 a ha (he ▸ hb)
      refine ⟨_, i35.mp, fun w40 x40 => ?_⟩
      have e40 := extB_ext x40
      have i40 := i35.ext e40
      refine run_delete_it kInt mapT (ts := [3]) i40.map fun w41 m41 g41 => ⟨fun b' hb' => ?_, rfl, i64 (by omega), ⟨m + 1, by omega, by omega, _, i40.mapd m41 g41, ?_, ?_, by omega, ?_, fun a ha hc => ?_⟩, by simp only []; omega⟩
      · refine g41.by_.block b' (x40.lt b' hb') fun he => ?_
        simp [blk] at he
        obtain rfl : b' = b := by simpa using hb'
        have := (i24.foot (.inr (.inl rfl))).2
        omega
      · have hd : (R4 j).l.drop m = (R4 j).l[m] :: (R4 j).l.drop (m + 1) := List.drop_eq_getElem_cons hml
        rw [hd, List.cons_append] at hM'
        have hdl := mdel_perm i40.map.nodup hM' (R4 j).l[m].id
        refine hdl.trans (List.Perm.of_eq ?_)
        congr 1
        have hnd := (mkeys_mv hM').nodup_iff.1 i40.map.nodup
        rw [List.map_cons, List.nodup_cons] at hnd
        rw [List.filter_cons, if_neg (by simp), List.filter_eq_self]
        intro x hx
        simp only [ne_eq, decide_not, Bool.not_eq_true', decide_eq_false_iff_not]
        intro he
        exact hnd.1 (he ▸ List.mem_map_of_mem (f := (·.id)) hx)
      · have o41 := (o35.ext e40).fr (fr_grew (S := fun b => b = mb) g41 fun a ha => by cases ha; rfl) fun a ha hc => ?_
        · rw [List.take_succ_eq_append_getElem hml, ← List.append_assoc, List.flatMap_append]
          have : [(R4 j).l[m]].flatMap fic = fic (R4 j).l[m] := by simp
          rw [this]; exact o41
        · rcases g35.new with hnw | hnw
          · cases hq : out2 with
            | none => rw [hq, ha] at hnw; simp [blk] at hnw
            | some y =>
              rw [hq, ha] at hnw
              simp [blk] at hnw
              exact ap24 y hq (by rw [← hnw, hc]; exact .inr (.inl rfl))
          · have := hnw a ha
            have := (i24.foot (.inr (.inl rfl))).2
            omega
      · refine ((f24.trans (fr_grew (S := fun b => ∃ a, out2 = some a ∧ a.block = b) g35 fun a ha => ⟨a, ha, rfl⟩) fun b ⟨a, ha, he⟩ => .inr (by have := (o24.lt a ha).1; omega)).tr (fr_ext e40)).trans (fr_grew (S := fun b => b = mb) g41 fun a ha => by cases ha; rfl) fun b hb => ?_
        subst hb
        exact kR _ (.inr (.inl rfl))
      · rcases g35.new with hnw | hnw
        · cases hq : out2 with
          | none => rw [hq, ha] at hnw; simp [blk] at hnw
          | some y =>
            rw [hq, ha] at hnw
            simp [blk] at hnw
            exact ap24 y hq (by rw [← hnw]; exact hc)
        · have := hnw a ha
          have := (i24.foot hc).2
          omega
    · have hml : m = (R4 j).l.length := by omega
      subst hml
      rw [List.drop_length, List.nil_append] at hM'
      rw [List.take_length] at o24
      refine ⟨pAdd_ne nn, ?_⟩
      refine store_one (off := 3 + j) i24.slot (by rw [whc_len]; omega) rfl (by simp) fun w25 o25 g25 => ?_
      have i25 : WI B w25 wb mb at_ born M' (upd R4 j ⟨none, 0, []⟩) := by
        refine (i24.aside j).back hj ?_ g25 Own.nil (fun a ha => by cases ha)
        rw [← whc_set hj]; exact o25
      have fw : Fr (fun b => b = wb) w24 w25 := fr_grew g25 fun a ha => by cases ha; rfl
      have f25 : Fr F w w25 := f24.trans fw fun b hb => by subst hb; exact kR _ (.inl rfl)
      have hE' : (L.filter fun x => decide (at_ < x.t)) = E := by
        rw [← hE, ← hL3, List.filter_filter]
        refine List.filter_congr fun x _ => ?_
        by_cases hx : at_ < x.t
        · have : now3 < x.t := by omega
          simp [hx, this]
        · simp [hx]
      have hK' : (L.filter fun x => decide (x.t ≤ at_)) = K3 ++ (R4 j).l := by
        rw [← sorted_split h.ok.sorted now3 at_ (by omega), hK3, hrow, ← hL3, List.filter_filter]
        congr 1
        refine List.filter_congr fun x hx => ?_
        by_cases hx1 : now3 < x.t
        · have := hge x (by rw [← hL3]; exact List.mem_filter.2 ⟨hx, by simpa using hx1⟩)
          by_cases hx2 : x.t = at_
          · simp [hx1, hx2]
          · have : ¬ x.t ≤ at_ := by omega
            simp [hx2, this]
        · simp [hx1]
      have lies' : Lies (sx at_) E fun k => (upd R4 j ⟨none, 0, []⟩ k).l := by
        rw [← hE]
        refine (l9.drop (fun x => decide (at_ < x.t)) (sx at_ at_) fun x hx hxf => ?_).rows fun k hk => ?_
        · have := hge x hx
          simp only [decide_eq_false_iff_not] at hxf
          have : x.t = at_ := by omega
          rw [this]
        · rw [hjs]
          by_cases hkj : k = j
          · subst hkj
            rw [upd_at, upd_at]
            simp only
            rw [hrow, List.filter_filter, eq_comm, List.filter_eq_nil_iff]
            intro x _
            simp; omega
          · rw [upd_ne _ _ hkj, upd_ne _ _ hkj]
      refine ⟨⟨at_, WF wb mb (upd R4 j ⟨none, 0, []⟩), by omega, hle, ⟨⟨mb, M', _, i25, ?_, ?_, fun b hb => hb⟩, ?_, fun x hx => by simpa using (List.mem_filter.1 hx).2, Nat.le_trans (List.length_filter_le ..) h.len, by omega, h.b0, Nat.le_trans h.hB f25.size, fun b hb => i25.foot hb⟩, ?_, ?_, f25, fun b hb => ?_, fun a ha hc => ?_⟩, ?_⟩
      · rw [hE']; exact hM'
      · rw [hE']; exact lies'
      · rw [hE', ← hE]; exact ok4.filter _
      · rw [hK']
        exact o24.fr fw fun a ha hc => ap24 a ha (.inl hc)
      · rw [hK', List.length_append]; exact hol2
      · rcases WF.upd (R := R4) (r := ⟨none, 0, []⟩) (n := w.heap.size) hj (fun a ha => by cases ha) hb with h' | h'
        · exact kR b h'
        · exact .inr h'
      · rcases WF.upd (R := R4) (r := ⟨none, 0, []⟩) (n := w24.heap.size) hj (fun a ha => by cases ha) hc with h' | h'
        · exact ap24 a ha h'
        · have := (o24.lt a ha).2; omega
      · have hKL : K3.length + (R4 j).l.length ≤ L.length := by
          rw [← List.length_append, ← hK']; exact List.length_filter_le ..
        simp only []; omega
end
end Go.Proofs.Ytkpkbbapaamflaa
