/- The reader of asks: an ask, whatever is left. -/
import Derived.Test.YtenppnomdejmlaaGreatDoorAbB
set_option linter.unusedVariables false
set_option linter.unusedSimpArgs false
namespace Go.Proofs.YtenppnomdejmlaaGreatDoor
open Go.Sx Go.RowKit

theorem eq_nilD {P : Program} {t : TypeId} {m : Array (String × TypeId)} (ht : P.underlying t = some (.interface m)) {v : Value} (hv : isErr v) {cx : Bool} {w : World} {K : Value → World → Prop} (hk : ∀ b : Bool, (b = true ↔ v = .nilIface) → K (.bool b) w) : Run P (.eq .eql t cx true v .nilIface) w K := by
  have hb : ∀ x : Value, ∀ r : Bool, (Op.equal t x .nilIface).run P w = .ok r w → (eqGuard .eql t (opd cx) (opd true) x .nilIface).run P w = .ok () w → binOp .eql t x .nilIface = (do pure (.bool (← Op.equal t x .nilIface))) → (MC.sem (.eq .eql t cx true x .nilIface)).run P w = .ok (.bool r) w := fun x r h1 h2 h3 => by
    show (do eqGuard .eql t (opd cx) (opd true) x .nilIface; binOp .eql t x .nilIface : Sem Value).run P w = _
    rw [Sem.run_bind, h2, Result.andThen_ok, h3, Sem.run_bind, h1, Result.andThen_ok, Sem.run_pure]
  rcases hv with rfl | ⟨a, b, rfl⟩
  · exact ⟨_, w, hb _ true (equalIn_nil 9999 ht w) (by cases cx <;> rfl) rfl, hk true (by simp)⟩
  · exact ⟨_, w, hb _ false (equalIn_err 9999 ht a b w) (by cases cx <;> rfl) rfl, hk false (by simp)⟩
theorem eq_nilC {P : Program} {t : TypeId} (ht : isIfc P t = true) {v : Value} (hv : isErr v) {cx : Bool} {w : World} {K : Value → World → Prop} (hk : ∀ b : Bool, (b = true ↔ v = .nilIface) → K (.bool b) w) : Run P (.eq .eql t cx true v .nilIface) w K := by
  unfold isIfc at ht
  split at ht
  · rename_i m h; exact eq_nilD h hv hk
  · cases ht

theorem nod_pos (t : AT) : 1 ≤ nod t := by cases t; simp [nod]
theorem ask_k : ∀ n, AskC n := by
  intro n
  induction n with
  | zero =>
    intro W0 w B rb left l hn g h0 hrb o hl
    obtain rfl : left = 0 := by omega
    obtain ⟨_, g1⟩ := o.cells
    refine ok_ask_reader_ask _ w _ fun b0 hb0 => ⟨by simp, by simp, _, g1, fun _ w2 h2 => ⟨zeroA, none, 0, false, rfl, l, 0, ⟨fr_ext h2, Own.ext o h2, Nat.le_refl _, Nat.le_refl _, fun h => (by cases h)⟩, fun t0 rest h1 h3 => absurd (nod_pos t0) (by omega)⟩, fun h => absurd rfl h⟩
  | succ n ih =>
    intro W0 w B rb left l hn g h0 hrb o hl
    obtain ⟨_, g1⟩ := o.cells
    have hlt := o.lt
    refine ok_ask_reader_ask _ w _ fun b0 hb0 => ⟨by simp, by simp, _, g1, fun hz w2 h2 => ?_, fun hne => ⟨by simp, by simp, _, g1, i64 (by omega), by simp, by simp, ?_⟩⟩
    · obtain rfl : left = 0 := by omega
      exact ⟨zeroA, none, 0, false, rfl, l, 0, ⟨fr_ext h2, Own.ext o h2, Nat.le_refl _, Nat.le_refl _, fun h => (by cases h)⟩, fun t0 rest h1 h3 => absurd (nod_pos t0) (by omega)⟩
    have hb0r : b0 ≠ rb := by omega
    refine o.left hb0r (m := left - 1) (by omega) fun w3 o3 f3 w4 x4 => ?_
    have h4 := extB_ext x4
    have hk : ∀ (w' w'' : World), b0 < w'.heap.size → Fr (· = rb) w' w'' → Kept [b0] w' w'' := fun w' w'' hb f => kept_of f (by intro b hb'; simp at hb'; subst hb'; exact ⟨hb, hb0r⟩)
    have f4 : Fr (· = rb) w w4 := f3.tr (fr_ext h4)
    -- a refusal
    have no : ∀ (w' w'' : World) (l' : List UInt8), Fr (· = rb) w w' → RD B w' rb l' (left - 1) → l'.length ≤ l.length → ExtB [b0] [] w' w'' → (∀ t0 rest, errA t0 = 0 → nod t0 ≤ left → l = txt t0 ++ rest → sep rest → asc l → False) →
        AskPost B rb l left w zeroA none 0 false w'' := fun w' w'' l' f o' hl' x hno =>
      ⟨l', left - 1, ⟨fr_b f hb0 x, RD.b o' hb0r x, hl', by omega, fun h => (by cases h)⟩, fun t0 rest h1 h2 h3 h5 h6 => (hno t0 rest h1 h2 h3 h5 h6).elim⟩
    refine (take_k (Own.ext o3 h4) hl 63 63 rfl).mono fun v w5 ⟨f5, hor⟩ => ⟨hk _ _ (x4.lt _ (by simp)) f5, ?_⟩
    have F5 := f4.tr f5
    have sz5 := f5.size
    have hb4 : b0 < w4.heap.size := x4.lt _ (by simp)
    rcases hor with ⟨r, hr, hv, o5⟩ | ⟨hr, hv, o5⟩
    · -- a key that is there
      refine ⟨true, hv, fun _ w7 x7 => ?_, fun h => (by cases h)⟩
      have h7 := extB_ext x7
      have hrl : r.length ≤ 2000 := by rw [hr] at hl; simp at hl; omega
      refine (word_k (Own.ext o5 h7) hrl).mono fun v w8 ⟨f8, a, b, hv, hab, o8, hC⟩ => ⟨hk _ _ (x7.lt _ (by simp)) f8, _, hv, fun w10 x10 => ?_⟩
      have hla : a.length + b.length = r.length := by rw [hab]; simp
      refine ⟨.mk 1 (ofL a) (ofL []) 0 [], none, 0, true, rfl, b, left - 1, ⟨fr_b ((F5.tr (fr_ext h7)).tr f8) hb0 x10, RD.b o8 hb0r x10, by rw [hr]; simp; omega, by omega, fun _ => ⟨wf_leaf (by omega) (by omega) (by simp) (i64 (by omega)), by rw [nod1]; omega, fun S hS w'' _ => isT_leaf⟩⟩, fun t0 rest he hnod hl0 hsep hasc => ?_⟩
      rw [hr] at hl0 hasc
      rcases txt_inv he with ⟨key, rfl, hkey, ht⟩ | ⟨key, val, rfl, hkey, hval, ht⟩ | ⟨key, m, rfl, hkey, _, _, ht⟩ | ⟨x, rfl, hx, ht, _⟩ | ⟨k, x, y, hk', rfl, hx, hy, ht, _⟩
      · rw [ht] at hl0
        simp only [List.cons_append, List.cons.injEq, true_and] at hl0
        obtain ⟨rfl, rfl⟩ := hC _ _ hl0 (asc_cons hasc) (lb_sgs hkey) hsep
        refine ⟨rfl, ?_, rfl⟩
        rw [ofL_of]; rfl
      · rw [ht, List.append_assoc] at hl0
        exact absurd hl0.symm (head_no (lb_ne hkey) (lb_sgs hkey) (by decide))
      · rw [ht, List.append_assoc] at hl0
        exact absurd hl0.symm (head_no (un_ne hkey) (un_sgs hkey) (by decide))
      · rw [ht] at hl0; simp at hl0
      · rw [ht] at hl0; simp at hl0
    refine ⟨false, hv, fun h => (by cases h), fun _ w7 x7 => ?_⟩
    have h7 := extB_ext x7
    refine (take_k (Own.ext o5 h7) hl 33 33 rfl).mono fun v w8 ⟨f8, hor⟩ => ⟨hk _ _ (x7.lt _ (by simp)) f8, ?_⟩
    have F8 := (F5.tr (fr_ext h7)).tr f8
    have ext8 : Ext W0 w8 := F8.ext h0 (by intro b hb; omega)
    have hb7 : b0 < w7.heap.size := x7.lt _ (by simp)
    have sz8 := f8.size
    rcases hor with ⟨r, hr2, hv, o8⟩ | ⟨hr2, hv, o8⟩
    · -- what is not
      refine ⟨true, hv, fun _ w10 x10 => ?_, fun h => (by cases h)⟩
      have h10 := extB_ext x10
      have hrl : r.length + 1 = l.length := by rw [hr2]; simp
      refine (ih W0 w10 B rb (left - 1) r (by omega) g (ext8.trans h10) hrb (Own.ext o8 h10) (by omega)).mono fun v w11 ⟨y, py, cy, ok2, hv, l2, left2, P2, C2⟩ => ⟨hk _ _ (x10.lt _ (by simp)) P2.fr, y.k, y.key, y.val, y.n, py, y.xs.length, cy, ok2, hv, fun b20 hb20 w21 x21 => ?_⟩
      have h21 := extB_ext x21
      have hlen2 := P2.len
      have hle2 := P2.le
      refine run_lit elem_sl_Ask [av y py cy] rfl rfl (by intro v hv; simp at hv; subst hv; rfl) (by omega) (by omega) fun w22 o22 e22 => ⟨e22, _, _, _, rfl, fun w26 x26 => ?_⟩
      have F22 : Fr (· = rb) w w22 := ((F8.tr (fr_ext h10)).tr P2.fr).tr (fr_ext (h21.trans e22))
      refine ⟨.mk 4 emS emS 0 [y], some ⟨w21.heap.size, 0, none⟩, 1, ok2, rfl, l2, left2, ⟨fr_b F22 hb0 x26, RD.b (Own.ext (Own.ext P2.rd h21) e22) hb0r x26, by omega, by omega, fun hok => ?_⟩, fun t0 rest he hnod hl0 hsep hasc => ?_⟩
      · obtain ⟨hWy, hny, hTy⟩ := P2.good hok
        refine ⟨opA_wf (by omega) (by simp) (by intro z hz; simp at hz; subst hz; exact hWy), by simp only [nod, nodL]; omega, fun S hS w'' fw => ?_⟩
        have fb : Fr (fun b => S b ∨ b = b0) w22 w'' := (fr_extB x26 (by intro d hd; simp at hd; exact .inl (.inr hd))).tr (fw.mono fun b hb => .inl hb)
        have bnd : ∀ b, (S b ∨ b = b0) → b < w10.heap.size := by
          intro b hb
          have := x10.lt b0 (by simp)
          have s1 := F8.size
          have s2 := h10.size
          rcases hb with hb | rfl
          · have := hS b hb; omega
          · exact this
        have ty : IsT w'' y py cy := hTy _ bnd w'' ((fr_ext (h21.trans e22)).tr fb)
        have sA := P2.fr.size
        have sB := h21.size
        unfold IsT
        refine ⟨by simp, isL_lit (l := [(y, py, cy)]) (fun j u hu => ?_) (by intro z hz; simp at hz; subst hz; exact ty)⟩
        have hcell : Go.Sx.cell w22 (some ⟨w21.heap.size, 0, none⟩) j = some u := (o22 0 (Nat.zero_le _)).cells j u (by simpa [Value.cells, encA, AT.k, AT.key, AT.val, AT.n, AT.xs] using hu)
        have := cell_fr hcell fb (fun a ha hb => by obtain rfl := Option.some.inj ha; have := bnd _ hb; simp only [] at this; omega)
        simpa using this
      · rw [hr2] at hl0 hasc
        rcases txt_inv he with ⟨key, rfl, hkey, ht⟩ | ⟨key, val, rfl, hkey, hval, ht⟩ | ⟨key, m, rfl, hkey, _, _, ht⟩ | ⟨x, rfl, hx, ht, hnx⟩ | ⟨k, x, y', hk', rfl, hx, hy, ht, _⟩
        · rw [ht] at hl0; simp at hl0
        · rw [ht, List.append_assoc] at hl0
          exact absurd hl0.symm (head_no (lb_ne hkey) (lb_sgs hkey) (by decide))
        · rw [ht, List.append_assoc] at hl0
          exact absurd hl0.symm (head_no (un_ne hkey) (un_sgs hkey) (by decide))
        · rw [ht] at hl0
          simp only [List.cons_append, List.cons.injEq, true_and] at hl0
          obtain ⟨h1, rfl, h3⟩ := C2 x rest hx (by omega) hl0 hsep (asc_cons hasc)
          exact ⟨h1, rfl, h3⟩
        · rw [ht] at hl0; simp at hl0
    refine ⟨false, hv, fun h => (by cases h), fun _ w10 x10 => ?_⟩
    have h10 := extB_ext x10
    refine (take_k (Own.ext o8 h10) hl 40 40 rfl).mono fun v w11 ⟨f11, hor⟩ => ⟨hk _ _ (x10.lt _ (by simp)) f11, ?_⟩
    have F11 := (F8.tr (fr_ext h10)).tr f11
    have ext11 : Ext W0 w11 := F11.ext h0 (by intro b hb; omega)
    have sz11 := f11.size
    have hb10 : b0 < w10.heap.size := x10.lt _ (by simp)
    rcases hor with ⟨r, hr3, hv, o11⟩ | ⟨hr3, hv, o11⟩
    · -- two of them
      refine ⟨true, hv, fun _ w13 x13 => ?_, fun h => (by cases h)⟩
      have h13 := extB_ext x13
      have hrl : r.length + 1 = l.length := by rw [hr3]; simp
      refine (two_k n ih W0 w13 B rb (left - 1) r (by omega) g (ext11.trans h13) hrb (Own.ext o11 h13) (by omega)).mono fun v w14 ⟨y, py, cy, ok2, hv, l2, left2, P2, C2⟩ => ⟨hk _ _ (x13.lt _ (by simp)) P2.fr, y.k, y.key, y.val, y.n, py, y.xs.length, cy, ok2, hv, fun w23 x23 => ?_⟩
      have hlen2 := P2.len
      have hle2 := P2.le
      have F14 := (F11.tr (fr_ext h13)).tr P2.fr
      refine ⟨y, py, cy, ok2, rfl, l2, left2, ⟨fr_b F14 hb0 x23, RD.b P2.rd hb0r x23, by omega, by omega, fun hok => ?_⟩, fun t0 rest he hnod hl0 hsep hasc => ?_⟩
      · obtain ⟨hWy, hny, hTy⟩ := P2.good hok
        refine ⟨hWy, by omega, fun S hS w'' fw => ?_⟩
        refine hTy (fun b => S b ∨ b = b0) (fun b hb => ?_) w'' ((fr_extB x23 (by intro d hd; simp at hd; exact .inl (.inr hd))).tr (fw.mono fun b hb => .inl hb))
        have := x13.lt b0 (by simp)
        have s1 := F11.size
        have s2 := h13.size
        rcases hb with hb | rfl
        · have := hS b hb; omega
        · exact this
      · rw [hr3] at hl0 hasc
        rcases txt_inv he with ⟨key, rfl, hkey, ht⟩ | ⟨key, val, rfl, hkey, hval, ht⟩ | ⟨key, m, rfl, hkey, _, _, ht⟩ | ⟨x, rfl, hx, ht, hnx⟩ | ⟨k, x, y', hk', rfl, hx, hy, ht, hnx⟩
        · rw [ht] at hl0; simp at hl0
        · rw [ht, List.append_assoc] at hl0
          exact absurd hl0.symm (head_no (lb_ne hkey) (lb_sgs hkey) (by decide))
        · rw [ht, List.append_assoc] at hl0
          exact absurd hl0.symm (head_no (un_ne hkey) (un_sgs hkey) (by decide))
        · rw [ht] at hl0; simp at hl0
        · rw [ht] at hl0
          simp only [List.cons_append, List.cons.injEq, true_and, List.append_assoc, List.nil_append] at hl0
          exact C2 k x y' rest hk' hx hy (by omega) hl0 (asc_cons hasc)
    refine ⟨false, hv, fun h => (by cases h), fun _ w13 x13 => ?_⟩
    have h13 := extB_ext x13
    -- an atom with a key ahead
    have inv : ∀ t0 rest, errA t0 = 0 → l = txt t0 ++ rest → (∃ key val, t0 = .mk 2 key val 0 [] ∧ lbB key = true ∧ lbB val = true ∧ l = key.data.toList ++ 61 :: (val.data.toList ++ rest)) ∨ (∃ key m, t0 = .mk 3 key emS m [] ∧ unB key = true ∧ 0 ≤ m ∧ m ≤ 1099511627776 ∧ l = key.data.toList ++ 62 :: 61 :: (Lib.itoa m ++ rest)) := fun t0 rest he hl0 => by
      rcases txt_inv he with ⟨key, rfl, hkey, ht⟩ | ⟨key, val, rfl, hkey, hval, ht⟩ | ⟨key, m, rfl, hkey, hm1, hm2, ht⟩ | ⟨x, rfl, hx, ht, hnx⟩ | ⟨k, x, y', hk', rfl, hx, hy, ht, hnx⟩
      · rw [ht] at hl0; exact absurd hl0 (hr _)
      · exact .inl ⟨key, val, rfl, hkey, hval, by rw [hl0, ht]; simp⟩
      · exact .inr ⟨key, m, rfl, hkey, hm1, hm2, by rw [hl0, ht]; simp⟩
      · rw [ht] at hl0; exact absurd hl0 (hr2 _)
      · rw [ht] at hl0; exact absurd hl0 (hr3 _)
    refine (word_k (Own.ext o11 h13) hl).mono fun v w14 ⟨f14, a, b, hv, hab, o14, hC⟩ => ⟨hk _ _ (x13.lt _ (by simp)) f14, _, hv, fun w16 x16 => ?_⟩
    have hla : a.length + b.length = l.length := by rw [hab]; simp
    have h16 := extB_ext x16
    have F14 := (F11.tr (fr_ext h13)).tr f14
    refine (take_k (Own.ext o14 h16) (by omega) 62 62 rfl).mono fun v w17 ⟨f17, hor⟩ => ⟨hk _ _ (x16.lt _ (by simp)) f17, ?_⟩
    have F17 := (F14.tr (fr_ext h16)).tr f17
    rcases hor with ⟨r, hr4, hv, o17⟩ | ⟨hr4, hv, o17⟩
    · refine ⟨true, hv, fun _ w19 x19 => ?_, fun h => (by cases h)⟩
      have h19 := extB_ext x19
      have hlr : r.length + 1 = b.length := by rw [hr4]; simp
      -- no value that is equal
      have inv3 : ∀ t0 rest, errA t0 = 0 → l = txt t0 ++ rest → asc l → ∃ m, t0 = .mk 3 (ofL a) emS m [] ∧ 0 ≤ m ∧ m ≤ 1099511627776 ∧ r = 61 :: (Lib.itoa m ++ rest) := fun t0 rest he hl0 hasc => by
        rcases inv t0 rest he hl0 with ⟨key, val, rfl, hkey, hval, h⟩ | ⟨key, m, rfl, hkey, hm1, hm2, h⟩
        · obtain ⟨_, hb⟩ := hC _ _ h hasc (lb_sgs hkey) (sep_cons (by decide))
          rw [hr4] at hb
          simp at hb
        · obtain ⟨ha, hb⟩ := hC _ _ h hasc (un_sgs hkey) (sep_cons (by decide))
          rw [hr4] at hb
          simp only [List.cons.injEq, true_and] at hb
          exact ⟨m, by rw [ha, ofL_of], hm1, hm2, hb⟩
      refine (take_k (Own.ext o17 h19) (by omega) 61 61 rfl).mono fun v w20 ⟨f20, hor⟩ => ⟨hk _ _ (x19.lt _ (by simp)) f20, ?_⟩
      have F20 := (F17.tr (fr_ext h19)).tr f20
      rcases hor with ⟨r2, hr5, hv, o20⟩ | ⟨hr5, hv, o20⟩
      · refine ⟨true, hv, fun h => (by cases h), fun _ w22 x22 => ?_⟩
        have h22 := extB_ext x22
        have hlr2 : r2.length + 1 = r.length := by rw [hr5]; simp
        refine (word_k (Own.ext o20 h22) (by omega)).mono fun v w23 ⟨f23, a2, b2, hv, hab2, o23, hC2⟩ => ⟨hk _ _ (x22.lt _ (by simp)) f23, _, hv, fun w25 x25 => ?_⟩
        have h25 := extB_ext x25
        have hla2 : a2.length + b2.length = r2.length := by rw [hab2]; simp
        have F25 := ((F20.tr (fr_ext h22)).tr f23).tr (fr_ext h25)
        have ext25 : Ext W0 w25 := F25.ext h0 (by intro b hb; omega)
        refine (ParseInt_k (ofL a2) (by rw [ofL_size]; omega) w25 (g.ext ext25)).mono fun v w26 ⟨e26, m, ev, hv, hcase⟩ => ⟨e26, m, ev, hv, ?_⟩
        have F26 := F25.tr (fr_ext e26)
        have o26 := Own.ext (Own.ext o23 h25) e26
        refine ⟨fun ok kk key val nn q ql qc w' => (kk = 3 ∧ key = ofL a ∧ val = (⟨#[]⟩ : ByteArray) ∧ nn = m ∧ q = none ∧ ql = 0 ∧ qc = 0) ∧ w' = w26 ∧ (ok = true ↔ ev = .nilIface), ⟨fun w37 h37 => ?_, fun w37 x37 => ?_⟩, ?_⟩
        · exact eq_nilC (by kernel_rfl) (hcase.elim (fun h => .inl h.1) fun h => .inr h.1) fun t ht => ⟨Ext.refl _, t, rfl, ⟨rfl, rfl, rfl, rfl, rfl, rfl, rfl⟩, rfl, ht⟩
        · exact eq_nilC (by kernel_rfl) (hcase.elim (fun h => .inl h.1) fun h => .inr h.1) fun t ht => ⟨Ext.refl _, t, rfl, ⟨rfl, rfl, rfl, rfl, rfl, rfl, rfl⟩, rfl, ht⟩
        · rintro ok kk key val nn q ql qc w36 ⟨⟨rfl, rfl, rfl, rfl, rfl, rfl, rfl⟩, rfl, hok⟩ w37 x37
          refine ⟨.mk 3 (ofL a) (ofL []) nn [], none, 0, ok, rfl, b2, left - 1, ⟨fr_b F26 hb0 x37, RD.b o26 hb0r x37, by omega, by omega, fun h => ⟨wf_leaf (by omega) (by omega) (by simp) ?_, by rw [nod1]; omega, fun S hS w'' _ => isT_leaf⟩⟩, fun t0 rest he hnod hl0 hsep hasc => ?_⟩
          · rcases hcase with ⟨_, hp⟩ | ⟨⟨x, y, he⟩, _⟩
            · exact parse_rng hp
            · rw [hok.1 h] at he; cases he
          · obtain ⟨m', rfl, hm1, hm2, hr6⟩ := inv3 t0 rest he hl0 hasc
            rw [hr5] at hr6
            simp only [List.cons.injEq, true_and] at hr6
            have hasc2 : asc r2 := by
              rw [hab, hr4, hr5] at hasc
              exact asc_cons (asc_cons (asc_tail hasc))
            obtain ⟨rfl, rfl⟩ := hC2 _ _ hr6 hasc2 (itoa_sgs hm1) hsep
            have hp := parse_itoa ⟨hm1, hm2⟩
            rcases hcase with ⟨h1, hp'⟩ | ⟨_, hp'⟩
            · rw [ofL_list, hp] at hp'
              cases hp'
              exact ⟨hok.2 h1, rfl, rfl⟩
            · rw [ofL_list] at hp'
              exact absurd hp (hp' _)
      · refine ⟨false, hv, fun _ w22 x22 => ?_, fun h => (by cases h)⟩
        refine ⟨zeroA, none, 0, false, rfl, no w20 w22 r F20 o20 (by omega) x22 fun t0 rest he hnod hl0 hsep hasc => ?_⟩
        obtain ⟨m, _, _, _, h⟩ := inv3 t0 rest he hl0 hasc
        exact hr5 _ h
    · refine ⟨false, hv, fun h => (by cases h), fun _ w19 x19 => ?_⟩
      have h19 := extB_ext x19
      have inv2 : ∀ t0 rest, errA t0 = 0 → l = txt t0 ++ rest → asc l → ∃ val, t0 = .mk 2 (ofL a) val 0 [] ∧ lbB val = true ∧ b = 61 :: (val.data.toList ++ rest) := fun t0 rest he hl0 hasc => by
        rcases inv t0 rest he hl0 with ⟨key, val, rfl, hkey, hval, h⟩ | ⟨key, m, rfl, hkey, hm1, hm2, h⟩
        · obtain ⟨ha, hb⟩ := hC _ _ h hasc (lb_sgs hkey) (sep_cons (by decide))
          exact ⟨val, by rw [ha, ofL_of], hval, hb⟩
        · obtain ⟨_, hb⟩ := hC _ _ h hasc (un_sgs hkey) (sep_cons (by decide))
          exact absurd hb (hr4 _)
      refine (take_k (Own.ext o17 h19) (by omega) 61 61 rfl).mono fun v w20 ⟨f20, hor⟩ => ⟨hk _ _ (x19.lt _ (by simp)) f20, ?_⟩
      have F20 := (F17.tr (fr_ext h19)).tr f20
      rcases hor with ⟨r2, hr5, hv, o20⟩ | ⟨hr5, hv, o20⟩
      · refine ⟨true, hv, fun h => (by cases h), fun _ w22 x22 => ?_⟩
        have h22 := extB_ext x22
        have hlr2 : r2.length + 1 = b.length := by rw [hr5]; simp
        refine (word_k (Own.ext o20 h22) (by omega)).mono fun v w23 ⟨f23, a2, b2, hv, hab2, o23, hC2⟩ => ⟨hk _ _ (x22.lt _ (by simp)) f23, _, hv, fun w25 x25 => ?_⟩
        have hla2 : a2.length + b2.length = r2.length := by rw [hab2]; simp
        refine ⟨.mk 2 (ofL a) (ofL a2) 0 [], none, 0, true, rfl, b2, left - 1, ⟨fr_b ((F20.tr (fr_ext h22)).tr f23) hb0 x25, RD.b o23 hb0r x25, by omega, by omega, fun _ => ⟨wf_leaf (by omega) (by omega) (by omega) (i64 (by omega)), by rw [nod1]; omega, fun S hS w'' _ => isT_leaf⟩⟩, fun t0 rest he hnod hl0 hsep hasc => ?_⟩
        obtain ⟨val, rfl, hval, hb⟩ := inv2 t0 rest he hl0 hasc
        rw [hr5] at hb
        simp only [List.cons.injEq, true_and] at hb
        have hasc2 : asc r2 := by
          rw [hab, hr5] at hasc
          exact asc_cons (asc_tail hasc)
        obtain ⟨rfl, rfl⟩ := hC2 _ _ hb hasc2 (lb_sgs hval) hsep
        exact ⟨rfl, by rw [ofL_of], rfl⟩
      · refine ⟨false, hv, fun _ w22 x22 => ?_, fun h => (by cases h)⟩
        refine ⟨zeroA, none, 0, false, rfl, no w20 w22 b F20 o20 (by omega) x22 fun t0 rest he hnod hl0 hsep hasc => ?_⟩
        obtain ⟨val, _, _, h⟩ := inv2 t0 rest he hl0 hasc
        exact hr5 _ h
end Go.Proofs.YtenppnomdejmlaaGreatDoor
