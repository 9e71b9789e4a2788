/- The executor's theorem: whole code, and whole functions. -/
import Derived.Test.YtblgmhmjafgdgaaSxV
set_option linter.unusedVariables false
set_option linter.unusedSimpArgs false
namespace Go.Sx
open RowKit
variable {P : Program} {Q : Value → World → Prop}

def toExit : Ex → Exit
  | .normal => .normal
  | .exit id => .exit id
  | .ret => .ret

theorem keys_spreadS : ∀ (sl : List (Nat × Bool × Nat)) (cs : List (Sc (sem P Q))), keysOf (spreadS sl cs).1 = keysOf sl
  | [], cs => rfl
  | (i, agg, n) :: r, cs => by
    have ih := keys_spreadS r (dropCells n cs)
    cases agg <;> cases cs <;> simp only [spreadS, keysOf, List.map_cons] at ih ⊢ <;> rw [← ih]

theorem least {p : Nat → Prop} (h : ∃ n, p n) : ∃ n, p n ∧ ∀ k, p k → n ≤ k := by
  obtain ⟨n, hn⟩ := h
  induction n using Nat.strongRecOn with
  | _ n ih =>
    by_cases hl : ∃ k, k < n ∧ p k
    · obtain ⟨k, hk, hp⟩ := hl; exact ih k hk hp
    · exact ⟨n, hn, fun k hk => Nat.le_of_not_lt fun hlt => hl ⟨k, hlt, hk⟩⟩

noncomputable def leastOf (p : Nat → Prop) : Nat := by
  classical exact if h : ∃ n, p n then Classical.choose (least h) else 0

theorem leastOf_spec {p : Nat → Prop} (h : ∃ n, p n) : p (leastOf p) ∧ ∀ k, p k → leastOf p ≤ k := by
  have : leastOf p = Classical.choose (least h) := by unfold leastOf; simp [h]
  rw [this]; exact Classical.choose_spec (least h)

section
variable {cfg : Cfg} {ro : Ro (sem P Q)} {st st' : St (sem P Q)} {a a' : Act} {w w' : World}

theorem gatherB_has : ∀ {bl : List (Nat × Nat)} {l : List (Sc (sem P Q))}, gatherB ro st bl = some l → ∀ j n, (j, n) ∈ bl → ∃ b, ro.blk st j = some b
  | [], l, _, j, n, h => by cases h
  | (i, m) :: r, l, h, j, n, hm => by
    unfold gatherB at h
    split at h
    · rename_i b2 l' hb2 hr
      rcases List.mem_cons.1 hm with hm | hm
      · obtain ⟨rfl, rfl⟩ := Prod.mk.inj hm; exact ⟨b2, hb2⟩
      · exact gatherB_has hr j n hm
    · cases h

theorem exit_blk (hw : RelW ro st w) (j : Nat) : ro.blk (loopExit st st') j = (loopRo cfg ro st).blk st' j := by
  unfold Ro.blk
  rw [look_loopRo_bl hw]
  unfold loopExit
  simp only [look_append, look_filter (fun i => !memN (keysOf st'.bl) i)]
  cases hl : look st'.bl j with
  | some b => rfl
  | none =>
    have : memN (keysOf st'.bl) j = false := by
      cases hm : memN (keysOf st'.bl) j
      · rfl
      · exact absurd ((memN_iff _ _).1 hm) (look_none.1 hl)
    simp only [this, Bool.not_false, if_true]
    unfold Ro.blk
    split <;> rfl

theorem exit_get {i : Nat} {e : Ent (sem P Q)} (hc0 : RelC cfg ro st a) (h : ro.get (loopExit st st') i = some e) :
    (loopRo cfg ro st).get st' i = some e ∨ (¬ i < cfg.N ∧ ro.get st i = some e) := by
  have hcase : look st'.ov i = some (some e) ∨ (look st'.ov i = none ∧ ro.get st i = some e) := by
    unfold Ro.get loopExit at h
    simp only [look_append, look_filter (fun i => !memN (keysOf st'.ov) i)] at h
    cases hl : look st'.ov i with
    | some x => rw [hl] at h; simp only at h; exact .inl (by rw [h])
    | none =>
      rw [hl] at h
      have : memN (keysOf st'.ov) i = false := by
        cases hm : memN (keysOf st'.ov) i
        · rfl
        · exact absurd ((memN_iff _ _).1 hm) (look_none.1 hl)
      simp only [this, Bool.not_false, if_true] at h
      refine .inr ⟨rfl, ?_⟩
      unfold Ro.get
      exact h
  rcases hcase with hl | ⟨hl, hg⟩
  · refine .inl ?_
    unfold Ro.get; rw [hl]
  · by_cases hi : i < cfg.N
    · refine .inl ?_
      unfold Ro.get; rw [hl]
      obtain ⟨v, key⟩ := e
      have hk := (hc0.fr i _ hg).1
      simp only at hk
      subst hk
      simp only
      rw [look_loopRo_sl.2 ⟨hi, hg⟩]; rfl
    · exact .inr ⟨hi, hg⟩

theorem out_undef {i : Nat} (hs : a.tmps.size = cfg.N) (hi : ¬ i < cfg.N) : a.tmps.getD i undef = undef := by
  unfold Array.getD; rw [dif_neg (by omega)]

theorem exit_ok (hc0 : RelC cfg ro st a) (hs0 : SlAll ro st) (hw0 : RelW ro st w) (hc : RelC cfg (loopRo cfg ro st) st' a') (hs : SlAll (loopRo cfg ro st) st') (hw : RelW (loopRo cfg ro st) st' w') :
    RelC cfg ro (loopExit st st') a' ∧ SlAll ro (loopExit st st') ∧ RelW ro (loopExit st st') w' := by
  have hb : ∀ j, ro.blk (loopExit st st') j = (loopRo cfg ro st).blk st' j := exit_blk hw0
  refine ⟨⟨hc.size, hc.defers, fun i e he => ?_⟩, fun i e he => ?_, ?_⟩
  · rcases exit_get hc0 he with h | ⟨hi, h⟩
    · exact hc.fr i e h
    · obtain ⟨h1, h2⟩ := hc0.fr i e h
      refine ⟨h1, ?_⟩
      rw [← h2, out_undef hc.size hi, out_undef hc0.size hi]
  · have key : ∀ u, SlOk (loopRo cfg ro st) st' u → SlOk ro (loopExit st st') u := by
      intro u hu
      cases u with
      | one v =>
        cases v with
        | agg l => exact hu
        | sc x =>
          cases x with
          | loc j n off => exact ⟨hu.1, fun b hbb => hu.2 b (by rw [← hb]; exact hbb)⟩
          | _ => trivial
      | tup l => exact hu
      | undef => trivial
    rcases exit_get hc0 he with h | ⟨hi, h⟩
    · exact key _ (hs i e h)
    · obtain ⟨h1, h2⟩ := hc0.fr i e h
      rw [out_undef hc0.size hi] at h2
      have h3 := hs0 i e h
      revert h2 h3
      generalize e.1 = u
      intro h2 h3
      cases u with
      | one v =>
        cases v with
        | agg l => exact h3
        | sc x =>
          cases x with
          | loc j n off => exact absurd h2 (by simp [SL.toV, SV.toV, Sc.toV, undef])
          | _ => trivial
      | tup l => exact h3
      | undef => trivial
  · have hdn : ro.dn (loopExit st st') = (loopRo cfg ro st).dn st' := by
      unfold Ro.dn
      have : (loopExit st st').dirty = st'.dirty := rfl
      rw [this]; congr 1; funext j; rw [hb]
    refine ⟨by rw [hdn]; exact hw.but, fun j b h => hw.bk j b (by rw [← hb]; exact h), fun j b h => hw.lt j b (by rw [← hb]; exact h),
      fun i j b c h1 h2 => hw.ord i j b c (by rw [← hb]; exact h1) (by rw [← hb]; exact h2), fun j b h => hw.ax j b (by rw [← hb]; exact h), fun j b h => hw.nol j b (by rw [← hb]; exact h), fun j b b0 h0 h => ?_⟩
    have h1 : ∃ b1, ro.blk st j = some b1 := by
      unfold Ro.blk
      cases hl : look st.bl j with
      | some x => exact ⟨x, rfl⟩
      | none => exact ⟨b0, h0⟩
    obtain ⟨b1, h1⟩ := h1
    obtain ⟨e1, e2⟩ := hw0.same j b1 b0 h0 h1
    obtain ⟨e3, e4⟩ := hw.same j b b1 (by rw [look_loopRo_bl hw0]; exact h1) (by rw [← hb]; exact h)
    exact ⟨by rw [e3, e1], by rw [e4, e2]⟩

/-- The end of a round. -/
theorem back_ok {hv : Hv} {body : Code} {cs : List (Sc (sem P Q))} {wa : World} {shs : List Sh} {vs : List At} (hc0 : RelC cfg ro st a) (hs0 : SlAll ro st) (hw0 : RelW ro st w) (hex : ∀ j n, (j, n) ∈ hv.blocks → ∃ b, ro.blk st j = some b)
    (h : loopBack hv st (loopHead ro st hv body cs wa) shs (loopRo cfg ro st) st' = some vs)
    (hc : RelC cfg (loopRo cfg ro st) st' a') (hs : SlAll (loopRo cfg ro st) st') (hw : RelW (loopRo cfg ro st) st' w') :
    ∃ cs', Fits shs vs ∧ ofAtoms shs vs = some cs' ∧ HeadOk cfg ro st hv body cs' st'.anchor a' w' := by
  unfold loopBack at h
  simp only [Option.bind_eq_some_iff, cond_eq_ite] at h
  obtain ⟨l, hl, al, hal, h⟩ := h
  split at h
  · rename_i hchk
    obtain rfl := Option.some.inj h
    simp only [Bool.and_eq_true, List.all_eq_true, Bool.or_eq_true] at hchk
    obtain ⟨⟨⟨k1, k2⟩, k3⟩, k4⟩ := hchk
    have k1 := shEqs_eq k1
    subst k1
    obtain ⟨cs', e1, e2, e3, e4⟩ := atoms_of hal
    have hkeys : ∀ cs₂ wa₂, keysOf (loopHead ro st hv body cs₂ wa₂).ov = keysOf (loopHead ro st hv body cs wa).ov := by
      intro cs₂ wa₂
      have : ∀ c, keysOf (spreadS hv.slots c).1 = keysOf hv.slots := keys_spreadS (P := P) (Q := Q) hv.slots
      unfold loopHead loopOv
      simp only [keysOf, List.map_append] at this ⊢
      rw [this, this]
    have hnot : ∀ j, j < st.nx → j ∉ keysOf hv.blocks → look st'.bl j = none := by
      intro j hj hn
      rw [look_none]
      intro hm
      simp only [keysOf, List.mem_map] at hm
      obtain ⟨x, hx, rfl⟩ := hm
      rcases k2 x hx with h | h
      · exact absurd (Nat.le_of_ble_eq_true h) (by omega)
      · exact hn ((memN_iff _ _).1 h)
    refine ⟨cs', e4, e1, headOk (ro2 := loopRo cfg ro st) (st2 := st') hw0 hs0 hl e2 e3 hc hw ?_ hex ?_ ?_ hw.but ?_ ?_⟩
    · intro i v hi hg hN
      rw [hkeys] at hi
      have hn : look st'.ov i = none := by
        rw [look_none]
        intro hm
        simp only [keysOf, List.mem_map] at hm
        obtain ⟨x, hx, rfl⟩ := hm
        exact hi ((memN_iff _ _).1 (k3 x hx))
      exact (hc.fr i (v, none) (by unfold Ro.get; rw [hn]; simp only; rw [look_loopRo_sl.2 ⟨hN, hg⟩]; rfl)).2
    · intro j b b2 h1 h2
      exact hw.same j b2 b (by rw [look_loopRo_bl hw0]; exact h1) h2
    · intro j b hj hb
      unfold Ro.blk
      rw [hnot j (hw0.lt j b hb) hj]
      simp only
      rw [look_loopRo_bl hw0]; exact hb
    · intro j hj
      exact (memN_iff _ _).1 (k4 j hj).1
    · intro j b2 hj hb2
      have hlt : j < st.nx := by have := (k4 j hj).2; simp [Nat.blt] at this; omega
      by_cases hk : j ∈ keysOf hv.blocks
      · simp only [keysOf, List.mem_map] at hk
        obtain ⟨x, hx, rfl⟩ := hk
        exact hex x.1 x.2 hx
      · unfold Ro.blk at hb2
        rw [hnot j hlt hk] at hb2
        simp only at hb2
        rw [look_loopRo_bl hw0] at hb2
        exact ⟨b2, hb2⟩
  · cases h

/-- The way in. -/
theorem entry_ok {hv : Hv} {body : Code} {al : List (Sh × At)} (hc : RelC cfg ro st a) (hs : SlAll ro st) (hw : RelW ro st w) (h : (gather ro st hv).bind atomsOf = some al) :
    ∃ cs l0, gather ro st hv = some l0 ∧ Fits (al.map (·.1)) (al.map (·.2)) ∧ ofAtoms (al.map (·.1)) (al.map (·.2)) = some cs ∧ HeadOk cfg ro st hv body cs st.anchor a w := by
  simp only [Option.bind_eq_some_iff] at h
  obtain ⟨l, hl, hal⟩ := h
  obtain ⟨cs, e1, e2, e3, e4⟩ := atoms_of hal
  have hex : ∀ j n, (j, n) ∈ hv.blocks → ∃ b, ro.blk st j = some b := by
    have hg0 := hl
    unfold gather at hg0
    simp only [Option.bind_eq_some_iff, Option.map_eq_some_iff] at hg0
    obtain ⟨ss, _, bs, hbs, _⟩ := hg0
    exact gatherB_has hbs
  refine ⟨cs, l, hl, e4, e1, headOk (ro2 := ro) (st2 := st) hw hs hl e2 e3 hc hw ?_ hex ?_ ?_ hw.but ?_ ?_⟩
  · intro i v _ hg _
    exact (hc.fr i _ hg).2
  · intro j b b2 h1 h2
    rw [h1] at h2; obtain rfl := Option.some.inj h2; exact ⟨rfl, rfl⟩
  · intro j b _ hb; exact hb
  · intro j hj; unfold loopDirty; exact List.mem_append_right _ hj
  · intro j b2 _ hb2; exact ⟨b2, hb2⟩

end

theorem gather_has {ro : Ro (sem P Q)} {st : St (sem P Q)} {hv : Hv} {l0 : List (Sc (sem P Q))} (hg0 : gather ro st hv = some l0) : ∀ j n, (j, n) ∈ hv.blocks → ∃ b, ro.blk st j = some b := by
  unfold gather at hg0
  simp only [Option.bind_eq_some_iff, Option.map_eq_some_iff] at hg0
  obtain ⟨ss, _, bs, hbs, _⟩ := hg0
  exact gatherB_has hbs

theorem fits_len : ∀ {shs : List Sh} {l : List At}, Fits shs l → shs.length = l.length
  | [], [], _ => rfl
  | .int _ :: r, .int _ :: l, h | .bool :: r, .bool _ :: l, h | .str :: r, .str _ :: l, h | .slc :: r, .slc _ _ _ :: l, h | .ptr :: r, .ptr _ :: l, h | .val :: r, .val _ :: l, h => by
    simp only [Fits] at h
    simp [fits_len h]
  | .bool :: _, .int _ :: _, hf | .bool :: _, .str _ :: _, hf | .bool :: _, .slc _ _ _ :: _, hf | .bool :: _, .ptr _ :: _, hf | .bool :: _, .val _ :: _, hf => hf.elim
  | .int _ :: _, .bool _ :: _, hf | .int _ :: _, .str _ :: _, hf | .int _ :: _, .slc _ _ _ :: _, hf | .int _ :: _, .ptr _ :: _, hf | .int _ :: _, .val _ :: _, hf => hf.elim
  | .str :: _, .int _ :: _, hf | .str :: _, .bool _ :: _, hf | .str :: _, .slc _ _ _ :: _, hf | .str :: _, .ptr _ :: _, hf | .str :: _, .val _ :: _, hf => hf.elim
  | .slc :: _, .int _ :: _, hf | .slc :: _, .str _ :: _, hf | .slc :: _, .bool _ :: _, hf | .slc :: _, .ptr _ :: _, hf | .slc :: _, .val _ :: _, hf => hf.elim
  | .ptr :: _, .int _ :: _, hf | .ptr :: _, .str _ :: _, hf | .ptr :: _, .slc _ _ _ :: _, hf | .ptr :: _, .bool _ :: _, hf | .ptr :: _, .val _ :: _, hf => hf.elim
  | .val :: _, .int _ :: _, hf | .val :: _, .str _ :: _, hf | .val :: _, .slc _ _ _ :: _, hf | .val :: _, .ptr _ :: _, hf | .val :: _, .bool _ :: _, hf => hf.elim
  | [], _ :: _, hf => hf.elim
  | .int _ :: _, [], hf | .bool :: _, [], hf | .str :: _, [], hf | .slc :: _, [], hf | .ptr :: _, [], hf | .val :: _, [], hf => hf.elim

theorem appT_len {w : World} : ∀ {shs : List Sh} {I : InvT shs Prop} {l : List At}, appT False shs I l w → shs.length = l.length
  | [], I, [], _ => rfl
  | .int _ :: r, I, .int _ :: l, h => by simp only [appT] at h; simp [appT_len h]
  | .bool :: r, I, .bool _ :: l, h => by simp only [appT] at h; simp [appT_len h]
  | .str :: r, I, .str _ :: l, h => by simp only [appT] at h; simp [appT_len h]
  | .slc :: r, I, .slc _ _ _ :: l, h => by simp only [appT] at h; simp [appT_len h]
  | .ptr :: r, I, .ptr _ :: l, h => by simp only [appT] at h; simp [appT_len h]
  | .val :: r, I, .val _ :: l, h => by simp only [appT] at h; simp [appT_len h]
  | .bool :: _, _, .int _ :: _, hf | .bool :: _, _, .str _ :: _, hf | .bool :: _, _, .slc _ _ _ :: _, hf | .bool :: _, _, .ptr _ :: _, hf | .bool :: _, _, .val _ :: _, hf => hf.elim
  | .int _ :: _, _, .bool _ :: _, hf | .int _ :: _, _, .str _ :: _, hf | .int _ :: _, _, .slc _ _ _ :: _, hf | .int _ :: _, _, .ptr _ :: _, hf | .int _ :: _, _, .val _ :: _, hf => hf.elim
  | .str :: _, _, .int _ :: _, hf | .str :: _, _, .bool _ :: _, hf | .str :: _, _, .slc _ _ _ :: _, hf | .str :: _, _, .ptr _ :: _, hf | .str :: _, _, .val _ :: _, hf => hf.elim
  | .slc :: _, _, .int _ :: _, hf | .slc :: _, _, .str _ :: _, hf | .slc :: _, _, .bool _ :: _, hf | .slc :: _, _, .ptr _ :: _, hf | .slc :: _, _, .val _ :: _, hf => hf.elim
  | .ptr :: _, _, .int _ :: _, hf | .ptr :: _, _, .str _ :: _, hf | .ptr :: _, _, .slc _ _ _ :: _, hf | .ptr :: _, _, .bool _ :: _, hf | .ptr :: _, _, .val _ :: _, hf => hf.elim
  | .val :: _, _, .int _ :: _, hf | .val :: _, _, .str _ :: _, hf | .val :: _, _, .slc _ _ _ :: _, hf | .val :: _, _, .ptr _ :: _, hf | .val :: _, _, .bool _ :: _, hf => hf.elim
  | [], _, _ :: _, hf => hf.elim
  | .int _ :: _, _, [], hf | .bool :: _, _, [], hf | .str :: _, _, [], hf | .slc :: _, _, [], hf | .ptr :: _, _, [], hf | .val :: _, _, [], hf => hf.elim

theorem loop_elim {shs : List (String × Sh)} {init : List At} {w : World} {body : (List At → World → Prop) → List At → World → Prop} (h : (sem P Q).loop shs init w body) :
    ∃ shs' : List Sh, shs' = shs.map (·.2) ∧ ∃ (I : InvT shs' Prop) (M : InvT shs' Nat), appT False shs' I init w ∧
      allT shs' fun vs => ∀ w' : World, appT False shs' I vs w' → body (fun vs' w'' => appT False shs' I vs' w'' ∧ appT 0 shs' M vs' w'' < appT 0 shs' M vs w') vs w' := ⟨_, rfl, h⟩

theorem join_elim {shs : List (String × Sh)} {br : (List At → World → Prop) → Prop} {body : List At → World → Prop} (h : (sem P Q).join shs br body) :
    ∃ shs' : List Sh, shs' = shs.map (·.2) ∧ ∃ (I : InvT shs' Prop), br (fun vs w => appT False shs' I vs w) ∧ allT shs' fun vs => ∀ w' : World, appT False shs' I vs w' → body vs w' := ⟨_, rfl, h⟩

theorem zip_snd {α : Type} {names : List α} {shs l : List Sh} (h : l = (List.zip names shs).map (·.2)) (hl : l.length = shs.length) : l = shs := by
  subst h
  induction shs generalizing names with
  | nil => simp
  | cons s r ih =>
    cases names with
    | nil => simp at hl
    | cons n ns =>
      simp only [List.zip_cons_cons, List.map_cons, List.length_cons, Nat.add_right_cancel_iff] at hl ⊢
      rw [ih hl]

theorem canO_text {ops : Array Oper} {kd : Oper → Kd} {Qx : Exit → Act → World → Prop} : ∀ (l : List Nat) (C : World → Prop) (a : Act) (w : World), CanO P ops kd (Qx .normal) (.chain l) C a → C w → wpOps P ops Qx l a w
  | [], C, a, w, h, hw => h w hw
  | i :: l, C, a, w, h, hw => by
    simp only [DT.chain, CanO] at h
    simp only [wpOps]
    split at h
    · rename_i ho
      simp only [ho]
      exact canO_text l C a w h hw
    · rename_i o ho
      simp only [ho]
      split at h
      · rename_i hwant
        rw [if_pos hwant]
        refine .inl ?_
        rcases h with ⟨v, hv, hc⟩ | ⟨_, h⟩
        · have hg := hv w (.inr hw)
          unfold Gives at hg
          unfold Oper.wp
          rw [hg]
          exact canO_text l C _ w hc hw
        · refine Oper.wp_mono (fun a' w' hk => ?_) (wp_noEx (h w hw))
          obtain ⟨v, _, C', hC', _, hc⟩ := hk
          exact canO_text l C' a' w' hc hC'
      · rename_i hwant
        rw [if_neg hwant]
        exact canO_text l C _ w h hw

theorem drawT_some {cfg : Cfg} {ops : Array Oper} {t : DT} (h : drawT P cfg ops = some t) : P.follows .mixedOrders = true ∧ (∀ (j : Nat) (o : Oper) cs b, ops[j]? = some o → o.op ≠ .select cs b) ∧ (∀ (j : Nat) (o : Oper), ops[j]? = some o → ∀ e ∈ o.after, e.on < ops.size) ∧ okD .any ops (kdD P cfg true) ops.size false t (List.range ops.size) = true := by
  unfold drawT at h
  simp only [cond_eq_ite] at h
  split at h
  · rename_i hc
    obtain rfl := Option.some.inj h
    simp only [Bool.and_eq_true, List.all_eq_true] at hc
    obtain ⟨⟨⟨h1, h2⟩, h3⟩, h4⟩ := hc
    refine ⟨h1, Region.noSelect_spec h2, fun j o ho e he => ?_, h4⟩
    have := h3 o (by have := (Array.getElem?_eq_some_iff.1 ho); obtain ⟨hl, hv⟩ := this; rw [← hv]; simp) e (by simpa using he)
    simp [Nat.blt] at this; omega
  · cases h

theorem lst_range {md : Region.Mode} {ops : Array Oper} : Lst md ops (List.range ops.size) (Array.replicate ops.size false) := by
  refine ⟨by simp, fun k hk => ?_, fun k hk => List.mem_range.1 hk, fun k o ho hn => ?_⟩
  · simp [Array.getD, hk]
  · exact absurd (List.mem_range.2 (Array.getElem?_eq_some_iff.1 ho).1) hn

theorem relW_drawn {ro : Ro (sem P Q)} {st : St (sem P Q)} {w : World} {n : Nat} (hw : RelW ro st w) : RelW ro st { w with drawn := n } :=
  ⟨⟨hw.but.os, hw.but.tape, hw.but.output, hw.but.size, hw.but.block⟩, hw.bk, hw.lt, hw.ord, hw.ax, hw.nol, hw.same⟩

theorem sx_ok {cfg : Cfg} : ∀ (c : Code) (ro : Ro (sem P Q)) (st : St (sem P Q)) (k : Ex → St (sem P Q) → Prop) (Qx : Exit → Act → World → Prop) (a : Act) (w : World), sx (A := sem P Q) P cfg c ro st k → RelC cfg ro st a → SlAll ro st → RelW ro st w →
    (∀ e st' a' w', k e st' → RelC cfg ro st' a' → SlAll ro st' → RelW ro st' w' → Qx (toExit e) a' w') → c.wp P Qx a w := by
  intro c
  induction c with
  | skip => exact fun ro st k Qx a w h hc hs hw hk => wp_skip (hk .normal st a w h hc hs hw)
  | label _ => exact fun ro st k Qx a w h hc hs hw hk => wp_label (hk .normal st a w h hc hs hw)
  | exit id => exact fun ro st k Qx a w h hc hs hw hk => wp_exit (hk (.exit id) st a w h hc hs hw)
  | ret => exact fun ro st k Qx a w h hc hs hw hk => wp_ret (hk .ret st a w h hc hs hw)
  | seq x y ihx ihy =>
    intro ro st k Qx a w h hc hs hw hk
    refine wp_seq (ihx ro st _ _ a w h hc hs hw ?_)
    intro e st' a' w' h' hc' hs' hw'
    cases e with
    | normal => exact ihy ro st' k Qx a' w' h' hc' hs' hw' hk
    | exit id => exact hk (.exit id) st' a' w' h' hc' hs' hw'
    | ret => exact hk .ret st' a' w' h' hc' hs' hw'
  | cond b x y ihx ihy =>
    intro ro st k Qx a w h hc hs hw hk
    unfold sx at h
    split at h
    · rename_i t ht
      have hev : a.eval b = .bool t.den := by
        have := rd_ok (ops := #[]) (cur := none) hc.relF (fun c hc => by cases hc) b _ (sc?_some ht)
        simpa [SL.toV, SV.toV, Sc.toV] using this
      split at h
      · exact wp_cond hev (by simp only [BE.den]; exact ihx ro st k Qx a w h hc hs hw hk)
      · exact wp_cond hev (by simp only [BE.den]; exact ihy ro st k Qx a w h hc hs hw hk)
      · obtain ⟨h1, h2⟩ := h
        refine wp_cond_split hev (fun hd => ?_) (fun hd => ?_)
        · exact ihx ro st k Qx a w (h1 (by rw [prop_iff, hd])) hc hs hw hk
        · exact ihy ro st k Qx a w (h2 (by rw [prop_iff, den_neg, hd]; rfl)) hc hs hw hk
    · exact h.elim
  | block id x ih =>
    intro ro st k Qx a w h hc hs hw hk
    unfold sx at h
    split at h
    · refine wp_block (ih ro st _ _ a w h hc hs hw ?_)
      intro e st' a' w' h' hc' hs' hw'
      cases e with
      | normal => exact hk .normal st' a' w' h' hc' hs' hw'
      | exit i =>
        simp only [blockK, cond_eq_ite] at h'
        simp only [toExit, Exit.inBlock]
        split at h'
        · rename_i hi
          have hi := Nat.eq_of_beq_eq_true hi
          rw [if_pos hi]; exact hk .normal st' a' w' h' hc' hs' hw'
        · rename_i hi
          have hi : ¬ i = id := fun he => hi (by rw [he]; exact Nat.beq_refl _)
          rw [if_neg hi]; exact hk (.exit i) st' a' w' h' hc' hs' hw'
      | ret => exact hk .ret st' a' w' h' hc' hs' hw'
    · rename_i l hl
      simp only [cond_eq_ite] at h
      split at h
      · exact h.elim
      · rename_i hchk
        simp only [Bool.not_eq_true', Bool.not_eq_false, Bool.and_eq_true, List.all_eq_true] at hchk
        generalize hhv : hvBlock (A := sem P Q) P ro st l (opsOf x) = hv at h hchk
        generalize hshs : hvShs (A := sem P Q) P ro st hv (opsOf x).toArray = shs at h
        obtain ⟨shs', hz, I, hbr, hbody⟩ := join_elim (P := P) (Q := Q) (shs := List.zip (hvNames cfg hv) shs)
          (br := fun leave => sx (A := sem P Q) P cfg x (loopRo cfg ro st) (loopHead ro st ⟨[], []⟩ .skip [] st.anchor) (blockJ (A := sem P Q) cfg ro st hv x shs id leave k))
          (body := fun vars w => orFail (A := sem P Q) (fun cs => k .normal (loopExit st (loopHead ro st hv x cs w))) (ofAtoms shs vars)) h
        have hex : ∀ j n, (j, n) ∈ hv.blocks → ∃ b, ro.blk st j = some b := fun j n hm => by
          have := hchk.2 (j, n) hm
          cases hb : ro.blk st j with
          | some b => exact ⟨b, rfl⟩
          | none => simp [hb] at this
        obtain ⟨cs0, l0, hg0, hf0, ho0, hh0⟩ := entry_ok (hv := ⟨[], []⟩) (body := .skip) (al := []) hc hs hw rfl
        have hcs0 : cs0 = [] := by
          have : ofAtoms (A := sem P Q) [] [] = some cs0 := ho0
          simp [ofAtoms] at this; exact this
        subst hcs0
        have hjoin : ∀ (st' : St (sem P Q)) (a' : Act) (w' : World), joinK (A := sem P Q) cfg ro st hv x shs "block back" (fun vs w => appT False shs' I vs w) st' → RelC cfg (loopRo cfg ro st) st' a' → SlAll (loopRo cfg ro st) st' → RelW (loopRo cfg ro st) st' w' → Qx .normal a' w' := by
          intro st' a' w' h' hc' hs' hw'
          unfold joinK at h'
          split at h'
          · rename_i vs hback
            have hsz : shs' = shs := by
              refine zip_snd hz ?_
              obtain ⟨cs', hf', ho', hh'⟩ := back_ok hc hs hw hex hback hc' hs' hw'
              exact (appT_len h').trans (fits_len hf').symm
            subst hsz
            obtain ⟨cs', hf', ho', hh'⟩ := back_ok hc hs hw hex hback hc' hs' hw'
            have hb := allT_at hbody vs hf' _ h'
            rw [ho'] at hb
            obtain ⟨e1, e2, e3⟩ := exit_ok hc hs hw hh'.c hh'.s hh'.w
            exact hk .normal _ a' w' hb e1 e2 e3
          · exact h'.elim
        refine wp_block (ih _ _ _ _ a w hbr hh0.c hh0.s hh0.w ?_)
        intro e st' a' w' h' hc' hs' hw'
        cases e with
        | normal => exact hjoin st' a' w' h' hc' hs' hw'
        | exit i =>
          simp only [blockJ, cond_eq_ite] at h'
          simp only [toExit, Exit.inBlock]
          split at h'
          · rename_i hi
            have hi := Nat.eq_of_beq_eq_true hi
            rw [if_pos hi]; exact hjoin st' a' w' h' hc' hs' hw'
          · rename_i hi
            have hi : ¬ i = id := fun he => hi (by rw [he]; exact Nat.beq_refl _)
            rw [if_neg hi]
            obtain ⟨e1, e2, e3⟩ := exit_ok hc hs hw hc' hs' hw'
            exact hk (.exit i) _ a' w' h' e1 e2 e3
        | ret =>
          obtain ⟨e1, e2, e3⟩ := exit_ok hc hs hw hc' hs' hw'
          exact hk .ret _ a' w' h' e1 e2 e3
  | region id ops draw =>
    intro ro st k Qx a w h hc hs hw hk
    unfold sx at h
    cases draw with
    | true =>
      simp only [cond_true] at h
      split at h
      · rename_i t ht
        obtain ⟨hm, hsel, hin, hok⟩ := drawT_some ht
        simp only [cond_eq_ite] at h
        split at h
        · split at h
          · exact h.elim
          · rename_i hchk
            simp only [Bool.not_eq_true', Bool.not_eq_false, Bool.and_eq_true, List.all_eq_true] at hchk
            generalize hshs : hvShs (A := sem P Q) P ro st (hvJoin P cfg ro st ops) ops = shs at h
            obtain ⟨shs', hz, I, hbr, hbody⟩ := join_elim (P := P) (Q := Q) (shs := List.zip (hvNames cfg (hvJoin P cfg ro st ops)) shs)
              (br := fun leave => runOps (A := sem P Q) P cfg true ops (loopRo cfg ro st) (4 * ops.size + 4 + ops.size * ops.size) t (loopHead ro st ⟨[], []⟩ .skip [] st.anchor)
                (joinK (A := sem P Q) cfg ro st (hvJoin P cfg ro st ops) (.region id ops true) shs ("join back " ++ match ops[0]? with | some o => o.pos | none => "") leave))
              (body := fun vars w => orFail (A := sem P Q) (fun cs => k .normal (loopExit st (loopHead ro st (hvJoin P cfg ro st ops) (.region id ops true) cs w))) (ofAtoms shs vars)) h
            have hex : ∀ j n, (j, n) ∈ (hvJoin P cfg ro st ops).blocks → ∃ b, ro.blk st j = some b := fun j n hm => by
              have := hchk.2 (j, n) hm
              cases hb : ro.blk st j with
              | some b => exact ⟨b, rfl⟩
              | none => simp [hb] at this
            obtain ⟨cs0, l0, hg0, hf0, ho0, hh0⟩ := entry_ok (hv := ⟨[], []⟩) (body := .skip) (al := []) hc hs hw rfl
            have hcs0 : cs0 = [] := by
              have : ofAtoms (A := sem P Q) [] [] = some cs0 := ho0
              simp [ofAtoms] at this; exact this
            subst hcs0
            refine wp_region_any hm (can_any (kd := kdD P cfg true) (n := ops.size) hsel hin ops.size t _ _ (RelW (loopRo cfg ro st) (loopHead ro st ⟨[], []⟩ .skip [] st.anchor)) a _ (by simp) List.nodup_range hok lst_range ?_ (relW_drawn hh0.w))
            refine runOps_ok _ _ _ a _ hbr hh0.c.relF hh0.s ⟨_, hh0.w⟩ fun st' a' h' hc' hs' w' hw' => ?_
            unfold joinK at h'
            split at h'
            · rename_i vs hback
              have hsz : shs' = shs := by
                refine zip_snd hz ?_
                obtain ⟨cs', hf', ho', hh'⟩ := back_ok hc hs hw hex hback hc' hs' hw'
                exact (appT_len h').trans (fits_len hf').symm
              subst hsz
              obtain ⟨cs', hf', ho', hh'⟩ := back_ok hc hs hw hex hback hc' hs' hw'
              have hb := allT_at hbody vs hf' _ h'
              rw [ho'] at hb
              obtain ⟨e1, e2, e3⟩ := exit_ok hc hs hw hh'.c hh'.s hh'.w
              exact hk .normal _ a' w' hb e1 e2 e3
            · exact h'.elim
        · refine wp_region_any hm (can_any (kd := kdD P cfg true) (n := ops.size) hsel hin ops.size t _ _ (RelW ro st) a _ (by simp) List.nodup_range hok lst_range ?_ (relW_drawn hw))
          exact runOps_ok _ _ st a _ h hc.relF hs ⟨_, hw⟩ fun st' a' h' hc' hs' w' hw' => hk .normal st' a' w' h' hc' hs' hw'
      · exact h.elim
    | false =>
      simp only [cond_false] at h
      refine wp_region (canO_text (kd := kdD P cfg false) _ (RelW ro st) a w ?_ hw)
      exact runOps_ok _ _ st a _ h hc.relF hs ⟨_, hw⟩ fun st' a' h' hc' hs' w' hw' => hk .normal st' a' w' h' hc' hs' hw'
  | loop body ih =>
    intro ro st k Qx a w h hc hs hw hk
    unfold sx at h
    simp only at h
    split at h
    · exact h.elim
    · rename_i al hal
      simp only [cond_eq_ite] at h
      split at h
      · exact h.elim
      · rename_i hdup
        generalize hshs : al.map (·.1) = shs at h
        obtain ⟨cs0, l0, hg0, hf0, ho0, hh0⟩ := entry_ok (body := body) hc hs hw hal
        rw [hshs] at hf0 ho0
        obtain ⟨shs', hz, I, M, hI, hbody⟩ := loop_elim (P := P) (Q := Q) (shs := List.zip (hvNames cfg (hvOf ro st body)) shs) (init := al.map (·.2)) (w := st.anchor) (body := fun back vars w => orFail (A := sem P Q) (fun cs => sx (A := sem P Q) P cfg body (loopRo cfg ro st) (loopHead ro st (hvOf ro st body) body cs w) (roundK (A := sem P Q) cfg ro st (hvOf ro st body) body shs cs w back k)) (ofAtoms shs vars)) h
        have hsz : shs' = shs := by
          refine zip_snd hz ?_
          exact (appT_len hI).trans (fits_len hf0).symm
        subst hsz
        let Pn (a' : Act) (w' : World) (n : Nat) : Prop := ∃ (vs : List At) (wa : World) (cs : List (Sc (sem P Q))), Fits shs' vs ∧ ofAtoms shs' vs = some cs ∧ appT False shs' I vs wa ∧ HeadOk cfg ro st (hvOf ro st body) body cs wa a' w' ∧ appT 0 shs' M vs wa = n
        refine wp_loop (fun a' w' => ∃ n, Pn a' w' n) (fun a' w' => leastOf (Pn a' w')) ⟨_, _, _, cs0, hf0, ho0, hI, hh0, rfl⟩ ?_
        intro a1 w1 hex
        obtain ⟨⟨vs, wa, cs, hf, ho, hIv, hhd, hm⟩, hmin⟩ := leastOf_spec hex
        have hb := allT_at hbody vs hf wa hIv
        rw [ho] at hb
        refine ih _ _ _ _ a1 w1 hb hhd.c hhd.s hhd.w ?_
        intro e st' a' w' h' hc' hs' hw'
        cases e with
        | normal =>
          simp only [roundK] at h'
          split at h'
          · rename_i vs' hback
            obtain ⟨cs', hf', ho', hh'⟩ := back_ok hc hs hw (gather_has hg0) hback hc' hs' hw'
            simp only [toExit, Exit.then]
            have hPn : Pn a' w' (appT 0 shs' M vs' st'.anchor) := ⟨vs', _, cs', hf', ho', h'.1, hh', rfl⟩
            refine ⟨⟨_, hPn⟩, ?_⟩
            have h2 := (leastOf_spec ⟨_, hPn⟩).2 _ hPn
            have h3 := h'.2
            rw [hm] at h3
            omega
          · exact h'.elim
        | exit id =>
          obtain ⟨e1, e2, e3⟩ := exit_ok hc hs hw hc' hs' hw'
          exact hk (.exit id) _ a' w' h' e1 e2 e3
        | ret =>
          obtain ⟨e1, e2, e3⟩ := exit_ok hc hs hw hc' hs' hw'
          exact hk .ret _ a' w' h' e1 e2 e3
  | scope _ _ => exact fun ro st k Qx a w h => h.elim
  | rangeFunc => exact fun ro st k Qx a w h => h.elim
  | goto _ => exact fun ro st k Qx a w h => h.elim
  | refuse _ => exact fun ro st k Qx a w h => h.elim
end Go.Sx
