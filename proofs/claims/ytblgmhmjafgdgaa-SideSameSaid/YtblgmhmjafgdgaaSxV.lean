/- The executor's theorem, the end: loops, and a whole function. -/
import Derived.Test.YtblgmhmjafgdgaaSxU
set_option linter.unusedVariables false
set_option linter.unusedSimpArgs false
namespace Go.Sx
open RowKit
variable {P : Program} {Q : Value → World → Prop}

/-! ### What a loop carries -/

theorem shEq_eq {a b : Sh} (h : shEq a b = true) : a = b := by
  cases a <;> cases b <;> simp [shEq] at h <;> first | rfl | (rw [kEq_eq h])

theorem shEqs_eq : ∀ {a b : List Sh}, shEqs a b = true → a = b
  | [], [], _ => rfl
  | a :: r, b :: s, h => by
    simp only [shEqs, Bool.and_eq_true] at h
    rw [shEq_eq h.1, shEqs_eq h.2]
  | [], _ :: _, h => by simp [shEqs] at h
  | _ :: _, [], h => by simp [shEqs] at h

/-- Do the atoms fit the shapes? -/
def Fits : List Sh → List At → Prop
  | [], [] => True
  | .int _ :: r, .int _ :: l => Fits r l
  | .bool :: r, .bool _ :: l => Fits r l
  | .str :: r, .str _ :: l => Fits r l
  | .slc :: r, .slc _ _ _ :: l => Fits r l
  | .ptr :: r, .ptr _ :: l => Fits r l
  | .val :: r, .val _ :: l => Fits r l
  | _, _ => False

theorem allT_at : ∀ {shs : List Sh} {f : List At → Prop}, allT shs f → ∀ l, Fits shs l → f l
  | [], f, h, [], _ => h
  | .int _ :: r, f, h, .int n :: l, hf => allT_at (h n) l hf
  | .bool :: r, f, h, .bool n :: l, hf => allT_at (h n) l hf
  | .str :: r, f, h, .str n :: l, hf => allT_at (h n) l hf
  | .slc :: r, f, h, .slc p n c :: l, hf => allT_at (h p n c) l hf
  | .ptr :: r, f, h, .ptr n :: l, hf => allT_at (h n) l hf
  | .val :: r, f, h, .val n :: l, hf => allT_at (h n) l hf
  | .bool :: _, _, _, .int _ :: _, hf | .bool :: _, _, _, .str _ :: _, hf | .bool :: _, _, _, .slc _ _ _ :: _, hf | .bool :: _, _, _, .ptr _ :: _, hf | .bool :: _, _, _, .val _ :: _, hf => hf.elim
  | .int _ :: _, _, _, .bool _ :: _, hf | .int _ :: _, _, _, .str _ :: _, hf | .int _ :: _, _, _, .slc _ _ _ :: _, hf | .int _ :: _, _, _, .ptr _ :: _, hf | .int _ :: _, _, _, .val _ :: _, hf => hf.elim
  | .str :: _, _, _, .int _ :: _, hf | .str :: _, _, _, .bool _ :: _, hf | .str :: _, _, _, .slc _ _ _ :: _, hf | .str :: _, _, _, .ptr _ :: _, hf | .str :: _, _, _, .val _ :: _, hf => hf.elim
  | .slc :: _, _, _, .int _ :: _, hf | .slc :: _, _, _, .str _ :: _, hf | .slc :: _, _, _, .bool _ :: _, hf | .slc :: _, _, _, .ptr _ :: _, hf | .slc :: _, _, _, .val _ :: _, hf => hf.elim
  | .ptr :: _, _, _, .int _ :: _, hf | .ptr :: _, _, _, .str _ :: _, hf | .ptr :: _, _, _, .slc _ _ _ :: _, hf | .ptr :: _, _, _, .bool _ :: _, hf | .ptr :: _, _, _, .val _ :: _, hf => hf.elim
  | .val :: _, _, _, .int _ :: _, hf | .val :: _, _, _, .str _ :: _, hf | .val :: _, _, _, .slc _ _ _ :: _, hf | .val :: _, _, _, .ptr _ :: _, hf | .val :: _, _, _, .bool _ :: _, hf => hf.elim
  | [], _, _, _ :: _, hf => hf.elim
  | .int _ :: _, _, _, [], hf | .bool :: _, _, _, [], hf | .str :: _, _, _, [], hf | .slc :: _, _, _, [], hf | .ptr :: _, _, _, [], hf | .val :: _, _, _, [], hf => hf.elim

theorem atom_of {x : Sc (sem P Q)} {s : Sh} {at_ : At} (h : x.atom = some (s, at_)) : ∃ y : Sc (sem P Q), ofAtom s at_ = some y ∧ y.toV = x.toV ∧ noLoc y = true ∧ (∀ r l, Fits (s :: r) (at_ :: l) ↔ Fits r l) := by
  cases x <;> simp [Sc.atom] at h <;> obtain ⟨rfl, rfl⟩ := h <;> exact ⟨_, rfl, rfl, rfl, fun _ _ => Iff.rfl⟩

theorem atoms_of : ∀ {l : List (Sc (sem P Q))} {al : List (Sh × At)}, atomsOf l = some al →
    ∃ cs : List (Sc (sem P Q)), ofAtoms (al.map (·.1)) (al.map (·.2)) = some cs ∧ cs.map Sc.toV = l.map Sc.toV ∧ cs.all noLoc = true ∧ Fits (al.map (·.1)) (al.map (·.2))
  | [], al, h => by simp [atomsOf] at h; subst h; exact ⟨[], rfl, rfl, rfl, trivial⟩
  | x :: r, al, h => by
    unfold atomsOf at h
    split at h
    · rename_i a l' ha hl
      simp only [Option.some.injEq] at h
      subst h
      obtain ⟨s, at_⟩ := a
      obtain ⟨y, hy, hyv, hyn, hfit⟩ := atom_of ha
      obtain ⟨cs, hcs, hcv, hcn, hf⟩ := atoms_of hl
      refine ⟨y :: cs, ?_, by simp [hyv, hcv], by simp [hyn, hcn], (hfit _ _).2 hf⟩
      simp [ofAtoms, hy, hcs]
    · simp at h

theorem ofAtoms_fits : ∀ {shs : List Sh} {l : List At} {cs : List (Sc (sem P Q))}, ofAtoms shs l = some cs → cs.all noLoc = true
  | [], [], cs, h => by simp [ofAtoms] at h; subst h; rfl
  | s :: r, a :: l, cs, h => by
    unfold ofAtoms at h
    split at h
    · rename_i x xs hx hxs
      simp only [Option.some.injEq] at h
      subst h
      have := ofAtoms_fits hxs
      have hn : noLoc x = true := by
        cases s <;> cases a <;> simp [ofAtom] at hx <;> subst hx <;> rfl
      simp [hn, this]
    · simp at h
  | [], _ :: _, cs, h => by simp [ofAtoms] at h
  | _ :: _, [], cs, h => by simp [ofAtoms] at h

section
variable {cfg : Cfg} {ro : Ro (sem P Q)} {st : St (sem P Q)} {a : Act} {w : World}

/-- What is gathered from slots, and laid into others: each slot holds what it held. -/
theorem spreadS_ok : ∀ {sl : List (Nat × Bool × Nat)} {l : List (Sc (sem P Q))}, gatherS ro st sl = some l → ∀ (cs rest : List (Sc (sem P Q))), (∃ tl, cs = tl ++ rest ∧ tl.map Sc.toV = l.map Sc.toV) → cs.all noLoc = true →
    (spreadS sl cs).2 = rest ∧ keysOf (spreadS sl cs).1 = keysOf sl ∧ ∀ i e, (i, e) ∈ (spreadS sl cs).1 → ∃ v u, e = some (.one v, none) ∧ ro.get st i = some (.one u, none) ∧ v.toV = u.toV ∧ noLocV v = true
  | [], l, h, cs, rest, ⟨tl, htl, hv⟩, _ => by
    simp [gatherS] at h
    subst h
    have : tl = [] := by simpa using hv
    subst this
    exact ⟨htl, rfl, fun i e he => by cases he⟩
  | (i, agg, n) :: r, l, h, cs, rest, ⟨tl, htl, hv⟩, hcn => by
    unfold gatherS at h
    split at h
    · -- one cell
      rename_i x l' hg hr
      simp only [cond_eq_ite] at h
      split at h
      · rename_i hc
        simp only [Bool.and_eq_true, Bool.not_eq_true', Nat.beq_eq] at hc
        obtain ⟨ha, rfl⟩ := hc
        subst ha
        simp only [Option.some.injEq] at h
        subst h
        cases tl with
        | nil => simp at hv
        | cons y tl' =>
          simp only [List.map_cons, List.cons.injEq] at hv
          subst htl
          have hcn' : (tl' ++ rest).all noLoc = true := by
            simp only [List.cons_append, List.all_cons, Bool.and_eq_true] at hcn; exact hcn.2
          have hy : noLoc y = true := by
            simp only [List.cons_append, List.all_cons, Bool.and_eq_true] at hcn; exact hcn.1
          obtain ⟨h1, h2, h3⟩ := spreadS_ok hr (tl' ++ rest) rest ⟨tl', rfl, hv.2⟩ hcn'
          have hd : dropCells 1 (y :: tl' ++ rest) = tl' ++ rest := by rw [drop_eq]; rfl
          simp only [spreadS, hd]
          refine ⟨h1, by simp [keysOf] at h2 ⊢; exact h2, fun j e he => ?_⟩
          rcases List.mem_cons.1 he with he | he
          · obtain ⟨rfl, rfl⟩ := Prod.mk.inj he
            exact ⟨.sc y, .sc x, rfl, hg, hv.1, by simp [noLocV, SV.cells, hy]⟩
          · exact h3 j e he
      · simp at h
    · -- an aggregate
      rename_i cs0 l' hg hr
      simp only [cond_eq_ite] at h
      split at h
      · rename_i hc
        simp only [Bool.and_eq_true, Nat.beq_eq] at hc
        obtain ⟨ha, rfl⟩ := hc
        subst ha
        simp only [Option.some.injEq] at h
        subst h
        simp only [List.map_append] at hv
        have hlen : cs0.length ≤ tl.length := by
          have := congrArg List.length hv
          simp at this; omega
        subst htl
        have e1 : (tl.take cs0.length).map Sc.toV = cs0.map Sc.toV := by
          rw [List.map_take, hv, List.take_left' (by simp)]
        have e2 : (tl.drop cs0.length).map Sc.toV = l'.map Sc.toV := by
          rw [List.map_drop, hv, List.drop_left' (by simp)]
        have hdr : dropCells cs0.length (tl ++ rest) = tl.drop cs0.length ++ rest := by
          rw [drop_eq, List.drop_append_of_le_length hlen]
        have htk : takeCells cs0.length (tl ++ rest) = tl.take cs0.length := by
          rw [take_eq, List.take_append_of_le_length hlen]
        have hcn' : (tl.drop cs0.length ++ rest).all noLoc = true := by
          rw [← hdr, drop_eq]
          simp only [List.all_eq_true] at *
          intro x hx; exact hcn x (List.mem_of_mem_drop hx)
        obtain ⟨h1, h2, h3⟩ := spreadS_ok hr (tl.drop cs0.length ++ rest) rest ⟨tl.drop cs0.length, rfl, e2⟩ hcn'
        simp only [spreadS, hdr, htk]
        refine ⟨h1, by simp [keysOf] at h2 ⊢; exact h2, fun j e he => ?_⟩
        rcases List.mem_cons.1 he with he | he
        · obtain ⟨rfl, rfl⟩ := Prod.mk.inj he
          refine ⟨.agg (tl.take cs0.length), .agg cs0, rfl, hg, by rw [toV_agg, toV_agg, e1], ?_⟩
          simp only [noLocV, SV.cells, List.all_eq_true] at *
          intro x hx; exact hcn x (List.mem_append_left _ (List.mem_of_mem_take hx))
        · exact h3 j e he
      · simp at h
    · simp at h

/-- The same of blocks. 'ro2', 'st2': where they were gathered; 'ro', 'st': as they were when the loop was entered. -/
theorem spreadB_ok {ro2 : Ro (sem P Q)} {st2 : St (sem P Q)} : ∀ {bl : List (Nat × Nat)} {l : List (Sc (sem P Q))}, gatherB ro2 st2 bl = some l → (∀ j n, (j, n) ∈ bl → ∃ b, ro.blk st j = some b) → ∀ (cs : List (Sc (sem P Q))), cs.map Sc.toV = l.map Sc.toV → cs.all noLoc = true →
    keysOf (spreadB ro st bl cs) = keysOf bl ∧ ∀ j b', (j, b') ∈ spreadB ro st bl cs → ∃ b b2, ro.blk st j = some b ∧ ro2.blk st2 j = some b2 ∧ b'.num = b.num ∧ b'.ty = b.ty ∧ b'.cells.map Sc.toV = b2.cells.map Sc.toV ∧ b'.cells.all noLoc = true
  | [], l, h, _, cs, hv, hcn => ⟨rfl, fun j b hb => by cases hb⟩
  | (j, n) :: r, l, h, hex, cs, hv, hcn => by
    unfold gatherB at h
    split at h
    · rename_i b2 l' hb2 hr
      simp only [cond_eq_ite] at h
      split at h
      · rename_i hn
        have hn : n = b2.cells.length := by simpa using hn
        subst hn
        simp only [Option.some.injEq] at h
        subst h
        obtain ⟨b, hb⟩ := hex j _ (List.mem_cons_self ..)
        simp only [List.map_append] at hv
        have e1 : (cs.take b2.cells.length).map Sc.toV = b2.cells.map Sc.toV := by
          rw [List.map_take, hv, List.take_left' (by simp)]
        have e2 : (cs.drop b2.cells.length).map Sc.toV = l'.map Sc.toV := by
          rw [List.map_drop, hv, List.drop_left' (by simp)]
        have n1 : (cs.take b2.cells.length).all noLoc = true := by
          simp only [List.all_eq_true] at *; intro x hx; exact hcn x (List.mem_of_mem_take hx)
        have n2 : (cs.drop b2.cells.length).all noLoc = true := by
          simp only [List.all_eq_true] at *; intro x hx; exact hcn x (List.mem_of_mem_drop hx)
        obtain ⟨h1, h2⟩ := spreadB_ok hr (fun i m hm => hex i m (List.mem_cons_of_mem _ hm)) _ e2 n2
        simp only [spreadB, hb, take_eq, drop_eq]
        refine ⟨by simp [keysOf] at h1 ⊢; exact h1, fun i b' hi => ?_⟩
        rcases List.mem_cons.1 hi with hi | hi
        · obtain ⟨rfl, rfl⟩ := Prod.mk.inj hi
          exact ⟨b, b2, hb, hb2, rfl, rfl, e1, n1⟩
        · exact h2 i b' hi
      · simp at h
    · simp at h

theorem look_none {α : Type} : ∀ {l : List (Nat × α)} {i : Nat}, look l i = none ↔ i ∉ keysOf l
  | [], i => by simp [look, keysOf]
  | (k, v) :: r, i => by
    unfold look
    cases hk : Nat.beq k i
    · have hne := beqN hk
      have ih := look_none (l := r) (i := i)
      simp only [cond_false, ih, keysOf, List.map_cons, List.mem_cons, not_or]
      exact ⟨fun h => ⟨Ne.symm hne, h⟩, fun h => h.2⟩
    · have := Nat.eq_of_beq_eq_true hk
      subst this
      simp [keysOf]

theorem look_append {α : Type} : ∀ (l r : List (Nat × α)) (i : Nat), look (l ++ r) i = match look l i with | some x => some x | none => look r i
  | [], r, i => rfl
  | (k, v) :: l, r, i => by
    simp only [List.cons_append, look]
    cases hk : Nat.beq k i
    · simp only [cond_false]; exact look_append l r i
    · rfl

theorem look_filter {α : Type} (p : Nat → Bool) : ∀ (l : List (Nat × α)) (i : Nat), look (l.filter fun x => p x.1) i = if p i then look l i else none
  | [], i => by simp [look]
  | (k, v) :: r, i => by
    have ih := look_filter p r i
    simp only [List.filter_cons]
    cases hk : Nat.beq k i
    · have h1 : look ((k, v) :: r) i = look r i := by simp [look, hk]
      rw [h1, ← ih]
      split
      · simp [look, hk]
      · rfl
    · have := Nat.eq_of_beq_eq_true hk
      subst this
      cases hp : p k
      · simp only [Bool.false_eq_true, if_false]
        rw [ih, hp]; simp
      · simp [look]

theorem look_range {α : Type} (f : Nat → Option α) (n i : Nat) : look ((List.range n).filterMap fun j => (f j).map fun x => (j, x)) i = if i < n then f i else none := by
  have key : ∀ (l : List Nat), look (l.filterMap fun j => (f j).map fun x => (j, x)) i = if i ∈ l then f i else none := by
    intro l
    induction l with
    | nil => simp [look]
    | cons k r ih =>
      simp only [List.filterMap_cons]
      cases hf : f k with
      | none =>
        simp only [Option.map_none, ih, List.mem_cons]
        by_cases h : i = k
        · subst h; simp [hf]
        · simp [h]
      | some x =>
        simp only [Option.map_some, look, List.mem_cons]
        by_cases h : k = i
        · subst h; simp [hf]
        · rw [beqF h]; simp only [cond_false, ih, Ne.symm h, false_or]
  rw [key]
  simp

theorem look_loopRo_bl (hw : RelW ro st w) (j : Nat) : look (loopRo cfg ro st).bl j = ro.blk st j := by
  unfold loopRo allBlks
  simp only
  rw [look_range (fun j => ro.blk st j)]
  split
  · rfl
  · rename_i h
    cases hb : ro.blk st j with
    | none => rfl
    | some b => exact absurd (hw.lt j b hb) h

theorem look_loopRo_sl {i : Nat} {v : SL (sem P Q)} : look (loopRo cfg ro st).sl i = some v ↔ i < cfg.N ∧ ro.get st i = some (v, none) := by
  have : (loopRo cfg ro st).sl = (List.range cfg.N).filterMap fun j => ((match ro.get st j with | some (v, none) => some v | _ => none) : Option (SL (sem P Q))).map fun x => (j, x) := by
    unfold loopRo allSlots
    simp only
    congr 1
    funext j
    cases ro.get st j with
    | none => rfl
    | some e => obtain ⟨v, key⟩ := e; cases key <;> rfl
  rw [this, look_range (fun j => (match ro.get st j with | some (v, none) => some v | _ => none))]
  split
  · rename_i h
    cases hg : ro.get st i with
    | none => simp
    | some e =>
      obtain ⟨u, key⟩ := e
      cases key <;> simp [h]
  · rename_i h
    simp [h]

/-- A state at a round's head: what its blocks are. -/
theorem head_blk {hv : Hv} {body : Code} {cs : List (Sc (sem P Q))} {wa : World} {j : Nat} {b' : Blk (sem P Q)} (hw : RelW ro st w)
    (hsp : ∀ j b', (j, b') ∈ spreadB ro st hv.blocks (loopOv hv body cs).2 → ∃ b, ro.blk st j = some b ∧ b'.num = b.num ∧ b'.ty = b.ty ∧ b'.cells.all noLoc = true)
    (h : (loopRo cfg ro st).blk (loopHead ro st hv body cs wa) j = some b') : ∃ b, ro.blk st j = some b ∧ b'.num = b.num ∧ b'.ty = b.ty ∧ b'.cells.all noLoc = true := by
  unfold Ro.blk at h
  split at h
  · rename_i b1 hb1
    obtain rfl := Option.some.inj h
    exact hsp j _ (mem_of_look hb1)
  · rw [look_loopRo_bl hw] at h
    exact ⟨b', h, rfl, rfl, hw.nol j b' h⟩

theorem head_relW {hv : Hv} {body : Code} {cs : List (Sc (sem P Q))} {wa w' : World} (hw : RelW ro st w)
    (hsp : ∀ j b', (j, b') ∈ spreadB ro st hv.blocks (loopOv hv body cs).2 → ∃ b, ro.blk st j = some b ∧ b'.num = b.num ∧ b'.ty = b.ty ∧ b'.cells.all noLoc = true)
    (hbut : But ((loopRo cfg ro st).dn (loopHead ro st hv body cs wa)) wa w')
    (hbk : ∀ j b', (loopRo cfg ro st).blk (loopHead ro st hv body cs wa) j = some b' → blkOk w' b') : RelW (loopRo cfg ro st) (loopHead ro st hv body cs wa) w' := by
  refine ⟨hbut, hbk, fun j b h => ?_, fun i j b c h1 h2 hij => ?_, fun j b h hj => ?_, fun j b h => ?_, fun j b b0 h0 h => ?_⟩
  · obtain ⟨b1, hb1, _⟩ := head_blk hw hsp h
    exact hw.lt j b1 hb1
  · obtain ⟨b1, hb1, e1, _⟩ := head_blk hw hsp h1
    obtain ⟨b2, hb2, e2, _⟩ := head_blk hw hsp h2
    rw [e1, e2]
    exact hw.ord i j b1 b2 hb1 hb2 hij
  · obtain ⟨b1, hb1, _⟩ := head_blk hw hsp h
    exact absurd (hw.lt j b1 hb1) (Nat.not_lt.2 hj)
  · obtain ⟨b1, hb1, _, _, hn⟩ := head_blk hw hsp h
    exact hn
  · obtain ⟨b1, hb1, e1, e2, _⟩ := head_blk hw hsp h
    rw [look_loopRo_bl hw, hb1] at h0
    obtain rfl := Option.some.inj h0
    exact ⟨e1, e2⟩

theorem head_get {hv : Hv} {body : Code} {cs : List (Sc (sem P Q))} {wa : World} {ro2 : Ro (sem P Q)} {st2 : St (sem P Q)} {i : Nat} {e : Ent (sem P Q)}
    (hsp : ∀ i e, (i, e) ∈ (spreadS hv.slots cs).1 → ∃ v u, e = some (.one v, none) ∧ ro2.get st2 i = some (.one u, none) ∧ v.toV = u.toV ∧ noLocV v = true)
    (h : (loopRo cfg ro st).get (loopHead ro st hv body cs wa) i = some e) :
    (∃ v u, e = (.one v, none) ∧ ro2.get st2 i = some (.one u, none) ∧ v.toV = u.toV ∧ noLocV v = true) ∨
    (i ∉ keysOf (loopHead ro st hv body cs wa).ov ∧ ∃ v, e = (v, none) ∧ i < cfg.N ∧ ro.get st i = some (v, none)) := by
  unfold Ro.get at h
  split at h
  · rename_i e' he
    have hm := mem_of_look he
    subst h
    have hm' : (i, some e) ∈ (spreadS hv.slots cs).1 ++ (nub (writes body)).filterMap fun i => (bif memN (keysOf (spreadS hv.slots cs).1) i then none else some (i, none)) := hm
    rcases List.mem_append.1 hm' with hm | hm
    · obtain ⟨v, u, he, h1, h2, h3⟩ := hsp i _ hm
      exact .inl ⟨v, u, Option.some.inj he, h1, h2, h3⟩
    · simp only [List.mem_filterMap] at hm
      obtain ⟨k, _, hk⟩ := hm
      cases hmem : memN (keysOf (spreadS hv.slots cs).1) k <;> rw [hmem] at hk <;> simp at hk
  · rename_i hn
    cases hl : look (loopRo cfg ro st).sl i with
    | none => rw [hl] at h; simp at h
    | some v =>
      rw [hl] at h
      simp only [Option.map_some, Option.some.injEq] at h
      obtain ⟨h1, h2⟩ := look_loopRo_sl.1 hl
      exact .inr ⟨look_none.1 hn, v, h.symm, h1, h2⟩

theorem slOk_head {hv : Hv} {body : Code} {cs : List (Sc (sem P Q))} {wa : World} (hw : RelW ro st w)
    (hsp : ∀ j b', (j, b') ∈ spreadB ro st hv.blocks (loopOv hv body cs).2 → ∃ b, ro.blk st j = some b ∧ b'.num = b.num ∧ b'.ty = b.ty ∧ b'.cells.all noLoc = true) {u : SL (sem P Q)} (h : SlOk ro st u) :
    SlOk (loopRo cfg ro st) (loopHead ro st hv body cs wa) u := by
  cases u with
  | one x => cases x with
    | agg l => exact h
    | sc y =>
      cases y with
      | loc j n off =>
        refine ⟨h.1, fun b' hb' => ?_⟩
        obtain ⟨b, hb, e, _⟩ := head_blk hw hsp hb'
        rw [e]; exact h.2 b hb
      | _ => trivial
  | tup l => exact h
  | undef => trivial

/-- All that holds at a round's head. -/
structure HeadOk (cfg : Cfg) (ro : Ro (sem P Q)) (st : St (sem P Q)) (hv : Hv) (body : Code) (cs : List (Sc (sem P Q))) (wa : World) (a : Act) (w : World) : Prop where
  c : RelC cfg (loopRo cfg ro st) (loopHead ro st hv body cs wa) a
  s : SlAll (loopRo cfg ro st) (loopHead ro st hv body cs wa)
  w : RelW (loopRo cfg ro st) (loopHead ro st hv body cs wa) w

theorem headOk {hv : Hv} {body : Code} {cs : List (Sc (sem P Q))} {wa w' : World} {a' : Act} {ro2 : Ro (sem P Q)} {st2 : St (sem P Q)} {l : List (Sc (sem P Q))} (hw : RelW ro st w) (hs : SlAll ro st)
    (hg : gather ro2 st2 hv = some l) (hcv : cs.map Sc.toV = l.map Sc.toV) (hcn : cs.all noLoc = true)
    (hc2 : RelC cfg ro2 st2 a') (hw2 : RelW ro2 st2 w') 
    (hrest : ∀ i v, i ∉ keysOf (loopHead ro st hv body cs wa).ov → ro.get st i = some (v, none) → i < cfg.N → a'.tmps.getD i undef = v.toV)
    (hex : ∀ j n, (j, n) ∈ hv.blocks → ∃ b, ro.blk st j = some b)
    (hnum : ∀ j b b2, ro.blk st j = some b → ro2.blk st2 j = some b2 → b2.num = b.num ∧ b2.ty = b.ty)
    (hkeep : ∀ j b, j ∉ keysOf hv.blocks → ro.blk st j = some b → ro2.blk st2 j = some b)
    (hbut : But (ro2.dn st2) wa w') (hdirty : ∀ j ∈ st2.dirty, j ∈ loopDirty hv st) (hdx : ∀ j b2, j ∈ st2.dirty → ro2.blk st2 j = some b2 → ∃ b, ro.blk st j = some b) :
    HeadOk cfg ro st hv body cs wa a' w' := by
  unfold gather at hg
  simp only [Option.bind_eq_some_iff, Option.map_eq_some_iff] at hg
  obtain ⟨ss, hss, bs, hbs, rfl⟩ := hg
  rw [List.map_append] at hcv
  have hlen : ss.length ≤ cs.length := by have := congrArg List.length hcv; simp at this; omega
  have e1 : (cs.take ss.length).map Sc.toV = ss.map Sc.toV := by rw [List.map_take, hcv, List.take_left' (by simp)]
  have e2 : (cs.drop ss.length).map Sc.toV = bs.map Sc.toV := by rw [List.map_drop, hcv, List.drop_left' (by simp)]
  obtain ⟨s1, s2, s3⟩ := spreadS_ok hss cs (cs.drop ss.length) ⟨cs.take ss.length, (List.take_append_drop _ _).symm, e1⟩ hcn
  have n2 : (cs.drop ss.length).all noLoc = true := by
    simp only [List.all_eq_true] at *; intro x hx; exact hcn x (List.mem_of_mem_drop hx)
  have hrest2 : (loopOv hv body cs).2 = cs.drop ss.length := s1
  obtain ⟨b1, b2⟩ := spreadB_ok (ro := ro) (st := st) hbs hex _ e2 n2
  have hsp : ∀ j b', (j, b') ∈ spreadB ro st hv.blocks (loopOv hv body cs).2 → ∃ b, ro.blk st j = some b ∧ b'.num = b.num ∧ b'.ty = b.ty ∧ b'.cells.all noLoc = true := by
    intro j b' hm
    rw [hrest2] at hm
    obtain ⟨b, c, h1, h2, h3, h4, h5, h6⟩ := b2 j b' hm
    exact ⟨b, h1, h3, h4, h6⟩
  refine ⟨⟨hc2.size, hc2.defers, fun i e he => ?_⟩, fun i e he => ?_, head_relW hw hsp ?_ fun j b' hb' => ?_⟩
  · rcases head_get s3 he with ⟨v, u, rfl, hu, hvu, _⟩ | ⟨hni, v, rfl, hi, hgv⟩
    · exact ⟨rfl, by have := (hc2.fr i _ hu).2; show _ = v.toV; rw [hvu]; exact this⟩
    · exact ⟨rfl, hrest i v hni hgv hi⟩
  · rcases head_get s3 he with ⟨v, u, rfl, hu, hvu, hn⟩ | ⟨hni, v, rfl, hi, hgv⟩
    · exact slOk_noLoc hn
    · exact slOk_head hw hsp (hs i _ hgv)
  · refine hbut.mono fun d hd => ?_
    obtain ⟨j, c, hj, hc, rfl⟩ := mem_dn.1 hd
    obtain ⟨b, hb⟩ := hdx j c hj hc
    have hblk : ∃ b', (loopRo cfg ro st).blk (loopHead ro st hv body cs wa) j = some b' := by
      unfold Ro.blk
      split
      · exact ⟨_, rfl⟩
      · rw [look_loopRo_bl hw]; exact ⟨b, hb⟩
    obtain ⟨b', hb'⟩ := hblk
    obtain ⟨b0, hb0, en, _⟩ := head_blk hw hsp hb'
    refine mem_dn.2 ⟨j, b', hdirty j hj, hb', ?_⟩
    rw [hb] at hb0
    obtain rfl := Option.some.inj hb0
    rw [en, (hnum j b c hb hc).1]
  · unfold Ro.blk at hb'
    split at hb'
    · rename_i b1' hl
      obtain rfl := Option.some.inj hb'
      have hm := mem_of_look hl
      have hm : (j, b1') ∈ spreadB ro st hv.blocks (loopOv hv body cs).2 := hm
      rw [hrest2] at hm
      obtain ⟨b, c, h1, h2, h3, h4, h5, h6⟩ := b2 j b1' hm
      have hc := hw2.bk j c h2
      obtain ⟨en, et⟩ := hnum j b c h1 h2
      unfold blkOk at hc ⊢
      rw [h3, h4, h5, ← en, ← et]
      exact hc
    · rename_i hn
      rw [look_loopRo_bl hw] at hb'
      have hnk : j ∉ keysOf hv.blocks := by
        have h1 : j ∉ keysOf (spreadB ro st hv.blocks (loopOv hv body cs).2) := look_none.1 hn
        rw [hrest2, b1] at h1
        exact h1
      exact hw2.bk j b' (hkeep j b' hnk hb')
end
end Go.Sx
