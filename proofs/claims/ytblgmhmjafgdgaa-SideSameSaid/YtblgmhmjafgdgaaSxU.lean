/- The executor's theorem, continued: regions and code. -/
import Derived.Test.YtblgmhmjafgdgaaSxO
set_option linter.unusedVariables false
set_option linter.unusedSimpArgs false
namespace Go.Sx
open RowKit
variable {P : Program} {Q : Value → World → Prop}

section
variable {cfg : Cfg} {ops : Array Oper} {ro : Ro (sem P Q)} {st : St (sem P Q)} {a : Act}

theorem put_size (d : Option Tmp) (v : Value) : (a.put d v).tmps.size = a.tmps.size := by
  cases d <;> simp [Act.put]
theorem put_defers (d : Option Tmp) (v : Value) : (a.put d v).defers = a.defers := by
  cases d <;> rfl
theorem put_getD (d : Tmp) (v : Value) (i : Nat) (hd : d < a.tmps.size) : (a.put (some d) v).tmps.getD i undef = if i = d then v else a.tmps.getD i undef := by
  simp only [Act.put, Array.getD_eq_getD_getElem?, Array.getElem?_setIfInBounds]
  by_cases h : d = i
  · subst h; simp [hd]
  · simp [h, Ne.symm h]

theorem get_put (st : St (sem P Q)) (d : Tmp) (e : Option (Ent (sem P Q))) (i : Nat) : ro.get (st.put (some d) e) i = if d = i then e else ro.get st i := by
  unfold Ro.get St.put
  simp only [look_putA]
  by_cases h : d = i
  · simp [h]
  · simp only [h, if_false]

theorem satK_put {d : Tmp} {v : Value} {k : Nat × Bool} (hd : d < a.tmps.size) (hne : dstOf ops k.1 ≠ some d) : satK ops (a.put (some d) v) k ↔ satK ops a k := by
  unfold satK
  rw [yielded_iff, yielded_iff]
  constructor
  · rintro ⟨e, h1, h2⟩
    refine ⟨e, h1, ?_⟩
    rw [put_getD d v e hd, if_neg (by rintro rfl; exact hne h1)] at h2
    exact h2
  · rintro ⟨e, h1, h2⟩
    refine ⟨e, h1, ?_⟩
    rw [put_getD d v e hd, if_neg (by rintro rfl; exact hne h1)]
    exact h2

theorem freeDst_ok {d : Tmp} (h : freeDst ops st (some d) = true) {i : Nat} {v : SL (sem P Q)} {k : Nat × Bool} (hg : ro.get st i = some (v, some k)) : dstOf ops k.1 ≠ some d := by
  unfold Ro.get at hg
  split at hg
  · rename_i e he
    subst hg
    have hm := mem_of_look he
    unfold freeDst at h
    simp only [List.all_eq_true] at h
    have := h _ hm
    obtain ⟨j, wnt⟩ := k
    simp only at this
    intro hd
    simp only [hd] at this
    simp at this
  · cases hl : look ro.sl i <;> rw [hl] at hg <;> simp at hg

/-- One slot more. -/
theorem relF_put {st' : St (sem P Q)} {dst : Option Tmp} {v : SL (sem P Q)} {key : Option (Nat × Bool)} {u : Value} (hf : RelF cfg ops ro st a) (hov : st'.ov = st.ov) (hd : okDst cfg ops st dst = true)
    (hk : ∀ d, dst = some d → ∀ k, key = some k → dstOf ops k.1 ≠ some d)
    (hv : match key with | none => u = v.toV | some k => (satK ops a k → u = v.toV) ∧ (¬ satK ops a k → u = undef)) : RelF cfg ops ro (st'.put dst (some (v, key))) (a.put dst u) := by
  have hget : ∀ i, ro.get st' i = ro.get st i := fun i => by unfold Ro.get; rw [hov]
  simp only [okDst, Bool.and_eq_true] at hd
  refine ⟨by rw [put_size]; exact hf.size, by rw [put_defers]; exact hf.defers, fun i e he => ?_⟩
  cases dst with
  | none =>
    have he : ro.get st i = some e := by rw [← hget]; exact he
    exact hf.fr i e he
  | some d =>
    have hdl : d < a.tmps.size := by rw [hf.size]; have := hd.2; simpa [Nat.blt_eq] using this
    rw [get_put] at he
    split at he
    · rename_i hdi
      subst hdi
      obtain rfl := Option.some.inj he
      have hval : (a.put (some d) u).tmps.getD d undef = u := by rw [put_getD d u d hdl, if_pos rfl]
      cases key with
      | none => show _ = _; rw [hval]; exact hv
      | some k =>
        have hs := satK_put (v := u) hdl (hk d rfl k rfl)
        exact ⟨fun h => hval.trans (hv.1 (hs.1 h)), fun h => hval.trans (hv.2 fun h' => h (hs.2 h'))⟩
    · rename_i hdi
      rw [hget] at he
      have hold := hf.fr i e he
      obtain ⟨v', key'⟩ := e
      have hval : (a.put (some d) u).tmps.getD i undef = a.tmps.getD i undef := by rw [put_getD d u i hdl, if_neg (Ne.symm hdi)]
      cases key' with
      | none => show _ = _; rw [hval]; exact hold
      | some k =>
        have hs := satK_put (v := u) hdl (freeDst_ok hd.1 he)
        exact ⟨fun h => hval.trans (hold.1 (hs.1 h)), fun h => hval.trans (hold.2 fun h' => h (hs.2 h'))⟩

theorem slAll_put {st' : St (sem P Q)} {dst : Option Tmp} {v : SL (sem P Q)} {key : Option (Nat × Bool)} (hs : SlAll ro st) (hsame : Same ro st st') (hv : SlOk ro st' v) : SlAll ro (st'.put dst (some (v, key))) := by
  have hget : ∀ i, ro.get st' i = ro.get st i := fun i => by unfold Ro.get; rw [hsame.ov]
  have hblk : ∀ u, SlOk ro st' u → SlOk ro (st'.put dst (some (v, key))) u := by
    intro u hu
    cases dst with
    | none => exact hu
    | some d => cases u with
      | one x => cases x with
        | agg l => exact hu
        | sc y => cases y <;> first | exact hu | trivial
      | tup l => exact hu
      | undef => trivial
  intro i e he
  cases dst with
  | none =>
    have he : ro.get st i = some e := by rw [← hget]; exact he
    exact hsame.slOk _ (hs i e he)
  | some d =>
    rw [get_put] at he
    split at he
    · obtain rfl := Option.some.inj he
      exact hblk _ hv
    · rw [hget] at he
      exact hblk _ (hsame.slOk _ (hs i e he))

theorem relW_put {w : World} {st' : St (sem P Q)} {dst : Option Tmp} {e : Option (Ent (sem P Q))} (hw : RelW ro st' w) : RelW ro (st'.put dst e) w := by
  cases dst with
  | none => exact hw
  | some d => exact ⟨hw.but, hw.bk, hw.lt, hw.ord, hw.ax, hw.nol, hw.same⟩

theorem relW_put' {w : World} {st' : St (sem P Q)} {dst : Option Tmp} {e : Option (Ent (sem P Q))} (hw : RelW ro (st'.put dst e) w) : RelW ro st' w := by
  cases dst with
  | none => exact hw
  | some d => exact ⟨hw.but, hw.bk, hw.lt, hw.ord, hw.ax, hw.nol, hw.same⟩

/-- Behind a region: no guards any more. -/
structure RelC (cfg : Cfg) (ro : Ro (sem P Q)) (st : St (sem P Q)) (a : Act) : Prop where
  size : a.tmps.size = cfg.N
  defers : a.defers = []
  fr : ∀ i e, ro.get st i = some e → e.2 = none ∧ a.tmps.getD i undef = e.1.toV

theorem RelC.relF (h : RelC cfg ro st a) : RelF cfg ops ro st a := ⟨h.size, h.defers, fun i e he => by
  obtain ⟨v, key⟩ := e
  obtain ⟨h1, h2⟩ := h.fr i _ he
  simp only at h1
  subst h1
  exact h2⟩

theorem look_end : ∀ (l : List (Nat × Option (Ent (sem P Q)))) (i : Nat), look (l.map endEnt) i =
    (look l i).map fun e => match e with | some (_, some _) => none | e => e
  | [], i => rfl
  | (k, e) :: r, i => by
    have ih := look_end r i
    simp only [List.map_cons]
    cases hk : Nat.beq k i
    · have h1 : look ((k, e) :: r) i = look r i := by simp [look, hk]
      rw [h1, ← ih]
      unfold endEnt
      split <;> simp [look, hk]
    · have h1 : look ((k, e) :: r) i = some e := by simp [look, hk]
      rw [h1]
      unfold endEnt
      split <;> simp_all [look]

theorem relC_end (hf : RelF cfg ops ro st a) : RelC cfg ro (endSt st) a := by
  refine ⟨hf.size, hf.defers, fun i e he => ?_⟩
  have hl := look_end st.ov i
  unfold Ro.get endSt at he
  simp only at he
  rw [hl] at he
  cases hlo : look st.ov i with
  | none =>
    rw [hlo] at he
    simp only [Option.map_none] at he
    have hg : ro.get st i = some e := by unfold Ro.get; rw [hlo]; exact he
    cases hs : look ro.sl i with
    | none => rw [hs] at he; simp at he
    | some v =>
      rw [hs] at he
      simp only [Option.map_some, Option.some.injEq] at he
      subst he
      exact ⟨rfl, hf.fr i _ hg⟩
  | some oe =>
    rw [hlo] at he
    simp only [Option.map_some] at he
    cases oe with
    | none => simp at he
    | some e' =>
      obtain ⟨v, key⟩ := e'
      have hg : ro.get st i = some (v, key) := by unfold Ro.get; rw [hlo]
      cases key with
      | none =>
        simp only [Option.some.injEq] at he
        subst he
        exact ⟨rfl, hf.fr i _ hg⟩
      | some k => simp at he

theorem slAll_end (hs : SlAll ro st) : SlAll ro (endSt st) := by
  intro i e he
  have : ∃ e', ro.get st i = some e' ∧ e'.1 = e.1 := by
    have hl := look_end st.ov i
    unfold Ro.get endSt at he
    simp only at he
    rw [hl] at he
    cases hlo : look st.ov i with
    | none =>
      rw [hlo] at he
      exact ⟨e, by unfold Ro.get; rw [hlo]; exact he, rfl⟩
    | some oe =>
      rw [hlo] at he
      simp only [Option.map_some] at he
      cases oe with
      | none => simp at he
      | some e' =>
        obtain ⟨v, key⟩ := e'
        cases key with
        | none =>
          simp only [Option.some.injEq] at he
          exact ⟨(v, none), by unfold Ro.get; rw [hlo], by rw [← he]⟩
        | some k => simp at he
  obtain ⟨e', he', h1⟩ := this
  rw [← h1]
  have := hs i e' he'
  revert this
  generalize e'.1 = u
  intro hu
  cases u with
  | one x => cases x with
    | agg l => exact hu
    | sc y => cases y <;> first | exact hu | trivial
  | tup l => exact hu
  | undef => trivial

theorem relW_end {w : World} : RelW ro (endSt st) w ↔ RelW ro st w :=
  ⟨fun hw => ⟨hw.but, hw.bk, hw.lt, hw.ord, hw.ax, hw.nol, hw.same⟩, fun hw => ⟨hw.but, hw.bk, hw.lt, hw.ord, hw.ax, hw.nol, hw.same⟩⟩

/-- The operation's pure meaning, decided or under a guard. -/
def anyOp (P : Program) (cfg : Cfg) (ops : Array Oper) (ro : Ro (sem P Q)) (st : St (sem P Q)) (o : Oper) : Option (Nat × Bool) → Option (List Prop × SL (sem P Q))
  | none => nowOp P cfg ops ro st o
  | some g => symOp P cfg ops ro st o g

theorem any_slOk {o : Oper} {obs : List Prop} {v : SL (sem P Q)} {cur : Option (Nat × Bool)} (hs : SlAll ro st) (hnl : ∀ j b, ro.blk st j = some b → b.cells.all noLoc = true)
    (h : anyOp P cfg ops ro st o cur = some (obs, v)) : SlOk ro st v := by
  have hpure : pureOp P cfg ro st (rdOf ro st (keyOk ops ro st cur)) o = some (obs, v) → SlOk ro st v := fun h =>
    (pure_gives (a := ⟨#[], []⟩) (w := default) (rd_slOk hs) hnl h).2
  have hpick : ∀ c x y, bare (pickOp ops ro st cur c x y) = some (obs, v) → SlOk ro st v := by
    intro c x y h
    unfold bare at h
    split at h
    · rename_i u hu
      simp only [Option.some.injEq, Prod.mk.injEq] at h
      obtain ⟨_, rfl⟩ := h
      exact pick_slOk hs hu
    · simp at h
  cases cur with
  | none =>
    simp only [anyOp, nowOp] at h
    split at h
    · exact hpick _ _ _ h
    · exact hpure h
  | some g =>
    simp only [anyOp, symOp] at h
    split at h
    · exact hpick _ _ _ h
    · exact hpure h

theorem now_op {o : Oper} {w : World} {obs : List Prop} {v : SL (sem P Q)} {cur : Option (Nat × Bool)} (hf : RelF cfg ops ro st a) (hs : SlAll ro st) (hnol : ∀ j b, ro.blk st j = some b → b.cells.all noLoc = true) (hw : isLoad o = false ∨ RelW ro st w) (hcur : ∀ c, cur = some c → satK ops a c)
    (h : anyOp P cfg ops ro st o cur = some (obs, v)) (hobs : All obs) : Gives P o a w v.toV := by
  have hpure : pureOp P cfg ro st (rdOf ro st (keyOk ops ro st cur)) o = some (obs, v) → Gives P o a w v.toV := fun h =>
    (pure_gives (rd_slOk hs) hnol h).1 (rd_ok hf hcur) (hw.imp id (·.bk)) hobs
  have hpick : ∀ c x y, o.op = .pick c x y → bare (pickOp ops ro st cur c x y) = some (obs, v) → Gives P o a w v.toV := by
    intro c x y ho h
    unfold bare at h
    split at h
    · rename_i u hu
      simp only [Option.some.injEq, Prod.mk.injEq] at h
      obtain ⟨rfl, rfl⟩ := h
      exact (run_pick hf hs hcur ho hu).1
    · simp at h
  cases cur with
  | none =>
    simp only [anyOp, nowOp] at h
    split at h
    · rename_i c x y ho
      exact hpick c x y ho h
    · exact hpure h
  | some g =>
    simp only [anyOp, symOp] at h
    split at h
    · rename_i c x y ho
      exact hpick c x y ho h
    · exact hpure h

theorem wanted_iff {o : Oper} : Region.wanted o (yielded ops a.tmps) = true ↔ (∀ g, o.guard = some g → satK ops a g) := by
  unfold Region.wanted satK
  cases hg : o.guard with
  | none => simp
  | some g =>
    obtain ⟨j, want⟩ := g
    simp

theorem impKey_ok (hf : RelF cfg ops ro st a) : ∀ (n : Nat) (g : Nat × Bool) (k : Prop), impKey (A := sem P Q) ops ro st n g k → satK ops a g → k
  | 0, g, k, h, _ => h
  | n + 1, (j, want), k, h, hg => by
    unfold impKey at h
    have hg' := hg
    unfold satK at hg'
    rw [yielded_iff] at hg'
    obtain ⟨d, hd, hv⟩ := hg'
    rw [hd] at h
    simp only at h
    split at h
    · rename_i b key hget
      have he := hf.fr d _ hget
      -- the guard's own slot was written
      have hkey : ∀ k', key = some k' → satK ops a k' := by
        intro k' hk'
        subst hk'
        apply Classical.byContradiction
        intro hn
        rw [ent_no he hn] at hv
        simp [undef] at hv
      have hb : a.tmps.getD d undef = .bool b.den := ent_yes he hkey
      have hbw : b.den = want := by
        rw [hb] at hv
        injection hv
      have hin : impB (A := sem P Q) b want k → k := by
        intro h
        unfold impB at h
        split at h
        · exact h
        · refine h ?_
          cases want
          · simp only [cond_false]; rw [prop_iff, den_neg, hbw]; rfl
          · simp only [cond_true]; rw [prop_iff, hbw]
      split at h
      · exact hin h
      · rename_i k'
        exact hin (impKey_ok hf n k' _ h (hkey k' rfl))
    · exact h

theorem all_imp (hf : RelF cfg ops ro st a) {n : Nat} {g : Nat × Bool} (hg : satK ops a g) : ∀ {l : List Prop}, All (l.map (impKey (A := sem P Q) ops ro st n g)) → All l
  | [], _ => trivial
  | o :: r, h => ⟨impKey_ok hf n g o h.1 hg, all_imp hf hg h.2⟩

theorem relF_lit {d : Nat} {b : BE (sem P Q)} {c : Bool} (hf : RelF cfg ops ro st a) (hv : a.tmps.getD d undef = .bool b.den) (hb : b.den = c) :
    RelF cfg ops ro { st with ov := putA st.ov d (some (.one (.sc (.bool (.lit c))), none)) } a := by
  refine ⟨hf.size, hf.defers, fun i e he => ?_⟩
  unfold Ro.get at he
  simp only [look_putA] at he
  by_cases h : d = i
  · subst h
    simp only [if_true, Option.some.injEq] at he
    subst he
    show a.tmps.getD d undef = .bool c
    rw [hv, hb]
  · simp only [h, if_false] at he
    exact hf.fr i e he

theorem slAll_lit {d : Nat} {c : Bool} (hs : SlAll ro st) : SlAll ro { st with ov := putA st.ov d (some (.one (.sc (.bool (.lit c))), none)) } := by
  intro i e he
  unfold Ro.get at he
  simp only [look_putA] at he
  by_cases h : d = i
  · subst h
    simp only [if_true, Option.some.injEq] at he
    subst he
    trivial
  · simp only [h, if_false] at he
    have := hs i e he
    revert this
    generalize e.1 = u
    intro hu
    cases u with
    | one x => cases x with
      | agg l => exact hu
      | sc y => cases y <;> first | exact hu | trivial
    | tup l => exact hu
    | undef => trivial

theorem relW_ov {w : World} {ov : List (Nat × Option (Ent (sem P Q)))} : RelW ro { st with ov } w ↔ RelW ro st w :=
  ⟨fun hw => ⟨hw.but, hw.bk, hw.lt, hw.ord, hw.ax, hw.nol, hw.same⟩, fun hw => ⟨hw.but, hw.bk, hw.lt, hw.ord, hw.ax, hw.nol, hw.same⟩⟩

def kdD (P : Program) (cfg : Cfg) (dr : Bool) (o : Oper) : Kd := bif dr then kdOf P cfg o else .hard

theorem bif_pure {c : Bool} {x y : Kd} {p : Prop} (h : (bif c then x else y) = .pure) (hx : x = .pure → p) (hy : y = .pure → p) : p := by
  cases c with
  | true => exact hx h
  | false => exact hy h

theorem kd_load {P : Program} {cfg : Cfg} {o : Oper} (h : kdOf P cfg o = .pure) : isLoad o = false := by
  unfold kdOf at h
  unfold isLoad
  split at h <;> simp_all

theorem kdD_load {P : Program} {cfg : Cfg} {dr : Bool} {o : Oper} (h : kdD P cfg dr o = .pure) : isLoad o = false := by
  unfold kdD at h
  cases dr with
  | true => exact kd_load h
  | false => cases h

/-- Operations that only write new memory, or none, and such as are the last of their kind (for the order of regions that draw). -/
theorem step_ok {dr : Bool} {K : Act → World → Prop} {o : Oper} {i : Nat} {l : DT} {k : St (sem P Q) → Prop} (hi : ops[i]? = some o) (hwant : Region.wanted o (yielded ops a.tmps) = true)
    (hf : RelF cfg ops ro st a) (hs : SlAll ro st) (hex : ∃ w, RelW ro st w) (h : stepOp P cfg dr ops ro st o k)
    (ih : ∀ st' a', k st' → RelF cfg ops ro st' a' → SlAll ro st' → (∃ w, RelW ro st' w) → CanO P ops (kdD P cfg dr) K l (RelW ro st') a') : CanO P ops (kdD P cfg dr) K (.op i l) (RelW ro st) a := by
  simp only [CanO, hi, hwant, if_true]
  unfold stepOp at h
  simp only [cond_eq_ite] at h
  split at h
  · exact h.elim
  · rename_i hd
    have hd : okDst cfg ops st o.dst = true := by simpa using hd
    have hc0 : ∀ c, (none : Option (Nat × Bool)) = some c → satK ops a c := fun c hc => by cases hc
    split at h
    · rename_i obs v hn
      rw [andAll_iff] at h
      obtain ⟨w0, hw0⟩ := hex
      refine .inl ⟨v.toV, fun w hw => now_op (cur := none) hf hs hw0.nol (hw.imp kdD_load id) hc0 hn h.1, ?_⟩
      have hC : RelW ro (st.put o.dst (some (v, none))) = RelW ro st := funext fun w => propext ⟨relW_put', relW_put⟩
      have hsl := any_slOk (cur := none) hs hw0.nol hn
      have := ih _ (a.put o.dst v.toV) h.2 (relF_put hf rfl hd (fun _ _ _ hk => by cases hk) rfl) (slAll_put hs same_refl hsl) ⟨w0, relW_put hw0⟩
      rw [hC] at this; exact this
    · rename_i hn
      split at h
      · exact h.elim
      rename_i hloud
      rcases eff_op (Qx := NoEx) (rd_ok hf hc0) (rd_slOk hs) h with ⟨v, hg, hsl, hp⟩ | ⟨hld, hwp⟩
      · have hnp : kdD P cfg dr o ≠ .pure := by
          intro hpu
          have h1 := kdD_load hpu
          unfold kdD at hpu
          cases dr with
          | false => cases hpu
          | true =>
            have hpu : kdOf P cfg o = .pure := hpu
            unfold loud at hloud
            rw [h1, hpu] at hloud
            simp [Kd.quiet] at hloud
        obtain ⟨w0, hw0⟩ := hex
        refine .inl ⟨v.toV, fun w hw => hg w (hw.resolve_left hnp), ?_⟩
        have := ih _ (a.put o.dst v.toV) hp (relF_put hf rfl hd (fun _ _ _ hk => by cases hk) rfl) (slAll_put hs same_refl hsl) ⟨w0, relW_put hw0⟩
        have hC : RelW ro (st.put o.dst (some (v, none))) = RelW ro st := funext fun w => propext ⟨relW_put', relW_put⟩
        rw [hC] at this; exact this
      · refine .inr ⟨?_, fun w hw => Oper.wp_mono (fun a' w' hl => ?_) (hwp w hw)⟩
        · unfold kdD
          cases dr with
          | false => rfl
          | true =>
            have hloud : loud P cfg true o = false := by simpa using hloud
            unfold loud at hloud
            rw [hld] at hloud
            simpa using hloud
        · obtain ⟨v, st', hp, rfl, ⟨hw', hsf⟩, hsl, hsame⟩ := hl
          refine ⟨v.toV, rfl, RelW ro (st'.put o.dst (some (v, none))), relW_put hw', ?_, ?_⟩
          · intro hso x hx
            refine hsf ?_ x (relW_put' hx)
            unfold kdD at hso
            cases dr with
            | false => cases hso
            | true => exact hso
          · exact ih _ _ hp (relF_put hf hsame.ov hd (fun _ _ _ hk => by cases hk) rfl) (slAll_put hs hsame hsl) ⟨_, relW_put hw'⟩

theorem runOps_ok {dr : Bool} {K : Act → World → Prop} : ∀ (n : Nat) (l : DT) (st : St (sem P Q)) (a : Act) (k : St (sem P Q) → Prop), runOps P cfg dr ops ro n l st k → RelF cfg ops ro st a → SlAll ro st → (∃ w, RelW ro st w) →
    (∀ st' a', k st' → RelC cfg ro st' a' → SlAll ro st' → ∀ w, RelW ro st' w → K a' w) → CanO P ops (kdD P cfg dr) K l (RelW ro st) a
  | 0, l, st, a, k, h, _, _, _, _ => h.elim
  | n + 1, .alt s t, st, a, k, h, hf, hs, hex, hk => by
    obtain ⟨h1, h2⟩ := h
    exact ⟨runOps_ok n s st a k h1 hf hs hex hk, runOps_ok n t st a k h2 hf hs hex hk⟩
  | n + 1, .stop, st, a, k, h, hf, hs, hex, hk => by
    intro w hw
    exact hk (endSt st) a h (relC_end hf) (slAll_end hs) w (relW_end.2 hw)
  | n + 1, .op i l, st, a, k, h, hf, hs, hex, hk => by
    unfold runOps at h
    split at h
    · exact h.elim
    · rename_i o hi
      split at h
      · -- it is carried out
        rename_i hy
        have hwant : Region.wanted o (yielded ops a.tmps) = true := by
          rw [wanted_iff]
          intro g hg
          rw [hg] at hy
          have := keyStat_ok hf 50 g
          simp only [optKS] at hy
          rw [hy] at this; exact this
        exact step_ok hi hwant hf hs hex h fun st' a' hk' hf' hs' hex' => runOps_ok n l st' a' k hk' hf' hs' hex' hk
      · -- it is passed over
        rename_i hno
        have hwant : ¬ Region.wanted o (yielded ops a.tmps) = true := by
          rw [wanted_iff]
          intro hall
          cases hg : o.guard with
          | none => rw [hg] at hno; simp [optKS] at hno
          | some g =>
            rw [hg] at hno
            simp only [optKS] at hno
            have := keyStat_ok hf 50 g
            rw [hno] at this
            exact this (hall g hg)
        simp only [cond_eq_ite] at h
        split at h
        · rename_i hd
          simp only [CanO, hi, hwant, Bool.false_eq_true, if_false]
          have := runOps_ok n l _ (a.put o.dst undef) k h (relF_put (v := .undef) hf rfl hd (fun _ _ _ hk => by cases hk) rfl) (slAll_put hs same_refl trivial) (hex.imp fun _ h => relW_put h) hk
          have hC : RelW ro (st.put o.dst (some (.undef, none))) = RelW ro st := funext fun w => propext ⟨relW_put', relW_put⟩
          rw [hC] at this; exact this
        · exact h.elim
      · -- under its guard
        rename_i j0 g hsym hg
        rw [hg] at hsym
        simp only [optKS] at hsym
        have hstat := keyStat_ok hf 50 g
        rw [hsym] at hstat
        split at h
        · rename_i obs v hop
          simp only [cond_eq_ite] at h
          split at h
          · rename_i hd
            simp only [Bool.and_eq_true] at hd
            rw [andAll_iff] at h
            obtain ⟨hobs, h⟩ := h
            have hself : ∀ d, o.dst = some d → ∀ k', some g = some k' → dstOf ops k'.1 ≠ some d := by
              intro d hdd k' hk' he
              obtain rfl := Option.some.inj hk'
              have := hd.2
              unfold noSelf at this
              rw [hdd, he] at this
              simp at this
            have hC : ∀ e, RelW ro (st.put o.dst e) = RelW ro st := fun e => funext fun w => propext ⟨relW_put', relW_put⟩
            simp only [CanO, hi]
            by_cases hsat : satK ops a g
            · have hwant : Region.wanted o (yielded ops a.tmps) = true := by
                rw [wanted_iff]; intro g' hg'; rw [hg] at hg'; obtain rfl := Option.some.inj hg'; exact hsat
              have hcur : ∀ c, some g = some c → satK ops a c := fun c hc => by obtain rfl := Option.some.inj hc; exact hsat
              have hob := all_imp hf hsat hobs
              rw [if_pos hwant]
              obtain ⟨w0, hw0⟩ := hex
              have hsl := any_slOk (cur := some g) hs hw0.nol hop
              refine .inl ⟨v.toV, fun w hw => now_op (cur := some g) hf hs hw0.nol (hw.imp kdD_load id) hcur hop hob, ?_⟩
              have := runOps_ok n l _ (a.put o.dst v.toV) k h (relF_put (key := some g) hf rfl hd.1 hself ⟨fun _ => rfl, fun hn => absurd hsat hn⟩) (slAll_put hs same_refl hsl) ⟨w0, relW_put hw0⟩ hk
              rw [hC] at this; exact this
            · have hwant : ¬ Region.wanted o (yielded ops a.tmps) = true := by
                rw [wanted_iff]; intro hall; exact hsat (hall g hg)
              rw [if_neg hwant]
              obtain ⟨w0, hw0⟩ := hex
              have hsl := any_slOk (cur := some g) hs hw0.nol hop
              have := runOps_ok n l _ (a.put o.dst undef) k h (relF_put (key := some g) hf rfl hd.1 hself ⟨fun hy => absurd hy hsat, fun _ => rfl⟩) (slAll_put hs same_refl hsl) ⟨w0, relW_put hw0⟩ hk
              rw [hC] at this; exact this
          · exact h.elim
        · split at h
          · exact h.elim
          · rename_i d0 hd0
            obtain ⟨d, key, b, h1, h2, h3⟩ := hstat
            rw [hd0] at h1
            obtain rfl := Option.some.inj h1
            rw [h2] at h
            obtain ⟨ht, hfa⟩ := h
            cases hb : b.den
            · have := runOps_ok n (.op i l) _ a k (hfa (by rw [prop_iff, den_neg, hb]; rfl)) (relF_lit hf h3 hb) (slAll_lit hs) (hex.imp fun _ h => relW_ov.2 h) hk
              have hC : RelW ro { st with ov := putA st.ov d0 (some (.one (.sc (.bool (.lit false))), none)) } = RelW ro st := funext fun w => propext relW_ov
              rw [hC] at this; exact this
            · have := runOps_ok n (.op i l) _ a k (ht (by rw [prop_iff, hb])) (relF_lit hf h3 hb) (slAll_lit hs) (hex.imp fun _ h => relW_ov.2 h) hk
              have hC : RelW ro { st with ov := putA st.ov d0 (some (.one (.sc (.bool (.lit true))), none)) } = RelW ro st := funext fun w => propext relW_ov
              rw [hC] at this; exact this
      · exact h.elim
end
end Go.Sx
