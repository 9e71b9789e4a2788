/- Plan: the walk. -/
import Derived.Test.YtblafknmfblgfaaFaH
set_option linter.unusedVariables false
set_option linter.unusedSimpArgs false
namespace Go.Proofs.Ytblafknmfblgfaa
open Go.Sx Go.RowKit

def PlanRes (O : Nat → Prop) (B fb : Nat) (w : World) (P : Pl) (F : Fm) (v : Value) (w' : World) : Prop := ∃ (G : Fm) (outs : List (Int × Int)) (out : Option Addr) (outc : Nat) (P' : Pl),
  v = .tuple #[.slice out outs.length outc, .int .i64 0] ∧ Planned F G outs ∧ okHs G.hosts ∧ G.jobs.map (·.job) = F.jobs.map (·.job) ∧ P'.jp = P.jp ∧ FXO O B w' fb P' G ∧ Fr (ft fb P.jp) w w' ∧ Own w.heap.size w' T_Start 2 out outs.length outc (outs.flatMap encO) ∧ outs.length ≤ 60
/-- The cell of what was taken. -/
structure XC (fb : Nat) (jp : Option Addr) (Sq : Nat → Prop) (out x : Option Addr) (w : World) (a b : Int) : Prop where
  own : Own 0 w T_Item 2 x 1 1 [.int .i64 a, .int .i64 b]
  ap : ∀ c, x = some c → ¬ ft fb jp c.block ∧ ¬ Sq c.block ∧ ∀ o, out = some o → o.block ≠ c.block
theorem XC.ext {fb : Nat} {jp : Option Addr} {Sq : Nat → Prop} {out x : Option Addr} {w w' : World} {a b : Int} (h : XC fb jp Sq out x w a b) (e : Ext w w') : XC fb jp Sq out x w' a b := ⟨h.own.ext e, h.ap⟩
theorem XC.fr {fb : Nat} {jp : Option Addr} {Sq S : Nat → Prop} {out x : Option Addr} {w w' : World} {a b : Int} (h : XC fb jp Sq out x w a b) (f : Fr S w w') (hS : ∀ c, S c → ft fb jp c ∨ Sq c ∨ ∃ o, out = some o ∧ o.block = c) : XC fb jp Sq out x w' a b :=
  ⟨h.own.fr f fun c hc hs => by
    obtain ⟨h1, h2, h3⟩ := h.ap c hc
    rcases hS _ hs with h | h | ⟨o, ho, hk⟩
    · exact h1 h
    · exact h2 h
    · exact h3 o ho hk, h.ap⟩
theorem XC.c0 {fb : Nat} {jp : Option Addr} {Sq : Nat → Prop} {out x : Option Addr} {w : World} {a b : Int} (h : XC fb jp Sq out x w a b) : x ≠ none ∧ Go.Sx.cell w x 0 = some (.int .i64 a) ∧ Go.Sx.cell w x 1 = some (.int .i64 b) ∧ Go.Sx.cell w (pAdd x 1) 0 = some (.int .i64 b) :=
  ⟨h.own.ne1 (by omega) (by omega), h.own.cells 0 _ rfl, h.own.cells 1 _ rfl, by rw [cell_pAdd]; exact h.own.cells 1 _ rfl⟩

def PI (O : Nat → Prop) (B fb qb : Nat) (w : World) (P : Pl) (F : Fm) (Sq : Nat → Prop) (out : Option Addr) (outl outc : Nat) (x : Option Addr) (is : Bool) (w' : World) : Prop := ∃ (G : Fm) (outs : List (Int × Int)) (T : List Int) (H : List Th), outl = outs.length ∧ QS w.heap.size Sq F qb w' H ∧ H.length ≤ 60 ∧
  ((is = false ∧ PS O B fb w P F Sq w' G outs T [] out outc) ∨ (is = true ∧ ∃ a b, XC fb P.jp Sq out x w' a b ∧ (∀ u ∈ H, before F b u.id) ∧ PS O B fb w P F Sq w' G outs T (b :: H.map (·.id)) out outc))
def PM (qb : Nat) (is : Bool) (w' : World) : Nat := if is = true then qlen qb w' + 1 else 0

section
variable {O Sq : Nat → Prop} {B fb qb : Nat} {w : World} {P : Pl} {F G : Fm} {outs : List (Int × Int)} {T : List Int} {out : Option Addr} {outc : Nat}
theorem ps_len {w' : World} {Rm : List Int} (s : PS O B fb w P F Sq w' G outs T Rm out outc) (hF : F.jobs.length ≤ 60) : outs.length ≤ 60 ∧ T.length + Rm.length ≤ 60 := by
  have h1 := s.perm.length_eq
  rw [List.length_append] at h1
  have h2 := rdyTo_len F F.jobs.length
  have h3 := s.len
  unfold rdy at h1
  omega
/-- The next one is taken into a new cell. -/
theorem plan_tail {w24 : World} {H : List Th} {m0 n9 : Nat} (h9 : n9 ≤ w24.heap.size) (q : QS w.heap.size Sq F qb w24 H) (hn : H.length ≤ 60) (s : PS O B fb w P F Sq w24 G outs T (H.map (·.id)) out outc) (hq : ∀ b, Sq b → w.heap.size ≤ b ∧ b < w24.heap.size) (hm : m0 = H.length + 1) (c1 c2 : Int) :
    ∀ w45, Ext w24 w45 → New w45 T_Item [.int .i64 0, .int .i64 0] fun p46 w46 => Store w46 p46 [.int .i64 c1, .int .i64 c2] [] fun w47 => ∀ w48, Ext w47 w48 →
      FnP Try.prog F_queue_Queue_Take #[.pointer (ptr qb)] w48 fun v49 w49 => ∃ a b : Int, ∃ is : Bool, v49 = .tuple #[.agg #[.int .i64 a, .int .i64 b], .bool is] ∧ Store w49 p46 [.int .i64 a, .int .i64 b] [] fun w53 =>
        (n9 ≤ w53.heap.size ∧ PI O B fb qb w P F Sq out outs.length outc p46 is w53) ∧ PM qb is w53 < m0 := by
  intro w45 e45
  refine new_own (by intro v hv; simp at hv; subst hv; rfl) fun w46 o46 e46 => ?_
  refine store_own (off := 0) (o46 w45.heap.size (Nat.le_refl _)) (map_add0 _) (by simp) (by simp) (by intro v hv; simp at hv; rcases hv with rfl | rfl <;> rfl) (by simp) fun w47 o47 g47 w48 e48 => ?_
  have h4548 : Ext w45 w48 := (g47.ext e46 (o46 w45.heap.size (Nat.le_refl _))).trans e48
  have h2448 := e45.trans h4548
  refine (take_Q (q.ext h2448) hn).mono fun v w49 ⟨a, b, is, Y, hv, q49, f49, hcase⟩ => ⟨a, b, is, hv, ?_⟩
  have hsz := e45.size
  have hps : ∀ c, (some ⟨w45.heap.size, 0, none⟩ : Option Addr) = some c → ¬ Sq c.block := fun c hc hs => by cases hc; have := (hq _ hs).2; simp only at this; omega
  have o49 := (o47.ext e48).fr f49 hps
  refine store_own (off := 0) o49 (map_add0 _) (by simp [setAt]) (by simp) (by intro v hv; simp at hv; rcases hv with rfl | rfl <;> rfl) (by simp) fun w53 o53 g53 => ?_
  have f53 : Fr (fun c => c = w45.heap.size) w49 w53 := fr_grew g53 fun c hc => by cases hc; rfl
  have fall : Fr Sq w24 w53 := ((fr_ext h2448).tr f49).trans f53 fun c hc => .inr (by subst hc; exact hsz)
  have q53 : QS w.heap.size Sq F qb w53 Y := q49.fr f53 fun c hc h => by have := (hq _ hc).2; omega
  have s53 := s.fr' fall fun c hc => (hq c hc).1
  have hxap : ∀ c, (some ⟨w45.heap.size, 0, none⟩ : Option Addr) = some c → ¬ ft fb P.jp c.block ∧ ¬ Sq c.block ∧ ∀ o, out = some o → o.block ≠ c.block := fun c hc => by
    refine ⟨fun hf => ?_, hps c hc, fun o ho h => ?_⟩
    · obtain ⟨PP, h1, x⟩ := s.fx
      rw [← h1] at hf
      have := (x.foot hf).2
      cases hc
      simp only at this; omega
    · have := (s.own.lt o ho).2
      cases hc
      simp only at h; omega
  have h953 : n9 ≤ w53.heap.size := by have := fall.size; omega
  rcases hcase with ⟨rfl, rfl, rfl⟩ | ⟨rfl, hlt, hbef, hperm⟩
  · exact ⟨⟨h953, G, outs, T, [], rfl, q53, by simp, .inl ⟨rfl, s53⟩⟩, by unfold PM; simp; omega⟩
  · refine ⟨⟨h953, G, outs, T, Y, rfl, q53, by omega, .inr ⟨rfl, a, b, ⟨o53.weak (Nat.zero_le _), hxap⟩, hbef, s53.shift hperm⟩⟩, ?_⟩
    unfold PM
    rw [q53.len]
    simp; omega

theorem FXO.put2 (x : FXO O B w fb P F) {jp : Option Addr} (hj : P.jp = jp) {k : Int} (h0 : 0 ≤ k) (h1 : k < F.jobs.length) {m : Nat} (hm : 11 ≤ m ∧ m ≤ 15) (v : Int) {ns : List Nat} (hns : ∀ b ∈ ns, ¬ ft fb jp b) {K : World → Prop}
    (hk : ∀ w' P', P'.jp = jp → FXO O B w' fb P' (stF F k.toNat m v) → Fr (ft fb jp) w w' → K w') : Store w (pAdd (pIdx jp k 16) m) [.int .i64 v] ns K := by
  subst hj
  exact x.put h0 h1 hm v hns hk
theorem perm_in {A B C : List Int} {x : Int} (h : (A ++ (x :: B)).Perm C) : x ∈ C := h.mem_iff.1 (by simp)
theorem len_of_job {F G : Fm} (h : G.jobs.map (·.job) = F.jobs.map (·.job)) : G.jobs.length = F.jobs.length := by have := congrArg List.length h; simpa using this
theorem job_of {F G : Fm} (h : G.jobs.map (·.job) = F.jobs.map (·.job)) (k : Nat) (hk : k < F.jobs.length) : (jobAt G k).job = (jobAt F k).job := by
  have hl := len_of_job h
  have h1 := congrArg (fun l => l[k]?) h
  simp only [List.getElem?_map, List.getElem?_eq_getElem (show k < G.jobs.length by omega), List.getElem?_eq_getElem hk] at h1
  simp only [jobAt, List.getD_eq_getElem?_getD, List.getElem?_eq_getElem (show k < G.jobs.length by omega), List.getElem?_eq_getElem hk]
  exact Option.some.inj h1
theorem plan_k (x : FXO O B w fb P F) (ha : aftOk F) (hh : okHs F.hosts) : FnP Try.prog F_farm_Farm_Plan #[.pointer (ptr fb)] w (PlanRes O B fb w P F) := by
  have ne := ptr_ne fb
  have hl0 := x.jO.1
  refine ok_farm_Farm_Plan (ptr fb) w _ fun w0 h0 => new_k.mono fun v w1 ⟨e1, qb, mb, hv, hqb, hQ⟩ => ⟨e1, _, hv, ne, ne, ?_⟩
  have e01 := h0.trans e1
  have x1 := x.ext e01
  refine ⟨_, _, _, x1.cell (i := 6) rfl, ?_⟩
  rw [x1.len]
  refine ⟨fun k w' => 0 ≤ k ∧ k ≤ F.jobs.length ∧ Fr (ft fb P.jp) w w' ∧ ∃ (born : Int) (p : Option Addr) (c : Nat) (m : List (Int × Value)) (H : List Th) (P' : Pl), P'.jp = P.jp ∧ QQ w.heap.size w' qb mb born p c H m ∧ Rel H m ∧ HQ F k.toNat born H ∧ FXO (fun b => O b ∨ FootQ mb qb p H b) B w' fb P' F, fun k _ => (F.jobs.length - k).toNat, ⟨by omega, by omega, fr_ext e01, 0, none, 0, [], [], P, rfl, hQ _ h0.size, ⟨by simp, fun id v h => by simp [mget] at h⟩, ⟨by simp [rdyTo], by simp, by simp, by omega, by omega⟩, ?_⟩, ?_⟩
  · exact x.more e01 fun b hb => hb.imp id fun h => (hQ _ h0.size).foot h
  rintro k w8 ⟨hk0, hk1, f8, born, p, c, m, H, P8, hP8, q8, r8, hq8, x8⟩
  have hkn : ((k.toNat : Nat) : Int) = k := by omega
  have hk1n : (k + 1).toNat = k.toNat + 1 := by omega
  have hHl : H.length ≤ 60 := by
    have := hq8.1.length_eq
    have := rdyTo_len F k.toNat
    simp at *; omega
  refine ⟨fun hlt => ⟨ne, ne, _, _, _, x8.cell (i := 6) rfl, ?_⟩, fun hge w9 h9 => ?_⟩
  · obtain ⟨r, hr, hF, hjp, hne, _, g, hJ, hok, hwf⟩ := x8.st hk0 (by omega)
    have hja : jobAt F k.toNat = r.s := jobAt_of hF
    refine ⟨hjp, hk0, by rw [x8.len]; omega, fun w12 h12 => (ready_k (x8.ext h12) ha hk0 (by omega)).mono fun v w13 ⟨e13, hv⟩ => ⟨e13, _, hv, fun hb => ⟨hne, hne, by rw [pAdd_zero]; exact hne, _, by rw [pAdd_zero]; exact g 1 _ rfl, i64 (by omega), fun w16 h16 => ?_⟩, fun hb => ⟨i64 (by omega), ⟨by omega, by omega, f8, born, p, c, m, H, P8, hP8, q8, r8, ?_, x8⟩, by simp only []; omega⟩⟩⟩
    · obtain ⟨hq1, hq2, hq3, hq4, hq5⟩ := hq8
      have hidk : ∀ t ∈ H, t.id ≠ k + 1 := fun t ht h => by
        have := (mem_rdyTo.1 (hq1.mem_iff.1 (List.mem_map_of_mem ht))).2.1
        omega
      refine (put_k (q8.ext h16) r8 (by omega) (by omega) (Nat.le_trans f8.size h16.size) r.s.job.prio (k + 1)).mono fun v w17 ⟨e, hv, hbad, hgood⟩ => ⟨e, hv, i64 (by omega), ?_⟩
      have he : e = 0 := by
        by_cases h : e = 0
        · exact h
        · rcases (hbad h).2 with ⟨⟨t, ht, hid⟩, _⟩ | ⟨h200, _⟩
          · exact absurd hid (hidk t ht)
          · omega
      obtain ⟨_, _, b, p', c', Y, qY, hp, f17, hgrow⟩ := hgood he
      have r17 := rel_put r8 (t := ⟨b, r.s.job.prio, k + 1, born + 1⟩) hidk hp
      have hq17 := hq_put (k := k.toNat) (b := b) ⟨hq1, hq2, hq3, hq4, hq5⟩ (by rw [hja]; unfold jobAt at hja; rw [hja] at hb; exact hb) (Y := Y) (by
        rw [hja, hkn]; exact hp)
      have fall : Fr (FootQ mb qb p H) w8 w17 := (fr_ext h16).tr f17
      refine ⟨⟨by omega, by omega, f8.trans fall fun b hb => .inr ((q8.foot hb).1), born + 1, p', c', _, Y, P8, hP8, qY, r17, ?_, ?_⟩, by simp only []; omega⟩
      · rw [hk1n]; exact hq17
      · refine x8.go fall (fun b hb => .inr hb) fun b hb => ?_
        rcases hb with hb | hb
        · exact .inl (.inl hb)
        · rcases hgrow b hb with h | h
          · exact .inl (.inr h)
          · exact .inr ⟨Nat.le_trans h16.size h, (qY.foot hb).2⟩
    · rw [hk1n]
      obtain ⟨hq1, hq2, hq3, hq4, hq5⟩ := hq8
      refine ⟨?_, hq2, hq3, hq4, by omega⟩
      unfold rdyTo
      rw [if_neg (by rw [hja]; unfold jobAt at hja; rw [hja] at hb; rw [hb]; simp)]
      exact hq1
  -- the queue is full
  have hkl : k.toNat = F.jobs.length := by omega
  rw [hkl] at hq8
  obtain ⟨hq1, hq2, hq3, hq4, hq5⟩ := hq8
  let Sq : Nat → Prop := FootQ mb qb p H
  have hSq : ∀ b, Sq b → w.heap.size ≤ b ∧ b < w8.heap.size := fun b hb => q8.foot hb
  have Q8 : QS w.heap.size Sq F qb w8 H := ⟨⟨mb, born, p, c, m, q8, r8, fun b hb => hb⟩, by
    have : (H.map (·.id)).Nodup := (hq1.nodup_iff).2 (rdyTo_nodup F _)
    exact this, fun t ht => (hq2 t ht).1, hq3⟩
  have S8 : PS O B fb w P F Sq w8 F [] [] (H.map (·.id)) none 0 := ⟨⟨P8, hP8, x8.less fun b hb => by
    rcases hb with hb | hb | ⟨a, ha, _⟩
    · exact .inl hb
    · exact .inr hb
    · cases ha⟩, f8, .nil F, hh, rfl, Own.nil, fun a ha => (by cases ha), hq1, List.Pairwise.nil, by simp, by simp⟩
  refine (take_Q (Q8.ext h9) hHl).mono fun v w10 ⟨a, b, is, Y, hv, Q10, f10, hcase⟩ => ⟨a, b, is, hv, fun w14 h14 => ?_⟩
  have s10 := (S8.ext h9).fr' f10 fun c hc => (hSq c hc).1
  have s14 := s10.ext h14
  have Q14 := Q10.ext h14
  refine new_own (by intro v hv; simp at hv; subst hv; rfl) fun w15 o15 e15 => ?_
  refine store_own (off := 0) (o15 w14.heap.size (Nat.le_refl _)) (map_add0 _) (by simp) (by simp) (by intro v hv; simp at hv; rcases hv with rfl | rfl <;> rfl) (by simp) fun w16 o16 g16 => ?_
  have e16 : Ext w14 w16 := g16.ext e15 (o15 w14.heap.size (Nat.le_refl _))
  have s16 := s14.ext e16
  have Q16 := Q14.ext e16
  have hsz14 : w8.heap.size ≤ w14.heap.size := Nat.le_trans (Nat.le_trans h9.size f10.size) h14.size
  refine ⟨fun out outl outc x is w' => w14.heap.size ≤ w'.heap.size ∧ PI O B fb qb w P F Sq out outl outc x is w', fun out outl outc x is w' => PM qb is w', ⟨e16.size, ?_⟩, ?_⟩
  · rcases hcase with ⟨rfl, rfl, rfl⟩ | ⟨rfl, hlt, hbef, hperm⟩
    · exact ⟨F, [], [], [], rfl, Q16, by simp, .inl ⟨rfl, s16⟩⟩
    · refine ⟨F, [], [], Y, rfl, Q16, by omega, .inr ⟨rfl, a, b, ⟨o16.weak (Nat.zero_le _), fun c hc => ⟨fun hf => ?_, fun hs => ?_, fun o ho => by cases ho⟩⟩, hbef, s16.shift hperm⟩⟩
      · obtain ⟨PP, h1, x14⟩ := s14.fx
        rw [← h1] at hf
        have := (x14.foot hf).2
        cases hc
        simp only at this; omega
      · have := (hSq _ hs).2
        cases hc
        simp only at this; omega
  rintro out outl outc xp is w21 ⟨hsz21, G, outs, T, H, rfl, Q21, hH, hc⟩
  refine ⟨fun his => ?_, fun his w22 h22 => ?_⟩
  · rcases hc with ⟨h, _⟩ | ⟨_, a, b, xc, hbef, s21⟩
    · rw [his] at h; cases h
    have hsq21 : ∀ b, Sq b → w.heap.size ≤ b ∧ b < w21.heap.size := fun b hb => by have := hSq b hb; omega
    obtain ⟨xn, _, _, xb⟩ := xc.c0
    obtain ⟨PP, hPP, x21⟩ := s21.fx
    have hbin := mem_rdyTo.1 (perm_in s21.perm)
    have hGl := len_of_job s21.job
    have hin : inJ G b := ⟨hbin.1, by rw [hGl]; exact hbin.2.1⟩
    have hk : (b - 1).toNat < G.jobs.length := by have := hin.1; have := hin.2; omega
    have hls := ps_len s21 hl0
    refine ⟨xn, b, xb, fun w23 h23 => (at_k (x21.ext h23) b (i64 (by have := hin.1; have := hin.2; omega))).mono fun v w24 ⟨e24, hv⟩ => ⟨e24, ?_⟩⟩
    rcases hv with ⟨hno, _⟩ | ⟨_, _, rfl⟩
    · exact absurd hin hno
    have e2124 := h23.trans e24
    have x24 := x21.ext e2124
    have s24 := s21.ext e2124
    have Q24 := Q21.ext e2124
    have xc24 := xc.ext e2124
    have hsq24 : ∀ b, Sq b → w.heap.size ≤ b ∧ b < w24.heap.size := fun b hb => by have := hsq21 b hb; have := e2124.size; omega
    obtain ⟨r, hr, hF, hjp, hne, g', g, hJ, hok, hwf⟩ := x24.st (k := b - 1) (by have := hin.1; omega) (by have := hin.2; omega)
    have hja : jobAt G (b - 1).toNat = r.s := jobAt_of hF
    have c5 : ∀ (j : Nat) (v : Value), (encS r)[5 + j]? = some v → Go.Sx.cell w24 (pAdd (pAdd (pIdx PP.jp (b - 1) 16) 0) 5) j = some v := fun j v hv => by
      rw [pAdd_zero, cell_pAdd]; exact g' _ _ hv
    have c2 : ∀ (j : Nat) (v : Value), (encS r)[2 + j]? = some v → Go.Sx.cell w24 (pAdd (pAdd (pIdx PP.jp (b - 1) 16) 0) 2) j = some v := fun j v hv => by
      rw [pAdd_zero, cell_pAdd]; exact g' _ _ hv
    have n0 : pAdd (pIdx PP.jp (b - 1) 16) 0 ≠ none := by rw [pAdd_zero]; exact hne
    have n5 : pAdd (pAdd (pIdx PP.jp (b - 1) 16) 0) 5 ≠ none := fun h => n0 (pAdd_none.1 h)
    have n2 : pAdd (pAdd (pIdx PP.jp (b - 1) 16) 0) 2 ≠ none := fun h => n0 (pAdd_none.1 h)
    have hO := x24.hO
    refine ⟨_, rfl, ne, ne, _, _, _, x24.cell (i := 0) rfl, hne, hne, n0, n5, _, c5 0 _ rfl, _, c5 1 _ rfl, _, c5 2 _ rfl, _, c5 3 _ rfl, _, _, _, c5 4 _ rfl, hne, hne, n0, n2, _, c2 0 _ rfl, _, c2 1 _ rfl, _, c2 2 _ rfl, fun w39 h39 => ?_⟩
    refine (Best_k PP.hp PP.hc G.hosts (by omega) hO.2 r.s.job.ask r.pa r.ca hwf.ask r.s.job.nd w39 ((x24.ext h39).hs w39 (Fr.refl _ _)) (hJ.1.ext h39)).mono fun v w40 ⟨e40, k, e, hv, hres⟩ => ⟨e40, k, e, hv, ?_⟩
    have hall : okAll G.hosts r.s.job.ask r.s.job.nd := ⟨s24.hs, hok.ask, hok.nd⟩
    have hm : PM qb is w21 = H.length + 1 := by unfold PM; rw [his, if_pos rfl, Q21.len]
    refine ⟨fun he => ?_, fun he => ?_⟩
    · have hsk : fitsJ G b = [] := by
        rcases hres with ⟨_, _, _, h⟩ | ⟨h, _⟩
        · have := h hall
          unfold fitsJ
          rw [hja]
          exact this
        · exact absurd h he
      obtain ⟨_, x0, x1, _⟩ := xc24.c0
      have s' : PS O B fb w P F Sq w24 G outs (T ++ [b]) (H.map (·.id)) out outc := ⟨s24.fx, s24.fr, s24.run.snoc_skip hsk, s24.hs, s24.job, s24.own, s24.ap, by simpa using s24.perm, List.pairwise_append.2 ⟨s24.pw, by simp, fun y hy z hz => by simp at hz; subst hz; exact s24.lt y hy _ (by simp)⟩, fun y hy z hz => by
        rcases List.mem_append.1 hy with hy | hy
        · exact s24.lt y hy z (List.mem_cons_of_mem _ hz)
        · simp at hy; subst hy
          obtain ⟨u, hu, rfl⟩ := List.mem_map.1 hz
          exact hbef u hu, by rw [List.length_append]; have := s24.len; simp; omega⟩
      exact ⟨xn, _, x0, _, x1, plan_tail (by have := e2124.size; omega) Q24 hH s' hsq24 hm a b⟩
    · obtain ⟨_, _, hbest⟩ : e = 0 ∧ okAll G.hosts r.s.job.ask r.s.job.nd ∧ BestIs G.hosts r.s.job.ask r.s.job.nd k := by
        rcases hres with ⟨h, _⟩ | h
        · exact absurd he h
        · exact h
      obtain ⟨hk0, hk1, hfit⟩ := mem_fits.1 hbest.1
      have hkI : InR .i64 k := i64 (by omega)
      refine ⟨ne, ne, _, _, _, x24.cell (i := 0) rfl, hne, hne, n0, n2, _, c2 0 _ rfl, _, c2 1 _ rfl, _, c2 2 _ rfl, fun w49 h49 => ?_⟩
      have x49 := x24.ext h49
      refine (Take_k PP.hp PP.hc G.hosts (by omega) hO.2 k r.s.job.nd w49 (x49.hs w49 (Fr.refl _ _))).mono fun v w50 ⟨e50, p', n', c', e', hv, htk⟩ => ⟨e50, p', n', c', e', hv, ne, ne, ?_⟩
      have hfN : fitN r.s.job.nd (subN (G.hosts.getD k.toNat default).has (G.hosts.getD k.toNat default).used) := by
        unfold fitI at hfit
        rw [Bool.and_eq_true, decide_eq_true_iff] at hfit
        exact hfit.2
      rcases htk with ⟨_, _, hno⟩ | ⟨_, _, _, _, rfl, _, _, _, hS⟩
      · exact absurd ⟨hok.nd, hfN⟩ (hno s24.hs hk0 hk1)
      have x50 := x49.ext e50
      refine store_own (off := 0) x50.slot rfl (by simp) (by simp) (by intro u hu; simp at hu; subst hu; rfl) (by simp) fun w55 o55 g55 => ⟨ne, ne, ?_⟩
      have hG : takeF G (b - 1).toNat k = { G with hosts := G.hosts.set k.toNat (usedH (G.hosts.getD k.toNat default) (addN (G.hosts.getD k.toNat default).used r.s.job.nd)) } := by unfold takeF hostAt; rw [hja]
      have fg : Fr (ft fb PP.jp) w50 w55 := fr_grew g55 fun a ha => by cases ha; exact .inl rfl
      obtain ⟨y55, f55⟩ := x50.slot_to (F' := takeF G (b - 1).toNat k) (P' := { PP with hp := p', hc := c' }) (by
        rw [hG]
        show Own B w55 T_farm_Farm 7 (ptr fb) 1 1 [.slice p' (G.hosts.set _ _).length c', _, _, _, _, _, _]
        rw [List.length_set]; exact o55) g55 rfl rfl rfl rfl (fun w'' kf => by
          rw [hG]
          exact hS (ftO (OQ O Sq out) fb PP.jp) (fun b hb => by
            rcases hb with hb | hb
            · exact x49.olt b hb
            · exact (x49.foot hb).2) w'' ((fg.mono fun b hb => .inr hb).tr kf)) (by
        rw [hG]
        refine ⟨by show (G.hosts.set _ _).length ≤ 30; rw [List.length_set]; exact hO.1, fun h hh => ?_⟩
        have hh : h ∈ G.hosts.set k.toNat (usedH (G.hosts.getD k.toNat default) (addN (G.hosts.getD k.toNat default).used r.s.job.nd)) := hh
        rcases List.mem_or_eq_of_mem_set hh with hh | rfl
        · exact hO.2 h hh
        · have := hO.2 _ (getD_mem G.hosts default (i := k.toNat) (by omega))
          exact this)
      refine ⟨G.now, y55.cell (i := 5) rfl, hne, hne, ?_⟩
      refine y55.put2 (jp := PP.jp) rfl (k := b - 1) (by have := hin.1; omega) (by have := hin.2; exact (by omega : b - 1 < (G.jobs.length : Int))) (by omega) 2 (by simp) fun w57 P1 hP1 y57 f57 => ⟨hne, hne, ?_⟩
      refine y57.put2 hP1 (k := b - 1) (by have := hin.1; omega) (by rw [st_len]; have := hin.2; exact (by omega : b - 1 < (G.jobs.length : Int))) (by omega) k (by simp) fun w58 P2 hP2 y58 f58 => ⟨hne, hne, ?_⟩
      refine y58.put2 hP2 (k := b - 1) (by have := hin.1; omega) (by rw [st_len, st_len]; have := hin.2; exact (by omega : b - 1 < (G.jobs.length : Int))) (by omega) G.now (by simp) fun w59 P3 hP3 y59 f59 => ⟨xn, ?_⟩
      have y59 : FXO (OQ O Sq out) B w59 fb P3 (runF G (b - 1).toNat k) := y59
      have f2459 : Fr (ft fb PP.jp) w24 w59 := ((((fr_ext (h49.trans e50)).tr f55).tr f57).tr f58).tr f59
      have hdis : ∀ c, OQ O Sq out c → ¬ ft fb PP.jp c := x24.odis
      have hxd : ∀ c, xp = some c → ¬ ft fb PP.jp c.block := fun c hc => by rw [hPP]; exact (xc24.ap c hc).1
      obtain ⟨_, x0, x1, _⟩ := xc24.c0
      have x1' := cell_fr x1 f2459 hxd
      refine ⟨b, by rw [cell_pAdd]; exact x1', ?_⟩
      have o59 := s24.own.fr f2459 fun c hc => hdis _ (.inr (.inr ⟨c, hc, rfl⟩))
      have hsz24 : w.heap.size ≤ w24.heap.size := s24.fr.size
      have hsz59 : w.heap.size ≤ w59.heap.size := Nat.le_trans hsz24 f2459.size
      refine push (v := .agg #[.int .i64 b, .int .i64 k]) elem_sl_Start (by omega) o59 hsz59 rfl (by intro u hu; simp [Value.cells] at hu; rcases hu with rfl | rfl <;> rfl) (by omega) (by omega) (by omega) fun out' outc' w67 o67 g67 hne67 => ⟨xn, ?_⟩
      have f67 : Fr (fun c => ∃ o, out = some o ∧ o.block = c) w59 w67 := fr_grew g67 fun a ha => ⟨a, ha, rfl⟩
      have hout' : ∀ a, out' = some a → (∃ o, out = some o ∧ o.block = a.block) ∨ (w59.heap.size ≤ a.block ∧ a.block < w67.heap.size) := fun a ha => by
        rcases g67.new with hn | hn
        · left
          rw [ha] at hn
          cases ho : out with
          | none => rw [ho] at hn; simp [blk] at hn
          | some y => rw [ho] at hn; simp [blk] at hn; exact ⟨y, rfl, by omega⟩
        · exact .inr ⟨hn a ha, (o67.lt a ha).2⟩
      have hxo : ∀ c, xp = some c → ¬ ∃ o, out = some o ∧ o.block = c.block := fun c hc ⟨o, ho, hk⟩ => (xc24.ap c hc).2.2 o ho hk
      refine ⟨a, cell_fr (cell_fr x0 f2459 hxd) f67 hxo, b, cell_fr x1' f67 hxo, ?_⟩
      have f2467 : Fr (fun c => ft fb P.jp c ∨ ∃ o, out = some o ∧ o.block = c) w24 w67 := by
        rw [hPP] at f2459
        exact (f2459.mono fun c hc => .inl hc).tr (f67.mono fun c hc => .inr hc)
      have Q67 : QS w.heap.size Sq F qb w67 H := Q24.fr f2467 fun c hc h => by
        rcases h with h | ⟨o, ho, rfl⟩
        · rw [← hPP] at h; exact hdis c (.inr (.inl hc)) h
        · exact s24.ap o ho hc
      have hsz67 := f2467.size
      have s67 : PS O B fb w P F Sq w67 (runF G (b - 1).toNat k) (outs ++ [(b, k)]) (T ++ [b]) (H.map (·.id)) out' outc' := by
        refine ⟨⟨P3, hP3.trans hPP, y59.go f67 (fun c hc => .inr (.inr hc)) fun c hc => ?_⟩, s24.fr.trans f2467 fun c hc => ?_, s24.run.snoc_run (by rw [hja]; exact hbest), ?_, (run_jobs hk k).trans s24.job, ?_, fun c hc hs => ?_, by simpa using s24.perm, List.pairwise_append.2 ⟨s24.pw, by simp, fun y hy z hz => by simp at hz; subst hz; exact s24.lt y hy _ (by simp)⟩, fun y hy z hz => ?_, by rw [List.length_append, List.length_append]; have := s24.len; simp; omega⟩
        · rcases hc with hc | hc | ⟨c, hc, rfl⟩
          · exact .inl (.inl hc)
          · exact .inl (.inr (.inl hc))
          · rcases hout' c hc with h | h
            · exact .inl (.inr (.inr h))
            · exact .inr h
        · rcases hc with hc | ⟨o, ho, rfl⟩
          · exact .inl hc
          · exact .inr (s24.own.lt o ho).1
        · exact okHs_take s24.hs hk0 hk1 (by rw [hja]; exact hok.nd) (by rw [hja]; exact hfN)
        · rw [List.flatMap_append, List.length_append]
          simpa [Value.cells, encO] using o67
        · rcases hout' c hc with ⟨o, ho, hk⟩ | h
          · rw [← hk] at hs; exact s24.ap o ho hs
          · have := (hsq24 _ hs).2; have := f2459.size; omega
        · rcases List.mem_append.1 hy with hy | hy
          · exact s24.lt y hy z (List.mem_cons_of_mem _ hz)
          · simp at hy; subst hy
            obtain ⟨u, hu, rfl⟩ := List.mem_map.1 hz
            exact hbef u hu
      have := plan_tail (n9 := w14.heap.size) (by have := e2124.size; omega) Q67 hH s67 (fun c hc => by have := hsq24 c hc; omega) hm a b
      rw [List.length_append] at this
      exact this
  · rcases hc with ⟨_, s21⟩ | ⟨h, _⟩
    · have s22 := s21.ext h22
      obtain ⟨PP, h1, x22⟩ := s22.fx
      refine ⟨G, outs, out, outc, PP, rfl, ⟨T, ⟨by simpa using s22.perm, s22.pw⟩, s22.run⟩, s22.hs, s22.job, h1, x22.less fun b hb => .inl hb, s22.fr, s22.own, (ps_len s22 hl0).1⟩
    · rw [his] at h; cases h
end
end Go.Proofs.Ytblafknmfblgfaa
