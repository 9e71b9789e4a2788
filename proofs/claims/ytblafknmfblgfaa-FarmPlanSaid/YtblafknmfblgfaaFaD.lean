/- The farm in memory. -/
import Derived.Test.YtblafknmfblgfaaFaC
set_option linter.unusedVariables false
set_option linter.unusedSimpArgs false
namespace Go.Proofs.Ytblafknmfblgfaa
open Go.Sx Go.RowKit

theorem elem_sl_State : slEl Try.prog T_sl_State = some (T_State, 16, 184, .agg #[.string ⟨#[]⟩, .int .i64 0, .int .i64 0, .int .i64 0, .int .i64 0, .int .i64 0, .string ⟨#[]⟩, .string ⟨#[]⟩, .int .i64 0, .slice none 0 0, .slice none 0 0, .int .i64 0, .int .i64 0, .int .i64 0, .int .i64 0, .int .i64 0]) := by kernel_rfl
structure Pol where
  first : Int
  times : Int
  most : Int
  tries : Int
structure Fm where
  hosts : List Ht
  pol : Pol
  now : Int
  jobs : List St
structure Pl where
  hp : Option Addr
  hc : Nat
  jp : Option Addr
  jc : Nat
  R : List StR
instance : Inhabited St := ⟨⟨zeroJ, 0, 0, 0, 0, 0⟩⟩
instance : Inhabited StR := ⟨⟨default, none, 0, none, 0⟩⟩
/-- The farm's own blocks that turn. -/
def ft (fb : Nat) (jp : Option Addr) (b : Nat) : Prop := b = fb ∨ ∃ a, jp = some a ∧ a.block = b
/-- What may turn and leaves the farm's deep parts alone: what others own (O), and these blocks. -/
def ftO (O : Nat → Prop) (fb : Nat) (jp : Option Addr) (b : Nat) : Prop := O b ∨ ft fb jp b
abbrev fcs (P : Pl) (F : Fm) : List Value := [.slice P.hp F.hosts.length P.hc, .int .i64 F.pol.first, .int .i64 F.pol.times, .int .i64 F.pol.most, .int .i64 F.pol.tries, .int .i64 F.now, .slice P.jp P.R.length P.jc]
structure FXO (O : Nat → Prop) (B : Nat) (w : World) (fb : Nat) (P : Pl) (F : Fm) : Prop where
  slot : Own B w T_farm_Farm 7 (ptr fb) 1 1 (fcs P F)
  arr : Own B w T_State 16 P.jp P.R.length P.jc (P.R.flatMap encS)
  map : P.R.map (·.s) = F.jobs
  hs : ∀ w'', Fr (ftO O fb P.jp) w w'' → HsAt w'' P.hp F.hosts
  js : ∀ r ∈ P.R, ∀ w'', Fr (ftO O fb P.jp) w w'' → IsJ w'' r.s.job r.pa r.ca r.pf
  ap : ∀ a, P.jp = some a → a.block ≠ fb
  hO : F.hosts.length ≤ 30 ∧ ∀ h ∈ F.hosts, HtOk h
  jO : F.jobs.length ≤ 60 ∧ ∀ s ∈ F.jobs, okJ s.job ∧ WfJ s.job
  olt : ∀ b, O b → b < w.heap.size
  odis : ∀ b, O b → ¬ ft fb P.jp b
abbrev FX (B : Nat) := FXO (fun b => b < B) B

section
variable {O : Nat → Prop} {B fb : Nat} {w : World} {P : Pl} {F : Fm}
theorem FXO.len (x : FXO O B w fb P F) : P.R.length = F.jobs.length := by have := congrArg List.length x.map; simpa using this
theorem FXO.foot (x : FXO O B w fb P F) {b : Nat} (h : ft fb P.jp b) : B ≤ b ∧ b < w.heap.size := by
  rcases h with rfl | ⟨a, ha, rfl⟩
  · exact x.slot.lt _ rfl
  · exact x.arr.lt a ha
theorem FXO.fr {S : Nat → Prop} {w' : World} (x : FXO O B w fb P F) (f : Fr S w w') (hS : ∀ b, S b → O b) : FXO O B w' fb P F :=
  ⟨x.slot.fr f fun a ha hs => x.odis _ (hS _ hs) (.inl (by cases ha; rfl)), x.arr.fr f fun a ha hs => x.odis _ (hS _ hs) (.inr ⟨a, ha, rfl⟩), x.map,
    fun w'' k => x.hs w'' ((f.mono fun b hb => .inl (hS b hb)).tr k), fun r hr w'' k => x.js r hr w'' ((f.mono fun b hb => .inl (hS b hb)).tr k), x.ap, x.hO, x.jO, fun b hb => Nat.lt_of_lt_of_le (x.olt b hb) f.size, x.odis⟩
theorem FXO.ext {w' : World} (x : FXO O B w fb P F) (e : Ext w w') : FXO O B w' fb P F := x.fr (fr_ext (S := fun _ => False) e) fun _ h => h.elim
theorem FXO.keep (x : FXO O B w fb P F) {W : World} (e : Ext W w) (hB : W.heap.size ≤ B) {w' : World} (f : Fr (ft fb P.jp) w w') : Ext W w' := f.ext e fun b hb => Nat.le_trans hB (x.foot hb).1
theorem FXO.recs (x : FXO O B w fb P F) : Recs 16 encS w P.jp P.R := x.arr.recs fun _ _ => rfl
theorem FXO.cell (x : FXO O B w fb P F) {i : Nat} {v : Value} (h : (fcs P F)[i]? = some v) : Go.Sx.cell w (pAdd (ptr fb) i) 0 = some v := by rw [cell_pAdd]; exact x.slot.cells i v h
theorem FXO.st (x : FXO O B w fb P F) {k : Int} (h0 : 0 ≤ k) (h1 : k < F.jobs.length) : ∃ r, P.R[k.toNat]? = some r ∧ F.jobs[k.toNat]? = some r.s ∧ P.jp ≠ none ∧ pIdx P.jp k 16 ≠ none ∧ (∀ (m : Nat) u, (encS r)[m]? = some u → Go.Sx.cell w (pIdx P.jp k 16) m = some u) ∧ (∀ (m : Nat) u, (encS r)[m]? = some u → Go.Sx.cell w (pAdd (pIdx P.jp k 16) m) 0 = some u) ∧ IsJ w r.s.job r.pa r.ca r.pf ∧ okJ r.s.job ∧ WfJ r.s.job := by
  have hl := x.len
  obtain ⟨r, hr⟩ : ∃ r, P.R[k.toNat]? = some r := ⟨_, List.getElem?_eq_getElem (by omega)⟩
  have hm := List.mem_of_getElem? hr
  have g : ∀ (m : Nat) u, (encS r)[m]? = some u → Go.Sx.cell w (pIdx P.jp k 16) m = some u := fun m u hu => x.recs.at h0 hr hu
  have g0 := g 0 _ rfl
  have hF : F.jobs[k.toNat]? = some r.s := by rw [← x.map, List.getElem?_map, hr]; rfl
  have hj := x.jO.2 r.s (List.mem_of_getElem? hF)
  exact ⟨r, hr, hF, fun h => cell_p g0 (pIdx_none.2 h), cell_p g0, g, fun m u hu => by rw [cell_pAdd]; exact g m u hu, x.js r hm w (Fr.refl _ w), hj.1, hj.2⟩

/-- A new farm cell's text. -/
theorem FXO.slot_to {w' : World} {F' : Fm} {P' : Pl} (x : FXO O B w fb P F) (o : Own B w' T_farm_Farm 7 (ptr fb) 1 1 (fcs P' F')) (g : Grew w w' (ptr fb) (ptr fb)) (hj : F'.jobs = F.jobs) (hR : P'.R = P.R) (hjp : P'.jp = P.jp) (hjc : P'.jc = P.jc)
    (hs : ∀ w'', Fr (ftO O fb P.jp) w' w'' → HsAt w'' P'.hp F'.hosts) (hO : F'.hosts.length ≤ 30 ∧ ∀ h ∈ F'.hosts, HtOk h) : FXO O B w' fb P' F' ∧ Fr (ft fb P.jp) w w' := by
  have f : Fr (ft fb P.jp) w w' := fr_grew g fun a ha => by cases ha; exact .inl rfl
  refine ⟨⟨o, ?_, by rw [hR, hj]; exact x.map, by rw [hjp]; exact hs, fun r hr w'' k => ?_, by rw [hjp]; exact x.ap, hO, by rw [hj]; exact x.jO, fun b hb => Nat.lt_of_lt_of_le (x.olt b hb) f.size, by rw [hjp]; exact x.odis⟩, f⟩
  · rw [hjp, hR, hjc]
    exact x.arr.st (fun u v hu hv => by cases hv; exact x.ap u hu) g
  · rw [hR] at hr
    rw [hjp] at k
    exact x.js r hr w'' ((f.mono fun b hb => .inr hb).tr k)
/-- A state is turned. -/
def setS (m : Nat) (v : Int) (s : St) : St := match m with
  | 11 => { s with what := v }
  | 12 => { s with host := v }
  | 13 => { s with since := v }
  | 14 => { s with again := v }
  | _ => { s with tries := v }
def setF (F : Fm) (k : Nat) (s : St) : Fm := { F with jobs := F.jobs.set k s }
def setP (P : Pl) (k : Nat) (s : St) : Pl := { P with R := P.R.set k { P.R.getD k default with s := s } }
theorem setS_job (m : Nat) (v : Int) (s : St) : (setS m v s).job = s.job := by unfold setS; split <;> rfl
theorem FXO.set (x : FXO O B w fb P F) {k : Int} (h0 : 0 ≤ k) (h1 : k < F.jobs.length) {m : Nat} (hm : 11 ≤ m ∧ m ≤ 15) (v : Int) {ns : List Nat} (hns : ∀ b ∈ ns, ¬ ft fb P.jp b) {K : World → Prop}
    (hk : ∀ w', FXO O B w' fb (setP P k.toNat (setS m v (F.jobs.getD k.toNat default))) (setF F k.toNat (setS m v (F.jobs.getD k.toNat default))) → Fr (ft fb P.jp) w w' → K w') : Store w (pAdd (pIdx P.jp k 16) m) [.int .i64 v] ns K := by
  have hl := x.len
  have hg : (P.R.getD k.toNat default).s = F.jobs.getD k.toNat default := by
    rw [← x.map, List.getD_eq_getElem?_getD, List.getD_eq_getElem?_getD, List.getElem?_map, List.getElem?_eq_getElem (by omega : k.toNat < P.R.length)]; rfl
  refine store_own x.arr pAdd_map (by rw [recs_len encS_len]; simp; omega) (by simp) (by intro u hu; simp at hu; subst hu; rfl) (fun b hb y hy he => hns b hb (.inr ⟨y, hy, he⟩)) fun w' o g => ?_
  have f : Fr (ft fb P.jp) w w' := fr_grew g fun a ha => .inr ⟨a, ha, rfl⟩
  refine hk w' ⟨?_, ?_, ?_, fun w'' kf => ?_, fun r hr w'' kf => ?_, x.ap, x.hO, ?_, fun b hb => Nat.lt_of_lt_of_le (x.olt b hb) f.size, x.odis⟩ f
  · have := x.slot.st (fun u y hu hy => by cases hu; exact fun h => x.ap y hy h.symm) g
    show Own B w' T_farm_Farm 7 (ptr fb) 1 1 [_, _, _, _, _, _, .slice P.jp (P.R.set _ _).length P.jc]
    rw [List.length_set]
    exact this
  · rw [recs_part encS_len P.R k.toNat m [.int .i64 v] { P.R.getD k.toNat default with s := setS m v (F.jobs.getD k.toNat default) } default (by omega) (by simp; omega) (by
      rw [← hg]
      have : m = 11 ∨ m = 12 ∨ m = 13 ∨ m = 14 ∨ m = 15 := by omega
      rcases this with rfl | rfl | rfl | rfl | rfl <;> rfl)] at o
    show Own B w' T_State 16 P.jp (P.R.set _ _).length P.jc _
    rw [List.length_set]
    exact o
  · show (P.R.set _ _).map (·.s) = F.jobs.set _ _
    rw [List.map_set, x.map]
  · exact x.hs w'' ((f.mono fun b hb => .inr hb).tr kf)
  · have hr : r ∈ P.R.set k.toNat { P.R.getD k.toNat default with s := setS m v (F.jobs.getD k.toNat default) } := hr
    rcases List.mem_or_eq_of_mem_set hr with hr | rfl
    · exact x.js r hr w'' ((f.mono fun b hb => .inr hb).tr kf)
    · have := x.js _ (getD_mem P.R default (i := k.toNat) (by omega)) w'' ((f.mono fun b hb => .inr hb).tr kf)
      rw [hg] at this
      show IsJ w'' (setS m v (F.jobs.getD k.toNat default)).job _ _ _
      rw [setS_job]
      exact this
  · refine ⟨by show (F.jobs.set _ _).length ≤ 60; rw [List.length_set]; exact x.jO.1, fun s hs => ?_⟩
    have hs : s ∈ F.jobs.set k.toNat (setS m v (F.jobs.getD k.toNat default)) := hs
    rcases List.mem_or_eq_of_mem_set hs with hs | rfl
    · exact x.jO.2 s hs
    · rw [setS_job]
      exact x.jO.2 _ (getD_mem F.jobs default (i := k.toNat) (by omega))

/-! ### What only looks -/
theorem at_k (x : FXO O B w fb P F) (id : Int) (hid : InR .i64 id) : FnP Try.prog F_farm_Farm_at #[.pointer (ptr fb), .int .i64 id] w fun v w' => Ext w w' ∧ ((¬ (1 ≤ id ∧ id ≤ F.jobs.length) ∧ v = .pointer none) ∨ (1 ≤ id ∧ id ≤ F.jobs.length ∧ v = .pointer (pIdx P.jp (id - 1) 16))) := by
  have hl := x.len
  have hj := x.jO.1
  have ne := ptr_ne fb
  refine ok_farm_Farm_at (ptr fb) id w _ ⟨fun _ => ne, fun _ => ne, fun h w0 h0 => ⟨h0, .inl ⟨by omega, rfl⟩⟩, fun h => ⟨_, _, _, x.cell (i := 6) rfl, fun h2 w3 h3 => ⟨h3, .inl ⟨by omega, rfl⟩⟩, fun h2 => ⟨ne, ne, _, _, _, x.cell (i := 6) rfl, i64 (by omega), ?_, by omega, by omega, fun w6 h6 => ⟨h6, .inr ⟨h, by omega, rfl⟩⟩⟩⟩⟩
  obtain ⟨r, _, _, hp, _⟩ := x.st (k := id - 1) (by omega) (by omega)
  exact hp
theorem now_k (x : FXO O B w fb P F) : FnP Try.prog F_farm_Farm_Now #[.pointer (ptr fb)] w fun v w' => Ext w w' ∧ v = .int .i64 F.now :=
  ok_farm_Farm_Now (ptr fb) w _ ⟨ptr_ne fb, ptr_ne fb, _, x.cell (i := 5) rfl, fun w1 h1 => ⟨h1, rfl⟩⟩
/-- All jobs that one comes behind are there. -/
def aftOk (F : Fm) : Prop := ∀ (i : Nat) s, F.jobs[i]? = some s → ∀ y ∈ s.job.aft, 1 ≤ y ∧ y ≤ i
def whatAt (F : Fm) (id : Int) : Int := (F.jobs.getD (id - 1).toNat default).what
theorem at_what (x : FXO O B w fb P F) {id : Int} (h : 1 ≤ id ∧ id ≤ F.jobs.length) {w' : World} (e : Ext w w') : ∃ q, pIdx P.jp (id - 1) 16 = q ∧ q ≠ none ∧ Go.Sx.cell w' (pAdd q 11) 0 = some (.int .i64 (whatAt F id)) := by
  obtain ⟨r, hr, hF, _, hne, _, g, _⟩ := (x.ext e).st (k := id - 1) (by omega) (by omega)
  refine ⟨_, rfl, hne, ?_⟩
  have := g 11 _ rfl
  unfold whatAt
  rw [List.getD_eq_getElem?_getD, hF]
  exact this
theorem ready1_k (x : FXO O B w fb P F) {p1 : Option Addr} (hc : Go.Sx.cell w p1 0 = some (.pointer (ptr fb))) {id : Int} (h : 1 ≤ id ∧ id ≤ F.jobs.length) : FnP Try.prog F_farm_Farm_ready_1 #[.int .i64 id, .pointer p1] w fun v w' => Ext w w' ∧ v = .bool (decide (whatAt F id ≠ 3)) := by
  have hj := x.jO.1
  refine ok_farm_Farm_ready_1 id p1 w _ ⟨_, hc, fun w1 h1 => (at_k (x.ext h1) id (i64 (by omega))).mono fun v w2 ⟨e2, hv⟩ => ?_⟩
  rcases hv with ⟨hno, _⟩ | ⟨_, _, rfl⟩
  · exact absurd h hno
  · obtain ⟨q, hq, hne, hg⟩ := at_what x h (h1.trans e2)
    exact ⟨e2, _, rfl, by rw [hq]; exact hne, by rw [hq]; exact hne, _, by rw [hq]; exact hg, fun w5 h5 => ⟨(h1.trans e2).trans h5, rfl⟩⟩
theorem lost1_k (x : FXO O B w fb P F) {p1 : Option Addr} (hc : Go.Sx.cell w p1 0 = some (.pointer (ptr fb))) {id : Int} (h : 1 ≤ id ∧ id ≤ F.jobs.length) : FnP Try.prog F_farm_Farm_lost_1 #[.int .i64 id, .pointer p1] w fun v w' => Ext w w' ∧ v = .bool (decide (whatAt F id = 4) || decide (whatAt F id = 5)) := by
  have hj := x.jO.1
  refine ok_farm_Farm_lost_1 id p1 w _ ⟨_, hc, fun w1 h1 => (at_k (x.ext h1) id (i64 (by omega))).mono fun v w2 ⟨e2, hv⟩ => ?_⟩
  rcases hv with ⟨hno, _⟩ | ⟨_, _, rfl⟩
  · exact absurd h hno
  · obtain ⟨q, hq, hne, hg⟩ := at_what x h (h1.trans e2)
    exact ⟨e2, _, rfl, by rw [hq]; exact hne, by rw [hq]; exact hne, _, by rw [hq]; exact hg, fun w5 h5 => ⟨(h1.trans e2).trans h5, rfl⟩⟩
/-- Ready to begin. -/
def readyB (F : Fm) (s : St) : Bool := decide (s.what = 1) && decide (s.again ≤ F.now) && s.job.aft.all fun y => decide (whatAt F y = 3)
theorem ready_k (x : FXO O B w fb P F) (ha : aftOk F) {k : Int} (h0 : 0 ≤ k) (h1 : k < F.jobs.length) : FnP Try.prog F_farm_Farm_ready #[.pointer (ptr fb), .pointer (pIdx P.jp k 16)] w fun v w' => Ext w w' ∧ v = .bool (readyB F (F.jobs.getD k.toNat default)) := by
  refine ok_farm_Farm_ready (ptr fb) (pIdx P.jp k 16) w _ fun w0 e0 => new_own (by simp [Value.oneCell']) fun w1 o1 e1 => ?_
  have e01 := e0.trans e1
  have x1 := x.ext e01
  obtain ⟨r, hr, hF, _, hne, _, g, hJ, hok, hwf⟩ := x1.st h0 h1
  have hg : F.jobs.getD k.toNat default = r.s := by rw [List.getD_eq_getElem?_getD, hF]; rfl
  rw [hg]
  have c1 : Go.Sx.cell w1 (some ⟨w0.heap.size, 0, none⟩) 0 = some (.pointer (ptr fb)) := (o1 0 (Nat.zero_le _)).cells 0 _ rfl
  have ne := ptr_ne fb
  refine ⟨hne, hne, _, g 11 _ rfl, fun _ => hne, fun _ => hne, fun hw => ⟨_, g 14 _ rfl, _, c1, ne, ne, _, x1.cell (i := 5) rfl, fun _ => hne, fun _ => hne, fun _ => by rw [pAdd_zero]; exact hne, fun hn => ⟨_, _, _, by rw [pAdd_zero]; exact g 10 _ rfl, fun w9 h9 => ?_⟩, fun hn w6 h6 => ⟨e01.trans h6, ?_⟩⟩, fun hw w3 h3 => ⟨e01.trans h3, ?_⟩⟩
  · have hin : ∀ y ∈ r.s.job.aft, 1 ≤ y ∧ y ≤ F.jobs.length := fun y hy => by have := ha _ _ hF y hy; omega
    have hlen := hok.len
    refine (ContainsF_k r.pf r.cf r.s.job.aft (by omega) _ (fun y => decide (whatAt F y ≠ 3)) w9 (hJ.2.ext h9) fun y hy w' hw' => ⟨F_farm_Farm_ready_1, #[.pointer (some ⟨w0.heap.size, 0, none⟩)], rfl, ready1_k (x1.ext (h9.trans hw')) (ext_cell (h9.trans hw') c1) (hin y hy)⟩).mono fun v w10 ⟨e10, b, hv, hb⟩ => ⟨e10, b, hv, fun w12 h12 => ⟨e01.trans h12, ?_⟩⟩
    unfold readyB
    have h1 : decide (r.s.what = 1) = true := decide_eq_true hw
    have h2 : decide (r.s.again ≤ F.now) = true := decide_eq_true hn
    rw [h1, h2]
    simp only [Bool.true_and]
    congr 1
    cases b with
    | true =>
      obtain ⟨y, hy, h3⟩ := hb.1 rfl
      have : (r.s.job.aft.all fun y => decide (whatAt F y = 3)) = false := by
        rw [List.all_eq_false]
        exact ⟨y, hy, by simpa using h3⟩
      rw [this]; rfl
    | false =>
      have : (r.s.job.aft.all fun y => decide (whatAt F y = 3)) = true := by
        rw [List.all_eq_true]
        intro y hy
        by_cases h : whatAt F y = 3
        · simp [h]
        · exact absurd (hb.2 ⟨y, hy, by simpa using h⟩) (by simp)
      rw [this]; rfl
  · unfold readyB
    have : decide (r.s.again ≤ F.now) = false := decide_eq_false (by omega)
    rw [this]; simp
  · unfold readyB
    have : decide (r.s.what = 1) = false := decide_eq_false hw
    rw [this]; simp
end
end Go.Proofs.Ytblafknmfblgfaa
