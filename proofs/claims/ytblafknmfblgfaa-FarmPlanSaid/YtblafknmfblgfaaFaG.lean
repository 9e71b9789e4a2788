/- What a plan does, in plain words. -/
import Derived.Test.YtblafknmfblgfaaFaF
set_option linter.unusedVariables false
set_option linter.unusedSimpArgs false
namespace Go.Proofs.Ytblafknmfblgfaa
open Go.Sx Go.RowKit

def prioAt (F : Fm) (id : Int) : Int := (jobAt F (id - 1).toNat).job.prio
def before (F : Fm) (a b : Int) : Prop := prioAt F b < prioAt F a ∨ prioAt F a = prioAt F b ∧ a < b
def rdyTo (F : Fm) : Nat → List Int
  | 0 => []
  | k + 1 => if readyB F (jobAt F k) = true then rdyTo F k ++ [(k : Int) + 1] else rdyTo F k
abbrev rdy (F : Fm) : List Int := rdyTo F F.jobs.length
theorem mem_rdyTo {F : Fm} {x : Int} : ∀ {k : Nat}, x ∈ rdyTo F k ↔ 1 ≤ x ∧ x ≤ k ∧ readyB F (jobAt F (x - 1).toNat) = true
  | 0 => by simp [rdyTo]; omega
  | k + 1 => by
    have ih := mem_rdyTo (F := F) (x := x) (k := k)
    unfold rdyTo
    split
    · rename_i h
      rw [List.mem_append, ih]
      constructor
      · rintro (⟨h1, h2, h3⟩ | h1)
        · exact ⟨h1, by omega, h3⟩
        · simp at h1; subst h1
          exact ⟨by omega, by omega, by rw [show ((k : Int) + 1 - 1).toNat = k by omega]; exact h⟩
      · rintro ⟨h1, h2, h3⟩
        by_cases h4 : x ≤ k
        · exact .inl ⟨h1, h4, h3⟩
        · exact .inr (by simp; omega)
    · rename_i h
      rw [ih]
      constructor
      · rintro ⟨h1, h2, h3⟩; exact ⟨h1, by omega, h3⟩
      · rintro ⟨h1, h2, h3⟩
        refine ⟨h1, ?_, h3⟩
        by_cases h4 : x ≤ k
        · exact h4
        · have : (x - 1).toNat = k := by omega
          rw [this] at h3
          exact absurd h3 h
theorem rdyTo_nodup (F : Fm) : ∀ k, (rdyTo F k).Nodup
  | 0 => by simp [rdyTo]
  | k + 1 => by
    unfold rdyTo
    split
    · refine List.nodup_append.2 ⟨rdyTo_nodup F k, by simp, fun a ha b hb => ?_⟩
      simp at hb; subst hb
      have := (mem_rdyTo.1 ha).2.1
      omega
    · exact rdyTo_nodup F k
theorem rdyTo_len (F : Fm) : ∀ k, (rdyTo F k).length ≤ k
  | 0 => by simp [rdyTo]
  | k + 1 => by
    have := rdyTo_len F k
    unfold rdyTo
    split
    · rw [List.length_append]; simp; omega
    · omega

/-! ### One job begun -/
def hostAt (F : Fm) (k : Int) : Ht := F.hosts.getD k.toNat default
def takeF (G : Fm) (k0 : Nat) (k : Int) : Fm := { G with hosts := G.hosts.set k.toNat (usedH (hostAt G k) (addN (hostAt G k).used (jobAt G k0).job.nd)) }
def runF (G : Fm) (k0 : Nat) (k : Int) : Fm := stF (stF (stF (takeF G k0 k) k0 11 2) k0 12 k) k0 13 G.now
theorem run_len (G : Fm) (k0 : Nat) (k : Int) : (runF G k0 k).jobs.length = G.jobs.length := by unfold runF; rw [st_len, st_len, st_len]; rfl
theorem run_at {G : Fm} {k0 : Nat} (hk : k0 < G.jobs.length) (k : Int) (i : Nat) : jobAt (runF G k0 k) i = if i = k0 then { jobAt G k0 with what := 2, host := k, since := G.now } else jobAt G i := by
  unfold runF
  have hk' : k0 < (takeF G k0 k).jobs.length := hk
  rw [st_at _ _ (by rw [st_len, st_len]; exact hk'), st_at _ _ (by rw [st_len]; exact hk'), st_at _ _ hk', if_pos rfl, if_pos rfl]
  split
  · rfl
  · rename_i h
    rw [st_at _ _ (by rw [st_len]; exact hk'), if_neg h, st_at _ _ hk', if_neg h]; rfl
theorem run_jobs {G : Fm} {k0 : Nat} (hk : k0 < G.jobs.length) (k : Int) : (runF G k0 k).jobs.map (·.job) = G.jobs.map (·.job) := by
  unfold runF
  have hk' : k0 < (takeF G k0 k).jobs.length := hk
  rw [st_jobs _ _ (by rw [st_len, st_len]; exact hk'), st_jobs _ _ (by rw [st_len]; exact hk'), st_jobs _ _ hk']; rfl
theorem okN_add {a b c : Nd} (ha : okN a) (hb : okN b) (hc : okN c) (h : fitN a (subN c b)) : okN (addN b a) ∧ fitN (addN b a) c := by
  unfold okN fitN subN addN at *
  simp only at *
  omega
theorem okHs_used {L : List Ht} {i : Nat} (h : okHs L) (hi : i < L.length) {s : Nd} (h1 : okN s) (h2 : fitN s (L.getD i default).has) : okHs (L.set i (usedH (L.getD i default) s)) := by
  have hm := getD_mem L default (i := i) hi
  refine ⟨by rw [List.length_set]; exact h.1, fun x hx => ?_, ?_⟩
  · rcases List.mem_or_eq_of_mem_set hx with hx | rfl
    · exact h.2.1 x hx
    · obtain ⟨a, b, c, d, _, _⟩ := h.2.1 _ hm
      exact ⟨a, b, c, d, h1, h2⟩
  · have : (L.set i (usedH (L.getD i default) s)).map (·.name) = L.map (·.name) := by
      rw [List.map_set]
      refine List.ext_getElem? fun j => ?_
      rw [List.getElem?_set]
      by_cases hj : i = j
      · subst hj
        simp [List.getD_eq_getElem?_getD, hi, usedH]
      · simp [hj]
    rw [this]
    exact h.2.2
theorem okHs_take {G : Fm} {k0 : Nat} {k : Int} (h : okHs G.hosts) (h0 : 0 ≤ k) (h1 : k < G.hosts.length) (ha : okN (jobAt G k0).job.nd) (hf : fitN (jobAt G k0).job.nd (subN (hostAt G k).has (hostAt G k).used)) : okHs (takeF G k0 k).hosts := by
  have hm := getD_mem G.hosts default (i := k.toNat) (by omega)
  obtain ⟨_, _, _, c, d, _⟩ := h.2.1 _ hm
  obtain ⟨a1, a2⟩ := okN_add ha d c hf
  exact okHs_used h (by omega) a1 a2

/-! ### A plan -/
abbrev fitsJ (G : Fm) (id : Int) : List Int := fitsTo G.hosts (jobAt G (id - 1).toNat).job.ask (jobAt G (id - 1).toNat).job.nd G.hosts.length
inductive PRun : Fm → List Int → Fm → List (Int × Int) → Prop
  | nil (F : Fm) : PRun F [] F []
  | skip {F F' : Fm} {id : Int} {ids : List Int} {out : List (Int × Int)} : fitsJ F id = [] → PRun F ids F' out → PRun F (id :: ids) F' out
  | run {F F' : Fm} {id k : Int} {ids : List Int} {out : List (Int × Int)} : BestIs F.hosts (jobAt F (id - 1).toNat).job.ask (jobAt F (id - 1).toNat).job.nd k → PRun (runF F (id - 1).toNat k) ids F' out → PRun F (id :: ids) F' ((id, k) :: out)
theorem PRun.snoc_skip {F F' : Fm} {id : Int} {ids : List Int} {out : List (Int × Int)} (h : PRun F ids F' out) (hs : fitsJ F' id = []) : PRun F (ids ++ [id]) F' out := by
  induction h with
  | nil F => exact .skip hs (.nil F)
  | skip h1 _ ih => exact .skip h1 (ih hs)
  | run h1 _ ih => exact .run h1 (ih hs)
theorem PRun.snoc_run {F F' : Fm} {id k : Int} {ids : List Int} {out : List (Int × Int)} (h : PRun F ids F' out) (hs : BestIs F'.hosts (jobAt F' (id - 1).toNat).job.ask (jobAt F' (id - 1).toNat).job.nd k) : PRun F (ids ++ [id]) (runF F' (id - 1).toNat k) (out ++ [(id, k)]) := by
  induction h with
  | nil F => exact .run hs (.nil _)
  | skip h1 _ ih => exact .skip h1 (ih hs)
  | run h1 _ ih => exact .run h1 (ih hs)
theorem PRun.one {F F1 : Fm} {ids : List Int} {o1 : List (Int × Int)} (h : PRun F ids F1 o1) : ∀ {F2 : Fm} {o2 : List (Int × Int)}, PRun F ids F2 o2 → F1 = F2 ∧ o1 = o2 := by
  induction h with
  | nil F => intro F2 o2 g; cases g; exact ⟨rfl, rfl⟩
  | skip h1 _ ih =>
    intro F2 o2 g
    cases g with
    | skip _ g2 => exact ih g2
    | run g1 _ => have := g1.1; unfold fitsJ at h1; rw [h1] at this; cases this
  | run h1 _ ih =>
    intro F2 o2 g
    cases g with
    | skip g1 _ => have := h1.1; unfold fitsJ at g1; rw [g1] at this; cases this
    | run g1 g2 =>
      obtain rfl := best_one h1 g1
      obtain ⟨rfl, rfl⟩ := ih g2
      exact ⟨rfl, rfl⟩
def IsOrd (F : Fm) (T : List Int) : Prop := T.Perm (rdy F) ∧ T.Pairwise (before F)
theorem before_asymm {F : Fm} {a b : Int} (h : before F a b) : ¬ before F b a := by unfold before at *; omega
theorem ord_one {F : Fm} : ∀ {T U : List Int}, T.Perm U → T.Pairwise (before F) → U.Pairwise (before F) → T = U
  | [], U, hp, _, _ => by have := hp.length_eq; simp at this; exact (List.eq_nil_of_length_eq_zero this.symm).symm
  | t :: T, [], hp, _, _ => by have := hp.length_eq; simp at this
  | t :: T, u :: U, hp, h1, h2 => by
    rw [List.pairwise_cons] at h1 h2
    have htu : t = u := by
      rcases List.mem_cons.1 (hp.mem_iff.1 (List.mem_cons_self ..)) with h | h
      · exact h
      rcases List.mem_cons.1 (hp.mem_iff.2 (List.mem_cons_self ..)) with g | g
      · exact g.symm
      exact absurd (h1.1 u g) (before_asymm (h2.1 t h))
    subst htu
    rw [ord_one (List.Perm.cons_inv hp) h1.2 h2.2]
/-- Behind a plan the farm is G, and these were begun. -/
def Planned (F G : Fm) (out : List (Int × Int)) : Prop := ∃ T, IsOrd F T ∧ PRun F T G out
theorem planned_one {F G1 G2 : Fm} {o1 o2 : List (Int × Int)} (h : Planned F G1 o1) (g : Planned F G2 o2) : G1 = G2 ∧ o1 = o2 := by
  obtain ⟨T, ⟨a1, a2⟩, a3⟩ := h
  obtain ⟨U, ⟨b1, b2⟩, b3⟩ := g
  obtain rfl := ord_one (a1.trans b1.symm) a2 b2
  exact a3.one b3
end Go.Proofs.Ytblafknmfblgfaa
