/- Assignment: prices of people and jobs; the plain step of the way (KUHN, MUNKRES). -/
import Derived.Test.YtlacdincnpbpdaaTxt
set_option linter.unusedVariables false
set_option linter.unusedSimpArgs false
namespace Go.Proofs.Ytlacdincnpbpdaa
open Go.Sx Go.RowKit

theorem i64 {x : Int} (h : -9223372036854775808 ≤ x ∧ x ≤ 9223372036854775807) : InR .i64 x := h
theorem b_true {b : Bool} (h : b = true) : Value.bool b = .bool true := by rw [h]

theorem nodup_sub {α : Type} : ∀ {l m : List α}, l.Nodup → (∀ x ∈ l, x ∈ m) → l.length ≤ m.length
  | [], _, _, _ => Nat.zero_le _
  | a :: l, m, hn, hs => by
    obtain ⟨s, t, rfl⟩ := List.append_of_mem (hs a (List.mem_cons_self ..))
    rw [List.nodup_cons] at hn
    have := nodup_sub (l := l) (m := s ++ t) hn.2 (fun x hx => by
      have := hs x (List.mem_cons_of_mem _ hx)
      simp only [List.mem_append, List.mem_cons] at this ⊢
      rcases this with h | rfl | h
      · exact .inl h
      · exact absurd hx hn.1
      · exact .inr h)
    simp only [List.length_append, List.length_cons] at this ⊢
    omega

/-- The numbers from a on, so many. -/
def rng (a : Int) (n : Nat) : List Int := (List.range n).map fun k : Nat => a + (k : Int)
theorem rng_mem {a : Int} {n : Nat} {x : Int} : x ∈ rng a n ↔ a ≤ x ∧ x < a + n := by
  unfold rng
  simp only [List.mem_map, List.mem_range]
  constructor
  · rintro ⟨k, hk, rfl⟩; omega
  · intro h; exact ⟨(x - a).toNat, by omega, by omega⟩
theorem rng_nodup (a : Int) (n : Nat) : (rng a n).Nodup := by
  unfold rng
  exact List.Pairwise.map _ (fun x y h => by omega) List.nodup_range
theorem rng_len (a : Int) (n : Nat) : (rng a n).length = n := by simp [rng]
/-- Who has an own place each: they are not more than the places. -/
theorem pigeon {n m : Nat} {f : Int → Int} (h : ∀ k : Int, 1 ≤ k → k ≤ n → 1 ≤ f k ∧ f k ≤ m) (inj : ∀ k l : Int, 1 ≤ k → k ≤ n → 1 ≤ l → l ≤ n → f k = f l → k = l) : n ≤ m := by
  have := nodup_sub (l := (rng 1 n).map f) (m := rng 1 m) (by
    refine List.pairwise_map.2 (List.Pairwise.imp_of_mem ?_ (rng_nodup 1 n))
    intro a b ha hb hab he
    rw [rng_mem] at ha hb
    exact hab (inj a b (by omega) (by omega) (by omega) (by omega) he)) (fun x hx => by
    obtain ⟨k, hk, rfl⟩ := List.mem_map.1 hx
    rw [rng_mem] at hk ⊢
    have := h k (by omega) (by omega)
    omega)
  simpa [rng_len] using this

/-- Who has which job: those below i have one each. -/
structure Bys (n i : Int) (b : Int → Int) : Prop where
  bR : ∀ k, 1 ≤ k → k ≤ n → 0 ≤ b k ∧ b k ≤ i
  inj : ∀ k l, 1 ≤ k → k ≤ n → 1 ≤ l → l ≤ n → b k = b l → b k ≠ 0 → k = l
  sur : ∀ r, 1 ≤ r → r ≤ i → ∃ k, 1 ≤ k ∧ k ≤ n ∧ b k = r

theorem Bys.free {n i : Int} {b : Int → Int} (h : Bys n i b) (hi : 0 ≤ i) (hin : i < n) : ∃ k, 1 ≤ k ∧ k ≤ n ∧ b k = 0 := by
  apply Classical.byContradiction
  intro hno
  have hne : ∀ k, 1 ≤ k → k ≤ n → b k ≠ 0 := fun k h1 h2 h3 => hno ⟨k, h1, h2, h3⟩
  have := pigeon (n := n.toNat) (m := i.toNat) (f := b) (fun k h1 h2 => by
    have := h.bR k h1 (by omega)
    have := hne k h1 (by omega)
    omega) (fun k l h1 h2 h3 h4 he => h.inj k l h1 (by omega) h3 (by omega) he (hne k h1 (by omega)))
  omega

structure Pot (n i : Int) (c : Int → Int → Int) (u v b : Int → Int) : Prop extends Bys n i b where
  fea : ∀ r k, 1 ≤ r → r ≤ i → 1 ≤ k → k ≤ n → u r + v k ≤ c r k
  tight : ∀ k, 1 ≤ k → k ≤ n → b k ≠ 0 → u (b k) + v k = c (b k) k
  v0 : ∀ k, 1 ≤ k → k ≤ n → v k ≤ 0
  vf : ∀ k, 1 ≤ k → k ≤ n → b k = 0 → v k = 0
  u0 : ∀ r, i < r → r ≤ n → u r = 0
  uM : ∀ r, 1 ≤ r → r ≤ i → -1000000000 ≤ u r
  vz : -(i * 1000000000) ≤ v 0 ∧ v 0 ≤ i * 1000000000
  uX : ∀ r, 1 ≤ r → r ≤ i → u r ≤ 1000000000
  vX : ∀ k, 1 ≤ k → k ≤ n → -2000000000 ≤ v k

/-- On the way to a job for i. -/
structure Mid (n i : Int) (c : Int → Int → Int) (u v b low frm : Int → Int) (S : Int → Prop) (ord : Int → Int) (m : Int) (at_ : Int) : Prop where
  by_ : Bys n (i - 1) b
  bi : b 0 = i
  sR : ∀ k, S k → 0 ≤ k ∧ k ≤ n
  sb : ∀ k, S k → b k ≠ 0
  aR : 0 ≤ at_ ∧ at_ ≤ n ∧ ¬ S at_
  fst : at_ = 0 → ∀ k, ¬ S k
  nxt : at_ ≠ 0 → S 0
  fea : ∀ r k, 1 ≤ r → r < i → 1 ≤ k → k ≤ n → u r + v k ≤ c r k
  feai : at_ ≠ 0 → ∀ k, 1 ≤ k → k ≤ n → u i + v k ≤ c i k
  tight : ∀ k, 1 ≤ k → k ≤ n → b k ≠ 0 → u (b k) + v k = c (b k) k
  v0 : ∀ k, 1 ≤ k → k ≤ n → v k ≤ 0
  vf : ∀ k, 1 ≤ k → k ≤ n → b k = 0 → v k = 0
  u0 : ∀ r, i < r → r ≤ n → u r = 0
  ui : at_ = 0 → u i = 0
  uM : ∀ r, 1 ≤ r → r < i → -1000000000 ≤ u r
  uMi : at_ ≠ 0 → -1000000000 ≤ u i
  vz : -((i - 1) * 1000000000) ≤ v 0 + u i ∧ v 0 + u i ≤ (i - 1) * 1000000000
  low0 : at_ = 0 → ∀ k, 1 ≤ k → k ≤ n → low k = 1125899906842624
  lowS : at_ ≠ 0 → ∀ k, 1 ≤ k → k ≤ n → ¬ S k → S (frm k) ∧ low k = c (b (frm k)) k - u (b (frm k)) - v k ∧ ∀ s, S s → low k ≤ c (b s) k - u (b s) - v k
  lowat : at_ ≠ 0 → low at_ = 0
  path : ∀ k, S k → k ≠ 0 → S (frm k) ∧ ord (frm k) < ord k ∧ u (b (frm k)) + v k = c (b (frm k)) k
  ordm : ∀ k, S k → 0 ≤ ord k ∧ ord k < m
  m0 : 0 ≤ m

section
variable {n i : Int} {c : Int → Int → Int} {u v b low frm : Int → Int} {S : Int → Prop} {ord : Int → Int} {m at_ : Int}

theorem Mid.pers (h : Mid n i c u v b low frm S ord m at_) {k : Int} (hk : 0 ≤ k ∧ k ≤ n) (hb : b k ≠ 0) (hi : 1 ≤ i) : 1 ≤ b k ∧ b k ≤ i ∧ (k ≠ 0 → b k < i) := by
  by_cases h0 : k = 0
  · subst h0; rw [h.bi]; omega
  · have := h.by_.bR k (by omega) hk.2; omega
theorem Mid.injS (h : Mid n i c u v b low frm S ord m at_) {k l : Int} (hk : 0 ≤ k ∧ k ≤ n) (hl : 0 ≤ l ∧ l ≤ n) (hb : b k ≠ 0) (he : b k = b l) (hi : 1 ≤ i) : k = l := by
  have p1 := h.pers hk hb hi
  have p2 := h.pers hl (he ▸ hb) hi
  by_cases h0 : k = 0
  · by_cases h1 : l = 0
    · omega
    · have := p2.2.2 h1; rw [h0, h.bi] at he; omega
  · by_cases h1 : l = 0
    · have := p1.2.2 h0; rw [h1, h.bi] at he; omega
    · exact h.by_.inj k l (by omega) hk.2 (by omega) hl.2 he hb

/-- How great numbers are meanwhile. -/
theorem Mid.bounds (h : Mid n i c u v b low frm S ord m at_) (hi : 1 ≤ i) (hin : i ≤ n) (hc : ∀ r k, 1 ≤ r → r ≤ n → 1 ≤ k → k ≤ n → -1000000000 ≤ c r k ∧ c r k ≤ 1000000000) :
    (∀ r, 1 ≤ r → r ≤ i → -1000000000 ≤ u r ∧ u r ≤ 1000000000) ∧ (∀ k, 1 ≤ k → k ≤ n → -2000000000 ≤ v k ∧ v k ≤ 0) ∧ (-(i * 1000000000) ≤ v 0 ∧ v 0 ≤ i * 1000000000) := by
  obtain ⟨k0, k1, k2, k3⟩ := h.by_.free (by omega) (by omega)
  have hv0 := h.vf k0 k1 k2 k3
  have hu : ∀ r, 1 ≤ r → r ≤ i → -1000000000 ≤ u r ∧ u r ≤ 1000000000 := fun r h1 h2 => by
    by_cases hr : r = i
    · subst hr
      by_cases ha : at_ = 0
      · have := h.ui ha; omega
      · have := h.uMi ha; have := h.feai ha k0 k1 k2; have := hc r k0 (by omega) (by omega) k1 k2; omega
    · have := h.uM r h1 (by omega); have := h.fea r k0 h1 (by omega) k1 k2; have := hc r k0 (by omega) (by omega) k1 k2; omega
  refine ⟨hu, fun k h1 h2 => ?_, ?_⟩
  · have h3 := h.v0 k h1 h2
    by_cases hb : b k = 0
    · have := h.vf k h1 h2 hb; omega
    · have p := h.pers (k := k) (by omega) hb hi
      have t := h.tight k h1 h2 hb
      have := hu (b k) p.1 p.2.1
      have := hc (b k) k (by omega) (by omega) h1 h2
      omega
  · have := hu i hi (by omega); have := h.vz; omega

/-- What is told of the jobs that are not yet seen, behind one more. -/
structure Low1 (n : Int) (c : Int → Int → Int) (u v b low frm : Int → Int) (T : Int → Prop) (at_ : Int) (low1 frm1 : Int → Int) : Prop where
  yes : ∀ k, 1 ≤ k → k ≤ n → ¬ T k → c (b at_) k - u (b at_) - v k < low k → low1 k = c (b at_) k - u (b at_) - v k ∧ frm1 k = at_
  no : ∀ k, 1 ≤ k → k ≤ n → ¬ T k → low k ≤ c (b at_) k - u (b at_) - v k → low1 k = low k ∧ frm1 k = frm k
  same : ∀ k, T k → frm1 k = frm k

structure Step2 (n : Int) (u v b low1 : Int → Int) (T : Int → Prop) (step : Int) (u' v' low' : Int → Int) : Prop where
  uy : ∀ k, T k → u' (b k) = u (b k) + step
  un : ∀ r, 1 ≤ r → r ≤ n → (∀ k, T k → b k ≠ r) → u' r = u r
  vy : ∀ k, T k → v' k = v k - step
  vn : ∀ k, 1 ≤ k → k ≤ n → ¬ T k → v' k = v k
  ly : ∀ k, 0 ≤ k → k ≤ n → ¬ T k → low' k = low1 k - step

/-- One job more on the way. -/
theorem Mid.step (h : Mid n i c u v b low frm S ord m at_) (hi : 1 ≤ i) (hin : i ≤ n) (hc : ∀ r k, 1 ≤ r → r ≤ n → 1 ≤ k → k ≤ n → -1000000000 ≤ c r k ∧ c r k ≤ 1000000000)
    (hat : b at_ ≠ 0) {T : Int → Prop} (hT : ∀ k, T k ↔ S k ∨ k = at_) {low1 frm1 : Int → Int} (h1 : Low1 n c u v b low frm T at_ low1 frm1) {step next : Int} (hnx : 1 ≤ next ∧ next ≤ n ∧ ¬ T next) (hst : low1 next = step) (hle : ∀ k, 1 ≤ k → k ≤ n → ¬ T k → step ≤ low1 k)
    {u' v' low' : Int → Int} (h2 : Step2 n u v b low1 T step u' v' low') :
    Mid n i c u' v' b low' frm1 T (fun k => if k = at_ then m else ord k) (m + 1) next := by
  obtain ⟨bu, bv, bz⟩ := h.bounds hi hin hc
  have pa := h.pers ⟨h.aR.1, h.aR.2.1⟩ hat hi
  have TR : ∀ k, T k → (0 ≤ k ∧ k ≤ n) ∧ b k ≠ 0 := fun k hk => by
    rcases (hT k).1 hk with hs | rfl
    · exact ⟨h.sR k hs, h.sb k hs⟩
    · exact ⟨⟨h.aR.1, h.aR.2.1⟩, hat⟩
  have T0 : T 0 := by
    by_cases ha : at_ = 0
    · exact (hT 0).2 (.inr ha.symm)
    · exact (hT 0).2 (.inl (h.nxt ha))
  have Tz : at_ = 0 → ∀ k, T k → k = 0 := fun ha k hk => by
    rcases (hT k).1 hk with hs | rfl
    · exact absurd hs (h.fst ha k)
    · exact ha
  -- of each that is seen: the least over it
  have lowT : ∀ k, 1 ≤ k → k ≤ n → ¬ T k → T (frm1 k) ∧ low1 k = c (b (frm1 k)) k - u (b (frm1 k)) - v k ∧ ∀ s, T s → low1 k ≤ c (b s) k - u (b s) - v k := by
    intro k k1 k2 hk
    have hSk : ¬ S k := fun hs => hk ((hT k).2 (.inl hs))
    by_cases hov : c (b at_) k - u (b at_) - v k < low k
    · obtain ⟨e1, e2⟩ := h1.yes k k1 k2 hk hov
      refine ⟨(hT _).2 (.inr e2), by rw [e2]; exact e1, fun s hs => ?_⟩
      rcases (hT s).1 hs with hs | rfl
      · by_cases ha : at_ = 0
        · exact absurd hs (h.fst ha s)
        · have := (h.lowS ha k k1 k2 hSk).2.2 s hs; omega
      · omega
    · obtain ⟨e1, e2⟩ := h1.no k k1 k2 hk (by omega)
      have ha : at_ ≠ 0 := by
        intro ha
        have l0 := h.low0 ha k k1 k2
        have := hc (b at_) k pa.1 (by omega) k1 k2
        have := bu (b at_) pa.1 pa.2.1
        have := bv k k1 k2
        omega
      obtain ⟨f1, f2, f3⟩ := h.lowS ha k k1 k2 hSk
      refine ⟨(hT _).2 (.inl (by rw [e2]; exact f1)), by rw [e1, e2]; exact f2, fun s hs => ?_⟩
      rcases (hT s).1 hs with hs | rfl
      · rw [e1]; exact f3 s hs
      · omega
  have lnx := lowT next hnx.1 hnx.2.1 hnx.2.2
  rw [hst] at lnx
  have feaT : at_ ≠ 0 → ∀ s k, T s → 1 ≤ k → k ≤ n → u (b s) + v k ≤ c (b s) k := fun ha s k hs k1 k2 => by
    have p := h.pers (TR s hs).1 (TR s hs).2 hi
    by_cases hs0 : s = 0
    · rw [hs0, h.bi]; exact h.feai ha k k1 k2
    · exact h.fea (b s) k p.1 (p.2.2 hs0) k1 k2
  have st0 : at_ ≠ 0 → 0 ≤ step := fun ha => by
    rw [lnx.2.1]
    have := feaT ha (frm1 next) next lnx.1 hnx.1 hnx.2.1
    omega
  have hle' : ∀ s k, T s → 1 ≤ k → k ≤ n → ¬ T k → u (b s) + step + v k ≤ c (b s) k := fun s k hs k1 k2 hk => by
    have a := hle k k1 k2 hk
    have bb := (lowT k k1 k2 hk).2.2 s hs
    omega
  have vle : ∀ k, 1 ≤ k → k ≤ n → v' k ≤ v k := fun k k1 k2 => by
    by_cases hk : T k
    · rw [h2.vy k hk]
      have ha : at_ ≠ 0 := fun ha => by have := Tz ha k hk; omega
      have := st0 ha; omega
    · rw [h2.vn k k1 k2 hk]; exact Int.le_refl _
  -- whoever is seen pays as before for what is seen
  have both : ∀ s k, T s → T k → u' (b s) + v' k = u (b s) + v k := fun s k hs hk => by
    rw [h2.uy s hs, h2.vy k hk]; omega
  have notIn : ∀ k, 0 ≤ k → k ≤ n → b k ≠ 0 → ¬ T k → ∀ s, T s → b s ≠ b k := fun k k1 k2 hb hk s hs he => by
    have := h.injS (TR s hs).1 ⟨k1, k2⟩ (TR s hs).2 he hi
    exact hk (this ▸ hs)
  have u'i : u' i = u i + step := by
    have := h2.uy 0 T0
    rwa [h.bi] at this
  refine ⟨h.by_, h.bi, fun k hk => (TR k hk).1, fun k hk => (TR k hk).2, ⟨by omega, hnx.2.1, hnx.2.2⟩, fun h0 => by omega, fun _ => T0, fun r k r1 r2 k1 k2 => ?_, fun _ k k1 k2 => ?_, fun k k1 k2 hb => ?_, fun k k1 k2 => ?_, fun k k1 k2 hb => ?_, fun r r1 r2 => ?_, fun h0 => by omega, fun r r1 r2 => ?_, fun _ => ?_, ?_, fun h0 => by omega, fun _ k k1 k2 hk => ?_, fun _ => ?_, fun k hk k0 => ?_, fun k hk => ?_, by have := h.m0; omega⟩
  · by_cases hr : ∃ s, T s ∧ b s = r
    · obtain ⟨s, hs, rfl⟩ := hr
      by_cases hk : T k
      · rw [both s k hs hk]; exact h.fea _ k r1 r2 k1 k2
      · rw [h2.uy s hs, h2.vn k (by omega) k2 hk]; exact hle' s k hs k1 k2 hk
    · rw [h2.un r (by omega) (by omega) (fun s hs he => hr ⟨s, hs, he⟩)]
      have := vle k k1 k2
      have := h.fea r k r1 r2 k1 k2
      omega
  · by_cases hk : T k
    · have ha : at_ ≠ 0 := fun ha => by have := Tz ha k hk; omega
      have := both 0 k T0 hk
      rw [h.bi] at this
      rw [this]; exact h.feai ha k k1 k2
    · have := hle' 0 k T0 k1 k2 hk
      rw [h.bi] at this
      rw [u'i, h2.vn k (by omega) k2 hk]; exact this
  · by_cases hk : T k
    · rw [both k k hk hk]; exact h.tight k k1 k2 hb
    · rw [h2.un (b k) (h.pers ⟨by omega, k2⟩ hb hi).1 (by have := (h.pers ⟨by omega, k2⟩ hb hi).2.1; omega) (notIn k (by omega) k2 hb hk), h2.vn k (by omega) k2 hk]; exact h.tight k k1 k2 hb
  · have := vle k k1 k2; have := h.v0 k k1 k2; omega
  · have hk : ¬ T k := fun hk => (TR k hk).2 hb
    rw [h2.vn k (by omega) k2 hk]; exact h.vf k k1 k2 hb
  · rw [h2.un r (by omega) (by omega) (fun s hs he => by have := (h.pers (TR s hs).1 (TR s hs).2 hi).2.1; omega)]
    exact h.u0 r r1 r2
  · by_cases hr : ∃ s, T s ∧ b s = r
    · obtain ⟨s, hs, rfl⟩ := hr
      rw [h2.uy s hs]
      have ha : at_ ≠ 0 := fun ha => by have := Tz ha s hs; rw [this, h.bi] at r2; omega
      have := st0 ha; have := h.uM _ r1 r2; omega
    · rw [h2.un r (by omega) (by omega) (fun s hs he => hr ⟨s, hs, he⟩)]; exact h.uM r r1 r2
  · rw [u'i]
    by_cases ha : at_ = 0
    · have hf := Tz ha _ lnx.1
      have e := lnx.2.1
      rw [hf, h.bi, h.ui ha] at e
      have := h.ui ha
      have := hc i next hi hin hnx.1 hnx.2.1
      have := h.v0 next hnx.1 hnx.2.1
      omega
    · have := st0 ha; have := h.uMi ha; omega
  · rw [u'i, h2.vy 0 T0]; have := h.vz; omega
  · obtain ⟨f1, f2, f3⟩ := lowT k k1 k2 hk
    rw [h2.ly k (by omega) k2 hk, h2.vn k (by omega) k2 hk]
    refine ⟨f1, by rw [h2.uy _ f1]; omega, fun s hs => ?_⟩
    rw [h2.uy s hs]
    have := f3 s hs; omega
  · rw [h2.ly next (by omega) hnx.2.1 hnx.2.2, hst]; omega
  · rw [h1.same k hk]
    have key : T (frm k) ∧ (if frm k = at_ then m else ord (frm k)) < (if k = at_ then m else ord k) ∧ u (b (frm k)) + v k = c (b (frm k)) k := by
      by_cases hka : k = at_
      · subst hka
        obtain ⟨f1, f2, _⟩ := h.lowS k0 k (by have := h.aR; omega) h.aR.2.1 h.aR.2.2
        rw [h.lowat k0] at f2
        refine ⟨(hT _).2 (.inl f1), ?_, by omega⟩
        rw [if_neg (fun he : frm k = k => h.aR.2.2 (by rw [he] at f1; exact f1)), if_pos rfl]
        exact (h.ordm _ f1).2
      · have hs : S k := ((hT k).1 hk).resolve_right hka
        obtain ⟨f1, f2, f3⟩ := h.path k hs k0
        refine ⟨(hT _).2 (.inl f1), ?_, f3⟩
        rw [if_neg (fun he : frm k = at_ => h.aR.2.2 (he ▸ f1)), if_neg hka]
        exact f2
    exact ⟨key.1, key.2.1, by rw [both _ k key.1 hk]; exact key.2.2⟩
  · by_cases hka : k = at_
    · rw [if_pos hka]
      have hm0 := h.m0
      omega
    · rw [if_neg hka]
      have := h.ordm k (((hT k).1 hk).resolve_right hka); omega

/-- The pairs along the way are turned: a is the place that is to be filled. -/
structure Aug (n i : Int) (c : Int → Int → Int) (u v b0 frm : Int → Int) (S : Int → Prop) (ord : Int → Int) (b : Int → Int) (a : Int) (oa : Int) : Prop where
  aR : 0 ≤ a ∧ a ≤ n
  aS : ¬ (S a ∧ ord a < oa)
  old : ∀ k, S k → ord k < oa → k ≠ a → b k = b0 k
  inS : a ≠ 0 → S (frm a) ∧ ord (frm a) < oa ∧ u (b0 (frm a)) + v a = c (b0 (frm a)) a
  bR : ∀ k, 0 ≤ k → k ≤ n → k ≠ a → 0 ≤ b k ∧ b k ≤ i
  inj : ∀ k l, 0 ≤ k → k ≤ n → 0 ≤ l → l ≤ n → k ≠ a → l ≠ a → b k = b l → b k ≠ 0 → k = l
  sur : ∀ r, 1 ≤ r → r ≤ i → ∃ k, 0 ≤ k ∧ k ≤ n ∧ k ≠ a ∧ b k = r
  tight : ∀ k, 1 ≤ k → k ≤ n → k ≠ a → b k ≠ 0 → u (b k) + v k = c (b k) k
  zero : ∀ k, 1 ≤ k → k ≤ n → k ≠ a → b k = 0 → b0 k = 0

theorem Mid.aug (h : Mid n i c u v b low frm S ord m at_) (hi : 1 ≤ i) (hat : b at_ = 0) : Aug n i c u v b frm S ord b at_ m ∧ at_ ≠ 0 := by
  have ha : at_ ≠ 0 := fun ha => by rw [ha, h.bi] at hat; omega
  refine ⟨⟨⟨h.aR.1, h.aR.2.1⟩, fun hs => h.aR.2.2 hs.1, fun _ _ _ _ => rfl, fun _ => ?_, fun k k1 k2 k3 => ?_, fun k l k1 k2 l1 l2 _ _ he hb => h.injS ⟨k1, k2⟩ ⟨l1, l2⟩ hb he hi, fun r r1 r2 => ?_, fun k k1 k2 _ hb => h.tight k k1 k2 hb, fun k _ _ _ hb => hb⟩, ha⟩
  · obtain ⟨f1, f2, _⟩ := h.lowS ha at_ (by have := h.aR; omega) h.aR.2.1 h.aR.2.2
    rw [h.lowat ha] at f2
    exact ⟨f1, (h.ordm _ f1).2, by omega⟩
  · by_cases h0 : k = 0
    · rw [h0, h.bi]; omega
    · have := h.by_.bR k (by omega) k2; omega
  · by_cases hr : r = i
    · exact ⟨0, by omega, by have := h.aR; omega, fun h0 => ha h0.symm, by rw [h.bi, hr]⟩
    · obtain ⟨k, k1, k2, k3⟩ := h.by_.sur r r1 (by omega)
      exact ⟨k, by omega, k2, fun hk => by rw [hk, hat] at k3; omega, k3⟩

theorem Aug.step {b0 : Int → Int} {a oa : Int} (h : Aug n i c u v b0 frm S ord b a oa) (hi : 1 ≤ i) (ha : a ≠ 0) (sR : ∀ k, S k → 0 ≤ k ∧ k ≤ n) (sb : ∀ k, S k → b0 k ≠ 0) (path : ∀ k, S k → k ≠ 0 → S (frm k) ∧ ord (frm k) < ord k ∧ u (b0 (frm k)) + v k = c (b0 (frm k)) k)
    {b' : Int → Int} (h1 : b' a = b (frm a)) (h2 : ∀ k, 0 ≤ k → k ≤ n → k ≠ a → b' k = b k) : Aug n i c u v b0 frm S ord b' (frm a) (ord (frm a)) := by
  obtain ⟨f1, f2, f3⟩ := h.inS ha
  have fR := sR _ f1
  have bf : frm a ≠ a → b (frm a) = b0 (frm a) := fun hne => h.old _ f1 f2 hne
  have hne : frm a ≠ a := fun he => h.aS (by rw [he] at f1 f2; exact ⟨f1, f2⟩)
  have hbf := bf hne
  have hbf0 := sb _ f1
  refine ⟨fR, fun hs => by omega, fun k hk ho hka => ?_, fun hf0 => path _ f1 hf0, fun k k1 k2 k3 => ?_, fun k l k1 k2 l1 l2 k3 l3 he hb => ?_, fun r r1 r2 => ?_, fun k k1 k2 k3 hb => ?_, fun k k1 k2 k3 hb => ?_⟩
  · by_cases hk2 : k = a
    · exact absurd ⟨hk2 ▸ hk, by rw [← hk2]; omega⟩ h.aS
    · rw [h2 k (sR k hk).1 (sR k hk).2 hk2]; exact h.old k hk (by omega) hk2
  · by_cases hk : k = a
    · rw [hk, h1]; exact h.bR _ fR.1 fR.2 hne
    · rw [h2 k k1 k2 hk]; exact h.bR k k1 k2 hk
  · by_cases hk : k = a
    · by_cases hl : l = a
      · omega
      · exfalso
        rw [hk, h1, h2 l l1 l2 hl] at he
        rw [hk, h1] at hb
        exact l3 (h.inj _ l fR.1 fR.2 l1 l2 hne hl he hb).symm
    · by_cases hl : l = a
      · exfalso
        rw [hl, h1, h2 k k1 k2 hk] at he
        rw [h2 k k1 k2 hk] at hb
        exact k3 (h.inj k _ k1 k2 fR.1 fR.2 hk hne he hb)
      · rw [h2 k k1 k2 hk, h2 l l1 l2 hl] at he
        rw [h2 k k1 k2 hk] at hb
        exact h.inj k l k1 k2 l1 l2 hk hl he hb
  · obtain ⟨k, k1, k2, k3, k4⟩ := h.sur r r1 r2
    by_cases hk : k = frm a
    · exact ⟨a, h.aR.1, h.aR.2, fun he => hne he.symm, by rw [h1, ← hk]; exact k4⟩
    · exact ⟨k, k1, k2, hk, by rw [h2 k k1 k2 k3]; exact k4⟩
  · by_cases hk : k = a
    · rw [hk, h1, hbf]; exact f3
    · rw [h2 k (by omega) k2 hk] at hb ⊢
      exact h.tight k k1 k2 hk hb
  · by_cases hk : k = a
    · rw [hk, h1, hbf] at hb; exact absurd hb hbf0
    · rw [h2 k (by omega) k2 hk] at hb; exact h.zero k k1 k2 hk hb

/-- All are placed up to i. -/
theorem Aug.pot {b0 : Int → Int} {a oa : Int} (h : Aug n i c u v b0 frm S ord b a oa) (hm : Mid n i c u v b0 low frm S ord m at_) (hi : 1 ≤ i) (hin : i ≤ n) (hc : ∀ r k, 1 ≤ r → r ≤ n → 1 ≤ k → k ≤ n → -1000000000 ≤ c r k ∧ c r k ≤ 1000000000) (hat : at_ ≠ 0) (ha : a = 0) : Pot n i c u v b := by
  subst ha
  obtain ⟨bu, bv, bz⟩ := hm.bounds hi hin hc
  refine ⟨⟨fun k k1 k2 => h.bR k (by omega) k2 (by omega), fun k l k1 k2 l1 l2 he hb => h.inj k l (by omega) k2 (by omega) l2 (by omega) (by omega) he hb, fun r r1 r2 => ?_⟩, fun r k r1 r2 k1 k2 => ?_, fun k k1 k2 hb => h.tight k k1 k2 (by omega) hb, hm.v0, fun k k1 k2 hb => hm.vf k k1 k2 (h.zero k k1 k2 (by omega) hb), hm.u0, fun r r1 r2 => ?_, bz, fun r r1 r2 => (bu r r1 r2).2, fun k k1 k2 => (bv k k1 k2).1⟩
  · obtain ⟨k, k1, k2, k3, k4⟩ := h.sur r r1 r2
    exact ⟨k, by omega, k2, k4⟩
  · by_cases hr : r = i
    · rw [hr]; exact hm.feai hat k k1 k2
    · exact hm.fea r k r1 (by omega) k1 k2
  · by_cases hr : r = i
    · rw [hr]; exact hm.uMi hat
    · exact hm.uM r r1 (by omega)

theorem Pot.mid {u v b b' : Int → Int} (h : Pot n (i - 1) c u v b) (hi : 1 ≤ i) (hin : i ≤ n) (hb0 : b' 0 = i) (hb : ∀ k, 1 ≤ k → k ≤ n → b' k = b k) (hl : ∀ k, 1 ≤ k → k ≤ n → low k = 1125899906842624) :
    Mid n i c u v b' low frm (fun _ => False) ord 0 0 :=
  ⟨⟨fun k k1 k2 => by rw [hb k k1 k2]; exact h.bR k k1 k2, fun k l k1 k2 l1 l2 he => by rw [hb k k1 k2] at he ⊢; rw [hb l l1 l2] at he; exact h.inj k l k1 k2 l1 l2 he, fun r r1 r2 => by
      obtain ⟨k, k1, k2, k3⟩ := h.sur r r1 r2
      exact ⟨k, k1, k2, by rw [hb k k1 k2]; exact k3⟩⟩, hb0, fun _ h => h.elim, fun _ h => h.elim, ⟨by omega, by omega, fun h => h⟩, fun _ _ h => h, fun h => absurd rfl h, fun r k r1 r2 => h.fea r k r1 (by omega), fun h => absurd rfl h,
    fun k k1 k2 hbk => by rw [hb k k1 k2] at hbk ⊢; exact h.tight k k1 k2 hbk, h.v0, fun k k1 k2 hbk => by rw [hb k k1 k2] at hbk; exact h.vf k k1 k2 hbk, fun r r1 r2 => h.u0 r (by omega) r2, fun _ => h.u0 i (by omega) hin, fun r r1 r2 => h.uM r r1 (by omega), fun h => absurd rfl h,
    by have := h.u0 i (by omega) hin; have := h.vz; omega, fun _ => hl, fun h => absurd rfl h, fun h => absurd rfl h, fun _ h => h.elim, fun _ h => h.elim, by omega⟩
end
end Go.Proofs.Ytlacdincnpbpdaa
