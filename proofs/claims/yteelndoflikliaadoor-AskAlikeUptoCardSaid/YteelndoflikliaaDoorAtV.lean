/- An atom's text tells it; a host answers by texts. -/
import Derived.Test.YteelndoflikliaaDoorAtU
set_option linter.unusedVariables false
set_option linter.unusedSimpArgs false
namespace Go.Proofs.YteelndoflikliaaDoor
open Go.Sx Go.RowKit

theorem bs_ext {a b : ByteArray} (h : a.data.toList = b.data.toList) : a = b := by rw [← ofL_of a, ← ofL_of b, h]
theorem lb_head {s : ByteArray} (h : lbB s = true) {r l : List UInt8} {c : UInt8} (hc : okC (c.toNat : Int) = false) (he : s.data.toList ++ r = c :: l) : False := by
  have hs := lbB_size h
  cases hl : s.data.toList with
  | nil => have := bs_len s; rw [hl] at this; simp at this; omega
  | cons a t =>
    rw [hl] at he
    simp only [List.cons_append, List.cons.injEq] at he
    have hm : a ∈ s.data.toList := by rw [hl]; exact List.mem_cons_self ..
    rw [he.1] at hm
    exact lb_no h hc hm
theorem un_head {s : ByteArray} (h : unB s = true) {r l : List UInt8} (he : s.data.toList ++ r = 63 :: l) : False := by
  have hs := unB_size h
  cases hl : s.data.toList with
  | nil => have := bs_len s; rw [hl] at this; simp at this; omega
  | cons a t =>
    rw [hl] at he
    simp only [List.cons_append, List.cons.injEq] at he
    have hm : a ∈ s.data.toList := by rw [hl]; exact List.mem_cons_self ..
    rw [he.1] at hm
    exact un_no h (by decide) (by decide) (by decide) hm
theorem lb61 {s : ByteArray} (h : lbB s = true) : (61 : UInt8) ∉ s.data.toList := lb_no h (by decide)
theorem lb62 {s : ByteArray} (h : lbB s = true) : (62 : UInt8) ∉ s.data.toList := lb_no h (by decide)
theorem un61 {s : ByteArray} (h : unB s = true) : (61 : UInt8) ∉ s.data.toList := un_no h (by decide) (by decide) (by decide)
theorem un62 {s : ByteArray} (h : unB s = true) : (62 : UInt8) ∉ s.data.toList := un_no h (by decide) (by decide) (by decide)
theorem txt_inj {z u : AT} (hz : errA z = 0) (hu : errA u = 0) (kz : z.k < 4) (ku : u.k < 4) (h : txt z = txt u) : z.k = u.k ∧ z.key = u.key ∧ z.val = u.val ∧ z.n = u.n := by
  cases z with
  | mk k key val n xs =>
  cases u with
  | mk k2 key2 val2 n2 xs2 =>
  show k = k2 ∧ key = key2 ∧ val = val2 ∧ n = n2
  have no3 : ∀ {a b c : ByteArray} {r : List UInt8}, lbB a = true → lbB b = true → unB c = true → a.data.toList ++ 61 :: b.data.toList ≠ c.data.toList ++ 62 :: r := fun {a b c r} ha hb hc he => by
    have hm : (62 : UInt8) ∈ a.data.toList ++ 61 :: b.data.toList := by rw [he]; simp
    rcases List.mem_append.1 hm with h | h
    · exact lb62 ha h
    · rcases List.mem_cons.1 h with h | h
      · exact absurd h (by decide)
      · exact lb62 hb h
  rcases atom_ok hz kz with ⟨rfl, a, rfl, rfl⟩ | ⟨rfl, a, b, rfl⟩ | ⟨rfl, a, rfl, c, d⟩ <;> rcases atom_ok hu ku with ⟨rfl, a2, rfl, rfl⟩ | ⟨rfl, a2, b2, rfl⟩ | ⟨rfl, a2, rfl, c2, d2⟩
  · rw [txt1, txt1] at h
    injection h with _ h
    exact ⟨rfl, bs_ext h, rfl, rfl⟩
  · rw [txt1, txt2] at h; exact (lb_head a2 (by decide) h.symm).elim
  · rw [txt1, txt3] at h; exact (un_head a2 h.symm).elim
  · rw [txt2, txt1] at h; exact (lb_head a (by decide) h).elim
  · rw [txt2, txt2] at h
    obtain ⟨h1, h2⟩ := sign_split (lb61 a) (lb61 a2) h
    exact ⟨rfl, bs_ext h1, bs_ext h2, rfl⟩
  · rw [txt2, txt3] at h; exact (no3 a b a2 h).elim
  · rw [txt3, txt1] at h; exact (un_head a h).elim
  · rw [txt3, txt2] at h; exact (no3 a2 b2 a h.symm).elim
  · rw [txt3, txt3] at h
    obtain ⟨h1, h2⟩ := sign_split (un62 a) (un62 a2) h
    injection h2 with _ h2
    exact ⟨rfl, bs_ext h1, rfl, itoa_inj ⟨c, d⟩ ⟨c2, d2⟩ h2⟩

/-- What a host answers hangs on the texts alone. -/
theorem host_sem {x y : AT} (hx : errA x = 0) (hy : errA y = 0) (h : sem x y) (ho : Ht) : valA (atH ho) x = valA (atH ho) y := by
  classical
  let v : List UInt8 → Bool := fun a => decide (∃ z : AT, errA z = 0 ∧ z.k < 4 ∧ txt z = a ∧ atH ho z = true)
  have key : ∀ t : AT, errA t = 0 → valA (atH ho) t = valA (fun z => v (txt z)) t := fun t ht => val_congr t ht fun z hz hk _ => by
    rw [Bool.eq_iff_iff]
    show _ ↔ decide _ = true
    rw [decide_eq_true_iff]
    constructor
    · intro hh; exact ⟨z, hz, hk, rfl, hh⟩
    · rintro ⟨u, hu, hku, he, hh⟩
      obtain ⟨e1, e2, e3, e4⟩ := txt_inj hu hz hku hk he
      unfold atH at hh ⊢
      rw [e1, e2, e3, e4] at hh
      exact hh
  rw [key x hx, key y hy]
  exact h v
end Go.Proofs.YteelndoflikliaaDoor
