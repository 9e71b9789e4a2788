/- Texts and labels: the bytes of a text, as numbers; what a label is. -/
import Derived.Test.YtjeboeahhhhbdaaDoorGood
import Derived.Test.YtjeboeahhhhbdaaDoorSxF
import Derived.Test.YtjeboeahhhhbdaaDoorSxM
import Derived.Laws.IdiomStrings
set_option linter.unusedVariables false
set_option linter.unusedSimpArgs false
namespace Go.Proofs.YtjeboeahhhhbdaaDoor
open Go.Sx Go.RowKit

/-- The bytes of a text, as numbers. -/
def bytesI (s : ByteArray) : List Int := s.data.toList.map fun b => (b.toNat : Int)
theorem bytesI_len (s : ByteArray) : (bytesI s).length = s.size := by simp [bytesI]
theorem bytesI_at {s : ByteArray} {i : Nat} (h : i < s.size) : (bytesI s).getD i 0 = sAt s i := by
  have h' : i < s.data.toList.length := by simpa using h
  simp only [bytesI, sAt, List.getD_eq_getElem?_getD, List.getElem?_map, Int.toNat_natCast, List.getElem?_eq_getElem h', Option.map_some, Option.getD_some]
/-- '[]byte(s)': the bytes in a new row. -/
theorem run_s2b {P : Program} {src dst e : TypeId} {s : ByteArray} (hs : P.underlying src = some .string) (hd : P.underlying dst = some (.slice e)) (he : P.underlying e = some (.int .u8)) {w : World} {K : Value → World → Prop}
    (hk : ∀ p c w', Ext w w' → Ints .u8 w' p (bytesI s) → K (.slice p s.size c) w') : Run P (.convert src dst (.string s)) w K := by
  refine ⟨_, _, run_bytes_of_string w src dst e s hs hd he, hk _ _ _ ?_ fun i v hv => ?_⟩
  · exact Below.alloc (B := w.heap.size) (a := w) (w := w.drew) ⟨rfl, rfl, rfl, Nat.le_refl _, fun _ _ => rfl⟩ (Nat.le_refl _) _
  · obtain ⟨hi, hv⟩ := List.getElem?_eq_some_iff.1 hv
    have hi' : i < s.data.size := by simpa [bytesI] using hi
    have hc := World.cell?_alloc_mark w.drew (bytesRow s (grownCap w s.size 0 e)) e ((bytesRow s (grownCap w s.size 0 e)).size, (bytesRow s (grownCap w s.size 0 e)).size + 1) i
    rw [bytesRow_at s _ i hi'] at hc
    simp only [cell, Option.bind_some]
    have ha : (Addr.add ⟨w.heap.size, 0, none⟩ i) = ⟨w.drew.heap.size, i, none⟩ := by simp [Addr.add]; intro h; exact h.symm
    rw [ha, hc, ← hv]
    simp [bytesI]

def okC (b : Int) : Bool := (decide (97 ≤ b) && decide (b ≤ 122)) || (decide (48 ≤ b) && decide (b ≤ 57)) || decide (b = 45)
def lbB (s : ByteArray) : Bool := decide (0 < s.size) && decide (s.size ≤ 20) && decide (97 ≤ sAt s 0) && decide (sAt s 0 ≤ 122) && (bytesI s).all okC
def cpuS : ByteArray := ⟨#[99, 112, 117]⟩
def memS : ByteArray := ⟨#[109, 101, 109]⟩
def gpuS : ByteArray := ⟨#[103, 112, 117]⟩
def unB (s : ByteArray) : Bool := decide (s = cpuS) || decide (s = memS) || decide (s = gpuS)
def emS : ByteArray := ⟨#[]⟩

theorem Label_k (s : ByteArray) (hs : s.size ≤ 9223372036854775807) (w : World) : FnP Tryd.prog F_ask_Label #[.string s] w fun v w' => Ext w w' ∧ v = .bool (lbB s) := by
  have hem : s ≠ emS ↔ 0 < s.size := by
    constructor
    · intro h
      refine Nat.pos_of_ne_zero fun h0 => h ?_
      have h1 : s.data.size = 0 := h0
      have h2 : s = ByteArray.empty := by simpa using h1
      rw [h2]; rfl
    · rintro h rfl
      simp [emS] at h; exact absurd h (by decide)
  refine ok_ask_Label s w _ ⟨fun _ => by omega, fun h => ?_, fun _ => by omega, fun h => ?_, fun h w0 h0 => ⟨h0, ?_⟩, fun h w0 h0 => ?_⟩
  · have := hem.1 h.1; omega
  · have := hem.1 h.1.1; omega
  · congr 1
    symm
    unfold lbB
    rcases h with ((h | h) | h) | h
    · have : ¬ 0 < s.size := fun hp => (hem.2 hp) h
      simp [this]
    · have : ¬ s.size ≤ 20 := by omega
      simp [this]
    · have : ¬ 97 ≤ sAt s 0 := by omega
      simp [this]
    · have : ¬ sAt s 0 ≤ 122 := by omega
      simp [this]
  · obtain ⟨⟨⟨h1, h2⟩, h3⟩, h4⟩ := h
    have hp := hem.1 h1
    refine run_s2b (e := T_uint8) (by kernel_rfl) (by kernel_rfl) (by kernel_rfl) fun p c w1 e1 hb => ⟨e1, p, s.size, c, rfl, ?_⟩
    have hlen := bytesI_len s
    refine ⟨fun k w' => w' = w1 ∧ 0 ≤ k ∧ k ≤ s.size ∧ ∀ i : Nat, (i : Int) < k → okC ((bytesI s).getD i 0) = true, fun k _ => (s.size - k).toNat, ⟨rfl, by omega, by omega, fun i hi => by omega⟩, ?_⟩
    rintro k w1 ⟨rfl, hk0, hk1, hall⟩
    refine ⟨fun hlt => ?_, fun hge w8 h8 => ⟨(h0.trans e1).trans h8, ?_⟩⟩
    · have g := Ints.idx hb hk0 (by omega)
      refine ⟨fun hq => cell_p g (pIdx_none.2 hq), hk0, hlt, _, g, fun hbad w9 h9 => ⟨(h0.trans e1).trans h9, ?_⟩, fun hok => ⟨i64 (by omega), ⟨rfl, by omega, by omega, fun i hi => ?_⟩, by simp only []; omega⟩⟩
      · congr 1
        symm
        have hno : okC ((bytesI s).getD k.toNat 0) = false := by
          unfold okC
          generalize (bytesI s).getD k.toNat 0 = b at hbad
          simp; omega
        have : (bytesI s).all okC = false := by
          rw [List.all_eq_false]
          exact ⟨_, getD_mem (bytesI s) 0 (i := k.toNat) (by omega), by rw [hno]; simp⟩
        unfold lbB
        simp [this]
      · by_cases hik : (i : Int) < k
        · exact hall i hik
        · obtain rfl : i = k.toNat := by omega
          unfold okC
          generalize (bytesI s).getD k.toNat 0 = b at hok
          simp; omega
    · congr 1
      symm
      have : (bytesI s).all okC = true := by
        rw [List.all_eq_true]
        intro x hx
        obtain ⟨i, hi, rfl⟩ := List.getElem_of_mem hx
        have := hall i (by omega)
        simpa [List.getD_eq_getElem?_getD, hi] using this
      unfold lbB
      simp only [this, Bool.and_true, Bool.and_eq_true, decide_eq_true_eq]
      exact ⟨⟨⟨hp, by omega⟩, h3⟩, h4⟩

end Go.Proofs.YtjeboeahhhhbdaaDoor
