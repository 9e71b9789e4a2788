/- Tickets: what their sums, their texts of sixteen, and their seals are. -/
import Derived.Test.YtjeboeahhhhbdaaDoorLbA
import Derived.Test.YtjeboeahhhhbdaaDoorSxN
import Derived.Test.YtjeboeahhhhbdaaDoorShf
import Derived.Laws.Slices
set_option linter.unusedVariables false
set_option linter.unusedSimpArgs false
namespace Go.Proofs.YtjeboeahhhhbdaaDoor
open Go.Sx Go.RowKit

/-- The tables that are laid. -/
structure GA (w : World) : Prop where
  tz : cell w (some (⟨7, 0, none⟩ : Addr)) 15 = some (.int .u8 4)
  pow : Lib.TabIs Tryd.prog w "internal/strconv.uint64pow10" .u64 Lib.pow10Tab
theorem tab_ext {P : Program} {w w' : World} {name : String} {k : IntKind} {zs : List Int} (h : Lib.TabIs P w name k zs) (e : Ext w w') : Lib.TabIs P w' name k zs := by
  unfold Lib.TabIs World.var? at *
  cases hg : P.globalNamed name with
  | none => simp [hg] at h
  | some g =>
    simp only [hg, Option.bind_some] at h ⊢
    have hlt : g < w.heap.size := by
      rcases Nat.lt_or_ge g w.heap.size with h' | h'
      · exact h'
      · rw [Array.getElem?_eq_none h'] at h; simp at h
    rw [e.block g hlt]; exact h
theorem GA.ext {w w' : World} (g : GA w) (e : Ext w w') : GA w' := ⟨ext_cell e g.tz, tab_ext g.pow e⟩

theorem u64r {x : Int} (h : 0 ≤ x ∧ x ≤ 18446744073709551615) : InR .u64 x := h
/-! ### Sums -/
def mixI (u c : Int) : Int :=
  let t := IntKind.wrap .u64 (IntKind.wrap .u64 (u + c) * 11400714785074694791)
  iBit .xor .u64 t (iBit .shr .u64 t 31)
def sumI (key : Int) (l : List Int) : Int := l.foldl mixI key
theorem sumI_take_succ (key : Int) (l : List Int) {k : Nat} (h : k < l.length) : sumI key (l.take (k + 1)) = mixI (sumI key (l.take k)) (l.getD k 0) := by
  rw [List.take_succ_eq_append_getElem h]
  unfold sumI
  rw [List.foldl_append]
  simp [List.getD_eq_getElem?_getD, h]
theorem bytesI_rng (s : ByteArray) : ∀ x ∈ bytesI s, 0 ≤ x ∧ x ≤ 255 := fun x hx => by
  obtain ⟨b, hb, rfl⟩ := List.mem_map.1 hx
  have := b.toNat_lt
  omega
theorem Sum_k (key : Int) (s : ByteArray) (hs : s.size ≤ 9223372036854775806) (w : World) : FnP Tryd.prog F_ticket_Sum #[.int .u64 key, .string s] w fun v w' => Ext w w' ∧ v = .int .u64 (sumI key (bytesI s)) := by
  refine ok_ticket_Sum key s w _ fun w0 h0 => run_s2b (e := T_uint8) (by kernel_rfl) (by kernel_rfl) (by kernel_rfl) fun p c w1 e1 hb => ⟨e1, p, s.size, c, rfl, ?_⟩
  have hlen := bytesI_len s
  refine ⟨fun u k w' => w' = w1 ∧ 0 ≤ k ∧ k ≤ s.size ∧ u = sumI key ((bytesI s).take k.toNat), fun _ k _ => (s.size - k).toNat, ⟨rfl, by omega, by omega, by simp [sumI]⟩, ?_⟩
  rintro u k w1 ⟨rfl, hk0, hk1, rfl⟩
  refine ⟨fun hlt => ?_, fun hge w9 h9 => ⟨(h0.trans e1).trans h9, ?_⟩⟩
  · have g := Ints.idx hb hk0 (by omega)
    have hr := bytesI_rng s _ (getD_mem (bytesI s) 0 (i := k.toNat) (by omega))
    refine ⟨fun hq => cell_p g (pIdx_none.2 hq), hk0, hlt, _, g, u64r (by omega), i64 (by omega), ⟨rfl, by omega, by omega, ?_⟩, by simp only []; omega⟩
    rw [show (k + 1).toNat = k.toNat + 1 by omega, sumI_take_succ _ _ (by omega)]
    rfl
  · rw [List.take_of_length_le (by omega)]

/-! ### Sixteen signs -/
def dgt (n : Nat) : UInt8 := if n < 10 then UInt8.ofNat (48 + n) else UInt8.ofNat (87 + n)
def hexL (u k : Nat) : List UInt8 := (List.range k).reverse.map fun j => dgt (u / 16 ^ j % 16)
theorem hexL_succ (u k : Nat) : hexL u (k + 1) = dgt (u / 16 ^ k % 16) :: hexL u k := by
  unfold hexL
  rw [List.range_succ, List.reverse_append]; rfl
theorem hexL_len (u k : Nat) : (hexL u k).length = k := by simp [hexL]
theorem hexL_at (u k j : Nat) (h : j < k) : (hexL u k)[k - 1 - j]? = some (dgt (u / 16 ^ j % 16)) := by
  unfold hexL
  rw [List.getElem?_map, List.getElem?_reverse (by simp; omega)]
  simp only [List.length_range]
  rw [List.getElem?_range (by omega)]
  simp only [Option.map_some]
  rw [show k - 1 - (k - 1 - j) = j by omega]
def digS : ByteArray := ⟨#[48, 49, 50, 51, 52, 53, 54, 55, 56, 57, 97, 98, 99, 100, 101, 102, 103, 104, 105, 106, 107, 108, 109, 110, 111, 112, 113, 114, 115, 116, 117, 118, 119, 120, 121, 122]⟩
theorem dig_at : ∀ n : Nat, n < 16 → sAt digS (n : Int) = ((dgt n).toNat : Int) := by decide
theorem and15 (x : Nat) (h : x < 18446744073709551616) : iBit .and .u64 (x : Int) 15 = ((x % 16 : Nat) : Int) := by
  have h1 : (BitVec.ofInt 64 (x : Int) &&& BitVec.ofInt 64 15).toNat = x % 16 := by
    rw [BitVec.toNat_and, show (BitVec.ofInt 64 (15 : Int)).toNat = 15 by decide]
    have : (BitVec.ofInt 64 (x : Int)).toNat = x := by simp [BitVec.toNat_ofInt]; omega
    rw [this]
    exact Nat.and_two_pow_sub_one_eq_mod x 4
  simp only [iBit]
  show IntKind.wrap .u64 (((BitVec.ofInt 64 (x : Int) &&& BitVec.ofInt 64 15).toNat : Nat) : Int) = _
  rw [h1]
  simp [IntKind.wrap, IntKind.signed, IntKind.bits]; omega
theorem shr4 (x : Nat) : iBit .shr .u64 (x : Int) 4 = ((x / 16 : Nat) : Int) := by
  have hb : min (4 : Int).toNat IntKind.u64.bits = 4 := by decide
  simp only [iBit, hb]
  rw [Int.fdiv_eq_ediv_of_nonneg _ (by decide)]
  omega

theorem pow2_k (w : World) : FnP Tryd.prog F_internal_strconv_isPowerOfTwo #[.int .i64 16] w fun v w' => Ext w w' ∧ v = .bool true :=
  ok_internal_strconv_isPowerOfTwo 16 w _ ⟨i64 (by omega), fun w0 h0 => ⟨h0, by kernel_rfl⟩⟩
theorem tz_k (w : World) (g : GA w) : FnP Tryd.prog F_math_bits_TrailingZeros #[.int .u64 16] w fun v w' => Ext w w' ∧ v = .int .i64 4 := by
  refine ok_math_bits_TrailingZeros 16 w _ fun w0 h0 => ?_
  refine FnP.mono (K := fun v w' => Ext w0 w' ∧ v = .int .i64 4) ?_ fun v w1 ⟨e1, hv⟩ => ⟨e1, 4, hv, fun w3 h3 => ⟨h3, rfl⟩⟩
  refine ok_math_bits_TrailingZeros64 16 w0 _ ⟨fun h => absurd h (by omega), fun _ => ?_⟩
  have hi : iBit .shr .u64 (IntKind.wrap .u64 (iBit .and .u64 16 (IntKind.wrap .u64 (0 - 16)) * 285870213051353865)) 58 = 15 := by kernel_rfl
  rw [hi]
  refine ⟨by simp, by omega, by omega, 4, ?_, i64 (by omega), fun w1 h1 => ⟨h1, rfl⟩⟩
  rw [cell_pIdx]
  exact (g.ext h0).tz

theorem pow16 (k : Nat) (h : k ≤ 15) : (16 : Nat) ^ k * 16 = 16 ^ (k + 1) := by rw [Nat.pow_succ]
theorem div_succ (u k : Nat) : u / 16 ^ k / 16 = u / 16 ^ (k + 1) := by rw [Nat.div_div_eq_div_mul, Nat.pow_succ]
theorem getD_set' (l : List Int) (i k : Nat) (x : Int) (hi : i < l.length) : (l.set i x).getD k 0 = if k = i then x else l.getD k 0 := by
  rw [List.getD_eq_getElem?_getD, List.getD_eq_getElem?_getD, List.getElem?_set]
  by_cases h : i = k
  · subst h; simp [hi]
  · rw [if_neg h, if_neg (Ne.symm h)]

theorem bits_k (u : Nat) (hu : u < 18446744073709551616) (w : World) (g : GA w) : FnP Tryd.prog F_internal_strconv_formatBits #[.slice none 0 0, .int .u64 (u : Int), .int .i64 16, .bool false, .bool false] w fun v w' => Ext w w' ∧ ∃ k, 1 ≤ k ∧ k ≤ 16 ∧ u / 16 ^ k = 0 ∧ v = .tuple #[.slice none 0 0, .string ⟨(hexL u k).toArray⟩] := by
  refine ok_internal_strconv_formatBits none 0 0 u 16 false false w _ ⟨fun h => by omega, fun _ w0 h0 => new_own (by simp [Value.oneCell']) fun w1 o1 e1 => ⟨(fun h => by cases h), fun _ w2 h2 => (pow2_k w2).mono fun v w3 ⟨e3, hv⟩ => ⟨e3, true, hv, fun _ => ⟨u64r (by omega), fun w5 h5 => (tz_k w5 (((g.ext h0).ext e1).ext h5)).mono fun v w6 ⟨e6, hv⟩ => ⟨e6, 4, hv, u64r (by omega), u64r (by omega), u64r (by omega), u64r (by omega), ?_⟩⟩, fun h => by cases h⟩⟩⟩
  have x1 : Ext w w1 := h0.trans e1
  have o1 := o1 w.heap.size h0.size
  have np : (some (⟨w0.heap.size, 0, none⟩ : Addr)) ≠ none := by simp
  have o1' : Own w.heap.size w1 128 65 (some ⟨w0.heap.size, 0, none⟩) 1 1 ((List.replicate 65 (0 : Int)).map (.int .u8)) := o1
  have step : ∀ (i : Int) (u' : Int) (k : Nat) (X : List Int) (w' : World), k ≤ 15 → i = 65 - (k : Int) → u' = ((u / 16 ^ k : Nat) : Int) → X.length = 65 → (∀ j, j < k → X.getD (64 - j) 0 = ((dgt (u / 16 ^ j % 16)).toNat : Int)) → Ext w w' → Own w.heap.size w' 128 65 (some ⟨w0.heap.size, 0, none⟩) 1 1 (X.map (.int .u8)) →
      ∀ {K : World → Prop}, (∀ (w'' : World) (Y : List Int), Y.length = 65 → (∀ j, j < k + 1 → Y.getD (64 - j) 0 = ((dgt (u / 16 ^ j % 16)).toNat : Int)) → Ext w w'' → Own w.heap.size w'' 128 65 (some ⟨w0.heap.size, 0, none⟩) 1 1 (Y.map (.int .u8)) → K w'') →
      Store w' (pIdx (some ⟨w0.heap.size, 0, none⟩) (i - 1) 1) [.int .u8 ((dgt (u / 16 ^ k % 16)).toNat : Int)] [] K := by
    intro i u' k X w' hk hi hu' hX hd hx ho K hK
    refine store_own (off := (i - 1).toNat * 1) ho pIdx_map (by simp [hX]; omega) (by simp) (by simp [Value.oneCell']) (by simp) fun w'' o'' g'' => hK w'' (X.set (64 - k) ((dgt (u / 16 ^ k % 16)).toNat : Int)) (by simp [hX]) (fun j hj => ?_) (Grew.ext g'' hx ho) ?_
    · rw [getD_set' _ _ _ _ (by omega)]
      by_cases h : j = k
      · subst h; rw [if_pos rfl]
      · rw [if_neg (by omega)]; exact hd j (by omega)
    · rw [List.map_set]
      have : (i - 1).toNat * 1 = 64 - k := by omega
      rw [this] at o''; exact o''
  refine ⟨fun i u' w' => ∃ (k : Nat) (X : List Int), k ≤ 15 ∧ i = 65 - (k : Int) ∧ u' = ((u / 16 ^ k : Nat) : Int) ∧ X.length = 65 ∧ (∀ j, j < k → X.getD (64 - j) 0 = ((dgt (u / 16 ^ j % 16)).toNat : Int)) ∧ Ext w w' ∧ Own w.heap.size w' 128 65 (some ⟨w0.heap.size, 0, none⟩) 1 1 (X.map (.int .u8)), fun i _ _ => i.toNat, ⟨0, List.replicate 65 0, by omega, by omega, by simp, by simp, fun j hj => by omega, x1, o1'⟩, ?_⟩
  rintro i u' w11 ⟨k, X, hk, hi, hu', hX, hd, hx, ho⟩
  have hlt16 : u / 16 ^ k < 18446744073709551616 := Nat.lt_of_le_of_lt (Nat.div_le_self _ _) hu
  have hdg : digS.size = 36 := rfl
  refine ⟨fun hge => ?_, fun hlt => ?_⟩
  · have hand : iBit .and .u64 u' (16 - 1) = ((u / 16 ^ k % 16 : Nat) : Int) := by rw [hu']; exact and15 _ hlt16
    have hk15 : k + 1 ≤ 15 := by
      have h1 : 16 ≤ u / 16 ^ k := by omega
      have h2 : k ≠ 15 := by
        rintro rfl
        have : u / 16 ^ 15 < 16 := by rw [Nat.div_lt_iff_lt_mul (by decide)]; exact hu
        omega
      omega
    rw [hand, show sAt (⟨#[48, 49, 50, 51, 52, 53, 54, 55, 56, 57, 97, 98, 99, 100, 101, 102, 103, 104, 105, 106, 107, 108, 109, 110, 111, 112, 113, 114, 115, 116, 117, 118, 119, 120, 121, 122]⟩ : ByteArray) ((u / 16 ^ k % 16 : Nat) : Int) = _ from dig_at _ (Nat.mod_lt _ (by omega))]
    refine ⟨i64 (by omega), by omega, ?_, np, by omega, by omega, step i u' k X w11 hk hi hu' hX hd hx ho fun w'' Y hY hdY hxY hoY => ⟨by omega, ⟨k + 1, Y, hk15, by omega, ?_, hY, hdY, hxY, hoY⟩, by simp only []; omega⟩⟩
    · have := Nat.mod_lt (u / 16 ^ k) (show 16 > 0 by omega)
      show ((u / 16 ^ k % 16 : Nat) : Int) < (digS.size : Int)
      rw [hdg]; omega
    · rw [hu', shr4, div_succ]
  · have hmod : u / 16 ^ k % 16 = u / 16 ^ k := Nat.mod_eq_of_lt (by omega)
    rw [hu', show sAt (⟨#[48, 49, 50, 51, 52, 53, 54, 55, 56, 57, 97, 98, 99, 100, 101, 102, 103, 104, 105, 106, 107, 108, 109, 110, 111, 112, 113, 114, 115, 116, 117, 118, 119, 120, 121, 122]⟩ : ByteArray) ((u / 16 ^ k : Nat) : Int) = ((dgt (u / 16 ^ k % 16)).toNat : Int) by rw [hmod]; exact dig_at _ (by omega)]
    refine ⟨i64 (by omega), by omega, ?_, np, by omega, by omega, step i u' k X w11 hk hi hu' hX hd hx ho fun w'' Y hY hdY hxY hoY => ⟨(fun h => by cases h), fun _ => ⟨(fun h => by cases h), fun _ w13 h13 => ?_⟩⟩⟩
    · show ((u / 16 ^ k : Nat) : Int) < (digS.size : Int)
      rw [hdg]; omega
    have hl : (Tryd.prog.arrayLen 128) = 65 := by kernel_rfl
    have hel : Tryd.prog.elem 128 = T_uint8 := by kernel_rfl
    have hsz : ∀ w, (sizeOf (Tryd.prog.elem 128)).run Tryd.prog w = .ok 1 w := fun w => by rw [hel]; exact Tryd.sizeOf5 w
    have hrun := run_sliceAt_array_l (P := Tryd.prog) w13 128 ⟨w0.heap.size, 0, none⟩ (by kernel_rfl) .i64 (i - 1) (by omega) (by rw [hl]; omega)
    rw [hsz] at hrun
    simp only [Result.andThen_ok, hl] at hrun
    have hcells : ∀ j (hj : j < (hexL u (k + 1)).length), w13.cell? ((Addr.add ⟨w0.heap.size, 0, none⟩ (64 - k)).add j) = some (.int .u8 (((hexL u (k + 1))[j]).toNat : Int)) := fun j hj => by
      rw [hexL_len] at hj
      have hc := (hoY.ext h13).cells (64 - k + j) (.int .u8 (Y.getD (64 - k + j) 0)) (by
        rw [List.getElem?_map, List.getElem?_eq_getElem (by omega), List.getD_eq_getElem?_getD, List.getElem?_eq_getElem (by omega)]; rfl)
      have hYj := hdY (k - j) (by omega)
      rw [show 64 - (k - j) = 64 - k + j by omega] at hYj
      rw [hYj] at hc
      have hh := hexL_at u (k + 1) (k - j) (by omega)
      rw [show k + 1 - 1 - (k - j) = j by omega, List.getElem?_eq_getElem (by rw [hexL_len]; omega)] at hh
      rw [Option.some.inj hh, add_add]
      simpa [cell] using hc
    have hres : slicedAt ⟨w0.heap.size, 0, none⟩ (i - 1).toNat 65 65 1 = .slice (some (Addr.add ⟨w0.heap.size, 0, none⟩ (64 - k))) (hexL u (k + 1)).length (k + 1) := by
      unfold slicedAt
      rw [if_neg (by omega), hexL_len]
      rw [show (i - 1).toNat = 64 - k by omega, Nat.mul_one, show 65 - (64 - k) = k + 1 by omega]
    rw [hres] at hrun
    refine ⟨_, w13, hrun, some (Addr.add ⟨w0.heap.size, 0, none⟩ (64 - k)), _, _, rfl, fun w16 h16 => ?_⟩
    refine ⟨.string ⟨(hexL u (k + 1)).toArray⟩, w16, ?_, Ext.refl _, _, rfl, fun w19 h19 => ⟨(hxY.trans h13).trans h19, k + 1, by omega, by omega, ?_, rfl⟩⟩
    · exact run_convert_bytes_back w16 45 9 T_uint8 _ _ _ (by kernel_rfl) (by kernel_rfl) (by kernel_rfl) fun j hj => by
        have h := hcells j hj
        have := ext_cell (p := some ((Addr.add ⟨w0.heap.size, 0, none⟩ (64 - k)).add j)) (i := 0) h16 (by simpa [cell, add_zero] using h)
        simpa [cell, add_zero] using this
    · rw [← div_succ]; omega
end Go.Proofs.YtjeboeahhhhbdaaDoor
