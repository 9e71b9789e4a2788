/- strings.IndexAny at any text, over signs below 128: a number below the text's length; nothing that was there is turned. -/
import Derived.Shelf.Strings.IndexAnyAll
import Derived.Shelf.Small.Utf8
import Derived.Laws.Runes
import Derived.Shelf.RegionOpenPlain
import Derived.Laws.RangeAny
import Derived.Lib.OthersKept
set_option linter.unusedVariables false
set_option linter.unusedSimpArgs false
namespace Go.Proofs
open Go.Shelf Go.RowKit Go.Lib
variable {P : Program} {ρ : Ren}

theorem below_drewNi (w : World) (n : Nat) : Below w.heap.size w (w.drewN n) := ⟨rfl, rfl, rfl, Nat.le_refl _, fun _ _ => rfl⟩
theorem encode_high {r : Int} (h : 128 ≤ r) : 2 ≤ (Utf8.encode r).size ∧ ∀ (b : UInt8), (Utf8.encode r).data.toList.getLast? = some b → 128 ≤ b.toNat := by
  unfold Utf8.encode
  have hc : ∀ c, c = (if Utf8.valid r = true then r.toNat else Utf8.runeError) → 128 ≤ c := by
    intro c hc
    rw [hc]
    split
    · omega
    · simp [Utf8.runeError]
  have hm : ∀ c : Nat, 128 ≤ (UInt8.ofNat (128 + c % 64)).toNat := by
    intro c
    rw [UInt8.toNat_ofNat']
    omega
  generalize hg : (if Utf8.valid r = true then r.toNat else Utf8.runeError) = c
  have := hc c hg.symm
  simp only
  rw [if_neg (by omega)]
  split
  · exact ⟨Nat.le_refl 2, fun b hb => by have h := Option.some.inj (show some _ = some b from hb); rw [← h]; exact hm _⟩
  · split
    · exact ⟨by show 2 ≤ 3; omega, fun b hb => by have h := Option.some.inj (show some _ = some b from hb); rw [← h]; exact hm _⟩
    · exact ⟨by show 2 ≤ 4; omega, fun b hb => by have h := Option.some.inj (show some _ = some b from hb); rw [← h]; exact hm _⟩

theorem indexByte_no {l : List UInt8} {x : UInt8} (h : ∀ y ∈ l, y ≠ x) : Lib.indexByte l x = -1 := by
  have hcon := Lib.contains_iff_indexByte l x
  have : l.contains x = false := by
    cases hc : l.contains x with
    | false => rfl
    | true => exact absurd rfl (h x (by simpa using hc))
  rw [this] at hcon
  have h2 := of_decide_eq_false hcon.symm
  have h3 := Lib.indexByte_ge l x
  omega

set_option maxHeartbeats 4000000 in
set_option maxRecDepth 1000000 in
theorem Any.IndexRune_err (L : Lays.n152 P ρ) (s : ByteArray) (w : World) (hascii : ∀ (j : Nat) b, s.data.toList[j]? = some b → b.toNat < 128) :
    Calls P (ρ.f 152) #[.string s, .int .i32 65533] w fun e w' => e = .returned (.int .i64 (-1)) ∧ Below w.heap.size w w' := by
  have HA : Aside (∀ (j : Nat) b, s.data.toList[j]? = some b → b.toNat < 128) := hascii
  clear hascii
  have t3 := L.t3; have a3 := L.a3; have z3 := L.z3; have v3 := L.v3
  have t4 := L.t4; have a4 := L.a4; have z4 := L.z4; have v4 := L.v4
  have t5 := L.t5; have a5 := L.a5; have z5 := L.z5; have v5 := L.v5
  have t9 := L.t9; have a9 := L.a9; have z9 := L.z9; have v9 := L.v9
  have t21 := L.t21; have a21 := L.a21; have z21 := L.z21; have v21 := L.v21
  have e137 : ∀ args w, (callFunc (ρ.f 137) args).run P w = .ok (.enter (ρ.f 137) args) w := enters_of L.f137 (by kernel_rfl) rfl
  go_enter L.f152, Body.n152_ntmps ρ
  go_wp2
  go_loopg [5, 6] s.size (fun g _ _ wx => ∃ i : Nat, i + g = s.size ∧ wx = w.iter s i)
  case atStart => exact ⟨0, by omega, rfl⟩
  case round =>
    obtain ⟨i, hig, rfl⟩ := hrel
    cases gk with
    | zero =>
      obtain rfl : i = s.size := by omega
      have hnx := run_next_end (P := P) w s s.size
      go_wp2
      go_ret
      exact ⟨rfl, (Below.refl w.heap.size w).alloc (Nat.le_refl _) _⟩
    | succ g =>
      have hi : i < s.size := by omega
      obtain ⟨x, hx⟩ : ∃ x : UInt8, s[i]'hi = x := ⟨_, rfl⟩
      have hxl : s.data.toList[i]? = some x := by rw [← hx]; exact Lib.data_getElem? s i hi
      have hx128 : x.toNat < 128 := HA.out i x hxl
      have hnx := fun ty => run_next_ascii (P := P) w s i ty hi (by rw [hx]; exact hx128)
      rw [hx] at hnx
      have hne : ((x.toNat : Int) == 65533) = false := beq_eq_false_iff_ne.2 (by omega)
      clear hxl hx
      go_wp2
      go_roundg g
      case measure => omega
      case rel => exact ⟨i + 1, by omega, rfl⟩

set_option maxHeartbeats 8000000 in
set_option maxRecDepth 1000000 in
theorem Any.IndexRune_high (L : Lays.n152 P ρ) (s : ByteArray) (r : Int) (w : World) (hr : 128 ≤ r) (hne : r ≠ 65533) (hascii : ∀ (j : Nat) b, s.data.toList[j]? = some b → b.toNat < 128) :
    Calls P (ρ.f 152) #[.string s, .int .i32 r] w fun e w' => e = .returned (.int .i64 (-1)) ∧ Below w.heap.size w w' := by
  have HA : Aside (∀ (j : Nat) b, s.data.toList[j]? = some b → b.toNat < 128) := hascii
  clear hascii
  have t3 := L.t3; have a3 := L.a3; have z3 := L.z3; have v3 := L.v3
  have t4 := L.t4; have a4 := L.a4; have z4 := L.z4; have v4 := L.v4
  have t5 := L.t5; have a5 := L.a5; have z5 := L.z5; have v5 := L.v5
  have t9 := L.t9; have a9 := L.a9; have z9 := L.z9; have v9 := L.v9
  have t21 := L.t21; have a21 := L.a21; have z21 := L.z21; have v21 := L.v21
  have e137 : ∀ args w, (callFunc (ρ.f 137) args).run P w = .ok (.enter (ρ.f 137) args) w := enters_of L.f137 (by kernel_rfl) rfl
  have e119 : ∀ args w, (callFunc (ρ.f 119) args).run P w = .ok (.enter (ρ.f 119) args) w := enters_of L.f119 (by kernel_rfl) rfl
  have h1 : decide (r < 128) = false := decide_eq_false (by omega)
  have h2 : (r == 65533) = false := beq_eq_false_iff_ne.2 hne
  go_enter L.f152, Body.n152_ntmps ρ
  cases hv : Lib.validRune r with
  | false =>
    go_wp2_with (go_at_fn (ρ.f 119); refine (Any.utf8_ValidRune { L with } _ _).mono ?_; rintro e w' ⟨rfl, hw⟩; rw [hw, hv])
    go_ret
    exact ⟨rfl, Below.refl _ _⟩
  | true =>
    go_wp2_with (go_at_fn (ρ.f 119); refine (Any.utf8_ValidRune { L with } _ _).mono ?_; rintro e w' ⟨rfl, hw⟩; rw [hw, hv])
    obtain ⟨he2, he4, hlast⟩ := encode_facts r (by rw [validRune_eq]; exact hv) hr
    generalize hgE : Utf8.encode r = E at he2 he4 hlast
    have HL : Aside (∀ h : E.size - 1 < E.size, 128 ≤ (E[E.size - 1]'h).toNat) := hlast
    clear hlast
    have hw1 : wrap64 ((E.size : Int) - 1) = (E.size : Int) - 1 := by
      simp only [wrap64]; omega
    go_step3
    go_wp2
    go_loopg [9] 1 (fun g s9 wx => s9 = .int .i64 ((E.size : Int) - 1) ∧ wx = w)
    case atStart => exact ⟨rfl, rfl⟩
    case round =>
      obtain ⟨rfl, rfl⟩ := hrel
      by_cases hlt : E.size - 1 < s.size
      · have hd : decide ((E.size : Int) - 1 < (s.size : Int)) = true := decide_eq_true (by omega)
        have mixed := L.mixed
        obtain ⟨x, hx⟩ : ∃ x : UInt8, s[E.size - 1]'hlt = x := ⟨_, rfl⟩
        obtain ⟨y, hy⟩ : ∃ y : UInt8, E[E.size - 1]'(by omega) = y := ⟨_, rfl⟩
        have hx128 : x.toNat < 128 := by rw [← hx]; exact HA.out (E.size - 1) _ (Lib.data_getElem? s (E.size - 1) hlt)
        have hy128 : 128 ≤ y.toNat := by rw [← hy]; exact HL.out _
        have hix : ∀ w, (Instr.index (ρ.t 9) (.string s) (.int .i64 ((E.size : Int) - 1))).run P w = .ok (.int .u8 x.toNat) w := fun w => by
          rw [run_index_string (h := t9), dif_pos ⟨by omega, by omega⟩]
          simp only [show ((E.size : Int) - 1).toNat = E.size - 1 by omega, hx]
        have hiy : ∀ w, (Instr.index (ρ.t 9) (.string E) (.int .i64 ((E.size : Int) - 1))).run P w = .ok (.int .u8 y.toNat) w := fun w => by
          rw [run_index_string (h := t9), dif_pos ⟨by omega, by omega⟩]
          simp only [show ((E.size : Int) - 1).toNat = E.size - 1 by omega, hy]
        have hne2 : ((x.toNat : Int) == (y.toNat : Int)) = false := beq_eq_false_iff_ne.2 (by omega)
        clear hx hy
        go_wp2
        go_step3
        go_wp2
        have hw2 : IntKind.i64.wrap (E.size : Int) = (E.size : Int) := wrap_small _ (by omega) (by omega)
        have hsl : ∀ w, (Instr.slice (ρ.t 9) (.string s) (some (.int .i64 (E.size : Int))) none none).run P w = .ok (.string (s.extract E.size s.size)) w := fun w => by
          rw [run_slice_string_l (ht := t9) (h0 := by omega) (h1 := by omega)]; simp
        have hib : Lib.indexByte (s.extract E.size s.size).data.toList y = -1 := indexByte_no fun z hz => by
          have hz' := mem_extract hz
          obtain ⟨j, hj⟩ := List.getElem?_of_mem hz'
          have := HA.out j z hj
          intro e; subst e; omega
        have hIB : ∀ (w : World) n, Calls P (ρ.f 137) #[.string (s.extract E.size s.size), .int .u8 y.toNat] (w.drewN n) fun e w' => e = .returned (.int .i64 (-1)) ∧ w' = w.drewN n := fun w n => (Any.strings_IndexByte { L with } _ _ _).mono fun e w' ⟨he, hw⟩ => ⟨by rw [he, show ((y.toNat : Int)).toNat.toUInt8 = y by simp, hib], hw⟩
        go_quiet_o (fail)
        go_wp2
        go_quiet_o (first | (go_at_fn (ρ.f 137); exact (hIB _ _).mono fun e w' ⟨h1, h2⟩ => ⟨h1, _, h2⟩))
        go_wp2
        rw [Exit.noGoto_ret]
        simp only [Exit.inBlock, Exit.then]
        rw [Exit.noGoto_ret]
        go_ret
        exact ⟨rfl, below_drewNi _ _⟩
      · have hd : decide ((E.size : Int) - 1 < (s.size : Int)) = false := decide_eq_false (by omega)
        go_wp2
        rw [Exit.noGoto_ret]
        go_ret
        exact ⟨rfl, Below.refl _ _⟩

theorem Any.IndexRune_any (L : Lays.n152 P ρ) (s : ByteArray) (r : Int) (w : World) (h0 : 0 ≤ r) (hascii : ∀ (j : Nat) b, s.data.toList[j]? = some b → b.toNat < 128) :
    Calls P (ρ.f 152) #[.string s, .int .i32 r] w fun e w' => ∃ n : Int, e = .returned (.int .i64 n) ∧ Below w.heap.size w w' := by
  by_cases h1 : r < 128
  · exact (Any.strings_IndexRune_ascii L s r w h0 h1).mono fun e w' ⟨he, hw⟩ => ⟨_, he, hw ▸ Below.refl _ _⟩
  by_cases h2 : r = 65533
  · subst h2
    exact (Any.IndexRune_err L s w hascii).mono fun e w' ⟨he, hw⟩ => ⟨_, he, hw⟩
  · exact (Any.IndexRune_high L s r w (by omega) h2 hascii).mono fun e w' ⟨he, hw⟩ => ⟨_, he, hw⟩

theorem decode_pos (s : ByteArray) (pos : Nat) (h : pos < s.size) : 1 ≤ (Utf8.decode s pos).2 := by
  by_cases ha : (s[pos]'h).toNat < 128
  · rw [decode_ascii s pos h ha]; exact Nat.le_refl 1
  · exact (decode_high s pos h (by omega)).2

set_option maxHeartbeats 8000000 in
set_option maxRecDepth 1000000 in
theorem Any.IndexAny_short_any (L : Lays.n153 P ρ) (s chars : ByteArray) (w : World) (h2 : 2 ≤ chars.size) (h8 : s.size ≤ 8) (hascii : ∀ (j : Nat) b, chars.data.toList[j]? = some b → b.toNat < 128) :
    Calls P (ρ.f 153) #[.string s, .string chars] w fun e w' => ∃ n : Int, e = .returned (.int .i64 n) ∧ n < s.size ∧ Below w.heap.size w w' := by
  have HA : Aside (∀ (j : Nat) b, chars.data.toList[j]? = some b → b.toNat < 128) := hascii
  clear hascii
  have hemp : chars.toList.isEmpty = false := by
    rw [Lib.toList_data]
    cases h : chars.data.toList with
    | nil => have := Lib.size_eq chars; rw [h, List.length_nil] at this; omega
    | cons _ _ => rfl
  have hn1 : ((chars.size : Int) == 1) = false := beq_eq_false_iff_ne.2 (by omega)
  have h8z : decide ((8 : Int) < (s.size : Int)) = false := decide_eq_false (by omega)
  have t3 := L.t3; have a3 := L.a3; have z3 := L.z3; have v3 := L.v3
  have t4 := L.t4; have a4 := L.a4; have z4 := L.z4; have v4 := L.v4
  have t5 := L.t5; have a5 := L.a5; have z5 := L.z5; have v5 := L.v5
  have t9 := L.t9; have a9 := L.a9; have z9 := L.z9; have v9 := L.v9
  have t21 := L.t21; have a21 := L.a21; have z21 := L.z21; have v21 := L.v21
  have e152 : ∀ args w, (callFunc (ρ.f 152) args).run P w = .ok (.enter (ρ.f 152) args) w := enters_of L.f152 (by kernel_rfl) rfl
  have e226 : ∀ args w, (callFunc (ρ.f 226) args).run P w = .ok (.enter (ρ.f 226) args) w := enters_of L.f226 (by kernel_rfl) rfl
  go_enter L.f153, Body.n153_ntmps ρ
  go_wp2_with (go_at_fn (ρ.f 226); refine (Any.strings_shouldUseASCIISet { L with } _ _).mono ?_; rintro e w' ⟨rfl, hw⟩; rw [hw, h8z])
  go_loopg [9, 10] s.size (fun g _ _ wx => ∃ i : Nat, s.size - i ≤ g ∧ wx.heap[w.heap.size]? = some (.stringIter s i) ∧ Below w.heap.size w wx)
  case atStart => exact ⟨0, Nat.sub_le _ _, World.iter_heap _ _ _, (Below.refl _ w).alloc (Nat.le_refl _) _⟩
  case round =>
    obtain ⟨i, hig, hk, hB⟩ := hrel
    have HB : Aside (Below w.heap.size w wr) := hB
    have HK : Aside (wr.heap[w.heap.size]? = some (.stringIter s i)) := hk
    clear hB
    cases gk with
    | zero =>
      have hnx := fun ty => run_next_end_at (P := P) wr w.heap.size s i ty hk (by omega)
      clear hk
      go_wp2
      go_ret
      exact ⟨_, rfl, by omega, HB.out⟩
    | succ g =>
      by_cases hi : i < s.size
      · have hnx := fun ty => run_next_any_at (P := P) wr w.heap.size s i ty hk hi
        have hd := decode_pos s i hi
        generalize hdd : Utf8.decode s i = d at hnx hd
        clear hdd hk
        go_wp2_with (go_at_fn (ρ.f 152); refine (Any.IndexRune_any { L with } _ _ _ (by omega) HA.out).mono ?_; rintro e w' ⟨n, rfl, hw⟩)
        · go_ret
          exact ⟨_, rfl, by omega, (below_iterAt HB.out (Nat.le_refl _) s _).trans (hw.mono (by rw [iterAt_size]; exact HB.out.size))⟩
        · go_roundg g
          case measure => omega
          case rel =>
            refine ⟨i + d.2, by omega, ?_, (below_iterAt HB.out (Nat.le_refl _) s _).trans (hw.mono (by rw [iterAt_size]; exact HB.out.size))⟩
            rw [hw.block _ (by rw [iterAt_size]; exact (Array.getElem?_eq_some_iff.1 HK.out).1)]
            exact iterAt_heap wr w.heap.size s i _ HK.out
      · have hnx := fun ty => run_next_end_at (P := P) wr w.heap.size s i ty hk (by omega)
        clear hk
        go_wp2
        go_ret
        exact ⟨_, rfl, by omega, HB.out⟩

theorem indexAny_lt (chars : List UInt8) : ∀ l : List UInt8, Lib.indexAny l chars < l.length
  | [] => by show (-1 : Int) < _; simp
  | b :: l => by
    have ih := indexAny_lt chars l
    unfold Lib.indexAny
    simp only [List.length_cons]
    split
    · omega
    · split
      · omega
      · omega
/-- strings.IndexAny at whatever text, over two or more signs below 128: a number below the text's length; on ASCII texts the library's own. -/
theorem Any.IndexAny_any (L : Lays.n153 P ρ) (h116 : (P.info? (ρ.t 116)).map (fun i => (i.zero, i.size)) = some (some (.agg (Array.replicate 256 (.bool false))), 256)) (s chars : ByteArray) (w : World) (h2 : 2 ≤ chars.size) (hs : s.size < 4294967281) (hcs : chars.size < 4294967281) (hac : ∀ (j : Nat) b, chars.data.toList[j]? = some b → b.toNat < 128) :
    Calls P (ρ.f 153) #[.string s, .string chars] w fun e w' => (∃ n : Int, e = .returned (.int .i64 n) ∧ n < s.size ∧ ((∀ (j : Nat) b, s.data.toList[j]? = some b → b.toNat < 128) → n = Lib.indexAny s.data.toList chars.data.toList)) ∧ Below w.heap.size w w' := by
  have hlt : Lib.indexAny s.data.toList chars.data.toList < s.size := by have := indexAny_lt chars.data.toList s.data.toList; rw [← Lib.size_eq] at this; exact this
  by_cases h8 : s.size ≤ 8
  · by_cases has : ∀ (j : Nat) b, s.data.toList[j]? = some b → b.toNat < 128
    · exact (Any.strings_IndexAny_laid L h116 s chars w hs hcs has hac).mono fun e w' ⟨he, hb⟩ => ⟨⟨_, he, hlt, fun _ => rfl⟩, hb⟩
    · exact (Any.IndexAny_short_any L s chars w h2 h8 hac).mono fun e w' ⟨n, he, hn, hb⟩ => ⟨⟨n, he, hn, fun h => absurd h has⟩, hb⟩
  · refine (Any.strings_IndexAny_long L (zero_of_info h116).1 (zero_of_info h116).2 s chars w h2 (by omega) hs hcs hac).mono fun e w' ⟨he, hw⟩ => ⟨⟨_, he, hlt, fun _ => rfl⟩, ?_⟩
    rw [hw]
    exact ((Below.refl _ _).alloc (Nat.le_refl _) _).alloc (by simp) _
end Go.Proofs
