/- Hosts: what package host's Check answers. -/
import Derived.Test.YtblafknmfblgfaaAkA
import Derived.Test.YtblafknmfblgfaaTxtC
set_option linter.unusedVariables false
set_option linter.unusedSimpArgs false
namespace Go.Proofs.Ytblafknmfblgfaa
open Go.Sx Go.RowKit

/-- No text is longer. -/
def HtOk (h : Ht) : Prop := h.name.size ≤ 9223372036854775807 ∧ h.labels.length ≤ 9223372036854775807 ∧ ∀ l ∈ h.labels, l.key.size ≤ 9223372036854775807 ∧ l.val.size ≤ 9223372036854775807
/-- Hosts in memory. -/
def HsAt (w : World) (p : Option Addr) (L : List Ht) : Prop := ∀ (i : Nat) (h : Ht), L[i]? = some h → ∃ q c, (∀ (j : Nat) u, (encH h q c)[j]? = some u → Go.Sx.cell w p (i * 8 + j) = some u) ∧ Lbs w q h.labels
theorem HsAt.ext {w w' : World} {p : Option Addr} {L : List Ht} (h : HsAt w p L) (he : Ext w w') : HsAt w' p L := fun i x hx => by
  obtain ⟨q, c, h1, h2⟩ := h i x hx
  exact ⟨q, c, fun j u hu => ext_cell he (h1 j u hu), h2.ext he⟩
theorem HsAt.at {w : World} {p : Option Addr} {L : List Ht} (h : HsAt w p L) {k : Int} (h0 : 0 ≤ k) (hk : k < L.length) : ∃ q c, p ≠ none ∧ pIdx p k 8 ≠ none ∧ (∀ (j : Nat) u, (encH (L.getD k.toNat default) q c)[j]? = some u → Go.Sx.cell w (pIdx p k 8) j = some u) ∧ Lbs w q (L.getD k.toNat default).labels := by
  obtain ⟨q, c, h1, h2⟩ := h k.toNat _ (getElem?_getD L default (by omega))
  have g : ∀ (j : Nat) u, (encH (L.getD k.toNat default) q c)[j]? = some u → Go.Sx.cell w (pIdx p k 8) j = some u := fun j u hu => by rw [cell_pIdx]; exact h1 j u hu
  have g0 := g 0 _ rfl
  exact ⟨q, c, fun hq => cell_p g0 (pIdx_none.2 hq), cell_p g0, g, h2⟩

def okLb (l : List Lb) : Prop := (∀ x ∈ l, lbB x.key = true ∧ lbB x.val = true) ∧ (l.map (·.key)).Nodup
def okH1 (h : Ht) : Prop := lbB h.name = true ∧ h.labels.length ≤ 8 ∧ okLb h.labels ∧ okN h.has ∧ okN h.used ∧ fitN h.used h.has
def okHs (L : List Ht) : Prop := L.length ≤ 30 ∧ (∀ h ∈ L, okH1 h) ∧ (L.map (·.name)).Nodup

/-- A set of texts, as a map to true. -/
def SetIs (w : World) (r : Nat) (S : List ByteArray) : Prop := ∃ m : List (ByteArray × Value), MapIs Value.string w r m ∧ ∀ a, (a ∈ S ∧ mget m a = some (.bool true)) ∨ (a ∉ S ∧ mget m a = none)
theorem SetIs.ext {w w' : World} {r : Nat} {S : List ByteArray} (h : SetIs w r S) (he : Ext w w') : SetIs w' r S := by
  obtain ⟨m, h1, h2⟩ := h
  exact ⟨m, h1.ext he, h2⟩
theorem SetIs.lt {w : World} {r : Nat} {S : List ByteArray} (h : SetIs w r S) : r < w.heap.size := by
  obtain ⟨m, h1, h2⟩ := h
  exact h1.lt
theorem SetIs.grew {w w' : World} {r s : Nat} {S : List ByteArray} (h : SetIs w r S) (hr : r ≠ s) (hg : Grew w w' (some ⟨s, 0, none⟩) (some ⟨s, 0, none⟩)) : SetIs w' r S := by
  obtain ⟨m, h1, h2⟩ := h
  exact ⟨m, h1.grew (fun x hx => by obtain rfl := Option.some.inj hx; exact fun he => hr he.symm) hg, h2⟩
theorem set_mk {w : World} {K : Value → World → Prop} (hk : ∀ w', SetIs w' w.heap.size [] → Ext w w' → K (.map (some w.heap.size)) w') : Run Try.prog (.makeMap T_map_string_bool) w K :=
  run_makeMap (enc := Value.string) fun w' h e => hk w' ⟨[], h, fun a => .inr ⟨by simp, rfl⟩⟩ e
theorem set_look {w : World} {r : Nat} {S : List ByteArray} (h : SetIs w r S) (a : ByteArray) {K : Value → World → Prop} (hk : ∀ b : Bool, (b = true ↔ a ∈ S) → K (.bool b) w) : Run Try.prog (.lookup T_map_string_bool (.map (some r)) (.string a) false) w K := by
  obtain ⟨m, h1, h2⟩ := h
  obtain ⟨i, hi, hz⟩ : ∃ i, Try.prog.info? T_bool = some i ∧ i.zero = some (.bool false) := by
    have : (Try.prog.info? T_bool).map (·.zero) = some (some (.bool false)) := by kernel_rfl
    obtain ⟨i, h1, h2⟩ := Option.map_eq_some_iff.1 this
    exact ⟨i, h1, h2⟩
  refine run_lookup (enc := Value.string) (keyT_str (k := T_string) (by kernel_rfl)) (e := T_bool) (by kernel_rfl) hi hz h1 ?_
  rcases h2 a with ⟨h3, h4⟩ | ⟨h3, h4⟩
  · rw [h4]; exact hk true ⟨fun _ => h3, fun _ => rfl⟩
  · rw [h4]; exact hk false ⟨fun h => (by cases h), fun h => absurd h h3⟩
theorem set_put {w : World} {r : Nat} {S : List ByteArray} (h : SetIs w r S) (a : ByteArray) {K : Value → World → Prop} (hk : ∀ w', SetIs w' r (S ++ [a]) → Grew w w' (some ⟨r, 0, none⟩) (some ⟨r, 0, none⟩) → K undef w') : Run Try.prog (.mapUpdate T_map_string_bool (.map (some r)) (.string a) (.bool true)) w K := by
  obtain ⟨m, h1, h2⟩ := h
  refine run_mapUpdate (enc := Value.string) (keyT_str (k := T_string) (by kernel_rfl)) (e := T_bool) (by kernel_rfl) h1 fun w' h3 h4 => hk w' ⟨_, h3, fun b => ?_⟩ h4
  rw [mget_mset]
  by_cases hab : a = b
  · subst hab; exact .inl ⟨by simp, by simp⟩
  · have : b ≠ a := fun h => hab h.symm
    rw [if_neg hab]
    rcases h2 b with ⟨h5, h6⟩ | ⟨h5, h6⟩
    · exact .inl ⟨List.mem_append_left _ h5, h6⟩
    · exact .inr ⟨fun h => by rcases List.mem_append.1 h with h | h; exact h5 h; exact this (by simpa using h), h6⟩

theorem nodup_take {α : Type} {l : List α} (h : l.Nodup) (k : Nat) {x : α} (hx : l[k]? = some x) : x ∉ l.take k := by
  intro hm
  obtain ⟨j, hj, he⟩ := List.getElem_of_mem hm
  rw [List.length_take] at hj
  rw [List.getElem_take] at he
  have h1 : l[j]? = some x := by rw [List.getElem?_eq_getElem (by omega), he]
  have := (List.getElem?_inj (by omega) h).1 (h1.trans hx.symm)
  omega
theorem nodup_of_takes {α : Type} : ∀ {l : List α}, (∀ (k : Nat) x, l[k]? = some x → x ∉ l.take k) → l.Nodup := by
  intro l h
  rw [List.nodup_iff_pairwise_ne, List.pairwise_iff_getElem]
  intro i j hi hj hij he
  refine h j _ (List.getElem?_eq_getElem hj) ?_
  rw [List.mem_iff_getElem]
  exact ⟨i, by simp; omega, by simp [he]⟩
theorem map_take_succ {α β : Type} (f : α → β) {l : List α} (d : α) {k : Nat} (h : k < l.length) : (l.take (k + 1)).map f = (l.take k).map f ++ [f (l.getD k d)] := by
  rw [List.take_add_one, getElem?_getD l d h]; simp

theorem hcheck_k (p : Option Addr) (c : Nat) (L : List Ht) (h63 : (L.length : Int) ≤ 9223372036854775807) (hO : ∀ h ∈ L, HtOk h) (w : World) (hL : HsAt w p L) :
    FnP Try.prog F_host_Check #[.slice p L.length c] w fun v w' => Ext w w' ∧ ∃ e : Int, v = .int .i64 e ∧ (e = 0 ↔ okHs L) ∧ e ≠ 5 ∧ (∀ h r, L = h :: r → lbB h.name = false → L.length ≤ 30 → e = 3) := by
  refine ok_host_Check p L.length c w _ ⟨fun hgt w0 h0 => ⟨h0, 2, rfl, ⟨fun h => by omega, fun h => by have := h.1; omega⟩, by omega, fun h r _ _ hl => by omega⟩, fun hle w0 h0 => ?_⟩
  refine set_mk fun w1 S1 e1 => ⟨e1, _, rfl, ?_⟩
  generalize hr1 : w0.heap.size = r1 at S1
  have x1 := h0.trans e1
  have hw1 : w.heap.size ≤ r1 := by have := h0.size; omega
  refine ⟨fun k w' => Ext w w' ∧ 0 ≤ k ∧ k ≤ L.length ∧ SetIs w' r1 ((L.take k.toNat).map (·.name)) ∧ (∀ j : Nat, (j : Int) < k → okH1 (L.getD j default)) ∧ (∀ j : Nat, (j : Int) < k → (L.getD j default).name ∉ (L.take j).map (·.name)), fun k _ => (L.length - k).toNat, ⟨x1, by omega, by omega, S1, fun j hj => by omega, fun j hj => by omega⟩, ?_⟩
  rintro k w5 ⟨x5, hk0, hk1, S5, hok, hdist⟩
  have fin : ∀ {e : Int} {w' : World}, Ext w w' → (e ≠ 0 → ¬ okHs L) → e ≠ 0 → e ≠ 5 → (∀ h r, L = h :: r → lbB h.name = false → L.length ≤ 30 → e = 3) → Ext w w' ∧ ∃ e' : Int, Value.int .i64 e = .int .i64 e' ∧ (e' = 0 ↔ okHs L) ∧ e' ≠ 5 ∧ (∀ h r, L = h :: r → lbB h.name = false → L.length ≤ 30 → e' = 3) := fun hx h1 h2 h3 h4 => ⟨hx, _, rfl, ⟨fun h => absurd h h2, fun h => absurd h (h1 h2)⟩, h3, h4⟩
  refine ⟨fun hlt => ?_, fun hge w6 h6 => ⟨x5.trans h6, 0, rfl, ⟨fun _ => ⟨by omega, fun h hh => ?_, ?_⟩, fun _ => rfl⟩, by omega, fun h r he hf _ => ?_⟩⟩
  · obtain ⟨q, d, hp, hp8, g', hLb⟩ := hL.at hk0 hlt
    have hm := getD_mem L default (i := k.toNat) (by omega)
    have hOk := hO _ hm
    generalize hHd : L.getD k.toNat default = H at g' hLb hm hOk
    have g : ∀ (j : Nat) u, (encH H q d)[j]? = some u → Go.Sx.cell w5 (pIdx p k 8) j = some u := fun j u hu => ext_cell x5 (g' j u hu)
    obtain ⟨ho1, ho2, ho3⟩ := hOk
    have hnot : ∀ (P : Ht → Prop), (∀ h ∈ L, P h) → P H := fun P h => h H hm
    have first : lbB H.name = true → ∀ h r, L = h :: r → lbB h.name = false → (k : Int) ≠ 0 ∨ False := fun hn h r he hf => by
      refine .inl fun hz => ?_
      have : H = h := by rw [← hHd, he, hz]; rfl
      rw [this, hf] at hn; cases hn
    have nofirst : lbB H.name = true → ∀ (e : Int) h r, L = h :: r → lbB h.name = false → L.length ≤ 30 → e = 3 := fun hn e h r he hf _ => by
      exfalso
      by_cases hz : k = 0
      · have : H = h := by rw [← hHd, he, hz]; rfl
        rw [this, hf] at hn; cases hn
      · have h0' := (hok 0 (by omega)).1
        have : L.getD 0 default = h := by rw [he]; rfl
        rw [this, hf] at h0'; cases h0'
    refine ⟨hp, hk0, hlt, hp8, _, g 0 _ rfl, _, _, _, g 1 _ rfl, _, g 2 _ rfl, _, g 3 _ rfl, _, g 4 _ rfl, _, g 5 _ rfl, _, g 6 _ rfl, _, g 7 _ rfl, fun b16 hb16 => ?_⟩
    refine ⟨fun w' => w' = w5 ∧ lbB H.name = true ∧ H.name ∉ (L.take k.toNat).map (·.name) ∧ H.labels.length ≤ 8, fun w19 h19 => ?_, ?_⟩
    · refine (Label_k H.name ho1 w19).mono fun v w20 ⟨e20, hv⟩ => ⟨e20, _, hv, fun hf w22 h22 => fin (x5.trans h22) (fun _ ho => by have := (ho.2.1 H hm).1; rw [hf] at this; cases this) (by omega) (by omega) (fun _ _ _ _ _ => rfl), fun hn w22 h22 => ?_⟩
      refine set_look (S5.ext h22) H.name fun b hb => ⟨Ext.refl _, b, rfl, fun hin w25 h25 => fin (x5.trans h25) (fun _ ho => ?_) (by omega) (by omega) (nofirst hn 6), fun hnin => ⟨fun h8 w25 h25 => fin (x5.trans h25) (fun _ ho => by have := (ho.2.1 H hm).2.1; omega) (by omega) (by omega) (nofirst hn 2), fun h8 => ⟨rfl, hn, (fun hm => by rw [hb.2 hm] at hnin; cases hnin), by omega⟩⟩⟩
      have hin : H.name ∈ (L.take k.toNat).map (·.name) := hb.1 hin
      have hx : (L.map (·.name))[k.toNat]? = some H.name := by rw [List.getElem?_map, getElem?_getD L default (by omega), hHd]; rfl
      refine nodup_take ho.2.2 k.toNat hx ?_
      rwa [← List.map_take]
    rintro w5 ⟨rfl, hn, hnin, h8⟩ w19 x19
    have h19 := extB_ext x19
    have hb19 : b16 < w19.heap.size := x19.lt b16 (by simp)
    have hr5 := S5.lt
    refine set_put (S5.ext h19) H.name fun w20 S20 g20 => ⟨fun b hb => ?_, fun w21 x21 => ?_⟩
    · simp at hb; subst hb
      refine g20.by_.block b hb19 fun he => ?_
      simp [blk] at he; omega
    have x20 : Ext w w20 := g20.below (x5.trans h19) (x5.trans h19).size (fun a ha => by obtain rfl := Option.some.inj ha; exact hw1)
    have h21 := extB_ext x21
    refine set_mk fun w22 S22 e22 => ⟨e22, _, rfl, ?_⟩
    have hr21 : r1 < w21.heap.size := by have := S20.lt; have := h21.size; omega
    generalize hr2 : w21.heap.size = r2 at S22 hr21
    have x22 := (x20.trans h21).trans e22
    have hb16r : b16 < r2 := by have := g20.size; have := h21.size; omega
    refine ⟨fun j w' => Ext w w' ∧ 0 ≤ j ∧ j ≤ H.labels.length ∧ SetIs w' r1 ((L.take k.toNat).map (·.name) ++ [H.name]) ∧ SetIs w' r2 ((H.labels.take j.toNat).map (·.key)) ∧ (∀ i : Nat, (i : Int) < j → lbB (H.labels.getD i default).key = true ∧ lbB (H.labels.getD i default).val = true) ∧ (∀ i : Nat, (i : Int) < j → (H.labels.getD i default).key ∉ (H.labels.take i).map (·.key)), fun j _ => (H.labels.length - j).toNat, ⟨x22, by omega, by omega, (S20.ext h21).ext e22, S22, fun i hi => by omega, fun i hi => by omega⟩, ?_⟩
    rintro j w26 ⟨x26, hj0, hj1, Sa, Sb, hlab, hldist⟩
    refine ⟨fun hjl => ?_, fun hjg w27 h27 => ?_⟩
    · have hLb6 := hLb.ext x26
      have l0 := hLb6.idx default hj0 hjl (j := 0) rfl
      have l1 := hLb6.idx default hj0 hjl (j := 1) rfl
      have hlm := getD_mem H.labels default (i := j.toNat) (by omega)
      have hls := ho3 _ hlm
      generalize hld : H.labels.getD j.toNat default = lb at l0 l1 hlm hls
      refine ⟨fun hq => cell_p l0 (pIdx_none.2 hq), hj0, hjl, cell_p l0, _, l0, _, l1, fun b29 hb29 => ?_⟩
      refine ⟨fun w' => w' = w26 ∧ lbB lb.key = true ∧ lbB lb.val = true ∧ lb.key ∉ (H.labels.take j.toNat).map (·.key), fun w32 h32 => ?_, ?_⟩
      · refine (Label_k lb.key hls.1 w32).mono fun v w33 ⟨e33, hv⟩ => ⟨e33, _, hv, fun hf w35 h35 => fin (x26.trans h35) (fun _ ho => by have := ((ho.2.1 H hm).2.2.1.1 lb hlm).1; rw [hf] at this; cases this) (by omega) (by omega) (fun _ _ _ _ _ => rfl), fun hkt w35 h35 => ?_⟩
        refine (Label_k lb.val hls.2 w35).mono fun v w36 ⟨e36, hv⟩ => ⟨e36, _, hv, fun hf w38 h38 => fin (x26.trans h38) (fun _ ho => by have := ((ho.2.1 H hm).2.2.1.1 lb hlm).2; rw [hf] at this; cases this) (by omega) (by omega) (fun _ _ _ _ _ => rfl), fun hvt w38 h38 => ?_⟩
        refine set_look (Sb.ext h38) lb.key fun b hb => ⟨Ext.refl _, b, rfl, fun hin w41 h41 => fin (x26.trans h41) (fun _ ho => ?_) (by omega) (by omega) (nofirst hn 6), fun hnin => ⟨rfl, hkt, hvt, fun hm => by rw [hb.2 hm] at hnin; cases hnin⟩⟩
        have hin : lb.key ∈ (H.labels.take j.toNat).map (·.key) := hb.1 hin
        have hx : (H.labels.map (·.key))[j.toNat]? = some lb.key := by rw [List.getElem?_map, getElem?_getD H.labels default (by omega), hld]; rfl
        refine nodup_take (ho.2.1 H hm).2.2.1.2 j.toNat hx ?_
        rwa [← List.map_take]
      rintro w26 ⟨rfl, hkt, hvt, hknin⟩ w32 x32
      have h32 := extB_ext x32
      refine set_put (Sb.ext h32) lb.key fun w33 S33 g33 => ⟨fun b hb => ?_, i64 (by omega), ⟨?_, by omega, by omega, ?_, ?_, fun i hi => ?_, fun i hi => ?_⟩, by simp only []; omega⟩
      · have hlt' := x32.lt b hb
        refine g33.by_.block b hlt' fun he => ?_
        simp [blk] at he
        simp at hb
        have := Sb.lt
        rcases hb with rfl | rfl <;> omega
      · exact g33.below (x26.trans h32) (x26.trans h32).size (fun a ha => by obtain rfl := Option.some.inj ha; show w.heap.size ≤ r2; omega)
      · exact (Sa.ext h32).grew (by omega) g33
      · rw [show (j + 1).toNat = j.toNat + 1 by omega, map_take_succ (fun x : Lb => x.key) default (by omega), hld]; exact S33
      · by_cases hij : (i : Int) < j
        · exact hlab i hij
        · obtain rfl : i = j.toNat := by omega
          rw [hld]; exact ⟨hkt, hvt⟩
      · by_cases hij : (i : Int) < j
        · exact hldist i hij
        · obtain rfl : i = j.toNat := by omega
          rw [hld]; exact hknin
    · have hL1 : okLb H.labels := ⟨fun x hx => by
        obtain ⟨i, hi, rfl⟩ := List.getElem_of_mem hx
        have := hlab i (by omega)
        simpa [List.getD_eq_getElem?_getD, hi] using this, nodup_of_takes fun i x hx => by
        have hi : i < H.labels.length := by
          have := (List.getElem?_eq_some_iff.1 hx).1
          simpa using this
        rw [List.getElem?_map, getElem?_getD H.labels default hi] at hx
        have hx : (H.labels.getD i default).key = x := by simpa using hx
        rw [← hx, ← List.map_take]
        exact hldist i (by omega)⟩
      refine (nFits_k H.used H.has w27).mono fun v w28 ⟨e28, t, e, hv, ht⟩ => ⟨e28, _, _, hv, fun w31 h31 => ?_⟩
      refine (ncheck_k H.has w31).mono fun v w32 ⟨e32, hv⟩ => ⟨e32, _, hv, ?_⟩
      refine ⟨fun w' => w' = w26 ∧ okN H.has ∧ okN H.used ∧ fitN H.used H.has, ⟨fun hne w36 h36 => ?_, fun he0 => ⟨fun hne w36 h36 => ?_, fun he => ⟨fun hf w36 h36 => ?_, fun htt => ?_⟩⟩⟩, ?_⟩
      · have hno : ¬ okN H.has := fun h => hne (errN_ok.2 h)
        rw [errN_no hno]
        exact fin (x26.trans h36) (fun _ ho => hno (ho.2.1 H hm).2.2.2.1) (by omega) (by omega) (nofirst hn 4)
      · rcases ht with ⟨_, _, rfl, _⟩ | ⟨hno, rfl, _⟩
        · exact absurd rfl hne
        · exact fin (x26.trans h36) (fun _ ho => hno ⟨(ho.2.1 H hm).2.2.2.2.1, (ho.2.1 H hm).2.2.2.1⟩) (by omega) (by omega) (nofirst hn 4)
      · rcases ht with ⟨_, _, _, rfl⟩ | ⟨_, rfl, _⟩
        · exact fin (x26.trans h36) (fun _ ho => by have := (ho.2.1 H hm).2.2.2.2.2; simp [this] at hf) (by omega) (by omega) (nofirst hn 10)
        · omega
      · rcases ht with ⟨h1, h2, _, rfl⟩ | ⟨_, rfl, _⟩
        · exact ⟨rfl, h2, h1, by simpa using htt⟩
        · omega
      · rintro w26 ⟨rfl, ha, hu, hfit⟩
        refine ⟨i64 (by omega), ⟨x26, by omega, by omega, ?_, fun i hi => ?_, fun i hi => ?_⟩, by simp only []; omega⟩
        · rw [show (k + 1).toNat = k.toNat + 1 by omega, map_take_succ (fun x : Ht => x.name) default (by omega), hHd]; exact Sa
        · by_cases hik : (i : Int) < k
          · exact hok i hik
          · obtain rfl : i = k.toNat := by omega
            rw [hHd]; exact ⟨hn, h8, hL1, ha, hu, hfit⟩
        · by_cases hik : (i : Int) < k
          · exact hdist i hik
          · obtain rfl : i = k.toNat := by omega
            rw [hHd]; exact hnin
  · obtain ⟨i, hi, rfl⟩ := List.getElem_of_mem hh
    have := hok i (by omega)
    simpa [List.getD_eq_getElem?_getD, hi] using this
  · refine nodup_of_takes fun i x hx => ?_
    have hi : i < L.length := by
      have := (List.getElem?_eq_some_iff.1 hx).1
      simpa using this
    rw [List.getElem?_map, getElem?_getD L default hi] at hx
    have hx : (L.getD i default).name = x := by simpa using hx
    rw [← hx, ← List.map_take]
    exact hdist i (by omega)
  · exfalso
    have h0' := (hok 0 (by rw [he] at hge; simp at hge; omega)).1
    have : L.getD 0 default = h := by rw [he]; rfl
    rw [this, hf] at h0'; cases h0'


end Go.Proofs.Ytblafknmfblgfaa
