/- Scripts with gaps: values are not looked at again. -/
import Derived.Test.YtjeboeahhhhbdaaTmE
import Derived.Test.YtjeboeahhhhbdaaTxtB
import Derived.Lib.IndexMore
set_option linter.unusedVariables false
set_option linter.unusedSimpArgs false
namespace Go.Proofs.Ytjeboeahhhhbdaa
open Go.Sx Go.RowKit

theorem int_of_shape {P : Program} {w : World} {g : Nat} {t : TypeId} {k : IntKind} {zero : Array Value} (h : w.ShapedOpen P) (hg : g < P.globals.size)
    (h0 : ((begin P (fun _ _ => 0) default).world.heap[g]?).bind Obj.row? = some (zero, t)) (hz : zero.size = 1)
    (hb : P.buildable t = true) (hc : P.cellTypes P.depth t = some [t]) (hu : P.underlying t = some (.int k)) : ∃ m, cell w (some (⟨g, 0, none⟩ : Addr)) 0 = some (.int k m) := by
  obtain ⟨cs, hh, hs, hr⟩ := h.1 g zero t hg h0
  obtain ⟨ts, hts, _, hall⟩ := hr hb
  rw [hc] at hts
  cases hts
  have h1 : 0 < cs.size := by omega
  obtain ⟨u, hu', hok⟩ := hall 0 cs[0] (by simp [h1])
  have : u = t := by simpa using hu'.symm
  subst this
  have hcell : cell w (some (⟨g, 0, none⟩ : Addr)) 0 = some cs[0] := by simp [cell, add_zero, World.cell?, hh, h1]
  rw [hcell]
  unfold Cell.ok at hok
  rw [hu] at hok
  cases hv : cs[0] <;> rw [hv] at hok <;> first | (simp at hok; obtain ⟨rfl, _⟩ := hok; exact ⟨_, rfl⟩) | (simp at hok; subst hok; exact ⟨_, rfl⟩) | simp at hok
theorem max_len {W : World} (hsp : W.ShapedOpen Try.prog) : ∃ m, cell W (some (⟨0, 0, none⟩ : Addr)) 0 = some (.int .i64 m) :=
  int_of_shape (zero := #[.int .i64 0]) hsp (g := 0) (t := (Try.prog.globals[0]?).elim 0 (·.type)) (of_decide_eq_true (by kernel_rfl)) (by kernel_rfl) rfl (by kernel_rfl) (by kernel_rfl) (by kernel_rfl)
theorem cell0 {w : World} {b : Nat} {v : Value} (h : cell w (some (⟨b, 0, none⟩ : Addr)) 0 = some v) : w.cell? ⟨b, 0, none⟩ = some v := by simpa [cell, add_zero] using h

theorem index_app (a b c : By) : 0 ≤ Lib.index (a ++ b ++ c) b := by
  rcases Lib.index_spec (a ++ b ++ c) b with ⟨_, h⟩ | ⟨i, h, _⟩
  · have := h a.length (by simp <;> omega)
    have e : (a ++ b ++ c).drop a.length = b ++ c := by simp
    have p : b.isPrefixOf (b ++ c) = true := by simp
    rw [Lib.occAt, e, p] at this
    cases this
  · rw [h]; omega
theorem Contains_s (s sub : ByteArray) (hs : s.size < 4294967281) (hin : 0 ≤ Lib.index s.data.toList sub.data.toList) (w : World) (hg : ∃ m, cell w (some (⟨0, 0, none⟩ : Addr)) 0 = some (.int .i64 m)) :
    FnP Try.prog F_strings_Contains #[.string s, .string sub] w fun v w' => Ext w w' ∧ v = .bool true := by
  obtain ⟨m, hm⟩ := hg
  refine ok_strings_Contains s sub w _ fun w0 h0 => ?_
  have idx : FnP Try.prog F_strings_Index #[.string s, .string sub] w0 fun v w' => Ext w0 w' ∧ v = .int .i64 (Lib.index s.data.toList sub.data.toList) := by
    refine ok_strings_Index s sub w0 _ fun w1 h1 => ⟨fun args w => Try.call29 args w, (Try.stringslite_Index s sub m w1 hs (cell0 (ext_cell (h0.trans h1) hm))).mono fun e w' ⟨he, hw⟩ => ⟨_, he, hw ▸ Ext.refl _, _, rfl, fun w3 h3 => ⟨h3, rfl⟩⟩⟩
  exact idx.mono fun v w1 ⟨e1, hv⟩ => ⟨e1, _, hv, fun w3 h3 => ⟨h3, by simp [hin]⟩⟩

theorem core_TmplValues (W : World) (hg : ∃ m, cell W (some (⟨0, 0, none⟩ : Addr)) 0 = some (.int .i64 m)) : ∀ name : ByteArray, name.size ≤ 1048576 → ∀ value : ByteArray, value.size ≤ 1048576 →
    FnP Try.prog F_shiftbellkeep_TmplValues #[.string name, .string value] W fun v W' => v = .bool true ∧ Ext W W' := by
  intro name hn value hv
  have cat : ∀ a b : ByteArray, (a ++ b).size = a.size + b.size := fun a b => ByteArray.size_append
  have z1 : ∀ c : UInt8, (⟨#[c]⟩ : ByteArray).size = 1 := fun _ => rfl
  have z2 : ∀ c d : UInt8, (⟨#[c, d]⟩ : ByteArray).size = 2 := fun _ _ => rfl
  refine ok_shiftbellkeep_TmplValues name value W _ fun w0 h0 => (scripts_k w0).mono fun v w1 ⟨e1, hv1⟩ => ⟨e1, _, hv1, fun h => by (cases h), fun _ => ⟨by unfold CatOk; rw [z2]; omega, by unfold CatOk; rw [cat, z2, z1]; omega, fun w3 h3 => ?_⟩⟩
  generalize hS : (((⟨#[36, 123]⟩ : ByteArray) ++ name) ++ (⟨#[125]⟩ : ByteArray)) = S
  have hSs : S.size = 3 + name.size := by rw [← hS, cat, cat, z2, z1]; omega
  have hSl : S.data.toList = 36 :: 123 :: (name.data.toList ++ [125]) := by rw [← hS, bs_app, bs_app]; rfl
  refine (Names_k S (by omega) w3).mono fun v w4 ⟨e4, p, n, c, e, hv4, hr⟩ => ⟨e4, p, n, c, e, hv4, ?_⟩
  have fine : decide (e = 0) = true ∨ decide ((n : Int) = 0) = true := by
    rcases hr with ⟨_, h, _⟩ | ⟨h, _⟩
    · exact .inr (by simp [h])
    · exact .inl (by simp [h])
  have fine' : (decide (e = 0) || decide ((n : Int) = 0)) = true := by rw [Bool.or_eq_true]; exact fine
  have got : e = 0 ∧ (n : Int) = 1 → ∃ (y : By) (L : List Sg), Segs S.data.toList L true ∧ y ∈ gaps L ∧ names L = [y] ∧ cell w4 (pIdx p 0 1) 0 = some (.string (ofL y)) := fun ⟨he, hn1⟩ => by
    rcases hr with ⟨h, _⟩ | ⟨_, _, L, hL, hnl, oN⟩
    · exact absurd he h
    · cases hx : names L with
      | nil => rw [hx] at hnl; simp at hnl; omega
      | cons y r =>
        have hr0 : r = [] := by rw [hx] at hnl; simp at hnl; exact List.eq_nil_of_length_eq_zero (by omega)
        subst hr0
        refine ⟨y, L, hL, names_mem.1 (by rw [hx]; simp), hx, ?_⟩
        rw [cell_pIdx]
        exact oN.cells _ _ (by rw [hx]; rfl)
  refine ⟨fun h => by obtain ⟨y, L, _, _, _, hc⟩ := got h; exact fun hq => cell_p hc (pIdx_none.2 hq), fun _ => by omega, fun h => by omega, fun _ w9 h9 => ⟨by rw [fine'], (h3.trans e4).trans h9⟩, fun h => ?_⟩
  obtain ⟨y, L, hL, hy, hny, hc⟩ := got h
  have hlb := hL.label y hy
  have h20 : y.length ≤ 20 := lb_size' hlb
  refine ⟨_, hc, fun _ w10 h10 => ⟨by rw [fine'], (h3.trans e4).trans h10⟩, fun hny => ?_⟩
  have hnl : name.data.toList = y := by rw [← hny]; rfl
  have hn20 : name.size = y.length := by rw [← hny]; rfl
  refine ⟨by unfold CatOk; rw [z1]; omega, by unfold CatOk; rw [cat, z1, z2]; omega, by unfold CatOk; rw [cat, cat, z1, z2]; omega, fun w10 h10 => ?_⟩
  refine run_lit elem_sl_Label [.agg #[.string name, .string value]] rfl rfl (by intro v hv; simp at hv; subst hv; rfl) (by omega) (by omega) fun w11 o11 e11 => ⟨e11, _, _, _, rfl, fun w15 h15 => ?_⟩
  have o15 := ((o11 0 (Nat.zero_le _)).ext h15)
  generalize hT : ((((⟨#[97]⟩ : ByteArray) ++ S) ++ (⟨#[36, 36]⟩ : ByteArray)) ++ S) = T
  have hTs : T.size = 9 + 2 * name.size := by rw [← hT, cat, cat, cat, z1, z2]; omega
  have hTl : T.data.toList = [97] ++ 36 :: 123 :: (y ++ 125 :: ([] ++ 36 :: 36 :: (36 :: 123 :: (y ++ [125])))) := by
    rw [← hT, bs_app, bs_app, bs_app, hSl, hnl]
    simp
  have hseg : Segs T.data.toList (.txt [97] :: .gap y :: .txt [] :: .txt [36] :: [.txt [], .gap y, .txt []]) true := by
    rw [hTl]
    exact .gap (by decide) hlb (.dol (by simp) (segs_gap hlb))
  let l : List Lb := [⟨name, value⟩]
  have hkOk : kOk l := ⟨fun x hx => by
    obtain rfl := List.mem_singleton.1 hx
    show lbB name = true
    rw [← hny]; exact hlb, by simp [keys, l]⟩
  have hvy : vOf l y = value.data.toList := by
    unfold vOf findL
    simp [l, ← hny]
  have hfl : flat (vOf l) (.txt [97] :: .gap y :: .txt [] :: .txt [36] :: [.txt [], .gap y, .txt []]) = [97] ++ value.data.toList ++ ([36] ++ value.data.toList) := by
    simp [flat, hvy]
  have hfs : (flat (vOf l) (.txt [97] :: .gap y :: .txt [] :: .txt [36] :: [.txt [], .gap y, .txt []])).length = 2 * value.size + 2 := by
    rw [hfl]; simp; omega
  have hR : Lbs w15 (some ⟨w10.heap.size, 0, none⟩) l := by
    have hc := o15.cells
    intro i x hx j u hu
    cases i with
    | zero =>
      obtain rfl : ({ key := name, val := value } : Lb) = x := by simpa [l] using hx
      exact hc (0 * 2 + j) u (by simpa [Value.cells] using hu)
    | succ i => simp [l] at hx
  have hks : ∀ m ∈ gaps (.txt [97] :: .gap y :: .txt [] :: .txt [36] :: [.txt [], .gap y, .txt []]), ofL m ∈ keys l := fun m hm => by
    have : m = y := by simpa [gaps] using hm
    subst this
    simp [keys, l, ← hny]
  refine (Fill_k T (by omega) (some ⟨w10.heap.size, 0, none⟩) 1 l (by simp [l]) (fun x hx => by obtain rfl := List.mem_singleton.1 hx; show name.size ≤ _; omega) (fun x hx => by obtain rfl := List.mem_singleton.1 hx; show value.size ≤ _; omega) w15 hR).mono fun v w16 ⟨e16, t, f, hv16, f1, f2, f3⟩ => ⟨e16, t, f, hv16, i64 (by omega), i64 (by omega), fun hbig w19 h19 => ⟨?_, (((h3.trans e4).trans h10).trans e11).trans h19⟩, fun hle => ?_⟩
  · have hf := ((f3 _ (by omega) hseg (by simp [l]) hkOk).1 hks).2 (by omega)
    rw [f1 (by omega), hf]; simp
  · have hf := ((f3 _ (by omega) hseg (by simp [l]) hkOk).1 hks).1 (by omega)
    obtain ⟨_, _, _, K, hK, _, _, ht⟩ := f2 hf
    obtain ⟨rfl, _⟩ := hK.uniq hseg
    have htt : t = (((⟨#[97]⟩ : ByteArray) ++ value) ++ (⟨#[36]⟩ : ByteArray)) ++ value := by
      rw [ht, hfl, ← ofL_of ((((⟨#[97]⟩ : ByteArray) ++ value) ++ (⟨#[36]⟩ : ByteArray)) ++ value), bs_app, bs_app, bs_app]
      simp
    refine ⟨fun _ => by unfold CatOk; rw [z1]; omega, fun _ => by unfold CatOk; rw [cat, z1, z1]; omega, fun _ => by unfold CatOk; rw [cat, cat, z1, z1]; omega, fun _ w19 h19 => ?_, fun hbad => ?_⟩
    · have hx19 := (((h3.trans e4).trans h10).trans e11).trans h19
      refine (Contains_s t value ?_ ?_ w19 ?_).mono fun v w20 ⟨e20, hv20⟩ => ⟨e20, _, hv20, fun w22 h22 => ⟨rfl, (((h3.trans e4).trans h10).trans e11).trans h22⟩⟩
      · rw [htt, cat, cat, cat, z1, z1]; omega
      · rw [ht, hfl, ofL_list]
        exact index_app [97] value.data.toList ([36] ++ value.data.toList)
      · obtain ⟨m, hm⟩ := hg
        exact ⟨m, ext_cell hx19 hm⟩
    · rcases hbad with h | h
      · exact absurd hf h
      · exact absurd htt h
end Go.Proofs.Ytjeboeahhhhbdaa
