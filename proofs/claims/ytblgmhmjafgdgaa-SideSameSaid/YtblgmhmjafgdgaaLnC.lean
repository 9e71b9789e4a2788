/- What the closure of side.Bins answers: one number for each row of things, whatever it is run on. -/
import Derived.Test.YtblgmhmjafgdgaaLnB
set_option linter.unusedVariables false
set_option linter.unusedSimpArgs false
namespace Go.Proofs.Ytblgmhmjafgdgaa
open Go.Sx Go.RowKit

/-- One thing more, into the first box that has room for it. -/
def putB (s : Int) : List Int → Int → List Int
  | [], x => [x]
  | a :: F, x => if a + x ≤ s then (a + x) :: F else a :: putB s F x
theorem putB_at {s x : Int} : ∀ (F : List Int) (k : Nat), (∀ j, j < k → s < F.getD j 0 + x) → k < F.length → F.getD k 0 + x ≤ s → putB s F x = F.set k (F.getD k 0 + x)
  | [], k, _, hk, _ => absurd hk (Nat.not_lt_zero k)
  | a :: F, 0, _, _, h => by
    have h : a + x ≤ s := h
    simp [putB, h]
  | a :: F, k + 1, hno, hk, h => by
    have h0 : s < a + x := hno 0 (Nat.succ_pos k)
    have h1 : ¬ a + x ≤ s := by omega
    have := putB_at F k (fun j hj => hno (j + 1) (by omega)) (by simpa using hk) h
    simp only [putB, if_neg h1, this, List.set_cons_succ]
    rfl
theorem putB_end {s x : Int} : ∀ (F : List Int), (∀ j, j < F.length → s < F.getD j 0 + x) → putB s F x = F ++ [x]
  | [], _ => rfl
  | a :: F, hno => by
    have h0 : s < a + x := hno 0 (Nat.succ_pos _)
    have h1 : ¬ a + x ≤ s := by omega
    have := putB_end F fun j hj => hno (j + 1) (by simp; omega)
    simp only [putB, if_neg h1, this, List.cons_append]
theorem FF.fold {s : Int} {L row F on : List Int} (h : FF s L row F on) : F = (row.map fun i => dg L i.toNat).foldl (putB s) [] := by
  induction h with
  | nil => rfl
  | @cons row F on i F' on' _ hi hs ih =>
    rw [List.map_append, List.foldl_append, ← ih]
    obtain ⟨k, hno, h, _⟩ := hs.ex
    rcases h with ⟨hk, hle, rfl⟩ | ⟨hk, rfl⟩
    · exact (putB_at F k hno hk hle).symm
    · exact (putB_end F fun j hj => hno j (by omega)).symm
theorem map_nums (L : List Int) : (nums L.length).map (fun i => dg L i.toNat) = L := by
  refine List.ext_getElem (by simp [nums]) fun i h1 h2 => ?_
  simp [nums, dg, List.getD_eq_getElem?_getD, h2]

/-- How many boxes a row of things takes. -/
def BinIs (s : Int) (L : List Int) (r : Int) : Prop :=
  (¬ okP s L ∧ r = 0 - errP s L) ∨ (okP s L ∧ ∃ V : List Int, V.Perm L ∧ V.Pairwise (fun a b => b ≤ a) ∧ r = (V.foldl (putB s) []).length)
theorem BinIs.same {s : Int} {L : List Int} {r r' : Int} (h : BinIs s L r) (h' : BinIs s L r') : r = r' := by
  rcases h with ⟨hn, rfl⟩ | ⟨hk, V, hp, hw, rfl⟩
  · rcases h' with ⟨_, rfl⟩ | ⟨hk', _⟩
    · rfl
    · exact absurd hk' hn
  · rcases h' with ⟨hn', _⟩ | ⟨_, V', hp', hw', rfl⟩
    · exact absurd hk hn'
    · rw [List.Perm.eq_of_pairwise (le := fun a b => b ≤ a) (fun a b _ _ h1 h2 => Int.le_antisymm h2 h1) hw hw' (hp.trans hp'.symm)]
theorem errP_small (s : Int) (L : List Int) : 0 ≤ errP s L ∧ errP s L ≤ 8 := by
  unfold errP
  split
  · omega
  · split
    · omega
    · split <;> omega
theorem keeps_ext {w0 : World} {p : Option Addr} (h : ∀ a, p = some a → w0.heap.size ≤ a.block) : Keeps (fun w => Ext w0 w) p := fun w w' he g => Grew.below g he he.size h
theorem down_cmps (B0 : World) (q : Option Addr) (c : Nat) (D : List Int) (hD : Ints .i64 B0 q D) (p1 : Option Addr) (hc : cell B0 p1 0 = some (.slice q D.length c)) : Cmps (fun w => Ext B0 w) (fun x => 0 ≤ x ∧ x < D.length) (fun x => dg D x.toNat) (.func (.func F_pack_Down_1) #[] #[.pointer p1]) := by
  intro x y w hx hSx hSy
  have gx := Ints.idx (hD.ext hx) hSx.1 hSx.2
  have gy := Ints.idx (hD.ext hx) hSy.1 hSy.2
  have hq : q ≠ none := fun hq => cell_p gx (pIdx_none.2 hq)
  refine ⟨F_pack_Down_1, #[.pointer p1], rfl, (ok_pack_Down_1 x y p1 w _ ⟨_, _, _, ext_cell hx hc, hq, hSy.1, hSy.2, _, gy, _, _, _, ext_cell hx hc, hq, hSx.1, hSx.2, _, gx, fun w8 h8 => ?_⟩ : FnP Try.prog F_pack_Down_1 #[.int .i64 x, .int .i64 y, .pointer p1] w _)⟩
  exact (compare_k _ _ w8).mono fun v w9 ⟨e9, t, hv, ht⟩ => ⟨e9, t, hv, fun w11 h11 => ⟨h11, t, rfl, ht⟩⟩
theorem falls_pairwise {L Y : List Int} (h : Falls (fun x => dg L x.toNat) Y 0 Y.length) : (Y.map fun i => dg L i.toNat).Pairwise (fun a b => b ≤ a) := by
  rw [List.pairwise_iff_getElem]
  intro i j hi hj hij
  simp only [List.length_map] at hi hj
  have := h i j (by omega) (by omega) (by omega)
  simpa [nth, List.getD_eq_getElem?_getD, hi, hj] using this
theorem Down_k (s : Int) (q : Option Addr) (c : Nat) (L : List Int) (h64 : (L.length : Int) ≤ 9223372036854775807) (w : World) (hL : Ints .i64 w q L) : FnP Try.prog F_pack_Down #[.slice q L.length c, .int .i64 s] w fun v w' => Ext w w' ∧ ∃ p n oc t, v = .tuple #[.slice p n oc, .int .i64 t, .int .i64 (errP s L)] ∧ (okP s L → BinIs s L t) := by
  refine ok_pack_Down q L.length c s w _ fun w0 h0 => ?_
  refine new_one rfl fun p1 w1 e1 c1 hp1 hsz => ⟨_, _, _, c1, fun w5 h5 => ?_⟩
  have hx1 := h0.trans e1
  refine (pcheck2_k s q c L h64 w5 (hL.ext (hx1.trans h5))).mono fun v w6 ⟨e6, hv⟩ => ⟨e6, _, hv, fun hne w8 h8 => ⟨hx1.trans h8, _, _, _, _, rfl, fun hok => absurd (errP_ok.2 hok) hne⟩, fun he => ⟨_, _, _, c1, fun w11 h11 => ?_⟩⟩
  have hok := errP_ok.1 he
  have hl100 := hok.1
  refine (pnumbers_k L.length (by omega) w11).mono fun v w12 ⟨e12, r, rc, hv, oR⟩ => ⟨e12, r, _, rc, hv, fun w16 h16 => ?_⟩
  have hx16 := (h11.trans e12).trans h16
  have cm := down_cmps w1 q c L (hL.ext hx1) p1 c1
  have oR1 := (oR.weak h11.size).ext h16
  refine (sort_k (keeps_ext fun a ha => (Own.lt oR1 a ha).1) cm (nums L.length) (fun x hx => nums_mem hx) (by omega) w16 hx16 hx16 oR1).mono fun v w17 ⟨hv, Y, hY, hfl⟩ => ⟨hv, _, _, _, ext_cell hY.ext c1, fun w21 h21 => ?_⟩
  have hx21 := hx1.trans (hY.ext.trans h21)
  have hYl := hY.len
  have hrun := first_k s q c L hok r rc Y (fun x hx => nums_mem (hY.perm.mem_iff.1 hx)) (by omega) w21 (hL.ext hx21) (hY.own.ext h21).cells
  rw [hYl] at hrun
  refine hrun.mono fun v w22 ⟨e22, p, oc, F, on, hv, oN, hP⟩ => ⟨e22, _, _, _, _, hv, fun w27 h27 => ⟨(hx21.trans e22).trans h27, _, _, _, _, by rw [he], fun _ => .inr ⟨hok, Y.map fun i => dg L i.toNat, ?_, falls_pairwise (by rw [hYl]; exact hfl), by rw [hP.fold]⟩⟩⟩
  have := hY.perm.map fun i => dg L i.toNat
  rwa [map_nums] at this
theorem Bins1_k (s : Int) (q : Option Addr) (c : Nat) (L : List Int) (h64 : (L.length : Int) ≤ 9223372036854775807) (bx : Option Addr) (w : World) (hL : Ints .i64 w q L) (hbx : cell w bx 0 = some (.int .i64 s)) :
    FnP Try.prog F_side_Bins_1 #[.slice q L.length c, .pointer bx] w fun v w' => ∃ r, v = .int .i64 r ∧ BinIs s L r := by
  refine ok_side_Bins_1 q L.length c bx w _ ⟨s, hbx, fun w1 h1 => ?_⟩
  refine (Down_k s q c L h64 w1 (hL.ext h1)).mono fun v w2 ⟨e2, p, n, oc, t, hv, hk⟩ => ⟨e2, p, n, oc, t, _, hv, fun hne => ?_, fun he w8 h8 => ⟨t, rfl, hk (errP_ok.1 he)⟩⟩
  have := errP_small s L
  exact ⟨i64 (by omega), fun w8 h8 => ⟨_, rfl, .inl ⟨fun hok => hne (errP_ok.2 hok), rfl⟩⟩⟩
end Go.Proofs.Ytblgmhmjafgdgaa
