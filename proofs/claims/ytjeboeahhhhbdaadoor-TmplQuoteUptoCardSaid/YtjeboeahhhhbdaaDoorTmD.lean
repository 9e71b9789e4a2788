/- Scripts with gaps: Plain; the laws of names, and of scripts one behind the other. -/
import Derived.Test.YtjeboeahhhhbdaaDoorTmC
import Derived.Test.YtjeboeahhhhbdaaDoorSxC
set_option linter.unusedVariables false
set_option linter.unusedSimpArgs false
namespace Go.Proofs.YtjeboeahhhhbdaaDoor
open Go.Sx Go.RowKit

theorem vOf_nil : vOf [] = fun _ => [] := by funext n; rfl
theorem lbs_nil {w : World} : Lbs w none [] := fun i x hx => by simp at hx
theorem Plain_k (s : ByteArray) (hs : s.size ≤ 2000) (L : List Sg) (hL : Segs s.data.toList L true) (h0 : gaps L = []) (w : World) :
    FnP Tryd.prog F_tmpl_Plain #[.string s] w fun v w' => Ext w w' ∧ v = .tuple #[.string (ofL (flat (fun _ => []) L)), .bool true] := by
  have hfl := hL.short
  rw [← size_list] at hfl
  refine ok_tmpl_Plain s w _ fun w0 h0' => (Names_k s (by omega) w0).mono fun v w1 ⟨e1, p, n, c, e, hv, hr⟩ => ⟨e1, p, n, c, e, hv, fun hbad => ?_, fun _ w6 h6 => ?_⟩
  · exfalso
    rcases hr with ⟨_, _, h⟩ | ⟨he, _, M, hM, hn, _⟩
    · exact h hs L hL
    · obtain ⟨rfl, _⟩ := hM.uniq hL
      have : names M = [] := by unfold names; rw [h0]; rfl
      rw [this] at hn
      simp at hn
      omega
  · refine (Fill_k s (by omega) none 0 [] (by simp) (by simp) (by simp) w6 lbs_nil).mono fun v w7 ⟨e7, t, e, hv, h1, h2, h3⟩ => ⟨e7, t, e, hv, fun w10 h10 => ⟨(h0'.trans e1).trans h10, ?_⟩⟩
    have he := ((h3 L hs hL (by simp) ⟨by simp, by simp [keys]⟩).1 (by rw [h0]; simp)).1 (by rw [vOf_nil]; omega)
    obtain ⟨_, _, _, M, hM, _, _, ht⟩ := h2 he
    obtain ⟨rfl, _⟩ := hM.uniq hL
    rw [ht, he, vOf_nil]; rfl
theorem scripts_k (w : World) : FnP Tryd.prog F_shiftbellkeep_scripts #[] w fun v w' => Ext w w' ∧ v = .bool true := by
  have hL : Segs (⟨#[97, 36, 36]⟩ : ByteArray).data.toList [.txt [97], .txt [36], .txt []] true := Segs.dol (a := [97]) (r := []) (by decide) (.stop (by decide))
  refine ok_shiftbellkeep_scripts w _ fun w0 h0 => (Plain_k _ (by decide) _ hL rfl w0).mono fun v w1 ⟨e1, hv⟩ => ⟨e1, _, _, hv, fun w4 h4 => ⟨h4, ?_⟩⟩
  have : ofL (flat (fun _ => []) [.txt [97], .txt [36], .txt []]) = (⟨#[97, 36]⟩ : ByteArray) := rfl
  rw [this]; simp

theorem lb_size' {s : ByteArray} (h : lbB s = true) : s.size ≤ 20 := by
  unfold lbB at h
  simp only [Bool.and_eq_true, decide_eq_true_eq] at h
  exact h.1.1.1.2
def bare (y : By) : Lb := ⟨ofL y, ⟨#[]⟩⟩
theorem keys_bare (l : List By) : keys (l.map bare) = l.map ofL := by unfold keys; rw [List.map_map]; rfl
theorem kOk_bare {s : By} {L : List Sg} {b : Bool} (h : Segs s L b) : kOk ((names L).map bare) := by
  refine ⟨fun x hx => ?_, ?_⟩
  · obtain ⟨y, hy, rfl⟩ := List.mem_map.1 hx
    exact h.label y (names_mem.1 hy)
  · rw [keys_bare, List.nodup_iff_pairwise_ne, List.pairwise_map]
    exact (names_nodup L).imp fun hab he => hab (ofL_inj he)
theorem vOf_bare (l : List By) : vOf (l.map bare) = fun _ => [] := by
  funext n
  unfold vOf
  split
  · rename_i x hx
    obtain ⟨y, _, rfl⟩ := List.mem_map.1 (findL_mem hx).1
    rfl
  · rfl
theorem encLb_len (x : Lb) : (encLb x).length = 2 := rfl

end Go.Proofs.YtjeboeahhhhbdaaDoor
