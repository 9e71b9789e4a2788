/- The law TicketOne, for a text of at most 1048576 bytes. -/
import Derived.Test.YtjeboeahhhhbdaaDoorTkLC
import Derived.Test.YtjeboeahhhhbdaaDoorUpK
set_option linter.unusedVariables false
set_option linter.unusedSimpArgs false
namespace Go.Proofs.YtjeboeahhhhbdaaDoor
open Go.Sx Go.RowKit
theorem core_TicketOne (W : World) (hg : GB W) (key : Int) (hk : InR .u64 key) (s : ByteArray) (hs : s.size ≤ 1048576) (now : Int) (_hn : InR .i64 now) :
    FnP Tryd.prog F_shiftbellkeep_TicketOne #[.int .u64 key, .string s, .int .i64 now] W fun v W' => v = .bool true ∧ Ext W W' := by
  have hk : 0 ≤ key ∧ key ≤ 18446744073709551615 := hk
  refine ok_shiftbellkeep_TicketOne key s now W _ fun w0 h0 => (tickets_k w0).mono fun v w1 ⟨e1, hv⟩ => ⟨e1, true, hv, (fun h => by cases h), fun _ w3 h3 => ?_⟩
  refine (Open_k key hk s (by omega) now w3 (hg.ext h3)).mono fun v w4 ⟨e4, t, e, hv, hsz, hne, h0e, _⟩ => ⟨e4, t.user, t.from', t.til, t.most, e, hv, fun b10 _ => ⟨fun hn w11 h11 => ?_, fun hz w11 h11 => ?_⟩⟩
  · exact eqT (t := t) (u := tk0) fun b hb => ⟨Ext.refl _, b, rfl, fun w14 h14 => ⟨b_true (hb.2 (hne hn)), h14⟩⟩
  obtain ⟨ok, hst, _⟩ := h0e hz
  have hus : t.user.size ≤ 9223372036854775807 := by omega
  refine (Seal_k key hk t hus w11 (hg.ext h11).toGA).mono fun v w12 ⟨e12, u, f, hv, hf, _, hu⟩ => ⟨e12, u, f, hv, fun _ w15 h15 => ?_, fun hor => ?_⟩
  · exact (Check_k t hus w15).mono fun v w16 ⟨e16, c, hv, hc⟩ => ⟨e16, c, hv, fun w18 h18 => ⟨b_true (decide_eq_true (hc.2 ok)), h18⟩⟩
  · have h0 := hf.2 ok
    rcases hor with h | h
    · exact absurd h0 h
    · exact absurd ((hu h0).trans hst.symm) h
end Go.Proofs.YtjeboeahhhhbdaaDoor
