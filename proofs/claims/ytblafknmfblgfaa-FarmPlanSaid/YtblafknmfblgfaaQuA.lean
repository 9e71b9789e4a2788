/- The queue's row in memory, and what the library's heap does to it. -/
import Derived.Test.YtblafknmfblgfaaGood
import Derived.Test.YtblafknmfblgfaaQuP
import Derived.Test.YtblafknmfblgfaaSxF
import Derived.Test.YtblafknmfblgfaaTxtD
set_option linter.unusedVariables false
set_option linter.unusedSimpArgs false
namespace Go.Proofs.Ytblafknmfblgfaa
open Go.Sx Go.RowKit

theorem elem_queue_row : slEl Try.prog T_queue_row = some (T_ptr_queue_thing, 1, 8, .pointer none) := by kernel_rfl
def thc (t : Th) (k : Nat) : List Value := [.int .i64 t.prio, .int .i64 t.id, .int .i64 t.born, .int .i64 (k : Int)]
def ptr (b : Nat) : Option Addr := some ⟨b, 0, none⟩
def pv (t : Th) : Value := .pointer (ptr t.b)
theorem ptr_ne (b : Nat) : ptr b ≠ none := by simp [ptr]
theorem apart_ptr {a b : Nat} (h : a ≠ b) : Apart (ptr a) (ptr b) := fun x y hx hy => by cases hx; cases hy; exact h
theorem apart_to {a : Nat} {p : Option Addr} (h : ∀ x, p = some x → a ≠ x.block) : Apart (ptr a) p := fun x y hx hy => by cases hx; exact h y hy

def Foot (qb : Nat) (p : Option Addr) (H : List Th) (b : Nat) : Prop := b = qb ∨ (∃ a, p = some a ∧ a.block = b) ∨ ∃ t ∈ H, t.b = b
theorem foot_perm {qb : Nat} {p : Option Addr} {H G : List Th} (h : H.Perm G) (b : Nat) : Foot qb p H b ↔ Foot qb p G b := by
  unfold Foot
  constructor <;> rintro (h1 | h1 | ⟨t, ht, h1⟩)
  · exact .inl h1
  · exact .inr (.inl h1)
  · exact .inr (.inr ⟨t, h.mem_iff.1 ht, h1⟩)
  · exact .inl h1
  · exact .inr (.inl h1)
  · exact .inr (.inr ⟨t, h.mem_iff.2 ht, h1⟩)

structure QI (B : Nat) (w : World) (qb : Nat) (x y : Value) (p : Option Addr) (c : Nat) (H : List Th) : Prop where
  slot : Own B w T_queue_Queue 3 (ptr qb) 1 1 [.slice p H.length c, x, y]
  arr : Own B w T_ptr_queue_thing 1 p H.length c (H.map pv)
  th : ∀ k, k < H.length → Own B w T_queue_thing 4 (ptr (at_ H k).b) 1 1 (thc (at_ H k) k)
  inj : ∀ i k, i < H.length → k < H.length → (at_ H i).b = (at_ H k).b → i = k
  aq : ∀ i, i < H.length → (at_ H i).b ≠ qb
  ap : ∀ a, p = some a → a.block ≠ qb ∧ ∀ i, i < H.length → (at_ H i).b ≠ a.block

section
variable {B qb : Nat} {x y : Value} {p : Option Addr} {c : Nat} {H : List Th} {w : World}

theorem QI.ext {w' : World} (q : QI B w qb x y p c H) (h : Ext w w') : QI B w' qb x y p c H := ⟨q.slot.ext h, q.arr.ext h, fun k hk => (q.th k hk).ext h, q.inj, q.aq, q.ap⟩
theorem QI.fr {S : Nat → Prop} {w' : World} (q : QI B w qb x y p c H) (h : Fr S w w') (hs : ∀ b, Foot qb p H b → ¬ S b) : QI B w' qb x y p c H :=
  ⟨q.slot.fr h fun a ha => by cases ha; exact hs _ (.inl rfl), q.arr.fr h fun a ha => hs _ (.inr (.inl ⟨a, ha, rfl⟩)), fun k hk => (q.th k hk).fr h fun a ha => by cases ha; exact hs _ (.inr (.inr ⟨_, at_mem H hk, rfl⟩)), q.inj, q.aq, q.ap⟩
theorem QI.foot (q : QI B w qb x y p c H) {b : Nat} (h : Foot qb p H b) : B ≤ b ∧ b < w.heap.size := by
  rcases h with rfl | ⟨a, ha, rfl⟩ | ⟨t, ht, rfl⟩
  · exact q.slot.lt _ rfl
  · exact q.arr.lt a ha
  · obtain ⟨k, hk, rfl⟩ := mem_at ht
    exact (q.th k hk).lt _ rfl
theorem QI.ne (q : QI B w qb x y p c H) (h : 0 < H.length) : p ≠ none := q.arr.ne1 h (by omega)
theorem map_at {i : Nat} (h : i < H.length) : (H.map pv)[i]? = some (pv (at_ H i)) := by
  unfold at_
  rw [List.getElem?_map, List.getElem?_eq_getElem h, List.getD_eq_getElem?_getD, List.getElem?_eq_getElem h]; rfl
theorem arr_at {e : TypeId} {n : Nat} (o : Own B w e 1 p n c (H.map pv)) {i : Int} (h0 : 0 ≤ i) (h : i.toNat < H.length) : cell w (pIdx p i 1) 0 = some (.pointer (ptr (at_ H i.toNat).b)) := by
  rw [cell_pIdx]
  have := o.cells (i.toNat * 1 + 0) (pv (at_ H i.toNat)) (by rw [Nat.mul_one, Nat.add_zero]; exact map_at h)
  exact this
theorem store_idx {e : TypeId} {n : Nat} {q : Option Addr} {xs : List Value} {v : Value} {ns : List Nat} {i : Int} {K : World → Prop} (ho : Own B w e 1 q n c xs) (hi : i.toNat < xs.length) (h1 : v.oneCell' = true) (hns : ∀ b ∈ ns, ∀ x, q = some x → x.block ≠ b)
    (hk : ∀ w', Own B w' e 1 q n c (xs.set i.toNat v) → Grew w w' q q → K w') : Store w (pIdx q i 1) [v] ns K :=
  store_own ho (by rw [pIdx_map, Nat.mul_one]) (by simp; omega) (by simp) (by simpa using h1) hns hk

theorem ahead_k {t u : Th} {i k : Nat} (ht : Own B w T_queue_thing 4 (ptr t.b) 1 1 (thc t i)) (hu : Own B w T_queue_thing 4 (ptr u.b) 1 1 (thc u k)) :
    FnP Try.prog F_queue_thing_ahead #[.pointer (ptr t.b), .pointer (ptr u.b)] w fun v w' => Ext w w' ∧ v = .bool (decide (ahead t u)) := by
  refine ok_queue_thing_ahead (ptr t.b) (ptr u.b) w _ ?_
  unfold wp_queue_thing_ahead
  simp only [pAdd_zero]
  have nt := ptr_ne t.b
  have nu := ptr_ne u.b
  refine ⟨nt, nt, nt, _, ht.cellAt (i := 0) rfl, nu, nu, nu, _, hu.cellAt (i := 0) rfl, fun _ => nt, fun _ => nt, fun _ => nt, fun hlt w2 h2 => ⟨h2, ?_⟩,
    fun hle => ⟨_, ht.cellAt (i := 0) rfl, nu, nu, nu, _, hu.cellAt (i := 0) rfl, fun _ => nt, fun _ => nt, fun he => ⟨_, ht.cellAt0 (i := 2) rfl, nu, nu, _, hu.cellAt0 (i := 2) rfl, fun w6 h6 => ⟨h6, ?_⟩⟩, fun hne w4 h4 => ⟨h4, ?_⟩⟩⟩
  · rw [decide_eq_true (show ahead t u from .inl hlt)]
  · congr 1
    refine decide_eq_decide.2 ?_
    unfold ahead; omega
  · rw [decide_eq_false]
    unfold ahead; omega

theorem less_k (q : QI B w qb x y p c H) {i k : Int} (i0 : 0 ≤ i) (hi : i < H.length) (k0 : 0 ≤ k) (hk : k < H.length) :
    FnP Try.prog F_queue_row_Less #[.slice p H.length c, .int .i64 i, .int .i64 k] w fun v w' => Ext w w' ∧ v = .bool (decide (ahead (at_ H i.toNat) (at_ H k.toNat))) := by
  have hp := q.ne (by omega)
  refine ok_queue_row_Less p H.length c i k w _ ⟨hp, i0, hi, _, arr_at q.arr i0 (by omega), hp, k0, hk, _, arr_at q.arr k0 (by omega), fun w2 h2 => ?_⟩
  exact (ahead_k ((q.th i.toNat (by omega)).ext h2) ((q.th k.toNat (by omega)).ext h2)).mono fun v w3 ⟨e3, qhv⟩ => ⟨e3, _, qhv, fun w5 h5 => ⟨h5, rfl⟩⟩

theorem len_k : FnP Try.prog F_queue_row_Len #[.slice p H.length c] w fun v w' => Ext w w' ∧ v = .int .i64 H.length :=
  ok_queue_row_Len p H.length c w _ fun w0 h0 => ⟨h0, rfl⟩

theorem swap_k (q : QI B w qb x y p c H) {i k : Int} (i0 : 0 ≤ i) (hi : i < H.length) (k0 : 0 ≤ k) (hk : k < H.length) :
    FnP Try.prog F_queue_row_Swap #[.slice p H.length c, .int .i64 i, .int .i64 k] w fun v w' => v = .tuple #[] ∧ QI B w' qb x y p c (swp H i.toNat k.toNat) ∧ Fr (Foot qb p H) w w' := by
  have hp := q.ne (by omega)
  obtain ⟨a, rfl⟩ : ∃ a, p = some a := by cases p with | none => exact absurd rfl hp | some a => exact ⟨a, rfl⟩
  obtain ⟨aq', ath⟩ := q.ap a rfl
  have hni : i.toNat < H.length := by omega
  have hnk : k.toNat < H.length := by omega
  refine ok_queue_row_Swap (some a) H.length c i k w _ ⟨hp, k0, hk, _, arr_at q.arr k0 hnk, hp, i0, hi, _, arr_at q.arr i0 hni, hp, i0, hi, ?_⟩
  refine store_idx q.arr (by simpa using hni) rfl (by simp) fun w2 o2 g2 => ⟨hp, k0, hk, store_idx o2 (by simpa using hnk) rfl (by simp) fun w3 o3 g3 => ?_⟩
  have e3 : ((H.map pv).set i.toNat (.pointer (ptr (at_ H k.toNat).b))).set k.toNat (.pointer (ptr (at_ H i.toNat).b)) = (swp H i.toNat k.toNat).map pv := by unfold swp; rw [List.map_set, List.map_set]; rfl
  rw [e3] at o3
  have hl := swp_len H i.toNat k.toNat
  have th3 : ∀ m, m < H.length → Own B w3 T_queue_thing 4 (ptr (at_ H m).b) 1 1 (thc (at_ H m) m) := fun m hm =>
    ((q.th m hm).st (apart_to fun x hx => by cases hx; exact ath m hm) g2).st (apart_to fun x hx => by cases hx; exact ath m hm) g3
  have ci := arr_at o3 i0 (by omega)
  have ck := arr_at o3 k0 (by omega)
  rw [swp_at H hni hnk] at ci ck
  rw [if_pos rfl] at ck
  have ci' : cell w3 (pIdx (some a) i 1) 0 = some (.pointer (ptr (at_ H k.toNat).b)) := by
    rw [ci]; by_cases h : i.toNat = k.toNat
    · rw [if_pos h, h]
    · rw [if_neg h, if_pos rfl]
  refine ⟨hp, i0, hi, _, ci', hp, k0, hk, _, ck, ptr_ne _, ptr_ne _, ?_⟩
  refine store_one (th3 k.toNat hnk) (by simp [thc]) rfl (by simp) fun w4 o4 g4 => ⟨ptr_ne _, ptr_ne _, ?_⟩
  have o4' : Own B w4 T_queue_thing 4 (ptr (at_ H k.toNat).b) 1 1 (thc (at_ H k.toNat) i.toNat) := by
    have : (thc (at_ H k.toNat) k.toNat).set 3 (.int .i64 i) = thc (at_ H k.toNat) i.toNat := by simp only [thc, List.set_cons_succ, List.set_cons_zero]; rw [Int.toNat_of_nonneg i0]
    rw [← this]; exact o4
  have h5 : Own B w4 T_queue_thing 4 (ptr (at_ H i.toNat).b) 1 1 (thc (at_ H i.toNat) i.toNat) := by
    by_cases h : i.toNat = k.toNat
    · rw [← h] at o4'; exact o4'
    · exact (th3 i.toNat hni).st (apart_ptr fun he => h (q.inj _ _ hni hnk he)) g4
  refine store_one h5 (by simp [thc]) rfl (by simp) fun w5 o5 g5 => ?_
  have o5' : Own B w5 T_queue_thing 4 (ptr (at_ H i.toNat).b) 1 1 (thc (at_ H i.toNat) k.toNat) := by
    have : (thc (at_ H i.toNat) i.toNat).set 3 (.int .i64 k) = thc (at_ H i.toNat) k.toNat := by simp only [thc, List.set_cons_succ, List.set_cons_zero]; rw [Int.toNat_of_nonneg k0]
    rw [← this]; exact o5
  intro w8 h8
  have sa := swp_at H hni hnk
  have mem : ∀ m, m < H.length → ∃ m', m' < H.length ∧ at_ (swp H i.toNat k.toNat) m = at_ H m' ∧ (m' = if m = k.toNat then i.toNat else if m = i.toNat then k.toNat else m) := fun m hm => by
    rw [sa m]
    by_cases h1 : m = k.toNat
    · rw [if_pos h1, if_pos h1]; exact ⟨_, hni, rfl, rfl⟩
    · rw [if_neg h1, if_neg h1]
      by_cases h2 : m = i.toNat
      · rw [if_pos h2, if_pos h2]; exact ⟨_, hnk, rfl, rfl⟩
      · rw [if_neg h2, if_neg h2]; exact ⟨_, hm, rfl, rfl⟩
  have out : ∀ m, m < H.length → m ≠ i.toNat → m ≠ k.toNat → Own B w5 T_queue_thing 4 (ptr (at_ H m).b) 1 1 (thc (at_ H m) m) := fun m hm h1 h2 =>
    ((th3 m hm).st (apart_ptr fun he => h2 (q.inj _ _ hm hnk he)) g4).st (apart_ptr fun he => h1 (q.inj _ _ hm hni he)) g5
  refine ⟨rfl, QI.ext ⟨?_, ?_, fun m hm => ?_, fun m n hm hn he => ?_, fun m hm => ?_, fun b hb => ⟨?_, fun m hm => ?_⟩⟩ h8, ?_⟩
  · rw [hl]
    have s3 := (q.slot.st (apart_to fun x hx => by cases hx; exact Ne.symm aq') g2).st (apart_to fun x hx => by cases hx; exact Ne.symm aq') g3
    exact (s3.st (apart_ptr (Ne.symm (q.aq _ hnk))) g4).st (apart_ptr (Ne.symm (q.aq _ hni))) g5
  · rw [hl]
    have f : ∀ m, m < H.length → Apart (some a) (ptr (at_ H m).b) := fun m hm u v hu qhv => by cases hu; cases qhv; exact Ne.symm (ath m hm)
    exact (o3.st (f _ hnk) g4).st (f _ hni) g5
  · rw [hl] at hm
    rw [sa m]
    by_cases h1 : m = k.toNat
    · rw [if_pos h1, h1]; exact o5'
    · rw [if_neg h1]
      by_cases h2 : m = i.toNat
      · rw [if_pos h2, h2]
        exact o4'.st (apart_ptr fun he => by have := q.inj _ _ hnk hni he; omega) g5
      · rw [if_neg h2]; exact out m hm h2 h1
  · rw [hl] at hm hn
    obtain ⟨m', h1, h2, h3⟩ := mem m hm
    obtain ⟨n', h4, h5, h6⟩ := mem n hn
    rw [h2, h5] at he
    have := q.inj _ _ h1 h4 he
    subst this
    rw [h3] at h6
    split at h6 <;> split at h6 <;> (try split at h6) <;> (try split at h6) <;> omega
  · rw [hl] at hm
    obtain ⟨m', h1, h2, -⟩ := mem m hm
    rw [h2]; exact q.aq _ h1
  · cases hb; exact aq'
  · rw [hl] at hm
    cases hb
    obtain ⟨m', h1, h2, -⟩ := mem m hm
    rw [h2]; exact ath _ h1
  · have fa : Fr (Foot qb (some a) H) w w3 := (fr_grew g2 fun x hx => .inr (.inl ⟨x, hx, rfl⟩)).tr (fr_grew g3 fun x hx => .inr (.inl ⟨x, hx, rfl⟩))
    have ft : ∀ m, m < H.length → ∀ x, ptr (at_ H m).b = some x → Foot qb (some a) H x.block := fun m hm x hx => by cases hx; exact .inr (.inr ⟨_, at_mem H hm, rfl⟩)
    exact ((fa.tr (fr_grew g4 (ft _ hnk))).tr (fr_grew g5 (ft _ hni))).tr (fr_ext h8)

/-- The row behind the heap's interface. -/
def qhv (qb : Nat) : Value := .iface T_ptr_queue_row (.pointer (ptr qb))
theorem inv_of {name : String} {f : FuncId} {pr : Bool} {r : Value} {args : List Value} {K : Value → World → Prop}
    (hm : ((Try.prog.info? T_ptr_queue_row).bind fun i => i.methods.find? (·.name == name)).map (fun m => (m.path.toList, m.func)) = some ([], some (f, pr)))
    (hr : (receiverAt T_ptr_queue_row (.val (.pointer (ptr qb))) pr (some ((name.splitOn ".").getLastD name))).run Try.prog w = .ok r w) (h : FnP Try.prog f (#[r] ++ args.toArray) w K) : InvP Try.prog name (qhv qb) args w K := by
  cases hi : Try.prog.info? T_ptr_queue_row with
  | none => rw [hi] at hm; simp at hm
  | some i =>
    rw [hi] at hm
    simp only [Option.bind_some] at hm
    cases hq : i.methods.find? (·.name == name) with
    | none => rw [hq] at hm; simp at hm
    | some m =>
      rw [hq] at hm
      simp only [Option.map_some, Option.some.injEq, Prod.mk.injEq] at hm
      refine ⟨T_ptr_queue_row, .pointer (ptr qb), f, r, rfl, ?_, h⟩
      obtain ⟨n, hn⟩ : ∃ n, Try.prog.types.size + Made.depth = n + 1 := ⟨Try.prog.types.size + Made.depth - 1, by unfold Made.depth; omega⟩
      rw [hn]
      exact method_at hi hq (by have := hm.1; exact Array.toList_eq_nil_iff.1 this) hm.2 hr
theorem QI.recv (q : QI B w qb x y p c H) {o : Option String} : (receiverAt T_ptr_queue_row (.val (.pointer (ptr qb))) false o).run Try.prog w = .ok (.slice p H.length c) w :=
  recv_load (e := T_queue_row) (d := .slice T_ptr_queue_thing) (by kernel_rfl) (by kernel_rfl) (by kernel_rfl) (q.slot.cellAt (i := 0) rfl)
theorem inv_len (q : QI B w qb x y p c H) {K : Value → World → Prop} (h : FnP Try.prog F_queue_row_Len #[.slice p H.length c] w K) : InvP Try.prog "Len" (qhv qb) [] w K := inv_of (pr := false) (by kernel_rfl) q.recv h
theorem inv_less (q : QI B w qb x y p c H) {a b : Value} {K : Value → World → Prop} (h : FnP Try.prog F_queue_row_Less #[.slice p H.length c, a, b] w K) : InvP Try.prog "Less" (qhv qb) [a, b] w K := inv_of (pr := false) (by kernel_rfl) q.recv h
theorem inv_swap (q : QI B w qb x y p c H) {a b : Value} {K : Value → World → Prop} (h : FnP Try.prog F_queue_row_Swap #[.slice p H.length c, a, b] w K) : InvP Try.prog "Swap" (qhv qb) [a, b] w K := inv_of (pr := false) (by kernel_rfl) q.recv h
theorem inv_push {a : Value} {K : Value → World → Prop} (h : FnP Try.prog F_queue_row_Push #[.pointer (ptr qb), a] w K) : InvP Try.prog "Push" (qhv qb) [a] w K := inv_of (pr := true) (by kernel_rfl) (recv_ptr (e := T_queue_row) (by kernel_rfl)) h
theorem inv_pop {K : Value → World → Prop} (h : FnP Try.prog F_queue_row_Pop #[.pointer (ptr qb)] w K) : InvP Try.prog "Pop" (qhv qb) [] w K := inv_of (pr := true) (by kernel_rfl) (recv_ptr (e := T_queue_row) (by kernel_rfl)) h

theorem tdiv2 {j : Int} (h : 0 ≤ j) : (j - 1).tdiv 2 = ((par j.toNat : Nat) : Int) := by
  unfold par
  by_cases h0 : j = 0
  · subst h0; decide
  · rw [Int.tdiv_eq_ediv_of_nonneg (by omega)]; omega

theorem up_k (q : QI B w qb x y p c H) {j : Int} {n : Nat} (j0 : 0 ≤ j) (hj : j < n) (hnl : n ≤ H.length) (hn : H.length ≤ 1000) (hu : Up H n j.toNat) :
    FnP Try.prog F_container_heap_up #[qhv qb, .int .i64 j] w fun v w' => v = .tuple #[] ∧ ∃ Y, QI B w' qb x y p c Y ∧ Y.Perm H ∧ (∀ k, n ≤ k → at_ Y k = at_ H k) ∧ Hp Y n ∧ Fr (Foot qb p H) w w' := by
  refine ok_container_heap_up (qhv qb) j w _ ⟨fun j1 w' => 0 ≤ j1 ∧ j1 < n ∧ ∃ Y, QI B w' qb x y p c Y ∧ Y.Perm H ∧ (∀ k, n ≤ k → at_ Y k = at_ H k) ∧ Up Y n j1.toNat ∧ Fr (Foot qb p H) w w', fun j1 _ => j1.toNat, ⟨j0, hj, H, q, .refl _, fun _ _ => rfl, hu, Fr.refl _ _⟩, ?_⟩
  rintro j1 w2 ⟨h0, h1, Y, qy, hp, hout, hu, hf⟩
  have hl := hp.length_eq
  simp only [tdiv2 h0]
  have hpar : par j1.toNat ≤ j1.toNat := by unfold par; omega
  refine ⟨i64 (by omega), i64 (by omega), fun he w3 h3 => ?_, fun hne w3 h3 => inv_less (qy.ext h3) ((less_k (qy.ext h3) h0 (by omega) (by omega) (by omega)).mono fun v w4 ⟨e4, qhv⟩ => ⟨_, qhv, fun hb w6 h6 => ?_, fun hb w6 h6 => ?_⟩)⟩
  · have : j1.toNat = 0 := by unfold par at he; omega
    rw [this] at hu
    exact ⟨trivial, Y, qy.ext h3, hp, hout, up_zero hu, hf.tr (fr_ext h3)⟩
  · simp only [Int.toNat_natCast, decide_eq_false_iff_not] at hb
    exact ⟨trivial, Y, ((qy.ext h3).ext e4).ext h6, hp, hout, up_stop hu hb, ((hf.tr (fr_ext h3)).tr (fr_ext e4)).tr (fr_ext h6)⟩
  · simp only [Int.toNat_natCast, decide_eq_true_eq] at hb
    have q6 := ((qy.ext h3).ext e4).ext h6
    have hlt : par j1.toNat < j1.toNat := by unfold par at hne ⊢; omega
    refine inv_swap q6 ((swap_k q6 (by omega) (by omega) h0 (by omega)).mono fun v w7 ⟨qhv, q7, f7⟩ => ⟨qhv, ⟨by omega, by omega, _, q7, ?_, fun k hk => ?_, ?_, ?_⟩, by omega⟩)
    · exact (swp_perm Y (by omega) (by omega)).trans hp
    · rw [swp_at Y (by omega) (by omega), if_neg (by omega), if_neg (by omega)]; exact hout k hk
    · simp only [Int.toNat_natCast]
      exact up_step (by omega) (by omega) (by omega) hu hb
    · exact (((hf.tr (fr_ext h3)).tr (fr_ext e4)).tr (fr_ext h6)).tr (f7.mono fun b => (foot_perm hp b).1)

theorem down_k (q : QI B w qb x y p c H) {i0 n : Int} (h00 : 0 ≤ i0) (n0 : 0 ≤ n) (hn : n ≤ H.length) (hH : H.length ≤ 1000) (hi : i0 ≤ 1000) (hu : Dn H n.toNat i0.toNat i0.toNat) :
    FnP Try.prog F_container_heap_down #[qhv qb, .int .i64 i0, .int .i64 n] w fun v w' => ∃ (r : Bool) (Y : List Th), v = .bool r ∧ QI B w' qb x y p c Y ∧ Y.Perm H ∧ (∀ k, n.toNat ≤ k → at_ Y k = at_ H k) ∧ (r = true → Hp Y n.toNat) ∧ (r = false → Y = H ∧ Up Y n.toNat i0.toNat) ∧ Fr (Foot qb p H) w w' := by
  refine ok_container_heap_down (qhv qb) i0 n w _ ⟨fun i w' => i0 ≤ i ∧ (i < n ∨ i = i0) ∧ ∃ Y, QI B w' qb x y p c Y ∧ Y.Perm H ∧ (∀ k, n.toNat ≤ k → at_ Y k = at_ H k) ∧ (i = i0 → Y = H) ∧ Dn Y n.toNat i0.toNat i.toNat ∧ Fr (Foot qb p H) w w', fun i _ => (2001 - i).toNat, ⟨Int.le_refl _, .inr rfl, H, q, .refl _, fun _ _ => rfl, fun _ => rfl, hu, Fr.refl _ _⟩, ?_⟩
  rintro i w2 ⟨hi0, hin, Y, qy, hp, hout, hsame, hd, hf⟩
  have hl := hp.length_eq
  have stop : ∀ w', QI B w' qb x y p c Y → Fr (Foot qb p H) w w' → (∀ k, 1 ≤ k → k < n.toNat → par k = i.toNat → ¬ ahead (at_ Y k) (at_ Y i.toNat)) → ∃ (r : Bool) (Y : List Th), Value.bool (decide (i0 < i)) = .bool r ∧ QI B w' qb x y p c Y ∧ Y.Perm H ∧ (∀ k, n.toNat ≤ k → at_ Y k = at_ H k) ∧ (r = true → Hp Y n.toNat) ∧ (r = false → Y = H ∧ Up Y n.toNat i0.toNat) ∧ Fr (Foot qb p H) w w' := by
    intro w' qw fw hs
    refine ⟨_, Y, rfl, qw, hp, hout, fun h => ?_, fun h => ?_, fw⟩
    · simp only [decide_eq_true_eq] at h
      exact dn_stop_moved hd (by omega) hs
    · simp only [decide_eq_false_iff_not] at h
      obtain rfl : i = i0 := by omega
      exact ⟨hsame rfl, dn_stop_same hd hs⟩
  have kid : ∀ k, 1 ≤ k → k < n.toNat → par k = i.toNat → (k : Int) = 2 * i + 1 ∨ (k : Int) = 2 * i + 1 + 1 := fun k k1 kn hk => by unfold par at hk; omega
  -- the step to a child
  have step : ∀ (j : Int) (w6 : World), (j = 2 * i + 1 ∨ j = 2 * i + 1 + 1) → j < n → QI B w6 qb x y p c Y → Fr (Foot qb p H) w w6 → ahead (at_ Y j.toNat) (at_ Y i.toNat) → (∀ k, 1 ≤ k → k < n.toNat → par k = i.toNat → ¬ ahead (at_ Y k) (at_ Y j.toNat)) →
      InvP Try.prog "Swap" (qhv qb) [.int .i64 i, .int .i64 j] w6 fun v7 w7 => v7 = .tuple #[] ∧ ((i0 ≤ j ∧ (j < n ∨ j = i0) ∧ ∃ Y, QI B w7 qb x y p c Y ∧ Y.Perm H ∧ (∀ k, n.toNat ≤ k → at_ Y k = at_ H k) ∧ (j = i0 → Y = H) ∧ Dn Y n.toNat i0.toNat j.toNat ∧ Fr (Foot qb p H) w w7) ∧ (2001 - j).toNat < (2001 - i).toNat) := by
    intro j w6 hj hjn qw fw ha hs
    refine inv_swap qw ((swap_k qw (by omega) (by omega) (by omega) (by omega)).mono fun v w7 ⟨qhv, q7, f7⟩ => ⟨qhv, ⟨by omega, .inl hjn, _, q7, ?_, fun k hk => ?_, fun h => by omega, ?_, ?_⟩, by omega⟩)
    · exact (swp_perm Y (by omega) (by omega)).trans hp
    · rw [swp_at Y (by omega) (by omega), if_neg (by omega), if_neg (by omega)]; exact hout k hk
    · exact dn_step (by omega) (by omega) (by omega) (by unfold par; omega) (by omega) hd ha hs
    · exact fw.tr (f7.mono fun b => (foot_perm hp b).1)
  refine ⟨i64 (by omega), i64 (by omega), fun hge w3 h3 => stop w3 (qy.ext h3) (hf.tr (fr_ext h3)) fun k k1 kn hk => by rcases kid k k1 kn hk with h | h <;> omega, fun hlt => ⟨i64 (by omega), fun h2 w3 h3 => ?_, fun h2 w3 h3 => ?_⟩⟩
  · have q3 := qy.ext h3
    refine inv_less q3 ((less_k q3 (by omega) (by omega) (by omega) (by omega)).mono fun v w4 ⟨e4, qhv⟩ => ⟨_, qhv, fun hb w6 h6 => ?_, fun hb w6 h6 => ?_⟩)
    all_goals
      have q6 := (q3.ext e4).ext h6
      have f6 := ((hf.tr (fr_ext h3)).tr (fr_ext e4)).tr (fr_ext h6)
      simp only [decide_eq_true_eq, decide_eq_false_iff_not] at hb
      refine inv_less q6 ((less_k q6 (by omega) (by omega) (by omega) (by omega)).mono fun v w7 ⟨e7, qhv⟩ => ⟨_, qhv, fun hc w9 h9 => ?_, fun hc w9 h9 => ?_⟩)
      all_goals
        have q9 := (q6.ext e7).ext h9
        have f9 := (f6.tr (fr_ext e7)).tr (fr_ext h9)
        simp only [decide_eq_true_eq, decide_eq_false_iff_not] at hc
    · refine stop w9 q9 f9 fun k k1 kn hk => ?_
      rcases kid k k1 kn hk with h | h
      · have : k = (2 * i + 1).toNat := by omega
        rw [this]; exact fun h' => hc (ahead_trans hb h')
      · have : k = (2 * i + 1 + 1).toNat := by omega
        rw [this]; exact hc
    · refine step _ w9 (.inr rfl) h2 q9 f9 hc fun k k1 kn hk => ?_
      rcases kid k k1 kn hk with h | h
      · have : k = (2 * i + 1).toNat := by omega
        rw [this]; exact ahead_asymm hb
      · have : k = (2 * i + 1 + 1).toNat := by omega
        rw [this]; unfold ahead; omega
    · refine stop w9 q9 f9 fun k k1 kn hk => ?_
      rcases kid k k1 kn hk with h | h
      · have : k = (2 * i + 1).toNat := by omega
        rw [this]; exact hc
      · have : k = (2 * i + 1 + 1).toNat := by omega
        rw [this]; exact not_ahead_trans hb hc
    · refine step _ w9 (.inl rfl) hlt.1 q9 f9 hc fun k k1 kn hk => ?_
      rcases kid k k1 kn hk with h | h
      · have : k = (2 * i + 1).toNat := by omega
        rw [this]; unfold ahead; omega
      · have : k = (2 * i + 1 + 1).toNat := by omega
        rw [this]; exact hb
  · have q3 := qy.ext h3
    refine inv_less q3 ((less_k q3 (by omega) (by omega) (by omega) (by omega)).mono fun v w4 ⟨e4, qhv⟩ => ⟨_, qhv, fun hb w6 h6 => ?_, fun hb w6 h6 => ?_⟩)
    all_goals
      have q6 := (q3.ext e4).ext h6
      have f6 := ((hf.tr (fr_ext h3)).tr (fr_ext e4)).tr (fr_ext h6)
      simp only [decide_eq_true_eq, decide_eq_false_iff_not] at hb
    · refine stop w6 q6 f6 fun k k1 kn hk => ?_
      rcases kid k k1 kn hk with h | h
      · have : k = (2 * i + 1).toNat := by omega
        rw [this]; exact hb
      · omega
    · refine step _ w6 (.inl rfl) hlt.1 q6 f6 hb fun k k1 kn hk => ?_
      rcases kid k k1 kn hk with h | h
      · have : k = (2 * i + 1).toNat := by omega
        rw [this]; unfold ahead; omega
      · omega
end
end Go.Proofs.Ytblafknmfblgfaa
