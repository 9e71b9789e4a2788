/- The framework, the program's texts and what is shown of them: part 8. -/
import Derived.Test.YtegephkpdlopaaaGreatDoorY7
set_option linter.unusedVariables false
set_option linter.unusedSimpArgs false
namespace Go.Proofs.YtegephkpdlopaaaGreatDoor
open Go.Sx Go.RowKit
section
variable {B qb:Nat} {x y:Value} {p:Option Addr} {c:Nat} {H:List Th} {w:World}
def tv (b:Nat):Value:=.iface T_ptr_queue_thing (.pointer (ptr b))
theorem at_app_lt {H:List Th} {t:Th} {k:Nat} (h:k < H.length):at_ (H ++ [t]) k = at_ H k:=by
  unfold at_; rw [List.getD_eq_getElem?_getD,List.getD_eq_getElem?_getD,List.getElem?_append_left h]
theorem at_app_eq {H:List Th} {t:Th}:at_ (H ++ [t]) H.length = t:=by
  unfold at_; rw [List.getD_eq_getElem?_getD,List.getElem?_append_right (Nat.le_refl _)]; simp
theorem at_take {H:List Th} {m k:Nat} (h:k < m):at_ (H.take m) k = at_ H k:=by
  unfold at_; rw [List.getD_eq_getElem?_getD,List.getD_eq_getElem?_getD,List.getElem?_take,if_pos h]
theorem push_k (q:QI B w qb x y p c H) (hn:H.length <= 999) (hB:B <= w.heap.size) {t:Th} {j:Nat} (ht:Own B w T_queue_thing 4 (ptr t.b) 1 1 (thc t j)) (hf:¬ Foot qb p H t.b) :
    FnP Tryz.prog F_queue_row_Push #[.pointer (ptr qb),tv t.b] w fun v w'=>v = .tuple #[]/\∃ p' c',QI B w' qb x y p' c' (H ++ [t])/\Fr (Foot qb p (t :: H)) w w'/\(∀ a,p' = some a->(∃ a',p = some a'/\a'.block = a.block)\/w.heap.size <= a.block):=by
  have hq:t.b ≠ qb:=fun h=>hf (.inl h)
  have hpa:∀ a,p = some a->t.b ≠ a.block:=fun a ha h=>hf (.inr (.inl ⟨a,ha,h.symm⟩))
  have hth:∀ k,k < H.length->(at_ H k).b ≠ t.b:=fun k hk h=>hf (.inr (.inr ⟨_,at_mem H hk,h⟩))
  refine ok_queue_row_Push (ptr qb) (tv t.b) w _ fun w0 h0=>run_assert (d:=.pointer T_queue_thing) (by kernel_rfl) (by simp) ⟨Ext.refl _,_,rfl,ptr_ne _,_,_,_,(q.slot.ext h0).cellAt (i:=0) rfl,ptr_ne _,ptr_ne _,?_⟩
  have q0:=q.ext h0
  refine store_one (ht.ext h0) (by simp [thc]) rfl (by simp) fun w6 o6 g6=>?_
  have o6':Own B w6 T_queue_thing 4 (ptr t.b) 1 1 (thc t H.length):=o6
  have s6:=q0.slot.st (apart_ptr (Ne.symm hq)) g6
  have a6:=q0.arr.st (fun u v hu qhv=>by cases qhv; exact Ne.symm (hpa u hu)) g6
  have t6:∀ k,k < H.length->Own B w6 T_queue_thing 4 (ptr (at_ H k).b) 1 1 (thc (at_ H k) k):=fun k hk=>(q0.th k hk).st (apart_ptr (hth k hk)) g6
  have f6:Fr (Foot qb p (t :: H)) w w6:=(fr_ext h0).tr (fr_grew g6 fun a ha=>by cases ha; exact .inr (.inr ⟨t,List.mem_cons_self ..,rfl⟩))
  have hB6:B <= w6.heap.size:=Nat.le_trans hB f6.size
  refine ⟨ptr_ne _,_,_,_,s6.cellAt (i:=0) rfl,?_⟩
  refine push elem_queue_row (by omega) a6 hB6 rfl (by intro u hu; simp [Value.cells] at hu; subst hu; rfl) (by omega) (by omega) (by omega) fun p' c' w16 o16 g16 hp'=>⟨ptr_ne _,?_⟩
  have s16:=s6.st (fun u v hu qhv=>by cases hu; exact Ne.symm (q.ap v qhv).1) g16
  have t16:∀ k,k < H.length->Own B w16 T_queue_thing 4 (ptr (at_ H k).b) 1 1 (thc (at_ H k) k):=fun k hk=>(t6 k hk).st (apart_to fun v qhv=>(q.ap v qhv).2 k hk) g16
  have o16t:=o6'.st (apart_to fun v qhv=>hpa v qhv) g16
  have np:∀ a,p' = some a->(∃ a',p = some a'/\a'.block = a.block)\/w6.heap.size <= a.block:=fun a ha=>by
    rcases g16.new with h | h
    · subst ha
      cases p with
      | none => simp [blk] at h
      | some z => simp [blk] at h; exact .inl ⟨z,rfl,h.symm⟩
    · exact .inr (h a ha)
  have ap':∀ a,p' = some a->a.block ≠ qb/\a.block ≠ t.b/\∀ k,k < H.length->(at_ H k).b ≠ a.block:=fun a ha=>by
    rcases np a ha with ⟨z,hz,he⟩ | h
    · rw [<- he]
      exact ⟨(q.ap z hz).1,Ne.symm (hpa z hz),(q.ap z hz).2⟩
    · have l1:=(s6.lt _ rfl).2
      have l2:=(o6'.lt _ rfl).2
      exact ⟨fun e=>by simp [ptr] at l1; omega,fun e=>by simp [ptr] at l2; omega,fun k hk e=>by have:=((t6 k hk).lt _ rfl).2; simp at this; omega⟩
  have st16:Store w16 (ptr qb) [.slice p' (H.length + 1) c'] [] fun w20=>∀ w21,Ext w20 w21->(Value.tuple #[] = .tuple #[]/\∃ p' c',QI B w21 qb x y p' c' (H ++ [t])/\Fr (Foot qb p (t :: H)) w w21/\(∀ a,p' = some a->(∃ a',p = some a'/\a'.block = a.block)\/w.heap.size <= a.block)):=by
    have:=store_one (off:=0) s16 (by simp) (v:=.slice p' (H.length + 1) c') rfl (ns:=[]) (by simp) (K:=fun w20=>∀ w21,Ext w20 w21->(Value.tuple #[] = .tuple #[]/\∃ p' c',QI B w21 qb x y p' c' (H ++ [t])/\Fr (Foot qb p (t :: H)) w w21/\(∀ a,p' = some a->(∃ a',p = some a'/\a'.block = a.block)\/w.heap.size <= a.block))) fun w20 o20 g20 w21 h21=>?_
    · rw [pAdd_zero] at this; exact this
    have hl:(H ++ [t]).length = H.length + 1:=by simp
    refine ⟨rfl,p',c',QI.ext ⟨?_,?_,fun k hk=>?_,fun i k hi hk he=>?_,fun i hi=>?_,fun a ha=>⟨(ap' a ha).1,fun i hi=>?_⟩⟩ h21,?_,fun a ha=>?_⟩
    · rw [hl]; exact o20
    · rw [hl,List.map_append]
      have:Own B w16 T_ptr_queue_thing 1 p' (H.length + 1) c' (H.map pv ++ [t].map pv):=o16
      exact this.st (fun u v hu qhv=>by cases qhv; exact (ap' u hu).1) g20
    · rw [hl] at hk
      by_cases h:k < H.length
      · rw [at_app_lt h]; exact (t16 k h).st (apart_ptr (q.aq k h)) g20
      · obtain rfl:k = H.length:=by omega
        rw [at_app_eq]; exact o16t.st (apart_ptr hq) g20
    · rw [hl] at hi hk
      by_cases h1:i < H.length <;> by_cases h2:k < H.length
      · rw [at_app_lt h1,at_app_lt h2] at he; exact q.inj i k h1 h2 he
      · obtain rfl:k = H.length:=by omega
        rw [at_app_lt h1,at_app_eq] at he; exact absurd he (hth i h1)
      · obtain rfl:i = H.length:=by omega
        rw [at_app_lt h2,at_app_eq] at he; exact absurd he.symm (hth k h2)
      · omega
    · rw [hl] at hi
      by_cases h1:i < H.length
      · rw [at_app_lt h1]; exact q.aq i h1
      · obtain rfl:i = H.length:=by omega
        rw [at_app_eq]; exact hq
    · rw [hl] at hi
      by_cases h1:i < H.length
      · rw [at_app_lt h1]; exact (ap' a ha).2.2 i h1
      · obtain rfl:i = H.length:=by omega
        rw [at_app_eq]; exact Ne.symm (ap' a ha).2.1
    · refine ((f6.tr (fr_grew g16 fun a ha=>.inr (.inl ⟨a,ha,rfl⟩))).tr (fr_grew g20 fun a ha=>by cases ha; exact .inl rfl)).tr (fr_ext h21)
    · rcases np a ha with h | h
      · exact .inl h
      · exact .inr (Nat.le_trans f6.size h)
  exact st16
theorem pop_k (q:QI B w qb x y p c H) (hl:0 < H.length) :
    FnP Tryz.prog F_queue_row_Pop #[.pointer (ptr qb)] w fun v w'=>v = tv (at_ H (H.length - 1)).b/\QI B w' qb x y p c (H.take (H.length - 1))/\Fr (fun b=>b = qb) w w'/\Own B w' T_queue_thing 4 (ptr (at_ H (H.length - 1)).b) 1 1 (thc (at_ H (H.length - 1)) (H.length - 1)):=by
  have hp:=q.ne hl
  have s0:=q.slot.cellAt (i:=0) rfl
  have hc:=q.arr.le
  have e1:((H.length:Int) - 1).toNat = H.length - 1:=by omega
  have ca:=arr_at q.arr (i:=(H.length:Int) - 1) (by omega) (by omega)
  rw [e1] at ca
  refine ok_queue_row_Pop (ptr qb) w _ ⟨ptr_ne _,_,_,_,s0,i64 (by omega),ptr_ne _,_,_,_,s0,hp,by omega,by omega,_,ca,ptr_ne _,_,_,_,s0,by omega,by omega,by omega,ptr_ne _,?_⟩
  rw [show (((H.length:Int) - 1) - 0).toNat = H.length - 1 by omega,show c - (0:Int).toNat = c by simp,pCut_zero]
  have st:=store_one (off:=0) q.slot (by simp) (v:=.slice p (H.length - 1) c) rfl (ns:=[]) (by simp) (K:=fun w10=>∀ w11,Ext w10 w11->Run Tryz.prog (.makeInterface T_ptr_queue_thing (.pointer (ptr (at_ H (H.length - 1)).b))) w11 fun v12 w12=>Ext w11 w12/\∃ t13:Value,v12 = t13/\∀ w14,Ext w12 w14 ->
    (t13 = tv (at_ H (H.length - 1)).b/\QI B w14 qb x y p c (H.take (H.length - 1))/\Fr (fun b=>b = qb) w w14/\Own B w14 T_queue_thing 4 (ptr (at_ H (H.length - 1)).b) 1 1 (thc (at_ H (H.length - 1)) (H.length - 1)))) fun w10 o10 g10 w11 h11=>?_
  · rw [pAdd_zero] at st; exact st
  refine run_iface (d:=.pointer T_queue_thing) (by kernel_rfl) (by simp) ⟨Ext.refl _,_,rfl,fun w14 h14=>⟨rfl,?_,((fr_grew g10 fun a ha=>by cases ha; rfl).tr (fr_ext h11)).tr (fr_ext h14),?_⟩⟩
  · refine QI.ext (QI.ext ?_ h11) h14
    have hm:(H.take (H.length - 1)).length = H.length - 1:=by simp
    have th:∀ k,k < H.length->Own B w10 T_queue_thing 4 (ptr (at_ H k).b) 1 1 (thc (at_ H k) k):=fun k hk=>(q.th k hk).st (apart_ptr (q.aq k hk)) g10
    refine ⟨?_,?_,fun k hk=>?_,fun i k hi hk he=>?_,fun i hi=>?_,fun a ha=>⟨(q.ap a ha).1,fun i hi=>?_⟩⟩
    · rw [hm]; exact o10
    · have:=(q.arr.st (fun u v hu qhv=>by cases qhv; exact (q.ap u hu).1) g10).pre (m:=H.length - 1) (by omega)
      rw [hm,List.map_take]; rw [Nat.mul_one] at this; exact this
    · rw [hm] at hk; rw [at_take hk]; exact th k (by omega)
    · rw [hm] at hi hk; rw [at_take hi,at_take hk] at he; exact q.inj i k (by omega) (by omega) he
    · rw [hm] at hi; rw [at_take hi]; exact q.aq i (by omega)
    · rw [hm] at hi; rw [at_take hi]; exact (q.ap a ha).2 i (by omega)
  · exact (((q.th (H.length - 1) (by omega)).st (apart_ptr (q.aq _ (by omega))) g10).ext h11).ext h14
theorem foot_grow {p':Option Addr} {t:Th} {G:List Th} {n:Nat} (hg:∀ u ∈ G,u = t\/u ∈ H) (hp:∀ a,p' = some a->(∃ a',p = some a'/\a'.block = a.block)\/n <= a.block) (b:Nat) (h:Foot qb p' G b):Foot qb p (t :: H) b\/n <= b:=by
  rcases h with h | ⟨a,ha,rfl⟩ | ⟨u,hu,rfl⟩
  · exact .inl (.inl h)
  · rcases hp a ha with ⟨z,hz,he⟩ | h
    · exact .inl (.inr (.inl ⟨z,hz,he⟩))
    · exact .inr h
  · refine .inl (.inr (.inr ⟨u,?_,rfl⟩))
    rcases hg u hu with rfl | h
    · exact List.mem_cons_self ..
    · exact List.mem_cons_of_mem _ h
theorem heap_push_k (q:QI B w qb x y p c H) (hh:Hp H H.length) (hn:H.length <= 999) (hB:B <= w.heap.size) {t:Th} {j:Nat} (ht:Own B w T_queue_thing 4 (ptr t.b) 1 1 (thc t j)) (hf:¬ Foot qb p H t.b) :
    FnP Tryz.prog F_container_heap_Push #[qhv qb,tv t.b] w fun v w'=>v = .tuple #[]/\∃ p' c' Y,QI B w' qb x y p' c' Y/\Y.Perm (t :: H)/\Hp Y Y.length/\Fr (Foot qb p (t :: H)) w w'/\(∀ a,p' = some a->(∃ a',p = some a'/\a'.block = a.block)\/w.heap.size <= a.block):=by
  refine ok_container_heap_Push (qhv qb) (tv t.b) w _ fun w0 h0=>inv_push ((push_k (q.ext h0) hn (Nat.le_trans hB h0.size) (ht.ext h0) hf).mono fun v w1 ⟨qhv,p',c',q1,f1,np⟩=>⟨qhv,fun w2 h2=>?_⟩)
  have q2:=q1.ext h2
  have hl:(H ++ [t]).length = H.length + 1:=by simp
  refine inv_len q2 (len_k.mono fun v w3 ⟨e3,qhv⟩=>⟨_,qhv,i64 (by omega),fun w5 h5=>?_⟩)
  have q5:=(q2.ext e3).ext h5
  have hup:Up (H ++ [t]) (H.length + 1) H.length:=up_start (hp_congr hh fun k hk=>at_app_lt hk)
  rw [show (((H ++ [t]).length:Int) - 1) = (H.length:Int) by omega]
  refine (up_k q5 (j:=(H.length:Int)) (n:=H.length + 1) (by omega) (by omega) (by omega) (by omega) hup).mono fun v w6 ⟨qhv,Y,q6,hp,_,hhp,f6⟩=>⟨qhv,fun w7 h7=>⟨rfl,p',c',Y,q6.ext h7,hp.trans (List.perm_append_comm (l₁:=H) (l₂:=[t])),?_,?_,fun a ha=>?_⟩⟩
  · rw [hp.length_eq,hl]; exact hhp
  · have f5:Fr (Foot qb p (t :: H)) w w5:=((((fr_ext h0).tr f1).tr (fr_ext h2)).tr (fr_ext e3)).tr (fr_ext h5)
    refine (f5.trans f6 fun b hb=>foot_grow (fun u hu=>?_) (fun a ha=>?_) b hb).tr (fr_ext h7)
    · rcases List.mem_append.1 hu with h | h
      · exact .inr h
      · exact .inl (by simpa using h)
    · rcases np a ha with h | h
      · exact .inl h
      · exact .inr (Nat.le_trans h0.size h)
  · rcases np a ha with h | h
    · exact .inl h
    · exact .inr (Nat.le_trans h0.size h)
theorem take_last {Y:List Th} (h:0 < Y.length):Y.take (Y.length - 1) ++ [at_ Y (Y.length - 1)] = Y:=by
  have:=List.take_append_drop (Y.length - 1) Y
  have hd:Y.drop (Y.length - 1) = [at_ Y (Y.length - 1)]:=by
    rw [List.drop_eq_getElem_cons (by omega),List.drop_of_length_le (by omega)]
    unfold at_
    rw [List.getD_eq_getElem?_getD,List.getElem?_eq_getElem (by omega)]; rfl
  rw [<- hd]; exact this
theorem perm_last {Y G:List Th} (h:0 < Y.length) (hp:Y.Perm G):(at_ Y (Y.length - 1) :: Y.take (Y.length - 1)).Perm G:=by
  refine List.Perm.trans ?_ hp
  have:=take_last h
  refine List.Perm.trans (List.perm_append_comm (l₁:=[_])) ?_
  rw [this]
theorem heap_pop_k (q:QI B w qb x y p c H) (hh:Hp H H.length) (h0:0 < H.length) (hn:H.length <= 1000) :
    FnP Tryz.prog F_container_heap_Pop #[qhv qb] w fun v w'=>∃ (t:Th) (j:Nat) (Y:List Th),v = tv t.b/\QI B w' qb x y p c Y/\(t :: Y).Perm H/\Hp Y Y.length/\(∀ u ∈ H,¬ ahead u t)/\Own B w' T_queue_thing 4 (ptr t.b) 1 1 (thc t j)/\Fr (Foot qb p H) w w':=by
  refine ok_container_heap_Pop (qhv qb) w _ fun w0 h0'=>inv_len (q.ext h0') (len_k.mono fun v w1 ⟨e1,qhv⟩=>⟨_,qhv,i64 (by omega),fun w3 h3=>?_⟩)
  have q3:=((q.ext h0').ext e1).ext h3
  have f3:Fr (Foot qb p H) w w3:=((fr_ext h0').tr (fr_ext e1)).tr (fr_ext h3)
  refine inv_swap q3 ((swap_k q3 (by omega) (by omega) (by omega) (by omega)).mono fun v w4 ⟨qhv,q4,f4⟩=>⟨qhv,fun w5 h5=>?_⟩)
  have e0:((H.length:Int) - 1).toNat = H.length - 1:=by omega
  rw [e0] at q4
  have q5:=q4.ext h5
  have hl:=swp_len H (0:Int).toNat (H.length - 1)
  have sa:=swp_at H (i:=(0:Int).toNat) (j:=H.length - 1) (by simpa using h0) (by omega)
  refine (down_k q5 (by omega) (by omega) (by omega) (by omega) (by omega) ?_).mono fun v w6 ⟨r,Y,qhv,q6,hp,hout,ht,hf,f6⟩=>⟨_,qhv,fun w8 h8=>?_⟩
  · rw [e0]
    by_cases h1:H.length - 1 = 0
    · rw [h1]; exact ⟨fun k _ hk=>by omega,fun h=>by simp at h⟩
    · refine dn_start (hp_less hh (by omega)) (fun k hk hk0=>?_) (by simp; omega)
      rw [sa k,if_neg (by omega),if_neg hk0]
  · have hYl:Y.length = H.length:=by rw [hp.length_eq,hl]
    have hY:Hp Y (H.length - 1):=by
      rw [e0] at ht hf
      cases r with
      | true => exact ht rfl
      | false => exact up_zero (hf rfl).2
    have q8:=q6.ext h8
    have hlast:at_ Y (Y.length - 1) = at_ H 0:=by
      rw [hYl,hout _ (by omega),sa,if_pos rfl]; rfl
    have hpH:Y.Perm H:=hp.trans (swp_perm H (by simpa using h0) (by omega))
    refine inv_pop ((pop_k q8 (by omega)).mono fun v w9 ⟨qhv,q9,f9,o9⟩=>⟨v,rfl,fun w11 h11=>⟨at_ Y (Y.length - 1),Y.length - 1,Y.take (Y.length - 1),qhv,q9.ext h11,perm_last (by omega) hpH,?_,fun u hu=>?_,o9.ext h11,?_⟩⟩)
    · rw [List.length_take,Nat.min_eq_left (by omega),hYl]
      exact hp_congr hY fun k hk=>at_take hk
    · rw [hlast]
      obtain ⟨k,hk,rfl⟩:=mem_at hu
      exact hp_first hh k hk
    · have fp:∀ b,Foot qb p (swp H (0:Int).toNat (H.length - 1)) b->Foot qb p H b:=fun b=>(foot_perm (swp_perm H (by simpa using h0) (by omega)) b).1
      exact (((((f3.tr f4).tr (fr_ext h5)).tr (f6.mono fp)).tr (fr_ext h8)).tr (f9.mono fun b hb=>.inl hb)).tr (fr_ext h11)
end
end Go.Proofs.YtegephkpdlopaaaGreatDoor
set_option linter.unusedVariables false
set_option linter.unusedSimpArgs false
namespace Go.Proofs.YtegephkpdlopaaaGreatDoor
open Go.Sx Go.RowKit
def enc64:Int->Value:=Value.int .i64
theorem kq:KeyT Tryz.prog T_int enc64 (.int .i64):=keyT_int (by kernel_rfl)
theorem mapq:Tryz.prog.underlying T_map_int_ptr_queue_thing = some (.map T_int T_ptr_queue_thing):=by kernel_rfl
def Rel (H:List Th) (m:List (Int × Value)):Prop:=(∀ t ∈ H,mget m t.id = some (pv t))/\∀ id v,mget m id = some v->∃ t ∈ H,t.id = id/\v = pv t
structure QQ (B:Nat) (w:World) (qb mb:Nat) (born:Int) (p:Option Addr) (c:Nat) (H:List Th) (m:List (Int × Value)):Prop where
  qi:QI B w qb (.map (some mb)) (.int .i64 born) p c H
  mp:MapIs enc64 w mb m
  hp:Hp H H.length
  mB:B <= mb
  mf:¬ Foot qb p H mb
def FootQ (mb qb:Nat) (p:Option Addr) (H:List Th) (b:Nat):Prop:=b = mb\/Foot qb p H b
section
variable {B qb mb:Nat} {born:Int} {p:Option Addr} {c:Nat} {H:List Th} {m:List (Int × Value)} {w:World}
theorem QQ.ext {w':World} (q:QQ B w qb mb born p c H m) (h:Ext w w'):QQ B w' qb mb born p c H m:=⟨q.qi.ext h,q.mp.ext h,q.hp,q.mB,q.mf⟩
theorem QQ.fr {S:Nat->Prop} {w':World} (q:QQ B w qb mb born p c H m) (h:Fr S w w') (hs:∀ b,FootQ mb qb p H b->¬ S b):QQ B w' qb mb born p c H m:=⟨q.qi.fr h fun b hb=>hs b (.inr hb),q.mp.fr h (hs _ (.inl rfl)),q.hp,q.mB,q.mf⟩
theorem QQ.foot (q:QQ B w qb mb born p c H m) {b:Nat} (h:FootQ mb qb p H b):B <= b/\b < w.heap.size:=by
  rcases h with rfl | h
  · exact ⟨q.mB,q.mp.lt⟩
  · exact q.qi.foot h
theorem QI.reslot {x y y':Value} {w':World} (q:QI B w qb x y p c H) (o:Own B w' T_queue_Queue 3 (ptr qb) 1 1 [.slice p H.length c,x,y']) (g:Grew w w' (ptr qb) (ptr qb)):QI B w' qb x y' p c H :=
  ⟨o,q.arr.st (fun u v hu qhv=>by cases qhv; exact (q.ap u hu).1) g,fun k hk=>(q.th k hk).st (apart_ptr (q.aq k hk)) g,q.inj,q.aq,q.ap⟩
theorem qnew_k:FnP Tryz.prog F_queue_New #[] w fun v w'=>Ext w w'/\∃ qb mb,v = .pointer (ptr qb)/\w.heap.size <= qb/\∀ B,B <= w.heap.size->QQ B w' qb mb 0 none 0 [] []:=by
  refine ok_queue_New w _ fun w0 h0=>run_makeMap (enc:=enc64) fun w1 m1 e1=>⟨e1,_,rfl,rfl,fun w3 h3=>new_own (by simp [Value.oneCell']) fun w4 o4 e4 w5 h5=>⟨(((h0.trans e1).trans h3).trans e4).trans h5,w3.heap.size,w0.heap.size,rfl,?_,fun B hB=>?_⟩⟩
  · exact Nat.le_trans (Nat.le_trans h0.size e1.size) h3.size
  · have hm:=m1.lt
    refine QQ.ext ⟨⟨o4 B (Nat.le_trans (Nat.le_trans (Nat.le_trans hB h0.size) e1.size) h3.size),Own.nil,fun k hk=>by simp at hk,fun i k hi=>by simp at hi,fun i hi=>by simp at hi,fun a ha=>by cases ha⟩,(m1.ext h3).ext e4,fun k k1 kn=>by simp at kn,Nat.le_trans hB h0.size,?_⟩ h5
    rintro (h | ⟨a,ha,_⟩ | ⟨t,ht,_⟩)
    · have:=h3.size; omega
    · cases ha
    · cases ht
theorem rel_look (hr:Rel H m) (id:Int):∃ t3:Option Addr,(mget m id).getD (.pointer none) = .pointer t3/\(t3 = none ↔ ∀ t ∈ H,t.id ≠ id)/\(t3 ≠ none->∃ t ∈ H,t.id = id/\t3 = ptr t.b):=by
  cases hm:mget m id with
  | none =>
    refine ⟨none,rfl,⟨fun _ t ht he=>?_,fun _=>rfl⟩,fun h=>absurd rfl h⟩
    have:=hr.1 t ht; rw [he,hm] at this; cases this
  | some v =>
    obtain ⟨t,ht,he,rfl⟩:=hr.2 id v hm
    exact ⟨ptr t.b,rfl,⟨fun h=>absurd h (ptr_ne _),fun h=>absurd he (h t ht)⟩,fun _=>⟨t,ht,he,rfl⟩⟩
theorem rel_put {t:Th} {Y:List Th} (hr:Rel H m) (hn:∀ u ∈ H,u.id ≠ t.id) (hp:Y.Perm (t :: H)):Rel Y (mset m t.id (pv t)):=by
  refine ⟨fun u hu=>?_,fun id v qhv=>?_⟩
  · rw [mget_mset]
    rcases List.mem_cons.1 (hp.mem_iff.1 hu) with rfl | h
    · rw [if_pos rfl]
    · rw [if_neg (Ne.symm (hn u h))]; exact hr.1 u h
  · rw [mget_mset] at qhv
    split at qhv
    · rename_i h
      exact ⟨t,hp.mem_iff.2 (List.mem_cons_self ..),h,(Option.some.inj qhv).symm⟩
    · obtain ⟨u,hu,h1,h2⟩:=hr.2 id v qhv
      exact ⟨u,hp.mem_iff.2 (List.mem_cons_of_mem _ hu),h1,h2⟩
def Ids (H:List Th):Prop:=(H.map (·.id)).Nodup
theorem rel_del {t:Th} {Y:List Th} (hr:Rel H m) (hn:(mkeys m).Nodup) (hi:Ids H) (hp:(t :: Y).Perm H):Rel Y (mdel m t.id)/\Ids Y:=by
  have h1:((t :: Y).map (·.id)).Nodup:=(hp.map _).nodup_iff.2 hi
  simp only [List.map_cons,List.nodup_cons] at h1
  have hne:∀ u ∈ Y,u.id ≠ t.id:=fun u hu he=>h1.1 (by rw [<- he]; exact List.mem_map_of_mem hu)
  refine ⟨⟨fun u hu=>?_,fun id v qhv=>?_⟩,h1.2⟩
  · rw [mget_mdel m hn,if_neg (Ne.symm (hne u hu))]
    exact hr.1 u (hp.mem_iff.1 (List.mem_cons_of_mem _ hu))
  · rw [mget_mdel m hn] at qhv
    split at qhv
    · cases qhv
    · rename_i h
      obtain ⟨u,hu,h2,h3⟩:=hr.2 id v qhv
      rcases List.mem_cons.1 (hp.mem_iff.2 hu) with rfl | hy
      · exact absurd h2 h
      · exact ⟨u,hy,h2,h3⟩
theorem qput_k (q:QQ B w qb mb born p c H m) (hr:Rel H m) (hn:H.length <= 200) (hb:-1 <= born/\born <= 1000000000) (hB:B <= w.heap.size) (prio id:Int) :
    FnP Tryz.prog F_queue_Queue_Put #[.pointer (ptr qb),.int .i64 prio,.int .i64 id] w fun v w'=>∃ e:Int,v = .int .i64 e /\
      (e ≠ 0->Ext w w'/\((∃ t ∈ H,t.id = id)/\e = 6\/H.length = 200/\e = 7)) /\
      (e = 0->(∀ t ∈ H,t.id ≠ id)/\H.length ≠ 200/\∃ b p' c' Y,QQ B w' qb mb (born + 1) p' c' Y (mset m id (pv ⟨b,prio,id,born + 1⟩))/\Y.Perm (⟨b,prio,id,born + 1⟩ :: H)/\Fr (FootQ mb qb p H) w w' /\
        (∀ k,FootQ mb qb p' Y k->FootQ mb qb p H k\/w.heap.size <= k)):=by
  obtain ⟨t3,e3,hnone,hsome⟩:=rel_look hr id
  have ne:=ptr_ne qb
  refine ok_queue_Queue_Put (ptr qb) prio id w _ ⟨ne,ne,_,q.qi.slot.cellAt0 (i:=1) rfl,fun w1 h1=>run_look kq mapq elem_sl_ptr_queue_thing (a:=id) (q.mp.ext h1) ⟨Ext.refl _,t3,e3,fun hs w4 h4=>⟨_,rfl,fun _=>⟨h1.trans h4,.inl ⟨?_,rfl⟩⟩,fun h=>by cases h⟩,fun hs=>⟨ne,ne,_,_,_,(q.ext h1).qi.slot.cellAt0 (i:=0) rfl,fun h200 w7 h7=>⟨_,rfl,fun _=>⟨h1.trans h7,.inr ⟨by omega,rfl⟩⟩,fun h=>by cases h⟩,fun h200=>?_⟩⟩⟩
  · obtain ⟨t,ht,he,_⟩:=hsome hs; exact ⟨t,ht,he⟩
  have q1:=q.ext h1
  refine ⟨ne,ne,_,q1.qi.slot.cellAt0 (i:=2) rfl,i64 (by omega),ne,ne,?_⟩
  refine store_one q1.qi.slot (by simp) rfl (by simp) fun w8 o8 g8=>⟨ne,ne,_,o8.cellAt0 (i:=2) rfl,fun w10 h10=>?_⟩
  have qi8:=q1.qi.reslot (y':=.int .i64 (born + 1)) o8 g8
  have m8:=q1.mp.grew (p:=ptr qb) (q:=ptr qb) (fun x hx=>by cases hx; exact fun h=>q.mf (.inl h.symm)) g8
  have f8:Fr (FootQ mb qb p H) w w8:=(fr_ext h1).tr (fr_grew g8 fun a ha=>by cases ha; exact .inr (.inl rfl))
  refine new_own (by simp [Value.oneCell']) fun w11 o11 e11=>⟨ne,ne,_,((qi8.ext h10).ext e11).slot.cellAt0 (i:=1) rfl,fun w13 h13=>?_⟩
  have sz10:w.heap.size <= w10.heap.size:=Nat.le_trans f8.size h10.size
  have o11:=o11 B (Nat.le_trans hB sz10)
  have t13:=o11.ext h13
  have qi13:=((qi8.ext h10).ext e11).ext h13
  have f13:Fr (FootQ mb qb p H) w w13:=((f8.tr (fr_ext h10)).tr (fr_ext e11)).tr (fr_ext h13)
  have hfr:¬ FootQ mb qb p H w10.heap.size:=fun h=>by have:=(q.foot h).2; omega
  refine run_mapUpdate kq mapq (a:=id) (((m8.ext h10).ext e11).ext h13) fun w14 m14 g14=>⟨ne,ne,fun w15 h15=>?_⟩
  have g14':Fr (fun b=>b = mb) w13 w14:=fr_grew g14 fun a ha=>by cases ha; rfl
  have qi14:=qi13.fr g14' fun b hb h=>q.mf (h ▸ hb)
  have t14:=t13.fr g14' fun a ha h=>by cases ha; exact hfr (.inl h)
  rw [pAdd_zero]
  refine run_iface (d:=.pointer T_queue_row) (by kernel_rfl) (by simp) ⟨Ext.refl _,_,rfl,fun w18 h18=>run_iface (d:=.pointer T_queue_thing) (by kernel_rfl) (by simp) ⟨Ext.refl _,_,rfl,fun w21 h21=>?_⟩⟩
  have qi21:=((qi14.ext h15).ext h18).ext h21
  have t21:=((t14.ext h15).ext h18).ext h21
  have f21:Fr (FootQ mb qb p H) w w21:=(((f13.tr (g14'.mono fun b hb=>.inl hb)).tr (fr_ext h15)).tr (fr_ext h18)).tr (fr_ext h21)
  refine (heap_push_k (t:=⟨w10.heap.size,prio,id,born + 1⟩) (j:=0) qi21 q.hp (by omega) (Nat.le_trans hB f21.size) t21 fun h=>hfr (.inr h)).mono fun v w22 ⟨qhv,p',c',Y,qi22,hp,hh,f22,np⟩=>⟨qhv,fun w23 h23=>⟨0,rfl,fun h=>absurd rfl h,fun _=>⟨hnone.1 hs,by omega,w10.heap.size,p',c',Y,QQ.ext ⟨qi22,?_,hh,q.mB,?_⟩ h23,hp,?_,fun k hk=>?_⟩⟩⟩
  · have m21:=((m14.ext h15).ext h18).ext h21
    refine m21.fr f22 ?_
    rintro (h | h | ⟨t,ht,h⟩)
    · exact q.mf (.inl h)
    · exact q.mf (.inr (.inl h))
    · rcases List.mem_cons.1 ht with rfl | ht
      · exact hfr (.inl h)
      · exact q.mf (.inr (.inr ⟨t,ht,h⟩))
  · intro h
    rcases foot_grow (fun u hu=>List.mem_cons.1 (hp.mem_iff.1 hu)) np mb h with h | h
    · rcases h with h | h | ⟨t,ht,h⟩
      · exact q.mf (.inl h)
      · exact q.mf (.inr (.inl h))
      · rcases List.mem_cons.1 ht with rfl | ht
        · exact hfr (.inl h)
        · exact q.mf (.inr (.inr ⟨t,ht,h⟩))
    · have:=((m14.ext h15).ext h18 |>.ext h21).lt; omega
  · refine (f21.trans f22 fun b hb=>?_).tr (fr_ext h23)
    rcases hb with h | h | ⟨t,ht,h⟩
    · exact .inl (.inr (.inl h))
    · exact .inl (.inr (.inr (.inl h)))
    · rcases List.mem_cons.1 ht with rfl | ht
      · simp only at h; exact .inr (by omega)
      · exact .inl (.inr (.inr (.inr ⟨t,ht,h⟩)))
  · rcases hk with rfl | hk
    · exact .inl (.inl rfl)
    · rcases foot_grow (fun u hu=>List.mem_cons.1 (hp.mem_iff.1 hu)) np k hk with h | h
      · rcases h with h | h | ⟨t,ht,h⟩
        · exact .inl (.inr (.inl h))
        · exact .inl (.inr (.inr (.inl h)))
        · rcases List.mem_cons.1 ht with rfl | ht
          · simp only at h; exact .inr (by omega)
          · exact .inl (.inr (.inr (.inr ⟨t,ht,h⟩)))
      · exact .inr (Nat.le_trans f21.size h)
theorem qtake_k (q:QQ B w qb mb born p c H m) (hn:H.length <= 1000) :
    FnP Tryz.prog F_queue_Queue_Take #[.pointer (ptr qb)] w fun v w' =>
      (H = []/\v = .tuple #[.agg #[.int .i64 0,.int .i64 0],.bool false]/\Ext w w') \/
      ∃ t Y,v = .tuple #[.agg #[.int .i64 t.prio,.int .i64 t.id],.bool true]/\QQ B w' qb mb born p c Y (mdel m t.id)/\(t :: Y).Perm H/\(∀ u ∈ H,¬ ahead u t)/\Fr (FootQ mb qb p H) w w':=by
  have ne:=ptr_ne qb
  refine ok_queue_Queue_Take (ptr qb) w _ fun b0 hb0=>⟨ne,ne,_,_,_,q.qi.slot.cellAt0 (i:=0) rfl,fun h0 w4 h4=>.inl ⟨List.length_eq_zero_iff.1 (by omega),rfl,h4⟩,fun h0=>⟨ne,ne,fun w4 x4=>?_⟩⟩
  have h4:=extB_ext x4
  rw [pAdd_zero]
  refine run_iface (d:=.pointer T_queue_row) (by kernel_rfl) (by simp) ⟨Ext.refl _,_,rfl,fun w7 x7=>?_⟩
  have h7:=extB_ext x7
  have q7:=(q.ext h4).ext h7
  have lt4:=x4.lt b0 (by simp)
  have nf:∀ k,FootQ mb qb p H k->k ≠ b0:=fun k hk h=>by have:=(q.foot hk).2; omega
  refine (heap_pop_k q7.qi q.hp (by omega) hn).mono fun v w8 ⟨t,j,Y,qhv,q8,hp,hh,hmin,ht,f8⟩=>⟨?_,v,rfl,fun w10 x10=>?_⟩
  · refine f8.kept fun b hb=>?_
    obtain rfl:b = b0:=by simpa using hb
    exact ⟨x7.lt b (by simp),fun h=>nf b (.inr h) rfl⟩
  subst qhv
  have h10:=extB_ext x10
  have hth:t ∈ H:=hp.mem_iff.1 (List.mem_cons_self ..)
  have mfY:¬ Foot qb p Y mb:=by
    rintro (h | h | ⟨u,hu,h⟩)
    · exact q.mf (.inl h)
    · exact q.mf (.inr (.inl h))
    · exact q.mf (.inr (.inr ⟨u,hp.mem_iff.1 (List.mem_cons_of_mem _ hu),h⟩))
  have tb:t.b ≠ mb:=fun h=>q.mf (.inr (.inr ⟨t,hth,h⟩))
  have tb0:t.b ≠ b0:=nf _ (.inr (.inr (.inr ⟨t,hth,rfl⟩)))
  have m10:=(q7.mp.fr f8 q.mf).ext h10
  have net:=ptr_ne t.b
  refine run_assert (d:=.pointer T_queue_thing) (by kernel_rfl) (by simp) ⟨Ext.refl _,_,rfl,ne,ne,_,(q8.ext h10).slot.cellAt0 (i:=1) rfl,net,net,by rw [pAdd_zero]; exact net,_,(by rw [pAdd_zero]; exact (ht.ext h10).cellAt0 (i:=1) rfl),fun w15 x15=>?_⟩
  have h15:=extB_ext x15
  have lt15:=x15.lt b0 (by simp)
  refine run_delete (ts:=[3]) kq mapq (a:=t.id) (m10.ext h15) fun w16 m16 g16=>?_
  have f16:Fr (fun b=>b = mb) w15 w16:=fr_grew g16 fun a ha=>by cases ha; rfl
  have q16:=((q8.ext h10).ext h15).fr f16 fun b hb h=>mfY (h ▸ hb)
  have t16:=((ht.ext h10).ext h15).fr f16 fun a ha h=>by cases ha; exact tb h
  rw [pAdd_zero]
  refine ⟨f16.kept fun b hb=>?_,rfl,net,net,net,_,t16.cellAt (i:=0) rfl,_,t16.cellAt (i:=1) rfl,fun w19 x19=>.inr ⟨t,Y,rfl,?_,hp,hmin,?_⟩⟩
  · obtain rfl:b = b0:=by simpa using hb
    exact ⟨lt15,fun h=>nf b (.inl h) rfl⟩
  · have f19:Fr (fun b=>b = b0) w16 w19:=fr_extB x19 fun d hd=>.inl (by simpa using hd)
    have hY:∀ k,FootQ mb qb p Y k->FootQ mb qb p H k:=fun k hk=>by
      rcases hk with h | h | h | ⟨u,hu,h⟩
      · exact .inl h
      · exact .inr (.inl h)
      · exact .inr (.inr (.inl h))
      · exact .inr (.inr (.inr ⟨u,hp.mem_iff.1 (List.mem_cons_of_mem _ hu),h⟩))
    exact QQ.fr ⟨q16,m16,hh,q.mB,mfY⟩ f19 fun k hk h=>nf k (hY k hk) h
  · have f16':Fr (FootQ mb qb p H) w w16:=(((((fr_ext h4).tr (fr_ext h7)).tr (f8.mono fun b hb=>.inr hb)).tr (fr_ext h10)).tr (fr_ext h15)).tr (f16.mono fun b hb=>.inl hb)
    refine f16'.trans (fr_extB (S:=fun b=>b = b0) x19 fun d hd=>.inl (by simpa using hd)) fun b hb=>.inr (by omega)
end
end Go.Proofs.YtegephkpdlopaaaGreatDoor
set_option linter.unusedVariables false
set_option linter.unusedSimpArgs false
namespace Go.Proofs.YtegephkpdlopaaaGreatDoor
open Go.Sx Go.RowKit
def Far (n:Nat) (w:World) (X:World->Prop):Prop:=∀ S:Nat->Prop,(∀ b,S b->b < n)->∀ w'',Fr S w w''->X w''
theorem Far.at {n:Nat} {w:World} {X:World->Prop} (h:Far n w X):X w:=h (fun _=>False) (fun _ h=>h.elim) w (Fr.refl _ w)
theorem Far.ext {n:Nat} {w w':World} {X:World->Prop} (h:Far n w X) (e:Ext w w'):Far n w' X:=fun S hS w'' f=>h S hS w'' ((fr_ext e).tr f)
structure AR where
  t:AT
  p:Option Addr
  c:Nat
abbrev encR5 (x:AR):List Value:=encA x.t x.p x.c
theorem isT_row {w:World} {t:AT} {q:Option Addr} {d:Nat} {L:List AR} (hm:L.map (·.t) = t.xs) (hle:t.xs.length <= d) (hR:Recs 5 encR5 w q L) (hT:∀ x ∈ L,IsT w x.t x.p x.c):IsT w t q d:=by
  rw [AT.eta t]
  unfold IsT
  refine ⟨hle,IsL.of fun j x hx=>?_⟩
  rw [<- hm,List.getElem?_map] at hx
  obtain ⟨r,hr,rfl⟩:=Option.map_eq_some_iff.1 hx
  exact ⟨r.p,r.c,fun m u hu=>by rw [Nat.zero_add]; exact hR j r hr m u hu,hT r (List.mem_of_getElem? hr)⟩
def AOut (w:World) (t:AT) (v:Value) (w':World):Prop:=Ext w w'/\∃ q d,v = av t q d/\Far w.heap.size w' fun w''=>IsT w'' t q d
theorem ownAsk_k:∀ (t:AT) (p:Option Addr) (c:Nat) (w:World),IsT w t p c->errA t = 0->FnP Tryz.prog F_farm_ownAsk #[av t p c] w (AOut w t):=by
  intro t
  induction t using AT.ind with
  | h k key val n xs ih =>
    intro p c w hT hE
    have hEx:=(errA_node hE).2
    have h2:xs.length <= 2:=by
      have:=err1_len (errA_node hE).1
      have h3:inner k <= 2:=by unfold inner; split <;> (try split) <;> omega
      show xs.length <= 2
      have h4:xs.length = inner k:=this
      omega
    refine ok_farm_ownAsk k key val n p xs.length c w _ fun b0 hb0 b1 hb1=>?_
    refine ⟨fun l ll lc k' w'=>Ext w w'/\0 <= k'/\k' <= xs.length/\ll = k'.toNat/\(∀ b ∈ [b0,b1],∀ y,l = some y->y.block ≠ b)/\∃ L:List AR,L.map (·.t) = xs.take k'.toNat/\Own w.heap.size w' T_Ask 5 l ll lc (L.flatMap encR5) /\
        ∀ x ∈ L,∀ w'',Fr (fun b=>b < w.heap.size\/b = b0\/b = b1\/∃ a,l = some a/\a.block = b) w' w''->IsT w'' x.t x.p x.c,
      fun _ _ _ k' _=>(xs.length - k').toNat,⟨Ext.refl _,by omega,by omega,rfl,fun b _ y hy=>(by cases hy),[],rfl,Own.nil,fun x hx=>(by cases hx)⟩,?_⟩
    rintro l ll lc k' w5 ⟨x5,hk0,hk1,rfl,hbl,L,hL,oL,hTL⟩
    have hLl:L.length = k'.toNat:=by have:=congrArg List.length hL; rw [List.length_map,List.length_take] at this; omega
    refine ⟨fun hlt=>?_,fun hge w6 x6=>?_⟩
    · have hT5:=hT.ext x5 _ _ _
      obtain ⟨x,p',c',hx,hmem,hIx,a1,a2,g0,g1,g2,g3,g4⟩:=hT5.at hk0 (by exact hlt)
      refine ⟨a1,hk0,hlt,a2,_,g0,_,g1,_,g2,_,g3,_,_,_,g4,fun b13 hb13 w14 x14=>?_⟩
      have h14:=extB_ext x14
      have hw14:=x5.trans h14
      refine (ih x hmem p' c' w14 (hIx.ext h14 _ _ _) (hEx x hmem)).mono fun v w15 ⟨e15,q,d,hv,hF⟩=>⟨e15,x.k,x.key,x.val,x.n,q,x.xs.length,d,hv,?_⟩
      have h515:=h14.trans e15
      have hw15:=x5.trans h515
      have oL15:=oL.ext h515
      have hns:∀ b ∈ [b0,b1,b13],∀ y,l = some y->y.block ≠ b:=fun b hb y hy=>by
        simp only [List.mem_cons,List.not_mem_nil,or_false] at hb
        rcases hb with rfl | rfl | rfl
        · exact hbl _ (by simp) y hy
        · exact hbl _ (by simp) y hy
        · have:=(oL.lt y hy).2; omega
      refine push_B (v:=av x q d) elem_sl_Ask (by omega) oL15 hw15.size hns rfl (by intro u hu; simp [Value.cells] at hu; rcases hu with rfl | rfl | rfl | rfl | rfl <;> rfl) (by omega) (by omega) (by omega) fun l' lc' w29 o29 g29 _ hb29=>⟨i64 (by omega),⟨g29.ext hw15 oL15,by omega,by omega,by omega,fun b hb y hy=>hb29 b (by simp at hb ⊢; omega) y hy,L ++ [⟨x,q,d⟩],?_,?_,?_⟩,by simp only []; omega⟩
      · rw [show (k' + 1).toNat = k'.toNat + 1 by omega,List.map_append,hL,List.take_add_one]
        have hx':xs[k'.toNat]? = some x:=hx
        rw [hx']; rfl
      · rw [List.flatMap_append]
        simpa [Value.cells,encR5,encA] using o29
      · have step:∀ (w0 w'':World),Ext w0 w15->w0.heap.size <= w15.heap.size->(∀ b,b < w.heap.size\/b = b0\/b = b1\/(∃ a,l = some a/\a.block = b)->True)->Fr (fun b=>b < w.heap.size\/b = b0\/b = b1\/∃ a,l' = some a/\a.block = b) w29 w''->Fr (fun b=>b < w.heap.size\/b = b0\/b = b1\/∃ a,l = some a/\a.block = b) w0 w'':=fun w0 w'' h0 hs _ fw=>by
          have f1:Fr (fun b=>b < w.heap.size\/b = b0\/b = b1\/∃ a,l = some a/\a.block = b) w0 w29:=(fr_ext h0).tr (fr_grew g29 fun a ha=>.inr (.inr (.inr ⟨a,ha,rfl⟩)))
          refine f1.trans fw fun b hb=>?_
          rcases hb with h | h | h | ⟨a2,ha2,hk2⟩
          · exact .inl (.inl h)
          · exact .inl (.inr (.inl h))
          · exact .inl (.inr (.inr (.inl h)))
          rcases g29.new with hn | hn
          · left
            rw [ha2] at hn
            cases hout:l with
            | none => rw [hout] at hn; simp [blk] at hn
            | some y => rw [hout] at hn; simp [blk] at hn; exact .inr (.inr (.inr ⟨y,rfl,by omega⟩))
          · right
            have:=hn a2 ha2
            omega
        intro y hy w'' fw
        rcases List.mem_append.1 hy with hy | hy
        · exact hTL y hy w'' (step w5 w'' h515 h515.size (fun _ _=>trivial) fw)
        · simp at hy; subst hy
          refine hF _ (fun b hb=>?_) w'' (step w15 w'' (Ext.refl _) (Nat.le_refl _) (fun _ _=>trivial) fw)
          rcases hb with h | h | h | ⟨a,ha,rfl⟩
          · have:=hw14.size; omega
          · subst h; exact x14.lt _ (by simp)
          · subst h; exact x14.lt _ (by simp)
          · have:=(oL.lt a ha).2; have:=h14.size; omega
    · have hkl:k'.toNat = xs.length:=by omega
      rw [hkl,List.take_length] at hL
      rw [hkl] at oL hLl
      have hx6:Ext w w6:=but_ext x6 x5 (by intro d hd; simp at hd; omega)
      have f6:Fr (fun b=>b < w.heap.size\/b = b0\/b = b1\/∃ a,l = some a/\a.block = b) w5 w6:=fr_extB x6 (fun d hd=>by simp at hd; rcases hd with rfl | rfl <;> simp)
      refine ⟨hx6,l,lc,by rw [hkl]; rfl,fun S hS w'' fw=>?_⟩
      have fall:Fr (fun b=>b < w.heap.size\/b = b0\/b = b1\/∃ a,l = some a/\a.block = b) w5 w'':=f6.tr (fw.mono fun b hb=>.inl (hS b hb))
      have ol6:=(oL.but x6.toBut (fun d hd y hy=>hbl d (by simp at hd ⊢; omega) y hy)).fr fw (fun a ha hs=>by
        have:=hS _ hs
        have:=(oL.lt a ha).1
        omega)
      exact isT_row (t:=.mk k key val n xs) hL (by show xs.length <= lc; have:=oL.le; omega) (ol6.recs fun _ _=>rfl) fun x hx=>hTL x hx w'' fall
structure St where
  job:Jb
  what:Int
  host:Int
  since:Int
  again:Int
  tries:Int
structure StR where
  s:St
  pa:Option Addr
  ca:Nat
  pf:Option Addr
  cf:Nat
abbrev encS (r:StR):List Value:=[.string r.s.job.user,.int .i64 r.s.job.prio,.int .i64 r.s.job.nd.c,.int .i64 r.s.job.nd.m,.int .i64 r.s.job.nd.g,.int .i64 r.s.job.ask.k,.string r.s.job.ask.key,.string r.s.job.ask.val,.int .i64 r.s.job.ask.n,.slice r.pa r.s.job.ask.xs.length r.ca,.slice r.pf r.s.job.aft.length r.cf,
  .int .i64 r.s.what,.int .i64 r.s.host,.int .i64 r.s.since,.int .i64 r.s.again,.int .i64 r.s.tries]
abbrev sv (r:StR):Value:=.agg #[.string r.s.job.user,.int .i64 r.s.job.prio,.int .i64 r.s.job.nd.c,.int .i64 r.s.job.nd.m,.int .i64 r.s.job.nd.g,.int .i64 r.s.job.ask.k,.string r.s.job.ask.key,.string r.s.job.ask.val,.int .i64 r.s.job.ask.n,.slice r.pa r.s.job.ask.xs.length r.ca,.slice r.pf r.s.job.aft.length r.cf,
  .int .i64 r.s.what,.int .i64 r.s.host,.int .i64 r.s.since,.int .i64 r.s.again,.int .i64 r.s.tries]
theorem encS_len (r:StR):(encS r).length = 16:=rfl
theorem encS_one (r:StR):∀ u ∈ encS r,u.oneCell' = true:=by
  intro u hu
  simp only [List.mem_cons,List.not_mem_nil,or_false] at hu
  rcases hu with rfl | rfl | rfl | rfl | rfl | rfl | rfl | rfl | rfl | rfl | rfl | rfl | rfl | rfl | rfl | rfl <;> rfl
theorem CloneI_k (q:Option Addr) (c:Nat) (D:List Int) (h60:D.length <= 1000) (w:World) (hD:Ints .i64 w q D) :
    FnP Tryz.prog F_slices_Clone_int_int #[.slice q D.length c] w fun v w'=>Ext w w'/\∃ p' c',v = .slice p' D.length c'/\Own w.heap.size w' T_int 1 p' D.length c' (D.map (.int .i64)):=by
  refine ok_slices_Clone_int_int q D.length c w _ ⟨fun hn w0 h0=>?_,fun hn=>?_⟩
  · cases D with
    | nil => exact ⟨h0,none,0,rfl,Own.nil⟩
    | cons x r => exact absurd hn fun hq => cell_p (Ints.idx hD (i:=0) (by omega) (by simp)) (pIdx_none.2 hq)
  · exact clone_txt (Q:=fun v w'=>Ext w w'/\∃ p' c',v = .slice p' D.length c'/\Own w.heap.size w' T_int 1 p' D.length c' (D.map (.int .i64))) elem_sl_int (by omega) hD (by simp) (by intro u hu; simp at hu; obtain ⟨x,_,rfl⟩:=hu; rfl) (by omega) (by omega) hn fun p' c' w' hx o=>⟨hx,p',c',rfl,o⟩
def SOut (w:World) (s:St) (v:Value) (w':World):Prop:=Ext w w'/\∃ r:StR,v = sv r/\r.s = s/\Far w.heap.size w' fun w''=>IsJ w'' s.job r.pa r.ca r.pf
theorem ownS_k (r:StR) (w:World) (hJ:IsJ w r.s.job r.pa r.ca r.pf) (hE:errA r.s.job.ask = 0) (h8:r.s.job.aft.length <= 8):FnP Tryz.prog F_farm_own #[sv r] w (SOut w r.s):=by
  refine ok_farm_own r.s.job.user r.s.job.prio r.s.job.nd.c r.s.job.nd.m r.s.job.nd.g r.s.job.ask.k r.s.job.ask.key r.s.job.ask.val r.s.job.ask.n r.pa r.s.job.ask.xs.length r.ca r.pf r.s.job.aft.length r.cf r.s.what r.s.host r.s.since r.s.again r.s.tries w _ fun b0 hb0 b1 hb1 w2 x2=>?_
  have h2:=extB_ext x2
  refine (CloneI_k r.pf r.cf r.s.job.aft (by omega) w2 (hJ.2.ext h2)).mono fun v w3 ⟨e3,pf,cf,hv,oF⟩=>⟨e3,pf,_,cf,hv,fun w7 x7=>?_⟩
  have h7:Ext w w7:=but_ext x7 (h2.trans e3) (by intro d hd; simp at hd; omega)
  have oF7:=oF.but x7.toBut (fun d hd y hy=>by simp at hd; subst hd; have:=(oF.lt y hy).1; have:=x2.lt d (by simp); omega)
  refine (ownAsk_k r.s.job.ask r.pa r.ca w7 (hJ.1.ext h7 _ _ _) hE).mono fun v w8 ⟨e8,pa,ca,hv,hF⟩=>⟨e8,_,_,_,_,pa,_,ca,hv,fun w16 x16=>?_⟩
  have h16:Ext w w16:=but_ext x16 (h7.trans e8) (by intro d hd; simp at hd; omega)
  refine ⟨h16,⟨r.s,pa,ca,pf,cf⟩,rfl,rfl,fun S hS w'' fw=>?_⟩
  have f816:Fr (fun b=>b = b0\/b = b1) w8 w16:=fr_extB x16 (fun d hd=>by simp at hd; rcases hd with rfl | rfl <;> simp)
  have fall:Fr (fun b=>b < w.heap.size\/b = b0\/b = b1) w8 w'':=(f816.mono fun b hb=>.inr hb).tr (fw.mono fun b hb=>.inl (hS b hb))
  have hb0':b0 < w2.heap.size:=x2.lt b0 (by simp)
  have hb1':b1 < w2.heap.size:=x2.lt b1 (by simp)
  have h27:w2.heap.size <= w7.heap.size:=Nat.le_trans e3.size x7.size
  refine ⟨hF _ (fun b hb=>?_) w'' fall,?_⟩
  · rcases hb with h | rfl | rfl
    · have:=h2.size; omega
    · omega
    · omega
  · exact ((oF7.ext e8).fr fall (fun a ha hs=>by
      have:=(oF.lt a ha).1
      have:=h2.size
      omega)).cells
theorem ownH_k (p:Option Addr) (c:Nat) (L:List Ht) (h30:L.length <= 30) (h8:∀ h ∈ L,h.labels.length <= 8) (w:World) (hL:HsAt w p L) :
    FnP Tryz.prog F_farm_ownHosts #[.slice p L.length c] w fun v w'=>Ext w w'/\∃ p' c',∃ M:List Hm,v = .slice p' L.length c'/\M.map (·.h) = L/\Own w.heap.size w' T_Host 8 p' L.length c' (M.flatMap encM)/\(∀ m ∈ M,LbA w' p' m)/\∀ m ∈ M,LbN w.heap.size m:=by
  refine ok_farm_ownHosts p L.length c w _ fun w0 h0=>?_
  obtain ⟨M0,hM0,hR0,hl0⟩:=hs_ms (hL.ext h0)
  have hlen0:M0.length = L.length:=by rw [<- hM0]; simp
  rw [<- hlen0]
  refine (CloneH_k p c M0 (by omega) w0 hR0).mono fun v w1 ⟨e1,p',c',hv,o1⟩=>⟨e1,p',M0.length,c',hv,?_⟩
  have lt0:∀ m ∈ M0,LbA w1 p' m:=fun m hm=>⟨(hl0 m hm).ext e1,by
    cases hlb:m.h.labels with
    | nil => exact .inl rfl
    | cons x r =>
      refine .inr fun a b ha hb=>?_
      have:=(hl0 m hm).lt (x:=x) (by rw [hlb]; exact List.mem_cons_self ..) (by simp) a ha
      have:=(o1.lt b hb).1
      omega⟩
  refine ⟨fun k w'=>Ext w w'/\0 <= k/\k <= M0.length/\∃ M:List Hm,M.map (·.h) = L/\Own w0.heap.size w' T_Host 8 p' M0.length c' (M.flatMap encM)/\(∀ m ∈ M,LbA w' p' m)/\∀ j,j < k.toNat->∀ m,M[j]? = some m->LbN w.heap.size m,fun k _=>(M0.length - k).toNat,⟨h0.trans e1,by omega,by omega,M0,hM0,o1,lt0,fun j hj=>by simp at hj⟩,?_⟩
  rintro k w7 ⟨x7,hk0,hk1,M,hM,o7,hA7,hN7⟩
  have hlen:M.length = M0.length:=by rw [hlen0,<- hM]; simp
  refine ⟨fun hlt=>?_,fun hge w8 h8=>⟨x7.trans h8,p',c',M,rfl,hM,(o7.ext h8).weak h0.size,fun m hm=>⟨(hA7 m hm).1.ext h8,(hA7 m hm).2⟩,fun m hm=>by
    obtain ⟨j,hj⟩:=List.mem_iff_getElem?.1 hm
    have hjl:=(List.getElem?_eq_some_iff.1 hj).1
    exact hN7 j (by omega) m hj⟩⟩
  have r7:Recs 8 encM w7 p' M:=o7.recs fun _ _=>rfl
  have g:=r7.idx default hk0 (by omega) (j:=1) rfl
  have hp':=o7.ne1 (by omega) (by omega)
  have hm:=getD_mem M default (i:=k.toNat) (by omega)
  generalize hmd:M.getD k.toNat default = m at g hm
  have hml:m.h ∈ L:=by rw [<- hM]; exact List.mem_map_of_mem hm
  refine ⟨hp',hk0,hlt,fun hq=>hp' (pIdx_none.1 hq),m.q,m.h.labels.length,m.d,by rw [cell_pAdd]; exact g,fun w11 h11=>?_⟩
  refine (CloneL_k m.q m.d m.h.labels (h8 _ hml) w11 ((hA7 m hm).1.ext h11)).mono fun v w12 ⟨e12,q',d',hv,hl',hn'⟩=>⟨e12,q',_,d',hv,hp',hk0,hlt,fun hq=>hp' (pIdx_none.1 hq),?_⟩
  have x12:=h11.trans e12
  have o12:=o7.ext x12
  refine store_own o12 pAdd_map (by rw [recs_len encM_len]; simp; omega) (by simp) (by intro v hv; simp at hv; subst hv; rfl) (by simp) fun w16 o16 g16=>?_
  rw [recs_part encM_len M k.toNat 1 [.slice q' m.h.labels.length d'] ⟨m.h,q',d'⟩ default (by omega) (by simp) (by rw [hmd]; rfl)] at o16
  have hmap:(M.set k.toNat ⟨m.h,q',d'⟩).map (·.h) = L:=by
    rw [List.map_set,hM]
    have hk:k.toNat < L.length:=by omega
    have:L[k.toNat] = m.h:=by
      have h1:(M.map (·.h)).getD k.toNat default = m.h:=by
        rw [<- hmd,List.getD_eq_getElem?_getD,List.getD_eq_getElem?_getD,List.getElem?_map,List.getElem?_eq_getElem (by omega:k.toNat < M.length)]; rfl
      rw [hM] at h1
      simpa [List.getD_eq_getElem?_getD,hk] using h1
    rw [<- this,List.set_getElem_self]
  refine ⟨i64 (by omega),⟨?_,by omega,by omega,_,hmap,o16,fun m' hm'=>?_,fun j hj m' hm'=>?_⟩,by simp only []; omega⟩
  · exact g16.ext (x7.trans x12) (o12.weak (by have:=h0.size; omega))
  · rcases List.mem_or_eq_of_mem_set hm' with hm' | rfl
    · exact ⟨lbs_grew ((hA7 m' hm').1.ext x12) (hA7 m' hm').2 g16,(hA7 m' hm').2⟩
    · have ha:Apart q' p':=fun a b ha hb=>by
        have:=hn' a ha
        have:=(o7.lt b hb).2
        have:=h11.size
        omega
      exact ⟨lbs_grew hl' (.inr ha) g16,.inr ha⟩
  · by_cases hjk:j = k.toNat
    · subst hjk
      rw [List.getElem?_set_self (by omega)] at hm'
      obtain rfl:=Option.some.inj hm'
      exact .inr fun a ha=>(by have:=hn' a ha; have:=x7.size; have:=h11.size; omega)
    · rw [List.getElem?_set_ne (by omega)] at hm'
      exact hN7 j (by omega) m' hm'
end Go.Proofs.YtegephkpdlopaaaGreatDoor
set_option linter.unusedVariables false
set_option linter.unusedSimpArgs false
namespace Go.Proofs.YtegephkpdlopaaaGreatDoor
open Go.Sx Go.RowKit
theorem elem_sl_State:slEl Tryz.prog T_sl_State = some (T_State,16,184,.agg #[.string ⟨#[]⟩,.int .i64 0,.int .i64 0,.int .i64 0,.int .i64 0,.int .i64 0,.string ⟨#[]⟩,.string ⟨#[]⟩,.int .i64 0,.slice none 0 0,.slice none 0 0,.int .i64 0,.int .i64 0,.int .i64 0,.int .i64 0,.int .i64 0]):=by kernel_rfl
structure Pol where
  first:Int
  times:Int
  most:Int
  tries:Int
structure Fm where
  hosts:List Ht
  pol:Pol
  now:Int
  jobs:List St
structure Pl where
  hp:Option Addr
  hc:Nat
  jp:Option Addr
  jc:Nat
  R:List StR
instance:Inhabited St:=⟨⟨zeroJ,0,0,0,0,0⟩⟩
instance:Inhabited StR:=⟨⟨default,none,0,none,0⟩⟩
def ft (fb:Nat) (jp:Option Addr) (b:Nat):Prop:=b = fb\/∃ a,jp = some a/\a.block = b
def ftO (O:Nat->Prop) (fb:Nat) (jp:Option Addr) (b:Nat):Prop:=O b\/ft fb jp b
abbrev fcs (P:Pl) (F:Fm):List Value:=[.slice P.hp F.hosts.length P.hc,.int .i64 F.pol.first,.int .i64 F.pol.times,.int .i64 F.pol.most,.int .i64 F.pol.tries,.int .i64 F.now,.slice P.jp P.R.length P.jc]
structure FXO (O:Nat->Prop) (B:Nat) (w:World) (fb:Nat) (P:Pl) (F:Fm):Prop where
  slot:Own B w T_farm_Farm 7 (ptr fb) 1 1 (fcs P F)
  arr:Own B w T_State 16 P.jp P.R.length P.jc (P.R.flatMap encS)
  map:P.R.map (·.s) = F.jobs
  hs:∀ w'',Fr (ftO O fb P.jp) w w''->HsAt w'' P.hp F.hosts
  js:∀ r ∈ P.R,∀ w'',Fr (ftO O fb P.jp) w w''->IsJ w'' r.s.job r.pa r.ca r.pf
  ap:∀ a,P.jp = some a->a.block ≠ fb
  hO:F.hosts.length <= 30/\∀ h ∈ F.hosts,HtOk h
  jO:F.jobs.length <= 60/\∀ s ∈ F.jobs,okJ s.job/\WfJ s.job
  olt:∀ b,O b->b < w.heap.size
  odis:∀ b,O b->¬ ft fb P.jp b
abbrev FX (B:Nat):=FXO (fun b=>b < B) B
section
variable {O:Nat->Prop} {B fb:Nat} {w:World} {P:Pl} {F:Fm}
theorem FXO.len (x:FXO O B w fb P F):P.R.length = F.jobs.length:=by have:=congrArg List.length x.map; simpa using this
theorem FXO.foot (x:FXO O B w fb P F) {b:Nat} (h:ft fb P.jp b):B <= b/\b < w.heap.size:=by
  rcases h with rfl | ⟨a,ha,rfl⟩
  · exact x.slot.lt _ rfl
  · exact x.arr.lt a ha
theorem FXO.fr {S:Nat->Prop} {w':World} (x:FXO O B w fb P F) (f:Fr S w w') (hS:∀ b,S b->O b):FXO O B w' fb P F :=
  ⟨x.slot.fr f fun a ha hs=>x.odis _ (hS _ hs) (.inl (by cases ha; rfl)),x.arr.fr f fun a ha hs=>x.odis _ (hS _ hs) (.inr ⟨a,ha,rfl⟩),x.map,
    fun w'' k=>x.hs w'' ((f.mono fun b hb=>.inl (hS b hb)).tr k),fun r hr w'' k=>x.js r hr w'' ((f.mono fun b hb=>.inl (hS b hb)).tr k),x.ap,x.hO,x.jO,fun b hb=>Nat.lt_of_lt_of_le (x.olt b hb) f.size,x.odis⟩
theorem FXO.ext {w':World} (x:FXO O B w fb P F) (e:Ext w w'):FXO O B w' fb P F:=x.fr (fr_ext (S:=fun _=>False) e) fun _ h=>h.elim
theorem FXO.recs (x:FXO O B w fb P F):Recs 16 encS w P.jp P.R:=x.arr.recs fun _ _=>rfl
theorem FXO.cell (x:FXO O B w fb P F) {i:Nat} {v:Value} (h:(fcs P F)[i]? = some v):Go.Sx.cell w (pAdd (ptr fb) i) 0 = some v:=by rw [cell_pAdd]; exact x.slot.cells i v h
theorem FXO.st (x:FXO O B w fb P F) {k:Int} (h0:0 <= k) (h1:k < F.jobs.length):∃ r,P.R[k.toNat]? = some r/\F.jobs[k.toNat]? = some r.s/\P.jp ≠ none/\pIdx P.jp k 16 ≠ none/\(∀ (m:Nat) u,(encS r)[m]? = some u->Go.Sx.cell w (pIdx P.jp k 16) m = some u)/\(∀ (m:Nat) u,(encS r)[m]? = some u->Go.Sx.cell w (pAdd (pIdx P.jp k 16) m) 0 = some u)/\IsJ w r.s.job r.pa r.ca r.pf/\okJ r.s.job/\WfJ r.s.job:=by
  have hl:=x.len
  obtain ⟨r,hr⟩:∃ r,P.R[k.toNat]? = some r:=⟨_,List.getElem?_eq_getElem (by omega)⟩
  have hm:=List.mem_of_getElem? hr
  have g:∀ (m:Nat) u,(encS r)[m]? = some u->Go.Sx.cell w (pIdx P.jp k 16) m = some u:=fun m u hu=>x.recs.at h0 hr hu
  have g0:=g 0 _ rfl
  have hF:F.jobs[k.toNat]? = some r.s:=by rw [<- x.map,List.getElem?_map,hr]; rfl
  have hj:=x.jO.2 r.s (List.mem_of_getElem? hF)
  exact ⟨r,hr,hF,fun h=>cell_p g0 (pIdx_none.2 h),cell_p g0,g,fun m u hu=>by rw [cell_pAdd]; exact g m u hu,x.js r hm w (Fr.refl _ w),hj.1,hj.2⟩
theorem FXO.slot_to {w':World} {F':Fm} {P':Pl} (x:FXO O B w fb P F) (o:Own B w' T_farm_Farm 7 (ptr fb) 1 1 (fcs P' F')) (g:Grew w w' (ptr fb) (ptr fb)) (hj:F'.jobs = F.jobs) (hR:P'.R = P.R) (hjp:P'.jp = P.jp) (hjc:P'.jc = P.jc)
    (hs:∀ w'',Fr (ftO O fb P.jp) w' w''->HsAt w'' P'.hp F'.hosts) (hO:F'.hosts.length <= 30/\∀ h ∈ F'.hosts,HtOk h):FXO O B w' fb P' F'/\Fr (ft fb P.jp) w w':=by
  have f:Fr (ft fb P.jp) w w':=fr_grew g fun a ha=>by cases ha; exact .inl rfl
  refine ⟨⟨o,?_,by rw [hR,hj]; exact x.map,by rw [hjp]; exact hs,fun r hr w'' k=>?_,by rw [hjp]; exact x.ap,hO,by rw [hj]; exact x.jO,fun b hb=>Nat.lt_of_lt_of_le (x.olt b hb) f.size,by rw [hjp]; exact x.odis⟩,f⟩
  · rw [hjp,hR,hjc]
    exact x.arr.st (fun u v hu hv=>by cases hv; exact x.ap u hu) g
  · rw [hR] at hr
    rw [hjp] at k
    exact x.js r hr w'' ((f.mono fun b hb=>.inr hb).tr k)
def setS (m:Nat) (v:Int) (s:St):St:=match m with
  | 11 => { s with what:=v }
  | 12 => { s with host:=v }
  | 13 => { s with since:=v }
  | 14 => { s with again:=v }
  | _ => { s with tries:=v }
def setF (F:Fm) (k:Nat) (s:St):Fm:={ F with jobs:=F.jobs.set k s }
def setP (P:Pl) (k:Nat) (s:St):Pl:={ P with R:=P.R.set k { P.R.getD k default with s:=s } }
theorem setS_job (m:Nat) (v:Int) (s:St):(setS m v s).job = s.job:=by unfold setS; split <;> rfl
theorem FXO.set (x:FXO O B w fb P F) {k:Int} (h0:0 <= k) (h1:k < F.jobs.length) {m:Nat} (hm:11 <= m/\m <= 15) (v:Int) {ns:List Nat} (hns:∀ b ∈ ns,¬ ft fb P.jp b) {K:World->Prop}
    (hk:∀ w',FXO O B w' fb (setP P k.toNat (setS m v (F.jobs.getD k.toNat default))) (setF F k.toNat (setS m v (F.jobs.getD k.toNat default)))->Fr (ft fb P.jp) w w'->K w'):Store w (pAdd (pIdx P.jp k 16) m) [.int .i64 v] ns K:=by
  have hl:=x.len
  have hg:(P.R.getD k.toNat default).s = F.jobs.getD k.toNat default:=by
    rw [<- x.map,List.getD_eq_getElem?_getD,List.getD_eq_getElem?_getD,List.getElem?_map,List.getElem?_eq_getElem (by omega:k.toNat < P.R.length)]; rfl
  refine store_own x.arr pAdd_map (by rw [recs_len encS_len]; simp; omega) (by simp) (by intro u hu; simp at hu; subst hu; rfl) (fun b hb y hy he=>hns b hb (.inr ⟨y,hy,he⟩)) fun w' o g=>?_
  have f:Fr (ft fb P.jp) w w':=fr_grew g fun a ha=>.inr ⟨a,ha,rfl⟩
  refine hk w' ⟨?_,?_,?_,fun w'' kf=>?_,fun r hr w'' kf=>?_,x.ap,x.hO,?_,fun b hb=>Nat.lt_of_lt_of_le (x.olt b hb) f.size,x.odis⟩ f
  · have:=x.slot.st (fun u y hu hy=>by cases hu; exact fun h=>x.ap y hy h.symm) g
    show Own B w' T_farm_Farm 7 (ptr fb) 1 1 [_,_,_,_,_,_,.slice P.jp (P.R.set _ _).length P.jc]
    rw [List.length_set]
    exact this
  · rw [recs_part encS_len P.R k.toNat m [.int .i64 v] { P.R.getD k.toNat default with s:=setS m v (F.jobs.getD k.toNat default) } default (by omega) (by simp; omega) (by
      rw [<- hg]
      have:m = 11\/m = 12\/m = 13\/m = 14\/m = 15:=by omega
      rcases this with rfl | rfl | rfl | rfl | rfl <;> rfl)] at o
    show Own B w' T_State 16 P.jp (P.R.set _ _).length P.jc _
    rw [List.length_set]
    exact o
  · show (P.R.set _ _).map (·.s) = F.jobs.set _ _
    rw [List.map_set,x.map]
  · exact x.hs w'' ((f.mono fun b hb=>.inr hb).tr kf)
  · have hr:r ∈ P.R.set k.toNat { P.R.getD k.toNat default with s:=setS m v (F.jobs.getD k.toNat default) }:=hr
    rcases List.mem_or_eq_of_mem_set hr with hr | rfl
    · exact x.js r hr w'' ((f.mono fun b hb=>.inr hb).tr kf)
    · have:=x.js _ (getD_mem P.R default (i:=k.toNat) (by omega)) w'' ((f.mono fun b hb=>.inr hb).tr kf)
      rw [hg] at this
      show IsJ w'' (setS m v (F.jobs.getD k.toNat default)).job _ _ _
      rw [setS_job]
      exact this
  · refine ⟨by show (F.jobs.set _ _).length <= 60; rw [List.length_set]; exact x.jO.1,fun s hs=>?_⟩
    have hs:s ∈ F.jobs.set k.toNat (setS m v (F.jobs.getD k.toNat default)):=hs
    rcases List.mem_or_eq_of_mem_set hs with hs | rfl
    · exact x.jO.2 s hs
    · rw [setS_job]
      exact x.jO.2 _ (getD_mem F.jobs default (i:=k.toNat) (by omega))
theorem at_k (x:FXO O B w fb P F) (id:Int) (hid:InR .i64 id):FnP Tryz.prog F_farm_Farm_at #[.pointer (ptr fb),.int .i64 id] w fun v w'=>Ext w w'/\((¬ (1 <= id/\id <= F.jobs.length)/\v = .pointer none)\/(1 <= id/\id <= F.jobs.length/\v = .pointer (pIdx P.jp (id - 1) 16))):=by
  have hl:=x.len
  have hj:=x.jO.1
  have ne:=ptr_ne fb
  refine ok_farm_Farm_at (ptr fb) id w _ ⟨fun _=>ne,fun _=>ne,fun h w0 h0=>⟨h0,.inl ⟨by omega,rfl⟩⟩,fun h=>⟨_,_,_,x.cell (i:=6) rfl,fun h2 w3 h3=>⟨h3,.inl ⟨by omega,rfl⟩⟩,fun h2=>⟨ne,ne,_,_,_,x.cell (i:=6) rfl,i64 (by omega),?_,by omega,by omega,fun w6 h6=>⟨h6,.inr ⟨h,by omega,rfl⟩⟩⟩⟩⟩
  obtain ⟨r,_,_,hp,_⟩:=x.st (k:=id - 1) (by omega) (by omega)
  exact hp
theorem now_k (x:FXO O B w fb P F):FnP Tryz.prog F_farm_Farm_Now #[.pointer (ptr fb)] w fun v w'=>Ext w w'/\v = .int .i64 F.now :=
  ok_farm_Farm_Now (ptr fb) w _ ⟨ptr_ne fb,ptr_ne fb,_,x.cell (i:=5) rfl,fun w1 h1=>⟨h1,rfl⟩⟩
def aftOk (F:Fm):Prop:=∀ (i:Nat) s,F.jobs[i]? = some s->∀ y ∈ s.job.aft,1 <= y/\y <= i
def whatAt (F:Fm) (id:Int):Int:=(F.jobs.getD (id - 1).toNat default).what
theorem at_what (x:FXO O B w fb P F) {id:Int} (h:1 <= id/\id <= F.jobs.length) {w':World} (e:Ext w w'):∃ q,pIdx P.jp (id - 1) 16 = q/\q ≠ none/\Go.Sx.cell w' (pAdd q 11) 0 = some (.int .i64 (whatAt F id)):=by
  obtain ⟨r,hr,hF,_,hne,_,g,_⟩:=(x.ext e).st (k:=id - 1) (by omega) (by omega)
  refine ⟨_,rfl,hne,?_⟩
  have:=g 11 _ rfl
  unfold whatAt
  rw [List.getD_eq_getElem?_getD,hF]
  exact this
theorem ready1_k (x:FXO O B w fb P F) {p1:Option Addr} (hc:Go.Sx.cell w p1 0 = some (.pointer (ptr fb))) {id:Int} (h:1 <= id/\id <= F.jobs.length):FnP Tryz.prog F_farm_Farm_ready_1 #[.int .i64 id,.pointer p1] w fun v w'=>Ext w w'/\v = .bool (decide (whatAt F id ≠ 3)):=by
  have hj:=x.jO.1
  refine ok_farm_Farm_ready_1 id p1 w _ ⟨_,hc,fun w1 h1=>(at_k (x.ext h1) id (i64 (by omega))).mono fun v w2 ⟨e2,hv⟩=>?_⟩
  rcases hv with ⟨hno,_⟩ | ⟨_,_,rfl⟩
  · exact absurd h hno
  · obtain ⟨q,hq,hne,hg⟩:=at_what x h (h1.trans e2)
    exact ⟨e2,_,rfl,by rw [hq]; exact hne,by rw [hq]; exact hne,_,by rw [hq]; exact hg,fun w5 h5=>⟨(h1.trans e2).trans h5,rfl⟩⟩
theorem lost1_k (x:FXO O B w fb P F) {p1:Option Addr} (hc:Go.Sx.cell w p1 0 = some (.pointer (ptr fb))) {id:Int} (h:1 <= id/\id <= F.jobs.length):FnP Tryz.prog F_farm_Farm_lost_1 #[.int .i64 id,.pointer p1] w fun v w'=>Ext w w'/\v = .bool (decide (whatAt F id = 4) || decide (whatAt F id = 5)):=by
  have hj:=x.jO.1
  refine ok_farm_Farm_lost_1 id p1 w _ ⟨_,hc,fun w1 h1=>(at_k (x.ext h1) id (i64 (by omega))).mono fun v w2 ⟨e2,hv⟩=>?_⟩
  rcases hv with ⟨hno,_⟩ | ⟨_,_,rfl⟩
  · exact absurd h hno
  · obtain ⟨q,hq,hne,hg⟩:=at_what x h (h1.trans e2)
    exact ⟨e2,_,rfl,by rw [hq]; exact hne,by rw [hq]; exact hne,_,by rw [hq]; exact hg,fun w5 h5=>⟨(h1.trans e2).trans h5,rfl⟩⟩
def readyB (F:Fm) (s:St):Bool:=decide (s.what = 1) && decide (s.again <= F.now) && s.job.aft.all fun y=>decide (whatAt F y = 3)
theorem ready_k (x:FXO O B w fb P F) (ha:aftOk F) {k:Int} (h0:0 <= k) (h1:k < F.jobs.length):FnP Tryz.prog F_farm_Farm_ready #[.pointer (ptr fb),.pointer (pIdx P.jp k 16)] w fun v w'=>Ext w w'/\v = .bool (readyB F (F.jobs.getD k.toNat default)):=by
  refine ok_farm_Farm_ready (ptr fb) (pIdx P.jp k 16) w _ fun w0 e0=>new_own (by simp [Value.oneCell']) fun w1 o1 e1=>?_
  have e01:=e0.trans e1
  have x1:=x.ext e01
  obtain ⟨r,hr,hF,_,hne,_,g,hJ,hok,hwf⟩:=x1.st h0 h1
  have hg:F.jobs.getD k.toNat default = r.s:=by rw [List.getD_eq_getElem?_getD,hF]; rfl
  rw [hg]
  have c1:Go.Sx.cell w1 (some ⟨w0.heap.size,0,none⟩) 0 = some (.pointer (ptr fb)):=(o1 0 (Nat.zero_le _)).cells 0 _ rfl
  have ne:=ptr_ne fb
  refine ⟨hne,hne,_,g 11 _ rfl,fun _=>hne,fun _=>hne,fun hw=>⟨_,g 14 _ rfl,_,c1,ne,ne,_,x1.cell (i:=5) rfl,fun _=>hne,fun _=>hne,fun _=>by rw [pAdd_zero]; exact hne,fun hn=>⟨_,_,_,by rw [pAdd_zero]; exact g 10 _ rfl,fun w9 h9=>?_⟩,fun hn w6 h6=>⟨e01.trans h6,?_⟩⟩,fun hw w3 h3=>⟨e01.trans h3,?_⟩⟩
  · have hin:∀ y ∈ r.s.job.aft,1 <= y/\y <= F.jobs.length:=fun y hy=>by have:=ha _ _ hF y hy; omega
    have hlen:=hok.len
    refine (ContainsF_k r.pf r.cf r.s.job.aft (by omega) _ (fun y=>decide (whatAt F y ≠ 3)) w9 (hJ.2.ext h9) fun y hy w' hw'=>⟨F_farm_Farm_ready_1,#[.pointer (some ⟨w0.heap.size,0,none⟩)],rfl,ready1_k (x1.ext (h9.trans hw')) (ext_cell (h9.trans hw') c1) (hin y hy)⟩).mono fun v w10 ⟨e10,b,hv,hb⟩=>⟨e10,b,hv,fun w12 h12=>⟨e01.trans h12,?_⟩⟩
    unfold readyB
    have h1:decide (r.s.what = 1) = true:=decide_eq_true hw
    have h2:decide (r.s.again <= F.now) = true:=decide_eq_true hn
    rw [h1,h2]
    simp only [Bool.true_and]
    congr 1
    cases b with
    | true =>
      obtain ⟨y,hy,h3⟩:=hb.1 rfl
      have:(r.s.job.aft.all fun y=>decide (whatAt F y = 3)) = false:=by
        rw [List.all_eq_false]
        exact ⟨y,hy,by simpa using h3⟩
      rw [this]; rfl
    | false =>
      have:(r.s.job.aft.all fun y=>decide (whatAt F y = 3)) = true:=by
        rw [List.all_eq_true]
        intro y hy
        by_cases h:whatAt F y = 3
        · simp [h]
        · exact absurd (hb.2 ⟨y,hy,by simpa using h⟩) (by simp)
      rw [this]; rfl
  · unfold readyB
    have:decide (r.s.again <= F.now) = false:=decide_eq_false (by omega)
    rw [this]; simp
  · unfold readyB
    have:decide (r.s.what = 1) = false:=decide_eq_false hw
    rw [this]; simp
end
end Go.Proofs.YtegephkpdlopaaaGreatDoor
set_option linter.unusedVariables false
set_option linter.unusedSimpArgs false
namespace Go.Proofs.YtegephkpdlopaaaGreatDoor
open Go.Sx Go.RowKit
def okP (p0 p1 p2 p3:Int):Prop:=1 <= p0/\p0 <= 1000000000/\1 <= p1/\p1 <= 10/\p0 <= p2/\p2 <= 1000000000/\0 <= p3/\p3 <= 50
def dl (p0 p1 p2:Int):Nat->Int
  | 0 => p0
  | k + 1 => min (dl p0 p1 p2 k * p1) p2
theorem mul_ge {a b:Int} (ha:0 <= a) (hb:1 <= b):a <= a * b:=by
  have:=Int.mul_le_mul_of_nonneg_left hb ha
  omega
theorem mul_le10 {a b:Int} (ha:0 <= a) (hb:b <= 10):a * b <= a * 10:=Int.mul_le_mul_of_nonneg_left hb ha
theorem dl_bounds {p0 p1 p2 p3:Int} (h:okP p0 p1 p2 p3):∀ k,p0 <= dl p0 p1 p2 k/\dl p0 p1 p2 k <= p2
  | 0 => by unfold okP at h; simp only [dl]; omega
  | k + 1 => by
    have ih:=dl_bounds h k
    unfold okP at h
    have:=mul_ge (a:=dl p0 p1 p2 k) (b:=p1) (by omega) (by omega)
    simp only [dl]
    omega
theorem inR_i64 {x:Int} (h:-9223372036854775808 <= x/\x <= 9223372036854775807):InR .i64 x:=h
theorem inR_i64' {x:Int} (h:InR .i64 x):-9223372036854775808 <= x/\x <= 9223372036854775807:=h
theorem rcheck_k (p0 p1 p2 p3:Int) (w:World):FnP Tryz.prog F_retry_Check #[.agg #[.int .i64 p0,.int .i64 p1,.int .i64 p2,.int .i64 p3]] w fun v w'=>Ext w w'/\∃ e,v = .int .i64 e/\(okP p0 p1 p2 p3->e = 0)/\(¬ okP p0 p1 p2 p3->e = 4):=by
  refine ok_retry_Check _ _ _ _ w _ ?_
  intro b0 hb
  refine ⟨fun h w1 he=>⟨he,4,rfl,fun hk=>?_,fun _=>rfl⟩,fun h w1 he=>⟨he,0,rfl,fun _=>rfl,fun hn=>?_⟩⟩ <;> unfold okP at * <;> omega
def errD (p0 p1 p2 p3 n e:Int):Prop:=(¬ okP p0 p1 p2 p3->e = 4)/\(okP p0 p1 p2 p3->(n < 1\/p3 < n)->e = 5)/\(okP p0 p1 p2 p3->(1 <= n/\n <= p3)->e = 0)
theorem delay_k (p0 p1 p2 p3 n:Int) (hn:InR .i64 n) (w:World):FnP Tryz.prog F_retry_Delay #[.agg #[.int .i64 p0,.int .i64 p1,.int .i64 p2,.int .i64 p3],.int .i64 n] w fun v w' =>
    Ext w w'/\∃ a e,v = .tuple #[.int .i64 a,.int .i64 e]/\errD p0 p1 p2 p3 n e/\(e ≠ 0->a = 0)/\(e = 0->a = dl p0 p1 p2 (n - 1).toNat):=by
  refine ok_retry_Delay _ _ _ _ _ w _ ?_
  have hn:=inR_i64' hn
  intro b0 hb w1 h1
  refine (rcheck_k _ _ _ _ w1).mono fun v w2 ⟨h2,e,he,ho,hno⟩=>⟨h2,e,he,fun hne w4 h4=>⟨h4,0,e,rfl,?_,fun _=>rfl,fun h0=>absurd h0 hne⟩,fun he0=>?_⟩
  · have:¬ okP p0 p1 p2 p3:=fun h=>hne (ho h)
    exact ⟨hno,fun h=>absurd h this,fun h=>absurd h this⟩
  · have hok:okP p0 p1 p2 p3:=by
      by_cases h:okP p0 p1 p2 p3
      · exact h
      · have:=hno h; omega
    refine ⟨fun hr w4 h4=>⟨h4,0,5,rfl,⟨fun h=>absurd hok h,fun _ _=>rfl,fun _ h=>by omega⟩,fun _=>rfl,fun h=>by omega⟩,fun hr=>⟨inR_i64 (by omega),?_⟩⟩
    refine ⟨fun d k w'=>Ext w w'/\0 <= k/\k <= n - 1/\d = dl p0 p1 p2 k.toNat,fun d k _=>(n - 1 - k).toNat,⟨Ext.refl w,by omega,by omega,rfl⟩,?_⟩
    rintro d k w7 ⟨hw,hk0,hk1,rfl⟩
    have hd:=dl_bounds hok k.toNat
    have hm1:=mul_le10 (a:=dl p0 p1 p2 k.toNat) (b:=p1) (by unfold okP at hok; omega) (by unfold okP at hok; omega)
    have hm2:=mul_ge (a:=dl p0 p1 p2 k.toNat) (b:=p1) (by unfold okP at hok; omega) (by unfold okP at hok; omega)
    unfold okP at hok
    refine ⟨fun hlt=>⟨inR_i64 (by omega),inR_i64 (by omega),⟨hw,by omega,by omega,?_⟩,by simp only []; omega⟩,fun hge w8 h8=>⟨hw.trans h8,_,0,rfl,⟨fun h=>absurd hok h,fun _ h=>by omega,fun _ _=>rfl⟩,fun h=>absurd rfl h,fun _=>?_⟩⟩
    · rw [show (k + 1).toNat = k.toNat + 1 by omega]; rfl
    · rw [show k = n - 1 by omega]
abbrev okPol (p:Pol):Prop:=okP p.first p.times p.most p.tries
def delayP (p:Pol) (n:Int):Int:=dl p.first p.times p.most (n - 1).toNat
def stF (F:Fm) (k m:Nat) (v:Int):Fm:=setF F k (setS m v (F.jobs.getD k default))
def jobAt (F:Fm) (k:Nat):St:=F.jobs.getD k default
theorem st_len (F:Fm) (k m:Nat) (v:Int):(stF F k m v).jobs.length = F.jobs.length:=by simp [stF,setF]
theorem st_hosts (F:Fm) (k m:Nat) (v:Int):(stF F k m v).hosts = F.hosts:=rfl
theorem st_at (F:Fm) {k m:Nat} (v:Int) (hk:k < F.jobs.length) (i:Nat):jobAt (stF F k m v) i = if i = k then setS m v (jobAt F k) else jobAt F i:=by
  unfold jobAt stF setF
  simp only [List.getD_eq_getElem?_getD,List.getElem?_set]
  by_cases h:k = i
  · subst h; simp [hk]
  · have h':¬ i = k:=fun h2=>h h2.symm
    simp [h,h']
theorem st_jobs (F:Fm) {k m:Nat} (v:Int) (hk:k < F.jobs.length):(stF F k m v).jobs.map (·.job) = F.jobs.map (·.job):=by
  unfold stF setF
  rw [List.map_set,setS_job]
  refine List.ext_getElem? fun i=>?_
  rw [List.getElem?_set]
  by_cases h:k = i
  · subst h
    simp [List.getD_eq_getElem?_getD,hk]
  · simp [h]
theorem aft_same {F G:Fm} (h:G.jobs.map (·.job) = F.jobs.map (·.job)) (ha:aftOk F):aftOk G:=by
  intro i s hs y hy
  have h1:(G.jobs.map (·.job))[i]? = some s.job:=by rw [List.getElem?_map,hs]; rfl
  rw [h,List.getElem?_map] at h1
  obtain ⟨s',hs',e⟩:=Option.map_eq_some_iff.1 h1
  exact ha i s' hs' y (by rw [e]; exact hy)
theorem aft_st {F:Fm} {k m:Nat} {v:Int} (hk:k < F.jobs.length) (ha:aftOk F):aftOk (stF F k m v):=aft_same (st_jobs F v hk) ha
theorem jobAt_some {F:Fm} {k:Nat} (h:k < F.jobs.length):F.jobs[k]? = some (jobAt F k):=by simp [jobAt,List.getD_eq_getElem?_getD,h]
theorem jobAt_of {F:Fm} {k:Nat} {s:St} (h:F.jobs[k]? = some s):jobAt F k = s:=by simp [jobAt,List.getD_eq_getElem?_getD,h]
section
variable {O:Nat->Prop} {B fb:Nat} {w:World} {P:Pl} {F:Fm}
theorem tick_k (x:FXO O B w fb P F) (hn0:0 <= F.now/\F.now <= 1099511627776) (n:Int):FnP Tryz.prog F_farm_Farm_Tick #[.pointer (ptr fb),.int .i64 n] w fun v w'=>∃ e:Int,v = .int .i64 e /\
    ((e ≠ 0/\e = 4/\Ext w w')\/(e = 0/\(0 <= n/\n <= 1000000000/\F.now + n <= 1099511627776)/\FXO O B w' fb P { F with now:=F.now + n }/\Fr (ft fb P.jp) w w'))/\(e = 0 ↔ (0 <= n/\n <= 1000000000/\F.now + n <= 1099511627776)):=by
  have ne:=ptr_ne fb
  refine ok_farm_Farm_Tick (ptr fb) n w _ ⟨fun _=>ne,fun _=>ne,fun h w0 h0=>⟨4,rfl,.inl ⟨by decide,rfl,h0⟩,by omega⟩,fun h=>⟨_,x.cell (i:=5) rfl,i64 (by omega),fun h2 w1 h1=>⟨4,rfl,.inl ⟨by decide,rfl,h1⟩,by omega⟩,fun h2=>⟨ne,ne,_,x.cell (i:=5) rfl,i64 (by omega),ne,ne,?_⟩⟩⟩
  refine store_own (off:=5) x.slot rfl (by simp) (by simp) (by intro u hu; simp at hu; subst hu; rfl) (by simp) fun w2 o2 g2 w3 h3=>?_
  obtain ⟨y,f⟩:=x.slot_to (F':={ F with now:=F.now + n }) (P':=P) o2 g2 rfl rfl rfl rfl (fun w'' k=>x.hs w'' (((fr_grew g2 fun a ha=>by cases ha; exact .inr (.inl rfl))).tr k)) x.hO
  exact ⟨0,rfl,.inr ⟨rfl,⟨h.1,h.2,h2⟩,y.ext h3,f.tr (fr_ext h3)⟩,by omega⟩
def badB (F:Fm) (s:St):Bool:=s.job.aft.any fun y=>decide (whatAt F y = 4) || decide (whatAt F y = 5)
def lostStep (F:Fm) (k:Nat):Fm:=if (jobAt F k).what = 1/\badB F (jobAt F k) = true then stF F k 11 5 else F
def lostTo (F:Fm):Nat->Fm
  | 0 => F
  | n + 1 => lostStep (lostTo F n) n
def lostF (F:Fm):Fm:=lostTo F F.jobs.length
theorem lostStep_len (F:Fm) (k:Nat):(lostStep F k).jobs.length = F.jobs.length:=by unfold lostStep; split <;> simp [st_len]
theorem lostTo_len (F:Fm):∀ n,(lostTo F n).jobs.length = F.jobs.length
  | 0 => rfl
  | n + 1 => by rw [lostTo,lostStep_len,lostTo_len F n]
theorem lostTo_aft {F:Fm} (ha:aftOk F):∀ n,n <= F.jobs.length->aftOk (lostTo F n)
  | 0,_ => ha
  | n + 1,h => by
    have ih:=lostTo_aft ha n (by omega)
    rw [lostTo,lostStep]
    split
    · exact aft_st (by rw [lostTo_len]; omega) ih
    · exact ih
theorem FXO.put (x:FXO O B w fb P F) {k:Int} (h0:0 <= k) (h1:k < F.jobs.length) {m:Nat} (hm:11 <= m/\m <= 15) (v:Int) {ns:List Nat} (hns:∀ b ∈ ns,¬ ft fb P.jp b) {K:World->Prop}
    (hk:∀ w' P',P'.jp = P.jp->FXO O B w' fb P' (stF F k.toNat m v)->Fr (ft fb P.jp) w w'->K w'):Store w (pAdd (pIdx P.jp k 16) m) [.int .i64 v] ns K:=x.set h0 h1 hm v hns fun w' y f=>hk w' (setP P k.toNat (setS m v (F.jobs.getD k.toNat default))) rfl y f
theorem lost_k (x:FXO O B w fb P F) (ha:aftOk F):FnP Tryz.prog F_farm_Farm_lost #[.pointer (ptr fb)] w fun v w'=>v = .tuple #[]/\∃ P',P'.jp = P.jp/\FXO O B w' fb P' (lostF F)/\Fr (ft fb P.jp) w w':=by
  have ne:=ptr_ne fb
  refine ok_farm_Farm_lost (ptr fb) w _ fun w0 e0=>new_own (by simp [Value.oneCell']) fun w1 o1 e1=>?_
  have e01:=e0.trans e1
  have x1:=x.ext e01
  generalize hp1:(some ⟨w0.heap.size,0,none⟩:Option Addr) = p1
  rw [hp1] at o1
  have o1':=o1 w0.heap.size (Nat.le_refl _)
  have c1:Go.Sx.cell w1 p1 0 = some (.pointer (ptr fb)):=o1'.cells 0 _ rfl
  have np:∀ a,p1 = some a->¬ ft fb P.jp a.block:=fun a ha hf=>by
    have:=(x.foot hf).2
    have:=(o1'.lt a ha).1
    have:=e0.size
    omega
  have hl0:=x.jO.1
  refine ⟨_,c1,ne,ne,_,_,_,x1.cell (i:=6) rfl,?_⟩
  rw [x1.len]
  refine ⟨fun k w'=>0 <= k/\k <= F.jobs.length/\Fr (ft fb P.jp) w1 w'/\∃ P',P'.jp = P.jp/\FXO O B w' fb P' (lostTo F k.toNat),fun k _=>(F.jobs.length - k).toNat,⟨by omega,by omega,Fr.refl _ _,P,rfl,x1⟩,?_⟩
  rintro k w8 ⟨hk0,hk1,f8,P',hP,x8⟩
  have ll:=lostTo_len F k.toNat
  refine ⟨fun hlt=>?_,fun hge w9 h9=>⟨rfl,P',hP,?_,((fr_ext e01).tr f8).tr (fr_ext h9)⟩⟩
  · have c8:Go.Sx.cell w8 p1 0 = some (.pointer (ptr fb)):=cell_fr c1 f8 np
    obtain ⟨r,hr,hF,hjp,hne,_,g,hJ,hok,hwf⟩:=x8.st hk0 (by omega)
    have hja:jobAt (lostTo F k.toNat) k.toNat = r.s:=jobAt_of hF
    have nxt:∀ {w},FXO O B w fb P' (lostStep (lostTo F k.toNat) k.toNat)->FXO O B w fb P' (lostTo F (k + 1).toNat):=fun h=>by rw [show (k + 1).toNat = k.toNat + 1 by omega]; exact h
    have same:¬ (r.s.what = 1/\badB (lostTo F k.toNat) r.s = true)->lostTo F (k + 1).toNat = lostTo F k.toNat:=fun h=>by
      rw [show (k + 1).toNat = k.toNat + 1 by omega,lostTo,lostStep,hja,if_neg h]
    refine ⟨_,c8,ne,ne,_,_,_,x8.cell (i:=6) rfl,hjp,hk0,by rw [x8.len]; omega,hne,hne,_,g 11 _ rfl,fun _=>hne,fun _=>hne,fun _=>by rw [pAdd_zero]; exact hne,fun hw=>?_,fun hw=>⟨i64 (by omega),⟨by omega,by omega,f8,P',hP,by rw [same fun h=>hw h.1]; exact x8⟩,by simp only []; omega⟩⟩
    refine ⟨_,_,_,by rw [pAdd_zero]; exact g 10 _ rfl,fun w17 h17=>?_⟩
    have hin:∀ y ∈ r.s.job.aft,1 <= y/\y <= (lostTo F k.toNat).jobs.length:=fun y hy=>by have:=lostTo_aft ha k.toNat (by omega) _ _ hF y hy; omega
    have hlen:=hok.len
    refine (ContainsF_k r.pf r.cf r.s.job.aft (by omega) _ (fun y=>decide (whatAt (lostTo F k.toNat) y = 4) || decide (whatAt (lostTo F k.toNat) y = 5)) w17 (hJ.2.ext h17) fun y hy w' hw'=>⟨F_farm_Farm_lost_1,#[.pointer p1],rfl,lost1_k (x8.ext (h17.trans hw')) (ext_cell (h17.trans hw') c8) (hin y hy)⟩).mono fun v w18 ⟨e18,b,hv,hb⟩=>⟨e18,b,hv,fun hbt=>⟨hne,hne,?_⟩,fun hbf=>⟨i64 (by omega),⟨by omega,by omega,f8,P',hP,?_⟩,by simp only []; omega⟩⟩
    · have hbad:badB (lostTo F k.toNat) r.s = true:=by
        obtain ⟨y,hy,h3⟩:=hb.1 hbt
        exact List.any_eq_true.2 ⟨y,hy,h3⟩
      refine x8.put hk0 (by omega) (by omega) 5 (by simp) fun w20 P'' hP'' x20 f20=>⟨i64 (by omega),⟨by omega,by omega,f8.tr (by rw [hP] at f20; exact f20),P'',hP''.trans hP,?_⟩,by simp only []; omega⟩
      rw [show (k + 1).toNat = k.toNat + 1 by omega,lostTo,lostStep,hja,if_pos ⟨hw,hbad⟩]
      exact x20
    · rw [same fun h=>?_]
      · exact x8
      · obtain ⟨y,hy,h3⟩:=List.any_eq_true.1 h.2
        have:=hb.2 ⟨y,hy,h3⟩
        rw [hbf] at this; cases this
  · have:k.toNat = F.jobs.length:=by omega
    rw [this] at x8
    exact x8.ext h9
def LvOk (F:Fm) (k:Nat):Prop:=okHs F.hosts/\0 <= (jobAt F k).host/\(jobAt F k).host < F.hosts.length/\fitN (jobAt F k).job.nd (F.hosts.getD (jobAt F k).host.toNat default).used
def giveF (F:Fm) (k:Nat):Fm:={ F with hosts:=F.hosts.set (jobAt F k).host.toNat (usedH (F.hosts.getD (jobAt F k).host.toNat default) (subN (F.hosts.getD (jobAt F k).host.toNat default).used (jobAt F k).job.nd)) }
def leaveF (F:Fm) (k:Nat):Fm:=stF (stF (giveF F k) k 12 0) k 13 0
theorem leave_k (x:FXO O B w fb P F) {k:Int} (h0:0 <= k) (h1:k < F.jobs.length) (hv:LvOk F k.toNat):FnP Tryz.prog F_farm_Farm_leave #[.pointer (ptr fb),.pointer (pIdx P.jp k 16)] w fun v w'=>v = .tuple #[]/\∃ P',P'.jp = P.jp/\FXO O B w' fb P' (leaveF F k.toNat)/\Fr (ft fb P.jp) w w':=by
  have ne:=ptr_ne fb
  obtain ⟨r,hr,hF,hjp,hne,_,g,hJ,hok,hwf⟩:=x.st h0 h1
  have hja:jobAt F k.toNat = r.s:=jobAt_of hF
  unfold LvOk at hv
  rw [hja] at hv
  refine ok_farm_Farm_leave (ptr fb) (pIdx P.jp k 16) w _ ⟨ne,ne,_,_,_,x.cell (i:=0) rfl,hne,hne,_,g 12 _ rfl,hne,hne,by rw [pAdd_zero]; exact hne,by rw [pAdd_zero]; exact fun h=>hne (pAdd_none.1 h),_,by rw [pAdd_zero]; exact g 2 _ rfl,_,by rw [pAdd_zero,cell_pAdd]; have:=g 3 _ rfl; rw [cell_pAdd] at this; exact this,_,by rw [pAdd_zero,cell_pAdd]; have:=g 4 _ rfl; rw [cell_pAdd] at this; exact this,fun w7 h7=>?_⟩
  have x7:=x.ext h7
  have hO:=x.hO
  refine (Give_k P.hp P.hc F.hosts (by omega) hO.2 r.s.host r.s.job.nd w7 (x7.hs w7 (Fr.refl _ _))).mono fun v w8 ⟨e8,p',n',c',e,hv',hcase⟩=>⟨e8,p',n',c',e,hv',ne,ne,?_⟩
  rcases hcase with ⟨_,_,hno⟩ | ⟨_,_,_,_,rfl,_,hS⟩
  · exact absurd ⟨hok.nd,hv.2.2.2⟩ (hno hv.1 hv.2.1 hv.2.2.1)
  have x8:=x7.ext e8
  refine store_own (off:=0) x8.slot rfl (by simp) (by simp) (by intro u hu; simp at hu; subst hu; rfl) (by simp) fun w13 o13 g13=>⟨hne,hne,?_⟩
  have hG:giveF F k.toNat = { F with hosts:=F.hosts.set r.s.host.toNat (usedH (F.hosts.getD r.s.host.toNat default) (subN (F.hosts.getD r.s.host.toNat default).used r.s.job.nd)) }:=by unfold giveF; rw [hja]
  have fg:Fr (ft fb P.jp) w8 w13:=fr_grew g13 fun a ha=>by cases ha; exact .inl rfl
  obtain ⟨y,f13⟩:=x8.slot_to (F':=giveF F k.toNat) (P':={ P with hp:=p',hc:=c' }) (by
    rw [hG]
    show Own B w13 T_farm_Farm 7 (ptr fb) 1 1 [.slice p' (F.hosts.set _ _).length c',_,_,_,_,_,_]
    rw [List.length_set]; exact o13) g13 rfl rfl rfl rfl (fun w'' kf=>by
      rw [hG]
      exact hS (ftO O fb P.jp) (fun b hb=>by
        rcases hb with hb | hb
        · exact x7.olt b hb
        · exact (x7.foot hb).2) w'' ((fg.mono fun b hb=>.inr hb).tr kf)) (by
    rw [hG]
    refine ⟨by show (F.hosts.set _ _).length <= 30; rw [List.length_set]; exact hO.1,fun h hh=>?_⟩
    have hh:h ∈ F.hosts.set r.s.host.toNat (usedH (F.hosts.getD r.s.host.toNat default) (subN (F.hosts.getD r.s.host.toNat default).used r.s.job.nd)):=hh
    rcases List.mem_or_eq_of_mem_set hh with hh | rfl
    · exact hO.2 h hh
    · have:=hO.2 _ (getD_mem F.hosts default (i:=r.s.host.toNat) (by omega))
      exact ⟨this.1,this.2.1,this.2.2⟩)
  refine y.put (k:=k) h0 h1 (by omega) 0 (by simp) fun w14 P1 hP1 y14 f14=>⟨hne,hne,?_⟩
  have hP1:P1.jp = P.jp:=hP1
  have:=y14.put (k:=k) (m:=13) h0 (by rw [st_len]; exact h1) (by omega) 0 (ns:=[]) (by simp) (K:=fun w15=>∀ w16,Ext w15 w16->Value.tuple #[] = .tuple #[]/\∃ P',P'.jp = P.jp/\FXO O B w16 fb P' (leaveF F k.toNat)/\Fr (ft fb P.jp) w w16) fun w15 P2 hP2 y15 f15 w16 h16=>⟨rfl,P2,hP2.trans hP1,y15.ext h16,?_⟩
  · rw [hP1] at this; exact this
  · rw [hP1] at f15
    exact (((((fr_ext h7).tr (fr_ext e8)).tr f13).tr f14).tr f15).tr (fr_ext h16)
end
end Go.Proofs.YtegephkpdlopaaaGreatDoor
set_option linter.unusedVariables false
set_option linter.unusedSimpArgs false
namespace Go.Proofs.YtegephkpdlopaaaGreatDoor
open Go.Sx Go.RowKit
def newS (j:Jb):St:=⟨j,1,0,0,0,0⟩
def subF (F:Fm) (j:Jb):Fm:={ F with jobs:=F.jobs ++ [newS j] }
def okSub (F:Fm) (j:Jb):Prop:=okJ j/\F.jobs.length ≠ 60/\∀ y ∈ j.aft,y <= F.jobs.length/\whatAt F y ≠ 4/\whatAt F y ≠ 5
structure Pre (F:Fm):Prop where
  aft:aftOk F
  pol:okPol F.pol
  now:0 <= F.now/\F.now <= 1099511627776
  run:∀ k,k < F.jobs.length->(jobAt F k).what = 2->LvOk F k
  tries:∀ k,k < F.jobs.length->0 <= (jobAt F k).tries/\(jobAt F k).tries <= 100
def grows (w:World) (fb:Nat) (jp jp':Option Addr):Prop:=∀ b,ft fb jp' b->ft fb jp b\/w.heap.size <= b
def inJ (F:Fm) (id:Int):Prop:=1 <= id/\id <= F.jobs.length
def SubE (F:Fm) (j:Jb) (e:Int):Prop:=(errJ j ≠ 0/\e = errJ j)\/(errJ j = 0/\((F.jobs.length = 60/\e = 7)\/(F.jobs.length ≠ 60/\(((∃ y ∈ j.aft,¬ (1 <= y/\y <= F.jobs.length))/\e = 5)\/((∀ y ∈ j.aft,1 <= y/\y <= F.jobs.length) /\
  (((∃ y ∈ j.aft,whatAt F y = 4\/whatAt F y = 5)/\e = 9)\/((∀ y ∈ j.aft,whatAt F y ≠ 4/\whatAt F y ≠ 5)/\e = 0)))))))
theorem SubE.one {F:Fm} {j:Jb} {e f:Int} (h:SubE F j e) (g:SubE F j f):e = f:=by
  rcases h with ⟨h1,rfl⟩ | ⟨h1,h⟩ <;> rcases g with ⟨g1,rfl⟩ | ⟨g1,g⟩
  · rfl
  · exact absurd g1 h1
  · exact absurd h1 g1
  rcases h with ⟨h2,rfl⟩ | ⟨h2,h⟩ <;> rcases g with ⟨g2,rfl⟩ | ⟨g2,g⟩
  · rfl
  · exact absurd h2 g2
  · exact absurd g2 h2
  rcases h with ⟨⟨y,hy,h3⟩,rfl⟩ | ⟨h3,h⟩ <;> rcases g with ⟨⟨z,hz,g3⟩,rfl⟩ | ⟨g3,g⟩
  · rfl
  · exact absurd (g3 y hy) h3
  · exact absurd (h3 z hz) g3
  rcases h with ⟨⟨y,hy,h4⟩,rfl⟩ | ⟨h4,rfl⟩ <;> rcases g with ⟨⟨z,hz,g4⟩,rfl⟩ | ⟨g4,rfl⟩
  · rfl
  · have:=g4 y hy; omega
  · have:=h4 z hz; omega
  · rfl
def RepE (F:Fm) (id e:Int):Prop:=(¬ inJ F id/\e = 5)\/(inJ F id/\e = 9)
theorem RepE.one {F:Fm} {id e f:Int} (h:RepE F id e) (g:RepE F id f):e = f:=by
  rcases h with ⟨h1,rfl⟩ | ⟨h1,rfl⟩ <;> rcases g with ⟨g1,rfl⟩ | ⟨g1,rfl⟩
  · rfl
  · exact absurd g1 h1
  · exact absurd h1 g1
  · rfl
section
variable {O:Nat->Prop} {B fb:Nat} {w:World} {P:Pl} {F:Fm}
theorem submit_k (x:FXO O B w fb P F) (j:Jb) (pa:Option Addr) (ca:Nat) (pf:Option Addr) (cf:Nat) (hJ:IsJ w j pa ca pf) (hW:WfJ j) (hB:B <= w.heap.size) :
    FnP Tryz.prog F_farm_Farm_Submit #[.pointer (ptr fb),jv j pa ca pf cf] w fun v w'=>∃ id e:Int,v = .tuple #[.int .i64 id,.int .i64 e]/\((e = 0 ↔ okSub F j)/\SubE F j e)/\((e ≠ 0/\Ext w w')\/(e = 0/\id = F.jobs.length + 1/\∃ P',FXO O B w' fb P' (subF F j)/\Fr (ft fb P.jp) w w'/\grows w fb P.jp P'.jp)):=by
  have ne:=ptr_ne fb
  have hl0:=x.jO.1
  refine ok_farm_Farm_Submit (ptr fb) j.user j.prio j.nd.c j.nd.m j.nd.g j.ask.k j.ask.key j.ask.val j.ask.n pa j.ask.xs.length ca pf j.aft.length cf w _ fun b0 hb0 w1 h1=>?_
  refine (jErr_k j pa ca pf cf w1 (hJ.ext h1) hW).mono fun v w2 ⟨e2,hv⟩=>⟨e2,errJ j,hv,fun hne w4 h4=>⟨0,errJ j,rfl,⟨⟨fun h=>absurd h hne,fun h=>absurd (errJ_ok.2 h.1) hne⟩,.inl ⟨hne,rfl⟩⟩,.inl ⟨hne,h4⟩⟩,fun hz=>?_⟩
  have hok:=errJ_ok.1 hz
  have hlen:=hok.len
  have hup:=upA_mem hok.up
  refine ⟨ne,ne,_,_,_,x.cell (i:=6) rfl,fun h60 w7 h7=>⟨0,7,rfl,⟨⟨fun h=>(by cases h),fun h=>absurd (by have:=x.len; omega) h.2.1⟩,.inr ⟨hz,.inl ⟨by have:=x.len; omega,rfl⟩⟩⟩,.inl ⟨by decide,h7⟩⟩,fun h60=>?_⟩
  refine ⟨fun k w'=>Ext w w'/\0 <= k/\k <= j.aft.length/\∀ i:Nat,(i:Int) < k->j.aft.getD i 0 <= F.jobs.length,fun k _=>(j.aft.length - k).toNat,⟨Ext.refl _,by omega,by omega,fun i hi=>by omega⟩,?_⟩
  rintro k w9 ⟨x9,hk0,hk1,hrng⟩
  have gmem:∀ {k:Int},0 <= k->k < j.aft.length->j.aft.getD k.toNat 0 ∈ j.aft:=fun h0 h1=>getD_mem j.aft 0 (by omega)
  refine ⟨fun hlt=>?_,fun hge=>?_⟩
  · have g:=Ints.idx (hJ.2.ext x9) hk0 hlt
    have hy:=hup _ (gmem hk0 hlt)
    refine ⟨fun h=>cell_p g (pIdx_none.2 h),hk0,hlt,_,g,fun w11 x11=>?_⟩
    have h11:=x9.trans (extB_ext x11)
    refine (at_k (x.ext h11) _ (i64 (by omega))).mono fun v w12 ⟨e12,hv⟩=>⟨e12,?_⟩
    rcases hv with ⟨hno,rfl⟩ | ⟨_,hin,rfl⟩
    · exact ⟨_,rfl,fun _ w14 h14=>⟨0,5,rfl,⟨⟨fun h=>(by cases h),fun h=>absurd ⟨hy.1,(h.2.2 _ (gmem hk0 hlt)).1⟩ hno⟩,.inr ⟨hz,.inr ⟨by have:=x.len; omega,.inl ⟨⟨_,gmem hk0 hlt,hno⟩,rfl⟩⟩⟩⟩,.inl ⟨by decide,(h11.trans e12).trans h14⟩⟩,fun h=>absurd rfl h⟩
    · obtain ⟨q,hq,hne,_⟩:=at_what x ⟨hy.1,hin⟩ (h11.trans e12)
      refine ⟨_,rfl,fun h=>absurd (hq.symm.trans h) hne,fun _=>⟨i64 (by omega),⟨h11.trans e12,by omega,by omega,fun i hi=>?_⟩,by simp only []; omega⟩⟩
      by_cases hik:(i:Int) < k
      · exact hrng i hik
      · obtain rfl:i = k.toNat:=by omega
        exact hin
  have hall:∀ y ∈ j.aft,y <= F.jobs.length:=fun y hy=>by
    obtain ⟨i,hi,rfl⟩:=List.mem_iff_getElem.1 hy
    have:=hrng i (by omega)
    simpa [List.getD_eq_getElem?_getD,hi] using this
  refine ⟨fun k w'=>Ext w w'/\0 <= k/\k <= j.aft.length/\∀ i:Nat,(i:Int) < k->whatAt F (j.aft.getD i 0) ≠ 4/\whatAt F (j.aft.getD i 0) ≠ 5,fun k _=>(j.aft.length - k).toNat,⟨x9,by omega,by omega,fun i hi=>by omega⟩,?_⟩
  clear hrng hge hk0 hk1
  rintro k w12 ⟨x12,hk0,hk1,hrng⟩
  refine ⟨fun hlt=>?_,fun hge=>?_⟩
  · have g:=Ints.idx (hJ.2.ext x12) hk0 hlt
    have hy:=hup _ (gmem hk0 hlt)
    have hy2:=hall _ (gmem hk0 hlt)
    refine ⟨fun h=>cell_p g (pIdx_none.2 h),hk0,hlt,_,g,fun w14 x14=>?_⟩
    have h14:=x12.trans (extB_ext x14)
    refine (at_k (x.ext h14) _ (i64 (by omega))).mono fun v w15 ⟨e15,hv⟩=>⟨e15,?_⟩
    rcases hv with ⟨hno,_⟩ | ⟨_,hin,rfl⟩
    · exact absurd ⟨hy.1,hy2⟩ hno
    · obtain ⟨q,hq,hne,hg⟩:=at_what x ⟨hy.1,hin⟩ (h14.trans e15)
      refine ⟨_,rfl,by rw [hq]; exact hne,by rw [hq]; exact hne,_,by rw [hq]; exact hg,fun hbad w18 h18=>⟨0,9,rfl,⟨⟨fun h=>(by cases h),fun h=>?_⟩,.inr ⟨hz,.inr ⟨by have:=x.len; omega,.inr ⟨fun y hy=>⟨(hup y hy).1,hall y hy⟩,.inl ⟨⟨_,gmem hk0 hlt,hbad⟩,rfl⟩⟩⟩⟩⟩,.inl ⟨by decide,(h14.trans e15).trans h18⟩⟩,fun hgd=>⟨i64 (by omega),⟨h14.trans e15,by omega,by omega,fun i hi=>?_⟩,by simp only []; omega⟩⟩
      · have:=(h.2.2 _ (gmem hk0 hlt)).2
        rcases hbad with h | h
        · exact absurd h this.1
        · exact absurd h this.2
      · by_cases hik:(i:Int) < k
        · exact hrng i hik
        · obtain rfl:i = k.toNat:=by omega
          exact hgd
  have hall2:∀ y ∈ j.aft,whatAt F y ≠ 4/\whatAt F y ≠ 5:=fun y hy=>by
    obtain ⟨i,hi,rfl⟩:=List.mem_iff_getElem.1 hy
    have:=hrng i (by omega)
    simpa [List.getD_eq_getElem?_getD,hi] using this
  have hoks:okSub F j:=⟨hok,by have:=x.len; omega,fun y hy=>⟨hall y hy,hall2 y hy⟩⟩
  have x12':=x.ext x12
  refine ⟨ne,ne,_,_,_,x12'.cell (i:=6) rfl,fun w16 x16=>?_⟩
  have h16:=x12.trans (extB_ext x16)
  have hE:errA j.ask = 0:=by
    have:=hok.ask
    unfold errC at this
    split at this
    · cases this
    · exact this
  refine (ownS_k ⟨newS j,pa,ca,pf,cf⟩ w16 (hJ.ext h16) hE hok.len).mono fun v w17 ⟨e17,r,hv,hrs,hF⟩=>⟨e17,r.s.job.user,r.s.job.prio,r.s.job.nd.c,r.s.job.nd.m,r.s.job.nd.g,r.s.job.ask.k,r.s.job.ask.key,r.s.job.ask.val,r.s.job.ask.n,r.pa,r.s.job.ask.xs.length,r.ca,r.pf,r.s.job.aft.length,r.cf,r.s.what,r.s.host,r.s.since,r.s.again,r.s.tries,hv,?_⟩
  have h17:=h16.trans e17
  have x17:=x.ext h17
  have hlR:=x.len
  have hn60:F.jobs.length ≠ 60:=hoks.2.1
  have hbj:∀ b ∈ [b0],∀ y,P.jp = some y->y.block ≠ b:=fun b hb y hy=>by simp at hb; subst hb; have:=(x.arr.lt y hy).2; omega
  refine push_B (v:=sv r) elem_sl_State (by omega) x17.arr (Nat.le_trans hB h17.size) hbj rfl (encS_one r) (by omega) (by omega) (by omega) fun p' c' w44 o44 g44 hp' hb44=>⟨ne,ne,?_⟩
  have apF:Apart (ptr fb) P.jp:=fun u y hu hy=>by cases hu; exact fun h=>x.ap y hy h.symm
  have s44:=x17.slot.st apF g44
  have hfb:=(x.slot.lt _ rfl).2
  have apP:∀ a,p' = some a->a.block ≠ fb:=fun a ha he=>by
    rcases g44.new with hn | hn
    · rw [ha] at hn
      cases hj:P.jp with
      | none => rw [hj] at hn; simp [blk] at hn
      | some y => rw [hj] at hn; simp [blk] at hn; exact x.ap y hj (hn ▸ he)
    · have h1:=hn a ha
      have h2:=h17.size
      have h3:fb < w.heap.size:=hfb
      omega
  refine store_own (off:=6) s44 rfl (by simp) (by simp) (by intro u hu; simp at hu; subst hu; rfl) (fun b hb y hy he=>by cases hy; simp at hb; subst hb; have h3:fb < w.heap.size:=hfb; have he:fb = b:=he; omega) fun w48 o48 g48=>?_
  have f48:Fr (ft fb P.jp) w17 w48:=(fr_grew g44 fun a ha=>.inr ⟨a,ha,rfl⟩).tr (fr_grew g48 fun a ha=>by cases ha; exact .inl rfl)
  have hft:∀ b,ft fb p' b->ft fb P.jp b\/w17.heap.size <= b:=fun b hb=>by
    rcases hb with h | ⟨a,ha,rfl⟩
    · exact .inl (.inl h)
    · rcases g44.new with hn | hn
      · left
        rw [ha] at hn
        cases hj:P.jp with
        | none => rw [hj] at hn; simp [blk] at hn
        | some y => rw [hj] at hn; simp [blk] at hn; exact .inr ⟨y,rfl,hn.symm⟩
      · exact .inr (hn a ha)
  have step:∀ {w'' w0:World},Ext w0 w17->Fr (ftO O fb p') w48 w''->Fr (ftO O fb P.jp) w0 w'':=fun h0 kf=>((fr_ext h0).tr (f48.mono fun b hb=>.inr hb)).trans kf fun b hb=>by
    rcases hb with hb | hb
    · exact .inl (.inl hb)
    · rcases hft b hb with h | h
      · exact .inl (.inr h)
      · exact .inr (Nat.le_trans h0.size h)
  have y48:FXO O B w48 fb ⟨P.hp,P.hc,p',c',P.R ++ [r]⟩ (subF F j):=by
    refine ⟨?_,?_,?_,fun w'' kf=>x.hs w'' (step h17 kf),fun r' hr' w'' kf=>?_,apP,x.hO,?_,fun b hb=>by have:=x.olt b hb; have:=h17.size; have:=f48.size; omega,fun b hb hf=>(hft b hf).elim (x.odis b hb) fun h=>by have:=x.olt b hb; have:=h17.size; omega⟩
    · show Own B w48 T_farm_Farm 7 (ptr fb) 1 1 [_,_,_,_,_,_,.slice p' (P.R ++ [r]).length c']
      rw [List.length_append]
      exact o48
    · show Own B w48 T_State 16 p' (P.R ++ [r]).length c' ((P.R ++ [r]).flatMap encS)
      rw [List.length_append,List.flatMap_append]
      have:=o44.st (fun u v hu hv=>by cases hv; exact apP u hu) g48
      simpa [Value.cells] using this
    · show (P.R ++ [r]).map (·.s) = F.jobs ++ [newS j]
      rw [List.map_append,x.map]; simp [hrs]
    · have hr':r' ∈ P.R ++ [r]:=hr'
      rcases List.mem_append.1 hr' with hr' | hr'
      · exact x.js r' hr' w'' (step h17 kf)
      · simp at hr'; subst hr'
        have:=hF (ftO O fb P.jp) (fun b hb=>by
          rcases hb with hb | hb
          · have:=x.olt b hb; have:=h16.size; omega
          · have:=(x.foot hb).2; have:=h16.size; omega) w'' (step (Ext.refl _) kf)
        rw [hrs]
        exact this
    · refine ⟨by show (F.jobs ++ [newS j]).length <= 60; rw [List.length_append]; simp; omega,fun s hs=>?_⟩
      have hs:s ∈ F.jobs ++ [newS j]:=hs
      rcases List.mem_append.1 hs with hs | hs
      · exact x.jO.2 s hs
      · simp at hs; subst hs; exact ⟨hok,hW⟩
  refine ⟨ne,ne,_,_,_,y48.cell (i:=6) rfl,fun w52 h52=>⟨_,0,rfl,⟨⟨fun _=>hoks,fun _=>rfl⟩,.inr ⟨hz,.inr ⟨hn60,.inr ⟨fun y hy=>⟨(hup y hy).1,hall y hy⟩,.inr ⟨hall2,rfl⟩⟩⟩⟩⟩,.inr ⟨rfl,?_,_,y48.ext h52,((fr_ext h17).tr f48).tr (fr_ext h52),fun b hb=>?_⟩⟩⟩
  · simp; omega
  · rcases hft b hb with h | h
    · exact .inl h
    · exact .inr (Nat.le_trans h17.size h)
theorem leave_len (F:Fm) (k:Nat):(leaveF F k).jobs.length = F.jobs.length:=by unfold leaveF; rw [st_len,st_len]; rfl
theorem leave_at {F:Fm} {k:Nat} (hk:k < F.jobs.length) (i:Nat):jobAt (leaveF F k) i = if i = k then { jobAt F k with host:=0,since:=0 } else jobAt F i:=by
  unfold leaveF
  have hk':k < (giveF F k).jobs.length:=hk
  rw [st_at _ _ (by rw [st_len]; exact hk'),st_at _ _ hk',if_pos rfl]
  split
  · rfl
  · rename_i h
    rw [st_at _ _ hk',if_neg h]; rfl
theorem aft_leave {F:Fm} {k:Nat} (hk:k < F.jobs.length) (ha:aftOk F):aftOk (leaveF F k):=by
  unfold leaveF
  have hk':k < (giveF F k).jobs.length:=hk
  exact aft_st (by rw [st_len]; exact hk') (aft_st hk' ha)
def triedF (F:Fm) (k:Nat):Fm:=stF (leaveF F k) k 15 ((jobAt F k).tries + 1)
def repF (F:Fm) (k:Nat) (ok:Bool):Fm :=
  if ok = true then stF (leaveF F k) k 11 3
  else if (jobAt F k).tries + 1 <= F.pol.tries then stF (stF (triedF F k) k 11 1) k 14 (F.now + delayP F.pol ((jobAt F k).tries + 1))
  else lostF (stF (triedF F k) k 11 4)
def canF (F:Fm) (k:Nat):Fm:=lostF (stF (if (jobAt F k).what = 2 then leaveF F k else F) k 11 5)
theorem FXO.at_ (x:FXO O B w fb P F) {id:Int} (h:inJ F id):pIdx P.jp (id - 1) 16 ≠ none/\(∀ (m:Nat) u,(encS ⟨jobAt F (id - 1).toNat,none,0,none,0⟩)[m]? = some u->11 <= m->Go.Sx.cell w (pAdd (pIdx P.jp (id - 1) 16) m) 0 = some u):=by
  obtain ⟨r,hr,hF,_,hne,_,g,_⟩:=x.st (k:=id - 1) (by have:=h.1; omega) (by have:=h.2; omega)
  refine ⟨hne,fun m u hu hm=>g m u ?_⟩
  rw [jobAt_of hF] at hu
  match m,hm with
  | m + 11,_ =>
    rw [<- hu]
    rfl
theorem report_k (x:FXO O B w fb P F) (hp:Pre F) (id:Int) (hid:InR .i64 id) (ok:Bool) :
    FnP Tryz.prog F_farm_Farm_Report #[.pointer (ptr fb),.int .i64 id,.bool ok] w fun v w'=>∃ e:Int,v = .int .i64 e/\(e = 0 ↔ inJ F id/\(jobAt F (id - 1).toNat).what = 2)/\((e ≠ 0/\RepE F id e/\Ext w w')\/(e = 0/\∃ P',P'.jp = P.jp/\FXO O B w' fb P' (repF F (id - 1).toNat ok)/\Fr (ft fb P.jp) w w')):=by
  have ne:=ptr_ne fb
  refine ok_farm_Farm_Report (ptr fb) id ok w _ fun w0 h0=>(at_k (x.ext h0) id hid).mono fun v w1 ⟨e1,hv⟩=>⟨e1,?_⟩
  have h1:=h0.trans e1
  rcases hv with ⟨hno,rfl⟩ | ⟨hi0,hi1,rfl⟩
  · exact ⟨_,rfl,fun _ w3 h3=>⟨5,rfl,⟨fun h=>(by cases h),fun h=>absurd h.1 hno⟩,.inl ⟨by decide,.inl ⟨hno,rfl⟩,h1.trans h3⟩⟩,fun h=>absurd rfl h⟩
  have hin:inJ F id:=⟨hi0,hi1⟩
  have x1:=x.ext h1
  obtain ⟨hne,g⟩:=x1.at_ hin
  have hk:(id - 1).toNat < F.jobs.length:=by omega
  refine ⟨_,rfl,fun h=>absurd h hne,fun _=>⟨hne,hne,_,g 11 _ rfl (by omega),fun hw w4 h4=>⟨9,rfl,⟨fun h=>(by cases h),fun h=>absurd h.2 hw⟩,.inl ⟨by decide,.inr ⟨hin,rfl⟩,h1.trans h4⟩⟩,fun hw w4 h4=>?_⟩⟩
  have hiff:(0:Int) = 0 ↔ inJ F id/\(jobAt F (id - 1).toNat).what = 2:=⟨fun _=>⟨hin,hw⟩,fun _=>rfl⟩
  refine (leave_k (x1.ext h4) (k:=id - 1) (by omega) (by omega) (hp.run _ hk hw)).mono fun v w5 ⟨hv,P1,hP1,y5,f5⟩=>⟨hv,fun hok=>⟨hne,hne,?_⟩,fun hok=>?_⟩
  · have hin5:inJ (leaveF F (id - 1).toNat) id:=⟨hi0,by rw [leave_len]; exact hi1⟩
    have:=y5.put (k:=id - 1) (m:=11) (by omega) (by rw [leave_len]; omega) (by omega) 3 (ns:=[]) (by simp) (K:=fun w6=>∀ w7,Ext w6 w7->∃ e:Int,Value.int .i64 0 = .int .i64 e/\(e = 0 ↔ inJ F id/\(jobAt F (id - 1).toNat).what = 2)/\((e ≠ 0/\RepE F id e/\Ext w w7)\/(e = 0/\∃ P',P'.jp = P.jp/\FXO O B w7 fb P' (repF F (id - 1).toNat ok)/\Fr (ft fb P.jp) w w7))) fun w6 P2 hP2 y6 f6 w7 h7=>⟨0,rfl,hiff,.inr ⟨rfl,P2,hP2.trans hP1,?_,?_⟩⟩
    · rw [hP1] at this; exact this
    · unfold repF; rw [if_pos hok]; exact y6.ext h7
    · rw [hP1] at f6
      exact ((((fr_ext h1).tr (fr_ext h4)).tr f5).tr f6).tr (fr_ext h7)
  have hkl:(id - 1).toNat < (leaveF F (id - 1).toNat).jobs.length:=by rw [leave_len]; exact hk
  have hin5:inJ (leaveF F (id - 1).toNat) id:=⟨hi0,by rw [leave_len]; exact hi1⟩
  obtain ⟨_,g5⟩:=y5.at_ hin5
  rw [hP1,leave_at hk,if_pos rfl] at g5
  have htr:=hp.tries _ hk
  refine ⟨hne,hne,_,g5 15 _ rfl (by omega),i64 (by simp only []; omega),hne,hne,?_⟩
  have goal:∀ {w7:World} {P2:Pl},P2.jp = P.jp->FXO O B w7 fb P2 (triedF F (id - 1).toNat)->Fr (ft fb P.jp) w w7->(ptr fb ≠ none/\ptr fb ≠ none/\(pAdd (ptr fb) 1) ≠ none /\
      ∃ t8:Int,Go.Sx.cell w7 (pAdd (ptr fb) 1) 0 = some (.int .i64 t8)/\∃ t9:Int,Go.Sx.cell w7 (pAdd (ptr fb) 1) 1 = some (.int .i64 t9)/\∃ t10:Int,Go.Sx.cell w7 (pAdd (ptr fb) 1) 2 = some (.int .i64 t10)/\∃ t11:Int,Go.Sx.cell w7 (pAdd (ptr fb) 1) 3 = some (.int .i64 t11) /\
      (pIdx P.jp (id - 1) 16) ≠ none/\(pIdx P.jp (id - 1) 16) ≠ none/\∃ t12:Int,Go.Sx.cell w7 (pAdd (pIdx P.jp (id - 1) 16) 15) 0 = some (.int .i64 t12) /\
      ∀ w13,Ext w7 w13->FnP Tryz.prog F_retry_Delay #[(.agg #[(.int .i64 t8),(.int .i64 t9),(.int .i64 t10),(.int .i64 t11)]),(.int .i64 t12)] w13 fun v14 w14=>Ext w13 w14/\∃ t15:Int,∃ t16:Int,v14 = (.tuple #[(.int .i64 t15),(.int .i64 t16)]) /\
        (((t16 ≠ 0)->(pIdx P.jp (id - 1) 16) ≠ none/\(pIdx P.jp (id - 1) 16) ≠ none/\Store w7 (pAdd (pIdx P.jp (id - 1) 16) 11) [(.int .i64 4)] [] fun w17=>∀ w18,Ext w17 w18 ->
           FnP Tryz.prog F_farm_Farm_lost #[(.pointer (ptr fb))] w18 fun v19 w19=>v19 = (.tuple #[])/\∀ w20,Ext w19 w20->∃ e:Int,Value.int .i64 0 = .int .i64 e/\(e = 0 ↔ inJ F id/\(jobAt F (id - 1).toNat).what = 2)/\((e ≠ 0/\RepE F id e/\Ext w w20)\/(e = 0/\∃ P',P'.jp = P.jp/\FXO O B w20 fb P' (repF F (id - 1).toNat ok)/\Fr (ft fb P.jp) w w20)))) /\
        ((t16 = 0)->ptr fb ≠ none/\ptr fb ≠ none/\∃ t17:Int,Go.Sx.cell w7 (pAdd (ptr fb) 5) 0 = some (.int .i64 t17)/\InR .i64 (t17 + t15)/\(pIdx P.jp (id - 1) 16) ≠ none/\(pIdx P.jp (id - 1) 16) ≠ none /\
          Store w7 (pAdd (pIdx P.jp (id - 1) 16) 11) [(.int .i64 1)] [] fun w18=>(pIdx P.jp (id - 1) 16) ≠ none/\(pIdx P.jp (id - 1) 16) ≠ none/\Store w18 (pAdd (pIdx P.jp (id - 1) 16) 14) [(.int .i64 (t17 + t15))] [] fun w19=>∀ w20,Ext w19 w20 ->
            ∃ e:Int,Value.int .i64 0 = .int .i64 e/\(e = 0 ↔ inJ F id/\(jobAt F (id - 1).toNat).what = 2)/\((e ≠ 0/\RepE F id e/\Ext w w20)\/(e = 0/\∃ P',P'.jp = P.jp/\FXO O B w20 fb P' (repF F (id - 1).toNat ok)/\Fr (ft fb P.jp) w w20)))):=by
    intro w7 P2 hP2 y7 f7
    have hin7:inJ (triedF F (id - 1).toNat) id:=⟨hi0,by unfold triedF; rw [st_len,leave_len]; exact hi1⟩
    obtain ⟨_,g7⟩:=y7.at_ hin7
    have hat7:jobAt (triedF F (id - 1).toNat) (id - 1).toNat = { jobAt F (id - 1).toNat with host:=0,since:=0,tries:=(jobAt F (id - 1).toNat).tries + 1 }:=by
      unfold triedF
      rw [st_at _ _ hkl,if_pos rfl,leave_at hk,if_pos rfl]; rfl
    rw [hP2,hat7] at g7
    have hlt:(triedF F (id - 1).toNat).jobs.length = F.jobs.length:=by unfold triedF; rw [st_len,leave_len]
    have hpl:(triedF F (id - 1).toNat).pol = F.pol:=rfl
    have hnw:(triedF F (id - 1).toNat).now = F.now:=rfl
    have pc:∀ (i:Nat) (v:Value),(fcs P2 (triedF F (id - 1).toNat))[1 + i]? = some v->Go.Sx.cell w7 (pAdd (ptr fb) 1) i = some v:=fun i v hv=>by
      have:=y7.cell hv
      rw [cell_pAdd] at this ⊢
      exact this
    have hdly:1 <= (jobAt F (id - 1).toNat).tries + 1:=by omega
    refine ⟨ne,ne,(fun h=>ne (pAdd_none.1 h)),_,pc 0 _ rfl,_,pc 1 _ rfl,_,pc 2 _ rfl,_,pc 3 _ rfl,hne,hne,_,g7 15 _ rfl (by omega),fun w13 h13=>?_⟩
    refine (delay_k F.pol.first F.pol.times F.pol.most F.pol.tries _ (i64 (by simp only []; omega)) w13).mono fun v w14 ⟨e14,d,e,hv,herr,_,hd⟩=>⟨e14,d,e,hv,fun hne'=>⟨hne,hne,?_⟩,fun hz=>⟨ne,ne,_,y7.cell (i:=5) rfl,?_,hne,hne,?_⟩⟩
    · have hgt:¬ (jobAt F (id - 1).toNat).tries + 1 <= F.pol.tries:=fun h=>hne' (herr.2.2 hp.pol ⟨hdly,h⟩)
      have:=y7.put (k:=id - 1) (m:=11) (by omega) (by rw [hlt]; omega) (by omega) 4 (ns:=[]) (by simp) (K:=fun w17=>∀ w18,Ext w17 w18 ->
           FnP Tryz.prog F_farm_Farm_lost #[(.pointer (ptr fb))] w18 fun v19 w19=>v19 = (.tuple #[])/\∀ w20,Ext w19 w20->∃ e:Int,Value.int .i64 0 = .int .i64 e/\(e = 0 ↔ inJ F id/\(jobAt F (id - 1).toNat).what = 2)/\((e ≠ 0/\RepE F id e/\Ext w w20)\/(e = 0/\∃ P',P'.jp = P.jp/\FXO O B w20 fb P' (repF F (id - 1).toNat ok)/\Fr (ft fb P.jp) w w20))) fun w17 P3 hP3 y17 f17 w18 h18=>(lost_k (y17.ext h18) (aft_st (by rw [hlt]; exact hk) (aft_st hkl (aft_leave hk hp.aft)))).mono fun v w19 ⟨hv,P4,hP4,y19,f19⟩=>⟨hv,fun w20 h20=>⟨0,rfl,hiff,.inr ⟨rfl,P4,hP4.trans (hP3.trans hP2),?_,?_⟩⟩⟩
      · rw [hP2] at this; exact this
      · unfold repF; rw [if_neg (by rw [hok]; simp),if_neg hgt]; exact y19.ext h20
      · rw [hP3,hP2] at f19
        rw [hP2] at f17
        exact (((f7.tr f17).tr (fr_ext h18)).tr f19).tr (fr_ext h20)
    · have hle:(jobAt F (id - 1).toNat).tries + 1 <= F.pol.tries:=by
        by_cases h:(jobAt F (id - 1).toNat).tries + 1 <= F.pol.tries
        · exact h
        · have:=herr.2.1 hp.pol (.inr (by simp only []; omega)); omega
      have hdb:=dl_bounds hp.pol ((jobAt F (id - 1).toNat).tries + 1 - 1).toNat
      have hd':d = dl F.pol.first F.pol.times F.pol.most ((jobAt F (id - 1).toNat).tries + 1 - 1).toNat:=hd hz
      have hpp:=hp.pol
      have hnn:=hp.now
      unfold okPol okP at hpp
      rw [hnw]
      exact i64 (by omega)
    · have hle:(jobAt F (id - 1).toNat).tries + 1 <= F.pol.tries:=by
        by_cases h:(jobAt F (id - 1).toNat).tries + 1 <= F.pol.tries
        · exact h
        · have:=herr.2.1 hp.pol (.inr (by simp only []; omega)); omega
      have hd':d = delayP F.pol ((jobAt F (id - 1).toNat).tries + 1):=hd hz
      have:=y7.put (k:=id - 1) (m:=11) (by omega) (by rw [hlt]; omega) (by omega) 1 (ns:=[]) (by simp) (K:=fun w18=>(pIdx P.jp (id - 1) 16) ≠ none/\(pIdx P.jp (id - 1) 16) ≠ none/\Store w18 (pAdd (pIdx P.jp (id - 1) 16) 14) [(.int .i64 (F.now + d))] [] fun w19=>∀ w20,Ext w19 w20 ->
            ∃ e:Int,Value.int .i64 0 = .int .i64 e/\(e = 0 ↔ inJ F id/\(jobAt F (id - 1).toNat).what = 2)/\((e ≠ 0/\RepE F id e/\Ext w w20)\/(e = 0/\∃ P',P'.jp = P.jp/\FXO O B w20 fb P' (repF F (id - 1).toNat ok)/\Fr (ft fb P.jp) w w20))) fun w18 P3 hP3 y18 f18=>⟨hne,hne,?_⟩
      · rw [hP2] at this; exact this
      have hP3:=hP3.trans hP2
      have:=y18.put (k:=id - 1) (m:=14) (by omega) (by rw [st_len,hlt]; omega) (by omega) (F.now + d) (ns:=[]) (by simp) (K:=fun w19=>∀ w20,Ext w19 w20 ->
            ∃ e:Int,Value.int .i64 0 = .int .i64 e/\(e = 0 ↔ inJ F id/\(jobAt F (id - 1).toNat).what = 2)/\((e ≠ 0/\RepE F id e/\Ext w w20)\/(e = 0/\∃ P',P'.jp = P.jp/\FXO O B w20 fb P' (repF F (id - 1).toNat ok)/\Fr (ft fb P.jp) w w20))) fun w19 P4 hP4 y19 f19 w20 h20=>⟨0,rfl,hiff,.inr ⟨rfl,P4,hP4.trans hP3,?_,?_⟩⟩
      · rw [hP3] at this; exact this
      · unfold repF; rw [if_neg (by rw [hok]; simp),if_pos hle,<- hd']; exact y19.ext h20
      · rw [hP3] at f19
        rw [hP2] at f18
        exact ((f7.tr f18).tr f19).tr (fr_ext h20)
  have:=y5.put (k:=id - 1) (m:=15) (by omega) (by rw [leave_len]; omega) (by omega) ((jobAt F (id - 1).toNat).tries + 1) (ns:=[]) (by simp) fun w7 P2 hP2 y7 f7=>goal (hP2.trans hP1) y7 (by
    rw [hP1] at f7
    exact (((fr_ext h1).tr (fr_ext h4)).tr f5).tr f7)
  rw [hP1] at this
  exact this
theorem cancel_k (x:FXO O B w fb P F) (hp:Pre F) (id:Int) (hid:InR .i64 id) :
    FnP Tryz.prog F_farm_Farm_Cancel #[.pointer (ptr fb),.int .i64 id] w fun v w'=>∃ e:Int,v = .int .i64 e/\(e = 0 ↔ inJ F id/\((jobAt F (id - 1).toNat).what = 1\/(jobAt F (id - 1).toNat).what = 2))/\((e ≠ 0/\RepE F id e/\Ext w w')\/(e = 0/\∃ P',P'.jp = P.jp/\FXO O B w' fb P' (canF F (id - 1).toNat)/\Fr (ft fb P.jp) w w')):=by
  have ne:=ptr_ne fb
  refine ok_farm_Farm_Cancel (ptr fb) id w _ fun w0 h0=>(at_k (x.ext h0) id hid).mono fun v w1 ⟨e1,hv⟩=>⟨e1,?_⟩
  have h1:=h0.trans e1
  rcases hv with ⟨hno,rfl⟩ | ⟨hi0,hi1,rfl⟩
  · exact ⟨_,rfl,fun _ w3 h3=>⟨5,rfl,⟨fun h=>(by cases h),fun h=>absurd h.1 hno⟩,.inl ⟨by decide,.inl ⟨hno,rfl⟩,h1.trans h3⟩⟩,fun h=>absurd rfl h⟩
  have hin:inJ F id:=⟨hi0,hi1⟩
  have x1:=x.ext h1
  obtain ⟨hne,g⟩:=x1.at_ hin
  have hk:(id - 1).toNat < F.jobs.length:=by omega
  have g11:=g 11 _ rfl (by omega)
  have fin:∀ {w6:World} {P1:Pl} {G:Fm},P1.jp = P.jp->FXO O B w6 fb P1 G->G.jobs.length = F.jobs.length->aftOk G->Fr (ft fb P.jp) w w6->canF F (id - 1).toNat = lostF (stF G (id - 1).toNat 11 5)->((jobAt F (id - 1).toNat).what = 1\/(jobAt F (id - 1).toNat).what = 2) ->
      Store w6 (pAdd (pIdx P.jp (id - 1) 16) 11) [(.int .i64 5)] [] fun w7=>∀ w8,Ext w7 w8->FnP Tryz.prog F_farm_Farm_lost #[(.pointer (ptr fb))] w8 fun v9 w9=>v9 = (.tuple #[])/\∀ w10,Ext w9 w10 ->
        ∃ e:Int,Value.int .i64 0 = .int .i64 e/\(e = 0 ↔ inJ F id/\((jobAt F (id - 1).toNat).what = 1\/(jobAt F (id - 1).toNat).what = 2))/\((e ≠ 0/\RepE F id e/\Ext w w10)\/(e = 0/\∃ P',P'.jp = P.jp/\FXO O B w10 fb P' (canF F (id - 1).toNat)/\Fr (ft fb P.jp) w w10)):=by
    intro w6 P1 G hP1 y6 hGl hGa f6 hc hw
    have:=y6.put (k:=id - 1) (m:=11) (by omega) (by omega) (by omega) 5 (ns:=[]) (by simp) (K:=fun w7=>∀ w8,Ext w7 w8->FnP Tryz.prog F_farm_Farm_lost #[(.pointer (ptr fb))] w8 fun v9 w9=>v9 = (.tuple #[])/\∀ w10,Ext w9 w10 ->
        ∃ e:Int,Value.int .i64 0 = .int .i64 e/\(e = 0 ↔ inJ F id/\((jobAt F (id - 1).toNat).what = 1\/(jobAt F (id - 1).toNat).what = 2))/\((e ≠ 0/\RepE F id e/\Ext w w10)\/(e = 0/\∃ P',P'.jp = P.jp/\FXO O B w10 fb P' (canF F (id - 1).toNat)/\Fr (ft fb P.jp) w w10))) fun w7 P2 hP2 y7 f7 w8 h8=>(lost_k (y7.ext h8) (aft_st (by omega) hGa)).mono fun v w9 ⟨hv,P3,hP3,y9,f9⟩=>⟨hv,fun w10 h10=>⟨0,rfl,⟨fun _=>⟨hin,hw⟩,fun _=>rfl⟩,.inr ⟨rfl,P3,hP3.trans (hP2.trans hP1),?_,?_⟩⟩⟩
    · rw [hP1] at this; exact this
    · rw [hc]; exact y9.ext h10
    · rw [hP2,hP1] at f9
      rw [hP1] at f7
      exact (((f6.tr f7).tr (fr_ext h8)).tr f9).tr (fr_ext h10)
  refine ⟨_,rfl,fun h=>absurd h hne,fun _=>⟨hne,hne,_,g11,fun _=>hne,fun _=>hne,fun hw1=>⟨_,g11,fun hw2 w5 h5=>⟨9,rfl,⟨fun h=>(by cases h),fun h=>(h.2.elim (fun h=>hw1 h) (fun h=>hw2 h)).elim⟩,.inl ⟨by decide,.inr ⟨hin,rfl⟩,h1.trans h5⟩⟩,fun hw2=>⟨hne,hne,_,g11,fun _ w6 h6=>?_,fun h=>absurd hw2 h⟩⟩,fun hw1=>⟨hne,hne,_,g11,fun h=>by omega,fun hw2=>⟨hne,hne,?_⟩⟩⟩⟩
  · refine (leave_k (x1.ext h6) (k:=id - 1) (by omega) (by omega) (hp.run _ hk hw2)).mono fun v w7 ⟨hv,P1,hP1,y7,f7⟩=>⟨hv,hne,hne,?_⟩
    exact fin hP1 y7 (leave_len _ _) (aft_leave hk hp.aft) (((fr_ext h1).tr (fr_ext h6)).tr f7) (by unfold canF; rw [if_pos hw2]) (.inr hw2)
  · exact fin rfl x1 rfl hp.aft (fr_ext h1) (by unfold canF; rw [if_neg hw2]) (.inl hw1)
end
end Go.Proofs.YtegephkpdlopaaaGreatDoor
set_option linter.unusedVariables false
set_option linter.unusedSimpArgs false
namespace Go.Proofs.YtegephkpdlopaaaGreatDoor
open Go.Sx Go.RowKit
def prioAt (F:Fm) (id:Int):Int:=(jobAt F (id - 1).toNat).job.prio
def before (F:Fm) (a b:Int):Prop:=prioAt F b < prioAt F a\/prioAt F a = prioAt F b/\a < b
def rdyTo (F:Fm):Nat->List Int
  | 0 => []
  | k + 1 => if readyB F (jobAt F k) = true then rdyTo F k ++ [(k:Int) + 1] else rdyTo F k
abbrev rdy (F:Fm):List Int:=rdyTo F F.jobs.length
theorem mem_rdyTo {F:Fm} {x:Int}:∀ {k:Nat},x ∈ rdyTo F k ↔ 1 <= x/\x <= k/\readyB F (jobAt F (x - 1).toNat) = true
  | 0 => by simp [rdyTo]; omega
  | k + 1 => by
    have ih:=mem_rdyTo (F:=F) (x:=x) (k:=k)
    unfold rdyTo
    split
    · rename_i h
      rw [List.mem_append,ih]
      constructor
      · rintro (⟨h1,h2,h3⟩ | h1)
        · exact ⟨h1,by omega,h3⟩
        · simp at h1; subst h1
          exact ⟨by omega,by omega,by rw [show ((k:Int) + 1 - 1).toNat = k by omega]; exact h⟩
      · rintro ⟨h1,h2,h3⟩
        by_cases h4:x <= k
        · exact .inl ⟨h1,h4,h3⟩
        · exact .inr (by simp; omega)
    · rename_i h
      rw [ih]
      constructor
      · rintro ⟨h1,h2,h3⟩; exact ⟨h1,by omega,h3⟩
      · rintro ⟨h1,h2,h3⟩
        refine ⟨h1,?_,h3⟩
        by_cases h4:x <= k
        · exact h4
        · have:(x - 1).toNat = k:=by omega
          rw [this] at h3
          exact absurd h3 h
theorem rdyTo_nodup (F:Fm):∀ k,(rdyTo F k).Nodup
  | 0 => by simp [rdyTo]
  | k + 1 => by
    unfold rdyTo
    split
    · refine List.nodup_append.2 ⟨rdyTo_nodup F k,by simp,fun a ha b hb=>?_⟩
      simp at hb; subst hb
      have:=(mem_rdyTo.1 ha).2.1
      omega
    · exact rdyTo_nodup F k
theorem rdyTo_len (F:Fm):∀ k,(rdyTo F k).length <= k
  | 0 => by simp [rdyTo]
  | k + 1 => by
    have:=rdyTo_len F k
    unfold rdyTo
    split
    · rw [List.length_append]; simp; omega
    · omega
def hostAt (F:Fm) (k:Int):Ht:=F.hosts.getD k.toNat default
def takeF (G:Fm) (k0:Nat) (k:Int):Fm:={ G with hosts:=G.hosts.set k.toNat (usedH (hostAt G k) (addN (hostAt G k).used (jobAt G k0).job.nd)) }
def runF (G:Fm) (k0:Nat) (k:Int):Fm:=stF (stF (stF (takeF G k0 k) k0 11 2) k0 12 k) k0 13 G.now
theorem run_len (G:Fm) (k0:Nat) (k:Int):(runF G k0 k).jobs.length = G.jobs.length:=by unfold runF; rw [st_len,st_len,st_len]; rfl
theorem run_at {G:Fm} {k0:Nat} (hk:k0 < G.jobs.length) (k:Int) (i:Nat):jobAt (runF G k0 k) i = if i = k0 then { jobAt G k0 with what:=2,host:=k,since:=G.now } else jobAt G i:=by
  unfold runF
  have hk':k0 < (takeF G k0 k).jobs.length:=hk
  rw [st_at _ _ (by rw [st_len,st_len]; exact hk'),st_at _ _ (by rw [st_len]; exact hk'),st_at _ _ hk',if_pos rfl,if_pos rfl]
  split
  · rfl
  · rename_i h
    rw [st_at _ _ (by rw [st_len]; exact hk'),if_neg h,st_at _ _ hk',if_neg h]; rfl
theorem run_jobs {G:Fm} {k0:Nat} (hk:k0 < G.jobs.length) (k:Int):(runF G k0 k).jobs.map (·.job) = G.jobs.map (·.job):=by
  unfold runF
  have hk':k0 < (takeF G k0 k).jobs.length:=hk
  rw [st_jobs _ _ (by rw [st_len,st_len]; exact hk'),st_jobs _ _ (by rw [st_len]; exact hk'),st_jobs _ _ hk']; rfl
theorem okN_add {a b c:Nd} (ha:okN a) (hb:okN b) (hc:okN c) (h:fitN a (subN c b)):okN (addN b a)/\fitN (addN b a) c:=by
  unfold okN fitN subN addN at *
  simp only at *
  omega
theorem okHs_used {L:List Ht} {i:Nat} (h:okHs L) (hi:i < L.length) {s:Nd} (h1:okN s) (h2:fitN s (L.getD i default).has):okHs (L.set i (usedH (L.getD i default) s)):=by
  have hm:=getD_mem L default (i:=i) hi
  refine ⟨by rw [List.length_set]; exact h.1,fun x hx=>?_,?_⟩
  · rcases List.mem_or_eq_of_mem_set hx with hx | rfl
    · exact h.2.1 x hx
    · obtain ⟨a,b,c,d,_,_⟩:=h.2.1 _ hm
      exact ⟨a,b,c,d,h1,h2⟩
  · have:(L.set i (usedH (L.getD i default) s)).map (·.name) = L.map (·.name):=by
      rw [List.map_set]
      refine List.ext_getElem? fun j=>?_
      rw [List.getElem?_set]
      by_cases hj:i = j
      · subst hj
        simp [List.getD_eq_getElem?_getD,hi,usedH]
      · simp [hj]
    rw [this]
    exact h.2.2
theorem okHs_take {G:Fm} {k0:Nat} {k:Int} (h:okHs G.hosts) (h0:0 <= k) (h1:k < G.hosts.length) (ha:okN (jobAt G k0).job.nd) (hf:fitN (jobAt G k0).job.nd (subN (hostAt G k).has (hostAt G k).used)):okHs (takeF G k0 k).hosts:=by
  have hm:=getD_mem G.hosts default (i:=k.toNat) (by omega)
  obtain ⟨_,_,_,c,d,_⟩:=h.2.1 _ hm
  obtain ⟨a1,a2⟩:=okN_add ha d c hf
  exact okHs_used h (by omega) a1 a2
abbrev fitsJ (G:Fm) (id:Int):List Int:=fitsTo G.hosts (jobAt G (id - 1).toNat).job.ask (jobAt G (id - 1).toNat).job.nd G.hosts.length
inductive PRun:Fm->List Int->Fm->List (Int × Int)->Prop
  | nil (F:Fm):PRun F [] F []
  | skip {F F':Fm} {id:Int} {ids:List Int} {out:List (Int × Int)}:fitsJ F id = []->PRun F ids F' out->PRun F (id :: ids) F' out
  | run {F F':Fm} {id k:Int} {ids:List Int} {out:List (Int × Int)}:BestIs F.hosts (jobAt F (id - 1).toNat).job.ask (jobAt F (id - 1).toNat).job.nd k->PRun (runF F (id - 1).toNat k) ids F' out->PRun F (id :: ids) F' ((id,k) :: out)
theorem PRun.snoc_skip {F F':Fm} {id:Int} {ids:List Int} {out:List (Int × Int)} (h:PRun F ids F' out) (hs:fitsJ F' id = []):PRun F (ids ++ [id]) F' out:=by
  induction h with
  | nil F => exact .skip hs (.nil F)
  | skip h1 _ ih => exact .skip h1 (ih hs)
  | run h1 _ ih => exact .run h1 (ih hs)
theorem PRun.snoc_run {F F':Fm} {id k:Int} {ids:List Int} {out:List (Int × Int)} (h:PRun F ids F' out) (hs:BestIs F'.hosts (jobAt F' (id - 1).toNat).job.ask (jobAt F' (id - 1).toNat).job.nd k):PRun F (ids ++ [id]) (runF F' (id - 1).toNat k) (out ++ [(id,k)]):=by
  induction h with
  | nil F => exact .run hs (.nil _)
  | skip h1 _ ih => exact .skip h1 (ih hs)
  | run h1 _ ih => exact .run h1 (ih hs)
theorem PRun.one {F F1:Fm} {ids:List Int} {o1:List (Int × Int)} (h:PRun F ids F1 o1):∀ {F2:Fm} {o2:List (Int × Int)},PRun F ids F2 o2->F1 = F2/\o1 = o2:=by
  induction h with
  | nil F => intro F2 o2 g; cases g; exact ⟨rfl,rfl⟩
  | skip h1 _ ih =>
    intro F2 o2 g
    cases g with
    | skip _ g2 => exact ih g2
    | run g1 _ => have:=g1.1; unfold fitsJ at h1; rw [h1] at this; cases this
  | run h1 _ ih =>
    intro F2 o2 g
    cases g with
    | skip g1 _ => have:=h1.1; unfold fitsJ at g1; rw [g1] at this; cases this
    | run g1 g2 =>
      obtain rfl:=best_one h1 g1
      obtain ⟨rfl,rfl⟩:=ih g2
      exact ⟨rfl,rfl⟩
def IsOrd (F:Fm) (T:List Int):Prop:=T.Perm (rdy F)/\T.Pairwise (before F)
theorem before_asymm {F:Fm} {a b:Int} (h:before F a b):¬ before F b a:=by unfold before at *; omega
theorem ord_one {F:Fm}:∀ {T U:List Int},T.Perm U->T.Pairwise (before F)->U.Pairwise (before F)->T = U
  | [],U,hp,_,_ => by have:=hp.length_eq; simp at this; exact (List.eq_nil_of_length_eq_zero this.symm).symm
  | t :: T,[],hp,_,_ => by have:=hp.length_eq; simp at this
  | t :: T,u :: U,hp,h1,h2 => by
    rw [List.pairwise_cons] at h1 h2
    have htu:t = u:=by
      rcases List.mem_cons.1 (hp.mem_iff.1 (List.mem_cons_self ..)) with h | h
      · exact h
      rcases List.mem_cons.1 (hp.mem_iff.2 (List.mem_cons_self ..)) with g | g
      · exact g.symm
      exact absurd (h1.1 u g) (before_asymm (h2.1 t h))
    subst htu
    rw [ord_one (List.Perm.cons_inv hp) h1.2 h2.2]
def Planned (F G:Fm) (out:List (Int × Int)):Prop:=∃ T,IsOrd F T/\PRun F T G out
theorem planned_one {F G1 G2:Fm} {o1 o2:List (Int × Int)} (h:Planned F G1 o1) (g:Planned F G2 o2):G1 = G2/\o1 = o2:=by
  obtain ⟨T,⟨a1,a2⟩,a3⟩:=h
  obtain ⟨U,⟨b1,b2⟩,b3⟩:=g
  obtain rfl:=ord_one (a1.trans b1.symm) a2 b2
  exact a3.one b3
end Go.Proofs.YtegephkpdlopaaaGreatDoor
set_option linter.unusedVariables false
set_option linter.unusedSimpArgs false
namespace Go.Proofs.YtegephkpdlopaaaGreatDoor
open Go.Sx Go.RowKit
def encO (x:Int × Int):List Value:=[.int .i64 x.1,.int .i64 x.2]
structure QS (n:Nat) (Sq:Nat->Prop) (F:Fm) (qb:Nat) (w':World) (H:List Th):Prop where
  ex:∃ mb born p c m,QQ n w' qb mb born p c H m/\Rel H m/\∀ b,FootQ mb qb p H b->Sq b
  ids:Ids H
  pr:∀ t ∈ H,t.prio = prioAt F t.id
  bo:∀ t ∈ H,∀ u ∈ H,t.id < u.id->t.born < u.born
theorem QS.ext {n:Nat} {Sq:Nat->Prop} {F:Fm} {qb:Nat} {w w':World} {H:List Th} (q:QS n Sq F qb w H) (e:Ext w w'):QS n Sq F qb w' H:=by
  obtain ⟨mb,born,p,c,m,h1,h2,h3⟩:=q.ex
  exact ⟨⟨mb,born,p,c,m,h1.ext e,h2,h3⟩,q.ids,q.pr,q.bo⟩
theorem QS.fr {n:Nat} {Sq S:Nat->Prop} {F:Fm} {qb:Nat} {w w':World} {H:List Th} (q:QS n Sq F qb w H) (f:Fr S w w') (hS:∀ b,Sq b->¬ S b):QS n Sq F qb w' H:=by
  obtain ⟨mb,born,p,c,m,h1,h2,h3⟩:=q.ex
  exact ⟨⟨mb,born,p,c,m,h1.fr f fun b hb=>hS b (h3 b hb),h2,h3⟩,q.ids,q.pr,q.bo⟩
def qlen (qb:Nat) (w:World):Nat:=match Go.Sx.cell w (ptr qb) 0 with | some (.slice _ n _)=>n | _=>0
theorem QS.len {n:Nat} {Sq:Nat->Prop} {F:Fm} {qb:Nat} {w:World} {H:List Th} (q:QS n Sq F qb w H):qlen qb w = H.length:=by
  obtain ⟨mb,born,p,c,m,h1,_⟩:=q.ex
  have:Go.Sx.cell w (ptr qb) 0 = some (.slice p H.length c):=h1.qi.slot.cells 0 _ rfl
  unfold qlen; rw [this]
def OQ (O Sq:Nat->Prop) (out:Option Addr) (b:Nat):Prop:=O b\/Sq b\/∃ a,out = some a/\a.block = b
structure PS (O:Nat->Prop) (B fb:Nat) (w:World) (P:Pl) (F:Fm) (Sq:Nat->Prop) (w':World) (G:Fm) (outs:List (Int × Int)) (T Rm:List Int) (out:Option Addr) (outc:Nat):Prop where
  fx:∃ PP,PP.jp = P.jp/\FXO (OQ O Sq out) B w' fb PP G
  fr:Fr (ft fb P.jp) w w'
  run:PRun F T G outs
  hs:okHs G.hosts
  job:G.jobs.map (·.job) = F.jobs.map (·.job)
  own:Own w.heap.size w' T_Start 2 out outs.length outc (outs.flatMap encO)
  ap:∀ a,out = some a->¬ Sq a.block
  perm:(T ++ Rm).Perm (rdy F)
  pw:T.Pairwise (before F)
  lt:∀ a ∈ T,∀ b ∈ Rm,before F a b
  len:outs.length <= T.length
section
variable {O Sq:Nat->Prop} {B fb qb:Nat} {w:World} {P:Pl} {F G:Fm} {outs:List (Int × Int)} {T Rm:List Int} {out:Option Addr} {outc:Nat}
theorem PS.fr' {w1 w2:World} (s:PS O B fb w P F Sq w1 G outs T Rm out outc) (f:Fr Sq w1 w2) (hq:∀ b,Sq b->w.heap.size <= b):PS O B fb w P F Sq w2 G outs T Rm out outc:=by
  obtain ⟨PP,h1,h2⟩:=s.fx
  exact ⟨⟨PP,h1,h2.fr f fun b hb=>.inr (.inl hb)⟩,s.fr.trans f fun b hb=>.inr (hq b hb),s.run,s.hs,s.job,s.own.fr f s.ap,s.ap,s.perm,s.pw,s.lt,s.len⟩
theorem PS.ext {w1 w2:World} (s:PS O B fb w P F Sq w1 G outs T Rm out outc) (e:Ext w1 w2):PS O B fb w P F Sq w2 G outs T Rm out outc:=by
  obtain ⟨PP,h1,h2⟩:=s.fx
  exact ⟨⟨PP,h1,h2.ext e⟩,s.fr.tr (fr_ext e),s.run,s.hs,s.job,s.own.ext e,s.ap,s.perm,s.pw,s.lt,s.len⟩
theorem PS.shift {w1:World} {Rm':List Int} (s:PS O B fb w P F Sq w1 G outs T Rm out outc) (h:Rm'.Perm Rm):PS O B fb w P F Sq w1 G outs T Rm' out outc :=
  ⟨s.fx,s.fr,s.run,s.hs,s.job,s.own,s.ap,(List.Perm.append_left T h).trans s.perm,s.pw,fun a ha b hb=>s.lt a ha b (h.mem_iff.1 hb),s.len⟩
theorem take_Q {n:Nat} {w1:World} {H:List Th} (q:QS n Sq F qb w1 H) (hn:H.length <= 60) :
    FnP Tryz.prog F_queue_Queue_Take #[.pointer (ptr qb)] w1 fun v w2=>∃ (a b:Int) (is:Bool) (Y:List Th),v = .tuple #[.agg #[.int .i64 a,.int .i64 b],.bool is]/\QS n Sq F qb w2 Y/\Fr Sq w1 w2 /\
      ((is = false/\H = []/\Y = [])\/(is = true/\Y.length < H.length/\(∀ u ∈ Y,before F b u.id)/\(b :: Y.map (·.id)).Perm (H.map (·.id)))):=by
  obtain ⟨mb,born,p,c,m,h1,h2,h3⟩:=q.ex
  refine (qtake_k h1 (by omega)).mono fun v w2 hr=>?_
  rcases hr with ⟨rfl,hv,e⟩ | ⟨t,Y,hv,q2,hp,hmin,f⟩
  · exact ⟨0,0,false,[],hv,q.ext e,fr_ext e,.inl ⟨rfl,rfl,rfl⟩⟩
  · have f':Fr Sq w1 w2:=f.mono h3
    obtain ⟨hrel,hids⟩:=rel_del h2 h1.mp.nodup q.ids hp
    have hY:∀ u ∈ Y,u ∈ H:=fun u hu=>hp.mem_iff.1 (List.mem_cons_of_mem _ hu)
    have ht:t ∈ H:=hp.mem_iff.1 (List.mem_cons_self ..)
    have hnd:t.id ∉ Y.map (·.id):=by
      have:((t :: Y).map (·.id)).Nodup:=((hp.map _).nodup_iff).2 q.ids
      simp only [List.map_cons,List.nodup_cons] at this
      exact this.1
    have hb:∀ u ∈ Y,before F t.id u.id:=fun u hu=>by
      have h4:=hmin u (hY u hu)
      have h5:=q.pr t ht
      have h6:=q.pr u (hY u hu)
      have h7:t.id ≠ u.id:=fun h=>hnd (by rw [h]; exact List.mem_map_of_mem hu)
      unfold ahead at h4
      unfold before
      rw [<- h5,<- h6]
      by_cases h8:u.id < t.id
      · have:=q.bo u (hY u hu) t ht h8; omega
      · omega
    have hperm:(t.id :: Y.map (·.id)).Perm (H.map (·.id)):=by
      have:=hp.map (·.id)
      simpa using this
    refine ⟨t.prio,t.id,true,Y,hv,⟨⟨mb,born,p,c,_,q2,hrel,fun b hb=>h3 b ?_⟩,hids,fun u hu=>q.pr u (hY u hu),fun u hu v hv=>q.bo u (hY u hu) v (hY v hv)⟩,f',.inr ⟨rfl,by have:=hp.length_eq; simp at this; omega,hb,hperm⟩⟩
    rcases hb with rfl | rfl | ⟨a,ha,rfl⟩ | ⟨u,hu,rfl⟩
    · exact .inl rfl
    · exact .inr (.inl rfl)
    · exact .inr (.inr (.inl ⟨a,ha,rfl⟩))
    · exact .inr (.inr (.inr ⟨u,hY u hu,rfl⟩))
theorem FXO.go {O' S:Nat->Prop} {w9:World} (x:FXO O B w fb P F) (f:Fr S w w9) (hS:∀ b,S b->O b) (h:∀ b,O' b->O b\/(w.heap.size <= b/\b < w9.heap.size)):FXO O' B w9 fb P F:=by
  have f':=f.mono hS
  have up:∀ {w''},Fr (ftO O' fb P.jp) w9 w''->Fr (ftO O fb P.jp) w w'':=fun k=>(f'.mono fun b hb=>.inl hb).trans k fun b hb=>by
    rcases hb with hb | hb
    · rcases h b hb with h | h
      · exact .inl (.inl h)
      · exact .inr h.1
    · exact .inl (.inr hb)
  have x9:=x.fr f hS
  exact ⟨x9.slot,x9.arr,x.map,fun w'' k=>x.hs w'' (up k),fun r hr w'' k=>x.js r hr w'' (up k),x.ap,x.hO,x.jO,fun b hb=>by
    rcases h b hb with h | h
    · have:=x.olt b h; have:=f.size; omega
    · exact h.2,fun b hb hf=>by
    rcases h b hb with h | h
    · exact x.odis b h hf
    · have:=(x.foot hf).2; omega⟩
theorem FXO.more {O':Nat->Prop} {w9:World} (x:FXO O B w fb P F) (e:Ext w w9) (h:∀ b,O' b->O b\/(w.heap.size <= b/\b < w9.heap.size)):FXO O' B w9 fb P F :=
  x.go (fr_ext (S:=fun _=>False) e) (fun _ h=>h.elim) h
theorem FXO.less {O':Nat->Prop} (x:FXO O' B w fb P F) (h:∀ b,O b->O' b):FXO O B w fb P F:=by
  have up:∀ {w''},Fr (ftO O fb P.jp) w w''->Fr (ftO O' fb P.jp) w w'':=fun k=>k.mono fun b hb=>hb.elim (fun g=>.inl (h b g)) .inr
  exact ⟨x.slot,x.arr,x.map,fun w'' k=>x.hs w'' (up k),fun r hr w'' k=>x.js r hr w'' (up k),x.ap,x.hO,x.jO,fun b hb=>x.olt b (h b hb),fun b hb=>x.odis b (h b hb)⟩
def HQ (F:Fm) (k:Nat) (born:Int) (H:List Th):Prop:=(H.map (·.id)).Perm (rdyTo F k)/\(∀ t ∈ H,t.prio = prioAt F t.id/\t.born <= born)/\(∀ t ∈ H,∀ u ∈ H,t.id < u.id->t.born < u.born)/\0 <= born/\born <= k
theorem hq_put {k:Nat} {born:Int} {H Y:List Th} {b:Nat} (h:HQ F k born H) (hr:readyB F (jobAt F k) = true) (hp:Y.Perm (⟨b,(jobAt F k).job.prio,(k:Int) + 1,born + 1⟩ :: H)):HQ F (k + 1) (born + 1) Y:=by
  obtain ⟨h1,h2,h3,h4,h5⟩:=h
  have idk:∀ t ∈ H,t.id <= k:=fun t ht=>(mem_rdyTo.1 (h1.mem_iff.1 (List.mem_map_of_mem ht))).2.1
  have mem:∀ t ∈ Y,t = ⟨b,(jobAt F k).job.prio,(k:Int) + 1,born + 1⟩\/t ∈ H:=fun t ht=>List.mem_cons.1 (hp.mem_iff.1 ht)
  refine ⟨?_,fun t ht=>?_,fun t ht u hu hlt=>?_,by omega,by omega⟩
  · unfold rdyTo
    rw [if_pos hr]
    have:=hp.map (·.id)
    refine this.trans ?_
    rw [List.map_cons]
    exact ((h1.cons _).trans (List.perm_append_singleton _ _).symm)
  · rcases mem t ht with rfl | ht
    · refine ⟨?_,Int.le_refl _⟩
      unfold prioAt
      rw [show ((k:Int) + 1 - 1).toNat = k by omega]
    · have:=h2 t ht
      exact ⟨this.1,by omega⟩
  · rcases mem t ht with rfl | ht <;> rcases mem u hu with rfl | hu
    · exact absurd hlt (by simp)
    · have:=idk u hu; simp only at hlt; omega
    · have:=(h2 t ht).2; simp only; omega
    · exact h3 t ht u hu hlt
end
end Go.Proofs.YtegephkpdlopaaaGreatDoor
set_option linter.unusedVariables false
set_option linter.unusedSimpArgs false
namespace Go.Proofs.YtegephkpdlopaaaGreatDoor
open Go.Sx Go.RowKit
def PlanRes (O:Nat->Prop) (B fb:Nat) (w:World) (P:Pl) (F:Fm) (v:Value) (w':World):Prop:=∃ (G:Fm) (outs:List (Int × Int)) (out:Option Addr) (outc:Nat) (P':Pl),
  v = .tuple #[.slice out outs.length outc,.int .i64 0]/\Planned F G outs/\okHs G.hosts/\G.jobs.map (·.job) = F.jobs.map (·.job)/\P'.jp = P.jp/\FXO O B w' fb P' G/\Fr (ft fb P.jp) w w'/\Own w.heap.size w' T_Start 2 out outs.length outc (outs.flatMap encO)/\outs.length <= 60
structure XC (fb:Nat) (jp:Option Addr) (Sq:Nat->Prop) (out x:Option Addr) (w:World) (a b:Int):Prop where
  own:Own 0 w T_Item 2 x 1 1 [.int .i64 a,.int .i64 b]
  ap:∀ c,x = some c->¬ ft fb jp c.block/\¬ Sq c.block/\∀ o,out = some o->o.block ≠ c.block
theorem XC.ext {fb:Nat} {jp:Option Addr} {Sq:Nat->Prop} {out x:Option Addr} {w w':World} {a b:Int} (h:XC fb jp Sq out x w a b) (e:Ext w w'):XC fb jp Sq out x w' a b:=⟨h.own.ext e,h.ap⟩
theorem XC.c0 {fb:Nat} {jp:Option Addr} {Sq:Nat->Prop} {out x:Option Addr} {w:World} {a b:Int} (h:XC fb jp Sq out x w a b):x ≠ none/\Go.Sx.cell w x 0 = some (.int .i64 a)/\Go.Sx.cell w x 1 = some (.int .i64 b)/\Go.Sx.cell w (pAdd x 1) 0 = some (.int .i64 b) :=
  ⟨h.own.ne1 (by omega) (by omega),h.own.cells 0 _ rfl,h.own.cells 1 _ rfl,by rw [cell_pAdd]; exact h.own.cells 1 _ rfl⟩
def PI (O:Nat->Prop) (B fb qb:Nat) (w:World) (P:Pl) (F:Fm) (Sq:Nat->Prop) (out:Option Addr) (outl outc:Nat) (x:Option Addr) (is:Bool) (w':World):Prop:=∃ (G:Fm) (outs:List (Int × Int)) (T:List Int) (H:List Th),outl = outs.length/\QS w.heap.size Sq F qb w' H/\H.length <= 60 /\
  ((is = false/\PS O B fb w P F Sq w' G outs T [] out outc)\/(is = true/\∃ a b,XC fb P.jp Sq out x w' a b/\(∀ u ∈ H,before F b u.id)/\PS O B fb w P F Sq w' G outs T (b :: H.map (·.id)) out outc))
def PM (qb:Nat) (is:Bool) (w':World):Nat:=if is = true then qlen qb w' + 1 else 0
section
variable {O Sq:Nat->Prop} {B fb qb:Nat} {w:World} {P:Pl} {F G:Fm} {outs:List (Int × Int)} {T:List Int} {out:Option Addr} {outc:Nat}
theorem ps_len {w':World} {Rm:List Int} (s:PS O B fb w P F Sq w' G outs T Rm out outc) (hF:F.jobs.length <= 60):outs.length <= 60/\T.length + Rm.length <= 60:=by
  have h1:=s.perm.length_eq
  rw [List.length_append] at h1
  have h2:=rdyTo_len F F.jobs.length
  have h3:=s.len
  unfold rdy at h1
  omega
theorem plan_tail {w24:World} {H:List Th} {m0 n9:Nat} (h9:n9 <= w24.heap.size) (q:QS w.heap.size Sq F qb w24 H) (hn:H.length <= 60) (s:PS O B fb w P F Sq w24 G outs T (H.map (·.id)) out outc) (hq:∀ b,Sq b->w.heap.size <= b/\b < w24.heap.size) (hm:m0 = H.length + 1) (c1 c2:Int) :
    ∀ w45,Ext w24 w45->New w45 T_Item [.int .i64 0,.int .i64 0] fun p46 w46=>Store w46 p46 [.int .i64 c1,.int .i64 c2] [] fun w47=>∀ w48,Ext w47 w48 ->
      FnP Tryz.prog F_queue_Queue_Take #[.pointer (ptr qb)] w48 fun v49 w49=>∃ a b:Int,∃ is:Bool,v49 = .tuple #[.agg #[.int .i64 a,.int .i64 b],.bool is]/\Store w49 p46 [.int .i64 a,.int .i64 b] [] fun w53 =>
        (n9 <= w53.heap.size/\PI O B fb qb w P F Sq out outs.length outc p46 is w53)/\PM qb is w53 < m0:=by
  intro w45 e45
  refine new_own (by intro v hv; simp at hv; subst hv; rfl) fun w46 o46 e46=>?_
  refine store_own (off:=0) (o46 w45.heap.size (Nat.le_refl _)) (map_add0 _) (by simp) (by simp) (by intro v hv; simp at hv; rcases hv with rfl | rfl <;> rfl) (by simp) fun w47 o47 g47 w48 e48=>?_
  have h4548:Ext w45 w48:=(g47.ext e46 (o46 w45.heap.size (Nat.le_refl _))).trans e48
  have h2448:=e45.trans h4548
  refine (take_Q (q.ext h2448) hn).mono fun v w49 ⟨a,b,is,Y,hv,q49,f49,hcase⟩=>⟨a,b,is,hv,?_⟩
  have hsz:=e45.size
  have hps:∀ c,(some ⟨w45.heap.size,0,none⟩:Option Addr) = some c->¬ Sq c.block:=fun c hc hs=>by cases hc; have:=(hq _ hs).2; simp only at this; omega
  have o49:=(o47.ext e48).fr f49 hps
  refine store_own (off:=0) o49 (map_add0 _) (by simp [setAt]) (by simp) (by intro v hv; simp at hv; rcases hv with rfl | rfl <;> rfl) (by simp) fun w53 o53 g53=>?_
  have f53:Fr (fun c=>c = w45.heap.size) w49 w53:=fr_grew g53 fun c hc=>by cases hc; rfl
  have fall:Fr Sq w24 w53:=((fr_ext h2448).tr f49).trans f53 fun c hc=>.inr (by subst hc; exact hsz)
  have q53:QS w.heap.size Sq F qb w53 Y:=q49.fr f53 fun c hc h=>by have:=(hq _ hc).2; omega
  have s53:=s.fr' fall fun c hc=>(hq c hc).1
  have hxap:∀ c,(some ⟨w45.heap.size,0,none⟩:Option Addr) = some c->¬ ft fb P.jp c.block/\¬ Sq c.block/\∀ o,out = some o->o.block ≠ c.block:=fun c hc=>by
    refine ⟨fun hf=>?_,hps c hc,fun o ho h=>?_⟩
    · obtain ⟨PP,h1,x⟩:=s.fx
      rw [<- h1] at hf
      have:=(x.foot hf).2
      cases hc
      simp only at this; omega
    · have:=(s.own.lt o ho).2
      cases hc
      simp only at h; omega
  have h953:n9 <= w53.heap.size:=by have:=fall.size; omega
  rcases hcase with ⟨rfl,rfl,rfl⟩ | ⟨rfl,hlt,hbef,hperm⟩
  · exact ⟨⟨h953,G,outs,T,[],rfl,q53,by simp,.inl ⟨rfl,s53⟩⟩,by unfold PM; simp; omega⟩
  · refine ⟨⟨h953,G,outs,T,Y,rfl,q53,by omega,.inr ⟨rfl,a,b,⟨o53.weak (Nat.zero_le _),hxap⟩,hbef,s53.shift hperm⟩⟩,?_⟩
    unfold PM
    rw [q53.len]
    simp; omega
theorem FXO.put2 (x:FXO O B w fb P F) {jp:Option Addr} (hj:P.jp = jp) {k:Int} (h0:0 <= k) (h1:k < F.jobs.length) {m:Nat} (hm:11 <= m/\m <= 15) (v:Int) {ns:List Nat} (hns:∀ b ∈ ns,¬ ft fb jp b) {K:World->Prop}
    (hk:∀ w' P',P'.jp = jp->FXO O B w' fb P' (stF F k.toNat m v)->Fr (ft fb jp) w w'->K w'):Store w (pAdd (pIdx jp k 16) m) [.int .i64 v] ns K:=by
  subst hj
  exact x.put h0 h1 hm v hns hk
theorem perm_in {A B C:List Int} {x:Int} (h:(A ++ (x :: B)).Perm C):x ∈ C:=h.mem_iff.1 (by simp)
theorem len_of_job {F G:Fm} (h:G.jobs.map (·.job) = F.jobs.map (·.job)):G.jobs.length = F.jobs.length:=by have:=congrArg List.length h; simpa using this
theorem plan_k (x:FXO O B w fb P F) (ha:aftOk F) (hh:okHs F.hosts):FnP Tryz.prog F_farm_Farm_Plan #[.pointer (ptr fb)] w (PlanRes O B fb w P F):=by
  have ne:=ptr_ne fb
  have hl0:=x.jO.1
  refine ok_farm_Farm_Plan (ptr fb) w _ fun w0 h0=>qnew_k.mono fun v w1 ⟨e1,qb,mb,hv,hqb,hQ⟩=>⟨e1,_,hv,ne,ne,?_⟩
  have e01:=h0.trans e1
  have x1:=x.ext e01
  refine ⟨_,_,_,x1.cell (i:=6) rfl,?_⟩
  rw [x1.len]
  refine ⟨fun k w'=>0 <= k/\k <= F.jobs.length/\Fr (ft fb P.jp) w w'/\∃ (born:Int) (p:Option Addr) (c:Nat) (m:List (Int × Value)) (H:List Th) (P':Pl),P'.jp = P.jp/\QQ w.heap.size w' qb mb born p c H m/\Rel H m/\HQ F k.toNat born H/\FXO (fun b=>O b\/FootQ mb qb p H b) B w' fb P' F,fun k _=>(F.jobs.length - k).toNat,⟨by omega,by omega,fr_ext e01,0,none,0,[],[],P,rfl,hQ _ h0.size,⟨by simp,fun id v h=>by simp [mget] at h⟩,⟨by simp [rdyTo],by simp,by simp,by omega,by omega⟩,?_⟩,?_⟩
  · exact x.more e01 fun b hb=>hb.imp id fun h=>(hQ _ h0.size).foot h
  rintro k w8 ⟨hk0,hk1,f8,born,p,c,m,H,P8,hP8,q8,r8,hq8,x8⟩
  have hkn:((k.toNat:Nat):Int) = k:=by omega
  have hk1n:(k + 1).toNat = k.toNat + 1:=by omega
  have hHl:H.length <= 60:=by
    have:=hq8.1.length_eq
    have:=rdyTo_len F k.toNat
    simp at *; omega
  refine ⟨fun hlt=>⟨ne,ne,_,_,_,x8.cell (i:=6) rfl,?_⟩,fun hge w9 h9=>?_⟩
  · obtain ⟨r,hr,hF,hjp,hne,_,g,hJ,hok,hwf⟩:=x8.st hk0 (by omega)
    have hja:jobAt F k.toNat = r.s:=jobAt_of hF
    refine ⟨hjp,hk0,by rw [x8.len]; omega,fun w12 h12=>(ready_k (x8.ext h12) ha hk0 (by omega)).mono fun v w13 ⟨e13,hv⟩=>⟨e13,_,hv,fun hb=>⟨hne,hne,by rw [pAdd_zero]; exact hne,_,by rw [pAdd_zero]; exact g 1 _ rfl,i64 (by omega),fun w16 h16=>?_⟩,fun hb=>⟨i64 (by omega),⟨by omega,by omega,f8,born,p,c,m,H,P8,hP8,q8,r8,?_,x8⟩,by simp only []; omega⟩⟩⟩
    · obtain ⟨hq1,hq2,hq3,hq4,hq5⟩:=hq8
      have hidk:∀ t ∈ H,t.id ≠ k + 1:=fun t ht h=>by
        have:=(mem_rdyTo.1 (hq1.mem_iff.1 (List.mem_map_of_mem ht))).2.1
        omega
      refine (qput_k (q8.ext h16) r8 (by omega) (by omega) (Nat.le_trans f8.size h16.size) r.s.job.prio (k + 1)).mono fun v w17 ⟨e,hv,hbad,hgood⟩=>⟨e,hv,i64 (by omega),?_⟩
      have he:e = 0:=by
        by_cases h:e = 0
        · exact h
        · rcases (hbad h).2 with ⟨⟨t,ht,hid⟩,_⟩ | ⟨h200,_⟩
          · exact absurd hid (hidk t ht)
          · omega
      obtain ⟨_,_,b,p',c',Y,qY,hp,f17,hgrow⟩:=hgood he
      have r17:=rel_put r8 (t:=⟨b,r.s.job.prio,k + 1,born + 1⟩) hidk hp
      have hq17:=hq_put (k:=k.toNat) (b:=b) ⟨hq1,hq2,hq3,hq4,hq5⟩ (by rw [hja]; unfold jobAt at hja; rw [hja] at hb; exact hb) (Y:=Y) (by
        rw [hja,hkn]; exact hp)
      have fall:Fr (FootQ mb qb p H) w8 w17:=(fr_ext h16).tr f17
      refine ⟨⟨by omega,by omega,f8.trans fall fun b hb=>.inr ((q8.foot hb).1),born + 1,p',c',_,Y,P8,hP8,qY,r17,?_,?_⟩,by simp only []; omega⟩
      · rw [hk1n]; exact hq17
      · refine x8.go fall (fun b hb=>.inr hb) fun b hb=>?_
        rcases hb with hb | hb
        · exact .inl (.inl hb)
        · rcases hgrow b hb with h | h
          · exact .inl (.inr h)
          · exact .inr ⟨Nat.le_trans h16.size h,(qY.foot hb).2⟩
    · rw [hk1n]
      obtain ⟨hq1,hq2,hq3,hq4,hq5⟩:=hq8
      refine ⟨?_,hq2,hq3,hq4,by omega⟩
      unfold rdyTo
      rw [if_neg (by rw [hja]; unfold jobAt at hja; rw [hja] at hb; rw [hb]; simp)]
      exact hq1
  have hkl:k.toNat = F.jobs.length:=by omega
  rw [hkl] at hq8
  obtain ⟨hq1,hq2,hq3,hq4,hq5⟩:=hq8
  let Sq:Nat->Prop:=FootQ mb qb p H
  have hSq:∀ b,Sq b->w.heap.size <= b/\b < w8.heap.size:=fun b hb=>q8.foot hb
  have Q8:QS w.heap.size Sq F qb w8 H:=⟨⟨mb,born,p,c,m,q8,r8,fun b hb=>hb⟩,by
    have:(H.map (·.id)).Nodup:=(hq1.nodup_iff).2 (rdyTo_nodup F _)
    exact this,fun t ht=>(hq2 t ht).1,hq3⟩
  have S8:PS O B fb w P F Sq w8 F [] [] (H.map (·.id)) none 0:=⟨⟨P8,hP8,x8.less fun b hb=>by
    rcases hb with hb | hb | ⟨a,ha,_⟩
    · exact .inl hb
    · exact .inr hb
    · cases ha⟩,f8,.nil F,hh,rfl,Own.nil,fun a ha=>(by cases ha),hq1,List.Pairwise.nil,by simp,by simp⟩
  refine (take_Q (Q8.ext h9) hHl).mono fun v w10 ⟨a,b,is,Y,hv,Q10,f10,hcase⟩=>⟨a,b,is,hv,fun w14 h14=>?_⟩
  have s10:=(S8.ext h9).fr' f10 fun c hc=>(hSq c hc).1
  have s14:=s10.ext h14
  have Q14:=Q10.ext h14
  refine new_own (by intro v hv; simp at hv; subst hv; rfl) fun w15 o15 e15=>?_
  refine store_own (off:=0) (o15 w14.heap.size (Nat.le_refl _)) (map_add0 _) (by simp) (by simp) (by intro v hv; simp at hv; rcases hv with rfl | rfl <;> rfl) (by simp) fun w16 o16 g16=>?_
  have e16:Ext w14 w16:=g16.ext e15 (o15 w14.heap.size (Nat.le_refl _))
  have s16:=s14.ext e16
  have Q16:=Q14.ext e16
  have hsz14:w8.heap.size <= w14.heap.size:=Nat.le_trans (Nat.le_trans h9.size f10.size) h14.size
  refine ⟨fun out outl outc x is w'=>w14.heap.size <= w'.heap.size/\PI O B fb qb w P F Sq out outl outc x is w',fun out outl outc x is w'=>PM qb is w',⟨e16.size,?_⟩,?_⟩
  · rcases hcase with ⟨rfl,rfl,rfl⟩ | ⟨rfl,hlt,hbef,hperm⟩
    · exact ⟨F,[],[],[],rfl,Q16,by simp,.inl ⟨rfl,s16⟩⟩
    · refine ⟨F,[],[],Y,rfl,Q16,by omega,.inr ⟨rfl,a,b,⟨o16.weak (Nat.zero_le _),fun c hc=>⟨fun hf=>?_,fun hs=>?_,fun o ho=>by cases ho⟩⟩,hbef,s16.shift hperm⟩⟩
      · obtain ⟨PP,h1,x14⟩:=s14.fx
        rw [<- h1] at hf
        have:=(x14.foot hf).2
        cases hc
        simp only at this; omega
      · have:=(hSq _ hs).2
        cases hc
        simp only at this; omega
  rintro out outl outc xp is w21 ⟨hsz21,G,outs,T,H,rfl,Q21,hH,hc⟩
  refine ⟨fun his=>?_,fun his w22 h22=>?_⟩
  · rcases hc with ⟨h,_⟩ | ⟨_,a,b,xc,hbef,s21⟩
    · rw [his] at h; cases h
    have hsq21:∀ b,Sq b->w.heap.size <= b/\b < w21.heap.size:=fun b hb=>by have:=hSq b hb; omega
    obtain ⟨xn,_,_,xb⟩:=xc.c0
    obtain ⟨PP,hPP,x21⟩:=s21.fx
    have hbin:=mem_rdyTo.1 (perm_in s21.perm)
    have hGl:=len_of_job s21.job
    have hin:inJ G b:=⟨hbin.1,by rw [hGl]; exact hbin.2.1⟩
    have hk:(b - 1).toNat < G.jobs.length:=by have:=hin.1; have:=hin.2; omega
    have hls:=ps_len s21 hl0
    refine ⟨xn,b,xb,fun w23 h23=>(at_k (x21.ext h23) b (i64 (by have:=hin.1; have:=hin.2; omega))).mono fun v w24 ⟨e24,hv⟩=>⟨e24,?_⟩⟩
    rcases hv with ⟨hno,_⟩ | ⟨_,_,rfl⟩
    · exact absurd hin hno
    have e2124:=h23.trans e24
    have x24:=x21.ext e2124
    have s24:=s21.ext e2124
    have Q24:=Q21.ext e2124
    have xc24:=xc.ext e2124
    have hsq24:∀ b,Sq b->w.heap.size <= b/\b < w24.heap.size:=fun b hb=>by have:=hsq21 b hb; have:=e2124.size; omega
    obtain ⟨r,hr,hF,hjp,hne,g',g,hJ,hok,hwf⟩:=x24.st (k:=b - 1) (by have:=hin.1; omega) (by have:=hin.2; omega)
    have hja:jobAt G (b - 1).toNat = r.s:=jobAt_of hF
    have c5:∀ (j:Nat) (v:Value),(encS r)[5 + j]? = some v->Go.Sx.cell w24 (pAdd (pAdd (pIdx PP.jp (b - 1) 16) 0) 5) j = some v:=fun j v hv=>by
      rw [pAdd_zero,cell_pAdd]; exact g' _ _ hv
    have c2:∀ (j:Nat) (v:Value),(encS r)[2 + j]? = some v->Go.Sx.cell w24 (pAdd (pAdd (pIdx PP.jp (b - 1) 16) 0) 2) j = some v:=fun j v hv=>by
      rw [pAdd_zero,cell_pAdd]; exact g' _ _ hv
    have n0:pAdd (pIdx PP.jp (b - 1) 16) 0 ≠ none:=by rw [pAdd_zero]; exact hne
    have n5:pAdd (pAdd (pIdx PP.jp (b - 1) 16) 0) 5 ≠ none:=fun h=>n0 (pAdd_none.1 h)
    have n2:pAdd (pAdd (pIdx PP.jp (b - 1) 16) 0) 2 ≠ none:=fun h=>n0 (pAdd_none.1 h)
    have hO:=x24.hO
    refine ⟨_,rfl,ne,ne,_,_,_,x24.cell (i:=0) rfl,hne,hne,n0,n5,_,c5 0 _ rfl,_,c5 1 _ rfl,_,c5 2 _ rfl,_,c5 3 _ rfl,_,_,_,c5 4 _ rfl,hne,hne,n0,n2,_,c2 0 _ rfl,_,c2 1 _ rfl,_,c2 2 _ rfl,fun w39 h39=>?_⟩
    refine (Best_k PP.hp PP.hc G.hosts (by omega) hO.2 r.s.job.ask r.pa r.ca hwf.ask r.s.job.nd w39 ((x24.ext h39).hs w39 (Fr.refl _ _)) (hJ.1.ext h39)).mono fun v w40 ⟨e40,k,e,hv,hres⟩=>⟨e40,k,e,hv,?_⟩
    have hall:okAll G.hosts r.s.job.ask r.s.job.nd:=⟨s24.hs,hok.ask,hok.nd⟩
    have hm:PM qb is w21 = H.length + 1:=by unfold PM; rw [his,if_pos rfl,Q21.len]
    refine ⟨fun he=>?_,fun he=>?_⟩
    · have hsk:fitsJ G b = []:=by
        rcases hres with ⟨_,_,_,h⟩ | ⟨h,_⟩
        · have:=h hall
          unfold fitsJ
          rw [hja]
          exact this
        · exact absurd h he
      obtain ⟨_,x0,x1,_⟩:=xc24.c0
      have s':PS O B fb w P F Sq w24 G outs (T ++ [b]) (H.map (·.id)) out outc:=⟨s24.fx,s24.fr,s24.run.snoc_skip hsk,s24.hs,s24.job,s24.own,s24.ap,by simpa using s24.perm,List.pairwise_append.2 ⟨s24.pw,by simp,fun y hy z hz=>by simp at hz; subst hz; exact s24.lt y hy _ (by simp)⟩,fun y hy z hz=>by
        rcases List.mem_append.1 hy with hy | hy
        · exact s24.lt y hy z (List.mem_cons_of_mem _ hz)
        · simp at hy; subst hy
          obtain ⟨u,hu,rfl⟩:=List.mem_map.1 hz
          exact hbef u hu,by rw [List.length_append]; have:=s24.len; simp; omega⟩
      exact ⟨xn,_,x0,_,x1,plan_tail (by have:=e2124.size; omega) Q24 hH s' hsq24 hm a b⟩
    · obtain ⟨_,_,hbest⟩:e = 0/\okAll G.hosts r.s.job.ask r.s.job.nd/\BestIs G.hosts r.s.job.ask r.s.job.nd k:=by
        rcases hres with ⟨h,_⟩ | h
        · exact absurd he h
        · exact h
      obtain ⟨hk0,hk1,hfit⟩:=mem_fits.1 hbest.1
      have hkI:InR .i64 k:=i64 (by omega)
      refine ⟨ne,ne,_,_,_,x24.cell (i:=0) rfl,hne,hne,n0,n2,_,c2 0 _ rfl,_,c2 1 _ rfl,_,c2 2 _ rfl,fun w49 h49=>?_⟩
      have x49:=x24.ext h49
      refine (Take_k PP.hp PP.hc G.hosts (by omega) hO.2 k r.s.job.nd w49 (x49.hs w49 (Fr.refl _ _))).mono fun v w50 ⟨e50,p',n',c',e',hv,htk⟩=>⟨e50,p',n',c',e',hv,ne,ne,?_⟩
      have hfN:fitN r.s.job.nd (subN (G.hosts.getD k.toNat default).has (G.hosts.getD k.toNat default).used):=by
        unfold fitI at hfit
        rw [Bool.and_eq_true,decide_eq_true_iff] at hfit
        exact hfit.2
      rcases htk with ⟨_,_,hno⟩ | ⟨_,_,_,_,rfl,_,_,_,hS⟩
      · exact absurd ⟨hok.nd,hfN⟩ (hno s24.hs hk0 hk1)
      have x50:=x49.ext e50
      refine store_own (off:=0) x50.slot rfl (by simp) (by simp) (by intro u hu; simp at hu; subst hu; rfl) (by simp) fun w55 o55 g55=>⟨ne,ne,?_⟩
      have hG:takeF G (b - 1).toNat k = { G with hosts:=G.hosts.set k.toNat (usedH (G.hosts.getD k.toNat default) (addN (G.hosts.getD k.toNat default).used r.s.job.nd)) }:=by unfold takeF hostAt; rw [hja]
      have fg:Fr (ft fb PP.jp) w50 w55:=fr_grew g55 fun a ha=>by cases ha; exact .inl rfl
      obtain ⟨y55,f55⟩:=x50.slot_to (F':=takeF G (b - 1).toNat k) (P':={ PP with hp:=p',hc:=c' }) (by
        rw [hG]
        show Own B w55 T_farm_Farm 7 (ptr fb) 1 1 [.slice p' (G.hosts.set _ _).length c',_,_,_,_,_,_]
        rw [List.length_set]; exact o55) g55 rfl rfl rfl rfl (fun w'' kf=>by
          rw [hG]
          exact hS (ftO (OQ O Sq out) fb PP.jp) (fun b hb=>by
            rcases hb with hb | hb
            · exact x49.olt b hb
            · exact (x49.foot hb).2) w'' ((fg.mono fun b hb=>.inr hb).tr kf)) (by
        rw [hG]
        refine ⟨by show (G.hosts.set _ _).length <= 30; rw [List.length_set]; exact hO.1,fun h hh=>?_⟩
        have hh:h ∈ G.hosts.set k.toNat (usedH (G.hosts.getD k.toNat default) (addN (G.hosts.getD k.toNat default).used r.s.job.nd)):=hh
        rcases List.mem_or_eq_of_mem_set hh with hh | rfl
        · exact hO.2 h hh
        · have:=hO.2 _ (getD_mem G.hosts default (i:=k.toNat) (by omega))
          exact this)
      refine ⟨G.now,y55.cell (i:=5) rfl,hne,hne,?_⟩
      refine y55.put2 (jp:=PP.jp) rfl (k:=b - 1) (by have:=hin.1; omega) (by have:=hin.2; exact (by omega:b - 1 < (G.jobs.length:Int))) (by omega) 2 (by simp) fun w57 P1 hP1 y57 f57=>⟨hne,hne,?_⟩
      refine y57.put2 hP1 (k:=b - 1) (by have:=hin.1; omega) (by rw [st_len]; have:=hin.2; exact (by omega:b - 1 < (G.jobs.length:Int))) (by omega) k (by simp) fun w58 P2 hP2 y58 f58=>⟨hne,hne,?_⟩
      refine y58.put2 hP2 (k:=b - 1) (by have:=hin.1; omega) (by rw [st_len,st_len]; have:=hin.2; exact (by omega:b - 1 < (G.jobs.length:Int))) (by omega) G.now (by simp) fun w59 P3 hP3 y59 f59=>⟨xn,?_⟩
      have y59:FXO (OQ O Sq out) B w59 fb P3 (runF G (b - 1).toNat k):=y59
      have f2459:Fr (ft fb PP.jp) w24 w59:=((((fr_ext (h49.trans e50)).tr f55).tr f57).tr f58).tr f59
      have hdis:∀ c,OQ O Sq out c->¬ ft fb PP.jp c:=x24.odis
      have hxd:∀ c,xp = some c->¬ ft fb PP.jp c.block:=fun c hc=>by rw [hPP]; exact (xc24.ap c hc).1
      obtain ⟨_,x0,x1,_⟩:=xc24.c0
      have x1':=cell_fr x1 f2459 hxd
      refine ⟨b,by rw [cell_pAdd]; exact x1',?_⟩
      have o59:=s24.own.fr f2459 fun c hc=>hdis _ (.inr (.inr ⟨c,hc,rfl⟩))
      have hsz24:w.heap.size <= w24.heap.size:=s24.fr.size
      have hsz59:w.heap.size <= w59.heap.size:=Nat.le_trans hsz24 f2459.size
      refine push (v:=.agg #[.int .i64 b,.int .i64 k]) elem_sl_Start (by omega) o59 hsz59 rfl (by intro u hu; simp [Value.cells] at hu; rcases hu with rfl | rfl <;> rfl) (by omega) (by omega) (by omega) fun out' outc' w67 o67 g67 hne67=>⟨xn,?_⟩
      have f67:Fr (fun c=>∃ o,out = some o/\o.block = c) w59 w67:=fr_grew g67 fun a ha=>⟨a,ha,rfl⟩
      have hout':∀ a,out' = some a->(∃ o,out = some o/\o.block = a.block)\/(w59.heap.size <= a.block/\a.block < w67.heap.size):=fun a ha=>by
        rcases g67.new with hn | hn
        · left
          rw [ha] at hn
          cases ho:out with
          | none => rw [ho] at hn; simp [blk] at hn
          | some y => rw [ho] at hn; simp [blk] at hn; exact ⟨y,rfl,by omega⟩
        · exact .inr ⟨hn a ha,(o67.lt a ha).2⟩
      have hxo:∀ c,xp = some c->¬ ∃ o,out = some o/\o.block = c.block:=fun c hc ⟨o,ho,hk⟩=>(xc24.ap c hc).2.2 o ho hk
      refine ⟨a,cell_fr (cell_fr x0 f2459 hxd) f67 hxo,b,cell_fr x1' f67 hxo,?_⟩
      have f2467:Fr (fun c=>ft fb P.jp c\/∃ o,out = some o/\o.block = c) w24 w67:=by
        rw [hPP] at f2459
        exact (f2459.mono fun c hc=>.inl hc).tr (f67.mono fun c hc=>.inr hc)
      have Q67:QS w.heap.size Sq F qb w67 H:=Q24.fr f2467 fun c hc h=>by
        rcases h with h | ⟨o,ho,rfl⟩
        · rw [<- hPP] at h; exact hdis c (.inr (.inl hc)) h
        · exact s24.ap o ho hc
      have hsz67:=f2467.size
      have s67:PS O B fb w P F Sq w67 (runF G (b - 1).toNat k) (outs ++ [(b,k)]) (T ++ [b]) (H.map (·.id)) out' outc':=by
        refine ⟨⟨P3,hP3.trans hPP,y59.go f67 (fun c hc=>.inr (.inr hc)) fun c hc=>?_⟩,s24.fr.trans f2467 fun c hc=>?_,s24.run.snoc_run (by rw [hja]; exact hbest),?_,(run_jobs hk k).trans s24.job,?_,fun c hc hs=>?_,by simpa using s24.perm,List.pairwise_append.2 ⟨s24.pw,by simp,fun y hy z hz=>by simp at hz; subst hz; exact s24.lt y hy _ (by simp)⟩,fun y hy z hz=>?_,by rw [List.length_append,List.length_append]; have:=s24.len; simp; omega⟩
        · rcases hc with hc | hc | ⟨c,hc,rfl⟩
          · exact .inl (.inl hc)
          · exact .inl (.inr (.inl hc))
          · rcases hout' c hc with h | h
            · exact .inl (.inr (.inr h))
            · exact .inr h
        · rcases hc with hc | ⟨o,ho,rfl⟩
          · exact .inl hc
          · exact .inr (s24.own.lt o ho).1
        · exact okHs_take s24.hs hk0 hk1 (by rw [hja]; exact hok.nd) (by rw [hja]; exact hfN)
        · rw [List.flatMap_append,List.length_append]
          simpa [Value.cells,encO] using o67
        · rcases hout' c hc with ⟨o,ho,hk⟩ | h
          · rw [<- hk] at hs; exact s24.ap o ho hs
          · have:=(hsq24 _ hs).2; have:=f2459.size; omega
        · rcases List.mem_append.1 hy with hy | hy
          · exact s24.lt y hy z (List.mem_cons_of_mem _ hz)
          · simp at hy; subst hy
            obtain ⟨u,hu,rfl⟩:=List.mem_map.1 hz
            exact hbef u hu
      have:=plan_tail (n9:=w14.heap.size) (by have:=e2124.size; omega) Q67 hH s67 (fun c hc=>by have:=hsq24 c hc; omega) hm a b
      rw [List.length_append] at this
      exact this
  · rcases hc with ⟨_,s21⟩ | ⟨h,_⟩
    · have s22:=s21.ext h22
      obtain ⟨PP,h1,x22⟩:=s22.fx
      refine ⟨G,outs,out,outc,PP,rfl,⟨T,⟨by simpa using s22.perm,s22.pw⟩,s22.run⟩,s22.hs,s22.job,h1,x22.less fun b hb=>.inl hb,s22.fr,s22.own,(ps_len s22 hl0).1⟩
    · rw [his] at h; cases h
end
end Go.Proofs.YtegephkpdlopaaaGreatDoor
set_option linter.unusedVariables false
set_option linter.unusedSimpArgs false
namespace Go.Proofs.YtegephkpdlopaaaGreatDoor
open Go.Sx Go.RowKit
theorem neN_k {a b:Nd} {w:World} {K:Value->World->Prop} (hk:K (.bool (!decide (a = b))) w):Run Tryz.prog (.eq .neq T_Need false false (nv a) (nv b)) w K :=
  run_nes (n:=3) (k:=.i64) (by kernel_rfl) (by kernel_rfl) (by kernel_rfl) (by kernel_rfl) [a.c,a.m,a.g] [b.c,b.m,b.g] rfl rfl (by
    have:decide (a = b) = decide ([a.c,a.m,a.g] = [b.c,b.m,b.g]):=decide_eq_decide.2 nd_eq
    rwa [this] at hk)
theorem New1_k (h:Ht) (q:Option Addr) (d:Nat) (w:World):FnP Tryz.prog F_farm_New_1 #[.agg #[.string h.name,.slice q h.labels.length d,.int .i64 h.has.c,.int .i64 h.has.m,.int .i64 h.has.g,.int .i64 h.used.c,.int .i64 h.used.m,.int .i64 h.used.g]] w fun v w'=>Ext w w'/\v = .bool (!decide (h.used = zeroN)):=by
  refine ok_farm_New_1 h.name q h.labels.length d h.has.c h.has.m h.has.g h.used.c h.used.m h.used.g w _ fun b0 hb0 w1 h1=>?_
  refine neN_k (a:=h.used) (b:=zeroN) ⟨Ext.refl _,_,rfl,fun w4 h4=>⟨h4,rfl⟩⟩
theorem IndexH_k (p:Option Addr) (c:Nat) (L:List Ht) (h63:(L.length:Int) <= 9223372036854775807) (w:World) (hL:HsAt w p L) :
    FnP Tryz.prog F_slices_IndexFunc_api_Host_api_Host #[.slice p L.length c,.func (.func F_farm_New_1) #[] #[]] w fun v w'=>Ext w w'/\∃ t,v = .int .i64 t/\(0 <= t ↔ ∃ x ∈ L,x.used ≠ zeroN):=by
  refine ok_slices_IndexFunc_api_Host_api_Host p L.length c _ w _ ?_
  refine ⟨fun k w'=>w' = w/\0 <= k/\k <= L.length/\∀ j:Nat,(j:Int) < k->(L.getD j default).used = zeroN,fun k _=>(L.length - k).toNat,⟨rfl,by omega,by omega,fun j hj=>by omega⟩,?_⟩
  rintro k w ⟨rfl,hk0,hk1,hno⟩
  refine ⟨fun hlt=>?_,fun hge w4 h4=>⟨h4,_,rfl,?_⟩⟩
  · obtain ⟨q,d,n1,n2,g,_⟩:=hL.at hk0 hlt
    refine ⟨n1,hk0,hlt,n2,_,g 0 _ rfl,_,_,_,g 1 _ rfl,_,g 2 _ rfl,_,g 3 _ rfl,_,g 4 _ rfl,_,g 5 _ rfl,_,g 6 _ rfl,_,g 7 _ rfl,fun w4 h4=>?_⟩
    refine ⟨F_farm_New_1,#[],rfl,(New1_k (L.getD k.toNat default) q d w4).mono fun v w5 ⟨e5,hv⟩=>⟨e5,_,hv,fun hyes w9 h9=>⟨h9,_,rfl,fun _=>⟨_,getD_mem L default (i:=k.toNat) (by omega),by simpa using hyes⟩,fun _=>hk0⟩,fun hn=>⟨i64 (by omega),⟨rfl,by omega,by omega,fun j hj=>?_⟩,by simp only []; omega⟩⟩⟩
    by_cases hjk:(j:Int) < k
    · exact hno j hjk
    · obtain rfl:j = k.toNat:=by omega
      simpa using hn
  · constructor
    · intro h; omega
    · rintro ⟨x,hm,hx⟩
      obtain ⟨j,hj,rfl⟩:=List.getElem_of_mem hm
      have:=hno j (by omega)
      rw [show L.getD j default = L[j] by simp [List.getD_eq_getElem?_getD,hj]] at this
      exact absurd this hx
theorem ContainsH_k (p:Option Addr) (c:Nat) (L:List Ht) (h63:(L.length:Int) <= 9223372036854775807) (w:World) (hL:HsAt w p L) :
    FnP Tryz.prog F_slices_ContainsFunc_api_Host_api_Host #[.slice p L.length c,.func (.func F_farm_New_1) #[] #[]] w fun v w'=>Ext w w'/\∃ b:Bool,v = .bool b/\(b = true ↔ ∃ x ∈ L,x.used ≠ zeroN):=by
  refine ok_slices_ContainsFunc_api_Host_api_Host p L.length c _ w _ fun w1 h1=>?_
  refine (IndexH_k p c L h63 w1 (hL.ext h1)).mono fun v w2 ⟨e2,t,hv,ht⟩=>⟨e2,t,hv,fun w4 h4=>⟨h4,_,rfl,?_⟩⟩
  rw [decide_eq_true_iff]; exact ht
def okNew (L:List Ht) (pol:Pol):Prop:=okHs L/\(∀ x ∈ L,x.used = zeroN)/\okPol pol
def newF (L:List Ht) (pol:Pol):Fm:=⟨L,pol,0,[]⟩
theorem fNew_k (p:Option Addr) (c:Nat) (L:List Ht) (h63:(L.length:Int) <= 9223372036854775807) (hO:∀ h ∈ L,HtOk h) (pol:Pol) (w:World) (hL:HsAt w p L) :
    FnP Tryz.prog F_farm_New #[.agg #[.slice p L.length c,.int .i64 pol.first,.int .i64 pol.times,.int .i64 pol.most,.int .i64 pol.tries]] w fun v w'=>Ext w w'/\∃ (q:Option Addr) (e:Int),v = .tuple #[.pointer q,.int .i64 e]/\(e = 0 ↔ okNew L pol)/\(e ≠ 0->q = none) /\
      (e = 0->∃ fb P,q = ptr fb/\FX w.heap.size w' fb P (newF L pol)):=by
  refine ok_farm_New p L.length c pol.first pol.times pol.most pol.tries w _ fun b0 hb0 w1 h1=>(hcheck_k p c L h63 hO w1 (hL.ext h1)).mono fun v w2 ⟨e2,e,hv,he,_⟩=>⟨e2,e,hv,fun hne w4 h4=>⟨h4,none,e,rfl,⟨fun h=>absurd h hne,fun h=>absurd (he.2 h.1) hne⟩,fun _=>rfl,fun h=>absurd h hne⟩,fun hz w4 h4=>?_⟩
  have hok:=he.1 hz
  refine (ContainsH_k p c L h63 w4 (hL.ext h4)).mono fun v w5 ⟨e5,b,hv,hb⟩=>⟨e5,b,hv,fun hbt w7 h7=>⟨h7,none,9,rfl,⟨fun h=>(by cases h),fun h=>?_⟩,fun _=>rfl,fun h=>(by cases h)⟩,fun hbf w7 h7=>?_⟩
  · obtain ⟨x,hx,hu⟩:=hb.1 hbt
    exact absurd (h.2.1 x hx) hu
  have hu:∀ x ∈ L,x.used = zeroN:=fun x hx=>by
    by_cases h:x.used = zeroN
    · exact h
    · have:=hb.2 ⟨x,hx,h⟩; rw [hbf] at this; cases this
  refine (rcheck_k pol.first pol.times pol.most pol.tries w7).mono fun v w8 ⟨e8,e,hv,hy,hn⟩=>⟨e8,e,hv,fun hne w10 h10=>⟨h10,none,e,rfl,⟨fun h=>absurd h hne,fun h=>absurd (hy h.2.2) hne⟩,fun _=>rfl,fun h=>absurd h hne⟩,fun hz w10 x10=>?_⟩
  have hp:okPol pol:=by
    by_cases h:okPol pol
    · exact h
    · have:=hn h; omega
  have h10:=extB_ext x10
  refine (ownH_k p c L hok.1 (fun h hh=>(hok.2.1 h hh).2.1) w10 (hL.ext h10)).mono fun v w11 ⟨e11,p',c',M,hv,hM,o11,hA,hN⟩=>⟨e11,p',_,c',hv,fun w15 x15=>?_⟩
  have h15:=extB_ext x15
  refine new_own (by intro v hv; simp at hv; rcases hv with rfl | rfl | rfl | rfl | rfl | rfl | rfl <;> rfl) fun w16 o16 e16 w17 e17=>?_
  have h1117:=(h15.trans e16).trans e17
  have hall:Ext w w17:=(h10.trans e11).trans h1117
  have hs15:w.heap.size <= w15.heap.size:=Nat.le_trans h10.size (Nat.le_trans e11.size h15.size)
  have hs11:w11.heap.size <= w15.heap.size:=h15.size
  refine ⟨hall,_,0,rfl,⟨fun _=>⟨hok,hu,hp⟩,fun _=>rfl⟩,fun h=>absurd rfl h,fun _=>⟨w15.heap.size,⟨p',c',none,0,[]⟩,rfl,?_⟩⟩
  have hS:=(hsS_of o11 (fun m hm=>(hA m hm).1) hN).weak h10.size
  rw [hM] at hS
  refine ⟨((o16 _ hs15).ext e17),Own.nil,rfl,fun w'' k=>?_,fun r hr=>(by cases hr),fun a ha=>(by cases ha),⟨hok.1,hO⟩,⟨by simp [newF],fun s hs=>by simp [newF] at hs⟩,fun b hb=>Nat.lt_of_lt_of_le hb hall.size,fun b hb hf=>?_⟩
  · refine hS (fun b=>b < w.heap.size) (fun b hb=>hb) w'' ((fr_ext h1117).trans k fun b hb=>?_)
    rcases hb with hb | hb | ⟨a,ha,_⟩
    · exact .inl hb
    · subst hb; exact .inr hs11
    · cases ha
  · rcases hf with hf | ⟨a,ha,_⟩
    · subst hf; have:w15.heap.size < w.heap.size:=hb; omega
    · cases ha
def can (F:Fm) (x:Ev):Prop:=okE x/\(x.kind = 1->okSub F x.job)/\(x.kind = 2->0 <= x.n/\x.n <= 1000000000/\F.now + x.n <= 1099511627776)/\(x.kind = 4->inJ F x.id/\(jobAt F (x.id - 1).toNat).what = 2)/\(x.kind = 5->inJ F x.id/\((jobAt F (x.id - 1).toNat).what = 1\/(jobAt F (x.id - 1).toNat).what = 2))
def Did (F:Fm) (x:Ev) (F':Fm):Prop:=(¬ can F x/\F' = F)\/(can F x/\((x.kind = 1/\F' = subF F x.job)\/(x.kind = 2/\F' = { F with now:=F.now + x.n })\/(x.kind = 3/\∃ outs,Planned F F' outs)\/(x.kind = 4/\F' = repF F (x.id - 1).toNat x.ok)\/(x.kind = 5/\F' = canF F (x.id - 1).toNat)))
theorem did_one {F F1 F2:Fm} {x:Ev} (h:Did F x F1) (g:Did F x F2):F1 = F2:=by
  rcases h with ⟨h,rfl⟩ | ⟨h,h'⟩ <;> rcases g with ⟨g,rfl⟩ | ⟨g,g'⟩
  · rfl
  · exact absurd g h
  · exact absurd h g
  · rcases h' with ⟨a,rfl⟩ | ⟨a,rfl⟩ | ⟨a,o,h'⟩ | ⟨a,rfl⟩ | ⟨a,rfl⟩ <;> rcases g' with ⟨b,rfl⟩ | ⟨b,rfl⟩ | ⟨b,o2,g'⟩ | ⟨b,rfl⟩ | ⟨b,rfl⟩ <;> first | rfl | omega | exact (planned_one h' g').1
def DoE (F:Fm) (x:Ev) (e:Int):Prop:=∃ e0,EErr x e0/\((e0 ≠ 0/\e = e0)\/(e0 = 0 /\
  ((x.kind = 1/\SubE F x.job e)\/(x.kind = 2/\((e = 0/\(0 <= x.n/\x.n <= 1000000000/\F.now + x.n <= 1099511627776))\/(e = 4/\¬ (0 <= x.n/\x.n <= 1000000000/\F.now + x.n <= 1099511627776))))\/(x.kind = 3/\e = 0) \/
   (x.kind = 4/\(((inJ F x.id/\(jobAt F (x.id - 1).toNat).what = 2)/\e = 0)\/(¬ (inJ F x.id/\(jobAt F (x.id - 1).toNat).what = 2)/\RepE F x.id e))) \/
   (x.kind = 5/\(((inJ F x.id/\((jobAt F (x.id - 1).toNat).what = 1\/(jobAt F (x.id - 1).toNat).what = 2))/\e = 0)\/(¬ (inJ F x.id/\((jobAt F (x.id - 1).toNat).what = 1\/(jobAt F (x.id - 1).toNat).what = 2))/\RepE F x.id e))))))
theorem DoE.one {F:Fm} {x:Ev} {e f:Int} (h:DoE F x e) (g:DoE F x f):e = f:=by
  obtain ⟨a,ha,h⟩:=h
  obtain ⟨b,hb,g⟩:=g
  obtain rfl:=ha.one hb
  rcases h with ⟨h1,rfl⟩ | ⟨h1,h⟩ <;> rcases g with ⟨g1,rfl⟩ | ⟨g1,g⟩
  · rfl
  · exact absurd g1 h1
  · exact absurd h1 g1
  · rcases h with ⟨h2,h⟩ | ⟨h2,h⟩ | ⟨h2,h⟩ | ⟨h2,h⟩ | ⟨h2,h⟩ <;> rcases g with ⟨g2,g⟩ | ⟨g2,g⟩ | ⟨g2,g⟩ | ⟨g2,g⟩ | ⟨g2,g⟩ <;> first | omega | skip
    · exact h.one g
    · rcases h with ⟨h3,h⟩ | ⟨h3,h⟩ <;> rcases g with ⟨g3,g⟩ | ⟨g3,g⟩
      · exact h.trans g.symm
      · exact absurd h3 g3
      · exact absurd g3 h3
      · exact h.one g
    · rcases h with ⟨h3,h⟩ | ⟨h3,h⟩ <;> rcases g with ⟨g3,g⟩ | ⟨g3,g⟩
      · exact h.trans g.symm
      · exact absurd h3 g3
      · exact absurd g3 h3
      · exact h.one g
section
variable {O:Nat->Prop} {B fb:Nat} {w:World} {P:Pl} {F:Fm}
theorem Do_k (x:FXO O B w fb P F) (hp:Pre F) (hh:okHs F.hosts) (y:Ev) (pa:Option Addr) (ca:Nat) (pf:Option Addr) (cf:Nat) (hJ:IsJ w y.job pa ca pf) (hW:WfJ y.job) (hB:B <= w.heap.size) :
    FnP Tryz.prog F_farm_Farm_Do #[.pointer (ptr fb),evv y pa ca pf cf] w fun v w'=>∃ (e:Int) (P':Pl) (F':Fm),v = .int .i64 e/\((e = 0 ↔ can F y)/\DoE F y e)/\Did F y F'/\FXO O B w' fb P' F'/\Fr (ft fb P.jp) w w'/\grows w fb P.jp P'.jp:=by
  have gsame:∀ {jp},jp = P.jp->grows w fb P.jp jp:=fun h=>by subst h; exact fun b hb=>.inl hb
  refine ok_farm_Farm_Do (ptr fb) y.kind y.job.user y.job.prio y.job.nd.c y.job.nd.m y.job.nd.g y.job.ask.k y.job.ask.key y.job.ask.val y.job.ask.n pa y.job.ask.xs.length ca pf y.job.aft.length cf y.n y.id y.ok w _ fun b0 hb0 w1 h1=>(eErr_k y pa ca pf cf w1 (hJ.ext h1) hW).mono fun v w2 ⟨e2,e0,hv,he⟩=>⟨e2,e0,hv,fun hne w4 h4=>?_,fun hz=>?_⟩
  · have hno:¬ can F y:=fun h=>hne (he.ok.2 h.1)
    exact ⟨e0,P,F,rfl,⟨⟨fun h=>absurd h hne,fun h=>absurd h hno⟩,e0,he,.inl ⟨hne,rfl⟩⟩,.inl ⟨hno,rfl⟩,x.ext h4,fr_ext h4,fun b hb=>.inl hb⟩
  have hE:=he.ok.1 hz
  have kp:∀ {w4 w5:World},ExtB [] [b0] w w4->Fr (ft fb P.jp) w4 w5->Kept [b0] w4 w5:=fun x4 f=>f.kept fun b hb=>by
    simp at hb; subst hb
    refine ⟨x4.lt b (by simp),fun hf=>?_⟩
    have:=(x.foot hf).2
    omega
  have kE:∀ {w4 w5:World},ExtB [] [b0] w w4->Ext w4 w5->Kept [b0] w4 w5:=fun x4 f=>kp x4 (fr_ext f)
  have hk:=okE_kind hE
  refine ⟨fun h1 w4 x4=>?_,fun h1=>⟨fun h2 w4 x4=>?_,fun h2=>⟨fun h3 w4 x4=>?_,fun h3=>⟨fun h4 w4 x4=>?_,fun h4 w4 x4=>?_⟩⟩⟩⟩
  · have h4:=extB_ext x4
    refine (submit_k (x.ext h4) y.job pa ca pf cf (hJ.ext h4) hW (Nat.le_trans hB h4.size)).mono fun v w5 ⟨id,e,hv,⟨hiff,hS⟩,hc⟩=>?_
    have hcan:e = 0 ↔ can F y:=hiff.trans ⟨fun h=>⟨hE,fun _=>h,fun h=>by omega,fun h=>by omega,fun h=>by omega⟩,fun h=>h.2.1 h1⟩
    have hD:DoE F y e:=⟨e0,he,.inr ⟨hz,.inl ⟨h1,hS⟩⟩⟩
    rcases hc with ⟨hne,e5⟩ | ⟨hz,_,P',x5,f5,g5⟩
    · exact ⟨kE x4 e5,id,e,hv,fun w8 h8=>⟨e,P,F,rfl,⟨hcan,hD⟩,.inl ⟨fun h=>hne (hcan.2 h),rfl⟩,x.ext ((h4.trans e5).trans h8),fr_ext ((h4.trans e5).trans h8),fun b hb=>.inl hb⟩⟩
    · exact ⟨kp x4 f5,id,e,hv,fun w8 h8=>⟨e,P',_,rfl,⟨hcan,hD⟩,.inr ⟨hcan.1 hz,.inl ⟨h1,rfl⟩⟩,x5.ext h8,((fr_ext h4).tr f5).tr (fr_ext h8),fun b hb=>(g5 b hb).imp (fun h=>h) fun h=>Nat.le_trans h4.size h⟩⟩
  · have h4:=extB_ext x4
    refine (tick_k (x.ext h4) hp.now y.n).mono fun v w5 ⟨e,hv,hc,hiff⟩=>?_
    have hcan:e = 0 ↔ can F y:=hiff.trans ⟨fun h=>⟨hE,fun h=>by omega,fun _=>h,fun h=>by omega,fun h=>by omega⟩,fun h=>h.2.2.1 h2⟩
    rcases hc with ⟨hne,he4,e5⟩ | ⟨hz0,_,x5,f5⟩
    · exact ⟨kE x4 e5,e,hv,fun w8 h8=>⟨e,P,F,rfl,⟨hcan,e0,he,.inr ⟨hz,.inr (.inl ⟨h2,.inr ⟨he4,fun h=>hne (hiff.2 h)⟩⟩)⟩⟩,.inl ⟨fun h=>hne (hcan.2 h),rfl⟩,x.ext ((h4.trans e5).trans h8),fr_ext ((h4.trans e5).trans h8),fun b hb=>.inl hb⟩⟩
    · exact ⟨kp x4 f5,e,hv,fun w8 h8=>⟨e,P,_,rfl,⟨hcan,e0,he,.inr ⟨hz,.inr (.inl ⟨h2,.inl ⟨hz0,hiff.1 hz0⟩⟩)⟩⟩,.inr ⟨hcan.1 hz0,.inr (.inl ⟨h2,rfl⟩)⟩,x5.ext h8,((fr_ext h4).tr f5).tr (fr_ext h8),fun b hb=>.inl hb⟩⟩
  · have h4:=extB_ext x4
    refine (plan_k (x.ext h4) hp.aft hh).mono fun v w5 ⟨G,outs,out,outc,P',hv,hpl,_,_,hP,x5,f5,_⟩=>?_
    have hcan:(0:Int) = 0 ↔ can F y:=⟨fun _=>⟨hE,fun h=>by omega,fun h=>by omega,fun h=>by omega,fun h=>by omega⟩,fun _=>rfl⟩
    exact ⟨kp x4 f5,out,_,outc,0,hv,fun w8 h8=>⟨0,P',G,rfl,⟨hcan,e0,he,.inr ⟨hz,.inr (.inr (.inl ⟨h3,rfl⟩))⟩⟩,.inr ⟨hcan.1 rfl,.inr (.inr (.inl ⟨h3,outs,hpl⟩))⟩,x5.ext h8,((fr_ext h4).tr f5).tr (fr_ext h8),gsame hP⟩⟩
  · have h4':=extB_ext x4
    refine (report_k (x.ext h4') hp y.id (by unfold okE at hE; exact i64 (by omega)) y.ok).mono fun v w5 ⟨e,hv,hiff,hc⟩=>?_
    have hcan:e = 0 ↔ can F y:=hiff.trans ⟨fun h=>⟨hE,fun h=>by omega,fun h=>by omega,fun _=>h,fun h=>by omega⟩,fun h=>h.2.2.2.1 h4⟩
    rcases hc with ⟨hne,hR,e5⟩ | ⟨hz0,P',hP,x5,f5⟩
    · exact ⟨kE x4 e5,e,hv,fun w8 h8=>⟨e,P,F,rfl,⟨hcan,e0,he,.inr ⟨hz,.inr (.inr (.inr (.inl ⟨h4,.inr ⟨fun h=>hne (hiff.2 h),hR⟩⟩)))⟩⟩,.inl ⟨fun h=>hne (hcan.2 h),rfl⟩,x.ext ((h4'.trans e5).trans h8),fr_ext ((h4'.trans e5).trans h8),fun b hb=>.inl hb⟩⟩
    · exact ⟨kp x4 f5,e,hv,fun w8 h8=>⟨e,P',_,rfl,⟨hcan,e0,he,.inr ⟨hz,.inr (.inr (.inr (.inl ⟨h4,.inl ⟨hiff.1 hz0,hz0⟩⟩)))⟩⟩,.inr ⟨hcan.1 hz0,.inr (.inr (.inr (.inl ⟨h4,rfl⟩)))⟩,x5.ext h8,((fr_ext h4').tr f5).tr (fr_ext h8),gsame hP⟩⟩
  · have h5:y.kind = 5:=by omega
    have h4':=extB_ext x4
    refine (cancel_k (x.ext h4') hp y.id (by unfold okE at hE; exact i64 (by omega))).mono fun v w5 ⟨e,hv,hiff,hc⟩=>?_
    have hcan:e = 0 ↔ can F y:=hiff.trans ⟨fun h=>⟨hE,fun h=>by omega,fun h=>by omega,fun h=>by omega,fun _=>h⟩,fun h=>h.2.2.2.2 h5⟩
    rcases hc with ⟨hne,hR,e5⟩ | ⟨hz0,P',hP,x5,f5⟩
    · exact ⟨kE x4 e5,e,hv,fun w8 h8=>⟨e,P,F,rfl,⟨hcan,e0,he,.inr ⟨hz,.inr (.inr (.inr (.inr ⟨h5,.inr ⟨fun h=>hne (hiff.2 h),hR⟩⟩)))⟩⟩,.inl ⟨fun h=>hne (hcan.2 h),rfl⟩,x.ext ((h4'.trans e5).trans h8),fr_ext ((h4'.trans e5).trans h8),fun b hb=>.inl hb⟩⟩
    · exact ⟨kp x4 f5,e,hv,fun w8 h8=>⟨e,P',_,rfl,⟨hcan,e0,he,.inr ⟨hz,.inr (.inr (.inr (.inr ⟨h5,.inl ⟨hiff.1 hz0,hz0⟩⟩)))⟩⟩,.inr ⟨hcan.1 hz0,.inr (.inr (.inr (.inr ⟨h5,rfl⟩)))⟩,x5.ext h8,((fr_ext h4').tr f5).tr (fr_ext h8),gsame hP⟩⟩
end
end Go.Proofs.YtegephkpdlopaaaGreatDoor
set_option linter.unusedVariables false
set_option linter.unusedSimpArgs false
namespace Go.Proofs.YtegephkpdlopaaaGreatDoor
open Go.Sx Go.RowKit
theorem ndAt_add (a b:Nd) (p:Nat):ndAt (addN a b) p = ndAt a p + ndAt b p:=by unfold ndAt addN; split <;> rfl
theorem ndAt_sub (a b:Nd) (p:Nat):ndAt (subN a b) p = ndAt a p - ndAt b p:=by unfold ndAt subN; split <;> rfl
theorem fitN_at {a b:Nd}:fitN a b ↔ ∀ p,p < 3->ndAt a p <= ndAt b p:=by
  constructor
  · rintro ⟨h1,h2,h3⟩ i hi
    match i,hi with
    | 0,_ => exact h1
    | 1,_ => exact h2
    | 2,_ => exact h3
  · intro h
    exact ⟨h 0 (by omega),h 1 (by omega),h 2 (by omega)⟩
def termS (s:St) (i:Int) (p:Nat):Int:=if s.what = 2/\s.host = i then ndAt s.job.nd p else 0
def use (F:Fm) (i:Int) (p:Nat):Nat->Int
  | 0 => 0
  | n + 1 => use F i p n + termS (jobAt F n) i p
theorem termS_nn {s:St} (h:okN s.job.nd) (i:Int) {p:Nat} (hp:p < 3):0 <= termS s i p:=by
  unfold termS
  split
  · exact (okN_at.1 h p hp).1
  · omega
theorem use_nn {F:Fm} (h:∀ k,k < F.jobs.length->okN (jobAt F k).job.nd) (i:Int) {p:Nat} (hp:p < 3):∀ {n:Nat},n <= F.jobs.length->0 <= use F i p n
  | 0,_ => by simp [use]
  | n + 1,hn => by
    have:=use_nn h i hp (n:=n) (by omega)
    have:=termS_nn (h n (by omega)) i hp
    unfold use; omega
theorem use_ge {F:Fm} (h:∀ k,k < F.jobs.length->okN (jobAt F k).job.nd) (i:Int) {p:Nat} (hp:p < 3) {k:Nat}:∀ {n:Nat},n <= F.jobs.length->k < n->termS (jobAt F k) i p <= use F i p n
  | 0,_,hk => by omega
  | n + 1,hn,hk => by
    unfold use
    by_cases hkn:k = n
    · subst hkn
      have:=use_nn h i hp (n:=k) (by omega)
      omega
    · have:=use_ge h i hp (n:=n) (by omega) (by omega:k < n)
      have:=termS_nn (h n (by omega)) i hp
      omega
structure Turn (F G:Fm) (k:Nat) (s:St):Prop where
  len:G.jobs.length = F.jobs.length
  pol:G.pol = F.pol
  now:G.now = F.now
  hlen:G.hosts.length = F.hosts.length
  at_:∀ i,jobAt G i = if i = k then s else jobAt F i
  job:s.job = (jobAt F k).job
theorem Turn.self {F G:Fm} {k:Nat} {s:St} (t:Turn F G k s):jobAt G k = s:=by rw [t.at_,if_pos rfl]
theorem Turn.other {F G:Fm} {k:Nat} {s:St} (t:Turn F G k s) {i:Nat} (h:i ≠ k):jobAt G i = jobAt F i:=by rw [t.at_,if_neg h]
theorem Turn.jobs {F G:Fm} {k:Nat} {s:St} (t:Turn F G k s) (i:Nat):(jobAt G i).job = (jobAt F i).job:=by
  rw [t.at_]
  split
  · rename_i h; rw [h]; exact t.job
  · rfl
theorem use_turn {F G:Fm} {k:Nat} {s:St} (t:Turn F G k s) (i:Int) (p:Nat):∀ n,use G i p n = use F i p n + (if k < n then termS s i p - termS (jobAt F k) i p else 0)
  | 0 => by simp [use]
  | n + 1 => by
    unfold use
    rw [use_turn t i p n,t.at_ n]
    by_cases h1:n = k
    · subst h1
      rw [if_pos rfl,if_neg (by omega),if_pos (by omega)]; omega
    · rw [if_neg h1]
      by_cases h2:k < n
      · rw [if_pos h2,if_pos (by omega)]; omega
      · rw [if_neg h2,if_neg (by omega)]; omega
def triesOk (p:Pol) (s:St):Prop:=0 <= s.tries/\s.tries <= p.tries + 1/\(s.what = 4->s.tries = p.tries + 1)/\(s.what = 1\/s.what = 2->s.tries <= p.tries)/\(s.what = 1->0 < s.tries->delayP p s.tries <= s.again)
def aftJ (F:Fm):Prop:=∀ k,k < F.jobs.length->∀ y ∈ (jobAt F k).job.aft,1 <= y/\y <= k
theorem aftOk_iff {F:Fm}:aftOk F ↔ aftJ F:=by
  constructor
  · intro h k hk y hy
    exact h k _ (jobAt_some hk) y hy
  · intro h i s hs y hy
    have hi:i < F.jobs.length:=(List.getElem?_eq_some_iff.1 hs).1
    rw [<- jobAt_of hs] at hy
    exact h i hi y hy
structure Inv0 (F:Fm):Prop where
  aft:aftJ F
  pol:okPol F.pol
  now:0 <= F.now/\F.now <= 1099511627776
  hs:okHs F.hosts
  nd:∀ k,k < F.jobs.length->okN (jobAt F k).job.nd
  hrun:∀ k,k < F.jobs.length->(jobAt F k).what = 2->0 <= (jobAt F k).host/\(jobAt F k).host < F.hosts.length
  use:∀ i:Nat,i < F.hosts.length->∀ p,p < 3->ndAt (F.hosts.getD i default).used p = use F i p F.jobs.length
  ahead:∀ k,k < F.jobs.length->(jobAt F k).what = 2\/(jobAt F k).what = 3->∀ y ∈ (jobAt F k).job.aft,whatAt F y = 3
  tries:∀ k,k < F.jobs.length->triesOk F.pol (jobAt F k)
def waits (F:Fm) (n:Nat):Prop:=∀ k,k < n->(jobAt F k).what = 1->∀ y ∈ (jobAt F k).job.aft,whatAt F y ≠ 4/\whatAt F y ≠ 5
structure Inv (F:Fm):Prop where
  i0:Inv0 F
  wt:waits F F.jobs.length
theorem Inv0.lv {F:Fm} (I:Inv0 F) {k:Nat} (hk:k < F.jobs.length) (hw:(jobAt F k).what = 2):LvOk F k:=by
  obtain ⟨h0,h1⟩:=I.hrun k hk hw
  refine ⟨I.hs,h0,h1,fitN_at.2 fun p hp=>?_⟩
  rw [I.use _ (by omega) p hp]
  have:=use_ge I.nd (((jobAt F k).host.toNat:Nat):Int) hp (k:=k) (n:=F.jobs.length) (Nat.le_refl _) hk
  unfold termS at this
  rw [if_pos ⟨hw,by omega⟩] at this
  exact this
theorem Inv0.pre {F:Fm} (I:Inv0 F):Pre F:=⟨aftOk_iff.2 I.aft,I.pol,I.now,fun k hk hw=>I.lv hk hw,fun k hk=>by
  have h:=I.tries k hk
  have hp:=I.pol
  unfold triesOk at h
  unfold okPol okP at hp
  omega⟩
theorem whatAt_job (F:Fm) (y:Int):whatAt F y = (jobAt F (y - 1).toNat).what:=rfl
theorem inv0_turn {F G:Fm} {k:Nat} {s:St} (I:Inv0 F) (t:Turn F G k s) (hk:k < F.jobs.length) (hhs:okHs G.hosts) (hrun:s.what = 2->0 <= s.host/\s.host < F.hosts.length)
    (huse:∀ i:Nat,i < F.hosts.length->∀ p,p < 3->ndAt (G.hosts.getD i default).used p = ndAt (F.hosts.getD i default).used p + (termS s i p - termS (jobAt F k) i p))
    (ha:s.what = 2\/s.what = 3->∀ y ∈ s.job.aft,whatAt F y = 3) (hb:(jobAt F k).what = 3->s.what = 3) (ht:triesOk F.pol s):Inv0 G:=by
  have haft:aftJ G:=fun i hi y hy=>by
    rw [t.jobs] at hy
    rw [t.len] at hi
    exact I.aft i hi y hy
  refine ⟨haft,by rw [t.pol]; exact I.pol,by rw [t.now]; exact I.now,hhs,fun i hi=>by rw [t.jobs]; exact I.nd i (by rw [t.len] at hi; exact hi),fun i hi hw=>?_,fun i hi p hp=>?_,fun i hi hw y hy=>?_,fun i hi=>?_⟩
  · rw [t.hlen]
    rw [t.len] at hi
    rw [t.at_] at hw ⊢
    split at hw
    · rename_i h; rw [if_pos h]; exact hrun hw
    · rename_i h; rw [if_neg h]; exact I.hrun i hi hw
  · rw [t.hlen] at hi
    rw [huse i hi p hp,I.use i hi p hp,t.len,use_turn t,if_pos hk]
  · rw [t.len] at hi
    have hy':=hy
    rw [t.jobs] at hy'
    have hle:=I.aft i hi y hy'
    rw [whatAt_job,t.at_]
    by_cases hik:i = k
    · subst hik
      rw [if_neg (by omega),<- whatAt_job]
      rw [t.self] at hw hy
      exact ha hw y hy
    · rw [t.other hik] at hw
      have h3:=I.ahead i hi hw y hy'
      split
      · rename_i h
        rw [whatAt_job,h] at h3
        exact hb h3
      · exact h3
  · rw [t.len] at hi
    rw [t.pol,t.at_]
    split
    · exact ht
    · exact I.tries i hi
theorem Turn.st (F:Fm) {k m:Nat} (v:Int) (hk:k < F.jobs.length):Turn F (stF F k m v) k (setS m v (jobAt F k)):=⟨st_len F k m v,rfl,rfl,rfl,fun i=>st_at F v hk i,setS_job m v _⟩
theorem badB_iff {F:Fm} {s:St}:badB F s = true ↔ ∃ y ∈ s.job.aft,whatAt F y = 4\/whatAt F y = 5:=by
  unfold badB
  rw [List.any_eq_true]
  simp [Bool.or_eq_true]
theorem lost_step {F:Fm} (I:Inv0 F) {n:Nat} (hn:n < F.jobs.length) (hw:waits F n):Inv0 (lostStep F n)/\waits (lostStep F n) (n + 1):=by
  unfold lostStep
  split
  · rename_i h
    have t:=Turn.st F (m:=11) 5 hn
    have h5:(setS 11 5 (jobAt F n)).what = 5:=rfl
    refine ⟨inv0_turn I t hn I.hs (fun h2=>by rw [h5] at h2; omega) (fun i hi p hp=>?_) (fun h2=>by rw [h5] at h2; omega) (fun h3=>by rw [h.1] at h3; omega) ?_,fun k hk h1 y hy=>?_⟩
    · have e1:termS (setS 11 5 (jobAt F n)) i p = 0:=by unfold termS; rw [if_neg (fun h=>by rw [h5] at h; omega)]
      have e2:termS (jobAt F n) i p = 0:=by unfold termS; rw [if_neg (fun g=>by rw [h.1] at g; omega)]
      rw [e1,e2,st_hosts]; omega
    · have:=I.tries n hn
      unfold triesOk at this ⊢
      simp only [setS]
      omega
    · rw [t.at_] at h1
      rw [t.jobs] at hy
      split at h1
      · rw [h5] at h1; omega
      · rename_i hkn
        have hle:=I.aft k (by omega) y hy
        have:=hw k (by omega) h1 y hy
        rw [whatAt_job,t.other (by omega),<- whatAt_job]
        exact this
  · rename_i h
    refine ⟨I,fun k hk h1 y hy=>?_⟩
    by_cases hkn:k = n
    · subst hkn
      have:badB F (jobAt F k) ≠ true:=fun hb=>h ⟨h1,hb⟩
      rw [Ne,badB_iff] at this
      exact ⟨fun h=>this ⟨y,hy,.inl h⟩,fun h=>this ⟨y,hy,.inr h⟩⟩
    · exact hw k (by omega) h1 y hy
theorem lost_inv {F:Fm} (I:Inv0 F):Inv (lostF F):=by
  have h:∀ n,n <= F.jobs.length->Inv0 (lostTo F n)/\waits (lostTo F n) n:=by
    intro n
    induction n with
    | zero => intro _; exact ⟨I,fun k hk => by omega⟩
    | succ n ih =>
      intro hn
      obtain ⟨a,b⟩:=ih (by omega)
      exact lost_step a (by rw [lostTo_len]; omega) b
  obtain ⟨a,b⟩:=h _ (Nat.le_refl _)
  refine ⟨a,?_⟩
  unfold lostF
  rw [lostTo_len]
  exact b
theorem give_use {F:Fm} {k:Nat} (i:Nat) (p:Nat) (h0:0 <= (jobAt F k).host) (h1:(jobAt F k).host < F.hosts.length) (hw:(jobAt F k).what = 2):ndAt ((giveF F k).hosts.getD i default).used p = ndAt (F.hosts.getD i default).used p - termS (jobAt F k) i p:=by
  unfold giveF termS
  by_cases hi:(jobAt F k).host.toNat = i
  · rw [if_pos ⟨hw,by omega⟩]
    subst hi
    simp only [List.getD_eq_getElem?_getD,List.getElem?_set_self (show (jobAt F k).host.toNat < F.hosts.length by omega)]
    simp only [Option.getD_some,usedH]
    rw [ndAt_sub]
  · rw [if_neg (fun h=>by omega)]
    simp only [List.getD_eq_getElem?_getD,List.getElem?_set_ne hi]
    omega
theorem give_ok {F:Fm} (I:Inv0 F) {k:Nat} (hk:k < F.jobs.length) (hw:(jobAt F k).what = 2):okHs (giveF F k).hosts:=by
  obtain ⟨_,h0,h1,hf⟩:=I.lv hk hw
  have hm:=getD_mem F.hosts default (i:=(jobAt F k).host.toNat) (by omega)
  obtain ⟨_,_,_,c,d,e⟩:=I.hs.2.1 _ hm
  have hn:=I.nd k hk
  refine okHs_used I.hs (by omega) ?_ ?_
  · unfold okN fitN subN at *; simp only; omega
  · unfold okN fitN subN at *; simp only; omega
theorem inv0_left {F G:Fm} {k:Nat} {s:St} (I:Inv0 F) (hk:k < F.jobs.length) (hw:(jobAt F k).what = 2) (t:Turn F G k s) (hG:G.hosts = (giveF F k).hosts) (hs:s.what ≠ 2) (ht:triesOk F.pol s):Inv0 G:=by
  obtain ⟨h0,h1⟩:=I.hrun k hk hw
  refine inv0_turn I t hk (by rw [hG]; exact give_ok I hk hw) (fun h=>absurd h hs) (fun i hi p hp=>?_) (fun h y hy=>?_) (fun h=>by omega) ht
  · rw [hG,give_use i p h0 h1 hw]
    have:termS s i p = 0:=by unfold termS; rw [if_neg (fun h=>hs h.1)]
    rw [this]; omega
  · rw [t.job] at hy
    exact I.ahead k hk (.inl hw) y hy
theorem waits_turn {F G:Fm} {k:Nat} {s:St} (I:Inv F) (t:Turn F G k s) (hk:k < F.jobs.length) (hs:s.what ≠ 4/\s.what ≠ 5) (h1:s.what = 1->∀ y ∈ s.job.aft,whatAt F y ≠ 4/\whatAt F y ≠ 5):waits G G.jobs.length:=fun i hi hw y hy=>by
  rw [t.len] at hi
  have hy':=hy
  rw [t.jobs] at hy'
  have hle:=I.i0.aft i hi y hy'
  rw [whatAt_job,t.at_]
  split
  · exact hs
  · rw [<- whatAt_job]
    by_cases hik:i = k
    · subst hik
      rw [t.self] at hw hy
      exact h1 hw y hy
    · rw [t.other hik] at hw
      exact I.wt i hi hw y hy'
theorem Turn.left {F:Fm} {k:Nat} (hk:k < F.jobs.length):Turn F (leaveF F k) k { jobAt F k with host:=0,since:=0 }:=⟨leave_len F k,rfl,rfl,by unfold leaveF; rw [st_hosts,st_hosts]; unfold giveF; simp,fun i=>leave_at hk i,rfl⟩
theorem Turn.then_ {F G:Fm} {k:Nat} {s:St} (t:Turn F G k s) (hk:k < F.jobs.length) (m:Nat) (v:Int):Turn F (stF G k m v) k (setS m v s):=by
  have u:=Turn.st G (m:=m) v (by rw [t.len]; exact hk)
  refine ⟨u.len.trans t.len,u.pol.trans t.pol,u.now.trans t.now,u.hlen.trans t.hlen,fun i=>?_,(setS_job m v s).trans t.job⟩
  rw [u.at_]
  split
  · rw [t.self]
  · rename_i h; rw [t.other h]
theorem rep_inv {F:Fm} (I:Inv F) {k:Nat} (hk:k < F.jobs.length) (hw:(jobAt F k).what = 2) (ok:Bool):Inv (repF F k ok):=by
  have ht:=I.i0.tries k hk
  have hp:=I.i0.pol
  have tl:=Turn.left hk
  have h3:=I.i0.ahead k hk (.inl hw)
  have hn:=I.i0.now
  unfold repF
  split
  · have t:=tl.then_ hk 11 3
    refine ⟨inv0_left I.i0 hk hw t rfl (by simp [setS]) ?_,waits_turn I t hk (by simp [setS]) (by simp [setS])⟩
    unfold triesOk at ht ⊢
    simp only [setS]
    omega
  have tt:Turn F (triedF F k) k _:=tl.then_ hk 15 ((jobAt F k).tries + 1)
  split
  · rename_i hle
    have t:=(tt.then_ hk 11 1).then_ hk 14 (F.now + delayP F.pol ((jobAt F k).tries + 1))
    refine ⟨inv0_left I.i0 hk hw t rfl (by simp [setS]) ?_,waits_turn I t hk (by simp [setS]) (fun _ y hy=>?_)⟩
    · unfold triesOk at ht ⊢
      simp only [setS]
      refine ⟨by omega,by omega,by omega,by omega,fun _ _=>by omega⟩
    · have:=h3 y hy
      omega
  · rename_i hgt
    have t:=tt.then_ hk 11 4
    refine lost_inv (inv0_left I.i0 hk hw t rfl (by simp [setS]) ?_)
    unfold triesOk at ht ⊢
    simp only [setS]
    omega
theorem can_inv {F:Fm} (I:Inv F) {k:Nat} (hk:k < F.jobs.length) (hw:(jobAt F k).what = 1\/(jobAt F k).what = 2):Inv (canF F k):=by
  have ht:=I.i0.tries k hk
  unfold canF
  refine lost_inv ?_
  split
  · rename_i h2
    have t:=(Turn.left hk).then_ hk 11 5
    refine inv0_left I.i0 hk h2 t rfl (by simp [setS]) ?_
    unfold triesOk at ht ⊢
    simp only [setS]
    omega
  · rename_i h2
    have h1:(jobAt F k).what = 1:=by omega
    have t:=Turn.st F (m:=11) 5 hk
    refine inv0_turn I.i0 t hk I.i0.hs (by simp [setS]) (fun i hi p hp=>?_) (by simp [setS]) (fun h=>by omega) ?_
    · have e1:termS (setS 11 5 (jobAt F k)) i p = 0:=by unfold termS; rw [if_neg (by simp [setS])]
      have e2:termS (jobAt F k) i p = 0:=by unfold termS; rw [if_neg (by omega)]
      rw [e1,e2,st_hosts]; omega
    · unfold triesOk at ht ⊢
      simp only [setS]
      omega
end Go.Proofs.YtegephkpdlopaaaGreatDoor
set_option linter.unusedVariables false
set_option linter.unusedSimpArgs false
namespace Go.Proofs.YtegephkpdlopaaaGreatDoor
open Go.Sx Go.RowKit
theorem sub_at {F:Fm} {j:Jb} (i:Nat):jobAt (subF F j) i = if i < F.jobs.length then jobAt F i else if i = F.jobs.length then newS j else default:=by
  unfold jobAt subF
  simp only [List.getD_eq_getElem?_getD]
  split
  · rename_i h; rw [List.getElem?_append_left h]
  · rename_i h
    rw [List.getElem?_append_right (by omega)]
    split
    · rename_i h2; rw [h2]; simp
    · rename_i h2
      rw [List.getElem?_eq_none (by simp; omega)]; rfl
theorem sub_len (F:Fm) (j:Jb):(subF F j).jobs.length = F.jobs.length + 1:=by simp [subF]
theorem use_sub {F:Fm} {j:Jb} (i:Int) (p:Nat):∀ n,n <= F.jobs.length->use (subF F j) i p n = use F i p n
  | 0,_ => rfl
  | n + 1,h => by
    unfold use
    rw [use_sub i p n (by omega),sub_at,if_pos (by omega)]
theorem upA_ge {l:List Int} (h:upA 0 l):∀ x ∈ l,1 <= x:=fun x hx=>(upA_mem h x hx).1
theorem sub_inv {F:Fm} {j:Jb} (I:Inv F) (h:okSub F j):Inv (subF F j):=by
  have hup:∀ x ∈ j.aft,1 <= x:=upA_ge h.1.up
  have wh:∀ y:Int,1 <= y->y <= F.jobs.length->whatAt (subF F j) y = whatAt F y:=fun y h1 h2=>by rw [whatAt_job,sub_at,if_pos (by omega),<- whatAt_job]
  have cs:∀ {k},k < (subF F j).jobs.length->k < F.jobs.length/\jobAt (subF F j) k = jobAt F k\/k = F.jobs.length/\jobAt (subF F j) k = newS j:=fun {k} hk=>by
    rw [sub_len] at hk
    rw [sub_at]
    by_cases h:k < F.jobs.length
    · exact .inl ⟨h,if_pos h⟩
    · exact .inr ⟨by omega,by rw [if_neg h,if_pos (by omega)]⟩
  refine ⟨⟨fun k hk y hy=>?_,I.i0.pol,I.i0.now,I.i0.hs,fun k hk=>?_,fun k hk hw=>?_,fun i hi p hp=>?_,fun k hk hw y hy=>?_,fun k hk=>?_⟩,fun k hk hw y hy=>?_⟩
  · rcases cs hk with ⟨hk,e⟩ | ⟨hk,e⟩ <;> rw [e] at hy
    · exact I.i0.aft k hk y hy
    · have:=(h.2.2 y hy).1
      exact ⟨hup y hy,by omega⟩
  · rcases cs hk with ⟨hk,e⟩ | ⟨hk,e⟩ <;> rw [e]
    · exact I.i0.nd k hk
    · exact h.1.nd
  · rcases cs hk with ⟨hk,e⟩ | ⟨hk,e⟩ <;> rw [e] at hw ⊢
    · exact I.i0.hrun k hk hw
    · simp [newS] at hw
  · rw [sub_len]
    unfold use
    rw [use_sub _ _ _ (Nat.le_refl _),sub_at,if_neg (by omega),if_pos rfl]
    have:termS (newS j) i p = 0:=by unfold termS; rw [if_neg (by simp [newS])]
    rw [this]
    have:=I.i0.use i hi p hp
    show ndAt (F.hosts.getD i default).used p = _
    omega
  · rcases cs hk with ⟨hk,e⟩ | ⟨hk,e⟩ <;> rw [e] at hw hy
    · have:=I.i0.aft k hk y hy
      rw [wh y this.1 (by omega)]
      exact I.i0.ahead k hk hw y hy
    · simp [newS] at hw
  · rcases cs hk with ⟨hk,e⟩ | ⟨hk,e⟩ <;> rw [e]
    · exact I.i0.tries k hk
    · have hp:=I.i0.pol
      unfold okPol okP at hp
      show triesOk F.pol (newS j)
      unfold triesOk newS
      simp only
      omega
  · rcases cs hk with ⟨hk,e⟩ | ⟨hk,e⟩ <;> rw [e] at hw hy
    · have:=I.i0.aft k hk y hy
      rw [wh y this.1 (by omega)]
      exact I.wt k hk hw y hy
    · have h1:=h.2.2 y hy
      rw [wh y (hup y hy) h1.1]
      exact h1.2
theorem ready_iff {F:Fm} {s:St}:readyB F s = true ↔ s.what = 1/\s.again <= F.now/\∀ y ∈ s.job.aft,whatAt F y = 3:=by
  unfold readyB
  simp [Bool.and_eq_true,List.all_eq_true,and_assoc]
theorem Turn.run {F:Fm} {k0:Nat} {k:Int} (hk:k0 < F.jobs.length):Turn F (runF F k0 k) k0 { jobAt F k0 with what:=2,host:=k,since:=F.now }:=⟨run_len F k0 k,rfl,rfl,by show (takeF F k0 k).hosts.length = _; unfold takeF; simp,fun i=>run_at hk k i,rfl⟩
theorem run_hosts (F:Fm) (k0:Nat) (k:Int):(runF F k0 k).hosts = (takeF F k0 k).hosts:=rfl
theorem best_fits {L:List Ht} {t:AT} {a:Nd} {k:Int} (h:BestIs L t a k):0 <= k/\k < L.length/\fitN a (subN (L.getD k.toNat default).has (L.getD k.toNat default).used):=by
  obtain ⟨h0,h1,h2⟩:=mem_fits.1 h.1
  unfold fitI at h2
  rw [Bool.and_eq_true,decide_eq_true_iff] at h2
  exact ⟨h0,h1,h2.2⟩
theorem take_use {F:Fm} {k0:Nat} {k:Int} (i:Nat) (p:Nat) (h0:0 <= k) (h1:k < F.hosts.length):ndAt ((takeF F k0 k).hosts.getD i default).used p = ndAt (F.hosts.getD i default).used p + (if k = i then ndAt (jobAt F k0).job.nd p else 0):=by
  unfold takeF hostAt
  by_cases hi:k.toNat = i
  · rw [if_pos (by omega)]
    subst hi
    simp only [List.getD_eq_getElem?_getD,List.getElem?_set_self (show k.toNat < F.hosts.length by omega)]
    simp only [Option.getD_some,usedH]
    rw [ndAt_add]
  · rw [if_neg (fun h=>by omega)]
    simp only [List.getD_eq_getElem?_getD,List.getElem?_set_ne hi]
    omega
theorem run_inv {F:Fm} (I:Inv F) {k0:Nat} (hk:k0 < F.jobs.length) (hr:readyB F (jobAt F k0) = true) {k:Int} (hb:BestIs F.hosts (jobAt F k0).job.ask (jobAt F k0).job.nd k):Inv (runF F k0 k):=by
  obtain ⟨h0,h1,hf⟩:=best_fits hb
  obtain ⟨r1,r2,r3⟩:=ready_iff.1 hr
  have t:=Turn.run (k:=k) hk
  have ht:=I.i0.tries k0 hk
  refine ⟨inv0_turn I.i0 t hk (by rw [run_hosts]; exact okHs_take I.i0.hs h0 h1 (I.i0.nd k0 hk) hf) (fun _=>⟨h0,h1⟩) (fun i hi p hp=>?_) (fun _ y hy=>r3 y hy) (fun h=>by omega) ?_,waits_turn I t hk (by simp) (by simp)⟩
  · rw [run_hosts,take_use i p h0 h1]
    have e2:termS (jobAt F k0) i p = 0:=by unfold termS; rw [if_neg (by omega)]
    rw [e2]
    unfold termS
    simp only [true_and]
    omega
  · unfold triesOk at ht ⊢
    simp only
    omega
theorem PRun.ind {Mot:Fm->Prop} (step:∀ F id k,inJ F id->readyB F (jobAt F (id - 1).toNat) = true->BestIs F.hosts (jobAt F (id - 1).toNat).job.ask (jobAt F (id - 1).toNat).job.nd k->Mot F->Mot (runF F (id - 1).toNat k)) :
    ∀ {F G:Fm} {ids:List Int} {outs:List (Int × Int)},PRun F ids G outs->ids.Nodup->(∀ id ∈ ids,inJ F id/\readyB F (jobAt F (id - 1).toNat) = true)->Mot F->Mot G:=by
  intro F G ids outs h
  induction h with
  | nil F => intro _ _ m; exact m
  | skip h1 _ ih =>
    intro hn hr m
    exact ih (List.nodup_cons.1 hn).2 (fun id h=>hr id (List.mem_cons_of_mem _ h)) m
  | @run F F' id k ids out h1 _ ih =>
    intro hn hr m
    obtain ⟨hin,hrd⟩:=hr id (List.mem_cons_self ..)
    have hk:(id - 1).toNat < F.jobs.length:=by have:=hin.1; have:=hin.2; omega
    have t:=Turn.run (k:=k) hk
    refine ih (List.nodup_cons.1 hn).2 (fun id' h=>?_) (step F id k hin hrd h1 m)
    obtain ⟨hin',hrd'⟩:=hr id' (List.mem_cons_of_mem _ h)
    have hne:id' ≠ id:=fun h2=>(List.nodup_cons.1 hn).1 (h2 ▸ h)
    have hk':(id' - 1).toNat ≠ (id - 1).toNat:=by have:=hin.1; have:=hin'.1; omega
    refine ⟨⟨hin'.1,by rw [t.len]; exact hin'.2⟩,?_⟩
    rw [t.other hk']
    rw [ready_iff] at hrd' hrd ⊢
    refine ⟨hrd'.1,by rw [t.now]; exact hrd'.2.1,fun y hy=>?_⟩
    have:=hrd'.2.2 y hy
    rw [whatAt_job] at this ⊢
    rw [t.at_]
    split
    · rename_i h; rw [h] at this; omega
    · exact this
theorem ord_nodup {F:Fm} {T:List Int} (h:IsOrd F T):T.Nodup:=(h.1.nodup_iff).2 (rdyTo_nodup F _)
theorem ord_ready {F:Fm} {T:List Int} (h:IsOrd F T):∀ id ∈ T,inJ F id/\readyB F (jobAt F (id - 1).toNat) = true:=fun id hi=>by
  obtain ⟨a,b,c⟩:=mem_rdyTo.1 (h.1.mem_iff.1 hi)
  exact ⟨⟨a,b⟩,c⟩
theorem plan_ind {Mot:Fm->Prop} (step:∀ F id k,inJ F id->readyB F (jobAt F (id - 1).toNat) = true->BestIs F.hosts (jobAt F (id - 1).toNat).job.ask (jobAt F (id - 1).toNat).job.nd k->Mot F->Mot (runF F (id - 1).toNat k)) {F G:Fm} {outs:List (Int × Int)} (h:Planned F G outs) (m:Mot F):Mot G:=by
  obtain ⟨T,h1,h2⟩:=h
  exact h2.ind step (ord_nodup h1) (ord_ready h1) m
theorem inJ_lt {F:Fm} {id:Int} (h:inJ F id):(id - 1).toNat < F.jobs.length:=by have:=h.1; have:=h.2; omega
theorem plan_inv {F G:Fm} {outs:List (Int × Int)} (h:Planned F G outs) (I:Inv F):Inv G :=
  plan_ind (fun F id k hin hr hb I=>run_inv I (inJ_lt hin) hr hb) h I
theorem did_inv {F G:Fm} {x:Ev} (h:Did F x G) (I:Inv F):Inv G:=by
  rcases h with ⟨_,rfl⟩ | ⟨hc,h⟩
  · exact I
  obtain ⟨hE,c1,c2,c4,c5⟩:=hc
  rcases h with ⟨a,rfl⟩ | ⟨a,rfl⟩ | ⟨a,o,h⟩ | ⟨a,rfl⟩ | ⟨a,rfl⟩
  · exact sub_inv I (c1 a)
  · have h2:=c2 a
    have hn:=I.i0.now
    exact ⟨⟨I.i0.aft,I.i0.pol,by show 0 <= F.now + x.n/\F.now + x.n <= 1099511627776; omega,I.i0.hs,I.i0.nd,I.i0.hrun,by
      intro i hi p hp
      have:=I.i0.use i hi p hp
      have e:∀ n,use { F with now:=F.now + x.n } i p n = use F i p n:=fun n=>by
        induction n with
        | zero => rfl
        | succ n ih => unfold use; rw [ih]; rfl
      rw [e]; exact this,I.i0.ahead,I.i0.tries⟩,I.wt⟩
  · exact plan_inv h I
  · exact rep_inv I (inJ_lt (c4 a).1) (c4 a).2 x.ok
  · exact can_inv I (inJ_lt (c5 a).1) (c5 a).2
theorem new_inv {L:List Ht} {pol:Pol} (h:okNew L pol):Inv (newF L pol):=by
  refine ⟨⟨fun k hk=>(by simp [newF] at hk),h.2.2,by simp [newF],h.1,fun k hk=>(by simp [newF] at hk),fun k hk=>(by simp [newF] at hk),fun i hi p hp=>?_,fun k hk=>(by simp [newF] at hk),fun k hk=>(by simp [newF] at hk)⟩,fun k hk=>(by simp [newF] at hk)⟩
  have hm:=h.2.1 _ (getD_mem L default (i:=i) hi)
  show ndAt (L.getD i default).used p = 0
  rw [hm]
  unfold ndAt zeroN
  split <;> rfl
def Plays (F:Fm):List Ev->Fm->Prop
  | [],G => G = F
  | x :: L,G => ∃ F1,Did F x F1/\Plays F1 L G
theorem plays_snoc {x:Ev} {H:Fm}:∀ {L:List Ev} {F G:Fm},Plays F L G->Did G x H->Plays F (L ++ [x]) H
  | [],F,G,h,d => by
    have:G = F:=h
    subst this
    exact ⟨H,d,rfl⟩
  | y :: L,F,G,⟨F1,h1,h2⟩,d => ⟨F1,h1,plays_snoc h2 d⟩
theorem plays_one {L:List Ev}:∀ {F G1 G2:Fm},Plays F L G1->Plays F L G2->G1 = G2:=by
  induction L with
  | nil => intro F G1 G2 h g; exact (show G1 = F from h).trans (show G2 = F from g).symm
  | cons x L ih =>
    rintro F G1 G2 ⟨F1,h1,h2⟩ ⟨F2,g1,g2⟩
    obtain rfl:=did_one h1 g1
    exact ih h2 g2
theorem plays_ind {Mot:Fm->Prop} (step:∀ F G x,Did F x G->Mot F->Mot G):∀ {L:List Ev} {F G:Fm},Plays F L G->Mot F->Mot G
  | [],F,G,h,m => by have:G = F:=h; subst this; exact m
  | x :: L,F,G,⟨F1,h1,h2⟩,m => plays_ind step h2 (step _ _ _ h1 m)
theorem plays_inv {L:List Ev} {F G:Fm} (h:Plays F L G) (I:Inv F):Inv G:=plays_ind (fun _ _ _ d I=>did_inv d I) h I
end Go.Proofs.YtegephkpdlopaaaGreatDoor
set_option linter.unusedVariables false
set_option linter.unusedSimpArgs false
namespace Go.Proofs.YtegephkpdlopaaaGreatDoor
open Go.Sx Go.RowKit
structure JRow (n:Nat) (w:World) (p:Option Addr) (c:Nat) (R:List StR):Prop where
  own:Own n w T_State 16 p R.length c (R.flatMap encS)
  far:∀ r ∈ R,Far n w fun w''=>IsJ w'' r.s.job r.pa r.ca r.pf
theorem JRow.ext {n:Nat} {w w':World} {p:Option Addr} {c:Nat} {R:List StR} (h:JRow n w p c R) (e:Ext w w'):JRow n w' p c R:=⟨h.own.ext e,fun r hr=>(h.far r hr).ext e⟩
theorem errC_errA {t:AT} (h:errC t = 0):errA t = 0:=by
  unfold errC at h
  split at h
  · omega
  · exact h
section
variable {O:Nat->Prop} {B fb:Nat} {w:World} {P:Pl} {F:Fm}
theorem Jobs_k (x:FXO O B w fb P F):FnP Tryz.prog F_farm_Farm_Jobs #[.pointer (ptr fb)] w fun v w'=>Ext w w'/\∃ (p:Option Addr) (c:Nat) (R:List StR),v = .slice p R.length c/\R.map (·.s) = F.jobs/\JRow w.heap.size w' p c R:=by
  have ne:=ptr_ne fb
  have hl:=x.len
  have hl0:=x.jO.1
  refine ok_farm_Farm_Jobs (ptr fb) w _ ⟨ne,ne,_,_,_,x.cell (i:=6) rfl,?_⟩
  rw [hl]
  refine ⟨fun out outl outc k w'=>Ext w w'/\0 <= k/\k <= F.jobs.length/\outl = k.toNat/\∃ R:List StR,R.map (·.s) = F.jobs.take k.toNat/\Own w.heap.size w' T_State 16 out outl outc (R.flatMap encS) /\
      ∀ r ∈ R,∀ w'',Fr (fun b=>b < w.heap.size\/∃ a,out = some a/\a.block = b) w' w''->IsJ w'' r.s.job r.pa r.ca r.pf,
    fun _ _ _ k _=>(F.jobs.length - k).toNat,⟨Ext.refl _,by omega,by omega,rfl,[],rfl,Own.nil,fun x hx=>(by cases hx)⟩,?_⟩
  rintro out outl outc k w6 ⟨x6,hk0,hk1,rfl,R,hR,oR,hT⟩
  have hRl:R.length = k.toNat:=by have:=congrArg List.length hR; rw [List.length_map,List.length_take] at this; omega
  refine ⟨fun hlt=>?_,fun hge w7 h7=>?_⟩
  · obtain ⟨r,hr,hF,hjp,hne,g,_,hJ,hok,hwf⟩:=(x.ext x6).st hk0 hlt
    refine ⟨hjp,hk0,hlt,hne,_,g 0 _ rfl,_,g 1 _ rfl,_,g 2 _ rfl,_,g 3 _ rfl,_,g 4 _ rfl,_,g 5 _ rfl,_,g 6 _ rfl,_,g 7 _ rfl,_,g 8 _ rfl,_,_,_,g 9 _ rfl,_,_,_,g 10 _ rfl,_,g 11 _ rfl,_,g 12 _ rfl,_,g 13 _ rfl,_,g 14 _ rfl,_,g 15 _ rfl,fun b27 hb27 w28 x28=>?_⟩
    have h28:=extB_ext x28
    refine (ownS_k r w28 (hJ.ext h28) (errC_errA hok.ask) hok.len).mono fun v w29 ⟨e29,r',hv,hrs,hF'⟩=>⟨e29,_,_,_,_,_,_,_,_,_,r'.pa,_,r'.ca,r'.pf,_,r'.cf,_,_,_,_,_,hv,?_⟩
    have h629:=h28.trans e29
    have hw29:=x6.trans h629
    have oR29:=oR.ext h629
    have hns:∀ b ∈ [b27],∀ y,out = some y->y.block ≠ b:=fun b hb y hy=>by
      simp at hb; subst hb
      have:=(oR.lt y hy).2; omega
    refine push_B (v:=sv r') elem_sl_State (by omega) oR29 hw29.size hns rfl (by intro u hu; simp [Value.cells] at hu; rcases hu with rfl | rfl | rfl | rfl | rfl | rfl | rfl | rfl | rfl | rfl | rfl | rfl | rfl | rfl | rfl | rfl <;> rfl) (by omega) (by omega) (by omega) fun out' outc' w56 o56 g56 _ hb56=>⟨i64 (by omega),⟨g56.ext hw29 oR29,by omega,by omega,by omega,R ++ [r'],?_,?_,?_⟩,by simp only []; omega⟩
    · rw [show (k + 1).toNat = k.toNat + 1 by omega,List.map_append,hR,List.take_add_one,hF]
      simp [hrs]
    · rw [List.flatMap_append]
      simpa [Value.cells,encS] using o56
    · have step:∀ (w0 w'':World),Ext w0 w29->w0.heap.size <= w29.heap.size->Fr (fun b=>b < w.heap.size\/∃ a,out' = some a/\a.block = b) w56 w''->Fr (fun b=>b < w.heap.size\/∃ a,out = some a/\a.block = b) w0 w'':=fun w0 w'' h0 hs fw=>by
        have f1:Fr (fun b=>b < w.heap.size\/∃ a,out = some a/\a.block = b) w0 w56:=(fr_ext h0).tr (fr_grew g56 fun a ha=>.inr ⟨a,ha,rfl⟩)
        refine f1.trans fw fun b hb=>?_
        rcases hb with h | ⟨a2,ha2,hk2⟩
        · exact .inl (.inl h)
        rcases g56.new with hn | hn
        · left
          rw [ha2] at hn
          cases hout:out with
          | none => rw [hout] at hn; simp [blk] at hn
          | some y => rw [hout] at hn; simp [blk] at hn; exact .inr ⟨y,rfl,by omega⟩
        · right
          have:=hn a2 ha2
          omega
      intro y hy w'' fw
      rcases List.mem_append.1 hy with hy | hy
      · exact hT y hy w'' (step w6 w'' h629 h629.size fw)
      · simp at hy; subst hy
        rw [hrs]
        refine hF' _ (fun b hb=>?_) w'' (step w29 w'' (Ext.refl _) (Nat.le_refl _) fw)
        rcases hb with h | ⟨a,ha,rfl⟩
        · have:=x6.size; have:=h28.size; omega
        · have:=(oR.lt a ha).2; have:=h28.size; omega
  · have hkl:k.toNat = F.jobs.length:=by omega
    rw [hkl,List.take_length] at hR
    refine ⟨x6.trans h7,out,outc,R,by rw [hRl],hR,⟨by rw [hRl]; exact oR.ext h7,fun r hr S hS w'' fw=>hT r hr w'' ((fr_ext h7).tr (fw.mono fun b hb=>.inl (hS b hb)))⟩⟩
theorem Hosts_k (x:FXO O B w fb P F) (hh:okHs F.hosts):FnP Tryz.prog F_farm_Farm_Hosts #[.pointer (ptr fb)] w fun v w'=>Ext w w'/\∃ (p:Option Addr) (c:Nat),v = .slice p F.hosts.length c/\F.hosts.length <= c/\HsS w.heap.size w' p F.hosts:=by
  have ne:=ptr_ne fb
  refine ok_farm_Farm_Hosts (ptr fb) w _ ⟨ne,ne,_,_,_,x.cell (i:=0) rfl,fun w3 h3=>?_⟩
  refine (ownH_k P.hp P.hc F.hosts hh.1 (fun h hx=>(hh.2.1 h hx).2.1) w3 ((x.ext h3).hs w3 (Fr.refl _ _))).mono fun v w4 ⟨e4,p',c',M,hv,hM,o4,hA,hN⟩=>⟨e4,p',_,c',hv,fun w8 h8=>⟨(h3.trans e4).trans h8,p',c',rfl,o4.le.1,?_⟩⟩
  have hS:=(hsS_of o4 (fun m hm=>(hA m hm).1) hN).weak h3.size
  rw [hM] at hS
  exact hS.ext h8
end
theorem played_k (p:Option Addr) (c:Nat) (L:List Ht) (h63:(L.length:Int) <= 9223372036854775807) (hO:∀ h ∈ L,HtOk h) (pol:Pol) (q:Option Addr) (d:Nat) (E:List EvR) (hE63:(E.length:Int) <= 9223372036854775807) (w:World) (hL:HsAt w p L) (hE:Recs 15 encR w q E) (hEw:∀ r ∈ E,WfJ r.x.job/\IsJ w r.x.job r.pa r.ca r.pf) :
    FnP Tryz.prog F_shiftbellkeep_played #[.agg #[.slice p L.length c,.int .i64 pol.first,.int .i64 pol.times,.int .i64 pol.most,.int .i64 pol.tries],.slice q E.length d] w fun v w'=>Ext w w'/\∃ (f:Option Addr),v = .pointer f/\(f = none ↔ ¬ okNew L pol) /\
      (okNew L pol->∃ B fb P F,f = ptr fb/\w.heap.size <= B/\B <= w'.heap.size/\FX B w' fb P F/\Plays (newF L pol) (E.map (·.x)) F):=by
  refine ok_shiftbellkeep_played p L.length c pol.first pol.times pol.most pol.tries q E.length d w _ fun b0 hb0 w1 x1=>?_
  have h1:=extB_ext x1
  refine (fNew_k p c L h63 hO pol w1 (hL.ext h1)).mono fun v w2 ⟨e2,f,e,hv,hiff,hno,hyes⟩=>⟨e2,f,e,hv,fun hne w5 h5=>⟨(h1.trans e2).trans h5,none,rfl,⟨fun _ h=>hne (hiff.2 h),fun _=>rfl⟩,fun h=>absurd (hiff.2 h) hne⟩,fun hz=>?_⟩
  have hok:=hiff.1 hz
  obtain ⟨fb,P0,rfl,x2⟩:=hyes hz
  have lt1:=x1.lt b0 (by simp)
  refine ⟨fun k w'=>0 <= k/\k <= E.length/\Ext w w'/\w1.heap.size <= w'.heap.size/\∃ P F,FX w1.heap.size w' fb P F/\Plays (newF L pol) ((E.map (·.x)).take k.toNat) F,fun k _=>(E.length - k).toNat,⟨by omega,by omega,h1.trans e2,e2.size,P0,_,x2,rfl⟩,?_⟩
  rintro k w7 ⟨hk0,hk1,h7,hs7,P,F,x7,hp⟩
  have I:=plays_inv hp (new_inv hok)
  refine ⟨fun hlt=>?_,fun hge w8 h8=>?_⟩
  · obtain ⟨r,hr⟩:∃ r,E[k.toNat]? = some r:=⟨_,List.getElem?_eq_getElem (by omega)⟩
    have g:∀ (m:Nat) u,(encR r)[m]? = some u->Go.Sx.cell w7 (pIdx q k 15) m = some u:=fun m u hu=>ext_cell h7 (hE.at hk0 hr hu)
    have g0:=g 0 _ rfl
    obtain ⟨hW,hJ⟩:=hEw r (List.mem_of_getElem? hr)
    refine ⟨fun h=>cell_p g0 (pIdx_none.2 h),hk0,hlt,cell_p g0,_,g 0 _ rfl,_,g 1 _ rfl,_,g 2 _ rfl,_,g 3 _ rfl,_,g 4 _ rfl,_,g 5 _ rfl,_,g 6 _ rfl,_,g 7 _ rfl,_,g 8 _ rfl,_,g 9 _ rfl,_,_,_,g 10 _ rfl,_,_,_,g 11 _ rfl,_,g 12 _ rfl,_,g 13 _ rfl,_,g 14 _ rfl,fun b27 hb27 w28 x28=>?_⟩
    have h28:=extB_ext x28
    refine (Do_k (x7.ext h28) I.i0.pre I.i0.hs r.x r.pa r.ca r.pf r.cf (hJ.ext (h7.trans h28)) hW (Nat.le_trans hs7 h28.size)).mono fun v w29 ⟨e,P',F',hv,_,hd,x29,f29,_⟩=>⟨f29.kept fun b hb=>?_,e,hv,i64 (by omega),⟨by omega,by omega,f29.ext (h7.trans h28) (fun b hb=>?_),Nat.le_trans hs7 (Nat.le_trans h28.size f29.size),P',F',x29,?_⟩,by simp only []; omega⟩
    · refine ⟨x28.lt b hb,fun hf=>?_⟩
      have:=x7.foot hf
      simp at hb
      rcases hb with rfl | rfl <;> omega
    · have:=(x7.foot hb).1
      have:=h1.size
      omega
    · rw [show (k + 1).toNat = k.toNat + 1 by omega,List.take_add_one,List.getElem?_map,hr]
      exact plays_snoc hp hd
  · refine ⟨h7.trans h8,ptr fb,rfl,⟨fun h=>absurd h (ptr_ne fb),fun h=>absurd hok h⟩,fun _=>⟨w1.heap.size,fb,P,F,rfl,h1.size,Nat.le_trans hs7 h8.size,x7.ext h8,?_⟩⟩
    rw [show k.toNat = (E.map (·.x)).length by simp; omega,List.take_length] at hp
    exact hp
theorem bare_k (w:World):FnP Tryz.prog F_shiftbellkeep_bare #[] w fun v w'=>Ext w w'/\v = .agg #[.slice none 0 0,.int .i64 1,.int .i64 1,.int .i64 1,.int .i64 0] :=
  ok_shiftbellkeep_bare w _ fun b0 hb0 w1 h1=>⟨h1,rfl⟩
def barePol:Pol:=⟨1,1,1,0⟩
theorem bare_ok:okNew [] barePol:=⟨⟨by simp,by simp,by simp⟩,by simp,by unfold okPol okP barePol; simp⟩
end Go.Proofs.YtegephkpdlopaaaGreatDoor
set_option linter.unusedVariables false
set_option linter.unusedSimpArgs false
namespace Go.Proofs.YtegephkpdlopaaaGreatDoor
open Go.Sx Go.RowKit
theorem row_len {R:List StR} {F:Fm} (h:R.map (·.s) = F.jobs):R.length = F.jobs.length:=by have:=congrArg List.length h; simpa using this
end Go.Proofs.YtegephkpdlopaaaGreatDoor
set_option linter.unusedVariables false
set_option linter.unusedSimpArgs false
namespace Go.Proofs.YtegephkpdlopaaaGreatDoor
open Go.Sx Go.RowKit
theorem ht_ok {L:List Ht} (h:okHs L):∀ x ∈ L,HtOk x:=fun x hx=>by
  obtain ⟨a,b,c,_⟩:=h.2.1 x hx
  have:=lbB_size a
  exact ⟨by omega,by omega,fun l hl=>by
    have h1:=lbB_size (c.1 l hl).1
    have h2:=lbB_size (c.1 l hl).2
    omega⟩
theorem sameS1_k (r1 r2:StR) (w:World) (he:r1.s = r2.s) (hW:WfJ r1.s.job) (h1:IsJ w r1.s.job r1.pa r1.ca r1.pf) (h2:IsJ w r2.s.job r2.pa r2.ca r2.pf):FnP Tryz.prog F_shiftbellkeep_sameStates_1 #[sv r1,sv r2] w fun v w'=>Ext w w'/\v = .bool true:=by
  obtain ⟨s,pa,ca,pf,cf⟩:=r1
  obtain ⟨s2,qa,da,qf,df⟩:=r2
  simp only at he
  subst he
  refine ok_shiftbellkeep_sameStates_1 s.job.user s.job.prio s.job.nd.c s.job.nd.m s.job.nd.g s.job.ask.k s.job.ask.key s.job.ask.val s.job.ask.n pa s.job.ask.xs.length ca pf s.job.aft.length cf s.what s.host s.since s.again s.tries s.job.user s.job.prio s.job.nd.c s.job.nd.m s.job.nd.g s.job.ask.k s.job.ask.key s.job.ask.val s.job.ask.n qa s.job.ask.xs.length da qf s.job.aft.length df s.what s.host s.since s.again s.tries w _ fun b0 _ b1 _ w2 h2'=>(sameJ_k s.job pa ca pf cf qa da qf df w2 (h1.ext h2') (h2.ext h2') hW).mono fun v w3 ⟨e3,hv⟩=>⟨e3,true,hv,fun w5 h5=>⟨h5,by simp⟩⟩
theorem EqualS_k (p:Option Addr) (c:Nat) (q:Option Addr) (d:Nat) (R1 R2:List StR) (h63:(R1.length:Int) <= 1000) (he:R1.map (·.s) = R2.map (·.s)) (w:World) (hp:Recs 16 encS w p R1) (hq:Recs 16 encS w q R2)
    (h1:∀ r ∈ R1,WfJ r.s.job/\IsJ w r.s.job r.pa r.ca r.pf) (h2:∀ r ∈ R2,IsJ w r.s.job r.pa r.ca r.pf):FnP Tryz.prog F_shiftbellkeep_sameStates #[.slice p R1.length c,.slice q R2.length d] w fun v w'=>Ext w w'/\v = .bool true:=by
  have hl:R1.length = R2.length:=by have:=congrArg List.length he; simpa using this
  refine ok_shiftbellkeep_sameStates p R1.length c q R2.length d w _ fun w0 h0=>?_
  refine FnP.mono (K:=fun v w'=>Ext w0 w'/\v = .bool true) ?_ fun v w1 ⟨e1,hv⟩=>⟨e1,_,hv,fun w3 h3=>⟨h3,rfl⟩⟩
  refine ok_slices_EqualFunc_api_State_api_State_api_State_api_State p R1.length c q R2.length d _ w0 _ ⟨fun h=>absurd (by omega) h,fun _=>⟨fun k w'=>w' = w0/\0 <= k/\k <= R1.length,fun k _=>(R1.length - k).toNat,⟨rfl,by omega,by omega⟩,?_⟩⟩
  rintro k w2 ⟨rfl,hk0,hk1⟩
  refine ⟨fun hlt=>?_,fun hge w3 h3=>⟨h3,rfl⟩⟩
  obtain ⟨r1,hr1⟩:∃ r,R1[k.toNat]? = some r:=⟨_,List.getElem?_eq_getElem (by omega)⟩
  obtain ⟨r2,hr2⟩:∃ r,R2[k.toNat]? = some r:=⟨_,List.getElem?_eq_getElem (by omega)⟩
  have g:∀ (m:Nat) u,(encS r1)[m]? = some u->Go.Sx.cell w2 (pIdx p k 16) m = some u:=fun m u hu=>(hp.ext h0).at hk0 hr1 hu
  have g':∀ (m:Nat) u,(encS r2)[m]? = some u->Go.Sx.cell w2 (pIdx q k 16) m = some u:=fun m u hu=>(hq.ext h0).at hk0 hr2 hu
  have g0:=g 0 _ rfl
  have g0':=g' 0 _ rfl
  have hs:r1.s = r2.s:=by
    have h3:=congrArg (fun l=>l[k.toNat]?) he
    simp only [List.getElem?_map,hr1,hr2] at h3
    exact Option.some.inj h3
  obtain ⟨hW,hJ1⟩:=h1 r1 (List.mem_of_getElem? hr1)
  have hJ2:=h2 r2 (List.mem_of_getElem? hr2)
  refine ⟨fun h=>cell_p g0 (pIdx_none.2 h),hk0,hlt,cell_p g0,_,g 0 _ rfl,_,g 1 _ rfl,_,g 2 _ rfl,_,g 3 _ rfl,_,g 4 _ rfl,_,g 5 _ rfl,_,g 6 _ rfl,_,g 7 _ rfl,_,g 8 _ rfl,_,_,_,g 9 _ rfl,_,_,_,g 10 _ rfl,_,g 11 _ rfl,_,g 12 _ rfl,_,g 13 _ rfl,_,g 14 _ rfl,_,g 15 _ rfl,fun b23 _=>?_⟩
  refine ⟨fun h=>cell_p g0' (pIdx_none.2 h),hk0,by omega,cell_p g0',_,g' 0 _ rfl,_,g' 1 _ rfl,_,g' 2 _ rfl,_,g' 3 _ rfl,_,g' 4 _ rfl,_,g' 5 _ rfl,_,g' 6 _ rfl,_,g' 7 _ rfl,_,g' 8 _ rfl,_,_,_,g' 9 _ rfl,_,_,_,g' 10 _ rfl,_,g' 11 _ rfl,_,g' 12 _ rfl,_,g' 13 _ rfl,_,g' 14 _ rfl,_,g' 15 _ rfl,fun b44 _ w45 h45=>?_⟩
  exact ⟨F_shiftbellkeep_sameStates_1,#[],rfl,(sameS1_k r1 r2 w45 hs hW ((hJ1.ext h0).ext h45) ((hJ2.ext h0).ext h45)).mono fun v w46 ⟨e46,hv⟩=>⟨e46,true,hv,fun h=>(by cases h),fun _=>⟨i64 (by omega),⟨rfl,by omega,by omega⟩,by simp only []; omega⟩⟩⟩
theorem row_wf {O:Nat->Prop} {B fb:Nat} {w:World} {P:Pl} {F:Fm} (x:FXO O B w fb P F) {R:List StR} (h:R.map (·.s) = F.jobs):∀ r ∈ R,okJ r.s.job/\WfJ r.s.job:=fun r hr=>by
  have:r.s ∈ R.map (·.s):=List.mem_map_of_mem hr
  rw [h] at this
  exact x.jO.2 r.s this
theorem sameFarm_k {O1 O2:Nat->Prop} {B1 B2 fb gb:Nat} {w:World} {P1 P2:Pl} {F:Fm} (x:FXO O1 B1 w fb P1 F) (y:FXO O2 B2 w gb P2 F) (hh:okHs F.hosts):FnP Tryz.prog F_shiftbellkeep_sameFarm #[.pointer (ptr fb),.pointer (ptr gb)] w fun v w'=>Ext w w'/\v = .bool true:=by
  have hl0:=x.jO.1
  have hl30:=hh.1
  refine ok_shiftbellkeep_sameFarm (ptr fb) (ptr gb) w _ fun w0 h0=>(now_k (x.ext h0)).mono fun v w1 ⟨e1,hv⟩=>⟨e1,_,hv,fun w3 h3=>(now_k (y.ext h3)).mono fun v w4 ⟨e4,hv⟩=>⟨e4,_,hv,fun _ w6 h6=>?_,fun h=>absurd rfl h⟩⟩
  refine (Jobs_k (x.ext h6)).mono fun v w7 ⟨e7,p1,c1,R1,hv,hR1,J1⟩=>⟨e7,p1,_,c1,hv,fun w11 h11=>?_⟩
  have hw11:=(h6.trans e7).trans h11
  refine (Jobs_k (y.ext hw11)).mono fun v w12 ⟨e12,p2,c2,R2,hv,hR2,J2⟩=>⟨e12,p2,_,c2,hv,fun w16 h16=>?_⟩
  have J1':=((J1.ext h11).ext e12).ext h16
  have J2':=J2.ext h16
  have hw12:=hw11.trans e12
  have hR1l:=row_len hR1
  refine (EqualS_k p1 c1 p2 c2 R1 R2 (by omega) (hR1.trans hR2.symm) w16 (J1'.own.recs fun _ _=>rfl) (J2'.own.recs fun _ _=>rfl) (fun r hr=>⟨(row_wf x hR1 r hr).2,(J1'.far r hr).at⟩) (fun r hr=>(J2'.far r hr).at)).mono fun v w17 ⟨e17,hv⟩=>⟨e17,true,hv,fun _ w19 h19=>?_,fun h=>(by cases h)⟩
  have hw19:=hw12.trans h19
  refine (Hosts_k (x.ext hw19) hh).mono fun v w20 ⟨e20,q1,d1,hv,_,S1⟩=>⟨e20,q1,_,d1,hv,fun w24 h24=>?_⟩
  have hw24:=(hw19.trans e20).trans h24
  refine (Hosts_k (y.ext hw24) hh).mono fun v w25 ⟨e25,q2,d2,hv,_,S2⟩=>⟨e25,q2,_,d2,hv,fun w29 h29=>?_⟩
  have hw25:=hw24.trans e25
  exact (sameH_k q1 d1 q2 d2 F.hosts (by omega) (ht_ok hh) w29 (((S1.ext h24).ext e25).ext h29).at (S2.ext h29).at).mono fun v w30 ⟨e30,hv⟩=>⟨e30,true,hv,fun w32 h32=>⟨hw25.trans h32,rfl⟩⟩
end Go.Proofs.YtegephkpdlopaaaGreatDoor
