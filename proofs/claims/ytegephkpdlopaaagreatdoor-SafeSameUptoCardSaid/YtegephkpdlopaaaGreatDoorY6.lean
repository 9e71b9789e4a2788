/- The framework, the program's texts and what is shown of them: part 6. -/
import Derived.Test.YtegephkpdlopaaaGreatDoorY5
import Derived.Laws.IdiomStrings
import Derived.Shelf.Strings.IndexAnyAll
import Derived.Shelf.Small.Utf8
import Derived.Laws.Runes
import Derived.Shelf.RegionOpenPlain
import Derived.Laws.RangeAny
import Derived.Lib.OthersKept
import Derived.Lib.AtoiAllCases
import Derived.JoinedCond
import Derived.LaidLaws
set_option linter.unusedVariables false
set_option linter.unusedSimpArgs false
namespace Go.Proofs.YtegephkpdlopaaaGreatDoor
open Go.Sx Go.RowKit
theorem bs_size (s:ByteArray):s.data.toList.length = s.size:=by simp
theorem split_len {c:UInt8}:∀ (k:Nat) (s:ByteArray),Lib.countB s (one c) = k->(Lib.splitB (one c) 0 k s).length = k + 1
  | 0,s,_ => by rw [Lib.splitB_zero]; rfl
  | k + 1,s,h => by
    rcases Lib.indexB_cases s (one c) with hm | ⟨j,hj,hle⟩
    · rw [Lib.countB_miss _ _ hm] at h; omega
    · rw [Lib.countB_hit s (one c) j (Nat.le_refl 1) hj] at h
      rw [Lib.splitB_hit (one c) 0 k s j hj,List.length_cons,split_len k _ (by omega)]
def upN (cur:Nd) (name:ByteArray) (v:Int) (k:Nat):Nd:=⟨if 0 < k/\pn 0 = name then v else cur.c,if 1 < k/\pn 1 = name then v else cur.m,if 2 < k/\pn 2 = name then v else cur.g⟩
theorem upN_zero (cur:Nd) (name:ByteArray) (v:Int):upN cur name v 0 = cur:=by cases cur; simp [upN]
theorem upN_hit {cur:Nd} {name:ByteArray} {v:Int} {k:Nat} (hk:k < 3) (h:pn k = name):(encN (upN cur name v k)).set k (.int .i64 v) = encN (upN cur name v (k + 1)):=by
  match k,hk with
  | 0,_ => simp [encN,upN,h]
  | 1,_ => simp [encN,upN,h]
  | 2,_ => simp [encN,upN,h]
theorem upN_miss {cur:Nd} {name:ByteArray} {v:Int} {k:Nat} (hk:k < 3) (h:pn k ≠ name):upN cur name v (k + 1) = upN cur name v k:=by
  match k,hk with
  | 0,_ => simp [upN,h]
  | 1,_ => simp [upN,h]
  | 2,_ => simp [upN,h]
theorem upN_at {cur:Nd} {name:ByteArray} {v:Int} {i:Nat} (hi:i < 3):ndAt (upN cur name v 3) i = if pn i = name then v else ndAt cur i:=by
  match i,hi with
  | 0,_ => simp [upN,ndAt]
  | 1,_ => simp [upN,ndAt]
  | 2,_ => simp [upN,ndAt]
theorem pn_inj:∀ {i j:Nat},i < 3->j < 3->pn i = pn j->i = j:=by
  intro i j hi hj h
  match i,j,hi,hj with
  | 0,0,_,_ => rfl
  | 1,1,_,_ => rfl
  | 2,2,_,_ => rfl
  | 0,1,_,_ => exact absurd h (by decide)
  | 0,2,_,_ => exact absurd h (by decide)
  | 1,0,_,_ => exact absurd h (by decide)
  | 1,2,_,_ => exact absurd h (by decide)
  | 2,0,_,_ => exact absurd h (by decide)
  | 2,1,_,_ => exact absurd h (by decide)
theorem pn_no:∀ {i:Nat},i < 3->(61:UInt8) ∉ (pn i).data.toList/\(44:UInt8) ∉ (pn i).data.toList:=by
  intro i hi
  match i,hi with
  | 0,_ => decide
  | 1,_ => decide
  | 2,_ => decide
theorem piece_no {x:Nd} (hx:okN x) {i:Nat} (hi:i < 3):(44:UInt8) ∉ piece x i:=fun hm=>by
  have h0:=(okN_at.1 hx i hi).1
  unfold piece at hm
  rcases List.mem_append.1 hm with h | h
  · exact (pn_no hi).2 h
  · rcases List.mem_cons.1 h with h | h
    · exact absurd h (by decide)
    · exact itoa_no h0 (by decide) h
theorem text_parts {x:Nd} (hx:okN x) (hne:textL x ≠ [45]):Lib.countB (ofL (textL x)) (one 44) + 1 = (idx x 3).length/\Lib.splitB (one 44) 0 (Lib.countB (ofL (textL x)) (one 44)) (ofL (textL x)) = (pcs x 3).map ofL:=by
  have hp:pcs x 3 ≠ []:=fun h=>hne (by unfold textL; rw [if_pos h])
  have ht:textL x = Lib.join (pcs x 3) [44]:=by unfold textL; rw [if_neg hp]
  rw [ht]
  cases hl:pcs x 3 with
  | nil => exact absurd hl hp
  | cons a l =>
    obtain ⟨h1,h2⟩:=join_split (c:=44) l a fun y hy=>by
      rw [<- hl] at hy
      obtain ⟨i,hi,rfl⟩:=List.mem_map.1 hy
      exact piece_no hx (idx_lt hi).1
    have hlen:(idx x 3).length = l.length + 1:=by
      have:=congrArg List.length hl
      unfold pcs at this
      rw [List.length_map] at this
      simpa using this
    rw [h1,h2]
    exact ⟨by omega,rfl⟩
def good (x cur:Nd) (k:Nat):Prop:=∀ i,i < 3->ndAt cur i = if i ∈ (idx x 3).take k then ndAt x i else 0
theorem good_end {x cur:Nd} (h:good x cur (idx x 3).length):cur = x:=by
  have key:∀ i,i < 3->ndAt cur i = ndAt x i:=fun i hi=>by
    rw [h i hi,List.take_length]
    split
    · rfl
    · rename_i hn
      by_cases h0:ndAt x i = 0
      · exact h0.symm
      · exact absurd (List.mem_filter.2 ⟨List.mem_range.2 hi,by simpa using h0⟩) hn
  have a:=key 0 (by omega)
  have b:=key 1 (by omega)
  have c:=key 2 (by omega)
  cases cur; cases x
  simp only [ndAt] at a b c
  simp [a,b,c]
theorem good_step {x cur:Nd} {k i:Nat} (h:good x cur k) (hi:(idx x 3)[k]? = some i):good x (upN cur (pn i) (ndAt x i) 3) (k + 1):=by
  have hm:=idx_lt (List.mem_of_getElem? hi)
  intro j hj
  rw [upN_at hj,List.take_add_one,hi]
  simp only [Option.toList_some,List.mem_append,List.mem_singleton]
  by_cases e:j = i
  · subst e; simp
  · rw [if_neg (fun hp=>e (pn_inj hj hm.1 hp)),h j hj]
    simp [e]
theorem good_start {x:Nd}:good x zeroN 0:=fun i hi=>by
  match i,hi with
  | 0,_ => simp [ndAt,zeroN]
  | 1,_ => simp [ndAt,zeroN]
  | 2,_ => simp [ndAt,zeroN]
abbrev RQ (w:World) (s:ByteArray) (v:Value) (w':World):Prop:=Ext w w'/\∃ (a:Nd) (e:Int),v = .tuple #[nv a,.int .i64 e]/\(e ≠ 0->a = zeroN)/\(e = 0->okN a/\s = ofL (textL a))/\(∀ x,okN x->s = ofL (textL x)->e = 0/\a = x)
def rtail (s:ByteArray) (p2:Option Addr) (b0:Nat) (w10:World) (Q:Value->World->Prop):Prop :=
       p2 ≠ none /\
       ∃ t11:Int,cell w10 p2 0 = some (.int .i64 t11) /\
       ∃ t12:Int,cell w10 p2 1 = some (.int .i64 t12) /\
       ∃ t13:Int,cell w10 p2 2 = some (.int .i64 t13) /\
       ∀ w14,Ext w10 w14 ->
       FnP Tryz.prog F_need_text #[(.agg #[(.int .i64 t11),(.int .i64 t12),(.int .i64 t13)])] w14 fun v15 w15 =>
        Ext w14 w15 /\
        ∃ t16:ByteArray,v15 = (.string t16) /\
        ((t16 ≠ s) ->
         ∀ w17,ExtB [b0] [] w10 w17 ->
         Q (.tuple #[(.agg #[(.int .i64 0),(.int .i64 0),(.int .i64 0)]),(.int .i64 3)]) w17) /\
        ((t16 = s) ->
         p2 ≠ none /\
         ∃ t17:Int,cell w10 p2 0 = some (.int .i64 t17) /\
         ∃ t18:Int,cell w10 p2 1 = some (.int .i64 t18) /\
         ∃ t19:Int,cell w10 p2 2 = some (.int .i64 t19) /\
         ∀ w20,Ext w10 w20 ->
         FnP Tryz.prog F_need_Check #[(.agg #[(.int .i64 t17),(.int .i64 t18),(.int .i64 t19)])] w20 fun v21 w21 =>
          Ext w20 w21 /\
          ∃ t22:Int,v21 = (.int .i64 t22) /\
          ((t22 ≠ 0) ->
           ∀ w23,ExtB [b0] [] w10 w23 ->
           Q (.tuple #[(.agg #[(.int .i64 0),(.int .i64 0),(.int .i64 0)]),(.int .i64 t22)]) w23) /\
          ((t22 = 0) ->
           p2 ≠ none /\
           ∃ t23:Int,cell w10 p2 0 = some (.int .i64 t23) /\
           ∃ t24:Int,cell w10 p2 1 = some (.int .i64 t24) /\
           ∃ t25:Int,cell w10 p2 2 = some (.int .i64 t25) /\
           ∀ w26,ExtB [b0] [] w10 w26 ->
           Q (.tuple #[(.agg #[(.int .i64 t23),(.int .i64 t24),(.int .i64 t25)]),(.int .i64 0)]) w26))
theorem rtail_ok {w w10:World} {s:ByteArray} {p2:Option Addr} {b0:Nat} {cur:Nd} (x10:Ext w w10) (hb0:w.heap.size <= b0) (c10:NdAt w10 p2 cur) (hp:p2 ≠ none) (hr:rng cur) (g:GB w)
    (hgood:∀ x,okN x->s = ofL (textL x)->cur = x):rtail s p2 b0 w10 (RQ w s):=by
  have k0:=c10 0 _ rfl
  have k1:=c10 1 _ rfl
  have k2:=c10 2 _ rfl
  have bx:∀ {w':World},ExtB [b0] [] w10 w'->Ext w w':=fun h=>but_ext h x10 (by intro d hd; simp at hd; omega)
  refine ⟨hp,_,k0,_,k1,_,k2,fun w14 h14=>(ntext_k cur hr w14 (g.ext (x10.trans h14))).mono fun v w15 ⟨e15,hv⟩=>⟨e15,_,hv,fun hne w17 x17=>⟨bx x17,zeroN,_,rfl,fun _=>rfl,fun h=>by omega,fun x hx hs=>?_⟩,fun heq=>⟨hp,_,k0,_,k1,_,k2,fun w20 h20=>(ncheck_k cur w20).mono fun v w21 ⟨e21,hv⟩=>⟨e21,_,hv,fun hne w23 x23=>⟨bx x23,zeroN,_,rfl,fun _=>rfl,fun h=>absurd h hne,fun x hx hs=>?_⟩,fun hz=>⟨hp,_,k0,_,k1,_,k2,fun w26 x26=>⟨bx x26,cur,0,rfl,fun h=>absurd rfl h,fun _=>⟨errN_ok.1 hz,heq.symm⟩,fun x hx hs=>⟨rfl,hgood x hx hs⟩⟩⟩⟩⟩⟩⟩
  · exact absurd (by rw [hgood x hx hs]; exact hs.symm) hne
  · exact absurd (errN_ok.2 (by rw [hgood x hx hs]; exact hx)) hne
theorem nRead_k (s:ByteArray) (hs:s.size < 4294967281) (w:World) (g:GB w):FnP Tryz.prog F_need_Read #[.string s] w (RQ w s):=by
  refine ok_need_Read s w _ fun b0 hb0 w1 x1=>new_own (by simp [Value.oneCell']) fun w2 o2 e2=>?_
  have h1:=extB_ext x1
  have l0:=x1.lt b0 (by simp)
  have o2:=o2 w.heap.size h1.size
  have np:(some (⟨w1.heap.size,0,none⟩:Addr)) ≠ none:=by simp
  have h2:=h1.trans e2
  have rz:rng zeroN:=fun i hi=>by
    match i,hi with
    | 0,_ => simp [ndAt,zeroN]
    | 1,_ => simp [ndAt,zeroN]
    | 2,_ => simp [ndAt,zeroN]
  have hpb:∀ y,(some (⟨w1.heap.size,0,none⟩:Addr)) = some y->y.block ≠ b0:=fun y hy=>by obtain rfl:=Option.some.inj hy; show w1.heap.size ≠ b0; omega
  have hpl:∀ y,(some (⟨w1.heap.size,0,none⟩:Addr)) = some y->y.block < w2.heap.size:=fun y hy=>(o2.lt y hy).2
  generalize hpp:(some (⟨w1.heap.size,0,none⟩:Addr)) = p at o2 np hpb hpl ⊢
  refine ⟨fun hne w3 x3=>?_,fun heq=>?_⟩
  rotate_left
  · refine rtail_ok (cur:=zeroN) h2 hb0 o2.cells np rz g fun x hx hs=>?_
    have hl:textL x = [45]:=ofL_inj (hs.symm.trans heq)
    by_cases hp:pcs x 3 = []
    · refine good_end ?_
      have:idx x 3 = []:=by simpa [pcs] using hp
      intro i hi
      rw [this]
      exact good_start i hi
    · exfalso
      unfold textL at hl
      rw [if_neg hp] at hl
      cases hc:pcs x 3 with
      | nil => exact hp hc
      | cons a l =>
        rw [hc,Lib.join_cons] at hl
        have ha:a ∈ pcs x 3:=by rw [hc]; exact List.mem_cons_self ..
        obtain ⟨i,_,rfl⟩:=List.mem_map.1 ha
        have:=congrArg List.length hl
        unfold piece at this
        have h3:(pn i).data.toList.length = 3:=pn_len i
        rw [List.length_append,List.length_append,h3] at this
        simp at this
        omega
  have h3:=h2.trans (extB_ext x3)
  have g3:=g.ext h3
  refine (Split_k 44 s hs w3 g3).mono fun v w4 ⟨e4,hv,hc4,_⟩=>⟨e4,_,_,_,hv,?_⟩
  have spn:(some (⟨w3.heap.size,0,none⟩:Addr)) ≠ none:=by simp
  have apsp:Apart (some (⟨w3.heap.size,0,none⟩:Addr)) p:=fun a b ha hb he=>by
    obtain rfl:=Option.some.inj ha
    have h5:=hpl b hb
    have h6:=(extB_ext x3).size
    have h7:w3.heap.size = b.block:=he
    omega
  generalize (some (⟨w3.heap.size,0,none⟩:Addr)) = sp at hc4 spn apsp ⊢
  have slen:=split_len (c:=44) _ s rfl
  have ssz:∀ i q,(Lib.splitB (one 44) 0 (Lib.countB s (one 44)) s)[i]? = some q->q.size + i <= s.size:=fun i q h=>split_size _ s i q h
  have sgood:∀ x,okN x->s = ofL (textL x)->Lib.countB s (one 44) + 1 = (idx x 3).length/\Lib.splitB (one 44) 0 (Lib.countB s (one 44)) s = (pcs x 3).map ofL:=fun x hx hsx=>by
    have:=text_parts hx fun h=>hne (by rw [hsx,h]; rfl)
    rwa [<- hsx] at this
  generalize Lib.splitB (one 44) 0 (Lib.countB s (one 44)) s = S at hc4 slen ssz sgood
  generalize Lib.countB s (one 44) = n at slen sgood ⊢
  refine ⟨fun k w'=>Ext w w'/\0 <= k/\k <= (n + 1:Nat)/\Cells w' sp (S.map Value.string)/\∃ cur,Own w.heap.size w' T_Need 3 p 1 1 (encN cur)/\rng cur/\∀ x,okN x->s = ofL (textL x)->good x cur k.toNat,fun k _=>(n + 1 - k).toNat,
    ⟨h3.trans e4,by omega,by omega,hc4,zeroN,(o2.ext (extB_ext x3)).ext e4,rz,fun x _ _=>good_start⟩,?_⟩
  rintro k w10 ⟨x10,hk0,hk1,c10,cur,o10,hr,hgd⟩
  refine ⟨fun hlt=>?_,fun hge=>?_⟩
  rotate_left
  · refine rtail_ok (cur:=cur) x10 hb0 o10.cells np hr g fun x hx hsx=>good_end ?_
    have:=hgd x hx hsx
    rwa [show k.toNat = (idx x 3).length by have:=(sgood x hx hsx).1; omega] at this
  obtain ⟨pc,hpc⟩:∃ pc,S[k.toNat]? = some pc:=⟨_,List.getElem?_eq_getElem (by omega)⟩
  have hcell:Go.Sx.cell w10 (pIdx sp k 1) 0 = some (.string pc):=by
    rw [cell_pIdx]
    exact c10 _ _ (by simp [hpc])
  have hpsz:=ssz _ _ hpc
  refine ⟨spn,hk0,hlt,_,hcell,fun w12 h12=>(Cut_k 61 pc (by omega) w12 ((g.ext x10).ext h12)).mono fun v w13 ⟨e13,hv⟩=>⟨e13,_,_,_,hv,fun w17 x17=>?_⟩⟩
  have hx17:=x10.trans (extB_ext x17)
  have hcsz:(Lib.cut pc.data.toList [61]).2.1.length <= pc.size:=by have:=cut_size pc.data.toList 61; rwa [bs_size] at this
  have hthis:∀ x,okN x->s = ofL (textL x)->∃ i,(idx x 3)[k.toNat]? = some i/\i < 3/\0 < ndAt x i/\ofL (Lib.cut pc.data.toList [61]).1 = pn i/\Lib.parseIntB 64 (ofL (Lib.cut pc.data.toList [61]).2.1).data.toList = .ok (ndAt x i):=fun x hx hsx=>by
    have hS:=(sgood x hx hsx).2
    rw [hS,List.getElem?_map] at hpc
    unfold pcs at hpc
    rw [List.getElem?_map,Option.map_map,Option.map_eq_some_iff] at hpc
    obtain ⟨i,hi,rfl⟩:=hpc
    have hm:=idx_lt (List.mem_of_getElem? hi)
    have hb:=okN_at.1 hx i hm.1
    have hcut:Lib.cut (ofL (piece x i)).data.toList [61] = ((pn i).data.toList,Lib.itoa (ndAt x i),true):=cut_hit _ (pn_no hm.1).1
    have hcut':Lib.cut ((ofL ∘ piece x) i).data.toList [61] = ((pn i).data.toList,Lib.itoa (ndAt x i),true):=hcut
    rw [hcut']
    exact ⟨i,hi,hm.1,by omega,ofL_of _,parse_itoa hb⟩
  generalize (ofL (Lib.cut pc.data.toList [61]).1) = name at hthis ⊢
  have hnsz:(ofL (Lib.cut pc.data.toList [61]).2.1).size <= 281474976710656:=by rw [ofL_size]; omega
  generalize (ofL (Lib.cut pc.data.toList [61]).2.1) = num at hthis hnsz ⊢
  refine (ParseInt_k num hnsz w17 (g.ext hx17)).mono fun v w18 ⟨e18,vn,ev,hv,hcase⟩=>⟨e18,vn,ev,hv,fun w21 h21=>?_⟩
  have hx18:=hx17.trans e18
  refine ne_nilB (by kernel_rfl) (hcase.elim (fun h=>.inl h.1) fun h=>.inr h.1) fun t ht=>⟨Ext.refl _,t,rfl,fun hbad w24 x24=>⟨but_ext x24 hx18 (by intro d hd; simp at hd; omega),zeroN,3,rfl,fun _=>rfl,fun h=>by omega,fun x hx hsx=>?_⟩,fun hok w24 x24=>?_⟩
  · exfalso
    obtain ⟨i,_,_,hpos,_,hpar⟩:=hthis x hx hsx
    rcases hcase with ⟨h1,h2⟩ | ⟨_,h2⟩
    · rw [hpar] at h2
      injection h2 with h2
      rcases hbad with h | h
      · rw [ht.2 h1] at h; cases h
      · omega
    · exact h2 _ hpar
  have hx24:=hx18.trans (extB_ext x24)
  obtain ⟨hev,hpar⟩:ev = .nilIface/\Lib.parseIntB 64 num.data.toList = .ok vn:=by
    rcases hcase with h | ⟨⟨a,b,h⟩,_⟩
    · exact h
    · have:=ht.1 hok.1
      rw [h] at this; cases this
  have o24:Own w.heap.size w24 T_Need 3 p 1 1 (encN cur):=(((o10.ext (extB_ext x17)).ext e18).ext (extB_ext x24))
  have c24:Cells w24 sp (S.map Value.string):=(((c10.ext (extB_ext x17)).ext e18).ext (extB_ext x24))
  refine (parts_k p np w24).mono fun v w25 ⟨e25,q,hv,hq,hqb⟩=>⟨e25,q,3,3,hv,?_⟩
  have apq:Apart q p:=fun a b ha hb he=>by
    have h5:=hqb a ha
    have h6:=(o24.lt b hb).2
    omega
  refine ⟨fun k30 w'=>Ext w w'/\0 <= k30/\k30 <= 3/\Cells w' sp (S.map Value.string)/\Cells w' q (partsL p)/\Own w.heap.size w' T_Need 3 p 1 1 (encN (upN cur name vn k30.toNat)),fun k30 _=>(3 - k30).toNat,
    ⟨hx24.trans e25,by omega,by omega,c24.ext e25,hq,by rw [show (0:Int).toNat = 0 from rfl,upN_zero]; exact o24.ext e25⟩,?_⟩
  rintro k30 w31 ⟨x31,hj0,hj3,c31,q31,o31⟩
  refine ⟨fun hjlt=>?_,fun hjge=>?_⟩
  · obtain ⟨d1,d2⟩:=part_at q31 hj0 hjlt
    have hj:k30.toNat < 3:=by omega
    refine ⟨fun hq=>cell_p d1 (pIdx_none.2 hq),hj0,hjlt,cell_p d1,_,d1,_,d2,fun b34 hb34=>⟨fun heq=>⟨fun h=>np (pAdd_none.1 h),?_⟩,fun hne=>⟨i64 (by omega),⟨x31,by omega,by omega,c31,q31,?_⟩,by simp only []; omega⟩⟩⟩
    · refine store_one o31 (by simpa using hj) rfl (fun b hb y hy=>?_) fun w35 o35 g35=>⟨i64 (by omega),⟨g35.ext x31 o31,by omega,by omega,c31.grew apsp g35,q31.grew apq g35,?_⟩,by simp only []; omega⟩
      · simp only [List.mem_cons,List.mem_singleton,List.mem_nil_iff,or_false] at hb
        rcases hb with rfl | rfl
        · exact hpb y hy
        · have:=(o31.lt y hy).2; omega
      · rw [show (k30 + 1).toNat = k30.toNat + 1 by omega,<- upN_hit hj heq]
        exact o35
    · rw [show (k30 + 1).toNat = k30.toNat + 1 by omega,upN_miss hj hne]
      exact o31
  · obtain rfl:k30 = 3:=by omega
    refine ⟨i64 (by omega),⟨x31,by omega,by omega,c31,upN cur name vn 3,o31,fun i hi=>?_,fun x hx hsx=>?_⟩,by simp only []; omega⟩
    · rw [upN_at hi]
      split
      · have:=parse_top hpar hok.2
        omega
      · exact hr i hi
    · obtain ⟨i,hi,hi3,_,hname,hp2⟩:=hthis x hx hsx
      rw [hpar] at hp2
      injection hp2 with hp2
      rw [hp2,hname,show (k + 1).toNat = k.toNat + 1 by omega]
      exact good_step (hgd x hx hsx) hi
end Go.Proofs.YtegephkpdlopaaaGreatDoor
set_option linter.unusedVariables false
set_option linter.unusedSimpArgs false
namespace Go.Proofs.YtegephkpdlopaaaGreatDoor
open Go.Sx Go.RowKit
def bytesI (s:ByteArray):List Int:=s.data.toList.map fun b=>(b.toNat:Int)
theorem bytesI_len (s:ByteArray):(bytesI s).length = s.size:=by simp [bytesI]
theorem run_s2b {P:Program} {src dst e:TypeId} {s:ByteArray} (hs:P.underlying src = some .string) (hd:P.underlying dst = some (.slice e)) (he:P.underlying e = some (.int .u8)) {w:World} {K:Value->World->Prop}
    (hk:∀ p c w',Ext w w'->Ints .u8 w' p (bytesI s)->K (.slice p s.size c) w'):Run P (.convert src dst (.string s)) w K:=by
  refine ⟨_,_,run_bytes_of_string w src dst e s hs hd he,hk _ _ _ ?_ fun i v hv=>?_⟩
  · exact Below.alloc (B:=w.heap.size) (a:=w) (w:=w.drew) ⟨rfl,rfl,rfl,Nat.le_refl _,fun _ _=>rfl⟩ (Nat.le_refl _) _
  · obtain ⟨hi,hv⟩:=List.getElem?_eq_some_iff.1 hv
    have hi':i < s.data.size:=by simpa [bytesI] using hi
    have hc:=World.cell?_alloc_mark w.drew (bytesRow s (grownCap w s.size 0 e)) e ((bytesRow s (grownCap w s.size 0 e)).size,(bytesRow s (grownCap w s.size 0 e)).size + 1) i
    rw [bytesRow_at s _ i hi'] at hc
    simp only [cell,Option.bind_some]
    have ha:(Addr.add ⟨w.heap.size,0,none⟩ i) = ⟨w.drew.heap.size,i,none⟩:=by simp [Addr.add]; intro h; exact h.symm
    rw [ha,hc,<- hv]
    simp [bytesI]
inductive AT where
  | mk (k:Int) (key val:ByteArray) (n:Int) (xs:List AT)
def AT.k:AT->Int | .mk k _ _ _ _=>k
def AT.key:AT->ByteArray | .mk _ key _ _ _=>key
def AT.val:AT->ByteArray | .mk _ _ val _ _=>val
def AT.n:AT->Int | .mk _ _ _ n _=>n
def AT.xs:AT->List AT | .mk _ _ _ _ xs=>xs
theorem AT.eta (t:AT):t = .mk t.k t.key t.val t.n t.xs:=by cases t; rfl
theorem AT.ind {P:AT->Prop} (h:∀ k key val n xs,(∀ x ∈ xs,P x)->P (.mk k key val n xs)) (t:AT):P t:=by
  refine AT.rec (motive_1:=P) (motive_2:=fun l=>∀ x ∈ l,P x) ?_ ?_ ?_ t
  · intro k key val n xs ih; exact h k key val n xs ih
  · intro x hx; cases hx
  · intro x l h1 h2 y hy
    rcases List.mem_cons.1 hy with rfl | hy
    · exact h1
    · exact h2 y hy
def encA (t:AT) (p:Option Addr) (c:Nat):List Value:=[.int .i64 t.k,.string t.key,.string t.val,.int .i64 t.n,.slice p t.xs.length c]
abbrev av (t:AT) (p:Option Addr) (c:Nat):Value:=.agg #[.int .i64 t.k,.string t.key,.string t.val,.int .i64 t.n,.slice p t.xs.length c]
mutual
def IsT (w:World):AT->Option Addr->Nat->Prop
  | .mk _ _ _ _ xs,p,c => xs.length <= c/\IsL w xs p 0
def IsL (w:World):List AT->Option Addr->Nat->Prop
  | [],_,_ => True
  | x :: r,p,i => (∃ p' c',(∀ j u,(encA x p' c')[j]? = some u->cell w p (i * 5 + j) = some u)/\IsT w x p' c')/\IsL w r p (i + 1)
end
theorem IsL.get {w:World}:∀ {xs:List AT} {p:Option Addr} {i:Nat},IsL w xs p i->∀ {j:Nat} {x:AT},xs[j]? = some x->∃ p' c',(∀ m u,(encA x p' c')[m]? = some u->cell w p ((i + j) * 5 + m) = some u)/\IsT w x p' c'
  | [],p,i,h,j,x,hx => by simp at hx
  | y :: r,p,i,h,j,x,hx => by
    unfold IsL at h
    cases j with
    | zero =>
      simp at hx; subst hx
      exact h.1
    | succ j =>
      have:=IsL.get h.2 (j:=j) (x:=x) (by simpa using hx)
      rw [show i + (j + 1) = i + 1 + j by omega]
      exact this
theorem IsL.of {w:World}:∀ {xs:List AT} {p:Option Addr} {i:Nat},(∀ (j:Nat) (x:AT),xs[j]? = some x->∃ p' c',(∀ m u,(encA x p' c')[m]? = some u->cell w p ((i + j) * 5 + m) = some u)/\IsT w x p' c')->IsL w xs p i
  | [],p,i,h => by unfold IsL; trivial
  | y :: r,p,i,h => by
    unfold IsL
    refine ⟨h 0 y rfl,IsL.of fun j x hx=>?_⟩
    have:=h (j + 1) x (by simpa using hx)
    rw [show i + (j + 1) = i + 1 + j by omega] at this
    exact this
theorem IsT.ext {w w':World} (he:Ext w w'):∀ (t:AT) (p:Option Addr) (c:Nat),IsT w t p c->IsT w' t p c:=by
  intro t
  induction t using AT.ind with
  | h k key val n xs ih =>
    intro p c h
    unfold IsT at h ⊢
    refine ⟨h.1,IsL.of fun j x hx=>?_⟩
    obtain ⟨p',c',h1,h2⟩:=h.2.get hx
    exact ⟨p',c',fun m u hu=>ext_cell he (h1 m u hu),ih x (List.mem_of_getElem? hx) p' c' h2⟩
theorem IsT.at {w:World} {t:AT} {p:Option Addr} {c:Nat} (h:IsT w t p c) {k:Int} (h0:0 <= k) (hk:k < t.xs.length) :
    ∃ x p' c',t.xs[k.toNat]? = some x/\x ∈ t.xs/\IsT w x p' c'/\p ≠ none/\pIdx p k 5 ≠ none/\cell w (pIdx p k 5) 0 = some (.int .i64 x.k)/\cell w (pIdx p k 5) 1 = some (.string x.key)/\cell w (pIdx p k 5) 2 = some (.string x.val) /\
      cell w (pIdx p k 5) 3 = some (.int .i64 x.n)/\cell w (pIdx p k 5) 4 = some (.slice p' x.xs.length c'):=by
  cases t with
  | mk kk key val n xs =>
    unfold IsT at h
    have hk:k < xs.length:=hk
    obtain ⟨x,hx⟩:∃ x,xs[k.toNat]? = some x:=⟨_,List.getElem?_eq_getElem (by omega)⟩
    obtain ⟨p',c',h1,h2⟩:=h.2.get hx
    simp only [Nat.zero_add] at h1
    have g:∀ (m:Nat) u,(encA x p' c')[m]? = some u->cell w (pIdx p k 5) m = some u:=fun m u hu=>by rw [cell_pIdx]; exact h1 m u hu
    have g0:=g 0 _ rfl
    exact ⟨x,p',c',hx,List.mem_of_getElem? hx,h2,fun hq=>cell_p g0 (pIdx_none.2 hq),cell_p g0,g0,g 1 _ rfl,g 2 _ rfl,g 3 _ rfl,g 4 _ rfl⟩
mutual
def WfA:AT->Prop
  | .mk k key val n xs => InR .i64 k/\key.size <= 9223372036854775807/\val.size <= 9223372036854775807/\InR .i64 n/\xs.length <= 9223372036854775807/\WfL xs
def WfL:List AT->Prop
  | [] => True
  | x :: r => WfA x/\WfL r
end
theorem WfL.mem:∀ {l:List AT},WfL l->∀ x ∈ l,WfA x
  | [],_,x,hx => by cases hx
  | y :: r,h,x,hx => by
    unfold WfL at h
    rcases List.mem_cons.1 hx with rfl | hx
    · exact h.1
    · exact WfL.mem h.2 x hx
theorem WfL.of:∀ {l:List AT},(∀ x ∈ l,WfA x)->WfL l
  | [],_ => by unfold WfL; trivial
  | y :: r,h => by unfold WfL; exact ⟨h y (List.mem_cons_self ..),WfL.of fun x hx => h x (List.mem_cons_of_mem _ hx)⟩
theorem WfA.len {t:AT} (h:WfA t):t.xs.length <= 9223372036854775807:=by cases t; unfold WfA at h; exact h.2.2.2.2.1
theorem WfA.sub {t:AT} (h:WfA t):∀ x ∈ t.xs,WfA x:=by cases t; unfold WfA at h; exact h.2.2.2.2.2.mem
theorem ask_good {w:World}:∀ (n:Nat) (cs:List Value),Go.Sx.Good Tryz.prog w n T_Ask cs->∃ t p c,cs = encA t p c/\IsT w t p c/\WfA t:=by
  intro n
  induction n using Nat.strongRecOn with
  | _ n ih =>
  intro cs hg
  have hlv:=leaves_ok (P:=Tryz.prog) 6 T_Ask [T_int,T_string,T_string,T_int64,T_sl_Ask] n cs (by kernel_rfl) hg
  obtain ⟨v0,r0,rfl,l0,hlv⟩:=lvs_cons hlv
  obtain ⟨v1,r1,rfl,l1,hlv⟩:=lvs_cons hlv
  obtain ⟨v2,r2,rfl,l2,hlv⟩:=lvs_cons hlv
  obtain ⟨v3,r3,rfl,l3,hlv⟩:=lvs_cons hlv
  obtain ⟨v4,r4,rfl,l4,hlv⟩:=lvs_cons hlv
  obtain rfl:=lvs_nil hlv
  obtain ⟨k,rfl,hk⟩:=leaf_int (k:=.i64) (by kernel_rfl) l0
  obtain ⟨key,rfl,hkey⟩:=leaf_str (by kernel_rfl) l1
  obtain ⟨val,rfl,hval⟩:=leaf_str (by kernel_rfl) l2
  obtain ⟨m,rfl,hm⟩:=leaf_int (k:=.i64) (by kernel_rfl) l3
  have hsl:∃ n',n' < n/\Go.Sx.Good Tryz.prog w n' T_sl_Ask [v4]:=by
    cases n with
    | zero => exact hg.elim
    | succ n =>
      unfold Go.Sx.Good at hg
      have hu:Tryz.prog.underlying T_Ask = some (.struct (Tryz.prog.fieldsOf T_Ask)):=by kernel_rfl
      rw [hu] at hg
      have hf:((Tryz.prog.fieldsOf T_Ask)[4]?).map (fun f=>(f.type,f.offset)) = some (T_sl_Ask,4):=by kernel_rfl
      obtain ⟨f,hf1,hf2⟩:=Option.map_eq_some_iff.1 hf
      simp only [Prod.mk.injEq] at hf2
      have:=hg.2 f (by have:=Array.mem_of_getElem? hf1; simpa using this)
      rw [hf2.1,hf2.2] at this
      exact ⟨n,by omega,by simpa [show Tryz.prog.cellsOf T_sl_Ask = 1 by kernel_rfl] using this⟩
  obtain ⟨n1,hn1,hsl⟩:=hsl
  have hin:∃ p l c,v4 = .slice p l c/\l <= c/\c <= 9223372036854775807/\(p = none->c = 0)/\∀ a,p = some a->∀ i,i < c->∃ n2 es,n2 < n/\w.cells? 0 (a.add (i * 5)) 5 = some es/\Go.Sx.Good Tryz.prog w n2 T_Ask es:=by
    cases n1 with
    | zero => exact hsl.elim
    | succ n1 =>
      unfold Go.Sx.Good at hsl
      have hu:Tryz.prog.underlying T_sl_Ask = some (.slice T_Ask):=by kernel_rfl
      have hc5:Tryz.prog.cellsOf T_Ask = 5:=by kernel_rfl
      rw [hu] at hsl
      simp only [hc5] at hsl
      rcases hsl with h | ⟨a,len,cap,h,h1,h2,h3⟩
      · simp only [List.cons.injEq,and_true] at h
        exact ⟨none,0,0,h,Nat.le_refl _,by omega,fun _=>rfl,fun a ha=>by cases ha⟩
      · simp only [List.cons.injEq,and_true] at h
        refine ⟨some a,len,cap,h,h1,h2,fun ha=>(by cases ha),fun b hb i hi=>?_⟩
        obtain rfl:=Option.some.inj hb
        obtain ⟨es,h4,h5⟩:=h3 i hi
        exact ⟨n1,es,by omega,h4,h5⟩
  obtain ⟨p,l,c,rfl,hlc,hcm,hpn,hel⟩:=hin
  have hxs:∀ (d i:Nat),i + d = l->∃ xs:List AT,xs.length = d/\(∀ x ∈ xs,WfA x)/\IsL w xs p i:=by
    intro d
    induction d with
    | zero => exact fun i _ => ⟨[],rfl,fun x hx => (by cases hx),by unfold IsL; trivial⟩
    | succ d ihd =>
      intro i hi
      obtain ⟨xs,h1,h2,h3⟩:=ihd (i + 1) (by omega)
      cases p with
      | none => have:=hpn rfl; omega
      | some a =>
        obtain ⟨n2,es,h4,h5,h6⟩:=hel a rfl i (by omega)
        obtain ⟨x,p',c',rfl,h7,h8⟩:=ih n2 h4 es h6
        refine ⟨x :: xs,by simp [h1],fun y hy=>?_,?_⟩
        · rcases List.mem_cons.1 hy with rfl | hy
          · exact h8
          · exact h2 y hy
        · unfold IsL
          refine ⟨⟨p',c',fun j u hu=>?_,h7⟩,h3⟩
          have:=(cells?_some h5).2 j u hu
          simp only [cell,Option.bind_some] at this ⊢
          rw [<- add_add]; exact this
  obtain ⟨xs,h1,h2,h3⟩:=hxs l 0 (by omega)
  subst h1
  exact ⟨.mk k key val m xs,p,c,rfl,by unfold IsT; exact ⟨hlc,h3⟩,by unfold WfA; exact ⟨hk,hkey,hval,hm,by omega,WfL.of h2⟩⟩
theorem ask_arg {W:World} {p:Option Addr} {l c:Nat} (h:SlcArg Tryz.prog W T_Ask p l c) {k:Int} (hk:InR .i64 k) {key val:ByteArray} (hkey:key.size <= 9223372036854775807) (hval:val.size <= 9223372036854775807) {n:Int} (hn:InR .i64 n) :
    ∃ t:AT,t.k = k/\t.key = key/\t.val = val/\t.n = n/\t.xs.length = l/\IsT W t p c/\WfA t:=by
  have hc5:Tryz.prog.cellsOf T_Ask = 5:=by kernel_rfl
  have hxs:∀ (d i:Nat),i + d = l->∃ xs:List AT,xs.length = d/\(∀ x ∈ xs,WfA x)/\IsL W xs p i:=by
    intro d
    induction d with
    | zero => exact fun i _ => ⟨[],rfl,fun x hx => (by cases hx),by unfold IsL; trivial⟩
    | succ d ihd =>
      intro i hi
      obtain ⟨xs,h1,h2,h3⟩:=ihd (i + 1) (by omega)
      have hle:=h.le
      cases p with
      | none => have:=h.nil rfl; omega
      | some a =>
        obtain ⟨n2,es,h5,h6⟩:=h.el a rfl i (by omega)
        rw [hc5] at h5
        obtain ⟨x,p',c',rfl,h7,h8⟩:=ask_good n2 es h6
        refine ⟨x :: xs,by simp [h1],fun y hy=>?_,?_⟩
        · rcases List.mem_cons.1 hy with rfl | hy
          · exact h8
          · exact h2 y hy
        · unfold IsL
          refine ⟨⟨p',c',fun j u hu=>?_,h7⟩,h3⟩
          have:=(cells?_some h5).2 j u hu
          simp only [cell,Option.bind_some] at this ⊢
          rw [<- add_add]; exact this
  obtain ⟨xs,h1,h2,h3⟩:=hxs l 0 (by omega)
  have:=h.le
  have:=h.max
  subst h1
  exact ⟨.mk k key val n xs,rfl,rfl,rfl,rfl,rfl,by unfold IsT; exact ⟨h.le,h3⟩,by unfold WfA; exact ⟨hk,hkey,hval,hn,by omega,WfL.of h2⟩⟩
def okC (b:Int):Bool:=(decide (97 <= b) && decide (b <= 122)) || (decide (48 <= b) && decide (b <= 57)) || decide (b = 45)
def lbB (s:ByteArray):Bool:=decide (0 < s.size) && decide (s.size <= 20) && decide (97 <= sAt s 0) && decide (sAt s 0 <= 122) && (bytesI s).all okC
def cpuS:ByteArray:=⟨#[99,112,117]⟩
def memS:ByteArray:=⟨#[109,101,109]⟩
def gpuS:ByteArray:=⟨#[103,112,117]⟩
def unB (s:ByteArray):Bool:=decide (s = cpuS) || decide (s = memS) || decide (s = gpuS)
def emS:ByteArray:=⟨#[]⟩
def inner (k:Int):Nat:=if k = 5\/k = 6 then 2 else if k = 4 then 1 else 0
def err1 (k:Int) (key val:ByteArray) (n:Int) (l:Nat):Int :=
  if k < 1\/6 < k then 1 else if l ≠ inner k then 1
  else if (4 <= k/\key ≠ emS)\/(k ≠ 2/\val ≠ emS)\/(k ≠ 3/\n ≠ 0) then 1
  else if (k = 3/\unB key = false)\/((k = 1\/k = 2)/\lbB key = false)\/(k = 2/\lbB val = false) then 3
  else if n < 0\/1099511627776 < n then 4 else 0
mutual
def errA:AT->Int
  | .mk k key val n xs => if err1 k key val n xs.length ≠ 0 then err1 k key val n xs.length else errL xs
def errL:List AT->Int
  | [] => 0
  | x :: r => if errA x ≠ 0 then errA x else errL r
end
mutual
def cntA:AT->Int
  | .mk _ _ _ _ xs => cntL xs 1
def cntL:List AT->Int->Int
  | [],n => n
  | x :: r,n => cntL r (IntKind.wrap .i64 (n + cntA x))
end
def errC (t:AT):Int:=if 60 < cntA t then 2 else errA t
theorem errL_zero:∀ {l:List AT},errL l = 0 ↔ ∀ x ∈ l,errA x = 0
  | [] => by unfold errL; simp
  | y :: r => by
    unfold errL
    have:=errL_zero (l:=r)
    by_cases h:errA y = 0
    · simp [h,this]
    · simp [h]
theorem errL_first:∀ {l:List AT} {k:Nat} {x:AT},l[k]? = some x->(∀ j y,j < k->l[j]? = some y->errA y = 0)->errA x ≠ 0->errL l = errA x
  | [],k,x,h,_,_ => by simp at h
  | y :: r,0,x,h,_,hx => by simp at h; subst h; unfold errL; rw [if_pos hx]
  | y :: r,k + 1,x,h,hb,hx => by
    unfold errL
    rw [if_neg (by simp [hb 0 y (by omega) rfl])]
    exact errL_first (by simpa using h) (fun j z hj hz=>hb (j + 1) z (by omega) (by simpa using hz)) hx
mutual
def valA (at_:AT->Bool):AT->Bool
  | .mk k key val n xs => if k = 4 then !(valL at_ xs).getD 0 false else if k = 5 then (valL at_ xs).getD 0 false && (valL at_ xs).getD 1 false else if k = 6 then (valL at_ xs).getD 0 false || (valL at_ xs).getD 1 false else at_ (.mk k key val n xs)
def valL (at_:AT->Bool):List AT->List Bool
  | [] => []
  | x :: r => valA at_ x :: valL at_ r
end
theorem valL_map (at_:AT->Bool) (l:List AT):valL at_ l = l.map (valA at_):=by
  induction l with
  | nil => unfold valL; rfl
  | cons x r ih => unfold valL; rw [ih]; rfl
theorem errA_node {t:AT} (h:errA t = 0):err1 t.k t.key t.val t.n t.xs.length = 0/\∀ x ∈ t.xs,errA x = 0:=by
  cases t with
  | mk k key val n xs =>
    unfold errA at h
    split at h
    · rename_i h1; exact absurd h h1
    · rename_i h1
      exact ⟨Classical.not_not.1 h1,errL_zero.1 h⟩
theorem err1_len {k:Int} {key val:ByteArray} {n:Int} {l:Nat} (h:err1 k key val n l = 0):l = inner k:=by
  unfold err1 at h
  split at h
  · omega
  · split at h
    · omega
    · rename_i h2; exact Classical.not_not.1 h2
end Go.Proofs.YtegephkpdlopaaaGreatDoor
set_option linter.unusedVariables false
set_option linter.unusedSimpArgs false
namespace Go.Proofs.YtegephkpdlopaaaGreatDoor
open Go.Sx Go.RowKit
theorem Label_k (s:ByteArray) (hs:s.size <= 9223372036854775807) (w:World):FnP Tryz.prog F_ask_Label #[.string s] w fun v w'=>Ext w w'/\v = .bool (lbB s):=by
  have hem:s ≠ emS ↔ 0 < s.size:=by
    constructor
    · intro h
      refine Nat.pos_of_ne_zero fun h0=>h ?_
      have h1:s.data.size = 0:=h0
      have h2:s = ByteArray.empty:=by simpa using h1
      rw [h2]; rfl
    · rintro h rfl
      simp [emS] at h; exact absurd h (by decide)
  refine ok_ask_Label s w _ ⟨fun _=>by omega,fun h=>?_,fun _=>by omega,fun h=>?_,fun h w0 h0=>⟨h0,?_⟩,fun h w0 h0=>?_⟩
  · have:=hem.1 h.1; omega
  · have:=hem.1 h.1.1; omega
  · congr 1
    symm
    unfold lbB
    rcases h with ((h | h) | h) | h
    · have:¬ 0 < s.size:=fun hp=>(hem.2 hp) h
      simp [this]
    · have:¬ s.size <= 20:=by omega
      simp [this]
    · have:¬ 97 <= sAt s 0:=by omega
      simp [this]
    · have:¬ sAt s 0 <= 122:=by omega
      simp [this]
  · obtain ⟨⟨⟨h1,h2⟩,h3⟩,h4⟩:=h
    have hp:=hem.1 h1
    refine run_s2b (e:=T_uint8) (by kernel_rfl) (by kernel_rfl) (by kernel_rfl) fun p c w1 e1 hb=>⟨e1,p,s.size,c,rfl,?_⟩
    have hlen:=bytesI_len s
    refine ⟨fun k w'=>w' = w1/\0 <= k/\k <= s.size/\∀ i:Nat,(i:Int) < k->okC ((bytesI s).getD i 0) = true,fun k _=>(s.size - k).toNat,⟨rfl,by omega,by omega,fun i hi=>by omega⟩,?_⟩
    rintro k w1 ⟨rfl,hk0,hk1,hall⟩
    refine ⟨fun hlt=>?_,fun hge w8 h8=>⟨(h0.trans e1).trans h8,?_⟩⟩
    · have g:=Ints.idx hb hk0 (by omega)
      refine ⟨fun hq=>cell_p g (pIdx_none.2 hq),hk0,hlt,_,g,fun hbad w9 h9=>⟨(h0.trans e1).trans h9,?_⟩,fun hok=>⟨i64 (by omega),⟨rfl,by omega,by omega,fun i hi=>?_⟩,by simp only []; omega⟩⟩
      · congr 1
        symm
        have hno:okC ((bytesI s).getD k.toNat 0) = false:=by
          unfold okC
          generalize (bytesI s).getD k.toNat 0 = b at hbad
          simp; omega
        have:(bytesI s).all okC = false:=by
          rw [List.all_eq_false]
          exact ⟨_,getD_mem (bytesI s) 0 (i:=k.toNat) (by omega),by rw [hno]; simp⟩
        unfold lbB
        simp [this]
      · by_cases hik:(i:Int) < k
        · exact hall i hik
        · obtain rfl:i = k.toNat:=by omega
          unfold okC
          generalize (bytesI s).getD k.toNat 0 = b at hok
          simp; omega
    · congr 1
      symm
      have:(bytesI s).all okC = true:=by
        rw [List.all_eq_true]
        intro x hx
        obtain ⟨i,hi,rfl⟩:=List.getElem_of_mem hx
        have:=hall i (by omega)
        simpa [List.getD_eq_getElem?_getD,hi] using this
      unfold lbB
      simp only [this,Bool.and_true,Bool.and_eq_true,decide_eq_true_eq]
      exact ⟨⟨⟨hp,by omega⟩,h3⟩,h4⟩
theorem count_k:∀ (t:AT) (p:Option Addr) (c:Nat) (w:World),IsT w t p c->WfA t->FnP Tryz.prog F_ask_count #[av t p c] w fun v w'=>Ext w w'/\v = .int .i64 (cntA t):=by
  intro t
  induction t using AT.ind with
  | h k key val n xs ih =>
    intro p c w hT hW
    have hlen:=hW.len
    refine ok_ask_count k key val n p xs.length c w _ fun b0 _=>?_
    refine ⟨fun m k2 w'=>w' = w/\0 <= k2/\k2 <= xs.length/\cntL (xs.drop k2.toNat) m = cntL xs 1,fun _ k2 _=>(xs.length - k2).toNat,⟨rfl,by omega,by omega,rfl⟩,?_⟩
    rintro m k2 w ⟨rfl,hk0,hk1,hc⟩
    refine ⟨fun hlt=>?_,fun hge w5 h5=>⟨h5,?_⟩⟩
    · obtain ⟨x,p',c',hx,hmem,hIx,hp,hp5,g0,g1,g2,g3,g4⟩:=hT.at hk0 (by exact hlt)
      have hx:xs[k2.toNat]? = some x:=hx
      refine ⟨hp,hk0,hlt,hp5,_,g0,_,g1,_,g2,_,g3,_,_,_,g4,fun b12 _ w13 h13=>?_⟩
      refine (ih x hmem p' c' w13 (hIx.ext h13 _ _ _) (hW.sub x hmem)).mono fun v w14 ⟨e14,hv⟩=>⟨e14,_,hv,i64 (by have hlen:xs.length <= 9223372036854775807:=hlen; omega),⟨rfl,by omega,by omega,?_⟩,by simp only []; omega⟩
      rw [<- hc,show (k2 + 1).toNat = k2.toNat + 1 by omega]
      obtain ⟨hi,he⟩:=List.getElem?_eq_some_iff.1 hx
      rw [List.drop_eq_getElem_cons hi,he]
      show _ = cntL (x :: xs.drop (k2.toNat + 1)) m
      rw [cntL]
    · have hd:xs.drop k2.toNat = []:=List.drop_of_length_le (by omega)
      rw [hd] at hc
      unfold cntA
      rw [<- hc,cntL]
theorem unit_k (s:ByteArray) (w:World):FnP Tryz.prog F_ask_unit #[.string s] w fun v w'=>Ext w w'/\v = .bool (unB s) :=
  ok_ask_unit s w _ fun w0 h0=>⟨h0,rfl⟩
theorem check_k:∀ (t:AT) (p:Option Addr) (c:Nat) (w:World),IsT w t p c->WfA t->FnP Tryz.prog F_ask_check #[av t p c] w fun v w'=>Ext w w'/\v = .int .i64 (errA t):=by
  intro t
  induction t using AT.ind with
  | h k key val n xs ih =>
    intro p c w hT hW
    have hlen:xs.length <= 9223372036854775807:=hW.len
    have hWn:=hW
    unfold WfA at hWn
    obtain ⟨hk,hkey,hval,hn,_,_⟩:=hWn
    have E:errA (.mk k key val n xs) = if err1 k key val n xs.length ≠ 0 then err1 k key val n xs.length else errL xs:=by rw [errA]
    rw [E]
    have bad:∀ e:Int,err1 k key val n xs.length = e->e ≠ 0->∀ w1,Ext w w1->Ext w w1/\Value.int .i64 e = .int .i64 (if err1 k key val n xs.length ≠ 0 then err1 k key val n xs.length else errL xs):=fun e he hne w1 h1=>⟨h1,by rw [he,if_pos hne]⟩
    refine ok_ask_check k key val n p xs.length c w _ fun b0 _=>⟨fun hb w1 h1=>bad 1 (by unfold err1; rw [if_pos hb]) (by omega) w1 h1,fun hg=>?_⟩
    have hr:¬ (k < 1\/6 < k):=by omega
    refine ⟨fun i b w'=>w' = w/\i = inner k/\(b = true ↔ k < 4),?_,?_⟩
    · have h5:k = 5->(w = w/\((0:Int) + 1) + 1 = inner k/\(false = true ↔ k < 4)):=fun h=>⟨rfl,by unfold inner; rw [if_pos (.inl h)]; rfl,by simp; omega⟩
      have h6:k = 6->(w = w/\((0:Int) + 1) + 1 = inner k/\(false = true ↔ k < 4)):=fun h=>⟨rfl,by unfold inner; rw [if_pos (.inr h)]; rfl,by simp; omega⟩
      have h4:k = 4->(w = w/\(0:Int) + 1 = inner k/\(false = true ↔ k < 4)):=fun h=>⟨rfl,by unfold inner; rw [if_neg (by omega),if_pos h]; rfl,by simp; omega⟩
      have h0:k ≠ 4->k ≠ 5->k ≠ 6->(w = w/\(0:Int) = inner k/\(true = true ↔ k < 4)):=fun h4 h5 h6=>⟨rfl,by unfold inner; rw [if_neg (by omega),if_neg h4]; rfl,by simp; omega⟩
      exact ⟨fun h=>⟨fun _=>⟨i64 (by omega),i64 (by omega),h5 h⟩,fun hn=>absurd h hn⟩,fun hn5=>⟨fun h=>⟨i64 (by omega),i64 (by omega),h6 h⟩,fun hn6=>⟨fun h=>⟨i64 (by omega),h4 h⟩,fun hn4=>h0 hn4 hn5 hn6⟩⟩⟩
    rintro i b w ⟨rfl,rfl,hb⟩
    refine ⟨fun hbd w5 h5=>bad 1 ?_ (by omega) w5 h5,fun hok=>?_⟩
    · unfold err1
      rw [if_neg hr]
      by_cases hl:xs.length = inner k
      · rw [if_neg (by simpa using hl),if_pos]
        rcases hbd with ((h | ⟨h,h'⟩) | ⟨h,h'⟩) | ⟨h,h'⟩
        · omega
        · left
          refine ⟨?_,h'⟩
          cases b
          · simp at hb; exact hb
          · cases h
        · right; left; exact ⟨h,h'⟩
        · right; right; exact ⟨h,h'⟩
      · rw [if_pos hl]
    · obtain ⟨⟨⟨hl,hke⟩,hva⟩,hnn⟩:=hok
      have hl':xs.length = inner k:=by omega
      have h2:¬ xs.length ≠ inner k:=by simpa using hl'
      have h3:¬ ((4 <= k/\key ≠ emS)\/(k ≠ 2/\val ≠ emS)\/(k ≠ 3/\n ≠ 0)):=by
        rintro (⟨h,h'⟩ | ⟨h,h'⟩ | ⟨h,h'⟩)
        · rcases hke with hk' | hk'
          · have:=hb.1 hk'; omega
          · exact h' hk'
        · rcases hva with hv' | hv'
          · exact h hv'
          · exact h' hv'
        · rcases hnn with hn' | hn'
          · exact h hn'
          · exact h' hn'
      have e3:((k = 3/\unB key = false)\/((k = 1\/k = 2)/\lbB key = false)\/(k = 2/\lbB val = false))->err1 k key val n xs.length = 3:=fun h=>by
        unfold err1; rw [if_neg hr,if_neg h2,if_neg h3,if_pos h]
      have e4:¬ ((k = 3/\unB key = false)\/((k = 1\/k = 2)/\lbB key = false)\/(k = 2/\lbB val = false))->(n < 0\/1099511627776 < n)->err1 k key val n xs.length = 4:=fun h h'=>by
        unfold err1; rw [if_neg hr,if_neg h2,if_neg h3,if_neg h,if_pos h']
      have e0:¬ ((k = 3/\unB key = false)\/((k = 1\/k = 2)/\lbB key = false)\/(k = 2/\lbB val = false))->¬ (n < 0\/1099511627776 < n)->err1 k key val n xs.length = 0:=fun h h'=>by
        unfold err1; rw [if_neg hr,if_neg h2,if_neg h3,if_neg h,if_neg h']
      refine ⟨fun w'=>w' = w/\err1 k key val n xs.length = 0,?_,?_⟩
      · refine ⟨fun hk3 w7 h7=>?_,fun hk3=>⟨fun hk12 w7 h7=>?_,fun hk12=>⟨fun h2=>by omega,fun hk2=>⟨fun hb4 w7 h7=>bad 4 (e4 ?_ hb4) (by omega) w7 h7,fun hg4=>⟨rfl,e0 ?_ (by omega)⟩⟩⟩⟩⟩
        · refine (unit_k key w7).mono fun v w8 ⟨e8,hv⟩=>⟨e8,_,hv,fun hf=>⟨fun _ w10 h10=>bad 3 (e3 (.inl ⟨hk3,hf⟩)) (by omega) w10 h10,fun ht=>by rw [hf] at ht; cases ht⟩,fun ht=>⟨fun hk12=>by omega,fun _=>⟨fun h2=>by omega,fun hk2=>⟨fun hb4 w10 h10=>bad 4 (e4 ?_ hb4) (by omega) w10 h10,fun hg4=>⟨rfl,e0 ?_ (by omega)⟩⟩⟩⟩⟩
          all_goals
            rintro (⟨_,h⟩ | ⟨h,_⟩ | ⟨h,_⟩)
            · rw [ht] at h; cases h
            · omega
            · omega
        · refine (Label_k key hkey w7).mono fun v w8 ⟨e8,hv⟩=>⟨e8,_,hv,fun hf=>⟨fun _ w10 h10=>bad 3 (e3 (.inr (.inl ⟨hk12,hf⟩))) (by omega) w10 h10,fun ht=>by rw [hf] at ht; cases ht⟩,fun ht=>⟨fun hk2 w10 h10=>?_,fun hk2=>⟨fun hb4 w10 h10=>bad 4 (e4 ?_ hb4) (by omega) w10 h10,fun hg4=>⟨rfl,e0 ?_ (by omega)⟩⟩⟩⟩
          · refine (Label_k val hval w10).mono fun v w11 ⟨e11,hv⟩=>⟨e11,_,hv,fun hf=>fun w13 h13=>bad 3 (e3 (.inr (.inr ⟨hk2,hf⟩))) (by omega) w13 h13,fun ht2=>⟨fun hb4 w13 h13=>bad 4 (e4 ?_ hb4) (by omega) w13 h13,fun hg4=>⟨rfl,e0 ?_ (by omega)⟩⟩⟩
            all_goals
              rintro (⟨h,_⟩ | ⟨_,h⟩ | ⟨_,h⟩)
              · omega
              · rw [ht] at h; cases h
              · rw [ht2] at h; cases h
          all_goals
            rintro (⟨h,_⟩ | ⟨_,h⟩ | ⟨h,_⟩)
            · omega
            · rw [ht] at h; cases h
            · omega
        all_goals
          rintro (⟨h,_⟩ | ⟨h,_⟩ | ⟨h,_⟩)
          · omega
          · omega
          · omega
      · rintro w ⟨rfl,herr⟩
        rw [herr,if_neg (by omega)]
        refine ⟨fun k2 w'=>w' = w/\0 <= k2/\k2 <= xs.length/\∀ (j:Nat) (y:AT),(j:Int) < k2->xs[j]? = some y->errA y = 0,fun k2 _=>(xs.length - k2).toNat,⟨rfl,by omega,by omega,fun j y hj=>by omega⟩,?_⟩
        rintro k2 w ⟨rfl,hk0,hk1,hall⟩
        refine ⟨fun hlt=>?_,fun hge w10 h10=>⟨h10,?_⟩⟩
        · obtain ⟨x,p',c',hx,hmem,hIx,hp,hp5,g0,g1,g2,g3,g4⟩:=hT.at hk0 (by exact hlt)
          have hx:xs[k2.toNat]? = some x:=hx
          refine ⟨hp,hk0,hlt,hp5,_,g0,_,g1,_,g2,_,g3,_,_,_,g4,fun b17 _ w18 h18=>?_⟩
          refine (ih x hmem p' c' w18 (hIx.ext h18 _ _ _) (hW.sub x hmem)).mono fun v w19 ⟨e19,hv⟩=>⟨e19,_,hv,fun hne w21 h21=>⟨h21,?_⟩,fun he=>⟨i64 (by omega),⟨rfl,by omega,by omega,fun j y hj hy=>?_⟩,by simp only []; omega⟩⟩
          · rw [errL_first hx (fun j y hj hy=>hall j y (by omega) hy) hne]
          · by_cases hjk:(j:Int) < k2
            · exact hall j y hjk hy
            · obtain rfl:j = k2.toNat:=by omega
              rw [hx] at hy; obtain rfl:=Option.some.inj hy
              exact he
        · rw [errL_zero.2 fun x hx=>?_]
          obtain ⟨j,hj,rfl⟩:=List.getElem_of_mem hx
          exact hall j _ (by omega) (List.getElem?_eq_getElem hj)
theorem Check_k (t:AT) (p:Option Addr) (c:Nat) (w:World) (hT:IsT w t p c) (hW:WfA t):FnP Tryz.prog F_ask_Check #[av t p c] w fun v w'=>Ext w w'/\v = .int .i64 (errC t):=by
  refine ok_ask_Check t.k t.key t.val t.n p t.xs.length c w _ fun b0 _ w1 h1=>?_
  refine (count_k t p c w1 (hT.ext h1 _ _ _) hW).mono fun v w2 ⟨e2,hv⟩=>⟨e2,_,hv,fun hgt w4 h4=>⟨h4,?_⟩,fun hle w4 h4=>?_⟩
  · unfold errC; rw [if_pos hgt]
  · refine (check_k t p c w4 (hT.ext h4 _ _ _) hW).mono fun v w5 ⟨e5,hv⟩=>⟨e5,_,hv,fun w7 h7=>⟨h7,?_⟩⟩
    unfold errC; rw [if_neg (by omega)]
theorem value_k {w0:World} {f:Value} {at_:AT->Bool} (hf:∀ (y:AT) (p:Option Addr) (c:Nat) (w:World),Ext w0 w->IsT w y p c->errA y = 0->y.k < 4->FnVP Tryz.prog f [av y p c] w fun v w'=>Ext w w'/\v = .bool (at_ y)) :
    ∀ (t:AT) (p:Option Addr) (c:Nat) (w:World),Ext w0 w->IsT w t p c->errA t = 0->FnP Tryz.prog F_ask_value #[av t p c,f] w fun v w'=>Ext w w'/\v = .bool (valA at_ t):=by
  intro t
  induction t using AT.ind with
  | h k key val n xs ih =>
    intro p c w hx0 hT he
    obtain ⟨h1,hsub⟩:=errA_node he
    have hlen:xs.length = inner k:=err1_len h1
    have hin:¬ (k < 1\/6 < k):=fun hb=>by
      have h1:err1 k key val n xs.length = 0:=h1
      unfold err1 at h1; rw [if_pos hb] at h1; omega
    have V:valA at_ (.mk k key val n xs) = if k = 4 then !(xs.map (valA at_)).getD 0 false else if k = 5 then (xs.map (valA at_)).getD 0 false && (xs.map (valA at_)).getD 1 false else if k = 6 then (xs.map (valA at_)).getD 0 false || (xs.map (valA at_)).getD 1 false else at_ (.mk k key val n xs):=by
      rw [valA,valL_map]
    rw [V]
    have sub:∀ (i:Int),0 <= i->i < xs.length->∃ x p' c',(xs.map (valA at_)).getD i.toNat false = valA at_ x/\p ≠ none/\pIdx p i 5 ≠ none/\Go.Sx.cell w (pIdx p i 5) 0 = some (.int .i64 x.k)/\Go.Sx.cell w (pIdx p i 5) 1 = some (.string x.key)/\Go.Sx.cell w (pIdx p i 5) 2 = some (.string x.val) /\
        Go.Sx.cell w (pIdx p i 5) 3 = some (.int .i64 x.n)/\Go.Sx.cell w (pIdx p i 5) 4 = some (.slice p' x.xs.length c')/\∀ w',Ext w w'->FnP Tryz.prog F_ask_value #[av x p' c',f] w' fun v w''=>Ext w' w''/\v = .bool (valA at_ x):=fun i h0 hi=>by
      obtain ⟨x,p',c',hx,hmem,hIx,hp,hp5,g0,g1,g2,g3,g4⟩:=hT.at h0 (by exact hi)
      have hx:xs[i.toNat]? = some x:=hx
      refine ⟨x,p',c',?_,hp,hp5,g0,g1,g2,g3,g4,fun w' hw'=>ih x hmem p' c' w' (hx0.trans hw') (hIx.ext hw' _ _ _) (hsub x hmem)⟩
      rw [List.getD_eq_getElem?_getD,List.getElem?_map,hx]; rfl
    refine ok_ask_value k key val n p xs.length c f w _ fun b0 _=>⟨fun h4=>?_,fun h4=>⟨fun h5=>?_,fun h5=>⟨fun h6=>?_,fun h6 w1 hw1=>?_⟩⟩⟩
    · have hl:xs.length = 1:=by rw [hlen]; unfold inner; rw [if_neg (by omega),if_pos h4]
      obtain ⟨x,p',c',hv,hp,hp5,g0,g1,g2,g3,g4,hF⟩:=sub 0 (by omega) (by omega)
      refine ⟨hp,by omega,by omega,hp5,_,g0,_,g1,_,g2,_,g3,_,_,_,g4,fun w8 h8=>(hF w8 h8).mono fun v w9 ⟨e9,hv'⟩=>⟨e9,_,hv',fun w11 h11=>⟨h11,?_⟩⟩⟩
      rw [if_pos h4,show (0:Nat) = (0:Int).toNat from rfl,hv]
    · have hl:xs.length = 2:=by rw [hlen]; unfold inner; rw [if_pos (.inl h5)]
      obtain ⟨x,p',c',hv,hp,hp5,g0,g1,g2,g3,g4,hF⟩:=sub 0 (by omega) (by omega)
      obtain ⟨y,q',d',hv2,hq,hq5,f0,f1,f2,f3,f4,hG⟩:=sub 1 (by omega) (by omega)
      rw [if_neg h4,if_pos h5,show (0:Nat) = (0:Int).toNat from rfl,hv,show (1:Nat) = (1:Int).toNat from rfl,hv2]
      refine ⟨hp,by omega,by omega,hp5,_,g0,_,g1,_,g2,_,g3,_,_,_,g4,fun w8 h8=>(hF w8 h8).mono fun v w9 ⟨e9,hv'⟩=>⟨e9,_,hv',fun _=>hp,fun _=>by omega,fun _=>by omega,fun ht=>⟨hq5,_,f0,_,f1,_,f2,_,f3,_,_,_,f4,fun w18 h18=>(hG w18 h18).mono fun v w19 ⟨e19,hv''⟩=>⟨e19,_,hv'',fun w21 h21=>⟨h21,by rw [ht]; rfl⟩⟩⟩,fun hf' w11 h11=>⟨h11,by rw [hf']; rfl⟩⟩⟩
    · have hl:xs.length = 2:=by rw [hlen]; unfold inner; rw [if_pos (.inr h6)]
      obtain ⟨x,p',c',hv,hp,hp5,g0,g1,g2,g3,g4,hF⟩:=sub 0 (by omega) (by omega)
      obtain ⟨y,q',d',hv2,hq,hq5,f0,f1,f2,f3,f4,hG⟩:=sub 1 (by omega) (by omega)
      rw [if_neg h4,if_neg h5,if_pos h6,show (0:Nat) = (0:Int).toNat from rfl,hv,show (1:Nat) = (1:Int).toNat from rfl,hv2]
      refine ⟨hp,by omega,by omega,hp5,_,g0,_,g1,_,g2,_,g3,_,_,_,g4,fun w8 h8=>(hF w8 h8).mono fun v w9 ⟨e9,hv'⟩=>⟨e9,_,hv',fun _=>hp,fun _=>by omega,fun _=>by omega,fun ht w11 h11=>⟨h11,by rw [ht]; rfl⟩,fun hf'=>⟨hq5,_,f0,_,f1,_,f2,_,f3,_,_,_,f4,fun w18 h18=>(hG w18 h18).mono fun v w19 ⟨e19,hv''⟩=>⟨e19,_,hv'',fun w21 h21=>⟨h21,by rw [hf']; rfl⟩⟩⟩⟩⟩
    · rw [if_neg h4,if_neg h5,if_neg h6]
      obtain ⟨g,cap,hv,hF⟩:=hf (.mk k key val n xs) p c w1 (hx0.trans hw1) (hT.ext hw1 _ _ _) he (by show k < 4; omega)
      exact ⟨g,cap,hv,hF.mono fun v w2 ⟨e2,hv'⟩=>⟨e2,_,hv',fun w4 hw4=>⟨hw4,rfl⟩⟩⟩
structure Lb where
  key:ByteArray
  val:ByteArray
deriving Inhabited
abbrev encLb (x:Lb):List Value:=[.string x.key,.string x.val]
abbrev Lbs (w:World) (p:Option Addr) (L:List Lb):Prop:=Recs 2 encLb w p L
structure Ht where
  name:ByteArray
  labels:List Lb
  has:Nd
  used:Nd
deriving Inhabited
abbrev encH (h:Ht) (p:Option Addr) (c:Nat):List Value:=[.string h.name,.slice p h.labels.length c,.int .i64 h.has.c,.int .i64 h.has.m,.int .i64 h.has.g,.int .i64 h.used.c,.int .i64 h.used.m,.int .i64 h.used.g]
abbrev hv (h:Ht) (p:Option Addr) (c:Nat):Value:=.agg #[.string h.name,.slice p h.labels.length c,.int .i64 h.has.c,.int .i64 h.has.m,.int .i64 h.has.g,.int .i64 h.used.c,.int .i64 h.used.m,.int .i64 h.used.g]
def amt (x:Nd) (key:ByteArray):Int:=if key = cpuS then x.c else if key = memS then x.m else x.g
def atH (h:Ht) (y:AT):Bool:=if y.k = 3 then decide (y.n <= amt h.has y.key) else h.labels.any fun l=>decide (l.key = y.key) && (decide (y.k = 1) || decide (l.val = y.val))
theorem amount_k (x:Nd) (key:ByteArray) (w:World):FnP Tryz.prog F_ask_amount #[nv x,.string key] w fun v w'=>Ext w w'/\v = .int .i64 (amt x key) :=
  ok_ask_amount x.c x.m x.g key w _ fun b0 _=>⟨fun h w1 h1=>⟨h1,by unfold amt; rw [if_pos (show key = cpuS from h)]⟩,fun h=>⟨fun h2 w1 h1=>⟨h1,by unfold amt; rw [if_neg (show ¬ key = cpuS from h),if_pos (show key = memS from h2)]⟩,fun h2 w1 h1=>⟨h1,by unfold amt; rw [if_neg (show ¬ key = cpuS from h),if_neg (show ¬ key = memS from h2)]⟩⟩⟩
theorem anyLb_k (p:Option Addr) (c:Nat) (L:List Lb) (h63:L.length <= 9223372036854775807) (f:Value) (Pr:Lb->Bool) (w:World) (hL:Lbs w p L) (hf:∀ e ∈ L,∀ w',Ext w w'->FnVP Tryz.prog f [.agg #[.string e.key,.string e.val]] w' fun v w''=>Ext w' w''/\v = .bool (Pr e)) :
    FnP Tryz.prog F_slices_ContainsFunc_api_Label_api_Label #[.slice p L.length c,f] w fun v w'=>Ext w w'/\v = .bool (L.any Pr):=by
  refine ok_slices_ContainsFunc_api_Label_api_Label p L.length c f w _ fun w0 h0=>?_
  refine FnP.mono (K:=fun v w'=>Ext w0 w'/\∃ t:Int,v = .int .i64 t/\(0 <= t ↔ L.any Pr = true)) ?_ fun v w1 ⟨e1,t,hv,ht⟩=>⟨e1,t,hv,fun w3 h3=>⟨h3,by congr 1; rw [Bool.eq_iff_iff,decide_eq_true_iff]; exact ht⟩⟩
  refine ok_slices_IndexFunc_api_Label_api_Label p L.length c f w0 _ ⟨fun k w'=>w' = w0/\0 <= k/\k <= L.length/\∀ j:Nat,(j:Int) < k->Pr (L.getD j default) = false,fun k _=>(L.length - k).toNat,⟨rfl,by omega,by omega,fun j hj=>by omega⟩,?_⟩
  rintro k w2 ⟨rfl,hk0,hk1,hno⟩
  refine ⟨fun hlt=>?_,fun hge w3 h3=>⟨h3,-1,rfl,?_⟩⟩
  · have g0:=(hL.ext h0).idx default hk0 hlt (j:=0) rfl
    have g1:=(hL.ext h0).idx default hk0 hlt (j:=1) rfl
    have hm:=getD_mem L default (i:=k.toNat) (by omega)
    refine ⟨fun hq=>cell_p g0 (pIdx_none.2 hq),hk0,hlt,cell_p g0,_,g0,_,g1,fun w5 h5=>?_⟩
    obtain ⟨fn,cap,hv,hF⟩:=hf _ hm w5 (h0.trans h5)
    refine ⟨fn,cap,hv,hF.mono fun v w6 ⟨e6,hv⟩=>⟨e6,_,hv,fun hy w8 h8=>⟨h8,k,rfl,?_⟩,fun hn=>⟨i64 (by omega),⟨rfl,by omega,by omega,fun j hj=>?_⟩,by simp only []; omega⟩⟩⟩
    · exact ⟨fun _=>List.any_eq_true.2 ⟨_,hm,hy⟩,fun _=>hk0⟩
    · by_cases hjk:(j:Int) < k
      · exact hno j hjk
      · obtain rfl:j = k.toNat:=by omega
        exact hn
  · refine ⟨fun h=>by omega,fun h=>?_⟩
    obtain ⟨e,he,hpe⟩:=List.any_eq_true.1 h
    obtain ⟨i,hi,rfl⟩:=List.getElem_of_mem he
    have:=hno i (by omega)
    simp only [List.getD_eq_getElem?_getD,List.getElem?_eq_getElem hi,Option.getD_some] at this
    rw [this] at hpe; cases hpe
theorem Holds_k (t:AT) (p:Option Addr) (c:Nat) (h:Ht) (q:Option Addr) (d:Nat) (hl:h.labels.length <= 9223372036854775807) (w:World) (hT:IsT w t p c) (hW:WfA t) (hL:Lbs w q h.labels) :
    FnP Tryz.prog F_ask_Holds #[av t p c,hv h q d] w fun v w'=>Ext w w'/\v = .tuple #[.bool (if errC t = 0 then valA (atH h) t else false),.int .i64 (errC t)]:=by
  refine ok_ask_Holds t.k t.key t.val t.n p t.xs.length c h.name q h.labels.length d h.has.c h.has.m h.has.g h.used.c h.used.m h.used.g w _ fun b0 hb0 w1 x1=>?_
  have h1:=extB_ext x1
  refine new_own (t:=T_Host) (by intro v hv; simp at hv; rcases hv with rfl | rfl | rfl | rfl | rfl | rfl | rfl | rfl <;> rfl) fun w2 o2 e2=>fun w3 h3=>?_
  have c2:=(o2 0 (Nat.zero_le _)).cells
  have x2:=h1.trans e2
  refine (Check_k t p c w3 (hT.ext (x2.trans h3) _ _ _) hW).mono fun v w4 ⟨e4,hv⟩=>⟨e4,_,hv,fun hne w6 h6=>⟨x2.trans h6,by rw [if_neg hne]⟩,fun he w6 h6=>?_⟩
  have heA:errA t = 0:=by
    unfold errC at he
    split at he
    · omega
    · exact he
  refine (value_k (w0:=w2) (at_:=atH h) (fun y py cy wy hwy hTy hey hky=>⟨F_ask_Holds_1,#[.pointer (some ⟨w1.heap.size,0,none⟩)],rfl,?_⟩) t p c w6 h6 (hT.ext (x2.trans h6) _ _ _) heA).mono fun v w7 ⟨e7,hv⟩=>⟨e7,_,hv,fun w9 h9=>⟨x2.trans h9,by rw [if_pos he,he]⟩⟩
  have cy':=c2.ext hwy
  have hLy:=hL.ext (x2.trans hwy)
  refine (ok_ask_Holds_1 y.k y.key y.val y.n py y.xs.length cy (some ⟨w1.heap.size,0,none⟩) wy _ fun w0' h0'=>?_:FnP Tryz.prog F_ask_Holds_1 #[av y py cy,.pointer (some ⟨w1.heap.size,0,none⟩)] wy _)
  refine new_own (t:=T_Ask) (by intro v hv; simp at hv; rcases hv with rfl | rfl | rfl | rfl | rfl <;> rfl) fun wa oa ea=>?_
  have ca:=(oa 0 (Nat.zero_le _)).cells
  have hxa:=h0'.trans ea
  have cy2:=cy'.ext hxa
  have A:∀ (i:Nat) u,(encA y py cy)[i]? = some u->Go.Sx.cell wa (pAdd (some ⟨w0'.heap.size,0,none⟩) i) 0 = some u:=fun i u hu=>by rw [cell_pAdd]; exact ca i u hu
  refine ⟨by simp,_,A 0 _ rfl,fun h3'=>⟨by simp,by simp [pAdd],_,by rw [cell_pAdd]; exact cy2 2 _ rfl,_,by rw [cell_pAdd]; exact cy2 3 _ rfl,_,by rw [cell_pAdd]; exact cy2 4 _ rfl,by simp,_,A 1 _ rfl,by simp,_,A 3 _ rfl,fun w8 h8=>?_⟩,fun h3'=>⟨by simp,_,_,_,by rw [cell_pAdd]; exact cy2 1 _ rfl,fun w6' h6'=>?_⟩⟩
  · refine (amount_k h.has y.key w8).mono fun v w9 ⟨e9,hv⟩=>⟨e9,_,hv,fun w11 h11=>⟨hxa.trans h11,?_⟩⟩
    unfold atH; rw [if_pos h3']
  · refine (anyLb_k q d h.labels hl _ (fun l=>decide (l.key = y.key) && (decide (y.k = 1) || decide (l.val = y.val))) w6' (hLy.ext (hxa.trans h6')) fun e he w' hw'=>⟨F_ask_Holds_1_1,#[.pointer (some ⟨w0'.heap.size,0,none⟩)],rfl,?_⟩).mono fun v w7 ⟨e7,hv⟩=>⟨e7,_,hv,fun w9 h9=>⟨hxa.trans h9,?_⟩⟩
    · have B:∀ (i:Nat) u,(encA y py cy)[i]? = some u->Go.Sx.cell w' (pAdd (some ⟨w0'.heap.size,0,none⟩) i) 0 = some u:=fun i u hu=>ext_cell (h6'.trans hw') (A i u hu)
      show FnP Tryz.prog F_ask_Holds_1_1 #[.agg #[.string e.key,.string e.val],.pointer (some ⟨w0'.heap.size,0,none⟩)] w' _
      refine ok_ask_Holds_1_1 e.key e.val (some ⟨w0'.heap.size,0,none⟩) w' _ fun b0 _=>⟨by simp,_,B 1 _ rfl,fun _=>by simp,fun hk=>⟨_,B 0 _ rfl,fun _=>by simp,fun h1' w3' h3''=>⟨h3'',?_⟩,fun h1'=>⟨_,B 2 _ rfl,fun w4' h4'=>⟨h4',?_⟩⟩⟩,fun hk w2' h2'=>⟨h2',?_⟩⟩
      · simp [hk,h1']
      · simp [hk,h1']
      · simp [hk]
    · unfold atH; rw [if_neg h3']
end Go.Proofs.YtegephkpdlopaaaGreatDoor
set_option linter.unusedVariables false
set_option linter.unusedSimpArgs false
namespace Go.Proofs.YtegephkpdlopaaaGreatDoor
open Go.Sx Go.RowKit
abbrev opA (k:Int) (l:List AT):AT:=.mk k emS emS 0 l
theorem opA_wf {k:Int} (hk:0 <= k/\k <= 100) {l:List AT} (hl:l.length <= 100) (h:∀ x ∈ l,WfA x):WfA (opA k l):=by
  unfold WfA
  exact ⟨i64 (by omega),by decide,by decide,i64 (by omega),by omega,WfL.of h⟩
theorem isL_lit {w:World} {q:Option Addr}:∀ {l:List (AT × Option Addr × Nat)} {i:Nat},(∀ (j:Nat) u,(l.flatMap fun x=>encA x.1 x.2.1 x.2.2)[j]? = some u->Go.Sx.cell w q (i * 5 + j) = some u)->(∀ x ∈ l,IsT w x.1 x.2.1 x.2.2)->IsL w (l.map (·.1)) q i
  | [],i,_,_ => by unfold IsL; trivial
  | x :: r,i,h,hT => by
    unfold IsL
    refine ⟨⟨x.2.1,x.2.2,fun j u hu=>h j u ?_,hT x (List.mem_cons_self ..)⟩,isL_lit (fun j u hu=>?_) fun y hy=>hT y (List.mem_cons_of_mem _ hy)⟩
    · rw [List.flatMap_cons,List.getElem?_append_left]
      · exact hu
      · exact (List.getElem?_eq_some_iff.1 hu).1
    · have:=h (5 + j) u (by
        rw [List.flatMap_cons,List.getElem?_append_right (by simp [encA])]
        simpa [encA] using hu)
      rw [show (i + 1) * 5 + j = i * 5 + (5 + j) by omega]
      exact this
end Go.Proofs.YtegephkpdlopaaaGreatDoor
set_option linter.unusedVariables false
set_option linter.unusedSimpArgs false
namespace Go.Proofs.YtegephkpdlopaaaGreatDoor
open Go.Sx Go.RowKit
theorem extB1 {b:Nat} {w0 w w':World} (h:ExtB [b] [] w w') (he:Ext w0 w) (hb:w0.heap.size <= b):Ext w0 w':=but_ext h he (by intro d hd; simp at hd; omega)
abbrev zeroA:AT:=.mk 0 emS emS 0 []
theorem ask_cases {k:Int} {key val:ByteArray} {n:Int} {xs:List AT} (h:errA (.mk k key val n xs) = 0) :
    (k = 4/\∃ x,xs = [x]/\errA x = 0)\/((k = 5\/k = 6)/\∃ x y,xs = [x,y]/\errA x = 0/\errA y = 0)\/(1 <= k/\k < 4/\xs = []):=by
  obtain ⟨h1,hsub⟩:=errA_node h
  have h1:err1 k key val n xs.length = 0:=h1
  have hsub:∀ x ∈ xs,errA x = 0:=hsub
  have hlen:=err1_len h1
  have hin:¬ (k < 1\/6 < k):=fun hb=>by
    unfold err1 at h1; rw [if_pos hb] at h1; omega
  unfold inner at hlen
  by_cases h4:k = 4
  · rw [if_neg (by omega),if_pos h4] at hlen
    match xs,hlen with
    | [x],_ => exact .inl ⟨h4,x,rfl,hsub x (by simp)⟩
  · by_cases h5:k = 5\/k = 6
    · rw [if_pos h5] at hlen
      match xs,hlen with
      | [x,y],_ => exact .inr (.inl ⟨h5,x,y,rfl,hsub x (by simp),hsub y (by simp)⟩)
    · rw [if_neg h5,if_neg h4] at hlen
      exact .inr (.inr ⟨by omega,by omega,List.length_eq_zero_iff.1 hlen⟩)
end Go.Proofs.YtegephkpdlopaaaGreatDoor
set_option linter.unusedVariables false
set_option linter.unusedSimpArgs false
namespace Go.Proofs.YtegephkpdlopaaaGreatDoor
open Go.Sx Go.RowKit
structure GP (w:World):Prop where
  pow : Lib.TabIs Tryz.prog w "internal/strconv.uint64pow10" .u64 Lib.pow10Tab
theorem GP.ext {w w':World} (g:GP w) (e:Ext w w'):GP w':=⟨tab_ext g.pow e⟩
theorem FormatP_k (n:Int) (h:-9223372036854775808 <= n/\n <= 9223372036854775807) (w:World) (g:GP w):FnP Tryz.prog F_strconv_FormatInt #[.int .i64 n,.int .i64 10] w fun v w'=>Ext w w'/\v = .string (ofL (Lib.itoa n)) :=
  ⟨fun args w=>Tryz.call136 args w,(Tryz.strconv_FormatInt_10 n h.1 h.2 w g.pow).mono fun e w' ⟨he,k,os,hw⟩=>⟨_,he,by rw [hw]; exact below_grow,rfl⟩⟩
mutual
def nod:AT->Nat
  | .mk _ _ _ _ xs => 1 + nodL xs
def nodL:List AT->Nat
  | [] => 0
  | x :: r => nod x + nodL r
end
mutual
def txt:AT->List UInt8
  | .mk k key val n xs => if k = 1 then 63 :: key.data.toList else if k = 2 then key.data.toList ++ 61 :: val.data.toList else if k = 3 then key.data.toList ++ 62 :: 61 :: Lib.itoa n
    else if k = 4 then 33 :: (txtL xs).headD [] else 40 :: ((txtL xs).getD 0 [] ++ (if k = 5 then 38 else 124) :: ((txtL xs).getD 1 [] ++ [41]))
def txtL:List AT->List (List UInt8)
  | [] => []
  | x :: r => txt x :: txtL r
end
theorem txt1 (key val:ByteArray) (n:Int) (xs:List AT):txt (.mk 1 key val n xs) = 63 :: key.data.toList:=by rw [txt,if_pos rfl]
theorem txt2 (key val:ByteArray) (n:Int) (xs:List AT):txt (.mk 2 key val n xs) = key.data.toList ++ 61 :: val.data.toList:=by rw [txt,if_neg (by omega),if_pos rfl]
theorem txt3 (key val:ByteArray) (n:Int) (xs:List AT):txt (.mk 3 key val n xs) = key.data.toList ++ 62 :: 61 :: Lib.itoa n:=by rw [txt,if_neg (by omega),if_neg (by omega),if_pos rfl]
theorem txt4 (key val:ByteArray) (n:Int) (x:AT):txt (.mk 4 key val n [x]) = 33 :: txt x:=by rw [txt,if_neg (by omega),if_neg (by omega),if_neg (by omega),if_pos rfl]; simp [txtL]
theorem txt56 {k:Int} (hk:k = 5\/k = 6) (key val:ByteArray) (n:Int) (x y:AT):txt (.mk k key val n [x,y]) = 40 :: (txt x ++ (if k = 5 then 38 else 124) :: (txt y ++ [41])):=by
  rw [txt,if_neg (by omega),if_neg (by omega),if_neg (by omega),if_neg (by omega)]; simp [txtL]
theorem lbB_size {s:ByteArray} (h:lbB s = true):0 < s.size/\s.size <= 20:=by
  unfold lbB at h
  simp only [Bool.and_eq_true,decide_eq_true_eq] at h
  exact h.1.1.1
theorem unB_size {s:ByteArray} (h:unB s = true):s.size = 3:=by
  unfold unB at h
  simp only [Bool.or_eq_true,decide_eq_true_eq] at h
  rcases h with (h | h) | h <;> (rw [h]; rfl)
theorem atom_ok {k:Int} {key val:ByteArray} {n:Int} {xs:List AT} (h:errA (.mk k key val n xs) = 0) (hk:k < 4) :
    (k = 1/\lbB key = true/\val = emS/\n = 0)\/(k = 2/\lbB key = true/\lbB val = true/\n = 0)\/(k = 3/\unB key = true/\val = emS/\0 <= n/\n <= 1099511627776):=by
  obtain ⟨h1,_⟩:=errA_node h
  have h1:err1 k key val n xs.length = 0:=h1
  unfold err1 at h1
  split at h1
  · omega
  rename_i a1
  split at h1
  · omega
  split at h1
  · omega
  rename_i a3
  split at h1
  · omega
  rename_i a4
  split at h1
  · omega
  rename_i a5
  have hk3:k = 1\/k = 2\/k = 3:=by omega
  rcases hk3 with rfl | rfl | rfl
  · refine .inl ⟨rfl,?_,?_,?_⟩
    · cases hb:lbB key with
      | true => rfl
      | false => exact absurd (.inr (.inl ⟨.inl rfl,hb⟩)) a4
    · exact Classical.byContradiction fun hv=>a3 (.inr (.inl ⟨by omega,hv⟩))
    · exact Classical.byContradiction fun hv=>a3 (.inr (.inr ⟨by omega,hv⟩))
  · refine .inr (.inl ⟨rfl,?_,?_,?_⟩)
    · cases hb:lbB key with
      | true => rfl
      | false => exact absurd (.inr (.inl ⟨.inr rfl,hb⟩)) a4
    · cases hb:lbB val with
      | true => rfl
      | false => exact absurd (.inr (.inr ⟨rfl,hb⟩)) a4
    · exact Classical.byContradiction fun hv=>a3 (.inr (.inr ⟨by omega,hv⟩))
  · refine .inr (.inr ⟨rfl,?_,?_,by omega,by omega⟩)
    · cases hb:unB key with
      | true => rfl
      | false => exact absurd (.inl ⟨rfl,hb⟩) a4
    · exact Classical.byContradiction fun hv=>a3 (.inr (.inl ⟨by omega,hv⟩))
theorem bs_len (s:ByteArray):s.data.toList.length = s.size:=by simp
theorem txt_len:∀ t:AT,errA t = 0->(txt t).length <= 50 * nod t:=by
  intro t
  induction t using AT.ind with
  | h k key val n xs ih =>
    intro h
    rcases ask_cases h with ⟨rfl,x,rfl,hx⟩ | ⟨hk,x,y,rfl,hx,hy⟩ | ⟨hk1,hk4,rfl⟩
    · have:=ih x (by simp) hx
      rw [txt4]
      simp only [nod,nodL,List.length_cons]; omega
    · have h1:=ih x (by simp) hx
      have h2:=ih y (by simp) hy
      rw [txt56 hk]
      simp only [nod,nodL,List.length_cons,List.length_append,List.length_nil]; omega
    · rcases atom_ok h hk4 with ⟨rfl,a,b,c⟩ | ⟨rfl,a,b,c⟩ | ⟨rfl,a,b,c,d⟩
      · have:=lbB_size a
        rw [txt1]; simp only [nod,nodL,List.length_cons,bs_len]; omega
      · have h1:=lbB_size a
        have h2:=lbB_size b
        rw [txt2]; simp only [nod,nodL,List.length_cons,List.length_append,bs_len]; omega
      · have h1:=unB_size a
        have h2:=Lib.itoa_length_le n (by omega) (by omega)
        rw [txt3]; simp only [nod,nodL,List.length_cons,List.length_append,bs_len]; omega
theorem text_k:∀ (t:AT) (p:Option Addr) (c:Nat) (w:World),IsT w t p c->errA t = 0->nod t <= 1099511627776->GP w->FnP Tryz.prog F_ask_text #[av t p c] w fun v w'=>Ext w w'/\v = .string (ofL (txt t)):=by
  intro t
  induction t using AT.ind with
  | h k key val n xs ih =>
    intro p c w hT h hN g
    refine ok_ask_text k key val n p xs.length c w _ fun b0 _=>?_
    rcases ask_cases h with ⟨rfl,x,rfl,hx⟩ | ⟨hk,x,y,rfl,hx,hy⟩ | ⟨hk1,hk4,rfl⟩
    · obtain ⟨x',p',c',e1,_,hT',np,np5,g0,g1,g2,g3,g4⟩:=hT.at (k:=0) (by omega) (by show (0:Int) < ((1:Nat):Int); omega)
      have:x' = x:=by have h':[x][0]? = some x':=e1; simpa using h'.symm
      subst this
      have hn:nod x' <= 1099511627776:=by simp only [nod,nodL] at hN; omega
      have hl:=txt_len x' hx
      refine ⟨fun h=>by omega,fun _=>⟨fun h=>by omega,fun _=>⟨fun h=>by omega,fun _=>⟨fun _=>⟨np,by omega,by simp,np5,_,g0,_,g1,_,g2,_,g3,_,_,_,g4,fun w8 h8=>(ih x' (by simp) p' c' w8 (hT'.ext h8) hx hn (g.ext h8)).mono fun v w9 ⟨e9,hv⟩=>⟨e9,_,hv,?_,fun w11 h11=>⟨h11,?_⟩⟩⟩,fun h=>absurd rfl h⟩⟩⟩⟩
      · unfold CatOk; rw [ofL_size]; show 1 + _ <= _; omega
      · rw [txt4,<- ofL_of ((⟨#[33]⟩:ByteArray) ++ _),bs_app]; rfl
    · obtain ⟨x',p',c',e1,_,hT',np,np5,g0,g1,g2,g3,g4⟩:=hT.at (k:=0) (by omega) (by show (0:Int) < ((2:Nat):Int); omega)
      have:x' = x:=by have h':[x,y][0]? = some x':=e1; simpa using h'.symm
      subst this
      obtain ⟨y',p2,c2,e2,_,hT2,np2,np52,q0,q1,q2,q3,q4⟩:=hT.at (k:=1) (by omega) (by show (1:Int) < ((2:Nat):Int); omega)
      have:y' = y:=by have h':[x',y][1]? = some y':=e2; simpa using h'.symm
      subst this
      have hn1:nod x' <= 1099511627776:=by simp only [nod,nodL] at hN; omega
      have hn2:nod y' <= 1099511627776:=by simp only [nod,nodL] at hN; omega
      have hl1:=txt_len x' hx
      have hl2:=txt_len y' hy
      have hcat:∀ m:UInt8,(((((⟨#[40]⟩:ByteArray) ++ ofL (txt x')) ++ (⟨#[m]⟩:ByteArray)) ++ ofL (txt y')) ++ (⟨#[41]⟩:ByteArray)) = ofL (40 :: (txt x' ++ m :: (txt y' ++ [41]))):=fun m=>by
        rw [<- ofL_of (((((⟨#[40]⟩:ByteArray) ++ ofL (txt x')) ++ (⟨#[m]⟩:ByteArray)) ++ ofL (txt y')) ++ (⟨#[41]⟩:ByteArray)),bs_app,bs_app,bs_app,bs_app]
        simp [ofL]
      have s1:∀ m:UInt8,(⟨#[m]⟩:ByteArray).size = 1:=fun _=>rfl
      refine ⟨fun h=>by omega,fun _=>⟨fun h=>by omega,fun _=>⟨fun h=>by omega,fun _=>⟨fun h=>by omega,fun _=>⟨fun h5=>?_,fun h5=>?_⟩⟩⟩⟩⟩
      all_goals refine ⟨np,by omega,by simp,np5,_,g0,_,g1,_,g2,_,g3,_,_,_,g4,np,by omega,by simp,np52,_,q0,_,q1,_,q2,_,q3,_,_,_,q4,fun w15 h15=>(ih x' (by simp) p' c' w15 (hT'.ext h15) hx hn1 (g.ext h15)).mono fun v w16 ⟨e16,hv⟩=>⟨e16,_,hv,?_,?_,fun w18 h18=>(ih y' (by simp) p2 c2 w18 (hT2.ext h18) hy hn2 (g.ext h18)).mono fun v w19 ⟨e19,hv⟩=>⟨e19,_,hv,?_,?_,fun w21 h21=>⟨h21,?_⟩⟩⟩⟩
      all_goals first
        | (rw [hcat,txt56 hk]; simp [h5])
        | (unfold CatOk; simp only [ByteArray.size_append,s1,ofL_size]; omega)
    · rcases atom_ok h hk4 with ⟨rfl,a,b,c'⟩ | ⟨rfl,a,b,c'⟩ | ⟨rfl,a,b,c',d⟩
      · have hs:=lbB_size a
        refine ⟨fun _=>⟨?_,fun w1 h1=>⟨h1,?_⟩⟩,fun h=>absurd rfl h⟩
        · unfold CatOk; show 1 + _ <= _; omega
        · rw [txt1,<- ofL_of ((⟨#[63]⟩:ByteArray) ++ _),bs_app]; rfl
      · have hs:=lbB_size a
        have hs2:=lbB_size b
        refine ⟨fun h=>by omega,fun _=>⟨fun _=>⟨?_,?_,fun w1 h1=>⟨h1,?_⟩⟩,fun h=>absurd rfl h⟩⟩
        · unfold CatOk; show _ + 1 <= _; omega
        · unfold CatOk; rw [ByteArray.size_append]; show _ + 1 + _ <= _; omega
        · rw [txt2,<- ofL_of ((key ++ (⟨#[61]⟩:ByteArray)) ++ val),bs_app,bs_app]; simp
      · have hs:=unB_size a
        have hil:=Lib.itoa_length_le n (by omega) (by omega)
        refine ⟨fun h=>by omega,fun _=>⟨fun h=>by omega,fun _=>⟨fun _=>⟨?_,fun w1 h1=>(FormatP_k n (by omega) w1 (g.ext h1)).mono fun v w2 ⟨e2,hv⟩=>⟨e2,_,hv,?_,fun w4 h4=>⟨h4,?_⟩⟩⟩,fun h=>absurd rfl h⟩⟩⟩
        · unfold CatOk; show _ + 2 <= _; omega
        · unfold CatOk; rw [ByteArray.size_append,ofL_size]; show _ + 2 + _ <= _; omega
        · rw [txt3,<- ofL_of ((key ++ (⟨#[62,61]⟩:ByteArray)) ++ _),bs_app,bs_app]; simp [ofL]
end Go.Proofs.YtegephkpdlopaaaGreatDoor
set_option linter.unusedVariables false
set_option linter.unusedSimpArgs false
namespace Go.Proofs
open Go.Shelf Go.RowKit Go.Lib
variable {P:Program} {ρ:Ren}
theorem below_drewNi (w:World) (n:Nat):Below w.heap.size w (w.drewN n):=⟨rfl,rfl,rfl,Nat.le_refl _,fun _ _=>rfl⟩
theorem indexByte_no {l:List UInt8} {x:UInt8} (h:∀ y ∈ l,y ≠ x):Lib.indexByte l x = -1:=by
  have hcon:=Lib.contains_iff_indexByte l x
  have:l.contains x = false:=by
    cases hc:l.contains x with
    | false => rfl
    | true => exact absurd rfl (h x (by simpa using hc))
  rw [this] at hcon
  have h2:=of_decide_eq_false hcon.symm
  have h3:=Lib.indexByte_ge l x
  omega
set_option maxHeartbeats 4000000 in
set_option maxRecDepth 1000000 in
theorem Any.IndexRune_err (L:Lays.n152 P ρ) (s:ByteArray) (w:World) (hascii:∀ (j:Nat) b,s.data.toList[j]? = some b->b.toNat < 128) :
    Calls P (ρ.f 152) #[.string s,.int .i32 65533] w fun e w'=>e = .returned (.int .i64 (-1))/\Below w.heap.size w w':=by
  have HA:Aside (∀ (j:Nat) b,s.data.toList[j]? = some b->b.toNat < 128):=hascii
  clear hascii
  have t3:=L.t3; have a3:=L.a3; have z3:=L.z3; have v3:=L.v3
  have t4:=L.t4; have a4:=L.a4; have z4:=L.z4; have v4:=L.v4
  have t5:=L.t5; have a5:=L.a5; have z5:=L.z5; have v5:=L.v5
  have t9:=L.t9; have a9:=L.a9; have z9:=L.z9; have v9:=L.v9
  have t21:=L.t21; have a21:=L.a21; have z21:=L.z21; have v21:=L.v21
  have e137:∀ args w,(callFunc (ρ.f 137) args).run P w = .ok (.enter (ρ.f 137) args) w:=enters_of L.f137 (by kernel_rfl) rfl
  go_enter L.f152,Body.n152_ntmps ρ
  go_wp2
  go_loopg [5,6] s.size (fun g _ _ wx=>∃ i:Nat,i + g = s.size/\wx = w.iter s i)
  case atStart=>exact ⟨0,by omega,rfl⟩
  case round =>
    obtain ⟨i,hig,rfl⟩:=hrel
    cases gk with
    | zero =>
      obtain rfl:i = s.size:=by omega
      have hnx:=run_next_end (P:=P) w s s.size
      go_wp2
      go_ret
      exact ⟨rfl,(Below.refl w.heap.size w).alloc (Nat.le_refl _) _⟩
    | succ g =>
      have hi:i < s.size:=by omega
      obtain ⟨x,hx⟩:∃ x:UInt8,s[i]'hi = x:=⟨_,rfl⟩
      have hxl:s.data.toList[i]? = some x:=by rw [<- hx]; exact Lib.data_getElem? s i hi
      have hx128:x.toNat < 128:=HA.out i x hxl
      have hnx:=fun ty=>run_next_ascii (P:=P) w s i ty hi (by rw [hx]; exact hx128)
      rw [hx] at hnx
      have hne:((x.toNat:Int) == 65533) = false:=beq_eq_false_iff_ne.2 (by omega)
      clear hxl hx
      go_wp2
      go_roundg g
      case measure=>omega
      case rel=>exact ⟨i + 1,by omega,rfl⟩
set_option maxHeartbeats 8000000 in
set_option maxRecDepth 1000000 in
theorem Any.IndexRune_high (L:Lays.n152 P ρ) (s:ByteArray) (r:Int) (w:World) (hr:128 <= r) (hne:r ≠ 65533) (hascii:∀ (j:Nat) b,s.data.toList[j]? = some b->b.toNat < 128) :
    Calls P (ρ.f 152) #[.string s,.int .i32 r] w fun e w'=>e = .returned (.int .i64 (-1))/\Below w.heap.size w w':=by
  have HA:Aside (∀ (j:Nat) b,s.data.toList[j]? = some b->b.toNat < 128):=hascii
  clear hascii
  have t3:=L.t3; have a3:=L.a3; have z3:=L.z3; have v3:=L.v3
  have t4:=L.t4; have a4:=L.a4; have z4:=L.z4; have v4:=L.v4
  have t5:=L.t5; have a5:=L.a5; have z5:=L.z5; have v5:=L.v5
  have t9:=L.t9; have a9:=L.a9; have z9:=L.z9; have v9:=L.v9
  have t21:=L.t21; have a21:=L.a21; have z21:=L.z21; have v21:=L.v21
  have e137:∀ args w,(callFunc (ρ.f 137) args).run P w = .ok (.enter (ρ.f 137) args) w:=enters_of L.f137 (by kernel_rfl) rfl
  have e119:∀ args w,(callFunc (ρ.f 119) args).run P w = .ok (.enter (ρ.f 119) args) w:=enters_of L.f119 (by kernel_rfl) rfl
  have h1:decide (r < 128) = false:=decide_eq_false (by omega)
  have h2:(r == 65533) = false:=beq_eq_false_iff_ne.2 hne
  go_enter L.f152,Body.n152_ntmps ρ
  cases hv:Lib.validRune r with
  | false =>
    go_wp2_with (go_at_fn (ρ.f 119); refine (Any.utf8_ValidRune { L with } _ _).mono ?_; rintro e w' ⟨rfl,hw⟩; rw [hw,hv])
    go_ret
    exact ⟨rfl,Below.refl _ _⟩
  | true =>
    go_wp2_with (go_at_fn (ρ.f 119); refine (Any.utf8_ValidRune { L with } _ _).mono ?_; rintro e w' ⟨rfl,hw⟩; rw [hw,hv])
    obtain ⟨he2,he4,hlast⟩:=encode_facts r (by rw [validRune_eq]; exact hv) hr
    generalize hgE:Utf8.encode r = E at he2 he4 hlast
    have HL:Aside (∀ h:E.size - 1 < E.size,128 <= (E[E.size - 1]'h).toNat):=hlast
    clear hlast
    have hw1:wrap64 ((E.size:Int) - 1) = (E.size:Int) - 1:=by
      simp only [wrap64]; omega
    go_step3
    go_wp2
    go_loopg [9] 1 (fun g s9 wx=>s9 = .int .i64 ((E.size:Int) - 1)/\wx = w)
    case atStart=>exact ⟨rfl,rfl⟩
    case round =>
      obtain ⟨rfl,rfl⟩:=hrel
      by_cases hlt:E.size - 1 < s.size
      · have hd:decide ((E.size:Int) - 1 < (s.size:Int)) = true:=decide_eq_true (by omega)
        have mixed:=L.mixed
        obtain ⟨x,hx⟩:∃ x:UInt8,s[E.size - 1]'hlt = x:=⟨_,rfl⟩
        obtain ⟨y,hy⟩:∃ y:UInt8,E[E.size - 1]'(by omega) = y:=⟨_,rfl⟩
        have hx128:x.toNat < 128:=by rw [<- hx]; exact HA.out (E.size - 1) _ (Lib.data_getElem? s (E.size - 1) hlt)
        have hy128:128 <= y.toNat:=by rw [<- hy]; exact HL.out _
        have hix:∀ w,(Instr.index (ρ.t 9) (.string s) (.int .i64 ((E.size:Int) - 1))).run P w = .ok (.int .u8 x.toNat) w:=fun w=>by
          rw [run_index_string (h:=t9),dif_pos ⟨by omega,by omega⟩]
          simp only [show ((E.size:Int) - 1).toNat = E.size - 1 by omega,hx]
        have hiy:∀ w,(Instr.index (ρ.t 9) (.string E) (.int .i64 ((E.size:Int) - 1))).run P w = .ok (.int .u8 y.toNat) w:=fun w=>by
          rw [run_index_string (h:=t9),dif_pos ⟨by omega,by omega⟩]
          simp only [show ((E.size:Int) - 1).toNat = E.size - 1 by omega,hy]
        have hne2:((x.toNat:Int) == (y.toNat:Int)) = false:=beq_eq_false_iff_ne.2 (by omega)
        clear hx hy
        go_wp2
        go_step3
        go_wp2
        have hw2:IntKind.i64.wrap (E.size:Int) = (E.size:Int):=wrap_small _ (by omega) (by omega)
        have hsl:∀ w,(Instr.slice (ρ.t 9) (.string s) (some (.int .i64 (E.size:Int))) none none).run P w = .ok (.string (s.extract E.size s.size)) w:=fun w=>by
          rw [run_slice_string_l (ht:=t9) (h0:=by omega) (h1:=by omega)]; simp
        have hib:Lib.indexByte (s.extract E.size s.size).data.toList y = -1:=indexByte_no fun z hz=>by
          have hz':=mem_extract hz
          obtain ⟨j,hj⟩:=List.getElem?_of_mem hz'
          have:=HA.out j z hj
          intro e; subst e; omega
        have hIB:∀ (w:World) n,Calls P (ρ.f 137) #[.string (s.extract E.size s.size),.int .u8 y.toNat] (w.drewN n) fun e w'=>e = .returned (.int .i64 (-1))/\w' = w.drewN n:=fun w n=>(Any.strings_IndexByte { L with } _ _ _).mono fun e w' ⟨he,hw⟩=>⟨by rw [he,show ((y.toNat:Int)).toNat.toUInt8 = y by simp,hib],hw⟩
        go_quiet_o (fail)
        go_wp2
        go_quiet_o (first | (go_at_fn (ρ.f 137); exact (hIB _ _).mono fun e w' ⟨h1,h2⟩=>⟨h1,_,h2⟩))
        go_wp2
        rw [Exit.noGoto_ret]
        simp only [Exit.inBlock,Exit.then]
        rw [Exit.noGoto_ret]
        go_ret
        exact ⟨rfl,below_drewNi _ _⟩
      · have hd:decide ((E.size:Int) - 1 < (s.size:Int)) = false:=decide_eq_false (by omega)
        go_wp2
        rw [Exit.noGoto_ret]
        go_ret
        exact ⟨rfl,Below.refl _ _⟩
theorem Any.IndexRune_any (L:Lays.n152 P ρ) (s:ByteArray) (r:Int) (w:World) (h0:0 <= r) (hascii:∀ (j:Nat) b,s.data.toList[j]? = some b->b.toNat < 128) :
    Calls P (ρ.f 152) #[.string s,.int .i32 r] w fun e w'=>∃ n:Int,e = .returned (.int .i64 n)/\Below w.heap.size w w':=by
  by_cases h1:r < 128
  · exact (Any.strings_IndexRune_ascii L s r w h0 h1).mono fun e w' ⟨he,hw⟩=>⟨_,he,hw ▸ Below.refl _ _⟩
  by_cases h2:r = 65533
  · subst h2
    exact (Any.IndexRune_err L s w hascii).mono fun e w' ⟨he,hw⟩=>⟨_,he,hw⟩
  · exact (Any.IndexRune_high L s r w (by omega) h2 hascii).mono fun e w' ⟨he,hw⟩=>⟨_,he,hw⟩
theorem decode_pos (s:ByteArray) (pos:Nat) (h:pos < s.size):1 <= (Utf8.decode s pos).2:=by
  by_cases ha:(s[pos]'h).toNat < 128
  · rw [decode_ascii s pos h ha]; exact Nat.le_refl 1
  · exact (decode_high s pos h (by omega)).2
set_option maxHeartbeats 8000000 in
set_option maxRecDepth 1000000 in
theorem Any.IndexAny_short_any (L:Lays.n153 P ρ) (s chars:ByteArray) (w:World) (h2:2 <= chars.size) (h8:s.size <= 8) (hascii:∀ (j:Nat) b,chars.data.toList[j]? = some b->b.toNat < 128) :
    Calls P (ρ.f 153) #[.string s,.string chars] w fun e w'=>∃ n:Int,e = .returned (.int .i64 n)/\n < s.size/\Below w.heap.size w w':=by
  have HA:Aside (∀ (j:Nat) b,chars.data.toList[j]? = some b->b.toNat < 128):=hascii
  clear hascii
  have hemp:chars.toList.isEmpty = false:=by
    rw [Lib.toList_data]
    cases h:chars.data.toList with
    | nil => have:=Lib.size_eq chars; rw [h,List.length_nil] at this; omega
    | cons _ _ => rfl
  have hn1:((chars.size:Int) == 1) = false:=beq_eq_false_iff_ne.2 (by omega)
  have h8z:decide ((8:Int) < (s.size:Int)) = false:=decide_eq_false (by omega)
  have t3:=L.t3; have a3:=L.a3; have z3:=L.z3; have v3:=L.v3
  have t4:=L.t4; have a4:=L.a4; have z4:=L.z4; have v4:=L.v4
  have t5:=L.t5; have a5:=L.a5; have z5:=L.z5; have v5:=L.v5
  have t9:=L.t9; have a9:=L.a9; have z9:=L.z9; have v9:=L.v9
  have t21:=L.t21; have a21:=L.a21; have z21:=L.z21; have v21:=L.v21
  have e152:∀ args w,(callFunc (ρ.f 152) args).run P w = .ok (.enter (ρ.f 152) args) w:=enters_of L.f152 (by kernel_rfl) rfl
  have e226:∀ args w,(callFunc (ρ.f 226) args).run P w = .ok (.enter (ρ.f 226) args) w:=enters_of L.f226 (by kernel_rfl) rfl
  go_enter L.f153,Body.n153_ntmps ρ
  go_wp2_with (go_at_fn (ρ.f 226); refine (Any.strings_shouldUseASCIISet { L with } _ _).mono ?_; rintro e w' ⟨rfl,hw⟩; rw [hw,h8z])
  go_loopg [9,10] s.size (fun g _ _ wx=>∃ i:Nat,s.size - i <= g/\wx.heap[w.heap.size]? = some (.stringIter s i)/\Below w.heap.size w wx)
  case atStart=>exact ⟨0,Nat.sub_le _ _,World.iter_heap _ _ _,(Below.refl _ w).alloc (Nat.le_refl _) _⟩
  case round =>
    obtain ⟨i,hig,hk,hB⟩:=hrel
    have HB:Aside (Below w.heap.size w wr):=hB
    have HK:Aside (wr.heap[w.heap.size]? = some (.stringIter s i)):=hk
    clear hB
    cases gk with
    | zero =>
      have hnx:=fun ty=>run_next_end_at (P:=P) wr w.heap.size s i ty hk (by omega)
      clear hk
      go_wp2
      go_ret
      exact ⟨_,rfl,by omega,HB.out⟩
    | succ g =>
      by_cases hi:i < s.size
      · have hnx:=fun ty=>run_next_any_at (P:=P) wr w.heap.size s i ty hk hi
        have hd:=decode_pos s i hi
        generalize hdd:Utf8.decode s i = d at hnx hd
        clear hdd hk
        go_wp2_with (go_at_fn (ρ.f 152); refine (Any.IndexRune_any { L with } _ _ _ (by omega) HA.out).mono ?_; rintro e w' ⟨n,rfl,hw⟩)
        · go_ret
          exact ⟨_,rfl,by omega,(below_iterAt HB.out (Nat.le_refl _) s _).trans (hw.mono (by rw [iterAt_size]; exact HB.out.size))⟩
        · go_roundg g
          case measure=>omega
          case rel =>
            refine ⟨i + d.2,by omega,?_,(below_iterAt HB.out (Nat.le_refl _) s _).trans (hw.mono (by rw [iterAt_size]; exact HB.out.size))⟩
            rw [hw.block _ (by rw [iterAt_size]; exact (Array.getElem?_eq_some_iff.1 HK.out).1)]
            exact iterAt_heap wr w.heap.size s i _ HK.out
      · have hnx:=fun ty=>run_next_end_at (P:=P) wr w.heap.size s i ty hk (by omega)
        clear hk
        go_wp2
        go_ret
        exact ⟨_,rfl,by omega,HB.out⟩
theorem indexAny_lt (chars:List UInt8):∀ l:List UInt8,Lib.indexAny l chars < l.length
  | [] => by show (-1:Int) < _; simp
  | b :: l => by
    have ih:=indexAny_lt chars l
    unfold Lib.indexAny
    simp only [List.length_cons]
    split
    · omega
    · split
      · omega
      · omega
theorem Any.IndexAny_any (L:Lays.n153 P ρ) (h116:(P.info? (ρ.t 116)).map (fun i=>(i.zero,i.size)) = some (some (.agg (Array.replicate 256 (.bool false))),256)) (s chars:ByteArray) (w:World) (h2:2 <= chars.size) (hs:s.size < 4294967281) (hcs:chars.size < 4294967281) (hac:∀ (j:Nat) b,chars.data.toList[j]? = some b->b.toNat < 128) :
    Calls P (ρ.f 153) #[.string s,.string chars] w fun e w'=>(∃ n:Int,e = .returned (.int .i64 n)/\n < s.size/\((∀ (j:Nat) b,s.data.toList[j]? = some b->b.toNat < 128)->n = Lib.indexAny s.data.toList chars.data.toList))/\Below w.heap.size w w':=by
  have hlt:Lib.indexAny s.data.toList chars.data.toList < s.size:=by have:=indexAny_lt chars.data.toList s.data.toList; rw [<- Lib.size_eq] at this; exact this
  by_cases h8:s.size <= 8
  · by_cases has:∀ (j:Nat) b,s.data.toList[j]? = some b->b.toNat < 128
    · exact (Any.strings_IndexAny_laid L h116 s chars w hs hcs has hac).mono fun e w' ⟨he,hb⟩=>⟨⟨_,he,hlt,fun _=>rfl⟩,hb⟩
    · exact (Any.IndexAny_short_any L s chars w h2 h8 hac).mono fun e w' ⟨n,he,hn,hb⟩=>⟨⟨n,he,hn,fun h=>absurd h has⟩,hb⟩
  · refine (Any.strings_IndexAny_long L (zero_of_info h116).1 (zero_of_info h116).2 s chars w h2 (by omega) hs hcs hac).mono fun e w' ⟨he,hw⟩=>⟨⟨_,he,hlt,fun _=>rfl⟩,?_⟩
    rw [hw]
    exact ((Below.refl _ _).alloc (Nat.le_refl _) _).alloc (by simp) _
end Go.Proofs
set_option linter.unusedVariables false
set_option linter.unusedSimpArgs false
namespace Go.Proofs.YtegephkpdlopaaaGreatDoor
open Go.Sx Go.RowKit
def sgs:List UInt8:=[63,61,62,33,40,41,38,124]
def sep (l:List UInt8):Prop:=l = []\/∃ x r,l = x :: r/\x ∈ sgs
theorem sep_cons {x:UInt8} {r:List UInt8} (h:x ∈ sgs):sep (x :: r):=.inr ⟨x,r,rfl,h⟩
def asc (l:List UInt8):Prop:=∀ b ∈ l,b.toNat < 128
theorem asc_at {l:List UInt8}:asc l ↔ ∀ (j:Nat) b,l[j]? = some b->b.toNat < 128 :=
  ⟨fun h j b hb=>h b (List.mem_of_getElem? hb),fun h b hb=>by obtain ⟨j,hj⟩:=List.getElem?_of_mem hb; exact h j b hj⟩
theorem any_at {a b:List UInt8} (ha:∀ x ∈ a,x ∉ sgs) (hb:sep b):(b = []/\Lib.indexAny (a ++ b) sgs = -1)\/(b ≠ []/\Lib.indexAny (a ++ b) sgs = a.length):=by
  have hno:∀ j,j <= a.length->Lib.NoAny (a ++ b) sgs j:=fun j hj i x hi hx=>by
    rw [List.getElem?_append_left (by omega)] at hx
    have:=ha x (List.mem_of_getElem? hx)
    simpa using this
  rcases hb with rfl | ⟨x,r,rfl,hx⟩
  · exact .inl ⟨rfl,Lib.indexAny_none (by rw [List.append_nil] at hno ⊢; exact hno _ (Nat.le_refl _))⟩
  · exact .inr ⟨by simp,Lib.indexAny_hit (x:=x) (hno _ (Nat.le_refl _)) (by simp) (by simpa using hx)⟩
theorem IndexAny_k (s:ByteArray) (hs:s.size <= 2000) (w:World):FnP Tryz.prog F_strings_IndexAny #[.string s,.string (⟨#[63,61,62,33,40,41,38,124]⟩:ByteArray)] w fun v w'=>Ext w w'/\∃ n:Int,v = .int .i64 n/\n < s.size/\(asc s.data.toList->n = Lib.indexAny s.data.toList sgs) :=
  ⟨fun args w=>Tryz.call166 args w,(Any.IndexAny_any Tryz.lays153 (by kernel_rfl) s _ w (by decide) (by omega) (by decide) (by
    intro j b hb
    have:b ∈ sgs:=List.mem_of_getElem? hb
    have key:∀ b ∈ sgs,b.toNat < 128:=by decide
    exact key b this)).mono fun e w' ⟨⟨n,he,hn,hv⟩,hb⟩=>⟨_,he,hb,n,rfl,hn,fun h=>hv (asc_at.1 h)⟩⟩
abbrev RD (B:Nat) (w:World) (rb:Nat) (l:List UInt8) (left:Nat):Prop:=Own B w T_ask_reader 2 (some ⟨rb,0,none⟩) 1 1 [.string (ofL l),.int .i64 left]
abbrev rp (rb:Nat):Value:=.pointer (some ⟨rb,0,none⟩)
theorem RD.lt {B:Nat} {w:World} {rb:Nat} {l:List UInt8} {left:Nat} (o:RD B w rb l left):rb < w.heap.size:=Own.size_lt o
theorem RD.cells {B:Nat} {w:World} {rb:Nat} {l:List UInt8} {left:Nat} (o:RD B w rb l left):cell w (pAdd (some ⟨rb,0,none⟩) 0) 0 = some (.string (ofL l))/\cell w (pAdd (some ⟨rb,0,none⟩) 1) 0 = some (.int .i64 left):=by
  have h0:cell w (some ⟨rb,0,none⟩) 0 = some (.string (ofL l)):=Own.cells o 0 _ rfl
  have h1:cell w (some ⟨rb,0,none⟩) 1 = some (.int .i64 left):=Own.cells o 1 _ rfl
  exact ⟨by rw [cell_pAdd]; exact h0,by rw [cell_pAdd]; exact h1⟩
theorem RD.fr {B:Nat} {w w':World} {rb:Nat} {l:List UInt8} {left:Nat} {S:Nat->Prop} (o:RD B w rb l left) (k:Fr S w w') (h:¬ S rb):RD B w' rb l left:=Own.fr o k fun a ha=>by obtain rfl:=Option.some.inj ha; exact h
theorem RD.put {B:Nat} {w:World} {rb:Nat} {l m:List UInt8} {left:Nat} (o:RD B w rb l left) {t:ByteArray} (ht:t = ofL m) {K:World->Prop} (hk:∀ w',RD B w' rb m left->Fr (· = rb) w w'->K w'):Store w (pAdd (some ⟨rb,0,none⟩) 0) [.string t] [] K :=
  store_own (off:=0) o rfl (by simp) (by simp) (by intro v hv; simp at hv; subst hv; rfl) (by simp) fun w' o' g=>hk w' (by subst ht; exact o') (fr_grew g fun a ha=>by obtain rfl:=Option.some.inj ha; rfl)
theorem RD.left {B:Nat} {w:World} {rb:Nat} {l:List UInt8} {left:Nat} {b0:Nat} (o:RD B w rb l left) (hb:b0 ≠ rb) {x:Int} {m:Nat} (hx:x = m) {K:World->Prop} (hk:∀ w',RD B w' rb l m->Fr (· = rb) w w'->K w'):Store w (pAdd (some ⟨rb,0,none⟩) 1) [.int .i64 x] [b0] K :=
  store_own (off:=1) o rfl (by simp) (by simp) (by intro v hv; simp at hv; subst hv; rfl) (by intro b hb' y hy hh; simp at hb'; subst hb'; obtain rfl:=Option.some.inj hy; exact hb hh.symm) fun w' o' g=>hk w' (by subst hx; exact o') (fr_grew g fun a ha=>by obtain rfl:=Option.some.inj ha; rfl)
theorem take_k {B:Nat} {w:World} {rb:Nat} {l:List UInt8} {left:Nat} (o:RD B w rb l left) (hl:l.length <= 2000) (c:UInt8) (ci:Int) (hc:ci = c.toNat) :
    FnP Tryz.prog F_ask_reader_take #[rp rb,.int .u8 ci] w fun v w'=>Fr (· = rb) w w'/\((∃ r,l = c :: r/\v = .bool true/\RD B w' rb r left)\/((∀ r,l ≠ c :: r)/\v = .bool false/\RD B w' rb l left)):=by
  subst hc
  obtain ⟨g0,_⟩:=o.cells
  cases l with
  | nil =>
    refine ok_ask_reader_take _ _ w _ ⟨by simp,by simp,_,g0,fun _=>by simp,fun _=>by simp,fun _ w1 h1=>⟨fr_ext h1,.inr ⟨fun r=>by simp,rfl,Own.ext o h1⟩⟩,fun h=>absurd rfl h⟩
  | cons x r =>
    have hx:sAt (ofL (x :: r)) 0 = (x.toNat:Int):=rfl
    refine ok_ask_reader_take _ _ w _ ⟨by simp,by simp,_,g0,fun _=>by simp,fun _=>by simp,fun h=>absurd h (by intro h; have:=congrArg (fun s:ByteArray=>s.data.toList) h; simp [ofL] at this),fun _=>⟨_,g0,Int.le_refl _,by rw [ofL_size]; simp,fun hne w2 h2=>⟨fr_ext h2,.inr ⟨fun r' he=>?_,rfl,Own.ext o h2⟩⟩,fun he=>⟨by simp,by simp,_,g0,by omega,by rw [ofL_size]; simp; omega,Int.le_refl _,by simp,by simp,?_⟩⟩⟩
    · rw [hx] at hne
      simp at he
      rw [he.1] at hne
      exact hne rfl
    · rw [hx] at he
      have hxc:x = c:=UInt8.toNat_inj.1 (by omega)
      subst hxc
      refine o.put (m:=r) ?_ fun w3 o3 f3 w4 h4=>⟨f3.tr (fr_ext h4),.inl ⟨r,rfl,rfl,Own.ext o3 h4⟩⟩
      rw [<- ofL_of (ByteArray.extract _ _ _)]
      congr 1
      rw [ofL_size]
      simp [ofL]
theorem word_k {B:Nat} {w:World} {rb:Nat} {l:List UInt8} {left:Nat} (o:RD B w rb l left) (hl:l.length <= 2000) :
    FnP Tryz.prog F_ask_reader_word #[rp rb] w fun v w'=>Fr (· = rb) w w'/\∃ a b,v = .string (ofL a)/\l = a ++ b/\RD B w' rb b left/\(∀ a0 b0,l = a0 ++ b0->asc l->(∀ x ∈ a0,x ∉ sgs)->sep b0->a = a0/\b = b0):=by
  obtain ⟨g0,_⟩:=o.cells
  refine ok_ask_reader_word _ w _ ⟨by simp,by simp,_,g0,fun w1 h1=>(IndexAny_k (ofL l) (by rw [ofL_size]; omega) w1).mono fun v w2 ⟨e2,n,hv,hn,hval⟩=>⟨e2,n,hv,fun hneg=>⟨by simp,by simp,_,g0,by simp,by simp,_,g0,Int.le_refl _,by omega,Int.le_refl _,by simp,by simp,_,g0,by omega,Int.le_refl _,Int.le_refl _,by simp,by simp,?_⟩,fun hge=>⟨by simp,by simp,_,g0,Int.le_refl _,hge,by omega,by simp,by simp,_,g0,hge,by omega,Int.le_refl _,by simp,by simp,?_⟩⟩⟩
  · refine o.put (m:=[]) ?_ fun w3 o3 f3 w4 h4=>⟨f3.tr (fr_ext h4),l,[],?_,by simp,Own.ext o3 h4,fun a0 b0 he hasc ha hb=>?_⟩
    · rw [<- ofL_of (ByteArray.extract _ _ _)]
      congr 1
      simp [ofL]
    · rw [<- ofL_of (ByteArray.extract _ _ _)]
      congr 2
      simp [ofL]
    · have hv':=hval hasc
      rw [ofL_list,he] at hv'
      rcases any_at ha hb with ⟨hb0,_⟩ | ⟨_,hq⟩
      · subst hb0; exact ⟨by rw [he,List.append_nil],rfl⟩
      · omega
  · have hnl:n.toNat <= l.length:=by rw [ofL_size] at hn; omega
    refine o.put (m:=l.drop n.toNat) ?_ fun w3 o3 f3 w4 h4=>⟨f3.tr (fr_ext h4),l.take n.toNat,l.drop n.toNat,?_,by simp,Own.ext o3 h4,fun a0 b0 he hasc ha hb=>?_⟩
    · rw [<- ofL_of (ByteArray.extract _ _ _)]
      congr 1
      rw [ofL_size]
      simp only [ByteArray.data_extract,Array.toList_extract,List.extract_eq_take_drop,ofL]
      exact List.take_of_length_le (by simp)
    · rw [<- ofL_of (ByteArray.extract _ _ _)]
      congr 2
      simp [ofL]
    · have hv':=hval hasc
      rw [ofL_list,he] at hv'
      rcases any_at ha hb with ⟨_,hq⟩ | ⟨_,hq⟩
      · omega
      · have:n.toNat = a0.length:=by omega
        rw [this,he]
        simp
end Go.Proofs.YtegephkpdlopaaaGreatDoor
set_option linter.unusedVariables false
set_option linter.unusedSimpArgs false
namespace Go.Proofs.YtegephkpdlopaaaGreatDoor
open Go.Sx Go.RowKit
theorem parse_rng {l:List UInt8} {n:Int} (h:Lib.parseIntB 64 l = .ok n):InR .i64 n:=by
  have e:(2:Nat) ^ (64 - 1) = 9223372036854775808:=by decide
  unfold Lib.parseIntB at h
  split at h
  · cases h
  · simp only at h
    split at h
    · cases h
    · cases h
    · rename_i u _
      split at h
      · cases h
      · rename_i h1
        split at h
        · cases h
        · rename_i h3
          injection h with h
          rw [e] at h1 h3
          split at h
          · rename_i h2; exact i64 (by simp [h2] at h1 h3; omega)
          · rename_i h2; exact i64 (by simp [h2] at h1 h3; omega)
theorem lb_sgs {s:ByteArray} (h:lbB s = true):∀ x ∈ s.data.toList,x ∉ sgs:=fun x hx hs=>by
  have key:∀ x ∈ sgs,okC (x.toNat:Int) = false:=by decide
  unfold lbB at h
  simp only [Bool.and_eq_true] at h
  have:=List.all_eq_true.1 h.2 (x.toNat:Int) (List.mem_map.2 ⟨x,hx,rfl⟩)
  rw [key x hs] at this
  cases this
theorem un_sgs {s:ByteArray} (h:unB s = true):∀ x ∈ s.data.toList,x ∉ sgs:=by
  unfold unB at h
  simp only [Bool.or_eq_true,decide_eq_true_eq] at h
  rcases h with (h | h) | h <;> (subst h; decide)
theorem itoa_sgs {n:Int} (h:0 <= n):∀ x ∈ Lib.itoa n,x ∉ sgs:=fun x hx hs=>by
  have key:∀ x ∈ sgs,x.toNat < 48\/57 < x.toNat:=by decide
  rcases key x hs with hk | hk
  · exact itoa_no h hk hx
  · exact itoa_no2 h hk hx
theorem head_no {k y r:List UInt8} {c:UInt8} (hne:k ≠ []) (hk:∀ x ∈ k,x ∉ sgs) (hc:c ∈ sgs):k ++ y ≠ c :: r:=by
  cases k with
  | nil => exact absurd rfl hne
  | cons a k =>
    intro h
    simp at h
    exact hk a (by simp) (h.1 ▸ hc)
theorem lb_ne {s:ByteArray} (h:lbB s = true):s.data.toList ≠ []:=fun h0=>by
  have:=(lbB_size h).1
  rw [<- bs_len,h0] at this
  simp at this
theorem un_ne {s:ByteArray} (h:unB s = true):s.data.toList ≠ []:=fun h0=>by
  have:=unB_size h
  rw [<- bs_len,h0] at this
  simp at this
theorem err1_em {k:Int} {key val:ByteArray} {n:Int} {l:Nat} (h:err1 k key val n l = 0) (hk:4 <= k):key = emS/\val = emS/\n = 0:=by
  unfold err1 at h
  split at h
  · omega
  split at h
  · omega
  split at h
  · omega
  rename_i a
  refine ⟨Classical.byContradiction fun h1=>a (.inl ⟨hk,h1⟩),Classical.byContradiction fun h1=>a (.inr (.inl ⟨by omega,h1⟩)),Classical.byContradiction fun h1=>a (.inr (.inr ⟨by omega,h1⟩))⟩
theorem nod1 (k:Int) (key val:ByteArray) (n:Int):nod (.mk k key val n []) = 1:=by simp [nod,nodL]
theorem txt_inv {t:AT} (h:errA t = 0) :
    (∃ key,t = .mk 1 key emS 0 []/\lbB key = true/\txt t = 63 :: key.data.toList) \/
    (∃ key val,t = .mk 2 key val 0 []/\lbB key = true/\lbB val = true/\txt t = key.data.toList ++ 61 :: val.data.toList) \/
    (∃ key n,t = .mk 3 key emS n []/\unB key = true/\0 <= n/\n <= 1099511627776/\txt t = key.data.toList ++ 62 :: 61 :: Lib.itoa n) \/
    (∃ x,t = .mk 4 emS emS 0 [x]/\errA x = 0/\txt t = 33 :: txt x/\nod t = 1 + nod x) \/
    (∃ k x y,(k = 5\/k = 6)/\t = .mk k emS emS 0 [x,y]/\errA x = 0/\errA y = 0/\txt t = 40 :: (txt x ++ (if k = 5 then 38 else 124) :: (txt y ++ [41]))/\nod t = 1 + nod x + nod y):=by
  cases t with
  | mk k key val n xs =>
  have h1:err1 k key val n xs.length = 0:=(errA_node h).1
  rcases ask_cases h with ⟨rfl,x,rfl,hx⟩ | ⟨hk,x,y,rfl,hx,hy⟩ | ⟨hk1,hk4,rfl⟩
  · obtain ⟨rfl,rfl,rfl⟩:=err1_em h1 (by omega)
    exact .inr (.inr (.inr (.inl ⟨x,rfl,hx,txt4 _ _ _ _,by simp [nod,nodL]⟩)))
  · obtain ⟨rfl,rfl,rfl⟩:=err1_em h1 (by omega)
    exact .inr (.inr (.inr (.inr ⟨k,x,y,hk,rfl,hx,hy,txt56 hk _ _ _ _ _,by simp [nod,nodL]; omega⟩)))
  · rcases atom_ok h hk4 with ⟨rfl,a,rfl,rfl⟩ | ⟨rfl,a,b,rfl⟩ | ⟨rfl,a,rfl,c,d⟩
    · exact .inl ⟨key,rfl,a,txt1 _ _ _ _⟩
    · exact .inr (.inl ⟨key,val,rfl,a,b,txt2 _ _ _ _⟩)
    · exact .inr (.inr (.inl ⟨key,n,rfl,a,c,d,txt3 _ _ _ _⟩))
theorem fr_b {rb b0:Nat} {w w' w'':World} (h:Fr (· = rb) w w') (hb:w.heap.size <= b0) (x:ExtB [b0] [] w' w''):Fr (· = rb) w w'' :=
  h.trans (S':=fun b=>b = b0) (fr_extB x (by intro d hd; simp at hd; exact .inl hd)) fun b hb'=>.inr (hb' ▸ hb)
theorem RD.b {B:Nat} {w w':World} {rb b0:Nat} {l:List UInt8} {left:Nat} (o:RD B w rb l left) (hb:b0 ≠ rb) (x:ExtB [b0] [] w w'):RD B w' rb l left :=
  RD.fr (S:=fun b=>b = b0) o (fr_extB x (by intro d hd; simp at hd; exact .inl hd)) fun h=>hb h.symm
theorem kept_of {rb:Nat} {w w':World} {ns:List Nat} (h:Fr (· = rb) w w') (hn:∀ b ∈ ns,b < w.heap.size/\b ≠ rb):Kept ns w w':=h.kept hn
structure Post (B rb:Nat) (l:List UInt8) (left:Nat) (w:World) (t:AT) (p:Option Addr) (c:Nat) (ok:Bool) (w':World) (l':List UInt8) (left':Nat) (used:Nat):Prop where
  fr:Fr (· = rb) w w'
  rd:RD B w' rb l' left'
  len:l'.length <= l.length
  le:left' <= left
  good:ok = true->WfA t/\nod t + left' = left + used/\∀ S:Nat->Prop,(∀ b,S b->b < w.heap.size)->∀ w'',Fr S w' w''->IsT w'' t p c
def AskPost (B rb:Nat) (l:List UInt8) (left:Nat) (w:World) (t:AT) (p:Option Addr) (c:Nat) (ok:Bool) (w':World):Prop :=
  ∃ l' left',Post B rb l left w t p c ok w' l' left' 0/\∀ t0 rest,errA t0 = 0->nod t0 <= left->l = txt t0 ++ rest->sep rest->asc l->ok = true/\t = t0/\l' = rest
def TwoPost (B rb:Nat) (l:List UInt8) (left:Nat) (w:World) (t:AT) (p:Option Addr) (c:Nat) (ok:Bool) (w':World):Prop :=
  ∃ l' left',Post B rb l left w t p c ok w' l' left' 1/\∀ (k:Int) (x y:AT) rest,(k = 5\/k = 6)->errA x = 0->errA y = 0->nod x + nod y <= left->l = txt x ++ (if k = 5 then 38 else 124) :: (txt y ++ 41 :: rest)->asc l->ok = true/\t = .mk k emS emS 0 [x,y]/\l' = rest
def AskC (n:Nat):Prop:=∀ (W0 w:World) (B rb left:Nat) (l:List UInt8),(left <= n/\left <= 60)->GB W0->Ext W0 w->W0.heap.size <= rb->RD B w rb l left->l.length <= 2000 ->
  FnP Tryz.prog F_ask_reader_ask #[rp rb] w fun v w'=>∃ t p c ok,v = .tuple #[av t p c,.bool ok]/\AskPost B rb l left w t p c ok w'
def TwoC (n:Nat):Prop:=∀ (W0 w:World) (B rb left:Nat) (l:List UInt8),(left <= n/\left <= 60)->GB W0->Ext W0 w->W0.heap.size <= rb->RD B w rb l left->l.length <= 2000 ->
  FnP Tryz.prog F_ask_reader_two #[rp rb] w fun v w'=>∃ t p c ok,v = .tuple #[av t p c,.bool ok]/\TwoPost B rb l left w t p c ok w'
theorem asc_tail {a b:List UInt8} (h:asc (a ++ b)):asc b:=fun x hx=>h x (List.mem_append_right _ hx)
theorem asc_cons {a:UInt8} {b:List UInt8} (h:asc (a :: b)):asc b:=fun x hx=>h x (List.mem_cons_of_mem _ hx)
theorem wf_leaf {k:Int} (hk:0 <= k/\k <= 100) {a b:List UInt8} (ha:a.length <= 2000) (hb:b.length <= 2000) {n:Int} (hn:InR .i64 n):WfA (.mk k (ofL a) (ofL b) n []):=by
  unfold WfA
  exact ⟨i64 (by omega),by rw [ofL_size]; omega,by rw [ofL_size]; omega,hn,by simp,by unfold WfL; trivial⟩
theorem isT_leaf {w:World} {k:Int} {key val:ByteArray} {n:Int} {p:Option Addr} {c:Nat}:IsT w (.mk k key val n []) p c:=by
  unfold IsT
  exact ⟨Nat.zero_le _,by unfold IsL; trivial⟩
theorem two_k (n:Nat) (hA:AskC n):TwoC n:=by
  intro W0 w B rb left l hn g h0 hrb o hl
  refine ok_ask_reader_two _ w _ fun b0 hb0 w1 x1=>?_
  have hlt:=o.lt
  have hb0r:b0 ≠ rb:=by omega
  have h1:=extB_ext x1
  have o1:=Own.ext o h1
  refine (hA W0 w1 B rb left l hn g (h0.trans h1) hrb o1 hl).mono fun v w2 ⟨x,px,cx,ok1,hv,l2,left2,P2,C2⟩=>⟨kept_of P2.fr (by intro b hb; simp at hb; subst hb; exact ⟨x1.lt _ (by simp),hb0r⟩),x.k,x.key,x.val,x.n,px,x.xs.length,cx,ok1,hv,fun b11 hb11=>⟨fun hno w12 x12=>?_,fun hok w12 x12=>?_⟩⟩
  · refine ⟨zeroA,none,0,false,rfl,l2,left2,⟨fr_b ((fr_ext h1).tr P2.fr) hb0 x12,RD.b P2.rd hb0r x12,P2.len,P2.le,fun h=>by cases h⟩,fun k a b rest hk ha hb hnod he hasc=>?_⟩
    have:=C2 a _ ha (by omega) he (by split <;> exact sep_cons (by decide)) hasc
    rw [hno] at this
    exact absurd this.1 (by simp)
  subst hok
  obtain ⟨hWx,hnx,hTx⟩:=P2.good rfl
  have f2:Fr (· = rb) w w2:=(fr_ext h1).tr P2.fr
  have h12:=extB_ext x12
  have hb2:rb < w2.heap.size:=P2.rd.lt
  have hb0w:b0 < w1.heap.size:=x1.lt b0 (by simp)
  have s12:w1.heap.size <= w2.heap.size:=P2.fr.size
  have hns:∀ b ∈ [b0,b11],b < w12.heap.size/\b ≠ rb:=by
    intro b hb
    refine ⟨x12.lt b hb,?_⟩
    simp at hb
    rcases hb with rfl | rfl
    · exact hb0r
    · omega
  have tail:∀ (k:Int) (w15:World),(k = 5\/k = 6)->∀ (l4:List UInt8),Fr (· = rb) w2 w15->RD B w15 rb l4 left2->b0 < w15.heap.size->b11 < w15.heap.size->l4.length <= l2.length ->
      (∀ (k':Int) (a b:AT) rest,(k' = 5\/k' = 6)->errA a = 0->errA b = 0->nod a + nod b <= left->l = txt a ++ (if k' = 5 then 38 else 124) :: (txt b ++ 41 :: rest)->asc l->k' = k/\x = a/\l4 = txt b ++ 41 :: rest) ->
      FnP Tryz.prog F_ask_reader_ask #[rp rb] w15 fun v w16=>Kept [b0,b11] w15 w16/\∃ y py cy ok2,v = .tuple #[av y py cy,.bool ok2]/\∀ b25:Nat,w16.heap.size <= b25 ->
        ∃ (J:Bool->Int->ByteArray->ByteArray->Int->Option Addr->Nat->Nat->World->Prop),
          (∀ w34,ExtB [] [b0,b11,b25] w16 w34->Run Tryz.prog (.buildSlice T_sl_Ask 2 [(0,av x px cx),(1,av y py cy)]) w34 fun v35 w35=>Ext w34 w35/\∃ t36:Option Addr,∃ tl37:Nat,∃ tc38:Nat,v35 = (.slice t36 tl37 tc38) /\
            ((ok2 = true->∀ w39,ExtB [] [b0,b11,b25] w35 w39->FnP Tryz.prog F_ask_reader_take #[rp rb,.int .u8 41] w39 fun v40 w40=>Kept [b0,b11,b25] w39 w40/\∃ t41:Bool,v40 = .bool t41/\J t41 k (⟨#[]⟩:ByteArray) (⟨#[]⟩:ByteArray) 0 t36 tl37 tc38 w40)/\(ok2 = false->J false k (⟨#[]⟩:ByteArray) (⟨#[]⟩:ByteArray) 0 t36 tl37 tc38 w35))) /\
          (ok2 = true->∀ w34,ExtB [] [b0,b11,b25] w16 w34->FnP Tryz.prog F_ask_reader_take #[rp rb,.int .u8 41] w34 fun v35 w35=>Kept [b0,b11,b25] w34 w35/\∃ t36:Bool,v35 = .bool t36 /\
            ∀ w37,ExtB [] [b0,b11,b25] w35 w37->Run Tryz.prog (.buildSlice T_sl_Ask 2 [(0,av x px cx),(1,av y py cy)]) w37 fun v38 w38=>Ext w37 w38/\∃ t39:Option Addr,∃ tl40:Nat,∃ tc41:Nat,v38 = (.slice t39 tl40 tc41)/\J t36 k (⟨#[]⟩:ByteArray) (⟨#[]⟩:ByteArray) 0 t39 tl40 tc41 w38) /\
          (ok2 = false->∀ w34,ExtB [] [b0,b11,b25] w16 w34->Run Tryz.prog (.buildSlice T_sl_Ask 2 [(0,av x px cx),(1,av y py cy)]) w34 fun v35 w35=>Ext w34 w35/\∃ t36:Option Addr,∃ tl37:Nat,∃ tc38:Nat,v35 = (.slice t36 tl37 tc38)/\J false k (⟨#[]⟩:ByteArray) (⟨#[]⟩:ByteArray) 0 t36 tl37 tc38 w35) /\
          (∀ ok kk key val nn q ql qc w33,J ok kk key val nn q ql qc w33->∀ w34,ExtB [b0] [] w33 w34->∃ t p c ok',Value.tuple #[.agg #[.int .i64 kk,.string key,.string val,.int .i64 nn,.slice q ql qc],.bool ok] = .tuple #[av t p c,.bool ok']/\TwoPost B rb l left w t p c ok' w34):=by
    intro k w15 hk l4 f15 o15 hb015 hb1115 hl4 hC
    have hl2:=P2.len
    have ext15:Ext W0 w15:=(f2.tr f15).ext h0 (by intro b hb; omega)
    have hle2:=P2.le
    refine (hA W0 w15 B rb left2 l4 (by omega) g ext15 hrb o15 (by omega)).mono fun v w16 ⟨y,py,cy,ok2,hv,l5,left5,P5,C5⟩=>⟨kept_of P5.fr (by intro b hb; simp at hb; rcases hb with rfl | rfl; (· exact ⟨hb015,hb0r⟩); exact ⟨hb1115,by omega⟩),y,py,cy,ok2,hv,fun b25 hb25=>?_⟩
    have f16:Fr (· = rb) w w16:=(f2.tr f15).tr P5.fr
    have hrb16:rb < w16.heap.size:=P5.rd.lt
    have sz2:w2.heap.size <= w15.heap.size:=f15.size
    have sz5:w15.heap.size <= w16.heap.size:=P5.fr.size
    have szw:w.heap.size <= w2.heap.size:=f2.size
    have hnb:∀ (w':World),(∀ b ∈ [b0,b11,b25],b < w'.heap.size)->∀ b ∈ [b0,b11,b25],b < w'.heap.size/\b ≠ rb:=by
      intro w' h b hb
      refine ⟨h b hb,?_⟩
      simp at hb
      rcases hb with rfl | rfl | rfl <;> omega
    have built:∀ (w35 w36:World) (q:Option Addr) (qc:Nat),Fr (· = rb) w16 w35->Own w16.heap.size w35 T_Ask 5 q 2 qc (encA x px cx ++ encA y py cy)->Fr (fun b=>b = rb) w35 w36 ->
        ok2 = true->∀ S:Nat->Prop,(∀ b,S b->b < w.heap.size)->∀ w'',Fr (fun b=>S b\/b = b0) w36 w''->IsT w'' (.mk k emS emS 0 [x,y]) q qc:=by
      intro w35 w36 q qc fa ow fb hok2 S hS w'' fc
      subst hok2
      obtain ⟨hWy,hny,hTy⟩:=P5.good rfl
      have fall:Fr (fun b=>b = rb\/S b\/b = b0) w16 w'':=((fa.tr fb).mono fun b hb=>.inl hb).tr (fc.mono fun b hb=>.inr hb)
      have bnd:∀ b,(b = rb\/S b\/b = b0)->b < w1.heap.size:=by
        intro b hb
        have:=h1.size
        rcases hb with rfl | hb | rfl
        · omega
        · have:=hS b hb; omega
        · exact hb0w
      have tx:IsT w'' x px cx:=hTx _ bnd w'' ((f15.mono fun b hb=>.inl hb).tr ((P5.fr.mono fun b hb=>.inl hb).tr fall))
      have ty:IsT w'' y py cy:=hTy _ (fun b hb=>by have:=bnd b hb; omega) w'' fall
      unfold IsT
      have hle:=ow.le
      refine ⟨by simpa using hle.1,isL_lit (l:=[(x,px,cx),(y,py,cy)]) (fun j u hu=>?_) (by intro z hz; simp at hz; rcases hz with rfl | rfl <;> assumption)⟩
      have hcell:Go.Sx.cell w35 q j = some u:=ow.cells j u (by simpa using hu)
      have hq:∀ a,q = some a->¬ (a.block = rb\/S a.block\/a.block = b0):=fun a ha hb=>by
        have:=(ow.lt a ha).1
        have:=bnd _ hb
        omega
      have:=cell_fr hcell ((fb.mono fun b hb=>.inl hb).tr (fc.mono fun b hb=>.inr hb):Fr (fun b=>b = rb\/S b\/b = b0) w35 w'') hq
      simpa using this
    refine ⟨fun ok kk key val nn q ql qc w'=>(kk = k/\key = (⟨#[]⟩:ByteArray)/\val = (⟨#[]⟩:ByteArray)/\nn = 0)/\ql = 2/\Fr (· = rb) w16 w'/\∃ l6,RD B w' rb l6 left5/\l6.length <= l5.length/\(ok = true->ok2 = true/\∀ S:Nat->Prop,(∀ b,S b->b < w.heap.size)->∀ w'',Fr (fun b=>S b\/b = b0) w' w''->IsT w'' (.mk k emS emS 0 [x,y]) q qc)/\(∀ rest,l5 = 41 :: rest->ok2 = true->ok = true/\l6 = rest),?_,?_,?_,?_⟩
    · intro w34 x34
      have h34:=extB_ext x34
      refine run_lit elem_sl_Ask [av x px cx,av y py cy] rfl rfl (by intro v hv; simp at hv; rcases hv with rfl | rfl <;> rfl) (by omega) (by omega) fun w35 o35 e35=>⟨e35,_,_,_,rfl,fun hok2 w39 x39=>?_,fun hok2=>?_⟩
      · have h39:=extB_ext x39
        have ow:Own w16.heap.size w39 T_Ask 5 (some ⟨w34.heap.size,0,none⟩) 2 2 (encA x px cx ++ encA y py cy):=(by simpa [Value.cells,encA] using (o35 w16.heap.size h34.size)) |> fun o=>Own.ext o h39
        refine (take_k (Own.ext (Own.ext (Own.ext P5.rd h34) e35) h39) (by have:=P5.len; omega) 41 41 rfl).mono fun v w40 ⟨f40,hor⟩=>⟨kept_of f40 (hnb w39 x39.lt),?_⟩
        have fa:Fr (· = rb) w16 w39:=fr_ext ((h34.trans e35).trans h39)
        rcases hor with ⟨r,hr,hv,o40⟩ | ⟨hr,hv,o40⟩
        · exact ⟨true,hv,⟨rfl,rfl,rfl,rfl⟩,rfl,fa.tr f40,r,o40,by rw [hr]; simp,fun _=>⟨hok2,built w39 w40 _ _ fa ow f40 hok2⟩,fun rest he _=>⟨rfl,by rw [hr] at he; simpa using he⟩⟩
        · exact ⟨false,hv,⟨rfl,rfl,rfl,rfl⟩,rfl,fa.tr f40,l5,o40,Nat.le_refl _,fun h=>(by cases h),fun rest he _=>absurd he (hr rest)⟩
      · exact ⟨⟨rfl,rfl,rfl,rfl⟩,rfl,fr_ext (h34.trans e35),l5,Own.ext (Own.ext P5.rd h34) e35,Nat.le_refl _,fun h=>(by cases h),fun rest he hb=>(by rw [hok2] at hb; cases hb)⟩
    · intro hok2 w34 x34
      have h34:=extB_ext x34
      refine (take_k (Own.ext P5.rd h34) (by have:=P5.len; omega) 41 41 rfl).mono fun v w35 ⟨f35,hor⟩=>⟨kept_of f35 (hnb w34 x34.lt),?_⟩
      have fa:Fr (· = rb) w16 w35:=(fr_ext h34).tr f35
      have body:∀ (t36:Bool) (l6:List UInt8),RD B w35 rb l6 left5->l6.length <= l5.length->(∀ rest,l5 = 41 :: rest->ok2 = true->t36 = true/\l6 = rest)->∀ w37,ExtB [] [b0,b11,b25] w35 w37->Run Tryz.prog (.buildSlice T_sl_Ask 2 [(0,av x px cx),(1,av y py cy)]) w37 fun v38 w38=>Ext w37 w38/\∃ t39:Option Addr,∃ tl40:Nat,∃ tc41:Nat,v38 = (.slice t39 tl40 tc41) /\
          ((k = k/\(⟨#[]⟩:ByteArray) = (⟨#[]⟩:ByteArray)/\(⟨#[]⟩:ByteArray) = (⟨#[]⟩:ByteArray)/\(0:Int) = 0)/\tl40 = 2/\Fr (· = rb) w16 w38/\∃ l6,RD B w38 rb l6 left5/\l6.length <= l5.length/\(t36 = true->ok2 = true/\∀ S:Nat->Prop,(∀ b,S b->b < w.heap.size)->∀ w'',Fr (fun b=>S b\/b = b0) w38 w''->IsT w'' (.mk k emS emS 0 [x,y]) t39 tc41)/\(∀ rest,l5 = 41 :: rest->ok2 = true->t36 = true/\l6 = rest)):=by
        intro t36 l6 o6 hl6 hr6 w37 x37
        have h37:=extB_ext x37
        refine run_lit elem_sl_Ask [av x px cx,av y py cy] rfl rfl (by intro v hv; simp at hv; rcases hv with rfl | rfl <;> rfl) (by omega) (by omega) fun w38 o38 e38=>⟨e38,_,_,_,rfl,⟨rfl,rfl,rfl,rfl⟩,rfl,fa.tr (fr_ext (h37.trans e38)),l6,Own.ext (Own.ext o6 h37) e38,hl6,fun _=>⟨hok2,?_⟩,hr6⟩
        have ow:Own w16.heap.size w38 T_Ask 5 (some ⟨w37.heap.size,0,none⟩) 2 2 (encA x px cx ++ encA y py cy):=by simpa [Value.cells,encA] using (o38 w16.heap.size (Nat.le_trans fa.size h37.size))
        exact built w38 w38 _ _ (fa.tr (fr_ext (h37.trans e38))) ow (Fr.refl _ _) hok2
      rcases hor with ⟨r,hr,hv,o40⟩ | ⟨hr,hv,o40⟩
      · exact ⟨true,hv,body true r o40 (by rw [hr]; simp) fun rest he _=>⟨rfl,by rw [hr] at he; simpa using he⟩⟩
      · exact ⟨false,hv,body false l5 o40 (Nat.le_refl _) fun rest he _=>absurd he (hr rest)⟩
    · intro hok2 w34 x34
      have h34:=extB_ext x34
      refine run_lit elem_sl_Ask [av x px cx,av y py cy] rfl rfl (by intro v hv; simp at hv; rcases hv with rfl | rfl <;> rfl) (by omega) (by omega) fun w35 o35 e35=>⟨e35,_,_,_,rfl,⟨rfl,rfl,rfl,rfl⟩,rfl,fr_ext (h34.trans e35),l5,Own.ext (Own.ext P5.rd h34) e35,Nat.le_refl _,fun h=>(by cases h),fun rest he hb=>(by rw [hok2] at hb; cases hb)⟩
    · rintro ok kk key val nn q ql qc w33 ⟨⟨rfl,rfl,rfl,rfl⟩,rfl,f33,l6,o6,hl6,hgood,hrest⟩ w34 x34
      have hlen5:=P5.len
      have hle5:=P5.le
      refine ⟨.mk _ emS emS 0 [x,y],q,qc,ok,rfl,l6,left5,⟨fr_b (f16.tr f33) hb0 x34,RD.b o6 hb0r x34,by omega,by omega,fun hok=>?_⟩,fun k' a b rest hk' ha hb hnod he hasc=>?_⟩
      · obtain ⟨hok2,hT⟩:=hgood hok
        obtain ⟨hWy,hny,_⟩:=P5.good hok2
        refine ⟨opA_wf (by omega) (by simp) (by intro z hz; simp at hz; rcases hz with rfl | rfl <;> assumption),by simp only [nod,nodL]; omega,fun S hS w'' fw=>hT S hS w'' ?_⟩
        exact (fr_extB x34 (by intro d hd; simp at hd; exact .inl (.inr hd))).tr (fw.mono fun b hb=>.inl hb)
      · obtain ⟨rfl,rfl,hl4'⟩:=hC k' a b rest hk' ha hb hnod he hasc
        have hasc4:asc l4:=by
          rw [hl4']
          rw [he] at hasc
          exact asc_cons (asc_tail hasc)
        obtain ⟨h5,rfl,hl5⟩:=C5 b (41 :: rest) hb (by omega) hl4' (sep_cons (by decide)) hasc4
        obtain ⟨hk1,hk2⟩:=hrest rest hl5 h5
        exact ⟨hk1,rfl,hk2⟩
  refine (take_k (Own.ext P2.rd h12) (by have:=P2.len; omega) 124 124 rfl).mono fun v w13 ⟨f13,hor⟩=>⟨kept_of f13 hns,?_⟩
  have szn:w12.heap.size <= w13.heap.size:=f13.size
  have bnd13:∀ b ∈ [b0,b11],b < w13.heap.size:=fun b hb=>by have:=(hns b hb).1; omega
  rcases hor with ⟨r,hr,hv,o13⟩ | ⟨hr,hv,o13⟩
  · refine ⟨true,hv,fun _ w15 x15=>?_,fun h=>(by cases h)⟩
    refine (tail 6 w15 (.inr rfl) r (((fr_ext h12).tr f13).tr (fr_ext (extB_ext x15))) (Own.ext o13 (extB_ext x15)) (x15.lt _ (by simp)) (x15.lt _ (by simp)) (by rw [hr]; simp) fun k' a b rest hk' ha hb hnod he hasc=>?_).mono fun v w16 ⟨kp,y,py,cy,ok2,hv,hJ⟩=>⟨kp,y.k,y.key,y.val,y.n,py,y.xs.length,cy,ok2,hv,fun b25 hb25=>?_⟩
    · obtain ⟨_,hxa,hl2⟩:=C2 a _ ha (by omega) he (by split <;> exact sep_cons (by decide)) hasc
      rw [hr] at hl2
      simp only [List.cons.injEq] at hl2
      refine ⟨?_,hxa,hl2.2⟩
      rcases hk' with rfl | rfl
      · exact absurd hl2.1 (by decide)
      · rfl
    · obtain ⟨J,ja,jb,jc,jd⟩:=hJ b25 hb25
      refine ⟨J,?_,jd⟩
      repeat' (first | exact ja | exact jb | exact jc | apply And.intro)
  · refine ⟨false,hv,fun h=>(by cases h),fun _ w15 x15=>?_⟩
    have h15:=extB_ext x15
    have hns15:∀ b ∈ [b0,b11],b < w15.heap.size/\b ≠ rb:=fun b hb=>⟨x15.lt b hb,(hns b hb).2⟩
    refine (take_k (Own.ext o13 h15) (by have:=P2.len; omega) 38 38 rfl).mono fun v w16 ⟨f16,hor⟩=>⟨kept_of f16 hns15,?_⟩
    rcases hor with ⟨r,hr2,hv,o16⟩ | ⟨hr2,hv,o16⟩
    · refine ⟨true,hv,fun h=>(by cases h),fun _ w18 x18=>?_⟩
      refine (tail 5 w18 (.inl rfl) r ((((fr_ext h12).tr f13).tr (fr_ext h15)).tr (f16.tr (fr_ext (extB_ext x18)))) (Own.ext o16 (extB_ext x18)) (x18.lt _ (by simp)) (x18.lt _ (by simp)) (by rw [hr2]; simp) fun k' a b rest hk' ha hb hnod he hasc=>?_).mono fun v w19 ⟨kp,y,py,cy,ok2,hv,hJ⟩=>⟨kp,y.k,y.key,y.val,y.n,py,y.xs.length,cy,ok2,hv,fun b25 hb25=>?_⟩
      · obtain ⟨_,hxa,hl2⟩:=C2 a _ ha (by omega) he (by split <;> exact sep_cons (by decide)) hasc
        rw [hr2] at hl2
        simp only [List.cons.injEq] at hl2
        refine ⟨?_,hxa,hl2.2⟩
        rcases hk' with rfl | rfl
        · rfl
        · exact absurd hl2.1 (by decide)
      · obtain ⟨J,ja,jb,jc,jd⟩:=hJ b25 hb25
        refine ⟨J,?_,jd⟩
        repeat' (first | exact ja | exact jb | exact jc | apply And.intro)
    · refine ⟨false,hv,fun _ w18 x18=>?_,fun h=>(by cases h)⟩
      refine ⟨zeroA,none,0,false,rfl,l2,left2,⟨fr_b ((f2.tr ((fr_ext h12).tr f13)).tr ((fr_ext h15).tr f16)) hb0 x18,RD.b o16 hb0r x18,P2.len,P2.le,fun h=>(by cases h)⟩,fun k a b rest hk ha hb hnod he hasc=>?_⟩
      obtain ⟨_,_,hl2⟩:=C2 a _ ha (by omega) he (by split <;> exact sep_cons (by decide)) hasc
      rcases hk with rfl | rfl
      · exact absurd hl2 (hr2 _)
      · exact absurd hl2 (hr _)
end Go.Proofs.YtegephkpdlopaaaGreatDoor
set_option linter.unusedVariables false
set_option linter.unusedSimpArgs false
namespace Go.Proofs.YtegephkpdlopaaaGreatDoor
open Go.Sx Go.RowKit
theorem eq_nilD {P:Program} {t:TypeId} {m:Array (String × TypeId)} (ht:P.underlying t = some (.interface m)) {v:Value} (hv:isErr v) {cx:Bool} {w:World} {K:Value->World->Prop} (hk:∀ b:Bool,(b = true ↔ v = .nilIface)->K (.bool b) w):Run P (.eq .eql t cx true v .nilIface) w K:=by
  have hb:∀ x:Value,∀ r:Bool,(Op.equal t x .nilIface).run P w = .ok r w->(eqGuard .eql t (opd cx) (opd true) x .nilIface).run P w = .ok () w->binOp .eql t x .nilIface = (do pure (.bool (<- Op.equal t x .nilIface)))->(MC.sem (.eq .eql t cx true x .nilIface)).run P w = .ok (.bool r) w:=fun x r h1 h2 h3=>by
    show (do eqGuard .eql t (opd cx) (opd true) x .nilIface; binOp .eql t x .nilIface:Sem Value).run P w = _
    rw [Sem.run_bind,h2,Result.andThen_ok,h3,Sem.run_bind,h1,Result.andThen_ok,Sem.run_pure]
  rcases hv with rfl | ⟨a,b,rfl⟩
  · exact ⟨_,w,hb _ true (equalIn_nil 9999 ht w) (by cases cx <;> rfl) rfl,hk true (by simp)⟩
  · exact ⟨_,w,hb _ false (equalIn_err 9999 ht a b w) (by cases cx <;> rfl) rfl,hk false (by simp)⟩
theorem eq_nilC {P:Program} {t:TypeId} (ht:isIfc P t = true) {v:Value} (hv:isErr v) {cx:Bool} {w:World} {K:Value->World->Prop} (hk:∀ b:Bool,(b = true ↔ v = .nilIface)->K (.bool b) w):Run P (.eq .eql t cx true v .nilIface) w K:=by
  unfold isIfc at ht
  split at ht
  · rename_i m h; exact eq_nilD h hv hk
  · cases ht
theorem nod_pos (t:AT):1 <= nod t:=by cases t; simp [nod]
theorem ask_k:∀ n,AskC n:=by
  intro n
  induction n with
  | zero =>
    intro W0 w B rb left l hn g h0 hrb o hl
    obtain rfl:left = 0:=by omega
    obtain ⟨_,g1⟩:=o.cells
    refine ok_ask_reader_ask _ w _ fun b0 hb0=>⟨by simp,by simp,_,g1,fun _ w2 h2=>⟨zeroA,none,0,false,rfl,l,0,⟨fr_ext h2,Own.ext o h2,Nat.le_refl _,Nat.le_refl _,fun h=>(by cases h)⟩,fun t0 rest h1 h3=>absurd (nod_pos t0) (by omega)⟩,fun h=>absurd rfl h⟩
  | succ n ih =>
    intro W0 w B rb left l hn g h0 hrb o hl
    obtain ⟨_,g1⟩:=o.cells
    have hlt:=o.lt
    refine ok_ask_reader_ask _ w _ fun b0 hb0=>⟨by simp,by simp,_,g1,fun hz w2 h2=>?_,fun hne=>⟨by simp,by simp,_,g1,i64 (by omega),by simp,by simp,?_⟩⟩
    · obtain rfl:left = 0:=by omega
      exact ⟨zeroA,none,0,false,rfl,l,0,⟨fr_ext h2,Own.ext o h2,Nat.le_refl _,Nat.le_refl _,fun h=>(by cases h)⟩,fun t0 rest h1 h3=>absurd (nod_pos t0) (by omega)⟩
    have hb0r:b0 ≠ rb:=by omega
    refine o.left hb0r (m:=left - 1) (by omega) fun w3 o3 f3 w4 x4=>?_
    have h4:=extB_ext x4
    have hk:∀ (w' w'':World),b0 < w'.heap.size->Fr (· = rb) w' w''->Kept [b0] w' w'':=fun w' w'' hb f=>kept_of f (by intro b hb'; simp at hb'; subst hb'; exact ⟨hb,hb0r⟩)
    have f4:Fr (· = rb) w w4:=f3.tr (fr_ext h4)
    have no:∀ (w' w'':World) (l':List UInt8),Fr (· = rb) w w'->RD B w' rb l' (left - 1)->l'.length <= l.length->ExtB [b0] [] w' w''->(∀ t0 rest,errA t0 = 0->nod t0 <= left->l = txt t0 ++ rest->sep rest->asc l->False) ->
        AskPost B rb l left w zeroA none 0 false w'':=fun w' w'' l' f o' hl' x hno =>
      ⟨l',left - 1,⟨fr_b f hb0 x,RD.b o' hb0r x,hl',by omega,fun h=>(by cases h)⟩,fun t0 rest h1 h2 h3 h5 h6=>(hno t0 rest h1 h2 h3 h5 h6).elim⟩
    refine (take_k (Own.ext o3 h4) hl 63 63 rfl).mono fun v w5 ⟨f5,hor⟩=>⟨hk _ _ (x4.lt _ (by simp)) f5,?_⟩
    have F5:=f4.tr f5
    have sz5:=f5.size
    have hb4:b0 < w4.heap.size:=x4.lt _ (by simp)
    rcases hor with ⟨r,hr,hv,o5⟩ | ⟨hr,hv,o5⟩
    · -- a key that is there
      refine ⟨true,hv,fun _ w7 x7=>?_,fun h=>(by cases h)⟩
      have h7:=extB_ext x7
      have hrl:r.length <= 2000:=by rw [hr] at hl; simp at hl; omega
      refine (word_k (Own.ext o5 h7) hrl).mono fun v w8 ⟨f8,a,b,hv,hab,o8,hC⟩=>⟨hk _ _ (x7.lt _ (by simp)) f8,_,hv,fun w10 x10=>?_⟩
      have hla:a.length + b.length = r.length:=by rw [hab]; simp
      refine ⟨.mk 1 (ofL a) (ofL []) 0 [],none,0,true,rfl,b,left - 1,⟨fr_b ((F5.tr (fr_ext h7)).tr f8) hb0 x10,RD.b o8 hb0r x10,by rw [hr]; simp; omega,by omega,fun _=>⟨wf_leaf (by omega) (by omega) (by simp) (i64 (by omega)),by rw [nod1]; omega,fun S hS w'' _=>isT_leaf⟩⟩,fun t0 rest he hnod hl0 hsep hasc=>?_⟩
      rw [hr] at hl0 hasc
      rcases txt_inv he with ⟨key,rfl,hkey,ht⟩ | ⟨key,val,rfl,hkey,hval,ht⟩ | ⟨key,m,rfl,hkey,_,_,ht⟩ | ⟨x,rfl,hx,ht,_⟩ | ⟨k,x,y,hk',rfl,hx,hy,ht,_⟩
      · rw [ht] at hl0
        simp only [List.cons_append,List.cons.injEq,true_and] at hl0
        obtain ⟨rfl,rfl⟩:=hC _ _ hl0 (asc_cons hasc) (lb_sgs hkey) hsep
        refine ⟨rfl,?_,rfl⟩
        rw [ofL_of]; rfl
      · rw [ht,List.append_assoc] at hl0
        exact absurd hl0.symm (head_no (lb_ne hkey) (lb_sgs hkey) (by decide))
      · rw [ht,List.append_assoc] at hl0
        exact absurd hl0.symm (head_no (un_ne hkey) (un_sgs hkey) (by decide))
      · rw [ht] at hl0; simp at hl0
      · rw [ht] at hl0; simp at hl0
    refine ⟨false,hv,fun h=>(by cases h),fun _ w7 x7=>?_⟩
    have h7:=extB_ext x7
    refine (take_k (Own.ext o5 h7) hl 33 33 rfl).mono fun v w8 ⟨f8,hor⟩=>⟨hk _ _ (x7.lt _ (by simp)) f8,?_⟩
    have F8:=(F5.tr (fr_ext h7)).tr f8
    have ext8:Ext W0 w8:=F8.ext h0 (by intro b hb; omega)
    have hb7:b0 < w7.heap.size:=x7.lt _ (by simp)
    have sz8:=f8.size
    rcases hor with ⟨r,hr2,hv,o8⟩ | ⟨hr2,hv,o8⟩
    · -- what is not
      refine ⟨true,hv,fun _ w10 x10=>?_,fun h=>(by cases h)⟩
      have h10:=extB_ext x10
      have hrl:r.length + 1 = l.length:=by rw [hr2]; simp
      refine (ih W0 w10 B rb (left - 1) r (by omega) g (ext8.trans h10) hrb (Own.ext o8 h10) (by omega)).mono fun v w11 ⟨y,py,cy,ok2,hv,l2,left2,P2,C2⟩=>⟨hk _ _ (x10.lt _ (by simp)) P2.fr,y.k,y.key,y.val,y.n,py,y.xs.length,cy,ok2,hv,fun b20 hb20 w21 x21=>?_⟩
      have h21:=extB_ext x21
      have hlen2:=P2.len
      have hle2:=P2.le
      refine run_lit elem_sl_Ask [av y py cy] rfl rfl (by intro v hv; simp at hv; subst hv; rfl) (by omega) (by omega) fun w22 o22 e22=>⟨e22,_,_,_,rfl,fun w26 x26=>?_⟩
      have F22:Fr (· = rb) w w22:=((F8.tr (fr_ext h10)).tr P2.fr).tr (fr_ext (h21.trans e22))
      refine ⟨.mk 4 emS emS 0 [y],some ⟨w21.heap.size,0,none⟩,1,ok2,rfl,l2,left2,⟨fr_b F22 hb0 x26,RD.b (Own.ext (Own.ext P2.rd h21) e22) hb0r x26,by omega,by omega,fun hok=>?_⟩,fun t0 rest he hnod hl0 hsep hasc=>?_⟩
      · obtain ⟨hWy,hny,hTy⟩:=P2.good hok
        refine ⟨opA_wf (by omega) (by simp) (by intro z hz; simp at hz; subst hz; exact hWy),by simp only [nod,nodL]; omega,fun S hS w'' fw=>?_⟩
        have fb:Fr (fun b=>S b\/b = b0) w22 w'':=(fr_extB x26 (by intro d hd; simp at hd; exact .inl (.inr hd))).tr (fw.mono fun b hb=>.inl hb)
        have bnd:∀ b,(S b\/b = b0)->b < w10.heap.size:=by
          intro b hb
          have:=x10.lt b0 (by simp)
          have s1:=F8.size
          have s2:=h10.size
          rcases hb with hb | rfl
          · have:=hS b hb; omega
          · exact this
        have ty:IsT w'' y py cy:=hTy _ bnd w'' ((fr_ext (h21.trans e22)).tr fb)
        have sA:=P2.fr.size
        have sB:=h21.size
        unfold IsT
        refine ⟨by simp,isL_lit (l:=[(y,py,cy)]) (fun j u hu=>?_) (by intro z hz; simp at hz; subst hz; exact ty)⟩
        have hcell:Go.Sx.cell w22 (some ⟨w21.heap.size,0,none⟩) j = some u:=(o22 0 (Nat.zero_le _)).cells j u (by simpa [Value.cells,encA,AT.k,AT.key,AT.val,AT.n,AT.xs] using hu)
        have:=cell_fr hcell fb (fun a ha hb=>by obtain rfl:=Option.some.inj ha; have:=bnd _ hb; simp only [] at this; omega)
        simpa using this
      · rw [hr2] at hl0 hasc
        rcases txt_inv he with ⟨key,rfl,hkey,ht⟩ | ⟨key,val,rfl,hkey,hval,ht⟩ | ⟨key,m,rfl,hkey,_,_,ht⟩ | ⟨x,rfl,hx,ht,hnx⟩ | ⟨k,x,y',hk',rfl,hx,hy,ht,_⟩
        · rw [ht] at hl0; simp at hl0
        · rw [ht,List.append_assoc] at hl0
          exact absurd hl0.symm (head_no (lb_ne hkey) (lb_sgs hkey) (by decide))
        · rw [ht,List.append_assoc] at hl0
          exact absurd hl0.symm (head_no (un_ne hkey) (un_sgs hkey) (by decide))
        · rw [ht] at hl0
          simp only [List.cons_append,List.cons.injEq,true_and] at hl0
          obtain ⟨h1,rfl,h3⟩:=C2 x rest hx (by omega) hl0 hsep (asc_cons hasc)
          exact ⟨h1,rfl,h3⟩
        · rw [ht] at hl0; simp at hl0
    refine ⟨false,hv,fun h=>(by cases h),fun _ w10 x10=>?_⟩
    have h10:=extB_ext x10
    refine (take_k (Own.ext o8 h10) hl 40 40 rfl).mono fun v w11 ⟨f11,hor⟩=>⟨hk _ _ (x10.lt _ (by simp)) f11,?_⟩
    have F11:=(F8.tr (fr_ext h10)).tr f11
    have ext11:Ext W0 w11:=F11.ext h0 (by intro b hb; omega)
    have sz11:=f11.size
    have hb10:b0 < w10.heap.size:=x10.lt _ (by simp)
    rcases hor with ⟨r,hr3,hv,o11⟩ | ⟨hr3,hv,o11⟩
    · -- two of them
      refine ⟨true,hv,fun _ w13 x13=>?_,fun h=>(by cases h)⟩
      have h13:=extB_ext x13
      have hrl:r.length + 1 = l.length:=by rw [hr3]; simp
      refine (two_k n ih W0 w13 B rb (left - 1) r (by omega) g (ext11.trans h13) hrb (Own.ext o11 h13) (by omega)).mono fun v w14 ⟨y,py,cy,ok2,hv,l2,left2,P2,C2⟩=>⟨hk _ _ (x13.lt _ (by simp)) P2.fr,y.k,y.key,y.val,y.n,py,y.xs.length,cy,ok2,hv,fun w23 x23=>?_⟩
      have hlen2:=P2.len
      have hle2:=P2.le
      have F14:=(F11.tr (fr_ext h13)).tr P2.fr
      refine ⟨y,py,cy,ok2,rfl,l2,left2,⟨fr_b F14 hb0 x23,RD.b P2.rd hb0r x23,by omega,by omega,fun hok=>?_⟩,fun t0 rest he hnod hl0 hsep hasc=>?_⟩
      · obtain ⟨hWy,hny,hTy⟩:=P2.good hok
        refine ⟨hWy,by omega,fun S hS w'' fw=>?_⟩
        refine hTy (fun b=>S b\/b = b0) (fun b hb=>?_) w'' ((fr_extB x23 (by intro d hd; simp at hd; exact .inl (.inr hd))).tr (fw.mono fun b hb=>.inl hb))
        have:=x13.lt b0 (by simp)
        have s1:=F11.size
        have s2:=h13.size
        rcases hb with hb | rfl
        · have:=hS b hb; omega
        · exact this
      · rw [hr3] at hl0 hasc
        rcases txt_inv he with ⟨key,rfl,hkey,ht⟩ | ⟨key,val,rfl,hkey,hval,ht⟩ | ⟨key,m,rfl,hkey,_,_,ht⟩ | ⟨x,rfl,hx,ht,hnx⟩ | ⟨k,x,y',hk',rfl,hx,hy,ht,hnx⟩
        · rw [ht] at hl0; simp at hl0
        · rw [ht,List.append_assoc] at hl0
          exact absurd hl0.symm (head_no (lb_ne hkey) (lb_sgs hkey) (by decide))
        · rw [ht,List.append_assoc] at hl0
          exact absurd hl0.symm (head_no (un_ne hkey) (un_sgs hkey) (by decide))
        · rw [ht] at hl0; simp at hl0
        · rw [ht] at hl0
          simp only [List.cons_append,List.cons.injEq,true_and,List.append_assoc,List.nil_append] at hl0
          exact C2 k x y' rest hk' hx hy (by omega) hl0 (asc_cons hasc)
    refine ⟨false,hv,fun h=>(by cases h),fun _ w13 x13=>?_⟩
    have h13:=extB_ext x13
    have inv:∀ t0 rest,errA t0 = 0->l = txt t0 ++ rest->(∃ key val,t0 = .mk 2 key val 0 []/\lbB key = true/\lbB val = true/\l = key.data.toList ++ 61 :: (val.data.toList ++ rest))\/(∃ key m,t0 = .mk 3 key emS m []/\unB key = true/\0 <= m/\m <= 1099511627776/\l = key.data.toList ++ 62 :: 61 :: (Lib.itoa m ++ rest)):=fun t0 rest he hl0=>by
      rcases txt_inv he with ⟨key,rfl,hkey,ht⟩ | ⟨key,val,rfl,hkey,hval,ht⟩ | ⟨key,m,rfl,hkey,hm1,hm2,ht⟩ | ⟨x,rfl,hx,ht,hnx⟩ | ⟨k,x,y',hk',rfl,hx,hy,ht,hnx⟩
      · rw [ht] at hl0; exact absurd hl0 (hr _)
      · exact .inl ⟨key,val,rfl,hkey,hval,by rw [hl0,ht]; simp⟩
      · exact .inr ⟨key,m,rfl,hkey,hm1,hm2,by rw [hl0,ht]; simp⟩
      · rw [ht] at hl0; exact absurd hl0 (hr2 _)
      · rw [ht] at hl0; exact absurd hl0 (hr3 _)
    refine (word_k (Own.ext o11 h13) hl).mono fun v w14 ⟨f14,a,b,hv,hab,o14,hC⟩=>⟨hk _ _ (x13.lt _ (by simp)) f14,_,hv,fun w16 x16=>?_⟩
    have hla:a.length + b.length = l.length:=by rw [hab]; simp
    have h16:=extB_ext x16
    have F14:=(F11.tr (fr_ext h13)).tr f14
    refine (take_k (Own.ext o14 h16) (by omega) 62 62 rfl).mono fun v w17 ⟨f17,hor⟩=>⟨hk _ _ (x16.lt _ (by simp)) f17,?_⟩
    have F17:=(F14.tr (fr_ext h16)).tr f17
    rcases hor with ⟨r,hr4,hv,o17⟩ | ⟨hr4,hv,o17⟩
    · refine ⟨true,hv,fun _ w19 x19=>?_,fun h=>(by cases h)⟩
      have h19:=extB_ext x19
      have hlr:r.length + 1 = b.length:=by rw [hr4]; simp
      have inv3:∀ t0 rest,errA t0 = 0->l = txt t0 ++ rest->asc l->∃ m,t0 = .mk 3 (ofL a) emS m []/\0 <= m/\m <= 1099511627776/\r = 61 :: (Lib.itoa m ++ rest):=fun t0 rest he hl0 hasc=>by
        rcases inv t0 rest he hl0 with ⟨key,val,rfl,hkey,hval,h⟩ | ⟨key,m,rfl,hkey,hm1,hm2,h⟩
        · obtain ⟨_,hb⟩:=hC _ _ h hasc (lb_sgs hkey) (sep_cons (by decide))
          rw [hr4] at hb
          simp at hb
        · obtain ⟨ha,hb⟩:=hC _ _ h hasc (un_sgs hkey) (sep_cons (by decide))
          rw [hr4] at hb
          simp only [List.cons.injEq,true_and] at hb
          exact ⟨m,by rw [ha,ofL_of],hm1,hm2,hb⟩
      refine (take_k (Own.ext o17 h19) (by omega) 61 61 rfl).mono fun v w20 ⟨f20,hor⟩=>⟨hk _ _ (x19.lt _ (by simp)) f20,?_⟩
      have F20:=(F17.tr (fr_ext h19)).tr f20
      rcases hor with ⟨r2,hr5,hv,o20⟩ | ⟨hr5,hv,o20⟩
      · refine ⟨true,hv,fun h=>(by cases h),fun _ w22 x22=>?_⟩
        have h22:=extB_ext x22
        have hlr2:r2.length + 1 = r.length:=by rw [hr5]; simp
        refine (word_k (Own.ext o20 h22) (by omega)).mono fun v w23 ⟨f23,a2,b2,hv,hab2,o23,hC2⟩=>⟨hk _ _ (x22.lt _ (by simp)) f23,_,hv,fun w25 x25=>?_⟩
        have h25:=extB_ext x25
        have hla2:a2.length + b2.length = r2.length:=by rw [hab2]; simp
        have F25:=((F20.tr (fr_ext h22)).tr f23).tr (fr_ext h25)
        have ext25:Ext W0 w25:=F25.ext h0 (by intro b hb; omega)
        refine (ParseInt_k (ofL a2) (by rw [ofL_size]; omega) w25 (g.ext ext25)).mono fun v w26 ⟨e26,m,ev,hv,hcase⟩=>⟨e26,m,ev,hv,?_⟩
        have F26:=F25.tr (fr_ext e26)
        have o26:=Own.ext (Own.ext o23 h25) e26
        refine ⟨fun ok kk key val nn q ql qc w'=>(kk = 3/\key = ofL a/\val = (⟨#[]⟩:ByteArray)/\nn = m/\q = none/\ql = 0/\qc = 0)/\w' = w26/\(ok = true ↔ ev = .nilIface),⟨fun w37 h37=>?_,fun w37 x37=>?_⟩,?_⟩
        · exact eq_nilC (by kernel_rfl) (hcase.elim (fun h=>.inl h.1) fun h=>.inr h.1) fun t ht=>⟨Ext.refl _,t,rfl,⟨rfl,rfl,rfl,rfl,rfl,rfl,rfl⟩,rfl,ht⟩
        · exact eq_nilC (by kernel_rfl) (hcase.elim (fun h=>.inl h.1) fun h=>.inr h.1) fun t ht=>⟨Ext.refl _,t,rfl,⟨rfl,rfl,rfl,rfl,rfl,rfl,rfl⟩,rfl,ht⟩
        · rintro ok kk key val nn q ql qc w36 ⟨⟨rfl,rfl,rfl,rfl,rfl,rfl,rfl⟩,rfl,hok⟩ w37 x37
          refine ⟨.mk 3 (ofL a) (ofL []) nn [],none,0,ok,rfl,b2,left - 1,⟨fr_b F26 hb0 x37,RD.b o26 hb0r x37,by omega,by omega,fun h=>⟨wf_leaf (by omega) (by omega) (by simp) ?_,by rw [nod1]; omega,fun S hS w'' _=>isT_leaf⟩⟩,fun t0 rest he hnod hl0 hsep hasc=>?_⟩
          · rcases hcase with ⟨_,hp⟩ | ⟨⟨x,y,he⟩,_⟩
            · exact parse_rng hp
            · rw [hok.1 h] at he; cases he
          · obtain ⟨m',rfl,hm1,hm2,hr6⟩:=inv3 t0 rest he hl0 hasc
            rw [hr5] at hr6
            simp only [List.cons.injEq,true_and] at hr6
            have hasc2:asc r2:=by
              rw [hab,hr4,hr5] at hasc
              exact asc_cons (asc_cons (asc_tail hasc))
            obtain ⟨rfl,rfl⟩:=hC2 _ _ hr6 hasc2 (itoa_sgs hm1) hsep
            have hp:=parse_itoa ⟨hm1,hm2⟩
            rcases hcase with ⟨h1,hp'⟩ | ⟨_,hp'⟩
            · rw [ofL_list,hp] at hp'
              cases hp'
              exact ⟨hok.2 h1,rfl,rfl⟩
            · rw [ofL_list] at hp'
              exact absurd hp (hp' _)
      · refine ⟨false,hv,fun _ w22 x22=>?_,fun h=>(by cases h)⟩
        refine ⟨zeroA,none,0,false,rfl,no w20 w22 r F20 o20 (by omega) x22 fun t0 rest he hnod hl0 hsep hasc=>?_⟩
        obtain ⟨m,_,_,_,h⟩:=inv3 t0 rest he hl0 hasc
        exact hr5 _ h
    · refine ⟨false,hv,fun h=>(by cases h),fun _ w19 x19=>?_⟩
      have h19:=extB_ext x19
      have inv2:∀ t0 rest,errA t0 = 0->l = txt t0 ++ rest->asc l->∃ val,t0 = .mk 2 (ofL a) val 0 []/\lbB val = true/\b = 61 :: (val.data.toList ++ rest):=fun t0 rest he hl0 hasc=>by
        rcases inv t0 rest he hl0 with ⟨key,val,rfl,hkey,hval,h⟩ | ⟨key,m,rfl,hkey,hm1,hm2,h⟩
        · obtain ⟨ha,hb⟩:=hC _ _ h hasc (lb_sgs hkey) (sep_cons (by decide))
          exact ⟨val,by rw [ha,ofL_of],hval,hb⟩
        · obtain ⟨_,hb⟩:=hC _ _ h hasc (un_sgs hkey) (sep_cons (by decide))
          exact absurd hb (hr4 _)
      refine (take_k (Own.ext o17 h19) (by omega) 61 61 rfl).mono fun v w20 ⟨f20,hor⟩=>⟨hk _ _ (x19.lt _ (by simp)) f20,?_⟩
      have F20:=(F17.tr (fr_ext h19)).tr f20
      rcases hor with ⟨r2,hr5,hv,o20⟩ | ⟨hr5,hv,o20⟩
      · refine ⟨true,hv,fun h=>(by cases h),fun _ w22 x22=>?_⟩
        have h22:=extB_ext x22
        have hlr2:r2.length + 1 = b.length:=by rw [hr5]; simp
        refine (word_k (Own.ext o20 h22) (by omega)).mono fun v w23 ⟨f23,a2,b2,hv,hab2,o23,hC2⟩=>⟨hk _ _ (x22.lt _ (by simp)) f23,_,hv,fun w25 x25=>?_⟩
        have hla2:a2.length + b2.length = r2.length:=by rw [hab2]; simp
        refine ⟨.mk 2 (ofL a) (ofL a2) 0 [],none,0,true,rfl,b2,left - 1,⟨fr_b ((F20.tr (fr_ext h22)).tr f23) hb0 x25,RD.b o23 hb0r x25,by omega,by omega,fun _=>⟨wf_leaf (by omega) (by omega) (by omega) (i64 (by omega)),by rw [nod1]; omega,fun S hS w'' _=>isT_leaf⟩⟩,fun t0 rest he hnod hl0 hsep hasc=>?_⟩
        obtain ⟨val,rfl,hval,hb⟩:=inv2 t0 rest he hl0 hasc
        rw [hr5] at hb
        simp only [List.cons.injEq,true_and] at hb
        have hasc2:asc r2:=by
          rw [hab,hr5] at hasc
          exact asc_cons (asc_tail hasc)
        obtain ⟨rfl,rfl⟩:=hC2 _ _ hb hasc2 (lb_sgs hval) hsep
        exact ⟨rfl,by rw [ofL_of],rfl⟩
      · refine ⟨false,hv,fun _ w22 x22=>?_,fun h=>(by cases h)⟩
        refine ⟨zeroA,none,0,false,rfl,no w20 w22 b F20 o20 (by omega) x22 fun t0 rest he hnod hl0 hsep hasc=>?_⟩
        obtain ⟨val,_,_,h⟩:=inv2 t0 rest he hl0 hasc
        exact hr5 _ h
end Go.Proofs.YtegephkpdlopaaaGreatDoor
set_option linter.unusedVariables false
set_option linter.unusedSimpArgs false
namespace Go.Proofs.YtegephkpdlopaaaGreatDoor
open Go.Sx Go.RowKit
theorem sameA_k:∀ (t:AT) (p:Option Addr) (c:Nat) (q:Option Addr) (d:Nat) (w:World),IsT w t p c->IsT w t q d->WfA t ->
    FnP Tryz.prog F_shiftbellkeep_sameAsk #[av t p c,av t q d] w fun v w'=>Ext w w'/\v = .bool true:=by
  intro t
  induction t using AT.ind with
  | h k key val n xs ih =>
    intro p c q d w hp hq hW
    have h63:xs.length <= 9223372036854775807:=hW.len
    refine ok_shiftbellkeep_sameAsk k key val n p xs.length c k key val n q xs.length d w _ fun b0 _ b1 _=>⟨fun _ w2 h2=>?_,fun h=>?_⟩
    · refine FnP.mono (K:=fun v w'=>Ext w2 w'/\v = .bool true) ?_ fun v w3 ⟨e3,hv⟩=>⟨e3,_,hv,fun w5 h5=>⟨h5,rfl⟩⟩
      refine ok_slices_EqualFunc_api_Ask_api_Ask_api_Ask_api_Ask p xs.length c q xs.length d _ w2 _ ⟨fun h=>absurd rfl h,fun _=>?_⟩
      refine ⟨fun k w'=>w' = w2/\0 <= k/\k <= xs.length,fun k _=>(xs.length - k).toNat,⟨rfl,by omega,by omega⟩,?_⟩
      rintro j w2' ⟨rfl,hj0,hj1⟩
      refine ⟨fun hlt=>?_,fun _ w3 h3=>⟨h3,rfl⟩⟩
      have hp2:=hp.ext h2 _ _ _
      have hq2:=hq.ext h2 _ _ _
      obtain ⟨x,p',c',hx,hmem,hIx,a1,a2,g0,g1,g2,g3,g4⟩:=hp2.at hj0 (by exact hlt)
      obtain ⟨y,q',d',hy,_,hIy,b1,b2,f0,f1,f2,f3,f4⟩:=hq2.at hj0 (by exact hlt)
      obtain rfl:x = y:=Option.some.inj (hx.symm.trans hy)
      refine ⟨a1,hj0,hlt,a2,_,g0,_,g1,_,g2,_,g3,_,_,_,g4,fun b10 _=>⟨b1,hj0,hlt,b2,_,f0,_,f1,_,f2,_,f3,_,_,_,f4,fun b18 _ w19 h19=>?_⟩⟩
      exact ⟨F_shiftbellkeep_sameAsk,#[],rfl,(ih x hmem p' c' q' d' w19 (hIx.ext h19 _ _ _) (hIy.ext h19 _ _ _) (hW.sub x hmem)).mono fun v w20 ⟨e20,hv⟩=>⟨e20,_,hv,fun h=>by (cases h),fun _=>⟨i64 (by omega),⟨rfl,by omega,by omega⟩,by simp only []; omega⟩⟩⟩
    · rcases h with ((h | h) | h) | h <;> exact absurd rfl h
mutual
theorem cnt_nod:∀ t:AT,nod t <= 1048576->cntA t = nod t
  | .mk k key val n xs,h => by
    unfold cntA nod
    unfold nod at h
    rw [cntL_nod xs 1 (by omega)]
    omega
theorem cntL_nod:∀ (xs:List AT) (a:Int),0 <= a/\a + nodL xs <= 1048576->cntL xs a = a + nodL xs
  | [],a,_ => by unfold cntL nodL; simp
  | x :: r,a,h => by
    unfold cntL nodL
    unfold nodL at h
    have hx:=cnt_nod x (by omega)
    rw [hx,wrap64 (by omega),cntL_nod r (a + nod x) (by omega)]
    omega
end
theorem errC_ok {t:AT}:errC t = 0 ↔ cntA t <= 60/\errA t = 0:=by
  unfold errC
  constructor
  · intro h
    split at h
    · cases h
    · exact ⟨by omega,h⟩
  · rintro ⟨h1,h2⟩
    rw [if_neg (by omega),h2]
theorem lb_asc {s:ByteArray} (h:lbB s = true):asc s.data.toList:=fun x hx=>by
  unfold lbB at h
  simp only [Bool.and_eq_true] at h
  have:=List.all_eq_true.1 h.2 (x.toNat:Int) (List.mem_map.2 ⟨x,hx,rfl⟩)
  unfold okC at this
  simp only [Bool.or_eq_true,Bool.and_eq_true,decide_eq_true_eq] at this
  omega
theorem un_asc {s:ByteArray} (h:unB s = true):asc s.data.toList:=by
  unfold unB at h
  simp only [Bool.or_eq_true,decide_eq_true_eq] at h
  rcases h with (h | h) | h <;> (subst h; unfold asc; decide)
theorem itoa_asc {n:Int} (h:0 <= n):asc (Lib.itoa n):=fun x hx=>by
  rcases Nat.lt_or_ge 57 x.toNat with h1 | h1
  · exact absurd hx (itoa_no2 h h1)
  · omega
theorem asc_app {a b:List UInt8} (ha:asc a) (hb:asc b):asc (a ++ b):=fun x hx=>(List.mem_append.1 hx).elim (ha x) (hb x)
theorem asc_put {a:UInt8} {b:List UInt8} (ha:a.toNat < 128) (hb:asc b):asc (a :: b):=fun x hx=>(List.mem_cons.1 hx).elim (fun h=>h ▸ ha) (hb x)
theorem txt_asc:∀ t:AT,errA t = 0->asc (txt t):=by
  intro t
  induction t using AT.ind with
  | h k key val n xs ih =>
    intro he
    rcases txt_inv he with ⟨key,h,hkey,ht⟩ | ⟨key,val,h,hkey,hval,ht⟩ | ⟨key,m,h,hkey,hm,_,ht⟩ | ⟨x,h,hx,ht,hnx⟩ | ⟨k,x,y',hk',h,hx,hy,ht,hnx⟩
    · rw [ht]; exact asc_put (by decide) (lb_asc hkey)
    · rw [ht]; exact asc_app (lb_asc hkey) (asc_put (by decide) (lb_asc hval))
    · rw [ht]; exact asc_app (un_asc hkey) (asc_put (by decide) (asc_put (by decide) (itoa_asc hm)))
    · injection h with _ _ _ _ h5
      rw [ht]; exact asc_put (by decide) (ih x (by rw [h5]; simp) hx)
    · injection h with _ _ _ _ h5
      rw [ht]
      refine asc_put (by decide) (asc_app (ih x (by rw [h5]; simp) hx) (asc_put (by split <;> decide) (asc_app (ih y' (by rw [h5]; simp) hy) (asc_put (by decide) (fun z hz=>by cases hz)))))
theorem Text_k (t:AT) (p:Option Addr) (c:Nat) (w:World) (hT:IsT w t p c) (hW:WfA t) (hn:nod t <= 1048576) (g:GP w):FnP Tryz.prog F_ask_Text #[av t p c] w fun v w'=>Ext w w'/\((errC t ≠ 0/\v = .tuple #[.string emS,.int .i64 (errC t)])\/(errC t = 0/\v = .tuple #[.string (ofL (txt t)),.int .i64 0])):=by
  refine ok_ask_Text t.k t.key t.val t.n p t.xs.length c w _ fun b0 _ w1 h1=>(Check_k t p c w1 (hT.ext h1) hW).mono fun v w2 ⟨e2,hv⟩=>⟨e2,_,hv,fun hne w4 h4=>⟨h4,.inl ⟨hne,rfl⟩⟩,fun he w4 h4=>?_⟩
  exact (text_k t p c w4 (hT.ext h4) (errC_ok.1 he).2 (by omega) (g.ext h4)).mono fun v w5 ⟨e5,hv⟩=>⟨e5,_,hv,fun w7 h7=>⟨h7,.inr ⟨he,rfl⟩⟩⟩
theorem zero_isT (w:World):IsT w zeroA none 0:=isT_leaf
theorem zero_wf:WfA zeroA:=by
  unfold WfA
  exact ⟨i64 (by omega),by decide,by decide,i64 (by omega),by simp,by unfold WfL; trivial⟩
theorem Read_kS (s:ByteArray) (w:World) (g:GB w):FnP Tryz.prog F_ask_Read #[.string s] w fun v w'=>Ext w w'/\∃ t p c e,v = .tuple #[av t p c,.int .i64 e]/\WfA t/\(∀ S:Nat->Prop,(∀ b,S b->b < w.heap.size)->∀ w'',Fr S w' w''->IsT w'' t p c) /\
    ((e ≠ 0/\t = zeroA/\p = none/\c = 0)\/(e = 0/\errC t = 0/\nod t <= 60/\s = ofL (txt t)/\s.size <= 2000))/\(∀ t0,errC t0 = 0->nod t0 <= 1048576->s = ofL (txt t0)->s.size <= 2000->e = 0/\t = t0):=by
  refine ok_ask_Read s w _ fun b0 hb0=>⟨fun hbig w1 h1=>?_,fun hsm w1 x1=>?_⟩
  · exact ⟨h1,zeroA,none,0,2,rfl,zero_wf,fun _ _ _ _=>zero_isT _,.inl ⟨by decide,rfl,rfl,rfl⟩,fun t0 _ _ _ h=>by omega⟩
  have h1:=extB_ext x1
  refine new_own (by intro v hv; simp at hv; rcases hv with rfl | rfl <;> rfl) fun w2 o2 e2 w3 x3=>?_
  have h3:=extB_ext x3
  have hw3:Ext w w3:=(h1.trans e2).trans h3
  have o3:RD w1.heap.size w3 w1.heap.size s.data.toList 60:=by
    have:=Own.ext (o2 w1.heap.size (Nat.le_refl _)) h3
    simpa [RD,ofL_of] using this
  have hb1:b0 < w1.heap.size:=x1.lt b0 (by simp)
  have s13:w1.heap.size <= w3.heap.size:=Nat.le_trans e2.size h3.size
  refine (ask_k 60 w w3 w1.heap.size w1.heap.size 60 s.data.toList (by omega) g hw3 h1.size o3 (by rw [bs_len]; omega)).mono fun v w4 ⟨t,p,c,ok,hv,l',left',P,C⟩=>⟨kept_of P.fr (by intro b hb; simp at hb; subst hb; exact ⟨by omega,by omega⟩),t.k,t.key,t.val,t.n,p,t.xs.length,c,ok,hv,fun b13 hb13=>⟨fun hno w14 x14=>?_,fun hok w14 h14=>?_⟩⟩
  · have hw4:Ext w w4:=P.fr.ext hw3 (by intro b hb; have:=h1.size; omega)
    refine ⟨but_ext x14 hw4 (by intro d hd; simp at hd; omega),zeroA,none,0,3,rfl,zero_wf,fun _ _ _ _=>zero_isT _,.inl ⟨by decide,rfl,rfl,rfl⟩,fun t0 he hn hs _=>?_⟩
    obtain ⟨h5,h6⟩:=errC_ok.1 he
    rw [cnt_nod t0 hn] at h5
    have:=C t0 [] h6 (by omega) (by rw [hs,ofL_list,List.append_nil]) (.inl rfl) (by rw [hs,ofL_list]; exact txt_asc t0 h6)
    rw [hno] at this
    exact absurd this.1 (by simp)
  · have hw4:Ext w w4:=P.fr.ext hw3 (by intro b hb; have:=h1.size; omega)
    obtain ⟨hWt,hnt,hTt⟩:=P.good hok
    have hT14:IsT w14 t p c:=hTt (fun _=>False) (fun _ h=>h.elim) w14 (fr_ext h14)
    have hcomp:∀ t0,errC t0 = 0->nod t0 <= 1048576->s = ofL (txt t0)->t = t0:=fun t0 he hn hs=>by
      obtain ⟨h5,h6⟩:=errC_ok.1 he
      rw [cnt_nod t0 hn] at h5
      exact (C t0 [] h6 (by omega) (by rw [hs,ofL_list,List.append_nil]) (.inl rfl) (by rw [hs,ofL_list]; exact txt_asc t0 h6)).2.1
    have hgp:GP w14:=⟨(g.ext (hw4.trans h14)).pow⟩
    refine (Text_k t p c w14 hT14 hWt (by omega) hgp).mono fun v w15 ⟨e15,hor⟩=>?_
    have fin:∀ w18,ExtB [b0] [] w4 w18->Ext w w18/\∀ S:Nat->Prop,(∀ b,S b->b < w.heap.size)->∀ w'',Fr S w18 w''->IsT w'' t p c:=fun w18 x18=>⟨but_ext x18 hw4 (by intro d hd; simp at hd; omega),fun S hS w'' fw=>hTt (fun b=>S b\/b = b0) (fun b hb=>by have s1:=hw3.size; rcases hb with hb | hb; (· have:=hS b hb; omega); omega) w'' ((fr_extB x18 (by intro d hd; simp at hd; exact .inl (.inr hd))).tr (fw.mono fun b hb=>.inl hb))⟩
    rcases hor with ⟨hne,hv⟩ | ⟨he0,hv⟩
    · refine ⟨e15,_,_,hv,fun _ w18 x18=>⟨(fin w18 x18).1,zeroA,none,0,3,rfl,zero_wf,fun _ _ _ _=>zero_isT _,.inl ⟨by decide,rfl,rfl,rfl⟩,fun t0 he hn hs _=>?_⟩,fun h=>absurd h.1 hne⟩
      have:=hcomp t0 he hn hs
      subst this
      exact absurd he hne
    · refine ⟨e15,_,_,hv,fun hbad w18 x18=>⟨(fin w18 x18).1,zeroA,none,0,3,rfl,zero_wf,fun _ _ _ _=>zero_isT _,.inl ⟨by decide,rfl,rfl,rfl⟩,fun t0 he hn hs _=>?_⟩,fun hgd w18 x18=>⟨(fin w18 x18).1,t,p,c,0,rfl,hWt,(fin w18 x18).2,.inr ⟨rfl,he0,by omega,hgd.2.symm,by omega⟩,fun t0 he hn hs _=>⟨rfl,hcomp t0 he hn hs⟩⟩⟩
      have:=hcomp t0 he hn hs
      subst this
      exact hbad.elim (fun h=>absurd rfl h) fun h=>absurd hs.symm h
end Go.Proofs.YtegephkpdlopaaaGreatDoor
set_option linter.unusedVariables false
set_option linter.unusedSimpArgs false
namespace Go.Proofs.YtegephkpdlopaaaGreatDoor
open Go.Sx Go.RowKit
abbrev Bs:=List UInt8
def bI (l:Bs):List Int:=l.map fun b=>(b.toNat:Int)
def bT (l:Bs):ByteArray:=⟨l.toArray⟩
theorem bI_len (l:Bs):(bI l).length = l.length:=by simp [bI]
theorem bI_app (a b:Bs):bI (a ++ b) = bI a ++ bI b:=by simp [bI]
theorem bI_rng (l:Bs):∀ x ∈ bI l,0 <= x/\x <= 255:=fun x hx=>by
  obtain ⟨b,hb,rfl⟩:=List.mem_map.1 hx
  have:=b.toNat_lt
  omega
theorem bT_inj {a b:Bs}:bT a = bT b ↔ a = b:=by
  refine ⟨fun h=>?_,fun h=>by rw [h]⟩
  have:(bT a).data.toList = (bT b).data.toList:=by rw [h]
  simpa [bT] using this
theorem bT_size (l:Bs):(bT l).size = l.length:=rfl
def ub (x:Int):UInt8:=UInt8.ofNat (x % 256).toNat
theorem ub_nat (x:Int):((ub x).toNat:Int) = x % 256:=by
  unfold ub
  rw [UInt8.toNat_ofNat']
  omega
theorem wrap8 (x:Int):IntKind.wrap .u8 x = ((ub x).toNat:Int):=by
  rw [ub_nat]
  simp [IntKind.wrap,IntKind.signed,IntKind.bits]
theorem run_b2s {P:Program} {src dst e:TypeId} (hs:P.underlying src = some (.slice e)) (he:P.underlying e = some (.int .u8)) (hd:P.underlying dst = some .string) {w:World} {p:Option Addr} {l c:Nat} {bs:Bs} (hl:bs.length = l) (h:Ints .u8 w p (bI bs))
    {K:Value->World->Prop} (hk:K (.string (bT bs)) w):Run P (.convert src dst (.slice p l c)) w K:=by
  refine ⟨_,w,?_,hk⟩
  refine (run_convert_bytes_string w src dst e p l c hs he hd).trans ?_
  subst hl
  cases p with
  | none =>
    cases bs with
    | nil => rfl
    | cons b r => exact absurd rfl (cell_p (h 0 (.int .u8 b.toNat) rfl))
  | some a =>
    have hld:=run_loadCells_list (P:=P) w a ((bI bs).map (.int .u8)) fun j v hv=>by
      have:=h j v hv
      simpa [cell] using this
    rw [List.length_map,bI_len] at hld
    rw [run_bytesToString w a bs.length c (bI bs) hld,foldl_push_bytes]
    congr 2
    simp only [bI,bT,List.map_map]
    congr 1
    show #[] ++ _ = _
    rw [Array.empty_append]
    congr 1
    conv=>rhs; rw [<- List.map_id bs]
    refine List.map_congr_left fun b _=>?_
    simp
theorem run_s2bJ {P:Program} {src dst e:TypeId} {s:ByteArray} (hs:P.underlying src = some .string) (hd:P.underlying dst = some (.slice e)) (he:P.underlying e = some (.int .u8)) {w:World} {K:Value->World->Prop}
    (hk:∀ p c w',Ext w w'->Ints .u8 w' p (bI s.data.toList)->K (.slice p s.size c) w'):Run P (.convert src dst (.string s)) w K:=by
  refine ⟨_,_,run_bytes_of_string w src dst e s hs hd he,hk _ _ _ ?_ fun i v hv=>?_⟩
  · exact Below.alloc (B:=w.heap.size) (a:=w) (w:=w.drew) ⟨rfl,rfl,rfl,Nat.le_refl _,fun _ _=>rfl⟩ (Nat.le_refl _) _
  · obtain ⟨hi,hv⟩:=List.getElem?_eq_some_iff.1 hv
    have hi':i < s.data.size:=by simpa [bI] using hi
    have hc:=World.cell?_alloc_mark w.drew (bytesRow s (grownCap w s.size 0 e)) e ((bytesRow s (grownCap w s.size 0 e)).size,(bytesRow s (grownCap w s.size 0 e)).size + 1) i
    rw [bytesRow_at s _ i hi'] at hc
    simp only [cell,Option.bind_some]
    have ha:(Addr.add ⟨w.heap.size,0,none⟩ i) = ⟨w.drew.heap.size,i,none⟩:=by simp [Addr.add]; intro h; exact h.symm
    rw [ha,hc,<- hv]
    simp [bI]
theorem run_app0 {P:Program} {t ty e:TypeId} {s b:Nat} {z:Value} (he:slEl P t = some (e,s,b,z)) {w:World} {p q:Option Addr} {n c d:Nat} (hnc:n <= c) {K:Value->World->Prop} (hk:K (.slice p n c) w):Run P (.append #[t,t] ty [.slice p n c,.slice q 0 d]) w K:=by
  obtain ⟨i,g1,g2,g3,rfl,rfl,g6⟩:=slEl_some he
  refine ⟨_,w,?_,hk⟩
  show (Builtin.append_ #[t,t] ty #[.slice p n c,.slice q 0 d]).run P w = _
  cases p <;> cases q <;> simp [Builtin.append_,run_underlying g1,sizeOf,typeInfo,g2,Builtin.lenOf,Builtin.firstCells,loadCells,loadCellsFrom,hnc,storeCells]
theorem run_appB {B:Nat} {w:World} {p q:Option Addr} {n c m d:Nat} {a b:Bs} {K:Value->World->Prop} (ho:Own B w T_uint8 1 p n c ((bI a).map (.int .u8))) (hB:B <= w.heap.size) (hm:b.length = m) (hn:Ints .u8 w q (bI b)) (hb:n + m <= 140737488355328)
    (hk:∀ p' c' w',Own B w' T_uint8 1 p' (n + m) c' ((bI (a ++ b)).map (.int .u8))->Grew w w' p p'->K (.slice p' (n + m) c') w'):Run Tryz.prog (.append #[T_sl_uint8,T_sl_uint8] T_sl_uint8 [.slice p n c,.slice q m d]) w K:=by
  cases b with
  | nil =>
    simp at hm; subst hm
    refine run_app0 elem_sl_uint8 ho.le.1 (hk p c w (by simpa using ho) (grew_of_ext (Ext.refl w)))
  | cons x r =>
    refine run_app elem_sl_uint8 (by omega) ho hB (fun hq=>cell_p (hn 0 (.int .u8 x.toNat) rfl) hq) (news:=(bI (x :: r)).map (.int .u8)) (by simp [bI_len,<- hm]) hn (by intro u hu; obtain ⟨y,_,rfl⟩:=List.mem_map.1 hu; rfl) (by omega) (by omega) fun p' c' w' o g _=>hk p' c' w' ?_ g
    rw [bI_app,List.map_append]; exact o
theorem run_litB {w:World} (bs:Bs) {n:Nat} {parts:List (Nat × Value)} {K:Value->World->Prop} (hp:parts = partsOf 0 ((bI bs).map (.int .u8))) (hn:n = bs.length) (h0:0 < n) (h24:n <= 16777216)
    (hk:∀ w',(∀ B,B <= w.heap.size->Own B w' T_uint8 1 (some ⟨w.heap.size,0,none⟩) n n ((bI bs).map (.int .u8)))->Ext w w'->K (.slice (some ⟨w.heap.size,0,none⟩) n n) w'):Run Tryz.prog (.buildSlice T_sl_uint8 n parts) w K:=by
  refine run_lit elem_sl_uint8 ((bI bs).map (.int .u8)) hp (by simp [bI_len,hn]) (fun v hv=>by obtain ⟨y,_,rfl⟩:=List.mem_map.1 hv; rfl) (by omega) (by omega) fun w' o e=>hk w' (fun B hB=>?_) e
  have:=o B hB
  have hcs:(List.map (Value.int IntKind.u8) (bI bs)).flatMap (fun v=>v.cells.toList) = (bI bs).map (.int .u8):=by
    generalize bI bs = l
    induction l with
    | nil => rfl
    | cons a r ih => simp only [List.map_cons,List.flatMap_cons,ih]; rfl
  rwa [hcs] at this
def mixJ (u c:Int):Int:=iBit .xor .u64 (IntKind.wrap .u64 ((IntKind.wrap .u64 (u + c)) * 11400714785074694791)) (iBit .shr .u64 (IntKind.wrap .u64 ((IntKind.wrap .u64 (u + c)) * 11400714785074694791)) 31)
def sumJ (key:Int) (l:Bs):Int:=(bI l).foldl mixJ key
theorem sumJ_take (key:Int) (l:Bs) {k:Nat} (h:k < l.length):sumJ key (l.take (k + 1)) = mixJ (sumJ key (l.take k)) ((bI l).getD k 0):=by
  rw [List.take_succ_eq_append_getElem h]
  unfold sumJ
  rw [bI_app,List.foldl_append]
  simp [bI,List.getD_eq_getElem?_getD,h]
theorem Sum_k (key:Int) (s:Bs) (hs:s.length <= 9223372036854775806) (w:World):FnP Tryz.prog F_ticket_Sum #[.int .u64 key,.string (bT s)] w fun v w'=>Ext w w'/\v = .int .u64 (sumJ key s):=by
  refine ok_ticket_Sum key (bT s) w _ fun w0 h0=>run_s2bJ (e:=T_uint8) (by kernel_rfl) (by kernel_rfl) (by kernel_rfl) fun p c w1 e1 hb=>⟨e1,p,s.length,c,rfl,?_⟩
  have hlen:=bI_len s
  have hb:Ints .u8 w1 p (bI s):=hb
  refine ⟨fun u k w'=>w' = w1/\0 <= k/\k <= s.length/\u = sumJ key (s.take k.toNat),fun _ k _=>(s.length - k).toNat,⟨rfl,by omega,by omega,by simp [sumJ,bI]⟩,?_⟩
  rintro u k w1 ⟨rfl,hk0,hk1,rfl⟩
  refine ⟨fun hlt=>?_,fun hge w9 h9=>⟨(h0.trans e1).trans h9,?_⟩⟩
  · have g:=Ints.idx hb hk0 (by omega)
    have hr:=bI_rng s _ (getD_mem (bI s) 0 (i:=k.toNat) (by omega))
    refine ⟨fun hq=>cell_p g (pIdx_none.2 hq),hk0,hlt,_,g,⟨by show (0:Int) <= _; omega,by show _ <= (18446744073709551615:Int); omega⟩,i64 (by omega),⟨rfl,by omega,by omega,?_⟩,by simp only []; omega⟩
    rw [show (k + 1).toNat = k.toNat + 1 by omega,sumJ_take _ _ (by omega)]
    rfl
  · rw [List.take_of_length_le (by omega)]
end Go.Proofs.YtegephkpdlopaaaGreatDoor
set_option linter.unusedVariables false
set_option linter.unusedSimpArgs false
namespace Go.Proofs.YtegephkpdlopaaaGreatDoor
open Go.Sx Go.RowKit
def tl8 (S:Int) (k:Nat):Bs:=(List.range k).map fun (j:Nat)=>ub (iBit .shr .u64 S (56 - 8 * (j:Int)))
theorem tl8_succ (S:Int) (k:Nat):tl8 S (k + 1) = tl8 S k ++ [ub (iBit .shr .u64 S (56 - 8 * (k:Int)))]:=by
  unfold tl8; rw [List.range_succ,List.map_append]; rfl
theorem tl8_len (S:Int) (k:Nat):(tl8 S k).length = k:=by simp [tl8]
def fr0 (bs:Bs):Bs:=[ub (iBit .shr .i64 (bs.length:Int) 8),ub (bs.length:Int)] ++ bs
def fr (bs:Bs):Bs:=fr0 bs ++ tl8 (sumJ 0 bs) 8
theorem fr_len (bs:Bs):(fr bs).length = bs.length + 10:=by simp [fr,fr0,tl8_len]
section
variable {W0 w:World} {d p:Option Addr} {n c:Nat} {sf:Int} {bs:Bs} {rs:List HRow}
theorem Clone_kB {q:Option Addr} {m mc:Nat} {b:Bs} (w:World) (hm:b.length = m) (hb:m <= 1000000) (hi:Ints .u8 w q (bI b)):FnP Tryz.prog F_bytes_Clone #[.slice q m mc] w fun v w'=>Ext w w'/\∃ p c,v = .slice p m c/\Own w.heap.size w' T_uint8 1 p m c ((bI b).map (.int .u8)):=by
  refine ok_bytes_Clone q m mc w _ ⟨fun hq w0 h0=>?_,fun hq w0 h0=>?_⟩
  · subst hq
    cases b with
    | nil => simp at hm; subst hm; exact ⟨h0,none,0,rfl,Own.nil⟩
    | cons x r => exact absurd rfl (cell_p (hi 0 (.int .u8 x.toNat) rfl))
  · refine run_lit0 elem_sl_uint8 fun w1 o1 e1=>⟨e1,_,_,_,rfl,fun w5 h5=>?_⟩
    have o5:Own w0.heap.size w5 T_uint8 1 (some ⟨w0.heap.size,0,none⟩) 0 0 ((bI []).map (.int .u8)):=(o1 w0.heap.size (Nat.le_refl _)).ext h5
    refine run_appB o5 (e1.trans h5).size hm (((hi.ext h0).ext e1).ext h5) (by omega) fun p' c' w6 o6 g6=>⟨p',_,c',rfl,fun w10 h10=>?_⟩
    have h06:Ext w0 w6:=g6.ext (e1.trans h5) o5
    refine ⟨(h0.trans h06).trans h10,p',c',by rw [Nat.zero_add],?_⟩
    rw [Nat.zero_add] at o6
    exact (o6.weak h0.size).ext h10
end
theorem Equal_k {p q:Option Addr} {l c m mc:Nat} {a b:Bs} (w:World) (hl:a.length = l) (hm:b.length = m) (ha:Ints .u8 w p (bI a)) (hb:Ints .u8 w q (bI b)):FnP Tryz.prog F_bytes_Equal #[.slice p l c,.slice q m mc] w fun v w'=>Ext w w'/\v = .bool (decide (a = b)):=by
  refine ok_bytes_Equal p l c q m mc w _ fun w0 h0=>run_b2s (e:=T_uint8) (by kernel_rfl) (by kernel_rfl) (by kernel_rfl) hl (ha.ext h0) ⟨Ext.refl _,_,rfl,fun w3 h3=>run_b2s (e:=T_uint8) (by kernel_rfl) (by kernel_rfl) (by kernel_rfl) hm (hb.ext h3) ⟨Ext.refl _,_,rfl,fun w6 h6=>⟨h6,?_⟩⟩⟩
  congr 1
  exact decide_eq_decide.2 bT_inj
end Go.Proofs.YtegephkpdlopaaaGreatDoor
set_option linter.unusedVariables false
set_option linter.unusedSimpArgs false
namespace Go.Proofs.YtegephkpdlopaaaGreatDoor
open Go.Sx Go.RowKit
theorem parse_neg {n:Int} (h:-1099511627776 <= n/\n < 0):Lib.parseIntB 64 (Lib.itoa n) = .ok n:=by
  unfold Lib.itoa
  rw [if_pos (by omega),Lib.parseIntB_minus]
  unfold Lib.parseUintB
  rw [if_neg (dec_ne _),show (2:Nat) ^ 64 - 1 = 18446744073709551615 by decide,parse_dec _ (by omega)]
  show (if (2:Nat) ^ (64 - 1) < n.natAbs then _ else _) = _
  rw [if_neg (by have:(2:Nat) ^ (64 - 1) = 9223372036854775808:=by decide
                 omega)]
  congr 1; omega
theorem parse_any {n:Int} (h:-1099511627776 <= n/\n <= 1099511627776):Lib.parseIntB 64 (Lib.itoa n) = .ok n:=by
  rcases Int.lt_or_le n 0 with h0 | h0
  · exact parse_neg ⟨h.1,h0⟩
  · exact parse_itoa ⟨h0,h.2⟩
theorem itoa_any {n:Int}:∀ c ∈ Lib.itoa n,c = 45\/(48 <= c.toNat/\c.toNat <= 57):=fun c hc=>by
  unfold Lib.itoa at hc
  split at hc
  · rcases List.mem_cons.1 hc with h | h
    · exact .inl h
    · exact .inr (dec_digits _ c h)
  · exact .inr (dec_digits _ c hc)
theorem atoi_parse (l:List UInt8):Lib.atoiAll l = Lib.parseIntB 64 l:=by
  unfold Lib.atoiAll Lib.parseIntB
  cases l with
  | nil => rfl
  | cons c r =>
    simp only [Lib.parseUintB_64]
    rfl
theorem Atoi_k (s:ByteArray) (hs:s.size <= 281474976710656) (w:World) (g:GB w):FnP Tryz.prog F_strconv_Atoi #[.string s] w fun v w'=>Ext w w'/\∃ (n:Int) (ev:Value),v = .tuple #[.int .i64 n,ev] /\
    ((ev = .nilIface/\Lib.parseIntB 64 s.data.toList = .ok n)\/((∃ a b,ev = .iface a b)/\∀ m,Lib.parseIntB 64 s.data.toList ≠ .ok m)):=by
  have en:Enters Tryz.prog F_strconv_Atoi:=fun args w=>Tryz.call107 args w
  rw [<- atoi_parse]
  cases hp:Lib.atoiAll s.data.toList with
  | ok v =>
    refine ⟨en,(Tryz.strconv_Atoi_ok s (by omega) v hp w).mono fun e w' ⟨he,hw⟩=>⟨_,he,?_,v,.nilIface,rfl,.inl ⟨rfl,rfl⟩⟩⟩
    rcases hw with rfl | ⟨t,rfl⟩
    · exact Ext.refl _
    · exact Lib.bytesWorld_below w 5 t
  | range =>
    obtain ⟨ev,h1,h2⟩:=g.eRan
    exact ⟨en,(Tryz.strconv_Atoi_range s hs hp ev w (cell0 h1) h2).mono fun e w' ⟨N,he,_,_,hb⟩=>⟨_,he,hb,_,_,rfl,.inr ⟨⟨_,_,rfl⟩,fun m h=>by cases h⟩⟩⟩
  | _ =>
    obtain ⟨ev,h1,h2⟩:=g.eSyn
    exact ⟨en,(Tryz.strconv_Atoi_syntax s hs hp ev w (cell0 h1) h2).mono fun e w' ⟨N,he,_,_,hb⟩=>⟨_,he,hb,_,_,rfl,.inr ⟨⟨_,_,rfl⟩,fun m h=>by cases h⟩⟩⟩
theorem Itoa_k (n:Int) (h:-9223372036854775808 <= n/\n <= 9223372036854775807) (w:World) (g:GB w):FnP Tryz.prog F_strconv_Itoa #[.int .i64 n] w fun v w'=>Ext w w'/\v = .string (ofL (Lib.itoa n)) :=
  ⟨fun args w=>Tryz.call104 args w,(Tryz.strconv_Itoa n h.1 h.2 w g.pow).mono fun e w' ⟨he,k,os,hw⟩=>⟨_,he,by rw [hw]; exact below_grow,rfl⟩⟩
structure Jb where
  user:ByteArray
  prio:Int
  nd:Nd
  ask:AT
  aft:List Int
abbrev jcs (j:Jb) (pa:Option Addr) (ca:Nat) (pf:Option Addr) (cf:Nat):List Value:=[.string j.user,.int .i64 j.prio,.int .i64 j.nd.c,.int .i64 j.nd.m,.int .i64 j.nd.g,.int .i64 j.ask.k,.string j.ask.key,.string j.ask.val,.int .i64 j.ask.n,.slice pa j.ask.xs.length ca,.slice pf j.aft.length cf]
abbrev jv (j:Jb) (pa:Option Addr) (ca:Nat) (pf:Option Addr) (cf:Nat):Value:=.agg #[.string j.user,.int .i64 j.prio,.int .i64 j.nd.c,.int .i64 j.nd.m,.int .i64 j.nd.g,.int .i64 j.ask.k,.string j.ask.key,.string j.ask.val,.int .i64 j.ask.n,.slice pa j.ask.xs.length ca,.slice pf j.aft.length cf]
def IsJ (w:World) (j:Jb) (pa:Option Addr) (ca:Nat) (pf:Option Addr):Prop:=IsT w j.ask pa ca/\Ints .i64 w pf j.aft
theorem IsJ.ext {w w':World} {j:Jb} {pa:Option Addr} {ca:Nat} {pf:Option Addr} (h:IsJ w j pa ca pf) (e:Ext w w'):IsJ w' j pa ca pf:=⟨h.1.ext e,h.2.ext e⟩
structure WfJ (j:Jb):Prop where
  user:j.user.size <= 9223372036854775807
  prio:InR .i64 j.prio
  nd:rng j.nd
  ask:WfA j.ask
  len:j.aft.length <= 9223372036854775807
  aft:∀ x ∈ j.aft,InR .i64 x
def upA:Int->List Int->Prop
  | _,[] => True
  | a,x :: r => 1 <= x/\x <= 60/\a < x/\upA x r
theorem upA_take {l:List Int}:∀ {a:Int} (k:Nat),upA a l->upA a (l.take k):=by
  induction l with
  | nil => intro a k _; simp [upA]
  | cons x r ih =>
    intro a k h
    cases k with
    | zero => simp [upA]
    | succ k => exact ⟨h.1,h.2.1,h.2.2.1,ih k h.2.2.2⟩
def lastA (a:Int) (l:List Int):Int:=l.getLast?.getD a
theorem upA_snoc {x:Int}:∀ {l:List Int} {a:Int},upA a (l ++ [x]) ↔ upA a l/\1 <= x/\x <= 60/\lastA a l < x
  | [],a => by simp [upA,lastA]
  | y :: r,a => by
    have ih:=upA_snoc (l:=r) (a:=y) (x:=x)
    simp only [List.cons_append,upA,ih]
    have:lastA a (y :: r) = lastA y r:=by
      unfold lastA
      cases r with
      | nil => rfl
      | cons z r => simp [List.getLast?_cons]
    rw [this]
    constructor
    · rintro ⟨h1,h2,h3,h4,h5⟩; exact ⟨⟨h1,h2,h3,h4⟩,h5⟩
    · rintro ⟨⟨h1,h2,h3,h4⟩,h5⟩; exact ⟨h1,h2,h3,h4,h5⟩
theorem upA_mem {l:List Int}:∀ {a:Int},upA a l->∀ x ∈ l,1 <= x/\x <= 60:=by
  induction l with
  | nil => intro a _ x hx; cases hx
  | cons y r ih =>
    intro a h x hx
    rcases List.mem_cons.1 hx with rfl | hx
    · exact ⟨h.1,h.2.1⟩
    · exact ih h.2.2.2 x hx
structure okJ (j:Jb):Prop where
  user:lbB j.user = true
  prio:-1000 <= j.prio/\j.prio <= 1000
  nd:okN j.nd
  ask:errC j.ask = 0
  len:j.aft.length <= 8
  up:upA 0 j.aft
theorem jCheck_k (j:Jb) (pa:Option Addr) (ca:Nat) (pf:Option Addr) (cf:Nat) (w:World) (hJ:IsJ w j pa ca pf) (hW:WfJ j):FnP Tryz.prog F_job_Check #[jv j pa ca pf cf] w fun v w'=>Ext w w'/\∃ e:Int,v = .int .i64 e/\(e = 0 ↔ okJ j):=by
  refine ok_job_Check j.user j.prio j.nd.c j.nd.m j.nd.g j.ask.k j.ask.key j.ask.val j.ask.n pa j.ask.xs.length ca pf j.aft.length cf w _ fun b0 hb0 w1 h1=>(Label_k j.user hW.user w1).mono fun v w2 ⟨e2,hv⟩=>⟨e2,_,hv,fun hno w4 h4=>?_,fun hyes=>⟨fun hbad w4 h4=>?_,fun hpr w4 h4=>?_⟩⟩
  · exact ⟨h4,3,rfl,by simp,fun h=>by rw [h.user] at hno; cases hno⟩
  · exact ⟨h4,4,rfl,by simp,fun h=>by have:=h.prio; omega⟩
  refine (ncheck_k j.nd w4).mono fun v w5 ⟨e5,hv⟩=>⟨e5,_,hv,fun hne w7 h7=>⟨h7,_,rfl,fun h=>absurd h hne,fun h=>absurd (errN_ok.2 h.nd) hne⟩,fun hz w7 h7=>?_⟩
  refine (Check_k j.ask pa ca w7 (hJ.1.ext h7) hW.ask).mono fun v w8 ⟨e8,hv⟩=>⟨e8,_,hv,fun hne w10 h10=>⟨h10,_,rfl,fun h=>absurd h hne,fun h=>absurd h.ask hne⟩,fun hz2=>⟨fun hbig w10 h10=>⟨h10,2,rfl,by simp,fun h=>by have:=h.len; omega⟩,fun hle=>?_⟩⟩
  refine ⟨fun last k w'=>w' = w/\0 <= k/\k <= j.aft.length/\upA 0 (j.aft.take k.toNat)/\last = lastA 0 (j.aft.take k.toNat),fun _ k _=>(j.aft.length - k).toNat,⟨rfl,by omega,by omega,by simp [upA],by simp [lastA]⟩,?_⟩
  rintro last k w' ⟨rfl,hk0,hk1,hup,rfl⟩
  have all:∀ e:Int,(upA 0 j.aft->False)->e ≠ 0->(e = 0 ↔ okJ j):=fun e h he=>⟨fun h'=>absurd h' he,fun h'=>(h h'.up).elim⟩
  refine ⟨fun hlt=>?_,fun hge w14 h14=>⟨h14,0,rfl,fun _=>⟨hyes,⟨by omega,by omega⟩,errN_ok.1 hz,hz2,by omega,by rw [List.take_of_length_le (by omega)] at hup; exact hup⟩,fun _=>rfl⟩⟩
  have g:=Ints.idx hJ.2 hk0 hlt
  have hget:j.aft.take (k.toNat + 1) = j.aft.take k.toNat ++ [j.aft.getD k.toNat 0]:=by
    rw [List.take_succ_eq_append_getElem (by omega)]
    congr 2
    simp [List.getD_eq_getElem?_getD,show k.toNat < j.aft.length by omega]
  refine ⟨fun hq=>cell_p g (pIdx_none.2 hq),hk0,hlt,_,g,fun hbad w15 h15=>⟨h15,4,rfl,all 4 (fun h=>?_) (by decide)⟩,fun hin=>⟨fun hle2 w15 h15=>⟨h15,6,rfl,all 6 (fun h=>?_) (by decide)⟩,fun hgt=>⟨i64 (by omega),⟨rfl,by omega,by omega,?_,?_⟩,by simp only []; omega⟩⟩⟩
  · have:=upA_take (k.toNat + 1) h
    rw [hget,upA_snoc] at this
    omega
  · have:=upA_take (k.toNat + 1) h
    rw [hget,upA_snoc] at this
    omega
  · rw [show (k + 1).toNat = k.toNat + 1 by omega,hget,upA_snoc]
    exact ⟨hup,hin.1,hin.2,hgt⟩
  · rw [show (k + 1).toNat = k.toNat + 1 by omega,hget]
    simp [lastA]
def aftL (l:List Int):List UInt8:=if l = [] then [45] else Lib.join (l.map Lib.itoa) [44]
theorem aft_len {l:List Int} (h:l.length <= 8) (hr:∀ x ∈ l,InR .i64 x):(aftL l).length <= 200:=by
  unfold aftL
  split
  · simp
  · have:=join_len (c:=44) (m:=21) (l.map Lib.itoa) (fun y hy=>by
      obtain ⟨x,hx,rfl⟩:=List.mem_map.1 hy
      have:=of64 (hr x hx)
      exact Lib.itoa_length_le x this.1 this.2)
    rw [List.length_map] at this
    omega
theorem after_k (l:List Int) (p:Option Addr) (c:Nat) (w:World) (hp:Ints .i64 w p l) (h8:l.length <= 8) (hr:∀ x ∈ l,InR .i64 x) (g:GB w):FnP Tryz.prog F_job_after #[.slice p l.length c] w fun v w'=>Ext w w'/\v = .string (ofL (aftL l)):=by
  refine ok_job_after p l.length c w _ ⟨fun h0 w0 e0=>⟨e0,?_⟩,fun hne=>?_⟩
  · have:l = []:=List.eq_nil_of_length_eq_zero (by omega)
    subst this
    rfl
  have hl:l ≠ []:=fun h=>hne (by rw [h]; rfl)
  refine ⟨fun out outl outc k w'=>Ext w w'/\0 <= k/\k <= l.length/\Own w.heap.size w' T_string 1 out outl outc (((l.take k.toNat).map Lib.itoa).map fun y=>Value.string (ofL y)),fun _ _ _ k _=>(l.length - k).toNat,⟨Ext.refl _,by omega,by omega,Own.nil⟩,?_⟩
  rintro out outl outc k w3 ⟨x3,hk0,hk1,o3⟩
  refine ⟨fun hlt=>?_,fun hge w4 h4=>?_⟩
  · have gc:=Ints.idx (hp.ext x3) hk0 hlt
    have hol:=o3.leni
    have hm:=hr _ (getD_mem l 0 (i:=k.toNat) (by omega))
    refine ⟨fun hq=>cell_p gc (pIdx_none.2 hq),hk0,hlt,_,gc,fun w5 h5=>(Itoa_k _ (of64 hm) w5 ((g.ext x3).ext h5)).mono fun v w6 ⟨e6,hv⟩=>⟨e6,_,hv,?_⟩⟩
    simp only [List.length_map,List.length_take] at hol
    refine push elem_sl_string (by omega) o3 x3.size rfl (by intro u hu; simp [Value.cells] at hu; subst hu; rfl) (by omega) (by omega) (by omega) fun p' c' w' o' g' _=>⟨i64 (by omega),⟨g'.ext x3 o3,by omega,by omega,?_⟩,by simp only []; omega⟩
    rw [show (k + 1).toNat = k.toNat + 1 by omega,List.take_succ_eq_append_getElem (by omega),List.map_append,List.map_append]
    simpa [Value.cells,List.getD_eq_getElem?_getD,show k.toNat < l.length by omega] using o'
  · have hkl:k.toNat = l.length:=by omega
    rw [hkl,List.take_length] at o3
    refine (Join_k (l.map Lib.itoa) 44 out outl outc w.heap.size T_string w4 (o3.ext h4) (by simpa using hl) ?_).mono fun v w5 ⟨e5,hv⟩=>⟨e5,_,hv,fun w7 h7=>⟨x3.trans h7,?_⟩⟩
    · have:=aft_len h8 hr
      unfold aftL at this
      rw [if_neg hl] at this
      omega
    · unfold aftL; rw [if_neg hl]
def jps (j:Jb):List (List UInt8):=[j.user.data.toList,Lib.itoa j.prio,textL j.nd,aftL j.aft,txt j.ask]
def jtx (j:Jb):List UInt8:=Lib.join (jps j) [32]
theorem okJ.rng {j:Jb} (h:okJ j):∀ x ∈ j.aft,InR .i64 x:=fun x hx=>by have:=upA_mem h.up x hx; exact i64 (by omega)
theorem text_len {x:Nd} (hx:rng x):(textL x).length <= 78:=by
  unfold textL
  split
  · simp
  · exact join_pcs hx
theorem jps_len {j:Jb} (h:okJ j) (hn:nod j.ask <= 1048576):∀ y ∈ jps j,y.length <= 3000:=by
  have h1:=lbB_size h.user
  have h2:=Lib.itoa_length_le j.prio (by have:=h.prio; omega) (by have:=h.prio; omega)
  have h3:=text_len h.nd.rng
  have h4:=aft_len h.len h.rng
  obtain ⟨h5,h6⟩:=errC_ok.1 h.ask
  have h7:=txt_len j.ask h6
  rw [cnt_nod j.ask hn] at h5
  intro y hy
  unfold jps at hy
  simp only [List.mem_cons,List.not_mem_nil,or_false] at hy
  rcases hy with rfl | rfl | rfl | rfl | rfl
  · rw [bs_len]; omega
  · omega
  · omega
  · omega
  · omega
theorem jText_k (j:Jb) (pa:Option Addr) (ca:Nat) (pf:Option Addr) (cf:Nat) (w:World) (hJ:IsJ w j pa ca pf) (hW:WfJ j) (hn:nod j.ask <= 1048576) (g:GB w):FnP Tryz.prog F_job_Text #[jv j pa ca pf cf] w fun v w'=>Ext w w'/\∃ (t:ByteArray) (e:Int),v = .tuple #[.string t,.int .i64 e]/\(e = 0 ↔ okJ j)/\(e ≠ 0->t = emS)/\(e = 0->t = ofL (jtx j)):=by
  refine ok_job_Text j.user j.prio j.nd.c j.nd.m j.nd.g j.ask.k j.ask.key j.ask.val j.ask.n pa j.ask.xs.length ca pf j.aft.length cf w _ fun b0 hb0 w1 h1=>(jCheck_k j pa ca pf cf w1 (hJ.ext h1) hW).mono fun v w2 ⟨e2,e,hv,he⟩=>⟨e2,e,hv,fun hne w4 h4=>⟨h4,emS,e,rfl,he,fun _=>rfl,fun h=>absurd h hne⟩,fun hz w4 h4=>?_⟩
  have ho:=he.1 hz
  refine (nText_k j.nd w4 (g.ext h4)).mono fun v w5 ⟨e5,t5,f5,hv,hf,_,ht5⟩=>⟨e5,t5,f5,hv,fun w8 h8=>?_⟩
  have ht5:=ht5 (hf.2 ho.nd)
  refine (Text_k j.ask pa ca w8 (hJ.1.ext h8) hW.ask hn ⟨(g.ext h8).pow⟩).mono fun v w9 ⟨e9,hor⟩=>?_
  rcases hor with ⟨hne,_⟩ | ⟨_,hv⟩
  · exact absurd ho.ask hne
  refine ⟨e9,_,_,hv,fun w12 h12=>(Itoa_k j.prio (of64 hW.prio) w12 (g.ext h12)).mono fun v w13 ⟨e13,hv⟩=>⟨e13,_,hv,fun w15 h15=>(after_k j.aft pf cf w15 (hJ.2.ext h15) ho.len ho.rng (g.ext h15)).mono fun v w16 ⟨e16,hv⟩=>⟨e16,_,hv,fun w18 x18=>?_⟩⟩⟩
  have h18:=extB_ext x18
  refine run_lit elem_sl_string [.string j.user,.string (ofL (Lib.itoa j.prio)),.string t5,.string (ofL (aftL j.aft)),.string (ofL (txt j.ask))] rfl rfl (by intro v hv; simp at hv; rcases hv with rfl | rfl | rfl | rfl | rfl <;> rfl) (by omega) (by omega) fun w19 o19 e19=>⟨e19,_,_,_,rfl,fun w23 h23=>?_⟩
  have o23:=(o19 w18.heap.size (Nat.le_refl _)).ext h23
  have hrow:([.string j.user,.string (ofL (Lib.itoa j.prio)),.string t5,.string (ofL (aftL j.aft)),.string (ofL (txt j.ask))]:List Value).flatMap (fun v=>v.cells.toList) = (jps j).map fun l=>Value.string (ofL l):=by
    rw [ht5]
    simp [Value.cells,jps,ofL_of]
  rw [hrow] at o23
  refine (Join_k (jps j) 32 _ _ _ _ T_string w23 o23 (by simp [jps]) ?_).mono fun v w24 ⟨e24,hv⟩=>⟨e24,_,hv,fun w26 h26=>⟨(h18.trans e19).trans h26,_,0,rfl,⟨fun _=>ho,fun _=>rfl⟩,fun h=>absurd rfl h,fun _=>rfl⟩⟩
  have:=join_len (c:=32) (m:=3000) (jps j) (jps_len ho hn)
  simp only [jps,List.length_cons,List.length_nil] at this ⊢
  omega
end Go.Proofs.YtegephkpdlopaaaGreatDoor
set_option linter.unusedVariables false
set_option linter.unusedSimpArgs false
namespace Go.Proofs.YtegephkpdlopaaaGreatDoor
open Go.Sx Go.RowKit
theorem mem_join {c d:UInt8}:∀ (L:List (List UInt8)),c ∈ Lib.join L [d]->c = d\/∃ y ∈ L,c ∈ y
  | [],h => by rw [Lib.join_nil] at h; cases h
  | [x],h => by rw [Lib.join_one] at h; exact .inr ⟨x,List.mem_cons_self ..,h⟩
  | x :: y :: L,h => by
    have e:Lib.join (x :: y :: L) [d] = x ++ d :: Lib.join (y :: L) [d]:=by
      rw [Lib.join_cons,Lib.join_cons]
      simp [Lib.joinTail]
    rw [e] at h
    rcases List.mem_append.1 h with h | h
    · exact .inr ⟨x,List.mem_cons_self ..,h⟩
    · rcases List.mem_cons.1 h with h | h
      · exact .inl h
      · rcases mem_join (y :: L) h with h | ⟨z,hz,h⟩
        · exact .inl h
        · exact .inr ⟨z,List.mem_cons_of_mem _ hz,h⟩
theorem lb_not {s:ByteArray} (h:lbB s = true) {c:UInt8} (hc:okC (c.toNat:Int) = false):c ∉ s.data.toList:=fun hm=>by
  unfold lbB at h
  simp only [Bool.and_eq_true] at h
  have:=List.all_eq_true.1 h.2 (c.toNat:Int) (List.mem_map.2 ⟨c,hm,rfl⟩)
  rw [hc] at this; cases this
theorem un_not {s:ByteArray} (h:unB s = true) {c:UInt8} (h1:c ∉ cpuS.data.toList) (h2:c ∉ memS.data.toList) (h3:c ∉ gpuS.data.toList):c ∉ s.data.toList:=by
  unfold unB at h
  simp only [Bool.or_eq_true,decide_eq_true_eq] at h
  rcases h with (h | h) | h <;> (subst h; assumption)
theorem itoa_not {n:Int} {c:UInt8} (h1:c ≠ 45) (h2:c.toNat < 48\/57 < c.toNat):c ∉ Lib.itoa n:=fun hm=>by
  rcases itoa_any c hm with h | h
  · exact h1 h
  · omega
theorem nd_not {x:Nd}:(32:UInt8) ∉ textL x:=fun hm=>by
  unfold textL at hm
  split at hm
  · simp at hm
  · rcases mem_join _ hm with h | ⟨y,hy,h⟩
    · exact absurd h (by decide)
    · obtain ⟨i,hi,rfl⟩:=List.mem_map.1 hy
      have hi:=(idx_lt hi).1
      unfold piece at h
      rcases List.mem_append.1 h with h | h
      · revert h
        match i,hi with
        | 0,_ => decide
        | 1,_ => decide
        | 2,_ => decide
      · rcases List.mem_cons.1 h with h | h
        · exact absurd h (by decide)
        · exact itoa_not (by decide) (by decide) h
theorem aft_not {l:List Int}:(32:UInt8) ∉ aftL l:=fun hm=>by
  unfold aftL at hm
  split at hm
  · simp at hm
  · rcases mem_join _ hm with h | ⟨y,hy,h⟩
    · exact absurd h (by decide)
    · obtain ⟨x,hx,rfl⟩:=List.mem_map.1 hy
      exact itoa_not (by decide) (by decide) h
theorem ask_not:∀ t:AT,errA t = 0->(32:UInt8) ∉ txt t:=by
  intro t
  induction t using AT.ind with
  | h k key val n xs ih =>
    intro he hm
    rcases txt_inv he with ⟨key,h,hkey,ht⟩ | ⟨key,val,h,hkey,hval,ht⟩ | ⟨key,m,h,hkey,hm0,_,ht⟩ | ⟨x,h,hx,ht,hnx⟩ | ⟨k,x,y',hk',h,hx,hy,ht,hnx⟩
    · rw [ht] at hm
      rcases List.mem_cons.1 hm with h | h
      · exact absurd h (by decide)
      · exact lb_not hkey (by decide) h
    · rw [ht] at hm
      rcases List.mem_append.1 hm with h | h
      · exact lb_not hkey (by decide) h
      · rcases List.mem_cons.1 h with h | h
        · exact absurd h (by decide)
        · exact lb_not hval (by decide) h
    · rw [ht] at hm
      rcases List.mem_append.1 hm with h | h
      · exact un_not hkey (by decide) (by decide) (by decide) h
      · simp only [List.mem_cons] at h
        rcases h with h | h | h
        · exact absurd h (by decide)
        · exact absurd h (by decide)
        · exact itoa_not (by decide) (by decide) h
    · injection h with _ _ _ _ h5
      rw [ht] at hm
      rcases List.mem_cons.1 hm with h | h
      · exact absurd h (by decide)
      · exact ih x (by rw [h5]; simp) hx h
    · injection h with _ _ _ _ h5
      rw [ht] at hm
      simp only [List.mem_cons,List.mem_append,List.not_mem_nil,or_false] at hm
      rcases hm with h | h | h | h | h
      · exact absurd h (by decide)
      · exact ih x (by rw [h5]; simp) hx h
      · rcases hk' with rfl | rfl
        · exact absurd h (by decide)
        · exact absurd h (by decide)
      · exact ih y' (by rw [h5]; simp) hy h
      · exact absurd h (by decide)
theorem jps_not {j:Jb} (h:okJ j):∀ y ∈ jps j,(32:UInt8) ∉ y:=by
  intro y hy
  unfold jps at hy
  simp only [List.mem_cons,List.not_mem_nil,or_false] at hy
  rcases hy with rfl | rfl | rfl | rfl | rfl
  · exact lb_not h.user (by decide)
  · exact itoa_not (by decide) (by decide)
  · exact nd_not
  · exact aft_not
  · exact ask_not _ (errC_ok.1 h.ask).2
theorem aft_dash {l:List Int} (h:aftL l = [45]):l = []\/∃ x,l = [x]/\Lib.itoa x = [45]:=by
  unfold aftL at h
  split at h
  · rename_i h0; exact .inl h0
  · cases l with
    | nil => exact .inl rfl
    | cons x r =>
      cases r with
      | nil => exact .inr ⟨x,rfl,by simpa [Lib.join_one] using h⟩
      | cons y r =>
        simp only [List.map_cons] at h
        rw [Lib.join_cons] at h
        have hx:Lib.itoa x ≠ []:=by
          unfold Lib.itoa
          split
          · simp
          · exact dec_ne _
        have hy:Lib.joinTail [44] (Lib.itoa y :: r.map Lib.itoa) ≠ []:=by
          intro h0
          have:=Lib.joinTail_length [44] (Lib.itoa y :: r.map Lib.itoa)
          rw [h0] at this
          simp at this
          omega
        have:=congrArg List.length h
        rw [List.length_append] at this
        have h1:=List.length_pos_iff.2 hx
        have h2:=List.length_pos_iff.2 hy
        simp at this
        omega
def zeroJ:Jb:=⟨emS,0,zeroN,zeroA,[]⟩
theorem zeroJ_wf:WfJ zeroJ:=⟨by decide,i64 (by decide),fun i hi=>by
  match i,hi with
  | 0,_ => simp [ndAt,zeroJ,zeroN]
  | 1,_ => simp [ndAt,zeroJ,zeroN]
  | 2,_ => simp [ndAt,zeroJ,zeroN],zero_wf,by decide,fun x hx => by cases hx⟩
theorem zeroJ_at (w:World):IsJ w zeroJ none 0 none:=⟨zero_isT w,Cells.nil⟩
structure JT (s:ByteArray) (j:Jb):Prop where
  ok:okJ j
  nod:nod j.ask <= 1048576
  is:s = ofL (jtx j)
  ask:(txt j.ask).length <= 2000
def JRes (w:World) (s:ByteArray) (v:Value) (w':World):Prop:=Ext w w'/\∃ j pa ca pf cf e,v = .tuple #[jv j pa ca pf cf,.int .i64 e]/\WfJ j/\(∀ S:Nat->Prop,(∀ b,S b->b < w.heap.size)->∀ w'',Fr S w' w''->IsJ w'' j pa ca pf) /\
  ((e ≠ 0/\j = zeroJ/\pa = none/\ca = 0/\pf = none/\cf = 0)\/(e = 0/\okJ j/\nod j.ask <= 60/\s = ofL (jtx j)/\(txt j.ask).length <= 2000))/\(∀ j0,JT s j0->s.size <= 3000->e = 0/\j = j0)
theorem jres_zero {w w':World} {s:ByteArray} (x:Ext w w') {e:Int} (he:e ≠ 0) (hno:∀ j0,JT s j0->s.size <= 3000->False):JRes w s (.tuple #[jv zeroJ none 0 none 0,.int .i64 e]) w' :=
  ⟨x,zeroJ,none,0,none,0,e,rfl,zeroJ_wf,fun _ _ _ _=>zeroJ_at _,.inl ⟨he,rfl,rfl,rfl,rfl,rfl⟩,fun j0 h hs=>(hno j0 h hs).elim⟩
theorem split_pieces {s:ByteArray} {j:Jb} (h:JT s j):Lib.countB s (one 32) = 4/\Lib.splitB (one 32) 0 4 s = (jps j).map ofL:=by
  have:=join_split (c:=32) [Lib.itoa j.prio,textL j.nd,aftL j.aft,txt j.ask] j.user.data.toList (by simpa [jps] using jps_not h.ok)
  rw [h.is]
  exact this
theorem split_after {l:List Int} (hl:l ≠ []):Lib.countB (ofL (aftL l)) (one 44) + 1 = l.length/\Lib.splitB (one 44) 0 (Lib.countB (ofL (aftL l)) (one 44)) (ofL (aftL l)) = (l.map Lib.itoa).map ofL:=by
  cases l with
  | nil => exact absurd rfl hl
  | cons a r =>
    have h:=join_split (c:=44) (r.map Lib.itoa) (Lib.itoa a) (by
      intro y hy
      rw [<- List.map_cons] at hy
      obtain ⟨x,_,rfl⟩:=List.mem_map.1 hy
      exact itoa_not (by decide) (by decide))
    have e:aftL (a :: r) = Lib.join (Lib.itoa a :: r.map Lib.itoa) [44]:=by unfold aftL; rw [if_neg (by simp)]; rfl
    rw [e,h.1]
    refine ⟨by simp,?_⟩
    rw [List.length_map] at h ⊢
    simpa using h.2
theorem jRead_k (s:ByteArray) (hs63:s.size <= 9223372036854775807) (w:World) (g:GB w):FnP Tryz.prog F_job_Read #[.string s] w (JRes w s):=by
  refine ok_job_Read s w _ fun b0 hb0=>⟨fun hbig w1 h1=>jres_zero h1 (by decide) fun j0 _ h=>by omega,fun hsm w1 x1=>?_⟩
  have h1:=extB_ext x1
  have hb01:b0 < w1.heap.size:=x1.lt b0 (by simp)
  refine (Split_k 32 s (by omega) w1 (g.ext h1)).mono fun v w2 ⟨e2,hv,hc2,hlt2⟩=>⟨e2,_,_,_,hv,fun hne w6 x6=>?_,fun h5=>?_⟩
  · refine jres_zero (but_ext x6 (h1.trans e2) (by intro d hd; simp at hd; omega)) (by decide) fun j0 hj _=>hne ?_
    rw [(split_pieces hj).1]; rfl
  have hw2:Ext w w2:=h1.trans e2
  have hcnt:Lib.countB s (one 32) = 4:=by omega
  rw [hcnt] at hc2
  have hlen:=split_len (c:=32) 4 s hcnt
  have hsz:∀ i q,(Lib.splitB (one 32) 0 4 s)[i]? = some q->q.size + i <= s.size:=fun i q h=>split_size _ s i q h
  have hjt:∀ j0,JT s j0->Lib.splitB (one 32) 0 4 s = (jps j0).map ofL:=fun j0 hj=>(split_pieces hj).2
  generalize Lib.splitB (one 32) 0 4 s = Ps at hc2 hlen hsz hjt
  have spn:(some (⟨w1.heap.size,0,none⟩:Addr)) ≠ none:=by simp
  have spb:∀ a,(some (⟨w1.heap.size,0,none⟩:Addr)) = some a->a.block < w2.heap.size:=fun a ha=>by obtain rfl:=Option.some.inj ha; exact hlt2
  generalize (some (⟨w1.heap.size,0,none⟩:Addr)) = sp at hc2 spn spb ⊢
  obtain ⟨P0,P1,P2,P3,P4,rfl⟩:∃ a b c d e,Ps = [a,b,c,d,e]:=by
    match Ps,hlen with
    | [a,b,c,d,e],_ => exact ⟨a,b,c,d,e,rfl⟩
  have cellP:∀ {w':World} (i:Nat) (q:ByteArray),Ext w2 w'->([P0,P1,P2,P3,P4]:List ByteArray)[i]? = some q->Go.Sx.cell w' (pIdx sp (i:Int) 1) 0 = some (.string q):=fun {w'} i q hx hq=>by
    rw [cell_pIdx]
    have:=hc2.ext hx i (.string q) (by rw [List.getElem?_map,hq]; rfl)
    simpa using this
  have s0:=hsz 0 P0 rfl
  have s1:=hsz 1 P1 rfl
  have s2:=hsz 2 P2 rfl
  have s3:=hsz 3 P3 rfl
  have s4:=hsz 4 P4 rfl
  refine ⟨spn,by omega,by omega,P0,cellP 0 P0 (Ext.refl _) rfl,fun b7 hb7=>⟨spn,by omega,by omega,P1,cellP 1 P1 (Ext.refl _) rfl,fun w9 x9=>?_⟩⟩
  have hfree:∀ i:Int,Free [b7] (pIdx sp i 1):=fun i b hb a ha=>by
    simp at hb; subst hb
    cases sp with
    | none => exact absurd rfl spn
    | some x =>
      have:=spb x rfl
      simp [pIdx] at ha
      rw [<- ha,add_block]; omega
  have h9:=extB_ext x9
  have hw9:=hw2.trans h9
  refine (Atoi_k P1 (by omega) w9 (g.ext hw9)).mono fun v w10 ⟨e10,n1,ev,hv,hcase⟩=>⟨e10,n1,ev,hv,spn,by omega,by omega,P2,⟨cellP 2 P2 (h9.trans e10) rfl,hfree 2⟩,fun w14 x14=>?_⟩
  have hw10:=hw9.trans e10
  have h210:Ext w2 w10:=h9.trans e10
  have hb7w:w.heap.size <= b7:=Nat.le_trans hw2.size hb7
  have hw14:Ext w w14:=but_ext x14 hw10 (by intro d hd; simp at hd; omega)
  refine (nRead_k P2 (by omega) w14 (g.ext hw14)).mono fun v w15 ⟨e15,nd,en,hv,hnz,hnok,hncomp⟩=>⟨e15,nd.c,nd.m,nd.g,en,hv,spn,by omega,by omega,P4,⟨cellP 4 P4 h210 rfl,hfree 4⟩,fun w21 x21=>?_⟩
  have hw21:Ext w w21:=but_ext x21 hw10 (by intro d hd; simp at hd; omega)
  have h221:Ext w2 w21:=but_ext x21 h210 (by intro d hd; simp at hd; omega)
  have hb0_21:b0 < w21.heap.size:=x21.lt b0 (by simp)
  have hb7_21:b7 < w21.heap.size:=x21.lt b7 (by simp)
  refine (Read_kS P4 w21 (g.ext hw21)).mono fun v w22 ⟨e22,t,pa,ca,ea,hv,hWt,hTt,horA,hcompA⟩=>⟨e22,t.k,t.key,t.val,t.n,pa,t.xs.length,ca,ea,hv,fun w31 x31=>?_⟩
  have hw22:Ext w w22:=hw21.trans e22
  have h222:Ext w2 w22:=h221.trans e22
  have hn1:InR .i64 n1\/ev ≠ .nilIface:=by
    rcases hcase with ⟨_,h⟩ | ⟨⟨a,b,h⟩,_⟩
    · exact .inl (parse_rng h)
    · exact .inr (by rw [h]; simp)
  have parts:∀ j0,JT s j0->P0 = j0.user/\P1 = ofL (Lib.itoa j0.prio)/\P2 = ofL (textL j0.nd)/\P3 = ofL (aftL j0.aft)/\P4 = ofL (txt j0.ask):=fun j0 hj=>by
    have:=hjt j0 hj
    simp only [jps,List.map_cons,List.map_nil,List.cons.injEq,and_true] at this
    rw [ofL_of] at this
    exact this
  have good0:∀ j0,JT s j0->s.size <= 3000->ev = .nilIface/\n1 = j0.prio/\en = 0/\nd = j0.nd/\ea = 0/\t = j0.ask:=fun j0 hj hs=>by
    obtain ⟨q0,q1,q2,q3,q4⟩:=parts j0 hj
    have hp:=parse_any (n:=j0.prio) (by have:=hj.ok.prio; omega)
    have ha:=hcompA j0.ask hj.ok.ask hj.nod q4 (by rw [q4,ofL_size]; exact hj.ask)
    have hd:=hncomp j0.nd hj.ok.nd q2
    rcases hcase with ⟨h,h'⟩ | ⟨_,h'⟩
    · rw [q1,ofL_list,hp] at h'
      cases h'
      exact ⟨h,rfl,hd.1,hd.2,ha.1,ha.2⟩
    · rw [q1,ofL_list] at h'
      exact absurd hp (h' _)
  refine ne_nilB (by kernel_rfl) (hcase.elim (fun h=>.inl h.1) fun h=>.inr h.1) fun tb htb=>⟨Ext.refl _,tb,rfl,fun hbad w34 x34=>?_,fun hgd=>?_⟩
  · refine jres_zero (but_ext x34 hw22 (by intro d hd; simp at hd; omega)) (by decide) fun j0 hj hs=>?_
    obtain ⟨a1,_,a3,_,a5,_⟩:=good0 j0 hj hs
    rcases hbad with (h | h) | h
    · rw [htb.2 a1] at h; cases h
    · exact h a3
    · exact h a5
  have hev:ev = .nilIface:=htb.1 hgd.1.1
  have hn1:InR .i64 n1:=hn1.resolve_right fun h=>h hev
  have hnd:=hnok hgd.1.2
  obtain ⟨htC,htn,htx,_⟩:errC t = 0/\nod t <= 60/\P4 = ofL (txt t)/\P4.size <= 2000:=by
    rcases horA with ⟨h,_⟩ | ⟨_,h⟩
    · exact absurd hgd.2 h
    · exact h
  have htl:(txt t).length <= 2000:=by rw [<- ofL_size,<- htx]; assumption
  have tail:∀ (xs:List Int) (pf:Option Addr) (cf:Nat) (wt:World),Ext w wt->Fr (fun b=>b = b7) w22 wt->Own w21.heap.size wt T_int 1 pf xs.length cf (xs.map (.int .i64))->(∀ x ∈ xs,InR .i64 x)->xs.length <= 9223372036854775807->(∀ j0,JT s j0->s.size <= 3000->xs = j0.aft) ->
      ∀ w55,ExtB [b7] [] wt w55->FnP Tryz.prog F_job_Text #[jv ⟨P0,n1,nd,t,xs⟩ pa ca pf cf] w55 fun v56 w56=>Ext w55 w56/\∃ t57:ByteArray,∃ t58:Int,v56 = (.tuple #[(.string t57),(.int .i64 t58)]) /\
        (((t58 ≠ 0)\/(t57 ≠ s))->∀ w59,ExtB [b0,b7] [] wt w59->JRes w s (.tuple #[jv zeroJ none 0 none 0,.int .i64 3]) w59) /\
        (((t58 = 0)/\(t57 = s))->∀ w59,ExtB [b0,b7] [] wt w59->JRes w s (.tuple #[jv ⟨P0,n1,nd,t,xs⟩ pa ca pf cf,.int .i64 0]) w59):=by
    intro xs pf cf wt hwt ft o hxr hxl hcx w55 x55
    have hW:WfJ ⟨P0,n1,nd,t,xs⟩:=⟨by show P0.size <= _; omega,hn1,hnd.1.rng,hWt,hxl,hxr⟩
    have key:∀ (S:Nat->Prop),(∀ b,S b->b < w21.heap.size)->∀ w'',Fr S wt w''->IsJ w'' ⟨P0,n1,nd,t,xs⟩ pa ca pf:=fun S hS w'' fw=>by
      refine ⟨hTt (fun b=>b = b7\/S b) (fun b hb=>by rcases hb with rfl | hb; (· exact hb7_21); exact hS b hb) w'' ((ft.mono fun b hb=>.inl hb).tr (fw.mono fun b hb=>.inr hb)),?_⟩
      exact (Own.fr o fw fun a ha hb=>by have:=(o.lt a ha).1; have:=hS _ hb; omega).cells
    have f55:Fr (fun b=>b = b7) wt w55:=fr_extB x55 (by intro d hd; simp at hd; exact .inl hd)
    have hw55:Ext w w55:=but_ext x55 hwt (by intro d hd; simp at hd; omega)
    refine (jText_k ⟨P0,n1,nd,t,xs⟩ pa ca pf cf w55 (key (fun b=>b = b7) (fun b hb=>by omega) w55 f55) hW (by show nod t <= _; omega) (g.ext hw55)).mono fun v w56 ⟨e56,tt,e,hv,heq,hem,htt⟩=>⟨e56,tt,e,hv,fun hbad w59 x59=>?_,fun hgood w59 x59=>?_⟩
    · refine jres_zero (but_ext x59 hwt (by intro d hd; simp at hd; omega)) (by decide) fun j0 hj hs=>?_
      obtain ⟨q0,_⟩:=parts j0 hj
      obtain ⟨_,a2,_,a4,_,a6⟩:=good0 j0 hj hs
      have hxa:=hcx j0 hj hs
      have hj0:(⟨P0,n1,nd,t,xs⟩:Jb) = j0:=by rw [q0,a2,a4,a6,hxa]
      have he0:e = 0:=heq.2 (by rw [hj0]; exact hj.ok)
      rcases hbad with h | h
      · exact h he0
      · exact h (by rw [htt he0,hj0]; exact hj.is.symm)
    · refine ⟨but_ext x59 hwt (by intro d hd; simp at hd; omega),⟨P0,n1,nd,t,xs⟩,pa,ca,pf,cf,0,rfl,hW,fun S hS w'' fw=>?_,.inr ⟨rfl,heq.1 hgood.1,htn,by rw [<- hgood.2]; exact htt hgood.1,htl⟩,fun j0 hj hs=>⟨rfl,?_⟩⟩
      · refine key (fun b=>S b\/b = b0\/b = b7) (fun b hb=>?_) w'' ((fr_extB x59 (by intro d hd; simp at hd; exact .inl (.inr hd))).tr (fw.mono fun b hb=>.inl hb))
        have:=hw21.size
        rcases hb with hb | rfl | rfl
        · have:=hS b hb; omega
        · exact hb0_21
        · exact hb7_21
      · obtain ⟨q0,_⟩:=parts j0 hj
        obtain ⟨_,a2,_,a4,_,a6⟩:=good0 j0 hj hs
        rw [q0,a2,a4,a6,hcx j0 hj hs]
  refine ⟨spn,by omega,by omega,P3,⟨cellP 3 P3 h222 rfl,hfree 3⟩,fun hne3=>⟨spn,by omega,by omega,P3,⟨cellP 3 P3 h222 rfl,hfree 3⟩,fun w36 x36=>?_⟩,fun heq3 w35 x35=>?_⟩
  rotate_left
  · refine tail [] none 0 w22 hw22 (Fr.refl _ _) Own.nil (fun x hx=>by cases hx) (by simp) (fun j0 hj hs=>?_) w35 x35
    obtain ⟨_,_,_,q3,_⟩:=parts j0 hj
    have:aftL j0.aft = [45]:=ofL_inj (q3.symm.trans heq3)
    rcases aft_dash this with h | ⟨x,h,hx⟩
    · exact h.symm
    · have hup:=upA_mem hj.ok.up x (by rw [h]; simp)
      rw [itoa_dec (by omega)] at hx
      have:=dec_digits x.toNat 45 (by rw [hx]; simp)
      exact absurd this (by decide)
  have f36:Fr (fun b=>b = b7) w22 w36:=fr_extB x36 (by intro d hd; simp at hd; exact .inl hd)
  have hw36:Ext w w36:=but_ext x36 hw22 (by intro d hd; simp at hd; omega)
  have hb0_36:b0 < w36.heap.size:=x36.lt b0 (by simp)
  have hb7_36:b7 < w36.heap.size:=x36.lt b7 (by simp)
  refine (Split_k 44 P3 (by omega) w36 (g.ext hw36)).mono fun v w37 ⟨e37,hv,hc37,hlt37⟩=>⟨e37,_,_,_,hv,?_⟩
  have qlen:=split_len (c:=44) _ P3 rfl
  have qsz:∀ i q,(Lib.splitB (one 44) 0 (Lib.countB P3 (one 44)) P3)[i]? = some q->q.size + i <= P3.size:=fun i q h=>split_size _ P3 i q h
  have qjt:∀ j0,JT s j0->Lib.countB P3 (one 44) + 1 = j0.aft.length/\Lib.splitB (one 44) 0 (Lib.countB P3 (one 44)) P3 = (j0.aft.map Lib.itoa).map ofL:=fun j0 hj=>by
    obtain ⟨_,_,_,q3,_⟩:=parts j0 hj
    have hne:j0.aft ≠ []:=fun h=>hne3 (by rw [q3,h]; rfl)
    rw [q3]
    exact split_after hne
  generalize Lib.splitB (one 44) 0 (Lib.countB P3 (one 44)) P3 = Qs at hc37 qlen qsz qjt
  generalize Lib.countB P3 (one 44) = m at qlen qjt ⊢
  have qpn:(some (⟨w36.heap.size,0,none⟩:Addr)) ≠ none:=by simp
  have qpb:∀ a,(some (⟨w36.heap.size,0,none⟩:Addr)) = some a->a.block ≠ b7:=fun a ha=>by obtain rfl:=Option.some.inj ha; show w36.heap.size ≠ b7; omega
  generalize (some (⟨w36.heap.size,0,none⟩:Addr)) = qp at hc37 qpn qpb ⊢
  have hw37:Ext w w37:=hw36.trans e37
  have hb37:b0 < w37.heap.size/\b7 < w37.heap.size:=by have:=e37.size; omega
  refine ⟨fun k c43 c44 c45 c46 c47 c48 c49 c50 c51 c52 cl52 cc52 c53 cl53 cc53 w'=>(c43 = P0/\c44 = n1/\c45 = nd.c/\c46 = nd.m/\c47 = nd.g/\c48 = t.k/\c49 = t.key/\c50 = t.val/\c51 = t.n/\c52 = pa/\cl52 = t.xs.length/\cc52 = ca)/\0 <= k/\k <= (m + 1:Nat)/\Ext w w'/\Fr (fun b=>b = b7) w37 w' /\
      ∃ xs:List Int,cl53 = xs.length/\xs.length = k.toNat/\Own w37.heap.size w' T_int 1 c53 cl53 cc53 (xs.map (.int .i64))/\∀ (i:Nat) x,xs[i]? = some x->∃ q,Qs[i]? = some q/\Lib.parseIntB 64 q.data.toList = .ok x,fun k _ _ _ _ _ _ _ _ _ _ _ _ _ _ _ _=>(m + 1 - k).toNat,
    ⟨⟨rfl,rfl,rfl,rfl,rfl,rfl,rfl,rfl,rfl,rfl,rfl,rfl⟩,by omega,by omega,hw37,Fr.refl _ _,[],rfl,rfl,Own.nil,fun i x h=>by simp at h⟩,?_⟩
  rintro k c43 c44 c45 c46 c47 c48 c49 c50 c51 c52 cl52 cc52 c53 cl53 cc53 w54 ⟨⟨rfl,rfl,rfl,rfl,rfl,rfl,rfl,rfl,rfl,rfl,rfl,rfl⟩,hk0,hk1,hw54,f54,xs,rfl,hxk,o54,hxs⟩
  have c54:Cells w54 qp (Qs.map Value.string):=hc37.fr f54 fun a ha=>qpb a ha
  refine ⟨fun hlt=>?_,fun hge=>?_⟩
  rotate_left
  · have f22:Fr (fun b=>b = b7) w22 w54:=(f36.tr (fr_ext e37)).tr f54
    have sz:w21.heap.size <= w37.heap.size:=by have:=e22.size; have:=f36.size; have:=e37.size; omega
    refine tail xs c53 cc53 w54 hw54 f22 (o54.weak sz) (fun x hx=>?_) ?_ fun j0 hj hs=>?_
    · obtain ⟨i,hi⟩:=List.getElem?_of_mem hx
      obtain ⟨q,_,hq⟩:=hxs i x hi
      exact parse_rng hq
    · have:=o54.le; omega
    · obtain ⟨h1,h2⟩:=qjt j0 hj
      have hkl:xs.length = j0.aft.length:=by omega
      refine List.ext_getElem? fun i=>?_
      rcases Nat.lt_or_ge i xs.length with hi | hi
      · obtain ⟨q,hq,hp⟩:=hxs i xs[i] (List.getElem?_eq_getElem hi)
        rw [h2,List.map_map,List.getElem?_map,List.getElem?_eq_getElem (by omega:i < j0.aft.length)] at hq
        simp only [Option.map_some,Option.some.injEq] at hq
        have hup:=upA_mem hj.ok.up (j0.aft[i]'(by omega)) (List.getElem_mem _)
        rw [<- hq] at hp
        have hp2:=parse_any (n:=j0.aft[i]'(by omega)) (by omega)
        have hp3:Lib.parseIntB 64 (Lib.itoa (j0.aft[i]'(by omega))) = .ok xs[i]:=hp
        rw [hp2] at hp3
        injection hp3 with h3
        rw [List.getElem?_eq_getElem hi,List.getElem?_eq_getElem (by omega:i < j0.aft.length),h3]
      · rw [List.getElem?_eq_none hi,List.getElem?_eq_none (by omega)]
  obtain ⟨pc,hpc⟩:∃ pc,Qs[k.toNat]? = some pc:=⟨_,List.getElem?_eq_getElem (by omega)⟩
  have hcell:Go.Sx.cell w54 (pIdx qp k 1) 0 = some (.string pc):=by
    rw [cell_pIdx]
    exact c54 _ _ (by simp [hpc])
  have hpsz:=qsz _ _ hpc
  have hqfree:Free [b7] (pIdx qp k 1):=fun b hb a ha=>by
    simp at hb; subst hb
    cases qp with
    | none => exact absurd rfl qpn
    | some x =>
      simp [pIdx] at ha
      rw [<- ha,add_block]; exact qpb x rfl
  refine ⟨qpn,hk0,hlt,pc,⟨hcell,hqfree⟩,fun w56 x56=>?_⟩
  have hw56:Ext w w56:=but_ext x56 hw54 (by intro d hd; simp at hd; omega)
  have f56:Fr (fun b=>b = b7) w37 w56:=f54.tr (fr_extB x56 (by intro d hd; simp at hd; exact .inl hd))
  refine (Atoi_k pc (by omega) w56 (g.ext hw56)).mono fun v w57 ⟨e57,x,ev2,hv,hcase2⟩=>⟨e57,x,ev2,hv,fun w60 h60=>?_⟩
  have hw57:=hw56.trans e57
  refine ne_nilB (by kernel_rfl) (hcase2.elim (fun h=>.inl h.1) fun h=>.inr h.1) fun tb2 htb2=>⟨Ext.refl _,tb2,rfl,fun hbad w63 x63=>?_,fun hok=>?_⟩
  · refine jres_zero (but_ext x63 hw57 (by intro d hd; simp at hd; omega)) (by decide) fun j0 hj hs=>?_
    obtain ⟨h1,h2⟩:=qjt j0 hj
    rw [h2,List.map_map,List.getElem?_map,List.getElem?_eq_getElem (by omega:k.toNat < j0.aft.length)] at hpc
    simp only [Option.map_some,Option.some.injEq] at hpc
    have hup:=upA_mem hj.ok.up (j0.aft[k.toNat]'(by omega)) (List.getElem_mem _)
    have hp2:=parse_any (n:=j0.aft[k.toNat]'(by omega)) (by omega)
    rcases hcase2 with ⟨h,_⟩ | ⟨_,h⟩
    · rw [htb2.2 h] at hbad; cases hbad
    · rw [<- hpc] at h
      exact h _ hp2
  · have hx:Lib.parseIntB 64 pc.data.toList = .ok x:=by
      have:=htb2.1 hok
      rcases hcase2 with ⟨_,h⟩ | ⟨⟨a,b,h⟩,_⟩
      · exact h
      · rw [this] at h; cases h
    have f57:Fr (fun b=>b = b7) w37 w57:=f56.tr (fr_ext e57)
    have o57:Own w37.heap.size w57 T_int 1 c53 xs.length cc53 (xs.map (.int .i64)):=Own.ext (Own.fr o54 (fr_extB x56 (by intro d hd; simp at hd; exact .inl hd):Fr (fun b=>b = b7) w54 w56) fun a ha hb=>by have:=(o54.lt a ha).1; omega) e57
    refine push_intB elem_sl_int o57 f57.size (fun b hb y hy=>by have:=(o57.lt y hy).1; simp at hb; rcases hb with rfl | rfl <;> omega) (by omega) (by omega) fun p' c' w' o' g' _ _=>⟨i64 (by omega),⟨⟨rfl,rfl,rfl,rfl,rfl,rfl,rfl,rfl,rfl,rfl,rfl,rfl⟩,by omega,by omega,?_,?_,xs ++ [x],by simp,by simp; omega,o',fun i y hy=>?_⟩,by simp only []; omega⟩
    · have hsz37:=hw37.size
      exact g'.ext hw57 (o57.weak hsz37)
    · have hB:Below w37.heap.size w57 w':=⟨g'.by_.os,g'.by_.tape,g'.by_.output,g'.by_.size,fun b hb=>g'.by_.block b (by have:=f57.size; omega) fun h=>by
        cases hp:c53 with
        | none => rw [hp] at h; simp [blk] at h
        | some a => rw [hp] at h; simp [blk] at h; have:=(o57.lt a hp).1; omega⟩
      exact ⟨hB.os.trans f57.os,hB.tape.trans f57.tape,hB.output.trans f57.output,Nat.le_trans f57.size hB.size,fun b hb hn=>(hB.block b hb).trans (f57.block b hb hn)⟩
    · rcases Nat.lt_or_ge i xs.length with hi | hi
      · rw [List.getElem?_append_left hi] at hy
        exact hxs i y hy
      · rw [List.getElem?_append_right hi] at hy
        obtain ⟨hi2,hy2⟩:=List.getElem?_eq_some_iff.1 hy
        simp at hi2 hy2
        obtain rfl:i = k.toNat:=by omega
        exact ⟨pc,hpc,by rw [<- hy2]; exact hx⟩
end Go.Proofs.YtegephkpdlopaaaGreatDoor
set_option linter.unusedVariables false
set_option linter.unusedSimpArgs false
namespace Go.Proofs.YtegephkpdlopaaaGreatDoor
open Go.Sx Go.RowKit
theorem EqualI_k (l:List Int) (p q:Option Addr) (c d:Nat) (w:World) (hp:Ints .i64 w p l) (hq:Ints .i64 w q l) (h63:l.length <= 9223372036854775807):FnP Tryz.prog F_slices_Equal_int_int #[.slice p l.length c,.slice q l.length d] w fun v w'=>Ext w w'/\v = .bool true:=by
  refine ok_slices_Equal_int_int p l.length c q l.length d w _ ⟨fun h=>absurd rfl h,fun _=>?_⟩
  refine ⟨fun k w'=>w' = w/\0 <= k/\k <= l.length,fun k _=>(l.length - k).toNat,⟨rfl,by omega,by omega⟩,?_⟩
  rintro k w' ⟨rfl,hk0,hk1⟩
  refine ⟨fun hlt=>?_,fun hge w3 h3=>⟨h3,rfl⟩⟩
  have g1:=Ints.idx hp hk0 hlt
  have g2:=Ints.idx hq hk0 hlt
  exact ⟨fun h=>cell_p g1 (pIdx_none.2 h),hk0,hlt,_,g1,fun h=>cell_p g2 (pIdx_none.2 h),hk0,hlt,_,g2,fun h=>absurd rfl h,fun _=>⟨i64 (by omega),⟨rfl,by omega,by omega⟩,by simp only []; omega⟩⟩
theorem sameJ_k (j:Jb) (pa:Option Addr) (ca:Nat) (pf:Option Addr) (cf:Nat) (qa:Option Addr) (da:Nat) (qf:Option Addr) (df:Nat) (w:World) (h1:IsJ w j pa ca pf) (h2:IsJ w j qa da qf) (hW:WfJ j) :
    FnP Tryz.prog F_shiftbellkeep_sameJob #[jv j pa ca pf cf,jv j qa da qf df] w fun v w'=>Ext w w'/\v = .bool true:=by
  refine ok_shiftbellkeep_sameJob j.user j.prio j.nd.c j.nd.m j.nd.g j.ask.k j.ask.key j.ask.val j.ask.n pa j.ask.xs.length ca pf j.aft.length cf j.user j.prio j.nd.c j.nd.m j.nd.g j.ask.k j.ask.key j.ask.val j.ask.n qa j.ask.xs.length da qf j.aft.length df w _ fun b0 _ b1 _=>⟨fun _ w2 e2=>?_,fun h=>by rcases h with h | h <;> exact absurd rfl h⟩
  refine eqN_k (a:=j.nd) (b:=j.nd) ⟨Ext.refl _,_,rfl,fun _ w5 e5=>?_,fun h=>by simp at h⟩
  refine (sameA_k j.ask pa ca qa da w5 (h1.1.ext e5) (h2.1.ext e5) hW.ask).mono fun v w6 ⟨e6,hv⟩=>⟨e6,true,hv,fun _ w8 e8=>?_,fun h=>by cases h⟩
  exact (EqualI_k j.aft pf qf cf df w8 (h1.2.ext e8) (h2.2.ext e8) hW.len).mono fun v w9 ⟨e9,hv⟩=>⟨e9,true,hv,fun w11 e11=>⟨e11,rfl⟩⟩
end Go.Proofs.YtegephkpdlopaaaGreatDoor
set_option linter.unusedVariables false
set_option linter.unusedSimpArgs false
namespace Go.Proofs.YtegephkpdlopaaaGreatDoor
open Go.Sx Go.RowKit
variable {H:Type} {enc:TypeId × Value->H}
theorem mapM_get {α β:Type} {f:α->Option β}:∀ {l:List α} {r:List β},l.mapM f = some r->r.length = l.length/\∀ (i:Nat) (a:α),l[i]? = some a->∃ b,r[i]? = some b/\f a = some b
  | [],r,h => by simp at h; subst h; exact ⟨rfl,fun i a h => by simp at h⟩
  | x :: l,r,h => by
    rw [List.mapM_cons] at h
    cases hf:f x with
    | none => rw [hf] at h; simp at h
    | some b =>
      rw [hf] at h
      cases hm:l.mapM f with
      | none => rw [hm] at h; simp at h
      | some s =>
        rw [hm] at h
        simp at h
        subst h
        obtain ⟨h1,h2⟩:=mapM_get hm
        refine ⟨by simp [h1],fun i a hi=>?_⟩
        cases i with
        | zero => have:x = a:=by simpa using hi
                  subst this; exact ⟨b,rfl,hf⟩
        | succ i => obtain ⟨b',hb,hfb⟩:=h2 i a (by simpa using hi)
                    exact ⟨b',by simpa using hb,hfb⟩
theorem bulk_mem:∀ {l:List (DataW H)} {d:DataW H},d ∈ l->Rows.uptoBulk d <= Rows.uptoBulkAll l
  | x :: l,d,h => by
    rw [Rows.uptoBulkAll]
    rcases List.mem_cons.1 h with rfl | h
    · omega
    · have:=bulk_mem h; omega
theorem nodL_bulk:∀ (xs:List AT) (ds:List (DataW H)),(∀ (i:Nat) (x:AT),xs[i]? = some x->∃ d,ds[i]? = some d/\nod x <= Rows.uptoBulk d)->nodL xs <= Rows.uptoBulkAll ds
  | [],ds,_ => by simp [nodL]
  | x :: xs,[],h => by obtain ⟨d,hd,_⟩:=h 0 x rfl; simp at hd
  | x :: xs,d :: ds,h => by
    obtain ⟨d',hd,hn⟩:=h 0 x rfl
    have:d = d':=by simpa using hd
    subst this
    have:=nodL_bulk xs ds fun i y hy=>by
      obtain ⟨e,he,hn⟩:=h (i + 1) y (by simpa using hy)
      exact ⟨e,by simpa using he,hn⟩
    simp only [nodL,Rows.uptoBulkAll]; omega
theorem nod_bulk {w:World}:∀ (n:Nat) (t:AT) (p:Option Addr) (c:Nat) (d:DataW H) (ps:List MemPlace),IsT w t p c->DataW.trod enc Tryz.prog w 0 (fun _=>true) true n T_Ask (encA t p c) = some (d,ps)->nod t <= Rows.uptoBulk d:=by
  intro n
  induction n using Nat.strongRecOn with
  | _ n ih =>
  intro t p c d ps hT h
  cases n with
  | zero => cases h
  | succ n =>
    unfold DataW.trod at h
    rw [show Tryz.prog.underlying T_Ask = some (.struct (Tryz.prog.fieldsOf T_Ask)) by kernel_rfl] at h
    simp only at h
    split at h
    · rw [Option.map_eq_some_iff] at h
      obtain ⟨xs,hxs,he⟩:=h
      injection he with he _
      subst he
      have hf:((Tryz.prog.fieldsOf T_Ask).toList[4]?).map (fun f=>(f.type,f.offset)) = some (T_sl_Ask,4):=by kernel_rfl
      obtain ⟨f,hf1,hf2⟩:=Option.map_eq_some_iff.1 hf
      simp only [Prod.mk.injEq] at hf2
      obtain ⟨_,hget⟩:=mapM_get hxs
      obtain ⟨b,hb,hfb⟩:=hget 4 f hf1
      rw [hf2.1,hf2.2,show Tryz.prog.cellsOf T_sl_Ask = 1 by kernel_rfl] at hfb
      have hfb:DataW.trod enc Tryz.prog w 0 (fun _=>true) true n T_sl_Ask [.slice p t.xs.length c] = some b:=hfb
      have hmem:b.1 ∈ xs.map (·.1):=List.mem_map.2 ⟨b,List.mem_of_getElem? hb,rfl⟩
      have hle:=bulk_mem hmem
      have hb1:nodL t.xs <= Rows.uptoBulk b.1:=by
        cases n with
        | zero => cases hfb
        | succ n =>
          unfold DataW.trod at hfb
          rw [show Tryz.prog.underlying T_sl_Ask = some (.slice T_Ask) by kernel_rfl] at hfb
          cases p with
          | none =>
            cases hl:t.xs with
            | nil => simp [nodL]
            | cons x r => rw [hl] at hfb; simp at hfb
          | some a =>
            simp only at hfb
            split at hfb
            · cases hm:(List.range t.xs.length).mapM (fun i=>(w.cells? 0 (a.add (i * Tryz.prog.cellsOf T_Ask)) (Tryz.prog.cellsOf T_Ask)).bind (DataW.trod enc Tryz.prog w 0 (fun _=>true) true n T_Ask)) with
              | none => simp [hm] at hfb
              | some es =>
                rw [hm,Option.bind_some,Option.map_eq_some_iff] at hfb
                obtain ⟨rest,_,he⟩:=hfb
                obtain ⟨he,_⟩:=Prod.mk.inj he
                rw [<- he,Rows.uptoBulk]
                obtain ⟨_,hget2⟩:=mapM_get hm
                have:=nodL_bulk t.xs (es.map (·.1)) fun i x hx=>by
                  have hi:=(List.getElem?_eq_some_iff.1 hx).1
                  obtain ⟨e,he,hfe⟩:=hget2 i i (by simp [hi])
                  refine ⟨e.1,by simp [he],?_⟩
                  obtain ⟨cs,hcs,htr⟩:=Option.bind_eq_some_iff.1 hfe
                  obtain ⟨y,p',c',e1,_,hT',_,_,q0,q1,q2,q3,q4⟩:=hT.at (k:=(i:Int)) (by omega) (by omega)
                  have e1:t.xs[((i:Nat):Int).toNat]? = some y:=e1
                  rw [Int.toNat_natCast,hx] at e1
                  obtain rfl:=Option.some.inj e1
                  rw [show Tryz.prog.cellsOf T_Ask = 5 by kernel_rfl] at hcs
                  obtain ⟨hlen,hcc⟩:=cells?_some hcs
                  have hcse:cs = encA x p' c':=by
                    refine List.ext_getElem? fun j=>?_
                    have hq:∀ m u,Go.Sx.cell w (pIdx (some a) (i:Int) 5) m = some u->m < 5->cs[m]? = some u:=fun m u hu hm5=>by
                      obtain ⟨v,hv⟩:∃ v,cs[m]? = some v:=⟨_,List.getElem?_eq_getElem (by omega)⟩
                      have h1:=hcc m v hv
                      have h2:Go.Sx.cell w (pIdx (some a) (i:Int) 5) m = Go.Sx.cell w (some (a.add (i * 5))) m:=by simp [pIdx]
                      rw [h2,h1] at hu
                      rw [hv,Option.some.inj hu]
                    match j with
                    | 0 => exact hq 0 _ q0 (by omega)
                    | 1 => exact hq 1 _ q1 (by omega)
                    | 2 => exact hq 2 _ q2 (by omega)
                    | 3 => exact hq 3 _ q3 (by omega)
                    | 4 => exact hq 4 _ q4 (by omega)
                    | j + 5 => rw [List.getElem?_eq_none (by omega)]; rfl
                  rw [hcse] at htr
                  exact ih n (by omega) x p' c' e.1 e.2 hT' htr
                omega
            · cases hfb
      have hn:nod t = 1 + nodL t.xs:=by cases t; rfl
      rw [Rows.uptoBulk,hn]
      omega
    · cases h
end Go.Proofs.YtegephkpdlopaaaGreatDoor
set_option linter.unusedVariables false
set_option linter.unusedSimpArgs false
namespace Go.Proofs.YtegephkpdlopaaaGreatDoor
open Go.Sx Go.RowKit Go.ChangeShapes Go.WideShapes Go.ChangeAt
section
variable {P:Program} {H:Type} {enc:TypeId × Value->H}
theorem handed_upto {a:Assume} {C:Checked} {os:Os} {f:FuncId} {fn:Func} {s:ChangeSpec} {conds:List PathCond} {apart fresh handsOn again:Bool} {X:World->Array Value->Prop}
    (hX:∀ (w w':World) (args:Array Value),w.heap = w'.heap->X w args->X w' args)
    (own:ownKnob C.prog.godebug = none) (started:os.Started) (noInit:C.prog.inits.idxOf? f = none) (hfn:C.prog.funcs[f]? = some fn)
    (witness:∃ (w:World) (tape:Tape) (i:Input),w.os = os/\(w.forCall tape i).Shaped C.prog/\i.vars = []/\Input.okWide C.prog (w.forCall tape i) .any w.heap.size f i /\
      (((Rows.OpenSpec.upto s).pre enc C.prog fn conds apart (w.forCall tape i).memory i.args/\X (w.forCall tape i).memory i.args)/\sizedMet enc C.prog fn (Rows.OpenSpec.upto s) apart (w.forCall tape i).memory i.args)/\a.holds C.prog (lone (Frame.enter C.prog f i.args .normal) [] (w.forCall tape i)))
    (contract:∀ (W:World) (base:Nat) (args:Array Value) (ds gs:List (DataW H)) (before:List MemPlace),
      (∀ (j:Nat) t v,fn.params[j]? = some t->args[j]? = some v->Value.okWide C.prog W .any base t v) ->
      DataW.Whole enc C.prog fn.params.toList s.vars apart W args.toList ds gs before ->
      Rows.uptoBulkAll (ds ++ gs) <= 1048576->X W args->W.ShapedOpen C.prog ->
      Calls C.prog f args W fun e W'=>∃ v,e = .returned v/\s.post enc C.prog fn apart fresh handsOn again W args v W') :
    ReturnsInHanded a C os f .any (fun w args=>((Rows.OpenSpec.upto s).pre enc C.prog fn conds apart w args/\X w args)/\sizedMet enc C.prog fn (Rows.OpenSpec.upto s) apart w args) (s.post enc C.prog fn apart fresh handsOn again):=by
  refine returnsInHanded_of_calls own started noInit witness ?_
  intro w tape i _ hsh _ hok hpre hholds
  obtain ⟨_,_,_,fn',hfn',_,_,_,_,hval⟩:=hok
  have e:fn' = fn:=Option.some.inj (hfn'.symm.trans hfn)
  subst e
  obtain ⟨⟨hp0,hx⟩,hz⟩:=hpre
  obtain ⟨ds,gs,before,hw,hc,hk⟩:=(OpenSpec.pre_some (k:=Rows.uptoSmall) rfl conds apart _ _).1 hp0
  refine (contract (w.forCall tape i) w.heap.size i.args ds gs before hval (DataW.Whole.of_heap (w':=w.forCall tape i) (by rfl) hw) (of_decide_eq_true hk) (hX _ _ _ (by rfl) hx) hsh).mono fun e W' ⟨v,he,hp⟩=>?_
  subst he
  exact ChangeSpec.post_blind hp
theorem witness_upto {C:Checked} {os:Os} {f:FuncId} {fn:Func} {s:ChangeSpec} {conds:List PathCond} {apart:Bool} {X:World->Array Value->Prop} (modest:Bool) (w0:World) (args:Array Value) (fuel:Nat) (hos:w0.os = os)
    (hsh:(w0.forCall (fun _ _=>0) ⟨#[],args,[]⟩).Shaped C.prog)
    (hok:Input.okWideB C.prog (w0.forCall (fun _ _=>0) ⟨#[],args,[]⟩) f ⟨#[],args,[]⟩ = true)
    (hpre:(DataW.whole enc C.prog (w0.forCall (fun _ _=>0) ⟨#[],args,[]⟩).memory fn.params.toList s.vars apart args.toList fuel).any
      (fun x=>conds.all (PathCond.test C.prog ⟨fn.params.toList,x.1,s.plain.varTypes C.prog,x.2.1⟩) && Rows.uptoSmall H (x.1 ++ x.2.1)) = true)
    (hsz:s.sizedB enc C.prog fn apart (w0.forCall (fun _ _=>0) ⟨#[],args,[]⟩).memory args fuel = true)
    (hx:X (w0.forCall (fun _ _=>0) ⟨#[],args,[]⟩).memory args) :
    ∃ (w:World) (tape:Tape) (i:Input),w.os = os/\(w.forCall tape i).Shaped C.prog/\i.vars = []/\Input.okWide C.prog (w.forCall tape i) .any w.heap.size f i /\
      (((Rows.OpenSpec.upto s).pre enc C.prog fn conds apart (w.forCall tape i).memory i.args/\X (w.forCall tape i).memory i.args)/\sizedMet enc C.prog fn (Rows.OpenSpec.upto s) apart (w.forCall tape i).memory i.args)/\({ modest:=modest }:Assume).holds C.prog (lone (Frame.enter C.prog f i.args .normal) [] (w.forCall tape i)) :=
  by
  obtain ⟨x,hx1,hx2⟩:∃ x,DataW.whole enc C.prog (w0.forCall (fun _ _=>0) ⟨#[],args,[]⟩).memory fn.params.toList s.vars apart args.toList fuel = some x /\
      (conds.all (PathCond.test C.prog ⟨fn.params.toList,x.1,s.plain.varTypes C.prog,x.2.1⟩) && Rows.uptoSmall H (x.1 ++ x.2.1)) = true:=by
    cases hw:DataW.whole enc C.prog (w0.forCall (fun _ _=>0) ⟨#[],args,[]⟩).memory fn.params.toList s.vars apart args.toList fuel with
    | none => rw [hw] at hpre; cases hpre
    | some x => rw [hw] at hpre; exact ⟨x,rfl,hpre⟩
  rw [Bool.and_eq_true] at hx2
  exact ⟨w0,fun _ _=>0,⟨#[],args,[]⟩,hos,hsh,(Input.okWide_of_okWideB (base:=0) hok).1,(Input.okWide_of_okWideB hok).2,
    ⟨⟨(OpenSpec.pre_some (k:=Rows.uptoSmall) rfl conds apart _ _).2 ⟨x.1,x.2.1,x.2.2,DataW.Whole_of_whole hx1,hx2.1,hx2.2⟩,hx⟩,sizedMet_of_sizedB hsz⟩,by
    simp only [Assume.holds]
    exact ⟨by simp,by simp,fun _=>Modest.zero,by simp,by simp⟩⟩
end
end Go.Proofs.YtegephkpdlopaaaGreatDoor
