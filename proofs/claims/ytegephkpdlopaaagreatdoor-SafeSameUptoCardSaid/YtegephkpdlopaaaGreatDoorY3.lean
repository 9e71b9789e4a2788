/- The framework, the program's texts and what is shown of them: part 3. -/
import Derived.Test.YtegephkpdlopaaaGreatDoorY2
import Derived.WalkKit
import Derived.ProofKit
import Derived.OpenShut
import Derived.JoinedCond
import Derived.Laws.AppendOwn
import Derived.Laws.OwnMore
import Derived.Great.BuildSlice
import Derived.Laws.StructEq
import Derived.LaidLaws
import Derived.LaidHandle
import Derived.LaidMore
import Derived.SevenTiedAt
import Derived.JoinedOf
import Derived.FnData
import Derived.Test.YtegephkpdlopaaaGreatDoorRows
set_option linter.unusedVariables false
set_option linter.unusedSimpArgs false
namespace Go.Sx
open RowKit
variable {P:Program} {Q:Value->World->Prop}
def toExit:Ex->Exit
  | .normal => .normal
  | .exit id => .exit id
  | .ret => .ret
theorem keys_spreadS:∀ (sl:List (Nat × Bool × Nat)) (cs:List (Sc (sem P Q))),keysOf (spreadS sl cs).1 = keysOf sl
  | [],cs => rfl
  | (i,agg,n) :: r,cs => by
    have ih:=keys_spreadS r (dropCells n cs)
    cases agg <;> cases cs <;> simp only [spreadS,keysOf,List.map_cons] at ih ⊢ <;> rw [<- ih]
theorem least {p:Nat->Prop} (h:∃ n,p n):∃ n,p n/\∀ k,p k->n <= k:=by
  obtain ⟨n,hn⟩:=h
  induction n using Nat.strongRecOn with
  | _ n ih =>
    by_cases hl:∃ k,k < n/\p k
    · obtain ⟨k,hk,hp⟩:=hl; exact ih k hk hp
    · exact ⟨n,hn,fun k hk=>Nat.le_of_not_lt fun hlt=>hl ⟨k,hlt,hk⟩⟩
noncomputable def leastOf (p:Nat->Prop):Nat:=by
  classical exact if h:∃ n,p n then Classical.choose (least h) else 0
theorem leastOf_spec {p:Nat->Prop} (h:∃ n,p n):p (leastOf p)/\∀ k,p k->leastOf p <= k:=by
  have:leastOf p = Classical.choose (least h):=by unfold leastOf; simp [h]
  rw [this]; exact Classical.choose_spec (least h)
section
variable {cfg:Cfg} {ro:Ro (sem P Q)} {st st':St (sem P Q)} {a a':Act} {w w':World}
theorem gatherB_has:∀ {bl:List (Nat × Nat)} {l:List (Sc (sem P Q))},gatherB ro st bl = some l->∀ j n,(j,n) ∈ bl->∃ b,ro.blk st j = some b
  | [],l,_,j,n,h => by cases h
  | (i,m) :: r,l,h,j,n,hm => by
    unfold gatherB at h
    split at h
    · rename_i b2 l' hb2 hr
      rcases List.mem_cons.1 hm with hm | hm
      · obtain ⟨rfl,rfl⟩:=Prod.mk.inj hm; exact ⟨b2,hb2⟩
      · exact gatherB_has hr j n hm
    · cases h
theorem exit_blk (hw:RelW ro st w) (j:Nat):ro.blk (loopExit st st') j = (loopRo cfg ro st).blk st' j:=by
  unfold Ro.blk
  rw [look_loopRo_bl hw]
  unfold loopExit
  simp only [look_append,look_filter (fun i=>!memN (keysOf st'.bl) i)]
  cases hl:look st'.bl j with
  | some b => rfl
  | none =>
    have:memN (keysOf st'.bl) j = false:=by
      cases hm:memN (keysOf st'.bl) j
      · rfl
      · exact absurd ((memN_iff _ _).1 hm) (look_none.1 hl)
    simp only [this,Bool.not_false,if_true]
    unfold Ro.blk
    split <;> rfl
theorem exit_get {i:Nat} {e:Ent (sem P Q)} (hc0:RelC cfg ro st a) (h:ro.get (loopExit st st') i = some e) :
    (loopRo cfg ro st).get st' i = some e\/(¬ i < cfg.N/\ro.get st i = some e):=by
  have hcase:look st'.ov i = some (some e)\/(look st'.ov i = none/\ro.get st i = some e):=by
    unfold Ro.get loopExit at h
    simp only [look_append,look_filter (fun i=>!memN (keysOf st'.ov) i)] at h
    cases hl:look st'.ov i with
    | some x => rw [hl] at h; simp only at h; exact .inl (by rw [h])
    | none =>
      rw [hl] at h
      have:memN (keysOf st'.ov) i = false:=by
        cases hm:memN (keysOf st'.ov) i
        · rfl
        · exact absurd ((memN_iff _ _).1 hm) (look_none.1 hl)
      simp only [this,Bool.not_false,if_true] at h
      refine .inr ⟨rfl,?_⟩
      unfold Ro.get
      exact h
  rcases hcase with hl | ⟨hl,hg⟩
  · refine .inl ?_
    unfold Ro.get; rw [hl]
  · by_cases hi:i < cfg.N
    · refine .inl ?_
      unfold Ro.get; rw [hl]
      obtain ⟨v,key⟩:=e
      have hk:=(hc0.fr i _ hg).1
      simp only at hk
      subst hk
      simp only
      rw [look_loopRo_sl.2 ⟨hi,hg⟩]; rfl
    · exact .inr ⟨hi,hg⟩
theorem out_undef {i:Nat} (hs:a.tmps.size = cfg.N) (hi:¬ i < cfg.N):a.tmps.getD i undef = undef:=by
  unfold Array.getD; rw [dif_neg (by omega)]
theorem exit_ok (hc0:RelC cfg ro st a) (hs0:SlAll ro st) (hw0:RelW ro st w) (hc:RelC cfg (loopRo cfg ro st) st' a') (hs:SlAll (loopRo cfg ro st) st') (hw:RelW (loopRo cfg ro st) st' w') :
    RelC cfg ro (loopExit st st') a'/\SlAll ro (loopExit st st')/\RelW ro (loopExit st st') w':=by
  have hb:∀ j,ro.blk (loopExit st st') j = (loopRo cfg ro st).blk st' j:=exit_blk hw0
  refine ⟨⟨hc.size,hc.defers,fun i e he=>?_⟩,fun i e he=>?_,?_⟩
  · rcases exit_get hc0 he with h | ⟨hi,h⟩
    · exact hc.fr i e h
    · obtain ⟨h1,h2⟩:=hc0.fr i e h
      refine ⟨h1,?_⟩
      rw [<- h2,out_undef hc.size hi,out_undef hc0.size hi]
  · have key:∀ u,SlOk (loopRo cfg ro st) st' u->SlOk ro (loopExit st st') u:=by
      intro u hu
      cases u with
      | one v =>
        cases v with
        | agg l => exact hu
        | sc x =>
          cases x with
          | loc j n off => exact ⟨hu.1,fun b hbb => hu.2 b (by rw [<- hb]; exact hbb)⟩
          | _ => trivial
      | tup l => exact hu
      | undef => trivial
    rcases exit_get hc0 he with h | ⟨hi,h⟩
    · exact key _ (hs i e h)
    · obtain ⟨h1,h2⟩:=hc0.fr i e h
      rw [out_undef hc0.size hi] at h2
      have h3:=hs0 i e h
      revert h2 h3
      generalize e.1 = u
      intro h2 h3
      cases u with
      | one v =>
        cases v with
        | agg l => exact h3
        | sc x =>
          cases x with
          | loc j n off => exact absurd h2 (by simp [SL.toV,SV.toV,Sc.toV,undef])
          | _ => trivial
      | tup l => exact h3
      | undef => trivial
  · have hdn:ro.dn (loopExit st st') = (loopRo cfg ro st).dn st':=by
      unfold Ro.dn
      have:(loopExit st st').dirty = st'.dirty:=rfl
      rw [this]; congr 1; funext j; rw [hb]
    refine ⟨by rw [hdn]; exact hw.but,fun j b h=>hw.bk j b (by rw [<- hb]; exact h),fun j b h=>hw.lt j b (by rw [<- hb]; exact h),
      fun i j b c h1 h2=>hw.ord i j b c (by rw [<- hb]; exact h1) (by rw [<- hb]; exact h2),fun j b h=>hw.ax j b (by rw [<- hb]; exact h),fun j b h=>hw.nol j b (by rw [<- hb]; exact h),fun j b b0 h0 h=>?_⟩
    have h1:∃ b1,ro.blk st j = some b1:=by
      unfold Ro.blk
      cases hl:look st.bl j with
      | some x => exact ⟨x,rfl⟩
      | none => exact ⟨b0,h0⟩
    obtain ⟨b1,h1⟩:=h1
    obtain ⟨e1,e2⟩:=hw0.same j b1 b0 h0 h1
    obtain ⟨e3,e4⟩:=hw.same j b b1 (by rw [look_loopRo_bl hw0]; exact h1) (by rw [<- hb]; exact h)
    exact ⟨by rw [e3,e1],by rw [e4,e2]⟩
theorem back_ok {hv:Hv} {body:Code} {cs:List (Sc (sem P Q))} {wa:World} {shs:List Sh} {vs:List At} (hc0:RelC cfg ro st a) (hs0:SlAll ro st) (hw0:RelW ro st w) (hex:∀ j n,(j,n) ∈ hv.blocks->∃ b,ro.blk st j = some b)
    (h:loopBack hv st (loopHead ro st hv body cs wa) shs (loopRo cfg ro st) st' = some vs)
    (hc:RelC cfg (loopRo cfg ro st) st' a') (hs:SlAll (loopRo cfg ro st) st') (hw:RelW (loopRo cfg ro st) st' w') :
    ∃ cs',Fits shs vs/\ofAtoms shs vs = some cs'/\HeadOk cfg ro st hv body cs' st'.anchor a' w':=by
  unfold loopBack at h
  simp only [Option.bind_eq_some_iff,cond_eq_ite] at h
  obtain ⟨l,hl,al,hal,h⟩:=h
  split at h
  · rename_i hchk
    obtain rfl:=Option.some.inj h
    simp only [Bool.and_eq_true,List.all_eq_true,Bool.or_eq_true] at hchk
    obtain ⟨⟨⟨k1,k2⟩,k3⟩,k4⟩:=hchk
    have k1:=shEqs_eq k1
    subst k1
    obtain ⟨cs',e1,e2,e3,e4⟩:=atoms_of hal
    have hkeys:∀ cs₂ wa₂,keysOf (loopHead ro st hv body cs₂ wa₂).ov = keysOf (loopHead ro st hv body cs wa).ov:=by
      intro cs₂ wa₂
      have:∀ c,keysOf (spreadS hv.slots c).1 = keysOf hv.slots:=keys_spreadS (P:=P) (Q:=Q) hv.slots
      unfold loopHead loopOv
      simp only [keysOf,List.map_append] at this ⊢
      rw [this,this]
    have hnot:∀ j,j < st.nx->j ∉ keysOf hv.blocks->look st'.bl j = none:=by
      intro j hj hn
      rw [look_none]
      intro hm
      simp only [keysOf,List.mem_map] at hm
      obtain ⟨x,hx,rfl⟩:=hm
      rcases k2 x hx with h | h
      · exact absurd (Nat.le_of_ble_eq_true h) (by omega)
      · exact hn ((memN_iff _ _).1 h)
    refine ⟨cs',e4,e1,headOk (ro2:=loopRo cfg ro st) (st2:=st') hw0 hs0 hl e2 e3 hc hw ?_ hex ?_ ?_ hw.but ?_ ?_⟩
    · intro i v hi hg hN
      rw [hkeys] at hi
      have hn:look st'.ov i = none:=by
        rw [look_none]
        intro hm
        simp only [keysOf,List.mem_map] at hm
        obtain ⟨x,hx,rfl⟩:=hm
        exact hi ((memN_iff _ _).1 (k3 x hx))
      exact (hc.fr i (v,none) (by unfold Ro.get; rw [hn]; simp only; rw [look_loopRo_sl.2 ⟨hN,hg⟩]; rfl)).2
    · intro j b b2 h1 h2
      exact hw.same j b2 b (by rw [look_loopRo_bl hw0]; exact h1) h2
    · intro j b hj hb
      unfold Ro.blk
      rw [hnot j (hw0.lt j b hb) hj]
      simp only
      rw [look_loopRo_bl hw0]; exact hb
    · intro j hj
      exact (memN_iff _ _).1 (k4 j hj).1
    · intro j b2 hj hb2
      have hlt:j < st.nx:=by have:=(k4 j hj).2; simp [Nat.blt] at this; omega
      by_cases hk:j ∈ keysOf hv.blocks
      · simp only [keysOf,List.mem_map] at hk
        obtain ⟨x,hx,rfl⟩:=hk
        exact hex x.1 x.2 hx
      · unfold Ro.blk at hb2
        rw [hnot j hlt hk] at hb2
        simp only at hb2
        rw [look_loopRo_bl hw0] at hb2
        exact ⟨b2,hb2⟩
  · cases h
theorem entry_ok {hv:Hv} {body:Code} {al:List (Sh × At)} (hc:RelC cfg ro st a) (hs:SlAll ro st) (hw:RelW ro st w) (h:(gather ro st hv).bind atomsOf = some al) :
    ∃ cs l0,gather ro st hv = some l0/\Fits (al.map (·.1)) (al.map (·.2))/\ofAtoms (al.map (·.1)) (al.map (·.2)) = some cs/\HeadOk cfg ro st hv body cs st.anchor a w:=by
  simp only [Option.bind_eq_some_iff] at h
  obtain ⟨l,hl,hal⟩:=h
  obtain ⟨cs,e1,e2,e3,e4⟩:=atoms_of hal
  have hex:∀ j n,(j,n) ∈ hv.blocks->∃ b,ro.blk st j = some b:=by
    have hg0:=hl
    unfold gather at hg0
    simp only [Option.bind_eq_some_iff,Option.map_eq_some_iff] at hg0
    obtain ⟨ss,_,bs,hbs,_⟩:=hg0
    exact gatherB_has hbs
  refine ⟨cs,l,hl,e4,e1,headOk (ro2:=ro) (st2:=st) hw hs hl e2 e3 hc hw ?_ hex ?_ ?_ hw.but ?_ ?_⟩
  · intro i v _ hg _
    exact (hc.fr i _ hg).2
  · intro j b b2 h1 h2
    rw [h1] at h2; obtain rfl:=Option.some.inj h2; exact ⟨rfl,rfl⟩
  · intro j b _ hb; exact hb
  · intro j hj; unfold loopDirty; exact List.mem_append_right _ hj
  · intro j b2 _ hb2; exact ⟨b2,hb2⟩
end
theorem gather_has {ro:Ro (sem P Q)} {st:St (sem P Q)} {hv:Hv} {l0:List (Sc (sem P Q))} (hg0:gather ro st hv = some l0):∀ j n,(j,n) ∈ hv.blocks->∃ b,ro.blk st j = some b:=by
  unfold gather at hg0
  simp only [Option.bind_eq_some_iff,Option.map_eq_some_iff] at hg0
  obtain ⟨ss,_,bs,hbs,_⟩:=hg0
  exact gatherB_has hbs
theorem fits_len:∀ {shs:List Sh} {l:List At},Fits shs l->shs.length = l.length
  | [],[],_ => rfl
  | .int _ :: r,.int _ :: l,h | .bool :: r,.bool _ :: l,h | .str :: r,.str _ :: l,h | .slc :: r,.slc _ _ _ :: l,h | .ptr :: r,.ptr _ :: l,h | .val :: r,.val _ :: l,h => by
    simp only [Fits] at h
    simp [fits_len h]
  | .bool :: _,.int _ :: _,hf | .bool :: _,.str _ :: _,hf | .bool :: _,.slc _ _ _ :: _,hf | .bool :: _,.ptr _ :: _,hf | .bool :: _,.val _ :: _,hf => hf.elim
  | .int _ :: _,.bool _ :: _,hf | .int _ :: _,.str _ :: _,hf | .int _ :: _,.slc _ _ _ :: _,hf | .int _ :: _,.ptr _ :: _,hf | .int _ :: _,.val _ :: _,hf => hf.elim
  | .str :: _,.int _ :: _,hf | .str :: _,.bool _ :: _,hf | .str :: _,.slc _ _ _ :: _,hf | .str :: _,.ptr _ :: _,hf | .str :: _,.val _ :: _,hf => hf.elim
  | .slc :: _,.int _ :: _,hf | .slc :: _,.str _ :: _,hf | .slc :: _,.bool _ :: _,hf | .slc :: _,.ptr _ :: _,hf | .slc :: _,.val _ :: _,hf => hf.elim
  | .ptr :: _,.int _ :: _,hf | .ptr :: _,.str _ :: _,hf | .ptr :: _,.slc _ _ _ :: _,hf | .ptr :: _,.bool _ :: _,hf | .ptr :: _,.val _ :: _,hf => hf.elim
  | .val :: _,.int _ :: _,hf | .val :: _,.str _ :: _,hf | .val :: _,.slc _ _ _ :: _,hf | .val :: _,.ptr _ :: _,hf | .val :: _,.bool _ :: _,hf => hf.elim
  | [],_ :: _,hf => hf.elim
  | .int _ :: _,[],hf | .bool :: _,[],hf | .str :: _,[],hf | .slc :: _,[],hf | .ptr :: _,[],hf | .val :: _,[],hf => hf.elim
theorem appT_len {w:World}:∀ {shs:List Sh} {I:InvT shs Prop} {l:List At},appT False shs I l w->shs.length = l.length
  | [],I,[],_ => rfl
  | .int _ :: r,I,.int _ :: l,h => by simp only [appT] at h; simp [appT_len h]
  | .bool :: r,I,.bool _ :: l,h => by simp only [appT] at h; simp [appT_len h]
  | .str :: r,I,.str _ :: l,h => by simp only [appT] at h; simp [appT_len h]
  | .slc :: r,I,.slc _ _ _ :: l,h => by simp only [appT] at h; simp [appT_len h]
  | .ptr :: r,I,.ptr _ :: l,h => by simp only [appT] at h; simp [appT_len h]
  | .val :: r,I,.val _ :: l,h => by simp only [appT] at h; simp [appT_len h]
  | .bool :: _,_,.int _ :: _,hf | .bool :: _,_,.str _ :: _,hf | .bool :: _,_,.slc _ _ _ :: _,hf | .bool :: _,_,.ptr _ :: _,hf | .bool :: _,_,.val _ :: _,hf => hf.elim
  | .int _ :: _,_,.bool _ :: _,hf | .int _ :: _,_,.str _ :: _,hf | .int _ :: _,_,.slc _ _ _ :: _,hf | .int _ :: _,_,.ptr _ :: _,hf | .int _ :: _,_,.val _ :: _,hf => hf.elim
  | .str :: _,_,.int _ :: _,hf | .str :: _,_,.bool _ :: _,hf | .str :: _,_,.slc _ _ _ :: _,hf | .str :: _,_,.ptr _ :: _,hf | .str :: _,_,.val _ :: _,hf => hf.elim
  | .slc :: _,_,.int _ :: _,hf | .slc :: _,_,.str _ :: _,hf | .slc :: _,_,.bool _ :: _,hf | .slc :: _,_,.ptr _ :: _,hf | .slc :: _,_,.val _ :: _,hf => hf.elim
  | .ptr :: _,_,.int _ :: _,hf | .ptr :: _,_,.str _ :: _,hf | .ptr :: _,_,.slc _ _ _ :: _,hf | .ptr :: _,_,.bool _ :: _,hf | .ptr :: _,_,.val _ :: _,hf => hf.elim
  | .val :: _,_,.int _ :: _,hf | .val :: _,_,.str _ :: _,hf | .val :: _,_,.slc _ _ _ :: _,hf | .val :: _,_,.ptr _ :: _,hf | .val :: _,_,.bool _ :: _,hf => hf.elim
  | [],_,_ :: _,hf => hf.elim
  | .int _ :: _,_,[],hf | .bool :: _,_,[],hf | .str :: _,_,[],hf | .slc :: _,_,[],hf | .ptr :: _,_,[],hf | .val :: _,_,[],hf => hf.elim
theorem loop_elim {shs:List (String × Sh)} {init:List At} {w:World} {body:(List At->World->Prop)->List At->World->Prop} (h:(sem P Q).loop shs init w body) :
    ∃ shs':List Sh,shs' = shs.map (·.2)/\∃ (I:InvT shs' Prop) (M:InvT shs' Nat),appT False shs' I init w /\
      allT shs' fun vs=>∀ w':World,appT False shs' I vs w'->body (fun vs' w''=>appT False shs' I vs' w''/\appT 0 shs' M vs' w'' < appT 0 shs' M vs w') vs w':=⟨_,rfl,h⟩
theorem join_elim {shs:List (String × Sh)} {br:(List At->World->Prop)->Prop} {body:List At->World->Prop} (h:(sem P Q).join shs br body) :
    ∃ shs':List Sh,shs' = shs.map (·.2)/\∃ (I:InvT shs' Prop),br (fun vs w=>appT False shs' I vs w)/\allT shs' fun vs=>∀ w':World,appT False shs' I vs w'->body vs w':=⟨_,rfl,h⟩
theorem zip_snd {α:Type} {names:List α} {shs l:List Sh} (h:l = (List.zip names shs).map (·.2)) (hl:l.length = shs.length):l = shs:=by
  subst h
  induction shs generalizing names with
  | nil => simp
  | cons s r ih =>
    cases names with
    | nil => simp at hl
    | cons n ns =>
      simp only [List.zip_cons_cons,List.map_cons,List.length_cons,Nat.add_right_cancel_iff] at hl ⊢
      rw [ih hl]
theorem canO_text {ops:Array Oper} {kd:Oper->Kd} {Qx:Exit->Act->World->Prop}:∀ (l:List Nat) (C:World->Prop) (a:Act) (w:World),CanO P ops kd (Qx .normal) (.chain l) C a->C w->wpOps P ops Qx l a w
  | [],C,a,w,h,hw => h w hw
  | i :: l,C,a,w,h,hw => by
    simp only [DT.chain,CanO] at h
    simp only [wpOps]
    split at h
    · rename_i ho
      simp only [ho]
      exact canO_text l C a w h hw
    · rename_i o ho
      simp only [ho]
      split at h
      · rename_i hwant
        rw [if_pos hwant]
        refine .inl ?_
        rcases h with ⟨v,hv,hc⟩ | ⟨_,h⟩
        · have hg:=hv w (.inr hw)
          unfold Gives at hg
          unfold Oper.wp
          rw [hg]
          exact canO_text l C _ w hc hw
        · refine Oper.wp_mono (fun a' w' hk=>?_) (wp_noEx (h w hw))
          obtain ⟨v,_,C',hC',_,hc⟩:=hk
          exact canO_text l C' a' w' hc hC'
      · rename_i hwant
        rw [if_neg hwant]
        exact canO_text l C _ w h hw
theorem drawT_some {cfg:Cfg} {ops:Array Oper} {t:DT} (h:drawT P cfg ops = some t):P.follows .mixedOrders = true/\(∀ (j:Nat) (o:Oper) cs b,ops[j]? = some o->o.op ≠ .select cs b)/\(∀ (j:Nat) (o:Oper),ops[j]? = some o->∀ e ∈ o.after,e.on < ops.size)/\okD .any ops (kdD P cfg true) ops.size false t (List.range ops.size) = true:=by
  unfold drawT at h
  simp only [cond_eq_ite] at h
  split at h
  · rename_i hc
    obtain rfl:=Option.some.inj h
    simp only [Bool.and_eq_true,List.all_eq_true] at hc
    obtain ⟨⟨⟨h1,h2⟩,h3⟩,h4⟩:=hc
    refine ⟨h1,Region.noSelect_spec h2,fun j o ho e he=>?_,h4⟩
    have:=h3 o (by have:=(Array.getElem?_eq_some_iff.1 ho); obtain ⟨hl,hv⟩:=this; rw [<- hv]; simp) e (by simpa using he)
    simp [Nat.blt] at this; omega
  · cases h
theorem lst_range {md:Region.Mode} {ops:Array Oper}:Lst md ops (List.range ops.size) (Array.replicate ops.size false):=by
  refine ⟨by simp,fun k hk=>?_,fun k hk=>List.mem_range.1 hk,fun k o ho hn=>?_⟩
  · simp [Array.getD,hk]
  · exact absurd (List.mem_range.2 (Array.getElem?_eq_some_iff.1 ho).1) hn
theorem relW_drawn {ro:Ro (sem P Q)} {st:St (sem P Q)} {w:World} {n:Nat} (hw:RelW ro st w):RelW ro st { w with drawn:=n } :=
  ⟨⟨hw.but.os,hw.but.tape,hw.but.output,hw.but.size,hw.but.block⟩,hw.bk,hw.lt,hw.ord,hw.ax,hw.nol,hw.same⟩
theorem sx_ok {cfg:Cfg}:∀ (c:Code) (ro:Ro (sem P Q)) (st:St (sem P Q)) (k:Ex->St (sem P Q)->Prop) (Qx:Exit->Act->World->Prop) (a:Act) (w:World),sx (A:=sem P Q) P cfg c ro st k->RelC cfg ro st a->SlAll ro st->RelW ro st w ->
    (∀ e st' a' w',k e st'->RelC cfg ro st' a'->SlAll ro st'->RelW ro st' w'->Qx (toExit e) a' w')->c.wp P Qx a w:=by
  intro c
  induction c with
  | skip => exact fun ro st k Qx a w h hc hs hw hk => wp_skip (hk .normal st a w h hc hs hw)
  | label _ => exact fun ro st k Qx a w h hc hs hw hk => wp_label (hk .normal st a w h hc hs hw)
  | exit id => exact fun ro st k Qx a w h hc hs hw hk => wp_exit (hk (.exit id) st a w h hc hs hw)
  | ret => exact fun ro st k Qx a w h hc hs hw hk => wp_ret (hk .ret st a w h hc hs hw)
  | seq x y ihx ihy =>
    intro ro st k Qx a w h hc hs hw hk
    refine wp_seq (ihx ro st _ _ a w h hc hs hw ?_)
    intro e st' a' w' h' hc' hs' hw'
    cases e with
    | normal => exact ihy ro st' k Qx a' w' h' hc' hs' hw' hk
    | exit id => exact hk (.exit id) st' a' w' h' hc' hs' hw'
    | ret => exact hk .ret st' a' w' h' hc' hs' hw'
  | cond b x y ihx ihy =>
    intro ro st k Qx a w h hc hs hw hk
    unfold sx at h
    split at h
    · rename_i t ht
      have hev:a.eval b = .bool t.den:=by
        have:=rd_ok (ops:=#[]) (cur:=none) hc.relF (fun c hc=>by cases hc) b _ (sc?_some ht)
        simpa [SL.toV,SV.toV,Sc.toV] using this
      split at h
      · exact wp_cond hev (by simp only [BE.den]; exact ihx ro st k Qx a w h hc hs hw hk)
      · exact wp_cond hev (by simp only [BE.den]; exact ihy ro st k Qx a w h hc hs hw hk)
      · obtain ⟨h1,h2⟩:=h
        refine wp_cond_split hev (fun hd=>?_) (fun hd=>?_)
        · exact ihx ro st k Qx a w (h1 (by rw [prop_iff,hd])) hc hs hw hk
        · exact ihy ro st k Qx a w (h2 (by rw [prop_iff,den_neg,hd]; rfl)) hc hs hw hk
    · exact h.elim
  | block id x ih =>
    intro ro st k Qx a w h hc hs hw hk
    unfold sx at h
    split at h
    · refine wp_block (ih ro st _ _ a w h hc hs hw ?_)
      intro e st' a' w' h' hc' hs' hw'
      cases e with
      | normal => exact hk .normal st' a' w' h' hc' hs' hw'
      | exit i =>
        simp only [blockK,cond_eq_ite] at h'
        simp only [toExit,Exit.inBlock]
        split at h'
        · rename_i hi
          have hi:=Nat.eq_of_beq_eq_true hi
          rw [if_pos hi]; exact hk .normal st' a' w' h' hc' hs' hw'
        · rename_i hi
          have hi:¬ i = id:=fun he=>hi (by rw [he]; exact Nat.beq_refl _)
          rw [if_neg hi]; exact hk (.exit i) st' a' w' h' hc' hs' hw'
      | ret => exact hk .ret st' a' w' h' hc' hs' hw'
    · rename_i l hl
      simp only [cond_eq_ite] at h
      split at h
      · exact h.elim
      · rename_i hchk
        simp only [Bool.not_eq_true',Bool.not_eq_false,Bool.and_eq_true,List.all_eq_true] at hchk
        generalize hhv:hvBlock (A:=sem P Q) P ro st l (opsOf x) = hv at h hchk
        generalize hshs:hvShs (A:=sem P Q) P ro st hv (opsOf x).toArray = shs at h
        obtain ⟨shs',hz,I,hbr,hbody⟩:=join_elim (P:=P) (Q:=Q) (shs:=List.zip (hvNames cfg hv) shs)
          (br:=fun leave=>sx (A:=sem P Q) P cfg x (loopRo cfg ro st) (loopHead ro st ⟨[],[]⟩ .skip [] st.anchor) (blockJ (A:=sem P Q) cfg ro st hv x shs id leave k))
          (body:=fun vars w=>orFail (A:=sem P Q) (fun cs=>k .normal (loopExit st (loopHead ro st hv x cs w))) (ofAtoms shs vars)) h
        have hex:∀ j n,(j,n) ∈ hv.blocks->∃ b,ro.blk st j = some b:=fun j n hm=>by
          have:=hchk.2 (j,n) hm
          cases hb:ro.blk st j with
          | some b => exact ⟨b,rfl⟩
          | none => simp [hb] at this
        obtain ⟨cs0,l0,hg0,hf0,ho0,hh0⟩:=entry_ok (hv:=⟨[],[]⟩) (body:=.skip) (al:=[]) hc hs hw rfl
        have hcs0:cs0 = []:=by
          have:ofAtoms (A:=sem P Q) [] [] = some cs0:=ho0
          simp [ofAtoms] at this; exact this
        subst hcs0
        have hjoin : ∀ (st' : St (sem P Q)) (a' : Act) (w' : World), joinK (A := sem P Q) cfg ro st hv x shs "block back" (fun vs w => appT False shs' I vs w) st' -> RelC cfg (loopRo cfg ro st) st' a' -> SlAll (loopRo cfg ro st) st' -> RelW (loopRo cfg ro st) st' w' -> Qx .normal a' w' := by
          intro st' a' w' h' hc' hs' hw'
          unfold joinK at h'
          split at h'
          · rename_i vs hback
            have hsz:shs' = shs:=by
              refine zip_snd hz ?_
              obtain ⟨cs',hf',ho',hh'⟩:=back_ok hc hs hw hex hback hc' hs' hw'
              exact (appT_len h').trans (fits_len hf').symm
            subst hsz
            obtain ⟨cs',hf',ho',hh'⟩:=back_ok hc hs hw hex hback hc' hs' hw'
            have hb:=allT_at hbody vs hf' _ h'
            rw [ho'] at hb
            obtain ⟨e1,e2,e3⟩:=exit_ok hc hs hw hh'.c hh'.s hh'.w
            exact hk .normal _ a' w' hb e1 e2 e3
          · exact h'.elim
        refine wp_block (ih _ _ _ _ a w hbr hh0.c hh0.s hh0.w ?_)
        intro e st' a' w' h' hc' hs' hw'
        cases e with
        | normal => exact hjoin st' a' w' h' hc' hs' hw'
        | exit i =>
          simp only [blockJ,cond_eq_ite] at h'
          simp only [toExit,Exit.inBlock]
          split at h'
          · rename_i hi
            have hi:=Nat.eq_of_beq_eq_true hi
            rw [if_pos hi]; exact hjoin st' a' w' h' hc' hs' hw'
          · rename_i hi
            have hi:¬ i = id:=fun he=>hi (by rw [he]; exact Nat.beq_refl _)
            rw [if_neg hi]
            obtain ⟨e1,e2,e3⟩:=exit_ok hc hs hw hc' hs' hw'
            exact hk (.exit i) _ a' w' h' e1 e2 e3
        | ret =>
          obtain ⟨e1,e2,e3⟩:=exit_ok hc hs hw hc' hs' hw'
          exact hk .ret _ a' w' h' e1 e2 e3
  | region id ops draw =>
    intro ro st k Qx a w h hc hs hw hk
    unfold sx at h
    cases draw with
    | true =>
      simp only [cond_true] at h
      split at h
      · rename_i t ht
        obtain ⟨hm,hsel,hin,hok⟩:=drawT_some ht
        simp only [cond_eq_ite] at h
        split at h
        · split at h
          · exact h.elim
          · rename_i hchk
            simp only [Bool.not_eq_true',Bool.not_eq_false,Bool.and_eq_true,List.all_eq_true] at hchk
            generalize hshs:hvShs (A:=sem P Q) P ro st (hvJoin P cfg ro st ops) ops = shs at h
            obtain ⟨shs',hz,I,hbr,hbody⟩:=join_elim (P:=P) (Q:=Q) (shs:=List.zip (hvNames cfg (hvJoin P cfg ro st ops)) shs)
              (br:=fun leave=>runOps (A:=sem P Q) P cfg true ops (loopRo cfg ro st) (4 * ops.size + 4 + ops.size * ops.size) t (loopHead ro st ⟨[],[]⟩ .skip [] st.anchor)
                (joinK (A := sem P Q) cfg ro st (hvJoin P cfg ro st ops) (.region id ops true) shs ("join back " ++ match ops[0]? with | some o => o.pos | none => "") leave))
              (body:=fun vars w=>orFail (A:=sem P Q) (fun cs=>k .normal (loopExit st (loopHead ro st (hvJoin P cfg ro st ops) (.region id ops true) cs w))) (ofAtoms shs vars)) h
            have hex:∀ j n,(j,n) ∈ (hvJoin P cfg ro st ops).blocks->∃ b,ro.blk st j = some b:=fun j n hm=>by
              have:=hchk.2 (j,n) hm
              cases hb:ro.blk st j with
              | some b => exact ⟨b,rfl⟩
              | none => simp [hb] at this
            obtain ⟨cs0,l0,hg0,hf0,ho0,hh0⟩:=entry_ok (hv:=⟨[],[]⟩) (body:=.skip) (al:=[]) hc hs hw rfl
            have hcs0:cs0 = []:=by
              have:ofAtoms (A:=sem P Q) [] [] = some cs0:=ho0
              simp [ofAtoms] at this; exact this
            subst hcs0
            refine wp_region_any hm (can_any (kd:=kdD P cfg true) (n:=ops.size) hsel hin ops.size t _ _ (RelW (loopRo cfg ro st) (loopHead ro st ⟨[],[]⟩ .skip [] st.anchor)) a _ (by simp) List.nodup_range hok lst_range ?_ (relW_drawn hh0.w))
            refine runOps_ok _ _ _ a _ hbr hh0.c.relF hh0.s ⟨_,hh0.w⟩ fun st' a' h' hc' hs' w' hw'=>?_
            unfold joinK at h'
            split at h'
            · rename_i vs hback
              have hsz:shs' = shs:=by
                refine zip_snd hz ?_
                obtain ⟨cs',hf',ho',hh'⟩:=back_ok hc hs hw hex hback hc' hs' hw'
                exact (appT_len h').trans (fits_len hf').symm
              subst hsz
              obtain ⟨cs',hf',ho',hh'⟩:=back_ok hc hs hw hex hback hc' hs' hw'
              have hb:=allT_at hbody vs hf' _ h'
              rw [ho'] at hb
              obtain ⟨e1,e2,e3⟩:=exit_ok hc hs hw hh'.c hh'.s hh'.w
              exact hk .normal _ a' w' hb e1 e2 e3
            · exact h'.elim
        · refine wp_region_any hm (can_any (kd:=kdD P cfg true) (n:=ops.size) hsel hin ops.size t _ _ (RelW ro st) a _ (by simp) List.nodup_range hok lst_range ?_ (relW_drawn hw))
          exact runOps_ok _ _ st a _ h hc.relF hs ⟨_,hw⟩ fun st' a' h' hc' hs' w' hw'=>hk .normal st' a' w' h' hc' hs' hw'
      · exact h.elim
    | false =>
      simp only [cond_false] at h
      refine wp_region (canO_text (kd:=kdD P cfg false) _ (RelW ro st) a w ?_ hw)
      exact runOps_ok _ _ st a _ h hc.relF hs ⟨_,hw⟩ fun st' a' h' hc' hs' w' hw'=>hk .normal st' a' w' h' hc' hs' hw'
  | loop body ih =>
    intro ro st k Qx a w h hc hs hw hk
    unfold sx at h
    simp only at h
    split at h
    · exact h.elim
    · rename_i al hal
      simp only [cond_eq_ite] at h
      split at h
      · exact h.elim
      · rename_i hdup
        generalize hshs:al.map (·.1) = shs at h
        obtain ⟨cs0,l0,hg0,hf0,ho0,hh0⟩:=entry_ok (body:=body) hc hs hw hal
        rw [hshs] at hf0 ho0
        obtain ⟨shs',hz,I,M,hI,hbody⟩:=loop_elim (P:=P) (Q:=Q) (shs:=List.zip (hvNames cfg (hvOf ro st body)) shs) (init:=al.map (·.2)) (w:=st.anchor) (body:=fun back vars w=>orFail (A:=sem P Q) (fun cs=>sx (A:=sem P Q) P cfg body (loopRo cfg ro st) (loopHead ro st (hvOf ro st body) body cs w) (roundK (A:=sem P Q) cfg ro st (hvOf ro st body) body shs cs w back k)) (ofAtoms shs vars)) h
        have hsz:shs' = shs:=by
          refine zip_snd hz ?_
          exact (appT_len hI).trans (fits_len hf0).symm
        subst hsz
        let Pn (a':Act) (w':World) (n:Nat):Prop:=∃ (vs:List At) (wa:World) (cs:List (Sc (sem P Q))),Fits shs' vs/\ofAtoms shs' vs = some cs/\appT False shs' I vs wa/\HeadOk cfg ro st (hvOf ro st body) body cs wa a' w'/\appT 0 shs' M vs wa = n
        refine wp_loop (fun a' w'=>∃ n,Pn a' w' n) (fun a' w'=>leastOf (Pn a' w')) ⟨_,_,_,cs0,hf0,ho0,hI,hh0,rfl⟩ ?_
        intro a1 w1 hex
        obtain ⟨⟨vs,wa,cs,hf,ho,hIv,hhd,hm⟩,hmin⟩:=leastOf_spec hex
        have hb:=allT_at hbody vs hf wa hIv
        rw [ho] at hb
        refine ih _ _ _ _ a1 w1 hb hhd.c hhd.s hhd.w ?_
        intro e st' a' w' h' hc' hs' hw'
        cases e with
        | normal =>
          simp only [roundK] at h'
          split at h'
          · rename_i vs' hback
            obtain ⟨cs',hf',ho',hh'⟩:=back_ok hc hs hw (gather_has hg0) hback hc' hs' hw'
            simp only [toExit,Exit.then]
            have hPn:Pn a' w' (appT 0 shs' M vs' st'.anchor):=⟨vs',_,cs',hf',ho',h'.1,hh',rfl⟩
            refine ⟨⟨_,hPn⟩,?_⟩
            have h2:=(leastOf_spec ⟨_,hPn⟩).2 _ hPn
            have h3:=h'.2
            rw [hm] at h3
            omega
          · exact h'.elim
        | exit id =>
          obtain ⟨e1,e2,e3⟩:=exit_ok hc hs hw hc' hs' hw'
          exact hk (.exit id) _ a' w' h' e1 e2 e3
        | ret =>
          obtain ⟨e1,e2,e3⟩:=exit_ok hc hs hw hc' hs' hw'
          exact hk .ret _ a' w' h' e1 e2 e3
  | scope _ _ => exact fun ro st k Qx a w h => h.elim
  | rangeFunc => exact fun ro st k Qx a w h => h.elim
  | goto _ => exact fun ro st k Qx a w h => h.elim
  | refuse _ => exact fun ro st k Qx a w h => h.elim
end Go.Sx
set_option linter.unusedVariables false
set_option linter.unusedSimpArgs false
namespace Go.Sx
open RowKit
variable {P:Program} {Q:Value->World->Prop}
theorem look_st0 {ps:List (SV (sem P Q))} {w:World} {i:Nat} {e:Option (Ent (sem P Q))} (h:look (st0 ps w).ov i = some e):∃ v,ps[i]? = some v/\e = some (.one v,none):=by
  have hm:=mem_of_look h
  simp only [st0,List.mem_map] at hm
  obtain ⟨⟨v,j⟩,hx,he⟩:=hm
  simp only [Prod.mk.injEq] at he
  obtain ⟨rfl,rfl⟩:=he
  exact ⟨v,List.mem_zipIdx_iff_getElem?.1 hx,rfl⟩
theorem get_st0 {ps:List (SV (sem P Q))} {w:World} {i:Nat} {e:Ent (sem P Q)} (h:Ro.get { sl:=[],bl:=[] } (st0 ps w) i = some e):∃ v,ps[i]? = some v/\e = (.one v,none):=by
  unfold Ro.get at h
  split at h
  · rename_i e' he
    subst h
    obtain ⟨v,h1,h2⟩:=look_st0 he
    exact ⟨v,h1,Option.some.inj h2⟩
  · simp [look] at h
theorem resOf_ok {cfg:Cfg} {ro:Ro (sem P Q)} {st:St (sem P Q)} {a:Act} {w:World} (hc:RelC cfg ro st a) (hs:SlAll ro st) (hw:RelW ro st w):∀ {rs:List ResultVar} {l:List (SV (sem P Q))},resOf P ro st rs = some l ->
    (rs.mapM (m:=Sem) fun | .tmp t=>pure (a.tmps.getD t undef) | .cell c t=>do loadVar t (<- asAddr (a.tmps.getD c undef))).run P w = .ok (l.map SV.toV) w
  | [],l,h => by simp [resOf] at h; subst h; simp
  | .tmp t :: r,l,h => by
    unfold resOf at h
    split at h
    · rename_i v l' hv hl
      obtain rfl:=Option.some.inj h
      have h1:=one?_some hv
      simp only [Option.bind_eq_some_iff] at h1
      obtain ⟨e,he,h2⟩:=h1
      have h3:=(hc.fr t e he).2
      obtain ⟨u,key⟩:=e
      cases key with
      | none =>
        simp only [Option.some.injEq] at h2
        subst h2
        simp only [List.mapM_cons,Sem.run_bind,Sem.run_pure,Result.andThen_ok,resOf_ok hc hs hw hl]
        rw [h3]; rfl
      | some k => cases h2
    · cases h
  | .cell c t :: r,l,h => by
    unfold resOf at h
    split at h
    · rename_i j b off l' hv hl
      split at h
      · rename_i blk hb
        split at h
        · rename_i v hp
          simp only [cond_eq_ite] at h
          split at h
          · rename_i hlen
            obtain rfl:=Option.some.inj h
            have h1:=sc?_some hv
            simp only [Option.bind_eq_some_iff] at h1
            obtain ⟨e,he,h2⟩:=h1
            have h3:=(hc.fr c e he).2
            have h4:=hs c e he
            obtain ⟨u,key⟩:=e
            cases key with
            | none =>
              simp only [Option.some.injEq] at h2
              subst h2
              have hn:=h4.2 blk hb
              have hbk:=hw.bk j blk hb
              unfold blkOk at hbk
              have hload:=run_loadAt (P:=P) (t:=t) (v:=v) hbk hp hlen
              rw [hn] at hload
              simp only [List.mapM_cons,Sem.run_bind]
              rw [h3]
              have hl2:(loadVar t ⟨b,off,none⟩).run P w = .ok v.toV w:=by
                simpa [Instr.loadAt,Instr.sureAddr] using hload
              have e1:(asAddr (SL.toV (SL.one (SV.sc (Sc.loc (A:=sem P Q) j b off))))).run P w = .ok ⟨b,off,none⟩ w:=by
                simp [SL.toV,SV.toV,Sc.toV,asAddr]
              rw [e1]
              simp only [Result.andThen_ok,hl2,Sem.run_pure,resOf_ok hc hs hw hl]
              rfl
            | some k => cases h2
          · cases h
        · cases h
      · cases h
    · cases h
theorem resultOf_toV (l:List (SV (sem P Q))):(resultOf l).toV = if h:l.length = 1 then (l[0]'(by omega)).toV else .tuple (l.map SV.toV).toArray:=by
  match l with
  | [] => rfl
  | [v] => rfl
  | a :: b :: r => simp [resultOf,SL.toV]
theorem fin_res (l:List (SV (sem P Q))):(if h:(l.map SV.toV).toArray.size = 1 then (l.map SV.toV).toArray[0] else .tuple (l.map SV.toV).toArray) = (resultOf l).toV:=by
  match l with
  | [] => rfl
  | [v] => rfl
  | a :: b :: r => simp [resultOf,SL.toV]
theorem sx_fn {f:FuncId} {fn:Func} {c:Code} {cfg:Cfg} {ps:List (SV (sem P Q))} {args:Array Value} {w:World} (hf:P.funcs[f]? = some fn) (hb:fn.body = some c) (hent:Enters P f)
    (hN:cfg.N = fn.ntmps) (hlen:Nat.ble ps.length fn.ntmps = true) (hargs:args = (ps.map SV.toV).toArray) (hn:ps.all noLocV = true) (h:fnNode (A:=sem P Q) P cfg fn c ps w):FnP P f args w Q:=by
  have hlen:=Nat.le_of_ble_eq_true hlen
  refine ⟨hent,calls_of_wp hf hb (sx_ok (cfg:=cfg) c { sl:=[],bl:=[] } (st0 ps w) _ _ _ w h ?_ ?_ ?_ ?_)⟩
  · subst hargs
    refine ⟨?_,rfl,fun i e he=>?_⟩
    · simp; omega
    · obtain ⟨v,hv,rfl⟩:=get_st0 he
      refine ⟨rfl,?_⟩
      have hi:i < ps.length:=by
        rw [List.getElem?_eq_some_iff] at hv; exact hv.1
      have h2:ps[i] = v:=by rw [List.getElem?_eq_some_iff] at hv; exact hv.2
      simp [SL.toV,Array.getD,Array.getElem_append,hi,h2]
      intro h; omega
  · intro i e he
    obtain ⟨v,hv,rfl⟩:=get_st0 he
    refine slOk_noLoc ?_
    simp only [List.all_eq_true] at hn
    exact hn v (List.mem_of_getElem? hv)
  · have hno:∀ j,(Ro.blk { sl:=[],bl:=[] } (st0 ps w) j:Option (Blk (sem P Q))) = none:=fun j=>rfl
    refine ⟨But.refl _ _,?_,?_,?_,?_,?_,?_⟩
    · intro j b h; rw [hno] at h; cases h
    · intro j b h; rw [hno] at h; cases h
    · intro i j b c h; rw [hno] at h; cases h
    · intro j b h; rw [hno] at h; cases h
    · intro j b h; rw [hno] at h; cases h
    · intro j b b0 h0 h; rw [hno] at h; cases h
  · intro e st' a' w' hk hc hs hw
    have key:retNode (A:=sem P Q) P fn { sl:=[],bl:=[] } st'->a'.defers = []/\∃ v,(results fn a'.tmps).run P w' = .ok v w'/\∃ u,Ending.returned v = .returned u/\Q u w':=by
      intro hr
      unfold retNode at hr
      split at hr
      · rename_i l hl
        simp only [cond_eq_ite] at hr
        split at hr
        · have hq:=allExt_at (P:=P) (Q:=Q) hr hw.but (fun b hb=>by cases hb)
          refine ⟨hc.defers,(resultOf l).toV,?_,_,rfl,hq⟩
          have h1:=resOf_ok hc hs hw hl
          unfold results
          obtain ⟨rs,hrs⟩:∃ rs,fn.results = ⟨rs⟩:=⟨_,rfl⟩
          rw [hrs] at h1 ⊢
          simp only [List.mapM_toArray,Sem.run_bind,Sem.run_map]
          show (((Sem.run P (List.mapM _ rs) w').andThen _).andThen _) = _
          have h1':(List.mapM (m:=Sem) (fun | ResultVar.tmp t=>pure (a'.tmps.getD t undef) | .cell c t=>do loadVar t (<- asAddr (a'.tmps.getD c undef))) rs).run P w' = .ok (l.map SV.toV) w':=h1
          erw [h1']
          simp only [Result.andThen_ok]
          exact congrArg (fun v=>Result.ok v w') (fin_res l)
        · exact hr.elim
      · exact hr.elim
    cases e with
    | normal => exact key hk
    | exit id => exact hk.elim
    | ret => exact key hk
@[irreducible] def Runs (P:Program) (Q:Value->World->Prop) (cfg:Cfg) (fn:Func) (c:Code) (ps:List (SV (sem P Q))) (w:World):Prop:=fnNode (A:=sem P Q) P cfg fn c ps w
theorem runs_fn {f:FuncId} {fn:Func} {c:Code} {cfg:Cfg} {ps:List (SV (sem P Q))} {args:Array Value} {w:World} (h:Runs P Q cfg fn c ps w) (hf:P.funcs[f]? = some fn) (hb:fn.body = some c) (hent:Enters P f)
    (hN:cfg.N = fn.ntmps) (hlen:Nat.ble ps.length fn.ntmps = true) (hargs:args = (ps.map SV.toV).toArray) (hn:ps.all noLocV = true):FnP P f args w Q:=by
  unfold Runs at h
  exact sx_fn hf hb hent hN hlen hargs hn h
end Go.Sx
set_option linter.unusedVariables false
set_option linter.unusedSimpArgs false
namespace Go.Sx
open Go.ChangeShapes Go.WideShapes Go.ChangeAt Go.RowKit
variable {H:Type} {enc:TypeId × Value->H} {P:Program}
def Good (P:Program) (w:World):Nat->TypeId->List Value->Prop
  | 0,_,_ => False
  | n + 1,t,cs =>
    match P.underlying t with
    | some .bool => ∃ b,cs = [.bool b]
    | some (.int k) => ∃ x,cs = [.int k x]/\InR k x
    | some .string => ∃ s:ByteArray,cs = [.string s]/\s.size <= 9223372036854775807
    | some (.pointer e) => cs = [.pointer none]\/∃ a es,cs = [.pointer (some a)]/\w.cells? 0 a (P.cellsOf e) = some es/\Good P w n e es
    | some (.slice e) => cs = [.slice none 0 0]\/∃ a len cap,cs = [.slice (some a) len cap]/\len <= cap/\cap <= 9223372036854775807 /\
        ∀ i,i < cap->∃ es,w.cells? 0 (a.add (i * P.cellsOf e)) (P.cellsOf e) = some es/\Good P w n e es
    | some (.struct fs) => cs.length = P.cellsOf t/\∀ f ∈ fs.toList,Good P w n f.type ((cs.drop f.offset).take (P.cellsOf f.type))
    | some (.array m e) => cs.length = P.cellsOf t/\∀ i,i < m->Good P w n e ((cs.drop (i * P.cellsOf e)).take (P.cellsOf e))
    | _ => ∃ v,cs = [v]
theorem wf_inR {k:IntKind} {x:Int} (h:(Lit.int k x).wf = true):InR k x:=by
  simpa [Lit.wf,InR] using h
theorem mapM_some {α β:Type} {f:α->Option β}:∀ {l:List α} {ys:List β},l.mapM f = some ys->∀ x ∈ l,∃ y,f x = some y
  | [],ys,_,x,hx => by cases hx
  | a :: r,ys,h,x,hx => by
    simp only [List.mapM_cons,Option.bind_eq_bind,Option.bind_eq_some_iff] at h
    obtain ⟨y,hy,ys',hr,_⟩:=h
    rcases List.mem_cons.1 hx with rfl | hx
    · exact ⟨y,hy⟩
    · exact mapM_some hr x hx
theorem good_of_trod {w:World}:∀ {n:Nat} {t:TypeId} {cs:List Value} {x:DataW H × List MemPlace},DataW.trod enc P w 0 (fun _=>true) true n t cs = some x->Good P w n t cs
  | 0,t,cs,x,h => by cases h
  | n + 1,t,cs,x,h => by
    unfold DataW.trod at h
    unfold Good
    cases hu:P.underlying t with
    | none => simp [hu] at h
    | some u =>
      rw [hu] at h
      cases u with
      | bool => simp only at h ⊢; split at h <;> simp_all
      | int k =>
        simp only at h ⊢
        split at h <;> simp_all
        obtain ⟨⟨h1,h2⟩,_⟩:=h
        exact wf_inR h2
      | string =>
        simp only at h ⊢
        split at h <;> simp_all
        simp only [maxLen] at h
        omega
      | pointer e =>
        simp only at h ⊢
        split at h
        all_goals first | (simp_all; done) | skip
        rename_i a heq
        simp only [Option.some.injEq,TypeDesc.pointer.injEq] at heq
        subst heq
        rw [Option.map_eq_some_iff] at h
        obtain ⟨y,h,_⟩:=h
        rw [Option.bind_eq_some_iff] at h
        obtain ⟨es,h1,h2⟩:=h
        exact .inr ⟨a,es,rfl,h1,good_of_trod h2⟩
      | slice e =>
        simp only
        have h':DataW.trod enc P w 0 (fun _=>true) true (n + 1) t cs = some x:=by unfold DataW.trod; rw [hu]; exact h
        rcases DataW.trod_slice hu h' with h0 | ⟨a,len,cap,elems,rest,n',hn,hcs,hx,hb,hl,hm,hlen,hel,hsp,_⟩
        · exact .inl h0.1
        · obtain rfl:n = n':=by omega
          refine .inr ⟨a,len,cap,hcs,hl,by simp only [maxLen] at hm; omega,fun i hi=>?_⟩
          obtain ⟨hrl,hrest⟩:=hsp rfl
          have hsome:∃ y,(w.cells? 0 (a.add (i * P.cellsOf e)) (P.cellsOf e)).bind (DataW.trod enc P w 0 (fun _=>true) true n e) = some y:=by
            by_cases hil:i < len
            · exact ⟨elems[i]'(by omega),by rw [hel i hil]; exact List.getElem?_eq_getElem (by omega)⟩
            · have:=hrest (i - len) (by omega)
              rw [show len + (i - len) = i by omega] at this
              exact ⟨rest[i - len]'(by omega),by rw [this]; exact List.getElem?_eq_getElem (by omega)⟩
          obtain ⟨y,hy⟩:=hsome
          rw [Option.bind_eq_some_iff] at hy
          obtain ⟨es,h1,h2⟩:=hy
          exact ⟨es,h1,good_of_trod h2⟩
      | struct fs =>
        simp only at h ⊢
        split at h
        · rename_i hl
          rw [Option.map_eq_some_iff] at h
          obtain ⟨y,h,_⟩:=h
          refine ⟨hl,fun f hf=>?_⟩
          obtain ⟨z,hz⟩:=mapM_some h f hf
          exact good_of_trod hz
        · cases h
      | array m e =>
        simp only at h ⊢
        split at h
        · rename_i hl
          rw [Option.map_eq_some_iff] at h
          obtain ⟨y,h,_⟩:=h
          refine ⟨hl,fun i hi=>?_⟩
          obtain ⟨z,hz⟩:=mapM_some h i (by simpa using hi)
          exact good_of_trod hz
        · cases h
      | _ =>
        simp only at h ⊢
        match cs,h with
        | [],h => simp at h
        | [v],h => exact ⟨v,rfl⟩
        | _ :: _ :: _,h => simp at h
def GoodV (P:Program) (w:World) (t:TypeId) (v:Value):Prop :=
  ∃ n cs,Good P w n t cs/\v = bif isAggT P t then .agg cs.toArray else cs.headD undef
theorem goodV_of {w:World} {r:Reach} {b:Nat} {t:TypeId} {v:Value} {d:DataW H} {ps:List MemPlace} (hok:Value.okWide P w r b t v) (h:DataW.Trod enc P w 0 (fun _=>true) true t v d ps):GoodV P w t v:=by
  obtain ⟨n,h⟩:=h
  refine ⟨n,v.cells.toList,good_of_trod h,?_⟩
  cases n with
  | zero => cases h
  | succ n =>
    unfold Value.okWide at hok
    unfold isAggT
    cases hu:P.underlying t with
    | none => unfold DataW.trod at h; rw [hu] at h; simp at h
    | some u =>
      rw [hu] at hok
      cases u with
      | struct fs => obtain ⟨cs,rfl,_⟩:=hok; rfl
      | array m e => obtain ⟨cs,rfl,_⟩:=hok; rfl
      | _ => cases v <;> first | rfl | (unfold Cell.okWide at hok; rw [hu] at hok; simp [Cell.ok] at hok)
inductive GoodAll (P:Program) (w:World):List TypeId->List Value->Prop
  | nil:GoodAll P w [] []
  | cons {t ts v vs}:GoodV P w t v->GoodAll P w ts vs->GoodAll P w (t :: ts) (v :: vs)
theorem goodAll_of {w:World} {r:Reach} {b:Nat}:∀ {ts:List TypeId} {vs:List Value} {ds:List (DataW H)} {ps:List MemPlace},(∀ (j:Nat) t v,ts[j]? = some t->vs[j]? = some v->Value.okWide P w r b t v) ->
    DataW.TrodAll enc P w 0 (fun _=>true) true ts vs ds ps->GoodAll P w ts vs/\ds.length = ts.length
  | [],[],[],ps,_,_ => ⟨.nil,rfl⟩
  | [],[],_ :: _,ps,_,h => h.elim
  | [],_ :: _,_,ps,_,h => by simp [DataW.TrodAll] at h
  | _ :: _,[],_,ps,_,h => by simp [DataW.TrodAll] at h
  | _ :: _,_ :: _,[],ps,_,h => by simp [DataW.TrodAll] at h
  | t :: ts,v :: vs,d :: ds,ps,hok,h => by
    obtain ⟨p,q,h1,h2,_⟩:=h
    obtain ⟨g,e⟩:=goodAll_of (fun j t v ht hv=>hok (j + 1) t v (by simpa using ht) (by simpa using hv)) h2
    exact ⟨.cons (goodV_of (hok 0 t v rfl rfl) h1) g,by simp [e]⟩
theorem trodVars_length {w:World} {sp:Nat->Bool}:∀ {ns:List String} {gs:List (DataW H)} {ps:List MemPlace},DataW.TrodVars enc P w sp ns gs ps->gs.length = ns.length
  | [],[],_,_ => rfl
  | [],_ :: _,_,h => h.elim
  | _ :: _,[],_,h => h.elim
  | _ :: _,_ :: _,_,h => by
    obtain ⟨g,t,cs,fuel,p,q,_,_,_,_,hs,_⟩:=h
    simp [trodVars_length hs]
theorem below_trodAll (hl:laidOutB P = true) {W W':World} (hb:Below W.heap.size W W'):∀ {ts:List TypeId} {vs:List Value} {ds:List (DataW H)} {ps:List MemPlace},(ts.all fun t=>P.readableRec t && decide (t < P.types.size)) = true ->
    DataW.TrodAll enc P W 0 (fun _=>true) true ts vs ds ps->(∀ x ∈ ps,x.block < W.heap.size)->DataW.TrodAll enc P W' 0 (fun b=>decide (b < W.heap.size)) true ts vs ds ps
  | [],[],[],ps,_,h,_ => h
  | [],[],_ :: _,ps,_,h,_ => h.elim
  | [],_ :: _,_,ps,_,h,_ => by simp [DataW.TrodAll] at h
  | _ :: _,[],_,ps,_,h,_ => by simp [DataW.TrodAll] at h
  | _ :: _,_ :: _,[],ps,_,h,_ => by simp [DataW.TrodAll] at h
  | t :: ts,v :: vs,d :: ds,ps,hr,h,hlt => by
    obtain ⟨p,q,h1,h2,e⟩:=h
    simp only [List.all_cons,Bool.and_eq_true,decide_eq_true_eq] at hr
    exact ⟨p,q,Below.trod hl hr.1.1 hr.1.2 h1 hb (fun x hx=>hlt x (by rw [e]; simp [hx])),below_trodAll hl hb (by simpa using hr.2) h2 (fun x hx=>hlt x (by rw [e]; simp [hx])),e⟩
theorem law_post {f:Func} {s:ChangeSpec} {apart fresh handsOn:Bool} {W W':World} {args:Array Value} {ds gs:List (DataW H)} {before:List MemPlace} {tb:TypeId} (hl:laidOutB P = true)
    (hrow:(f.params.toList.all fun t=>P.readableRec t && decide (t < P.types.size)) = true) (hres:f.resultTypes = #[tb]) (htb:P.underlying tb = some .bool)
    (hvars:∀ q,DataW.TrodVars enc P W (fun _=>true) s.vars gs q->(∀ x ∈ q,x.block < W.heap.size)->DataW.TrodVars enc P W' (fun b=>decide (b < W.heap.size)) s.vars gs q)
    (hs:s.fn H (ds ++ gs) = { results:=[.lit (.bool true)],args:=ds,vars:=gs }) (hW:DataW.Whole enc P f.params.toList s.vars apart W args.toList ds gs before) (hB:Ext W W') :
    s.post enc P f apart fresh handsOn false W args (.bool true) W':=by
  have hlt:=hW.lt
  have hW':=hW
  obtain ⟨p,q,hA,hV,he,_,_⟩:=hW
  refine ⟨ds,gs,before,[],p,q,hW',?_,?_,?_,Below.frame hB _,fun h=>by cases h⟩
  · rw [hs,hres]
    exact ⟨[],[],⟨1,by simp [DataW.trod,htb,Value.cells]⟩,rfl,rfl⟩
  · rw [hs]
    exact below_trodAll hl hB hrow hA (fun x hx=>hlt x (by rw [he]; simp [hx]))
  · rw [hs]
    exact hvars q hV (fun x hx=>hlt x (by rw [he]; simp [hx]))
theorem law_contract {f:Func} {F:FuncId} {s:ChangeSpec} {apart fresh handsOn:Bool} {tb:TypeId} (hl:laidOutB P = true)
    (hrow:(f.params.toList.all fun t=>P.readableRec t && decide (t < P.types.size)) = true) (hres:f.resultTypes = #[tb]) (htb:P.underlying tb = some .bool) (hv:s.vars = [])
    (hs:∀ ds:List (DataW H),ds.length = f.params.toList.length->s.fn H ds = { results:=[.lit (.bool true)],args:=ds,vars:=[] })
    (law:∀ W args,GoodAll P W f.params.toList args.toList->FnP P F args W fun v W'=>v = .bool true/\Ext W W')
    (W:World) (base:Nat) (args:Array Value) (ds gs:List (DataW H)) (before:List MemPlace)
    (hval:∀ (j:Nat) t v,f.params[j]? = some t->args[j]? = some v->Value.okWide P W .any base t v)
    (hW:DataW.Whole enc P f.params.toList s.vars apart W args.toList ds gs before) :
    Calls P F args W fun e W'=>∃ v,e = .returned v/\s.post enc P f apart fresh handsOn false W args v W':=by
  have hW':=hW
  obtain ⟨p,q,hA,hV,_,_,_⟩:=hW
  obtain ⟨hg,hlen⟩:=goodAll_of (fun j t v ht hv=>hval j t v (by simpa using ht) (by simpa using hv)) hA
  refine (law W args hg).2.mono fun e W' ⟨v,he,hvt,hE⟩=>⟨v,he,?_⟩
  subst hvt
  have hg0:gs = []:=by
    have:=trodVars_length hV
    rw [hv] at this
    exact List.length_eq_zero_iff.1 this
  refine law_post hl hrow hres htb (fun q h _=>?_) (by subst hg0; simpa using hs ds hlen) hW' hE
  subst hg0
  rw [hv] at h ⊢
  exact h
theorem law_at {f:Func} {F:FuncId} {s:ChangeSpec} {apart fresh handsOn:Bool} {tb:TypeId} (hl:laidOutB P = true)
    (hrow:(f.params.toList.all fun t=>P.readableRec t && decide (t < P.types.size)) = true) (hres:f.resultTypes = #[tb]) (htb:P.underlying tb = some .bool) (hv:s.vars = [])
    (hs:∀ ds:List (DataW H),ds.length = f.params.toList.length->s.fn H ds = { results:=[.lit (.bool true)],args:=ds,vars:=[] })
    (W:World) (base:Nat) (args:Array Value) (law:GoodAll P W f.params.toList args.toList->FnP P F args W fun v W'=>v = .bool true/\Ext W W') (ds gs:List (DataW H)) (before:List MemPlace)
    (hval:∀ (j:Nat) t v,f.params[j]? = some t->args[j]? = some v->Value.okWide P W .any base t v)
    (hW:DataW.Whole enc P f.params.toList s.vars apart W args.toList ds gs before) :
    Calls P F args W fun e W'=>∃ v,e = .returned v/\s.post enc P f apart fresh handsOn false W args v W':=by
  have hW':=hW
  obtain ⟨p,q,hA,hV,_,_,_⟩:=hW
  obtain ⟨hg,hlen⟩:=goodAll_of (fun j t v ht hv=>hval j t v (by simpa using ht) (by simpa using hv)) hA
  refine (law hg).2.mono fun e W' ⟨v,he,hvt,hE⟩=>⟨v,he,?_⟩
  subst hvt
  have hg0:gs = []:=by
    have:=trodVars_length hV
    rw [hv] at this
    exact List.length_eq_zero_iff.1 this
  refine law_post hl hrow hres htb (fun q h _=>?_) (by subst hg0; simpa using hs ds hlen) hW' hE
  subst hg0
  rw [hv] at h ⊢
  exact h
end Go.Sx
set_option linter.unusedVariables false
set_option linter.unusedSimpArgs false
namespace Go.Sx
open Go.RowKit
variable {P:Program}
def leavesF (P:Program) (rec:TypeId->Option (List TypeId)):Nat->List Field->Option (List TypeId)
  | _,[] => some []
  | off,f :: r =>
    match rec f.type,leavesF P rec (off + P.cellsOf f.type) r with
    | some l,some l' => bif Nat.beq f.offset off && Nat.beq l.length (P.cellsOf f.type) then some (l ++ l') else none
    | _,_ => none
def leavesA (l:List TypeId):Nat->List TypeId
  | 0 => []
  | n + 1 => l ++ leavesA l n
def leaves (P:Program):Nat->TypeId->Option (List TypeId)
  | 0,_ => none
  | d + 1,t =>
    match P.underlying t with
    | some (.struct fs) =>
      match leavesF P (leaves P d) 0 fs.toList with
      | some l => bif Nat.beq l.length (P.cellsOf t) then some l else none
      | none => none
    | some (.array m e) =>
      match leaves P d e with
      | some l => bif Nat.beq l.length (P.cellsOf e) && Nat.beq (leavesA l m).length (P.cellsOf t) then some (leavesA l m) else none
      | none => none
    | some _ => some [t]
    | none => none
def Leaf (P:Program) (w:World) (t:TypeId) (v:Value):Prop:=∃ n,Good P w n t [v]
inductive Leaves (P:Program) (w:World):List TypeId->List Value->Prop
  | nil:Leaves P w [] []
  | cons {t ts v vs}:Leaf P w t v->Leaves P w ts vs->Leaves P w (t :: ts) (v :: vs)
theorem Leaves.append {w:World} {ts us:List TypeId} {vs ws:List Value} (h:Leaves P w ts vs) (k:Leaves P w us ws):Leaves P w (ts ++ us) (vs ++ ws):=by
  induction h with
  | nil => exact k
  | cons h1 _ ih => exact .cons h1 ih
theorem leavesF_ok {w:World} {rec:TypeId->Option (List TypeId)} {n:Nat} (ih:∀ t l cs,rec t = some l->Good P w n t cs->Leaves P w l cs):∀ (fs:List Field) (off:Nat) (l:List TypeId) (cs:List Value),leavesF P rec off fs = some l ->
    (∀ f ∈ fs,Good P w n f.type ((cs.drop f.offset).take (P.cellsOf f.type)))->∃ l',Leaves P w l l'/\l' = (cs.drop off).take l.length
  | [],off,l,cs,h,_ => by simp [leavesF] at h; subst h; exact ⟨[],.nil,by simp⟩
  | f :: r,off,l,cs,h,hg => by
    unfold leavesF at h
    split at h
    · rename_i l1 l2 h1 h2
      simp only [cond_eq_ite] at h
      split at h
      · rename_i hc
        simp only [Bool.and_eq_true,Nat.beq_eq] at hc
        obtain ⟨ho,hl⟩:=hc
        obtain rfl:=Option.some.inj h
        have g1:=ih _ _ _ h1 (hg f (List.mem_cons_self ..))
        obtain ⟨l2',g2,e2⟩:=leavesF_ok ih r _ l2 cs h2 (fun x hx=>hg x (List.mem_cons_of_mem _ hx))
        refine ⟨_,g1.append g2,?_⟩
        rw [e2,ho,<- hl,List.length_append,<- List.drop_drop,List.take_add]
      · cases h
    · cases h
theorem leavesA_ok {w:World} {l:List TypeId} {cs:List Value} {c:Nat} (hc:l.length = c):∀ (m off:Nat),(∀ i,i < m->Leaves P w l ((cs.drop (off + i * c)).take c))->∃ l',Leaves P w (leavesA l m) l'/\l' = (cs.drop off).take (leavesA l m).length
  | 0,off,_ => ⟨[],.nil,by simp [leavesA]⟩
  | m + 1,off,h => by
    have h0:=h 0 (by omega)
    obtain ⟨l',g,e⟩:=leavesA_ok hc m (off + c) (fun i hi=>by
      have:=h (i + 1) (by omega)
      rw [show off + (i + 1) * c = off + c + i * c by rw [Nat.add_mul]; omega] at this
      exact this)
    refine ⟨_,h0.append g,?_⟩
    simp only [leavesA,List.length_append,Nat.zero_mul,Nat.add_zero]
    rw [e,hc,<- List.drop_drop,List.take_add]
theorem leaves_ok {w:World}:∀ (d:Nat) (t:TypeId) (l:List TypeId) (n:Nat) (cs:List Value),leaves P d t = some l->Good P w n t cs->Leaves P w l cs
  | 0,t,l,n,cs,h,_ => by cases h
  | d + 1,t,l,0,cs,h,hg => hg.elim
  | d + 1,t,l,n + 1,cs,h,hg => by
    unfold leaves at h
    have hg0:=hg
    unfold Good at hg
    cases hu:P.underlying t with
    | none => rw [hu] at h; cases h
    | some u =>
      rw [hu] at h hg
      have hleaf:cs.length = 1->Leaves P w [t] cs:=by
        intro h1
        match cs,h1 with
        | [v],_ => exact .cons ⟨n + 1,hg0⟩ .nil
      cases u with
      | struct fs =>
        simp only at h hg
        split at h
        · rename_i l0 hl0
          simp only [cond_eq_ite] at h
          split at h
          · rename_i hc
            have hc:l0.length = P.cellsOf t:=by simpa using hc
            obtain rfl:=Option.some.inj h
            obtain ⟨l',g,e⟩:=leavesF_ok (fun t' l1 cs' h1 hg1=>leaves_ok d t' l1 n cs' h1 hg1) fs.toList 0 l0 cs hl0 hg.2
            rw [hc,<- hg.1] at e
            simp at e
            rw [<- e]; exact g
          · cases h
        · cases h
      | array m e =>
        simp only at h hg
        split at h
        · rename_i l0 hl0
          simp only [cond_eq_ite] at h
          split at h
          · rename_i hc
            simp only [Bool.and_eq_true,Nat.beq_eq] at hc
            obtain rfl:=Option.some.inj h
            obtain ⟨l',g,e⟩:=leavesA_ok (P:=P) (w:=w) (cs:=cs) hc.1 m 0 (fun i hi=>by
              have:=leaves_ok d e l0 n _ hl0 (hg.2 i hi)
              simpa using this)
            rw [hc.2,<- hg.1] at e
            simp at e
            rw [<- e]; exact g
          · cases h
        · cases h
      | bool => obtain rfl:=Option.some.inj h; obtain ⟨_,rfl⟩:=hg; exact hleaf rfl
      | string => obtain rfl:=Option.some.inj h; obtain ⟨_,rfl,_⟩:=hg; exact hleaf rfl
      | int k => obtain rfl:=Option.some.inj h; obtain ⟨_,rfl,_⟩:=hg; exact hleaf rfl
      | pointer e => obtain rfl:=Option.some.inj h; rcases hg with rfl | ⟨_,_,rfl,_⟩ <;> exact hleaf rfl
      | slice e => obtain rfl:=Option.some.inj h; rcases hg with rfl | ⟨_,_,_,rfl,_⟩ <;> exact hleaf rfl
      | _ => obtain rfl:=Option.some.inj h; obtain ⟨_,rfl⟩:=hg; exact hleaf rfl
theorem leaf_int {w:World} {t:TypeId} {v:Value} {k:IntKind} (hu:P.underlying t = some (.int k)) (h:Leaf P w t v):∃ x,v = .int k x/\InR k x:=by
  obtain ⟨n,h⟩:=h
  cases n with
  | zero => exact h.elim
  | succ n => unfold Good at h; rw [hu] at h; simpa using h
theorem leaf_bool {w:World} {t:TypeId} {v:Value} (hu:P.underlying t = some .bool) (h:Leaf P w t v):∃ b,v = .bool b:=by
  obtain ⟨n,h⟩:=h
  cases n with
  | zero => exact h.elim
  | succ n => unfold Good at h; rw [hu] at h; simpa using h
theorem leaf_str {w:World} {t:TypeId} {v:Value} (hu:P.underlying t = some .string) (h:Leaf P w t v):∃ s:ByteArray,v = .string s/\s.size <= 9223372036854775807:=by
  obtain ⟨n,h⟩:=h
  cases n with
  | zero => exact h.elim
  | succ n => unfold Good at h; rw [hu] at h; simpa using h
theorem leaf_slice {w:World} {t e:TypeId} {v:Value} (hu:P.underlying t = some (.slice e)) (h:Leaf P w t v):∃ (p:Option Addr) (len cap:Nat),v = .slice p len cap/\len <= cap/\cap <= 9223372036854775807/\(p = none->cap = 0) /\
    ∀ a,p = some a->∀ i,i < cap->∃ n es,w.cells? 0 (a.add (i * P.cellsOf e)) (P.cellsOf e) = some es/\Good P w n e es:=by
  obtain ⟨n,h⟩:=h
  cases n with
  | zero => exact h.elim
  | succ n =>
    unfold Good at h
    rw [hu] at h
    rcases h with h | ⟨a,len,cap,h,h1,h2,h3⟩
    · simp only [List.cons.injEq,and_true] at h
      exact ⟨none,0,0,h,Nat.le_refl _,by omega,fun _=>rfl,fun a ha=>by cases ha⟩
    · simp only [List.cons.injEq,and_true] at h
      refine ⟨some a,len,cap,h,h1,h2,fun ha=>(by cases ha),fun b hb i hi=>?_⟩
      obtain rfl:=Option.some.inj hb
      obtain ⟨es,h4,h5⟩:=h3 i hi
      exact ⟨n,es,h4,h5⟩
theorem goodV_leaves {w:World} {t:TypeId} {v:Value} {d:Nat} {l:List TypeId} (hl:leaves P d t = some l) (h:GoodV P w t v):∃ cs,Leaves P w l cs/\v = bif isAggT P t then .agg cs.toArray else cs.headD undef:=by
  obtain ⟨n,cs,hg,hv⟩:=h
  exact ⟨cs,leaves_ok d t l n cs hl hg,hv⟩
theorem lvs_cons {w:World} {t:TypeId} {ts:List TypeId} {cs:List Value} (h:Leaves P w (t :: ts) cs):∃ v vs,cs = v :: vs/\Leaf P w t v/\Leaves P w ts vs:=by
  cases h with
  | cons h1 h2 => exact ⟨_,_,rfl,h1,h2⟩
theorem lvs_nil {w:World} {cs:List Value} (h:Leaves P w [] cs):cs = []:=by cases h; rfl
theorem goodAll_cons {w:World} {t:TypeId} {ts:List TypeId} {cs:List Value} (h:GoodAll P w (t :: ts) cs):∃ v vs,cs = v :: vs/\GoodV P w t v/\GoodAll P w ts vs:=by
  cases h with
  | cons h1 h2 => exact ⟨_,_,rfl,h1,h2⟩
theorem goodAll_nil {w:World} {cs:List Value} (h:GoodAll P w [] cs):cs = []:=by cases h; rfl
end Go.Sx
namespace Go.Sx
open Go.RowKit
variable {P:Program}
structure SlcArg (P:Program) (w:World) (e:TypeId) (p:Option Addr) (l c:Nat):Prop where
  le:l <= c
  max:c <= 9223372036854775807
  nil:p = none->c = 0
  el:∀ a,p = some a->∀ i,i < c->∃ n es,w.cells? 0 (a.add (i * P.cellsOf e)) (P.cellsOf e) = some es/\Good P w n e es
def LeafAll (P:Program) (w:World) (t:TypeId) (R:Value->Prop):Prop :=
  match P.underlying t with
  | some (.int k) => ∀ x:Int,InR k x->R (.int k x)
  | some .bool => ∀ b:Bool,R (.bool b)
  | some .string => ∀ s:ByteArray,s.size <= 9223372036854775807->R (.string s)
  | some (.slice e) => ∀ (p:Option Addr) (l c:Nat),SlcArg P w e p l c->R (.slice p l c)
  | _ => ∀ v,Leaf P w t v->R v
def LeavesAll (P:Program) (w:World):List TypeId->(List Value->Prop)->Prop
  | [],R => R []
  | t :: ts,R => LeafAll P w t fun v => LeavesAll P w ts fun vs => R (v :: vs)
def ArgsAll (P:Program) (w:World):List TypeId->(List Value->Prop)->Prop
  | [],R => R []
  | t :: ts,R =>
    match leaves P 6 t with
    | some l => LeavesAll P w l fun cs => ArgsAll P w ts fun vs => R ((bif isAggT P t then .agg cs.toArray else cs.headD undef) :: vs)
    | none => ∀ v,GoodV P w t v->ArgsAll P w ts fun vs => R (v :: vs)
theorem leafAll_ok {w:World} {t:TypeId} {R:Value->Prop} (h:LeafAll P w t R) {v:Value} (hl:Leaf P w t v):R v:=by
  unfold LeafAll at h
  split at h
  · rename_i k hu
    obtain ⟨x,rfl,hx⟩:=leaf_int hu hl
    exact h x hx
  · rename_i hu
    obtain ⟨b,rfl⟩:=leaf_bool hu hl
    exact h b
  · rename_i hu
    obtain ⟨s,rfl,hs⟩:=leaf_str hu hl
    exact h s hs
  · rename_i e hu
    obtain ⟨p,l,c,rfl,h1,h2,h3,h4⟩:=leaf_slice hu hl
    exact h p l c ⟨h1,h2,h3,h4⟩
  · exact h v hl
theorem leavesAll_ok {w:World}:∀ {l:List TypeId} {R:List Value->Prop},LeavesAll P w l R->∀ {cs:List Value},Leaves P w l cs->R cs
  | [],R,h,cs,hl => by obtain rfl:=lvs_nil hl; exact h
  | t :: ts,R,h,cs,hl => by
    obtain ⟨v,vs,rfl,h1,h2⟩:=lvs_cons hl
    exact leavesAll_ok (leafAll_ok h h1) h2
theorem argsAll_ok {w:World}:∀ {ts:List TypeId} {R:List Value->Prop},ArgsAll P w ts R->∀ {vs:List Value},GoodAll P w ts vs->R vs
  | [],R,h,vs,hg => by obtain rfl:=goodAll_nil hg; exact h
  | t :: ts,R,h,vs,hg => by
    obtain ⟨v,vs,rfl,h1,h2⟩:=goodAll_cons hg
    unfold ArgsAll at h
    split at h
    · rename_i l hl
      obtain ⟨cs,h3,rfl⟩:=goodV_leaves hl h1
      exact argsAll_ok (R:=fun vs=>R ((bif isAggT P t then .agg cs.toArray else cs.headD undef) :: vs)) (leavesAll_ok h h3) h2
    · exact argsAll_ok (R:=fun vs=>R (v :: vs)) (h v h1) h2
theorem args_open {w:World} {ts:List TypeId} {R:Array Value->Prop} (h:ArgsAll P w ts fun l=>R l.toArray) (args:Array Value) (hg:GoodAll P w ts args.toList):R args:=by
  have:=argsAll_ok h hg
  simpa using this
end Go.Sx
set_option linter.unusedVariables false
set_option linter.unusedSimpArgs false
namespace Go.Sx
open Go.RowKit
variable {P:Program}
theorem add_zero (a:Addr):a.add 0 = a:=by simp [Addr.add]
theorem add_add (a:Addr) (m n:Nat):(a.add m).add n = a.add (m + n):=by
  unfold Addr.add
  by_cases hm:m = 0
  · subst hm; simp
  · by_cases hn:n = 0
    · subst hn; simp [hm]
    · rw [if_neg hm,if_neg hn,if_neg (by omega)]; simp [Nat.add_assoc]
theorem cell_pIdx (w:World) (p:Option Addr) (i:Int) (n j:Nat):cell w (pIdx p i n) j = cell w p (i.toNat * n + j):=by
  cases p with
  | none => rfl
  | some a => simp [cell,pIdx,add_add]
theorem cell_pAdd (w:World) (p:Option Addr) (m j:Nat):cell w (pAdd p m) j = cell w p (m + j):=by
  cases p with
  | none => rfl
  | some a => simp [cell,pAdd,add_add]
theorem cell_pCut (w:World) (p:Option Addr) (c:Nat) (l:Int) (n j:Nat) (h:c ≠ l.toNat):cell w (pCut p c l n) j = cell w p (l.toNat * n + j):=by
  unfold pCut
  rw [if_neg h]
  cases p with
  | none => rfl
  | some a => simp [cell,add_add]
theorem pCut_zero (p:Option Addr) (c n:Nat):pCut p c 0 n = p:=by
  unfold pCut
  split
  · rfl
  · cases p <;> simp [add_zero]
theorem pIdx_none {p:Option Addr} {i:Int} {n:Nat}:pIdx p i n = none ↔ p = none:=by cases p <;> simp [pIdx]
theorem pAdd_none {p:Option Addr} {n:Nat}:pAdd p n = none ↔ p = none:=by cases p <;> simp [pAdd]
theorem cell_some {w:World} {p:Option Addr} {i:Nat} {v:Value} (h:cell w p i = some v):∃ a,p = some a/\a.block < w.heap.size/\w.cell? (a.add i) = some v:=by
  cases p with
  | none => cases h
  | some a =>
    refine ⟨a,rfl,?_,h⟩
    have:=World.block_lt_of_cell? w (a.add i) h
    rwa [add_block] at this
theorem cell_ne {w:World} {p:Option Addr} {i:Nat} {v:Value} (h:cell w p i = some v):p ≠ none:=by
  intro hp; subst hp; cases h
theorem ext_cell {w w':World} (he:Ext w w') {p:Option Addr} {i:Nat} {v:Value} (h:cell w p i = some v):cell w' p i = some v:=by
  obtain ⟨a,rfl,hb,h⟩:=cell_some h
  have:=Below.cell he (p:=a.add i) (by rw [add_block]; exact hb)
  simp only [cell,Option.bind_some] at this ⊢
  rw [this]; exact h
def Cells (w:World) (p:Option Addr) (vs:List Value):Prop:=∀ i v,vs[i]? = some v->cell w p i = some v
theorem Cells.ext {w w':World} {p:Option Addr} {vs:List Value} (h:Cells w p vs) (he:Ext w w'):Cells w' p vs:=fun i v hv=>ext_cell he (h i v hv)
theorem Cells.nil {w:World} {p:Option Addr}:Cells w p []:=fun i v hv=>by simp at hv
theorem Cells.at {w:World} {p:Option Addr} {vs:List Value} (h:Cells w p vs) (i:Nat) (hi:i < vs.length):cell w p i = some vs[i]:=h i _ (List.getElem?_eq_getElem hi)
theorem Cells.lt {w:World} {p:Option Addr} {vs:List Value} (h:Cells w p vs) (hv:vs ≠ []):∀ a,p = some a->a.block < w.heap.size:=by
  intro a ha
  subst ha
  have:=h.at 0 (by cases vs <;> simp_all)
  obtain ⟨b,hb,hl,_⟩:=cell_some this
  obtain rfl:=Option.some.inj hb
  exact hl
theorem Cells.ne {w:World} {p:Option Addr} {vs:List Value} (h:Cells w p vs) (hv:vs ≠ []):p ≠ none:=by
  have:=h.at 0 (by cases vs <;> simp_all)
  exact cell_ne this
abbrev Ints (k:IntKind) (w:World) (p:Option Addr) (xs:List Int):Prop:=Cells w p (xs.map (.int k))
theorem Ints.idx {k:IntKind} {w:World} {p:Option Addr} {xs:List Int} (h:Ints k w p xs) {i:Int} (h0:0 <= i) (hi:i < xs.length):cell w (pIdx p i 1) 0 = some (.int k (xs.getD i.toNat 0)):=by
  rw [cell_pIdx]
  refine h _ _ ?_
  have:i.toNat < xs.length:=by omega
  simp [this,List.getD_eq_getElem?_getD]
theorem mapM_range_some {f:Nat->Option Value}:∀ {n:Nat} {es:List Value},(List.range n).mapM f = some es->es.length = n/\∀ i u,es[i]? = some u->f i = some u:=by
  intro n es h
  have hg:∀ (l:List Nat) (es:List Value),l.mapM f = some es->es.length = l.length/\∀ (i:Nat) (u:Value),es[i]? = some u->∃ j:Nat,l[i]? = some j/\f j = some u:=by
    intro l
    induction l with
    | nil => intro es h; simp at h; subst h; exact ⟨rfl,fun i u h => by simp at h⟩
    | cons a r ih =>
      intro es h
      simp only [List.mapM_cons,Option.bind_eq_bind,Option.bind_eq_some_iff,Option.pure_def,Option.some.injEq] at h
      obtain ⟨y,hy,ys,hys,rfl⟩:=h
      obtain ⟨h1,h2⟩:=ih ys hys
      refine ⟨by simp [h1],fun i u hu=>?_⟩
      cases i with
      | zero => simp at hu; subst hu; exact ⟨a,rfl,hy⟩
      | succ i => simp at hu; simpa using h2 i u hu
  obtain ⟨h1,h2⟩:=hg _ _ h
  refine ⟨by simpa using h1,fun i u hu=>?_⟩
  obtain ⟨j,hj,hf⟩:=h2 i u hu
  obtain ⟨_,rfl⟩:=List.getElem?_eq_some_iff.1 hj
  simpa using hf
theorem cells?_some {w:World} {a:Addr} {n:Nat} {es:List Value} (h:w.cells? 0 a n = some es):es.length = n/\Cells w (some a) es:=by
  unfold World.cells? at h
  rw [if_pos (Nat.zero_le _)] at h
  obtain ⟨h1,h2⟩:=mapM_range_some h
  exact ⟨h1,fun i v hv=>h2 i v hv⟩
theorem SlcArg.list {w:World} {e:TypeId} {p:Option Addr} {l c:Nat} {α:Type} (h:SlcArg P w e p l c) (enc:α->List Value) (ok:α->Prop)
    (hr:∀ n es,Good P w n e es->es.length = P.cellsOf e->∃ x,es = enc x/\ok x) :
    ∃ xs:List α,xs.length = l/\(∀ x ∈ xs,ok x)/\∀ (i:Nat) (x:α),xs[i]? = some x->∀ j u,(enc x)[j]? = some u->cell w p (i * P.cellsOf e + j) = some u:=by
  have key:∀ m,m <= l->∃ xs:List α,xs.length = m/\(∀ x ∈ xs,ok x)/\∀ (i:Nat) (x:α),xs[i]? = some x->∀ j u,(enc x)[j]? = some u->cell w p (i * P.cellsOf e + j) = some u:=by
    intro m
    induction m with
    | zero => exact fun _ => ⟨[],rfl,(fun x hx => by cases hx),(fun i x hx => by simp at hx)⟩
    | succ m ih =>
      intro hm
      obtain ⟨xs,h1,h2,h3⟩:=ih (by omega)
      have hc:=h.le
      cases p with
      | none => have:=h.nil rfl; omega
      | some a =>
        obtain ⟨n,es,h4,h5⟩:=h.el a rfl m (by omega)
        obtain ⟨h6,h7⟩:=cells?_some h4
        obtain ⟨x,rfl,hx⟩:=hr n es h5 h6
        refine ⟨xs ++ [x],by simp [h1],fun y hy=>?_,fun i y hy j u hu=>?_⟩
        · rcases List.mem_append.1 hy with hy | hy
          · exact h2 y hy
          · simp at hy; subst hy; exact hx
        · by_cases hi:i < xs.length
          · rw [List.getElem?_append_left hi] at hy
            exact h3 i y hy j u hu
          · rw [List.getElem?_append_right (by omega)] at hy
            obtain ⟨hlt,he⟩:=List.getElem?_eq_some_iff.1 hy
            simp at hlt he
            obtain rfl:i = m:=by omega
            subst he
            have:=h7 j u hu
            simpa [cell,add_add] using this
  exact key l (Nat.le_refl _)
theorem SlcArg.ints {w:World} {e:TypeId} {p:Option Addr} {l c:Nat} {k:IntKind} (h:SlcArg P w e p l c) (hu:P.underlying e = some (.int k)) (hc:P.cellsOf e = 1) :
    ∃ xs:List Int,xs.length = l/\(∀ x ∈ xs,InR k x)/\Ints k w p xs:=by
  obtain ⟨xs,h1,h2,h3⟩:=h.list (fun x=>[Value.int k x]) (InR k) (fun n es hg _=>by
    cases n with
    | zero => exact hg.elim
    | succ n => unfold Good at hg; rw [hu] at hg; exact hg)
  refine ⟨xs,h1,h2,fun i v hv=>?_⟩
  simp only [List.getElem?_map,Option.map_eq_some_iff] at hv
  obtain ⟨x,hx,rfl⟩:=hv
  have:=h3 i x hx 0 _ rfl
  simpa [hc] using this
abbrev Own (B:Nat) (w:World) (e:TypeId) (s:Nat) (p:Option Addr) (n c:Nat) (xs:List Value):Prop:=w.ownsRow B e s (.slice p n c) n xs
def blk (p:Option Addr):Option Nat:=p.map (·.block)
structure Grew (w w':World) (p q:Option Addr):Prop where
  by_:w.grownBy w' (blk p)
  new:blk q = blk p\/∀ a,q = some a->w.heap.size <= a.block
def Apart (p q:Option Addr):Prop:=∀ a b,p = some a->q = some b->a.block ≠ b.block
theorem Apart.symm {p q:Option Addr} (h:Apart p q):Apart q p:=fun a b ha hb he=>h b a hb ha he.symm
theorem Apart.nil {p:Option Addr}:Apart p none:=fun a b _ hb=>by cases hb
theorem Own.nil {B:Nat} {w:World} {e:TypeId} {s:Nat}:Own B w e s none 0 0 []:=World.ownsRow_nil w B e s
theorem Own.lt {B:Nat} {w:World} {e:TypeId} {s:Nat} {p:Option Addr} {n c:Nat} {xs:List Value} (h:Own B w e s p n c xs):∀ a,p = some a->B <= a.block/\a.block < w.heap.size:=by
  intro a ha
  subst ha
  exact World.ownsRow.lt h a.block rfl
theorem Own.len {B:Nat} {w:World} {e:TypeId} {s:Nat} {p:Option Addr} {n c:Nat} {xs:List Value} (h:Own B w e s p n c xs):xs.length = n * s:=h.1
theorem Own.le {B:Nat} {w:World} {e:TypeId} {s:Nat} {p:Option Addr} {n c:Nat} {xs:List Value} (h:Own B w e s p n c xs):n <= c/\c <= 9223372036854775807:=by
  rcases h.2 with ⟨h1,h2⟩ | ⟨g,cap,cur,h1,_,_,h2,h3,_⟩
  · simp at h1; omega
  · simp at h1; simp [maxLen] at h3; omega
theorem Own.cells {B:Nat} {w:World} {e:TypeId} {s:Nat} {p:Option Addr} {n c:Nat} {xs:List Value} (h:Own B w e s p n c xs):Cells w p xs:=by
  intro i v hv
  rcases h.2 with ⟨h1,h2⟩ | ⟨g,cap,cur,h1,_⟩
  · have:=h.1; subst h2; simp at this; subst this; simp at hv
  · simp at h1
    obtain ⟨rfl,rfl⟩:=h1
    have:=World.ownsRow.cells h (g:=g) rfl i v hv
    exact this
theorem Own.grew {B B':Nat} {w w':World} {e:TypeId} {s:Nat} {p q q':Option Addr} {n c:Nat} {xs:List Value} (h:Own B w e s p n c xs) (ha:Apart p q) (hg:Grew w w' q q'):Own B w' e s p n c xs:=by
  refine World.ownsRow.kept h hg.by_ ?_
  cases p with
  | none => exact .inl rfl
  | some a =>
    refine .inr ?_
    cases q with
    | none => simp [blk,Value.ownBlock]
    | some b => simp [blk,Value.ownBlock]; exact ha a b rfl rfl
theorem Apart.grew {B:Nat} {w w':World} {e:TypeId} {s:Nat} {p q q':Option Addr} {n c:Nat} {xs:List Value} (ha:Apart p q) (h:Own B w e s p n c xs) (hg:Grew w w' q q'):Apart p q':=by
  intro a b h1 h2 he
  rcases hg.new with hn | hn
  · subst h2; subst h1
    cases q with
    | none => simp [blk] at hn
    | some x => simp [blk] at hn; exact ha a x rfl rfl (by omega)
  · have:=hn b h2
    have:=(h.lt a h1).2
    omega
theorem Cells.grew {w w':World} {p q q':Option Addr} {vs:List Value} (h:Cells w p vs) (ha:Apart p q) (hg:Grew w w' q q'):Cells w' p vs:=by
  intro i v hv
  obtain ⟨a,rfl,hb,hc⟩:=cell_some (h i v hv)
  refine World.grownBy.cell hg.by_ hc ?_
  rw [add_block]
  cases q with
  | none => simp [blk]
  | some b => simp [blk]; exact ha a b rfl rfl
theorem Apart.grewC {w w':World} {p q q':Option Addr} (ha:Apart p q) (h:∀ a,p = some a->a.block < w.heap.size) (hg:Grew w w' q q'):Apart p q':=by
  intro a b h1 h2 he
  rcases hg.new with hn | hn
  · subst h2; subst h1
    cases q with
    | none => simp [blk] at hn
    | some x => simp [blk] at hn; exact ha a x rfl rfl (by omega)
  · have:=hn b h2
    have:=h a h1
    omega
theorem Grew.below {B:Nat} {w0 w w':World} {p q:Option Addr} (hg:Grew w w' p q) (h:Below B w0 w) (hB:B <= w.heap.size) (hp:∀ a,p = some a->B <= a.block):Below B w0 w' :=
  Below.grown h hg.by_ hB (fun k hk=>by
    cases p with
    | none => cases hk
    | some a => simp [blk] at hk; subst hk; exact hp a rfl)
theorem Grew.ext {w0 w w':World} {e:TypeId} {s:Nat} {p q:Option Addr} {n c:Nat} {xs:List Value} (hg:Grew w w' p q) (h:Ext w0 w) (ho:Own w0.heap.size w e s p n c xs):Ext w0 w' :=
  Grew.below hg h h.size (fun a ha=>(Own.lt ho a ha).1)
theorem Grew.size {w w':World} {p q:Option Addr} (hg:Grew w w' p q):w.heap.size <= w'.heap.size:=hg.by_.size
theorem grew_ext {w w':World} (h:Ext w w'):Grew w w' none none:=⟨⟨h.os,h.tape,h.output,h.size,fun k hk _=>h.block k hk⟩,.inl rfl⟩
theorem Grew.of_ext {w w' w'':World} {p q:Option Addr} (h:Ext w w') (hg:Grew w' w'' p q):Grew w w'' p q :=
  ⟨⟨hg.by_.os.trans h.os,hg.by_.tape.trans h.tape,hg.by_.output.trans h.output,Nat.le_trans h.size hg.by_.size,
    fun k hk hne=>(hg.by_.block k (Nat.lt_of_lt_of_le hk h.size) hne).trans (h.block k hk)⟩,hg.new.imp id (fun f a ha=>Nat.le_trans h.size (f a ha))⟩
theorem Own.ext {B:Nat} {w w':World} {e:TypeId} {s:Nat} {p:Option Addr} {n c:Nat} {xs:List Value} (h:Own B w e s p n c xs) (he:Ext w w'):Own B w' e s p n c xs :=
  Own.grew (B':=B) h Apart.nil (grew_ext he)
theorem Own.weak {B B':Nat} {w:World} {e:TypeId} {s:Nat} {p:Option Addr} {n c:Nat} {xs:List Value} (h:Own B w e s p n c xs) (hb:B' <= B):Own B' w e s p n c xs:=by
  refine ⟨h.1,h.2.imp id ?_⟩
  rintro ⟨g,cap,cur,h1,h2,h3⟩
  exact ⟨g,cap,cur,h1,by omega,h3⟩
def slEl (P:Program) (t:TypeId):Option (TypeId × Nat × Nat × Value) :=
  match P.underlying t with
  | some (.slice e) =>
    match P.info? e with
    | some i => match i.zero with
      | some z => bif Nat.beq z.cells.size i.size then some (e,i.size,i.bytes,z) else none
      | none => none
    | none => none
  | _ => none
theorem slEl_some {t e:TypeId} {s b:Nat} {z:Value} (h:slEl P t = some (e,s,b,z)):∃ i,P.underlying t = some (.slice e)/\P.info? e = some i/\i.zero = some z/\i.size = s/\i.bytes = b/\z.cells.size = s:=by
  unfold slEl at h
  split at h
  · rename_i e' hu
    split at h
    · rename_i i hi
      split at h
      · rename_i z' hz
        simp only [cond_eq_ite] at h
        split at h
        · rename_i hc
          simp only [Option.some.injEq,Prod.mk.injEq] at h
          obtain ⟨rfl,rfl,rfl,rfl⟩:=h
          exact ⟨i,hu,hi,hz,rfl,rfl,Nat.eq_of_beq_eq_true hc⟩
        · cases h
      · cases h
    · cases h
  · cases h
theorem foldl_set (off:Nat):∀ (l:List Value) (k:Nat) (cs:Array Value),off + k + l.length <= cs.size ->
    ((l.zipIdx k).foldl (fun (cs:Array Value) (x:Value × Nat)=>cs.setIfInBounds (off + x.2) x.1) cs).toList = cs.toList.take (off + k) ++ l ++ cs.toList.drop (off + k + l.length)
  | [],k,cs,h => by simp
  | v :: r,k,cs,h => by
    simp only [List.zipIdx_cons,List.foldl_cons]
    simp only [List.length_cons] at h
    rw [foldl_set off r (k + 1) _ (by simp; omega)]
    have hlt:off + k < cs.size:=by omega
    simp only [Array.toList_setIfInBounds]
    have e1:(cs.toList.set (off + k) v).take (off + (k + 1)) = cs.toList.take (off + k) ++ [v]:=by
      rw [<- Nat.add_assoc,List.take_set]
      rw [List.take_succ_eq_append_getElem (by simpa using hlt)]
      rw [List.set_append_right _ _ (by simp; omega)]
      simp [Nat.min_eq_left (Nat.le_of_lt hlt)]
    have e2:(cs.toList.set (off + k) v).drop (off + (k + 1) + r.length) = cs.toList.drop (off + k + (r.length + 1)):=by
      rw [List.drop_set_of_lt (by omega)]
      congr 1; omega
    rw [e1,e2]
    simp
def partsOf:Nat->List Value->List (Nat × Value)
  | _,[] => []
  | i,v :: r => (i,v) :: partsOf (i + 1) r
theorem fill_parts (s:Nat):∀ (vs:List Value) (i:Nat) (cs:Array Value),(∀ v ∈ vs,v.cells.size = s)->i * s + vs.length * s <= cs.size ->
    ∃ out,Instr.fill (fun i=>some (i * s,s)) cs (partsOf i vs) = some out/\out.toList = cs.toList.take (i * s) ++ vs.flatMap (fun v=>v.cells.toList) ++ cs.toList.drop (i * s + vs.length * s)
  | [],i,cs,_,h => ⟨cs,rfl,by simp⟩
  | v :: r,i,cs,hs,h => by
    have hv:=hs v (List.mem_cons_self ..)
    simp only [List.length_cons,Nat.add_mul,Nat.one_mul] at h
    have h1:i * s + s <= cs.size:=by omega
    let cs':=v.cells.zipIdx.foldl (fun (cs:Array Value) (x:Value × Nat)=>cs.setIfInBounds (i * s + x.2) x.1) cs
    have e1:cs'.toList = cs.toList.take (i * s) ++ v.cells.toList ++ cs.toList.drop (i * s + s):=by
      have:=foldl_set (i * s) v.cells.toList 0 cs (by simp; omega)
      simp only [Nat.add_zero,Array.length_toList,hv] at this
      rw [<- this]
      have e0:cs' = v.cells.zipIdx.toList.foldl (fun (cs:Array Value) (x:Value × Nat)=>cs.setIfInBounds (i * s + x.2) x.1) cs:=by rw [Array.foldl_toList]
      rw [e0,Array.toList_zipIdx]
    have hsz:cs'.size = cs.size:=by
      have:=congrArg List.length e1
      simp [hv] at this; omega
    obtain ⟨out,h2,h3⟩:=fill_parts s r (i + 1) cs' (fun u hu=>hs u (List.mem_cons_of_mem _ hu)) (by rw [hsz,Nat.add_mul]; omega)
    refine ⟨out,?_,?_⟩
    · simp only [partsOf,Instr.fill]
      rw [if_neg (by simp [hv]; omega)]
      exact h2
    · rw [h3,e1]
      have hl:(cs.toList.take (i * s)).length = i * s:=by simp; omega
      have hl2:(cs.toList.take (i * s) ++ v.cells.toList).length = (i + 1) * s:=by simp [hv,Nat.add_mul]; omega
      rw [List.take_append_of_le_length (by omega),List.take_of_length_le (by omega)]
      rw [List.drop_append,List.drop_of_length_le (by omega),hl2,List.drop_drop]
      simp only [List.nil_append,List.flatMap_cons,List.length_cons,List.append_assoc]
      congr 4
      simp only [Nat.add_mul,Nat.one_mul]; omega
theorem run_lit {t e:TypeId} {s b:Nat} {z:Value} (he:slEl P t = some (e,s,b,z)) (vs:List Value) {n:Nat} {parts:List (Nat × Value)} {w:World} {K:Value->World->Prop} (hp:parts = partsOf 0 vs) (hn:n = vs.length)
    (hs:∀ v ∈ vs,v.cells.size = s) (h0:0 < n * s) (h24:n * s <= 16777216)
    (hk:∀ w',(∀ B,B <= w.heap.size->Own B w' e s (some ⟨w.heap.size,0,none⟩) n n (vs.flatMap fun v=>v.cells.toList))->Ext w w'->K (.slice (some ⟨w.heap.size,0,none⟩) n n) w'):Run P (.buildSlice t n parts) w K:=by
  obtain ⟨i,h1,h2,h3,rfl,rfl,h6⟩:=slEl_some he
  subst hp; subst hn
  obtain ⟨out,h7,h8⟩:=fill_parts i.size vs 0 ((Array.range (vs.length * i.size)).map (z.cells[· % z.cells.size]!)) hs (by simp)
  have h9:out.toList = vs.flatMap fun v=>v.cells.toList:=by rw [h8]; simp
  have hlen:(vs.flatMap fun v=>v.cells.toList).length = vs.length * i.size:=by
    clear h7 h8 h9 hk h24 h0
    induction vs with
    | nil => simp
    | cons v r ih =>
      simp only [List.flatMap_cons,List.length_append,Array.length_toList,List.length_cons,Nat.add_mul,Nat.one_mul]
      rw [ih (fun u hu=>hs u (List.mem_cons_of_mem _ hu)),hs v (List.mem_cons_self ..)]; omega
  refine ⟨_,w.alloc (.cells out e),?_,hk _ (fun B hB=>⟨hlen,.inr ⟨w.heap.size,vs.length,out,rfl,hB,heap_alloc_new w _,Nat.le_refl _,?_,?_,?_⟩⟩) ?_⟩
  · show (Instr.buildSlice t vs.length _).run P w = _
    exact run_buildSlice w t e vs.length _ out i z h1 h2 h3 (by omega) (by omega) (by simpa using h7)
  · simp only [maxLen]
    have:vs.length <= vs.length * i.size:=Nat.le_mul_of_pos_right _ (by rcases Nat.eq_zero_or_pos i.size with h | h; (· rw [h] at h0; simp at h0); exact h)
    omega
  · rw [<- Array.length_toList,h9,hlen]
  · rw [h9,<- hlen,List.take_length]
  · exact Below.alloc (Below.refl _ _) (Nat.le_refl _) _
theorem app_cases {t ty e:TypeId} {i:TypeInfo} {z:Value} (g1:P.underlying t = some (.slice e)) (g2:P.info? e = some i) (g3:i.zero = some z) (g6:z.cells.size = i.size) (hs:0 < i.size)
    {B:Nat} {w:World} {p:Option Addr} {a:Addr} {n c m d:Nat} {xs news:List Value}
    (ho:Own B w e i.size p n c xs) (hB:B <= w.heap.size) (hl:news.length = m * i.size) (hn:Cells w (some a) news) (h1:∀ u ∈ news,u.oneCell' = true) (hb:(n + m) * i.bytes <= 140737488355328) (hm:n + m <= 9223372036854775807) :
    ∃ p' c' w',(Builtin.append_ #[t,t] ty #[.slice p n c,.slice (some a) m d]).run P w = .ok (.slice p' (n + m) c') w'/\Own B w' e i.size p' (n + m) c' (xs ++ news)/\Grew w w' p p'/\(p' = none ↔ p = none/\m = 0):=by
  have hlen:(xs ++ news).length = (n + m) * i.size:=by rw [List.length_append,ho.1,hl,Nat.add_mul]
  have hmax:n + m <= maxLen:=by simp only [maxLen]; omega
  have fresh:∀ (old:Nat),old < n + m->∀ cur:Array Value,cur = xs.toArray ++ news.toArray ++ Builtin.zeroCells z.cells (grownCap w (n + m) old e - (n + m)) ->
      Own B (w.drew.alloc (.cells cur e)) e i.size (some ⟨w.heap.size,0,none⟩) (n + m) (grownCap w (n + m) old e) (xs ++ news)/\Grew w (w.drew.alloc (.cells cur e)) p (some ⟨w.heap.size,0,none⟩):=by
    intro old hold cur hcur
    have hge:=grownCap_ge w (n + m) old e
    refine ⟨⟨hlen,.inr ⟨w.heap.size,_,_,rfl,hB,heap_alloc_new w.drew _,hge,grownCap_le_maxLen w (n + m) old e hmax,?_,?_⟩⟩,⟨⟨rfl,rfl,rfl,by simp,fun k hk _=>World.grownBy_alloc w.drew _ none |>.block k hk (by simp)⟩,.inr fun x hx=>?_⟩⟩
    · subst hcur
      simp only [Array.size_append,List.size_toArray,size_zeroCells,g6,ho.1,hl,<- Nat.add_mul]
      congr 1; omega
    · subst hcur
      simp only [Array.toList_append]
      rw [<- hlen]; exact List.take_left
    · obtain rfl:=Option.some.inj hx; exact Nat.le_refl _
  rcases ho.2 with ⟨hv,hn0⟩ | ⟨g,cap,cur,hv,hbg,hg,hnc,hcm,hcs,htake⟩
  · obtain ⟨rfl,_,rfl⟩:p = none/\n = 0/\c = 0:=by simpa using hv
    subst hn0
    have hx:xs = []:=List.eq_nil_of_length_eq_zero (by simpa using ho.1)
    subst hx
    by_cases hm0:m = 0
    · subst hm0
      have hnn:news = []:=List.eq_nil_of_length_eq_zero (by simpa using hl)
      subst hnn
      refine ⟨none,0,w,?_,Own.nil,grew_ext (Below.refl _ _),by simp⟩
      simp [Builtin.append_,run_underlying g1,sizeOf,typeInfo,g2,Builtin.lenOf,Builtin.firstCells,loadCells,loadCellsFrom]
    · have hr:=run_append_nil (P:=P) w t ty e i z g1 g2 g3 a m d news hl hn (by omega) (by omega) (by have h:=hb; simp only [Nat.zero_add] at h; omega)
      have hf:=fresh 0 (by omega) _ rfl
      simp only [Nat.zero_add,List.nil_append,Array.empty_append] at hf ⊢
      exact ⟨_,_,_,hr,hf.1,hf.2,by simp [hm0]⟩
  · obtain ⟨rfl,_,rfl⟩:p = some ⟨g,0,none⟩/\n = n/\c = cap:=by simpa using hv
    by_cases hroom:n + m <= c
    · have hfit:n * i.size + news.length <= cur.size:=by rw [hl,hcs,<- Nat.add_mul]; exact Nat.mul_le_mul_right _ hroom
      have hr:=run_append_room (P:=P) w t ty e i g1 g2 g n c cur hg a m d news hl hn h1 hroom hfit
      refine ⟨_,_,_,hr,⟨hlen,.inr ⟨g,c,_,rfl,hbg,setRow_heap w g cur _ e _ hg,hroom,hcm,?_,?_⟩⟩,⟨⟨rfl,rfl,rfl,by simp,fun k _ hk=>setRow_other w g k _ (fun e=>hk (by simp [blk,e]))⟩,.inl rfl⟩,by simp⟩
      · simp only [List.size_toArray,List.length_append,List.length_take,List.length_drop,Array.length_toList]
        omega
      · rw [htake,<- hlen]
        exact List.take_left
    · have hr:=run_append_grow (P:=P) w t ty e i z g1 g2 g3 ⟨g,0,none⟩ n c xs ho.1 (World.ownsRow.cells ho (g:=g) rfl) a m d news hl hn (by omega) (by omega) (growslice_fits (by omega) hb)
      have hf:=fresh c (by omega) _ rfl
      exact ⟨_,_,_,hr,hf.1,hf.2,by simp⟩
theorem run_app {t ty e:TypeId} {s b:Nat} {z:Value} (he:slEl P t = some (e,s,b,z)) (hs:0 < s) {B:Nat} {w:World} {p q:Option Addr} {n c m d:Nat} {xs news:List Value} {K:Value->World->Prop}
    (ho:Own B w e s p n c xs) (hB:B <= w.heap.size) (hq:q ≠ none) (hl:news.length = m * s) (hn:Cells w q news) (h1:∀ u ∈ news,u.oneCell' = true) (hb:(n + m) * b <= 140737488355328) (hm:n + m <= 9223372036854775807)
    (hk:∀ p' c' w',Own B w' e s p' (n + m) c' (xs ++ news)->Grew w w' p p'->(p' = none ↔ p = none/\m = 0)->K (.slice p' (n + m) c') w'):Run P (.append #[t,t] ty [.slice p n c,.slice q m d]) w K:=by
  obtain ⟨i,g1,g2,g3,rfl,rfl,g6⟩:=slEl_some he
  cases q with
  | none => exact absurd rfl hq
  | some a =>
    obtain ⟨p',c',w',hr,h2,h3,h4⟩:=app_cases (ty:=ty) (d:=d) g1 g2 g3 g6 hs ho hB hl hn h1 hb hm
    exact ⟨_,w',hr,hk p' c' w' h2 h3 h4⟩
theorem push {t ty e:TypeId} {s b:Nat} {z:Value} (he:slEl P t = some (e,s,b,z)) (hs:0 < s) {B:Nat} {w:World} {p:Option Addr} {n c:Nat} {xs:List Value} {v:Value}
    {K:Option Addr->Nat->Nat->World->Prop} (ho:Own B w e s p n c xs) (hB:B <= w.heap.size) (hv:v.cells.size = s) (h1:∀ u ∈ v.cells.toList,u.oneCell' = true) (hb:(n + 1) * b <= 140737488355328) (hs24:s <= 16777216) (hm:n + 1 <= 9223372036854775807)
    (hk:∀ p' c' w',Own B w' e s p' (n + 1) c' (xs ++ v.cells.toList)->Grew w w' p p'->p' ≠ none->K p' (n + 1) c' w') :
    ∀ w1,Ext w w1->Run P (.buildSlice t 1 [(0,v)]) w1 fun v2 w2=>Ext w1 w2/\∃ q:Option Addr,∃ m:Nat,∃ d:Nat,v2 = .slice q m d/\∀ w3,Ext w2 w3 ->
      Run P (.append #[t,t] ty [.slice p n c,.slice q m d]) w3 fun v4 w4=>∃ q':Option Addr,∃ m':Nat,∃ d':Nat,v4 = .slice q' m' d'/\K q' m' d' w4:=by
  intro w1 e1
  refine run_lit he [v] rfl rfl (fun u hu=>by simp at hu; subst hu; exact hv) (by omega) (by omega) fun w2 o2 e2=>⟨e2,_,_,_,rfl,fun w3 e3=>?_⟩
  have o2:=(o2 w1.heap.size (Nat.le_refl _)).ext e3
  have ho':=((ho.ext e1).ext e2).ext e3
  have hsz:B <= w3.heap.size:=Nat.le_trans hB (Nat.le_trans e1.size (Nat.le_trans e2.size e3.size))
  refine run_app he hs ho' hsz (by simp) (news:=v.cells.toList) (by simp [hv]) (by simpa using o2.cells) h1 hb hm fun p' c' w4 h2 h3 h4=>⟨_,_,_,rfl,hk p' c' w4 h2 ?_ ?_⟩
  · exact Grew.of_ext e1 (Grew.of_ext e2 (Grew.of_ext e3 h3))
  · intro hn; have:=h4.1 hn; omega
def setAt:List Value->Nat->List Value->List Value
  | xs,_,[] => xs
  | xs,i,v :: r => setAt (xs.set i v) (i + 1) r
theorem own_set {B:Nat} {w:World} {e:TypeId} {s:Nat} {a:Addr} {n c:Nat} {xs:List Value} (ho:Own B w e s (some a) n c xs) {i:Nat} (hi:i < xs.length) (v:Value) :
    Own B (w.setCell (a.add i) v) e s (some a) n c (xs.set i v)/\Grew w (w.setCell (a.add i) v) (some a) (some a):=by
  rcases ho.2 with ⟨hv,_⟩ | ⟨g,cap,cur,hv,hbg,hg,hnc,hcm,hcs,htake⟩
  · simp at hv
  · obtain ⟨rfl,rfl⟩:a = ⟨g,0,none⟩/\c = cap:=by simpa using hv
    have hadd:(⟨g,0,none⟩:Addr).add i = ⟨g,i,none⟩:=by unfold Addr.add; split <;> simp_all
    have hlt:g < w.heap.size:=(Array.getElem?_eq_some_iff.1 hg).1
    have hgv:w.heap[g] = .cells cur e (0,0):=(Array.getElem?_eq_some_iff.1 hg).2
    have hnew:(w.setCell ⟨g,i,none⟩ v).heap[g]? = some (.cells (cur.setIfInBounds i v) e (0,0)):=by
      unfold World.setCell
      rw [Array.getElem?_eq_getElem (by simpa using hlt),Array.getElem_modify]
      simp [hgv]
    have hle:xs.length <= cur.size:=by rw [ho.1,hcs]; exact Nat.mul_le_mul_right _ hnc
    refine ⟨⟨by simp [ho.1],.inr ⟨g,c,_,rfl,hbg,by rw [hadd]; exact hnew,hnc,hcm,by simpa using hcs,?_⟩⟩,⟨⟨rfl,rfl,rfl,by simp [World.setCell],fun k hk hne=>?_⟩,.inl rfl⟩⟩
    · rw [Array.toList_setIfInBounds,List.take_set,htake]
    · refine Below.heap_setCell w _ v k ?_
      rw [hadd]; intro he; exact hne (by simp [blk,he])
theorem setCells_own {B:Nat} {e:TypeId} {s:Nat} {a:Addr} {n c:Nat}:∀ (vs:List Value) (k:Nat) (w:World) (xs:List Value) (off:Nat),Own B w e s (some a) n c xs->off + k + vs.length <= xs.length ->
    Own B (setCells w (a.add off) vs k) e s (some a) n c (setAt xs (off + k) vs)/\Grew w (setCells w (a.add off) vs k) (some a) (some a)
  | [],k,w,xs,off,ho,_ => ⟨ho,⟨⟨rfl,rfl,rfl,Nat.le_refl _,fun _ _ _ => rfl⟩,.inl rfl⟩⟩
  | v :: r,k,w,xs,off,ho,h => by
    simp only [List.length_cons] at h
    obtain ⟨h1,h2⟩:=own_set ho (i:=off + k) (by omega) v
    obtain ⟨h3,h4⟩:=setCells_own r (k + 1) _ _ off h1 (by simp; omega)
    simp only [setCells,setAt,add_add]
    refine ⟨by rw [Nat.add_assoc]; exact h3,⟨⟨h4.by_.os.trans h2.by_.os,h4.by_.tape.trans h2.by_.tape,h4.by_.output.trans h2.by_.output,Nat.le_trans h2.by_.size h4.by_.size,fun j hj hne=>?_⟩,.inl rfl⟩⟩
    exact (h4.by_.block j (Nat.lt_of_lt_of_le hj h2.by_.size) hne).trans (h2.by_.block j hj hne)
theorem store_own {B:Nat} {w:World} {e:TypeId} {s:Nat} {q a:Option Addr} {n c off:Nat} {xs vs:List Value} {ns:List Nat} {K:World->Prop}
    (ho:Own B w e s q n c xs) (ha:a = q.map (·.add off)) (hlen:off + vs.length <= xs.length) (hpos:vs ≠ []) (h1:∀ v ∈ vs,v.oneCell' = true) (hns:∀ b ∈ ns,∀ x,q = some x->x.block ≠ b)
    (hk:∀ w',Own B w' e s q n c (setAt xs off vs)->Grew w w' q q->K w'):Store w a vs ns K:=by
  cases q with
  | none =>
    rcases ho.2 with ⟨_,h2⟩ | ⟨g,cap,cur,hv,_⟩
    · have:=ho.1; rw [h2] at this; simp at this; subst this
      cases vs with
      | nil => exact absurd rfl hpos
      | cons v r => simp at hlen
    · simp at hv
  | some x =>
    simp only [Option.map_some] at ha
    subst ha
    have hcells:=ho.cells
    refine ⟨⟨by simp,fun i hi=>?_,fun i hi y hy=>?_,?_,h1⟩,fun w' hw'=>?_⟩
    · have:=hcells (off + i) _ (List.getElem?_eq_getElem (by omega))
      simp only [cell,Option.bind_some] at this ⊢
      rw [add_add,this]; rfl
    · obtain rfl:=Option.some.inj hy
      rcases ho.2 with ⟨hv,_⟩ | ⟨g,cap,cur,hv,hbg,hg,_⟩
      · simp at hv
      · obtain ⟨rfl,rfl⟩:x = ⟨g,0,none⟩/\c = cap:=by simpa using hv
        unfold World.frozen?
        rw [add_block,add_block,hg]
        simp
    · intro b hb y hy
      obtain rfl:=Option.some.inj hy
      rw [add_block]; exact hns b hb x rfl
    · obtain ⟨h2,h3⟩:=setCells_own vs 0 w xs off ho (by simpa using hlen)
      rw [hw']
      exact hk _ h2 h3
theorem pIdx_map {q:Option Addr} {i:Int} {n:Nat}:pIdx q i n = q.map (·.add (i.toNat * n)):=rfl
theorem pAdd_map {q:Option Addr} {i:Int} {n m:Nat}:pAdd (pIdx q i n) m = q.map (·.add (i.toNat * n + m)):=by
  cases q <;> simp [pAdd,pIdx,add_add]
end Go.Sx
namespace Go.Sx
open Go.RowKit
variable {P:Program}
def Recs {α:Type} (s:Nat) (enc:α->List Value) (w:World) (p:Option Addr) (xs:List α):Prop:=∀ (i:Nat) (x:α),xs[i]? = some x->∀ (j:Nat) (u:Value),(enc x)[j]? = some u->cell w p (i * s + j) = some u
theorem Recs.ext {α:Type} {s:Nat} {enc:α->List Value} {w w':World} {p:Option Addr} {xs:List α} (h:Recs s enc w p xs) (he:Ext w w'):Recs s enc w' p xs:=fun i x hx j u hu=>ext_cell he (h i x hx j u hu)
theorem Recs.at {α:Type} {s:Nat} {enc:α->List Value} {w:World} {p:Option Addr} {xs:List α} (h:Recs s enc w p xs) {k:Int} (h0:0 <= k) {x:α} (hx:xs[k.toNat]? = some x) {j:Nat} {u:Value} (hu:(enc x)[j]? = some u):cell w (pIdx p k s) j = some u:=by
  rw [cell_pIdx]; exact h _ x hx j u hu
theorem getElem?_getD {α:Type} (xs:List α) (d:α) {i:Nat} (h:i < xs.length):xs[i]? = some (xs.getD i d):=by
  simp [h,List.getD_eq_getElem?_getD]
theorem Recs.idx {α:Type} {s:Nat} {enc:α->List Value} {w:World} {p:Option Addr} {xs:List α} (h:Recs s enc w p xs) (d:α) {k:Int} (h0:0 <= k) (hk:k < xs.length) {j:Nat} {u:Value} (hu:(enc (xs.getD k.toNat d))[j]? = some u):cell w (pIdx p k s) j = some u :=
  h.at h0 (getElem?_getD xs d (by omega)) hu
theorem cell_p {w:World} {p:Option Addr} {j:Nat} {u:Value} (h:cell w p j = some u):p ≠ none:=by
  intro hp; subst hp; cases h
theorem Recs.ne {α:Type} {s:Nat} {enc:α->List Value} {w:World} {p:Option Addr} {xs:List α} (h:Recs s enc w p xs) {x:α} (hx:x ∈ xs) (he:enc x ≠ []):p ≠ none:=by
  obtain ⟨i,hi⟩:=List.mem_iff_getElem?.1 hx
  cases hx2:enc x with
  | nil => exact absurd hx2 he
  | cons a r => exact cell_p (h i x hi 0 a (by rw [hx2]; rfl))
theorem Recs.lt {α:Type} {s:Nat} {enc:α->List Value} {w:World} {p:Option Addr} {xs:List α} (h:Recs s enc w p xs) {x:α} (hx:x ∈ xs) (he:enc x ≠ []):∀ a,p = some a->a.block < w.heap.size:=by
  intro a ha
  obtain ⟨i,hi⟩:=List.mem_iff_getElem?.1 hx
  cases hx2:enc x with
  | nil => exact absurd hx2 he
  | cons b r =>
    obtain ⟨c,hc,hl,_⟩:=cell_some (h i x hi 0 b (by rw [hx2]; rfl))
    rw [ha] at hc
    obtain rfl:=Option.some.inj hc
    exact hl
theorem Own.recs {α:Type} {B:Nat} {w:World} {e:TypeId} {s:Nat} {p:Option Addr} {n c:Nat} {xs:List α} {enc:α->List Value} (h:Own B w e s p n c (xs.flatMap enc)) (hs:∀ x ∈ xs,(enc x).length = s):Recs s enc w p xs:=by
  intro i x hx j u hu
  refine h.cells _ u ?_
  clear h
  induction xs generalizing i with
  | nil => simp at hx
  | cons a r ih =>
    have ha:=hs a (List.mem_cons_self ..)
    simp only [List.flatMap_cons]
    cases i with
    | zero =>
      simp at hx; subst hx
      rw [Nat.zero_mul,Nat.zero_add,List.getElem?_append_left (List.getElem?_eq_some_iff.1 hu).1]; exact hu
    | succ i =>
      rw [List.getElem?_append_right (by rw [Nat.add_mul]; omega)]
      have:=ih (fun x hx=>hs x (List.mem_cons_of_mem _ hx)) i (by simpa using hx)
      rw [show (i + 1) * s + j - (enc a).length = i * s + j by rw [Nat.add_mul]; omega]
      exact this
theorem Own.leni {B:Nat} {w:World} {e:TypeId} {p:Option Addr} {n c:Nat} {α:Type} {f:α->Value} {xs:List α} (h:Own B w e 1 p n c (xs.map f)):xs.length = n:=by
  have:=h.len; simpa using this
theorem Own.ne {B:Nat} {w:World} {e:TypeId} {s:Nat} {p:Option Addr} {n c:Nat} {xs:List Value} (h:Own B w e s p n c xs) (hx:xs ≠ []):p ≠ none:=h.cells.ne hx
theorem Own.ne1 {B:Nat} {w:World} {e:TypeId} {s:Nat} {p:Option Addr} {n c:Nat} {xs:List Value} (h:Own B w e s p n c xs) (hn:0 < n) (hs:0 < s):p ≠ none:=by
  refine h.ne (fun hx=>?_)
  have h2:=Nat.mul_pos hn hs
  rw [<- h.len,hx] at h2
  simp at h2
theorem push_int {t ty e:TypeId} {z:Value} {k:IntKind} {b:Nat} (he:slEl P t = some (e,1,b,z)) {B:Nat} {w:World} {p:Option Addr} {n c:Nat} {xs:List Int} {x:Int}
    {K:Option Addr->Nat->Nat->World->Prop} (ho:Own B w e 1 p n c (xs.map (.int k))) (hB:B <= w.heap.size) (hb:(n + 1) * b <= 140737488355328) (hm:n + 1 <= 9223372036854775807)
    (hk:∀ p' c' w',Own B w' e 1 p' (n + 1) c' ((xs ++ [x]).map (.int k))->Grew w w' p p'->p' ≠ none->K p' (n + 1) c' w') :
    ∀ w1,Ext w w1->Run P (.buildSlice t 1 [(0,.int k x)]) w1 fun v2 w2=>Ext w1 w2/\∃ q:Option Addr,∃ m:Nat,∃ d:Nat,v2 = .slice q m d/\∀ w3,Ext w2 w3 ->
      Run P (.append #[t,t] ty [.slice p n c,.slice q m d]) w3 fun v4 w4=>∃ q':Option Addr,∃ m':Nat,∃ d':Nat,v4 = .slice q' m' d'/\K q' m' d' w4 :=
  push he (by omega) ho hB rfl (by intro u hu; simp [Value.cells] at hu; subst hu; rfl) hb (by omega) hm fun p' c' w' h1 h2 h3=>hk p' c' w' (by simpa [Value.cells] using h1) h2 h3
end Go.Sx
namespace Go.Sx
variable {P:Program}
end Go.Sx
namespace Go.Sx
variable {P:Program}
end Go.Sx
namespace Go.Sx
end Go.Sx
namespace Go.Sx
open Go.RowKit
theorem extB_ext {ns:List Nat} {w w':World} (h:ExtB [] ns w w'):Ext w w':=⟨h.os,h.tape,h.output,h.size,fun k hk=>h.block k hk (by simp)⟩
theorem but_below {B:Nat} {ds:List Nat} {w0 w w':World} (h:But ds w w') (hb:Below B w0 w) (hB:B <= w.heap.size) (hd:∀ d ∈ ds,B <= d):Below B w0 w' :=
  ⟨h.os.trans hb.os,h.tape.trans hb.tape,h.output.trans hb.output,Nat.le_trans hb.size h.size,fun k hk=>(h.block k (by omega) (fun hm=>by have:=hd k hm; omega)).trans (hb.block k hk)⟩
theorem but_ext {ds ns:List Nat} {w0 w w':World} (h:ExtB ds ns w w') (hb:Ext w0 w) (hd:∀ d ∈ ds,w0.heap.size <= d):Ext w0 w':=but_below h.toBut hb hb.size hd
theorem Own.but {B:Nat} {w w':World} {e:TypeId} {s:Nat} {p:Option Addr} {n c:Nat} {xs:List Value} {ds:List Nat} (h:Own B w e s p n c xs) (hb:But ds w w') (hd:∀ d ∈ ds,∀ x,p = some x->x.block ≠ d):Own B w' e s p n c xs:=by
  refine ⟨h.1,h.2.imp id ?_⟩
  rintro ⟨g,cap,cur,h1,h2,h3,h4⟩
  refine ⟨g,cap,cur,h1,h2,?_,h4⟩
  have hlt:=(Array.getElem?_eq_some_iff.1 h3).1
  rw [hb.block g hlt (fun hm=>?_)]
  · exact h3
  · simp at h1
    exact hd g hm _ h1.1 rfl
theorem new_own {w:World} {t:TypeId} {vs:List Value} {K:Option Addr->World->Prop} (h1:∀ v ∈ vs,v.oneCell' = true)
    (h:∀ w',(∀ B,B <= w.heap.size->Own B w' t vs.length (some ⟨w.heap.size,0,none⟩) 1 1 vs)->Ext w w'->K (some ⟨w.heap.size,0,none⟩) w'):New w t vs K:=by
  refine ⟨h1,fun p w' hn=>?_⟩
  rw [hn.at_]
  refine h w' (fun B hB=>⟨by simp,.inr ⟨w.heap.size,1,vs.toArray,rfl,hB,hn.block,Nat.le_refl _,by simp [maxLen],by simp,by simp⟩⟩) hn.ext
theorem map_add0 (p:Option Addr):p = p.map (·.add 0):=by cases p <;> simp [add_zero]
theorem Own.size_lt {B:Nat} {w:World} {e:TypeId} {s:Nat} {b n c:Nat} {xs:List Value} (h:Own B w e s (some ⟨b,0,none⟩) n c xs):b < w.heap.size:=(h.lt _ rfl).2
end Go.Sx
namespace Go.Sx
open Go.RowKit
variable {P:Program}
theorem push_intB {t ty e:TypeId} {z:Value} {k:IntKind} {b:Nat} (he:slEl P t = some (e,1,b,z)) {B:Nat} {w:World} {p:Option Addr} {n c:Nat} {xs:List Int} {x:Int} {ns:List Nat}
    {K:Option Addr->Nat->Nat->World->Prop} (ho:Own B w e 1 p n c (xs.map (.int k))) (hB:B <= w.heap.size) (hns:∀ b ∈ ns,∀ x,p = some x->x.block ≠ b) (hb:(n + 1) * b <= 140737488355328) (hm:n + 1 <= 9223372036854775807)
    (hk:∀ p' c' w',Own B w' e 1 p' (n + 1) c' ((xs ++ [x]).map (.int k))->Grew w w' p p'->p' ≠ none->(∀ b ∈ ns,∀ x,p' = some x->x.block ≠ b)->K p' (n + 1) c' w') :
    ∀ w1,ExtB [] ns w w1->Run P (.buildSlice t 1 [(0,.int k x)]) w1 fun v2 w2=>Ext w1 w2/\∃ q:Option Addr,∃ m:Nat,∃ d:Nat,v2 = .slice q m d/\∀ w3,ExtB [] ns w2 w3 ->
      Run P (.append #[t,t] ty [.slice p n c,.slice q m d]) w3 fun v4 w4=>Kept ns w3 w4/\∃ q':Option Addr,∃ m':Nat,∃ d':Nat,v4 = .slice q' m' d'/\K q' m' d' w4:=by
  intro w1 x1
  have e1:=extB_ext x1
  refine run_lit he [.int k x] rfl rfl (fun u hu=>by simp at hu; subst hu; rfl) (by omega) (by omega) fun w2 o2 e2=>⟨e2,_,_,_,rfl,fun w3 x3=>?_⟩
  have e3:=extB_ext x3
  have o2:=(o2 w1.heap.size (Nat.le_refl _)).ext e3
  have ho':=((ho.ext e1).ext e2).ext e3
  have hsz:B <= w3.heap.size:=Nat.le_trans hB (Nat.le_trans e1.size (Nat.le_trans e2.size e3.size))
  refine run_app he (by omega) ho' hsz (by simp) (news:=[.int k x]) (by simp) (by simpa [Value.cells] using o2.cells) (by intro u hu; simp at hu; subst hu; rfl) hb hm fun p' c' w4 h2 h3 h4=>⟨fun b hb=>?_,_,_,_,rfl,hk p' c' w4 (by simpa using h2) ?_ ?_ ?_⟩
  · refine h3.by_.block b (x3.lt b hb) fun he=>?_
    cases p with
    | none => cases he
    | some y => simp [blk] at he; exact hns b hb y rfl he.symm
  · exact Grew.of_ext e1 (Grew.of_ext e2 (Grew.of_ext e3 h3))
  · intro hn; have:=h4.1 hn; omega
  · intro b hb y hy heq
    rcases h3.new with hn | hn
    · subst hy
      cases p with
      | none => simp [blk] at hn
      | some z' => simp [blk] at hn; exact hns b hb z' rfl (by omega)
    · have:=hn y hy
      have:=x3.lt b hb
      omega
end Go.Sx
namespace Go.Sx
open Go.RowKit
variable {P:Program}
theorem run_lit0 {t e:TypeId} {s b:Nat} {z:Value} (he:slEl P t = some (e,s,b,z)) {w:World} {K:Value->World->Prop}
    (hk:∀ w',(∀ B,B <= w.heap.size->Own B w' e s (some ⟨w.heap.size,0,none⟩) 0 0 [])->Ext w w'->K (.slice (some ⟨w.heap.size,0,none⟩) 0 0) w'):Run P (.buildSlice t 0 []) w K:=by
  obtain ⟨i,h1,h2,h3,rfl,rfl,h6⟩:=slEl_some he
  refine ⟨_,w.alloc (.cells #[] e),?_,hk _ (fun B hB=>⟨by simp,.inr ⟨w.heap.size,0,#[],rfl,hB,heap_alloc_new w _,Nat.le_refl _,by simp [maxLen],by simp,by simp⟩⟩) ?_⟩
  · show (Instr.buildSlice t 0 #[]).run P w = _
    simp [Instr.buildSlice,run_underlying h1,sizeOf,typeInfo,zeroValue,h2,h3,newRow,Instr.fill]
    congr 2
    apply Array.eq_empty_of_size_eq_zero; simp
  · exact Below.alloc (Below.refl _ _) (Nat.le_refl _) _
theorem Own.pre {B:Nat} {w:World} {e:TypeId} {s:Nat} {p:Option Addr} {n c m:Nat} {xs:List Value} (h:Own B w e s p n c xs) (hm:m <= n):Own B w e s p m c (xs.take (m * s)):=by
  have hle:m * s <= n * s:=Nat.mul_le_mul_right _ hm
  refine ⟨by rw [List.length_take,h.1]; omega,?_⟩
  rcases h.2 with ⟨hv,hn⟩ | ⟨g,cap,cur,hv,hb,hg,hnc,hcm,hcs,ht⟩
  · left
    obtain ⟨rfl,_,rfl⟩:p = none/\n = 0/\c = 0:=by simpa using hv
    exact ⟨by rw [show m = 0 by omega],by omega⟩
  · right
    obtain ⟨rfl,_,rfl⟩:p = some ⟨g,0,none⟩/\n = n/\c = cap:=by simpa using hv
    refine ⟨g,c,cur,rfl,hb,hg,by omega,hcm,hcs,?_⟩
    rw [<- ht,List.take_take,Nat.min_eq_left hle]
end Go.Sx
namespace Go.Sx
open Go.RowKit
variable {P:Program}
section flat
variable {α:Type} {enc:α->List Value} {s:Nat}
theorem recs_len (hs:∀ x,(enc x).length = s) (L:List α):(L.flatMap enc).length = L.length * s:=by
  induction L with
  | nil => simp
  | cons a r ih => rw [List.flatMap_cons,List.length_append,ih,hs,List.length_cons,Nat.add_mul]; omega
theorem recs_take (hs:∀ x,(enc x).length = s) (L:List α) (m:Nat):(L.flatMap enc).take (m * s) = (L.take m).flatMap enc:=by
  induction L generalizing m with
  | nil => simp
  | cons a r ih =>
    cases m with
    | zero => simp
    | succ m => rw [List.flatMap_cons,List.take_succ_cons,List.flatMap_cons,<- ih m,show (m + 1) * s = (enc a).length + m * s by rw [hs,Nat.add_mul]; omega,List.take_length_add_append]
theorem recs_drop (hs:∀ x,(enc x).length = s) (L:List α) (m:Nat):(L.flatMap enc).drop (m * s) = (L.drop m).flatMap enc:=by
  induction L generalizing m with
  | nil => simp
  | cons a r ih =>
    cases m with
    | zero => simp
    | succ m => rw [List.flatMap_cons,List.drop_succ_cons,<- ih m,show (m + 1) * s = (enc a).length + m * s by rw [hs,Nat.add_mul]; omega,List.drop_length_add_append]
theorem recs_cells (hs:∀ x,(enc x).length = s) {w:World} {p:Option Addr} {L:List α} (h:Recs s enc w p L):Cells w p (L.flatMap enc):=by
  have key:∀ (L:List α) (off:Nat),(∀ (i:Nat) (x:α),L[i]? = some x->∀ (j:Nat) (u:Value),(enc x)[j]? = some u->cell w p ((off + i) * s + j) = some u)->∀ (k:Nat) (v:Value),(L.flatMap enc)[k]? = some v->cell w p (off * s + k) = some v:=by
    intro L
    induction L with
    | nil => intro off _ k v hv; simp at hv
    | cons a r ih =>
      intro off hc k v hv
      rw [List.flatMap_cons] at hv
      by_cases hk:k < s
      · rw [List.getElem?_append_left (by rw [hs]; exact hk)] at hv
        exact hc 0 a rfl k v hv
      · rw [List.getElem?_append_right (by rw [hs]; omega),hs] at hv
        have:=ih (off + 1) (fun i x hx j u hu=>by
          have:=hc (i + 1) x (by simpa using hx) j u hu
          rwa [show off + 1 + i = off + (i + 1) by omega]) (k - s) v hv
        rwa [show (off + 1) * s + (k - s) = off * s + k by rw [Nat.add_mul]; omega] at this
  intro k v hv
  have:=key L 0 (fun i x hx j u hu=>by rw [Nat.zero_add]; exact h i x hx j u hu) k v hv
  simpa using this
theorem recs_one (h1:∀ x,∀ u ∈ enc x,u.oneCell' = true) (L:List α):∀ u ∈ L.flatMap enc,u.oneCell' = true:=fun u hu=>by
  obtain ⟨x,_,hx⟩:=List.mem_flatMap.1 hu
  exact h1 x u hx
end flat
theorem clone_txt {t ty e:TypeId} {s b:Nat} {z:Value} (he:slEl P t = some (e,s,b,z)) (hs:0 < s) {w:World} {q:Option Addr} {n c:Nat} {xs:List Value} {Q:Value->World->Prop}
    (hx:Cells w q xs) (hl:xs.length = n * s) (h1:∀ u ∈ xs,u.oneCell' = true) (hb:n * b <= 140737488355328) (hn:n <= 9223372036854775807) (hq:q ≠ none)
    (hk:∀ p' c' w',Ext w w'->Own w.heap.size w' e s p' n c' xs->Q (.slice p' n c') w') :
    ∀ w0,Ext w w0->Run P (.buildSlice t 0 []) w0 fun v1 w1=>Ext w0 w1/\∃ t2:Option Addr,∃ tl3:Nat,∃ tc4:Nat,v1 = (.slice t2 tl3 tc4) /\
      ∀ w5,Ext w1 w5->Run P (.append #[t,t] ty [(.slice t2 tl3 tc4),(.slice q n c)]) w5 fun v6 w6=>∃ t7:Option Addr,∃ tl8:Nat,∃ tc9:Nat,v6 = (.slice t7 tl8 tc9)/\∀ w10,Ext w6 w10->Q (.slice t7 tl8 tc9) w10:=by
  intro w0 h0
  refine run_lit0 he fun w1 o1 e1=>⟨e1,_,_,_,rfl,fun w5 h5=>?_⟩
  have o5:=(o1 w.heap.size h0.size).ext h5
  have hx5:=(h0.trans e1).trans h5
  refine run_app he hs o5 hx5.size hq (news:=xs) hl (hx.ext hx5) h1 (by rw [Nat.zero_add]; exact hb) (by omega) fun p' c' w6 o6 g6 _=>⟨_,_,_,rfl,fun w10 h10=>?_⟩
  simp only [Nat.zero_add,List.nil_append] at o6 ⊢
  exact hk _ _ _ ((g6.ext hx5 o5).trans h10) (o6.ext h10)
theorem grew_of_ext {w w':World} {p:Option Addr} (h:Ext w w'):Grew w w' p p :=
  ⟨⟨h.os,h.tape,h.output,h.size,fun k hk _=>h.block k hk⟩,.inl rfl⟩
end Go.Sx
namespace Go.Sx
theorem Own.st {B:Nat} {w w':World} {e:TypeId} {s:Nat} {p q q':Option Addr} {n c:Nat} {xs:List Value} (h:Own B w e s p n c xs) (ha:Apart p q) (hg:Grew w w' q q'):Own B w' e s p n c xs:=h.grew (B':=0) ha hg
end Go.Sx
set_option linter.unusedVariables false
set_option linter.unusedSimpArgs false
namespace Go.Sx
open Go.RowKit
variable {P:Program}
theorem laidVars_mem {w:World}:∀ {l:List (String × DataW Unit)} {ps:List MemPlace},DataW.LaidVars P w l ps->∀ x ∈ l,
    ∃ g t cs fuel p,P.globalNamed x.1 = some g/\(P.globals[g]?).map (·.type) = some t/\w.var? P x.1 = some cs/\DataW.trod (fun _=>()) P w 0 (fun _=>true) false fuel t cs.toList = some (x.2,p)
  | [],ps,_,x,hx => by cases hx
  | (n,d) :: r,ps,h,x,hx => by
    obtain ⟨g,t,cs,fuel,p,q,h1,h2,h3,h4,h5,_⟩:=h
    rcases List.mem_cons.1 hx with rfl | hx
    · exact ⟨g,t,cs,fuel,p,h1,h2,h3,h4⟩
    · exact laidVars_mem h5 x hx
end Go.Sx
namespace Go.Sx
open Go.RowKit
variable {P:Program}
theorem part_int' {t:TypeId} {k:IntKind} (h:P.underlying t = some (.int k)) {xs:Array Value} {off:Nat} {v:Value} (hx:xs[off]? = some v) (w:World):(part t xs off).run P w = .ok v w:=by
  simp [part,isAgg,run_underlying h,hx]
end Go.Sx
namespace Go.Sx
open Go.RowKit
variable {P:Program}
theorem eqFields_ints {k:IntKind} (xs ys:List Int) (w:World) (he:xs.length = ys.length):∀ (fs:List Field) (off:Nat),off + fs.length = xs.length ->
    fs.map (fun f => (f.name != "_", P.underlying f.type, f.offset)) = (List.range' off fs.length).map (fun i => (true, some (.int k), i)) ->
    (Op.eqFields 9999 (xs.map (Value.int k)).toArray (ys.map (Value.int k)).toArray fs).run P w = .ok (decide (xs.drop off = ys.drop off)) w
  | [],off,hl,_ => by
    simp only [List.length_nil,Nat.add_zero] at hl
    rw [List.drop_of_length_le (by omega),List.drop_of_length_le (by omega)]
    simp [Op.eqFields]
  | f :: fs,off,hl,hf => by
    rw [List.length_cons,List.range'_succ,List.map_cons,List.map_cons,List.cons.injEq,Prod.mk.injEq,Prod.mk.injEq] at hf
    obtain ⟨⟨n1,u1,o1⟩,hr⟩:=hf
    have h1:off < xs.length:=by simp only [List.length_cons] at hl; omega
    have n1 : f.name ≠ "_" := by simpa using n1
    have p1:∀ zs:List Int,(h:off < zs.length)->(part f.type (zs.map (Value.int k)).toArray f.offset).run P w = .ok (.int k zs[off]) w:=fun zs h=>part_int' u1 (by rw [o1]; simp [h]) w
    have q1:(Op.equalIn 9999 f.type (.int k xs[off]) (.int k (ys[off]'(he ▸ h1)))).run P w = .ok (xs[off] == ys[off]'(he ▸ h1)) w:=run_equalIn_int w 9998 _ _ _ _ _ u1
    have ih:=eqFields_ints xs ys w he fs (off + 1) (by simp only [List.length_cons] at hl; omega) hr
    have d1:xs.drop off = xs[off] :: xs.drop (off + 1):=List.drop_eq_getElem_cons h1
    have d2:ys.drop off = ys[off]'(he ▸ h1) :: ys.drop (off + 1):=List.drop_eq_getElem_cons (he ▸ h1)
    simp only [Op.eqFields,n1,ne_eq,not_false_eq_true,if_true,Sem.run_bind,p1 xs h1,p1 ys (he ▸ h1),q1,Result.andThen_ok,Sem.run_ite,Sem.run_pure]
    have hd:decide (xs.drop off = ys.drop off) = decide (xs[off] = ys[off]'(he ▸ h1)/\xs.drop (off + 1) = ys.drop (off + 1)):=by
      rw [decide_eq_decide,d1,d2,List.cons.injEq]
    rw [hd]
    clear d1 d2 hd
    by_cases e1:xs[off] = ys[off]'(he ▸ h1)
    · simp [e1,ih]
    · simp [e1]
theorem equalIn_ints {t:TypeId} {k:IntKind} {n:Nat} (ht:P.underlying t = some (.struct (P.fieldsOf t))) (hp:P.stoodInHeld t = false)
    (hf : (P.fieldsOf t).toList.map (fun f => (f.name != "_", P.underlying f.type, f.offset)) = (List.range' 0 n).map (fun i => (true, some (.int k), i))) (xs ys : List Int) (hx : xs.length = n) (hy : ys.length = n) (w : World) :
    (Op.equalIn 10000 t (.agg (xs.map (Value.int k)).toArray) (.agg (ys.map (Value.int k)).toArray)).run P w = .ok (decide (xs = ys)) w:=by
  have hn:(P.fieldsOf t).toList.length = n:=by simpa using congrArg List.length hf
  rw [run_equalIn_struct w 9999 t _ _ ht hp,eqFields_ints xs ys w (by omega) _ 0 (by omega) (by rw [hn]; exact hf)]
  simp
theorem run_eqs {t:TypeId} {k:IntKind} {n:Nat} (ht:P.underlying t = some (.struct (P.fieldsOf t))) (hp:P.stoodInHeld t = false) (hm:P.eqGuardType P.depth t = false)
    (hf : (P.fieldsOf t).toList.map (fun f => (f.name != "_", P.underlying f.type, f.offset)) = (List.range' 0 n).map (fun i => (true, some (.int k), i))) (xs ys : List Int) (hx : xs.length = n) (hy : ys.length = n)
    {cx cy:Bool} {w:World} {K:Value->World->Prop} (hk:K (.bool (decide (xs = ys))) w):Run P (.eq .eql t cx cy (.agg (xs.map (Value.int k)).toArray) (.agg (ys.map (Value.int k)).toArray)) w K:=by
  refine ⟨_,w,?_,hk⟩
  show (do eqGuard .eql t _ _ (.agg (xs.map (Value.int k)).toArray) (.agg (ys.map (Value.int k)).toArray); binOp .eql t (.agg (xs.map (Value.int k)).toArray) (.agg (ys.map (Value.int k)).toArray):Sem Value).run P w = _
  rw [Sem.run_bind,run_eqGuard_agg w _ _ _ _ _ _ hm,Result.andThen_ok,run_eql_struct,equalIn_ints ht hp hf xs ys hx hy]
  rfl
theorem run_nes {t:TypeId} {k:IntKind} {n:Nat} (ht:P.underlying t = some (.struct (P.fieldsOf t))) (hp:P.stoodInHeld t = false) (hm:P.eqGuardType P.depth t = false)
    (hf : (P.fieldsOf t).toList.map (fun f => (f.name != "_", P.underlying f.type, f.offset)) = (List.range' 0 n).map (fun i => (true, some (.int k), i))) (xs ys : List Int) (hx : xs.length = n) (hy : ys.length = n)
    {cx cy:Bool} {w:World} {K:Value->World->Prop} (hk:K (.bool (!decide (xs = ys))) w):Run P (.eq .neq t cx cy (.agg (xs.map (Value.int k)).toArray) (.agg (ys.map (Value.int k)).toArray)) w K:=by
  refine ⟨_,w,?_,hk⟩
  show (do eqGuard .neq t _ _ (.agg (xs.map (Value.int k)).toArray) (.agg (ys.map (Value.int k)).toArray); binOp .neq t (.agg (xs.map (Value.int k)).toArray) (.agg (ys.map (Value.int k)).toArray):Sem Value).run P w = _
  rw [Sem.run_bind,run_eqGuard_agg w _ _ _ _ _ _ hm,Result.andThen_ok,run_neq_struct,equalIn_ints ht hp hf xs ys hx hy]
  rfl
end Go.Sx
set_option linter.unusedVariables false
set_option linter.unusedSimpArgs false
namespace Go.Sx
end Go.Sx
namespace Go.Sx
end Go.Sx
namespace Go.Sx
theorem getD_mem {α:Type} (l:List α) (d:α) {i:Nat} (h:i < l.length):l.getD i d ∈ l:=by
  rw [List.getD_eq_getElem?_getD]; simp [h]
end Go.Sx
namespace Go.Sx
end Go.Sx
set_option linter.unusedVariables false
set_option linter.unusedSimpArgs false
set_option maxRecDepth 100000
namespace Go.Proofs.YtegephkpdlopaaaGreatDoor
open Go.Sx Go.RowKit
abbrev F_bytes_Equal:FuncId:=17
abbrev F_journal_New:FuncId:=21
abbrev F_event_Check:FuncId:=22
abbrev F_journal_Frame:FuncId:=23
abbrev F_journal_Disk_Write:FuncId:=24
abbrev F_journal_Disk_Bytes:FuncId:=26
abbrev F_journal_Disk_Sync:FuncId:=36
abbrev F_journal_Disk_Crash:FuncId:=37
abbrev F_event_plain:FuncId:=43
abbrev F_job_Check:FuncId:=44
abbrev F_event_Encode:FuncId:=45
abbrev F_ticket_Sum:FuncId:=46
abbrev F_bytes_Clone:FuncId:=48
abbrev F_need_Check:FuncId:=68
abbrev F_job_Text:FuncId:=73
abbrev F_event_number:FuncId:=74
abbrev F_need_parts:FuncId:=98
abbrev F_need_Text:FuncId:=101
abbrev F_strings_Join:FuncId:=103
abbrev F_strings_Split:FuncId:=106
abbrev F_need_Read:FuncId:=108
abbrev F_need_text:FuncId:=119
abbrev F_strings_Cut:FuncId:=128
abbrev F_strconv_ParseInt:FuncId:=129
abbrev F_strconv_FormatInt:FuncId:=136
abbrev T_int64:TypeId:=2
abbrev T_int:TypeId:=3
abbrev T_bool:TypeId:=4
abbrev T_uint8:TypeId:=5
abbrev T_string:TypeId:=9
abbrev T_sl_Event:TypeId:=27
abbrev T_Need:TypeId:=34
abbrev T_sl_Ask:TypeId:=35
abbrev T_Ask:TypeId:=37
abbrev T_sl_int:TypeId:=38
abbrev T_Job:TypeId:=40
abbrev T_Event:TypeId:=42
abbrev T_sl_uint8:TypeId:=48
abbrev T_safe_Safe:TypeId:=63
abbrev T_sl_State:TypeId:=71
abbrev T_sl_Label:TypeId:=83
abbrev T_Host:TypeId:=85
abbrev T_farm_Farm:TypeId:=90
abbrev T_journal_Disk:TypeId:=92
abbrev T_uint64:TypeId:=96
abbrev T_State:TypeId:=103
abbrev T_Label:TypeId:=110
abbrev T_Item:TypeId:=119
abbrev T_Start:TypeId:=126
abbrev T_map_string_bool:TypeId:=130
abbrev T_map_int_ptr_queue_thing:TypeId:=147
abbrev T_queue_row:TypeId:=149
abbrev T_queue_Queue:TypeId:=151
abbrev T_ptr_queue_thing:TypeId:=154
abbrev T_queue_thing:TypeId:=156
abbrev T_ptr_queue_row:TypeId:=158
abbrev T_sl_Need:TypeId:=206
abbrev T_ask_reader:TypeId:=222
theorem elem_sl_Host:slEl Tryz.prog 22 = some (85,8,88,(.agg #[(.string (⟨#[]⟩:ByteArray)),(.slice none 0 0),(.int .i64 0),(.int .i64 0),(.int .i64 0),(.int .i64 0),(.int .i64 0),(.int .i64 0)])):=by kernel_rfl
theorem elem_sl_Event:slEl Tryz.prog 27 = some (42,15,176,(.agg #[(.int .i64 0),(.string (⟨#[]⟩:ByteArray)),(.int .i64 0),(.int .i64 0),(.int .i64 0),(.int .i64 0),(.int .i64 0),(.string (⟨#[]⟩:ByteArray)),(.string (⟨#[]⟩:ByteArray)),(.int .i64 0),(.slice none 0 0),(.slice none 0 0),(.int .i64 0),(.int .i64 0),(.bool false)])):=by kernel_rfl
theorem elem_sl_Ask:slEl Tryz.prog 35 = some (37,5,72,(.agg #[(.int .i64 0),(.string (⟨#[]⟩:ByteArray)),(.string (⟨#[]⟩:ByteArray)),(.int .i64 0),(.slice none 0 0)])):=by kernel_rfl
theorem elem_sl_int:slEl Tryz.prog 38 = some (3,1,8,(.int .i64 0)):=by kernel_rfl
theorem elem_sl_uint8:slEl Tryz.prog 48 = some (5,1,1,(.int .u8 0)):=by kernel_rfl
theorem elem_sl_Start:slEl Tryz.prog 77 = some (126,2,16,(.agg #[(.int .i64 0),(.int .i64 0)])):=by kernel_rfl
theorem elem_sl_Label:slEl Tryz.prog 83 = some (110,2,32,(.agg #[(.string (⟨#[]⟩:ByteArray)),(.string (⟨#[]⟩:ByteArray))])):=by kernel_rfl
theorem elem_sl_ptr_queue_thing:slEl Tryz.prog 148 = some (154,1,8,(.pointer none)):=by kernel_rfl
theorem elem_sl_need_part:slEl Tryz.prog 173 = some (178,2,24,(.agg #[(.string (⟨#[]⟩:ByteArray)),(.pointer none)])):=by kernel_rfl
theorem elem_sl_string:slEl Tryz.prog 185 = some (9,1,16,(.string (⟨#[]⟩:ByteArray))):=by kernel_rfl
theorem elem_sl_Need:slEl Tryz.prog 206 = some (34,3,24,(.agg #[(.int .i64 0),(.int .i64 0),(.int .i64 0)])):=by kernel_rfl
def wp_ticket_Sum (key:Int) (s:ByteArray) (w:World) (Q:Value->World->Prop):Prop :=
 ∀ w0,Ext w w0 ->
 Run Tryz.prog (.convert 9 48 (.string s)) w0 fun v1 w1 =>
 Ext w0 w1 /\
 ∃ t2:Option Addr,∃ tl3:Nat,∃ tc4:Nat,v1 = (.slice t2 tl3 tc4) /\
 ∃ (I5:Int->Int->World->Prop) (M5:Int->Int->World->Nat),I5 key 0 w1 /\
 ∀ (u6:Int) (k7:Int) (w8:World),I5 u6 k7 w8 ->
 (((k7 < (tl3:Int)) ->
 t2 ≠ none /\
 (0:Int) <= k7 /\
 (k7:Int) < (tl3:Int) /\
 ∃ t9:Int,cell w8 (pIdx t2 k7 1) 0 = some (.int .u8 t9) /\
 InR .u64 t9 /\
 InR .i64 (k7 + 1) /\
 (I5 (iBit .xor .u64 (IntKind.wrap .u64 ((IntKind.wrap .u64 (u6 + t9)) * 11400714785074694791)) (iBit .shr .u64 (IntKind.wrap .u64 ((IntKind.wrap .u64 (u6 + t9)) * 11400714785074694791)) 31)) (k7 + 1) w8/\M5 (iBit .xor .u64 (IntKind.wrap .u64 ((IntKind.wrap .u64 (u6 + t9)) * 11400714785074694791)) (iBit .shr .u64 (IntKind.wrap .u64 ((IntKind.wrap .u64 (u6 + t9)) * 11400714785074694791)) 31)) (k7 + 1) w8 < M5 u6 k7 w8))) /\
 (((tl3:Int) <= k7) ->
 ∀ w9,Ext w8 w9 ->
 Q (.int .u64 u6) w9)
theorem ok_ticket_Sum (key:Int) (s:ByteArray) (w:World) (Q:Value->World->Prop) (h:wp_ticket_Sum key s w Q):FnP Tryz.prog F_ticket_Sum #[(.int .u64 key),(.string s)] w Q:=by
  have e_:wp_ticket_Sum key s w Q = Runs Tryz.prog Q ({ N:=27,wrap:=[19,20],pub:=[],muts:=[],joins:=[] }:Cfg) Tryz.f46 (Tryz.f46.body.getD .skip) [.sc (.int .u64 key),.sc (.str s)] w:=by kernel_rfl
  rw [e_] at h
  exact runs_fn h Tryz.func46 (by kernel_rfl) (fun args w=>Tryz.call46 args w) (by kernel_rfl) (by kernel_rfl) rfl rfl
def wp_event_plain (j_0:ByteArray) (j_1:Int) (j_2:Int) (j_3:Int) (j_4:Int) (j_5:Int) (j_6:ByteArray) (j_7:ByteArray) (j_8:Int) (j_9:Option Addr) (j_9l:Nat) (j_9c:Nat) (j_10:Option Addr) (j_10l:Nat) (j_10c:Nat) (w:World) (Q:Value->World->Prop):Prop :=
 ∀ b0:Nat,w.heap.size <= b0->((((j_0 = (⟨#[]⟩:ByteArray))/\(j_1 = 0)) ->
 ∀ w1,Ext w w1 ->
 Run Tryz.prog (.eq .eql 34 false false (.agg #[(.int .i64 j_2),(.int .i64 j_3),(.int .i64 j_4)]) (.agg #[(.int .i64 0),(.int .i64 0),(.int .i64 0)])) w1 fun v2 w2 =>
 Ext w1 w2 /\
 ∃ t3:Bool,v2 = (.bool t3) /\
 ∀ w4,Ext w w4 ->
 Q (.bool ((((((t3 && (decide ((j_10l:Int) = 0))) && (decide (j_5 = 0))) && (decide (j_6 = (⟨#[]⟩:ByteArray)))) && (decide (j_7 = (⟨#[]⟩:ByteArray)))) && (decide (j_8 = 0))) && (decide ((j_9l:Int) = 0)))) w4)) /\
 (((j_0 ≠ (⟨#[]⟩:ByteArray))\/(j_1 ≠ 0)) ->
 ∀ w1,Ext w w1 ->
 Q (.bool false) w1)
theorem ok_event_plain (j_0:ByteArray) (j_1:Int) (j_2:Int) (j_3:Int) (j_4:Int) (j_5:Int) (j_6:ByteArray) (j_7:ByteArray) (j_8:Int) (j_9:Option Addr) (j_9l:Nat) (j_9c:Nat) (j_10:Option Addr) (j_10l:Nat) (j_10c:Nat) (w:World) (Q:Value->World->Prop) (h:wp_event_plain j_0 j_1 j_2 j_3 j_4 j_5 j_6 j_7 j_8 j_9 j_9l j_9c j_10 j_10l j_10c w Q):FnP Tryz.prog F_event_plain #[(.agg #[(.string j_0),(.int .i64 j_1),(.int .i64 j_2),(.int .i64 j_3),(.int .i64 j_4),(.int .i64 j_5),(.string j_6),(.string j_7),(.int .i64 j_8),(.slice j_9 j_9l j_9c),(.slice j_10 j_10l j_10c)])] w Q:=by
  have e_:wp_event_plain j_0 j_1 j_2 j_3 j_4 j_5 j_6 j_7 j_8 j_9 j_9l j_9c j_10 j_10l j_10c w Q = Runs Tryz.prog Q ({ N:=54,wrap:=[],pub:=[],muts:=[],joins:=[] }:Cfg) Tryz.f43 (Tryz.f43.body.getD .skip) [.agg [.str j_0,.int .i64 j_1,.int .i64 j_2,.int .i64 j_3,.int .i64 j_4,.int .i64 j_5,.str j_6,.str j_7,.int .i64 j_8,.slc j_9 j_9l j_9c,.slc j_10 j_10l j_10c]] w:=by kernel_rfl
  rw [e_] at h
  exact runs_fn h Tryz.func43 (by kernel_rfl) (fun args w=>Tryz.call43 args w) (by kernel_rfl) (by kernel_rfl) rfl rfl
def wp_event_Check (x_0:Int) (x_1:ByteArray) (x_2:Int) (x_3:Int) (x_4:Int) (x_5:Int) (x_6:Int) (x_7:ByteArray) (x_8:ByteArray) (x_9:Int) (x_10:Option Addr) (x_10l:Nat) (x_10c:Nat) (x_11:Option Addr) (x_11l:Nat) (x_11c:Nat) (x_12:Int) (x_13:Int) (x_14:Bool) (w:World) (Q:Value->World->Prop):Prop :=
 ∀ b0:Nat,w.heap.size <= b0->(((x_0 < 1)\/(5 < x_0)) ->
 ∀ w1,Ext w w1 ->
 Q (.int .i64 1) w1) /\
 (((1 <= x_0)/\(x_0 <= 5)) ->
 (((x_0 ≠ 1) ->
 ∀ w1,Ext w w1 ->
 FnP Tryz.prog F_event_plain #[(.agg #[(.string x_1),(.int .i64 x_2),(.int .i64 x_3),(.int .i64 x_4),(.int .i64 x_5),(.int .i64 x_6),(.string x_7),(.string x_8),(.int .i64 x_9),(.slice x_10 x_10l x_10c),(.slice x_11 x_11l x_11c)])] w1 fun v2 w2 =>
 Ext w1 w2 /\
 ∃ t3:Bool,v2 = (.bool t3) /\
 ((((((t3 = false)\/((x_0 ≠ 2)/\(x_12 ≠ 0)))\/(((x_0 ≠ 4)/\(x_0 ≠ 5))/\(x_13 ≠ 0)))\/((x_0 ≠ 4)/\(x_14 = true))) ->
 ∀ w4,Ext w w4 ->
 Q (.int .i64 1) w4)) /\
 (((((t3 = true)/\((x_0 = 2)\/(x_12 = 0)))/\(((x_0 = 4)\/(x_0 = 5))\/(x_13 = 0)))/\((x_0 = 4)\/(x_14 = false))) ->
 (((x_0 = 1) ->
 ∀ w4,Ext w w4 ->
 FnP Tryz.prog F_job_Check #[(.agg #[(.string x_1),(.int .i64 x_2),(.int .i64 x_3),(.int .i64 x_4),(.int .i64 x_5),(.int .i64 x_6),(.string x_7),(.string x_8),(.int .i64 x_9),(.slice x_10 x_10l x_10c),(.slice x_11 x_11l x_11c)])] w4 fun v5 w5 =>
 Ext w4 w5 /\
 ∃ t6:Int,v5 = (.int .i64 t6) /\
 ∀ w7,Ext w w7 ->
 Q (.int .i64 t6) w7)) /\
 ((x_0 ≠ 1) ->
 (((((x_12 < 0)\/(1000000000 < x_12))\/(x_13 < 0))\/(65535 < x_13)) ->
 ∀ w4,Ext w w4 ->
 Q (.int .i64 4) w4) /\
 (((((0 <= x_12)/\(x_12 <= 1000000000))/\(0 <= x_13))/\(x_13 <= 65535)) ->
 ∀ w4,Ext w w4 ->
 Q (.int .i64 0) w4))))) /\
 ((x_0 = 1) ->
 ((((((x_0 ≠ 2)/\(x_12 ≠ 0))\/(((x_0 ≠ 4)/\(x_0 ≠ 5))/\(x_13 ≠ 0)))\/((x_0 ≠ 4)/\(x_14 = true))) ->
 ∀ w1,Ext w w1 ->
 Q (.int .i64 1) w1)) /\
 (((((x_0 = 2)\/(x_12 = 0))/\(((x_0 = 4)\/(x_0 = 5))\/(x_13 = 0)))/\((x_0 = 4)\/(x_14 = false))) ->
 (((x_0 = 1) ->
 ∀ w1,Ext w w1 ->
 FnP Tryz.prog F_job_Check #[(.agg #[(.string x_1),(.int .i64 x_2),(.int .i64 x_3),(.int .i64 x_4),(.int .i64 x_5),(.int .i64 x_6),(.string x_7),(.string x_8),(.int .i64 x_9),(.slice x_10 x_10l x_10c),(.slice x_11 x_11l x_11c)])] w1 fun v2 w2 =>
 Ext w1 w2 /\
 ∃ t3:Int,v2 = (.int .i64 t3) /\
 ∀ w4,Ext w w4 ->
 Q (.int .i64 t3) w4)) /\
 ((x_0 ≠ 1) ->
 (((((x_12 < 0)\/(1000000000 < x_12))\/(x_13 < 0))\/(65535 < x_13)) ->
 ∀ w1,Ext w w1 ->
 Q (.int .i64 4) w1) /\
 (((((0 <= x_12)/\(x_12 <= 1000000000))/\(0 <= x_13))/\(x_13 <= 65535)) ->
 ∀ w1,Ext w w1 ->
 Q (.int .i64 0) w1)))))
theorem ok_event_Check (x_0:Int) (x_1:ByteArray) (x_2:Int) (x_3:Int) (x_4:Int) (x_5:Int) (x_6:Int) (x_7:ByteArray) (x_8:ByteArray) (x_9:Int) (x_10:Option Addr) (x_10l:Nat) (x_10c:Nat) (x_11:Option Addr) (x_11l:Nat) (x_11c:Nat) (x_12:Int) (x_13:Int) (x_14:Bool) (w:World) (Q:Value->World->Prop) (h:wp_event_Check x_0 x_1 x_2 x_3 x_4 x_5 x_6 x_7 x_8 x_9 x_10 x_10l x_10c x_11 x_11l x_11c x_12 x_13 x_14 w Q):FnP Tryz.prog F_event_Check #[(.agg #[(.int .i64 x_0),(.string x_1),(.int .i64 x_2),(.int .i64 x_3),(.int .i64 x_4),(.int .i64 x_5),(.int .i64 x_6),(.string x_7),(.string x_8),(.int .i64 x_9),(.slice x_10 x_10l x_10c),(.slice x_11 x_11l x_11c),(.int .i64 x_12),(.int .i64 x_13),(.bool x_14)])] w Q:=by
  have e_:wp_event_Check x_0 x_1 x_2 x_3 x_4 x_5 x_6 x_7 x_8 x_9 x_10 x_10l x_10c x_11 x_11l x_11c x_12 x_13 x_14 w Q = Runs Tryz.prog Q ({ N:=88,wrap:=[],pub:=[],muts:=[],joins:=[] }:Cfg) Tryz.f22 (Tryz.f22.body.getD .skip) [.agg [.int .i64 x_0,.str x_1,.int .i64 x_2,.int .i64 x_3,.int .i64 x_4,.int .i64 x_5,.int .i64 x_6,.str x_7,.str x_8,.int .i64 x_9,.slc x_10 x_10l x_10c,.slc x_11 x_11l x_11c,.int .i64 x_12,.int .i64 x_13,.bool (.atom true x_14)]] w:=by kernel_rfl
  rw [e_] at h
  exact runs_fn h Tryz.func22 (by kernel_rfl) (fun args w=>Tryz.call22 args w) (by kernel_rfl) (by kernel_rfl) rfl rfl
def wp_event_number (out:Option Addr) (outl:Nat) (outc:Nat) (n:Int) (many:Int) (w:World) (Q:Value->World->Prop):Prop :=
 InR .i64 (many - 1) /\
 ∃ (I0:Option Addr->Nat->Nat->Int->World->Prop) (M0:Option Addr->Nat->Nat->Int->World->Nat),I0 out outl outc (many - 1) w /\
 ∀ (out1:Option Addr) (outl1:Nat) (outc1:Nat) (many2:Int) (w3:World),I0 out1 outl1 outc1 many2 w3 ->
 (((0 <= many2) ->
 InR .i64 (8 * many2) /\
 0 <= ((8 * many2):Int) /\
 ∀ w4,Ext w3 w4 ->
 Run Tryz.prog (.buildSlice 48 1 [(0,(.int .u8 (IntKind.wrap .u8 (iBit .shr .i64 n (8 * many2)))))]) w4 fun v5 w5 =>
 Ext w4 w5 /\
 ∃ t6:Option Addr,∃ tl7:Nat,∃ tc8:Nat,v5 = (.slice t6 tl7 tc8) /\
 ∀ w9,Ext w5 w9 ->
 Run Tryz.prog (.append #[48,48] 48 [(.slice out1 outl1 outc1),(.slice t6 tl7 tc8)]) w9 fun v10 w10 =>
 ∃ t11:Option Addr,∃ tl12:Nat,∃ tc13:Nat,v10 = (.slice t11 tl12 tc13) /\
 InR .i64 (many2 - 1) /\
 (I0 t11 tl12 tc13 (many2 - 1) w10/\M0 t11 tl12 tc13 (many2 - 1) w10 < M0 out1 outl1 outc1 many2 w3))) /\
 ((many2 < 0) ->
 ∀ w4,Ext w3 w4 ->
 Q (.slice out1 outl1 outc1) w4)
theorem ok_event_number (out:Option Addr) (outl:Nat) (outc:Nat) (n:Int) (many:Int) (w:World) (Q:Value->World->Prop) (h:wp_event_number out outl outc n many w Q):FnP Tryz.prog F_event_number #[(.slice out outl outc),(.int .i64 n),(.int .i64 many)] w Q:=by
  have e_:wp_event_number out outl outc n many w Q = Runs Tryz.prog Q ({ N:=22,wrap:=[18],pub:=[],muts:=[],joins:=[] }:Cfg) Tryz.f74 (Tryz.f74.body.getD .skip) [.sc (.slc out outl outc),.sc (.int .i64 n),.sc (.int .i64 many)] w:=by kernel_rfl
  rw [e_] at h
  exact runs_fn h Tryz.func74 (by kernel_rfl) (fun args w=>Tryz.call74 args w) (by kernel_rfl) (by kernel_rfl) rfl rfl
def wp_event_Encode (x_0:Int) (x_1:ByteArray) (x_2:Int) (x_3:Int) (x_4:Int) (x_5:Int) (x_6:Int) (x_7:ByteArray) (x_8:ByteArray) (x_9:Int) (x_10:Option Addr) (x_10l:Nat) (x_10c:Nat) (x_11:Option Addr) (x_11l:Nat) (x_11c:Nat) (x_12:Int) (x_13:Int) (x_14:Bool) (w:World) (Q:Value->World->Prop):Prop :=
 ∀ b0:Nat,w.heap.size <= b0->∀ w1,Ext w w1 ->
 FnP Tryz.prog F_event_Check #[(.agg #[(.int .i64 x_0),(.string x_1),(.int .i64 x_2),(.int .i64 x_3),(.int .i64 x_4),(.int .i64 x_5),(.int .i64 x_6),(.string x_7),(.string x_8),(.int .i64 x_9),(.slice x_10 x_10l x_10c),(.slice x_11 x_11l x_11c),(.int .i64 x_12),(.int .i64 x_13),(.bool x_14)])] w1 fun v2 w2 =>
 Ext w1 w2 /\
 ∃ t3:Int,v2 = (.int .i64 t3) /\
 ((t3 ≠ 0) ->
 ∀ w4,Ext w w4 ->
 Q (.tuple #[(.slice none 0 0),(.int .i64 t3)]) w4) /\
 ((t3 = 0) ->
 InR .u8 x_0 /\
 ∀ w4,ExtB [] [b0] w w4 ->
 Run Tryz.prog (.buildSlice 48 1 [(0,(.int .u8 x_0))]) w4 fun v5 w5 =>
 Ext w4 w5 /\
 ∃ t6:Option Addr,∃ tl7:Nat,∃ tc8:Nat,v5 = (.slice t6 tl7 tc8) /\
 (((x_0 = 1) ->
 ∀ w9,Ext w5 w9 ->
 FnP Tryz.prog F_job_Text #[(.agg #[(.string x_1),(.int .i64 x_2),(.int .i64 x_3),(.int .i64 x_4),(.int .i64 x_5),(.int .i64 x_6),(.string x_7),(.string x_8),(.int .i64 x_9),(.slice x_10 x_10l x_10c),(.slice x_11 x_11l x_11c)])] w9 fun v10 w10 =>
 Ext w9 w10 /\
 ∃ t11:ByteArray,∃ t12:Int,v10 = (.tuple #[(.string t11),(.int .i64 t12)]) /\
 ∀ w13,ExtB [] [b0] w5 w13 ->
 Run Tryz.prog (.append #[48,9] 48 [(.slice t6 tl7 tc8),(.string t11)]) w13 fun v14 w14 =>
 Kept [b0] w13 w14 /\
 ∃ t15:Option Addr,∃ tl16:Nat,∃ tc17:Nat,v14 = (.slice t15 tl16 tc17) /\
 ∀ w18,Ext w14 w18 ->
 Q (.tuple #[(.slice t15 tl16 tc17),(.int .i64 0)]) w18)) /\
 ((x_0 ≠ 1) ->
 (((x_0 = 2) ->
 ∀ w9,ExtB [] [b0] w5 w9 ->
 FnP Tryz.prog F_event_number #[(.slice t6 tl7 tc8),(.int .i64 x_12),(.int .i64 4)] w9 fun v10 w10 =>
 Kept [b0] w9 w10 /\
 ∃ t11:Option Addr,∃ tl12:Nat,∃ tc13:Nat,v10 = (.slice t11 tl12 tc13) /\
 ∀ w14,Ext w10 w14 ->
 Q (.tuple #[(.slice t11 tl12 tc13),(.int .i64 0)]) w14)) /\
 ((x_0 ≠ 2) ->
 (((x_0 = 4) ->
 ∀ w9,ExtB [] [b0] w5 w9 ->
 FnP Tryz.prog F_event_number #[(.slice t6 tl7 tc8),(.int .i64 x_13),(.int .i64 2)] w9 fun v10 w10 =>
 Kept [b0] w9 w10 /\
 ∃ t11:Option Addr,∃ tl12:Nat,∃ tc13:Nat,v10 = (.slice t11 tl12 tc13) /\
 (((x_14 = true) ->
 ∀ w14,ExtB [] [b0] w10 w14 ->
 Run Tryz.prog (.buildSlice 48 1 [(0,(.int .u8 1))]) w14 fun v15 w15 =>
 Ext w14 w15 /\
 ∃ t16:Option Addr,∃ tl17:Nat,∃ tc18:Nat,v15 = (.slice t16 tl17 tc18) /\
 ∀ w19,ExtB [] [b0] w15 w19 ->
 Run Tryz.prog (.append #[48,48] 48 [(.slice t11 tl12 tc13),(.slice t16 tl17 tc18)]) w19 fun v20 w20 =>
 Kept [b0] w19 w20 /\
 ∃ t21:Option Addr,∃ tl22:Nat,∃ tc23:Nat,v20 = (.slice t21 tl22 tc23) /\
 ∀ w24,Ext w20 w24 ->
 Q (.tuple #[(.slice t21 tl22 tc23),(.int .i64 0)]) w24)) /\
 ((x_14 = false) ->
 ∀ w14,ExtB [] [b0] w10 w14 ->
 Run Tryz.prog (.buildSlice 48 1 [(0,(.int .u8 0))]) w14 fun v15 w15 =>
 Ext w14 w15 /\
 ∃ t16:Option Addr,∃ tl17:Nat,∃ tc18:Nat,v15 = (.slice t16 tl17 tc18) /\
 ∀ w19,ExtB [] [b0] w15 w19 ->
 Run Tryz.prog (.append #[48,48] 48 [(.slice t11 tl12 tc13),(.slice t16 tl17 tc18)]) w19 fun v20 w20 =>
 Kept [b0] w19 w20 /\
 ∃ t21:Option Addr,∃ tl22:Nat,∃ tc23:Nat,v20 = (.slice t21 tl22 tc23) /\
 ∀ w24,Ext w20 w24 ->
 Q (.tuple #[(.slice t21 tl22 tc23),(.int .i64 0)]) w24))) /\
 ((x_0 ≠ 4) ->
 (((x_0 = 5) ->
 ∀ w9,ExtB [] [b0] w5 w9 ->
 FnP Tryz.prog F_event_number #[(.slice t6 tl7 tc8),(.int .i64 x_13),(.int .i64 2)] w9 fun v10 w10 =>
 Kept [b0] w9 w10 /\
 ∃ t11:Option Addr,∃ tl12:Nat,∃ tc13:Nat,v10 = (.slice t11 tl12 tc13) /\
 ∀ w14,Ext w10 w14 ->
 Q (.tuple #[(.slice t11 tl12 tc13),(.int .i64 0)]) w14)) /\
 ((x_0 ≠ 5) ->
 ∀ w9,Ext w5 w9 ->
 Q (.tuple #[(.slice t6 tl7 tc8),(.int .i64 0)]) w9)))))
theorem ok_event_Encode (x_0:Int) (x_1:ByteArray) (x_2:Int) (x_3:Int) (x_4:Int) (x_5:Int) (x_6:Int) (x_7:ByteArray) (x_8:ByteArray) (x_9:Int) (x_10:Option Addr) (x_10l:Nat) (x_10c:Nat) (x_11:Option Addr) (x_11l:Nat) (x_11c:Nat) (x_12:Int) (x_13:Int) (x_14:Bool) (w:World) (Q:Value->World->Prop) (h:wp_event_Encode x_0 x_1 x_2 x_3 x_4 x_5 x_6 x_7 x_8 x_9 x_10 x_10l x_10c x_11 x_11l x_11c x_12 x_13 x_14 w Q):FnP Tryz.prog F_event_Encode #[(.agg #[(.int .i64 x_0),(.string x_1),(.int .i64 x_2),(.int .i64 x_3),(.int .i64 x_4),(.int .i64 x_5),(.int .i64 x_6),(.string x_7),(.string x_8),(.int .i64 x_9),(.slice x_10 x_10l x_10c),(.slice x_11 x_11l x_11c),(.int .i64 x_12),(.int .i64 x_13),(.bool x_14)])] w Q:=by
  have e_:wp_event_Encode x_0 x_1 x_2 x_3 x_4 x_5 x_6 x_7 x_8 x_9 x_10 x_10l x_10c x_11 x_11l x_11c x_12 x_13 x_14 w Q = Runs Tryz.prog Q ({ N:=57,wrap:=[],pub:=[],muts:=[74],joins:=[] }:Cfg) Tryz.f45 (Tryz.f45.body.getD .skip) [.agg [.int .i64 x_0,.str x_1,.int .i64 x_2,.int .i64 x_3,.int .i64 x_4,.int .i64 x_5,.int .i64 x_6,.str x_7,.str x_8,.int .i64 x_9,.slc x_10 x_10l x_10c,.slc x_11 x_11l x_11c,.int .i64 x_12,.int .i64 x_13,.bool (.atom true x_14)]] w:=by kernel_rfl
  rw [e_] at h
  exact runs_fn h Tryz.func45 (by kernel_rfl) (fun args w=>Tryz.call45 args w) (by kernel_rfl) (by kernel_rfl) rfl rfl
def wp_journal_Frame (x_0:Int) (x_1:ByteArray) (x_2:Int) (x_3:Int) (x_4:Int) (x_5:Int) (x_6:Int) (x_7:ByteArray) (x_8:ByteArray) (x_9:Int) (x_10:Option Addr) (x_10l:Nat) (x_10c:Nat) (x_11:Option Addr) (x_11l:Nat) (x_11c:Nat) (x_12:Int) (x_13:Int) (x_14:Bool) (w:World) (Q:Value->World->Prop):Prop :=
 ∀ b0:Nat,w.heap.size <= b0->∀ w1,ExtB [] [b0] w w1 ->
 FnP Tryz.prog F_event_Encode #[(.agg #[(.int .i64 x_0),(.string x_1),(.int .i64 x_2),(.int .i64 x_3),(.int .i64 x_4),(.int .i64 x_5),(.int .i64 x_6),(.string x_7),(.string x_8),(.int .i64 x_9),(.slice x_10 x_10l x_10c),(.slice x_11 x_11l x_11c),(.int .i64 x_12),(.int .i64 x_13),(.bool x_14)])] w1 fun v2 w2 =>
 Ext w1 w2 /\
 ∃ t3:Option Addr,∃ tl4:Nat,∃ tc5:Nat,∃ t6:Int,v2 = (.tuple #[(.slice t3 tl4 tc5),(.int .i64 t6)]) /\
 ((t6 ≠ 0) ->
 ∀ w7,Ext w2 w7 ->
 Q (.tuple #[(.slice none 0 0),(.int .i64 t6)]) w7) /\
 ((t6 = 0) ->
 ∀ w7,ExtB [] [b0] w2 w7 ->
 Run Tryz.prog (.buildSlice 48 2 [(0,(.int .u8 (IntKind.wrap .u8 (iBit .shr .i64 (tl4:Int) 8)))),(1,(.int .u8 (IntKind.wrap .u8 (tl4:Int))))]) w7 fun v8 w8 =>
 Ext w7 w8 /\
 ∃ t9:Option Addr,∃ tl10:Nat,∃ tc11:Nat,v8 = (.slice t9 tl10 tc11) /\
 ∀ w12,ExtB [] [b0] w8 w12 ->
 Run Tryz.prog (.append #[48,48] 48 [(.slice t9 tl10 tc11),(.slice t3 tl4 tc5)]) w12 fun v13 w13 =>
 Kept [b0] w12 w13 /\
 ∃ t14:Option Addr,∃ tl15:Nat,∃ tc16:Nat,v13 = (.slice t14 tl15 tc16) /\
 ∀ w17,Ext w13 w17 ->
 Run Tryz.prog (.convert 48 9 (.slice t3 tl4 tc5)) w17 fun v18 w18 =>
 Ext w17 w18 /\
 ∃ t19:ByteArray,v18 = (.string t19) /\
 ∀ w20,Ext w13 w20 ->
 FnP Tryz.prog F_ticket_Sum #[(.int .u64 0),(.string t19)] w20 fun v21 w21 =>
 Ext w20 w21 /\
 ∃ t22:Int,v21 = (.int .u64 t22) /\
 ∃ (I23:Option Addr->Nat->Nat->Int->World->Prop) (M23:Option Addr->Nat->Nat->Int->World->Nat),I23 t14 tl15 tc16 56 w13 /\
 ∀ (out24:Option Addr) (outl24:Nat) (outc24:Nat) (i25:Int) (w26:World),I23 out24 outl24 outc24 i25 w26 ->
 (((0 <= i25) ->
 0 <= (i25:Int) /\
 ∀ w27,ExtB [] [b0] w26 w27 ->
 Run Tryz.prog (.buildSlice 48 1 [(0,(.int .u8 (IntKind.wrap .u8 (iBit .shr .u64 t22 i25))))]) w27 fun v28 w28 =>
 Ext w27 w28 /\
 ∃ t29:Option Addr,∃ tl30:Nat,∃ tc31:Nat,v28 = (.slice t29 tl30 tc31) /\
 ∀ w32,ExtB [] [b0] w28 w32 ->
 Run Tryz.prog (.append #[48,48] 48 [(.slice out24 outl24 outc24),(.slice t29 tl30 tc31)]) w32 fun v33 w33 =>
 Kept [b0] w32 w33 /\
 ∃ t34:Option Addr,∃ tl35:Nat,∃ tc36:Nat,v33 = (.slice t34 tl35 tc36) /\
 InR .i64 (i25 - 8) /\
 (I23 t34 tl35 tc36 (i25 - 8) w33/\M23 t34 tl35 tc36 (i25 - 8) w33 < M23 out24 outl24 outc24 i25 w26))) /\
 ((i25 < 0) ->
 ∀ w27,Ext w26 w27 ->
 Q (.tuple #[(.slice out24 outl24 outc24),(.int .i64 0)]) w27))
theorem ok_journal_Frame (x_0:Int) (x_1:ByteArray) (x_2:Int) (x_3:Int) (x_4:Int) (x_5:Int) (x_6:Int) (x_7:ByteArray) (x_8:ByteArray) (x_9:Int) (x_10:Option Addr) (x_10l:Nat) (x_10c:Nat) (x_11:Option Addr) (x_11l:Nat) (x_11c:Nat) (x_12:Int) (x_13:Int) (x_14:Bool) (w:World) (Q:Value->World->Prop) (h:wp_journal_Frame x_0 x_1 x_2 x_3 x_4 x_5 x_6 x_7 x_8 x_9 x_10 x_10l x_10c x_11 x_11l x_11c x_12 x_13 x_14 w Q):FnP Tryz.prog F_journal_Frame #[(.agg #[(.int .i64 x_0),(.string x_1),(.int .i64 x_2),(.int .i64 x_3),(.int .i64 x_4),(.int .i64 x_5),(.int .i64 x_6),(.string x_7),(.string x_8),(.int .i64 x_9),(.slice x_10 x_10l x_10c),(.slice x_11 x_11l x_11c),(.int .i64 x_12),(.int .i64 x_13),(.bool x_14)])] w Q:=by
  have e_:wp_journal_Frame x_0 x_1 x_2 x_3 x_4 x_5 x_6 x_7 x_8 x_9 x_10 x_10l x_10c x_11 x_11l x_11c x_12 x_13 x_14 w Q = Runs Tryz.prog Q ({ N:=42,wrap:=[20,23,38],pub:=[],muts:=[],joins:=[] }:Cfg) Tryz.f23 (Tryz.f23.body.getD .skip) [.agg [.int .i64 x_0,.str x_1,.int .i64 x_2,.int .i64 x_3,.int .i64 x_4,.int .i64 x_5,.int .i64 x_6,.str x_7,.str x_8,.int .i64 x_9,.slc x_10 x_10l x_10c,.slc x_11 x_11l x_11c,.int .i64 x_12,.int .i64 x_13,.bool (.atom true x_14)]] w:=by kernel_rfl
  rw [e_] at h
  exact runs_fn h Tryz.func23 (by kernel_rfl) (fun args w=>Tryz.call23 args w) (by kernel_rfl) (by kernel_rfl) rfl rfl
def wp_bytes_Equal (a:Option Addr) (al:Nat) (ac:Nat) (b:Option Addr) (bl:Nat) (bc:Nat) (w:World) (Q:Value->World->Prop):Prop :=
 ∀ w0,Ext w w0 ->
 Run Tryz.prog (.convert 48 9 (.slice a al ac)) w0 fun v1 w1 =>
 Ext w0 w1 /\
 ∃ t2:ByteArray,v1 = (.string t2) /\
 ∀ w3,Ext w w3 ->
 Run Tryz.prog (.convert 48 9 (.slice b bl bc)) w3 fun v4 w4 =>
 Ext w3 w4 /\
 ∃ t5:ByteArray,v4 = (.string t5) /\
 ∀ w6,Ext w w6 ->
 Q (.bool (decide (t2 = t5))) w6
theorem ok_bytes_Equal (a:Option Addr) (al:Nat) (ac:Nat) (b:Option Addr) (bl:Nat) (bc:Nat) (w:World) (Q:Value->World->Prop) (h:wp_bytes_Equal a al ac b bl bc w Q):FnP Tryz.prog F_bytes_Equal #[(.slice a al ac),(.slice b bl bc)] w Q:=by
  have e_:wp_bytes_Equal a al ac b bl bc w Q = Runs Tryz.prog Q ({ N:=10,wrap:=[],pub:=[],muts:=[],joins:=[] }:Cfg) Tryz.f17 (Tryz.f17.body.getD .skip) [.sc (.slc a al ac),.sc (.slc b bl bc)] w:=by kernel_rfl
  rw [e_] at h
  exact runs_fn h Tryz.func17 (by kernel_rfl) (fun args w=>Tryz.call17 args w) (by kernel_rfl) (by kernel_rfl) rfl rfl
def wp_need_parts (a:Option Addr) (w:World) (Q:Value->World->Prop):Prop :=
 a ≠ none /\
 a ≠ none /\
 a ≠ none /\
 a ≠ none /\
 a ≠ none /\
 a ≠ none /\
 ∀ w0,Ext w w0 ->
 Run Tryz.prog (.buildSlice 173 3 [(0,(.agg #[(.string (⟨#[99,112,117]⟩:ByteArray)),(.pointer (pAdd a 0))])),(1,(.agg #[(.string (⟨#[109,101,109]⟩:ByteArray)),(.pointer (pAdd a 1))])),(2,(.agg #[(.string (⟨#[103,112,117]⟩:ByteArray)),(.pointer (pAdd a 2))]))]) w0 fun v1 w1 =>
 Ext w0 w1 /\
 ∃ t2:Option Addr,∃ tl3:Nat,∃ tc4:Nat,v1 = (.slice t2 tl3 tc4) /\
 ∀ w5,Ext w1 w5 ->
 Q (.slice t2 tl3 tc4) w5
theorem ok_need_parts (a:Option Addr) (w:World) (Q:Value->World->Prop) (h:wp_need_parts a w Q):FnP Tryz.prog F_need_parts #[(.pointer a)] w Q:=by
  have e_:wp_need_parts a w Q = Runs Tryz.prog Q ({ N:=16,wrap:=[],pub:=[],muts:=[],joins:=[] }:Cfg) Tryz.f98 (Tryz.f98.body.getD .skip) [.sc (.ptr a)] w:=by kernel_rfl
  rw [e_] at h
  exact runs_fn h Tryz.func98 (by kernel_rfl) (fun args w=>Tryz.call98 args w) (by kernel_rfl) (by kernel_rfl) rfl rfl
def wp_need_Check (a_0:Int) (a_1:Int) (a_2:Int) (w:World) (Q:Value->World->Prop):Prop :=
 ∀ w0,Ext w w0 ->
 New w0 34 [(.int .i64 a_0),(.int .i64 a_1),(.int .i64 a_2)] fun p1 w1 =>
 ∀ w2,Ext w1 w2 ->
 FnP Tryz.prog F_need_parts #[(.pointer p1)] w2 fun v3 w3 =>
 Ext w2 w3 /\
 ∃ t4:Option Addr,∃ tl5:Nat,∃ tc6:Nat,v3 = (.slice t4 tl5 tc6) /\
 ∃ (I7:Int->World->Prop) (M7:Int->World->Nat),I7 0 w3 /\
 ∀ (k8:Int) (w9:World),I7 k8 w9 ->
 (((k8 < (tl5:Int)) ->
 t4 ≠ none /\
 (0:Int) <= k8 /\
 (k8:Int) < (tl5:Int) /\
 (pIdx t4 k8 2) ≠ none /\
 ∃ t10:ByteArray,cell w9 (pIdx t4 k8 2) 0 = some (.string t10) /\
 ∃ t11:Option Addr,cell w9 (pIdx t4 k8 2) 1 = some (.pointer t11) /\
 ∀ b12:Nat,w9.heap.size <= b12->t11 ≠ none /\
 ∃ t13:Int,cell w9 t11 0 = some (.int .i64 t13) /\
 ((0 <= t13) ->
 t11 ≠ none) /\
 ((t13 < 0) ->
 ∀ w14,Ext w9 w14 ->
 Q (.int .i64 4) w14) /\
 ((0 <= t13) ->
 ∃ t14:Int,cell w9 t11 0 = some (.int .i64 t14) /\
 ((1099511627776 < t14) ->
 ∀ w15,Ext w9 w15 ->
 Q (.int .i64 4) w15) /\
 ((t14 <= 1099511627776) ->
 InR .i64 (k8 + 1) /\
 (I7 (k8 + 1) w9/\M7 (k8 + 1) w9 < M7 k8 w9))))) /\
 (((tl5:Int) <= k8) ->
 ∀ w10,Ext w9 w10 ->
 Q (.int .i64 0) w10)
theorem ok_need_Check (a_0:Int) (a_1:Int) (a_2:Int) (w:World) (Q:Value->World->Prop) (h:wp_need_Check a_0 a_1 a_2 w Q):FnP Tryz.prog F_need_Check #[(.agg #[(.int .i64 a_0),(.int .i64 a_1),(.int .i64 a_2)])] w Q:=by
  have e_:wp_need_Check a_0 a_1 a_2 w Q = Runs Tryz.prog Q ({ N:=24,wrap:=[],pub:=[1],muts:=[],joins:=[] }:Cfg) Tryz.f68 (Tryz.f68.body.getD .skip) [.agg [.int .i64 a_0,.int .i64 a_1,.int .i64 a_2]] w:=by kernel_rfl
  rw [e_] at h
  exact runs_fn h Tryz.func68 (by kernel_rfl) (fun args w=>Tryz.call68 args w) (by kernel_rfl) (by kernel_rfl) rfl rfl
def wp_need_Text (a_0:Int) (a_1:Int) (a_2:Int) (w:World) (Q:Value->World->Prop):Prop :=
 ∀ b0:Nat,w.heap.size <= b0->∀ w1,Ext w w1 ->
 FnP Tryz.prog F_need_Check #[(.agg #[(.int .i64 a_0),(.int .i64 a_1),(.int .i64 a_2)])] w1 fun v2 w2 =>
 Ext w1 w2 /\
 ∃ t3:Int,v2 = (.int .i64 t3) /\
 ((t3 ≠ 0) ->
 ∀ w4,Ext w w4 ->
 Q (.tuple #[(.string (⟨#[]⟩:ByteArray)),(.int .i64 t3)]) w4) /\
 ((t3 = 0) ->
 ∀ w4,Ext w w4 ->
 FnP Tryz.prog F_need_text #[(.agg #[(.int .i64 a_0),(.int .i64 a_1),(.int .i64 a_2)])] w4 fun v5 w5 =>
 Ext w4 w5 /\
 ∃ t6:ByteArray,v5 = (.string t6) /\
 ∀ w7,Ext w w7 ->
 Q (.tuple #[(.string t6),(.int .i64 0)]) w7)
theorem ok_need_Text (a_0:Int) (a_1:Int) (a_2:Int) (w:World) (Q:Value->World->Prop) (h:wp_need_Text a_0 a_1 a_2 w Q):FnP Tryz.prog F_need_Text #[(.agg #[(.int .i64 a_0),(.int .i64 a_1),(.int .i64 a_2)])] w Q:=by
  have e_:wp_need_Text a_0 a_1 a_2 w Q = Runs Tryz.prog Q ({ N:=12,wrap:=[],pub:=[],muts:=[],joins:=[] }:Cfg) Tryz.f101 (Tryz.f101.body.getD .skip) [.agg [.int .i64 a_0,.int .i64 a_1,.int .i64 a_2]] w:=by kernel_rfl
  rw [e_] at h
  exact runs_fn h Tryz.func101 (by kernel_rfl) (fun args w=>Tryz.call101 args w) (by kernel_rfl) (by kernel_rfl) rfl rfl
def wp_need_text (a_0:Int) (a_1:Int) (a_2:Int) (w:World) (Q:Value->World->Prop):Prop :=
 ∀ w0,Ext w w0 ->
 New w0 34 [(.int .i64 a_0),(.int .i64 a_1),(.int .i64 a_2)] fun p1 w1 =>
 ∀ w2,Ext w1 w2 ->
 FnP Tryz.prog F_need_parts #[(.pointer p1)] w2 fun v3 w3 =>
 Ext w2 w3 /\
 ∃ t4:Option Addr,∃ tl5:Nat,∃ tc6:Nat,v3 = (.slice t4 tl5 tc6) /\
 ∃ (I7:Option Addr->Nat->Nat->Int->World->Prop) (M7:Option Addr->Nat->Nat->Int->World->Nat),I7 none 0 0 0 w3 /\
 ∀ (out8:Option Addr) (outl8:Nat) (outc8:Nat) (k9:Int) (w10:World),I7 out8 outl8 outc8 k9 w10 ->
 (((k9 < (tl5:Int)) ->
 t4 ≠ none /\
 (0:Int) <= k9 /\
 (k9:Int) < (tl5:Int) /\
 (pIdx t4 k9 2) ≠ none /\
 ∃ t11:ByteArray,cell w10 (pIdx t4 k9 2) 0 = some (.string t11) /\
 ∃ t12:Option Addr,cell w10 (pIdx t4 k9 2) 1 = some (.pointer t12) /\
 ∀ b13:Nat,w10.heap.size <= b13->t12 ≠ none /\
 ∃ t14:Int,cell w10 t12 0 = some (.int .i64 t14) /\
 (((t14 ≠ 0) ->
 CatOk t11 (⟨#[61]⟩:ByteArray) /\
 t12 ≠ none /\
 ∃ t15:Int,cell w10 t12 0 = some (.int .i64 t15) /\
 ∀ w16,Ext w10 w16 ->
 FnP Tryz.prog F_strconv_FormatInt #[(.int .i64 t15),(.int .i64 10)] w16 fun v17 w17 =>
 Ext w16 w17 /\
 ∃ t18:ByteArray,v17 = (.string t18) /\
 CatOk (t11 ++ (⟨#[61]⟩:ByteArray)) t18 /\
 ∀ w19,ExtB [] [b13] w10 w19 ->
 Run Tryz.prog (.buildSlice 185 1 [(0,(.string ((t11 ++ (⟨#[61]⟩:ByteArray)) ++ t18)))]) w19 fun v20 w20 =>
 Ext w19 w20 /\
 ∃ t21:Option Addr,∃ tl22:Nat,∃ tc23:Nat,v20 = (.slice t21 tl22 tc23) /\
 ∀ w24,ExtB [] [b13] w20 w24 ->
 Run Tryz.prog (.append #[185,185] 185 [(.slice out8 outl8 outc8),(.slice t21 tl22 tc23)]) w24 fun v25 w25 =>
 Kept [b13] w24 w25 /\
 ∃ t26:Option Addr,∃ tl27:Nat,∃ tc28:Nat,v25 = (.slice t26 tl27 tc28) /\
 InR .i64 (k9 + 1) /\
 (I7 t26 tl27 tc28 (k9 + 1) w25/\M7 t26 tl27 tc28 (k9 + 1) w25 < M7 out8 outl8 outc8 k9 w10))) /\
 ((t14 = 0) ->
 InR .i64 (k9 + 1) /\
 (I7 out8 outl8 outc8 (k9 + 1) w10/\M7 out8 outl8 outc8 (k9 + 1) w10 < M7 out8 outl8 outc8 k9 w10)))) /\
 (((tl5:Int) <= k9) ->
 ((out8 = none) ->
 ∀ w11,Ext w10 w11 ->
 Q (.string (⟨#[45]⟩:ByteArray)) w11) /\
 ((out8 ≠ none) ->
 ∀ w11,Ext w10 w11 ->
 FnP Tryz.prog F_strings_Join #[(.slice out8 outl8 outc8),(.string (⟨#[44]⟩:ByteArray))] w11 fun v12 w12 =>
 Ext w11 w12 /\
 ∃ t13:ByteArray,v12 = (.string t13) /\
 ∀ w14,Ext w10 w14 ->
 Q (.string t13) w14))
theorem ok_need_text (a_0:Int) (a_1:Int) (a_2:Int) (w:World) (Q:Value->World->Prop) (h:wp_need_text a_0 a_1 a_2 w Q):FnP Tryz.prog F_need_text #[(.agg #[(.int .i64 a_0),(.int .i64 a_1),(.int .i64 a_2)])] w Q:=by
  have e_:wp_need_text a_0 a_1 a_2 w Q = Runs Tryz.prog Q ({ N:=34,wrap:=[],pub:=[1],muts:=[],joins:=[] }:Cfg) Tryz.f119 (Tryz.f119.body.getD .skip) [.agg [.int .i64 a_0,.int .i64 a_1,.int .i64 a_2]] w:=by kernel_rfl
  rw [e_] at h
  exact runs_fn h Tryz.func119 (by kernel_rfl) (fun args w=>Tryz.call119 args w) (by kernel_rfl) (by kernel_rfl) rfl rfl
def wp_need_Read (s:ByteArray) (w:World) (Q:Value->World->Prop):Prop :=
 ∀ b0:Nat,w.heap.size <= b0->∀ w1,ExtB [] [b0] w w1 ->
 New w1 34 [(.int .i64 0),(.int .i64 0),(.int .i64 0)] fun p2 w2 =>
 (((s ≠ (⟨#[45]⟩:ByteArray)) ->
 ∀ w3,ExtB [] [b0] w2 w3 ->
 FnP Tryz.prog F_strings_Split #[(.string s),(.string (⟨#[44]⟩:ByteArray))] w3 fun v4 w4 =>
 Ext w3 w4 /\
 ∃ t5:Option Addr,∃ tl6:Nat,∃ tc7:Nat,v4 = (.slice t5 tl6 tc7) /\
 ∃ (I8:Int->World->Prop) (M8:Int->World->Nat),I8 0 w4 /\
 ∀ (k9:Int) (w10:World),I8 k9 w10 ->
 (((k9 < (tl6:Int)) ->
 t5 ≠ none /\
 (0:Int) <= k9 /\
 (k9:Int) < (tl6:Int) /\
 ∃ t11:ByteArray,cell w10 (pIdx t5 k9 1) 0 = some (.string t11) /\
 ∀ w12,Ext w10 w12 ->
 FnP Tryz.prog F_strings_Cut #[(.string t11),(.string (⟨#[61]⟩:ByteArray))] w12 fun v13 w13 =>
 Ext w12 w13 /\
 ∃ t14:ByteArray,∃ t15:ByteArray,∃ t16:Bool,v13 = (.tuple #[(.string t14),(.string t15),(.bool t16)]) /\
 ∀ w17,ExtB [] [b0] w10 w17 ->
 FnP Tryz.prog F_strconv_ParseInt #[(.string t15),(.int .i64 10),(.int .i64 64)] w17 fun v18 w18 =>
 Ext w17 w18 /\
 ∃ t19:Int,∃ t20:Value,v18 = (.tuple #[(.int .i64 t19),t20]) /\
 ∀ w21,Ext w18 w21 ->
 Run Tryz.prog (.eq .neq 188 false true t20 .nilIface) w21 fun v22 w22 =>
 Ext w21 w22 /\
 ∃ t23:Bool,v22 = (.bool t23) /\
 (((t23 = true)\/(t19 <= 0)) ->
 ∀ w24,ExtB [b0] [] w18 w24 ->
 Q (.tuple #[(.agg #[(.int .i64 0),(.int .i64 0),(.int .i64 0)]),(.int .i64 3)]) w24) /\
 (((t23 = false)/\(0 < t19)) ->
 ∀ w24,ExtB [] [b0] w18 w24 ->
 FnP Tryz.prog F_need_parts #[(.pointer p2)] w24 fun v25 w25 =>
 Ext w24 w25 /\
 ∃ t26:Option Addr,∃ tl27:Nat,∃ tc28:Nat,v25 = (.slice t26 tl27 tc28) /\
 ∃ (I29:Int->World->Prop) (M29:Int->World->Nat),I29 0 w25 /\
 ∀ (k30:Int) (w31:World),I29 k30 w31 ->
 (((k30 < (tl27:Int)) ->
 t26 ≠ none /\
 (0:Int) <= k30 /\
 (k30:Int) < (tl27:Int) /\
 (pIdx t26 k30 2) ≠ none /\
 ∃ t32:ByteArray,cell w31 (pIdx t26 k30 2) 0 = some (.string t32) /\
 ∃ t33:Option Addr,cell w31 (pIdx t26 k30 2) 1 = some (.pointer t33) /\
 ∀ b34:Nat,w31.heap.size <= b34->(((t32 = t14) ->
 t33 ≠ none /\
 Store w31 t33 [(.int .i64 t19)] [b0,b34] fun w35 =>
 InR .i64 (k30 + 1) /\
 (I29 (k30 + 1) w35/\M29 (k30 + 1) w35 < M29 k30 w31))) /\
 ((t32 ≠ t14) ->
 InR .i64 (k30 + 1) /\
 (I29 (k30 + 1) w31/\M29 (k30 + 1) w31 < M29 k30 w31)))) /\
 (((tl27:Int) <= k30) ->
 InR .i64 (k9 + 1) /\
 (I8 (k9 + 1) w31/\M8 (k9 + 1) w31 < M8 k9 w10))))) /\
 (((tl6:Int) <= k9) ->
 p2 ≠ none /\
 ∃ t11:Int,cell w10 p2 0 = some (.int .i64 t11) /\
 ∃ t12:Int,cell w10 p2 1 = some (.int .i64 t12) /\
 ∃ t13:Int,cell w10 p2 2 = some (.int .i64 t13) /\
 ∀ w14,Ext w10 w14 ->
 FnP Tryz.prog F_need_text #[(.agg #[(.int .i64 t11),(.int .i64 t12),(.int .i64 t13)])] w14 fun v15 w15 =>
 Ext w14 w15 /\
 ∃ t16:ByteArray,v15 = (.string t16) /\
 ((t16 ≠ s) ->
 ∀ w17,ExtB [b0] [] w10 w17 ->
 Q (.tuple #[(.agg #[(.int .i64 0),(.int .i64 0),(.int .i64 0)]),(.int .i64 3)]) w17) /\
 ((t16 = s) ->
 p2 ≠ none /\
 ∃ t17:Int,cell w10 p2 0 = some (.int .i64 t17) /\
 ∃ t18:Int,cell w10 p2 1 = some (.int .i64 t18) /\
 ∃ t19:Int,cell w10 p2 2 = some (.int .i64 t19) /\
 ∀ w20,Ext w10 w20 ->
 FnP Tryz.prog F_need_Check #[(.agg #[(.int .i64 t17),(.int .i64 t18),(.int .i64 t19)])] w20 fun v21 w21 =>
 Ext w20 w21 /\
 ∃ t22:Int,v21 = (.int .i64 t22) /\
 ((t22 ≠ 0) ->
 ∀ w23,ExtB [b0] [] w10 w23 ->
 Q (.tuple #[(.agg #[(.int .i64 0),(.int .i64 0),(.int .i64 0)]),(.int .i64 t22)]) w23) /\
 ((t22 = 0) ->
 p2 ≠ none /\
 ∃ t23:Int,cell w10 p2 0 = some (.int .i64 t23) /\
 ∃ t24:Int,cell w10 p2 1 = some (.int .i64 t24) /\
 ∃ t25:Int,cell w10 p2 2 = some (.int .i64 t25) /\
 ∀ w26,ExtB [b0] [] w10 w26 ->
 Q (.tuple #[(.agg #[(.int .i64 t23),(.int .i64 t24),(.int .i64 t25)]),(.int .i64 0)]) w26))))) /\
 ((s = (⟨#[45]⟩:ByteArray)) ->
 p2 ≠ none /\
 ∃ t3:Int,cell w2 p2 0 = some (.int .i64 t3) /\
 ∃ t4:Int,cell w2 p2 1 = some (.int .i64 t4) /\
 ∃ t5:Int,cell w2 p2 2 = some (.int .i64 t5) /\
 ∀ w6,Ext w2 w6 ->
 FnP Tryz.prog F_need_text #[(.agg #[(.int .i64 t3),(.int .i64 t4),(.int .i64 t5)])] w6 fun v7 w7 =>
 Ext w6 w7 /\
 ∃ t8:ByteArray,v7 = (.string t8) /\
 ((t8 ≠ s) ->
 ∀ w9,ExtB [b0] [] w2 w9 ->
 Q (.tuple #[(.agg #[(.int .i64 0),(.int .i64 0),(.int .i64 0)]),(.int .i64 3)]) w9) /\
 ((t8 = s) ->
 p2 ≠ none /\
 ∃ t9:Int,cell w2 p2 0 = some (.int .i64 t9) /\
 ∃ t10:Int,cell w2 p2 1 = some (.int .i64 t10) /\
 ∃ t11:Int,cell w2 p2 2 = some (.int .i64 t11) /\
 ∀ w12,Ext w2 w12 ->
 FnP Tryz.prog F_need_Check #[(.agg #[(.int .i64 t9),(.int .i64 t10),(.int .i64 t11)])] w12 fun v13 w13 =>
 Ext w12 w13 /\
 ∃ t14:Int,v13 = (.int .i64 t14) /\
 ((t14 ≠ 0) ->
 ∀ w15,ExtB [b0] [] w2 w15 ->
 Q (.tuple #[(.agg #[(.int .i64 0),(.int .i64 0),(.int .i64 0)]),(.int .i64 t14)]) w15) /\
 ((t14 = 0) ->
 p2 ≠ none /\
 ∃ t15:Int,cell w2 p2 0 = some (.int .i64 t15) /\
 ∃ t16:Int,cell w2 p2 1 = some (.int .i64 t16) /\
 ∃ t17:Int,cell w2 p2 2 = some (.int .i64 t17) /\
 ∀ w18,ExtB [b0] [] w2 w18 ->
 Q (.tuple #[(.agg #[(.int .i64 t15),(.int .i64 t16),(.int .i64 t17)]),(.int .i64 0)]) w18)))
theorem ok_need_Read (s:ByteArray) (w:World) (Q:Value->World->Prop) (h:wp_need_Read s w Q):FnP Tryz.prog F_need_Read #[(.string s)] w Q:=by
  have e_:wp_need_Read s w Q = Runs Tryz.prog Q ({ N:=70,wrap:=[],pub:=[4],muts:=[],joins:=[] }:Cfg) Tryz.f108 (Tryz.f108.body.getD .skip) [.sc (.str s)] w:=by kernel_rfl
  rw [e_] at h
  exact runs_fn h Tryz.func108 (by kernel_rfl) (fun args w=>Tryz.call108 args w) (by kernel_rfl) (by kernel_rfl) rfl rfl
def wp_journal_New  (w:World) (Q:Value->World->Prop):Prop :=
 ∀ w0,Ext w w0 ->
 New w0 92 [(.slice none 0 0),(.int .i64 0)] fun p1 w1 =>
 ∀ w2,Ext w1 w2 ->
 Q (.pointer p1) w2
theorem ok_journal_New  (w:World) (Q:Value->World->Prop) (h:wp_journal_New  w Q):FnP Tryz.prog F_journal_New #[] w Q:=by
  have e_:wp_journal_New  w Q = Runs Tryz.prog Q ({ N:=3,wrap:=[],pub:=[2],muts:=[],joins:=[] }:Cfg) Tryz.f21 (Tryz.f21.body.getD .skip) [] w:=by kernel_rfl
  rw [e_] at h
  exact runs_fn h Tryz.func21 (by kernel_rfl) (fun args w=>Tryz.call21 args w) (by kernel_rfl) (by kernel_rfl) rfl rfl
def wp_journal_Disk_Write (d:Option Addr) (b:Option Addr) (bl:Nat) (bc:Nat) (w:World) (Q:Value->World->Prop):Prop :=
 d ≠ none /\
 d ≠ none /\
 ∃ t0:Option Addr,∃ tl1:Nat,∃ tc2:Nat,cell w (pAdd d 0) 0 = some (.slice t0 tl1 tc2) /\
 InR .i64 (100000 - (tl1:Int)) /\
 (((100000 - (tl1:Int)) < (bl:Int)) ->
 ∀ w3,Ext w w3 ->
 Q (.int .i64 7) w3) /\
 (((bl:Int) <= (100000 - (tl1:Int))) ->
 d ≠ none /\
 d ≠ none /\
 ∃ t3:Option Addr,∃ tl4:Nat,∃ tc5:Nat,cell w (pAdd d 0) 0 = some (.slice t3 tl4 tc5) /\
 ∀ w6,Ext w w6 ->
 Run Tryz.prog (.append #[48,48] 48 [(.slice t3 tl4 tc5),(.slice b bl bc)]) w6 fun v7 w7 =>
 ∃ t8:Option Addr,∃ tl9:Nat,∃ tc10:Nat,v7 = (.slice t8 tl9 tc10) /\
 d ≠ none /\
 d ≠ none /\
 Store w7 (pAdd d 0) [(.slice t8 tl9 tc10)] [] fun w11 =>
 ∀ w12,Ext w11 w12 ->
 Q (.int .i64 0) w12)
theorem ok_journal_Disk_Write (d:Option Addr) (b:Option Addr) (bl:Nat) (bc:Nat) (w:World) (Q:Value->World->Prop) (h:wp_journal_Disk_Write d b bl bc w Q):FnP Tryz.prog F_journal_Disk_Write #[(.pointer d),(.slice b bl bc)] w Q:=by
  have e_:wp_journal_Disk_Write d b bl bc w Q = Runs Tryz.prog Q ({ N:=23,wrap:=[],pub:=[],muts:=[],joins:=[] }:Cfg) Tryz.f24 (Tryz.f24.body.getD .skip) [.sc (.ptr d),.sc (.slc b bl bc)] w:=by kernel_rfl
  rw [e_] at h
  exact runs_fn h Tryz.func24 (by kernel_rfl) (fun args w=>Tryz.call24 args w) (by kernel_rfl) (by kernel_rfl) rfl rfl
def wp_journal_Disk_Sync (d:Option Addr) (w:World) (Q:Value->World->Prop):Prop :=
 d ≠ none /\
 d ≠ none /\
 ∃ t0:Option Addr,∃ tl1:Nat,∃ tc2:Nat,cell w (pAdd d 0) 0 = some (.slice t0 tl1 tc2) /\
 d ≠ none /\
 d ≠ none /\
 Store w (pAdd d 1) [(.int .i64 (tl1:Int))] [] fun w3 =>
 ∀ w4,Ext w3 w4 ->
 Q (.tuple #[]) w4
theorem ok_journal_Disk_Sync (d:Option Addr) (w:World) (Q:Value->World->Prop) (h:wp_journal_Disk_Sync d w Q):FnP Tryz.prog F_journal_Disk_Sync #[(.pointer d)] w Q:=by
  have e_:wp_journal_Disk_Sync d w Q = Runs Tryz.prog Q ({ N:=10,wrap:=[],pub:=[],muts:=[],joins:=[] }:Cfg) Tryz.f36 (Tryz.f36.body.getD .skip) [.sc (.ptr d)] w:=by kernel_rfl
  rw [e_] at h
  exact runs_fn h Tryz.func36 (by kernel_rfl) (fun args w=>Tryz.call36 args w) (by kernel_rfl) (by kernel_rfl) rfl rfl
def wp_journal_Disk_Crash (d:Option Addr) (keep:Int) (w:World) (Q:Value->World->Prop):Prop :=
 ((0 <= keep) ->
 d ≠ none) /\
 ((0 <= keep) ->
 d ≠ none) /\
 ((keep < 0) ->
 ∀ w0,Ext w w0 ->
 Q (.int .i64 1) w0) /\
 ((0 <= keep) ->
 ∃ t0:Option Addr,∃ tl1:Nat,∃ tc2:Nat,cell w (pAdd d 0) 0 = some (.slice t0 tl1 tc2) /\
 d ≠ none /\
 d ≠ none /\
 ∃ t3:Int,cell w (pAdd d 1) 0 = some (.int .i64 t3) /\
 InR .i64 ((tl1:Int) - t3) /\
 ((((tl1:Int) - t3) < keep) ->
 ∀ w4,Ext w w4 ->
 Q (.int .i64 1) w4) /\
 ((keep <= ((tl1:Int) - t3)) ->
 d ≠ none /\
 d ≠ none /\
 ∃ t4:Option Addr,∃ tl5:Nat,∃ tc6:Nat,cell w (pAdd d 0) 0 = some (.slice t4 tl5 tc6) /\
 d ≠ none /\
 d ≠ none /\
 ∃ t7:Int,cell w (pAdd d 1) 0 = some (.int .i64 t7) /\
 InR .i64 (t7 + keep) /\
 (0:Int) <= 0 /\
 (0:Int) <= (t7 + keep) /\
 ((t7 + keep):Int) <= (tc6:Int) /\
 d ≠ none /\
 d ≠ none /\
 Store w (pAdd d 0) [(.slice (pCut t4 tc6 0 1) ((t7 + keep) - 0).toNat (tc6 - (0:Int).toNat))] [] fun w8 =>
 ∀ w9,Ext w8 w9 ->
 FnP Tryz.prog F_journal_Disk_Sync #[(.pointer d)] w9 fun v10 w10 =>
 v10 = (.tuple #[]) /\
 ∀ w11,Ext w10 w11 ->
 Q (.int .i64 0) w11))
theorem ok_journal_Disk_Crash (d:Option Addr) (keep:Int) (w:World) (Q:Value->World->Prop) (h:wp_journal_Disk_Crash d keep w Q):FnP Tryz.prog F_journal_Disk_Crash #[(.pointer d),(.int .i64 keep)] w Q:=by
  have e_:wp_journal_Disk_Crash d keep w Q = Runs Tryz.prog Q ({ N:=37,wrap:=[],pub:=[],muts:=[36],joins:=[] }:Cfg) Tryz.f37 (Tryz.f37.body.getD .skip) [.sc (.ptr d),.sc (.int .i64 keep)] w:=by kernel_rfl
  rw [e_] at h
  exact runs_fn h Tryz.func37 (by kernel_rfl) (fun args w=>Tryz.call37 args w) (by kernel_rfl) (by kernel_rfl) rfl rfl
def wp_journal_Disk_Bytes (d:Option Addr) (w:World) (Q:Value->World->Prop):Prop :=
 d ≠ none /\
 d ≠ none /\
 ∃ t0:Option Addr,∃ tl1:Nat,∃ tc2:Nat,cell w (pAdd d 0) 0 = some (.slice t0 tl1 tc2) /\
 ∀ w3,Ext w w3 ->
 FnP Tryz.prog F_bytes_Clone #[(.slice t0 tl1 tc2)] w3 fun v4 w4 =>
 Ext w3 w4 /\
 ∃ t5:Option Addr,∃ tl6:Nat,∃ tc7:Nat,v4 = (.slice t5 tl6 tc7) /\
 ∀ w8,Ext w4 w8 ->
 Q (.slice t5 tl6 tc7) w8
theorem ok_journal_Disk_Bytes (d:Option Addr) (w:World) (Q:Value->World->Prop) (h:wp_journal_Disk_Bytes d w Q):FnP Tryz.prog F_journal_Disk_Bytes #[(.pointer d)] w Q:=by
  have e_:wp_journal_Disk_Bytes d w Q = Runs Tryz.prog Q ({ N:=8,wrap:=[],pub:=[],muts:=[],joins:=[] }:Cfg) Tryz.f26 (Tryz.f26.body.getD .skip) [.sc (.ptr d)] w:=by kernel_rfl
  rw [e_] at h
  exact runs_fn h Tryz.func26 (by kernel_rfl) (fun args w=>Tryz.call26 args w) (by kernel_rfl) (by kernel_rfl) rfl rfl
def wp_bytes_Clone (b:Option Addr) (bl:Nat) (bc:Nat) (w:World) (Q:Value->World->Prop):Prop :=
 ((b = none) ->
 ∀ w0,Ext w w0 ->
 Q (.slice none 0 0) w0) /\
 ((b ≠ none) ->
 ∀ w0,Ext w w0 ->
 Run Tryz.prog (.buildSlice 48 0 []) w0 fun v1 w1 =>
 Ext w0 w1 /\
 ∃ t2:Option Addr,∃ tl3:Nat,∃ tc4:Nat,v1 = (.slice t2 tl3 tc4) /\
 ∀ w5,Ext w1 w5 ->
 Run Tryz.prog (.append #[48,48] 48 [(.slice t2 tl3 tc4),(.slice b bl bc)]) w5 fun v6 w6 =>
 ∃ t7:Option Addr,∃ tl8:Nat,∃ tc9:Nat,v6 = (.slice t7 tl8 tc9) /\
 ∀ w10,Ext w6 w10 ->
 Q (.slice t7 tl8 tc9) w10)
theorem ok_bytes_Clone (b:Option Addr) (bl:Nat) (bc:Nat) (w:World) (Q:Value->World->Prop) (h:wp_bytes_Clone b bl bc w Q):FnP Tryz.prog F_bytes_Clone #[(.slice b bl bc)] w Q:=by
  have e_:wp_bytes_Clone b bl bc w Q = Runs Tryz.prog Q ({ N:=8,wrap:=[],pub:=[],muts:=[],joins:=[] }:Cfg) Tryz.f48 (Tryz.f48.body.getD .skip) [.sc (.slc b bl bc)] w:=by kernel_rfl
  rw [e_] at h
  exact runs_fn h Tryz.func48 (by kernel_rfl) (fun args w=>Tryz.call48 args w) (by kernel_rfl) (by kernel_rfl) rfl rfl
end Go.Proofs.YtegephkpdlopaaaGreatDoor
set_option linter.unusedVariables false
set_option linter.unusedSimpArgs false
set_option maxRecDepth 100000
namespace Go.Proofs.YtegephkpdlopaaaGreatDoor
open Go.Sx Go.RowKit
abbrev F_ask_Label:FuncId:=66
abbrev F_ask_Check:FuncId:=72
abbrev F_shiftbellkeep_sameAsk:FuncId:=76
abbrev F_ask_count:FuncId:=99
abbrev F_ask_check:FuncId:=100
abbrev F_ask_Text:FuncId:=102
abbrev F_slices_EqualFunc_api_Ask_api_Ask_api_Ask_api_Ask:FuncId:=110
abbrev F_ask_unit:FuncId:=118
abbrev F_ask_text:FuncId:=120
abbrev F_ask_reader_take:FuncId:=149
abbrev F_ask_reader_word:FuncId:=150
abbrev F_strings_IndexAny:FuncId:=166
def wp_ask_Label (s:ByteArray) (w:World) (Q:Value->World->Prop):Prop :=
 ((((s ≠ (⟨#[]⟩:ByteArray))/\((s.size:Int) <= 20)) ->
 (0:Int) <= 0)) /\
 ((((s ≠ (⟨#[]⟩:ByteArray))/\((s.size:Int) <= 20)) ->
 (0:Int) < (s.size:Int))) /\
 (((((s ≠ (⟨#[]⟩:ByteArray))/\((s.size:Int) <= 20))/\(97 <= (sAt s 0))) ->
 (0:Int) <= 0)) /\
 (((((s ≠ (⟨#[]⟩:ByteArray))/\((s.size:Int) <= 20))/\(97 <= (sAt s 0))) ->
 (0:Int) < (s.size:Int))) /\
 (((((s = (⟨#[]⟩:ByteArray))\/(20 < (s.size:Int)))\/((sAt s 0) < 97))\/(122 < (sAt s 0))) ->
 ∀ w0,Ext w w0 ->
 Q (.bool false) w0) /\
 (((((s ≠ (⟨#[]⟩:ByteArray))/\((s.size:Int) <= 20))/\(97 <= (sAt s 0)))/\((sAt s 0) <= 122)) ->
 ∀ w0,Ext w w0 ->
 Run Tryz.prog (.convert 9 48 (.string s)) w0 fun v1 w1 =>
 Ext w0 w1 /\
 ∃ t2:Option Addr,∃ tl3:Nat,∃ tc4:Nat,v1 = (.slice t2 tl3 tc4) /\
 ∃ (I5:Int->World->Prop) (M5:Int->World->Nat),I5 0 w1 /\
 ∀ (k6:Int) (w7:World),I5 k6 w7 ->
 (((k6 < (tl3:Int)) ->
 t2 ≠ none /\
 (0:Int) <= k6 /\
 (k6:Int) < (tl3:Int) /\
 ∃ t8:Int,cell w7 (pIdx t2 k6 1) 0 = some (.int .u8 t8) /\
 ((((((t8 < 97)\/(122 < t8))/\((t8 < 48)\/(57 < t8)))/\(t8 ≠ 45)) ->
 ∀ w9,Ext w7 w9 ->
 Q (.bool false) w9)) /\
 (((((97 <= t8)/\(t8 <= 122))\/((48 <= t8)/\(t8 <= 57)))\/(t8 = 45)) ->
 InR .i64 (k6 + 1) /\
 (I5 (k6 + 1) w7/\M5 (k6 + 1) w7 < M5 k6 w7)))) /\
 (((tl3:Int) <= k6) ->
 ∀ w8,Ext w7 w8 ->
 Q (.bool true) w8))
theorem ok_ask_Label (s:ByteArray) (w:World) (Q:Value->World->Prop) (h:wp_ask_Label s w Q):FnP Tryz.prog F_ask_Label #[(.string s)] w Q:=by
  have e_:wp_ask_Label s w Q = Runs Tryz.prog Q ({ N:=48,wrap:=[],pub:=[],muts:=[],joins:=[] }:Cfg) Tryz.f66 (Tryz.f66.body.getD .skip) [.sc (.str s)] w:=by kernel_rfl
  rw [e_] at h
  exact runs_fn h Tryz.func66 (by kernel_rfl) (fun args w=>Tryz.call66 args w) (by kernel_rfl) (by kernel_rfl) rfl rfl
def wp_ask_count (x_0:Int) (x_1:ByteArray) (x_2:ByteArray) (x_3:Int) (x_4:Option Addr) (x_4l:Nat) (x_4c:Nat) (w:World) (Q:Value->World->Prop):Prop :=
 ∀ b0:Nat,w.heap.size <= b0->∃ (I1:Int->Int->World->Prop) (M1:Int->Int->World->Nat),I1 1 0 w /\
 ∀ (n2:Int) (k3:Int) (w4:World),I1 n2 k3 w4 ->
 (((k3 < (x_4l:Int)) ->
 x_4 ≠ none /\
 (0:Int) <= k3 /\
 (k3:Int) < (x_4l:Int) /\
 (pIdx x_4 k3 5) ≠ none /\
 ∃ t5:Int,cell w4 (pIdx x_4 k3 5) 0 = some (.int .i64 t5) /\
 ∃ t6:ByteArray,cell w4 (pIdx x_4 k3 5) 1 = some (.string t6) /\
 ∃ t7:ByteArray,cell w4 (pIdx x_4 k3 5) 2 = some (.string t7) /\
 ∃ t8:Int,cell w4 (pIdx x_4 k3 5) 3 = some (.int .i64 t8) /\
 ∃ t9:Option Addr,∃ tl10:Nat,∃ tc11:Nat,cell w4 (pIdx x_4 k3 5) 4 = some (.slice t9 tl10 tc11) /\
 ∀ b12:Nat,w4.heap.size <= b12->∀ w13,Ext w4 w13 ->
 FnP Tryz.prog F_ask_count #[(.agg #[(.int .i64 t5),(.string t6),(.string t7),(.int .i64 t8),(.slice t9 tl10 tc11)])] w13 fun v14 w14 =>
 Ext w13 w14 /\
 ∃ t15:Int,v14 = (.int .i64 t15) /\
 InR .i64 (k3 + 1) /\
 (I1 (IntKind.wrap .i64 (n2 + t15)) (k3 + 1) w4/\M1 (IntKind.wrap .i64 (n2 + t15)) (k3 + 1) w4 < M1 n2 k3 w4))) /\
 (((x_4l:Int) <= k3) ->
 ∀ w5,Ext w4 w5 ->
 Q (.int .i64 n2) w5)
theorem ok_ask_count (x_0:Int) (x_1:ByteArray) (x_2:ByteArray) (x_3:Int) (x_4:Option Addr) (x_4l:Nat) (x_4c:Nat) (w:World) (Q:Value->World->Prop) (h:wp_ask_count x_0 x_1 x_2 x_3 x_4 x_4l x_4c w Q):FnP Tryz.prog F_ask_count #[(.agg #[(.int .i64 x_0),(.string x_1),(.string x_2),(.int .i64 x_3),(.slice x_4 x_4l x_4c)])] w Q:=by
  have e_:wp_ask_count x_0 x_1 x_2 x_3 x_4 x_4l x_4c w Q = Runs Tryz.prog Q ({ N:=19,wrap:=[16],pub:=[],muts:=[],joins:=[] }:Cfg) Tryz.f99 (Tryz.f99.body.getD .skip) [.agg [.int .i64 x_0,.str x_1,.str x_2,.int .i64 x_3,.slc x_4 x_4l x_4c]] w:=by kernel_rfl
  rw [e_] at h
  exact runs_fn h Tryz.func99 (by kernel_rfl) (fun args w=>Tryz.call99 args w) (by kernel_rfl) (by kernel_rfl) rfl rfl
def wp_ask_Check (x_0:Int) (x_1:ByteArray) (x_2:ByteArray) (x_3:Int) (x_4:Option Addr) (x_4l:Nat) (x_4c:Nat) (w:World) (Q:Value->World->Prop):Prop :=
 ∀ b0:Nat,w.heap.size <= b0->∀ w1,Ext w w1 ->
 FnP Tryz.prog F_ask_count #[(.agg #[(.int .i64 x_0),(.string x_1),(.string x_2),(.int .i64 x_3),(.slice x_4 x_4l x_4c)])] w1 fun v2 w2 =>
 Ext w1 w2 /\
 ∃ t3:Int,v2 = (.int .i64 t3) /\
 ((60 < t3) ->
 ∀ w4,Ext w w4 ->
 Q (.int .i64 2) w4) /\
 ((t3 <= 60) ->
 ∀ w4,Ext w w4 ->
 FnP Tryz.prog F_ask_check #[(.agg #[(.int .i64 x_0),(.string x_1),(.string x_2),(.int .i64 x_3),(.slice x_4 x_4l x_4c)])] w4 fun v5 w5 =>
 Ext w4 w5 /\
 ∃ t6:Int,v5 = (.int .i64 t6) /\
 ∀ w7,Ext w w7 ->
 Q (.int .i64 t6) w7)
theorem ok_ask_Check (x_0:Int) (x_1:ByteArray) (x_2:ByteArray) (x_3:Int) (x_4:Option Addr) (x_4l:Nat) (x_4c:Nat) (w:World) (Q:Value->World->Prop) (h:wp_ask_Check x_0 x_1 x_2 x_3 x_4 x_4l x_4c w Q):FnP Tryz.prog F_ask_Check #[(.agg #[(.int .i64 x_0),(.string x_1),(.string x_2),(.int .i64 x_3),(.slice x_4 x_4l x_4c)])] w Q:=by
  have e_:wp_ask_Check x_0 x_1 x_2 x_3 x_4 x_4l x_4c w Q = Runs Tryz.prog Q ({ N:=8,wrap:=[],pub:=[],muts:=[],joins:=[] }:Cfg) Tryz.f72 (Tryz.f72.body.getD .skip) [.agg [.int .i64 x_0,.str x_1,.str x_2,.int .i64 x_3,.slc x_4 x_4l x_4c]] w:=by kernel_rfl
  rw [e_] at h
  exact runs_fn h Tryz.func72 (by kernel_rfl) (fun args w=>Tryz.call72 args w) (by kernel_rfl) (by kernel_rfl) rfl rfl
def wp_ask_unit (s:ByteArray) (w:World) (Q:Value->World->Prop):Prop :=
 ∀ w0,Ext w w0 ->
 Q (.bool (((decide (s = (⟨#[99,112,117]⟩:ByteArray))) || (decide (s = (⟨#[109,101,109]⟩:ByteArray)))) || (decide (s = (⟨#[103,112,117]⟩:ByteArray))))) w0
theorem ok_ask_unit (s:ByteArray) (w:World) (Q:Value->World->Prop) (h:wp_ask_unit s w Q):FnP Tryz.prog F_ask_unit #[(.string s)] w Q:=by
  have e_:wp_ask_unit s w Q = Runs Tryz.prog Q ({ N:=13,wrap:=[],pub:=[],muts:=[],joins:=[] }:Cfg) Tryz.f118 (Tryz.f118.body.getD .skip) [.sc (.str s)] w:=by kernel_rfl
  rw [e_] at h
  exact runs_fn h Tryz.func118 (by kernel_rfl) (fun args w=>Tryz.call118 args w) (by kernel_rfl) (by kernel_rfl) rfl rfl
def wp_ask_check (x_0:Int) (x_1:ByteArray) (x_2:ByteArray) (x_3:Int) (x_4:Option Addr) (x_4l:Nat) (x_4c:Nat) (w:World) (Q:Value->World->Prop):Prop :=
 ∀ b0:Nat,w.heap.size <= b0->(((x_0 < 1)\/(6 < x_0)) ->
 ∀ w1,Ext w w1 ->
 Q (.int .i64 1) w1) /\
 (((1 <= x_0)/\(x_0 <= 6)) ->
 ∃ (J1:Int->Bool->World->Prop),((((x_0 = 5) ->
 (((x_0 = 5) ->
 InR .i64 (0 + 1) /\
 InR .i64 ((0 + 1) + 1) /\
 J1 ((0 + 1) + 1) false w)) /\
 ((x_0 ≠ 5) ->
 (((x_0 = 4) ->
 InR .i64 (0 + 1) /\
 J1 (0 + 1) false w)) /\
 ((x_0 ≠ 4) ->
 J1 0 true w)))) /\
 ((x_0 ≠ 5) ->
 (((x_0 = 6) ->
 InR .i64 (0 + 1) /\
 InR .i64 ((0 + 1) + 1) /\
 J1 ((0 + 1) + 1) false w)) /\
 ((x_0 ≠ 6) ->
 (((x_0 = 4) ->
 InR .i64 (0 + 1) /\
 J1 (0 + 1) false w)) /\
 ((x_0 ≠ 4) ->
 J1 0 true w)))) /\
 ∀ (inner2:Int) (key3:Bool) (w4:World),J1 inner2 key3 w4 ->
 (((((((x_4l:Int) ≠ inner2)\/((key3 = false)/\(x_1 ≠ (⟨#[]⟩:ByteArray))))\/((x_0 ≠ 2)/\(x_2 ≠ (⟨#[]⟩:ByteArray))))\/((x_0 ≠ 3)/\(x_3 ≠ 0))) ->
 ∀ w5,Ext w4 w5 ->
 Q (.int .i64 1) w5)) /\
 ((((((x_4l:Int) = inner2)/\((key3 = true)\/(x_1 = (⟨#[]⟩:ByteArray))))/\((x_0 = 2)\/(x_2 = (⟨#[]⟩:ByteArray))))/\((x_0 = 3)\/(x_3 = 0))) ->
 ∃ (J5:World->Prop),((((x_0 = 3) ->
 ∀ w7,Ext w4 w7 ->
 FnP Tryz.prog F_ask_unit #[(.string x_1)] w7 fun v8 w8 =>
 Ext w7 w8 /\
 ∃ t9:Bool,v8 = (.bool t9) /\
 (((t9 = false) ->
 ((t9 = false) ->
 ∀ w10,Ext w4 w10 ->
 Q (.int .i64 3) w10) /\
 ((t9 = true) ->
 (((x_3 < 0)\/(1099511627776 < x_3)) ->
 ∀ w10,Ext w4 w10 ->
 Q (.int .i64 4) w10) /\
 (((0 <= x_3)/\(x_3 <= 1099511627776)) ->
 J5  w4)))) /\
 ((t9 = true) ->
 ((((x_0 = 1)\/(x_0 = 2)) ->
 ∀ w10,Ext w4 w10 ->
 FnP Tryz.prog F_ask_Label #[(.string x_1)] w10 fun v11 w11 =>
 Ext w10 w11 /\
 ∃ t12:Bool,v11 = (.bool t12) /\
 (((t12 = false) ->
 ((t12 = false) ->
 ∀ w13,Ext w4 w13 ->
 Q (.int .i64 3) w13) /\
 ((t12 = true) ->
 (((x_3 < 0)\/(1099511627776 < x_3)) ->
 ∀ w13,Ext w4 w13 ->
 Q (.int .i64 4) w13) /\
 (((0 <= x_3)/\(x_3 <= 1099511627776)) ->
 J5  w4)))) /\
 ((t12 = true) ->
 (((x_0 = 2) ->
 ∀ w13,Ext w4 w13 ->
 FnP Tryz.prog F_ask_Label #[(.string x_2)] w13 fun v14 w14 =>
 Ext w13 w14 /\
 ∃ t15:Bool,v14 = (.bool t15) /\
 ((t15 = false) ->
 ∀ w16,Ext w4 w16 ->
 Q (.int .i64 3) w16) /\
 ((t15 = true) ->
 (((x_3 < 0)\/(1099511627776 < x_3)) ->
 ∀ w16,Ext w4 w16 ->
 Q (.int .i64 4) w16) /\
 (((0 <= x_3)/\(x_3 <= 1099511627776)) ->
 J5  w4)))) /\
 ((x_0 ≠ 2) ->
 (((x_3 < 0)\/(1099511627776 < x_3)) ->
 ∀ w13,Ext w4 w13 ->
 Q (.int .i64 4) w13) /\
 (((0 <= x_3)/\(x_3 <= 1099511627776)) ->
 J5  w4))))) /\
 (((x_0 ≠ 1)/\(x_0 ≠ 2)) ->
 (((x_0 = 2) ->
 ∀ w10,Ext w4 w10 ->
 FnP Tryz.prog F_ask_Label #[(.string x_2)] w10 fun v11 w11 =>
 Ext w10 w11 /\
 ∃ t12:Bool,v11 = (.bool t12) /\
 ((t12 = false) ->
 ∀ w13,Ext w4 w13 ->
 Q (.int .i64 3) w13) /\
 ((t12 = true) ->
 (((x_3 < 0)\/(1099511627776 < x_3)) ->
 ∀ w13,Ext w4 w13 ->
 Q (.int .i64 4) w13) /\
 (((0 <= x_3)/\(x_3 <= 1099511627776)) ->
 J5  w4)))) /\
 ((x_0 ≠ 2) ->
 (((x_3 < 0)\/(1099511627776 < x_3)) ->
 ∀ w10,Ext w4 w10 ->
 Q (.int .i64 4) w10) /\
 (((0 <= x_3)/\(x_3 <= 1099511627776)) ->
 J5  w4)))))) /\
 ((x_0 ≠ 3) ->
 ((((x_0 = 1)\/(x_0 = 2)) ->
 ∀ w7,Ext w4 w7 ->
 FnP Tryz.prog F_ask_Label #[(.string x_1)] w7 fun v8 w8 =>
 Ext w7 w8 /\
 ∃ t9:Bool,v8 = (.bool t9) /\
 (((t9 = false) ->
 ((t9 = false) ->
 ∀ w10,Ext w4 w10 ->
 Q (.int .i64 3) w10) /\
 ((t9 = true) ->
 (((x_3 < 0)\/(1099511627776 < x_3)) ->
 ∀ w10,Ext w4 w10 ->
 Q (.int .i64 4) w10) /\
 (((0 <= x_3)/\(x_3 <= 1099511627776)) ->
 J5  w4)))) /\
 ((t9 = true) ->
 (((x_0 = 2) ->
 ∀ w10,Ext w4 w10 ->
 FnP Tryz.prog F_ask_Label #[(.string x_2)] w10 fun v11 w11 =>
 Ext w10 w11 /\
 ∃ t12:Bool,v11 = (.bool t12) /\
 ((t12 = false) ->
 ∀ w13,Ext w4 w13 ->
 Q (.int .i64 3) w13) /\
 ((t12 = true) ->
 (((x_3 < 0)\/(1099511627776 < x_3)) ->
 ∀ w13,Ext w4 w13 ->
 Q (.int .i64 4) w13) /\
 (((0 <= x_3)/\(x_3 <= 1099511627776)) ->
 J5  w4)))) /\
 ((x_0 ≠ 2) ->
 (((x_3 < 0)\/(1099511627776 < x_3)) ->
 ∀ w10,Ext w4 w10 ->
 Q (.int .i64 4) w10) /\
 (((0 <= x_3)/\(x_3 <= 1099511627776)) ->
 J5  w4))))) /\
 (((x_0 ≠ 1)/\(x_0 ≠ 2)) ->
 (((x_0 = 2) ->
 ∀ w7,Ext w4 w7 ->
 FnP Tryz.prog F_ask_Label #[(.string x_2)] w7 fun v8 w8 =>
 Ext w7 w8 /\
 ∃ t9:Bool,v8 = (.bool t9) /\
 ((t9 = false) ->
 ∀ w10,Ext w4 w10 ->
 Q (.int .i64 3) w10) /\
 ((t9 = true) ->
 (((x_3 < 0)\/(1099511627776 < x_3)) ->
 ∀ w10,Ext w4 w10 ->
 Q (.int .i64 4) w10) /\
 (((0 <= x_3)/\(x_3 <= 1099511627776)) ->
 J5  w4)))) /\
 ((x_0 ≠ 2) ->
 (((x_3 < 0)\/(1099511627776 < x_3)) ->
 ∀ w7,Ext w4 w7 ->
 Q (.int .i64 4) w7) /\
 (((0 <= x_3)/\(x_3 <= 1099511627776)) ->
 J5  w4))))) /\
 ∀  (w6:World),J5  w6 ->
 ∃ (I7:Int->World->Prop) (M7:Int->World->Nat),I7 0 w6 /\
 ∀ (k8:Int) (w9:World),I7 k8 w9 ->
 (((k8 < (x_4l:Int)) ->
 x_4 ≠ none /\
 (0:Int) <= k8 /\
 (k8:Int) < (x_4l:Int) /\
 (pIdx x_4 k8 5) ≠ none /\
 ∃ t10:Int,cell w9 (pIdx x_4 k8 5) 0 = some (.int .i64 t10) /\
 ∃ t11:ByteArray,cell w9 (pIdx x_4 k8 5) 1 = some (.string t11) /\
 ∃ t12:ByteArray,cell w9 (pIdx x_4 k8 5) 2 = some (.string t12) /\
 ∃ t13:Int,cell w9 (pIdx x_4 k8 5) 3 = some (.int .i64 t13) /\
 ∃ t14:Option Addr,∃ tl15:Nat,∃ tc16:Nat,cell w9 (pIdx x_4 k8 5) 4 = some (.slice t14 tl15 tc16) /\
 ∀ b17:Nat,w9.heap.size <= b17->∀ w18,Ext w9 w18 ->
 FnP Tryz.prog F_ask_check #[(.agg #[(.int .i64 t10),(.string t11),(.string t12),(.int .i64 t13),(.slice t14 tl15 tc16)])] w18 fun v19 w19 =>
 Ext w18 w19 /\
 ∃ t20:Int,v19 = (.int .i64 t20) /\
 ((t20 ≠ 0) ->
 ∀ w21,Ext w9 w21 ->
 Q (.int .i64 t20) w21) /\
 ((t20 = 0) ->
 InR .i64 (k8 + 1) /\
 (I7 (k8 + 1) w9/\M7 (k8 + 1) w9 < M7 k8 w9)))) /\
 (((x_4l:Int) <= k8) ->
 ∀ w10,Ext w9 w10 ->
 Q (.int .i64 0) w10)))
theorem ok_ask_check (x_0:Int) (x_1:ByteArray) (x_2:ByteArray) (x_3:Int) (x_4:Option Addr) (x_4l:Nat) (x_4c:Nat) (w:World) (Q:Value->World->Prop) (h:wp_ask_check x_0 x_1 x_2 x_3 x_4 x_4l x_4c w Q):FnP Tryz.prog F_ask_check #[(.agg #[(.int .i64 x_0),(.string x_1),(.string x_2),(.int .i64 x_3),(.slice x_4 x_4l x_4c)])] w Q:=by
  have e_:wp_ask_check x_0 x_1 x_2 x_3 x_4 x_4l x_4c w Q = Runs Tryz.prog Q ({ N:=115,wrap:=[],pub:=[],muts:=[],joins:=[(0,[3,4]),(4,[])] }:Cfg) Tryz.f100 (Tryz.f100.body.getD .skip) [.agg [.int .i64 x_0,.str x_1,.str x_2,.int .i64 x_3,.slc x_4 x_4l x_4c]] w:=by kernel_rfl
  rw [e_] at h
  exact runs_fn h Tryz.func100 (by kernel_rfl) (fun args w=>Tryz.call100 args w) (by kernel_rfl) (by kernel_rfl) rfl rfl
def wp_ask_text (x_0:Int) (x_1:ByteArray) (x_2:ByteArray) (x_3:Int) (x_4:Option Addr) (x_4l:Nat) (x_4c:Nat) (w:World) (Q:Value->World->Prop):Prop :=
 ∀ b0:Nat,w.heap.size <= b0->(((x_0 = 1) ->
 CatOk (⟨#[63]⟩:ByteArray) x_1 /\
 ∀ w1,Ext w w1 ->
 Q (.string ((⟨#[63]⟩:ByteArray) ++ x_1)) w1)) /\
 ((x_0 ≠ 1) ->
 (((x_0 = 2) ->
 CatOk x_1 (⟨#[61]⟩:ByteArray) /\
 CatOk (x_1 ++ (⟨#[61]⟩:ByteArray)) x_2 /\
 ∀ w1,Ext w w1 ->
 Q (.string ((x_1 ++ (⟨#[61]⟩:ByteArray)) ++ x_2)) w1)) /\
 ((x_0 ≠ 2) ->
 (((x_0 = 3) ->
 CatOk x_1 (⟨#[62,61]⟩:ByteArray) /\
 ∀ w1,Ext w w1 ->
 FnP Tryz.prog F_strconv_FormatInt #[(.int .i64 x_3),(.int .i64 10)] w1 fun v2 w2 =>
 Ext w1 w2 /\
 ∃ t3:ByteArray,v2 = (.string t3) /\
 CatOk (x_1 ++ (⟨#[62,61]⟩:ByteArray)) t3 /\
 ∀ w4,Ext w w4 ->
 Q (.string ((x_1 ++ (⟨#[62,61]⟩:ByteArray)) ++ t3)) w4)) /\
 ((x_0 ≠ 3) ->
 (((x_0 = 4) ->
 x_4 ≠ none /\
 (0:Int) <= 0 /\
 (0:Int) < (x_4l:Int) /\
 (pIdx x_4 0 5) ≠ none /\
 ∃ t1:Int,cell w (pIdx x_4 0 5) 0 = some (.int .i64 t1) /\
 ∃ t2:ByteArray,cell w (pIdx x_4 0 5) 1 = some (.string t2) /\
 ∃ t3:ByteArray,cell w (pIdx x_4 0 5) 2 = some (.string t3) /\
 ∃ t4:Int,cell w (pIdx x_4 0 5) 3 = some (.int .i64 t4) /\
 ∃ t5:Option Addr,∃ tl6:Nat,∃ tc7:Nat,cell w (pIdx x_4 0 5) 4 = some (.slice t5 tl6 tc7) /\
 ∀ w8,Ext w w8 ->
 FnP Tryz.prog F_ask_text #[(.agg #[(.int .i64 t1),(.string t2),(.string t3),(.int .i64 t4),(.slice t5 tl6 tc7)])] w8 fun v9 w9 =>
 Ext w8 w9 /\
 ∃ t10:ByteArray,v9 = (.string t10) /\
 CatOk (⟨#[33]⟩:ByteArray) t10 /\
 ∀ w11,Ext w w11 ->
 Q (.string ((⟨#[33]⟩:ByteArray) ++ t10)) w11)) /\
 ((x_0 ≠ 4) ->
 (((x_0 = 5) ->
 x_4 ≠ none /\
 (0:Int) <= 0 /\
 (0:Int) < (x_4l:Int) /\
 (pIdx x_4 0 5) ≠ none /\
 ∃ t1:Int,cell w (pIdx x_4 0 5) 0 = some (.int .i64 t1) /\
 ∃ t2:ByteArray,cell w (pIdx x_4 0 5) 1 = some (.string t2) /\
 ∃ t3:ByteArray,cell w (pIdx x_4 0 5) 2 = some (.string t3) /\
 ∃ t4:Int,cell w (pIdx x_4 0 5) 3 = some (.int .i64 t4) /\
 ∃ t5:Option Addr,∃ tl6:Nat,∃ tc7:Nat,cell w (pIdx x_4 0 5) 4 = some (.slice t5 tl6 tc7) /\
 x_4 ≠ none /\
 (0:Int) <= 1 /\
 (1:Int) < (x_4l:Int) /\
 (pIdx x_4 1 5) ≠ none /\
 ∃ t8:Int,cell w (pIdx x_4 1 5) 0 = some (.int .i64 t8) /\
 ∃ t9:ByteArray,cell w (pIdx x_4 1 5) 1 = some (.string t9) /\
 ∃ t10:ByteArray,cell w (pIdx x_4 1 5) 2 = some (.string t10) /\
 ∃ t11:Int,cell w (pIdx x_4 1 5) 3 = some (.int .i64 t11) /\
 ∃ t12:Option Addr,∃ tl13:Nat,∃ tc14:Nat,cell w (pIdx x_4 1 5) 4 = some (.slice t12 tl13 tc14) /\
 ∀ w15,Ext w w15 ->
 FnP Tryz.prog F_ask_text #[(.agg #[(.int .i64 t1),(.string t2),(.string t3),(.int .i64 t4),(.slice t5 tl6 tc7)])] w15 fun v16 w16 =>
 Ext w15 w16 /\
 ∃ t17:ByteArray,v16 = (.string t17) /\
 CatOk (⟨#[40]⟩:ByteArray) t17 /\
 CatOk ((⟨#[40]⟩:ByteArray) ++ t17) (⟨#[38]⟩:ByteArray) /\
 ∀ w18,Ext w w18 ->
 FnP Tryz.prog F_ask_text #[(.agg #[(.int .i64 t8),(.string t9),(.string t10),(.int .i64 t11),(.slice t12 tl13 tc14)])] w18 fun v19 w19 =>
 Ext w18 w19 /\
 ∃ t20:ByteArray,v19 = (.string t20) /\
 CatOk (((⟨#[40]⟩:ByteArray) ++ t17) ++ (⟨#[38]⟩:ByteArray)) t20 /\
 CatOk ((((⟨#[40]⟩:ByteArray) ++ t17) ++ (⟨#[38]⟩:ByteArray)) ++ t20) (⟨#[41]⟩:ByteArray) /\
 ∀ w21,Ext w w21 ->
 Q (.string (((((⟨#[40]⟩:ByteArray) ++ t17) ++ (⟨#[38]⟩:ByteArray)) ++ t20) ++ (⟨#[41]⟩:ByteArray))) w21)) /\
 ((x_0 ≠ 5) ->
 x_4 ≠ none /\
 (0:Int) <= 0 /\
 (0:Int) < (x_4l:Int) /\
 (pIdx x_4 0 5) ≠ none /\
 ∃ t1:Int,cell w (pIdx x_4 0 5) 0 = some (.int .i64 t1) /\
 ∃ t2:ByteArray,cell w (pIdx x_4 0 5) 1 = some (.string t2) /\
 ∃ t3:ByteArray,cell w (pIdx x_4 0 5) 2 = some (.string t3) /\
 ∃ t4:Int,cell w (pIdx x_4 0 5) 3 = some (.int .i64 t4) /\
 ∃ t5:Option Addr,∃ tl6:Nat,∃ tc7:Nat,cell w (pIdx x_4 0 5) 4 = some (.slice t5 tl6 tc7) /\
 x_4 ≠ none /\
 (0:Int) <= 1 /\
 (1:Int) < (x_4l:Int) /\
 (pIdx x_4 1 5) ≠ none /\
 ∃ t8:Int,cell w (pIdx x_4 1 5) 0 = some (.int .i64 t8) /\
 ∃ t9:ByteArray,cell w (pIdx x_4 1 5) 1 = some (.string t9) /\
 ∃ t10:ByteArray,cell w (pIdx x_4 1 5) 2 = some (.string t10) /\
 ∃ t11:Int,cell w (pIdx x_4 1 5) 3 = some (.int .i64 t11) /\
 ∃ t12:Option Addr,∃ tl13:Nat,∃ tc14:Nat,cell w (pIdx x_4 1 5) 4 = some (.slice t12 tl13 tc14) /\
 ∀ w15,Ext w w15 ->
 FnP Tryz.prog F_ask_text #[(.agg #[(.int .i64 t1),(.string t2),(.string t3),(.int .i64 t4),(.slice t5 tl6 tc7)])] w15 fun v16 w16 =>
 Ext w15 w16 /\
 ∃ t17:ByteArray,v16 = (.string t17) /\
 CatOk (⟨#[40]⟩:ByteArray) t17 /\
 CatOk ((⟨#[40]⟩:ByteArray) ++ t17) (⟨#[124]⟩:ByteArray) /\
 ∀ w18,Ext w w18 ->
 FnP Tryz.prog F_ask_text #[(.agg #[(.int .i64 t8),(.string t9),(.string t10),(.int .i64 t11),(.slice t12 tl13 tc14)])] w18 fun v19 w19 =>
 Ext w18 w19 /\
 ∃ t20:ByteArray,v19 = (.string t20) /\
 CatOk (((⟨#[40]⟩:ByteArray) ++ t17) ++ (⟨#[124]⟩:ByteArray)) t20 /\
 CatOk ((((⟨#[40]⟩:ByteArray) ++ t17) ++ (⟨#[124]⟩:ByteArray)) ++ t20) (⟨#[41]⟩:ByteArray) /\
 ∀ w21,Ext w w21 ->
 Q (.string (((((⟨#[40]⟩:ByteArray) ++ t17) ++ (⟨#[124]⟩:ByteArray)) ++ t20) ++ (⟨#[41]⟩:ByteArray))) w21)))))
theorem ok_ask_text (x_0:Int) (x_1:ByteArray) (x_2:ByteArray) (x_3:Int) (x_4:Option Addr) (x_4l:Nat) (x_4c:Nat) (w:World) (Q:Value->World->Prop) (h:wp_ask_text x_0 x_1 x_2 x_3 x_4 x_4l x_4c w Q):FnP Tryz.prog F_ask_text #[(.agg #[(.int .i64 x_0),(.string x_1),(.string x_2),(.int .i64 x_3),(.slice x_4 x_4l x_4c)])] w Q:=by
  have e_:wp_ask_text x_0 x_1 x_2 x_3 x_4 x_4l x_4c w Q = Runs Tryz.prog Q ({ N:=65,wrap:=[],pub:=[],muts:=[],joins:=[] }:Cfg) Tryz.f120 (Tryz.f120.body.getD .skip) [.agg [.int .i64 x_0,.str x_1,.str x_2,.int .i64 x_3,.slc x_4 x_4l x_4c]] w:=by kernel_rfl
  rw [e_] at h
  exact runs_fn h Tryz.func120 (by kernel_rfl) (fun args w=>Tryz.call120 args w) (by kernel_rfl) (by kernel_rfl) rfl rfl
def wp_ask_Text (x_0:Int) (x_1:ByteArray) (x_2:ByteArray) (x_3:Int) (x_4:Option Addr) (x_4l:Nat) (x_4c:Nat) (w:World) (Q:Value->World->Prop):Prop :=
 ∀ b0:Nat,w.heap.size <= b0->∀ w1,Ext w w1 ->
 FnP Tryz.prog F_ask_Check #[(.agg #[(.int .i64 x_0),(.string x_1),(.string x_2),(.int .i64 x_3),(.slice x_4 x_4l x_4c)])] w1 fun v2 w2 =>
 Ext w1 w2 /\
 ∃ t3:Int,v2 = (.int .i64 t3) /\
 ((t3 ≠ 0) ->
 ∀ w4,Ext w w4 ->
 Q (.tuple #[(.string (⟨#[]⟩:ByteArray)),(.int .i64 t3)]) w4) /\
 ((t3 = 0) ->
 ∀ w4,Ext w w4 ->
 FnP Tryz.prog F_ask_text #[(.agg #[(.int .i64 x_0),(.string x_1),(.string x_2),(.int .i64 x_3),(.slice x_4 x_4l x_4c)])] w4 fun v5 w5 =>
 Ext w4 w5 /\
 ∃ t6:ByteArray,v5 = (.string t6) /\
 ∀ w7,Ext w w7 ->
 Q (.tuple #[(.string t6),(.int .i64 0)]) w7)
theorem ok_ask_Text (x_0:Int) (x_1:ByteArray) (x_2:ByteArray) (x_3:Int) (x_4:Option Addr) (x_4l:Nat) (x_4c:Nat) (w:World) (Q:Value->World->Prop) (h:wp_ask_Text x_0 x_1 x_2 x_3 x_4 x_4l x_4c w Q):FnP Tryz.prog F_ask_Text #[(.agg #[(.int .i64 x_0),(.string x_1),(.string x_2),(.int .i64 x_3),(.slice x_4 x_4l x_4c)])] w Q:=by
  have e_:wp_ask_Text x_0 x_1 x_2 x_3 x_4 x_4l x_4c w Q = Runs Tryz.prog Q ({ N:=12,wrap:=[],pub:=[],muts:=[],joins:=[] }:Cfg) Tryz.f102 (Tryz.f102.body.getD .skip) [.agg [.int .i64 x_0,.str x_1,.str x_2,.int .i64 x_3,.slc x_4 x_4l x_4c]] w:=by kernel_rfl
  rw [e_] at h
  exact runs_fn h Tryz.func102 (by kernel_rfl) (fun args w=>Tryz.call102 args w) (by kernel_rfl) (by kernel_rfl) rfl rfl
def wp_ask_reader_take (r:Option Addr) (c:Int) (w:World) (Q:Value->World->Prop):Prop :=
 r ≠ none /\
 r ≠ none /\
 ∃ t0:ByteArray,cell w (pAdd r 0) 0 = some (.string t0) /\
 ((t0 ≠ (⟨#[]⟩:ByteArray)) ->
 r ≠ none) /\
 ((t0 ≠ (⟨#[]⟩:ByteArray)) ->
 r ≠ none) /\
 ((t0 = (⟨#[]⟩:ByteArray)) ->
 ∀ w1,Ext w w1 ->
 Q (.bool false) w1) /\
 ((t0 ≠ (⟨#[]⟩:ByteArray)) ->
 ∃ t1:ByteArray,cell w (pAdd r 0) 0 = some (.string t1) /\
 (0:Int) <= 0 /\
 (0:Int) < (t1.size:Int) /\
 (((sAt t1 0) ≠ c) ->
 ∀ w2,Ext w w2 ->
 Q (.bool false) w2) /\
 (((sAt t1 0) = c) ->
 r ≠ none /\
 r ≠ none /\
 ∃ t2:ByteArray,cell w (pAdd r 0) 0 = some (.string t2) /\
 (0:Int) <= 1 /\
 (1:Int) <= (t2.size:Int) /\
 ((t2.size:Int):Int) <= (t2.size:Int) /\
 r ≠ none /\
 r ≠ none /\
 Store w (pAdd r 0) [(.string (t2.extract (1:Int).toNat (t2.size:Int).toNat))] [] fun w3 =>
 ∀ w4,Ext w3 w4 ->
 Q (.bool true) w4))
theorem ok_ask_reader_take (r:Option Addr) (c:Int) (w:World) (Q:Value->World->Prop) (h:wp_ask_reader_take r c w Q):FnP Tryz.prog F_ask_reader_take #[(.pointer r),(.int .u8 c)] w Q:=by
  have e_:wp_ask_reader_take r c w Q = Runs Tryz.prog Q ({ N:=27,wrap:=[],pub:=[],muts:=[],joins:=[] }:Cfg) Tryz.f149 (Tryz.f149.body.getD .skip) [.sc (.ptr r),.sc (.int .u8 c)] w:=by kernel_rfl
  rw [e_] at h
  exact runs_fn h Tryz.func149 (by kernel_rfl) (fun args w=>Tryz.call149 args w) (by kernel_rfl) (by kernel_rfl) rfl rfl
def wp_ask_reader_word (r:Option Addr) (w:World) (Q:Value->World->Prop):Prop :=
 r ≠ none /\
 r ≠ none /\
 ∃ t0:ByteArray,cell w (pAdd r 0) 0 = some (.string t0) /\
 ∀ w1,Ext w w1 ->
 FnP Tryz.prog F_strings_IndexAny #[(.string t0),(.string (⟨#[63,61,62,33,40,41,38,124]⟩:ByteArray))] w1 fun v2 w2 =>
 Ext w1 w2 /\
 ∃ t3:Int,v2 = (.int .i64 t3) /\
 (((t3 < 0) ->
 r ≠ none /\
 r ≠ none /\
 ∃ t4:ByteArray,cell w (pAdd r 0) 0 = some (.string t4) /\
 r ≠ none /\
 r ≠ none /\
 ∃ t5:ByteArray,cell w (pAdd r 0) 0 = some (.string t5) /\
 (0:Int) <= 0 /\
 (0:Int) <= (t4.size:Int) /\
 ((t4.size:Int):Int) <= (t5.size:Int) /\
 r ≠ none /\
 r ≠ none /\
 ∃ t6:ByteArray,cell w (pAdd r 0) 0 = some (.string t6) /\
 (0:Int) <= (t4.size:Int) /\
 ((t4.size:Int):Int) <= (t6.size:Int) /\
 ((t6.size:Int):Int) <= (t6.size:Int) /\
 r ≠ none /\
 r ≠ none /\
 Store w (pAdd r 0) [(.string (t6.extract (t4.size:Int).toNat (t6.size:Int).toNat))] [] fun w7 =>
 ∀ w8,Ext w7 w8 ->
 Q (.string (t5.extract (0:Int).toNat (t4.size:Int).toNat)) w8)) /\
 ((0 <= t3) ->
 r ≠ none /\
 r ≠ none /\
 ∃ t4:ByteArray,cell w (pAdd r 0) 0 = some (.string t4) /\
 (0:Int) <= 0 /\
 (0:Int) <= t3 /\
 (t3:Int) <= (t4.size:Int) /\
 r ≠ none /\
 r ≠ none /\
 ∃ t5:ByteArray,cell w (pAdd r 0) 0 = some (.string t5) /\
 (0:Int) <= t3 /\
 (t3:Int) <= (t5.size:Int) /\
 ((t5.size:Int):Int) <= (t5.size:Int) /\
 r ≠ none /\
 r ≠ none /\
 Store w (pAdd r 0) [(.string (t5.extract t3.toNat (t5.size:Int).toNat))] [] fun w6 =>
 ∀ w7,Ext w6 w7 ->
 Q (.string (t4.extract (0:Int).toNat t3.toNat)) w7)
theorem ok_ask_reader_word (r:Option Addr) (w:World) (Q:Value->World->Prop) (h:wp_ask_reader_word r w Q):FnP Tryz.prog F_ask_reader_word #[(.pointer r)] w Q:=by
  have e_:wp_ask_reader_word r w Q = Runs Tryz.prog Q ({ N:=33,wrap:=[],pub:=[],muts:=[],joins:=[] }:Cfg) Tryz.f150 (Tryz.f150.body.getD .skip) [.sc (.ptr r)] w:=by kernel_rfl
  rw [e_] at h
  exact runs_fn h Tryz.func150 (by kernel_rfl) (fun args w=>Tryz.call150 args w) (by kernel_rfl) (by kernel_rfl) rfl rfl
def wp_shiftbellkeep_sameAsk (a_0:Int) (a_1:ByteArray) (a_2:ByteArray) (a_3:Int) (a_4:Option Addr) (a_4l:Nat) (a_4c:Nat) (b_0:Int) (b_1:ByteArray) (b_2:ByteArray) (b_3:Int) (b_4:Option Addr) (b_4l:Nat) (b_4c:Nat) (w:World) (Q:Value->World->Prop):Prop :=
 ∀ b0:Nat,w.heap.size <= b0->∀ b1:Nat,w.heap.size <= b1->((((((a_0 = b_0)/\(a_1 = b_1))/\(a_2 = b_2))/\(a_3 = b_3)) ->
 ∀ w2,Ext w w2 ->
 FnP Tryz.prog F_slices_EqualFunc_api_Ask_api_Ask_api_Ask_api_Ask #[(.slice a_4 a_4l a_4c),(.slice b_4 b_4l b_4c),(.func (.func 76) #[] #[])] w2 fun v3 w3 =>
 Ext w2 w3 /\
 ∃ t4:Bool,v3 = (.bool t4) /\
 ∀ w5,Ext w w5 ->
 Q (.bool t4) w5)) /\
 (((((a_0 ≠ b_0)\/(a_1 ≠ b_1))\/(a_2 ≠ b_2))\/(a_3 ≠ b_3)) ->
 ∀ w2,Ext w w2 ->
 Q (.bool false) w2)
theorem ok_shiftbellkeep_sameAsk (a_0:Int) (a_1:ByteArray) (a_2:ByteArray) (a_3:Int) (a_4:Option Addr) (a_4l:Nat) (a_4c:Nat) (b_0:Int) (b_1:ByteArray) (b_2:ByteArray) (b_3:Int) (b_4:Option Addr) (b_4l:Nat) (b_4c:Nat) (w:World) (Q:Value->World->Prop) (h:wp_shiftbellkeep_sameAsk a_0 a_1 a_2 a_3 a_4 a_4l a_4c b_0 b_1 b_2 b_3 b_4 b_4l b_4c w Q):FnP Tryz.prog F_shiftbellkeep_sameAsk #[(.agg #[(.int .i64 a_0),(.string a_1),(.string a_2),(.int .i64 a_3),(.slice a_4 a_4l a_4c)]),(.agg #[(.int .i64 b_0),(.string b_1),(.string b_2),(.int .i64 b_3),(.slice b_4 b_4l b_4c)])] w Q:=by
  have e_:wp_shiftbellkeep_sameAsk a_0 a_1 a_2 a_3 a_4 a_4l a_4c b_0 b_1 b_2 b_3 b_4 b_4l b_4c w Q = Runs Tryz.prog Q ({ N:=38,wrap:=[],pub:=[],muts:=[],joins:=[] }:Cfg) Tryz.f76 (Tryz.f76.body.getD .skip) [.agg [.int .i64 a_0,.str a_1,.str a_2,.int .i64 a_3,.slc a_4 a_4l a_4c],.agg [.int .i64 b_0,.str b_1,.str b_2,.int .i64 b_3,.slc b_4 b_4l b_4c]] w:=by kernel_rfl
  rw [e_] at h
  exact runs_fn h Tryz.func76 (by kernel_rfl) (fun args w=>Tryz.call76 args w) (by kernel_rfl) (by kernel_rfl) rfl rfl
def wp_slices_EqualFunc_api_Ask_api_Ask_api_Ask_api_Ask (s1:Option Addr) (s1l:Nat) (s1c:Nat) (s2:Option Addr) (s2l:Nat) (s2c:Nat) (eq:Value) (w:World) (Q:Value->World->Prop):Prop :=
 (((s1l:Int) ≠ (s2l:Int)) ->
 ∀ w0,Ext w w0 ->
 Q (.bool false) w0) /\
 (((s1l:Int) = (s2l:Int)) ->
 ∃ (I0:Int->World->Prop) (M0:Int->World->Nat),I0 0 w /\
 ∀ (k1:Int) (w2:World),I0 k1 w2 ->
 (((k1 < (s1l:Int)) ->
 s1 ≠ none /\
 (0:Int) <= k1 /\
 (k1:Int) < (s1l:Int) /\
 (pIdx s1 k1 5) ≠ none /\
 ∃ t3:Int,cell w2 (pIdx s1 k1 5) 0 = some (.int .i64 t3) /\
 ∃ t4:ByteArray,cell w2 (pIdx s1 k1 5) 1 = some (.string t4) /\
 ∃ t5:ByteArray,cell w2 (pIdx s1 k1 5) 2 = some (.string t5) /\
 ∃ t6:Int,cell w2 (pIdx s1 k1 5) 3 = some (.int .i64 t6) /\
 ∃ t7:Option Addr,∃ tl8:Nat,∃ tc9:Nat,cell w2 (pIdx s1 k1 5) 4 = some (.slice t7 tl8 tc9) /\
 ∀ b10:Nat,w2.heap.size <= b10->s2 ≠ none /\
 (0:Int) <= k1 /\
 (k1:Int) < (s2l:Int) /\
 (pIdx s2 k1 5) ≠ none /\
 ∃ t11:Int,cell w2 (pIdx s2 k1 5) 0 = some (.int .i64 t11) /\
 ∃ t12:ByteArray,cell w2 (pIdx s2 k1 5) 1 = some (.string t12) /\
 ∃ t13:ByteArray,cell w2 (pIdx s2 k1 5) 2 = some (.string t13) /\
 ∃ t14:Int,cell w2 (pIdx s2 k1 5) 3 = some (.int .i64 t14) /\
 ∃ t15:Option Addr,∃ tl16:Nat,∃ tc17:Nat,cell w2 (pIdx s2 k1 5) 4 = some (.slice t15 tl16 tc17) /\
 ∀ b18:Nat,w2.heap.size <= b18->∀ w19,Ext w2 w19 ->
 FnVP Tryz.prog eq [(.agg #[(.int .i64 t3),(.string t4),(.string t5),(.int .i64 t6),(.slice t7 tl8 tc9)]),(.agg #[(.int .i64 t11),(.string t12),(.string t13),(.int .i64 t14),(.slice t15 tl16 tc17)])] w19 fun v20 w20 =>
 Ext w19 w20 /\
 ∃ t21:Bool,v20 = (.bool t21) /\
 ((t21 = false) ->
 ∀ w22,Ext w2 w22 ->
 Q (.bool false) w22) /\
 ((t21 = true) ->
 InR .i64 (k1 + 1) /\
 (I0 (k1 + 1) w2/\M0 (k1 + 1) w2 < M0 k1 w2)))) /\
 (((s1l:Int) <= k1) ->
 ∀ w3,Ext w2 w3 ->
 Q (.bool true) w3))
theorem ok_slices_EqualFunc_api_Ask_api_Ask_api_Ask_api_Ask (s1:Option Addr) (s1l:Nat) (s1c:Nat) (s2:Option Addr) (s2l:Nat) (s2c:Nat) (eq:Value) (w:World) (Q:Value->World->Prop) (h:wp_slices_EqualFunc_api_Ask_api_Ask_api_Ask_api_Ask s1 s1l s1c s2 s2l s2c eq w Q):FnP Tryz.prog F_slices_EqualFunc_api_Ask_api_Ask_api_Ask_api_Ask #[(.slice s1 s1l s1c),(.slice s2 s2l s2c),eq] w Q:=by
  have e_:wp_slices_EqualFunc_api_Ask_api_Ask_api_Ask_api_Ask s1 s1l s1c s2 s2l s2c eq w Q = Runs Tryz.prog Q ({ N:=32,wrap:=[],pub:=[],muts:=[],joins:=[] }:Cfg) Tryz.f110 (Tryz.f110.body.getD .skip) [.sc (.slc s1 s1l s1c),.sc (.slc s2 s2l s2c),.sc (.val eq)] w:=by kernel_rfl
  rw [e_] at h
  exact runs_fn h Tryz.func110 (by kernel_rfl) (fun args w=>Tryz.call110 args w) (by kernel_rfl) (by kernel_rfl) rfl rfl
end Go.Proofs.YtegephkpdlopaaaGreatDoor
