/- The framework, the program's texts and what is shown of them: part 6. -/
import Derived.Test.YtcceeahmcecbnaaGreatDoorWTopDone5
import Derived.Test.YtcceeahmcecbnaaGreatDoorRows
import Derived.Lay
set_option linter.unusedVariables false
set_option linter.unusedSimpArgs false
set_option maxRecDepth 100000
namespace Go.Proofs.YtcceeahmcecbnaaGreatDoor
open Go.Sx Go.RowKit
def zEX (w:World) (s:ByteArray) (v:Value) (w':World):Prop:=Ext w w'/\∃ j pa ca pf cf e,v=.tuple #[jv j pa ca pf cf,.int .i64 e]/\WfJ j/\(∀ S:Nat->Prop,(∀ b,S b->b<w.heap.size)->∀ w'',Fr S w' w''->IsJ w'' j pa ca pf) /\
  ((e≠0/\j=zdr/\pa=none/\ca=0/\pf=none/\cf=0)\/(e=0/\okJ j/\nod j.ask<=60/\s=ofL (jtx j)/\(txt j.ask).length<=2000))/\(3000<s.size->e=2)/\(s.size<=3000->e=0\/e=3)/\(∀ j0,JT s j0->s.size<=3000->e=0/\j=j0)
theorem zgQ {w w':World} {s:ByteArray} (x:Ext w w') {e:Int} (he:e≠0) (hno:∀ j0,JT s j0->s.size<=3000->False) (hE:(3000<s.size->e=2)/\(s.size<=3000->e=3):=by refine ⟨fun h=>?_,fun h=>?_⟩<;>omega):zEX w s (.tuple #[jv zdr none 0 none 0,.int .i64 e]) w' :=
  ⟨x,zdr,none,0,none,0,e,rfl,zh6,fun _ _ _ _=>zoz _,.inl ⟨he,rfl,rfl,rfl,rfl,rfl⟩,hE.1,fun h=>.inr (hE.2 h),fun j0 h hs=>(hno j0 h hs).elim⟩
theorem zF8 (s:ByteArray) (hs63:s.size<=9223372036854775807) (w:World) (g:GB w):FnP Tryz.prog zgI #[.string s] w (zEX w s):=by
  refine zpC s w _ fun b0 hb0=>⟨fun hbig w1 h1=>zgQ h1 (by decide) fun j0 _ h=>by omega,fun hsm w1 x1=>?_⟩
  have h1:=zaa x1
  have hb01:b0<w1.heap.size:=x1.lt b0 (by simp)
  refine (zeR 32 s (by omega) w1 (g.ext h1)).mono fun v w2 ⟨e2,hv,hc2,hlt2⟩=>⟨e2,_,_,_,hv,fun hne w6 x6=>?_,fun h5=>?_⟩
  · refine zgQ (zav x6 (h1.trans e2) (by intro d hd; simp at hd; omega)) (by decide) fun j0 hj _=>hne ?_
    rw [(zga hj).1]; rfl
  have hw2:Ext w w2:=h1.trans e2
  have hcnt:Lib.countB s (one 32)=4:=by omega
  rw [hcnt] at hc2
  have hlen:=zeF (c:=32) 4 s hcnt
  have hsz:∀ i q,(Lib.splitB (one 32) 0 4 s)[i]?=some q->q.size+i<=s.size:=fun i q h=>zcw _ s i q h
  have hjt:∀ j0,JT s j0->Lib.splitB (one 32) 0 4 s=(jps j0).map ofL:=fun j0 hj=>(zga hj).2
  generalize Lib.splitB (one 32) 0 4 s=Ps at hc2 hlen hsz hjt
  have spn:(some (⟨w1.heap.size,0,none⟩:Addr))≠none:=by simp
  have spb:∀ a,(some (⟨w1.heap.size,0,none⟩:Addr))=some a->a.block<w2.heap.size:=fun a ha=>by obtain rfl:=Option.some.inj ha; exact hlt2
  generalize (some (⟨w1.heap.size,0,none⟩:Addr))=sp at hc2 spn spb ⊢
  obtain ⟨P0,P1,P2,P3,P4,rfl⟩:∃ a b c d e,Ps=[a,b,c,d,e]:=by
    match Ps,hlen with
    |[a,b,c,d,e],_ => exact ⟨a,b,c,d,e,rfl⟩
  have cellP:∀ {w':World} (i:Nat) (q:ByteArray),Ext w2 w'->([P0,P1,P2,P3,P4]:List ByteArray)[i]?=some q->Go.Sx.cell w' (pIdx sp (i:Int) 1) 0=some (.string q):=fun {w'} i q hx hq=>by
    rw [zae]
    have:=hc2.ext hx i (.string q) (by rw [List.getElem?_map,hq]; rfl)
    simpa using this
  have s0:=hsz 0 P0 rfl
  have s1:=hsz 1 P1 rfl
  have s2:=hsz 2 P2 rfl
  have s3:=hsz 3 P3 rfl
  have s4:=hsz 4 P4 rfl
  refine ⟨spn,by omega,by omega,P0,cellP 0 P0 (Ext.refl _) rfl,fun b7 hb7=>⟨spn,by omega,by omega,P1,cellP 1 P1 (Ext.refl _) rfl,fun w9 x9=>?_⟩⟩
  have hfree:∀ i:Int,zv2 [b7] (pIdx sp i 1):=fun i b hb a ha=>by
    simp at hb; subst hb
    cases sp with
    |none => exact absurd rfl spn
    |some x =>
      have:=spb x rfl
      simp [pIdx] at ha
      rw [<- ha,zaS]; omega
  have h9:=zaa x9
  have hw9:=hw2.trans h9
  refine (zrg P1 (by omega) w9 (g.ext hw9)).mono fun v w10 ⟨e10,n1,ev,hv,hcase⟩=>⟨e10,n1,ev,hv,spn,by omega,by omega,P2,⟨cellP 2 P2 (h9.trans e10) rfl,hfree 2⟩,fun w14 x14=>?_⟩
  have hw10:=hw9.trans e10
  have h210:Ext w2 w10:=h9.trans e10
  have hb7w:w.heap.size<=b7:=Nat.le_trans hw2.size hb7
  have hw14:Ext w w14:=zav x14 hw10 (by intro d hd; simp at hd; omega)
  refine (zC3 P2 (by omega) w14 (g.ext hw14)).mono fun v w15 ⟨e15,nd,en,hv,hnz,hnok,hncomp⟩=>⟨e15,nd.c,nd.m,nd.g,en,hv,spn,by omega,by omega,P4,⟨cellP 4 P4 h210 rfl,hfree 4⟩,fun w21 x21=>?_⟩
  have hw21:Ext w w21:=zav x21 hw10 (by intro d hd; simp at hd; omega)
  have h221:Ext w2 w21:=zav x21 h210 (by intro d hd; simp at hd; omega)
  have hb0_21:b0<w21.heap.size:=x21.lt b0 (by simp)
  have hb7_21:b7<w21.heap.size:=x21.lt b7 (by simp)
  refine (zwh P4 w21 (g.ext hw21)).mono fun v w22 ⟨e22,t,pa,ca,ea,hv,hWt,hTt,horA,hcompA⟩=>⟨e22,t.k,t.key,t.val,t.n,pa,t.xs.length,ca,ea,hv,fun w31 x31=>?_⟩
  have hw22:Ext w w22:=hw21.trans e22
  have h222:Ext w2 w22:=h221.trans e22
  have hn1:InR .i64 n1\/ev≠.nilIface:=by
    rcases hcase with ⟨_,h⟩|⟨⟨a,b,h⟩,_⟩
    · exact .inl (zgW h)
    · exact .inr (by rw [h]; simp)
  have parts:∀ j0,JT s j0->P0=j0.user/\P1=ofL (Lib.itoa j0.prio)/\P2=ofL (zbo j0.nd)/\P3=ofL (zqg j0.aft)/\P4=ofL (txt j0.ask):=fun j0 hj=>by
    have:=hjt j0 hj
    simp only [jps,List.map_cons,List.map_nil,List.cons.injEq,and_true] at this
    rw [zb8] at this
    exact this
  have good0:∀ j0,JT s j0->s.size<=3000->ev=.nilIface/\n1=j0.prio/\en=0/\nd=j0.nd/\ea=0/\t=j0.ask:=fun j0 hj hs=>by
    obtain ⟨q0,q1,q2,q3,q4⟩:=parts j0 hj
    have hp:=zgV (n:=j0.prio) (by have:=hj.ok.prio; omega)
    have ha:=hcompA j0.ask hj.ok.ask hj.nod q4 (by rw [q4,zas]; exact hj.ask)
    have hd:=hncomp j0.nd hj.ok.nd q2
    rcases hcase with ⟨h,h'⟩|⟨_,h'⟩
    · rw [q1,zck,hp] at h'
      cases h'
      exact ⟨h,rfl,hd.1,hd.2,ha.1,ha.2⟩
    · rw [q1,zck] at h'
      exact absurd hp (h' _)
  refine ziW (by kernel_rfl) (hcase.elim (fun h=>.inl h.1) fun h=>.inr h.1) fun tb htb=>⟨Ext.refl _,tb,rfl,fun hbad w34 x34=>?_,fun hgd=>?_⟩
  · refine zgQ (zav x34 hw22 (by intro d hd; simp at hd; omega)) (by decide) fun j0 hj hs=>?_
    obtain ⟨a1,_,a3,_,a5,_⟩:=good0 j0 hj hs
    rcases hbad with (h|h)|h
    · rw [htb.2 a1] at h; cases h
    · exact h a3
    · exact h a5
  have hev:ev=.nilIface:=htb.1 hgd.1.1
  have hn1:InR .i64 n1:=hn1.resolve_right fun h=>h hev
  have hnd:=hnok hgd.1.2
  obtain ⟨htC,htn,htx,_⟩:zl3 t=0/\nod t<=60/\P4=ofL (txt t)/\P4.size<=2000:=by
    rcases horA with ⟨h,_⟩|⟨_,h⟩
    · exact absurd hgd.2 h
    · exact h
  have htl:(txt t).length<=2000:=by rw [<- zas,<- htx]; assumption
  have tail:∀ (xs:List Int) (pf:Option Addr) (cf:Nat) (wt:World),Ext w wt->Fr (fun b=>b=b7) w22 wt->Own w21.heap.size wt zfJ 1 pf xs.length cf (xs.map (.int .i64))->(∀ x∈xs,InR .i64 x)->xs.length<=9223372036854775807->(∀ j0,JT s j0->s.size<=3000->xs=j0.aft) ->
      ∀ w55,zag [b7] [] wt w55->FnP Tryz.prog zd9 #[jv ⟨P0,n1,nd,t,xs⟩ pa ca pf cf] w55 fun v56 w56=>Ext w55 w56/\∃ t57:ByteArray,∃ t58:Int,v56=(.tuple #[(.string t57),(.int .i64 t58)]) /\
        (((t58≠0)\/(t57≠s))->∀ w59,zag [b0,b7] [] wt w59->zEX w s (.tuple #[jv zdr none 0 none 0,.int .i64 3]) w59) /\
        (((t58=0)/\(t57=s))->∀ w59,zag [b0,b7] [] wt w59->zEX w s (.tuple #[jv ⟨P0,n1,nd,t,xs⟩ pa ca pf cf,.int .i64 0]) w59):=by
    intro xs pf cf wt hwt ft o hxr hxl hcx w55 x55
    have hW:WfJ ⟨P0,n1,nd,t,xs⟩:=⟨by show P0.size<=_; omega,hn1,hnd.1.rng,hWt,hxl,hxr⟩
    have key:∀ (S:Nat->Prop),(∀ b,S b->b<w21.heap.size)->∀ w'',Fr S wt w''->IsJ w'' ⟨P0,n1,nd,t,xs⟩ pa ca pf:=fun S hS w'' fw=>by
      refine ⟨hTt (fun b=>b=b7\/S b) (fun b hb=>by rcases hb with rfl|hb; (· exact hb7_21); exact hS b hb) w'' ((ft.mono fun b hb=>.inl hb).tr (fw.mono fun b hb=>.inr hb)),?_⟩
      exact (Own.fr o fw fun a ha hb=>by have:=(o.lt a ha).1; have:=hS _ hb; omega).cells
    have f55:Fr (fun b=>b=b7) wt w55:=zbK x55 (by intro d hd; simp at hd; exact .inl hd)
    have hw55:Ext w w55:=zav x55 hwt (by intro d hd; simp at hd; omega)
    refine (zw1 ⟨P0,n1,nd,t,xs⟩ pa ca pf cf w55 (key (fun b=>b=b7) (fun b hb=>by omega) w55 f55) hW (by show nod t<=_; omega) (g.ext hw55)).mono fun v w56 ⟨e56,tt,e,hv,heq,hem,htt⟩=>⟨e56,tt,e,hv,fun hbad w59 x59=>?_,fun hgood w59 x59=>?_⟩
    · refine zgQ (zav x59 hwt (by intro d hd; simp at hd; omega)) (by decide) fun j0 hj hs=>?_
      obtain ⟨q0,_⟩:=parts j0 hj
      obtain ⟨_,a2,_,a4,_,a6⟩:=good0 j0 hj hs
      have hxa:=hcx j0 hj hs
      have hj0:(⟨P0,n1,nd,t,xs⟩:Jb)=j0:=by rw [q0,a2,a4,a6,hxa]
      have he0:e=0:=heq.2 (by rw [hj0]; exact hj.ok)
      rcases hbad with h|h
      · exact h he0
      · exact h (by rw [htt he0,hj0]; exact hj.is.symm)
    · refine ⟨zav x59 hwt (by intro d hd; simp at hd; omega),⟨P0,n1,nd,t,xs⟩,pa,ca,pf,cf,0,rfl,hW,fun S hS w'' fw=>?_,.inr ⟨rfl,heq.1 hgood.1,htn,by rw [<- hgood.2]; exact htt hgood.1,htl⟩,fun h=>by omega,fun _=>.inl rfl,fun j0 hj hs=>⟨rfl,?_⟩⟩
      · refine key (fun b=>S b\/b=b0\/b=b7) (fun b hb=>?_) w'' ((zbK x59 (by intro d hd; simp at hd; exact .inl (.inr hd))).tr (fw.mono fun b hb=>.inl hb))
        have:=hw21.size
        rcases hb with hb|rfl|rfl
        · have:=hS b hb; omega
        · exact hb0_21
        · exact hb7_21
      · obtain ⟨q0,_⟩:=parts j0 hj
        obtain ⟨_,a2,_,a4,_,a6⟩:=good0 j0 hj hs
        rw [q0,a2,a4,a6,hcx j0 hj hs]
  refine ⟨spn,by omega,by omega,P3,⟨cellP 3 P3 h222 rfl,hfree 3⟩,fun hne3=>⟨spn,by omega,by omega,P3,⟨cellP 3 P3 h222 rfl,hfree 3⟩,fun w36 x36=>?_⟩,fun heq3 w35 x35=>?_⟩
  rotate_left
  · refine tail [] none 0 w22 hw22 (Fr.refl _ _) Own.nil (fun x hx=>by cases hx) (by simp) (fun j0 hj hs=>?_) w35 x35
    obtain ⟨_,_,_,q3,_⟩:=parts j0 hj
    have:zqg j0.aft=[45]:=zmB (q3.symm.trans heq3)
    rcases zyo this with h|⟨x,h,hx⟩
    · exact h.symm
    · have hup:=zgx hj.ok.up x (by rw [h]; simp)
      rw [zdP (by omega)] at hx
      have:=zcW x.toNat 45 (by rw [hx]; simp)
      exact absurd this (by decide)
  have f36:Fr (fun b=>b=b7) w22 w36:=zbK x36 (by intro d hd; simp at hd; exact .inl hd)
  have hw36:Ext w w36:=zav x36 hw22 (by intro d hd; simp at hd; omega)
  have hb0_36:b0<w36.heap.size:=x36.lt b0 (by simp)
  have hb7_36:b7<w36.heap.size:=x36.lt b7 (by simp)
  refine (zeR 44 P3 (by omega) w36 (g.ext hw36)).mono fun v w37 ⟨e37,hv,hc37,hlt37⟩=>⟨e37,_,_,_,hv,?_⟩
  have zGA:=zeF (c:=44) _ P3 rfl
  have qsz:∀ i q,(Lib.splitB (one 44) 0 (Lib.countB P3 (one 44)) P3)[i]?=some q->q.size+i<=P3.size:=fun i q h=>zcw _ P3 i q h
  have qjt:∀ j0,JT s j0->Lib.countB P3 (one 44)+1=j0.aft.length/\Lib.splitB (one 44) 0 (Lib.countB P3 (one 44)) P3=(j0.aft.map Lib.itoa).map ofL:=fun j0 hj=>by
    obtain ⟨_,_,_,q3,_⟩:=parts j0 hj
    have hne:j0.aft≠[]:=fun h=>hne3 (by rw [q3,h]; rfl)
    rw [q3]
    exact zpT hne
  generalize Lib.splitB (one 44) 0 (Lib.countB P3 (one 44)) P3=Qs at hc37 zGA qsz qjt
  generalize Lib.countB P3 (one 44)=m at zGA qjt ⊢
  have qpn:(some (⟨w36.heap.size,0,none⟩:Addr))≠none:=by simp
  have qpb:∀ a,(some (⟨w36.heap.size,0,none⟩:Addr))=some a->a.block≠b7:=fun a ha=>by obtain rfl:=Option.some.inj ha; show w36.heap.size≠b7; omega
  generalize (some (⟨w36.heap.size,0,none⟩:Addr))=qp at hc37 qpn qpb ⊢
  have hw37:Ext w w37:=hw36.trans e37
  have hb37:b0<w37.heap.size/\b7<w37.heap.size:=by have:=e37.size; omega
  refine ⟨fun k c43 c44 c45 c46 c47 c48 c49 c50 c51 c52 cl52 cc52 c53 cl53 cc53 w'=>(c43=P0/\c44=n1/\c45=nd.c/\c46=nd.m/\c47=nd.g/\c48=t.k/\c49=t.key/\c50=t.val/\c51=t.n/\c52=pa/\cl52=t.xs.length/\cc52=ca)/\0<=k/\k<=(m+1:Nat)/\Ext w w'/\Fr (fun b=>b=b7) w37 w' /\
      ∃ xs:List Int,cl53=xs.length/\xs.length=k.toNat/\Own w37.heap.size w' zfJ 1 c53 cl53 cc53 (xs.map (.int .i64))/\∀ (i:Nat) x,xs[i]?=some x->∃ q,Qs[i]?=some q/\Lib.parseIntB 64 q.data.toList=.ok x,fun k _ _ _ _ _ _ _ _ _ _ _ _ _ _ _ _=>(m+1-k).toNat,
    ⟨⟨rfl,rfl,rfl,rfl,rfl,rfl,rfl,rfl,rfl,rfl,rfl,rfl⟩,by omega,by omega,hw37,Fr.refl _ _,[],rfl,rfl,Own.nil,fun i x h=>by simp at h⟩,?_⟩
  rintro k c43 c44 c45 c46 c47 c48 c49 c50 c51 c52 cl52 cc52 c53 cl53 cc53 w54 ⟨⟨rfl,rfl,rfl,rfl,rfl,rfl,rfl,rfl,rfl,rfl,rfl,rfl⟩,hk0,hk1,hw54,f54,xs,rfl,hxk,o54,hxs⟩
  have c54:zau w54 qp (Qs.map Value.string):=hc37.fr f54 fun a ha=>qpb a ha
  refine ⟨fun hlt=>?_,fun hge=>?_⟩
  rotate_left
  · have f22:Fr (fun b=>b=b7) w22 w54:=(f36.tr (zac e37)).tr f54
    have sz:w21.heap.size<=w37.heap.size:=by have:=e22.size; have:=f36.size; have:=e37.size; omega
    refine tail xs c53 cc53 w54 hw54 f22 (o54.weak sz) (fun x hx=>?_) ?_ fun j0 hj hs=>?_
    · obtain ⟨i,hi⟩:=List.getElem?_of_mem hx
      obtain ⟨q,_,hq⟩:=hxs i x hi
      exact zgW hq
    · have:=o54.le; omega
    · obtain ⟨h1,h2⟩:=qjt j0 hj
      have hkl:xs.length=j0.aft.length:=by omega
      refine List.ext_getElem? fun i=>?_
      rcases Nat.lt_or_ge i xs.length with hi|hi
      · obtain ⟨q,hq,hp⟩:=hxs i xs[i] (List.getElem?_eq_getElem hi)
        rw [h2,List.map_map,List.getElem?_map,List.getElem?_eq_getElem (by omega:i<j0.aft.length)] at hq
        simp only [Option.map_some,Option.some.injEq] at hq
        have hup:=zgx hj.ok.up (j0.aft[i]'(by omega)) (List.getElem_mem _)
        rw [<- hq] at hp
        have hp2:=zgV (n:=j0.aft[i]'(by omega)) (by omega)
        have hp3:Lib.parseIntB 64 (Lib.itoa (j0.aft[i]'(by omega)))=.ok xs[i]:=hp
        rw [hp2] at hp3
        injection hp3 with h3
        rw [List.getElem?_eq_getElem hi,List.getElem?_eq_getElem (by omega:i<j0.aft.length),h3]
      · rw [List.getElem?_eq_none hi,List.getElem?_eq_none (by omega)]
  obtain ⟨pc,hpc⟩:∃ pc,Qs[k.toNat]?=some pc:=⟨_,List.getElem?_eq_getElem (by omega)⟩
  have hcell:Go.Sx.cell w54 (pIdx qp k 1) 0=some (.string pc):=by
    rw [zae]
    exact c54 _ _ (by simp [hpc])
  have hpsz:=qsz _ _ hpc
  have hqfree:zv2 [b7] (pIdx qp k 1):=fun b hb a ha=>by
    simp at hb; subst hb
    cases qp with
    |none => exact absurd rfl qpn
    |some x =>
      simp [pIdx] at ha
      rw [<- ha,zaS]; exact qpb x rfl
  refine ⟨qpn,hk0,hlt,pc,⟨hcell,hqfree⟩,fun w56 x56=>?_⟩
  have hw56:Ext w w56:=zav x56 hw54 (by intro d hd; simp at hd; omega)
  have f56:Fr (fun b=>b=b7) w37 w56:=f54.tr (zbK x56 (by intro d hd; simp at hd; exact .inl hd))
  refine (zrg pc (by omega) w56 (g.ext hw56)).mono fun v w57 ⟨e57,x,ev2,hv,hcase2⟩=>⟨e57,x,ev2,hv,fun w60 h60=>?_⟩
  have hw57:=hw56.trans e57
  refine ziW (by kernel_rfl) (hcase2.elim (fun h=>.inl h.1) fun h=>.inr h.1) fun tb2 htb2=>⟨Ext.refl _,tb2,rfl,fun hbad w63 x63=>?_,fun hok=>?_⟩
  · refine zgQ (zav x63 hw57 (by intro d hd; simp at hd; omega)) (by decide) fun j0 hj hs=>?_
    obtain ⟨h1,h2⟩:=qjt j0 hj
    rw [h2,List.map_map,List.getElem?_map,List.getElem?_eq_getElem (by omega:k.toNat<j0.aft.length)] at hpc
    simp only [Option.map_some,Option.some.injEq] at hpc
    have hup:=zgx hj.ok.up (j0.aft[k.toNat]'(by omega)) (List.getElem_mem _)
    have hp2:=zgV (n:=j0.aft[k.toNat]'(by omega)) (by omega)
    rcases hcase2 with ⟨h,_⟩|⟨_,h⟩
    · rw [htb2.2 h] at hbad; cases hbad
    · rw [<- hpc] at h
      exact h _ hp2
  · have hx:Lib.parseIntB 64 pc.data.toList=.ok x:=by
      have:=htb2.1 hok
      rcases hcase2 with ⟨_,h⟩|⟨⟨a,b,h⟩,_⟩
      · exact h
      · rw [this] at h; cases h
    have f57:Fr (fun b=>b=b7) w37 w57:=f56.tr (zac e57)
    have o57:Own w37.heap.size w57 zfJ 1 c53 xs.length cc53 (xs.map (.int .i64)):=Own.ext (Own.fr o54 (zbK x56 (by intro d hd; simp at hd; exact .inl hd):Fr (fun b=>b=b7) w54 w56) fun a ha hb=>by have:=(o54.lt a ha).1; omega) e57
    refine zgX zfr o57 f57.size (fun b hb y hy=>by have:=(o57.lt y hy).1; simp at hb; rcases hb with rfl|rfl<;>omega) (by omega) (by omega) fun p' c' w' o' g' _ _=>⟨i64 (by omega),⟨⟨rfl,rfl,rfl,rfl,rfl,rfl,rfl,rfl,rfl,rfl,rfl,rfl⟩,by omega,by omega,?_,?_,xs++[x],by simp,by simp; omega,o',fun i y hy=>?_⟩,by simp only []; omega⟩
    · have hsz37:=hw37.size
      exact g'.ext hw57 (o57.weak hsz37)
    · have hB:Below w37.heap.size w57 w':=⟨g'.by_.os,g'.by_.tape,g'.by_.output,g'.by_.size,fun b hb=>g'.by_.block b (by have:=f57.size; omega) fun h=>by
        cases hp:c53 with
        |none => rw [hp] at h; simp [blk] at h
        |some a => rw [hp] at h; simp [blk] at h; have:=(o57.lt a hp).1; omega⟩
      exact ⟨hB.os.trans f57.os,hB.tape.trans f57.tape,hB.output.trans f57.output,Nat.le_trans f57.size hB.size,fun b hb hn=>(hB.block b hb).trans (f57.block b hb hn)⟩
    · rcases Nat.lt_or_ge i xs.length with hi|hi
      · rw [List.getElem?_append_left hi] at hy
        exact hxs i y hy
      · rw [List.getElem?_append_right hi] at hy
        obtain ⟨hi2,hy2⟩:=List.getElem?_eq_some_iff.1 hy
        simp at hi2 hy2
        obtain rfl:i=k.toNat:=by omega
        exact ⟨pc,hpc,by rw [<- hy2]; exact hx⟩
section
variable {O:Nat->Prop} {B fb:Nat} {w:World} {P:Pl} {F:Fm}
theorem zD2 (x:FXO O B w fb P F) (j:Jb) (pa:Option Addr) (ca:Nat) (pf:Option Addr) (cf:Nat) (hJ:IsJ w j pa ca pf) (hW:WfJ j) (hB:B<=w.heap.size) :
    FnP Tryz.prog za2 #[.pointer (ptr fb),jv j pa ca pf cf] w fun v w'=>∃ id e:Int,v=.tuple #[.int .i64 id,.int .i64 e]/\((e=0↔zuP F j)/\zIn F j e)/\((e≠0/\Ext w w'/\id=0)\/(e=0/\id=F.jobs.length+1/\∃ P',FXO O B w' fb P' (zpV F j)/\Fr (ft fb P.jp) w w'/\zFY w fb P.jp P'.jp)):=by
  have ne:=zaL fb
  have hl0:=x.jO.1
  refine zfw (ptr fb) j.user j.prio j.nd.c j.nd.m j.nd.g j.ask.k j.ask.key j.ask.val j.ask.n pa j.ask.xs.length ca pf j.aft.length cf w _ fun b0 hb0 w1 h1=>?_
  refine (zCK j pa ca pf cf w1 (hJ.ext h1) hW).mono fun v w2 ⟨e2,hv⟩=>⟨e2,ztF j,hv,fun hne w4 h4=>⟨0,ztF j,rfl,⟨⟨fun h=>absurd h hne,fun h=>absurd (ziO.2 h.1) hne⟩,.inl ⟨hne,rfl⟩⟩,.inl ⟨hne,h4,rfl⟩⟩,fun hz=>?_⟩
  have hok:=ziO.1 hz
  have hlen:=hok.len
  have hup:=zgx hok.up
  refine ⟨ne,ne,_,_,_,x.cell (i:=6) rfl,fun h60 w7 h7=>⟨0,7,rfl,⟨⟨fun h=>(by cases h),fun h=>absurd (by have:=x.len; omega) h.2.1⟩,.inr ⟨hz,.inl ⟨by have:=x.len; omega,rfl⟩⟩⟩,.inl ⟨by decide,h7,rfl⟩⟩,fun h60=>?_⟩
  refine ⟨fun k w'=>Ext w w'/\0<=k/\k<=j.aft.length/\∀ i:Nat,(i:Int)<k->j.aft.getD i 0<=F.jobs.length,fun k _=>(j.aft.length-k).toNat,⟨Ext.refl _,by omega,by omega,fun i hi=>by omega⟩,?_⟩
  rintro k w9 ⟨x9,hk0,hk1,hrng⟩
  have gmem:∀ {k:Int},0<=k->k<j.aft.length->j.aft.getD k.toNat 0∈j.aft:=fun h0 h1=>zaq j.aft 0 (by omega)
  refine ⟨fun hlt=>?_,fun hge=>?_⟩
  · have g:=zes.idx (hJ.2.ext x9) hk0 hlt
    have hy:=hup _ (gmem hk0 hlt)
    refine ⟨fun h=>zak g (zah.2 h),hk0,hlt,_,g,fun w11 x11=>?_⟩
    have h11:=x9.trans (zaa x11)
    refine (zFa (x.ext h11) _ (i64 (by omega))).mono fun v w12 ⟨e12,hv⟩=>⟨e12,?_⟩
    rcases hv with ⟨hno,rfl⟩|⟨_,hin,rfl⟩
    · exact ⟨_,rfl,fun _ w14 h14=>⟨0,5,rfl,⟨⟨fun h=>(by cases h),fun h=>absurd ⟨hy.1,(h.2.2 _ (gmem hk0 hlt)).1⟩ hno⟩,.inr ⟨hz,.inr ⟨by have:=x.len; omega,.inl ⟨⟨_,gmem hk0 hlt,hno⟩,rfl⟩⟩⟩⟩,.inl ⟨by decide,(h11.trans e12).trans h14,rfl⟩⟩,fun h=>absurd rfl h⟩
    · obtain ⟨q,hq,hne,_⟩:=zmf x ⟨hy.1,hin⟩ (h11.trans e12)
      refine ⟨_,rfl,fun h=>absurd (hq.symm.trans h) hne,fun _=>⟨i64 (by omega),⟨h11.trans e12,by omega,by omega,fun i hi=>?_⟩,by simp only []; omega⟩⟩
      by_cases hik:(i:Int)<k
      · exact hrng i hik
      · obtain rfl:i=k.toNat:=by omega
        exact hin
  have hall:∀ y∈j.aft,y<=F.jobs.length:=fun y hy=>by
    obtain ⟨i,hi,rfl⟩:=List.mem_iff_getElem.1 hy
    have:=hrng i (by omega)
    simpa [List.getD_eq_getElem?_getD,hi] using this
  refine ⟨fun k w'=>Ext w w'/\0<=k/\k<=j.aft.length/\∀ i:Nat,(i:Int)<k->za0 F (j.aft.getD i 0)≠4/\za0 F (j.aft.getD i 0)≠5,fun k _=>(j.aft.length-k).toNat,⟨x9,by omega,by omega,fun i hi=>by omega⟩,?_⟩
  clear hrng hge hk0 hk1
  rintro k w12 ⟨x12,hk0,hk1,hrng⟩
  refine ⟨fun hlt=>?_,fun hge=>?_⟩
  · have g:=zes.idx (hJ.2.ext x12) hk0 hlt
    have hy:=hup _ (gmem hk0 hlt)
    have hy2:=hall _ (gmem hk0 hlt)
    refine ⟨fun h=>zak g (zah.2 h),hk0,hlt,_,g,fun w14 x14=>?_⟩
    have h14:=x12.trans (zaa x14)
    refine (zFa (x.ext h14) _ (i64 (by omega))).mono fun v w15 ⟨e15,hv⟩=>⟨e15,?_⟩
    rcases hv with ⟨hno,_⟩|⟨_,hin,rfl⟩
    · exact absurd ⟨hy.1,hy2⟩ hno
    · obtain ⟨q,hq,hne,hg⟩:=zmf x ⟨hy.1,hin⟩ (h14.trans e15)
      refine ⟨_,rfl,by rw [hq]; exact hne,by rw [hq]; exact hne,_,by rw [hq]; exact hg,fun hbad w18 h18=>⟨0,9,rfl,⟨⟨fun h=>(by cases h),fun h=>?_⟩,.inr ⟨hz,.inr ⟨by have:=x.len; omega,.inr ⟨fun y hy=>⟨(hup y hy).1,hall y hy⟩,.inl ⟨⟨_,gmem hk0 hlt,hbad⟩,rfl⟩⟩⟩⟩⟩,.inl ⟨by decide,(h14.trans e15).trans h18,rfl⟩⟩,fun hgd=>⟨i64 (by omega),⟨h14.trans e15,by omega,by omega,fun i hi=>?_⟩,by simp only []; omega⟩⟩
      · have:=(h.2.2 _ (gmem hk0 hlt)).2
        rcases hbad with h|h
        · exact absurd h this.1
        · exact absurd h this.2
      · by_cases hik:(i:Int)<k
        · exact hrng i hik
        · obtain rfl:i=k.toNat:=by omega
          exact hgd
  have hall2:∀ y∈j.aft,za0 F y≠4/\za0 F y≠5:=fun y hy=>by
    obtain ⟨i,hi,rfl⟩:=List.mem_iff_getElem.1 hy
    have:=hrng i (by omega)
    simpa [List.getD_eq_getElem?_getD,hi] using this
  have hoks:zuP F j:=⟨hok,by have:=x.len; omega,fun y hy=>⟨hall y hy,hall2 y hy⟩⟩
  have x12':=x.ext x12
  refine ⟨ne,ne,_,_,_,x12'.cell (i:=6) rfl,fun w16 x16=>?_⟩
  have h16:=x12.trans (zaa x16)
  have hE:zeS j.ask=0:=by
    have:=hok.ask
    unfold zl3 at this
    split at this
    · cases this
    · exact this
  refine (zDm ⟨zsH j,pa,ca,pf,cf⟩ w16 (hJ.ext h16) hE hok.len).mono fun v w17 ⟨e17,r,hv,hrs,hF⟩=>⟨e17,r.s.job.user,r.s.job.prio,r.s.job.nd.c,r.s.job.nd.m,r.s.job.nd.g,r.s.job.ask.k,r.s.job.ask.key,r.s.job.ask.val,r.s.job.ask.n,r.pa,r.s.job.ask.xs.length,r.ca,r.pf,r.s.job.aft.length,r.cf,r.s.what,r.s.host,r.s.since,r.s.again,r.s.tries,hv,?_⟩
  have h17:=h16.trans e17
  have x17:=x.ext h17
  have hlR:=x.len
  have hn60:F.jobs.length≠60:=hoks.2.1
  have hbj:∀ b∈[b0],∀ y,P.jp=some y->y.block≠b:=fun b hb y hy=>by simp at hb; subst hb; have:=(x.arr.lt y hy).2; omega
  refine zpJ (v:=sv r) zhx (by omega) x17.arr (Nat.le_trans hB h17.size) hbj rfl (zyK r) (by omega) (by omega) (by omega) fun p' c' w44 o44 g44 hp' hb44=>⟨ne,ne,?_⟩
  have apF:zbT (ptr fb) P.jp:=fun u y hu hy=>by cases hu; exact fun h=>x.ap y hy h.symm
  have s44:=x17.slot.st apF g44
  have hfb:=(x.slot.lt _ rfl).2
  have apP:∀ a,p'=some a->a.block≠fb:=fun a ha he=>by
    rcases g44.new with hn|hn
    · rw [ha] at hn
      cases hj:P.jp with
      |none => rw [hj] at hn; simp [blk] at hn
      |some y => rw [hj] at hn; simp [blk] at hn; exact x.ap y hj (hn▸he)
    · have h1:=hn a ha
      have h2:=h17.size
      have h3:fb<w.heap.size:=hfb
      omega
  refine zaY (off:=6) s44 rfl (by simp) (by simp) (by intro u hu; simp at hu; subst hu; rfl) (fun b hb y hy he=>by cases hy; simp at hb; subst hb; have h3:fb<w.heap.size:=hfb; have he:fb=b:=he; omega) fun w48 o48 g48=>?_
  have f48:Fr (ft fb P.jp) w17 w48:=(zaV g44 fun a ha=>.inr ⟨a,ha,rfl⟩).tr (zaV g48 fun a ha=>by cases ha; exact .inl rfl)
  have hft:∀ b,ft fb p' b->ft fb P.jp b\/w17.heap.size<=b:=fun b hb=>by
    rcases hb with h|⟨a,ha,rfl⟩
    · exact .inl (.inl h)
    · rcases g44.new with hn|hn
      · left
        rw [ha] at hn
        cases hj:P.jp with
        |none => rw [hj] at hn; simp [blk] at hn
        |some y => rw [hj] at hn; simp [blk] at hn; exact .inr ⟨y,rfl,hn.symm⟩
      · exact .inr (hn a ha)
  have step:∀ {w'' w0:World},Ext w0 w17->Fr (ftO O fb p') w48 w''->Fr (ftO O fb P.jp) w0 w'':=fun h0 kf=>((zac h0).tr (f48.mono fun b hb=>.inr hb)).trans kf fun b hb=>by
    rcases hb with hb|hb
    · exact .inl (.inl hb)
    · rcases hft b hb with h|h
      · exact .inl (.inr h)
      · exact .inr (Nat.le_trans h0.size h)
  have y48:FXO O B w48 fb ⟨P.hp,P.hc,p',c',P.R++[r]⟩ (zpV F j):=by
    refine ⟨?_,?_,?_,fun w'' kf=>x.hs w'' (step h17 kf),fun r' hr' w'' kf=>?_,apP,x.hO,?_,fun b hb=>by have:=x.olt b hb; have:=h17.size; have:=f48.size; omega,fun b hb hf=>(hft b hf).elim (x.odis b hb) fun h=>by have:=x.olt b hb; have:=h17.size; omega⟩
    · show Own B w48 zdn 7 (ptr fb) 1 1 [_,_,_,_,_,_,.slice p' (P.R++[r]).length c']
      rw [List.length_append]
      exact o48
    · show Own B w48 zkc 16 p' (P.R++[r]).length c' ((P.R++[r]).flatMap zt2)
      rw [List.length_append,List.flatMap_append]
      have:=o44.st (fun u v hu hv=>by cases hv; exact apP u hu) g48
      simpa [Value.cells] using this
    · show (P.R++[r]).map (·.s)=F.jobs++[zsH j]
      rw [List.map_append,x.map]; simp [hrs]
    · have hr':r'∈P.R++[r]:=hr'
      rcases List.mem_append.1 hr' with hr'|hr'
      · exact x.js r' hr' w'' (step h17 kf)
      · simp at hr'; subst hr'
        have:=hF (ftO O fb P.jp) (fun b hb=>by
          rcases hb with hb|hb
          · have:=x.olt b hb; have:=h16.size; omega
          · have:=(x.foot hb).2; have:=h16.size; omega) w'' (step (Ext.refl _) kf)
        rw [hrs]
        exact this
    · refine ⟨by show (F.jobs++[zsH j]).length<=60; rw [List.length_append]; simp; omega,fun s hs=>?_⟩
      have hs:s∈F.jobs++[zsH j]:=hs
      rcases List.mem_append.1 hs with hs|hs
      · exact x.jO.2 s hs
      · simp at hs; subst hs; exact ⟨hok,hW⟩
  refine ⟨ne,ne,_,_,_,y48.cell (i:=6) rfl,fun w52 h52=>⟨_,0,rfl,⟨⟨fun _=>hoks,fun _=>rfl⟩,.inr ⟨hz,.inr ⟨hn60,.inr ⟨fun y hy=>⟨(hup y hy).1,hall y hy⟩,.inr ⟨hall2,rfl⟩⟩⟩⟩⟩,.inr ⟨rfl,?_,_,y48.ext h52,((zac h17).tr f48).tr (zac h52),fun b hb=>?_⟩⟩⟩
  · simp; omega
  · rcases hft b hb with h|h
    · exact .inl h
    · exact .inr (Nat.le_trans h17.size h)
end
theorem zBY {w:World} {p:Option Addr} {c:Nat} {ws:List ByteArray} (k:Nat) (hk:k<ws.length) (hc:ws.length<=c) (h:zau w p (ws.map Value.string)):zau w (pCut p c (k:Int) 1) ((ws.drop k).map Value.string):=by
  have e:pCut p c (k:Int) 1=p.map (·.add k):=by
    unfold pCut
    rw [if_neg (by simp; omega)]
    simp
  rw [e]
  intro i v hv
  have h2:=h (k+i) v (by rw [List.getElem?_map,List.getElem?_drop] at hv; rw [List.getElem?_map]; exact hv)
  cases p with
  |none => simp [cell] at h2
  |some a =>
    simp only [Option.map_some,cell,Option.bind_some] at h2 ⊢
    have:(a.add k).add i=a.add (k+i):=by
      by_cases h0:k=0
      · subst h0; simp [Addr.add]
      · by_cases hi:i=0
        · subst hi; simp [Addr.add,h0]
        · simp [Addr.add,h0,hi,Nat.add_assoc]
    rw [this]; exact h2
def znZ (ws:List ByteArray) (k:Nat):ByteArray:=ofL (Lib.join ((ws.drop k).map (·.data.toList)) [32])
theorem zH0 {wp:Option Addr} {wc:Nat} {ws:List ByteArray} {w:World} (k:Nat) (hk:k<ws.length) (hc:ws.length<=wc) (h10:ws.length<=10) (hsz:∀ x∈ws,x.size<=4294967281) (hw:zau w wp (ws.map Value.string)) :
    FnP Tryz.prog zbd #[.slice (pCut wp wc (k:Int) 1) ((ws.length:Int)-(k:Int)).toNat (wc-((k:Int)).toNat),.string (one 32)] w fun v w'=>Ext w w'/\v=.string (znZ ws k)/\(znZ ws k).size<=42949672820:=by
  have hb:(Lib.join ((ws.drop k).map (·.data.toList)) [32]).length<=42949672820:=by
    have:=zhD (c:=32) (m:=4294967281) ((ws.drop k).map (·.data.toList)) (fun y hy=>by
      obtain ⟨x,hx,rfl⟩:=List.mem_map.1 hy
      have:=hsz x (List.mem_of_mem_drop hx)
      rw [zht]; exact this)
    rw [List.length_map,List.length_drop] at this
    omega
  have e:((ws.length:Int)-(k:Int)).toNat=(ws.drop k).length:=by rw [List.length_drop]; omega
  rw [e]
  exact (zBg (ws.drop k) 32 _ _ (by rw [List.length_drop]; simp; omega) w (zBY k hk hc hw) (by omega) (by rw [List.length_drop]; omega)).mono fun v w' ⟨h1,h2⟩=>⟨h1,h2,by unfold znZ; rw [zas]; exact hb⟩
def zGC (t:ByteArray) (e:Int) (j:Jb):Prop:=(3000<t.size->e=2)/\(t.size<=3000->e=0\/e=3)/\(e=0->JT t j)/\(∀ j0,JT t j0->t.size<=3000->e=0/\j=j0)
def zja (t:ByteArray) (σ:DS) (c:Int) (s:ByteArray) (σ':DS):Prop:=match σ with
  |.shut _ => False
  |.opn F => ∃ e j,zGC t e j/\((e≠0/\c=e/\σ'=.opn F)\/(e=0/\zIn F j c/\((c≠0/\σ'=.opn F)\/(c=0/\s=ofL (Lib.itoa (F.jobs.length+1))/\σ'=.opn (zpV F j)))))
section
variable {O:Nat->Prop} {B db:Nat} {w:World} {K:Kt}
theorem zG2 (x:KX O B w db K) {fb:Nat} {P:Pl} {F:Fm} (hK:K.farm=some (fb,P,F)) (g:GD w) (hB:11<=B) (hBw:B<=w.heap.size) (wp:Option Addr) (wc:Nat) (ws:List ByteArray) (h1:1<ws.length) (hc:ws.length<=wc) (h10:ws.length<=10)
    (hsz:∀ x∈ws,x.size<=4294967281) (hw:zau w wp (ws.map Value.string)) :
    FnP Tryz.prog zfU #[.pointer (ptr db),.slice wp ws.length wc] w (CR O B db w K fun s c σ'=>zja (znZ ws 1) K.st c s σ'):=by
  have ne:=zaL db
  refine zkv (ptr db) wp ws.length wc w _ ⟨by omega,by omega,by omega,fun w0 x0=>(zH0 1 h1 hc h10 hsz (hw.ext x0)).mono fun v w1 ⟨e1,hv,hs⟩=>⟨e1,_,hv,fun w3 x3=>?_⟩⟩
  generalize znZ ws 1=t at hs ⊢
  refine (zF8 t (by omega) w3 (g.gb.ext x3)).mono fun v w4 ⟨e4,j,pa,ca,pf,cf,e,hv,hW,hJ,hor,hb2,hb3,hcomp⟩=>⟨e4,j.user,j.prio,j.nd.c,j.nd.m,j.nd.g,j.ask.k,j.ask.key,j.ask.val,j.ask.n,pa,j.ask.xs.length,ca,pf,j.aft.length,cf,e,hv,fun b21 hb21=>?_⟩
  have x4:=x3.trans e4
  have hread:zGC t e j:=⟨hb2,hb3,fun h=>by
    rcases hor with ⟨h',_⟩|⟨_,q1,q2,q3,q4⟩
    · exact absurd h h'
    · exact ⟨q1,by omega,q3,q4⟩,hcomp⟩
  refine ⟨fun hne w22 x22=>zuG ⟨Ext.refl _,_,rfl,rfl,fun w25 x25=>zAu ⟨Ext.refl _,_,rfl,fun w28 h28=>?_⟩⟩,fun hz=>⟨ne,ne,_,(x.ext x4).fbp hK,fun w23 x23=>?_⟩⟩
  · refine zcA x (((x4.trans (zaa x22)).trans (zaa x25)).trans h28) (zAe hne) ?_
    rw [Kt.st_opn hK]
    exact ⟨e,j,hread,.inl ⟨hne,rfl,rfl⟩⟩
  have h23:=x4.trans (zaa x23)
  have y:=x.ext h23
  obtain ⟨fx,I,W⟩:=y.opn fb P F hK
  have hb21':=x23.lt b21 (by simp)
  have hft:∀ b,KF db K b->b≠b21:=fun b hb he=>by
    have:=((x.ext x4).foot hb).2
    omega
  refine (zD2 fx j pa ca pf cf (hJ (fun _=>False) (fun _ h=>h.elim) w23 (zac (zaa x23))) hW (Nat.le_trans hBw h23.size)).mono fun v w24 ⟨id,e',hv,⟨hiff,hE⟩,hres⟩=>⟨?_,id,e',hv,fun w27 h27=>?_⟩
  · rcases hres with ⟨_,h,_⟩|⟨_,_,P',_,f,_⟩
    · exact (zac (S:=fun _=>False) h).kept fun b hb=>by simp at hb; subst hb; exact ⟨hb21',fun h=>h⟩
    · exact f.kept fun b hb=>by
        simp at hb; subst hb
        exact ⟨hb21',fun h=>hft _ (.inr ⟨fb,P,F,hK,h⟩) rfl⟩
  have hR:∃ K',KX O B w24 db K'/\Fr (KF db K) w23 w24/\zut w23 db K K'/\(InR .i64 id)/\∀ s:ByteArray,s=ofL (Lib.itoa id)->zja t K.st e' s K'.st:=by
    rcases hres with ⟨hne,h,rfl⟩|⟨he0,hid,P',fx',f,hg⟩
    · refine ⟨K,y.ext h,zac h,fun b hb=>.inl hb,i64 (by omega),fun s _=>?_⟩
      rw [Kt.st_opn hK]
      exact ⟨e,j,hread,.inr ⟨hz,hE,.inl ⟨hne,rfl⟩⟩⟩
    · have hok:=hiff.1 he0
      obtain ⟨a1,a2,a3⟩:=y.turn hK fx' f hg (ztf I hok) (W.sub j)
      refine ⟨_,a1,a2,a3,?_,fun s hs=>?_⟩
      · have:=fx.jO.1; exact i64 (by omega)
      · rw [Kt.st_opn hK]
        exact ⟨e,j,hread,.inr ⟨hz,hE,.inr ⟨he0,by rw [hs,hid],rfl⟩⟩⟩
  obtain ⟨K',y',f',g',hid,hRR⟩:=hR
  have gd24:GD w24:=(g.ext h23).fr f' fun b hb=>Nat.le_trans hB (y.foot hb).1
  refine (znr id (zhB hid) w27 (gd24.ext h27).gb).mono fun v w28 ⟨e28,hv⟩=>⟨e28,_,hv,fun w30 x30=>(zqc e' w30).mono fun v w31 ⟨e31,hE'⟩=>⟨e31,v,rfl,fun w33 h33=>?_⟩⟩
  have hx:=((zaa x30).trans e31).trans h33
  refine ⟨_,v,e',K',rfl,hE',y'.ext hx,((zac h23).tr f').tr (zac hx),fun b hb=>(g' b hb).imp (fun h=>h) fun h=>Nat.le_trans h23.size h,hRR _ rfl⟩
end
instance decMem (x:ByteArray) (l:List ByteArray):Decidable (x∈l):=decidable_of_iff (l.any (fun y=>decide (y=x))=true) (by simp)
def lbE (seen:List ByteArray):List Lb->Int
  |[] => 0
  |x::r => if lbB x.key=true/\lbB x.val=true then (if x.key∈seen then 6 else lbE (seen++[x.key]) r) else 3
def hE (seen:List ByteArray) (h:Ht):Int :=
  if lbB h.name=false then 3 else if h.name∈seen then 6 else if 8<h.labels.length then 2 else if lbE [] h.labels≠0 then lbE [] h.labels
  else if zyO h.has≠0 then 4 else if zyO h.used≠0 then 4 else if zjU h.used h.has then 0 else 10
def hsE (seen:List ByteArray):List Ht->Int
  |[] => 0
  |h::r => if hE seen h≠0 then hE seen h else hsE (seen++[h.name]) r
def zk9 (L:List Ht):Int:=if 30<L.length then 2 else hsE [] L
theorem zHL:∀ (l:List Lb) (seen:List ByteArray),lbE seen l=0↔(∀ x∈l,lbB x.key=true/\lbB x.val=true)/\(l.map (·.key)).Nodup/\∀ x∈l,x.key∉seen
  |[],seen => by simp [lbE]
  |x::r,seen => by
    rw [lbE]
    have ih:=zHL r (seen++[x.key])
    by_cases h1:lbB x.key=true/\lbB x.val=true
    · rw [if_pos h1]
      by_cases h2:x.key∈seen
      · rw [if_pos h2]
        exact ⟨fun h=>by omega,fun h=>absurd h2 (h.2.2 x List.mem_cons_self)⟩
      · rw [if_neg h2,ih,List.map_cons,List.nodup_cons]
        constructor
        · rintro ⟨a,b,c⟩
          refine ⟨fun y hy=>?_,⟨fun hm=>?_,b⟩,fun y hy=>?_⟩
          · rcases List.mem_cons.1 hy with rfl|hy
            · exact h1
            · exact a y hy
          · obtain ⟨y,hy,he⟩:=List.mem_map.1 hm
            exact c y hy (by rw [he]; simp)
          · rcases List.mem_cons.1 hy with rfl|hy
            · exact h2
            · exact fun hs=>c y hy (List.mem_append_left _ hs)
        · rintro ⟨a,⟨b1,b2⟩,c⟩
          refine ⟨fun y hy=>a y (List.mem_cons_of_mem _ hy),b2,fun y hy hs=>?_⟩
          rcases List.mem_append.1 hs with hs|hs
          · exact c y (List.mem_cons_of_mem _ hy) hs
          · simp at hs
            exact b1 (List.mem_map.2 ⟨y,hy,hs⟩)
    · rw [if_neg h1]
      exact ⟨fun h=>by omega,fun h=>absurd (h.1 x List.mem_cons_self) h1⟩
theorem hE_ok {seen:List ByteArray} {h:Ht}:hE seen h=0↔zGs h/\h.name∉seen:=by
  have hl:=zHL h.labels []
  unfold hE zGs okLb
  by_cases h1:lbB h.name=false
  · rw [if_pos h1]; simp [h1]
  have h1':lbB h.name=true:=by simpa using h1
  rw [if_neg h1]
  by_cases h2:h.name∈seen
  · rw [if_pos h2]; simp [h2]
  rw [if_neg h2]
  by_cases h3:8<h.labels.length
  · rw [if_pos h3]; exact ⟨fun h=>by omega,fun h=>by have:=h.1.2.1; omega⟩
  rw [if_neg h3]
  by_cases h4:lbE [] h.labels=0
  · rw [if_neg (by simpa using h4)]
    obtain ⟨a,b,_⟩:=hl.1 h4
    by_cases h5:zyO h.has=0
    · rw [if_neg (by simpa using h5)]
      by_cases h6:zyO h.used=0
      · rw [if_neg (by simpa using h6)]
        by_cases h7:zjU h.used h.has
        · rw [if_pos h7]
          exact ⟨fun _=>⟨⟨h1',by omega,⟨a,b⟩,zba.1 h5,zba.1 h6,h7⟩,h2⟩,fun _=>rfl⟩
        · rw [if_neg h7]
          exact ⟨fun h=>by omega,fun h=>absurd h.1.2.2.2.2.2 h7⟩
      · rw [if_pos h6]
        exact ⟨fun h=>by omega,fun h=>absurd (zba.2 h.1.2.2.2.2.1) h6⟩
    · rw [if_pos h5]
      exact ⟨fun h=>by omega,fun h=>absurd (zba.2 h.1.2.2.2.1) h5⟩
  · rw [if_pos (by simpa using h4)]
    exact ⟨fun h=>absurd h h4,fun h=>absurd (hl.2 ⟨h.1.2.2.1.1,h.1.2.2.1.2,by simp⟩) h4⟩
theorem zHH:∀ (L:List Ht) (seen:List ByteArray),hsE seen L=0↔(∀ h∈L,zGs h)/\(L.map (·.name)).Nodup/\∀ h∈L,h.name∉seen
  |[],seen => by simp [hsE]
  |x::r,seen => by
    rw [hsE]
    have ih:=zHH r (seen++[x.name])
    have hx:=hE_ok (seen:=seen) (h:=x)
    by_cases h1:hE seen x=0
    · rw [if_neg (by simpa using h1),ih,List.map_cons,List.nodup_cons]
      obtain ⟨q1,q2⟩:=hx.1 h1
      constructor
      · rintro ⟨a,b,c⟩
        refine ⟨fun y hy=>?_,⟨fun hm=>?_,b⟩,fun y hy=>?_⟩
        · rcases List.mem_cons.1 hy with rfl|hy
          · exact q1
          · exact a y hy
        · obtain ⟨y,hy,he⟩:=List.mem_map.1 hm
          exact c y hy (by rw [he]; simp)
        · rcases List.mem_cons.1 hy with rfl|hy
          · exact q2
          · exact fun hs=>c y hy (List.mem_append_left _ hs)
      · rintro ⟨a,⟨b1,b2⟩,c⟩
        refine ⟨fun y hy=>a y (List.mem_cons_of_mem _ hy),b2,fun y hy hs=>?_⟩
        rcases List.mem_append.1 hs with hs|hs
        · exact c y (List.mem_cons_of_mem _ hy) hs
        · simp at hs
          exact b1 (List.mem_map.2 ⟨y,hy,hs⟩)
    · rw [if_pos (by simpa using h1)]
      exact ⟨fun h=>absurd h h1,fun h=>absurd (hx.2 ⟨h.1 x List.mem_cons_self,h.2.2 x List.mem_cons_self⟩) h1⟩
theorem zyM {L:List Ht}:zk9 L=0↔zkt L:=by
  unfold zk9 zkt
  by_cases h:30<L.length
  · rw [if_pos h]; exact ⟨fun h=>by omega,fun h=>by have:=h.1; omega⟩
  · rw [if_neg h,zHH]
    exact ⟨fun ⟨a,b,_⟩=>⟨by omega,a,b⟩,fun ⟨_,a,b⟩=>⟨a,b,by simp⟩⟩
theorem zoV {α:Type} {L:List α} (d:α) {k:Nat} (h:k<L.length):L.drop k=L.getD k d::L.drop (k+1):=by
  rw [List.drop_eq_getElem_cons h]
  simp [List.getD_eq_getElem?_getD,h]
theorem zui (p:Option Addr) (c:Nat) (L:List Ht) (h63:(L.length:Int)<=9223372036854775807) (hO:∀ h∈L,zv3 h) (w:World) (hL:zjE w p L) :
    FnP Tryz.prog zcc #[.slice p L.length c] w fun v w'=>Ext w w'/\v=.int .i64 (zk9 L):=by
  refine zlB p L.length c w _ ⟨fun hgt w0 h0=>⟨h0,by unfold zk9; rw [if_pos (by omega)]⟩,fun hle w0 h0=>?_⟩
  have hEH:zk9 L=hsE [] L:=by unfold zk9; rw [if_neg (by omega)]
  rw [hEH]
  refine zzx fun w1 S1 e1=>⟨e1,_,rfl,?_⟩
  generalize hr1:w0.heap.size=r1 at S1
  have x1:=h0.trans e1
  have hw1:w.heap.size<=r1:=by have:=h0.size; omega
  refine ⟨fun k w'=>Ext w w'/\0<=k/\k<=L.length/\zio w' r1 ((L.take k.toNat).map (·.name))/\hsE [] L=hsE ((L.take k.toNat).map (·.name)) (L.drop k.toNat),fun k _=>(L.length-k).toNat,⟨x1,by omega,by omega,S1,rfl⟩,?_⟩
  rintro k w5 ⟨x5,hk0,hk1,S5,hE5⟩
  have fin:∀ {e:Int} {w':World},Ext w w'->hsE [] L=e->Ext w w'/\Value.int .i64 e=.int .i64 (hsE [] L):=fun hx h1=>⟨hx,by rw [h1]⟩
  refine ⟨fun hlt=>?_,fun hge w6 h6=>fin (x5.trans h6) ?_⟩
  rotate_left
  · rw [hE5,List.drop_eq_nil_of_le (by omega)]; rfl
  obtain ⟨q,d,hp,hp8,g',hLb⟩:=hL.at hk0 hlt
  have hm:=zaq L default (i:=k.toNat) (by omega)
  have hOk:=hO _ hm
  rw [zoV default (by omega:k.toNat<L.length),hsE] at hE5
  generalize hHd:L.getD k.toNat default=H at g' hLb hm hOk hE5
  generalize hseen:(L.take k.toNat).map (·.name)=seen at S5 hE5
  have bad:∀ {e:Int},e≠0->hE seen H=e->hsE [] L=e:=fun hne he=>by rw [hE5,he,if_pos hne]
  have g:∀ (j:Nat) u,(zEJ H q d)[j]?=some u->Go.Sx.cell w5 (pIdx p k 8) j=some u:=fun j u hu=>zaI x5 (g' j u hu)
  obtain ⟨ho1,ho2,ho3⟩:=hOk
  refine ⟨hp,hk0,hlt,hp8,_,g 0 _ rfl,_,_,_,g 1 _ rfl,_,g 2 _ rfl,_,g 3 _ rfl,_,g 4 _ rfl,_,g 5 _ rfl,_,g 6 _ rfl,_,g 7 _ rfl,fun b16 hb16=>?_⟩
  refine ⟨fun w'=>w'=w5/\lbB H.name=true/\H.name∉seen/\H.labels.length<=8,fun w19 h19=>?_,?_⟩
  · refine (zgh H.name ho1 w19).mono fun v w20 ⟨e20,hv⟩=>⟨e20,_,hv,fun hf w22 h22=>fin (x5.trans h22) (bad (by decide) ?_),fun hn w22 h22=>?_⟩
    · unfold hE; rw [if_pos hf]
    have hn':¬ lbB H.name=false:=by rw [hn]; decide
    refine zou (S5.ext h22) H.name fun b hb=>⟨Ext.refl _,b,rfl,fun hin w25 h25=>fin (x5.trans h25) (bad (by decide) ?_),fun hnin=>?_⟩
    · unfold hE; rw [if_neg hn',if_pos (hb.1 hin)]
    have hns:H.name∉seen:=fun hm=>by rw [hb.2 hm] at hnin; cases hnin
    refine ⟨fun h8 w25 h25=>fin (x5.trans h25) (bad (by decide) ?_),fun h8=>⟨rfl,hn,hns,by omega⟩⟩
    unfold hE; rw [if_neg hn',if_neg hns,if_pos (by omega)]
  rintro w5 ⟨rfl,hn,hnin,h8⟩ w19 x19
  have hn':¬ lbB H.name=false:=by rw [hn]; decide
  have h19:=zaa x19
  have hb19:b16<w19.heap.size:=x19.lt b16 (by simp)
  have hr5:=S5.lt
  refine ztc (S5.ext h19) H.name fun w20 S20 g20=>⟨fun b hb=>?_,fun w21 x21=>?_⟩
  · simp at hb; subst hb
    refine g20.by_.block b hb19 fun he=>?_
    simp [blk] at he; omega
  have x20:Ext w w20:=g20.below (x5.trans h19) (x5.trans h19).size (fun a ha=>by obtain rfl:=Option.some.inj ha; exact hw1)
  have h21:=zaa x21
  refine zzx fun w22 S22 e22=>⟨e22,_,rfl,?_⟩
  have hr21:r1<w21.heap.size:=by have:=S20.lt; have:=h21.size; omega
  generalize hr2:w21.heap.size=r2 at S22 hr21
  have x22:=(x20.trans h21).trans e22
  have hb16r:b16<r2:=by have:=g20.size; have:=h21.size; omega
  refine ⟨fun j w'=>Ext w w'/\0<=j/\j<=H.labels.length/\zio w' r1 (seen++[H.name])/\zio w' r2 ((H.labels.take j.toNat).map (·.key))/\lbE [] H.labels=lbE ((H.labels.take j.toNat).map (·.key)) (H.labels.drop j.toNat),fun j _=>(H.labels.length-j).toNat,⟨x22,by omega,by omega,(S20.ext h21).ext e22,S22,rfl⟩,?_⟩
  rintro j w26 ⟨x26,hj0,hj1,Sa,Sb,hlE⟩
  have badL:∀ {e:Int},e≠0->lbE [] H.labels=e->hsE [] L=e:=fun hne he=>bad hne (by unfold hE; rw [if_neg hn',if_neg hnin,if_neg (by omega),if_pos (by rw [he]; exact hne),he])
  refine ⟨fun hjl=>?_,fun hjg w27 h27=>?_⟩
  · have hLb6:=hLb.ext x26
    have l0:=hLb6.idx default hj0 hjl (j:=0) rfl
    have l1:=hLb6.idx default hj0 hjl (j:=1) rfl
    have hlm:=zaq H.labels default (i:=j.toNat) (by omega)
    have hls:=ho3 _ hlm
    rw [zoV default (by omega:j.toNat<H.labels.length),lbE] at hlE
    generalize hld:H.labels.getD j.toNat default=lb at l0 l1 hlm hls hlE
    generalize hkeys:(H.labels.take j.toNat).map (·.key)=keys at Sb hlE
    refine ⟨fun hq=>zak l0 (zah.2 hq),hj0,hjl,zak l0,_,l0,_,l1,fun b29 hb29=>?_⟩
    refine ⟨fun w'=>w'=w26/\lbE [] H.labels=lbE (keys++[lb.key]) (H.labels.drop (j.toNat+1)),fun w32 h32=>?_,?_⟩
    · refine (zgh lb.key hls.1 w32).mono fun v w33 ⟨e33,hv⟩=>⟨e33,_,hv,fun hf w35 h35=>fin (x26.trans h35) (badL (by decide) (by rw [hlE,if_neg (by rw [hf]; simp)])),fun hkt w35 h35=>?_⟩
      refine (zgh lb.val hls.2 w35).mono fun v w36 ⟨e36,hv⟩=>⟨e36,_,hv,fun hf w38 h38=>fin (x26.trans h38) (badL (by decide) (by rw [hlE,if_neg (by rw [hf]; simp)])),fun hvt w38 h38=>?_⟩
      rw [if_pos ⟨hkt,hvt⟩] at hlE
      refine zou (Sb.ext h38) lb.key fun b hb=>⟨Ext.refl _,b,rfl,fun hin w41 h41=>fin (x26.trans h41) (badL (by decide) (by rw [hlE,if_pos (hb.1 hin)])),fun hnin=>⟨rfl,?_⟩⟩
      rw [hlE,if_neg (fun hm=>by rw [hb.2 hm] at hnin; cases hnin)]
    rintro w26 ⟨rfl,hlE'⟩ w32 x32
    have h32:=zaa x32
    refine ztc (Sb.ext h32) lb.key fun w33 S33 g33=>⟨fun b hb=>?_,i64 (by omega),⟨?_,by omega,by omega,?_,?_,?_⟩,by simp only []; omega⟩
    · have hlt':=x32.lt b hb
      refine g33.by_.block b hlt' fun he=>?_
      simp [blk] at he
      simp at hb
      have:=Sb.lt
      rcases hb with rfl|rfl<;>omega
    · exact g33.below (x26.trans h32) (x26.trans h32).size (fun a ha=>by obtain rfl:=Option.some.inj ha; show w.heap.size<=r2; omega)
    · exact (Sa.ext h32).grew (by omega) g33
    · rw [show (j+1).toNat=j.toNat+1 by omega,zcZ (fun x:Lb=>x.key) default (by omega),hld,hkeys]; exact S33
    · rw [show (j+1).toNat=j.toNat+1 by omega,zcZ (fun x:Lb=>x.key) default (by omega),hld,hkeys]; exact hlE'
  · have hl0:lbE [] H.labels=0:=by rw [hlE,List.drop_eq_nil_of_le (by omega)]; rfl
    have hEe:hE seen H=if zyO H.has≠0 then 4 else if zyO H.used≠0 then 4 else if zjU H.used H.has then 0 else 10:=by
      unfold hE; rw [if_neg hn',if_neg hnin,if_neg (by omega),if_neg (by rw [hl0]; simp)]
    refine (zw4 H.used H.has w27).mono fun v w28 ⟨e28,t,e,hv,ht⟩=>⟨e28,_,_,hv,fun w31 h31=>?_⟩
    refine (zet H.has w31).mono fun v w32 ⟨e32,hv⟩=>⟨e32,_,hv,?_⟩
    refine ⟨fun w'=>w'=w26/\hE seen H=0,⟨fun hne w36 h36=>?_,fun he0=>⟨fun hne w36 h36=>?_,fun he=>⟨fun hf w36 h36=>?_,fun htt=>?_⟩⟩⟩,?_⟩
    · have hno:¬ okN H.has:=fun h=>hne (zba.2 h)
      rw [zmn hno]
      exact fin (x26.trans h36) (bad (by decide) (by rw [hEe,if_pos hne]))
    · rcases ht with ⟨_,_,rfl,_⟩|⟨hno,rfl,_⟩
      · exact absurd rfl hne
      · have hu:¬ okN H.used:=fun h=>hno ⟨h,zba.1 he0⟩
        exact fin (x26.trans h36) (bad (by decide) (by rw [hEe,if_neg (by simpa using he0),if_pos (by rw [zmn hu]; decide)]))
    · rcases ht with ⟨a1,a2,_,rfl⟩|⟨_,rfl,_⟩
      · refine fin (x26.trans h36) (bad (by decide) ?_)
        rw [hEe,if_neg (by simpa using he0),if_neg (by have:=zba.2 a1; simpa using this),if_neg (by simpa using hf)]
      · omega
    · rcases ht with ⟨a1,a2,_,rfl⟩|⟨_,rfl,_⟩
      · refine ⟨rfl,?_⟩
        rw [hEe,if_neg (by simpa using he0),if_neg (by have:=zba.2 a1; simpa using this),if_pos (by simpa using htt)]
      · omega
    · rintro w26 ⟨rfl,hz⟩
      rw [hz,if_neg (by simp)] at hE5
      refine ⟨i64 (by omega),⟨x26,by omega,by omega,?_,?_⟩,by simp only []; omega⟩
      · rw [show (k+1).toNat=k.toNat+1 by omega,zcZ (fun x:Ht=>x.name) default (by omega),hHd,hseen]; exact Sa
      · rw [show (k+1).toNat=k.toNat+1 by omega,zcZ (fun x:Ht=>x.name) default (by omega),hHd,hseen]; exact hE5
def zxy (x:Nd):Prop:=∀ i,i<3->0<=zcd x i/\zcd x i<=9223372036854775807
theorem zxy.rng {x:Nd} (h:zxy x):rng x:=fun i hi=>by have:=h i hi; omega
theorem okN.pos {x:Nd} (h:okN x):zxy x:=fun i hi=>by have:=zpr.1 h i hi; omega
theorem zDt {x:Nd} (hx:zxy x) {i:Nat} (hi:i<3):(44:UInt8)∉zgu x i:=fun hm=>by
  have h0:=(hx i hi).1
  unfold zgu at hm
  rcases List.mem_append.1 hm with h|h
  · exact (zGx hi).2 h
  · rcases List.mem_cons.1 h with h|h
    · exact absurd h (by decide)
    · exact ziT h0 (by decide) h
theorem zxO {x:Nd} (hx:zxy x) (hne:zbo x≠[45]):Lib.countB (ofL (zbo x)) (one 44)+1=(idx x 3).length/\Lib.splitB (one 44) 0 (Lib.countB (ofL (zbo x)) (one 44)) (ofL (zbo x))=(pcs x 3).map ofL:=by
  have hp:pcs x 3≠[]:=fun h=>hne (by unfold zbo; rw [if_pos h])
  have ht:zbo x=Lib.join (pcs x 3) [44]:=by unfold zbo; rw [if_neg hp]
  rw [ht]
  cases hl:pcs x 3 with
  |nil => exact absurd hl hp
  |cons a l =>
    obtain ⟨h1,h2⟩:=zdv (c:=44) l a fun y hy=>by
      rw [<- hl] at hy
      obtain ⟨i,hi,rfl⟩:=List.mem_map.1 hy
      exact zDt hx (zpb hi).1
    have hlen:(idx x 3).length=l.length+1:=by
      have:=congrArg List.length hl
      unfold pcs at this
      rw [List.length_map] at this
      simpa using this
    rw [h1,h2]
    exact ⟨by omega,rfl⟩
def zAD (s:ByteArray) (a:Nd) (e:Int):Prop:=(e≠0->a=za6)/\(e=0->okN a/\s=ofL (zbo a))/\(∀ x,zxy x->s=ofL (zbo x)->(okN x->e=0/\a=x)/\(¬ okN x->e=4))/\(e≠0->e≠4->e=3)/\(e=4->∃ x,zxy x/\s=ofL (zbo x)/\¬ okN x)
abbrev RQE (w:World) (s:ByteArray) (v:Value) (w':World):Prop:=Ext w w'/\∃ (a:Nd) (e:Int),v=.tuple #[nv a,.int .i64 e]/\zAD s a e
theorem zH3 {w w':World} {s:ByteArray} (x:Ext w w') (hno:∀ x,zxy x->s=ofL (zbo x)->False):RQE w s (.tuple #[nv za6,.int .i64 3]) w' :=
  ⟨x,za6,3,rfl,fun _=>rfl,fun h=>(by cases h),fun x hx hs=>(hno x hx hs).elim,fun _ _=>rfl,fun h=>(by cases h)⟩
theorem zvp {w w10:World} {s:ByteArray} {p2:Option Addr} {b0:Nat} {cur:Nd} (x10:Ext w w10) (hb0:w.heap.size<=b0) (c10:zBj w10 p2 cur) (hp:p2≠none) (hr:zxy cur) (g:GB w)
    (hgood:∀ x,zxy x->s=ofL (zbo x)->cur=x):rtail s p2 b0 w10 (RQE w s):=by
  have k0:=c10 0 _ rfl
  have k1:=c10 1 _ rfl
  have k2:=c10 2 _ rfl
  have bx:∀ {w':World},zag [b0] [] w10 w'->Ext w w':=fun h=>zav h x10 (by intro d hd; simp at hd; omega)
  refine ⟨hp,_,k0,_,k1,_,k2,fun w14 h14=>(zw7 cur hr.rng w14 (g.ext (x10.trans h14))).mono fun v w15 ⟨e15,hv⟩=>⟨e15,_,hv,fun hne w17 x17=>zH3 (bx x17) fun x hx hs=>?_,fun heq=>⟨hp,_,k0,_,k1,_,k2,fun w20 h20=>(zet cur w20).mono fun v w21 ⟨e21,hv⟩=>⟨e21,_,hv,fun hne w23 x23=>?_,fun hz=>⟨hp,_,k0,_,k1,_,k2,fun w26 x26=>⟨bx x26,cur,0,rfl,fun h=>absurd rfl h,fun _=>⟨zba.1 hz,heq.symm⟩,fun x hx hs=>?_,fun h=>absurd rfl h,fun h=>(by cases h)⟩⟩⟩⟩⟩⟩
  · exact hne (by rw [hgood x hx hs]; exact hs.symm)
  · have hno:¬ okN cur:=fun h=>hne (zba.2 h)
    rw [zmn hno]
    refine ⟨bx x23,za6,4,rfl,fun _=>rfl,fun h=>(by cases h),fun x hx hs=>⟨fun h=>absurd (by rw [hgood x hx hs]; exact h) hno,fun _=>rfl⟩,fun _ h=>absurd rfl h,fun _=>⟨cur,hr,heq.symm,hno⟩⟩
  · have hcx:=hgood x hx hs
    exact ⟨fun _=>⟨rfl,hcx⟩,fun h=>absurd (by rw [<- hcx]; exact zba.1 hz) h⟩
theorem zGj (s:ByteArray) (hs:s.size<4294967281) (w:World) (g:GB w):FnP Tryz.prog zfj #[.string s] w (RQE w s):=by
  refine znC s w _ fun b0 hb0 w1 x1=>zbC (by simp [Value.oneCell']) fun w2 o2 e2=>?_
  have h1:=zaa x1
  have l0:=x1.lt b0 (by simp)
  have o2:=o2 w.heap.size h1.size
  have np:(some (⟨w1.heap.size,0,none⟩:Addr))≠none:=by simp
  have h2:=h1.trans e2
  have rz:zxy za6:=fun i hi=>by
    match i,hi with
    |0,_ => simp [zcd,za6]
    |1,_ => simp [zcd,za6]
    |2,_ => simp [zcd,za6]
  have hpb:∀ y,(some (⟨w1.heap.size,0,none⟩:Addr))=some y->y.block≠b0:=fun y hy=>by obtain rfl:=Option.some.inj hy; show w1.heap.size≠b0; omega
  have hpl:∀ y,(some (⟨w1.heap.size,0,none⟩:Addr))=some y->y.block<w2.heap.size:=fun y hy=>(o2.lt y hy).2
  generalize hpp:(some (⟨w1.heap.size,0,none⟩:Addr))=p at o2 np hpb hpl ⊢
  refine ⟨fun hne w3 x3=>?_,fun heq=>?_⟩
  rotate_left
  · refine zvp (cur:=za6) h2 hb0 o2.cells np rz g fun x hx hs=>?_
    have hl:zbo x=[45]:=zmB (hs.symm.trans heq)
    by_cases hp:pcs x 3=[]
    · refine zoe ?_
      have:idx x 3=[]:=by simpa [pcs] using hp
      intro i hi
      rw [this]
      exact zjs i hi
    · exfalso
      unfold zbo at hl
      rw [if_neg hp] at hl
      cases hc:pcs x 3 with
      |nil => exact hp hc
      |cons a l =>
        rw [hc,Lib.join_cons] at hl
        have ha:a∈pcs x 3:=by rw [hc]; exact List.mem_cons_self ..
        obtain ⟨i,_,rfl⟩:=List.mem_map.1 ha
        have:=congrArg List.length hl
        unfold zgu at this
        have h3:(pn i).data.toList.length=3:=zzj i
        rw [List.length_append,List.length_append,h3] at this
        simp at this
        omega
  have h3:=h2.trans (zaa x3)
  have g3:=g.ext h3
  refine (zeR 44 s hs w3 g3).mono fun v w4 ⟨e4,hv,hc4,_⟩=>⟨e4,_,_,_,hv,?_⟩
  have spn:(some (⟨w3.heap.size,0,none⟩:Addr))≠none:=by simp
  have apsp:zbT (some (⟨w3.heap.size,0,none⟩:Addr)) p:=fun a b ha hb he=>by
    obtain rfl:=Option.some.inj ha
    have h5:=hpl b hb
    have h6:=(zaa x3).size
    have h7:w3.heap.size=b.block:=he
    omega
  generalize (some (⟨w3.heap.size,0,none⟩:Addr))=sp at hc4 spn apsp ⊢
  have slen:=zeF (c:=44) _ s rfl
  have ssz:∀ i q,(Lib.splitB (one 44) 0 (Lib.countB s (one 44)) s)[i]?=some q->q.size+i<=s.size:=fun i q h=>zcw _ s i q h
  have sgood:∀ x,zxy x->s=ofL (zbo x)->Lib.countB s (one 44)+1=(idx x 3).length/\Lib.splitB (one 44) 0 (Lib.countB s (one 44)) s=(pcs x 3).map ofL:=fun x hx hsx=>by
    have:=zxO hx fun h=>hne (by rw [hsx,h]; rfl)
    rwa [<- hsx] at this
  generalize Lib.splitB (one 44) 0 (Lib.countB s (one 44)) s=S at hc4 slen ssz sgood
  generalize Lib.countB s (one 44)=n at slen sgood ⊢
  refine ⟨fun k w'=>Ext w w'/\0<=k/\k<=(n+1:Nat)/\zau w' sp (S.map Value.string)/\∃ cur,Own w.heap.size w' zid 3 p 1 1 (zv9 cur)/\zxy cur/\∀ x,zxy x->s=ofL (zbo x)->good x cur k.toNat,fun k _=>(n+1-k).toNat,
    ⟨h3.trans e4,by omega,by omega,hc4,za6,(o2.ext (zaa x3)).ext e4,rz,fun x _ _=>zjs⟩,?_⟩
  rintro k w10 ⟨x10,hk0,hk1,c10,cur,o10,hr,hgd⟩
  refine ⟨fun hlt=>?_,fun hge=>?_⟩
  rotate_left
  · refine zvp (cur:=cur) x10 hb0 o10.cells np hr g fun x hx hsx=>zoe ?_
    have:=hgd x hx hsx
    rwa [show k.toNat=(idx x 3).length by have:=(sgood x hx hsx).1; omega] at this
  obtain ⟨pc,hpc⟩:∃ pc,S[k.toNat]?=some pc:=⟨_,List.getElem?_eq_getElem (by omega)⟩
  have hcell:Go.Sx.cell w10 (pIdx sp k 1) 0=some (.string pc):=by
    rw [zae]
    exact c10 _ _ (by simp [hpc])
  have hpsz:=ssz _ _ hpc
  refine ⟨spn,hk0,hlt,_,hcell,fun w12 h12=>(zwd 61 pc (by omega) w12 ((g.ext x10).ext h12)).mono fun v w13 ⟨e13,hv⟩=>⟨e13,_,_,_,hv,fun w17 x17=>?_⟩⟩
  have hx17:=x10.trans (zaa x17)
  have hcsz:(Lib.cut pc.data.toList [61]).2.1.length<=pc.size:=by have:=zhw pc.data.toList 61; rwa [zht] at this
  have hthis:∀ x,zxy x->s=ofL (zbo x)->∃ i,(idx x 3)[k.toNat]?=some i/\i<3/\0<zcd x i/\ofL (Lib.cut pc.data.toList [61]).1=pn i/\Lib.parseIntB 64 (ofL (Lib.cut pc.data.toList [61]).2.1).data.toList=.ok (zcd x i):=fun x hx hsx=>by
    have hS:=(sgood x hx hsx).2
    rw [hS,List.getElem?_map] at hpc
    unfold pcs at hpc
    rw [List.getElem?_map,Option.map_map,Option.map_eq_some_iff] at hpc
    obtain ⟨i,hi,rfl⟩:=hpc
    have hm:=zpb (List.mem_of_getElem? hi)
    have hb:=hx i hm.1
    have hcut:Lib.cut (ofL (zgu x i)).data.toList [61]=((pn i).data.toList,Lib.itoa (zcd x i),true):=zwz _ (zGx hm.1).1
    have hcut':Lib.cut ((ofL∘zgu x) i).data.toList [61]=((pn i).data.toList,Lib.itoa (zcd x i),true):=hcut
    rw [hcut']
    exact ⟨i,hi,hm.1,by omega,zb8 _,zfz hb.1 hb.2⟩
  generalize (ofL (Lib.cut pc.data.toList [61]).1)=name at hthis ⊢
  have hnsz:(ofL (Lib.cut pc.data.toList [61]).2.1).size<=281474976710656:=by rw [zas]; omega
  generalize (ofL (Lib.cut pc.data.toList [61]).2.1)=num at hthis hnsz ⊢
  refine (zjo num hnsz w17 (g.ext hx17)).mono fun v w18 ⟨e18,vn,ev,hv,hcase⟩=>⟨e18,vn,ev,hv,fun w21 h21=>?_⟩
  have hx18:=hx17.trans e18
  refine ziW (by kernel_rfl) (hcase.elim (fun h=>.inl h.1) fun h=>.inr h.1) fun t ht=>⟨Ext.refl _,t,rfl,fun hbad w24 x24=>zH3 (zav x24 hx18 (by intro d hd; simp at hd; omega)) fun x hx hsx=>?_,fun hok w24 x24=>?_⟩
  · exfalso
    obtain ⟨i,_,_,hpos,_,hpar⟩:=hthis x hx hsx
    rcases hcase with ⟨h1,h2⟩|⟨_,h2⟩
    · rw [hpar] at h2
      injection h2 with h2
      rcases hbad with h|h
      · rw [ht.2 h1] at h; cases h
      · omega
    · exact h2 _ hpar
  have hx24:=hx18.trans (zaa x24)
  obtain ⟨hev,hpar⟩:ev=.nilIface/\Lib.parseIntB 64 num.data.toList=.ok vn:=by
    rcases hcase with h|⟨⟨a,b,h⟩,_⟩
    · exact h
    · have:=ht.1 hok.1
      rw [h] at this; cases this
  have o24:Own w.heap.size w24 zid 3 p 1 1 (zv9 cur):=(((o10.ext (zaa x17)).ext e18).ext (zaa x24))
  have c24:zau w24 sp (S.map Value.string):=(((c10.ext (zaa x17)).ext e18).ext (zaa x24))
  refine (zs3 p np w24).mono fun v w25 ⟨e25,q,hv,hq,hqb⟩=>⟨e25,q,3,3,hv,?_⟩
  have apq:zbT q p:=fun a b ha hb he=>by
    have h5:=hqb a ha
    have h6:=(o24.lt b hb).2
    omega
  refine ⟨fun k30 w'=>Ext w w'/\0<=k30/\k30<=3/\zau w' sp (S.map Value.string)/\zau w' q (zvi p)/\Own w.heap.size w' zid 3 p 1 1 (zv9 (upN cur name vn k30.toNat)),fun k30 _=>(3-k30).toNat,
    ⟨hx24.trans e25,by omega,by omega,c24.ext e25,hq,by rw [show (0:Int).toNat=0 from rfl,zzL]; exact o24.ext e25⟩,?_⟩
  rintro k30 w31 ⟨x31,hj0,hj3,c31,q31,o31⟩
  refine ⟨fun hjlt=>?_,fun hjge=>?_⟩
  · obtain ⟨d1,d2⟩:=zs2 q31 hj0 hjlt
    have hj:k30.toNat<3:=by omega
    refine ⟨fun hq=>zak d1 (zah.2 hq),hj0,hjlt,zak d1,_,d1,_,d2,fun b34 hb34=>⟨fun heq=>⟨fun h=>np (zdh.1 h),?_⟩,fun hne=>⟨i64 (by omega),⟨x31,by omega,by omega,c31,q31,?_⟩,by simp only []; omega⟩⟩⟩
    · refine zco o31 (by simpa using hj) rfl (fun b hb y hy=>?_) fun w35 o35 g35=>⟨i64 (by omega),⟨g35.ext x31 o31,by omega,by omega,c31.grew apsp g35,q31.grew apq g35,?_⟩,by simp only []; omega⟩
      · simp only [List.mem_cons,List.mem_singleton,List.mem_nil_iff,or_false] at hb
        rcases hb with rfl|rfl
        · exact hpb y hy
        · have:=(o31.lt y hy).2; omega
      · rw [show (k30+1).toNat=k30.toNat+1 by omega,<- zEj hj heq]
        exact o35
    · rw [show (k30+1).toNat=k30.toNat+1 by omega,zzK hj hne]
      exact o31
  · obtain rfl:k30=3:=by omega
    refine ⟨i64 (by omega),⟨x31,by omega,by omega,c31,upN cur name vn 3,o31,fun i hi=>?_,fun x hx hsx=>?_⟩,by simp only []; omega⟩
    · rw [zEi hi]
      split
      · have:=zvf hpar hok.2
        omega
      · exact hr i hi
    · obtain ⟨i,hi,hi3,_,hname,hp2⟩:=hthis x hx hsx
      rw [hpar] at hp2
      injection hp2 with hp2
      rw [hp2,hname,show (k+1).toNat=k.toNat+1 by omega]
      exact zuh (hgd x hx hsx) hi
theorem zB5 (s:List UInt8) (c:UInt8):(Lib.cut s [c]).1.length<=s.length:=by
  unfold Lib.cut
  split
  · simp only [List.length_take]; omega
  · exact Nat.le_refl _
def zEH (x:ByteArray):List UInt8×List UInt8×Bool:=Lib.cut x.data.toList [61]
def zKS (x:ByteArray):Lb:=⟨ofL (zEH x).1,ofL (zEH x).2.1⟩
def zap (c:UInt8) (s:ByteArray):List ByteArray:=Lib.splitB (one c) 0 (Lib.countB s (one c)) s
theorem zjx (c:UInt8) (s:ByteArray):(zap c s).length=Lib.countB s (one c)+1:=zeF _ s rfl
theorem zhO {c:UInt8} {s:ByteArray} {i:Nat} {q:ByteArray} (h:(zap c s)[i]?=some q):q.size+i<=s.size:=zcw _ s i q h
def zEL (s:ByteArray):Option (List Lb):=if s=⟨#[45]⟩ then some [] else if (zap 44 s).all (fun x=>(zEH x).2.2) then some ((zap 44 s).map zKS) else none
theorem zGe (s:ByteArray) (hs:s.size<4294967281) (w:World) (g:GB w):FnP Tryz.prog zhc #[.string s] w fun v w'=>Ext w w'/\∃ (p:Option Addr) (n c:Nat) (ev:Value),v=.tuple #[.slice p n c,ev] /\
    ((zEL s=none/\EV ev 3)\/(∃ l,zEL s=some l/\EV ev 0/\n=l.length/\Own w.heap.size w' zmb 2 p n c (l.flatMap zsh)/\l.length<=4294967281/\∀ x∈l,x.key.size<=4294967281/\x.val.size<=4294967281)):=by
  refine zqD s w _ ⟨fun h w0 h0=>⟨h0,none,0,0,_,rfl,.inr ⟨[],by unfold zEL; rw [if_pos h],ev0,rfl,Own.nil,by simp,by simp⟩⟩,fun hne w0 h0=>?_⟩
  refine (zeR 44 s hs w0 (g.ext h0)).mono fun v w1 ⟨e1,hv,hc1,hlt1⟩=>⟨e1,_,_,_,hv,?_⟩
  have hlen:=zjx 44 s
  have hsz:=fun i q=>@zhO 44 s i q
  have hF:zEL s=if (zap 44 s).all (fun x=>(zEH x).2.2) then some ((zap 44 s).map zKS) else none:=by unfold zEL; rw [if_neg hne]
  rw [hF]
  change zau w1 _ ((zap 44 s).map Value.string) at hc1
  have hcnt:Lib.countB s (one 44)+1=(zap 44 s).length:=hlen.symm
  rw [hcnt]
  have spn:(some (⟨w0.heap.size,0,none⟩:Addr))≠none:=by simp
  generalize (some (⟨w0.heap.size,0,none⟩:Addr))=sp at hc1 spn ⊢
  have hlen2:(zap 44 s).length<=4294967281:=by
    obtain ⟨q,hq⟩:∃ q,(zap 44 s)[(zap 44 s).length-1]?=some q:=⟨_,List.getElem?_eq_getElem (by omega)⟩
    have:=hsz _ _ hq
    omega
  generalize zap 44 s=S at hc1 hsz hlen2 ⊢
  have x1:=h0.trans e1
  have cb:∀ x:ByteArray,(ofL (zEH x).1).size<=x.size/\(ofL (zEH x).2.1).size<=x.size:=fun x=>by
    have h1:=zhw x.data.toList 61
    have h2:=zB5 x.data.toList 61
    rw [zht] at h1 h2
    exact ⟨by rw [zas]; exact h2,by rw [zas]; exact h1⟩
  refine ⟨fun p n c k w'=>Ext w1 w'/\0<=k/\k<=S.length/\n=k/\Own w1.heap.size w' zmb 2 p n c (((S.take k.toNat).map zKS).flatMap zsh)/\∀ x∈S.take k.toNat,(zEH x).2.2=true,fun _ _ _ k _=>(S.length-k).toNat,⟨Ext.refl _,by omega,by omega,by simp,Own.nil,by simp⟩,?_⟩
  rintro p n c k w8 ⟨x8,hk0,hk1,hnk,o8,hall⟩
  refine ⟨fun hlt=>?_,fun hge w9 h9=>?_⟩
  · obtain ⟨q,hq⟩:∃ q,S[k.toNat]?=some q:=⟨_,List.getElem?_eq_getElem (by omega)⟩
    have hqs:=hsz _ _ hq
    have hcell:Go.Sx.cell w8 (pIdx sp k 1) 0=some (.string q):=by
      rw [zae]
      refine (hc1.ext x8) _ _ ?_
      simp [hq]
    refine ⟨spn,hk0,hlt,_,hcell,fun w10 h10=>(zwd 61 q (by omega) w10 ((g.ext (x1.trans x8)).ext h10)).mono fun v w11 ⟨e11,hv⟩=>⟨e11,_,_,_,hv,fun hf w15 h15=>?_,fun ht=>?_⟩⟩
    · refine zuG ⟨Ext.refl _,_,rfl,rfl,fun w18 h18=>zAu ⟨Ext.refl _,_,rfl,fun w21 h21=>⟨(((x1.trans x8).trans h15).trans h18).trans h21,none,0,0,_,rfl,.inl ⟨?_,zAe (by decide)⟩⟩⟩⟩
      rw [if_neg]
      intro h
      have:=List.all_eq_true.1 h q (List.mem_of_getElem? hq)
      unfold zEH at this
      rw [hf] at this; cases this
    · refine push (v:=.agg #[.string (zKS q).key,.string (zKS q).val]) zk5 (by omega) o8 x8.size rfl (by intro u hu; simp [Value.cells] at hu; rcases hu with rfl|rfl<;>rfl) (by omega) (by omega) (by omega) fun p' c' w' o' g' np=>⟨i64 (by omega),⟨g'.ext x8 o8,by omega,by omega,by omega,?_,?_⟩,by simp only []; omega⟩
      · rw [show (k+1).toNat=k.toNat+1 by omega,List.take_add_one,hq]
        simpa [Value.cells] using o'
      · rw [show (k+1).toNat=k.toNat+1 by omega,List.take_add_one,hq]
        intro x hx
        rcases List.mem_append.1 hx with hx|hx
        · exact hall x hx
        · simp at hx; subst hx; exact ht
  · have hk:k=S.length:=by omega
    subst hk
    have htake:S.take ((S.length:Int)).toNat=S:=by simp
    rw [htake] at o8 hall
    have hx9:=(x1.trans x8).trans h9
    refine ⟨hx9,p,n,c,_,rfl,.inr ⟨S.map zKS,?_,ev0,by simp; omega,(o8.ext h9).weak (by have:=x1.size; omega),by simpa using hlen2,fun x hx=>?_⟩⟩
    · rw [if_pos (List.all_eq_true.2 fun x hx=>hall x hx)]
    · obtain ⟨y,hy,rfl⟩:=List.mem_map.1 hx
      obtain ⟨i,hi⟩:=List.mem_iff_getElem?.1 hy
      have:=hsz i y hi
      have:=cb y
      show (ofL (zEH y).1).size<=_/\(ofL (zEH y).2.1).size<=_
      omega
theorem zyq {B:Nat} {w:World} {p q:Option Addr} {n c d b7:Nat} {xs:List Value} {m:Hm} (o:Own B w zez 8 p n c xs) (hB:B<=w.heap.size) (hl:zau w q (zjr m)) (hq:q≠none) (hb7:b7<w.heap.size) (hns:∀ x,p=some x->x.block≠b7) (hn:n<=1000)
    {J:Option Addr->Nat->Nat->World->Prop} (hk:∀ p' c' w',Own B w' zez 8 p' (n+1) c' (xs++zjr m)->zcu w w' p p'->J p' (n+1) c' w') :
    Run Tryz.prog (.append #[34,34] 34 [.slice p n c,.slice q 1 d]) w fun v w'=>zbL [b7] w w'/\∃ q':Option Addr,∃ m':Nat,∃ d':Nat,v=.slice q' m' d'/\J q' m' d' w' :=
  zmX zf2 (by omega) o hB hq (news:=zjr m) (by simp) hl (zyH m) (by omega) (by omega) fun p' c' w4 h2 h3 h4=>⟨fun b hb=>by
    simp at hb; subst hb
    refine h3.by_.block b hb7 fun he=>?_
    cases p with
    |none => cases he
    |some y => simp [blk] at he; exact hns y rfl he.symm,_,_,_,rfl,hk p' c' w4 h2 h3⟩
def zok (name:ByteArray) (l:List Lb) (nd:Nd):Ht:=⟨name,l,nd,za6⟩
def zwV (name w2 w3:ByteArray) (σ:DS) (c:Int) (s:ByteArray) (σ':DS):Prop:=∃ nd e,zAD w2 nd e/\((e≠0/\c=e/\σ'=σ)\/(e=0/\match zEL w3 with
  |none => c=3/\σ'=σ
  |some l => match σ with
    |.opn _ => c=9/\σ'=σ
    |.shut L => c=zk9 (L++[zok name l nd])/\((c≠0/\σ'=σ)\/(c=0/\s=⟨#[111,107]⟩/\σ'=.shut (L++[zok name l nd])))))
section
variable {O:Nat->Prop} {B db:Nat} {w:World} {K:Kt}
theorem host_c (x:KX O B w db K) (g:GD w) (hBw:B<=w.heap.size) (wp:Option Addr) (wc:Nat) (ws:List ByteArray) (h4:ws.length=4)
    (hsz:∀ x∈ws,x.size<4294967281) (hw:zau w wp (ws.map Value.string)) :
    FnP Tryz.prog zeL #[.pointer (ptr db),.slice wp ws.length wc] w (CR O B db w K fun s c σ'=>zwV (ws.getD 1 ⟨#[]⟩) (ws.getD 2 ⟨#[]⟩) (ws.getD 3 ⟨#[]⟩) K.st c s σ'):=by
  have ne:=zaL db
  obtain ⟨s0,s1,s2,s3,rfl⟩:∃ a b c d,ws=[a,b,c,d]:=by
    match ws,h4 with
    |[a,b,c,d],_ => exact ⟨a,b,c,d,rfl⟩
  have cell_:∀ {w':World} (i:Nat) (q:ByteArray),Ext w w'->([s0,s1,s2,s3]:List ByteArray)[i]?=some q->Go.Sx.cell w' (pIdx wp (i:Int) 1) 0=some (.string q):=fun {w'} i q hx hq=>by
    rw [zae]
    have:=hw.ext hx i (.string q) (by rw [List.getElem?_map,hq]; rfl)
    simpa using this
  have np:wp≠none:=fun h=>zak (cell_ 1 s1 (Ext.refl w) rfl) (zah.2 h)
  have z1:=hsz s1 (by simp)
  have z2:=hsz s2 (by simp)
  have z3:=hsz s3 (by simp)
  show FnP Tryz.prog zeL #[.pointer (ptr db),.slice wp 4 wc] w (CR O B db w K fun s c σ'=>zwV s1 s2 s3 K.st c s σ')
  refine zmG (ptr db) wp 4 wc w _ ⟨np,by omega,by omega,_,cell_ 2 s2 (Ext.refl w) rfl,fun w1 x1=>(zGj s2 z2 w1 (g.gb.ext x1)).mono fun v w2 ⟨e2,nd,e,hv,hrd⟩=>⟨e2,nd.c,nd.m,nd.g,e,hv,fun b7 hb7=>⟨fun hne w8 x8=>zuG ⟨Ext.refl _,_,rfl,rfl,fun w11 x11=>zAu ⟨Ext.refl _,_,rfl,fun w14 h14=>?_⟩⟩,fun hz=>⟨np,by omega,by omega,_,cell_ 3 s3 (Ext.refl w) rfl,fun w9 x9=>?_⟩⟩⟩⟩
  · exact zcA x (((zaa x8).trans (zaa x11)).trans h14) (zAe hne) ⟨nd,e,hrd,.inl ⟨hne,rfl,rfl⟩⟩
  have h9:=zaa x9
  have hb9:=x9.lt b7 (by simp)
  refine (zGe s3 z3 w9 (g.gb.ext h9)).mono fun v w10 ⟨e10,lp,ln,lc,ev,hv,hor⟩=>⟨e10,lp,ln,lc,ev,hv,fun w15 h15=>?_⟩
  have h10:=h9.trans e10
  rcases hor with ⟨hno,hE⟩|⟨l,hl,hE,rfl,oL,hll,hls⟩
  · refine neE hE fun b hb=>⟨Ext.refl _,b,rfl,fun hbt w18 h18=>?_,fun hbf=>absurd (hb.1 hbf) (by decide)⟩
    exact zcA x (h10.trans h18) hE ⟨nd,e,hrd,.inr ⟨hz,by rw [hno]; exact ⟨rfl,rfl⟩⟩⟩
  refine neE hE fun b hb=>⟨Ext.refl _,b,rfl,fun hbt=>absurd (hb.2 rfl) (by rw [hbt]; decide),fun _=>⟨ne,ne,?_⟩⟩
  have y10:=x.ext h10
  rcases K.cases with hK|⟨fb,P,F,hK⟩
  rotate_left
  · refine ⟨_,y10.fbp hK,fun _ w19 x19=>zuG ⟨Ext.refl _,_,rfl,fun w22 h22=>?_⟩,fun h=>absurd h (zaL fb)⟩
    refine zcA x ((h10.trans (zaa x19)).trans h22) (zFL (c:=9) (by decide)) ⟨nd,e,hrd,.inr ⟨hz,?_⟩⟩
    rw [hl,Kt.st_opn hK]
    exact ⟨rfl,rfl⟩
  obtain ⟨hn,⟨M,hM,hst⟩,hok,hO⟩:=x.shut hK
  have h30:=hok.1
  have hMl:M.length=K.L.length:=by rw [<- hM]; simp
  refine ⟨none,y10.nofp hK,fun h=>absurd rfl h,fun _=>?_⟩
  have hm:zjr ⟨zok s1 l nd,lp,lc⟩=[.string s1,.slice lp l.length lc,.int .i64 nd.c,.int .i64 nd.m,.int .i64 nd.g,.int .i64 0,.int .i64 0,.int .i64 0]:=rfl
  generalize hmm:(⟨zok s1 l nd,lp,lc⟩:Hm)=m at hm
  have hmv:(Value.agg #[.string s1,.slice lp l.length lc,.int .i64 nd.c,.int .i64 nd.m,.int .i64 nd.g,.int .i64 0,.int .i64 0,.int .i64 0]).cells.toList=zjr m:=by rw [hm]; rfl
  have lit:∀ {w26:World} {R:Value->World->Prop},(∀ q w27,q≠none->zau w27 q (zjr m)->Ext w26 w27->R (.slice q 1 1) w27)->Run Tryz.prog (.buildSlice 34 1 [(0,(.agg #[.string s1,.slice lp l.length lc,.int .i64 nd.c,.int .i64 nd.m,.int .i64 nd.g,.int .i64 0,.int .i64 0,.int .i64 0]))]) w26 R:=fun {w26 R} h =>
    zcC zf2 [.agg #[.string s1,.slice lp l.length lc,.int .i64 nd.c,.int .i64 nd.m,.int .i64 nd.g,.int .i64 0,.int .i64 0,.int .i64 0]] rfl rfl (fun u hu=>by simp at hu; subst hu; rfl) (by omega) (by omega) fun w27 o27 e27=>h _ w27 (by simp) (by
      have:=(o27 w26.heap.size (Nat.le_refl _)).cells
      simp only [List.flatMap_cons,List.flatMap_nil,List.append_nil,hmv] at this
      exact this) e27
  have rec_:∀ {w':World},Ext w w'->zgE 8 zjr w' K.hp M:=fun e=>(hst _ (zac e)).1
  have clone:∀ {w26:World},Ext w w26->FnP Tryz.prog zaj #[.slice K.hp K.hn K.hc] w26 fun v w'=>Ext w26 w'/\∃ q' c',v=.slice q' M.length c'/\Own w26.heap.size w' zez 8 q' M.length c' (M.flatMap zjr):=fun e=>by
    rw [hn,<- hMl]
    exact zrZ K.hp K.hc M (by omega) _ (rec_ e)
  have c10:Go.Sx.cell w10 (pAdd (ptr db) 0) 0=some (.slice K.hp K.hn K.hc):=y10.cell (i:=0) rfl
  refine ⟨fun all n c w21=>Ext w10 w21/\n=M.length+1/\Own w10.heap.size w21 zez 8 all n c (M.flatMap zjr++zjr m),⟨ne,ne,_,_,_,c10,np,by omega,by omega,_,cell_ 1 s1 h10 rfl,fun w26 x26=>?_,fun w26 x26=>?_⟩,?_⟩
  · have h26:=zaa x26
    have hb26:=x26.lt b7 (by simp)
    refine (clone (h10.trans h26)).mono fun v w27 ⟨e27,q',c',hv,o27⟩=>⟨e27,q',M.length,c',hv,fun w31 x31=>lit fun q w32 hq hcq e32=>⟨e32,q,1,1,rfl,fun w36 x36=>?_⟩⟩
    have h36:=(((h26.trans e27).trans (zaa x31)).trans e32).trans (zaa x36)
    have o36:=(((o27.ext (zaa x31)).ext e32).ext (zaa x36)).weak h26.size
    refine zyq o36 h36.size (hcq.ext (zaa x36)) hq (x36.lt b7 (by simp)) (fun a ha he=>?_) (by omega) fun p' c'' w' o' g'=>⟨g'.ext h36 o36,rfl,o'⟩
    have:=(o27.lt a ha).1
    omega
  · have h26:=zaa x26
    have hb26:=x26.lt b7 (by simp)
    refine lit fun q w27 hq hcq e27=>⟨e27,q,1,1,rfl,fun w31 x31=>?_⟩
    have h31:=(h26.trans e27).trans (zaa x31)
    refine (clone (h10.trans h31)).mono fun v w32 ⟨e32,q',c',hv,o32⟩=>⟨e32,q',M.length,c',hv,fun w36 x36=>?_⟩
    have h36:=(h31.trans e32).trans (zaa x36)
    have o36:=(o32.ext (zaa x36)).weak h31.size
    refine zyq o36 h36.size (((hcq.ext (zaa x31)).ext e32).ext (zaa x36)) hq (x36.lt b7 (by simp)) (fun a ha he=>?_) (by omega) fun p' c'' w' o' g'=>⟨g'.ext h36 o36,rfl,o'⟩
    have:=(o32.lt a ha).1
    have:=x31.lt b7 (by simp)
    omega
  rintro all n c w21 ⟨x21,rfl,oA⟩ w22 h22
  have h21:=h10.trans x21
  have hflat:M.flatMap zjr++zjr m=(M++[m]).flatMap zjr:=by simp
  rw [hflat] at oA
  have hL':(M++[m]).map (·.h)=K.L++[zok s1 l nd]:=by rw [List.map_append,hM,<- hmm]; rfl
  have hAl:∀ a,all=some a->w10.heap.size<=a.block:=fun a ha=>(oA.lt a ha).1
  have hdb:db<w.heap.size:=(x.slot.lt _ rfl).2
  have keep:∀ {w1 w2:World} {S:Nat->Prop},Ext w21 w1->Fr S w1 w2->(∀ b,S b->dO O db b)->zgE 8 zjr w2 all (M++[m])/\∀ m'∈M++[m],Lbs w2 m'.q m'.h.labels:=fun {w1 w2 S} e1 f hS=>by
    have hSlt:∀ b,S b->b<w.heap.size:=fun b hb=>by
      rcases hS b hb with h|h
      · exact x.olt b h
      · rw [h]; exact hdb
    refine ⟨((oA.ext e1).fr f fun a ha hs=>?_).recs fun _ _=>rfl,fun m' hm'=>?_⟩
    · have:=hAl a ha; have:=hSlt _ hs; have:=h10.size; omega
    · rcases List.mem_append.1 hm' with hm'|hm'
      · exact (hst w2 ((zac (h21.trans e1)).tr (f.mono hS))).2 m' hm'
      · simp at hm'; subst hm'
        rw [<- hmm]
        refine (((oL.ext x21).ext e1).fr f fun a ha hs=>?_).recs fun _ _=>rfl
        have:=(oL.lt a ha).1; have:=hSlt _ hs; have:=h9.size; omega
  have hsH:zjE w22 all (K.L++[zok s1 l nd]):=by
    rw [<- hL']
    obtain ⟨q1,q2⟩:=keep h22 (Fr.refl (fun _=>False) w22) (fun _ h=>h.elim)
    exact hs_of q1 q2
  have hlen':M.length+1=(K.L++[zok s1 l nd]).length:=by simp [hMl]
  have hOk':∀ h∈K.L++[zok s1 l nd],zv3 h/\h.used=za6:=fun h hh=>by
    rcases List.mem_append.1 hh with hh|hh
    · exact hO h hh
    · simp at hh; subst hh
      refine ⟨⟨by show s1.size<=_; omega,by show l.length<=_; omega,fun y hy=>?_⟩,rfl⟩
      have:=hls y hy
      omega
  rw [hlen']
  refine (zui all c (K.L++[zok s1 l nd]) (by rw [<- hlen']; omega) (fun h hh=>(hOk' h hh).1) w22 hsH).mono fun v w23 ⟨e23,hv⟩=>⟨e23,_,hv,fun hne w25 x25=>zuG ⟨Ext.refl _,_,rfl,fun w28 h28=>?_⟩,fun hz2=>⟨ne,ne,?_⟩⟩
  · refine zcA x ((h21.trans (zaa x25)).trans h28) (zFL hne) ⟨nd,e,hrd,.inr ⟨hz,?_⟩⟩
    rw [hl,Kt.st_shut hK]
    exact ⟨rfl,.inl ⟨hne,rfl⟩⟩
  have y21:=x.ext h21
  refine zco (off:=0) y21.slot (by simp) rfl (fun b hb y hy=>by simp at hb; subst hb; cases hy; show db≠b; omega) fun w25 o25 g25 w26 h26=>?_
  have f25:Fr (fun b=>b=db) w21 w25:=zaV g25 fun a ha=>by cases ha; rfl
  refine ⟨_,_,0,⟨all,(K.L++[zok s1 l nd]).length,c,K.L++[zok s1 l nd],none⟩,rfl,ev0,⟨?_,fun _=>⟨rfl,⟨M++[m],hL',fun w'' k=>?_⟩,zyM.1 hz2,hOk'⟩,fun fb P F e=>(by cases e),fun b hb=>?_,x.odis⟩,?_,fun b hb=>?_,⟨nd,e,hrd,.inr ⟨hz,?_⟩⟩⟩
  · have:dcs ⟨all,(K.L++[zok s1 l nd]).length,c,K.L++[zok s1 l nd],none⟩=(dcs K).set 0 (.slice all (K.L++[zok s1 l nd]).length c):=by simp [dcs,Kt.fp,hK]
    rw [this]; exact o25.ext h26
  · exact keep (Ext.refl _) ((f25.mono fun b hb=>.inr hb).tr ((zac h26).tr k)) (fun b hb=>hb)
  · have:=x.olt b hb; have:=h21.size; have:=f25.size; have:=h26.size; omega
  · exact ((zac h21).tr (f25.mono fun b hb=>.inl hb)).tr (zac h26)
  · rcases hb with rfl|⟨fb',P1,F1,e,h⟩
    · exact .inl (.inl rfl)
    · cases e
  · rw [hl,Kt.st_shut hK]
    exact ⟨hz2.symm,.inr ⟨rfl,rfl,rfl⟩⟩
end
def sig:Nat->Nat×Bool
  |3 => (4,false)
  |7 => (1,false)
  |11 => (7,false)
  |15 => (6,true)
  |22 => (2,false)
  |26 => (1,true)
  |33 => (2,false)
  |40 => (2,false)
  |47 => (2,false)
  |51 => (2,false)
  |_ => (2,true)
theorem pv_cmd {db pb:Addr} {v:Value} {w:World}:∀ x∈KL,PV db pb x.2.2 v w->∃ f bd cap,v=.agg #[.int .i64 (sig x.2.2).1,.bool (sig x.2.2).2,.func f bd cap]:=by
  intro x hx
  simp only [KL,List.mem_cons,List.not_mem_nil,or_false] at hx
  rcases hx with rfl|rfl|rfl|rfl|rfl|rfl|rfl|rfl|rfl|rfl|rfl <;>
    (rintro ⟨f,bd,cap,e,_⟩; exact ⟨f,bd,cap,e⟩)
def zhv (k:ByteArray):Option Nat:=(KL.find? (fun x=>decide (x.1=k))).map (·.2.2)
def ztG (db:Nat) (w:World) (k:ByteArray) (t0:Int) (t1:Bool) (t2:Value) (ok:Bool):Prop :=
  (ok=false/\zhv k=none)\/(ok=true/\∃ (pb:Addr) (b:Nat),zhv k=some b/\w.cell? pb=some (.pointer (ptr db))/\PV ⟨db,0,none⟩ pb b (.agg #[.int .i64 t0,.bool t1,t2]) w/\t0=(sig b).1/\t1=(sig b).2/\t2.oneCell'=true)
theorem ztG.ext {db:Nat} {w w':World} {k:ByteArray} {t0:Int} {t1:Bool} {t2:Value} {ok:Bool} (h:ztG db w k t0 t1 t2 ok) (e:Ext w w'):ztG db w' k t0 t1 t2 ok:=by
  rcases h with h|⟨h1,pb,b,h2,h3,h4,h5⟩
  · exact .inl h
  · exact .inr ⟨h1,pb,b,h2,(Cst.of_ext e).cell h3,zjR _ _ _ _ _ _ (Cst.of_ext e) h4,h5⟩
def zBw (db:Nat) (w:World) (v:Value):Prop:=∃ pb mb M,v=.map (some mb)/\w.cell? pb=some (.pointer (ptr db))/\zc9 Value.string w mb M/\∀ k,Tab ⟨db,0,none⟩ pb w k (zir M k)
theorem zBw.ext {db:Nat} {w w':World} {v:Value} (h:zBw db w v) (e:Ext w w'):zBw db w' v:=by
  obtain ⟨pb,mb,M,h1,h2,h3,h4⟩:=h
  refine ⟨pb,mb,M,h1,(Cst.of_ext e).cell h2,h3.ext e,fun k=>?_⟩
  have:=h4 k
  unfold Tab at this ⊢
  split at this
  · obtain ⟨v,q1,q2⟩:=this
    exact ⟨v,q1,zjR _ _ _ _ _ _ (Cst.of_ext e) q2⟩
  · exact this
theorem zKA:(Tryz.prog.info? 252).map (·.zero)=some (some (.agg #[.int .i64 0,.bool false,.nilFunc])):=by kernel_rfl
theorem zpi {db:Nat} {w:World} {v:Value} (h:zBw db w v) (k:ByteArray) {K:Value->World->Prop}
    (hk:∀ t0 t1 t2 ok,ztG db w k t0 t1 t2 ok->t2.oneCell'=true->K (.tuple #[.agg #[.int .i64 t0,.bool t1,t2],.bool ok]) w):Run Tryz.prog (.lookup 254 v (.string k) true) w K:=by
  obtain ⟨pb,mb,M,rfl,h2,h3,h4⟩:=h
  obtain ⟨i,hi,hz⟩:∃ i,Tryz.prog.info? 252=some i/\i.zero=some (.agg #[.int .i64 0,.bool false,.nilFunc]):=by
    obtain ⟨i,h1,h2⟩:=Option.map_eq_some_iff.1 zKA
    exact ⟨i,h1,h2⟩
  refine zmZ (enc:=Value.string) kstr zIa hi hz h3 ?_
  have ht:=h4 k
  unfold Tab at ht
  split at ht
  · rename_i y j b he
    obtain ⟨u,hu,hpv⟩:=ht
    rw [hu]
    obtain ⟨f,bd,cap,rfl⟩:=pv_cmd _ (List.mem_of_find?_eq_some he) hpv
    exact hk _ _ _ true (.inr ⟨rfl,pb,b,by unfold zhv; rw [he]; rfl,h2,hpv,rfl,rfl,rfl⟩) rfl
  · rename_i he
    rw [ht]
    exact hk 0 false .nilFunc false (.inl ⟨rfl,by unfold zhv; rw [he]; rfl⟩) rfl
def DS.isShut:DS->Bool
  |.shut _ => true
  |.opn _ => false
def doW (R:Nat->List ByteArray->DS->Int->ByteArray->DS->Prop) (ws:List ByteArray) (σ:DS) (c:Int) (s:ByteArray) (σ':DS):Prop :=
  match zhv (ws.getD 0 ⟨#[]⟩) with
  |none => c=1/\σ'=σ
  |some b => if ws.length≠(sig b).1 then c=3/\σ'=σ else if (sig b).2=true/\σ.isShut=true then c=9/\σ'=σ else R b ws σ c s σ'
section
variable {O:Nat->Prop} {B db:Nat} {w:World} {K:Kt}
theorem do_k (R:Nat->List ByteArray->DS->Int->ByteArray->DS->Prop) (x:KX O B w db K) (g:GD w) (line:ByteArray) (hs:line.size<4294967281)
    (hcall:∀ (w1:World) (pb wp:Addr) (b:Nat) (wc:Nat) (t2:Value),Ext w w1->zhv ((zap 32 line).getD 0 ⟨#[]⟩)=some b->w1.cell? pb=some (.pointer (ptr db))->PV ⟨db,0,none⟩ pb b (.agg #[.int .i64 (sig b).1,.bool (sig b).2,t2]) w1 ->
      (zap 32 line).length=(sig b).1->(zap 32 line).length<=wc->((sig b).2=true->K.st.isShut=false)->zau w1 (some wp) ((zap 32 line).map Value.string)->(∀ x∈zap 32 line,x.size<4294967281) ->
      zIh Tryz.prog t2 [.slice (some wp) (zap 32 line).length wc] w1 (CR O B db w1 K fun s c σ'=>R b (zap 32 line) K.st c s σ')) :
    FnP Tryz.prog zgd #[.pointer (ptr db),.string line] w (CR O B db w K fun s c σ'=>doW R (zap 32 line) K.st c s σ'):=by
  have ne:=zaL db
  refine zpv (ptr db) line w _ fun w0 x0=>(zeR 32 line hs w0 (g.gb.ext x0)).mono fun v w1 ⟨e1,hv,hc1,hlt1⟩=>⟨e1,_,_,_,hv,?_⟩
  have hlen:Lib.countB line (one 32)+1=(zap 32 line).length:=(zjx 32 line).symm
  have hszs:∀ y∈zap 32 line,y.size<4294967281:=fun y hy=>by
    obtain ⟨i,hi⟩:=List.mem_iff_getElem?.1 hy
    have:=zhO hi
    omega
  change zau w1 _ ((zap 32 line).map Value.string) at hc1
  have h0:0<(zap 32 line).length:=by omega
  rw [hlen]
  generalize zap 32 line=ws at hc1 hszs hcall h0 ⊢
  have x1:=x0.trans e1
  generalize hsp:(⟨w0.heap.size,0,none⟩:Addr)=sp at hc1
  have cw:∀ {w':World},Ext w1 w'->Go.Sx.cell w' (pIdx (some sp) 0 1) 0=some (.string (ws.getD 0 ⟨#[]⟩)):=fun e=>by
    rw [zae]
    refine (hc1.ext e) 0 _ ?_
    rw [List.getElem?_map,getElem?_getD ws ⟨#[]⟩ h0]; rfl
  have tab:∀ {w9:World},FnP Tryz.prog za4 #[.pointer (ptr db)] w9 fun v w'=>Ext w9 w'/\zBw db w' v:=fun {w9}=>(zz6 ⟨db,0,none⟩ w9).mono fun v w' ⟨h1,pb,mb,M,h2,h3,h4,h5⟩=>⟨h1,pb,mb,M,h2,h3,h4,h5⟩
  have zuO:∀ v∈[Value.int .i64 0,.bool false,.nilFunc],v.oneCell'=true:=by intro v hv; simp at hv; rcases hv with rfl|rfl|rfl<;>rfl
  let J:Option Addr->Bool->World->Prop:=fun p ok w'=>Ext w1 w'/\∃ t0 t1 t2,ztG db w' (ws.getD 0 ⟨#[]⟩) t0 t1 t2 ok/\Go.Sx.cell w' (pAdd p 0) 0=some (.int .i64 t0)/\Go.Sx.cell w' (pAdd p 1) 0=some (.bool t1)/\Go.Sx.cell w' (pAdd p 2) 0=some t2/\p≠none
  have put:∀ {w13 w14 w20:World} {p:Option Addr} {t0:Int} {t1:Bool} {t2:Value} {ok:Bool},Ext w1 w13->zzR w13 252 [.int .i64 0,.bool false,.nilFunc] p w14->Ext w14 w20->ztG db w20 (ws.getD 0 ⟨#[]⟩) t0 t1 t2 ok->t2.oneCell'=true ->
      zan w20 p [.int .i64 t0,.bool t1,t2] [] (J p ok):=fun {w13 w14 w20 p t0 t1 t2 ok} hx hn e hf h1=>by
    have o14:Own w13.heap.size w14 252 3 p 1 1 [.int .i64 0,.bool false,.nilFunc]:=by
      rw [hn.at_]
      exact ⟨by simp,.inr ⟨w13.heap.size,1,_,rfl,Nat.le_refl _,hn.block,Nat.le_refl _,by simp [maxLen],by simp,by simp⟩⟩
    have hblk:w20.heap[w13.heap.size]?=some (.cells #[.int .i64 0,.bool false,.nilFunc] 252):=by
      rw [e.block _ (by rw [hn.size]; omega)]; exact hn.block
    have hp:p≠none:=by rw [hn.at_]; simp
    refine zaY (off:=0) (o14.ext e) (ze5 p) (by simp) (by simp) (by intro u hu; simp at hu; rcases hu with rfl|rfl|rfl<;>first|rfl|exact h1) (by simp) fun w21 o21 g21=>?_
    have e20:Ext w13 w20:=hn.ext.trans e
    have e21:Ext w13 w21:=g21.ext e20 (o14.ext e)
    have hcel:zKC w20 w21:=fun q v hv hc=>by
      have hq:q.block≠w13.heap.size:=fun hq=>by
        unfold World.cell? at hc
        rw [hq,hblk] at hc
        simp only at hc
        split at hc
        · cases hc
        · have hm:=Array.mem_of_getElem? hc
          simp at hm
          rcases hm with rfl|rfl|rfl<;>exact hv
      have hlt:q.block<w20.heap.size:=by
        rcases Nat.lt_or_ge q.block w20.heap.size with h|h
        · exact h
        · unfold World.cell? at hc
          rw [Array.getElem?_eq_none h] at hc; cases hc
      rw [<- hc]
      exact World.cell?_of_block (w:=w20) (g21.by_.block q.block hlt (by rw [hn.at_]; simp [blk]; exact hq))
    have hcs:=o21.cells
    refine ⟨hx.trans e21,t0,t1,t2,?_,?_,?_,?_,hp⟩
    · rcases hf with h|⟨h1,pb,b,h2,h3,h4,h5⟩
      · exact .inl h
      · exact .inr ⟨h1,pb,b,h2,hcel _ _ trivial h3,zHh _ _ _ _ _ _ hcel h4,h5⟩
    · rw [zam]; exact hcs 0 _ rfl
    · rw [zam]; exact hcs 1 _ rfl
    · rw [zam]; exact hcs 2 _ rfl
  have new:∀ {w13:World} {T:Option Addr->World->Prop},(∀ p w14,zzR w13 252 [.int .i64 0,.bool false,.nilFunc] p w14->T p w14)->New w13 252 [.int .i64 0,.bool false,.nilFunc] T:=fun h=>⟨zuO,h⟩
  refine ⟨J,⟨by simp,by omega,by omega,fun w9 x9=>tab.mono fun v w10 ⟨e10,hT⟩=>⟨e10,v,rfl,_,cw (x9.trans e10),fun w13 x13=>?_,fun w13 x13=>?_⟩,⟨_,cw (Ext.refl _),fun w10 x10=>tab.mono fun v w11 ⟨e11,hT⟩=>⟨e11,v,rfl,fun w13 x13=>?_,fun w13 x13=>?_⟩,fun w10 x10=>?_⟩,fun w9 x9=>?_⟩,?_⟩
  · exact zpi (hT.ext x13) _ fun t0 t1 t2 ok hf h1=>⟨Ext.refl _,t0,t1,t2,ok,rfl,fun w19 x19=>new fun p w20 hn=>put (((x9.trans e10).trans x13).trans x19) hn (Ext.refl _) (hf.ext (x19.trans hn.ext)) h1⟩
  · exact new fun p w14 hn w15 x15=>zpi (hT.ext ((x13.trans hn.ext).trans x15)) _ fun t0 t1 t2 ok hf h1=>⟨Ext.refl _,t0,t1,t2,ok,rfl,put ((x9.trans e10).trans x13) hn x15 hf h1⟩
  · exact zpi (hT.ext x13) _ fun t0 t1 t2 ok hf h1=>⟨Ext.refl _,t0,t1,t2,ok,rfl,fun w19 x19=>new fun p w20 hn=>put (((x10.trans e11).trans x13).trans x19) hn (Ext.refl _) (hf.ext (x19.trans hn.ext)) h1⟩
  · exact new fun p w14 hn w15 x15=>zpi (hT.ext ((x13.trans hn.ext).trans x15)) _ fun t0 t1 t2 ok hf h1=>⟨Ext.refl _,t0,t1,t2,ok,rfl,put ((x10.trans e11).trans x13) hn x15 hf h1⟩
  · exact new fun p w11 hn w12 x12=>tab.mono fun v w13 ⟨e13,hT⟩=>⟨e13,v,rfl,fun w15 x15=>zpi (hT.ext x15) _ fun t0 t1 t2 ok hf h1=>⟨Ext.refl _,t0,t1,t2,ok,rfl,put x10 hn ((x12.trans e13).trans x15) hf h1⟩⟩
  · refine new fun p w10 hn=>⟨fun w11 x11=>tab.mono fun v w12 ⟨e12,hT⟩=>⟨e12,v,rfl,_,cw ((((x9.trans hn.ext).trans x11).trans e12)),fun w15 x15=>zpi (hT.ext x15) _ fun t0 t1 t2 ok hf h1=>⟨Ext.refl _,t0,t1,t2,ok,rfl,put x9 hn ((x11.trans e12).trans x15) hf h1⟩⟩,_,cw (x9.trans hn.ext),fun w12 x12=>tab.mono fun v w13 ⟨e13,hT⟩=>⟨e13,v,rfl,fun w15 x15=>zpi (hT.ext x15) _ fun t0 t1 t2 ok hf h1=>⟨Ext.refl _,t0,t1,t2,ok,rfl,put x9 hn ((x12.trans e13).trans x15) hf h1⟩⟩⟩
  rintro p ok w8 ⟨x8,t0,t1,t2,hf,c0,c1,c2,hp⟩
  have h8:=x1.trans x8
  refine ⟨fun hok w9 x9=>zuG ⟨Ext.refl _,_,rfl,fun w12 h12=>zcA x ((h8.trans x9).trans h12) (zFL (c:=1) (by decide)) ?_⟩,fun hok=>⟨hp,_,c0,?_⟩⟩
  · rcases hf with ⟨_,h⟩|⟨h,_⟩
    · unfold doW; rw [h]; exact ⟨rfl,rfl⟩
    · rw [hok] at h; cases h
  rcases hf with ⟨h,_⟩|⟨_,pb,b,hcm,hpb,hpv,rfl,rfl,_⟩
  · rw [hok] at h; cases h
  refine ⟨fun hne w10 x10=>zuG ⟨Ext.refl _,_,rfl,rfl,fun w13 x13=>zAu ⟨Ext.refl _,_,rfl,fun w16 h16=>zcA x (((h8.trans x10).trans x13).trans h16) (zAe (c:=3) (by decide)) ?_⟩⟩,fun heq=>⟨hp,_,c1,fun _=>ne,fun _=>ne,fun ht=>?_,fun hfl=>⟨hp,_,c2,fun w12 x12=>?_⟩⟩⟩
  · unfold doW; rw [hcm]
    simp only []
    rw [if_pos (by omega)]
    first|exact ⟨rfl,rfl⟩|simp
  · have hR:∀ (s:ByteArray) (c:Int) (σ:DS),K.st.isShut=false->R b ws K.st c s σ->doW R ws K.st c s σ:=fun s c σ hsh h=>by
      unfold doW; rw [hcm]
      simp only []
      rw [if_neg (by omega),if_neg (by rw [hsh]; simp)]
      exact h
    rcases K.cases with hK|⟨fb,P,F,hK⟩
    · refine ⟨none,(x.ext h8).nofp hK,fun _ w12 x12=>zuG ⟨Ext.refl _,_,rfl,fun w15 h15=>zcA x ((h8.trans x12).trans h15) (zFL (c:=9) (by decide)) ?_⟩,fun h=>absurd rfl h⟩
      unfold doW; rw [hcm]
      simp only []
      rw [if_neg (by omega),if_pos ⟨ht,by rw [Kt.st_shut hK]; rfl⟩]
      first|exact ⟨rfl,rfl⟩|simp
    · refine ⟨ptr fb,(x.ext h8).fbp hK,fun h=>absurd h (zaL fb),fun _=>⟨hp,_,c2,fun w13 x13=>?_⟩⟩
      have hsh:K.st.isShut=false:=by rw [Kt.st_opn hK]; rfl
      have hx:=h8.trans x13
      obtain ⟨f,bd,cap,e1,e2⟩:=hcall w13 pb sp b ws.length t2 hx hcm ((Cst.of_ext x13).cell hpb) (zjR _ _ _ _ _ _ (Cst.of_ext x13) hpv) (by omega) (Nat.le_refl _) (fun _=>hsh) (hc1.ext (x8.trans x13)) hszs
      refine ⟨f,bd,cap,e1,e2.mono fun v w14 hC=>?_⟩
      obtain ⟨s,ev,c,K',hv,q1,q2,q3,q4,q5⟩:=zwy hx hC
      exact ⟨s,ev,hv,fun w17 h17=>⟨s,ev,c,K',rfl,q1,q2.ext h17,q3.tr (zac h17),q4,hR _ _ _ hsh q5⟩⟩
  · have hx:=h8.trans x12
    obtain ⟨f,bd,cap,e1,e2⟩:=hcall w12 pb sp b ws.length t2 hx hcm ((Cst.of_ext x12).cell hpb) (zjR _ _ _ _ _ _ (Cst.of_ext x12) hpv) (by omega) (Nat.le_refl _) (fun h=>by rw [hfl] at h; cases h) (hc1.ext (x8.trans x12)) hszs
    refine ⟨f,bd,cap,e1,e2.mono fun v w14 hC=>?_⟩
    obtain ⟨s,ev,c,K',hv,q1,q2,q3,q4,q5⟩:=zwy hx hC
    refine ⟨s,ev,hv,fun w17 h17=>⟨s,ev,c,K',rfl,q1,q2.ext h17,q3.tr (zac h17),q4,?_⟩⟩
    unfold doW; rw [hcm]
    simp only []
    rw [if_neg (by omega),if_neg (by rw [hfl]; simp)]
    exact q5
end
theorem As_k {W0 w:World} {v:Value} {c:Int} (he:EV v c) (g:GD w) {t:Addr} {old:Value} (hx:Ext W0 w) (ht:W0.heap.size<=t.block) (hc:w.cell? t=some old) (hf:w.frozen? t=false) :
    FnP Tryz.prog zoE #[v,.iface 196 (.pointer (some t))] w fun u w'=>Ext W0 w'/\∃ b:Bool,u=.bool b/\((c=0/\b=false)\/(c≠0/\b=true/\Go.Sx.cell w' (some t) 0=some (.int .i64 c))):=by
  refine ⟨fun args w=>Tryz.call104 args w,?_⟩
  have hg:w.cell? ⟨0,0,none⟩=some (.iface 329 (.agg #[.pointer (some ⟨11,175,none⟩)])):=zww g.eType
  have al:∀ {w':World} (o:Obj),Ext W0 w'->Ext W0 (w'.alloc o):=fun o h=>Below.alloc h h.size o
  have lt:t.block<w.heap.size:=by
    rcases Nat.lt_or_ge t.block w.heap.size with h|h
    · exact h
    · unfold World.cell? at hc
      rw [Array.getElem?_eq_none h] at hc; cases hc
  have ca:∀ {w':World} (o:Obj),t.block<w'.heap.size->w'.cell? t=some old->(w'.alloc o).cell? t=some old/\t.block<(w'.alloc o).heap.size:=fun {w'} o h1 h2=>⟨by rw [World.cell?_alloc_lt _ _ t h1]; exact h2,by rw [zBD]; omega⟩
  have fin:∀ {w':World},Ext W0 w'->w'.cell? t=some old->Ext W0 (w'.setCell t (.int .i64 c))/\Go.Sx.cell (w'.setCell t (.int .i64 c)) (some t) 0=some (.int .i64 c):=fun {w'} h1 h2=>⟨Below.setCell h1 ht _,zgk (World.cell?_setCell_same w' t _ h2)⟩
  rcases he with ⟨h0,rfl⟩|⟨h0,rfl|⟨k,rfl⟩⟩
  · exact (as_nil _ w).mono fun e w' ⟨h1,h2⟩=>⟨_,h1,by rw [h2]; exact hx,false,rfl,.inl ⟨h0,rfl⟩⟩
  · refine (as_hit c t old w hg hc hf).mono fun e w' ⟨h1,o1,o2,o3,o4,h2⟩=>⟨_,h1,?_⟩
    obtain ⟨a1,b1⟩:=ca o1 lt hc
    obtain ⟨a2,b2⟩:=ca o2 b1 a1
    obtain ⟨a3,b3⟩:=ca o3 b2 a2
    obtain ⟨a4,b4⟩:=ca o4 b3 a3
    obtain ⟨q1,q2⟩:=fin (al o4 (al o3 (al o2 (al o1 hx)))) a4
    rw [h2]
    exact ⟨q1,true,rfl,.inr ⟨h0,rfl,q2⟩⟩
  · refine (zIL k c t old w hg hc hf).mono fun e w' ⟨h1,o1,o2,o3,o4,o5,h2⟩=>⟨_,h1,?_⟩
    obtain ⟨a1,b1⟩:=ca o1 lt hc
    obtain ⟨a2,b2⟩:=ca o2 b1 a1
    obtain ⟨a3,b3⟩:=ca o3 b2 a2
    obtain ⟨a4,b4⟩:=ca o4 b3 a3
    obtain ⟨a5,b5⟩:=ca o5 b4 a4
    obtain ⟨q1,q2⟩:=fin (al o5 (al o4 (al o3 (al o2 (al o1 hx))))) a5
    rw [h2]
    exact ⟨q1,true,rfl,.inr ⟨h0,rfl,q2⟩⟩
def zzZ (c:Int) (s:ByteArray):ByteArray:=if c=0 then s else (⟨#[101,114,114,32]⟩:ByteArray)++ofL (Lib.itoa c)
abbrev zEu:=Nat->List ByteArray->DS->Int->ByteArray->DS->Prop
def doD (R:zEu) (line:ByteArray) (σ:DS) (a:ByteArray) (σ':DS):Prop:=∃ c s,doW R (zap 32 line) σ c s σ'/\a=zzZ c s
def zoA (R:zEu) (line:ByteArray):Prop:=∀ (O:Nat->Prop) (B db:Nat) (K:Kt) (w1:World) (pb wp:Addr) (b:Nat) (wc:Nat) (t2:Value),KX O B w1 db K->GD w1->11<=B->B<=w1.heap.size->zhv ((zap 32 line).getD 0 ⟨#[]⟩)=some b->w1.cell? pb=some (.pointer (ptr db)) ->
  PV ⟨db,0,none⟩ pb b (.agg #[.int .i64 (sig b).1,.bool (sig b).2,t2]) w1->(zap 32 line).length=(sig b).1->(zap 32 line).length<=wc->((sig b).2=true->K.st.isShut=false)->zau w1 (some wp) ((zap 32 line).map Value.string)->(∀ x∈zap 32 line,x.size<4294967281) ->
  zIh Tryz.prog t2 [.slice (some wp) (zap 32 line).length wc] w1 (CR O B db w1 K fun s c σ'=>R b (zap 32 line) K.st c s σ'/\InR .i64 c)
section
variable {O:Nat->Prop} {B db:Nat} {w:World} {K:Kt}
theorem Do_kD (R:zEu) (x:KX O B w db K) (g:GD w) (hB:11<=B) (hBw:B<=w.heap.size) (line:ByteArray) (hs:line.size<4294967281) (hcall:zoA R line) :
    FnP Tryz.prog zeq #[.pointer (ptr db),.string line] w fun v w'=>∃ (a:ByteArray) (K':Kt),v=.string a/\KX O B w' db K'/\Fr (KF db K) w w'/\zut w db K K'/\doD R line K.st a K'.st:=by
  refine zpu (ptr db) line w _ fun w0 x0=>(do_k (fun b ws σ c s σ'=>R b ws σ c s σ'/\InR .i64 c) (x.ext x0) (g.ext x0) line hs fun w1 pb wp b wc t2 x1 a1 a2 a3 a4 a5 a6 a7 a8=>hcall O B db K w1 pb wp b wc t2 ((x.ext x0).ext x1) ((g.ext x0).ext x1) hB (Nat.le_trans hBw (Nat.le_trans x0.size x1.size)) a1 a2 a3 a4 a5 a6 a7 a8).mono fun v w1 hC=>?_
  obtain ⟨s,ev,c,K',rfl,hE,hX,hF,hG,hR⟩:=zwy x0 hC
  have hRR:doW R (zap 32 line) K.st c s K'.st/\InR .i64 c:=by
    unfold doW at hR ⊢
    split at hR
    · exact ⟨hR,by rw [hR.1]; exact i64 (by omega)⟩
    · split at hR
      · rename_i h; rw [if_pos h]; exact ⟨hR,by rw [hR.1]; exact i64 (by omega)⟩
      · rename_i h
        rw [if_neg h]
        split at hR
        · rename_i h; rw [if_pos h]; exact ⟨hR,by rw [hR.1]; exact i64 (by omega)⟩
        · rename_i h; rw [if_neg h]; exact hR
  have g1:GD w1:=g.fr hF fun b hb=>Nat.le_trans hB (x.foot hb).1
  refine ⟨s,ev,rfl,fun w4 x4=>⟨by simp [Value.oneCell'],fun p w5 hn w6 x6=>zfA (d:=.pointer 24) (by kernel_rfl) (by intro m hm; cases hm) ⟨Ext.refl _,_,rfl,fun w9 x9=>?_⟩⟩⟩
  obtain ⟨q,rfl,hq⟩:=zlp hn
  have hqb:q=⟨w4.heap.size,0,none⟩:=by have:=hn.at_; injection this
  have h49:Ext w4 w9:=(hn.ext.trans x6).trans x9
  have h59:Ext w5 w9:=x6.trans x9
  have h19:Ext w1 w9:=x4.trans h49
  have hfz:w9.frozen? q=false:=by
    have hb:w9.heap[w4.heap.size]?=some (.cells #[.int .i64 0] 24):=by rw [h59.block _ (by rw [hn.size]; omega)]; exact hn.block
    unfold World.frozen?
    rw [hqb]
    simp only [hb]
    rfl
  refine (As_k hE (g1.ext h19) h49 (by rw [hqb]; exact Nat.le_refl _) ((Cst.of_ext h59).cell hq) hfz).mono fun u w10 ⟨e10,b,hu,hb⟩=>⟨b,hu,fun hbt=>?_,fun hbf w12 h12=>?_⟩
  · rcases hb with ⟨_,h⟩|⟨hc,_,hcell⟩
    · rw [hbt] at h; cases h
    · refine ⟨c,hcell,fun w13 h13=>(znr c (zhB hRR.2) w13 (((g1.ext x4).ext e10).ext h13).gb).mono fun v w14 ⟨e14,hv⟩=>⟨e14,_,hv,?_,fun w16 h16=>?_⟩⟩
      · have:=Lib.itoa_length_le c (zhB hRR.2).1 (zhB hRR.2).2
        unfold zdi
        rw [zas]
        show 4+_<=_
        omega
      · have hx:=(x4.trans e10).trans h16
        exact ⟨_,K',rfl,hX.ext hx,hF.tr (zac hx),hG,c,s,hRR.1,by unfold zzZ; rw [if_neg hc]⟩
  · rcases hb with ⟨hc,_⟩|⟨_,h,_⟩
    · have hx:=(x4.trans e10).trans h12
      exact ⟨s,K',rfl,hX.ext hx,hF.tr (zac hx),hG,c,s,hRR.1,by unfold zzZ; rw [if_pos hc]⟩
    · rw [hbf] at h; cases h
end
inductive zc3 (R:zEu):List ByteArray->DS->List ByteArray->DS->Prop
  |nil (σ:DS):zc3 R [] σ [] σ
  |snoc {ls:List ByteArray} {l:ByteArray} {σ σ1 σ2:DS} {us:List ByteArray} {a:ByteArray}:zc3 R ls σ us σ1->doD R l σ1 a σ2->zc3 R (ls++[l]) σ (us++[a]) σ2
theorem zc3.len {R:zEu} {ls us:List ByteArray} {σ σ':DS} (h:zc3 R ls σ us σ'):us.length=ls.length:=by
  induction h with
  |nil => rfl
  |snoc _ _ ih => simp [ih]
theorem zBk (R:zEu) (lines:List ByteArray) (p:Option Addr) (c:Nat) (w:World) (g:GD w) (h6:11<=w.heap.size) (hw:zau w p (lines.map Value.string)) (h63:(lines.length:Int)<=9223372036854775807) (hs:∀ x∈lines,x.size<4294967281) (hcall:∀ x∈lines,zoA R x) :
    FnP Tryz.prog zcg #[.slice p lines.length c] w fun v w'=>Ext w w'/\((100<lines.length/\v=.tuple #[.slice none 0 0,.int .i64 2])\/(lines.length<=100/\∃ (us:List ByteArray) (σ:DS) (q:Option Addr) (d:Nat),v=.tuple #[.slice q lines.length d,.int .i64 0]/\zc3 R lines (.shut []) us σ/\Own w.heap.size w' zay 1 q lines.length d (us.map Value.string))):=by
  refine zuY p lines.length c w _ ⟨fun h w0 h0=>⟨h0,.inl ⟨by omega,rfl⟩⟩,fun hle w0 h0=>(zB8 w0).mono fun v w1 ⟨e1,db,hv,x1⟩=>⟨e1,ptr db,hv,?_⟩⟩
  have hx1:=h0.trans e1
  refine ⟨fun q n d k w6=>Ext w0 w6/\0<=k/\k<=lines.length/\n=k/\∃ (us:List ByteArray) (K:Kt),zc3 R (lines.take k.toNat) (.shut []) us K.st/\Own w0.heap.size w6 zay 1 q n d (us.map Value.string)/\KX (fun b=>b<w0.heap.size\/∃ a,q=some a/\a.block=b) w0.heap.size w6 db K,fun _ _ _ k _=>(lines.length-k).toNat,⟨e1,by omega,by omega,by simp,[],_,zc3.nil _,Own.nil,x1.go (S:=fun _=>False) (Fr.refl _ _) (fun _ h=>h.elim) fun b hb=>?_⟩,?_⟩
  · rcases hb with hb|⟨a,ha,_⟩
    · exact .inl hb
    · cases ha
  rintro q n d k w6 ⟨x6,hk0,hk1,hnk,us,K,hp,oA,hX⟩
  have hal:=hp.len
  rw [List.length_take] at hal
  refine ⟨fun hlt=>?_,fun hge w7 h7=>?_⟩
  · obtain ⟨l,hl⟩:∃ l,lines[k.toNat]?=some l:=⟨_,List.getElem?_eq_getElem (by omega)⟩
    have hm:=List.mem_of_getElem? hl
    have hcell:Go.Sx.cell w6 (pIdx p k 1) 0=some (.string l):=by
      rw [zae]
      refine (hw.ext (h0.trans x6)) _ _ ?_
      simp [hl]
    refine ⟨fun hq=>zak hcell (zah.2 hq),hk0,hlt,l,hcell,fun w8 x8=>?_⟩
    have hsz:w0.heap.size<=w8.heap.size:=(x6.trans x8).size
    refine (Do_kD R (hX.ext x8) (g.ext ((h0.trans x6).trans x8)) (Nat.le_trans h6 h0.size) hsz l (hs l hm) (hcall l hm)).mono fun v w9 ⟨a,K',hv,hX',hF,hG,hD⟩=>⟨a,hv,?_⟩
    have o9:Own w0.heap.size w9 zay 1 q n d (us.map Value.string):=(oA.ext x8).fr hF fun b hb hk=>(hX.ext x8).oft (.inr ⟨b,hb,rfl⟩) hk
    have e9:Ext w0 w9:=(hX.ext x8).keep (x6.trans x8) (Nat.le_refl _) hF
    refine push (v:=.string a) zbW (by omega) o9 e9.size rfl (by intro u hu; simp [Value.cells] at hu; subst hu; rfl) (by omega) (by omega) (by omega) fun q' d' w' o' g' np=>⟨i64 (by omega),⟨g'.ext e9 o9,by omega,by omega,by omega,us++[a],K',?_,?_,?_⟩,by simp only []; omega⟩
    · rw [show (k+1).toNat=k.toNat+1 by omega,List.take_add_one,hl]
      exact zc3.snoc hp hD
    · simpa [Value.cells] using o'
    · refine hX'.go (zaV (S:=fun b=>∃ a,q=some a/\a.block=b) g' fun a ha=>⟨a,ha,rfl⟩) (fun b hb=>.inr hb) fun b hb=>?_
      rcases hb with hb|⟨a',ha',rfl⟩
      · exact .inl (.inl hb)
      · have hlt':=(o'.lt a' ha').2
        rcases g'.new with hn|hn
        · left; right
          subst ha'
          cases q with
          |none => simp [blk] at hn
          |some z => simp [blk] at hn; exact ⟨z,rfl,hn.symm⟩
        · exact .inr ⟨hn a' ha',hlt'⟩
  · have hk:k=lines.length:=by omega
    subst hk
    have htake:lines.take ((lines.length:Int)).toNat=lines:=by simp
    rw [htake] at hp
    have hn:n=lines.length:=by omega
    subst hn
    exact ⟨(h0.trans x6).trans h7,.inr ⟨by omega,us,K.st,q,d,rfl,hp,(oA.ext h7).weak h0.size⟩⟩
abbrev zEt:=List ByteArray->DS->Int->ByteArray->DS->Prop
def zqh (N Fr_:zEt):zEu
  |3,ws,σ,c,s,σ' => zwV (ws.getD 1 ⟨#[]⟩) (ws.getD 2 ⟨#[]⟩) (ws.getD 3 ⟨#[]⟩) σ c s σ'
  |7,_,σ,c,s,σ' => zxs σ c s σ'
  |11,ws,σ,c,s,σ' => N ws σ c s σ'
  |15,ws,σ,c,s,σ' => zja (znZ ws 1) σ c s σ'
  |22,ws,σ,c,s,σ' => zqT zti (ws.getD 1 ⟨#[]⟩) σ s c σ'
  |26,_,σ,c,s,σ' => zxv σ c s σ'
  |33,ws,σ,c,s,σ' => zqT (zwa true) (ws.getD 1 ⟨#[]⟩) σ s c σ'
  |40,ws,σ,c,s,σ' => zqT (zwa false) (ws.getD 1 ⟨#[]⟩) σ s c σ'
  |47,ws,σ,c,s,σ' => zqT zFk (ws.getD 1 ⟨#[]⟩) σ s c σ'
  |51,ws,σ,c,s,σ' => zDR (ws.getD 1 ⟨#[]⟩) σ c s σ'
  |55,ws,σ,c,s,σ' => Fr_ ws σ c s σ'
  |_,_,_,_,_,_ => False
def zaA (c:Int):Prop:=0<=c/\c<=10
theorem zaA.inR {c:Int} (h:zaA c):InR .i64 c:=i64 (by unfold zaA at h; omega)
theorem zmA {s:ByteArray} {n c:Int} (h:zGp s n c):zaA c:=by rcases h with ⟨h,_⟩|⟨h,_⟩<;>(unfold zaA; omega)
theorem zrP {F:Fm} {id e:Int} (h:ztC F id e):zaA e:=by rcases h with ⟨_,h⟩|⟨_,h⟩<;>(unfold zaA; omega)
theorem zxA {s:ByteArray} {a:Nd} {e:Int} (h:zAD s a e):zaA e:=by
  unfold zaA
  by_cases h0:e=0
  · omega
  · by_cases h4:e=4
    · omega
    · have:=h.2.2.2.1 h0 h4; omega
theorem zuv:∀ (l:List Lb) (seen:List ByteArray),zaA (lbE seen l)
  |[],seen => by unfold lbE zaA; omega
  |x::r,seen => by
    rw [lbE]
    split
    · split
      · unfold zaA; omega
      · exact zuv r _
    · unfold zaA; omega
theorem zFZ (seen:List ByteArray) (h:Ht):zaA (hE seen h):=by
  unfold hE
  split; · unfold zaA; omega
  split; · unfold zaA; omega
  split; · unfold zaA; omega
  split; · exact zuv _ _
  split; · unfold zaA; omega
  split; · unfold zaA; omega
  split<;>(unfold zaA; omega)
theorem zuj:∀ (L:List Ht) (seen:List ByteArray),zaA (hsE seen L)
  |[],seen => by unfold hsE zaA; omega
  |x::r,seen => by
    rw [hsE]
    split
    · exact zFZ _ _
    · exact zuj r _
theorem zwE (L:List Ht):zaA (zk9 L):=by
  unfold zk9
  split
  · unfold zaA; omega
  · exact zuj _ _
theorem zxP {F:Fm} {n e:Int} {σ:DS} (h:zti F n e σ):zaA e:=by rcases h with ⟨h,_⟩|⟨h,_⟩<;>(unfold zaA; omega)
theorem zrQ {ok:Bool} {F:Fm} {n e:Int} {σ:DS} (h:zwa ok F n e σ):zaA e:=by
  rcases h with ⟨_,h,_⟩|⟨h,_⟩
  · exact zrP h
  · unfold zaA; omega
theorem zz4 {F:Fm} {n e:Int} {σ:DS} (h:zFk F n e σ):zaA e:=by
  rcases h with ⟨_,h,_⟩|⟨h,_⟩
  · exact zrP h
  · unfold zaA; omega
theorem zhS {R:Fm->Int->Int->DS->Prop} (hR:∀ F n e σ,R F n e σ->zaA e) {word:ByteArray} {σ:DS} {s:ByteArray} {c:Int} {σ':DS} (h:zqT R word σ s c σ'):zaA c:=by
  obtain ⟨n,c1,hn,⟨_,rfl,_⟩|⟨_,_,h⟩⟩:=h
  · exact zmA hn
  · unfold zJX at h
    split at h
    · unfold zaA; omega
    · exact hR _ _ _ _ h
theorem zwW {a b c0:ByteArray} {σ:DS} {c:Int} {s:ByteArray} {σ':DS} (h:zwV a b c0 σ c s σ'):zaA c:=by
  obtain ⟨nd,e,hr,⟨_,rfl,_⟩|⟨_,h⟩⟩:=h
  · exact zxA hr
  · split at h
    · unfold zaA; omega
    · split at h
      · unfold zaA; omega
      · rw [h.1]; exact zwE _
theorem zxt {σ:DS} {c:Int} {s:ByteArray} {σ':DS} (h:zxs σ c s σ'):zaA c:=by
  unfold zxs at h
  split at h<;>(unfold zaA; omega)
theorem zxw {σ:DS} {c:Int} {s:ByteArray} {σ':DS} (h:zxv σ c s σ'):zaA c:=by
  unfold zxv at h
  split at h
  · exact h.elim
  · unfold zaA; omega
theorem zxJ {word:ByteArray} {σ:DS} {c:Int} {s:ByteArray} {σ':DS} (h:zDR word σ c s σ'):zaA c:=by
  obtain ⟨_,n,c1,hn,⟨_,rfl⟩|⟨_,h⟩⟩:=h
  · exact zmA hn
  · split at h
    · unfold zaA; omega
    · rcases h with ⟨_,h,_⟩|⟨_,h⟩<;>(unfold zaA; omega)
theorem ztg {t:ByteArray} {σ:DS} {c:Int} {s:ByteArray} {σ':DS} (h:zja t σ c s σ'):zaA c:=by
  unfold zja at h
  split at h
  · exact h.elim
  · obtain ⟨e,j,hr,⟨h0,rfl,_⟩|⟨h0,hS,_⟩⟩:=h
    · unfold zaA
      obtain ⟨r1,r2,_⟩:=hr
      by_cases hz:3000<t.size
      · have:=r1 hz; omega
      · have:=r2 (by omega); omega
    · have hj:=ziO.2 (hr.2.2.1 h0).ok
      unfold zaA
      rcases hS with ⟨h1,_⟩|⟨_,⟨_,h⟩|⟨_,⟨_,h⟩|⟨_,⟨_,h⟩|⟨_,h⟩⟩⟩⟩<;>omega
theorem zwp {a b c d e f:Value} (h:Value.agg #[a,b,c]=.agg #[d,e,f]):c=f:=by
  have:=congrArg Value.cells h
  simp [Value.cells] at this
  exact this.2.2
theorem zmi (N Fr_:zEt) (line:ByteArray) (h11:zhv ((zap 32 line).getD 0 ⟨#[]⟩)=some 11->False) (h55:zhv ((zap 32 line).getD 0 ⟨#[]⟩)=some 55->False):zoA (zqh N Fr_) line:=by
  intro O B db K w1 pb wp b wc t2 x g hB hBw hcm hpb hpv hlen hcap hsh hw hszs
  generalize zap 32 line=ws at *
  have hb:b=3\/b=7\/b=11\/b=15\/b=22\/b=26\/b=33\/b=40\/b=47\/b=51\/b=55:=by
    unfold zhv at hcm
    obtain ⟨e,he,rfl⟩:=Option.map_eq_some_iff.1 hcm
    have:=List.mem_of_find?_eq_some he
    simp only [KL,List.mem_cons,List.not_mem_nil,or_false] at this
    rcases this with rfl|rfl|rfl|rfl|rfl|rfl|rfl|rfl|rfl|rfl|rfl<;>simp
  have hsz1:(ws.getD 1 ⟨#[]⟩).size<=281474976710656:=by
    by_cases h1:1<ws.length
    · have:=hszs _ (zaq ws ⟨#[]⟩ h1); omega
    · rw [List.getD_eq_getElem?_getD,List.getElem?_eq_none (by omega)]
      exact Nat.zero_le _
  have hszs':∀ y∈ws,y.size<=4294967281:=fun y hy=>by have:=hszs y hy; omega
  have opn:(sig b).2=true->∃ fb P F,K.farm=some (fb,P,F):=fun h=>by
    rcases K.cases with hK|h'
    · have:=hsh h; rw [Kt.st_shut hK] at this; cases this
    · exact h'
  have meth:∀ {F:FuncId} {Rr:ByteArray->Int->DS->Prop},(∃ f bd cap,(Value.agg #[.int .i64 (sig b).1,.bool (sig b).2,t2])=.agg #[.int .i64 (sig b).1,.bool (sig b).2,.func f bd cap]/\zbp ⟨db,0,none⟩ F (.func f bd cap)) ->
      FnP Tryz.prog F #[.pointer (ptr db),.slice (some wp) ws.length wc] w1 (CR O B db w1 K Rr)->(∀ s c σ,Rr s c σ->zqh N Fr_ b ws K.st c s σ/\InR .i64 c) ->
      zIh Tryz.prog t2 [.slice (some wp) ws.length wc] w1 (CR O B db w1 K fun s c σ'=>zqh N Fr_ b ws K.st c s σ'/\InR .i64 c):=fun {F Rr} h1 h2 h3=>by
    obtain ⟨f,bd,cap,e1,e2⟩:=h1
    have e3:=zwp e1
    unfold zbp at e2
    rw [<- e3] at e2
    exact ⟨F,_,_,e2,h2.mono fun v w' h=>h.mono h3⟩
  have clo:∀ {Rr:ByteArray->Int->DS->Prop},(∃ f' cap,t2=.func (.func f') #[] cap/\FnP Tryz.prog f' (#[.slice (some wp) ws.length wc]++cap) w1 (CR O B db w1 K Rr))->(∀ s c σ,Rr s c σ->zqh N Fr_ b ws K.st c s σ/\InR .i64 c) ->
      zIh Tryz.prog t2 [.slice (some wp) ws.length wc] w1 (CR O B db w1 K fun s c σ'=>zqh N Fr_ b ws K.st c s σ'/\InR .i64 c):=fun {Rr} h1 h3=>by
    obtain ⟨f',cap,e1,e2⟩:=h1
    exact ⟨f',#[],cap,e1,e2.mono fun v w' h=>h.mono h3⟩
  have cmd:∀ {n:Int} {fl:Bool} {R:Value->World->Prop},zd0 n fl R (.agg #[.int .i64 (sig b).1,.bool (sig b).2,t2]) w1->R t2 w1:=fun {n fl R} h=>by
    obtain ⟨f,bd,cap,e1,e2⟩:=h
    have e3:=zwp e1
    rw [e3]; exact e2
  have pbc:Go.Sx.cell w1 (some pb) 0=some (.pointer (ptr db)):=zgk hpb
  rcases hb with rfl|rfl|rfl|rfl|rfl|rfl|rfl|rfl|rfl|rfl|rfl
  · have e2:zbp ⟨db,0,none⟩ 208 t2:=cmd (show zd0 4 false (fun f _=>zbp ⟨db,0,none⟩ 208 f) _ w1 from hpv)
    exact ⟨208,_,_,e2,(host_c x g hBw (some wp) wc ws hlen hszs hw).mono fun v w' h=>h.mono fun s c σ q=>⟨q,(zwW q).inR⟩⟩
  · have e2:zbp ⟨db,0,none⟩ 209 t2:=cmd (show zd0 1 false (fun f _=>zbp ⟨db,0,none⟩ 209 f) _ w1 from hpv)
    exact ⟨209,_,_,e2,(open_c x hBw (some wp) ws.length wc).mono fun v w' h=>h.mono fun s c σ q=>⟨q,(zxt q).inR⟩⟩
  · exact (h11 hcm).elim
  · have e2:zbp ⟨db,0,none⟩ 211 t2:=cmd (show zd0 6 true (fun f _=>zbp ⟨db,0,none⟩ 211 f) _ w1 from hpv)
    obtain ⟨fb,P,F,hK⟩:=opn rfl
    have hl:ws.length=6:=hlen
    exact ⟨211,_,_,e2,(zG2 x hK g hB hBw (some wp) wc ws (by omega) hcap (by omega) hszs' hw).mono fun v w' h=>h.mono fun s c σ q=>⟨q,(ztg q).inR⟩⟩
  · have e2:=cmd (show zd0 2 false (zdf pb 212) _ w1 from hpv)
    have hl:ws.length=2:=hlen
    exact clo (zzu x e2 hpb g.gb zti (some wp) wc ws (by omega) hsz1 hw fun {w2 fb P F} n e hn hK=>tick_c (x.ext e) hK (zaI e pbc) n) fun s c σ q=>⟨q,(zhS (fun _ _ _ _=>zxP) q).inR⟩
  · have e2:zbp ⟨db,0,none⟩ 213 t2:=cmd (show zd0 1 true (fun f _=>zbp ⟨db,0,none⟩ 213 f) _ w1 from hpv)
    obtain ⟨fb,P,F,hK⟩:=opn rfl
    exact ⟨213,_,_,e2,(plan_c x hK g hB (some wp) ws.length wc).mono fun v w' h=>h.mono fun s c σ q=>⟨q,(zxw q).inR⟩⟩
  · have e2:=cmd (show zd0 2 false (zdf pb 214) _ w1 from hpv)
    have hl:ws.length=2:=hlen
    exact clo (zzu x e2 hpb g.gb (zwa true) (some wp) wc ws (by omega) hsz1 hw fun {w2 fb P F} n e hn hK=>zHF (x.ext e) hK (zaI e pbc) n hn true (.inl ⟨rfl,rfl⟩)) fun s c σ q=>⟨q,(zhS (fun _ _ _ _=>zrQ) q).inR⟩
  · have e2:=cmd (show zd0 2 false (zdf pb 216) _ w1 from hpv)
    have hl:ws.length=2:=hlen
    exact clo (zzu x e2 hpb g.gb (zwa false) (some wp) wc ws (by omega) hsz1 hw fun {w2 fb P F} n e hn hK=>zHF (x.ext e) hK (zaI e pbc) n hn false (.inr ⟨rfl,rfl⟩)) fun s c σ q=>⟨q,(zhS (fun _ _ _ _=>zrQ) q).inR⟩
  · have e2:=cmd (show zd0 2 false (zdf pb 217) _ w1 from hpv)
    have hl:ws.length=2:=hlen
    exact clo (zzu x e2 hpb g.gb zFk (some wp) wc ws (by omega) hsz1 hw fun {w2 fb P F} n e hn hK=>zFo (x.ext e) hK (zaI e pbc) n hn) fun s c σ q=>⟨q,(zhS (fun _ _ _ _=>zz4) q).inR⟩
  · have e2:=cmd (show zd0 2 false (znq pb) _ w1 from hpv)
    have hl:ws.length=2:=hlen
    exact clo (show_c x e2 hpb g (some wp) wc ws (by omega) hsz1 hw) fun s c σ q=>⟨q,(zxJ q).inR⟩
  · exact (h55 hcm).elim
theorem zjy (c:UInt8) (a:List UInt8) (l:List (List UInt8)) (h:∀ y∈a::l,c∉y):zap c (ofL (Lib.join (a::l) [c]))=(a::l).map ofL:=by
  obtain ⟨h1,h2⟩:=zdv (c:=c) l a h
  unfold zap
  rw [h1,h2]
theorem zlq {s:ByteArray} {n m c e:Int} (h:zGp s n c) (g:zGp s m e):n=m/\c=e:=by
  rcases h with ⟨h1,h2,h3,h4,h5⟩|⟨h1,h2,h3⟩<;>rcases g with ⟨g1,g2,g3,g4,g5⟩|⟨g1,g2,g3⟩
  · exact ⟨zCJ ⟨h2,h3⟩ ⟨g2,g3⟩ (zmB (h4.symm.trans g4)),by omega⟩
  · exact absurd h5 (g3 n h2 h3 h4)
  · exact absurd g5 (h3 m g2 g3 g4)
  · exact ⟨by omega,by omega⟩
theorem itoa0:Lib.itoa 0=[48]:=by rw [zdP (by omega)]; rw [Lib.decDigits]; rfl
theorem zCH:Lib.itoa 1=[49]:=by rw [zdP (by omega)]; rw [Lib.decDigits]; rfl
theorem itoa2:Lib.itoa 2=[50]:=by rw [zdP (by omega)]; rw [Lib.decDigits]; rfl
theorem numR1:zGp ⟨#[49]⟩ 1 0:=.inl ⟨rfl,by omega,by omega,by rw [zCH]; rfl,by show (1:Nat)<=18; omega⟩
theorem zph:zap 32 ⟨#[111,112,101,110]⟩=[⟨#[111,112,101,110]⟩]:=zjy 32 [111,112,101,110] [] (by decide)
theorem zsa:zhv ⟨#[111,112,101,110]⟩=some 7:=by kernel_rfl
theorem zyF {N Fr_:zEt} {L:List Ht} {a:ByteArray} {σ':DS} (h:doD (zqh N Fr_) ⟨#[111,112,101,110]⟩ (.shut L) a σ'):a=⟨#[111,107]⟩/\σ'=.opn (zkS L zA4):=by
  obtain ⟨c,s,h,rfl⟩:=h
  rw [zph] at h
  unfold doW at h
  have e:([(⟨#[111,112,101,110]⟩:ByteArray)]).getD 0 ⟨#[]⟩=⟨#[111,112,101,110]⟩:=rfl
  rw [e,zsa] at h
  have h':zxs (.shut L) c s σ':=h
  obtain ⟨rfl,rfl,h3⟩:=h'
  exact ⟨rfl,h3⟩
theorem zrp (N Fr_:zEt):zoA (zqh N Fr_) ⟨#[111,112,101,110]⟩:=zmi N Fr_ _ (by rw [zph]; intro h; exact absurd (zsa.symm.trans h) (by decide)) (by rw [zph]; intro h; exact absurd (zsa.symm.trans h) (by decide))
theorem ztY {N Fr_:zEt} {line:ByteArray} {ws:List ByteArray} {σ:DS} {a:ByteArray} {σ':DS} {b:Nat} (hp:zap 32 line=ws) (hc:zhv (ws.getD 0 ⟨#[]⟩)=some b) (hl:ws.length=(sig b).1) (hf:(sig b).2=true->σ.isShut=false) (h:doD (zqh N Fr_) line σ a σ') :
    ∃ c s,zqh N Fr_ b ws σ c s σ'/\a=zzZ c s:=by
  obtain ⟨c,s,h,rfl⟩:=h
  rw [hp] at h
  unfold doW at h
  rw [hc] at h
  simp only [] at h
  rw [if_neg (by omega),if_neg (fun q=>by rw [hf q.1] at q; exact absurd q.2 (by decide))] at h
  exact ⟨c,s,h,rfl⟩
theorem zk2 {N Fr_:zEt} {line:ByteArray} {ws:List ByteArray} {b:Nat} (hp:zap 32 line=ws) (hc:zhv (ws.getD 0 ⟨#[]⟩)=some b) (h1:b≠11) (h2:b≠55):zoA (zqh N Fr_) line :=
  zmi N Fr_ _ (by rw [hp,hc]; intro h; injection h with h; exact h1 h) (by rw [hp,hc]; intro h; injection h with h; exact h2 h)
def nd1:Nd:=⟨1,0,0⟩
def nd2:Nd:=⟨2,0,0⟩
def bA:ByteArray:=⟨#[97]⟩
def hostA:Ht:=zok bA [] nd2
def jobA:Jb:=⟨⟨#[97,110,110]⟩,0,nd1,.mk 3 zA3 ⟨#[]⟩ 1 [],[]⟩
def zFP:Fm:=zkS [hostA] zA4
def zqt:Fm:=zpV zFP jobA
def zwH:Fm:=zfI zqt 0 0
def zt6:Fm:=zg0 zwH 0 true
theorem text2:zbo nd2=[99,112,117,61,50]:=by
  have h:pcs nd2 3=[[99,112,117,61,50]]:=by
    show [zgu nd2 0]=_
    unfold zgu
    show [_++61::Lib.itoa 2]=_
    rw [itoa2]; rfl
  unfold zbo
  rw [if_neg (by rw [h]; simp),h]; rfl
theorem text1:zbo nd1=[99,112,117,61,49]:=by
  have h:pcs nd1 3=[[99,112,117,61,49]]:=by
    show [zgu nd1 0]=_
    unfold zgu
    show [_++61::Lib.itoa 1]=_
    rw [zCH]; rfl
  unfold zbo
  rw [if_neg (by rw [h]; simp),h]; rfl
theorem okn1:okN nd1:=by unfold okN nd1; decide
theorem okn2:okN nd2:=by unfold okN nd2; decide
def wHost:List ByteArray:=[⟨#[104,111,115,116]⟩,⟨#[97]⟩,⟨#[99,112,117,61,50]⟩,⟨#[45]⟩]
theorem zuy:zap 32 ⟨#[104,111,115,116,32,97,32,99,112,117,61,50,32,45]⟩=wHost:=zjy 32 [104,111,115,116] [[97],[99,112,117,61,50],[45]] (by decide)
theorem zyz:zhv (wHost.getD 0 ⟨#[]⟩)=some 3:=by kernel_rfl
def zKZ:List ByteArray:=[⟨#[115,117,98,109,105,116]⟩,⟨#[97,110,110]⟩,⟨#[48]⟩,⟨#[99,112,117,61,49]⟩,⟨#[45]⟩,⟨#[99,112,117,62,61,49]⟩]
theorem zy8:zap 32 ⟨#[115,117,98,109,105,116,32,97,110,110,32,48,32,99,112,117,61,49,32,45,32,99,112,117,62,61,49]⟩=zKZ:=zjy 32 [115,117,98,109,105,116] [[97,110,110],[48],[99,112,117,61,49],[45],[99,112,117,62,61,49]] (by decide)
theorem zB0:zhv (zKZ.getD 0 ⟨#[]⟩)=some 15:=by kernel_rfl
def wPlan:List ByteArray:=[⟨#[112,108,97,110]⟩]
theorem zuz:zap 32 ⟨#[112,108,97,110]⟩=wPlan:=zjy 32 [112,108,97,110] [] (by decide)
theorem zyA:zhv (wPlan.getD 0 ⟨#[]⟩)=some 26:=by kernel_rfl
def wGood:List ByteArray:=[⟨#[103,111,111,100]⟩,⟨#[49]⟩]
theorem zux:zap 32 ⟨#[103,111,111,100,32,49]⟩=wGood:=zjy 32 [103,111,111,100] [[49]] (by decide)
theorem zyy:zhv (wGood.getD 0 ⟨#[]⟩)=some 33:=by kernel_rfl
def wShow:List ByteArray:=[⟨#[115,104,111,119]⟩,⟨#[49]⟩]
theorem zuA:zap 32 ⟨#[115,104,111,119,32,49]⟩=wShow:=zjy 32 [115,104,111,119] [[49]] (by decide)
theorem zyB:zhv (wShow.getD 0 ⟨#[]⟩)=some 51:=by kernel_rfl
section
variable {N Fr_:zEt} {a:ByteArray} {σ':DS}
theorem zI9 (h:doD (zqh N Fr_) ⟨#[104,111,115,116,32,97,32,99,112,117,61,50,32,45]⟩ (.shut []) a σ'):a=⟨#[111,107]⟩/\σ'=.shut [hostA]:=by
  obtain ⟨c,s,hq,rfl⟩:=ztY zuy zyz rfl (fun h=>by cases h) h
  have h':zwV ⟨#[97]⟩ ⟨#[99,112,117,61,50]⟩ ⟨#[45]⟩ (.shut []) c s σ':=hq
  obtain ⟨nd,e,hr,h'⟩:=h'
  obtain ⟨q1,q2⟩:=(hr.2.2.1 nd2 okn2.pos (by rw [text2]; rfl)).1 okn2
  subst q1; subst q2
  rcases h' with ⟨h,_⟩|⟨_,h'⟩
  · exact absurd rfl h
  have hl:zEL ⟨#[45]⟩=some []:=by unfold zEL; rw [if_pos rfl]
  rw [hl] at h'
  have h2:c=zk9 ([]++[zok ⟨#[97]⟩ [] nd2])/\((c≠0/\σ'=.shut [])\/(c=0/\s=⟨#[111,107]⟩/\σ'=.shut ([]++[zok ⟨#[97]⟩ [] nd2]))):=h'
  have hz:zk9 ([]++[zok ⟨#[97]⟩ [] nd2])=0:=by kernel_rfl
  obtain ⟨hc,h3⟩:=h2
  rw [hz] at hc
  rcases h3 with ⟨h,_⟩|⟨_,h4,h5⟩
  · exact absurd hc h
  · rw [hc,h4]; exact ⟨rfl,h5⟩
theorem zyr:txt (.mk 3 zA3 ⟨#[]⟩ 1 [])=[99,112,117,62,61,49]:=by
  unfold txt
  simp [zCH,zA3]
theorem zCL:okJ jobA:=⟨by kernel_rfl,by show -1000<=(0:Int)/\(0:Int)<=1000; omega,okn1,by kernel_rfl,by show (0:Nat)<=8; omega,by show upA 0 []; trivial⟩
theorem zCM:ofL (jtx jobA)=znZ zKZ 1:=by
  unfold jtx jps
  show ofL (Lib.join [[97,110,110],Lib.itoa 0,zbo nd1,[45],txt (.mk 3 zA3 ⟨#[]⟩ 1 [])] [32])=_
  rw [itoa0,text1,zyr]; rfl
theorem do_sub (h:doD (zqh N Fr_) ⟨#[115,117,98,109,105,116,32,97,110,110,32,48,32,99,112,117,61,49,32,45,32,99,112,117,62,61,49]⟩ (.opn zFP) a σ'):a=⟨#[49]⟩/\σ'=.opn zqt:=by
  obtain ⟨c,s,hq,rfl⟩:=ztY zy8 zB0 rfl (fun h=>rfl) h
  have h':zja (znZ zKZ 1) (.opn zFP) c s σ':=hq
  obtain ⟨e,j,hr,h'⟩:=h'
  have hJ:JT (znZ zKZ 1) jobA:=⟨zCL,by show nod (.mk 3 zA3 ⟨#[]⟩ 1 [])<=_; unfold nod zmz; omega,zCM.symm,by show (txt (.mk 3 zA3 ⟨#[]⟩ 1 [])).length<=_; rw [zyr]; decide⟩
  have hsz:(znZ zKZ 1).size<=3000:=by show (20:Nat)<=3000; omega
  obtain ⟨rfl,rfl⟩:=hr.2.2.2 jobA hJ hsz
  rcases h' with ⟨h,_⟩|⟨_,hS,h'⟩
  · exact absurd rfl h
  have hc:c=0:=by
    rcases hS with ⟨h,_⟩|⟨_,⟨h,_⟩|⟨_,⟨⟨y,hy,_⟩,_⟩|⟨_,⟨⟨y,hy,_⟩,_⟩|⟨_,h⟩⟩⟩⟩
    · exact absurd (ziO.2 zCL) h
    · exact absurd h (by decide)
    · cases hy
    · cases hy
    · exact h
  rcases h' with ⟨h,_⟩|⟨_,h4,h5⟩
  · exact absurd hc h
  · have:(((zFP.jobs.length:Nat):Int)+1)=1:=rfl
    rw [hc,h4,this,zCH]; exact ⟨rfl,h5⟩
theorem plan1:zda zqt zwH [(1,0)]:=by
  have hr:rdy zqt=[1]:=by kernel_rfl
  refine ⟨[1],⟨by rw [hr],by simp⟩,?_⟩
  refine zqf.run (k:=0) ?_ (zqf.nil _)
  have hf:zbY zqt.hosts (zad zqt ((1:Int)-1).toNat).job.ask (zad zqt ((1:Int)-1).toNat).job.nd zqt.hosts.length=[0]:=by kernel_rfl
  unfold zfS
  rw [hf]
  refine ⟨by simp,fun j hj=>?_⟩
  simp at hj; subst hj
  exact ⟨of_decide_eq_true (by kernel_rfl),fun h=>by omega⟩
theorem zJa (h:doD (zqh N Fr_) ⟨#[112,108,97,110]⟩ (.opn zqt) a σ'):a=⟨#[49,64,97]⟩/\σ'=.opn zwH:=by
  obtain ⟨c,s,hq,rfl⟩:=ztY zuz zyA rfl (fun h=>rfl) h
  have h':zxv (.opn zqt) c s σ':=hq
  obtain ⟨rfl,G,outs,hp,rfl,rfl⟩:=h'
  obtain ⟨rfl,rfl⟩:=zkA hp plan1
  refine ⟨?_,rfl⟩
  unfold zzZ zDZ zih
  rw [if_pos rfl]
  show ofL (Lib.join [Lib.itoa 1++64::[97]] [32])=_
  rw [zCH]; rfl
theorem zI8 (h:doD (zqh N Fr_) ⟨#[103,111,111,100,32,49]⟩ (.opn zwH) a σ'):a=⟨#[111,107]⟩/\σ'=.opn zt6:=by
  obtain ⟨c,s,hq,rfl⟩:=ztY zux zyy rfl (fun h=>by cases h) h
  have h':zqT (zwa true) ⟨#[49]⟩ (.opn zwH) s c σ':=hq
  obtain ⟨n,c1,hn,h'⟩:=h'
  obtain ⟨rfl,rfl⟩:=zlq hn numR1
  rcases h' with ⟨h,_⟩|⟨_,rfl,h'⟩
  · exact absurd rfl h
  have h2:zwa true zwH 1 c σ':=h'
  have hcr:zBT zwH 1:=⟨⟨by omega,by show (1:Int)<=((1:Nat):Int); omega⟩,by kernel_rfl⟩
  rcases h2 with ⟨_,_,h,_⟩|⟨h3,_,h4⟩
  · exact absurd hcr h
  · rw [h3]; exact ⟨rfl,h4⟩
theorem zJb (h:doD (zqh N Fr_) ⟨#[115,104,111,119,32,49]⟩ (.opn zt6) a σ'):a=⟨#[100,111,110,101]⟩:=by
  obtain ⟨c,s,hq,rfl⟩:=ztY zuA zyB rfl (fun h=>by cases h) h
  have h':zDR ⟨#[49]⟩ (.opn zt6) c s σ':=hq
  obtain ⟨_,n,c1,hn,h'⟩:=h'
  obtain ⟨rfl,rfl⟩:=zlq hn numR1
  rcases h' with ⟨h,_⟩|⟨_,h'⟩
  · exact absurd rfl h
  have h2:(inJ zt6 1/\c=0/\s=zvF.getD (zad zt6 ((1:Int)-1).toNat).what.toNat ⟨#[]⟩)\/(¬ inJ zt6 1/\c=5):=h'
  have hin:inJ zt6 1:=⟨by omega,of_decide_eq_true (by kernel_rfl)⟩
  rcases h2 with ⟨_,h3,h4⟩|⟨h,_⟩
  · have hw:(zad zt6 ((1:Int)-1).toNat).what=3:=by kernel_rfl
    rw [h3,h4,hw]; rfl
  · exact absurd hin h
end
theorem zc3.inv {R:zEu} {ls:List ByteArray} {l:ByteArray} {σ σ':DS} {us:List ByteArray} (h:zc3 R (ls++[l]) σ us σ'):∃ us' σ1 a,us=us'++[a]/\zc3 R ls σ us' σ1/\doD R l σ1 a σ':=by
  generalize hX:ls++[l]=X at h
  cases h with
  |nil => simp at hX
  |@snoc ls' l' _ σ1 _ us' a hp hd =>
    obtain ⟨rfl,h2⟩:=List.append_inj' hX rfl
    injection h2 with h2
    subst h2
    exact ⟨us',σ1,a,rfl,hp,hd⟩
theorem zc3.inv0 {R:zEu} {σ σ':DS} {us:List ByteArray} (h:zc3 R [] σ us σ'):us=[]/\σ'=σ:=by
  generalize hX:([]:List ByteArray)=X at h
  cases h with
  |nil => exact ⟨rfl,rfl⟩
  |snoc => simp at hX
theorem zyc (p q:Option Addr) (c d:Nat) (A B:List ByteArray) (h63:(A.length:Int)<=9223372036854775806) (w:World) (hA:zau w p (A.map Value.string)) (hB:zau w q (B.map Value.string)) :
    FnP Tryz.prog zax #[.slice p A.length c,.slice q B.length d] w fun v w'=>Ext w w'/\v=.bool (decide (A=B)):=by
  refine zeT p A.length c q B.length d w _ ⟨fun hne w0 h0=>⟨h0,?_⟩,fun heq=>?_⟩
  · rw [decide_eq_false]
    intro h; exact hne (by rw [h])
  refine ⟨fun k w'=>w'=w/\0<=k/\k<=A.length/\A.take k.toNat=B.take k.toNat,fun k _=>(A.length-k).toNat,⟨rfl,by omega,by omega,by simp⟩,?_⟩
  rintro k w2 ⟨rfl,hk0,hk1,ht⟩
  refine ⟨fun hlt=>?_,fun hge w3 h3=>⟨h3,?_⟩⟩
  · obtain ⟨x,hx⟩:∃ x,A[k.toNat]?=some x:=⟨_,List.getElem?_eq_getElem (by omega)⟩
    obtain ⟨y,hy⟩:∃ y,B[k.toNat]?=some y:=⟨_,List.getElem?_eq_getElem (by omega)⟩
    have c1:Go.Sx.cell w2 (pIdx p k 1) 0=some (.string x):=by
      rw [zae]; exact hA _ _ (by simp [hx])
    have c2:Go.Sx.cell w2 (pIdx q k 1) 0=some (.string y):=by
      rw [zae]; exact hB _ _ (by simp [hy])
    refine ⟨fun h=>zak c1 (zah.2 h),hk0,hlt,x,c1,fun h=>zak c2 (zah.2 h),hk0,by omega,y,c2,fun hne w5 h5=>⟨h5,?_⟩,fun he=>⟨i64 (by omega),⟨rfl,by omega,by omega,?_⟩,by simp only []; omega⟩⟩
    · rw [decide_eq_false]
      intro h; rw [h,hy] at hx; injection hx with hx; exact hne hx.symm
    · rw [show (k+1).toNat=k.toNat+1 by omega,List.take_add_one,List.take_add_one,ht,hx,hy,he]
  · rw [decide_eq_true]
    rw [List.take_of_length_le (by omega),List.take_of_length_le (by omega)] at ht
    exact ht
def zfG:List ByteArray:=[⟨#[104,111,115,116,32,97,32,99,112,117,61,50,32,45]⟩,⟨#[111,112,101,110]⟩,⟨#[115,117,98,109,105,116,32,97,110,110,32,48,32,99,112,117,61,49,32,45,32,99,112,117,62,61,49]⟩,⟨#[112,108,97,110]⟩,⟨#[103,111,111,100,32,49]⟩,⟨#[115,104,111,119,32,49]⟩]
def zKY:List ByteArray:=[⟨#[111,107]⟩,⟨#[111,107]⟩,⟨#[49]⟩,⟨#[49,64,97]⟩,⟨#[111,107]⟩,⟨#[100,111,110,101]⟩]
theorem wPlays {N Fr_:zEt} {us:List ByteArray} {σ:DS} (h:zc3 (zqh N Fr_) zfG (.shut []) us σ):us=zKY:=by
  obtain ⟨u5,σ5,a6,rfl,h,d6⟩:=zc3.inv (ls:=zfG.take 5) h
  obtain ⟨u4,σ4,a5,rfl,h,d5⟩:=zc3.inv (ls:=zfG.take 4) h
  obtain ⟨u3,σ3,a4,rfl,h,d4⟩:=zc3.inv (ls:=zfG.take 3) h
  obtain ⟨u2,σ2,a3,rfl,h,d3⟩:=zc3.inv (ls:=zfG.take 2) h
  obtain ⟨u1,σ1,a2,rfl,h,d2⟩:=zc3.inv (ls:=zfG.take 1) h
  obtain ⟨u0,σ0,a1,rfl,h,d1⟩:=zc3.inv (ls:=[]) h
  obtain ⟨rfl,rfl⟩:=h.inv0
  obtain ⟨rfl,rfl⟩:=zI9 d1
  obtain ⟨rfl,rfl⟩:=zyF d2
  obtain ⟨rfl,rfl⟩:=do_sub d3
  obtain ⟨rfl,rfl⟩:=zJa d4
  obtain ⟨rfl,rfl⟩:=zI8 d5
  obtain rfl:=zJb d6
  rfl
theorem wCalls (N Fr_:zEt):∀ x∈zfG,zoA (zqh N Fr_) x:=by
  intro x hx
  simp only [zfG,List.mem_cons,List.not_mem_nil,or_false] at hx
  rcases hx with rfl|rfl|rfl|rfl|rfl|rfl
  · exact zk2 zuy zyz (by decide) (by decide)
  · exact zrp N Fr_
  · exact zk2 zy8 zB0 (by decide) (by decide)
  · exact zk2 zuz zyA (by decide) (by decide)
  · exact zk2 zux zyy (by decide) (by decide)
  · exact zk2 zuA zyB (by decide) (by decide)
theorem zEn (w:World) (g:GD w) (h6:11<=w.heap.size):FnP Tryz.prog zar #[] w fun v w'=>Ext w w'/\v=.bool true:=by
  refine zi1 w _ fun w0 x0=>zcC zbW (zfG.map Value.string) rfl rfl (fun u hu=>by obtain ⟨x,_,rfl⟩:=List.mem_map.1 hu; rfl) (by omega) (by omega) fun w1 o1 e1=>⟨e1,_,_,_,rfl,fun w5 x5=>?_⟩
  have c1:=((o1 w0.heap.size (Nat.le_refl _)).ext x5).cells
  have hfl:((zfG.map Value.string).flatMap fun v=>v.cells.toList)=zfG.map Value.string:=rfl
  rw [hfl] at c1
  have hx:=(x0.trans e1).trans x5
  have hl:zfG.length=6:=rfl
  refine (zBk (zqh (fun _ _ _ _ _=>False) (fun _ _ _ _ _=>False)) zfG _ 6 w5 (g.ext hx) (Nat.le_trans h6 hx.size) c1 (by rw [hl]; omega) (fun x hx=>?_) (wCalls _ _)).mono fun v w6 ⟨e6,hor⟩=>?_
  · simp only [zfG,List.mem_cons,List.not_mem_nil,or_false] at hx
    rcases hx with rfl|rfl|rfl|rfl|rfl|rfl<;>decide
  rcases hor with ⟨h,_⟩|⟨_,us,σ,q,d,hv,hp,oU⟩
  · exact absurd h (by decide)
  obtain rfl:=wPlays hp
  refine ⟨q,zfG.length,d,0,hv,fun _ w11 x11=>zcC zbW (zKY.map Value.string) rfl rfl (fun u hu=>by obtain ⟨x,_,rfl⟩:=List.mem_map.1 hu; rfl) (by omega) (by omega) fun w12 o12 e12=>⟨e12,_,_,_,rfl,fun w16 x16=>?_⟩,fun h=>absurd rfl h⟩
  have c12:=((o12 w11.heap.size (Nat.le_refl _)).ext x16).cells
  have hfl2:((zKY.map Value.string).flatMap fun v=>v.cells.toList)=zKY.map Value.string:=rfl
  rw [hfl2] at c12
  refine (zyc q _ d 6 zKY zKY (by show ((6:Nat):Int)<=_; omega) w16 (((oU.ext x11).ext e12).ext x16).cells c12).mono fun v w17 ⟨e17,hv⟩=>⟨e17,_,hv,fun w19 x19=>⟨?_,by simp⟩⟩
  exact ((((hx.trans e6).trans x11).trans e12).trans x19)
def zwr (h:Ht):Ht:=zfO h za6
theorem zBK (h:Ht) (s:Nd):zwr (zfO h s)=zwr h:=rfl
theorem ztP {h:Ht} (hu:h.used=za6):zwr h=h:=by unfold zwr zfO; rw [<- hu]
def onL (L:List Ht) (F:Fm):Prop:=F.hosts.map zwr=L
theorem zzw (L:List Ht) (i:Nat) (s:Nd):(L.set i (zfO (L.getD i default) s)).map zwr=L.map zwr:=by
  rw [List.map_set,zBK]
  refine List.ext_getElem? fun j=>?_
  rw [List.getElem?_set]
  by_cases hj:i=j
  · subst hj
    by_cases hi:i<L.length
    · simp [hi,List.getD_eq_getElem?_getD]
    · simp [hi]
  · simp [hj]
theorem zDg {L:List Ht} {F:Fm} (h:onL L F) (k0:Nat) (k:Int):onL L (zfI F k0 k):=by
  unfold onL at *
  rw [zlH]
  unfold zkF zpa
  rw [<- h]
  exact zzw F.hosts k.toNat _
theorem zpD {L:List Ht} {F:Fm} (h:onL L F) (k:Nat):onL L (zdw F k):=by
  unfold onL at *
  unfold zdw
  rw [zjA,zjA]
  unfold zkm
  rw [<- h]
  exact zzw F.hosts _ _
theorem zDf {L:List Ht} {F:Fm} (h:onL L F) (k:Nat) (ok:Bool):onL L (zg0 F k ok):=by
  unfold zg0
  split
  · exact zpD h k
  · split
    · exact zpD h k
    · have:=(zmw (stF (zcN F k) k 11 4)).2.1
      unfold onL
      rw [this]
      exact zpD h k
def idle (F:Fm):Prop:=∀ k,k<F.jobs.length->(zad F k).what≠2
theorem zzM {F:Fm} (h:idle F) (i:Int) (p:Nat):∀ {n:Nat},n<=F.jobs.length->use F i p n=0
  |0,_ => rfl
  |n+1,hn => by
    unfold use
    rw [zzM h i p (by omega)]
    unfold zel
    rw [if_neg (fun g=>h n (by omega) g.1)]
    rfl
theorem zCE {F:Fm} (I:Inv F) (h:idle F):∀ x∈F.hosts,x.used=za6:=fun x hx=>by
  obtain ⟨i,hi,rfl⟩:=List.getElem_of_mem hx
  refine zGl fun p hp=>?_
  have:=I.i0.use i hi p hp
  rw [zzM h i p (Nat.le_refl _),show F.hosts.getD i default=F.hosts[i] by simp [List.getD_eq_getElem?_getD,hi]] at this
  rw [this]
  unfold zcd za6
  split<;>rfl
theorem zrx {L:List Ht} {F:Fm} (I:Inv F) (h:idle F) (hL:onL L F):F.hosts=L:=by
  unfold onL at hL
  rw [<- hL]
  refine (List.map_id _).symm.trans (List.map_congr_left fun x hx=>?_)
  exact (ztP (zCE I h x hx)).symm
def fitL (L:List Ht) (s:St):Prop:=zbY L s.job.ask s.job.nd L.length≠[]
structure DF (L:List Ht) (F:Fm):Prop where
  inv:Inv F
  on_:onL L F
  wh:∀ k,k<F.jobs.length->(zad F k).what=1/\(zad F k).again=0\/(zad F k).what=2\/(zad F k).what=3
  fit:∀ k,k<F.jobs.length->fitL L (zad F k)
theorem zHy {L:List Ht} {pol:Pol} (h:zuO L pol):DF L (zkS L pol):=by
  refine ⟨zC6 h,?_,fun k hk=>(by simp [zkS] at hk),fun k hk=>(by simp [zkS] at hk)⟩
  unfold onL zkS
  refine (List.map_congr_left fun x hx=>?_).trans (List.map_id _)
  exact ztP (h.2.1 x hx)
theorem df_sub {L:List Ht} {F:Fm} (D:DF L F) {j:Jb} (h:zuP F j) (hf:zbY L j.ask j.nd L.length≠[]):DF L (zpV F j):=by
  refine ⟨ztf D.inv h,D.on_,fun k hk=>?_,fun k hk=>?_⟩<;>rw [zpW] at hk<;>rw [zrX]
  · by_cases hk':k<F.jobs.length
    · rw [if_pos hk']; exact D.wh k hk'
    · rw [if_neg hk',if_pos (by omega)]; exact .inl ⟨rfl,rfl⟩
  · by_cases hk':k<F.jobs.length
    · rw [if_pos hk']; exact D.fit k hk'
    · rw [if_neg hk',if_pos (by omega)]; exact hf
theorem df_run {L:List Ht} {F:Fm} (D:DF L F) {k0:Nat} (hk:k0<F.jobs.length) (hr:zdy F (zad F k0)=true) {k:Int} (hb:zfS F.hosts (zad F k0).job.ask (zad F k0).job.nd k):DF L (zfI F k0 k):=by
  refine ⟨zxG D.inv hk hr hb,zDg D.on_ k0 k,fun i hi=>?_,fun i hi=>?_⟩<;>rw [zi6] at hi<;>rw [zvq hk]
  · split
    · exact .inr (.inl rfl)
    · exact D.wh i hi
  · split
    · exact D.fit k0 hk
    · exact D.fit i hi
theorem zDD {F:Fm} {k:Nat} (hk:k<F.jobs.length) (i:Nat):zad (zg0 F k true) i=if i=k then { zad F k with host:=0,since:=0,what:=3 } else zad F i:=by
  unfold zg0
  rw [if_pos rfl,zjM _ _ (by rw [zb7]; exact hk),zjv hk,zjv hk,if_pos rfl]
  split
  · rfl
  · rfl
theorem zDE (F:Fm) (k:Nat):(zg0 F k true).jobs.length=F.jobs.length:=by
  unfold zg0; rw [if_pos rfl,zbI,zb7]
theorem df_rep {L:List Ht} {F:Fm} (D:DF L F) {k:Nat} (hk:k<F.jobs.length) (hw:(zad F k).what=2):DF L (zg0 F k true):=by
  refine ⟨zs8 D.inv hk hw true,zDf D.on_ k true,fun i hi=>?_,fun i hi=>?_⟩<;>rw [zDE] at hi<;>rw [zDD hk]
  · split
    · exact .inr (.inr rfl)
    · exact D.wh i hi
  · split
    · exact D.fit k hk
    · exact D.fit i hi
def znF (F G:Fm):Prop:=G.jobs.length=F.jobs.length/\G.now=F.now/\∀ k,k<F.jobs.length->((zad F k).what≠1->zad G k=zad F k)
theorem zI2 {L:List Ht} {F G:Fm} {o:List (Int×Int)} (h:zda F G o) (D:DF L F):DF L G :=
  zlF (fun F id k hin hr hb D=>df_run D (ziS hin) hr hb) h D
theorem zrT {F:Fm} {k0:Nat} (hk:k0<F.jobs.length) (hr:(zad F k0).what=1) (k:Int):znF F (zfI F k0 k):=by
  refine ⟨zi6 F k0 k,rfl,fun i hi hw=>?_⟩
  rw [zvq hk,if_neg (fun h=>hw (by rw [h]; exact hr))]
theorem zva {F G H:Fm} (h:znF F G) (g:znF G H):znF F H :=
  ⟨g.1.trans h.1,g.2.1.trans h.2.1,fun k hk hw=>by
    have e:=h.2.2 k hk hw
    rw [<- e]
    exact g.2.2 k (by rw [h.1]; exact hk) (by rw [e]; exact hw)⟩
theorem zxx {F G:Fm} {o:List (Int×Int)} (h:zda F G o):znF F G :=
  zlF (Mot:=fun G=>znF F G) (fun F' id k hin hr hb m=>zva m (zrT (ziS hin) (zdT.1 hr).1 k)) h ⟨rfl,rfl,fun _ _ _=>rfl⟩
theorem zxz {F G:Fm} {ids:List Int} {o:List (Int×Int)} (h:zqf F ids G o) (hn:ids.Nodup) (hr:∀ id∈ids,inJ F id/\zdy F (zad F (id-1).toNat)=true):znF F G :=
  h.ind (Mot:=fun G=>znF F G) (fun F' id k hin hr hb m=>zva m (zrT (ziS hin) (zdT.1 hr).1 k)) hn hr ⟨rfl,rfl,fun _ _ _=>rfl⟩
theorem zAA {L:List Ht} {F G:Fm} {o:List (Int×Int)} (D:DF L F) (hi:idle F) (h:zda F G o) {k0:Nat} (hk0:k0<F.jobs.length) (hw0:(zad F k0).what≠3) (hnow:0<=F.now) :
    ∃ k,k<F.jobs.length/\(zad F k).what=1/\(zad G k).what=2:=by
  obtain ⟨m,hm,hmw,hmin⟩:∃ m,m<F.jobs.length/\(zad F m).what=1/\∀ j,j<m->(zad F j).what≠1:=by
    have hex:∃ n,n<F.jobs.length/\(zad F n).what=1:=⟨k0,hk0,by have:=D.wh k0 hk0; have:=hi k0 hk0; omega⟩
    obtain ⟨n,hn⟩:=hex
    induction n using Nat.strongRecOn with
    |_ n ih =>
      by_cases he:∃ j,j<n/\(zad F j).what=1
      · obtain ⟨j,hj,hjw⟩:=he
        exact ih j hj ⟨by omega,hjw⟩
      · exact ⟨n,hn.1,hn.2,fun j hj hjw=>he ⟨j,hj,hjw⟩⟩
  have hrd:zdy F (zad F m)=true:=by
    refine zdT.2 ⟨hmw,?_,fun y hy=>?_⟩
    · have:=D.wh m hm; omega
    · have hle:=D.inv.i0.aft m hm y hy
      have hlt:(y-1).toNat<m:=by omega
      have h1:=D.wh (y-1).toNat (by omega)
      have h2:=hi (y-1).toNat (by omega)
      have h3:=hmin (y-1).toNat hlt
      rw [zbN]
      omega
  obtain ⟨T,hT,hP⟩:=h
  have hmT:(m:Int)+1∈T:=hT.1.mem_iff.2 (zfv.2 ⟨by omega,by omega,by rw [show ((m:Int)+1-1).toNat=m by omega]; exact hrd⟩)
  have hTr:=zpG hT
  have hTn:=zvc hT
  have hhosts:=zrx D.inv hi D.on_
  cases hP with
  |nil => cases hmT
  |@skip _ _ id ids out hs _ =>
    exfalso
    obtain ⟨hin,_⟩:=hTr id (List.mem_cons_self ..)
    have hf:=D.fit (id-1).toNat (ziS hin)
    unfold zt9 at hs
    rw [hhosts] at hs
    exact hf hs
  |@run _ _ id k ids out hb hp =>
    obtain ⟨hin,hr⟩:=hTr id (List.mem_cons_self ..)
    have hk:=ziS hin
    refine ⟨(id-1).toNat,hk,(zdT.1 hr).1,?_⟩
    have t:=zkY.run (k:=k) hk
    have hw2:(zad (zfI F (id-1).toNat k) (id-1).toNat).what=2:=by rw [zvq hk,if_pos rfl]
    have ho:=zxz hp (List.nodup_cons.1 hTn).2 fun id' h'=>by
      obtain ⟨hin',hrd'⟩:=hTr id' (List.mem_cons_of_mem _ h')
      have hne:id'≠id:=fun h2=>(List.nodup_cons.1 hTn).1 (h2▸h')
      have hk':(id'-1).toNat≠(id-1).toNat:=by have:=hin.1; have:=hin'.1; omega
      refine ⟨⟨hin'.1,by rw [t.len]; exact hin'.2⟩,?_⟩
      rw [t.other hk']
      rw [zdT] at hrd' hr ⊢
      refine ⟨hrd'.1,by rw [t.now]; exact hrd'.2.1,fun y hy=>?_⟩
      have:=hrd'.2.2 y hy
      rw [zbN] at this ⊢
      rw [t.at_]
      split
      · rename_i h; rw [h] at this; omega
      · exact this
    rw [ho.2.2 (id-1).toNat (by rw [zi6]; exact hk) (by rw [hw2]; omega)]
    exact hw2
def zeY (F:Fm):Nat->Nat
  |0 => 0
  |n+1 => zeY F n+(if (zad F n).what=3 then 0 else 1)
theorem zDF (F:Fm):∀ n,zeY F n<=n
  |0 => Nat.le_refl _
  |n+1 => by have:=zDF F n; unfold zeY; split<;>omega
theorem zvn {F:Fm}:∀ {n:Nat},zeY F n=0->∀ k,k<n->(zad F k).what=3
  |0,_,k,hk => by omega
  |n+1,h,k,hk => by
    unfold zeY at h
    by_cases hkn:k=n
    · subst hkn
      by_cases h3:(zad F k).what=3
      · exact h3
      · rw [if_neg h3] at h; omega
    · exact zvn (n:=n) (by omega) k (by omega)
theorem zzr {F:Fm}:∀ {n:Nat},zeY F n≠0->∃ k,k<n/\(zad F k).what≠3
  |0,h => absurd rfl h
  |n+1,h => by
    by_cases h3:(zad F n).what=3
    · unfold zeY at h
      rw [if_pos h3] at h
      obtain ⟨k,hk,hw⟩:=zzr (n:=n) (by omega)
      exact ⟨k,by omega,hw⟩
    · exact ⟨n,by omega,h3⟩
theorem zpL {F G:Fm}:∀ {n:Nat},(∀ k,k<n->(zad F k).what=3->(zad G k).what=3)->zeY G n<=zeY F n
  |0,_ => Nat.le_refl _
  |n+1,h => by
    have ih:=zpL (n:=n) fun k hk=>h k (by omega)
    have:=h n (by omega)
    unfold zeY
    by_cases h3:(zad F n).what=3
    · rw [if_pos h3,if_pos (this h3)]; omega
    · rw [if_neg h3]; split<;>omega
theorem zvm {F G:Fm} {k:Nat}:∀ {n:Nat},(∀ k,k<n->(zad F k).what=3->(zad G k).what=3)->k<n->(zad F k).what≠3->(zad G k).what=3->zeY G n<zeY F n
  |0,_,hk,_,_ => by omega
  |n+1,h,hk,h1,h2 => by
    unfold zeY
    by_cases hkn:k=n
    · subst hkn
      have:=zpL (n:=k) fun j hj=>h j (by omega)
      rw [if_neg h1,if_pos h2]; omega
    · have:=zvm (n:=n) (fun j hj=>h j (by omega)) (by omega) h1 h2
      by_cases h3:(zad F n).what=3
      · rw [if_pos h3,if_pos (h n (by omega) h3)]; omega
      · rw [if_neg h3]; split<;>omega
abbrev zat (F:Fm):Nat:=zeY F F.jobs.length
theorem zEf {L:List Ht} {F G H:Fm} {o:List (Int×Int)} (D:DF L F) (hi:idle F) (h:zda F G o) (hl:H.jobs.length=G.jobs.length) (hat:∀ k,k<G.jobs.length->(zad H k).what=if (zad G k).what=2 then 3 else (zad G k).what):zat H<=zat F-1:=by
  have ho:=zxx h
  have hlen:H.jobs.length=F.jobs.length:=hl.trans ho.1
  have hmono:∀ k,k<F.jobs.length->(zad F k).what=3->(zad H k).what=3:=fun k hk h3=>by
    rw [hat k (by rw [ho.1]; exact hk),ho.2.2 k hk (by omega),if_neg (by omega)]; exact h3
  unfold zat
  rw [hlen]
  by_cases hz:zeY F F.jobs.length=0
  · have:=zpL hmono; omega
  · obtain ⟨k0,hk0,hw0⟩:=zzr hz
    obtain ⟨k,hk,h1,h2⟩:=zAA D hi h hk0 hw0 D.inv.i0.now.1
    have:=zvm hmono hk (by omega) (by rw [hat k (by rw [ho.1]; exact hk),if_pos h2])
    omega
abbrev zcx:FuncId:=6
abbrev zaG:FuncId:=25
abbrev zb1:FuncId:=26
abbrev zbl:FuncId:=77
def zcr (g:Option Addr) (h i:Nat) (j:Value) (d:World) (k:Value->World->Prop):Prop:=
 ∀ a,Ext d a->FnP Tryz.prog zbl #[(.slice g h i),j] a fun e f=>Ext a f/\∃ b,e=(.int .i64 b)/\∀ c,Ext d c->k (.bool (decide (0<=b))) c
theorem zcn (a:Option Addr) (b c:Nat) (d:Value) (e:World) (f:Value->World->Prop) (h:zcr a b c d e f):FnP Tryz.prog zaG #[(.slice a b c),d] e f:=
 zab (Eq.mp (by kernel_rfl:_=Runs Tryz.prog f ({N:=9}:Cfg) Tryz.f25 (Tryz.f25.body.getD .skip) [.sc (.slc a b c),.sc (.val d)] e) h) Tryz.func25 (by kernel_rfl) (fun a w=>Tryz.call25 a w) (by kernel_rfl) (by kernel_rfl) rfl rfl
def zcQ (c:Option Addr) (g J:Nat) (H:Value) (I:World) (E:Value->World->Prop):Prop:=
 ∃ (f:Int->World->Prop) (D:Int->World->Nat),f 0 I/\∀ (a:Int) (b:World),f a b->(((a<(g:Int))->c≠none/\(0:Int)<=a/\(a:Int)<(g:Int)/\(pIdx c a 16)≠none/\∃ h,cell b (pIdx c a 16) 0=some (.string h)/\∃ i,cell b (pIdx c a 16) 1=some (.int .i64 i)/\∃ j,cell b (pIdx c a 16) 2=some (.int .i64 j)/\∃ k,cell b (pIdx c a 16) 3=some (.int .i64 k)/\∃ l,cell b (pIdx c a 16) 4=some (.int .i64 l)/\∃ m,cell b (pIdx c a 16) 5=some (.int .i64 m)/\∃ n,cell b (pIdx c a 16) 6=some (.string n)/\∃ o,cell b (pIdx c a 16) 7=some (.string o)/\∃ p,cell b (pIdx c a 16) 8=some (.int .i64 p)/\∃ q r s,cell b (pIdx c a 16) 9=some (.slice q r s)/\∃ t u v,cell b (pIdx c a 16) 10=some (.slice t u v)/\∃ w,cell b (pIdx c a 16) 11=some (.int .i64 w)/\∃ x,cell b (pIdx c a 16) 12=some (.int .i64 x)/\∃ y,cell b (pIdx c a 16) 13=some (.int .i64 y)/\∃ z,cell b (pIdx c a 16) 14=some (.int .i64 z)/\∃ A,cell b (pIdx c a 16) 15=some (.int .i64 A)/\∀ d,Ext b d->zic Tryz.prog H [(.agg #[(.string h),(.int .i64 i),(.int .i64 j),(.int .i64 k),(.int .i64 l),(.int .i64 m),(.string n),(.string o),(.int .i64 p),(.slice q r s),(.slice t u v),(.int .i64 w),(.int .i64 x),(.int .i64 y),(.int .i64 z),(.int .i64 A)])] d fun F G=>Ext d G/\∃ e,F=(.bool e)/\((e=true)->∀ B,Ext b B->E (.int .i64 a) B)/\((e=false)->InR .i64 (a+1)/\(f (a+1) b/\D (a+1) b<D a b))))/\(((g:Int)<=a)->∀ C,Ext b C->E (.int .i64 (-1)) C)
theorem zcL (a:Option Addr) (b c:Nat) (d:Value) (e:World) (f:Value->World->Prop) (h:zcQ a b c d e f):FnP Tryz.prog zbl #[(.slice a b c),d] e f:=
 zab (Eq.mp (by kernel_rfl:_=Runs Tryz.prog f ({N:=19}:Cfg) Tryz.f77 (Tryz.f77.body.getD .skip) [.sc (.slc a b c),.sc (.val d)] e) h) Tryz.func77 (by kernel_rfl) (fun a w=>Tryz.call77 a w) (by kernel_rfl) (by kernel_rfl) rfl rfl
def zgC (f:ByteArray) (g h i j k:Int) (l m:ByteArray) (n:Int) (o:Option Addr) (p q:Nat) (r:Option Addr) (s t:Nat) (d u v w x:Int) (b:World) (e:Value->World->Prop):Prop:=
 ∀ c:Nat,b.heap.size<=c->∀ a,Ext b a->e (.bool (decide (d≠3))) a
theorem zgs (a:ByteArray) (b c d e f:Int) (g i:ByteArray) (j:Int) (k:Option Addr) (l m:Nat) (n:Option Addr) (o p:Nat) (q r s t u:Int) (v:World) (w:Value->World->Prop) (h:zgC a b c d e f g i j k l m n o p q r s t u v w):FnP Tryz.prog zb1 #[(.agg #[(.string a),(.int .i64 b),(.int .i64 c),(.int .i64 d),(.int .i64 e),(.int .i64 f),(.string g),(.string i),(.int .i64 j),(.slice k l m),(.slice n o p),(.int .i64 q),(.int .i64 r),(.int .i64 s),(.int .i64 t),(.int .i64 u)])] v w:=
 zab (Eq.mp (by kernel_rfl:_=Runs Tryz.prog w ({N:=6}:Cfg) Tryz.f26 (Tryz.f26.body.getD .skip) [.agg [.str a,.int .i64 b,.int .i64 c,.int .i64 d,.int .i64 e,.int .i64 f,.str g,.str i,.int .i64 j,.slc k l m,.slc n o p,.int .i64 q,.int .i64 r,.int .i64 s,.int .i64 t,.int .i64 u]] v) h) Tryz.func26 (by kernel_rfl) (fun a w=>Tryz.call26 a w) (by kernel_rfl) (by kernel_rfl) rfl rfl
def zh4 (ao:Option Addr) (ap aq:Nat) (aV aW aX aY:Int) (f:Option Addr) (j aZ:Nat) (ar:World) (ab:Value->World->Prop):Prop:=
 ∀ g:Nat,ar.heap.size<=g->∀ B,zag [] [g] ar B->FnP Tryz.prog zcU #[(.agg #[(.slice ao ap aq),(.int .i64 aV),(.int .i64 aW),(.int .i64 aX),(.int .i64 aY)])] B fun aK q=>Ext B q/\∃ h C,aK=(.tuple #[(.pointer h),(.int .i64 C)])/\∀ D,Ext q D->FnP Tryz.prog zar #[] D fun aL aM=>Ext D aM/\∃ E,aL=(.bool E)/\((((((E=false)\/(C≠0))\/(h=none))\/(20<(j:Int)))->∀ F,Ext q F->FnP Tryz.prog zar #[] F fun aN aO=>Ext F aO/\∃ ac,aN=(.bool ac)/\∀ ad,Ext q ad->ab (.bool ac) ad))/\(((((E=true)/\(C=0))/\(h≠none))/\((j:Int)<=20))->∃ (w:Int->World->Prop) (x:Int->World->Nat),w 0 q/\∀ (c:Int) (d:World),w c d->(((c<(j:Int))->f≠none/\(0:Int)<=c/\(c:Int)<(j:Int)/\(pIdx f c 11)≠none/\∃ ae,cell d (pIdx f c 11) 0=some (.string ae)/\∃ af,cell d (pIdx f c 11) 1=some (.int .i64 af)/\∃ G,cell d (pIdx f c 11) 2=some (.int .i64 G)/\∃ H,cell d (pIdx f c 11) 3=some (.int .i64 H)/\∃ I,cell d (pIdx f c 11) 4=some (.int .i64 I)/\∃ i,cell d (pIdx f c 11) 5=some (.int .i64 i)/\∃ J,cell d (pIdx f c 11) 6=some (.string J)/\∃ K,cell d (pIdx f c 11) 7=some (.string K)/\∃ n,cell d (pIdx f c 11) 8=some (.int .i64 n)/\∃ L M N,cell d (pIdx f c 11) 9=some (.slice L M N)/\∃ ag ah ai,cell d (pIdx f c 11) 10=some (.slice ag ah ai)/\∀ O:Nat,d.heap.size<=O->∀ b,Ext d b->FnP Tryz.prog zfi #[(.slice ao ap aq),(.agg #[(.int .i64 i),(.string J),(.string K),(.int .i64 n),(.slice L M N)]),(.agg #[(.int .i64 G),(.int .i64 H),(.int .i64 I)])] b fun aP aQ=>Ext b aQ/\∃ P o,aP=(.tuple #[(.int .i64 P),(.int .i64 o)])/\(((o=0)->∀ R,zag [] [g,O] d R->FnP Tryz.prog za2 #[(.pointer h),(.agg #[(.string ae),(.int .i64 af),(.int .i64 G),(.int .i64 H),(.int .i64 I),(.int .i64 i),(.string J),(.string K),(.int .i64 n),(.slice L M N),(.slice ag ah ai)])] R fun aR Y=>zbL [g,O] R Y/\∃ S T,aR=(.tuple #[(.int .i64 S),(.int .i64 T)])/\InR .i64 (c+1)/\(w (c+1) Y/\x (c+1) Y<x c d)))/\((o≠0)->InR .i64 (c+1)/\(w (c+1) d/\x (c+1) d<x c d))))/\(((j:Int)<=c)->InR .i64 (2*(j:Int))/\∃ (aa:Int->World->Prop) (an:Int->World->Nat),aa 0 d/\∀ (l:Int) (y:World),aa l y->(((l<(2*(j:Int)))->∀ k,zag [] [g] y k->FnP Tryz.prog zbn #[(.pointer h)] k fun Z m=>zbL [g] k m/\∃ i r s n,Z=(.tuple #[(.slice i r s),(.int .i64 n)])/\∀ p,zag [] [g] m p->FnP Tryz.prog zaz #[(.pointer h)] p fun aS am=>Ext p am/\∃ e t au,aS=(.slice e t au)/\∃ (z:Int->World->Prop) (A:Int->World->Nat),z 0 am/\∀ (a:Int) (b:World),z a b->(((a<(t:Int))->e≠none/\(0:Int)<=a/\(a:Int)<(t:Int)/\(pIdx e a 16)≠none/\∃ av,cell b (pIdx e a 16) 0=some (.string av)/\∃ P,cell b (pIdx e a 16) 1=some (.int .i64 P)/\∃ o,cell b (pIdx e a 16) 2=some (.int .i64 o)/\∃ aw,cell b (pIdx e a 16) 3=some (.int .i64 aw)/\∃ ax,cell b (pIdx e a 16) 4=some (.int .i64 ax)/\∃ S,cell b (pIdx e a 16) 5=some (.int .i64 S)/\∃ T,cell b (pIdx e a 16) 6=some (.string T)/\∃ ay,cell b (pIdx e a 16) 7=some (.string ay)/\∃ az,cell b (pIdx e a 16) 8=some (.int .i64 az)/\∃ aA aB aC,cell b (pIdx e a 16) 9=some (.slice aA aB aC)/\∃ aD aE aF,cell b (pIdx e a 16) 10=some (.slice aD aE aF)/\∃ u,cell b (pIdx e a 16) 11=some (.int .i64 u)/\∃ aG,cell b (pIdx e a 16) 12=some (.int .i64 aG)/\∃ aH,cell b (pIdx e a 16) 13=some (.int .i64 aH)/\∃ aI,cell b (pIdx e a 16) 14=some (.int .i64 aI)/\∃ aJ,cell b (pIdx e a 16) 15=some (.int .i64 aJ)/\∀ U:Nat,b.heap.size<=U->((u=2)->InR .i64 (a+1))/\(((u=2)->∀ V,zag [] [g,U] b V->FnP Tryz.prog zaR #[(.pointer h),(.int .i64 (a+1)),(.bool true)] V fun aT v=>zbL [g,U] V v/\∃ W,aT=(.int .i64 W)/\((W≠0)->∀ aj,Ext v aj->ab (.bool false) aj)/\((W=0)->InR .i64 (a+1)/\(z (a+1) v/\A (a+1) v<A a b))))/\((u≠2)->InR .i64 (a+1)/\(z (a+1) b/\A (a+1) b<A a b))))/\(((t:Int)<=a)->InR .i64 (l+1)/\(aa (l+1) b/\an (l+1) b<an l y))))/\(((2*(j:Int))<=l)->∀ k,zag [] [g] y k->FnP Tryz.prog zaz #[(.pointer h)] k fun Z m=>Ext k m/\∃ i r s,Z=(.slice i r s)/\∀ X,Ext m X->FnP Tryz.prog zaG #[(.slice i r s),(.func (.func 26) #[] #[])] X fun aU p=>Ext X p/\∃ ak,aU=(.bool ak)/\∀ al,Ext m al->ab (.bool (!ak)) al)))
theorem zhM (a:Option Addr) (b c:Nat) (d e f g:Int) (i:Option Addr) (j k:Nat) (l:World) (m:Value->World->Prop) (h:zh4 a b c d e f g i j k l m):FnP Tryz.prog zcx #[(.agg #[(.slice a b c),(.int .i64 d),(.int .i64 e),(.int .i64 f),(.int .i64 g)]),(.slice i j k)] l m:=
 zab (Eq.mp (by kernel_rfl:_=Runs Tryz.prog m ({N:=87,muts:=[21,29,22,24,81,32,37,307]}:Cfg) Tryz.f6 (Tryz.f6.body.getD .skip) [.agg [.slc a b c,.int .i64 d,.int .i64 e,.int .i64 f,.int .i64 g],.sc (.slc i j k)] l) h) Tryz.func6 (by kernel_rfl) (fun a w=>Tryz.call6 a w) (by kernel_rfl) (by kernel_rfl) rfl rfl
theorem zqR (W:World) (R:Array Value->Prop) (h:∀ x_0:Option Addr,∀ x_0l:Nat,∀ x_0c:Nat,zaH Tryz.prog W 76 x_0 x_0l x_0c->∀ x_1:Int,InR .i64 x_1->∀ x_2:Int,InR .i64 x_2->∀ x_3:Int,InR .i64 x_3->∀ x_4:Int,InR .i64 x_4->∀ jobs:Option Addr,∀ jobsl:Nat,∀ jobsc:Nat,zaH Tryz.prog W 50 jobs jobsl jobsc->R #[(.agg #[(.slice x_0 x_0l x_0c),(.int .i64 x_1),(.int .i64 x_2),(.int .i64 x_3),(.int .i64 x_4)]),(.slice jobs jobsl jobsc)]) (args:Array Value) (hg:zcz Tryz.prog W Tryz.f6.params.toList args.toList):R args:=by
  have e_:(zeJ Tryz.prog W Tryz.f6.params.toList fun l=>R l.toArray)=(∀ x_0:Option Addr,∀ x_0l:Nat,∀ x_0c:Nat,zaH Tryz.prog W 76 x_0 x_0l x_0c->∀ x_1:Int,InR .i64 x_1->∀ x_2:Int,InR .i64 x_2->∀ x_3:Int,InR .i64 x_3->∀ x_4:Int,InR .i64 x_4->∀ jobs:Option Addr,∀ jobsl:Nat,∀ jobsc:Nat,zaH Tryz.prog W 50 jobs jobsl jobsc->R #[(.agg #[(.slice x_0 x_0l x_0c),(.int .i64 x_1),(.int .i64 x_2),(.int .i64 x_3),(.int .i64 x_4)]),(.slice jobs jobsl jobsc)]):=by kernel_rfl
  exact zfn (by rw [e_]; exact h) args hg
def run (l t:Int):List UInt8:=if l<t then Lib.itoa l++45::Lib.itoa t else Lib.itoa l
theorem zfy (p:Option Addr) (c:Nat):pCut p c 0 1=p:=by
  unfold pCut
  split
  · rfl
  · cases p<;>simp [add_zero]
theorem zCs {w:World} (g:GD w):11<=w.heap.size:=by
  have h:=g.gc.2 0 (by omega)
  obtain ⟨a,ha,hb,_⟩:=zdL h
  obtain rfl:=Option.some.inj ha
  exact hb
end Go.Proofs.YtcceeahmcecbnaaGreatDoor
namespace Go.Proofs.YtcceeahmcecbnaaGreatDoor
open Go.Sx Go.RowKit Go.ChangeShapes Go.WideShapes Go.ChangeAt
def zxK (ss:List ByteArray):DataW Unit:=.agg (ss.map fun s=>.lit (.string s.data.toList))
theorem zr9 {enc:TypeId×Value->Unit} {P:Program} {w:World} {base:Nat} {sp:Nat->Bool} {held:Bool} {fuel:Nat} {t e:TypeId} {n:Nat} {cs:List Value} {ss:List ByteArray} {p:List MemPlace}
    (ht:P.underlying t=some (.array n e)) (he:P.underlying e=some .string) (hce:P.cellsOf e=1) (hct:P.cellsOf t=n)
    (h:DataW.trod enc P w base sp held fuel t cs=some (zxK ss,p)):cs=ss.map Value.string:=by
  cases fuel with
  |zero => simp [DataW.trod] at h
  |succ fuel =>
    simp only [DataW.trod,ht,hce,hct,Nat.mul_one] at h
    split at h
    · rename_i hl
      obtain ⟨xs,hm,hx⟩:=Option.map_eq_some_iff.1 h
      have hxs:xs.map (·.1)=ss.map fun s=>(DataW.lit (.string s.data.toList):DataW Unit):=by
        have:=congrArg Prod.fst hx
        simpa [zxK] using this
      have hxl:xs.length=n:=by simpa using Lib.mapM_length hm
      have hzl:ss.length=n:=by
        have:=congrArg List.length hxs
        simp at this
        omega
      apply List.ext_getElem?
      intro i
      by_cases hi:i<n
      · obtain ⟨b,hb,hf⟩:=Lib.mapM_at hm i i (by simp [hi])
        obtain ⟨s,hc,rfl,_⟩:=DataW.trod_string he hf
        have h1:cs[i]?=some (.string s):=by
          have:=congrArg (·[0]?) hc
          simpa [List.getElem?_take,List.getElem?_drop] using this
        have h2:(xs.map (·.1))[i]?=some (DataW.lit (.string s.data.toList):DataW Unit):=by simp [hb]
        rw [hxs] at h2
        simp only [List.getElem?_map,Option.map_eq_some_iff,DataW.lit.injEq,Lit.string.injEq] at h2
        obtain ⟨z',hz',he'⟩:=h2
        have:z'=s:=by
          have:=congrArg ofL he'
          rwa [zb8,zb8] at this
        subst this
        simp [h1,hz']
      · rw [List.getElem?_eq_none (by omega),List.getElem?_eq_none (by simp; omega)]
    · cases h
theorem zAp {P:Program} {W:World} {l:List (String×DataW Unit)} (h:laidMet P l W) (hp:(l.all fun x=>x.2.handleName?.isNone)=true):laidMetH P l W:=by
  have hnone:(l.filter fun x=>x.2.handleName?.isSome)=[]:=by
    rw [List.filter_eq_nil_iff]
    intro a ha hs
    have:=List.all_eq_true.1 hp a ha
    cases hh:a.2.handleName?<;>simp_all
  unfold laidMetH
  rw [hnone]
  exact h
theorem zCQ {P:Program} {W:World} {l:List (String×DataW Unit)} (h:laidMet P l W) {name:String} {ss:List ByteArray}
    (hm:(name,zxK ss)∈l) {g:Nat} {t e:TypeId} {n:Nat} (hg:P.globalNamed name=some g) (hty:(P.globals[g]?).map (·.type)=some t)
    (ht:P.underlying t=some (.array n e)) (he:P.underlying e=some .string) (hce:P.cellsOf e=1) (hct:P.cellsOf t=n):zau W (some ⟨g,0,none⟩) (ss.map Value.string):=by
  obtain ⟨ps,hL,_⟩:=h
  obtain ⟨g',t',cs,fuel,p,h1,h2,h3,h4⟩:=zeC hL _ hm
  obtain rfl:=Option.some.inj (hg.symm.trans h1)
  obtain rfl:=Option.some.inj (hty.symm.trans h2)
  have hcs:=zr9 ht he hce hct h4
  intro i v hv
  have h5:=World.var?_cell hg h3 i
  have hlen:cs[i]?=some v:=by
    have:cs.toList[i]?=some v:=by rw [hcs]; exact hv
    simpa using this
  rw [hlen] at h5
  have ha:(Addr.add ⟨g,0,none⟩ i)=⟨g,i,none⟩:=by
    unfold Addr.add
    by_cases h0:i=0
    · subst h0; rfl
    · rw [if_neg h0]; simp
  show W.cell? (Addr.add ⟨g,0,none⟩ i)=some v
  rw [ha]; exact h5
theorem zvB {P:Program} {W:World} {name:String} {zs:List Int} {k:IntKind} (h:Lib.TabIs P W name k zs) {g:Nat} (hg:P.globalNamed name=some g):zau W (some ⟨g,0,none⟩) (zs.map fun z=>Value.int k z):=by
  intro i v hv
  have h5:=World.var?_cell hg h i
  have hlen:((zs.map fun z=>Value.int k z).toArray)[i]?=some v:=by simpa using hv
  rw [hlen] at h5
  have ha:(Addr.add ⟨g,0,none⟩ i)=⟨g,i,none⟩:=by
    unfold Addr.add
    by_cases h0:i=0
    · subst h0; rfl
    · rw [if_neg h0]; simp
  show W.cell? (Addr.add ⟨g,0,none⟩ i)=some v
  rw [ha]; exact h5
def lD : List (String × DataW Unit) := [("math/bits.deBruijn32tab", Rows.laid_math_bits_deBruijn32tab), ("math/bits.deBruijn64tab", Rows.laid_math_bits_deBruijn64tab), ("internal/strconv.uint64pow10", Rows.laid_internal_strconv_uint64pow10), ("shiftbell/civil.ahead", Rows.laid_shiftbell_civil_ahead), ("unicode/utf8.acceptRanges", Rows.laid_unicode_utf8_acceptRanges), ("errors.errorType", Rows.laid_errors_errorType), ("strconv.ErrRange", Rows.laid_strconv_ErrRange), ("strconv.ErrSyntax", Rows.laid_strconv_ErrSyntax), ("shiftbell/desk.whats", Rows.laid_shiftbell_desk_whats), ("unicode/utf8.first", Rows.laid_unicode_utf8_first)]
def lD9 : List (String × DataW Unit) := [("math/bits.deBruijn32tab", Rows.laid_math_bits_deBruijn32tab), ("math/bits.deBruijn64tab", Rows.laid_math_bits_deBruijn64tab), ("internal/strconv.uint64pow10", Rows.laid_internal_strconv_uint64pow10), ("shiftbell/civil.ahead", Rows.laid_shiftbell_civil_ahead), ("unicode/utf8.acceptRanges", Rows.laid_unicode_utf8_acceptRanges), ("strconv.ErrRange", Rows.laid_strconv_ErrRange), ("strconv.ErrSyntax", Rows.laid_strconv_ErrSyntax), ("shiftbell/desk.whats", Rows.laid_shiftbell_desk_whats), ("unicode/utf8.first", Rows.laid_unicode_utf8_first)]
theorem zGd {W : World} (h : laidMetH Tryz.prog lD W) : laidMet Tryz.prog lD9 W /\ handlesMet Tryz.prog [("errors.errorType", Rows.laid_errors_errorType)] W := by
  have e1 : (lD.filter fun x => x.2.handleName?.isSome) = [("errors.errorType", Rows.laid_errors_errorType)] := by kernel_rfl
  have e2:(lD.filter fun x=>x.2.handleName?.isNone)=lD9:=by kernel_rfl
  unfold laidMetH at h
  rw [e1,e2] at h
  exact h
theorem zJo {W : World} (h : handlesMet Tryz.prog [("errors.errorType", Rows.laid_errors_errorType)] W) : Go.Sx.cell W (some ⟨0, 0, none⟩) 0 = some errT := by
  obtain ⟨name,u,ty,e1,e2,e3,e4,e5⟩:=h _ (List.mem_singleton.2 rfl)
  have en:name=[101,114,114,111,114]:=(Option.some.inj e1).symm
  subst en
  have hrt : (Tryz.prog.cutTypes.find? (·.1 == "internal/reflectlite.rtype")).map (·.2) = some 329 := by kernel_rfl
  obtain rfl:=Option.some.inj (hrt.symm.trans e2)
  have hsz:Tryz.prog.types.size=439:=by kernel_rfl
  have hone:((List.range 439).filter fun t=>Tryz.prog.rowNamed t [101,114,114,111,114])=[175]:=by kernel_rfl
  have hm:ty∈(List.range 439).filter fun t=>Tryz.prog.rowNamed t [101,114,114,111,114]:=List.mem_filter.2 ⟨List.mem_range.2 (by rw [<- hsz]; exact e3),e4⟩
  rw [hone] at hm
  obtain rfl:=List.mem_singleton.1 hm
  have hh:typeHandle Tryz.prog 175=.pointer (some ⟨11,175,none⟩):=by kernel_rfl
  rw [hh] at e5
  have et : Tryz.prog.globalNamed "errors.errorType" = some 0 := by kernel_rfl
  have:=World.var?_cell et e5 0
  exact zgk (this.trans (by unfold errT; rfl))
theorem laid_okD {W:World} (h:laidMetH Tryz.prog lD W) (hsp:W.ShapedOpen Tryz.prog):GD W:=by
  obtain ⟨h9,hh⟩:=zGd h
  have hp:(lD9.all fun x=>x.2.handleName?.isNone)=true:=by kernel_rfl
  have h9':=zAp h9 hp
  refine ⟨gb_of h9' hsp hp (by simp [lD9]) (by simp [lD9]) (by simp [lD9]),?_,zJo hh,?_,?_⟩
  · have hm : ("shiftbell/desk.whats", (Rows.laid_shiftbell_desk_whats : DataW Unit)) ∈ lD9 := by simp [lD9]
    exact zCQ h9 (name := "shiftbell/desk.whats") (ss := zvF) (by exact hm) (g := 4) (t := (Tryz.prog.globals[4]?).elim 0 (·.type)) (e := 9) (n := 6) (by kernel_rfl) (by kernel_rfl) (by kernel_rfl) (by kernel_rfl) (by kernel_rfl) (by kernel_rfl)
  · have hm : ("math/bits.deBruijn64tab", (Rows.laid_math_bits_deBruijn64tab : DataW Unit)) ∈ lD9 := by simp [lD9]
    have ht := zvB (zsz h9' hp (name := "math/bits.deBruijn64tab") (k := .u8) (zs := Lib.deBruijn64tab.map Int.ofNat) (by exact hm) (g := 9) (t := (Tryz.prog.globals[9]?).elim 0 (·.type)) (e := 5) (n := 64) (by kernel_rfl) (by kernel_rfl) (by kernel_rfl) (by kernel_rfl) (by kernel_rfl) (by kernel_rfl)) (g := 9) (by kernel_rfl)
    intro i hi
    refine ht i _ ?_
    have hl:i<Lib.deBruijn64tab.length:=hi
    rw [List.getElem?_map,List.getElem?_map,List.getD_eq_getElem?_getD,List.getElem?_eq_getElem hl]
    rfl
  · have hm : ("shiftbell/civil.ahead", (Rows.laid_shiftbell_civil_ahead : DataW Unit)) ∈ lD9 := by simp [lD9]
    have ht := zvB (zsz h9' hp (name := "shiftbell/civil.ahead") (k := .i64) (zs := [0, 0, 31, 59, 90, 120, 151, 181, 212, 243, 273, 304, 334]) (by exact hm) (g := 10) (t := (Tryz.prog.globals[10]?).elim 0 (·.type)) (e := 3) (n := 13) (by kernel_rfl) (by kernel_rfl) (by kernel_rfl) (by kernel_rfl) (by kernel_rfl) (by kernel_rfl)) (g := 10) (by kernel_rfl)
    intro i hi
    refine ht i _ ?_
    match i,hi with
    |0,_|1,_|2,_|3,_|4,_|5,_|6,_|7,_|8,_|9,_|10,_|11,_|12,_ => rfl
noncomputable def preD (os:Os):World:=(World.holding Tryz.prog os ⟨#[],#[],[]⟩).setCell ⟨0,0,none⟩ errT
noncomputable def zDY (os:Os):World:=(preD os).layVars Tryz.prog lD9
theorem startD_os (os:Os):(zDY os).os=os:=World.layVars_os _ _ _
theorem door_D (os:Os) (args:Array Value):laidMetH Tryz.prog lD ((zDY os).forCall (fun _ _=>0) ⟨#[],args,[]⟩).memory:=by
  have e1 : (lD.filter fun x => x.2.handleName?.isSome) = [("errors.errorType", Rows.laid_errors_errorType)] := by kernel_rfl
  have e2:(lD.filter fun x=>x.2.handleName?.isNone)=lD9:=by kernel_rfl
  unfold laidMetH
  rw [e1,e2]
  refine ⟨?_,?_⟩
  · have a1:(lD9.filter fun x=>(lD9.map (·.1)).contains x.1)=lD9:=List.filter_eq_self.2 fun x hx=>List.contains_iff_mem.2 (List.mem_map.2 ⟨x,hx,rfl⟩)
    have a2:(lD9.filter fun x=>!(lD9.map (·.1)).contains x.1)=[]:=List.filter_eq_nil_iff.2 fun x hx=>by rw [List.contains_iff_mem.2 (List.mem_map.2 ⟨x,hx,rfl⟩)]; simp
    have h:laidMet Tryz.prog lD9 (zDY os):=laidMet_layVars (w0:=preD os) (lD9.map (·.1)) [] (by rw [a1]; rfl) (by rw [a1]; kernel_rfl) (by rw [a1]; kernel_rfl) (by rw [a2]; exact LaidIn.none)
    exact h.of_heap (by simp [World.memory,World.forCall,Input.heap])
  · intro x hx
    obtain rfl:=List.mem_singleton.1 hx
    exact ⟨[101,114,114,111,114],329,175,rfl,by kernel_rfl,of_decide_eq_true (by kernel_rfl),by kernel_rfl,by kernel_rfl⟩
end Go.Proofs.YtcceeahmcecbnaaGreatDoor
namespace Go.Proofs.YtcceeahmcecbnaaGreatDoor
open Go.Sx Go.RowKit
structure JbR where
  j:Jb
  pa:Option Addr
  ca:Nat
  pf:Option Addr
  cf:Nat
abbrev encJ (r:JbR):List Value:=jcs r.j r.pa r.ca r.pf r.cf
theorem zF9 {W:World} {n:Nat} {es:List Value} (hg:Go.Sx.Good Tryz.prog W n zr1 es):∃ r:JbR,es=encJ r/\WfJ r.j/\IsJ W r.j r.pa r.ca r.pf:=by
  have hlv:=zcJ (P:=Tryz.prog) 6 zr1 [zay,zfJ,zdb,zdb,zdb,zfJ,zay,zay,zdb,zci,zyj] n es (by kernel_rfl) hg
  obtain ⟨v1,r1,rfl,l1,hlv⟩:=zai hlv
  obtain ⟨v2,r2,rfl,l2,hlv⟩:=zai hlv
  obtain ⟨v3,r3,rfl,l3,hlv⟩:=zai hlv
  obtain ⟨v4,r4,rfl,l4,hlv⟩:=zai hlv
  obtain ⟨v5,r5,rfl,l5,hlv⟩:=zai hlv
  obtain ⟨v6,r6,rfl,l6,hlv⟩:=zai hlv
  obtain ⟨v7,r7,rfl,l7,hlv⟩:=zai hlv
  obtain ⟨v8,r8,rfl,l8,hlv⟩:=zai hlv
  obtain ⟨v9,r9,rfl,l9,hlv⟩:=zai hlv
  obtain ⟨va,ra,rfl,la,hlv⟩:=zai hlv
  obtain ⟨vb,rb,rfl,lb,hlv⟩:=zai hlv
  obtain rfl:=zhE hlv
  obtain ⟨x1,rfl,h1⟩:=zcY (by kernel_rfl) l1
  obtain ⟨x2,rfl,h2⟩:=zaJ (k:=.i64) (by kernel_rfl) l2
  obtain ⟨x3,rfl,h3⟩:=zaJ (k:=.i64) (by kernel_rfl) l3
  obtain ⟨x4,rfl,h4⟩:=zaJ (k:=.i64) (by kernel_rfl) l4
  obtain ⟨x5,rfl,h5⟩:=zaJ (k:=.i64) (by kernel_rfl) l5
  obtain ⟨x6,rfl,h6⟩:=zaJ (k:=.i64) (by kernel_rfl) l6
  obtain ⟨x7,rfl,h7⟩:=zcY (by kernel_rfl) l7
  obtain ⟨x8,rfl,h8⟩:=zcY (by kernel_rfl) l8
  obtain ⟨x9,rfl,h9⟩:=zaJ (k:=.i64) (by kernel_rfl) l9
  obtain ⟨pa,na,ca,rfl,a1,a2,a3,a4⟩:=zfa (e:=zdJ) (by kernel_rfl) la
  obtain ⟨pf,nf,cf,rfl,f1,f2,f3,f4⟩:=zfa (e:=zfJ) (by kernel_rfl) lb
  obtain ⟨j,hJ,hW,e⟩:=zCN h1 h2 h3 h4 h5 h6 h7 h8 h9 ⟨a1,a2,a3,a4⟩ ⟨f1,f2,f3,f4⟩
  exact ⟨⟨j,pa,ca,pf,cf⟩,e.symm,hW,hJ⟩
theorem zJI {W:World} {p:Option Addr} {l c:Nat} (h:zaH Tryz.prog W zr1 p l c):∃ L:List JbR,L.length=l/\zgE 11 encJ W p L/\∀ r∈L,WfJ r.j/\IsJ W r.j r.pa r.ca r.pf:=by
  obtain ⟨L,h1,h2,h3⟩:=h.list (α:=JbR) encJ (fun r=>WfJ r.j/\IsJ W r.j r.pa r.ca r.pf) (fun n es hg _=>zF9 hg)
  refine ⟨L,h1,fun i x hx j u hu=>?_,h2⟩
  have:=h3 i x hx j u hu
  rwa [show Tryz.prog.cellsOf zr1=11 by kernel_rfl] at this
theorem zA7 {n c:Nat} {w:World} {p:Option Addr} {R:List StR} (J:zEv n w p c R) (h60:R.length<=60) (hd:∀ r∈R,r.s.what=3) :
    FnP Tryz.prog zaG #[.slice p R.length c,.func (.func zb1) #[] #[]] w fun v w'=>Ext w w'/\v=.bool false:=by
  refine zcn p R.length c _ w _ fun w0 h0=>?_
  refine FnP.mono (K:=fun v w'=>Ext w0 w'/\v=.int .i64 (-1)) ?_ fun v w1 ⟨e1,hv⟩=>⟨e1,_,hv,fun w3 h3=>⟨h3,by simp⟩⟩
  refine zcL p R.length c _ w0 _ ⟨fun k w'=>w'=w0/\0<=k/\k<=R.length,fun k _=>(R.length-k).toNat,⟨rfl,by omega,by omega⟩,?_⟩
  rintro k w' ⟨rfl,hk0,hk1⟩
  refine ⟨fun hlt=>?_,fun hge w3 h3=>⟨h3,rfl⟩⟩
  obtain ⟨r,hr,n1,n2,g,_⟩:=(J.ext h0).st hk0 hlt
  have hw:=hd r (List.mem_of_getElem? hr)
  refine ⟨n1,hk0,hlt,n2,_,g 0 _ rfl,_,g 1 _ rfl,_,g 2 _ rfl,_,g 3 _ rfl,_,g 4 _ rfl,_,g 5 _ rfl,_,g 6 _ rfl,_,g 7 _ rfl,_,g 8 _ rfl,_,_,_,g 9 _ rfl,_,_,_,g 10 _ rfl,_,g 11 _ rfl,_,g 12 _ rfl,_,g 13 _ rfl,_,g 14 _ rfl,_,g 15 _ rfl,fun w23 h23=>?_⟩
  refine ⟨zb1,#[],rfl,?_⟩
  refine FnP.mono (K:=fun v w'=>Ext w23 w'/\v=.bool (decide (r.s.what≠3))) (zgs _ _ _ _ _ _ _ _ _ _ _ _ _ _ _ _ _ _ _ _ w23 _ fun b0 _ w1 h1=>⟨h1,rfl⟩) fun v w24 ⟨e24,hv⟩=>⟨e24,_,hv,fun h=>?_,fun _=>⟨i64 (by omega),⟨rfl,by omega,by omega⟩,by simp only []; omega⟩⟩
  rw [hw] at h
  simp at h
theorem zGb {l:List Nat} {w w':World} (e:Ext w w') (h:∀ b∈l,b<w.heap.size):zbL l w w':=(zac (S:=fun _=>False) e).kept fun b hb=>⟨h b hb,fun h=>h⟩
theorem zB9 (W:World) (g:GD W) {p:Option Addr} {hl c:Nat} (hA:zaH Tryz.prog W zez p hl c) (x1 x2 x3 x4:Int) {q:Option Addr} {jl jc:Nat} (hq:zaH Tryz.prog W zr1 q jl jc) :
    FnP Tryz.prog zcx #[(.agg #[(.slice p hl c),(.int .i64 x1),(.int .i64 x2),(.int .i64 x3),(.int .i64 x4)]),(.slice q jl jc)] W fun v W'=>v=.bool true/\Ext W W':=by
  have hsz:=zCs g
  obtain ⟨L,rfl,h63,hO,hL⟩:=zCz hA
  obtain ⟨R,rfl,hR,hRw⟩:=zJI hq
  refine zhM p L.length c x1 x2 x3 x4 q R.length jc W _ fun b0 hb0 w1 x1'=>?_
  have h1:=zaa x1'
  have lt1:=x1'.lt b0 (by simp)
  refine (zHB p c L h63 hO ⟨x1,x2,x3,x4⟩ w1 (hL.ext h1)).mono fun v w2 ⟨e2,f,e,hv,hiff,hno,hyes⟩=>⟨e2,f,e,hv,fun w5 h5=>?_⟩
  have x5:=(h1.trans e2).trans h5
  refine (zEn w5 (g.ext x5) (Nat.le_trans hsz x5.size)).mono fun v w6 ⟨e6,hv⟩=>⟨e6,true,hv,fun _ w8 h8=>?_,fun hgood=>?_⟩
  · have x8:=(h1.trans e2).trans h8
    exact (zEn w8 (g.ext x8) (Nat.le_trans hsz x8.size)).mono fun v w9 ⟨e9,hv⟩=>⟨e9,true,hv,fun w11 h11=>⟨rfl,(h1.trans e2).trans h11⟩⟩
  obtain ⟨⟨⟨_,hz⟩,_⟩,h20⟩:=hgood
  have hok:=hiff.1 hz
  obtain ⟨fb,P0,rfl,fx2⟩:=hyes hz
  refine ⟨fun k w'=>0<=k/\k<=R.length/\Ext W w'/\w1.heap.size<=w'.heap.size/\∃ P F,FX w1.heap.size w' fb P F/\DF L F/\idle F/\(F.jobs.length:Int)<=k,fun k _=>(R.length-k).toNat,⟨by omega,by omega,h1.trans e2,e2.size,P0,_,fx2,zHy hok,fun k hk=>(by simp [zkS] at hk),by simp [zkS]⟩,?_⟩
  rintro k w10 ⟨hk0,hk1,h10,hs10,P,F,x,D,hid,hlen⟩
  refine ⟨fun hlt=>?_,fun hge=>⟨i64 (by omega),?_⟩⟩
  · obtain ⟨r,hr⟩:∃ r,R[k.toNat]?=some r:=⟨_,List.getElem?_eq_getElem (by omega)⟩
    have gc:∀ (m:Nat) u,(encJ r)[m]?=some u->Go.Sx.cell w10 (pIdx q k 11) m=some u:=fun m u hu=>zaI h10 (hR.at hk0 hr hu)
    have g0:=gc 0 _ rfl
    obtain ⟨hW,hJ⟩:=hRw r (List.mem_of_getElem? hr)
    refine ⟨fun h=>zak g0 (zah.2 h),hk0,hlt,zak g0,_,gc 0 _ rfl,_,gc 1 _ rfl,_,gc 2 _ rfl,_,gc 3 _ rfl,_,gc 4 _ rfl,_,gc 5 _ rfl,_,gc 6 _ rfl,_,gc 7 _ rfl,_,gc 8 _ rfl,_,_,_,gc 9 _ rfl,_,_,_,gc 10 _ rfl,fun b26 hb26 w27 h27=>?_⟩
    have h27':=h10.trans h27
    refine (zHe p c L h63 hO r.j.ask r.pa r.ca hW.ask r.j.nd w27 (hL.ext h27') (hJ.1.ext h27')).mono fun v w28 ⟨e28,k',e',hv,hres⟩=>⟨e28,k',e',hv,fun he w31 x31=>?_,fun _=>⟨i64 (by omega),⟨by omega,by omega,h10,hs10,P,F,x,D,hid,by omega⟩,by simp only []; omega⟩⟩
    have hfit:zbY L r.j.ask r.j.nd L.length≠[]:=by
      rcases hres with ⟨h,_⟩|⟨_,_,h,_⟩
      · exact absurd he h
      · exact fun h0=>by rw [h0] at h; cases h
    have h31:=zaa x31
    have h31':=h10.trans h31
    have ltb:∀ b∈[b0,b26],b<w31.heap.size:=fun b hb=>by
      rcases List.mem_cons.1 hb with rfl|hb
      · have:=h31.size; omega
      · exact x31.lt b (by simp at hb ⊢; exact .inr hb)
    refine (zzB (x.ext h31) r.j r.pa r.ca r.pf r.cf (hJ.ext h31') hW (Nat.le_trans hs10 h31.size)).mono fun v w32 ⟨id,e,hv,hiff',hc⟩=>?_
    rcases hc with ⟨hne,e32⟩|⟨he0,_,P',x32,f32,_⟩
    · exact ⟨zGb e32 ltb,id,e,hv,i64 (by omega),⟨by omega,by omega,h31'.trans e32,Nat.le_trans hs10 (h31.trans e32).size,P,F,x.ext (h31.trans e32),D,hid,by omega⟩,by simp only []; omega⟩
    · have hoks:=hiff'.1.1 he0
      refine ⟨f32.kept fun b hb=>⟨ltb b hb,fun hf=>?_⟩,id,e,hv,i64 (by omega),⟨by omega,by omega,f32.ext h31' (fun b hb=>?_),Nat.le_trans hs10 (Nat.le_trans h31.size f32.size),P',_,x32,df_sub D hoks hfit,fun i hi=>?_,by rw [zpW]; omega⟩,by simp only []; omega⟩
      · have:=x.foot hf
        simp at hb
        rcases hb with rfl|rfl<;>omega
      · have:=(x.foot hb).1
        have:=h1.size
        omega
      · rw [zpW] at hi
        rw [zrX]
        by_cases hi':i<F.jobs.length
        · rw [if_pos hi']; exact hid i hi'
        · rw [if_neg hi',if_pos (by omega)]; simp [zsH]
  have hkR:k=R.length:=by omega
  refine ⟨fun k w'=>0<=k/\k<=2*R.length/\Ext W w'/\w1.heap.size<=w'.heap.size/\∃ P F,FX w1.heap.size w' fb P F/\DF L F/\idle F/\zat F<=R.length-k.toNat,fun k _=>(2*R.length-k).toNat,⟨by omega,by omega,h10,hs10,P,F,x,D,hid,by have:=zDF F F.jobs.length; show zeY F F.jobs.length<=_; omega⟩,?_⟩
  clear x D hid hlen h10 hs10 P F
  rintro k2 w13 ⟨hk20,hk21,h13,hs13,P,F,x,D,hid,hrest⟩
  refine ⟨fun hlt w14 x14=>?_,fun hge w14 x14=>?_⟩
  · have h14:=zaa x14
    have h14':=h13.trans h14
    have I:=D.inv
    refine (zDx (x.ext h14) I.i0.pre.aft I.i0.hs).mono fun v w15 ⟨G,outs,out,outc,P',hv,hpl,_,_,hP,x15,f15,_,_⟩=>⟨f15.kept fun b hb=>⟨x14.lt b hb,fun hf=>?_⟩,out,_,outc,0,hv,fun w20 x20=>?_⟩
    · have:=x.foot hf
      simp at hb; omega
    have h15':Ext W w15:=f15.ext h14' fun b hb=>by have:=(x.foot hb).1; have:=h1.size; omega
    have hs15:w1.heap.size<=w15.heap.size:=Nat.le_trans hs13 (Nat.le_trans h14.size f15.size)
    have h20:=zaa x20
    have DG:=zI2 hpl D
    have x20':=x15.ext h20
    refine (zBf x20').mono fun v w21 ⟨e21,pj,cj,S,hv,hS,J⟩=>⟨e21,pj,_,cj,hv,?_⟩
    have x21:=x20'.ext e21
    have hSl:=zDI hS
    have hG60:=x21.jO.1
    have hW21:=(h15'.trans h20).trans e21
    have hs21:w1.heap.size<=w21.heap.size:=Nat.le_trans hs15 (Nat.le_trans h20.size e21.size)
    refine ⟨fun i w'=>0<=i/\i<=S.length/\Ext W w'/\w1.heap.size<=w'.heap.size/\Fr (ft fb P'.jp) w21 w'/\∃ P2 H,P2.jp=P'.jp/\FX w1.heap.size w' fb P2 H/\DF L H/\H.jobs.length=G.jobs.length/\∀ k,k<G.jobs.length->((k:Int)<i->(zad H k).what=if (zad G k).what=2 then 3 else (zad G k).what)/\(i<=(k:Int)->zad H k=zad G k),fun i _=>(S.length-i).toNat,⟨by omega,by omega,hW21,hs21,Fr.refl _ _,P',G,rfl,x21,DG,rfl,fun k hk=>⟨fun h=>by omega,fun _=>rfl⟩⟩,?_⟩
    rintro i w27 ⟨hi0,hi1,h27,hs27,f27,P2,H,hP2,xH,DH,hHl,hHat⟩
    refine ⟨fun hil=>?_,fun hige=>⟨i64 (by omega),⟨by omega,by omega,h27,hs27,P2,H,xH,DH,fun k hk=>?_,?_⟩,by simp only []; omega⟩⟩
    · have J27:=J.fr f27 fun b hb=>by have:=(x20'.foot hb).2; exact this
      obtain ⟨r,hr,n1,n2,gc,_⟩:=J27.st hi0 hil
      obtain ⟨hkl,hja⟩:=zH2 hS hr
      have hHi:=(hHat i.toNat hkl).2 (by omega)
      refine ⟨n1,hi0,hil,n2,_,gc 0 _ rfl,_,gc 1 _ rfl,_,gc 2 _ rfl,_,gc 3 _ rfl,_,gc 4 _ rfl,_,gc 5 _ rfl,_,gc 6 _ rfl,_,gc 7 _ rfl,_,gc 8 _ rfl,_,_,_,gc 9 _ rfl,_,_,_,gc 10 _ rfl,_,gc 11 _ rfl,_,gc 12 _ rfl,_,gc 13 _ rfl,_,gc 14 _ rfl,_,gc 15 _ rfl,fun b48 hb48=>⟨fun _=>i64 (by omega),fun hw w49 x49=>?_,fun hw=>⟨i64 (by omega),⟨by omega,by omega,h27,hs27,f27,P2,H,hP2,xH,DH,hHl,fun k hk=>⟨fun h=>?_,fun h=>(hHat k hk).2 (by omega)⟩⟩,by simp only []; omega⟩⟩⟩
      · have h49:=zaa x49
        have hwH:(zad H i.toNat).what=2:=by rw [hHi,hja]; exact hw
        have hiH:i.toNat<H.jobs.length:=by rw [hHl]; exact hkl
        have e1:(i+1-1).toNat=i.toNat:=by omega
        refine (zs9 (xH.ext h49) DH.inv.i0.pre (i+1) (i64 (by omega)) true).mono fun v w50 ⟨e,hv,hiff',hc⟩=>?_
        have he0:e=0:=hiff'.2 ⟨⟨by omega,by omega⟩,by rw [e1]; exact hwH⟩
        rcases hc with ⟨hne,_⟩|⟨_,P3,hP3,x50,f50⟩
        · exact absurd he0 hne
        rw [e1] at x50
        refine ⟨f50.kept fun b hb=>⟨?_,fun hf=>?_⟩,e,hv,fun hne=>absurd he0 hne,fun _=>⟨i64 (by omega),⟨by omega,by omega,f50.ext (h27.trans h49) (fun b hb=>?_),Nat.le_trans hs27 (Nat.le_trans h49.size f50.size),(f27.tr (zac h49)).tr (by rw [<- hP2]; exact f50),P3,_,hP3.trans hP2,x50,df_rep DH hiH hwH,(zDE _ _).trans hHl,fun k hk=>⟨fun h=>?_,fun h=>?_⟩⟩,by simp only []; omega⟩⟩
        · rcases List.mem_cons.1 hb with rfl|hb
          · have:=h49.size; omega
          · exact x49.lt b (by simp at hb ⊢; exact .inr hb)
        · have:=xH.foot hf
          simp at hb
          rcases hb with rfl|rfl<;>omega
        · have:=(xH.foot hb).1
          have:=h1.size
          omega
        · rw [zDD hiH]
          by_cases hki:k=i.toNat
          · subst hki
            rw [if_pos rfl,if_pos (by rw [hja]; exact hw)]
          · rw [if_neg hki]; exact (hHat k hk).1 (by omega)
        · rw [zDD hiH,if_neg (by omega)]; exact (hHat k hk).2 (by omega)
      · by_cases hki:k=i.toNat
        · subst hki
          rw [hHi,if_neg (by rw [hja]; exact hw)]
        · exact (hHat k hk).1 (by omega)
    · rw [hHl] at hk
      rw [(hHat k hk).1 (by omega)]
      split<;>omega
    · have:=zEf D hid hpl hHl fun k hk=>(hHat k hk).1 (by omega)
      omega
  · have h14:=zaa x14
    have x14':=x.ext h14
    have hG60:=x14'.jO.1
    refine (zBf x14').mono fun v w15 ⟨e15,pj,cj,S,hv,hS,J⟩=>⟨e15,pj,_,cj,hv,fun w19 h19=>?_⟩
    have hSl:=zDI hS
    have hr0:zat F=0:=by omega
    refine (zA7 (J.ext h19) (by omega) fun r hr=>?_).mono fun v w20 ⟨e20,hv⟩=>⟨e20,false,hv,fun w22 h22=>⟨rfl,((h13.trans h14).trans e15).trans h22⟩⟩
    obtain ⟨i,hi⟩:=List.mem_iff_getElem?.1 hr
    obtain ⟨hkl,hja⟩:=zH2 hS hi
    rw [<- hja]
    exact zvn hr0 i hkl
theorem zHx (W:World) (hg:GD W):∀ x_0:Option Addr,∀ x_0l:Nat,∀ x_0c:Nat,zaH Tryz.prog W zez x_0 x_0l x_0c->∀ x_1:Int,InR .i64 x_1->∀ x_2:Int,InR .i64 x_2->∀ x_3:Int,InR .i64 x_3->∀ x_4:Int,InR .i64 x_4->∀ l:Option Addr,∀ ll:Nat,∀ lc:Nat,zaH Tryz.prog W zr1 l ll lc ->
    FnP Tryz.prog zcx #[(.agg #[(.slice x_0 x_0l x_0c),(.int .i64 x_1),(.int .i64 x_2),(.int .i64 x_3),(.int .i64 x_4)]),(.slice l ll lc)] W fun v W'=>v=.bool true/\Ext W W':=fun p hl c hA x1 _ x2 _ x3 _ x4 _ q jl jc hq=>zB9 W hg hA x1 x2 x3 x4 hq
end Go.Proofs.YtcceeahmcecbnaaGreatDoor
namespace Go.Proofs.YtcceeahmcecbnaaGreatDoor
open Go.Sx Go.RowKit Go.ChangeShapes Go.WideShapes Go.ChangeAt
theorem zF0 {H:Type} {enc:TypeId×Value->H} {a:Assume} {C:Checked} {os:Os} {f:FuncId} {fn:Func} {s:ChangeSpec} {conds:List PathCond} {apart fresh handsOn again:Bool} {X:World->Array Value->Prop}
    (hX:∀ (w w':World) (args:Array Value),w.heap=w'.heap->X w args->X w' args)
    (own:ownKnob C.prog.godebug=none) (started:os.Started) (noInit:C.prog.inits.idxOf? f=none) (hfn:C.prog.funcs[f]?=some fn)
    (witness:∃ (w:World) (tape:Tape) (i:Input),w.os=os/\(w.forCall tape i).Shaped C.prog/\i.vars=[]/\Input.okWide C.prog (w.forCall tape i) .any w.heap.size f i /\
      ((s.pre enc C.prog fn conds apart (w.forCall tape i).memory i.args/\X (w.forCall tape i).memory i.args)/\sizedMet enc C.prog fn (OpenSpec.ofChange s) apart (w.forCall tape i).memory i.args)/\a.holds C.prog (lone (Frame.enter C.prog f i.args .normal) [] (w.forCall tape i)))
    (contract:∀ (W:World) (base:Nat) (args:Array Value) (ds gs:List (DataW H)) (zb6:List MemPlace),
      (∀ (j:Nat) t v,fn.params[j]?=some t->args[j]?=some v->Value.okWide C.prog W .any base t v) ->
      DataW.Whole enc C.prog fn.params.toList s.vars apart W args.toList ds gs zb6 ->
      conds.all (PathCond.test C.prog ⟨fn.params.toList,ds,s.plain.varTypes C.prog,gs⟩)=true ->
      (DataW.weightsEach C.prog (fn.params.toList++s.plain.varTypes C.prog) (ds++gs)).all (·<=reachBytes)=true->X W args ->
      a.holds C.prog (lone (Frame.enter C.prog f args .normal) [] W)->W.ShapedOpen C.prog ->
      Calls C.prog f args W fun e W'=>∃ v,e=.returned v/\s.post enc C.prog fn apart fresh handsOn again W args v W') :
    ReturnsInHanded a C os f .any (fun w args=>(s.pre enc C.prog fn conds apart w args/\X w args)/\sizedMet enc C.prog fn (OpenSpec.ofChange s) apart w args) (s.post enc C.prog fn apart fresh handsOn again):=by
  refine returnsInHanded_of_calls own started noInit witness ?_
  intro w tape i _ hsh _ hok hpre hholds
  obtain ⟨_,_,_,fn',hfn',_,_,_,_,hval⟩:=hok
  have e:fn'=fn:=Option.some.inj (hfn'.symm.trans hfn)
  subst e
  obtain ⟨⟨⟨ds,gs,zb6,hw,hc⟩,hx⟩,hz⟩:=hpre
  refine (contract (w.forCall tape i) w.heap.size i.args ds gs zb6 hval (DataW.Whole.of_heap (w':=w.forCall tape i) (by rfl) hw) hc (hz.weights hw) (hX _ _ _ (by rfl) hx) hholds hsh).mono fun e W' ⟨v,he,hp⟩=>?_
  subst he
  exact ChangeSpec.post_blind hp
end Go.Proofs.YtcceeahmcecbnaaGreatDoor
