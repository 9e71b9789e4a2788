/- The framework, the program's texts and what is shown of them: part 6. -/
import Derived.Test.YtcceeahmcecbnaaGreatDoorWDeskAsksUpto5
import Derived.Lib.AtoiAllCases
import Derived.Lib.ParseIntBCases
import Derived.Lib.ItoaLen
import Derived.Lay
import Derived.Test.YtcceeahmcecbnaaGreatDoorRows
import Derived.Ground.Names2Prog
import Derived.Shelf.Spec.SlicesInsert
import Derived.Shelf.Spec.SlicesInsertGrow
import Derived.Test.YtcceeahmcecbnaaGreatDoorProg
set_option linter.unusedVariables false
set_option linter.unusedSimpArgs false
set_option maxRecDepth 100000
namespace Go.Proofs.YtcceeahmcecbnaaGreatDoor
open Go.Sx Go.RowKit
def zEc(w:World)(s:ByteArray)(v:Value)(w':World):Prop:=Ext w w'/\∃j pa ca pf cf e,v=.tuple #[jv j pa ca pf cf,.int .i64 e]/\WfJ j/\(∀S:Nat->Prop,(∀b,S b->b<w.heap.size)->∀w'',Fr S w' w''->IsJ w'' j pa ca pf) /\
 ((e≠0/\j=zdf/\pa=none/\ca=0/\pf=none/\cf=0)\/(e=0/\okJ j/\nod j.ask<=60/\s=ofL (jtx j)/\(txt j.ask).length<=2000))/\(3000<s.size->e=2)/\(s.size<=3000->e=0\/e=3)/\(∀j0,JT s j0->s.size<=3000->e=0/\j=j0)
theorem zgx{w w':World}{s:ByteArray}(x:Ext w w'){e:Int}(he:e≠0)(hno:∀j0,JT s j0->s.size<=3000->False)(hE:(3000<s.size->e=2)/\(s.size<=3000->e=3):=by refine⟨fun h=>?_,fun h=>?_⟩<;>omega):zEc w s (.tuple #[jv zdf none 0 none 0,.int .i64 e]) w' :=
 ⟨x,zdf,none,0,none,0,e,rfl,zhI,fun _ _ _ _=>zn2 _,.inl ⟨he,rfl,rfl,rfl,rfl,rfl⟩,hE.1,fun h=>.inr (hE.2 h),fun j0 h hs=>(hno j0 h hs).elim⟩
theorem zFr(s:ByteArray)(hs63:s.size<=9223372036854775807)(w:World)(g:GB w):FnP Tryz.prog zgo #[.string s] w (zEc w s):=by
 refine zo9 s w _ fun b0 hb0=>⟨fun hbig w1 h1=>zgx h1 (by decide) fun j0 _ h=>by omega,fun hsm w1 x1=>?_⟩
 have h1:=zaa x1
 have hb01:b0<w1.heap.size:=x1.lt b0 (by simp)
 refine(zeC 32 s (by omega) w1 (g.ext h1)).mono fun v w2 ⟨e2,hv,hc2,hlt2⟩=>⟨e2,_,_,_,hv,fun hne w6 x6=>?_,fun h5=>?_⟩
 ·refine zgx (zau x6 (h1.trans e2) (by intro d hd;simp at hd;omega)) (by decide) fun j0 hj _=>hne ?_
  rw[(zfT hj).1];rfl
 have hw2:Ext w w2:=h1.trans e2
 have hcnt:Lib.countB s (one 32)=4:=by omega
 rw[hcnt] at hc2
 have hlen:=zeq (c:=32) 4 s hcnt
 have hsz:∀i q,(Lib.splitB (one 32) 0 4 s)[i]?=some q->q.size+i<=s.size:=fun i q h=>zci _ s i q h
 have hjt:∀j0,JT s j0->Lib.splitB (one 32) 0 4 s=(jps j0).map ofL:=fun j0 hj=>(zfT hj).2
 generalize Lib.splitB (one 32) 0 4 s=Ps at hc2 hlen hsz hjt
 have spn:(some (⟨w1.heap.size,0,none⟩:Addr))≠none:=by simp
 have spb:∀a,(some (⟨w1.heap.size,0,none⟩:Addr))=some a->a.block<w2.heap.size:=fun a ha=>by obtain rfl:=Option.some.inj ha;exact hlt2
 generalize (some (⟨w1.heap.size,0,none⟩:Addr))=sp at hc2 spn spb ⊢
 obtain⟨P0,P1,P2,P3,P4,rfl⟩:∃a b c d e,Ps=[a,b,c,d,e]:=by
  match Ps,hlen with
  |[a,b,c,d,e],_ => exact⟨a,b,c,d,e,rfl⟩
 have cellP:∀{w':World}(i:Nat)(q:ByteArray),Ext w2 w'->([P0,P1,P2,P3,P4]:List ByteArray)[i]?=some q->Go.Sx.cell w' (pIdx sp (i:Int) 1) 0=some (.string q):=fun {w'} i q hx hq=>by
  rw[zad]
  have:=hc2.ext hx i (.string q) (by rw[List.getElem?_map,hq];rfl)
  simpa using this
 have s0:=hsz 0 P0 rfl
 have s1:=hsz 1 P1 rfl
 have s2:=hsz 2 P2 rfl
 have s3:=hsz 3 P3 rfl
 have s4:=hsz 4 P4 rfl
 refine⟨spn,by omega,by omega,P0,cellP 0 P0 (Ext.refl _) rfl,fun b7 hb7=>⟨spn,by omega,by omega,P1,cellP 1 P1 (Ext.refl _) rfl,fun w9 x9=>?_⟩⟩
 have hfree:∀i:Int,zvp [b7] (pIdx sp i 1):=fun i b hb a ha=>by
  simp at hb;subst hb
  cases sp with
  |none => exact absurd rfl spn
  |some x =>
   have:=spb x rfl
   simp[pIdx] at ha
   rw[<-ha,zaO];omega
 have h9:=zaa x9
 have hw9:=hw2.trans h9
 refine(zqG P1 (by omega) w9 (g.ext hw9)).mono fun v w10 ⟨e10,n1,ev,hv,hcase⟩=>⟨e10,n1,ev,hv,spn,by omega,by omega,P2,⟨cellP 2 P2 (h9.trans e10) rfl,hfree 2⟩,fun w14 x14=>?_⟩
 have hw10:=hw9.trans e10
 have h210:Ext w2 w10:=h9.trans e10
 have hb7w:w.heap.size<=b7:=Nat.le_trans hw2.size hb7
 have hw14:Ext w w14:=zau x14 hw10 (by intro d hd;simp at hd;omega)
 refine(zCq P2 (by omega) w14 (g.ext hw14)).mono fun v w15 ⟨e15,nd,en,hv,hnz,hnok,hncomp⟩=>⟨e15,nd.c,nd.m,nd.g,en,hv,spn,by omega,by omega,P4,⟨cellP 4 P4 h210 rfl,hfree 4⟩,fun w21 x21=>?_⟩
 have hw21:Ext w w21:=zau x21 hw10 (by intro d hd;simp at hd;omega)
 have h221:Ext w2 w21:=zau x21 h210 (by intro d hd;simp at hd;omega)
 have hb0_21:b0<w21.heap.size:=x21.lt b0 (by simp)
 have hb7_21:b7<w21.heap.size:=x21.lt b7 (by simp)
 refine(zvE P4 w21 (g.ext hw21)).mono fun v w22 ⟨e22,t,pa,ca,ea,hv,hWt,hTt,horA,hcompA⟩=>⟨e22,t.k,t.key,t.val,t.n,pa,t.xs.length,ca,ea,hv,fun w31 x31=>?_⟩
 have hw22:Ext w w22:=hw21.trans e22
 have h222:Ext w2 w22:=h221.trans e22
 have hn1:InR .i64 n1\/ev≠.nilIface:=by
  rcases hcase with⟨_,h⟩|⟨⟨a,b,h⟩,_⟩
  ·exact .inl (zgE h)
  ·exact .inr (by rw[h];simp)
 have parts:∀j0,JT s j0->P0=j0.user/\P1=ofL (Lib.itoa j0.prio)/\P2=ofL (zbd j0.nd)/\P3=ofL (zpJ j0.aft)/\P4=ofL (txt j0.ask):=fun j0 hj=>by
  have:=hjt j0 hj
  simp only[jps,List.map_cons,List.map_nil,List.cons.injEq,and_true] at this
  rw[zbO] at this
  exact this
 have good0:∀j0,JT s j0->s.size<=3000->ev=.nilIface/\n1=j0.prio/\en=0/\nd=j0.nd/\ea=0/\t=j0.ask:=fun j0 hj hs=>by
  obtain⟨q0,q1,q2,q3,q4⟩:=parts j0 hj
  have hp:=zgD (n:=j0.prio) (by have:=hj.ok.prio;omega)
  have ha:=hcompA j0.ask hj.ok.ask hj.nod q4 (by rw[q4,zas];exact hj.ask)
  have hd:=hncomp j0.nd hj.ok.nd q2
  rcases hcase with⟨h,h'⟩|⟨_,h'⟩
  ·rw[q1,zb9,hp] at h'
   cases h'
   exact⟨h,rfl,hd.1,hd.2,ha.1,ha.2⟩
  ·rw[q1,zb9] at h'
   exact absurd hp (h' _)
 refine ziz (by kernel_rfl) (hcase.elim (fun h=>.inl h.1) fun h=>.inr h.1) fun tb htb=>⟨Ext.refl _,tb,rfl,fun hbad w34 x34=>?_,fun hgd=>?_⟩
 ·refine zgx (zau x34 hw22 (by intro d hd;simp at hd;omega)) (by decide) fun j0 hj hs=>?_
  obtain⟨a1,_,a3,_,a5,_⟩:=good0 j0 hj hs
  rcases hbad with (h|h)|h
  ·rw[htb.2 a1] at h;cases h
  ·exact h a3
  ·exact h a5
 have hev:ev=.nilIface:=htb.1 hgd.1.1
 have hn1:InR .i64 n1:=hn1.resolve_right fun h=>h hev
 have hnd:=hnok hgd.1.2
 obtain⟨htC,htn,htx,_⟩:zlC t=0/\nod t<=60/\P4=ofL (txt t)/\P4.size<=2000:=by
  rcases horA with⟨h,_⟩|⟨_,h⟩
  ·exact absurd hgd.2 h
  ·exact h
 have htl:(txt t).length<=2000:=by rw[<-zas,<-htx];assumption
 have tail:∀(xs:List Int)(pf:Option Addr)(cf:Nat)(wt:World),Ext w wt->Fr (fun b=>b=b7) w22 wt->Own w21.heap.size wt zg3 1 pf xs.length cf (xs.map (.int .i64))->(∀x∈xs,InR .i64 x)->xs.length<=9223372036854775807->(∀j0,JT s j0->s.size<=3000->xs=j0.aft) ->
   ∀w55,zag [b7] [] wt w55->FnP Tryz.prog zdU #[jv ⟨P0,n1,nd,t,xs⟩ pa ca pf cf] w55 fun v56 w56=>Ext w55 w56/\∃t57:ByteArray,∃t58:Int,v56=(.tuple #[(.string t57),(.int .i64 t58)]) /\
    (((t58≠0)\/(t57≠s))->∀w59,zag [b0,b7] [] wt w59->zEc w s (.tuple #[jv zdf none 0 none 0,.int .i64 3]) w59) /\
    (((t58=0)/\(t57=s))->∀w59,zag [b0,b7] [] wt w59->zEc w s (.tuple #[jv ⟨P0,n1,nd,t,xs⟩ pa ca pf cf,.int .i64 0]) w59):=by
  intro xs pf cf wt hwt ft o hxr hxl hcx w55 x55
  have hW:WfJ ⟨P0,n1,nd,t,xs⟩:=⟨by show P0.size<=_;omega,hn1,hnd.1.rng,hWt,hxl,hxr⟩
  have key:∀(S:Nat->Prop),(∀b,S b->b<w21.heap.size)->∀w'',Fr S wt w''->IsJ w'' ⟨P0,n1,nd,t,xs⟩ pa ca pf:=fun S hS w'' fw=>by
   refine⟨hTt (fun b=>b=b7\/S b) (fun b hb=>by rcases hb with rfl|hb;(· exact hb7_21);exact hS b hb) w'' ((ft.mono fun b hb=>.inl hb).tr (fw.mono fun b hb=>.inr hb)),?_⟩
   exact(Own.fr o fw fun a ha hb=>by have:=(o.lt a ha).1;have:=hS _ hb;omega).cells
  have f55:Fr (fun b=>b=b7) wt w55:=zbD x55 (by intro d hd;simp at hd;exact .inl hd)
  have hw55:Ext w w55:=zau x55 hwt (by intro d hd;simp at hd;omega)
  refine(zwq ⟨P0,n1,nd,t,xs⟩ pa ca pf cf w55 (key (fun b=>b=b7) (fun b hb=>by omega) w55 f55) hW (by show nod t<=_;omega) (g.ext hw55)).mono fun v w56 ⟨e56,tt,e,hv,heq,hem,htt⟩=>⟨e56,tt,e,hv,fun hbad w59 x59=>?_,fun hgood w59 x59=>?_⟩
  ·refine zgx (zau x59 hwt (by intro d hd;simp at hd;omega)) (by decide) fun j0 hj hs=>?_
   obtain⟨q0,_⟩:=parts j0 hj
   obtain⟨_,a2,_,a4,_,a6⟩:=good0 j0 hj hs
   have hxa:=hcx j0 hj hs
   have hj0:(⟨P0,n1,nd,t,xs⟩:Jb)=j0:=by rw[q0,a2,a4,a6,hxa]
   have he0:e=0:=heq.2 (by rw[hj0];exact hj.ok)
   rcases hbad with h|h
   ·exact h he0
   ·exact h (by rw[htt he0,hj0];exact hj.is.symm)
  ·refine⟨zau x59 hwt (by intro d hd;simp at hd;omega),⟨P0,n1,nd,t,xs⟩,pa,ca,pf,cf,0,rfl,hW,fun S hS w'' fw=>?_,.inr ⟨rfl,heq.1 hgood.1,htn,by rw[<-hgood.2];exact htt hgood.1,htl⟩,fun h=>by omega,fun _=>.inl rfl,fun j0 hj hs=>⟨rfl,?_⟩⟩
   ·refine key (fun b=>S b\/b=b0\/b=b7) (fun b hb=>?_) w'' ((zbD x59 (by intro d hd;simp at hd;exact .inl (.inr hd))).tr (fw.mono fun b hb=>.inl hb))
    have:=hw21.size
    rcases hb with hb|rfl|rfl
    ·have:=hS b hb;omega
    ·exact hb0_21
    ·exact hb7_21
   ·obtain⟨q0,_⟩:=parts j0 hj
    obtain⟨_,a2,_,a4,_,a6⟩:=good0 j0 hj hs
    rw[q0,a2,a4,a6,hcx j0 hj hs]
 refine⟨spn,by omega,by omega,P3,⟨cellP 3 P3 h222 rfl,hfree 3⟩,fun hne3=>⟨spn,by omega,by omega,P3,⟨cellP 3 P3 h222 rfl,hfree 3⟩,fun w36 x36=>?_⟩,fun heq3 w35 x35=>?_⟩
 rotate_left
 ·refine tail [] none 0 w22 hw22 (Fr.refl _ _) Own.nil (fun x hx=>by cases hx) (by simp) (fun j0 hj hs=>?_) w35 x35
  obtain⟨_,_,_,q3,_⟩:=parts j0 hj
  have:zpJ j0.aft=[45]:=zl8 (q3.symm.trans heq3)
  rcases zxG this with h|⟨x,h,hx⟩
  ·exact h.symm
  ·have hup:=zge hj.ok.up x (by rw[h];simp)
   rw[zdy (by omega)] at hx
   have:=zcK x.toNat 45 (by rw[hx];simp)
   exact absurd this (by decide)
 have f36:Fr (fun b=>b=b7) w22 w36:=zbD x36 (by intro d hd;simp at hd;exact .inl hd)
 have hw36:Ext w w36:=zau x36 hw22 (by intro d hd;simp at hd;omega)
 have hb0_36:b0<w36.heap.size:=x36.lt b0 (by simp)
 have hb7_36:b7<w36.heap.size:=x36.lt b7 (by simp)
 refine(zeC 44 P3 (by omega) w36 (g.ext hw36)).mono fun v w37 ⟨e37,hv,hc37,hlt37⟩=>⟨e37,_,_,_,hv,?_⟩
 have zFQ:=zeq (c:=44) _ P3 rfl
 have qsz:∀i q,(Lib.splitB (one 44) 0 (Lib.countB P3 (one 44)) P3)[i]?=some q->q.size+i<=P3.size:=fun i q h=>zci _ P3 i q h
 have qjt:∀j0,JT s j0->Lib.countB P3 (one 44)+1=j0.aft.length/\Lib.splitB (one 44) 0 (Lib.countB P3 (one 44)) P3=(j0.aft.map Lib.itoa).map ofL:=fun j0 hj=>by
  obtain⟨_,_,_,q3,_⟩:=parts j0 hj
  have hne:j0.aft≠[]:=fun h=>hne3 (by rw[q3,h];rfl)
  rw[q3]
  exact zpp hne
 generalize Lib.splitB (one 44) 0 (Lib.countB P3 (one 44)) P3=Qs at hc37 zFQ qsz qjt
 generalize Lib.countB P3 (one 44)=m at zFQ qjt ⊢
 have qpn:(some (⟨w36.heap.size,0,none⟩:Addr))≠none:=by simp
 have qpb:∀a,(some (⟨w36.heap.size,0,none⟩:Addr))=some a->a.block≠b7:=fun a ha=>by obtain rfl:=Option.some.inj ha;show w36.heap.size≠b7;omega
 generalize (some (⟨w36.heap.size,0,none⟩:Addr))=qp at hc37 qpn qpb ⊢
 have hw37:Ext w w37:=hw36.trans e37
 have hb37:b0<w37.heap.size/\b7<w37.heap.size:=by have:=e37.size;omega
 refine⟨fun k c43 c44 c45 c46 c47 c48 c49 c50 c51 c52 cl52 cc52 c53 cl53 cc53 w'=>(c43=P0/\c44=n1/\c45=nd.c/\c46=nd.m/\c47=nd.g/\c48=t.k/\c49=t.key/\c50=t.val/\c51=t.n/\c52=pa/\cl52=t.xs.length/\cc52=ca)/\0<=k/\k<=(m+1:Nat)/\Ext w w'/\Fr (fun b=>b=b7) w37 w' /\
   ∃xs:List Int,cl53=xs.length/\xs.length=k.toNat/\Own w37.heap.size w' zg3 1 c53 cl53 cc53 (xs.map (.int .i64))/\∀(i:Nat) x,xs[i]?=some x->∃q,Qs[i]?=some q/\Lib.parseIntB 64 q.data.toList=.ok x,fun k _ _ _ _ _ _ _ _ _ _ _ _ _ _ _ _=>(m+1-k).toNat,
  ⟨⟨rfl,rfl,rfl,rfl,rfl,rfl,rfl,rfl,rfl,rfl,rfl,rfl⟩,by omega,by omega,hw37,Fr.refl _ _,[],rfl,rfl,Own.nil,fun i x h=>by simp at h⟩,?_⟩
 rintro k c43 c44 c45 c46 c47 c48 c49 c50 c51 c52 cl52 cc52 c53 cl53 cc53 w54 ⟨⟨rfl,rfl,rfl,rfl,rfl,rfl,rfl,rfl,rfl,rfl,rfl,rfl⟩,hk0,hk1,hw54,f54,xs,rfl,hxk,o54,hxs⟩
 have c54:zat w54 qp (Qs.map Value.string):=hc37.fr f54 fun a ha=>qpb a ha
 refine⟨fun hlt=>?_,fun hge=>?_⟩
 rotate_left
 ·have f22:Fr (fun b=>b=b7) w22 w54:=(f36.tr (zac e37)).tr f54
  have sz:w21.heap.size<=w37.heap.size:=by have:=e22.size;have:=f36.size;have:=e37.size;omega
  refine tail xs c53 cc53 w54 hw54 f22 (o54.weak sz) (fun x hx=>?_) ?_ fun j0 hj hs=>?_
  ·obtain⟨i,hi⟩:=List.getElem?_of_mem hx
   obtain⟨q,_,hq⟩:=hxs i x hi
   exact zgE hq
  ·have:=o54.le;omega
  ·obtain⟨h1,h2⟩:=qjt j0 hj
   have hkl:xs.length=j0.aft.length:=by omega
   refine List.ext_getElem? fun i=>?_
   rcases Nat.lt_or_ge i xs.length with hi|hi
   ·obtain⟨q,hq,hp⟩:=hxs i xs[i] (List.getElem?_eq_getElem hi)
    rw[h2,List.map_map,List.getElem?_map,List.getElem?_eq_getElem (by omega:i<j0.aft.length)] at hq
    simp only[Option.map_some,Option.some.injEq] at hq
    have hup:=zge hj.ok.up (j0.aft[i]'(by omega)) (List.getElem_mem _)
    rw[<-hq] at hp
    have hp2:=zgD (n:=j0.aft[i]'(by omega)) (by omega)
    have hp3:Lib.parseIntB 64 (Lib.itoa (j0.aft[i]'(by omega)))=.ok xs[i]:=hp
    rw[hp2] at hp3
    injection hp3 with h3
    rw[List.getElem?_eq_getElem hi,List.getElem?_eq_getElem (by omega:i<j0.aft.length),h3]
   ·rw[List.getElem?_eq_none hi,List.getElem?_eq_none (by omega)]
 obtain⟨pc,hpc⟩:∃pc,Qs[k.toNat]?=some pc:=⟨_,List.getElem?_eq_getElem (by omega)⟩
 have hcell:Go.Sx.cell w54 (pIdx qp k 1) 0=some (.string pc):=by
  rw[zad]
  exact c54 _ _ (by simp[hpc])
 have hpsz:=qsz _ _ hpc
 have hqfree:zvp [b7] (pIdx qp k 1):=fun b hb a ha=>by
  simp at hb;subst hb
  cases qp with
  |none => exact absurd rfl qpn
  |some x =>
   simp[pIdx] at ha
   rw[<-ha,zaO];exact qpb x rfl
 refine⟨qpn,hk0,hlt,pc,⟨hcell,hqfree⟩,fun w56 x56=>?_⟩
 have hw56:Ext w w56:=zau x56 hw54 (by intro d hd;simp at hd;omega)
 have f56:Fr (fun b=>b=b7) w37 w56:=f54.tr (zbD x56 (by intro d hd;simp at hd;exact .inl hd))
 refine(zqG pc (by omega) w56 (g.ext hw56)).mono fun v w57 ⟨e57,x,ev2,hv,hcase2⟩=>⟨e57,x,ev2,hv,fun w60 h60=>?_⟩
 have hw57:=hw56.trans e57
 refine ziz (by kernel_rfl) (hcase2.elim (fun h=>.inl h.1) fun h=>.inr h.1) fun tb2 htb2=>⟨Ext.refl _,tb2,rfl,fun hbad w63 x63=>?_,fun hok=>?_⟩
 ·refine zgx (zau x63 hw57 (by intro d hd;simp at hd;omega)) (by decide) fun j0 hj hs=>?_
  obtain⟨h1,h2⟩:=qjt j0 hj
  rw[h2,List.map_map,List.getElem?_map,List.getElem?_eq_getElem (by omega:k.toNat<j0.aft.length)] at hpc
  simp only[Option.map_some,Option.some.injEq] at hpc
  have hup:=zge hj.ok.up (j0.aft[k.toNat]'(by omega)) (List.getElem_mem _)
  have hp2:=zgD (n:=j0.aft[k.toNat]'(by omega)) (by omega)
  rcases hcase2 with⟨h,_⟩|⟨_,h⟩
  ·rw[htb2.2 h] at hbad;cases hbad
  ·rw[<-hpc] at h
   exact h _ hp2
 ·have hx:Lib.parseIntB 64 pc.data.toList=.ok x:=by
   have:=htb2.1 hok
   rcases hcase2 with⟨_,h⟩|⟨⟨a,b,h⟩,_⟩
   ·exact h
   ·rw[this] at h;cases h
  have f57:Fr (fun b=>b=b7) w37 w57:=f56.tr (zac e57)
  have o57:Own w37.heap.size w57 zg3 1 c53 xs.length cc53 (xs.map (.int .i64)):=Own.ext (Own.fr o54 (zbD x56 (by intro d hd;simp at hd;exact .inl hd):Fr (fun b=>b=b7) w54 w56) fun a ha hb=>by have:=(o54.lt a ha).1;omega) e57
  refine zgF zfd o57 f57.size (fun b hb y hy=>by have:=(o57.lt y hy).1;simp at hb;rcases hb with rfl|rfl<;>omega) (by omega) (by omega) fun p' c' w' o' g' _ _=>⟨i64 (by omega),⟨⟨rfl,rfl,rfl,rfl,rfl,rfl,rfl,rfl,rfl,rfl,rfl,rfl⟩,by omega,by omega,?_,?_,xs++[x],by simp,by simp;omega,o',fun i y hy=>?_⟩,by simp only[];omega⟩
  ·have hsz37:=hw37.size
   exact g'.ext hw57 (o57.weak hsz37)
  ·have hB:Below w37.heap.size w57 w':=⟨g'.by_.os,g'.by_.tape,g'.by_.output,g'.by_.size,fun b hb=>g'.by_.block b (by have:=f57.size;omega) fun h=>by
    cases hp:c53 with
    |none => rw[hp] at h;simp[blk] at h
    |some a => rw[hp] at h;simp[blk] at h;have:=(o57.lt a hp).1;omega⟩
   exact⟨hB.os.trans f57.os,hB.tape.trans f57.tape,hB.output.trans f57.output,Nat.le_trans f57.size hB.size,fun b hb hn=>(hB.block b hb).trans (f57.block b hb hn)⟩
  ·rcases Nat.lt_or_ge i xs.length with hi|hi
   ·rw[List.getElem?_append_left hi] at hy
    exact hxs i y hy
   ·rw[List.getElem?_append_right hi] at hy
    obtain⟨hi2,hy2⟩:=List.getElem?_eq_some_iff.1 hy
    simp at hi2 hy2
    obtain rfl:i=k.toNat:=by omega
    exact⟨pc,hpc,by rw[<-hy2];exact hx⟩
section
variable {O:Nat->Prop} {B fb:Nat} {w:World} {P:Pl} {F:Fm}
theorem zDj(x:FXO O B w fb P F)(j:Jb)(pa:Option Addr)(ca:Nat)(pf:Option Addr)(cf:Nat)(hJ:IsJ w j pa ca pf)(hW:WfJ j)(hB:B<=w.heap.size) :
  FnP Tryz.prog zbG #[.pointer (ptr fb),jv j pa ca pf cf] w fun v w'=>∃id e:Int,v=.tuple #[.int .i64 id,.int .i64 e]/\((e=0↔zz1 F j)/\zHA F j e)/\((e≠0/\Ext w w'/\id=0)\/(e=0/\id=F.jobs.length+1/\∃P',FXO O B w' fb P' (zta F j)/\Fr (ft fb P.jp) w w'/\zFi w fb P.jp P'.jp)):=by
 have ne:=zaG fb
 have hl0:=x.jO.1
 refine zfh (ptr fb) j.user j.prio j.nd.c j.nd.m j.nd.g j.ask.k j.ask.key j.ask.val j.ask.n pa j.ask.xs.length ca pf j.aft.length cf w _ fun b0 hb0 w1 h1=>?_
 refine(zB8 j pa ca pf cf w1 (hJ.ext h1) hW).mono fun v w2 ⟨e2,hv⟩=>⟨e2,zs7 j,hv,fun hne w4 h4=>⟨0,zs7 j,rfl,⟨⟨fun h=>absurd h hne,fun h=>absurd (zir.2 h.1) hne⟩,.inl ⟨hne,rfl⟩⟩,.inl ⟨hne,h4,rfl⟩⟩,fun hz=>?_⟩
 have hok:=zir.1 hz
 have hlen:=hok.len
 have hup:=zge hok.up
 refine⟨ne,ne,_,_,_,x.cell (i:=6) rfl,fun h60 w7 h7=>⟨0,7,rfl,⟨⟨fun h=>(by cases h),fun h=>absurd (by have:=x.len;omega) h.2.1⟩,.inr ⟨hz,.inl ⟨by have:=x.len;omega,rfl⟩⟩⟩,.inl ⟨by decide,h7,rfl⟩⟩,fun h60=>?_⟩
 refine⟨fun k w'=>Ext w w'/\0<=k/\k<=j.aft.length/\∀i:Nat,(i:Int)<k->j.aft.getD i 0<=F.jobs.length,fun k _=>(j.aft.length-k).toNat,⟨Ext.refl _,by omega,by omega,fun i hi=>by omega⟩,?_⟩
 rintro k w9 ⟨x9,hk0,hk1,hrng⟩
 have gmem:∀{k:Int},0<=k->k<j.aft.length->j.aft.getD k.toNat 0∈j.aft:=fun h0 h1=>zaq j.aft 0 (by omega)
 refine⟨fun hlt=>?_,fun hge=>?_⟩
 ·have g:=zdJ.idx (hJ.2.ext x9) hk0 hlt
  have hy:=hup _ (gmem hk0 hlt)
  refine⟨fun h=>zal g (zah.2 h),hk0,hlt,_,g,fun w11 x11=>?_⟩
  have h11:=x9.trans (zaa x11)
  refine(zEs (x.ext h11) _ (i64 (by omega))).mono fun v w12 ⟨e12,hv⟩=>⟨e12,?_⟩
  rcases hv with⟨hno,rfl⟩|⟨_,hin,rfl⟩
  ·exact⟨_,rfl,fun _ w14 h14=>⟨0,5,rfl,⟨⟨fun h=>(by cases h),fun h=>absurd ⟨hy.1,(h.2.2 _ (gmem hk0 hlt)).1⟩ hno⟩,.inr ⟨hz,.inr ⟨by have:=x.len;omega,.inl ⟨⟨_,gmem hk0 hlt,hno⟩,rfl⟩⟩⟩⟩,.inl ⟨by decide,(h11.trans e12).trans h14,rfl⟩⟩,fun h=>absurd rfl h⟩
  ·obtain⟨q,hq,hne,_⟩:=zlO x ⟨hy.1,hin⟩ (h11.trans e12)
   refine⟨_,rfl,fun h=>absurd (hq.symm.trans h) hne,fun _=>⟨i64 (by omega),⟨h11.trans e12,by omega,by omega,fun i hi=>?_⟩,by simp only[];omega⟩⟩
   by_cases hik:(i:Int)<k
   ·exact hrng i hik
   ·obtain rfl:i=k.toNat:=by omega
    exact hin
 have hall:∀y∈j.aft,y<=F.jobs.length:=fun y hy=>by
  obtain⟨i,hi,rfl⟩:=List.mem_iff_getElem.1 hy
  have:=hrng i (by omega)
  simpa[List.getD_eq_getElem?_getD,hi] using this
 refine⟨fun k w'=>Ext w w'/\0<=k/\k<=j.aft.length/\∀i:Nat,(i:Int)<k->zaX F (j.aft.getD i 0)≠4/\zaX F (j.aft.getD i 0)≠5,fun k _=>(j.aft.length-k).toNat,⟨x9,by omega,by omega,fun i hi=>by omega⟩,?_⟩
 clear hrng hge hk0 hk1
 rintro k w12 ⟨x12,hk0,hk1,hrng⟩
 refine⟨fun hlt=>?_,fun hge=>?_⟩
 ·have g:=zdJ.idx (hJ.2.ext x12) hk0 hlt
  have hy:=hup _ (gmem hk0 hlt)
  have hy2:=hall _ (gmem hk0 hlt)
  refine⟨fun h=>zal g (zah.2 h),hk0,hlt,_,g,fun w14 x14=>?_⟩
  have h14:=x12.trans (zaa x14)
  refine(zEs (x.ext h14) _ (i64 (by omega))).mono fun v w15 ⟨e15,hv⟩=>⟨e15,?_⟩
  rcases hv with⟨hno,_⟩|⟨_,hin,rfl⟩
  ·exact absurd ⟨hy.1,hy2⟩ hno
  ·obtain⟨q,hq,hne,hg⟩:=zlO x ⟨hy.1,hin⟩ (h14.trans e15)
   refine⟨_,rfl,by rw[hq];exact hne,by rw[hq];exact hne,_,by rw[hq];exact hg,fun hbad w18 h18=>⟨0,9,rfl,⟨⟨fun h=>(by cases h),fun h=>?_⟩,.inr ⟨hz,.inr ⟨by have:=x.len;omega,.inr ⟨fun y hy=>⟨(hup y hy).1,hall y hy⟩,.inl ⟨⟨_,gmem hk0 hlt,hbad⟩,rfl⟩⟩⟩⟩⟩,.inl ⟨by decide,(h14.trans e15).trans h18,rfl⟩⟩,fun hgd=>⟨i64 (by omega),⟨h14.trans e15,by omega,by omega,fun i hi=>?_⟩,by simp only[];omega⟩⟩
   ·have:=(h.2.2 _ (gmem hk0 hlt)).2
    rcases hbad with h|h
    ·exact absurd h this.1
    ·exact absurd h this.2
   ·by_cases hik:(i:Int)<k
    ·exact hrng i hik
    ·obtain rfl:i=k.toNat:=by omega
     exact hgd
 have hall2:∀y∈j.aft,zaX F y≠4/\zaX F y≠5:=fun y hy=>by
  obtain⟨i,hi,rfl⟩:=List.mem_iff_getElem.1 hy
  have:=hrng i (by omega)
  simpa[List.getD_eq_getElem?_getD,hi] using this
 have hoks:zz1 F j:=⟨hok,by have:=x.len;omega,fun y hy=>⟨hall y hy,hall2 y hy⟩⟩
 have x12':=x.ext x12
 refine⟨ne,ne,_,_,_,x12'.cell (i:=6) rfl,fun w16 x16=>?_⟩
 have h16:=x12.trans (zaa x16)
 have hE:zeE j.ask=0:=by
  have:=hok.ask
  unfold zlC at this
  split at this
  ·cases this
  ·exact this
 refine(zCG ⟨zua j,pa,ca,pf,cf⟩ w16 (hJ.ext h16) hE hok.len).mono fun v w17 ⟨e17,r,hv,hrs,hF⟩=>⟨e17,r.s.job.user,r.s.job.prio,r.s.job.nd.c,r.s.job.nd.m,r.s.job.nd.g,r.s.job.ask.k,r.s.job.ask.key,r.s.job.ask.val,r.s.job.ask.n,r.pa,r.s.job.ask.xs.length,r.ca,r.pf,r.s.job.aft.length,r.cf,r.s.what,r.s.host,r.s.since,r.s.again,r.s.tries,hv,?_⟩
 have h17:=h16.trans e17
 have x17:=x.ext h17
 have hlR:=x.len
 have hn60:F.jobs.length≠60:=hoks.2.1
 have hbj:∀b∈[b0],∀y,P.jp=some y->y.block≠b:=fun b hb y hy=>by simp at hb;subst hb;have:=(x.arr.lt y hy).2;omega
 refine zpe (v:=sv r) zg9 (by omega) x17.arr (Nat.le_trans hB h17.size) hbj rfl (zx5 r) (by omega) (by omega) (by omega) fun p' c' w44 o44 g44 hp' hb44=>⟨ne,ne,?_⟩
 have apF:zbo (ptr fb) P.jp:=fun u y hu hy=>by cases hu;exact fun h=>x.ap y hy h.symm
 have s44:=x17.slot.st apF g44
 have hfb:=(x.slot.lt _ rfl).2
 have apP:∀a,p'=some a->a.block≠fb:=fun a ha he=>by
  rcases g44.new with hn|hn
  ·rw[ha] at hn
   cases hj:P.jp with
   |none => rw[hj] at hn;simp[blk] at hn
   |some y => rw[hj] at hn;simp[blk] at hn;exact x.ap y hj (hn▸he)
  ·have h1:=hn a ha
   have h2:=h17.size
   have h3:fb<w.heap.size:=hfb
   omega
 refine zaU (off:=6) s44 rfl (by simp) (by simp) (by intro u hu;simp at hu;subst hu;rfl) (fun b hb y hy he=>by cases hy;simp at hb;subst hb;have h3:fb<w.heap.size:=hfb;have he:fb=b:=he;omega) fun w48 o48 g48=>?_
 have f48:Fr (ft fb P.jp) w17 w48:=(zaR g44 fun a ha=>.inr ⟨a,ha,rfl⟩).tr (zaR g48 fun a ha=>by cases ha;exact .inl rfl)
 have hft:∀b,ft fb p' b->ft fb P.jp b\/w17.heap.size<=b:=fun b hb=>by
  rcases hb with h|⟨a,ha,rfl⟩
  ·exact .inl (.inl h)
  ·rcases g44.new with hn|hn
   ·left
    rw[ha] at hn
    cases hj:P.jp with
    |none => rw[hj] at hn;simp[blk] at hn
    |some y => rw[hj] at hn;simp[blk] at hn;exact .inr ⟨y,rfl,hn.symm⟩
   ·exact .inr (hn a ha)
 have step:∀{w'' w0:World},Ext w0 w17->Fr (ftO O fb p') w48 w''->Fr (ftO O fb P.jp) w0 w'':=fun h0 kf=>((zac h0).tr (f48.mono fun b hb=>.inr hb)).trans kf fun b hb=>by
  rcases hb with hb|hb
  ·exact .inl (.inl hb)
  ·rcases hft b hb with h|h
   ·exact .inl (.inr h)
   ·exact .inr (Nat.le_trans h0.size h)
 have y48:FXO O B w48 fb ⟨P.hp,P.hc,p',c',P.R++[r]⟩ (zta F j):=by
  refine⟨?_,?_,?_,fun w'' kf=>x.hs w'' (step h17 kf),fun r' hr' w'' kf=>?_,apP,x.hO,?_,fun b hb=>by have:=x.olt b hb;have:=h17.size;have:=f48.size;omega,fun b hb hf=>(hft b hf).elim (x.odis b hb) fun h=>by have:=x.olt b hb;have:=h17.size;omega⟩
  ·show Own B w48 zdb 7 (ptr fb) 1 1 [_,_,_,_,_,_,.slice p' (P.R++[r]).length c']
   rw[List.length_append]
   exact o48
  ·show Own B w48 zjO 16 p' (P.R++[r]).length c' ((P.R++[r]).flatMap ztw)
   rw[List.length_append,List.flatMap_append]
   have:=o44.st (fun u v hu hv=>by cases hv;exact apP u hu) g48
   simpa[Value.cells] using this
  ·show(P.R++[r]).map (·.s)=F.jobs++[zua j]
   rw[List.map_append,x.map];simp[hrs]
  ·have hr':r'∈P.R++[r]:=hr'
   rcases List.mem_append.1 hr' with hr'|hr'
   ·exact x.js r' hr' w'' (step h17 kf)
   ·simp at hr';subst hr'
    have:=hF (ftO O fb P.jp) (fun b hb=>by
     rcases hb with hb|hb
     ·have:=x.olt b hb;have:=h16.size;omega
     ·have:=(x.foot hb).2;have:=h16.size;omega) w'' (step (Ext.refl _) kf)
    rw[hrs]
    exact this
  ·refine⟨by show(F.jobs++[zua j]).length<=60;rw[List.length_append];simp;omega,fun s hs=>?_⟩
   have hs:s∈F.jobs++[zua j]:=hs
   rcases List.mem_append.1 hs with hs|hs
   ·exact x.jO.2 s hs
   ·simp at hs;subst hs;exact⟨hok,hW⟩
 refine⟨ne,ne,_,_,_,y48.cell (i:=6) rfl,fun w52 h52=>⟨_,0,rfl,⟨⟨fun _=>hoks,fun _=>rfl⟩,.inr ⟨hz,.inr ⟨hn60,.inr ⟨fun y hy=>⟨(hup y hy).1,hall y hy⟩,.inr ⟨hall2,rfl⟩⟩⟩⟩⟩,.inr ⟨rfl,?_,_,y48.ext h52,((zac h17).tr f48).tr (zac h52),fun b hb=>?_⟩⟩⟩
 ·simp;omega
 ·rcases hft b hb with h|h
  ·exact .inl h
  ·exact .inr (Nat.le_trans h17.size h)
end
theorem zBp{w:World}{p:Option Addr}{c:Nat}{ws:List ByteArray}(k:Nat)(hk:k<ws.length)(hc:ws.length<=c)(h:zat w p (ws.map Value.string)):zat w (pCut p c (k:Int) 1) ((ws.drop k).map Value.string):=by
 have e:pCut p c (k:Int) 1=p.map (·.add k):=by
  unfold pCut
  rw[if_neg (by simp;omega)]
  simp
 rw[e]
 intro i v hv
 have h2:=h (k+i) v (by rw[List.getElem?_map,List.getElem?_drop] at hv;rw[List.getElem?_map];exact hv)
 cases p with
 |none => simp[cell] at h2
 |some a =>
  simp only[Option.map_some,cell,Option.bind_some] at h2 ⊢
  have:(a.add k).add i=a.add (k+i):=by
   by_cases h0:k=0
   ·subst h0;simp[Addr.add]
   ·by_cases hi:i=0
    ·subst hi;simp[Addr.add,h0]
    ·simp[Addr.add,h0,hi,Nat.add_assoc]
  rw[this];exact h2
def znr(ws:List ByteArray)(k:Nat):ByteArray:=ofL (Lib.join ((ws.drop k).map (·.data.toList)) [32])
theorem zHe{wp:Option Addr}{wc:Nat}{ws:List ByteArray}{w:World}(k:Nat)(hk:k<ws.length)(hc:ws.length<=wc)(h10:ws.length<=10)(hsz:∀x∈ws,x.size<=4294967281)(hw:zat w wp (ws.map Value.string)) :
  FnP Tryz.prog za7 #[.slice (pCut wp wc (k:Int) 1) ((ws.length:Int)-(k:Int)).toNat (wc-((k:Int)).toNat),.string (one 32)] w fun v w'=>Ext w w'/\v=.string (znr ws k)/\(znr ws k).size<=42949672820:=by
 have hb:(Lib.join ((ws.drop k).map (·.data.toList)) [32]).length<=42949672820:=by
  have:=zhf (c:=32) (m:=4294967281) ((ws.drop k).map (·.data.toList)) (fun y hy=>by
   obtain⟨x,hx,rfl⟩:=List.mem_map.1 hy
   have:=hsz x (List.mem_of_mem_drop hx)
   rw[zg6];exact this)
  rw[List.length_map,List.length_drop] at this
  omega
 have e:((ws.length:Int)-(k:Int)).toNat=(ws.drop k).length:=by rw[List.length_drop];omega
 rw[e]
 exact(zAI (ws.drop k) 32 _ _ (by rw[List.length_drop];simp;omega) w (zBp k hk hc hw) (by omega) (by rw[List.length_drop];omega)).mono fun v w' ⟨h1,h2⟩=>⟨h1,h2,by unfold znr;rw[zas];exact hb⟩
def zFS(t:ByteArray)(e:Int)(j:Jb):Prop:=(3000<t.size->e=2)/\(t.size<=3000->e=0\/e=3)/\(e=0->JT t j)/\(∀j0,JT t j0->t.size<=3000->e=0/\j=j0)
def zhx(t:ByteArray)(σ:DS)(c:Int)(s:ByteArray)(σ':DS):Prop:=match σ with
 |.shut _ => False
 |.opn F => ∃e j,zFS t e j/\((e≠0/\c=e/\σ'=.opn F)\/(e=0/\zHA F j c/\((c≠0/\σ'=.opn F)\/(c=0/\s=ofL (Lib.itoa (F.jobs.length+1))/\σ'=.opn (zta F j)))))
section
variable {O:Nat->Prop} {B db:Nat} {w:World} {K:Kt}
theorem zGh(x:KX O B w db K){fb:Nat}{P:Pl}{F:Fm}(hK:K.farm=some (fb,P,F))(g:GD w)(hB:11<=B)(hBw:B<=w.heap.size)(wp:Option Addr)(wc:Nat)(ws:List ByteArray)(h1:1<ws.length)(hc:ws.length<=wc)(h10:ws.length<=10)
  (hsz:∀x∈ws,x.size<=4294967281) (hw:zat w wp (ws.map Value.string)) :
  FnP Tryz.prog zfD #[.pointer (ptr db),.slice wp ws.length wc] w (CR O B db w K fun s c σ'=>zhx (znr ws 1) K.st c s σ'):=by
 have ne:=zaG db
 refine zj6 (ptr db) wp ws.length wc w _ ⟨by omega,by omega,by omega,fun w0 x0=>(zHe 1 h1 hc h10 hsz (hw.ext x0)).mono fun v w1 ⟨e1,hv,hs⟩=>⟨e1,_,hv,fun w3 x3=>?_⟩⟩
 generalize znr ws 1=t at hs ⊢
 refine(zFr t (by omega) w3 (g.gb.ext x3)).mono fun v w4 ⟨e4,j,pa,ca,pf,cf,e,hv,hW,hJ,hor,hb2,hb3,hcomp⟩=>⟨e4,j.user,j.prio,j.nd.c,j.nd.m,j.nd.g,j.ask.k,j.ask.key,j.ask.val,j.ask.n,pa,j.ask.xs.length,ca,pf,j.aft.length,cf,e,hv,fun b21 hb21=>?_⟩
 have x4:=x3.trans e4
 have hread:zFS t e j:=⟨hb2,hb3,fun h=>by
  rcases hor with⟨h',_⟩|⟨_,q1,q2,q3,q4⟩
  ·exact absurd h h'
  ·exact⟨q1,by omega,q3,q4⟩,hcomp⟩
 refine⟨fun hne w22 x22=>zt8 ⟨Ext.refl _,_,rfl,rfl,fun w25 x25=>zzU ⟨Ext.refl _,_,rfl,fun w28 h28=>?_⟩⟩,fun hz=>⟨ne,ne,_,(x.ext x4).fbp hK,fun w23 x23=>?_⟩⟩
 ·refine zcn x (((x4.trans (zaa x22)).trans (zaa x25)).trans h28) (zzC hne) ?_
  rw[Kt.st_opn hK]
  exact⟨e,j,hread,.inl ⟨hne,rfl,rfl⟩⟩
 have h23:=x4.trans (zaa x23)
 have y:=x.ext h23
 obtain⟨fx,I,W⟩:=y.opn fb P F hK
 have hb21':=x23.lt b21 (by simp)
 have hft:∀b,KF db K b->b≠b21:=fun b hb he=>by
  have:=((x.ext x4).foot hb).2
  omega
 refine(zDj fx j pa ca pf cf (hJ (fun _=>False) (fun _ h=>h.elim) w23 (zac (zaa x23))) hW (Nat.le_trans hBw h23.size)).mono fun v w24 ⟨id,e',hv,⟨hiff,hE⟩,hres⟩=>⟨?_,id,e',hv,fun w27 h27=>?_⟩
 ·rcases hres with⟨_,h,_⟩|⟨_,_,P',_,f,_⟩
  ·exact(zac (S:=fun _=>False) h).kept fun b hb=>by simp at hb;subst hb;exact⟨hb21',fun h=>h⟩
  ·exact f.kept fun b hb=>by
    simp at hb;subst hb
    exact⟨hb21',fun h=>hft _ (.inr ⟨fb,P,F,hK,h⟩) rfl⟩
 have hR:∃K',KX O B w24 db K'/\Fr (KF db K) w23 w24/\ztV w23 db K K'/\(InR .i64 id)/\∀s:ByteArray,s=ofL (Lib.itoa id)->zhx t K.st e' s K'.st:=by
  rcases hres with⟨hne,h,rfl⟩|⟨he0,hid,P',fx',f,hg⟩
  ·refine⟨K,y.ext h,zac h,fun b hb=>.inl hb,i64 (by omega),fun s _=>?_⟩
   rw[Kt.st_opn hK]
   exact⟨e,j,hread,.inr ⟨hz,hE,.inl ⟨hne,rfl⟩⟩⟩
  ·have hok:=hiff.1 he0
   obtain⟨a1,a2,a3⟩:=y.turn hK fx' f hg (zDh I hok) (W.sub j)
   refine⟨_,a1,a2,a3,?_,fun s hs=>?_⟩
   ·have:=fx.jO.1;exact i64 (by omega)
   ·rw[Kt.st_opn hK]
    exact⟨e,j,hread,.inr ⟨hz,hE,.inr ⟨he0,by rw[hs,hid],rfl⟩⟩⟩
 obtain⟨K',y',f',g',hid,hRR⟩:=hR
 have gd24:GD w24:=(g.ext h23).fr f' fun b hb=>Nat.le_trans hB (y.foot hb).1
 refine(zmW id (zhd hid) w27 (gd24.ext h27).gb).mono fun v w28 ⟨e28,hv⟩=>⟨e28,_,hv,fun w30 x30=>(zpG e' w30).mono fun v w31 ⟨e31,hE'⟩=>⟨e31,v,rfl,fun w33 h33=>?_⟩⟩
 have hx:=((zaa x30).trans e31).trans h33
 refine⟨_,v,e',K',rfl,hE',y'.ext hx,((zac h23).tr f').tr (zac hx),fun b hb=>(g' b hb).imp (fun h=>h) fun h=>Nat.le_trans h23.size h,hRR _ rfl⟩
end
instance decMem(x:ByteArray)(l:List ByteArray):Decidable (x∈l):=decidable_of_iff (l.any (fun y=>decide (y=x))=true) (by simp)
def lbE(seen:List ByteArray):List Lb->Int
 |[] => 0
 |x::r => if lbB x.key=true/\lbB x.val=true then (if x.key∈seen then 6 else lbE (seen++[x.key]) r) else 3
def hE(seen:List ByteArray)(h:Ht):Int :=
 if lbB h.name=false then 3 else if h.name∈seen then 6 else if 8<h.labels.length then 2 else if lbE [] h.labels≠0 then lbE [] h.labels
 else if zx9 h.has≠0 then 4 else if zx9 h.used≠0 then 4 else if zjv h.used h.has then 0 else 10
def hsE(seen:List ByteArray):List Ht->Int
 |[] => 0
 |h::r => if hE seen h≠0 then hE seen h else hsE (seen++[h.name]) r
def zkH(L:List Ht):Int:=if 30<L.length then 2 else hsE [] L
theorem zGZ:∀(l:List Lb)(seen:List ByteArray),lbE seen l=0↔(∀x∈l,lbB x.key=true/\lbB x.val=true)/\(l.map (·.key)).Nodup/\∀x∈l,x.key∉seen
 |[],seen => by simp[lbE]
 |x::r,seen => by
  rw[lbE]
  have ih:=zGZ r (seen++[x.key])
  by_cases h1:lbB x.key=true/\lbB x.val=true
  ·rw[if_pos h1]
   by_cases h2:x.key∈seen
   ·rw[if_pos h2]
    exact⟨fun h=>by omega,fun h=>absurd h2 (h.2.2 x List.mem_cons_self)⟩
   ·rw[if_neg h2,ih,List.map_cons,List.nodup_cons]
    constructor
    ·rintro⟨a,b,c⟩
     refine⟨fun y hy=>?_,⟨fun hm=>?_,b⟩,fun y hy=>?_⟩
     ·rcases List.mem_cons.1 hy with rfl|hy
      ·exact h1
      ·exact a y hy
     ·obtain⟨y,hy,he⟩:=List.mem_map.1 hm
      exact c y hy (by rw[he];simp)
     ·rcases List.mem_cons.1 hy with rfl|hy
      ·exact h2
      ·exact fun hs=>c y hy (List.mem_append_left _ hs)
    ·rintro⟨a,⟨b1,b2⟩,c⟩
     refine⟨fun y hy=>a y (List.mem_cons_of_mem _ hy),b2,fun y hy hs=>?_⟩
     rcases List.mem_append.1 hs with hs|hs
     ·exact c y (List.mem_cons_of_mem _ hy) hs
     ·simp at hs
      exact b1 (List.mem_map.2 ⟨y,hy,hs⟩)
  ·rw[if_neg h1]
   exact⟨fun h=>by omega,fun h=>absurd (h.1 x List.mem_cons_self) h1⟩
theorem hE_ok{seen:List ByteArray}{h:Ht}:hE seen h=0↔zFH h/\h.name∉seen:=by
 have hl:=zGZ h.labels []
 unfold hE zFH okLb
 by_cases h1:lbB h.name=false
 ·rw[if_pos h1];simp[h1]
 have h1':lbB h.name=true:=by simpa using h1
 rw[if_neg h1]
 by_cases h2:h.name∈seen
 ·rw[if_pos h2];simp[h2]
 rw[if_neg h2]
 by_cases h3:8<h.labels.length
 ·rw[if_pos h3];exact⟨fun h=>by omega,fun h=>by have:=h.1.2.1;omega⟩
 rw[if_neg h3]
 by_cases h4:lbE [] h.labels=0
 ·rw[if_neg (by simpa using h4)]
  obtain⟨a,b,_⟩:=hl.1 h4
  by_cases h5:zx9 h.has=0
  ·rw[if_neg (by simpa using h5)]
   by_cases h6:zx9 h.used=0
   ·rw[if_neg (by simpa using h6)]
    by_cases h7:zjv h.used h.has
    ·rw[if_pos h7]
     exact⟨fun _=>⟨⟨h1',by omega,⟨a,b⟩,za5.1 h5,za5.1 h6,h7⟩,h2⟩,fun _=>rfl⟩
    ·rw[if_neg h7]
     exact⟨fun h=>by omega,fun h=>absurd h.1.2.2.2.2.2 h7⟩
   ·rw[if_pos h6]
    exact⟨fun h=>by omega,fun h=>absurd (za5.2 h.1.2.2.2.2.1) h6⟩
  ·rw[if_pos h5]
   exact⟨fun h=>by omega,fun h=>absurd (za5.2 h.1.2.2.2.1) h5⟩
 ·rw[if_pos (by simpa using h4)]
  exact⟨fun h=>absurd h h4,fun h=>absurd (hl.2 ⟨h.1.2.2.1.1,h.1.2.2.1.2,by simp⟩) h4⟩
theorem zGV:∀(L:List Ht)(seen:List ByteArray),hsE seen L=0↔(∀h∈L,zFH h)/\(L.map (·.name)).Nodup/\∀h∈L,h.name∉seen
 |[],seen => by simp[hsE]
 |x::r,seen => by
  rw[hsE]
  have ih:=zGV r (seen++[x.name])
  have hx:=hE_ok (seen:=seen) (h:=x)
  by_cases h1:hE seen x=0
  ·rw[if_neg (by simpa using h1),ih,List.map_cons,List.nodup_cons]
   obtain⟨q1,q2⟩:=hx.1 h1
   constructor
   ·rintro⟨a,b,c⟩
    refine⟨fun y hy=>?_,⟨fun hm=>?_,b⟩,fun y hy=>?_⟩
    ·rcases List.mem_cons.1 hy with rfl|hy
     ·exact q1
     ·exact a y hy
    ·obtain⟨y,hy,he⟩:=List.mem_map.1 hm
     exact c y hy (by rw[he];simp)
    ·rcases List.mem_cons.1 hy with rfl|hy
     ·exact q2
     ·exact fun hs=>c y hy (List.mem_append_left _ hs)
   ·rintro⟨a,⟨b1,b2⟩,c⟩
    refine⟨fun y hy=>a y (List.mem_cons_of_mem _ hy),b2,fun y hy hs=>?_⟩
    rcases List.mem_append.1 hs with hs|hs
    ·exact c y (List.mem_cons_of_mem _ hy) hs
    ·simp at hs
     exact b1 (List.mem_map.2 ⟨y,hy,hs⟩)
  ·rw[if_pos (by simpa using h1)]
   exact⟨fun h=>absurd h h1,fun h=>absurd (hx.2 ⟨h.1 x List.mem_cons_self,h.2.2 x List.mem_cons_self⟩) h1⟩
theorem zx7{L:List Ht}:zkH L=0↔zj4 L:=by
 unfold zkH zj4
 by_cases h:30<L.length
 ·rw[if_pos h];exact⟨fun h=>by omega,fun h=>by have:=h.1;omega⟩
 ·rw[if_neg h,zGV]
  exact⟨fun⟨a,b,_⟩=>⟨by omega,a,b⟩,fun⟨_,a,b⟩=>⟨a,b,by simp⟩⟩
theorem zor{α:Type}{L:List α}(d:α){k:Nat}(h:k<L.length):L.drop k=L.getD k d::L.drop (k+1):=by
 rw[List.drop_eq_getElem_cons h]
 simp[List.getD_eq_getElem?_getD,h]
theorem ztK(p:Option Addr)(c:Nat)(L:List Ht)(h63:(L.length:Int)<=9223372036854775807)(hO:∀h∈L,zvq h)(w:World)(hL:zjg w p L) :
  FnP Tryz.prog zb1 #[.slice p L.length c] w fun v w'=>Ext w w'/\v=.int .i64 (zkH L):=by
 refine zla p L.length c w _ ⟨fun hgt w0 h0=>⟨h0,by unfold zkH;rw[if_pos (by omega)]⟩,fun hle w0 h0=>?_⟩
 have hEH:zkH L=hsE [] L:=by unfold zkH;rw[if_neg (by omega)]
 rw[hEH]
 refine zyR fun w1 S1 e1=>⟨e1,_,rfl,?_⟩
 generalize hr1:w0.heap.size=r1 at S1
 have x1:=h0.trans e1
 have hw1:w.heap.size<=r1:=by have:=h0.size;omega
 refine⟨fun k w'=>Ext w w'/\0<=k/\k<=L.length/\zhX w' r1 ((L.take k.toNat).map (·.name))/\hsE [] L=hsE ((L.take k.toNat).map (·.name)) (L.drop k.toNat),fun k _=>(L.length-k).toNat,⟨x1,by omega,by omega,S1,rfl⟩,?_⟩
 rintro k w5 ⟨x5,hk0,hk1,S5,hE5⟩
 have fin:∀{e:Int}{w':World},Ext w w'->hsE [] L=e->Ext w w'/\Value.int .i64 e=.int .i64 (hsE [] L):=fun hx h1=>⟨hx,by rw[h1]⟩
 refine⟨fun hlt=>?_,fun hge w6 h6=>fin (x5.trans h6) ?_⟩
 rotate_left
 ·rw[hE5,List.drop_eq_nil_of_le (by omega)];rfl
 obtain⟨q,d,hp,hp8,g',hLb⟩:=hL.at hk0 hlt
 have hm:=zaq L default (i:=k.toNat) (by omega)
 have hOk:=hO _ hm
 rw[zor default (by omega:k.toNat<L.length),hsE] at hE5
 generalize hHd:L.getD k.toNat default=H at g' hLb hm hOk hE5
 generalize hseen:(L.take k.toNat).map (·.name)=seen at S5 hE5
 have bad:∀{e:Int},e≠0->hE seen H=e->hsE [] L=e:=fun hne he=>by rw[hE5,he,if_pos hne]
 have g:∀(j:Nat) u,(zDY H q d)[j]?=some u->Go.Sx.cell w5 (pIdx p k 8) j=some u:=fun j u hu=>zaH x5 (g' j u hu)
 obtain⟨ho1,ho2,ho3⟩:=hOk
 refine⟨hp,hk0,hlt,hp8,_,g 0 _ rfl,_,_,_,g 1 _ rfl,_,g 2 _ rfl,_,g 3 _ rfl,_,g 4 _ rfl,_,g 5 _ rfl,_,g 6 _ rfl,_,g 7 _ rfl,fun b16 hb16=>?_⟩
 refine⟨fun w'=>w'=w5/\lbB H.name=true/\H.name∉seen/\H.labels.length<=8,fun w19 h19=>?_,?_⟩
 ·refine(zfY H.name ho1 w19).mono fun v w20 ⟨e20,hv⟩=>⟨e20,_,hv,fun hf w22 h22=>fin (x5.trans h22) (bad (by decide) ?_),fun hn w22 h22=>?_⟩
  ·unfold hE;rw[if_pos hf]
  have hn':¬lbB H.name=false:=by rw[hn];decide
  refine znW (S5.ext h22) H.name fun b hb=>⟨Ext.refl _,b,rfl,fun hin w25 h25=>fin (x5.trans h25) (bad (by decide) ?_),fun hnin=>?_⟩
  ·unfold hE;rw[if_neg hn',if_pos (hb.1 hin)]
  have hns:H.name∉seen:=fun hm=>by rw[hb.2 hm] at hnin;cases hnin
  refine⟨fun h8 w25 h25=>fin (x5.trans h25) (bad (by decide) ?_),fun h8=>⟨rfl,hn,hns,by omega⟩⟩
  unfold hE;rw[if_neg hn',if_neg hns,if_pos (by omega)]
 rintro w5 ⟨rfl,hn,hnin,h8⟩ w19 x19
 have hn':¬lbB H.name=false:=by rw[hn];decide
 have h19:=zaa x19
 have hb19:b16<w19.heap.size:=x19.lt b16 (by simp)
 have hr5:=S5.lt
 refine zsD (S5.ext h19) H.name fun w20 S20 g20=>⟨fun b hb=>?_,fun w21 x21=>?_⟩
 ·simp at hb;subst hb
  refine g20.by_.block b hb19 fun he=>?_
  simp[blk] at he;omega
 have x20:Ext w w20:=g20.below (x5.trans h19) (x5.trans h19).size (fun a ha=>by obtain rfl:=Option.some.inj ha;exact hw1)
 have h21:=zaa x21
 refine zyR fun w22 S22 e22=>⟨e22,_,rfl,?_⟩
 have hr21:r1<w21.heap.size:=by have:=S20.lt;have:=h21.size;omega
 generalize hr2:w21.heap.size=r2 at S22 hr21
 have x22:=(x20.trans h21).trans e22
 have hb16r:b16<r2:=by have:=g20.size;have:=h21.size;omega
 refine⟨fun j w'=>Ext w w'/\0<=j/\j<=H.labels.length/\zhX w' r1 (seen++[H.name])/\zhX w' r2 ((H.labels.take j.toNat).map (·.key))/\lbE [] H.labels=lbE ((H.labels.take j.toNat).map (·.key)) (H.labels.drop j.toNat),fun j _=>(H.labels.length-j).toNat,⟨x22,by omega,by omega,(S20.ext h21).ext e22,S22,rfl⟩,?_⟩
 rintro j w26 ⟨x26,hj0,hj1,Sa,Sb,hlE⟩
 have badL:∀{e:Int},e≠0->lbE [] H.labels=e->hsE [] L=e:=fun hne he=>bad hne (by unfold hE;rw[if_neg hn',if_neg hnin,if_neg (by omega),if_pos (by rw[he];exact hne),he])
 refine⟨fun hjl=>?_,fun hjg w27 h27=>?_⟩
 ·have hLb6:=hLb.ext x26
  have l0:=hLb6.idx default hj0 hjl (j:=0) rfl
  have l1:=hLb6.idx default hj0 hjl (j:=1) rfl
  have hlm:=zaq H.labels default (i:=j.toNat) (by omega)
  have hls:=ho3 _ hlm
  rw[zor default (by omega:j.toNat<H.labels.length),lbE] at hlE
  generalize hld:H.labels.getD j.toNat default=lb at l0 l1 hlm hls hlE
  generalize hkeys:(H.labels.take j.toNat).map (·.key)=keys at Sb hlE
  refine⟨fun hq=>zal l0 (zah.2 hq),hj0,hjl,zal l0,_,l0,_,l1,fun b29 hb29=>?_⟩
  refine⟨fun w'=>w'=w26/\lbE [] H.labels=lbE (keys++[lb.key]) (H.labels.drop (j.toNat+1)),fun w32 h32=>?_,?_⟩
  ·refine(zfY lb.key hls.1 w32).mono fun v w33 ⟨e33,hv⟩=>⟨e33,_,hv,fun hf w35 h35=>fin (x26.trans h35) (badL (by decide) (by rw[hlE,if_neg (by rw[hf];simp)])),fun hkt w35 h35=>?_⟩
   refine(zfY lb.val hls.2 w35).mono fun v w36 ⟨e36,hv⟩=>⟨e36,_,hv,fun hf w38 h38=>fin (x26.trans h38) (badL (by decide) (by rw[hlE,if_neg (by rw[hf];simp)])),fun hvt w38 h38=>?_⟩
   rw[if_pos ⟨hkt,hvt⟩] at hlE
   refine znW (Sb.ext h38) lb.key fun b hb=>⟨Ext.refl _,b,rfl,fun hin w41 h41=>fin (x26.trans h41) (badL (by decide) (by rw[hlE,if_pos (hb.1 hin)])),fun hnin=>⟨rfl,?_⟩⟩
   rw[hlE,if_neg (fun hm=>by rw[hb.2 hm] at hnin;cases hnin)]
  rintro w26 ⟨rfl,hlE'⟩ w32 x32
  have h32:=zaa x32
  refine zsD (Sb.ext h32) lb.key fun w33 S33 g33=>⟨fun b hb=>?_,i64 (by omega),⟨?_,by omega,by omega,?_,?_,?_⟩,by simp only[];omega⟩
  ·have hlt':=x32.lt b hb
   refine g33.by_.block b hlt' fun he=>?_
   simp[blk] at he
   simp at hb
   have:=Sb.lt
   rcases hb with rfl|rfl<;>omega
  ·exact g33.below (x26.trans h32) (x26.trans h32).size (fun a ha=>by obtain rfl:=Option.some.inj ha;show w.heap.size<=r2;omega)
  ·exact(Sa.ext h32).grew (by omega) g33
  ·rw[show(j+1).toNat=j.toNat+1 by omega,zcM (fun x:Lb=>x.key) default (by omega),hld,hkeys];exact S33
  ·rw[show(j+1).toNat=j.toNat+1 by omega,zcM (fun x:Lb=>x.key) default (by omega),hld,hkeys];exact hlE'
 ·have hl0:lbE [] H.labels=0:=by rw[hlE,List.drop_eq_nil_of_le (by omega)];rfl
  have hEe:hE seen H=if zx9 H.has≠0 then 4 else if zx9 H.used≠0 then 4 else if zjv H.used H.has then 0 else 10:=by
   unfold hE;rw[if_neg hn',if_neg hnin,if_neg (by omega),if_neg (by rw[hl0];simp)]
  refine(zwt H.used H.has w27).mono fun v w28 ⟨e28,t,e,hv,ht⟩=>⟨e28,_,_,hv,fun w31 h31=>?_⟩
  refine(zed H.has w31).mono fun v w32 ⟨e32,hv⟩=>⟨e32,_,hv,?_⟩
  refine⟨fun w'=>w'=w26/\hE seen H=0,⟨fun hne w36 h36=>?_,fun he0=>⟨fun hne w36 h36=>?_,fun he=>⟨fun hf w36 h36=>?_,fun htt=>?_⟩⟩⟩,?_⟩
  ·have hno:¬okN H.has:=fun h=>hne (za5.2 h)
   rw[zlW hno]
   exact fin (x26.trans h36) (bad (by decide) (by rw[hEe,if_pos hne]))
  ·rcases ht with⟨_,_,rfl,_⟩|⟨hno,rfl,_⟩
   ·exact absurd rfl hne
   ·have hu:¬okN H.used:=fun h=>hno ⟨h,za5.1 he0⟩
    exact fin (x26.trans h36) (bad (by decide) (by rw[hEe,if_neg (by simpa using he0),if_pos (by rw[zlW hu];decide)]))
  ·rcases ht with⟨a1,a2,_,rfl⟩|⟨_,rfl,_⟩
   ·refine fin (x26.trans h36) (bad (by decide) ?_)
    rw[hEe,if_neg (by simpa using he0),if_neg (by have:=za5.2 a1;simpa using this),if_neg (by simpa using hf)]
   ·omega
  ·rcases ht with⟨a1,a2,_,rfl⟩|⟨_,rfl,_⟩
   ·refine⟨rfl,?_⟩
    rw[hEe,if_neg (by simpa using he0),if_neg (by have:=za5.2 a1;simpa using this),if_pos (by simpa using htt)]
   ·omega
  ·rintro w26 ⟨rfl,hz⟩
   rw[hz,if_neg (by simp)] at hE5
   refine⟨i64 (by omega),⟨x26,by omega,by omega,?_,?_⟩,by simp only[];omega⟩
   ·rw[show(k+1).toNat=k.toNat+1 by omega,zcM (fun x:Ht=>x.name) default (by omega),hHd,hseen];exact Sa
   ·rw[show(k+1).toNat=k.toNat+1 by omega,zcM (fun x:Ht=>x.name) default (by omega),hHd,hseen];exact hE5
def zwT(x:Nd):Prop:=∀i,i<3->0<=zb8 x i/\zb8 x i<=9223372036854775807
theorem zwT.rng{x:Nd}(h:zwT x):rng x:=fun i hi=>by have:=h i hi;omega
theorem okN.pos{x:Nd}(h:okN x):zwT x:=fun i hi=>by have:=zoX.1 h i hi;omega
theorem zCO{x:Nd}(hx:zwT x){i:Nat}(hi:i<3):(44:UInt8)∉zfl x i:=fun hm=>by
 have h0:=(hx i hi).1
 unfold zfl at hm
 rcases List.mem_append.1 hm with h|h
 ·exact(zFN hi).2 h
 ·rcases List.mem_cons.1 h with h|h
  ·exact absurd h (by decide)
  ·exact ziv h0 (by decide) h
theorem zw7{x:Nd}(hx:zwT x)(hne:zbd x≠[45]):Lib.countB (ofL (zbd x)) (one 44)+1=(idx x 3).length/\Lib.splitB (one 44) 0 (Lib.countB (ofL (zbd x)) (one 44)) (ofL (zbd x))=(pcs x 3).map ofL:=by
 have hp:pcs x 3≠[]:=fun h=>hne (by unfold zbd;rw[if_pos h])
 have ht:zbd x=Lib.join (pcs x 3) [44]:=by unfold zbd;rw[if_neg hp]
 rw[ht]
 cases hl:pcs x 3 with
 |nil => exact absurd hl hp
 |cons a l =>
  obtain⟨h1,h2⟩:=zdj (c:=44) l a fun y hy=>by
   rw[<-hl] at hy
   obtain⟨i,hi,rfl⟩:=List.mem_map.1 hy
   exact zCO hx (zoH hi).1
  have hlen:(idx x 3).length=l.length+1:=by
   have:=congrArg List.length hl
   unfold pcs at this
   rw[List.length_map] at this
   simpa using this
  rw[h1,h2]
  exact⟨by omega,rfl⟩
def zz5(s:ByteArray)(a:Nd)(e:Int):Prop:=(e≠0->a=zbe)/\(e=0->okN a/\s=ofL (zbd a))/\(∀x,zwT x->s=ofL (zbd x)->(okN x->e=0/\a=x)/\(¬okN x->e=4))/\(e≠0->e≠4->e=3)/\(e=4->∃x,zwT x/\s=ofL (zbd x)/\¬okN x)
theorem zz5.one{s:ByteArray}{a b:Nd}{e f:Int}(h:zz5 s a e)(g:zz5 s b f):a=b/\e=f:=by
 obtain⟨h1,h2,h3,h4,h5⟩:=h
 obtain⟨g1,g2,g3,g4,g5⟩:=g
 by_cases e0:e=0
 ·obtain⟨q1,q2⟩:=h2 e0
  obtain⟨q3,q4⟩:=(g3 a q1.pos q2).1 q1
  exact⟨q4.symm,by omega⟩
 ·by_cases f0:f=0
  ·obtain⟨q1,q2⟩:=g2 f0
   obtain⟨q3,q4⟩:=(h3 b q1.pos q2).1 q1
   exact absurd q3 e0
  ·refine⟨(h1 e0).trans (g1 f0).symm,?_⟩
   by_cases e4:e=4
   ·obtain⟨x,q1,q2,q3⟩:=h5 e4
    rw[e4];exact((g3 x q1 q2).2 q3).symm
   ·by_cases f4:f=4
    ·obtain⟨x,q1,q2,q3⟩:=g5 f4
     exact absurd ((h3 x q1 q2).2 q3) e4
    ·rw[h4 e0 e4,g4 f0 f4]
abbrev RQE(w:World)(s:ByteArray)(v:Value)(w':World):Prop:=Ext w w'/\∃(a:Nd) (e:Int),v=.tuple #[nv a,.int .i64 e]/\zz5 s a e
theorem zHg{w w':World}{s:ByteArray}(x:Ext w w')(hno:∀x,zwT x->s=ofL (zbd x)->False):RQE w s (.tuple #[nv zbe,.int .i64 3]) w' :=
 ⟨x,zbe,3,rfl,fun _=>rfl,fun h=>(by cases h),fun x hx hs=>(hno x hx hs).elim,fun _ _=>rfl,fun h=>(by cases h)⟩
theorem zuP{w w10:World}{s:ByteArray}{p2:Option Addr}{b0:Nat}{cur:Nd}(x10:Ext w w10)(hb0:w.heap.size<=b0)(c10:zAL w10 p2 cur)(hp:p2≠none)(hr:zwT cur)(g:GB w)
  (hgood:∀x,zwT x->s=ofL (zbd x)->cur=x):rtail s p2 b0 w10 (RQE w s):=by
 have k0:=c10 0 _ rfl
 have k1:=c10 1 _ rfl
 have k2:=c10 2 _ rfl
 have bx:∀{w':World},zag [b0] [] w10 w'->Ext w w':=fun h=>zau h x10 (by intro d hd;simp at hd;omega)
 refine⟨hp,_,k0,_,k1,_,k2,fun w14 h14=>(zww cur hr.rng w14 (g.ext (x10.trans h14))).mono fun v w15 ⟨e15,hv⟩=>⟨e15,_,hv,fun hne w17 x17=>zHg (bx x17) fun x hx hs=>?_,fun heq=>⟨hp,_,k0,_,k1,_,k2,fun w20 h20=>(zed cur w20).mono fun v w21 ⟨e21,hv⟩=>⟨e21,_,hv,fun hne w23 x23=>?_,fun hz=>⟨hp,_,k0,_,k1,_,k2,fun w26 x26=>⟨bx x26,cur,0,rfl,fun h=>absurd rfl h,fun _=>⟨za5.1 hz,heq.symm⟩,fun x hx hs=>?_,fun h=>absurd rfl h,fun h=>(by cases h)⟩⟩⟩⟩⟩⟩
 ·exact hne (by rw[hgood x hx hs];exact hs.symm)
 ·have hno:¬okN cur:=fun h=>hne (za5.2 h)
  rw[zlW hno]
  refine⟨bx x23,zbe,4,rfl,fun _=>rfl,fun h=>(by cases h),fun x hx hs=>⟨fun h=>absurd (by rw[hgood x hx hs];exact h) hno,fun _=>rfl⟩,fun _ h=>absurd rfl h,fun _=>⟨cur,hr,heq.symm,hno⟩⟩
 ·have hcx:=hgood x hx hs
  exact⟨fun _=>⟨rfl,hcx⟩,fun h=>absurd (by rw[<-hcx];exact za5.1 hz) h⟩
theorem zFz(s:ByteArray)(hs:s.size<4294967281)(w:World)(g:GB w):FnP Tryz.prog ze5 #[.string s] w (RQE w s):=by
 refine zm7 s w _ fun b0 hb0 w1 x1=>zbv (by simp[Value.oneCell']) fun w2 o2 e2=>?_
 have h1:=zaa x1
 have l0:=x1.lt b0 (by simp)
 have o2:=o2 w.heap.size h1.size
 have np:(some (⟨w1.heap.size,0,none⟩:Addr))≠none:=by simp
 have h2:=h1.trans e2
 have rz:zwT zbe:=fun i hi=>by
  match i,hi with
  |0,_ => simp[zb8,zbe]
  |1,_ => simp[zb8,zbe]
  |2,_ => simp[zb8,zbe]
 have hpb:∀y,(some (⟨w1.heap.size,0,none⟩:Addr))=some y->y.block≠b0:=fun y hy=>by obtain rfl:=Option.some.inj hy;show w1.heap.size≠b0;omega
 have hpl:∀y,(some (⟨w1.heap.size,0,none⟩:Addr))=some y->y.block<w2.heap.size:=fun y hy=>(o2.lt y hy).2
 generalize hpp:(some (⟨w1.heap.size,0,none⟩:Addr))=p at o2 np hpb hpl ⊢
 refine⟨fun hne w3 x3=>?_,fun heq=>?_⟩
 rotate_left
 ·refine zuP (cur:=zbe) h2 hb0 o2.cells np rz g fun x hx hs=>?_
  have hl:zbd x=[45]:=zl8 (hs.symm.trans heq)
  by_cases hp:pcs x 3=[]
  ·refine znH ?_
   have:idx x 3=[]:=by simpa[pcs] using hp
   intro i hi
   rw[this]
   exact zi3 i hi
  ·exfalso
   unfold zbd at hl
   rw[if_neg hp] at hl
   cases hc:pcs x 3 with
   |nil => exact hp hc
   |cons a l =>
    rw[hc,Lib.join_cons] at hl
    have ha:a∈pcs x 3:=by rw[hc];exact List.mem_cons_self ..
    obtain⟨i,_,rfl⟩:=List.mem_map.1 ha
    have:=congrArg List.length hl
    unfold zfl at this
    have h3:(pn i).data.toList.length=3:=zyE i
    rw[List.length_append,List.length_append,h3] at this
    simp at this
    omega
 have h3:=h2.trans (zaa x3)
 have g3:=g.ext h3
 refine(zeC 44 s hs w3 g3).mono fun v w4 ⟨e4,hv,hc4,_⟩=>⟨e4,_,_,_,hv,?_⟩
 have spn:(some (⟨w3.heap.size,0,none⟩:Addr))≠none:=by simp
 have apsp:zbo (some (⟨w3.heap.size,0,none⟩:Addr)) p:=fun a b ha hb he=>by
  obtain rfl:=Option.some.inj ha
  have h5:=hpl b hb
  have h6:=(zaa x3).size
  have h7:w3.heap.size=b.block:=he
  omega
 generalize (some (⟨w3.heap.size,0,none⟩:Addr))=sp at hc4 spn apsp ⊢
 have slen:=zeq (c:=44) _ s rfl
 have ssz:∀i q,(Lib.splitB (one 44) 0 (Lib.countB s (one 44)) s)[i]?=some q->q.size+i<=s.size:=fun i q h=>zci _ s i q h
 have sgood:∀x,zwT x->s=ofL (zbd x)->Lib.countB s (one 44)+1=(idx x 3).length/\Lib.splitB (one 44) 0 (Lib.countB s (one 44)) s=(pcs x 3).map ofL:=fun x hx hsx=>by
  have:=zw7 hx fun h=>hne (by rw[hsx,h];rfl)
  rwa [<-hsx] at this
 generalize Lib.splitB (one 44) 0 (Lib.countB s (one 44)) s=S at hc4 slen ssz sgood
 generalize Lib.countB s (one 44)=n at slen sgood ⊢
 refine⟨fun k w'=>Ext w w'/\0<=k/\k<=(n+1:Nat)/\zat w' sp (S.map Value.string)/\∃cur,Own w.heap.size w' zhO 3 p 1 1 (zvw cur)/\zwT cur/\∀x,zwT x->s=ofL (zbd x)->good x cur k.toNat,fun k _=>(n+1-k).toNat,
  ⟨h3.trans e4,by omega,by omega,hc4,zbe,(o2.ext (zaa x3)).ext e4,rz,fun x _ _=>zi3⟩,?_⟩
 rintro k w10 ⟨x10,hk0,hk1,c10,cur,o10,hr,hgd⟩
 refine⟨fun hlt=>?_,fun hge=>?_⟩
 rotate_left
 ·refine zuP (cur:=cur) x10 hb0 o10.cells np hr g fun x hx hsx=>znH ?_
  have:=hgd x hx hsx
  rwa [show k.toNat=(idx x 3).length by have:=(sgood x hx hsx).1;omega] at this
 obtain⟨pc,hpc⟩:∃pc,S[k.toNat]?=some pc:=⟨_,List.getElem?_eq_getElem (by omega)⟩
 have hcell:Go.Sx.cell w10 (pIdx sp k 1) 0=some (.string pc):=by
  rw[zad]
  exact c10 _ _ (by simp[hpc])
 have hpsz:=ssz _ _ hpc
 refine⟨spn,hk0,hlt,_,hcell,fun w12 h12=>(zvA 61 pc (by omega) w12 ((g.ext x10).ext h12)).mono fun v w13 ⟨e13,hv⟩=>⟨e13,_,_,_,hv,fun w17 x17=>?_⟩⟩
 have hx17:=x10.trans (zaa x17)
 have hcsz:(Lib.cut pc.data.toList [61]).2.1.length<=pc.size:=by have:=zg8 pc.data.toList 61;rwa [zg6] at this
 have hthis:∀x,zwT x->s=ofL (zbd x)->∃i,(idx x 3)[k.toNat]?=some i/\i<3/\0<zb8 x i/\ofL (Lib.cut pc.data.toList [61]).1=pn i/\Lib.parseIntB 64 (ofL (Lib.cut pc.data.toList [61]).2.1).data.toList=.ok (zb8 x i):=fun x hx hsx=>by
  have hS:=(sgood x hx hsx).2
  rw[hS,List.getElem?_map] at hpc
  unfold pcs at hpc
  rw[List.getElem?_map,Option.map_map,Option.map_eq_some_iff] at hpc
  obtain⟨i,hi,rfl⟩:=hpc
  have hm:=zoH (List.mem_of_getElem? hi)
  have hb:=hx i hm.1
  have hcut:Lib.cut (ofL (zfl x i)).data.toList [61]=((pn i).data.toList,Lib.itoa (zb8 x i),true):=zvW _ (zFN hm.1).1
  have hcut':Lib.cut ((ofL∘zfl x) i).data.toList [61]=((pn i).data.toList,Lib.itoa (zb8 x i),true):=hcut
  rw[hcut']
  exact⟨i,hi,hm.1,by omega,zbO _,zfk hb.1 hb.2⟩
 generalize (ofL (Lib.cut pc.data.toList [61]).1)=name at hthis ⊢
 have hnsz:(ofL (Lib.cut pc.data.toList [61]).2.1).size<=281474976710656:=by rw[zas];omega
 generalize (ofL (Lib.cut pc.data.toList [61]).2.1)=num at hthis hnsz ⊢
 refine(ziZ num hnsz w17 (g.ext hx17)).mono fun v w18 ⟨e18,vn,ev,hv,hcase⟩=>⟨e18,vn,ev,hv,fun w21 h21=>?_⟩
 have hx18:=hx17.trans e18
 refine ziz (by kernel_rfl) (hcase.elim (fun h=>.inl h.1) fun h=>.inr h.1) fun t ht=>⟨Ext.refl _,t,rfl,fun hbad w24 x24=>zHg (zau x24 hx18 (by intro d hd;simp at hd;omega)) fun x hx hsx=>?_,fun hok w24 x24=>?_⟩
 ·exfalso
  obtain⟨i,_,_,hpos,_,hpar⟩:=hthis x hx hsx
  rcases hcase with⟨h1,h2⟩|⟨_,h2⟩
  ·rw[hpar] at h2
   injection h2 with h2
   rcases hbad with h|h
   ·rw[ht.2 h1] at h;cases h
   ·omega
  ·exact h2 _ hpar
 have hx24:=hx18.trans (zaa x24)
 obtain⟨hev,hpar⟩:ev=.nilIface/\Lib.parseIntB 64 num.data.toList=.ok vn:=by
  rcases hcase with h|⟨⟨a,b,h⟩,_⟩
  ·exact h
  ·have:=ht.1 hok.1
   rw[h] at this;cases this
 have o24:Own w.heap.size w24 zhO 3 p 1 1 (zvw cur):=(((o10.ext (zaa x17)).ext e18).ext (zaa x24))
 have c24:zat w24 sp (S.map Value.string):=(((c10.ext (zaa x17)).ext e18).ext (zaa x24))
 refine(zsu p np w24).mono fun v w25 ⟨e25,q,hv,hq,hqb⟩=>⟨e25,q,3,3,hv,?_⟩
 have apq:zbo q p:=fun a b ha hb he=>by
  have h5:=hqb a ha
  have h6:=(o24.lt b hb).2
  omega
 refine⟨fun k30 w'=>Ext w w'/\0<=k30/\k30<=3/\zat w' sp (S.map Value.string)/\zat w' q (zuI p)/\Own w.heap.size w' zhO 3 p 1 1 (zvw (upN cur name vn k30.toNat)),fun k30 _=>(3-k30).toNat,
  ⟨hx24.trans e25,by omega,by omega,c24.ext e25,hq,by rw[show(0:Int).toNat=0 from rfl,zy4];exact o24.ext e25⟩,?_⟩
 rintro k30 w31 ⟨x31,hj0,hj3,c31,q31,o31⟩
 refine⟨fun hjlt=>?_,fun hjge=>?_⟩
 ·obtain⟨d1,d2⟩:=zst q31 hj0 hjlt
  have hj:k30.toNat<3:=by omega
  refine⟨fun hq=>zal d1 (zah.2 hq),hj0,hjlt,zal d1,_,d1,_,d2,fun b34 hb34=>⟨fun heq=>⟨fun h=>np (zc3.1 h),?_⟩,fun hne=>⟨i64 (by omega),⟨x31,by omega,by omega,c31,q31,?_⟩,by simp only[];omega⟩⟩⟩
  ·refine zcd o31 (by simpa using hj) rfl (fun b hb y hy=>?_) fun w35 o35 g35=>⟨i64 (by omega),⟨g35.ext x31 o31,by omega,by omega,c31.grew apsp g35,q31.grew apq g35,?_⟩,by simp only[];omega⟩
   ·simp only[List.mem_cons,List.mem_singleton,List.mem_nil_iff,or_false] at hb
    rcases hb with rfl|rfl
    ·exact hpb y hy
    ·have:=(o31.lt y hy).2;omega
   ·rw[show(k30+1).toNat=k30.toNat+1 by omega,<-zDz hj heq]
    exact o35
  ·rw[show(k30+1).toNat=k30.toNat+1 by omega,zy3 hj hne]
   exact o31
 ·obtain rfl:k30=3:=by omega
  refine⟨i64 (by omega),⟨x31,by omega,by omega,c31,upN cur name vn 3,o31,fun i hi=>?_,fun x hx hsx=>?_⟩,by simp only[];omega⟩
  ·rw[zDy hi]
   split
   ·have:=zuF hpar hok.2
    omega
   ·exact hr i hi
  ·obtain⟨i,hi,hi3,_,hname,hp2⟩:=hthis x hx hsx
   rw[hpar] at hp2
   injection hp2 with hp2
   rw[hp2,hname,show(k+1).toNat=k.toNat+1 by omega]
   exact ztJ (hgd x hx hsx) hi
theorem zBv(s:List UInt8)(c:UInt8):(Lib.cut s [c]).1.length<=s.length:=by
 unfold Lib.cut
 split
 ·simp only[List.length_take];omega
 ·exact Nat.le_refl _
def zDW(x:ByteArray):List UInt8×List UInt8×Bool:=Lib.cut x.data.toList [61]
def zKa(x:ByteArray):Lb:=⟨ofL (zDW x).1,ofL (zDW x).2.1⟩
def zao(c:UInt8)(s:ByteArray):List ByteArray:=Lib.splitB (one c) 0 (Lib.countB s (one c)) s
theorem zi8(c:UInt8)(s:ByteArray):(zao c s).length=Lib.countB s (one c)+1:=zeq _ s rfl
theorem zhp{c:UInt8}{s:ByteArray}{i:Nat}{q:ByteArray}(h:(zao c s)[i]?=some q):q.size+i<=s.size:=zci _ s i q h
def zD0(s:ByteArray):Option (List Lb):=if s=⟨#[45]⟩ then some [] else if (zao 44 s).all (fun x=>(zDW x).2.2) then some ((zao 44 s).map zKa) else none
theorem zFv(s:ByteArray)(hs:s.size<4294967281)(w:World)(g:GB w):FnP Tryz.prog zgR #[.string s] w fun v w'=>Ext w w'/\∃(p:Option Addr) (n c:Nat) (ev:Value),v=.tuple #[.slice p n c,ev] /\
  ((zD0 s=none/\EV ev 3)\/(∃l,zD0 s=some l/\EV ev 0/\n=l.length/\Own w.heap.size w' zlK 2 p n c (l.flatMap zrG)/\l.length<=4294967281/\∀x∈l,x.key.size<=4294967281/\x.val.size<=4294967281)):=by
 refine zp4 s w _ ⟨fun h w0 h0=>⟨h0,none,0,0,_,rfl,.inr ⟨[],by unfold zD0;rw[if_pos h],ev0,rfl,Own.nil,by simp,by simp⟩⟩,fun hne w0 h0=>?_⟩
 refine(zeC 44 s hs w0 (g.ext h0)).mono fun v w1 ⟨e1,hv,hc1,hlt1⟩=>⟨e1,_,_,_,hv,?_⟩
 have hlen:=zi8 44 s
 have hsz:=fun i q=>@zhp 44 s i q
 have hF:zD0 s=if (zao 44 s).all (fun x=>(zDW x).2.2) then some ((zao 44 s).map zKa) else none:=by unfold zD0;rw[if_neg hne]
 rw[hF]
 change zat w1 _ ((zao 44 s).map Value.string) at hc1
 have hcnt:Lib.countB s (one 44)+1=(zao 44 s).length:=hlen.symm
 rw[hcnt]
 have spn:(some (⟨w0.heap.size,0,none⟩:Addr))≠none:=by simp
 generalize (some (⟨w0.heap.size,0,none⟩:Addr))=sp at hc1 spn ⊢
 have hlen2:(zao 44 s).length<=4294967281:=by
  obtain⟨q,hq⟩:∃q,(zao 44 s)[(zao 44 s).length-1]?=some q:=⟨_,List.getElem?_eq_getElem (by omega)⟩
  have:=hsz _ _ hq
  omega
 generalize zao 44 s=S at hc1 hsz hlen2 ⊢
 have x1:=h0.trans e1
 have cb:∀x:ByteArray,(ofL (zDW x).1).size<=x.size/\(ofL (zDW x).2.1).size<=x.size:=fun x=>by
  have h1:=zg8 x.data.toList 61
  have h2:=zBv x.data.toList 61
  rw[zg6] at h1 h2
  exact⟨by rw[zas];exact h2,by rw[zas];exact h1⟩
 refine⟨fun p n c k w'=>Ext w1 w'/\0<=k/\k<=S.length/\n=k/\Own w1.heap.size w' zlK 2 p n c (((S.take k.toNat).map zKa).flatMap zrG)/\∀x∈S.take k.toNat,(zDW x).2.2=true,fun _ _ _ k _=>(S.length-k).toNat,⟨Ext.refl _,by omega,by omega,by simp,Own.nil,by simp⟩,?_⟩
 rintro p n c k w8 ⟨x8,hk0,hk1,hnk,o8,hall⟩
 refine⟨fun hlt=>?_,fun hge w9 h9=>?_⟩
 ·obtain⟨q,hq⟩:∃q,S[k.toNat]?=some q:=⟨_,List.getElem?_eq_getElem (by omega)⟩
  have hqs:=hsz _ _ hq
  have hcell:Go.Sx.cell w8 (pIdx sp k 1) 0=some (.string q):=by
   rw[zad]
   refine(hc1.ext x8) _ _ ?_
   simp[hq]
  refine⟨spn,hk0,hlt,_,hcell,fun w10 h10=>(zvA 61 q (by omega) w10 ((g.ext (x1.trans x8)).ext h10)).mono fun v w11 ⟨e11,hv⟩=>⟨e11,_,_,_,hv,fun hf w15 h15=>?_,fun ht=>?_⟩⟩
  ·refine zt8 ⟨Ext.refl _,_,rfl,rfl,fun w18 h18=>zzU ⟨Ext.refl _,_,rfl,fun w21 h21=>⟨(((x1.trans x8).trans h15).trans h18).trans h21,none,0,0,_,rfl,.inl ⟨?_,zzC (by decide)⟩⟩⟩⟩
   rw[if_neg]
   intro h
   have:=List.all_eq_true.1 h q (List.mem_of_getElem? hq)
   unfold zDW at this
   rw[hf] at this;cases this
  ·refine push (v:=.agg #[.string (zKa q).key,.string (zKa q).val]) zkD (by omega) o8 x8.size rfl (by intro u hu;simp[Value.cells] at hu;rcases hu with rfl|rfl<;>rfl) (by omega) (by omega) (by omega) fun p' c' w' o' g' np=>⟨i64 (by omega),⟨g'.ext x8 o8,by omega,by omega,by omega,?_,?_⟩,by simp only[];omega⟩
   ·rw[show(k+1).toNat=k.toNat+1 by omega,List.take_add_one,hq]
    simpa[Value.cells] using o'
   ·rw[show(k+1).toNat=k.toNat+1 by omega,List.take_add_one,hq]
    intro x hx
    rcases List.mem_append.1 hx with hx|hx
    ·exact hall x hx
    ·simp at hx;subst hx;exact ht
 ·have hk:k=S.length:=by omega
  subst hk
  have htake:S.take ((S.length:Int)).toNat=S:=by simp
  rw[htake] at o8 hall
  have hx9:=(x1.trans x8).trans h9
  refine⟨hx9,p,n,c,_,rfl,.inr ⟨S.map zKa,?_,ev0,by simp;omega,(o8.ext h9).weak (by have:=x1.size;omega),by simpa using hlen2,fun x hx=>?_⟩⟩
  ·rw[if_pos (List.all_eq_true.2 fun x hx=>hall x hx)]
  ·obtain⟨y,hy,rfl⟩:=List.mem_map.1 hx
   obtain⟨i,hi⟩:=List.mem_iff_getElem?.1 hy
   have:=hsz i y hi
   have:=cb y
   show(ofL (zDW y).1).size<=_/\(ofL (zDW y).2.1).size<=_
   omega
theorem zxI{B:Nat}{w:World}{p q:Option Addr}{n c d b7:Nat}{xs:List Value}{m:Hm}(o:Own B w ze8 8 p n c xs)(hB:B<=w.heap.size)(hl:zat w q (zi2 m))(hq:q≠none)(hb7:b7<w.heap.size)(hns:∀x,p=some x->x.block≠b7)(hn:n<=1000)
  {J:Option Addr->Nat->Nat->World->Prop} (hk:∀p' c' w',Own B w' ze8 8 p' (n+1) c' (xs++zi2 m)->zbN w w' p p'->J p' (n+1) c' w') :
  Run Tryz.prog (.append #[34,34] 34 [.slice p n c,.slice q 1 d]) w fun v w'=>zcm [b7] w w'/\∃q':Option Addr,∃m':Nat,∃d':Nat,v=.slice q' m' d'/\J q' m' d' w' :=
 zms zfK (by omega) o hB hq (news:=zi2 m) (by simp) hl (zx2 m) (by omega) (by omega) fun p' c' w4 h2 h3 h4=>⟨fun b hb=>by
  simp at hb;subst hb
  refine h3.by_.block b hb7 fun he=>?_
  cases p with
  |none => cases he
  |some y => simp[blk] at he;exact hns y rfl he.symm,_,_,_,rfl,hk p' c' w4 h2 h3⟩
def znN(name:ByteArray)(l:List Lb)(nd:Nd):Ht:=⟨name,l,nd,zbe⟩
def zwk(name w2 w3:ByteArray)(σ:DS)(c:Int)(s:ByteArray)(σ':DS):Prop:=∃nd e,zz5 w2 nd e/\((e≠0/\c=e/\σ'=σ)\/(e=0/\match zD0 w3 with
 |none => c=3/\σ'=σ
 |some l => match σ with
  |.opn _ => c=9/\σ'=σ
  |.shut L => c=zkH (L++[znN name l nd])/\((c≠0/\σ'=σ)\/(c=0/\s=⟨#[111,107]⟩/\σ'=.shut (L++[znN name l nd])))))
section
variable {O:Nat->Prop} {B db:Nat} {w:World} {K:Kt}
theorem host_c(x:KX O B w db K)(g:GD w)(hBw:B<=w.heap.size)(wp:Option Addr)(wc:Nat)(ws:List ByteArray)(h4:ws.length=4)
  (hsz:∀x∈ws,x.size<4294967281) (hw:zat w wp (ws.map Value.string)) :
  FnP Tryz.prog zew #[.pointer (ptr db),.slice wp ws.length wc] w (CR O B db w K fun s c σ'=>zwk (ws.getD 1 ⟨#[]⟩) (ws.getD 2 ⟨#[]⟩) (ws.getD 3 ⟨#[]⟩) K.st c s σ'):=by
 have ne:=zaG db
 obtain⟨s0,s1,s2,s3,rfl⟩:∃a b c d,ws=[a,b,c,d]:=by
  match ws,h4 with
  |[a,b,c,d],_ => exact⟨a,b,c,d,rfl⟩
 have cell_:∀{w':World}(i:Nat)(q:ByteArray),Ext w w'->([s0,s1,s2,s3]:List ByteArray)[i]?=some q->Go.Sx.cell w' (pIdx wp (i:Int) 1) 0=some (.string q):=fun {w'} i q hx hq=>by
  rw[zad]
  have:=hw.ext hx i (.string q) (by rw[List.getElem?_map,hq];rfl)
  simpa using this
 have np:wp≠none:=fun h=>zal (cell_ 1 s1 (Ext.refl w) rfl) (zah.2 h)
 have z1:=hsz s1 (by simp)
 have z2:=hsz s2 (by simp)
 have z3:=hsz s3 (by simp)
 show FnP Tryz.prog zew #[.pointer (ptr db),.slice wp 4 wc] w (CR O B db w K fun s c σ'=>zwk s1 s2 s3 K.st c s σ')
 refine zmc (ptr db) wp 4 wc w _ ⟨np,by omega,by omega,_,cell_ 2 s2 (Ext.refl w) rfl,fun w1 x1=>(zFz s2 z2 w1 (g.gb.ext x1)).mono fun v w2 ⟨e2,nd,e,hv,hrd⟩=>⟨e2,nd.c,nd.m,nd.g,e,hv,fun b7 hb7=>⟨fun hne w8 x8=>zt8 ⟨Ext.refl _,_,rfl,rfl,fun w11 x11=>zzU ⟨Ext.refl _,_,rfl,fun w14 h14=>?_⟩⟩,fun hz=>⟨np,by omega,by omega,_,cell_ 3 s3 (Ext.refl w) rfl,fun w9 x9=>?_⟩⟩⟩⟩
 ·exact zcn x (((zaa x8).trans (zaa x11)).trans h14) (zzC hne) ⟨nd,e,hrd,.inl ⟨hne,rfl,rfl⟩⟩
 have h9:=zaa x9
 have hb9:=x9.lt b7 (by simp)
 refine(zFv s3 z3 w9 (g.gb.ext h9)).mono fun v w10 ⟨e10,lp,ln,lc,ev,hv,hor⟩=>⟨e10,lp,ln,lc,ev,hv,fun w15 h15=>?_⟩
 have h10:=h9.trans e10
 rcases hor with⟨hno,hE⟩|⟨l,hl,hE,rfl,oL,hll,hls⟩
 ·refine neE hE fun b hb=>⟨Ext.refl _,b,rfl,fun hbt w18 h18=>?_,fun hbf=>absurd (hb.1 hbf) (by decide)⟩
  exact zcn x (h10.trans h18) hE ⟨nd,e,hrd,.inr ⟨hz,by rw[hno];exact⟨rfl,rfl⟩⟩⟩
 refine neE hE fun b hb=>⟨Ext.refl _,b,rfl,fun hbt=>absurd (hb.2 rfl) (by rw[hbt];decide),fun _=>⟨ne,ne,?_⟩⟩
 have y10:=x.ext h10
 rcases K.cases with hK|⟨fb,P,F,hK⟩
 rotate_left
 ·refine⟨_,y10.fbp hK,fun _ w19 x19=>zt8 ⟨Ext.refl _,_,rfl,fun w22 h22=>?_⟩,fun h=>absurd h (zaG fb)⟩
  refine zcn x ((h10.trans (zaa x19)).trans h22) (zE5 (c:=9) (by decide)) ⟨nd,e,hrd,.inr ⟨hz,?_⟩⟩
  rw[hl,Kt.st_opn hK]
  exact⟨rfl,rfl⟩
 obtain⟨hn,⟨M,hM,hst⟩,hok,hO⟩:=x.shut hK
 have h30:=hok.1
 have hMl:M.length=K.L.length:=by rw[<-hM];simp
 refine⟨none,y10.nofp hK,fun h=>absurd rfl h,fun _=>?_⟩
 have hm:zi2 ⟨znN s1 l nd,lp,lc⟩=[.string s1,.slice lp l.length lc,.int .i64 nd.c,.int .i64 nd.m,.int .i64 nd.g,.int .i64 0,.int .i64 0,.int .i64 0]:=rfl
 generalize hmm:(⟨znN s1 l nd,lp,lc⟩:Hm)=m at hm
 have hmv:(Value.agg #[.string s1,.slice lp l.length lc,.int .i64 nd.c,.int .i64 nd.m,.int .i64 nd.g,.int .i64 0,.int .i64 0,.int .i64 0]).cells.toList=zi2 m:=by rw[hm];rfl
 have lit:∀{w26:World}{R:Value->World->Prop},(∀q w27,q≠none->zat w27 q (zi2 m)->Ext w26 w27->R (.slice q 1 1) w27)->Run Tryz.prog (.buildSlice 34 1 [(0,(.agg #[.string s1,.slice lp l.length lc,.int .i64 nd.c,.int .i64 nd.m,.int .i64 nd.g,.int .i64 0,.int .i64 0,.int .i64 0]))]) w26 R:=fun {w26 R} h =>
  zbY zfK [.agg #[.string s1,.slice lp l.length lc,.int .i64 nd.c,.int .i64 nd.m,.int .i64 nd.g,.int .i64 0,.int .i64 0,.int .i64 0]] rfl rfl (fun u hu=>by simp at hu;subst hu;rfl) (by omega) (by omega) fun w27 o27 e27=>h _ w27 (by simp) (by
   have:=(o27 w26.heap.size (Nat.le_refl _)).cells
   simp only[List.flatMap_cons,List.flatMap_nil,List.append_nil,hmv] at this
   exact this) e27
 have rec_:∀{w':World},Ext w w'->zgr 8 zi2 w' K.hp M:=fun e=>(hst _ (zac e)).1
 have clone:∀{w26:World},Ext w w26->FnP Tryz.prog zaj #[.slice K.hp K.hn K.hc] w26 fun v w'=>Ext w26 w'/\∃q' c',v=.slice q' M.length c'/\Own w26.heap.size w' ze8 8 q' M.length c' (M.flatMap zi2):=fun e=>by
  rw[hn,<-hMl]
  exact zro K.hp K.hc M (by omega) _ (rec_ e)
 have c10:Go.Sx.cell w10 (pAdd (ptr db) 0) 0=some (.slice K.hp K.hn K.hc):=y10.cell (i:=0) rfl
 refine⟨fun all n c w21=>Ext w10 w21/\n=M.length+1/\Own w10.heap.size w21 ze8 8 all n c (M.flatMap zi2++zi2 m),⟨ne,ne,_,_,_,c10,np,by omega,by omega,_,cell_ 1 s1 h10 rfl,fun w26 x26=>?_,fun w26 x26=>?_⟩,?_⟩
 ·have h26:=zaa x26
  have hb26:=x26.lt b7 (by simp)
  refine(clone (h10.trans h26)).mono fun v w27 ⟨e27,q',c',hv,o27⟩=>⟨e27,q',M.length,c',hv,fun w31 x31=>lit fun q w32 hq hcq e32=>⟨e32,q,1,1,rfl,fun w36 x36=>?_⟩⟩
  have h36:=(((h26.trans e27).trans (zaa x31)).trans e32).trans (zaa x36)
  have o36:=(((o27.ext (zaa x31)).ext e32).ext (zaa x36)).weak h26.size
  refine zxI o36 h36.size (hcq.ext (zaa x36)) hq (x36.lt b7 (by simp)) (fun a ha he=>?_) (by omega) fun p' c'' w' o' g'=>⟨g'.ext h36 o36,rfl,o'⟩
  have:=(o27.lt a ha).1
  omega
 ·have h26:=zaa x26
  have hb26:=x26.lt b7 (by simp)
  refine lit fun q w27 hq hcq e27=>⟨e27,q,1,1,rfl,fun w31 x31=>?_⟩
  have h31:=(h26.trans e27).trans (zaa x31)
  refine(clone (h10.trans h31)).mono fun v w32 ⟨e32,q',c',hv,o32⟩=>⟨e32,q',M.length,c',hv,fun w36 x36=>?_⟩
  have h36:=(h31.trans e32).trans (zaa x36)
  have o36:=(o32.ext (zaa x36)).weak h31.size
  refine zxI o36 h36.size (((hcq.ext (zaa x31)).ext e32).ext (zaa x36)) hq (x36.lt b7 (by simp)) (fun a ha he=>?_) (by omega) fun p' c'' w' o' g'=>⟨g'.ext h36 o36,rfl,o'⟩
  have:=(o32.lt a ha).1
  have:=x31.lt b7 (by simp)
  omega
 rintro all n c w21 ⟨x21,rfl,oA⟩ w22 h22
 have h21:=h10.trans x21
 have hflat:M.flatMap zi2++zi2 m=(M++[m]).flatMap zi2:=by simp
 rw[hflat] at oA
 have hL':(M++[m]).map (·.h)=K.L++[znN s1 l nd]:=by rw[List.map_append,hM,<-hmm];rfl
 have hAl:∀a,all=some a->w10.heap.size<=a.block:=fun a ha=>(oA.lt a ha).1
 have hdb:db<w.heap.size:=(x.slot.lt _ rfl).2
 have keep:∀{w1 w2:World}{S:Nat->Prop},Ext w21 w1->Fr S w1 w2->(∀b,S b->dO O db b)->zgr 8 zi2 w2 all (M++[m])/\∀m'∈M++[m],Lbs w2 m'.q m'.h.labels:=fun {w1 w2 S} e1 f hS=>by
  have hSlt:∀b,S b->b<w.heap.size:=fun b hb=>by
   rcases hS b hb with h|h
   ·exact x.olt b h
   ·rw[h];exact hdb
  refine⟨((oA.ext e1).fr f fun a ha hs=>?_).recs fun _ _=>rfl,fun m' hm'=>?_⟩
  ·have:=hAl a ha;have:=hSlt _ hs;have:=h10.size;omega
  ·rcases List.mem_append.1 hm' with hm'|hm'
   ·exact(hst w2 ((zac (h21.trans e1)).tr (f.mono hS))).2 m' hm'
   ·simp at hm';subst hm'
    rw[<-hmm]
    refine(((oL.ext x21).ext e1).fr f fun a ha hs=>?_).recs fun _ _=>rfl
    have:=(oL.lt a ha).1;have:=hSlt _ hs;have:=h9.size;omega
 have hsH:zjg w22 all (K.L++[znN s1 l nd]):=by
  rw[<-hL']
  obtain⟨q1,q2⟩:=keep h22 (Fr.refl (fun _=>False) w22) (fun _ h=>h.elim)
  exact hs_of q1 q2
 have hlen':M.length+1=(K.L++[znN s1 l nd]).length:=by simp[hMl]
 have hOk':∀h∈K.L++[znN s1 l nd],zvq h/\h.used=zbe:=fun h hh=>by
  rcases List.mem_append.1 hh with hh|hh
  ·exact hO h hh
  ·simp at hh;subst hh
   refine⟨⟨by show s1.size<=_;omega,by show l.length<=_;omega,fun y hy=>?_⟩,rfl⟩
   have:=hls y hy
   omega
 rw[hlen']
 refine(ztK all c (K.L++[znN s1 l nd]) (by rw[<-hlen'];omega) (fun h hh=>(hOk' h hh).1) w22 hsH).mono fun v w23 ⟨e23,hv⟩=>⟨e23,_,hv,fun hne w25 x25=>zt8 ⟨Ext.refl _,_,rfl,fun w28 h28=>?_⟩,fun hz2=>⟨ne,ne,?_⟩⟩
 ·refine zcn x ((h21.trans (zaa x25)).trans h28) (zE5 hne) ⟨nd,e,hrd,.inr ⟨hz,?_⟩⟩
  rw[hl,Kt.st_shut hK]
  exact⟨rfl,.inl ⟨hne,rfl⟩⟩
 have y21:=x.ext h21
 refine zcd (off:=0) y21.slot (by simp) rfl (fun b hb y hy=>by simp at hb;subst hb;cases hy;show db≠b;omega) fun w25 o25 g25 w26 h26=>?_
 have f25:Fr (fun b=>b=db) w21 w25:=zaR g25 fun a ha=>by cases ha;rfl
 refine⟨_,_,0,⟨all,(K.L++[znN s1 l nd]).length,c,K.L++[znN s1 l nd],none⟩,rfl,ev0,⟨?_,fun _=>⟨rfl,⟨M++[m],hL',fun w'' k=>?_⟩,zx7.1 hz2,hOk'⟩,fun fb P F e=>(by cases e),fun b hb=>?_,x.odis⟩,?_,fun b hb=>?_,⟨nd,e,hrd,.inr ⟨hz,?_⟩⟩⟩
 ·have:dcs ⟨all,(K.L++[znN s1 l nd]).length,c,K.L++[znN s1 l nd],none⟩=(dcs K).set 0 (.slice all (K.L++[znN s1 l nd]).length c):=by simp[dcs,Kt.fp,hK]
  rw[this];exact o25.ext h26
 ·exact keep (Ext.refl _) ((f25.mono fun b hb=>.inr hb).tr ((zac h26).tr k)) (fun b hb=>hb)
 ·have:=x.olt b hb;have:=h21.size;have:=f25.size;have:=h26.size;omega
 ·exact((zac h21).tr (f25.mono fun b hb=>.inl hb)).tr (zac h26)
 ·rcases hb with rfl|⟨fb',P1,F1,e,h⟩
  ·exact .inl (.inl rfl)
  ·cases e
 ·rw[hl,Kt.st_shut hK]
  exact⟨hz2.symm,.inr ⟨rfl,rfl,rfl⟩⟩
end
def sig:Nat->Nat×Bool
 |3 => (4,false)
 |7 => (1,false)
 |11 => (7,false)
 |15 => (6,true)
 |22 => (2,false)
 |26 => (1,true)
 |33 => (2,false)
 |40 => (2,false)
 |47 => (2,false)
 |51 => (2,false)
 |_ => (2,true)
theorem pv_cmd{db pb:Addr}{v:Value}{w:World}:∀x∈KL,PV db pb x.2.2 v w->∃f bd cap,v=.agg #[.int .i64 (sig x.2.2).1,.bool (sig x.2.2).2,.func f bd cap]:=by
 intro x hx
 simp only[KL,List.mem_cons,List.not_mem_nil,or_false] at hx
 rcases hx with rfl|rfl|rfl|rfl|rfl|rfl|rfl|rfl|rfl|rfl|rfl <;>
  (rintro⟨f,bd,cap,e,_⟩;exact⟨f,bd,cap,e⟩)
def zfu(k:ByteArray):Option Nat:=(KL.find? (fun x=>decide (x.1=k))).map (·.2.2)
def ztb(db:Nat)(w:World)(k:ByteArray)(t0:Int)(t1:Bool)(t2:Value)(ok:Bool):Prop :=
 (ok=false/\zfu k=none)\/(ok=true/\∃(pb:Addr) (b:Nat),zfu k=some b/\w.cell? pb=some (.pointer (ptr db))/\PV ⟨db,0,none⟩ pb b (.agg #[.int .i64 t0,.bool t1,t2]) w/\t0=(sig b).1/\t1=(sig b).2/\t2.oneCell'=true)
theorem ztb.ext{db:Nat}{w w':World}{k:ByteArray}{t0:Int}{t1:Bool}{t2:Value}{ok:Bool}(h:ztb db w k t0 t1 t2 ok)(e:Ext w w'):ztb db w' k t0 t1 t2 ok:=by
 rcases h with h|⟨h1,pb,b,h2,h3,h4,h5⟩
 ·exact .inl h
 ·exact .inr ⟨h1,pb,b,h2,(Cst.of_ext e).cell h3,zjs _ _ _ _ _ _ (Cst.of_ext e) h4,h5⟩
def zAX(db:Nat)(w:World)(v:Value):Prop:=∃pb mb M,v=.map (some mb)/\w.cell? pb=some (.pointer (ptr db))/\zcW Value.string w mb M/\∀k,Tab ⟨db,0,none⟩ pb w k (zhZ M k)
theorem zAX.ext{db:Nat}{w w':World}{v:Value}(h:zAX db w v)(e:Ext w w'):zAX db w' v:=by
 obtain⟨pb,mb,M,h1,h2,h3,h4⟩:=h
 refine⟨pb,mb,M,h1,(Cst.of_ext e).cell h2,h3.ext e,fun k=>?_⟩
 have:=h4 k
 unfold Tab at this ⊢
 split at this
 ·obtain⟨v,q1,q2⟩:=this
  exact⟨v,q1,zjs _ _ _ _ _ _ (Cst.of_ext e) q2⟩
 ·exact this
theorem zJU:(Tryz.prog.info? 252).map (·.zero)=some (some (.agg #[.int .i64 0,.bool false,.nilFunc])):=by kernel_rfl
theorem zoO{db:Nat}{w:World}{v:Value}(h:zAX db w v)(k:ByteArray){K:Value->World->Prop}
  (hk:∀t0 t1 t2 ok,ztb db w k t0 t1 t2 ok->t2.oneCell'=true->K (.tuple #[.agg #[.int .i64 t0,.bool t1,t2],.bool ok]) w):Run Tryz.prog (.lookup 254 v (.string k) true) w K:=by
 obtain⟨pb,mb,M,rfl,h2,h3,h4⟩:=h
 obtain⟨i,hi,hz⟩:∃i,Tryz.prog.info? 252=some i/\i.zero=some (.agg #[.int .i64 0,.bool false,.nilFunc]):=by
  obtain⟨i,h1,h2⟩:=Option.map_eq_some_iff.1 zJU
  exact⟨i,h1,h2⟩
 refine zmu (enc:=Value.string) kstr zHn hi hz h3 ?_
 have ht:=h4 k
 unfold Tab at ht
 split at ht
 ·rename_i y j b he
  obtain⟨u,hu,hpv⟩:=ht
  rw[hu]
  obtain⟨f,bd,cap,rfl⟩:=pv_cmd _ (List.mem_of_find?_eq_some he) hpv
  exact hk _ _ _ true (.inr ⟨rfl,pb,b,by unfold zfu;rw[he];rfl,h2,hpv,rfl,rfl,rfl⟩) rfl
 ·rename_i he
  rw[ht]
  exact hk 0 false .nilFunc false (.inl ⟨rfl,by unfold zfu;rw[he];rfl⟩) rfl
def DS.isShut:DS->Bool
 |.shut _ => true
 |.opn _ => false
def doW(R:Nat->List ByteArray->DS->Int->ByteArray->DS->Prop)(ws:List ByteArray)(σ:DS)(c:Int)(s:ByteArray)(σ':DS):Prop :=
 match zfu (ws.getD 0 ⟨#[]⟩) with
 |none => c=1/\σ'=σ
 |some b => if ws.length≠(sig b).1 then c=3/\σ'=σ else if (sig b).2=true/\σ.isShut=true then c=9/\σ'=σ else R b ws σ c s σ'
section
variable {O:Nat->Prop} {B db:Nat} {w:World} {K:Kt}
theorem do_k(R:Nat->List ByteArray->DS->Int->ByteArray->DS->Prop)(x:KX O B w db K)(g:GD w)(line:ByteArray)(hs:line.size<4294967281)
  (hcall:∀(w1:World)(pb wp:Addr)(b:Nat)(wc:Nat)(t2:Value),Ext w w1->zfu ((zao 32 line).getD 0 ⟨#[]⟩)=some b->w1.cell? pb=some (.pointer (ptr db))->PV ⟨db,0,none⟩ pb b (.agg #[.int .i64 (sig b).1,.bool (sig b).2,t2]) w1 ->
   (zao 32 line).length=(sig b).1->(zao 32 line).length<=wc->((sig b).2=true->K.st.isShut=false)->zat w1 (some wp) ((zao 32 line).map Value.string)->(∀x∈zao 32 line,x.size<4294967281) ->
   zHu Tryz.prog t2 [.slice (some wp) (zao 32 line).length wc] w1 (CR O B db w1 K fun s c σ'=>R b (zao 32 line) K.st c s σ')) :
  FnP Tryz.prog zfW #[.pointer (ptr db),.string line] w (CR O B db w K fun s c σ'=>doW R (zao 32 line) K.st c s σ'):=by
 have ne:=zaG db
 refine zo2 (ptr db) line w _ fun w0 x0=>(zeC 32 line hs w0 (g.gb.ext x0)).mono fun v w1 ⟨e1,hv,hc1,hlt1⟩=>⟨e1,_,_,_,hv,?_⟩
 have hlen:Lib.countB line (one 32)+1=(zao 32 line).length:=(zi8 32 line).symm
 have hszs:∀y∈zao 32 line,y.size<4294967281:=fun y hy=>by
  obtain⟨i,hi⟩:=List.mem_iff_getElem?.1 hy
  have:=zhp hi
  omega
 change zat w1 _ ((zao 32 line).map Value.string) at hc1
 have h0:0<(zao 32 line).length:=by omega
 rw[hlen]
 generalize zao 32 line=ws at hc1 hszs hcall h0 ⊢
 have x1:=x0.trans e1
 generalize hsp:(⟨w0.heap.size,0,none⟩:Addr)=sp at hc1
 have cw:∀{w':World},Ext w1 w'->Go.Sx.cell w' (pIdx (some sp) 0 1) 0=some (.string (ws.getD 0 ⟨#[]⟩)):=fun e=>by
  rw[zad]
  refine(hc1.ext e) 0 _ ?_
  rw[List.getElem?_map,getElem?_getD ws ⟨#[]⟩ h0];rfl
 have tab:∀{w9:World},FnP Tryz.prog za2 #[.pointer (ptr db)] w9 fun v w'=>Ext w9 w'/\zAX db w' v:=fun {w9}=>(zzq ⟨db,0,none⟩ w9).mono fun v w' ⟨h1,pb,mb,M,h2,h3,h4,h5⟩=>⟨h1,pb,mb,M,h2,h3,h4,h5⟩
 have zz0:∀v∈[Value.int .i64 0,.bool false,.nilFunc],v.oneCell'=true:=by intro v hv;simp at hv;rcases hv with rfl|rfl|rfl<;>rfl
 let J:Option Addr->Bool->World->Prop:=fun p ok w'=>Ext w1 w'/\∃t0 t1 t2,ztb db w' (ws.getD 0 ⟨#[]⟩) t0 t1 t2 ok/\Go.Sx.cell w' (pAdd p 0) 0=some (.int .i64 t0)/\Go.Sx.cell w' (pAdd p 1) 0=some (.bool t1)/\Go.Sx.cell w' (pAdd p 2) 0=some t2/\p≠none
 have put:∀{w13 w14 w20:World}{p:Option Addr}{t0:Int}{t1:Bool}{t2:Value}{ok:Bool},Ext w1 w13->zzb w13 252 [.int .i64 0,.bool false,.nilFunc] p w14->Ext w14 w20->ztb db w20 (ws.getD 0 ⟨#[]⟩) t0 t1 t2 ok->t2.oneCell'=true ->
   zan w20 p [.int .i64 t0,.bool t1,t2] [] (J p ok):=fun {w13 w14 w20 p t0 t1 t2 ok} hx hn e hf h1=>by
  have o14:Own w13.heap.size w14 252 3 p 1 1 [.int .i64 0,.bool false,.nilFunc]:=by
   rw[hn.at_]
   exact⟨by simp,.inr ⟨w13.heap.size,1,_,rfl,Nat.le_refl _,hn.block,Nat.le_refl _,by simp[maxLen],by simp,by simp⟩⟩
  have hblk:w20.heap[w13.heap.size]?=some (.cells #[.int .i64 0,.bool false,.nilFunc] 252):=by
   rw[e.block _ (by rw[hn.size];omega)];exact hn.block
  have hp:p≠none:=by rw[hn.at_];simp
  refine zaU (off:=0) (o14.ext e) (zeT p) (by simp) (by simp) (by intro u hu;simp at hu;rcases hu with rfl|rfl|rfl<;>first|rfl|exact h1) (by simp) fun w21 o21 g21=>?_
  have e20:Ext w13 w20:=hn.ext.trans e
  have e21:Ext w13 w21:=g21.ext e20 (o14.ext e)
  have hcel:zJW w20 w21:=fun q v hv hc=>by
   have hq:q.block≠w13.heap.size:=fun hq=>by
    unfold World.cell? at hc
    rw[hq,hblk] at hc
    simp only at hc
    split at hc
    ·cases hc
    ·have hm:=Array.mem_of_getElem? hc
     simp at hm
     rcases hm with rfl|rfl|rfl<;>exact hv
   have hlt:q.block<w20.heap.size:=by
    rcases Nat.lt_or_ge q.block w20.heap.size with h|h
    ·exact h
    ·unfold World.cell? at hc
     rw[Array.getElem?_eq_none h] at hc;cases hc
   rw[<-hc]
   exact World.cell?_of_block (w:=w20) (g21.by_.block q.block hlt (by rw[hn.at_];simp[blk];exact hq))
  have hcs:=o21.cells
  refine⟨hx.trans e21,t0,t1,t2,?_,?_,?_,?_,hp⟩
  ·rcases hf with h|⟨h1,pb,b,h2,h3,h4,h5⟩
   ·exact .inl h
   ·exact .inr ⟨h1,pb,b,h2,hcel _ _ trivial h3,zGy _ _ _ _ _ _ hcel h4,h5⟩
  ·rw[zam];exact hcs 0 _ rfl
  ·rw[zam];exact hcs 1 _ rfl
  ·rw[zam];exact hcs 2 _ rfl
 have new:∀{w13:World}{T:Option Addr->World->Prop},(∀p w14,zzb w13 252 [.int .i64 0,.bool false,.nilFunc] p w14->T p w14)->New w13 252 [.int .i64 0,.bool false,.nilFunc] T:=fun h=>⟨zz0,h⟩
 refine⟨J,⟨by simp,by omega,by omega,fun w9 x9=>tab.mono fun v w10 ⟨e10,hT⟩=>⟨e10,v,rfl,_,cw (x9.trans e10),fun w13 x13=>?_,fun w13 x13=>?_⟩,⟨_,cw (Ext.refl _),fun w10 x10=>tab.mono fun v w11 ⟨e11,hT⟩=>⟨e11,v,rfl,fun w13 x13=>?_,fun w13 x13=>?_⟩,fun w10 x10=>?_⟩,fun w9 x9=>?_⟩,?_⟩
 ·exact zoO (hT.ext x13) _ fun t0 t1 t2 ok hf h1=>⟨Ext.refl _,t0,t1,t2,ok,rfl,fun w19 x19=>new fun p w20 hn=>put (((x9.trans e10).trans x13).trans x19) hn (Ext.refl _) (hf.ext (x19.trans hn.ext)) h1⟩
 ·exact new fun p w14 hn w15 x15=>zoO (hT.ext ((x13.trans hn.ext).trans x15)) _ fun t0 t1 t2 ok hf h1=>⟨Ext.refl _,t0,t1,t2,ok,rfl,put ((x9.trans e10).trans x13) hn x15 hf h1⟩
 ·exact zoO (hT.ext x13) _ fun t0 t1 t2 ok hf h1=>⟨Ext.refl _,t0,t1,t2,ok,rfl,fun w19 x19=>new fun p w20 hn=>put (((x10.trans e11).trans x13).trans x19) hn (Ext.refl _) (hf.ext (x19.trans hn.ext)) h1⟩
 ·exact new fun p w14 hn w15 x15=>zoO (hT.ext ((x13.trans hn.ext).trans x15)) _ fun t0 t1 t2 ok hf h1=>⟨Ext.refl _,t0,t1,t2,ok,rfl,put ((x10.trans e11).trans x13) hn x15 hf h1⟩
 ·exact new fun p w11 hn w12 x12=>tab.mono fun v w13 ⟨e13,hT⟩=>⟨e13,v,rfl,fun w15 x15=>zoO (hT.ext x15) _ fun t0 t1 t2 ok hf h1=>⟨Ext.refl _,t0,t1,t2,ok,rfl,put x10 hn ((x12.trans e13).trans x15) hf h1⟩⟩
 ·refine new fun p w10 hn=>⟨fun w11 x11=>tab.mono fun v w12 ⟨e12,hT⟩=>⟨e12,v,rfl,_,cw ((((x9.trans hn.ext).trans x11).trans e12)),fun w15 x15=>zoO (hT.ext x15) _ fun t0 t1 t2 ok hf h1=>⟨Ext.refl _,t0,t1,t2,ok,rfl,put x9 hn ((x11.trans e12).trans x15) hf h1⟩⟩,_,cw (x9.trans hn.ext),fun w12 x12=>tab.mono fun v w13 ⟨e13,hT⟩=>⟨e13,v,rfl,fun w15 x15=>zoO (hT.ext x15) _ fun t0 t1 t2 ok hf h1=>⟨Ext.refl _,t0,t1,t2,ok,rfl,put x9 hn ((x12.trans e13).trans x15) hf h1⟩⟩⟩
 rintro p ok w8 ⟨x8,t0,t1,t2,hf,c0,c1,c2,hp⟩
 have h8:=x1.trans x8
 refine⟨fun hok w9 x9=>zt8 ⟨Ext.refl _,_,rfl,fun w12 h12=>zcn x ((h8.trans x9).trans h12) (zE5 (c:=1) (by decide)) ?_⟩,fun hok=>⟨hp,_,c0,?_⟩⟩
 ·rcases hf with⟨_,h⟩|⟨h,_⟩
  ·unfold doW;rw[h];exact⟨rfl,rfl⟩
  ·rw[hok] at h;cases h
 rcases hf with⟨h,_⟩|⟨_,pb,b,hcm,hpb,hpv,rfl,rfl,_⟩
 ·rw[hok] at h;cases h
 refine⟨fun hne w10 x10=>zt8 ⟨Ext.refl _,_,rfl,rfl,fun w13 x13=>zzU ⟨Ext.refl _,_,rfl,fun w16 h16=>zcn x (((h8.trans x10).trans x13).trans h16) (zzC (c:=3) (by decide)) ?_⟩⟩,fun heq=>⟨hp,_,c1,fun _=>ne,fun _=>ne,fun ht=>?_,fun hfl=>⟨hp,_,c2,fun w12 x12=>?_⟩⟩⟩
 ·unfold doW;rw[hcm]
  simp only[]
  rw[if_pos (by omega)]
  first|exact⟨rfl,rfl⟩|simp
 ·have hR:∀(s:ByteArray)(c:Int)(σ:DS),K.st.isShut=false->R b ws K.st c s σ->doW R ws K.st c s σ:=fun s c σ hsh h=>by
   unfold doW;rw[hcm]
   simp only[]
   rw[if_neg (by omega),if_neg (by rw[hsh];simp)]
   exact h
  rcases K.cases with hK|⟨fb,P,F,hK⟩
  ·refine⟨none,(x.ext h8).nofp hK,fun _ w12 x12=>zt8 ⟨Ext.refl _,_,rfl,fun w15 h15=>zcn x ((h8.trans x12).trans h15) (zE5 (c:=9) (by decide)) ?_⟩,fun h=>absurd rfl h⟩
   unfold doW;rw[hcm]
   simp only[]
   rw[if_neg (by omega),if_pos ⟨ht,by rw[Kt.st_shut hK];rfl⟩]
   first|exact⟨rfl,rfl⟩|simp
  ·refine⟨ptr fb,(x.ext h8).fbp hK,fun h=>absurd h (zaG fb),fun _=>⟨hp,_,c2,fun w13 x13=>?_⟩⟩
   have hsh:K.st.isShut=false:=by rw[Kt.st_opn hK];rfl
   have hx:=h8.trans x13
   obtain⟨f,bd,cap,e1,e2⟩:=hcall w13 pb sp b ws.length t2 hx hcm ((Cst.of_ext x13).cell hpb) (zjs _ _ _ _ _ _ (Cst.of_ext x13) hpv) (by omega) (Nat.le_refl _) (fun _=>hsh) (hc1.ext (x8.trans x13)) hszs
   refine⟨f,bd,cap,e1,e2.mono fun v w14 hC=>?_⟩
   obtain⟨s,ev,c,K',hv,q1,q2,q3,q4,q5⟩:=zvV hx hC
   exact⟨s,ev,hv,fun w17 h17=>⟨s,ev,c,K',rfl,q1,q2.ext h17,q3.tr (zac h17),q4,hR _ _ _ hsh q5⟩⟩
 ·have hx:=h8.trans x12
  obtain⟨f,bd,cap,e1,e2⟩:=hcall w12 pb sp b ws.length t2 hx hcm ((Cst.of_ext x12).cell hpb) (zjs _ _ _ _ _ _ (Cst.of_ext x12) hpv) (by omega) (Nat.le_refl _) (fun h=>by rw[hfl] at h;cases h) (hc1.ext (x8.trans x12)) hszs
  refine⟨f,bd,cap,e1,e2.mono fun v w14 hC=>?_⟩
  obtain⟨s,ev,c,K',hv,q1,q2,q3,q4,q5⟩:=zvV hx hC
  refine⟨s,ev,hv,fun w17 h17=>⟨s,ev,c,K',rfl,q1,q2.ext h17,q3.tr (zac h17),q4,?_⟩⟩
  unfold doW;rw[hcm]
  simp only[]
  rw[if_neg (by omega),if_neg (by rw[hfl];simp)]
  exact q5
end
theorem As_k{W0 w:World}{v:Value}{c:Int}(he:EV v c)(g:GD w){t:Addr}{old:Value}(hx:Ext W0 w)(ht:W0.heap.size<=t.block)(hc:w.cell? t=some old)(hf:w.frozen? t=false) :
  FnP Tryz.prog zn8 #[v,.iface 196 (.pointer (some t))] w fun u w'=>Ext W0 w'/\∃b:Bool,u=.bool b/\((c=0/\b=false)\/(c≠0/\b=true/\Go.Sx.cell w' (some t) 0=some (.int .i64 c))):=by
 refine⟨fun args w=>Tryz.call104 args w,?_⟩
 have hg:w.cell? ⟨0,0,none⟩=some (.iface 329 (.agg #[.pointer (some ⟨11,175,none⟩)])):=zvT g.eType
 have al:∀{w':World}(o:Obj),Ext W0 w'->Ext W0 (w'.alloc o):=fun o h=>Below.alloc h h.size o
 have lt:t.block<w.heap.size:=by
  rcases Nat.lt_or_ge t.block w.heap.size with h|h
  ·exact h
  ·unfold World.cell? at hc
   rw[Array.getElem?_eq_none h] at hc;cases hc
 have ca:∀{w':World}(o:Obj),t.block<w'.heap.size->w'.cell? t=some old->(w'.alloc o).cell? t=some old/\t.block<(w'.alloc o).heap.size:=fun {w'} o h1 h2=>⟨by rw[World.cell?_alloc_lt _ _ t h1];exact h2,by rw[zA4];omega⟩
 have fin:∀{w':World},Ext W0 w'->w'.cell? t=some old->Ext W0 (w'.setCell t (.int .i64 c))/\Go.Sx.cell (w'.setCell t (.int .i64 c)) (some t) 0=some (.int .i64 c):=fun {w'} h1 h2=>⟨Below.setCell h1 ht _,zf2 (World.cell?_setCell_same w' t _ h2)⟩
 rcases he with⟨h0,rfl⟩|⟨h0,rfl|⟨k,rfl⟩⟩
 ·exact(as_nil _ w).mono fun e w' ⟨h1,h2⟩=>⟨_,h1,by rw[h2];exact hx,false,rfl,.inl ⟨h0,rfl⟩⟩
 ·refine(as_hit c t old w hg hc hf).mono fun e w' ⟨h1,o1,o2,o3,o4,h2⟩=>⟨_,h1,?_⟩
  obtain⟨a1,b1⟩:=ca o1 lt hc
  obtain⟨a2,b2⟩:=ca o2 b1 a1
  obtain⟨a3,b3⟩:=ca o3 b2 a2
  obtain⟨a4,b4⟩:=ca o4 b3 a3
  obtain⟨q1,q2⟩:=fin (al o4 (al o3 (al o2 (al o1 hx)))) a4
  rw[h2]
  exact⟨q1,true,rfl,.inr ⟨h0,rfl,q2⟩⟩
 ·refine(zHZ k c t old w hg hc hf).mono fun e w' ⟨h1,o1,o2,o3,o4,o5,h2⟩=>⟨_,h1,?_⟩
  obtain⟨a1,b1⟩:=ca o1 lt hc
  obtain⟨a2,b2⟩:=ca o2 b1 a1
  obtain⟨a3,b3⟩:=ca o3 b2 a2
  obtain⟨a4,b4⟩:=ca o4 b3 a3
  obtain⟨a5,b5⟩:=ca o5 b4 a4
  obtain⟨q1,q2⟩:=fin (al o5 (al o4 (al o3 (al o2 (al o1 hx))))) a5
  rw[h2]
  exact⟨q1,true,rfl,.inr ⟨h0,rfl,q2⟩⟩
def zvN(c:Int)(s:ByteArray):ByteArray:=if c=0 then s else (⟨#[101,114,114,32]⟩:ByteArray)++ofL (Lib.itoa c)
abbrev zDJ:=Nat->List ByteArray->DS->Int->ByteArray->DS->Prop
def doD(R:zDJ)(line:ByteArray)(σ:DS)(a:ByteArray)(σ':DS):Prop:=∃c s,doW R (zao 32 line) σ c s σ'/\a=zvN c s
def zn3(R:zDJ)(line:ByteArray):Prop:=∀(O:Nat->Prop)(B db:Nat)(K:Kt)(w1:World)(pb wp:Addr)(b:Nat)(wc:Nat)(t2:Value),KX O B w1 db K->GD w1->11<=B->B<=w1.heap.size->zfu ((zao 32 line).getD 0 ⟨#[]⟩)=some b->w1.cell? pb=some (.pointer (ptr db)) ->
 PV ⟨db,0,none⟩ pb b (.agg #[.int .i64 (sig b).1,.bool (sig b).2,t2]) w1->(zao 32 line).length=(sig b).1->(zao 32 line).length<=wc->((sig b).2=true->K.st.isShut=false)->zat w1 (some wp) ((zao 32 line).map Value.string)->(∀x∈zao 32 line,x.size<4294967281) ->
 zHu Tryz.prog t2 [.slice (some wp) (zao 32 line).length wc] w1 (CR O B db w1 K fun s c σ'=>R b (zao 32 line) K.st c s σ'/\InR .i64 c)
section
variable {O:Nat->Prop} {B db:Nat} {w:World} {K:Kt}
theorem Do_kD(R:zDJ)(x:KX O B w db K)(g:GD w)(hB:11<=B)(hBw:B<=w.heap.size)(line:ByteArray)(hs:line.size<4294967281)(hcall:zn3 R line) :
  FnP Tryz.prog zd9 #[.pointer (ptr db),.string line] w fun v w'=>∃(a:ByteArray) (K':Kt),v=.string a/\KX O B w' db K'/\Fr (KF db K) w w'/\ztV w db K K'/\doD R line K.st a K'.st:=by
 refine zo1 (ptr db) line w _ fun w0 x0=>(do_k (fun b ws σ c s σ'=>R b ws σ c s σ'/\InR .i64 c) (x.ext x0) (g.ext x0) line hs fun w1 pb wp b wc t2 x1 a1 a2 a3 a4 a5 a6 a7 a8=>hcall O B db K w1 pb wp b wc t2 ((x.ext x0).ext x1) ((g.ext x0).ext x1) hB (Nat.le_trans hBw (Nat.le_trans x0.size x1.size)) a1 a2 a3 a4 a5 a6 a7 a8).mono fun v w1 hC=>?_
 obtain⟨s,ev,c,K',rfl,hE,hX,hF,hG,hR⟩:=zvV x0 hC
 have hRR:doW R (zao 32 line) K.st c s K'.st/\InR .i64 c:=by
  unfold doW at hR ⊢
  split at hR
  ·exact⟨hR,by rw[hR.1];exact i64 (by omega)⟩
  ·split at hR
   ·rename_i h;rw[if_pos h];exact⟨hR,by rw[hR.1];exact i64 (by omega)⟩
   ·rename_i h
    rw[if_neg h]
    split at hR
    ·rename_i h;rw[if_pos h];exact⟨hR,by rw[hR.1];exact i64 (by omega)⟩
    ·rename_i h;rw[if_neg h];exact hR
 have g1:GD w1:=g.fr hF fun b hb=>Nat.le_trans hB (x.foot hb).1
 refine⟨s,ev,rfl,fun w4 x4=>⟨by simp[Value.oneCell'],fun p w5 hn w6 x6=>zfm (d:=.pointer 24) (by kernel_rfl) (by intro m hm;cases hm) ⟨Ext.refl _,_,rfl,fun w9 x9=>?_⟩⟩⟩
 obtain⟨q,rfl,hq⟩:=zkY hn
 have hqb:q=⟨w4.heap.size,0,none⟩:=by have:=hn.at_;injection this
 have h49:Ext w4 w9:=(hn.ext.trans x6).trans x9
 have h59:Ext w5 w9:=x6.trans x9
 have h19:Ext w1 w9:=x4.trans h49
 have hfz:w9.frozen? q=false:=by
  have hb:w9.heap[w4.heap.size]?=some (.cells #[.int .i64 0] 24):=by rw[h59.block _ (by rw[hn.size];omega)];exact hn.block
  unfold World.frozen?
  rw[hqb]
  simp only[hb]
  rfl
 refine(As_k hE (g1.ext h19) h49 (by rw[hqb];exact Nat.le_refl _) ((Cst.of_ext h59).cell hq) hfz).mono fun u w10 ⟨e10,b,hu,hb⟩=>⟨b,hu,fun hbt=>?_,fun hbf w12 h12=>?_⟩
 ·rcases hb with⟨_,h⟩|⟨hc,_,hcell⟩
  ·rw[hbt] at h;cases h
  ·refine⟨c,hcell,fun w13 h13=>(zmW c (zhd hRR.2) w13 (((g1.ext x4).ext e10).ext h13).gb).mono fun v w14 ⟨e14,hv⟩=>⟨e14,_,hv,?_,fun w16 h16=>?_⟩⟩
   ·have:=Lib.itoa_length_le c (zhd hRR.2).1 (zhd hRR.2).2
    unfold zc6
    rw[zas]
    show 4+_<=_
    omega
   ·have hx:=(x4.trans e10).trans h16
    exact⟨_,K',rfl,hX.ext hx,hF.tr (zac hx),hG,c,s,hRR.1,by unfold zvN;rw[if_neg hc]⟩
 ·rcases hb with⟨hc,_⟩|⟨_,h,_⟩
  ·have hx:=(x4.trans e10).trans h12
   exact⟨s,K',rfl,hX.ext hx,hF.tr (zac hx),hG,c,s,hRR.1,by unfold zvN;rw[if_pos hc]⟩
  ·rw[hbf] at h;cases h
end
inductive zcQ(R:zDJ):List ByteArray->DS->List ByteArray->DS->Prop
 |nil (σ:DS):zcQ R [] σ [] σ
 |snoc {ls:List ByteArray} {l:ByteArray} {σ σ1 σ2:DS} {us:List ByteArray} {a:ByteArray}:zcQ R ls σ us σ1->doD R l σ1 a σ2->zcQ R (ls++[l]) σ (us++[a]) σ2
theorem zcQ.len{R:zDJ}{ls us:List ByteArray}{σ σ':DS}(h:zcQ R ls σ us σ'):us.length=ls.length:=by
 induction h with
 |nil => rfl
 |snoc _ _ ih => simp[ih]
theorem zob(R:zDJ)(lines:List ByteArray)(p:Option Addr)(c:Nat)(w:World)(g:GD w)(h6:11<=w.heap.size)(hw:zat w p (lines.map Value.string))(h63:(lines.length:Int)<=9223372036854775807)(hs:∀x∈lines,x.size<4294967281)(hcall:∀x∈lines,zn3 R x) :
  FnP Tryz.prog zb4 #[.slice p lines.length c] w fun v w'=>Ext w w'/\((100<lines.length/\v=.tuple #[.slice none 0 0,.int .i64 2])\/(lines.length<=100/\∃(us:List ByteArray) (σ:DS) (q:Option Addr) (d:Nat),v=.tuple #[.slice q lines.length d,.int .i64 0]/\zcQ R lines (.shut []) us σ/\Own w.heap.size w' zai 1 q lines.length d (us.map Value.string))):=by
 refine zup p lines.length c w _ ⟨fun h w0 h0=>⟨h0,.inl ⟨by omega,rfl⟩⟩,fun hle w0 h0=>(zBy w0).mono fun v w1 ⟨e1,db,hv,x1⟩=>⟨e1,ptr db,hv,?_⟩⟩
 have hx1:=h0.trans e1
 refine⟨fun q n d k w6=>Ext w0 w6/\0<=k/\k<=lines.length/\n=k/\∃(us:List ByteArray) (K:Kt),zcQ R (lines.take k.toNat) (.shut []) us K.st/\Own w0.heap.size w6 zai 1 q n d (us.map Value.string)/\KX (fun b=>b<w0.heap.size\/∃a,q=some a/\a.block=b) w0.heap.size w6 db K,fun _ _ _ k _=>(lines.length-k).toNat,⟨e1,by omega,by omega,by simp,[],_,zcQ.nil _,Own.nil,x1.go (S:=fun _=>False) (Fr.refl _ _) (fun _ h=>h.elim) fun b hb=>?_⟩,?_⟩
 ·rcases hb with hb|⟨a,ha,_⟩
  ·exact .inl hb
  ·cases ha
 rintro q n d k w6 ⟨x6,hk0,hk1,hnk,us,K,hp,oA,hX⟩
 have hal:=hp.len
 rw[List.length_take] at hal
 refine⟨fun hlt=>?_,fun hge w7 h7=>?_⟩
 ·obtain⟨l,hl⟩:∃l,lines[k.toNat]?=some l:=⟨_,List.getElem?_eq_getElem (by omega)⟩
  have hm:=List.mem_of_getElem? hl
  have hcell:Go.Sx.cell w6 (pIdx p k 1) 0=some (.string l):=by
   rw[zad]
   refine(hw.ext (h0.trans x6)) _ _ ?_
   simp[hl]
  refine⟨fun hq=>zal hcell (zah.2 hq),hk0,hlt,l,hcell,fun w8 x8=>?_⟩
  have hsz:w0.heap.size<=w8.heap.size:=(x6.trans x8).size
  refine(Do_kD R (hX.ext x8) (g.ext ((h0.trans x6).trans x8)) (Nat.le_trans h6 h0.size) hsz l (hs l hm) (hcall l hm)).mono fun v w9 ⟨a,K',hv,hX',hF,hG,hD⟩=>⟨a,hv,?_⟩
  have o9:Own w0.heap.size w9 zai 1 q n d (us.map Value.string):=(oA.ext x8).fr hF fun b hb hk=>(hX.ext x8).oft (.inr ⟨b,hb,rfl⟩) hk
  have e9:Ext w0 w9:=(hX.ext x8).keep (x6.trans x8) (Nat.le_refl _) hF
  refine push (v:=.string a) zaZ (by omega) o9 e9.size rfl (by intro u hu;simp[Value.cells] at hu;subst hu;rfl) (by omega) (by omega) (by omega) fun q' d' w' o' g' np=>⟨i64 (by omega),⟨g'.ext e9 o9,by omega,by omega,by omega,us++[a],K',?_,?_,?_⟩,by simp only[];omega⟩
  ·rw[show(k+1).toNat=k.toNat+1 by omega,List.take_add_one,hl]
   exact zcQ.snoc hp hD
  ·simpa[Value.cells] using o'
  ·refine hX'.go (zaR (S:=fun b=>∃a,q=some a/\a.block=b) g' fun a ha=>⟨a,ha,rfl⟩) (fun b hb=>.inr hb) fun b hb=>?_
   rcases hb with hb|⟨a',ha',rfl⟩
   ·exact .inl (.inl hb)
   ·have hlt':=(o'.lt a' ha').2
    rcases g'.new with hn|hn
    ·left;right
     subst ha'
     cases q with
     |none => simp[blk] at hn
     |some z => simp[blk] at hn;exact⟨z,rfl,hn.symm⟩
    ·exact .inr ⟨hn a' ha',hlt'⟩
 ·have hk:k=lines.length:=by omega
  subst hk
  have htake:lines.take ((lines.length:Int)).toNat=lines:=by simp
  rw[htake] at hp
  have hn:n=lines.length:=by omega
  subst hn
  exact⟨(h0.trans x6).trans h7,.inr ⟨by omega,us,K.st,q,d,rfl,hp,(oA.ext h7).weak h0.size⟩⟩
abbrev zDI:=List ByteArray->DS->Int->ByteArray->DS->Prop
def zon(N Fr_:zDI):zDJ
 |3,ws,σ,c,s,σ' => zwk (ws.getD 1 ⟨#[]⟩) (ws.getD 2 ⟨#[]⟩) (ws.getD 3 ⟨#[]⟩) σ c s σ'
 |7,_,σ,c,s,σ' => zuA σ c s σ'
 |11,ws,σ,c,s,σ' => N ws σ c s σ'
 |15,ws,σ,c,s,σ' => zhx (znr ws 1) σ c s σ'
 |22,ws,σ,c,s,σ' => zpl zsK (ws.getD 1 ⟨#[]⟩) σ s c σ'
 |26,_,σ,c,s,σ' => zuJ σ c s σ'
 |33,ws,σ,c,s,σ' => zpl (zvx true) (ws.getD 1 ⟨#[]⟩) σ s c σ'
 |40,ws,σ,c,s,σ' => zpl (zvx false) (ws.getD 1 ⟨#[]⟩) σ s c σ'
 |47,ws,σ,c,s,σ' => zpl zEC (ws.getD 1 ⟨#[]⟩) σ s c σ'
 |51,ws,σ,c,s,σ' => zAb (ws.getD 1 ⟨#[]⟩) σ c s σ'
 |55,ws,σ,c,s,σ' => Fr_ ws σ c s σ'
 |_,_,_,_,_,_ => False
def zax(c:Int):Prop:=0<=c/\c<=10
theorem zax.inR{c:Int}(h:zax c):InR .i64 c:=i64 (by unfold zax at h;omega)
theorem zl7{s:ByteArray}{n c:Int}(h:zFE s n c):zax c:=by rcases h with⟨h,_⟩|⟨h,_⟩<;>(unfold zax;omega)
theorem zrg{F:Fm}{id e:Int}(h:zs4 F id e):zax e:=by rcases h with⟨_,h⟩|⟨_,h⟩<;>(unfold zax;omega)
theorem zwU{s:ByteArray}{a:Nd}{e:Int}(h:zz5 s a e):zax e:=by
 unfold zax
 by_cases h0:e=0
 ·omega
 ·by_cases h4:e=4
  ·omega
  ·have:=h.2.2.2.1 h0 h4;omega
theorem ztX:∀(l:List Lb)(seen:List ByteArray),zax (lbE seen l)
 |[],seen => by unfold lbE zax;omega
 |x::r,seen => by
  rw[lbE]
  split
  ·split
   ·unfold zax;omega
   ·exact ztX r _
  ·unfold zax;omega
theorem zFj(seen:List ByteArray)(h:Ht):zax (hE seen h):=by
 unfold hE
 split;· unfold zax;omega
 split;· unfold zax;omega
 split;· unfold zax;omega
 split;· exact ztX _ _
 split;· unfold zax;omega
 split;· unfold zax;omega
 split<;>(unfold zax;omega)
theorem ztL:∀(L:List Ht)(seen:List ByteArray),zax (hsE seen L)
 |[],seen => by unfold hsE zax;omega
 |x::r,seen => by
  rw[hsE]
  split
  ·exact zFj _ _
  ·exact ztL r _
theorem zv2(L:List Ht):zax (zkH L):=by
 unfold zkH
 split
 ·unfold zax;omega
 ·exact ztL _ _
theorem zw8{F:Fm}{n e:Int}{σ:DS}(h:zsK F n e σ):zax e:=by rcases h with⟨h,_⟩|⟨h,_⟩<;>(unfold zax;omega)
theorem zrh{ok:Bool}{F:Fm}{n e:Int}{σ:DS}(h:zvx ok F n e σ):zax e:=by
 rcases h with⟨_,h,_⟩|⟨h,_⟩
 ·exact zrg h
 ·unfold zax;omega
theorem zzo{F:Fm}{n e:Int}{σ:DS}(h:zEC F n e σ):zax e:=by
 rcases h with⟨_,h,_⟩|⟨h,_⟩
 ·exact zrg h
 ·unfold zax;omega
theorem zht{R:Fm->Int->Int->DS->Prop}(hR:∀F n e σ,R F n e σ->zax e){word:ByteArray}{σ:DS}{s:ByteArray}{c:Int}{σ':DS}(h:zpl R word σ s c σ'):zax c:=by
 obtain⟨n,c1,hn,⟨_,rfl,_⟩|⟨_,_,h⟩⟩:=h
 ·exact zl7 hn
 ·unfold zJe at h
  split at h
  ·unfold zax;omega
  ·exact hR _ _ _ _ h
theorem zwl{a b c0:ByteArray}{σ:DS}{c:Int}{s:ByteArray}{σ':DS}(h:zwk a b c0 σ c s σ'):zax c:=by
 obtain⟨nd,e,hr,⟨_,rfl,_⟩|⟨_,h⟩⟩:=h
 ·exact zwU hr
 ·split at h
  ·unfold zax;omega
  ·split at h
   ·unfold zax;omega
   ·rw[h.1];exact zv2 _
theorem zwQ{σ:DS}{c:Int}{s:ByteArray}{σ':DS}(h:zuA σ c s σ'):zax c:=by
 unfold zuA at h
 split at h<;>(unfold zax;omega)
theorem zwS{σ:DS}{c:Int}{s:ByteArray}{σ':DS}(h:zuJ σ c s σ'):zax c:=by
 unfold zuJ at h
 split at h
 ·exact h.elim
 ·unfold zax;omega
theorem zw2{word:ByteArray}{σ:DS}{c:Int}{s:ByteArray}{σ':DS}(h:zAb word σ c s σ'):zax c:=by
 obtain⟨_,n,c1,hn,⟨_,rfl⟩|⟨_,h⟩⟩:=h
 ·exact zl7 hn
 ·split at h
  ·unfold zax;omega
  ·rcases h with⟨_,h,_⟩|⟨_,h⟩<;>(unfold zax;omega)
theorem zsI{t:ByteArray}{σ:DS}{c:Int}{s:ByteArray}{σ':DS}(h:zhx t σ c s σ'):zax c:=by
 unfold zhx at h
 split at h
 ·exact h.elim
 ·obtain⟨e,j,hr,⟨h0,rfl,_⟩|⟨h0,hS,_⟩⟩:=h
  ·unfold zax
   obtain⟨r1,r2,_⟩:=hr
   by_cases hz:3000<t.size
   ·have:=r1 hz;omega
   ·have:=r2 (by omega);omega
  ·have hj:=zir.2 (hr.2.2.1 h0).ok
   unfold zax
   rcases hS with⟨h1,_⟩|⟨_,⟨_,h⟩|⟨_,⟨_,h⟩|⟨_,⟨_,h⟩|⟨_,h⟩⟩⟩⟩<;>omega
theorem zvM{a b c d e f:Value}(h:Value.agg #[a,b,c]=.agg #[d,e,f]):c=f:=by
 have:=congrArg Value.cells h
 simp[Value.cells] at this
 exact this.2.2
theorem zlR(N Fr_:zDI)(line:ByteArray)(h11:zfu ((zao 32 line).getD 0 ⟨#[]⟩)=some 11->False)(h55:zfu ((zao 32 line).getD 0 ⟨#[]⟩)=some 55->False):zn3 (zon N Fr_) line:=by
 intro O B db K w1 pb wp b wc t2 x g hB hBw hcm hpb hpv hlen hcap hsh hw hszs
 generalize zao 32 line=ws at *
 have hb:b=3\/b=7\/b=11\/b=15\/b=22\/b=26\/b=33\/b=40\/b=47\/b=51\/b=55:=by
  unfold zfu at hcm
  obtain⟨e,he,rfl⟩:=Option.map_eq_some_iff.1 hcm
  have:=List.mem_of_find?_eq_some he
  simp only[KL,List.mem_cons,List.not_mem_nil,or_false] at this
  rcases this with rfl|rfl|rfl|rfl|rfl|rfl|rfl|rfl|rfl|rfl|rfl<;>simp
 have hsz1:(ws.getD 1 ⟨#[]⟩).size<=281474976710656:=by
  by_cases h1:1<ws.length
  ·have:=hszs _ (zaq ws ⟨#[]⟩ h1);omega
  ·rw[List.getD_eq_getElem?_getD,List.getElem?_eq_none (by omega)]
   exact Nat.zero_le _
 have hszs':∀y∈ws,y.size<=4294967281:=fun y hy=>by have:=hszs y hy;omega
 have opn:(sig b).2=true->∃fb P F,K.farm=some (fb,P,F):=fun h=>by
  rcases K.cases with hK|h'
  ·have:=hsh h;rw[Kt.st_shut hK] at this;cases this
  ·exact h'
 have meth:∀{F:FuncId}{Rr:ByteArray->Int->DS->Prop},(∃f bd cap,(Value.agg #[.int .i64 (sig b).1,.bool (sig b).2,t2])=.agg #[.int .i64 (sig b).1,.bool (sig b).2,.func f bd cap]/\zbj ⟨db,0,none⟩ F (.func f bd cap)) ->
   FnP Tryz.prog F #[.pointer (ptr db),.slice (some wp) ws.length wc] w1 (CR O B db w1 K Rr)->(∀s c σ,Rr s c σ->zon N Fr_ b ws K.st c s σ/\InR .i64 c) ->
   zHu Tryz.prog t2 [.slice (some wp) ws.length wc] w1 (CR O B db w1 K fun s c σ'=>zon N Fr_ b ws K.st c s σ'/\InR .i64 c):=fun {F Rr} h1 h2 h3=>by
  obtain⟨f,bd,cap,e1,e2⟩:=h1
  have e3:=zvM e1
  unfold zbj at e2
  rw[<-e3] at e2
  exact⟨F,_,_,e2,h2.mono fun v w' h=>h.mono h3⟩
 have clo:∀{Rr:ByteArray->Int->DS->Prop},(∃f' cap,t2=.func (.func f') #[] cap/\FnP Tryz.prog f' (#[.slice (some wp) ws.length wc]++cap) w1 (CR O B db w1 K Rr))->(∀s c σ,Rr s c σ->zon N Fr_ b ws K.st c s σ/\InR .i64 c) ->
   zHu Tryz.prog t2 [.slice (some wp) ws.length wc] w1 (CR O B db w1 K fun s c σ'=>zon N Fr_ b ws K.st c s σ'/\InR .i64 c):=fun {Rr} h1 h3=>by
  obtain⟨f',cap,e1,e2⟩:=h1
  exact⟨f',#[],cap,e1,e2.mono fun v w' h=>h.mono h3⟩
 have cmd:∀{n:Int}{fl:Bool}{R:Value->World->Prop},zdK n fl R (.agg #[.int .i64 (sig b).1,.bool (sig b).2,t2]) w1->R t2 w1:=fun {n fl R} h=>by
  obtain⟨f,bd,cap,e1,e2⟩:=h
  have e3:=zvM e1
  rw[e3];exact e2
 have pbc:Go.Sx.cell w1 (some pb) 0=some (.pointer (ptr db)):=zf2 hpb
 rcases hb with rfl|rfl|rfl|rfl|rfl|rfl|rfl|rfl|rfl|rfl|rfl
 ·have e2:zbj ⟨db,0,none⟩ 208 t2:=cmd (show zdK 4 false (fun f _=>zbj ⟨db,0,none⟩ 208 f) _ w1 from hpv)
  exact⟨208,_,_,e2,(host_c x g hBw (some wp) wc ws hlen hszs hw).mono fun v w' h=>h.mono fun s c σ q=>⟨q,(zwl q).inR⟩⟩
 ·have e2:zbj ⟨db,0,none⟩ 209 t2:=cmd (show zdK 1 false (fun f _=>zbj ⟨db,0,none⟩ 209 f) _ w1 from hpv)
  exact⟨209,_,_,e2,(open_c x hBw (some wp) ws.length wc).mono fun v w' h=>h.mono fun s c σ q=>⟨q,(zwQ q).inR⟩⟩
 ·exact(h11 hcm).elim
 ·have e2:zbj ⟨db,0,none⟩ 211 t2:=cmd (show zdK 6 true (fun f _=>zbj ⟨db,0,none⟩ 211 f) _ w1 from hpv)
  obtain⟨fb,P,F,hK⟩:=opn rfl
  have hl:ws.length=6:=hlen
  exact⟨211,_,_,e2,(zGh x hK g hB hBw (some wp) wc ws (by omega) hcap (by omega) hszs' hw).mono fun v w' h=>h.mono fun s c σ q=>⟨q,(zsI q).inR⟩⟩
 ·have e2:=cmd (show zdK 2 false (zc0 pb 212) _ w1 from hpv)
  have hl:ws.length=2:=hlen
  exact clo (zyP x e2 hpb g.gb zsK (some wp) wc ws (by omega) hsz1 hw fun {w2 fb P F} n e hn hK=>tick_c (x.ext e) hK (zaH e pbc) n) fun s c σ q=>⟨q,(zht (fun _ _ _ _=>zw8) q).inR⟩
 ·have e2:zbj ⟨db,0,none⟩ 213 t2:=cmd (show zdK 1 true (fun f _=>zbj ⟨db,0,none⟩ 213 f) _ w1 from hpv)
  obtain⟨fb,P,F,hK⟩:=opn rfl
  exact⟨213,_,_,e2,(plan_c x hK g hB (some wp) ws.length wc).mono fun v w' h=>h.mono fun s c σ q=>⟨q,(zwS q).inR⟩⟩
 ·have e2:=cmd (show zdK 2 false (zc0 pb 214) _ w1 from hpv)
  have hl:ws.length=2:=hlen
  exact clo (zyP x e2 hpb g.gb (zvx true) (some wp) wc ws (by omega) hsz1 hw fun {w2 fb P F} n e hn hK=>zGT (x.ext e) hK (zaH e pbc) n hn true (.inl ⟨rfl,rfl⟩)) fun s c σ q=>⟨q,(zht (fun _ _ _ _=>zrh) q).inR⟩
 ·have e2:=cmd (show zdK 2 false (zc0 pb 216) _ w1 from hpv)
  have hl:ws.length=2:=hlen
  exact clo (zyP x e2 hpb g.gb (zvx false) (some wp) wc ws (by omega) hsz1 hw fun {w2 fb P F} n e hn hK=>zGT (x.ext e) hK (zaH e pbc) n hn false (.inr ⟨rfl,rfl⟩)) fun s c σ q=>⟨q,(zht (fun _ _ _ _=>zrh) q).inR⟩
 ·have e2:=cmd (show zdK 2 false (zc0 pb 217) _ w1 from hpv)
  have hl:ws.length=2:=hlen
  exact clo (zyP x e2 hpb g.gb zEC (some wp) wc ws (by omega) hsz1 hw fun {w2 fb P F} n e hn hK=>zEG (x.ext e) hK (zaH e pbc) n hn) fun s c σ q=>⟨q,(zht (fun _ _ _ _=>zzo) q).inR⟩
 ·have e2:=cmd (show zdK 2 false (zmV pb) _ w1 from hpv)
  have hl:ws.length=2:=hlen
  exact clo (show_c x e2 hpb g (some wp) wc ws (by omega) hsz1 hw) fun s c σ q=>⟨q,(zw2 q).inR⟩
 ·exact(h55 hcm).elim
theorem zIQ(h:Ht)(q:Option Addr)(d:Nat)(hok:zFH h)(hO:zvq h)(w:World)(hl:Lbs w q h.labels) :
  FnP Tryz.prog zjJ #[.agg #[.string h.name,.slice q h.labels.length d,.int .i64 h.has.c,.int .i64 h.has.m,.int .i64 h.has.g,.int .i64 h.used.c,.int .i64 h.used.m,.int .i64 h.used.g]] w fun v w'=>Ext w w'/\v=.tuple #[nv (zhR h.has h.used),.int .i64 0]:=by
 refine zur h.name q h.labels.length d h.has.c h.has.m h.has.g h.used.c h.used.m h.used.g w _ fun b0 hb0 b1 hb1 w2 x2=>?_
 have h2:=zaa x2
 refine zbY zfK [.agg #[.string h.name,.slice q h.labels.length d,.int .i64 h.has.c,.int .i64 h.has.m,.int .i64 h.has.g,.int .i64 h.used.c,.int .i64 h.used.m,.int .i64 h.used.g]] rfl rfl (fun u hu=>by simp at hu;subst hu;rfl) (by omega) (by omega) fun w3 o3 e3=>⟨e3,_,_,_,rfl,fun w7 h7=>?_⟩
 have x7:=(h2.trans e3).trans h7
 have hc:=((o3 w2.heap.size (Nat.le_refl _)).ext h7).cells
 have hf:(([.agg #[.string h.name,.slice q h.labels.length d,.int .i64 h.has.c,.int .i64 h.has.m,.int .i64 h.has.g,.int .i64 h.used.c,.int .i64 h.used.m,.int .i64 h.used.g]]:List Value).flatMap fun v=>v.cells.toList)=zi2 ⟨h,q,d⟩:=rfl
 rw[hf] at hc
 have hs:zj4 [h]:=⟨by simp,by simpa using hok,by simp⟩
 have hH:zjg w7 (some ⟨w2.heap.size,0,none⟩) [h]:=fun i y hy=>by
  match i,hy with
  |0,hy =>
   simp at hy;subst hy
   exact⟨q,d,fun j u hu=>by simpa using hc j u hu,hl.ext x7⟩
 refine(ztK _ 1 [h] (by simp) (by simpa using hO) w7 hH).mono fun v w8 ⟨e8,hv⟩=>⟨e8,_,hv,fun hne=>absurd (zx7.2 hs) hne,fun _ w10 h10=>?_⟩
 refine(zyV hok w10).mono fun v w11 ⟨e11,hv⟩=>⟨e11,_,_,_,_,hv,fun w16 x16=>⟨?_,rfl⟩⟩
 exact zau x16 (h2.trans e3) (by intro b hb;simp at hb;subst hb;exact hb1)
def zr5(L:List Ht)(name:ByteArray):Option Ht:=L.find? (fun h=>decide (h.name=name))
def zoz:zDI:=fun ws σ c s σ'=>match σ with
 |.shut _ => False
 |.opn F => σ'=.opn F/\match zr5 F.hosts (ws.getD 1 ⟨#[]⟩) with
  |none => c=5
  |some h => c=0/\s=ofL (zbd (zhR h.has h.used))
section
variable {O:Nat->Prop} {B db:Nat} {w:World} {K:Kt}
theorem zII{L:List Ht}{name:ByteArray}{k:Nat}(hk:k<L.length)(h1:∀j,j<k->(L.getD j default).name≠name)(h2:(L.getD k default).name=name):zr5 L name=some (L.getD k default):=by
 unfold zr5
 induction L generalizing k with
 |nil => simp at hk
 |cons x r ih =>
  cases k with
  |zero => simp at h2;simp[h2]
  |succ k =>
   have hx:x.name≠name:=h1 0 (by omega)
   rw[List.find?_cons_of_neg (by simpa using hx)]
   exact ih (k:=k) (by simpa using hk) (fun j hj=>h1 (j+1) (by omega)) h2
theorem zBL{L:List Ht}{name:ByteArray}(h1:∀j,j<L.length->(L.getD j default).name≠name):zr5 L name=none:=by
 unfold zr5
 rw[List.find?_eq_none]
 intro h hh
 obtain⟨i,hi⟩:=List.mem_iff_getElem?.1 hh
 have hlt:=(List.getElem?_eq_some_iff.1 hi).1
 have:=h1 i hlt
 rw[List.getD_eq_getElem?_getD,hi] at this
 simpa using this
theorem free_c(x:KX O B w db K){fb:Nat}{P:Pl}{F:Fm}(hK:K.farm=some (fb,P,F))(g:GD w)(wp:Option Addr)(wc:Nat)(ws:List ByteArray)(h2:ws.length=2)(hw:zat w wp (ws.map Value.string)) :
  FnP Tryz.prog zhK #[.pointer (ptr db),.slice wp ws.length wc] w (CR O B db w K fun s c σ'=>zoz ws K.st c s σ'):=by
 have ne:=zaG db
 have h1:1<ws.length:=by omega
 have cw:∀{w':World},Ext w w'->Go.Sx.cell w' (pIdx wp 1 1) 0=some (.string (ws.getD 1 ⟨#[]⟩)):=fun e=>by
  rw[zad]
  refine(hw.ext e) 1 _ ?_
  rw[List.getElem?_map,getElem?_getD ws ⟨#[]⟩ h1];rfl
 have np:wp≠none:=fun h=>zal (cw (Ext.refl w)) (zah.2 h)
 refine zmb (ptr db) wp ws.length wc w _ fun w0 x0=>⟨by simp[Value.oneCell'],fun p w1 hn=>⟨ne,ne,_,(x.ext (x0.trans hn.ext)).fbp hK,fun w3 x3=>?_⟩⟩
 obtain⟨q,rfl,hq⟩:=zkY hn
 have x1:=x0.trans hn.ext
 have h3:=x1.trans x3
 obtain⟨fx,I,W⟩:=(x.ext h3).opn fb P F hK
 refine(zAF fx I.i0.hs).mono fun v w4 ⟨e4,hp,hc,hv,_,hS⟩=>⟨e4,hp,_,hc,hv,fun w8 x8=>?_⟩
 have h4:=h3.trans e4
 have hH:=hS.at
 have hO:=fx.hO
 generalize hname:ws.getD 1 ⟨#[]⟩=name at cw
 have hfr:∀(c:Int)(s:ByteArray),(match zr5 F.hosts name with|none=>c=5|some h=>c=0/\s=ofL (zbd (zhR h.has h.used)))->zoz ws K.st c s K.st:=fun c s h=>by
  rw[Kt.st_opn hK]
  refine⟨rfl,?_⟩
  rw[hname];exact h
 have idx:FnP Tryz.prog zap #[.slice hp F.hosts.length hc,.func (.func 256) #[] #[.pointer (some q)]] w8 fun v w'=>Ext w8 w'/\∃t:Int,v=.int .i64 t/\((t=-1/\zr5 F.hosts name=none)\/(0<=t/\t<F.hosts.length/\zr5 F.hosts name=some (F.hosts.getD t.toNat default))):=by
  have h30:=hO.1
  refine zbk hp F.hosts.length hc _ w8 _ ⟨fun k w'=>w'=w8/\0<=k/\k<=F.hosts.length/\∀j:Nat,(j:Int)<k->(F.hosts.getD j default).name≠name,fun k _=>(F.hosts.length-k).toNat,⟨rfl,by omega,by omega,fun j hj=>by omega⟩,?_⟩
  rintro k w ⟨rfl,hk0,hk1,hno⟩
  refine⟨fun hlt=>?_,fun hge w3 h3=>⟨h3,-1,rfl,.inl ⟨rfl,zBL fun j hj=>hno j (by omega)⟩⟩⟩
  obtain⟨qq,d,n1,n2,gg,_⟩:=(hH.ext x8).at hk0 hlt
  refine⟨n1,hk0,hlt,n2,_,gg 0 _ rfl,_,_,_,gg 1 _ rfl,_,gg 2 _ rfl,_,gg 3 _ rfl,_,gg 4 _ rfl,_,gg 5 _ rfl,_,gg 6 _ rfl,_,gg 7 _ rfl,fun w13 h13=>⟨256,#[.pointer (some q)],rfl,?_⟩⟩
  have hx13:Ext w1 w13:=((x3.trans e4).trans x8).trans h13
  refine zj5 _ _ _ _ _ _ _ _ _ _ (some q) w13 _ fun b0 hb0=>⟨_,_,_,zf2 ((Cst.of_ext hx13).cell hq),np,by omega,by omega,_,cw (x1.trans hx13),fun w5 h5=>⟨h5,_,rfl,fun ht w16 h16=>⟨h16,k,rfl,.inr ⟨hk0,hlt,?_⟩⟩,fun hf=>⟨i64 (by omega),⟨rfl,by omega,by omega,fun j hj=>?_⟩,by simp only[];omega⟩⟩⟩
  ·exact zII (by omega) (fun j hj=>hno j (by omega)) (of_decide_eq_true ht)
  ·by_cases hjk:(j:Int)<k
   ·exact hno j hjk
   ·obtain rfl:j=k.toNat:=by omega
    exact of_decide_eq_false hf
 refine idx.mono fun v w9 ⟨e9,t,hv,ht⟩=>⟨e9,t,hv,fun hneg w11 x11=>zt8 ⟨Ext.refl _,_,rfl,fun w14 h14=>zcn x ((h4.trans x11).trans h14) (zE5 (c:=5) (by decide)) (hfr _ _ ?_)⟩,fun hpos=>?_⟩
 ·rcases ht with⟨_,h⟩|⟨h,_⟩
  ·rw[h]
  ·omega
 rcases ht with⟨h,_⟩|⟨_,hlt,hnm⟩
 ·omega
 obtain⟨qq,d,n1,n2,gg,hLb⟩:=hH.at hpos hlt
 have hm:=zaq F.hosts default (i:=t.toNat) (by omega)
 have hok:=I.i0.hs.2.1 _ hm
 refine⟨n1,hpos,hlt,n2,_,gg 0 _ rfl,_,_,_,gg 1 _ rfl,_,gg 2 _ rfl,_,gg 3 _ rfl,_,gg 4 _ rfl,_,gg 5 _ rfl,_,gg 6 _ rfl,_,gg 7 _ rfl,fun w21 h21=>?_⟩
 generalize hHd:F.hosts.getD t.toNat default=H at hLb hm hok hnm
 refine(zIQ H qq d hok (hO.2 _ hm) w21 (hLb.ext h21)).mono fun v w22 ⟨e22,hv⟩=>⟨e22,_,_,_,_,hv,fun b27 hb27 w28 h28=>?_⟩
 refine(zCr (zhR H.has H.used) w28 ((g.ext h4).ext h28).gb).mono fun v w29 ⟨e29,s,e,hv,hi,_,hs⟩=>⟨e29,s,e,hv,fun w32 x32=>(zpG e w32).mono fun v w33 ⟨e33,hE⟩=>⟨e33,v,rfl,fun w35 h35=>?_⟩⟩
 have he:e=0:=hi.2 (zCg hok)
 refine zcn x (((h4.trans (zaa x32)).trans e33).trans h35) hE (hfr _ _ ?_)
 rw[hnm]
 exact⟨he,hs he⟩
end
theorem zok{l:List UInt8}{n:Int}(h:Lib.parseIntB 64 l=.ok n):-9223372036854775808<=n/\n<=9223372036854775807:=by
 unfold Lib.parseIntB at h
 split at h
 ·cases h
 ·simp only at h
  split at h
  ·cases h
  ·cases h
  ·rename_i u _
   have e:(2:Nat)^(64-1)=9223372036854775808:=by decide
   rw[e] at h
   split at h
   ·cases h
   ·rename_i h1
    split at h
    ·cases h
    ·rename_i h2
     injection h with h
     split at h
     ·rename_i h3
      have:¬ 9223372036854775808<u:=fun hh=>h2 ⟨h3,hh⟩
      omega
     ·rename_i h3
      have:¬ 9223372036854775808<=u:=fun hh=>h1 ⟨h3,hh⟩
      omega
theorem eq_nil{P:Program}{t:TypeId}{m:Array (String×TypeId)}(ht:P.underlying t=some (.interface m)){v:Value}(hv:isErr v){cx:Bool}{w:World}{K:Value->World->Prop}(hk:∀b:Bool,(b=true↔v=.nilIface)->K (.bool b) w):Run P (.eq .eql t cx true v .nilIface) w K:=by
 have hb:∀x:Value,∀r:Bool,(Op.equal t x .nilIface).run P w=.ok r w->(eqGuard .eql t (opd cx) (opd true) x .nilIface).run P w=.ok () w->binOp .eql t x .nilIface=(do pure (.bool (<-Op.equal t x .nilIface)))->(MC.sem (.eq .eql t cx true x .nilIface)).run P w=.ok (.bool r) w:=fun x r h1 h2 h3=>by
  show(do eqGuard .eql t (opd cx) (opd true) x .nilIface;binOp .eql t x .nilIface:Sem Value).run P w=_
  rw[Sem.run_bind,h2,Result.andThen_ok,h3,Sem.run_bind,h1,Result.andThen_ok,Sem.run_pure]
 rcases hv with rfl|⟨a,b,rfl⟩
 ·exact⟨_,w,hb _ true (zjV 9999 ht w) (by cases cx<;>rfl) rfl,hk true (by simp)⟩
 ·exact⟨_,w,hb _ false (zjU 9999 ht a b w) (by cases cx<;>rfl) rfl,hk false (by simp)⟩
theorem zBD{P:Program}{t:TypeId}(ht:ztS P t=true){v:Value}(hv:isErr v){cx:Bool}{w:World}{K:Value->World->Prop}(hk:∀b:Bool,(b=true↔v=.nilIface)->K (.bool b) w):Run P (.eq .eql t cx true v .nilIface) w K:=by
 unfold ztS at ht
 split at ht
 ·rename_i m h;exact eq_nil h hv hk
 ·cases ht
theorem zg7(s:List UInt8)(c:UInt8):(Lib.cut s [c]).1.length<=s.length:=by
 unfold Lib.cut
 split
 ·simp only[List.length_take];omega
 ·simp
def run(l t:Int):List UInt8:=if l<t then Lib.itoa l++45::Lib.itoa t else Lib.itoa l
theorem zG2(i:Nat):0<=zl4 i/\zl4 i<=zmB i/\zmB i<=59:=by
 match i with
 |0 => decide
 |1 => decide
 |2 => decide
 |3 => decide
 |n+4 => exact⟨by simp[zl4],by simp[zl4,zmB],by simp[zmB]⟩
def zhP(c:Cr)(k:Nat)(x:Int):Cr:=match k with|0=>{ c with a:=x }|1=>{ c with b:=x }|2=>{ c with c:=x }|3=>{ c with d:=x }|_=>{ c with e:=x }
theorem znG(c:Cr){k:Nat}(hk:k<5)(x:Int):(zJ7 c).set k (.int .u64 x)=zJ7 (zhP c k x):=by
 match k,hk with
 |0,_|1,_|2,_|3,_|4,_ => rfl
theorem zfN(c:Cr){k i:Nat}(hk:k<5)(hi:i<5)(x:Int):fld (zhP c k x) i=if i=k then x else fld c i:=by
 match k,i,hk,hi with
 |0,0,_,_|0,1,_,_|0,2,_,_|0,3,_,_|0,4,_,_ => rfl
 |1,0,_,_|1,1,_,_|1,2,_,_|1,3,_,_|1,4,_,_ => rfl
 |2,0,_,_|2,1,_,_|2,2,_,_|2,3,_,_|2,4,_,_ => rfl
 |3,0,_,_|3,1,_,_|3,2,_,_|3,3,_,_|3,4,_,_ => rfl
 |4,0,_,_|4,1,_,_|4,2,_,_|4,3,_,_|4,4,_,_ => rfl
theorem zuS(c:Cr)(k:Nat)(x y:Int):zhP (zhP c k x) k y=zhP c k y:=by
 match k with
 |0|1|2|3 => rfl
 |n+4 => rfl
theorem zBu{c d:Cr}(h:∀i,i<5->fld c i=fld d i):c=d:=by
 have h0:=h 0 (by omega)
 have h1:=h 1 (by omega)
 have h2:=h 2 (by omega)
 have h3:=h 3 (by omega)
 have h4:=h 4 (by omega)
 cases c;cases d
 simp only[fld] at h0 h1 h2 h3 h4
 simp[h0,h1,h2,h3,h4]
theorem zuT{c:Cr}{k:Nat}(hk:k<5)(h:fld c k=0):zhP c k 0=c:=zBu fun i hi=>by
 rw[zfN c hk hi]
 split
 ·rename_i e;subst e;exact h.symm
 ·rfl
theorem zjS{c:Cr}:CrU c↔∀i,i<5->U (fld c i):=by
 constructor
 ·rintro⟨a,b,c',d,e⟩ i hi
  match i,hi with
  |0,_ => exact a
  |1,_ => exact b
  |2,_ => exact c'
  |3,_ => exact d
  |4,_ => exact e
 ·intro h
  exact⟨h 0 (by omega),h 1 (by omega),h 2 (by omega),h 3 (by omega),h 4 (by omega)⟩
abbrev zlY(p:Option Addr):List Value:=[.pointer (pAdd p 0),.int .i64 0,.int .i64 59,.pointer (pAdd p 1),.int .i64 0,.int .i64 23,.pointer (pAdd p 2),.int .i64 1,.int .i64 31,.pointer (pAdd p 3),.int .i64 1,.int .i64 12,.pointer (pAdd p 4),.int .i64 0,.int .i64 6]
theorem zyc{w:World}{q p:Option Addr}(cs:zat w q (zlY p)):zyd w q p:=by
 intro k h0 h1
 rcases five h0 h1 with rfl|rfl|rfl|rfl|rfl
 ·exact⟨by rw[zad];exact cs 0 _ rfl,by rw[zad];exact cs 1 _ rfl,by rw[zad];exact cs 2 _ rfl⟩
 ·exact⟨by rw[zad];exact cs 3 _ rfl,by rw[zad];exact cs 4 _ rfl,by rw[zad];exact cs 5 _ rfl⟩
 ·exact⟨by rw[zad];exact cs 6 _ rfl,by rw[zad];exact cs 7 _ rfl,by rw[zad];exact cs 8 _ rfl⟩
 ·exact⟨by rw[zad];exact cs 9 _ rfl,by rw[zad];exact cs 10 _ rfl,by rw[zad];exact cs 11 _ rfl⟩
 ·exact⟨by rw[zad];exact cs 12 _ rfl,by rw[zad];exact cs 13 _ rfl,by rw[zad];exact cs 14 _ rfl⟩
theorem ztB(p:Option Addr)(hp:p≠none)(w:World):FnP Tryz.prog zdn #[.pointer p] w fun v w'=>Ext w w'/\∃q,v=.slice q 5 5/\zat w' q (zlY p)/\∀x,q=some x->w.heap.size<=x.block:=by
 refine zjz p w _ ⟨hp,hp,hp,hp,hp,hp,hp,hp,hp,hp,fun w0 h0=>?_⟩
 refine zbY zfL [(.agg #[(.pointer (pAdd p 0)),(.int .i64 0),(.int .i64 59)]),(.agg #[(.pointer (pAdd p 1)),(.int .i64 0),(.int .i64 23)]),(.agg #[(.pointer (pAdd p 2)),(.int .i64 1),(.int .i64 31)]),(.agg #[(.pointer (pAdd p 3)),(.int .i64 1),(.int .i64 12)]),(.agg #[(.pointer (pAdd p 4)),(.int .i64 0),(.int .i64 6)])] rfl rfl (by intro v hv;simp at hv;rcases hv with rfl|rfl|rfl|rfl|rfl<;>rfl) (by omega) (by omega) fun w1 o1 e1=>⟨e1,_,_,_,rfl,fun w5 h5=>⟨(h0.trans e1).trans h5,_,rfl,?_,fun x hx=>?_⟩⟩
 ·have cs:=((o1 0 (Nat.zero_le _)).ext h5).cells
  simpa[Value.cells] using cs
 ·obtain rfl:=Option.some.inj hx
  exact h0.size
def zpH:Cr:=⟨0,0,0,0,0⟩
theorem zkI(i:Nat):fld zpH i=0:=by
 match i with
 |0|1|2|3 => rfl
 |n+4 => rfl
theorem u0:U 0:=by rw[zf1];omega
def zD1(s:ByteArray)(low top:Int):Option Int:=match Lib.parseIntB 64 s.data.toList with
 |.ok n => if s.size<=2/\ofL (Lib.itoa n)=s/\low<=n/\n<=top then some n else none
 |_ => none
theorem zyy(s:ByteArray)(hs:s.size<=281474976710656)(low top:Int)(w:World)(g:GB w):FnP Tryz.prog zbF #[.string s,.int .i64 low,.int .i64 top] w fun v w'=>Ext w w'/\∃(n:Int) (b:Bool),v=.tuple #[.int .i64 n,.bool b]/\(b=true->zD1 s low top=some n/\low<=n/\n<=top)/\(b=false->zD1 s low top=none):=by
 refine zjA s low top w _ fun w0 h0=>(zqG s hs w0 (g.ext h0)).mono fun v w1 ⟨e1,n,ev,hv,hc⟩=>⟨e1,n,ev,hv,fun w4 h4=>?_⟩
 have x1:=h0.trans e1
 refine zBD (by kernel_rfl) (hc.elim (fun h=>.inl h.1) fun h=>.inr h.1) fun b hb=>⟨Ext.refl _,b,rfl,fun hok w7 h7=>?_,fun hor w7 h7=>⟨x1.trans h7,n,false,rfl,(fun h=>by cases h),fun _=>?_⟩⟩
 ·have hp:Lib.parseIntB 64 s.data.toList=.ok n:=by
   rcases hc with h|⟨⟨a,c,h⟩,_⟩
   ·exact h.2
   ·have:=hb.1 hok.1
    rw[h] at this;cases this
  have hn:zD1 s low top=if s.size<=2/\ofL (Lib.itoa n)=s/\low<=n/\n<=top then some n else none:=by unfold zD1;rw[hp]
  refine(zmW n (zok hp) w7 (g.ext (x1.trans h7))).mono fun v w8 ⟨e8,hv⟩=>⟨e8,_,hv,fun w10 h10=>⟨x1.trans h10,n,_,rfl,fun h=>?_,fun h=>?_⟩⟩
  ·simp only[Bool.and_eq_true,decide_eq_true_eq] at h
   rw[hn,if_pos ⟨by omega,h.1.1,h.1.2,h.2⟩]
   exact⟨rfl,h.1.2,h.2⟩
  ·rw[hn,if_neg]
   rintro⟨_,a,b,c⟩
   simp[a,b,c] at h
 ·unfold zD1
  rcases hor with h|h
  ·rcases hc with⟨h1,_⟩|⟨_,h2⟩
   ·rw[hb.2 h1] at h;cases h
   ·split
    ·rename_i m hm;exact absurd hm (h2 m)
    ·rfl
  ·split
   ·rw[if_neg (by omega)]
   ·rfl
def zpQ(tp step:Int):Nat->Int->Int->Int
 |0,out,_ => out
 |f+1,out,n => if n<=tp then zpQ tp step f (zav .or .u64 out (zav .shl .u64 1 n)) (n+step) else out
theorem zBc{tp step:Int}{f:Nat}{out n:Int}(h:tp<n):zpQ tp step f out n=out:=by
 cases f with
 |zero => rfl
 |succ f => rw[zpQ,if_neg (by omega)]
theorem zoP{lo tp step:Int}(h0:0<=lo)(h2:tp<=62)(h3:1<=step)(h4:step<=99){w:World}{Q:Value->World->Prop}(hQ:∀w',Ext w w'->U (zpQ tp step 100 0 lo)->Q (.tuple #[.int .u64 (zpQ tp step 100 0 lo),.bool true]) w') :
  ∃(I23:Int->Int->World->Prop) (M23:Int->Int->World->Nat),I23 0 lo w /\
    ∀(out24:Int)(n25:Int)(w26:World),I23 out24 n25 w26 ->
     (((n25<=tp) ->
      0<=(n25:Int) /\
      InR .i64 (n25+step) /\
      (I23 (zav .or .u64 out24 (zav .shl .u64 1 n25)) (n25+step) w26/\M23 (zav .or .u64 out24 (zav .shl .u64 1 n25)) (n25+step) w26<M23 out24 n25 w26))) /\
     ((tp<n25) ->
      ∀w27,Ext w26 w27 ->
      Q (.tuple #[(.int .u64 out24),(.bool true)]) w27):=by
 refine⟨fun out n w'=>w'=w/\0<=n/\U out/\∃f:Nat,tp-n<f/\zpQ tp step f out n=zpQ tp step 100 0 lo,fun _ n _=>(tp+1-n).toNat,⟨rfl,h0,by rw[zf1];omega,100,by omega,rfl⟩,?_⟩
 rintro out n w' ⟨rfl,hn,hu,f,hf,he⟩
 refine⟨fun hle=>⟨by omega,i64 (by omega),⟨rfl,by omega,U_or _ _,?_⟩,by simp only[];omega⟩,fun hgt w27 h27=>?_⟩
 ·cases f with
  |zero => omega
  |succ f =>
   rw[zpQ,if_pos hle] at he
   exact⟨f,by omega,he⟩
 ·rw[zBc hgt] at he
  have:=hQ w27 h27 (by rw[<-he];exact hu)
  rwa [<-he] at this
def zju(s:ByteArray)(c:UInt8):ByteArray×ByteArray×Bool:=(ofL (Lib.cut s.data.toList [c]).1,ofL (Lib.cut s.data.toList [c]).2.1,(Lib.cut s.data.toList [c]).2.2)
def zAe(ev:ByteArray)(st:Bool)(l t:Int):Option Int:=if st=true then (zD1 ev 1 99).map (fun k=>zpQ t k 100 0 l) else some (zpQ t 1 100 0 l)
def zzN(low top:Int)(s:ByteArray):Option Int :=
 let (hd,ev,st):=zju s 47
 let (fi,la,tw):=zju hd 45
 if hd=ofL [42] then zAe ev st low top
 else (zD1 fi low top).bind fun l=>(if tw=true then zD1 la l top else some l).bind fun t=>if st=true/\tw=false then none else zAe ev st l t
abbrev RIE(w:World)(low top:Int)(s:ByteArray)(v:Value)(w':World):Prop:=Ext w w'/\∃(set:Int) (b:Bool),v=.tuple #[.int .u64 set,.bool b]/\(b=true->zzN low top s=some set/\U set)/\(b=false->zzN low top s=none)
theorem zIX(p:Option Addr)(low top:Int)(h0:0<=low)(h2:top<=62)(s:ByteArray)(hs:s.size<=1000)(w:World)(g:GB w) :
  FnP Tryz.prog zcH #[.agg #[.pointer p,.int .i64 low,.int .i64 top],.string s] w (RIE w low top s):=by
 have S1:(zju s 47).1.size<=s.size:=by
  have:=zg7 s.data.toList 47
  rw[zg6] at this
  show(ofL _).size<=_
  rw[zas];exact this
 have S2:(zju s 47).2.1.size<=s.size:=by
  have:=zg8 s.data.toList 47
  rw[zg6] at this
  show(ofL _).size<=_
  rw[zas];exact this
 have hI:zzN low top s=if (zju s 47).1=ofL [42] then zAe (zju s 47).2.1 (zju s 47).2.2 low top
  else (zD1 (zju (zju s 47).1 45).1 low top).bind fun l=>(if (zju (zju s 47).1 45).2.2=true then zD1 (zju (zju s 47).1 45).2.1 l top else some l).bind fun t=>if (zju s 47).2.2=true/\(zju (zju s 47).1 45).2.2=false then none else zAe (zju s 47).2.1 (zju s 47).2.2 l t:=rfl
 refine zfQ p low top s w _ fun b0 _ w1 x1=>(zvA 47 s (by omega) w1 (g.ext x1)).mono fun v w2 ⟨e2,hv⟩=>⟨e2,(zju s 47).1,(zju s 47).2.1,(zju s 47).2.2,hv,fun w6 x6=>?_⟩
 generalize (zju s 47).1=hd at S1 hI ⊢
 generalize (zju s 47).2.1=ev at S2 hI ⊢
 generalize (zju s 47).2.2=st at hI ⊢
 have S3:(zju hd 45).1.size<=s.size:=by
  have:=zg7 hd.data.toList 45
  rw[zg6] at this
  show(ofL _).size<=_
  rw[zas];omega
 have S4:(zju hd 45).2.1.size<=s.size:=by
  have:=zg8 hd.data.toList 45
  rw[zg6] at this
  show(ofL _).size<=_
  rw[zas];omega
 refine(zvA 45 hd (by omega) w6 (g.ext x6)).mono fun v w7 ⟨e7,hv⟩=>⟨e7,(zju hd 45).1,(zju hd 45).2.1,(zju hd 45).2.2,hv,?_⟩
 generalize (zju hd 45).1=fi at S3 hI ⊢
 generalize (zju hd 45).2.1=la at S4 hI ⊢
 generalize (zju hd 45).2.2=tw at hI ⊢
 have no:∀{w':World},Ext w w'->zzN low top s=none->RIE w low top s (.tuple #[.int .u64 0,.bool false]) w':=fun x h=>⟨x,0,false,rfl,fun h=>(by cases h),fun _=>h⟩
 have yes:∀{w':World}{set:Int},Ext w w'->U set->zzN low top s=some set->RIE w low top s (.tuple #[.int .u64 set,.bool true]) w':=fun x hu h=>⟨x,_,true,rfl,fun _=>⟨h,hu⟩,fun h=>by cases h⟩
 refine⟨fun hne w11 x11=>?_,fun heq=>?_⟩
 ·have hne:hd≠ofL [42]:=hne
  rw[if_neg hne] at hI
  refine(zyy fi (by omega) low top w11 (g.ext x11)).mono fun v w12 ⟨e12,n1,b1,hv,y1,z1⟩=>⟨e12,n1,b1,hv,fun hb w15 x15=>no x15 (by rw[hI,z1 hb];rfl),fun hb=>?_⟩
  obtain⟨q1,l1,l2⟩:=y1 hb
  rw[q1,Option.bind_some] at hI
  refine⟨fun htw w15 x15=>?_,fun htw=>?_⟩
  ·subst htw
   rw[if_pos rfl] at hI
   refine(zyy la (by omega) n1 top w15 (g.ext x15)).mono fun v w16 ⟨e16,n2,b2,hv,y2,z2⟩=>⟨e16,n2,b2,hv,fun hor w19 x19=>no x19 ?_,fun hor=>?_⟩
   ·rcases hor with h|h
    ·rw[hI,z2 h];rfl
    ·exact absurd h.2 (by decide)
   obtain⟨q2,m1,m2⟩:=y2 hor.1
   rw[q2,Option.bind_some,if_neg (by simp)] at hI
   refine⟨fun hst w19 x19=>?_,fun hst=>?_⟩
   ·subst hst
    unfold zAe at hI
    rw[if_pos rfl] at hI
    refine(zyy ev (by omega) 1 99 w19 (g.ext x19)).mono fun v w20 ⟨e20,n3,b3,hv,y3,z3⟩=>⟨e20,n3,b3,hv,fun hb3 w23 x23=>no x23 (by rw[hI,z3 hb3];rfl),fun hb3=>?_⟩
    obtain⟨q3,k1,k2⟩:=y3 hb3
    exact zoP (by omega) (by omega) k1 k2 fun w' x' hu=>yes x' hu (by rw[hI,q3];rfl)
   ·subst hst
    exact zoP (step:=1) (by omega) (by omega) (by omega) (by omega) fun w' x' hu=>yes x' hu (by rw[hI];rfl)
  ·subst htw
   rw[if_neg (by simp),Option.bind_some] at hI
   refine⟨fun hbad w15 x15=>no x15 (by rw[hI,if_pos ⟨hbad.1,rfl⟩]),fun hor=>⟨fun hst w15 x15=>?_,fun hst=>?_⟩⟩
   ·rcases hor with h|h
    ·rw[hst] at h;cases h
    ·cases h
   ·subst hst
    rw[if_neg (by simp)] at hI
    exact zoP (step:=1) (by omega) (by omega) (by omega) (by omega) fun w' x' hu=>yes x' hu (by rw[hI];rfl)
 ·have heq:hd=ofL [42]:=heq
  rw[if_pos heq] at hI
  unfold zAe at hI
  refine⟨fun hst w11 x11=>?_,fun hst=>?_⟩
  ·subst hst
   rw[if_pos rfl] at hI
   refine(zyy ev (by omega) 1 99 w11 (g.ext x11)).mono fun v w20 ⟨e20,n3,b3,hv,y3,z3⟩=>⟨e20,n3,b3,hv,fun hb3 w23 x23=>no x23 (by rw[hI,z3 hb3];rfl),fun hb3=>?_⟩
   obtain⟨q3,k1,k2⟩:=y3 hb3
   exact zoP (by omega) (by omega) k1 k2 fun w' x' hu=>yes x' hu (by rw[hI,q3];rfl)
  ·subst hst
   exact zoP (step:=1) (by omega) (by omega) (by omega) (by omega) fun w' x' hu=>yes x' hu (by rw[hI];rfl)
def zqZ(low top:Int):Int->List ByteArray->Option Int
 |x,[] => some x
 |x,it::r => match zzN low top it with
  |none => none
  |some set => zqZ low top (zav .or .u64 x set) r
def fF(S:List ByteArray)(i:Nat):Option Int:=zqZ (zl4 i) (zmB i) 0 (zao 44 (S.getD i ⟨#[]⟩))
def zrc(s:ByteArray)(c:Cr)(e:Int):Prop:=(200<s.size/\e=2/\c=zpH)\/(s.size<=200/\((e=3/\c=zpH/\((zao 32 s).length≠5\/∃i,i<5/\fF (zao 32 s) i=none))\/(e=0/\(zao 32 s).length=5/\∀i,i<5->fF (zao 32 s) i=some (fld c i))))
theorem zrc.one{s:ByteArray}{c d:Cr}{e f:Int}(h:zrc s c e)(g:zrc s d f):c=d/\e=f:=by
 rcases h with⟨h0,h1,h2⟩|⟨h0,⟨h1,h2,h3⟩|⟨h1,h2,h3⟩⟩<;>rcases g with⟨g0,g1,g2⟩|⟨g0,⟨g1,g2,g3⟩|⟨g1,g2,g3⟩⟩
 ·exact⟨h2.trans g2.symm,by omega⟩
 ·omega
 ·omega
 ·omega
 ·exact⟨h2.trans g2.symm,by omega⟩
 ·rcases h3 with h|⟨i,hi,h⟩
  ·exact absurd g2 h
  ·rw[g3 i hi] at h;cases h
 ·omega
 ·rcases g3 with h|⟨i,hi,h⟩
  ·exact absurd h2 h
  ·rw[h3 i hi] at h;cases h
 ·exact⟨zBu fun i hi=>by have:=h3 i hi;rw[g3 i hi] at this;injection this with this;exact this.symm,by omega⟩
abbrev RPE(w:World)(s:ByteArray)(v:Value)(w':World):Prop:=Ext w w'/\∃(c:Cr) (e:Int),v=.tuple #[cv c,.int .i64 e]/\CrU c/\zrc s c e
theorem zxr:CrU zpH:=zjS.2 fun i _=>by rw[zkI];exact u0
theorem rpe_no{w w':World}{s:ByteArray}(x:Ext w w')(hs:s.size<=200)(h:(zao 32 s).length≠5\/∃i,i<5/\fF (zao 32 s) i=none):RPE w s (.tuple #[.agg #[.int .u64 0,.int .u64 0,.int .u64 0,.int .u64 0,.int .u64 0],.int .i64 3]) w' :=
 ⟨x,zpH,3,rfl,zxr,.inr ⟨hs,.inl ⟨rfl,rfl,h⟩⟩⟩
theorem zEf(s:ByteArray)(w:World)(g:GB w):FnP Tryz.prog zfC #[.string s] w (RPE w s):=by
 refine zk5 s w _ fun b0 hb0=>⟨fun hlt w1 x1=>⟨x1,zpH,2,rfl,zxr,.inl ⟨by omega,rfl,rfl⟩⟩,fun hle w1 x1=>zbv (by simp[Value.oneCell']) fun w2 o2 e2=>fun w3 x3=>?_⟩
 have hsz:s.size<=200:=by omega
 have h1:=zaa x1
 have l0:=x1.lt b0 (by simp)
 have o2:=o2 w.heap.size h1.size
 have np:(some (⟨w1.heap.size,0,none⟩:Addr))≠none:=by simp
 have h2:=h1.trans e2
 have hpb:∀y,(some (⟨w1.heap.size,0,none⟩:Addr))=some y->y.block≠b0:=fun y hy=>by obtain rfl:=Option.some.inj hy;show w1.heap.size≠b0;omega
 have hpl:∀y,(some (⟨w1.heap.size,0,none⟩:Addr))=some y->y.block<w2.heap.size:=fun y hy=>(o2.lt y hy).2
 generalize (some (⟨w1.heap.size,0,none⟩:Addr))=p at o2 np hpb hpl ⊢
 have h3:=h2.trans (zaa x3)
 have bx:∀{wa wb:World},Ext w wa->zag [b0] [] wa wb->Ext w wb:=fun ha hb=>zau hb ha (by intro d hd;simp at hd;omega)
 refine(zeC 32 s (by omega) w3 (g.ext h3)).mono fun v w4 ⟨e4,hv,hc4,_⟩=>⟨e4,_,_,_,hv,?_⟩
 have h4:=h3.trans e4
 have spn:(some (⟨w3.heap.size,0,none⟩:Addr))≠none:=by simp
 have apsp:zbo (some (⟨w3.heap.size,0,none⟩:Addr)) p:=fun a b ha hb he=>by
  obtain rfl:=Option.some.inj ha
  have h5:=hpl b hb
  have h6:=(zaa x3).size
  have h7:w3.heap.size=b.block:=he
  omega
 generalize (some (⟨w3.heap.size,0,none⟩:Addr))=sp at hc4 spn apsp ⊢
 have slen:=zi8 32 s
 have ssz:∀i q,(zao 32 s)[i]?=some q->q.size+i<=s.size:=fun i q h=>zhp h
 change zat w4 sp ((zao 32 s).map Value.string) at hc4
 have hno:∀{w':World},Ext w w'->((zao 32 s).length≠5\/∃i,i<5/\fF (zao 32 s) i=none)->RPE w s (.tuple #[.agg #[.int .u64 0,.int .u64 0,.int .u64 0,.int .u64 0,.int .u64 0],.int .i64 3]) w':=fun x h=>rpe_no x hsz h
 have hyes:∀{w':World}{c:Cr},Ext w w'->CrU c->(zao 32 s).length=5->(∀i,i<5->fF (zao 32 s) i=some (fld c i))->RPE w s (.tuple #[cv c,.int .i64 0]) w':=fun x hu h1 h2=>⟨x,_,0,rfl,hu,.inr ⟨hsz,.inr ⟨rfl,h1,h2⟩⟩⟩
 generalize zao 32 s=S at hc4 slen ssz hno hyes
 generalize Lib.countB s (one 32)=n at slen ⊢
 refine⟨fun hne w8 x8=>hno (bx h4 x8) (.inl (by omega)),fun heq w8 x8=>?_⟩
 have hn:n=4:=by omega
 subst hn
 have h8:=h4.trans (zaa x8)
 refine(ztB p np w8).mono fun v w9 ⟨e9,q,hv,hq,hqb⟩=>⟨e9,q,5,5,hv,?_⟩
 have h9:=h8.trans e9
 have o9:=(((o2.ext (zaa x3)).ext e4).ext (zaa x8)).ext e9
 have apq:zbo q p:=fun a b ha hb he=>by
  have h5:=hqb a ha
  have h6:=hpl b hb
  have h7:=(((zaa x3).trans e4).trans (zaa x8)).size
  omega
 refine⟨fun k w'=>Ext w w'/\0<=k/\k<=5/\zat w' sp (S.map Value.string)/\zat w' q (zlY p)/\∃cur,Own w.heap.size w' zxy 5 p 1 1 (zJ7 cur)/\CrU cur/\(∀i:Nat,i<5->k<=(i:Int)->fld cur i=0)/\(∀i:Nat,i<5->(i:Int)<k->fF S i=some (fld cur i)),
  fun k _=>(5-k).toNat,⟨h9,by omega,by omega,(hc4.ext (zaa x8)).ext e9,hq,zpH,o9,zxr,fun i _ _=>zkI i,fun i _ h=>by omega⟩,?_⟩
 rintro k w15 ⟨x15,hk0,hk5,c15,q15,cur,o15,hcu,hz,hok⟩
 refine⟨fun hlt=>?_,fun hge=>?_⟩
 rotate_left
 ·obtain rfl:k=5:=by omega
  have cc:=o15.cells
  exact⟨np,_,cc 0 _ rfl,_,cc 1 _ rfl,_,cc 2 _ rfl,_,cc 3 _ rfl,_,cc 4 _ rfl,fun w21 x21=>hyes (c:=cur) (bx x15 x21) hcu slen fun i hi=>hok i hi (by omega)⟩
 have hlt:k<5:=by simpa using hlt
 obtain⟨f0,f1,f2⟩:=zyc q15 k hk0 hlt
 have hkn:k.toNat<5:=by omega
 obtain⟨zG2,low1,top1⟩:=zG2 k.toNat
 obtain⟨pc,hpc⟩:∃pc,S[k.toNat]?=some pc:=⟨_,List.getElem?_eq_getElem (by omega)⟩
 have hcell:Go.Sx.cell w15 (pIdx sp k 1) 0=some (.string pc):=by
  rw[zad]
  exact c15 _ _ (by simp[hpc])
 have hpsz:=ssz _ _ hpc
 have hfF:fF S k.toNat=zqZ (zl4 k.toNat) (zmB k.toNat) 0 (zao 44 pc):=by
  unfold fF
  rw[List.getD_eq_getElem?_getD,hpc];rfl
 have npk:pAdd p k.toNat≠none:=fun h=>np (zc3.1 h)
 refine⟨fun hq=>zal f0 (zah.2 hq),hk0,hlt,zal f0,_,f0,_,f1,_,f2,fun b19 hb19=>⟨spn,hk0,(by show k<((4+1:Nat):Int);omega),_,hcell,fun w21 x21=>?_⟩⟩
 have x21':=x15.trans (zaa x21)
 refine(zeC 44 pc (by omega) w21 (g.ext x21')).mono fun v w22 ⟨e22,hv,hc22,_⟩=>⟨e22,_,_,_,hv,?_⟩
 have x22:=x21'.trans e22
 have sp2n:(some (⟨w21.heap.size,0,none⟩:Addr))≠none:=by simp
 have o22:=(o15.ext (zaa x21)).ext e22
 have apsp2:zbo (some (⟨w21.heap.size,0,none⟩:Addr)) p:=fun a b ha hb he=>by
  obtain rfl:=Option.some.inj ha
  have h5:=(o15.lt b hb).2
  have h6:=(zaa x21).size
  have h7:w21.heap.size=b.block:=he
  omega
 generalize (some (⟨w21.heap.size,0,none⟩:Addr))=sp2 at hc22 sp2n apsp2 ⊢
 have slen2:=zi8 44 pc
 have ssz2:∀i q,(zao 44 pc)[i]?=some q->q.size+i<=pc.size:=fun i q h=>zhp h
 change zat w22 sp2 ((zao 44 pc).map Value.string) at hc22
 generalize zao 44 pc=S2 at hc22 slen2 ssz2 hfF
 generalize Lib.countB pc (one 44)=n2 at slen2 ⊢
 refine⟨fun m w'=>Ext w w'/\0<=m/\m<=(n2+1:Nat)/\zat w' sp (S.map Value.string)/\zat w' q (zlY p)/\zat w' sp2 (S2.map Value.string)/\∃x,Own w.heap.size w' zxy 5 p 1 1 (zJ7 (zhP cur k.toNat x))/\U x/\zqZ (zl4 k.toNat) (zmB k.toNat) 0 S2=zqZ (zl4 k.toNat) (zmB k.toNat) x (S2.drop m.toNat),
  fun m _=>(n2+1-m).toNat,⟨x22,by omega,by omega,(c15.ext (zaa x21)).ext e22,(q15.ext (zaa x21)).ext e22,hc22,0,by rw[zuT hkn (hz _ hkn (by omega))];exact o22,u0,rfl⟩,?_⟩
 rintro m w28 ⟨x28,hm0,hm1,c28,q28,d28,x,o28,hux,hxF⟩
 refine⟨fun hml=>?_,fun hmg=>?_⟩
 rotate_left
 ·obtain rfl:m=((n2+1:Nat):Int):=by omega
  have hcu':CrU (zhP cur k.toNat x):=zjS.2 fun i hi=>by
   rw[zfN cur hkn hi]
   split
   ·exact hux
   ·exact zjS.1 hcu i hi
  refine⟨i64 (by omega),⟨x28,by omega,by omega,c28,q28,zhP cur k.toNat x,o28,hcu',fun i hi h=>?_,fun i hi h=>?_⟩,by simp only[];omega⟩
  ·rw[zfN cur hkn hi,if_neg (by omega)]
   exact hz i hi (by omega)
  ·rw[zfN cur hkn hi]
   split
   ·rename_i e;subst e
    rw[hfF,hxF,List.drop_eq_nil_of_le (by omega)];rfl
   ·exact hok i hi (by omega)
 obtain⟨it,hit⟩:∃it,S2[m.toNat]?=some it:=⟨_,List.getElem?_eq_getElem (by omega)⟩
 have hcell2:Go.Sx.cell w28 (pIdx sp2 m 1) 0=some (.string it):=by
  rw[zad]
  exact d28 _ _ (by simp[hit])
 have hisz:=ssz2 _ _ hit
 have hdrop:S2.drop m.toNat=it::S2.drop (m.toNat+1):=by
  rw[zor ⟨#[]⟩ (by omega:m.toNat<S2.length),List.getD_eq_getElem?_getD,hit];rfl
 rw[hdrop,zqZ] at hxF
 refine⟨sp2n,hm0,hml,_,hcell2,fun w30 x30=>?_⟩
 refine(zIX (pAdd p k.toNat) (zl4 k.toNat) (zmB k.toNat) zG2 (by omega) it (by omega) w30 ((g.ext x28).ext x30)).mono fun v w31 ⟨e31,set,b,hv,y1,z1⟩=>⟨e31,set,b,hv,fun hbf w34 x34=>hno (bx x28 x34) (.inr ⟨k.toNat,hkn,?_⟩),fun hbt=>?_⟩
 ·rw[hfF,hxF,z1 hbf]
 obtain⟨hF,hus⟩:=y1 hbt
 rw[hF] at hxF
 have hcx:Go.Sx.cell w28 (pAdd p k.toNat) 0=some (.int .u64 x):=by
  rw[zam,Nat.add_zero]
  have:=o28.cells k.toNat (.int .u64 x) (by
   rw[<-znG cur hkn x]
   rw[List.getElem?_set_self (by simpa using hkn)])
  exact this
 refine⟨npk,_,hcx,npk,zcd o28 (by simpa using hkn) rfl (fun b' hb' y hy=>?_) fun w35 o35 g35=>⟨i64 (by omega),⟨g35.ext x28 o28,by omega,by omega,c28.grew apsp g35,q28.grew apq g35,d28.grew apsp2 g35,zav .or .u64 x set,?_,U_or _ _,?_⟩,by simp only[];omega⟩⟩
 ·simp only[List.mem_cons,List.mem_nil_iff,or_false] at hb'
  rcases hb' with rfl|rfl
  ·exact hpb y hy
  ·have:=(o15.lt y hy).2;omega
 ·rw[<-zuS cur k.toNat x,<-znG _ hkn]
  exact o35
 ·rw[hxF,show(m+1).toNat=m.toNat+1 by omega]
def nxR(x:Cr)(t n e:Int):Prop:=(e=3/\n=0/\¬zjR x)\/(e=4/\n=0/\zjR x/\¬(-1<=t/\t<=5258964959)) \/
 (zjR x/\-1<=t/\t<=5258964959/\((e=0/\t<n/\n<=5258964959/\mt x n/\∀u,t<u->u<n->¬mt x u)\/(e=5/\n=0/\∀u,t<u->u<=5258964959->¬mt x u)))
theorem nxR.one{x:Cr}{t n m e f:Int}(h:nxR x t n e)(g:nxR x t m f):n=m/\e=f:=by
 rcases h with⟨h1,h2,h3⟩|⟨h1,h2,h3,h4⟩|⟨h1,h2,h3,h4⟩<;>rcases g with⟨g1,g2,g3⟩|⟨g1,g2,g3,g4⟩|⟨g1,g2,g3,g4⟩
 ·omega
 ·exact absurd g3 h3
 ·exact absurd g1 h3
 ·exact absurd h3 g3
 ·omega
 ·omega
 ·exact absurd h1 g3
 ·omega
 ·rcases h4 with⟨a1,a2,a3,a4,a5⟩|⟨a1,a2,a3⟩<;>rcases g4 with⟨b1,b2,b3,b4,b5⟩|⟨b1,b2,b3⟩
  ·refine⟨?_,by omega⟩
   rcases Int.lt_trichotomy n m with hl|hl|hl
   ·exact absurd a4 (b5 n a2 hl)
   ·exact hl
   ·exact absurd b4 (a5 m b2 hl)
  ·exact absurd a4 (b3 n a2 a3)
  ·exact absurd b4 (a3 m b2 b3)
  ·omega
def zzW:zDI:=fun ws σ c s σ'=>σ'=σ/\∃n c1,zFE (ws.getD 1 ⟨#[]⟩) n c1/\((c1≠0/\c=c1)\/(c1=0/\∃cr e,zrc (znr ws 2) cr e/\((e≠0/\c=e)\/(e=0/\∃t,nxR cr n t c/\s=ofL (Lib.itoa t)))))
theorem zuD{s:ByteArray}{c:Cr}{e:Int}(h:zrc s c e):zax e:=by
 unfold zax
 rcases h with⟨_,h,_⟩|⟨_,⟨h,_⟩|⟨h,_⟩⟩<;>omega
theorem zud{x:Cr}{t n e:Int}(h:nxR x t n e):zax e/\0<=n+1/\n<=5258964959:=by
 unfold zax
 rcases h with⟨h,h2,_⟩|⟨h,h2,_⟩|⟨_,h1,_,⟨h,_⟩|⟨h,_⟩⟩<;>omega
theorem zwu{ws:List ByteArray}{σ:DS}{c:Int}{s:ByteArray}{σ':DS}(h:zzW ws σ c s σ'):zax c:=by
 obtain⟨_,n,c1,hn,⟨_,rfl⟩|⟨_,cr,e,hp,⟨_,rfl⟩|⟨_,t,ht,_⟩⟩⟩:=h
 ·exact zl7 hn
 ·exact zuD hp
 ·exact(zud ht).1
theorem zwb{ws:List ByteArray}{σ:DS}{c:Int}{s:ByteArray}{σ':DS}(h:zoz ws σ c s σ'):zax c:=by
 unfold zoz at h
 split at h
 ·exact h.elim
 ·obtain⟨_,h⟩:=h
  split at h<;>(unfold zax;omega)
section
variable {O:Nat->Prop} {B db:Nat} {w:World} {K:Kt}
theorem next_c(x:KX O B w db K)(g:GD w)(wp:Option Addr)(wc:Nat)(ws:List ByteArray)(h7:ws.length=7)(hc:ws.length<=wc)(hsz:∀y∈ws,y.size<=4294967281)(hw:zat w wp (ws.map Value.string)) :
  FnP Tryz.prog zhL #[.pointer (ptr db),.slice wp ws.length wc] w (CR O B db w K fun s c σ'=>zzW ws K.st c s σ'):=by
 have hsz1:(ws.getD 1 ⟨#[]⟩).size<=281474976710656:=by
  have:=hsz _ (zaq ws ⟨#[]⟩ (i:=1) (by omega));omega
 refine zmd (ptr db) wp ws.length wc w _ fun w0 x0=>(zoW wp wc ws (by omega) hsz1 w0 (hw.ext x0) (g.gb.ext x0)).mono fun v w1 ⟨e1,n,ev,c1,hv,he,hn⟩=>⟨e1,n,ev,hv,fun w4 h4=>neE he fun b hb=>⟨Ext.refl _,b,rfl,fun hbt w7 h7=>?_,fun hbf=>⟨by omega,by omega,by omega,fun w7 x7=>?_⟩⟩⟩
 ·have hc1:c1≠0:=fun h=>by rw[hb.2 h] at hbt;cases hbt
  exact zcn x ((x0.trans e1).trans h7) he ⟨rfl,n,c1,hn,.inl ⟨hc1,rfl⟩⟩
 have hc1:c1=0:=hb.1 hbf
 have x1:=x0.trans e1
 refine(zHe 2 (by omega) hc (by omega) hsz (hw.ext (x1.trans x7))).mono fun v w8 ⟨e8,hv,_⟩=>⟨e8,_,hv,fun w10 x10=>?_⟩
 refine(zEf (znr ws 2) w10 (g.gb.ext (x1.trans x10))).mono fun v w11 ⟨e11,cr,e,hv,hU,hp⟩=>⟨e11,cr.a,cr.b,cr.c,cr.d,cr.e,e,hv,fun b18 hb18=>⟨fun hne w19 x19=>zt8 ⟨Ext.refl _,_,rfl,rfl,fun w22 x22=>zzU ⟨Ext.refl _,_,rfl,fun w25 h25=>?_⟩⟩,fun hz w19 x19=>?_⟩⟩
 ·exact zcn x (((x1.trans (zaa x19)).trans (zaa x22)).trans h25) (zzC hne) ⟨rfl,n,c1,hn,.inr ⟨hc1,cr,e,hp,.inl ⟨hne,rfl⟩⟩⟩
 refine(Next_k cr hU n w19 (g.gc.ext (x1.trans x19))).mono fun v w20 ⟨e20,t,c2,hv,hnx⟩=>⟨e20,t,c2,hv,fun w23 x23=>?_⟩
 have hnx:nxR cr n t c2:=hnx
 have hs:=zud hnx
 refine(zmW t (by omega) w23 (g.gb.ext (x1.trans x23))).mono fun v w24 ⟨e24,hv⟩=>⟨e24,_,hv,fun w26 x26=>(zpG c2 w26).mono fun v w27 ⟨e27,hE⟩=>⟨e27,v,rfl,fun w29 h29=>?_⟩⟩
 exact zcn x (((x1.trans (zaa x26)).trans e27).trans h29) hE ⟨rfl,n,c1,hn,.inr ⟨hc1,cr,e,hp,.inr ⟨hz,t,hnx,rfl⟩⟩⟩
end
abbrev dR:zDJ:=zon zzW zoz
theorem zgu(line:ByteArray):zn3 dR line:=by
 intro O B db K w1 pb wp b wc t2 x g hB hBw hcm hpb hpv hlen hcap hsh hw hszs
 have cmd:∀{n:Int}{fl:Bool}{R:Value->World->Prop},zdK n fl R (.agg #[.int .i64 (sig b).1,.bool (sig b).2,t2]) w1->R t2 w1:=fun {n fl R} h=>by
  obtain⟨f,bd,cap,e1,e2⟩:=h
  have e3:=zvM e1
  rw[e3];exact e2
 by_cases h11:b=11
 ·subst h11
  have e2:zbj ⟨db,0,none⟩ 210 t2:=cmd (show zdK 7 false (fun f _=>zbj ⟨db,0,none⟩ 210 f) _ w1 from hpv)
  exact⟨210,_,_,e2,(next_c x g (some wp) wc _ hlen hcap (fun y hy=>by have:=hszs y hy;omega) hw).mono fun v w' h=>h.mono fun s c σ q=>⟨q,(zwu q).inR⟩⟩
 by_cases h55:b=55
 ·subst h55
  have e2:zbj ⟨db,0,none⟩ 222 t2:=cmd (show zdK 2 true (fun f _=>zbj ⟨db,0,none⟩ 222 f) _ w1 from hpv)
  rcases K.cases with hK|⟨fb,P,F,hK⟩
  ·have:=hsh rfl;rw[Kt.st_shut hK] at this;cases this
  ·exact⟨222,_,_,e2,(free_c x hK g (some wp) wc _ hlen hw).mono fun v w' h=>h.mono fun s c σ q=>⟨q,(zwb q).inR⟩⟩
 exact zlR zzW zoz line (fun h=>h11 (by rw[hcm] at h;injection h)) (fun h=>h55 (by rw[hcm] at h;injection h)) O B db K w1 pb wp b wc t2 x g hB hBw hcm hpb hpv hlen hcap hsh hw hszs
theorem zi9(c:UInt8)(a:List UInt8)(l:List (List UInt8))(h:∀y∈a::l,c∉y):zao c (ofL (Lib.join (a::l) [c]))=(a::l).map ofL:=by
 obtain⟨h1,h2⟩:=zdj (c:=c) l a h
 unfold zao
 rw[h1,h2]
theorem zkZ{s:ByteArray}{n m c e:Int}(h:zFE s n c)(g:zFE s m e):n=m/\c=e:=by
 rcases h with⟨h1,h2,h3,h4,h5⟩|⟨h1,h2,h3⟩<;>rcases g with⟨g1,g2,g3,g4,g5⟩|⟨g1,g2,g3⟩
 ·exact⟨zB6 ⟨h2,h3⟩ ⟨g2,g3⟩ (zl8 (h4.symm.trans g4)),by omega⟩
 ·exact absurd h5 (g3 n h2 h3 h4)
 ·exact absurd g5 (h3 m g2 g3 g4)
 ·exact⟨by omega,by omega⟩
theorem zoN:zao 32 ⟨#[111,112,101,110]⟩=[⟨#[111,112,101,110]⟩]:=zi9 32 [111,112,101,110] [] (by decide)
theorem zry:zfu ⟨#[111,112,101,110]⟩=some 7:=by kernel_rfl
theorem zx0{N Fr_:zDI}{L:List Ht}{a:ByteArray}{σ':DS}(h:doD (zon N Fr_) ⟨#[111,112,101,110]⟩ (.shut L) a σ'):a=⟨#[111,107]⟩/\σ'=.opn (zr7 L zAx):=by
 obtain⟨c,s,h,rfl⟩:=h
 rw[zoN] at h
 unfold doW at h
 have e:([(⟨#[111,112,101,110]⟩:ByteArray)]).getD 0 ⟨#[]⟩=⟨#[111,112,101,110]⟩:=rfl
 rw[e,zry] at h
 have h':zuA (.shut L) c s σ':=h
 obtain⟨rfl,rfl,h3⟩:=h'
 exact⟨rfl,h3⟩
theorem zqO(N Fr_:zDI):zn3 (zon N Fr_) ⟨#[111,112,101,110]⟩:=zlR N Fr_ _ (by rw[zoN];intro h;exact absurd (zry.symm.trans h) (by decide)) (by rw[zoN];intro h;exact absurd (zry.symm.trans h) (by decide))
theorem zvX(w:World)(g:GD w)(h6:11<=w.heap.size):FnP Tryz.prog zbb #[] w fun v w'=>Ext w w'/\v=.bool true:=by
 refine zh2 w _ fun w0 x0=>(zBy w0).mono fun v w1 ⟨e1,db,hv,x1⟩=>⟨e1,ptr db,hv,fun w3 x3=>?_⟩
 have hx:=e1.trans x3
 refine(Do_kD (zon (fun _ _ _ _ _=>False) (fun _ _ _ _ _=>False)) (x1.ext x3) (g.ext (x0.trans hx)) (Nat.le_trans h6 x0.size) hx.size _ (by show(4:Nat)<_;omega) (zqO _ _)).mono fun v w4 ⟨a,K',hv,hX,hF,hG,hD⟩=>⟨a,hv,fun w6 h6=>⟨?_,?_⟩⟩
 ·exact(x0.trans ((x1.ext x3).keep hx (Nat.le_refl _) hF)).trans h6
 ·rw[(zx0 hD).1];rfl
theorem znA(p q:Option Addr)(c d:Nat)(A B:List ByteArray)(h63:(A.length:Int)<=9223372036854775806)(w:World)(hA:zat w p (A.map Value.string))(hB:zat w q (B.map Value.string)) :
  FnP Tryz.prog zaw #[.slice p A.length c,.slice q B.length d] w fun v w'=>Ext w w'/\v=.bool (decide (A=B)):=by
 refine zeG p A.length c q B.length d w _ ⟨fun hne w0 h0=>⟨h0,?_⟩,fun heq=>?_⟩
 ·rw[decide_eq_false]
  intro h;exact hne (by rw[h])
 refine⟨fun k w'=>w'=w/\0<=k/\k<=A.length/\A.take k.toNat=B.take k.toNat,fun k _=>(A.length-k).toNat,⟨rfl,by omega,by omega,by simp⟩,?_⟩
 rintro k w2 ⟨rfl,hk0,hk1,ht⟩
 refine⟨fun hlt=>?_,fun hge w3 h3=>⟨h3,?_⟩⟩
 ·obtain⟨x,hx⟩:∃x,A[k.toNat]?=some x:=⟨_,List.getElem?_eq_getElem (by omega)⟩
  obtain⟨y,hy⟩:∃y,B[k.toNat]?=some y:=⟨_,List.getElem?_eq_getElem (by omega)⟩
  have c1:Go.Sx.cell w2 (pIdx p k 1) 0=some (.string x):=by
   rw[zad];exact hA _ _ (by simp[hx])
  have c2:Go.Sx.cell w2 (pIdx q k 1) 0=some (.string y):=by
   rw[zad];exact hB _ _ (by simp[hy])
  refine⟨fun h=>zal c1 (zah.2 h),hk0,hlt,x,c1,fun h=>zal c2 (zah.2 h),hk0,by omega,y,c2,fun hne w5 h5=>⟨h5,?_⟩,fun he=>⟨i64 (by omega),⟨rfl,by omega,by omega,?_⟩,by simp only[];omega⟩⟩
  ·rw[decide_eq_false]
   intro h;rw[h,hy] at hx;injection hx with hx;exact hne hx.symm
  ·rw[show(k+1).toNat=k.toNat+1 by omega,List.take_add_one,List.take_add_one,ht,hx,hy,he]
 ·rw[decide_eq_true]
  rw[List.take_of_length_le (by omega),List.take_of_length_le (by omega)] at ht
  exact ht
def Fn1(R:Int->ByteArray->DS->Prop):Prop:=∀c s σ d t τ,R c s σ->R d t τ->c=d/\(c=0->s=t)/\σ=τ
theorem zCU{t:ByteArray}{e f:Int}{j k:Jb}(h:zFS t e j)(g:zFS t f k):e=f/\(e=0->j=k):=by
 obtain⟨h1,h2,h3,h4⟩:=h
 obtain⟨g1,g2,g3,g4⟩:=g
 by_cases hz:3000<t.size
 ·have:=h1 hz;have:=g1 hz
  exact⟨by omega,fun h=>by omega⟩
 ·rcases h2 (by omega) with e0|e3
  ·obtain⟨q1,q2⟩:=g4 j (h3 e0) (by omega)
   exact⟨by omega,fun _=>q2.symm⟩
  ·rcases g2 (by omega) with f0|f3
   ·obtain⟨q1,q2⟩:=h4 k (g3 f0) (by omega)
    omega
   ·exact⟨by omega,fun h=>by omega⟩
theorem zDt{F:Fm}{n c d:Int}{σ τ:DS}(h:zsK F n c σ)(g:zsK F n d τ):c=d/\σ=τ:=by
 rcases h with⟨h1,h2,h3⟩|⟨h1,h2,h3⟩<;>rcases g with⟨g1,g2,g3⟩|⟨g1,g2,g3⟩
 ·exact⟨by omega,h3.trans g3.symm⟩
 ·exact absurd g2 h2
 ·exact absurd h2 g2
 ·exact⟨by omega,h3.trans g3.symm⟩
theorem zyK{ok:Bool}{F:Fm}{n c d:Int}{σ τ:DS}(h:zvx ok F n c σ)(g:zvx ok F n d τ):c=d/\σ=τ:=by
 rcases h with⟨h1,h2,h3,h4⟩|⟨h1,h2,h3⟩<;>rcases g with⟨g1,g2,g3,g4⟩|⟨g1,g2,g3⟩
 ·exact⟨h2.one g2,h4.trans g4.symm⟩
 ·exact absurd g2 h3
 ·exact absurd h2 g3
 ·exact⟨by omega,h3.trans g3.symm⟩
theorem zED{F:Fm}{n c d:Int}{σ τ:DS}(h:zEC F n c σ)(g:zEC F n d τ):c=d/\σ=τ:=by
 rcases h with⟨h1,h2,h3,h4⟩|⟨h1,h2,h3⟩<;>rcases g with⟨g1,g2,g3,g4⟩|⟨g1,g2,g3⟩
 ·exact⟨h2.one g2,h4.trans g4.symm⟩
 ·exact absurd g2 h3
 ·exact absurd h2 g3
 ·exact⟨by omega,h3.trans g3.symm⟩
theorem zlf{R:Fm->Int->Int->DS->Prop}(hR:∀F n c d σ τ,R F n c σ->R F n d τ->c=d/\σ=τ)(word:ByteArray)(σ:DS):Fn1 fun c s τ=>zpl R word σ s c τ:=by
 rintro c s σ1 d t σ2 ⟨n,c1,hn,h⟩ ⟨m,d1,hm,g⟩
 obtain⟨rfl,rfl⟩:=zkZ hn hm
 rcases h with⟨h1,h2,h3⟩|⟨h1,h2,h3⟩<;>rcases g with⟨g1,g2,g3⟩|⟨g1,g2,g3⟩
 ·exact⟨by omega,fun h=>by omega,h3.trans g3.symm⟩
 ·exact absurd g1 h1
 ·exact absurd h1 g1
 ·refine⟨?_,fun _=>h2.trans g2.symm,?_⟩<;>(cases σ with
   |shut L =>
    have h3:c=9/\σ1=.shut L:=h3
    have g3:d=9/\σ2=.shut L:=g3
    first|omega|exact h3.2.trans g3.2.symm
   |opn F =>
    obtain⟨q1,q2⟩:=hR F n c d σ1 σ2 h3 g3
    first|exact q1|exact q2)
theorem zBV(a b c0:ByteArray)(σ:DS):Fn1 fun c s τ=>zwk a b c0 σ c s τ:=by
 rintro c s σ1 d t σ2 ⟨n,e,hn,h⟩ ⟨m,f,hm,g⟩
 obtain⟨rfl,rfl⟩:=hn.one hm
 rcases h with⟨h1,h2,h3⟩|⟨h1,h2⟩<;>rcases g with⟨g1,g2,g3⟩|⟨g1,g2⟩
 ·exact⟨by omega,fun h=>by omega,h3.trans g3.symm⟩
 ·exact absurd g1 h1
 ·exact absurd h1 g1
 ·cases hl:zD0 c0 with
  |none =>
   rw[hl] at h2 g2
   exact⟨by omega,fun h=>by omega,h2.2.trans g2.2.symm⟩
  |some l =>
   rw[hl] at h2 g2
   cases σ with
   |opn F =>
    have h2:c=9/\σ1=.opn F:=h2
    have g2:d=9/\σ2=.opn F:=g2
    exact⟨by omega,fun h=>by omega,h2.2.trans g2.2.symm⟩
   |shut L =>
    have h2:c=zkH (L++[znN a l n])/\((c≠0/\σ1=.shut L)\/(c=0/\s=⟨#[111,107]⟩/\σ1=.shut (L++[znN a l n]))):=h2
    have g2:d=zkH (L++[znN a l n])/\((d≠0/\σ2=.shut L)\/(d=0/\t=⟨#[111,107]⟩/\σ2=.shut (L++[znN a l n]))):=g2
    have hcd:c=d:=h2.1.trans g2.1.symm
    rcases h2.2 with⟨q1,q2⟩|⟨q1,q2,q3⟩<;>rcases g2.2 with⟨r1,r2⟩|⟨r1,r2,r3⟩
    ·exact⟨hcd,fun h=>absurd h q1,q2.trans r2.symm⟩
    ·exact absurd (hcd.trans r1) q1
    ·exact absurd (hcd.symm.trans q1) r1
    ·exact⟨hcd,fun _=>q2.trans r2.symm,q3.trans r3.symm⟩
theorem zCA(σ:DS):Fn1 fun c s τ=>zuA σ c s τ:=by
 intro c s σ1 d t σ2 h g
 cases σ with
 |shut L => exact⟨h.1.trans g.1.symm,fun _ => h.2.1.trans g.2.1.symm,h.2.2.trans g.2.2.symm⟩
 |opn F =>
  have h:c=9/\σ1=.opn F:=h
  have g:d=9/\σ2=.opn F:=g
  exact⟨by omega,fun h=>by omega,h.2.trans g.2.symm⟩
theorem zCQ(σ:DS):Fn1 fun c s τ=>zuJ σ c s τ:=by
 intro c s σ1 d t σ2 h g
 cases σ with
 |shut L => exact h.elim
 |opn F =>
  obtain⟨rfl,G,o,h1,rfl,rfl⟩:=h
  obtain⟨rfl,G',o',g1,rfl,rfl⟩:=g
  obtain⟨rfl,rfl⟩:=zkc h1 g1
  exact⟨rfl,fun _=>rfl,rfl⟩
theorem zC8(word:ByteArray)(σ:DS):Fn1 fun c s τ=>zAb word σ c s τ:=by
 rintro c s σ1 d t σ2 ⟨rfl,n,c1,hn,h⟩ ⟨rfl,m,d1,hm,g⟩
 obtain⟨rfl,rfl⟩:=zkZ hn hm
 rcases h with⟨h1,h2⟩|⟨h1,h2⟩<;>rcases g with⟨g1,g2⟩|⟨g1,g2⟩
 ·exact⟨by omega,fun h=>by omega,rfl⟩
 ·exact absurd g1 h1
 ·exact absurd h1 g1
 ·cases σ2 with
  |shut L =>
   have h2:c=9:=h2
   have g2:d=9:=g2
   exact⟨by omega,fun h=>by omega,rfl⟩
  |opn F =>
   rcases h2 with⟨q1,q2,q3⟩|⟨q1,q2⟩<;>rcases g2 with⟨r1,r2,r3⟩|⟨r1,r2⟩
   ·exact⟨by omega,fun _=>q3.trans r3.symm,rfl⟩
   ·exact absurd q1 r1
   ·exact absurd r1 q1
   ·exact⟨by omega,fun h=>by omega,rfl⟩
theorem zw4(w:ByteArray)(σ:DS):Fn1 fun c s τ=>zhx w σ c s τ:=by
 intro c s σ1 d t σ2 h g
 cases σ with
 |shut L => exact h.elim
 |opn F =>
  obtain⟨e,j,hr,h⟩:=h
  obtain⟨f,k,gr,g⟩:=g
  obtain⟨rfl,hj⟩:=zCU hr gr
  rcases h with⟨h1,h2,h3⟩|⟨h1,h2,h3⟩<;>rcases g with⟨g1,g2,g3⟩|⟨g1,g2,g3⟩
  ·exact⟨by omega,fun h=>by omega,h3.trans g3.symm⟩
  ·exact absurd g1 h1
  ·exact absurd h1 g1
  ·obtain rfl:=hj h1
   have hcd:=h2.one g2
   rcases h3 with⟨q1,q2⟩|⟨q1,q2,q3⟩<;>rcases g3 with⟨r1,r2⟩|⟨r1,r2,r3⟩
   ·exact⟨hcd,fun h=>absurd h q1,q2.trans r2.symm⟩
   ·exact absurd (hcd.trans r1) q1
   ·exact absurd (hcd.symm.trans q1) r1
   ·exact⟨hcd,fun _=>q2.trans r2.symm,q3.trans r3.symm⟩
theorem zCt(ws:List ByteArray)(σ:DS):Fn1 fun c s τ=>zzW ws σ c s τ:=by
 rintro c s σ1 d t σ2 ⟨rfl,n,c1,hn,h⟩ ⟨rfl,m,d1,hm,g⟩
 obtain⟨rfl,rfl⟩:=zkZ hn hm
 rcases h with⟨h1,h2⟩|⟨h1,cr,e,h2,h3⟩<;>rcases g with⟨g1,g2⟩|⟨g1,cs,f,g2,g3⟩
 ·exact⟨by omega,fun h=>by omega,rfl⟩
 ·exact absurd g1 h1
 ·exact absurd h1 g1
 ·obtain⟨rfl,rfl⟩:=h2.one g2
  rcases h3 with⟨q1,q2⟩|⟨q1,x,q2,q3⟩<;>rcases g3 with⟨r1,r2⟩|⟨r1,y,r2,r3⟩
  ·exact⟨by omega,fun h=>by omega,rfl⟩
  ·exact absurd r1 q1
  ·exact absurd q1 r1
  ·obtain⟨rfl,rfl⟩:=q2.one r2
   exact⟨rfl,fun _=>q3.trans r3.symm,rfl⟩
theorem zBM(ws:List ByteArray)(σ:DS):Fn1 fun c s τ=>zoz ws σ c s τ:=by
 intro c s σ1 d t σ2 h g
 cases σ with
 |shut L => exact h.elim
 |opn F =>
  obtain⟨h1,h2⟩:=h
  obtain⟨g1,g2⟩:=g
  cases hn:zr5 F.hosts (ws.getD 1 ⟨#[]⟩) with
  |none =>
   rw[hn] at h2 g2
   have h2:c=5:=h2
   have g2:d=5:=g2
   exact⟨by omega,fun h=>by omega,h1.trans g1.symm⟩
  |some x =>
   rw[hn] at h2 g2
   exact⟨h2.1.trans g2.1.symm,fun _=>h2.2.trans g2.2.symm,h1.trans g1.symm⟩
theorem dR_one(b:Nat)(ws:List ByteArray)(σ:DS):Fn1 fun c s τ=>dR b ws σ c s τ:=by
 intro c s σ1 d t σ2 h g
 unfold dR zon at h
 split at h
 ·exact zBV _ _ _ _ c s σ1 d t σ2 h g
 ·exact zCA _ c s σ1 d t σ2 h g
 ·exact zCt _ _ c s σ1 d t σ2 h g
 ·exact zw4 _ _ c s σ1 d t σ2 h g
 ·exact zlf (R:=zsK) (fun _ _ _ _ _ _=>zDt) _ _ c s σ1 d t σ2 h g
 ·exact zCQ _ c s σ1 d t σ2 h g
 ·exact zlf (R:=zvx true) (fun _ _ _ _ _ _=>zyK) _ _ c s σ1 d t σ2 h g
 ·exact zlf (R:=zvx false) (fun _ _ _ _ _ _=>zyK) _ _ c s σ1 d t σ2 h g
 ·exact zlf (R:=zEC) (fun _ _ _ _ _ _=>zED) _ _ c s σ1 d t σ2 h g
 ·exact zC8 _ _ c s σ1 d t σ2 h g
 ·exact zBM _ _ c s σ1 d t σ2 h g
 ·exact h.elim
theorem zIm(ws:List ByteArray)(σ:DS):Fn1 fun c s τ=>doW dR ws σ c s τ:=by
 intro c s σ1 d t σ2 h g
 unfold doW at h g
 cases hcm:zfu (ws.getD 0 ⟨#[]⟩) with
 |none =>
  rw[hcm] at h g
  exact⟨h.1.trans g.1.symm,fun h0=>by have:=h.1;omega,h.2.trans g.2.symm⟩
 |some b =>
  rw[hcm] at h g
  simp only[] at h g
  by_cases h1:ws.length≠(sig b).1
  ·rw[if_pos h1] at h g
   exact⟨h.1.trans g.1.symm,fun h0=>by have:=h.1;omega,h.2.trans g.2.symm⟩
  ·rw[if_neg h1] at h g
   by_cases h2:(sig b).2=true/\σ.isShut=true
   ·rw[if_pos h2] at h g
    exact⟨h.1.trans g.1.symm,fun h0=>by have:=h.1;omega,h.2.trans g.2.symm⟩
   ·rw[if_neg h2] at h g
    exact dR_one b ws σ c s σ1 d t σ2 h g
theorem zIk{line:ByteArray}{σ σ1 σ2:DS}{a b:ByteArray}(h:doD dR line σ a σ1)(g:doD dR line σ b σ2):a=b/\σ1=σ2:=by
 obtain⟨c,s,h,rfl⟩:=h
 obtain⟨d,t,g,rfl⟩:=g
 obtain⟨rfl,h2,h3⟩:=zIm _ σ c s σ1 d t σ2 h g
 refine⟨?_,h3⟩
 unfold zvN
 by_cases hc:c=0
 ·rw[if_pos hc,if_pos hc,h2 hc]
 ·rw[if_neg hc,if_neg hc]
def zaQ:List ByteArray->DS->List ByteArray->DS->Prop
 |[],σ,us,σ' => us=[]/\σ'=σ
 |l::ls,σ,us,σ' => ∃a us' σ1,us=a::us'/\doD dR l σ a σ1/\zaQ ls σ1 us' σ'
theorem zaQ.app{L2:List ByteArray}:∀{L1:List ByteArray}{σ σ':DS}{us:List ByteArray},zaQ (L1++L2) σ us σ'↔∃u1 u2 σ1,us=u1++u2/\zaQ L1 σ u1 σ1/\zaQ L2 σ1 u2 σ'
 |[],σ,σ',us => by
  constructor
  ·intro h;exact⟨[],us,σ,rfl,⟨rfl,rfl⟩,h⟩
  ·rintro⟨u1,u2,σ1,rfl,⟨rfl,rfl⟩,h⟩;exact h
 |l::L1,σ,σ',us => by
  constructor
  ·rintro⟨a,us',σ1,rfl,hd,h⟩
   obtain⟨u1,u2,σ2,rfl,h1,h2⟩:=zaQ.app.1 h
   exact⟨a::u1,u2,σ2,rfl,⟨a,u1,σ1,rfl,hd,h1⟩,h2⟩
  ·rintro⟨u1,u2,σ2,rfl,⟨a,u1',σ1,rfl,hd,h1⟩,h2⟩
   exact⟨a,u1'++u2,σ1,rfl,hd,zaQ.app.2 ⟨u1',u2,σ2,rfl,h1,h2⟩⟩
theorem zaQ.of{ls us:List ByteArray}{σ σ':DS}(h:zcQ dR ls σ us σ'):zaQ ls σ us σ':=by
 induction h with
 |nil => exact⟨rfl,rfl⟩
 |snoc hp hd ih => exact zaQ.app.2 ⟨_,_,_,rfl,ih,_,[],_,rfl,hd,rfl,rfl⟩
theorem zaQ.one:∀{ls us vs:List ByteArray}{σ σ1 σ2:DS},zaQ ls σ us σ1->zaQ ls σ vs σ2->us=vs/\σ1=σ2
 |[],us,vs,σ,σ1,σ2,h,g => ⟨h.1.trans g.1.symm,h.2.trans g.2.symm⟩
 |l::ls,us,vs,σ,σ1,σ2,h,g => by
  obtain⟨a,u,τ,rfl,hd,h⟩:=h
  obtain⟨b,v,τ',rfl,gd,g⟩:=g
  obtain⟨rfl,rfl⟩:=zIk hd gd
  obtain⟨rfl,h2⟩:=zaQ.one h g
  exact⟨rfl,h2⟩
theorem zaQ.len:∀{ls us:List ByteArray}{σ σ':DS},zaQ ls σ us σ'->us.length=ls.length
 |[],us,σ,σ',h => by rw[h.1]
 |l::ls,us,σ,σ',h => by
  obtain⟨a,u,τ,rfl,_,h⟩:=h
  simp[zaQ.len h]
theorem zaQ.skip{L1 L2 us vs:List ByteArray}{l:ByteArray}{σ σ1 σ2:DS}(h:zaQ (L1++l::L2) σ us σ1)(g:zaQ (L1++L2) σ vs σ2)(hs:∀ τ a τ',zaQ L1 σ (us.take L1.length) τ->us[L1.length]?=some a->doD dR l τ a τ'->τ'=τ):vs=us.eraseIdx L1.length:=by
 obtain⟨u1,u2,τ,rfl,h1,a,u3,τ1,rfl,hd,h2⟩:=zaQ.app.1 h
 obtain⟨v1,v2,τ2,rfl,g1,g2⟩:=zaQ.app.1 g
 obtain⟨rfl,rfl⟩:=h1.one g1
 have hl:=h1.len
 have ht:(u1++a::u3).take L1.length=u1:=by rw[<-hl];simp
 have hg:(u1++a::u3)[L1.length]?=some a:=by rw[<-hl];simp
 obtain rfl:=hs τ a τ1 (by rw[ht];exact h1) hg hd
 obtain⟨rfl,_⟩:=h2.one g2
 rw[<-hl,List.eraseIdx_append_of_length_le (Nat.le_refl _)]
 simp
theorem zsH{W:World}{p:Option Addr}{l c:Nat}(h:zbA Tryz.prog W zai p l c):∃L:List ByteArray,L.length=l/\(L.length:Int)<=9223372036854775807/\l<=c/\zat W p (L.map Value.string):=by
 obtain⟨L,h1,h2,h3⟩:=h.list (α:=ByteArray) (fun x=>[Value.string x]) (fun _=>True) (fun n es hg he=>by
  have hlv:=zc1 (P:=Tryz.prog) 6 zai [zai] n es (by kernel_rfl) hg
  obtain⟨v0,r0,rfl,l0,hlv⟩:=zar hlv
  obtain rfl:=ziy hlv
  obtain⟨a,rfl,_⟩:=zec (by kernel_rfl) l0
  exact⟨a,rfl,trivial⟩)
 refine⟨L,h1,?_,h.le,fun i v hv=>?_⟩
 ·have:=h.le;have:=h.max;omega
 ·rw[List.getElem?_map,Option.map_eq_some_iff] at hv
  obtain⟨x,hx,rfl⟩:=hv
  have:=h3 i x hx 0 _ rfl
  rw[show Tryz.prog.cellsOf zai=1 by kernel_rfl] at this
  simpa using this
theorem zfj(p:Option Addr)(c:Nat):pCut p c 0 1=p:=by
 unfold pCut
 split
 ·rfl
 ·cases p<;>simp[add_zero]
theorem zwg{w:World}(g:GD w):11<=w.heap.size:=by
 have h:=g.gc.2 0 (by omega)
 obtain⟨a,ha,hb,_⟩:=zdu h
 obtain rfl:=Option.some.inj ha
 exact hb
def zkw(W:World)(p:Option Addr)(n:Nat):Prop:=∀(i:Nat)(t:ByteArray),i<n->Go.Sx.cell W p i=some (.string t)->t.size<=1048576
theorem zkw.all{W:World}{p:Option Addr}{L:List ByteArray}(h:zkw W p L.length)(hc:zat W p (L.map Value.string)):∀x∈L,x.size<4294967281:=fun x hx=>by
 obtain⟨i,hi⟩:=List.mem_iff_getElem?.1 hx
 have:=h i x (List.getElem?_eq_some_iff.1 hi).1 (hc i _ (by rw[List.getElem?_map,hi];rfl))
 omega
end Go.Proofs.YtcceeahmcecbnaaGreatDoor
namespace Go.Proofs.YtcceeahmcecbnaaGreatDoor
open Go.Sx Go.RowKit Go.ChangeShapes Go.WideShapes Go.ChangeAt
def zw3(ss:List ByteArray):DataW Unit:=.agg (ss.map fun s=>.lit (.string s.data.toList))
theorem zrx{enc:TypeId×Value->Unit}{P:Program}{w:World}{base:Nat}{sp:Nat->Bool}{held:Bool}{fuel:Nat}{t e:TypeId}{n:Nat}{cs:List Value}{ss:List ByteArray}{p:List MemPlace}
  (ht:P.underlying t=some (.array n e)) (he:P.underlying e=some .string) (hce:P.cellsOf e=1) (hct:P.cellsOf t=n)
  (h:DataW.trod enc P w base sp held fuel t cs=some (zw3 ss,p)):cs=ss.map Value.string:=by
 cases fuel with
 |zero => simp[DataW.trod] at h
 |succ fuel =>
  simp only[DataW.trod,ht,hce,hct,Nat.mul_one] at h
  split at h
  ·rename_i hl
   obtain⟨xs,hm,hx⟩:=Option.map_eq_some_iff.1 h
   have hxs:xs.map (·.1)=ss.map fun s=>(DataW.lit (.string s.data.toList):DataW Unit):=by
    have:=congrArg Prod.fst hx
    simpa[zw3] using this
   have hxl:xs.length=n:=by simpa using Lib.mapM_length hm
   have hzl:ss.length=n:=by
    have:=congrArg List.length hxs
    simp at this
    omega
   apply List.ext_getElem?
   intro i
   by_cases hi:i<n
   ·obtain⟨b,hb,hf⟩:=Lib.mapM_at hm i i (by simp[hi])
    obtain⟨s,hc,rfl,_⟩:=DataW.trod_string he hf
    have h1:cs[i]?=some (.string s):=by
     have:=congrArg (·[0]?) hc
     simpa[List.getElem?_take,List.getElem?_drop] using this
    have h2:(xs.map (·.1))[i]?=some (DataW.lit (.string s.data.toList):DataW Unit):=by simp[hb]
    rw[hxs] at h2
    simp only[List.getElem?_map,Option.map_eq_some_iff,DataW.lit.injEq,Lit.string.injEq] at h2
    obtain⟨z',hz',he'⟩:=h2
    have:z'=s:=by
     have:=congrArg ofL he'
     rwa [zbO,zbO] at this
    subst this
    simp[h1,hz']
   ·rw[List.getElem?_eq_none (by omega),List.getElem?_eq_none (by simp;omega)]
  ·cases h
theorem zzP{P:Program}{W:World}{l:List (String×DataW Unit)}(h:laidMet P l W)(hp:(l.all fun x=>x.2.handleName?.isNone)=true):laidMetH P l W:=by
 have hnone:(l.filter fun x=>x.2.handleName?.isSome)=[]:=by
  rw[List.filter_eq_nil_iff]
  intro a ha hs
  have:=List.all_eq_true.1 hp a ha
  cases hh:a.2.handleName?<;>simp_all
 unfold laidMetH
 rw[hnone]
 exact h
theorem zCd{P:Program}{W:World}{l:List (String×DataW Unit)}(h:laidMet P l W){name:String}{ss:List ByteArray}
  (hm:(name,zw3 ss)∈l) {g:Nat} {t e:TypeId} {n:Nat} (hg:P.globalNamed name=some g) (hty:(P.globals[g]?).map (·.type)=some t)
  (ht:P.underlying t=some (.array n e)) (he:P.underlying e=some .string) (hce:P.cellsOf e=1) (hct:P.cellsOf t=n):zat W (some ⟨g,0,none⟩) (ss.map Value.string):=by
 obtain⟨ps,hL,_⟩:=h
 obtain⟨g',t',cs,fuel,p,h1,h2,h3,h4⟩:=zel hL _ hm
 obtain rfl:=Option.some.inj (hg.symm.trans h1)
 obtain rfl:=Option.some.inj (hty.symm.trans h2)
 have hcs:=zrx ht he hce hct h4
 intro i v hv
 have h5:=World.var?_cell hg h3 i
 have hlen:cs[i]?=some v:=by
  have:cs.toList[i]?=some v:=by rw[hcs];exact hv
  simpa using this
 rw[hlen] at h5
 have ha:(Addr.add ⟨g,0,none⟩ i)=⟨g,i,none⟩:=by
  unfold Addr.add
  by_cases h0:i=0
  ·subst h0;rfl
  ·rw[if_neg h0];simp
 show W.cell? (Addr.add ⟨g,0,none⟩ i)=some v
 rw[ha];exact h5
theorem zu0{P:Program}{W:World}{name:String}{zs:List Int}{k:IntKind}(h:Lib.TabIs P W name k zs){g:Nat}(hg:P.globalNamed name=some g):zat W (some ⟨g,0,none⟩) (zs.map fun z=>Value.int k z):=by
 intro i v hv
 have h5:=World.var?_cell hg h i
 have hlen:((zs.map fun z=>Value.int k z).toArray)[i]?=some v:=by simpa using hv
 rw[hlen] at h5
 have ha:(Addr.add ⟨g,0,none⟩ i)=⟨g,i,none⟩:=by
  unfold Addr.add
  by_cases h0:i=0
  ·subst h0;rfl
  ·rw[if_neg h0];simp
 show W.cell? (Addr.add ⟨g,0,none⟩ i)=some v
 rw[ha];exact h5
def lD : List (String × DataW Unit) := [("math/bits.deBruijn32tab", Rows.laid_math_bits_deBruijn32tab), ("math/bits.deBruijn64tab", Rows.laid_math_bits_deBruijn64tab), ("internal/strconv.uint64pow10", Rows.laid_internal_strconv_uint64pow10), ("shiftbell/civil.ahead", Rows.laid_shiftbell_civil_ahead), ("unicode/utf8.acceptRanges", Rows.laid_unicode_utf8_acceptRanges), ("errors.errorType", Rows.laid_errors_errorType), ("strconv.ErrRange", Rows.laid_strconv_ErrRange), ("strconv.ErrSyntax", Rows.laid_strconv_ErrSyntax), ("shiftbell/desk.whats", Rows.laid_shiftbell_desk_whats), ("unicode/utf8.first", Rows.laid_unicode_utf8_first)]
def lD9 : List (String × DataW Unit) := [("math/bits.deBruijn32tab", Rows.laid_math_bits_deBruijn32tab), ("math/bits.deBruijn64tab", Rows.laid_math_bits_deBruijn64tab), ("internal/strconv.uint64pow10", Rows.laid_internal_strconv_uint64pow10), ("shiftbell/civil.ahead", Rows.laid_shiftbell_civil_ahead), ("unicode/utf8.acceptRanges", Rows.laid_unicode_utf8_acceptRanges), ("strconv.ErrRange", Rows.laid_strconv_ErrRange), ("strconv.ErrSyntax", Rows.laid_strconv_ErrSyntax), ("shiftbell/desk.whats", Rows.laid_shiftbell_desk_whats), ("unicode/utf8.first", Rows.laid_unicode_utf8_first)]
theorem zFu {W : World} (h : laidMetH Tryz.prog lD W) : laidMet Tryz.prog lD9 W /\ handlesMet Tryz.prog [("errors.errorType", Rows.laid_errors_errorType)] W := by
 have e1 : (lD.filter fun x => x.2.handleName?.isSome) = [("errors.errorType", Rows.laid_errors_errorType)] := by kernel_rfl
 have e2:(lD.filter fun x=>x.2.handleName?.isNone)=lD9:=by kernel_rfl
 unfold laidMetH at h
 rw[e1,e2] at h
 exact h
theorem zIE {W : World} (h : handlesMet Tryz.prog [("errors.errorType", Rows.laid_errors_errorType)] W) : Go.Sx.cell W (some ⟨0, 0, none⟩) 0 = some errT := by
 obtain⟨name,u,ty,e1,e2,e3,e4,e5⟩:=h _ (List.mem_singleton.2 rfl)
 have en:name=[101,114,114,111,114]:=(Option.some.inj e1).symm
 subst en
 have hrt : (Tryz.prog.cutTypes.find? (·.1 == "internal/reflectlite.rtype")).map (·.2) = some 329 := by kernel_rfl
 obtain rfl:=Option.some.inj (hrt.symm.trans e2)
 have hsz:Tryz.prog.types.size=439:=by kernel_rfl
 have hone:((List.range 439).filter fun t=>Tryz.prog.rowNamed t [101,114,114,111,114])=[175]:=by kernel_rfl
 have hm:ty∈(List.range 439).filter fun t=>Tryz.prog.rowNamed t [101,114,114,111,114]:=List.mem_filter.2 ⟨List.mem_range.2 (by rw[<-hsz];exact e3),e4⟩
 rw[hone] at hm
 obtain rfl:=List.mem_singleton.1 hm
 have hh:typeHandle Tryz.prog 175=.pointer (some ⟨11,175,none⟩):=by kernel_rfl
 rw[hh] at e5
 have et : Tryz.prog.globalNamed "errors.errorType" = some 0 := by kernel_rfl
 have:=World.var?_cell et e5 0
 exact zf2 (this.trans (by unfold errT;rfl))
theorem laid_okD{W:World}(h:laidMetH Tryz.prog lD W)(hsp:W.ShapedOpen Tryz.prog):GD W:=by
 obtain⟨h9,hh⟩:=zFu h
 have hp:(lD9.all fun x=>x.2.handleName?.isNone)=true:=by kernel_rfl
 have h9':=zzP h9 hp
 refine⟨gb_of h9' hsp hp (by simp[lD9]) (by simp[lD9]) (by simp[lD9]),?_,zIE hh,?_,?_⟩
 ·have hm : ("shiftbell/desk.whats", (Rows.laid_shiftbell_desk_whats : DataW Unit)) ∈ lD9 := by simp [lD9]
  exact zCd h9 (name := "shiftbell/desk.whats") (ss := zqk) (by exact hm) (g := 4) (t := (Tryz.prog.globals[4]?).elim 0 (·.type)) (e := 9) (n := 6) (by kernel_rfl) (by kernel_rfl) (by kernel_rfl) (by kernel_rfl) (by kernel_rfl) (by kernel_rfl)
 ·have hm : ("math/bits.deBruijn64tab", (Rows.laid_math_bits_deBruijn64tab : DataW Unit)) ∈ lD9 := by simp [lD9]
  have ht := zu0 (zr0 h9' hp (name := "math/bits.deBruijn64tab") (k := .u8) (zs := Lib.deBruijn64tab.map Int.ofNat) (by exact hm) (g := 9) (t := (Tryz.prog.globals[9]?).elim 0 (·.type)) (e := 5) (n := 64) (by kernel_rfl) (by kernel_rfl) (by kernel_rfl) (by kernel_rfl) (by kernel_rfl) (by kernel_rfl)) (g := 9) (by kernel_rfl)
  intro i hi
  refine ht i _ ?_
  have hl:i<Lib.deBruijn64tab.length:=hi
  rw[List.getElem?_map,List.getElem?_map,List.getD_eq_getElem?_getD,List.getElem?_eq_getElem hl]
  rfl
 ·have hm : ("shiftbell/civil.ahead", (Rows.laid_shiftbell_civil_ahead : DataW Unit)) ∈ lD9 := by simp [lD9]
  have ht := zu0 (zr0 h9' hp (name := "shiftbell/civil.ahead") (k := .i64) (zs := [0, 0, 31, 59, 90, 120, 151, 181, 212, 243, 273, 304, 334]) (by exact hm) (g := 10) (t := (Tryz.prog.globals[10]?).elim 0 (·.type)) (e := 3) (n := 13) (by kernel_rfl) (by kernel_rfl) (by kernel_rfl) (by kernel_rfl) (by kernel_rfl) (by kernel_rfl)) (g := 10) (by kernel_rfl)
  intro i hi
  refine ht i _ ?_
  match i,hi with
  |0,_|1,_|2,_|3,_|4,_|5,_|6,_|7,_|8,_|9,_|10,_|11,_|12,_ => rfl
theorem strs_bulk{H:Type}{enc:TypeId×Value->H}{w:World}{n:Nat}{p:Option Addr}{l c:Nat}{d:DataW H}{ps:List MemPlace}
  (h:DataW.trod enc Tryz.prog w 0 (fun _=>true) true n zvL [.slice p l c]=some (d,ps)) (hb:Rows.uptoBulk d<=1048576):zkw w p l:=by
 obtain⟨m,es,h1,h2,h3⟩:=zkg (e:=zai) (by kernel_rfl) h
 intro i t hi ht
 obtain⟨a,rfl⟩:∃a,p=some a:=by
  cases p with
  |none => simp[Go.Sx.cell] at ht
  |some a => exact⟨a,rfl⟩
 obtain⟨cs,x,qs,hcs,hx,htr⟩:=h3 a rfl i hi
 rw[show Tryz.prog.cellsOf zai=1 by kernel_rfl,Nat.mul_one] at hcs
 obtain⟨s,hcs',hxq,_⟩:=DataW.trod_string (t:=zai) (by kernel_rfl) htr
 obtain rfl:x=.lit (.string s.data.toList):=congrArg Prod.fst hxq
 obtain⟨hl,hc⟩:=cells?_some hcs
 have hc0:=hc 0 (.string s) (by rw[hcs'];rfl)
 have hst:s=t:=by
  have e:(a.add i).add 0=a.add i:=add_zero _
  have ht':w.cell? (a.add i)=some (.string t):=ht
  have hc0':Go.Sx.cell w (some (a.add i)) 0=some (.string s):=hc0
  simp only[Go.Sx.cell,Option.bind_some] at hc0'
  rw[e] at hc0'
  rw[hc0'] at ht'
  injection ht' with q
  injection q
 subst hst
 have hbm:=zkA (List.mem_of_getElem? hx)
 have:Rows.uptoBulk (DataW.lit (.string s.data.toList):DataW H)=s.size+1:=by simp[Rows.uptoBulk]
 rw[this] at hbm
 omega
noncomputable def preD (os:Os):World:=(World.holding Tryz.prog os ⟨#[],#[],[]⟩).setCell ⟨0,0,none⟩ errT
noncomputable def zDd (os:Os):World:=(preD os).layVars Tryz.prog lD9
theorem startD_os(os:Os):(zDd os).os=os:=World.layVars_os _ _ _
theorem door_D(os:Os)(args:Array Value):laidMetH Tryz.prog lD ((zDd os).forCall (fun _ _=>0) ⟨#[],args,[]⟩).memory:=by
 have e1 : (lD.filter fun x => x.2.handleName?.isSome) = [("errors.errorType", Rows.laid_errors_errorType)] := by kernel_rfl
 have e2:(lD.filter fun x=>x.2.handleName?.isNone)=lD9:=by kernel_rfl
 unfold laidMetH
 rw[e1,e2]
 refine⟨?_,?_⟩
 ·have a1:(lD9.filter fun x=>(lD9.map (·.1)).contains x.1)=lD9:=List.filter_eq_self.2 fun x hx=>List.contains_iff_mem.2 (List.mem_map.2 ⟨x,hx,rfl⟩)
  have a2:(lD9.filter fun x=>!(lD9.map (·.1)).contains x.1)=[]:=List.filter_eq_nil_iff.2 fun x hx=>by rw[List.contains_iff_mem.2 (List.mem_map.2 ⟨x,hx,rfl⟩)];simp
  have h:laidMet Tryz.prog lD9 (zDd os):=laidMet_layVars (w0:=preD os) (lD9.map (·.1)) [] (by rw[a1];rfl) (by rw[a1];kernel_rfl) (by rw[a1];kernel_rfl) (by rw[a2];exact LaidIn.none)
  exact h.of_heap (by simp[World.memory,World.forCall,Input.heap])
 ·intro x hx
  obtain rfl:=List.mem_singleton.1 hx
  exact⟨[101,114,114,111,114],329,175,rfl,by kernel_rfl,of_decide_eq_true (by kernel_rfl),by kernel_rfl,by kernel_rfl⟩
end Go.Proofs.YtcceeahmcecbnaaGreatDoor
namespace Go.Proofs.YtcceeahmcecbnaaGreatDoor
open Go.Sx Go.RowKit
theorem zzD{a b:List UInt8}(h:(32:UInt8)∉a):(zao 32 (ofL (a++32::b))).getD 0 ⟨#[]⟩=ofL a:=by
 unfold zao
 rw[ztp h,Nat.add_comm,zuX h]
 rfl
theorem zEq{s:ByteArray}{a:List UInt8}(h:s.extract (0:Int).toNat (5:Int).toNat=ofL (a++[32])):s=ofL (a++32::s.data.toList.drop 5):=by
 have e:s.data.toList.take 5=a++[32]:=by
  have:=congrArg (fun x:ByteArray=>x.data.toList) h
  simpa[ofL] using this
 refine(zbO s).symm.trans (congrArg ofL ?_)
 show s.data.toList=a++32::s.data.toList.drop 5
 conv=>lhs;rw[<-List.take_append_drop 5 s.data.toList,e]
 simp
def askW(a:List UInt8):Prop:=a=[115,104,111,119]\/a=[102,114,101,101]\/a=[110,101,120,116]
theorem zIl{ws:List ByteArray}{σ τ:DS}{c:Int}{s:ByteArray}{a:List UInt8}(ha:askW a)(hw:ws.getD 0 ⟨#[]⟩=ofL a)(h:doW dR ws σ c s τ):τ=σ:=by
 have hb:zfu (ofL a)=some 51\/zfu (ofL a)=some 55\/zfu (ofL a)=some 11:=by
  rcases ha with rfl|rfl|rfl
  ·exact .inl (by decide)
  ·exact .inr (.inl (by decide))
  ·exact .inr (.inr (by decide))
 unfold doW at h
 rw[hw] at h
 rcases hb with e|e|e<;>rw[e] at h<;>simp only[] at h
 ·split at h
  ·exact h.2
  ·split at h
   ·exact h.2
   ·have h:zAb (ws.getD 1 ⟨#[]⟩) σ c s τ:=h
    exact h.1
 ·split at h
  ·exact h.2
  ·split at h
   ·exact h.2
   ·have h:zoz ws σ c s τ:=h
    unfold zoz at h
    split at h
    ·exact h.elim
    ·exact h.1
 ·split at h
  ·exact h.2
  ·split at h
   ·exact h.2
   ·have h:zzW ws σ c s τ:=h
    exact h.1
theorem zIi{line ans:ByteArray}{σ τ:DS}(hl:line.extract (0:Int).toNat (5:Int).toNat=(⟨#[115,104,111,119,32]⟩:ByteArray)\/line.extract (0:Int).toNat (5:Int).toNat=(⟨#[102,114,101,101,32]⟩:ByteArray)\/line.extract (0:Int).toNat (5:Int).toNat=(⟨#[110,101,120,116,32]⟩:ByteArray))(h:doD dR line σ ans τ):τ=σ:=by
 obtain⟨c,s,h,rfl⟩:=h
 obtain⟨a,ha,hn,hl⟩:∃a,askW a/\(32:UInt8)∉a/\line.extract (0:Int).toNat (5:Int).toNat=ofL (a++[32]):=by
  rcases hl with h|h|h
  ·exact⟨[115,104,111,119],.inl rfl,by decide,h⟩
  ·exact⟨[102,114,101,101],.inr (.inl rfl),by decide,h⟩
  ·exact⟨[110,101,120,116],.inr (.inr rfl),by decide,h⟩
 have e:=zEq hl
 rw[e] at h
 exact zIl ha (zzD hn) h
abbrev zbS:FuncId:=5
abbrev zaA:FuncId:=14
abbrev zaV:FuncId:=15
abbrev zbi:FuncId:=16
def zeI(b:Option Addr)(q r:Nat)(l:World)(m:Value->World->Prop):Prop:=
 ((b=none)->∀a,Ext l a->m (.slice none 0 0) a)/\((b≠none)->∀a,Ext l a->Run Tryz.prog (.buildSlice 22 0 []) a fun n k=>Ext a k/\∃c d e,n=(.slice c d e)/\∀f,Ext k f->Run Tryz.prog (.append #[22,22] 22 [(.slice c d e),(.slice b q r)]) f fun o p=>∃g h i,o=(.slice g h i)/\∀j,Ext p j->m (.slice g h i) j)
theorem zeF(a:Option Addr)(b c:Nat)(d:World)(e:Value->World->Prop)(h:zeI a b c d e):FnP Tryz.prog zaV #[(.slice a b c)] d e:=
 zab (Eq.mp (by kernel_rfl:_=Runs Tryz.prog e ({N:=8}:Cfg) Tryz.f15 (Tryz.f15.body.getD .skip) [.sc (.slc a b c)] d) h) Tryz.func15 (by kernel_rfl) (fun a w=>Tryz.call15 a w) (by kernel_rfl) (by kernel_rfl) rfl rfl
def zeu(i:Option Addr)(a c:Nat)(e b:Int)(l:World)(m:Value->World->Prop):Prop:=
 (0:Int)<=e/\(e:Int)<=b/\(b:Int)<=(a:Int)/\((a:Int):Int)<=(c:Int)/\((e=b)->∀f,Ext l f->m (.slice i a c) f)/\((e≠b)->(0:Int)<=0/\(0:Int)<=e/\(e:Int)<=(c:Int)/\(0:Int)<=b/\(b:Int)<=(a:Int)/\((a:Int):Int)<=(c:Int)/\∀f,Ext l f->Run Tryz.prog (.append #[22,22] 22 [(.slice (pCut i c 0 1) (e-0).toNat (c-(0:Int).toNat)),(.slice (pCut i c b 1) ((a:Int)-b).toNat (c-b.toNat))]) f fun n o=>∃h d g,n=(.slice h d g)/\(0:Int)<=(d:Int)/\((d:Int):Int)<=(a:Int)/\((a:Int):Int)<=(g:Int)/\∀j,Ext o j->Run Tryz.prog (.clear #[22] 0 [(.slice (pCut h g (d:Int) 1) ((a:Int)-(d:Int)).toNat (g-(d:Int).toNat))]) j fun p q=>p=(.tuple #[])/\∀k,Ext q k->m (.slice h d g) k)
theorem zeo(a:Option Addr)(b c:Nat)(d e:Int)(f:World)(g:Value->World->Prop)(h:zeu a b c d e f g):FnP Tryz.prog zaA #[(.slice a b c),(.int .i64 d),(.int .i64 e)] f g:=
 zab (Eq.mp (by kernel_rfl:_=Runs Tryz.prog g ({N:=33}:Cfg) Tryz.f14 (Tryz.f14.body.getD .skip) [.sc (.slc a b c),.sc (.int .i64 d),.sc (.int .i64 e)] f) h) Tryz.func14 (by kernel_rfl) (fun a w=>Tryz.call14 a w) (by kernel_rfl) (by kernel_rfl) rfl rfl
def zgi(V:Option Addr)(c W:Nat)(a:ByteArray)(b:Int)(j:World)(k:Value->World->Prop):Prop:=
 ∀l,Ext j l->FnP Tryz.prog zbb #[] l fun X Y=>Ext l Y/\∃m,X=(.bool m)/\((m=false)->∀d,Ext j d->k (.bool false) d)/\((m=true)->(((((((c:Int)<=49)/\(0<=b))/\(b<=(c:Int)))/\(5<=(a.size:Int)))->(0:Int)<=0))/\(((((((c:Int)<=49)/\(0<=b))/\(b<=(c:Int)))/\(5<=(a.size:Int)))->(0:Int)<=5))/\(((((((c:Int)<=49)/\(0<=b))/\(b<=(c:Int)))/\(5<=(a.size:Int)))->(5:Int)<=(a.size:Int)))/\(((((((c:Int)<=49)/\(0<=b))/\(b<=(c:Int)))/\(5<=(a.size:Int)))->(((a.extract (0:Int).toNat (5:Int).toNat)≠(⟨#[115,104,111,119,32]⟩:ByteArray))->(0:Int)<=0)))/\(((((((c:Int)<=49)/\(0<=b))/\(b<=(c:Int)))/\(5<=(a.size:Int)))->(((a.extract (0:Int).toNat (5:Int).toNat)≠(⟨#[115,104,111,119,32]⟩:ByteArray))->(0:Int)<=5)))/\(((((((c:Int)<=49)/\(0<=b))/\(b<=(c:Int)))/\(5<=(a.size:Int)))->(((a.extract (0:Int).toNat (5:Int).toNat)≠(⟨#[115,104,111,119,32]⟩:ByteArray))->(5:Int)<=(a.size:Int))))/\(((((((c:Int)<=49)/\(0<=b))/\(b<=(c:Int)))/\(5<=(a.size:Int)))->((((a.extract (0:Int).toNat (5:Int).toNat)≠(⟨#[115,104,111,119,32]⟩:ByteArray))/\((a.extract (0:Int).toNat (5:Int).toNat)≠(⟨#[102,114,101,101,32]⟩:ByteArray)))->(0:Int)<=0)))/\(((((((c:Int)<=49)/\(0<=b))/\(b<=(c:Int)))/\(5<=(a.size:Int)))->((((a.extract (0:Int).toNat (5:Int).toNat)≠(⟨#[115,104,111,119,32]⟩:ByteArray))/\((a.extract (0:Int).toNat (5:Int).toNat)≠(⟨#[102,114,101,101,32]⟩:ByteArray)))->(0:Int)<=5)))/\(((((((c:Int)<=49)/\(0<=b))/\(b<=(c:Int)))/\(5<=(a.size:Int)))->((((a.extract (0:Int).toNat (5:Int).toNat)≠(⟨#[115,104,111,119,32]⟩:ByteArray))/\((a.extract (0:Int).toNat (5:Int).toNat)≠(⟨#[102,114,101,101,32]⟩:ByteArray)))->(5:Int)<=(a.size:Int))))/\(((((((49<(c:Int))\/(b<0))\/((c:Int)<b))\/((a.size:Int)<5))\/((((a.extract (0:Int).toNat (5:Int).toNat)≠(⟨#[115,104,111,119,32]⟩:ByteArray))/\((a.extract (0:Int).toNat (5:Int).toNat)≠(⟨#[102,114,101,101,32]⟩:ByteArray)))/\((a.extract (0:Int).toNat (5:Int).toNat)≠(⟨#[110,101,120,116,32]⟩:ByteArray))))->∀d,Ext j d->k (.bool true) d))/\(((((((c:Int)<=49)/\(0<=b))/\(b<=(c:Int)))/\(5<=(a.size:Int)))/\((((a.extract (0:Int).toNat (5:Int).toNat)=(⟨#[115,104,111,119,32]⟩:ByteArray))\/((a.extract (0:Int).toNat (5:Int).toNat)=(⟨#[102,114,101,101,32]⟩:ByteArray)))\/((a.extract (0:Int).toNat (5:Int).toNat)=(⟨#[110,101,120,116,32]⟩:ByteArray))))->∀d,Ext j d->FnP Tryz.prog zb4 #[(.slice V c W)] d fun Z aa=>∃s e t u,Z=(.tuple #[(.slice s e t),(.int .i64 u)])/\∀n,Ext aa n->FnP Tryz.prog zaV #[(.slice V c W)] n fun ab S=>Ext n S/\∃v w x,ab=(.slice v w x)/\∀o,Ext S o->Run Tryz.prog (.buildSlice 22 1 [(0,(.string a))]) o fun ac T=>Ext o T/\∃y z A,ac=(.slice y z A)/\∀B,Ext T B->FnP Tryz.prog zbi #[(.slice v w x),(.int .i64 b),(.slice y z A)] B fun ad ae=>∃C D E,ad=(.slice C D E)/\∀F,Ext ae F->FnP Tryz.prog zb4 #[(.slice C D E)] F fun af ag=>∃G g H I,af=(.tuple #[(.slice G g H),(.int .i64 I)])/\∀p,Ext ag p->Run Tryz.prog (.buildSlice 119 2 [(0,(.int .i64 u)),(1,(.int .i64 I))]) p fun ah i=>Ext p i/\∃J K L,ah=(.slice J K L)/\∀q,Ext i q->FnP Tryz.prog zbP #[(.slice J K L)] q fun ai aj=>Ext q aj/\∃h,ai=(.bool h)/\((h=true)->InR .i64 ((e:Int)+1))/\(((h=false)\/((g:Int)≠((e:Int)+1)))->∀f,Ext i f->k (.bool false) f)/\(((h=true)/\((g:Int)=((e:Int)+1)))->InR .i64 (b+1)/\∀f,Ext i f->FnP Tryz.prog zaA #[(.slice G g H),(.int .i64 b),(.int .i64 (b+1))] f fun ak U=>∃M N O,ak=(.slice M N O)/\∀r,Ext U r->FnP Tryz.prog zaw #[(.slice s e t),(.slice M N O)] r fun al am=>Ext r am/\∃P,al=(.bool P)/\∀R,Ext U R->k (.bool P) R)))
theorem zga(a:Option Addr)(b c:Nat)(d:ByteArray)(e:Int)(f:World)(g:Value->World->Prop)(h:zgi a b c d e f g):FnP Tryz.prog zbS #[(.slice a b c),(.string d),(.int .i64 e)] f g:=
 zab (Eq.mp (by kernel_rfl:_=Runs Tryz.prog g ({N:=81,muts:=[21,29,22,24,81,12,14,16]}:Cfg) Tryz.f5 (Tryz.f5.body.getD .skip) [.sc (.slc a b c),.sc (.str d),.sc (.int .i64 e)] f) h) Tryz.func5 (by kernel_rfl) (fun a w=>Tryz.call5 a w) (by kernel_rfl) (by kernel_rfl) rfl rfl
theorem zpa(W:World)(R:Array Value->Prop)(h:∀l:Option Addr,∀ll:Nat,∀lc:Nat,zbA Tryz.prog W 9 l ll lc->∀s:ByteArray,s.size<=9223372036854775807->∀k:Int,InR .i64 k->R #[(.slice l ll lc),(.string s),(.int .i64 k)])(args:Array Value)(hg:zds Tryz.prog W Tryz.f5.params.toList args.toList):R args:=by
 have e_:(zh7 Tryz.prog W Tryz.f5.params.toList fun l=>R l.toArray)=(∀l:Option Addr,∀ll:Nat,∀lc:Nat,zbA Tryz.prog W 9 l ll lc->∀s:ByteArray,s.size<=9223372036854775807->∀k:Int,InR .i64 k->R #[(.slice l ll lc),(.string s),(.int .i64 k)]):=by kernel_rfl
 exact zod (by rw[e_];exact h) args hg
theorem zxv(q:Option Addr)(c:Nat)(L:List ByteArray)(h60:L.length<=1000)(w:World)(hD:zat w q (L.map Value.string)) :
  FnP Tryz.prog zaV #[.slice q L.length c] w fun v w'=>Ext w w'/\∃p' c',v=.slice p' L.length c'/\Own w.heap.size w' zai 1 p' L.length c' (L.map Value.string):=by
 refine zeF q L.length c w _ ⟨fun hn w0 h0=>?_,fun hn=>?_⟩
 ·cases L with
  |nil => exact⟨h0,none,0,rfl,Own.nil⟩
  |cons x r => exact absurd hn (hD.ne (by simp))
 ·exact zkC (Q:=fun v w'=>Ext w w'/\∃p' c',v=.slice p' L.length c'/\Own w.heap.size w' zai 1 p' L.length c' (L.map Value.string)) zaZ (by omega) hD (by simp) (by intro u hu;obtain⟨x,_,rfl⟩:=List.mem_map.1 hu;rfl) (by omega) (by omega) hn fun p' c' w' hx o=>⟨hx,p',c',rfl,o⟩
theorem zn7(B:Nat)(q:Option Addr)(n c:Nat)(L:List ByteArray)(hn:n=L.length)(i:Int)(h0:0<=i)(h1:i<n)(w:World)(ho:Own B w zai 1 q n c (L.map Value.string))(h100:n<=1000) :
  FnP Tryz.prog zaA #[.slice q n c,.int .i64 i,.int .i64 (i+1)] w fun v w'=>∃m d,v=.slice q m d/\m=(L.eraseIdx i.toNat).length/\Own B w' zai 1 q m d ((L.eraseIdx i.toNat).map Value.string)/\zbN w w' q q:=by
 have hle:=ho.le
 refine zeo q n c i (i+1) w _ ⟨h0,by omega,by omega,by omega,fun h=>by omega,fun _=>?_⟩
 refine zzu (Q:=fun v w'=>∃m d,v=.slice q m d/\m=(L.eraseIdx i.toNat).length/\Own B w' zai 1 q m d ((L.eraseIdx i.toNat).map Value.string)/\zbN w w' q q) zaZ (by omega) (by intro u hu;simp[Value.cells] at hu;subst hu;rfl) ho (by intro u hu;obtain⟨x,_,rfl⟩:=List.mem_map.1 hu;rfl) h0 (by omega) (by omega) fun w' g o=>?_
 have he:(L.eraseIdx i.toNat)=L.take i.toNat++L.drop (i.toNat+1):=List.eraseIdx_eq_take_drop_succ ..
 have hlen:(L.eraseIdx i.toNat).length=i.toNat+(n-(i+1).toNat):=by
  rw[he,List.length_append,List.length_take,List.length_drop];omega
 refine⟨_,_,rfl,hlen.symm,?_,g⟩
 rw[Nat.mul_one,Nat.mul_one,<-List.map_take,<-List.map_drop,show(i+1).toNat=i.toNat+1 by omega,<-List.map_append,<-he] at o
 rw[show i.toNat+(n-(i.toNat+1))=i.toNat+(n-(i+1).toNat) by omega] at o
 exact o
theorem zrd{L us vs:List ByteArray}{σ σ1 σ2:DS}{k:Nat}(hk:k<L.length)(h:zaQ L σ us σ1)(g:zaQ (L.eraseIdx k) σ vs σ2)(hs:∀ τ a τ',us[k]?=some a->doD dR L[k] τ a τ'->τ'=τ):vs=us.eraseIdx k:=by
 have h1:L=L.take k++L[k]::L.drop (k+1):=by rw[List.getElem_cons_drop,List.take_append_drop]
 have hl:(L.take k).length=k:=by rw[List.length_take];omega
 have:=zaQ.skip (L1:=L.take k) (L2:=L.drop (k+1)) (l:=L[k]) (us:=us) (vs:=vs) (σ:=σ) (σ1:=σ1) (σ2:=σ2) (by rw[<-h1];exact h) (by rw[<-List.eraseIdx_eq_take_drop_succ];exact g) (fun τ a τ' _ hu hd=>hs τ a τ' (by rw[hl] at hu;exact hu) hd)
 rw[hl] at this
 exact this
end Go.Proofs.YtcceeahmcecbnaaGreatDoor
namespace Go.Proofs
open Go.Shelf
def Tryz.laysNm222_ren:Go.Shelf.Ren:=⟨fun|22=>16|29=>50|30=>51|36=>106|17=>157|n=>n,fun|24=>22|9=>9|3=>3|4=>4|0=>0|n=>n,fun|n=>n⟩
theorem Tryz.laysNm222:Go.Proofs.Lays2.n22 Tryz.prog Tryz.laysNm222_ren:={
 mixed:=by kernel_rfl
 f17:=Tryz.func157.trans (congrArg some (by kernel_rfl))
 f22:=Tryz.func16.trans (congrArg some (by kernel_rfl))
 f29:=Tryz.func50.trans (congrArg some (by kernel_rfl))
 f30:=Tryz.func51.trans (congrArg some (by kernel_rfl))
 f36:=Tryz.func106.trans (congrArg some (by kernel_rfl))
 t0:=Tryz.underlying0
 a0:=Tryz.isAgg0
 z0:=Tryz.sizeOf0
 v0:=Tryz.zeroValue0
 t3:=Tryz.underlying3
 a3:=Tryz.isAgg3
 z3:=Tryz.sizeOf3
 v3:=Tryz.zeroValue3
 t4:=Tryz.underlying4
 a4:=Tryz.isAgg4
 z4:=Tryz.sizeOf4
 v4:=Tryz.zeroValue4
 t9:=Tryz.underlying9
 a9:=Tryz.isAgg9
 z9:=Tryz.sizeOf9
 v9:=Tryz.zeroValue9
 t24:=Tryz.underlying22
 a24:=Tryz.isAgg22
 z24:=Tryz.sizeOf22
 v24:=Tryz.zeroValue22
 i9:=by kernel_rfl }
theorem Tryz.slices_Insert_string_shift(b off n c i vb voff m vc:Nat)(cs vs:List Value)(w:World)(hi:i<n)(hm:0<m)(hroom:n+m<=c)(hc63:c<=9223372036854775807)(hvb:vb≠b)(hcl:cs.length=n)(hvl:vs.length=m)(hcs:∀j v,cs[j]?=some v->w.cell? ⟨b,off+j,none⟩=some v)(hsp:∀j,j<n+m->(w.cell? ⟨b,off+j,none⟩).isSome=true)(hfz:∀j,j<n+m->w.frozen? ⟨b,off+j,none⟩=false)(hvs:∀j v,vs[j]?=some v->w.cell? ⟨vb,voff+j,none⟩=some v)(h1c:∀v∈cs,v.oneCell'=true)(h1v:∀v∈vs,v.oneCell'=true)(tA tB:TypeId)(kA kB:Nat)(hsa:w.shape? vb=some (tA,kA))(hsb:w.shape? b=some (tB,kB))(hkB:kB≠0)(hfa:w.frozen? ⟨vb,voff,none⟩=false)(hfe:w.frozen? ⟨vb,kA,none⟩=false) :
 Calls Tryz.prog 16 #[.slice (some ⟨b,off,none⟩) n c,.int .i64 i,.slice (some ⟨vb,voff,none⟩) m vc] w fun e w'=>e=.returned (.slice (some ⟨b,off,none⟩) (n+m) c)/\w'=(w.drew.setCells b (off+(i+m)) (cs.drop i)).setCells b (off+i) vs:=Any2.slices_Insert_string_shift Tryz.laysNm222 b off n c i vb voff m vc cs vs w hi hm hroom hc63 hvb hcl hvl hcs hsp hfz hvs h1c h1v tA tB kA kB hsa hsb hkB hfa hfe
theorem Tryz.slices_Insert_string_end_room(b off n c vb voff m vc:Nat)(vs:List Value)(w:World)(hm:0<m)(hroom:n+m<=c)(hc63:c<=9223372036854775807)(hvl:vs.length=m)(hsp:∀j,j<m->(w.cell? ⟨b,off+n+j,none⟩).isSome=true)(hfz:∀j,j<m->w.frozen? ⟨b,off+n+j,none⟩=false)(hvs:∀j v,vs[j]?=some v->w.cell? ⟨vb,voff+j,none⟩=some v)(h1v:∀v∈vs,v.oneCell'=true) :
 Calls Tryz.prog 16 #[.slice (some ⟨b,off,none⟩) n c,.int .i64 n,.slice (some ⟨vb,voff,none⟩) m vc] w fun e w'=>e=.returned (.slice (some ⟨b,off,none⟩) (n+m) c)/\w'=w.setCells b (off+n) vs:=Any2.slices_Insert_string_end_room Tryz.laysNm222 b off n c vb voff m vc vs w hm hroom hc63 hvl hsp hfz hvs h1v
theorem Tryz.slices_Insert_string_end_grow(base:Option Addr)(n c vb voff m vc:Nat)(cs vs:List Value)(w:World)(hm:0<m)(hnc:n<=c)(hroom:c<n+m)(hbig:(n+m)*16<=140737488355328)(hcl:cs.length=n)(hvl:vs.length=m)(hnil:base=none->n=0)(hcs:∀a,base=some a->∀j v,cs[j]?=some v->w.cell? (a.add j)=some v)(hvs:∀j v,vs[j]?=some v->w.cell? ⟨vb,voff+j,none⟩=some v)(h1v:∀v∈vs,v.oneCell'=true) :
 Calls Tryz.prog 16 #[.slice base n c,.int .i64 n,.slice (some ⟨vb,voff,none⟩) m vc] w fun e w'=>e=.returned (.slice (some ⟨w.heap.size,0,none⟩) (n+m) (grownCap w (n+m) c 9))/\w'=w.drew.alloc (.cells ((cs++vs).toArray++Builtin.zeroCells (Value.string ⟨#[]⟩).cells (grownCap w (n+m) c 9-(n+m))) 9):=Any2.slices_Insert_string_end_grow Tryz.laysNm222 base n c vb voff m vc cs vs w hm hnc hroom hbig hcl hvl hnil hcs hvs h1v
theorem Tryz.slices_Insert_string_grow(b off n c i vb voff m vc:Nat)(cs vs:List Value)(w:World)(hi:i<n)(hm:0<m)(hnc:n<=c)(hroom:c<n+m)(hbig:(n+m)*16<=140737488355328)(hcl:cs.length=n)(hvl:vs.length=m)(hcs:∀j v,cs[j]?=some v->w.cell? ⟨b,off+j,none⟩=some v)(hvs:∀j v,vs[j]?=some v->w.cell? ⟨vb,voff+j,none⟩=some v)(h1c:∀v∈cs,v.oneCell'=true)(h1v:∀v∈vs,v.oneCell'=true) :
 Calls Tryz.prog 16 #[.slice (some ⟨b,off,none⟩) n c,.int .i64 i,.slice (some ⟨vb,voff,none⟩) m vc] w fun e w'=>e=.returned (.slice (some ⟨w.heap.size,0,none⟩) (n+m) (grownCap w (n+m) c 9))/\w'=(((w.alloc (.cells ((cs.take i).toArray++Builtin.zeroCells (Value.string ⟨#[]⟩).cells (n+m-i)++Builtin.zeroCells (Value.string ⟨#[]⟩).cells (grownCap w (n+m) c 9-(n+m))) 9)).drew.setCells w.heap.size i vs).drew).setCells w.heap.size (i+m) (cs.drop i):=Any2.slices_Insert_string_grow Tryz.laysNm222 b off n c i vb voff m vc cs vs w hi hm hnc hroom hbig hcl hvl hcs hvs h1c h1v
end Go.Proofs
namespace Go.Proofs.YtcceeahmcecbnaaGreatDoor
open Go.Sx Go.RowKit
theorem zjb:∀(xs vs:List Value)(i:Nat),i+vs.length<=xs.length->zct xs i vs=xs.take i++vs++xs.drop (i+vs.length)
 |xs,[],i,_ => by simp[zct]
 |xs,v::r,i,h => by
  simp only[List.length_cons] at h
  rw[zct,zjb (xs.set i v) r (i+1) (by rw[List.length_set];omega)]
  have hi:i<xs.length:=by omega
  have e1:(xs.set i v).take (i+1)=xs.take i++[v]:=by
   rw[List.take_add_one,List.take_set_of_le (Nat.le_refl _)]
   simp[hi]
  have e2:(xs.set i v).drop (i+1+r.length)=xs.drop (i+(r.length+1)):=by
   rw[List.drop_set_of_lt (by omega)]
   congr 1;omega
  rw[e1,e2]
  simp
theorem zca{b:Nat}{e:TypeId}{fz:Nat×Nat}:∀(vs:List Value)(o:Nat)(w:World)(cur:Array Value),w.heap[b]?=some (.cells cur e fz)->o+vs.length<=cur.size ->
  ∃cur',(w.setCells b o vs).heap[b]?=some (.cells cur' e fz)/\cur'.toList=zct cur.toList o vs/\cur'.size=cur.size/\(∀k,k≠b->(w.setCells b o vs).heap[k]?=w.heap[k]?)/\(w.setCells b o vs).heap.size=w.heap.size/\(w.setCells b o vs).os=w.os/\(w.setCells b o vs).tape=w.tape/\(w.setCells b o vs).output=w.output
 |[],o,w,cur,h,_ => ⟨cur,h,rfl,rfl,fun _ _ => rfl,rfl,rfl,rfl,rfl⟩
 |v::r,o,w,cur,h,hl => by
  simp only[List.length_cons] at hl
  have hlt:b<w.heap.size:=(Array.getElem?_eq_some_iff.1 h).1
  have hgv:w.heap[b]=.cells cur e fz:=(Array.getElem?_eq_some_iff.1 h).2
  have hnew:(w.setCell ⟨b,o,none⟩ v).heap[b]?=some (.cells (cur.setIfInBounds o v) e fz):=by
   unfold World.setCell
   rw[Array.getElem?_eq_getElem (by simpa using hlt),Array.getElem_modify]
   simp[hgv]
  have hoth:∀k,k≠b->(w.setCell ⟨b,o,none⟩ v).heap[k]?=w.heap[k]?:=fun k hk=>by
   unfold World.setCell
   simp only[Array.getElem?_modify]
   rw[if_neg (fun h=>hk h.symm)]
  obtain⟨cur',h1,h2,h3,h4,h5,h6,h7,h8⟩:=zca r (o+1) (w.setCell ⟨b,o,none⟩ v) (cur.setIfInBounds o v) hnew (by rw[Array.size_setIfInBounds];omega)
  refine⟨cur',h1,?_,by rw[h3,Array.size_setIfInBounds],fun k hk=>(h4 k hk).trans (hoth k hk),h5.trans (by simp[World.setCell]),h6,h7,h8⟩
  rw[h2,Array.toList_setIfInBounds]
  rfl
section
variable {B B':Nat} {w:World} {n c:Nat} {L:List ByteArray} {s:ByteArray}
theorem zCH{e:TypeId}{p:Option Addr}{n c:Nat}{xs:List Value}(h:Own B w e 1 p n c xs)(hp:p≠none):∃g cur,p=some ⟨g,0,none⟩/\B<=g/\w.heap[g]?=some (.cells cur e (0,0))/\n<=c/\c<=maxLen/\cur.size=c/\cur.toList.take n=xs:=by
 rcases h.2 with⟨hv,_⟩|⟨g,cap,cur,hv,hbg,hg,hnc,hcm,hcs,htake⟩
 ·simp at hv;exact absurd hv.1 hp
 ·obtain⟨rfl,rfl⟩:p=some ⟨g,0,none⟩/\c=cap:=by simpa using hv
  exact⟨g,cur,rfl,hbg,hg,hnc,hcm,by rw[hcs,Nat.mul_one],by rw[<-htake,Nat.mul_one]⟩
theorem zxM{g:Nat}{cur:Array Value}{e:TypeId}{fz:Nat×Nat}(h:w.heap[g]?=some (.cells cur e fz)){j:Nat}(hj:j<cur.size):w.cell? ⟨g,0+j,none⟩=some cur[j]:=by
 unfold World.cell?
 simp only[h,Nat.zero_add]
 simp[hj]
theorem zxN{g:Nat}{cur:Array Value}{e:TypeId}(h:w.heap[g]?=some (.cells cur e (0,0)))(j:Nat):w.frozen? ⟨g,j,none⟩=false:=by
 unfold World.frozen?
 simp only[h]
 simp only[Bool.and_eq_false_iff,decide_eq_false_iff_not]
 right;omega
theorem ztn{g:Nat}{cur:Array Value}{e:TypeId}{fz:Nat×Nat}(h:w.heap[g]?=some (.cells cur e fz)):w.shape? g=some (e,cur.size):=by
 unfold World.shape?
 simp only[h]
def zqY(L:List ByteArray)(i:Nat)(s:ByteArray):List ByteArray:=L.take i++s::L.drop i
theorem zrP{i:Nat}(h:i<=L.length):(zqY L i s).length=L.length+1:=by
 unfold zqY
 rw[List.length_append,List.length_take,List.length_cons,List.length_drop];omega
theorem zhv{b o:Nat}{vs:List Value}{w:World}{cur:Array Value}{e:TypeId}{fz:Nat×Nat}(h:w.heap[b]?=some (.cells cur e fz))(hl:o+vs.length<=cur.size):zbN w (w.setCells b o vs) (some ⟨b,0,none⟩) (some ⟨b,0,none⟩):=by
 obtain⟨cur',h1,h2,h3,h4,h5,h6,h7,h8⟩:=zca vs o w cur h hl
 refine⟨⟨h6,h7,h8,by rw[h5];exact Nat.le_refl _,fun k _ hk=>h4 k fun e=>hk (by simp[blk,e])⟩,.inl rfl⟩
theorem zAG{q:Option Addr}(ho:Own B w zai 1 q n c (L.map Value.string))(hn:n=L.length){vb vc:Nat}(hv:Own B' w zai 1 (some ⟨vb,0,none⟩) 1 vc [.string s])(ap:zbo q (some ⟨vb,0,none⟩)){i:Nat}(hi:i<=n)(h100:n<=1000)(hBw:B<=w.heap.size) :
  FnP Tryz.prog zbi #[.slice q n c,.int .i64 i,.slice (some ⟨vb,0,none⟩) 1 vc] w fun v w'=>∃q' d,v=.slice q' (n+1) d/\Own B w' zai 1 q' (n+1) d ((zqY L i s).map Value.string)/\zbN w w' q q':=by
 refine⟨fun args w=>Tryz.call16 args w,?_⟩
 obtain⟨vb',vcur,e1,_,hvh,hv1,_,hvs,hvt⟩:=zCH hv (by simp)
 cases e1
 have hvs':∀j v,[Value.string s][j]?=some v->w.cell? ⟨vb,0+j,none⟩=some v:=fun j v hj=>by
  have:=hv.cells j v hj
  have e:(⟨vb,0,none⟩:Addr).add j=⟨vb,0+j,none⟩:=by unfold Addr.add;split<;>simp_all
  unfold Go.Sx.cell at this
  simp only[Option.bind_some] at this
  rwa [e] at this
 have h1v:∀v∈[Value.string s],v.oneCell'=true:=by intro u hu;simp at hu;subst hu;rfl
 have h1c:∀v∈L.map Value.string,v.oneCell'=true:=by intro u hu;obtain⟨x,_,rfl⟩:=List.mem_map.1 hu;rfl
 have hcl:(L.map Value.string).length=n:=by rw[List.length_map,hn]
 have grow:∀(cur:Array Value)(w':World),w'.heap[w.heap.size]?=some (.cells cur zai (0,0))->w'.heap.size=w.heap.size+1->w'.os=w.os->w'.tape=w.tape->w'.output=w.output->(∀k,k≠w.heap.size->k<w.heap.size->w'.heap[k]?=w.heap[k]?) ->
   cur.size=grownCap w (n+1) c 9->cur.toList.take (n+1)=(zqY L i s).map Value.string->Own B w' zai 1 (some ⟨w.heap.size,0,none⟩) (n+1) (grownCap w (n+1) c 9) ((zqY L i s).map Value.string)/\zbN w w' q (some ⟨w.heap.size,0,none⟩):=by
  intro cur w' h1 h2 h3 h4 h5 h6 h7 h8
  have hge:=grownCap_ge w (n+1) c 9
  refine⟨⟨by rw[List.length_map,zrP (by omega),hn,Nat.mul_one],.inr ⟨w.heap.size,_,cur,rfl,hBw,h1,hge,grownCap_le_maxLen w (n+1) c 9 (by simp only[maxLen];omega),by rw[Nat.mul_one];exact h7,by rw[Nat.mul_one];exact h8⟩⟩,⟨⟨h3,h4,h5,by omega,fun k hk _=>h6 k (by omega) hk⟩,.inr fun x hx=>?_⟩⟩
  obtain rfl:=Option.some.inj hx;exact Nat.le_refl _
 have room:∀{g:Nat}(cur:Array Value)(w':World),q=some ⟨g,0,none⟩->B<=g->w'.heap[g]?=some (.cells cur zai (0,0))->cur.size=c->c<=maxLen->n+1<=c->zbN w w' (some ⟨g,0,none⟩) (some ⟨g,0,none⟩)->cur.toList.take (n+1)=(zqY L i s).map Value.string ->
   Own B w' zai 1 q (n+1) c ((zqY L i s).map Value.string)/\zbN w w' q q:=by
  intro g cur w' hq hg h1 h2 h3 h4 h5 h6
  subst hq
  exact⟨⟨by rw[List.length_map,zrP (by omega),hn,Nat.mul_one],.inr ⟨g,_,cur,rfl,hg,h1,h4,h3,by rw[Nat.mul_one];exact h2,by rw[Nat.mul_one];exact h6⟩⟩,h5⟩
 have hend:i=n->(zqY L i s).map Value.string=L.map Value.string++[.string s]:=fun h=>by
  unfold zqY
  rw[h,hn]
  simp
 have egrow:i=n->∀(base:Option Addr),base=q->c<n+1->(base=none->n=0)->Calls Tryz.prog zbi #[.slice base n c,.int .i64 i,.slice (some ⟨vb,0,none⟩) 1 vc] w fun e w'=>∃v,e=.returned v/\∃q' d,v=.slice q' (n+1) d/\Own B w' zai 1 q' (n+1) d ((zqY L i s).map Value.string)/\zbN w w' q q':=by
  intro hin base hb hroom hnil
  subst hin hb
  refine(Tryz.slices_Insert_string_end_grow base i c vb 0 1 vc (L.map Value.string) [.string s] w (by omega) ho.le.1 hroom (by omega) hcl rfl hnil (fun a ha j v hj=>by
   have:=ho.cells j v hj
   rw[ha] at this
   exact this) hvs' h1v).mono fun e w' ⟨h1,h2⟩=>⟨_,h1,_,_,rfl,?_⟩
  have hge:=grownCap_ge w (i+1) c 9
  subst h2
  refine grow _ _ (heap_alloc_new w.drew _) (by simp) rfl rfl rfl (fun k _ hk=>World.grownBy_alloc w.drew _ none |>.block k hk (by simp)) ?_ ?_
  ·simp only[Array.size_append,List.size_toArray,List.length_append,List.length_map,size_zeroCells,List.length_singleton]
   show L.length+1+_*1=_
   omega
  ·rw[hend rfl]
   simp only[Array.toList_append]
   rw[List.take_left' (by simp[hn])]
 cases hq:q with
 |none =>
  subst hq
  obtain⟨hn0,hc0⟩:n=0/\c=0:=by
   rcases ho.2 with⟨hv,h⟩|⟨g,cap,cur,hv,_⟩
   ·simp at hv;exact⟨h,hv.2⟩
   ·simp at hv
  exact egrow (by omega) none rfl (by omega) fun _=>hn0
 |some a =>
  obtain⟨g,cur,e1,hg,hh,hnc,hcm,hcs,htk⟩:=zCH ho (by rw[hq];simp)
  have ea:a=⟨g,0,none⟩:=by rw[hq] at e1;exact Option.some.inj e1
  subst ea
  have hvb:vb≠g:=fun h=>ap ⟨g,0,none⟩ ⟨vb,0,none⟩ hq rfl h.symm
  have hcells:∀j v,(L.map Value.string)[j]?=some v->w.cell? ⟨g,0+j,none⟩=some v:=fun j v hj=>by
   have:=ho.cells j v hj
   rw[hq] at this
   have e:(⟨g,0,none⟩:Addr).add j=⟨g,0+j,none⟩:=by unfold Addr.add;split<;>simp_all
   unfold Go.Sx.cell at this
   simp only[Option.bind_some] at this
   rwa [e] at this
  have hcurl:cur.toList.length=c:=by rw[Array.length_toList,hcs]
  have hspl:cur.toList=L.map Value.string++cur.toList.drop n:=by rw[<-htk,List.take_append_drop]
  by_cases hin:i=n
  ·by_cases hroom:n+1<=c
   ·subst hin
    refine(Tryz.slices_Insert_string_end_room g 0 i c vb 0 1 vc [.string s] w (by omega) hroom (by simp only[maxLen] at hcm;omega) rfl (fun j hj=>by rw[Nat.zero_add,show(⟨g,i+j,none⟩:Addr)=⟨g,0+(i+j),none⟩ by rw[Nat.zero_add],zxM hh (by omega)];rfl) (fun j _=>zxN hh _) hvs' h1v).mono fun e w' ⟨h1,h2⟩=>⟨_,h1,_,_,rfl,?_⟩
    rw[Nat.zero_add] at h2
    subst h2
    obtain⟨cur',k1,k2,k3,_⟩:=zca [.string s] i w cur hh (by rw[List.length_singleton];omega)
    rw[<-hq]
    refine room cur' _ hq hg k1 (k3.trans hcs) hcm hroom (zhv hh (by rw[List.length_singleton];omega)) ?_
    rw[hend rfl,k2,zjb _ _ _ (by rw[List.length_singleton];omega),htk,List.take_left' (by simp[hn])]
   ·have:=egrow hin q rfl (by omega) (fun h=>by rw[hq] at h;cases h)
    rw[hq] at this
    exact this
  ·have hlt:i<n:=by omega
   have hLd:((L.map Value.string).drop i).length=n-i:=by rw[List.length_drop,hcl]
   by_cases hroom:n+1<=c
   ·refine(Tryz.slices_Insert_string_shift g 0 n c i vb 0 1 vc (L.map Value.string) [.string s] w hlt (by omega) hroom (by simp only[maxLen] at hcm;omega) hvb hcl rfl hcells (fun j hj=>by rw[zxM hh (by omega)];rfl) (fun j _=>zxN hh _) hvs' h1c h1v _ _ _ _ (ztn hvh) (ztn hh) (by omega) (zxN hvh _) (zxN hvh _)).mono fun e w' ⟨h1,h2⟩=>⟨_,h1,_,_,rfl,?_⟩
    rw[Nat.zero_add,Nat.zero_add] at h2
    subst h2
    have hh':w.drew.heap[g]?=some (.cells cur zai (0,0)):=hh
    have hle1:i+1+((L.map Value.string).drop i).length<=cur.size:=by omega
    obtain⟨cur1,k1,k2,k3,_⟩:=zca ((L.map Value.string).drop i) (i+1) w.drew cur hh' hle1
    obtain⟨cur2,m1,m2,m3,_⟩:=zca [.string s] i (w.drew.setCells g (i+1) ((L.map Value.string).drop i)) cur1 k1 (by rw[List.length_singleton];omega)
    rw[<-hq]
    have g1:zbN w (w.drew.setCells g (i+1) ((L.map Value.string).drop i)) (some ⟨g,0,none⟩) (some ⟨g,0,none⟩):=by
     have:=zhv hh' hle1
     exact⟨⟨this.by_.os,this.by_.tape,this.by_.output,this.by_.size,this.by_.block⟩,.inl rfl⟩
    refine room cur2 _ hq hg m1 (m3.trans (k3.trans hcs)) hcm hroom (zbN.then_ g1 (zhv k1 (by rw[List.length_singleton];omega))) ?_
    have hk2l:(zct cur.toList (i+1) ((L.map Value.string).drop i)).length=c:=by rw[ziJ,hcurl]
    rw[m2,k2,zjb _ [.string s] i (by rw[hk2l,List.length_singleton];omega),zjb cur.toList _ _ (by rw[hcurl];omega)]
    have ht1:cur.toList.take (i+1)=(L.map Value.string).take (i+1):=by rw[<-htk,List.take_take,Nat.min_eq_left (by omega)]
    rw[ht1]
    have hl1:((L.map Value.string).take (i+1)).length=i+1:=by rw[List.length_take,hcl];omega
    rw[List.append_assoc ((L.map Value.string).take (i+1)),List.take_append_of_le_length (l₁:=(L.map Value.string).take (i+1)) (i:=i) (by omega),List.take_take,Nat.min_eq_left (Nat.le_succ i),List.length_singleton,List.drop_left' hl1]
    unfold zqY
    rw[List.map_append,List.map_cons,List.map_take,List.map_drop]
    have hl0:((L.map Value.string).take i).length=i:=by rw[List.length_take,hcl];omega
    rw[show(L.map Value.string).take i++[Value.string s]++((L.map Value.string).drop i++cur.toList.drop (i+1+((L.map Value.string).drop i).length))=((L.map Value.string).take i++Value.string s::(L.map Value.string).drop i)++cur.toList.drop (i+1+((L.map Value.string).drop i).length) by simp]
    exact List.take_left' (by rw[List.length_append,hl0,List.length_cons,hLd];omega)
   ·refine(Tryz.slices_Insert_string_grow g 0 n c i vb 0 1 vc (L.map Value.string) [.string s] w hlt (by omega) hnc (by omega) (by omega) hcl rfl hcells hvs' h1c h1v).mono fun e w' ⟨h1,h2⟩=>⟨_,h1,_,_,rfl,?_⟩
    have hge:=grownCap_ge w (n+1) c 9
    rw[<-hq]
    obtain⟨A0,hA0d⟩:∃A0:Array Value,A0=((L.map Value.string).take i).toArray++Builtin.zeroCells (Value.string ⟨#[]⟩).cells (n+1-i)++Builtin.zeroCells (Value.string ⟨#[]⟩).cells (grownCap w (n+1) c 9-(n+1)):=⟨_,rfl⟩
    rw[<-hA0d] at h2
    have hA0:A0.size=grownCap w (n+1) c 9:=by
     rw[hA0d]
     simp only[Array.size_append,List.size_toArray,List.length_take,size_zeroCells,hcl]
     show min i n+_*1+_*1=_
     omega
    have hal:(w.alloc (.cells A0 9)).drew.heap[w.heap.size]?=some (.cells A0 zai (0,0)):=heap_alloc_new w _
    obtain⟨cur1,k1,k2,k3,k4,k5,k6,k7,k8⟩:=zca [.string s] i (w.alloc (.cells A0 9)).drew A0 hal (by rw[List.length_singleton];omega)
    obtain⟨cur2,m1,m2,m3,m4,m5,m6,m7,m8⟩:=zca ((L.map Value.string).drop i) (i+1) (((w.alloc (.cells A0 9)).drew.setCells w.heap.size i [.string s]).drew) cur1 k1 (by omega)
    subst h2
    refine grow cur2 _ m1 (m5.trans (k5.trans (by simp[World.drew]))) (m6.trans k6) (m7.trans k7) (m8.trans k8) (fun k hk hk2=>(m4 k hk).trans ((k4 k hk).trans (World.grownBy_alloc w _ none |>.block k hk2 (by simp)))) (m3.trans (k3.trans hA0)) ?_
    have hA0l:A0.toList.length=A0.size:=Array.length_toList
    have hk1l:(zct A0.toList i [.string s]).length=A0.size:=by rw[ziJ,hA0l]
    rw[m2,k2,zjb _ _ (i+1) (by rw[hk1l];omega),zjb A0.toList [.string s] i (by rw[hA0l,List.length_singleton];omega)]
    have hl0:((L.map Value.string).take i).length=i:=by rw[List.length_take,hcl];omega
    have ht0:A0.toList.take i=(L.map Value.string).take i:=by
     rw[hA0d]
     simp only[Array.toList_append]
     rw[List.append_assoc,List.take_left' hl0]
    rw[ht0,List.length_singleton,show List.take (i+1) ((L.map Value.string).take i++[Value.string s]++A0.toList.drop (i+1))=(L.map Value.string).take i++[Value.string s] from List.take_left' (by rw[List.length_append,hl0,List.length_singleton])]
    unfold zqY
    rw[List.map_append,List.map_cons,List.map_take,List.map_drop]
    rw[List.take_left' (by rw[List.length_append,List.length_append,hl0,List.length_singleton,hLd];omega)]
    simp
end
theorem zzw(p:Option Addr)(l c:Nat)(xs:List Int)(hl:xs.length=l)(h63:l<=1000000)(w:World)(hx:zdJ .i64 w p xs) :
  FnP Tryz.prog zaL #[.slice p l c,.func (.func zck) #[] #[]] w fun v w'=>Ext w w'/\∃t,v=.int .i64 t/\(0<=t↔∃x∈xs,x≠0):=by
 refine zcA p l c _ w _ ?_
 refine⟨fun k w'=>Ext w w'/\0<=k/\k<=l/\∀(i:Nat) x,xs[i]?=some x->(i:Int)<k->x=0,fun k _=>(l-k).toNat,⟨Ext.refl w,by omega,by omega,fun i x _ h=>by omega⟩,?_⟩
 intro k w2 ⟨hw,hk0,hk1,hz⟩
 refine⟨fun hlt=>⟨?_,hk0,hlt,_,zdJ.idx (hx.ext hw) hk0 (by rw[hl];exact hlt),fun w4 h4=>?_⟩,fun hge w3 h3=>⟨hw.trans h3,_,rfl,?_⟩⟩
 ·exact hx.ne (by intro h;simp at h;subst h;simp at hl;omega)
 ·refine⟨_,_,rfl,(zhn _ w4 _ (fun w5 h5=>⟨h5,_,rfl,?_⟩))⟩
  have hget:xs[k.toNat]?=some (xs.getD k.toNat 0):=by
   have:k.toNat<xs.length:=by omega
   simp[this,List.getD_eq_getElem?_getD]
  refine⟨fun ht w7 h7=>⟨hw.trans h7,_,rfl,?_⟩,fun ht=>⟨i64 (by omega),⟨hw,by omega,by omega,fun i x hi hlt'=>?_⟩,by simp only[];omega⟩⟩
  ·exact⟨fun _=>⟨_,List.mem_of_getElem? hget,by simpa using ht⟩,fun _=>hk0⟩
  ·by_cases h:(i:Int)<k
   ·exact hz i x hi h
   ·obtain rfl:i=k.toNat:=by omega
    rw[hget] at hi
    obtain rfl:=Option.some.inj hi
    simpa using ht
 ·constructor
  ·intro h;omega
  ·rintro⟨x,hm,hne⟩
   obtain⟨i,hi⟩:=List.mem_iff_getElem?.1 hm
   have:=(List.getElem?_eq_some_iff.1 hi).1
   exact absurd (hz i x hi (by omega)) hne
theorem zEP(p:Option Addr)(l c:Nat)(xs:List Int)(hl:xs.length=l)(h63:l<=1000000)(w:World)(hx:zdJ .i64 w p xs) :
  FnP Tryz.prog zbP #[.slice p l c] w fun v w'=>Ext w w'/\v=.bool (decide (∀x∈xs,x=0)):=by
 refine ziE p l c w _ ?_
 intro w0 h0
 refine(zcb p l c _ w0 _ ?_:FnP Tryz.prog zaD #[.slice p l c,.func (.func zck) #[] #[]] w0 _)
 intro w1 h1
 refine(zzw p l c xs hl h63 w1 ((hx.ext h0).ext h1)).mono fun v w2 ⟨e2,t,hv,ht⟩=>⟨e2,t,hv,fun w3 h3=>⟨h3,_,rfl,fun w4 h4=>⟨h4,?_⟩⟩⟩
 congr 1
 rw[Bool.eq_iff_iff]
 simp only[Bool.not_eq_true',decide_eq_false_iff_not,decide_eq_true_eq,ht,ne_eq,not_exists,not_and,Classical.not_not]
theorem zzv{w:World}(xs:List Int){n:Nat}{parts:List (Nat×Value)}{K:Bool->World->Prop}(hp:parts=zkb 0 (xs.map (.int .i64)))(hn:n=xs.length)(h0:0<n)(h63:n<=1000)
  (hk:∀w2,Ext w w2->K (decide (∀x∈xs,x=0)) w2) :
  ∀w1,Ext w w1->Run Tryz.prog (.buildSlice zzd n parts) w1 fun v2 w2=>Ext w1 w2/\∃q:Option Addr,∃m:Nat,∃d:Nat,v2=.slice q m d/\∀w3,Ext w2 w3 ->
   FnP Tryz.prog zbP #[.slice q m d] w3 fun v4 w4=>Ext w3 w4/\∃t:Bool,v4=.bool t/\K t w2:=by
 intro w1 e1
 refine zbY zrD (xs.map (.int .i64)) hp (by simpa using hn) (by intro v hv;simp at hv;obtain⟨x,_,rfl⟩:=hv;rfl) (by omega) (by omega) fun w2 o2 e2=>⟨e2,_,_,_,rfl,fun w3 e3=>?_⟩
 have o3:=((o2 w1.heap.size (Nat.le_refl _)).ext e3).cells
 have hcs:(List.map (Value.int IntKind.i64) xs).flatMap (fun v=>v.cells.toList)=xs.map (.int .i64):=by
  clear hp hn h0 hk o2 o3
  induction xs with
  |nil => rfl
  |cons a r ih => simp only[List.map_cons,List.flatMap_cons,ih];rfl
 rw[hcs] at o3
 exact(zEP _ n n xs hn.symm (by omega) w3 o3).mono fun v w4 ⟨h4,hv⟩=>⟨h4,_,hv,hk w2 (e1.trans e2)⟩
theorem ins_at{L:List ByteArray}{i:Nat}{s:ByteArray}(h:i<=L.length):(zqY L i s)[i]?=some s:=by
 unfold zqY
 rw[List.getElem?_append_right (by rw[List.length_take];omega),List.length_take,Nat.min_eq_left h,Nat.sub_self]
 rfl
theorem zB2{L:List ByteArray}{i:Nat}{s:ByteArray}(h:i<=L.length):(zqY L i s).eraseIdx i=L:=by
 unfold zqY
 rw[List.eraseIdx_append_of_length_le (by rw[List.length_take];omega),List.length_take,Nat.min_eq_left h,Nat.sub_self]
 simp
theorem zIT{L:List ByteArray}{i:Nat}{s x:ByteArray}(h:x∈zqY L i s):x=s\/x∈L:=by
 unfold zqY at h
 rcases List.mem_append.1 h with h|h
 ·exact .inr (List.mem_of_mem_take h)
 ·rcases List.mem_cons.1 h with h|h
  ·exact .inl h
  ·exact .inr (List.mem_of_mem_drop h)
theorem zA8(W:World)(g:GD W){l:Option Addr}{ll lc:Nat}(hl:zbA Tryz.prog W zai l ll lc)(s:ByteArray)(hss:s.size<=1048576)(k:Int)(hk:InR .i64 k)(hb:zkw W l ll) :
  FnP Tryz.prog zbS #[.slice l ll lc,.string s,.int .i64 k] W fun v W'=>v=.bool true/\Ext W W':=by
 obtain⟨L,rfl,h63,hcap,hL⟩:=zsH hl
 have hs:=hb.all hL
 have hsz:=zwg g
 refine zga l L.length lc s k W _ fun w0 x0=>(zvX w0 (g.ext x0) (Nat.le_trans hsz x0.size)).mono fun v w1 ⟨e1,hv⟩=>⟨e1,true,hv,fun h=>(by cases h),fun _=>⟨fun _=>by omega,fun _=>by omega,fun h=>h.2,fun _ _=>by omega,fun _ _=>by omega,fun h _=>h.2,fun _ _=>by omega,fun _ _=>by omega,fun h _=>h.2,fun _ w3 x3=>⟨rfl,x3⟩,fun hin w3 x3=>?_⟩⟩
 obtain⟨⟨⟨⟨h49,h0⟩,hkl⟩,_⟩,hform⟩:=hin
 obtain⟨i,rfl⟩:∃i:Nat,k=i:=⟨k.toNat,by omega⟩
 have hi:i<=L.length:=by omega
 refine(zob dR L l lc w3 (g.ext x3) (Nat.le_trans hsz x3.size) (hL.ext x3) (by omega) hs (fun x _=>zgu x)).mono fun v w4 ⟨e4,hor⟩=>?_
 have x4:=x3.trans e4
 rcases hor with⟨hbig,_⟩|⟨hsm,us,σ,q,d,hv,hp,oU⟩
 ·omega
 have hul:=(zaQ.of hp).len
 refine⟨q,L.length,d,0,hv,fun w9 x9=>?_⟩
 have x9':=x4.trans x9
 refine(zxv l lc L (by omega) w9 (hL.ext x9')).mono fun v w10 ⟨e10,q2,c2,hv,o10⟩=>⟨e10,q2,_,c2,hv,fun w14 x14=>?_⟩
 refine zbY zaZ [.string s] rfl rfl (fun u hu=>by simp at hu;subst hu;rfl) (by omega) (by omega) fun w15 o15 e15=>⟨e15,_,_,_,rfl,fun w19 x19=>?_⟩
 have x14':=(x9'.trans e10).trans x14
 have x19':=(x14'.trans e15).trans x19
 have o19:=(((o10.weak x9'.size).ext x14).ext e15).ext x19
 have v19:Own 0 w19 zai 1 (some ⟨w14.heap.size,0,none⟩) 1 1 [.string s]:=by
  have:=(o15 0 (Nat.zero_le _)).ext x19
  simpa[Value.cells] using this
 refine(zAG o19 rfl v19 (fun a b ha hb h=>by cases hb;have:=(o10.lt a ha).2;have:=x14.size;simp only at h;omega) hi (by omega) (by have:=x19'.size;omega)).mono fun v w20 ⟨q3,d3,hv,o20,g20⟩=>⟨q3,_,d3,hv,fun w24 x24=>?_⟩
 have x20:Ext W w20:=g20.ext x19' o19
 have ap:zbo q q2:=fun a b ha hb h=>by have:=(oU.lt a ha).2;have:=(o10.lt b hb).1;have:=x9.size;omega
 have oU20:=(((((oU.weak x3.size).ext x9).ext e10).ext x14).ext e15 |>.ext x19).st ap g20
 have x24':=x20.trans x24
 have hil:=zrP (s:=s) hi
 rw[<-hil] at o20 ⊢
 refine(zob dR (zqY L i s) q3 d3 w24 (g.ext x24') (Nat.le_trans hsz x24'.size) (o20.cells.ext x24) (by omega) (fun x hx=>by
  rcases zIT hx with rfl|hx
  ·omega
  ·exact hs x hx) (fun x _=>zgu x)).mono fun v w25 ⟨e25,hor⟩=>?_
 rcases hor with⟨hbig,_⟩|⟨_,vs,τ,q4,d4,hv,hp2,oV⟩
 ·omega
 have hvl:=(zaQ.of hp2).len
 refine⟨q4,_,d4,0,hv,zzv [0,0] rfl rfl (by omega) (by omega) fun w31 x31=>?_⟩
 have hd:decide (∀x∈[(0:Int),0],x=0)=true:=by decide
 rw[hd]
 refine⟨fun _=>i64 (by omega),fun h=>?_,fun _=>⟨i64 (by omega),fun w38 x38=>?_⟩⟩
 ·rcases h with h|h
  ·cases h
  ·omega
 have x31':=(x24'.trans e25).trans x31
 have oV38:=(oV.ext x31).ext x38
 refine(zn7 _ q4 _ d4 vs hvl.symm (i:Int) (by omega) (by omega) w38 oV38 (by omega)).mono fun v w39 ⟨m,d39,hv,hm,o39,g39⟩=>⟨q4,m,d39,hv,fun w43 x43=>?_⟩
 have ap2:zbo q q4:=fun a b ha hb h=>by have:=(oV.lt b hb).1;have:=(oU20.lt a ha).2;have:=x24.size;omega
 have oU39:=((((oU20.ext x24).ext e25).ext x31).ext x38).st ap2 g39
 have x39:Ext W w39:=g39.ext (x31'.trans x38) (oV38.weak x24'.size)
 have huv:us=vs.eraseIdx i:=zrd (by omega) (zaQ.of hp2) (by rw[zB2 hi];exact zaQ.of hp) fun τ a τ' _ hd=>by
  have e:(zqY L i s)[i]'(by omega)=s:=(List.getElem?_eq_some_iff.1 (ins_at hi)).2
  rw[e] at hd
  exact zIi (or_assoc.1 hform) hd
 subst hm
 rw[<-hul]
 refine(znA q q4 d d39 us (vs.eraseIdx (i:Int).toNat) (by omega) w43 (oU39.cells.ext x43) (o39.cells.ext x43)).mono fun v w44 ⟨e44,hv⟩=>⟨e44,_,hv,fun w46 x46=>⟨by simp[<-huv],x39.trans x46⟩⟩
theorem zEK(W:World)(hg:GD W)(l:Option Addr)(ll lc:Nat)(hl:zbA Tryz.prog W 9 l ll lc)(s:ByteArray)(hss:s.size<=1048576)(k:Int)(hk:InR .i64 k)(hb:zkw W l ll) :
 FnP Tryz.prog zbS #[.slice l ll lc,.string s,.int .i64 k] W fun v W'=>v=.bool true/\Ext W W':=zA8 W hg hl s hss k hk hb
end Go.Proofs.YtcceeahmcecbnaaGreatDoor
