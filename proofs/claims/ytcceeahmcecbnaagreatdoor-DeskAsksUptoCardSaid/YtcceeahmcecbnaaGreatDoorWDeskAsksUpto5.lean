/- The framework, the program's texts and what is shown of them: part 5. -/
import Derived.Test.YtcceeahmcecbnaaGreatDoorWDeskAsksUpto4
import Derived.Test.YtcceeahmcecbnaaGreatDoorRows
import Derived.Shelf.Spec.TrailingZeros
set_option linter.unusedVariables false
set_option linter.unusedSimpArgs false
set_option maxRecDepth 100000
namespace Go.Proofs.YtcceeahmcecbnaaGreatDoor
open Go.Sx Go.RowKit
def zIw:Int->Value:=Value.int .i64
theorem kq:zAp Tryz.prog zg3 zIw (.int .i64):=zFt (by kernel_rfl)
theorem mapq:Tryz.prog.underlying zf0=some (.map zg3 za4):=by kernel_rfl
def Rel(H:List Th)(m:List (Int×Value)):Prop:=(∀t∈H,zhZ m t.id=some (pv t))/\∀id v,zhZ m id=some v->∃t∈H,t.id=id/\v=pv t
structure QQ(B:Nat)(w:World)(qb mb:Nat)(born:Int)(p:Option Addr)(c:Nat)(H:List Th)(m:List (Int×Value)):Prop where
 qi:QI B w qb (.map (some mb)) (.int .i64 born) p c H
 mp:zcW zIw w mb m
 hp:Hp H H.length
 mB:B<=mb
 mf:¬ziY qb p H mb
def zhW(mb qb:Nat)(p:Option Addr)(H:List Th)(b:Nat):Prop:=b=mb\/ziY qb p H b
section
variable {B qb mb:Nat} {born:Int} {p:Option Addr} {c:Nat} {H:List Th} {m:List (Int×Value)} {w:World}
theorem QQ.ext{w':World}(q:QQ B w qb mb born p c H m)(h:Ext w w'):QQ B w' qb mb born p c H m:=⟨q.qi.ext h,q.mp.ext h,q.hp,q.mB,q.mf⟩
theorem QQ.fr{S:Nat->Prop}{w':World}(q:QQ B w qb mb born p c H m)(h:Fr S w w')(hs:∀b,zhW mb qb p H b->¬S b):QQ B w' qb mb born p c H m:=⟨q.qi.fr h fun b hb=>hs b (.inr hb),q.mp.fr h (hs _ (.inl rfl)),q.hp,q.mB,q.mf⟩
theorem QQ.foot(q:QQ B w qb mb born p c H m){b:Nat}(h:zhW mb qb p H b):B<=b/\b<w.heap.size:=by
 rcases h with rfl|h
 ·exact⟨q.mB,q.mp.lt⟩
 ·exact q.qi.foot h
theorem QI.reslot{x y y':Value}{w':World}(q:QI B w qb x y p c H)(o:Own B w' zkx 3 (ptr qb) 1 1 [.slice p H.length c,x,y'])(g:zbN w w' (ptr qb) (ptr qb)):QI B w' qb x y' p c H :=
 ⟨o,q.arr.st (fun u v hu qhv=>by cases qhv;exact(q.ap u hu).1) g,fun k hk=>(q.th k hk).st (zbW (q.aq k hk)) g,q.inj,q.aq,q.ap⟩
theorem qnew_k:FnP Tryz.prog zjN #[] w fun v w'=>Ext w w'/\∃qb mb,v=.pointer (ptr qb)/\w.heap.size<=qb/\∀B,B<=w.heap.size->QQ B w' qb mb 0 none 0 [] []:=by
 refine zuz w _ fun w0 h0=>zkf (enc:=zIw) fun w1 m1 e1=>⟨e1,_,rfl,rfl,fun w3 h3=>zbv (by simp[Value.oneCell']) fun w4 o4 e4 w5 h5=>⟨(((h0.trans e1).trans h3).trans e4).trans h5,w3.heap.size,w0.heap.size,rfl,?_,fun B hB=>?_⟩⟩
 ·exact Nat.le_trans (Nat.le_trans h0.size e1.size) h3.size
 ·have hm:=m1.lt
  refine QQ.ext ⟨⟨o4 B (Nat.le_trans (Nat.le_trans (Nat.le_trans hB h0.size) e1.size) h3.size),Own.nil,fun k hk=>by simp at hk,fun i k hi=>by simp at hi,fun i hi=>by simp at hi,fun a ha=>by cases ha⟩,(m1.ext h3).ext e4,fun k k1 kn=>by simp at kn,Nat.le_trans hB h0.size,?_⟩ h5
  rintro (h|⟨a,ha,_⟩|⟨t,ht,_⟩)
  ·have:=h3.size;omega
  ·cases ha
  ·cases ht
theorem zFX(hr:Rel H m)(id:Int):∃t3:Option Addr,(zhZ m id).getD (.pointer none)=.pointer t3/\(t3=none↔∀t∈H,t.id≠id)/\(t3≠none->∃t∈H,t.id=id/\t3=ptr t.b):=by
 cases hm:zhZ m id with
 |none =>
  refine⟨none,rfl,⟨fun _ t ht he=>?_,fun _=>rfl⟩,fun h=>absurd rfl h⟩
  have:=hr.1 t ht;rw[he,hm] at this;cases this
 |some v =>
  obtain⟨t,ht,he,rfl⟩:=hr.2 id v hm
  exact⟨ptr t.b,rfl,⟨fun h=>absurd h (zaG _),fun h=>absurd he (h t ht)⟩,fun _=>⟨t,ht,he,rfl⟩⟩
theorem zJu{t:Th}{Y:List Th}(hr:Rel H m)(hn:∀u∈H,u.id≠t.id)(hp:Y.Perm (t::H)):Rel Y (zpK m t.id (pv t)):=by
 refine⟨fun u hu=>?_,fun id v qhv=>?_⟩
 ·rw[zkW]
  rcases List.mem_cons.1 (hp.mem_iff.1 hu) with rfl|h
  ·rw[if_pos rfl]
  ·rw[if_neg (Ne.symm (hn u h))];exact hr.1 u h
 ·rw[zkW] at qhv
  split at qhv
  ·rename_i h
   exact⟨t,hp.mem_iff.2 (List.mem_cons_self ..),h,(Option.some.inj qhv).symm⟩
  ·obtain⟨u,hu,h1,h2⟩:=hr.2 id v qhv
   exact⟨u,hp.mem_iff.2 (List.mem_cons_of_mem _ hu),h1,h2⟩
def Ids(H:List Th):Prop:=(H.map (·.id)).Nodup
theorem zJt{t:Th}{Y:List Th}(hr:Rel H m)(hn:(zdm m).Nodup)(hi:Ids H)(hp:(t::Y).Perm H):Rel Y (zt6 m t.id)/\Ids Y:=by
 have h1:((t::Y).map (·.id)).Nodup:=(hp.map _).nodup_iff.2 hi
 simp only[List.map_cons,List.nodup_cons] at h1
 have hne:∀u∈Y,u.id≠t.id:=fun u hu he=>h1.1 (by rw[<-he];exact List.mem_map_of_mem hu)
 refine⟨⟨fun u hu=>?_,fun id v qhv=>?_⟩,h1.2⟩
 ·rw[zt7 m hn,if_neg (Ne.symm (hne u hu))]
  exact hr.1 u (hp.mem_iff.1 (List.mem_cons_of_mem _ hu))
 ·rw[zt7 m hn] at qhv
  split at qhv
  ·cases qhv
  ·rename_i h
   obtain⟨u,hu,h2,h3⟩:=hr.2 id v qhv
   rcases List.mem_cons.1 (hp.mem_iff.2 hu) with rfl|hy
   ·exact absurd h2 h
   ·exact⟨u,hy,h2,h3⟩
theorem qput_k(q:QQ B w qb mb born p c H m)(hr:Rel H m)(hn:H.length<=200)(hb:-1<=born/\born<=1000000000)(hB:B<=w.heap.size)(prio id:Int) :
  FnP Tryz.prog zdW #[.pointer (ptr qb),.int .i64 prio,.int .i64 id] w fun v w'=>∃e:Int,v=.int .i64 e /\
   (e≠0->Ext w w'/\((∃t∈H,t.id=id)/\e=6\/H.length=200/\e=7)) /\
   (e=0->(∀t∈H,t.id≠id)/\H.length≠200/\∃b p' c' Y,QQ B w' qb mb (born+1) p' c' Y (zpK m id (pv ⟨b,prio,id,born+1⟩))/\Y.Perm (⟨b,prio,id,born+1⟩::H)/\Fr (zhW mb qb p H) w w' /\
    (∀k,zhW mb qb p' Y k->zhW mb qb p H k\/w.heap.size<=k)):=by
 obtain⟨t3,e3,hnone,hsome⟩:=zFX hr id
 have ne:=zaG qb
 refine zlb (ptr qb) prio id w _ ⟨ne,ne,_,q.qi.slot.cellAt0 (i:=1) rfl,fun w1 h1=>zF4 kq mapq zha (a:=id) (q.mp.ext h1) ⟨Ext.refl _,t3,e3,fun hs w4 h4=>⟨_,rfl,fun _=>⟨h1.trans h4,.inl ⟨?_,rfl⟩⟩,fun h=>by cases h⟩,fun hs=>⟨ne,ne,_,_,_,(q.ext h1).qi.slot.cellAt0 (i:=0) rfl,fun h200 w7 h7=>⟨_,rfl,fun _=>⟨h1.trans h7,.inr ⟨by omega,rfl⟩⟩,fun h=>by cases h⟩,fun h200=>?_⟩⟩⟩
 ·obtain⟨t,ht,he,_⟩:=hsome hs;exact⟨t,ht,he⟩
 have q1:=q.ext h1
 refine⟨ne,ne,_,q1.qi.slot.cellAt0 (i:=2) rfl,i64 (by omega),ne,ne,?_⟩
 refine zcd q1.qi.slot (by simp) rfl (by simp) fun w8 o8 g8=>⟨ne,ne,_,o8.cellAt0 (i:=2) rfl,fun w10 h10=>?_⟩
 have qi8:=q1.qi.reslot (y':=.int .i64 (born+1)) o8 g8
 have m8:=q1.mp.grew (p:=ptr qb) (q:=ptr qb) (fun x hx=>by cases hx;exact fun h=>q.mf (.inl h.symm)) g8
 have f8:Fr (zhW mb qb p H) w w8:=(zac h1).tr (zaR g8 fun a ha=>by cases ha;exact .inr (.inl rfl))
 refine zbv (by simp[Value.oneCell']) fun w11 o11 e11=>⟨ne,ne,_,((qi8.ext h10).ext e11).slot.cellAt0 (i:=1) rfl,fun w13 h13=>?_⟩
 have sz10:w.heap.size<=w10.heap.size:=Nat.le_trans f8.size h10.size
 have o11:=o11 B (Nat.le_trans hB sz10)
 have t13:=o11.ext h13
 have qi13:=((qi8.ext h10).ext e11).ext h13
 have f13:Fr (zhW mb qb p H) w w13:=((f8.tr (zac h10)).tr (zac e11)).tr (zac h13)
 have hfr:¬zhW mb qb p H w10.heap.size:=fun h=>by have:=(q.foot h).2;omega
 refine zhs kq mapq (a:=id) (((m8.ext h10).ext e11).ext h13) fun w14 m14 g14=>⟨ne,ne,fun w15 h15=>?_⟩
 have g14':Fr (fun b=>b=mb) w13 w14:=zaR g14 fun a ha=>by cases ha;rfl
 have qi14:=qi13.fr g14' fun b hb h=>q.mf (h▸hb)
 have t14:=t13.fr g14' fun a ha h=>by cases ha;exact hfr (.inl h)
 rw[zaM]
 refine zfm (d:=.pointer zdZ) (by kernel_rfl) (by simp) ⟨Ext.refl _,_,rfl,fun w18 h18=>zfm (d:=.pointer zak) (by kernel_rfl) (by simp) ⟨Ext.refl _,_,rfl,fun w21 h21=>?_⟩⟩
 have qi21:=((qi14.ext h15).ext h18).ext h21
 have t21:=((t14.ext h15).ext h18).ext h21
 have f21:Fr (zhW mb qb p H) w w21:=(((f13.tr (g14'.mono fun b hb=>.inl hb)).tr (zac h15)).tr (zac h18)).tr (zac h21)
 refine(zwj (t:=⟨w10.heap.size,prio,id,born+1⟩) (j:=0) qi21 q.hp (by omega) (Nat.le_trans hB f21.size) t21 fun h=>hfr (.inr h)).mono fun v w22 ⟨qhv,p',c',Y,qi22,hp,hh,f22,np⟩=>⟨qhv,fun w23 h23=>⟨0,rfl,fun h=>absurd rfl h,fun _=>⟨hnone.1 hs,by omega,w10.heap.size,p',c',Y,QQ.ext ⟨qi22,?_,hh,q.mB,?_⟩ h23,hp,?_,fun k hk=>?_⟩⟩⟩
 ·have m21:=((m14.ext h15).ext h18).ext h21
  refine m21.fr f22 ?_
  rintro (h|h|⟨t,ht,h⟩)
  ·exact q.mf (.inl h)
  ·exact q.mf (.inr (.inl h))
  ·rcases List.mem_cons.1 ht with rfl|ht
   ·exact hfr (.inl h)
   ·exact q.mf (.inr (.inr ⟨t,ht,h⟩))
 ·intro h
  rcases zow (fun u hu=>List.mem_cons.1 (hp.mem_iff.1 hu)) np mb h with h|h
  ·rcases h with h|h|⟨t,ht,h⟩
   ·exact q.mf (.inl h)
   ·exact q.mf (.inr (.inl h))
   ·rcases List.mem_cons.1 ht with rfl|ht
    ·exact hfr (.inl h)
    ·exact q.mf (.inr (.inr ⟨t,ht,h⟩))
  ·have:=((m14.ext h15).ext h18 |>.ext h21).lt;omega
 ·refine(f21.trans f22 fun b hb=>?_).tr (zac h23)
  rcases hb with h|h|⟨t,ht,h⟩
  ·exact .inl (.inr (.inl h))
  ·exact .inl (.inr (.inr (.inl h)))
  ·rcases List.mem_cons.1 ht with rfl|ht
   ·simp only at h;exact .inr (by omega)
   ·exact .inl (.inr (.inr (.inr ⟨t,ht,h⟩)))
 ·rcases hk with rfl|hk
  ·exact .inl (.inl rfl)
  ·rcases zow (fun u hu=>List.mem_cons.1 (hp.mem_iff.1 hu)) np k hk with h|h
   ·rcases h with h|h|⟨t,ht,h⟩
    ·exact .inl (.inr (.inl h))
    ·exact .inl (.inr (.inr (.inl h)))
    ·rcases List.mem_cons.1 ht with rfl|ht
     ·simp only at h;exact .inr (by omega)
     ·exact .inl (.inr (.inr (.inr ⟨t,ht,h⟩)))
   ·exact .inr (Nat.le_trans f21.size h)
theorem zJr(q:QQ B w qb mb born p c H m)(hn:H.length<=1000) :
  FnP Tryz.prog za0 #[.pointer (ptr qb)] w fun v w' =>
   (H=[]/\v=.tuple #[.agg #[.int .i64 0,.int .i64 0],.bool false]/\Ext w w') \/
   ∃t Y,v=.tuple #[.agg #[.int .i64 t.prio,.int .i64 t.id],.bool true]/\QQ B w' qb mb born p c Y (zt6 m t.id)/\(t::Y).Perm H/\(∀u∈H,¬ahead u t)/\Fr (zhW mb qb p H) w w':=by
 have ne:=zaG qb
 refine zka (ptr qb) w _ fun b0 hb0=>⟨ne,ne,_,_,_,q.qi.slot.cellAt0 (i:=0) rfl,fun h0 w4 h4=>.inl ⟨List.length_eq_zero_iff.1 (by omega),rfl,h4⟩,fun h0=>⟨ne,ne,fun w4 x4=>?_⟩⟩
 have h4:=zaa x4
 rw[zaM]
 refine zfm (d:=.pointer zdZ) (by kernel_rfl) (by simp) ⟨Ext.refl _,_,rfl,fun w7 x7=>?_⟩
 have h7:=zaa x7
 have q7:=(q.ext h4).ext h7
 have lt4:=x4.lt b0 (by simp)
 have nf:∀k,zhW mb qb p H k->k≠b0:=fun k hk h=>by have:=(q.foot hk).2;omega
 refine(zzM q7.qi q.hp (by omega) hn).mono fun v w8 ⟨t,j,Y,qhv,q8,hp,hh,hmin,ht,f8⟩=>⟨?_,v,rfl,fun w10 x10=>?_⟩
 ·refine f8.kept fun b hb=>?_
  obtain rfl:b=b0:=by simpa using hb
  exact⟨x7.lt b (by simp),fun h=>nf b (.inr h) rfl⟩
 subst qhv
 have h10:=zaa x10
 have hth:t∈H:=hp.mem_iff.1 (List.mem_cons_self ..)
 have mfY:¬ziY qb p Y mb:=by
  rintro (h|h|⟨u,hu,h⟩)
  ·exact q.mf (.inl h)
  ·exact q.mf (.inr (.inl h))
  ·exact q.mf (.inr (.inr ⟨u,hp.mem_iff.1 (List.mem_cons_of_mem _ hu),h⟩))
 have tb:t.b≠mb:=fun h=>q.mf (.inr (.inr ⟨t,hth,h⟩))
 have tb0:t.b≠b0:=nf _ (.inr (.inr (.inr ⟨t,hth,rfl⟩)))
 have m10:=(q7.mp.fr f8 q.mf).ext h10
 have net:=zaG t.b
 refine zri (d:=.pointer zak) (by kernel_rfl) (by simp) ⟨Ext.refl _,_,rfl,ne,ne,_,(q8.ext h10).slot.cellAt0 (i:=1) rfl,net,net,by rw[zaM];exact net,_,(by rw[zaM];exact(ht.ext h10).cellAt0 (i:=1) rfl),fun w15 x15=>?_⟩
 have h15:=zaa x15
 have lt15:=x15.lt b0 (by simp)
 refine zz8 (ts:=[3]) kq mapq (a:=t.id) (m10.ext h15) fun w16 m16 g16=>?_
 have f16:Fr (fun b=>b=mb) w15 w16:=zaR g16 fun a ha=>by cases ha;rfl
 have q16:=((q8.ext h10).ext h15).fr f16 fun b hb h=>mfY (h▸hb)
 have t16:=((ht.ext h10).ext h15).fr f16 fun a ha h=>by cases ha;exact tb h
 rw[zaM]
 refine⟨f16.kept fun b hb=>?_,rfl,net,net,net,_,t16.cellAt (i:=0) rfl,_,t16.cellAt (i:=1) rfl,fun w19 x19=>.inr ⟨t,Y,rfl,?_,hp,hmin,?_⟩⟩
 ·obtain rfl:b=b0:=by simpa using hb
  exact⟨lt15,fun h=>nf b (.inl h) rfl⟩
 ·have f19:Fr (fun b=>b=b0) w16 w19:=zbD x19 fun d hd=>.inl (by simpa using hd)
  have hY:∀k,zhW mb qb p Y k->zhW mb qb p H k:=fun k hk=>by
   rcases hk with h|h|h|⟨u,hu,h⟩
   ·exact .inl h
   ·exact .inr (.inl h)
   ·exact .inr (.inr (.inl h))
   ·exact .inr (.inr (.inr ⟨u,hp.mem_iff.1 (List.mem_cons_of_mem _ hu),h⟩))
  exact QQ.fr ⟨q16,m16,hh,q.mB,mfY⟩ f19 fun k hk h=>nf k (hY k hk) h
 ·have f16':Fr (zhW mb qb p H) w w16:=(((((zac h4).tr (zac h7)).tr (f8.mono fun b hb=>.inr hb)).tr (zac h10)).tr (zac h15)).tr (f16.mono fun b hb=>.inl hb)
  refine f16'.trans (zbD (S:=fun b=>b=b0) x19 fun d hd=>.inl (by simpa using hd)) fun b hb=>.inr (by omega)
end
def Far(n:Nat)(w:World)(X:World->Prop):Prop:=∀S:Nat->Prop,(∀b,S b->b<n)->∀w'',Fr S w w''->X w''
theorem Far.at{n:Nat}{w:World}{X:World->Prop}(h:Far n w X):X w:=h (fun _=>False) (fun _ h=>h.elim) w (Fr.refl _ w)
structure AR where
 t:AT
 p:Option Addr
 c:Nat
abbrev zEZ(x:AR):List Value:=znF x.t x.p x.c
theorem zIW{w:World}{t:AT}{q:Option Addr}{d:Nat}{L:List AR}(hm:L.map (·.t)=t.xs)(hle:t.xs.length<=d)(hR:zgr 5 zEZ w q L)(hT:∀x∈L,IsT w x.t x.p x.c):IsT w t q d:=by
 rw[AT.eta t]
 unfold IsT
 refine⟨hle,IsL.of fun j x hx=>?_⟩
 rw[<-hm,List.getElem?_map] at hx
 obtain⟨r,hr,rfl⟩:=Option.map_eq_some_iff.1 hx
 exact⟨r.p,r.c,fun m u hu=>by rw[Nat.zero_add];exact hR j r hr m u hu,hT r (List.mem_of_getElem? hr)⟩
def AOut(w:World)(t:AT)(v:Value)(w':World):Prop:=Ext w w'/\∃q d,v=av t q d/\Far w.heap.size w' fun w''=>IsT w'' t q d
theorem zFJ:∀(t:AT)(p:Option Addr)(c:Nat)(w:World),IsT w t p c->zeE t=0->FnP Tryz.prog zeM #[av t p c] w (AOut w t):=by
 intro t
 induction t using AT.ind with
 |h k key val n xs ih =>
  intro p c w hT hE
  have hEx:=(zgv hE).2
  have h2:xs.length<=2:=by
   have:=zrJ (zgv hE).1
   have h3:zfw k<=2:=by unfold zfw;split<;>(try split)<;>omega
   show xs.length<=2
   have h4:xs.length=zfw k:=this
   omega
  refine zp6 k key val n p xs.length c w _ fun b0 hb0 b1 hb1=>?_
  refine⟨fun l ll lc k' w'=>Ext w w'/\0<=k'/\k'<=xs.length/\ll=k'.toNat/\(∀b∈[b0,b1],∀y,l=some y->y.block≠b)/\∃L:List AR,L.map (·.t)=xs.take k'.toNat/\Own w.heap.size w' zdL 5 l ll lc (L.flatMap zEZ) /\
    ∀x∈L,∀w'',Fr (fun b=>b<w.heap.size\/b=b0\/b=b1\/∃a,l=some a/\a.block=b) w' w''->IsT w'' x.t x.p x.c,
   fun _ _ _ k' _=>(xs.length-k').toNat,⟨Ext.refl _,by omega,by omega,rfl,fun b _ y hy=>(by cases hy),[],rfl,Own.nil,fun x hx=>(by cases hx)⟩,?_⟩
  rintro l ll lc k' w5 ⟨x5,hk0,hk1,rfl,hbl,L,hL,oL,hTL⟩
  have hLl:L.length=k'.toNat:=by have:=congrArg List.length hL;rw[List.length_map,List.length_take] at this;omega
  refine⟨fun hlt=>?_,fun hge w6 x6=>?_⟩
  ·have hT5:=hT.ext x5 _ _ _
   obtain⟨x,p',c',hx,hmem,hIx,a1,a2,g0,g1,g2,g3,g4⟩:=hT5.at hk0 (by exact hlt)
   refine⟨a1,hk0,hlt,a2,_,g0,_,g1,_,g2,_,g3,_,_,_,g4,fun b13 hb13 w14 x14=>?_⟩
   have h14:=zaa x14
   have hw14:=x5.trans h14
   refine(ih x hmem p' c' w14 (hIx.ext h14 _ _ _) (hEx x hmem)).mono fun v w15 ⟨e15,q,d,hv,hF⟩=>⟨e15,x.k,x.key,x.val,x.n,q,x.xs.length,d,hv,?_⟩
   have h515:=h14.trans e15
   have hw15:=x5.trans h515
   have oL15:=oL.ext h515
   have hns:∀b∈[b0,b1,b13],∀y,l=some y->y.block≠b:=fun b hb y hy=>by
    simp only[List.mem_cons,List.not_mem_nil,or_false] at hb
    rcases hb with rfl|rfl|rfl
    ·exact hbl _ (by simp) y hy
    ·exact hbl _ (by simp) y hy
    ·have:=(oL.lt y hy).2;omega
   refine zpe (v:=av x q d) zfc (by omega) oL15 hw15.size hns rfl (by intro u hu;simp[Value.cells] at hu;rcases hu with rfl|rfl|rfl|rfl|rfl<;>rfl) (by omega) (by omega) (by omega) fun l' lc' w29 o29 g29 _ hb29=>⟨i64 (by omega),⟨g29.ext hw15 oL15,by omega,by omega,by omega,fun b hb y hy=>hb29 b (by simp at hb ⊢;omega) y hy,L++[⟨x,q,d⟩],?_,?_,?_⟩,by simp only[];omega⟩
   ·rw[show(k'+1).toNat=k'.toNat+1 by omega,List.map_append,hL,List.take_add_one]
    have hx':xs[k'.toNat]?=some x:=hx
    rw[hx'];rfl
   ·rw[List.flatMap_append]
    simpa[Value.cells,zEZ,znF] using o29
   ·have step:∀(w0 w'':World),Ext w0 w15->w0.heap.size<=w15.heap.size->(∀b,b<w.heap.size\/b=b0\/b=b1\/(∃a,l=some a/\a.block=b)->True)->Fr (fun b=>b<w.heap.size\/b=b0\/b=b1\/∃a,l'=some a/\a.block=b) w29 w''->Fr (fun b=>b<w.heap.size\/b=b0\/b=b1\/∃a,l=some a/\a.block=b) w0 w'':=fun w0 w'' h0 hs _ fw=>by
     have f1:Fr (fun b=>b<w.heap.size\/b=b0\/b=b1\/∃a,l=some a/\a.block=b) w0 w29:=(zac h0).tr (zaR g29 fun a ha=>.inr (.inr (.inr ⟨a,ha,rfl⟩)))
     refine f1.trans fw fun b hb=>?_
     rcases hb with h|h|h|⟨a2,ha2,hk2⟩
     ·exact .inl (.inl h)
     ·exact .inl (.inr (.inl h))
     ·exact .inl (.inr (.inr (.inl h)))
     rcases g29.new with hn|hn
     ·left
      rw[ha2] at hn
      cases hout:l with
      |none => rw[hout] at hn;simp[blk] at hn
      |some y => rw[hout] at hn;simp[blk] at hn;exact .inr (.inr (.inr ⟨y,rfl,by omega⟩))
     ·right
      have:=hn a2 ha2
      omega
    intro y hy w'' fw
    rcases List.mem_append.1 hy with hy|hy
    ·exact hTL y hy w'' (step w5 w'' h515 h515.size (fun _ _=>trivial) fw)
    ·simp at hy;subst hy
     refine hF _ (fun b hb=>?_) w'' (step w15 w'' (Ext.refl _) (Nat.le_refl _) (fun _ _=>trivial) fw)
     rcases hb with h|h|h|⟨a,ha,rfl⟩
     ·have:=hw14.size;omega
     ·subst h;exact x14.lt _ (by simp)
     ·subst h;exact x14.lt _ (by simp)
     ·have:=(oL.lt a ha).2;have:=h14.size;omega
  ·have hkl:k'.toNat=xs.length:=by omega
   rw[hkl,List.take_length] at hL
   rw[hkl] at oL hLl
   have hx6:Ext w w6:=zau x6 x5 (by intro d hd;simp at hd;omega)
   have f6:Fr (fun b=>b<w.heap.size\/b=b0\/b=b1\/∃a,l=some a/\a.block=b) w5 w6:=zbD x6 (fun d hd=>by simp at hd;rcases hd with rfl|rfl<;>simp)
   refine⟨hx6,l,lc,by rw[hkl];rfl,fun S hS w'' fw=>?_⟩
   have fall:Fr (fun b=>b<w.heap.size\/b=b0\/b=b1\/∃a,l=some a/\a.block=b) w5 w'':=f6.tr (fw.mono fun b hb=>.inl (hS b hb))
   have ol6:=(oL.but x6.toBut (fun d hd y hy=>hbl d (by simp at hd ⊢;omega) y hy)).fr fw (fun a ha hs=>by
    have:=hS _ hs
    have:=(oL.lt a ha).1
    omega)
   exact zIW (t:=.mk k key val n xs) hL (by show xs.length<=lc;have:=oL.le;omega) (ol6.recs fun _ _=>rfl) fun x hx=>hTL x hx w'' fall
structure St where
 job:Jb
 what:Int
 host:Int
 since:Int
 again:Int
 tries:Int
structure StR where
 s:St
 pa:Option Addr
 ca:Nat
 pf:Option Addr
 cf:Nat
abbrev ztw(r:StR):List Value:=[.string r.s.job.user,.int .i64 r.s.job.prio,.int .i64 r.s.job.nd.c,.int .i64 r.s.job.nd.m,.int .i64 r.s.job.nd.g,.int .i64 r.s.job.ask.k,.string r.s.job.ask.key,.string r.s.job.ask.val,.int .i64 r.s.job.ask.n,.slice r.pa r.s.job.ask.xs.length r.ca,.slice r.pf r.s.job.aft.length r.cf,
 .int .i64 r.s.what,.int .i64 r.s.host,.int .i64 r.s.since,.int .i64 r.s.again,.int .i64 r.s.tries]
abbrev sv(r:StR):Value:=.agg #[.string r.s.job.user,.int .i64 r.s.job.prio,.int .i64 r.s.job.nd.c,.int .i64 r.s.job.nd.m,.int .i64 r.s.job.nd.g,.int .i64 r.s.job.ask.k,.string r.s.job.ask.key,.string r.s.job.ask.val,.int .i64 r.s.job.ask.n,.slice r.pa r.s.job.ask.xs.length r.ca,.slice r.pf r.s.job.aft.length r.cf,
 .int .i64 r.s.what,.int .i64 r.s.host,.int .i64 r.s.since,.int .i64 r.s.again,.int .i64 r.s.tries]
theorem zx4(r:StR):(ztw r).length=16:=rfl
theorem zx5(r:StR):∀u∈ztw r,u.oneCell'=true:=by
 intro u hu
 simp only[List.mem_cons,List.not_mem_nil,or_false] at hu
 rcases hu with rfl|rfl|rfl|rfl|rfl|rfl|rfl|rfl|rfl|rfl|rfl|rfl|rfl|rfl|rfl|rfl<;>rfl
theorem zD6(q:Option Addr)(c:Nat)(D:List Int)(h60:D.length<=1000)(w:World)(hD:zdJ .i64 w q D) :
  FnP Tryz.prog zcl #[.slice q D.length c] w fun v w'=>Ext w w'/\∃p' c',v=.slice p' D.length c'/\Own w.heap.size w' zg3 1 p' D.length c' (D.map (.int .i64)):=by
 refine zho q D.length c w _ ⟨fun hn w0 h0=>?_,fun hn=>?_⟩
 ·cases D with
  |nil => exact⟨h0,none,0,rfl,Own.nil⟩
  |cons x r => exact absurd hn fun hq => zal (zdJ.idx hD (i:=0) (by omega) (by simp)) (zah.2 hq)
 ·exact zkC (Q:=fun v w'=>Ext w w'/\∃p' c',v=.slice p' D.length c'/\Own w.heap.size w' zg3 1 p' D.length c' (D.map (.int .i64))) zfd (by omega) hD (by simp) (by intro u hu;simp at hu;obtain⟨x,_,rfl⟩:=hu;rfl) (by omega) (by omega) hn fun p' c' w' hx o=>⟨hx,p',c',rfl,o⟩
def SOut(w:World)(s:St)(v:Value)(w':World):Prop:=Ext w w'/\∃r:StR,v=sv r/\r.s=s/\Far w.heap.size w' fun w''=>IsJ w'' s.job r.pa r.ca r.pf
theorem zCG(r:StR)(w:World)(hJ:IsJ w r.s.job r.pa r.ca r.pf)(hE:zeE r.s.job.ask=0)(h8:r.s.job.aft.length<=8):FnP Tryz.prog ziW #[sv r] w (SOut w r.s):=by
 refine zwJ r.s.job.user r.s.job.prio r.s.job.nd.c r.s.job.nd.m r.s.job.nd.g r.s.job.ask.k r.s.job.ask.key r.s.job.ask.val r.s.job.ask.n r.pa r.s.job.ask.xs.length r.ca r.pf r.s.job.aft.length r.cf r.s.what r.s.host r.s.since r.s.again r.s.tries w _ fun b0 hb0 b1 hb1 w2 x2=>?_
 have h2:=zaa x2
 refine(zD6 r.pf r.cf r.s.job.aft (by omega) w2 (hJ.2.ext h2)).mono fun v w3 ⟨e3,pf,cf,hv,oF⟩=>⟨e3,pf,_,cf,hv,fun w7 x7=>?_⟩
 have h7:Ext w w7:=zau x7 (h2.trans e3) (by intro d hd;simp at hd;omega)
 have oF7:=oF.but x7.toBut (fun d hd y hy=>by simp at hd;subst hd;have:=(oF.lt y hy).1;have:=x2.lt d (by simp);omega)
 refine(zFJ r.s.job.ask r.pa r.ca w7 (hJ.1.ext h7 _ _ _) hE).mono fun v w8 ⟨e8,pa,ca,hv,hF⟩=>⟨e8,_,_,_,_,pa,_,ca,hv,fun w16 x16=>?_⟩
 have h16:Ext w w16:=zau x16 (h7.trans e8) (by intro d hd;simp at hd;omega)
 refine⟨h16,⟨r.s,pa,ca,pf,cf⟩,rfl,rfl,fun S hS w'' fw=>?_⟩
 have f816:Fr (fun b=>b=b0\/b=b1) w8 w16:=zbD x16 (fun d hd=>by simp at hd;rcases hd with rfl|rfl<;>simp)
 have fall:Fr (fun b=>b<w.heap.size\/b=b0\/b=b1) w8 w'':=(f816.mono fun b hb=>.inr hb).tr (fw.mono fun b hb=>.inl (hS b hb))
 have hb0':b0<w2.heap.size:=x2.lt b0 (by simp)
 have hb1':b1<w2.heap.size:=x2.lt b1 (by simp)
 have h27:w2.heap.size<=w7.heap.size:=Nat.le_trans e3.size x7.size
 refine⟨hF _ (fun b hb=>?_) w'' fall,?_⟩
 ·rcases hb with h|rfl|rfl
  ·have:=h2.size;omega
  ·omega
  ·omega
 ·exact((oF7.ext e8).fr fall (fun a ha hs=>by
   have:=(oF.lt a ha).1
   have:=h2.size
   omega)).cells
theorem zHb(p:Option Addr)(c:Nat)(L:List Ht)(h30:L.length<=30)(h8:∀h∈L,h.labels.length<=8)(w:World)(hL:zjg w p L) :
  FnP Tryz.prog zdq #[.slice p L.length c] w fun v w'=>Ext w w'/\∃p' c',∃M:List Hm,v=.slice p' L.length c'/\M.map (·.h)=L/\Own w.heap.size w' ze8 8 p' L.length c' (M.flatMap zi2)/\(∀m∈M,LbA w' p' m)/\∀m∈M,LbN w.heap.size m:=by
 refine znm p L.length c w _ fun w0 h0=>?_
 obtain⟨M0,hM0,hR0,hl0⟩:=hs_ms (hL.ext h0)
 have hlen0:M0.length=L.length:=by rw[<-hM0];simp
 rw[<-hlen0]
 refine(zro p c M0 (by omega) w0 hR0).mono fun v w1 ⟨e1,p',c',hv,o1⟩=>⟨e1,p',M0.length,c',hv,?_⟩
 have lt0:∀m∈M0,LbA w1 p' m:=fun m hm=>⟨(hl0 m hm).ext e1,by
  cases hlb:m.h.labels with
  |nil => exact .inl rfl
  |cons x r =>
   refine .inr fun a b ha hb=>?_
   have:=(hl0 m hm).lt (x:=x) (by rw[hlb];exact List.mem_cons_self ..) (by simp) a ha
   have:=(o1.lt b hb).1
   omega⟩
 refine⟨fun k w'=>Ext w w'/\0<=k/\k<=M0.length/\∃M:List Hm,M.map (·.h)=L/\Own w0.heap.size w' ze8 8 p' M0.length c' (M.flatMap zi2)/\(∀m∈M,LbA w' p' m)/\∀j,j<k.toNat->∀m,M[j]?=some m->LbN w.heap.size m,fun k _=>(M0.length-k).toNat,⟨h0.trans e1,by omega,by omega,M0,hM0,o1,lt0,fun j hj=>by simp at hj⟩,?_⟩
 rintro k w7 ⟨x7,hk0,hk1,M,hM,o7,hA7,hN7⟩
 have hlen:M.length=M0.length:=by rw[hlen0,<-hM];simp
 refine⟨fun hlt=>?_,fun hge w8 h8=>⟨x7.trans h8,p',c',M,rfl,hM,(o7.ext h8).weak h0.size,fun m hm=>⟨(hA7 m hm).1.ext h8,(hA7 m hm).2⟩,fun m hm=>by
  obtain⟨j,hj⟩:=List.mem_iff_getElem?.1 hm
  have hjl:=(List.getElem?_eq_some_iff.1 hj).1
  exact hN7 j (by omega) m hj⟩⟩
 have r7:zgr 8 zi2 w7 p' M:=o7.recs fun _ _=>rfl
 have g:=r7.idx default hk0 (by omega) (j:=1) rfl
 have hp':=o7.ne1 (by omega) (by omega)
 have hm:=zaq M default (i:=k.toNat) (by omega)
 generalize hmd:M.getD k.toNat default=m at g hm
 have hml:m.h∈L:=by rw[<-hM];exact List.mem_map_of_mem hm
 refine⟨hp',hk0,hlt,fun hq=>hp' (zah.1 hq),m.q,m.h.labels.length,m.d,by rw[zam];exact g,fun w11 h11=>?_⟩
 refine(zxu m.q m.d m.h.labels (h8 _ hml) w11 ((hA7 m hm).1.ext h11)).mono fun v w12 ⟨e12,q',d',hv,hl',hn'⟩=>⟨e12,q',_,d',hv,hp',hk0,hlt,fun hq=>hp' (zah.1 hq),?_⟩
 have x12:=h11.trans e12
 have o12:=o7.ext x12
 refine zaU o12 znR (by rw[zeV zfM];simp;omega) (by simp) (by intro v hv;simp at hv;subst hv;rfl) (by simp) fun w16 o16 g16=>?_
 rw[zle zfM M k.toNat 1 [.slice q' m.h.labels.length d'] ⟨m.h,q',d'⟩ default (by omega) (by simp) (by rw[hmd];rfl)] at o16
 have hmap:(M.set k.toNat ⟨m.h,q',d'⟩).map (·.h)=L:=by
  rw[List.map_set,hM]
  have hk:k.toNat<L.length:=by omega
  have:L[k.toNat]=m.h:=by
   have h1:(M.map (·.h)).getD k.toNat default=m.h:=by
    rw[<-hmd,List.getD_eq_getElem?_getD,List.getD_eq_getElem?_getD,List.getElem?_map,List.getElem?_eq_getElem (by omega:k.toNat<M.length)];rfl
   rw[hM] at h1
   simpa[List.getD_eq_getElem?_getD,hk] using h1
  rw[<-this,List.set_getElem_self]
 refine⟨i64 (by omega),⟨?_,by omega,by omega,_,hmap,o16,fun m' hm'=>?_,fun j hj m' hm'=>?_⟩,by simp only[];omega⟩
 ·exact g16.ext (x7.trans x12) (o12.weak (by have:=h0.size;omega))
 ·rcases List.mem_or_eq_of_mem_set hm' with hm'|rfl
  ·exact⟨zi5 ((hA7 m' hm').1.ext x12) (hA7 m' hm').2 g16,(hA7 m' hm').2⟩
  ·have ha:zbo q' p':=fun a b ha hb=>by
    have:=hn' a ha
    have:=(o7.lt b hb).2
    have:=h11.size
    omega
   exact⟨zi5 hl' (.inr ha) g16,.inr ha⟩
 ·by_cases hjk:j=k.toNat
  ·subst hjk
   rw[List.getElem?_set_self (by omega)] at hm'
   obtain rfl:=Option.some.inj hm'
   exact .inr fun a ha=>(by have:=hn' a ha;have:=x7.size;have:=h11.size;omega)
  ·rw[List.getElem?_set_ne (by omega)] at hm'
   exact hN7 j (by omega) m' hm'
theorem zg9:zfz Tryz.prog zzg=some (zjO,16,184,.agg #[.string ⟨#[]⟩,.int .i64 0,.int .i64 0,.int .i64 0,.int .i64 0,.int .i64 0,.string ⟨#[]⟩,.string ⟨#[]⟩,.int .i64 0,.slice none 0 0,.slice none 0 0,.int .i64 0,.int .i64 0,.int .i64 0,.int .i64 0,.int .i64 0]):=by kernel_rfl
structure Pol where
 first:Int
 times:Int
 most:Int
 tries:Int
structure Fm where
 hosts:List Ht
 pol:Pol
 now:Int
 jobs:List St
structure Pl where
 hp:Option Addr
 hc:Nat
 jp:Option Addr
 jc:Nat
 R:List StR
instance:Inhabited St:=⟨⟨zdf,0,0,0,0,0⟩⟩
instance:Inhabited StR:=⟨⟨default,none,0,none,0⟩⟩
def ft(fb:Nat)(jp:Option Addr)(b:Nat):Prop:=b=fb\/∃a,jp=some a/\a.block=b
def ftO(O:Nat->Prop)(fb:Nat)(jp:Option Addr)(b:Nat):Prop:=O b\/ft fb jp b
abbrev fcs(P:Pl)(F:Fm):List Value:=[.slice P.hp F.hosts.length P.hc,.int .i64 F.pol.first,.int .i64 F.pol.times,.int .i64 F.pol.most,.int .i64 F.pol.tries,.int .i64 F.now,.slice P.jp P.R.length P.jc]
structure FXO(O:Nat->Prop)(B:Nat)(w:World)(fb:Nat)(P:Pl)(F:Fm):Prop where
 slot:Own B w zdb 7 (ptr fb) 1 1 (fcs P F)
 arr:Own B w zjO 16 P.jp P.R.length P.jc (P.R.flatMap ztw)
 map:P.R.map (·.s)=F.jobs
 hs:∀w'',Fr (ftO O fb P.jp) w w''->zjg w'' P.hp F.hosts
 js:∀r∈P.R,∀w'',Fr (ftO O fb P.jp) w w''->IsJ w'' r.s.job r.pa r.ca r.pf
 ap:∀a,P.jp=some a->a.block≠fb
 hO:F.hosts.length<=30/\∀h∈F.hosts,zvq h
 jO:F.jobs.length<=60/\∀s∈F.jobs,okJ s.job/\WfJ s.job
 olt:∀b,O b->b<w.heap.size
 odis:∀b,O b->¬ft fb P.jp b
abbrev FX(B:Nat):=FXO (fun b=>b<B) B
section
variable {O:Nat->Prop} {B fb:Nat} {w:World} {P:Pl} {F:Fm}
theorem FXO.len(x:FXO O B w fb P F):P.R.length=F.jobs.length:=by have:=congrArg List.length x.map;simpa using this
theorem FXO.foot(x:FXO O B w fb P F){b:Nat}(h:ft fb P.jp b):B<=b/\b<w.heap.size:=by
 rcases h with rfl|⟨a,ha,rfl⟩
 ·exact x.slot.lt _ rfl
 ·exact x.arr.lt a ha
theorem FXO.fr{S:Nat->Prop}{w':World}(x:FXO O B w fb P F)(f:Fr S w w')(hS:∀b,S b->O b):FXO O B w' fb P F :=
 ⟨x.slot.fr f fun a ha hs=>x.odis _ (hS _ hs) (.inl (by cases ha;rfl)),x.arr.fr f fun a ha hs=>x.odis _ (hS _ hs) (.inr ⟨a,ha,rfl⟩),x.map,
  fun w'' k=>x.hs w'' ((f.mono fun b hb=>.inl (hS b hb)).tr k),fun r hr w'' k=>x.js r hr w'' ((f.mono fun b hb=>.inl (hS b hb)).tr k),x.ap,x.hO,x.jO,fun b hb=>Nat.lt_of_lt_of_le (x.olt b hb) f.size,x.odis⟩
theorem FXO.ext{w':World}(x:FXO O B w fb P F)(e:Ext w w'):FXO O B w' fb P F:=x.fr (zac (S:=fun _=>False) e) fun _ h=>h.elim
theorem FXO.recs(x:FXO O B w fb P F):zgr 16 ztw w P.jp P.R:=x.arr.recs fun _ _=>rfl
theorem FXO.cell(x:FXO O B w fb P F){i:Nat}{v:Value}(h:(fcs P F)[i]?=some v):Go.Sx.cell w (pAdd (ptr fb) i) 0=some v:=by rw[zam];exact x.slot.cells i v h
theorem FXO.st(x:FXO O B w fb P F){k:Int}(h0:0<=k)(h1:k<F.jobs.length):∃r,P.R[k.toNat]?=some r/\F.jobs[k.toNat]?=some r.s/\P.jp≠none/\pIdx P.jp k 16≠none/\(∀(m:Nat) u,(ztw r)[m]?=some u->Go.Sx.cell w (pIdx P.jp k 16) m=some u)/\(∀(m:Nat) u,(ztw r)[m]?=some u->Go.Sx.cell w (pAdd (pIdx P.jp k 16) m) 0=some u)/\IsJ w r.s.job r.pa r.ca r.pf/\okJ r.s.job/\WfJ r.s.job:=by
 have hl:=x.len
 obtain⟨r,hr⟩:∃r,P.R[k.toNat]?=some r:=⟨_,List.getElem?_eq_getElem (by omega)⟩
 have hm:=List.mem_of_getElem? hr
 have g:∀(m:Nat) u,(ztw r)[m]?=some u->Go.Sx.cell w (pIdx P.jp k 16) m=some u:=fun m u hu=>x.recs.at h0 hr hu
 have g0:=g 0 _ rfl
 have hF:F.jobs[k.toNat]?=some r.s:=by rw[<-x.map,List.getElem?_map,hr];rfl
 have hj:=x.jO.2 r.s (List.mem_of_getElem? hF)
 exact⟨r,hr,hF,fun h=>zal g0 (zah.2 h),zal g0,g,fun m u hu=>by rw[zam];exact g m u hu,x.js r hm w (Fr.refl _ w),hj.1,hj.2⟩
theorem FXO.slot_to{w':World}{F':Fm}{P':Pl}(x:FXO O B w fb P F)(o:Own B w' zdb 7 (ptr fb) 1 1 (fcs P' F'))(g:zbN w w' (ptr fb) (ptr fb))(hj:F'.jobs=F.jobs)(hR:P'.R=P.R)(hjp:P'.jp=P.jp)(hjc:P'.jc=P.jc)
  (hs:∀w'',Fr (ftO O fb P.jp) w' w''->zjg w'' P'.hp F'.hosts) (hO:F'.hosts.length<=30/\∀h∈F'.hosts,zvq h):FXO O B w' fb P' F'/\Fr (ft fb P.jp) w w':=by
 have f:Fr (ft fb P.jp) w w':=zaR g fun a ha=>by cases ha;exact .inl rfl
 refine⟨⟨o,?_,by rw[hR,hj];exact x.map,by rw[hjp];exact hs,fun r hr w'' k=>?_,by rw[hjp];exact x.ap,hO,by rw[hj];exact x.jO,fun b hb=>Nat.lt_of_lt_of_le (x.olt b hb) f.size,by rw[hjp];exact x.odis⟩,f⟩
 ·rw[hjp,hR,hjc]
  exact x.arr.st (fun u v hu hv=>by cases hv;exact x.ap u hu) g
 ·rw[hR] at hr
  rw[hjp] at k
  exact x.js r hr w'' ((f.mono fun b hb=>.inr hb).tr k)
def zjc(m:Nat)(v:Int)(s:St):St:=match m with
 |11 => { s with what:=v }
 |12 => { s with host:=v }
 |13 => { s with since:=v }
 |14 => { s with again:=v }
 |_ => { s with tries:=v }
def setF(F:Fm)(k:Nat)(s:St):Fm:={ F with jobs:=F.jobs.set k s }
def setP(P:Pl)(k:Nat)(s:St):Pl:={ P with R:=P.R.set k { P.R.getD k default with s:=s } }
theorem zlh(m:Nat)(v:Int)(s:St):(zjc m v s).job=s.job:=by unfold zjc;split<;>rfl
theorem FXO.set(x:FXO O B w fb P F){k:Int}(h0:0<=k)(h1:k<F.jobs.length){m:Nat}(hm:11<=m/\m<=15)(v:Int){ns:List Nat}(hns:∀b∈ns,¬ft fb P.jp b){K:World->Prop}
  (hk:∀w',FXO O B w' fb (setP P k.toNat (zjc m v (F.jobs.getD k.toNat default))) (setF F k.toNat (zjc m v (F.jobs.getD k.toNat default)))->Fr (ft fb P.jp) w w'->K w'):zan w (pAdd (pIdx P.jp k 16) m) [.int .i64 v] ns K:=by
 have hl:=x.len
 have hg:(P.R.getD k.toNat default).s=F.jobs.getD k.toNat default:=by
  rw[<-x.map,List.getD_eq_getElem?_getD,List.getD_eq_getElem?_getD,List.getElem?_map,List.getElem?_eq_getElem (by omega:k.toNat<P.R.length)];rfl
 refine zaU x.arr znR (by rw[zeV zx4];simp;omega) (by simp) (by intro u hu;simp at hu;subst hu;rfl) (fun b hb y hy he=>hns b hb (.inr ⟨y,hy,he⟩)) fun w' o g=>?_
 have f:Fr (ft fb P.jp) w w':=zaR g fun a ha=>.inr ⟨a,ha,rfl⟩
 refine hk w' ⟨?_,?_,?_,fun w'' kf=>?_,fun r hr w'' kf=>?_,x.ap,x.hO,?_,fun b hb=>Nat.lt_of_lt_of_le (x.olt b hb) f.size,x.odis⟩ f
 ·have:=x.slot.st (fun u y hu hy=>by cases hu;exact fun h=>x.ap y hy h.symm) g
  show Own B w' zdb 7 (ptr fb) 1 1 [_,_,_,_,_,_,.slice P.jp (P.R.set _ _).length P.jc]
  rw[List.length_set]
  exact this
 ·rw[zle zx4 P.R k.toNat m [.int .i64 v] { P.R.getD k.toNat default with s:=zjc m v (F.jobs.getD k.toNat default) } default (by omega) (by simp;omega) (by
   rw[<-hg]
   have:m=11\/m=12\/m=13\/m=14\/m=15:=by omega
   rcases this with rfl|rfl|rfl|rfl|rfl<;>rfl)] at o
  show Own B w' zjO 16 P.jp (P.R.set _ _).length P.jc _
  rw[List.length_set]
  exact o
 ·show(P.R.set _ _).map (·.s)=F.jobs.set _ _
  rw[List.map_set,x.map]
 ·exact x.hs w'' ((f.mono fun b hb=>.inr hb).tr kf)
 ·have hr:r∈P.R.set k.toNat { P.R.getD k.toNat default with s:=zjc m v (F.jobs.getD k.toNat default) }:=hr
  rcases List.mem_or_eq_of_mem_set hr with hr|rfl
  ·exact x.js r hr w'' ((f.mono fun b hb=>.inr hb).tr kf)
  ·have:=x.js _ (zaq P.R default (i:=k.toNat) (by omega)) w'' ((f.mono fun b hb=>.inr hb).tr kf)
   rw[hg] at this
   show IsJ w'' (zjc m v (F.jobs.getD k.toNat default)).job _ _ _
   rw[zlh]
   exact this
 ·refine⟨by show(F.jobs.set _ _).length<=60;rw[List.length_set];exact x.jO.1,fun s hs=>?_⟩
  have hs:s∈F.jobs.set k.toNat (zjc m v (F.jobs.getD k.toNat default)):=hs
  rcases List.mem_or_eq_of_mem_set hs with hs|rfl
  ·exact x.jO.2 s hs
  ·rw[zlh]
   exact x.jO.2 _ (zaq F.jobs default (i:=k.toNat) (by omega))
theorem zEs(x:FXO O B w fb P F)(id:Int)(hid:InR .i64 id):FnP Tryz.prog za6 #[.pointer (ptr fb),.int .i64 id] w fun v w'=>Ext w w'/\((¬(1<=id/\id<=F.jobs.length)/\v=.pointer none)\/(1<=id/\id<=F.jobs.length/\v=.pointer (pIdx P.jp (id-1) 16))):=by
 have hl:=x.len
 have hj:=x.jO.1
 have ne:=zaG fb
 refine zo8 (ptr fb) id w _ ⟨fun _=>ne,fun _=>ne,fun h w0 h0=>⟨h0,.inl ⟨by omega,rfl⟩⟩,fun h=>⟨_,_,_,x.cell (i:=6) rfl,fun h2 w3 h3=>⟨h3,.inl ⟨by omega,rfl⟩⟩,fun h2=>⟨ne,ne,_,_,_,x.cell (i:=6) rfl,i64 (by omega),?_,by omega,by omega,fun w6 h6=>⟨h6,.inr ⟨h,by omega,rfl⟩⟩⟩⟩⟩
 obtain⟨r,_,_,hp,_⟩:=x.st (k:=id-1) (by omega) (by omega)
 exact hp
def zky(F:Fm):Prop:=∀(i:Nat) s,F.jobs[i]?=some s->∀y∈s.job.aft,1<=y/\y<=i
def zaX(F:Fm)(id:Int):Int:=(F.jobs.getD (id-1).toNat default).what
theorem zlO(x:FXO O B w fb P F){id:Int}(h:1<=id/\id<=F.jobs.length){w':World}(e:Ext w w'):∃q,pIdx P.jp (id-1) 16=q/\q≠none/\Go.Sx.cell w' (pAdd q 11) 0=some (.int .i64 (zaX F id)):=by
 obtain⟨r,hr,hF,_,hne,_,g,_⟩:=(x.ext e).st (k:=id-1) (by omega) (by omega)
 refine⟨_,rfl,hne,?_⟩
 have:=g 11 _ rfl
 unfold zaX
 rw[List.getD_eq_getElem?_getD,hF]
 exact this
theorem zFT(x:FXO O B w fb P F){p1:Option Addr}(hc:Go.Sx.cell w p1 0=some (.pointer (ptr fb))){id:Int}(h:1<=id/\id<=F.jobs.length):FnP Tryz.prog zc8 #[.int .i64 id,.pointer p1] w fun v w'=>Ext w w'/\v=.bool (decide (zaX F id≠3)):=by
 have hj:=x.jO.1
 refine zjl id p1 w _ ⟨_,hc,fun w1 h1=>(zEs (x.ext h1) id (i64 (by omega))).mono fun v w2 ⟨e2,hv⟩=>?_⟩
 rcases hv with⟨hno,_⟩|⟨_,_,rfl⟩
 ·exact absurd h hno
 ·obtain⟨q,hq,hne,hg⟩:=zlO x h (h1.trans e2)
  exact⟨e2,_,rfl,by rw[hq];exact hne,by rw[hq];exact hne,_,by rw[hq];exact hg,fun w5 h5=>⟨(h1.trans e2).trans h5,rfl⟩⟩
theorem zI9(x:FXO O B w fb P F){p1:Option Addr}(hc:Go.Sx.cell w p1 0=some (.pointer (ptr fb))){id:Int}(h:1<=id/\id<=F.jobs.length):FnP Tryz.prog zdp #[.int .i64 id,.pointer p1] w fun v w'=>Ext w w'/\v=.bool (decide (zaX F id=4)||decide (zaX F id=5)):=by
 have hj:=x.jO.1
 refine zj9 id p1 w _ ⟨_,hc,fun w1 h1=>(zEs (x.ext h1) id (i64 (by omega))).mono fun v w2 ⟨e2,hv⟩=>?_⟩
 rcases hv with⟨hno,_⟩|⟨_,_,rfl⟩
 ·exact absurd h hno
 ·obtain⟨q,hq,hne,hg⟩:=zlO x h (h1.trans e2)
  exact⟨e2,_,rfl,by rw[hq];exact hne,by rw[hq];exact hne,_,by rw[hq];exact hg,fun w5 h5=>⟨(h1.trans e2).trans h5,rfl⟩⟩
def zfS(F:Fm)(s:St):Bool:=decide (s.what=1)&&decide (s.again<=F.now)&&s.job.aft.all fun y=>decide (zaX F y=3)
theorem zJs(x:FXO O B w fb P F)(ha:zky F){k:Int}(h0:0<=k)(h1:k<F.jobs.length):FnP Tryz.prog zdT #[.pointer (ptr fb),.pointer (pIdx P.jp k 16)] w fun v w'=>Ext w w'/\v=.bool (zfS F (F.jobs.getD k.toNat default)):=by
 refine zk9 (ptr fb) (pIdx P.jp k 16) w _ fun w0 e0=>zbv (by simp[Value.oneCell']) fun w1 o1 e1=>?_
 have e01:=e0.trans e1
 have x1:=x.ext e01
 obtain⟨r,hr,hF,_,hne,_,g,hJ,hok,hwf⟩:=x1.st h0 h1
 have hg:F.jobs.getD k.toNat default=r.s:=by rw[List.getD_eq_getElem?_getD,hF];rfl
 rw[hg]
 have c1:Go.Sx.cell w1 (some ⟨w0.heap.size,0,none⟩) 0=some (.pointer (ptr fb)):=(o1 0 (Nat.zero_le _)).cells 0 _ rfl
 have ne:=zaG fb
 refine⟨hne,hne,_,g 11 _ rfl,fun _=>hne,fun _=>hne,fun hw=>⟨_,g 14 _ rfl,_,c1,ne,ne,_,x1.cell (i:=5) rfl,fun _=>hne,fun _=>hne,fun _=>by rw[zaM];exact hne,fun hn=>⟨_,_,_,by rw[zaM];exact g 10 _ rfl,fun w9 h9=>?_⟩,fun hn w6 h6=>⟨e01.trans h6,?_⟩⟩,fun hw w3 h3=>⟨e01.trans h3,?_⟩⟩
 ·have hin:∀y∈r.s.job.aft,1<=y/\y<=F.jobs.length:=fun y hy=>by have:=ha _ _ hF y hy;omega
  have hlen:=hok.len
  refine(zn6 r.pf r.cf r.s.job.aft (by omega) _ (fun y=>decide (zaX F y≠3)) w9 (hJ.2.ext h9) fun y hy w' hw'=>⟨zc8,#[.pointer (some ⟨w0.heap.size,0,none⟩)],rfl,zFT (x1.ext (h9.trans hw')) (zaH (h9.trans hw') c1) (hin y hy)⟩).mono fun v w10 ⟨e10,b,hv,hb⟩=>⟨e10,b,hv,fun w12 h12=>⟨e01.trans h12,?_⟩⟩
  unfold zfS
  have h1:decide (r.s.what=1)=true:=decide_eq_true hw
  have h2:decide (r.s.again<=F.now)=true:=decide_eq_true hn
  rw[h1,h2]
  simp only[Bool.true_and]
  congr 1
  cases b with
  |true =>
   obtain⟨y,hy,h3⟩:=hb.1 rfl
   have:(r.s.job.aft.all fun y=>decide (zaX F y=3))=false:=by
    rw[List.all_eq_false]
    exact⟨y,hy,by simpa using h3⟩
   rw[this];rfl
  |false =>
   have:(r.s.job.aft.all fun y=>decide (zaX F y=3))=true:=by
    rw[List.all_eq_true]
    intro y hy
    by_cases h:zaX F y=3
    ·simp[h]
    ·exact absurd (hb.2 ⟨y,hy,by simpa using h⟩) (by simp)
   rw[this];rfl
 ·unfold zfS
  have:decide (r.s.again<=F.now)=false:=decide_eq_false (by omega)
  rw[this];simp
 ·unfold zfS
  have:decide (r.s.what=1)=false:=decide_eq_false hw
  rw[this];simp
end
def okP(p0 p1 p2 p3:Int):Prop:=1<=p0/\p0<=1000000000/\1<=p1/\p1<=10/\p0<=p2/\p2<=1000000000/\0<=p3/\p3<=50
def dl(p0 p1 p2:Int):Nat->Int
 |0 => p0
 |k+1 => min (dl p0 p1 p2 k*p1) p2
theorem zG4{a b:Int}(ha:0<=a)(hb:1<=b):a<=a*b:=by
 have:=Int.mul_le_mul_of_nonneg_left hb ha
 omega
theorem zFy{a b:Int}(ha:0<=a)(hb:b<=10):a*b<=a*10:=Int.mul_le_mul_of_nonneg_left hb ha
theorem zoq{p0 p1 p2 p3:Int}(h:okP p0 p1 p2 p3):∀k,p0<=dl p0 p1 p2 k/\dl p0 p1 p2 k<=p2
 |0 => by unfold okP at h;simp only[dl];omega
 |k+1 => by
  have ih:=zoq h k
  unfold okP at h
  have:=zG4 (a:=dl p0 p1 p2 k) (b:=p1) (by omega) (by omega)
  simp only[dl]
  omega
theorem zwm{x:Int}(h:-9223372036854775808<=x/\x<=9223372036854775807):InR .i64 x:=h
theorem zhd{x:Int}(h:InR .i64 x):-9223372036854775808<=x/\x<=9223372036854775807:=h
theorem zyF(p0 p1 p2 p3:Int)(w:World):FnP Tryz.prog zeO #[.agg #[.int .i64 p0,.int .i64 p1,.int .i64 p2,.int .i64 p3]] w fun v w'=>Ext w w'/\∃e,v=.int .i64 e/\(okP p0 p1 p2 p3->e=0)/\(¬okP p0 p1 p2 p3->e=4):=by
 refine zqf _ _ _ _ w _ ?_
 intro b0 hb
 refine⟨fun h w1 he=>⟨he,4,rfl,fun hk=>?_,fun _=>rfl⟩,fun h w1 he=>⟨he,0,rfl,fun _=>rfl,fun hn=>?_⟩⟩<;>unfold okP at *<;>omega
def errD(p0 p1 p2 p3 n e:Int):Prop:=(¬okP p0 p1 p2 p3->e=4)/\(okP p0 p1 p2 p3->(n<1\/p3<n)->e=5)/\(okP p0 p1 p2 p3->(1<=n/\n<=p3)->e=0)
theorem zIe(p0 p1 p2 p3 n:Int)(hn:InR .i64 n)(w:World):FnP Tryz.prog zeP #[.agg #[.int .i64 p0,.int .i64 p1,.int .i64 p2,.int .i64 p3],.int .i64 n] w fun v w' =>
  Ext w w'/\∃a e,v=.tuple #[.int .i64 a,.int .i64 e]/\errD p0 p1 p2 p3 n e/\(e≠0->a=0)/\(e=0->a=dl p0 p1 p2 (n-1).toNat):=by
 refine zqg _ _ _ _ _ w _ ?_
 have hn:=zhd hn
 intro b0 hb w1 h1
 refine(zyF _ _ _ _ w1).mono fun v w2 ⟨h2,e,he,ho,hno⟩=>⟨h2,e,he,fun hne w4 h4=>⟨h4,0,e,rfl,?_,fun _=>rfl,fun h0=>absurd h0 hne⟩,fun he0=>?_⟩
 ·have:¬okP p0 p1 p2 p3:=fun h=>hne (ho h)
  exact⟨hno,fun h=>absurd h this,fun h=>absurd h this⟩
 ·have hok:okP p0 p1 p2 p3:=by
   by_cases h:okP p0 p1 p2 p3
   ·exact h
   ·have:=hno h;omega
  refine⟨fun hr w4 h4=>⟨h4,0,5,rfl,⟨fun h=>absurd hok h,fun _ _=>rfl,fun _ h=>by omega⟩,fun _=>rfl,fun h=>by omega⟩,fun hr=>⟨zwm (by omega),?_⟩⟩
  refine⟨fun d k w'=>Ext w w'/\0<=k/\k<=n-1/\d=dl p0 p1 p2 k.toNat,fun d k _=>(n-1-k).toNat,⟨Ext.refl w,by omega,by omega,rfl⟩,?_⟩
  rintro d k w7 ⟨hw,hk0,hk1,rfl⟩
  have hd:=zoq hok k.toNat
  have hm1:=zFy (a:=dl p0 p1 p2 k.toNat) (b:=p1) (by unfold okP at hok;omega) (by unfold okP at hok;omega)
  have hm2:=zG4 (a:=dl p0 p1 p2 k.toNat) (b:=p1) (by unfold okP at hok;omega) (by unfold okP at hok;omega)
  unfold okP at hok
  refine⟨fun hlt=>⟨zwm (by omega),zwm (by omega),⟨hw,by omega,by omega,?_⟩,by simp only[];omega⟩,fun hge w8 h8=>⟨hw.trans h8,_,0,rfl,⟨fun h=>absurd hok h,fun _ h=>by omega,fun _ _=>rfl⟩,fun h=>absurd rfl h,fun _=>?_⟩⟩
  ·rw[show(k+1).toNat=k.toNat+1 by omega];rfl
  ·rw[show k=n-1 by omega]
abbrev zoY(p:Pol):Prop:=okP p.first p.times p.most p.tries
def zxZ(p:Pol)(n:Int):Int:=dl p.first p.times p.most (n-1).toNat
def stF(F:Fm)(k m:Nat)(v:Int):Fm:=setF F k (zjc m v (F.jobs.getD k default))
def zaf(F:Fm)(k:Nat):St:=F.jobs.getD k default
theorem zcD(F:Fm)(k m:Nat)(v:Int):(stF F k m v).jobs.length=F.jobs.length:=by simp[stF,setF]
theorem znX(F:Fm)(k m:Nat)(v:Int):(stF F k m v).hosts=F.hosts:=rfl
theorem zqj(F:Fm){k m:Nat}(v:Int)(hk:k<F.jobs.length)(i:Nat):zaf (stF F k m v) i=if i=k then zjc m v (zaf F k) else zaf F i:=by
 unfold zaf stF setF
 simp only[List.getD_eq_getElem?_getD,List.getElem?_set]
 by_cases h:k=i
 ·subst h;simp[hk]
 ·have h':¬i=k:=fun h2=>h h2.symm
  simp[h,h']
theorem zsF(F:Fm){k m:Nat}(v:Int)(hk:k<F.jobs.length):(stF F k m v).jobs.map (·.job)=F.jobs.map (·.job):=by
 unfold stF setF
 rw[List.map_set,zlh]
 refine List.ext_getElem? fun i=>?_
 rw[List.getElem?_set]
 by_cases h:k=i
 ·subst h
  simp[List.getD_eq_getElem?_getD,hk]
 ·simp[h]
theorem zEn{F G:Fm}(h:G.jobs.map (·.job)=F.jobs.map (·.job))(ha:zky F):zky G:=by
 intro i s hs y hy
 have h1:(G.jobs.map (·.job))[i]?=some s.job:=by rw[List.getElem?_map,hs];rfl
 rw[h,List.getElem?_map] at h1
 obtain⟨s',hs',e⟩:=Option.map_eq_some_iff.1 h1
 exact ha i s' hs' y (by rw[e];exact hy)
theorem zqJ{F:Fm}{k m:Nat}{v:Int}(hk:k<F.jobs.length)(ha:zky F):zky (stF F k m v):=zEn (zsF F v hk) ha
theorem zzO{F:Fm}{k:Nat}(h:k<F.jobs.length):F.jobs[k]?=some (zaf F k):=by simp[zaf,List.getD_eq_getElem?_getD,h]
theorem zhe{F:Fm}{k:Nat}{s:St}(h:F.jobs[k]?=some s):zaf F k=s:=by simp[zaf,List.getD_eq_getElem?_getD,h]
section
variable {O:Nat->Prop} {B fb:Nat} {w:World} {P:Pl} {F:Fm}
theorem zHm(x:FXO O B w fb P F)(hn0:0<=F.now/\F.now<=1099511627776)(n:Int):FnP Tryz.prog zc5 #[.pointer (ptr fb),.int .i64 n] w fun v w'=>∃e:Int,v=.int .i64 e /\
  ((e≠0/\e=4/\Ext w w')\/(e=0/\(0<=n/\n<=1000000000/\F.now+n<=1099511627776)/\FXO O B w' fb P { F with now:=F.now+n }/\Fr (ft fb P.jp) w w'))/\(e=0↔(0<=n/\n<=1000000000/\F.now+n<=1099511627776)):=by
 have ne:=zaG fb
 refine zmj (ptr fb) n w _ ⟨fun _=>ne,fun _=>ne,fun h w0 h0=>⟨4,rfl,.inl ⟨by decide,rfl,h0⟩,by omega⟩,fun h=>⟨_,x.cell (i:=5) rfl,i64 (by omega),fun h2 w1 h1=>⟨4,rfl,.inl ⟨by decide,rfl,h1⟩,by omega⟩,fun h2=>⟨ne,ne,_,x.cell (i:=5) rfl,i64 (by omega),ne,ne,?_⟩⟩⟩
 refine zaU (off:=5) x.slot rfl (by simp) (by simp) (by intro u hu;simp at hu;subst hu;rfl) (by simp) fun w2 o2 g2 w3 h3=>?_
 obtain⟨y,f⟩:=x.slot_to (F':={ F with now:=F.now+n }) (P':=P) o2 g2 rfl rfl rfl rfl (fun w'' k=>x.hs w'' (((zaR g2 fun a ha=>by cases ha;exact .inr (.inl rfl))).tr k)) x.hO
 exact⟨0,rfl,.inr ⟨rfl,⟨h.1,h.2,h2⟩,y.ext h3,f.tr (zac h3)⟩,by omega⟩
def zJ4(F:Fm)(s:St):Bool:=s.job.aft.any fun y=>decide (zaX F y=4)||decide (zaX F y=5)
def zb7(F:Fm)(k:Nat):Fm:=if (zaf F k).what=1/\zJ4 F (zaf F k)=true then stF F k 11 5 else F
def lostTo(F:Fm):Nat->Fm
 |0 => F
 |n+1 => zb7 (lostTo F n) n
def zpY(F:Fm):Fm:=lostTo F F.jobs.length
theorem zt4(F:Fm)(k:Nat):(zb7 F k).jobs.length=F.jobs.length:=by unfold zb7;split<;>simp[zcD]
theorem zgA(F:Fm):∀n,(lostTo F n).jobs.length=F.jobs.length
 |0 => rfl
 |n+1 => by rw[lostTo,zt4,zgA F n]
theorem zq4{F:Fm}(ha:zky F):∀n,n<=F.jobs.length->zky (lostTo F n)
 |0,_ => ha
 |n+1,h => by
  have ih:=zq4 ha n (by omega)
  rw[lostTo,zb7]
  split
  ·exact zqJ (by rw[zgA];omega) ih
  ·exact ih
theorem FXO.put(x:FXO O B w fb P F){k:Int}(h0:0<=k)(h1:k<F.jobs.length){m:Nat}(hm:11<=m/\m<=15)(v:Int){ns:List Nat}(hns:∀b∈ns,¬ft fb P.jp b){K:World->Prop}
 (hk:∀w' P',P'.jp=P.jp->FXO O B w' fb P' (stF F k.toNat m v)->Fr (ft fb P.jp) w w'->K w'):zan w (pAdd (pIdx P.jp k 16) m) [.int .i64 v] ns K:=x.set h0 h1 hm v hns fun w' y f=>hk w' (setP P k.toNat (zjc m v (F.jobs.getD k.toNat default))) rfl y f
theorem zG1(x:FXO O B w fb P F)(ha:zky F):FnP Tryz.prog zaz #[.pointer (ptr fb)] w fun v w'=>v=.tuple #[]/\∃P',P'.jp=P.jp/\FXO O B w' fb P' (zpY F)/\Fr (ft fb P.jp) w w':=by
 have ne:=zaG fb
 refine zmk (ptr fb) w _ fun w0 e0=>zbv (by simp[Value.oneCell']) fun w1 o1 e1=>?_
 have e01:=e0.trans e1
 have x1:=x.ext e01
 generalize hp1:(some ⟨w0.heap.size,0,none⟩:Option Addr)=p1
 rw[hp1] at o1
 have o1':=o1 w0.heap.size (Nat.le_refl _)
 have c1:Go.Sx.cell w1 p1 0=some (.pointer (ptr fb)):=o1'.cells 0 _ rfl
 have np:∀a,p1=some a->¬ft fb P.jp a.block:=fun a ha hf=>by
  have:=(x.foot hf).2
  have:=(o1'.lt a ha).1
  have:=e0.size
  omega
 have hl0:=x.jO.1
 refine⟨_,c1,ne,ne,_,_,_,x1.cell (i:=6) rfl,?_⟩
 rw[x1.len]
 refine⟨fun k w'=>0<=k/\k<=F.jobs.length/\Fr (ft fb P.jp) w1 w'/\∃P',P'.jp=P.jp/\FXO O B w' fb P' (lostTo F k.toNat),fun k _=>(F.jobs.length-k).toNat,⟨by omega,by omega,Fr.refl _ _,P,rfl,x1⟩,?_⟩
 rintro k w8 ⟨hk0,hk1,f8,P',hP,x8⟩
 have ll:=zgA F k.toNat
 refine⟨fun hlt=>?_,fun hge w9 h9=>⟨rfl,P',hP,?_,((zac e01).tr f8).tr (zac h9)⟩⟩
 ·have c8:Go.Sx.cell w8 p1 0=some (.pointer (ptr fb)):=zdt c1 f8 np
  obtain⟨r,hr,hF,hjp,hne,_,g,hJ,hok,hwf⟩:=x8.st hk0 (by omega)
  have hja:zaf (lostTo F k.toNat) k.toNat=r.s:=zhe hF
  have nxt:∀{w},FXO O B w fb P' (zb7 (lostTo F k.toNat) k.toNat)->FXO O B w fb P' (lostTo F (k+1).toNat):=fun h=>by rw[show(k+1).toNat=k.toNat+1 by omega];exact h
  have same:¬(r.s.what=1/\zJ4 (lostTo F k.toNat) r.s=true)->lostTo F (k+1).toNat=lostTo F k.toNat:=fun h=>by
   rw[show(k+1).toNat=k.toNat+1 by omega,lostTo,zb7,hja,if_neg h]
  refine⟨_,c8,ne,ne,_,_,_,x8.cell (i:=6) rfl,hjp,hk0,by rw[x8.len];omega,hne,hne,_,g 11 _ rfl,fun _=>hne,fun _=>hne,fun _=>by rw[zaM];exact hne,fun hw=>?_,fun hw=>⟨i64 (by omega),⟨by omega,by omega,f8,P',hP,by rw[same fun h=>hw h.1];exact x8⟩,by simp only[];omega⟩⟩
  refine⟨_,_,_,by rw[zaM];exact g 10 _ rfl,fun w17 h17=>?_⟩
  have hin:∀y∈r.s.job.aft,1<=y/\y<=(lostTo F k.toNat).jobs.length:=fun y hy=>by have:=zq4 ha k.toNat (by omega) _ _ hF y hy;omega
  have hlen:=hok.len
  refine(zn6 r.pf r.cf r.s.job.aft (by omega) _ (fun y=>decide (zaX (lostTo F k.toNat) y=4)||decide (zaX (lostTo F k.toNat) y=5)) w17 (hJ.2.ext h17) fun y hy w' hw'=>⟨zdp,#[.pointer p1],rfl,zI9 (x8.ext (h17.trans hw')) (zaH (h17.trans hw') c8) (hin y hy)⟩).mono fun v w18 ⟨e18,b,hv,hb⟩=>⟨e18,b,hv,fun hbt=>⟨hne,hne,?_⟩,fun hbf=>⟨i64 (by omega),⟨by omega,by omega,f8,P',hP,?_⟩,by simp only[];omega⟩⟩
  ·have hbad:zJ4 (lostTo F k.toNat) r.s=true:=by
    obtain⟨y,hy,h3⟩:=hb.1 hbt
    exact List.any_eq_true.2 ⟨y,hy,h3⟩
   refine x8.put hk0 (by omega) (by omega) 5 (by simp) fun w20 P'' hP'' x20 f20=>⟨i64 (by omega),⟨by omega,by omega,f8.tr (by rw[hP] at f20;exact f20),P'',hP''.trans hP,?_⟩,by simp only[];omega⟩
   rw[show(k+1).toNat=k.toNat+1 by omega,lostTo,zb7,hja,if_pos ⟨hw,hbad⟩]
   exact x20
  ·rw[same fun h=>?_]
   ·exact x8
   ·obtain⟨y,hy,h3⟩:=List.any_eq_true.1 h.2
    have:=hb.2 ⟨y,hy,h3⟩
    rw[hbf] at this;cases this
 ·have:k.toNat=F.jobs.length:=by omega
  rw[this] at x8
  exact x8.ext h9
def LvOk(F:Fm)(k:Nat):Prop:=zj4 F.hosts/\0<=(zaf F k).host/\(zaf F k).host<F.hosts.length/\zjv (zaf F k).job.nd (F.hosts.getD (zaf F k).host.toNat default).used
def zkM(F:Fm)(k:Nat):Fm:={ F with hosts:=F.hosts.set (zaf F k).host.toNat (zh3 (F.hosts.getD (zaf F k).host.toNat default) (zhR (F.hosts.getD (zaf F k).host.toNat default).used (zaf F k).job.nd)) }
def zdQ(F:Fm)(k:Nat):Fm:=stF (stF (zkM F k) k 12 0) k 13 0
theorem zCf(x:FXO O B w fb P F){k:Int}(h0:0<=k)(h1:k<F.jobs.length)(hv:LvOk F k.toNat):FnP Tryz.prog zbR #[.pointer (ptr fb),.pointer (pIdx P.jp k 16)] w fun v w'=>v=.tuple #[]/\∃P',P'.jp=P.jp/\FXO O B w' fb P' (zdQ F k.toNat)/\Fr (ft fb P.jp) w w':=by
 have ne:=zaG fb
 obtain⟨r,hr,hF,hjp,hne,_,g,hJ,hok,hwf⟩:=x.st h0 h1
 have hja:zaf F k.toNat=r.s:=zhe hF
 unfold LvOk at hv
 rw[hja] at hv
 refine zk8 (ptr fb) (pIdx P.jp k 16) w _ ⟨ne,ne,_,_,_,x.cell (i:=0) rfl,hne,hne,_,g 12 _ rfl,hne,hne,by rw[zaM];exact hne,by rw[zaM];exact fun h=>hne (zc3.1 h),_,by rw[zaM];exact g 2 _ rfl,_,by rw[zaM,zam];have:=g 3 _ rfl;rw[zam] at this;exact this,_,by rw[zaM,zam];have:=g 4 _ rfl;rw[zam] at this;exact this,fun w7 h7=>?_⟩
 have x7:=x.ext h7
 have hO:=x.hO
 refine(Give_k P.hp P.hc F.hosts (by omega) hO.2 r.s.host r.s.job.nd w7 (x7.hs w7 (Fr.refl _ _))).mono fun v w8 ⟨e8,p',n',c',e,hv',hcase⟩=>⟨e8,p',n',c',e,hv',ne,ne,?_⟩
 rcases hcase with⟨_,_,hno⟩|⟨_,_,_,_,rfl,_,hS⟩
 ·exact absurd ⟨hok.nd,hv.2.2.2⟩ (hno hv.1 hv.2.1 hv.2.2.1)
 have x8:=x7.ext e8
 refine zaU (off:=0) x8.slot rfl (by simp) (by simp) (by intro u hu;simp at hu;subst hu;rfl) (by simp) fun w13 o13 g13=>⟨hne,hne,?_⟩
 have hG:zkM F k.toNat={ F with hosts:=F.hosts.set r.s.host.toNat (zh3 (F.hosts.getD r.s.host.toNat default) (zhR (F.hosts.getD r.s.host.toNat default).used r.s.job.nd)) }:=by unfold zkM;rw[hja]
 have fg:Fr (ft fb P.jp) w8 w13:=zaR g13 fun a ha=>by cases ha;exact .inl rfl
 obtain⟨y,f13⟩:=x8.slot_to (F':=zkM F k.toNat) (P':={ P with hp:=p',hc:=c' }) (by
  rw[hG]
  show Own B w13 zdb 7 (ptr fb) 1 1 [.slice p' (F.hosts.set _ _).length c',_,_,_,_,_,_]
  rw[List.length_set];exact o13) g13 rfl rfl rfl rfl (fun w'' kf=>by
   rw[hG]
   exact hS (ftO O fb P.jp) (fun b hb=>by
    rcases hb with hb|hb
    ·exact x7.olt b hb
    ·exact(x7.foot hb).2) w'' ((fg.mono fun b hb=>.inr hb).tr kf)) (by
  rw[hG]
  refine⟨by show(F.hosts.set _ _).length<=30;rw[List.length_set];exact hO.1,fun h hh=>?_⟩
  have hh:h∈F.hosts.set r.s.host.toNat (zh3 (F.hosts.getD r.s.host.toNat default) (zhR (F.hosts.getD r.s.host.toNat default).used r.s.job.nd)):=hh
  rcases List.mem_or_eq_of_mem_set hh with hh|rfl
  ·exact hO.2 h hh
  ·have:=hO.2 _ (zaq F.hosts default (i:=r.s.host.toNat) (by omega))
   exact⟨this.1,this.2.1,this.2.2⟩)
 refine y.put (k:=k) h0 h1 (by omega) 0 (by simp) fun w14 P1 hP1 y14 f14=>⟨hne,hne,?_⟩
 have hP1:P1.jp=P.jp:=hP1
 have:=y14.put (k:=k) (m:=13) h0 (by rw[zcD];exact h1) (by omega) 0 (ns:=[]) (by simp) (K:=fun w15=>∀w16,Ext w15 w16->Value.tuple #[]=.tuple #[]/\∃P',P'.jp=P.jp/\FXO O B w16 fb P' (zdQ F k.toNat)/\Fr (ft fb P.jp) w w16) fun w15 P2 hP2 y15 f15 w16 h16=>⟨rfl,P2,hP2.trans hP1,y15.ext h16,?_⟩
 ·rw[hP1] at this;exact this
 ·rw[hP1] at f15
  exact(((((zac h7).tr (zac e8)).tr f13).tr f14).tr f15).tr (zac h16)
end
def zua(j:Jb):St:=⟨j,1,0,0,0,0⟩
def zta(F:Fm)(j:Jb):Fm:={ F with jobs:=F.jobs++[zua j] }
def zz1(F:Fm)(j:Jb):Prop:=okJ j/\F.jobs.length≠60/\∀y∈j.aft,y<=F.jobs.length/\zaX F y≠4/\zaX F y≠5
structure Pre(F:Fm):Prop where
 aft:zky F
 pol:zoY F.pol
 now:0<=F.now/\F.now<=1099511627776
 run:∀k,k<F.jobs.length->(zaf F k).what=2->LvOk F k
 tries:∀k,k<F.jobs.length->0<=(zaf F k).tries/\(zaf F k).tries<=100
def zFi(w:World)(fb:Nat)(jp jp':Option Addr):Prop:=∀b,ft fb jp' b->ft fb jp b\/w.heap.size<=b
def inJ(F:Fm)(id:Int):Prop:=1<=id/\id<=F.jobs.length
def zHA(F:Fm)(j:Jb)(e:Int):Prop:=(zs7 j≠0/\e=zs7 j)\/(zs7 j=0/\((F.jobs.length=60/\e=7)\/(F.jobs.length≠60/\(((∃y∈j.aft,¬(1<=y/\y<=F.jobs.length))/\e=5)\/((∀y∈j.aft,1<=y/\y<=F.jobs.length) /\
 (((∃y∈j.aft,zaX F y=4\/zaX F y=5)/\e=9)\/((∀y∈j.aft,zaX F y≠4/\zaX F y≠5)/\e=0)))))))
theorem zHA.one{F:Fm}{j:Jb}{e f:Int}(h:zHA F j e)(g:zHA F j f):e=f:=by
 rcases h with⟨h1,rfl⟩|⟨h1,h⟩<;>rcases g with⟨g1,rfl⟩|⟨g1,g⟩
 ·rfl
 ·exact absurd g1 h1
 ·exact absurd h1 g1
 rcases h with⟨h2,rfl⟩|⟨h2,h⟩<;>rcases g with⟨g2,rfl⟩|⟨g2,g⟩
 ·rfl
 ·exact absurd h2 g2
 ·exact absurd g2 h2
 rcases h with⟨⟨y,hy,h3⟩,rfl⟩|⟨h3,h⟩<;>rcases g with⟨⟨z,hz,g3⟩,rfl⟩|⟨g3,g⟩
 ·rfl
 ·exact absurd (g3 y hy) h3
 ·exact absurd (h3 z hz) g3
 rcases h with⟨⟨y,hy,h4⟩,rfl⟩|⟨h4,rfl⟩<;>rcases g with⟨⟨z,hz,g4⟩,rfl⟩|⟨g4,rfl⟩
 ·rfl
 ·have:=g4 y hy;omega
 ·have:=h4 z hz;omega
 ·rfl
def zs4(F:Fm)(id e:Int):Prop:=(¬inJ F id/\e=5)\/(inJ F id/\e=9)
theorem zs4.one{F:Fm}{id e f:Int}(h:zs4 F id e)(g:zs4 F id f):e=f:=by
 rcases h with⟨h1,rfl⟩|⟨h1,rfl⟩<;>rcases g with⟨g1,rfl⟩|⟨g1,rfl⟩
 ·rfl
 ·exact absurd g1 h1
 ·exact absurd h1 g1
 ·rfl
section
variable {O:Nat->Prop} {B fb:Nat} {w:World} {P:Pl} {F:Fm}
theorem zdz(F:Fm)(k:Nat):(zdQ F k).jobs.length=F.jobs.length:=by unfold zdQ;rw[zcD,zcD];rfl
theorem zr1{F:Fm}{k:Nat}(hk:k<F.jobs.length)(i:Nat):zaf (zdQ F k) i=if i=k then { zaf F k with host:=0,since:=0 } else zaf F i:=by
 unfold zdQ
 have hk':k<(zkM F k).jobs.length:=hk
 rw[zqj _ _ (by rw[zcD];exact hk'),zqj _ _ hk',if_pos rfl]
 split
 ·rfl
 ·rename_i h
  rw[zqj _ _ hk',if_neg h];rfl
theorem zti{F:Fm}{k:Nat}(hk:k<F.jobs.length)(ha:zky F):zky (zdQ F k):=by
 unfold zdQ
 have hk':k<(zkM F k).jobs.length:=hk
 exact zqJ (by rw[zcD];exact hk') (zqJ hk' ha)
def zfq(F:Fm)(k:Nat):Fm:=stF (zdQ F k) k 15 ((zaf F k).tries+1)
def zs8(F:Fm)(k:Nat)(ok:Bool):Fm :=
 if ok=true then stF (zdQ F k) k 11 3
 else if (zaf F k).tries+1<=F.pol.tries then stF (stF (zfq F k) k 11 1) k 14 (F.now+zxZ F.pol ((zaf F k).tries+1))
 else zpY (stF (zfq F k) k 11 4)
def zzn(F:Fm)(k:Nat):Fm:=zpY (stF (if (zaf F k).what=2 then zdQ F k else F) k 11 5)
theorem FXO.at_(x:FXO O B w fb P F){id:Int}(h:inJ F id):pIdx P.jp (id-1) 16≠none/\(∀(m:Nat) u,(ztw ⟨zaf F (id-1).toNat,none,0,none,0⟩)[m]?=some u->11<=m->Go.Sx.cell w (pAdd (pIdx P.jp (id-1) 16) m) 0=some u):=by
 obtain⟨r,hr,hF,_,hne,_,g,_⟩:=x.st (k:=id-1) (by have:=h.1;omega) (by have:=h.2;omega)
 refine⟨hne,fun m u hu hm=>g m u ?_⟩
 rw[zhe hF] at hu
 match m,hm with
 |m+11,_ =>
  rw[<-hu]
  rfl
theorem zyM(x:FXO O B w fb P F)(hp:Pre F)(id:Int)(hid:InR .i64 id)(ok:Bool) :
  FnP Tryz.prog zbf #[.pointer (ptr fb),.int .i64 id,.bool ok] w fun v w'=>∃e:Int,v=.int .i64 e/\(e=0↔inJ F id/\(zaf F (id-1).toNat).what=2)/\((e≠0/\zs4 F id e/\Ext w w')\/(e=0/\∃P',P'.jp=P.jp/\FXO O B w' fb P' (zs8 F (id-1).toNat ok)/\Fr (ft fb P.jp) w w')):=by
 have ne:=zaG fb
 refine zj8 (ptr fb) id ok w _ fun w0 h0=>(zEs (x.ext h0) id hid).mono fun v w1 ⟨e1,hv⟩=>⟨e1,?_⟩
 have h1:=h0.trans e1
 rcases hv with⟨hno,rfl⟩|⟨hi0,hi1,rfl⟩
 ·exact⟨_,rfl,fun _ w3 h3=>⟨5,rfl,⟨fun h=>(by cases h),fun h=>absurd h.1 hno⟩,.inl ⟨by decide,.inl ⟨hno,rfl⟩,h1.trans h3⟩⟩,fun h=>absurd rfl h⟩
 have hin:inJ F id:=⟨hi0,hi1⟩
 have x1:=x.ext h1
 obtain⟨hne,g⟩:=x1.at_ hin
 have hk:(id-1).toNat<F.jobs.length:=by omega
 refine⟨_,rfl,fun h=>absurd h hne,fun _=>⟨hne,hne,_,g 11 _ rfl (by omega),fun hw w4 h4=>⟨9,rfl,⟨fun h=>(by cases h),fun h=>absurd h.2 hw⟩,.inl ⟨by decide,.inr ⟨hin,rfl⟩,h1.trans h4⟩⟩,fun hw w4 h4=>?_⟩⟩
 have hiff:(0:Int)=0↔inJ F id/\(zaf F (id-1).toNat).what=2:=⟨fun _=>⟨hin,hw⟩,fun _=>rfl⟩
 refine(zCf (x1.ext h4) (k:=id-1) (by omega) (by omega) (hp.run _ hk hw)).mono fun v w5 ⟨hv,P1,hP1,y5,f5⟩=>⟨hv,fun hok=>⟨hne,hne,?_⟩,fun hok=>?_⟩
 ·have hin5:inJ (zdQ F (id-1).toNat) id:=⟨hi0,by rw[zdz];exact hi1⟩
  have:=y5.put (k:=id-1) (m:=11) (by omega) (by rw[zdz];omega) (by omega) 3 (ns:=[]) (by simp) (K:=fun w6=>∀w7,Ext w6 w7->∃e:Int,Value.int .i64 0=.int .i64 e/\(e=0↔inJ F id/\(zaf F (id-1).toNat).what=2)/\((e≠0/\zs4 F id e/\Ext w w7)\/(e=0/\∃P',P'.jp=P.jp/\FXO O B w7 fb P' (zs8 F (id-1).toNat ok)/\Fr (ft fb P.jp) w w7))) fun w6 P2 hP2 y6 f6 w7 h7=>⟨0,rfl,hiff,.inr ⟨rfl,P2,hP2.trans hP1,?_,?_⟩⟩
  ·rw[hP1] at this;exact this
  ·unfold zs8;rw[if_pos hok];exact y6.ext h7
  ·rw[hP1] at f6
   exact((((zac h1).tr (zac h4)).tr f5).tr f6).tr (zac h7)
 have hkl:(id-1).toNat<(zdQ F (id-1).toNat).jobs.length:=by rw[zdz];exact hk
 have hin5:inJ (zdQ F (id-1).toNat) id:=⟨hi0,by rw[zdz];exact hi1⟩
 obtain⟨_,g5⟩:=y5.at_ hin5
 rw[hP1,zr1 hk,if_pos rfl] at g5
 have htr:=hp.tries _ hk
 refine⟨hne,hne,_,g5 15 _ rfl (by omega),i64 (by simp only[];omega),hne,hne,?_⟩
 have goal:∀{w7:World}{P2:Pl},P2.jp=P.jp->FXO O B w7 fb P2 (zfq F (id-1).toNat)->Fr (ft fb P.jp) w w7->(ptr fb≠none/\ptr fb≠none/\(pAdd (ptr fb) 1)≠none /\
   ∃t8:Int,Go.Sx.cell w7 (pAdd (ptr fb) 1) 0=some (.int .i64 t8)/\∃t9:Int,Go.Sx.cell w7 (pAdd (ptr fb) 1) 1=some (.int .i64 t9)/\∃t10:Int,Go.Sx.cell w7 (pAdd (ptr fb) 1) 2=some (.int .i64 t10)/\∃t11:Int,Go.Sx.cell w7 (pAdd (ptr fb) 1) 3=some (.int .i64 t11) /\
   (pIdx P.jp (id-1) 16)≠none/\(pIdx P.jp (id-1) 16)≠none/\∃t12:Int,Go.Sx.cell w7 (pAdd (pIdx P.jp (id-1) 16) 15) 0=some (.int .i64 t12) /\
   ∀w13,Ext w7 w13->FnP Tryz.prog zeP #[(.agg #[(.int .i64 t8),(.int .i64 t9),(.int .i64 t10),(.int .i64 t11)]),(.int .i64 t12)] w13 fun v14 w14=>Ext w13 w14/\∃t15:Int,∃t16:Int,v14=(.tuple #[(.int .i64 t15),(.int .i64 t16)]) /\
    (((
      t16≠0)->(pIdx P.jp (id-1) 16)≠none/\(pIdx P.jp (id-1) 16)≠none/\zan w7 (pAdd (pIdx P.jp (id-1) 16) 11) [(.int .i64 4)] [] fun w17=>∀w18,Ext w17 w18 ->
      FnP Tryz.prog zaz #[(.pointer (ptr fb))] w18 fun v19 w19=>v19=(.tuple #[])/\∀w20,Ext w19 w20->∃e:Int,Value.int .i64 0=.int .i64 e/\(e=0↔inJ F id/\(zaf F (id-1).toNat).what=2)/\((e≠0/\zs4 F id e/\Ext w w20)\/(e=0/\∃P',P'.jp=P.jp/\FXO O B w20 fb P' (zs8 F (id-1).toNat ok)/\Fr (ft fb P.jp) w w20)))) /\
    ((
     t16=0)->ptr fb≠none/\ptr fb≠none/\∃t17:Int,Go.Sx.cell w7 (pAdd (ptr fb) 5) 0=some (.int .i64 t17)/\InR .i64 (t17+t15)/\(pIdx P.jp (id-1) 16)≠none/\(pIdx P.jp (id-1) 16)≠none /\
     zan w7 (pAdd (pIdx P.jp (id-1) 16) 11) [(.int .i64 1)] [] fun w18=>(pIdx P.jp (id-1) 16)≠none/\(pIdx P.jp (id-1) 16)≠none/\zan w18 (pAdd (pIdx P.jp (id-1) 16) 14) [(.int .i64 (t17+t15))] [] fun w19=>∀w20,Ext w19 w20 ->
       ∃e:Int,Value.int .i64 0=.int .i64 e/\(e=0↔inJ F id/\(zaf F (id-1).toNat).what=2)/\((e≠0/\zs4 F id e/\Ext w w20)\/(e=0/\∃P',P'.jp=P.jp/\FXO O B w20 fb P' (zs8 F (id-1).toNat ok)/\Fr (ft fb P.jp) w w20)))):=by
  intro w7 P2 hP2 y7 f7
  have hin7:inJ (zfq F (id-1).toNat) id:=⟨hi0,by unfold zfq;rw[zcD,zdz];exact hi1⟩
  obtain⟨_,g7⟩:=y7.at_ hin7
  have hat7:zaf (zfq F (id-1).toNat) (id-1).toNat={ zaf F (id-1).toNat with host:=0,since:=0,tries:=(zaf F (id-1).toNat).tries+1 }:=by
   unfold zfq
   rw[zqj _ _ hkl,if_pos rfl,zr1 hk,if_pos rfl];rfl
  rw[hP2,hat7] at g7
  have hlt:(zfq F (id-1).toNat).jobs.length=F.jobs.length:=by unfold zfq;rw[zcD,zdz]
  have hpl:(zfq F (id-1).toNat).pol=F.pol:=rfl
  have hnw:(zfq F (id-1).toNat).now=F.now:=rfl
  have pc:∀(i:Nat)(v:Value),(fcs P2 (zfq F (id-1).toNat))[1+i]?=some v->Go.Sx.cell w7 (pAdd (ptr fb) 1) i=some v:=fun i v hv=>by
   have:=y7.cell hv
   rw[zam] at this ⊢
   exact this
  have hdly:1<=(zaf F (id-1).toNat).tries+1:=by omega
  refine⟨ne,ne,(fun h=>ne (zc3.1 h)),_,pc 0 _ rfl,_,pc 1 _ rfl,_,pc 2 _ rfl,_,pc 3 _ rfl,hne,hne,_,g7 15 _ rfl (by omega),fun w13 h13=>?_⟩
  refine(zIe F.pol.first F.pol.times F.pol.most F.pol.tries _ (i64 (by simp only[];omega)) w13).mono fun v w14 ⟨e14,d,e,hv,herr,_,hd⟩=>⟨e14,d,e,hv,fun hne'=>⟨hne,hne,?_⟩,fun hz=>⟨ne,ne,_,y7.cell (i:=5) rfl,?_,hne,hne,?_⟩⟩
  ·have hgt:¬(zaf F (id-1).toNat).tries+1<=F.pol.tries:=fun h=>hne' (herr.2.2 hp.pol ⟨hdly,h⟩)
   have:=y7.put (k:=id-1) (m:=11) (by omega) (by rw[hlt];omega) (by omega) 4 (ns:=[]) (by simp) (K:=fun w17=>∀w18,Ext w17 w18 ->
      FnP Tryz.prog zaz #[(.pointer (ptr fb))] w18 fun v19 w19=>v19=(.tuple #[])/\∀w20,Ext w19 w20->∃e:Int,Value.int .i64 0=.int .i64 e/\(e=0↔inJ F id/\(zaf F (id-1).toNat).what=2)/\((e≠0/\zs4 F id e/\Ext w w20)\/(e=0/\∃P',P'.jp=P.jp/\FXO O B w20 fb P' (zs8 F (id-1).toNat ok)/\Fr (ft fb P.jp) w w20))) fun w17 P3 hP3 y17 f17 w18 h18=>(zG1 (y17.ext h18) (zqJ (by rw[hlt];exact hk) (zqJ hkl (zti hk hp.aft)))).mono fun v w19 ⟨hv,P4,hP4,y19,f19⟩=>⟨hv,fun w20 h20=>⟨0,rfl,hiff,.inr ⟨rfl,P4,hP4.trans (hP3.trans hP2),?_,?_⟩⟩⟩
   ·rw[hP2] at this;exact this
   ·unfold zs8;rw[if_neg (by rw[hok];simp),if_neg hgt];exact y19.ext h20
   ·rw[hP3,hP2] at f19
    rw[hP2] at f17
    exact(((f7.tr f17).tr (zac h18)).tr f19).tr (zac h20)
  ·have hle:(zaf F (id-1).toNat).tries+1<=F.pol.tries:=by
    by_cases h:(zaf F (id-1).toNat).tries+1<=F.pol.tries
    ·exact h
    ·have:=herr.2.1 hp.pol (.inr (by simp only[];omega));omega
   have hdb:=zoq hp.pol ((zaf F (id-1).toNat).tries+1-1).toNat
   have hd':d=dl F.pol.first F.pol.times F.pol.most ((zaf F (id-1).toNat).tries+1-1).toNat:=hd hz
   have hpp:=hp.pol
   have hnn:=hp.now
   unfold zoY okP at hpp
   rw[hnw]
   exact i64 (by omega)
  ·have hle:(zaf F (id-1).toNat).tries+1<=F.pol.tries:=by
    by_cases h:(zaf F (id-1).toNat).tries+1<=F.pol.tries
    ·exact h
    ·have:=herr.2.1 hp.pol (.inr (by simp only[];omega));omega
   have hd':d=zxZ F.pol ((zaf F (id-1).toNat).tries+1):=hd hz
   have:=y7.put (k:=id-1) (m:=11) (by omega) (by rw[hlt];omega) (by omega) 1 (ns:=[]) (by simp) (K:=fun w18=>(pIdx P.jp (id-1) 16)≠none/\(pIdx P.jp (id-1) 16)≠none/\zan w18 (pAdd (pIdx P.jp (id-1) 16) 14) [(.int .i64 (F.now+d))] [] fun w19=>∀w20,Ext w19 w20 ->
       ∃e:Int,Value.int .i64 0=.int .i64 e/\(e=0↔inJ F id/\(zaf F (id-1).toNat).what=2)/\((e≠0/\zs4 F id e/\Ext w w20)\/(e=0/\∃P',P'.jp=P.jp/\FXO O B w20 fb P' (zs8 F (id-1).toNat ok)/\Fr (ft fb P.jp) w w20))) fun w18 P3 hP3 y18 f18=>⟨hne,hne,?_⟩
   ·rw[hP2] at this;exact this
   have hP3:=hP3.trans hP2
   have:=y18.put (k:=id-1) (m:=14) (by omega) (by rw[zcD,hlt];omega) (by omega) (F.now+d) (ns:=[]) (by simp) (K:=fun w19=>∀w20,Ext w19 w20 ->
       ∃e:Int,Value.int .i64 0=.int .i64 e/\(e=0↔inJ F id/\(zaf F (id-1).toNat).what=2)/\((e≠0/\zs4 F id e/\Ext w w20)\/(e=0/\∃P',P'.jp=P.jp/\FXO O B w20 fb P' (zs8 F (id-1).toNat ok)/\Fr (ft fb P.jp) w w20))) fun w19 P4 hP4 y19 f19 w20 h20=>⟨0,rfl,hiff,.inr ⟨rfl,P4,hP4.trans hP3,?_,?_⟩⟩
   ·rw[hP3] at this;exact this
   ·unfold zs8;rw[if_neg (by rw[hok];simp),if_pos hle,<-hd'];exact y19.ext h20
   ·rw[hP3] at f19
    rw[hP2] at f18
    exact((f7.tr f18).tr f19).tr (zac h20)
 have:=y5.put (k:=id-1) (m:=15) (by omega) (by rw[zdz];omega) (by omega) ((zaf F (id-1).toNat).tries+1) (ns:=[]) (by simp) fun w7 P2 hP2 y7 f7=>goal (hP2.trans hP1) y7 (by
  rw[hP1] at f7
  exact(((zac h1).tr (zac h4)).tr f5).tr f7)
 rw[hP1] at this
 exact this
theorem zxQ(x:FXO O B w fb P F)(hp:Pre F)(id:Int)(hid:InR .i64 id) :
  FnP Tryz.prog zcp #[.pointer (ptr fb),.int .i64 id] w fun v w'=>∃e:Int,v=.int .i64 e/\(e=0↔inJ F id/\((zaf F (id-1).toNat).what=1\/(zaf F (id-1).toNat).what=2))/\((e≠0/\zs4 F id e/\Ext w w')\/(e=0/\∃P',P'.jp=P.jp/\FXO O B w' fb P' (zzn F (id-1).toNat)/\Fr (ft fb P.jp) w w')):=by
 have ne:=zaG fb
 refine zj7 (ptr fb) id w _ fun w0 h0=>(zEs (x.ext h0) id hid).mono fun v w1 ⟨e1,hv⟩=>⟨e1,?_⟩
 have h1:=h0.trans e1
 rcases hv with⟨hno,rfl⟩|⟨hi0,hi1,rfl⟩
 ·exact⟨_,rfl,fun _ w3 h3=>⟨5,rfl,⟨fun h=>(by cases h),fun h=>absurd h.1 hno⟩,.inl ⟨by decide,.inl ⟨hno,rfl⟩,h1.trans h3⟩⟩,fun h=>absurd rfl h⟩
 have hin:inJ F id:=⟨hi0,hi1⟩
 have x1:=x.ext h1
 obtain⟨hne,g⟩:=x1.at_ hin
 have hk:(id-1).toNat<F.jobs.length:=by omega
 have g11:=g 11 _ rfl (by omega)
 have fin:∀{w6:World}{P1:Pl}{G:Fm},P1.jp=P.jp->FXO O B w6 fb P1 G->G.jobs.length=F.jobs.length->zky G->Fr (ft fb P.jp) w w6->zzn F (id-1).toNat=zpY (stF G (id-1).toNat 11 5)->((zaf F (id-1).toNat).what=1\/(zaf F (id-1).toNat).what=2) ->
   zan w6 (pAdd (pIdx P.jp (id-1) 16) 11) [(.int .i64 5)] [] fun w7=>∀w8,Ext w7 w8->FnP Tryz.prog zaz #[(.pointer (ptr fb))] w8 fun v9 w9=>v9=(.tuple #[])/\∀w10,Ext w9 w10 ->
    ∃e:Int,Value.int .i64 0=.int .i64 e/\(e=0↔inJ F id/\((zaf F (id-1).toNat).what=1\/(zaf F (id-1).toNat).what=2))/\((e≠0/\zs4 F id e/\Ext w w10)\/(e=0/\∃P',P'.jp=P.jp/\FXO O B w10 fb P' (zzn F (id-1).toNat)/\Fr (ft fb P.jp) w w10)):=by
  intro w6 P1 G hP1 y6 hGl hGa f6 hc hw
  have:=y6.put (k:=id-1) (m:=11) (by omega) (by omega) (by omega) 5 (ns:=[]) (by simp) (K:=fun w7=>∀w8,Ext w7 w8->FnP Tryz.prog zaz #[(.pointer (ptr fb))] w8 fun v9 w9=>v9=(.tuple #[])/\∀w10,Ext w9 w10 ->
    ∃e:Int,Value.int .i64 0=.int .i64 e/\(e=0↔inJ F id/\((zaf F (id-1).toNat).what=1\/(zaf F (id-1).toNat).what=2))/\((e≠0/\zs4 F id e/\Ext w w10)\/(e=0/\∃P',P'.jp=P.jp/\FXO O B w10 fb P' (zzn F (id-1).toNat)/\Fr (ft fb P.jp) w w10))) fun w7 P2 hP2 y7 f7 w8 h8=>(zG1 (y7.ext h8) (zqJ (by omega) hGa)).mono fun v w9 ⟨hv,P3,hP3,y9,f9⟩=>⟨hv,fun w10 h10=>⟨0,rfl,⟨fun _=>⟨hin,hw⟩,fun _=>rfl⟩,.inr ⟨rfl,P3,hP3.trans (hP2.trans hP1),?_,?_⟩⟩⟩
  ·rw[hP1] at this;exact this
  ·rw[hc];exact y9.ext h10
  ·rw[hP2,hP1] at f9
   rw[hP1] at f7
   exact(((f6.tr f7).tr (zac h8)).tr f9).tr (zac h10)
 refine⟨_,rfl,fun h=>absurd h hne,fun _=>⟨hne,hne,_,g11,fun _=>hne,fun _=>hne,fun hw1=>⟨_,g11,fun hw2 w5 h5=>⟨9,rfl,⟨fun h=>(by cases h),fun h=>(h.2.elim (fun h=>hw1 h) (fun h=>hw2 h)).elim⟩,.inl ⟨by decide,.inr ⟨hin,rfl⟩,h1.trans h5⟩⟩,fun hw2=>⟨hne,hne,_,g11,fun _ w6 h6=>?_,fun h=>absurd hw2 h⟩⟩,fun hw1=>⟨hne,hne,_,g11,fun h=>by omega,fun hw2=>⟨hne,hne,?_⟩⟩⟩⟩
 ·refine(zCf (x1.ext h6) (k:=id-1) (by omega) (by omega) (hp.run _ hk hw2)).mono fun v w7 ⟨hv,P1,hP1,y7,f7⟩=>⟨hv,hne,hne,?_⟩
  exact fin hP1 y7 (zdz _ _) (zti hk hp.aft) (((zac h1).tr (zac h6)).tr f7) (by unfold zzn;rw[if_pos hw2]) (.inr hw2)
 ·exact fin rfl x1 rfl hp.aft (zac h1) (by unfold zzn;rw[if_neg hw2]) (.inl hw1)
end
def zpd(F:Fm)(id:Int):Int:=(zaf F (id-1).toNat).job.prio
def zcy(F:Fm)(a b:Int):Prop:=zpd F b<zpd F a\/zpd F a=zpd F b/\a<b
def zjo(F:Fm):Nat->List Int
 |0 => []
 |k+1 => if zfS F (zaf F k)=true then zjo F k++[(k:Int)+1] else zjo F k
abbrev rdy(F:Fm):List Int:=zjo F F.jobs.length
theorem zgB{F:Fm}{x:Int}:∀{k:Nat},x∈zjo F k↔1<=x/\x<=k/\zfS F (zaf F (x-1).toNat)=true
 |0 => by simp[zjo];omega
 |k+1 => by
  have ih:=zgB (F:=F) (x:=x) (k:=k)
  unfold zjo
  split
  ·rename_i h
   rw[List.mem_append,ih]
   constructor
   ·rintro (⟨h1,h2,h3⟩|h1)
    ·exact⟨h1,by omega,h3⟩
    ·simp at h1;subst h1
     exact⟨by omega,by omega,by rw[show((k:Int)+1-1).toNat=k by omega];exact h⟩
   ·rintro⟨h1,h2,h3⟩
    by_cases h4:x<=k
    ·exact .inl ⟨h1,h4,h3⟩
    ·exact .inr (by simp;omega)
  ·rename_i h
   rw[ih]
   constructor
   ·rintro⟨h1,h2,h3⟩;exact⟨h1,by omega,h3⟩
   ·rintro⟨h1,h2,h3⟩
    refine⟨h1,?_,h3⟩
    by_cases h4:x<=k
    ·exact h4
    ·have:(x-1).toNat=k:=by omega
     rw[this] at h3
     exact absurd h3 h
theorem zhq(F:Fm):∀k,(zjo F k).Nodup
 |0 => by simp[zjo]
 |k+1 => by
  unfold zjo
  split
  ·refine List.nodup_append.2 ⟨zhq F k,by simp,fun a ha b hb=>?_⟩
   simp at hb;subst hb
   have:=(zgB.1 ha).2.1
   omega
  ·exact zhq F k
theorem zpf(F:Fm):∀k,(zjo F k).length<=k
 |0 => by simp[zjo]
 |k+1 => by
  have:=zpf F k
  unfold zjo
  split
  ·rw[List.length_append];simp;omega
  ·omega
def zqV(F:Fm)(k:Int):Ht:=F.hosts.getD k.toNat default
def zlm(G:Fm)(k0:Nat)(k:Int):Fm:={ G with hosts:=G.hosts.set k.toNat (zh3 (zqV G k) (zvu (zqV G k).used (zaf G k0).job.nd)) }
def zs9(G:Fm)(k0:Nat)(k:Int):Fm:=stF (stF (stF (zlm G k0 k) k0 11 2) k0 12 k) k0 13 G.now
theorem zJA(G:Fm)(k0:Nat)(k:Int):(zs9 G k0 k).jobs.length=G.jobs.length:=by unfold zs9;rw[zcD,zcD,zcD];rfl
theorem run_at{G:Fm}{k0:Nat}(hk:k0<G.jobs.length)(k:Int)(i:Nat):zaf (zs9 G k0 k) i=if i=k0 then { zaf G k0 with what:=2,host:=k,since:=G.now } else zaf G i:=by
 unfold zs9
 have hk':k0<(zlm G k0 k).jobs.length:=hk
 rw[zqj _ _ (by rw[zcD,zcD];exact hk'),zqj _ _ (by rw[zcD];exact hk'),zqj _ _ hk',if_pos rfl,if_pos rfl]
 split
 ·rfl
 ·rename_i h
  rw[zqj _ _ (by rw[zcD];exact hk'),if_neg h,zqj _ _ hk',if_neg h];rfl
theorem zF3{G:Fm}{k0:Nat}(hk:k0<G.jobs.length)(k:Int):(zs9 G k0 k).jobs.map (·.job)=G.jobs.map (·.job):=by
 unfold zs9
 have hk':k0<(zlm G k0 k).jobs.length:=hk
 rw[zsF _ _ (by rw[zcD,zcD];exact hk'),zsF _ _ (by rw[zcD];exact hk'),zsF _ _ hk'];rfl
theorem zJi{a b c:Nd}(ha:okN a)(hb:okN b)(hc:okN c)(h:zjv a (zhR c b)):okN (zvu b a)/\zjv (zvu b a) c:=by
 unfold okN zjv zhR zvu at *
 simp only at *
 omega
theorem zug{L:List Ht}{i:Nat}(h:zj4 L)(hi:i<L.length){s:Nd}(h1:okN s)(h2:zjv s (L.getD i default).has):zj4 (L.set i (zh3 (L.getD i default) s)):=by
 have hm:=zaq L default (i:=i) hi
 refine⟨by rw[List.length_set];exact h.1,fun x hx=>?_,?_⟩
 ·rcases List.mem_or_eq_of_mem_set hx with hx|rfl
  ·exact h.2.1 x hx
  ·obtain⟨a,b,c,d,_,_⟩:=h.2.1 _ hm
   exact⟨a,b,c,d,h1,h2⟩
 ·have:(L.set i (zh3 (L.getD i default) s)).map (·.name)=L.map (·.name):=by
   rw[List.map_set]
   refine List.ext_getElem? fun j=>?_
   rw[List.getElem?_set]
   by_cases hj:i=j
   ·subst hj
    simp[List.getD_eq_getElem?_getD,hi,zh3]
   ·simp[hj]
  rw[this]
  exact h.2.2
theorem zuf{G:Fm}{k0:Nat}{k:Int}(h:zj4 G.hosts)(h0:0<=k)(h1:k<G.hosts.length)(ha:okN (zaf G k0).job.nd)(hf:zjv (zaf G k0).job.nd (zhR (zqV G k).has (zqV G k).used)):zj4 (zlm G k0 k).hosts:=by
 have hm:=zaq G.hosts default (i:=k.toNat) (by omega)
 obtain⟨_,_,_,c,d,_⟩:=h.2.1 _ hm
 obtain⟨a1,a2⟩:=zJi ha d c hf
 exact zug h (by omega) a1 a2
abbrev zzE(G:Fm)(id:Int):List Int:=zcz G.hosts (zaf G (id-1).toNat).job.ask (zaf G (id-1).toNat).job.nd G.hosts.length
inductive zpO:Fm->List Int->Fm->List (Int×Int)->Prop
 |nil (F:Fm):zpO F [] F []
 |skip {F F':Fm} {id:Int} {ids:List Int} {out:List (Int×Int)}:zzE F id=[]->zpO F ids F' out->zpO F (id::ids) F' out
 |run {F F':Fm} {id k:Int} {ids:List Int} {out:List (Int×Int)}:zh8 F.hosts (zaf F (id-1).toNat).job.ask (zaf F (id-1).toNat).job.nd k->zpO (zs9 F (id-1).toNat k) ids F' out->zpO F (id::ids) F' ((id,k)::out)
theorem zpO.snoc_skip{F F':Fm}{id:Int}{ids:List Int}{out:List (Int×Int)}(h:zpO F ids F' out)(hs:zzE F' id=[]):zpO F (ids++[id]) F' out:=by
 induction h with
 |nil F => exact .skip hs (.nil F)
 |skip h1 _ ih => exact .skip h1 (ih hs)
 |run h1 _ ih => exact .run h1 (ih hs)
theorem zpO.snoc_run{F F':Fm}{id k:Int}{ids:List Int}{out:List (Int×Int)}(h:zpO F ids F' out)(hs:zh8 F'.hosts (zaf F' (id-1).toNat).job.ask (zaf F' (id-1).toNat).job.nd k):zpO F (ids++[id]) (zs9 F' (id-1).toNat k) (out++[(id,k)]):=by
 induction h with
 |nil F => exact .run hs (.nil _)
 |skip h1 _ ih => exact .skip h1 (ih hs)
 |run h1 _ ih => exact .run h1 (ih hs)
theorem zpO.one{F F1:Fm}{ids:List Int}{o1:List (Int×Int)}(h:zpO F ids F1 o1):∀{F2:Fm} {o2:List (Int×Int)},zpO F ids F2 o2->F1=F2/\o1=o2:=by
 induction h with
 |nil F => intro F2 o2 g;cases g;exact⟨rfl,rfl⟩
 |skip h1 _ ih =>
  intro F2 o2 g
  cases g with
  |skip _ g2 => exact ih g2
  |run g1 _ => have:=g1.1;unfold zzE at h1;rw[h1] at this;cases this
 |run h1 _ ih =>
  intro F2 o2 g
  cases g with
  |skip g1 _ => have:=h1.1;unfold zzE at g1;rw[g1] at this;cases this
  |run g1 g2 =>
   obtain rfl:=zEv h1 g1
   obtain⟨rfl,rfl⟩:=ih g2
   exact⟨rfl,rfl⟩
def zHw(F:Fm)(T:List Int):Prop:=T.Perm (rdy F)/\T.Pairwise (zcy F)
theorem ztj{F:Fm}{a b:Int}(h:zcy F a b):¬zcy F b a:=by unfold zcy at *;omega
theorem zCF{F:Fm}:∀{T U:List Int},T.Perm U->T.Pairwise (zcy F)->U.Pairwise (zcy F)->T=U
 |[],U,hp,_,_ => by have:=hp.length_eq;simp at this;exact(List.eq_nil_of_length_eq_zero this.symm).symm
 |t::T,[],hp,_,_ => by have:=hp.length_eq;simp at this
 |t::T,u::U,hp,h1,h2 => by
  rw[List.pairwise_cons] at h1 h2
  have htu:t=u:=by
   rcases List.mem_cons.1 (hp.mem_iff.1 (List.mem_cons_self ..)) with h|h
   ·exact h
   rcases List.mem_cons.1 (hp.mem_iff.2 (List.mem_cons_self ..)) with g|g
   ·exact g.symm
   exact absurd (h1.1 u g) (ztj (h2.1 t h))
  subst htu
  rw[zCF (List.Perm.cons_inv hp) h1.2 h2.2]
def zfZ(F G:Fm)(out:List (Int×Int)):Prop:=∃T,zHw F T/\zpO F T G out
theorem zkc{F G1 G2:Fm}{o1 o2:List (Int×Int)}(h:zfZ F G1 o1)(g:zfZ F G2 o2):G1=G2/\o1=o2:=by
 obtain⟨T,⟨a1,a2⟩,a3⟩:=h
 obtain⟨U,⟨b1,b2⟩,b3⟩:=g
 obtain rfl:=zCF (a1.trans b1.symm) a2 b2
 exact a3.one b3
def encO(x:Int×Int):List Value:=[.int .i64 x.1,.int .i64 x.2]
structure QS(n:Nat)(Sq:Nat->Prop)(F:Fm)(qb:Nat)(w':World)(H:List Th):Prop where
 ex:∃mb born p c m,QQ n w' qb mb born p c H m/\Rel H m/\∀b,zhW mb qb p H b->Sq b
 ids:Ids H
 pr:∀t∈H,t.prio=zpd F t.id
 bo:∀t∈H,∀u∈H,t.id<u.id->t.born<u.born
theorem QS.ext{n:Nat}{Sq:Nat->Prop}{F:Fm}{qb:Nat}{w w':World}{H:List Th}(q:QS n Sq F qb w H)(e:Ext w w'):QS n Sq F qb w' H:=by
 obtain⟨mb,born,p,c,m,h1,h2,h3⟩:=q.ex
 exact⟨⟨mb,born,p,c,m,h1.ext e,h2,h3⟩,q.ids,q.pr,q.bo⟩
theorem QS.fr{n:Nat}{Sq S:Nat->Prop}{F:Fm}{qb:Nat}{w w':World}{H:List Th}(q:QS n Sq F qb w H)(f:Fr S w w')(hS:∀b,Sq b->¬S b):QS n Sq F qb w' H:=by
 obtain⟨mb,born,p,c,m,h1,h2,h3⟩:=q.ex
 exact⟨⟨mb,born,p,c,m,h1.fr f fun b hb=>hS b (h3 b hb),h2,h3⟩,q.ids,q.pr,q.bo⟩
def zFQ(qb:Nat)(w:World):Nat:=match Go.Sx.cell w (ptr qb) 0 with|some (.slice _ n _)=>n|_=>0
theorem QS.len{n:Nat}{Sq:Nat->Prop}{F:Fm}{qb:Nat}{w:World}{H:List Th}(q:QS n Sq F qb w H):zFQ qb w=H.length:=by
 obtain⟨mb,born,p,c,m,h1,_⟩:=q.ex
 have:Go.Sx.cell w (ptr qb) 0=some (.slice p H.length c):=h1.qi.slot.cells 0 _ rfl
 unfold zFQ;rw[this]
def OQ(O Sq:Nat->Prop)(out:Option Addr)(b:Nat):Prop:=O b\/Sq b\/∃a,out=some a/\a.block=b
structure PS(O:Nat->Prop)(B fb:Nat)(w:World)(P:Pl)(F:Fm)(Sq:Nat->Prop)(w':World)(G:Fm)(outs:List (Int×Int))(T Rm:List Int)(out:Option Addr)(outc:Nat):Prop where
 fx:∃PP,PP.jp=P.jp/\FXO (OQ O Sq out) B w' fb PP G
 fr:Fr (ft fb P.jp) w w'
 run:zpO F T G outs
 hs:zj4 G.hosts
 job:G.jobs.map (·.job)=F.jobs.map (·.job)
 own:Own w.heap.size w' zAM 2 out outs.length outc (outs.flatMap encO)
 ap:∀a,out=some a->¬Sq a.block
 perm:(T++Rm).Perm (rdy F)
 pw:T.Pairwise (zcy F)
 lt:∀a∈T,∀b∈Rm,zcy F a b
 len:outs.length<=T.length
section
variable {O Sq:Nat->Prop} {B fb qb:Nat} {w:World} {P:Pl} {F G:Fm} {outs:List (Int×Int)} {T Rm:List Int} {out:Option Addr} {outc:Nat}
theorem PS.fr'{w1 w2:World}(s:PS O B fb w P F Sq w1 G outs T Rm out outc)(f:Fr Sq w1 w2)(hq:∀b,Sq b->w.heap.size<=b):PS O B fb w P F Sq w2 G outs T Rm out outc:=by
 obtain⟨PP,h1,h2⟩:=s.fx
 exact⟨⟨PP,h1,h2.fr f fun b hb=>.inr (.inl hb)⟩,s.fr.trans f fun b hb=>.inr (hq b hb),s.run,s.hs,s.job,s.own.fr f s.ap,s.ap,s.perm,s.pw,s.lt,s.len⟩
theorem PS.ext{w1 w2:World}(s:PS O B fb w P F Sq w1 G outs T Rm out outc)(e:Ext w1 w2):PS O B fb w P F Sq w2 G outs T Rm out outc:=by
 obtain⟨PP,h1,h2⟩:=s.fx
 exact⟨⟨PP,h1,h2.ext e⟩,s.fr.tr (zac e),s.run,s.hs,s.job,s.own.ext e,s.ap,s.perm,s.pw,s.lt,s.len⟩
theorem PS.shift{w1:World}{Rm':List Int}(s:PS O B fb w P F Sq w1 G outs T Rm out outc)(h:Rm'.Perm Rm):PS O B fb w P F Sq w1 G outs T Rm' out outc :=
 ⟨s.fx,s.fr,s.run,s.hs,s.job,s.own,s.ap,(List.Perm.append_left T h).trans s.perm,s.pw,fun a ha b hb=>s.lt a ha b (h.mem_iff.1 hb),s.len⟩
theorem zHk{n:Nat}{w1:World}{H:List Th}(q:QS n Sq F qb w1 H)(hn:H.length<=60) :
  FnP Tryz.prog za0 #[.pointer (ptr qb)] w1 fun v w2=>∃(a b:Int) (is:Bool) (Y:List Th),v=.tuple #[.agg #[.int .i64 a,.int .i64 b],.bool is]/\QS n Sq F qb w2 Y/\Fr Sq w1 w2 /\
   ((is=false/\H=[]/\Y=[])\/(is=true/\Y.length<H.length/\(∀u∈Y,zcy F b u.id)/\(b::Y.map (·.id)).Perm (H.map (·.id)))):=by
 obtain⟨mb,born,p,c,m,h1,h2,h3⟩:=q.ex
 refine(zJr h1 (by omega)).mono fun v w2 hr=>?_
 rcases hr with⟨rfl,hv,e⟩|⟨t,Y,hv,q2,hp,hmin,f⟩
 ·exact⟨0,0,false,[],hv,q.ext e,zac e,.inl ⟨rfl,rfl,rfl⟩⟩
 ·have f':Fr Sq w1 w2:=f.mono h3
  obtain⟨hrel,hids⟩:=zJt h2 h1.mp.nodup q.ids hp
  have hY:∀u∈Y,u∈H:=fun u hu=>hp.mem_iff.1 (List.mem_cons_of_mem _ hu)
  have ht:t∈H:=hp.mem_iff.1 (List.mem_cons_self ..)
  have hnd:t.id∉Y.map (·.id):=by
   have:((t::Y).map (·.id)).Nodup:=((hp.map _).nodup_iff).2 q.ids
   simp only[List.map_cons,List.nodup_cons] at this
   exact this.1
  have hb:∀u∈Y,zcy F t.id u.id:=fun u hu=>by
   have h4:=hmin u (hY u hu)
   have h5:=q.pr t ht
   have h6:=q.pr u (hY u hu)
   have h7:t.id≠u.id:=fun h=>hnd (by rw[h];exact List.mem_map_of_mem hu)
   unfold ahead at h4
   unfold zcy
   rw[<-h5,<-h6]
   by_cases h8:u.id<t.id
   ·have:=q.bo u (hY u hu) t ht h8;omega
   ·omega
  have hperm:(t.id::Y.map (·.id)).Perm (H.map (·.id)):=by
   have:=hp.map (·.id)
   simpa using this
  refine⟨t.prio,t.id,true,Y,hv,⟨⟨mb,born,p,c,_,q2,hrel,fun b hb=>h3 b ?_⟩,hids,fun u hu=>q.pr u (hY u hu),fun u hu v hv=>q.bo u (hY u hu) v (hY v hv)⟩,f',.inr ⟨rfl,by have:=hp.length_eq;simp at this;omega,hb,hperm⟩⟩
  rcases hb with rfl|rfl|⟨a,ha,rfl⟩|⟨u,hu,rfl⟩
  ·exact .inl rfl
  ·exact .inr (.inl rfl)
  ·exact .inr (.inr (.inl ⟨a,ha,rfl⟩))
  ·exact .inr (.inr (.inr ⟨u,hY u hu,rfl⟩))
theorem FXO.go{O' S:Nat->Prop}{w9:World}(x:FXO O B w fb P F)(f:Fr S w w9)(hS:∀b,S b->O b)(h:∀b,O' b->O b\/(w.heap.size<=b/\b<w9.heap.size)):FXO O' B w9 fb P F:=by
 have f':=f.mono hS
 have up:∀{w''},Fr (ftO O' fb P.jp) w9 w''->Fr (ftO O fb P.jp) w w'':=fun k=>(f'.mono fun b hb=>.inl hb).trans k fun b hb=>by
  rcases hb with hb|hb
  ·rcases h b hb with h|h
   ·exact .inl (.inl h)
   ·exact .inr h.1
  ·exact .inl (.inr hb)
 have x9:=x.fr f hS
 exact⟨x9.slot,x9.arr,x.map,fun w'' k=>x.hs w'' (up k),fun r hr w'' k=>x.js r hr w'' (up k),x.ap,x.hO,x.jO,fun b hb=>by
  rcases h b hb with h|h
  ·have:=x.olt b h;have:=f.size;omega
  ·exact h.2,fun b hb hf=>by
  rcases h b hb with h|h
  ·exact x.odis b h hf
  ·have:=(x.foot hf).2;omega⟩
theorem FXO.more{O':Nat->Prop}{w9:World}(x:FXO O B w fb P F)(e:Ext w w9)(h:∀b,O' b->O b\/(w.heap.size<=b/\b<w9.heap.size)):FXO O' B w9 fb P F :=
 x.go (zac (S:=fun _=>False) e) (fun _ h=>h.elim) h
theorem FXO.less{O':Nat->Prop}(x:FXO O' B w fb P F)(h:∀b,O b->O' b):FXO O B w fb P F:=by
 have up:∀{w''},Fr (ftO O fb P.jp) w w''->Fr (ftO O' fb P.jp) w w'':=fun k=>k.mono fun b hb=>hb.elim (fun g=>.inl (h b g)) .inr
 exact⟨x.slot,x.arr,x.map,fun w'' k=>x.hs w'' (up k),fun r hr w'' k=>x.js r hr w'' (up k),x.ap,x.hO,x.jO,fun b hb=>x.olt b (h b hb),fun b hb=>x.odis b (h b hb)⟩
def HQ(F:Fm)(k:Nat)(born:Int)(H:List Th):Prop:=(H.map (·.id)).Perm (zjo F k)/\(∀t∈H,t.prio=zpd F t.id/\t.born<=born)/\(∀t∈H,∀u∈H,t.id<u.id->t.born<u.born)/\0<=born/\born<=k
theorem hq_put{k:Nat}{born:Int}{H Y:List Th}{b:Nat}(h:HQ F k born H)(hr:zfS F (zaf F k)=true)(hp:Y.Perm (⟨b,(zaf F k).job.prio,(k:Int)+1,born+1⟩::H)):HQ F (k+1) (born+1) Y:=by
 obtain⟨h1,h2,h3,h4,h5⟩:=h
 have idk:∀t∈H,t.id<=k:=fun t ht=>(zgB.1 (h1.mem_iff.1 (List.mem_map_of_mem ht))).2.1
 have mem:∀t∈Y,t=⟨b,(zaf F k).job.prio,(k:Int)+1,born+1⟩\/t∈H:=fun t ht=>List.mem_cons.1 (hp.mem_iff.1 ht)
 refine⟨?_,fun t ht=>?_,fun t ht u hu hlt=>?_,by omega,by omega⟩
 ·unfold zjo
  rw[if_pos hr]
  have:=hp.map (·.id)
  refine this.trans ?_
  rw[List.map_cons]
  exact((h1.cons _).trans (List.perm_append_singleton _ _).symm)
 ·rcases mem t ht with rfl|ht
  ·refine⟨?_,Int.le_refl _⟩
   unfold zpd
   rw[show((k:Int)+1-1).toNat=k by omega]
  ·have:=h2 t ht
   exact⟨this.1,by omega⟩
 ·rcases mem t ht with rfl|ht<;>rcases mem u hu with rfl|hu
  ·exact absurd hlt (by simp)
  ·have:=idk u hu;simp only at hlt;omega
  ·have:=(h2 t ht).2;simp only;omega
  ·exact h3 t ht u hu hlt
end
def zHx(O:Nat->Prop)(B fb:Nat)(w:World)(P:Pl)(F:Fm)(v:Value)(w':World):Prop:=∃(G:Fm) (outs:List (Int×Int)) (out:Option Addr) (outc:Nat) (P':Pl),
 v=.tuple #[.slice out outs.length outc,.int .i64 0]/\zfZ F G outs/\zj4 G.hosts/\G.jobs.map (·.job)=F.jobs.map (·.job)/\P'.jp=P.jp/\FXO O B w' fb P' G/\Fr (ft fb P.jp) w w'/\Own w.heap.size w' zAM 2 out outs.length outc (outs.flatMap encO)/\outs.length<=60
structure XC(fb:Nat)(jp:Option Addr)(Sq:Nat->Prop)(out x:Option Addr)(w:World)(a b:Int):Prop where
 own:Own 0 w zGA 2 x 1 1 [.int .i64 a,.int .i64 b]
 ap:∀c,x=some c->¬ft fb jp c.block/\¬Sq c.block/\∀o,out=some o->o.block≠c.block
theorem XC.ext{fb:Nat}{jp:Option Addr}{Sq:Nat->Prop}{out x:Option Addr}{w w':World}{a b:Int}(h:XC fb jp Sq out x w a b)(e:Ext w w'):XC fb jp Sq out x w' a b:=⟨h.own.ext e,h.ap⟩
theorem XC.c0{fb:Nat}{jp:Option Addr}{Sq:Nat->Prop}{out x:Option Addr}{w:World}{a b:Int}(h:XC fb jp Sq out x w a b):x≠none/\Go.Sx.cell w x 0=some (.int .i64 a)/\Go.Sx.cell w x 1=some (.int .i64 b)/\Go.Sx.cell w (pAdd x 1) 0=some (.int .i64 b) :=
 ⟨h.own.ne1 (by omega) (by omega),h.own.cells 0 _ rfl,h.own.cells 1 _ rfl,by rw[zam];exact h.own.cells 1 _ rfl⟩
def PI(O:Nat->Prop)(B fb qb:Nat)(w:World)(P:Pl)(F:Fm)(Sq:Nat->Prop)(out:Option Addr)(outl outc:Nat)(x:Option Addr)(is:Bool)(w':World):Prop:=∃(G:Fm) (outs:List (Int×Int)) (T:List Int) (H:List Th),outl=outs.length/\QS w.heap.size Sq F qb w' H/\H.length<=60 /\
 ((is=false/\PS O B fb w P F Sq w' G outs T [] out outc)\/(is=true/\∃a b,XC fb P.jp Sq out x w' a b/\(∀u∈H,zcy F b u.id)/\PS O B fb w P F Sq w' G outs T (b::H.map (·.id)) out outc))
def PM(qb:Nat)(is:Bool)(w':World):Nat:=if is=true then zFQ qb w'+1 else 0
section
variable {O Sq:Nat->Prop} {B fb qb:Nat} {w:World} {P:Pl} {F G:Fm} {outs:List (Int×Int)} {T:List Int} {out:Option Addr} {outc:Nat}
theorem zHd{w':World}{Rm:List Int}(s:PS O B fb w P F Sq w' G outs T Rm out outc)(hF:F.jobs.length<=60):outs.length<=60/\T.length+Rm.length<=60:=by
 have h1:=s.perm.length_eq
 rw[List.length_append] at h1
 have h2:=zpf F F.jobs.length
 have h3:=s.len
 unfold rdy at h1
 omega
theorem zuK{w24:World}{H:List Th}{m0 n9:Nat}(h9:n9<=w24.heap.size)(q:QS w.heap.size Sq F qb w24 H)(hn:H.length<=60)(s:PS O B fb w P F Sq w24 G outs T (H.map (·.id)) out outc)(hq:∀b,Sq b->w.heap.size<=b/\b<w24.heap.size)(hm:m0=H.length+1)(c1 c2:Int) :
  ∀w45,Ext w24 w45->New w45 zGA [.int .i64 0,.int .i64 0] fun p46 w46=>zan w46 p46 [.int .i64 c1,.int .i64 c2] [] fun w47=>∀w48,Ext w47 w48 ->
   FnP Tryz.prog za0 #[.pointer (ptr qb)] w48 fun v49 w49=>∃a b:Int,∃is:Bool,v49=.tuple #[.agg #[.int .i64 a,.int .i64 b],.bool is]/\zan w49 p46 [.int .i64 a,.int .i64 b] [] fun w53 =>
    (n9<=w53.heap.size/\PI O B fb qb w P F Sq out outs.length outc p46 is w53)/\PM qb is w53<m0:=by
 intro w45 e45
 refine zbv (by intro v hv;simp at hv;subst hv;rfl) fun w46 o46 e46=>?_
 refine zaU (off:=0) (o46 w45.heap.size (Nat.le_refl _)) (zeT _) (by simp) (by simp) (by intro v hv;simp at hv;rcases hv with rfl|rfl<;>rfl) (by simp) fun w47 o47 g47 w48 e48=>?_
 have h4548:Ext w45 w48:=(g47.ext e46 (o46 w45.heap.size (Nat.le_refl _))).trans e48
 have h2448:=e45.trans h4548
 refine(zHk (q.ext h2448) hn).mono fun v w49 ⟨a,b,is,Y,hv,q49,f49,hcase⟩=>⟨a,b,is,hv,?_⟩
 have hsz:=e45.size
 have hps:∀c,(some ⟨w45.heap.size,0,none⟩:Option Addr)=some c->¬Sq c.block:=fun c hc hs=>by cases hc;have:=(hq _ hs).2;simp only at this;omega
 have o49:=(o47.ext e48).fr f49 hps
 refine zaU (off:=0) o49 (zeT _) (by simp[zct]) (by simp) (by intro v hv;simp at hv;rcases hv with rfl|rfl<;>rfl) (by simp) fun w53 o53 g53=>?_
 have f53:Fr (fun c=>c=w45.heap.size) w49 w53:=zaR g53 fun c hc=>by cases hc;rfl
 have fall:Fr Sq w24 w53:=((zac h2448).tr f49).trans f53 fun c hc=>.inr (by subst hc;exact hsz)
 have q53:QS w.heap.size Sq F qb w53 Y:=q49.fr f53 fun c hc h=>by have:=(hq _ hc).2;omega
 have s53:=s.fr' fall fun c hc=>(hq c hc).1
 have hxap:∀c,(some ⟨w45.heap.size,0,none⟩:Option Addr)=some c->¬ft fb P.jp c.block/\¬Sq c.block/\∀o,out=some o->o.block≠c.block:=fun c hc=>by
  refine⟨fun hf=>?_,hps c hc,fun o ho h=>?_⟩
  ·obtain⟨PP,h1,x⟩:=s.fx
   rw[<-h1] at hf
   have:=(x.foot hf).2
   cases hc
   simp only at this;omega
  ·have:=(s.own.lt o ho).2
   cases hc
   simp only at h;omega
 have h953:n9<=w53.heap.size:=by have:=fall.size;omega
 rcases hcase with⟨rfl,rfl,rfl⟩|⟨rfl,hlt,hbef,hperm⟩
 ·exact⟨⟨h953,G,outs,T,[],rfl,q53,by simp,.inl ⟨rfl,s53⟩⟩,by unfold PM;simp;omega⟩
 ·refine⟨⟨h953,G,outs,T,Y,rfl,q53,by omega,.inr ⟨rfl,a,b,⟨o53.weak (Nat.zero_le _),hxap⟩,hbef,s53.shift hperm⟩⟩,?_⟩
  unfold PM
  rw[q53.len]
  simp;omega
theorem FXO.put2(x:FXO O B w fb P F){jp:Option Addr}(hj:P.jp=jp){k:Int}(h0:0<=k)(h1:k<F.jobs.length){m:Nat}(hm:11<=m/\m<=15)(v:Int){ns:List Nat}(hns:∀b∈ns,¬ft fb jp b){K:World->Prop}
  (hk:∀w' P',P'.jp=jp->FXO O B w' fb P' (stF F k.toNat m v)->Fr (ft fb jp) w w'->K w'):zan w (pAdd (pIdx jp k 16) m) [.int .i64 v] ns K:=by
 subst hj
 exact x.put h0 h1 hm v hns hk
theorem zJq{A B C:List Int}{x:Int}(h:(A++(x::B)).Perm C):x∈C:=h.mem_iff.1 (by simp)
theorem zq2{F G:Fm}(h:G.jobs.map (·.job)=F.jobs.map (·.job)):G.jobs.length=F.jobs.length:=by have:=congrArg List.length h;simpa using this
theorem zHc(x:FXO O B w fb P F)(ha:zky F)(hh:zj4 F.hosts):FnP Tryz.prog zc4 #[.pointer (ptr fb)] w (zHx O B fb w P F):=by
 have ne:=zaG fb
 have hl0:=x.jO.1
 refine zmi (ptr fb) w _ fun w0 h0=>qnew_k.mono fun v w1 ⟨e1,qb,mb,hv,hqb,hQ⟩=>⟨e1,_,hv,ne,ne,?_⟩
 have e01:=h0.trans e1
 have x1:=x.ext e01
 refine⟨_,_,_,x1.cell (i:=6) rfl,?_⟩
 rw[x1.len]
 refine⟨fun k w'=>0<=k/\k<=F.jobs.length/\Fr (ft fb P.jp) w w'/\∃(born:Int) (p:Option Addr) (c:Nat) (m:List (Int×Value)) (H:List Th) (P':Pl),P'.jp=P.jp/\QQ w.heap.size w' qb mb born p c H m/\Rel H m/\HQ F k.toNat born H/\FXO (fun b=>O b\/zhW mb qb p H b) B w' fb P' F,fun k _=>(F.jobs.length-k).toNat,⟨by omega,by omega,zac e01,0,none,0,[],[],P,rfl,hQ _ h0.size,⟨by simp,fun id v h=>by simp[zhZ] at h⟩,⟨by simp[zjo],by simp,by simp,by omega,by omega⟩,?_⟩,?_⟩
 ·exact x.more e01 fun b hb=>hb.imp id fun h=>(hQ _ h0.size).foot h
 rintro k w8 ⟨hk0,hk1,f8,born,p,c,m,H,P8,hP8,q8,r8,hq8,x8⟩
 have hkn:((k.toNat:Nat):Int)=k:=by omega
 have hk1n:(k+1).toNat=k.toNat+1:=by omega
 have hHl:H.length<=60:=by
  have:=hq8.1.length_eq
  have:=zpf F k.toNat
  simp at *;omega
 refine⟨fun hlt=>⟨ne,ne,_,_,_,x8.cell (i:=6) rfl,?_⟩,fun hge w9 h9=>?_⟩
 ·obtain⟨r,hr,hF,hjp,hne,_,g,hJ,hok,hwf⟩:=x8.st hk0 (by omega)
  have hja:zaf F k.toNat=r.s:=zhe hF
  refine⟨hjp,hk0,by rw[x8.len];omega,fun w12 h12=>(zJs (x8.ext h12) ha hk0 (by omega)).mono fun v w13 ⟨e13,hv⟩=>⟨e13,_,hv,fun hb=>⟨hne,hne,by rw[zaM];exact hne,_,by rw[zaM];exact g 1 _ rfl,i64 (by omega),fun w16 h16=>?_⟩,fun hb=>⟨i64 (by omega),⟨by omega,by omega,f8,born,p,c,m,H,P8,hP8,q8,r8,?_,x8⟩,by simp only[];omega⟩⟩⟩
  ·obtain⟨hq1,hq2,hq3,hq4,hq5⟩:=hq8
   have hidk:∀t∈H,t.id≠k+1:=fun t ht h=>by
    have:=(zgB.1 (hq1.mem_iff.1 (List.mem_map_of_mem ht))).2.1
    omega
   refine(qput_k (q8.ext h16) r8 (by omega) (by omega) (Nat.le_trans f8.size h16.size) r.s.job.prio (k+1)).mono fun v w17 ⟨e,hv,hbad,hgood⟩=>⟨e,hv,i64 (by omega),?_⟩
   have he:e=0:=by
    by_cases h:e=0
    ·exact h
    ·rcases (hbad h).2 with⟨⟨t,ht,hid⟩,_⟩|⟨h200,_⟩
     ·exact absurd hid (hidk t ht)
     ·omega
   obtain⟨_,_,b,p',c',Y,qY,hp,f17,hgrow⟩:=hgood he
   have r17:=zJu r8 (t:=⟨b,r.s.job.prio,k+1,born+1⟩) hidk hp
   have hq17:=hq_put (k:=k.toNat) (b:=b) ⟨hq1,hq2,hq3,hq4,hq5⟩ (by rw[hja];unfold zaf at hja;rw[hja] at hb;exact hb) (Y:=Y) (by
    rw[hja,hkn];exact hp)
   have fall:Fr (zhW mb qb p H) w8 w17:=(zac h16).tr f17
   refine⟨⟨by omega,by omega,f8.trans fall fun b hb=>.inr ((q8.foot hb).1),born+1,p',c',_,Y,P8,hP8,qY,r17,?_,?_⟩,by simp only[];omega⟩
   ·rw[hk1n];exact hq17
   ·refine x8.go fall (fun b hb=>.inr hb) fun b hb=>?_
    rcases hb with hb|hb
    ·exact .inl (.inl hb)
    ·rcases hgrow b hb with h|h
     ·exact .inl (.inr h)
     ·exact .inr ⟨Nat.le_trans h16.size h,(qY.foot hb).2⟩
  ·rw[hk1n]
   obtain⟨hq1,hq2,hq3,hq4,hq5⟩:=hq8
   refine⟨?_,hq2,hq3,hq4,by omega⟩
   unfold zjo
   rw[if_neg (by rw[hja];unfold zaf at hja;rw[hja] at hb;rw[hb];simp)]
   exact hq1
 have hkl:k.toNat=F.jobs.length:=by omega
 rw[hkl] at hq8
 obtain⟨hq1,hq2,hq3,hq4,hq5⟩:=hq8
 let Sq:Nat->Prop:=zhW mb qb p H
 have hSq:∀b,Sq b->w.heap.size<=b/\b<w8.heap.size:=fun b hb=>q8.foot hb
 have Q8:QS w.heap.size Sq F qb w8 H:=⟨⟨mb,born,p,c,m,q8,r8,fun b hb=>hb⟩,by
  have:(H.map (·.id)).Nodup:=(hq1.nodup_iff).2 (zhq F _)
  exact this,fun t ht=>(hq2 t ht).1,hq3⟩
 have S8:PS O B fb w P F Sq w8 F [] [] (H.map (·.id)) none 0:=⟨⟨P8,hP8,x8.less fun b hb=>by
  rcases hb with hb|hb|⟨a,ha,_⟩
  ·exact .inl hb
  ·exact .inr hb
  ·cases ha⟩,f8,.nil F,hh,rfl,Own.nil,fun a ha=>(by cases ha),hq1,List.Pairwise.nil,by simp,by simp⟩
 refine(zHk (Q8.ext h9) hHl).mono fun v w10 ⟨a,b,is,Y,hv,Q10,f10,hcase⟩=>⟨a,b,is,hv,fun w14 h14=>?_⟩
 have s10:=(S8.ext h9).fr' f10 fun c hc=>(hSq c hc).1
 have s14:=s10.ext h14
 have Q14:=Q10.ext h14
 refine zbv (by intro v hv;simp at hv;subst hv;rfl) fun w15 o15 e15=>?_
 refine zaU (off:=0) (o15 w14.heap.size (Nat.le_refl _)) (zeT _) (by simp) (by simp) (by intro v hv;simp at hv;rcases hv with rfl|rfl<;>rfl) (by simp) fun w16 o16 g16=>?_
 have e16:Ext w14 w16:=g16.ext e15 (o15 w14.heap.size (Nat.le_refl _))
 have s16:=s14.ext e16
 have Q16:=Q14.ext e16
 have hsz14:w8.heap.size<=w14.heap.size:=Nat.le_trans (Nat.le_trans h9.size f10.size) h14.size
 refine⟨fun out outl outc x is w'=>w14.heap.size<=w'.heap.size/\PI O B fb qb w P F Sq out outl outc x is w',fun out outl outc x is w'=>PM qb is w',⟨e16.size,?_⟩,?_⟩
 ·rcases hcase with⟨rfl,rfl,rfl⟩|⟨rfl,hlt,hbef,hperm⟩
  ·exact⟨F,[],[],[],rfl,Q16,by simp,.inl ⟨rfl,s16⟩⟩
  ·refine⟨F,[],[],Y,rfl,Q16,by omega,.inr ⟨rfl,a,b,⟨o16.weak (Nat.zero_le _),fun c hc=>⟨fun hf=>?_,fun hs=>?_,fun o ho=>by cases ho⟩⟩,hbef,s16.shift hperm⟩⟩
   ·obtain⟨PP,h1,x14⟩:=s14.fx
    rw[<-h1] at hf
    have:=(x14.foot hf).2
    cases hc
    simp only at this;omega
   ·have:=(hSq _ hs).2
    cases hc
    simp only at this;omega
 rintro out outl outc xp is w21 ⟨hsz21,G,outs,T,H,rfl,Q21,hH,hc⟩
 refine⟨fun his=>?_,fun his w22 h22=>?_⟩
 ·rcases hc with⟨h,_⟩|⟨_,a,b,xc,hbef,s21⟩
  ·rw[his] at h;cases h
  have hsq21:∀b,Sq b->w.heap.size<=b/\b<w21.heap.size:=fun b hb=>by have:=hSq b hb;omega
  obtain⟨xn,_,_,xb⟩:=xc.c0
  obtain⟨PP,hPP,x21⟩:=s21.fx
  have hbin:=zgB.1 (zJq s21.perm)
  have hGl:=zq2 s21.job
  have hin:inJ G b:=⟨hbin.1,by rw[hGl];exact hbin.2.1⟩
  have hk:(b-1).toNat<G.jobs.length:=by have:=hin.1;have:=hin.2;omega
  have hls:=zHd s21 hl0
  refine⟨xn,b,xb,fun w23 h23=>(zEs (x21.ext h23) b (i64 (by have:=hin.1;have:=hin.2;omega))).mono fun v w24 ⟨e24,hv⟩=>⟨e24,?_⟩⟩
  rcases hv with⟨hno,_⟩|⟨_,_,rfl⟩
  ·exact absurd hin hno
  have e2124:=h23.trans e24
  have x24:=x21.ext e2124
  have s24:=s21.ext e2124
  have Q24:=Q21.ext e2124
  have xc24:=xc.ext e2124
  have hsq24:∀b,Sq b->w.heap.size<=b/\b<w24.heap.size:=fun b hb=>by have:=hsq21 b hb;have:=e2124.size;omega
  obtain⟨r,hr,hF,hjp,hne,g',g,hJ,hok,hwf⟩:=x24.st (k:=b-1) (by have:=hin.1;omega) (by have:=hin.2;omega)
  have hja:zaf G (b-1).toNat=r.s:=zhe hF
  have c5:∀(j:Nat)(v:Value),(ztw r)[5+j]?=some v->Go.Sx.cell w24 (pAdd (pAdd (pIdx PP.jp (b-1) 16) 0) 5) j=some v:=fun j v hv=>by
   rw[zaM,zam];exact g' _ _ hv
  have c2:∀(j:Nat)(v:Value),(ztw r)[2+j]?=some v->Go.Sx.cell w24 (pAdd (pAdd (pIdx PP.jp (b-1) 16) 0) 2) j=some v:=fun j v hv=>by
   rw[zaM,zam];exact g' _ _ hv
  have n0:pAdd (pIdx PP.jp (b-1) 16) 0≠none:=by rw[zaM];exact hne
  have n5:pAdd (pAdd (pIdx PP.jp (b-1) 16) 0) 5≠none:=fun h=>n0 (zc3.1 h)
  have n2:pAdd (pAdd (pIdx PP.jp (b-1) 16) 0) 2≠none:=fun h=>n0 (zc3.1 h)
  have hO:=x24.hO
  refine⟨_,rfl,ne,ne,_,_,_,x24.cell (i:=0) rfl,hne,hne,n0,n5,_,c5 0 _ rfl,_,c5 1 _ rfl,_,c5 2 _ rfl,_,c5 3 _ rfl,_,_,_,c5 4 _ rfl,hne,hne,n0,n2,_,c2 0 _ rfl,_,c2 1 _ rfl,_,c2 2 _ rfl,fun w39 h39=>?_⟩
  refine(Best_k PP.hp PP.hc G.hosts (by omega) hO.2 r.s.job.ask r.pa r.ca hwf.ask r.s.job.nd w39 ((x24.ext h39).hs w39 (Fr.refl _ _)) (hJ.1.ext h39)).mono fun v w40 ⟨e40,k,e,hv,hres⟩=>⟨e40,k,e,hv,?_⟩
  have hall:zwz G.hosts r.s.job.ask r.s.job.nd:=⟨s24.hs,hok.ask,hok.nd⟩
  have hm:PM qb is w21=H.length+1:=by unfold PM;rw[his,if_pos rfl,Q21.len]
  refine⟨fun he=>?_,fun he=>?_⟩
  ·have hsk:zzE G b=[]:=by
    rcases hres with⟨_,_,_,h⟩|⟨h,_⟩
    ·have:=h hall
     unfold zzE
     rw[hja]
     exact this
    ·exact absurd h he
   obtain⟨_,x0,x1,_⟩:=xc24.c0
   have s':PS O B fb w P F Sq w24 G outs (T++[b]) (H.map (·.id)) out outc:=⟨s24.fx,s24.fr,s24.run.snoc_skip hsk,s24.hs,s24.job,s24.own,s24.ap,by simpa using s24.perm,List.pairwise_append.2 ⟨s24.pw,by simp,fun y hy z hz=>by simp at hz;subst hz;exact s24.lt y hy _ (by simp)⟩,fun y hy z hz=>by
    rcases List.mem_append.1 hy with hy|hy
    ·exact s24.lt y hy z (List.mem_cons_of_mem _ hz)
    ·simp at hy;subst hy
     obtain⟨u,hu,rfl⟩:=List.mem_map.1 hz
     exact hbef u hu,by rw[List.length_append];have:=s24.len;simp;omega⟩
   exact⟨xn,_,x0,_,x1,zuK (by have:=e2124.size;omega) Q24 hH s' hsq24 hm a b⟩
  ·obtain⟨_,_,hbest⟩:e=0/\zwz G.hosts r.s.job.ask r.s.job.nd/\zh8 G.hosts r.s.job.ask r.s.job.nd k:=by
    rcases hres with⟨h,_⟩|h
    ·exact absurd he h
    ·exact h
   obtain⟨hk0,hk1,hfit⟩:=znL.1 hbest.1
   have hkI:InR .i64 k:=i64 (by omega)
   refine⟨ne,ne,_,_,_,x24.cell (i:=0) rfl,hne,hne,n0,n2,_,c2 0 _ rfl,_,c2 1 _ rfl,_,c2 2 _ rfl,fun w49 h49=>?_⟩
   have x49:=x24.ext h49
   refine(Take_k PP.hp PP.hc G.hosts (by omega) hO.2 k r.s.job.nd w49 (x49.hs w49 (Fr.refl _ _))).mono fun v w50 ⟨e50,p',n',c',e',hv,htk⟩=>⟨e50,p',n',c',e',hv,ne,ne,?_⟩
   have hfN:zjv r.s.job.nd (zhR (G.hosts.getD k.toNat default).has (G.hosts.getD k.toNat default).used):=by
    unfold zFb at hfit
    rw[Bool.and_eq_true,decide_eq_true_iff] at hfit
    exact hfit.2
   rcases htk with⟨_,_,hno⟩|⟨_,_,_,_,rfl,_,_,_,hS⟩
   ·exact absurd ⟨hok.nd,hfN⟩ (hno s24.hs hk0 hk1)
   have x50:=x49.ext e50
   refine zaU (off:=0) x50.slot rfl (by simp) (by simp) (by intro u hu;simp at hu;subst hu;rfl) (by simp) fun w55 o55 g55=>⟨ne,ne,?_⟩
   have hG:zlm G (b-1).toNat k={ G with hosts:=G.hosts.set k.toNat (zh3 (G.hosts.getD k.toNat default) (zvu (G.hosts.getD k.toNat default).used r.s.job.nd)) }:=by unfold zlm zqV;rw[hja]
   have fg:Fr (ft fb PP.jp) w50 w55:=zaR g55 fun a ha=>by cases ha;exact .inl rfl
   obtain⟨y55,f55⟩:=x50.slot_to (F':=zlm G (b-1).toNat k) (P':={ PP with hp:=p',hc:=c' }) (by
    rw[hG]
    show Own B w55 zdb 7 (ptr fb) 1 1 [.slice p' (G.hosts.set _ _).length c',_,_,_,_,_,_]
    rw[List.length_set];exact o55) g55 rfl rfl rfl rfl (fun w'' kf=>by
     rw[hG]
     exact hS (ftO (OQ O Sq out) fb PP.jp) (fun b hb=>by
      rcases hb with hb|hb
      ·exact x49.olt b hb
      ·exact(x49.foot hb).2) w'' ((fg.mono fun b hb=>.inr hb).tr kf)) (by
    rw[hG]
    refine⟨by show(G.hosts.set _ _).length<=30;rw[List.length_set];exact hO.1,fun h hh=>?_⟩
    have hh:h∈G.hosts.set k.toNat (zh3 (G.hosts.getD k.toNat default) (zvu (G.hosts.getD k.toNat default).used r.s.job.nd)):=hh
    rcases List.mem_or_eq_of_mem_set hh with hh|rfl
    ·exact hO.2 h hh
    ·have:=hO.2 _ (zaq G.hosts default (i:=k.toNat) (by omega))
     exact this)
   refine⟨G.now,y55.cell (i:=5) rfl,hne,hne,?_⟩
   refine y55.put2 (jp:=PP.jp) rfl (k:=b-1) (by have:=hin.1;omega) (by have:=hin.2;exact(by omega:b-1<(G.jobs.length:Int))) (by omega) 2 (by simp) fun w57 P1 hP1 y57 f57=>⟨hne,hne,?_⟩
   refine y57.put2 hP1 (k:=b-1) (by have:=hin.1;omega) (by rw[zcD];have:=hin.2;exact(by omega:b-1<(G.jobs.length:Int))) (by omega) k (by simp) fun w58 P2 hP2 y58 f58=>⟨hne,hne,?_⟩
   refine y58.put2 hP2 (k:=b-1) (by have:=hin.1;omega) (by rw[zcD,zcD];have:=hin.2;exact(by omega:b-1<(G.jobs.length:Int))) (by omega) G.now (by simp) fun w59 P3 hP3 y59 f59=>⟨xn,?_⟩
   have y59:FXO (OQ O Sq out) B w59 fb P3 (zs9 G (b-1).toNat k):=y59
   have f2459:Fr (ft fb PP.jp) w24 w59:=((((zac (h49.trans e50)).tr f55).tr f57).tr f58).tr f59
   have hdis:∀c,OQ O Sq out c->¬ft fb PP.jp c:=x24.odis
   have hxd:∀c,xp=some c->¬ft fb PP.jp c.block:=fun c hc=>by rw[hPP];exact(xc24.ap c hc).1
   obtain⟨_,x0,x1,_⟩:=xc24.c0
   have x1':=zdt x1 f2459 hxd
   refine⟨b,by rw[zam];exact x1',?_⟩
   have o59:=s24.own.fr f2459 fun c hc=>hdis _ (.inr (.inr ⟨c,hc,rfl⟩))
   have hsz24:w.heap.size<=w24.heap.size:=s24.fr.size
   have hsz59:w.heap.size<=w59.heap.size:=Nat.le_trans hsz24 f2459.size
   refine push (v:=.agg #[.int .i64 b,.int .i64 k]) zrF (by omega) o59 hsz59 rfl (by intro u hu;simp[Value.cells] at hu;rcases hu with rfl|rfl<;>rfl) (by omega) (by omega) (by omega) fun out' outc' w67 o67 g67 hne67=>⟨xn,?_⟩
   have f67:Fr (fun c=>∃o,out=some o/\o.block=c) w59 w67:=zaR g67 fun a ha=>⟨a,ha,rfl⟩
   have hout':∀a,out'=some a->(∃o,out=some o/\o.block=a.block)\/(w59.heap.size<=a.block/\a.block<w67.heap.size):=fun a ha=>by
    rcases g67.new with hn|hn
    ·left
     rw[ha] at hn
     cases ho:out with
     |none => rw[ho] at hn;simp[blk] at hn
     |some y => rw[ho] at hn;simp[blk] at hn;exact⟨y,rfl,by omega⟩
    ·exact .inr ⟨hn a ha,(o67.lt a ha).2⟩
   have hxo:∀c,xp=some c->¬ ∃o,out=some o/\o.block=c.block:=fun c hc ⟨o,ho,hk⟩=>(xc24.ap c hc).2.2 o ho hk
   refine⟨a,zdt (zdt x0 f2459 hxd) f67 hxo,b,zdt x1' f67 hxo,?_⟩
   have f2467:Fr (fun c=>ft fb P.jp c\/∃o,out=some o/\o.block=c) w24 w67:=by
    rw[hPP] at f2459
    exact(f2459.mono fun c hc=>.inl hc).tr (f67.mono fun c hc=>.inr hc)
   have Q67:QS w.heap.size Sq F qb w67 H:=Q24.fr f2467 fun c hc h=>by
    rcases h with h|⟨o,ho,rfl⟩
    ·rw[<-hPP] at h;exact hdis c (.inr (.inl hc)) h
    ·exact s24.ap o ho hc
   have hsz67:=f2467.size
   have s67:PS O B fb w P F Sq w67 (zs9 G (b-1).toNat k) (outs++[(b,k)]) (T++[b]) (H.map (·.id)) out' outc':=by
    refine⟨⟨P3,hP3.trans hPP,y59.go f67 (fun c hc=>.inr (.inr hc)) fun c hc=>?_⟩,s24.fr.trans f2467 fun c hc=>?_,s24.run.snoc_run (by rw[hja];exact hbest),?_,(zF3 hk k).trans s24.job,?_,fun c hc hs=>?_,by simpa using s24.perm,List.pairwise_append.2 ⟨s24.pw,by simp,fun y hy z hz=>by simp at hz;subst hz;exact s24.lt y hy _ (by simp)⟩,fun y hy z hz=>?_,by rw[List.length_append,List.length_append];have:=s24.len;simp;omega⟩
    ·rcases hc with hc|hc|⟨c,hc,rfl⟩
     ·exact .inl (.inl hc)
     ·exact .inl (.inr (.inl hc))
     ·rcases hout' c hc with h|h
      ·exact .inl (.inr (.inr h))
      ·exact .inr h
    ·rcases hc with hc|⟨o,ho,rfl⟩
     ·exact .inl hc
     ·exact .inr (s24.own.lt o ho).1
    ·exact zuf s24.hs hk0 hk1 (by rw[hja];exact hok.nd) (by rw[hja];exact hfN)
    ·rw[List.flatMap_append,List.length_append]
     simpa[Value.cells,encO] using o67
    ·rcases hout' c hc with⟨o,ho,hk⟩|h
     ·rw[<-hk] at hs;exact s24.ap o ho hs
     ·have:=(hsq24 _ hs).2;have:=f2459.size;omega
    ·rcases List.mem_append.1 hy with hy|hy
     ·exact s24.lt y hy z (List.mem_cons_of_mem _ hz)
     ·simp at hy;subst hy
      obtain⟨u,hu,rfl⟩:=List.mem_map.1 hz
      exact hbef u hu
   have:=zuK (n9:=w14.heap.size) (by have:=e2124.size;omega) Q67 hH s67 (fun c hc=>by have:=hsq24 c hc;omega) hm a b
   rw[List.length_append] at this
   exact this
 ·rcases hc with⟨_,s21⟩|⟨h,_⟩
  ·have s22:=s21.ext h22
   obtain⟨PP,h1,x22⟩:=s22.fx
   refine⟨G,outs,out,outc,PP,rfl,⟨T,⟨by simpa using s22.perm,s22.pw⟩,s22.run⟩,s22.hs,s22.job,h1,x22.less fun b hb=>.inl hb,s22.fr,s22.own,(zHd s22 hl0).1⟩
  ·rw[his] at h;cases h
end
theorem neN_k{a b:Nd}{w:World}{K:Value->World->Prop}(hk:K (.bool (!decide (a=b))) w):Run Tryz.prog (.eq .neq zhO false false (nv a) (nv b)) w K :=
 zJB (n:=3) (k:=.i64) (by kernel_rfl) (by kernel_rfl) (by kernel_rfl) (by kernel_rfl) [a.c,a.m,a.g] [b.c,b.m,b.g] rfl rfl (by
  have:decide (a=b)=decide ([a.c,a.m,a.g]=[b.c,b.m,b.g]):=decide_eq_decide.2 zJd
  rwa [this] at hk)
theorem New1_k(h:Ht)(q:Option Addr)(d:Nat)(w:World):FnP Tryz.prog zeh #[.agg #[.string h.name,.slice q h.labels.length d,.int .i64 h.has.c,.int .i64 h.has.m,.int .i64 h.has.g,.int .i64 h.used.c,.int .i64 h.used.m,.int .i64 h.used.g]] w fun v w'=>Ext w w'/\v=.bool (!decide (h.used=zbe)):=by
 refine zsm h.name q h.labels.length d h.has.c h.has.m h.has.g h.used.c h.used.m h.used.g w _ fun b0 hb0 w1 h1=>?_
 refine neN_k (a:=h.used) (b:=zbe) ⟨Ext.refl _,_,rfl,fun w4 h4=>⟨h4,rfl⟩⟩
theorem zEb(p:Option Addr)(c:Nat)(L:List Ht)(h63:(L.length:Int)<=9223372036854775807)(w:World)(hL:zjg w p L) :
  FnP Tryz.prog zap #[.slice p L.length c,.func (.func zeh) #[] #[]] w fun v w'=>Ext w w'/\∃t,v=.int .i64 t/\(0<=t↔∃x∈L,x.used≠zbe):=by
 refine zbk p L.length c _ w _ ?_
 refine⟨fun k w'=>w'=w/\0<=k/\k<=L.length/\∀j:Nat,(j:Int)<k->(L.getD j default).used=zbe,fun k _=>(L.length-k).toNat,⟨rfl,by omega,by omega,fun j hj=>by omega⟩,?_⟩
 rintro k w ⟨rfl,hk0,hk1,hno⟩
 refine⟨fun hlt=>?_,fun hge w4 h4=>⟨h4,_,rfl,?_⟩⟩
 ·obtain⟨q,d,n1,n2,g,_⟩:=hL.at hk0 hlt
  refine⟨n1,hk0,hlt,n2,_,g 0 _ rfl,_,_,_,g 1 _ rfl,_,g 2 _ rfl,_,g 3 _ rfl,_,g 4 _ rfl,_,g 5 _ rfl,_,g 6 _ rfl,_,g 7 _ rfl,fun w4 h4=>?_⟩
  refine⟨zeh,#[],rfl,(New1_k (L.getD k.toNat default) q d w4).mono fun v w5 ⟨e5,hv⟩=>⟨e5,_,hv,fun hyes w9 h9=>⟨h9,_,rfl,fun _=>⟨_,zaq L default (i:=k.toNat) (by omega),by simpa using hyes⟩,fun _=>hk0⟩,fun hn=>⟨i64 (by omega),⟨rfl,by omega,by omega,fun j hj=>?_⟩,by simp only[];omega⟩⟩⟩
  by_cases hjk:(j:Int)<k
  ·exact hno j hjk
  ·obtain rfl:j=k.toNat:=by omega
   simpa using hn
 ·constructor
  ·intro h;omega
  ·rintro⟨x,hm,hx⟩
   obtain⟨j,hj,rfl⟩:=List.getElem_of_mem hm
   have:=hno j (by omega)
   rw[show L.getD j default=L[j] by simp[List.getD_eq_getElem?_getD,hj]] at this
   exact absurd this hx
theorem zvz(p:Option Addr)(c:Nat)(L:List Ht)(h63:(L.length:Int)<=9223372036854775807)(w:World)(hL:zjg w p L) :
  FnP Tryz.prog zaJ #[.slice p L.length c,.func (.func zeh) #[] #[]] w fun v w'=>Ext w w'/\∃b:Bool,v=.bool b/\(b=true↔∃x∈L,x.used≠zbe):=by
 refine zcs p L.length c _ w _ fun w1 h1=>?_
 refine(zEb p c L h63 w1 (hL.ext h1)).mono fun v w2 ⟨e2,t,hv,ht⟩=>⟨e2,t,hv,fun w4 h4=>⟨h4,_,rfl,?_⟩⟩
 rw[decide_eq_true_iff];exact ht
def zz0(L:List Ht)(pol:Pol):Prop:=zj4 L/\(∀x∈L,x.used=zbe)/\zoY pol
def zr7(L:List Ht)(pol:Pol):Fm:=⟨L,pol,0,[]⟩
theorem fNew_k(p:Option Addr)(c:Nat)(L:List Ht)(h63:(L.length:Int)<=9223372036854775807)(hO:∀h∈L,zvq h)(pol:Pol)(w:World)(hL:zjg w p L) :
  FnP Tryz.prog zgn #[.agg #[.slice p L.length c,.int .i64 pol.first,.int .i64 pol.times,.int .i64 pol.most,.int .i64 pol.tries]] w fun v w'=>Ext w w'/\∃(q:Option Addr) (e:Int),v=.tuple #[.pointer q,.int .i64 e]/\(e=0↔zz0 L pol)/\(e≠0->q=none) /\
   (e=0->∃fb P,q=ptr fb/\FX w.heap.size w' fb P (zr7 L pol)):=by
 refine zwI p L.length c pol.first pol.times pol.most pol.tries w _ fun b0 hb0 w1 h1=>(zrL p c L h63 hO w1 (hL.ext h1)).mono fun v w2 ⟨e2,e,hv,he,_⟩=>⟨e2,e,hv,fun hne w4 h4=>⟨h4,none,e,rfl,⟨fun h=>absurd h hne,fun h=>absurd (he.2 h.1) hne⟩,fun _=>rfl,fun h=>absurd h hne⟩,fun hz w4 h4=>?_⟩
 have hok:=he.1 hz
 refine(zvz p c L h63 w4 (hL.ext h4)).mono fun v w5 ⟨e5,b,hv,hb⟩=>⟨e5,b,hv,fun hbt w7 h7=>⟨h7,none,9,rfl,⟨fun h=>(by cases h),fun h=>?_⟩,fun _=>rfl,fun h=>(by cases h)⟩,fun hbf w7 h7=>?_⟩
 ·obtain⟨x,hx,hu⟩:=hb.1 hbt
  exact absurd (h.2.1 x hx) hu
 have hu:∀x∈L,x.used=zbe:=fun x hx=>by
  by_cases h:x.used=zbe
  ·exact h
  ·have:=hb.2 ⟨x,hx,h⟩;rw[hbf] at this;cases this
 refine(zyF pol.first pol.times pol.most pol.tries w7).mono fun v w8 ⟨e8,e,hv,hy,hn⟩=>⟨e8,e,hv,fun hne w10 h10=>⟨h10,none,e,rfl,⟨fun h=>absurd h hne,fun h=>absurd (hy h.2.2) hne⟩,fun _=>rfl,fun h=>absurd h hne⟩,fun hz w10 x10=>?_⟩
 have hp:zoY pol:=by
  by_cases h:zoY pol
  ·exact h
  ·have:=hn h;omega
 have h10:=zaa x10
 refine(zHb p c L hok.1 (fun h hh=>(hok.2.1 h hh).2.1) w10 (hL.ext h10)).mono fun v w11 ⟨e11,p',c',M,hv,hM,o11,hA,hN⟩=>⟨e11,p',_,c',hv,fun w15 x15=>?_⟩
 have h15:=zaa x15
 refine zbv (by intro v hv;simp at hv;rcases hv with rfl|rfl|rfl|rfl|rfl|rfl|rfl<;>rfl) fun w16 o16 e16 w17 e17=>?_
 have h1117:=(h15.trans e16).trans e17
 have hall:Ext w w17:=(h10.trans e11).trans h1117
 have hs15:w.heap.size<=w15.heap.size:=Nat.le_trans h10.size (Nat.le_trans e11.size h15.size)
 have hs11:w11.heap.size<=w15.heap.size:=h15.size
 refine⟨hall,_,0,rfl,⟨fun _=>⟨hok,hu,hp⟩,fun _=>rfl⟩,fun h=>absurd rfl h,fun _=>⟨w15.heap.size,⟨p',c',none,0,[]⟩,rfl,?_⟩⟩
 have hS:=(zBX o11 (fun m hm=>(hA m hm).1) hN).weak h10.size
 rw[hM] at hS
 refine⟨((o16 _ hs15).ext e17),Own.nil,rfl,fun w'' k=>?_,fun r hr=>(by cases hr),fun a ha=>(by cases ha),⟨hok.1,hO⟩,⟨by simp[zr7],fun s hs=>by simp[zr7] at hs⟩,fun b hb=>Nat.lt_of_lt_of_le hb hall.size,fun b hb hf=>?_⟩
 ·refine hS (fun b=>b<w.heap.size) (fun b hb=>hb) w'' ((zac h1117).trans k fun b hb=>?_)
  rcases hb with hb|hb|⟨a,ha,_⟩
  ·exact .inl hb
  ·subst hb;exact .inr hs11
  ·cases ha
 ·rcases hf with hf|⟨a,ha,_⟩
  ·subst hf;have:w15.heap.size<w.heap.size:=hb;omega
  ·cases ha
section
variable {O:Nat->Prop} {B fb:Nat} {w:World} {P:Pl} {F:Fm}
end
theorem zFA(a b:Nd)(p:Nat):zb8 (zvu a b) p=zb8 a p+zb8 b p:=by unfold zb8 zvu;split<;>rfl
theorem zFB(a b:Nd)(p:Nat):zb8 (zhR a b) p=zb8 a p-zb8 b p:=by unfold zb8 zhR;split<;>rfl
theorem zIJ{a b:Nd}:zjv a b↔∀p,p<3->zb8 a p<=zb8 b p:=by
 constructor
 ·rintro⟨h1,h2,h3⟩ i hi
  match i,hi with
  |0,_ => exact h1
  |1,_ => exact h2
  |2,_ => exact h3
 ·intro h
  exact⟨h 0 (by omega),h 1 (by omega),h 2 (by omega)⟩
def zer(s:St)(i:Int)(p:Nat):Int:=if s.what=2/\s.host=i then zb8 s.job.nd p else 0
def use(F:Fm)(i:Int)(p:Nat):Nat->Int
 |0 => 0
 |n+1 => use F i p n+zer (zaf F n) i p
theorem zyW{s:St}(h:okN s.job.nd)(i:Int){p:Nat}(hp:p<3):0<=zer s i p:=by
 unfold zer
 split
 ·exact(zoX.1 h p hp).1
 ·omega
theorem zHp{F:Fm}(h:∀k,k<F.jobs.length->okN (zaf F k).job.nd)(i:Int){p:Nat}(hp:p<3):∀{n:Nat},n<=F.jobs.length->0<=use F i p n
 |0,_ => by simp[use]
 |n+1,hn => by
  have:=zHp h i hp (n:=n) (by omega)
  have:=zyW (h n (by omega)) i hp
  unfold use;omega
theorem zHo{F:Fm}(h:∀k,k<F.jobs.length->okN (zaf F k).job.nd)(i:Int){p:Nat}(hp:p<3){k:Nat}:∀{n:Nat},n<=F.jobs.length->k<n->zer (zaf F k) i p<=use F i p n
 |0,_,hk => by omega
 |n+1,hn,hk => by
  unfold use
  by_cases hkn:k=n
  ·subst hkn
   have:=zHp h i hp (n:=k) (by omega)
   omega
  ·have:=zHo h i hp (n:=n) (by omega) (by omega:k<n)
   have:=zyW (h n (by omega)) i hp
   omega
structure zlB(F G:Fm)(k:Nat)(s:St):Prop where
 len:G.jobs.length=F.jobs.length
 pol:G.pol=F.pol
 now:G.now=F.now
 hlen:G.hosts.length=F.hosts.length
 at_:∀i,zaf G i=if i=k then s else zaf F i
 job:s.job=(zaf F k).job
theorem zlB.self{F G:Fm}{k:Nat}{s:St}(t:zlB F G k s):zaf G k=s:=by rw[t.at_,if_pos rfl]
theorem zlB.other{F G:Fm}{k:Nat}{s:St}(t:zlB F G k s){i:Nat}(h:i≠k):zaf G i=zaf F i:=by rw[t.at_,if_neg h]
theorem zlB.jobs{F G:Fm}{k:Nat}{s:St}(t:zlB F G k s)(i:Nat):(zaf G i).job=(zaf F i).job:=by
 rw[t.at_]
 split
 ·rename_i h;rw[h];exact t.job
 ·rfl
theorem zy5{F G:Fm}{k:Nat}{s:St}(t:zlB F G k s)(i:Int)(p:Nat):∀n,use G i p n=use F i p n+(if k<n then zer s i p-zer (zaf F k) i p else 0)
 |0 => by simp[use]
 |n+1 => by
  unfold use
  rw[zy5 t i p n,t.at_ n]
  by_cases h1:n=k
  ·subst h1
   rw[if_pos rfl,if_neg (by omega),if_pos (by omega)];omega
  ·rw[if_neg h1]
   by_cases h2:k<n
   ·rw[if_pos h2,if_pos (by omega)];omega
   ·rw[if_neg h2,if_neg (by omega)];omega
def zd5(p:Pol)(s:St):Prop:=0<=s.tries/\s.tries<=p.tries+1/\(s.what=4->s.tries=p.tries+1)/\(s.what=1\/s.what=2->s.tries<=p.tries)/\(s.what=1->0<s.tries->zxZ p s.tries<=s.again)
def aftJ(F:Fm):Prop:=∀k,k<F.jobs.length->∀y∈(zaf F k).job.aft,1<=y/\y<=k
theorem zA2{F:Fm}:zky F↔aftJ F:=by
 constructor
 ·intro h k hk y hy
  exact h k _ (zzO hk) y hy
 ·intro h i s hs y hy
  have hi:i<F.jobs.length:=(List.getElem?_eq_some_iff.1 hs).1
  rw[<-zhe hs] at hy
  exact h i hi y hy
structure zxx(F:Fm):Prop where
 aft:aftJ F
 pol:zoY F.pol
 now:0<=F.now/\F.now<=1099511627776
 hs:zj4 F.hosts
 nd:∀k,k<F.jobs.length->okN (zaf F k).job.nd
 hrun:∀k,k<F.jobs.length->(zaf F k).what=2->0<=(zaf F k).host/\(zaf F k).host<F.hosts.length
 use:∀i:Nat,i<F.hosts.length->∀p,p<3->zb8 (F.hosts.getD i default).used p=use F i p F.jobs.length
 ahead:∀k,k<F.jobs.length->(zaf F k).what=2\/(zaf F k).what=3->∀y∈(zaf F k).job.aft,zaX F y=3
 tries:∀k,k<F.jobs.length->zd5 F.pol (zaf F k)
def zDC(F:Fm)(n:Nat):Prop:=∀k,k<n->(zaf F k).what=1->∀y∈(zaf F k).job.aft,zaX F y≠4/\zaX F y≠5
structure Inv(F:Fm):Prop where
 i0:zxx F
 wt:zDC F F.jobs.length
theorem zxx.lv{F:Fm}(I:zxx F){k:Nat}(hk:k<F.jobs.length)(hw:(zaf F k).what=2):LvOk F k:=by
 obtain⟨h0,h1⟩:=I.hrun k hk hw
 refine⟨I.hs,h0,h1,zIJ.2 fun p hp=>?_⟩
 rw[I.use _ (by omega) p hp]
 have:=zHo I.nd (((zaf F k).host.toNat:Nat):Int) hp (k:=k) (n:=F.jobs.length) (Nat.le_refl _) hk
 unfold zer at this
 rw[if_pos ⟨hw,by omega⟩] at this
 exact this
theorem zxx.pre{F:Fm}(I:zxx F):Pre F:=⟨zA2.2 I.aft,I.pol,I.now,fun k hk hw=>I.lv hk hw,fun k hk=>by
 have h:=I.tries k hk
 have hp:=I.pol
 unfold zd5 at h
 unfold zoY okP at hp
 omega⟩
theorem zcj(F:Fm)(y:Int):zaX F y=(zaf F (y-1).toNat).what:=rfl
theorem zkR{F G:Fm}{k:Nat}{s:St}(I:zxx F)(t:zlB F G k s)(hk:k<F.jobs.length)(hhs:zj4 G.hosts)(hrun:s.what=2->0<=s.host/\s.host<F.hosts.length)
  (huse:∀i:Nat,i<F.hosts.length->∀p,p<3->zb8 (G.hosts.getD i default).used p=zb8 (F.hosts.getD i default).used p+(zer s i p-zer (zaf F k) i p))
  (ha:s.what=2\/s.what=3->∀y∈s.job.aft,zaX F y=3) (hb:(zaf F k).what=3->s.what=3) (ht:zd5 F.pol s):zxx G:=by
 have haft:aftJ G:=fun i hi y hy=>by
  rw[t.jobs] at hy
  rw[t.len] at hi
  exact I.aft i hi y hy
 refine⟨haft,by rw[t.pol];exact I.pol,by rw[t.now];exact I.now,hhs,fun i hi=>by rw[t.jobs];exact I.nd i (by rw[t.len] at hi;exact hi),fun i hi hw=>?_,fun i hi p hp=>?_,fun i hi hw y hy=>?_,fun i hi=>?_⟩
 ·rw[t.hlen]
  rw[t.len] at hi
  rw[t.at_] at hw ⊢
  split at hw
  ·rename_i h;rw[if_pos h];exact hrun hw
  ·rename_i h;rw[if_neg h];exact I.hrun i hi hw
 ·rw[t.hlen] at hi
  rw[huse i hi p hp,I.use i hi p hp,t.len,zy5 t,if_pos hk]
 ·rw[t.len] at hi
  have hy':=hy
  rw[t.jobs] at hy'
  have hle:=I.aft i hi y hy'
  rw[zcj,t.at_]
  by_cases hik:i=k
  ·subst hik
   rw[if_neg (by omega),<-zcj]
   rw[t.self] at hw hy
   exact ha hw y hy
  ·rw[t.other hik] at hw
   have h3:=I.ahead i hi hw y hy'
   split
   ·rename_i h
    rw[zcj,h] at h3
    exact hb h3
   ·exact h3
 ·rw[t.len] at hi
  rw[t.pol,t.at_]
  split
  ·exact ht
  ·exact I.tries i hi
theorem zlB.st(F:Fm){k m:Nat}(v:Int)(hk:k<F.jobs.length):zlB F (stF F k m v) k (zjc m v (zaf F k)):=⟨zcD F k m v,rfl,rfl,rfl,fun i=>zqj F v hk i,zlh m v _⟩
theorem zEu{F:Fm}{s:St}:zJ4 F s=true↔∃y∈s.job.aft,zaX F y=4\/zaX F y=5:=by
 unfold zJ4
 rw[List.any_eq_true]
 simp[Bool.or_eq_true]
theorem zCj{F:Fm}(I:zxx F){n:Nat}(hn:n<F.jobs.length)(hw:zDC F n):zxx (zb7 F n)/\zDC (zb7 F n) (n+1):=by
 unfold zb7
 split
 ·rename_i h
  have t:=zlB.st F (m:=11) 5 hn
  have h5:(zjc 11 5 (zaf F n)).what=5:=rfl
  refine⟨zkR I t hn I.hs (fun h2=>by rw[h5] at h2;omega) (fun i hi p hp=>?_) (fun h2=>by rw[h5] at h2;omega) (fun h3=>by rw[h.1] at h3;omega) ?_,fun k hk h1 y hy=>?_⟩
  ·have e1:zer (zjc 11 5 (zaf F n)) i p=0:=by unfold zer;rw[if_neg (fun h=>by rw[h5] at h;omega)]
   have e2:zer (zaf F n) i p=0:=by unfold zer;rw[if_neg (fun g=>by rw[h.1] at g;omega)]
   rw[e1,e2,znX];omega
  ·have:=I.tries n hn
   unfold zd5 at this ⊢
   simp only[zjc]
   omega
  ·rw[t.at_] at h1
   rw[t.jobs] at hy
   split at h1
   ·rw[h5] at h1;omega
   ·rename_i hkn
    have hle:=I.aft k (by omega) y hy
    have:=hw k (by omega) h1 y hy
    rw[zcj,t.other (by omega),<-zcj]
    exact this
 ·rename_i h
  refine⟨I,fun k hk h1 y hy=>?_⟩
  by_cases hkn:k=n
  ·subst hkn
   have:zJ4 F (zaf F k)≠true:=fun hb=>h ⟨h1,hb⟩
   rw[Ne,zEu] at this
   exact⟨fun h=>this ⟨y,hy,.inl h⟩,fun h=>this ⟨y,hy,.inr h⟩⟩
  ·exact hw k (by omega) h1 y hy
theorem zyv{F:Fm}(I:zxx F):Inv (zpY F):=by
 have h:∀n,n<=F.jobs.length->zxx (lostTo F n)/\zDC (lostTo F n) n:=by
  intro n
  induction n with
  |zero => intro _;exact⟨I,fun k hk => by omega⟩
  |succ n ih =>
   intro hn
   obtain⟨a,b⟩:=ih (by omega)
   exact zCj a (by rw[zgA];omega) b
 obtain⟨a,b⟩:=h _ (Nat.le_refl _)
 refine⟨a,?_⟩
 unfold zpY
 rw[zgA]
 exact b
theorem zFg{F:Fm}{k:Nat}(i:Nat)(p:Nat)(h0:0<=(zaf F k).host)(h1:(zaf F k).host<F.hosts.length)(hw:(zaf F k).what=2):zb8 ((zkM F k).hosts.getD i default).used p=zb8 (F.hosts.getD i default).used p-zer (zaf F k) i p:=by
 unfold zkM zer
 by_cases hi:(zaf F k).host.toNat=i
 ·rw[if_pos ⟨hw,by omega⟩]
  subst hi
  simp only[List.getD_eq_getElem?_getD,List.getElem?_set_self (show(zaf F k).host.toNat<F.hosts.length by omega)]
  simp only[Option.getD_some,zh3]
  rw[zFB]
 ·rw[if_neg (fun h=>by omega)]
  simp only[List.getD_eq_getElem?_getD,List.getElem?_set_ne hi]
  omega
theorem zIP{F:Fm}(I:zxx F){k:Nat}(hk:k<F.jobs.length)(hw:(zaf F k).what=2):zj4 (zkM F k).hosts:=by
 obtain⟨_,h0,h1,hf⟩:=I.lv hk hw
 have hm:=zaq F.hosts default (i:=(zaf F k).host.toNat) (by omega)
 obtain⟨_,_,_,c,d,e⟩:=I.hs.2.1 _ hm
 have hn:=I.nd k hk
 refine zug I.hs (by omega) ?_ ?_
 ·unfold okN zjv zhR at *;simp only;omega
 ·unfold okN zjv zhR at *;simp only;omega
theorem zkQ{F G:Fm}{k:Nat}{s:St}(I:zxx F)(hk:k<F.jobs.length)(hw:(zaf F k).what=2)(t:zlB F G k s)(hG:G.hosts=(zkM F k).hosts)(hs:s.what≠2)(ht:zd5 F.pol s):zxx G:=by
 obtain⟨h0,h1⟩:=I.hrun k hk hw
 refine zkR I t hk (by rw[hG];exact zIP I hk hw) (fun h=>absurd h hs) (fun i hi p hp=>?_) (fun h y hy=>?_) (fun h=>by omega) ht
 ·rw[hG,zFg i p h0 h1 hw]
  have:zer s i p=0:=by unfold zer;rw[if_neg (fun h=>hs h.1)]
  rw[this];omega
 ·rw[t.job] at hy
  exact I.ahead k hk (.inl hw) y hy
theorem zmD{F G:Fm}{k:Nat}{s:St}(I:Inv F)(t:zlB F G k s)(hk:k<F.jobs.length)(hs:s.what≠4/\s.what≠5)(h1:s.what=1->∀y∈s.job.aft,zaX F y≠4/\zaX F y≠5):zDC G G.jobs.length:=fun i hi hw y hy=>by
 rw[t.len] at hi
 have hy':=hy
 rw[t.jobs] at hy'
 have hle:=I.i0.aft i hi y hy'
 rw[zcj,t.at_]
 split
 ·exact hs
 ·rw[<-zcj]
  by_cases hik:i=k
  ·subst hik
   rw[t.self] at hw hy
   exact h1 hw y hy
  ·rw[t.other hik] at hw
   exact I.wt i hi hw y hy'
theorem zlB.left{F:Fm}{k:Nat}(hk:k<F.jobs.length):zlB F (zdQ F k) k { zaf F k with host:=0,since:=0 }:=⟨zdz F k,rfl,rfl,by unfold zdQ;rw[znX,znX];unfold zkM;simp,fun i=>zr1 hk i,rfl⟩
theorem zlB.then_{F G:Fm}{k:Nat}{s:St}(t:zlB F G k s)(hk:k<F.jobs.length)(m:Nat)(v:Int):zlB F (stF G k m v) k (zjc m v s):=by
 have u:=zlB.st G (m:=m) v (by rw[t.len];exact hk)
 refine⟨u.len.trans t.len,u.pol.trans t.pol,u.now.trans t.now,u.hlen.trans t.hlen,fun i=>?_,(zlh m v s).trans t.job⟩
 rw[u.at_]
 split
 ·rw[t.self]
 ·rename_i h;rw[t.other h]
theorem zCX{F:Fm}(I:Inv F){k:Nat}(hk:k<F.jobs.length)(hw:(zaf F k).what=2)(ok:Bool):Inv (zs8 F k ok):=by
 have ht:=I.i0.tries k hk
 have hp:=I.i0.pol
 have tl:=zlB.left hk
 have h3:=I.i0.ahead k hk (.inl hw)
 have hn:=I.i0.now
 unfold zs8
 split
 ·have t:=tl.then_ hk 11 3
  refine⟨zkQ I.i0 hk hw t rfl (by simp[zjc]) ?_,zmD I t hk (by simp[zjc]) (by simp[zjc])⟩
  unfold zd5 at ht ⊢
  simp only[zjc]
  omega
 have tt:zlB F (zfq F k) k _:=tl.then_ hk 15 ((zaf F k).tries+1)
 split
 ·rename_i hle
  have t:=(tt.then_ hk 11 1).then_ hk 14 (F.now+zxZ F.pol ((zaf F k).tries+1))
  refine⟨zkQ I.i0 hk hw t rfl (by simp[zjc]) ?_,zmD I t hk (by simp[zjc]) (fun _ y hy=>?_)⟩
  ·unfold zd5 at ht ⊢
   simp only[zjc]
   refine⟨by omega,by omega,by omega,by omega,fun _ _=>by omega⟩
  ·have:=h3 y hy
   omega
 ·rename_i hgt
  have t:=tt.then_ hk 11 4
  refine zyv (zkQ I.i0 hk hw t rfl (by simp[zjc]) ?_)
  unfold zd5 at ht ⊢
  simp only[zjc]
  omega
theorem zBm{F:Fm}(I:Inv F){k:Nat}(hk:k<F.jobs.length)(hw:(zaf F k).what=1\/(zaf F k).what=2):Inv (zzn F k):=by
 have ht:=I.i0.tries k hk
 unfold zzn
 refine zyv ?_
 split
 ·rename_i h2
  have t:=(zlB.left hk).then_ hk 11 5
  refine zkQ I.i0 hk h2 t rfl (by simp[zjc]) ?_
  unfold zd5 at ht ⊢
  simp only[zjc]
  omega
 ·rename_i h2
  have h1:(zaf F k).what=1:=by omega
  have t:=zlB.st F (m:=11) 5 hk
  refine zkR I.i0 t hk I.i0.hs (by simp[zjc]) (fun i hi p hp=>?_) (by simp[zjc]) (fun h=>by omega) ?_
  ·have e1:zer (zjc 11 5 (zaf F k)) i p=0:=by unfold zer;rw[if_neg (by simp[zjc])]
   have e2:zer (zaf F k) i p=0:=by unfold zer;rw[if_neg (by omega)]
   rw[e1,e2,znX];omega
  ·unfold zd5 at ht ⊢
   simp only[zjc]
   omega
theorem zyU{F:Fm}{j:Jb}(i:Nat):zaf (zta F j) i=if i<F.jobs.length then zaf F i else if i=F.jobs.length then zua j else default:=by
 unfold zaf zta
 simp only[List.getD_eq_getElem?_getD]
 split
 ·rename_i h;rw[List.getElem?_append_left h]
 ·rename_i h
  rw[List.getElem?_append_right (by omega)]
  split
  ·rename_i h2;rw[h2];simp
  ·rename_i h2
   rw[List.getElem?_eq_none (by simp;omega)];rfl
theorem zDi(F:Fm)(j:Jb):(zta F j).jobs.length=F.jobs.length+1:=by simp[zta]
theorem zDB{F:Fm}{j:Jb}(i:Int)(p:Nat):∀n,n<=F.jobs.length->use (zta F j) i p n=use F i p n
 |0,_ => rfl
 |n+1,h => by
  unfold use
  rw[zDB i p n (by omega),zyU,if_pos (by omega)]
theorem upA_ge{l:List Int}(h:upA 0 l):∀x∈l,1<=x:=fun x hx=>(zge h x hx).1
theorem zDh{F:Fm}{j:Jb}(I:Inv F)(h:zz1 F j):Inv (zta F j):=by
 have hup:∀x∈j.aft,1<=x:=upA_ge h.1.up
 have wh:∀y:Int,1<=y->y<=F.jobs.length->zaX (zta F j) y=zaX F y:=fun y h1 h2=>by rw[zcj,zyU,if_pos (by omega),<-zcj]
 have cs:∀{k},k<(zta F j).jobs.length->k<F.jobs.length/\zaf (zta F j) k=zaf F k\/k=F.jobs.length/\zaf (zta F j) k=zua j:=fun {k} hk=>by
  rw[zDi] at hk
  rw[zyU]
  by_cases h:k<F.jobs.length
  ·exact .inl ⟨h,if_pos h⟩
  ·exact .inr ⟨by omega,by rw[if_neg h,if_pos (by omega)]⟩
 refine⟨⟨fun k hk y hy=>?_,I.i0.pol,I.i0.now,I.i0.hs,fun k hk=>?_,fun k hk hw=>?_,fun i hi p hp=>?_,fun k hk hw y hy=>?_,fun k hk=>?_⟩,fun k hk hw y hy=>?_⟩
 ·rcases cs hk with⟨hk,e⟩|⟨hk,e⟩<;>rw[e] at hy
  ·exact I.i0.aft k hk y hy
  ·have:=(h.2.2 y hy).1
   exact⟨hup y hy,by omega⟩
 ·rcases cs hk with⟨hk,e⟩|⟨hk,e⟩<;>rw[e]
  ·exact I.i0.nd k hk
  ·exact h.1.nd
 ·rcases cs hk with⟨hk,e⟩|⟨hk,e⟩<;>rw[e] at hw ⊢
  ·exact I.i0.hrun k hk hw
  ·simp[zua] at hw
 ·rw[zDi]
  unfold use
  rw[zDB _ _ _ (Nat.le_refl _),zyU,if_neg (by omega),if_pos rfl]
  have:zer (zua j) i p=0:=by unfold zer;rw[if_neg (by simp[zua])]
  rw[this]
  have:=I.i0.use i hi p hp
  show zb8 (F.hosts.getD i default).used p=_
  omega
 ·rcases cs hk with⟨hk,e⟩|⟨hk,e⟩<;>rw[e] at hw hy
  ·have:=I.i0.aft k hk y hy
   rw[wh y this.1 (by omega)]
   exact I.i0.ahead k hk hw y hy
  ·simp[zua] at hw
 ·rcases cs hk with⟨hk,e⟩|⟨hk,e⟩<;>rw[e]
  ·exact I.i0.tries k hk
  ·have hp:=I.i0.pol
   unfold zoY okP at hp
   show zd5 F.pol (zua j)
   unfold zd5 zua
   simp only
   omega
 ·rcases cs hk with⟨hk,e⟩|⟨hk,e⟩<;>rw[e] at hw hy
  ·have:=I.i0.aft k hk y hy
   rw[wh y this.1 (by omega)]
   exact I.wt k hk hw y hy
  ·have h1:=h.2.2 y hy
   rw[wh y (hup y hy) h1.1]
   exact h1.2
theorem zuN{F:Fm}{s:St}:zfS F s=true↔s.what=1/\s.again<=F.now/\∀y∈s.job.aft,zaX F y=3:=by
 unfold zfS
 simp[Bool.and_eq_true,List.all_eq_true,and_assoc]
theorem zlB.run{F:Fm}{k0:Nat}{k:Int}(hk:k0<F.jobs.length):zlB F (zs9 F k0 k) k0 { zaf F k0 with what:=2,host:=k,since:=F.now }:=⟨zJA F k0 k,rfl,rfl,by show(zlm F k0 k).hosts.length=_;unfold zlm;simp,fun i=>run_at hk k i,rfl⟩
theorem zpk(F:Fm)(k0:Nat)(k:Int):(zs9 F k0 k).hosts=(zlm F k0 k).hosts:=rfl
theorem ztl{L:List Ht}{t:AT}{a:Nd}{k:Int}(h:zh8 L t a k):0<=k/\k<L.length/\zjv a (zhR (L.getD k.toNat default).has (L.getD k.toNat default).used):=by
 obtain⟨h0,h1,h2⟩:=znL.1 h.1
 unfold zFb at h2
 rw[Bool.and_eq_true,decide_eq_true_iff] at h2
 exact⟨h0,h1,h2.2⟩
theorem zGl{F:Fm}{k0:Nat}{k:Int}(i:Nat)(p:Nat)(h0:0<=k)(h1:k<F.hosts.length):zb8 ((zlm F k0 k).hosts.getD i default).used p=zb8 (F.hosts.getD i default).used p+(if k=i then zb8 (zaf F k0).job.nd p else 0):=by
 unfold zlm zqV
 by_cases hi:k.toNat=i
 ·rw[if_pos (by omega)]
  subst hi
  simp only[List.getD_eq_getElem?_getD,List.getElem?_set_self (show k.toNat<F.hosts.length by omega)]
  simp only[Option.getD_some,zh3]
  rw[zFA]
 ·rw[if_neg (fun h=>by omega)]
  simp only[List.getD_eq_getElem?_getD,List.getElem?_set_ne hi]
  omega
theorem zJz{F:Fm}(I:Inv F){k0:Nat}(hk:k0<F.jobs.length)(hr:zfS F (zaf F k0)=true){k:Int}(hb:zh8 F.hosts (zaf F k0).job.ask (zaf F k0).job.nd k):Inv (zs9 F k0 k):=by
 obtain⟨h0,h1,hf⟩:=ztl hb
 obtain⟨r1,r2,r3⟩:=zuN.1 hr
 have t:=zlB.run (k:=k) hk
 have ht:=I.i0.tries k0 hk
 refine⟨zkR I.i0 t hk (by rw[zpk];exact zuf I.i0.hs h0 h1 (I.i0.nd k0 hk) hf) (fun _=>⟨h0,h1⟩) (fun i hi p hp=>?_) (fun _ y hy=>r3 y hy) (fun h=>by omega) ?_,zmD I t hk (by simp) (by simp)⟩
 ·rw[zpk,zGl i p h0 h1]
  have e2:zer (zaf F k0) i p=0:=by unfold zer;rw[if_neg (by omega)]
  rw[e2]
  unfold zer
  simp only[true_and]
  omega
 ·unfold zd5 at ht ⊢
  simp only
  omega
theorem zpO.ind{Mot:Fm->Prop}(step:∀F id k,inJ F id->zfS F (zaf F (id-1).toNat)=true->zh8 F.hosts (zaf F (id-1).toNat).job.ask (zaf F (id-1).toNat).job.nd k->Mot F->Mot (zs9 F (id-1).toNat k)) :
  ∀{F G:Fm} {ids:List Int} {outs:List (Int×Int)},zpO F ids G outs->ids.Nodup->(∀id∈ids,inJ F id/\zfS F (zaf F (id-1).toNat)=true)->Mot F->Mot G:=by
 intro F G ids outs h
 induction h with
 |nil F => intro _ _ m;exact m
 |skip h1 _ ih =>
  intro hn hr m
  exact ih (List.nodup_cons.1 hn).2 (fun id h=>hr id (List.mem_cons_of_mem _ h)) m
 |@run F F' id k ids out h1 _ ih =>
  intro hn hr m
  obtain⟨hin,hrd⟩:=hr id (List.mem_cons_self ..)
  have hk:(id-1).toNat<F.jobs.length:=by have:=hin.1;have:=hin.2;omega
  have t:=zlB.run (k:=k) hk
  refine ih (List.nodup_cons.1 hn).2 (fun id' h=>?_) (step F id k hin hrd h1 m)
  obtain⟨hin',hrd'⟩:=hr id' (List.mem_cons_of_mem _ h)
  have hne:id'≠id:=fun h2=>(List.nodup_cons.1 hn).1 (h2▸h)
  have hk':(id'-1).toNat≠(id-1).toNat:=by have:=hin.1;have:=hin'.1;omega
  refine⟨⟨hin'.1,by rw[t.len];exact hin'.2⟩,?_⟩
  rw[t.other hk']
  rw[zuN] at hrd' hrd ⊢
  refine⟨hrd'.1,by rw[t.now];exact hrd'.2.1,fun y hy=>?_⟩
  have:=hrd'.2.2 y hy
  rw[zcj] at this ⊢
  rw[t.at_]
  split
  ·rename_i h;rw[h] at this;omega
  ·exact this
theorem zCE{F:Fm}{T:List Int}(h:zHw F T):T.Nodup:=(h.1.nodup_iff).2 (zhq F _)
theorem zuC{F:Fm}{T:List Int}(h:zHw F T):∀id∈T,inJ F id/\zfS F (zaf F (id-1).toNat)=true:=fun id hi=>by
 obtain⟨a,b,c⟩:=zgB.1 (h.1.mem_iff.1 hi)
 exact⟨⟨a,b⟩,c⟩
theorem zsw{Mot:Fm->Prop}(step:∀F id k,inJ F id->zfS F (zaf F (id-1).toNat)=true->zh8 F.hosts (zaf F (id-1).toNat).job.ask (zaf F (id-1).toNat).job.nd k->Mot F->Mot (zs9 F (id-1).toNat k)){F G:Fm}{outs:List (Int×Int)}(h:zfZ F G outs)(m:Mot F):Mot G:=by
 obtain⟨T,h1,h2⟩:=h
 exact h2.ind step (zCE h1) (zuC h1) m
theorem zqX{F:Fm}{id:Int}(h:inJ F id):(id-1).toNat<F.jobs.length:=by have:=h.1;have:=h.2;omega
theorem zyD{F G:Fm}{outs:List (Int×Int)}(h:zfZ F G outs)(I:Inv F):Inv G :=
 zsw (fun F id k hin hr hb I=>zJz I (zqX hin) hr hb) h I
theorem zJf{L:List Ht}{pol:Pol}(h:zz0 L pol):Inv (zr7 L pol):=by
 refine⟨⟨fun k hk=>(by simp[zr7] at hk),h.2.2,by simp[zr7],h.1,fun k hk=>(by simp[zr7] at hk),fun k hk=>(by simp[zr7] at hk),fun i hi p hp=>?_,fun k hk=>(by simp[zr7] at hk),fun k hk=>(by simp[zr7] at hk)⟩,fun k hk=>(by simp[zr7] at hk)⟩
 have hm:=h.2.1 _ (zaq L default (i:=i) hi)
 show zb8 (L.getD i default).used p=0
 rw[hm]
 unfold zb8 zbe
 split<;>rfl
structure zEd(n:Nat)(w:World)(p:Option Addr)(c:Nat)(R:List StR):Prop where
 own:Own n w zjO 16 p R.length c (R.flatMap ztw)
 far:∀r∈R,Far n w fun w''=>IsJ w'' r.s.job r.pa r.ca r.pf
theorem zEd.st{n:Nat}{w:World}{p:Option Addr}{c:Nat}{R:List StR}(h:zEd n w p c R){k:Int}(h0:0<=k)(h1:k<R.length):∃r,R[k.toNat]?=some r/\p≠none/\pIdx p k 16≠none/\(∀(m:Nat) u,(ztw r)[m]?=some u->Go.Sx.cell w (pIdx p k 16) m=some u)/\IsJ w r.s.job r.pa r.ca r.pf:=by
 obtain⟨r,hr⟩:∃r,R[k.toNat]?=some r:=⟨_,List.getElem?_eq_getElem (by omega)⟩
 have g:∀(m:Nat) u,(ztw r)[m]?=some u->Go.Sx.cell w (pIdx p k 16) m=some u:=fun m u hu=>(h.own.recs fun _ _=>rfl).at h0 hr hu
 have g0:=g 0 _ rfl
 exact⟨r,hr,fun h=>zal g0 (zah.2 h),zal g0,g,(h.far r (List.mem_of_getElem? hr)).at⟩
theorem zBG{t:AT}(h:zlC t=0):zeE t=0:=by
 unfold zlC at h
 split at h
 ·omega
 ·exact h
section
variable {O:Nat->Prop} {B fb:Nat} {w:World} {P:Pl} {F:Fm}
theorem Jobs_k(x:FXO O B w fb P F):FnP Tryz.prog zey #[.pointer (ptr fb)] w fun v w'=>Ext w w'/\∃(p:Option Addr) (c:Nat) (R:List StR),v=.slice p R.length c/\R.map (·.s)=F.jobs/\zEd w.heap.size w' p c R:=by
 have ne:=zaG fb
 have hl:=x.len
 have hl0:=x.jO.1
 refine zmh (ptr fb) w _ ⟨ne,ne,_,_,_,x.cell (i:=6) rfl,?_⟩
 rw[hl]
 refine⟨fun out outl outc k w'=>Ext w w'/\0<=k/\k<=F.jobs.length/\outl=k.toNat/\∃R:List StR,R.map (·.s)=F.jobs.take k.toNat/\Own w.heap.size w' zjO 16 out outl outc (R.flatMap ztw) /\
   ∀r∈R,∀w'',Fr (fun b=>b<w.heap.size\/∃a,out=some a/\a.block=b) w' w''->IsJ w'' r.s.job r.pa r.ca r.pf,
  fun _ _ _ k _=>(F.jobs.length-k).toNat,⟨Ext.refl _,by omega,by omega,rfl,[],rfl,Own.nil,fun x hx=>(by cases hx)⟩,?_⟩
 rintro out outl outc k w6 ⟨x6,hk0,hk1,rfl,R,hR,oR,hT⟩
 have hRl:R.length=k.toNat:=by have:=congrArg List.length hR;rw[List.length_map,List.length_take] at this;omega
 refine⟨fun hlt=>?_,fun hge w7 h7=>?_⟩
 ·obtain⟨r,hr,hF,hjp,hne,g,_,hJ,hok,hwf⟩:=(x.ext x6).st hk0 hlt
  refine⟨hjp,hk0,hlt,hne,_,g 0 _ rfl,_,g 1 _ rfl,_,g 2 _ rfl,_,g 3 _ rfl,_,g 4 _ rfl,_,g 5 _ rfl,_,g 6 _ rfl,_,g 7 _ rfl,_,g 8 _ rfl,_,_,_,g 9 _ rfl,_,_,_,g 10 _ rfl,_,g 11 _ rfl,_,g 12 _ rfl,_,g 13 _ rfl,_,g 14 _ rfl,_,g 15 _ rfl,fun b27 hb27 w28 x28=>?_⟩
  have h28:=zaa x28
  refine(zCG r w28 (hJ.ext h28) (zBG hok.ask) hok.len).mono fun v w29 ⟨e29,r',hv,hrs,hF'⟩=>⟨e29,_,_,_,_,_,_,_,_,_,r'.pa,_,r'.ca,r'.pf,_,r'.cf,_,_,_,_,_,hv,?_⟩
  have h629:=h28.trans e29
  have hw29:=x6.trans h629
  have oR29:=oR.ext h629
  have hns:∀b∈[b27],∀y,out=some y->y.block≠b:=fun b hb y hy=>by
   simp at hb;subst hb
   have:=(oR.lt y hy).2;omega
  refine zpe (v:=sv r') zg9 (by omega) oR29 hw29.size hns rfl (by intro u hu;simp[Value.cells] at hu;rcases hu with rfl|rfl|rfl|rfl|rfl|rfl|rfl|rfl|rfl|rfl|rfl|rfl|rfl|rfl|rfl|rfl<;>rfl) (by omega) (by omega) (by omega) fun out' outc' w56 o56 g56 _ hb56=>⟨i64 (by omega),⟨g56.ext hw29 oR29,by omega,by omega,by omega,R++[r'],?_,?_,?_⟩,by simp only[];omega⟩
  ·rw[show(k+1).toNat=k.toNat+1 by omega,List.map_append,hR,List.take_add_one,hF]
   simp[hrs]
  ·rw[List.flatMap_append]
   simpa[Value.cells,ztw] using o56
  ·have step:∀(w0 w'':World),Ext w0 w29->w0.heap.size<=w29.heap.size->Fr (fun b=>b<w.heap.size\/∃a,out'=some a/\a.block=b) w56 w''->Fr (fun b=>b<w.heap.size\/∃a,out=some a/\a.block=b) w0 w'':=fun w0 w'' h0 hs fw=>by
    have f1:Fr (fun b=>b<w.heap.size\/∃a,out=some a/\a.block=b) w0 w56:=(zac h0).tr (zaR g56 fun a ha=>.inr ⟨a,ha,rfl⟩)
    refine f1.trans fw fun b hb=>?_
    rcases hb with h|⟨a2,ha2,hk2⟩
    ·exact .inl (.inl h)
    rcases g56.new with hn|hn
    ·left
     rw[ha2] at hn
     cases hout:out with
     |none => rw[hout] at hn;simp[blk] at hn
     |some y => rw[hout] at hn;simp[blk] at hn;exact .inr ⟨y,rfl,by omega⟩
    ·right
     have:=hn a2 ha2
     omega
   intro y hy w'' fw
   rcases List.mem_append.1 hy with hy|hy
   ·exact hT y hy w'' (step w6 w'' h629 h629.size fw)
   ·simp at hy;subst hy
    rw[hrs]
    refine hF' _ (fun b hb=>?_) w'' (step w29 w'' (Ext.refl _) (Nat.le_refl _) fw)
    rcases hb with h|⟨a,ha,rfl⟩
    ·have:=x6.size;have:=h28.size;omega
    ·have:=(oR.lt a ha).2;have:=h28.size;omega
 ·have hkl:k.toNat=F.jobs.length:=by omega
  rw[hkl,List.take_length] at hR
  refine⟨x6.trans h7,out,outc,R,by rw[hRl],hR,⟨by rw[hRl];exact oR.ext h7,fun r hr S hS w'' fw=>hT r hr w'' ((zac h7).tr (fw.mono fun b hb=>.inl (hS b hb)))⟩⟩
theorem zAF(x:FXO O B w fb P F)(hh:zj4 F.hosts):FnP Tryz.prog zbQ #[.pointer (ptr fb)] w fun v w'=>Ext w w'/\∃(p:Option Addr) (c:Nat),v=.slice p F.hosts.length c/\F.hosts.length<=c/\HsS w.heap.size w' p F.hosts:=by
 have ne:=zaG fb
 refine zk7 (ptr fb) w _ ⟨ne,ne,_,_,_,x.cell (i:=0) rfl,fun w3 h3=>?_⟩
 refine(zHb P.hp P.hc F.hosts hh.1 (fun h hx=>(hh.2.1 h hx).2.1) w3 ((x.ext h3).hs w3 (Fr.refl _ _))).mono fun v w4 ⟨e4,p',c',M,hv,hM,o4,hA,hN⟩=>⟨e4,p',_,c',hv,fun w8 h8=>⟨(h3.trans e4).trans h8,p',c',rfl,o4.le.1,?_⟩⟩
 have hS:=(zBX o4 (fun m hm=>(hA m hm).1) hN).weak h3.size
 rw[hM] at hS
 exact hS.ext h8
end
abbrev zaI:FuncId:=262
abbrev zdn:FuncId:=270
abbrev zcH:FuncId:=271
abbrev zid:FuncId:=272
abbrev zlF:FuncId:=273
abbrev zdo:FuncId:=274
abbrev zbF:FuncId:=278
abbrev zhJ:FuncId:=279
abbrev zia:FuncId:=280
abbrev ze3:FuncId:=281
abbrev zdh:FuncId:=282
abbrev ze4:FuncId:=283
abbrev zd7:FuncId:=285
abbrev zd8:FuncId:=286
abbrev zib:FuncId:=287
def zve(C:ByteArray)(D:Option Addr)(E F:Nat)(q r s t u v:Int)(g:World)(w:Value->World->Prop):Prop:=
 ∀h:Nat,g.heap.size<=h->∀c:Nat,g.heap.size<=c->∀e,zag [] [h,c] g e->Run Tryz.prog (.buildSlice 34 1 [(0,(.agg #[(.string C),(.slice D E F),(.int .i64 q),(.int .i64 r),(.int .i64 s),(.int .i64 t),(.int .i64 u),(.int .i64 v)]))]) e fun x b=>Ext e b/\∃i j k,x=(.slice i j k)/\∀f,Ext b f->FnP Tryz.prog zb1 #[(.slice i j k)] f fun y z=>Ext f z/\∃d,y=(.int .i64 d)/\((d≠0)->∀a,zag [c] [] b a->w (.tuple #[(.agg #[(.int .i64 0),(.int .i64 0),(.int .i64 0)]),(.int .i64 d)]) a)/\((d=0)->∀a,Ext b a->FnP Tryz.prog zcg #[(.agg #[(.int .i64 q),(.int .i64 r),(.int .i64 s)]),(.agg #[(.int .i64 t),(.int .i64 u),(.int .i64 v)])] a fun A B=>Ext a B/\∃l m n o,A=(.tuple #[(.agg #[(.int .i64 l),(.int .i64 m),(.int .i64 n)]),(.int .i64 o)])/\∀p,zag [c] [] b p->w (.tuple #[(.agg #[(.int .i64 l),(.int .i64 m),(.int .i64 n)]),(.int .i64 o)]) p)
theorem zur(a:ByteArray)(b:Option Addr)(c d:Nat)(e f g i j k:Int)(l:World)(m:Value->World->Prop)(h:zve a b c d e f g i j k l m):FnP Tryz.prog zjJ #[(.agg #[(.string a),(.slice b c d),(.int .i64 e),(.int .i64 f),(.int .i64 g),(.int .i64 i),(.int .i64 j),(.int .i64 k)])] l m:=
 zab (Eq.mp (by kernel_rfl:_=Runs Tryz.prog m ({N:=19}:Cfg) Tryz.f257 (Tryz.f257.body.getD .skip) [.agg [.str a,.slc b c d,.int .i64 e,.int .i64 f,.int .i64 g,.int .i64 i,.int .i64 j,.int .i64 k]] l) h) Tryz.func257 (by kernel_rfl) (fun a w=>Tryz.call257 a w) (by kernel_rfl) (by kernel_rfl) rfl rfl
def zqo(a:Option Addr)(i:World)(j:Value->World->Prop):Prop:=
 a≠none/\a≠none/\a≠none/\a≠none/\a≠none/\a≠none/\a≠none/\a≠none/\a≠none/\a≠none/\∀b,Ext i b->Run Tryz.prog (.buildSlice 387 5 [(0,(.agg #[(.pointer (pAdd a 0)),(.int .i64 0),(.int .i64 59)])),(1,(.agg #[(.pointer (pAdd a 1)),(.int .i64 0),(.int .i64 23)])),(2,(.agg #[(.pointer (pAdd a 2)),(.int .i64 1),(.int .i64 31)])),(3,(.agg #[(.pointer (pAdd a 3)),(.int .i64 1),(.int .i64 12)])),(4,(.agg #[(.pointer (pAdd a 4)),(.int .i64 0),(.int .i64 6)]))]) b fun h g=>Ext b g/\∃c d e,h=(.slice c d e)/\∀f,Ext g f->j (.slice c d e) f
theorem zjz(a:Option Addr)(b:World)(c:Value->World->Prop)(h:zqo a b c):FnP Tryz.prog zdn #[(.pointer a)] b c:=
 zab (Eq.mp (by kernel_rfl:_=Runs Tryz.prog c ({N:=24}:Cfg) Tryz.f270 (Tryz.f270.body.getD .skip) [.sc (.ptr a)] b) h) Tryz.func270 (by kernel_rfl) (fun a w=>Tryz.call270 a w) (by kernel_rfl) (by kernel_rfl) rfl rfl
def zvb(c a:Int)(d:World)(e:Value->World->Prop):Prop:=
 InR .i64 (a+1)/\0<=((a+1):Int)/\0<=(c:Int)/\∀b,Ext d b->e (.int .u64 (IntKind.wrap .u64 ((zav .shl .u64 1 (a+1))-(zav .shl .u64 1 c)))) b
theorem zuo(a b:Int)(c:World)(d:Value->World->Prop)(h:zvb a b c d):FnP Tryz.prog ze4 #[(.int .i64 a),(.int .i64 b)] c d:=
 zab (Eq.mp (by kernel_rfl:_=Runs Tryz.prog d ({N:=11,wrap:=[7,9,10]}:Cfg) Tryz.f283 (Tryz.f283.body.getD .skip) [.sc (.int .i64 a),.sc (.int .i64 b)] c) h) Tryz.func283 (by kernel_rfl) (fun a w=>Tryz.call283 a w) (by kernel_rfl) (by kernel_rfl) rfl rfl
def zmG(k:Option Addr)(h i:Int)(b:World)(j:Value->World->Prop):Prop:=
 ∀e:Nat,b.heap.size<=e->∀a,Ext b a->FnP Tryz.prog ze4 #[(.int .i64 h),(.int .i64 i)] a fun f g=>Ext a g/\∃c,f=(.int .u64 c)/\∀d,Ext b d->j (.int .u64 c) d
theorem zma(a:Option Addr)(b c:Int)(d:World)(e:Value->World->Prop)(h:zmG a b c d e):FnP Tryz.prog zhJ #[(.agg #[(.pointer a),(.int .i64 b),(.int .i64 c)])] d e:=
 zab (Eq.mp (by kernel_rfl:_=Runs Tryz.prog e ({N:=8}:Cfg) Tryz.f279 (Tryz.f279.body.getD .skip) [.agg [.ptr a,.int .i64 b,.int .i64 c]] d) h) Tryz.func279 (by kernel_rfl) (fun a w=>Tryz.call279 a w) (by kernel_rfl) (by kernel_rfl) rfl rfl
def zsS(B C D E F:Int)(G:World)(l:Value->World->Prop):Prop:=
 ∀m,Ext G m->New m 372 [(.int .u64 B),(.int .u64 C),(.int .u64 D),(.int .u64 E),(.int .u64 F)] fun w x=>∀g,Ext x g->FnP Tryz.prog zdn #[(.pointer w)] g fun y s=>Ext g s/\∃c e u,y=(.slice c e u)/\∃(k:Int->World->Prop) (t:Int->World->Nat),k 0 s/\∀(b:Int)(a:World),k b a->(((b<(e:Int))->c≠none/\(0:Int)<=b/\(b:Int)<(e:Int)/\(pIdx c b 3)≠none/\∃d,cell a (pIdx c b 3) 0=some (.pointer d)/\∃n,cell a (pIdx c b 3) 1=some (.int .i64 n)/\∃o,cell a (pIdx c b 3) 2=some (.int .i64 o)/\∀v:Nat,a.heap.size<=v->d≠none/\∃f,cell a d 0=some (.int .u64 f)/\((f≠0)->d≠none)/\((f=0)->∀p,Ext a p->l (.int .i64 3) p)/\((f≠0)->∃h,cell a d 0=some (.int .u64 h)/\∀i,Ext a i->FnP Tryz.prog zhJ #[(.agg #[(.pointer d),(.int .i64 n),(.int .i64 o)])] i fun z A=>Ext i A/\∃j,z=(.int .u64 j)/\(((zav .andNot .u64 h j)≠0)->∀q,Ext a q->l (.int .i64 3) q)/\(((zav .andNot .u64 h j)=0)->InR .i64 (b+1)/\(k (b+1) a/\t (b+1) a<t b a)))))/\(((e:Int)<=b)->∀r,Ext a r->l (.int .i64 0) r)
theorem zsk(a b c d e:Int)(f:World)(g:Value->World->Prop)(h:zsS a b c d e f g):FnP Tryz.prog zid #[(.agg #[(.int .u64 a),(.int .u64 b),(.int .u64 c),(.int .u64 d),(.int .u64 e)])] f g:=
 zab (Eq.mp (by kernel_rfl:_=Runs Tryz.prog g ({N:=27,pub:=[1]}:Cfg) Tryz.f272 (Tryz.f272.body.getD .skip) [.agg [.int .u64 a,.int .u64 b,.int .u64 c,.int .u64 d,.int .u64 e]] f) h) Tryz.func272 (by kernel_rfl) (fun a w=>Tryz.call272 a w) (by kernel_rfl) (by kernel_rfl) rfl rfl
def zqp(d:ByteArray)(q r:Int)(s:World)(k:Value->World->Prop):Prop:=
 ∀e,Ext s e->FnP Tryz.prog zcZ #[(.string d)] e fun l c=>Ext e c/\∃a h,l=(.tuple #[(.int .i64 a),h])/\∀f,Ext c f->Run Tryz.prog (.eq .eql 175 false true h .nilIface) f fun m n=>Ext f n/\∃g,m=(.bool g)/\((((g=true)/\((d.size:Int)<=2))->∀b,Ext c b->FnP Tryz.prog zbn #[(.int .i64 a)] b fun o p=>Ext b p/\∃i,o=(.string i)/\∀j,Ext c j->k (.tuple #[(.int .i64 a),(.bool (((decide (i=d))&&(decide (q<=a)))&&(decide (a<=r))))]) j))/\(((g=false)\/(2<(d.size:Int)))->∀b,Ext c b->k (.tuple #[(.int .i64 a),(.bool false)]) b)
theorem zjA(a:ByteArray)(b c:Int)(d:World)(e:Value->World->Prop)(h:zqp a b c d e):FnP Tryz.prog zbF #[(.string a),(.int .i64 b),(.int .i64 c)] d e:=
 zab (Eq.mp (by kernel_rfl:_=Runs Tryz.prog e ({N:=39}:Cfg) Tryz.f278 (Tryz.f278.body.getD .skip) [.sc (.str a),.sc (.int .i64 b),.sc (.int .i64 c)] d) h) Tryz.func278 (by kernel_rfl) (fun a w=>Tryz.call278 a w) (by kernel_rfl) (by kernel_rfl) rfl rfl
def zlr(ae:Option Addr)(P w:Int)(ad:ByteArray)(c:World)(g:Value->World->Prop):Prop:=
 ∀W:Nat,c.heap.size<=W->∀G,Ext c G->FnP Tryz.prog zdr #[(.string ad),(.string (⟨#[47]⟩:ByteArray))] G fun X Y=>Ext G Y/\∃D E h,X=(.tuple #[(.string D),(.string E),(.bool h)])/\∀H,Ext c H->FnP Tryz.prog zdr #[(.string D),(.string (⟨#[45]⟩:ByteArray))] H fun Z aa=>Ext H aa/\∃R S q,Z=(.tuple #[(.string R),(.string S),(.bool q)])/\(((D≠(⟨#[42]⟩:ByteArray))->∀r,Ext c r->FnP Tryz.prog zbF #[(.string R),(.int .i64 P),(.int .i64 w)] r fun J K=>Ext r K/\∃e s,J=(.tuple #[(.int .i64 e),(.bool s)])/\((s=false)->∀d,Ext c d->g (.tuple #[(.int .u64 0),(.bool false)]) d)/\((s=true)->(((q=true)->∀d,Ext c d->FnP Tryz.prog zbF #[(.string S),(.int .i64 e),(.int .i64 w)] d fun L M=>Ext d M/\∃m t,L=(.tuple #[(.int .i64 m),(.bool t)])/\((((t=false)\/((h=true)/\(q=false)))->∀f,Ext c f->g (.tuple #[(.int .u64 0),(.bool false)]) f))/\(((t=true)/\((h=false)\/(q=true)))->(((h=true)->∀f,Ext c f->FnP Tryz.prog zbF #[(.string E),(.int .i64 1),(.int .i64 99)] f fun ab ac=>Ext f ac/\∃F I,ab=(.tuple #[(.int .i64 F),(.bool I)])/\((I=false)->∀p,Ext c p->g (.tuple #[(.int .u64 0),(.bool false)]) p)/\((I=true)->∃(N:Int->Int->World->Prop) (U:Int->Int->World->Nat),N 0 e c/\∀(x:Int)(n:Int)(y:World),N x n y->(((n<=m)->0<=(n:Int)/\InR .i64 (n+F)/\(N (zav .or .u64 x (zav .shl .u64 1 n)) (n+F) y/\U (zav .or .u64 x (zav .shl .u64 1 n)) (n+F) y<U x n y)))/\((m<n)->∀T,Ext y T->g (.tuple #[(.int .u64 x),(.bool true)]) T))))/\((h=false)->∃(u:Int->Int->World->Prop) (z:Int->Int->World->Nat),u 0 e c/\∀(i:Int)(a:Int)(j:World),u i a j->(((a<=m)->0<=(a:Int)/\InR .i64 (a+1)/\(u (zav .or .u64 i (zav .shl .u64 1 a)) (a+1) j/\z (zav .or .u64 i (zav .shl .u64 1 a)) (a+1) j<z i a j)))/\((m<a)->∀p,Ext j p->g (.tuple #[(.int .u64 i),(.bool true)]) p)))))/\((q=false)->((((h=true)/\(q=false))->∀d,Ext c d->g (.tuple #[(.int .u64 0),(.bool false)]) d))/\(((h=false)\/(q=true))->(((h=true)->∀d,Ext c d->FnP Tryz.prog zbF #[(.string E),(.int .i64 1),(.int .i64 99)] d fun L M=>Ext d M/\∃m t,L=(.tuple #[(.int .i64 m),(.bool t)])/\((t=false)->∀f,Ext c f->g (.tuple #[(.int .u64 0),(.bool false)]) f)/\((t=true)->∃(u:Int->Int->World->Prop) (z:Int->Int->World->Nat),u 0 e c/\∀(i:Int)(a:Int)(j:World),u i a j->(((a<=e)->0<=(a:Int)/\InR .i64 (a+m)/\(u (zav .or .u64 i (zav .shl .u64 1 a)) (a+m) j/\z (zav .or .u64 i (zav .shl .u64 1 a)) (a+m) j<z i a j)))/\((e<a)->∀p,Ext j p->g (.tuple #[(.int .u64 i),(.bool true)]) p))))/\((h=false)->∃(v:Int->Int->World->Prop) (A:Int->Int->World->Nat),v 0 e c/\∀(k:Int)(b:Int)(l:World),v k b l->(((b<=e)->0<=(b:Int)/\InR .i64 (b+1)/\(v (zav .or .u64 k (zav .shl .u64 1 b)) (b+1) l/\A (zav .or .u64 k (zav .shl .u64 1 b)) (b+1) l<A k b l)))/\((e<b)->∀f,Ext l f->g (.tuple #[(.int .u64 k),(.bool true)]) f)))))))/\((D=(⟨#[42]⟩:ByteArray))->(((h=true)->∀r,Ext c r->FnP Tryz.prog zbF #[(.string E),(.int .i64 1),(.int .i64 99)] r fun J K=>Ext r K/\∃e s,J=(.tuple #[(.int .i64 e),(.bool s)])/\((s=false)->∀d,Ext c d->g (.tuple #[(.int .u64 0),(.bool false)]) d)/\((s=true)->∃(v:Int->Int->World->Prop) (A:Int->Int->World->Nat),v 0 P c/\∀(k:Int)(b:Int)(l:World),v k b l->(((b<=w)->0<=(b:Int)/\InR .i64 (b+e)/\(v (zav .or .u64 k (zav .shl .u64 1 b)) (b+e) l/\A (zav .or .u64 k (zav .shl .u64 1 b)) (b+e) l<A k b l)))/\((w<b)->∀f,Ext l f->g (.tuple #[(.int .u64 k),(.bool true)]) f))))/\((h=false)->∃(O:Int->Int->World->Prop) (V:Int->Int->World->Nat),O 0 P c/\∀(B:Int)(o:Int)(C:World),O B o C->(((o<=w)->0<=(o:Int)/\InR .i64 (o+1)/\(O (zav .or .u64 B (zav .shl .u64 1 o)) (o+1) C/\V (zav .or .u64 B (zav .shl .u64 1 o)) (o+1) C<V B o C)))/\((w<o)->∀d,Ext C d->g (.tuple #[(.int .u64 B),(.bool true)]) d)))
theorem zfQ(a:Option Addr)(b c:Int)(d:ByteArray)(e:World)(f:Value->World->Prop)(h:zlr a b c d e f):FnP Tryz.prog zcH #[(.agg #[(.pointer a),(.int .i64 b),(.int .i64 c)]),(.string d)] e f:=
 zab (Eq.mp (by kernel_rfl:_=Runs Tryz.prog f ({N:=88,wrap:=[85]}:Cfg) Tryz.f271 (Tryz.f271.body.getD .skip) [.agg [.ptr a,.int .i64 b,.int .i64 c],.sc (.str d)] e) h) Tryz.func271 (by kernel_rfl) (fun a w=>Tryz.call271 a w) (by kernel_rfl) (by kernel_rfl) rfl rfl
def zsT(B:ByteArray)(C:World)(r:Value->World->Prop):Prop:=
 ∀d:Nat,C.heap.size<=d->((200<(B.size:Int))->∀k,Ext C k->r (.tuple #[(.agg #[(.int .u64 0),(.int .u64 0),(.int .u64 0),(.int .u64 0),(.int .u64 0)]),(.int .i64 2)]) k)/\(((B.size:Int)<=200)->∀k,zag [] [d] C k->New k 372 [(.int .u64 0),(.int .u64 0),(.int .u64 0),(.int .u64 0),(.int .u64 0)] fun g R=>∀s,zag [] [d] R s->FnP Tryz.prog zbc #[(.string B),(.string (⟨#[32]⟩:ByteArray))] s fun S y=>Ext s y/\∃t o N,S=(.slice t o N)/\(((o:Int)≠5)->∀h,zag [d] [] y h->r (.tuple #[(.agg #[(.int .u64 0),(.int .u64 0),(.int .u64 0),(.int .u64 0),(.int .u64 0)]),(.int .i64 3)]) h)/\(((o:Int)=5)->∀h,zag [] [d] y h->FnP Tryz.prog zdn #[(.pointer g)] h fun T I=>Ext h I/\∃i p O,T=(.slice i p O)/\∃(z:Int->World->Prop) (L:Int->World->Nat),z 0 I/\∀(a:Int)(b:World),z a b->(((a<(p:Int))->i≠none/\(0:Int)<=a/\(a:Int)<(p:Int)/\(pIdx i a 3)≠none/\∃e,cell b (pIdx i a 3) 0=some (.pointer e)/\∃l,cell b (pIdx i a 3) 1=some (.int .i64 l)/\∃m,cell b (pIdx i a 3) 2=some (.int .i64 m)/\∀u:Nat,b.heap.size<=u->t≠none/\(0:Int)<=a/\(a:Int)<(o:Int)/\∃n,cell b (pIdx t a 1) 0=some (.string n)/\∀j,zag [] [d,u] b j->FnP Tryz.prog zbc #[(.string n),(.string (⟨#[44]⟩:ByteArray))] j fun U J=>Ext j J/\∃v q P,U=(.slice v q P)/\∃(A:Int->World->Prop) (M:Int->World->Nat),A 0 J/\∀(c:Int)(f:World),A c f->(((c<(q:Int))->v≠none/\(0:Int)<=c/\(c:Int)<(q:Int)/\∃D,cell f (pIdx v c 1) 0=some (.string D)/\∀w,Ext f w->FnP Tryz.prog zcH #[(.agg #[(.pointer e),(.int .i64 l),(.int .i64 m)]),(.string D)] w fun V W=>Ext w W/\∃E x,V=(.tuple #[(.int .u64 E),(.bool x)])/\((x=false)->∀F,zag [d] [] f F->r (.tuple #[(.agg #[(.int .u64 0),(.int .u64 0),(.int .u64 0),(.int .u64 0),(.int .u64 0)]),(.int .i64 3)]) F)/\((x=true)->e≠none/\∃G,cell f e 0=some (.int .u64 G)/\e≠none/\zan f e [(.int .u64 (zav .or .u64 G E))] [d,u] fun K=>InR .i64 (c+1)/\(A (c+1) K/\M (c+1) K<M c f))))/\(((q:Int)<=c)->InR .i64 (a+1)/\(z (a+1) f/\L (a+1) f<L a b))))/\(((p:Int)<=a)->g≠none/\∃e,cell b g 0=some (.int .u64 e)/\∃l,cell b g 1=some (.int .u64 l)/\∃m,cell b g 2=some (.int .u64 m)/\∃H,cell b g 3=some (.int .u64 H)/\∃n,cell b g 4=some (.int .u64 n)/\∀j,zag [d] [] b j->r (.tuple #[(.agg #[(.int .u64 e),(.int .u64 l),(.int .u64 m),(.int .u64 H),(.int .u64 n)]),(.int .i64 0)]) j)))
theorem zk5(a:ByteArray)(b:World)(c:Value->World->Prop)(h:zsT a b c):FnP Tryz.prog zfC #[(.string a)] b c:=
 zab (Eq.mp (by kernel_rfl:_=Runs Tryz.prog c ({N:=58,pub:=[4]}:Cfg) Tryz.f254 (Tryz.f254.body.getD .skip) [.sc (.str a)] b) h) Tryz.func254 (by kernel_rfl) (fun a w=>Tryz.call254 a w) (by kernel_rfl) (by kernel_rfl) rfl rfl
def zva(o p q r s c:Int)(l:World)(m:Value->World->Prop):Prop:=
 ∀x:Nat,l.heap.size<=x->∀t,Ext l t->FnP Tryz.prog zid #[(.agg #[(.int .u64 o),(.int .u64 p),(.int .u64 q),(.int .u64 r),(.int .u64 s)])] t fun y z=>Ext t z/\∃n,y=(.int .i64 n)/\((n≠0)->∀i,Ext l i->m (.tuple #[(.int .i64 0),(.int .i64 n)]) i)/\((n=0)->(((c<(-1))\/(5258964959<c))->∀i,Ext l i->m (.tuple #[(.int .i64 0),(.int .i64 4)]) i)/\((((-1)<=c)/\(c<=5258964959))->InR .i64 (c+1)/\InR .i64 ((c+1).tdiv 1440)/\∃(k:Int->World->Prop) (h:Int->World->Nat),k ((c+1).tdiv 1440) l/\∀(a:Int)(b:World),k a b->InR .i64 (((c+1).tdiv 1440)+146097)/\(((a<=(min 3652058 (((c+1).tdiv 1440)+146097)))->∀g,Ext b g->FnP Tryz.prog zlF #[(.agg #[(.int .u64 o),(.int .u64 p),(.int .u64 q),(.int .u64 r),(.int .u64 s)]),(.int .i64 a)] g fun A B=>Ext g B/\∃u,A=(.bool u)/\(((u=false)->InR .i64 (a+1)/\(k (a+1) b/\h (a+1) b<h a b)))/\((u=true)->(((a=((c+1).tdiv 1440))->∀d,Ext b d->FnP Tryz.prog zdo #[(.agg #[(.int .u64 o),(.int .u64 p),(.int .u64 q),(.int .u64 r),(.int .u64 s)]),(.int .i64 ((c+1).tmod 1440))] d fun v w=>Ext d w/\∃e f,v=(.tuple #[(.int .i64 e),(.bool f)])/\(((f=true)->InR .i64 (1440*a)/\InR .i64 ((1440*a)+e)/\∀j,Ext b j->m (.tuple #[(.int .i64 ((1440*a)+e)),(.int .i64 0)]) j))/\((f=false)->InR .i64 (a+1)/\(k (a+1) b/\h (a+1) b<h a b))))/\((a≠((c+1).tdiv 1440))->∀d,Ext b d->FnP Tryz.prog zdo #[(.agg #[(.int .u64 o),(.int .u64 p),(.int .u64 q),(.int .u64 r),(.int .u64 s)]),(.int .i64 0)] d fun v w=>Ext d w/\∃e f,v=(.tuple #[(.int .i64 e),(.bool f)])/\(((f=true)->InR .i64 (1440*a)/\InR .i64 ((1440*a)+e)/\∀j,Ext b j->m (.tuple #[(.int .i64 ((1440*a)+e)),(.int .i64 0)]) j))/\((f=false)->InR .i64 (a+1)/\(k (a+1) b/\h (a+1) b<h a b))))))/\(((min 3652058 (((c+1).tdiv 1440)+146097))<a)->∀g,Ext b g->m (.tuple #[(.int .i64 0),(.int .i64 5)]) g)))
theorem zun(a b c d e f:Int)(g:World)(i:Value->World->Prop)(h:zva a b c d e f g i):FnP Tryz.prog zjH #[(.agg #[(.int .u64 a),(.int .u64 b),(.int .u64 c),(.int .u64 d),(.int .u64 e)]),(.int .i64 f)] g i:=
 zab (Eq.mp (by kernel_rfl:_=Runs Tryz.prog i ({N:=55}:Cfg) Tryz.f255 (Tryz.f255.body.getD .skip) [.agg [.int .u64 a,.int .u64 b,.int .u64 c,.int .u64 d,.int .u64 e],.sc (.int .i64 f)] g) h) Tryz.func255 (by kernel_rfl) (fun a w=>Tryz.call255 a w) (by kernel_rfl) (by kernel_rfl) rfl rfl
def zxe(O P i N j y:Int)(a:World)(h:Value->World->Prop):Prop:=
 ∀z:Nat,a.heap.size<=z->∀k,Ext a k->FnP Tryz.prog zia #[(.int .i64 y)] k fun D E=>Ext k E/\∃A v l B,D=(.tuple #[(.int .i64 A),(.int .i64 v),(.int .i64 l),(.int .i64 B)])/\∀m,Ext a m->FnP Tryz.prog ze3 #[(.int .i64 y)] m fun F G=>Ext m G/\∃n C,F=(.tuple #[(.int .i64 n),(.int .i64 C)])/\∀o,Ext a o->FnP Tryz.prog zdh #[(.int .u64 N),(.int .i64 v)] o fun H I=>Ext o I/\∃p,H=(.bool p)/\((p=false)->∀e,Ext a e->h (.bool false) e)/\((p=true)->∀e,Ext a e->FnP Tryz.prog ze4 #[(.int .i64 1),(.int .i64 31)] e fun J K=>Ext e K/\∃q,J=(.int .u64 q)/\(((i=q)->∀d,Ext a d->FnP Tryz.prog zdh #[(.int .u64 j),(.int .i64 n)] d fun r s=>Ext d s/\∃f,r=(.bool f)/\∀b,Ext a b->h (.bool f) b))/\((i≠q)->∀d,Ext a d->FnP Tryz.prog ze4 #[(.int .i64 0),(.int .i64 6)] d fun r s=>Ext d s/\∃f,r=(.int .u64 f)/\(((j=f)->∀b,Ext a b->FnP Tryz.prog zdh #[(.int .u64 i),(.int .i64 l)] b fun t u=>Ext b u/\∃g,t=(.bool g)/\∀c,Ext a c->h (.bool g) c))/\((j≠f)->∀b,Ext a b->FnP Tryz.prog zdh #[(.int .u64 i),(.int .i64 l)] b fun t u=>Ext b u/\∃g,t=(.bool g)/\((g=true)->∀c,Ext a c->h (.bool true) c)/\((g=false)->∀c,Ext a c->FnP Tryz.prog zdh #[(.int .u64 j),(.int .i64 n)] c fun L M=>Ext c M/\∃w,L=(.bool w)/\∀x,Ext a x->h (.bool w) x))))
theorem zwE(a b c d e f:Int)(g:World)(i:Value->World->Prop)(h:zxe a b c d e f g i):FnP Tryz.prog zlF #[(.agg #[(.int .u64 a),(.int .u64 b),(.int .u64 c),(.int .u64 d),(.int .u64 e)]),(.int .i64 f)] g i:=
 zab (Eq.mp (by kernel_rfl:_=Runs Tryz.prog i ({N:=57}:Cfg) Tryz.f273 (Tryz.f273.body.getD .skip) [.agg [.int .u64 a,.int .u64 b,.int .u64 c,.int .u64 d,.int .u64 e],.sc (.int .i64 f)] g) h) Tryz.func273 (by kernel_rfl) (fun a w=>Tryz.call273 a w) (by kernel_rfl) (by kernel_rfl) rfl rfl
def zqq(h s t u v c:Int)(o:World)(n:Value->World->Prop):Prop:=
 ∀p:Nat,o.heap.size<=p->InR .i64 (c.tdiv 60)/\∃(j:Int->World->Prop) (g:Int->World->Nat),j (c.tdiv 60) o/\∀(a:Int)(b:World),j a b->(((a<24)->∀f,Ext b f->FnP Tryz.prog zdh #[(.int .u64 s),(.int .i64 a)] f fun q r=>Ext f r/\∃k,q=(.bool k)/\(((k=false)->InR .i64 (a+1)/\(j (a+1) b/\g (a+1) b<g a b)))/\((k=true)->InR .i64 (c.tdiv 60)/\(((a=(c.tdiv 60))->0<=((c.tmod 60):Int)/\((((zav .shr .u64 h (c.tmod 60))≠0)->InR .i64 (60*a)/\InR .i64 ((60*a)+(c.tmod 60))/\∀d,Ext b d->FnP Tryz.prog zaI #[(.int .u64 (zav .shr .u64 h (c.tmod 60)))] d fun l m=>Ext d m/\∃e,l=(.int .i64 e)/\InR .i64 (((60*a)+(c.tmod 60))+e)/\∀i,Ext b i->n (.tuple #[(.int .i64 (((60*a)+(c.tmod 60))+e)),(.bool true)]) i))/\(((zav .shr .u64 h (c.tmod 60))=0)->InR .i64 (a+1)/\(j (a+1) b/\g (a+1) b<g a b))))/\((a≠(c.tdiv 60))->((((zav .shr .u64 h 0)≠0)->InR .i64 (60*a)/\InR .i64 ((60*a)+0)/\∀d,Ext b d->FnP Tryz.prog zaI #[(.int .u64 (zav .shr .u64 h 0))] d fun l m=>Ext d m/\∃e,l=(.int .i64 e)/\InR .i64 (((60*a)+0)+e)/\∀i,Ext b i->n (.tuple #[(.int .i64 (((60*a)+0)+e)),(.bool true)]) i))/\(((zav .shr .u64 h 0)=0)->InR .i64 (a+1)/\(j (a+1) b/\g (a+1) b<g a b))))))/\((24<=a)->∀f,Ext b f->n (.tuple #[(.int .i64 0),(.bool false)]) f)
theorem zp3(a b c d e f:Int)(g:World)(i:Value->World->Prop)(h:zqq a b c d e f g i):FnP Tryz.prog zdo #[(.agg #[(.int .u64 a),(.int .u64 b),(.int .u64 c),(.int .u64 d),(.int .u64 e)]),(.int .i64 f)] g i:=
 zab (Eq.mp (by kernel_rfl:_=Runs Tryz.prog i ({N:=39}:Cfg) Tryz.f274 (Tryz.f274.body.getD .skip) [.agg [.int .u64 a,.int .u64 b,.int .u64 c,.int .u64 d,.int .u64 e],.sc (.int .i64 f)] g) h) Tryz.func274 (by kernel_rfl) (fun a w=>Tryz.call274 a w) (by kernel_rfl) (by kernel_rfl) rfl rfl
def zxf(c b:Int)(d:World)(e:Value->World->Prop):Prop:=
 0<=(b:Int)/\∀a,Ext d a->e (.bool (decide ((zav .and .u64 (zav .shr .u64 c b) 1)=1))) a
theorem zwF(a b:Int)(c:World)(d:Value->World->Prop)(h:zxf a b c d):FnP Tryz.prog zdh #[(.int .u64 a),(.int .i64 b)] c d:=
 zab (Eq.mp (by kernel_rfl:_=Runs Tryz.prog d ({N:=10}:Cfg) Tryz.f282 (Tryz.f282.body.getD .skip) [.sc (.int .u64 a),.sc (.int .i64 b)] c) h) Tryz.func282 (by kernel_rfl) (fun a w=>Tryz.call282 a w) (by kernel_rfl) (by kernel_rfl) rfl rfl
def zsP(b:Int)(t:World)(u:Value->World->Prop):Prop:=
 (((b<0)\/(3652058<b))->∀q,Ext t q->u (.tuple #[(.int .i64 0),(.int .i64 0),(.int .i64 0),(.int .i64 4)]) q)/\(((0<=b)/\(b<=3652058))->InR .i64 (b.tdiv 366)/\InR .i64 ((b.tdiv 366)+1)/\∃(o:Int->World->Prop) (r:Int->World->Nat),o ((b.tdiv 366)+1) t/\∀(a:Int)(e:World),o a e->InR .i64 (a+1)/\∀i,Ext e i->FnP Tryz.prog zd7 #[(.int .i64 (a+1))] i fun v w=>Ext i w/\∃j,v=(.int .i64 j)/\(((j<=b)->InR .i64 (a+1)/\(o (a+1) e/\r (a+1) e<r a e)))/\((b<j)->∀k,Ext e k->FnP Tryz.prog zd7 #[(.int .i64 a)] k fun x y=>Ext k y/\∃l,x=(.int .i64 l)/\InR .i64 (b-l)/\∃(p:Int->Int->World->Prop) (s:Int->Int->World->Nat),p (b-l) 1 e/\∀(c:Int)(d:Int)(f:World),p c d f->∀m,Ext f m->FnP Tryz.prog zd8 #[(.int .i64 a),(.int .i64 d)] m fun z A=>Ext m A/\∃n,z=(.int .i64 n)/\(((n<=c)->∀g,Ext f g->FnP Tryz.prog zd8 #[(.int .i64 a),(.int .i64 d)] g fun B C=>Ext g C/\∃h,B=(.int .i64 h)/\InR .i64 (c-h)/\InR .i64 (d+1)/\(p (c-h) (d+1) f/\s (c-h) (d+1) f<s c d f)))/\((c<n)->InR .i64 (c+1)/\∀g,Ext f g->u (.tuple #[(.int .i64 a),(.int .i64 d),(.int .i64 (c+1)),(.int .i64 0)]) g)))
theorem zsh(a:Int)(b:World)(c:Value->World->Prop)(h:zsP a b c):FnP Tryz.prog zia #[(.int .i64 a)] b c:=
 zab (Eq.mp (by kernel_rfl:_=Runs Tryz.prog c ({N:=42}:Cfg) Tryz.f280 (Tryz.f280.body.getD .skip) [.sc (.int .i64 a)] b) h) Tryz.func280 (by kernel_rfl) (fun a w=>Tryz.call280 a w) (by kernel_rfl) (by kernel_rfl) rfl rfl
def znt(a:Int)(c:World)(d:Value->World->Prop):Prop:=
 (((a<0)\/(3652058<a))->∀b,Ext c b->d (.tuple #[(.int .i64 0),(.int .i64 4)]) b)/\(((0<=a)/\(a<=3652058))->InR .i64 (a+1)/\∀b,Ext c b->d (.tuple #[(.int .i64 ((a+1).tmod 7)),(.int .i64 0)]) b)
theorem znj(a:Int)(b:World)(c:Value->World->Prop)(h:znt a b c):FnP Tryz.prog ze3 #[(.int .i64 a)] b c:=
 zab (Eq.mp (by kernel_rfl:_=Runs Tryz.prog c ({N:=13}:Cfg) Tryz.f281 (Tryz.f281.body.getD .skip) [.sc (.int .i64 a)] b) h) Tryz.func281 (by kernel_rfl) (fun a w=>Tryz.call281 a w) (by kernel_rfl) (by kernel_rfl) rfl rfl
def zeX(a:Int)(c:World)(f:Value->World->Prop):Prop:=
 ((a=0)->∀d,Ext c d->f (.int .i64 64) d)/\((a≠0)->(some (⟨9,0,none⟩:Addr))≠none/\(0:Int)<=(zav .shr .u64 (IntKind.wrap .u64 ((zav .and .u64 a (IntKind.wrap .u64 (0-a)))*285870213051353865)) 58)/\((zav .shr .u64 (IntKind.wrap .u64 ((zav .and .u64 a (IntKind.wrap .u64 (0-a)))*285870213051353865)) 58):Int)<64/\∃b,cell c (pIdx (some (⟨9,0,none⟩:Addr)) (zav .shr .u64 (IntKind.wrap .u64 ((zav .and .u64 a (IntKind.wrap .u64 (0-a)))*285870213051353865)) 58) 1) 0=some (.int .u8 b)/\InR .i64 b/\∀e,Ext c e->f (.int .i64 b) e)
theorem zeU(a:Int)(b:World)(c:Value->World->Prop)(h:zeX a b c):FnP Tryz.prog zaI #[(.int .u64 a)] b c:=
 zab (Eq.mp (by kernel_rfl:_=Runs Tryz.prog c ({N:=14,wrap:=[7,9]}:Cfg) Tryz.f262 (Tryz.f262.body.getD .skip) [.sc (.int .u64 a)] b) h) Tryz.func262 (by kernel_rfl) (fun a w=>Tryz.call262 a w) (by kernel_rfl) (by kernel_rfl) rfl rfl
def ziN(a:Int)(c:World)(d:Value->World->Prop):Prop:=
 InR .i64 (a-1)/\InR .i64 (365*(a-1))/\InR .i64 ((a-1).tdiv 4)/\InR .i64 ((365*(a-1))+((a-1).tdiv 4))/\InR .i64 ((a-1).tdiv 100)/\InR .i64 (((365*(a-1))+((a-1).tdiv 4))-((a-1).tdiv 100))/\InR .i64 ((a-1).tdiv 400)/\InR .i64 ((((365*(a-1))+((a-1).tdiv 4))-((a-1).tdiv 100))+((a-1).tdiv 400))/\∀b,Ext c b->d (.int .i64 ((((365*(a-1))+((a-1).tdiv 4))-((a-1).tdiv 100))+((a-1).tdiv 400))) b
theorem zoZ(a:Int)(b:World)(c:Value->World->Prop)(h:ziN a b c):FnP Tryz.prog zd7 #[(.int .i64 a)] b c:=
 zab (Eq.mp (by kernel_rfl:_=Runs Tryz.prog c ({N:=16}:Cfg) Tryz.f285 (Tryz.f285.body.getD .skip) [.sc (.int .i64 a)] b) h) Tryz.func285 (by kernel_rfl) (fun a w=>Tryz.call285 a w) (by kernel_rfl) (by kernel_rfl) rfl rfl
def zpv(o a:Int)(b:World)(e:Value->World->Prop):Prop:=
 (((a=2)->∀c,Ext b c->FnP Tryz.prog zib #[(.int .i64 o)] c fun m n=>Ext c n/\∃f,m=(.bool f)/\((f=true)->∀d,Ext b d->e (.int .i64 29) d)/\((f=false)->((a=12)->∀d,Ext b d->e (.int .i64 31) d)/\((a≠12)->InR .i64 (a+1)/\(some (⟨10,0,none⟩:Addr))≠none/\(0:Int)<=(a+1)/\((a+1):Int)<13/\∃g,cell b (pIdx (some (⟨10,0,none⟩:Addr)) (a+1) 1) 0=some (.int .i64 g)/\(some (⟨10,0,none⟩:Addr))≠none/\(0:Int)<=a/\(a:Int)<13/\∃h,cell b (pIdx (some (⟨10,0,none⟩:Addr)) a 1) 0=some (.int .i64 h)/\InR .i64 (g-h)/\∀k,Ext b k->e (.int .i64 (g-h)) k))))/\((a≠2)->((a=12)->∀c,Ext b c->e (.int .i64 31) c)/\((a≠12)->InR .i64 (a+1)/\(some (⟨10,0,none⟩:Addr))≠none/\(0:Int)<=(a+1)/\((a+1):Int)<13/\∃i,cell b (pIdx (some (⟨10,0,none⟩:Addr)) (a+1) 1) 0=some (.int .i64 i)/\(some (⟨10,0,none⟩:Addr))≠none/\(0:Int)<=a/\(a:Int)<13/\∃j,cell b (pIdx (some (⟨10,0,none⟩:Addr)) a 1) 0=some (.int .i64 j)/\InR .i64 (i-j)/\∀l,Ext b l->e (.int .i64 (i-j)) l))
theorem zo0(a b:Int)(c:World)(d:Value->World->Prop)(h:zpv a b c d):FnP Tryz.prog zd8 #[(.int .i64 a),(.int .i64 b)] c d:=
 zab (Eq.mp (by kernel_rfl:_=Runs Tryz.prog d ({N:=23}:Cfg) Tryz.f286 (Tryz.f286.body.getD .skip) [.sc (.int .i64 a),.sc (.int .i64 b)] c) h) Tryz.func286 (by kernel_rfl) (fun a w=>Tryz.call286 a w) (by kernel_rfl) (by kernel_rfl) rfl rfl
def zsQ(a:Int)(c:World)(d:Value->World->Prop):Prop:=
 ∀b,Ext c b->d (.bool (((decide ((a.tmod 4)=0))&&(decide ((a.tmod 100)≠0)))||(decide ((a.tmod 400)=0)))) b
theorem zsi(a:Int)(b:World)(c:Value->World->Prop)(h:zsQ a b c):FnP Tryz.prog zib #[(.int .i64 a)] b c:=
 zab (Eq.mp (by kernel_rfl:_=Runs Tryz.prog c ({N:=16}:Cfg) Tryz.f287 (Tryz.f287.body.getD .skip) [.sc (.int .i64 a)] b) h) Tryz.func287 (by kernel_rfl) (fun a w=>Tryz.call287 a w) (by kernel_rfl) (by kernel_rfl) rfl rfl
def lng(y:Int):Prop:=(y%4=0/\y%100≠0)\/y%400=0
instance (y:Int):Decidable (lng y):=by unfold lng;infer_instance
def bef(y:Int):Int:=365*(y-1)+(y-1)/4-(y-1)/100+(y-1)/400
def ah(m:Int):Int:=if m<=1 then 0 else if m=2 then 31 else if m=3 then 59 else if m=4 then 90 else if m=5 then 120 else if m=6 then 151 else if m=7 then 181 else if m=8 then 212 else if m=9 then 243 else if m=10 then 273 else if m=11 then 304 else 334
def ln(y m:Int):Int:=if m=2/\lng y then 29 else if m=12 then 31 else ah (m+1)-ah m
def ms(y m:Int):Int:=ah m+if 2<m/\lng y then 1 else 0
def dy(y m d:Int):Int:=bef y+ms y m+d-1
def vd(y m d:Int):Prop:=1<=y/\y<=9999/\1<=m/\m<=12/\1<=d/\d<=ln y m
theorem zxK{y:Int}(h:1<=y):bef (y+1)=bef y+365+if lng y then 1 else 0:=by
 by_cases hl:lng y<;>simp only[hl,if_true,if_false]<;>unfold lng at hl<;>unfold bef<;>omega
theorem zfG{a b:Int}(h:a<=b):bef a<=bef b:=by unfold bef;omega
theorem zzV{m:Int}(h1:1<=m)(h2:m<=12):m=1\/m=2\/m=3\/m=4\/m=5\/m=6\/m=7\/m=8\/m=9\/m=10\/m=11\/m=12:=by omega
theorem zt3{y m:Int}(h1:1<=m)(h2:m<=12):28<=ln y m/\ln y m<=31:=by
 by_cases hl:lng y<;>rcases zzV h1 h2 with h|h|h|h|h|h|h|h|h|h|h|h<;>subst h<;>simp[ln,ah,hl]
theorem zJc{y m:Int}(h1:1<=m)(h2:m<12):ms y (m+1)=ms y m+ln y m:=by
 by_cases hl:lng y<;>rcases zzV h1 (by omega) with h|h|h|h|h|h|h|h|h|h|h|h<;>subst h<;>simp[ms,ln,ah,hl] at h2 ⊢
theorem ms_one{y:Int}:ms y 1=0:=by simp[ms,ah]
theorem zJb{y:Int}:ms y 12+ln y 12=365+if lng y then 1 else 0:=by
 by_cases hl:lng y<;>simp[ms,ln,ah,hl]
theorem zt9{y m:Int}(h1:1<=m)(h2:m<=12):0<=ms y m/\ms y m+ln y m<=365+if lng y then 1 else 0:=by
 by_cases hl:lng y<;>rcases zzV h1 h2 with h|h|h|h|h|h|h|h|h|h|h|h<;>subst h<;>simp[ms,ln,ah,hl]
theorem ms_le{y a b:Int}(h1:1<=a)(h:a<b)(h2:b<=12):ms y a+ln y a<=ms y b:=by
 by_cases hl:lng y<;>rcases zzV h1 (by omega) with e|e|e|e|e|e|e|e|e|e|e|e<;>rcases zzV (show 1<=b by omega) h2 with h'|h'|h'|h'|h'|h'|h'|h'|h'|h'|h'|h'<;>subst e<;>subst h'<;>first|omega|simp[ms,ln,ah,hl]
theorem zin{y m d:Int}(h:vd y m d):bef y<=dy y m d/\dy y m d<bef (y+1):=by
 obtain⟨h1,h2,h3,h4,h5,h6⟩:=h
 have:=zt9 (y:=y) h3 h4
 have:=zxK h1
 unfold dy;omega
theorem dy_inj{y m d y' m' d':Int}(h:vd y m d)(h':vd y' m' d')(e:dy y m d=dy y' m' d'):y=y'/\m=m'/\d=d':=by
 have b1:=zin h
 have b2:=zin h'
 have hy:y=y':=by
  rcases Int.lt_trichotomy y y' with hl|hl|hl
  ·have:=zfG (show y+1<=y' by omega);omega
  ·exact hl
  ·have:=zfG (show y'+1<=y by omega);omega
 subst hy
 obtain⟨h1,h2,h3,h4,h5,h6⟩:=h
 obtain⟨_,_,g3,g4,g5,g6⟩:=h'
 unfold dy at e
 have hm:m=m':=by
  rcases Int.lt_trichotomy m m' with hl|hl|hl
  ·have:=ms_le (y:=y) h3 hl g4;omega
  ·exact hl
  ·have:=ms_le (y:=y) g3 hl h4;omega
 subst hm
 exact⟨rfl,rfl,by omega⟩
def Gl(w:World):Prop:=∀i:Nat,i<13->cell w (some (⟨10,0,none⟩:Addr)) i=some (.int .i64 (ah i))
theorem Gl.ext{w w':World}(h:Gl w)(he:Ext w w'):Gl w':=fun i hi=>zaH he (h i hi)
theorem Gl.at{w:World}(h:Gl w){m:Int}(h0:0<=m)(h1:m<13):cell w (pIdx (some (⟨10,0,none⟩:Addr)) m 1) 0=some (.int .i64 (ah m)):=by
 rw[zad]
 have:=h m.toNat (by omega)
 rw[show((m.toNat:Nat):Int)=m by omega] at this
 simpa using this
theorem long_k(y:Int)(hy:0<=y)(w:World):FnP Tryz.prog zib #[.int .i64 y] w fun v w'=>Ext w w'/\v=.bool (decide (lng y)):=by
 refine zsi _ w _ ?_
 intro w0 h0
 refine⟨h0,?_⟩
 rw[tm hy,tm hy,tm hy]
 congr 1
 rw[Bool.eq_iff_iff,decide_eq_true_iff (p:=lng y)]
 simp only[Bool.or_eq_true,Bool.and_eq_true,decide_eq_true_eq]
 exact Iff.rfl
theorem zxL(y:Int)(hy:1<=y)(hy2:y<=100000)(w:World):FnP Tryz.prog zd7 #[.int .i64 y] w fun v w'=>Ext w w'/\v=.int .i64 (bef y):=by
 refine zoZ _ w _ ?_
 unfold ziN
 rw[td (by omega),td (by omega),td (by omega)]
 exact⟨i64 (by omega),i64 (by omega),i64 (by omega),i64 (by omega),i64 (by omega),i64 (by omega),i64 (by omega),i64 (by omega),fun w0 h0=>⟨h0,rfl⟩⟩
theorem zyr(y m:Int)(hy:0<=y)(h1:1<=m)(h2:m<=12)(w:World)(hg:Gl w):FnP Tryz.prog zd8 #[.int .i64 y,.int .i64 m] w fun v w'=>Ext w w'/\v=.int .i64 (ln y m):=by
 refine zo0 _ _ w _ ?_
 have hah:-400<=ah (m+1)-ah m/\ah (m+1)-ah m<=400:=by
  rcases zzV h1 h2 with h|h|h|h|h|h|h|h|h|h|h|h<;>subst h<;>simp[ah]
 have main:m≠12->¬(m=2/\lng y)->∃t3:Int,cell w (pIdx (some (⟨10,0,none⟩:Addr)) (m+1) 1) 0=some (.int .i64 t3)/\(some (⟨10,0,none⟩:Addr))≠none/\0<=m/\m<13/\∃t4:Int,cell w (pIdx (some (⟨10,0,none⟩:Addr)) m 1) 0=some (.int .i64 t4)/\InR .i64 (t3-t4)/\∀w5,Ext w w5->Ext w w5/\Value.int .i64 (t3-t4)=.int .i64 (ln y m):=by
  intro h12 h
  refine⟨_,hg.at (by omega) (by omega),by simp,by omega,by omega,_,hg.at (by omega) (by omega),i64 (by omega),fun w5 h5=>⟨h5,?_⟩⟩
  simp[ln,h,h12]
 refine⟨fun hm=>?_,fun hm=>⟨fun h12 w0 h0=>⟨h0,?_⟩,fun h12=>⟨i64 (by omega),by simp,by omega,by omega,main h12 (by omega)⟩⟩⟩
 ·intro w0 h0
  refine(long_k y hy w0).mono fun v w1 ⟨e1,hv⟩=>⟨e1,_,hv,fun ht w3 h3=>⟨h3,?_⟩,fun ht=>⟨fun h12=>by omega,fun h12=>⟨i64 (by omega),by simp,by omega,by omega,main h12 ?_⟩⟩⟩
  ·have:lng y:=by simpa using ht
   simp[ln,hm,this]
  ·have:¬lng y:=by simpa using ht
   exact fun h=>this h.2
 ·simp[ln,h12]
theorem Date_k(n:Int)(hn:InR .i64 n)(w:World)(hg:Gl w):FnP Tryz.prog zia #[.int .i64 n] w fun v w'=>Ext w w'/\∃y m d e,v=.tuple #[.int .i64 y,.int .i64 m,.int .i64 d,.int .i64 e] /\
  ((0<=n/\n<=3652058)->e=0/\vd y m d/\dy y m d=n)/\(¬(0<=n/\n<=3652058)->e=4/\y=0/\m=0/\d=0):=by
 refine zsh _ w _ ?_
 refine⟨fun h w0 h0=>⟨h0,_,_,_,_,rfl,fun h'=>by omega,fun _=>⟨rfl,rfl,rfl,rfl⟩⟩,fun h=>?_⟩
 have e2:bef 10000=3652059:=by decide
 rw[td (by omega)]
 refine⟨i64 (by omega),i64 (by omega),fun y w'=>Ext w w'/\1<=y/\bef y<=n,fun y _=>(10000-y).toNat,⟨Ext.refl w,by omega,by unfold bef;omega⟩,?_⟩
 intro y w2 ⟨hw,hy1,hy2⟩
 have hy9:y<=9999:=by
  by_cases hc:y<=9999
  ·exact hc
  ·have:=zfG (show(10000:Int)<=y by omega);omega
 refine⟨i64 (by omega),fun w3 h3=>?_⟩
 refine(zxL (y+1) (by omega) (by omega) w3).mono fun v w4 ⟨e4,hv⟩=>⟨e4,_,hv,fun hle=>⟨i64 (by omega),⟨hw,by omega,hle⟩,by simp only[];omega⟩,fun hlt w6 h6=>?_⟩
 refine(zxL y (by omega) (by omega) w6).mono fun v w7 ⟨e7,hv⟩=>⟨e7,_,hv,?_⟩
 have hsucc:=zxK hy1
 have hb0:=zfG hy1
 have e1:bef 1=0:=by decide
 refine⟨i64 (by omega),fun r m w'=>Ext w w'/\1<=m/\m<=12/\0<=r/\bef y+ms y m+r=n,fun r m _=>(13-m).toNat,⟨hw,by omega,by omega,by omega,by rw[ms_one];omega⟩,?_⟩
 intro r m w12 ⟨hw12,hm1,hm2,hr0,hr⟩ w13 h13
 have hg12:=hg.ext hw12
 have hlb:=zt3 (y:=y) hm1 hm2
 have hmb:=zt9 (y:=y) hm1 hm2
 have hif:(if lng y then (1:Int) else 0)<=1/\0<=(if lng y then (1:Int) else 0):=by split<;>omega
 refine(zyr y m (by omega) hm1 hm2 w13 (hg12.ext h13)).mono fun v w14 ⟨e14,hv⟩=>⟨e14,_,hv,fun hge w16 h16=>?_,fun hlt'=>⟨i64 (by omega),fun w16 h16=>⟨hw12.trans h16,_,_,_,_,rfl,fun _=>⟨rfl,⟨hy1,hy9,hm1,hm2,by omega,by omega⟩,by unfold dy;omega⟩,fun h'=>absurd h h'⟩⟩⟩
 refine(zyr y m (by omega) hm1 hm2 w16 (hg12.ext h16)).mono fun v w17 ⟨e17,hv⟩=>⟨e17,_,hv,i64 (by omega),i64 (by omega),?_⟩
 have hm12:m<12:=by
  by_cases hc:m<12
  ·exact hc
  ·obtain rfl:m=12:=by omega
   have:=zJb (y:=y)
   omega
 have:=zJc (y:=y) hm1 hm12
 exact⟨⟨hw12,by omega,by omega,by omega,by omega⟩,by simp only[];omega⟩
theorem zA1(n:Int)(hn:InR .i64 n)(w:World):FnP Tryz.prog ze3 #[.int .i64 n] w fun v w'=>Ext w w'/\∃a e,v=.tuple #[.int .i64 a,.int .i64 e] /\
  ((0<=n/\n<=3652058)->e=0/\a=(n+1)%7)/\(¬(0<=n/\n<=3652058)->e=4/\a=0):=by
 refine znj _ w _ ?_
 refine⟨fun h w0 h0=>⟨h0,_,_,rfl,fun h'=>by omega,fun _=>⟨rfl,rfl⟩⟩,fun h=>⟨i64 (by omega),fun w0 h0=>⟨h0,_,_,rfl,fun _=>⟨rfl,tm (by omega)⟩,fun h'=>by omega⟩⟩⟩
def GT(w:World):Prop:=∀i:Nat,i<64->cell w (some (⟨9,0,none⟩:Addr)) i=some (.int .u8 ((Lib.deBruijn64tab.getD i 0:Nat):Int))
theorem GT.ext{w w':World}(hg:GT w)(h:Ext w w'):GT w':=fun i hi=>zaH h (hg i hi)
theorem tzbits{x:Nat}(h0:x≠0)(hx:x<18446744073709551616) :
  Lib.ctz 64 x<64/\(∀i,i<Lib.ctz 64 x->x.testBit i=false)/\x.testBit (Lib.ctz 64 x)=true/\∀i,(x &&& (x-1)).testBit i=(x.testBit i&&decide (i≠Lib.ctz 64 x)):=by
 obtain⟨m,hm,ht⟩:=Lib.ctzFrom_spec 64 x (by omega) (by omega)
 have hc:Lib.ctz 64 x=Lib.ctzFrom 64 x:=by unfold Lib.ctz;rw[if_neg h0]
 rw[hc]
 generalize Lib.ctzFrom 64 x=t at hm ht
 have hp:0<2^t:=Nat.pow_pos (by omega)
 have b1:∀j,x.testBit j=if j<t then false else (2*m+1).testBit (j-t):=fun j=>by
  have:=Nat.testBit_two_pow_mul_add (2*m+1) (b:=0) (i:=t) hp j
  rw[Nat.add_zero,<-hm] at this
  rw[this];simp
 have b2:∀j,(x-1).testBit j=if j<t then true else (2*m).testBit (j-t):=fun j=>by
  have:=Nat.testBit_two_pow_mul_add (2*m) (b:=2^t-1) (i:=t) (by omega) j
  have he:2^t*(2*m)+(2^t-1)=x-1:=by
   have:2^t*(2*m+1)=2^t*(2*m)+2^t:=by rw[Nat.mul_add,Nat.mul_one]
   omega
  rw[he] at this
  rw[this]
  by_cases hj:j<t
  ·simp[hj,Nat.testBit_two_pow_sub_one]
  ·simp[hj]
 refine⟨ht,fun i hi=>by rw[b1,if_pos hi],by rw[b1,if_neg (by omega),Nat.sub_self];simp[Nat.testBit_zero],fun i=>?_⟩
 rw[Nat.testBit_and,b1,b2]
 by_cases hi:i<t
 ·simp[hi]
 ·simp only[hi,if_false]
  by_cases he:i=t
  ·subst he;simp[Nat.testBit_zero]
  ·obtain⟨k,hk⟩:∃k,i-t=k+1:=⟨i-t-1,by omega⟩
   rw[hk,Nat.testBit_succ,Nat.testBit_succ,show(2*m+1)/2=m by omega,show 2*m/2=m by omega]
   simp[he]
theorem shr58(x:Int):zav .shr .u64 x 58=x/288230376151711744:=by
 have hb:min (58:Int).toNat IntKind.u64.bits=58:=by decide
 simp only[zav,hb]
 rw[Int.fdiv_eq_ediv_of_nonneg _ (by decide)]
 rfl
theorem zB0(x y:Int):zav .and .u64 x y=bits .and .u64 x y:=rfl
theorem zGb(x:Int)(k:Int)(h:x/288230376151711744=k):zav .shr .u64 x 58=k:=(shr58 x).trans h
theorem tz_key(n a:Nat)(hn:n<18446744073709551616)(h0:n≠0)(hlow:n &&& (18446744073709551616-n)=a) :
  IntKind.wrap .u64 ((zav .and .u64 (n:Int) (IntKind.wrap .u64 (0-(n:Int))))*285870213051353865)/288230376151711744=((a*285870213051353865%18446744073709551616/288230376151711744:Nat):Int):=by
 rw[Int.zero_sub,zB0]
 exact tz64_key n a hn h0 hlow
theorem tz_idx(n a:Nat)(hn:n<18446744073709551616)(h0:n≠0)(hlow:n &&& (18446744073709551616-n)=a) :
  zav .shr .u64 (IntKind.wrap .u64 ((zav .and .u64 (n:Int) (IntKind.wrap .u64 (0-(n:Int))))*285870213051353865)) 58=((a*285870213051353865%18446744073709551616/288230376151711744:Nat):Int) :=
 zGb _ _ (tz_key n a hn h0 hlow)
theorem tz_at(n:Nat)(hn:n<18446744073709551616)(h0:n≠0):∃idx:Nat,idx<64/\zav .shr .u64 (IntKind.wrap .u64 ((zav .and .u64 (n:Int) (IntKind.wrap .u64 (0-(n:Int))))*285870213051353865)) 58=(idx:Int)/\Lib.deBruijn64tab.getD idx 0=Lib.ctz 64 n/\Lib.ctz 64 n<64:=by
 obtain⟨hlow,hk⟩:=Lib.lowest_bit 64 n h0 hn
 obtain⟨hi,htab⟩:=Lib.deBruijn64_at _ hk
 exact⟨_,hi,tz_idx n _ hn h0 hlow,htab,hk⟩
theorem TZ_k(x:Int)(hx:U x)(h0:x≠0)(w:World)(hg:GT w):FnP Tryz.prog zaI #[.int .u64 x] w fun v w'=>Ext w w'/\v=.int .i64 (Lib.ctz 64 x.toNat:Nat):=by
 have hu:=zf1.1 hx
 obtain⟨idx,hi,hz,htab,ht⟩:=tz_at x.toNat (by omega) (by omega)
 rw[Int.toNat_of_nonneg hu.1] at hz
 generalize Lib.ctz 64 x.toNat=t at htab ht ⊢
 have hc:=hg idx hi
 rw[htab] at hc
 have hc2:cell w (pIdx (some (⟨9,0,none⟩:Addr)) (idx:Int) 1) 0=some (.int .u8 (t:Int)):=by rw[zad];simpa using hc
 rw[<-hz] at hc2
 have z0:(0:Int)<=zav .shr .u64 (IntKind.wrap .u64 ((zav .and .u64 x (IntKind.wrap .u64 (0-x)))*285870213051353865)) 58:=by rw[hz];omega
 have z1:zav .shr .u64 (IntKind.wrap .u64 ((zav .and .u64 x (IntKind.wrap .u64 (0-x)))*285870213051353865)) 58<64:=by rw[hz];omega
 exact zeU x w _ ⟨fun h=>absurd h h0,fun _=>⟨by simp,z0,z1,(t:Int),hc2,i64 (by omega),fun w1 h1=>⟨h1,rfl⟩⟩⟩
theorem low_k{s:Int}(hs:U s)(hne:s≠0):∃t:Nat,Lib.ctz 64 s.toNat=t/\t<64/\(∀i,i<t->tb s i=false)/\tb s t=true/\U (s-1)/\U (zav .and .u64 s (s-1))/\(∀i,tb (zav .and .u64 s (s-1)) i=(tb s i&&decide (i≠t)))/\(zav .and .u64 s (s-1)).toNat<s.toNat:=by
 have hu:=zf1.1 hs
 obtain⟨t1,t2,t3,t4⟩:=tzbits (x:=s.toNat) (by omega) (by omega)
 generalize hT:Lib.ctz 64 s.toNat=t at t1 t2 t3 t4
 have hs1:U (s-1):=by rw[zf1];omega
 have hbit:∀i,tb (zav .and .u64 s (s-1)) i=(tb s i&&decide (i≠t)):=fun i=>by
  have:=t4 i
  rw[Nat.testBit_and] at this
  rw[zHl,zfo hs,zfo hs1,show(s-1).toNat=s.toNat-1 by omega]
  exact this
 have hU:=zHS s (s-1)
 have hdec:(zav .and .u64 s (s-1)).toNat<s.toNat:=by
  have he:(zav .and .u64 s (s-1)).toNat=s.toNat &&& (s.toNat-1):=by
   apply Nat.eq_of_testBit_eq
   intro i
   rw[<-zfo hU,hbit,t4,zfo hs]
  rw[he]
  have:=Nat.and_le_right (n:=s.toNat) (m:=s.toNat-1)
  omega
 exact⟨t,rfl,t1,fun i hi=>by rw[zfo hs];exact t2 i hi,by rw[zfo hs];exact t3,hs1,hU,hbit,hdec⟩
def GC(w:World):Prop:=GT w/\Gl w
theorem GC.ext{w w':World}(hg:GC w)(h:Ext w w'):GC w':=⟨GT.ext hg.1 h,Gl.ext hg.2 h⟩
def spn(low top:Int):Int:=IntKind.wrap .u64 (zav .shl .u64 1 (top+1)-zav .shl .u64 1 low)
theorem zDc(low top:Int)(h0:0<=low/\low<=62)(h1:0<=top/\top<=62)(w:World):FnP Tryz.prog ze4 #[.int .i64 low,.int .i64 top] w fun v w'=>Ext w w'/\v=.int .u64 (spn low top) :=
 zuo low top w _ ⟨i64 (by omega),by omega,by omega,fun w0 h0=>⟨h0,rfl⟩⟩
theorem zlj{low top:Int}{n:Nat}(h:spn low top=n)(hn:n<18446744073709551616)(hb:∀j,j<64->n.testBit j=decide (low<=(j:Int)/\(j:Int)<=top))(ht:top<64):U (spn low top)/\∀j:Nat,tb (spn low top) j=decide (low<=(j:Int)/\(j:Int)<=top):=by
 have hu:U (spn low top):=by rw[h,zf1];omega
 refine⟨hu,fun j=>?_⟩
 by_cases hj:j<64
 ·rw[zfo hu,h,<-hb j hj];simp
 ·have h1:tb (spn low top) j=false:=by
   cases hc:tb (spn low top) j with
   |false => rfl
   |true => exact absurd (zGm hc) hj
  rw[h1];symm;rw[decide_eq_false_iff_not];omega
theorem spn0:U (spn 0 59)/\∀j:Nat,tb (spn 0 59) j=decide ((0:Int)<=(j:Int)/\(j:Int)<=59):=zlj (n:=1152921504606846975) (by decide) (by decide) (by decide) (by decide)
structure Cr where
 a:Int
 b:Int
 c:Int
 d:Int
 e:Int
abbrev zJ7(x:Cr):List Value:=[.int .u64 x.a,.int .u64 x.b,.int .u64 x.c,.int .u64 x.d,.int .u64 x.e]
abbrev cv(x:Cr):Value:=.agg #[.int .u64 x.a,.int .u64 x.b,.int .u64 x.c,.int .u64 x.d,.int .u64 x.e]
def CrU(x:Cr):Prop:=U x.a/\U x.b/\U x.c/\U x.d/\U x.e
def fld(x:Cr)(i:Nat):Int:=match i with|0=>x.a|1=>x.b|2=>x.c|3=>x.d|_=>x.e
def zl4(i:Nat):Int:=match i with|0=>0|1=>0|2=>1|3=>1|_=>0
def zmB(i:Nat):Int:=match i with|0=>59|1=>23|2=>31|3=>12|_=>6
def okF(s low top:Int):Prop:=s≠0/\zav .andNot .u64 s (spn low top)=0
def zjR(x:Cr):Prop:=∀i,i<5->okF (fld x i) (zl4 i) (zmB i)
theorem zFG{s low top:Int}(hs:U s)(hb:∀j:Nat,tb (spn low top) j=decide (low<=(j:Int)/\(j:Int)<=top))(h:okF s low top):∀j,tb s j=true->low<=(j:Int)/\(j:Int)<=top:=by
 intro j hj
 have h1:=(zrI (zxF s (spn low top))).1 h.2 j (zGm hj)
 rw[zu1,hj,hb] at h1
 simpa using h1
def zyd(w:World)(q p:Option Addr):Prop:=∀k:Int,0<=k->k<5->Go.Sx.cell w (pIdx q k 3) 0=some (.pointer (pAdd p k.toNat))/\Go.Sx.cell w (pIdx q k 3) 1=some (.int .i64 (zl4 k.toNat))/\Go.Sx.cell w (pIdx q k 3) 2=some (.int .i64 (zmB k.toNat))
theorem five{k:Int}(h0:0<=k)(h1:k<5):k=0\/k=1\/k=2\/k=3\/k=4:=by omega
theorem zFa(p:Option Addr)(hp:p≠none)(w:World):FnP Tryz.prog zdn #[.pointer p] w fun v w'=>Ext w w'/\∃q,v=.slice q 5 5/\zyd w' q p:=by
 refine zjz p w _ ⟨hp,hp,hp,hp,hp,hp,hp,hp,hp,hp,fun w0 h0=>?_⟩
 refine zbY zfL [(.agg #[(.pointer (pAdd p 0)),(.int .i64 0),(.int .i64 59)]),(.agg #[(.pointer (pAdd p 1)),(.int .i64 0),(.int .i64 23)]),(.agg #[(.pointer (pAdd p 2)),(.int .i64 1),(.int .i64 31)]),(.agg #[(.pointer (pAdd p 3)),(.int .i64 1),(.int .i64 12)]),(.agg #[(.pointer (pAdd p 4)),(.int .i64 0),(.int .i64 6)])] rfl rfl (by intro v hv;simp at hv;rcases hv with rfl|rfl|rfl|rfl|rfl<;>rfl) (by omega) (by omega) fun w1 o1 e1=>⟨e1,_,_,_,rfl,fun w5 h5=>⟨(h0.trans e1).trans h5,_,rfl,?_⟩⟩
 have cs:=((o1 0 (Nat.zero_le _)).ext h5).cells
 simp[Value.cells] at cs
 intro k h0 h1
 rcases five h0 h1 with rfl|rfl|rfl|rfl|rfl
 ·exact⟨by rw[zad];exact cs 0 _ rfl,by rw[zad];exact cs 1 _ rfl,by rw[zad];exact cs 2 _ rfl⟩
 ·exact⟨by rw[zad];exact cs 3 _ rfl,by rw[zad];exact cs 4 _ rfl,by rw[zad];exact cs 5 _ rfl⟩
 ·exact⟨by rw[zad];exact cs 6 _ rfl,by rw[zad];exact cs 7 _ rfl,by rw[zad];exact cs 8 _ rfl⟩
 ·exact⟨by rw[zad];exact cs 9 _ rfl,by rw[zad];exact cs 10 _ rfl,by rw[zad];exact cs 11 _ rfl⟩
 ·exact⟨by rw[zad];exact cs 12 _ rfl,by rw[zad];exact cs 13 _ rfl,by rw[zad];exact cs 14 _ rfl⟩
theorem zBi(x:Cr)(w:World):FnP Tryz.prog zid #[cv x] w fun v w'=>Ext w w'/\∃e,v=.int .i64 e/\((zjR x/\e=0)\/(¬zjR x/\e=3)):=by
 refine zsk x.a x.b x.c x.d x.e w _ fun w0 h0=>?_
 refine zbv (by intro v hv;simp at hv;rcases hv with rfl|rfl|rfl|rfl|rfl<;>rfl) fun w1 o1 e1=>?_
 generalize hp1:(some ⟨w0.heap.size,0,none⟩:Option Addr)=p1
 rw[hp1] at o1
 have c1:=(o1 0 (Nat.zero_le _)).cells
 have hp:p1≠none:=by rw[<-hp1];simp
 intro w2 h2
 refine(zFa p1 hp w2).mono fun v w3 ⟨e3,q,hv,hF⟩=>⟨e3,q,5,5,hv,?_⟩
 have x3:=((h0.trans e1).trans h2).trans e3
 have c3:=c1.ext (h2.trans e3)
 refine⟨fun k w'=>w'=w3/\0<=k/\k<=5/\∀i:Nat,(i:Int)<k->okF (fld x i) (zl4 i) (zmB i),fun k _=>(5-k).toNat,⟨rfl,by omega,by omega,fun i hi=>by omega⟩,?_⟩
 rintro k w9 ⟨rfl,hk0,hk1,hall⟩
 refine⟨fun hlt=>?_,fun hge w10 h10=>⟨x3.trans h10,0,rfl,.inl ⟨fun i hi=>hall i (by simp at hge;omega),rfl⟩⟩⟩
 have hlt:k<5:=by simpa using hlt
 obtain⟨f0,f1,f2⟩:=hF k hk0 hlt
 have hc:Go.Sx.cell w9 (pAdd p1 k.toNat) 0=some (.int .u64 (fld x k.toNat)):=by
  rw[zam]
  rcases five hk0 hlt with rfl|rfl|rfl|rfl|rfl
  ·exact c3 0 _ rfl
  ·exact c3 1 _ rfl
  ·exact c3 2 _ rfl
  ·exact c3 3 _ rfl
  ·exact c3 4 _ rfl
 have hb:(0<=zl4 k.toNat/\zl4 k.toNat<=62)/\0<=zmB k.toNat/\zmB k.toNat<=62:=by
  rcases five hk0 hlt with rfl|rfl|rfl|rfl|rfl<;>decide
 have bad:¬okF (fld x k.toNat) (zl4 k.toNat) (zmB k.toNat)->¬zjR x:=fun h ho=>h (ho k.toNat (by omega))
 refine⟨fun hq=>zal f0 (zah.2 hq),hk0,hlt,zal f0,_,f0,_,f1,_,f2,fun b13 hb13=>⟨zal hc,_,hc,fun _=>zal hc,fun hz w15 h15=>⟨x3.trans h15,3,rfl,.inr ⟨bad fun h=>h.1 hz,rfl⟩⟩,fun hnz=>⟨_,hc,fun w16 h16=>?_⟩⟩⟩
 refine FnP.mono (K:=fun v w17=>Ext w16 w17/\v=.int .u64 (spn (zl4 k.toNat) (zmB k.toNat))) (zma _ _ _ w16 _ fun b0 _ wa ha=>(zDc _ _ hb.1 hb.2 wa).mono fun v wb ⟨eb,hv⟩=>⟨eb,_,hv,fun wc hc=>⟨hc,rfl⟩⟩) fun v w17 ⟨e17,hv⟩=>⟨e17,_,hv,fun hne w19 h19=>⟨x3.trans h19,3,rfl,.inr ⟨bad fun h=>hne h.2,rfl⟩⟩,fun he=>⟨i64 (by omega),⟨rfl,by omega,by omega,fun i hi=>?_⟩,by simp only[];omega⟩⟩
 by_cases hik:(i:Int)<k
 ·exact hall i hik
 ·obtain rfl:i=k.toNat:=by omega
  exact⟨hnz,he⟩
theorem zC9{x i:Int}(hx:U x)(h0:0<=i)(h1:i<64):zav .shr .u64 x i=((x.toNat/2^i.toNat:Nat):Int):=by
 have hu:=zf1.1 hx
 have hb:min i.toNat IntKind.u64.bits=i.toNat:=by simp[IntKind.bits];omega
 simp only[zav,hb]
 rw[Int.fdiv_eq_ediv_of_nonneg _ (Int.le_of_lt (by have:(0:Nat)<2^i.toNat:=Nat.pow_pos (by omega);exact_mod_cast this))]
 rw[show x=((x.toNat:Nat):Int) by omega]
 simp
theorem U_shr{x i:Int}(hx:U x)(h0:0<=i)(h1:i<64):U (zav .shr .u64 x i):=by
 have hu:=zf1.1 hx
 rw[zC9 hx h0 h1,zf1]
 have:=Nat.div_le_self x.toNat (2^i.toNat)
 generalize x.toNat/2^i.toNat=q at this ⊢
 omega
theorem zDs{x i:Int}(hx:U x)(h0:0<=i)(h1:i<64)(j:Nat):tb (zav .shr .u64 x i) j=tb x (i.toNat+j):=by
 rw[zfo (U_shr hx h0 h1),zC9 hx h0 h1,zfo hx,Int.toNat_natCast,Nat.testBit_div_two_pow,Nat.add_comm]
theorem zzL(s n:Int)(hs:U s)(h0:0<=n)(h1:n<64)(w:World):FnP Tryz.prog zdh #[.int .u64 s,.int .i64 n] w fun v w'=>Ext w w'/\v=.bool (tb s n.toNat):=by
 refine zwF s n w _ ⟨h0,fun w0 h=>⟨h,?_⟩⟩
 rw[zJG hs h0 h1]
 cases tb s n.toNat<;>rfl
def zId(x:Cr)(m d v:Int):Bool:=tb x.d m.toNat&&(if x.c=spn 1 31 then tb x.e v.toNat else if x.e=spn 0 6 then tb x.c d.toNat else tb x.c d.toNat||tb x.e v.toNat)
def zIc(x:Cr)(n:Int):Prop:=∃y m d,vd y m d/\dy y m d=n/\zId x m d ((n+1)%7)=true
theorem vd_b{y m d:Int}(h:vd y m d):1<=m/\m<=12/\1<=d/\d<=31:=by
 obtain⟨h1,h2,h3,h4,h5,h6⟩:=h
 have:=zt3 (y:=y) h3 h4
 omega
theorem day_k(x:Cr)(hx:CrU x)(n:Int)(h0:0<=n)(h1:n<=3652058)(w:World)(hg:GC w):FnP Tryz.prog zlF #[cv x,.int .i64 n] w fun v w'=>Ext w w'/\∃b:Bool,v=.bool b/\(b=true↔zIc x n):=by
 refine zwE x.a x.b x.c x.d x.e n w _ fun b0 _ w1 hw1=>?_
 refine(Date_k n (i64 (by omega)) w1 (Gl.ext hg.2 hw1)).mono fun v w2 ⟨e2,y,m,d,e,hv,ho,_⟩=>⟨e2,_,_,_,_,hv,fun w7 h7=>?_⟩
 obtain⟨_,hvd,hdy⟩:=ho ⟨h0,h1⟩
 have hb:=vd_b hvd
 refine(zA1 n (i64 (by omega)) w7).mono fun v w8 ⟨e8,a,e',hv,ho',_⟩=>⟨e8,_,_,hv,fun w11 h11=>?_⟩
 obtain⟨_,rfl⟩:=ho' ⟨h0,h1⟩
 have fin:∀{b:Bool}{w':World},Ext w w'->b=zId x m d ((n+1)%7)->Ext w w'/\∃b':Bool,Value.bool b=.bool b'/\(b'=true↔zIc x n):=fun hw hb'=>⟨hw,_,rfl,by
  subst hb'
  constructor
  ·exact fun h=>⟨y,m,d,hvd,hdy,h⟩
  ·rintro⟨y',m',d',hv',hd',h⟩
   obtain⟨_,rfl,rfl⟩:=dy_inj hvd hv' (hdy.trans hd'.symm)
   exact h⟩
 refine(zzL x.d m hx.2.2.2.1 (by omega) (by omega) w11).mono fun v w12 ⟨e12,hv⟩=>⟨e12,_,hv,fun hf w14 h14=>fin h14 (by unfold zId;rw[hf];rfl),fun ht w14 h14=>?_⟩
 refine(zDc 1 31 (by omega) (by omega) w14).mono fun v w15 ⟨e15,hv⟩=>⟨e15,_,hv,fun hall w17 h17=>?_,fun hnall w17 h17=>?_⟩
 ·exact(zzL x.e _ hx.2.2.2.2 (by omega) (by omega) w17).mono fun v w18 ⟨e18,hv⟩=>⟨e18,_,hv,fun w20 h20=>fin h20 (by unfold zId;rw[ht,if_pos hall];rfl)⟩
 ·refine(zDc 0 6 (by omega) (by omega) w17).mono fun v w18 ⟨e18,hv⟩=>⟨e18,_,hv,fun hall w20 h20=>?_,fun hnall2 w20 h20=>?_⟩
  ·exact(zzL x.c d hx.2.2.1 (by omega) (by omega) w20).mono fun v w21 ⟨e21,hv⟩=>⟨e21,_,hv,fun w23 h23=>fin h23 (by unfold zId;rw[ht,if_neg hnall,if_pos hall];rfl)⟩
  ·refine(zzL x.c d hx.2.2.1 (by omega) (by omega) w20).mono fun v w21 ⟨e21,hv⟩=>⟨e21,_,hv,fun hy w23 h23=>fin h23 (by unfold zId;rw[ht,if_neg hnall,if_neg hnall2,hy];rfl),fun hn w23 h23=>?_⟩
   exact(zzL x.e _ hx.2.2.2.2 (by omega) (by omega) w23).mono fun v w24 ⟨e24,hv⟩=>⟨e24,_,hv,fun w26 h26=>fin h26 (by unfold zId;rw[ht,if_neg hnall,if_neg hnall2,hn];rfl)⟩
theorem zG0(y:Int):lng (y+400)↔lng y:=by unfold lng;omega
theorem vd400{y m d:Int}:(1<=y/\y+400<=9999)->(vd y m d↔vd (y+400) m d):=fun h=>by
 have hln:ln (y+400) m=ln y m:=by unfold ln;simp[zG0]
 unfold vd;rw[hln];omega
theorem dy400(y m d:Int):dy (y+400) m d=dy y m d+146097:=by
 have hbef:bef (y+400)=bef y+146097:=by unfold bef;omega
 have hms:ms (y+400) m=ms y m:=by unfold ms;simp[zG0]
 unfold dy;rw[hbef,hms];omega
theorem day400(x:Cr){n:Int}(h0:0<=n)(h1:n+146097<=3652058):zIc x (n+146097)↔zIc x n:=by
 have hw:(n+146097+1)%7=(n+1)%7:=by omega
 constructor
 ·rintro⟨y,m,d,hv,hd,hf⟩
  have hy:401<=y:=by
   by_cases h:401<=y
   ·exact h
   ·have h2:=zfG (show y+1<=401 by omega)
    have h3:=zin hv
    have e1:bef 401=146097:=by decide
    omega
  refine⟨y-400,m,d,(vd400 (by have:=hv.2.1;omega)).2 (by rw[show y-400+400=y by omega];exact hv),?_,by rw[hw] at hf;exact hf⟩
  have:=dy400 (y-400) m d
  rw[show y-400+400=y by omega] at this
  omega
 ·rintro⟨y,m,d,hv,hd,hf⟩
  have hy:y+400<=9999:=by
   by_cases h:y+400<=9999
   ·exact h
   ·have h2:=zfG (show(10000:Int)<=y+400 by omega)
    have h3:=zin hv
    have e2:bef 10000=3652059:=by decide
    have hbef:bef (y+400)=bef y+146097:=by unfold bef;omega
    omega
  refine⟨y+400,m,d,(vd400 ⟨hv.1,hy⟩).1 hv,by rw[dy400];omega,by rw[hw];exact hf⟩
def hit(x:Cr)(u:Int):Prop:=tb x.a (u%60).toNat=true/\tb x.b (u/60).toNat=true
def mt(x:Cr)(t:Int):Prop:=tb x.a (t%60).toNat=true/\tb x.b (t/60%24).toNat=true/\zIc x (t/1440)
theorem zq8{x:Cr}{t:Int}:mt x t↔hit x (t%1440)/\zIc x (t/1440):=by
 unfold mt hit
 rw[show t%1440%60=t%60 by omega,show t%1440/60=t/60%24 by omega,and_assoc]
theorem zGu(x:Cr)(hx:CrU x)(hok:zjR x)(f:Int)(h0:0<=f)(h1:f<1440)(w:World)(hg:GC w):FnP Tryz.prog zdo #[cv x,.int .i64 f] w fun v w'=>Ext w w'/\∃m b,v=.tuple #[.int .i64 m,.bool b] /\
  ((b=false/\m=0/\∀u,f<=u->u<1440->¬hit x u)\/(b=true/\f<=m/\m<1440/\hit x m/\∀u,f<=u->u<m->¬hit x u)):=by
 have min60:∀j,tb x.a j=true->j<60:=fun j hj=>by
  have:=zFG hx.1 spn0.2 (hok 0 (by omega)) j hj
  omega
 refine zp3 x.a x.b x.c x.d x.e f w _ fun b0 _=>?_
 rw[td h0,tm h0]
 refine⟨i64 (by omega),fun h w'=>w'=w/\f/60<=h/\h<=24/\∀u,f<=u->u<60*h->¬hit x u,fun h _=>(24-h).toNat,⟨rfl,by omega,by omega,fun u hu hu2=>by omega⟩,?_⟩
 rintro h w3 ⟨rfl,hh0,hh1,hno⟩
 refine⟨fun hlt w4 h4=>?_,fun hge w4 h4=>⟨h4,_,_,rfl,.inl ⟨rfl,rfl,fun u hu hu2=>hno u hu (by omega)⟩⟩⟩
 have next:(∀u,f<=u->60*h<=u->u<60*(h+1)->¬hit x u)->InR .i64 (h+1)/\((w3=w3/\f/60<=h+1/\h+1<=24/\∀u,f<=u->u<60*(h+1)->¬hit x u)/\(24-(h+1)).toNat<(24-h).toNat):=fun hn=>⟨i64 (by omega),⟨rfl,by omega,by omega,fun u hu hu2=>by
  by_cases hc:u<60*h
  ·exact hno u hu hc
  ·exact hn u hu (by omega) hu2⟩,by omega⟩
 have rest:∀s:Int,0<=s->s<60->(∀u,f<=u->60*h<=u->u<60*(h+1)->s<=u%60)->f<=60*h+s->tb x.b h.toNat=true ->
   ((
    zav .shr .u64 x.a s≠0)->InR .i64 (60*h)/\InR .i64 (60*h+s)/\∀w7,Ext w3 w7->FnP Tryz.prog zaI #[.int .u64 (zav .shr .u64 x.a s)] w7 fun v8 w8=>Ext w7 w8/\∃t9:Int,v8=.int .i64 t9/\InR .i64 (60*h+s+t9)/\∀w10,Ext w3 w10 ->
    (Ext w3 w10/\∃m b,Value.tuple #[.int .i64 (60*h+s+t9),.bool true]=.tuple #[.int .i64 m,.bool b]/\((b=false/\m=0/\∀u,f<=u->u<1440->¬hit x u)\/(b=true/\f<=m/\m<1440/\hit x m/\∀u,f<=u->u<m->¬hit x u)))) /\
   ((zav .shr .u64 x.a s=0)->InR .i64 (h+1)/\((w3=w3/\f/60<=h+1/\h+1<=24/\∀u,f<=u->u<60*(h+1)->¬hit x u)/\(24-(h+1)).toNat<(24-h).toNat)):=by
  intro s hs0 hs1 hsu hfs hb
  have hU:=U_shr hx.1 hs0 (by omega:s<64)
  refine⟨fun hnz=>?_,fun hz=>next fun u hu hu1 hu2 hh=>?_⟩
  ·obtain⟨t,ht,ht64,hlow,htb,_⟩:=low_k hU hnz
   rw[zDs hx.1 hs0 (by omega)] at htb
   have h60:=min60 _ htb
   refine⟨i64 (by omega),i64 (by omega),fun w7 h7=>(TZ_k _ hU hnz w7 (GT.ext hg.1 h7)).mono fun v w8 ⟨e8,hv⟩=>⟨e8,_,hv,?_⟩⟩
   rw[ht]
   refine⟨i64 (by omega),fun w10 h10=>⟨h10,_,_,rfl,.inr ⟨rfl,by omega,by omega,⟨?_,?_⟩,fun u hu hu2 hh=>?_⟩⟩⟩
   ·rw[show((60*h+s+(t:Int))%60).toNat=s.toNat+t by omega];exact htb
   ·rw[show((60*h+s+(t:Int))/60).toNat=h.toNat by omega];exact hb
   ·by_cases hc:u<60*h
    ·exact hno u hu hc hh
    ·have hs:=hsu u hu (by omega) (by omega)
     have:=hlow ((u%60).toNat-s.toNat) (by omega)
     rw[zDs hx.1 hs0 (by omega),show s.toNat+((u%60).toNat-s.toNat)=(u%60).toNat by omega,hh.1] at this
     cases this
  ·have hs:=hsu u hu hu1 hu2
   have hbit:=(zrI hU).1 hz ((u%60).toNat-s.toNat) (by omega)
   rw[zDs hx.1 hs0 (by omega),show s.toNat+((u%60).toNat-s.toNat)=(u%60).toNat by omega,hh.1] at hbit
   cases hbit
 refine(zzL x.b h hx.2.1 (by omega) (by omega) w4).mono fun v w5 ⟨e5,hv⟩=>⟨e5,_,hv,fun hf=>next fun u hu hu1 hu2 hh=>?_,fun ht=>⟨i64 (by omega),fun heq=>⟨by omega,?_⟩,fun hne=>?_⟩⟩
 ·have:=hh.2
  rw[show(u/60).toNat=h.toNat by omega,hf] at this
  cases this
 ·exact rest (f%60) (by omega) (by omega) (fun u hu hu1 hu2=>by omega) (by omega) ht
 ·exact rest 0 (by omega) (by omega) (fun u hu hu1 hu2=>by omega) (by omega) ht
theorem Next_k(x:Cr)(hx:CrU x)(t:Int)(w:World)(hg:GC w):FnP Tryz.prog zjH #[cv x,.int .i64 t] w fun v w'=>Ext w w'/\∃n e,v=.tuple #[.int .i64 n,.int .i64 e] /\
  ((e=3/\n=0/\¬zjR x)\/(e=4/\n=0/\zjR x/\¬(-1<=t/\t<=5258964959)) \/
   (zjR x/\-1<=t/\t<=5258964959/\((e=0/\t<n/\n<=5258964959/\mt x n/\∀u,t<u->u<n->¬mt x u)\/(e=5/\n=0/\∀u,t<u->u<=5258964959->¬mt x u)))):=by
 refine zun x.a x.b x.c x.d x.e t w _ fun b0 _ w1 h1=>?_
 refine(zBi x w1).mono fun v w2 ⟨e2,e,hv,he⟩=>⟨e2,e,hv,fun hne w4 h4=>⟨h4,_,_,rfl,?_⟩,fun h0=>?_⟩
 ·rcases he with⟨_,h⟩|⟨h,h2⟩
  · exact absurd h hne
  · exact .inl ⟨h2,rfl,h⟩
 have hok:zjR x:=by
  rcases he with⟨h,_⟩|⟨_,h⟩
  · exact h
  · omega
 refine⟨fun hr w4 h4=>⟨h4,_,_,rfl,.inr (.inl ⟨rfl,rfl,hok,by omega⟩)⟩,fun⟨hr0,hr1⟩=>?_⟩
 rw[td (by omega),tm (by omega)]
 refine⟨i64 (by omega),i64 (by omega),fun n w'=>w'=w/\(t+1)/1440<=n/\(n<=3652059\/n=(t+1)/1440)/\∀u,t<u->u/1440<n->¬mt x u,fun n _=>(3652060-n).toNat,⟨rfl,by omega,.inr rfl,fun u hu hu2=>by omega⟩,?_⟩
 rintro n w6 ⟨rfl,hn0,hn1,hno⟩
 have step:(n<=3652058)->(∀u,t<u->u/1440=n->¬mt x u)->InR .i64 (n+1)/\((w6=w6/\(t+1)/1440<=n+1/\(n+1<=3652059\/n+1=(t+1)/1440)/\∀u,t<u->u/1440<n+1->¬mt x u)/\(3652060-(n+1)).toNat<(3652060-n).toNat):=fun hn2 h=>⟨i64 (by omega),⟨rfl,by omega,.inl (by omega),fun u hu hu2=>by
  by_cases hc:u/1440<n
  · exact hno u hu hc
  · exact h u hu (by omega)⟩,by omega⟩
 have found:∀f:Int,(n<=3652058)->0<=f->f<1440->(∀u,t<u->u/1440=n->f<=u%1440)->(t<1440*n+f)->zIc x n->∀w10,Ext w6 w10 ->
    FnP Tryz.prog zdo #[cv x,.int .i64 f] w10 fun v11 w11=>Ext w10 w11/\∃t12:Int,∃t13:Bool,v11=.tuple #[.int .i64 t12,.bool t13] /\
     ((
      t13=true)->InR .i64 (1440*n)/\InR .i64 (1440*n+t12)/\∀w14,Ext w6 w14->(Ext w6 w14/\∃n' e,Value.tuple #[.int .i64 (1440*n+t12),.int .i64 0]=.tuple #[.int .i64 n',.int .i64 e] /\
      ((e=3/\n'=0/\¬zjR x)\/(e=4/\n'=0/\zjR x/\¬(-1<=t/\t<=5258964959))\/(zjR x/\-1<=t/\t<=5258964959/\((e=0/\t<n'/\n'<=5258964959/\mt x n'/\∀u,t<u->u<n'->¬mt x u)\/(e=5/\n'=0/\∀u,t<u->u<=5258964959->¬mt x u)))))) /\
     ((t13=false)->InR .i64 (n+1)/\((w6=w6/\(t+1)/1440<=n+1/\(n+1<=3652059\/n+1=(t+1)/1440)/\∀u,t<u->u/1440<n+1->¬mt x u)/\(3652060-(n+1)).toNat<(3652060-n).toNat)):=by
  intro f hn2 hf0 hf1 hfu hft hday w10 h10
  refine(zGu x hx hok f hf0 hf1 w10 (hg.ext h10)).mono fun v w11 ⟨e11,m,b,hv,hr⟩=>⟨e11,m,b,hv,fun hb=>?_,fun hb=>step hn2 fun u hu hu2 hm=>?_⟩
  · rcases hr with⟨h,_⟩|⟨_,hm0,hm1,hhit,hbe⟩
    ·rw[h] at hb;cases hb
    ·refine⟨i64 (by omega),i64 (by omega),fun w14 h14=>⟨h14,_,_,rfl,.inr (.inr ⟨hok,hr0,hr1,.inl ⟨rfl,by omega,by omega,?_,fun u hu hu2 hm=>?_⟩⟩)⟩⟩
     ·rw[zq8,show(1440*n+m)%1440=m by omega,show(1440*n+m)/1440=n by omega]
      exact⟨hhit,hday⟩
     ·by_cases hc:u/1440<n
      ·exact hno u hu hc hm
      ·exact hbe (u%1440) (hfu u hu (by omega)) (by omega) (zq8.1 hm).1
  · rcases hr with⟨_,_,hbe⟩|⟨h,_⟩
    ·exact hbe (u%1440) (hfu u hu hu2) (by omega) (zq8.1 hm).1
    ·rw[h] at hb;cases hb
 refine⟨i64 (by omega),fun hle w7 h7=>?_,fun hgt w7 h7=>⟨h7,_,_,rfl,.inr (.inr ⟨hok,hr0,hr1,.inr ⟨rfl,rfl,fun u hu hu2=>?_⟩⟩)⟩⟩
 ·have hn2:n<=3652058:=by omega
  refine(day_k x hx n (by omega) hn2 w7 (hg.ext h7)).mono fun v w8 ⟨e8,b,hv,hb⟩=>⟨e8,b,hv,fun hf=>step hn2 fun u hu hu2 hm=>?_,fun ht=>⟨fun heq=>?_,fun hne=>?_⟩⟩
  · have:=(zq8.1 hm).2
    rw[hu2,<-hb,hf] at this
    cases this
  · exact found ((t+1)%1440) hn2 (by omega) (by omega) (fun u hu hu2=>by omega) (by omega) (hb.1 ht)
  · exact found 0 hn2 (by omega) (by omega) (fun u hu hu2=>by omega) (by omega) (hb.1 ht)
 ·
  have key:∀(k:Nat)(v:Int),(v/1440).toNat<=k->t<v->v<=5258964959->¬mt x v:=by
    intro k
    induction k using Nat.strongRecOn with
    |_ k ih =>
     intro v hk hv hv2 hm
     by_cases hc:v/1440<n
     ·exact hno v hv hc hm
     ·have hd:(t+1)/1440+146097<v/1440:=by omega
      have h2:=zq8.1 hm
      refine ih ((v-146097*1440)/1440).toNat (by omega) (v-146097*1440) (Nat.le_refl _) (by omega) (by omega) (zq8.2 ⟨?_,?_⟩)
      ·rw[show(v-146097*1440)%1440=v%1440 by omega];exact h2.1
      ·rw[show(v-146097*1440)/1440=v/1440-146097 by omega]
       refine(day400 x (by omega) (by omega)).1 ?_
       rw[show v/1440-146097+146097=v/1440 by omega];exact h2.2
  exact key _ u (Nat.le_refl _) hu hu2
def zqk:List ByteArray:=[⟨#[]⟩,⟨#[119,97,105,116]⟩,⟨#[114,117,110]⟩,⟨#[100,111,110,101]⟩,⟨#[102,97,105,108]⟩,⟨#[103,111,110,101]⟩]
def errT:Value:=.iface 329 (.agg #[.pointer (some ⟨11,175,none⟩)])
structure GD(w:World):Prop where
 gb:GB w
 whats:zat w (some ⟨4,0,none⟩) (zqk.map Value.string)
 eType:Go.Sx.cell w (some ⟨0,0,none⟩) 0=some errT
 gc:GC w
theorem tab_fr{P:Program}{S:Nat->Prop}{w w':World}{name:String}{k:IntKind}{zs:List Int}(h:Lib.TabIs P w name k zs)(f:Fr S w w')(hS:∀g,P.globalNamed name=some g->¬S g):Lib.TabIs P w' name k zs:=by
 unfold Lib.TabIs World.var? at *
 cases hg:P.globalNamed name with
 |none => simp[hg] at h
 |some g =>
  simp only[hg,Option.bind_some] at h ⊢
  have hlt:g<w.heap.size:=by
   rcases Nat.lt_or_ge g w.heap.size with h'|h'
   ·exact h'
   ·rw[Array.getElem?_eq_none h'] at h;simp at h
  rw[f.block g hlt (hS g hg)];exact h
theorem g1 : Tryz.prog.globalNamed "internal/strconv.uint64pow10" = some 1 := by kernel_rfl
theorem GB.fr{S:Nat->Prop}{w w':World}(g:GB w)(f:Fr S w w')(h:∀b,S b->11<=b):GB w':=by
 have n:∀b,b<11->¬S b:=fun b hb hs=>by have:=h b hs;omega
 refine⟨tab_fr g.pow f fun b hb=>?_,?_,?_,?_⟩
 ·rw[g1] at hb;injection hb with hb;subst hb;exact n 1 (by omega)
 ·obtain⟨m,e⟩:=g.maxLen;exact⟨m,zdt e f fun a ha=>by cases ha;exact n 5 (by omega)⟩
 ·obtain⟨m,e,k⟩:=g.eSyn;exact⟨m,zdt e f fun a ha=>(by cases ha;exact n 2 (by omega)),k⟩
 ·obtain⟨m,e,k⟩:=g.eRan;exact⟨m,zdt e f fun a ha=>(by cases ha;exact n 3 (by omega)),k⟩
theorem GD.fr{S:Nat->Prop}{w w':World}(g:GD w)(f:Fr S w w')(h:∀b,S b->11<=b):GD w':=by
 have n:∀b,b<11->¬S b:=fun b hb hs=>by have:=h b hs;omega
 exact⟨g.gb.fr f h,g.whats.fr f fun a ha=>(by cases ha;exact n 4 (by omega)),zdt g.eType f fun a ha=>(by cases ha;exact n 0 (by omega)),⟨fun i hi=>zdt (g.gc.1 i hi) f fun a ha=>(by cases ha;exact n 9 (by omega)),fun i hi=>zdt (g.gc.2 i hi) f fun a ha=>(by cases ha;exact n 10 (by omega))⟩⟩
theorem GD.ext{w w':World}(g:GD w)(e:Ext w w'):GD w':=g.fr (zac (S:=fun _=>False) e) fun _ h=>h.elim
def EV(v:Value)(c:Int):Prop:=(c=0/\v=.nilIface)\/(c≠0/\(v=.iface 24 (.int .i64 c)\/∃k:Int,v=.iface 257 (.agg #[.int .i64 k,.iface 24 (.int .i64 c)])))
theorem EV.isErr{v:Value}{c:Int}(h:EV v c):isErr v:=by
 rcases h with⟨_,h⟩|⟨_,h|⟨k,h⟩⟩
 ·exact .inl h
 ·exact .inr ⟨_,_,h⟩
 ·exact .inr ⟨_,_,h⟩
theorem EV.nil{v:Value}{c:Int}(h:EV v c):v=.nilIface↔c=0:=by
 rcases h with⟨h0,h⟩|⟨h0,h|⟨k,h⟩⟩
 ·exact⟨fun _=>h0,fun _=>h⟩
 ·exact⟨fun g=>(by rw[h] at g;cases g),fun g=>absurd g h0⟩
 ·exact⟨fun g=>(by rw[h] at g;cases g),fun g=>absurd g h0⟩
theorem u24:Tryz.prog.underlying 24=some (.int .i64):=by kernel_rfl
theorem zt8{c:Int}{w:World}{K:Value->World->Prop}(h:K (.iface 24 (.int .i64 c)) w):Run Tryz.prog (.makeInterface 24 (.int .i64 c)) w K :=
 zfm u24 (by intro m hm;cases hm) h
theorem u257:(Tryz.prog.underlying 257).map (fun d=>match d with|.struct _=>true|_=>false)=some true:=by kernel_rfl
theorem zzU{k c:Int}{w:World}{K:Value->World->Prop}(h:K (.iface 257 (.agg #[.int .i64 k,.iface 24 (.int .i64 c)])) w):Run Tryz.prog (.makeInterface 257 (.agg #[.int .i64 k,.iface 24 (.int .i64 c)])) w K:=by
 obtain⟨d,hd,he⟩:=Option.map_eq_some_iff.1 u257
 exact zfm hd (by intro m hm;subst hm;cases he) h
theorem zE5{c:Int}(h:c≠0):EV (.iface 24 (.int .i64 c)) c:=.inr ⟨h,.inl rfl⟩
theorem zzC{k c:Int}(h:c≠0):EV (.iface 257 (.agg #[.int .i64 k,.iface 24 (.int .i64 c)])) c:=.inr ⟨h,.inr ⟨k,rfl⟩⟩
theorem ev0:EV .nilIface 0:=.inl ⟨rfl,rfl⟩
theorem zpG(e:Int)(w:World):FnP Tryz.prog zb0 #[.int .i64 e] w fun v w'=>Ext w w'/\EV v e :=
 zsl e w _ ⟨fun h w0 h0=>⟨h0,by rw[h];exact ev0⟩,fun h w0 h0=>zt8 ⟨Ext.refl _,_,rfl,fun w3 h3=>⟨h0.trans h3,zE5 h⟩⟩⟩
theorem neE{v:Value}{c:Int}(h:EV v c){w:World}{K:Value->World->Prop}(hk:∀b:Bool,(b=false↔c=0)->K (.bool b) w):Run Tryz.prog (.eq .neq 175 false true v .nilIface) w K :=
 ziz (by kernel_rfl) h.isErr fun b hb=>hk b (hb.trans h.nil)
def WOk(F:Fm):Prop:=∀s∈F.jobs,1<=s.what/\s.what<=5
theorem WOk.st{F:Fm}(h:WOk F)(k m:Nat)(v:Int)(hv:m=11->1<=v/\v<=5):WOk (stF F k m v):=by
 intro s hs
 have hs:s∈F.jobs.set k (zjc m v (F.jobs.getD k default)):=hs
 by_cases hk:k<F.jobs.length
 ·rcases List.mem_or_eq_of_mem_set hs with hm|rfl
  ·exact h s hm
  ·have hm:=h _ (zaq F.jobs default hk)
   unfold zjc
   split
   ·exact hv rfl
   ·exact hm
   ·exact hm
   ·exact hm
   ·exact hm
 ·rw[List.set_eq_of_length_le (by omega)] at hs
  exact h s hs
theorem WOk.lostTo{F:Fm}(h:WOk F):∀n,WOk (lostTo F n)
 |0 => h
 |n+1 => by
  rw[Go.Proofs.YtcceeahmcecbnaaGreatDoor.lostTo,zb7]
  split
  ·exact(WOk.lostTo h n).st _ _ _ fun _=>by omega
  ·exact WOk.lostTo h n
theorem WOk.lost{F:Fm}(h:WOk F):WOk (zpY F):=h.lostTo _
theorem WOk.leave{F:Fm}(h:WOk F)(k:Nat):WOk (zdQ F k):=by
 have hg:WOk (zkM F k):=h
 exact(hg.st _ _ _ fun h=>by cases h).st _ _ _ fun h=>by cases h
theorem WOk.rep{F:Fm}(h:WOk F)(k:Nat)(ok:Bool):WOk (zs8 F k ok):=by
 unfold zs8 zfq
 split
 ·exact(h.leave k).st _ _ _ fun _=>by omega
 ·split
  ·exact((((h.leave k).st _ _ _ fun h=>by cases h).st _ _ _ fun _=>by omega).st _ _ _ fun h=>by cases h)
  ·exact(((h.leave k).st _ _ _ fun h=>by cases h).st _ _ _ fun _=>by omega).lost
theorem WOk.can{F:Fm}(h:WOk F)(k:Nat):WOk (zzn F k):=by
 unfold zzn
 split
 ·exact((h.leave k).st _ _ _ fun _=>by omega).lost
 ·exact(h.st _ _ _ fun _=>by omega).lost
theorem WOk.sub{F:Fm}(h:WOk F)(j:Jb):WOk (zta F j):=by
 intro s hs
 rcases List.mem_append.1 hs with hs|hs
 ·exact h s hs
 ·simp at hs;subst hs;exact⟨by show(1:Int)<=1;omega,by show(1:Int)<=5;omega⟩
theorem WOk.run{F:Fm}(h:WOk F)(k0:Nat)(k:Int):WOk (zs9 F k0 k):=by
 have hg:WOk (zlm F k0 k):=h
 exact((hg.st _ _ _ fun _=>by omega).st _ _ _ fun h=>by cases h).st _ _ _ fun h=>by cases h
theorem WOk.plan{F G:Fm}{outs:List (Int×Int)}(h:WOk F)(p:zfZ F G outs):WOk G :=
 zsw (fun F id k _ _ _ h=>h.run _ k) p h
theorem WOk.tick{F:Fm}(h:WOk F)(n:Int):WOk { F with now:=n }:=h
structure Kt where
 hp:Option Addr
 hn:Nat
 hc:Nat
 L:List Ht
 farm:Option (Nat×Pl×Fm)
inductive DS
 |shut (L:List Ht)
 |opn (F:Fm)
def Kt.st(K:Kt):DS:=match K.farm with
 |none => .shut K.L
 |some (_,_,F) => .opn F
def Kt.fp(K:Kt):Option Addr:=match K.farm with
 |none => none
 |some (fb,_,_) => ptr fb
abbrev dcs(K:Kt):List Value:=[.slice K.hp K.hn K.hc,.pointer K.fp]
def KF(db:Nat)(K:Kt)(b:Nat):Prop:=b=db\/∃fb P F,K.farm=some (fb,P,F)/\ft fb P.jp b
def dO(O:Nat->Prop)(db:Nat)(b:Nat):Prop:=O b\/b=db
theorem hs_of{w:World}{p:Option Addr}{M:List Hm}(h:zgr 8 zi2 w p M)(hl:∀m∈M,Lbs w m.q m.h.labels):zjg w p (M.map (·.h)):=fun i x hx=>by
 rw[List.getElem?_map,Option.map_eq_some_iff] at hx
 obtain⟨m,hm,rfl⟩:=hx
 exact⟨m.q,m.d,fun j u hu=>h i m hm j u hu,hl m (List.mem_of_getElem? hm)⟩
structure KX(O:Nat->Prop)(B:Nat)(w:World)(db:Nat)(K:Kt):Prop where
 slot:Own B w zvF 2 (ptr db) 1 1 (dcs K)
 shut:K.farm=none->K.hn=K.L.length/\(∃M:List Hm,M.map (·.h)=K.L/\∀w'',Fr (dO O db) w w''->zgr 8 zi2 w'' K.hp M/\∀m∈M,Lbs w'' m.q m.h.labels)/\zj4 K.L/\(∀h∈K.L,zvq h/\h.used=zbe)
 opn:∀fb P F,K.farm=some (fb,P,F)->FXO (dO O db) B w fb P F/\Inv F/\WOk F
 olt:∀b,O b->b<w.heap.size
 odis:∀b,O b->b≠db
section
variable {O:Nat->Prop} {B db:Nat} {w:World} {K:Kt}
theorem KX.foot(x:KX O B w db K){b:Nat}(h:KF db K b):B<=b/\b<w.heap.size:=by
 rcases h with rfl|⟨fb,P,F,e,h⟩
 ·exact x.slot.lt _ rfl
 ·exact(x.opn fb P F e).1.foot h
theorem KX.oft(x:KX O B w db K){b:Nat}(h:O b):¬KF db K b:=by
 rintro (rfl|⟨fb,P,F,e,hf⟩)
 ·exact x.odis _ h rfl
 ·exact(x.opn fb P F e).1.odis b (.inl h) hf
theorem KX.cell(x:KX O B w db K){i:Nat}{v:Value}(h:(dcs K)[i]?=some v):Go.Sx.cell w (pAdd (ptr db) i) 0=some v:=by rw[zam];exact x.slot.cells i v h
theorem KX.fp(x:KX O B w db K):Go.Sx.cell w (pAdd (ptr db) 1) 0=some (.pointer K.fp):=x.cell (i:=1) rfl
theorem KX.keep(x:KX O B w db K){W:World}(e:Ext W w)(hB:W.heap.size<=B){w':World}(f:Fr (KF db K) w w'):Ext W w':=f.ext e fun b hb=>Nat.le_trans hB (x.foot hb).1
theorem KX.go{O' S:Nat->Prop}{w9:World}(x:KX O B w db K)(f:Fr S w w9)(hS:∀b,S b->O b)(h:∀b,O' b->O b\/(w.heap.size<=b/\b<w9.heap.size)):KX O' B w9 db K:=by
 have hdb:=(x.slot.lt _ rfl).2
 have h':∀b,dO O' db b->dO O db b\/(w.heap.size<=b/\b<w9.heap.size):=fun b hb=>by
  rcases hb with hb|hb
  ·exact(h b hb).imp .inl id
  ·exact .inl (.inr hb)
 refine⟨x.slot.fr f fun a ha hs=>?_,fun e=>?_,fun fb P F e=>?_,fun b hb=>?_,fun b hb hd=>?_⟩
 ·cases ha;exact x.odis _ (hS _ hs) rfl
 ·obtain⟨a1,⟨M,m1,a2⟩,a3⟩:=x.shut e
  exact⟨a1,⟨M,m1,fun w'' k=>a2 w'' ((f.mono fun b hb=>.inl (hS b hb)).trans k fun b hb=>(h' b hb).imp id (·.1))⟩,a3⟩
 ·obtain⟨a1,a2⟩:=x.opn fb P F e
  exact⟨a1.go f (fun b hb=>.inl (hS b hb)) h',a2⟩
 ·rcases h b hb with g|g
  ·have:=x.olt b g;have:=f.size;omega
  ·exact g.2
 ·subst hd
  rcases h b hb with g|g
  ·exact x.odis b g rfl
  ·have hd:b<w.heap.size:=hdb
   omega
theorem KX.fr{S:Nat->Prop}{w':World}(x:KX O B w db K)(f:Fr S w w')(hS:∀b,S b->O b):KX O B w' db K:=x.go f hS fun b hb=>.inl hb
theorem KX.ext{w':World}(x:KX O B w db K)(e:Ext w w'):KX O B w' db K:=x.fr (zac (S:=fun _=>False) e) fun _ h=>h.elim
theorem KX.hs(x:KX O B w db K)(e:K.farm=none){w':World}(h:Ext w w'):zjg w' K.hp K.L:=by
 obtain⟨_,⟨M,m1,a2⟩,_⟩:=x.shut e
 obtain⟨q1,q2⟩:=a2 w' (zac h)
 rw[<-m1]
 exact hs_of q1 q2
end
def ztV(w:World)(db:Nat)(K K':Kt):Prop:=∀b,KF db K' b->KF db K b\/w.heap.size<=b
theorem zBy(w:World):FnP Tryz.prog ziV #[] w fun v w'=>Ext w w'/\∃db,v=.pointer (ptr db)/\KX (fun b=>b<w.heap.size) w.heap.size w' db ⟨none,0,0,[],none⟩:=by
 refine zwG w _ fun w0 h0=>zbv (by intro v hv;simp at hv;rcases hv with rfl|rfl<;>rfl) fun w1 o1 e1 w2 h2=>⟨(h0.trans e1).trans h2,_,rfl,(o1 _ h0.size).ext h2,fun _=>⟨rfl,⟨[],rfl,fun w'' _=>⟨fun i h hi=>by simp at hi,by simp⟩⟩,⟨by simp,by simp,by simp⟩,by simp⟩,fun fb P F e=>(by cases e),fun b hb=>?_,fun b hb hd=>?_⟩
 ·have hb:b<w.heap.size:=hb
  have:=((h0.trans e1).trans h2).size
  omega
 ·have hb:b<w.heap.size:=hb
  have hd:b=w0.heap.size:=hd
  have:=h0.size;omega
def CR(O:Nat->Prop)(B db:Nat)(w:World)(K:Kt)(R:ByteArray->Int->DS->Prop)(v:Value)(w':World):Prop :=
 ∃(s:ByteArray) (ev:Value) (c:Int) (K':Kt),v=.tuple #[.string s,ev]/\EV ev c/\KX O B w' db K'/\Fr (KF db K) w w'/\ztV w db K K'/\R s c K'.st
theorem zcn{O:Nat->Prop}{B db:Nat}{w w':World}{K:Kt}{R:ByteArray->Int->DS->Prop}(x:KX O B w db K)(e:Ext w w'){s:ByteArray}{ev:Value}{c:Int}(he:EV ev c)(hR:R s c K.st):CR O B db w K R (.tuple #[.string s,ev]) w' :=
 ⟨s,ev,c,K,rfl,he,x.ext e,zac e,fun b hb=>.inl hb,hR⟩
theorem zvV{O:Nat->Prop}{B db:Nat}{w0 w w':World}{K:Kt}{R:ByteArray->Int->DS->Prop}{v:Value}(e:Ext w0 w)(h:CR O B db w K R v w'):CR O B db w0 K R v w':=by
 obtain⟨s,ev,c,K',h1,h2,h3,h4,h5,h6⟩:=h
 exact⟨s,ev,c,K',h1,h2,h3,(zac e).tr h4,fun b hb=>(h5 b hb).imp id fun h=>Nat.le_trans e.size h,h6⟩
theorem CR.mono{O:Nat->Prop}{B db:Nat}{w w':World}{K:Kt}{R R':ByteArray->Int->DS->Prop}{v:Value}(h:CR O B db w K R v w')(k:∀s c σ,R s c σ->R' s c σ):CR O B db w K R' v w':=by
 obtain⟨s,ev,c,K',h1,h2,h3,h4,h5,h6⟩:=h
 exact⟨s,ev,c,K',h1,h2,h3,h4,h5,k _ _ _ h6⟩
theorem zz2:∀(u:Nat),u<=9223372036854775807->Lib.parseUintM 18446744073709551615 0 (Lib.decDigits u)=.ok u:=by
 intro u
 induction u using Nat.strongRecOn with
 |_ u ih =>
  intro hu
  rw[Lib.decDigits]
  split
  ·rename_i h
   simp only[Lib.parseUintM]
   rw[zrn (by omega),if_pos (by omega),if_neg (by omega),if_neg (by omega)]
   congr 1;omega
  ·rename_i h
   rw[zmp _ (ih (u/10) (by omega) (by omega))]
   simp only[Lib.parseUintM]
   rw[zrn (by omega),if_pos (by omega),if_neg (by omega),if_neg (by omega)]
   congr 1;omega
theorem zfk{n:Int}(h0:0<=n)(h1:n<=9223372036854775807):Lib.parseIntB 64 (Lib.itoa n)=.ok n:=by
 rw[zdy h0]
 have hd:=zcK n.toNat
 cases hl:Lib.decDigits n.toNat with
 |nil => exact absurd hl (zop _)
 |cons c r =>
  have hc:=hd c (by rw[hl];exact List.mem_cons_self ..)
  rw[Lib.parseIntB_plain 64 c r (by omega) (by omega),<-hl]
  unfold Lib.parseUintB
  rw[if_neg (zop _),show(2:Nat)^64-1=18446744073709551615 by decide,zz2 _ (by omega)]
  show(if (2:Nat)^(64-1)<=n.toNat then _ else _)=_
  rw[if_neg (by
   have:(2:Nat)^(64-1)=9223372036854775808:=by decide
   omega)]
  congr 1;omega
theorem zB6{m n:Int}(hm:0<=m/\m<=9223372036854775807)(hn:0<=n/\n<=9223372036854775807)(h:Lib.itoa m=Lib.itoa n):m=n:=by
 have:=zfk hm.1 hm.2
 rw[h,zfk hn.1 hn.2] at this
 injection this with e
 exact e.symm
def zFE(s:ByteArray)(n c:Int):Prop:=(c=0/\0<=n/\n<=9223372036854775807/\s=ofL (Lib.itoa n)/\s.size<=18)\/(c=3/\n=0/\∀m:Int,0<=m->m<=9223372036854775807->s=ofL (Lib.itoa m)->¬s.size<=18)
theorem zoW(wp:Option Addr)(wc:Nat)(ws:List ByteArray)(h1:1<ws.length)(hs:(ws.getD 1 ⟨#[]⟩).size<=281474976710656)(w:World)(hw:zat w wp (ws.map Value.string))(g:GB w) :
  FnP Tryz.prog zea #[.slice wp ws.length wc,.int .i64 1] w fun v w'=>Ext w w'/\∃(n:Int) (ev:Value) (c:Int),v=.tuple #[.int .i64 n,ev]/\EV ev c/\zFE (ws.getD 1 ⟨#[]⟩) n c:=by
 have hc:∀{w':World},Ext w w'->Go.Sx.cell w' (pIdx wp 1 1) 0=some (.string (ws.getD 1 ⟨#[]⟩)):=fun e=>by
  rw[zad]
  refine(hw.ext e) 1 _ ?_
  rw[List.getElem?_map,getElem?_getD ws ⟨#[]⟩ h1];rfl
 have np:wp≠none:=fun h=>zal (hc (Ext.refl w)) (zah.2 h)
 generalize ws.getD 1 ⟨#[]⟩=s at hs hc ⊢
 have bad:∀{w1 w8:World},Ext w w1->Ext w1 w8->(∀m:Int,0<=m->m<=9223372036854775807->s=ofL (Lib.itoa m)->¬s.size<=18) ->
   Run Tryz.prog (.makeInterface 24 (.int .i64 3)) w8 fun v9 w9=>Ext w8 w9/\∃t10:Value,v9=t10/\Value.oneCell' t10=true/\∀w11,Ext w9 w11 ->
    Run Tryz.prog (.makeInterface 257 (.agg #[.int .i64 1,t10])) w11 fun v12 w12=>Ext w11 w12/\∃t13:Value,v12=t13/\∀w14,Ext w12 w14 ->
     Ext w w14/\∃(n:Int) (ev:Value) (c:Int),Value.tuple #[.int .i64 0,t13]=.tuple #[.int .i64 n,ev]/\EV ev c/\zFE s n c:=fun x1 x8 hno =>
  zt8 ⟨Ext.refl _,_,rfl,rfl,fun w11 h11=>zzU ⟨Ext.refl _,_,rfl,fun w14 h14=>⟨((x1.trans x8).trans h11).trans h14,0,_,3,rfl,zzC (by decide),.inr ⟨rfl,rfl,hno⟩⟩⟩⟩
 refine zo3 wp ws.length wc 1 w _ ⟨np,by omega,by omega,_,hc (Ext.refl w),fun w1 x1=>(ziZ s hs w1 (g.ext x1)).mono fun v w2 ⟨e2,n,ev,hv,hcase⟩=>⟨e2,n,ev,hv,fun w5 h5=>?_⟩⟩
 have x2:=x1.trans e2
 refine ziz (by kernel_rfl) (hcase.elim (fun h=>.inl h.1) fun h=>.inr h.1) fun t ht=>⟨Ext.refl _,t,rfl,fun _=>np,fun _=>by omega,fun _=>by omega,fun htt w8 h8=>bad x2 h8 fun m h0 h63 hm=>?_,fun htf=>⟨_,hc x2,fun _=>np,fun _=>by omega,fun _=>by omega,fun hgt w9 h9=>bad x2 h9 fun m _ _ _=>by omega,fun hle=>⟨_,hc x2,fun w10 h10=>?_⟩⟩⟩
 ·exfalso
  have hp:=zfk (n:=m) h0 h63
  have hsd:s.data.toList=Lib.itoa m:=by rw[hm];rfl
  rw[hsd] at hcase
  rcases hcase with⟨q1,q2⟩|⟨_,q2⟩
  ·rw[ht.2 q1] at htt;cases htt
  ·exact q2 _ hp
 ·obtain⟨hev,hpar⟩:ev=.nilIface/\Lib.parseIntB 64 s.data.toList=.ok n:=by
   rcases hcase with h|⟨⟨a,b,h⟩,_⟩
   ·exact h
   ·have:=ht.1 htf
    rw[h] at this;cases this
  have hb:=zhd (zgE hpar)
  refine(zn9 n hb w10 ((g.ext x2).ext h10)).mono fun v w11 ⟨e11,hv⟩=>⟨e11,_,hv,fun hor w13 h13=>bad x2 h13 fun m h0 h63 hm=>?_,fun hand w13 h13=>⟨x2.trans h13,n,_,0,rfl,ev0,.inl ⟨rfl,hand.2,hb.2,hand.1.symm,by omega⟩⟩⟩
  exfalso
  have hp:=zfk (n:=m) h0 h63
  have hsd:s.data.toList=Lib.itoa m:=by rw[hm];rfl
  rw[hsd] at hpar
  have:n=m:=by rw[hp] at hpar;injection hpar with hpar;exact hpar.symm
  subst this
  rcases hor with h|h
  ·exact h hm.symm
  ·omega
section
variable {O:Nat->Prop} {B db:Nat} {w:World} {K:Kt}
theorem KX.turn(x:KX O B w db K){fb:Nat}{P P':Pl}{F G:Fm}(hK:K.farm=some (fb,P,F)){w':World}(y:FXO (dO O db) B w' fb P' G)(f:Fr (ft fb P.jp) w w')(hg:∀b,ft fb P'.jp b->ft fb P.jp b\/w.heap.size<=b)(I:Inv G)(W:WOk G) :
  KX O B w' db { K with farm:=some (fb,P',G) }/\Fr (KF db K) w w'/\ztV w db K { K with farm:=some (fb,P',G) }:=by
 have hx:=(x.opn fb P F hK).1
 refine⟨⟨?_,fun e=>(by cases e),fun fb' P1 F1 e=>?_,fun b hb=>Nat.lt_of_lt_of_le (x.olt b hb) f.size,x.odis⟩,f.mono fun b hb=>.inr ⟨fb,P,F,hK,hb⟩,fun b hb=>?_⟩
 ·have:dcs { K with farm:=some (fb,P',G) }=dcs K:=by simp[dcs,Kt.fp,hK]
  rw[this]
  exact x.slot.fr f fun a ha hs=>(by cases ha;exact hx.odis _ (.inr rfl) hs)
 ·injection e with e
  obtain⟨rfl,rfl,rfl⟩:fb=fb'/\P'=P1/\G=F1:=by simpa using e
  exact⟨y,I,W⟩
 ·rcases hb with rfl|⟨fb',P1,F1,e,h⟩
  ·exact .inl (.inl rfl)
  ·injection e with e
   obtain⟨rfl,rfl,rfl⟩:fb=fb'/\P'=P1/\G=F1:=by simpa using e
   exact(hg b h).imp (fun h=>.inr ⟨fb,P,F,hK,h⟩) id
theorem KX.fbp(x:KX O B w db K){fb:Nat}{P:Pl}{F:Fm}(hK:K.farm=some (fb,P,F)):Go.Sx.cell w (pAdd (ptr db) 1) 0=some (.pointer (ptr fb)):=by
 have:=x.fp
 unfold Kt.fp at this
 rw[hK] at this
 exact this
theorem KX.nofp(x:KX O B w db K)(hK:K.farm=none):Go.Sx.cell w (pAdd (ptr db) 1) 0=some (.pointer none):=by
 have:=x.fp
 unfold Kt.fp at this
 rw[hK] at this
 exact this
theorem Kt.st_opn{K:Kt}{fb:Nat}{P:Pl}{F:Fm}(hK:K.farm=some (fb,P,F)):K.st=.opn F:=by unfold Kt.st;rw[hK]
theorem Kt.st_shut{K:Kt}(hK:K.farm=none):K.st=.shut K.L:=by unfold Kt.st;rw[hK]
theorem Kt.cases(K:Kt):K.farm=none\/∃fb P F,K.farm=some (fb,P,F):=by
 cases h:K.farm with
 |none => exact .inl rfl
 |some y => exact .inr ⟨y.1,y.2.1,y.2.2,rfl⟩
end
def NR(O:Nat->Prop)(B db:Nat)(w:World)(K:Kt)(R:Int->DS->Prop)(v:Value)(w':World):Prop :=
 ∃(e:Int) (K':Kt),v=.int .i64 e/\KX O B w' db K'/\Fr (KF db K) w w'/\ztV w db K K'/\R e K'.st
theorem zJh{O:Nat->Prop}{B db:Nat}{w w' w'':World}{K:Kt}{R:Int->DS->Prop}{v:Value}(h:NR O B db w K R v w')(e:Ext w' w''):NR O B db w K R v w'':=by
 obtain⟨c,K',h1,h3,h4,h5,h6⟩:=h
 exact⟨c,K',h1,h3.ext e,h4.tr (zac e),h5,h6⟩
theorem zsd{O:Nat->Prop}{B db:Nat}{w0 w w':World}{K:Kt}{R:Int->DS->Prop}{v:Value}(e:Ext w0 w)(h:NR O B db w K R v w'):NR O B db w0 K R v w':=by
 obtain⟨c,K',h1,h3,h4,h5,h6⟩:=h
 exact⟨c,K',h1,h3,(zac e).tr h4,fun b hb=>(h5 b hb).imp id fun h=>Nat.le_trans e.size h,h6⟩
theorem zse{O:Nat->Prop}{B db:Nat}{w w':World}{K:Kt}{R:Int->DS->Prop}(x:KX O B w db K)(e:Ext w w'){c:Int}(hR:R c K.st):NR O B db w K R (.int .i64 c) w' :=
 ⟨c,K,rfl,x.ext e,zac e,fun b hb=>.inl hb,hR⟩
theorem zGp{F:Fm}(I:Inv F){n:Int}(h:0<=n/\n<=1000000000/\F.now+n<=1099511627776):Inv { F with now:=F.now+n }:=by
 have hn:=I.i0.now
 exact⟨⟨I.i0.aft,I.i0.pol,by show 0<=F.now+n/\F.now+n<=1099511627776;omega,I.i0.hs,I.i0.nd,I.i0.hrun,by
  intro i hi p hp
  have:=I.i0.use i hi p hp
  have e:∀m,use { F with now:=F.now+n } i p m=use F i p m:=fun m=>by
   induction m with
   |zero => rfl
   |succ n ih => unfold use;rw[ih];rfl
  rw[e];exact this,I.i0.ahead,I.i0.tries⟩,I.wt⟩
def zBl(F:Fm)(n:Int):Prop:=0<=n/\n<=1000000000/\F.now+n<=1099511627776
def zsK(F:Fm)(n e:Int)(σ:DS):Prop:=(e=4/\¬zBl F n/\σ=.opn F)\/(e=0/\zBl F n/\σ=.opn { F with now:=F.now+n })
def zBk(F:Fm)(id:Int):Prop:=inJ F id/\(zaf F (id-1).toNat).what=2
def zGK(F:Fm)(id:Int):Prop:=inJ F id/\((zaf F (id-1).toNat).what=1\/(zaf F (id-1).toNat).what=2)
def zvx(ok:Bool)(F:Fm)(id e:Int)(σ:DS):Prop:=(e≠0/\zs4 F id e/\¬zBk F id/\σ=.opn F)\/(e=0/\zBk F id/\σ=.opn (zs8 F (id-1).toNat ok))
def zEC(F:Fm)(id e:Int)(σ:DS):Prop:=(e≠0/\zs4 F id e/\¬zGK F id/\σ=.opn F)\/(e=0/\zGK F id/\σ=.opn (zzn F (id-1).toNat))
section
variable {O:Nat->Prop} {B db:Nat} {w:World} {K:Kt} {fb:Nat} {P:Pl} {F:Fm} {pb:Option Addr}
theorem tick_c(x:KX O B w db K)(hK:K.farm=some (fb,P,F))(hpb:Go.Sx.cell w pb 0=some (.pointer (ptr db)))(n:Int) :
  FnP Tryz.prog zdM #[.int .i64 n,.pointer pb] w (NR O B db w K (zsK F n)):=by
 have ne:=zaG db
 refine zhi n pb w _ ⟨_,hpb,ne,ne,_,x.fbp hK,fun w2 x2=>?_⟩
 have y:=x.ext x2
 obtain⟨fx,I,W⟩:=y.opn fb P F hK
 refine(zHm fx I.i0.now n).mono fun v w3 ⟨e,hv,hor,hiff⟩=>⟨e,hv,fun w5 h5=>zsd x2 (zJh ?_ h5)⟩
 rcases hor with⟨hne,he,h3⟩|⟨he,hc,fx',f⟩
 ·exact zse y h3 (.inl ⟨he,fun h=>hne (hiff.2 h),by rw[Kt.st_opn hK]⟩)
 ·obtain⟨a1,a2,a3⟩:=y.turn (P':=P) hK fx' f (fun b hb=>.inl hb) (zGp I hc) (W.tick _)
  exact⟨e,_,rfl,a1,a2,a3,.inr ⟨he,hc,rfl⟩⟩
theorem zGT(x:KX O B w db K)(hK:K.farm=some (fb,P,F))(hpb:Go.Sx.cell w pb 0=some (.pointer (ptr db)))(n:Int)(hn:InR .i64 n)(ok:Bool){f:FuncId}(hf:(ok=true/\f=zdN)\/(ok=false/\f=zdO)) :
  FnP Tryz.prog f #[.int .i64 n,.pointer pb] w (NR O B db w K (zvx ok F n)):=by
 have ne:=zaG db
 have fin:∀{w5:World},Ext w w5->FnP Tryz.prog zbf #[.pointer (ptr fb),.int .i64 n,.bool ok] w5 fun v6 w6=>∃t7:Int,v6=.int .i64 t7/\∀w8,Ext w6 w8->NR O B db w K (zvx ok F n) (.int .i64 t7) w8:=fun {w5} x5=>by
  have y:=x.ext x5
  obtain⟨fx,I,W⟩:=y.opn fb P F hK
  refine(zyM fx I.i0.pre n hn ok).mono fun v w3 ⟨e,hv,hiff,hor⟩=>⟨e,hv,fun w8 h8=>zsd x5 (zJh ?_ h8)⟩
  rcases hor with⟨hne,hE,h3⟩|⟨he,P',hjp,fx',f⟩
  ·exact zse y h3 (.inl ⟨hne,hE,fun h=>hne (hiff.2 h),by rw[Kt.st_opn hK]⟩)
  ·have hc:=hiff.1 he
   obtain⟨a1,a2,a3⟩:=y.turn hK fx' f (fun b hb=>.inl (by rw[hjp] at hb;exact hb)) (zCX I (zqX hc.1) hc.2 ok) (W.rep _ ok)
   exact⟨e,_,rfl,a1,a2,a3,.inr ⟨he,hc,rfl⟩⟩
 have sm:∀(w2:World)(R:Value->World->Prop),(∀w3,Ext w2 w3->R (.int .i64 n) w3)->FnP Tryz.prog zeg #[.int .i64 n] w2 R:=fun w2 R h=>zk6 n w2 R h
 rcases hf with⟨rfl,rfl⟩|⟨rfl,rfl⟩
 ·exact zhj n pb w _ ⟨_,hpb,ne,ne,_,x.fbp hK,fun w2 x2=>sm w2 _ fun w3 h3=>⟨h3,n,rfl,fun w5 x5=>fin x5⟩⟩
 ·exact zhk n pb w _ ⟨_,hpb,ne,ne,_,x.fbp hK,fun w2 x2=>sm w2 _ fun w3 h3=>⟨h3,n,rfl,fun w5 x5=>fin x5⟩⟩
theorem zEG(x:KX O B w db K)(hK:K.farm=some (fb,P,F))(hpb:Go.Sx.cell w pb 0=some (.pointer (ptr db)))(n:Int)(hn:InR .i64 n) :
  FnP Tryz.prog zdP #[.int .i64 n,.pointer pb] w (NR O B db w K (zEC F n)):=by
 have ne:=zaG db
 refine zhl n pb w _ ⟨_,hpb,ne,ne,_,x.fbp hK,fun w2 x2=>zk6 n _ _ fun w3 h3=>⟨h3,n,rfl,fun w5 x5=>?_⟩⟩
 have y:=x.ext x5
 obtain⟨fx,I,W⟩:=y.opn fb P F hK
 refine(zxQ fx I.i0.pre n hn).mono fun v w3 ⟨e,hv,hiff,hor⟩=>⟨e,hv,fun w8 h8=>zsd x5 (zJh ?_ h8)⟩
 rcases hor with⟨hne,hE,h3⟩|⟨he,P',hjp,fx',f⟩
 ·exact zse y h3 (.inl ⟨hne,hE,fun h=>hne (hiff.2 h),by rw[Kt.st_opn hK]⟩)
 ·have hc:=hiff.1 he
  obtain⟨a1,a2,a3⟩:=y.turn hK fx' f (fun b hb=>.inl (by rw[hjp] at hb;exact hb)) (zBm I (zqX hc.1) hc.2) (W.can _)
  exact⟨e,_,rfl,a1,a2,a3,.inr ⟨he,hc,rfl⟩⟩
end
def zJe(R:Fm->Int->Int->DS->Prop)(σ:DS)(n e:Int)(σ':DS):Prop:=match σ with
 |.shut L => e=9/\σ'=.shut L
 |.opn F => R F n e σ'
def zpl(R:Fm->Int->Int->DS->Prop)(word:ByteArray)(σ:DS)(s:ByteArray)(c:Int)(σ':DS):Prop :=
 ∃n c1,zFE word n c1/\((c1≠0/\c=c1/\σ'=σ)\/(c1=0/\s=⟨#[111,107]⟩/\zJe R σ n c σ'))
section
variable {O:Nat->Prop} {B db:Nat} {w:World} {K:Kt}
theorem zf2{w:World}{p:Addr}{v:Value}(h:w.cell? p=some v):Go.Sx.cell w (some p) 0=some v:=by
 have:p.add 0=p:=add_zero p
 show w.cell? (p.add 0)=some v
 rw[this];exact h
theorem zyP(x:KX O B w db K){pb:Addr}{f:FuncId}{v:Value}(hv:zc0 pb f v w)(hpb:w.cell? pb=some (.pointer (ptr db)))(g:GB w)
  (R:Fm->Int->Int->DS->Prop) (wp:Option Addr) (wc:Nat) (ws:List ByteArray) (h1:1<ws.length) (hs:(ws.getD 1 ⟨#[]⟩).size<=281474976710656) (hw:zat w wp (ws.map Value.string))
  (hf:∀{w1:World}{fb:Nat}{P:Pl}{F:Fm}(n:Int),Ext w w1->InR .i64 n->K.farm=some (fb,P,F)->FnP Tryz.prog f #[.int .i64 n,.pointer (some pb)] w1 (NR O B db w1 K (R F n))) :
  ∃f' cap,v=.func (.func f') #[] cap/\FnP Tryz.prog f' (#[.slice wp ws.length wc]++cap) w (CR O B db w K (zpl R (ws.getD 1 ⟨#[]⟩) K.st)):=by
 obtain⟨p2,p1,rfl,c2,u,c1,p3,rfl,c3⟩:=hv
 refine⟨_,_,rfl,zfR wp ws.length wc (some p2) w _ fun w0 x0=>(zoW wp wc ws h1 hs w0 (hw.ext x0) (g.ext x0)).mono fun v w1 ⟨e1,n,ev,c,hv,he,hn⟩=>⟨e1,n,ev,hv,fun w4 h4=>neE he fun b hb=>⟨Ext.refl _,b,rfl,fun hbt w7 h7=>?_,fun hbf=>?_⟩⟩⟩
 ·have hc:c≠0:=fun h=>by rw[hb.2 h] at hbt;cases hbt
  exact zcn x ((x0.trans e1).trans h7) he ⟨n,c,hn,.inl ⟨hc,rfl,rfl⟩⟩
 ·have hc:c=0:=hb.1 hbf
  have x1:=x0.trans e1
  refine⟨_,zf2 ((Cst.of_ext x1).cell c2),fun w8 h8=>⟨204,#[.pointer (some p1)],rfl,zf7 n (some p1) w8 _ ?_⟩⟩
  have x8:=x1.trans h8
  refine⟨_,zf2 ((Cst.of_ext x8).cell c1),fun w9 h9=>⟨207,#[.pointer (some pb),.pointer (some p3)],rfl,?_⟩⟩
  have x9:=x8.trans h9
  have hni:InR .i64 n:=by
   rcases hn with⟨_,a,b,_⟩|⟨h,_⟩
   ·exact i64 (by omega)
   ·omega
  have fin:∀{w2:World}{v2:Value},NR O B db w K (zJe R K.st n) v2 w2->∃t3:Int,v2=.int .i64 t3/\∀w4,Ext w2 w4->FnP Tryz.prog zb0 #[.int .i64 t3] w4 fun v5 w5=>Ext w4 w5/\∃t6:Value,v5=t6/\∀w7,Ext w5 w7 ->
    ∃t10:ByteArray,∃t11:Value,Value.tuple #[.string (⟨#[111,107]⟩:ByteArray),t6]=.tuple #[.string t10,t11]/\∀w12,Ext w7 w12->CR O B db w K (zpl R (ws.getD 1 ⟨#[]⟩) K.st) (.tuple #[.string t10,t11]) w12:=fun {w2 v2} hN=>by
   obtain⟨e,K',rfl,hX,hF,hG,hR⟩:=hN
   refine⟨e,rfl,fun w4 h4=>(zpG e w4).mono fun v w5 ⟨e5,hE⟩=>⟨e5,v,rfl,fun w7 h7=>⟨_,v,rfl,fun w12 h12=>?_⟩⟩⟩
   have hx:=((h4.trans e5).trans h7).trans h12
   exact⟨_,v,e,K',rfl,hE,hX.ext hx,hF.tr (zac hx),hG,n,c,hn,.inr ⟨hc,rfl,hR⟩⟩
  have ne:=zaG db
  refine zf8 n (some pb) (some p3) w9 _ ⟨_,zf2 ((Cst.of_ext x9).cell hpb),ne,ne,?_⟩
  rcases K.cases with hK|⟨fb,P,F,hK⟩
  ·refine⟨none,(x.ext x9).nofp hK,fun _ w2 h2=>fin (zse x (x9.trans h2) ?_),fun h=>absurd rfl h⟩
   rw[Kt.st_shut hK]
   exact⟨rfl,rfl⟩
  ·refine⟨ptr fb,(x.ext x9).fbp hK,fun h=>absurd h (zaG fb),fun _=>⟨_,zf2 ((Cst.of_ext x9).cell c3),fun w3 h3=>⟨f,#[.pointer (some pb)],rfl,(hf n (x9.trans h3) hni hK).mono fun v w4 hN=>?_⟩⟩⟩
   have hN':=zsd (x9.trans h3) hN
   obtain⟨e,K',rfl,hX,hF,hG,hR⟩:=hN'
   refine⟨e,rfl,fun w6 h6=>fin ⟨e,K',rfl,hX.ext h6,hF.tr (zac h6),hG,?_⟩⟩
   rw[Kt.st_opn hK];exact hR
end
theorem FXO.low'{O:Nat->Prop}{B B' fb:Nat}{w:World}{P:Pl}{F:Fm}(x:FXO O B w fb P F)(h:B'<=B):FXO O B' w fb P F:=⟨x.slot.weak h,x.arr.weak h,x.map,x.hs,x.js,x.ap,x.hO,x.jO,x.olt,x.odis⟩
def zAx:Pol:=⟨10,2,100,3⟩
theorem okdp:zoY zAx:=by unfold zoY okP zAx;decide
def zuA(σ:DS)(c:Int)(s:ByteArray)(σ':DS):Prop:=match σ with
 |.shut L => c=0/\s=⟨#[111,107]⟩/\σ'=.opn (zr7 L zAx)
 |.opn F => c=9/\σ'=.opn F
section
variable {O:Nat->Prop} {B db:Nat} {w:World} {K:Kt}
theorem open_c(x:KX O B w db K)(hB:B<=w.heap.size)(a1:Option Addr)(n1 c1:Nat):FnP Tryz.prog zhM #[.pointer (ptr db),.slice a1 n1 c1] w (CR O B db w K fun s c σ'=>zuA K.st c s σ'):=by
 have ne:=zaG db
 refine zme (ptr db) a1 n1 c1 w _ ⟨ne,ne,?_⟩
 rcases K.cases with hK|⟨fb,P,F,hK⟩
 ·refine⟨none,x.nofp hK,fun h=>absurd rfl h,fun _=>⟨ne,ne,_,_,_,x.cell (i:=0) rfl,fun w4 x4=>?_⟩⟩
  obtain⟨hn,_,hok,hO⟩:=x.shut hK
  rw[hn]
  have h30:=hok.1
  refine(fNew_k K.hp K.hc K.L (by omega) (fun h hh=>(hO h hh).1) zAx w4 (x.hs hK x4)).mono fun v w5 ⟨e5,q,e,hv,hiff,hno,hyes⟩=>⟨e5,q,e,hv,fun hne=>?_,fun hz=>⟨ne,ne,?_⟩⟩
  ·have:zz0 K.L zAx:=⟨hok,fun h hh=>(hO h hh).2,okdp⟩
   exact absurd (hiff.2 this) hne
  obtain⟨fb,P,rfl,fx⟩:=hyes hz
  have x5:=x4.trans e5
  have y5:=x.ext x5
  have hdb4:db<w4.heap.size:=by have:=(x.slot.lt _ rfl).2;have:=x4.size;exact Nat.lt_of_lt_of_le (x.slot.lt _ rfl).2 x4.size
  refine zcd (off:=1) y5.slot (by simp) rfl (by simp) fun w8 o8 g8 w9 h9=>?_
  have f8:Fr (fun b=>b=db) w5 w8:=zaR g8 fun a ha=>by cases ha;rfl
  have fx9:FXO (dO O db) B w9 fb P (zr7 K.L zAx):=by
   refine FXO.low' (((fx.fr f8 fun b hb=>?_).ext h9).less fun b hb=>?_) (Nat.le_trans hB x4.size)
   ·show b<w4.heap.size
    have hb:b=db:=hb
    omega
   ·show b<w4.heap.size
    rcases hb with hb|hb
    ·have:=x.olt b hb;have:=x4.size;omega
    ·omega
  have hft:∀b,ft fb P.jp b->w4.heap.size<=b:=fun b hb=>(fx.foot hb).1
  refine⟨_,_,0,{ K with farm:=some (fb,P,zr7 K.L zAx) },rfl,ev0,⟨?_,fun e=>(by cases e),fun fb' P1 F1 e=>?_,fun b hb=>Nat.lt_of_lt_of_le (x.olt b hb) ?_,x.odis⟩,?_,fun b hb=>?_,?_⟩
  ·have:dcs { K with farm:=some (fb,P,zr7 K.L zAx) }=(dcs K).set 1 (.pointer (ptr fb)):=by simp[dcs,Kt.fp]
   rw[this];exact o8.ext h9
  ·injection e with e
   obtain⟨rfl,rfl,rfl⟩:fb=fb'/\P=P1/\zr7 K.L zAx=F1:=by simpa using e
   exact⟨fx9,zJf ⟨hok,fun h hh=>(hO h hh).2,okdp⟩,fun s hs=>by cases hs⟩
  ·exact Nat.le_trans (Nat.le_trans x5.size f8.size) h9.size
  ·exact((zac x5).tr (f8.mono fun b hb=>.inl hb)).tr (zac h9)
  ·rcases hb with rfl|⟨fb',P1,F1,e,h⟩
   ·exact .inl (.inl rfl)
   ·injection e with e
    obtain⟨rfl,rfl,rfl⟩:fb=fb'/\P=P1/\zr7 K.L zAx=F1:=by simpa using e
    have:=hft b h
    have:=x4.size
    exact .inr (by omega)
  ·rw[Kt.st_shut hK]
   exact⟨rfl,rfl,rfl⟩
 ·refine⟨_,x.fbp hK,fun _ w1 x1=>zt8 ⟨Ext.refl _,_,rfl,fun w4 h4=>zcn x (x1.trans h4) (zE5 (by decide)) ?_⟩,fun h=>absurd h (zaG fb)⟩
  rw[Kt.st_opn hK]
  exact⟨rfl,rfl⟩
def zAb(word:ByteArray)(σ:DS)(c:Int)(s:ByteArray)(σ':DS):Prop:=σ'=σ/\∃n c1,zFE word n c1/\((c1≠0/\c=c1)\/(c1=0/\match σ with
 |.shut _ => c=9
 |.opn F => (inJ F n/\c=0/\s=zqk.getD (zaf F (n-1).toNat).what.toNat ⟨#[]⟩)\/(¬inJ F n/\c=5)))
theorem zJF(x:KX O B w db K){fb:Nat}{P:Pl}{F:Fm}(hK:K.farm=some (fb,P,F))(g:GD w)(n:Int)(hn:InR .i64 n):FnP Tryz.prog zex #[.pointer (ptr db),.int .i64 n] w fun v w'=>Ext w w'/\∃s ev c,v=.tuple #[.string s,ev]/\EV ev c /\
  ((inJ F n/\c=0/\s=zqk.getD (zaf F (n-1).toNat).what.toNat ⟨#[]⟩)\/(¬inJ F n/\c=5)):=by
 have ne:=zaG db
 refine zmg (ptr db) n w _ ⟨ne,ne,_,x.fbp hK,fun w1 x1=>?_⟩
 obtain⟨fx,I,W⟩:=(x.ext x1).opn fb P F hK
 refine(Jobs_k fx).mono fun v w2 ⟨e2,p,c,R,hv,hR,hJ⟩=>⟨e2,p,_,c,hv,?_⟩
 have hl:R.length=F.jobs.length:=by have:=congrArg List.length hR;simpa using this
 rw[hl]
 have x2:=x1.trans e2
 refine⟨fun hor w6 h6=>zt8 ⟨Ext.refl _,_,rfl,fun w9 h9=>⟨(x2.trans h6).trans h9,_,_,5,rfl,zE5 (by decide),.inr ⟨fun h=>by have:=h.1;have:=h.2;omega,rfl⟩⟩⟩,fun⟨h1,h2⟩=>⟨i64 (by have:=zhd hn;omega),?_⟩⟩
 obtain⟨r,hr,hp,hp16,hcs,_⟩:=hJ.st (k:=n-1) (by omega) (by omega)
 have hj:zaf F (n-1).toNat=r.s:=by
  unfold zaf
  rw[List.getD_eq_getElem?_getD,<-hR,List.getElem?_map,hr];rfl
 have hm:r.s∈F.jobs:=by rw[<-hR];exact List.mem_map_of_mem (List.mem_of_getElem? hr)
 obtain⟨w1',w5'⟩:=W r.s hm
 have g2:=g.ext x2
 have hwh:Go.Sx.cell w2 (pIdx (some (⟨4,0,none⟩:Addr)) r.s.what 1) 0=some (.string (zqk.getD r.s.what.toNat ⟨#[]⟩)):=by
  rw[zad]
  refine g2.whats _ _ ?_
  have hlt:r.s.what.toNat<zqk.length:=by show r.s.what.toNat<6;omega
  simp only[List.getElem?_map,Nat.mul_one,Nat.add_zero]
  rw[getElem?_getD zqk ⟨#[]⟩ hlt];rfl
 refine⟨hp,by omega,by omega,hp16,r.s.what,by rw[zam];exact hcs 11 _ rfl,by simp,by omega,by omega,_,hwh,fun w8 h8=>⟨x2.trans h8,_,_,0,rfl,ev0,.inl ⟨⟨h1,h2⟩,rfl,by rw[hj]⟩⟩⟩
theorem show_c(x:KX O B w db K){pb:Addr}{v:Value}(hv:zmV pb v w)(hpb:w.cell? pb=some (.pointer (ptr db)))(g:GD w)
  (wp:Option Addr) (wc:Nat) (ws:List ByteArray) (h1:1<ws.length) (hs:(ws.getD 1 ⟨#[]⟩).size<=281474976710656) (hw:zat w wp (ws.map Value.string)) :
  ∃f' cap,v=.func (.func f') #[] cap/\FnP Tryz.prog f' (#[.slice wp ws.length wc]++cap) w (CR O B db w K fun s c σ'=>zAb (ws.getD 1 ⟨#[]⟩) K.st c s σ'):=by
 obtain⟨p2,rfl,c2⟩:=hv
 refine⟨_,_,rfl,zfR wp ws.length wc (some p2) w _ fun w0 x0=>(zoW wp wc ws h1 hs w0 (hw.ext x0) (g.gb.ext x0)).mono fun v w1 ⟨e1,n,ev,c,hv,he,hn⟩=>⟨e1,n,ev,hv,fun w4 h4=>neE he fun b hb=>⟨Ext.refl _,b,rfl,fun hbt w7 h7=>?_,fun hbf=>?_⟩⟩⟩
 ·have hc:c≠0:=fun h=>by rw[hb.2 h] at hbt;cases hbt
  exact zcn x ((x0.trans e1).trans h7) he ⟨rfl,n,c,hn,.inl ⟨hc,rfl⟩⟩
 have hc:c=0:=hb.1 hbf
 have x1:=x0.trans e1
 have hni:InR .i64 n:=by
  rcases hn with⟨_,a,b,_⟩|⟨h,_⟩
  ·exact i64 (by omega)
  ·omega
 refine⟨_,zf2 ((Cst.of_ext x1).cell c2),fun w8 h8=>⟨218,#[.pointer (some pb)],rfl,zhm n (some pb) w8 _ fun w9 h9=>zbv (by simp[Value.oneCell']) fun w10 o10 e10=>?_⟩⟩
 have x10:=((x1.trans h8).trans h9).trans e10
 have cn:∀{w':World},Ext w10 w'->Go.Sx.cell w' (some ⟨w9.heap.size,0,none⟩) 0=some (.int .i64 n):=fun e=>(((o10 _ (Nat.le_refl _)).cells).ext e) 0 _ rfl
 have cpb:∀{w':World},Ext w w'->Go.Sx.cell w' (some pb) 0=some (.pointer (ptr db)):=fun e=>zf2 ((Cst.of_ext e).cell hpb)
 have ne:=zaG db
 refine⟨_,cpb x10,ne,ne,?_⟩
 rcases K.cases with hK|⟨fb,P,F,hK⟩
 ·refine⟨none,(x.ext x10).nofp hK,fun w11 h11=>zjB true _ w11 _ ⟨fun _ w12 h12=>zt8 ⟨Ext.refl _,_,rfl,fun w13 h13=>⟨h12.trans h13,_,_,rfl,fun w14 h14=>⟨_,_,rfl,fun w15 h15=>?_⟩⟩⟩,fun h=>(by cases h)⟩⟩
  refine zcn x ((((((x10.trans h11).trans h12).trans h13).trans h14)).trans h15) (zE5 (c:=9) (by decide)) ⟨rfl,n,c,hn,.inr ⟨hc,?_⟩⟩
  rw[Kt.st_shut hK]
 ·refine⟨ptr fb,(x.ext x10).fbp hK,fun w11 h11=>zjB false _ w11 _ ⟨fun h=>(by cases h),fun _ w12 h12=>⟨220,_,rfl,?_⟩⟩⟩
  have x12:=(x10.trans h11).trans h12
  refine zf9 (some pb) (some ⟨w9.heap.size,0,none⟩) w12 _ ⟨_,cpb x12,_,cn (h11.trans h12),fun w13 h13=>?_⟩
  refine(zJF (x.ext (x12.trans h13)) hK (g.ext (x12.trans h13)) n hni).mono fun v w14 ⟨e14,s,ev',c',hv,hE,hcs⟩=>⟨e14,s,ev',hv,fun w15 h15=>⟨(h13.trans e14).trans h15,s,ev',rfl,fun w16 h16=>⟨(h12.trans ((h13.trans e14).trans h15)).trans h16,s,ev',rfl,fun w17 h17=>⟨s,ev',rfl,fun w18 h18=>?_⟩⟩⟩⟩
  refine zcn x ((((((((x12.trans h13).trans e14).trans h15).trans h16).trans h17)).trans h18)) hE ⟨rfl,n,c,hn,.inr ⟨hc,?_⟩⟩
  rw[Kt.st_opn hK]
  exact hcs
end
theorem zAI(L:List ByteArray)(c:UInt8)(p:Option Addr)(d:Nat)(hd:L.length<=d)(w:World)(hw:zat w p (L.map Value.string))(hlen:(Lib.join (L.map (·.data.toList)) [c]).length<=140737488355327)(hL:L.length<=140737488355328) :
  FnP Tryz.prog za7 #[.slice p L.length d,.string (one c)] w fun v w'=>Ext w w'/\v=.string (ofL (Lib.join (L.map (·.data.toList)) [c])):=by
 refine⟨fun args w=>Tryz.call173 args w,?_⟩
 cases L with
 |nil =>
  refine(Tryz.strings_Join_none p d (one c) w).mono fun e w' ⟨he,hw'⟩=>⟨_,he,by rw[hw'];exact Ext.refl w,rfl⟩
 |cons x r =>
  have h0:=hw 0 (.string x) rfl
  obtain⟨a,rfl,hb,hc⟩:=zdu h0
  have hsp:a.spot=none:=by
   unfold World.cell? at hc
   cases hq:w.heap[(a.add 0).block]? with
   |none => simp[hq] at hc
   |some o =>
    cases o with
    |cells cs t f =>
     rw[hq] at hc
     simp only at hc
     by_cases hs:(a.add 0).spot.isSome=true
     ·rw[if_pos hs] at hc;cases hc
     ·have:(a.add 0).spot=a.spot:=rfl
      rw[this] at hs
      simpa using hs
    |_ => simp[hq] at hc
  obtain⟨bk,off,sp⟩:=a
  have hsp:sp=none:=hsp
  subst hsp
  have hbk:bk<w.heap.size:=hb
  refine(Tryz.strings_Join bk off d (x::r) (one c) w (fun j y hy=>?_) hbk hL hd (by show(Lib.join ((x::r).map (·.data.toList)) [c]).length<=_;omega)).mono fun e w' ⟨he,hw'⟩=>⟨_,he,hw',rfl⟩
  have hcell:=hw j (.string y) (by rw[List.getElem?_map,hy];rfl)
  simp only[cell,Option.bind_some] at hcell
  have ha:(Addr.add ⟨bk,off,none⟩ j)=⟨bk,off+j,none⟩:=by simp[Addr.add]
  rwa [ha] at hcell
def zgJ(L:List Ht)(o:Int×Int):List UInt8:=Lib.itoa o.1++64::(L.getD o.2.toNat default).name.data.toList
def zsG(G:Fm)(outs:List (Int×Int)):List UInt8:=Lib.join (outs.map (zgJ G.hosts)) [32]
theorem zCS{F G:Fm}{ids:List Int}{outs:List (Int×Int)}(h:zpO F ids G outs):(∀o∈outs,o.1∈ids/\0<=o.2/\o.2<F.hosts.length)/\G.hosts.length=F.hosts.length:=by
 induction h with
 |nil F => exact⟨fun o ho => by simp at ho,rfl⟩
 |skip _ _ ih => exact⟨fun o ho => ⟨List.mem_cons_of_mem _ (ih.1 o ho).1,(ih.1 o ho).2⟩,ih.2⟩
 |@run F F' id k ids out hb _ ih =>
  have e:(zs9 F (id-1).toNat k).hosts.length=F.hosts.length:=by rw[zpk];unfold zlm;simp
  obtain⟨b0,b1,_⟩:=ztl hb
  refine⟨fun o ho=>?_,by rw[ih.2,e]⟩
  rcases List.mem_cons.1 ho with rfl|ho
  ·exact⟨List.mem_cons_self,b0,b1⟩
  ·have:=ih.1 o ho
   rw[e] at this
   exact⟨List.mem_cons_of_mem _ this.1,this.2⟩
theorem zuL{F G:Fm}{outs:List (Int×Int)}(h:zfZ F G outs):(∀o∈outs,inJ F o.1/\0<=o.2/\o.2<F.hosts.length)/\G.hosts.length=F.hosts.length:=by
 obtain⟨T,h1,h2⟩:=h
 obtain⟨a,b⟩:=zCS h2
 exact⟨fun o ho=>⟨(zuC h1 _ (a o ho).1).1,(a o ho).2⟩,b⟩
def zuJ(σ:DS)(c:Int)(s:ByteArray)(σ':DS):Prop:=match σ with
 |.shut _ => False
 |.opn F => c=0/\∃G outs,zfZ F G outs/\s=ofL (zsG G outs)/\σ'=.opn G
section
variable {O:Nat->Prop} {B db:Nat} {w:World} {K:Kt}
theorem plan_c(x:KX O B w db K){fb:Nat}{P:Pl}{F:Fm}(hK:K.farm=some (fb,P,F))(g:GD w)(hB:11<=B)(a1:Option Addr)(n1 c1:Nat) :
  FnP Tryz.prog zhN #[.pointer (ptr db),.slice a1 n1 c1] w (CR O B db w K fun s c σ'=>zuJ K.st c s σ'):=by
 have ne:=zaG db
 refine zmf (ptr db) a1 n1 c1 w _ ⟨ne,ne,_,x.fbp hK,fun w1 x1=>?_⟩
 have y1:=x.ext x1
 obtain⟨fx,I,W⟩:=y1.opn fb P F hK
 refine(zHc fx I.i0.pre.aft I.i0.hs).mono fun v w2 ⟨G,outs,out,outc,P',hv,hpl,hGh,hjobs,hjp,fx',f2,oO,h60⟩=>⟨out,_,outc,0,hv,ne,ne,?_⟩
 obtain⟨po1,po2⟩:=zuL hpl
 obtain⟨y2,f2',g2'⟩:=y1.turn hK fx' f2 (fun b hb=>.inl (by rw[hjp] at hb;exact hb)) (zyD hpl I) (W.plan hpl)
 generalize hK':({ K with farm:=some (fb,P',G) }:Kt)=K' at y2 g2'
 have hK2:K'.farm=some (fb,P',G):=by rw[<-hK']
 have gd2:GD w2:=(g.ext x1).fr f2' fun b hb=>Nat.le_trans hB (y1.foot hb).1
 refine⟨_,y2.fbp hK2,fun w8 x8=>?_⟩
 have y8:=y2.ext x8
 obtain⟨fx8,I8,W8⟩:=y8.opn fb P' G hK2
 refine(zAF fx8 hGh).mono fun v w9 ⟨e9,hp,hc,hv,_,hS⟩=>⟨e9,hp,_,hc,hv,?_⟩
 have x9:=x8.trans e9
 have cO:zgr 2 encO w9 out outs:=(oO.ext x9).recs fun _ _=>rfl
 have hH:=hS.at
 refine⟨fun p n c k w'=>Ext w9 w'/\0<=k/\k<=outs.length/\n=k/\Own w9.heap.size w' zai 1 p n c ((outs.take k.toNat).map fun o=>Value.string (ofL (zgJ G.hosts o))),fun _ _ _ k _=>(outs.length-k).toNat,⟨Ext.refl _,by omega,by omega,by simp,Own.nil⟩,?_⟩
 rintro p n c k w16 ⟨x16,hk0,hk1,hnk,o16⟩
 refine⟨fun hlt=>?_,fun hge w17 h17=>?_⟩
 ·obtain⟨o,ho⟩:∃o,outs[k.toNat]?=some o:=⟨_,List.getElem?_eq_getElem (by omega)⟩
  obtain⟨⟨i1,i2⟩,q1,q2⟩:=po1 o (List.mem_of_getElem? ho)
  rw[<-po2] at q2
  have hj60:=fx.jO.1
  have r0:Go.Sx.cell w16 (pIdx out k 2) 0=some (.int .i64 o.1):=by
   refine zaH x16 ?_
   exact cO.at hk0 ho rfl
  have r1:Go.Sx.cell w16 (pIdx out k 2) 1=some (.int .i64 o.2):=by
   refine zaH x16 ?_
   exact cO.at hk0 ho rfl
  obtain⟨hq,hd,np,np8,hcs,_⟩:=(hH.ext x16).at q1 q2
  have hname:Go.Sx.cell w16 (pAdd (pIdx hp o.2 8) 0) 0=some (.string (G.hosts.getD o.2.toNat default).name):=by
   rw[zam];exact hcs 0 _ rfl
  have hmem:=zaq G.hosts default (i:=o.2.toNat) (by omega)
  have hsz:=(zcL (hGh.2.1 _ hmem).1).2
  refine⟨fun hq=>zal r0 (zah.2 hq),hk0,hlt,zal r0,_,r0,_,r1,fun b19 hb19=>⟨np,q1,q2,np8,_,hname,fun w21 h21=>?_⟩⟩
  refine(zmW o.1 (by omega) w21 (((gd2.ext x9).ext x16).ext h21).gb).mono fun v w22 ⟨e22,hv⟩=>⟨e22,_,hv,?_⟩
  have hil:=Lib.itoa_length_le o.1 (by omega) (by omega)
  have e1:(ofL (Lib.itoa o.1)++(⟨#[64]⟩:ByteArray))++(G.hosts.getD o.2.toNat default).name=ofL (zgJ G.hosts o):=by
   unfold zgJ
   have:(⟨#[64]⟩:ByteArray)=ofL [64]:=rfl
   rw[this,zwx]
   have e2:(G.hosts.getD o.2.toNat default).name=ofL (G.hosts.getD o.2.toNat default).name.data.toList:=(zbO _).symm
   rw[e2,zwx,zb9]
   simp
  refine⟨?_,?_,?_⟩
  ·unfold zc6
   rw[zas]
   show _+1<=_
   omega
  ·unfold zc6
   rw[show(⟨#[64]⟩:ByteArray)=ofL [64] from rfl,zwx,zas,List.length_append]
   show _+1+_<=_
   omega
  rw[e1]
  refine zpe zaZ (by omega) o16 x16.size (fun b hb y hy=>by simp at hb;subst hb;have:=(o16.lt y hy).2;omega) rfl (by intro u hu;simp[Value.cells] at hu;subst hu;rfl) (by omega) (by omega) (by omega) fun p' c' w' o' g' np _=>⟨i64 (by omega),⟨g'.ext x16 o16,by omega,by omega,by omega,?_⟩,by simp only[];omega⟩
  rw[show(k+1).toNat=k.toNat+1 by omega,List.take_add_one,ho]
  simpa[Value.cells] using o'
 ·have hk:k=outs.length:=by omega
  subst hk
  have htake:outs.take ((outs.length:Int)).toNat=outs:=by simp
  rw[htake] at o16
  have hn:n=outs.length:=by omega
  subst hn
  have hmap:(outs.map fun o=>Value.string (ofL (zgJ G.hosts o)))=(outs.map fun o=>ofL (zgJ G.hosts o)).map Value.string:=by simp
  rw[hmap] at o16
  have hlen2:((outs.map fun o=>ofL (zgJ G.hosts o)).map (·.data.toList))=outs.map (zgJ G.hosts):=by
   rw[List.map_map];rfl
  have hcap:=o16.le
  have hj:=zAI (outs.map fun o=>ofL (zgJ G.hosts o)) 32 p c (by simpa using hcap.1) w17 (o16.ext h17).cells (by
   rw[hlen2]
   have:=zhf (c:=32) (m:=100) (outs.map (zgJ G.hosts)) (fun y hy=>by
    obtain⟨o,ho,rfl⟩:=List.mem_map.1 hy
    obtain⟨⟨i1,i2⟩,q1,q2⟩:=po1 o ho
    have hj60:=fx.jO.1
    have hil:=Lib.itoa_length_le o.1 (by omega) (by omega)
    rw[<-po2] at q2
    have hmem:=zaq G.hosts default (i:=o.2.toNat) (by omega)
    have hsz:=(zcL (hGh.2.1 _ hmem).1).2
    unfold zgJ
    rw[List.length_append,List.length_cons,zg6]
    omega)
   rw[List.length_map] at this
   omega) (by simp;omega)
  rw[List.length_map,hlen2] at hj
  refine hj.mono fun v w18 ⟨e18,hv⟩=>⟨e18,_,hv,fun w20 h20=>(zpG 0 w20).mono fun v w21 ⟨e21,hE⟩=>⟨e21,v,rfl,fun w23 h23=>?_⟩⟩
  have hx:=((x9.trans x16).trans h20).trans (e21.trans h23)
  refine⟨_,v,0,K',rfl,hE,y2.ext hx,?_,?_,?_⟩
  ·exact((zac x1).tr f2').tr (zac hx)
  ·intro b hb
   refine(g2' b hb).imp id fun h=>Nat.le_trans x1.size h
  ·rw[Kt.st_opn hK,Kt.st_opn hK2]
   exact⟨rfl,G,outs,hpl,rfl,rfl⟩
end
end Go.Proofs.YtcceeahmcecbnaaGreatDoor
