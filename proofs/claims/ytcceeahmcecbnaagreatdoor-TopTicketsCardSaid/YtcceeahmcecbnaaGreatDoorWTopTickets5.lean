/- The framework, the program's texts and what is shown of them: part 5. -/
import Derived.Test.YtcceeahmcecbnaaGreatDoorWTopTickets4
import Derived.Test.YtcceeahmcecbnaaGreatDoorRows
import Derived.Shelf.Spec.TrailingZeros
set_option linter.unusedVariables false
set_option linter.unusedSimpArgs false
set_option maxRecDepth 100000
namespace Go.Proofs.YtcceeahmcecbnaaGreatDoor
open Go.Sx Go.RowKit
def Far(n:Nat)(w:World)(X:World->Prop):Prop:=∀S:Nat->Prop,(∀b,S b->b<n)->∀w'',Fr S w w''->X w''
theorem Far.at{n:Nat}{w:World}{X:World->Prop}(h:Far n w X):X w:=h (fun _=>False) (fun _ h=>h.elim) w (Fr.refl _ w)
structure AR where
 t:AT
 p:Option Addr
 c:Nat
abbrev zIE(x:AR):List Value:=zpE x.t x.p x.c
theorem zMW{w:World}{t:AT}{q:Option Addr}{d:Nat}{L:List AR}(hm:L.map (·.t)=t.xs)(hle:t.xs.length<=d)(hR:zhC 5 zIE w q L)(hT:∀x∈L,IsT w x.t x.p x.c):IsT w t q d:=by
 rw[AT.eta t]
 unfold IsT
 refine⟨hle,IsL.of fun j x hx=>?_⟩
 rw[<-hm,List.getElem?_map] at hx
 obtain⟨r,hr,rfl⟩:=Option.map_eq_some_iff.1 hx
 exact⟨r.p,r.c,fun m u hu=>by rw[Nat.zero_add];exact hR j r hr m u hu,hT r (List.mem_of_getElem? hr)⟩
def AOut(w:World)(t:AT)(v:Value)(w':World):Prop:=Ext w w'/\∃q d,v=av t q d/\Far w.heap.size w' fun w''=>IsT w'' t q d
theorem zJw:∀(t:AT)(p:Option Addr)(c:Nat)(w:World),IsT w t p c->zfw t=0->FnP Tryz.prog zfI #[av t p c] w (AOut w t):=by
 intro t
 induction t using AT.ind with
 |h k key val n xs ih =>
  intro p c w hT hE
  have hEx:=(zhP hE).2
  have h2:xs.length<=2:=by
   have:=zuq (zhP hE).1
   have h3:zgw k<=2:=by unfold zgw;split<;>(try split)<;>omega
   show xs.length<=2
   have h4:xs.length=zgw k:=this
   omega
  refine zsu k key val n p xs.length c w _ fun b0 hb0 b1 hb1=>?_
  refine⟨fun l ll lc k' w'=>Ext w w'/\0<=k'/\k'<=xs.length/\ll=k'.toNat/\(∀b∈[b0,b1],∀y,l=some y->y.block≠b)/\∃L:List AR,L.map (·.t)=xs.take k'.toNat/\Own w.heap.size w' zd8 5 l ll lc (L.flatMap zIE) /\
    ∀x∈L,∀w'',Fr (fun b=>b<w.heap.size\/b=b0\/b=b1\/∃a,l=some a/\a.block=b) w' w''->IsT w'' x.t x.p x.c,
   fun _ _ _ k' _=>(xs.length-k').toNat,⟨Ext.refl _,by omega,by omega,rfl,fun b _ y hy=>(by cases hy),[],rfl,Own.nil,fun x hx=>(by cases hx)⟩,?_⟩
  rintro l ll lc k' w5 ⟨x5,hk0,hk1,rfl,hbl,L,hL,oL,hTL⟩
  have hLl:L.length=k'.toNat:=by have:=congrArg List.length hL;rw[List.length_map,List.length_take] at this;omega
  refine⟨fun hlt=>?_,fun hge w6 x6=>?_⟩
  ·have hT5:=hT.ext x5 _ _ _
   obtain⟨x,p',c',hx,hmem,hIx,a1,a2,g0,g1,g2,g3,g4⟩:=hT5.at hk0 (by exact hlt)
   refine⟨a1,hk0,hlt,a2,_,g0,_,g1,_,g2,_,g3,_,_,_,g4,fun b13 hb13 w14 x14=>?_⟩
   have h14:=zaa x14
   have hw14:=x5.trans h14
   refine(ih x hmem p' c' w14 (hIx.ext h14 _ _ _) (hEx x hmem)).mono fun v w15 ⟨e15,q,d,hv,hF⟩=>⟨e15,x.k,x.key,x.val,x.n,q,x.xs.length,d,hv,?_⟩
   have h515:=h14.trans e15
   have hw15:=x5.trans h515
   have oL15:=oL.ext h515
   have hns:∀b∈[b0,b1,b13],∀y,l=some y->y.block≠b:=fun b hb y hy=>by
    simp only[List.mem_cons,List.not_mem_nil,or_false] at hb
    rcases hb with rfl|rfl|rfl
    ·exact hbl _ (by simp) y hy
    ·exact hbl _ (by simp) y hy
    ·have:=(oL.lt y hy).2;omega
   refine zrq (v:=av x q d) zf9 (by omega) oL15 hw15.size hns rfl (by intro u hu;simp[Value.cells] at hu;rcases hu with rfl|rfl|rfl|rfl|rfl<;>rfl) (by omega) (by omega) (by omega) fun l' lc' w29 o29 g29 _ hb29=>⟨i64 (by omega),⟨g29.ext hw15 oL15,by omega,by omega,by omega,fun b hb y hy=>hb29 b (by simp at hb ⊢;omega) y hy,L++[⟨x,q,d⟩],?_,?_,?_⟩,by simp only[];omega⟩
   ·rw[show(k'+1).toNat=k'.toNat+1 by omega,List.map_append,hL,List.take_add_one]
    have hx':xs[k'.toNat]?=some x:=hx
    rw[hx'];rfl
   ·rw[List.flatMap_append]
    simpa[Value.cells,zIE,zpE] using o29
   ·have step:∀(w0 w'':World),Ext w0 w15->w0.heap.size<=w15.heap.size->(∀b,b<w.heap.size\/b=b0\/b=b1\/(∃a,l=some a/\a.block=b)->True)->Fr (fun b=>b<w.heap.size\/b=b0\/b=b1\/∃a,l'=some a/\a.block=b) w29 w''->Fr (fun b=>b<w.heap.size\/b=b0\/b=b1\/∃a,l=some a/\a.block=b) w0 w'':=fun w0 w'' h0 hs _ fw=>by
     have f1:Fr (fun b=>b<w.heap.size\/b=b0\/b=b1\/∃a,l=some a/\a.block=b) w0 w29:=(zac h0).tr (zaT g29 fun a ha=>.inr (.inr (.inr ⟨a,ha,rfl⟩)))
     refine f1.trans fw fun b hb=>?_
     rcases hb with h|h|h|⟨a2,ha2,hk2⟩
     ·exact .inl (.inl h)
     ·exact .inl (.inr (.inl h))
     ·exact .inl (.inr (.inr (.inl h)))
     rcases g29.new with hn|hn
     ·left
      rw[ha2] at hn
      cases hout:l with
      |none => rw[hout] at hn;simp[blk] at hn
      |some y => rw[hout] at hn;simp[blk] at hn;exact .inr (.inr (.inr ⟨y,rfl,by omega⟩))
     ·right
      have:=hn a2 ha2
      omega
    intro y hy w'' fw
    rcases List.mem_append.1 hy with hy|hy
    ·exact hTL y hy w'' (step w5 w'' h515 h515.size (fun _ _=>trivial) fw)
    ·simp at hy;subst hy
     refine hF _ (fun b hb=>?_) w'' (step w15 w'' (Ext.refl _) (Nat.le_refl _) (fun _ _=>trivial) fw)
     rcases hb with h|h|h|⟨a,ha,rfl⟩
     ·have:=hw14.size;omega
     ·subst h;exact x14.lt _ (by simp)
     ·subst h;exact x14.lt _ (by simp)
     ·have:=(oL.lt a ha).2;have:=h14.size;omega
  ·have hkl:k'.toNat=xs.length:=by omega
   rw[hkl,List.take_length] at hL
   rw[hkl] at oL hLl
   have hx6:Ext w w6:=zax x6 x5 (by intro d hd;simp at hd;omega)
   have f6:Fr (fun b=>b<w.heap.size\/b=b0\/b=b1\/∃a,l=some a/\a.block=b) w5 w6:=zb4 x6 (fun d hd=>by simp at hd;rcases hd with rfl|rfl<;>simp)
   refine⟨hx6,l,lc,by rw[hkl];rfl,fun S hS w'' fw=>?_⟩
   have fall:Fr (fun b=>b<w.heap.size\/b=b0\/b=b1\/∃a,l=some a/\a.block=b) w5 w'':=f6.tr (fw.mono fun b hb=>.inl (hS b hb))
   have ol6:=(oL.but x6.toBut (fun d hd y hy=>hbl d (by simp at hd ⊢;omega) y hy)).fr fw (fun a ha hs=>by
    have:=hS _ hs
    have:=(oL.lt a ha).1
    omega)
   exact zMW (t:=.mk k key val n xs) hL (by show xs.length<=lc;have:=oL.le;omega) (ol6.recs fun _ _=>rfl) fun x hx=>hTL x hx w'' fall
structure St where
 job:Jb
 what:Int
 host:Int
 since:Int
 again:Int
 tries:Int
structure StR where
 s:St
 pa:Option Addr
 ca:Nat
 pf:Option Addr
 cf:Nat
abbrev zwh(r:StR):List Value:=[.string r.s.job.user,.int .i64 r.s.job.prio,.int .i64 r.s.job.nd.c,.int .i64 r.s.job.nd.m,.int .i64 r.s.job.nd.g,.int .i64 r.s.job.ask.k,.string r.s.job.ask.key,.string r.s.job.ask.val,.int .i64 r.s.job.ask.n,.slice r.pa r.s.job.ask.xs.length r.ca,.slice r.pf r.s.job.aft.length r.cf,
 .int .i64 r.s.what,.int .i64 r.s.host,.int .i64 r.s.since,.int .i64 r.s.again,.int .i64 r.s.tries]
abbrev sv(r:StR):Value:=.agg #[.string r.s.job.user,.int .i64 r.s.job.prio,.int .i64 r.s.job.nd.c,.int .i64 r.s.job.nd.m,.int .i64 r.s.job.nd.g,.int .i64 r.s.job.ask.k,.string r.s.job.ask.key,.string r.s.job.ask.val,.int .i64 r.s.job.ask.n,.slice r.pa r.s.job.ask.xs.length r.ca,.slice r.pf r.s.job.aft.length r.cf,
 .int .i64 r.s.what,.int .i64 r.s.host,.int .i64 r.s.since,.int .i64 r.s.again,.int .i64 r.s.tries]
theorem zBc(r:StR):(zwh r).length=16:=rfl
theorem zBd(r:StR):∀u∈zwh r,u.oneCell'=true:=by
 intro u hu
 simp only[List.mem_cons,List.not_mem_nil,or_false] at hu
 rcases hu with rfl|rfl|rfl|rfl|rfl|rfl|rfl|rfl|rfl|rfl|rfl|rfl|rfl|rfl|rfl|rfl<;>rfl
theorem zHN(q:Option Addr)(c:Nat)(D:List Int)(h60:D.length<=1000)(w:World)(hD:zes .i64 w q D) :
  FnP Tryz.prog zcT #[.slice q D.length c] w fun v w'=>Ext w w'/\∃p' c',v=.slice p' D.length c'/\Own w.heap.size w' zgu 1 p' D.length c' (D.map (.int .i64)):=by
 refine ziU q D.length c w _ ⟨fun hn w0 h0=>?_,fun hn=>?_⟩
 ·cases D with
  |nil => exact⟨h0,none,0,rfl,Own.nil⟩
  |cons x r => exact absurd hn fun hq => zal (zes.idx hD (i:=0) (by omega) (by simp)) (zah.2 hq)
 ·exact zqp (Q:=fun v w'=>Ext w w'/\∃p' c',v=.slice p' D.length c'/\Own w.heap.size w' zgu 1 p' D.length c' (D.map (.int .i64))) zga (by omega) hD (by simp) (by intro u hu;simp at hu;obtain⟨x,_,rfl⟩:=hu;rfl) (by omega) (by omega) hn fun p' c' w' hx o=>⟨hx,p',c',rfl,o⟩
def SOut(w:World)(s:St)(v:Value)(w':World):Prop:=Ext w w'/\∃r:StR,v=sv r/\r.s=s/\Far w.heap.size w' fun w''=>IsJ w'' s.job r.pa r.ca r.pf
theorem zGd(r:StR)(w:World)(hJ:IsJ w r.s.job r.pa r.ca r.pf)(hE:zfw r.s.job.ask=0)(h8:r.s.job.aft.length<=8):FnP Tryz.prog zkr #[sv r] w (SOut w r.s):=by
 refine zzJ r.s.job.user r.s.job.prio r.s.job.nd.c r.s.job.nd.m r.s.job.nd.g r.s.job.ask.k r.s.job.ask.key r.s.job.ask.val r.s.job.ask.n r.pa r.s.job.ask.xs.length r.ca r.pf r.s.job.aft.length r.cf r.s.what r.s.host r.s.since r.s.again r.s.tries w _ fun b0 hb0 b1 hb1 w2 x2=>?_
 have h2:=zaa x2
 refine(zHN r.pf r.cf r.s.job.aft (by omega) w2 (hJ.2.ext h2)).mono fun v w3 ⟨e3,pf,cf,hv,oF⟩=>⟨e3,pf,_,cf,hv,fun w7 x7=>?_⟩
 have h7:Ext w w7:=zax x7 (h2.trans e3) (by intro d hd;simp at hd;omega)
 have oF7:=oF.but x7.toBut (fun d hd y hy=>by simp at hd;subst hd;have:=(oF.lt y hy).1;have:=x2.lt d (by simp);omega)
 refine(zJw r.s.job.ask r.pa r.ca w7 (hJ.1.ext h7 _ _ _) hE).mono fun v w8 ⟨e8,pa,ca,hv,hF⟩=>⟨e8,_,_,_,_,pa,_,ca,hv,fun w16 x16=>?_⟩
 have h16:Ext w w16:=zax x16 (h7.trans e8) (by intro d hd;simp at hd;omega)
 refine⟨h16,⟨r.s,pa,ca,pf,cf⟩,rfl,rfl,fun S hS w'' fw=>?_⟩
 have f816:Fr (fun b=>b=b0\/b=b1) w8 w16:=zb4 x16 (fun d hd=>by simp at hd;rcases hd with rfl|rfl<;>simp)
 have fall:Fr (fun b=>b<w.heap.size\/b=b0\/b=b1) w8 w'':=(f816.mono fun b hb=>.inr hb).tr (fw.mono fun b hb=>.inl (hS b hb))
 have hb0':b0<w2.heap.size:=x2.lt b0 (by simp)
 have hb1':b1<w2.heap.size:=x2.lt b1 (by simp)
 have h27:w2.heap.size<=w7.heap.size:=Nat.le_trans e3.size x7.size
 refine⟨hF _ (fun b hb=>?_) w'' fall,?_⟩
 ·rcases hb with h|rfl|rfl
  ·have:=h2.size;omega
  ·omega
  ·omega
 ·exact((oF7.ext e8).fr fall (fun a ha hs=>by
   have:=(oF.lt a ha).1
   have:=h2.size
   omega)).cells
theorem zK7(p:Option Addr)(c:Nat)(L:List Ht)(h30:L.length<=30)(h8:∀h∈L,h.labels.length<=8)(w:World)(hL:zkO w p L) :
  FnP Tryz.prog zd4 #[.slice p L.length c] w fun v w'=>Ext w w'/\∃p' c',∃M:List Hm,v=.slice p' L.length c'/\M.map (·.h)=L/\Own w.heap.size w' ze7 8 p' L.length c' (M.flatMap zky)/\(∀m∈M,LbA w' p' m)/\∀m∈M,LbN w.heap.size m:=by
 refine zpk p L.length c w _ fun w0 h0=>?_
 obtain⟨M0,hM0,hR0,hl0⟩:=hs_ms (hL.ext h0)
 have hlen0:M0.length=L.length:=by rw[<-hM0];simp
 rw[<-hlen0]
 refine(zt4 p c M0 (by omega) w0 hR0).mono fun v w1 ⟨e1,p',c',hv,o1⟩=>⟨e1,p',M0.length,c',hv,?_⟩
 have lt0:∀m∈M0,LbA w1 p' m:=fun m hm=>⟨(hl0 m hm).ext e1,by
  cases hlb:m.h.labels with
  |nil => exact .inl rfl
  |cons x r =>
   refine .inr fun a b ha hb=>?_
   have:=(hl0 m hm).lt (x:=x) (by rw[hlb];exact List.mem_cons_self ..) (by simp) a ha
   have:=(o1.lt b hb).1
   omega⟩
 refine⟨fun k w'=>Ext w w'/\0<=k/\k<=M0.length/\∃M:List Hm,M.map (·.h)=L/\Own w0.heap.size w' ze7 8 p' M0.length c' (M.flatMap zky)/\(∀m∈M,LbA w' p' m)/\∀j,j<k.toNat->∀m,M[j]?=some m->LbN w.heap.size m,fun k _=>(M0.length-k).toNat,⟨h0.trans e1,by omega,by omega,M0,hM0,o1,lt0,fun j hj=>by simp at hj⟩,?_⟩
 rintro k w7 ⟨x7,hk0,hk1,M,hM,o7,hA7,hN7⟩
 have hlen:M.length=M0.length:=by rw[hlen0,<-hM];simp
 refine⟨fun hlt=>?_,fun hge w8 h8=>⟨x7.trans h8,p',c',M,rfl,hM,(o7.ext h8).weak h0.size,fun m hm=>⟨(hA7 m hm).1.ext h8,(hA7 m hm).2⟩,fun m hm=>by
  obtain⟨j,hj⟩:=List.mem_iff_getElem?.1 hm
  have hjl:=(List.getElem?_eq_some_iff.1 hj).1
  exact hN7 j (by omega) m hj⟩⟩
 have r7:zhC 8 zky w7 p' M:=o7.recs fun _ _=>rfl
 have g:=r7.idx default hk0 (by omega) (j:=1) rfl
 have hp':=o7.ne1 (by omega) (by omega)
 have hm:=zat M default (i:=k.toNat) (by omega)
 generalize hmd:M.getD k.toNat default=m at g hm
 have hml:m.h∈L:=by rw[<-hM];exact List.mem_map_of_mem hm
 refine⟨hp',hk0,hlt,fun hq=>hp' (zah.1 hq),m.q,m.h.labels.length,m.d,by rw[zaq];exact g,fun w11 h11=>?_⟩
 refine(zAC m.q m.d m.h.labels (h8 _ hml) w11 ((hA7 m hm).1.ext h11)).mono fun v w12 ⟨e12,q',d',hv,hl',hn'⟩=>⟨e12,q',_,d',hv,hp',hk0,hlt,fun hq=>hp' (zah.1 hq),?_⟩
 have x12:=h11.trans e12
 have o12:=o7.ext x12
 refine zaU o12 zpU (by rw[zfR zgX];simp;omega) (by simp) (by intro v hv;simp at hv;subst hv;rfl) (by simp) fun w16 o16 g16=>?_
 rw[zm6 zgX M k.toNat 1 [.slice q' m.h.labels.length d'] ⟨m.h,q',d'⟩ default (by omega) (by simp) (by rw[hmd];rfl)] at o16
 have hmap:(M.set k.toNat ⟨m.h,q',d'⟩).map (·.h)=L:=by
  rw[List.map_set,hM]
  have hk:k.toNat<L.length:=by omega
  have:L[k.toNat]=m.h:=by
   have h1:(M.map (·.h)).getD k.toNat default=m.h:=by
    rw[<-hmd,List.getD_eq_getElem?_getD,List.getD_eq_getElem?_getD,List.getElem?_map,List.getElem?_eq_getElem (by omega:k.toNat<M.length)];rfl
   rw[hM] at h1
   simpa[List.getD_eq_getElem?_getD,hk] using h1
  rw[<-this,List.set_getElem_self]
 refine⟨i64 (by omega),⟨?_,by omega,by omega,_,hmap,o16,fun m' hm'=>?_,fun j hj m' hm'=>?_⟩,by simp only[];omega⟩
 ·exact g16.ext (x7.trans x12) (o12.weak (by have:=h0.size;omega))
 ·rcases List.mem_or_eq_of_mem_set hm' with hm'|rfl
  ·exact⟨zkC ((hA7 m' hm').1.ext x12) (hA7 m' hm').2 g16,(hA7 m' hm').2⟩
  ·have ha:zb1 q' p':=fun a b ha hb=>by
    have:=hn' a ha
    have:=(o7.lt b hb).2
    have:=h11.size
    omega
   exact⟨zkC hl' (.inr ha) g16,.inr ha⟩
 ·by_cases hjk:j=k.toNat
  ·subst hjk
   rw[List.getElem?_set_self (by omega)] at hm'
   obtain rfl:=Option.some.inj hm'
   exact .inr fun a ha=>(by have:=hn' a ha;have:=x7.size;have:=h11.size;omega)
  ·rw[List.getElem?_set_ne (by omega)] at hm'
   exact hN7 j (by omega) m' hm'
theorem ziB:zgA Tryz.prog zCC=some (zlt,16,184,.agg #[.string ⟨#[]⟩,.int .i64 0,.int .i64 0,.int .i64 0,.int .i64 0,.int .i64 0,.string ⟨#[]⟩,.string ⟨#[]⟩,.int .i64 0,.slice none 0 0,.slice none 0 0,.int .i64 0,.int .i64 0,.int .i64 0,.int .i64 0,.int .i64 0]):=by kernel_rfl
structure Pol where
 first:Int
 times:Int
 most:Int
 tries:Int
structure Fm where
 hosts:List Ht
 pol:Pol
 now:Int
 jobs:List St
structure Pl where
 hp:Option Addr
 hc:Nat
 jp:Option Addr
 jc:Nat
 R:List StR
instance:Inhabited St:=⟨⟨zdQ,0,0,0,0,0⟩⟩
instance:Inhabited StR:=⟨⟨default,none,0,none,0⟩⟩
def ft(fb:Nat)(jp:Option Addr)(b:Nat):Prop:=b=fb\/∃a,jp=some a/\a.block=b
def ftO(O:Nat->Prop)(fb:Nat)(jp:Option Addr)(b:Nat):Prop:=O b\/ft fb jp b
abbrev fcs(P:Pl)(F:Fm):List Value:=[.slice P.hp F.hosts.length P.hc,.int .i64 F.pol.first,.int .i64 F.pol.times,.int .i64 F.pol.most,.int .i64 F.pol.tries,.int .i64 F.now,.slice P.jp P.R.length P.jc]
structure FXO(O:Nat->Prop)(B:Nat)(w:World)(fb:Nat)(P:Pl)(F:Fm):Prop where
 slot:Own B w zdM 7 (ptr fb) 1 1 (fcs P F)
 arr:Own B w zlt 16 P.jp P.R.length P.jc (P.R.flatMap zwh)
 map:P.R.map (·.s)=F.jobs
 hs:∀w'',Fr (ftO O fb P.jp) w w''->zkO w'' P.hp F.hosts
 js:∀r∈P.R,∀w'',Fr (ftO O fb P.jp) w w''->IsJ w'' r.s.job r.pa r.ca r.pf
 ap:∀a,P.jp=some a->a.block≠fb
 hO:F.hosts.length<=30/\∀h∈F.hosts,zyv h
 jO:F.jobs.length<=60/\∀s∈F.jobs,okJ s.job/\WfJ s.job
 olt:∀b,O b->b<w.heap.size
 odis:∀b,O b->¬ft fb P.jp b
abbrev FX(B:Nat):=FXO (fun b=>b<B) B
section
variable {O:Nat->Prop} {B fb:Nat} {w:World} {P:Pl} {F:Fm}
theorem FXO.len(x:FXO O B w fb P F):P.R.length=F.jobs.length:=by have:=congrArg List.length x.map;simpa using this
theorem FXO.foot(x:FXO O B w fb P F){b:Nat}(h:ft fb P.jp b):B<=b/\b<w.heap.size:=by
 rcases h with rfl|⟨a,ha,rfl⟩
 ·exact x.slot.lt _ rfl
 ·exact x.arr.lt a ha
theorem FXO.fr{S:Nat->Prop}{w':World}(x:FXO O B w fb P F)(f:Fr S w w')(hS:∀b,S b->O b):FXO O B w' fb P F :=
 ⟨x.slot.fr f fun a ha hs=>x.odis _ (hS _ hs) (.inl (by cases ha;rfl)),x.arr.fr f fun a ha hs=>x.odis _ (hS _ hs) (.inr ⟨a,ha,rfl⟩),x.map,
  fun w'' k=>x.hs w'' ((f.mono fun b hb=>.inl (hS b hb)).tr k),fun r hr w'' k=>x.js r hr w'' ((f.mono fun b hb=>.inl (hS b hb)).tr k),x.ap,x.hO,x.jO,fun b hb=>Nat.lt_of_lt_of_le (x.olt b hb) f.size,x.odis⟩
theorem FXO.ext{w':World}(x:FXO O B w fb P F)(e:Ext w w'):FXO O B w' fb P F:=x.fr (zac (S:=fun _=>False) e) fun _ h=>h.elim
theorem FXO.recs(x:FXO O B w fb P F):zhC 16 zwh w P.jp P.R:=x.arr.recs fun _ _=>rfl
theorem FXO.cell(x:FXO O B w fb P F){i:Nat}{v:Value}(h:(fcs P F)[i]?=some v):Go.Sx.cell w (pAdd (ptr fb) i) 0=some v:=by rw[zaq];exact x.slot.cells i v h
theorem FXO.st(x:FXO O B w fb P F){k:Int}(h0:0<=k)(h1:k<F.jobs.length):∃r,P.R[k.toNat]?=some r/\F.jobs[k.toNat]?=some r.s/\P.jp≠none/\pIdx P.jp k 16≠none/\(∀(m:Nat) u,(zwh r)[m]?=some u->Go.Sx.cell w (pIdx P.jp k 16) m=some u)/\(∀(m:Nat) u,(zwh r)[m]?=some u->Go.Sx.cell w (pAdd (pIdx P.jp k 16) m) 0=some u)/\IsJ w r.s.job r.pa r.ca r.pf/\okJ r.s.job/\WfJ r.s.job:=by
 have hl:=x.len
 obtain⟨r,hr⟩:∃r,P.R[k.toNat]?=some r:=⟨_,List.getElem?_eq_getElem (by omega)⟩
 have hm:=List.mem_of_getElem? hr
 have g:∀(m:Nat) u,(zwh r)[m]?=some u->Go.Sx.cell w (pIdx P.jp k 16) m=some u:=fun m u hu=>x.recs.at h0 hr hu
 have g0:=g 0 _ rfl
 have hF:F.jobs[k.toNat]?=some r.s:=by rw[<-x.map,List.getElem?_map,hr];rfl
 have hj:=x.jO.2 r.s (List.mem_of_getElem? hF)
 exact⟨r,hr,hF,fun h=>zal g0 (zah.2 h),zal g0,g,fun m u hu=>by rw[zaq];exact g m u hu,x.js r hm w (Fr.refl _ w),hj.1,hj.2⟩
theorem FXO.slot_to{w':World}{F':Fm}{P':Pl}(x:FXO O B w fb P F)(o:Own B w' zdM 7 (ptr fb) 1 1 (fcs P' F'))(g:zcr w w' (ptr fb) (ptr fb))(hj:F'.jobs=F.jobs)(hR:P'.R=P.R)(hjp:P'.jp=P.jp)(hjc:P'.jc=P.jc)
  (hs:∀w'',Fr (ftO O fb P.jp) w' w''->zkO w'' P'.hp F'.hosts) (hO:F'.hosts.length<=30/\∀h∈F'.hosts,zyv h):FXO O B w' fb P' F'/\Fr (ft fb P.jp) w w':=by
 have f:Fr (ft fb P.jp) w w':=zaT g fun a ha=>by cases ha;exact .inl rfl
 refine⟨⟨o,?_,by rw[hR,hj];exact x.map,by rw[hjp];exact hs,fun r hr w'' k=>?_,by rw[hjp];exact x.ap,hO,by rw[hj];exact x.jO,fun b hb=>Nat.lt_of_lt_of_le (x.olt b hb) f.size,by rw[hjp];exact x.odis⟩,f⟩
 ·rw[hjp,hR,hjc]
  exact x.arr.st (fun u v hu hv=>by cases hv;exact x.ap u hu) g
 ·rw[hR] at hr
  rw[hjp] at k
  exact x.js r hr w'' ((f.mono fun b hb=>.inr hb).tr k)
def zkc(m:Nat)(v:Int)(s:St):St:=match m with
 |11 => { s with what:=v }
 |12 => { s with host:=v }
 |13 => { s with since:=v }
 |14 => { s with again:=v }
 |_ => { s with tries:=v }
def setF(F:Fm)(k:Nat)(s:St):Fm:={ F with jobs:=F.jobs.set k s }
def setP(P:Pl)(k:Nat)(s:St):Pl:={ P with R:=P.R.set k { P.R.getD k default with s:=s } }
theorem zna(m:Nat)(v:Int)(s:St):(zkc m v s).job=s.job:=by unfold zkc;split<;>rfl
theorem FXO.set(x:FXO O B w fb P F){k:Int}(h0:0<=k)(h1:k<F.jobs.length){m:Nat}(hm:11<=m/\m<=15)(v:Int){ns:List Nat}(hns:∀b∈ns,¬ft fb P.jp b){K:World->Prop}
  (hk:∀w',FXO O B w' fb (setP P k.toNat (zkc m v (F.jobs.getD k.toNat default))) (setF F k.toNat (zkc m v (F.jobs.getD k.toNat default)))->Fr (ft fb P.jp) w w'->K w'):zak w (pAdd (pIdx P.jp k 16) m) [.int .i64 v] ns K:=by
 have hl:=x.len
 have hg:(P.R.getD k.toNat default).s=F.jobs.getD k.toNat default:=by
  rw[<-x.map,List.getD_eq_getElem?_getD,List.getD_eq_getElem?_getD,List.getElem?_map,List.getElem?_eq_getElem (by omega:k.toNat<P.R.length)];rfl
 refine zaU x.arr zpU (by rw[zfR zBc];simp;omega) (by simp) (by intro u hu;simp at hu;subst hu;rfl) (fun b hb y hy he=>hns b hb (.inr ⟨y,hy,he⟩)) fun w' o g=>?_
 have f:Fr (ft fb P.jp) w w':=zaT g fun a ha=>.inr ⟨a,ha,rfl⟩
 refine hk w' ⟨?_,?_,?_,fun w'' kf=>?_,fun r hr w'' kf=>?_,x.ap,x.hO,?_,fun b hb=>Nat.lt_of_lt_of_le (x.olt b hb) f.size,x.odis⟩ f
 ·have:=x.slot.st (fun u y hu hy=>by cases hu;exact fun h=>x.ap y hy h.symm) g
  show Own B w' zdM 7 (ptr fb) 1 1 [_,_,_,_,_,_,.slice P.jp (P.R.set _ _).length P.jc]
  rw[List.length_set]
  exact this
 ·rw[zm6 zBc P.R k.toNat m [.int .i64 v] { P.R.getD k.toNat default with s:=zkc m v (F.jobs.getD k.toNat default) } default (by omega) (by simp;omega) (by
   rw[<-hg]
   have:m=11\/m=12\/m=13\/m=14\/m=15:=by omega
   rcases this with rfl|rfl|rfl|rfl|rfl<;>rfl)] at o
  show Own B w' zlt 16 P.jp (P.R.set _ _).length P.jc _
  rw[List.length_set]
  exact o
 ·show(P.R.set _ _).map (·.s)=F.jobs.set _ _
  rw[List.map_set,x.map]
 ·exact x.hs w'' ((f.mono fun b hb=>.inr hb).tr kf)
 ·have hr:r∈P.R.set k.toNat { P.R.getD k.toNat default with s:=zkc m v (F.jobs.getD k.toNat default) }:=hr
  rcases List.mem_or_eq_of_mem_set hr with hr|rfl
  ·exact x.js r hr w'' ((f.mono fun b hb=>.inr hb).tr kf)
  ·have:=x.js _ (zat P.R default (i:=k.toNat) (by omega)) w'' ((f.mono fun b hb=>.inr hb).tr kf)
   rw[hg] at this
   show IsJ w'' (zkc m v (F.jobs.getD k.toNat default)).job _ _ _
   rw[zna]
   exact this
 ·refine⟨by show(F.jobs.set _ _).length<=60;rw[List.length_set];exact x.jO.1,fun s hs=>?_⟩
  have hs:s∈F.jobs.set k.toNat (zkc m v (F.jobs.getD k.toNat default)):=hs
  rcases List.mem_or_eq_of_mem_set hs with hs|rfl
  ·exact x.jO.2 s hs
  ·rw[zna]
   exact x.jO.2 _ (zat F.jobs default (i:=k.toNat) (by omega))
theorem zH7(x:FXO O B w fb P F)(id:Int)(hid:InR .i64 id):FnP Tryz.prog zbo #[.pointer (ptr fb),.int .i64 id] w fun v w'=>Ext w w'/\((¬(1<=id/\id<=F.jobs.length)/\v=.pointer none)\/(1<=id/\id<=F.jobs.length/\v=.pointer (pIdx P.jp (id-1) 16))):=by
 have hl:=x.len
 have hj:=x.jO.1
 have ne:=zaO fb
 refine zrd (ptr fb) id w _ ⟨fun _=>ne,fun _=>ne,fun h w0 h0=>⟨h0,.inl ⟨by omega,rfl⟩⟩,fun h=>⟨_,_,_,x.cell (i:=6) rfl,fun h2 w3 h3=>⟨h3,.inl ⟨by omega,rfl⟩⟩,fun h2=>⟨ne,ne,_,_,_,x.cell (i:=6) rfl,i64 (by omega),?_,by omega,by omega,fun w6 h6=>⟨h6,.inr ⟨h,by omega,rfl⟩⟩⟩⟩⟩
 obtain⟨r,_,_,hp,_⟩:=x.st (k:=id-1) (by omega) (by omega)
 exact hp
def zmn(F:Fm):Prop:=∀(i:Nat) s,F.jobs[i]?=some s->∀y∈s.job.aft,1<=y/\y<=i
def za7(F:Fm)(id:Int):Int:=(F.jobs.getD (id-1).toNat default).what
theorem znF(x:FXO O B w fb P F){id:Int}(h:1<=id/\id<=F.jobs.length){w':World}(e:Ext w w'):∃q,pIdx P.jp (id-1) 16=q/\q≠none/\Go.Sx.cell w' (pAdd q 11) 0=some (.int .i64 (za7 F id)):=by
 obtain⟨r,hr,hF,_,hne,_,g,_⟩:=(x.ext e).st (k:=id-1) (by omega) (by omega)
 refine⟨_,rfl,hne,?_⟩
 have:=g 11 _ rfl
 unfold za7
 rw[List.getD_eq_getElem?_getD,hF]
 exact this
theorem zJF(x:FXO O B w fb P F){p1:Option Addr}(hc:Go.Sx.cell w p1 0=some (.pointer (ptr fb))){id:Int}(h:1<=id/\id<=F.jobs.length):FnP Tryz.prog zdJ #[.int .i64 id,.pointer p1] w fun v w'=>Ext w w'/\v=.bool (decide (za7 F id≠3)):=by
 have hj:=x.jO.1
 refine zkT id p1 w _ ⟨_,hc,fun w1 h1=>(zH7 (x.ext h1) id (i64 (by omega))).mono fun v w2 ⟨e2,hv⟩=>?_⟩
 rcases hv with⟨hno,_⟩|⟨_,_,rfl⟩
 ·exact absurd h hno
 ·obtain⟨q,hq,hne,hg⟩:=znF x h (h1.trans e2)
  exact⟨e2,_,rfl,by rw[hq];exact hne,by rw[hq];exact hne,_,by rw[hq];exact hg,fun w5 h5=>⟨(h1.trans e2).trans h5,rfl⟩⟩
theorem zNa(x:FXO O B w fb P F){p1:Option Addr}(hc:Go.Sx.cell w p1 0=some (.pointer (ptr fb))){id:Int}(h:1<=id/\id<=F.jobs.length):FnP Tryz.prog zd3 #[.int .i64 id,.pointer p1] w fun v w'=>Ext w w'/\v=.bool (decide (za7 F id=4)||decide (za7 F id=5)):=by
 have hj:=x.jO.1
 refine zlR id p1 w _ ⟨_,hc,fun w1 h1=>(zH7 (x.ext h1) id (i64 (by omega))).mono fun v w2 ⟨e2,hv⟩=>?_⟩
 rcases hv with⟨hno,_⟩|⟨_,_,rfl⟩
 ·exact absurd h hno
 ·obtain⟨q,hq,hne,hg⟩:=znF x h (h1.trans e2)
  exact⟨e2,_,rfl,by rw[hq];exact hne,by rw[hq];exact hne,_,by rw[hq];exact hg,fun w5 h5=>⟨(h1.trans e2).trans h5,rfl⟩⟩
def zdY(F:Fm)(s:St):Bool:=decide (s.what=1)&&decide (s.again<=F.now)&&s.job.aft.all fun y=>decide (za7 F y=3)
theorem zNv(x:FXO O B w fb P F)(ha:zmn F){k:Int}(h0:0<=k)(h1:k<F.jobs.length):FnP Tryz.prog zeF #[.pointer (ptr fb),.pointer (pIdx P.jp k 16)] w fun v w'=>Ext w w'/\v=.bool (zdY F (F.jobs.getD k.toNat default)):=by
 refine zmZ (ptr fb) (pIdx P.jp k 16) w _ fun w0 e0=>zbc (by simp[Value.oneCell']) fun w1 o1 e1=>?_
 have e01:=e0.trans e1
 have x1:=x.ext e01
 obtain⟨r,hr,hF,_,hne,_,g,hJ,hok,hwf⟩:=x1.st h0 h1
 have hg:F.jobs.getD k.toNat default=r.s:=by rw[List.getD_eq_getElem?_getD,hF];rfl
 rw[hg]
 have c1:Go.Sx.cell w1 (some ⟨w0.heap.size,0,none⟩) 0=some (.pointer (ptr fb)):=(o1 0 (Nat.zero_le _)).cells 0 _ rfl
 have ne:=zaO fb
 refine⟨hne,hne,_,g 11 _ rfl,fun _=>hne,fun _=>hne,fun hw=>⟨_,g 14 _ rfl,_,c1,ne,ne,_,x1.cell (i:=5) rfl,fun _=>hne,fun _=>hne,fun _=>by rw[zaG];exact hne,fun hn=>⟨_,_,_,by rw[zaG];exact g 10 _ rfl,fun w9 h9=>?_⟩,fun hn w6 h6=>⟨e01.trans h6,?_⟩⟩,fun hw w3 h3=>⟨e01.trans h3,?_⟩⟩
 ·have hin:∀y∈r.s.job.aft,1<=y/\y<=F.jobs.length:=fun y hy=>by have:=ha _ _ hF y hy;omega
  have hlen:=hok.len
  refine(zp9 r.pf r.cf r.s.job.aft (by omega) _ (fun y=>decide (za7 F y≠3)) w9 (hJ.2.ext h9) fun y hy w' hw'=>⟨zdJ,#[.pointer (some ⟨w0.heap.size,0,none⟩)],rfl,zJF (x1.ext (h9.trans hw')) (zar (h9.trans hw') c1) (hin y hy)⟩).mono fun v w10 ⟨e10,b,hv,hb⟩=>⟨e10,b,hv,fun w12 h12=>⟨e01.trans h12,?_⟩⟩
  unfold zdY
  have h1:decide (r.s.what=1)=true:=decide_eq_true hw
  have h2:decide (r.s.again<=F.now)=true:=decide_eq_true hn
  rw[h1,h2]
  simp only[Bool.true_and]
  congr 1
  cases b with
  |true =>
   obtain⟨y,hy,h3⟩:=hb.1 rfl
   have:(r.s.job.aft.all fun y=>decide (za7 F y=3))=false:=by
    rw[List.all_eq_false]
    exact⟨y,hy,by simpa using h3⟩
   rw[this];rfl
  |false =>
   have:(r.s.job.aft.all fun y=>decide (za7 F y=3))=true:=by
    rw[List.all_eq_true]
    intro y hy
    by_cases h:za7 F y=3
    ·simp[h]
    ·exact absurd (hb.2 ⟨y,hy,by simpa using h⟩) (by simp)
   rw[this];rfl
 ·unfold zdY
  have:decide (r.s.again<=F.now)=false:=decide_eq_false (by omega)
  rw[this];simp
 ·unfold zdY
  have:decide (r.s.what=1)=false:=decide_eq_false hw
  rw[this];simp
end
def okP(p0 p1 p2 p3:Int):Prop:=1<=p0/\p0<=1000000000/\1<=p1/\p1<=10/\p0<=p2/\p2<=1000000000/\0<=p3/\p3<=50
def dl(p0 p1 p2:Int):Nat->Int
 |0 => p0
 |k+1 => min (dl p0 p1 p2 k*p1) p2
theorem zKZ{a b:Int}(ha:0<=a)(hb:1<=b):a<=a*b:=by
 have:=Int.mul_le_mul_of_nonneg_left hb ha
 omega
theorem zJi{a b:Int}(ha:0<=a)(hb:b<=10):a*b<=a*10:=Int.mul_le_mul_of_nonneg_left hb ha
theorem zms{p0 p1 p2 p3:Int}(h:okP p0 p1 p2 p3):∀k,p0<=dl p0 p1 p2 k/\dl p0 p1 p2 k<=p2
 |0 => by unfold okP at h;simp only[dl];omega
 |k+1 => by
  have ih:=zms h k
  unfold okP at h
  have:=zKZ (a:=dl p0 p1 p2 k) (b:=p1) (by omega) (by omega)
  simp only[dl]
  omega
theorem zzn{x:Int}(h:-9223372036854775808<=x/\x<=9223372036854775807):InR .i64 x:=h
theorem ziF{x:Int}(h:InR .i64 x):-9223372036854775808<=x/\x<=9223372036854775807:=h
theorem zBU(p0 p1 p2 p3:Int)(w:World):FnP Tryz.prog zd5 #[.agg #[.int .i64 p0,.int .i64 p1,.int .i64 p2,.int .i64 p3]] w fun v w'=>Ext w w'/\∃e,v=.int .i64 e/\(okP p0 p1 p2 p3->e=0)/\(¬okP p0 p1 p2 p3->e=4):=by
 refine zsD _ _ _ _ w _ ?_
 intro b0 hb
 refine⟨fun h w1 he=>⟨he,4,rfl,fun hk=>?_,fun _=>rfl⟩,fun h w1 he=>⟨he,0,rfl,fun _=>rfl,fun hn=>?_⟩⟩<;>unfold okP at *<;>omega
def errD(p0 p1 p2 p3 n e:Int):Prop:=(¬okP p0 p1 p2 p3->e=4)/\(okP p0 p1 p2 p3->(n<1\/p3<n)->e=5)/\(okP p0 p1 p2 p3->(1<=n/\n<=p3)->e=0)
theorem zMc(p0 p1 p2 p3 n:Int)(hn:InR .i64 n)(w:World):FnP Tryz.prog zd6 #[.agg #[.int .i64 p0,.int .i64 p1,.int .i64 p2,.int .i64 p3],.int .i64 n] w fun v w' =>
  Ext w w'/\∃a e,v=.tuple #[.int .i64 a,.int .i64 e]/\errD p0 p1 p2 p3 n e/\(e≠0->a=0)/\(e=0->a=dl p0 p1 p2 (n-1).toNat):=by
 refine zsE _ _ _ _ _ w _ ?_
 have hn:=ziF hn
 intro b0 hb w1 h1
 refine(zBU _ _ _ _ w1).mono fun v w2 ⟨h2,e,he,ho,hno⟩=>⟨h2,e,he,fun hne w4 h4=>⟨h4,0,e,rfl,?_,fun _=>rfl,fun h0=>absurd h0 hne⟩,fun he0=>?_⟩
 ·have:¬okP p0 p1 p2 p3:=fun h=>hne (ho h)
  exact⟨hno,fun h=>absurd h this,fun h=>absurd h this⟩
 ·have hok:okP p0 p1 p2 p3:=by
   by_cases h:okP p0 p1 p2 p3
   ·exact h
   ·have:=hno h;omega
  refine⟨fun hr w4 h4=>⟨h4,0,5,rfl,⟨fun h=>absurd hok h,fun _ _=>rfl,fun _ h=>by omega⟩,fun _=>rfl,fun h=>by omega⟩,fun hr=>⟨zzn (by omega),?_⟩⟩
  refine⟨fun d k w'=>Ext w w'/\0<=k/\k<=n-1/\d=dl p0 p1 p2 k.toNat,fun d k _=>(n-1-k).toNat,⟨Ext.refl w,by omega,by omega,rfl⟩,?_⟩
  rintro d k w7 ⟨hw,hk0,hk1,rfl⟩
  have hd:=zms hok k.toNat
  have hm1:=zJi (a:=dl p0 p1 p2 k.toNat) (b:=p1) (by unfold okP at hok;omega) (by unfold okP at hok;omega)
  have hm2:=zKZ (a:=dl p0 p1 p2 k.toNat) (b:=p1) (by unfold okP at hok;omega) (by unfold okP at hok;omega)
  unfold okP at hok
  refine⟨fun hlt=>⟨zzn (by omega),zzn (by omega),⟨hw,by omega,by omega,?_⟩,by simp only[];omega⟩,fun hge w8 h8=>⟨hw.trans h8,_,0,rfl,⟨fun h=>absurd hok h,fun _ h=>by omega,fun _ _=>rfl⟩,fun h=>absurd rfl h,fun _=>?_⟩⟩
  ·rw[show(k+1).toNat=k.toNat+1 by omega];rfl
  ·rw[show k=n-1 by omega]
abbrev zn2(p:Pol):Prop:=okP p.first p.times p.most p.tries
def zmr(p:Pol)(n:Int):Int:=dl p.first p.times p.most (n-1).toNat
def stF(F:Fm)(k m:Nat)(v:Int):Fm:=setF F k (zkc m v (F.jobs.getD k default))
def zad(F:Fm)(k:Nat):St:=F.jobs.getD k default
theorem zb0(F:Fm)(k m:Nat)(v:Int):(stF F k m v).jobs.length=F.jobs.length:=by simp[stF,setF]
theorem zkJ(F:Fm)(k m:Nat)(v:Int):(stF F k m v).hosts=F.hosts:=rfl
theorem zkX(F:Fm){k m:Nat}(v:Int)(hk:k<F.jobs.length)(i:Nat):zad (stF F k m v) i=if i=k then zkc m v (zad F k) else zad F i:=by
 unfold zad stF setF
 simp only[List.getD_eq_getElem?_getD,List.getElem?_set]
 by_cases h:k=i
 ·subst h;simp[hk]
 ·have h':¬i=k:=fun h2=>h h2.symm
  simp[h,h']
theorem zvm(F:Fm){k m:Nat}(v:Int)(hk:k<F.jobs.length):(stF F k m v).jobs.map (·.job)=F.jobs.map (·.job):=by
 unfold stF setF
 rw[List.map_set,zna]
 refine List.ext_getElem? fun i=>?_
 rw[List.getElem?_set]
 by_cases h:k=i
 ·subst h
  simp[List.getD_eq_getElem?_getD,hk]
 ·simp[h]
theorem zH3{F G:Fm}(h:G.jobs.map (·.job)=F.jobs.map (·.job))(ha:zmn F):zmn G:=by
 intro i s hs y hy
 have h1:(G.jobs.map (·.job))[i]?=some s.job:=by rw[List.getElem?_map,hs];rfl
 rw[h,List.getElem?_map] at h1
 obtain⟨s',hs',e⟩:=Option.map_eq_some_iff.1 h1
 exact ha i s' hs' y (by rw[e];exact hy)
theorem ztn{F:Fm}{k m:Nat}{v:Int}(hk:k<F.jobs.length)(ha:zmn F):zmn (stF F k m v):=zH3 (zvm F v hk) ha
theorem zC6{F:Fm}{k:Nat}(h:k<F.jobs.length):F.jobs[k]?=some (zad F k):=by simp[zad,List.getD_eq_getElem?_getD,h]
theorem ziH{F:Fm}{k:Nat}{s:St}(h:F.jobs[k]?=some s):zad F k=s:=by simp[zad,List.getD_eq_getElem?_getD,h]
section
variable {O:Nat->Prop} {B fb:Nat} {w:World} {P:Pl} {F:Fm}
theorem zLj(x:FXO O B w fb P F)(hn0:0<=F.now/\F.now<=1099511627776)(n:Int):FnP Tryz.prog zcG #[.pointer (ptr fb),.int .i64 n] w fun v w'=>∃e:Int,v=.int .i64 e /\
  ((e≠0/\e=4/\Ext w w')\/(e=0/\(0<=n/\n<=1000000000/\F.now+n<=1099511627776)/\FXO O B w' fb P { F with now:=F.now+n }/\Fr (ft fb P.jp) w w'))/\(e=0↔(0<=n/\n<=1000000000/\F.now+n<=1099511627776)):=by
 have ne:=zaO fb
 refine zod (ptr fb) n w _ ⟨fun _=>ne,fun _=>ne,fun h w0 h0=>⟨4,rfl,.inl ⟨by decide,rfl,h0⟩,by omega⟩,fun h=>⟨_,x.cell (i:=5) rfl,i64 (by omega),fun h2 w1 h1=>⟨4,rfl,.inl ⟨by decide,rfl,h1⟩,by omega⟩,fun h2=>⟨ne,ne,_,x.cell (i:=5) rfl,i64 (by omega),ne,ne,?_⟩⟩⟩
 refine zaU (off:=5) x.slot rfl (by simp) (by simp) (by intro u hu;simp at hu;subst hu;rfl) (by simp) fun w2 o2 g2 w3 h3=>?_
 obtain⟨y,f⟩:=x.slot_to (F':={ F with now:=F.now+n }) (P':=P) o2 g2 rfl rfl rfl rfl (fun w'' k=>x.hs w'' (((zaT g2 fun a ha=>by cases ha;exact .inr (.inl rfl))).tr k)) x.hO
 exact⟨0,rfl,.inr ⟨rfl,⟨h.1,h.2,h2⟩,y.ext h3,f.tr (zac h3)⟩,by omega⟩
def zN8(F:Fm)(s:St):Bool:=s.job.aft.any fun y=>decide (za7 F y=4)||decide (za7 F y=5)
def zb9(F:Fm)(k:Nat):Fm:=if (zad F k).what=1/\zN8 F (zad F k)=true then stF F k 11 5 else F
def lostTo(F:Fm):Nat->Fm
 |0 => F
 |n+1 => zb9 (lostTo F n) n
def znW(F:Fm):Fm:=lostTo F F.jobs.length
theorem zwT(F:Fm)(k:Nat):(zb9 F k).jobs.length=F.jobs.length:=by unfold zb9;split<;>simp[zb0]
theorem zhV(F:Fm):∀n,(lostTo F n).jobs.length=F.jobs.length
 |0 => rfl
 |n+1 => by rw[lostTo,zwT,zhV F n]
theorem ztH{F:Fm}(ha:zmn F):∀n,n<=F.jobs.length->zmn (lostTo F n)
 |0,_ => ha
 |n+1,h => by
  have ih:=ztH ha n (by omega)
  rw[lostTo,zb9]
  split
  ·exact ztn (by rw[zhV];omega) ih
  ·exact ih
theorem FXO.put(x:FXO O B w fb P F){k:Int}(h0:0<=k)(h1:k<F.jobs.length){m:Nat}(hm:11<=m/\m<=15)(v:Int){ns:List Nat}(hns:∀b∈ns,¬ft fb P.jp b){K:World->Prop}
 (hk:∀w' P',P'.jp=P.jp->FXO O B w' fb P' (stF F k.toNat m v)->Fr (ft fb P.jp) w w'->K w'):zak w (pAdd (pIdx P.jp k 16) m) [.int .i64 v] ns K:=x.set h0 h1 hm v hns fun w' y f=>hk w' (setP P k.toNat (zkc m v (F.jobs.getD k.toNat default))) rfl y f
theorem zKW(x:FXO O B w fb P F)(ha:zmn F):FnP Tryz.prog zaF #[.pointer (ptr fb)] w fun v w'=>v=.tuple #[]/\∃P',P'.jp=P.jp/\FXO O B w' fb P' (znW F)/\Fr (ft fb P.jp) w w':=by
 have ne:=zaO fb
 refine zoe (ptr fb) w _ fun w0 e0=>zbc (by simp[Value.oneCell']) fun w1 o1 e1=>?_
 have e01:=e0.trans e1
 have x1:=x.ext e01
 generalize hp1:(some ⟨w0.heap.size,0,none⟩:Option Addr)=p1
 rw[hp1] at o1
 have o1':=o1 w0.heap.size (Nat.le_refl _)
 have c1:Go.Sx.cell w1 p1 0=some (.pointer (ptr fb)):=o1'.cells 0 _ rfl
 have np:∀a,p1=some a->¬ft fb P.jp a.block:=fun a ha hf=>by
  have:=(x.foot hf).2
  have:=(o1'.lt a ha).1
  have:=e0.size
  omega
 have hl0:=x.jO.1
 refine⟨_,c1,ne,ne,_,_,_,x1.cell (i:=6) rfl,?_⟩
 rw[x1.len]
 refine⟨fun k w'=>0<=k/\k<=F.jobs.length/\Fr (ft fb P.jp) w1 w'/\∃P',P'.jp=P.jp/\FXO O B w' fb P' (lostTo F k.toNat),fun k _=>(F.jobs.length-k).toNat,⟨by omega,by omega,Fr.refl _ _,P,rfl,x1⟩,?_⟩
 rintro k w8 ⟨hk0,hk1,f8,P',hP,x8⟩
 have ll:=zhV F k.toNat
 refine⟨fun hlt=>?_,fun hge w9 h9=>⟨rfl,P',hP,?_,((zac e01).tr f8).tr (zac h9)⟩⟩
 ·have c8:Go.Sx.cell w8 p1 0=some (.pointer (ptr fb)):=zea c1 f8 np
  obtain⟨r,hr,hF,hjp,hne,_,g,hJ,hok,hwf⟩:=x8.st hk0 (by omega)
  have hja:zad (lostTo F k.toNat) k.toNat=r.s:=ziH hF
  have nxt:∀{w},FXO O B w fb P' (zb9 (lostTo F k.toNat) k.toNat)->FXO O B w fb P' (lostTo F (k+1).toNat):=fun h=>by rw[show(k+1).toNat=k.toNat+1 by omega];exact h
  have same:¬(r.s.what=1/\zN8 (lostTo F k.toNat) r.s=true)->lostTo F (k+1).toNat=lostTo F k.toNat:=fun h=>by
   rw[show(k+1).toNat=k.toNat+1 by omega,lostTo,zb9,hja,if_neg h]
  refine⟨_,c8,ne,ne,_,_,_,x8.cell (i:=6) rfl,hjp,hk0,by rw[x8.len];omega,hne,hne,_,g 11 _ rfl,fun _=>hne,fun _=>hne,fun _=>by rw[zaG];exact hne,fun hw=>?_,fun hw=>⟨i64 (by omega),⟨by omega,by omega,f8,P',hP,by rw[same fun h=>hw h.1];exact x8⟩,by simp only[];omega⟩⟩
  refine⟨_,_,_,by rw[zaG];exact g 10 _ rfl,fun w17 h17=>?_⟩
  have hin:∀y∈r.s.job.aft,1<=y/\y<=(lostTo F k.toNat).jobs.length:=fun y hy=>by have:=ztH ha k.toNat (by omega) _ _ hF y hy;omega
  have hlen:=hok.len
  refine(zp9 r.pf r.cf r.s.job.aft (by omega) _ (fun y=>decide (za7 (lostTo F k.toNat) y=4)||decide (za7 (lostTo F k.toNat) y=5)) w17 (hJ.2.ext h17) fun y hy w' hw'=>⟨zd3,#[.pointer p1],rfl,zNa (x8.ext (h17.trans hw')) (zar (h17.trans hw') c8) (hin y hy)⟩).mono fun v w18 ⟨e18,b,hv,hb⟩=>⟨e18,b,hv,fun hbt=>⟨hne,hne,?_⟩,fun hbf=>⟨i64 (by omega),⟨by omega,by omega,f8,P',hP,?_⟩,by simp only[];omega⟩⟩
  ·have hbad:zN8 (lostTo F k.toNat) r.s=true:=by
    obtain⟨y,hy,h3⟩:=hb.1 hbt
    exact List.any_eq_true.2 ⟨y,hy,h3⟩
   refine x8.put hk0 (by omega) (by omega) 5 (by simp) fun w20 P'' hP'' x20 f20=>⟨i64 (by omega),⟨by omega,by omega,f8.tr (by rw[hP] at f20;exact f20),P'',hP''.trans hP,?_⟩,by simp only[];omega⟩
   rw[show(k+1).toNat=k.toNat+1 by omega,lostTo,zb9,hja,if_pos ⟨hw,hbad⟩]
   exact x20
  ·rw[same fun h=>?_]
   ·exact x8
   ·obtain⟨y,hy,h3⟩:=List.any_eq_true.1 h.2
    have:=hb.2 ⟨y,hy,h3⟩
    rw[hbf] at this;cases this
 ·have:k.toNat=F.jobs.length:=by omega
  rw[this] at x8
  exact x8.ext h9
def LvOk(F:Fm)(k:Nat):Prop:=zlM F.hosts/\0<=(zad F k).host/\(zad F k).host<F.hosts.length/\zk8 (zad F k).job.nd (F.hosts.getD (zad F k).host.toNat default).used
def zlD(F:Fm)(k:Nat):Fm:={ F with hosts:=F.hosts.set (zad F k).host.toNat (zgB (F.hosts.getD (zad F k).host.toNat default) (zjp (F.hosts.getD (zad F k).host.toNat default).used (zad F k).job.nd)) }
def zdW(F:Fm)(k:Nat):Fm:=stF (stF (zlD F k) k 12 0) k 13 0
theorem zFE(x:FXO O B w fb P F){k:Int}(h0:0<=k)(h1:k<F.jobs.length)(hv:LvOk F k.toNat):FnP Tryz.prog zcg #[.pointer (ptr fb),.pointer (pIdx P.jp k 16)] w fun v w'=>v=.tuple #[]/\∃P',P'.jp=P.jp/\FXO O B w' fb P' (zdW F k.toNat)/\Fr (ft fb P.jp) w w':=by
 have ne:=zaO fb
 obtain⟨r,hr,hF,hjp,hne,_,g,hJ,hok,hwf⟩:=x.st h0 h1
 have hja:zad F k.toNat=r.s:=ziH hF
 unfold LvOk at hv
 rw[hja] at hv
 refine zmY (ptr fb) (pIdx P.jp k 16) w _ ⟨ne,ne,_,_,_,x.cell (i:=0) rfl,hne,hne,_,g 12 _ rfl,hne,hne,by rw[zaG];exact hne,by rw[zaG];exact fun h=>hne (zdF.1 h),_,by rw[zaG];exact g 2 _ rfl,_,by rw[zaG,zaq];have:=g 3 _ rfl;rw[zaq] at this;exact this,_,by rw[zaG,zaq];have:=g 4 _ rfl;rw[zaq] at this;exact this,fun w7 h7=>?_⟩
 have x7:=x.ext h7
 have hO:=x.hO
 refine(Give_k P.hp P.hc F.hosts (by omega) hO.2 r.s.host r.s.job.nd w7 (x7.hs w7 (Fr.refl _ _))).mono fun v w8 ⟨e8,p',n',c',e,hv',hcase⟩=>⟨e8,p',n',c',e,hv',ne,ne,?_⟩
 rcases hcase with⟨_,_,hno⟩|⟨_,_,_,_,rfl,_,hS⟩
 ·exact absurd ⟨hok.nd,hv.2.2.2⟩ (hno hv.1 hv.2.1 hv.2.2.1)
 have x8:=x7.ext e8
 refine zaU (off:=0) x8.slot rfl (by simp) (by simp) (by intro u hu;simp at hu;subst hu;rfl) (by simp) fun w13 o13 g13=>⟨hne,hne,?_⟩
 have hG:zlD F k.toNat={ F with hosts:=F.hosts.set r.s.host.toNat (zgB (F.hosts.getD r.s.host.toNat default) (zjp (F.hosts.getD r.s.host.toNat default).used r.s.job.nd)) }:=by unfold zlD;rw[hja]
 have fg:Fr (ft fb P.jp) w8 w13:=zaT g13 fun a ha=>by cases ha;exact .inl rfl
 obtain⟨y,f13⟩:=x8.slot_to (F':=zlD F k.toNat) (P':={ P with hp:=p',hc:=c' }) (by
  rw[hG]
  show Own B w13 zdM 7 (ptr fb) 1 1 [.slice p' (F.hosts.set _ _).length c',_,_,_,_,_,_]
  rw[List.length_set];exact o13) g13 rfl rfl rfl rfl (fun w'' kf=>by
   rw[hG]
   exact hS (ftO O fb P.jp) (fun b hb=>by
    rcases hb with hb|hb
    ·exact x7.olt b hb
    ·exact(x7.foot hb).2) w'' ((fg.mono fun b hb=>.inr hb).tr kf)) (by
  rw[hG]
  refine⟨by show(F.hosts.set _ _).length<=30;rw[List.length_set];exact hO.1,fun h hh=>?_⟩
  have hh:h∈F.hosts.set r.s.host.toNat (zgB (F.hosts.getD r.s.host.toNat default) (zjp (F.hosts.getD r.s.host.toNat default).used r.s.job.nd)):=hh
  rcases List.mem_or_eq_of_mem_set hh with hh|rfl
  ·exact hO.2 h hh
  ·have:=hO.2 _ (zat F.hosts default (i:=r.s.host.toNat) (by omega))
   exact⟨this.1,this.2.1,this.2.2⟩)
 refine y.put (k:=k) h0 h1 (by omega) 0 (by simp) fun w14 P1 hP1 y14 f14=>⟨hne,hne,?_⟩
 have hP1:P1.jp=P.jp:=hP1
 have:=y14.put (k:=k) (m:=13) h0 (by rw[zb0];exact h1) (by omega) 0 (ns:=[]) (by simp) (K:=fun w15=>∀w16,Ext w15 w16->Value.tuple #[]=.tuple #[]/\∃P',P'.jp=P.jp/\FXO O B w16 fb P' (zdW F k.toNat)/\Fr (ft fb P.jp) w w16) fun w15 P2 hP2 y15 f15 w16 h16=>⟨rfl,P2,hP2.trans hP1,y15.ext h16,?_⟩
 ·rw[hP1] at this;exact this
 ·rw[hP1] at f15
  exact(((((zac h7).tr (zac e8)).tr f13).tr f14).tr f15).tr (zac h16)
end
def zuN(j:Jb):St:=⟨j,1,0,0,0,0⟩
def zrC(F:Fm)(j:Jb):Fm:={ F with jobs:=F.jobs++[zuN j] }
def zxa(F:Fm)(j:Jb):Prop:=okJ j/\F.jobs.length≠60/\∀y∈j.aft,y<=F.jobs.length/\za7 F y≠4/\za7 F y≠5
structure Pre(F:Fm):Prop where
 aft:zmn F
 pol:zn2 F.pol
 now:0<=F.now/\F.now<=1099511627776
 run:∀k,k<F.jobs.length->(zad F k).what=2->LvOk F k
 tries:∀k,k<F.jobs.length->0<=(zad F k).tries/\(zad F k).tries<=100
def zIW(w:World)(fb:Nat)(jp jp':Option Addr):Prop:=∀b,ft fb jp' b->ft fb jp b\/w.heap.size<=b
def inJ(F:Fm)(id:Int):Prop:=1<=id/\id<=F.jobs.length
def zLz(F:Fm)(j:Jb)(e:Int):Prop:=(zvT j≠0/\e=zvT j)\/(zvT j=0/\((F.jobs.length=60/\e=7)\/(F.jobs.length≠60/\(((∃y∈j.aft,¬(1<=y/\y<=F.jobs.length))/\e=5)\/((∀y∈j.aft,1<=y/\y<=F.jobs.length) /\
 (((∃y∈j.aft,za7 F y=4\/za7 F y=5)/\e=9)\/((∀y∈j.aft,za7 F y≠4/\za7 F y≠5)/\e=0)))))))
def zvQ(F:Fm)(id e:Int):Prop:=(¬inJ F id/\e=5)\/(inJ F id/\e=9)
section
variable {O:Nat->Prop} {B fb:Nat} {w:World} {P:Pl} {F:Fm}
theorem zcp(F:Fm)(k:Nat):(zdW F k).jobs.length=F.jobs.length:=by unfold zdW;rw[zb0,zb0];rfl
theorem zkD{F:Fm}{k:Nat}(hk:k<F.jobs.length)(i:Nat):zad (zdW F k) i=if i=k then { zad F k with host:=0,since:=0 } else zad F i:=by
 unfold zdW
 have hk':k<(zlD F k).jobs.length:=hk
 rw[zkX _ _ (by rw[zb0];exact hk'),zkX _ _ hk',if_pos rfl]
 split
 ·rfl
 ·rename_i h
  rw[zkX _ _ hk',if_neg h];rfl
theorem zv2{F:Fm}{k:Nat}(hk:k<F.jobs.length)(ha:zmn F):zmn (zdW F k):=by
 unfold zdW
 have hk':k<(zlD F k).jobs.length:=hk
 exact ztn (by rw[zb0];exact hk') (ztn hk' ha)
def zdd(F:Fm)(k:Nat):Fm:=stF (zdW F k) k 15 ((zad F k).tries+1)
def zh2(F:Fm)(k:Nat)(ok:Bool):Fm :=
 if ok=true then stF (zdW F k) k 11 3
 else if (zad F k).tries+1<=F.pol.tries then stF (stF (zdd F k) k 11 1) k 14 (F.now+zmr F.pol ((zad F k).tries+1))
 else znW (stF (zdd F k) k 11 4)
def zCL(F:Fm)(k:Nat):Fm:=znW (stF (if (zad F k).what=2 then zdW F k else F) k 11 5)
theorem FXO.at_(x:FXO O B w fb P F){id:Int}(h:inJ F id):pIdx P.jp (id-1) 16≠none/\(∀(m:Nat) u,(zwh ⟨zad F (id-1).toNat,none,0,none,0⟩)[m]?=some u->11<=m->Go.Sx.cell w (pAdd (pIdx P.jp (id-1) 16) m) 0=some u):=by
 obtain⟨r,hr,hF,_,hne,_,g,_⟩:=x.st (k:=id-1) (by have:=h.1;omega) (by have:=h.2;omega)
 refine⟨hne,fun m u hu hm=>g m u ?_⟩
 rw[ziH hF] at hu
 match m,hm with
 |m+11,_ =>
  rw[<-hu]
  rfl
theorem zvh(x:FXO O B w fb P F)(hp:Pre F)(id:Int)(hid:InR .i64 id)(ok:Bool) :
  FnP Tryz.prog zaV #[.pointer (ptr fb),.int .i64 id,.bool ok] w fun v w'=>∃e:Int,v=.int .i64 e/\(e=0↔inJ F id/\(zad F (id-1).toNat).what=2)/\((e≠0/\zvQ F id e/\Ext w w')\/(e=0/\∃P',P'.jp=P.jp/\FXO O B w' fb P' (zh2 F (id-1).toNat ok)/\Fr (ft fb P.jp) w w')):=by
 have ne:=zaO fb
 refine zlQ (ptr fb) id ok w _ fun w0 h0=>(zH7 (x.ext h0) id hid).mono fun v w1 ⟨e1,hv⟩=>⟨e1,?_⟩
 have h1:=h0.trans e1
 rcases hv with⟨hno,rfl⟩|⟨hi0,hi1,rfl⟩
 ·exact⟨_,rfl,fun _ w3 h3=>⟨5,rfl,⟨fun h=>(by cases h),fun h=>absurd h.1 hno⟩,.inl ⟨by decide,.inl ⟨hno,rfl⟩,h1.trans h3⟩⟩,fun h=>absurd rfl h⟩
 have hin:inJ F id:=⟨hi0,hi1⟩
 have x1:=x.ext h1
 obtain⟨hne,g⟩:=x1.at_ hin
 have hk:(id-1).toNat<F.jobs.length:=by omega
 refine⟨_,rfl,fun h=>absurd h hne,fun _=>⟨hne,hne,_,g 11 _ rfl (by omega),fun hw w4 h4=>⟨9,rfl,⟨fun h=>(by cases h),fun h=>absurd h.2 hw⟩,.inl ⟨by decide,.inr ⟨hin,rfl⟩,h1.trans h4⟩⟩,fun hw w4 h4=>?_⟩⟩
 have hiff:(0:Int)=0↔inJ F id/\(zad F (id-1).toNat).what=2:=⟨fun _=>⟨hin,hw⟩,fun _=>rfl⟩
 refine(zFE (x1.ext h4) (k:=id-1) (by omega) (by omega) (hp.run _ hk hw)).mono fun v w5 ⟨hv,P1,hP1,y5,f5⟩=>⟨hv,fun hok=>⟨hne,hne,?_⟩,fun hok=>?_⟩
 ·have hin5:inJ (zdW F (id-1).toNat) id:=⟨hi0,by rw[zcp];exact hi1⟩
  have:=y5.put (k:=id-1) (m:=11) (by omega) (by rw[zcp];omega) (by omega) 3 (ns:=[]) (by simp) (K:=fun w6=>∀w7,Ext w6 w7->∃e:Int,Value.int .i64 0=.int .i64 e/\(e=0↔inJ F id/\(zad F (id-1).toNat).what=2)/\((e≠0/\zvQ F id e/\Ext w w7)\/(e=0/\∃P',P'.jp=P.jp/\FXO O B w7 fb P' (zh2 F (id-1).toNat ok)/\Fr (ft fb P.jp) w w7))) fun w6 P2 hP2 y6 f6 w7 h7=>⟨0,rfl,hiff,.inr ⟨rfl,P2,hP2.trans hP1,?_,?_⟩⟩
  ·rw[hP1] at this;exact this
  ·unfold zh2;rw[if_pos hok];exact y6.ext h7
  ·rw[hP1] at f6
   exact((((zac h1).tr (zac h4)).tr f5).tr f6).tr (zac h7)
 have hkl:(id-1).toNat<(zdW F (id-1).toNat).jobs.length:=by rw[zcp];exact hk
 have hin5:inJ (zdW F (id-1).toNat) id:=⟨hi0,by rw[zcp];exact hi1⟩
 obtain⟨_,g5⟩:=y5.at_ hin5
 rw[hP1,zkD hk,if_pos rfl] at g5
 have htr:=hp.tries _ hk
 refine⟨hne,hne,_,g5 15 _ rfl (by omega),i64 (by simp only[];omega),hne,hne,?_⟩
 have goal:∀{w7:World}{P2:Pl},P2.jp=P.jp->FXO O B w7 fb P2 (zdd F (id-1).toNat)->Fr (ft fb P.jp) w w7->(ptr fb≠none/\ptr fb≠none/\(pAdd (ptr fb) 1)≠none /\
   ∃t8:Int,Go.Sx.cell w7 (pAdd (ptr fb) 1) 0=some (.int .i64 t8)/\∃t9:Int,Go.Sx.cell w7 (pAdd (ptr fb) 1) 1=some (.int .i64 t9)/\∃t10:Int,Go.Sx.cell w7 (pAdd (ptr fb) 1) 2=some (.int .i64 t10)/\∃t11:Int,Go.Sx.cell w7 (pAdd (ptr fb) 1) 3=some (.int .i64 t11) /\
   (pIdx P.jp (id-1) 16)≠none/\(pIdx P.jp (id-1) 16)≠none/\∃t12:Int,Go.Sx.cell w7 (pAdd (pIdx P.jp (id-1) 16) 15) 0=some (.int .i64 t12) /\
   ∀w13,Ext w7 w13->FnP Tryz.prog zd6 #[(.agg #[(.int .i64 t8),(.int .i64 t9),(.int .i64 t10),(.int .i64 t11)]),(.int .i64 t12)] w13 fun v14 w14=>Ext w13 w14/\∃t15:Int,∃t16:Int,v14=(.tuple #[(.int .i64 t15),(.int .i64 t16)]) /\
    (((
      t16≠0)->(pIdx P.jp (id-1) 16)≠none/\(pIdx P.jp (id-1) 16)≠none/\zak w7 (pAdd (pIdx P.jp (id-1) 16) 11) [(.int .i64 4)] [] fun w17=>∀w18,Ext w17 w18 ->
      FnP Tryz.prog zaF #[(.pointer (ptr fb))] w18 fun v19 w19=>v19=(.tuple #[])/\∀w20,Ext w19 w20->∃e:Int,Value.int .i64 0=.int .i64 e/\(e=0↔inJ F id/\(zad F (id-1).toNat).what=2)/\((e≠0/\zvQ F id e/\Ext w w20)\/(e=0/\∃P',P'.jp=P.jp/\FXO O B w20 fb P' (zh2 F (id-1).toNat ok)/\Fr (ft fb P.jp) w w20)))) /\
    ((
     t16=0)->ptr fb≠none/\ptr fb≠none/\∃t17:Int,Go.Sx.cell w7 (pAdd (ptr fb) 5) 0=some (.int .i64 t17)/\InR .i64 (t17+t15)/\(pIdx P.jp (id-1) 16)≠none/\(pIdx P.jp (id-1) 16)≠none /\
     zak w7 (pAdd (pIdx P.jp (id-1) 16) 11) [(.int .i64 1)] [] fun w18=>(pIdx P.jp (id-1) 16)≠none/\(pIdx P.jp (id-1) 16)≠none/\zak w18 (pAdd (pIdx P.jp (id-1) 16) 14) [(.int .i64 (t17+t15))] [] fun w19=>∀w20,Ext w19 w20 ->
       ∃e:Int,Value.int .i64 0=.int .i64 e/\(e=0↔inJ F id/\(zad F (id-1).toNat).what=2)/\((e≠0/\zvQ F id e/\Ext w w20)\/(e=0/\∃P',P'.jp=P.jp/\FXO O B w20 fb P' (zh2 F (id-1).toNat ok)/\Fr (ft fb P.jp) w w20)))):=by
  intro w7 P2 hP2 y7 f7
  have hin7:inJ (zdd F (id-1).toNat) id:=⟨hi0,by unfold zdd;rw[zb0,zcp];exact hi1⟩
  obtain⟨_,g7⟩:=y7.at_ hin7
  have hat7:zad (zdd F (id-1).toNat) (id-1).toNat={ zad F (id-1).toNat with host:=0,since:=0,tries:=(zad F (id-1).toNat).tries+1 }:=by
   unfold zdd
   rw[zkX _ _ hkl,if_pos rfl,zkD hk,if_pos rfl];rfl
  rw[hP2,hat7] at g7
  have hlt:(zdd F (id-1).toNat).jobs.length=F.jobs.length:=by unfold zdd;rw[zb0,zcp]
  have hpl:(zdd F (id-1).toNat).pol=F.pol:=rfl
  have hnw:(zdd F (id-1).toNat).now=F.now:=rfl
  have pc:∀(i:Nat)(v:Value),(fcs P2 (zdd F (id-1).toNat))[1+i]?=some v->Go.Sx.cell w7 (pAdd (ptr fb) 1) i=some v:=fun i v hv=>by
   have:=y7.cell hv
   rw[zaq] at this ⊢
   exact this
  have hdly:1<=(zad F (id-1).toNat).tries+1:=by omega
  refine⟨ne,ne,(fun h=>ne (zdF.1 h)),_,pc 0 _ rfl,_,pc 1 _ rfl,_,pc 2 _ rfl,_,pc 3 _ rfl,hne,hne,_,g7 15 _ rfl (by omega),fun w13 h13=>?_⟩
  refine(zMc F.pol.first F.pol.times F.pol.most F.pol.tries _ (i64 (by simp only[];omega)) w13).mono fun v w14 ⟨e14,d,e,hv,herr,_,hd⟩=>⟨e14,d,e,hv,fun hne'=>⟨hne,hne,?_⟩,fun hz=>⟨ne,ne,_,y7.cell (i:=5) rfl,?_,hne,hne,?_⟩⟩
  ·have hgt:¬(zad F (id-1).toNat).tries+1<=F.pol.tries:=fun h=>hne' (herr.2.2 hp.pol ⟨hdly,h⟩)
   have:=y7.put (k:=id-1) (m:=11) (by omega) (by rw[hlt];omega) (by omega) 4 (ns:=[]) (by simp) (K:=fun w17=>∀w18,Ext w17 w18 ->
      FnP Tryz.prog zaF #[(.pointer (ptr fb))] w18 fun v19 w19=>v19=(.tuple #[])/\∀w20,Ext w19 w20->∃e:Int,Value.int .i64 0=.int .i64 e/\(e=0↔inJ F id/\(zad F (id-1).toNat).what=2)/\((e≠0/\zvQ F id e/\Ext w w20)\/(e=0/\∃P',P'.jp=P.jp/\FXO O B w20 fb P' (zh2 F (id-1).toNat ok)/\Fr (ft fb P.jp) w w20))) fun w17 P3 hP3 y17 f17 w18 h18=>(zKW (y17.ext h18) (ztn (by rw[hlt];exact hk) (ztn hkl (zv2 hk hp.aft)))).mono fun v w19 ⟨hv,P4,hP4,y19,f19⟩=>⟨hv,fun w20 h20=>⟨0,rfl,hiff,.inr ⟨rfl,P4,hP4.trans (hP3.trans hP2),?_,?_⟩⟩⟩
   ·rw[hP2] at this;exact this
   ·unfold zh2;rw[if_neg (by rw[hok];simp),if_neg hgt];exact y19.ext h20
   ·rw[hP3,hP2] at f19
    rw[hP2] at f17
    exact(((f7.tr f17).tr (zac h18)).tr f19).tr (zac h20)
  ·have hle:(zad F (id-1).toNat).tries+1<=F.pol.tries:=by
    by_cases h:(zad F (id-1).toNat).tries+1<=F.pol.tries
    ·exact h
    ·have:=herr.2.1 hp.pol (.inr (by simp only[];omega));omega
   have hdb:=zms hp.pol ((zad F (id-1).toNat).tries+1-1).toNat
   have hd':d=dl F.pol.first F.pol.times F.pol.most ((zad F (id-1).toNat).tries+1-1).toNat:=hd hz
   have hpp:=hp.pol
   have hnn:=hp.now
   unfold zn2 okP at hpp
   rw[hnw]
   exact i64 (by omega)
  ·have hle:(zad F (id-1).toNat).tries+1<=F.pol.tries:=by
    by_cases h:(zad F (id-1).toNat).tries+1<=F.pol.tries
    ·exact h
    ·have:=herr.2.1 hp.pol (.inr (by simp only[];omega));omega
   have hd':d=zmr F.pol ((zad F (id-1).toNat).tries+1):=hd hz
   have:=y7.put (k:=id-1) (m:=11) (by omega) (by rw[hlt];omega) (by omega) 1 (ns:=[]) (by simp) (K:=fun w18=>(pIdx P.jp (id-1) 16)≠none/\(pIdx P.jp (id-1) 16)≠none/\zak w18 (pAdd (pIdx P.jp (id-1) 16) 14) [(.int .i64 (F.now+d))] [] fun w19=>∀w20,Ext w19 w20 ->
       ∃e:Int,Value.int .i64 0=.int .i64 e/\(e=0↔inJ F id/\(zad F (id-1).toNat).what=2)/\((e≠0/\zvQ F id e/\Ext w w20)\/(e=0/\∃P',P'.jp=P.jp/\FXO O B w20 fb P' (zh2 F (id-1).toNat ok)/\Fr (ft fb P.jp) w w20))) fun w18 P3 hP3 y18 f18=>⟨hne,hne,?_⟩
   ·rw[hP2] at this;exact this
   have hP3:=hP3.trans hP2
   have:=y18.put (k:=id-1) (m:=14) (by omega) (by rw[zb0,hlt];omega) (by omega) (F.now+d) (ns:=[]) (by simp) (K:=fun w19=>∀w20,Ext w19 w20 ->
       ∃e:Int,Value.int .i64 0=.int .i64 e/\(e=0↔inJ F id/\(zad F (id-1).toNat).what=2)/\((e≠0/\zvQ F id e/\Ext w w20)\/(e=0/\∃P',P'.jp=P.jp/\FXO O B w20 fb P' (zh2 F (id-1).toNat ok)/\Fr (ft fb P.jp) w w20))) fun w19 P4 hP4 y19 f19 w20 h20=>⟨0,rfl,hiff,.inr ⟨rfl,P4,hP4.trans hP3,?_,?_⟩⟩
   ·rw[hP3] at this;exact this
   ·unfold zh2;rw[if_neg (by rw[hok];simp),if_pos hle,<-hd'];exact y19.ext h20
   ·rw[hP3] at f19
    rw[hP2] at f18
    exact((f7.tr f18).tr f19).tr (zac h20)
 have:=y5.put (k:=id-1) (m:=15) (by omega) (by rw[zcp];omega) (by omega) ((zad F (id-1).toNat).tries+1) (ns:=[]) (by simp) fun w7 P2 hP2 y7 f7=>goal (hP2.trans hP1) y7 (by
  rw[hP1] at f7
  exact(((zac h1).tr (zac h4)).tr f5).tr f7)
 rw[hP1] at this
 exact this
theorem zAY(x:FXO O B w fb P F)(hp:Pre F)(id:Int)(hid:InR .i64 id) :
  FnP Tryz.prog zcY #[.pointer (ptr fb),.int .i64 id] w fun v w'=>∃e:Int,v=.int .i64 e/\(e=0↔inJ F id/\((zad F (id-1).toNat).what=1\/(zad F (id-1).toNat).what=2))/\((e≠0/\zvQ F id e/\Ext w w')\/(e=0/\∃P',P'.jp=P.jp/\FXO O B w' fb P' (zCL F (id-1).toNat)/\Fr (ft fb P.jp) w w')):=by
 have ne:=zaO fb
 refine zlP (ptr fb) id w _ fun w0 h0=>(zH7 (x.ext h0) id hid).mono fun v w1 ⟨e1,hv⟩=>⟨e1,?_⟩
 have h1:=h0.trans e1
 rcases hv with⟨hno,rfl⟩|⟨hi0,hi1,rfl⟩
 ·exact⟨_,rfl,fun _ w3 h3=>⟨5,rfl,⟨fun h=>(by cases h),fun h=>absurd h.1 hno⟩,.inl ⟨by decide,.inl ⟨hno,rfl⟩,h1.trans h3⟩⟩,fun h=>absurd rfl h⟩
 have hin:inJ F id:=⟨hi0,hi1⟩
 have x1:=x.ext h1
 obtain⟨hne,g⟩:=x1.at_ hin
 have hk:(id-1).toNat<F.jobs.length:=by omega
 have g11:=g 11 _ rfl (by omega)
 have fin:∀{w6:World}{P1:Pl}{G:Fm},P1.jp=P.jp->FXO O B w6 fb P1 G->G.jobs.length=F.jobs.length->zmn G->Fr (ft fb P.jp) w w6->zCL F (id-1).toNat=znW (stF G (id-1).toNat 11 5)->((zad F (id-1).toNat).what=1\/(zad F (id-1).toNat).what=2) ->
   zak w6 (pAdd (pIdx P.jp (id-1) 16) 11) [(.int .i64 5)] [] fun w7=>∀w8,Ext w7 w8->FnP Tryz.prog zaF #[(.pointer (ptr fb))] w8 fun v9 w9=>v9=(.tuple #[])/\∀w10,Ext w9 w10 ->
    ∃e:Int,Value.int .i64 0=.int .i64 e/\(e=0↔inJ F id/\((zad F (id-1).toNat).what=1\/(zad F (id-1).toNat).what=2))/\((e≠0/\zvQ F id e/\Ext w w10)\/(e=0/\∃P',P'.jp=P.jp/\FXO O B w10 fb P' (zCL F (id-1).toNat)/\Fr (ft fb P.jp) w w10)):=by
  intro w6 P1 G hP1 y6 hGl hGa f6 hc hw
  have:=y6.put (k:=id-1) (m:=11) (by omega) (by omega) (by omega) 5 (ns:=[]) (by simp) (K:=fun w7=>∀w8,Ext w7 w8->FnP Tryz.prog zaF #[(.pointer (ptr fb))] w8 fun v9 w9=>v9=(.tuple #[])/\∀w10,Ext w9 w10 ->
    ∃e:Int,Value.int .i64 0=.int .i64 e/\(e=0↔inJ F id/\((zad F (id-1).toNat).what=1\/(zad F (id-1).toNat).what=2))/\((e≠0/\zvQ F id e/\Ext w w10)\/(e=0/\∃P',P'.jp=P.jp/\FXO O B w10 fb P' (zCL F (id-1).toNat)/\Fr (ft fb P.jp) w w10))) fun w7 P2 hP2 y7 f7 w8 h8=>(zKW (y7.ext h8) (ztn (by omega) hGa)).mono fun v w9 ⟨hv,P3,hP3,y9,f9⟩=>⟨hv,fun w10 h10=>⟨0,rfl,⟨fun _=>⟨hin,hw⟩,fun _=>rfl⟩,.inr ⟨rfl,P3,hP3.trans (hP2.trans hP1),?_,?_⟩⟩⟩
  ·rw[hP1] at this;exact this
  ·rw[hc];exact y9.ext h10
  ·rw[hP2,hP1] at f9
   rw[hP1] at f7
   exact(((f6.tr f7).tr (zac h8)).tr f9).tr (zac h10)
 refine⟨_,rfl,fun h=>absurd h hne,fun _=>⟨hne,hne,_,g11,fun _=>hne,fun _=>hne,fun hw1=>⟨_,g11,fun hw2 w5 h5=>⟨9,rfl,⟨fun h=>(by cases h),fun h=>(h.2.elim (fun h=>hw1 h) (fun h=>hw2 h)).elim⟩,.inl ⟨by decide,.inr ⟨hin,rfl⟩,h1.trans h5⟩⟩,fun hw2=>⟨hne,hne,_,g11,fun _ w6 h6=>?_,fun h=>absurd hw2 h⟩⟩,fun hw1=>⟨hne,hne,_,g11,fun h=>by omega,fun hw2=>⟨hne,hne,?_⟩⟩⟩⟩
 ·refine(zFE (x1.ext h6) (k:=id-1) (by omega) (by omega) (hp.run _ hk hw2)).mono fun v w7 ⟨hv,P1,hP1,y7,f7⟩=>⟨hv,hne,hne,?_⟩
  exact fin hP1 y7 (zcp _ _) (zv2 hk hp.aft) (((zac h1).tr (zac h6)).tr f7) (by unfold zCL;rw[if_pos hw2]) (.inr hw2)
 ·exact fin rfl x1 rfl hp.aft (zac h1) (by unfold zCL;rw[if_neg hw2]) (.inl hw1)
end
def zrp(F:Fm)(id:Int):Int:=(zad F (id-1).toNat).job.prio
def zcn(F:Fm)(a b:Int):Prop:=zrp F b<zrp F a\/zrp F a=zrp F b/\a<b
def zh1(F:Fm):Nat->List Int
 |0 => []
 |k+1 => if zdY F (zad F k)=true then zh1 F k++[(k:Int)+1] else zh1 F k
abbrev rdy(F:Fm):List Int:=zh1 F F.jobs.length
theorem zge{F:Fm}{x:Int}:∀{k:Nat},x∈zh1 F k↔1<=x/\x<=k/\zdY F (zad F (x-1).toNat)=true
 |0 => by simp[zh1];omega
 |k+1 => by
  have ih:=zge (F:=F) (x:=x) (k:=k)
  unfold zh1
  split
  ·rename_i h
   rw[List.mem_append,ih]
   constructor
   ·rintro (⟨h1,h2,h3⟩|h1)
    ·exact⟨h1,by omega,h3⟩
    ·simp at h1;subst h1
     exact⟨by omega,by omega,by rw[show((k:Int)+1-1).toNat=k by omega];exact h⟩
   ·rintro⟨h1,h2,h3⟩
    by_cases h4:x<=k
    ·exact .inl ⟨h1,h4,h3⟩
    ·exact .inr (by simp;omega)
  ·rename_i h
   rw[ih]
   constructor
   ·rintro⟨h1,h2,h3⟩;exact⟨h1,by omega,h3⟩
   ·rintro⟨h1,h2,h3⟩
    refine⟨h1,?_,h3⟩
    by_cases h4:x<=k
    ·exact h4
    ·have:(x-1).toNat=k:=by omega
     rw[this] at h3
     exact absurd h3 h
theorem ziW(F:Fm):∀k,(zh1 F k).Nodup
 |0 => by simp[zh1]
 |k+1 => by
  unfold zh1
  split
  ·refine List.nodup_append.2 ⟨ziW F k,by simp,fun a ha b hb=>?_⟩
   simp at hb;subst hb
   have:=(zge.1 ha).2.1
   omega
  ·exact ziW F k
theorem zrr(F:Fm):∀k,(zh1 F k).length<=k
 |0 => by simp[zh1]
 |k+1 => by
  have:=zrr F k
  unfold zh1
  split
  ·rw[List.length_append];simp;omega
  ·omega
def zqM(F:Fm)(k:Int):Ht:=F.hosts.getD k.toNat default
def zlX(G:Fm)(k0:Nat)(k:Int):Fm:={ G with hosts:=G.hosts.set k.toNat (zgB (zqM G k) (zyz (zqM G k).used (zad G k0).job.nd)) }
def zgt(G:Fm)(k0:Nat)(k:Int):Fm:=stF (stF (stF (zlX G k0 k) k0 11 2) k0 12 k) k0 13 G.now
theorem zkb(G:Fm)(k0:Nat)(k:Int):(zgt G k0 k).jobs.length=G.jobs.length:=by unfold zgt;rw[zb0,zb0,zb0];rfl
theorem zxM{G:Fm}{k0:Nat}(hk:k0<G.jobs.length)(k:Int)(i:Nat):zad (zgt G k0 k) i=if i=k0 then { zad G k0 with what:=2,host:=k,since:=G.now } else zad G i:=by
 unfold zgt
 have hk':k0<(zlX G k0 k).jobs.length:=hk
 rw[zkX _ _ (by rw[zb0,zb0];exact hk'),zkX _ _ (by rw[zb0];exact hk'),zkX _ _ hk',if_pos rfl,if_pos rfl]
 split
 ·rfl
 ·rename_i h
  rw[zkX _ _ (by rw[zb0];exact hk'),if_neg h,zkX _ _ hk',if_neg h];rfl
theorem zJP{G:Fm}{k0:Nat}(hk:k0<G.jobs.length)(k:Int):(zgt G k0 k).jobs.map (·.job)=G.jobs.map (·.job):=by
 unfold zgt
 have hk':k0<(zlX G k0 k).jobs.length:=hk
 rw[zvm _ _ (by rw[zb0,zb0];exact hk'),zvm _ _ (by rw[zb0];exact hk'),zvm _ _ hk'];rfl
theorem zNl{a b c:Nd}(ha:okN a)(hb:okN b)(hc:okN c)(h:zk8 a (zjp c b)):okN (zyz b a)/\zk8 (zyz b a) c:=by
 unfold okN zk8 zjp zyz at *
 simp only at *
 omega
theorem zw8{L:List Ht}{i:Nat}(h:zlM L)(hi:i<L.length){s:Nd}(h1:okN s)(h2:zk8 s (L.getD i default).has):zlM (L.set i (zgB (L.getD i default) s)):=by
 have hm:=zat L default (i:=i) hi
 refine⟨by rw[List.length_set];exact h.1,fun x hx=>?_,?_⟩
 ·rcases List.mem_or_eq_of_mem_set hx with hx|rfl
  ·exact h.2.1 x hx
  ·obtain⟨a,b,c,d,_,_⟩:=h.2.1 _ hm
   exact⟨a,b,c,d,h1,h2⟩
 ·have:(L.set i (zgB (L.getD i default) s)).map (·.name)=L.map (·.name):=by
   rw[List.map_set]
   refine List.ext_getElem? fun j=>?_
   rw[List.getElem?_set]
   by_cases hj:i=j
   ·subst hj
    simp[List.getD_eq_getElem?_getD,hi,zgB]
   ·simp[hj]
  rw[this]
  exact h.2.2
theorem zw7{G:Fm}{k0:Nat}{k:Int}(h:zlM G.hosts)(h0:0<=k)(h1:k<G.hosts.length)(ha:okN (zad G k0).job.nd)(hf:zk8 (zad G k0).job.nd (zjp (zqM G k).has (zqM G k).used)):zlM (zlX G k0 k).hosts:=by
 have hm:=zat G.hosts default (i:=k.toNat) (by omega)
 obtain⟨_,_,_,c,d,_⟩:=h.2.1 _ hm
 obtain⟨a1,a2⟩:=zNl ha d c hf
 exact zw8 h (by omega) a1 a2
abbrev zwo(G:Fm)(id:Int):List Int:=zcf G.hosts (zad G (id-1).toNat).job.ask (zad G (id-1).toNat).job.nd G.hosts.length
inductive zr2:Fm->List Int->Fm->List (Int×Int)->Prop
 |nil (F:Fm):zr2 F [] F []
 |skip {F F':Fm} {id:Int} {ids:List Int} {out:List (Int×Int)}:zwo F id=[]->zr2 F ids F' out->zr2 F (id::ids) F' out
 |run {F F':Fm} {id k:Int} {ids:List Int} {out:List (Int×Int)}:zgI F.hosts (zad F (id-1).toNat).job.ask (zad F (id-1).toNat).job.nd k->zr2 (zgt F (id-1).toNat k) ids F' out->zr2 F (id::ids) F' ((id,k)::out)
theorem zr2.snoc_skip{F F':Fm}{id:Int}{ids:List Int}{out:List (Int×Int)}(h:zr2 F ids F' out)(hs:zwo F' id=[]):zr2 F (ids++[id]) F' out:=by
 induction h with
 |nil F => exact .skip hs (.nil F)
 |skip h1 _ ih => exact .skip h1 (ih hs)
 |run h1 _ ih => exact .run h1 (ih hs)
theorem zr2.snoc_run{F F':Fm}{id k:Int}{ids:List Int}{out:List (Int×Int)}(h:zr2 F ids F' out)(hs:zgI F'.hosts (zad F' (id-1).toNat).job.ask (zad F' (id-1).toNat).job.nd k):zr2 F (ids++[id]) (zgt F' (id-1).toNat k) (out++[(id,k)]):=by
 induction h with
 |nil F => exact .run hs (.nil _)
 |skip h1 _ ih => exact .skip h1 (ih hs)
 |run h1 _ ih => exact .run h1 (ih hs)
theorem zr2.one{F F1:Fm}{ids:List Int}{o1:List (Int×Int)}(h:zr2 F ids F1 o1):∀{F2:Fm} {o2:List (Int×Int)},zr2 F ids F2 o2->F1=F2/\o1=o2:=by
 induction h with
 |nil F => intro F2 o2 g;cases g;exact⟨rfl,rfl⟩
 |skip h1 _ ih =>
  intro F2 o2 g
  cases g with
  |skip _ g2 => exact ih g2
  |run g1 _ => have:=g1.1;unfold zwo at h1;rw[h1] at this;cases this
 |run h1 _ ih =>
  intro F2 o2 g
  cases g with
  |skip g1 _ => have:=h1.1;unfold zwo at g1;rw[g1] at this;cases this
  |run g1 g2 =>
   obtain rfl:=zIa h1 g1
   obtain⟨rfl,rfl⟩:=ih g2
   exact⟨rfl,rfl⟩
def zLu(F:Fm)(T:List Int):Prop:=T.Perm (rdy F)/\T.Pairwise (zcn F)
theorem zv4{F:Fm}{a b:Int}(h:zcn F a b):¬zcn F b a:=by unfold zcn at *;omega
theorem zGb{F:Fm}:∀{T U:List Int},T.Perm U->T.Pairwise (zcn F)->U.Pairwise (zcn F)->T=U
 |[],U,hp,_,_ => by have:=hp.length_eq;simp at this;exact(List.eq_nil_of_length_eq_zero this.symm).symm
 |t::T,[],hp,_,_ => by have:=hp.length_eq;simp at this
 |t::T,u::U,hp,h1,h2 => by
  rw[List.pairwise_cons] at h1 h2
  have htu:t=u:=by
   rcases List.mem_cons.1 (hp.mem_iff.1 (List.mem_cons_self ..)) with h|h
   ·exact h
   rcases List.mem_cons.1 (hp.mem_iff.2 (List.mem_cons_self ..)) with g|g
   ·exact g.symm
   exact absurd (h1.1 u g) (zv4 (h2.1 t h))
  subst htu
  rw[zGb (List.Perm.cons_inv hp) h1.2 h2.2]
def zdy(F G:Fm)(out:List (Int×Int)):Prop:=∃T,zLu F T/\zr2 F T G out
theorem zlT{F G1 G2:Fm}{o1 o2:List (Int×Int)}(h:zdy F G1 o1)(g:zdy F G2 o2):G1=G2/\o1=o2:=by
 obtain⟨T,⟨a1,a2⟩,a3⟩:=h
 obtain⟨U,⟨b1,b2⟩,b3⟩:=g
 obtain rfl:=zGb (a1.trans b1.symm) a2 b2
 exact a3.one b3
def encO(x:Int×Int):List Value:=[.int .i64 x.1,.int .i64 x.2]
structure QS(n:Nat)(Sq:Nat->Prop)(F:Fm)(qb:Nat)(w':World)(H:List Th):Prop where
 ex:∃mb born p c m,QQ n w' qb mb born p c H m/\Rel H m/\∀b,zju mb qb p H b->Sq b
 ids:Ids H
 pr:∀t∈H,t.prio=zrp F t.id
 bo:∀t∈H,∀u∈H,t.id<u.id->t.born<u.born
theorem QS.ext{n:Nat}{Sq:Nat->Prop}{F:Fm}{qb:Nat}{w w':World}{H:List Th}(q:QS n Sq F qb w H)(e:Ext w w'):QS n Sq F qb w' H:=by
 obtain⟨mb,born,p,c,m,h1,h2,h3⟩:=q.ex
 exact⟨⟨mb,born,p,c,m,h1.ext e,h2,h3⟩,q.ids,q.pr,q.bo⟩
theorem QS.fr{n:Nat}{Sq S:Nat->Prop}{F:Fm}{qb:Nat}{w w':World}{H:List Th}(q:QS n Sq F qb w H)(f:Fr S w w')(hS:∀b,Sq b->¬S b):QS n Sq F qb w' H:=by
 obtain⟨mb,born,p,c,m,h1,h2,h3⟩:=q.ex
 exact⟨⟨mb,born,p,c,m,h1.fr f fun b hb=>hS b (h3 b hb),h2,h3⟩,q.ids,q.pr,q.bo⟩
def zJC(qb:Nat)(w:World):Nat:=match Go.Sx.cell w (ptr qb) 0 with|some (.slice _ n _)=>n|_=>0
theorem QS.len{n:Nat}{Sq:Nat->Prop}{F:Fm}{qb:Nat}{w:World}{H:List Th}(q:QS n Sq F qb w H):zJC qb w=H.length:=by
 obtain⟨mb,born,p,c,m,h1,_⟩:=q.ex
 have:Go.Sx.cell w (ptr qb) 0=some (.slice p H.length c):=h1.qi.slot.cells 0 _ rfl
 unfold zJC;rw[this]
def OQ(O Sq:Nat->Prop)(out:Option Addr)(b:Nat):Prop:=O b\/Sq b\/∃a,out=some a/\a.block=b
structure PS(O:Nat->Prop)(B fb:Nat)(w:World)(P:Pl)(F:Fm)(Sq:Nat->Prop)(w':World)(G:Fm)(outs:List (Int×Int))(T Rm:List Int)(out:Option Addr)(outc:Nat):Prop where
 fx:∃PP,PP.jp=P.jp/\FXO (OQ O Sq out) B w' fb PP G
 fr:Fr (ft fb P.jp) w w'
 run:zr2 F T G outs
 hs:zlM G.hosts
 job:G.jobs.map (·.job)=F.jobs.map (·.job)
 own:Own w.heap.size w' zD6 2 out outs.length outc (outs.flatMap encO)
 ap:∀a,out=some a->¬Sq a.block
 perm:(T++Rm).Perm (rdy F)
 pw:T.Pairwise (zcn F)
 lt:∀a∈T,∀b∈Rm,zcn F a b
 len:outs.length<=T.length
section
variable {O Sq:Nat->Prop} {B fb qb:Nat} {w:World} {P:Pl} {F G:Fm} {outs:List (Int×Int)} {T Rm:List Int} {out:Option Addr} {outc:Nat}
theorem PS.fr'{w1 w2:World}(s:PS O B fb w P F Sq w1 G outs T Rm out outc)(f:Fr Sq w1 w2)(hq:∀b,Sq b->w.heap.size<=b):PS O B fb w P F Sq w2 G outs T Rm out outc:=by
 obtain⟨PP,h1,h2⟩:=s.fx
 exact⟨⟨PP,h1,h2.fr f fun b hb=>.inr (.inl hb)⟩,s.fr.trans f fun b hb=>.inr (hq b hb),s.run,s.hs,s.job,s.own.fr f s.ap,s.ap,s.perm,s.pw,s.lt,s.len⟩
theorem PS.ext{w1 w2:World}(s:PS O B fb w P F Sq w1 G outs T Rm out outc)(e:Ext w1 w2):PS O B fb w P F Sq w2 G outs T Rm out outc:=by
 obtain⟨PP,h1,h2⟩:=s.fx
 exact⟨⟨PP,h1,h2.ext e⟩,s.fr.tr (zac e),s.run,s.hs,s.job,s.own.ext e,s.ap,s.perm,s.pw,s.lt,s.len⟩
theorem PS.shift{w1:World}{Rm':List Int}(s:PS O B fb w P F Sq w1 G outs T Rm out outc)(h:Rm'.Perm Rm):PS O B fb w P F Sq w1 G outs T Rm' out outc :=
 ⟨s.fx,s.fr,s.run,s.hs,s.job,s.own,s.ap,(List.Perm.append_left T h).trans s.perm,s.pw,fun a ha b hb=>s.lt a ha b (h.mem_iff.1 hb),s.len⟩
theorem zLh{n:Nat}{w1:World}{H:List Th}(q:QS n Sq F qb w1 H)(hn:H.length<=60) :
  FnP Tryz.prog zbb #[.pointer (ptr qb)] w1 fun v w2=>∃(a b:Int) (is:Bool) (Y:List Th),v=.tuple #[.agg #[.int .i64 a,.int .i64 b],.bool is]/\QS n Sq F qb w2 Y/\Fr Sq w1 w2 /\
   ((is=false/\H=[]/\Y=[])\/(is=true/\Y.length<H.length/\(∀u∈Y,zcn F b u.id)/\(b::Y.map (·.id)).Perm (H.map (·.id)))):=by
 obtain⟨mb,born,p,c,m,h1,h2,h3⟩:=q.ex
 refine(zNu h1 (by omega)).mono fun v w2 hr=>?_
 rcases hr with⟨rfl,hv,e⟩|⟨t,Y,hv,q2,hp,hmin,f⟩
 ·exact⟨0,0,false,[],hv,q.ext e,zac e,.inl ⟨rfl,rfl,rfl⟩⟩
 ·have f':Fr Sq w1 w2:=f.mono h3
  obtain⟨hrel,hids⟩:=zNw h2 h1.mp.nodup q.ids hp
  have hY:∀u∈Y,u∈H:=fun u hu=>hp.mem_iff.1 (List.mem_cons_of_mem _ hu)
  have ht:t∈H:=hp.mem_iff.1 (List.mem_cons_self ..)
  have hnd:t.id∉Y.map (·.id):=by
   have:((t::Y).map (·.id)).Nodup:=((hp.map _).nodup_iff).2 q.ids
   simp only[List.map_cons,List.nodup_cons] at this
   exact this.1
  have hb:∀u∈Y,zcn F t.id u.id:=fun u hu=>by
   have h4:=hmin u (hY u hu)
   have h5:=q.pr t ht
   have h6:=q.pr u (hY u hu)
   have h7:t.id≠u.id:=fun h=>hnd (by rw[h];exact List.mem_map_of_mem hu)
   unfold ahead at h4
   unfold zcn
   rw[<-h5,<-h6]
   by_cases h8:u.id<t.id
   ·have:=q.bo u (hY u hu) t ht h8;omega
   ·omega
  have hperm:(t.id::Y.map (·.id)).Perm (H.map (·.id)):=by
   have:=hp.map (·.id)
   simpa using this
  refine⟨t.prio,t.id,true,Y,hv,⟨⟨mb,born,p,c,_,q2,hrel,fun b hb=>h3 b ?_⟩,hids,fun u hu=>q.pr u (hY u hu),fun u hu v hv=>q.bo u (hY u hu) v (hY v hv)⟩,f',.inr ⟨rfl,by have:=hp.length_eq;simp at this;omega,hb,hperm⟩⟩
  rcases hb with rfl|rfl|⟨a,ha,rfl⟩|⟨u,hu,rfl⟩
  ·exact .inl rfl
  ·exact .inr (.inl rfl)
  ·exact .inr (.inr (.inl ⟨a,ha,rfl⟩))
  ·exact .inr (.inr (.inr ⟨u,hY u hu,rfl⟩))
theorem FXO.go{O' S:Nat->Prop}{w9:World}(x:FXO O B w fb P F)(f:Fr S w w9)(hS:∀b,S b->O b)(h:∀b,O' b->O b\/(w.heap.size<=b/\b<w9.heap.size)):FXO O' B w9 fb P F:=by
 have f':=f.mono hS
 have up:∀{w''},Fr (ftO O' fb P.jp) w9 w''->Fr (ftO O fb P.jp) w w'':=fun k=>(f'.mono fun b hb=>.inl hb).trans k fun b hb=>by
  rcases hb with hb|hb
  ·rcases h b hb with h|h
   ·exact .inl (.inl h)
   ·exact .inr h.1
  ·exact .inl (.inr hb)
 have x9:=x.fr f hS
 exact⟨x9.slot,x9.arr,x.map,fun w'' k=>x.hs w'' (up k),fun r hr w'' k=>x.js r hr w'' (up k),x.ap,x.hO,x.jO,fun b hb=>by
  rcases h b hb with h|h
  ·have:=x.olt b h;have:=f.size;omega
  ·exact h.2,fun b hb hf=>by
  rcases h b hb with h|h
  ·exact x.odis b h hf
  ·have:=(x.foot hf).2;omega⟩
theorem FXO.more{O':Nat->Prop}{w9:World}(x:FXO O B w fb P F)(e:Ext w w9)(h:∀b,O' b->O b\/(w.heap.size<=b/\b<w9.heap.size)):FXO O' B w9 fb P F :=
 x.go (zac (S:=fun _=>False) e) (fun _ h=>h.elim) h
theorem FXO.less{O':Nat->Prop}(x:FXO O' B w fb P F)(h:∀b,O b->O' b):FXO O B w fb P F:=by
 have up:∀{w''},Fr (ftO O fb P.jp) w w''->Fr (ftO O' fb P.jp) w w'':=fun k=>k.mono fun b hb=>hb.elim (fun g=>.inl (h b g)) .inr
 exact⟨x.slot,x.arr,x.map,fun w'' k=>x.hs w'' (up k),fun r hr w'' k=>x.js r hr w'' (up k),x.ap,x.hO,x.jO,fun b hb=>x.olt b (h b hb),fun b hb=>x.odis b (h b hb)⟩
def HQ(F:Fm)(k:Nat)(born:Int)(H:List Th):Prop:=(H.map (·.id)).Perm (zh1 F k)/\(∀t∈H,t.prio=zrp F t.id/\t.born<=born)/\(∀t∈H,∀u∈H,t.id<u.id->t.born<u.born)/\0<=born/\born<=k
theorem hq_put{k:Nat}{born:Int}{H Y:List Th}{b:Nat}(h:HQ F k born H)(hr:zdY F (zad F k)=true)(hp:Y.Perm (⟨b,(zad F k).job.prio,(k:Int)+1,born+1⟩::H)):HQ F (k+1) (born+1) Y:=by
 obtain⟨h1,h2,h3,h4,h5⟩:=h
 have idk:∀t∈H,t.id<=k:=fun t ht=>(zge.1 (h1.mem_iff.1 (List.mem_map_of_mem ht))).2.1
 have mem:∀t∈Y,t=⟨b,(zad F k).job.prio,(k:Int)+1,born+1⟩\/t∈H:=fun t ht=>List.mem_cons.1 (hp.mem_iff.1 ht)
 refine⟨?_,fun t ht=>?_,fun t ht u hu hlt=>?_,by omega,by omega⟩
 ·unfold zh1
  rw[if_pos hr]
  have:=hp.map (·.id)
  refine this.trans ?_
  rw[List.map_cons]
  exact((h1.cons _).trans (List.perm_append_singleton _ _).symm)
 ·rcases mem t ht with rfl|ht
  ·refine⟨?_,Int.le_refl _⟩
   unfold zrp
   rw[show((k:Int)+1-1).toNat=k by omega]
  ·have:=h2 t ht
   exact⟨this.1,by omega⟩
 ·rcases mem t ht with rfl|ht<;>rcases mem u hu with rfl|hu
  ·exact absurd hlt (by simp)
  ·have:=idk u hu;simp only at hlt;omega
  ·have:=(h2 t ht).2;simp only;omega
  ·exact h3 t ht u hu hlt
end
def zLw(O:Nat->Prop)(B fb:Nat)(w:World)(P:Pl)(F:Fm)(v:Value)(w':World):Prop:=∃(G:Fm) (outs:List (Int×Int)) (out:Option Addr) (outc:Nat) (P':Pl),
 v=.tuple #[.slice out outs.length outc,.int .i64 0]/\zdy F G outs/\zlM G.hosts/\G.jobs.map (·.job)=F.jobs.map (·.job)/\P'.jp=P.jp/\FXO O B w' fb P' G/\Fr (ft fb P.jp) w w'/\Own w.heap.size w' zD6 2 out outs.length outc (outs.flatMap encO)/\outs.length<=60
structure XC(fb:Nat)(jp:Option Addr)(Sq:Nat->Prop)(out x:Option Addr)(w:World)(a b:Int):Prop where
 own:Own 0 w zKq 2 x 1 1 [.int .i64 a,.int .i64 b]
 ap:∀c,x=some c->¬ft fb jp c.block/\¬Sq c.block/\∀o,out=some o->o.block≠c.block
theorem XC.ext{fb:Nat}{jp:Option Addr}{Sq:Nat->Prop}{out x:Option Addr}{w w':World}{a b:Int}(h:XC fb jp Sq out x w a b)(e:Ext w w'):XC fb jp Sq out x w' a b:=⟨h.own.ext e,h.ap⟩
theorem XC.c0{fb:Nat}{jp:Option Addr}{Sq:Nat->Prop}{out x:Option Addr}{w:World}{a b:Int}(h:XC fb jp Sq out x w a b):x≠none/\Go.Sx.cell w x 0=some (.int .i64 a)/\Go.Sx.cell w x 1=some (.int .i64 b)/\Go.Sx.cell w (pAdd x 1) 0=some (.int .i64 b) :=
 ⟨h.own.ne1 (by omega) (by omega),h.own.cells 0 _ rfl,h.own.cells 1 _ rfl,by rw[zaq];exact h.own.cells 1 _ rfl⟩
def PI(O:Nat->Prop)(B fb qb:Nat)(w:World)(P:Pl)(F:Fm)(Sq:Nat->Prop)(out:Option Addr)(outl outc:Nat)(x:Option Addr)(is:Bool)(w':World):Prop:=∃(G:Fm) (outs:List (Int×Int)) (T:List Int) (H:List Th),outl=outs.length/\QS w.heap.size Sq F qb w' H/\H.length<=60 /\
 ((is=false/\PS O B fb w P F Sq w' G outs T [] out outc)\/(is=true/\∃a b,XC fb P.jp Sq out x w' a b/\(∀u∈H,zcn F b u.id)/\PS O B fb w P F Sq w' G outs T (b::H.map (·.id)) out outc))
def PM(qb:Nat)(is:Bool)(w':World):Nat:=if is=true then zJC qb w'+1 else 0
section
variable {O Sq:Nat->Prop} {B fb qb:Nat} {w:World} {P:Pl} {F G:Fm} {outs:List (Int×Int)} {T:List Int} {out:Option Addr} {outc:Nat}
theorem zK8{w':World}{Rm:List Int}(s:PS O B fb w P F Sq w' G outs T Rm out outc)(hF:F.jobs.length<=60):outs.length<=60/\T.length+Rm.length<=60:=by
 have h1:=s.perm.length_eq
 rw[List.length_append] at h1
 have h2:=zrr F F.jobs.length
 have h3:=s.len
 unfold rdy at h1
 omega
theorem zxF{w24:World}{H:List Th}{m0 n9:Nat}(h9:n9<=w24.heap.size)(q:QS w.heap.size Sq F qb w24 H)(hn:H.length<=60)(s:PS O B fb w P F Sq w24 G outs T (H.map (·.id)) out outc)(hq:∀b,Sq b->w.heap.size<=b/\b<w24.heap.size)(hm:m0=H.length+1)(c1 c2:Int) :
  ∀w45,Ext w24 w45->New w45 zKq [.int .i64 0,.int .i64 0] fun p46 w46=>zak w46 p46 [.int .i64 c1,.int .i64 c2] [] fun w47=>∀w48,Ext w47 w48 ->
   FnP Tryz.prog zbb #[.pointer (ptr qb)] w48 fun v49 w49=>∃a b:Int,∃is:Bool,v49=.tuple #[.agg #[.int .i64 a,.int .i64 b],.bool is]/\zak w49 p46 [.int .i64 a,.int .i64 b] [] fun w53 =>
    (n9<=w53.heap.size/\PI O B fb qb w P F Sq out outs.length outc p46 is w53)/\PM qb is w53<m0:=by
 intro w45 e45
 refine zbc (by intro v hv;simp at hv;subst hv;rfl) fun w46 o46 e46=>?_
 refine zaU (off:=0) (o46 w45.heap.size (Nat.le_refl _)) (zeZ _) (by simp) (by simp) (by intro v hv;simp at hv;rcases hv with rfl|rfl<;>rfl) (by simp) fun w47 o47 g47 w48 e48=>?_
 have h4548:Ext w45 w48:=(g47.ext e46 (o46 w45.heap.size (Nat.le_refl _))).trans e48
 have h2448:=e45.trans h4548
 refine(zLh (q.ext h2448) hn).mono fun v w49 ⟨a,b,is,Y,hv,q49,f49,hcase⟩=>⟨a,b,is,hv,?_⟩
 have hsz:=e45.size
 have hps:∀c,(some ⟨w45.heap.size,0,none⟩:Option Addr)=some c->¬Sq c.block:=fun c hc hs=>by cases hc;have:=(hq _ hs).2;simp only at this;omega
 have o49:=(o47.ext e48).fr f49 hps
 refine zaU (off:=0) o49 (zeZ _) (by simp[zd0]) (by simp) (by intro v hv;simp at hv;rcases hv with rfl|rfl<;>rfl) (by simp) fun w53 o53 g53=>?_
 have f53:Fr (fun c=>c=w45.heap.size) w49 w53:=zaT g53 fun c hc=>by cases hc;rfl
 have fall:Fr Sq w24 w53:=((zac h2448).tr f49).trans f53 fun c hc=>.inr (by subst hc;exact hsz)
 have q53:QS w.heap.size Sq F qb w53 Y:=q49.fr f53 fun c hc h=>by have:=(hq _ hc).2;omega
 have s53:=s.fr' fall fun c hc=>(hq c hc).1
 have hxap:∀c,(some ⟨w45.heap.size,0,none⟩:Option Addr)=some c->¬ft fb P.jp c.block/\¬Sq c.block/\∀o,out=some o->o.block≠c.block:=fun c hc=>by
  refine⟨fun hf=>?_,hps c hc,fun o ho h=>?_⟩
  ·obtain⟨PP,h1,x⟩:=s.fx
   rw[<-h1] at hf
   have:=(x.foot hf).2
   cases hc
   simp only at this;omega
  ·have:=(s.own.lt o ho).2
   cases hc
   simp only at h;omega
 have h953:n9<=w53.heap.size:=by have:=fall.size;omega
 rcases hcase with⟨rfl,rfl,rfl⟩|⟨rfl,hlt,hbef,hperm⟩
 ·exact⟨⟨h953,G,outs,T,[],rfl,q53,by simp,.inl ⟨rfl,s53⟩⟩,by unfold PM;simp;omega⟩
 ·refine⟨⟨h953,G,outs,T,Y,rfl,q53,by omega,.inr ⟨rfl,a,b,⟨o53.weak (Nat.zero_le _),hxap⟩,hbef,s53.shift hperm⟩⟩,?_⟩
  unfold PM
  rw[q53.len]
  simp;omega
theorem FXO.put2(x:FXO O B w fb P F){jp:Option Addr}(hj:P.jp=jp){k:Int}(h0:0<=k)(h1:k<F.jobs.length){m:Nat}(hm:11<=m/\m<=15)(v:Int){ns:List Nat}(hns:∀b∈ns,¬ft fb jp b){K:World->Prop}
  (hk:∀w' P',P'.jp=jp->FXO O B w' fb P' (stF F k.toNat m v)->Fr (ft fb jp) w w'->K w'):zak w (pAdd (pIdx jp k 16) m) [.int .i64 v] ns K:=by
 subst hj
 exact x.put h0 h1 hm v hns hk
theorem zNt{A B C:List Int}{x:Int}(h:(A++(x::B)).Perm C):x∈C:=h.mem_iff.1 (by simp)
theorem ztF{F G:Fm}(h:G.jobs.map (·.job)=F.jobs.map (·.job)):G.jobs.length=F.jobs.length:=by have:=congrArg List.length h;simpa using this
theorem zGp(x:FXO O B w fb P F)(ha:zmn F)(hh:zlM F.hosts):FnP Tryz.prog zbA #[.pointer (ptr fb)] w (zLw O B fb w P F):=by
 have ne:=zaO fb
 have hl0:=x.jO.1
 refine zoc (ptr fb) w _ fun w0 h0=>qnew_k.mono fun v w1 ⟨e1,qb,mb,hv,hqb,hQ⟩=>⟨e1,_,hv,ne,ne,?_⟩
 have e01:=h0.trans e1
 have x1:=x.ext e01
 refine⟨_,_,_,x1.cell (i:=6) rfl,?_⟩
 rw[x1.len]
 refine⟨fun k w'=>0<=k/\k<=F.jobs.length/\Fr (ft fb P.jp) w w'/\∃(born:Int) (p:Option Addr) (c:Nat) (m:List (Int×Value)) (H:List Th) (P':Pl),P'.jp=P.jp/\QQ w.heap.size w' qb mb born p c H m/\Rel H m/\HQ F k.toNat born H/\FXO (fun b=>O b\/zju mb qb p H b) B w' fb P' F,fun k _=>(F.jobs.length-k).toNat,⟨by omega,by omega,zac e01,0,none,0,[],[],P,rfl,hQ _ h0.size,⟨by simp,fun id v h=>by simp[ziK] at h⟩,⟨by simp[zh1],by simp,by simp,by omega,by omega⟩,?_⟩,?_⟩
 ·exact x.more e01 fun b hb=>hb.imp id fun h=>(hQ _ h0.size).foot h
 rintro k w8 ⟨hk0,hk1,f8,born,p,c,m,H,P8,hP8,q8,r8,hq8,x8⟩
 have hkn:((k.toNat:Nat):Int)=k:=by omega
 have hk1n:(k+1).toNat=k.toNat+1:=by omega
 have hHl:H.length<=60:=by
  have:=hq8.1.length_eq
  have:=zrr F k.toNat
  simp at *;omega
 refine⟨fun hlt=>⟨ne,ne,_,_,_,x8.cell (i:=6) rfl,?_⟩,fun hge w9 h9=>?_⟩
 ·obtain⟨r,hr,hF,hjp,hne,_,g,hJ,hok,hwf⟩:=x8.st hk0 (by omega)
  have hja:zad F k.toNat=r.s:=ziH hF
  refine⟨hjp,hk0,by rw[x8.len];omega,fun w12 h12=>(zNv (x8.ext h12) ha hk0 (by omega)).mono fun v w13 ⟨e13,hv⟩=>⟨e13,_,hv,fun hb=>⟨hne,hne,by rw[zaG];exact hne,_,by rw[zaG];exact g 1 _ rfl,i64 (by omega),fun w16 h16=>?_⟩,fun hb=>⟨i64 (by omega),⟨by omega,by omega,f8,born,p,c,m,H,P8,hP8,q8,r8,?_,x8⟩,by simp only[];omega⟩⟩⟩
  ·obtain⟨hq1,hq2,hq3,hq4,hq5⟩:=hq8
   have hidk:∀t∈H,t.id≠k+1:=fun t ht h=>by
    have:=(zge.1 (hq1.mem_iff.1 (List.mem_map_of_mem ht))).2.1
    omega
   refine(qput_k (q8.ext h16) r8 (by omega) (by omega) (Nat.le_trans f8.size h16.size) r.s.job.prio (k+1)).mono fun v w17 ⟨e,hv,hbad,hgood⟩=>⟨e,hv,i64 (by omega),?_⟩
   have he:e=0:=by
    by_cases h:e=0
    ·exact h
    ·rcases (hbad h).2 with⟨⟨t,ht,hid⟩,_⟩|⟨h200,_⟩
     ·exact absurd hid (hidk t ht)
     ·omega
   obtain⟨_,_,b,p',c',Y,qY,hp,f17,hgrow⟩:=hgood he
   have r17:=zNx r8 (t:=⟨b,r.s.job.prio,k+1,born+1⟩) hidk hp
   have hq17:=hq_put (k:=k.toNat) (b:=b) ⟨hq1,hq2,hq3,hq4,hq5⟩ (by rw[hja];unfold zad at hja;rw[hja] at hb;exact hb) (Y:=Y) (by
    rw[hja,hkn];exact hp)
   have fall:Fr (zju mb qb p H) w8 w17:=(zac h16).tr f17
   refine⟨⟨by omega,by omega,f8.trans fall fun b hb=>.inr ((q8.foot hb).1),born+1,p',c',_,Y,P8,hP8,qY,r17,?_,?_⟩,by simp only[];omega⟩
   ·rw[hk1n];exact hq17
   ·refine x8.go fall (fun b hb=>.inr hb) fun b hb=>?_
    rcases hb with hb|hb
    ·exact .inl (.inl hb)
    ·rcases hgrow b hb with h|h
     ·exact .inl (.inr h)
     ·exact .inr ⟨Nat.le_trans h16.size h,(qY.foot hb).2⟩
  ·rw[hk1n]
   obtain⟨hq1,hq2,hq3,hq4,hq5⟩:=hq8
   refine⟨?_,hq2,hq3,hq4,by omega⟩
   unfold zh1
   rw[if_neg (by rw[hja];unfold zad at hja;rw[hja] at hb;rw[hb];simp)]
   exact hq1
 have hkl:k.toNat=F.jobs.length:=by omega
 rw[hkl] at hq8
 obtain⟨hq1,hq2,hq3,hq4,hq5⟩:=hq8
 let Sq:Nat->Prop:=zju mb qb p H
 have hSq:∀b,Sq b->w.heap.size<=b/\b<w8.heap.size:=fun b hb=>q8.foot hb
 have Q8:QS w.heap.size Sq F qb w8 H:=⟨⟨mb,born,p,c,m,q8,r8,fun b hb=>hb⟩,by
  have:(H.map (·.id)).Nodup:=(hq1.nodup_iff).2 (ziW F _)
  exact this,fun t ht=>(hq2 t ht).1,hq3⟩
 have S8:PS O B fb w P F Sq w8 F [] [] (H.map (·.id)) none 0:=⟨⟨P8,hP8,x8.less fun b hb=>by
  rcases hb with hb|hb|⟨a,ha,_⟩
  ·exact .inl hb
  ·exact .inr hb
  ·cases ha⟩,f8,.nil F,hh,rfl,Own.nil,fun a ha=>(by cases ha),hq1,List.Pairwise.nil,by simp,by simp⟩
 refine(zLh (Q8.ext h9) hHl).mono fun v w10 ⟨a,b,is,Y,hv,Q10,f10,hcase⟩=>⟨a,b,is,hv,fun w14 h14=>?_⟩
 have s10:=(S8.ext h9).fr' f10 fun c hc=>(hSq c hc).1
 have s14:=s10.ext h14
 have Q14:=Q10.ext h14
 refine zbc (by intro v hv;simp at hv;subst hv;rfl) fun w15 o15 e15=>?_
 refine zaU (off:=0) (o15 w14.heap.size (Nat.le_refl _)) (zeZ _) (by simp) (by simp) (by intro v hv;simp at hv;rcases hv with rfl|rfl<;>rfl) (by simp) fun w16 o16 g16=>?_
 have e16:Ext w14 w16:=g16.ext e15 (o15 w14.heap.size (Nat.le_refl _))
 have s16:=s14.ext e16
 have Q16:=Q14.ext e16
 have hsz14:w8.heap.size<=w14.heap.size:=Nat.le_trans (Nat.le_trans h9.size f10.size) h14.size
 refine⟨fun out outl outc x is w'=>w14.heap.size<=w'.heap.size/\PI O B fb qb w P F Sq out outl outc x is w',fun out outl outc x is w'=>PM qb is w',⟨e16.size,?_⟩,?_⟩
 ·rcases hcase with⟨rfl,rfl,rfl⟩|⟨rfl,hlt,hbef,hperm⟩
  ·exact⟨F,[],[],[],rfl,Q16,by simp,.inl ⟨rfl,s16⟩⟩
  ·refine⟨F,[],[],Y,rfl,Q16,by omega,.inr ⟨rfl,a,b,⟨o16.weak (Nat.zero_le _),fun c hc=>⟨fun hf=>?_,fun hs=>?_,fun o ho=>by cases ho⟩⟩,hbef,s16.shift hperm⟩⟩
   ·obtain⟨PP,h1,x14⟩:=s14.fx
    rw[<-h1] at hf
    have:=(x14.foot hf).2
    cases hc
    simp only at this;omega
   ·have:=(hSq _ hs).2
    cases hc
    simp only at this;omega
 rintro out outl outc xp is w21 ⟨hsz21,G,outs,T,H,rfl,Q21,hH,hc⟩
 refine⟨fun his=>?_,fun his w22 h22=>?_⟩
 ·rcases hc with⟨h,_⟩|⟨_,a,b,xc,hbef,s21⟩
  ·rw[his] at h;cases h
  have hsq21:∀b,Sq b->w.heap.size<=b/\b<w21.heap.size:=fun b hb=>by have:=hSq b hb;omega
  obtain⟨xn,_,_,xb⟩:=xc.c0
  obtain⟨PP,hPP,x21⟩:=s21.fx
  have hbin:=zge.1 (zNt s21.perm)
  have hGl:=ztF s21.job
  have hin:inJ G b:=⟨hbin.1,by rw[hGl];exact hbin.2.1⟩
  have hk:(b-1).toNat<G.jobs.length:=by have:=hin.1;have:=hin.2;omega
  have hls:=zK8 s21 hl0
  refine⟨xn,b,xb,fun w23 h23=>(zH7 (x21.ext h23) b (i64 (by have:=hin.1;have:=hin.2;omega))).mono fun v w24 ⟨e24,hv⟩=>⟨e24,?_⟩⟩
  rcases hv with⟨hno,_⟩|⟨_,_,rfl⟩
  ·exact absurd hin hno
  have e2124:=h23.trans e24
  have x24:=x21.ext e2124
  have s24:=s21.ext e2124
  have Q24:=Q21.ext e2124
  have xc24:=xc.ext e2124
  have hsq24:∀b,Sq b->w.heap.size<=b/\b<w24.heap.size:=fun b hb=>by have:=hsq21 b hb;have:=e2124.size;omega
  obtain⟨r,hr,hF,hjp,hne,g',g,hJ,hok,hwf⟩:=x24.st (k:=b-1) (by have:=hin.1;omega) (by have:=hin.2;omega)
  have hja:zad G (b-1).toNat=r.s:=ziH hF
  have c5:∀(j:Nat)(v:Value),(zwh r)[5+j]?=some v->Go.Sx.cell w24 (pAdd (pAdd (pIdx PP.jp (b-1) 16) 0) 5) j=some v:=fun j v hv=>by
   rw[zaG,zaq];exact g' _ _ hv
  have c2:∀(j:Nat)(v:Value),(zwh r)[2+j]?=some v->Go.Sx.cell w24 (pAdd (pAdd (pIdx PP.jp (b-1) 16) 0) 2) j=some v:=fun j v hv=>by
   rw[zaG,zaq];exact g' _ _ hv
  have n0:pAdd (pIdx PP.jp (b-1) 16) 0≠none:=by rw[zaG];exact hne
  have n5:pAdd (pAdd (pIdx PP.jp (b-1) 16) 0) 5≠none:=fun h=>n0 (zdF.1 h)
  have n2:pAdd (pAdd (pIdx PP.jp (b-1) 16) 0) 2≠none:=fun h=>n0 (zdF.1 h)
  have hO:=x24.hO
  refine⟨_,rfl,ne,ne,_,_,_,x24.cell (i:=0) rfl,hne,hne,n0,n5,_,c5 0 _ rfl,_,c5 1 _ rfl,_,c5 2 _ rfl,_,c5 3 _ rfl,_,_,_,c5 4 _ rfl,hne,hne,n0,n2,_,c2 0 _ rfl,_,c2 1 _ rfl,_,c2 2 _ rfl,fun w39 h39=>?_⟩
  refine(zKk PP.hp PP.hc G.hosts (by omega) hO.2 r.s.job.ask r.pa r.ca hwf.ask r.s.job.nd w39 ((x24.ext h39).hs w39 (Fr.refl _ _)) (hJ.1.ext h39)).mono fun v w40 ⟨e40,k,e,hv,hres⟩=>⟨e40,k,e,hv,?_⟩
  have hall:zzz G.hosts r.s.job.ask r.s.job.nd:=⟨s24.hs,hok.ask,hok.nd⟩
  have hm:PM qb is w21=H.length+1:=by unfold PM;rw[his,if_pos rfl,Q21.len]
  refine⟨fun he=>?_,fun he=>?_⟩
  ·have hsk:zwo G b=[]:=by
    rcases hres with⟨_,_,_,h⟩|⟨h,_⟩
    ·have:=h hall
     unfold zwo
     rw[hja]
     exact this
    ·exact absurd h he
   obtain⟨_,x0,x1,_⟩:=xc24.c0
   have s':PS O B fb w P F Sq w24 G outs (T++[b]) (H.map (·.id)) out outc:=⟨s24.fx,s24.fr,s24.run.snoc_skip hsk,s24.hs,s24.job,s24.own,s24.ap,by simpa using s24.perm,List.pairwise_append.2 ⟨s24.pw,by simp,fun y hy z hz=>by simp at hz;subst hz;exact s24.lt y hy _ (by simp)⟩,fun y hy z hz=>by
    rcases List.mem_append.1 hy with hy|hy
    ·exact s24.lt y hy z (List.mem_cons_of_mem _ hz)
    ·simp at hy;subst hy
     obtain⟨u,hu,rfl⟩:=List.mem_map.1 hz
     exact hbef u hu,by rw[List.length_append];have:=s24.len;simp;omega⟩
   exact⟨xn,_,x0,_,x1,zxF (by have:=e2124.size;omega) Q24 hH s' hsq24 hm a b⟩
  ·obtain⟨_,_,hbest⟩:e=0/\zzz G.hosts r.s.job.ask r.s.job.nd/\zgI G.hosts r.s.job.ask r.s.job.nd k:=by
    rcases hres with⟨h,_⟩|h
    ·exact absurd he h
    ·exact h
   obtain⟨hk0,hk1,hfit⟩:=zpL.1 hbest.1
   have hkI:InR .i64 k:=i64 (by omega)
   refine⟨ne,ne,_,_,_,x24.cell (i:=0) rfl,hne,hne,n0,n2,_,c2 0 _ rfl,_,c2 1 _ rfl,_,c2 2 _ rfl,fun w49 h49=>?_⟩
   have x49:=x24.ext h49
   refine(Take_k PP.hp PP.hc G.hosts (by omega) hO.2 k r.s.job.nd w49 (x49.hs w49 (Fr.refl _ _))).mono fun v w50 ⟨e50,p',n',c',e',hv,htk⟩=>⟨e50,p',n',c',e',hv,ne,ne,?_⟩
   have hfN:zk8 r.s.job.nd (zjp (G.hosts.getD k.toNat default).has (G.hosts.getD k.toNat default).used):=by
    unfold zIP at hfit
    rw[Bool.and_eq_true,decide_eq_true_iff] at hfit
    exact hfit.2
   rcases htk with⟨_,_,hno⟩|⟨_,_,_,_,rfl,_,_,_,hS⟩
   ·exact absurd ⟨hok.nd,hfN⟩ (hno s24.hs hk0 hk1)
   have x50:=x49.ext e50
   refine zaU (off:=0) x50.slot rfl (by simp) (by simp) (by intro u hu;simp at hu;subst hu;rfl) (by simp) fun w55 o55 g55=>⟨ne,ne,?_⟩
   have hG:zlX G (b-1).toNat k={ G with hosts:=G.hosts.set k.toNat (zgB (G.hosts.getD k.toNat default) (zyz (G.hosts.getD k.toNat default).used r.s.job.nd)) }:=by unfold zlX zqM;rw[hja]
   have fg:Fr (ft fb PP.jp) w50 w55:=zaT g55 fun a ha=>by cases ha;exact .inl rfl
   obtain⟨y55,f55⟩:=x50.slot_to (F':=zlX G (b-1).toNat k) (P':={ PP with hp:=p',hc:=c' }) (by
    rw[hG]
    show Own B w55 zdM 7 (ptr fb) 1 1 [.slice p' (G.hosts.set _ _).length c',_,_,_,_,_,_]
    rw[List.length_set];exact o55) g55 rfl rfl rfl rfl (fun w'' kf=>by
     rw[hG]
     exact hS (ftO (OQ O Sq out) fb PP.jp) (fun b hb=>by
      rcases hb with hb|hb
      ·exact x49.olt b hb
      ·exact(x49.foot hb).2) w'' ((fg.mono fun b hb=>.inr hb).tr kf)) (by
    rw[hG]
    refine⟨by show(G.hosts.set _ _).length<=30;rw[List.length_set];exact hO.1,fun h hh=>?_⟩
    have hh:h∈G.hosts.set k.toNat (zgB (G.hosts.getD k.toNat default) (zyz (G.hosts.getD k.toNat default).used r.s.job.nd)):=hh
    rcases List.mem_or_eq_of_mem_set hh with hh|rfl
    ·exact hO.2 h hh
    ·have:=hO.2 _ (zat G.hosts default (i:=k.toNat) (by omega))
     exact this)
   refine⟨G.now,y55.cell (i:=5) rfl,hne,hne,?_⟩
   refine y55.put2 (jp:=PP.jp) rfl (k:=b-1) (by have:=hin.1;omega) (by have:=hin.2;exact(by omega:b-1<(G.jobs.length:Int))) (by omega) 2 (by simp) fun w57 P1 hP1 y57 f57=>⟨hne,hne,?_⟩
   refine y57.put2 hP1 (k:=b-1) (by have:=hin.1;omega) (by rw[zb0];have:=hin.2;exact(by omega:b-1<(G.jobs.length:Int))) (by omega) k (by simp) fun w58 P2 hP2 y58 f58=>⟨hne,hne,?_⟩
   refine y58.put2 hP2 (k:=b-1) (by have:=hin.1;omega) (by rw[zb0,zb0];have:=hin.2;exact(by omega:b-1<(G.jobs.length:Int))) (by omega) G.now (by simp) fun w59 P3 hP3 y59 f59=>⟨xn,?_⟩
   have y59:FXO (OQ O Sq out) B w59 fb P3 (zgt G (b-1).toNat k):=y59
   have f2459:Fr (ft fb PP.jp) w24 w59:=((((zac (h49.trans e50)).tr f55).tr f57).tr f58).tr f59
   have hdis:∀c,OQ O Sq out c->¬ft fb PP.jp c:=x24.odis
   have hxd:∀c,xp=some c->¬ft fb PP.jp c.block:=fun c hc=>by rw[hPP];exact(xc24.ap c hc).1
   obtain⟨_,x0,x1,_⟩:=xc24.c0
   have x1':=zea x1 f2459 hxd
   refine⟨b,by rw[zaq];exact x1',?_⟩
   have o59:=s24.own.fr f2459 fun c hc=>hdis _ (.inr (.inr ⟨c,hc,rfl⟩))
   have hsz24:w.heap.size<=w24.heap.size:=s24.fr.size
   have hsz59:w.heap.size<=w59.heap.size:=Nat.le_trans hsz24 f2459.size
   refine push (v:=.agg #[.int .i64 b,.int .i64 k]) zum (by omega) o59 hsz59 rfl (by intro u hu;simp[Value.cells] at hu;rcases hu with rfl|rfl<;>rfl) (by omega) (by omega) (by omega) fun out' outc' w67 o67 g67 hne67=>⟨xn,?_⟩
   have f67:Fr (fun c=>∃o,out=some o/\o.block=c) w59 w67:=zaT g67 fun a ha=>⟨a,ha,rfl⟩
   have hout':∀a,out'=some a->(∃o,out=some o/\o.block=a.block)\/(w59.heap.size<=a.block/\a.block<w67.heap.size):=fun a ha=>by
    rcases g67.new with hn|hn
    ·left
     rw[ha] at hn
     cases ho:out with
     |none => rw[ho] at hn;simp[blk] at hn
     |some y => rw[ho] at hn;simp[blk] at hn;exact⟨y,rfl,by omega⟩
    ·exact .inr ⟨hn a ha,(o67.lt a ha).2⟩
   have hxo:∀c,xp=some c->¬ ∃o,out=some o/\o.block=c.block:=fun c hc ⟨o,ho,hk⟩=>(xc24.ap c hc).2.2 o ho hk
   refine⟨a,zea (zea x0 f2459 hxd) f67 hxo,b,zea x1' f67 hxo,?_⟩
   have f2467:Fr (fun c=>ft fb P.jp c\/∃o,out=some o/\o.block=c) w24 w67:=by
    rw[hPP] at f2459
    exact(f2459.mono fun c hc=>.inl hc).tr (f67.mono fun c hc=>.inr hc)
   have Q67:QS w.heap.size Sq F qb w67 H:=Q24.fr f2467 fun c hc h=>by
    rcases h with h|⟨o,ho,rfl⟩
    ·rw[<-hPP] at h;exact hdis c (.inr (.inl hc)) h
    ·exact s24.ap o ho hc
   have hsz67:=f2467.size
   have s67:PS O B fb w P F Sq w67 (zgt G (b-1).toNat k) (outs++[(b,k)]) (T++[b]) (H.map (·.id)) out' outc':=by
    refine⟨⟨P3,hP3.trans hPP,y59.go f67 (fun c hc=>.inr (.inr hc)) fun c hc=>?_⟩,s24.fr.trans f2467 fun c hc=>?_,s24.run.snoc_run (by rw[hja];exact hbest),?_,(zJP hk k).trans s24.job,?_,fun c hc hs=>?_,by simpa using s24.perm,List.pairwise_append.2 ⟨s24.pw,by simp,fun y hy z hz=>by simp at hz;subst hz;exact s24.lt y hy _ (by simp)⟩,fun y hy z hz=>?_,by rw[List.length_append,List.length_append];have:=s24.len;simp;omega⟩
    ·rcases hc with hc|hc|⟨c,hc,rfl⟩
     ·exact .inl (.inl hc)
     ·exact .inl (.inr (.inl hc))
     ·rcases hout' c hc with h|h
      ·exact .inl (.inr (.inr h))
      ·exact .inr h
    ·rcases hc with hc|⟨o,ho,rfl⟩
     ·exact .inl hc
     ·exact .inr (s24.own.lt o ho).1
    ·exact zw7 s24.hs hk0 hk1 (by rw[hja];exact hok.nd) (by rw[hja];exact hfN)
    ·rw[List.flatMap_append,List.length_append]
     simpa[Value.cells,encO] using o67
    ·rcases hout' c hc with⟨o,ho,hk⟩|h
     ·rw[<-hk] at hs;exact s24.ap o ho hs
     ·have:=(hsq24 _ hs).2;have:=f2459.size;omega
    ·rcases List.mem_append.1 hy with hy|hy
     ·exact s24.lt y hy z (List.mem_cons_of_mem _ hz)
     ·simp at hy;subst hy
      obtain⟨u,hu,rfl⟩:=List.mem_map.1 hz
      exact hbef u hu
   have:=zxF (n9:=w14.heap.size) (by have:=e2124.size;omega) Q67 hH s67 (fun c hc=>by have:=hsq24 c hc;omega) hm a b
   rw[List.length_append] at this
   exact this
 ·rcases hc with⟨_,s21⟩|⟨h,_⟩
  ·have s22:=s21.ext h22
   obtain⟨PP,h1,x22⟩:=s22.fx
   refine⟨G,outs,out,outc,PP,rfl,⟨T,⟨by simpa using s22.perm,s22.pw⟩,s22.run⟩,s22.hs,s22.job,h1,x22.less fun b hb=>.inl hb,s22.fr,s22.own,(zK8 s22 hl0).1⟩
  ·rw[his] at h;cases h
end
theorem neN_k{a b:Nd}{w:World}{K:Value->World->Prop}(hk:K (.bool (!decide (a=b))) w):Run Tryz.prog (.eq .neq zjk false false (nv a) (nv b)) w K :=
 zNC (n:=3) (k:=.i64) (by kernel_rfl) (by kernel_rfl) (by kernel_rfl) (by kernel_rfl) [a.c,a.m,a.g] [b.c,b.m,b.g] rfl rfl (by
  have:decide (a=b)=decide ([a.c,a.m,a.g]=[b.c,b.m,b.g]):=decide_eq_decide.2 zNg
  rwa [this] at hk)
theorem New1_k(h:Ht)(q:Option Addr)(d:Nat)(w:World):FnP Tryz.prog ze4 #[.agg #[.string h.name,.slice q h.labels.length d,.int .i64 h.has.c,.int .i64 h.has.m,.int .i64 h.has.g,.int .i64 h.used.c,.int .i64 h.used.m,.int .i64 h.used.g]] w fun v w'=>Ext w w'/\v=.bool (!decide (h.used=zbh)):=by
 refine zu0 h.name q h.labels.length d h.has.c h.has.m h.has.g h.used.c h.used.m h.used.g w _ fun b0 hb0 w1 h1=>?_
 refine neN_k (a:=h.used) (b:=zbh) ⟨Ext.refl _,_,rfl,fun w4 h4=>⟨h4,rfl⟩⟩
theorem zHS(p:Option Addr)(c:Nat)(L:List Ht)(h63:(L.length:Int)<=9223372036854775807)(w:World)(hL:zkO w p L) :
  FnP Tryz.prog zau #[.slice p L.length c,.func (.func ze4) #[] #[]] w fun v w'=>Ext w w'/\∃t,v=.int .i64 t/\(0<=t↔∃x∈L,x.used≠zbh):=by
 refine zbE p L.length c _ w _ ?_
 refine⟨fun k w'=>w'=w/\0<=k/\k<=L.length/\∀j:Nat,(j:Int)<k->(L.getD j default).used=zbh,fun k _=>(L.length-k).toNat,⟨rfl,by omega,by omega,fun j hj=>by omega⟩,?_⟩
 rintro k w ⟨rfl,hk0,hk1,hno⟩
 refine⟨fun hlt=>?_,fun hge w4 h4=>⟨h4,_,rfl,?_⟩⟩
 ·obtain⟨q,d,n1,n2,g,_⟩:=hL.at hk0 hlt
  refine⟨n1,hk0,hlt,n2,_,g 0 _ rfl,_,_,_,g 1 _ rfl,_,g 2 _ rfl,_,g 3 _ rfl,_,g 4 _ rfl,_,g 5 _ rfl,_,g 6 _ rfl,_,g 7 _ rfl,fun w4 h4=>?_⟩
  refine⟨ze4,#[],rfl,(New1_k (L.getD k.toNat default) q d w4).mono fun v w5 ⟨e5,hv⟩=>⟨e5,_,hv,fun hyes w9 h9=>⟨h9,_,rfl,fun _=>⟨_,zat L default (i:=k.toNat) (by omega),by simpa using hyes⟩,fun _=>hk0⟩,fun hn=>⟨i64 (by omega),⟨rfl,by omega,by omega,fun j hj=>?_⟩,by simp only[];omega⟩⟩⟩
  by_cases hjk:(j:Int)<k
  ·exact hno j hjk
  ·obtain rfl:j=k.toNat:=by omega
   simpa using hn
 ·constructor
  ·intro h;omega
  ·rintro⟨x,hm,hx⟩
   obtain⟨j,hj,rfl⟩:=List.getElem_of_mem hm
   have:=hno j (by omega)
   rw[show L.getD j default=L[j] by simp[List.getD_eq_getElem?_getD,hj]] at this
   exact absurd this hx
theorem zyE(p:Option Addr)(c:Nat)(L:List Ht)(h63:(L.length:Int)<=9223372036854775807)(w:World)(hL:zkO w p L) :
  FnP Tryz.prog zaQ #[.slice p L.length c,.func (.func ze4) #[] #[]] w fun v w'=>Ext w w'/\∃b:Bool,v=.bool b/\(b=true↔∃x∈L,x.used≠zbh):=by
 refine zc3 p L.length c _ w _ fun w1 h1=>?_
 refine(zHS p c L h63 w1 (hL.ext h1)).mono fun v w2 ⟨e2,t,hv,ht⟩=>⟨e2,t,hv,fun w4 h4=>⟨h4,_,rfl,?_⟩⟩
 rw[decide_eq_true_iff];exact ht
def zw9(L:List Ht)(pol:Pol):Prop:=zlM L/\(∀x∈L,x.used=zbh)/\zn2 pol
def zmb(L:List Ht)(pol:Pol):Fm:=⟨L,pol,0,[]⟩
theorem zKJ(p:Option Addr)(c:Nat)(L:List Ht)(h63:(L.length:Int)<=9223372036854775807)(hO:∀h∈L,zyv h)(pol:Pol)(w:World)(hL:zkO w p L) :
  FnP Tryz.prog zdk #[.agg #[.slice p L.length c,.int .i64 pol.first,.int .i64 pol.times,.int .i64 pol.most,.int .i64 pol.tries]] w fun v w'=>Ext w w'/\∃(q:Option Addr) (e:Int),v=.tuple #[.pointer q,.int .i64 e]/\(e=0↔zw9 L pol)/\(e≠0->q=none) /\
   (e=0->∃fb P,q=ptr fb/\FX w.heap.size w' fb P (zmb L pol)):=by
 refine zzI p L.length c pol.first pol.times pol.most pol.tries w _ fun b0 hb0 w1 h1=>(zus p c L h63 hO w1 (hL.ext h1)).mono fun v w2 ⟨e2,e,hv,he,_⟩=>⟨e2,e,hv,fun hne w4 h4=>⟨h4,none,e,rfl,⟨fun h=>absurd h hne,fun h=>absurd (he.2 h.1) hne⟩,fun _=>rfl,fun h=>absurd h hne⟩,fun hz w4 h4=>?_⟩
 have hok:=he.1 hz
 refine(zyE p c L h63 w4 (hL.ext h4)).mono fun v w5 ⟨e5,b,hv,hb⟩=>⟨e5,b,hv,fun hbt w7 h7=>⟨h7,none,9,rfl,⟨fun h=>(by cases h),fun h=>?_⟩,fun _=>rfl,fun h=>(by cases h)⟩,fun hbf w7 h7=>?_⟩
 ·obtain⟨x,hx,hu⟩:=hb.1 hbt
  exact absurd (h.2.1 x hx) hu
 have hu:∀x∈L,x.used=zbh:=fun x hx=>by
  by_cases h:x.used=zbh
  ·exact h
  ·have:=hb.2 ⟨x,hx,h⟩;rw[hbf] at this;cases this
 refine(zBU pol.first pol.times pol.most pol.tries w7).mono fun v w8 ⟨e8,e,hv,hy,hn⟩=>⟨e8,e,hv,fun hne w10 h10=>⟨h10,none,e,rfl,⟨fun h=>absurd h hne,fun h=>absurd (hy h.2.2) hne⟩,fun _=>rfl,fun h=>absurd h hne⟩,fun hz w10 x10=>?_⟩
 have hp:zn2 pol:=by
  by_cases h:zn2 pol
  ·exact h
  ·have:=hn h;omega
 have h10:=zaa x10
 refine(zK7 p c L hok.1 (fun h hh=>(hok.2.1 h hh).2.1) w10 (hL.ext h10)).mono fun v w11 ⟨e11,p',c',M,hv,hM,o11,hA,hN⟩=>⟨e11,p',_,c',hv,fun w15 x15=>?_⟩
 have h15:=zaa x15
 refine zbc (by intro v hv;simp at hv;rcases hv with rfl|rfl|rfl|rfl|rfl|rfl|rfl<;>rfl) fun w16 o16 e16 w17 e17=>?_
 have h1117:=(h15.trans e16).trans e17
 have hall:Ext w w17:=(h10.trans e11).trans h1117
 have hs15:w.heap.size<=w15.heap.size:=Nat.le_trans h10.size (Nat.le_trans e11.size h15.size)
 have hs11:w11.heap.size<=w15.heap.size:=h15.size
 refine⟨hall,_,0,rfl,⟨fun _=>⟨hok,hu,hp⟩,fun _=>rfl⟩,fun h=>absurd rfl h,fun _=>⟨w15.heap.size,⟨p',c',none,0,[]⟩,rfl,?_⟩⟩
 have hS:=(zFl o11 (fun m hm=>(hA m hm).1) hN).weak h10.size
 rw[hM] at hS
 refine⟨((o16 _ hs15).ext e17),Own.nil,rfl,fun w'' k=>?_,fun r hr=>(by cases hr),fun a ha=>(by cases ha),⟨hok.1,hO⟩,⟨by simp[zmb],fun s hs=>by simp[zmb] at hs⟩,fun b hb=>Nat.lt_of_lt_of_le hb hall.size,fun b hb hf=>?_⟩
 ·refine hS (fun b=>b<w.heap.size) (fun b hb=>hb) w'' ((zac h1117).trans k fun b hb=>?_)
  rcases hb with hb|hb|⟨a,ha,_⟩
  ·exact .inl hb
  ·subst hb;exact .inr hs11
  ·cases ha
 ·rcases hf with hf|⟨a,ha,_⟩
  ·subst hf;have:w15.heap.size<w.heap.size:=hb;omega
  ·cases ha
section
variable {O:Nat->Prop} {B fb:Nat} {w:World} {P:Pl} {F:Fm}
end
theorem zJl(a b:Nd)(p:Nat):zcv (zyz a b) p=zcv a p+zcv b p:=by unfold zcv zyz;split<;>rfl
theorem zJn(a b:Nd)(p:Nat):zcv (zjp a b) p=zcv a p-zcv b p:=by unfold zcv zjp;split<;>rfl
theorem zMH{a b:Nd}:zk8 a b↔∀p,p<3->zcv a p<=zcv b p:=by
 constructor
 ·rintro⟨h1,h2,h3⟩ i hi
  match i,hi with
  |0,_ => exact h1
  |1,_ => exact h2
  |2,_ => exact h3
 ·intro h
  exact⟨h 0 (by omega),h 1 (by omega),h 2 (by omega)⟩
def zeS(s:St)(i:Int)(p:Nat):Int:=if s.what=2/\s.host=i then zcv s.job.nd p else 0
def use(F:Fm)(i:Int)(p:Nat):Nat->Int
 |0 => 0
 |n+1 => use F i p n+zeS (zad F n) i p
theorem zCe{s:St}(h:okN s.job.nd)(i:Int){p:Nat}(hp:p<3):0<=zeS s i p:=by
 unfold zeS
 split
 ·exact(zq3.1 h p hp).1
 ·omega
theorem zLm{F:Fm}(h:∀k,k<F.jobs.length->okN (zad F k).job.nd)(i:Int){p:Nat}(hp:p<3):∀{n:Nat},n<=F.jobs.length->0<=use F i p n
 |0,_ => by simp[use]
 |n+1,hn => by
  have:=zLm h i hp (n:=n) (by omega)
  have:=zCe (h n (by omega)) i hp
  unfold use;omega
theorem zLl{F:Fm}(h:∀k,k<F.jobs.length->okN (zad F k).job.nd)(i:Int){p:Nat}(hp:p<3){k:Nat}:∀{n:Nat},n<=F.jobs.length->k<n->zeS (zad F k) i p<=use F i p n
 |0,_,hk => by omega
 |n+1,hn,hk => by
  unfold use
  by_cases hkn:k=n
  ·subst hkn
   have:=zLm h i hp (n:=k) (by omega)
   omega
  ·have:=zLl h i hp (n:=n) (by omega) (by omega:k<n)
   have:=zCe (h n (by omega)) i hp
   omega
structure zmm(F G:Fm)(k:Nat)(s:St):Prop where
 len:G.jobs.length=F.jobs.length
 pol:G.pol=F.pol
 now:G.now=F.now
 hlen:G.hosts.length=F.hosts.length
 at_:∀i,zad G i=if i=k then s else zad F i
 job:s.job=(zad F k).job
theorem zmm.self{F G:Fm}{k:Nat}{s:St}(t:zmm F G k s):zad G k=s:=by rw[t.at_,if_pos rfl]
theorem zmm.other{F G:Fm}{k:Nat}{s:St}(t:zmm F G k s){i:Nat}(h:i≠k):zad G i=zad F i:=by rw[t.at_,if_neg h]
theorem zmm.jobs{F G:Fm}{k:Nat}{s:St}(t:zmm F G k s)(i:Nat):(zad G i).job=(zad F i).job:=by
 rw[t.at_]
 split
 ·rename_i h;rw[h];exact t.job
 ·rfl
theorem zCr{F G:Fm}{k:Nat}{s:St}(t:zmm F G k s)(i:Int)(p:Nat):∀n,use G i p n=use F i p n+(if k<n then zeS s i p-zeS (zad F k) i p else 0)
 |0 => by simp[use]
 |n+1 => by
  unfold use
  rw[zCr t i p n,t.at_ n]
  by_cases h1:n=k
  ·subst h1
   rw[if_pos rfl,if_neg (by omega),if_pos (by omega)];omega
  ·rw[if_neg h1]
   by_cases h2:k<n
   ·rw[if_pos h2,if_pos (by omega)];omega
   ·rw[if_neg h2,if_neg (by omega)];omega
def zeT(p:Pol)(s:St):Prop:=0<=s.tries/\s.tries<=p.tries+1/\(s.what=4->s.tries=p.tries+1)/\(s.what=1\/s.what=2->s.tries<=p.tries)/\(s.what=1->0<s.tries->zmr p s.tries<=s.again)
def aftJ(F:Fm):Prop:=∀k,k<F.jobs.length->∀y∈(zad F k).job.aft,1<=y/\y<=k
theorem zEm{F:Fm}:zmn F↔aftJ F:=by
 constructor
 ·intro h k hk y hy
  exact h k _ (zC6 hk) y hy
 ·intro h i s hs y hy
  have hi:i<F.jobs.length:=(List.getElem?_eq_some_iff.1 hs).1
  rw[<-ziH hs] at hy
  exact h i hi y hy
structure zAF(F:Fm):Prop where
 aft:aftJ F
 pol:zn2 F.pol
 now:0<=F.now/\F.now<=1099511627776
 hs:zlM F.hosts
 nd:∀k,k<F.jobs.length->okN (zad F k).job.nd
 hrun:∀k,k<F.jobs.length->(zad F k).what=2->0<=(zad F k).host/\(zad F k).host<F.hosts.length
 use:∀i:Nat,i<F.hosts.length->∀p,p<3->zcv (F.hosts.getD i default).used p=use F i p F.jobs.length
 ahead:∀k,k<F.jobs.length->(zad F k).what=2\/(zad F k).what=3->∀y∈(zad F k).job.aft,za7 F y=3
 tries:∀k,k<F.jobs.length->zeT F.pol (zad F k)
def zHe(F:Fm)(n:Nat):Prop:=∀k,k<n->(zad F k).what=1->∀y∈(zad F k).job.aft,za7 F y≠4/\za7 F y≠5
structure Inv(F:Fm):Prop where
 i0:zAF F
 wt:zHe F F.jobs.length
theorem zAF.lv{F:Fm}(I:zAF F){k:Nat}(hk:k<F.jobs.length)(hw:(zad F k).what=2):LvOk F k:=by
 obtain⟨h0,h1⟩:=I.hrun k hk hw
 refine⟨I.hs,h0,h1,zMH.2 fun p hp=>?_⟩
 rw[I.use _ (by omega) p hp]
 have:=zLl I.nd (((zad F k).host.toNat:Nat):Int) hp (k:=k) (n:=F.jobs.length) (Nat.le_refl _) hk
 unfold zeS at this
 rw[if_pos ⟨hw,by omega⟩] at this
 exact this
theorem zAF.pre{F:Fm}(I:zAF F):Pre F:=⟨zEm.2 I.aft,I.pol,I.now,fun k hk hw=>I.lv hk hw,fun k hk=>by
 have h:=I.tries k hk
 have hp:=I.pol
 unfold zeT at h
 unfold zn2 okP at hp
 omega⟩
theorem zb6(F:Fm)(y:Int):za7 F y=(zad F (y-1).toNat).what:=rfl
theorem zmG{F G:Fm}{k:Nat}{s:St}(I:zAF F)(t:zmm F G k s)(hk:k<F.jobs.length)(hhs:zlM G.hosts)(hrun:s.what=2->0<=s.host/\s.host<F.hosts.length)
  (huse:∀i:Nat,i<F.hosts.length->∀p,p<3->zcv (G.hosts.getD i default).used p=zcv (F.hosts.getD i default).used p+(zeS s i p-zeS (zad F k) i p))
  (ha:s.what=2\/s.what=3->∀y∈s.job.aft,za7 F y=3) (hb:(zad F k).what=3->s.what=3) (ht:zeT F.pol s):zAF G:=by
 have haft:aftJ G:=fun i hi y hy=>by
  rw[t.jobs] at hy
  rw[t.len] at hi
  exact I.aft i hi y hy
 refine⟨haft,by rw[t.pol];exact I.pol,by rw[t.now];exact I.now,hhs,fun i hi=>by rw[t.jobs];exact I.nd i (by rw[t.len] at hi;exact hi),fun i hi hw=>?_,fun i hi p hp=>?_,fun i hi hw y hy=>?_,fun i hi=>?_⟩
 ·rw[t.hlen]
  rw[t.len] at hi
  rw[t.at_] at hw ⊢
  split at hw
  ·rename_i h;rw[if_pos h];exact hrun hw
  ·rename_i h;rw[if_neg h];exact I.hrun i hi hw
 ·rw[t.hlen] at hi
  rw[huse i hi p hp,I.use i hi p hp,t.len,zCr t,if_pos hk]
 ·rw[t.len] at hi
  have hy':=hy
  rw[t.jobs] at hy'
  have hle:=I.aft i hi y hy'
  rw[zb6,t.at_]
  by_cases hik:i=k
  ·subst hik
   rw[if_neg (by omega),<-zb6]
   rw[t.self] at hw hy
   exact ha hw y hy
  ·rw[t.other hik] at hw
   have h3:=I.ahead i hi hw y hy'
   split
   ·rename_i h
    rw[zb6,h] at h3
    exact hb h3
   ·exact h3
 ·rw[t.len] at hi
  rw[t.pol,t.at_]
  split
  ·exact ht
  ·exact I.tries i hi
theorem zmm.st(F:Fm){k m:Nat}(v:Int)(hk:k<F.jobs.length):zmm F (stF F k m v) k (zkc m v (zad F k)):=⟨zb0 F k m v,rfl,rfl,rfl,fun i=>zkX F v hk i,zna m v _⟩
theorem zH9{F:Fm}{s:St}:zN8 F s=true↔∃y∈s.job.aft,za7 F y=4\/za7 F y=5:=by
 unfold zN8
 rw[List.any_eq_true]
 simp[Bool.or_eq_true]
theorem zFI{F:Fm}(I:zAF F){n:Nat}(hn:n<F.jobs.length)(hw:zHe F n):zAF (zb9 F n)/\zHe (zb9 F n) (n+1):=by
 unfold zb9
 split
 ·rename_i h
  have t:=zmm.st F (m:=11) 5 hn
  have h5:(zkc 11 5 (zad F n)).what=5:=rfl
  refine⟨zmG I t hn I.hs (fun h2=>by rw[h5] at h2;omega) (fun i hi p hp=>?_) (fun h2=>by rw[h5] at h2;omega) (fun h3=>by rw[h.1] at h3;omega) ?_,fun k hk h1 y hy=>?_⟩
  ·have e1:zeS (zkc 11 5 (zad F n)) i p=0:=by unfold zeS;rw[if_neg (fun h=>by rw[h5] at h;omega)]
   have e2:zeS (zad F n) i p=0:=by unfold zeS;rw[if_neg (fun g=>by rw[h.1] at g;omega)]
   rw[e1,e2,zkJ];omega
  ·have:=I.tries n hn
   unfold zeT at this ⊢
   simp only[zkc]
   omega
  ·rw[t.at_] at h1
   rw[t.jobs] at hy
   split at h1
   ·rw[h5] at h1;omega
   ·rename_i hkn
    have hle:=I.aft k (by omega) y hy
    have:=hw k (by omega) h1 y hy
    rw[zb6,t.other (by omega),<-zb6]
    exact this
 ·rename_i h
  refine⟨I,fun k hk h1 y hy=>?_⟩
  by_cases hkn:k=n
  ·subst hkn
   have:zN8 F (zad F k)≠true:=fun hb=>h ⟨h1,hb⟩
   rw[Ne,zH9] at this
   exact⟨fun h=>this ⟨y,hy,.inl h⟩,fun h=>this ⟨y,hy,.inr h⟩⟩
  ·exact hw k (by omega) h1 y hy
theorem zBI{F:Fm}(I:zAF F):Inv (znW F):=by
 have h:∀n,n<=F.jobs.length->zAF (lostTo F n)/\zHe (lostTo F n) n:=by
  intro n
  induction n with
  |zero => intro _;exact⟨I,fun k hk => by omega⟩
  |succ n ih =>
   intro hn
   obtain⟨a,b⟩:=ih (by omega)
   exact zFI a (by rw[zhV];omega) b
 obtain⟨a,b⟩:=h _ (Nat.le_refl _)
 refine⟨a,?_⟩
 unfold znW
 rw[zhV]
 exact b
theorem zIU{F:Fm}{k:Nat}(i:Nat)(p:Nat)(h0:0<=(zad F k).host)(h1:(zad F k).host<F.hosts.length)(hw:(zad F k).what=2):zcv ((zlD F k).hosts.getD i default).used p=zcv (F.hosts.getD i default).used p-zeS (zad F k) i p:=by
 unfold zlD zeS
 by_cases hi:(zad F k).host.toNat=i
 ·rw[if_pos ⟨hw,by omega⟩]
  subst hi
  simp only[List.getD_eq_getElem?_getD,List.getElem?_set_self (show(zad F k).host.toNat<F.hosts.length by omega)]
  simp only[Option.getD_some,zgB]
  rw[zJn]
 ·rw[if_neg (fun h=>by omega)]
  simp only[List.getD_eq_getElem?_getD,List.getElem?_set_ne hi]
  omega
theorem zMO{F:Fm}(I:zAF F){k:Nat}(hk:k<F.jobs.length)(hw:(zad F k).what=2):zlM (zlD F k).hosts:=by
 obtain⟨_,h0,h1,hf⟩:=I.lv hk hw
 have hm:=zat F.hosts default (i:=(zad F k).host.toNat) (by omega)
 obtain⟨_,_,_,c,d,e⟩:=I.hs.2.1 _ hm
 have hn:=I.nd k hk
 refine zw8 I.hs (by omega) ?_ ?_
 ·unfold okN zk8 zjp at *;simp only;omega
 ·unfold okN zk8 zjp at *;simp only;omega
theorem zmF{F G:Fm}{k:Nat}{s:St}(I:zAF F)(hk:k<F.jobs.length)(hw:(zad F k).what=2)(t:zmm F G k s)(hG:G.hosts=(zlD F k).hosts)(hs:s.what≠2)(ht:zeT F.pol s):zAF G:=by
 obtain⟨h0,h1⟩:=I.hrun k hk hw
 refine zmG I t hk (by rw[hG];exact zMO I hk hw) (fun h=>absurd h hs) (fun i hi p hp=>?_) (fun h y hy=>?_) (fun h=>by omega) ht
 ·rw[hG,zIU i p h0 h1 hw]
  have:zeS s i p=0:=by unfold zeS;rw[if_neg (fun h=>hs h.1)]
  rw[this];omega
 ·rw[t.job] at hy
  exact I.ahead k hk (.inl hw) y hy
theorem zoy{F G:Fm}{k:Nat}{s:St}(I:Inv F)(t:zmm F G k s)(hk:k<F.jobs.length)(hs:s.what≠4/\s.what≠5)(h1:s.what=1->∀y∈s.job.aft,za7 F y≠4/\za7 F y≠5):zHe G G.jobs.length:=fun i hi hw y hy=>by
 rw[t.len] at hi
 have hy':=hy
 rw[t.jobs] at hy'
 have hle:=I.i0.aft i hi y hy'
 rw[zb6,t.at_]
 split
 ·exact hs
 ·rw[<-zb6]
  by_cases hik:i=k
  ·subst hik
   rw[t.self] at hw hy
   exact h1 hw y hy
  ·rw[t.other hik] at hw
   exact I.wt i hi hw y hy'
theorem zmm.left{F:Fm}{k:Nat}(hk:k<F.jobs.length):zmm F (zdW F k) k { zad F k with host:=0,since:=0 }:=⟨zcp F k,rfl,rfl,by unfold zdW;rw[zkJ,zkJ];unfold zlD;simp,fun i=>zkD hk i,rfl⟩
theorem zmm.then_{F G:Fm}{k:Nat}{s:St}(t:zmm F G k s)(hk:k<F.jobs.length)(m:Nat)(v:Int):zmm F (stF G k m v) k (zkc m v s):=by
 have u:=zmm.st G (m:=m) v (by rw[t.len];exact hk)
 refine⟨u.len.trans t.len,u.pol.trans t.pol,u.now.trans t.now,u.hlen.trans t.hlen,fun i=>?_,(zna m v s).trans t.job⟩
 rw[u.at_]
 split
 ·rw[t.self]
 ·rename_i h;rw[t.other h]
theorem zvg{F:Fm}(I:Inv F){k:Nat}(hk:k<F.jobs.length)(hw:(zad F k).what=2)(ok:Bool):Inv (zh2 F k ok):=by
 have ht:=I.i0.tries k hk
 have hp:=I.i0.pol
 have tl:=zmm.left hk
 have h3:=I.i0.ahead k hk (.inl hw)
 have hn:=I.i0.now
 unfold zh2
 split
 ·have t:=tl.then_ hk 11 3
  refine⟨zmF I.i0 hk hw t rfl (by simp[zkc]) ?_,zoy I t hk (by simp[zkc]) (by simp[zkc])⟩
  unfold zeT at ht ⊢
  simp only[zkc]
  omega
 have tt:zmm F (zdd F k) k _:=tl.then_ hk 15 ((zad F k).tries+1)
 split
 ·rename_i hle
  have t:=(tt.then_ hk 11 1).then_ hk 14 (F.now+zmr F.pol ((zad F k).tries+1))
  refine⟨zmF I.i0 hk hw t rfl (by simp[zkc]) ?_,zoy I t hk (by simp[zkc]) (fun _ y hy=>?_)⟩
  ·unfold zeT at ht ⊢
   simp only[zkc]
   refine⟨by omega,by omega,by omega,by omega,fun _ _=>by omega⟩
  ·have:=h3 y hy
   omega
 ·rename_i hgt
  have t:=tt.then_ hk 11 4
  refine zBI (zmF I.i0 hk hw t rfl (by simp[zkc]) ?_)
  unfold zeT at ht ⊢
  simp only[zkc]
  omega
theorem zEG{F:Fm}(I:Inv F){k:Nat}(hk:k<F.jobs.length)(hw:(zad F k).what=1\/(zad F k).what=2):Inv (zCL F k):=by
 have ht:=I.i0.tries k hk
 unfold zCL
 refine zBI ?_
 split
 ·rename_i h2
  have t:=(zmm.left hk).then_ hk 11 5
  refine zmF I.i0 hk h2 t rfl (by simp[zkc]) ?_
  unfold zeT at ht ⊢
  simp only[zkc]
  omega
 ·rename_i h2
  have h1:(zad F k).what=1:=by omega
  have t:=zmm.st F (m:=11) 5 hk
  refine zmG I.i0 t hk I.i0.hs (by simp[zkc]) (fun i hi p hp=>?_) (by simp[zkc]) (fun h=>by omega) ?_
  ·have e1:zeS (zkc 11 5 (zad F k)) i p=0:=by unfold zeS;rw[if_neg (by simp[zkc])]
   have e2:zeS (zad F k) i p=0:=by unfold zeS;rw[if_neg (by omega)]
   rw[e1,e2,zkJ];omega
  ·unfold zeT at ht ⊢
   simp only[zkc]
   omega
theorem zt2{F:Fm}{j:Jb}(i:Nat):zad (zrC F j) i=if i<F.jobs.length then zad F i else if i=F.jobs.length then zuN j else default:=by
 unfold zad zrC
 simp only[List.getD_eq_getElem?_getD]
 split
 ·rename_i h;rw[List.getElem?_append_left h]
 ·rename_i h
  rw[List.getElem?_append_right (by omega)]
  split
  ·rename_i h2;rw[h2];simp
  ·rename_i h2
   rw[List.getElem?_eq_none (by simp;omega)];rfl
theorem zrD(F:Fm)(j:Jb):(zrC F j).jobs.length=F.jobs.length+1:=by simp[zrC]
theorem zHd{F:Fm}{j:Jb}(i:Int)(p:Nat):∀n,n<=F.jobs.length->use (zrC F j) i p n=use F i p n
 |0,_ => rfl
 |n+1,h => by
  unfold use
  rw[zHd i p n (by omega),zt2,if_pos (by omega)]
theorem upA_ge{l:List Int}(h:upA 0 l):∀x∈l,1<=x:=fun x hx=>(zhv h x hx).1
theorem zvn{F:Fm}{j:Jb}(I:Inv F)(h:zxa F j):Inv (zrC F j):=by
 have hup:∀x∈j.aft,1<=x:=upA_ge h.1.up
 have wh:∀y:Int,1<=y->y<=F.jobs.length->za7 (zrC F j) y=za7 F y:=fun y h1 h2=>by rw[zb6,zt2,if_pos (by omega),<-zb6]
 have cs:∀{k},k<(zrC F j).jobs.length->k<F.jobs.length/\zad (zrC F j) k=zad F k\/k=F.jobs.length/\zad (zrC F j) k=zuN j:=fun {k} hk=>by
  rw[zrD] at hk
  rw[zt2]
  by_cases h:k<F.jobs.length
  ·exact .inl ⟨h,if_pos h⟩
  ·exact .inr ⟨by omega,by rw[if_neg h,if_pos (by omega)]⟩
 refine⟨⟨fun k hk y hy=>?_,I.i0.pol,I.i0.now,I.i0.hs,fun k hk=>?_,fun k hk hw=>?_,fun i hi p hp=>?_,fun k hk hw y hy=>?_,fun k hk=>?_⟩,fun k hk hw y hy=>?_⟩
 ·rcases cs hk with⟨hk,e⟩|⟨hk,e⟩<;>rw[e] at hy
  ·exact I.i0.aft k hk y hy
  ·have:=(h.2.2 y hy).1
   exact⟨hup y hy,by omega⟩
 ·rcases cs hk with⟨hk,e⟩|⟨hk,e⟩<;>rw[e]
  ·exact I.i0.nd k hk
  ·exact h.1.nd
 ·rcases cs hk with⟨hk,e⟩|⟨hk,e⟩<;>rw[e] at hw ⊢
  ·exact I.i0.hrun k hk hw
  ·simp[zuN] at hw
 ·rw[zrD]
  unfold use
  rw[zHd _ _ _ (Nat.le_refl _),zt2,if_neg (by omega),if_pos rfl]
  have:zeS (zuN j) i p=0:=by unfold zeS;rw[if_neg (by simp[zuN])]
  rw[this]
  have:=I.i0.use i hi p hp
  show zcv (F.hosts.getD i default).used p=_
  omega
 ·rcases cs hk with⟨hk,e⟩|⟨hk,e⟩<;>rw[e] at hw hy
  ·have:=I.i0.aft k hk y hy
   rw[wh y this.1 (by omega)]
   exact I.i0.ahead k hk hw y hy
  ·simp[zuN] at hw
 ·rcases cs hk with⟨hk,e⟩|⟨hk,e⟩<;>rw[e]
  ·exact I.i0.tries k hk
  ·have hp:=I.i0.pol
   unfold zn2 okP at hp
   show zeT F.pol (zuN j)
   unfold zeT zuN
   simp only
   omega
 ·rcases cs hk with⟨hk,e⟩|⟨hk,e⟩<;>rw[e] at hw hy
  ·have:=I.i0.aft k hk y hy
   rw[wh y this.1 (by omega)]
   exact I.wt k hk hw y hy
  ·have h1:=h.2.2 y hy
   rw[wh y (hup y hy) h1.1]
   exact h1.2
theorem zek{F:Fm}{s:St}:zdY F s=true↔s.what=1/\s.again<=F.now/\∀y∈s.job.aft,za7 F y=3:=by
 unfold zdY
 simp[Bool.and_eq_true,List.all_eq_true,and_assoc]
theorem zmm.run{F:Fm}{k0:Nat}{k:Int}(hk:k0<F.jobs.length):zmm F (zgt F k0 k) k0 { zad F k0 with what:=2,host:=k,since:=F.now }:=⟨zkb F k0 k,rfl,rfl,by show(zlX F k0 k).hosts.length=_;unfold zlX;simp,fun i=>zxM hk k i,rfl⟩
theorem zm7(F:Fm)(k0:Nat)(k:Int):(zgt F k0 k).hosts=(zlX F k0 k).hosts:=rfl
theorem zv6{L:List Ht}{t:AT}{a:Nd}{k:Int}(h:zgI L t a k):0<=k/\k<L.length/\zk8 a (zjp (L.getD k.toNat default).has (L.getD k.toNat default).used):=by
 obtain⟨h0,h1,h2⟩:=zpL.1 h.1
 unfold zIP at h2
 rw[Bool.and_eq_true,decide_eq_true_iff] at h2
 exact⟨h0,h1,h2.2⟩
theorem zJ8{F:Fm}{k0:Nat}{k:Int}(i:Nat)(p:Nat)(h0:0<=k)(h1:k<F.hosts.length):zcv ((zlX F k0 k).hosts.getD i default).used p=zcv (F.hosts.getD i default).used p+(if k=i then zcv (zad F k0).job.nd p else 0):=by
 unfold zlX zqM
 by_cases hi:k.toNat=i
 ·rw[if_pos (by omega)]
  subst hi
  simp only[List.getD_eq_getElem?_getD,List.getElem?_set_self (show k.toNat<F.hosts.length by omega)]
  simp only[Option.getD_some,zgB]
  rw[zJl]
 ·rw[if_neg (fun h=>by omega)]
  simp only[List.getD_eq_getElem?_getD,List.getElem?_set_ne hi]
  omega
theorem zz5{F:Fm}(I:Inv F){k0:Nat}(hk:k0<F.jobs.length)(hr:zdY F (zad F k0)=true){k:Int}(hb:zgI F.hosts (zad F k0).job.ask (zad F k0).job.nd k):Inv (zgt F k0 k):=by
 obtain⟨h0,h1,hf⟩:=zv6 hb
 obtain⟨r1,r2,r3⟩:=zek.1 hr
 have t:=zmm.run (k:=k) hk
 have ht:=I.i0.tries k0 hk
 refine⟨zmG I.i0 t hk (by rw[zm7];exact zw7 I.i0.hs h0 h1 (I.i0.nd k0 hk) hf) (fun _=>⟨h0,h1⟩) (fun i hi p hp=>?_) (fun _ y hy=>r3 y hy) (fun h=>by omega) ?_,zoy I t hk (by simp) (by simp)⟩
 ·rw[zm7,zJ8 i p h0 h1]
  have e2:zeS (zad F k0) i p=0:=by unfold zeS;rw[if_neg (by omega)]
  rw[e2]
  unfold zeS
  simp only[true_and]
  omega
 ·unfold zeT at ht ⊢
  simp only
  omega
theorem zr2.ind{Mot:Fm->Prop}(step:∀F id k,inJ F id->zdY F (zad F (id-1).toNat)=true->zgI F.hosts (zad F (id-1).toNat).job.ask (zad F (id-1).toNat).job.nd k->Mot F->Mot (zgt F (id-1).toNat k)) :
  ∀{F G:Fm} {ids:List Int} {outs:List (Int×Int)},zr2 F ids G outs->ids.Nodup->(∀id∈ids,inJ F id/\zdY F (zad F (id-1).toNat)=true)->Mot F->Mot G:=by
 intro F G ids outs h
 induction h with
 |nil F => intro _ _ m;exact m
 |skip h1 _ ih =>
  intro hn hr m
  exact ih (List.nodup_cons.1 hn).2 (fun id h=>hr id (List.mem_cons_of_mem _ h)) m
 |@run F F' id k ids out h1 _ ih =>
  intro hn hr m
  obtain⟨hin,hrd⟩:=hr id (List.mem_cons_self ..)
  have hk:(id-1).toNat<F.jobs.length:=by have:=hin.1;have:=hin.2;omega
  have t:=zmm.run (k:=k) hk
  refine ih (List.nodup_cons.1 hn).2 (fun id' h=>?_) (step F id k hin hrd h1 m)
  obtain⟨hin',hrd'⟩:=hr id' (List.mem_cons_of_mem _ h)
  have hne:id'≠id:=fun h2=>(List.nodup_cons.1 hn).1 (h2▸h)
  have hk':(id'-1).toNat≠(id-1).toNat:=by have:=hin.1;have:=hin'.1;omega
  refine⟨⟨hin'.1,by rw[t.len];exact hin'.2⟩,?_⟩
  rw[t.other hk']
  rw[zek] at hrd' hrd ⊢
  refine⟨hrd'.1,by rw[t.now];exact hrd'.2.1,fun y hy=>?_⟩
  have:=hrd'.2.2 y hy
  rw[zb6] at this ⊢
  rw[t.at_]
  split
  ·rename_i h;rw[h] at this;omega
  ·exact this
theorem zxy{F:Fm}{T:List Int}(h:zLu F T):T.Nodup:=(h.1.nodup_iff).2 (ziW F _)
theorem zrm{F:Fm}{T:List Int}(h:zLu F T):∀id∈T,inJ F id/\zdY F (zad F (id-1).toNat)=true:=fun id hi=>by
 obtain⟨a,b,c⟩:=zge.1 (h.1.mem_iff.1 hi)
 exact⟨⟨a,b⟩,c⟩
theorem zm5{Mot:Fm->Prop}(step:∀F id k,inJ F id->zdY F (zad F (id-1).toNat)=true->zgI F.hosts (zad F (id-1).toNat).job.ask (zad F (id-1).toNat).job.nd k->Mot F->Mot (zgt F (id-1).toNat k)){F G:Fm}{outs:List (Int×Int)}(h:zdy F G outs)(m:Mot F):Mot G:=by
 obtain⟨T,h1,h2⟩:=h
 exact h2.ind step (zxy h1) (zrm h1) m
theorem zjX{F:Fm}{id:Int}(h:inJ F id):(id-1).toNat<F.jobs.length:=by have:=h.1;have:=h.2;omega
theorem zBS{F G:Fm}{outs:List (Int×Int)}(h:zdy F G outs)(I:Inv F):Inv G :=
 zm5 (fun F id k hin hr hb I=>zz5 I (zjX hin) hr hb) h I
theorem zFU{L:List Ht}{pol:Pol}(h:zw9 L pol):Inv (zmb L pol):=by
 refine⟨⟨fun k hk=>(by simp[zmb] at hk),h.2.2,by simp[zmb],h.1,fun k hk=>(by simp[zmb] at hk),fun k hk=>(by simp[zmb] at hk),fun i hi p hp=>?_,fun k hk=>(by simp[zmb] at hk),fun k hk=>(by simp[zmb] at hk)⟩,fun k hk=>(by simp[zmb] at hk)⟩
 have hm:=h.2.1 _ (zat L default (i:=i) hi)
 show zcv (L.getD i default).used p=0
 rw[hm]
 unfold zcv zbh
 split<;>rfl
structure zHn(n:Nat)(w:World)(p:Option Addr)(c:Nat)(R:List StR):Prop where
 own:Own n w zlt 16 p R.length c (R.flatMap zwh)
 far:∀r∈R,Far n w fun w''=>IsJ w'' r.s.job r.pa r.ca r.pf
theorem zHn.st{n:Nat}{w:World}{p:Option Addr}{c:Nat}{R:List StR}(h:zHn n w p c R){k:Int}(h0:0<=k)(h1:k<R.length):∃r,R[k.toNat]?=some r/\p≠none/\pIdx p k 16≠none/\(∀(m:Nat) u,(zwh r)[m]?=some u->Go.Sx.cell w (pIdx p k 16) m=some u)/\IsJ w r.s.job r.pa r.ca r.pf:=by
 obtain⟨r,hr⟩:∃r,R[k.toNat]?=some r:=⟨_,List.getElem?_eq_getElem (by omega)⟩
 have g:∀(m:Nat) u,(zwh r)[m]?=some u->Go.Sx.cell w (pIdx p k 16) m=some u:=fun m u hu=>(h.own.recs fun _ _=>rfl).at h0 hr hu
 have g0:=g 0 _ rfl
 exact⟨r,hr,fun h=>zal g0 (zah.2 h),zal g0,g,(h.far r (List.mem_of_getElem? hr)).at⟩
theorem zE3{t:AT}(h:znu t=0):zfw t=0:=by
 unfold znu at h
 split at h
 ·omega
 ·exact h
section
variable {O:Nat->Prop} {B fb:Nat} {w:World} {P:Pl} {F:Fm}
theorem zDZ(x:FXO O B w fb P F):FnP Tryz.prog zaA #[.pointer (ptr fb)] w fun v w'=>Ext w w'/\∃(p:Option Addr) (c:Nat) (R:List StR),v=.slice p R.length c/\R.map (·.s)=F.jobs/\zHn w.heap.size w' p c R:=by
 have ne:=zaO fb
 have hl:=x.len
 have hl0:=x.jO.1
 refine zob (ptr fb) w _ ⟨ne,ne,_,_,_,x.cell (i:=6) rfl,?_⟩
 rw[hl]
 refine⟨fun out outl outc k w'=>Ext w w'/\0<=k/\k<=F.jobs.length/\outl=k.toNat/\∃R:List StR,R.map (·.s)=F.jobs.take k.toNat/\Own w.heap.size w' zlt 16 out outl outc (R.flatMap zwh) /\
   ∀r∈R,∀w'',Fr (fun b=>b<w.heap.size\/∃a,out=some a/\a.block=b) w' w''->IsJ w'' r.s.job r.pa r.ca r.pf,
  fun _ _ _ k _=>(F.jobs.length-k).toNat,⟨Ext.refl _,by omega,by omega,rfl,[],rfl,Own.nil,fun x hx=>(by cases hx)⟩,?_⟩
 rintro out outl outc k w6 ⟨x6,hk0,hk1,rfl,R,hR,oR,hT⟩
 have hRl:R.length=k.toNat:=by have:=congrArg List.length hR;rw[List.length_map,List.length_take] at this;omega
 refine⟨fun hlt=>?_,fun hge w7 h7=>?_⟩
 ·obtain⟨r,hr,hF,hjp,hne,g,_,hJ,hok,hwf⟩:=(x.ext x6).st hk0 hlt
  refine⟨hjp,hk0,hlt,hne,_,g 0 _ rfl,_,g 1 _ rfl,_,g 2 _ rfl,_,g 3 _ rfl,_,g 4 _ rfl,_,g 5 _ rfl,_,g 6 _ rfl,_,g 7 _ rfl,_,g 8 _ rfl,_,_,_,g 9 _ rfl,_,_,_,g 10 _ rfl,_,g 11 _ rfl,_,g 12 _ rfl,_,g 13 _ rfl,_,g 14 _ rfl,_,g 15 _ rfl,fun b27 hb27 w28 x28=>?_⟩
  have h28:=zaa x28
  refine(zGd r w28 (hJ.ext h28) (zE3 hok.ask) hok.len).mono fun v w29 ⟨e29,r',hv,hrs,hF'⟩=>⟨e29,_,_,_,_,_,_,_,_,_,r'.pa,_,r'.ca,r'.pf,_,r'.cf,_,_,_,_,_,hv,?_⟩
  have h629:=h28.trans e29
  have hw29:=x6.trans h629
  have oR29:=oR.ext h629
  have hns:∀b∈[b27],∀y,out=some y->y.block≠b:=fun b hb y hy=>by
   simp at hb;subst hb
   have:=(oR.lt y hy).2;omega
  refine zrq (v:=sv r') ziB (by omega) oR29 hw29.size hns rfl (by intro u hu;simp[Value.cells] at hu;rcases hu with rfl|rfl|rfl|rfl|rfl|rfl|rfl|rfl|rfl|rfl|rfl|rfl|rfl|rfl|rfl|rfl<;>rfl) (by omega) (by omega) (by omega) fun out' outc' w56 o56 g56 _ hb56=>⟨i64 (by omega),⟨g56.ext hw29 oR29,by omega,by omega,by omega,R++[r'],?_,?_,?_⟩,by simp only[];omega⟩
  ·rw[show(k+1).toNat=k.toNat+1 by omega,List.map_append,hR,List.take_add_one,hF]
   simp[hrs]
  ·rw[List.flatMap_append]
   simpa[Value.cells,zwh] using o56
  ·have step:∀(w0 w'':World),Ext w0 w29->w0.heap.size<=w29.heap.size->Fr (fun b=>b<w.heap.size\/∃a,out'=some a/\a.block=b) w56 w''->Fr (fun b=>b<w.heap.size\/∃a,out=some a/\a.block=b) w0 w'':=fun w0 w'' h0 hs fw=>by
    have f1:Fr (fun b=>b<w.heap.size\/∃a,out=some a/\a.block=b) w0 w56:=(zac h0).tr (zaT g56 fun a ha=>.inr ⟨a,ha,rfl⟩)
    refine f1.trans fw fun b hb=>?_
    rcases hb with h|⟨a2,ha2,hk2⟩
    ·exact .inl (.inl h)
    rcases g56.new with hn|hn
    ·left
     rw[ha2] at hn
     cases hout:out with
     |none => rw[hout] at hn;simp[blk] at hn
     |some y => rw[hout] at hn;simp[blk] at hn;exact .inr ⟨y,rfl,by omega⟩
    ·right
     have:=hn a2 ha2
     omega
   intro y hy w'' fw
   rcases List.mem_append.1 hy with hy|hy
   ·exact hT y hy w'' (step w6 w'' h629 h629.size fw)
   ·simp at hy;subst hy
    rw[hrs]
    refine hF' _ (fun b hb=>?_) w'' (step w29 w'' (Ext.refl _) (Nat.le_refl _) fw)
    rcases hb with h|⟨a,ha,rfl⟩
    ·have:=x6.size;have:=h28.size;omega
    ·have:=(oR.lt a ha).2;have:=h28.size;omega
 ·have hkl:k.toNat=F.jobs.length:=by omega
  rw[hkl,List.take_length] at hR
  refine⟨x6.trans h7,out,outc,R,by rw[hRl],hR,⟨by rw[hRl];exact oR.ext h7,fun r hr S hS w'' fw=>hT r hr w'' ((zac h7).tr (fw.mono fun b hb=>.inl (hS b hb)))⟩⟩
theorem zDX(x:FXO O B w fb P F)(hh:zlM F.hosts):FnP Tryz.prog zbj #[.pointer (ptr fb)] w fun v w'=>Ext w w'/\∃(p:Option Addr) (c:Nat),v=.slice p F.hosts.length c/\F.hosts.length<=c/\HsS w.heap.size w' p F.hosts:=by
 have ne:=zaO fb
 refine zmX (ptr fb) w _ ⟨ne,ne,_,_,_,x.cell (i:=0) rfl,fun w3 h3=>?_⟩
 refine(zK7 P.hp P.hc F.hosts hh.1 (fun h hx=>(hh.2.1 h hx).2.1) w3 ((x.ext h3).hs w3 (Fr.refl _ _))).mono fun v w4 ⟨e4,p',c',M,hv,hM,o4,hA,hN⟩=>⟨e4,p',_,c',hv,fun w8 h8=>⟨(h3.trans e4).trans h8,p',c',rfl,o4.le.1,?_⟩⟩
 have hS:=(zFl o4 (fun m hm=>(hA m hm).1) hN).weak h3.size
 rw[hM] at hS
 exact hS.ext h8
end
abbrev zaB:FuncId:=262
def zfU(a:Int)(c:World)(f:Value->World->Prop):Prop:=
 ((a=0)->∀d,Ext c d->f (.int .i64 64) d)/\((a≠0)->(some (⟨9,0,none⟩:Addr))≠none/\(0:Int)<=(zan .shr .u64 (IntKind.wrap .u64 ((zan .and .u64 a (IntKind.wrap .u64 (0-a)))*285870213051353865)) 58)/\((zan .shr .u64 (IntKind.wrap .u64 ((zan .and .u64 a (IntKind.wrap .u64 (0-a)))*285870213051353865)) 58):Int)<64/\∃b,cell c (pIdx (some (⟨9,0,none⟩:Addr)) (zan .shr .u64 (IntKind.wrap .u64 ((zan .and .u64 a (IntKind.wrap .u64 (0-a)))*285870213051353865)) 58) 1) 0=some (.int .u8 b)/\InR .i64 b/\∀e,Ext c e->f (.int .i64 b) e)
theorem zc1(a:Int)(b:World)(c:Value->World->Prop)(h:zfU a b c):FnP Tryz.prog zaB #[(.int .u64 a)] b c:=
 zab (Eq.mp (by kernel_rfl:_=Runs Tryz.prog c ({N:=14,wrap:=[7,9]}:Cfg) Tryz.f262 (Tryz.f262.body.getD .skip) [.sc (.int .u64 a)] b) h) Tryz.func262 (by kernel_rfl) (fun a w=>Tryz.call262 a w) (by kernel_rfl) (by kernel_rfl) rfl rfl
def lng(y:Int):Prop:=(y%4=0/\y%100≠0)\/y%400=0
instance (y:Int):Decidable (lng y):=by unfold lng;infer_instance
def ah(m:Int):Int:=if m<=1 then 0 else if m=2 then 31 else if m=3 then 59 else if m=4 then 90 else if m=5 then 120 else if m=6 then 151 else if m=7 then 181 else if m=8 then 212 else if m=9 then 243 else if m=10 then 273 else if m=11 then 304 else 334
def Gl(w:World):Prop:=∀i:Nat,i<13->cell w (some (⟨10,0,none⟩:Addr)) i=some (.int .i64 (ah i))
def GT(w:World):Prop:=∀i:Nat,i<64->cell w (some (⟨9,0,none⟩:Addr)) i=some (.int .u8 ((Lib.deBruijn64tab.getD i 0:Nat):Int))
def GC(w:World):Prop:=GT w/\Gl w
structure Cr where
 a:Int
 b:Int
 c:Int
 d:Int
 e:Int
def zx6:List ByteArray:=[⟨#[]⟩,⟨#[119,97,105,116]⟩,⟨#[114,117,110]⟩,⟨#[100,111,110,101]⟩,⟨#[102,97,105,108]⟩,⟨#[103,111,110,101]⟩]
def errT:Value:=.iface 329 (.agg #[.pointer (some ⟨11,175,none⟩)])
structure GD(w:World):Prop where
 gb:GB w
 whats:zaw w (some ⟨4,0,none⟩) (zx6.map Value.string)
 eType:Go.Sx.cell w (some ⟨0,0,none⟩) 0=some errT
 gc:GC w
theorem tab_fr{P:Program}{S:Nat->Prop}{w w':World}{name:String}{k:IntKind}{zs:List Int}(h:Lib.TabIs P w name k zs)(f:Fr S w w')(hS:∀g,P.globalNamed name=some g->¬S g):Lib.TabIs P w' name k zs:=by
 unfold Lib.TabIs World.var? at *
 cases hg:P.globalNamed name with
 |none => simp[hg] at h
 |some g =>
  simp only[hg,Option.bind_some] at h ⊢
  have hlt:g<w.heap.size:=by
   rcases Nat.lt_or_ge g w.heap.size with h'|h'
   ·exact h'
   ·rw[Array.getElem?_eq_none h'] at h;simp at h
  rw[f.block g hlt (hS g hg)];exact h
theorem g1 : Tryz.prog.globalNamed "internal/strconv.uint64pow10" = some 1 := by kernel_rfl
theorem GB.fr{S:Nat->Prop}{w w':World}(g:GB w)(f:Fr S w w')(h:∀b,S b->11<=b):GB w':=by
 have n:∀b,b<11->¬S b:=fun b hb hs=>by have:=h b hs;omega
 refine⟨tab_fr g.pow f fun b hb=>?_,?_,?_,?_⟩
 ·rw[g1] at hb;injection hb with hb;subst hb;exact n 1 (by omega)
 ·obtain⟨m,e⟩:=g.maxLen;exact⟨m,zea e f fun a ha=>by cases ha;exact n 5 (by omega)⟩
 ·obtain⟨m,e,k⟩:=g.eSyn;exact⟨m,zea e f fun a ha=>(by cases ha;exact n 2 (by omega)),k⟩
 ·obtain⟨m,e,k⟩:=g.eRan;exact⟨m,zea e f fun a ha=>(by cases ha;exact n 3 (by omega)),k⟩
theorem GD.fr{S:Nat->Prop}{w w':World}(g:GD w)(f:Fr S w w')(h:∀b,S b->11<=b):GD w':=by
 have n:∀b,b<11->¬S b:=fun b hb hs=>by have:=h b hs;omega
 exact⟨g.gb.fr f h,g.whats.fr f fun a ha=>(by cases ha;exact n 4 (by omega)),zea g.eType f fun a ha=>(by cases ha;exact n 0 (by omega)),⟨fun i hi=>zea (g.gc.1 i hi) f fun a ha=>(by cases ha;exact n 9 (by omega)),fun i hi=>zea (g.gc.2 i hi) f fun a ha=>(by cases ha;exact n 10 (by omega))⟩⟩
theorem GD.ext{w w':World}(g:GD w)(e:Ext w w'):GD w':=g.fr (zac (S:=fun _=>False) e) fun _ h=>h.elim
def EV(v:Value)(c:Int):Prop:=(c=0/\v=.nilIface)\/(c≠0/\(v=.iface 24 (.int .i64 c)\/∃k:Int,v=.iface 257 (.agg #[.int .i64 k,.iface 24 (.int .i64 c)])))
theorem EV.isErr{v:Value}{c:Int}(h:EV v c):isErr v:=by
 rcases h with⟨_,h⟩|⟨_,h|⟨k,h⟩⟩
 ·exact .inl h
 ·exact .inr ⟨_,_,h⟩
 ·exact .inr ⟨_,_,h⟩
theorem EV.nil{v:Value}{c:Int}(h:EV v c):v=.nilIface↔c=0:=by
 rcases h with⟨h0,h⟩|⟨h0,h|⟨k,h⟩⟩
 ·exact⟨fun _=>h0,fun _=>h⟩
 ·exact⟨fun g=>(by rw[h] at g;cases g),fun g=>absurd g h0⟩
 ·exact⟨fun g=>(by rw[h] at g;cases g),fun g=>absurd g h0⟩
theorem u24:Tryz.prog.underlying 24=some (.int .i64):=by kernel_rfl
theorem zwX{c:Int}{w:World}{K:Value->World->Prop}(h:K (.iface 24 (.int .i64 c)) w):Run Tryz.prog (.makeInterface 24 (.int .i64 c)) w K :=
 zgk u24 (by intro m hm;cases hm) h
theorem u257:(Tryz.prog.underlying 257).map (fun d=>match d with|.struct _=>true|_=>false)=some true:=by kernel_rfl
theorem zDc{k c:Int}{w:World}{K:Value->World->Prop}(h:K (.iface 257 (.agg #[.int .i64 k,.iface 24 (.int .i64 c)])) w):Run Tryz.prog (.makeInterface 257 (.agg #[.int .i64 k,.iface 24 (.int .i64 c)])) w K:=by
 obtain⟨d,hd,he⟩:=Option.map_eq_some_iff.1 u257
 exact zgk hd (by intro m hm;subst hm;cases he) h
theorem zIJ{c:Int}(h:c≠0):EV (.iface 24 (.int .i64 c)) c:=.inr ⟨h,.inl rfl⟩
theorem zCW{k c:Int}(h:c≠0):EV (.iface 257 (.agg #[.int .i64 k,.iface 24 (.int .i64 c)])) c:=.inr ⟨h,.inr ⟨k,rfl⟩⟩
theorem ev0:EV .nilIface 0:=.inl ⟨rfl,rfl⟩
theorem zrZ(e:Int)(w:World):FnP Tryz.prog zct #[.int .i64 e] w fun v w'=>Ext w w'/\EV v e :=
 zuZ e w _ ⟨fun h w0 h0=>⟨h0,by rw[h];exact ev0⟩,fun h w0 h0=>zwX ⟨Ext.refl _,_,rfl,fun w3 h3=>⟨h0.trans h3,zIJ h⟩⟩⟩
theorem neE{v:Value}{c:Int}(h:EV v c){w:World}{K:Value->World->Prop}(hk:∀b:Bool,(b=false↔c=0)->K (.bool b) w):Run Tryz.prog (.eq .neq 175 false true v .nilIface) w K :=
 ziL (by kernel_rfl) h.isErr fun b hb=>hk b (hb.trans h.nil)
def WOk(F:Fm):Prop:=∀s∈F.jobs,1<=s.what/\s.what<=5
theorem WOk.st{F:Fm}(h:WOk F)(k m:Nat)(v:Int)(hv:m=11->1<=v/\v<=5):WOk (stF F k m v):=by
 intro s hs
 have hs:s∈F.jobs.set k (zkc m v (F.jobs.getD k default)):=hs
 by_cases hk:k<F.jobs.length
 ·rcases List.mem_or_eq_of_mem_set hs with hm|rfl
  ·exact h s hm
  ·have hm:=h _ (zat F.jobs default hk)
   unfold zkc
   split
   ·exact hv rfl
   ·exact hm
   ·exact hm
   ·exact hm
   ·exact hm
 ·rw[List.set_eq_of_length_le (by omega)] at hs
  exact h s hs
theorem WOk.lostTo{F:Fm}(h:WOk F):∀n,WOk (lostTo F n)
 |0 => h
 |n+1 => by
  rw[Go.Proofs.YtcceeahmcecbnaaGreatDoor.lostTo,zb9]
  split
  ·exact(WOk.lostTo h n).st _ _ _ fun _=>by omega
  ·exact WOk.lostTo h n
theorem WOk.lost{F:Fm}(h:WOk F):WOk (znW F):=h.lostTo _
theorem WOk.leave{F:Fm}(h:WOk F)(k:Nat):WOk (zdW F k):=by
 have hg:WOk (zlD F k):=h
 exact(hg.st _ _ _ fun h=>by cases h).st _ _ _ fun h=>by cases h
theorem WOk.rep{F:Fm}(h:WOk F)(k:Nat)(ok:Bool):WOk (zh2 F k ok):=by
 unfold zh2 zdd
 split
 ·exact(h.leave k).st _ _ _ fun _=>by omega
 ·split
  ·exact((((h.leave k).st _ _ _ fun h=>by cases h).st _ _ _ fun _=>by omega).st _ _ _ fun h=>by cases h)
  ·exact(((h.leave k).st _ _ _ fun h=>by cases h).st _ _ _ fun _=>by omega).lost
theorem WOk.can{F:Fm}(h:WOk F)(k:Nat):WOk (zCL F k):=by
 unfold zCL
 split
 ·exact((h.leave k).st _ _ _ fun _=>by omega).lost
 ·exact(h.st _ _ _ fun _=>by omega).lost
theorem WOk.sub{F:Fm}(h:WOk F)(j:Jb):WOk (zrC F j):=by
 intro s hs
 rcases List.mem_append.1 hs with hs|hs
 ·exact h s hs
 ·simp at hs;subst hs;exact⟨by show(1:Int)<=1;omega,by show(1:Int)<=5;omega⟩
theorem WOk.run{F:Fm}(h:WOk F)(k0:Nat)(k:Int):WOk (zgt F k0 k):=by
 have hg:WOk (zlX F k0 k):=h
 exact((hg.st _ _ _ fun _=>by omega).st _ _ _ fun h=>by cases h).st _ _ _ fun h=>by cases h
theorem WOk.plan{F G:Fm}{outs:List (Int×Int)}(h:WOk F)(p:zdy F G outs):WOk G :=
 zm5 (fun F id k _ _ _ h=>h.run _ k) p h
theorem WOk.tick{F:Fm}(h:WOk F)(n:Int):WOk { F with now:=n }:=h
structure Kt where
 hp:Option Addr
 hn:Nat
 hc:Nat
 L:List Ht
 farm:Option (Nat×Pl×Fm)
inductive DS
 |shut (L:List Ht)
 |opn (F:Fm)
def Kt.st(K:Kt):DS:=match K.farm with
 |none => .shut K.L
 |some (_,_,F) => .opn F
def Kt.fp(K:Kt):Option Addr:=match K.farm with
 |none => none
 |some (fb,_,_) => ptr fb
abbrev dcs(K:Kt):List Value:=[.slice K.hp K.hn K.hc,.pointer K.fp]
def KF(db:Nat)(K:Kt)(b:Nat):Prop:=b=db\/∃fb P F,K.farm=some (fb,P,F)/\ft fb P.jp b
def dO(O:Nat->Prop)(db:Nat)(b:Nat):Prop:=O b\/b=db
theorem hs_of{w:World}{p:Option Addr}{M:List Hm}(h:zhC 8 zky w p M)(hl:∀m∈M,Lbs w m.q m.h.labels):zkO w p (M.map (·.h)):=fun i x hx=>by
 rw[List.getElem?_map,Option.map_eq_some_iff] at hx
 obtain⟨m,hm,rfl⟩:=hx
 exact⟨m.q,m.d,fun j u hu=>h i m hm j u hu,hl m (List.mem_of_getElem? hm)⟩
structure KX(O:Nat->Prop)(B:Nat)(w:World)(db:Nat)(K:Kt):Prop where
 slot:Own B w zyK 2 (ptr db) 1 1 (dcs K)
 shut:K.farm=none->K.hn=K.L.length/\(∃M:List Hm,M.map (·.h)=K.L/\∀w'',Fr (dO O db) w w''->zhC 8 zky w'' K.hp M/\∀m∈M,Lbs w'' m.q m.h.labels)/\zlM K.L/\(∀h∈K.L,zyv h/\h.used=zbh)
 opn:∀fb P F,K.farm=some (fb,P,F)->FXO (dO O db) B w fb P F/\Inv F/\WOk F
 olt:∀b,O b->b<w.heap.size
 odis:∀b,O b->b≠db
section
variable {O:Nat->Prop} {B db:Nat} {w:World} {K:Kt}
theorem KX.foot(x:KX O B w db K){b:Nat}(h:KF db K b):B<=b/\b<w.heap.size:=by
 rcases h with rfl|⟨fb,P,F,e,h⟩
 ·exact x.slot.lt _ rfl
 ·exact(x.opn fb P F e).1.foot h
theorem KX.oft(x:KX O B w db K){b:Nat}(h:O b):¬KF db K b:=by
 rintro (rfl|⟨fb,P,F,e,hf⟩)
 ·exact x.odis _ h rfl
 ·exact(x.opn fb P F e).1.odis b (.inl h) hf
theorem KX.cell(x:KX O B w db K){i:Nat}{v:Value}(h:(dcs K)[i]?=some v):Go.Sx.cell w (pAdd (ptr db) i) 0=some v:=by rw[zaq];exact x.slot.cells i v h
theorem KX.fp(x:KX O B w db K):Go.Sx.cell w (pAdd (ptr db) 1) 0=some (.pointer K.fp):=x.cell (i:=1) rfl
theorem KX.keep(x:KX O B w db K){W:World}(e:Ext W w)(hB:W.heap.size<=B){w':World}(f:Fr (KF db K) w w'):Ext W w':=f.ext e fun b hb=>Nat.le_trans hB (x.foot hb).1
theorem KX.go{O' S:Nat->Prop}{w9:World}(x:KX O B w db K)(f:Fr S w w9)(hS:∀b,S b->O b)(h:∀b,O' b->O b\/(w.heap.size<=b/\b<w9.heap.size)):KX O' B w9 db K:=by
 have hdb:=(x.slot.lt _ rfl).2
 have h':∀b,dO O' db b->dO O db b\/(w.heap.size<=b/\b<w9.heap.size):=fun b hb=>by
  rcases hb with hb|hb
  ·exact(h b hb).imp .inl id
  ·exact .inl (.inr hb)
 refine⟨x.slot.fr f fun a ha hs=>?_,fun e=>?_,fun fb P F e=>?_,fun b hb=>?_,fun b hb hd=>?_⟩
 ·cases ha;exact x.odis _ (hS _ hs) rfl
 ·obtain⟨a1,⟨M,m1,a2⟩,a3⟩:=x.shut e
  exact⟨a1,⟨M,m1,fun w'' k=>a2 w'' ((f.mono fun b hb=>.inl (hS b hb)).trans k fun b hb=>(h' b hb).imp id (·.1))⟩,a3⟩
 ·obtain⟨a1,a2⟩:=x.opn fb P F e
  exact⟨a1.go f (fun b hb=>.inl (hS b hb)) h',a2⟩
 ·rcases h b hb with g|g
  ·have:=x.olt b g;have:=f.size;omega
  ·exact g.2
 ·subst hd
  rcases h b hb with g|g
  ·exact x.odis b g rfl
  ·have hd:b<w.heap.size:=hdb
   omega
theorem KX.fr{S:Nat->Prop}{w':World}(x:KX O B w db K)(f:Fr S w w')(hS:∀b,S b->O b):KX O B w' db K:=x.go f hS fun b hb=>.inl hb
theorem KX.ext{w':World}(x:KX O B w db K)(e:Ext w w'):KX O B w' db K:=x.fr (zac (S:=fun _=>False) e) fun _ h=>h.elim
theorem KX.hs(x:KX O B w db K)(e:K.farm=none){w':World}(h:Ext w w'):zkO w' K.hp K.L:=by
 obtain⟨_,⟨M,m1,a2⟩,_⟩:=x.shut e
 obtain⟨q1,q2⟩:=a2 w' (zac h)
 rw[<-m1]
 exact hs_of q1 q2
end
def zwK(w:World)(db:Nat)(K K':Kt):Prop:=∀b,KF db K' b->KF db K b\/w.heap.size<=b
theorem zEU(w:World):FnP Tryz.prog zkq #[] w fun v w'=>Ext w w'/\∃db,v=.pointer (ptr db)/\KX (fun b=>b<w.heap.size) w.heap.size w' db ⟨none,0,0,[],none⟩:=by
 refine zzG w _ fun w0 h0=>zbc (by intro v hv;simp at hv;rcases hv with rfl|rfl<;>rfl) fun w1 o1 e1 w2 h2=>⟨(h0.trans e1).trans h2,_,rfl,(o1 _ h0.size).ext h2,fun _=>⟨rfl,⟨[],rfl,fun w'' _=>⟨fun i h hi=>by simp at hi,by simp⟩⟩,⟨by simp,by simp,by simp⟩,by simp⟩,fun fb P F e=>(by cases e),fun b hb=>?_,fun b hb hd=>?_⟩
 ·have hb:b<w.heap.size:=hb
  have:=((h0.trans e1).trans h2).size
  omega
 ·have hb:b<w.heap.size:=hb
  have hd:b=w0.heap.size:=hd
  have:=h0.size;omega
def CR(O:Nat->Prop)(B db:Nat)(w:World)(K:Kt)(R:ByteArray->Int->DS->Prop)(v:Value)(w':World):Prop :=
 ∃(s:ByteArray) (ev:Value) (c:Int) (K':Kt),v=.tuple #[.string s,ev]/\EV ev c/\KX O B w' db K'/\Fr (KF db K) w w'/\zwK w db K K'/\R s c K'.st
theorem zcW{O:Nat->Prop}{B db:Nat}{w w':World}{K:Kt}{R:ByteArray->Int->DS->Prop}(x:KX O B w db K)(e:Ext w w'){s:ByteArray}{ev:Value}{c:Int}(he:EV ev c)(hR:R s c K.st):CR O B db w K R (.tuple #[.string s,ev]) w' :=
 ⟨s,ev,c,K,rfl,he,x.ext e,zac e,fun b hb=>.inl hb,hR⟩
theorem zyX{O:Nat->Prop}{B db:Nat}{w0 w w':World}{K:Kt}{R:ByteArray->Int->DS->Prop}{v:Value}(e:Ext w0 w)(h:CR O B db w K R v w'):CR O B db w0 K R v w':=by
 obtain⟨s,ev,c,K',h1,h2,h3,h4,h5,h6⟩:=h
 exact⟨s,ev,c,K',h1,h2,h3,(zac e).tr h4,fun b hb=>(h5 b hb).imp id fun h=>Nat.le_trans e.size h,h6⟩
theorem CR.mono{O:Nat->Prop}{B db:Nat}{w w':World}{K:Kt}{R R':ByteArray->Int->DS->Prop}{v:Value}(h:CR O B db w K R v w')(k:∀s c σ,R s c σ->R' s c σ):CR O B db w K R' v w':=by
 obtain⟨s,ev,c,K',h1,h2,h3,h4,h5,h6⟩:=h
 exact⟨s,ev,c,K',h1,h2,h3,h4,h5,k _ _ _ h6⟩
theorem zDh:∀(u:Nat),u<=9223372036854775807->Lib.parseUintM 18446744073709551615 0 (Lib.decDigits u)=.ok u:=by
 intro u
 induction u using Nat.strongRecOn with
 |_ u ih =>
  intro hu
  rw[Lib.decDigits]
  split
  ·rename_i h
   simp only[Lib.parseUintM]
   rw[zt3 (by omega),if_pos (by omega),if_neg (by omega),if_neg (by omega)]
   congr 1;omega
  ·rename_i h
   rw[zoj _ (ih (u/10) (by omega) (by omega))]
   simp only[Lib.parseUintM]
   rw[zt3 (by omega),if_pos (by omega),if_neg (by omega),if_neg (by omega)]
   congr 1;omega
theorem zgj{n:Int}(h0:0<=n)(h1:n<=9223372036854775807):Lib.parseIntB 64 (Lib.itoa n)=.ok n:=by
 rw[zdH h0]
 have hd:=zcP n.toNat
 cases hl:Lib.decDigits n.toNat with
 |nil => exact absurd hl (zqs _)
 |cons c r =>
  have hc:=hd c (by rw[hl];exact List.mem_cons_self ..)
  rw[Lib.parseIntB_plain 64 c r (by omega) (by omega),<-hl]
  unfold Lib.parseUintB
  rw[if_neg (zqs _),show(2:Nat)^64-1=18446744073709551615 by decide,zDh _ (by omega)]
  show(if (2:Nat)^(64-1)<=n.toNat then _ else _)=_
  rw[if_neg (by
   have:(2:Nat)^(64-1)=9223372036854775808:=by decide
   omega)]
  congr 1;omega
theorem zFu{m n:Int}(hm:0<=m/\m<=9223372036854775807)(hn:0<=n/\n<=9223372036854775807)(h:Lib.itoa m=Lib.itoa n):m=n:=by
 have:=zgj hm.1 hm.2
 rw[h,zgj hn.1 hn.2] at this
 injection this with e
 exact e.symm
def zJq(s:ByteArray)(n c:Int):Prop:=(c=0/\0<=n/\n<=9223372036854775807/\s=ofL (Lib.itoa n)/\s.size<=18)\/(c=3/\n=0/\∀m:Int,0<=m->m<=9223372036854775807->s=ofL (Lib.itoa m)->¬s.size<=18)
theorem zq2(wp:Option Addr)(wc:Nat)(ws:List ByteArray)(h1:1<ws.length)(hs:(ws.getD 1 ⟨#[]⟩).size<=281474976710656)(w:World)(hw:zaw w wp (ws.map Value.string))(g:GB w) :
  FnP Tryz.prog zeY #[.slice wp ws.length wc,.int .i64 1] w fun v w'=>Ext w w'/\∃(n:Int) (ev:Value) (c:Int),v=.tuple #[.int .i64 n,ev]/\EV ev c/\zJq (ws.getD 1 ⟨#[]⟩) n c:=by
 have hc:∀{w':World},Ext w w'->Go.Sx.cell w' (pIdx wp 1 1) 0=some (.string (ws.getD 1 ⟨#[]⟩)):=fun e=>by
  rw[zae]
  refine(hw.ext e) 1 _ ?_
  rw[List.getElem?_map,getElem?_getD ws ⟨#[]⟩ h1];rfl
 have np:wp≠none:=fun h=>zal (hc (Ext.refl w)) (zah.2 h)
 generalize ws.getD 1 ⟨#[]⟩=s at hs hc ⊢
 have bad:∀{w1 w8:World},Ext w w1->Ext w1 w8->(∀m:Int,0<=m->m<=9223372036854775807->s=ofL (Lib.itoa m)->¬s.size<=18) ->
   Run Tryz.prog (.makeInterface 24 (.int .i64 3)) w8 fun v9 w9=>Ext w8 w9/\∃t10:Value,v9=t10/\Value.oneCell' t10=true/\∀w11,Ext w9 w11 ->
    Run Tryz.prog (.makeInterface 257 (.agg #[.int .i64 1,t10])) w11 fun v12 w12=>Ext w11 w12/\∃t13:Value,v12=t13/\∀w14,Ext w12 w14 ->
     Ext w w14/\∃(n:Int) (ev:Value) (c:Int),Value.tuple #[.int .i64 0,t13]=.tuple #[.int .i64 n,ev]/\EV ev c/\zJq s n c:=fun x1 x8 hno =>
  zwX ⟨Ext.refl _,_,rfl,rfl,fun w11 h11=>zDc ⟨Ext.refl _,_,rfl,fun w14 h14=>⟨((x1.trans x8).trans h11).trans h14,0,_,3,rfl,zCW (by decide),.inr ⟨rfl,rfl,hno⟩⟩⟩⟩
 refine zq8 wp ws.length wc 1 w _ ⟨np,by omega,by omega,_,hc (Ext.refl w),fun w1 x1=>(zku s hs w1 (g.ext x1)).mono fun v w2 ⟨e2,n,ev,hv,hcase⟩=>⟨e2,n,ev,hv,fun w5 h5=>?_⟩⟩
 have x2:=x1.trans e2
 refine ziL (by kernel_rfl) (hcase.elim (fun h=>.inl h.1) fun h=>.inr h.1) fun t ht=>⟨Ext.refl _,t,rfl,fun _=>np,fun _=>by omega,fun _=>by omega,fun htt w8 h8=>bad x2 h8 fun m h0 h63 hm=>?_,fun htf=>⟨_,hc x2,fun _=>np,fun _=>by omega,fun _=>by omega,fun hgt w9 h9=>bad x2 h9 fun m _ _ _=>by omega,fun hle=>⟨_,hc x2,fun w10 h10=>?_⟩⟩⟩
 ·exfalso
  have hp:=zgj (n:=m) h0 h63
  have hsd:s.data.toList=Lib.itoa m:=by rw[hm];rfl
  rw[hsd] at hcase
  rcases hcase with⟨q1,q2⟩|⟨_,q2⟩
  ·rw[ht.2 q1] at htt;cases htt
  ·exact q2 _ hp
 ·obtain⟨hev,hpar⟩:ev=.nilIface/\Lib.parseIntB 64 s.data.toList=.ok n:=by
   rcases hcase with h|⟨⟨a,b,h⟩,_⟩
   ·exact h
   ·have:=ht.1 htf
    rw[h] at this;cases this
  have hb:=ziF (zhY hpar)
  refine(zqc n hb w10 ((g.ext x2).ext h10)).mono fun v w11 ⟨e11,hv⟩=>⟨e11,_,hv,fun hor w13 h13=>bad x2 h13 fun m h0 h63 hm=>?_,fun hand w13 h13=>⟨x2.trans h13,n,_,0,rfl,ev0,.inl ⟨rfl,hand.2,hb.2,hand.1.symm,by omega⟩⟩⟩
  exfalso
  have hp:=zgj (n:=m) h0 h63
  have hsd:s.data.toList=Lib.itoa m:=by rw[hm];rfl
  rw[hsd] at hpar
  have:n=m:=by rw[hp] at hpar;injection hpar with hpar;exact hpar.symm
  subst this
  rcases hor with h|h
  ·exact h hm.symm
  ·omega
section
variable {O:Nat->Prop} {B db:Nat} {w:World} {K:Kt}
theorem KX.turn(x:KX O B w db K){fb:Nat}{P P':Pl}{F G:Fm}(hK:K.farm=some (fb,P,F)){w':World}(y:FXO (dO O db) B w' fb P' G)(f:Fr (ft fb P.jp) w w')(hg:∀b,ft fb P'.jp b->ft fb P.jp b\/w.heap.size<=b)(I:Inv G)(W:WOk G) :
  KX O B w' db { K with farm:=some (fb,P',G) }/\Fr (KF db K) w w'/\zwK w db K { K with farm:=some (fb,P',G) }:=by
 have hx:=(x.opn fb P F hK).1
 refine⟨⟨?_,fun e=>(by cases e),fun fb' P1 F1 e=>?_,fun b hb=>Nat.lt_of_lt_of_le (x.olt b hb) f.size,x.odis⟩,f.mono fun b hb=>.inr ⟨fb,P,F,hK,hb⟩,fun b hb=>?_⟩
 ·have:dcs { K with farm:=some (fb,P',G) }=dcs K:=by simp[dcs,Kt.fp,hK]
  rw[this]
  exact x.slot.fr f fun a ha hs=>(by cases ha;exact hx.odis _ (.inr rfl) hs)
 ·injection e with e
  obtain⟨rfl,rfl,rfl⟩:fb=fb'/\P'=P1/\G=F1:=by simpa using e
  exact⟨y,I,W⟩
 ·rcases hb with rfl|⟨fb',P1,F1,e,h⟩
  ·exact .inl (.inl rfl)
  ·injection e with e
   obtain⟨rfl,rfl,rfl⟩:fb=fb'/\P'=P1/\G=F1:=by simpa using e
   exact(hg b h).imp (fun h=>.inr ⟨fb,P,F,hK,h⟩) id
theorem KX.fbp(x:KX O B w db K){fb:Nat}{P:Pl}{F:Fm}(hK:K.farm=some (fb,P,F)):Go.Sx.cell w (pAdd (ptr db) 1) 0=some (.pointer (ptr fb)):=by
 have:=x.fp
 unfold Kt.fp at this
 rw[hK] at this
 exact this
theorem KX.nofp(x:KX O B w db K)(hK:K.farm=none):Go.Sx.cell w (pAdd (ptr db) 1) 0=some (.pointer none):=by
 have:=x.fp
 unfold Kt.fp at this
 rw[hK] at this
 exact this
theorem Kt.st_opn{K:Kt}{fb:Nat}{P:Pl}{F:Fm}(hK:K.farm=some (fb,P,F)):K.st=.opn F:=by unfold Kt.st;rw[hK]
theorem Kt.st_shut{K:Kt}(hK:K.farm=none):K.st=.shut K.L:=by unfold Kt.st;rw[hK]
theorem Kt.cases(K:Kt):K.farm=none\/∃fb P F,K.farm=some (fb,P,F):=by
 cases h:K.farm with
 |none => exact .inl rfl
 |some y => exact .inr ⟨y.1,y.2.1,y.2.2,rfl⟩
end
def NR(O:Nat->Prop)(B db:Nat)(w:World)(K:Kt)(R:Int->DS->Prop)(v:Value)(w':World):Prop :=
 ∃(e:Int) (K':Kt),v=.int .i64 e/\KX O B w' db K'/\Fr (KF db K) w w'/\zwK w db K K'/\R e K'.st
theorem zNk{O:Nat->Prop}{B db:Nat}{w w' w'':World}{K:Kt}{R:Int->DS->Prop}{v:Value}(h:NR O B db w K R v w')(e:Ext w' w''):NR O B db w K R v w'':=by
 obtain⟨c,K',h1,h3,h4,h5,h6⟩:=h
 exact⟨c,K',h1,h3.ext e,h4.tr (zac e),h5,h6⟩
theorem zuR{O:Nat->Prop}{B db:Nat}{w0 w w':World}{K:Kt}{R:Int->DS->Prop}{v:Value}(e:Ext w0 w)(h:NR O B db w K R v w'):NR O B db w0 K R v w':=by
 obtain⟨c,K',h1,h3,h4,h5,h6⟩:=h
 exact⟨c,K',h1,h3,(zac e).tr h4,fun b hb=>(h5 b hb).imp id fun h=>Nat.le_trans e.size h,h6⟩
theorem zuS{O:Nat->Prop}{B db:Nat}{w w':World}{K:Kt}{R:Int->DS->Prop}(x:KX O B w db K)(e:Ext w w'){c:Int}(hR:R c K.st):NR O B db w K R (.int .i64 c) w' :=
 ⟨c,K,rfl,x.ext e,zac e,fun b hb=>.inl hb,hR⟩
theorem zKb{F:Fm}(I:Inv F){n:Int}(h:0<=n/\n<=1000000000/\F.now+n<=1099511627776):Inv { F with now:=F.now+n }:=by
 have hn:=I.i0.now
 exact⟨⟨I.i0.aft,I.i0.pol,by show 0<=F.now+n/\F.now+n<=1099511627776;omega,I.i0.hs,I.i0.nd,I.i0.hrun,by
  intro i hi p hp
  have:=I.i0.use i hi p hp
  have e:∀m,use { F with now:=F.now+n } i p m=use F i p m:=fun m=>by
   induction m with
   |zero => rfl
   |succ n ih => unfold use;rw[ih];rfl
  rw[e];exact this,I.i0.ahead,I.i0.tries⟩,I.wt⟩
def zEF(F:Fm)(n:Int):Prop:=0<=n/\n<=1000000000/\F.now+n<=1099511627776
def zvq(F:Fm)(n e:Int)(σ:DS):Prop:=(e=4/\¬zEF F n/\σ=.opn F)\/(e=0/\zEF F n/\σ=.opn { F with now:=F.now+n })
def zEE(F:Fm)(id:Int):Prop:=inJ F id/\(zad F (id-1).toNat).what=2
def zKA(F:Fm)(id:Int):Prop:=inJ F id/\((zad F (id-1).toNat).what=1\/(zad F (id-1).toNat).what=2)
def zyC(ok:Bool)(F:Fm)(id e:Int)(σ:DS):Prop:=(e≠0/\zvQ F id e/\¬zEE F id/\σ=.opn F)\/(e=0/\zEE F id/\σ=.opn (zh2 F (id-1).toNat ok))
def zIi(F:Fm)(id e:Int)(σ:DS):Prop:=(e≠0/\zvQ F id e/\¬zKA F id/\σ=.opn F)\/(e=0/\zKA F id/\σ=.opn (zCL F (id-1).toNat))
section
variable {O:Nat->Prop} {B db:Nat} {w:World} {K:Kt} {fb:Nat} {P:Pl} {F:Fm} {pb:Option Addr}
theorem tick_c(x:KX O B w db K)(hK:K.farm=some (fb,P,F))(hpb:Go.Sx.cell w pb 0=some (.pointer (ptr db)))(n:Int) :
  FnP Tryz.prog zey #[.int .i64 n,.pointer pb] w (NR O B db w K (zvq F n)):=by
 have ne:=zaO db
 refine ziO n pb w _ ⟨_,hpb,ne,ne,_,x.fbp hK,fun w2 x2=>?_⟩
 have y:=x.ext x2
 obtain⟨fx,I,W⟩:=y.opn fb P F hK
 refine(zLj fx I.i0.now n).mono fun v w3 ⟨e,hv,hor,hiff⟩=>⟨e,hv,fun w5 h5=>zuR x2 (zNk ?_ h5)⟩
 rcases hor with⟨hne,he,h3⟩|⟨he,hc,fx',f⟩
 ·exact zuS y h3 (.inl ⟨he,fun h=>hne (hiff.2 h),by rw[Kt.st_opn hK]⟩)
 ·obtain⟨a1,a2,a3⟩:=y.turn (P':=P) hK fx' f (fun b hb=>.inl hb) (zKb I hc) (W.tick _)
  exact⟨e,_,rfl,a1,a2,a3,.inr ⟨he,hc,rfl⟩⟩
theorem zKN(x:KX O B w db K)(hK:K.farm=some (fb,P,F))(hpb:Go.Sx.cell w pb 0=some (.pointer (ptr db)))(n:Int)(hn:InR .i64 n)(ok:Bool){f:FuncId}(hf:(ok=true/\f=zez)\/(ok=false/\f=zeA)) :
  FnP Tryz.prog f #[.int .i64 n,.pointer pb] w (NR O B db w K (zyC ok F n)):=by
 have ne:=zaO db
 have fin:∀{w5:World},Ext w w5->FnP Tryz.prog zaV #[.pointer (ptr fb),.int .i64 n,.bool ok] w5 fun v6 w6=>∃t7:Int,v6=.int .i64 t7/\∀w8,Ext w6 w8->NR O B db w K (zyC ok F n) (.int .i64 t7) w8:=fun {w5} x5=>by
  have y:=x.ext x5
  obtain⟨fx,I,W⟩:=y.opn fb P F hK
  refine(zvh fx I.i0.pre n hn ok).mono fun v w3 ⟨e,hv,hiff,hor⟩=>⟨e,hv,fun w8 h8=>zuR x5 (zNk ?_ h8)⟩
  rcases hor with⟨hne,hE,h3⟩|⟨he,P',hjp,fx',f⟩
  ·exact zuS y h3 (.inl ⟨hne,hE,fun h=>hne (hiff.2 h),by rw[Kt.st_opn hK]⟩)
  ·have hc:=hiff.1 he
   obtain⟨a1,a2,a3⟩:=y.turn hK fx' f (fun b hb=>.inl (by rw[hjp] at hb;exact hb)) (zvg I (zjX hc.1) hc.2 ok) (W.rep _ ok)
   exact⟨e,_,rfl,a1,a2,a3,.inr ⟨he,hc,rfl⟩⟩
 have sm:∀(w2:World)(R:Value->World->Prop),(∀w3,Ext w2 w3->R (.int .i64 n) w3)->FnP Tryz.prog ze3 #[.int .i64 n] w2 R:=fun w2 R h=>zmW n w2 R h
 rcases hf with⟨rfl,rfl⟩|⟨rfl,rfl⟩
 ·exact ziP n pb w _ ⟨_,hpb,ne,ne,_,x.fbp hK,fun w2 x2=>sm w2 _ fun w3 h3=>⟨h3,n,rfl,fun w5 x5=>fin x5⟩⟩
 ·exact ziQ n pb w _ ⟨_,hpb,ne,ne,_,x.fbp hK,fun w2 x2=>sm w2 _ fun w3 h3=>⟨h3,n,rfl,fun w5 x5=>fin x5⟩⟩
theorem zIm(x:KX O B w db K)(hK:K.farm=some (fb,P,F))(hpb:Go.Sx.cell w pb 0=some (.pointer (ptr db)))(n:Int)(hn:InR .i64 n) :
  FnP Tryz.prog zeB #[.int .i64 n,.pointer pb] w (NR O B db w K (zIi F n)):=by
 have ne:=zaO db
 refine ziR n pb w _ ⟨_,hpb,ne,ne,_,x.fbp hK,fun w2 x2=>zmW n _ _ fun w3 h3=>⟨h3,n,rfl,fun w5 x5=>?_⟩⟩
 have y:=x.ext x5
 obtain⟨fx,I,W⟩:=y.opn fb P F hK
 refine(zAY fx I.i0.pre n hn).mono fun v w3 ⟨e,hv,hiff,hor⟩=>⟨e,hv,fun w8 h8=>zuR x5 (zNk ?_ h8)⟩
 rcases hor with⟨hne,hE,h3⟩|⟨he,P',hjp,fx',f⟩
 ·exact zuS y h3 (.inl ⟨hne,hE,fun h=>hne (hiff.2 h),by rw[Kt.st_opn hK]⟩)
 ·have hc:=hiff.1 he
  obtain⟨a1,a2,a3⟩:=y.turn hK fx' f (fun b hb=>.inl (by rw[hjp] at hb;exact hb)) (zEG I (zjX hc.1) hc.2) (W.can _)
  exact⟨e,_,rfl,a1,a2,a3,.inr ⟨he,hc,rfl⟩⟩
end
def zNh(R:Fm->Int->Int->DS->Prop)(σ:DS)(n e:Int)(σ':DS):Prop:=match σ with
 |.shut L => e=9/\σ'=.shut L
 |.opn F => R F n e σ'
def zsN(R:Fm->Int->Int->DS->Prop)(word:ByteArray)(σ:DS)(s:ByteArray)(c:Int)(σ':DS):Prop :=
 ∃n c1,zJq word n c1/\((c1≠0/\c=c1/\σ'=σ)\/(c1=0/\s=⟨#[111,107]⟩/\zNh R σ n c σ'))
section
variable {O:Nat->Prop} {B db:Nat} {w:World} {K:Kt}
theorem zhh{w:World}{p:Addr}{v:Value}(h:w.cell? p=some v):Go.Sx.cell w (some p) 0=some v:=by
 have:p.add 0=p:=add_zero p
 show w.cell? (p.add 0)=some v
 rw[this];exact h
theorem zB5(x:KX O B w db K){pb:Addr}{f:FuncId}{v:Value}(hv:zdC pb f v w)(hpb:w.cell? pb=some (.pointer (ptr db)))(g:GB w)
  (R:Fm->Int->Int->DS->Prop) (wp:Option Addr) (wc:Nat) (ws:List ByteArray) (h1:1<ws.length) (hs:(ws.getD 1 ⟨#[]⟩).size<=281474976710656) (hw:zaw w wp (ws.map Value.string))
  (hf:∀{w1:World}{fb:Nat}{P:Pl}{F:Fm}(n:Int),Ext w w1->InR .i64 n->K.farm=some (fb,P,F)->FnP Tryz.prog f #[.int .i64 n,.pointer (some pb)] w1 (NR O B db w1 K (R F n))) :
  ∃f' cap,v=.func (.func f') #[] cap/\FnP Tryz.prog f' (#[.slice wp ws.length wc]++cap) w (CR O B db w K (zsN R (ws.getD 1 ⟨#[]⟩) K.st)):=by
 obtain⟨p2,p1,rfl,c2,u,c1,p3,rfl,c3⟩:=hv
 refine⟨_,_,rfl,zg2 wp ws.length wc (some p2) w _ fun w0 x0=>(zq2 wp wc ws h1 hs w0 (hw.ext x0) (g.ext x0)).mono fun v w1 ⟨e1,n,ev,c,hv,he,hn⟩=>⟨e1,n,ev,hv,fun w4 h4=>neE he fun b hb=>⟨Ext.refl _,b,rfl,fun hbt w7 h7=>?_,fun hbf=>?_⟩⟩⟩
 ·have hc:c≠0:=fun h=>by rw[hb.2 h] at hbt;cases hbt
  exact zcW x ((x0.trans e1).trans h7) he ⟨n,c,hn,.inl ⟨hc,rfl,rfl⟩⟩
 ·have hc:c=0:=hb.1 hbf
  have x1:=x0.trans e1
  refine⟨_,zhh ((Cst.of_ext x1).cell c2),fun w8 h8=>⟨204,#[.pointer (some p1)],rfl,zhn n (some p1) w8 _ ?_⟩⟩
  have x8:=x1.trans h8
  refine⟨_,zhh ((Cst.of_ext x8).cell c1),fun w9 h9=>⟨207,#[.pointer (some pb),.pointer (some p3)],rfl,?_⟩⟩
  have x9:=x8.trans h9
  have hni:InR .i64 n:=by
   rcases hn with⟨_,a,b,_⟩|⟨h,_⟩
   ·exact i64 (by omega)
   ·omega
  have fin:∀{w2:World}{v2:Value},NR O B db w K (zNh R K.st n) v2 w2->∃t3:Int,v2=.int .i64 t3/\∀w4,Ext w2 w4->FnP Tryz.prog zct #[.int .i64 t3] w4 fun v5 w5=>Ext w4 w5/\∃t6:Value,v5=t6/\∀w7,Ext w5 w7 ->
    ∃t10:ByteArray,∃t11:Value,Value.tuple #[.string (⟨#[111,107]⟩:ByteArray),t6]=.tuple #[.string t10,t11]/\∀w12,Ext w7 w12->CR O B db w K (zsN R (ws.getD 1 ⟨#[]⟩) K.st) (.tuple #[.string t10,t11]) w12:=fun {w2 v2} hN=>by
   obtain⟨e,K',rfl,hX,hF,hG,hR⟩:=hN
   refine⟨e,rfl,fun w4 h4=>(zrZ e w4).mono fun v w5 ⟨e5,hE⟩=>⟨e5,v,rfl,fun w7 h7=>⟨_,v,rfl,fun w12 h12=>?_⟩⟩⟩
   have hx:=((h4.trans e5).trans h7).trans h12
   exact⟨_,v,e,K',rfl,hE,hX.ext hx,hF.tr (zac hx),hG,n,c,hn,.inr ⟨hc,rfl,hR⟩⟩
  have ne:=zaO db
  refine zho n (some pb) (some p3) w9 _ ⟨_,zhh ((Cst.of_ext x9).cell hpb),ne,ne,?_⟩
  rcases K.cases with hK|⟨fb,P,F,hK⟩
  ·refine⟨none,(x.ext x9).nofp hK,fun _ w2 h2=>fin (zuS x (x9.trans h2) ?_),fun h=>absurd rfl h⟩
   rw[Kt.st_shut hK]
   exact⟨rfl,rfl⟩
  ·refine⟨ptr fb,(x.ext x9).fbp hK,fun h=>absurd h (zaO fb),fun _=>⟨_,zhh ((Cst.of_ext x9).cell c3),fun w3 h3=>⟨f,#[.pointer (some pb)],rfl,(hf n (x9.trans h3) hni hK).mono fun v w4 hN=>?_⟩⟩⟩
   have hN':=zuR (x9.trans h3) hN
   obtain⟨e,K',rfl,hX,hF,hG,hR⟩:=hN'
   refine⟨e,rfl,fun w6 h6=>fin ⟨e,K',rfl,hX.ext h6,hF.tr (zac h6),hG,?_⟩⟩
   rw[Kt.st_opn hK];exact hR
end
theorem FXO.low'{O:Nat->Prop}{B B' fb:Nat}{w:World}{P:Pl}{F:Fm}(x:FXO O B w fb P F)(h:B'<=B):FXO O B' w fb P F:=⟨x.slot.weak h,x.arr.weak h,x.map,x.hs,x.js,x.ap,x.hO,x.jO,x.olt,x.odis⟩
def zDO:Pol:=⟨10,2,100,3⟩
theorem okdp:zn2 zDO:=by unfold zn2 okP zDO;decide
def zzR(σ:DS)(c:Int)(s:ByteArray)(σ':DS):Prop:=match σ with
 |.shut L => c=0/\s=⟨#[111,107]⟩/\σ'=.opn (zmb L zDO)
 |.opn F => c=9/\σ'=.opn F
section
variable {O:Nat->Prop} {B db:Nat} {w:World} {K:Kt}
theorem open_c(x:KX O B w db K)(hB:B<=w.heap.size)(a1:Option Addr)(n1 c1:Nat):FnP Tryz.prog zji #[.pointer (ptr db),.slice a1 n1 c1] w (CR O B db w K fun s c σ'=>zzR K.st c s σ'):=by
 have ne:=zaO db
 refine zn8 (ptr db) a1 n1 c1 w _ ⟨ne,ne,?_⟩
 rcases K.cases with hK|⟨fb,P,F,hK⟩
 ·refine⟨none,x.nofp hK,fun h=>absurd rfl h,fun _=>⟨ne,ne,_,_,_,x.cell (i:=0) rfl,fun w4 x4=>?_⟩⟩
  obtain⟨hn,_,hok,hO⟩:=x.shut hK
  rw[hn]
  have h30:=hok.1
  refine(zKJ K.hp K.hc K.L (by omega) (fun h hh=>(hO h hh).1) zDO w4 (x.hs hK x4)).mono fun v w5 ⟨e5,q,e,hv,hiff,hno,hyes⟩=>⟨e5,q,e,hv,fun hne=>?_,fun hz=>⟨ne,ne,?_⟩⟩
  ·have:zw9 K.L zDO:=⟨hok,fun h hh=>(hO h hh).2,okdp⟩
   exact absurd (hiff.2 this) hne
  obtain⟨fb,P,rfl,fx⟩:=hyes hz
  have x5:=x4.trans e5
  have y5:=x.ext x5
  have hdb4:db<w4.heap.size:=by have:=(x.slot.lt _ rfl).2;have:=x4.size;exact Nat.lt_of_lt_of_le (x.slot.lt _ rfl).2 x4.size
  refine zbF (off:=1) y5.slot (by simp) rfl (by simp) fun w8 o8 g8 w9 h9=>?_
  have f8:Fr (fun b=>b=db) w5 w8:=zaT g8 fun a ha=>by cases ha;rfl
  have fx9:FXO (dO O db) B w9 fb P (zmb K.L zDO):=by
   refine FXO.low' (((fx.fr f8 fun b hb=>?_).ext h9).less fun b hb=>?_) (Nat.le_trans hB x4.size)
   ·show b<w4.heap.size
    have hb:b=db:=hb
    omega
   ·show b<w4.heap.size
    rcases hb with hb|hb
    ·have:=x.olt b hb;have:=x4.size;omega
    ·omega
  have hft:∀b,ft fb P.jp b->w4.heap.size<=b:=fun b hb=>(fx.foot hb).1
  refine⟨_,_,0,{ K with farm:=some (fb,P,zmb K.L zDO) },rfl,ev0,⟨?_,fun e=>(by cases e),fun fb' P1 F1 e=>?_,fun b hb=>Nat.lt_of_lt_of_le (x.olt b hb) ?_,x.odis⟩,?_,fun b hb=>?_,?_⟩
  ·have:dcs { K with farm:=some (fb,P,zmb K.L zDO) }=(dcs K).set 1 (.pointer (ptr fb)):=by simp[dcs,Kt.fp]
   rw[this];exact o8.ext h9
  ·injection e with e
   obtain⟨rfl,rfl,rfl⟩:fb=fb'/\P=P1/\zmb K.L zDO=F1:=by simpa using e
   exact⟨fx9,zFU ⟨hok,fun h hh=>(hO h hh).2,okdp⟩,fun s hs=>by cases hs⟩
  ·exact Nat.le_trans (Nat.le_trans x5.size f8.size) h9.size
  ·exact((zac x5).tr (f8.mono fun b hb=>.inl hb)).tr (zac h9)
  ·rcases hb with rfl|⟨fb',P1,F1,e,h⟩
   ·exact .inl (.inl rfl)
   ·injection e with e
    obtain⟨rfl,rfl,rfl⟩:fb=fb'/\P=P1/\zmb K.L zDO=F1:=by simpa using e
    have:=hft b h
    have:=x4.size
    exact .inr (by omega)
  ·rw[Kt.st_shut hK]
   exact⟨rfl,rfl,rfl⟩
 ·refine⟨_,x.fbp hK,fun _ w1 x1=>zwX ⟨Ext.refl _,_,rfl,fun w4 h4=>zcW x (x1.trans h4) (zIJ (by decide)) ?_⟩,fun h=>absurd h (zaO fb)⟩
  rw[Kt.st_opn hK]
  exact⟨rfl,rfl⟩
def zGL(word:ByteArray)(σ:DS)(c:Int)(s:ByteArray)(σ':DS):Prop:=σ'=σ/\∃n c1,zJq word n c1/\((c1≠0/\c=c1)\/(c1=0/\match σ with
 |.shut _ => c=9
 |.opn F => (inJ F n/\c=0/\s=zx6.getD (zad F (n-1).toNat).what.toNat ⟨#[]⟩)\/(¬inJ F n/\c=5)))
theorem zNF(x:KX O B w db K){fb:Nat}{P:Pl}{F:Fm}(hK:K.farm=some (fb,P,F))(g:GD w)(n:Int)(hn:InR .i64 n):FnP Tryz.prog zfo #[.pointer (ptr db),.int .i64 n] w fun v w'=>Ext w w'/\∃s ev c,v=.tuple #[.string s,ev]/\EV ev c /\
  ((inJ F n/\c=0/\s=zx6.getD (zad F (n-1).toNat).what.toNat ⟨#[]⟩)\/(¬inJ F n/\c=5)):=by
 have ne:=zaO db
 refine zoa (ptr db) n w _ ⟨ne,ne,_,x.fbp hK,fun w1 x1=>?_⟩
 obtain⟨fx,I,W⟩:=(x.ext x1).opn fb P F hK
 refine(zDZ fx).mono fun v w2 ⟨e2,p,c,R,hv,hR,hJ⟩=>⟨e2,p,_,c,hv,?_⟩
 have hl:R.length=F.jobs.length:=by have:=congrArg List.length hR;simpa using this
 rw[hl]
 have x2:=x1.trans e2
 refine⟨fun hor w6 h6=>zwX ⟨Ext.refl _,_,rfl,fun w9 h9=>⟨(x2.trans h6).trans h9,_,_,5,rfl,zIJ (by decide),.inr ⟨fun h=>by have:=h.1;have:=h.2;omega,rfl⟩⟩⟩,fun⟨h1,h2⟩=>⟨i64 (by have:=ziF hn;omega),?_⟩⟩
 obtain⟨r,hr,hp,hp16,hcs,_⟩:=hJ.st (k:=n-1) (by omega) (by omega)
 have hj:zad F (n-1).toNat=r.s:=by
  unfold zad
  rw[List.getD_eq_getElem?_getD,<-hR,List.getElem?_map,hr];rfl
 have hm:r.s∈F.jobs:=by rw[<-hR];exact List.mem_map_of_mem (List.mem_of_getElem? hr)
 obtain⟨w1',w5'⟩:=W r.s hm
 have g2:=g.ext x2
 have hwh:Go.Sx.cell w2 (pIdx (some (⟨4,0,none⟩:Addr)) r.s.what 1) 0=some (.string (zx6.getD r.s.what.toNat ⟨#[]⟩)):=by
  rw[zae]
  refine g2.whats _ _ ?_
  have hlt:r.s.what.toNat<zx6.length:=by show r.s.what.toNat<6;omega
  simp only[List.getElem?_map,Nat.mul_one,Nat.add_zero]
  rw[getElem?_getD zx6 ⟨#[]⟩ hlt];rfl
 refine⟨hp,by omega,by omega,hp16,r.s.what,by rw[zaq];exact hcs 11 _ rfl,by simp,by omega,by omega,_,hwh,fun w8 h8=>⟨x2.trans h8,_,_,0,rfl,ev0,.inl ⟨⟨h1,h2⟩,rfl,by rw[hj]⟩⟩⟩
theorem show_c(x:KX O B w db K){pb:Addr}{v:Value}(hv:zoP pb v w)(hpb:w.cell? pb=some (.pointer (ptr db)))(g:GD w)
  (wp:Option Addr) (wc:Nat) (ws:List ByteArray) (h1:1<ws.length) (hs:(ws.getD 1 ⟨#[]⟩).size<=281474976710656) (hw:zaw w wp (ws.map Value.string)) :
  ∃f' cap,v=.func (.func f') #[] cap/\FnP Tryz.prog f' (#[.slice wp ws.length wc]++cap) w (CR O B db w K fun s c σ'=>zGL (ws.getD 1 ⟨#[]⟩) K.st c s σ'):=by
 obtain⟨p2,rfl,c2⟩:=hv
 refine⟨_,_,rfl,zg2 wp ws.length wc (some p2) w _ fun w0 x0=>(zq2 wp wc ws h1 hs w0 (hw.ext x0) (g.gb.ext x0)).mono fun v w1 ⟨e1,n,ev,c,hv,he,hn⟩=>⟨e1,n,ev,hv,fun w4 h4=>neE he fun b hb=>⟨Ext.refl _,b,rfl,fun hbt w7 h7=>?_,fun hbf=>?_⟩⟩⟩
 ·have hc:c≠0:=fun h=>by rw[hb.2 h] at hbt;cases hbt
  exact zcW x ((x0.trans e1).trans h7) he ⟨rfl,n,c,hn,.inl ⟨hc,rfl⟩⟩
 have hc:c=0:=hb.1 hbf
 have x1:=x0.trans e1
 have hni:InR .i64 n:=by
  rcases hn with⟨_,a,b,_⟩|⟨h,_⟩
  ·exact i64 (by omega)
  ·omega
 refine⟨_,zhh ((Cst.of_ext x1).cell c2),fun w8 h8=>⟨218,#[.pointer (some pb)],rfl,ziS n (some pb) w8 _ fun w9 h9=>zbc (by simp[Value.oneCell']) fun w10 o10 e10=>?_⟩⟩
 have x10:=((x1.trans h8).trans h9).trans e10
 have cn:∀{w':World},Ext w10 w'->Go.Sx.cell w' (some ⟨w9.heap.size,0,none⟩) 0=some (.int .i64 n):=fun e=>(((o10 _ (Nat.le_refl _)).cells).ext e) 0 _ rfl
 have cpb:∀{w':World},Ext w w'->Go.Sx.cell w' (some pb) 0=some (.pointer (ptr db)):=fun e=>zhh ((Cst.of_ext e).cell hpb)
 have ne:=zaO db
 refine⟨_,cpb x10,ne,ne,?_⟩
 rcases K.cases with hK|⟨fb,P,F,hK⟩
 ·refine⟨none,(x.ext x10).nofp hK,fun w11 h11=>zle true _ w11 _ ⟨fun _ w12 h12=>zwX ⟨Ext.refl _,_,rfl,fun w13 h13=>⟨h12.trans h13,_,_,rfl,fun w14 h14=>⟨_,_,rfl,fun w15 h15=>?_⟩⟩⟩,fun h=>(by cases h)⟩⟩
  refine zcW x ((((((x10.trans h11).trans h12).trans h13).trans h14)).trans h15) (zIJ (c:=9) (by decide)) ⟨rfl,n,c,hn,.inr ⟨hc,?_⟩⟩
  rw[Kt.st_shut hK]
 ·refine⟨ptr fb,(x.ext x10).fbp hK,fun w11 h11=>zle false _ w11 _ ⟨fun h=>(by cases h),fun _ w12 h12=>⟨220,_,rfl,?_⟩⟩⟩
  have x12:=(x10.trans h11).trans h12
  refine zhp (some pb) (some ⟨w9.heap.size,0,none⟩) w12 _ ⟨_,cpb x12,_,cn (h11.trans h12),fun w13 h13=>?_⟩
  refine(zNF (x.ext (x12.trans h13)) hK (g.ext (x12.trans h13)) n hni).mono fun v w14 ⟨e14,s,ev',c',hv,hE,hcs⟩=>⟨e14,s,ev',hv,fun w15 h15=>⟨(h13.trans e14).trans h15,s,ev',rfl,fun w16 h16=>⟨(h12.trans ((h13.trans e14).trans h15)).trans h16,s,ev',rfl,fun w17 h17=>⟨s,ev',rfl,fun w18 h18=>?_⟩⟩⟩⟩
  refine zcW x ((((((((x12.trans h13).trans e14).trans h15).trans h16).trans h17)).trans h18)) hE ⟨rfl,n,c,hn,.inr ⟨hc,?_⟩⟩
  rw[Kt.st_opn hK]
  exact hcs
end
theorem zD0(L:List ByteArray)(c:UInt8)(p:Option Addr)(d:Nat)(hd:L.length<=d)(w:World)(hw:zaw w p (L.map Value.string))(hlen:(Lib.join (L.map (·.data.toList)) [c]).length<=140737488355327)(hL:L.length<=140737488355328) :
  FnP Tryz.prog zbr #[.slice p L.length d,.string (one c)] w fun v w'=>Ext w w'/\v=.string (ofL (Lib.join (L.map (·.data.toList)) [c])):=by
 refine⟨fun args w=>Tryz.call173 args w,?_⟩
 cases L with
 |nil =>
  refine(Tryz.strings_Join_none p d (one c) w).mono fun e w' ⟨he,hw'⟩=>⟨_,he,by rw[hw'];exact Ext.refl w,rfl⟩
 |cons x r =>
  have h0:=hw 0 (.string x) rfl
  obtain⟨a,rfl,hb,hc⟩:=zc7 h0
  have hsp:a.spot=none:=by
   unfold World.cell? at hc
   cases hq:w.heap[(a.add 0).block]? with
   |none => simp[hq] at hc
   |some o =>
    cases o with
    |cells cs t f =>
     rw[hq] at hc
     simp only at hc
     by_cases hs:(a.add 0).spot.isSome=true
     ·rw[if_pos hs] at hc;cases hc
     ·have:(a.add 0).spot=a.spot:=rfl
      rw[this] at hs
      simpa using hs
    |_ => simp[hq] at hc
  obtain⟨bk,off,sp⟩:=a
  have hsp:sp=none:=hsp
  subst hsp
  have hbk:bk<w.heap.size:=hb
  refine(Tryz.strings_Join bk off d (x::r) (one c) w (fun j y hy=>?_) hbk hL hd (by show(Lib.join ((x::r).map (·.data.toList)) [c]).length<=_;omega)).mono fun e w' ⟨he,hw'⟩=>⟨_,he,hw',rfl⟩
  have hcell:=hw j (.string y) (by rw[List.getElem?_map,hy];rfl)
  simp only[cell,Option.bind_some] at hcell
  have ha:(Addr.add ⟨bk,off,none⟩ j)=⟨bk,off+j,none⟩:=by simp[Addr.add]
  rwa [ha] at hcell
def zjo(L:List Ht)(o:Int×Int):List UInt8:=Lib.itoa o.1++64::(L.getD o.2.toNat default).name.data.toList
def zGT(G:Fm)(outs:List (Int×Int)):List UInt8:=Lib.join (outs.map (zjo G.hosts)) [32]
theorem zGq{F G:Fm}{ids:List Int}{outs:List (Int×Int)}(h:zr2 F ids G outs):(∀o∈outs,o.1∈ids/\0<=o.2/\o.2<F.hosts.length)/\G.hosts.length=F.hosts.length:=by
 induction h with
 |nil F => exact⟨fun o ho => by simp at ho,rfl⟩
 |skip _ _ ih => exact⟨fun o ho => ⟨List.mem_cons_of_mem _ (ih.1 o ho).1,(ih.1 o ho).2⟩,ih.2⟩
 |@run F F' id k ids out hb _ ih =>
  have e:(zgt F (id-1).toNat k).hosts.length=F.hosts.length:=by rw[zm7];unfold zlX;simp
  obtain⟨b0,b1,_⟩:=zv6 hb
  refine⟨fun o ho=>?_,by rw[ih.2,e]⟩
  rcases List.mem_cons.1 ho with rfl|ho
  ·exact⟨List.mem_cons_self,b0,b1⟩
  ·have:=ih.1 o ho
   rw[e] at this
   exact⟨List.mem_cons_of_mem _ this.1,this.2⟩
theorem zxG{F G:Fm}{outs:List (Int×Int)}(h:zdy F G outs):(∀o∈outs,inJ F o.1/\0<=o.2/\o.2<F.hosts.length)/\G.hosts.length=F.hosts.length:=by
 obtain⟨T,h1,h2⟩:=h
 obtain⟨a,b⟩:=zGq h2
 exact⟨fun o ho=>⟨(zrm h1 _ (a o ho).1).1,(a o ho).2⟩,b⟩
def zzU(σ:DS)(c:Int)(s:ByteArray)(σ':DS):Prop:=match σ with
 |.shut _ => False
 |.opn F => c=0/\∃G outs,zdy F G outs/\s=ofL (zGT G outs)/\σ'=.opn G
section
variable {O:Nat->Prop} {B db:Nat} {w:World} {K:Kt}
theorem plan_c(x:KX O B w db K){fb:Nat}{P:Pl}{F:Fm}(hK:K.farm=some (fb,P,F))(g:GD w)(hB:11<=B)(a1:Option Addr)(n1 c1:Nat) :
  FnP Tryz.prog zjj #[.pointer (ptr db),.slice a1 n1 c1] w (CR O B db w K fun s c σ'=>zzU K.st c s σ'):=by
 have ne:=zaO db
 refine zn9 (ptr db) a1 n1 c1 w _ ⟨ne,ne,_,x.fbp hK,fun w1 x1=>?_⟩
 have y1:=x.ext x1
 obtain⟨fx,I,W⟩:=y1.opn fb P F hK
 refine(zGp fx I.i0.pre.aft I.i0.hs).mono fun v w2 ⟨G,outs,out,outc,P',hv,hpl,hGh,hjobs,hjp,fx',f2,oO,h60⟩=>⟨out,_,outc,0,hv,ne,ne,?_⟩
 obtain⟨po1,po2⟩:=zxG hpl
 obtain⟨y2,f2',g2'⟩:=y1.turn hK fx' f2 (fun b hb=>.inl (by rw[hjp] at hb;exact hb)) (zBS hpl I) (W.plan hpl)
 generalize hK':({ K with farm:=some (fb,P',G) }:Kt)=K' at y2 g2'
 have hK2:K'.farm=some (fb,P',G):=by rw[<-hK']
 have gd2:GD w2:=(g.ext x1).fr f2' fun b hb=>Nat.le_trans hB (y1.foot hb).1
 refine⟨_,y2.fbp hK2,fun w8 x8=>?_⟩
 have y8:=y2.ext x8
 obtain⟨fx8,I8,W8⟩:=y8.opn fb P' G hK2
 refine(zDX fx8 hGh).mono fun v w9 ⟨e9,hp,hc,hv,_,hS⟩=>⟨e9,hp,_,hc,hv,?_⟩
 have x9:=x8.trans e9
 have cO:zhC 2 encO w9 out outs:=(oO.ext x9).recs fun _ _=>rfl
 have hH:=hS.at
 refine⟨fun p n c k w'=>Ext w9 w'/\0<=k/\k<=outs.length/\n=k/\Own w9.heap.size w' zas 1 p n c ((outs.take k.toNat).map fun o=>Value.string (ofL (zjo G.hosts o))),fun _ _ _ k _=>(outs.length-k).toNat,⟨Ext.refl _,by omega,by omega,by simp,Own.nil⟩,?_⟩
 rintro p n c k w16 ⟨x16,hk0,hk1,hnk,o16⟩
 refine⟨fun hlt=>?_,fun hge w17 h17=>?_⟩
 ·obtain⟨o,ho⟩:∃o,outs[k.toNat]?=some o:=⟨_,List.getElem?_eq_getElem (by omega)⟩
  obtain⟨⟨i1,i2⟩,q1,q2⟩:=po1 o (List.mem_of_getElem? ho)
  rw[<-po2] at q2
  have hj60:=fx.jO.1
  have r0:Go.Sx.cell w16 (pIdx out k 2) 0=some (.int .i64 o.1):=by
   refine zar x16 ?_
   exact cO.at hk0 ho rfl
  have r1:Go.Sx.cell w16 (pIdx out k 2) 1=some (.int .i64 o.2):=by
   refine zar x16 ?_
   exact cO.at hk0 ho rfl
  obtain⟨hq,hd,np,np8,hcs,_⟩:=(hH.ext x16).at q1 q2
  have hname:Go.Sx.cell w16 (pAdd (pIdx hp o.2 8) 0) 0=some (.string (G.hosts.getD o.2.toNat default).name):=by
   rw[zaq];exact hcs 0 _ rfl
  have hmem:=zat G.hosts default (i:=o.2.toNat) (by omega)
  have hsz:=(zdm (hGh.2.1 _ hmem).1).2
  refine⟨fun hq=>zal r0 (zah.2 hq),hk0,hlt,zal r0,_,r0,_,r1,fun b19 hb19=>⟨np,q1,q2,np8,_,hname,fun w21 h21=>?_⟩⟩
  refine(zoQ o.1 (by omega) w21 (((gd2.ext x9).ext x16).ext h21).gb).mono fun v w22 ⟨e22,hv⟩=>⟨e22,_,hv,?_⟩
  have hil:=Lib.itoa_length_le o.1 (by omega) (by omega)
  have e1:(ofL (Lib.itoa o.1)++(⟨#[64]⟩:ByteArray))++(G.hosts.getD o.2.toNat default).name=ofL (zjo G.hosts o):=by
   unfold zjo
   have:(⟨#[64]⟩:ByteArray)=ofL [64]:=rfl
   rw[this,zhm]
   have e2:(G.hosts.getD o.2.toNat default).name=ofL (G.hosts.getD o.2.toNat default).name.data.toList:=(za4 _).symm
   rw[e2,zhm,za6]
   simp
  refine⟨?_,?_,?_⟩
  ·unfold zc2
   rw[zai]
   show _+1<=_
   omega
  ·unfold zc2
   rw[show(⟨#[64]⟩:ByteArray)=ofL [64] from rfl,zhm,zai,List.length_append]
   show _+1+_<=_
   omega
  rw[e1]
  refine zrq za9 (by omega) o16 x16.size (fun b hb y hy=>by simp at hb;subst hb;have:=(o16.lt y hy).2;omega) rfl (by intro u hu;simp[Value.cells] at hu;subst hu;rfl) (by omega) (by omega) (by omega) fun p' c' w' o' g' np _=>⟨i64 (by omega),⟨g'.ext x16 o16,by omega,by omega,by omega,?_⟩,by simp only[];omega⟩
  rw[show(k+1).toNat=k.toNat+1 by omega,List.take_add_one,ho]
  simpa[Value.cells] using o'
 ·have hk:k=outs.length:=by omega
  subst hk
  have htake:outs.take ((outs.length:Int)).toNat=outs:=by simp
  rw[htake] at o16
  have hn:n=outs.length:=by omega
  subst hn
  have hmap:(outs.map fun o=>Value.string (ofL (zjo G.hosts o)))=(outs.map fun o=>ofL (zjo G.hosts o)).map Value.string:=by simp
  rw[hmap] at o16
  have hlen2:((outs.map fun o=>ofL (zjo G.hosts o)).map (·.data.toList))=outs.map (zjo G.hosts):=by
   rw[List.map_map];rfl
  have hcap:=o16.le
  have hj:=zD0 (outs.map fun o=>ofL (zjo G.hosts o)) 32 p c (by simpa using hcap.1) w17 (o16.ext h17).cells (by
   rw[hlen2]
   have:=ziI (c:=32) (m:=100) (outs.map (zjo G.hosts)) (fun y hy=>by
    obtain⟨o,ho,rfl⟩:=List.mem_map.1 hy
    obtain⟨⟨i1,i2⟩,q1,q2⟩:=po1 o ho
    have hj60:=fx.jO.1
    have hil:=Lib.itoa_length_le o.1 (by omega) (by omega)
    rw[<-po2] at q2
    have hmem:=zat G.hosts default (i:=o.2.toNat) (by omega)
    have hsz:=(zdm (hGh.2.1 _ hmem).1).2
    unfold zjo
    rw[List.length_append,List.length_cons,zf8]
    omega)
   rw[List.length_map] at this
   omega) (by simp;omega)
  rw[List.length_map,hlen2] at hj
  refine hj.mono fun v w18 ⟨e18,hv⟩=>⟨e18,_,hv,fun w20 h20=>(zrZ 0 w20).mono fun v w21 ⟨e21,hE⟩=>⟨e21,v,rfl,fun w23 h23=>?_⟩⟩
  have hx:=((x9.trans x16).trans h20).trans (e21.trans h23)
  refine⟨_,v,0,K',rfl,hE,y2.ext hx,?_,?_,?_⟩
  ·exact((zac x1).tr f2').tr (zac hx)
  ·intro b hb
   refine(g2' b hb).imp id fun h=>Nat.le_trans x1.size h
  ·rw[Kt.st_opn hK,Kt.st_opn hK2]
   exact⟨rfl,G,outs,hpl,rfl,rfl⟩
end
def zHT(w:World)(s:ByteArray)(v:Value)(w':World):Prop:=Ext w w'/\∃j pa ca pf cf e,v=.tuple #[jv j pa ca pf cf,.int .i64 e]/\WfJ j/\(∀S:Nat->Prop,(∀b,S b->b<w.heap.size)->∀w'',Fr S w' w''->IsJ w'' j pa ca pf) /\
 ((e≠0/\j=zdQ/\pa=none/\ca=0/\pf=none/\cf=0)\/(e=0/\okJ j/\nod j.ask<=60/\s=ofL (jtx j)/\(txt j.ask).length<=2000))/\(3000<s.size->e=2)/\(s.size<=3000->e=0\/e=3)/\(∀j0,JT s j0->s.size<=3000->e=0/\j=j0)
theorem zhS{w w':World}{s:ByteArray}(x:Ext w w'){e:Int}(he:e≠0)(hno:∀j0,JT s j0->s.size<=3000->False)(hE:(3000<s.size->e=2)/\(s.size<=3000->e=3):=by refine⟨fun h=>?_,fun h=>?_⟩<;>omega):zHT w s (.tuple #[jv zdQ none 0 none 0,.int .i64 e]) w' :=
 ⟨x,zdQ,none,0,none,0,e,rfl,zje,fun _ _ _ _=>zp5 _,.inl ⟨he,rfl,rfl,rfl,rfl,rfl⟩,hE.1,fun h=>.inr (hE.2 h),fun j0 h hs=>(hno j0 h hs).elim⟩
theorem zI7(s:ByteArray)(hs63:s.size<=9223372036854775807)(w:World)(g:GB w):FnP Tryz.prog zhH #[.string s] w (zHT w s):=by
 refine zre s w _ fun b0 hb0=>⟨fun hbig w1 h1=>zhS h1 (by decide) fun j0 _ h=>by omega,fun hsm w1 x1=>?_⟩
 have h1:=zaa x1
 have hb01:b0<w1.heap.size:=x1.lt b0 (by simp)
 refine(zfu 32 s (by omega) w1 (g.ext h1)).mono fun v w2 ⟨e2,hv,hc2,hlt2⟩=>⟨e2,_,_,_,hv,fun hne w6 x6=>?_,fun h5=>?_⟩
 ·refine zhS (zax x6 (h1.trans e2) (by intro d hd;simp at hd;omega)) (by decide) fun j0 hj _=>hne ?_
  rw[(zg3 hj).1];rfl
 have hw2:Ext w w2:=h1.trans e2
 have hcnt:Lib.countB s (one 32)=4:=by omega
 rw[hcnt] at hc2
 have hlen:=zfg (c:=32) 4 s hcnt
 have hsz:∀i q,(Lib.splitB (one 32) 0 4 s)[i]?=some q->q.size+i<=s.size:=fun i q h=>zcR _ s i q h
 have hjt:∀j0,JT s j0->Lib.splitB (one 32) 0 4 s=(jps j0).map ofL:=fun j0 hj=>(zg3 hj).2
 generalize Lib.splitB (one 32) 0 4 s=Ps at hc2 hlen hsz hjt
 have spn:(some (⟨w1.heap.size,0,none⟩:Addr))≠none:=by simp
 have spb:∀a,(some (⟨w1.heap.size,0,none⟩:Addr))=some a->a.block<w2.heap.size:=fun a ha=>by obtain rfl:=Option.some.inj ha;exact hlt2
 generalize (some (⟨w1.heap.size,0,none⟩:Addr))=sp at hc2 spn spb ⊢
 obtain⟨P0,P1,P2,P3,P4,rfl⟩:∃a b c d e,Ps=[a,b,c,d,e]:=by
  match Ps,hlen with
  |[a,b,c,d,e],_ => exact⟨a,b,c,d,e,rfl⟩
 have cellP:∀{w':World}(i:Nat)(q:ByteArray),Ext w2 w'->([P0,P1,P2,P3,P4]:List ByteArray)[i]?=some q->Go.Sx.cell w' (pIdx sp (i:Int) 1) 0=some (.string q):=fun {w'} i q hx hq=>by
  rw[zae]
  have:=hc2.ext hx i (.string q) (by rw[List.getElem?_map,hq];rfl)
  simpa using this
 have s0:=hsz 0 P0 rfl
 have s1:=hsz 1 P1 rfl
 have s2:=hsz 2 P2 rfl
 have s3:=hsz 3 P3 rfl
 have s4:=hsz 4 P4 rfl
 refine⟨spn,by omega,by omega,P0,cellP 0 P0 (Ext.refl _) rfl,fun b7 hb7=>⟨spn,by omega,by omega,P1,cellP 1 P1 (Ext.refl _) rfl,fun w9 x9=>?_⟩⟩
 have hfree:∀i:Int,zyu [b7] (pIdx sp i 1):=fun i b hb a ha=>by
  simp at hb;subst hb
  cases sp with
  |none => exact absurd rfl spn
  |some x =>
   have:=spb x rfl
   simp[pIdx] at ha
   rw[<-ha,zaL];omega
 have h9:=zaa x9
 have hw9:=hw2.trans h9
 refine(ztj P1 (by omega) w9 (g.ext hw9)).mono fun v w10 ⟨e10,n1,ev,hv,hcase⟩=>⟨e10,n1,ev,hv,spn,by omega,by omega,P2,⟨cellP 2 P2 (h9.trans e10) rfl,hfree 2⟩,fun w14 x14=>?_⟩
 have hw10:=hw9.trans e10
 have h210:Ext w2 w10:=h9.trans e10
 have hb7w:w.heap.size<=b7:=Nat.le_trans hw2.size hb7
 have hw14:Ext w w14:=zax x14 hw10 (by intro d hd;simp at hd;omega)
 refine(zFR P2 (by omega) w14 (g.ext hw14)).mono fun v w15 ⟨e15,nd,en,hv,hnz,hnok,hncomp⟩=>⟨e15,nd.c,nd.m,nd.g,en,hv,spn,by omega,by omega,P4,⟨cellP 4 P4 h210 rfl,hfree 4⟩,fun w21 x21=>?_⟩
 have hw21:Ext w w21:=zax x21 hw10 (by intro d hd;simp at hd;omega)
 have h221:Ext w2 w21:=zax x21 h210 (by intro d hd;simp at hd;omega)
 have hb0_21:b0<w21.heap.size:=x21.lt b0 (by simp)
 have hb7_21:b7<w21.heap.size:=x21.lt b7 (by simp)
 refine(zyJ P4 w21 (g.ext hw21)).mono fun v w22 ⟨e22,t,pa,ca,ea,hv,hWt,hTt,horA,hcompA⟩=>⟨e22,t.k,t.key,t.val,t.n,pa,t.xs.length,ca,ea,hv,fun w31 x31=>?_⟩
 have hw22:Ext w w22:=hw21.trans e22
 have h222:Ext w2 w22:=h221.trans e22
 have hn1:InR .i64 n1\/ev≠.nilIface:=by
  rcases hcase with⟨_,h⟩|⟨⟨a,b,h⟩,_⟩
  ·exact .inl (zhY h)
  ·exact .inr (by rw[h];simp)
 have parts:∀j0,JT s j0->P0=j0.user/\P1=ofL (Lib.itoa j0.prio)/\P2=ofL (zbC j0.nd)/\P3=ofL (zr3 j0.aft)/\P4=ofL (txt j0.ask):=fun j0 hj=>by
  have:=hjt j0 hj
  simp only[jps,List.map_cons,List.map_nil,List.cons.injEq,and_true] at this
  rw[za4] at this
  exact this
 have good0:∀j0,JT s j0->s.size<=3000->ev=.nilIface/\n1=j0.prio/\en=0/\nd=j0.nd/\ea=0/\t=j0.ask:=fun j0 hj hs=>by
  obtain⟨q0,q1,q2,q3,q4⟩:=parts j0 hj
  have hp:=zhX (n:=j0.prio) (by have:=hj.ok.prio;omega)
  have ha:=hcompA j0.ask hj.ok.ask hj.nod q4 (by rw[q4,zai];exact hj.ask)
  have hd:=hncomp j0.nd hj.ok.nd q2
  rcases hcase with⟨h,h'⟩|⟨_,h'⟩
  ·rw[q1,za6,hp] at h'
   cases h'
   exact⟨h,rfl,hd.1,hd.2,ha.1,ha.2⟩
  ·rw[q1,za6] at h'
   exact absurd hp (h' _)
 refine ziL (by kernel_rfl) (hcase.elim (fun h=>.inl h.1) fun h=>.inr h.1) fun tb htb=>⟨Ext.refl _,tb,rfl,fun hbad w34 x34=>?_,fun hgd=>?_⟩
 ·refine zhS (zax x34 hw22 (by intro d hd;simp at hd;omega)) (by decide) fun j0 hj hs=>?_
  obtain⟨a1,_,a3,_,a5,_⟩:=good0 j0 hj hs
  rcases hbad with (h|h)|h
  ·rw[htb.2 a1] at h;cases h
  ·exact h a3
  ·exact h a5
 have hev:ev=.nilIface:=htb.1 hgd.1.1
 have hn1:InR .i64 n1:=hn1.resolve_right fun h=>h hev
 have hnd:=hnok hgd.1.2
 obtain⟨htC,htn,htx,_⟩:znu t=0/\nod t<=60/\P4=ofL (txt t)/\P4.size<=2000:=by
  rcases horA with⟨h,_⟩|⟨_,h⟩
  ·exact absurd hgd.2 h
  ·exact h
 have htl:(txt t).length<=2000:=by rw[<-zai,<-htx];assumption
 have tail:∀(xs:List Int)(pf:Option Addr)(cf:Nat)(wt:World),Ext w wt->Fr (fun b=>b=b7) w22 wt->Own w21.heap.size wt zgu 1 pf xs.length cf (xs.map (.int .i64))->(∀x∈xs,InR .i64 x)->xs.length<=9223372036854775807->(∀j0,JT s j0->s.size<=3000->xs=j0.aft) ->
   ∀w55,zag [b7] [] wt w55->FnP Tryz.prog zeG #[jv ⟨P0,n1,nd,t,xs⟩ pa ca pf cf] w55 fun v56 w56=>Ext w55 w56/\∃t57:ByteArray,∃t58:Int,v56=(.tuple #[(.string t57),(.int .i64 t58)]) /\
    (((t58≠0)\/(t57≠s))->∀w59,zag [b0,b7] [] wt w59->zHT w s (.tuple #[jv zdQ none 0 none 0,.int .i64 3]) w59) /\
    (((t58=0)/\(t57=s))->∀w59,zag [b0,b7] [] wt w59->zHT w s (.tuple #[jv ⟨P0,n1,nd,t,xs⟩ pa ca pf cf,.int .i64 0]) w59):=by
  intro xs pf cf wt hwt ft o hxr hxl hcx w55 x55
  have hW:WfJ ⟨P0,n1,nd,t,xs⟩:=⟨by show P0.size<=_;omega,hn1,hnd.1.rng,hWt,hxl,hxr⟩
  have key:∀(S:Nat->Prop),(∀b,S b->b<w21.heap.size)->∀w'',Fr S wt w''->IsJ w'' ⟨P0,n1,nd,t,xs⟩ pa ca pf:=fun S hS w'' fw=>by
   refine⟨hTt (fun b=>b=b7\/S b) (fun b hb=>by rcases hb with rfl|hb;(· exact hb7_21);exact hS b hb) w'' ((ft.mono fun b hb=>.inl hb).tr (fw.mono fun b hb=>.inr hb)),?_⟩
   exact(Own.fr o fw fun a ha hb=>by have:=(o.lt a ha).1;have:=hS _ hb;omega).cells
  have f55:Fr (fun b=>b=b7) wt w55:=zb4 x55 (by intro d hd;simp at hd;exact .inl hd)
  have hw55:Ext w w55:=zax x55 hwt (by intro d hd;simp at hd;omega)
  refine(zzr ⟨P0,n1,nd,t,xs⟩ pa ca pf cf w55 (key (fun b=>b=b7) (fun b hb=>by omega) w55 f55) hW (by show nod t<=_;omega) (g.ext hw55)).mono fun v w56 ⟨e56,tt,e,hv,heq,hem,htt⟩=>⟨e56,tt,e,hv,fun hbad w59 x59=>?_,fun hgood w59 x59=>?_⟩
  ·refine zhS (zax x59 hwt (by intro d hd;simp at hd;omega)) (by decide) fun j0 hj hs=>?_
   obtain⟨q0,_⟩:=parts j0 hj
   obtain⟨_,a2,_,a4,_,a6⟩:=good0 j0 hj hs
   have hxa:=hcx j0 hj hs
   have hj0:(⟨P0,n1,nd,t,xs⟩:Jb)=j0:=by rw[q0,a2,a4,a6,hxa]
   have he0:e=0:=heq.2 (by rw[hj0];exact hj.ok)
   rcases hbad with h|h
   ·exact h he0
   ·exact h (by rw[htt he0,hj0];exact hj.is.symm)
  ·refine⟨zax x59 hwt (by intro d hd;simp at hd;omega),⟨P0,n1,nd,t,xs⟩,pa,ca,pf,cf,0,rfl,hW,fun S hS w'' fw=>?_,.inr ⟨rfl,heq.1 hgood.1,htn,by rw[<-hgood.2];exact htt hgood.1,htl⟩,fun h=>by omega,fun _=>.inl rfl,fun j0 hj hs=>⟨rfl,?_⟩⟩
   ·refine key (fun b=>S b\/b=b0\/b=b7) (fun b hb=>?_) w'' ((zb4 x59 (by intro d hd;simp at hd;exact .inl (.inr hd))).tr (fw.mono fun b hb=>.inl hb))
    have:=hw21.size
    rcases hb with hb|rfl|rfl
    ·have:=hS b hb;omega
    ·exact hb0_21
    ·exact hb7_21
   ·obtain⟨q0,_⟩:=parts j0 hj
    obtain⟨_,a2,_,a4,_,a6⟩:=good0 j0 hj hs
    rw[q0,a2,a4,a6,hcx j0 hj hs]
 refine⟨spn,by omega,by omega,P3,⟨cellP 3 P3 h222 rfl,hfree 3⟩,fun hne3=>⟨spn,by omega,by omega,P3,⟨cellP 3 P3 h222 rfl,hfree 3⟩,fun w36 x36=>?_⟩,fun heq3 w35 x35=>?_⟩
 rotate_left
 ·refine tail [] none 0 w22 hw22 (Fr.refl _ _) Own.nil (fun x hx=>by cases hx) (by simp) (fun j0 hj hs=>?_) w35 x35
  obtain⟨_,_,_,q3,_⟩:=parts j0 hj
  have:zr3 j0.aft=[45]:=zlL (q3.symm.trans heq3)
  rcases zAP this with h|⟨x,h,hx⟩
  ·exact h.symm
  ·have hup:=zhv hj.ok.up x (by rw[h];simp)
   rw[zdH (by omega)] at hx
   have:=zcP x.toNat 45 (by rw[hx];simp)
   exact absurd this (by decide)
 have f36:Fr (fun b=>b=b7) w22 w36:=zb4 x36 (by intro d hd;simp at hd;exact .inl hd)
 have hw36:Ext w w36:=zax x36 hw22 (by intro d hd;simp at hd;omega)
 have hb0_36:b0<w36.heap.size:=x36.lt b0 (by simp)
 have hb7_36:b7<w36.heap.size:=x36.lt b7 (by simp)
 refine(zfu 44 P3 (by omega) w36 (g.ext hw36)).mono fun v w37 ⟨e37,hv,hc37,hlt37⟩=>⟨e37,_,_,_,hv,?_⟩
 have zJC:=zfg (c:=44) _ P3 rfl
 have qsz:∀i q,(Lib.splitB (one 44) 0 (Lib.countB P3 (one 44)) P3)[i]?=some q->q.size+i<=P3.size:=fun i q h=>zcR _ P3 i q h
 have qjt:∀j0,JT s j0->Lib.countB P3 (one 44)+1=j0.aft.length/\Lib.splitB (one 44) 0 (Lib.countB P3 (one 44)) P3=(j0.aft.map Lib.itoa).map ofL:=fun j0 hj=>by
  obtain⟨_,_,_,q3,_⟩:=parts j0 hj
  have hne:j0.aft≠[]:=fun h=>hne3 (by rw[q3,h];rfl)
  rw[q3]
  exact zrA hne
 generalize Lib.splitB (one 44) 0 (Lib.countB P3 (one 44)) P3=Qs at hc37 zJC qsz qjt
 generalize Lib.countB P3 (one 44)=m at zJC qjt ⊢
 have qpn:(some (⟨w36.heap.size,0,none⟩:Addr))≠none:=by simp
 have qpb:∀a,(some (⟨w36.heap.size,0,none⟩:Addr))=some a->a.block≠b7:=fun a ha=>by obtain rfl:=Option.some.inj ha;show w36.heap.size≠b7;omega
 generalize (some (⟨w36.heap.size,0,none⟩:Addr))=qp at hc37 qpn qpb ⊢
 have hw37:Ext w w37:=hw36.trans e37
 have hb37:b0<w37.heap.size/\b7<w37.heap.size:=by have:=e37.size;omega
 refine⟨fun k c43 c44 c45 c46 c47 c48 c49 c50 c51 c52 cl52 cc52 c53 cl53 cc53 w'=>(c43=P0/\c44=n1/\c45=nd.c/\c46=nd.m/\c47=nd.g/\c48=t.k/\c49=t.key/\c50=t.val/\c51=t.n/\c52=pa/\cl52=t.xs.length/\cc52=ca)/\0<=k/\k<=(m+1:Nat)/\Ext w w'/\Fr (fun b=>b=b7) w37 w' /\
   ∃xs:List Int,cl53=xs.length/\xs.length=k.toNat/\Own w37.heap.size w' zgu 1 c53 cl53 cc53 (xs.map (.int .i64))/\∀(i:Nat) x,xs[i]?=some x->∃q,Qs[i]?=some q/\Lib.parseIntB 64 q.data.toList=.ok x,fun k _ _ _ _ _ _ _ _ _ _ _ _ _ _ _ _=>(m+1-k).toNat,
  ⟨⟨rfl,rfl,rfl,rfl,rfl,rfl,rfl,rfl,rfl,rfl,rfl,rfl⟩,by omega,by omega,hw37,Fr.refl _ _,[],rfl,rfl,Own.nil,fun i x h=>by simp at h⟩,?_⟩
 rintro k c43 c44 c45 c46 c47 c48 c49 c50 c51 c52 cl52 cc52 c53 cl53 cc53 w54 ⟨⟨rfl,rfl,rfl,rfl,rfl,rfl,rfl,rfl,rfl,rfl,rfl,rfl⟩,hk0,hk1,hw54,f54,xs,rfl,hxk,o54,hxs⟩
 have c54:zaw w54 qp (Qs.map Value.string):=hc37.fr f54 fun a ha=>qpb a ha
 refine⟨fun hlt=>?_,fun hge=>?_⟩
 rotate_left
 ·have f22:Fr (fun b=>b=b7) w22 w54:=(f36.tr (zac e37)).tr f54
  have sz:w21.heap.size<=w37.heap.size:=by have:=e22.size;have:=f36.size;have:=e37.size;omega
  refine tail xs c53 cc53 w54 hw54 f22 (o54.weak sz) (fun x hx=>?_) ?_ fun j0 hj hs=>?_
  ·obtain⟨i,hi⟩:=List.getElem?_of_mem hx
   obtain⟨q,_,hq⟩:=hxs i x hi
   exact zhY hq
  ·have:=o54.le;omega
  ·obtain⟨h1,h2⟩:=qjt j0 hj
   have hkl:xs.length=j0.aft.length:=by omega
   refine List.ext_getElem? fun i=>?_
   rcases Nat.lt_or_ge i xs.length with hi|hi
   ·obtain⟨q,hq,hp⟩:=hxs i xs[i] (List.getElem?_eq_getElem hi)
    rw[h2,List.map_map,List.getElem?_map,List.getElem?_eq_getElem (by omega:i<j0.aft.length)] at hq
    simp only[Option.map_some,Option.some.injEq] at hq
    have hup:=zhv hj.ok.up (j0.aft[i]'(by omega)) (List.getElem_mem _)
    rw[<-hq] at hp
    have hp2:=zhX (n:=j0.aft[i]'(by omega)) (by omega)
    have hp3:Lib.parseIntB 64 (Lib.itoa (j0.aft[i]'(by omega)))=.ok xs[i]:=hp
    rw[hp2] at hp3
    injection hp3 with h3
    rw[List.getElem?_eq_getElem hi,List.getElem?_eq_getElem (by omega:i<j0.aft.length),h3]
   ·rw[List.getElem?_eq_none hi,List.getElem?_eq_none (by omega)]
 obtain⟨pc,hpc⟩:∃pc,Qs[k.toNat]?=some pc:=⟨_,List.getElem?_eq_getElem (by omega)⟩
 have hcell:Go.Sx.cell w54 (pIdx qp k 1) 0=some (.string pc):=by
  rw[zae]
  exact c54 _ _ (by simp[hpc])
 have hpsz:=qsz _ _ hpc
 have hqfree:zyu [b7] (pIdx qp k 1):=fun b hb a ha=>by
  simp at hb;subst hb
  cases qp with
  |none => exact absurd rfl qpn
  |some x =>
   simp[pIdx] at ha
   rw[<-ha,zaL];exact qpb x rfl
 refine⟨qpn,hk0,hlt,pc,⟨hcell,hqfree⟩,fun w56 x56=>?_⟩
 have hw56:Ext w w56:=zax x56 hw54 (by intro d hd;simp at hd;omega)
 have f56:Fr (fun b=>b=b7) w37 w56:=f54.tr (zb4 x56 (by intro d hd;simp at hd;exact .inl hd))
 refine(ztj pc (by omega) w56 (g.ext hw56)).mono fun v w57 ⟨e57,x,ev2,hv,hcase2⟩=>⟨e57,x,ev2,hv,fun w60 h60=>?_⟩
 have hw57:=hw56.trans e57
 refine ziL (by kernel_rfl) (hcase2.elim (fun h=>.inl h.1) fun h=>.inr h.1) fun tb2 htb2=>⟨Ext.refl _,tb2,rfl,fun hbad w63 x63=>?_,fun hok=>?_⟩
 ·refine zhS (zax x63 hw57 (by intro d hd;simp at hd;omega)) (by decide) fun j0 hj hs=>?_
  obtain⟨h1,h2⟩:=qjt j0 hj
  rw[h2,List.map_map,List.getElem?_map,List.getElem?_eq_getElem (by omega:k.toNat<j0.aft.length)] at hpc
  simp only[Option.map_some,Option.some.injEq] at hpc
  have hup:=zhv hj.ok.up (j0.aft[k.toNat]'(by omega)) (List.getElem_mem _)
  have hp2:=zhX (n:=j0.aft[k.toNat]'(by omega)) (by omega)
  rcases hcase2 with⟨h,_⟩|⟨_,h⟩
  ·rw[htb2.2 h] at hbad;cases hbad
  ·rw[<-hpc] at h
   exact h _ hp2
 ·have hx:Lib.parseIntB 64 pc.data.toList=.ok x:=by
   have:=htb2.1 hok
   rcases hcase2 with⟨_,h⟩|⟨⟨a,b,h⟩,_⟩
   ·exact h
   ·rw[this] at h;cases h
  have f57:Fr (fun b=>b=b7) w37 w57:=f56.tr (zac e57)
  have o57:Own w37.heap.size w57 zgu 1 c53 xs.length cc53 (xs.map (.int .i64)):=Own.ext (Own.fr o54 (zb4 x56 (by intro d hd;simp at hd;exact .inl hd):Fr (fun b=>b=b7) w54 w56) fun a ha hb=>by have:=(o54.lt a ha).1;omega) e57
  refine zhZ zga o57 f57.size (fun b hb y hy=>by have:=(o57.lt y hy).1;simp at hb;rcases hb with rfl|rfl<;>omega) (by omega) (by omega) fun p' c' w' o' g' _ _=>⟨i64 (by omega),⟨⟨rfl,rfl,rfl,rfl,rfl,rfl,rfl,rfl,rfl,rfl,rfl,rfl⟩,by omega,by omega,?_,?_,xs++[x],by simp,by simp;omega,o',fun i y hy=>?_⟩,by simp only[];omega⟩
  ·have hsz37:=hw37.size
   exact g'.ext hw57 (o57.weak hsz37)
  ·have hB:Below w37.heap.size w57 w':=⟨g'.by_.os,g'.by_.tape,g'.by_.output,g'.by_.size,fun b hb=>g'.by_.block b (by have:=f57.size;omega) fun h=>by
    cases hp:c53 with
    |none => rw[hp] at h;simp[blk] at h
    |some a => rw[hp] at h;simp[blk] at h;have:=(o57.lt a hp).1;omega⟩
   exact⟨hB.os.trans f57.os,hB.tape.trans f57.tape,hB.output.trans f57.output,Nat.le_trans f57.size hB.size,fun b hb hn=>(hB.block b hb).trans (f57.block b hb hn)⟩
  ·rcases Nat.lt_or_ge i xs.length with hi|hi
   ·rw[List.getElem?_append_left hi] at hy
    exact hxs i y hy
   ·rw[List.getElem?_append_right hi] at hy
    obtain⟨hi2,hy2⟩:=List.getElem?_eq_some_iff.1 hy
    simp at hi2 hy2
    obtain rfl:i=k.toNat:=by omega
    exact⟨pc,hpc,by rw[<-hy2];exact hx⟩
section
variable {O:Nat->Prop} {B fb:Nat} {w:World} {P:Pl} {F:Fm}
theorem zGW(x:FXO O B w fb P F)(j:Jb)(pa:Option Addr)(ca:Nat)(pf:Option Addr)(cf:Nat)(hJ:IsJ w j pa ca pf)(hW:WfJ j)(hB:B<=w.heap.size) :
  FnP Tryz.prog zba #[.pointer (ptr fb),jv j pa ca pf cf] w fun v w'=>∃id e:Int,v=.tuple #[.int .i64 id,.int .i64 e]/\((e=0↔zxa F j)/\zLz F j e)/\((e≠0/\Ext w w'/\id=0)\/(e=0/\id=F.jobs.length+1/\∃P',FXO O B w' fb P' (zrC F j)/\Fr (ft fb P.jp) w w'/\zIW w fb P.jp P'.jp)):=by
 have ne:=zaO fb
 have hl0:=x.jO.1
 refine zgf (ptr fb) j.user j.prio j.nd.c j.nd.m j.nd.g j.ask.k j.ask.key j.ask.val j.ask.n pa j.ask.xs.length ca pf j.aft.length cf w _ fun b0 hb0 w1 h1=>?_
 refine(zFv j pa ca pf cf w1 (hJ.ext h1) hW).mono fun v w2 ⟨e2,hv⟩=>⟨e2,zvT j,hv,fun hne w4 h4=>⟨0,zvT j,rfl,⟨⟨fun h=>absurd h hne,fun h=>absurd (zjT.2 h.1) hne⟩,.inl ⟨hne,rfl⟩⟩,.inl ⟨hne,h4,rfl⟩⟩,fun hz=>?_⟩
 have hok:=zjT.1 hz
 have hlen:=hok.len
 have hup:=zhv hok.up
 refine⟨ne,ne,_,_,_,x.cell (i:=6) rfl,fun h60 w7 h7=>⟨0,7,rfl,⟨⟨fun h=>(by cases h),fun h=>absurd (by have:=x.len;omega) h.2.1⟩,.inr ⟨hz,.inl ⟨by have:=x.len;omega,rfl⟩⟩⟩,.inl ⟨by decide,h7,rfl⟩⟩,fun h60=>?_⟩
 refine⟨fun k w'=>Ext w w'/\0<=k/\k<=j.aft.length/\∀i:Nat,(i:Int)<k->j.aft.getD i 0<=F.jobs.length,fun k _=>(j.aft.length-k).toNat,⟨Ext.refl _,by omega,by omega,fun i hi=>by omega⟩,?_⟩
 rintro k w9 ⟨x9,hk0,hk1,hrng⟩
 have gmem:∀{k:Int},0<=k->k<j.aft.length->j.aft.getD k.toNat 0∈j.aft:=fun h0 h1=>zat j.aft 0 (by omega)
 refine⟨fun hlt=>?_,fun hge=>?_⟩
 ·have g:=zes.idx (hJ.2.ext x9) hk0 hlt
  have hy:=hup _ (gmem hk0 hlt)
  refine⟨fun h=>zal g (zah.2 h),hk0,hlt,_,g,fun w11 x11=>?_⟩
  have h11:=x9.trans (zaa x11)
  refine(zH7 (x.ext h11) _ (i64 (by omega))).mono fun v w12 ⟨e12,hv⟩=>⟨e12,?_⟩
  rcases hv with⟨hno,rfl⟩|⟨_,hin,rfl⟩
  ·exact⟨_,rfl,fun _ w14 h14=>⟨0,5,rfl,⟨⟨fun h=>(by cases h),fun h=>absurd ⟨hy.1,(h.2.2 _ (gmem hk0 hlt)).1⟩ hno⟩,.inr ⟨hz,.inr ⟨by have:=x.len;omega,.inl ⟨⟨_,gmem hk0 hlt,hno⟩,rfl⟩⟩⟩⟩,.inl ⟨by decide,(h11.trans e12).trans h14,rfl⟩⟩,fun h=>absurd rfl h⟩
  ·obtain⟨q,hq,hne,_⟩:=znF x ⟨hy.1,hin⟩ (h11.trans e12)
   refine⟨_,rfl,fun h=>absurd (hq.symm.trans h) hne,fun _=>⟨i64 (by omega),⟨h11.trans e12,by omega,by omega,fun i hi=>?_⟩,by simp only[];omega⟩⟩
   by_cases hik:(i:Int)<k
   ·exact hrng i hik
   ·obtain rfl:i=k.toNat:=by omega
    exact hin
 have hall:∀y∈j.aft,y<=F.jobs.length:=fun y hy=>by
  obtain⟨i,hi,rfl⟩:=List.mem_iff_getElem.1 hy
  have:=hrng i (by omega)
  simpa[List.getD_eq_getElem?_getD,hi] using this
 refine⟨fun k w'=>Ext w w'/\0<=k/\k<=j.aft.length/\∀i:Nat,(i:Int)<k->za7 F (j.aft.getD i 0)≠4/\za7 F (j.aft.getD i 0)≠5,fun k _=>(j.aft.length-k).toNat,⟨x9,by omega,by omega,fun i hi=>by omega⟩,?_⟩
 clear hrng hge hk0 hk1
 rintro k w12 ⟨x12,hk0,hk1,hrng⟩
 refine⟨fun hlt=>?_,fun hge=>?_⟩
 ·have g:=zes.idx (hJ.2.ext x12) hk0 hlt
  have hy:=hup _ (gmem hk0 hlt)
  have hy2:=hall _ (gmem hk0 hlt)
  refine⟨fun h=>zal g (zah.2 h),hk0,hlt,_,g,fun w14 x14=>?_⟩
  have h14:=x12.trans (zaa x14)
  refine(zH7 (x.ext h14) _ (i64 (by omega))).mono fun v w15 ⟨e15,hv⟩=>⟨e15,?_⟩
  rcases hv with⟨hno,_⟩|⟨_,hin,rfl⟩
  ·exact absurd ⟨hy.1,hy2⟩ hno
  ·obtain⟨q,hq,hne,hg⟩:=znF x ⟨hy.1,hin⟩ (h14.trans e15)
   refine⟨_,rfl,by rw[hq];exact hne,by rw[hq];exact hne,_,by rw[hq];exact hg,fun hbad w18 h18=>⟨0,9,rfl,⟨⟨fun h=>(by cases h),fun h=>?_⟩,.inr ⟨hz,.inr ⟨by have:=x.len;omega,.inr ⟨fun y hy=>⟨(hup y hy).1,hall y hy⟩,.inl ⟨⟨_,gmem hk0 hlt,hbad⟩,rfl⟩⟩⟩⟩⟩,.inl ⟨by decide,(h14.trans e15).trans h18,rfl⟩⟩,fun hgd=>⟨i64 (by omega),⟨h14.trans e15,by omega,by omega,fun i hi=>?_⟩,by simp only[];omega⟩⟩
   ·have:=(h.2.2 _ (gmem hk0 hlt)).2
    rcases hbad with h|h
    ·exact absurd h this.1
    ·exact absurd h this.2
   ·by_cases hik:(i:Int)<k
    ·exact hrng i hik
    ·obtain rfl:i=k.toNat:=by omega
     exact hgd
 have hall2:∀y∈j.aft,za7 F y≠4/\za7 F y≠5:=fun y hy=>by
  obtain⟨i,hi,rfl⟩:=List.mem_iff_getElem.1 hy
  have:=hrng i (by omega)
  simpa[List.getD_eq_getElem?_getD,hi] using this
 have hoks:zxa F j:=⟨hok,by have:=x.len;omega,fun y hy=>⟨hall y hy,hall2 y hy⟩⟩
 have x12':=x.ext x12
 refine⟨ne,ne,_,_,_,x12'.cell (i:=6) rfl,fun w16 x16=>?_⟩
 have h16:=x12.trans (zaa x16)
 have hE:zfw j.ask=0:=by
  have:=hok.ask
  unfold znu at this
  split at this
  ·cases this
  ·exact this
 refine(zGd ⟨zuN j,pa,ca,pf,cf⟩ w16 (hJ.ext h16) hE hok.len).mono fun v w17 ⟨e17,r,hv,hrs,hF⟩=>⟨e17,r.s.job.user,r.s.job.prio,r.s.job.nd.c,r.s.job.nd.m,r.s.job.nd.g,r.s.job.ask.k,r.s.job.ask.key,r.s.job.ask.val,r.s.job.ask.n,r.pa,r.s.job.ask.xs.length,r.ca,r.pf,r.s.job.aft.length,r.cf,r.s.what,r.s.host,r.s.since,r.s.again,r.s.tries,hv,?_⟩
 have h17:=h16.trans e17
 have x17:=x.ext h17
 have hlR:=x.len
 have hn60:F.jobs.length≠60:=hoks.2.1
 have hbj:∀b∈[b0],∀y,P.jp=some y->y.block≠b:=fun b hb y hy=>by simp at hb;subst hb;have:=(x.arr.lt y hy).2;omega
 refine zrq (v:=sv r) ziB (by omega) x17.arr (Nat.le_trans hB h17.size) hbj rfl (zBd r) (by omega) (by omega) (by omega) fun p' c' w44 o44 g44 hp' hb44=>⟨ne,ne,?_⟩
 have apF:zb1 (ptr fb) P.jp:=fun u y hu hy=>by cases hu;exact fun h=>x.ap y hy h.symm
 have s44:=x17.slot.st apF g44
 have hfb:=(x.slot.lt _ rfl).2
 have apP:∀a,p'=some a->a.block≠fb:=fun a ha he=>by
  rcases g44.new with hn|hn
  ·rw[ha] at hn
   cases hj:P.jp with
   |none => rw[hj] at hn;simp[blk] at hn
   |some y => rw[hj] at hn;simp[blk] at hn;exact x.ap y hj (hn▸he)
  ·have h1:=hn a ha
   have h2:=h17.size
   have h3:fb<w.heap.size:=hfb
   omega
 refine zaU (off:=6) s44 rfl (by simp) (by simp) (by intro u hu;simp at hu;subst hu;rfl) (fun b hb y hy he=>by cases hy;simp at hb;subst hb;have h3:fb<w.heap.size:=hfb;have he:fb=b:=he;omega) fun w48 o48 g48=>?_
 have f48:Fr (ft fb P.jp) w17 w48:=(zaT g44 fun a ha=>.inr ⟨a,ha,rfl⟩).tr (zaT g48 fun a ha=>by cases ha;exact .inl rfl)
 have hft:∀b,ft fb p' b->ft fb P.jp b\/w17.heap.size<=b:=fun b hb=>by
  rcases hb with h|⟨a,ha,rfl⟩
  ·exact .inl (.inl h)
  ·rcases g44.new with hn|hn
   ·left
    rw[ha] at hn
    cases hj:P.jp with
    |none => rw[hj] at hn;simp[blk] at hn
    |some y => rw[hj] at hn;simp[blk] at hn;exact .inr ⟨y,rfl,hn.symm⟩
   ·exact .inr (hn a ha)
 have step:∀{w'' w0:World},Ext w0 w17->Fr (ftO O fb p') w48 w''->Fr (ftO O fb P.jp) w0 w'':=fun h0 kf=>((zac h0).tr (f48.mono fun b hb=>.inr hb)).trans kf fun b hb=>by
  rcases hb with hb|hb
  ·exact .inl (.inl hb)
  ·rcases hft b hb with h|h
   ·exact .inl (.inr h)
   ·exact .inr (Nat.le_trans h0.size h)
 have y48:FXO O B w48 fb ⟨P.hp,P.hc,p',c',P.R++[r]⟩ (zrC F j):=by
  refine⟨?_,?_,?_,fun w'' kf=>x.hs w'' (step h17 kf),fun r' hr' w'' kf=>?_,apP,x.hO,?_,fun b hb=>by have:=x.olt b hb;have:=h17.size;have:=f48.size;omega,fun b hb hf=>(hft b hf).elim (x.odis b hb) fun h=>by have:=x.olt b hb;have:=h17.size;omega⟩
  ·show Own B w48 zdM 7 (ptr fb) 1 1 [_,_,_,_,_,_,.slice p' (P.R++[r]).length c']
   rw[List.length_append]
   exact o48
  ·show Own B w48 zlt 16 p' (P.R++[r]).length c' ((P.R++[r]).flatMap zwh)
   rw[List.length_append,List.flatMap_append]
   have:=o44.st (fun u v hu hv=>by cases hv;exact apP u hu) g48
   simpa[Value.cells] using this
  ·show(P.R++[r]).map (·.s)=F.jobs++[zuN j]
   rw[List.map_append,x.map];simp[hrs]
  ·have hr':r'∈P.R++[r]:=hr'
   rcases List.mem_append.1 hr' with hr'|hr'
   ·exact x.js r' hr' w'' (step h17 kf)
   ·simp at hr';subst hr'
    have:=hF (ftO O fb P.jp) (fun b hb=>by
     rcases hb with hb|hb
     ·have:=x.olt b hb;have:=h16.size;omega
     ·have:=(x.foot hb).2;have:=h16.size;omega) w'' (step (Ext.refl _) kf)
    rw[hrs]
    exact this
  ·refine⟨by show(F.jobs++[zuN j]).length<=60;rw[List.length_append];simp;omega,fun s hs=>?_⟩
   have hs:s∈F.jobs++[zuN j]:=hs
   rcases List.mem_append.1 hs with hs|hs
   ·exact x.jO.2 s hs
   ·simp at hs;subst hs;exact⟨hok,hW⟩
 refine⟨ne,ne,_,_,_,y48.cell (i:=6) rfl,fun w52 h52=>⟨_,0,rfl,⟨⟨fun _=>hoks,fun _=>rfl⟩,.inr ⟨hz,.inr ⟨hn60,.inr ⟨fun y hy=>⟨(hup y hy).1,hall y hy⟩,.inr ⟨hall2,rfl⟩⟩⟩⟩⟩,.inr ⟨rfl,?_,_,y48.ext h52,((zac h17).tr f48).tr (zac h52),fun b hb=>?_⟩⟩⟩
 ·simp;omega
 ·rcases hft b hb with h|h
  ·exact .inl h
  ·exact .inr (Nat.le_trans h17.size h)
end
theorem zEJ{w:World}{p:Option Addr}{c:Nat}{ws:List ByteArray}(k:Nat)(hk:k<ws.length)(hc:ws.length<=c)(h:zaw w p (ws.map Value.string)):zaw w (pCut p c (k:Int) 1) ((ws.drop k).map Value.string):=by
 have e:pCut p c (k:Int) 1=p.map (·.add k):=by
  unfold pCut
  rw[if_neg (by simp;omega)]
  simp
 rw[e]
 intro i v hv
 have h2:=h (k+i) v (by rw[List.getElem?_map,List.getElem?_drop] at hv;rw[List.getElem?_map];exact hv)
 cases p with
 |none => simp[cell] at h2
 |some a =>
  simp only[Option.map_some,cell,Option.bind_some] at h2 ⊢
  have:(a.add k).add i=a.add (k+i):=by
   by_cases h0:k=0
   ·subst h0;simp[Addr.add]
   ·by_cases hi:i=0
    ·subst hi;simp[Addr.add,h0]
    ·simp[Addr.add,h0,hi,Nat.add_assoc]
  rw[this];exact h2
def zpq(ws:List ByteArray)(k:Nat):ByteArray:=ofL (Lib.join ((ws.drop k).map (·.data.toList)) [32])
theorem zLa{wp:Option Addr}{wc:Nat}{ws:List ByteArray}{w:World}(k:Nat)(hk:k<ws.length)(hc:ws.length<=wc)(h10:ws.length<=10)(hsz:∀x∈ws,x.size<=4294967281)(hw:zaw w wp (ws.map Value.string)) :
  FnP Tryz.prog zbr #[.slice (pCut wp wc (k:Int) 1) ((ws.length:Int)-(k:Int)).toNat (wc-((k:Int)).toNat),.string (one 32)] w fun v w'=>Ext w w'/\v=.string (zpq ws k)/\(zpq ws k).size<=42949672820:=by
 have hb:(Lib.join ((ws.drop k).map (·.data.toList)) [32]).length<=42949672820:=by
  have:=ziI (c:=32) (m:=4294967281) ((ws.drop k).map (·.data.toList)) (fun y hy=>by
   obtain⟨x,hx,rfl⟩:=List.mem_map.1 hy
   have:=hsz x (List.mem_of_mem_drop hx)
   rw[zf8];exact this)
  rw[List.length_map,List.length_drop] at this
  omega
 have e:((ws.length:Int)-(k:Int)).toNat=(ws.drop k).length:=by rw[List.length_drop];omega
 rw[e]
 exact(zD0 (ws.drop k) 32 _ _ (by rw[List.length_drop];simp;omega) w (zEJ k hk hc hw) (by omega) (by rw[List.length_drop];omega)).mono fun v w' ⟨h1,h2⟩=>⟨h1,h2,by unfold zpq;rw[zai];exact hb⟩
def zJE(t:ByteArray)(e:Int)(j:Jb):Prop:=(3000<t.size->e=2)/\(t.size<=3000->e=0\/e=3)/\(e=0->JT t j)/\(∀j0,JT t j0->t.size<=3000->e=0/\j=j0)
def zkf(t:ByteArray)(σ:DS)(c:Int)(s:ByteArray)(σ':DS):Prop:=match σ with
 |.shut _ => False
 |.opn F => ∃e j,zJE t e j/\((e≠0/\c=e/\σ'=.opn F)\/(e=0/\zLz F j c/\((c≠0/\σ'=.opn F)\/(c=0/\s=ofL (Lib.itoa (F.jobs.length+1))/\σ'=.opn (zrC F j)))))
section
variable {O:Nat->Prop} {B db:Nat} {w:World} {K:Kt}
theorem zJ4(x:KX O B w db K){fb:Nat}{P:Pl}{F:Fm}(hK:K.farm=some (fb,P,F))(g:GD w)(hB:11<=B)(hBw:B<=w.heap.size)(wp:Option Addr)(wc:Nat)(ws:List ByteArray)(h1:1<ws.length)(hc:ws.length<=wc)(h10:ws.length<=10)
  (hsz:∀x∈ws,x.size<=4294967281) (hw:zaw w wp (ws.map Value.string)) :
  FnP Tryz.prog zgK #[.pointer (ptr db),.slice wp ws.length wc] w (CR O B db w K fun s c σ'=>zkf (zpq ws 1) K.st c s σ'):=by
 have ne:=zaO db
 refine zlO (ptr db) wp ws.length wc w _ ⟨by omega,by omega,by omega,fun w0 x0=>(zLa 1 h1 hc h10 hsz (hw.ext x0)).mono fun v w1 ⟨e1,hv,hs⟩=>⟨e1,_,hv,fun w3 x3=>?_⟩⟩
 generalize zpq ws 1=t at hs ⊢
 refine(zI7 t (by omega) w3 (g.gb.ext x3)).mono fun v w4 ⟨e4,j,pa,ca,pf,cf,e,hv,hW,hJ,hor,hb2,hb3,hcomp⟩=>⟨e4,j.user,j.prio,j.nd.c,j.nd.m,j.nd.g,j.ask.k,j.ask.key,j.ask.val,j.ask.n,pa,j.ask.xs.length,ca,pf,j.aft.length,cf,e,hv,fun b21 hb21=>?_⟩
 have x4:=x3.trans e4
 have hread:zJE t e j:=⟨hb2,hb3,fun h=>by
  rcases hor with⟨h',_⟩|⟨_,q1,q2,q3,q4⟩
  ·exact absurd h h'
  ·exact⟨q1,by omega,q3,q4⟩,hcomp⟩
 refine⟨fun hne w22 x22=>zwX ⟨Ext.refl _,_,rfl,rfl,fun w25 x25=>zDc ⟨Ext.refl _,_,rfl,fun w28 h28=>?_⟩⟩,fun hz=>⟨ne,ne,_,(x.ext x4).fbp hK,fun w23 x23=>?_⟩⟩
 ·refine zcW x (((x4.trans (zaa x22)).trans (zaa x25)).trans h28) (zCW hne) ?_
  rw[Kt.st_opn hK]
  exact⟨e,j,hread,.inl ⟨hne,rfl,rfl⟩⟩
 have h23:=x4.trans (zaa x23)
 have y:=x.ext h23
 obtain⟨fx,I,W⟩:=y.opn fb P F hK
 have hb21':=x23.lt b21 (by simp)
 have hft:∀b,KF db K b->b≠b21:=fun b hb he=>by
  have:=((x.ext x4).foot hb).2
  omega
 refine(zGW fx j pa ca pf cf (hJ (fun _=>False) (fun _ h=>h.elim) w23 (zac (zaa x23))) hW (Nat.le_trans hBw h23.size)).mono fun v w24 ⟨id,e',hv,⟨hiff,hE⟩,hres⟩=>⟨?_,id,e',hv,fun w27 h27=>?_⟩
 ·rcases hres with⟨_,h,_⟩|⟨_,_,P',_,f,_⟩
  ·exact(zac (S:=fun _=>False) h).kept fun b hb=>by simp at hb;subst hb;exact⟨hb21',fun h=>h⟩
  ·exact f.kept fun b hb=>by
    simp at hb;subst hb
    exact⟨hb21',fun h=>hft _ (.inr ⟨fb,P,F,hK,h⟩) rfl⟩
 have hR:∃K',KX O B w24 db K'/\Fr (KF db K) w23 w24/\zwK w23 db K K'/\(InR .i64 id)/\∀s:ByteArray,s=ofL (Lib.itoa id)->zkf t K.st e' s K'.st:=by
  rcases hres with⟨hne,h,rfl⟩|⟨he0,hid,P',fx',f,hg⟩
  ·refine⟨K,y.ext h,zac h,fun b hb=>.inl hb,i64 (by omega),fun s _=>?_⟩
   rw[Kt.st_opn hK]
   exact⟨e,j,hread,.inr ⟨hz,hE,.inl ⟨hne,rfl⟩⟩⟩
  ·have hok:=hiff.1 he0
   obtain⟨a1,a2,a3⟩:=y.turn hK fx' f hg (zvn I hok) (W.sub j)
   refine⟨_,a1,a2,a3,?_,fun s hs=>?_⟩
   ·have:=fx.jO.1;exact i64 (by omega)
   ·rw[Kt.st_opn hK]
    exact⟨e,j,hread,.inr ⟨hz,hE,.inr ⟨he0,by rw[hs,hid],rfl⟩⟩⟩
 obtain⟨K',y',f',g',hid,hRR⟩:=hR
 have gd24:GD w24:=(g.ext h23).fr f' fun b hb=>Nat.le_trans hB (y.foot hb).1
 refine(zoQ id (ziF hid) w27 (gd24.ext h27).gb).mono fun v w28 ⟨e28,hv⟩=>⟨e28,_,hv,fun w30 x30=>(zrZ e' w30).mono fun v w31 ⟨e31,hE'⟩=>⟨e31,v,rfl,fun w33 h33=>?_⟩⟩
 have hx:=((zaa x30).trans e31).trans h33
 refine⟨_,v,e',K',rfl,hE',y'.ext hx,((zac h23).tr f').tr (zac hx),fun b hb=>(g' b hb).imp (fun h=>h) fun h=>Nat.le_trans h23.size h,hRR _ rfl⟩
end
instance decMem(x:ByteArray)(l:List ByteArray):Decidable (x∈l):=decidable_of_iff (l.any (fun y=>decide (y=x))=true) (by simp)
def lbE(seen:List ByteArray):List Lb->Int
 |[] => 0
 |x::r => if lbB x.key=true/\lbB x.val=true then (if x.key∈seen then 6 else lbE (seen++[x.key]) r) else 3
def hE(seen:List ByteArray)(h:Ht):Int :=
 if lbB h.name=false then 3 else if h.name∈seen then 6 else if 8<h.labels.length then 2 else if lbE [] h.labels≠0 then lbE [] h.labels
 else if zBh h.has≠0 then 4 else if zBh h.used≠0 then 4 else if zk8 h.used h.has then 0 else 10
def hsE(seen:List ByteArray):List Ht->Int
 |[] => 0
 |h::r => if hE seen h≠0 then hE seen h else hsE (seen++[h.name]) r
def zmx(L:List Ht):Int:=if 30<L.length then 2 else hsE [] L
theorem zKU:∀(l:List Lb)(seen:List ByteArray),lbE seen l=0↔(∀x∈l,lbB x.key=true/\lbB x.val=true)/\(l.map (·.key)).Nodup/\∀x∈l,x.key∉seen
 |[],seen => by simp[lbE]
 |x::r,seen => by
  rw[lbE]
  have ih:=zKU r (seen++[x.key])
  by_cases h1:lbB x.key=true/\lbB x.val=true
  ·rw[if_pos h1]
   by_cases h2:x.key∈seen
   ·rw[if_pos h2]
    exact⟨fun h=>by omega,fun h=>absurd h2 (h.2.2 x List.mem_cons_self)⟩
   ·rw[if_neg h2,ih,List.map_cons,List.nodup_cons]
    constructor
    ·rintro⟨a,b,c⟩
     refine⟨fun y hy=>?_,⟨fun hm=>?_,b⟩,fun y hy=>?_⟩
     ·rcases List.mem_cons.1 hy with rfl|hy
      ·exact h1
      ·exact a y hy
     ·obtain⟨y,hy,he⟩:=List.mem_map.1 hm
      exact c y hy (by rw[he];simp)
     ·rcases List.mem_cons.1 hy with rfl|hy
      ·exact h2
      ·exact fun hs=>c y hy (List.mem_append_left _ hs)
    ·rintro⟨a,⟨b1,b2⟩,c⟩
     refine⟨fun y hy=>a y (List.mem_cons_of_mem _ hy),b2,fun y hy hs=>?_⟩
     rcases List.mem_append.1 hs with hs|hs
     ·exact c y (List.mem_cons_of_mem _ hy) hs
     ·simp at hs
      exact b1 (List.mem_map.2 ⟨y,hy,hs⟩)
  ·rw[if_neg h1]
   exact⟨fun h=>by omega,fun h=>absurd (h.1 x List.mem_cons_self) h1⟩
theorem hE_ok{seen:List ByteArray}{h:Ht}:hE seen h=0↔zJt h/\h.name∉seen:=by
 have hl:=zKU h.labels []
 unfold hE zJt okLb
 by_cases h1:lbB h.name=false
 ·rw[if_pos h1];simp[h1]
 have h1':lbB h.name=true:=by simpa using h1
 rw[if_neg h1]
 by_cases h2:h.name∈seen
 ·rw[if_pos h2];simp[h2]
 rw[if_neg h2]
 by_cases h3:8<h.labels.length
 ·rw[if_pos h3];exact⟨fun h=>by omega,fun h=>by have:=h.1.2.1;omega⟩
 rw[if_neg h3]
 by_cases h4:lbE [] h.labels=0
 ·rw[if_neg (by simpa using h4)]
  obtain⟨a,b,_⟩:=hl.1 h4
  by_cases h5:zBh h.has=0
  ·rw[if_neg (by simpa using h5)]
   by_cases h6:zBh h.used=0
   ·rw[if_neg (by simpa using h6)]
    by_cases h7:zk8 h.used h.has
    ·rw[if_pos h7]
     exact⟨fun _=>⟨⟨h1',by omega,⟨a,b⟩,zbm.1 h5,zbm.1 h6,h7⟩,h2⟩,fun _=>rfl⟩
    ·rw[if_neg h7]
     exact⟨fun h=>by omega,fun h=>absurd h.1.2.2.2.2.2 h7⟩
   ·rw[if_pos h6]
    exact⟨fun h=>by omega,fun h=>absurd (zbm.2 h.1.2.2.2.2.1) h6⟩
  ·rw[if_pos h5]
   exact⟨fun h=>by omega,fun h=>absurd (zbm.2 h.1.2.2.2.1) h5⟩
 ·rw[if_pos (by simpa using h4)]
  exact⟨fun h=>absurd h h4,fun h=>absurd (hl.2 ⟨h.1.2.2.1.1,h.1.2.2.1.2,by simp⟩) h4⟩
theorem zKQ:∀(L:List Ht)(seen:List ByteArray),hsE seen L=0↔(∀h∈L,zJt h)/\(L.map (·.name)).Nodup/\∀h∈L,h.name∉seen
 |[],seen => by simp[hsE]
 |x::r,seen => by
  rw[hsE]
  have ih:=zKQ r (seen++[x.name])
  have hx:=hE_ok (seen:=seen) (h:=x)
  by_cases h1:hE seen x=0
  ·rw[if_neg (by simpa using h1),ih,List.map_cons,List.nodup_cons]
   obtain⟨q1,q2⟩:=hx.1 h1
   constructor
   ·rintro⟨a,b,c⟩
    refine⟨fun y hy=>?_,⟨fun hm=>?_,b⟩,fun y hy=>?_⟩
    ·rcases List.mem_cons.1 hy with rfl|hy
     ·exact q1
     ·exact a y hy
    ·obtain⟨y,hy,he⟩:=List.mem_map.1 hm
     exact c y hy (by rw[he];simp)
    ·rcases List.mem_cons.1 hy with rfl|hy
     ·exact q2
     ·exact fun hs=>c y hy (List.mem_append_left _ hs)
   ·rintro⟨a,⟨b1,b2⟩,c⟩
    refine⟨fun y hy=>a y (List.mem_cons_of_mem _ hy),b2,fun y hy hs=>?_⟩
    rcases List.mem_append.1 hs with hs|hs
    ·exact c y (List.mem_cons_of_mem _ hy) hs
    ·simp at hs
     exact b1 (List.mem_map.2 ⟨y,hy,hs⟩)
  ·rw[if_pos (by simpa using h1)]
   exact⟨fun h=>absurd h h1,fun h=>absurd (hx.2 ⟨h.1 x List.mem_cons_self,h.2.2 x List.mem_cons_self⟩) h1⟩
theorem zBf{L:List Ht}:zmx L=0↔zlM L:=by
 unfold zmx zlM
 by_cases h:30<L.length
 ·rw[if_pos h];exact⟨fun h=>by omega,fun h=>by have:=h.1;omega⟩
 ·rw[if_neg h,zKQ]
  exact⟨fun⟨a,b,_⟩=>⟨by omega,a,b⟩,fun⟨_,a,b⟩=>⟨a,b,by simp⟩⟩
theorem zqt{α:Type}{L:List α}(d:α){k:Nat}(h:k<L.length):L.drop k=L.getD k d::L.drop (k+1):=by
 rw[List.drop_eq_getElem_cons h]
 simp[List.getD_eq_getElem?_getD,h]
theorem zwx(p:Option Addr)(c:Nat)(L:List Ht)(h63:(L.length:Int)<=9223372036854775807)(hO:∀h∈L,zyv h)(w:World)(hL:zkO w p L) :
  FnP Tryz.prog zcu #[.slice p L.length c] w fun v w'=>Ext w w'/\v=.int .i64 (zmx L):=by
 refine zm0 p L.length c w _ ⟨fun hgt w0 h0=>⟨h0,by unfold zmx;rw[if_pos (by omega)]⟩,fun hle w0 h0=>?_⟩
 have hEH:zmx L=hsE [] L:=by unfold zmx;rw[if_neg (by omega)]
 rw[hEH]
 refine zB9 fun w1 S1 e1=>⟨e1,_,rfl,?_⟩
 generalize hr1:w0.heap.size=r1 at S1
 have x1:=h0.trans e1
 have hw1:w.heap.size<=r1:=by have:=h0.size;omega
 refine⟨fun k w'=>Ext w w'/\0<=k/\k<=L.length/\zjv w' r1 ((L.take k.toNat).map (·.name))/\hsE [] L=hsE ((L.take k.toNat).map (·.name)) (L.drop k.toNat),fun k _=>(L.length-k).toNat,⟨x1,by omega,by omega,S1,rfl⟩,?_⟩
 rintro k w5 ⟨x5,hk0,hk1,S5,hE5⟩
 have fin:∀{e:Int}{w':World},Ext w w'->hsE [] L=e->Ext w w'/\Value.int .i64 e=.int .i64 (hsE [] L):=fun hx h1=>⟨hx,by rw[h1]⟩
 refine⟨fun hlt=>?_,fun hge w6 h6=>fin (x5.trans h6) ?_⟩
 rotate_left
 ·rw[hE5,List.drop_eq_nil_of_le (by omega)];rfl
 obtain⟨q,d,hp,hp8,g',hLb⟩:=hL.at hk0 hlt
 have hm:=zat L default (i:=k.toNat) (by omega)
 have hOk:=hO _ hm
 rw[zqt default (by omega:k.toNat<L.length),hsE] at hE5
 generalize hHd:L.getD k.toNat default=H at g' hLb hm hOk hE5
 generalize hseen:(L.take k.toNat).map (·.name)=seen at S5 hE5
 have bad:∀{e:Int},e≠0->hE seen H=e->hsE [] L=e:=fun hne he=>by rw[hE5,he,if_pos hne]
 have g:∀(j:Nat) u,(zHB H q d)[j]?=some u->Go.Sx.cell w5 (pIdx p k 8) j=some u:=fun j u hu=>zar x5 (g' j u hu)
 obtain⟨ho1,ho2,ho3⟩:=hOk
 refine⟨hp,hk0,hlt,hp8,_,g 0 _ rfl,_,_,_,g 1 _ rfl,_,g 2 _ rfl,_,g 3 _ rfl,_,g 4 _ rfl,_,g 5 _ rfl,_,g 6 _ rfl,_,g 7 _ rfl,fun b16 hb16=>?_⟩
 refine⟨fun w'=>w'=w5/\lbB H.name=true/\H.name∉seen/\H.labels.length<=8,fun w19 h19=>?_,?_⟩
 ·refine(zeK H.name ho1 w19).mono fun v w20 ⟨e20,hv⟩=>⟨e20,_,hv,fun hf w22 h22=>fin (x5.trans h22) (bad (by decide) ?_),fun hn w22 h22=>?_⟩
  ·unfold hE;rw[if_pos hf]
  have hn':¬lbB H.name=false:=by rw[hn];decide
  refine zp0 (S5.ext h22) H.name fun b hb=>⟨Ext.refl _,b,rfl,fun hin w25 h25=>fin (x5.trans h25) (bad (by decide) ?_),fun hnin=>?_⟩
  ·unfold hE;rw[if_neg hn',if_pos (hb.1 hin)]
  have hns:H.name∉seen:=fun hm=>by rw[hb.2 hm] at hnin;cases hnin
  refine⟨fun h8 w25 h25=>fin (x5.trans h25) (bad (by decide) ?_),fun h8=>⟨rfl,hn,hns,by omega⟩⟩
  unfold hE;rw[if_neg hn',if_neg hns,if_pos (by omega)]
 rintro w5 ⟨rfl,hn,hnin,h8⟩ w19 x19
 have hn':¬lbB H.name=false:=by rw[hn];decide
 have h19:=zaa x19
 have hb19:b16<w19.heap.size:=x19.lt b16 (by simp)
 have hr5:=S5.lt
 refine zvk (S5.ext h19) H.name fun w20 S20 g20=>⟨fun b hb=>?_,fun w21 x21=>?_⟩
 ·simp at hb;subst hb
  refine g20.by_.block b hb19 fun he=>?_
  simp[blk] at he;omega
 have x20:Ext w w20:=g20.below (x5.trans h19) (x5.trans h19).size (fun a ha=>by obtain rfl:=Option.some.inj ha;exact hw1)
 have h21:=zaa x21
 refine zB9 fun w22 S22 e22=>⟨e22,_,rfl,?_⟩
 have hr21:r1<w21.heap.size:=by have:=S20.lt;have:=h21.size;omega
 generalize hr2:w21.heap.size=r2 at S22 hr21
 have x22:=(x20.trans h21).trans e22
 have hb16r:b16<r2:=by have:=g20.size;have:=h21.size;omega
 refine⟨fun j w'=>Ext w w'/\0<=j/\j<=H.labels.length/\zjv w' r1 (seen++[H.name])/\zjv w' r2 ((H.labels.take j.toNat).map (·.key))/\lbE [] H.labels=lbE ((H.labels.take j.toNat).map (·.key)) (H.labels.drop j.toNat),fun j _=>(H.labels.length-j).toNat,⟨x22,by omega,by omega,(S20.ext h21).ext e22,S22,rfl⟩,?_⟩
 rintro j w26 ⟨x26,hj0,hj1,Sa,Sb,hlE⟩
 have badL:∀{e:Int},e≠0->lbE [] H.labels=e->hsE [] L=e:=fun hne he=>bad hne (by unfold hE;rw[if_neg hn',if_neg hnin,if_neg (by omega),if_pos (by rw[he];exact hne),he])
 refine⟨fun hjl=>?_,fun hjg w27 h27=>?_⟩
 ·have hLb6:=hLb.ext x26
  have l0:=hLb6.idx default hj0 hjl (j:=0) rfl
  have l1:=hLb6.idx default hj0 hjl (j:=1) rfl
  have hlm:=zat H.labels default (i:=j.toNat) (by omega)
  have hls:=ho3 _ hlm
  rw[zqt default (by omega:j.toNat<H.labels.length),lbE] at hlE
  generalize hld:H.labels.getD j.toNat default=lb at l0 l1 hlm hls hlE
  generalize hkeys:(H.labels.take j.toNat).map (·.key)=zpe at Sb hlE
  refine⟨fun hq=>zal l0 (zah.2 hq),hj0,hjl,zal l0,_,l0,_,l1,fun b29 hb29=>?_⟩
  refine⟨fun w'=>w'=w26/\lbE [] H.labels=lbE (zpe++[lb.key]) (H.labels.drop (j.toNat+1)),fun w32 h32=>?_,?_⟩
  ·refine(zeK lb.key hls.1 w32).mono fun v w33 ⟨e33,hv⟩=>⟨e33,_,hv,fun hf w35 h35=>fin (x26.trans h35) (badL (by decide) (by rw[hlE,if_neg (by rw[hf];simp)])),fun hkt w35 h35=>?_⟩
   refine(zeK lb.val hls.2 w35).mono fun v w36 ⟨e36,hv⟩=>⟨e36,_,hv,fun hf w38 h38=>fin (x26.trans h38) (badL (by decide) (by rw[hlE,if_neg (by rw[hf];simp)])),fun hvt w38 h38=>?_⟩
   rw[if_pos ⟨hkt,hvt⟩] at hlE
   refine zp0 (Sb.ext h38) lb.key fun b hb=>⟨Ext.refl _,b,rfl,fun hin w41 h41=>fin (x26.trans h41) (badL (by decide) (by rw[hlE,if_pos (hb.1 hin)])),fun hnin=>⟨rfl,?_⟩⟩
   rw[hlE,if_neg (fun hm=>by rw[hb.2 hm] at hnin;cases hnin)]
  rintro w26 ⟨rfl,hlE'⟩ w32 x32
  have h32:=zaa x32
  refine zvk (Sb.ext h32) lb.key fun w33 S33 g33=>⟨fun b hb=>?_,i64 (by omega),⟨?_,by omega,by omega,?_,?_,?_⟩,by simp only[];omega⟩
  ·have hlt':=x32.lt b hb
   refine g33.by_.block b hlt' fun he=>?_
   simp[blk] at he
   simp at hb
   have:=Sb.lt
   rcases hb with rfl|rfl<;>omega
  ·exact g33.below (x26.trans h32) (x26.trans h32).size (fun a ha=>by obtain rfl:=Option.some.inj ha;show w.heap.size<=r2;omega)
  ·exact(Sa.ext h32).grew (by omega) g33
  ·rw[show(j+1).toNat=j.toNat+1 by omega,zdo (fun x:Lb=>x.key) default (by omega),hld,hkeys];exact S33
  ·rw[show(j+1).toNat=j.toNat+1 by omega,zdo (fun x:Lb=>x.key) default (by omega),hld,hkeys];exact hlE'
 ·have hl0:lbE [] H.labels=0:=by rw[hlE,List.drop_eq_nil_of_le (by omega)];rfl
  have hEe:hE seen H=if zBh H.has≠0 then 4 else if zBh H.used≠0 then 4 else if zk8 H.used H.has then 0 else 10:=by
   unfold hE;rw[if_neg hn',if_neg hnin,if_neg (by omega),if_neg (by rw[hl0];simp)]
  refine(zzu H.used H.has w27).mono fun v w28 ⟨e28,t,e,hv,ht⟩=>⟨e28,_,_,hv,fun w31 h31=>?_⟩
  refine(ze0 H.has w31).mono fun v w32 ⟨e32,hv⟩=>⟨e32,_,hv,?_⟩
  refine⟨fun w'=>w'=w26/\hE seen H=0,⟨fun hne w36 h36=>?_,fun he0=>⟨fun hne w36 h36=>?_,fun he=>⟨fun hf w36 h36=>?_,fun htt=>?_⟩⟩⟩,?_⟩
  ·have hno:¬okN H.has:=fun h=>hne (zbm.2 h)
   rw[znN hno]
   exact fin (x26.trans h36) (bad (by decide) (by rw[hEe,if_pos hne]))
  ·rcases ht with⟨_,_,rfl,_⟩|⟨hno,rfl,_⟩
   ·exact absurd rfl hne
   ·have hu:¬okN H.used:=fun h=>hno ⟨h,zbm.1 he0⟩
    exact fin (x26.trans h36) (bad (by decide) (by rw[hEe,if_neg (by simpa using he0),if_pos (by rw[znN hu];decide)]))
  ·rcases ht with⟨a1,a2,_,rfl⟩|⟨_,rfl,_⟩
   ·refine fin (x26.trans h36) (bad (by decide) ?_)
    rw[hEe,if_neg (by simpa using he0),if_neg (by have:=zbm.2 a1;simpa using this),if_neg (by simpa using hf)]
   ·omega
  ·rcases ht with⟨a1,a2,_,rfl⟩|⟨_,rfl,_⟩
   ·refine⟨rfl,?_⟩
    rw[hEe,if_neg (by simpa using he0),if_neg (by have:=zbm.2 a1;simpa using this),if_pos (by simpa using htt)]
   ·omega
  ·rintro w26 ⟨rfl,hz⟩
   rw[hz,if_neg (by simp)] at hE5
   refine⟨i64 (by omega),⟨x26,by omega,by omega,?_,?_⟩,by simp only[];omega⟩
   ·rw[show(k+1).toNat=k.toNat+1 by omega,zdo (fun x:Ht=>x.name) default (by omega),hHd,hseen];exact Sa
   ·rw[show(k+1).toNat=k.toNat+1 by omega,zdo (fun x:Ht=>x.name) default (by omega),hHd,hseen];exact hE5
def zzX(x:Nd):Prop:=∀i,i<3->0<=zcv x i/\zcv x i<=9223372036854775807
theorem zzX.rng{x:Nd}(h:zzX x):rng x:=fun i hi=>by have:=h i hi;omega
theorem okN.pos{x:Nd}(h:okN x):zzX x:=fun i hi=>by have:=zq3.1 h i hi;omega
theorem zGl{x:Nd}(hx:zzX x){i:Nat}(hi:i<3):(44:UInt8)∉zhs x i:=fun hm=>by
 have h0:=(hx i hi).1
 unfold zhs at hm
 rcases List.mem_append.1 hm with h|h
 ·exact(zJz hi).2 h
 ·rcases List.mem_cons.1 h with h|h
  ·exact absurd h (by decide)
  ·exact zjY h0 (by decide) h
theorem zAf{x:Nd}(hx:zzX x)(hne:zbC x≠[45]):Lib.countB (ofL (zbC x)) (one 44)+1=(idx x 3).length/\Lib.splitB (one 44) 0 (Lib.countB (ofL (zbC x)) (one 44)) (ofL (zbC x))=(pcs x 3).map ofL:=by
 have hp:pcs x 3≠[]:=fun h=>hne (by unfold zbC;rw[if_pos h])
 have ht:zbC x=Lib.join (pcs x 3) [44]:=by unfold zbC;rw[if_neg hp]
 rw[ht]
 cases hl:pcs x 3 with
 |nil => exact absurd hl hp
 |cons a l =>
  obtain⟨h1,h2⟩:=zdV (c:=44) l a fun y hy=>by
   rw[<-hl] at hy
   obtain⟨i,hi,rfl⟩:=List.mem_map.1 hy
   exact zGl hx (zqN hi).1
  have hlen:(idx x 3).length=l.length+1:=by
   have:=congrArg List.length hl
   unfold pcs at this
   rw[List.length_map] at this
   simpa using this
  rw[h1,h2]
  exact⟨by omega,rfl⟩
def zDl(s:ByteArray)(a:Nd)(e:Int):Prop:=(e≠0->a=zbh)/\(e=0->okN a/\s=ofL (zbC a))/\(∀x,zzX x->s=ofL (zbC x)->(okN x->e=0/\a=x)/\(¬okN x->e=4))/\(e≠0->e≠4->e=3)/\(e=4->∃x,zzX x/\s=ofL (zbC x)/\¬okN x)
abbrev RQE(w:World)(s:ByteArray)(v:Value)(w':World):Prop:=Ext w w'/\∃(a:Nd) (e:Int),v=.tuple #[nv a,.int .i64 e]/\zDl s a e
theorem zLd{w w':World}{s:ByteArray}(x:Ext w w')(hno:∀x,zzX x->s=ofL (zbC x)->False):RQE w s (.tuple #[nv zbh,.int .i64 3]) w' :=
 ⟨x,zbh,3,rfl,fun _=>rfl,fun h=>(by cases h),fun x hx hs=>(hno x hx hs).elim,fun _ _=>rfl,fun h=>(by cases h)⟩
theorem zxL{w w10:World}{s:ByteArray}{p2:Option Addr}{b0:Nat}{cur:Nd}(x10:Ext w w10)(hb0:w.heap.size<=b0)(c10:zD3 w10 p2 cur)(hp:p2≠none)(hr:zzX cur)(g:GB w)
  (hgood:∀x,zzX x->s=ofL (zbC x)->cur=x):rtail s p2 b0 w10 (RQE w s):=by
 have k0:=c10 0 _ rfl
 have k1:=c10 1 _ rfl
 have k2:=c10 2 _ rfl
 have bx:∀{w':World},zag [b0] [] w10 w'->Ext w w':=fun h=>zax h x10 (by intro d hd;simp at hd;omega)
 refine⟨hp,_,k0,_,k1,_,k2,fun w14 h14=>(zzx cur hr.rng w14 (g.ext (x10.trans h14))).mono fun v w15 ⟨e15,hv⟩=>⟨e15,_,hv,fun hne w17 x17=>zLd (bx x17) fun x hx hs=>?_,fun heq=>⟨hp,_,k0,_,k1,_,k2,fun w20 h20=>(ze0 cur w20).mono fun v w21 ⟨e21,hv⟩=>⟨e21,_,hv,fun hne w23 x23=>?_,fun hz=>⟨hp,_,k0,_,k1,_,k2,fun w26 x26=>⟨bx x26,cur,0,rfl,fun h=>absurd rfl h,fun _=>⟨zbm.1 hz,heq.symm⟩,fun x hx hs=>?_,fun h=>absurd rfl h,fun h=>(by cases h)⟩⟩⟩⟩⟩⟩
 ·exact hne (by rw[hgood x hx hs];exact hs.symm)
 ·have hno:¬okN cur:=fun h=>hne (zbm.2 h)
  rw[znN hno]
  refine⟨bx x23,zbh,4,rfl,fun _=>rfl,fun h=>(by cases h),fun x hx hs=>⟨fun h=>absurd (by rw[hgood x hx hs];exact h) hno,fun _=>rfl⟩,fun _ h=>absurd rfl h,fun _=>⟨cur,hr,heq.symm,hno⟩⟩
 ·have hcx:=hgood x hx hs
  exact⟨fun _=>⟨rfl,hcx⟩,fun h=>absurd (by rw[<-hcx];exact zbm.1 hz) h⟩
theorem zJj(s:ByteArray)(hs:s.size<4294967281)(w:World)(g:GB w):FnP Tryz.prog zf4 #[.string s] w (RQE w s):=by
 refine zo1 s w _ fun b0 hb0 w1 x1=>zbc (by simp[Value.oneCell']) fun w2 o2 e2=>?_
 have h1:=zaa x1
 have l0:=x1.lt b0 (by simp)
 have o2:=o2 w.heap.size h1.size
 have np:(some (⟨w1.heap.size,0,none⟩:Addr))≠none:=by simp
 have h2:=h1.trans e2
 have rz:zzX zbh:=fun i hi=>by
  match i,hi with
  |0,_ => simp[zcv,zbh]
  |1,_ => simp[zcv,zbh]
  |2,_ => simp[zcv,zbh]
 have hpb:∀y,(some (⟨w1.heap.size,0,none⟩:Addr))=some y->y.block≠b0:=fun y hy=>by obtain rfl:=Option.some.inj hy;show w1.heap.size≠b0;omega
 have hpl:∀y,(some (⟨w1.heap.size,0,none⟩:Addr))=some y->y.block<w2.heap.size:=fun y hy=>(o2.lt y hy).2
 generalize hpp:(some (⟨w1.heap.size,0,none⟩:Addr))=p at o2 np hpb hpl ⊢
 refine⟨fun hne w3 x3=>?_,fun heq=>?_⟩
 rotate_left
 ·refine zxL (cur:=zbh) h2 hb0 o2.cells np rz g fun x hx hs=>?_
  have hl:zbC x=[45]:=zlL (hs.symm.trans heq)
  by_cases hp:pcs x 3=[]
  ·refine zpG ?_
   have:idx x 3=[]:=by simpa[pcs] using hp
   intro i hi
   rw[this]
   exact zkA i hi
  ·exfalso
   unfold zbC at hl
   rw[if_neg hp] at hl
   cases hc:pcs x 3 with
   |nil => exact hp hc
   |cons a l =>
    rw[hc,Lib.join_cons] at hl
    have ha:a∈pcs x 3:=by rw[hc];exact List.mem_cons_self ..
    obtain⟨i,_,rfl⟩:=List.mem_map.1 ha
    have:=congrArg List.length hl
    unfold zhs at this
    have h3:(pn i).data.toList.length=3:=zBT i
    rw[List.length_append,List.length_append,h3] at this
    simp at this
    omega
 have h3:=h2.trans (zaa x3)
 have g3:=g.ext h3
 refine(zfu 44 s hs w3 g3).mono fun v w4 ⟨e4,hv,hc4,_⟩=>⟨e4,_,_,_,hv,?_⟩
 have spn:(some (⟨w3.heap.size,0,none⟩:Addr))≠none:=by simp
 have apsp:zb1 (some (⟨w3.heap.size,0,none⟩:Addr)) p:=fun a b ha hb he=>by
  obtain rfl:=Option.some.inj ha
  have h5:=hpl b hb
  have h6:=(zaa x3).size
  have h7:w3.heap.size=b.block:=he
  omega
 generalize (some (⟨w3.heap.size,0,none⟩:Addr))=sp at hc4 spn apsp ⊢
 have slen:=zfg (c:=44) _ s rfl
 have ssz:∀i q,(Lib.splitB (one 44) 0 (Lib.countB s (one 44)) s)[i]?=some q->q.size+i<=s.size:=fun i q h=>zcR _ s i q h
 have sgood:∀x,zzX x->s=ofL (zbC x)->Lib.countB s (one 44)+1=(idx x 3).length/\Lib.splitB (one 44) 0 (Lib.countB s (one 44)) s=(pcs x 3).map ofL:=fun x hx hsx=>by
  have:=zAf hx fun h=>hne (by rw[hsx,h];rfl)
  rwa [<-hsx] at this
 generalize Lib.splitB (one 44) 0 (Lib.countB s (one 44)) s=S at hc4 slen ssz sgood
 generalize Lib.countB s (one 44)=n at slen sgood ⊢
 refine⟨fun k w'=>Ext w w'/\0<=k/\k<=(n+1:Nat)/\zaw w' sp (S.map Value.string)/\∃cur,Own w.heap.size w' zjk 3 p 1 1 (zyB cur)/\zzX cur/\∀x,zzX x->s=ofL (zbC x)->good x cur k.toNat,fun k _=>(n+1-k).toNat,
  ⟨h3.trans e4,by omega,by omega,hc4,zbh,(o2.ext (zaa x3)).ext e4,rz,fun x _ _=>zkA⟩,?_⟩
 rintro k w10 ⟨x10,hk0,hk1,c10,cur,o10,hr,hgd⟩
 refine⟨fun hlt=>?_,fun hge=>?_⟩
 rotate_left
 ·refine zxL (cur:=cur) x10 hb0 o10.cells np hr g fun x hx hsx=>zpG ?_
  have:=hgd x hx hsx
  rwa [show k.toNat=(idx x 3).length by have:=(sgood x hx hsx).1;omega] at this
 obtain⟨pc,hpc⟩:∃pc,S[k.toNat]?=some pc:=⟨_,List.getElem?_eq_getElem (by omega)⟩
 have hcell:Go.Sx.cell w10 (pIdx sp k 1) 0=some (.string pc):=by
  rw[zae]
  exact c10 _ _ (by simp[hpc])
 have hpsz:=ssz _ _ hpc
 refine⟨spn,hk0,hlt,_,hcell,fun w12 h12=>(zyF 61 pc (by omega) w12 ((g.ext x10).ext h12)).mono fun v w13 ⟨e13,hv⟩=>⟨e13,_,_,_,hv,fun w17 x17=>?_⟩⟩
 have hx17:=x10.trans (zaa x17)
 have hcsz:(Lib.cut pc.data.toList [61]).2.1.length<=pc.size:=by have:=ziz pc.data.toList 61;rwa [zf8] at this
 have hthis:∀x,zzX x->s=ofL (zbC x)->∃i,(idx x 3)[k.toNat]?=some i/\i<3/\0<zcv x i/\ofL (Lib.cut pc.data.toList [61]).1=pn i/\Lib.parseIntB 64 (ofL (Lib.cut pc.data.toList [61]).2.1).data.toList=.ok (zcv x i):=fun x hx hsx=>by
  have hS:=(sgood x hx hsx).2
  rw[hS,List.getElem?_map] at hpc
  unfold pcs at hpc
  rw[List.getElem?_map,Option.map_map,Option.map_eq_some_iff] at hpc
  obtain⟨i,hi,rfl⟩:=hpc
  have hm:=zqN (List.mem_of_getElem? hi)
  have hb:=hx i hm.1
  have hcut:Lib.cut (ofL (zhs x i)).data.toList [61]=((pn i).data.toList,Lib.itoa (zcv x i),true):=zyY _ (zJz hm.1).1
  have hcut':Lib.cut ((ofL∘zhs x) i).data.toList [61]=((pn i).data.toList,Lib.itoa (zcv x i),true):=hcut
  rw[hcut']
  exact⟨i,hi,hm.1,by omega,za4 _,zgj hb.1 hb.2⟩
 generalize (ofL (Lib.cut pc.data.toList [61]).1)=name at hthis ⊢
 have hnsz:(ofL (Lib.cut pc.data.toList [61]).2.1).size<=281474976710656:=by rw[zai];omega
 generalize (ofL (Lib.cut pc.data.toList [61]).2.1)=num at hthis hnsz ⊢
 refine(zku num hnsz w17 (g.ext hx17)).mono fun v w18 ⟨e18,vn,ev,hv,hcase⟩=>⟨e18,vn,ev,hv,fun w21 h21=>?_⟩
 have hx18:=hx17.trans e18
 refine ziL (by kernel_rfl) (hcase.elim (fun h=>.inl h.1) fun h=>.inr h.1) fun t ht=>⟨Ext.refl _,t,rfl,fun hbad w24 x24=>zLd (zax x24 hx18 (by intro d hd;simp at hd;omega)) fun x hx hsx=>?_,fun hok w24 x24=>?_⟩
 ·exfalso
  obtain⟨i,_,_,hpos,_,hpar⟩:=hthis x hx hsx
  rcases hcase with⟨h1,h2⟩|⟨_,h2⟩
  ·rw[hpar] at h2
   injection h2 with h2
   rcases hbad with h|h
   ·rw[ht.2 h1] at h;cases h
   ·omega
  ·exact h2 _ hpar
 have hx24:=hx18.trans (zaa x24)
 obtain⟨hev,hpar⟩:ev=.nilIface/\Lib.parseIntB 64 num.data.toList=.ok vn:=by
  rcases hcase with h|⟨⟨a,b,h⟩,_⟩
  ·exact h
  ·have:=ht.1 hok.1
   rw[h] at this;cases this
 have o24:Own w.heap.size w24 zjk 3 p 1 1 (zyB cur):=(((o10.ext (zaa x17)).ext e18).ext (zaa x24))
 have c24:zaw w24 sp (S.map Value.string):=(((c10.ext (zaa x17)).ext e18).ext (zaa x24))
 refine(zvb p np w24).mono fun v w25 ⟨e25,q,hv,hq,hqb⟩=>⟨e25,q,3,3,hv,?_⟩
 have apq:zb1 q p:=fun a b ha hb he=>by
  have h5:=hqb a ha
  have h6:=(o24.lt b hb).2
  omega
 refine⟨fun k30 w'=>Ext w w'/\0<=k30/\k30<=3/\zaw w' sp (S.map Value.string)/\zaw w' q (zxE p)/\Own w.heap.size w' zjk 3 p 1 1 (zyB (upN cur name vn k30.toNat)),fun k30 _=>(3-k30).toNat,
  ⟨hx24.trans e25,by omega,by omega,c24.ext e25,hq,by rw[show(0:Int).toNat=0 from rfl,zCp];exact o24.ext e25⟩,?_⟩
 rintro k30 w31 ⟨x31,hj0,hj3,c31,q31,o31⟩
 refine⟨fun hjlt=>?_,fun hjge=>?_⟩
 ·obtain⟨d1,d2⟩:=zva q31 hj0 hjlt
  have hj:k30.toNat<3:=by omega
  refine⟨fun hq=>zal d1 (zah.2 hq),hj0,hjlt,zal d1,_,d1,_,d2,fun b34 hb34=>⟨fun heq=>⟨fun h=>np (zdF.1 h),?_⟩,fun hne=>⟨i64 (by omega),⟨x31,by omega,by omega,c31,q31,?_⟩,by simp only[];omega⟩⟩⟩
  ·refine zbF o31 (by simpa using hj) rfl (fun b hb y hy=>?_) fun w35 o35 g35=>⟨i64 (by omega),⟨g35.ext x31 o31,by omega,by omega,c31.grew apsp g35,q31.grew apq g35,?_⟩,by simp only[];omega⟩
   ·simp only[List.mem_cons,List.mem_singleton,List.mem_nil_iff,or_false] at hb
    rcases hb with rfl|rfl
    ·exact hpb y hy
    ·have:=(o31.lt y hy).2;omega
   ·rw[show(k30+1).toNat=k30.toNat+1 by omega,<-zHb hj heq]
    exact o35
  ·rw[show(k30+1).toNat=k30.toNat+1 by omega,zCo hj hne]
   exact o31
 ·obtain rfl:k30=3:=by omega
  refine⟨i64 (by omega),⟨x31,by omega,by omega,c31,upN cur name vn 3,o31,fun i hi=>?_,fun x hx hsx=>?_⟩,by simp only[];omega⟩
  ·rw[zHa hi]
   split
   ·have:=zxB hpar hok.2
    omega
   ·exact hr i hi
  ·obtain⟨i,hi,hi3,_,hname,hp2⟩:=hthis x hx hsx
   rw[hpar] at hp2
   injection hp2 with hp2
   rw[hp2,hname,show(k+1).toNat=k.toNat+1 by omega]
   exact zww (hgd x hx hsx) hi
theorem zER(s:List UInt8)(c:UInt8):(Lib.cut s [c]).1.length<=s.length:=by
 unfold Lib.cut
 split
 ·simp only[List.length_take];omega
 ·exact Nat.le_refl _
def zHz(x:ByteArray):List UInt8×List UInt8×Bool:=Lib.cut x.data.toList [61]
def zOf(x:ByteArray):Lb:=⟨ofL (zHz x).1,ofL (zHz x).2.1⟩
def zav(c:UInt8)(s:ByteArray):List ByteArray:=Lib.splitB (one c) 0 (Lib.countB s (one c)) s
theorem zkF(c:UInt8)(s:ByteArray):(zav c s).length=Lib.countB s (one c)+1:=zfg _ s rfl
theorem ziV{c:UInt8}{s:ByteArray}{i:Nat}{q:ByteArray}(h:(zav c s)[i]?=some q):q.size+i<=s.size:=zcR _ s i q h
def zHD(s:ByteArray):Option (List Lb):=if s=⟨#[45]⟩ then some [] else if (zav 44 s).all (fun x=>(zHz x).2.2) then some ((zav 44 s).map zOf) else none
theorem zJd(s:ByteArray)(hs:s.size<4294967281)(w:World)(g:GB w):FnP Tryz.prog zif #[.string s] w fun v w'=>Ext w w'/\∃(p:Option Addr) (n c:Nat) (ev:Value),v=.tuple #[.slice p n c,ev] /\
  ((zHD s=none/\EV ev 3)\/(∃l,zHD s=some l/\EV ev 0/\n=l.length/\Own w.heap.size w' zls 2 p n c (l.flatMap zqu)/\l.length<=4294967281/\∀x∈l,x.key.size<=4294967281/\x.val.size<=4294967281)):=by
 refine zss s w _ ⟨fun h w0 h0=>⟨h0,none,0,0,_,rfl,.inr ⟨[],by unfold zHD;rw[if_pos h],ev0,rfl,Own.nil,by simp,by simp⟩⟩,fun hne w0 h0=>?_⟩
 refine(zfu 44 s hs w0 (g.ext h0)).mono fun v w1 ⟨e1,hv,hc1,hlt1⟩=>⟨e1,_,_,_,hv,?_⟩
 have hlen:=zkF 44 s
 have hsz:=fun i q=>@ziV 44 s i q
 have hF:zHD s=if (zav 44 s).all (fun x=>(zHz x).2.2) then some ((zav 44 s).map zOf) else none:=by unfold zHD;rw[if_neg hne]
 rw[hF]
 change zaw w1 _ ((zav 44 s).map Value.string) at hc1
 have hcnt:Lib.countB s (one 44)+1=(zav 44 s).length:=hlen.symm
 rw[hcnt]
 have spn:(some (⟨w0.heap.size,0,none⟩:Addr))≠none:=by simp
 generalize (some (⟨w0.heap.size,0,none⟩:Addr))=sp at hc1 spn ⊢
 have hlen2:(zav 44 s).length<=4294967281:=by
  obtain⟨q,hq⟩:∃q,(zav 44 s)[(zav 44 s).length-1]?=some q:=⟨_,List.getElem?_eq_getElem (by omega)⟩
  have:=hsz _ _ hq
  omega
 generalize zav 44 s=S at hc1 hsz hlen2 ⊢
 have x1:=h0.trans e1
 have cb:∀x:ByteArray,(ofL (zHz x).1).size<=x.size/\(ofL (zHz x).2.1).size<=x.size:=fun x=>by
  have h1:=ziz x.data.toList 61
  have h2:=zER x.data.toList 61
  rw[zf8] at h1 h2
  exact⟨by rw[zai];exact h2,by rw[zai];exact h1⟩
 refine⟨fun p n c k w'=>Ext w1 w'/\0<=k/\k<=S.length/\n=k/\Own w1.heap.size w' zls 2 p n c (((S.take k.toNat).map zOf).flatMap zqu)/\∀x∈S.take k.toNat,(zHz x).2.2=true,fun _ _ _ k _=>(S.length-k).toNat,⟨Ext.refl _,by omega,by omega,by simp,Own.nil,by simp⟩,?_⟩
 rintro p n c k w8 ⟨x8,hk0,hk1,hnk,o8,hall⟩
 refine⟨fun hlt=>?_,fun hge w9 h9=>?_⟩
 ·obtain⟨q,hq⟩:∃q,S[k.toNat]?=some q:=⟨_,List.getElem?_eq_getElem (by omega)⟩
  have hqs:=hsz _ _ hq
  have hcell:Go.Sx.cell w8 (pIdx sp k 1) 0=some (.string q):=by
   rw[zae]
   refine(hc1.ext x8) _ _ ?_
   simp[hq]
  refine⟨spn,hk0,hlt,_,hcell,fun w10 h10=>(zyF 61 q (by omega) w10 ((g.ext (x1.trans x8)).ext h10)).mono fun v w11 ⟨e11,hv⟩=>⟨e11,_,_,_,hv,fun hf w15 h15=>?_,fun ht=>?_⟩⟩
  ·refine zwX ⟨Ext.refl _,_,rfl,rfl,fun w18 h18=>zDc ⟨Ext.refl _,_,rfl,fun w21 h21=>⟨(((x1.trans x8).trans h15).trans h18).trans h21,none,0,0,_,rfl,.inl ⟨?_,zCW (by decide)⟩⟩⟩⟩
   rw[if_neg]
   intro h
   have:=List.all_eq_true.1 h q (List.mem_of_getElem? hq)
   unfold zHz at this
   rw[hf] at this;cases this
  ·refine push (v:=.agg #[.string (zOf q).key,.string (zOf q).val]) ziA (by omega) o8 x8.size rfl (by intro u hu;simp[Value.cells] at hu;rcases hu with rfl|rfl<;>rfl) (by omega) (by omega) (by omega) fun p' c' w' o' g' np=>⟨i64 (by omega),⟨g'.ext x8 o8,by omega,by omega,by omega,?_,?_⟩,by simp only[];omega⟩
   ·rw[show(k+1).toNat=k.toNat+1 by omega,List.take_add_one,hq]
    simpa[Value.cells] using o'
   ·rw[show(k+1).toNat=k.toNat+1 by omega,List.take_add_one,hq]
    intro x hx
    rcases List.mem_append.1 hx with hx|hx
    ·exact hall x hx
    ·simp at hx;subst hx;exact ht
 ·have hk:k=S.length:=by omega
  subst hk
  have htake:S.take ((S.length:Int)).toNat=S:=by simp
  rw[htake] at o8 hall
  have hx9:=(x1.trans x8).trans h9
  refine⟨hx9,p,n,c,_,rfl,.inr ⟨S.map zOf,?_,ev0,by simp;omega,(o8.ext h9).weak (by have:=x1.size;omega),by simpa using hlen2,fun x hx=>?_⟩⟩
  ·rw[if_pos (List.all_eq_true.2 fun x hx=>hall x hx)]
  ·obtain⟨y,hy,rfl⟩:=List.mem_map.1 hx
   obtain⟨i,hi⟩:=List.mem_iff_getElem?.1 hy
   have:=hsz i y hi
   have:=cb y
   show(ofL (zHz y).1).size<=_/\(ofL (zHz y).2.1).size<=_
   omega
theorem zAR{B:Nat}{w:World}{p q:Option Addr}{n c d b7:Nat}{xs:List Value}{m:Hm}(o:Own B w ze7 8 p n c xs)(hB:B<=w.heap.size)(hl:zaw w q (zky m))(hq:q≠none)(hb7:b7<w.heap.size)(hns:∀x,p=some x->x.block≠b7)(hn:n<=1000)
  {J:Option Addr->Nat->Nat->World->Prop} (hk:∀p' c' w',Own B w' ze7 8 p' (n+1) c' (xs++zky m)->zcr w w' p p'->J p' (n+1) c' w') :
  Run Tryz.prog (.append #[34,34] 34 [.slice p n c,.slice q 1 d]) w fun v w'=>zbY [b7] w w'/\∃q':Option Addr,∃m':Nat,∃d':Nat,v=.slice q' m' d'/\J q' m' d' w' :=
 zon zgV (by omega) o hB hq (news:=zky m) (by simp) hl (zBa m) (by omega) (by omega) fun p' c' w4 h2 h3 h4=>⟨fun b hb=>by
  simp at hb;subst hb
  refine h3.by_.block b hb7 fun he=>?_
  cases p with
  |none => cases he
  |some y => simp[blk] at he;exact hns y rfl he.symm,_,_,_,rfl,hk p' c' w4 h2 h3⟩
def zpO(name:ByteArray)(l:List Lb)(nd:Nd):Ht:=⟨name,l,nd,zbh⟩
def zzl(name w2 w3:ByteArray)(σ:DS)(c:Int)(s:ByteArray)(σ':DS):Prop:=∃nd e,zDl w2 nd e/\((e≠0/\c=e/\σ'=σ)\/(e=0/\match zHD w3 with
 |none => c=3/\σ'=σ
 |some l => match σ with
  |.opn _ => c=9/\σ'=σ
  |.shut L => c=zmx (L++[zpO name l nd])/\((c≠0/\σ'=σ)\/(c=0/\s=⟨#[111,107]⟩/\σ'=.shut (L++[zpO name l nd])))))
section
variable {O:Nat->Prop} {B db:Nat} {w:World} {K:Kt}
theorem host_c(x:KX O B w db K)(g:GD w)(hBw:B<=w.heap.size)(wp:Option Addr)(wc:Nat)(ws:List ByteArray)(h4:ws.length=4)
  (hsz:∀x∈ws,x.size<4294967281) (hw:zaw w wp (ws.map Value.string)) :
  FnP Tryz.prog zfn #[.pointer (ptr db),.slice wp ws.length wc] w (CR O B db w K fun s c σ'=>zzl (ws.getD 1 ⟨#[]⟩) (ws.getD 2 ⟨#[]⟩) (ws.getD 3 ⟨#[]⟩) K.st c s σ'):=by
 have ne:=zaO db
 obtain⟨s0,s1,s2,s3,rfl⟩:∃a b c d,ws=[a,b,c,d]:=by
  match ws,h4 with
  |[a,b,c,d],_ => exact⟨a,b,c,d,rfl⟩
 have cell_:∀{w':World}(i:Nat)(q:ByteArray),Ext w w'->([s0,s1,s2,s3]:List ByteArray)[i]?=some q->Go.Sx.cell w' (pIdx wp (i:Int) 1) 0=some (.string q):=fun {w'} i q hx hq=>by
  rw[zae]
  have:=hw.ext hx i (.string q) (by rw[List.getElem?_map,hq];rfl)
  simpa using this
 have np:wp≠none:=fun h=>zal (cell_ 1 s1 (Ext.refl w) rfl) (zah.2 h)
 have z1:=hsz s1 (by simp)
 have z2:=hsz s2 (by simp)
 have z3:=hsz s3 (by simp)
 show FnP Tryz.prog zfn #[.pointer (ptr db),.slice wp 4 wc] w (CR O B db w K fun s c σ'=>zzl s1 s2 s3 K.st c s σ')
 refine zn6 (ptr db) wp 4 wc w _ ⟨np,by omega,by omega,_,cell_ 2 s2 (Ext.refl w) rfl,fun w1 x1=>(zJj s2 z2 w1 (g.gb.ext x1)).mono fun v w2 ⟨e2,nd,e,hv,hrd⟩=>⟨e2,nd.c,nd.m,nd.g,e,hv,fun b7 hb7=>⟨fun hne w8 x8=>zwX ⟨Ext.refl _,_,rfl,rfl,fun w11 x11=>zDc ⟨Ext.refl _,_,rfl,fun w14 h14=>?_⟩⟩,fun hz=>⟨np,by omega,by omega,_,cell_ 3 s3 (Ext.refl w) rfl,fun w9 x9=>?_⟩⟩⟩⟩
 ·exact zcW x (((zaa x8).trans (zaa x11)).trans h14) (zCW hne) ⟨nd,e,hrd,.inl ⟨hne,rfl,rfl⟩⟩
 have h9:=zaa x9
 have hb9:=x9.lt b7 (by simp)
 refine(zJd s3 z3 w9 (g.gb.ext h9)).mono fun v w10 ⟨e10,lp,ln,lc,ev,hv,hor⟩=>⟨e10,lp,ln,lc,ev,hv,fun w15 h15=>?_⟩
 have h10:=h9.trans e10
 rcases hor with⟨hno,hE⟩|⟨l,hl,hE,rfl,oL,hll,hls⟩
 ·refine neE hE fun b hb=>⟨Ext.refl _,b,rfl,fun hbt w18 h18=>?_,fun hbf=>absurd (hb.1 hbf) (by decide)⟩
  exact zcW x (h10.trans h18) hE ⟨nd,e,hrd,.inr ⟨hz,by rw[hno];exact⟨rfl,rfl⟩⟩⟩
 refine neE hE fun b hb=>⟨Ext.refl _,b,rfl,fun hbt=>absurd (hb.2 rfl) (by rw[hbt];decide),fun _=>⟨ne,ne,?_⟩⟩
 have y10:=x.ext h10
 rcases K.cases with hK|⟨fb,P,F,hK⟩
 rotate_left
 ·refine⟨_,y10.fbp hK,fun _ w19 x19=>zwX ⟨Ext.refl _,_,rfl,fun w22 h22=>?_⟩,fun h=>absurd h (zaO fb)⟩
  refine zcW x ((h10.trans (zaa x19)).trans h22) (zIJ (c:=9) (by decide)) ⟨nd,e,hrd,.inr ⟨hz,?_⟩⟩
  rw[hl,Kt.st_opn hK]
  exact⟨rfl,rfl⟩
 obtain⟨hn,⟨M,hM,hst⟩,hok,hO⟩:=x.shut hK
 have h30:=hok.1
 have hMl:M.length=K.L.length:=by rw[<-hM];simp
 refine⟨none,y10.nofp hK,fun h=>absurd rfl h,fun _=>?_⟩
 have hm:zky ⟨zpO s1 l nd,lp,lc⟩=[.string s1,.slice lp l.length lc,.int .i64 nd.c,.int .i64 nd.m,.int .i64 nd.g,.int .i64 0,.int .i64 0,.int .i64 0]:=rfl
 generalize hmm:(⟨zpO s1 l nd,lp,lc⟩:Hm)=m at hm
 have hmv:(Value.agg #[.string s1,.slice lp l.length lc,.int .i64 nd.c,.int .i64 nd.m,.int .i64 nd.g,.int .i64 0,.int .i64 0,.int .i64 0]).cells.toList=zky m:=by rw[hm];rfl
 have lit:∀{w26:World}{R:Value->World->Prop},(∀q w27,q≠none->zaw w27 q (zky m)->Ext w26 w27->R (.slice q 1 1) w27)->Run Tryz.prog (.buildSlice 34 1 [(0,(.agg #[.string s1,.slice lp l.length lc,.int .i64 nd.c,.int .i64 nd.m,.int .i64 nd.g,.int .i64 0,.int .i64 0,.int .i64 0]))]) w26 R:=fun {w26 R} h =>
  zce zgV [.agg #[.string s1,.slice lp l.length lc,.int .i64 nd.c,.int .i64 nd.m,.int .i64 nd.g,.int .i64 0,.int .i64 0,.int .i64 0]] rfl rfl (fun u hu=>by simp at hu;subst hu;rfl) (by omega) (by omega) fun w27 o27 e27=>h _ w27 (by simp) (by
   have:=(o27 w26.heap.size (Nat.le_refl _)).cells
   simp only[List.flatMap_cons,List.flatMap_nil,List.append_nil,hmv] at this
   exact this) e27
 have rec_:∀{w':World},Ext w w'->zhC 8 zky w' K.hp M:=fun e=>(hst _ (zac e)).1
 have clone:∀{w26:World},Ext w w26->FnP Tryz.prog zam #[.slice K.hp K.hn K.hc] w26 fun v w'=>Ext w26 w'/\∃q' c',v=.slice q' M.length c'/\Own w26.heap.size w' ze7 8 q' M.length c' (M.flatMap zky):=fun e=>by
  rw[hn,<-hMl]
  exact zt4 K.hp K.hc M (by omega) _ (rec_ e)
 have c10:Go.Sx.cell w10 (pAdd (ptr db) 0) 0=some (.slice K.hp K.hn K.hc):=y10.cell (i:=0) rfl
 refine⟨fun all n c w21=>Ext w10 w21/\n=M.length+1/\Own w10.heap.size w21 ze7 8 all n c (M.flatMap zky++zky m),⟨ne,ne,_,_,_,c10,np,by omega,by omega,_,cell_ 1 s1 h10 rfl,fun w26 x26=>?_,fun w26 x26=>?_⟩,?_⟩
 ·have h26:=zaa x26
  have hb26:=x26.lt b7 (by simp)
  refine(clone (h10.trans h26)).mono fun v w27 ⟨e27,q',c',hv,o27⟩=>⟨e27,q',M.length,c',hv,fun w31 x31=>lit fun q w32 hq hcq e32=>⟨e32,q,1,1,rfl,fun w36 x36=>?_⟩⟩
  have h36:=(((h26.trans e27).trans (zaa x31)).trans e32).trans (zaa x36)
  have o36:=(((o27.ext (zaa x31)).ext e32).ext (zaa x36)).weak h26.size
  refine zAR o36 h36.size (hcq.ext (zaa x36)) hq (x36.lt b7 (by simp)) (fun a ha he=>?_) (by omega) fun p' c'' w' o' g'=>⟨g'.ext h36 o36,rfl,o'⟩
  have:=(o27.lt a ha).1
  omega
 ·have h26:=zaa x26
  have hb26:=x26.lt b7 (by simp)
  refine lit fun q w27 hq hcq e27=>⟨e27,q,1,1,rfl,fun w31 x31=>?_⟩
  have h31:=(h26.trans e27).trans (zaa x31)
  refine(clone (h10.trans h31)).mono fun v w32 ⟨e32,q',c',hv,o32⟩=>⟨e32,q',M.length,c',hv,fun w36 x36=>?_⟩
  have h36:=(h31.trans e32).trans (zaa x36)
  have o36:=(o32.ext (zaa x36)).weak h31.size
  refine zAR o36 h36.size (((hcq.ext (zaa x31)).ext e32).ext (zaa x36)) hq (x36.lt b7 (by simp)) (fun a ha he=>?_) (by omega) fun p' c'' w' o' g'=>⟨g'.ext h36 o36,rfl,o'⟩
  have:=(o32.lt a ha).1
  have:=x31.lt b7 (by simp)
  omega
 rintro all n c w21 ⟨x21,rfl,oA⟩ w22 h22
 have h21:=h10.trans x21
 have hflat:M.flatMap zky++zky m=(M++[m]).flatMap zky:=by simp
 rw[hflat] at oA
 have hL':(M++[m]).map (·.h)=K.L++[zpO s1 l nd]:=by rw[List.map_append,hM,<-hmm];rfl
 have hAl:∀a,all=some a->w10.heap.size<=a.block:=fun a ha=>(oA.lt a ha).1
 have hdb:db<w.heap.size:=(x.slot.lt _ rfl).2
 have keep:∀{w1 w2:World}{S:Nat->Prop},Ext w21 w1->Fr S w1 w2->(∀b,S b->dO O db b)->zhC 8 zky w2 all (M++[m])/\∀m'∈M++[m],Lbs w2 m'.q m'.h.labels:=fun {w1 w2 S} e1 f hS=>by
  have hSlt:∀b,S b->b<w.heap.size:=fun b hb=>by
   rcases hS b hb with h|h
   ·exact x.olt b h
   ·rw[h];exact hdb
  refine⟨((oA.ext e1).fr f fun a ha hs=>?_).recs fun _ _=>rfl,fun m' hm'=>?_⟩
  ·have:=hAl a ha;have:=hSlt _ hs;have:=h10.size;omega
  ·rcases List.mem_append.1 hm' with hm'|hm'
   ·exact(hst w2 ((zac (h21.trans e1)).tr (f.mono hS))).2 m' hm'
   ·simp at hm';subst hm'
    rw[<-hmm]
    refine(((oL.ext x21).ext e1).fr f fun a ha hs=>?_).recs fun _ _=>rfl
    have:=(oL.lt a ha).1;have:=hSlt _ hs;have:=h9.size;omega
 have hsH:zkO w22 all (K.L++[zpO s1 l nd]):=by
  rw[<-hL']
  obtain⟨q1,q2⟩:=keep h22 (Fr.refl (fun _=>False) w22) (fun _ h=>h.elim)
  exact hs_of q1 q2
 have hlen':M.length+1=(K.L++[zpO s1 l nd]).length:=by simp[hMl]
 have hOk':∀h∈K.L++[zpO s1 l nd],zyv h/\h.used=zbh:=fun h hh=>by
  rcases List.mem_append.1 hh with hh|hh
  ·exact hO h hh
  ·simp at hh;subst hh
   refine⟨⟨by show s1.size<=_;omega,by show l.length<=_;omega,fun y hy=>?_⟩,rfl⟩
   have:=hls y hy
   omega
 rw[hlen']
 refine(zwx all c (K.L++[zpO s1 l nd]) (by rw[<-hlen'];omega) (fun h hh=>(hOk' h hh).1) w22 hsH).mono fun v w23 ⟨e23,hv⟩=>⟨e23,_,hv,fun hne w25 x25=>zwX ⟨Ext.refl _,_,rfl,fun w28 h28=>?_⟩,fun hz2=>⟨ne,ne,?_⟩⟩
 ·refine zcW x ((h21.trans (zaa x25)).trans h28) (zIJ hne) ⟨nd,e,hrd,.inr ⟨hz,?_⟩⟩
  rw[hl,Kt.st_shut hK]
  exact⟨rfl,.inl ⟨hne,rfl⟩⟩
 have y21:=x.ext h21
 refine zbF (off:=0) y21.slot (by simp) rfl (fun b hb y hy=>by simp at hb;subst hb;cases hy;show db≠b;omega) fun w25 o25 g25 w26 h26=>?_
 have f25:Fr (fun b=>b=db) w21 w25:=zaT g25 fun a ha=>by cases ha;rfl
 refine⟨_,_,0,⟨all,(K.L++[zpO s1 l nd]).length,c,K.L++[zpO s1 l nd],none⟩,rfl,ev0,⟨?_,fun _=>⟨rfl,⟨M++[m],hL',fun w'' k=>?_⟩,zBf.1 hz2,hOk'⟩,fun fb P F e=>(by cases e),fun b hb=>?_,x.odis⟩,?_,fun b hb=>?_,⟨nd,e,hrd,.inr ⟨hz,?_⟩⟩⟩
 ·have:dcs ⟨all,(K.L++[zpO s1 l nd]).length,c,K.L++[zpO s1 l nd],none⟩=(dcs K).set 0 (.slice all (K.L++[zpO s1 l nd]).length c):=by simp[dcs,Kt.fp,hK]
  rw[this];exact o25.ext h26
 ·exact keep (Ext.refl _) ((f25.mono fun b hb=>.inr hb).tr ((zac h26).tr k)) (fun b hb=>hb)
 ·have:=x.olt b hb;have:=h21.size;have:=f25.size;have:=h26.size;omega
 ·exact((zac h21).tr (f25.mono fun b hb=>.inl hb)).tr (zac h26)
 ·rcases hb with rfl|⟨fb',P1,F1,e,h⟩
  ·exact .inl (.inl rfl)
  ·cases e
 ·rw[hl,Kt.st_shut hK]
  exact⟨hz2.symm,.inr ⟨rfl,rfl,rfl⟩⟩
end
def sig:Nat->Nat×Bool
 |3 => (4,false)
 |7 => (1,false)
 |11 => (7,false)
 |15 => (6,true)
 |22 => (2,false)
 |26 => (1,true)
 |33 => (2,false)
 |40 => (2,false)
 |47 => (2,false)
 |51 => (2,false)
 |_ => (2,true)
theorem pv_cmd{db pb:Addr}{v:Value}{w:World}:∀x∈KL,PV db pb x.2.2 v w->∃f bd cap,v=.agg #[.int .i64 (sig x.2.2).1,.bool (sig x.2.2).2,.func f bd cap]:=by
 intro x hx
 simp only[KL,List.mem_cons,List.not_mem_nil,or_false] at hx
 rcases hx with rfl|rfl|rfl|rfl|rfl|rfl|rfl|rfl|rfl|rfl|rfl <;>
  (rintro⟨f,bd,cap,e,_⟩;exact⟨f,bd,cap,e⟩)
def ziy(k:ByteArray):Option Nat:=(KL.find? (fun x=>decide (x.1=k))).map (·.2.2)
def zvU(db:Nat)(w:World)(k:ByteArray)(t0:Int)(t1:Bool)(t2:Value)(ok:Bool):Prop :=
 (ok=false/\ziy k=none)\/(ok=true/\∃(pb:Addr) (b:Nat),ziy k=some b/\w.cell? pb=some (.pointer (ptr db))/\PV ⟨db,0,none⟩ pb b (.agg #[.int .i64 t0,.bool t1,t2]) w/\t0=(sig b).1/\t1=(sig b).2/\t2.oneCell'=true)
theorem zvU.ext{db:Nat}{w w':World}{k:ByteArray}{t0:Int}{t1:Bool}{t2:Value}{ok:Bool}(h:zvU db w k t0 t1 t2 ok)(e:Ext w w'):zvU db w' k t0 t1 t2 ok:=by
 rcases h with h|⟨h1,pb,b,h2,h3,h4,h5⟩
 ·exact .inl h
 ·exact .inr ⟨h1,pb,b,h2,(Cst.of_ext e).cell h3,zk5 _ _ _ _ _ _ (Cst.of_ext e) h4,h5⟩
def zEh(db:Nat)(w:World)(v:Value):Prop:=∃pb mb M,v=.map (some mb)/\w.cell? pb=some (.pointer (ptr db))/\zcU Value.string w mb M/\∀k,Tab ⟨db,0,none⟩ pb w k (ziK M k)
theorem zEh.ext{db:Nat}{w w':World}{v:Value}(h:zEh db w v)(e:Ext w w'):zEh db w' v:=by
 obtain⟨pb,mb,M,h1,h2,h3,h4⟩:=h
 refine⟨pb,mb,M,h1,(Cst.of_ext e).cell h2,h3.ext e,fun k=>?_⟩
 have:=h4 k
 unfold Tab at this ⊢
 split at this
 ·obtain⟨v,q1,q2⟩:=this
  exact⟨v,q1,zk5 _ _ _ _ _ _ (Cst.of_ext e) q2⟩
 ·exact this
theorem zNX:(Tryz.prog.info? 252).map (·.zero)=some (some (.agg #[.int .i64 0,.bool false,.nilFunc])):=by kernel_rfl
theorem zqU{db:Nat}{w:World}{v:Value}(h:zEh db w v)(k:ByteArray){K:Value->World->Prop}
  (hk:∀t0 t1 t2 ok,zvU db w k t0 t1 t2 ok->t2.oneCell'=true->K (.tuple #[.agg #[.int .i64 t0,.bool t1,t2],.bool ok]) w):Run Tryz.prog (.lookup 254 v (.string k) true) w K:=by
 obtain⟨pb,mb,M,rfl,h2,h3,h4⟩:=h
 obtain⟨i,hi,hz⟩:∃i,Tryz.prog.info? 252=some i/\i.zero=some (.agg #[.int .i64 0,.bool false,.nilFunc]):=by
  obtain⟨i,h1,h2⟩:=Option.map_eq_some_iff.1 zNX
  exact⟨i,h1,h2⟩
 refine zkI (enc:=Value.string) kstr zLk hi hz h3 ?_
 have ht:=h4 k
 unfold Tab at ht
 split at ht
 ·rename_i y j b he
  obtain⟨u,hu,hpv⟩:=ht
  rw[hu]
  obtain⟨f,bd,cap,rfl⟩:=pv_cmd _ (List.mem_of_find?_eq_some he) hpv
  exact hk _ _ _ true (.inr ⟨rfl,pb,b,by unfold ziy;rw[he];rfl,h2,hpv,rfl,rfl,rfl⟩) rfl
 ·rename_i he
  rw[ht]
  exact hk 0 false .nilFunc false (.inl ⟨rfl,by unfold ziy;rw[he];rfl⟩) rfl
def DS.isShut:DS->Bool
 |.shut _ => true
 |.opn _ => false
def doW(R:Nat->List ByteArray->DS->Int->ByteArray->DS->Prop)(ws:List ByteArray)(σ:DS)(c:Int)(s:ByteArray)(σ':DS):Prop :=
 match ziy (ws.getD 0 ⟨#[]⟩) with
 |none => c=1/\σ'=σ
 |some b => if ws.length≠(sig b).1 then c=3/\σ'=σ else if (sig b).2=true/\σ.isShut=true then c=9/\σ'=σ else R b ws σ c s σ'
section
variable {O:Nat->Prop} {B db:Nat} {w:World} {K:Kt}
theorem do_k(R:Nat->List ByteArray->DS->Int->ByteArray->DS->Prop)(x:KX O B w db K)(g:GD w)(line:ByteArray)(hs:line.size<4294967281)
  (hcall:∀(w1:World)(pb wp:Addr)(b:Nat)(wc:Nat)(t2:Value),Ext w w1->ziy ((zav 32 line).getD 0 ⟨#[]⟩)=some b->w1.cell? pb=some (.pointer (ptr db))->PV ⟨db,0,none⟩ pb b (.agg #[.int .i64 (sig b).1,.bool (sig b).2,t2]) w1 ->
   (zav 32 line).length=(sig b).1->(zav 32 line).length<=wc->((sig b).2=true->K.st.isShut=false)->zaw w1 (some wp) ((zav 32 line).map Value.string)->(∀x∈zav 32 line,x.size<4294967281) ->
   zLr Tryz.prog t2 [.slice (some wp) (zav 32 line).length wc] w1 (CR O B db w1 K fun s c σ'=>R b (zav 32 line) K.st c s σ')) :
  FnP Tryz.prog zg9 #[.pointer (ptr db),.string line] w (CR O B db w K fun s c σ'=>doW R (zav 32 line) K.st c s σ'):=by
 have ne:=zaO db
 refine zq7 (ptr db) line w _ fun w0 x0=>(zfu 32 line hs w0 (g.gb.ext x0)).mono fun v w1 ⟨e1,hv,hc1,hlt1⟩=>⟨e1,_,_,_,hv,?_⟩
 have hlen:Lib.countB line (one 32)+1=(zav 32 line).length:=(zkF 32 line).symm
 have hszs:∀y∈zav 32 line,y.size<4294967281:=fun y hy=>by
  obtain⟨i,hi⟩:=List.mem_iff_getElem?.1 hy
  have:=ziV hi
  omega
 change zaw w1 _ ((zav 32 line).map Value.string) at hc1
 have h0:0<(zav 32 line).length:=by omega
 rw[hlen]
 generalize zav 32 line=ws at hc1 hszs hcall h0 ⊢
 have x1:=x0.trans e1
 generalize hsp:(⟨w0.heap.size,0,none⟩:Addr)=sp at hc1
 have cw:∀{w':World},Ext w1 w'->Go.Sx.cell w' (pIdx (some sp) 0 1) 0=some (.string (ws.getD 0 ⟨#[]⟩)):=fun e=>by
  rw[zae]
  refine(hc1.ext e) 0 _ ?_
  rw[List.getElem?_map,getElem?_getD ws ⟨#[]⟩ h0];rfl
 have tab:∀{w9:World},FnP Tryz.prog zbd #[.pointer (ptr db)] w9 fun v w'=>Ext w9 w'/\zEh db w' v:=fun {w9}=>(zCO ⟨db,0,none⟩ w9).mono fun v w' ⟨h1,pb,mb,M,h2,h3,h4,h5⟩=>⟨h1,pb,mb,M,h2,h3,h4,h5⟩
 have zw9:∀v∈[Value.int .i64 0,.bool false,.nilFunc],v.oneCell'=true:=by intro v hv;simp at hv;rcases hv with rfl|rfl|rfl<;>rfl
 let J:Option Addr->Bool->World->Prop:=fun p ok w'=>Ext w1 w'/\∃t0 t1 t2,zvU db w' (ws.getD 0 ⟨#[]⟩) t0 t1 t2 ok/\Go.Sx.cell w' (pAdd p 0) 0=some (.int .i64 t0)/\Go.Sx.cell w' (pAdd p 1) 0=some (.bool t1)/\Go.Sx.cell w' (pAdd p 2) 0=some t2/\p≠none
 have put:∀{w13 w14 w20:World}{p:Option Addr}{t0:Int}{t1:Bool}{t2:Value}{ok:Bool},Ext w1 w13->zCy w13 252 [.int .i64 0,.bool false,.nilFunc] p w14->Ext w14 w20->zvU db w20 (ws.getD 0 ⟨#[]⟩) t0 t1 t2 ok->t2.oneCell'=true ->
   zak w20 p [.int .i64 t0,.bool t1,t2] [] (J p ok):=fun {w13 w14 w20 p t0 t1 t2 ok} hx hn e hf h1=>by
  have o14:Own w13.heap.size w14 252 3 p 1 1 [.int .i64 0,.bool false,.nilFunc]:=by
   rw[hn.at_]
   exact⟨by simp,.inr ⟨w13.heap.size,1,_,rfl,Nat.le_refl _,hn.block,Nat.le_refl _,by simp[maxLen],by simp,by simp⟩⟩
  have hblk:w20.heap[w13.heap.size]?=some (.cells #[.int .i64 0,.bool false,.nilFunc] 252):=by
   rw[e.block _ (by rw[hn.size];omega)];exact hn.block
  have hp:p≠none:=by rw[hn.at_];simp
  refine zaU (off:=0) (o14.ext e) (zeZ p) (by simp) (by simp) (by intro u hu;simp at hu;rcases hu with rfl|rfl|rfl<;>first|rfl|exact h1) (by simp) fun w21 o21 g21=>?_
  have e20:Ext w13 w20:=hn.ext.trans e
  have e21:Ext w13 w21:=g21.ext e20 (o14.ext e)
  have hcel:zNZ w20 w21:=fun q v hv hc=>by
   have hq:q.block≠w13.heap.size:=fun hq=>by
    unfold World.cell? at hc
    rw[hq,hblk] at hc
    simp only at hc
    split at hc
    ·cases hc
    ·have hm:=Array.mem_of_getElem? hc
     simp at hm
     rcases hm with rfl|rfl|rfl<;>exact hv
   have hlt:q.block<w20.heap.size:=by
    rcases Nat.lt_or_ge q.block w20.heap.size with h|h
    ·exact h
    ·unfold World.cell? at hc
     rw[Array.getElem?_eq_none h] at hc;cases hc
   rw[<-hc]
   exact World.cell?_of_block (w:=w20) (g21.by_.block q.block hlt (by rw[hn.at_];simp[blk];exact hq))
  have hcs:=o21.cells
  refine⟨hx.trans e21,t0,t1,t2,?_,?_,?_,?_,hp⟩
  ·rcases hf with h|⟨h1,pb,b,h2,h3,h4,h5⟩
   ·exact .inl h
   ·exact .inr ⟨h1,pb,b,h2,hcel _ _ trivial h3,zKo _ _ _ _ _ _ hcel h4,h5⟩
  ·rw[zaq];exact hcs 0 _ rfl
  ·rw[zaq];exact hcs 1 _ rfl
  ·rw[zaq];exact hcs 2 _ rfl
 have new:∀{w13:World}{T:Option Addr->World->Prop},(∀p w14,zCy w13 252 [.int .i64 0,.bool false,.nilFunc] p w14->T p w14)->New w13 252 [.int .i64 0,.bool false,.nilFunc] T:=fun h=>⟨zw9,h⟩
 refine⟨J,⟨by simp,by omega,by omega,fun w9 x9=>tab.mono fun v w10 ⟨e10,hT⟩=>⟨e10,v,rfl,_,cw (x9.trans e10),fun w13 x13=>?_,fun w13 x13=>?_⟩,⟨_,cw (Ext.refl _),fun w10 x10=>tab.mono fun v w11 ⟨e11,hT⟩=>⟨e11,v,rfl,fun w13 x13=>?_,fun w13 x13=>?_⟩,fun w10 x10=>?_⟩,fun w9 x9=>?_⟩,?_⟩
 ·exact zqU (hT.ext x13) _ fun t0 t1 t2 ok hf h1=>⟨Ext.refl _,t0,t1,t2,ok,rfl,fun w19 x19=>new fun p w20 hn=>put (((x9.trans e10).trans x13).trans x19) hn (Ext.refl _) (hf.ext (x19.trans hn.ext)) h1⟩
 ·exact new fun p w14 hn w15 x15=>zqU (hT.ext ((x13.trans hn.ext).trans x15)) _ fun t0 t1 t2 ok hf h1=>⟨Ext.refl _,t0,t1,t2,ok,rfl,put ((x9.trans e10).trans x13) hn x15 hf h1⟩
 ·exact zqU (hT.ext x13) _ fun t0 t1 t2 ok hf h1=>⟨Ext.refl _,t0,t1,t2,ok,rfl,fun w19 x19=>new fun p w20 hn=>put (((x10.trans e11).trans x13).trans x19) hn (Ext.refl _) (hf.ext (x19.trans hn.ext)) h1⟩
 ·exact new fun p w14 hn w15 x15=>zqU (hT.ext ((x13.trans hn.ext).trans x15)) _ fun t0 t1 t2 ok hf h1=>⟨Ext.refl _,t0,t1,t2,ok,rfl,put ((x10.trans e11).trans x13) hn x15 hf h1⟩
 ·exact new fun p w11 hn w12 x12=>tab.mono fun v w13 ⟨e13,hT⟩=>⟨e13,v,rfl,fun w15 x15=>zqU (hT.ext x15) _ fun t0 t1 t2 ok hf h1=>⟨Ext.refl _,t0,t1,t2,ok,rfl,put x10 hn ((x12.trans e13).trans x15) hf h1⟩⟩
 ·refine new fun p w10 hn=>⟨fun w11 x11=>tab.mono fun v w12 ⟨e12,hT⟩=>⟨e12,v,rfl,_,cw ((((x9.trans hn.ext).trans x11).trans e12)),fun w15 x15=>zqU (hT.ext x15) _ fun t0 t1 t2 ok hf h1=>⟨Ext.refl _,t0,t1,t2,ok,rfl,put x9 hn ((x11.trans e12).trans x15) hf h1⟩⟩,_,cw (x9.trans hn.ext),fun w12 x12=>tab.mono fun v w13 ⟨e13,hT⟩=>⟨e13,v,rfl,fun w15 x15=>zqU (hT.ext x15) _ fun t0 t1 t2 ok hf h1=>⟨Ext.refl _,t0,t1,t2,ok,rfl,put x9 hn ((x12.trans e13).trans x15) hf h1⟩⟩⟩
 rintro p ok w8 ⟨x8,t0,t1,t2,hf,c0,c1,c2,hp⟩
 have h8:=x1.trans x8
 refine⟨fun hok w9 x9=>zwX ⟨Ext.refl _,_,rfl,fun w12 h12=>zcW x ((h8.trans x9).trans h12) (zIJ (c:=1) (by decide)) ?_⟩,fun hok=>⟨hp,_,c0,?_⟩⟩
 ·rcases hf with⟨_,h⟩|⟨h,_⟩
  ·unfold doW;rw[h];exact⟨rfl,rfl⟩
  ·rw[hok] at h;cases h
 rcases hf with⟨h,_⟩|⟨_,pb,b,hcm,hpb,hpv,rfl,rfl,_⟩
 ·rw[hok] at h;cases h
 refine⟨fun hne w10 x10=>zwX ⟨Ext.refl _,_,rfl,rfl,fun w13 x13=>zDc ⟨Ext.refl _,_,rfl,fun w16 h16=>zcW x (((h8.trans x10).trans x13).trans h16) (zCW (c:=3) (by decide)) ?_⟩⟩,fun heq=>⟨hp,_,c1,fun _=>ne,fun _=>ne,fun ht=>?_,fun hfl=>⟨hp,_,c2,fun w12 x12=>?_⟩⟩⟩
 ·unfold doW;rw[hcm]
  simp only[]
  rw[if_pos (by omega)]
  first|exact⟨rfl,rfl⟩|simp
 ·have hR:∀(s:ByteArray)(c:Int)(σ:DS),K.st.isShut=false->R b ws K.st c s σ->doW R ws K.st c s σ:=fun s c σ hsh h=>by
   unfold doW;rw[hcm]
   simp only[]
   rw[if_neg (by omega),if_neg (by rw[hsh];simp)]
   exact h
  rcases K.cases with hK|⟨fb,P,F,hK⟩
  ·refine⟨none,(x.ext h8).nofp hK,fun _ w12 x12=>zwX ⟨Ext.refl _,_,rfl,fun w15 h15=>zcW x ((h8.trans x12).trans h15) (zIJ (c:=9) (by decide)) ?_⟩,fun h=>absurd rfl h⟩
   unfold doW;rw[hcm]
   simp only[]
   rw[if_neg (by omega),if_pos ⟨ht,by rw[Kt.st_shut hK];rfl⟩]
   first|exact⟨rfl,rfl⟩|simp
  ·refine⟨ptr fb,(x.ext h8).fbp hK,fun h=>absurd h (zaO fb),fun _=>⟨hp,_,c2,fun w13 x13=>?_⟩⟩
   have hsh:K.st.isShut=false:=by rw[Kt.st_opn hK];rfl
   have hx:=h8.trans x13
   obtain⟨f,bd,cap,e1,e2⟩:=hcall w13 pb sp b ws.length t2 hx hcm ((Cst.of_ext x13).cell hpb) (zk5 _ _ _ _ _ _ (Cst.of_ext x13) hpv) (by omega) (Nat.le_refl _) (fun _=>hsh) (hc1.ext (x8.trans x13)) hszs
   refine⟨f,bd,cap,e1,e2.mono fun v w14 hC=>?_⟩
   obtain⟨s,ev,c,K',hv,q1,q2,q3,q4,q5⟩:=zyX hx hC
   exact⟨s,ev,hv,fun w17 h17=>⟨s,ev,c,K',rfl,q1,q2.ext h17,q3.tr (zac h17),q4,hR _ _ _ hsh q5⟩⟩
 ·have hx:=h8.trans x12
  obtain⟨f,bd,cap,e1,e2⟩:=hcall w12 pb sp b ws.length t2 hx hcm ((Cst.of_ext x12).cell hpb) (zk5 _ _ _ _ _ _ (Cst.of_ext x12) hpv) (by omega) (Nat.le_refl _) (fun h=>by rw[hfl] at h;cases h) (hc1.ext (x8.trans x12)) hszs
  refine⟨f,bd,cap,e1,e2.mono fun v w14 hC=>?_⟩
  obtain⟨s,ev,c,K',hv,q1,q2,q3,q4,q5⟩:=zyX hx hC
  refine⟨s,ev,hv,fun w17 h17=>⟨s,ev,c,K',rfl,q1,q2.ext h17,q3.tr (zac h17),q4,?_⟩⟩
  unfold doW;rw[hcm]
  simp only[]
  rw[if_neg (by omega),if_neg (by rw[hfl];simp)]
  exact q5
end
end Go.Proofs.YtcceeahmcecbnaaGreatDoor
