/- The framework, the program's texts and what is shown of them: part 6. -/
import Derived.Test.YtcceeahmcecbnaaGreatDoorWTopWaits5
import Derived.Test.YtcceeahmcecbnaaGreatDoorRows
import Derived.Lay
set_option linter.unusedVariables false
set_option linter.unusedSimpArgs false
set_option maxRecDepth 100000
namespace Go.Proofs.YtcceeahmcecbnaaGreatDoor
open Go.Sx Go.RowKit
section
variable {O:Nat->Prop} {B fb:Nat} {w:World} {P:Pl} {F:Fm}
theorem zEg (x:FXO O B w fb P F) (j:Jb) (pa:Option Addr) (ca:Nat) (pf:Option Addr) (cf:Nat) (hJ:IsJ w j pa ca pf) (hW:WfJ j) (hB:B<=w.heap.size) :
    FnP Tryz.prog zaT #[.pointer (ptr fb),jv j pa ca pf cf] w fun v w'=>∃ id e:Int,v=.tuple #[.int .i64 id,.int .i64 e]/\((e=0↔zqC F j)/\zHu F j e)/\((e≠0/\Ext w w'/\id=0)\/(e=0/\id=F.jobs.length+1/\∃ P',FXO O B w' fb P' (zn3 F j)/\Fr (ft fb P.jp) w w'/\zCQ w fb P.jp P'.jp)):=by
  have ne:=zaG fb
  have hl0:=x.jO.1
  refine zdq (ptr fb) j.user j.prio j.nd.c j.nd.m j.nd.g j.ask.k j.ask.key j.ask.val j.ask.n pa j.ask.xs.length ca pf j.aft.length cf w _ fun b0 hb0 w1 h1=>?_
  refine (zze j pa ca pf cf w1 (hJ.ext h1) hW).mono fun v w2 ⟨e2,hv⟩=>⟨e2,zrw j,hv,fun hne w4 h4=>⟨0,zrw j,rfl,⟨⟨fun h=>absurd h hne,fun h=>absurd (zgp.2 h.1) hne⟩,.inl ⟨hne,rfl⟩⟩,.inl ⟨hne,h4,rfl⟩⟩,fun hz=>?_⟩
  have hok:=zgp.1 hz
  have hlen:=hok.len
  have hup:=zfL hok.up
  refine ⟨ne,ne,_,_,_,x.cell (i:=6) rfl,fun h60 w7 h7=>⟨0,7,rfl,⟨⟨fun h=>(by cases h),fun h=>absurd (by have:=x.len; omega) h.2.1⟩,.inr ⟨hz,.inl ⟨by have:=x.len; omega,rfl⟩⟩⟩,.inl ⟨by decide,h7,rfl⟩⟩,fun h60=>?_⟩
  refine ⟨fun k w'=>Ext w w'/\0<=k/\k<=j.aft.length/\∀ i:Nat,(i:Int)<k->j.aft.getD i 0<=F.jobs.length,fun k _=>(j.aft.length-k).toNat,⟨Ext.refl _,by omega,by omega,fun i hi=>by omega⟩,?_⟩
  rintro k w9 ⟨x9,hk0,hk1,hrng⟩
  have gmem:∀ {k:Int},0<=k->k<j.aft.length->j.aft.getD k.toNat 0∈j.aft:=fun h0 h1=>zan j.aft 0 (by omega)
  refine ⟨fun hlt=>?_,fun hge=>?_⟩
  · have g:=zd9.idx (hJ.2.ext x9) hk0 hlt
    have hy:=hup _ (gmem hk0 hlt)
    refine ⟨fun h=>zak g (zah.2 h),hk0,hlt,_,g,fun w11 x11=>?_⟩
    have h11:=x9.trans (zaa x11)
    refine (zBZ (x.ext h11) _ (i64 (by omega))).mono fun v w12 ⟨e12,hv⟩=>⟨e12,?_⟩
    rcases hv with ⟨hno,rfl⟩|⟨_,hin,rfl⟩
    · exact ⟨_,rfl,fun _ w14 h14=>⟨0,5,rfl,⟨⟨fun h=>(by cases h),fun h=>absurd ⟨hy.1,(h.2.2 _ (gmem hk0 hlt)).1⟩ hno⟩,.inr ⟨hz,.inr ⟨by have:=x.len; omega,.inl ⟨⟨_,gmem hk0 hlt,hno⟩,rfl⟩⟩⟩⟩,.inl ⟨by decide,(h11.trans e12).trans h14,rfl⟩⟩,fun h=>absurd rfl h⟩
    · obtain ⟨q,hq,hne,_⟩:=ziP x ⟨hy.1,hin⟩ (h11.trans e12)
      refine ⟨_,rfl,fun h=>absurd (hq.symm.trans h) hne,fun _=>⟨i64 (by omega),⟨h11.trans e12,by omega,by omega,fun i hi=>?_⟩,by simp only []; omega⟩⟩
      by_cases hik:(i:Int)<k
      · exact hrng i hik
      · obtain rfl:i=k.toNat:=by omega
        exact hin
  have hall:∀ y∈j.aft,y<=F.jobs.length:=fun y hy=>by
    obtain ⟨i,hi,rfl⟩:=List.mem_iff_getElem.1 hy
    have:=hrng i (by omega)
    simpa [List.getD_eq_getElem?_getD,hi] using this
  refine ⟨fun k w'=>Ext w w'/\0<=k/\k<=j.aft.length/\∀ i:Nat,(i:Int)<k->zaU F (j.aft.getD i 0)≠4/\zaU F (j.aft.getD i 0)≠5,fun k _=>(j.aft.length-k).toNat,⟨x9,by omega,by omega,fun i hi=>by omega⟩,?_⟩
  clear hrng hge hk0 hk1
  rintro k w12 ⟨x12,hk0,hk1,hrng⟩
  refine ⟨fun hlt=>?_,fun hge=>?_⟩
  · have g:=zd9.idx (hJ.2.ext x12) hk0 hlt
    have hy:=hup _ (gmem hk0 hlt)
    have hy2:=hall _ (gmem hk0 hlt)
    refine ⟨fun h=>zak g (zah.2 h),hk0,hlt,_,g,fun w14 x14=>?_⟩
    have h14:=x12.trans (zaa x14)
    refine (zBZ (x.ext h14) _ (i64 (by omega))).mono fun v w15 ⟨e15,hv⟩=>⟨e15,?_⟩
    rcases hv with ⟨hno,_⟩|⟨_,hin,rfl⟩
    · exact absurd ⟨hy.1,hy2⟩ hno
    · obtain ⟨q,hq,hne,hg⟩:=ziP x ⟨hy.1,hin⟩ (h14.trans e15)
      refine ⟨_,rfl,by rw [hq]; exact hne,by rw [hq]; exact hne,_,by rw [hq]; exact hg,fun hbad w18 h18=>⟨0,9,rfl,⟨⟨fun h=>(by cases h),fun h=>?_⟩,.inr ⟨hz,.inr ⟨by have:=x.len; omega,.inr ⟨fun y hy=>⟨(hup y hy).1,hall y hy⟩,.inl ⟨⟨_,gmem hk0 hlt,hbad⟩,rfl⟩⟩⟩⟩⟩,.inl ⟨by decide,(h14.trans e15).trans h18,rfl⟩⟩,fun hgd=>⟨i64 (by omega),⟨h14.trans e15,by omega,by omega,fun i hi=>?_⟩,by simp only []; omega⟩⟩
      · have:=(h.2.2 _ (gmem hk0 hlt)).2
        rcases hbad with h|h
        · exact absurd h this.1
        · exact absurd h this.2
      · by_cases hik:(i:Int)<k
        · exact hrng i hik
        · obtain rfl:i=k.toNat:=by omega
          exact hgd
  have hall2:∀ y∈j.aft,zaU F y≠4/\zaU F y≠5:=fun y hy=>by
    obtain ⟨i,hi,rfl⟩:=List.mem_iff_getElem.1 hy
    have:=hrng i (by omega)
    simpa [List.getD_eq_getElem?_getD,hi] using this
  have hoks:zqC F j:=⟨hok,by have:=x.len; omega,fun y hy=>⟨hall y hy,hall2 y hy⟩⟩
  have x12':=x.ext x12
  refine ⟨ne,ne,_,_,_,x12'.cell (i:=6) rfl,fun w16 x16=>?_⟩
  have h16:=x12.trans (zaa x16)
  have hE:zeL j.ask=0:=by
    have:=hok.ask
    unfold zle at this
    split at this
    · cases this
    · exact this
  refine (zzw ⟨zpt j,pa,ca,pf,cf⟩ w16 (hJ.ext h16) hE hok.len).mono fun v w17 ⟨e17,r,hv,hrs,hF⟩=>⟨e17,r.s.job.user,r.s.job.prio,r.s.job.nd.c,r.s.job.nd.m,r.s.job.nd.g,r.s.job.ask.k,r.s.job.ask.key,r.s.job.ask.val,r.s.job.ask.n,r.pa,r.s.job.ask.xs.length,r.ca,r.pf,r.s.job.aft.length,r.cf,r.s.what,r.s.host,r.s.since,r.s.again,r.s.tries,hv,?_⟩
  have h17:=h16.trans e17
  have x17:=x.ext h17
  have hlR:=x.len
  have hn60:F.jobs.length≠60:=hoks.2.1
  have hbj:∀ b∈[b0],∀ y,P.jp=some y->y.block≠b:=fun b hb y hy=>by simp at hb; subst hb; have:=(x.arr.lt y hy).2; omega
  refine znK (v:=sv r) ze9 (by omega) x17.arr (Nat.le_trans hB h17.size) hbj rfl (zsn r) (by omega) (by omega) (by omega) fun p' c' w44 o44 g44 hp' hb44=>⟨ne,ne,?_⟩
  have apF:zbP (ptr fb) P.jp:=fun u y hu hy=>by cases hu; exact fun h=>x.ap y hy h.symm
  have s44:=x17.slot.st apF g44
  have hfb:=(x.slot.lt _ rfl).2
  have apP:∀ a,p'=some a->a.block≠fb:=fun a ha he=>by
    rcases g44.new with hn|hn
    · rw [ha] at hn
      cases hj:P.jp with
      |none => rw [hj] at hn; simp [blk] at hn
      |some y => rw [hj] at hn; simp [blk] at hn; exact x.ap y hj (hn▸he)
    · have h1:=hn a ha
      have h2:=h17.size
      have h3:fb<w.heap.size:=hfb
      omega
  refine zaW (off:=6) s44 rfl (by simp) (by simp) (by intro u hu; simp at hu; subst hu; rfl) (fun b hb y hy he=>by cases hy; simp at hb; subst hb; have h3:fb<w.heap.size:=hfb; have he:fb=b:=he; omega) fun w48 o48 g48=>?_
  have f48:Fr (ft fb P.jp) w17 w48:=(zaR g44 fun a ha=>.inr ⟨a,ha,rfl⟩).tr (zaR g48 fun a ha=>by cases ha; exact .inl rfl)
  have hft:∀ b,ft fb p' b->ft fb P.jp b\/w17.heap.size<=b:=fun b hb=>by
    rcases hb with h|⟨a,ha,rfl⟩
    · exact .inl (.inl h)
    · rcases g44.new with hn|hn
      · left
        rw [ha] at hn
        cases hj:P.jp with
        |none => rw [hj] at hn; simp [blk] at hn
        |some y => rw [hj] at hn; simp [blk] at hn; exact .inr ⟨y,rfl,hn.symm⟩
      · exact .inr (hn a ha)
  have step:∀ {w'' w0:World},Ext w0 w17->Fr (ftO O fb p') w48 w''->Fr (ftO O fb P.jp) w0 w'':=fun h0 kf=>((zac h0).tr (f48.mono fun b hb=>.inr hb)).trans kf fun b hb=>by
    rcases hb with hb|hb
    · exact .inl (.inl hb)
    · rcases hft b hb with h|h
      · exact .inl (.inr h)
      · exact .inr (Nat.le_trans h0.size h)
  have y48:FXO O B w48 fb ⟨P.hp,P.hc,p',c',P.R++[r]⟩ (zn3 F j):=by
    refine ⟨?_,?_,?_,fun w'' kf=>x.hs w'' (step h17 kf),fun r' hr' w'' kf=>?_,apP,x.hO,?_,fun b hb=>by have:=x.olt b hb; have:=h17.size; have:=f48.size; omega,fun b hb hf=>(hft b hf).elim (x.odis b hb) fun h=>by have:=x.olt b hb; have:=h17.size; omega⟩
    · show Own B w48 zcK 7 (ptr fb) 1 1 [_,_,_,_,_,_,.slice p' (P.R++[r]).length c']
      rw [List.length_append]
      exact o48
    · show Own B w48 ziL 16 p' (P.R++[r]).length c' ((P.R++[r]).flatMap ztO)
      rw [List.length_append,List.flatMap_append]
      have:=o44.st (fun u v hu hv=>by cases hv; exact apP u hu) g48
      simpa [Value.cells] using this
    · show (P.R++[r]).map (·.s)=F.jobs++[zpt j]
      rw [List.map_append,x.map]; simp [hrs]
    · have hr':r'∈P.R++[r]:=hr'
      rcases List.mem_append.1 hr' with hr'|hr'
      · exact x.js r' hr' w'' (step h17 kf)
      · simp at hr'; subst hr'
        have:=hF (ftO O fb P.jp) (fun b hb=>by
          rcases hb with hb|hb
          · have:=x.olt b hb; have:=h16.size; omega
          · have:=(x.foot hb).2; have:=h16.size; omega) w'' (step (Ext.refl _) kf)
        rw [hrs]
        exact this
    · refine ⟨by show (F.jobs++[zpt j]).length<=60; rw [List.length_append]; simp; omega,fun s hs=>?_⟩
      have hs:s∈F.jobs++[zpt j]:=hs
      rcases List.mem_append.1 hs with hs|hs
      · exact x.jO.2 s hs
      · simp at hs; subst hs; exact ⟨hok,hW⟩
  refine ⟨ne,ne,_,_,_,y48.cell (i:=6) rfl,fun w52 h52=>⟨_,0,rfl,⟨⟨fun _=>hoks,fun _=>rfl⟩,.inr ⟨hz,.inr ⟨hn60,.inr ⟨fun y hy=>⟨(hup y hy).1,hall y hy⟩,.inr ⟨hall2,rfl⟩⟩⟩⟩⟩,.inr ⟨rfl,?_,_,y48.ext h52,((zac h17).tr f48).tr (zac h52),fun b hb=>?_⟩⟩⟩
  · simp; omega
  · rcases hft b hb with h|h
    · exact .inl h
    · exact .inr (Nat.le_trans h17.size h)
end
theorem zCh {w:World} {p:Option Addr} {c:Nat} {ws:List ByteArray} (k:Nat) (hk:k<ws.length) (hc:ws.length<=c) (h:zau w p (ws.map Value.string)):zau w (pCut p c (k:Int) 1) ((ws.drop k).map Value.string):=by
  have e:pCut p c (k:Int) 1=p.map (·.add k):=by
    unfold pCut
    rw [if_neg (by simp; omega)]
    simp
  rw [e]
  intro i v hv
  have h2:=h (k+i) v (by rw [List.getElem?_map,List.getElem?_drop] at hv; rw [List.getElem?_map]; exact hv)
  cases p with
  |none => simp [cell] at h2
  |some a =>
    simp only [Option.map_some,cell,Option.bind_some] at h2 ⊢
    have:(a.add k).add i=a.add (k+i):=by
      by_cases h0:k=0
      · subst h0; simp [Addr.add]
      · by_cases hi:i=0
        · subst hi; simp [Addr.add,h0]
        · simp [Addr.add,h0,hi,Nat.add_assoc]
    rw [this]; exact h2
def zn2 (ws:List ByteArray) (k:Nat):ByteArray:=ofL (Lib.join ((ws.drop k).map (·.data.toList)) [32])
theorem zIb {wp:Option Addr} {wc:Nat} {ws:List ByteArray} {w:World} (k:Nat) (hk:k<ws.length) (hc:ws.length<=wc) (h10:ws.length<=10) (hsz:∀ x∈ws,x.size<=4294967281) (hw:zau w wp (ws.map Value.string)) :
    FnP Tryz.prog zbd #[.slice (pCut wp wc (k:Int) 1) ((ws.length:Int)-(k:Int)).toNat (wc-((k:Int)).toNat),.string (one 32)] w fun v w'=>Ext w w'/\v=.string (zn2 ws k)/\(zn2 ws k).size<=42949672820:=by
  have hb:(Lib.join ((ws.drop k).map (·.data.toList)) [32]).length<=42949672820:=by
    have:=zhH (c:=32) (m:=4294967281) ((ws.drop k).map (·.data.toList)) (fun y hy=>by
      obtain ⟨x,hx,rfl⟩:=List.mem_map.1 hy
      have:=hsz x (List.mem_of_mem_drop hx)
      rw [zhy]; exact this)
    rw [List.length_map,List.length_drop] at this
    omega
  have e:((ws.length:Int)-(k:Int)).toNat=(ws.drop k).length:=by rw [List.length_drop]; omega
  rw [e]
  exact (zBy (ws.drop k) 32 _ _ (by rw [List.length_drop]; simp; omega) w (zCh k hk hc hw) (by omega) (by rw [List.length_drop]; omega)).mono fun v w' ⟨h1,h2⟩=>⟨h1,h2,by unfold zn2; rw [zat]; exact hb⟩
def zGP (t:ByteArray) (e:Int) (j:Jb):Prop:=(3000<t.size->e=2)/\(t.size<=3000->e=0\/e=3)/\(e=0->JT t j)/\(∀ j0,JT t j0->t.size<=3000->e=0/\j=j0)
def zjg (t:ByteArray) (σ:DS) (c:Int) (s:ByteArray) (σ':DS):Prop:=match σ with
  |.shut _ => False
  |.opn F => ∃ e j,zGP t e j/\((e≠0/\c=e/\σ'=.opn F)\/(e=0/\zHu F j c/\((c≠0/\σ'=.opn F)\/(c=0/\s=ofL (Lib.itoa (F.jobs.length+1))/\σ'=.opn (zn3 F j)))))
section
variable {O:Nat->Prop} {B db:Nat} {w:World} {K:Kt}
theorem zHf (x:KX O B w db K) {fb:Nat} {P:Pl} {F:Fm} (hK:K.farm=some (fb,P,F)) (g:GD w) (hB:11<=B) (hBw:B<=w.heap.size) (wp:Option Addr) (wc:Nat) (ws:List ByteArray) (h1:1<ws.length) (hc:ws.length<=wc) (h10:ws.length<=10)
    (hsz:∀ x∈ws,x.size<=4294967281) (hw:zau w wp (ws.map Value.string)) :
    FnP Tryz.prog zfY #[.pointer (ptr db),.slice wp ws.length wc] w (CR O B db w K fun s c σ'=>zjg (zn2 ws 1) K.st c s σ'):=by
  have ne:=zaG db
  refine zkD (ptr db) wp ws.length wc w _ ⟨by omega,by omega,by omega,fun w0 x0=>(zIb 1 h1 hc h10 hsz (hw.ext x0)).mono fun v w1 ⟨e1,hv,hs⟩=>⟨e1,_,hv,fun w3 x3=>?_⟩⟩
  generalize zn2 ws 1=t at hs ⊢
  refine (zGm t (by omega) w3 (g.gb.ext x3)).mono fun v w4 ⟨e4,j,pa,ca,pf,cf,e,hv,hW,hJ,hor,hb2,hb3,hcomp⟩=>⟨e4,j.user,j.prio,j.nd.c,j.nd.m,j.nd.g,j.ask.k,j.ask.key,j.ask.val,j.ask.n,pa,j.ask.xs.length,ca,pf,j.aft.length,cf,e,hv,fun b21 hb21=>?_⟩
  have x4:=x3.trans e4
  have hread:zGP t e j:=⟨hb2,hb3,fun h=>by
    rcases hor with ⟨h',_⟩|⟨_,q1,q2,q3,q4⟩
    · exact absurd h h'
    · exact ⟨q1,by omega,q3,q4⟩,hcomp⟩
  refine ⟨fun hne w22 x22=>zuR ⟨Ext.refl _,_,rfl,rfl,fun w25 x25=>zAL ⟨Ext.refl _,_,rfl,fun w28 h28=>?_⟩⟩,fun hz=>⟨ne,ne,_,(x.ext x4).fbp hK,fun w23 x23=>?_⟩⟩
  · refine zcB x (((x4.trans (zaa x22)).trans (zaa x25)).trans h28) (zAv hne) ?_
    rw [Kt.st_opn hK]
    exact ⟨e,j,hread,.inl ⟨hne,rfl,rfl⟩⟩
  have h23:=x4.trans (zaa x23)
  have y:=x.ext h23
  obtain ⟨fx,I,W⟩:=y.opn fb P F hK
  have hb21':=x23.lt b21 (by simp)
  have hft:∀ b,KF db K b->b≠b21:=fun b hb he=>by
    have:=((x.ext x4).foot hb).2
    omega
  refine (zEg fx j pa ca pf cf (hJ (fun _=>False) (fun _ h=>h.elim) w23 (zac (zaa x23))) hW (Nat.le_trans hBw h23.size)).mono fun v w24 ⟨id,e',hv,⟨hiff,hE⟩,hres⟩=>⟨?_,id,e',hv,fun w27 h27=>?_⟩
  · rcases hres with ⟨_,h,_⟩|⟨_,_,P',_,f,_⟩
    · exact (zac (S:=fun _=>False) h).kept fun b hb=>by simp at hb; subst hb; exact ⟨hb21',fun h=>h⟩
    · exact f.kept fun b hb=>by
        simp at hb; subst hb
        exact ⟨hb21',fun h=>hft _ (.inr ⟨fb,P,F,hK,h⟩) rfl⟩
  have hR:∃ K',KX O B w24 db K'/\Fr (KF db K) w23 w24/\zuE w23 db K K'/\(InR .i64 id)/\∀ s:ByteArray,s=ofL (Lib.itoa id)->zjg t K.st e' s K'.st:=by
    rcases hres with ⟨hne,h,rfl⟩|⟨he0,hid,P',fx',f,hg⟩
    · refine ⟨K,y.ext h,zac h,fun b hb=>.inl hb,i64 (by omega),fun s _=>?_⟩
      rw [Kt.st_opn hK]
      exact ⟨e,j,hread,.inr ⟨hz,hE,.inl ⟨hne,rfl⟩⟩⟩
    · have hok:=hiff.1 he0
      obtain ⟨a1,a2,a3⟩:=y.turn hK fx' f hg (ztn I hok) (W.sub j)
      refine ⟨_,a1,a2,a3,?_,fun s hs=>?_⟩
      · have:=fx.jO.1; exact i64 (by omega)
      · rw [Kt.st_opn hK]
        exact ⟨e,j,hread,.inr ⟨hz,hE,.inr ⟨he0,by rw [hs,hid],rfl⟩⟩⟩
  obtain ⟨K',y',f',g',hid,hRR⟩:=hR
  have gd24:GD w24:=(g.ext h23).fr f' fun b hb=>Nat.le_trans hB (y.foot hb).1
  refine (znt id (zhF hid) w27 (gd24.ext h27).gb).mono fun v w28 ⟨e28,hv⟩=>⟨e28,_,hv,fun w30 x30=>(zqf e' w30).mono fun v w31 ⟨e31,hE'⟩=>⟨e31,v,rfl,fun w33 h33=>?_⟩⟩
  have hx:=((zaa x30).trans e31).trans h33
  refine ⟨_,v,e',K',rfl,hE',y'.ext hx,((zac h23).tr f').tr (zac hx),fun b hb=>(g' b hb).imp (fun h=>h) fun h=>Nat.le_trans h23.size h,hRR _ rfl⟩
end
instance decMem (x:ByteArray) (l:List ByteArray):Decidable (x∈l):=decidable_of_iff (l.any (fun y=>decide (y=x))=true) (by simp)
def lbE (seen:List ByteArray):List Lb->Int
  |[] => 0
  |x::r => if lbB x.key=true/\lbB x.val=true then (if x.key∈seen then 6 else lbE (seen++[x.key]) r) else 3
def hE (seen:List ByteArray) (h:Ht):Int :=
  if lbB h.name=false then 3 else if h.name∈seen then 6 else if 8<h.labels.length then 2 else if lbE [] h.labels≠0 then lbE [] h.labels
  else if zy3 h.has≠0 then 4 else if zy3 h.used≠0 then 4 else if zj1 h.used h.has then 0 else 10
def hsE (seen:List ByteArray):List Ht->Int
  |[] => 0
  |h::r => if hE seen h≠0 then hE seen h else hsE (seen++[h.name]) r
def zlf (L:List Ht):Int:=if 30<L.length then 2 else hsE [] L
theorem zHX:∀ (l:List Lb) (seen:List ByteArray),lbE seen l=0↔(∀ x∈l,lbB x.key=true/\lbB x.val=true)/\(l.map (·.key)).Nodup/\∀ x∈l,x.key∉seen
  |[],seen => by simp [lbE]
  |x::r,seen => by
    rw [lbE]
    have ih:=zHX r (seen++[x.key])
    by_cases h1:lbB x.key=true/\lbB x.val=true
    · rw [if_pos h1]
      by_cases h2:x.key∈seen
      · rw [if_pos h2]
        exact ⟨fun h=>by omega,fun h=>absurd h2 (h.2.2 x List.mem_cons_self)⟩
      · rw [if_neg h2,ih,List.map_cons,List.nodup_cons]
        constructor
        · rintro ⟨a,b,c⟩
          refine ⟨fun y hy=>?_,⟨fun hm=>?_,b⟩,fun y hy=>?_⟩
          · rcases List.mem_cons.1 hy with rfl|hy
            · exact h1
            · exact a y hy
          · obtain ⟨y,hy,he⟩:=List.mem_map.1 hm
            exact c y hy (by rw [he]; simp)
          · rcases List.mem_cons.1 hy with rfl|hy
            · exact h2
            · exact fun hs=>c y hy (List.mem_append_left _ hs)
        · rintro ⟨a,⟨b1,b2⟩,c⟩
          refine ⟨fun y hy=>a y (List.mem_cons_of_mem _ hy),b2,fun y hy hs=>?_⟩
          rcases List.mem_append.1 hs with hs|hs
          · exact c y (List.mem_cons_of_mem _ hy) hs
          · simp at hs
            exact b1 (List.mem_map.2 ⟨y,hy,hs⟩)
    · rw [if_neg h1]
      exact ⟨fun h=>by omega,fun h=>absurd (h.1 x List.mem_cons_self) h1⟩
theorem hE_ok {seen:List ByteArray} {h:Ht}:hE seen h=0↔zGF h/\h.name∉seen:=by
  have hl:=zHX h.labels []
  unfold hE zGF okLb
  by_cases h1:lbB h.name=false
  · rw [if_pos h1]; simp [h1]
  have h1':lbB h.name=true:=by simpa using h1
  rw [if_neg h1]
  by_cases h2:h.name∈seen
  · rw [if_pos h2]; simp [h2]
  rw [if_neg h2]
  by_cases h3:8<h.labels.length
  · rw [if_pos h3]; exact ⟨fun h=>by omega,fun h=>by have:=h.1.2.1; omega⟩
  rw [if_neg h3]
  by_cases h4:lbE [] h.labels=0
  · rw [if_neg (by simpa using h4)]
    obtain ⟨a,b,_⟩:=hl.1 h4
    by_cases h5:zy3 h.has=0
    · rw [if_neg (by simpa using h5)]
      by_cases h6:zy3 h.used=0
      · rw [if_neg (by simpa using h6)]
        by_cases h7:zj1 h.used h.has
        · rw [if_pos h7]
          exact ⟨fun _=>⟨⟨h1',by omega,⟨a,b⟩,zba.1 h5,zba.1 h6,h7⟩,h2⟩,fun _=>rfl⟩
        · rw [if_neg h7]
          exact ⟨fun h=>by omega,fun h=>absurd h.1.2.2.2.2.2 h7⟩
      · rw [if_pos h6]
        exact ⟨fun h=>by omega,fun h=>absurd (zba.2 h.1.2.2.2.2.1) h6⟩
    · rw [if_pos h5]
      exact ⟨fun h=>by omega,fun h=>absurd (zba.2 h.1.2.2.2.1) h5⟩
  · rw [if_pos (by simpa using h4)]
    exact ⟨fun h=>absurd h h4,fun h=>absurd (hl.2 ⟨h.1.2.2.1.1,h.1.2.2.1.2,by simp⟩) h4⟩
theorem zHT:∀ (L:List Ht) (seen:List ByteArray),hsE seen L=0↔(∀ h∈L,zGF h)/\(L.map (·.name)).Nodup/\∀ h∈L,h.name∉seen
  |[],seen => by simp [hsE]
  |x::r,seen => by
    rw [hsE]
    have ih:=zHT r (seen++[x.name])
    have hx:=hE_ok (seen:=seen) (h:=x)
    by_cases h1:hE seen x=0
    · rw [if_neg (by simpa using h1),ih,List.map_cons,List.nodup_cons]
      obtain ⟨q1,q2⟩:=hx.1 h1
      constructor
      · rintro ⟨a,b,c⟩
        refine ⟨fun y hy=>?_,⟨fun hm=>?_,b⟩,fun y hy=>?_⟩
        · rcases List.mem_cons.1 hy with rfl|hy
          · exact q1
          · exact a y hy
        · obtain ⟨y,hy,he⟩:=List.mem_map.1 hm
          exact c y hy (by rw [he]; simp)
        · rcases List.mem_cons.1 hy with rfl|hy
          · exact q2
          · exact fun hs=>c y hy (List.mem_append_left _ hs)
      · rintro ⟨a,⟨b1,b2⟩,c⟩
        refine ⟨fun y hy=>a y (List.mem_cons_of_mem _ hy),b2,fun y hy hs=>?_⟩
        rcases List.mem_append.1 hs with hs|hs
        · exact c y (List.mem_cons_of_mem _ hy) hs
        · simp at hs
          exact b1 (List.mem_map.2 ⟨y,hy,hs⟩)
    · rw [if_pos (by simpa using h1)]
      exact ⟨fun h=>absurd h h1,fun h=>absurd (hx.2 ⟨h.1 x List.mem_cons_self,h.2.2 x List.mem_cons_self⟩) h1⟩
theorem zy1 {L:List Ht}:zlf L=0↔zkB L:=by
  unfold zlf zkB
  by_cases h:30<L.length
  · rw [if_pos h]; exact ⟨fun h=>by omega,fun h=>by have:=h.1; omega⟩
  · rw [if_neg h,zHT]
    exact ⟨fun ⟨a,b,_⟩=>⟨by omega,a,b⟩,fun ⟨_,a,b⟩=>⟨a,b,by simp⟩⟩
theorem zoZ {α:Type} {L:List α} (d:α) {k:Nat} (h:k<L.length):L.drop k=L.getD k d::L.drop (k+1):=by
  rw [List.drop_eq_getElem_cons h]
  simp [List.getD_eq_getElem?_getD,h]
theorem zur (p:Option Addr) (c:Nat) (L:List Ht) (h63:(L.length:Int)<=9223372036854775807) (hO:∀ h∈L,zwf h) (w:World) (hL:zjv w p L) :
    FnP Tryz.prog zcc #[.slice p L.length c] w fun v w'=>Ext w w'/\v=.int .i64 (zlf L):=by
  refine zlH p L.length c w _ ⟨fun hgt w0 h0=>⟨h0,by unfold zlf; rw [if_pos (by omega)]⟩,fun hle w0 h0=>?_⟩
  have hEH:zlf L=hsE [] L:=by unfold zlf; rw [if_neg (by omega)]
  rw [hEH]
  refine zzO fun w1 S1 e1=>⟨e1,_,rfl,?_⟩
  generalize hr1:w0.heap.size=r1 at S1
  have x1:=h0.trans e1
  have hw1:w.heap.size<=r1:=by have:=h0.size; omega
  refine ⟨fun k w'=>Ext w w'/\0<=k/\k<=L.length/\ziu w' r1 ((L.take k.toNat).map (·.name))/\hsE [] L=hsE ((L.take k.toNat).map (·.name)) (L.drop k.toNat),fun k _=>(L.length-k).toNat,⟨x1,by omega,by omega,S1,rfl⟩,?_⟩
  rintro k w5 ⟨x5,hk0,hk1,S5,hE5⟩
  have fin:∀ {e:Int} {w':World},Ext w w'->hsE [] L=e->Ext w w'/\Value.int .i64 e=.int .i64 (hsE [] L):=fun hx h1=>⟨hx,by rw [h1]⟩
  refine ⟨fun hlt=>?_,fun hge w6 h6=>fin (x5.trans h6) ?_⟩
  rotate_left
  · rw [hE5,List.drop_eq_nil_of_le (by omega)]; rfl
  obtain ⟨q,d,hp,hp8,g',hLb⟩:=hL.at hk0 hlt
  have hm:=zan L default (i:=k.toNat) (by omega)
  have hOk:=hO _ hm
  rw [zoZ default (by omega:k.toNat<L.length),hsE] at hE5
  generalize hHd:L.getD k.toNat default=H at g' hLb hm hOk hE5
  generalize hseen:(L.take k.toNat).map (·.name)=seen at S5 hE5
  have bad:∀ {e:Int},e≠0->hE seen H=e->hsE [] L=e:=fun hne he=>by rw [hE5,he,if_pos hne]
  have g:∀ (j:Nat) u,(zEW H q d)[j]?=some u->Go.Sx.cell w5 (pIdx p k 8) j=some u:=fun j u hu=>zaJ x5 (g' j u hu)
  obtain ⟨ho1,ho2,ho3⟩:=hOk
  refine ⟨hp,hk0,hlt,hp8,_,g 0 _ rfl,_,_,_,g 1 _ rfl,_,g 2 _ rfl,_,g 3 _ rfl,_,g 4 _ rfl,_,g 5 _ rfl,_,g 6 _ rfl,_,g 7 _ rfl,fun b16 hb16=>?_⟩
  refine ⟨fun w'=>w'=w5/\lbB H.name=true/\H.name∉seen/\H.labels.length<=8,fun w19 h19=>?_,?_⟩
  · refine (zgl H.name ho1 w19).mono fun v w20 ⟨e20,hv⟩=>⟨e20,_,hv,fun hf w22 h22=>fin (x5.trans h22) (bad (by decide) ?_),fun hn w22 h22=>?_⟩
    · unfold hE; rw [if_pos hf]
    have hn':¬ lbB H.name=false:=by rw [hn]; decide
    refine zoz (S5.ext h22) H.name fun b hb=>⟨Ext.refl _,b,rfl,fun hin w25 h25=>fin (x5.trans h25) (bad (by decide) ?_),fun hnin=>?_⟩
    · unfold hE; rw [if_neg hn',if_pos (hb.1 hin)]
    have hns:H.name∉seen:=fun hm=>by rw [hb.2 hm] at hnin; cases hnin
    refine ⟨fun h8 w25 h25=>fin (x5.trans h25) (bad (by decide) ?_),fun h8=>⟨rfl,hn,hns,by omega⟩⟩
    unfold hE; rw [if_neg hn',if_neg hns,if_pos (by omega)]
  rintro w5 ⟨rfl,hn,hnin,h8⟩ w19 x19
  have hn':¬ lbB H.name=false:=by rw [hn]; decide
  have h19:=zaa x19
  have hb19:b16<w19.heap.size:=x19.lt b16 (by simp)
  have hr5:=S5.lt
  refine ztk (S5.ext h19) H.name fun w20 S20 g20=>⟨fun b hb=>?_,fun w21 x21=>?_⟩
  · simp at hb; subst hb
    refine g20.by_.block b hb19 fun he=>?_
    simp [blk] at he; omega
  have x20:Ext w w20:=g20.below (x5.trans h19) (x5.trans h19).size (fun a ha=>by obtain rfl:=Option.some.inj ha; exact hw1)
  have h21:=zaa x21
  refine zzO fun w22 S22 e22=>⟨e22,_,rfl,?_⟩
  have hr21:r1<w21.heap.size:=by have:=S20.lt; have:=h21.size; omega
  generalize hr2:w21.heap.size=r2 at S22 hr21
  have x22:=(x20.trans h21).trans e22
  have hb16r:b16<r2:=by have:=g20.size; have:=h21.size; omega
  refine ⟨fun j w'=>Ext w w'/\0<=j/\j<=H.labels.length/\ziu w' r1 (seen++[H.name])/\ziu w' r2 ((H.labels.take j.toNat).map (·.key))/\lbE [] H.labels=lbE ((H.labels.take j.toNat).map (·.key)) (H.labels.drop j.toNat),fun j _=>(H.labels.length-j).toNat,⟨x22,by omega,by omega,(S20.ext h21).ext e22,S22,rfl⟩,?_⟩
  rintro j w26 ⟨x26,hj0,hj1,Sa,Sb,hlE⟩
  have badL:∀ {e:Int},e≠0->lbE [] H.labels=e->hsE [] L=e:=fun hne he=>bad hne (by unfold hE; rw [if_neg hn',if_neg hnin,if_neg (by omega),if_pos (by rw [he]; exact hne),he])
  refine ⟨fun hjl=>?_,fun hjg w27 h27=>?_⟩
  · have hLb6:=hLb.ext x26
    have l0:=hLb6.idx default hj0 hjl (j:=0) rfl
    have l1:=hLb6.idx default hj0 hjl (j:=1) rfl
    have hlm:=zan H.labels default (i:=j.toNat) (by omega)
    have hls:=ho3 _ hlm
    rw [zoZ default (by omega:j.toNat<H.labels.length),lbE] at hlE
    generalize hld:H.labels.getD j.toNat default=lb at l0 l1 hlm hls hlE
    generalize hkeys:(H.labels.take j.toNat).map (·.key)=keys at Sb hlE
    refine ⟨fun hq=>zak l0 (zah.2 hq),hj0,hjl,zak l0,_,l0,_,l1,fun b29 hb29=>?_⟩
    refine ⟨fun w'=>w'=w26/\lbE [] H.labels=lbE (keys++[lb.key]) (H.labels.drop (j.toNat+1)),fun w32 h32=>?_,?_⟩
    · refine (zgl lb.key hls.1 w32).mono fun v w33 ⟨e33,hv⟩=>⟨e33,_,hv,fun hf w35 h35=>fin (x26.trans h35) (badL (by decide) (by rw [hlE,if_neg (by rw [hf]; simp)])),fun hkt w35 h35=>?_⟩
      refine (zgl lb.val hls.2 w35).mono fun v w36 ⟨e36,hv⟩=>⟨e36,_,hv,fun hf w38 h38=>fin (x26.trans h38) (badL (by decide) (by rw [hlE,if_neg (by rw [hf]; simp)])),fun hvt w38 h38=>?_⟩
      rw [if_pos ⟨hkt,hvt⟩] at hlE
      refine zoz (Sb.ext h38) lb.key fun b hb=>⟨Ext.refl _,b,rfl,fun hin w41 h41=>fin (x26.trans h41) (badL (by decide) (by rw [hlE,if_pos (hb.1 hin)])),fun hnin=>⟨rfl,?_⟩⟩
      rw [hlE,if_neg (fun hm=>by rw [hb.2 hm] at hnin; cases hnin)]
    rintro w26 ⟨rfl,hlE'⟩ w32 x32
    have h32:=zaa x32
    refine ztk (Sb.ext h32) lb.key fun w33 S33 g33=>⟨fun b hb=>?_,i64 (by omega),⟨?_,by omega,by omega,?_,?_,?_⟩,by simp only []; omega⟩
    · have hlt':=x32.lt b hb
      refine g33.by_.block b hlt' fun he=>?_
      simp [blk] at he
      simp at hb
      have:=Sb.lt
      rcases hb with rfl|rfl<;>omega
    · exact g33.below (x26.trans h32) (x26.trans h32).size (fun a ha=>by obtain rfl:=Option.some.inj ha; show w.heap.size<=r2; omega)
    · exact (Sa.ext h32).grew (by omega) g33
    · rw [show (j+1).toNat=j.toNat+1 by omega,zc1 (fun x:Lb=>x.key) default (by omega),hld,hkeys]; exact S33
    · rw [show (j+1).toNat=j.toNat+1 by omega,zc1 (fun x:Lb=>x.key) default (by omega),hld,hkeys]; exact hlE'
  · have hl0:lbE [] H.labels=0:=by rw [hlE,List.drop_eq_nil_of_le (by omega)]; rfl
    have hEe:hE seen H=if zy3 H.has≠0 then 4 else if zy3 H.used≠0 then 4 else if zj1 H.used H.has then 0 else 10:=by
      unfold hE; rw [if_neg hn',if_neg hnin,if_neg (by omega),if_neg (by rw [hl0]; simp)]
    refine (zxj H.used H.has w27).mono fun v w28 ⟨e28,t,e,hv,ht⟩=>⟨e28,_,_,hv,fun w31 h31=>?_⟩
    refine (zew H.has w31).mono fun v w32 ⟨e32,hv⟩=>⟨e32,_,hv,?_⟩
    refine ⟨fun w'=>w'=w26/\hE seen H=0,⟨fun hne w36 h36=>?_,fun he0=>⟨fun hne w36 h36=>?_,fun he=>⟨fun hf w36 h36=>?_,fun htt=>?_⟩⟩⟩,?_⟩
    · have hno:¬ okN H.has:=fun h=>hne (zba.2 h)
      rw [zmq hno]
      exact fin (x26.trans h36) (bad (by decide) (by rw [hEe,if_pos hne]))
    · rcases ht with ⟨_,_,rfl,_⟩|⟨hno,rfl,_⟩
      · exact absurd rfl hne
      · have hu:¬ okN H.used:=fun h=>hno ⟨h,zba.1 he0⟩
        exact fin (x26.trans h36) (bad (by decide) (by rw [hEe,if_neg (by simpa using he0),if_pos (by rw [zmq hu]; decide)]))
    · rcases ht with ⟨a1,a2,_,rfl⟩|⟨_,rfl,_⟩
      · refine fin (x26.trans h36) (bad (by decide) ?_)
        rw [hEe,if_neg (by simpa using he0),if_neg (by have:=zba.2 a1; simpa using this),if_neg (by simpa using hf)]
      · omega
    · rcases ht with ⟨a1,a2,_,rfl⟩|⟨_,rfl,_⟩
      · refine ⟨rfl,?_⟩
        rw [hEe,if_neg (by simpa using he0),if_neg (by have:=zba.2 a1; simpa using this),if_pos (by simpa using htt)]
      · omega
    · rintro w26 ⟨rfl,hz⟩
      rw [hz,if_neg (by simp)] at hE5
      refine ⟨i64 (by omega),⟨x26,by omega,by omega,?_,?_⟩,by simp only []; omega⟩
      · rw [show (k+1).toNat=k.toNat+1 by omega,zc1 (fun x:Ht=>x.name) default (by omega),hHd,hseen]; exact Sa
      · rw [show (k+1).toNat=k.toNat+1 by omega,zc1 (fun x:Ht=>x.name) default (by omega),hHd,hseen]; exact hE5
def zxO (x:Nd):Prop:=∀ i,i<3->0<=zcd x i/\zcd x i<=9223372036854775807
theorem zxO.rng {x:Nd} (h:zxO x):rng x:=fun i hi=>by have:=h i hi; omega
theorem okN.pos {x:Nd} (h:okN x):zxO x:=fun i hi=>by have:=zpw.1 h i hi; omega
theorem zDI {x:Nd} (hx:zxO x) {i:Nat} (hi:i<3):(44:UInt8)∉zgz x i:=fun hm=>by
  have h0:=(hx i hi).1
  unfold zgz at hm
  rcases List.mem_append.1 hm with h|h
  · exact (zGK hi).2 h
  · rcases List.mem_cons.1 h with h|h
    · exact absurd h (by decide)
    · exact ziZ h0 (by decide) h
theorem zx4 {x:Nd} (hx:zxO x) (hne:zbo x≠[45]):Lib.countB (ofL (zbo x)) (one 44)+1=(idx x 3).length/\Lib.splitB (one 44) 0 (Lib.countB (ofL (zbo x)) (one 44)) (ofL (zbo x))=(pcs x 3).map ofL:=by
  have hp:pcs x 3≠[]:=fun h=>hne (by unfold zbo; rw [if_pos h])
  have ht:zbo x=Lib.join (pcs x 3) [44]:=by unfold zbo; rw [if_neg hp]
  rw [ht]
  cases hl:pcs x 3 with
  |nil => exact absurd hl hp
  |cons a l =>
    obtain ⟨h1,h2⟩:=zdx (c:=44) l a fun y hy=>by
      rw [<- hl] at hy
      obtain ⟨i,hi,rfl⟩:=List.mem_map.1 hy
      exact zDI hx (zpf hi).1
    have hlen:(idx x 3).length=l.length+1:=by
      have:=congrArg List.length hl
      unfold pcs at this
      rw [List.length_map] at this
      simpa using this
    rw [h1,h2]
    exact ⟨by omega,rfl⟩
def zAU (s:ByteArray) (a:Nd) (e:Int):Prop:=(e≠0->a=za3)/\(e=0->okN a/\s=ofL (zbo a))/\(∀ x,zxO x->s=ofL (zbo x)->(okN x->e=0/\a=x)/\(¬ okN x->e=4))/\(e≠0->e≠4->e=3)/\(e=4->∃ x,zxO x/\s=ofL (zbo x)/\¬ okN x)
abbrev RQE (w:World) (s:ByteArray) (v:Value) (w':World):Prop:=Ext w w'/\∃ (a:Nd) (e:Int),v=.tuple #[nv a,.int .i64 e]/\zAU s a e
theorem zId {w w':World} {s:ByteArray} (x:Ext w w') (hno:∀ x,zxO x->s=ofL (zbo x)->False):RQE w s (.tuple #[nv za3,.int .i64 3]) w' :=
  ⟨x,za3,3,rfl,fun _=>rfl,fun h=>(by cases h),fun x hx hs=>(hno x hx hs).elim,fun _ _=>rfl,fun h=>(by cases h)⟩
theorem zvC {w w10:World} {s:ByteArray} {p2:Option Addr} {b0:Nat} {cur:Nd} (x10:Ext w w10) (hb0:w.heap.size<=b0) (c10:zBB w10 p2 cur) (hp:p2≠none) (hr:zxO cur) (g:GB w)
    (hgood:∀ x,zxO x->s=ofL (zbo x)->cur=x):rtail s p2 b0 w10 (RQE w s):=by
  have k0:=c10 0 _ rfl
  have k1:=c10 1 _ rfl
  have k2:=c10 2 _ rfl
  have bx:∀ {w':World},zag [b0] [] w10 w'->Ext w w':=fun h=>zar h x10 (by intro d hd; simp at hd; omega)
  refine ⟨hp,_,k0,_,k1,_,k2,fun w14 h14=>(zxm cur hr.rng w14 (g.ext (x10.trans h14))).mono fun v w15 ⟨e15,hv⟩=>⟨e15,_,hv,fun hne w17 x17=>zId (bx x17) fun x hx hs=>?_,fun heq=>⟨hp,_,k0,_,k1,_,k2,fun w20 h20=>(zew cur w20).mono fun v w21 ⟨e21,hv⟩=>⟨e21,_,hv,fun hne w23 x23=>?_,fun hz=>⟨hp,_,k0,_,k1,_,k2,fun w26 x26=>⟨bx x26,cur,0,rfl,fun h=>absurd rfl h,fun _=>⟨zba.1 hz,heq.symm⟩,fun x hx hs=>?_,fun h=>absurd rfl h,fun h=>(by cases h)⟩⟩⟩⟩⟩⟩
  · exact hne (by rw [hgood x hx hs]; exact hs.symm)
  · have hno:¬ okN cur:=fun h=>hne (zba.2 h)
    rw [zmq hno]
    refine ⟨bx x23,za3,4,rfl,fun _=>rfl,fun h=>(by cases h),fun x hx hs=>⟨fun h=>absurd (by rw [hgood x hx hs]; exact h) hno,fun _=>rfl⟩,fun _ h=>absurd rfl h,fun _=>⟨cur,hr,heq.symm,hno⟩⟩
  · have hcx:=hgood x hx hs
    exact ⟨fun _=>⟨rfl,hcx⟩,fun h=>absurd (by rw [<- hcx]; exact zba.1 hz) h⟩
theorem zGw (s:ByteArray) (hs:s.size<4294967281) (w:World) (g:GB w):FnP Tryz.prog zfo #[.string s] w (RQE w s):=by
  refine znE s w _ fun b0 hb0 w1 x1=>zbE (by simp [Value.oneCell']) fun w2 o2 e2=>?_
  have h1:=zaa x1
  have l0:=x1.lt b0 (by simp)
  have o2:=o2 w.heap.size h1.size
  have np:(some (⟨w1.heap.size,0,none⟩:Addr))≠none:=by simp
  have h2:=h1.trans e2
  have rz:zxO za3:=fun i hi=>by
    match i,hi with
    |0,_ => simp [zcd,za3]
    |1,_ => simp [zcd,za3]
    |2,_ => simp [zcd,za3]
  have hpb:∀ y,(some (⟨w1.heap.size,0,none⟩:Addr))=some y->y.block≠b0:=fun y hy=>by obtain rfl:=Option.some.inj hy; show w1.heap.size≠b0; omega
  have hpl:∀ y,(some (⟨w1.heap.size,0,none⟩:Addr))=some y->y.block<w2.heap.size:=fun y hy=>(o2.lt y hy).2
  generalize hpp:(some (⟨w1.heap.size,0,none⟩:Addr))=p at o2 np hpb hpl ⊢
  refine ⟨fun hne w3 x3=>?_,fun heq=>?_⟩
  rotate_left
  · refine zvC (cur:=za3) h2 hb0 o2.cells np rz g fun x hx hs=>?_
    have hl:zbo x=[45]:=zmE (hs.symm.trans heq)
    by_cases hp:pcs x 3=[]
    · refine zoi ?_
      have:idx x 3=[]:=by simpa [pcs] using hp
      intro i hi
      rw [this]
      exact zjA i hi
    · exfalso
      unfold zbo at hl
      rw [if_neg hp] at hl
      cases hc:pcs x 3 with
      |nil => exact hp hc
      |cons a l =>
        rw [hc,Lib.join_cons] at hl
        have ha:a∈pcs x 3:=by rw [hc]; exact List.mem_cons_self ..
        obtain ⟨i,_,rfl⟩:=List.mem_map.1 ha
        have:=congrArg List.length hl
        unfold zgz at this
        have h3:(pn i).data.toList.length=3:=zzA i
        rw [List.length_append,List.length_append,h3] at this
        simp at this
        omega
  have h3:=h2.trans (zaa x3)
  have g3:=g.ext h3
  refine (zeU 44 s hs w3 g3).mono fun v w4 ⟨e4,hv,hc4,_⟩=>⟨e4,_,_,_,hv,?_⟩
  have spn:(some (⟨w3.heap.size,0,none⟩:Addr))≠none:=by simp
  have apsp:zbP (some (⟨w3.heap.size,0,none⟩:Addr)) p:=fun a b ha hb he=>by
    obtain rfl:=Option.some.inj ha
    have h5:=hpl b hb
    have h6:=(zaa x3).size
    have h7:w3.heap.size=b.block:=he
    omega
  generalize (some (⟨w3.heap.size,0,none⟩:Addr))=sp at hc4 spn apsp ⊢
  have slen:=zeH (c:=44) _ s rfl
  have ssz:∀ i q,(Lib.splitB (one 44) 0 (Lib.countB s (one 44)) s)[i]?=some q->q.size+i<=s.size:=fun i q h=>zcx _ s i q h
  have sgood:∀ x,zxO x->s=ofL (zbo x)->Lib.countB s (one 44)+1=(idx x 3).length/\Lib.splitB (one 44) 0 (Lib.countB s (one 44)) s=(pcs x 3).map ofL:=fun x hx hsx=>by
    have:=zx4 hx fun h=>hne (by rw [hsx,h]; rfl)
    rwa [<- hsx] at this
  generalize Lib.splitB (one 44) 0 (Lib.countB s (one 44)) s=S at hc4 slen ssz sgood
  generalize Lib.countB s (one 44)=n at slen sgood ⊢
  refine ⟨fun k w'=>Ext w w'/\0<=k/\k<=(n+1:Nat)/\zau w' sp (S.map Value.string)/\∃ cur,Own w.heap.size w' zii 3 p 1 1 (zwl cur)/\zxO cur/\∀ x,zxO x->s=ofL (zbo x)->good x cur k.toNat,fun k _=>(n+1-k).toNat,
    ⟨h3.trans e4,by omega,by omega,hc4,za3,(o2.ext (zaa x3)).ext e4,rz,fun x _ _=>zjA⟩,?_⟩
  rintro k w10 ⟨x10,hk0,hk1,c10,cur,o10,hr,hgd⟩
  refine ⟨fun hlt=>?_,fun hge=>?_⟩
  rotate_left
  · refine zvC (cur:=cur) x10 hb0 o10.cells np hr g fun x hx hsx=>zoi ?_
    have:=hgd x hx hsx
    rwa [show k.toNat=(idx x 3).length by have:=(sgood x hx hsx).1; omega] at this
  obtain ⟨pc,hpc⟩:∃ pc,S[k.toNat]?=some pc:=⟨_,List.getElem?_eq_getElem (by omega)⟩
  have hcell:Go.Sx.cell w10 (pIdx sp k 1) 0=some (.string pc):=by
    rw [zae]
    exact c10 _ _ (by simp [hpc])
  have hpsz:=ssz _ _ hpc
  refine ⟨spn,hk0,hlt,_,hcell,fun w12 h12=>(zwp 61 pc (by omega) w12 ((g.ext x10).ext h12)).mono fun v w13 ⟨e13,hv⟩=>⟨e13,_,_,_,hv,fun w17 x17=>?_⟩⟩
  have hx17:=x10.trans (zaa x17)
  have hcsz:(Lib.cut pc.data.toList [61]).2.1.length<=pc.size:=by have:=zhB pc.data.toList 61; rwa [zhy] at this
  have hthis:∀ x,zxO x->s=ofL (zbo x)->∃ i,(idx x 3)[k.toNat]?=some i/\i<3/\0<zcd x i/\ofL (Lib.cut pc.data.toList [61]).1=pn i/\Lib.parseIntB 64 (ofL (Lib.cut pc.data.toList [61]).2.1).data.toList=.ok (zcd x i):=fun x hx hsx=>by
    have hS:=(sgood x hx hsx).2
    rw [hS,List.getElem?_map] at hpc
    unfold pcs at hpc
    rw [List.getElem?_map,Option.map_map,Option.map_eq_some_iff] at hpc
    obtain ⟨i,hi,rfl⟩:=hpc
    have hm:=zpf (List.mem_of_getElem? hi)
    have hb:=hx i hm.1
    have hcut:Lib.cut (ofL (zgz x i)).data.toList [61]=((pn i).data.toList,Lib.itoa (zcd x i),true):=zwM _ (zGK hm.1).1
    have hcut':Lib.cut ((ofL∘zgz x) i).data.toList [61]=((pn i).data.toList,Lib.itoa (zcd x i),true):=hcut
    rw [hcut']
    exact ⟨i,hi,hm.1,by omega,zb8 _,zfE hb.1 hb.2⟩
  generalize (ofL (Lib.cut pc.data.toList [61]).1)=name at hthis ⊢
  have hnsz:(ofL (Lib.cut pc.data.toList [61]).2.1).size<=281474976710656:=by rw [zat]; omega
  generalize (ofL (Lib.cut pc.data.toList [61]).2.1)=num at hthis hnsz ⊢
  refine (zjw num hnsz w17 (g.ext hx17)).mono fun v w18 ⟨e18,vn,ev,hv,hcase⟩=>⟨e18,vn,ev,hv,fun w21 h21=>?_⟩
  have hx18:=hx17.trans e18
  refine zi2 (by kernel_rfl) (hcase.elim (fun h=>.inl h.1) fun h=>.inr h.1) fun t ht=>⟨Ext.refl _,t,rfl,fun hbad w24 x24=>zId (zar x24 hx18 (by intro d hd; simp at hd; omega)) fun x hx hsx=>?_,fun hok w24 x24=>?_⟩
  · exfalso
    obtain ⟨i,_,_,hpos,_,hpar⟩:=hthis x hx hsx
    rcases hcase with ⟨h1,h2⟩|⟨_,h2⟩
    · rw [hpar] at h2
      injection h2 with h2
      rcases hbad with h|h
      · rw [ht.2 h1] at h; cases h
      · omega
    · exact h2 _ hpar
  have hx24:=hx18.trans (zaa x24)
  obtain ⟨hev,hpar⟩:ev=.nilIface/\Lib.parseIntB 64 num.data.toList=.ok vn:=by
    rcases hcase with h|⟨⟨a,b,h⟩,_⟩
    · exact h
    · have:=ht.1 hok.1
      rw [h] at this; cases this
  have o24:Own w.heap.size w24 zii 3 p 1 1 (zwl cur):=(((o10.ext (zaa x17)).ext e18).ext (zaa x24))
  have c24:zau w24 sp (S.map Value.string):=(((c10.ext (zaa x17)).ext e18).ext (zaa x24))
  refine (zs9 p np w24).mono fun v w25 ⟨e25,q,hv,hq,hqb⟩=>⟨e25,q,3,3,hv,?_⟩
  have apq:zbP q p:=fun a b ha hb he=>by
    have h5:=hqb a ha
    have h6:=(o24.lt b hb).2
    omega
  refine ⟨fun k30 w'=>Ext w w'/\0<=k30/\k30<=3/\zau w' sp (S.map Value.string)/\zau w' q (zvu p)/\Own w.heap.size w' zii 3 p 1 1 (zwl (upN cur name vn k30.toNat)),fun k30 _=>(3-k30).toNat,
    ⟨hx24.trans e25,by omega,by omega,c24.ext e25,hq,by rw [show (0:Int).toNat=0 from rfl,zz2]; exact o24.ext e25⟩,?_⟩
  rintro k30 w31 ⟨x31,hj0,hj3,c31,q31,o31⟩
  refine ⟨fun hjlt=>?_,fun hjge=>?_⟩
  · obtain ⟨d1,d2⟩:=zs8 q31 hj0 hjlt
    have hj:k30.toNat<3:=by omega
    refine ⟨fun hq=>zak d1 (zah.2 hq),hj0,hjlt,zak d1,_,d1,_,d2,fun b34 hb34=>⟨fun heq=>⟨fun h=>np (zdj.1 h),?_⟩,fun hne=>⟨i64 (by omega),⟨x31,by omega,by omega,c31,q31,?_⟩,by simp only []; omega⟩⟩⟩
    · refine zcp o31 (by simpa using hj) rfl (fun b hb y hy=>?_) fun w35 o35 g35=>⟨i64 (by omega),⟨g35.ext x31 o31,by omega,by omega,c31.grew apsp g35,q31.grew apq g35,?_⟩,by simp only []; omega⟩
      · simp only [List.mem_cons,List.mem_singleton,List.mem_nil_iff,or_false] at hb
        rcases hb with rfl|rfl
        · exact hpb y hy
        · have:=(o31.lt y hy).2; omega
      · rw [show (k30+1).toNat=k30.toNat+1 by omega,<- zEy hj heq]
        exact o35
    · rw [show (k30+1).toNat=k30.toNat+1 by omega,zz1 hj hne]
      exact o31
  · obtain rfl:k30=3:=by omega
    refine ⟨i64 (by omega),⟨x31,by omega,by omega,c31,upN cur name vn 3,o31,fun i hi=>?_,fun x hx hsx=>?_⟩,by simp only []; omega⟩
    · rw [zEx hi]
      split
      · have:=zvr hpar hok.2
        omega
      · exact hr i hi
    · obtain ⟨i,hi,hi3,_,hname,hp2⟩:=hthis x hx hsx
      rw [hpar] at hp2
      injection hp2 with hp2
      rw [hp2,hname,show (k+1).toNat=k.toNat+1 by omega]
      exact zuq (hgd x hx hsx) hi
theorem zCo (s:List UInt8) (c:UInt8):(Lib.cut s [c]).1.length<=s.length:=by
  unfold Lib.cut
  split
  · simp only [List.length_take]; omega
  · exact Nat.le_refl _
def zEU (x:ByteArray):List UInt8×List UInt8×Bool:=Lib.cut x.data.toList [61]
def zKZ (x:ByteArray):Lb:=⟨ofL (zEU x).1,ofL (zEU x).2.1⟩
def zaq (c:UInt8) (s:ByteArray):List ByteArray:=Lib.splitB (one c) 0 (Lib.countB s (one c)) s
theorem zjF (c:UInt8) (s:ByteArray):(zaq c s).length=Lib.countB s (one c)+1:=zeH _ s rfl
theorem zhS {c:UInt8} {s:ByteArray} {i:Nat} {q:ByteArray} (h:(zaq c s)[i]?=some q):q.size+i<=s.size:=zcx _ s i q h
def zEY (s:ByteArray):Option (List Lb):=if s=⟨#[45]⟩ then some [] else if (zaq 44 s).all (fun x=>(zEU x).2.2) then some ((zaq 44 s).map zKZ) else none
theorem zGr (s:ByteArray) (hs:s.size<4294967281) (w:World) (g:GB w):FnP Tryz.prog zhi #[.string s] w fun v w'=>Ext w w'/\∃ (p:Option Addr) (n c:Nat) (ev:Value),v=.tuple #[.slice p n c,ev] /\
    ((zEY s=none/\EV ev 3)\/(∃ l,zEY s=some l/\EV ev 0/\n=l.length/\Own w.heap.size w' zmf 2 p n c (l.flatMap zsm)/\l.length<=4294967281/\∀ x∈l,x.key.size<=4294967281/\x.val.size<=4294967281)):=by
  refine zqH s w _ ⟨fun h w0 h0=>⟨h0,none,0,0,_,rfl,.inr ⟨[],by unfold zEY; rw [if_pos h],ev0,rfl,Own.nil,by simp,by simp⟩⟩,fun hne w0 h0=>?_⟩
  refine (zeU 44 s hs w0 (g.ext h0)).mono fun v w1 ⟨e1,hv,hc1,hlt1⟩=>⟨e1,_,_,_,hv,?_⟩
  have hlen:=zjF 44 s
  have hsz:=fun i q=>@zhS 44 s i q
  have hF:zEY s=if (zaq 44 s).all (fun x=>(zEU x).2.2) then some ((zaq 44 s).map zKZ) else none:=by unfold zEY; rw [if_neg hne]
  rw [hF]
  change zau w1 _ ((zaq 44 s).map Value.string) at hc1
  have hcnt:Lib.countB s (one 44)+1=(zaq 44 s).length:=hlen.symm
  rw [hcnt]
  have spn:(some (⟨w0.heap.size,0,none⟩:Addr))≠none:=by simp
  generalize (some (⟨w0.heap.size,0,none⟩:Addr))=sp at hc1 spn ⊢
  have hlen2:(zaq 44 s).length<=4294967281:=by
    obtain ⟨q,hq⟩:∃ q,(zaq 44 s)[(zaq 44 s).length-1]?=some q:=⟨_,List.getElem?_eq_getElem (by omega)⟩
    have:=hsz _ _ hq
    omega
  generalize zaq 44 s=S at hc1 hsz hlen2 ⊢
  have x1:=h0.trans e1
  have cb:∀ x:ByteArray,(ofL (zEU x).1).size<=x.size/\(ofL (zEU x).2.1).size<=x.size:=fun x=>by
    have h1:=zhB x.data.toList 61
    have h2:=zCo x.data.toList 61
    rw [zhy] at h1 h2
    exact ⟨by rw [zat]; exact h2,by rw [zat]; exact h1⟩
  refine ⟨fun p n c k w'=>Ext w1 w'/\0<=k/\k<=S.length/\n=k/\Own w1.heap.size w' zmf 2 p n c (((S.take k.toNat).map zKZ).flatMap zsm)/\∀ x∈S.take k.toNat,(zEU x).2.2=true,fun _ _ _ k _=>(S.length-k).toNat,⟨Ext.refl _,by omega,by omega,by simp,Own.nil,by simp⟩,?_⟩
  rintro p n c k w8 ⟨x8,hk0,hk1,hnk,o8,hall⟩
  refine ⟨fun hlt=>?_,fun hge w9 h9=>?_⟩
  · obtain ⟨q,hq⟩:∃ q,S[k.toNat]?=some q:=⟨_,List.getElem?_eq_getElem (by omega)⟩
    have hqs:=hsz _ _ hq
    have hcell:Go.Sx.cell w8 (pIdx sp k 1) 0=some (.string q):=by
      rw [zae]
      refine (hc1.ext x8) _ _ ?_
      simp [hq]
    refine ⟨spn,hk0,hlt,_,hcell,fun w10 h10=>(zwp 61 q (by omega) w10 ((g.ext (x1.trans x8)).ext h10)).mono fun v w11 ⟨e11,hv⟩=>⟨e11,_,_,_,hv,fun hf w15 h15=>?_,fun ht=>?_⟩⟩
    · refine zuR ⟨Ext.refl _,_,rfl,rfl,fun w18 h18=>zAL ⟨Ext.refl _,_,rfl,fun w21 h21=>⟨(((x1.trans x8).trans h15).trans h18).trans h21,none,0,0,_,rfl,.inl ⟨?_,zAv (by decide)⟩⟩⟩⟩
      rw [if_neg]
      intro h
      have:=List.all_eq_true.1 h q (List.mem_of_getElem? hq)
      unfold zEU at this
      rw [hf] at this; cases this
    · refine push (v:=.agg #[.string (zKZ q).key,.string (zKZ q).val]) zla (by omega) o8 x8.size rfl (by intro u hu; simp [Value.cells] at hu; rcases hu with rfl|rfl<;>rfl) (by omega) (by omega) (by omega) fun p' c' w' o' g' np=>⟨i64 (by omega),⟨g'.ext x8 o8,by omega,by omega,by omega,?_,?_⟩,by simp only []; omega⟩
      · rw [show (k+1).toNat=k.toNat+1 by omega,List.take_add_one,hq]
        simpa [Value.cells] using o'
      · rw [show (k+1).toNat=k.toNat+1 by omega,List.take_add_one,hq]
        intro x hx
        rcases List.mem_append.1 hx with hx|hx
        · exact hall x hx
        · simp at hx; subst hx; exact ht
  · have hk:k=S.length:=by omega
    subst hk
    have htake:S.take ((S.length:Int)).toNat=S:=by simp
    rw [htake] at o8 hall
    have hx9:=(x1.trans x8).trans h9
    refine ⟨hx9,p,n,c,_,rfl,.inr ⟨S.map zKZ,?_,ev0,by simp; omega,(o8.ext h9).weak (by have:=x1.size; omega),by simpa using hlen2,fun x hx=>?_⟩⟩
    · rw [if_pos (List.all_eq_true.2 fun x hx=>hall x hx)]
    · obtain ⟨y,hy,rfl⟩:=List.mem_map.1 hx
      obtain ⟨i,hi⟩:=List.mem_iff_getElem?.1 hy
      have:=hsz i y hi
      have:=cb y
      show (ofL (zEU y).1).size<=_/\(ofL (zEU y).2.1).size<=_
      omega
theorem zyG {B:Nat} {w:World} {p q:Option Addr} {n c d b7:Nat} {xs:List Value} {m:Hm} (o:Own B w zdM 8 p n c xs) (hB:B<=w.heap.size) (hl:zau w q (zjz m)) (hq:q≠none) (hb7:b7<w.heap.size) (hns:∀ x,p=some x->x.block≠b7) (hn:n<=1000)
    {J:Option Addr->Nat->Nat->World->Prop} (hk:∀ p' c' w',Own B w' zdM 8 p' (n+1) c' (xs++zjz m)->zcv w w' p p'->J p' (n+1) c' w') :
    Run Tryz.prog (.append #[34,34] 34 [.slice p n c,.slice q 1 d]) w fun v w'=>zbM [b7] w w'/\∃ q':Option Addr,∃ m':Nat,∃ d':Nat,v=.slice q' m' d'/\J q' m' d' w' :=
  zmZ zf6 (by omega) o hB hq (news:=zjz m) (by simp) hl (zyX m) (by omega) (by omega) fun p' c' w4 h2 h3 h4=>⟨fun b hb=>by
    simp at hb; subst hb
    refine h3.by_.block b hb7 fun he=>?_
    cases p with
    |none => cases he
    |some y => simp [blk] at he; exact hns y rfl he.symm,_,_,_,rfl,hk p' c' w4 h2 h3⟩
def zoo (name:ByteArray) (l:List Lb) (nd:Nd):Ht:=⟨name,l,nd,za3⟩
def zw9 (name w2 w3:ByteArray) (σ:DS) (c:Int) (s:ByteArray) (σ':DS):Prop:=∃ nd e,zAU w2 nd e/\((e≠0/\c=e/\σ'=σ)\/(e=0/\match zEY w3 with
  |none => c=3/\σ'=σ
  |some l => match σ with
    |.opn _ => c=9/\σ'=σ
    |.shut L => c=zlf (L++[zoo name l nd])/\((c≠0/\σ'=σ)\/(c=0/\s=⟨#[111,107]⟩/\σ'=.shut (L++[zoo name l nd])))))
section
variable {O:Nat->Prop} {B db:Nat} {w:World} {K:Kt}
theorem host_c (x:KX O B w db K) (g:GD w) (hBw:B<=w.heap.size) (wp:Option Addr) (wc:Nat) (ws:List ByteArray) (h4:ws.length=4)
    (hsz:∀ x∈ws,x.size<4294967281) (hw:zau w wp (ws.map Value.string)) :
    FnP Tryz.prog zeO #[.pointer (ptr db),.slice wp ws.length wc] w (CR O B db w K fun s c σ'=>zw9 (ws.getD 1 ⟨#[]⟩) (ws.getD 2 ⟨#[]⟩) (ws.getD 3 ⟨#[]⟩) K.st c s σ'):=by
  have ne:=zaG db
  obtain ⟨s0,s1,s2,s3,rfl⟩:∃ a b c d,ws=[a,b,c,d]:=by
    match ws,h4 with
    |[a,b,c,d],_ => exact ⟨a,b,c,d,rfl⟩
  have cell_:∀ {w':World} (i:Nat) (q:ByteArray),Ext w w'->([s0,s1,s2,s3]:List ByteArray)[i]?=some q->Go.Sx.cell w' (pIdx wp (i:Int) 1) 0=some (.string q):=fun {w'} i q hx hq=>by
    rw [zae]
    have:=hw.ext hx i (.string q) (by rw [List.getElem?_map,hq]; rfl)
    simpa using this
  have np:wp≠none:=fun h=>zak (cell_ 1 s1 (Ext.refl w) rfl) (zah.2 h)
  have z1:=hsz s1 (by simp)
  have z2:=hsz s2 (by simp)
  have z3:=hsz s3 (by simp)
  show FnP Tryz.prog zeO #[.pointer (ptr db),.slice wp 4 wc] w (CR O B db w K fun s c σ'=>zw9 s1 s2 s3 K.st c s σ')
  refine zmI (ptr db) wp 4 wc w _ ⟨np,by omega,by omega,_,cell_ 2 s2 (Ext.refl w) rfl,fun w1 x1=>(zGw s2 z2 w1 (g.gb.ext x1)).mono fun v w2 ⟨e2,nd,e,hv,hrd⟩=>⟨e2,nd.c,nd.m,nd.g,e,hv,fun b7 hb7=>⟨fun hne w8 x8=>zuR ⟨Ext.refl _,_,rfl,rfl,fun w11 x11=>zAL ⟨Ext.refl _,_,rfl,fun w14 h14=>?_⟩⟩,fun hz=>⟨np,by omega,by omega,_,cell_ 3 s3 (Ext.refl w) rfl,fun w9 x9=>?_⟩⟩⟩⟩
  · exact zcB x (((zaa x8).trans (zaa x11)).trans h14) (zAv hne) ⟨nd,e,hrd,.inl ⟨hne,rfl,rfl⟩⟩
  have h9:=zaa x9
  have hb9:=x9.lt b7 (by simp)
  refine (zGr s3 z3 w9 (g.gb.ext h9)).mono fun v w10 ⟨e10,lp,ln,lc,ev,hv,hor⟩=>⟨e10,lp,ln,lc,ev,hv,fun w15 h15=>?_⟩
  have h10:=h9.trans e10
  rcases hor with ⟨hno,hE⟩|⟨l,hl,hE,rfl,oL,hll,hls⟩
  · refine neE hE fun b hb=>⟨Ext.refl _,b,rfl,fun hbt w18 h18=>?_,fun hbf=>absurd (hb.1 hbf) (by decide)⟩
    exact zcB x (h10.trans h18) hE ⟨nd,e,hrd,.inr ⟨hz,by rw [hno]; exact ⟨rfl,rfl⟩⟩⟩
  refine neE hE fun b hb=>⟨Ext.refl _,b,rfl,fun hbt=>absurd (hb.2 rfl) (by rw [hbt]; decide),fun _=>⟨ne,ne,?_⟩⟩
  have y10:=x.ext h10
  rcases K.cases with hK|⟨fb,P,F,hK⟩
  rotate_left
  · refine ⟨_,y10.fbp hK,fun _ w19 x19=>zuR ⟨Ext.refl _,_,rfl,fun w22 h22=>?_⟩,fun h=>absurd h (zaG fb)⟩
    refine zcB x ((h10.trans (zaa x19)).trans h22) (zF0 (c:=9) (by decide)) ⟨nd,e,hrd,.inr ⟨hz,?_⟩⟩
    rw [hl,Kt.st_opn hK]
    exact ⟨rfl,rfl⟩
  obtain ⟨hn,⟨M,hM,hst⟩,hok,hO⟩:=x.shut hK
  have h30:=hok.1
  have hMl:M.length=K.L.length:=by rw [<- hM]; simp
  refine ⟨none,y10.nofp hK,fun h=>absurd rfl h,fun _=>?_⟩
  have hm:zjz ⟨zoo s1 l nd,lp,lc⟩=[.string s1,.slice lp l.length lc,.int .i64 nd.c,.int .i64 nd.m,.int .i64 nd.g,.int .i64 0,.int .i64 0,.int .i64 0]:=rfl
  generalize hmm:(⟨zoo s1 l nd,lp,lc⟩:Hm)=m at hm
  have hmv:(Value.agg #[.string s1,.slice lp l.length lc,.int .i64 nd.c,.int .i64 nd.m,.int .i64 nd.g,.int .i64 0,.int .i64 0,.int .i64 0]).cells.toList=zjz m:=by rw [hm]; rfl
  have lit:∀ {w26:World} {R:Value->World->Prop},(∀ q w27,q≠none->zau w27 q (zjz m)->Ext w26 w27->R (.slice q 1 1) w27)->Run Tryz.prog (.buildSlice 34 1 [(0,(.agg #[.string s1,.slice lp l.length lc,.int .i64 nd.c,.int .i64 nd.m,.int .i64 nd.g,.int .i64 0,.int .i64 0,.int .i64 0]))]) w26 R:=fun {w26 R} h =>
    zcD zf6 [.agg #[.string s1,.slice lp l.length lc,.int .i64 nd.c,.int .i64 nd.m,.int .i64 nd.g,.int .i64 0,.int .i64 0,.int .i64 0]] rfl rfl (fun u hu=>by simp at hu; subst hu; rfl) (by omega) (by omega) fun w27 o27 e27=>h _ w27 (by simp) (by
      have:=(o27 w26.heap.size (Nat.le_refl _)).cells
      simp only [List.flatMap_cons,List.flatMap_nil,List.append_nil,hmv] at this
      exact this) e27
  have rec_:∀ {w':World},Ext w w'->zgJ 8 zjz w' K.hp M:=fun e=>(hst _ (zac e)).1
  have clone:∀ {w26:World},Ext w w26->FnP Tryz.prog zaj #[.slice K.hp K.hn K.hc] w26 fun v w'=>Ext w26 w'/\∃ q' c',v=.slice q' M.length c'/\Own w26.heap.size w' zdM 8 q' M.length c' (M.flatMap zjz):=fun e=>by
    rw [hn,<- hMl]
    exact zr4 K.hp K.hc M (by omega) _ (rec_ e)
  have c10:Go.Sx.cell w10 (pAdd (ptr db) 0) 0=some (.slice K.hp K.hn K.hc):=y10.cell (i:=0) rfl
  refine ⟨fun all n c w21=>Ext w10 w21/\n=M.length+1/\Own w10.heap.size w21 zdM 8 all n c (M.flatMap zjz++zjz m),⟨ne,ne,_,_,_,c10,np,by omega,by omega,_,cell_ 1 s1 h10 rfl,fun w26 x26=>?_,fun w26 x26=>?_⟩,?_⟩
  · have h26:=zaa x26
    have hb26:=x26.lt b7 (by simp)
    refine (clone (h10.trans h26)).mono fun v w27 ⟨e27,q',c',hv,o27⟩=>⟨e27,q',M.length,c',hv,fun w31 x31=>lit fun q w32 hq hcq e32=>⟨e32,q,1,1,rfl,fun w36 x36=>?_⟩⟩
    have h36:=(((h26.trans e27).trans (zaa x31)).trans e32).trans (zaa x36)
    have o36:=(((o27.ext (zaa x31)).ext e32).ext (zaa x36)).weak h26.size
    refine zyG o36 h36.size (hcq.ext (zaa x36)) hq (x36.lt b7 (by simp)) (fun a ha he=>?_) (by omega) fun p' c'' w' o' g'=>⟨g'.ext h36 o36,rfl,o'⟩
    have:=(o27.lt a ha).1
    omega
  · have h26:=zaa x26
    have hb26:=x26.lt b7 (by simp)
    refine lit fun q w27 hq hcq e27=>⟨e27,q,1,1,rfl,fun w31 x31=>?_⟩
    have h31:=(h26.trans e27).trans (zaa x31)
    refine (clone (h10.trans h31)).mono fun v w32 ⟨e32,q',c',hv,o32⟩=>⟨e32,q',M.length,c',hv,fun w36 x36=>?_⟩
    have h36:=(h31.trans e32).trans (zaa x36)
    have o36:=(o32.ext (zaa x36)).weak h31.size
    refine zyG o36 h36.size (((hcq.ext (zaa x31)).ext e32).ext (zaa x36)) hq (x36.lt b7 (by simp)) (fun a ha he=>?_) (by omega) fun p' c'' w' o' g'=>⟨g'.ext h36 o36,rfl,o'⟩
    have:=(o32.lt a ha).1
    have:=x31.lt b7 (by simp)
    omega
  rintro all n c w21 ⟨x21,rfl,oA⟩ w22 h22
  have h21:=h10.trans x21
  have hflat:M.flatMap zjz++zjz m=(M++[m]).flatMap zjz:=by simp
  rw [hflat] at oA
  have hL':(M++[m]).map (·.h)=K.L++[zoo s1 l nd]:=by rw [List.map_append,hM,<- hmm]; rfl
  have hAl:∀ a,all=some a->w10.heap.size<=a.block:=fun a ha=>(oA.lt a ha).1
  have hdb:db<w.heap.size:=(x.slot.lt _ rfl).2
  have keep:∀ {w1 w2:World} {S:Nat->Prop},Ext w21 w1->Fr S w1 w2->(∀ b,S b->dO O db b)->zgJ 8 zjz w2 all (M++[m])/\∀ m'∈M++[m],Lbs w2 m'.q m'.h.labels:=fun {w1 w2 S} e1 f hS=>by
    have hSlt:∀ b,S b->b<w.heap.size:=fun b hb=>by
      rcases hS b hb with h|h
      · exact x.olt b h
      · rw [h]; exact hdb
    refine ⟨((oA.ext e1).fr f fun a ha hs=>?_).recs fun _ _=>rfl,fun m' hm'=>?_⟩
    · have:=hAl a ha; have:=hSlt _ hs; have:=h10.size; omega
    · rcases List.mem_append.1 hm' with hm'|hm'
      · exact (hst w2 ((zac (h21.trans e1)).tr (f.mono hS))).2 m' hm'
      · simp at hm'; subst hm'
        rw [<- hmm]
        refine (((oL.ext x21).ext e1).fr f fun a ha hs=>?_).recs fun _ _=>rfl
        have:=(oL.lt a ha).1; have:=hSlt _ hs; have:=h9.size; omega
  have hsH:zjv w22 all (K.L++[zoo s1 l nd]):=by
    rw [<- hL']
    obtain ⟨q1,q2⟩:=keep h22 (Fr.refl (fun _=>False) w22) (fun _ h=>h.elim)
    exact hs_of q1 q2
  have hlen':M.length+1=(K.L++[zoo s1 l nd]).length:=by simp [hMl]
  have hOk':∀ h∈K.L++[zoo s1 l nd],zwf h/\h.used=za3:=fun h hh=>by
    rcases List.mem_append.1 hh with hh|hh
    · exact hO h hh
    · simp at hh; subst hh
      refine ⟨⟨by show s1.size<=_; omega,by show l.length<=_; omega,fun y hy=>?_⟩,rfl⟩
      have:=hls y hy
      omega
  rw [hlen']
  refine (zur all c (K.L++[zoo s1 l nd]) (by rw [<- hlen']; omega) (fun h hh=>(hOk' h hh).1) w22 hsH).mono fun v w23 ⟨e23,hv⟩=>⟨e23,_,hv,fun hne w25 x25=>zuR ⟨Ext.refl _,_,rfl,fun w28 h28=>?_⟩,fun hz2=>⟨ne,ne,?_⟩⟩
  · refine zcB x ((h21.trans (zaa x25)).trans h28) (zF0 hne) ⟨nd,e,hrd,.inr ⟨hz,?_⟩⟩
    rw [hl,Kt.st_shut hK]
    exact ⟨rfl,.inl ⟨hne,rfl⟩⟩
  have y21:=x.ext h21
  refine zcp (off:=0) y21.slot (by simp) rfl (fun b hb y hy=>by simp at hb; subst hb; cases hy; show db≠b; omega) fun w25 o25 g25 w26 h26=>?_
  have f25:Fr (fun b=>b=db) w21 w25:=zaR g25 fun a ha=>by cases ha; rfl
  refine ⟨_,_,0,⟨all,(K.L++[zoo s1 l nd]).length,c,K.L++[zoo s1 l nd],none⟩,rfl,ev0,⟨?_,fun _=>⟨rfl,⟨M++[m],hL',fun w'' k=>?_⟩,zy1.1 hz2,hOk'⟩,fun fb P F e=>(by cases e),fun b hb=>?_,x.odis⟩,?_,fun b hb=>?_,⟨nd,e,hrd,.inr ⟨hz,?_⟩⟩⟩
  · have:dcs ⟨all,(K.L++[zoo s1 l nd]).length,c,K.L++[zoo s1 l nd],none⟩=(dcs K).set 0 (.slice all (K.L++[zoo s1 l nd]).length c):=by simp [dcs,Kt.fp,hK]
    rw [this]; exact o25.ext h26
  · exact keep (Ext.refl _) ((f25.mono fun b hb=>.inr hb).tr ((zac h26).tr k)) (fun b hb=>hb)
  · have:=x.olt b hb; have:=h21.size; have:=f25.size; have:=h26.size; omega
  · exact ((zac h21).tr (f25.mono fun b hb=>.inl hb)).tr (zac h26)
  · rcases hb with rfl|⟨fb',P1,F1,e,h⟩
    · exact .inl (.inl rfl)
    · cases e
  · rw [hl,Kt.st_shut hK]
    exact ⟨hz2.symm,.inr ⟨rfl,rfl,rfl⟩⟩
end
def sig:Nat->Nat×Bool
  |3 => (4,false)
  |7 => (1,false)
  |11 => (7,false)
  |15 => (6,true)
  |22 => (2,false)
  |26 => (1,true)
  |33 => (2,false)
  |40 => (2,false)
  |47 => (2,false)
  |51 => (2,false)
  |_ => (2,true)
theorem pv_cmd {db pb:Addr} {v:Value} {w:World}:∀ x∈KL,PV db pb x.2.2 v w->∃ f bd cap,v=.agg #[.int .i64 (sig x.2.2).1,.bool (sig x.2.2).2,.func f bd cap]:=by
  intro x hx
  simp only [KL,List.mem_cons,List.not_mem_nil,or_false] at hx
  rcases hx with rfl|rfl|rfl|rfl|rfl|rfl|rfl|rfl|rfl|rfl|rfl <;>
    (rintro ⟨f,bd,cap,e,_⟩; exact ⟨f,bd,cap,e⟩)
def zhA (k:ByteArray):Option Nat:=(KL.find? (fun x=>decide (x.1=k))).map (·.2.2)
def ztP (db:Nat) (w:World) (k:ByteArray) (t0:Int) (t1:Bool) (t2:Value) (ok:Bool):Prop :=
  (ok=false/\zhA k=none)\/(ok=true/\∃ (pb:Addr) (b:Nat),zhA k=some b/\w.cell? pb=some (.pointer (ptr db))/\PV ⟨db,0,none⟩ pb b (.agg #[.int .i64 t0,.bool t1,t2]) w/\t0=(sig b).1/\t1=(sig b).2/\t2.oneCell'=true)
theorem ztP.ext {db:Nat} {w w':World} {k:ByteArray} {t0:Int} {t1:Bool} {t2:Value} {ok:Bool} (h:ztP db w k t0 t1 t2 ok) (e:Ext w w'):ztP db w' k t0 t1 t2 ok:=by
  rcases h with h|⟨h1,pb,b,h2,h3,h4,h5⟩
  · exact .inl h
  · exact .inr ⟨h1,pb,b,h2,(Cst.of_ext e).cell h3,zjY _ _ _ _ _ _ (Cst.of_ext e) h4,h5⟩
def zBO (db:Nat) (w:World) (v:Value):Prop:=∃ pb mb M,v=.map (some mb)/\w.cell? pb=some (.pointer (ptr db))/\zdb Value.string w mb M/\∀ k,Tab ⟨db,0,none⟩ pb w k (ziw M k)
theorem zBO.ext {db:Nat} {w w':World} {v:Value} (h:zBO db w v) (e:Ext w w'):zBO db w' v:=by
  obtain ⟨pb,mb,M,h1,h2,h3,h4⟩:=h
  refine ⟨pb,mb,M,h1,(Cst.of_ext e).cell h2,h3.ext e,fun k=>?_⟩
  have:=h4 k
  unfold Tab at this ⊢
  split at this
  · obtain ⟨v,q1,q2⟩:=this
    exact ⟨v,q1,zjY _ _ _ _ _ _ (Cst.of_ext e) q2⟩
  · exact this
theorem zKH:(Tryz.prog.info? 252).map (·.zero)=some (some (.agg #[.int .i64 0,.bool false,.nilFunc])):=by kernel_rfl
theorem zpm {db:Nat} {w:World} {v:Value} (h:zBO db w v) (k:ByteArray) {K:Value->World->Prop}
    (hk:∀ t0 t1 t2 ok,ztP db w k t0 t1 t2 ok->t2.oneCell'=true->K (.tuple #[.agg #[.int .i64 t0,.bool t1,t2],.bool ok]) w):Run Tryz.prog (.lookup 254 v (.string k) true) w K:=by
  obtain ⟨pb,mb,M,rfl,h2,h3,h4⟩:=h
  obtain ⟨i,hi,hz⟩:∃ i,Tryz.prog.info? 252=some i/\i.zero=some (.agg #[.int .i64 0,.bool false,.nilFunc]):=by
    obtain ⟨i,h1,h2⟩:=Option.map_eq_some_iff.1 zKH
    exact ⟨i,h1,h2⟩
  refine zm1 (enc:=Value.string) kstr zIj hi hz h3 ?_
  have ht:=h4 k
  unfold Tab at ht
  split at ht
  · rename_i y j b he
    obtain ⟨u,hu,hpv⟩:=ht
    rw [hu]
    obtain ⟨f,bd,cap,rfl⟩:=pv_cmd _ (List.mem_of_find?_eq_some he) hpv
    exact hk _ _ _ true (.inr ⟨rfl,pb,b,by unfold zhA; rw [he]; rfl,h2,hpv,rfl,rfl,rfl⟩) rfl
  · rename_i he
    rw [ht]
    exact hk 0 false .nilFunc false (.inl ⟨rfl,by unfold zhA; rw [he]; rfl⟩) rfl
def DS.isShut:DS->Bool
  |.shut _ => true
  |.opn _ => false
def doW (R:Nat->List ByteArray->DS->Int->ByteArray->DS->Prop) (ws:List ByteArray) (σ:DS) (c:Int) (s:ByteArray) (σ':DS):Prop :=
  match zhA (ws.getD 0 ⟨#[]⟩) with
  |none => c=1/\σ'=σ
  |some b => if ws.length≠(sig b).1 then c=3/\σ'=σ else if (sig b).2=true/\σ.isShut=true then c=9/\σ'=σ else R b ws σ c s σ'
section
variable {O:Nat->Prop} {B db:Nat} {w:World} {K:Kt}
theorem do_k (R:Nat->List ByteArray->DS->Int->ByteArray->DS->Prop) (x:KX O B w db K) (g:GD w) (line:ByteArray) (hs:line.size<4294967281)
    (hcall:∀ (w1:World) (pb wp:Addr) (b:Nat) (wc:Nat) (t2:Value),Ext w w1->zhA ((zaq 32 line).getD 0 ⟨#[]⟩)=some b->w1.cell? pb=some (.pointer (ptr db))->PV ⟨db,0,none⟩ pb b (.agg #[.int .i64 (sig b).1,.bool (sig b).2,t2]) w1 ->
      (zaq 32 line).length=(sig b).1->(zaq 32 line).length<=wc->((sig b).2=true->K.st.isShut=false)->zau w1 (some wp) ((zaq 32 line).map Value.string)->(∀ x∈zaq 32 line,x.size<4294967281) ->
      zIq Tryz.prog t2 [.slice (some wp) (zaq 32 line).length wc] w1 (CR O B db w1 K fun s c σ'=>R b (zaq 32 line) K.st c s σ')) :
    FnP Tryz.prog zgh #[.pointer (ptr db),.string line] w (CR O B db w K fun s c σ'=>doW R (zaq 32 line) K.st c s σ'):=by
  have ne:=zaG db
  refine zpA (ptr db) line w _ fun w0 x0=>(zeU 32 line hs w0 (g.gb.ext x0)).mono fun v w1 ⟨e1,hv,hc1,hlt1⟩=>⟨e1,_,_,_,hv,?_⟩
  have hlen:Lib.countB line (one 32)+1=(zaq 32 line).length:=(zjF 32 line).symm
  have hszs:∀ y∈zaq 32 line,y.size<4294967281:=fun y hy=>by
    obtain ⟨i,hi⟩:=List.mem_iff_getElem?.1 hy
    have:=zhS hi
    omega
  change zau w1 _ ((zaq 32 line).map Value.string) at hc1
  have h0:0<(zaq 32 line).length:=by omega
  rw [hlen]
  generalize zaq 32 line=ws at hc1 hszs hcall h0 ⊢
  have x1:=x0.trans e1
  generalize hsp:(⟨w0.heap.size,0,none⟩:Addr)=sp at hc1
  have cw:∀ {w':World},Ext w1 w'->Go.Sx.cell w' (pIdx (some sp) 0 1) 0=some (.string (ws.getD 0 ⟨#[]⟩)):=fun e=>by
    rw [zae]
    refine (hc1.ext e) 0 _ ?_
    rw [List.getElem?_map,getElem?_getD ws ⟨#[]⟩ h0]; rfl
  have tab:∀ {w9:World},FnP Tryz.prog za6 #[.pointer (ptr db)] w9 fun v w'=>Ext w9 w'/\zBO db w' v:=fun {w9}=>(zAn ⟨db,0,none⟩ w9).mono fun v w' ⟨h1,pb,mb,M,h2,h3,h4,h5⟩=>⟨h1,pb,mb,M,h2,h3,h4,h5⟩
  have zu0:∀ v∈[Value.int .i64 0,.bool false,.nilFunc],v.oneCell'=true:=by intro v hv; simp at hv; rcases hv with rfl|rfl|rfl<;>rfl
  let J:Option Addr->Bool->World->Prop:=fun p ok w'=>Ext w1 w'/\∃ t0 t1 t2,ztP db w' (ws.getD 0 ⟨#[]⟩) t0 t1 t2 ok/\Go.Sx.cell w' (pAdd p 0) 0=some (.int .i64 t0)/\Go.Sx.cell w' (pAdd p 1) 0=some (.bool t1)/\Go.Sx.cell w' (pAdd p 2) 0=some t2/\p≠none
  have put:∀ {w13 w14 w20:World} {p:Option Addr} {t0:Int} {t1:Bool} {t2:Value} {ok:Bool},Ext w1 w13->zz8 w13 252 [.int .i64 0,.bool false,.nilFunc] p w14->Ext w14 w20->ztP db w20 (ws.getD 0 ⟨#[]⟩) t0 t1 t2 ok->t2.oneCell'=true ->
      zao w20 p [.int .i64 t0,.bool t1,t2] [] (J p ok):=fun {w13 w14 w20 p t0 t1 t2 ok} hx hn e hf h1=>by
    have o14:Own w13.heap.size w14 252 3 p 1 1 [.int .i64 0,.bool false,.nilFunc]:=by
      rw [hn.at_]
      exact ⟨by simp,.inr ⟨w13.heap.size,1,_,rfl,Nat.le_refl _,hn.block,Nat.le_refl _,by simp [maxLen],by simp,by simp⟩⟩
    have hblk:w20.heap[w13.heap.size]?=some (.cells #[.int .i64 0,.bool false,.nilFunc] 252):=by
      rw [e.block _ (by rw [hn.size]; omega)]; exact hn.block
    have hp:p≠none:=by rw [hn.at_]; simp
    refine zaW (off:=0) (o14.ext e) (zfa p) (by simp) (by simp) (by intro u hu; simp at hu; rcases hu with rfl|rfl|rfl<;>first|rfl|exact h1) (by simp) fun w21 o21 g21=>?_
    have e20:Ext w13 w20:=hn.ext.trans e
    have e21:Ext w13 w21:=g21.ext e20 (o14.ext e)
    have hcel:zKJ w20 w21:=fun q v hv hc=>by
      have hq:q.block≠w13.heap.size:=fun hq=>by
        unfold World.cell? at hc
        rw [hq,hblk] at hc
        simp only at hc
        split at hc
        · cases hc
        · have hm:=Array.mem_of_getElem? hc
          simp at hm
          rcases hm with rfl|rfl|rfl<;>exact hv
      have hlt:q.block<w20.heap.size:=by
        rcases Nat.lt_or_ge q.block w20.heap.size with h|h
        · exact h
        · unfold World.cell? at hc
          rw [Array.getElem?_eq_none h] at hc; cases hc
      rw [<- hc]
      exact World.cell?_of_block (w:=w20) (g21.by_.block q.block hlt (by rw [hn.at_]; simp [blk]; exact hq))
    have hcs:=o21.cells
    refine ⟨hx.trans e21,t0,t1,t2,?_,?_,?_,?_,hp⟩
    · rcases hf with h|⟨h1,pb,b,h2,h3,h4,h5⟩
      · exact .inl h
      · exact .inr ⟨h1,pb,b,h2,hcel _ _ trivial h3,zHt _ _ _ _ _ _ hcel h4,h5⟩
    · rw [zal]; exact hcs 0 _ rfl
    · rw [zal]; exact hcs 1 _ rfl
    · rw [zal]; exact hcs 2 _ rfl
  have new:∀ {w13:World} {T:Option Addr->World->Prop},(∀ p w14,zz8 w13 252 [.int .i64 0,.bool false,.nilFunc] p w14->T p w14)->New w13 252 [.int .i64 0,.bool false,.nilFunc] T:=fun h=>⟨zu0,h⟩
  refine ⟨J,⟨by simp,by omega,by omega,fun w9 x9=>tab.mono fun v w10 ⟨e10,hT⟩=>⟨e10,v,rfl,_,cw (x9.trans e10),fun w13 x13=>?_,fun w13 x13=>?_⟩,⟨_,cw (Ext.refl _),fun w10 x10=>tab.mono fun v w11 ⟨e11,hT⟩=>⟨e11,v,rfl,fun w13 x13=>?_,fun w13 x13=>?_⟩,fun w10 x10=>?_⟩,fun w9 x9=>?_⟩,?_⟩
  · exact zpm (hT.ext x13) _ fun t0 t1 t2 ok hf h1=>⟨Ext.refl _,t0,t1,t2,ok,rfl,fun w19 x19=>new fun p w20 hn=>put (((x9.trans e10).trans x13).trans x19) hn (Ext.refl _) (hf.ext (x19.trans hn.ext)) h1⟩
  · exact new fun p w14 hn w15 x15=>zpm (hT.ext ((x13.trans hn.ext).trans x15)) _ fun t0 t1 t2 ok hf h1=>⟨Ext.refl _,t0,t1,t2,ok,rfl,put ((x9.trans e10).trans x13) hn x15 hf h1⟩
  · exact zpm (hT.ext x13) _ fun t0 t1 t2 ok hf h1=>⟨Ext.refl _,t0,t1,t2,ok,rfl,fun w19 x19=>new fun p w20 hn=>put (((x10.trans e11).trans x13).trans x19) hn (Ext.refl _) (hf.ext (x19.trans hn.ext)) h1⟩
  · exact new fun p w14 hn w15 x15=>zpm (hT.ext ((x13.trans hn.ext).trans x15)) _ fun t0 t1 t2 ok hf h1=>⟨Ext.refl _,t0,t1,t2,ok,rfl,put ((x10.trans e11).trans x13) hn x15 hf h1⟩
  · exact new fun p w11 hn w12 x12=>tab.mono fun v w13 ⟨e13,hT⟩=>⟨e13,v,rfl,fun w15 x15=>zpm (hT.ext x15) _ fun t0 t1 t2 ok hf h1=>⟨Ext.refl _,t0,t1,t2,ok,rfl,put x10 hn ((x12.trans e13).trans x15) hf h1⟩⟩
  · refine new fun p w10 hn=>⟨fun w11 x11=>tab.mono fun v w12 ⟨e12,hT⟩=>⟨e12,v,rfl,_,cw ((((x9.trans hn.ext).trans x11).trans e12)),fun w15 x15=>zpm (hT.ext x15) _ fun t0 t1 t2 ok hf h1=>⟨Ext.refl _,t0,t1,t2,ok,rfl,put x9 hn ((x11.trans e12).trans x15) hf h1⟩⟩,_,cw (x9.trans hn.ext),fun w12 x12=>tab.mono fun v w13 ⟨e13,hT⟩=>⟨e13,v,rfl,fun w15 x15=>zpm (hT.ext x15) _ fun t0 t1 t2 ok hf h1=>⟨Ext.refl _,t0,t1,t2,ok,rfl,put x9 hn ((x12.trans e13).trans x15) hf h1⟩⟩⟩
  rintro p ok w8 ⟨x8,t0,t1,t2,hf,c0,c1,c2,hp⟩
  have h8:=x1.trans x8
  refine ⟨fun hok w9 x9=>zuR ⟨Ext.refl _,_,rfl,fun w12 h12=>zcB x ((h8.trans x9).trans h12) (zF0 (c:=1) (by decide)) ?_⟩,fun hok=>⟨hp,_,c0,?_⟩⟩
  · rcases hf with ⟨_,h⟩|⟨h,_⟩
    · unfold doW; rw [h]; exact ⟨rfl,rfl⟩
    · rw [hok] at h; cases h
  rcases hf with ⟨h,_⟩|⟨_,pb,b,hcm,hpb,hpv,rfl,rfl,_⟩
  · rw [hok] at h; cases h
  refine ⟨fun hne w10 x10=>zuR ⟨Ext.refl _,_,rfl,rfl,fun w13 x13=>zAL ⟨Ext.refl _,_,rfl,fun w16 h16=>zcB x (((h8.trans x10).trans x13).trans h16) (zAv (c:=3) (by decide)) ?_⟩⟩,fun heq=>⟨hp,_,c1,fun _=>ne,fun _=>ne,fun ht=>?_,fun hfl=>⟨hp,_,c2,fun w12 x12=>?_⟩⟩⟩
  · unfold doW; rw [hcm]
    simp only []
    rw [if_pos (by omega)]
    first|exact ⟨rfl,rfl⟩|simp
  · have hR:∀ (s:ByteArray) (c:Int) (σ:DS),K.st.isShut=false->R b ws K.st c s σ->doW R ws K.st c s σ:=fun s c σ hsh h=>by
      unfold doW; rw [hcm]
      simp only []
      rw [if_neg (by omega),if_neg (by rw [hsh]; simp)]
      exact h
    rcases K.cases with hK|⟨fb,P,F,hK⟩
    · refine ⟨none,(x.ext h8).nofp hK,fun _ w12 x12=>zuR ⟨Ext.refl _,_,rfl,fun w15 h15=>zcB x ((h8.trans x12).trans h15) (zF0 (c:=9) (by decide)) ?_⟩,fun h=>absurd rfl h⟩
      unfold doW; rw [hcm]
      simp only []
      rw [if_neg (by omega),if_pos ⟨ht,by rw [Kt.st_shut hK]; rfl⟩]
      first|exact ⟨rfl,rfl⟩|simp
    · refine ⟨ptr fb,(x.ext h8).fbp hK,fun h=>absurd h (zaG fb),fun _=>⟨hp,_,c2,fun w13 x13=>?_⟩⟩
      have hsh:K.st.isShut=false:=by rw [Kt.st_opn hK]; rfl
      have hx:=h8.trans x13
      obtain ⟨f,bd,cap,e1,e2⟩:=hcall w13 pb sp b ws.length t2 hx hcm ((Cst.of_ext x13).cell hpb) (zjY _ _ _ _ _ _ (Cst.of_ext x13) hpv) (by omega) (Nat.le_refl _) (fun _=>hsh) (hc1.ext (x8.trans x13)) hszs
      refine ⟨f,bd,cap,e1,e2.mono fun v w14 hC=>?_⟩
      obtain ⟨s,ev,c,K',hv,q1,q2,q3,q4,q5⟩:=zwL hx hC
      exact ⟨s,ev,hv,fun w17 h17=>⟨s,ev,c,K',rfl,q1,q2.ext h17,q3.tr (zac h17),q4,hR _ _ _ hsh q5⟩⟩
  · have hx:=h8.trans x12
    obtain ⟨f,bd,cap,e1,e2⟩:=hcall w12 pb sp b ws.length t2 hx hcm ((Cst.of_ext x12).cell hpb) (zjY _ _ _ _ _ _ (Cst.of_ext x12) hpv) (by omega) (Nat.le_refl _) (fun h=>by rw [hfl] at h; cases h) (hc1.ext (x8.trans x12)) hszs
    refine ⟨f,bd,cap,e1,e2.mono fun v w14 hC=>?_⟩
    obtain ⟨s,ev,c,K',hv,q1,q2,q3,q4,q5⟩:=zwL hx hC
    refine ⟨s,ev,hv,fun w17 h17=>⟨s,ev,c,K',rfl,q1,q2.ext h17,q3.tr (zac h17),q4,?_⟩⟩
    unfold doW; rw [hcm]
    simp only []
    rw [if_neg (by omega),if_neg (by rw [hfl]; simp)]
    exact q5
end
theorem As_k {W0 w:World} {v:Value} {c:Int} (he:EV v c) (g:GD w) {t:Addr} {old:Value} (hx:Ext W0 w) (ht:W0.heap.size<=t.block) (hc:w.cell? t=some old) (hf:w.frozen? t=false) :
    FnP Tryz.prog zoJ #[v,.iface 196 (.pointer (some t))] w fun u w'=>Ext W0 w'/\∃ b:Bool,u=.bool b/\((c=0/\b=false)\/(c≠0/\b=true/\Go.Sx.cell w' (some t) 0=some (.int .i64 c))):=by
  refine ⟨fun args w=>Tryz.call104 args w,?_⟩
  have hg:w.cell? ⟨0,0,none⟩=some (.iface 329 (.agg #[.pointer (some ⟨11,175,none⟩)])):=zwJ g.eType
  have al:∀ {w':World} (o:Obj),Ext W0 w'->Ext W0 (w'.alloc o):=fun o h=>Below.alloc h h.size o
  have lt:t.block<w.heap.size:=by
    rcases Nat.lt_or_ge t.block w.heap.size with h|h
    · exact h
    · unfold World.cell? at hc
      rw [Array.getElem?_eq_none h] at hc; cases hc
  have ca:∀ {w':World} (o:Obj),t.block<w'.heap.size->w'.cell? t=some old->(w'.alloc o).cell? t=some old/\t.block<(w'.alloc o).heap.size:=fun {w'} o h1 h2=>⟨by rw [World.cell?_alloc_lt _ _ t h1]; exact h2,by rw [zBV]; omega⟩
  have fin:∀ {w':World},Ext W0 w'->w'.cell? t=some old->Ext W0 (w'.setCell t (.int .i64 c))/\Go.Sx.cell (w'.setCell t (.int .i64 c)) (some t) 0=some (.int .i64 c):=fun {w'} h1 h2=>⟨Below.setCell h1 ht _,zgo (World.cell?_setCell_same w' t _ h2)⟩
  rcases he with ⟨h0,rfl⟩|⟨h0,rfl|⟨k,rfl⟩⟩
  · exact (as_nil _ w).mono fun e w' ⟨h1,h2⟩=>⟨_,h1,by rw [h2]; exact hx,false,rfl,.inl ⟨h0,rfl⟩⟩
  · refine (as_hit c t old w hg hc hf).mono fun e w' ⟨h1,o1,o2,o3,o4,h2⟩=>⟨_,h1,?_⟩
    obtain ⟨a1,b1⟩:=ca o1 lt hc
    obtain ⟨a2,b2⟩:=ca o2 b1 a1
    obtain ⟨a3,b3⟩:=ca o3 b2 a2
    obtain ⟨a4,b4⟩:=ca o4 b3 a3
    obtain ⟨q1,q2⟩:=fin (al o4 (al o3 (al o2 (al o1 hx)))) a4
    rw [h2]
    exact ⟨q1,true,rfl,.inr ⟨h0,rfl,q2⟩⟩
  · refine (zIT k c t old w hg hc hf).mono fun e w' ⟨h1,o1,o2,o3,o4,o5,h2⟩=>⟨_,h1,?_⟩
    obtain ⟨a1,b1⟩:=ca o1 lt hc
    obtain ⟨a2,b2⟩:=ca o2 b1 a1
    obtain ⟨a3,b3⟩:=ca o3 b2 a2
    obtain ⟨a4,b4⟩:=ca o4 b3 a3
    obtain ⟨a5,b5⟩:=ca o5 b4 a4
    obtain ⟨q1,q2⟩:=fin (al o5 (al o4 (al o3 (al o2 (al o1 hx))))) a5
    rw [h2]
    exact ⟨q1,true,rfl,.inr ⟨h0,rfl,q2⟩⟩
def zAg (c:Int) (s:ByteArray):ByteArray:=if c=0 then s else (⟨#[101,114,114,32]⟩:ByteArray)++ofL (Lib.itoa c)
abbrev zEH:=Nat->List ByteArray->DS->Int->ByteArray->DS->Prop
def doD (R:zEH) (line:ByteArray) (σ:DS) (a:ByteArray) (σ':DS):Prop:=∃ c s,doW R (zaq 32 line) σ c s σ'/\a=zAg c s
def zoF (R:zEH) (line:ByteArray):Prop:=∀ (O:Nat->Prop) (B db:Nat) (K:Kt) (w1:World) (pb wp:Addr) (b:Nat) (wc:Nat) (t2:Value),KX O B w1 db K->GD w1->11<=B->B<=w1.heap.size->zhA ((zaq 32 line).getD 0 ⟨#[]⟩)=some b->w1.cell? pb=some (.pointer (ptr db)) ->
  PV ⟨db,0,none⟩ pb b (.agg #[.int .i64 (sig b).1,.bool (sig b).2,t2]) w1->(zaq 32 line).length=(sig b).1->(zaq 32 line).length<=wc->((sig b).2=true->K.st.isShut=false)->zau w1 (some wp) ((zaq 32 line).map Value.string)->(∀ x∈zaq 32 line,x.size<4294967281) ->
  zIq Tryz.prog t2 [.slice (some wp) (zaq 32 line).length wc] w1 (CR O B db w1 K fun s c σ'=>R b (zaq 32 line) K.st c s σ'/\InR .i64 c)
section
variable {O:Nat->Prop} {B db:Nat} {w:World} {K:Kt}
theorem Do_kD (R:zEH) (x:KX O B w db K) (g:GD w) (hB:11<=B) (hBw:B<=w.heap.size) (line:ByteArray) (hs:line.size<4294967281) (hcall:zoF R line) :
    FnP Tryz.prog zeu #[.pointer (ptr db),.string line] w fun v w'=>∃ (a:ByteArray) (K':Kt),v=.string a/\KX O B w' db K'/\Fr (KF db K) w w'/\zuE w db K K'/\doD R line K.st a K'.st:=by
  refine zpz (ptr db) line w _ fun w0 x0=>(do_k (fun b ws σ c s σ'=>R b ws σ c s σ'/\InR .i64 c) (x.ext x0) (g.ext x0) line hs fun w1 pb wp b wc t2 x1 a1 a2 a3 a4 a5 a6 a7 a8=>hcall O B db K w1 pb wp b wc t2 ((x.ext x0).ext x1) ((g.ext x0).ext x1) hB (Nat.le_trans hBw (Nat.le_trans x0.size x1.size)) a1 a2 a3 a4 a5 a6 a7 a8).mono fun v w1 hC=>?_
  obtain ⟨s,ev,c,K',rfl,hE,hX,hF,hG,hR⟩:=zwL x0 hC
  have hRR:doW R (zaq 32 line) K.st c s K'.st/\InR .i64 c:=by
    unfold doW at hR ⊢
    split at hR
    · exact ⟨hR,by rw [hR.1]; exact i64 (by omega)⟩
    · split at hR
      · rename_i h; rw [if_pos h]; exact ⟨hR,by rw [hR.1]; exact i64 (by omega)⟩
      · rename_i h
        rw [if_neg h]
        split at hR
        · rename_i h; rw [if_pos h]; exact ⟨hR,by rw [hR.1]; exact i64 (by omega)⟩
        · rename_i h; rw [if_neg h]; exact hR
  have g1:GD w1:=g.fr hF fun b hb=>Nat.le_trans hB (x.foot hb).1
  refine ⟨s,ev,rfl,fun w4 x4=>⟨by simp [Value.oneCell'],fun p w5 hn w6 x6=>zfF (d:=.pointer 24) (by kernel_rfl) (by intro m hm; cases hm) ⟨Ext.refl _,_,rfl,fun w9 x9=>?_⟩⟩⟩
  obtain ⟨q,rfl,hq⟩:=zlv hn
  have hqb:q=⟨w4.heap.size,0,none⟩:=by have:=hn.at_; injection this
  have h49:Ext w4 w9:=(hn.ext.trans x6).trans x9
  have h59:Ext w5 w9:=x6.trans x9
  have h19:Ext w1 w9:=x4.trans h49
  have hfz:w9.frozen? q=false:=by
    have hb:w9.heap[w4.heap.size]?=some (.cells #[.int .i64 0] 24):=by rw [h59.block _ (by rw [hn.size]; omega)]; exact hn.block
    unfold World.frozen?
    rw [hqb]
    simp only [hb]
    rfl
  refine (As_k hE (g1.ext h19) h49 (by rw [hqb]; exact Nat.le_refl _) ((Cst.of_ext h59).cell hq) hfz).mono fun u w10 ⟨e10,b,hu,hb⟩=>⟨b,hu,fun hbt=>?_,fun hbf w12 h12=>?_⟩
  · rcases hb with ⟨_,h⟩|⟨hc,_,hcell⟩
    · rw [hbt] at h; cases h
    · refine ⟨c,hcell,fun w13 h13=>(znt c (zhF hRR.2) w13 (((g1.ext x4).ext e10).ext h13).gb).mono fun v w14 ⟨e14,hv⟩=>⟨e14,_,hv,?_,fun w16 h16=>?_⟩⟩
      · have:=Lib.itoa_length_le c (zhF hRR.2).1 (zhF hRR.2).2
        unfold zdk
        rw [zat]
        show 4+_<=_
        omega
      · have hx:=(x4.trans e10).trans h16
        exact ⟨_,K',rfl,hX.ext hx,hF.tr (zac hx),hG,c,s,hRR.1,by unfold zAg; rw [if_neg hc]⟩
  · rcases hb with ⟨hc,_⟩|⟨_,h,_⟩
    · have hx:=(x4.trans e10).trans h12
      exact ⟨s,K',rfl,hX.ext hx,hF.tr (zac hx),hG,c,s,hRR.1,by unfold zAg; rw [if_pos hc]⟩
    · rw [hbf] at h; cases h
end
inductive zc5 (R:zEH):List ByteArray->DS->List ByteArray->DS->Prop
  |nil (σ:DS):zc5 R [] σ [] σ
  |snoc {ls:List ByteArray} {l:ByteArray} {σ σ1 σ2:DS} {us:List ByteArray} {a:ByteArray}:zc5 R ls σ us σ1->doD R l σ1 a σ2->zc5 R (ls++[l]) σ (us++[a]) σ2
theorem zc5.len {R:zEH} {ls us:List ByteArray} {σ σ':DS} (h:zc5 R ls σ us σ'):us.length=ls.length:=by
  induction h with
  |nil => rfl
  |snoc _ _ ih => simp [ih]
theorem zBC (R:zEH) (lines:List ByteArray) (p:Option Addr) (c:Nat) (w:World) (g:GD w) (h6:11<=w.heap.size) (hw:zau w p (lines.map Value.string)) (h63:(lines.length:Int)<=9223372036854775807) (hs:∀ x∈lines,x.size<4294967281) (hcall:∀ x∈lines,zoF R x) :
    FnP Tryz.prog zcg #[.slice p lines.length c] w fun v w'=>Ext w w'/\((100<lines.length/\v=.tuple #[.slice none 0 0,.int .i64 2])\/(lines.length<=100/\∃ (us:List ByteArray) (σ:DS) (q:Option Addr) (d:Nat),v=.tuple #[.slice q lines.length d,.int .i64 0]/\zc5 R lines (.shut []) us σ/\Own w.heap.size w' zay 1 q lines.length d (us.map Value.string))):=by
  refine zu9 p lines.length c w _ ⟨fun h w0 h0=>⟨h0,.inl ⟨by omega,rfl⟩⟩,fun hle w0 h0=>(zCs w0).mono fun v w1 ⟨e1,db,hv,x1⟩=>⟨e1,ptr db,hv,?_⟩⟩
  have hx1:=h0.trans e1
  refine ⟨fun q n d k w6=>Ext w0 w6/\0<=k/\k<=lines.length/\n=k/\∃ (us:List ByteArray) (K:Kt),zc5 R (lines.take k.toNat) (.shut []) us K.st/\Own w0.heap.size w6 zay 1 q n d (us.map Value.string)/\KX (fun b=>b<w0.heap.size\/∃ a,q=some a/\a.block=b) w0.heap.size w6 db K,fun _ _ _ k _=>(lines.length-k).toNat,⟨e1,by omega,by omega,by simp,[],_,zc5.nil _,Own.nil,x1.go (S:=fun _=>False) (Fr.refl _ _) (fun _ h=>h.elim) fun b hb=>?_⟩,?_⟩
  · rcases hb with hb|⟨a,ha,_⟩
    · exact .inl hb
    · cases ha
  rintro q n d k w6 ⟨x6,hk0,hk1,hnk,us,K,hp,oA,hX⟩
  have hal:=hp.len
  rw [List.length_take] at hal
  refine ⟨fun hlt=>?_,fun hge w7 h7=>?_⟩
  · obtain ⟨l,hl⟩:∃ l,lines[k.toNat]?=some l:=⟨_,List.getElem?_eq_getElem (by omega)⟩
    have hm:=List.mem_of_getElem? hl
    have hcell:Go.Sx.cell w6 (pIdx p k 1) 0=some (.string l):=by
      rw [zae]
      refine (hw.ext (h0.trans x6)) _ _ ?_
      simp [hl]
    refine ⟨fun hq=>zak hcell (zah.2 hq),hk0,hlt,l,hcell,fun w8 x8=>?_⟩
    have hsz:w0.heap.size<=w8.heap.size:=(x6.trans x8).size
    refine (Do_kD R (hX.ext x8) (g.ext ((h0.trans x6).trans x8)) (Nat.le_trans h6 h0.size) hsz l (hs l hm) (hcall l hm)).mono fun v w9 ⟨a,K',hv,hX',hF,hG,hD⟩=>⟨a,hv,?_⟩
    have o9:Own w0.heap.size w9 zay 1 q n d (us.map Value.string):=(oA.ext x8).fr hF fun b hb hk=>(hX.ext x8).oft (.inr ⟨b,hb,rfl⟩) hk
    have e9:Ext w0 w9:=(hX.ext x8).keep (x6.trans x8) (Nat.le_refl _) hF
    refine push (v:=.string a) zbX (by omega) o9 e9.size rfl (by intro u hu; simp [Value.cells] at hu; subst hu; rfl) (by omega) (by omega) (by omega) fun q' d' w' o' g' np=>⟨i64 (by omega),⟨g'.ext e9 o9,by omega,by omega,by omega,us++[a],K',?_,?_,?_⟩,by simp only []; omega⟩
    · rw [show (k+1).toNat=k.toNat+1 by omega,List.take_add_one,hl]
      exact zc5.snoc hp hD
    · simpa [Value.cells] using o'
    · refine hX'.go (zaR (S:=fun b=>∃ a,q=some a/\a.block=b) g' fun a ha=>⟨a,ha,rfl⟩) (fun b hb=>.inr hb) fun b hb=>?_
      rcases hb with hb|⟨a',ha',rfl⟩
      · exact .inl (.inl hb)
      · have hlt':=(o'.lt a' ha').2
        rcases g'.new with hn|hn
        · left; right
          subst ha'
          cases q with
          |none => simp [blk] at hn
          |some z => simp [blk] at hn; exact ⟨z,rfl,hn.symm⟩
        · exact .inr ⟨hn a' ha',hlt'⟩
  · have hk:k=lines.length:=by omega
    subst hk
    have htake:lines.take ((lines.length:Int)).toNat=lines:=by simp
    rw [htake] at hp
    have hn:n=lines.length:=by omega
    subst hn
    exact ⟨(h0.trans x6).trans h7,.inr ⟨by omega,us,K.st,q,d,rfl,hp,(oA.ext h7).weak h0.size⟩⟩
abbrev zEG:=List ByteArray->DS->Int->ByteArray->DS->Prop
def zqk (N Fr_:zEG):zEH
  |3,ws,σ,c,s,σ' => zw9 (ws.getD 1 ⟨#[]⟩) (ws.getD 2 ⟨#[]⟩) (ws.getD 3 ⟨#[]⟩) σ c s σ'
  |7,_,σ,c,s,σ' => zxI σ c s σ'
  |11,ws,σ,c,s,σ' => N ws σ c s σ'
  |15,ws,σ,c,s,σ' => zjg (zn2 ws 1) σ c s σ'
  |22,ws,σ,c,s,σ' => zqX ztq (ws.getD 1 ⟨#[]⟩) σ s c σ'
  |26,_,σ,c,s,σ' => zxL σ c s σ'
  |33,ws,σ,c,s,σ' => zqX (zwm true) (ws.getD 1 ⟨#[]⟩) σ s c σ'
  |40,ws,σ,c,s,σ' => zqX (zwm false) (ws.getD 1 ⟨#[]⟩) σ s c σ'
  |47,ws,σ,c,s,σ' => zqX zFy (ws.getD 1 ⟨#[]⟩) σ s c σ'
  |51,ws,σ,c,s,σ' => zD4 (ws.getD 1 ⟨#[]⟩) σ c s σ'
  |55,ws,σ,c,s,σ' => Fr_ ws σ c s σ'
  |_,_,_,_,_,_ => False
def zaB (c:Int):Prop:=0<=c/\c<=10
theorem zaB.inR {c:Int} (h:zaB c):InR .i64 c:=i64 (by unfold zaB at h; omega)
theorem zmD {s:ByteArray} {n c:Int} (h:zGC s n c):zaB c:=by rcases h with ⟨h,_⟩|⟨h,_⟩<;>(unfold zaB; omega)
theorem zrT {F:Fm} {id e:Int} (h:ztL F id e):zaB e:=by rcases h with ⟨_,h⟩|⟨_,h⟩<;>(unfold zaB; omega)
theorem zxQ {s:ByteArray} {a:Nd} {e:Int} (h:zAU s a e):zaB e:=by
  unfold zaB
  by_cases h0:e=0
  · omega
  · by_cases h4:e=4
    · omega
    · have:=h.2.2.2.1 h0 h4; omega
theorem zuG:∀ (l:List Lb) (seen:List ByteArray),zaB (lbE seen l)
  |[],seen => by unfold lbE zaB; omega
  |x::r,seen => by
    rw [lbE]
    split
    · split
      · unfold zaB; omega
      · exact zuG r _
    · unfold zaB; omega
theorem zGd (seen:List ByteArray) (h:Ht):zaB (hE seen h):=by
  unfold hE
  split; · unfold zaB; omega
  split; · unfold zaB; omega
  split; · unfold zaB; omega
  split; · exact zuG _ _
  split; · unfold zaB; omega
  split; · unfold zaB; omega
  split<;>(unfold zaB; omega)
theorem zut:∀ (L:List Ht) (seen:List ByteArray),zaB (hsE seen L)
  |[],seen => by unfold hsE zaB; omega
  |x::r,seen => by
    rw [hsE]
    split
    · exact zGd _ _
    · exact zut r _
theorem zwR (L:List Ht):zaB (zlf L):=by
  unfold zlf
  split
  · unfold zaB; omega
  · exact zut _ _
theorem zx5 {F:Fm} {n e:Int} {σ:DS} (h:ztq F n e σ):zaB e:=by rcases h with ⟨h,_⟩|⟨h,_⟩<;>(unfold zaB; omega)
theorem zrU {ok:Bool} {F:Fm} {n e:Int} {σ:DS} (h:zwm ok F n e σ):zaB e:=by
  rcases h with ⟨_,h,_⟩|⟨h,_⟩
  · exact zrT h
  · unfold zaB; omega
theorem zAl {F:Fm} {n e:Int} {σ:DS} (h:zFy F n e σ):zaB e:=by
  rcases h with ⟨_,h,_⟩|⟨h,_⟩
  · exact zrT h
  · unfold zaB; omega
theorem zhX {R:Fm->Int->Int->DS->Prop} (hR:∀ F n e σ,R F n e σ->zaB e) {word:ByteArray} {σ:DS} {s:ByteArray} {c:Int} {σ':DS} (h:zqX R word σ s c σ'):zaB c:=by
  obtain ⟨n,c1,hn,⟨_,rfl,_⟩|⟨_,_,h⟩⟩:=h
  · exact zmD hn
  · unfold zJ5 at h
    split at h
    · unfold zaB; omega
    · exact hR _ _ _ _ h
theorem zxa {a b c0:ByteArray} {σ:DS} {c:Int} {s:ByteArray} {σ':DS} (h:zw9 a b c0 σ c s σ'):zaB c:=by
  obtain ⟨nd,e,hr,⟨_,rfl,_⟩|⟨_,h⟩⟩:=h
  · exact zxQ hr
  · split at h
    · unfold zaB; omega
    · split at h
      · unfold zaB; omega
      · rw [h.1]; exact zwR _
theorem zxJ {σ:DS} {c:Int} {s:ByteArray} {σ':DS} (h:zxI σ c s σ'):zaB c:=by
  unfold zxI at h
  split at h<;>(unfold zaB; omega)
theorem zxM {σ:DS} {c:Int} {s:ByteArray} {σ':DS} (h:zxL σ c s σ'):zaB c:=by
  unfold zxL at h
  split at h
  · exact h.elim
  · unfold zaB; omega
theorem zxY {word:ByteArray} {σ:DS} {c:Int} {s:ByteArray} {σ':DS} (h:zD4 word σ c s σ'):zaB c:=by
  obtain ⟨_,n,c1,hn,⟨_,rfl⟩|⟨_,h⟩⟩:=h
  · exact zmD hn
  · split at h
    · unfold zaB; omega
    · rcases h with ⟨_,h,_⟩|⟨_,h⟩<;>(unfold zaB; omega)
theorem zto {t:ByteArray} {σ:DS} {c:Int} {s:ByteArray} {σ':DS} (h:zjg t σ c s σ'):zaB c:=by
  unfold zjg at h
  split at h
  · exact h.elim
  · obtain ⟨e,j,hr,⟨h0,rfl,_⟩|⟨h0,hS,_⟩⟩:=h
    · unfold zaB
      obtain ⟨r1,r2,_⟩:=hr
      by_cases hz:3000<t.size
      · have:=r1 hz; omega
      · have:=r2 (by omega); omega
    · have hj:=zgp.2 (hr.2.2.1 h0).ok
      unfold zaB
      rcases hS with ⟨h1,_⟩|⟨_,⟨_,h⟩|⟨_,⟨_,h⟩|⟨_,⟨_,h⟩|⟨_,h⟩⟩⟩⟩<;>omega
theorem zwC {a b c d e f:Value} (h:Value.agg #[a,b,c]=.agg #[d,e,f]):c=f:=by
  have:=congrArg Value.cells h
  simp [Value.cells] at this
  exact this.2.2
theorem zml (N Fr_:zEG) (line:ByteArray) (h11:zhA ((zaq 32 line).getD 0 ⟨#[]⟩)=some 11->False) (h55:zhA ((zaq 32 line).getD 0 ⟨#[]⟩)=some 55->False):zoF (zqk N Fr_) line:=by
  intro O B db K w1 pb wp b wc t2 x g hB hBw hcm hpb hpv hlen hcap hsh hw hszs
  generalize zaq 32 line=ws at *
  have hb:b=3\/b=7\/b=11\/b=15\/b=22\/b=26\/b=33\/b=40\/b=47\/b=51\/b=55:=by
    unfold zhA at hcm
    obtain ⟨e,he,rfl⟩:=Option.map_eq_some_iff.1 hcm
    have:=List.mem_of_find?_eq_some he
    simp only [KL,List.mem_cons,List.not_mem_nil,or_false] at this
    rcases this with rfl|rfl|rfl|rfl|rfl|rfl|rfl|rfl|rfl|rfl|rfl<;>simp
  have hsz1:(ws.getD 1 ⟨#[]⟩).size<=281474976710656:=by
    by_cases h1:1<ws.length
    · have:=hszs _ (zan ws ⟨#[]⟩ h1); omega
    · rw [List.getD_eq_getElem?_getD,List.getElem?_eq_none (by omega)]
      exact Nat.zero_le _
  have hszs':∀ y∈ws,y.size<=4294967281:=fun y hy=>by have:=hszs y hy; omega
  have opn:(sig b).2=true->∃ fb P F,K.farm=some (fb,P,F):=fun h=>by
    rcases K.cases with hK|h'
    · have:=hsh h; rw [Kt.st_shut hK] at this; cases this
    · exact h'
  have meth:∀ {F:FuncId} {Rr:ByteArray->Int->DS->Prop},(∃ f bd cap,(Value.agg #[.int .i64 (sig b).1,.bool (sig b).2,t2])=.agg #[.int .i64 (sig b).1,.bool (sig b).2,.func f bd cap]/\zbp ⟨db,0,none⟩ F (.func f bd cap)) ->
      FnP Tryz.prog F #[.pointer (ptr db),.slice (some wp) ws.length wc] w1 (CR O B db w1 K Rr)->(∀ s c σ,Rr s c σ->zqk N Fr_ b ws K.st c s σ/\InR .i64 c) ->
      zIq Tryz.prog t2 [.slice (some wp) ws.length wc] w1 (CR O B db w1 K fun s c σ'=>zqk N Fr_ b ws K.st c s σ'/\InR .i64 c):=fun {F Rr} h1 h2 h3=>by
    obtain ⟨f,bd,cap,e1,e2⟩:=h1
    have e3:=zwC e1
    unfold zbp at e2
    rw [<- e3] at e2
    exact ⟨F,_,_,e2,h2.mono fun v w' h=>h.mono h3⟩
  have clo:∀ {Rr:ByteArray->Int->DS->Prop},(∃ f' cap,t2=.func (.func f') #[] cap/\FnP Tryz.prog f' (#[.slice (some wp) ws.length wc]++cap) w1 (CR O B db w1 K Rr))->(∀ s c σ,Rr s c σ->zqk N Fr_ b ws K.st c s σ/\InR .i64 c) ->
      zIq Tryz.prog t2 [.slice (some wp) ws.length wc] w1 (CR O B db w1 K fun s c σ'=>zqk N Fr_ b ws K.st c s σ'/\InR .i64 c):=fun {Rr} h1 h3=>by
    obtain ⟨f',cap,e1,e2⟩:=h1
    exact ⟨f',#[],cap,e1,e2.mono fun v w' h=>h.mono h3⟩
  have cmd:∀ {n:Int} {fl:Bool} {R:Value->World->Prop},zd3 n fl R (.agg #[.int .i64 (sig b).1,.bool (sig b).2,t2]) w1->R t2 w1:=fun {n fl R} h=>by
    obtain ⟨f,bd,cap,e1,e2⟩:=h
    have e3:=zwC e1
    rw [e3]; exact e2
  have pbc:Go.Sx.cell w1 (some pb) 0=some (.pointer (ptr db)):=zgo hpb
  rcases hb with rfl|rfl|rfl|rfl|rfl|rfl|rfl|rfl|rfl|rfl|rfl
  · have e2:zbp ⟨db,0,none⟩ 208 t2:=cmd (show zd3 4 false (fun f _=>zbp ⟨db,0,none⟩ 208 f) _ w1 from hpv)
    exact ⟨208,_,_,e2,(host_c x g hBw (some wp) wc ws hlen hszs hw).mono fun v w' h=>h.mono fun s c σ q=>⟨q,(zxa q).inR⟩⟩
  · have e2:zbp ⟨db,0,none⟩ 209 t2:=cmd (show zd3 1 false (fun f _=>zbp ⟨db,0,none⟩ 209 f) _ w1 from hpv)
    exact ⟨209,_,_,e2,(open_c x hBw (some wp) ws.length wc).mono fun v w' h=>h.mono fun s c σ q=>⟨q,(zxJ q).inR⟩⟩
  · exact (h11 hcm).elim
  · have e2:zbp ⟨db,0,none⟩ 211 t2:=cmd (show zd3 6 true (fun f _=>zbp ⟨db,0,none⟩ 211 f) _ w1 from hpv)
    obtain ⟨fb,P,F,hK⟩:=opn rfl
    have hl:ws.length=6:=hlen
    exact ⟨211,_,_,e2,(zHf x hK g hB hBw (some wp) wc ws (by omega) hcap (by omega) hszs' hw).mono fun v w' h=>h.mono fun s c σ q=>⟨q,(zto q).inR⟩⟩
  · have e2:=cmd (show zd3 2 false (zdh pb 212) _ w1 from hpv)
    have hl:ws.length=2:=hlen
    exact clo (zzL x e2 hpb g.gb ztq (some wp) wc ws (by omega) hsz1 hw fun {w2 fb P F} n e hn hK=>tick_c (x.ext e) hK (zaJ e pbc) n) fun s c σ q=>⟨q,(zhX (fun _ _ _ _=>zx5) q).inR⟩
  · have e2:zbp ⟨db,0,none⟩ 213 t2:=cmd (show zd3 1 true (fun f _=>zbp ⟨db,0,none⟩ 213 f) _ w1 from hpv)
    obtain ⟨fb,P,F,hK⟩:=opn rfl
    exact ⟨213,_,_,e2,(plan_c x hK g hB (some wp) ws.length wc).mono fun v w' h=>h.mono fun s c σ q=>⟨q,(zxM q).inR⟩⟩
  · have e2:=cmd (show zd3 2 false (zdh pb 214) _ w1 from hpv)
    have hl:ws.length=2:=hlen
    exact clo (zzL x e2 hpb g.gb (zwm true) (some wp) wc ws (by omega) hsz1 hw fun {w2 fb P F} n e hn hK=>zHR (x.ext e) hK (zaJ e pbc) n hn true (.inl ⟨rfl,rfl⟩)) fun s c σ q=>⟨q,(zhX (fun _ _ _ _=>zrU) q).inR⟩
  · have e2:=cmd (show zd3 2 false (zdh pb 216) _ w1 from hpv)
    have hl:ws.length=2:=hlen
    exact clo (zzL x e2 hpb g.gb (zwm false) (some wp) wc ws (by omega) hsz1 hw fun {w2 fb P F} n e hn hK=>zHR (x.ext e) hK (zaJ e pbc) n hn false (.inr ⟨rfl,rfl⟩)) fun s c σ q=>⟨q,(zhX (fun _ _ _ _=>zrU) q).inR⟩
  · have e2:=cmd (show zd3 2 false (zdh pb 217) _ w1 from hpv)
    have hl:ws.length=2:=hlen
    exact clo (zzL x e2 hpb g.gb zFy (some wp) wc ws (by omega) hsz1 hw fun {w2 fb P F} n e hn hK=>zFC (x.ext e) hK (zaJ e pbc) n hn) fun s c σ q=>⟨q,(zhX (fun _ _ _ _=>zAl) q).inR⟩
  · have e2:=cmd (show zd3 2 false (zns pb) _ w1 from hpv)
    have hl:ws.length=2:=hlen
    exact clo (show_c x e2 hpb g (some wp) wc ws (by omega) hsz1 hw) fun s c σ q=>⟨q,(zxY q).inR⟩
  · exact (h55 hcm).elim
theorem zjG (c:UInt8) (a:List UInt8) (l:List (List UInt8)) (h:∀ y∈a::l,c∉y):zaq c (ofL (Lib.join (a::l) [c]))=(a::l).map ofL:=by
  obtain ⟨h1,h2⟩:=zdx (c:=c) l a h
  unfold zaq
  rw [h1,h2]
theorem zlw {s:ByteArray} {n m c e:Int} (h:zGC s n c) (g:zGC s m e):n=m/\c=e:=by
  rcases h with ⟨h1,h2,h3,h4,h5⟩|⟨h1,h2,h3⟩<;>rcases g with ⟨g1,g2,g3,g4,g5⟩|⟨g1,g2,g3⟩
  · exact ⟨zC2 ⟨h2,h3⟩ ⟨g2,g3⟩ (zmE (h4.symm.trans g4)),by omega⟩
  · exact absurd h5 (g3 n h2 h3 h4)
  · exact absurd g5 (h3 m g2 g3 g4)
  · exact ⟨by omega,by omega⟩
theorem itoa0:Lib.itoa 0=[48]:=by rw [zdS (by omega)]; rw [Lib.decDigits]; rfl
theorem zC0:Lib.itoa 1=[49]:=by rw [zdS (by omega)]; rw [Lib.decDigits]; rfl
theorem itoa2:Lib.itoa 2=[50]:=by rw [zdS (by omega)]; rw [Lib.decDigits]; rfl
theorem numR1:zGC ⟨#[49]⟩ 1 0:=.inl ⟨rfl,by omega,by omega,by rw [zC0]; rfl,by show (1:Nat)<=18; omega⟩
theorem zpl:zaq 32 ⟨#[111,112,101,110]⟩=[⟨#[111,112,101,110]⟩]:=zjG 32 [111,112,101,110] [] (by decide)
theorem zsf:zhA ⟨#[111,112,101,110]⟩=some 7:=by kernel_rfl
theorem zyV {N Fr_:zEG} {L:List Ht} {a:ByteArray} {σ':DS} (h:doD (zqk N Fr_) ⟨#[111,112,101,110]⟩ (.shut L) a σ'):a=⟨#[111,107]⟩/\σ'=.opn (zky L zBn):=by
  obtain ⟨c,s,h,rfl⟩:=h
  rw [zpl] at h
  unfold doW at h
  have e:([(⟨#[111,112,101,110]⟩:ByteArray)]).getD 0 ⟨#[]⟩=⟨#[111,112,101,110]⟩:=rfl
  rw [e,zsf] at h
  have h':zxI (.shut L) c s σ':=h
  obtain ⟨rfl,rfl,h3⟩:=h'
  exact ⟨rfl,h3⟩
theorem zrt (N Fr_:zEG):zoF (zqk N Fr_) ⟨#[111,112,101,110]⟩:=zml N Fr_ _ (by rw [zpl]; intro h; exact absurd (zsf.symm.trans h) (by decide)) (by rw [zpl]; intro h; exact absurd (zsf.symm.trans h) (by decide))
theorem zt8 {N Fr_:zEG} {line:ByteArray} {ws:List ByteArray} {σ:DS} {a:ByteArray} {σ':DS} {b:Nat} (hp:zaq 32 line=ws) (hc:zhA (ws.getD 0 ⟨#[]⟩)=some b) (hl:ws.length=(sig b).1) (hf:(sig b).2=true->σ.isShut=false) (h:doD (zqk N Fr_) line σ a σ') :
    ∃ c s,zqk N Fr_ b ws σ c s σ'/\a=zAg c s:=by
  obtain ⟨c,s,h,rfl⟩:=h
  rw [hp] at h
  unfold doW at h
  rw [hc] at h
  simp only [] at h
  rw [if_neg (by omega),if_neg (fun q=>by rw [hf q.1] at q; exact absurd q.2 (by decide))] at h
  exact ⟨c,s,h,rfl⟩
theorem zk9 {N Fr_:zEG} {line:ByteArray} {ws:List ByteArray} {b:Nat} (hp:zaq 32 line=ws) (hc:zhA (ws.getD 0 ⟨#[]⟩)=some b) (h1:b≠11) (h2:b≠55):zoF (zqk N Fr_) line :=
  zml N Fr_ _ (by rw [hp,hc]; intro h; injection h with h; exact h1 h) (by rw [hp,hc]; intro h; injection h with h; exact h2 h)
def nd1:Nd:=⟨1,0,0⟩
def nd2:Nd:=⟨2,0,0⟩
def bA:ByteArray:=⟨#[97]⟩
def hostA:Ht:=zoo bA [] nd2
def jobA:Jb:=⟨⟨#[97,110,110]⟩,0,nd1,.mk 3 zBm ⟨#[]⟩ 1 [],[]⟩
def zF4:Fm:=zky [hostA] zBn
def zqw:Fm:=zn3 zF4 jobA
def zwU:Fm:=ze2 zqw 0 0
def zuf:Fm:=zgA zwU 0 true
theorem text2:zbo nd2=[99,112,117,61,50]:=by
  have h:pcs nd2 3=[[99,112,117,61,50]]:=by
    show [zgz nd2 0]=_
    unfold zgz
    show [_++61::Lib.itoa 2]=_
    rw [itoa2]; rfl
  unfold zbo
  rw [if_neg (by rw [h]; simp),h]; rfl
theorem text1:zbo nd1=[99,112,117,61,49]:=by
  have h:pcs nd1 3=[[99,112,117,61,49]]:=by
    show [zgz nd1 0]=_
    unfold zgz
    show [_++61::Lib.itoa 1]=_
    rw [zC0]; rfl
  unfold zbo
  rw [if_neg (by rw [h]; simp),h]; rfl
theorem okn1:okN nd1:=by unfold okN nd1; decide
theorem okn2:okN nd2:=by unfold okN nd2; decide
def wHost:List ByteArray:=[⟨#[104,111,115,116]⟩,⟨#[97]⟩,⟨#[99,112,117,61,50]⟩,⟨#[45]⟩]
theorem zuJ:zaq 32 ⟨#[104,111,115,116,32,97,32,99,112,117,61,50,32,45]⟩=wHost:=zjG 32 [104,111,115,116] [[97],[99,112,117,61,50],[45]] (by decide)
theorem zyP:zhA (wHost.getD 0 ⟨#[]⟩)=some 3:=by kernel_rfl
def zK6:List ByteArray:=[⟨#[115,117,98,109,105,116]⟩,⟨#[97,110,110]⟩,⟨#[48]⟩,⟨#[99,112,117,61,49]⟩,⟨#[45]⟩,⟨#[99,112,117,62,61,49]⟩]
theorem zzo:zaq 32 ⟨#[115,117,98,109,105,116,32,97,110,110,32,48,32,99,112,117,61,49,32,45,32,99,112,117,62,61,49]⟩=zK6:=zjG 32 [115,117,98,109,105,116] [[97,110,110],[48],[99,112,117,61,49],[45],[99,112,117,62,61,49]] (by decide)
theorem zCj:zhA (zK6.getD 0 ⟨#[]⟩)=some 15:=by kernel_rfl
def wPlan:List ByteArray:=[⟨#[112,108,97,110]⟩]
theorem zuK:zaq 32 ⟨#[112,108,97,110]⟩=wPlan:=zjG 32 [112,108,97,110] [] (by decide)
theorem zyQ:zhA (wPlan.getD 0 ⟨#[]⟩)=some 26:=by kernel_rfl
def wGood:List ByteArray:=[⟨#[103,111,111,100]⟩,⟨#[49]⟩]
theorem zuI:zaq 32 ⟨#[103,111,111,100,32,49]⟩=wGood:=zjG 32 [103,111,111,100] [[49]] (by decide)
theorem zyO:zhA (wGood.getD 0 ⟨#[]⟩)=some 33:=by kernel_rfl
def wShow:List ByteArray:=[⟨#[115,104,111,119]⟩,⟨#[49]⟩]
theorem zuL:zaq 32 ⟨#[115,104,111,119,32,49]⟩=wShow:=zjG 32 [115,104,111,119] [[49]] (by decide)
theorem zyR:zhA (wShow.getD 0 ⟨#[]⟩)=some 51:=by kernel_rfl
section
variable {N Fr_:zEG} {a:ByteArray} {σ':DS}
theorem zJg (h:doD (zqk N Fr_) ⟨#[104,111,115,116,32,97,32,99,112,117,61,50,32,45]⟩ (.shut []) a σ'):a=⟨#[111,107]⟩/\σ'=.shut [hostA]:=by
  obtain ⟨c,s,hq,rfl⟩:=zt8 zuJ zyP rfl (fun h=>by cases h) h
  have h':zw9 ⟨#[97]⟩ ⟨#[99,112,117,61,50]⟩ ⟨#[45]⟩ (.shut []) c s σ':=hq
  obtain ⟨nd,e,hr,h'⟩:=h'
  obtain ⟨q1,q2⟩:=(hr.2.2.1 nd2 okn2.pos (by rw [text2]; rfl)).1 okn2
  subst q1; subst q2
  rcases h' with ⟨h,_⟩|⟨_,h'⟩
  · exact absurd rfl h
  have hl:zEY ⟨#[45]⟩=some []:=by unfold zEY; rw [if_pos rfl]
  rw [hl] at h'
  have h2:c=zlf ([]++[zoo ⟨#[97]⟩ [] nd2])/\((c≠0/\σ'=.shut [])\/(c=0/\s=⟨#[111,107]⟩/\σ'=.shut ([]++[zoo ⟨#[97]⟩ [] nd2]))):=h'
  have hz:zlf ([]++[zoo ⟨#[97]⟩ [] nd2])=0:=by kernel_rfl
  obtain ⟨hc,h3⟩:=h2
  rw [hz] at hc
  rcases h3 with ⟨h,_⟩|⟨_,h4,h5⟩
  · exact absurd hc h
  · rw [hc,h4]; exact ⟨rfl,h5⟩
theorem zyH:txt (.mk 3 zBm ⟨#[]⟩ 1 [])=[99,112,117,62,61,49]:=by
  unfold txt
  simp [zC0,zBm]
theorem zC3:okJ jobA:=⟨by kernel_rfl,by show -1000<=(0:Int)/\(0:Int)<=1000; omega,okn1,by kernel_rfl,by show (0:Nat)<=8; omega,by show upA 0 []; trivial⟩
theorem zC4:ofL (jtx jobA)=zn2 zK6 1:=by
  unfold jtx jps
  show ofL (Lib.join [[97,110,110],Lib.itoa 0,zbo nd1,[45],txt (.mk 3 zBm ⟨#[]⟩ 1 [])] [32])=_
  rw [itoa0,text1,zyH]; rfl
theorem do_sub (h:doD (zqk N Fr_) ⟨#[115,117,98,109,105,116,32,97,110,110,32,48,32,99,112,117,61,49,32,45,32,99,112,117,62,61,49]⟩ (.opn zF4) a σ'):a=⟨#[49]⟩/\σ'=.opn zqw:=by
  obtain ⟨c,s,hq,rfl⟩:=zt8 zzo zCj rfl (fun h=>rfl) h
  have h':zjg (zn2 zK6 1) (.opn zF4) c s σ':=hq
  obtain ⟨e,j,hr,h'⟩:=h'
  have hJ:JT (zn2 zK6 1) jobA:=⟨zC3,by show nod (.mk 3 zBm ⟨#[]⟩ 1 [])<=_; unfold nod zmC; omega,zC4.symm,by show (txt (.mk 3 zBm ⟨#[]⟩ 1 [])).length<=_; rw [zyH]; decide⟩
  have hsz:(zn2 zK6 1).size<=3000:=by show (20:Nat)<=3000; omega
  obtain ⟨rfl,rfl⟩:=hr.2.2.2 jobA hJ hsz
  rcases h' with ⟨h,_⟩|⟨_,hS,h'⟩
  · exact absurd rfl h
  have hc:c=0:=by
    rcases hS with ⟨h,_⟩|⟨_,⟨h,_⟩|⟨_,⟨⟨y,hy,_⟩,_⟩|⟨_,⟨⟨y,hy,_⟩,_⟩|⟨_,h⟩⟩⟩⟩
    · exact absurd (zgp.2 zC3) h
    · exact absurd h (by decide)
    · cases hy
    · cases hy
    · exact h
  rcases h' with ⟨h,_⟩|⟨_,h4,h5⟩
  · exact absurd hc h
  · have:(((zF4.jobs.length:Nat):Int)+1)=1:=rfl
    rw [hc,h4,this,zC0]; exact ⟨rfl,h5⟩
theorem plan1:zdc zqw zwU [(1,0)]:=by
  have hr:rdy zqw=[1]:=by kernel_rfl
  refine ⟨[1],⟨by rw [hr],by simp⟩,?_⟩
  refine zqi.run (k:=0) ?_ (zqi.nil _)
  have hf:zbB zqw.hosts (zad zqw ((1:Int)-1).toNat).job.ask (zad zqw ((1:Int)-1).toNat).job.nd zqw.hosts.length=[0]:=by kernel_rfl
  unfold zfW
  rw [hf]
  refine ⟨by simp,fun j hj=>?_⟩
  simp at hj; subst hj
  exact ⟨of_decide_eq_true (by kernel_rfl),fun h=>by omega⟩
theorem zJh (h:doD (zqk N Fr_) ⟨#[112,108,97,110]⟩ (.opn zqw) a σ'):a=⟨#[49,64,97]⟩/\σ'=.opn zwU:=by
  obtain ⟨c,s,hq,rfl⟩:=zt8 zuK zyQ rfl (fun h=>rfl) h
  have h':zxL (.opn zqw) c s σ':=hq
  obtain ⟨rfl,G,outs,hp,rfl,rfl⟩:=h'
  obtain ⟨rfl,rfl⟩:=zkI hp plan1
  refine ⟨?_,rfl⟩
  unfold zAg zEc zim
  rw [if_pos rfl]
  show ofL (Lib.join [Lib.itoa 1++64::[97]] [32])=_
  rw [zC0]; rfl
theorem zJf (h:doD (zqk N Fr_) ⟨#[103,111,111,100,32,49]⟩ (.opn zwU) a σ'):a=⟨#[111,107]⟩/\σ'=.opn zuf:=by
  obtain ⟨c,s,hq,rfl⟩:=zt8 zuI zyO rfl (fun h=>by cases h) h
  have h':zqX (zwm true) ⟨#[49]⟩ (.opn zwU) s c σ':=hq
  obtain ⟨n,c1,hn,h'⟩:=h'
  obtain ⟨rfl,rfl⟩:=zlw hn numR1
  rcases h' with ⟨h,_⟩|⟨_,rfl,h'⟩
  · exact absurd rfl h
  have h2:zwm true zwU 1 c σ':=h'
  have hcr:zCc zwU 1:=⟨⟨by omega,by show (1:Int)<=((1:Nat):Int); omega⟩,by kernel_rfl⟩
  rcases h2 with ⟨_,_,h,_⟩|⟨h3,_,h4⟩
  · exact absurd hcr h
  · rw [h3]; exact ⟨rfl,h4⟩
theorem zJi (h:doD (zqk N Fr_) ⟨#[115,104,111,119,32,49]⟩ (.opn zuf) a σ'):a=⟨#[100,111,110,101]⟩:=by
  obtain ⟨c,s,hq,rfl⟩:=zt8 zuL zyR rfl (fun h=>by cases h) h
  have h':zD4 ⟨#[49]⟩ (.opn zuf) c s σ':=hq
  obtain ⟨_,n,c1,hn,h'⟩:=h'
  obtain ⟨rfl,rfl⟩:=zlw hn numR1
  rcases h' with ⟨h,_⟩|⟨_,h'⟩
  · exact absurd rfl h
  have h2:(inJ zuf 1/\c=0/\s=zvR.getD (zad zuf ((1:Int)-1).toNat).what.toNat ⟨#[]⟩)\/(¬ inJ zuf 1/\c=5):=h'
  have hin:inJ zuf 1:=⟨by omega,of_decide_eq_true (by kernel_rfl)⟩
  rcases h2 with ⟨_,h3,h4⟩|⟨h,_⟩
  · have hw:(zad zuf ((1:Int)-1).toNat).what=3:=by kernel_rfl
    rw [h3,h4,hw]; rfl
  · exact absurd hin h
end
theorem zc5.inv {R:zEH} {ls:List ByteArray} {l:ByteArray} {σ σ':DS} {us:List ByteArray} (h:zc5 R (ls++[l]) σ us σ'):∃ us' σ1 a,us=us'++[a]/\zc5 R ls σ us' σ1/\doD R l σ1 a σ':=by
  generalize hX:ls++[l]=X at h
  cases h with
  |nil => simp at hX
  |@snoc ls' l' _ σ1 _ us' a hp hd =>
    obtain ⟨rfl,h2⟩:=List.append_inj' hX rfl
    injection h2 with h2
    subst h2
    exact ⟨us',σ1,a,rfl,hp,hd⟩
theorem zc5.inv0 {R:zEH} {σ σ':DS} {us:List ByteArray} (h:zc5 R [] σ us σ'):us=[]/\σ'=σ:=by
  generalize hX:([]:List ByteArray)=X at h
  cases h with
  |nil => exact ⟨rfl,rfl⟩
  |snoc => simp at hX
theorem zys (p q:Option Addr) (c d:Nat) (A B:List ByteArray) (h63:(A.length:Int)<=9223372036854775806) (w:World) (hA:zau w p (A.map Value.string)) (hB:zau w q (B.map Value.string)) :
    FnP Tryz.prog zax #[.slice p A.length c,.slice q B.length d] w fun v w'=>Ext w w'/\v=.bool (decide (A=B)):=by
  refine zeV p A.length c q B.length d w _ ⟨fun hne w0 h0=>⟨h0,?_⟩,fun heq=>?_⟩
  · rw [decide_eq_false]
    intro h; exact hne (by rw [h])
  refine ⟨fun k w'=>w'=w/\0<=k/\k<=A.length/\A.take k.toNat=B.take k.toNat,fun k _=>(A.length-k).toNat,⟨rfl,by omega,by omega,by simp⟩,?_⟩
  rintro k w2 ⟨rfl,hk0,hk1,ht⟩
  refine ⟨fun hlt=>?_,fun hge w3 h3=>⟨h3,?_⟩⟩
  · obtain ⟨x,hx⟩:∃ x,A[k.toNat]?=some x:=⟨_,List.getElem?_eq_getElem (by omega)⟩
    obtain ⟨y,hy⟩:∃ y,B[k.toNat]?=some y:=⟨_,List.getElem?_eq_getElem (by omega)⟩
    have c1:Go.Sx.cell w2 (pIdx p k 1) 0=some (.string x):=by
      rw [zae]; exact hA _ _ (by simp [hx])
    have c2:Go.Sx.cell w2 (pIdx q k 1) 0=some (.string y):=by
      rw [zae]; exact hB _ _ (by simp [hy])
    refine ⟨fun h=>zak c1 (zah.2 h),hk0,hlt,x,c1,fun h=>zak c2 (zah.2 h),hk0,by omega,y,c2,fun hne w5 h5=>⟨h5,?_⟩,fun he=>⟨i64 (by omega),⟨rfl,by omega,by omega,?_⟩,by simp only []; omega⟩⟩
    · rw [decide_eq_false]
      intro h; rw [h,hy] at hx; injection hx with hx; exact hne hx.symm
    · rw [show (k+1).toNat=k.toNat+1 by omega,List.take_add_one,List.take_add_one,ht,hx,hy,he]
  · rw [decide_eq_true]
    rw [List.take_of_length_le (by omega),List.take_of_length_le (by omega)] at ht
    exact ht
def zfM:List ByteArray:=[⟨#[104,111,115,116,32,97,32,99,112,117,61,50,32,45]⟩,⟨#[111,112,101,110]⟩,⟨#[115,117,98,109,105,116,32,97,110,110,32,48,32,99,112,117,61,49,32,45,32,99,112,117,62,61,49]⟩,⟨#[112,108,97,110]⟩,⟨#[103,111,111,100,32,49]⟩,⟨#[115,104,111,119,32,49]⟩]
def zK5:List ByteArray:=[⟨#[111,107]⟩,⟨#[111,107]⟩,⟨#[49]⟩,⟨#[49,64,97]⟩,⟨#[111,107]⟩,⟨#[100,111,110,101]⟩]
theorem wPlays {N Fr_:zEG} {us:List ByteArray} {σ:DS} (h:zc5 (zqk N Fr_) zfM (.shut []) us σ):us=zK5:=by
  obtain ⟨u5,σ5,a6,rfl,h,d6⟩:=zc5.inv (ls:=zfM.take 5) h
  obtain ⟨u4,σ4,a5,rfl,h,d5⟩:=zc5.inv (ls:=zfM.take 4) h
  obtain ⟨u3,σ3,a4,rfl,h,d4⟩:=zc5.inv (ls:=zfM.take 3) h
  obtain ⟨u2,σ2,a3,rfl,h,d3⟩:=zc5.inv (ls:=zfM.take 2) h
  obtain ⟨u1,σ1,a2,rfl,h,d2⟩:=zc5.inv (ls:=zfM.take 1) h
  obtain ⟨u0,σ0,a1,rfl,h,d1⟩:=zc5.inv (ls:=[]) h
  obtain ⟨rfl,rfl⟩:=h.inv0
  obtain ⟨rfl,rfl⟩:=zJg d1
  obtain ⟨rfl,rfl⟩:=zyV d2
  obtain ⟨rfl,rfl⟩:=do_sub d3
  obtain ⟨rfl,rfl⟩:=zJh d4
  obtain ⟨rfl,rfl⟩:=zJf d5
  obtain rfl:=zJi d6
  rfl
theorem wCalls (N Fr_:zEG):∀ x∈zfM,zoF (zqk N Fr_) x:=by
  intro x hx
  simp only [zfM,List.mem_cons,List.not_mem_nil,or_false] at hx
  rcases hx with rfl|rfl|rfl|rfl|rfl|rfl
  · exact zk9 zuJ zyP (by decide) (by decide)
  · exact zrt N Fr_
  · exact zk9 zzo zCj (by decide) (by decide)
  · exact zk9 zuK zyQ (by decide) (by decide)
  · exact zk9 zuI zyO (by decide) (by decide)
  · exact zk9 zuL zyR (by decide) (by decide)
theorem ztu (w:World) (g:GD w) (h6:11<=w.heap.size):FnP Tryz.prog zas #[] w fun v w'=>Ext w w'/\v=.bool true:=by
  refine zi8 w _ fun w0 x0=>zcD zbX (zfM.map Value.string) rfl rfl (fun u hu=>by obtain ⟨x,_,rfl⟩:=List.mem_map.1 hu; rfl) (by omega) (by omega) fun w1 o1 e1=>⟨e1,_,_,_,rfl,fun w5 x5=>?_⟩
  have c1:=((o1 w0.heap.size (Nat.le_refl _)).ext x5).cells
  have hfl:((zfM.map Value.string).flatMap fun v=>v.cells.toList)=zfM.map Value.string:=rfl
  rw [hfl] at c1
  have hx:=(x0.trans e1).trans x5
  have hl:zfM.length=6:=rfl
  refine (zBC (zqk (fun _ _ _ _ _=>False) (fun _ _ _ _ _=>False)) zfM _ 6 w5 (g.ext hx) (Nat.le_trans h6 hx.size) c1 (by rw [hl]; omega) (fun x hx=>?_) (wCalls _ _)).mono fun v w6 ⟨e6,hor⟩=>?_
  · simp only [zfM,List.mem_cons,List.not_mem_nil,or_false] at hx
    rcases hx with rfl|rfl|rfl|rfl|rfl|rfl<;>decide
  rcases hor with ⟨h,_⟩|⟨_,us,σ,q,d,hv,hp,oU⟩
  · exact absurd h (by decide)
  obtain rfl:=wPlays hp
  refine ⟨q,zfM.length,d,0,hv,fun _ w11 x11=>zcD zbX (zK5.map Value.string) rfl rfl (fun u hu=>by obtain ⟨x,_,rfl⟩:=List.mem_map.1 hu; rfl) (by omega) (by omega) fun w12 o12 e12=>⟨e12,_,_,_,rfl,fun w16 x16=>?_⟩,fun h=>absurd rfl h⟩
  have c12:=((o12 w11.heap.size (Nat.le_refl _)).ext x16).cells
  have hfl2:((zK5.map Value.string).flatMap fun v=>v.cells.toList)=zK5.map Value.string:=rfl
  rw [hfl2] at c12
  refine (zys q _ d 6 zK5 zK5 (by show ((6:Nat):Int)<=_; omega) w16 (((oU.ext x11).ext e12).ext x16).cells c12).mono fun v w17 ⟨e17,hv⟩=>⟨e17,_,hv,fun w19 x19=>⟨?_,by simp⟩⟩
  exact ((((hx.trans e6).trans x11).trans e12).trans x19)
def zwE (h:Ht):Ht:=zfS h za3
theorem zB3 (h:Ht) (s:Nd):zwE (zfS h s)=zwE h:=rfl
theorem ztZ {h:Ht} (hu:h.used=za3):zwE h=h:=by unfold zwE zfS; rw [<- hu]
def onL (L:List Ht) (F:Fm):Prop:=F.hosts.map zwE=L
theorem zzN (L:List Ht) (i:Nat) (s:Nd):(L.set i (zfS (L.getD i default) s)).map zwE=L.map zwE:=by
  rw [List.map_set,zB3]
  refine List.ext_getElem? fun j=>?_
  rw [List.getElem?_set]
  by_cases hj:i=j
  · subst hj
    by_cases hi:i<L.length
    · simp [hi,List.getD_eq_getElem?_getD]
    · simp [hi]
  · simp [hj]
theorem zDw {L:List Ht} {F:Fm} (h:onL L F) (k0:Nat) (k:Int):onL L (ze2 F k0 k):=by
  unfold onL at *
  rw [zlN]
  unfold zkN zpe
  rw [<- h]
  exact zzN F.hosts k.toNat _
theorem zpI {L:List Ht} {F:Fm} (h:onL L F) (k:Nat):onL L (zdy F k):=by
  unfold onL at *
  unfold zdy
  rw [zjI,zjI]
  unfold zkt
  rw [<- h]
  exact zzN F.hosts _ _
theorem zDv {L:List Ht} {F:Fm} (h:onL L F) (k:Nat) (ok:Bool):onL L (zgA F k ok):=by
  unfold zgA
  split
  · exact zpI h k
  · split
    · exact zpI h k
    · have:=(zmz (stF (zcP F k) k 11 4)).2.1
      unfold onL
      rw [this]
      exact zpI h k
def idle (F:Fm):Prop:=∀ k,k<F.jobs.length->(zad F k).what≠2
theorem zz3 {F:Fm} (h:idle F) (i:Int) (p:Nat):∀ {n:Nat},n<=F.jobs.length->use F i p n=0
  |0,_ => rfl
  |n+1,hn => by
    unfold use
    rw [zz3 h i p (by omega)]
    unfold zep
    rw [if_neg (fun g=>h n (by omega) g.1)]
    rfl
theorem zuu {F:Fm} (I:Inv F) (h:idle F):∀ x∈F.hosts,x.used=za3:=fun x hx=>by
  obtain ⟨i,hi,rfl⟩:=List.getElem_of_mem hx
  refine zGy fun p hp=>?_
  have:=I.i0.use i hi p hp
  rw [zz3 h i p (Nat.le_refl _),show F.hosts.getD i default=F.hosts[i] by simp [List.getD_eq_getElem?_getD,hi]] at this
  rw [this]
  unfold zcd za3
  split<;>rfl
theorem zrC {L:List Ht} {F:Fm} (I:Inv F) (h:idle F) (hL:onL L F):F.hosts=L:=by
  unfold onL at hL
  rw [<- hL]
  refine (List.map_id _).symm.trans (List.map_congr_left fun x hx=>?_)
  exact (ztZ (zuu I h x hx)).symm
def fitL (L:List Ht) (s:St):Prop:=zbB L s.job.ask s.job.nd L.length≠[]
structure DF (L:List Ht) (F:Fm):Prop where
  inv:Inv F
  on_:onL L F
  wh:∀ k,k<F.jobs.length->(zad F k).what=1/\(zad F k).again=0\/(zad F k).what=2\/(zad F k).what=3
  fit:∀ k,k<F.jobs.length->fitL L (zad F k)
theorem zHL {L:List Ht} {pol:Pol} (h:zu0 L pol):DF L (zky L pol):=by
  refine ⟨zDm h,?_,fun k hk=>(by simp [zky] at hk),fun k hk=>(by simp [zky] at hk)⟩
  unfold onL zky
  refine (List.map_congr_left fun x hx=>?_).trans (List.map_id _)
  exact ztZ (h.2.1 x hx)
structure WF (L:List Ht) (pol:Pol) (j:Jb) (i:Nat) (F:Fm):Prop where
  inv:Inv F
  on_:onL L F
  pol:F.pol=pol
  one:F.jobs.length=1
  job:(zad F 0).job=j
  wh:(zad F 0).what=1
  tr:(zad F 0).tries=i
structure WFs (L:List Ht) (j:Jb):Prop where
  fit:zbB L j.ask j.nd L.length≠[]
  aft:j.aft=[]
section
variable {L:List Ht} {pol:Pol} {j:Jb} {i:Nat} {F:Fm}
theorem wf_new (h:zu0 L pol) (hs:zqC (zky L pol) j):WF L pol j 0 (zn3 (zky L pol) j)/\(zad (zn3 (zky L pol) j) 0).again<=(zn3 (zky L pol) j).now:=by
  have D:=zHL h
  have e:zad (zn3 (zky L pol) j) 0=zpt j:=rfl
  exact ⟨⟨ztn D.inv hs,D.on_,rfl,rfl,by rw [e]; rfl,by rw [e]; rfl,by rw [e]; rfl⟩,by rw [e]; exact Int.le_refl _⟩
theorem WF.ready (x:WF L pol j i F) (s:WFs L j) (ha:(zad F 0).again<=F.now):zdA F (zad F 0)=true:=zdW.2 ⟨x.wh,ha,fun y hy=>by rw [x.job,s.aft] at hy; cases hy⟩
theorem WF.idle (x:WF L pol j i F):idle F:=fun k hk=>by
  have:k=0:=by have:=x.one; omega
  subst this
  rw [x.wh]; decide
theorem WF.plan (x:WF L pol j i F) (s:WFs L j) (ha:(zad F 0).again<=F.now) {G:Fm} {o:List (Int×Int)} (h:zdc F G o):∃ k,o=[(1,k)]/\G=ze2 F 0 k/\zfW F.hosts (zad F 0).job.ask (zad F 0).job.nd k:=by
  obtain ⟨T,hT,hP⟩:=h
  have hr:rdy F=[1]:=by
    unfold rdy
    rw [x.one]
    show (if zdA F (zad F 0)=true then zg6 F 0++[((0:Nat):Int)+1] else zg6 F 0)=[1]
    rw [if_pos (x.ready s ha)]
    rfl
  have hT1:T=[1]:=List.perm_singleton.1 (by rw [<- hr]; exact hT.1)
  subst hT1
  have hh:=zrC x.inv x.idle x.on_
  cases hP with
  |skip hs _ =>
    exfalso
    unfold zui at hs
    have hs:zbB F.hosts (zad F 0).job.ask (zad F 0).job.nd F.hosts.length=[]:=hs
    rw [x.job,hh] at hs
    exact s.fit hs
  |run hb hp =>
    cases hp with
    |nil => exact ⟨_,rfl,rfl,hb⟩
theorem WF.none (x:WF L pol j i F) (ha:F.now<(zad F 0).again) {G:Fm} {o:List (Int×Int)} (h:zdc F G o):o=[]/\G=F:=by
  obtain ⟨T,hT,hP⟩:=h
  have hr:rdy F=[]:=by
    unfold rdy
    rw [x.one]
    show (if zdA F (zad F 0)=true then zg6 F 0++[((0:Nat):Int)+1] else zg6 F 0)=[]
    rw [if_neg (fun h=>by have:=(zdW.1 h).2.1; omega)]
    rfl
  have hT1:T=[]:=List.perm_nil.1 (by rw [<- hr]; exact hT.1)
  subst hT1
  cases hP
  exact ⟨rfl,rfl⟩
theorem zzW {F:Fm} (hk:0<F.jobs.length):zad (zcP F 0) 0={ zad F 0 with host:=0,since:=0,tries:=(zad F 0).tries+1 }:=by
  unfold zcP
  rw [zjT _ _ (by rw [zb7]; exact hk),if_pos rfl,zjD hk,if_pos rfl]
  rfl
theorem zfJ (F:Fm) (k:Nat):(zcP F k).jobs.length=F.jobs.length:=by unfold zcP; rw [zbK,zb7]
theorem zGu {F:Fm} (h1:F.jobs.length=1) (hw:(zad F 0).what≠1):zmy F=F:=by
  unfold zmy
  rw [h1]
  show zbT F 0=F
  unfold zbT
  rw [if_neg (fun h=>hw h.1)]
theorem WF.fail (x:WF L pol j i F) (s:WFs L j) (ha:(zad F 0).again<=F.now) {k:Int} (hb:zfW F.hosts (zad F 0).job.ask (zad F 0).job.nd k) :
    ((i:Int)+1<=pol.tries->WF L pol j (i+1) (zgA (ze2 F 0 k) 0 false)/\(zgA (ze2 F 0 k) 0 false).now=F.now/\(zad (zgA (ze2 F 0 k) 0 false) 0).again=F.now+ze0 pol (i+1)) /\
    (pol.tries<(i:Int)+1->(zad (zgA (ze2 F 0 k) 0 false) 0).what=4/\(zad (zgA (ze2 F 0 k) 0 false) 0).tries=i+1/\Inv (zgA (ze2 F 0 k) 0 false)/\onL L (zgA (ze2 F 0 k) 0 false)/\(zgA (ze2 F 0 k) 0 false).jobs.length=1):=by
  have hk:0<F.jobs.length:=by rw [x.one]; omega
  have hk2:0<(ze2 F 0 k).jobs.length:=by rw [zhV]; exact hk
  have Ir:=zti x.inv hk (x.ready s ha) hb
  have e1:zad (ze2 F 0 k) 0={ zad F 0 with what:=2,host:=k,since:=F.now }:=by rw [zrW hk,if_pos rfl]
  have hw:(zad (ze2 F 0 k) 0).what=2:=by rw [e1]
  have ht:(zad (ze2 F 0 k) 0).tries=i:=by rw [e1]; exact x.tr
  have hpl:(ze2 F 0 k).pol=pol:=x.pol
  have hnw:(ze2 F 0 k).now=F.now:=rfl
  have I2:=ztf Ir hk2 hw false
  have on2:=zDv (zDw x.on_ 0 k) 0 false
  constructor
  · intro hle
    have e2:zgA (ze2 F 0 k) 0 false=stF (stF (zcP (ze2 F 0 k) 0) 0 11 1) 0 14 (F.now+ze0 pol (i+1)):=by
      unfold zgA
      rw [if_neg (by decide),if_pos (by rw [ht,hpl]; exact hle),ht,hpl,hnw]
    have hl:(zgA (ze2 F 0 k) 0 false).jobs.length=1:=by rw [e2,zbK,zbK,zfJ,zhV]; exact x.one
    have e3:zad (zgA (ze2 F 0 k) 0 false) 0={ zad F 0 with host:=0,since:=0,tries:=i+1,what:=1,again:=F.now+ze0 pol (i+1) }:=by
      rw [e2,zjT _ _ (by rw [zbK,zfJ]; exact hk2),if_pos rfl,zjT _ _ (by rw [zfJ]; exact hk2),if_pos rfl,zzW hk2,ht,e1]
      rfl
    refine ⟨⟨I2,on2,?_,hl,by rw [e3]; exact x.job,by rw [e3],by rw [e3]; simp⟩,by rw [e2]; rfl,by rw [e3]⟩
    rw [e2]; exact x.pol
  · intro hgt
    have e2:zgA (ze2 F 0 k) 0 false=stF (zcP (ze2 F 0 k) 0) 0 11 4:=by
      have:zgA (ze2 F 0 k) 0 false=zmy (stF (zcP (ze2 F 0 k) 0) 0 11 4):=by
        unfold zgA
        rw [if_neg (by decide),if_neg (by rw [ht,hpl]; omega)]
      rw [this]
      refine zGu (by rw [zbK,zfJ,zhV]; exact x.one) ?_
      rw [zjT _ _ (by rw [zfJ]; exact hk2),if_pos rfl]
      simp [zjd]
    have e3:zad (zgA (ze2 F 0 k) 0 false) 0={ zad F 0 with host:=0,since:=0,tries:=i+1,what:=4 }:=by
      rw [e2,zjT _ _ (by rw [zfJ]; exact hk2),if_pos rfl,zzW hk2,ht,e1]
      rfl
    exact ⟨by rw [e3],by rw [e3],I2,on2,by rw [e2,zbK,zfJ,zhV]; exact x.one⟩
theorem WF.tick (x:WF L pol j i F) {n:Int} (h0:0<=n) (h1:F.now+n<=1099511627776):WF L pol j i { F with now:=F.now+n }:=by
  have hn:=x.inv.i0.now
  refine ⟨⟨⟨x.inv.i0.aft,x.inv.i0.pol,by show 0<=F.now+n/\F.now+n<=1099511627776; omega,x.inv.i0.hs,x.inv.i0.nd,x.inv.i0.hrun,?_,x.inv.i0.ahead,x.inv.i0.tries⟩,x.inv.wt⟩,x.on_,x.pol,x.one,x.job,x.wh,x.tr⟩
  intro i hi p hp
  have:=x.inv.i0.use i hi p hp
  have e:∀ m,use { F with now:=F.now+n } i p m=use F i p m:=fun m=>by
    induction m with
    |zero => rfl
    |succ m ih => unfold use; rw [ih]; rfl
  rw [e]; exact this
end
def zE2 (pol:Pol):Nat->Int
  |0 => 0
  |n+1 => zE2 pol n+ze0 pol ((n:Int)+1)
theorem zx2 {pol:Pol} (h:zi4 pol):∀ n,0<=zE2 pol n/\zE2 pol n<=1000000000*n
  |0 => by simp [zE2]
  |n+1 => by
    have ih:=zx2 h n
    have hd:=zgT h ((n:Int)+1-1).toNat
    unfold zi4 okP at h
    unfold zE2 ze0
    omega
abbrev zci:FuncId:=7
abbrev zkj:FuncId:=27
def zwc (m n o g:Int) (h:World) (p:Value->World->Prop):Prop:=
 ∀ q:Nat,h.heap.size<=q->∀ i,Ext h i->FnP Tryz.prog zdJ #[(.agg #[(.int .i64 m),(.int .i64 n),(.int .i64 o),(.int .i64 g)])] i fun s t=>Ext i t/\∃ e,s=(.int .i64 e)/\((e≠0)->∀ k,Ext h k->p (.tuple #[(.int .i64 0),(.int .i64 e)]) k)/\((e=0)->∃ (j:Int->Int->World->Prop) (l:Int->Int->World->Nat),j 0 0 h/\∀ (c:Int) (a:Int) (d:World),j c a d->(((a<g)->InR .i64 (a+1)/\∀ b,Ext d b->FnP Tryz.prog zdK #[(.agg #[(.int .i64 m),(.int .i64 n),(.int .i64 o),(.int .i64 g)]),(.int .i64 (a+1))] b fun u v=>Ext b v/\∃ f r,u=(.tuple #[(.int .i64 f),(.int .i64 r)])/\InR .i64 (c+f)/\InR .i64 (a+1)/\(j (c+f) (a+1) d/\l (c+f) (a+1) d<l c a d)))/\((g<=a)->∀ b,Ext d b->p (.tuple #[(.int .i64 c),(.int .i64 0)]) b))
theorem zvk (a b c d:Int) (e:World) (f:Value->World->Prop) (h:zwc a b c d e f):FnP Tryz.prog zkj #[(.agg #[(.int .i64 a),(.int .i64 b),(.int .i64 c),(.int .i64 d)])] e f:=
 zab (Eq.mp (by kernel_rfl:_=Runs Tryz.prog f ({N:=31}:Cfg) Tryz.f27 (Tryz.f27.body.getD .skip) [.agg [.int .i64 a,.int .i64 b,.int .i64 c,.int .i64 d]] e) h) Tryz.func27 (by kernel_rfl) (fun a w=>Tryz.call27 a w) (by kernel_rfl) (by kernel_rfl) rfl rfl
def zhc (bg:Option Addr) (bh bi:Nat) (bj bk bl v:Int) (cE:ByteArray) (cF bm bn bo bp:Int) (bq br:ByteArray) (bs:Int) (bt:Option Addr) (bu bv:Nat) (cG:Option Addr) (cH cI:Nat) (aO:World) (o:Value->World->Prop):Prop:=
 ∀ k:Nat,aO.heap.size<=k->∀ g:Nat,aO.heap.size<=g->∀ ac,zag [] [k,g] aO ac->FnP Tryz.prog zcW #[(.agg #[(.slice bg bh bi),(.int .i64 bj),(.int .i64 bk),(.int .i64 bl),(.int .i64 v)])] ac fun cf C=>Ext ac C/\∃ l ad,cf=(.tuple #[(.pointer l),(.int .i64 ad)])/\∀ ae,Ext C ae->FnP Tryz.prog zas #[] ae fun cg ch=>Ext ae ch/\∃ af,cg=(.bool af)/\(((((af=false)\/(ad≠0))\/(l=none))->∀ y,Ext C y->FnP Tryz.prog zas #[] y fun aG aH=>Ext y aH/\∃ U,aG=(.bool U)/\∀ aP,Ext C aP->o (.bool U) aP))/\((((af=true)/\(ad=0))/\(l≠none))->∀ y,zag [g] [] C y->FnP Tryz.prog zfn #[(.slice bg bh bi),(.agg #[(.int .i64 bp),(.string bq),(.string br),(.int .i64 bs),(.slice bt bu bv)]),(.agg #[(.int .i64 bm),(.int .i64 bn),(.int .i64 bo)])] y fun aG aH=>Ext y aH/\∃ U ag,aG=(.tuple #[(.int .i64 U),(.int .i64 ag)])/\((ag≠0)->∀ E,zag [g] [] C E->o (.bool true) E)/\((ag=0)->∀ E,zag [g] [k,g] C E->FnP Tryz.prog zaT #[(.pointer l),(.agg #[(.string cE),(.int .i64 cF),(.int .i64 bm),(.int .i64 bn),(.int .i64 bo),(.int .i64 bp),(.string bq),(.string br),(.int .i64 bs),(.slice bt bu bv),(.slice none 0 0)])] E fun ci aa=>zbM [k,g] E aa/\∃ a ah,ci=(.tuple #[(.int .i64 a),(.int .i64 ah)])/\((ah≠0)->∀ F,Ext aa F->o (.bool (decide (a=0))) F)/\((ah=0)->∀ F,Ext aa F->FnP Tryz.prog zkj #[(.agg #[(.int .i64 bj),(.int .i64 bk),(.int .i64 bl),(.int .i64 v)])] F fun cj ck=>Ext F ck/\∃ L M,cj=(.tuple #[(.int .i64 L),(.int .i64 M)])/\InR .i64 (v+1)/\∃ (aL:Int->Int->World->Prop) (bd:Int->Int->World->Nat),aL 0 0 aa/\∀ (u:Int) (D:Int) (ab:World),aL u D ab->(((D<(v+1))->∀ z,zag [] [k,g] ab z->FnP Tryz.prog zbn #[(.pointer l)] z fun aI c=>zbM [k,g] z c/\∃ d p ai aj,aI=(.tuple #[(.slice d p ai),(.int .i64 aj)])/\(((p:Int)=1)->d≠none)/\(((p:Int)=1)->(0:Int)<=0)/\(((p:Int)=1)->(0:Int)<(p:Int))/\(((p:Int)=1)->(pIdx d 0 2)≠none)/\(((p:Int)≠1)->∀ aQ,Ext c aQ->o (.bool false) aQ)/\(((p:Int)=1)->∃ N,cell c (pAdd (pIdx d 0 2) 0) 0=some (.int .i64 N)/\((N≠a)->∀ G,Ext c G->o (.bool false) G)/\((N=a)->∀ G,zag [] [k,g] c G->FnP Tryz.prog zaS #[(.pointer l),(.int .i64 a),(.bool false)] G fun cl aJ=>zbM [k,g] G aJ/\∃ O,cl=(.int .i64 O)/\((O≠0)->∀ H,Ext aJ H->o (.bool false) H)/\((O=0)->∀ H,zag [] [k,g] aJ H->FnP Tryz.prog zaz #[(.pointer l)] H fun cm h=>Ext H h/\∃ e aR bw,cm=(.slice e aR bw)/\InR .i64 (a-1)/\e≠none/\(0:Int)<=(a-1)/\((a-1):Int)<(aR:Int)/\(pIdx e (a-1) 16)≠none/\∃ bx,cell h (pIdx e (a-1) 16) 0=some (.string bx)/\∃ bz,cell h (pIdx e (a-1) 16) 1=some (.int .i64 bz)/\∃ ak,cell h (pIdx e (a-1) 16) 2=some (.int .i64 ak)/\∃ bA,cell h (pIdx e (a-1) 16) 3=some (.int .i64 bA)/\∃ bB,cell h (pIdx e (a-1) 16) 4=some (.int .i64 bB)/\∃ P,cell h (pIdx e (a-1) 16) 5=some (.int .i64 P)/\∃ al,cell h (pIdx e (a-1) 16) 6=some (.string al)/\∃ am,cell h (pIdx e (a-1) 16) 7=some (.string am)/\∃ an,cell h (pIdx e (a-1) 16) 8=some (.int .i64 an)/\∃ V bC bD,cell h (pIdx e (a-1) 16) 9=some (.slice V bC bD)/\∃ bE bF bG,cell h (pIdx e (a-1) 16) 10=some (.slice bE bF bG)/\∃ ao,cell h (pIdx e (a-1) 16) 11=some (.int .i64 ao)/\∃ ap,cell h (pIdx e (a-1) 16) 12=some (.int .i64 ap)/\∃ bH,cell h (pIdx e (a-1) 16) 13=some (.int .i64 bH)/\∃ s,cell h (pIdx e (a-1) 16) 14=some (.int .i64 s)/\∃ bI,cell h (pIdx e (a-1) 16) 15=some (.int .i64 bI)/\∀ A:Nat,h.heap.size<=A->(((ao=4)->∀ B,zag [] [k,g,A] h B->FnP Tryz.prog zaz #[(.pointer l)] B fun aK b=>Ext B b/\∃ f I aq,aK=(.slice f I aq)/\InR .i64 (a-1)/\f≠none/\(0:Int)<=(a-1)/\((a-1):Int)<(I:Int)/\(pIdx f (a-1) 16)≠none/\∃ R,cell b (pIdx f (a-1) 16) 0=some (.string R)/\∃ ar,cell b (pIdx f (a-1) 16) 1=some (.int .i64 ar)/\∃ bJ,cell b (pIdx f (a-1) 16) 2=some (.int .i64 bJ)/\∃ S,cell b (pIdx f (a-1) 16) 3=some (.int .i64 S)/\∃ au,cell b (pIdx f (a-1) 16) 4=some (.int .i64 au)/\∃ av,cell b (pIdx f (a-1) 16) 5=some (.int .i64 av)/\∃ t,cell b (pIdx f (a-1) 16) 6=some (.string t)/\∃ W,cell b (pIdx f (a-1) 16) 7=some (.string W)/\∃ X,cell b (pIdx f (a-1) 16) 8=some (.int .i64 X)/\∃ w bK bL,cell b (pIdx f (a-1) 16) 9=some (.slice w bK bL)/\∃ T bM bN,cell b (pIdx f (a-1) 16) 10=some (.slice T bM bN)/\∃ aw,cell b (pIdx f (a-1) 16) 11=some (.int .i64 aw)/\∃ bO,cell b (pIdx f (a-1) 16) 12=some (.int .i64 bO)/\∃ bP,cell b (pIdx f (a-1) 16) 13=some (.int .i64 bP)/\∃ bQ,cell b (pIdx f (a-1) 16) 14=some (.int .i64 bQ)/\∃ aS,cell b (pIdx f (a-1) 16) 15=some (.int .i64 aS)/\∀ aT:Nat,b.heap.size<=aT->∀ ax,Ext b ax->FnP Tryz.prog zjt #[(.slice none 0 0)] ax fun cn co=>Ext ax co/\∃ aU aV aW bR,cn=(.tuple #[(.agg #[(.int .i64 aU),(.int .i64 aV),(.int .i64 aW)]),(.int .i64 bR)])/\∀ aX:Nat,b.heap.size<=aX->∀ ay,zag [] [k,g,A,aT,aX] b ay->FnP Tryz.prog zaZ #[(.pointer l)] ay fun cp bb=>Ext ay bb/\∃ q Y bS,cp=(.slice q Y bS)/\∃ (aM:Int->World->Prop) (be:Int->World->Nat),aM 0 bb/\∀ (i:Int) (m:World),aM i m->(((i<(Y:Int))->q≠none/\(0:Int)<=i/\(i:Int)<(Y:Int)/\(pIdx q i 8)≠none/\∃ bT,cell m (pIdx q i 8) 0=some (.string bT)/\∃ bU bV bW,cell m (pIdx q i 8) 1=some (.slice bU bV bW)/\∃ bX,cell m (pIdx q i 8) 2=some (.int .i64 bX)/\∃ bY,cell m (pIdx q i 8) 3=some (.int .i64 bY)/\∃ bZ,cell m (pIdx q i 8) 4=some (.int .i64 bZ)/\∃ aY,cell m (pIdx q i 8) 5=some (.int .i64 aY)/\∃ aZ,cell m (pIdx q i 8) 6=some (.int .i64 aZ)/\∃ a0,cell m (pIdx q i 8) 7=some (.int .i64 a0)/\∀ b0:Nat,m.heap.size<=b0->∀ az,Ext m az->Run Tryz.prog (.eq .neq 44 false false (.agg #[(.int .i64 aY),(.int .i64 aZ),(.int .i64 a0)]) (.agg #[(.int .i64 aU),(.int .i64 aV),(.int .i64 aW)])) az fun cq cr=>Ext az cr/\∃ aA,cq=(.bool aA)/\((aA=true)->∀ a1,Ext m a1->o (.bool false) a1)/\((aA=false)->InR .i64 (i+1)/\(aM (i+1) m/\be (i+1) m<be i m))))/\(((Y:Int)<=i)->(((((M=0)/\(u=L))/\(aw=4))->InR .i64 (v+1)))/\∀ a2,Ext m a2->o (.bool ((((decide (M=0))&&(decide (u=L)))&&(decide (aw=4)))&&(decide (aS=(v+1))))) a2)))/\((ao≠4)->∀ B,zag [] [k,g,A] h B->FnP Tryz.prog zbn #[(.pointer l)] B fun aK b=>zbM [k,g,A] B b/\∃ f I aq R,aK=(.tuple #[(.slice f I aq),(.int .i64 R)])/\((0<(I:Int))->∀ J,Ext b J->o (.bool false) J)/\(((I:Int)<=0)->∀ J,Ext b J->FnP Tryz.prog zbx #[(.pointer l)] J fun cs ct=>Ext J ct/\∃ S,cs=(.int .i64 S)/\((s<=S)->∀ K,Ext b K->o (.bool false) K)/\((S<s)->∀ K,Ext b K->FnP Tryz.prog zbx #[(.pointer l)] K fun cu cv=>Ext K cv/\∃ t,cu=(.int .i64 t)/\InR .i64 (s-t)/\InR .i64 (u+(s-t))/\∀ aB,Ext b aB->FnP Tryz.prog zbx #[(.pointer l)] aB fun cw cx=>Ext aB cx/\∃ w,cw=(.int .i64 w)/\InR .i64 (s-w)/\∀ aC,zag [] [k,g,A] b aC->FnP Tryz.prog zcm #[(.pointer l),(.int .i64 (s-w))] aC fun cy x=>zbM [k,g,A] aC x/\∃ T,cy=(.int .i64 T)/\((T≠0)->∀ a3,Ext x a3->o (.bool true) a3)/\((T=0)->InR .i64 (D+1)/\(aL (u+(s-t)) (D+1) x/\bd (u+(s-t)) (D+1) x<bd u D ab))))))))))/\(((v+1)<=D)->∀ z,zag [] [k,g] ab z->FnP Tryz.prog zaz #[(.pointer l)] z fun aI c=>Ext z c/\∃ d p ai,aI=(.slice d p ai)/\InR .i64 (a-1)/\d≠none/\(0:Int)<=(a-1)/\((a-1):Int)<(p:Int)/\(pIdx d (a-1) 16)≠none/\∃ aj,cell c (pIdx d (a-1) 16) 0=some (.string aj)/\∃ N,cell c (pIdx d (a-1) 16) 1=some (.int .i64 N)/\∃ b1,cell c (pIdx d (a-1) 16) 2=some (.int .i64 b1)/\∃ b2,cell c (pIdx d (a-1) 16) 3=some (.int .i64 b2)/\∃ O,cell c (pIdx d (a-1) 16) 4=some (.int .i64 O)/\∃ b3,cell c (pIdx d (a-1) 16) 5=some (.int .i64 b3)/\∃ b4,cell c (pIdx d (a-1) 16) 6=some (.string b4)/\∃ e,cell c (pIdx d (a-1) 16) 7=some (.string e)/\∃ b5,cell c (pIdx d (a-1) 16) 8=some (.int .i64 b5)/\∃ b6 b7 b8,cell c (pIdx d (a-1) 16) 9=some (.slice b6 b7 b8)/\∃ ak b9 ca,cell c (pIdx d (a-1) 16) 10=some (.slice ak b9 ca)/\∃ P,cell c (pIdx d (a-1) 16) 11=some (.int .i64 P)/\∃ al,cell c (pIdx d (a-1) 16) 12=some (.int .i64 al)/\∃ am,cell c (pIdx d (a-1) 16) 13=some (.int .i64 am)/\∃ an,cell c (pIdx d (a-1) 16) 14=some (.int .i64 an)/\∃ V,cell c (pIdx d (a-1) 16) 15=some (.int .i64 V)/\∀ a4:Nat,c.heap.size<=a4->∀ aD,Ext c aD->FnP Tryz.prog zjt #[(.slice none 0 0)] aD fun cz cA=>Ext aD cA/\∃ a5 a6 a7 ap,cz=(.tuple #[(.agg #[(.int .i64 a5),(.int .i64 a6),(.int .i64 a7)]),(.int .i64 ap)])/\∀ a8:Nat,c.heap.size<=a8->∀ aE,zag [] [k,g,a4,a8] c aE->FnP Tryz.prog zaZ #[(.pointer l)] aE fun cB bc=>Ext aE bc/\∃ r Z cb,cB=(.slice r Z cb)/\∃ (aN:Int->World->Prop) (bf:Int->World->Nat),aN 0 bc/\∀ (j:Int) (n:World),aN j n->(((j<(Z:Int))->r≠none/\(0:Int)<=j/\(j:Int)<(Z:Int)/\(pIdx r j 8)≠none/\∃ R,cell n (pIdx r j 8) 0=some (.string R)/\∃ ar cc cd,cell n (pIdx r j 8) 1=some (.slice ar cc cd)/\∃ au,cell n (pIdx r j 8) 2=some (.int .i64 au)/\∃ av,cell n (pIdx r j 8) 3=some (.int .i64 av)/\∃ t,cell n (pIdx r j 8) 4=some (.int .i64 t)/\∃ W,cell n (pIdx r j 8) 5=some (.int .i64 W)/\∃ X,cell n (pIdx r j 8) 6=some (.int .i64 X)/\∃ w,cell n (pIdx r j 8) 7=some (.int .i64 w)/\∀ ce:Nat,n.heap.size<=ce->∀ x,Ext n x->Run Tryz.prog (.eq .neq 44 false false (.agg #[(.int .i64 W),(.int .i64 X),(.int .i64 w)]) (.agg #[(.int .i64 a5),(.int .i64 a6),(.int .i64 a7)])) x fun cC cD=>Ext x cD/\∃ aF,cC=(.bool aF)/\((aF=true)->∀ a9,Ext n a9->o (.bool false) a9)/\((aF=false)->InR .i64 (j+1)/\(aN (j+1) n/\bf (j+1) n<bf j n))))/\(((Z:Int)<=j)->(((((M=0)/\(u=L))/\(P=4))->InR .i64 (v+1)))/\∀ ba,Ext n ba->o (.bool ((((decide (M=0))&&(decide (u=L)))&&(decide (P=4)))&&(decide (V=(v+1))))) ba)))))
theorem zg1 (a:Option Addr) (b c:Nat) (d e f g:Int) (i:ByteArray) (j k l m n:Int) (o p:ByteArray) (q:Int) (r:Option Addr) (s t:Nat) (u:Option Addr) (v w:Nat) (x:World) (y:Value->World->Prop) (h:zhc a b c d e f g i j k l m n o p q r s t u v w x y):FnP Tryz.prog zci #[(.agg #[(.slice a b c),(.int .i64 d),(.int .i64 e),(.int .i64 f),(.int .i64 g)]),(.agg #[(.string i),(.int .i64 j),(.int .i64 k),(.int .i64 l),(.int .i64 m),(.int .i64 n),(.string o),(.string p),(.int .i64 q),(.slice r s t),(.slice u v w)])] x y:=
 zab (Eq.mp (by kernel_rfl:_=Runs Tryz.prog y ({N:=180,muts:=[21,29,22,24,81,32,37,307]}:Cfg) Tryz.f7 (Tryz.f7.body.getD .skip) [.agg [.slc a b c,.int .i64 d,.int .i64 e,.int .i64 f,.int .i64 g],.agg [.str i,.int .i64 j,.int .i64 k,.int .i64 l,.int .i64 m,.int .i64 n,.str o,.str p,.int .i64 q,.slc r s t,.slc u v w]] x) h) Tryz.func7 (by kernel_rfl) (fun a w=>Tryz.call7 a w) (by kernel_rfl) (by kernel_rfl) rfl rfl
theorem zqp (W:World) (R:Array Value->Prop) (h:∀ x_0:Option Addr,∀ x_0l:Nat,∀ x_0c:Nat,zaA Tryz.prog W 76 x_0 x_0l x_0c->∀ x_1:Int,InR .i64 x_1->∀ x_2:Int,InR .i64 x_2->∀ x_3:Int,InR .i64 x_3->∀ x_4:Int,InR .i64 x_4->∀ j_0:ByteArray,j_0.size<=9223372036854775807->∀ j_1:Int,InR .i64 j_1->∀ j_2:Int,InR .i64 j_2->∀ j_3:Int,InR .i64 j_3->∀ j_4:Int,InR .i64 j_4->∀ j_5:Int,InR .i64 j_5->∀ j_6:ByteArray,j_6.size<=9223372036854775807->∀ j_7:ByteArray,j_7.size<=9223372036854775807->∀ j_8:Int,InR .i64 j_8->∀ j_9:Option Addr,∀ j_9l:Nat,∀ j_9c:Nat,zaA Tryz.prog W 47 j_9 j_9l j_9c->∀ j_10:Option Addr,∀ j_10l:Nat,∀ j_10c:Nat,zaA Tryz.prog W 3 j_10 j_10l j_10c->R #[(.agg #[(.slice x_0 x_0l x_0c),(.int .i64 x_1),(.int .i64 x_2),(.int .i64 x_3),(.int .i64 x_4)]),(.agg #[(.string j_0),(.int .i64 j_1),(.int .i64 j_2),(.int .i64 j_3),(.int .i64 j_4),(.int .i64 j_5),(.string j_6),(.string j_7),(.int .i64 j_8),(.slice j_9 j_9l j_9c),(.slice j_10 j_10l j_10c)])]) (args:Array Value) (hg:zcA Tryz.prog W Tryz.f7.params.toList args.toList):R args:=by
  have e_:(zeM Tryz.prog W Tryz.f7.params.toList fun l=>R l.toArray)=(∀ x_0:Option Addr,∀ x_0l:Nat,∀ x_0c:Nat,zaA Tryz.prog W 76 x_0 x_0l x_0c->∀ x_1:Int,InR .i64 x_1->∀ x_2:Int,InR .i64 x_2->∀ x_3:Int,InR .i64 x_3->∀ x_4:Int,InR .i64 x_4->∀ j_0:ByteArray,j_0.size<=9223372036854775807->∀ j_1:Int,InR .i64 j_1->∀ j_2:Int,InR .i64 j_2->∀ j_3:Int,InR .i64 j_3->∀ j_4:Int,InR .i64 j_4->∀ j_5:Int,InR .i64 j_5->∀ j_6:ByteArray,j_6.size<=9223372036854775807->∀ j_7:ByteArray,j_7.size<=9223372036854775807->∀ j_8:Int,InR .i64 j_8->∀ j_9:Option Addr,∀ j_9l:Nat,∀ j_9c:Nat,zaA Tryz.prog W 47 j_9 j_9l j_9c->∀ j_10:Option Addr,∀ j_10l:Nat,∀ j_10c:Nat,zaA Tryz.prog W 3 j_10 j_10l j_10c->R #[(.agg #[(.slice x_0 x_0l x_0c),(.int .i64 x_1),(.int .i64 x_2),(.int .i64 x_3),(.int .i64 x_4)]),(.agg #[(.string j_0),(.int .i64 j_1),(.int .i64 j_2),(.int .i64 j_3),(.int .i64 j_4),(.int .i64 j_5),(.string j_6),(.string j_7),(.int .i64 j_8),(.slice j_9 j_9l j_9c),(.slice j_10 j_10l j_10c)])]):=by kernel_rfl
  exact zft (by rw [e_]; exact h) args hg
def run (l t:Int):List UInt8:=if l<t then Lib.itoa l++45::Lib.itoa t else Lib.itoa l
theorem zfD (p:Option Addr) (c:Nat):pCut p c 0 1=p:=by
  unfold pCut
  split
  · rfl
  · cases p<;>simp [add_zero]
theorem zw5 {w:World} (g:GD w):11<=w.heap.size:=by
  have h:=g.gc.2 0 (by omega)
  obtain ⟨a,ha,hb,_⟩:=zdO h
  obtain rfl:=Option.some.inj ha
  exact hb
end Go.Proofs.YtcceeahmcecbnaaGreatDoor
namespace Go.Proofs.YtcceeahmcecbnaaGreatDoor
open Go.Sx Go.RowKit Go.ChangeShapes Go.WideShapes Go.ChangeAt
def zxZ (ss:List ByteArray):DataW Unit:=.agg (ss.map fun s=>.lit (.string s.data.toList))
theorem zse {enc:TypeId×Value->Unit} {P:Program} {w:World} {base:Nat} {sp:Nat->Bool} {held:Bool} {fuel:Nat} {t e:TypeId} {n:Nat} {cs:List Value} {ss:List ByteArray} {p:List MemPlace}
    (ht:P.underlying t=some (.array n e)) (he:P.underlying e=some .string) (hce:P.cellsOf e=1) (hct:P.cellsOf t=n)
    (h:DataW.trod enc P w base sp held fuel t cs=some (zxZ ss,p)):cs=ss.map Value.string:=by
  cases fuel with
  |zero => simp [DataW.trod] at h
  |succ fuel =>
    simp only [DataW.trod,ht,hce,hct,Nat.mul_one] at h
    split at h
    · rename_i hl
      obtain ⟨xs,hm,hx⟩:=Option.map_eq_some_iff.1 h
      have hxs:xs.map (·.1)=ss.map fun s=>(DataW.lit (.string s.data.toList):DataW Unit):=by
        have:=congrArg Prod.fst hx
        simpa [zxZ] using this
      have hxl:xs.length=n:=by simpa using Lib.mapM_length hm
      have hzl:ss.length=n:=by
        have:=congrArg List.length hxs
        simp at this
        omega
      apply List.ext_getElem?
      intro i
      by_cases hi:i<n
      · obtain ⟨b,hb,hf⟩:=Lib.mapM_at hm i i (by simp [hi])
        obtain ⟨s,hc,rfl,_⟩:=DataW.trod_string he hf
        have h1:cs[i]?=some (.string s):=by
          have:=congrArg (·[0]?) hc
          simpa [List.getElem?_take,List.getElem?_drop] using this
        have h2:(xs.map (·.1))[i]?=some (DataW.lit (.string s.data.toList):DataW Unit):=by simp [hb]
        rw [hxs] at h2
        simp only [List.getElem?_map,Option.map_eq_some_iff,DataW.lit.injEq,Lit.string.injEq] at h2
        obtain ⟨z',hz',he'⟩:=h2
        have:z'=s:=by
          have:=congrArg ofL he'
          rwa [zb8,zb8] at this
        subst this
        simp [h1,hz']
      · rw [List.getElem?_eq_none (by omega),List.getElem?_eq_none (by simp; omega)]
    · cases h
theorem zAG {P:Program} {W:World} {l:List (String×DataW Unit)} (h:laidMet P l W) (hp:(l.all fun x=>x.2.handleName?.isNone)=true):laidMetH P l W:=by
  have hnone:(l.filter fun x=>x.2.handleName?.isSome)=[]:=by
    rw [List.filter_eq_nil_iff]
    intro a ha hs
    have:=List.all_eq_true.1 hp a ha
    cases hh:a.2.handleName?<;>simp_all
  unfold laidMetH
  rw [hnone]
  exact h
theorem zC7 {P:Program} {W:World} {l:List (String×DataW Unit)} (h:laidMet P l W) {name:String} {ss:List ByteArray}
    (hm:(name,zxZ ss)∈l) {g:Nat} {t e:TypeId} {n:Nat} (hg:P.globalNamed name=some g) (hty:(P.globals[g]?).map (·.type)=some t)
    (ht:P.underlying t=some (.array n e)) (he:P.underlying e=some .string) (hce:P.cellsOf e=1) (hct:P.cellsOf t=n):zau W (some ⟨g,0,none⟩) (ss.map Value.string):=by
  obtain ⟨ps,hL,_⟩:=h
  obtain ⟨g',t',cs,fuel,p,h1,h2,h3,h4⟩:=zeE hL _ hm
  obtain rfl:=Option.some.inj (hg.symm.trans h1)
  obtain rfl:=Option.some.inj (hty.symm.trans h2)
  have hcs:=zse ht he hce hct h4
  intro i v hv
  have h5:=World.var?_cell hg h3 i
  have hlen:cs[i]?=some v:=by
    have:cs.toList[i]?=some v:=by rw [hcs]; exact hv
    simpa using this
  rw [hlen] at h5
  have ha:(Addr.add ⟨g,0,none⟩ i)=⟨g,i,none⟩:=by
    unfold Addr.add
    by_cases h0:i=0
    · subst h0; rfl
    · rw [if_neg h0]; simp
  show W.cell? (Addr.add ⟨g,0,none⟩ i)=some v
  rw [ha]; exact h5
theorem zvN {P:Program} {W:World} {name:String} {zs:List Int} {k:IntKind} (h:Lib.TabIs P W name k zs) {g:Nat} (hg:P.globalNamed name=some g):zau W (some ⟨g,0,none⟩) (zs.map fun z=>Value.int k z):=by
  intro i v hv
  have h5:=World.var?_cell hg h i
  have hlen:((zs.map fun z=>Value.int k z).toArray)[i]?=some v:=by simpa using hv
  rw [hlen] at h5
  have ha:(Addr.add ⟨g,0,none⟩ i)=⟨g,i,none⟩:=by
    unfold Addr.add
    by_cases h0:i=0
    · subst h0; rfl
    · rw [if_neg h0]; simp
  show W.cell? (Addr.add ⟨g,0,none⟩ i)=some v
  rw [ha]; exact h5
def lD : List (String × DataW Unit) := [("math/bits.deBruijn32tab", Rows.laid_math_bits_deBruijn32tab), ("math/bits.deBruijn64tab", Rows.laid_math_bits_deBruijn64tab), ("internal/strconv.uint64pow10", Rows.laid_internal_strconv_uint64pow10), ("shiftbell/civil.ahead", Rows.laid_shiftbell_civil_ahead), ("unicode/utf8.acceptRanges", Rows.laid_unicode_utf8_acceptRanges), ("errors.errorType", Rows.laid_errors_errorType), ("strconv.ErrRange", Rows.laid_strconv_ErrRange), ("strconv.ErrSyntax", Rows.laid_strconv_ErrSyntax), ("shiftbell/desk.whats", Rows.laid_shiftbell_desk_whats), ("unicode/utf8.first", Rows.laid_unicode_utf8_first)]
def lD9 : List (String × DataW Unit) := [("math/bits.deBruijn32tab", Rows.laid_math_bits_deBruijn32tab), ("math/bits.deBruijn64tab", Rows.laid_math_bits_deBruijn64tab), ("internal/strconv.uint64pow10", Rows.laid_internal_strconv_uint64pow10), ("shiftbell/civil.ahead", Rows.laid_shiftbell_civil_ahead), ("unicode/utf8.acceptRanges", Rows.laid_unicode_utf8_acceptRanges), ("strconv.ErrRange", Rows.laid_strconv_ErrRange), ("strconv.ErrSyntax", Rows.laid_strconv_ErrSyntax), ("shiftbell/desk.whats", Rows.laid_shiftbell_desk_whats), ("unicode/utf8.first", Rows.laid_unicode_utf8_first)]
theorem zGq {W : World} (h : laidMetH Tryz.prog lD W) : laidMet Tryz.prog lD9 W /\ handlesMet Tryz.prog [("errors.errorType", Rows.laid_errors_errorType)] W := by
  have e1 : (lD.filter fun x => x.2.handleName?.isSome) = [("errors.errorType", Rows.laid_errors_errorType)] := by kernel_rfl
  have e2:(lD.filter fun x=>x.2.handleName?.isNone)=lD9:=by kernel_rfl
  unfold laidMetH at h
  rw [e1,e2] at h
  exact h
theorem zJv {W : World} (h : handlesMet Tryz.prog [("errors.errorType", Rows.laid_errors_errorType)] W) : Go.Sx.cell W (some ⟨0, 0, none⟩) 0 = some errT := by
  obtain ⟨name,u,ty,e1,e2,e3,e4,e5⟩:=h _ (List.mem_singleton.2 rfl)
  have en:name=[101,114,114,111,114]:=(Option.some.inj e1).symm
  subst en
  have hrt : (Tryz.prog.cutTypes.find? (·.1 == "internal/reflectlite.rtype")).map (·.2) = some 329 := by kernel_rfl
  obtain rfl:=Option.some.inj (hrt.symm.trans e2)
  have hsz:Tryz.prog.types.size=439:=by kernel_rfl
  have hone:((List.range 439).filter fun t=>Tryz.prog.rowNamed t [101,114,114,111,114])=[175]:=by kernel_rfl
  have hm:ty∈(List.range 439).filter fun t=>Tryz.prog.rowNamed t [101,114,114,111,114]:=List.mem_filter.2 ⟨List.mem_range.2 (by rw [<- hsz]; exact e3),e4⟩
  rw [hone] at hm
  obtain rfl:=List.mem_singleton.1 hm
  have hh:typeHandle Tryz.prog 175=.pointer (some ⟨11,175,none⟩):=by kernel_rfl
  rw [hh] at e5
  have et : Tryz.prog.globalNamed "errors.errorType" = some 0 := by kernel_rfl
  have:=World.var?_cell et e5 0
  exact zgo (this.trans (by unfold errT; rfl))
theorem laid_okD {W:World} (h:laidMetH Tryz.prog lD W) (hsp:W.ShapedOpen Tryz.prog):GD W:=by
  obtain ⟨h9,hh⟩:=zGq h
  have hp:(lD9.all fun x=>x.2.handleName?.isNone)=true:=by kernel_rfl
  have h9':=zAG h9 hp
  refine ⟨gb_of h9' hsp hp (by simp [lD9]) (by simp [lD9]) (by simp [lD9]),?_,zJv hh,?_,?_⟩
  · have hm : ("shiftbell/desk.whats", (Rows.laid_shiftbell_desk_whats : DataW Unit)) ∈ lD9 := by simp [lD9]
    exact zC7 h9 (name := "shiftbell/desk.whats") (ss := zvR) (by exact hm) (g := 4) (t := (Tryz.prog.globals[4]?).elim 0 (·.type)) (e := 9) (n := 6) (by kernel_rfl) (by kernel_rfl) (by kernel_rfl) (by kernel_rfl) (by kernel_rfl) (by kernel_rfl)
  · have hm : ("math/bits.deBruijn64tab", (Rows.laid_math_bits_deBruijn64tab : DataW Unit)) ∈ lD9 := by simp [lD9]
    have ht := zvN (zsG h9' hp (name := "math/bits.deBruijn64tab") (k := .u8) (zs := Lib.deBruijn64tab.map Int.ofNat) (by exact hm) (g := 9) (t := (Tryz.prog.globals[9]?).elim 0 (·.type)) (e := 5) (n := 64) (by kernel_rfl) (by kernel_rfl) (by kernel_rfl) (by kernel_rfl) (by kernel_rfl) (by kernel_rfl)) (g := 9) (by kernel_rfl)
    intro i hi
    refine ht i _ ?_
    have hl:i<Lib.deBruijn64tab.length:=hi
    rw [List.getElem?_map,List.getElem?_map,List.getD_eq_getElem?_getD,List.getElem?_eq_getElem hl]
    rfl
  · have hm : ("shiftbell/civil.ahead", (Rows.laid_shiftbell_civil_ahead : DataW Unit)) ∈ lD9 := by simp [lD9]
    have ht := zvN (zsG h9' hp (name := "shiftbell/civil.ahead") (k := .i64) (zs := [0, 0, 31, 59, 90, 120, 151, 181, 212, 243, 273, 304, 334]) (by exact hm) (g := 10) (t := (Tryz.prog.globals[10]?).elim 0 (·.type)) (e := 3) (n := 13) (by kernel_rfl) (by kernel_rfl) (by kernel_rfl) (by kernel_rfl) (by kernel_rfl) (by kernel_rfl)) (g := 10) (by kernel_rfl)
    intro i hi
    refine ht i _ ?_
    match i,hi with
    |0,_|1,_|2,_|3,_|4,_|5,_|6,_|7,_|8,_|9,_|10,_|11,_|12,_ => rfl
noncomputable def preD (os:Os):World:=(World.holding Tryz.prog os ⟨#[],#[],[]⟩).setCell ⟨0,0,none⟩ errT
noncomputable def zEb (os:Os):World:=(preD os).layVars Tryz.prog lD9
theorem startD_os (os:Os):(zEb os).os=os:=World.layVars_os _ _ _
theorem door_D (os:Os) (args:Array Value):laidMetH Tryz.prog lD ((zEb os).forCall (fun _ _=>0) ⟨#[],args,[]⟩).memory:=by
  have e1 : (lD.filter fun x => x.2.handleName?.isSome) = [("errors.errorType", Rows.laid_errors_errorType)] := by kernel_rfl
  have e2:(lD.filter fun x=>x.2.handleName?.isNone)=lD9:=by kernel_rfl
  unfold laidMetH
  rw [e1,e2]
  refine ⟨?_,?_⟩
  · have a1:(lD9.filter fun x=>(lD9.map (·.1)).contains x.1)=lD9:=List.filter_eq_self.2 fun x hx=>List.contains_iff_mem.2 (List.mem_map.2 ⟨x,hx,rfl⟩)
    have a2:(lD9.filter fun x=>!(lD9.map (·.1)).contains x.1)=[]:=List.filter_eq_nil_iff.2 fun x hx=>by rw [List.contains_iff_mem.2 (List.mem_map.2 ⟨x,hx,rfl⟩)]; simp
    have h:laidMet Tryz.prog lD9 (zEb os):=laidMet_layVars (w0:=preD os) (lD9.map (·.1)) [] (by rw [a1]; rfl) (by rw [a1]; kernel_rfl) (by rw [a1]; kernel_rfl) (by rw [a2]; exact LaidIn.none)
    exact h.of_heap (by simp [World.memory,World.forCall,Input.heap])
  · intro x hx
    obtain rfl:=List.mem_singleton.1 hx
    exact ⟨[101,114,114,111,114],329,175,rfl,by kernel_rfl,of_decide_eq_true (by kernel_rfl),by kernel_rfl,by kernel_rfl⟩
end Go.Proofs.YtcceeahmcecbnaaGreatDoor
namespace Go.Proofs.YtcceeahmcecbnaaGreatDoor
open Go.Sx Go.RowKit
theorem zsE {l:List Nat} {w w':World} (e:Ext w w') (h:∀ b∈l,b<w.heap.size):zbM l w w':=(zac (S:=fun _=>False) e).kept fun b hb=>⟨h b hb,fun h=>h⟩
section
variable {O:Nat->Prop} {B fb:Nat} {w:World} {P:Pl} {F:Fm}
theorem zEf (x:FXO O B w fb P F) (j:Jb) (pa:Option Addr) (ca:Nat) (pf:Option Addr) (cf:Nat) (hJ:IsJ w j pa ca pf) (hW:WfJ j) (hB:B<=w.heap.size) :
    FnP Tryz.prog zaT #[.pointer (ptr fb),jv j pa ca pf cf] w fun v w'=>∃ id e:Int,v=.tuple #[.int .i64 id,.int .i64 e]/\((e=0↔zqC F j)/\zHu F j e)/\((e≠0/\id=0/\Ext w w')\/(e=0/\id=F.jobs.length+1/\∃ P',FXO O B w' fb P' (zn3 F j)/\Fr (ft fb P.jp) w w'/\zCQ w fb P.jp P'.jp)):=by
  have ne:=zaG fb
  have hl0:=x.jO.1
  refine zdq (ptr fb) j.user j.prio j.nd.c j.nd.m j.nd.g j.ask.k j.ask.key j.ask.val j.ask.n pa j.ask.xs.length ca pf j.aft.length cf w _ fun b0 hb0 w1 h1=>?_
  refine (zze j pa ca pf cf w1 (hJ.ext h1) hW).mono fun v w2 ⟨e2,hv⟩=>⟨e2,zrw j,hv,fun hne w4 h4=>⟨0,zrw j,rfl,⟨⟨fun h=>absurd h hne,fun h=>absurd (zgp.2 h.1) hne⟩,.inl ⟨hne,rfl⟩⟩,.inl ⟨hne,rfl,h4⟩⟩,fun hz=>?_⟩
  have hok:=zgp.1 hz
  have hlen:=hok.len
  have hup:=zfL hok.up
  refine ⟨ne,ne,_,_,_,x.cell (i:=6) rfl,fun h60 w7 h7=>⟨0,7,rfl,⟨⟨fun h=>(by cases h),fun h=>absurd (by have:=x.len; omega) h.2.1⟩,.inr ⟨hz,.inl ⟨by have:=x.len; omega,rfl⟩⟩⟩,.inl ⟨by decide,rfl,h7⟩⟩,fun h60=>?_⟩
  refine ⟨fun k w'=>Ext w w'/\0<=k/\k<=j.aft.length/\∀ i:Nat,(i:Int)<k->j.aft.getD i 0<=F.jobs.length,fun k _=>(j.aft.length-k).toNat,⟨Ext.refl _,by omega,by omega,fun i hi=>by omega⟩,?_⟩
  rintro k w9 ⟨x9,hk0,hk1,hrng⟩
  have gmem:∀ {k:Int},0<=k->k<j.aft.length->j.aft.getD k.toNat 0∈j.aft:=fun h0 h1=>zan j.aft 0 (by omega)
  refine ⟨fun hlt=>?_,fun hge=>?_⟩
  · have g:=zd9.idx (hJ.2.ext x9) hk0 hlt
    have hy:=hup _ (gmem hk0 hlt)
    refine ⟨fun h=>zak g (zah.2 h),hk0,hlt,_,g,fun w11 x11=>?_⟩
    have h11:=x9.trans (zaa x11)
    refine (zBZ (x.ext h11) _ (i64 (by omega))).mono fun v w12 ⟨e12,hv⟩=>⟨e12,?_⟩
    rcases hv with ⟨hno,rfl⟩|⟨_,hin,rfl⟩
    · exact ⟨_,rfl,fun _ w14 h14=>⟨0,5,rfl,⟨⟨fun h=>(by cases h),fun h=>absurd ⟨hy.1,(h.2.2 _ (gmem hk0 hlt)).1⟩ hno⟩,.inr ⟨hz,.inr ⟨by have:=x.len; omega,.inl ⟨⟨_,gmem hk0 hlt,hno⟩,rfl⟩⟩⟩⟩,.inl ⟨by decide,rfl,(h11.trans e12).trans h14⟩⟩,fun h=>absurd rfl h⟩
    · obtain ⟨q,hq,hne,_⟩:=ziP x ⟨hy.1,hin⟩ (h11.trans e12)
      refine ⟨_,rfl,fun h=>absurd (hq.symm.trans h) hne,fun _=>⟨i64 (by omega),⟨h11.trans e12,by omega,by omega,fun i hi=>?_⟩,by simp only []; omega⟩⟩
      by_cases hik:(i:Int)<k
      · exact hrng i hik
      · obtain rfl:i=k.toNat:=by omega
        exact hin
  have hall:∀ y∈j.aft,y<=F.jobs.length:=fun y hy=>by
    obtain ⟨i,hi,rfl⟩:=List.mem_iff_getElem.1 hy
    have:=hrng i (by omega)
    simpa [List.getD_eq_getElem?_getD,hi] using this
  refine ⟨fun k w'=>Ext w w'/\0<=k/\k<=j.aft.length/\∀ i:Nat,(i:Int)<k->zaU F (j.aft.getD i 0)≠4/\zaU F (j.aft.getD i 0)≠5,fun k _=>(j.aft.length-k).toNat,⟨x9,by omega,by omega,fun i hi=>by omega⟩,?_⟩
  clear hrng hge hk0 hk1
  rintro k w12 ⟨x12,hk0,hk1,hrng⟩
  refine ⟨fun hlt=>?_,fun hge=>?_⟩
  · have g:=zd9.idx (hJ.2.ext x12) hk0 hlt
    have hy:=hup _ (gmem hk0 hlt)
    have hy2:=hall _ (gmem hk0 hlt)
    refine ⟨fun h=>zak g (zah.2 h),hk0,hlt,_,g,fun w14 x14=>?_⟩
    have h14:=x12.trans (zaa x14)
    refine (zBZ (x.ext h14) _ (i64 (by omega))).mono fun v w15 ⟨e15,hv⟩=>⟨e15,?_⟩
    rcases hv with ⟨hno,_⟩|⟨_,hin,rfl⟩
    · exact absurd ⟨hy.1,hy2⟩ hno
    · obtain ⟨q,hq,hne,hg⟩:=ziP x ⟨hy.1,hin⟩ (h14.trans e15)
      refine ⟨_,rfl,by rw [hq]; exact hne,by rw [hq]; exact hne,_,by rw [hq]; exact hg,fun hbad w18 h18=>⟨0,9,rfl,⟨⟨fun h=>(by cases h),fun h=>?_⟩,.inr ⟨hz,.inr ⟨by have:=x.len; omega,.inr ⟨fun y hy=>⟨(hup y hy).1,hall y hy⟩,.inl ⟨⟨_,gmem hk0 hlt,hbad⟩,rfl⟩⟩⟩⟩⟩,.inl ⟨by decide,rfl,(h14.trans e15).trans h18⟩⟩,fun hgd=>⟨i64 (by omega),⟨h14.trans e15,by omega,by omega,fun i hi=>?_⟩,by simp only []; omega⟩⟩
      · have:=(h.2.2 _ (gmem hk0 hlt)).2
        rcases hbad with h|h
        · exact absurd h this.1
        · exact absurd h this.2
      · by_cases hik:(i:Int)<k
        · exact hrng i hik
        · obtain rfl:i=k.toNat:=by omega
          exact hgd
  have hall2:∀ y∈j.aft,zaU F y≠4/\zaU F y≠5:=fun y hy=>by
    obtain ⟨i,hi,rfl⟩:=List.mem_iff_getElem.1 hy
    have:=hrng i (by omega)
    simpa [List.getD_eq_getElem?_getD,hi] using this
  have hoks:zqC F j:=⟨hok,by have:=x.len; omega,fun y hy=>⟨hall y hy,hall2 y hy⟩⟩
  have x12':=x.ext x12
  refine ⟨ne,ne,_,_,_,x12'.cell (i:=6) rfl,fun w16 x16=>?_⟩
  have h16:=x12.trans (zaa x16)
  have hE:zeL j.ask=0:=by
    have:=hok.ask
    unfold zle at this
    split at this
    · cases this
    · exact this
  refine (zzw ⟨zpt j,pa,ca,pf,cf⟩ w16 (hJ.ext h16) hE hok.len).mono fun v w17 ⟨e17,r,hv,hrs,hF⟩=>⟨e17,r.s.job.user,r.s.job.prio,r.s.job.nd.c,r.s.job.nd.m,r.s.job.nd.g,r.s.job.ask.k,r.s.job.ask.key,r.s.job.ask.val,r.s.job.ask.n,r.pa,r.s.job.ask.xs.length,r.ca,r.pf,r.s.job.aft.length,r.cf,r.s.what,r.s.host,r.s.since,r.s.again,r.s.tries,hv,?_⟩
  have h17:=h16.trans e17
  have x17:=x.ext h17
  have hlR:=x.len
  have hn60:F.jobs.length≠60:=hoks.2.1
  have hbj:∀ b∈[b0],∀ y,P.jp=some y->y.block≠b:=fun b hb y hy=>by simp at hb; subst hb; have:=(x.arr.lt y hy).2; omega
  refine znK (v:=sv r) ze9 (by omega) x17.arr (Nat.le_trans hB h17.size) hbj rfl (zsn r) (by omega) (by omega) (by omega) fun p' c' w44 o44 g44 hp' hb44=>⟨ne,ne,?_⟩
  have apF:zbP (ptr fb) P.jp:=fun u y hu hy=>by cases hu; exact fun h=>x.ap y hy h.symm
  have s44:=x17.slot.st apF g44
  have hfb:=(x.slot.lt _ rfl).2
  have apP:∀ a,p'=some a->a.block≠fb:=fun a ha he=>by
    rcases g44.new with hn|hn
    · rw [ha] at hn
      cases hj:P.jp with
      |none => rw [hj] at hn; simp [blk] at hn
      |some y => rw [hj] at hn; simp [blk] at hn; exact x.ap y hj (hn▸he)
    · have h1:=hn a ha
      have h2:=h17.size
      have h3:fb<w.heap.size:=hfb
      omega
  refine zaW (off:=6) s44 rfl (by simp) (by simp) (by intro u hu; simp at hu; subst hu; rfl) (fun b hb y hy he=>by cases hy; simp at hb; subst hb; have h3:fb<w.heap.size:=hfb; have he:fb=b:=he; omega) fun w48 o48 g48=>?_
  have f48:Fr (ft fb P.jp) w17 w48:=(zaR g44 fun a ha=>.inr ⟨a,ha,rfl⟩).tr (zaR g48 fun a ha=>by cases ha; exact .inl rfl)
  have hft:∀ b,ft fb p' b->ft fb P.jp b\/w17.heap.size<=b:=fun b hb=>by
    rcases hb with h|⟨a,ha,rfl⟩
    · exact .inl (.inl h)
    · rcases g44.new with hn|hn
      · left
        rw [ha] at hn
        cases hj:P.jp with
        |none => rw [hj] at hn; simp [blk] at hn
        |some y => rw [hj] at hn; simp [blk] at hn; exact .inr ⟨y,rfl,hn.symm⟩
      · exact .inr (hn a ha)
  have step:∀ {w'' w0:World},Ext w0 w17->Fr (ftO O fb p') w48 w''->Fr (ftO O fb P.jp) w0 w'':=fun h0 kf=>((zac h0).tr (f48.mono fun b hb=>.inr hb)).trans kf fun b hb=>by
    rcases hb with hb|hb
    · exact .inl (.inl hb)
    · rcases hft b hb with h|h
      · exact .inl (.inr h)
      · exact .inr (Nat.le_trans h0.size h)
  have y48:FXO O B w48 fb ⟨P.hp,P.hc,p',c',P.R++[r]⟩ (zn3 F j):=by
    refine ⟨?_,?_,?_,fun w'' kf=>x.hs w'' (step h17 kf),fun r' hr' w'' kf=>?_,apP,x.hO,?_,fun b hb=>by have:=x.olt b hb; have:=h17.size; have:=f48.size; omega,fun b hb hf=>(hft b hf).elim (x.odis b hb) fun h=>by have:=x.olt b hb; have:=h17.size; omega⟩
    · show Own B w48 zcK 7 (ptr fb) 1 1 [_,_,_,_,_,_,.slice p' (P.R++[r]).length c']
      rw [List.length_append]
      exact o48
    · show Own B w48 ziL 16 p' (P.R++[r]).length c' ((P.R++[r]).flatMap ztO)
      rw [List.length_append,List.flatMap_append]
      have:=o44.st (fun u v hu hv=>by cases hv; exact apP u hu) g48
      simpa [Value.cells] using this
    · show (P.R++[r]).map (·.s)=F.jobs++[zpt j]
      rw [List.map_append,x.map]; simp [hrs]
    · have hr':r'∈P.R++[r]:=hr'
      rcases List.mem_append.1 hr' with hr'|hr'
      · exact x.js r' hr' w'' (step h17 kf)
      · simp at hr'; subst hr'
        have:=hF (ftO O fb P.jp) (fun b hb=>by
          rcases hb with hb|hb
          · have:=x.olt b hb; have:=h16.size; omega
          · have:=(x.foot hb).2; have:=h16.size; omega) w'' (step (Ext.refl _) kf)
        rw [hrs]
        exact this
    · refine ⟨by show (F.jobs++[zpt j]).length<=60; rw [List.length_append]; simp; omega,fun s hs=>?_⟩
      have hs:s∈F.jobs++[zpt j]:=hs
      rcases List.mem_append.1 hs with hs|hs
      · exact x.jO.2 s hs
      · simp at hs; subst hs; exact ⟨hok,hW⟩
  refine ⟨ne,ne,_,_,_,y48.cell (i:=6) rfl,fun w52 h52=>⟨_,0,rfl,⟨⟨fun _=>hoks,fun _=>rfl⟩,.inr ⟨hz,.inr ⟨hn60,.inr ⟨fun y hy=>⟨(hup y hy).1,hall y hy⟩,.inr ⟨hall2,rfl⟩⟩⟩⟩⟩,.inr ⟨rfl,?_,_,y48.ext h52,((zac h17).tr f48).tr (zac h52),fun b hb=>?_⟩⟩⟩
  · simp; omega
  · rcases hft b hb with h|h
    · exact .inl h
    · exact .inr (Nat.le_trans h17.size h)
end
theorem zJ3 (w:World):FnP Tryz.prog zjt #[.slice none 0 0] w fun v w'=>Ext w w'/\v=.tuple #[nv za3,.int .i64 0]:=by
  refine zxF none 0 0 w _ fun b0 hb0 w1 h1=>?_
  refine (zuT none 0 [] (by simp) w1 (fun i x hx=>by simp at hx)).mono fun v w2 ⟨e2,hv⟩=>⟨e2,0,hv,fun hne=>absurd rfl hne,fun _ b4 hb4=>?_⟩
  refine ⟨fun k c7 c8 c9 w'=>w'=w/\0<=k/\c7=0/\c8=0/\c9=0,fun _ _ _ _ _=>0,⟨rfl,by omega,rfl,rfl,rfl⟩,?_⟩
  rintro k c7 c8 c9 w' ⟨rfl,hk0,rfl,rfl,rfl⟩
  refine ⟨fun h=>by simp at h; omega,fun _ w11 x11=>⟨zar x11 (Ext.refl _) fun d hd=>by simp at hd; omega,rfl⟩⟩
theorem All_k (pol:Pol) (h:zi4 pol) (w:World):FnP Tryz.prog zkj #[.agg #[.int .i64 pol.first,.int .i64 pol.times,.int .i64 pol.most,.int .i64 pol.tries]] w fun v w'=>Ext w w'/\v=.tuple #[.int .i64 (zE2 pol pol.tries.toNat),.int .i64 0]:=by
  have hp:=h
  unfold zi4 okP at hp
  refine zvk pol.first pol.times pol.most pol.tries w _ fun b0 _ w1 h1=>(ztd pol.first pol.times pol.most pol.tries w1).mono fun v w2 ⟨e2,e,hv,hy,_⟩=>⟨e2,e,hv,fun hne=>absurd (hy h) hne,fun _=>?_⟩
  refine ⟨fun sum k w'=>w'=w/\0<=k/\k<=pol.tries/\sum=zE2 pol k.toNat,fun _ k _=>(pol.tries-k).toNat,⟨rfl,by omega,by omega,rfl⟩,?_⟩
  rintro sum k w' ⟨rfl,hk0,hk1,rfl⟩
  have hs:=zx2 h k.toNat
  refine ⟨fun hlt=>⟨i64 (by omega),fun w8 h8=>?_⟩,fun hge w8 h8=>⟨h8,by rw [show k=pol.tries by omega]⟩⟩
  refine (zCp pol.first pol.times pol.most pol.tries (k+1) (i64 (by omega)) w8).mono fun v w9 ⟨e9,a,e,hv,herr,_,ha⟩=>⟨e9,a,e,hv,?_⟩
  have he:e=0:=herr.2.2 h ⟨by omega,by omega⟩
  have hd:=zgT h k.toNat
  have ha:=ha he
  rw [show (k+1-1).toNat=k.toNat by omega] at ha
  refine ⟨i64 (by omega),i64 (by omega),⟨rfl,by omega,by omega,?_⟩,by simp only []; omega⟩
  rw [show (k+1).toNat=k.toNat+1 by omega]
  show zE2 pol k.toNat+a=zE2 pol k.toNat+ze0 pol ((k.toNat:Int)+1)
  unfold ze0
  rw [ha,show ((k.toNat:Int)+1-1).toNat=k.toNat by omega]
theorem zFq {L:List Ht} {t:AT} {a:Nd} {k:Int} (h:k∈zbB L t a L.length):zbB L t a L.length≠[]:=fun h0=>by rw [h0] at h; cases h
theorem zBa (W:World) (g:GD W) {p:Option Addr} {hl c:Nat} (hA:zaA Tryz.prog W zdM p hl c) (x1 x2 x3 x4:Int) (j0:Jb) (pa:Option Addr) (ca:Nat) (pf:Option Addr) (cf:Nat) (hJ:IsJ W j0 pa ca pf) (hW:WfJ j0) :
    FnP Tryz.prog zci #[(.agg #[(.slice p hl c),(.int .i64 x1),(.int .i64 x2),(.int .i64 x3),(.int .i64 x4)]),jv j0 pa ca pf cf] W fun v W'=>v=.bool true/\Ext W W':=by
  have hsz:=zw5 g
  obtain ⟨L,rfl,h63,hO,hL⟩:=zus hA
  refine zg1 p L.length c x1 x2 x3 x4 j0.user j0.prio j0.nd.c j0.nd.m j0.nd.g j0.ask.k j0.ask.key j0.ask.val j0.ask.n pa j0.ask.xs.length ca pf j0.aft.length cf W _ fun b0 hb0 b1 hb1 w2 x2'=>?_
  have h2:=zaa x2'
  have lt0:=x2'.lt b0 (by simp)
  have lt1:=x2'.lt b1 (by simp)
  refine (zCG p c L h63 hO ⟨x1,x2,x3,x4⟩ w2 (hL.ext h2)).mono fun v w3 ⟨e3,f,e,hv,hiff,hno,hyes⟩=>⟨e3,f,e,hv,fun w6 h6=>?_⟩
  have h3:=h2.trans e3
  have x6:=h3.trans h6
  refine (ztu w6 (g.ext x6) (Nat.le_trans hsz x6.size)).mono fun v w7 ⟨e7,hv⟩=>⟨e7,true,hv,fun _ w9 h9=>?_,fun hgood w9 x9=>?_⟩
  · have x9:=h3.trans h9
    exact (ztu w9 (g.ext x9) (Nat.le_trans hsz x9.size)).mono fun v w10 ⟨e10,hv⟩=>⟨e10,true,hv,fun w12 h12=>⟨rfl,h3.trans h12⟩⟩
  have hz:=hgood.1.2
  have hok:=hiff.1 hz
  obtain ⟨fb,P0,rfl,fx3⟩:=hyes hz
  have hpol:zi4 ⟨x1,x2,x3,x4⟩:=hok.2.2
  have hpp:=hpol
  unfold zi4 okP at hpp
  simp only at hpp
  have bl1:∀ d∈[b1],W.heap.size<=d:=fun d hd=>by simp at hd; omega
  have hW9:=zar x9 h3 bl1
  let j:Jb:={ j0 with aft:=[] }
  have hWj:WfJ j:=⟨hW.user,hW.prio,hW.nd,hW.ask,by simp [j],by simp [j]⟩
  have hJj:∀ {w'},Ext W w'->IsJ w' j pa ca none:=fun e=>⟨(hJ.ext e).1,zau.nil⟩
  refine (zBs p c L h63 hO j0.ask pa ca hW.ask j0.nd w9 (hL.ext hW9) (hJ.ext hW9).1).mono fun v w10 ⟨e10,k',e',hv,hres⟩=>⟨e10,k',e',hv,fun _ w13 x13=>⟨rfl,zar x13 h3 bl1⟩,fun he w13 x13=>?_⟩
  have hfit:zbB L j.ask j.nd L.length≠[]:=by
    rcases hres with ⟨h,_⟩|⟨_,_,h,_⟩
    · exact absurd he h
    · exact zFq h
  have hs:WFs L j:=⟨hfit,rfl⟩
  have hW13:=zar x13 h3 bl1
  have f313:Fr (·=b1) w3 w13:=zbD x13 fun d hd=>.inl (by simpa using hd)
  have fx13:=fx3.fr f313 fun b hb=>by have hb:b=b1:=hb; subst hb; exact lt1
  have hs13:w2.heap.size<=w13.heap.size:=Nat.le_trans e3.size f313.size
  have ltb:∀ {w':World},w2.heap.size<=w'.heap.size->∀ b∈[b0,b1],b<w'.heap.size:=fun {w'} h b hb=>by simp at hb; rcases hb with rfl|rfl<;>omega
  refine (zEf fx13 j pa ca none 0 (hJj hW13) hWj hs13).mono fun v w14 ⟨id,e,hv,⟨hiff',_⟩,hc⟩=>?_
  rcases hc with ⟨hne,hid,e14⟩|⟨he0,hid,P1,fx14,f14,_⟩
  · exact ⟨zsE e14 (ltb hs13),id,e,hv,fun _ w17 h17=>⟨by rw [hid]; rfl,(hW13.trans e14).trans h17⟩,fun h=>absurd h hne⟩
  have hid1:id=1:=by rw [hid]; simp [zky]
  subst hid1
  have nft:∀ {w':World} {P:Pl} {F:Fm},FX w2.heap.size w' fb P F->∀ b∈[b0,b1],¬ ft fb P.jp b:=fun x b hb hf=>by have:=(x.foot hf).1; simp at hb; rcases hb with rfl|rfl<;>omega
  have keepW:∀ {w' w'':World} {P:Pl} {F:Fm},FX w2.heap.size w' fb P F->Ext W w'->Fr (ft fb P.jp) w' w''->Ext W w'':=fun x e f=>f.ext e fun b hb=>by have:=(x.foot hb).1; have:=h2.size; omega
  have hW14:=keepW fx13 hW13 f14
  have hs14:w2.heap.size<=w14.heap.size:=Nat.le_trans hs13 f14.size
  obtain ⟨wf0,ha0⟩:=wf_new hok (hiff'.1 he0)
  refine ⟨f14.kept fun b hb=>⟨ltb hs13 b hb,nft fx13 b hb⟩,1,e,hv,fun hne=>absurd he0 hne,fun _ w17 h17=>?_⟩
  refine (All_k ⟨x1,x2,x3,x4⟩ hpol w17).mono fun v w18 ⟨e18,hv⟩=>⟨e18,_,_,hv,i64 (by omega),?_⟩
  have fin:∀ {w26:World} {P:Pl} {H:Fm},FX w2.heap.size w26 fb P H->Inv H->idle H->∀ {w58:World},Ext w26 w58 ->
      FnP Tryz.prog zaZ #[.pointer (ptr fb)] w58 fun v59 w59=>Ext w58 w59/\∃ (t60:Option Addr) (c60:Nat),v59=.slice t60 H.hosts.length c60/\zjv w59 t60 H.hosts/\(∀ x∈H.hosts,x.used=za3)/\(H.hosts.length:Int)<=30:=fun {w26 P H} x I id {w58} h58 =>
    (zwr (x.ext h58) I.i0.hs).mono fun v w59 ⟨e59,t60,c60,hv,_,hS⟩=>⟨e59,t60,c60,hv,hS.at,zuu I id,by have:=I.i0.hs.1; omega⟩
  refine ⟨fun waited k w'=>0<=k/\k<=x4+1/\Ext W w'/\w2.heap.size<=w'.heap.size/\∃ P F,FX w2.heap.size w' fb P F/\k<=x4/\WF L ⟨x1,x2,x3,x4⟩ j k.toNat F/\(zad F 0).again<=F.now/\waited=zE2 ⟨x1,x2,x3,x4⟩ k.toNat,fun _ k _=>(x4+1-k).toNat,⟨by omega,by omega,hW14,hs14,P1,_,fx14,by omega,wf0,ha0,rfl⟩,?_⟩
  rintro waited k w24 ⟨hk0,hk1,hW24,hs24,P,F,x,hk4,wf,hag,rfl⟩
  refine ⟨fun hlt w25 x25=>?_,fun hge=>by omega⟩
  have h25:=zaa x25
  have hs25:=Nat.le_trans hs24 h25.size
  have hW25:=hW24.trans h25
  have x25':=x.ext h25
  have I:=wf.inv
  refine (zvv x25' I.i0.pre.aft I.i0.hs).mono fun v w26 ⟨G,outs,out,outc,P',hv,hpl,_,_,hP,xG,f26,oO,_⟩=>⟨f26.kept fun b hb=>⟨ltb hs25 b hb,nft x25' b hb⟩,out,_,outc,0,hv,?_⟩
  obtain ⟨kh,rfl,rfl,hbest⟩:=wf.plan hs hag hpl
  have hW26:=keepW x25' hW25 f26
  have hs26:=Nat.le_trans hs25 f26.size
  have hon:out≠none:=oO.ne1 (by simp) (by omega)
  have c1:=oO.cells 0 _ rfl
  have hpn:pIdx out 0 2≠none:=fun h=>hon (zah.1 h)
  refine ⟨fun _=>hon,fun _=>by omega,fun _=>by simp,fun _=>hpn,fun h=>(by simp at h),fun _=>⟨1,by rw [zal,zae]; exact c1,fun h=>absurd rfl h,fun _ w32 x32=>?_⟩⟩
  have h32:=zaa x32
  have hs32:=Nat.le_trans hs26 h32.size
  have hW32:=hW26.trans h32
  have xG':=xG.ext h32
  have hk0F:0<F.jobs.length:=by rw [wf.one]; omega
  have hGl:(ze2 F 0 kh).jobs.length=1:=by rw [zhV]; exact wf.one
  have hGw:(zad (ze2 F 0 kh) 0).what=2:=by rw [zrW hk0F,if_pos rfl]
  have IG:=zti I hk0F (wf.ready hs hag) hbest
  refine (zox xG' IG.i0.pre 1 (i64 (by omega)) false).mono fun v w33 ⟨e33,hv,hiff2,hc2⟩=>?_
  have he33:e33=0:=hiff2.2 ⟨⟨by omega,by rw [hGl]; omega⟩,hGw⟩
  rcases hc2 with ⟨hne,_⟩|⟨_,P2,hP2,xH,f33⟩
  · exact absurd he33 hne
  rw [show ((1:Int)-1).toNat=0 by omega] at xH
  have hW33:=keepW xG' hW32 f33
  have hs33:=Nat.le_trans hs32 f33.size
  obtain ⟨fA,fB⟩:=wf.fail hs hag hbest
  refine ⟨f33.kept fun b hb=>⟨ltb hs32 b hb,nft xG' b hb⟩,e33,hv,fun hne=>absurd he33 hne,fun _ w35 x35=>?_⟩
  have h35:=zaa x35
  have xH':=xH.ext h35
  have hW35:=hW33.trans h35
  have hs35:=Nat.le_trans hs33 h35.size
  have hHl:(zgA (ze2 F 0 kh) 0 false).jobs.length=1:=by
    rcases Int.lt_or_le (⟨x1,x2,x3,x4⟩:Pol).tries ((k.toNat:Int)+1) with h|h
    · exact (fB h).2.2.2.2
    · exact (fA h).1.one
  generalize hH:zgA (ze2 F 0 kh) 0 false=H at *
  refine (ztQ xH').mono fun v w36 ⟨e36,pj,cj,S,hv,hS,J⟩=>⟨e36,pj,_,cj,hv,i64 (by omega),?_⟩
  have hSl:=zth hS
  have hW36:=hW35.trans e36
  have hs36:=Nat.le_trans hs35 e36.size
  have xH36:=xH'.ext e36
  obtain ⟨r,hr,n1,n2,gc,_⟩:=J.st (k:=0) (by omega) (by omega)
  obtain ⟨_,hja⟩:=zzI hS hr
  rw [show (0:Int).toNat=0 by rfl] at hja
  refine ⟨n1,by omega,by omega,n2,_,gc 0 _ rfl,_,gc 1 _ rfl,_,gc 2 _ rfl,_,gc 3 _ rfl,_,gc 4 _ rfl,_,gc 5 _ rfl,_,gc 6 _ rfl,_,gc 7 _ rfl,_,gc 8 _ rfl,_,_,_,gc 9 _ rfl,_,_,_,gc 10 _ rfl,_,gc 11 _ rfl,_,gc 12 _ rfl,_,gc 13 _ rfl,_,gc 14 _ rfl,_,gc 15 _ rfl,fun b60 hb60=>⟨fun h4 w61 x61=>?_,fun hn4 w61 x61=>?_⟩⟩
  · -- it is no more
    have hbig:(⟨x1,x2,x3,x4⟩:Pol).tries<(k.toNat:Int)+1:=by
      rcases Int.lt_or_le (⟨x1,x2,x3,x4⟩:Pol).tries ((k.toNat:Int)+1) with h|h
      · exact h
      · have:=(fA h).1.wh
        rw [hja] at this
        omega
    obtain ⟨w4,t4,IH,onH,_⟩:=fB hbig
    simp only at hbig
    have hkx:k=x4:=by omega
    have h61:=zaa x61
    have x61':=xH36.ext h61
    refine (ztQ x61').mono fun v w62 ⟨e62,pj2,cj2,S2,hv,hS2,J2⟩=>⟨e62,pj2,_,cj2,hv,i64 (by omega),?_⟩
    have hSl2:=zth hS2
    obtain ⟨r2,hr2,m1,m2,gd,_⟩:=J2.st (k:=0) (by omega) (by omega)
    obtain ⟨_,hja2⟩:=zzI hS2 hr2
    rw [show (0:Int).toNat=0 by rfl] at hja2
    have hW62:=(hW36.trans h61).trans e62
    have hs62:=Nat.le_trans hs36 (Nat.le_trans h61.size e62.size)
    refine ⟨m1,by omega,by omega,m2,_,gd 0 _ rfl,_,gd 1 _ rfl,_,gd 2 _ rfl,_,gd 3 _ rfl,_,gd 4 _ rfl,_,gd 5 _ rfl,_,gd 6 _ rfl,_,gd 7 _ rfl,_,gd 8 _ rfl,_,_,_,gd 9 _ rfl,_,_,_,gd 10 _ rfl,_,gd 11 _ rfl,_,gd 12 _ rfl,_,gd 13 _ rfl,_,gd 14 _ rfl,_,gd 15 _ rfl,fun b86 hb86 w87 h87=>?_⟩
    refine (zJ3 w87).mono fun v w88 ⟨e88,hv⟩=>⟨e88,_,_,_,_,hv,fun b93 hb93 w94 x94=>?_⟩
    have h94:=zaa x94
    have hid:idle H:=fun i hi=>by
      have:i=0:=by omega
      subst this
      rw [w4]; decide
    refine (fin (x61'.ext e62) IH hid h94).mono fun v w95 ⟨e95,t96,c96,hv,hHs,hu,h30⟩=>⟨e95,t96,_,c96,hv,?_⟩
    have hW95:=(hW62.trans h94).trans e95
    refine ⟨fun i w'=>w'=w95/\0<=i/\i<=H.hosts.length,fun i _=>(H.hosts.length-i).toNat,⟨rfl,by omega,by omega⟩,?_⟩
    rintro i w' ⟨rfl,hi0,hi1⟩
    refine ⟨fun hil=>?_,fun hige=>⟨fun _=>i64 (by omega),fun w102 h102=>⟨?_,hW95.trans h102⟩⟩⟩
    · obtain ⟨lq,ld,a1,a2,gh,_⟩:=hHs.at hi0 hil
      have hub:=hu _ (zan H.hosts default (i:=i.toNat) (by omega))
      refine ⟨a1,hi0,hil,a2,_,gh 0 _ rfl,_,_,_,gh 1 _ rfl,_,gh 2 _ rfl,_,gh 3 _ rfl,_,gh 4 _ rfl,_,gh 5 _ rfl,_,gh 6 _ rfl,_,gh 7 _ rfl,fun b112 hb112 w113 h113=>?_⟩
      refine neN_k (a:=(H.hosts.getD i.toNat default).used) (b:=za3) ⟨Ext.refl _,_,rfl,fun h=>?_,fun _=>⟨i64 (by omega),⟨rfl,by omega,by omega⟩,by simp only []; omega⟩⟩
      rw [hub] at h
      simp at h
    · have e15:r2.s.tries=x4+1:=by rw [<- hja2,t4]; omega
      have e11:r2.s.what=4:=by rw [<- hja2,w4]
      rw [e15,e11,hkx]
      simp
  · -- it zA9
    have hle:(k.toNat:Int)+1<=(⟨x1,x2,x3,x4⟩:Pol).tries:=by
      rcases Int.lt_or_le (⟨x1,x2,x3,x4⟩:Pol).tries ((k.toNat:Int)+1) with h|h
      · have:=(fB h).1
        rw [hja] at this
        exact absurd this hn4
      · exact h
    obtain ⟨wfH,hnow,hagH⟩:=fA hle
    simp only at hle
    have hdb:=zgT hpol ((k.toNat:Int)+1-1).toNat
    simp only at hdb
    have hdd:x1<=ze0 ⟨x1,x2,x3,x4⟩ ((k.toNat:Int)+1)/\ze0 ⟨x1,x2,x3,x4⟩ ((k.toNat:Int)+1)<=x3:=hdb
    have hnow':=wfH.inv.i0.now
    have hsd:=zx2 hpol k.toNat
    have h61:=zaa x61
    have x61':=xH36.ext h61
    have hW61:=hW36.trans h61
    have hs61:=Nat.le_trans hs36 h61.size
    have l61:∀ b∈[b0,b1,b60],b<w61.heap.size/\∀ {P:Pl} {F:Fm} {w':World},FX w2.heap.size w36 fb P F->¬ ft fb P.jp b:=fun b hb=>by
      refine ⟨?_,fun {P F w'} x hf=>?_⟩
      · by_cases h:b=b60
        · subst h; exact x61.lt b (by simp)
        · exact ltb hs61 b (by simp at hb ⊢; omega)
      · have:=x.foot hf
        simp at hb
        rcases hb with rfl|rfl|rfl<;>omega
    refine (zvv x61' wfH.inv.i0.pre.aft wfH.inv.i0.hs).mono fun v w62 ⟨G2,outs2,out2,outc2,P3,hv,hpl2,_,_,hP3,x62,f62,_,_⟩=>⟨f62.kept fun b hb=>⟨(l61 b hb).1,(l61 b hb).2 (w':=w36) xH36⟩,out2,_,outc2,0,hv,?_⟩
    obtain ⟨rfl,rfl⟩:=wfH.none (by rw [hagH]; omega) hpl2
    have hW62:=keepW x61' hW61 f62
    have hs62:=Nat.le_trans hs61 f62.size
    refine ⟨fun h=>(by simp at h),fun _ w67 h67=>(zJ7 (x62.ext h67)).mono fun v w68 ⟨e68,hv⟩=>⟨e68,_,hv,fun hbad=>?_,fun _ w70 h70=>(zJ7 (x62.ext h70)).mono fun v w71 ⟨e71,hv⟩=>⟨e71,_,hv,?_⟩⟩⟩
    · exfalso
      have:r.s.again=(zad G2 0).again:=by rw [hja]
      rw [this,hagH] at hbad
      omega
    have hra:r.s.again=F.now+ze0 ⟨x1,x2,x3,x4⟩ ((k.toNat:Int)+1):=by rw [<- hja]; exact hagH
    rw [hra,hnow]
    refine ⟨i64 (by omega),i64 (by omega),fun w73 h73=>(zJ7 (x62.ext h73)).mono fun v w74 ⟨e74,hv⟩=>⟨e74,_,hv,?_⟩⟩
    rw [hnow]
    refine ⟨i64 (by omega),fun w76 x76=>?_⟩
    have h76:=zaa x76
    have x76':=x62.ext h76
    have hs76:=Nat.le_trans hs62 h76.size
    have e1:F.now+ze0 ⟨x1,x2,x3,x4⟩ ((k.toNat:Int)+1)-F.now=ze0 ⟨x1,x2,x3,x4⟩ ((k.toNat:Int)+1):=by omega
    rw [e1]
    have l76:∀ b∈[b0,b1,b60],b<w76.heap.size/\¬ ft fb P3.jp b:=fun b hb=>⟨x76.lt b hb,by rw [hP3]; exact (l61 b hb).2 (w':=w36) xH36⟩
    refine (zEs x76' wfH.inv.i0.now _).mono fun v w77 ⟨e,hv,hc3,hiff3⟩=>?_
    rcases hc3 with ⟨hne,_,e77⟩|⟨he3,⟨ht0,ht1,ht2⟩,x77,f77⟩
    · exact ⟨zsE e77 fun b hb=>(l76 b hb).1,e,hv,fun _ w79 h79=>⟨rfl,((hW62.trans h76).trans e77).trans h79⟩,fun h=>absurd h hne⟩
    · refine ⟨f77.kept fun b hb=>l76 b hb,e,hv,fun h=>absurd he3 h,fun _=>⟨i64 (by omega),⟨by omega,by omega,keepW x76' (hW62.trans h76) f77,Nat.le_trans hs76 f77.size,P3,_,x77,by omega,?_,?_,?_⟩,by simp only []; omega⟩⟩
      · rw [show (k+1).toNat=k.toNat+1 by omega]
        exact wfH.tick ht0 ht2
      · show (zad G2 0).again<=G2.now+_
        rw [hagH,hnow]
        exact Int.le_refl _
      · rw [show (k+1).toNat=k.toNat+1 by omega]
        rfl
theorem zFG (W:World) (hg:GD W):∀ x_0:Option Addr,∀ x_0l:Nat,∀ x_0c:Nat,zaA Tryz.prog W zdM x_0 x_0l x_0c->∀ x_1:Int,InR .i64 x_1->∀ x_2:Int,InR .i64 x_2->∀ x_3:Int,InR .i64 x_3->∀ x_4:Int,InR .i64 x_4->∀ j_0:ByteArray,j_0.size<=9223372036854775807->∀ j_1:Int,InR .i64 j_1->∀ j_2:Int,InR .i64 j_2->∀ j_3:Int,InR .i64 j_3->∀ j_4:Int,InR .i64 j_4->∀ j_5:Int,InR .i64 j_5->∀ j_6:ByteArray,j_6.size<=9223372036854775807->∀ j_7:ByteArray,j_7.size<=9223372036854775807->∀ j_8:Int,InR .i64 j_8->∀ j_9:Option Addr,∀ j_9l:Nat,∀ j_9c:Nat,zaA Tryz.prog W zdB j_9 j_9l j_9c->∀ j_10:Option Addr,∀ j_10l:Nat,∀ j_10c:Nat,zaA Tryz.prog W zfr j_10 j_10l j_10c ->
    FnP Tryz.prog zci #[(.agg #[(.slice x_0 x_0l x_0c),(.int .i64 x_1),(.int .i64 x_2),(.int .i64 x_3),(.int .i64 x_4)]),(.agg #[(.string j_0),(.int .i64 j_1),(.int .i64 j_2),(.int .i64 j_3),(.int .i64 j_4),(.int .i64 j_5),(.string j_6),(.string j_7),(.int .i64 j_8),(.slice j_9 j_9l j_9c),(.slice j_10 j_10l j_10c)])] W fun v W'=>v=.bool true/\Ext W W':=by
  intro p hl c hA x1 _ x2 _ x3 _ x4 _ j_0 h0 j_1 h1 j_2 h2 j_3 h3 j_4 h4 j_5 h5 j_6 h6 j_7 h7 j_8 h8 q l d hQ r m e hF
  obtain ⟨j,hJ,hW,e1⟩:=zxg h0 h1 h2 h3 h4 h5 h6 h7 h8 hQ hF
  have:=zBa W hg hA x1 x2 x3 x4 j q d r e hJ hW
  have e2:jv j q d r e=.agg #[(.string j_0),(.int .i64 j_1),(.int .i64 j_2),(.int .i64 j_3),(.int .i64 j_4),(.int .i64 j_5),(.string j_6),(.string j_7),(.int .i64 j_8),(.slice q l d),(.slice r m e)]:=by
    show Value.agg (jcs j q d r e).toArray=_
    rw [e1]
  rw [<- e2]
  exact this
end Go.Proofs.YtcceeahmcecbnaaGreatDoor
namespace Go.Proofs.YtcceeahmcecbnaaGreatDoor
open Go.Sx Go.RowKit Go.ChangeShapes Go.WideShapes Go.ChangeAt
theorem zGe {H:Type} {enc:TypeId×Value->H} {a:Assume} {C:Checked} {os:Os} {f:FuncId} {fn:Func} {s:ChangeSpec} {conds:List PathCond} {apart fresh handsOn again:Bool} {X:World->Array Value->Prop}
    (hX:∀ (w w':World) (args:Array Value),w.heap=w'.heap->X w args->X w' args)
    (own:ownKnob C.prog.godebug=none) (started:os.Started) (noInit:C.prog.inits.idxOf? f=none) (hfn:C.prog.funcs[f]?=some fn)
    (witness:∃ (w:World) (tape:Tape) (i:Input),w.os=os/\(w.forCall tape i).Shaped C.prog/\i.vars=[]/\Input.okWide C.prog (w.forCall tape i) .any w.heap.size f i /\
      ((s.pre enc C.prog fn conds apart (w.forCall tape i).memory i.args/\X (w.forCall tape i).memory i.args)/\sizedMet enc C.prog fn (OpenSpec.ofChange s) apart (w.forCall tape i).memory i.args)/\a.holds C.prog (lone (Frame.enter C.prog f i.args .normal) [] (w.forCall tape i)))
    (contract:∀ (W:World) (base:Nat) (args:Array Value) (ds gs:List (DataW H)) (zb6:List MemPlace),
      (∀ (j:Nat) t v,fn.params[j]?=some t->args[j]?=some v->Value.okWide C.prog W .any base t v) ->
      DataW.Whole enc C.prog fn.params.toList s.vars apart W args.toList ds gs zb6 ->
      conds.all (PathCond.test C.prog ⟨fn.params.toList,ds,s.plain.varTypes C.prog,gs⟩)=true ->
      (DataW.weightsEach C.prog (fn.params.toList++s.plain.varTypes C.prog) (ds++gs)).all (·<=reachBytes)=true->X W args ->
      a.holds C.prog (lone (Frame.enter C.prog f args .normal) [] W)->W.ShapedOpen C.prog ->
      Calls C.prog f args W fun e W'=>∃ v,e=.returned v/\s.post enc C.prog fn apart fresh handsOn again W args v W') :
    ReturnsInHanded a C os f .any (fun w args=>(s.pre enc C.prog fn conds apart w args/\X w args)/\sizedMet enc C.prog fn (OpenSpec.ofChange s) apart w args) (s.post enc C.prog fn apart fresh handsOn again):=by
  refine returnsInHanded_of_calls own started noInit witness ?_
  intro w tape i _ hsh _ hok hpre hholds
  obtain ⟨_,_,_,fn',hfn',_,_,_,_,hval⟩:=hok
  have e:fn'=fn:=Option.some.inj (hfn'.symm.trans hfn)
  subst e
  obtain ⟨⟨⟨ds,gs,zb6,hw,hc⟩,hx⟩,hz⟩:=hpre
  refine (contract (w.forCall tape i) w.heap.size i.args ds gs zb6 hval (DataW.Whole.of_heap (w':=w.forCall tape i) (by rfl) hw) hc (hz.weights hw) (hX _ _ _ (by rfl) hx) hholds hsh).mono fun e W' ⟨v,he,hp⟩=>?_
  subst he
  exact ChangeSpec.post_blind hp
end Go.Proofs.YtcceeahmcecbnaaGreatDoor
