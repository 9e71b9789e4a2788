/- The framework, the program's texts and what is shown of them: part 5. -/
import Derived.Test.YtcceeahmcecbnaaGreatDoorWTopOrder4
set_option linter.unusedVariables false
set_option linter.unusedSimpArgs false
set_option maxRecDepth 100000
namespace Go.Proofs.YtcceeahmcecbnaaGreatDoor
open Go.Sx Go.RowKit
def zwC (h:Ht):Prop:=h.name.size<=9223372036854775807/\h.labels.length<=9223372036854775807/\∀ l∈h.labels,l.key.size<=9223372036854775807/\l.val.size<=9223372036854775807
def zjT (w:World) (p:Option Addr) (L:List Ht):Prop:=∀ (i:Nat) (h:Ht),L[i]?=some h->∃ q c,(∀ (j:Nat) u,(zFq h q c)[j]?=some u->Go.Sx.cell w p (i*8+j)=some u)/\Lbs w q h.labels
theorem zjT.ext {w w':World} {p:Option Addr} {L:List Ht} (h:zjT w p L) (he:Ext w w'):zjT w' p L:=fun i x hx=>by
  obtain ⟨q,c,h1,h2⟩:=h i x hx
  exact ⟨q,c,fun j u hu=>zaD he (h1 j u hu),h2.ext he⟩
theorem zjT.at {w:World} {p:Option Addr} {L:List Ht} (h:zjT w p L) {k:Int} (h0:0<=k) (hk:k<L.length):∃ q c,p≠none/\pIdx p k 8≠none/\(∀ (j:Nat) u,(zFq (L.getD k.toNat default) q c)[j]?=some u->Go.Sx.cell w (pIdx p k 8) j=some u)/\Lbs w q (L.getD k.toNat default).labels:=by
  obtain ⟨q,c,h1,h2⟩:=h k.toNat _ (getElem?_getD L default (by omega))
  have g:∀ (j:Nat) u,(zFq (L.getD k.toNat default) q c)[j]?=some u->Go.Sx.cell w (pIdx p k 8) j=some u:=fun j u hu=>by rw [zae]; exact h1 j u hu
  have g0:=g 0 _ rfl
  exact ⟨q,c,fun hq=>zai g0 (zah.2 hq),zai g0,g,h2⟩
def okLb (l:List Lb):Prop:=(∀ x∈l,lbB x.key=true/\lbB x.val=true)/\(l.map (·.key)).Nodup
def zHc (h:Ht):Prop:=lbB h.name=true/\h.labels.length<=8/\okLb h.labels/\okN h.has/\okN h.used/\zj9 h.used h.has
def zkJ (L:List Ht):Prop:=L.length<=30/\(∀ h∈L,zHc h)/\(L.map (·.name)).Nodup
def ziA (w:World) (r:Nat) (S:List ByteArray):Prop:=∃ m:List (ByteArray×Value),zdb Value.string w r m/\∀ a,(a∈S/\ziD m a=some (.bool true))\/(a∉S/\ziD m a=none)
theorem ziA.ext {w w':World} {r:Nat} {S:List ByteArray} (h:ziA w r S) (he:Ext w w'):ziA w' r S:=by
  obtain ⟨m,h1,h2⟩:=h
  exact ⟨m,h1.ext he,h2⟩
theorem ziA.lt {w:World} {r:Nat} {S:List ByteArray} (h:ziA w r S):r<w.heap.size:=by
  obtain ⟨m,h1,h2⟩:=h
  exact h1.lt
theorem ziA.grew {w w':World} {r s:Nat} {S:List ByteArray} (h:ziA w r S) (hr:r≠s) (hg:zco w w' (some ⟨s,0,none⟩) (some ⟨s,0,none⟩)):ziA w' r S:=by
  obtain ⟨m,h1,h2⟩:=h
  exact ⟨m,h1.grew (fun x hx=>by obtain rfl:=Option.some.inj hx; exact fun he=>hr he.symm) hg,h2⟩
theorem zAf {w:World} {K:Value->World->Prop} (hk:∀ w',ziA w' w.heap.size []->Ext w w'->K (.map (some w.heap.size)) w'):Run Tryz.prog (.makeMap zel) w K :=
  zkT (enc:=Value.string) fun w' h e=>hk w' ⟨[],h,fun a=>.inr ⟨by simp,rfl⟩⟩ e
theorem zoK {w:World} {r:Nat} {S:List ByteArray} (h:ziA w r S) (a:ByteArray) {K:Value->World->Prop} (hk:∀ b:Bool,(b=true↔a∈S)->K (.bool b) w):Run Tryz.prog (.lookup zel (.map (some r)) (.string a) false) w K:=by
  obtain ⟨m,h1,h2⟩:=h
  obtain ⟨i,hi,hz⟩:∃ i,Tryz.prog.info? zug=some i/\i.zero=some (.bool false):=by
    have:(Tryz.prog.info? zug).map (·.zero)=some (some (.bool false)):=by kernel_rfl
    obtain ⟨i,h1,h2⟩:=Option.map_eq_some_iff.1 this
    exact ⟨i,h1,h2⟩
  refine znc (enc:=Value.string) (zs0 (k:=zay) (by kernel_rfl)) (e:=zug) (by kernel_rfl) hi hz h1 ?_
  rcases h2 a with ⟨h3,h4⟩|⟨h3,h4⟩
  · rw [h4]; exact hk true ⟨fun _=>h3,fun _=>rfl⟩
  · rw [h4]; exact hk false ⟨fun h=>(by cases h),fun h=>absurd h h3⟩
theorem ztG {w:World} {r:Nat} {S:List ByteArray} (h:ziA w r S) (a:ByteArray) {K:Value->World->Prop} (hk:∀ w',ziA w' r (S++[a])->zco w w' (some ⟨r,0,none⟩) (some ⟨r,0,none⟩)->K undef w'):Run Tryz.prog (.mapUpdate zel (.map (some r)) (.string a) (.bool true)) w K:=by
  obtain ⟨m,h1,h2⟩:=h
  refine zh1 (enc:=Value.string) (zs0 (k:=zay) (by kernel_rfl)) (e:=zug) (by kernel_rfl) h1 fun w' h3 h4=>hk w' ⟨_,h3,fun b=>?_⟩ h4
  rw [zlD]
  by_cases hab:a=b
  · subst hab; exact .inl ⟨by simp,by simp⟩
  · have:b≠a:=fun h=>hab h.symm
    rw [if_neg hab]
    rcases h2 b with ⟨h5,h6⟩|⟨h5,h6⟩
    · exact .inl ⟨List.mem_append_left _ h5,h6⟩
    · exact .inr ⟨fun h=>by rcases List.mem_append.1 h with h|h; exact h5 h; exact this (by simpa using h),h6⟩
theorem zr8 {α:Type} {l:List α} (h:l.Nodup) (k:Nat) {x:α} (hx:l[k]?=some x):x∉l.take k:=by
  intro hm
  obtain ⟨j,hj,he⟩:=List.getElem_of_mem hm
  rw [List.length_take] at hj
  rw [List.getElem_take] at he
  have h1:l[j]?=some x:=by rw [List.getElem?_eq_getElem (by omega),he]
  have:=(List.getElem?_inj (by omega) h).1 (h1.trans hx.symm)
  omega
theorem zkb {α:Type}:∀ {l:List α},(∀ (k:Nat) x,l[k]?=some x->x∉l.take k)->l.Nodup:=by
  intro l h
  rw [List.nodup_iff_pairwise_ne,List.pairwise_iff_getElem]
  intro i j hi hj hij he
  refine h j _ (List.getElem?_eq_getElem hj) ?_
  rw [List.mem_iff_getElem]
  exact ⟨i,by simp; omega,by simp [he]⟩
theorem zc1 {α β:Type} (f:α->β) {l:List α} (d:α) {k:Nat} (h:k<l.length):(l.take (k+1)).map f=(l.take k).map f++[f (l.getD k d)]:=by
  rw [List.take_add_one,getElem?_getD l d h]; simp
theorem zsO (p:Option Addr) (c:Nat) (L:List Ht) (h63:(L.length:Int)<=9223372036854775807) (hO:∀ h∈L,zwC h) (w:World) (hL:zjT w p L) :
    FnP Tryz.prog zcd #[.slice p L.length c] w fun v w'=>Ext w w'/\∃ e:Int,v=.int .i64 e/\(e=0↔zkJ L)/\e≠5/\(∀ h r,L=h::r->lbB h.name=false->L.length<=30->e=3):=by
  refine zlR p L.length c w _ ⟨fun hgt w0 h0=>⟨h0,2,rfl,⟨fun h=>by omega,fun h=>by have:=h.1; omega⟩,by omega,fun h r _ _ hl=>by omega⟩,fun hle w0 h0=>?_⟩
  refine zAf fun w1 S1 e1=>⟨e1,_,rfl,?_⟩
  generalize hr1:w0.heap.size=r1 at S1
  have x1:=h0.trans e1
  have hw1:w.heap.size<=r1:=by have:=h0.size; omega
  refine ⟨fun k w'=>Ext w w'/\0<=k/\k<=L.length/\ziA w' r1 ((L.take k.toNat).map (·.name))/\(∀ j:Nat,(j:Int)<k->zHc (L.getD j default))/\(∀ j:Nat,(j:Int)<k->(L.getD j default).name∉(L.take j).map (·.name)),fun k _=>(L.length-k).toNat,⟨x1,by omega,by omega,S1,fun j hj=>by omega,fun j hj=>by omega⟩,?_⟩
  rintro k w5 ⟨x5,hk0,hk1,S5,hok,hdist⟩
  have fin:∀ {e:Int} {w':World},Ext w w'->(e≠0->¬ zkJ L)->e≠0->e≠5->(∀ h r,L=h::r->lbB h.name=false->L.length<=30->e=3)->Ext w w'/\∃ e':Int,Value.int .i64 e=.int .i64 e'/\(e'=0↔zkJ L)/\e'≠5/\(∀ h r,L=h::r->lbB h.name=false->L.length<=30->e'=3):=fun hx h1 h2 h3 h4=>⟨hx,_,rfl,⟨fun h=>absurd h h2,fun h=>absurd h (h1 h2)⟩,h3,h4⟩
  refine ⟨fun hlt=>?_,fun hge w6 h6=>⟨x5.trans h6,0,rfl,⟨fun _=>⟨by omega,fun h hh=>?_,?_⟩,fun _=>rfl⟩,by omega,fun h r he hf _=>?_⟩⟩
  · obtain ⟨q,d,hp,hp8,g',hLb⟩:=hL.at hk0 hlt
    have hm:=zap L default (i:=k.toNat) (by omega)
    have hOk:=hO _ hm
    generalize hHd:L.getD k.toNat default=H at g' hLb hm hOk
    have g:∀ (j:Nat) u,(zFq H q d)[j]?=some u->Go.Sx.cell w5 (pIdx p k 8) j=some u:=fun j u hu=>zaD x5 (g' j u hu)
    obtain ⟨ho1,ho2,ho3⟩:=hOk
    have hnot:∀ (P:Ht->Prop),(∀ h∈L,P h)->P H:=fun P h=>h H hm
    have first:lbB H.name=true->∀ h r,L=h::r->lbB h.name=false->(k:Int)≠0\/False:=fun hn h r he hf=>by
      refine .inl fun hz=>?_
      have:H=h:=by rw [<- hHd,he,hz]; rfl
      rw [this,hf] at hn; cases hn
    have nofirst:lbB H.name=true->∀ (e:Int) h r,L=h::r->lbB h.name=false->L.length<=30->e=3:=fun hn e h r he hf _=>by
      exfalso
      by_cases hz:k=0
      · have:H=h:=by rw [<- hHd,he,hz]; rfl
        rw [this,hf] at hn; cases hn
      · have h0':=(hok 0 (by omega)).1
        have:L.getD 0 default=h:=by rw [he]; rfl
        rw [this,hf] at h0'; cases h0'
    refine ⟨hp,hk0,hlt,hp8,_,g 0 _ rfl,_,_,_,g 1 _ rfl,_,g 2 _ rfl,_,g 3 _ rfl,_,g 4 _ rfl,_,g 5 _ rfl,_,g 6 _ rfl,_,g 7 _ rfl,fun b16 hb16=>?_⟩
    refine ⟨fun w'=>w'=w5/\lbB H.name=true/\H.name∉(L.take k.toNat).map (·.name)/\H.labels.length<=8,fun w19 h19=>?_,?_⟩
    · refine (zgs H.name ho1 w19).mono fun v w20 ⟨e20,hv⟩=>⟨e20,_,hv,fun hf w22 h22=>fin (x5.trans h22) (fun _ ho=>by have:=(ho.2.1 H hm).1; rw [hf] at this; cases this) (by omega) (by omega) (fun _ _ _ _ _=>rfl),fun hn w22 h22=>?_⟩
      refine zoK (S5.ext h22) H.name fun b hb=>⟨Ext.refl _,b,rfl,fun hin w25 h25=>fin (x5.trans h25) (fun _ ho=>?_) (by omega) (by omega) (nofirst hn 6),fun hnin=>⟨fun h8 w25 h25=>fin (x5.trans h25) (fun _ ho=>by have:=(ho.2.1 H hm).2.1; omega) (by omega) (by omega) (nofirst hn 2),fun h8=>⟨rfl,hn,(fun hm=>by rw [hb.2 hm] at hnin; cases hnin),by omega⟩⟩⟩
      have hin:H.name∈(L.take k.toNat).map (·.name):=hb.1 hin
      have hx:(L.map (·.name))[k.toNat]?=some H.name:=by rw [List.getElem?_map,getElem?_getD L default (by omega),hHd]; rfl
      refine zr8 ho.2.2 k.toNat hx ?_
      rwa [<- List.map_take]
    rintro w5 ⟨rfl,hn,hnin,h8⟩ w19 x19
    have h19:=zaa x19
    have hb19:b16<w19.heap.size:=x19.lt b16 (by simp)
    have hr5:=S5.lt
    refine ztG (S5.ext h19) H.name fun w20 S20 g20=>⟨fun b hb=>?_,fun w21 x21=>?_⟩
    · simp at hb; subst hb
      refine g20.by_.block b hb19 fun he=>?_
      simp [blk] at he; omega
    have x20:Ext w w20:=g20.below (x5.trans h19) (x5.trans h19).size (fun a ha=>by obtain rfl:=Option.some.inj ha; exact hw1)
    have h21:=zaa x21
    refine zAf fun w22 S22 e22=>⟨e22,_,rfl,?_⟩
    have hr21:r1<w21.heap.size:=by have:=S20.lt; have:=h21.size; omega
    generalize hr2:w21.heap.size=r2 at S22 hr21
    have x22:=(x20.trans h21).trans e22
    have hb16r:b16<r2:=by have:=g20.size; have:=h21.size; omega
    refine ⟨fun j w'=>Ext w w'/\0<=j/\j<=H.labels.length/\ziA w' r1 ((L.take k.toNat).map (·.name)++[H.name])/\ziA w' r2 ((H.labels.take j.toNat).map (·.key))/\(∀ i:Nat,(i:Int)<j->lbB (H.labels.getD i default).key=true/\lbB (H.labels.getD i default).val=true)/\(∀ i:Nat,(i:Int)<j->(H.labels.getD i default).key∉(H.labels.take i).map (·.key)),fun j _=>(H.labels.length-j).toNat,⟨x22,by omega,by omega,(S20.ext h21).ext e22,S22,fun i hi=>by omega,fun i hi=>by omega⟩,?_⟩
    rintro j w26 ⟨x26,hj0,hj1,Sa,Sb,hlab,hldist⟩
    refine ⟨fun hjl=>?_,fun hjg w27 h27=>?_⟩
    · have hLb6:=hLb.ext x26
      have l0:=hLb6.idx default hj0 hjl (j:=0) rfl
      have l1:=hLb6.idx default hj0 hjl (j:=1) rfl
      have hlm:=zap H.labels default (i:=j.toNat) (by omega)
      have hls:=ho3 _ hlm
      generalize hld:H.labels.getD j.toNat default=lb at l0 l1 hlm hls
      refine ⟨fun hq=>zai l0 (zah.2 hq),hj0,hjl,zai l0,_,l0,_,l1,fun b29 hb29=>?_⟩
      refine ⟨fun w'=>w'=w26/\lbB lb.key=true/\lbB lb.val=true/\lb.key∉(H.labels.take j.toNat).map (·.key),fun w32 h32=>?_,?_⟩
      · refine (zgs lb.key hls.1 w32).mono fun v w33 ⟨e33,hv⟩=>⟨e33,_,hv,fun hf w35 h35=>fin (x26.trans h35) (fun _ ho=>by have:=((ho.2.1 H hm).2.2.1.1 lb hlm).1; rw [hf] at this; cases this) (by omega) (by omega) (fun _ _ _ _ _=>rfl),fun hkt w35 h35=>?_⟩
        refine (zgs lb.val hls.2 w35).mono fun v w36 ⟨e36,hv⟩=>⟨e36,_,hv,fun hf w38 h38=>fin (x26.trans h38) (fun _ ho=>by have:=((ho.2.1 H hm).2.2.1.1 lb hlm).2; rw [hf] at this; cases this) (by omega) (by omega) (fun _ _ _ _ _=>rfl),fun hvt w38 h38=>?_⟩
        refine zoK (Sb.ext h38) lb.key fun b hb=>⟨Ext.refl _,b,rfl,fun hin w41 h41=>fin (x26.trans h41) (fun _ ho=>?_) (by omega) (by omega) (nofirst hn 6),fun hnin=>⟨rfl,hkt,hvt,fun hm=>by rw [hb.2 hm] at hnin; cases hnin⟩⟩
        have hin:lb.key∈(H.labels.take j.toNat).map (·.key):=hb.1 hin
        have hx:(H.labels.map (·.key))[j.toNat]?=some lb.key:=by rw [List.getElem?_map,getElem?_getD H.labels default (by omega),hld]; rfl
        refine zr8 (ho.2.1 H hm).2.2.1.2 j.toNat hx ?_
        rwa [<- List.map_take]
      rintro w26 ⟨rfl,hkt,hvt,hknin⟩ w32 x32
      have h32:=zaa x32
      refine ztG (Sb.ext h32) lb.key fun w33 S33 g33=>⟨fun b hb=>?_,i64 (by omega),⟨?_,by omega,by omega,?_,?_,fun i hi=>?_,fun i hi=>?_⟩,by simp only []; omega⟩
      · have hlt':=x32.lt b hb
        refine g33.by_.block b hlt' fun he=>?_
        simp [blk] at he
        simp at hb
        have:=Sb.lt
        rcases hb with rfl|rfl<;>omega
      · exact g33.below (x26.trans h32) (x26.trans h32).size (fun a ha=>by obtain rfl:=Option.some.inj ha; show w.heap.size<=r2; omega)
      · exact (Sa.ext h32).grew (by omega) g33
      · rw [show (j+1).toNat=j.toNat+1 by omega,zc1 (fun x:Lb=>x.key) default (by omega),hld]; exact S33
      · by_cases hij:(i:Int)<j
        · exact hlab i hij
        · obtain rfl:i=j.toNat:=by omega
          rw [hld]; exact ⟨hkt,hvt⟩
      · by_cases hij:(i:Int)<j
        · exact hldist i hij
        · obtain rfl:i=j.toNat:=by omega
          rw [hld]; exact hknin
    · have hL1:okLb H.labels:=⟨fun x hx=>by
        obtain ⟨i,hi,rfl⟩:=List.getElem_of_mem hx
        have:=hlab i (by omega)
        simpa [List.getD_eq_getElem?_getD,hi] using this,zkb fun i x hx=>by
        have hi:i<H.labels.length:=by
          have:=(List.getElem?_eq_some_iff.1 hx).1
          simpa using this
        rw [List.getElem?_map,getElem?_getD H.labels default hi] at hx
        have hx:(H.labels.getD i default).key=x:=by simpa using hx
        rw [<- hx,<- List.map_take]
        exact hldist i (by omega)⟩
      refine (zxF H.used H.has w27).mono fun v w28 ⟨e28,t,e,hv,ht⟩=>⟨e28,_,_,hv,fun w31 h31=>?_⟩
      refine (zeA H.has w31).mono fun v w32 ⟨e32,hv⟩=>⟨e32,_,hv,?_⟩
      refine ⟨fun w'=>w'=w26/\okN H.has/\okN H.used/\zj9 H.used H.has,⟨fun hne w36 h36=>?_,fun he0=>⟨fun hne w36 h36=>?_,fun he=>⟨fun hf w36 h36=>?_,fun htt=>?_⟩⟩⟩,?_⟩
      · have hno:¬ okN H.has:=fun h=>hne (zbc.2 h)
        rw [zmA hno]
        exact fin (x26.trans h36) (fun _ ho=>hno (ho.2.1 H hm).2.2.2.1) (by omega) (by omega) (nofirst hn 4)
      · rcases ht with ⟨_,_,rfl,_⟩|⟨hno,rfl,_⟩
        · exact absurd rfl hne
        · exact fin (x26.trans h36) (fun _ ho=>hno ⟨(ho.2.1 H hm).2.2.2.2.1,(ho.2.1 H hm).2.2.2.1⟩) (by omega) (by omega) (nofirst hn 4)
      · rcases ht with ⟨_,_,_,rfl⟩|⟨_,rfl,_⟩
        · exact fin (x26.trans h36) (fun _ ho=>by have:=(ho.2.1 H hm).2.2.2.2.2; simp [this] at hf) (by omega) (by omega) (nofirst hn 10)
        · omega
      · rcases ht with ⟨h1,h2,_,rfl⟩|⟨_,rfl,_⟩
        · exact ⟨rfl,h2,h1,by simpa using htt⟩
        · omega
      · rintro w26 ⟨rfl,ha,hu,hfit⟩
        refine ⟨i64 (by omega),⟨x26,by omega,by omega,?_,fun i hi=>?_,fun i hi=>?_⟩,by simp only []; omega⟩
        · rw [show (k+1).toNat=k.toNat+1 by omega,zc1 (fun x:Ht=>x.name) default (by omega),hHd]; exact Sa
        · by_cases hik:(i:Int)<k
          · exact hok i hik
          · obtain rfl:i=k.toNat:=by omega
            rw [hHd]; exact ⟨hn,h8,hL1,ha,hu,hfit⟩
        · by_cases hik:(i:Int)<k
          · exact hdist i hik
          · obtain rfl:i=k.toNat:=by omega
            rw [hHd]; exact hnin
  · obtain ⟨i,hi,rfl⟩:=List.getElem_of_mem hh
    have:=hok i (by omega)
    simpa [List.getD_eq_getElem?_getD,hi] using this
  · refine zkb fun i x hx=>?_
    have hi:i<L.length:=by
      have:=(List.getElem?_eq_some_iff.1 hx).1
      simpa using this
    rw [List.getElem?_map,getElem?_getD L default hi] at hx
    have hx:(L.getD i default).name=x:=by simpa using hx
    rw [<- hx,<- List.map_take]
    exact hdist i (by omega)
  · exfalso
    have h0':=(hok 0 (by rw [he] at hge; simp at hge; omega)).1
    have:L.getD 0 default=h:=by rw [he]; rfl
    rw [this,hf] at h0'; cases h0'
theorem zp8 (xs:List Value):∀ (vs ys:List Value) (i:Nat),zdG (xs++ys) (xs.length+i) vs=xs++zdG ys i vs
  |[],ys,i => rfl
  |v::r,ys,i => by
    simp only [zdG]
    rw [List.set_append_right _ _ (by omega),show xs.length+i-xs.length=i by omega,show xs.length+i+1=xs.length+(i+1) by omega]
    exact zp8 xs r _ _
theorem zsk (ys:List Value):∀ (vs xs:List Value) (i:Nat),i+vs.length<=xs.length->zdG (xs++ys) i vs=zdG xs i vs++ys
  |[],xs,i,_ => rfl
  |v::r,xs,i,h => by
    simp only [zdG]
    simp only [List.length_cons] at h
    rw [List.set_append_left _ _ (by omega)]
    exact zsk ys r _ _ (by simp; omega)
theorem zlV {α:Type} {enc:α->List Value} {s:Nat} (hs:∀ x,(enc x).length=s) (L:List α) (i j:Nat) (vs:List Value) (x d:α) (hi:i<L.length) (hj:j+vs.length<=s) (he:zdG (enc (L.getD i d)) j vs=enc x) :
    zdG (L.flatMap enc) (i*s+j) vs=(L.set i x).flatMap enc:=by
  have hd:L.getD i d=L[i]:=by simp [List.getD_eq_getElem?_getD,hi]
  have h1:L=L.take i++L[i]::L.drop (i+1):=by rw [List.getElem_cons_drop,List.take_append_drop]
  have h2:L.set i x=L.take i++x::L.drop (i+1):=by
    rw [List.set_eq_take_append_cons_drop,if_pos hi]
  rw [h2]
  conv=>lhs; rw [h1]
  simp only [List.flatMap_append,List.flatMap_cons]
  have hl:((L.take i).flatMap enc).length=i*s:=by rw [zfd hs,List.length_take,Nat.min_eq_left (by omega)]
  rw [<- hl,zp8,zsk _ _ _ _ (by rw [hs]; omega),<- hd,he]
structure Hm where
  h:Ht
  q:Option Addr
  d:Nat
instance:Inhabited Hm:=⟨⟨default,none,0⟩⟩
abbrev zjG (m:Hm):List Value:=zFq m.h m.q m.d
theorem zge (m:Hm):(zjG m).length=8:=rfl
theorem zzl (m:Hm):∀ u∈zjG m,u.oneCell'=true:=by
  intro u hu
  simp [zjG,zFq] at hu
  rcases hu with rfl|rfl|rfl|rfl|rfl|rfl|rfl|rfl<;>rfl
theorem hs_ms {w:World} {p:Option Addr} {L:List Ht} (h:zjT w p L):∃ M:List Hm,M.map (·.h)=L/\zgt 8 zjG w p M/\∀ m∈M,Lbs w m.q m.h.labels:=by
  have key:∀ n,n<=L.length->∃ M:List Hm,M.map (·.h)=L.take n/\zgt 8 zjG w p M/\∀ m∈M,Lbs w m.q m.h.labels:=by
    intro n
    induction n with
    |zero => exact fun _ => ⟨[],rfl,fun i x hx => by simp at hx,fun m hm => by simp at hm⟩
    |succ n ih =>
      intro hn
      obtain ⟨M,h1,h2,h3⟩:=ih (by omega)
      have hlen:M.length=n:=by have:=congrArg List.length h1; simp at this; omega
      obtain ⟨q,c,h4,h5⟩:=h n L[n] (List.getElem?_eq_getElem (by omega))
      refine ⟨M++[⟨L[n],q,c⟩],by rw [List.map_append,h1,List.take_succ_eq_append_getElem (by omega)]; rfl,fun i x hx j u hu=>?_,fun m hm=>?_⟩
      · by_cases hi:i<n
        · rw [List.getElem?_append_left (by omega)] at hx
          exact h2 i x hx j u hu
        · rw [List.getElem?_append_right (by omega)] at hx
          have:i-M.length=0:=by
            rcases Nat.eq_zero_or_pos (i-M.length) with h0|h0
            · exact h0
            · rw [List.getElem?_eq_none (by simp; omega)] at hx; cases hx
          rw [this] at hx
          simp at hx; subst hx
          obtain rfl:i=n:=by omega
          exact h4 j u hu
      · rcases List.mem_append.1 hm with hm|hm
        · exact h3 m hm
        · simp at hm; subst hm; exact h5
  obtain ⟨M,h1,h2⟩:=key L.length (Nat.le_refl _)
  exact ⟨M,by simpa using h1,h2⟩
theorem ms_hs {w:World} {p:Option Addr} {M:List Hm} (h:zgt 8 zjG w p M) (hl:∀ m∈M,Lbs w m.q m.h.labels):zjT w p (M.map (·.h)):=fun i x hx=>by
  rw [List.getElem?_map] at hx
  obtain ⟨m,hm,rfl⟩:=Option.map_eq_some_iff.1 hx
  exact ⟨m.q,m.d,fun j u hu=>h i m hm j u hu,hl m (List.mem_of_getElem? hm)⟩
theorem zjJ {w w':World} {q p:Option Addr} {l:List Lb} (h:Lbs w q l) (ha:l=[]\/zbK q p) (hg:zco w w' p p):Lbs w' q l:=by
  rcases ha with rfl|ha
  · exact fun i x hx=>by simp at hx
  · intro i x hx j u hu
    have h1:=zm9 (enc:=zsJ) (fun _=>rfl) h
    have h2:=h1.grew ha hg
    have h3:(l.flatMap zsJ)[i*2+j]?=some u:=by
      have hi:=(List.getElem?_eq_some_iff.1 hx).1
      have hj:j<2:=(List.getElem?_eq_some_iff.1 hu).1
      have:=zEi (enc:=zsJ) (s:=2) (fun _=>rfl) l i
      rw [<- List.getElem?_drop,this,List.drop_eq_getElem_cons hi,List.flatMap_cons,List.getElem?_append_left hj]
      rw [(List.getElem?_eq_some_iff.1 hx).2]; exact hu
    exact h2 _ _ h3
theorem zyP (q:Option Addr) (c:Nat) (l:List Lb) (h8:l.length<=8) (w:World) (h:Lbs w q l) :
    FnP Tryz.prog zaF #[.slice q l.length c] w fun v w'=>Ext w w'/\∃ q' c',v=.slice q' l.length c'/\Lbs w' q' l/\∀ a,q'=some a->w.heap.size<=a.block:=by
  refine zdt q l.length c w _ ⟨fun hn w0 h0=>?_,fun hn=>?_⟩
  · cases l with
    |nil => exact ⟨h0,none,0,rfl,fun i x hx => by simp at hx,fun a ha => by cases ha⟩
    |cons x r => exact absurd hn (h.ne (List.mem_cons_self ..) (by simp))
  · refine zpa (Q:=fun v w'=>Ext w w'/\∃ q' c',v=.slice q' l.length c'/\Lbs w' q' l/\∀ a,q'=some a->w.heap.size<=a.block) zlk (by omega) (zm9 (enc:=zsJ) (s:=2) (fun _=>rfl) h) (zfd (enc:=zsJ) (s:=2) (fun _=>rfl) l) (zz1 (fun x u hu=>?_) l) (by omega) (by omega) hn fun p' c' w' hx o=>⟨hx,p',c',rfl,o.recs fun _ _=>rfl,fun a ha=>(o.lt a ha).1⟩
    simp at hu; rcases hu with rfl|rfl<;>rfl
theorem zsp (p:Option Addr) (c:Nat) (M:List Hm) (h30:M.length<=30) (w:World) (h:zgt 8 zjG w p M) :
    FnP Tryz.prog zak #[.slice p M.length c] w fun v w'=>Ext w w'/\∃ q' c',v=.slice q' M.length c'/\Own w.heap.size w' zdR 8 q' M.length c' (M.flatMap zjG):=by
  refine zd0 p M.length c w _ ⟨fun hn w0 h0=>?_,fun hn=>?_⟩
  · cases M with
    |nil => exact ⟨h0,none,0,rfl,Own.nil⟩
    |cons x r => exact absurd hn (h.ne (List.mem_cons_self ..) (by simp))
  · exact zpa (Q:=fun v w'=>Ext w w'/\∃ q' c',v=.slice q' M.length c'/\Own w.heap.size w' zdR 8 q' M.length c' (M.flatMap zjG)) zgc (by omega) (zm9 zge h) (zfd zge M) (zz1 zzl M) (by omega) (by omega) hn fun p' c' w' hx o=>⟨hx,p',c',rfl,o⟩
def LbA (w:World) (p:Option Addr) (m:Hm):Prop:=Lbs w m.q m.h.labels/\(m.h.labels=[]\/zbK m.q p)
def LbN (n:Nat) (m:Hm):Prop:=m.h.labels=[]\/∀ a,m.q=some a->n<=a.block
def HsS (n:Nat) (w:World) (p:Option Addr) (L:List Ht):Prop:=∀ S:Nat->Prop,(∀ b,S b->b<n)->∀ w'',Fr S w w''->zjT w'' p L
theorem HsS.at {n:Nat} {w:World} {p:Option Addr} {L:List Ht} (h:HsS n w p L):zjT w p L:=h (fun _=>False) (fun _ h=>h.elim) w (Fr.refl _ w)
theorem HsS.ext {n:Nat} {w w':World} {p:Option Addr} {L:List Ht} (h:HsS n w p L) (e:Ext w w'):HsS n w' p L:=fun S hS w'' f=>h S hS w'' ((zad e).tr f)
theorem HsS.weak {n m:Nat} {w:World} {p:Option Addr} {L:List Ht} (h:HsS n w p L) (e:m<=n):HsS m w p L:=fun S hS w'' f=>h S (fun b hb=>Nat.lt_of_lt_of_le (hS b hb) e) w'' f
theorem lbs_fr {S:Nat->Prop} {w w':World} {q:Option Addr} {l:List Lb} (h:Lbs w q l) (ha:l=[]\/∀ a,q=some a->¬ S a.block) (k:Fr S w w'):Lbs w' q l:=fun i x hx j u hu=>by
  rcases ha with rfl|ha
  · simp at hx
  · exact zdS (h i x hx j u hu) k ha
theorem zDh {n N c:Nat} {w:World} {p:Option Addr} {M:List Hm} (o:Own n w zdR 8 p N c (M.flatMap zjG)) (hl:∀ m∈M,Lbs w m.q m.h.labels) (hn:∀ m∈M,LbN n m):HsS n w p (M.map (·.h)):=fun S hS w'' f=>by
  have lt:∀ {a:Option Addr},(∀ y,a=some y->n<=y.block)->∀ y,a=some y->¬ S y.block:=fun h y hy hs=>by
    have:=h y hy
    have:=hS _ hs
    omega
  refine ms_hs ((o.fr f (lt fun y hy=>(o.lt y hy).1)).recs fun _ _=>rfl) fun m hm=>lbs_fr (hl m hm) ?_ f
  rcases hn m hm with h|h
  · exact .inl h
  · exact .inr (lt h)
theorem own_k (p:Option Addr) (c:Nat) (L:List Ht) (h30:L.length<=30) (h8:∀ h∈L,h.labels.length<=8) (w:World) (hL:zjT w p L) :
    FnP Tryz.prog zmn #[.slice p L.length c] w fun v w'=>Ext w w'/\∃ p' c',∃ M:List Hm,v=.slice p' L.length c'/\M.map (·.h)=L/\Own w.heap.size w' zdR 8 p' L.length c' (M.flatMap zjG)/\(∀ m∈M,LbA w' p' m)/\∀ m∈M,LbN w.heap.size m:=by
  refine zxY p L.length c w _ fun w0 h0=>?_
  obtain ⟨M0,hM0,hR0,hl0⟩:=hs_ms (hL.ext h0)
  have hlen0:M0.length=L.length:=by rw [<- hM0]; simp
  rw [<- hlen0]
  refine (zsp p c M0 (by omega) w0 hR0).mono fun v w1 ⟨e1,p',c',hv,o1⟩=>⟨e1,p',M0.length,c',hv,?_⟩
  have lt0:∀ m∈M0,LbA w1 p' m:=fun m hm=>⟨(hl0 m hm).ext e1,by
    cases hlb:m.h.labels with
    |nil => exact .inl rfl
    |cons x r =>
      refine .inr fun a b ha hb=>?_
      have:=(hl0 m hm).lt (x:=x) (by rw [hlb]; exact List.mem_cons_self ..) (by simp) a ha
      have:=(o1.lt b hb).1
      omega⟩
  refine ⟨fun k w'=>Ext w w'/\0<=k/\k<=M0.length/\∃ M:List Hm,M.map (·.h)=L/\Own w0.heap.size w' zdR 8 p' M0.length c' (M.flatMap zjG)/\(∀ m∈M,LbA w' p' m)/\∀ j,j<k.toNat->∀ m,M[j]?=some m->LbN w.heap.size m,fun k _=>(M0.length-k).toNat,⟨h0.trans e1,by omega,by omega,M0,hM0,o1,lt0,fun j hj=>by simp at hj⟩,?_⟩
  rintro k w7 ⟨x7,hk0,hk1,M,hM,o7,hA7,hN7⟩
  have hlen:M.length=M0.length:=by rw [hlen0,<- hM]; simp
  refine ⟨fun hlt=>?_,fun hge w8 h8=>⟨x7.trans h8,p',c',M,rfl,hM,(o7.ext h8).weak h0.size,fun m hm=>⟨(hA7 m hm).1.ext h8,(hA7 m hm).2⟩,fun m hm=>by
    obtain ⟨j,hj⟩:=List.mem_iff_getElem?.1 hm
    have hjl:=(List.getElem?_eq_some_iff.1 hj).1
    exact hN7 j (by omega) m hj⟩⟩
  have r7:zgt 8 zjG w7 p' M:=o7.recs fun _ _=>rfl
  have g:=r7.idx default hk0 (by omega) (j:=1) rfl
  have hp':=o7.ne1 (by omega) (by omega)
  have hm:=zap M default (i:=k.toNat) (by omega)
  generalize hmd:M.getD k.toNat default=m at g hm
  have hml:m.h∈L:=by rw [<- hM]; exact List.mem_map_of_mem hm
  refine ⟨hp',hk0,hlt,fun hq=>hp' (zah.1 hq),m.q,m.h.labels.length,m.d,by rw [zam]; exact g,fun w11 h11=>?_⟩
  refine (zyP m.q m.d m.h.labels (h8 _ hml) w11 ((hA7 m hm).1.ext h11)).mono fun v w12 ⟨e12,q',d',hv,hl',hn'⟩=>⟨e12,q',_,d',hv,hp',hk0,hlt,fun hq=>hp' (zah.1 hq),?_⟩
  have x12:=h11.trans e12
  have o12:=o7.ext x12
  refine zaZ o12 zoF (by rw [zfd zge]; simp; omega) (by simp) (by intro v hv; simp at hv; subst hv; rfl) (by simp) fun w16 o16 g16=>?_
  rw [zlV zge M k.toNat 1 [.slice q' m.h.labels.length d'] ⟨m.h,q',d'⟩ default (by omega) (by simp) (by rw [hmd]; rfl)] at o16
  have hmap:(M.set k.toNat ⟨m.h,q',d'⟩).map (·.h)=L:=by
    rw [List.map_set,hM]
    have hk:k.toNat<L.length:=by omega
    have:L[k.toNat]=m.h:=by
      have h1:(M.map (·.h)).getD k.toNat default=m.h:=by
        rw [<- hmd,List.getD_eq_getElem?_getD,List.getD_eq_getElem?_getD,List.getElem?_map,List.getElem?_eq_getElem (by omega:k.toNat<M.length)]; rfl
      rw [hM] at h1
      simpa [List.getD_eq_getElem?_getD,hk] using h1
    rw [<- this,List.set_getElem_self]
  refine ⟨i64 (by omega),⟨?_,by omega,by omega,_,hmap,o16,fun m' hm'=>?_,fun j hj m' hm'=>?_⟩,by simp only []; omega⟩
  · exact g16.ext (x7.trans x12) (o12.weak (by have:=h0.size; omega))
  · rcases List.mem_or_eq_of_mem_set hm' with hm'|rfl
    · exact ⟨zjJ ((hA7 m' hm').1.ext x12) (hA7 m' hm').2 g16,(hA7 m' hm').2⟩
    · have ha:zbK q' p':=fun a b ha hb=>by
        have:=hn' a ha
        have:=(o7.lt b hb).2
        have:=h11.size
        omega
      exact ⟨zjJ hl' (.inr ha) g16,.inr ha⟩
  · by_cases hjk:j=k.toNat
    · subst hjk
      rw [List.getElem?_set_self (by omega)] at hm'
      obtain rfl:=Option.some.inj hm'
      exact .inr fun a ha=>(by have:=hn' a ha; have:=x7.size; have:=h11.size; omega)
    · rw [List.getElem?_set_ne (by omega)] at hm'
      exact hN7 j (by omega) m' hm'
def zfX (h:Ht) (s:Nd):Ht:=⟨h.name,h.labels,h.has,s⟩
theorem zza (R:Ht->Nd->Int->Prop) (p:Option Addr) (c:Nat) (L:List Ht) (h63:(L.length:Int)<=9223372036854775807) (hO:∀ h∈L,zwC h) (i:Int) (f:Value) (w:World) (hL:zjT w p L)
    (hf:∀ h∈L,zHc h->∀ q d w',Ext w w'->zin Tryz.prog f [hv h q d] w' fun v w''=>Ext w' w''/\∃ s e,v=.tuple #[nv s,.int .i64 e]/\R h s e) :
    FnP Tryz.prog ze7 #[.slice p L.length c,.int .i64 i,f] w fun v w'=>Ext w w'/\∃ p' n' c' e,v=.tuple #[.slice p' n' c',.int .i64 e] /\
      ((e≠0/\n'=0/\(zkJ L->0<=i->i<L.length->∃ s,R (L.getD i.toNat default) s e)) \/
       (e=0/\zkJ L/\0<=i/\i<L.length/\n'=L.length/\n'<=c'/\∃ s,R (L.getD i.toNat default) s 0/\HsS w.heap.size w' p' (L.set i.toNat (zfX (L.getD i.toNat default) s)))):=by
  refine zq7 p L.length c i f w _ fun w0 h0=>?_
  refine (zsO p c L h63 hO w0 (hL.ext h0)).mono fun v w1 ⟨e1,e,hv,he,_,_⟩=>⟨e1,e,hv,fun hne w3 h3=>⟨h3,_,_,_,_,rfl,.inl ⟨hne,rfl,fun ho=>absurd (he.2 ho) hne⟩⟩,fun h0'=>?_⟩
  have hok:=he.1 h0'
  refine ⟨fun hout w3 h3=>⟨h3,_,_,_,_,rfl,.inl ⟨by omega,rfl,fun _ _ _=>by omega⟩⟩,fun ⟨hi0,hi1⟩=>?_⟩
  obtain ⟨q,d,hp,hp8,g,hl⟩:=hL.at hi0 hi1
  have hm:=zap L default (i:=i.toNat) (by omega)
  generalize hHd:L.getD i.toNat default=H at g hl hm
  refine ⟨hp,hi0,hi1,hp8,_,g 0 _ rfl,_,_,_,g 1 _ rfl,_,g 2 _ rfl,_,g 3 _ rfl,_,g 4 _ rfl,_,g 5 _ rfl,_,g 6 _ rfl,_,g 7 _ rfl,fun w13 h13=>?_⟩
  obtain ⟨fi,cap,hfe,hfp⟩:=hf H hm (hok.2.1 H hm) q d w13 h13
  refine ⟨fi,cap,hfe,hfp.mono fun v w14 ⟨e14,s,e',hv',hR⟩=>⟨e14,s.c,s.m,s.g,e',hv',fun b19 hb19=>⟨fun hne w20 h20=>⟨h20,_,_,_,_,rfl,.inl ⟨hne,rfl,fun _ _ _=>⟨s,hR⟩⟩⟩,fun h0' w20 x20=>?_⟩⟩⟩
  subst h0'
  have h20:=zaa x20
  have hb20:b19<w20.heap.size:=x20.lt b19 (by simp)
  refine (own_k p c L hok.1 (fun h hh=>(hok.2.1 h hh).2.1) w20 (hL.ext h20)).mono fun v w21 ⟨e21,p',c',M,hv,hM,o21,hA,hN⟩=>⟨e21,p',_,c',hv,?_⟩
  have hp':=o21.ne1 (by omega) (by omega)
  have hlen:M.length=L.length:=by rw [<- hM]; simp
  refine ⟨hp',hi0,hi1,fun hq=>hp' (zah.1 hq),?_⟩
  refine zaZ o21 zoF (by rw [zfd zge]; simp; omega) (by simp) (by intro v hv; simp at hv; rcases hv with rfl|rfl|rfl<;>rfl) (fun b hb x hx=>by simp at hb; subst hb; have:=(o21.lt x hx).1; omega) fun w25 o25 g25 w26 h26=>?_
  have hmd:(M.getD i.toNat default).h=H:=by
    rw [<- hHd,<- hM,List.getD_eq_getElem?_getD,List.getD_eq_getElem?_getD,List.getElem?_map,List.getElem?_eq_getElem (by omega:i.toNat<M.length)]; rfl
  rw [zlV zge M i.toNat 5 _ ⟨zfX H s,(M.getD i.toNat default).q,(M.getD i.toNat default).d⟩ default (by omega) (by simp) (by
    show zdG (zFq (M.getD i.toNat default).h (M.getD i.toNat default).q (M.getD i.toNat default).d) 5 _=zFq (zfX H s) _ _
    rw [hmd]; rfl)] at o25
  have hx25:Ext w w25:=g25.ext (h20.trans e21) (o21.weak h20.size)
  refine ⟨hx25.trans h26,p',_,c',0,rfl,.inr ⟨rfl,hok,hi0,hi1,rfl,o21.le.1,s,hR,?_⟩⟩
  have:=zDh o25 (fun m hm=>?_) (fun m hm=>?_)
  · have hmap:(M.set i.toNat ⟨zfX H s,(M.getD i.toNat default).q,(M.getD i.toNat default).d⟩).map (·.h)=L.set i.toNat (zfX H s):=by rw [List.map_set,hM]
    rw [hmap] at this
    exact (this.ext h26).weak h20.size
  · rcases List.mem_or_eq_of_mem_set hm with hm|rfl
    · exact zjJ (hA m hm).1 (hA m hm).2 g25
    · have hmm:=zap M default (i:=i.toNat) (by omega)
      have:=zjJ (hA _ hmm).1 (hA _ hmm).2 g25
      rw [hmd] at this
      exact this
  · rcases List.mem_or_eq_of_mem_set hm with hm|rfl
    · exact hN m hm
    · have hmm:=zap M default (i:=i.toNat) (by omega)
      have:=hN _ hmm
      unfold LbN at this ⊢
      rw [hmd] at this
      exact this
theorem zlE {w:World} {p:Option Addr} {a:Nd} (h:zBY w p a):Go.Sx.cell w p 0=some (.int .i64 a.c)/\Go.Sx.cell w p 1=some (.int .i64 a.m)/\Go.Sx.cell w p 2=some (.int .i64 a.g):=⟨h 0 _ rfl,h 1 _ rfl,h 2 _ rfl⟩
theorem Take_k (p:Option Addr) (c:Nat) (L:List Ht) (h63:(L.length:Int)<=9223372036854775807) (hO:∀ h∈L,zwC h) (i:Int) (a:Nd) (w:World) (hL:zjT w p L) :
    FnP Tryz.prog zkp #[.slice p L.length c,.int .i64 i,nv a] w fun v w'=>Ext w w'/\∃ p' n' c' e,v=.tuple #[.slice p' n' c',.int .i64 e] /\
      ((e≠0/\n'=0/\(zkJ L->0<=i->i<L.length->¬ (okN a/\zj9 a (ziu (L.getD i.toNat default).has (L.getD i.toNat default).used)))) \/
       (e=0/\zkJ L/\0<=i/\i<L.length/\n'=L.length/\n'<=c'/\okN a/\zj9 a (ziu (L.getD i.toNat default).has (L.getD i.toNat default).used)/\HsS w.heap.size w' p' (L.set i.toNat (zfX (L.getD i.toNat default) (zwG (L.getD i.toNat default).used a))))):=by
  refine zvA p L.length c i a.c a.m a.g w _ fun w0 h0=>?_
  refine zIE (x:=a) fun p1 w1 e1 hN hp1 w2 h2=>?_
  have x2:=(h0.trans e1).trans h2
  refine (zza (fun h s e=>(e≠0/\¬ (okN a/\zj9 a (ziu h.has h.used)))\/(e=0/\s=zwG h.used a/\okN a/\zj9 a (ziu h.has h.used))) p c L h63 hO i _ w2 (hL.ext x2) fun h hh hok q d w3 h3=>?_).mono fun v w4 ⟨e4,p',n',c',e,hv,hr⟩=>⟨e4,_,_,_,_,hv,fun w8 h8=>⟨(x2.trans e4).trans h8,_,_,_,_,rfl,?_⟩⟩
  · refine ⟨zhr,#[.pointer p1],rfl,(zq6 h.name q h.labels.length d h.has.c h.has.m h.has.g h.used.c h.used.m h.used.g p1 w3 _ ?_:FnP Tryz.prog zhr #[hv h q d,.pointer p1] w3 _)⟩
    intro b0 hb0 b1 hb1 w5 h5
    refine (zzR h.has h.used w5).mono fun v w6 ⟨e6,s,e,hv,hs⟩=>⟨e6,_,_,_,_,hv,fun b8 hb8=>?_⟩
    have hs:e=0/\s=ziu h.has h.used:=by
      rcases hs with ⟨_,_,_,h1,h2⟩|⟨hno,_⟩|⟨_,_,hno,_⟩
      · exact ⟨h1,h2⟩
      · exact absurd ⟨hok.2.2.2.1,hok.2.2.2.2.1⟩ hno
      · exact absurd hok.2.2.2.2.2 hno
    obtain ⟨rfl,rfl⟩:=hs
    have hN3:=zlE (zav.ext hN (h2.trans h3))
    refine ⟨hp1,_,hN3.1,_,hN3.2.1,_,hN3.2.2,fun w12 h12=>?_⟩
    refine (zzR (ziu h.has h.used) a w12).mono fun v w13 ⟨e13,s,e,hv,hs⟩=>⟨e13,_,_,_,_,hv,fun b18 hb18=>?_⟩
    have hsub:okN (ziu h.has h.used):=by
      obtain ⟨h1,h2,h3⟩:=hok.2.2.2.1
      obtain ⟨h4,h5,h6⟩:=hok.2.2.2.2.1
      obtain ⟨h7,h8,h9⟩:=hok.2.2.2.2.2
      refine ⟨?_,?_,?_⟩<;>simp only [ziu]<;>omega
    rcases hs with ⟨_,ha,hfit,rfl,rfl⟩|⟨hno,rfl,rfl⟩|⟨_,ha,hno,rfl,rfl⟩
    · refine ⟨fun hne=>absurd rfl hne,fun _=>⟨hp1,_,hN3.1,_,hN3.2.1,_,hN3.2.2,fun w22 h22=>?_⟩⟩
      refine (nAdd_k h.used a w22).mono fun v w23 ⟨e23,s,e,hv,hs⟩=>⟨e23,_,_,_,_,hv,fun w28 h28=>⟨h28,s,e,rfl,.inr ?_⟩⟩
      rcases hs with ⟨_,_,_,h1,h2⟩|⟨hno,_⟩|⟨_,_,hno,_⟩
      · exact ⟨h1,h2,ha,hfit⟩
      · exact absurd ⟨hok.2.2.2.2.1,ha⟩ hno
      · refine absurd ?_ hno
        obtain ⟨h1,h2,h3⟩:=hok.2.2.2.1
        obtain ⟨h4,h5,h6⟩:=hok.2.2.2.2.1
        obtain ⟨h7,h8,h9⟩:=ha
        obtain ⟨h10,h11,h12⟩:=hfit
        simp only [ziu] at h10 h11 h12
        refine ⟨?_,?_,?_⟩<;>simp only [zwG]<;>omega
    · exact ⟨fun _ w19 h19=>⟨h19,za7,_,rfl,.inl ⟨by omega,fun hc=>hno ⟨hsub,hc.1⟩⟩⟩,fun h=>by omega⟩
    · exact ⟨fun _ w19 h19=>⟨h19,za7,_,rfl,.inl ⟨by omega,fun hc=>hno hc.2⟩⟩,fun h=>by omega⟩
  · rcases hr with ⟨hne,hn,hno⟩|⟨he,hok,hi0,hi1,hn,hc,s,hR,hAt⟩
    · refine .inl ⟨hne,hn,fun hok hi0 hi1=>?_⟩
      obtain ⟨s,hR⟩:=hno hok hi0 hi1
      rcases hR with ⟨_,h⟩|⟨h,_⟩
      · exact h
      · exact absurd h hne
    · rcases hR with ⟨h,_⟩|⟨_,rfl,ha,hfit⟩
      · exact absurd rfl h
      · exact .inr ⟨he,hok,hi0,hi1,hn,hc,ha,hfit,(hAt.ext h8).weak x2.size⟩
theorem Give_k (p:Option Addr) (c:Nat) (L:List Ht) (h63:(L.length:Int)<=9223372036854775807) (hO:∀ h∈L,zwC h) (i:Int) (a:Nd) (w:World) (hL:zjT w p L) :
    FnP Tryz.prog zko #[.slice p L.length c,.int .i64 i,nv a] w fun v w'=>Ext w w'/\∃ p' n' c' e,v=.tuple #[.slice p' n' c',.int .i64 e] /\
      ((e≠0/\n'=0/\(zkJ L->0<=i->i<L.length->¬ (okN a/\zj9 a (L.getD i.toNat default).used))) \/
       (e=0/\zkJ L/\0<=i/\i<L.length/\n'=L.length/\n'<=c'/\HsS w.heap.size w' p' (L.set i.toNat (zfX (L.getD i.toNat default) (ziu (L.getD i.toNat default).used a))))):=by
  refine zvz p L.length c i a.c a.m a.g w _ fun w0 h0=>?_
  refine zIE (x:=a) fun p1 w1 e1 hN hp1 w2 h2=>?_
  have x2:=(h0.trans e1).trans h2
  refine (zza (fun h s e=>(e≠0/\¬ (okN a/\zj9 a h.used))\/(e=0/\s=ziu h.used a)) p c L h63 hO i _ w2 (hL.ext x2) fun h hh hok q d w3 h3=>?_).mono fun v w4 ⟨e4,p',n',c',e,hv,hr⟩=>⟨e4,_,_,_,_,hv,fun w8 h8=>⟨(x2.trans e4).trans h8,_,_,_,_,rfl,?_⟩⟩
  · refine ⟨zhq,#[.pointer p1],rfl,(zq5 h.name q h.labels.length d h.has.c h.has.m h.has.g h.used.c h.used.m h.used.g p1 w3 _ ?_:FnP Tryz.prog zhq #[hv h q d,.pointer p1] w3 _)⟩
    intro b0 hb0 b1 hb1
    have hN3:=zlE (zav.ext hN (h2.trans h3))
    refine ⟨hp1,_,hN3.1,_,hN3.2.1,_,hN3.2.2,fun w5 h5=>?_⟩
    refine (zzR h.used a w5).mono fun v w6 ⟨e6,s,e,hv,hs⟩=>⟨e6,_,_,_,_,hv,fun w11 h11=>⟨h11,s,e,rfl,?_⟩⟩
    rcases hs with ⟨_,ha,hfit,rfl,rfl⟩|⟨hno,rfl,rfl⟩|⟨_,ha,hno,rfl,rfl⟩
    · exact .inr ⟨rfl,rfl⟩
    · exact .inl ⟨by omega,fun hc=>hno ⟨hok.2.2.2.2.1,hc.1⟩⟩
    · exact .inl ⟨by omega,fun hc=>hno hc.2⟩
  · rcases hr with ⟨hne,hn,hno⟩|⟨he,hok,hi0,hi1,hn,hc,s,hR,hAt⟩
    · refine .inl ⟨hne,hn,fun hok hi0 hi1=>?_⟩
      obtain ⟨s,hR⟩:=hno hok hi0 hi1
      rcases hR with ⟨_,h⟩|⟨h,_⟩
      · exact h
      · exact absurd h hne
    · rcases hR with ⟨h,_⟩|⟨_,rfl⟩
      · exact absurd rfl h
      · exact .inr ⟨he,hok,hi0,hi1,hn,hc,(hAt.ext h8).weak x2.size⟩
theorem zGq (k:Int) (key val:ByteArray) (n:Int) (l:Nat):zk7 k key val n l≠5:=by
  unfold zk7
  repeat' split
  all_goals omega
theorem zzs:∀ {xs:List AT},(∀ x∈xs,zeY x≠5)->zAV xs≠5
  |[],_ => by unfold zAV; omega
  |x::r,h => by
    unfold zAV
    split
    · exact h x (List.mem_cons_self ..)
    · exact zzs fun y hy=>h y (List.mem_cons_of_mem _ hy)
theorem zGr (t:AT):zeY t≠5:=by
  refine AT.ind (P:=fun t=>zeY t≠5) (fun k key val n xs h=>?_) t
  unfold zeY
  split
  · exact zGq _ _ _ _ _
  · exact zzs h
theorem zGs (t:AT):zmh t≠5:=by
  unfold zmh
  split
  · omega
  · exact zGr t
def zbL (L:List Ht) (i:Int):Nd:=ziu (L.getD i.toNat default).has (L.getD i.toNat default).used
def zGA (L:List Ht) (t:AT) (a:Nd) (i:Nat):Bool:=zwL (atH (L.getD i default)) t&&decide (zj9 a (ziu (L.getD i default).has (L.getD i default).used))
def zbZ (L:List Ht) (t:AT) (a:Nd) (k:Nat):List Int:=((List.range k).filter (zGA L t a)).map (Int.ofNat ·)
theorem zxk (L:List Ht) (t:AT) (a:Nd) (k:Nat):zbZ L t a (k+1)=if zGA L t a k=true then zbZ L t a k++[(k:Int)] else zbZ L t a k:=by
  unfold zbZ
  rw [List.range_succ,List.filter_append,List.map_append]
  by_cases h:zGA L t a k=true<;>simp [h]
theorem zoy {L:List Ht} {t:AT} {a:Nd} {k:Nat} {x:Int}:x∈zbZ L t a k↔0<=x/\x<k/\zGA L t a x.toNat=true:=by
  unfold zbZ
  simp only [List.mem_map,List.mem_filter,List.mem_range]
  constructor
  · rintro ⟨n,⟨h1,h2⟩,rfl⟩
    exact ⟨Int.natCast_nonneg n,by simpa using h1,by simpa using h2⟩
  · rintro ⟨h1,h2,h3⟩
    exact ⟨x.toNat,⟨by omega,h3⟩,Int.toNat_of_nonneg h1⟩
theorem zhI (L:List Ht) (t:AT) (a:Nd) (k:Nat):(zbZ L t a k).length<=k:=by
  unfold zbZ
  rw [List.length_map]
  exact Nat.le_trans (List.length_filter_le _ _) (by simp)
theorem zxl (L:List Ht) (t:AT) (a:Nd) (k:Nat):(zbZ L t a k).Pairwise (·<·):=by
  unfold zbZ
  rw [List.pairwise_map]
  exact ((List.pairwise_lt_range (n:=k)).filter _).imp fun h=>by simpa using h
def zxM (L:List Ht) (t:AT) (a:Nd):Prop:=zkJ L/\zmh t=0/\okN a
theorem zDA {h:Ht} (hok:zHc h):okN (ziu h.has h.used):=by
  obtain ⟨h1,h2,h3⟩:=hok.2.2.2.1
  obtain ⟨h4,h5,h6⟩:=hok.2.2.2.2.1
  obtain ⟨h7,h8,h9⟩:=hok.2.2.2.2.2
  refine ⟨?_,?_,?_⟩<;>simp only [ziu]<;>omega
theorem zAi {h:Ht} (hok:zHc h) (w:World):FnP Tryz.prog zcw #[nv h.has,nv h.used] w fun v w'=>Ext w w'/\v=.tuple #[nv (ziu h.has h.used),.int .i64 0] :=
  (zzR h.has h.used w).mono fun v w' ⟨e,s,f,hv,hs⟩=>⟨e,by
    rcases hs with ⟨_,_,_,rfl,rfl⟩|⟨hno,_⟩|⟨_,_,hno,_⟩
    · exact hv
    · exact absurd ⟨hok.2.2.2.1,hok.2.2.2.2.1⟩ hno
    · exact absurd hok.2.2.2.2.2 hno⟩
theorem Fit_k (p:Option Addr) (c:Nat) (L:List Ht) (h63:(L.length:Int)<=9223372036854775807) (hO:∀ h∈L,zwC h) (t:AT) (px:Option Addr) (cx:Nat) (hW:WfA t) (a:Nd) (w:World) (hL:zjT w p L) (hT:IsT w t px cx) :
    FnP Tryz.prog zmm #[.slice p L.length c,av t px cx,nv a] w fun v w'=>Ext w w'/\∃ q n d e,v=.tuple #[.slice q n d,.int .i64 e]/\e≠5/\(∀ x,q=some x->w.heap.size<=x.block) /\
      ((e≠0/\n=0/\¬ zxM L t a)\/(e=0/\zxM L t a/\n=(zbZ L t a L.length).length/\zdP .i64 w' q (zbZ L t a L.length))):=by
  refine zxX p L.length c t.k t.key t.val t.n px t.xs.length cx a.c a.m a.g w _ fun b0 hb0 b1 hb1 w2 h2=>?_
  refine (zsO p c L h63 hO w2 (hL.ext h2)).mono fun v w3 ⟨e3,e,hv,he,h5,_⟩=>⟨e3,e,hv,fun hne w5 h5'=>⟨h5',_,_,_,_,rfl,h5,fun x hx=>by (cases hx),.inl ⟨hne,rfl,fun ho=>hne (he.2 ho.1)⟩⟩,fun h0 w5 h5=>?_⟩
  have hok:=he.1 h0
  refine (zoS t px cx w5 (hT.ext h5 _ _ _) hW).mono fun v w6 ⟨e6,hv⟩=>⟨e6,_,hv,fun hne w8 h8=>⟨h8,_,_,_,_,rfl,zGs t,fun x hx=>by (cases hx),.inl ⟨hne,rfl,fun ho=>hne ho.2.1⟩⟩,fun hc w8 h8=>?_⟩
  refine (zeA a w8).mono fun v w9 ⟨e9,hv⟩=>⟨e9,_,hv,fun hne w11 h11=>⟨h11,_,_,_,_,rfl,(by unfold zzt; split<;>omega),fun x hx=>by (cases hx),.inl ⟨hne,rfl,fun ho=>hne (zbc.2 ho.2.2)⟩⟩,fun ha=>?_⟩
  have ha:=zbc.1 ha
  refine ⟨fun q l d k w'=>Ext w w'/\0<=k/\k<=L.length/\l=(zbZ L t a k.toNat).length/\Own w.heap.size w' zd8 1 q l d ((zbZ L t a k.toNat).map (.int .i64))/\∀ b∈[b0,b1],∀ x,q=some x->x.block≠b,
    fun _ _ _ k _=>(L.length-k).toNat,⟨Ext.refl w,by omega,by omega,rfl,Own.nil,fun b _ x hx=>by cases hx⟩,?_⟩
  rintro q l d k w14 ⟨x14,hk0,hk1,rfl,o14,hb14⟩
  refine ⟨fun hlt=>?_,fun hge w15 h15=>⟨x14.trans h15,q,_,d,0,rfl,by omega,fun x hx=>(o14.lt x hx).1,.inr ⟨rfl,⟨hok,hc,ha⟩,?_,?_⟩⟩⟩
  · obtain ⟨qh,dh,hp,hp8,g,hLb⟩:=(hL.ext x14).at hk0 hlt
    have hm:=zap L default (i:=k.toNat) (by omega)
    have hfit:zGA L t a k.toNat=(zwL (atH (L.getD k.toNat default)) t&&decide (zj9 a (ziu (L.getD k.toNat default).has (L.getD k.toNat default).used))):=rfl
    generalize hHd:L.getD k.toNat default=H at g hLb hm hfit
    have hoH:=hok.2.1 H hm
    refine ⟨hp,hk0,hlt,hp8,_,g 0 _ rfl,_,_,_,g 1 _ rfl,_,g 2 _ rfl,_,g 3 _ rfl,_,g 4 _ rfl,_,g 5 _ rfl,_,g 6 _ rfl,_,g 7 _ rfl,fun b25 hb25 w26 h26=>?_⟩
    refine (zAi hoH w26).mono fun v w27 ⟨e27,hv⟩=>⟨e27,_,_,_,_,hv,fun b32 hb32 w33 h33=>?_⟩
    refine (zI1 t px cx H qh dh (hO H hm).2.1 w33 (hT.ext (x14.trans h33) _ _ _) hW (hLb.ext h33)).mono fun v w34 ⟨e34,hv⟩=>⟨e34,_,_,hv,fun w37 h37=>?_⟩
    rw [if_pos hc]
    refine (zxF a (ziu H.has H.used) w37).mono fun v w38 ⟨e38,tt,e,hv,ht⟩=>⟨e38,_,_,hv,?_⟩
    have ht:tt=decide (zj9 a (ziu H.has H.used)):=by
      rcases ht with ⟨_,_,_,h⟩|⟨hno,_⟩
      · exact h
      · exact absurd ⟨ha,zDA hoH⟩ hno
    subst ht
    have hsucc:=zxk L t a k.toNat
    refine ⟨fun hb w41 x41=>?_,fun hb=>?_⟩
    · have hyes:zGA L t a k.toNat=true:=by rw [hfit,hb.1,hb.2]; rfl
      rw [if_pos hyes] at hsucc
      have hln:=zhI L t a k.toNat
      have hs14:=x14.size
      have h30:=hok.1
      refine zfI (e:=zd8) (B:=w.heap.size) (ns:=[b0,b1,b25,b32]) zds o14 hs14 (fun b hb x hx=>?_) (by omega) (by omega) (fun p' c' w' o' g' hp' hns'=>⟨i64 (by omega),⟨?_,by omega,by omega,?_,?_,fun b hb x hx=>hns' b (by simp at hb ⊢; rcases hb with rfl|rfl<;>simp) x hx⟩,by simp only []; omega⟩) w41 x41
      · have:=o14.lt x hx
        simp at hb
        rcases hb with rfl|rfl|rfl|rfl
        · exact hb14 _ (by simp) x hx
        · exact hb14 _ (by simp) x hx
        · omega
        · omega
      · exact g'.ext x14 o14
      · rw [show (k+1).toNat=k.toNat+1 by omega,hsucc]; simp
      · rw [show (k+1).toNat=k.toNat+1 by omega,hsucc]
        rw [show ((k.toNat:Nat):Int)=k by omega]
        exact o'
    · have hno:zGA L t a k.toNat=false:=by
        rw [hfit]
        rcases hb with hb|hb<;>rw [hb]<;>simp
      rw [hno] at hsucc
      rw [if_neg (by simp)] at hsucc
      refine ⟨i64 (by omega),⟨x14,by omega,by omega,?_,?_,hb14⟩,by simp only []; omega⟩
      · rw [show (k+1).toNat=k.toNat+1 by omega,hsucc]
      · rw [show (k+1).toNat=k.toNat+1 by omega,hsucc]; exact o14
  · rw [show k.toNat=L.length by omega]
  · rw [show k.toNat=L.length by omega] at o14
    exact (o14.ext h15).cells
theorem zBX (p:Option Addr) (c:Nat) (X:List Int) (h63:(X.length:Int)<=9223372036854775807) (hX:X≠[]) (f:Value) (C:Int->Int->Int) (hC:∀ x y z,C x y<0->0<=C z y->0<=C z x) (hR:∀ x,0<=C x x) (w:World) (h:zdP .i64 w p X)
    (hT:∀ x y,C x y<0->0<=C y x) (hS:∀ x y z,C x y<0->0<=C z y->C x z<0)
    (hf:∀ x∈X,∀ y∈X,∀ w',Ext w w'->zin Tryz.prog f [.int .i64 x,.int .i64 y] w' fun v w''=>Ext w' w''/\v=.int .i64 (C x y)) :
    FnP Tryz.prog zb3 #[.slice p X.length c,f] w fun v w'=>Ext w w'/\∃ m,v=.int .i64 m/\m∈X/\(∀ y∈X,0<=C y m)/\∃ a:Nat,a<X.length/\X.getD a 0=m/\∀ j,j<a->C m (X.getD j 0)<0:=by
  have hlen:0<X.length:=by cases X with|nil=>exact absurd rfl hX|cons=>simp
  refine zgE p X.length c f w _ ⟨fun hlt=>by omega,fun _=>?_⟩
  have g0:=zdP.idx h (i:=0) (by omega) (by omega)
  have hm0:=zap X 0 (i:=0) (by omega)
  refine ⟨fun hq=>zai g0 (zah.2 hq),by omega,by omega,_,g0,?_⟩
  refine ⟨fun m i w'=>w'=w/\1<=i/\i<=X.length/\m∈X/\(∀ j:Nat,(j:Int)<i->0<=C (X.getD j 0) m)/\∃ a:Nat,(a:Int)<i/\X.getD a 0=m/\∀ j,j<a->C m (X.getD j 0)<0,fun _ i _=>(X.length-i).toNat,⟨rfl,by omega,by omega,hm0,fun j hj=>?_,0,by omega,rfl,fun j hj=>by omega⟩,?_⟩
  · obtain rfl:j=0:=by omega
    exact hR _
  rintro m i w4 ⟨rfl,hi0,hi1,hmm,hall,a,ha,ham,haj⟩
  refine ⟨fun hlt=>?_,fun hge w5 h5=>⟨h5,m,rfl,hmm,fun y hy=>?_,a,by omega,ham,haj⟩⟩
  · have g:=zdP.idx h (i:=i) (by omega) hlt
    have hx:=zap X 0 (i:=i.toNat) (by omega)
    have hp:p≠none:=fun hq=>zai g (zah.2 hq)
    refine ⟨hp,by omega,hlt,_,g,fun w6 h6=>?_⟩
    obtain ⟨fi,cap,hfe,hfp⟩:=hf _ hx m hmm w6 h6
    refine ⟨fi,cap,hfe,hfp.mono fun v w7 ⟨e7,hv⟩=>⟨e7,_,hv,fun hneg=>⟨hp,by omega,hlt,_,g,i64 (by omega),⟨rfl,by omega,by omega,hx,fun j hj=>?_,i.toNat,by omega,rfl,fun j hj=>hS _ _ _ hneg (hall j (by omega))⟩,by simp only []; omega⟩,fun hpos=>⟨i64 (by omega),⟨rfl,by omega,by omega,hmm,fun j hj=>?_,a,by omega,ham,haj⟩,by simp only []; omega⟩⟩⟩
    · by_cases hji:(j:Int)<i
      · exact hC _ _ _ hneg (hall j hji)
      · obtain rfl:j=i.toNat:=by omega
        exact hR _
    · by_cases hji:(j:Int)<i
      · exact hall j hji
      · obtain rfl:j=i.toNat:=by omega
        exact hpos
  · obtain ⟨j,hj,rfl⟩:=List.getElem_of_mem hy
    have:=hall j (by omega)
    simpa [List.getD_eq_getElem?_getD,hj] using this
def zwH (a b:Int):Int:=if a<b then -1 else if b<a then 1 else 0
theorem zoT (x y:Int) (w:World):FnP Tryz.prog zbA #[.int .i64 x,.int .i64 y] w fun v w'=>Ext w w'/\v=.int .i64 (zwH x y):=by
  have nan:∀ (x:Int) (w:World),FnP Tryz.prog zcT #[.int .i64 x] w fun v w'=>Ext w w'/\v=.bool false:=fun x w=>zlL x w _ fun w0 h0=>⟨h0,by simp⟩
  refine zjW x y w _ fun w0 h0=>(nan x w0).mono fun v w1 ⟨e1,hv⟩=>⟨e1,_,hv,fun w3 h3=>(nan y w3).mono fun v w4 ⟨e4,hv⟩=>⟨e4,_,hv,fun h=>by (cases h),fun _=>⟨fun h=>by (cases h),fun _=>⟨fun hlt w6 h6=>⟨h6,?_⟩,fun hge=>⟨fun hlt w6 h6=>⟨h6,?_⟩,fun hle w6 h6=>⟨h6,?_⟩⟩⟩⟩⟩⟩
  · unfold zwH; rw [if_pos hlt]
  · unfold zwH; rw [if_neg (by omega),if_pos hlt]
  · unfold zwH; rw [if_neg (by omega),if_neg (by omega)]
theorem Or3_k (p:Option Addr) (c:Nat) (a b d:Int) (w:World) (h:zdP .i64 w p [a,b,d]):FnP Tryz.prog ziO #[.slice p 3 c] w fun v w'=>Ext w w'/\v=.int .i64 (if a≠0 then a else if b≠0 then b else d):=by
  refine ztk p 3 c w _ ?_
  refine ⟨fun k w'=>w'=w/\0<=k/\k<=3/\∀ j:Nat,(j:Int)<k->[a,b,d].getD j 0=0,fun k _=>(3-k).toNat,⟨rfl,by omega,by omega,fun j hj=>by omega⟩,?_⟩
  rintro k w2 ⟨rfl,hk0,hk1,hz⟩
  refine ⟨fun hlt=>?_,fun hge w3 h3=>⟨h3,?_⟩⟩
  · have hlt:k<3:=by simpa using hlt
    have g:=zdP.idx h hk0 (by simpa using hlt)
    refine ⟨fun hq=>zai g (zah.2 hq),hk0,by simpa using hlt,_,g,fun hne w4 h4=>⟨h4,?_⟩,fun he=>⟨i64 (by omega),⟨rfl,by omega,by omega,fun j hj=>?_⟩,by simp only []; omega⟩⟩
    · have:k=0\/k=1\/k=2:=by omega
      rcases this with rfl|rfl|rfl
      · rw [if_pos (by simpa using hne)]; rfl
      · have h0:=hz 0 (by omega)
        rw [if_neg (by simpa using h0),if_pos (by simpa using hne)]; rfl
      · have h0:=hz 0 (by omega)
        have h1:=hz 1 (by omega)
        rw [if_neg (by simpa using h0),if_neg (by simpa using h1)]; rfl
    · by_cases hjk:(j:Int)<k
      · exact hz j hjk
      · obtain rfl:j=k.toNat:=by omega
        exact he
  · obtain rfl:k=3:=by simp at hge; omega
    have h0:=hz 0 (by omega)
    have h1:=hz 1 (by omega)
    have h2:=hz 2 (by omega)
    rw [if_neg (by simpa using h0),if_neg (by simpa using h1)]
    exact congrArg _ (by simpa using h2.symm)
def zw7 (a b:Nd):Int:=if zwH a.c b.c≠0 then zwH a.c b.c else if zwH a.m b.m≠0 then zwH a.m b.m else zwH a.g b.g
theorem zfa {a b:Nd}:zw7 a b<0↔a.c<b.c\/a.c=b.c/\(a.m<b.m\/a.m=b.m/\a.g<b.g):=by
  unfold zw7 zwH
  repeat' split
  all_goals omega
theorem zKz (p1 p:Option Addr) (c:Nat) (L:List Ht) (hok:zkJ L) (i:Int) (hi0:0<=i) (hi1:i<L.length) (w:World) (hc:Go.Sx.cell w p1 0=some (.slice p L.length c)) (hL:zjT w p L) :
    FnP Tryz.prog zcX #[.int .i64 i,.pointer p1] w fun v w'=>Ext w w'/\v=nv (zbL L i):=by
  obtain ⟨q,d,hp,hp8,g,_⟩:=hL.at hi0 hi1
  have hm:=hok.2.1 _ (zap L default (i:=i.toNat) (by omega))
  have hlf:zbL L i=ziu (L.getD i.toNat default).has (L.getD i.toNat default).used:=rfl
  generalize hHd:L.getD i.toNat default=H at g hm hlf
  have g':∀ (o j:Nat) u,(zFq H q d)[o+j]?=some u->Go.Sx.cell w (pAdd (pIdx p i 8) o) j=some u:=fun o j u hu=>by rw [zam]; exact g _ u hu
  have x2:=zai (g' 2 0 _ rfl)
  have x5:=zai (g' 5 0 _ rfl)
  refine zq3 i p1 w _ fun b0 hb0=>⟨fun n e w'=>Ext w w'/\zBY w' n (zbL L i),⟨p,L.length,c,hc,hp,hi0,hi1,hp8,x2,_,g' 2 0 _ rfl,_,g' 2 1 _ rfl,_,g' 2 2 _ rfl,p,L.length,c,hc,hp,hi0,hi1,hp8,x5,_,g' 5 0 _ rfl,_,g' 5 1 _ rfl,_,g' 5 2 _ rfl,?_,?_⟩,?_⟩
  · intro w17 h17
    refine (zAi hm w17).mono fun v w18 ⟨e18,hv⟩=>⟨e18,_,_,_,_,hv,fun w23 x23=>?_⟩
    have hb:b0<w23.heap.size:=x23.lt b0 (by simp)
    refine (zc4.nil (ns:=[b0]) (zaa x23)).new_row (by intro v hv; simp at hv; subst hv; rfl) (by simpa using hb) fun p24 w24 H24 e24=>?_
    refine H24.store 0 rfl 0 (zfb _) (by simp) (by simp) (by intro v hv; simp at hv; rcases hv with rfl|rfl|rfl<;>rfl) (by have:=e24.size; simp; omega) fun w25 H25 g25=>⟨H25.ext,?_⟩
    rw [hlf]
    exact (H25.get 0 rfl).cells
  · intro w17 x17
    have hb:b0<w17.heap.size:=x17.lt b0 (by simp)
    refine (zc4.nil (ns:=[b0]) (zaa x17)).new_row (by intro v hv; simp at hv; subst hv; rfl) (by simpa using hb) fun p18 w18 H18 e18 w19 h19=>?_
    refine (zAi hm w19).mono fun v w20 ⟨e20,hv⟩=>⟨e20,_,_,_,_,hv,?_⟩
    refine H18.store 0 rfl 0 (zfb _) (by simp) (by simp) (by intro v hv; simp at hv; rcases hv with rfl|rfl|rfl<;>rfl) (by have:=e18.size; simp; omega) fun w25 H25 g25=>⟨H25.ext,?_⟩
    rw [hlf]
    exact (H25.get 0 rfl).cells
  · rintro n e w4 ⟨x4,hN⟩
    have hN3:=zlE hN
    exact ⟨zai hN3.1,_,hN3.1,_,hN3.2.1,_,hN3.2.2,fun w8 x8=>⟨zxg x8 x4 hb0,rfl⟩⟩
theorem zKA (p14 p1 p:Option Addr) (c:Nat) (L:List Ht) (hok:zkJ L) (i:Int) (hi0:0<=i) (hi1:i<L.length) (k:Int) (hk0:0<=k) (hk1:k<L.length) (w:World) (hc:Go.Sx.cell w p1 0=some (.slice p L.length c)) (hL:zjT w p L)
    (hf:Go.Sx.cell w p14 0=some (.func (.func zcX) #[] #[.pointer p1])) :
    FnP Tryz.prog zhp #[.int .i64 i,.int .i64 k,.pointer p14] w fun v w'=>Ext w w'/\v=.int .i64 (zw7 (zbL L i) (zbL L k)):=by
  have call:∀ j:Int,0<=j->j<L.length->∀ w',Ext w w'->zin Tryz.prog (.func (.func zcX) #[] #[.pointer p1]) [.int .i64 j] w' fun v w''=>Ext w' w''/\v=nv (zbL L j):=fun j h0 h1 w' hx =>
    ⟨zcX,#[.pointer p1],rfl,zKz p1 p c L hok j h0 h1 w' (zaD hx hc) (hL.ext hx)⟩
  have calli:=call i hi0 hi1
  have callk:=call k hk0 hk1
  have vmono:∀ {f:Value} {args:List Value} {w:World} {K K':Value->World->Prop},zin Tryz.prog f args w K->(∀ v w',K v w'->K' v w')->zin Tryz.prog f args w K':=fun ⟨f,c,h1,h2⟩ hk=>⟨f,c,h1,h2.mono hk⟩
  have H0:zc4 w [] w []:=zc4.nil (Ext.refl w)
  let row:Option Addr->Nd->zn2:=fun p x=>⟨zio,3,p,1,1,zwI x⟩
  refine zq4 i k p14 w _ ⟨fun a b w'=>∃ rs,zc4 w [] w' rs/\∃ m n:Nat,rs[m]?=some (row a (zbL L i))/\rs[n]?=some (row b (zbL L k)),⟨_,hf,_,hf,?_⟩,?_⟩
  · repeat' (first
      |exact ⟨_,by assumption,0,1,rfl,rfl⟩
      |exact ⟨_,by assumption,1,0,rfl,rfl⟩
      |(refine (by assumption:zc4 w [] _ _).new_row (by intro v hv; simp at hv; subst hv; rfl) (by simp) fun _ _ _ _ => ?_)
      |(refine zc4.store (by assumption) 0 (e:=zio) (s:=3) rfl 0 (zfb _) (by simp) (by simp) (by intro v hv; simp at hv; rcases hv with rfl|rfl|rfl<;>rfl) (by simp) fun _ _ _ => ?_)
      |(refine zc4.store (by assumption) 1 (e:=zio) (s:=3) rfl 0 (zfb _) (by simp) (by simp) (by intro v hv; simp at hv; rcases hv with rfl|rfl|rfl<;>rfl) (by simp) fun _ _ _ => ?_)
      |(refine vmono (calli _ (by first|assumption|exact zc4.ext (by assumption))) fun _ _ ⟨ex,hv⟩ => ⟨ex,_,_,_,hv,?_⟩)
      |(refine vmono (callk _ (by first|assumption|exact zc4.ext (by assumption))) fun _ _ ⟨ex,hv⟩ => ⟨ex,_,_,_,hv,?_⟩)
      |(refine ⟨?_,?_⟩)
      |(intro wx hx; have Hx:=zc4.to (w0:=w) (ns:=[]) (by assumption) hx))
  · rintro a b w3 ⟨rs,H3,m,n,hm,hn⟩
    have ca:zBY w3 a (zbL L i):=(H3.get m hm).cells
    have cb:zBY w3 b (zbL L k):=(H3.get n hn).cells
    have ca':=zlE ca
    have cb':=zlE cb
    have z:∀ {p:Option Addr} {o:Nat} {v:Value},Go.Sx.cell w3 p o=some v->Go.Sx.cell w3 (pAdd p o) 0=some v:=fun h=>by rw [zam]; exact h
    refine ⟨zai ca'.1,_,z ca'.1,zai cb'.1,_,z cb'.1,zai ca'.1,_,z ca'.2.1,zai cb'.1,_,z cb'.2.1,zai ca'.1,_,z ca'.2.2,zai cb'.1,_,z cb'.2.2,fun w10 h10=>?_⟩
    refine (zoT _ _ w10).mono fun v w11 ⟨e11,hv⟩=>⟨e11,_,hv,fun w13 h13=>?_⟩
    refine (zoT _ _ w13).mono fun v w14 ⟨e14,hv⟩=>⟨e14,_,hv,fun w16 h16=>?_⟩
    refine (zoT _ _ w16).mono fun v w17 ⟨e17,hv⟩=>⟨e17,_,hv,fun w19 h19=>?_⟩
    refine zcE zds [.int .i64 (zwH (zbL L i).c (zbL L k).c),.int .i64 (zwH (zbL L i).m (zbL L k).m),.int .i64 (zwH (zbL L i).g (zbL L k).g)] rfl rfl (by intro v hv; simp at hv; rcases hv with rfl|rfl|rfl<;>rfl) (by omega) (by omega) fun w20 o20 e20=>⟨e20,_,_,_,rfl,fun w24 h24=>?_⟩
    refine (Or3_k _ 3 (zwH (zbL L i).c (zbL L k).c) (zwH (zbL L i).m (zbL L k).m) (zwH (zbL L i).g (zbL L k).g) w24 (by have:=((o20 0 (Nat.zero_le _)).ext h24).cells; simpa [Value.cells,zdP] using this)).mono fun v w25 ⟨e25,hv⟩=>⟨e25,_,hv,fun w27 h27=>⟨((H3.ext.trans h19).trans e20).trans h27,?_⟩⟩
    rfl
def zf2 (L:List Ht) (t:AT) (a:Nd) (k:Int):Prop:=k∈zbZ L t a L.length/\∀ j∈zbZ L t a L.length,0<=zw7 (zbL L j) (zbL L k)/\(j<k->zw7 (zbL L k) (zbL L j)<0)
theorem zFV {L:List Ht} {t:AT} {a:Nd} {k m:Int} (h:zf2 L t a k) (g:zf2 L t a m):k=m:=by
  have h1:=h.2 m g.1
  have g1:=g.2 k h.1
  rcases Int.lt_trichotomy k m with hl|hl|hl
  · have:=g1.2 hl; have:=h1.1; omega
  · exact hl
  · have:=h1.2 hl; have:=g1.1; omega
theorem zHY (p:Option Addr) (c:Nat) (L:List Ht) (h63:(L.length:Int)<=9223372036854775807) (hO:∀ h∈L,zwC h) (t:AT) (px:Option Addr) (cx:Nat) (hW:WfA t) (a:Nd) (w:World) (hL:zjT w p L) (hT:IsT w t px cx) :
    FnP Tryz.prog zfq #[.slice p L.length c,av t px cx,nv a] w fun v w'=>Ext w w'/\∃ k e,v=.tuple #[.int .i64 k,.int .i64 e] /\
      ((e≠0/\k=0/\(e=5↔zxM L t a)/\(zxM L t a->zbZ L t a L.length=[]))\/(e=0/\zxM L t a/\zf2 L t a k)):=by
  refine zvx p L.length c t.k t.key t.val t.n px t.xs.length cx a.c a.m a.g w _ fun w0 h0=>?_
  refine zbG (by intro v hv; simp at hv; subst hv; rfl) fun w1 o1 e1=>?_
  generalize hp1:(some ⟨w0.heap.size,0,none⟩:Option Addr)=p1
  rw [hp1] at o1
  have c1:Go.Sx.cell w1 p1 0=some (.slice p L.length c):=(o1 0 (Nat.zero_le _)).cells 0 _ rfl
  intro b2 hb2 b3 hb3
  refine ⟨p,L.length,c,c1,fun w7 x7=>?_⟩
  have x7':=(h0.trans e1).trans (zaa x7)
  refine (Fit_k p c L h63 hO t px cx hW a w7 (hL.ext x7') (hT.ext x7' _ _ _)).mono fun v w8 ⟨e8,q,n,d,e,hv,h5,hnew,hr⟩=>⟨e8,q,n,d,e,hv,?_⟩
  have x8:=x7'.trans e8
  rcases hr with ⟨hne,rfl,hno⟩|⟨rfl,hok,rfl,hI⟩
  · exact ⟨fun _ w13 h13=>⟨x8.trans h13,_,_,rfl,.inl ⟨hne,rfl,⟨fun h=>absurd h h5,fun h=>absurd h hno⟩,fun h=>absurd h hno⟩⟩,fun h=>absurd h hne⟩
  refine ⟨fun h=>absurd rfl h,fun _=>⟨fun hz w13 h13=>⟨x8.trans h13,_,_,rfl,.inl ⟨by omega,rfl,⟨fun _=>hok,fun _=>rfl⟩,fun _=>List.length_eq_zero_iff.1 (by omega)⟩⟩,fun hnz w13 x13=>?_⟩⟩
  have x13':=x8.trans (zaa x13)
  refine (zc4.nil (w0:=w13) (ns:=[b2,b3]) (Ext.refl w13)).new_row (by intro v hv; simp at hv; subst hv; rfl) (x13.lt) fun p14 w14 H14 e14=>?_
  refine H14.store 0 rfl 0 (zfb _) (by simp) (by simp) (by intro v hv; simp at hv; subst hv; rfl) (fun b hb=>Nat.lt_of_lt_of_le (x13.lt b hb) e14.size) fun w15 H15 g15 w16 h16=>?_
  have e15:=H15.ext
  have x16:=(x13'.trans e15).trans h16
  have cf:Go.Sx.cell w16 p14 0=some (.func (.func zcX) #[] #[.pointer p1]):=zaD h16 ((H15.get 0 rfl).cells 0 _ rfl)
  have c16:Go.Sx.cell w16 p1 0=some (.slice p L.length c):=zaD ((((zaa x7).trans e8).trans (zaa x13)).trans (e15.trans h16)) c1
  have hln:=zhI L t a L.length
  refine (zBX q d (zbZ L t a L.length) (by omega) (by intro h; rw [h] at hnz; simp at hnz) _ (fun x y=>zw7 (zbL L x) (zbL L y)) (fun x y z h1 h2=>?_) (fun x=>?_) w16 (hI.ext (((zaa x13).trans e15).trans h16)) (fun x y h1=>?_) (fun x y z h1 h2=>?_) fun x hx y hy w' hx'=>?_).mono fun v w17 ⟨e17,m,hv,hm,hall,a',ha',ham,haj⟩=>⟨e17,m,hv,fun w19 h19=>⟨(x13'.trans e15).trans h19,_,_,rfl,.inr ⟨rfl,hok,hm,fun j hj=>⟨hall j hj,fun hjm=>?_⟩⟩⟩⟩
  · have h1:=zfa.1 h1
    have h2:¬ zw7 (zbL L z) (zbL L y)<0:=by omega
    rw [zfa] at h2
    have h3:¬ zw7 (zbL L z) (zbL L x)<0:=by rw [zfa]; omega
    show 0<=zw7 (zbL L z) (zbL L x)
    omega
  · have:¬ zw7 (zbL L x) (zbL L x)<0:=by rw [zfa]; omega
    show 0<=zw7 (zbL L x) (zbL L x)
    omega
  · have h1:=zfa.1 h1
    have:¬ zw7 (zbL L y) (zbL L x)<0:=by rw [zfa]; omega
    show 0<=zw7 (zbL L y) (zbL L x)
    omega
  · have h1:=zfa.1 h1
    have h2:¬ zw7 (zbL L z) (zbL L y)<0:=by omega
    rw [zfa] at h2
    show zw7 (zbL L x) (zbL L z)<0
    rw [zfa]
    omega
  · have hx1:=zoy.1 hx
    have hy1:=zoy.1 hy
    exact ⟨zhp,#[.pointer p14],rfl,zKA p14 p1 p c L hok.1 x hx1.1 hx1.2.1 y hy1.1 hy1.2.1 w' (zaD hx' c16) (hL.ext (x16.trans hx')) (zaD hx' cf)⟩
  · obtain ⟨b,hb,rfl⟩:=List.getElem_of_mem hj
    have hbg:(zbZ L t a L.length).getD b 0=(zbZ L t a L.length)[b]:=by simp [List.getD_eq_getElem?_getD,hb]
    have hba:b<a':=by
      rcases Nat.lt_or_ge b a' with h|h
      · exact h
      exfalso
      have hs:=zxl L t a L.length
      have ham':(zbZ L t a L.length)[a']=m:=by rw [<- ham]; simp [List.getD_eq_getElem?_getD,ha']
      rcases Nat.lt_or_ge a' b with h2|h2
      · have:=(List.pairwise_iff_getElem.1 hs) a' b ha' hb h2
        omega
      · obtain rfl:a'=b:=by omega
        omega
    have:=haj b hba
    rw [hbg] at this
    exact this
theorem zuP {W:World} {p:Option Addr} {l c:Nat} (h:zaA Tryz.prog W zdR p l c):∃ L:List Ht,L.length=l/\(L.length:Int)<=9223372036854775807/\(∀ h∈L,zwC h)/\zjT W p L:=by
  have labels:∀ {q:Option Addr} {m d:Nat},zaA Tryz.prog W zmp q m d->∃ L:List Lb,L.length=m/\(∀ l∈L,l.key.size<=9223372036854775807/\l.val.size<=9223372036854775807)/\Lbs W q L:=by
    intro q m d h
    obtain ⟨L,h1,h2,h3⟩:=h.list (α:=Lb) zsJ (fun l=>l.key.size<=9223372036854775807/\l.val.size<=9223372036854775807) (fun n es hg he=>by
      have hlv:=zcM (P:=Tryz.prog) 6 zmp [zay,zay] n es (by kernel_rfl) hg
      obtain ⟨v0,r0,rfl,l0,hlv⟩:=zaj hlv
      obtain ⟨v1,r1,rfl,l1,hlv⟩:=zaj hlv
      obtain rfl:=zhN hlv
      obtain ⟨a,rfl,ha⟩:=zc0 (by kernel_rfl) l0
      obtain ⟨b,rfl,hb⟩:=zc0 (by kernel_rfl) l1
      exact ⟨⟨a,b⟩,rfl,ha,hb⟩)
    refine ⟨L,h1,h2,fun i x hx j u hu=>?_⟩
    have:=h3 i x hx j u hu
    rwa [show Tryz.prog.cellsOf zmp=2 by kernel_rfl] at this
  obtain ⟨M,h1,h2,h3⟩:=h.list (α:=Hm) zjG (fun m=>zwC m.h/\Lbs W m.q m.h.labels) (fun n es hg he=>by
    have hlv:=zcM (P:=Tryz.prog) 6 zdR [zay,zAD,zdd,zdd,zdd,zdd,zdd,zdd] n es (by kernel_rfl) hg
    obtain ⟨v0,r0,rfl,l0,hlv⟩:=zaj hlv
    obtain ⟨v1,r1,rfl,l1,hlv⟩:=zaj hlv
    obtain ⟨v2,r2,rfl,l2,hlv⟩:=zaj hlv
    obtain ⟨v3,r3,rfl,l3,hlv⟩:=zaj hlv
    obtain ⟨v4,r4,rfl,l4,hlv⟩:=zaj hlv
    obtain ⟨v5,r5,rfl,l5,hlv⟩:=zaj hlv
    obtain ⟨v6,r6,rfl,l6,hlv⟩:=zaj hlv
    obtain ⟨v7,r7,rfl,l7,hlv⟩:=zaj hlv
    obtain rfl:=zhN hlv
    obtain ⟨nm,rfl,hnm⟩:=zc0 (by kernel_rfl) l0
    obtain ⟨q,m,d,rfl,s1,s2,s3,s4⟩:=zfg (e:=zmp) (by kernel_rfl) l1
    obtain ⟨x2,rfl,_⟩:=zaJ (k:=.i64) (by kernel_rfl) l2
    obtain ⟨x3,rfl,_⟩:=zaJ (k:=.i64) (by kernel_rfl) l3
    obtain ⟨x4,rfl,_⟩:=zaJ (k:=.i64) (by kernel_rfl) l4
    obtain ⟨x5,rfl,_⟩:=zaJ (k:=.i64) (by kernel_rfl) l5
    obtain ⟨x6,rfl,_⟩:=zaJ (k:=.i64) (by kernel_rfl) l6
    obtain ⟨x7,rfl,_⟩:=zaJ (k:=.i64) (by kernel_rfl) l7
    obtain ⟨L,rfl,hLo,hLl⟩:=labels (zaA.mk s1 s2 s3 s4)
    exact ⟨⟨⟨nm,L,⟨x2,x3,x4⟩,⟨x5,x6,x7⟩⟩,q,d⟩,rfl,⟨hnm,by simp only []; omega,hLo⟩,hLl⟩)
  rw [show Tryz.prog.cellsOf zdR=8 by kernel_rfl] at h3
  have hle:=h.le
  have hmx:=h.max
  refine ⟨M.map (·.h),by simpa using h1,by simp; omega,fun x hx=>?_,ms_hs h3 fun m hm=>(h2 m hm).2⟩
  obtain ⟨m,hm,rfl⟩:=List.mem_map.1 hx
  exact (h2 m hm).1
theorem zFD (p:Option Addr) (c:Nat) (X:List Int) (h63:(X.length:Int)<=9223372036854775807) (f:Value) (Pr:Int->Bool) (w:World) (h:zdP .i64 w p X)
    (hf:∀ x∈X,∀ w',Ext w w'->zin Tryz.prog f [.int .i64 x] w' fun v w''=>Ext w' w''/\v=.bool (Pr x)) :
    FnP Tryz.prog zbO #[.slice p X.length c,f] w fun v w'=>Ext w w'/\∃ t,v=.int .i64 t/\(0<=t↔∃ x∈X,Pr x=true):=by
  refine zfF p X.length c f w _ ?_
  refine ⟨fun k w'=>w'=w/\0<=k/\k<=X.length/\∀ j:Nat,(j:Int)<k->Pr (X.getD j 0)=false,fun k _=>(X.length-k).toNat,⟨rfl,by omega,by omega,fun j hj=>by omega⟩,?_⟩
  rintro k w ⟨rfl,hk0,hk1,hno⟩
  refine ⟨fun hlt=>?_,fun hge w4 h4=>⟨h4,_,rfl,?_⟩⟩
  · have g:=zdP.idx h hk0 hlt
    refine ⟨fun hq=>zai g (zah.2 hq),hk0,hlt,_,g,fun w4 h4=>?_⟩
    obtain ⟨fi,cap,hfe,hfp⟩:=hf _ (zap X 0 (i:=k.toNat) (by omega)) w4 h4
    refine ⟨fi,cap,hfe,hfp.mono fun v w5 ⟨e5,hv⟩=>⟨e5,_,hv,fun hyes w9 h9=>⟨h9,_,rfl,fun _=>⟨_,zap X 0 (by omega),hyes⟩,fun _=>hk0⟩,fun hn=>⟨i64 (by omega),⟨rfl,by omega,by omega,fun j hj=>?_⟩,by simp only []; omega⟩⟩⟩
    by_cases hjk:(j:Int)<k
    · exact hno j hjk
    · obtain rfl:j=k.toNat:=by omega
      exact hn
  · constructor
    · intro h; omega
    · rintro ⟨x,hm,hx⟩
      obtain ⟨j,hj,rfl⟩:=List.getElem_of_mem hm
      have:=hno j (by omega)
      rw [show X.getD j 0=X[j] by simp [List.getD_eq_getElem?_getD,hj],hx] at this
      cases this
theorem zoU (p:Option Addr) (c:Nat) (X:List Int) (h63:(X.length:Int)<=9223372036854775807) (f:Value) (Pr:Int->Bool) (w:World) (h:zdP .i64 w p X)
    (hf:∀ x∈X,∀ w',Ext w w'->zin Tryz.prog f [.int .i64 x] w' fun v w''=>Ext w' w''/\v=.bool (Pr x)) :
    FnP Tryz.prog zaV #[.slice p X.length c,f] w fun v w'=>Ext w w'/\∃ b:Bool,v=.bool b/\(b=true↔∃ x∈X,Pr x=true):=by
  refine zeJ p X.length c f w _ ?_
  intro w1 h1
  refine (zFD p c X h63 f Pr w1 (h.ext h1) fun x hx w' hw=>hf x hx w' (h1.trans hw)).mono fun v w2 ⟨e2,t,hv,ht⟩=>⟨e2,t,hv,fun w4 h4=>⟨h4,_,rfl,?_⟩⟩
  rw [decide_eq_true_iff]; exact ht
theorem getD_set_ne {α:Type} (L:List α) (d x:α) {i k:Nat} (h:i≠k):(L.set i x).getD k d=L.getD k d:=by
  rw [List.getD_eq_getElem?_getD,List.getElem?_set_ne h,List.getD_eq_getElem?_getD]
structure Th where
  b:Nat
  prio:Int
  id:Int
  born:Int
  deriving DecidableEq
def th0:Th:=⟨0,0,0,0⟩
def ahead (t u:Th):Prop:=u.prio<t.prio\/t.prio=u.prio/\t.born<u.born
instance (t u:Th):Decidable (ahead t u):=by unfold ahead; infer_instance
theorem zks {t u:Th} (h:ahead t u):¬ ahead u t:=by unfold ahead at *; omega
theorem zo0 {t u v:Th} (h:ahead t u) (k:ahead u v):ahead t v:=by unfold ahead at *; omega
theorem zdZ {t u v:Th} (h:¬ ahead t u) (k:¬ ahead u v):¬ ahead t v:=by unfold ahead at *; omega
theorem zvh {t u v:Th} (h:¬ ahead t u) (k:ahead v u):¬ ahead t v:=fun h'=>h (zo0 h' k)
def at_ (H:List Th) (k:Nat):Th:=H.getD k th0
def swp (H:List Th) (i j:Nat):List Th:=(H.set i (at_ H j)).set j (at_ H i)
theorem zEP (H:List Th) (i j:Nat):(swp H i j).length=H.length:=by simp [swp]
theorem zIb (H:List Th) (i k:Nat) (x:Th) (hi:i<H.length):at_ (H.set i x) k=if k=i then x else at_ H k:=by
  unfold at_
  rw [List.getD_eq_getElem?_getD,List.getD_eq_getElem?_getD,List.getElem?_set]
  by_cases h:i=k
  · subst h; simp [hi]
  · rw [if_neg h,if_neg (Ne.symm h)]
theorem zqi (H:List Th) {i j:Nat} (hi:i<H.length) (hj:j<H.length) (k:Nat):at_ (swp H i j) k=if k=j then at_ H i else if k=i then at_ H j else at_ H k:=by
  unfold swp
  rw [zIb _ _ _ _ (by simpa using hj),zIb _ _ _ _ hi]
theorem zoN (H:List Th) {i j:Nat} (hi:i<H.length) (hj:j<H.length):(swp H i j).Perm H:=by
  unfold swp at_
  rw [List.getD_eq_getElem?_getD,List.getD_eq_getElem?_getD,List.getElem?_eq_getElem hi,List.getElem?_eq_getElem hj]
  exact List.set_set_perm hi hj
theorem zCm (H:List Th) {k:Nat} (h:k<H.length):at_ H k∈H:=zap H th0 h
theorem zIz {H:List Th} {t:Th} (h:t∈H):∃ k,k<H.length/\at_ H k=t:=by
  obtain ⟨k,hk⟩:=List.mem_iff_getElem?.1 h
  exact ⟨k,(List.getElem?_eq_some_iff.1 hk).1,by unfold at_; rw [List.getD_eq_getElem?_getD,hk]; rfl⟩
def par (k:Nat):Nat:=(k-1)/2
def Hp (H:List Th) (n:Nat):Prop:=∀ k,1<=k->k<n->¬ ahead (at_ H k) (at_ H (par k))
def Up (H:List Th) (n j:Nat):Prop:=(∀ k,1<=k->k<n->k≠j->¬ ahead (at_ H k) (at_ H (par k)))/\(1<=j->∀ k,1<=k->k<n->par k=j->¬ ahead (at_ H k) (at_ H (par j)))
def Dn (H:List Th) (n i0 i:Nat):Prop:=(∀ k,1<=k->k<n->par k≠i->(k≠i\/i≠i0)->¬ ahead (at_ H k) (at_ H (par k)))/\(1<=i->∀ k,1<=k->k<n->par k=i->¬ ahead (at_ H k) (at_ H (par i)))
theorem zE2 {H:List Th} {n:Nat} (h:Up H n 0):Hp H n:=fun k h1 hn=>h.1 k h1 hn (by omega)
theorem zLi {H:List Th} {n j:Nat} (h:Up H n j) (hs:¬ ahead (at_ H j) (at_ H (par j))):Hp H n:=fun k h1 hn=>by
  by_cases hk:k=j
  · rw [hk]; exact hs
  · exact h.1 k h1 hn hk
theorem zLh {H:List Th} {n j:Nat} (hl:n<=H.length) (hj:j<n) (h1:1<=j) (h:Up H n j) (ha:ahead (at_ H j) (at_ H (par j))):Up (swp H (par j) j) n (par j):=by
  have hp:par j<j:=by unfold par; omega
  have sa:=zqi H (i:=par j) (j:=j) (by omega) (by omega)
  refine ⟨fun k k1 kn hk=>?_,fun hp1 k k1 kn hk=>?_⟩
  · rw [sa k,sa (par k)]
    by_cases hkj:k=j
    · subst hkj
      rw [if_pos rfl,if_neg (by omega),if_pos rfl]
      exact zks ha
    · rw [if_neg hkj,if_neg hk]
      by_cases hpk:par k=j
      · rw [if_pos hpk]; exact h.2 h1 k k1 kn hpk
      · rw [if_neg hpk]
        by_cases hpp:par k=par j
        · rw [if_pos hpp]
          have:=h.1 k k1 kn hkj
          rw [hpp] at this
          exact zvh this ha
        · rw [if_neg hpp]; exact h.1 k k1 kn hkj
  · have hpp:par (par j)<par j:=by unfold par at *; omega
    have e:=h.1 (par j) hp1 (by omega) (by omega)
    rw [sa k,sa (par (par j)),if_neg (show ¬ par (par j)=j by omega),if_neg (show ¬ par (par j)=par j by omega)]
    by_cases hkj:k=j
    · rw [if_pos hkj]; exact e
    · rw [if_neg hkj]
      have hkp:k≠par j:=fun h=>by rw [h] at hk; omega
      rw [if_neg hkp]
      have:=h.1 k k1 kn hkj
      rw [hk] at this
      exact zdZ this e
theorem zJN {H:List Th} {n i0 i j:Nat} (hl:n<=H.length) (hj:j<n) (h1:1<=j) (hi:par j=i) (hi0:i0<=i) (h:Dn H n i0 i) (ha:ahead (at_ H j) (at_ H i))
    (hs:∀ k,1<=k->k<n->par k=i->¬ ahead (at_ H k) (at_ H j)):Dn (swp H i j) n i0 j:=by
  have hij:i<j:=by subst hi; unfold par; omega
  have sa:=zqi H (i:=i) (j:=j) (by omega) (by omega)
  refine ⟨fun k k1 kn hk _=>?_,fun _ k k1 kn hk=>?_⟩
  · rw [sa k,sa (par k),if_neg (show ¬ par k=j from hk)]
    by_cases hkj:k=j
    · subst hkj
      rw [if_pos rfl,if_pos hi]
      exact zks ha
    · rw [if_neg hkj]
      by_cases hki:k=i
      · rw [if_pos hki]
        subst hki
        have hpk:par k≠k:=by unfold par; omega
        rw [if_neg hpk]
        exact h.2 k1 j h1 hj hi
      · rw [if_neg hki]
        by_cases hpi:par k=i
        · rw [if_pos hpi]; exact hs k k1 kn hpi
        · rw [if_neg hpi]; exact h.1 k k1 kn hpi (.inl hki)
  · have hkj:k≠j:=fun he=>by subst he; unfold par at hk; omega
    have hki:k≠i:=fun he=>by subst he; unfold par at hk; omega
    rw [hi,sa k,sa i,if_neg hkj,if_neg hki,if_neg (by omega),if_pos rfl]
    have:=h.1 k k1 kn (by rw [hk]; omega) (.inl hki)
    rw [hk] at this
    exact this
theorem zsF {H:List Th} {n i0 i:Nat} (h:Dn H n i0 i) (hi:i≠i0) (hs:∀ k,1<=k->k<n->par k=i->¬ ahead (at_ H k) (at_ H i)):Hp H n:=fun k k1 kn=>by
  by_cases hp:par k=i
  · rw [hp]; exact hs k k1 kn hp
  · exact h.1 k k1 kn hp (.inr hi)
theorem zut {H:List Th} {n i:Nat} (h:Dn H n i i) (hs:∀ k,1<=k->k<n->par k=i->¬ ahead (at_ H k) (at_ H i)):Up H n i:=by
  refine ⟨fun k k1 kn hk=>?_,h.2⟩
  by_cases hp:par k=i
  · rw [hp]; exact hs k k1 kn hp
  · exact h.1 k k1 kn hp (.inl hk)
theorem zGf {H G:List Th} {n i:Nat} (h:Hp G n) (he:∀ k,k<n->k≠i->at_ H k=at_ G k) (hi:i<n):Dn H n i i:=by
  refine ⟨fun k k1 kn hp hk=>?_,fun i1 k k1 kn hp=>?_⟩
  · have hki:k≠i:=hk.resolve_right fun h=>h rfl
    rw [he k kn hki,he (par k) (by unfold par; omega) hp]
    exact h k k1 kn
  · have hki:k≠i:=fun e=>by subst e; unfold par at hp; omega
    have hpp:par i≠i:=by unfold par; omega
    rw [he k kn hki,he (par i) (by unfold par; omega) hpp]
    have a1:=h k k1 kn
    rw [hp] at a1
    exact zdZ a1 (h i i1 hi)
theorem zHS {H:List Th} {n:Nat} (h:Hp H n):Up H (n+1) n:=by
  refine ⟨fun k k1 kn hk=>h k k1 (by omega),fun n1 k k1 kn hp=>?_⟩
  unfold par at hp; omega
theorem zGL {H:List Th} {n:Nat} (h:Hp H n):∀ k,k<n->¬ ahead (at_ H k) (at_ H 0):=by
  intro k
  induction k using Nat.strongRecOn with
  |ind k ih =>
    intro hk
    by_cases h0:k=0
    · subst h0; unfold ahead; omega
    · exact zdZ (h k (by omega) hk) (ih (par k) (by unfold par; omega) (by unfold par; omega))
theorem zKl {H:List Th} {m n:Nat} (h:Hp H n) (hm:m<=n):Hp H m:=fun k k1 km=>h k k1 (by omega)
theorem zzA {H G:List Th} {n:Nat} (h:Hp G n) (he:∀ k,k<n->at_ H k=at_ G k):Hp H n:=fun k k1 kn=>by
  rw [he k kn,he (par k) (by unfold par; omega)]; exact h k k1 kn
theorem zqM:zfW Tryz.prog zem=some (zbb,1,8,.pointer none):=by kernel_rfl
def thc (t:Th) (k:Nat):List Value:=[.int .i64 t.prio,.int .i64 t.id,.int .i64 t.born,.int .i64 (k:Int)]
def ptr (b:Nat):Option Addr:=some ⟨b,0,none⟩
def pv (t:Th):Value:=.pointer (ptr t.b)
theorem zaL (b:Nat):ptr b≠none:=by simp [ptr]
theorem zb6 {a b:Nat} (h:a≠b):zbK (ptr a) (ptr b):=fun x y hx hy=>by cases hx; cases hy; exact h
theorem zjD {a:Nat} {p:Option Addr} (h:∀ x,p=some x->a≠x.block):zbK (ptr a) p:=fun x y hx hy=>by cases hx; exact h y hy
def zjA (qb:Nat) (p:Option Addr) (H:List Th) (b:Nat):Prop:=b=qb\/(∃ a,p=some a/\a.block=b)\/∃ t∈H,t.b=b
theorem zpk {qb:Nat} {p:Option Addr} {H G:List Th} (h:H.Perm G) (b:Nat):zjA qb p H b↔zjA qb p G b:=by
  unfold zjA
  constructor<;>rintro (h1|h1|⟨t,ht,h1⟩)
  · exact .inl h1
  · exact .inr (.inl h1)
  · exact .inr (.inr ⟨t,h.mem_iff.1 ht,h1⟩)
  · exact .inl h1
  · exact .inr (.inl h1)
  · exact .inr (.inr ⟨t,h.mem_iff.2 ht,h1⟩)
structure QI (B:Nat) (w:World) (qb:Nat) (x y:Value) (p:Option Addr) (c:Nat) (H:List Th):Prop where
  slot:Own B w zlc 3 (ptr qb) 1 1 [.slice p H.length c,x,y]
  arr:Own B w zbb 1 p H.length c (H.map pv)
  th:∀ k,k<H.length->Own B w zal 4 (ptr (at_ H k).b) 1 1 (thc (at_ H k) k)
  inj:∀ i k,i<H.length->k<H.length->(at_ H i).b=(at_ H k).b->i=k
  aq:∀ i,i<H.length->(at_ H i).b≠qb
  ap:∀ a,p=some a->a.block≠qb/\∀ i,i<H.length->(at_ H i).b≠a.block
section
variable {B qb:Nat} {x y:Value} {p:Option Addr} {c:Nat} {H:List Th} {w:World}
theorem QI.ext {w':World} (q:QI B w qb x y p c H) (h:Ext w w'):QI B w' qb x y p c H:=⟨q.slot.ext h,q.arr.ext h,fun k hk=>(q.th k hk).ext h,q.inj,q.aq,q.ap⟩
theorem QI.fr {S:Nat->Prop} {w':World} (q:QI B w qb x y p c H) (h:Fr S w w') (hs:∀ b,zjA qb p H b->¬ S b):QI B w' qb x y p c H :=
  ⟨q.slot.fr h fun a ha=>by cases ha; exact hs _ (.inl rfl),q.arr.fr h fun a ha=>hs _ (.inr (.inl ⟨a,ha,rfl⟩)),fun k hk=>(q.th k hk).fr h fun a ha=>by cases ha; exact hs _ (.inr (.inr ⟨_,zCm H hk,rfl⟩)),q.inj,q.aq,q.ap⟩
theorem QI.foot (q:QI B w qb x y p c H) {b:Nat} (h:zjA qb p H b):B<=b/\b<w.heap.size:=by
  rcases h with rfl|⟨a,ha,rfl⟩|⟨t,ht,rfl⟩
  · exact q.slot.lt _ rfl
  · exact q.arr.lt a ha
  · obtain ⟨k,hk,rfl⟩:=zIz ht
    exact (q.th k hk).lt _ rfl
theorem QI.ne (q:QI B w qb x y p c H) (h:0<H.length):p≠none:=q.arr.ne1 h (by omega)
theorem map_at {i:Nat} (h:i<H.length):(H.map pv)[i]?=some (pv (at_ H i)):=by
  unfold at_
  rw [List.getElem?_map,List.getElem?_eq_getElem h,List.getD_eq_getElem?_getD,List.getElem?_eq_getElem h]; rfl
theorem zo1 {e:TypeId} {n:Nat} (o:Own B w e 1 p n c (H.map pv)) {i:Int} (h0:0<=i) (h:i.toNat<H.length):cell w (pIdx p i 1) 0=some (.pointer (ptr (at_ H i.toNat).b)):=by
  rw [zae]
  have:=o.cells (i.toNat*1+0) (pv (at_ H i.toNat)) (by rw [Nat.mul_one,Nat.add_zero]; exact map_at h)
  exact this
theorem zv8 {e:TypeId} {n:Nat} {q:Option Addr} {xs:List Value} {v:Value} {ns:List Nat} {i:Int} {K:World->Prop} (ho:Own B w e 1 q n c xs) (hi:i.toNat<xs.length) (h1:v.oneCell'=true) (hns:∀ b∈ns,∀ x,q=some x->x.block≠b)
    (hk:∀ w',Own B w' e 1 q n c (xs.set i.toNat v)->zco w w' q q->K w'):zao w (pIdx q i 1) [v] ns K :=
  zaZ ho (by rw [ztu,Nat.mul_one]) (by simp; omega) (by simp) (by simpa using h1) hns hk
theorem zJq {t u:Th} {i k:Nat} (ht:Own B w zal 4 (ptr t.b) 1 1 (thc t i)) (hu:Own B w zal 4 (ptr u.b) 1 1 (thc u k)) :
    FnP Tryz.prog zdp #[.pointer (ptr t.b),.pointer (ptr u.b)] w fun v w'=>Ext w w'/\v=.bool (decide (ahead t u)):=by
  refine zjZ (ptr t.b) (ptr u.b) w _ ?_
  unfold ze5
  simp only [zaP]
  have nt:=zaL t.b
  have nu:=zaL u.b
  refine ⟨nt,nt,nt,_,ht.cellAt (i:=0) rfl,nu,nu,nu,_,hu.cellAt (i:=0) rfl,fun _=>nt,fun _=>nt,fun _=>nt,fun hlt w2 h2=>⟨h2,?_⟩,
    fun hle=>⟨_,ht.cellAt (i:=0) rfl,nu,nu,nu,_,hu.cellAt (i:=0) rfl,fun _=>nt,fun _=>nt,fun he=>⟨_,ht.cellAt0 (i:=2) rfl,nu,nu,_,hu.cellAt0 (i:=2) rfl,fun w6 h6=>⟨h6,?_⟩⟩,fun hne w4 h4=>⟨h4,?_⟩⟩⟩
  · rw [decide_eq_true (show ahead t u from .inl hlt)]
  · congr 1
    refine decide_eq_decide.2 ?_
    unfold ahead; omega
  · rw [decide_eq_false]
    unfold ahead; omega
theorem zzM (q:QI B w qb x y p c H) {i k:Int} (i0:0<=i) (hi:i<H.length) (k0:0<=k) (hk:k<H.length) :
    FnP Tryz.prog zeT #[.slice p H.length c,.int .i64 i,.int .i64 k] w fun v w'=>Ext w w'/\v=.bool (decide (ahead (at_ H i.toNat) (at_ H k.toNat))):=by
  have hp:=q.ne (by omega)
  refine zm2 p H.length c i k w _ ⟨hp,i0,hi,_,zo1 q.arr i0 (by omega),hp,k0,hk,_,zo1 q.arr k0 (by omega),fun w2 h2=>?_⟩
  exact (zJq ((q.th i.toNat (by omega)).ext h2) ((q.th k.toNat (by omega)).ext h2)).mono fun v w3 ⟨e3,qhv⟩=>⟨e3,_,qhv,fun w5 h5=>⟨h5,rfl⟩⟩
theorem len_k:FnP Tryz.prog zfs #[.slice p H.length c] w fun v w'=>Ext w w'/\v=.int .i64 H.length :=
  zn9 p H.length c w _ fun w0 h0=>⟨h0,rfl⟩
theorem zEO (q:QI B w qb x y p c H) {i k:Int} (i0:0<=i) (hi:i<H.length) (k0:0<=k) (hk:k<H.length) :
    FnP Tryz.prog zeV #[.slice p H.length c,.int .i64 i,.int .i64 k] w fun v w'=>v=.tuple #[]/\QI B w' qb x y p c (swp H i.toNat k.toNat)/\Fr (zjA qb p H) w w':=by
  have hp:=q.ne (by omega)
  obtain ⟨a,rfl⟩:∃ a,p=some a:=by cases p with|none=>exact absurd rfl hp|some a=>exact ⟨a,rfl⟩
  obtain ⟨aq',ath⟩:=q.ap a rfl
  have hni:i.toNat<H.length:=by omega
  have hnk:k.toNat<H.length:=by omega
  refine zm4 (some a) H.length c i k w _ ⟨hp,k0,hk,_,zo1 q.arr k0 hnk,hp,i0,hi,_,zo1 q.arr i0 hni,hp,i0,hi,?_⟩
  refine zv8 q.arr (by simpa using hni) rfl (by simp) fun w2 o2 g2=>⟨hp,k0,hk,zv8 o2 (by simpa using hnk) rfl (by simp) fun w3 o3 g3=>?_⟩
  have e3:((H.map pv).set i.toNat (.pointer (ptr (at_ H k.toNat).b))).set k.toNat (.pointer (ptr (at_ H i.toNat).b))=(swp H i.toNat k.toNat).map pv:=by unfold swp; rw [List.map_set,List.map_set]; rfl
  rw [e3] at o3
  have hl:=zEP H i.toNat k.toNat
  have th3:∀ m,m<H.length->Own B w3 zal 4 (ptr (at_ H m).b) 1 1 (thc (at_ H m) m):=fun m hm =>
    ((q.th m hm).st (zjD fun x hx=>by cases hx; exact ath m hm) g2).st (zjD fun x hx=>by cases hx; exact ath m hm) g3
  have ci:=zo1 o3 i0 (by omega)
  have ck:=zo1 o3 k0 (by omega)
  rw [zqi H hni hnk] at ci ck
  rw [if_pos rfl] at ck
  have ci':cell w3 (pIdx (some a) i 1) 0=some (.pointer (ptr (at_ H k.toNat).b)):=by
    rw [ci]; by_cases h:i.toNat=k.toNat
    · rw [if_pos h,h]
    · rw [if_neg h,if_pos rfl]
  refine ⟨hp,i0,hi,_,ci',hp,k0,hk,_,ck,zaL _,zaL _,?_⟩
  refine zcr (th3 k.toNat hnk) (by simp [thc]) rfl (by simp) fun w4 o4 g4=>⟨zaL _,zaL _,?_⟩
  have o4':Own B w4 zal 4 (ptr (at_ H k.toNat).b) 1 1 (thc (at_ H k.toNat) i.toNat):=by
    have:(thc (at_ H k.toNat) k.toNat).set 3 (.int .i64 i)=thc (at_ H k.toNat) i.toNat:=by simp only [thc,List.set_cons_succ,List.set_cons_zero]; rw [Int.toNat_of_nonneg i0]
    rw [<- this]; exact o4
  have h5:Own B w4 zal 4 (ptr (at_ H i.toNat).b) 1 1 (thc (at_ H i.toNat) i.toNat):=by
    by_cases h:i.toNat=k.toNat
    · rw [<- h] at o4'; exact o4'
    · exact (th3 i.toNat hni).st (zb6 fun he=>h (q.inj _ _ hni hnk he)) g4
  refine zcr h5 (by simp [thc]) rfl (by simp) fun w5 o5 g5=>?_
  have o5':Own B w5 zal 4 (ptr (at_ H i.toNat).b) 1 1 (thc (at_ H i.toNat) k.toNat):=by
    have:(thc (at_ H i.toNat) i.toNat).set 3 (.int .i64 k)=thc (at_ H i.toNat) k.toNat:=by simp only [thc,List.set_cons_succ,List.set_cons_zero]; rw [Int.toNat_of_nonneg k0]
    rw [<- this]; exact o5
  intro w8 h8
  have sa:=zqi H hni hnk
  have mem:∀ m,m<H.length->∃ m',m'<H.length/\at_ (swp H i.toNat k.toNat) m=at_ H m'/\(m'=if m=k.toNat then i.toNat else if m=i.toNat then k.toNat else m):=fun m hm=>by
    rw [sa m]
    by_cases h1:m=k.toNat
    · rw [if_pos h1,if_pos h1]; exact ⟨_,hni,rfl,rfl⟩
    · rw [if_neg h1,if_neg h1]
      by_cases h2:m=i.toNat
      · rw [if_pos h2,if_pos h2]; exact ⟨_,hnk,rfl,rfl⟩
      · rw [if_neg h2,if_neg h2]; exact ⟨_,hm,rfl,rfl⟩
  have out:∀ m,m<H.length->m≠i.toNat->m≠k.toNat->Own B w5 zal 4 (ptr (at_ H m).b) 1 1 (thc (at_ H m) m):=fun m hm h1 h2 =>
    ((th3 m hm).st (zb6 fun he=>h2 (q.inj _ _ hm hnk he)) g4).st (zb6 fun he=>h1 (q.inj _ _ hm hni he)) g5
  refine ⟨rfl,QI.ext ⟨?_,?_,fun m hm=>?_,fun m n hm hn he=>?_,fun m hm=>?_,fun b hb=>⟨?_,fun m hm=>?_⟩⟩ h8,?_⟩
  · rw [hl]
    have s3:=(q.slot.st (zjD fun x hx=>by cases hx; exact Ne.symm aq') g2).st (zjD fun x hx=>by cases hx; exact Ne.symm aq') g3
    exact (s3.st (zb6 (Ne.symm (q.aq _ hnk))) g4).st (zb6 (Ne.symm (q.aq _ hni))) g5
  · rw [hl]
    have f:∀ m,m<H.length->zbK (some a) (ptr (at_ H m).b):=fun m hm u v hu qhv=>by cases hu; cases qhv; exact Ne.symm (ath m hm)
    exact (o3.st (f _ hnk) g4).st (f _ hni) g5
  · rw [hl] at hm
    rw [sa m]
    by_cases h1:m=k.toNat
    · rw [if_pos h1,h1]; exact o5'
    · rw [if_neg h1]
      by_cases h2:m=i.toNat
      · rw [if_pos h2,h2]
        exact o4'.st (zb6 fun he=>by have:=q.inj _ _ hnk hni he; omega) g5
      · rw [if_neg h2]; exact out m hm h2 h1
  · rw [hl] at hm hn
    obtain ⟨m',h1,h2,h3⟩:=mem m hm
    obtain ⟨n',h4,h5,h6⟩:=mem n hn
    rw [h2,h5] at he
    have:=q.inj _ _ h1 h4 he
    subst this
    rw [h3] at h6
    split at h6<;>split at h6<;>(try split at h6)<;>(try split at h6)<;>omega
  · rw [hl] at hm
    obtain ⟨m',h1,h2,-⟩:=mem m hm
    rw [h2]; exact q.aq _ h1
  · cases hb; exact aq'
  · rw [hl] at hm
    cases hb
    obtain ⟨m',h1,h2,-⟩:=mem m hm
    rw [h2]; exact ath _ h1
  · have fa:Fr (zjA qb (some a) H) w w3:=(zaR g2 fun x hx=>.inr (.inl ⟨x,hx,rfl⟩)).tr (zaR g3 fun x hx=>.inr (.inl ⟨x,hx,rfl⟩))
    have ft:∀ m,m<H.length->∀ x,ptr (at_ H m).b=some x->zjA qb (some a) H x.block:=fun m hm x hx=>by cases hx; exact .inr (.inr ⟨_,zCm H hm,rfl⟩)
    exact ((fa.tr (zaR g4 (ft _ hnk))).tr (zaR g5 (ft _ hni))).tr (zad h8)
def qhv (qb:Nat):Value:=.iface zb5 (.pointer (ptr qb))
theorem zuV {name:String} {f:FuncId} {pr:Bool} {r:Value} {args:List Value} {K:Value->World->Prop}
    (hm:((Tryz.prog.info? zb5).bind fun i=>i.methods.find? (·.name==name)).map (fun m=>(m.path.toList,m.func))=some ([],some (f,pr)))
    (hr : (receiverAt zb5 (.val (.pointer (ptr qb))) pr (some ((name.splitOn ".").getLastD name))).run Tryz.prog w = .ok r w) (h : FnP Tryz.prog f (#[r] ++ args.toArray) w K) : zqI Tryz.prog name (qhv qb) args w K := by
  cases hi:Tryz.prog.info? zb5 with
  |none => rw [hi] at hm; simp at hm
  |some i =>
    rw [hi] at hm
    simp only [Option.bind_some] at hm
    cases hq:i.methods.find? (·.name==name) with
    |none => rw [hq] at hm; simp at hm
    |some m =>
      rw [hq] at hm
      simp only [Option.map_some,Option.some.injEq,Prod.mk.injEq] at hm
      refine ⟨zb5,.pointer (ptr qb),f,r,rfl,?_,h⟩
      obtain ⟨n,hn⟩:∃ n,Tryz.prog.types.size+Made.depth=n+1:=⟨Tryz.prog.types.size+Made.depth-1,by unfold Made.depth; omega⟩
      rw [hn]
      exact zDH hi hq (by have:=hm.1; exact Array.toList_eq_nil_iff.1 this) hm.2 hr
theorem QI.recv (q:QI B w qb x y p c H) {o:Option String}:(receiverAt zb5 (.val (.pointer (ptr qb))) false o).run Tryz.prog w=.ok (.slice p H.length c) w :=
  zEj (e:=zem) (d:=.slice zbb) (by kernel_rfl) (by kernel_rfl) (by kernel_rfl) (q.slot.cellAt (i:=0) rfl)
theorem zDn (q : QI B w qb x y p c H) {K : Value -> World -> Prop} (h : FnP Tryz.prog zfs #[.slice p H.length c] w K) : zqI Tryz.prog "Len" (qhv qb) [] w K := zuV (pr := false) (by kernel_rfl) q.recv h
theorem zov (q : QI B w qb x y p c H) {a b : Value} {K : Value -> World -> Prop} (h : FnP Tryz.prog zeT #[.slice p H.length c, a, b] w K) : zqI Tryz.prog "Less" (qhv qb) [a, b] w K := zuV (pr := false) (by kernel_rfl) q.recv h
theorem zsT (q : QI B w qb x y p c H) {a b : Value} {K : Value -> World -> Prop} (h : FnP Tryz.prog zeV #[.slice p H.length c, a, b] w K) : zqI Tryz.prog "Swap" (qhv qb) [a, b] w K := zuV (pr := false) (by kernel_rfl) q.recv h
theorem zGO {a : Value} {K : Value -> World -> Prop} (h : FnP Tryz.prog zeU #[.pointer (ptr qb), a] w K) : zqI Tryz.prog "Push" (qhv qb) [a] w K := zuV (pr := true) (by kernel_rfl) (zz2 (e := zem) (by kernel_rfl)) h
theorem zKn {K : Value -> World -> Prop} (h : FnP Tryz.prog zft #[.pointer (ptr qb)] w K) : zqI Tryz.prog "Pop" (qhv qb) [] w K := zuV (pr := true) (by kernel_rfl) (zz2 (e := zem) (by kernel_rfl)) h
theorem tdiv2 {j:Int} (h:0<=j):(j-1).tdiv 2=((par j.toNat:Nat):Int):=by
  unfold par
  by_cases h0:j=0
  · subst h0; decide
  · rw [Int.tdiv_eq_ediv_of_nonneg (by omega)]; omega
theorem up_k (q:QI B w qb x y p c H) {j:Int} {n:Nat} (j0:0<=j) (hj:j<n) (hnl:n<=H.length) (hn:H.length<=1000) (hu:Up H n j.toNat) :
    FnP Tryz.prog zdm #[qhv qb,.int .i64 j] w fun v w'=>v=.tuple #[]/\∃ Y,QI B w' qb x y p c Y/\Y.Perm H/\(∀ k,n<=k->at_ Y k=at_ H k)/\Hp Y n/\Fr (zjA qb p H) w w':=by
  refine zjX (qhv qb) j w _ ⟨fun j1 w'=>0<=j1/\j1<n/\∃ Y,QI B w' qb x y p c Y/\Y.Perm H/\(∀ k,n<=k->at_ Y k=at_ H k)/\Up Y n j1.toNat/\Fr (zjA qb p H) w w',fun j1 _=>j1.toNat,⟨j0,hj,H,q,.refl _,fun _ _=>rfl,hu,Fr.refl _ _⟩,?_⟩
  rintro j1 w2 ⟨h0,h1,Y,qy,hp,hout,hu,hf⟩
  have hl:=hp.length_eq
  simp only [tdiv2 h0]
  have hpar:par j1.toNat<=j1.toNat:=by unfold par; omega
  refine ⟨i64 (by omega),i64 (by omega),fun he w3 h3=>?_,fun hne w3 h3=>zov (qy.ext h3) ((zzM (qy.ext h3) h0 (by omega) (by omega) (by omega)).mono fun v w4 ⟨e4,qhv⟩=>⟨_,qhv,fun hb w6 h6=>?_,fun hb w6 h6=>?_⟩)⟩
  · have:j1.toNat=0:=by unfold par at he; omega
    rw [this] at hu
    exact ⟨trivial,Y,qy.ext h3,hp,hout,zE2 hu,hf.tr (zad h3)⟩
  · simp only [Int.toNat_natCast,decide_eq_false_iff_not] at hb
    exact ⟨trivial,Y,((qy.ext h3).ext e4).ext h6,hp,hout,zLi hu hb,((hf.tr (zad h3)).tr (zad e4)).tr (zad h6)⟩
  · simp only [Int.toNat_natCast,decide_eq_true_eq] at hb
    have q6:=((qy.ext h3).ext e4).ext h6
    have hlt:par j1.toNat<j1.toNat:=by unfold par at hne ⊢; omega
    refine zsT q6 ((zEO q6 (by omega) (by omega) h0 (by omega)).mono fun v w7 ⟨qhv,q7,f7⟩=>⟨qhv,⟨by omega,by omega,_,q7,?_,fun k hk=>?_,?_,?_⟩,by omega⟩)
    · exact (zoN Y (by omega) (by omega)).trans hp
    · rw [zqi Y (by omega) (by omega),if_neg (by omega),if_neg (by omega)]; exact hout k hk
    · simp only [Int.toNat_natCast]
      exact zLh (by omega) (by omega) (by omega) hu hb
    · exact (((hf.tr (zad h3)).tr (zad e4)).tr (zad h6)).tr (f7.mono fun b=>(zpk hp b).1)
theorem down_k (q:QI B w qb x y p c H) {i0 n:Int} (h00:0<=i0) (n0:0<=n) (hn:n<=H.length) (hH:H.length<=1000) (hi:i0<=1000) (hu:Dn H n.toNat i0.toNat i0.toNat) :
    FnP Tryz.prog zcL #[qhv qb,.int .i64 i0,.int .i64 n] w fun v w'=>∃ (r:Bool) (Y:List Th),v=.bool r/\QI B w' qb x y p c Y/\Y.Perm H/\(∀ k,n.toNat<=k->at_ Y k=at_ H k)/\(r=true->Hp Y n.toNat)/\(r=false->Y=H/\Up Y n.toNat i0.toNat)/\Fr (zjA qb p H) w w':=by
  refine ziF (qhv qb) i0 n w _ ⟨fun i w'=>i0<=i/\(i<n\/i=i0)/\∃ Y,QI B w' qb x y p c Y/\Y.Perm H/\(∀ k,n.toNat<=k->at_ Y k=at_ H k)/\(i=i0->Y=H)/\Dn Y n.toNat i0.toNat i.toNat/\Fr (zjA qb p H) w w',fun i _=>(2001-i).toNat,⟨Int.le_refl _,.inr rfl,H,q,.refl _,fun _ _=>rfl,fun _=>rfl,hu,Fr.refl _ _⟩,?_⟩
  rintro i w2 ⟨hi0,hin,Y,qy,hp,hout,hsame,hd,hf⟩
  have hl:=hp.length_eq
  have stop:∀ w',QI B w' qb x y p c Y->Fr (zjA qb p H) w w'->(∀ k,1<=k->k<n.toNat->par k=i.toNat->¬ ahead (at_ Y k) (at_ Y i.toNat))->∃ (r:Bool) (Y:List Th),Value.bool (decide (i0<i))=.bool r/\QI B w' qb x y p c Y/\Y.Perm H/\(∀ k,n.toNat<=k->at_ Y k=at_ H k)/\(r=true->Hp Y n.toNat)/\(r=false->Y=H/\Up Y n.toNat i0.toNat)/\Fr (zjA qb p H) w w':=by
    intro w' qw fw hs
    refine ⟨_,Y,rfl,qw,hp,hout,fun h=>?_,fun h=>?_,fw⟩
    · simp only [decide_eq_true_eq] at h
      exact zsF hd (by omega) hs
    · simp only [decide_eq_false_iff_not] at h
      obtain rfl:i=i0:=by omega
      exact ⟨hsame rfl,zut hd hs⟩
  have kid:∀ k,1<=k->k<n.toNat->par k=i.toNat->(k:Int)=2*i+1\/(k:Int)=2*i+1+1:=fun k k1 kn hk=>by unfold par at hk; omega
  have step:∀ (j:Int) (w6:World),(j=2*i+1\/j=2*i+1+1)->j<n->QI B w6 qb x y p c Y->Fr (zjA qb p H) w w6->ahead (at_ Y j.toNat) (at_ Y i.toNat)->(∀ k,1<=k->k<n.toNat->par k=i.toNat->¬ ahead (at_ Y k) (at_ Y j.toNat)) ->
      zqI Tryz.prog "Swap" (qhv qb) [.int .i64 i, .int .i64 j] w6 fun v7 w7 => v7 = .tuple #[] /\ ((i0 <= j /\ (j < n \/ j = i0) /\ ∃ Y, QI B w7 qb x y p c Y /\ Y.Perm H /\ (∀ k, n.toNat <= k -> at_ Y k = at_ H k) /\ (j = i0 -> Y = H) /\ Dn Y n.toNat i0.toNat j.toNat /\ Fr (zjA qb p H) w w7) /\ (2001 - j).toNat < (2001 - i).toNat) := by
    intro j w6 hj hjn qw fw ha hs
    refine zsT qw ((zEO qw (by omega) (by omega) (by omega) (by omega)).mono fun v w7 ⟨qhv,q7,f7⟩=>⟨qhv,⟨by omega,.inl hjn,_,q7,?_,fun k hk=>?_,fun h=>by omega,?_,?_⟩,by omega⟩)
    · exact (zoN Y (by omega) (by omega)).trans hp
    · rw [zqi Y (by omega) (by omega),if_neg (by omega),if_neg (by omega)]; exact hout k hk
    · exact zJN (by omega) (by omega) (by omega) (by unfold par; omega) (by omega) hd ha hs
    · exact fw.tr (f7.mono fun b=>(zpk hp b).1)
  refine ⟨i64 (by omega),i64 (by omega),fun hge w3 h3=>stop w3 (qy.ext h3) (hf.tr (zad h3)) fun k k1 kn hk=>by rcases kid k k1 kn hk with h|h<;>omega,fun hlt=>⟨i64 (by omega),fun h2 w3 h3=>?_,fun h2 w3 h3=>?_⟩⟩
  · have q3:=qy.ext h3
    refine zov q3 ((zzM q3 (by omega) (by omega) (by omega) (by omega)).mono fun v w4 ⟨e4,qhv⟩=>⟨_,qhv,fun hb w6 h6=>?_,fun hb w6 h6=>?_⟩)
    all_goals
      have q6:=(q3.ext e4).ext h6
      have f6:=((hf.tr (zad h3)).tr (zad e4)).tr (zad h6)
      simp only [decide_eq_true_eq,decide_eq_false_iff_not] at hb
      refine zov q6 ((zzM q6 (by omega) (by omega) (by omega) (by omega)).mono fun v w7 ⟨e7,qhv⟩=>⟨_,qhv,fun hc w9 h9=>?_,fun hc w9 h9=>?_⟩)
      all_goals
        have q9:=(q6.ext e7).ext h9
        have f9:=(f6.tr (zad e7)).tr (zad h9)
        simp only [decide_eq_true_eq,decide_eq_false_iff_not] at hc
    · refine stop w9 q9 f9 fun k k1 kn hk=>?_
      rcases kid k k1 kn hk with h|h
      · have:k=(2*i+1).toNat:=by omega
        rw [this]; exact fun h'=>hc (zo0 hb h')
      · have:k=(2*i+1+1).toNat:=by omega
        rw [this]; exact hc
    · refine step _ w9 (.inr rfl) h2 q9 f9 hc fun k k1 kn hk=>?_
      rcases kid k k1 kn hk with h|h
      · have:k=(2*i+1).toNat:=by omega
        rw [this]; exact zks hb
      · have:k=(2*i+1+1).toNat:=by omega
        rw [this]; unfold ahead; omega
    · refine stop w9 q9 f9 fun k k1 kn hk=>?_
      rcases kid k k1 kn hk with h|h
      · have:k=(2*i+1).toNat:=by omega
        rw [this]; exact hc
      · have:k=(2*i+1+1).toNat:=by omega
        rw [this]; exact zdZ hb hc
    · refine step _ w9 (.inl rfl) hlt.1 q9 f9 hc fun k k1 kn hk=>?_
      rcases kid k k1 kn hk with h|h
      · have:k=(2*i+1).toNat:=by omega
        rw [this]; unfold ahead; omega
      · have:k=(2*i+1+1).toNat:=by omega
        rw [this]; exact hb
  · have q3:=qy.ext h3
    refine zov q3 ((zzM q3 (by omega) (by omega) (by omega) (by omega)).mono fun v w4 ⟨e4,qhv⟩=>⟨_,qhv,fun hb w6 h6=>?_,fun hb w6 h6=>?_⟩)
    all_goals
      have q6:=(q3.ext e4).ext h6
      have f6:=((hf.tr (zad h3)).tr (zad e4)).tr (zad h6)
      simp only [decide_eq_true_eq,decide_eq_false_iff_not] at hb
    · refine stop w6 q6 f6 fun k k1 kn hk=>?_
      rcases kid k k1 kn hk with h|h
      · have:k=(2*i+1).toNat:=by omega
        rw [this]; exact hb
      · omega
    · refine step _ w6 (.inl rfl) hlt.1 q6 f6 hb fun k k1 kn hk=>?_
      rcases kid k k1 kn hk with h|h
      · have:k=(2*i+1).toNat:=by omega
        rw [this]; unfold ahead; omega
      · omega
end
section
variable {B qb:Nat} {x y:Value} {p:Option Addr} {c:Nat} {H:List Th} {w:World}
def tv (b:Nat):Value:=.iface zbb (.pointer (ptr b))
theorem zeG {H:List Th} {t:Th} {k:Nat} (h:k<H.length):at_ (H++[t]) k=at_ H k:=by
  unfold at_; rw [List.getD_eq_getElem?_getD,List.getD_eq_getElem?_getD,List.getElem?_append_left h]
theorem ziW {H:List Th} {t:Th}:at_ (H++[t]) H.length=t:=by
  unfold at_; rw [List.getD_eq_getElem?_getD,List.getElem?_append_right (Nat.le_refl _)]; simp
theorem zms {H:List Th} {m k:Nat} (h:k<m):at_ (H.take m) k=at_ H k:=by
  unfold at_; rw [List.getD_eq_getElem?_getD,List.getD_eq_getElem?_getD,List.getElem?_take,if_pos h]
theorem push_k (q:QI B w qb x y p c H) (hn:H.length<=999) (hB:B<=w.heap.size) {t:Th} {j:Nat} (ht:Own B w zal 4 (ptr t.b) 1 1 (thc t j)) (hf:¬ zjA qb p H t.b) :
    FnP Tryz.prog zeU #[.pointer (ptr qb),tv t.b] w fun v w'=>v=.tuple #[]/\∃ p' c',QI B w' qb x y p' c' (H++[t])/\Fr (zjA qb p (t::H)) w w'/\(∀ a,p'=some a->(∃ a',p=some a'/\a'.block=a.block)\/w.heap.size<=a.block):=by
  have hq:t.b≠qb:=fun h=>hf (.inl h)
  have hpa:∀ a,p=some a->t.b≠a.block:=fun a ha h=>hf (.inr (.inl ⟨a,ha,h.symm⟩))
  have hth:∀ k,k<H.length->(at_ H k).b≠t.b:=fun k hk h=>hf (.inr (.inr ⟨_,zCm H hk,h⟩))
  refine zm3 (ptr qb) (tv t.b) w _ fun w0 h0=>zsh (d:=.pointer zal) (by kernel_rfl) (by simp) ⟨Ext.refl _,_,rfl,zaL _,_,_,_,(q.slot.ext h0).cellAt (i:=0) rfl,zaL _,zaL _,?_⟩
  have q0:=q.ext h0
  refine zcr (ht.ext h0) (by simp [thc]) rfl (by simp) fun w6 o6 g6=>?_
  have o6':Own B w6 zal 4 (ptr t.b) 1 1 (thc t H.length):=o6
  have s6:=q0.slot.st (zb6 (Ne.symm hq)) g6
  have a6:=q0.arr.st (fun u v hu qhv=>by cases qhv; exact Ne.symm (hpa u hu)) g6
  have t6:∀ k,k<H.length->Own B w6 zal 4 (ptr (at_ H k).b) 1 1 (thc (at_ H k) k):=fun k hk=>(q0.th k hk).st (zb6 (hth k hk)) g6
  have f6:Fr (zjA qb p (t::H)) w w6:=(zad h0).tr (zaR g6 fun a ha=>by cases ha; exact .inr (.inr ⟨t,List.mem_cons_self ..,rfl⟩))
  have hB6:B<=w6.heap.size:=Nat.le_trans hB f6.size
  refine ⟨zaL _,_,_,_,s6.cellAt (i:=0) rfl,?_⟩
  refine push zqM (by omega) a6 hB6 rfl (by intro u hu; simp [Value.cells] at hu; subst hu; rfl) (by omega) (by omega) (by omega) fun p' c' w16 o16 g16 hp'=>⟨zaL _,?_⟩
  have s16:=s6.st (fun u v hu qhv=>by cases hu; exact Ne.symm (q.ap v qhv).1) g16
  have t16:∀ k,k<H.length->Own B w16 zal 4 (ptr (at_ H k).b) 1 1 (thc (at_ H k) k):=fun k hk=>(t6 k hk).st (zjD fun v qhv=>(q.ap v qhv).2 k hk) g16
  have o16t:=o6'.st (zjD fun v qhv=>hpa v qhv) g16
  have np:∀ a,p'=some a->(∃ a',p=some a'/\a'.block=a.block)\/w6.heap.size<=a.block:=fun a ha=>by
    rcases g16.new with h|h
    · subst ha
      cases p with
      |none => simp [blk] at h
      |some z => simp [blk] at h; exact .inl ⟨z,rfl,h.symm⟩
    · exact .inr (h a ha)
  have ap':∀ a,p'=some a->a.block≠qb/\a.block≠t.b/\∀ k,k<H.length->(at_ H k).b≠a.block:=fun a ha=>by
    rcases np a ha with ⟨z,hz,he⟩|h
    · rw [<- he]
      exact ⟨(q.ap z hz).1,Ne.symm (hpa z hz),(q.ap z hz).2⟩
    · have l1:=(s6.lt _ rfl).2
      have l2:=(o6'.lt _ rfl).2
      exact ⟨fun e=>by simp [ptr] at l1; omega,fun e=>by simp [ptr] at l2; omega,fun k hk e=>by have:=((t6 k hk).lt _ rfl).2; simp at this; omega⟩
  have st16:zao w16 (ptr qb) [.slice p' (H.length+1) c'] [] fun w20=>∀ w21,Ext w20 w21->(Value.tuple #[]=.tuple #[]/\∃ p' c',QI B w21 qb x y p' c' (H++[t])/\Fr (zjA qb p (t::H)) w w21/\(∀ a,p'=some a->(∃ a',p=some a'/\a'.block=a.block)\/w.heap.size<=a.block)):=by
    have:=zcr (off:=0) s16 (by simp) (v:=.slice p' (H.length+1) c') rfl (ns:=[]) (by simp) (K:=fun w20=>∀ w21,Ext w20 w21->(Value.tuple #[]=.tuple #[]/\∃ p' c',QI B w21 qb x y p' c' (H++[t])/\Fr (zjA qb p (t::H)) w w21/\(∀ a,p'=some a->(∃ a',p=some a'/\a'.block=a.block)\/w.heap.size<=a.block))) fun w20 o20 g20 w21 h21=>?_
    · rw [zaP] at this; exact this
    have hl:(H++[t]).length=H.length+1:=by simp
    refine ⟨rfl,p',c',QI.ext ⟨?_,?_,fun k hk=>?_,fun i k hi hk he=>?_,fun i hi=>?_,fun a ha=>⟨(ap' a ha).1,fun i hi=>?_⟩⟩ h21,?_,fun a ha=>?_⟩
    · rw [hl]; exact o20
    · rw [hl,List.map_append]
      have:Own B w16 zbb 1 p' (H.length+1) c' (H.map pv++[t].map pv):=o16
      exact this.st (fun u v hu qhv=>by cases qhv; exact (ap' u hu).1) g20
    · rw [hl] at hk
      by_cases h:k<H.length
      · rw [zeG h]; exact (t16 k h).st (zb6 (q.aq k h)) g20
      · obtain rfl:k=H.length:=by omega
        rw [ziW]; exact o16t.st (zb6 hq) g20
    · rw [hl] at hi hk
      by_cases h1:i<H.length<;>by_cases h2:k<H.length
      · rw [zeG h1,zeG h2] at he; exact q.inj i k h1 h2 he
      · obtain rfl:k=H.length:=by omega
        rw [zeG h1,ziW] at he; exact absurd he (hth i h1)
      · obtain rfl:i=H.length:=by omega
        rw [zeG h2,ziW] at he; exact absurd he.symm (hth k h2)
      · omega
    · rw [hl] at hi
      by_cases h1:i<H.length
      · rw [zeG h1]; exact q.aq i h1
      · obtain rfl:i=H.length:=by omega
        rw [ziW]; exact hq
    · rw [hl] at hi
      by_cases h1:i<H.length
      · rw [zeG h1]; exact (ap' a ha).2.2 i h1
      · obtain rfl:i=H.length:=by omega
        rw [ziW]; exact Ne.symm (ap' a ha).2.1
    · refine ((f6.tr (zaR g16 fun a ha=>.inr (.inl ⟨a,ha,rfl⟩))).tr (zaR g20 fun a ha=>by cases ha; exact .inl rfl)).tr (zad h21)
    · rcases np a ha with h|h
      · exact .inl h
      · exact .inr (Nat.le_trans f6.size h)
  exact st16
theorem pop_k (q:QI B w qb x y p c H) (hl:0<H.length) :
    FnP Tryz.prog zft #[.pointer (ptr qb)] w fun v w'=>v=tv (at_ H (H.length-1)).b/\QI B w' qb x y p c (H.take (H.length-1))/\Fr (fun b=>b=qb) w w'/\Own B w' zal 4 (ptr (at_ H (H.length-1)).b) 1 1 (thc (at_ H (H.length-1)) (H.length-1)):=by
  have hp:=q.ne hl
  have s0:=q.slot.cellAt (i:=0) rfl
  have hc:=q.arr.le
  have e1:((H.length:Int)-1).toNat=H.length-1:=by omega
  have ca:=zo1 q.arr (i:=(H.length:Int)-1) (by omega) (by omega)
  rw [e1] at ca
  refine zoa (ptr qb) w _ ⟨zaL _,_,_,_,s0,i64 (by omega),zaL _,_,_,_,s0,hp,by omega,by omega,_,ca,zaL _,_,_,_,s0,by omega,by omega,by omega,zaL _,?_⟩
  rw [show (((H.length:Int)-1)-0).toNat=H.length-1 by omega,show c-(0:Int).toNat=c by simp,zfG]
  have st:=zcr (off:=0) q.slot (by simp) (v:=.slice p (H.length-1) c) rfl (ns:=[]) (by simp) (K:=fun w10=>∀ w11,Ext w10 w11->Run Tryz.prog (.makeInterface zbb (.pointer (ptr (at_ H (H.length-1)).b))) w11 fun v12 w12=>Ext w11 w12/\∃ t13:Value,v12=t13/\∀ w14,Ext w12 w14 ->
    (t13=tv (at_ H (H.length-1)).b/\QI B w14 qb x y p c (H.take (H.length-1))/\Fr (fun b=>b=qb) w w14/\Own B w14 zal 4 (ptr (at_ H (H.length-1)).b) 1 1 (thc (at_ H (H.length-1)) (H.length-1)))) fun w10 o10 g10 w11 h11=>?_
  · rw [zaP] at st; exact st
  refine zfJ (d:=.pointer zal) (by kernel_rfl) (by simp) ⟨Ext.refl _,_,rfl,fun w14 h14=>⟨rfl,?_,((zaR g10 fun a ha=>by cases ha; rfl).tr (zad h11)).tr (zad h14),?_⟩⟩
  · refine QI.ext (QI.ext ?_ h11) h14
    have hm:(H.take (H.length-1)).length=H.length-1:=by simp
    have th:∀ k,k<H.length->Own B w10 zal 4 (ptr (at_ H k).b) 1 1 (thc (at_ H k) k):=fun k hk=>(q.th k hk).st (zb6 (q.aq k hk)) g10
    refine ⟨?_,?_,fun k hk=>?_,fun i k hi hk he=>?_,fun i hi=>?_,fun a ha=>⟨(q.ap a ha).1,fun i hi=>?_⟩⟩
    · rw [hm]; exact o10
    · have:=(q.arr.st (fun u v hu qhv=>by cases qhv; exact (q.ap u hu).1) g10).pre (m:=H.length-1) (by omega)
      rw [hm,List.map_take]; rw [Nat.mul_one] at this; exact this
    · rw [hm] at hk; rw [zms hk]; exact th k (by omega)
    · rw [hm] at hi hk; rw [zms hi,zms hk] at he; exact q.inj i k (by omega) (by omega) he
    · rw [hm] at hi; rw [zms hi]; exact q.aq i (by omega)
    · rw [hm] at hi; rw [zms hi]; exact (q.ap a ha).2 i (by omega)
  · exact (((q.th (H.length-1) (by omega)).st (zb6 (q.aq _ (by omega))) g10).ext h11).ext h14
theorem zpj {p':Option Addr} {t:Th} {G:List Th} {n:Nat} (hg:∀ u∈G,u=t\/u∈H) (hp:∀ a,p'=some a->(∃ a',p=some a'/\a'.block=a.block)\/n<=a.block) (b:Nat) (h:zjA qb p' G b):zjA qb p (t::H) b\/n<=b:=by
  rcases h with h|⟨a,ha,rfl⟩|⟨u,hu,rfl⟩
  · exact .inl (.inl h)
  · rcases hp a ha with ⟨z,hz,he⟩|h
    · exact .inl (.inr (.inl ⟨z,hz,he⟩))
    · exact .inr h
  · refine .inl (.inr (.inr ⟨u,?_,rfl⟩))
    rcases hg u hu with rfl|h
    · exact List.mem_cons_self ..
    · exact List.mem_cons_of_mem _ h
theorem zxv (q:QI B w qb x y p c H) (hh:Hp H H.length) (hn:H.length<=999) (hB:B<=w.heap.size) {t:Th} {j:Nat} (ht:Own B w zal 4 (ptr t.b) 1 1 (thc t j)) (hf:¬ zjA qb p H t.b) :
    FnP Tryz.prog zcK #[qhv qb,tv t.b] w fun v w'=>v=.tuple #[]/\∃ p' c' Y,QI B w' qb x y p' c' Y/\Y.Perm (t::H)/\Hp Y Y.length/\Fr (zjA qb p (t::H)) w w'/\(∀ a,p'=some a->(∃ a',p=some a'/\a'.block=a.block)\/w.heap.size<=a.block):=by
  refine ziE (qhv qb) (tv t.b) w _ fun w0 h0=>zGO ((push_k (q.ext h0) hn (Nat.le_trans hB h0.size) (ht.ext h0) hf).mono fun v w1 ⟨qhv,p',c',q1,f1,np⟩=>⟨qhv,fun w2 h2=>?_⟩)
  have q2:=q1.ext h2
  have hl:(H++[t]).length=H.length+1:=by simp
  refine zDn q2 (len_k.mono fun v w3 ⟨e3,qhv⟩=>⟨_,qhv,i64 (by omega),fun w5 h5=>?_⟩)
  have q5:=(q2.ext e3).ext h5
  have hup:Up (H++[t]) (H.length+1) H.length:=zHS (zzA hh fun k hk=>zeG hk)
  rw [show (((H++[t]).length:Int)-1)=(H.length:Int) by omega]
  refine (up_k q5 (j:=(H.length:Int)) (n:=H.length+1) (by omega) (by omega) (by omega) (by omega) hup).mono fun v w6 ⟨qhv,Y,q6,hp,_,hhp,f6⟩=>⟨qhv,fun w7 h7=>⟨rfl,p',c',Y,q6.ext h7,hp.trans (List.perm_append_comm (l₁:=H) (l₂:=[t])),?_,?_,fun a ha=>?_⟩⟩
  · rw [hp.length_eq,hl]; exact hhp
  · have f5:Fr (zjA qb p (t::H)) w w5:=((((zad h0).tr f1).tr (zad h2)).tr (zad e3)).tr (zad h5)
    refine (f5.trans f6 fun b hb=>zpj (fun u hu=>?_) (fun a ha=>?_) b hb).tr (zad h7)
    · rcases List.mem_append.1 hu with h|h
      · exact .inr h
      · exact .inl (by simpa using h)
    · rcases np a ha with h|h
      · exact .inl h
      · exact .inr (Nat.le_trans h0.size h)
  · rcases np a ha with h|h
    · exact .inl h
    · exact .inr (Nat.le_trans h0.size h)
theorem zES {Y:List Th} (h:0<Y.length):Y.take (Y.length-1)++[at_ Y (Y.length-1)]=Y:=by
  have:=List.take_append_drop (Y.length-1) Y
  have hd:Y.drop (Y.length-1)=[at_ Y (Y.length-1)]:=by
    rw [List.drop_eq_getElem_cons (by omega),List.drop_of_length_le (by omega)]
    unfold at_
    rw [List.getD_eq_getElem?_getD,List.getElem?_eq_getElem (by omega)]; rfl
  rw [<- hd]; exact this
theorem zD7 {Y G:List Th} (h:0<Y.length) (hp:Y.Perm G):(at_ Y (Y.length-1)::Y.take (Y.length-1)).Perm G:=by
  refine List.Perm.trans ?_ hp
  have:=zES h
  refine List.Perm.trans (List.perm_append_comm (l₁:=[_])) ?_
  rw [this]
theorem zA4 (q:QI B w qb x y p c H) (hh:Hp H H.length) (h0:0<H.length) (hn:H.length<=1000) :
    FnP Tryz.prog zc8 #[qhv qb] w fun v w'=>∃ (t:Th) (j:Nat) (Y:List Th),v=tv t.b/\QI B w' qb x y p c Y/\(t::Y).Perm H/\Hp Y Y.length/\(∀ u∈H,¬ ahead u t)/\Own B w' zal 4 (ptr t.b) 1 1 (thc t j)/\Fr (zjA qb p H) w w':=by
  refine zjb (qhv qb) w _ fun w0 h0'=>zDn (q.ext h0') (len_k.mono fun v w1 ⟨e1,qhv⟩=>⟨_,qhv,i64 (by omega),fun w3 h3=>?_⟩)
  have q3:=((q.ext h0').ext e1).ext h3
  have f3:Fr (zjA qb p H) w w3:=((zad h0').tr (zad e1)).tr (zad h3)
  refine zsT q3 ((zEO q3 (by omega) (by omega) (by omega) (by omega)).mono fun v w4 ⟨qhv,q4,f4⟩=>⟨qhv,fun w5 h5=>?_⟩)
  have e0:((H.length:Int)-1).toNat=H.length-1:=by omega
  rw [e0] at q4
  have q5:=q4.ext h5
  have hl:=zEP H (0:Int).toNat (H.length-1)
  have sa:=zqi H (i:=(0:Int).toNat) (j:=H.length-1) (by simpa using h0) (by omega)
  refine (down_k q5 (by omega) (by omega) (by omega) (by omega) (by omega) ?_).mono fun v w6 ⟨r,Y,qhv,q6,hp,hout,ht,hf,f6⟩=>⟨_,qhv,fun w8 h8=>?_⟩
  · rw [e0]
    by_cases h1:H.length-1=0
    · rw [h1]; exact ⟨fun k _ hk=>by omega,fun h=>by simp at h⟩
    · refine zGf (zKl hh (by omega)) (fun k hk hk0=>?_) (by simp; omega)
      rw [sa k,if_neg (by omega),if_neg hk0]
  · have hYl:Y.length=H.length:=by rw [hp.length_eq,hl]
    have hY:Hp Y (H.length-1):=by
      rw [e0] at ht hf
      cases r with
      |true => exact ht rfl
      |false => exact zE2 (hf rfl).2
    have q8:=q6.ext h8
    have hlast:at_ Y (Y.length-1)=at_ H 0:=by
      rw [hYl,hout _ (by omega),sa,if_pos rfl]; rfl
    have hpH:Y.Perm H:=hp.trans (zoN H (by simpa using h0) (by omega))
    refine zKn ((pop_k q8 (by omega)).mono fun v w9 ⟨qhv,q9,f9,o9⟩=>⟨v,rfl,fun w11 h11=>⟨at_ Y (Y.length-1),Y.length-1,Y.take (Y.length-1),qhv,q9.ext h11,zD7 (by omega) hpH,?_,fun u hu=>?_,o9.ext h11,?_⟩⟩)
    · rw [List.length_take,Nat.min_eq_left (by omega),hYl]
      exact zzA hY fun k hk=>zms hk
    · rw [hlast]
      obtain ⟨k,hk,rfl⟩:=zIz hu
      exact zGL hh k hk
    · have fp:∀ b,zjA qb p (swp H (0:Int).toNat (H.length-1)) b->zjA qb p H b:=fun b=>(zpk (zoN H (by simpa using h0) (by omega)) b).1
      exact (((((f3.tr f4).tr (zad h5)).tr (f6.mono fp)).tr (zad h8)).tr (f9.mono fun b hb=>.inl hb)).tr (zad h11)
end
def zJY:Int->Value:=Value.int .i64
theorem kq:zBB Tryz.prog zd8 zJY (.int .i64):=zGW (by kernel_rfl)
theorem mapq:Tryz.prog.underlying zgu=some (.map zd8 zbb):=by kernel_rfl
def Rel (H:List Th) (m:List (Int×Value)):Prop:=(∀ t∈H,ziD m t.id=some (pv t))/\∀ id v,ziD m id=some v->∃ t∈H,t.id=id/\v=pv t
structure QQ (B:Nat) (w:World) (qb mb:Nat) (born:Int) (p:Option Addr) (c:Nat) (H:List Th) (m:List (Int×Value)):Prop where
  qi:QI B w qb (.map (some mb)) (.int .i64 born) p c H
  mp:zdb zJY w mb m
  hp:Hp H H.length
  mB:B<=mb
  mf:¬ zjA qb p H mb
def ziz (mb qb:Nat) (p:Option Addr) (H:List Th) (b:Nat):Prop:=b=mb\/zjA qb p H b
section
variable {B qb mb:Nat} {born:Int} {p:Option Addr} {c:Nat} {H:List Th} {m:List (Int×Value)} {w:World}
theorem QQ.ext {w':World} (q:QQ B w qb mb born p c H m) (h:Ext w w'):QQ B w' qb mb born p c H m:=⟨q.qi.ext h,q.mp.ext h,q.hp,q.mB,q.mf⟩
theorem QQ.fr {S:Nat->Prop} {w':World} (q:QQ B w qb mb born p c H m) (h:Fr S w w') (hs:∀ b,ziz mb qb p H b->¬ S b):QQ B w' qb mb born p c H m:=⟨q.qi.fr h fun b hb=>hs b (.inr hb),q.mp.fr h (hs _ (.inl rfl)),q.hp,q.mB,q.mf⟩
theorem QQ.foot (q:QQ B w qb mb born p c H m) {b:Nat} (h:ziz mb qb p H b):B<=b/\b<w.heap.size:=by
  rcases h with rfl|h
  · exact ⟨q.mB,q.mp.lt⟩
  · exact q.qi.foot h
theorem QI.reslot {x y y':Value} {w':World} (q:QI B w qb x y p c H) (o:Own B w' zlc 3 (ptr qb) 1 1 [.slice p H.length c,x,y']) (g:zco w w' (ptr qb) (ptr qb)):QI B w' qb x y' p c H :=
  ⟨o,q.arr.st (fun u v hu qhv=>by cases qhv; exact (q.ap u hu).1) g,fun k hk=>(q.th k hk).st (zb6 (q.aq k hk)) g,q.inj,q.aq,q.ap⟩
theorem qnew_k:FnP Tryz.prog zkr #[] w fun v w'=>Ext w w'/\∃ qb mb,v=.pointer (ptr qb)/\w.heap.size<=qb/\∀ B,B<=w.heap.size->QQ B w' qb mb 0 none 0 [] []:=by
  refine zvG w _ fun w0 h0=>zkT (enc:=zJY) fun w1 m1 e1=>⟨e1,_,rfl,rfl,fun w3 h3=>zbG (by simp [Value.oneCell']) fun w4 o4 e4 w5 h5=>⟨(((h0.trans e1).trans h3).trans e4).trans h5,w3.heap.size,w0.heap.size,rfl,?_,fun B hB=>?_⟩⟩
  · exact Nat.le_trans (Nat.le_trans h0.size e1.size) h3.size
  · have hm:=m1.lt
    refine QQ.ext ⟨⟨o4 B (Nat.le_trans (Nat.le_trans (Nat.le_trans hB h0.size) e1.size) h3.size),Own.nil,fun k hk=>by simp at hk,fun i k hi=>by simp at hi,fun i hi=>by simp at hi,fun a ha=>by cases ha⟩,(m1.ext h3).ext e4,fun k k1 kn=>by simp at kn,Nat.le_trans hB h0.size,?_⟩ h5
    rintro (h|⟨a,ha,_⟩|⟨t,ht,_⟩)
    · have:=h3.size; omega
    · cases ha
    · cases ht
theorem zHq (hr:Rel H m) (id:Int):∃ t3:Option Addr,(ziD m id).getD (.pointer none)=.pointer t3/\(t3=none↔∀ t∈H,t.id≠id)/\(t3≠none->∃ t∈H,t.id=id/\t3=ptr t.b):=by
  cases hm:ziD m id with
  |none =>
    refine ⟨none,rfl,⟨fun _ t ht he=>?_,fun _=>rfl⟩,fun h=>absurd rfl h⟩
    have:=hr.1 t ht; rw [he,hm] at this; cases this
  |some v =>
    obtain ⟨t,ht,he,rfl⟩:=hr.2 id v hm
    exact ⟨ptr t.b,rfl,⟨fun h=>absurd h (zaL _),fun h=>absurd he (h t ht)⟩,fun _=>⟨t,ht,he,rfl⟩⟩
theorem zKV {t:Th} {Y:List Th} (hr:Rel H m) (hn:∀ u∈H,u.id≠t.id) (hp:Y.Perm (t::H)):Rel Y (zqC m t.id (pv t)):=by
  refine ⟨fun u hu=>?_,fun id v qhv=>?_⟩
  · rw [zlD]
    rcases List.mem_cons.1 (hp.mem_iff.1 hu) with rfl|h
    · rw [if_pos rfl]
    · rw [if_neg (Ne.symm (hn u h))]; exact hr.1 u h
  · rw [zlD] at qhv
    split at qhv
    · rename_i h
      exact ⟨t,hp.mem_iff.2 (List.mem_cons_self ..),h,(Option.some.inj qhv).symm⟩
    · obtain ⟨u,hu,h1,h2⟩:=hr.2 id v qhv
      exact ⟨u,hp.mem_iff.2 (List.mem_cons_of_mem _ hu),h1,h2⟩
def Ids (H:List Th):Prop:=(H.map (·.id)).Nodup
theorem zKU {t:Th} {Y:List Th} (hr:Rel H m) (hn:(zdF m).Nodup) (hi:Ids H) (hp:(t::Y).Perm H):Rel Y (zvb m t.id)/\Ids Y:=by
  have h1:((t::Y).map (·.id)).Nodup:=(hp.map _).nodup_iff.2 hi
  simp only [List.map_cons,List.nodup_cons] at h1
  have hne:∀ u∈Y,u.id≠t.id:=fun u hu he=>h1.1 (by rw [<- he]; exact List.mem_map_of_mem hu)
  refine ⟨⟨fun u hu=>?_,fun id v qhv=>?_⟩,h1.2⟩
  · rw [zvc m hn,if_neg (Ne.symm (hne u hu))]
    exact hr.1 u (hp.mem_iff.1 (List.mem_cons_of_mem _ hu))
  · rw [zvc m hn] at qhv
    split at qhv
    · cases qhv
    · rename_i h
      obtain ⟨u,hu,h2,h3⟩:=hr.2 id v qhv
      rcases List.mem_cons.1 (hp.mem_iff.2 hu) with rfl|hy
      · exact absurd h2 h
      · exact ⟨u,hy,h2,h3⟩
theorem qput_k (q:QQ B w qb mb born p c H m) (hr:Rel H m) (hn:H.length<=200) (hb:-1<=born/\born<=1000000000) (hB:B<=w.heap.size) (prio id:Int) :
    FnP Tryz.prog zei #[.pointer (ptr qb),.int .i64 prio,.int .i64 id] w fun v w'=>∃ e:Int,v=.int .i64 e /\
      (e≠0->Ext w w'/\((∃ t∈H,t.id=id)/\e=6\/H.length=200/\e=7)) /\
      (e=0->(∀ t∈H,t.id≠id)/\H.length≠200/\∃ b p' c' Y,QQ B w' qb mb (born+1) p' c' Y (zqC m id (pv ⟨b,prio,id,born+1⟩))/\Y.Perm (⟨b,prio,id,born+1⟩::H)/\Fr (ziz mb qb p H) w w' /\
        (∀ k,ziz mb qb p' Y k->ziz mb qb p H k\/w.heap.size<=k)):=by
  obtain ⟨t3,e3,hnone,hsome⟩:=zHq hr id
  have ne:=zaL qb
  refine zlS (ptr qb) prio id w _ ⟨ne,ne,_,q.qi.slot.cellAt0 (i:=1) rfl,fun w1 h1=>zHx kq mapq zhH (a:=id) (q.mp.ext h1) ⟨Ext.refl _,t3,e3,fun hs w4 h4=>⟨_,rfl,fun _=>⟨h1.trans h4,.inl ⟨?_,rfl⟩⟩,fun h=>by cases h⟩,fun hs=>⟨ne,ne,_,_,_,(q.ext h1).qi.slot.cellAt0 (i:=0) rfl,fun h200 w7 h7=>⟨_,rfl,fun _=>⟨h1.trans h7,.inr ⟨by omega,rfl⟩⟩,fun h=>by cases h⟩,fun h200=>?_⟩⟩⟩
  · obtain ⟨t,ht,he,_⟩:=hsome hs; exact ⟨t,ht,he⟩
  have q1:=q.ext h1
  refine ⟨ne,ne,_,q1.qi.slot.cellAt0 (i:=2) rfl,i64 (by omega),ne,ne,?_⟩
  refine zcr q1.qi.slot (by simp) rfl (by simp) fun w8 o8 g8=>⟨ne,ne,_,o8.cellAt0 (i:=2) rfl,fun w10 h10=>?_⟩
  have qi8:=q1.qi.reslot (y':=.int .i64 (born+1)) o8 g8
  have m8:=q1.mp.grew (p:=ptr qb) (q:=ptr qb) (fun x hx=>by cases hx; exact fun h=>q.mf (.inl h.symm)) g8
  have f8:Fr (ziz mb qb p H) w w8:=(zad h1).tr (zaR g8 fun a ha=>by cases ha; exact .inr (.inl rfl))
  refine zbG (by simp [Value.oneCell']) fun w11 o11 e11=>⟨ne,ne,_,((qi8.ext h10).ext e11).slot.cellAt0 (i:=1) rfl,fun w13 h13=>?_⟩
  have sz10:w.heap.size<=w10.heap.size:=Nat.le_trans f8.size h10.size
  have o11:=o11 B (Nat.le_trans hB sz10)
  have t13:=o11.ext h13
  have qi13:=((qi8.ext h10).ext e11).ext h13
  have f13:Fr (ziz mb qb p H) w w13:=((f8.tr (zad h10)).tr (zad e11)).tr (zad h13)
  have hfr:¬ ziz mb qb p H w10.heap.size:=fun h=>by have:=(q.foot h).2; omega
  refine zh1 kq mapq (a:=id) (((m8.ext h10).ext e11).ext h13) fun w14 m14 g14=>⟨ne,ne,fun w15 h15=>?_⟩
  have g14':Fr (fun b=>b=mb) w13 w14:=zaR g14 fun a ha=>by cases ha; rfl
  have qi14:=qi13.fr g14' fun b hb h=>q.mf (h▸hb)
  have t14:=t13.fr g14' fun a ha h=>by cases ha; exact hfr (.inl h)
  rw [zaP]
  refine zfJ (d:=.pointer zem) (by kernel_rfl) (by simp) ⟨Ext.refl _,_,rfl,fun w18 h18=>zfJ (d:=.pointer zal) (by kernel_rfl) (by simp) ⟨Ext.refl _,_,rfl,fun w21 h21=>?_⟩⟩
  have qi21:=((qi14.ext h15).ext h18).ext h21
  have t21:=((t14.ext h15).ext h18).ext h21
  have f21:Fr (ziz mb qb p H) w w21:=(((f13.tr (g14'.mono fun b hb=>.inl hb)).tr (zad h15)).tr (zad h18)).tr (zad h21)
  refine (zxv (t:=⟨w10.heap.size,prio,id,born+1⟩) (j:=0) qi21 q.hp (by omega) (Nat.le_trans hB f21.size) t21 fun h=>hfr (.inr h)).mono fun v w22 ⟨qhv,p',c',Y,qi22,hp,hh,f22,np⟩=>⟨qhv,fun w23 h23=>⟨0,rfl,fun h=>absurd rfl h,fun _=>⟨hnone.1 hs,by omega,w10.heap.size,p',c',Y,QQ.ext ⟨qi22,?_,hh,q.mB,?_⟩ h23,hp,?_,fun k hk=>?_⟩⟩⟩
  · have m21:=((m14.ext h15).ext h18).ext h21
    refine m21.fr f22 ?_
    rintro (h|h|⟨t,ht,h⟩)
    · exact q.mf (.inl h)
    · exact q.mf (.inr (.inl h))
    · rcases List.mem_cons.1 ht with rfl|ht
      · exact hfr (.inl h)
      · exact q.mf (.inr (.inr ⟨t,ht,h⟩))
  · intro h
    rcases zpj (fun u hu=>List.mem_cons.1 (hp.mem_iff.1 hu)) np mb h with h|h
    · rcases h with h|h|⟨t,ht,h⟩
      · exact q.mf (.inl h)
      · exact q.mf (.inr (.inl h))
      · rcases List.mem_cons.1 ht with rfl|ht
        · exact hfr (.inl h)
        · exact q.mf (.inr (.inr ⟨t,ht,h⟩))
    · have:=((m14.ext h15).ext h18 |>.ext h21).lt; omega
  · refine (f21.trans f22 fun b hb=>?_).tr (zad h23)
    rcases hb with h|h|⟨t,ht,h⟩
    · exact .inl (.inr (.inl h))
    · exact .inl (.inr (.inr (.inl h)))
    · rcases List.mem_cons.1 ht with rfl|ht
      · simp only at h; exact .inr (by omega)
      · exact .inl (.inr (.inr (.inr ⟨t,ht,h⟩)))
  · rcases hk with rfl|hk
    · exact .inl (.inl rfl)
    · rcases zpj (fun u hu=>List.mem_cons.1 (hp.mem_iff.1 hu)) np k hk with h|h
      · rcases h with h|h|⟨t,ht,h⟩
        · exact .inl (.inr (.inl h))
        · exact .inl (.inr (.inr (.inl h)))
        · rcases List.mem_cons.1 ht with rfl|ht
          · simp only at h; exact .inr (by omega)
          · exact .inl (.inr (.inr (.inr ⟨t,ht,h⟩)))
      · exact .inr (Nat.le_trans f21.size h)
theorem zKS (q:QQ B w qb mb born p c H m) (hn:H.length<=1000) :
    FnP Tryz.prog za4 #[.pointer (ptr qb)] w fun v w' =>
      (H=[]/\v=.tuple #[.agg #[.int .i64 0,.int .i64 0],.bool false]/\Ext w w') \/
      ∃ t Y,v=.tuple #[.agg #[.int .i64 t.prio,.int .i64 t.id],.bool true]/\QQ B w' qb mb born p c Y (zvb m t.id)/\(t::Y).Perm H/\(∀ u∈H,¬ ahead u t)/\Fr (ziz mb qb p H) w w':=by
  have ne:=zaL qb
  refine zkP (ptr qb) w _ fun b0 hb0=>⟨ne,ne,_,_,_,q.qi.slot.cellAt0 (i:=0) rfl,fun h0 w4 h4=>.inl ⟨List.length_eq_zero_iff.1 (by omega),rfl,h4⟩,fun h0=>⟨ne,ne,fun w4 x4=>?_⟩⟩
  have h4:=zaa x4
  rw [zaP]
  refine zfJ (d:=.pointer zem) (by kernel_rfl) (by simp) ⟨Ext.refl _,_,rfl,fun w7 x7=>?_⟩
  have h7:=zaa x7
  have q7:=(q.ext h4).ext h7
  have lt4:=x4.lt b0 (by simp)
  have nf:∀ k,ziz mb qb p H k->k≠b0:=fun k hk h=>by have:=(q.foot hk).2; omega
  refine (zA4 q7.qi q.hp (by omega) hn).mono fun v w8 ⟨t,j,Y,qhv,q8,hp,hh,hmin,ht,f8⟩=>⟨?_,v,rfl,fun w10 x10=>?_⟩
  · refine f8.kept fun b hb=>?_
    obtain rfl:b=b0:=by simpa using hb
    exact ⟨x7.lt b (by simp),fun h=>nf b (.inr h) rfl⟩
  subst qhv
  have h10:=zaa x10
  have hth:t∈H:=hp.mem_iff.1 (List.mem_cons_self ..)
  have mfY:¬ zjA qb p Y mb:=by
    rintro (h|h|⟨u,hu,h⟩)
    · exact q.mf (.inl h)
    · exact q.mf (.inr (.inl h))
    · exact q.mf (.inr (.inr ⟨u,hp.mem_iff.1 (List.mem_cons_of_mem _ hu),h⟩))
  have tb:t.b≠mb:=fun h=>q.mf (.inr (.inr ⟨t,hth,h⟩))
  have tb0:t.b≠b0:=nf _ (.inr (.inr (.inr ⟨t,hth,rfl⟩)))
  have m10:=(q7.mp.fr f8 q.mf).ext h10
  have net:=zaL t.b
  refine zsh (d:=.pointer zal) (by kernel_rfl) (by simp) ⟨Ext.refl _,_,rfl,ne,ne,_,(q8.ext h10).slot.cellAt0 (i:=1) rfl,net,net,by rw [zaP]; exact net,_,(by rw [zaP]; exact (ht.ext h10).cellAt0 (i:=1) rfl),fun w15 x15=>?_⟩
  have h15:=zaa x15
  have lt15:=x15.lt b0 (by simp)
  refine zBo (ts:=[3]) kq mapq (a:=t.id) (m10.ext h15) fun w16 m16 g16=>?_
  have f16:Fr (fun b=>b=mb) w15 w16:=zaR g16 fun a ha=>by cases ha; rfl
  have q16:=((q8.ext h10).ext h15).fr f16 fun b hb h=>mfY (h▸hb)
  have t16:=((ht.ext h10).ext h15).fr f16 fun a ha h=>by cases ha; exact tb h
  rw [zaP]
  refine ⟨f16.kept fun b hb=>?_,rfl,net,net,net,_,t16.cellAt (i:=0) rfl,_,t16.cellAt (i:=1) rfl,fun w19 x19=>.inr ⟨t,Y,rfl,?_,hp,hmin,?_⟩⟩
  · obtain rfl:b=b0:=by simpa using hb
    exact ⟨lt15,fun h=>nf b (.inl h) rfl⟩
  · have f19:Fr (fun b=>b=b0) w16 w19:=zbP x19 fun d hd=>.inl (by simpa using hd)
    have hY:∀ k,ziz mb qb p Y k->ziz mb qb p H k:=fun k hk=>by
      rcases hk with h|h|h|⟨u,hu,h⟩
      · exact .inl h
      · exact .inr (.inl h)
      · exact .inr (.inr (.inl h))
      · exact .inr (.inr (.inr ⟨u,hp.mem_iff.1 (List.mem_cons_of_mem _ hu),h⟩))
    exact QQ.fr ⟨q16,m16,hh,q.mB,mfY⟩ f19 fun k hk h=>nf k (hY k hk) h
  · have f16':Fr (ziz mb qb p H) w w16:=(((((zad h4).tr (zad h7)).tr (f8.mono fun b hb=>.inr hb)).tr (zad h10)).tr (zad h15)).tr (f16.mono fun b hb=>.inl hb)
    refine f16'.trans (zbP (S:=fun b=>b=b0) x19 fun d hd=>.inl (by simpa using hd)) fun b hb=>.inr (by omega)
end
def Far (n:Nat) (w:World) (X:World->Prop):Prop:=∀ S:Nat->Prop,(∀ b,S b->b<n)->∀ w'',Fr S w w''->X w''
theorem Far.at {n:Nat} {w:World} {X:World->Prop} (h:Far n w X):X w:=h (fun _=>False) (fun _ h=>h.elim) w (Fr.refl _ w)
structure AR where
  t:AT
  p:Option Addr
  c:Nat
abbrev zGp (x:AR):List Value:=zos x.t x.p x.c
theorem zKo {w:World} {t:AT} {q:Option Addr} {d:Nat} {L:List AR} (hm:L.map (·.t)=t.xs) (hle:t.xs.length<=d) (hR:zgt 5 zGp w q L) (hT:∀ x∈L,IsT w x.t x.p x.c):IsT w t q d:=by
  rw [AT.eta t]
  unfold IsT
  refine ⟨hle,IsL.of fun j x hx=>?_⟩
  rw [<- hm,List.getElem?_map] at hx
  obtain ⟨r,hr,rfl⟩:=Option.map_eq_some_iff.1 hx
  exact ⟨r.p,r.c,fun m u hu=>by rw [Nat.zero_add]; exact hR j r hr m u hu,hT r (List.mem_of_getElem? hr)⟩
def AOut (w:World) (t:AT) (v:Value) (w':World):Prop:=Ext w w'/\∃ q d,v=av t q d/\Far w.heap.size w' fun w''=>IsT w'' t q d
theorem zHe:∀ (t:AT) (p:Option Addr) (c:Nat) (w:World),IsT w t p c->zeY t=0->FnP Tryz.prog ze6 #[av t p c] w (AOut w t):=by
  intro t
  induction t using AT.ind with
  |h k key val n xs ih =>
    intro p c w hT hE
    have hEx:=(zgZ hE).2
    have h2:xs.length<=2:=by
      have:=zsM (zgZ hE).1
      have h3:zfT k<=2:=by unfold zfT; split<;>(try split)<;>omega
      show xs.length<=2
      have h4:xs.length=zfT k:=this
      omega
    refine zq0 k key val n p xs.length c w _ fun b0 hb0 b1 hb1=>?_
    refine ⟨fun l ll lc k' w'=>Ext w w'/\0<=k'/\k'<=xs.length/\ll=k'.toNat/\(∀ b∈[b0,b1],∀ y,l=some y->y.block≠b)/\∃ L:List AR,L.map (·.t)=xs.take k'.toNat/\Own w.heap.size w' zdQ 5 l ll lc (L.flatMap zGp) /\
        ∀ x∈L,∀ w'',Fr (fun b=>b<w.heap.size\/b=b0\/b=b1\/∃ a,l=some a/\a.block=b) w' w''->IsT w'' x.t x.p x.c,
      fun _ _ _ k' _=>(xs.length-k').toNat,⟨Ext.refl _,by omega,by omega,rfl,fun b _ y hy=>(by cases hy),[],rfl,Own.nil,fun x hx=>(by cases hx)⟩,?_⟩
    rintro l ll lc k' w5 ⟨x5,hk0,hk1,rfl,hbl,L,hL,oL,hTL⟩
    have hLl:L.length=k'.toNat:=by have:=congrArg List.length hL; rw [List.length_map,List.length_take] at this; omega
    refine ⟨fun hlt=>?_,fun hge w6 x6=>?_⟩
    · have hT5:=hT.ext x5 _ _ _
      obtain ⟨x,p',c',hx,hmem,hIx,a1,a2,g0,g1,g2,g3,g4⟩:=hT5.at hk0 (by exact hlt)
      refine ⟨a1,hk0,hlt,a2,_,g0,_,g1,_,g2,_,g3,_,_,_,g4,fun b13 hb13 w14 x14=>?_⟩
      have h14:=zaa x14
      have hw14:=x5.trans h14
      refine (ih x hmem p' c' w14 (hIx.ext h14 _ _ _) (hEx x hmem)).mono fun v w15 ⟨e15,q,d,hv,hF⟩=>⟨e15,x.k,x.key,x.val,x.n,q,x.xs.length,d,hv,?_⟩
      have h515:=h14.trans e15
      have hw15:=x5.trans h515
      have oL15:=oL.ext h515
      have hns:∀ b∈[b0,b1,b13],∀ y,l=some y->y.block≠b:=fun b hb y hy=>by
        simp only [List.mem_cons,List.not_mem_nil,or_false] at hb
        rcases hb with rfl|rfl|rfl
        · exact hbl _ (by simp) y hy
        · exact hbl _ (by simp) y hy
        · have:=(oL.lt y hy).2; omega
      refine znW (v:=av x q d) zfz (by omega) oL15 hw15.size hns rfl (by intro u hu; simp [Value.cells] at hu; rcases hu with rfl|rfl|rfl|rfl|rfl<;>rfl) (by omega) (by omega) (by omega) fun l' lc' w29 o29 g29 _ hb29=>⟨i64 (by omega),⟨g29.ext hw15 oL15,by omega,by omega,by omega,fun b hb y hy=>hb29 b (by simp at hb ⊢; omega) y hy,L++[⟨x,q,d⟩],?_,?_,?_⟩,by simp only []; omega⟩
      · rw [show (k'+1).toNat=k'.toNat+1 by omega,List.map_append,hL,List.take_add_one]
        have hx':xs[k'.toNat]?=some x:=hx
        rw [hx']; rfl
      · rw [List.flatMap_append]
        simpa [Value.cells,zGp,zos] using o29
      · have step:∀ (w0 w'':World),Ext w0 w15->w0.heap.size<=w15.heap.size->(∀ b,b<w.heap.size\/b=b0\/b=b1\/(∃ a,l=some a/\a.block=b)->True)->Fr (fun b=>b<w.heap.size\/b=b0\/b=b1\/∃ a,l'=some a/\a.block=b) w29 w''->Fr (fun b=>b<w.heap.size\/b=b0\/b=b1\/∃ a,l=some a/\a.block=b) w0 w'':=fun w0 w'' h0 hs _ fw=>by
          have f1:Fr (fun b=>b<w.heap.size\/b=b0\/b=b1\/∃ a,l=some a/\a.block=b) w0 w29:=(zad h0).tr (zaR g29 fun a ha=>.inr (.inr (.inr ⟨a,ha,rfl⟩)))
          refine f1.trans fw fun b hb=>?_
          rcases hb with h|h|h|⟨a2,ha2,hk2⟩
          · exact .inl (.inl h)
          · exact .inl (.inr (.inl h))
          · exact .inl (.inr (.inr (.inl h)))
          rcases g29.new with hn|hn
          · left
            rw [ha2] at hn
            cases hout:l with
            |none => rw [hout] at hn; simp [blk] at hn
            |some y => rw [hout] at hn; simp [blk] at hn; exact .inr (.inr (.inr ⟨y,rfl,by omega⟩))
          · right
            have:=hn a2 ha2
            omega
        intro y hy w'' fw
        rcases List.mem_append.1 hy with hy|hy
        · exact hTL y hy w'' (step w5 w'' h515 h515.size (fun _ _=>trivial) fw)
        · simp at hy; subst hy
          refine hF _ (fun b hb=>?_) w'' (step w15 w'' (Ext.refl _) (Nat.le_refl _) (fun _ _=>trivial) fw)
          rcases hb with h|h|h|⟨a,ha,rfl⟩
          · have:=hw14.size; omega
          · subst h; exact x14.lt _ (by simp)
          · subst h; exact x14.lt _ (by simp)
          · have:=(oL.lt a ha).2; have:=h14.size; omega
    · have hkl:k'.toNat=xs.length:=by omega
      rw [hkl,List.take_length] at hL
      rw [hkl] at oL hLl
      have hx6:Ext w w6:=zaw x6 x5 (by intro d hd; simp at hd; omega)
      have f6:Fr (fun b=>b<w.heap.size\/b=b0\/b=b1\/∃ a,l=some a/\a.block=b) w5 w6:=zbP x6 (fun d hd=>by simp at hd; rcases hd with rfl|rfl<;>simp)
      refine ⟨hx6,l,lc,by rw [hkl]; rfl,fun S hS w'' fw=>?_⟩
      have fall:Fr (fun b=>b<w.heap.size\/b=b0\/b=b1\/∃ a,l=some a/\a.block=b) w5 w'':=f6.tr (fw.mono fun b hb=>.inl (hS b hb))
      have ol6:=(oL.but x6.toBut (fun d hd y hy=>hbl d (by simp at hd ⊢; omega) y hy)).fr fw (fun a ha hs=>by
        have:=hS _ hs
        have:=(oL.lt a ha).1
        omega)
      exact zKo (t:=.mk k key val n xs) hL (by show xs.length<=lc; have:=oL.le; omega) (ol6.recs fun _ _=>rfl) fun x hx=>hTL x hx w'' fall
structure St where
  job:Jb
  what:Int
  host:Int
  since:Int
  again:Int
  tries:Int
structure StR where
  s:St
  pa:Option Addr
  ca:Nat
  pf:Option Addr
  cf:Nat
abbrev zrR (r:StR):List Value:=[.string r.s.job.user,.int .i64 r.s.job.prio,.int .i64 r.s.job.nd.c,.int .i64 r.s.job.nd.m,.int .i64 r.s.job.nd.g,.int .i64 r.s.job.ask.k,.string r.s.job.ask.key,.string r.s.job.ask.val,.int .i64 r.s.job.ask.n,.slice r.pa r.s.job.ask.xs.length r.ca,.slice r.pf r.s.job.aft.length r.cf,
  .int .i64 r.s.what,.int .i64 r.s.host,.int .i64 r.s.since,.int .i64 r.s.again,.int .i64 r.s.tries]
abbrev sv (r:StR):Value:=.agg #[.string r.s.job.user,.int .i64 r.s.job.prio,.int .i64 r.s.job.nd.c,.int .i64 r.s.job.nd.m,.int .i64 r.s.job.nd.g,.int .i64 r.s.job.ask.k,.string r.s.job.ask.key,.string r.s.job.ask.val,.int .i64 r.s.job.ask.n,.slice r.pa r.s.job.ask.xs.length r.ca,.slice r.pf r.s.job.aft.length r.cf,
  .int .i64 r.s.what,.int .i64 r.s.host,.int .i64 r.s.since,.int .i64 r.s.again,.int .i64 r.s.tries]
theorem zzn (r:StR):(zrR r).length=16:=rfl
theorem zzo (r:StR):∀ u∈zrR r,u.oneCell'=true:=by
  intro u hu
  simp only [List.mem_cons,List.not_mem_nil,or_false] at hu
  rcases hu with rfl|rfl|rfl|rfl|rfl|rfl|rfl|rfl|rfl|rfl|rfl|rfl|rfl|rfl|rfl|rfl<;>rfl
theorem zFy (q:Option Addr) (c:Nat) (D:List Int) (h60:D.length<=1000) (w:World) (hD:zdP .i64 w q D) :
    FnP Tryz.prog zcA #[.slice q D.length c] w fun v w'=>Ext w w'/\∃ p' c',v=.slice p' D.length c'/\Own w.heap.size w' zd8 1 p' D.length c' (D.map (.int .i64)):=by
  refine zhW q D.length c w _ ⟨fun hn w0 h0=>?_,fun hn=>?_⟩
  · cases D with
    |nil => exact ⟨h0,none,0,rfl,Own.nil⟩
    |cons x r => exact absurd hn fun hq => zai (zdP.idx hD (i:=0) (by omega) (by simp)) (zah.2 hq)
  · exact zpa (Q:=fun v w'=>Ext w w'/\∃ p' c',v=.slice p' D.length c'/\Own w.heap.size w' zd8 1 p' D.length c' (D.map (.int .i64))) zds (by omega) hD (by simp) (by intro u hu; simp at hu; obtain ⟨x,_,rfl⟩:=hu; rfl) (by omega) (by omega) hn fun p' c' w' hx o=>⟨hx,p',c',rfl,o⟩
def SOut (w:World) (s:St) (v:Value) (w':World):Prop:=Ext w w'/\∃ r:StR,v=sv r/\r.s=s/\Far w.heap.size w' fun w''=>IsJ w'' s.job r.pa r.ca r.pf
theorem zD3 (r:StR) (w:World) (hJ:IsJ w r.s.job r.pa r.ca r.pf) (hE:zeY r.s.job.ask=0) (h8:r.s.job.aft.length<=8):FnP Tryz.prog zjy #[sv r] w (SOut w r.s):=by
  refine zxW r.s.job.user r.s.job.prio r.s.job.nd.c r.s.job.nd.m r.s.job.nd.g r.s.job.ask.k r.s.job.ask.key r.s.job.ask.val r.s.job.ask.n r.pa r.s.job.ask.xs.length r.ca r.pf r.s.job.aft.length r.cf r.s.what r.s.host r.s.since r.s.again r.s.tries w _ fun b0 hb0 b1 hb1 w2 x2=>?_
  have h2:=zaa x2
  refine (zFy r.pf r.cf r.s.job.aft (by omega) w2 (hJ.2.ext h2)).mono fun v w3 ⟨e3,pf,cf,hv,oF⟩=>⟨e3,pf,_,cf,hv,fun w7 x7=>?_⟩
  have h7:Ext w w7:=zaw x7 (h2.trans e3) (by intro d hd; simp at hd; omega)
  have oF7:=oF.but x7.toBut (fun d hd y hy=>by simp at hd; subst hd; have:=(oF.lt y hy).1; have:=x2.lt d (by simp); omega)
  refine (zHe r.s.job.ask r.pa r.ca w7 (hJ.1.ext h7 _ _ _) hE).mono fun v w8 ⟨e8,pa,ca,hv,hF⟩=>⟨e8,_,_,_,_,pa,_,ca,hv,fun w16 x16=>?_⟩
  have h16:Ext w w16:=zaw x16 (h7.trans e8) (by intro d hd; simp at hd; omega)
  refine ⟨h16,⟨r.s,pa,ca,pf,cf⟩,rfl,rfl,fun S hS w'' fw=>?_⟩
  have f816:Fr (fun b=>b=b0\/b=b1) w8 w16:=zbP x16 (fun d hd=>by simp at hd; rcases hd with rfl|rfl<;>simp)
  have fall:Fr (fun b=>b<w.heap.size\/b=b0\/b=b1) w8 w'':=(f816.mono fun b hb=>.inr hb).tr (fw.mono fun b hb=>.inl (hS b hb))
  have hb0':b0<w2.heap.size:=x2.lt b0 (by simp)
  have hb1':b1<w2.heap.size:=x2.lt b1 (by simp)
  have h27:w2.heap.size<=w7.heap.size:=Nat.le_trans e3.size x7.size
  refine ⟨hF _ (fun b hb=>?_) w'' fall,?_⟩
  · rcases hb with h|rfl|rfl
    · have:=h2.size; omega
    · omega
    · omega
  · exact ((oF7.ext e8).fr fall (fun a ha hs=>by
      have:=(oF.lt a ha).1
      have:=h2.size
      omega)).cells
theorem zIJ (p:Option Addr) (c:Nat) (L:List Ht) (h30:L.length<=30) (h8:∀ h∈L,h.labels.length<=8) (w:World) (hL:zjT w p L) :
    FnP Tryz.prog zdL #[.slice p L.length c] w fun v w'=>Ext w w'/\∃ p' c',∃ M:List Hm,v=.slice p' L.length c'/\M.map (·.h)=L/\Own w.heap.size w' zdR 8 p' L.length c' (M.flatMap zjG)/\(∀ m∈M,LbA w' p' m)/\∀ m∈M,LbN w.heap.size m:=by
  refine zn8 p L.length c w _ fun w0 h0=>?_
  obtain ⟨M0,hM0,hR0,hl0⟩:=hs_ms (hL.ext h0)
  have hlen0:M0.length=L.length:=by rw [<- hM0]; simp
  rw [<- hlen0]
  refine (zsp p c M0 (by omega) w0 hR0).mono fun v w1 ⟨e1,p',c',hv,o1⟩=>⟨e1,p',M0.length,c',hv,?_⟩
  have lt0:∀ m∈M0,LbA w1 p' m:=fun m hm=>⟨(hl0 m hm).ext e1,by
    cases hlb:m.h.labels with
    |nil => exact .inl rfl
    |cons x r =>
      refine .inr fun a b ha hb=>?_
      have:=(hl0 m hm).lt (x:=x) (by rw [hlb]; exact List.mem_cons_self ..) (by simp) a ha
      have:=(o1.lt b hb).1
      omega⟩
  refine ⟨fun k w'=>Ext w w'/\0<=k/\k<=M0.length/\∃ M:List Hm,M.map (·.h)=L/\Own w0.heap.size w' zdR 8 p' M0.length c' (M.flatMap zjG)/\(∀ m∈M,LbA w' p' m)/\∀ j,j<k.toNat->∀ m,M[j]?=some m->LbN w.heap.size m,fun k _=>(M0.length-k).toNat,⟨h0.trans e1,by omega,by omega,M0,hM0,o1,lt0,fun j hj=>by simp at hj⟩,?_⟩
  rintro k w7 ⟨x7,hk0,hk1,M,hM,o7,hA7,hN7⟩
  have hlen:M.length=M0.length:=by rw [hlen0,<- hM]; simp
  refine ⟨fun hlt=>?_,fun hge w8 h8=>⟨x7.trans h8,p',c',M,rfl,hM,(o7.ext h8).weak h0.size,fun m hm=>⟨(hA7 m hm).1.ext h8,(hA7 m hm).2⟩,fun m hm=>by
    obtain ⟨j,hj⟩:=List.mem_iff_getElem?.1 hm
    have hjl:=(List.getElem?_eq_some_iff.1 hj).1
    exact hN7 j (by omega) m hj⟩⟩
  have r7:zgt 8 zjG w7 p' M:=o7.recs fun _ _=>rfl
  have g:=r7.idx default hk0 (by omega) (j:=1) rfl
  have hp':=o7.ne1 (by omega) (by omega)
  have hm:=zap M default (i:=k.toNat) (by omega)
  generalize hmd:M.getD k.toNat default=m at g hm
  have hml:m.h∈L:=by rw [<- hM]; exact List.mem_map_of_mem hm
  refine ⟨hp',hk0,hlt,fun hq=>hp' (zah.1 hq),m.q,m.h.labels.length,m.d,by rw [zam]; exact g,fun w11 h11=>?_⟩
  refine (zyP m.q m.d m.h.labels (h8 _ hml) w11 ((hA7 m hm).1.ext h11)).mono fun v w12 ⟨e12,q',d',hv,hl',hn'⟩=>⟨e12,q',_,d',hv,hp',hk0,hlt,fun hq=>hp' (zah.1 hq),?_⟩
  have x12:=h11.trans e12
  have o12:=o7.ext x12
  refine zaZ o12 zoF (by rw [zfd zge]; simp; omega) (by simp) (by intro v hv; simp at hv; subst hv; rfl) (by simp) fun w16 o16 g16=>?_
  rw [zlV zge M k.toNat 1 [.slice q' m.h.labels.length d'] ⟨m.h,q',d'⟩ default (by omega) (by simp) (by rw [hmd]; rfl)] at o16
  have hmap:(M.set k.toNat ⟨m.h,q',d'⟩).map (·.h)=L:=by
    rw [List.map_set,hM]
    have hk:k.toNat<L.length:=by omega
    have:L[k.toNat]=m.h:=by
      have h1:(M.map (·.h)).getD k.toNat default=m.h:=by
        rw [<- hmd,List.getD_eq_getElem?_getD,List.getD_eq_getElem?_getD,List.getElem?_map,List.getElem?_eq_getElem (by omega:k.toNat<M.length)]; rfl
      rw [hM] at h1
      simpa [List.getD_eq_getElem?_getD,hk] using h1
    rw [<- this,List.set_getElem_self]
  refine ⟨i64 (by omega),⟨?_,by omega,by omega,_,hmap,o16,fun m' hm'=>?_,fun j hj m' hm'=>?_⟩,by simp only []; omega⟩
  · exact g16.ext (x7.trans x12) (o12.weak (by have:=h0.size; omega))
  · rcases List.mem_or_eq_of_mem_set hm' with hm'|rfl
    · exact ⟨zjJ ((hA7 m' hm').1.ext x12) (hA7 m' hm').2 g16,(hA7 m' hm').2⟩
    · have ha:zbK q' p':=fun a b ha hb=>by
        have:=hn' a ha
        have:=(o7.lt b hb).2
        have:=h11.size
        omega
      exact ⟨zjJ hl' (.inr ha) g16,.inr ha⟩
  · by_cases hjk:j=k.toNat
    · subst hjk
      rw [List.getElem?_set_self (by omega)] at hm'
      obtain rfl:=Option.some.inj hm'
      exact .inr fun a ha=>(by have:=hn' a ha; have:=x7.size; have:=h11.size; omega)
    · rw [List.getElem?_set_ne (by omega)] at hm'
      exact hN7 j (by omega) m' hm'
theorem zhG:zfW Tryz.prog zAE=some (ziT,16,184,.agg #[.string ⟨#[]⟩,.int .i64 0,.int .i64 0,.int .i64 0,.int .i64 0,.int .i64 0,.string ⟨#[]⟩,.string ⟨#[]⟩,.int .i64 0,.slice none 0 0,.slice none 0 0,.int .i64 0,.int .i64 0,.int .i64 0,.int .i64 0,.int .i64 0]):=by kernel_rfl
structure Pol where
  first:Int
  times:Int
  most:Int
  tries:Int
structure Fm where
  hosts:List Ht
  pol:Pol
  now:Int
  jobs:List St
structure Pl where
  hp:Option Addr
  hc:Nat
  jp:Option Addr
  jc:Nat
  R:List StR
instance:Inhabited St:=⟨⟨zdw,0,0,0,0,0⟩⟩
instance:Inhabited StR:=⟨⟨default,none,0,none,0⟩⟩
def ft (fb:Nat) (jp:Option Addr) (b:Nat):Prop:=b=fb\/∃ a,jp=some a/\a.block=b
def ftO (O:Nat->Prop) (fb:Nat) (jp:Option Addr) (b:Nat):Prop:=O b\/ft fb jp b
abbrev fcs (P:Pl) (F:Fm):List Value:=[.slice P.hp F.hosts.length P.hc,.int .i64 F.pol.first,.int .i64 F.pol.times,.int .i64 F.pol.most,.int .i64 F.pol.tries,.int .i64 F.now,.slice P.jp P.R.length P.jc]
structure FXO (O:Nat->Prop) (B:Nat) (w:World) (fb:Nat) (P:Pl) (F:Fm):Prop where
  slot:Own B w zdq 7 (ptr fb) 1 1 (fcs P F)
  arr:Own B w ziT 16 P.jp P.R.length P.jc (P.R.flatMap zrR)
  map:P.R.map (·.s)=F.jobs
  hs:∀ w'',Fr (ftO O fb P.jp) w w''->zjT w'' P.hp F.hosts
  js:∀ r∈P.R,∀ w'',Fr (ftO O fb P.jp) w w''->IsJ w'' r.s.job r.pa r.ca r.pf
  ap:∀ a,P.jp=some a->a.block≠fb
  hO:F.hosts.length<=30/\∀ h∈F.hosts,zwC h
  jO:F.jobs.length<=60/\∀ s∈F.jobs,okJ s.job/\WfJ s.job
  olt:∀ b,O b->b<w.heap.size
  odis:∀ b,O b->¬ ft fb P.jp b
abbrev FX (B:Nat):=FXO (fun b=>b<B) B
section
variable {O:Nat->Prop} {B fb:Nat} {w:World} {P:Pl} {F:Fm}
theorem FXO.len (x:FXO O B w fb P F):P.R.length=F.jobs.length:=by have:=congrArg List.length x.map; simpa using this
theorem FXO.foot (x:FXO O B w fb P F) {b:Nat} (h:ft fb P.jp b):B<=b/\b<w.heap.size:=by
  rcases h with rfl|⟨a,ha,rfl⟩
  · exact x.slot.lt _ rfl
  · exact x.arr.lt a ha
theorem FXO.fr {S:Nat->Prop} {w':World} (x:FXO O B w fb P F) (f:Fr S w w') (hS:∀ b,S b->O b):FXO O B w' fb P F :=
  ⟨x.slot.fr f fun a ha hs=>x.odis _ (hS _ hs) (.inl (by cases ha; rfl)),x.arr.fr f fun a ha hs=>x.odis _ (hS _ hs) (.inr ⟨a,ha,rfl⟩),x.map,
    fun w'' k=>x.hs w'' ((f.mono fun b hb=>.inl (hS b hb)).tr k),fun r hr w'' k=>x.js r hr w'' ((f.mono fun b hb=>.inl (hS b hb)).tr k),x.ap,x.hO,x.jO,fun b hb=>Nat.lt_of_lt_of_le (x.olt b hb) f.size,x.odis⟩
theorem FXO.ext {w':World} (x:FXO O B w fb P F) (e:Ext w w'):FXO O B w' fb P F:=x.fr (zad (S:=fun _=>False) e) fun _ h=>h.elim
theorem FXO.recs (x:FXO O B w fb P F):zgt 16 zrR w P.jp P.R:=x.arr.recs fun _ _=>rfl
theorem FXO.cell (x:FXO O B w fb P F) {i:Nat} {v:Value} (h:(fcs P F)[i]?=some v):Go.Sx.cell w (pAdd (ptr fb) i) 0=some v:=by rw [zam]; exact x.slot.cells i v h
theorem FXO.st (x:FXO O B w fb P F) {k:Int} (h0:0<=k) (h1:k<F.jobs.length):∃ r,P.R[k.toNat]?=some r/\F.jobs[k.toNat]?=some r.s/\P.jp≠none/\pIdx P.jp k 16≠none/\(∀ (m:Nat) u,(zrR r)[m]?=some u->Go.Sx.cell w (pIdx P.jp k 16) m=some u)/\(∀ (m:Nat) u,(zrR r)[m]?=some u->Go.Sx.cell w (pAdd (pIdx P.jp k 16) m) 0=some u)/\IsJ w r.s.job r.pa r.ca r.pf/\okJ r.s.job/\WfJ r.s.job:=by
  have hl:=x.len
  obtain ⟨r,hr⟩:∃ r,P.R[k.toNat]?=some r:=⟨_,List.getElem?_eq_getElem (by omega)⟩
  have hm:=List.mem_of_getElem? hr
  have g:∀ (m:Nat) u,(zrR r)[m]?=some u->Go.Sx.cell w (pIdx P.jp k 16) m=some u:=fun m u hu=>x.recs.at h0 hr hu
  have g0:=g 0 _ rfl
  have hF:F.jobs[k.toNat]?=some r.s:=by rw [<- x.map,List.getElem?_map,hr]; rfl
  have hj:=x.jO.2 r.s (List.mem_of_getElem? hF)
  exact ⟨r,hr,hF,fun h=>zai g0 (zah.2 h),zai g0,g,fun m u hu=>by rw [zam]; exact g m u hu,x.js r hm w (Fr.refl _ w),hj.1,hj.2⟩
theorem FXO.slot_to {w':World} {F':Fm} {P':Pl} (x:FXO O B w fb P F) (o:Own B w' zdq 7 (ptr fb) 1 1 (fcs P' F')) (g:zco w w' (ptr fb) (ptr fb)) (hj:F'.jobs=F.jobs) (hR:P'.R=P.R) (hjp:P'.jp=P.jp) (hjc:P'.jc=P.jc)
    (hs:∀ w'',Fr (ftO O fb P.jp) w' w''->zjT w'' P'.hp F'.hosts) (hO:F'.hosts.length<=30/\∀ h∈F'.hosts,zwC h):FXO O B w' fb P' F'/\Fr (ft fb P.jp) w w':=by
  have f:Fr (ft fb P.jp) w w':=zaR g fun a ha=>by cases ha; exact .inl rfl
  refine ⟨⟨o,?_,by rw [hR,hj]; exact x.map,by rw [hjp]; exact hs,fun r hr w'' k=>?_,by rw [hjp]; exact x.ap,hO,by rw [hj]; exact x.jO,fun b hb=>Nat.lt_of_lt_of_le (x.olt b hb) f.size,by rw [hjp]; exact x.odis⟩,f⟩
  · rw [hjp,hR,hjc]
    exact x.arr.st (fun u v hu hv=>by cases hv; exact x.ap u hu) g
  · rw [hR] at hr
    rw [hjp] at k
    exact x.js r hr w'' ((f.mono fun b hb=>.inr hb).tr k)
def zhb (m:Nat) (v:Int) (s:St):St:=match m with
  |11 => { s with what:=v }
  |12 => { s with host:=v }
  |13 => { s with since:=v }
  |14 => { s with again:=v }
  |_ => { s with tries:=v }
def setF (F:Fm) (k:Nat) (s:St):Fm:={ F with jobs:=F.jobs.set k s }
def setP (P:Pl) (k:Nat) (s:St):Pl:={ P with R:=P.R.set k { P.R.getD k default with s:=s } }
theorem zlZ (m:Nat) (v:Int) (s:St):(zhb m v s).job=s.job:=by unfold zhb; split<;>rfl
theorem FXO.set (x:FXO O B w fb P F) {k:Int} (h0:0<=k) (h1:k<F.jobs.length) {m:Nat} (hm:11<=m/\m<=15) (v:Int) {ns:List Nat} (hns:∀ b∈ns,¬ ft fb P.jp b) {K:World->Prop}
    (hk:∀ w',FXO O B w' fb (setP P k.toNat (zhb m v (F.jobs.getD k.toNat default))) (setF F k.toNat (zhb m v (F.jobs.getD k.toNat default)))->Fr (ft fb P.jp) w w'->K w'):zao w (pAdd (pIdx P.jp k 16) m) [.int .i64 v] ns K:=by
  have hl:=x.len
  have hg:(P.R.getD k.toNat default).s=F.jobs.getD k.toNat default:=by
    rw [<- x.map,List.getD_eq_getElem?_getD,List.getD_eq_getElem?_getD,List.getElem?_map,List.getElem?_eq_getElem (by omega:k.toNat<P.R.length)]; rfl
  refine zaZ x.arr zoF (by rw [zfd zzn]; simp; omega) (by simp) (by intro u hu; simp at hu; subst hu; rfl) (fun b hb y hy he=>hns b hb (.inr ⟨y,hy,he⟩)) fun w' o g=>?_
  have f:Fr (ft fb P.jp) w w':=zaR g fun a ha=>.inr ⟨a,ha,rfl⟩
  refine hk w' ⟨?_,?_,?_,fun w'' kf=>?_,fun r hr w'' kf=>?_,x.ap,x.hO,?_,fun b hb=>Nat.lt_of_lt_of_le (x.olt b hb) f.size,x.odis⟩ f
  · have:=x.slot.st (fun u y hu hy=>by cases hu; exact fun h=>x.ap y hy h.symm) g
    show Own B w' zdq 7 (ptr fb) 1 1 [_,_,_,_,_,_,.slice P.jp (P.R.set _ _).length P.jc]
    rw [List.length_set]
    exact this
  · rw [zlV zzn P.R k.toNat m [.int .i64 v] { P.R.getD k.toNat default with s:=zhb m v (F.jobs.getD k.toNat default) } default (by omega) (by simp; omega) (by
      rw [<- hg]
      have:m=11\/m=12\/m=13\/m=14\/m=15:=by omega
      rcases this with rfl|rfl|rfl|rfl|rfl<;>rfl)] at o
    show Own B w' ziT 16 P.jp (P.R.set _ _).length P.jc _
    rw [List.length_set]
    exact o
  · show (P.R.set _ _).map (·.s)=F.jobs.set _ _
    rw [List.map_set,x.map]
  · exact x.hs w'' ((f.mono fun b hb=>.inr hb).tr kf)
  · have hr:r∈P.R.set k.toNat { P.R.getD k.toNat default with s:=zhb m v (F.jobs.getD k.toNat default) }:=hr
    rcases List.mem_or_eq_of_mem_set hr with hr|rfl
    · exact x.js r hr w'' ((f.mono fun b hb=>.inr hb).tr kf)
    · have:=x.js _ (zap P.R default (i:=k.toNat) (by omega)) w'' ((f.mono fun b hb=>.inr hb).tr kf)
      rw [hg] at this
      show IsJ w'' (zhb m v (F.jobs.getD k.toNat default)).job _ _ _
      rw [zlZ]
      exact this
  · refine ⟨by show (F.jobs.set _ _).length<=60; rw [List.length_set]; exact x.jO.1,fun s hs=>?_⟩
    have hs:s∈F.jobs.set k.toNat (zhb m v (F.jobs.getD k.toNat default)):=hs
    rcases List.mem_or_eq_of_mem_set hs with hs|rfl
    · exact x.jO.2 s hs
    · rw [zlZ]
      exact x.jO.2 _ (zap F.jobs default (i:=k.toNat) (by omega))
theorem zFS (x:FXO O B w fb P F) (id:Int) (hid:InR .i64 id):FnP Tryz.prog zbe #[.pointer (ptr fb),.int .i64 id] w fun v w'=>Ext w w'/\((¬ (1<=id/\id<=F.jobs.length)/\v=.pointer none)\/(1<=id/\id<=F.jobs.length/\v=.pointer (pIdx P.jp (id-1) 16))):=by
  have hl:=x.len
  have hj:=x.jO.1
  have ne:=zaL fb
  refine zpU (ptr fb) id w _ ⟨fun _=>ne,fun _=>ne,fun h w0 h0=>⟨h0,.inl ⟨by omega,rfl⟩⟩,fun h=>⟨_,_,_,x.cell (i:=6) rfl,fun h2 w3 h3=>⟨h3,.inl ⟨by omega,rfl⟩⟩,fun h2=>⟨ne,ne,_,_,_,x.cell (i:=6) rfl,i64 (by omega),?_,by omega,by omega,fun w6 h6=>⟨h6,.inr ⟨h,by omega,rfl⟩⟩⟩⟩⟩
  obtain ⟨r,_,_,hp,_⟩:=x.st (k:=id-1) (by omega) (by omega)
  exact hp
def zld (F:Fm):Prop:=∀ (i:Nat) s,F.jobs[i]?=some s->∀ y∈s.job.aft,1<=y/\y<=i
def za1 (F:Fm) (id:Int):Int:=(F.jobs.getD (id-1).toNat default).what
theorem zmt (x:FXO O B w fb P F) {id:Int} (h:1<=id/\id<=F.jobs.length) {w':World} (e:Ext w w'):∃ q,pIdx P.jp (id-1) 16=q/\q≠none/\Go.Sx.cell w' (pAdd q 11) 0=some (.int .i64 (za1 F id)):=by
  obtain ⟨r,hr,hF,_,hne,_,g,_⟩:=(x.ext e).st (k:=id-1) (by omega) (by omega)
  refine ⟨_,rfl,hne,?_⟩
  have:=g 11 _ rfl
  unfold za1
  rw [List.getD_eq_getElem?_getD,hF]
  exact this
theorem zHm (x:FXO O B w fb P F) {p1:Option Addr} (hc:Go.Sx.cell w p1 0=some (.pointer (ptr fb))) {id:Int} (h:1<=id/\id<=F.jobs.length):FnP Tryz.prog zdn #[.int .i64 id,.pointer p1] w fun v w'=>Ext w w'/\v=.bool (decide (za1 F id≠3)):=by
  have hj:=x.jO.1
  refine zjY id p1 w _ ⟨_,hc,fun w1 h1=>(zFS (x.ext h1) id (i64 (by omega))).mono fun v w2 ⟨e2,hv⟩=>?_⟩
  rcases hv with ⟨hno,_⟩|⟨_,_,rfl⟩
  · exact absurd h hno
  · obtain ⟨q,hq,hne,hg⟩:=zmt x h (h1.trans e2)
    exact ⟨e2,_,rfl,by rw [hq]; exact hne,by rw [hq]; exact hne,_,by rw [hq]; exact hg,fun w5 h5=>⟨(h1.trans e2).trans h5,rfl⟩⟩
theorem zKC (x:FXO O B w fb P F) {p1:Option Addr} (hc:Go.Sx.cell w p1 0=some (.pointer (ptr fb))) {id:Int} (h:1<=id/\id<=F.jobs.length):FnP Tryz.prog zdK #[.int .i64 id,.pointer p1] w fun v w'=>Ext w w'/\v=.bool (decide (za1 F id=4)||decide (za1 F id=5)):=by
  have hj:=x.jO.1
  refine zkO id p1 w _ ⟨_,hc,fun w1 h1=>(zFS (x.ext h1) id (i64 (by omega))).mono fun v w2 ⟨e2,hv⟩=>?_⟩
  rcases hv with ⟨hno,_⟩|⟨_,_,rfl⟩
  · exact absurd h hno
  · obtain ⟨q,hq,hne,hg⟩:=zmt x h (h1.trans e2)
    exact ⟨e2,_,rfl,by rw [hq]; exact hne,by rw [hq]; exact hne,_,by rw [hq]; exact hg,fun w5 h5=>⟨(h1.trans e2).trans h5,rfl⟩⟩
def zdD (F:Fm) (s:St):Bool:=decide (s.what=1)&&decide (s.again<=F.now)&&s.job.aft.all fun y=>decide (za1 F y=3)
theorem zKT (x:FXO O B w fb P F) (ha:zld F) {k:Int} (h0:0<=k) (h1:k<F.jobs.length):FnP Tryz.prog zef #[.pointer (ptr fb),.pointer (pIdx P.jp k 16)] w fun v w'=>Ext w w'/\v=.bool (zdD F (F.jobs.getD k.toNat default)):=by
  refine zlQ (ptr fb) (pIdx P.jp k 16) w _ fun w0 e0=>zbG (by simp [Value.oneCell']) fun w1 o1 e1=>?_
  have e01:=e0.trans e1
  have x1:=x.ext e01
  obtain ⟨r,hr,hF,_,hne,_,g,hJ,hok,hwf⟩:=x1.st h0 h1
  have hg:F.jobs.getD k.toNat default=r.s:=by rw [List.getD_eq_getElem?_getD,hF]; rfl
  rw [hg]
  have c1:Go.Sx.cell w1 (some ⟨w0.heap.size,0,none⟩) 0=some (.pointer (ptr fb)):=(o1 0 (Nat.zero_le _)).cells 0 _ rfl
  have ne:=zaL fb
  refine ⟨hne,hne,_,g 11 _ rfl,fun _=>hne,fun _=>hne,fun hw=>⟨_,g 14 _ rfl,_,c1,ne,ne,_,x1.cell (i:=5) rfl,fun _=>hne,fun _=>hne,fun _=>by rw [zaP]; exact hne,fun hn=>⟨_,_,_,by rw [zaP]; exact g 10 _ rfl,fun w9 h9=>?_⟩,fun hn w6 h6=>⟨e01.trans h6,?_⟩⟩,fun hw w3 h3=>⟨e01.trans h3,?_⟩⟩
  · have hin:∀ y∈r.s.job.aft,1<=y/\y<=F.jobs.length:=fun y hy=>by have:=ha _ _ hF y hy; omega
    have hlen:=hok.len
    refine (zoU r.pf r.cf r.s.job.aft (by omega) _ (fun y=>decide (za1 F y≠3)) w9 (hJ.2.ext h9) fun y hy w' hw'=>⟨zdn,#[.pointer (some ⟨w0.heap.size,0,none⟩)],rfl,zHm (x1.ext (h9.trans hw')) (zaD (h9.trans hw') c1) (hin y hy)⟩).mono fun v w10 ⟨e10,b,hv,hb⟩=>⟨e10,b,hv,fun w12 h12=>⟨e01.trans h12,?_⟩⟩
    unfold zdD
    have h1:decide (r.s.what=1)=true:=decide_eq_true hw
    have h2:decide (r.s.again<=F.now)=true:=decide_eq_true hn
    rw [h1,h2]
    simp only [Bool.true_and]
    congr 1
    cases b with
    |true =>
      obtain ⟨y,hy,h3⟩:=hb.1 rfl
      have:(r.s.job.aft.all fun y=>decide (za1 F y=3))=false:=by
        rw [List.all_eq_false]
        exact ⟨y,hy,by simpa using h3⟩
      rw [this]; rfl
    |false =>
      have:(r.s.job.aft.all fun y=>decide (za1 F y=3))=true:=by
        rw [List.all_eq_true]
        intro y hy
        by_cases h:za1 F y=3
        · simp [h]
        · exact absurd (hb.2 ⟨y,hy,by simpa using h⟩) (by simp)
      rw [this]; rfl
  · unfold zdD
    have:decide (r.s.again<=F.now)=false:=decide_eq_false (by omega)
    rw [this]; simp
  · unfold zdD
    have:decide (r.s.what=1)=false:=decide_eq_false hw
    rw [this]; simp
end
def okP (p0 p1 p2 p3:Int):Prop:=1<=p0/\p0<=1000000000/\1<=p1/\p1<=10/\p0<=p2/\p2<=1000000000/\0<=p3/\p3<=50
def dl (p0 p1 p2:Int):Nat->Int
  |0 => p0
  |k+1 => min (dl p0 p1 p2 k*p1) p2
theorem zIB {a b:Int} (ha:0<=a) (hb:1<=b):a<=a*b:=by
  have:=Int.mul_le_mul_of_nonneg_left hb ha
  omega
theorem zG2 {a b:Int} (ha:0<=a) (hb:b<=10):a*b<=a*10:=Int.mul_le_mul_of_nonneg_left hb ha
theorem zlj {p0 p1 p2 p3:Int} (h:okP p0 p1 p2 p3):∀ k,p0<=dl p0 p1 p2 k/\dl p0 p1 p2 k<=p2
  |0 => by unfold okP at h; simp only [dl]; omega
  |k+1 => by
    have ih:=zlj h k
    unfold okP at h
    have:=zIB (a:=dl p0 p1 p2 k) (b:=p1) (by omega) (by omega)
    simp only [dl]
    omega
theorem zxy {x:Int} (h:-9223372036854775808<=x/\x<=9223372036854775807):InR .i64 x:=h
theorem zhK {x:Int} (h:InR .i64 x):-9223372036854775808<=x/\x<=9223372036854775807:=h
theorem zz0 (p0 p1 p2 p3:Int) (w:World):FnP Tryz.prog zdM #[.agg #[.int .i64 p0,.int .i64 p1,.int .i64 p2,.int .i64 p3]] w fun v w'=>Ext w w'/\∃ e,v=.int .i64 e/\(okP p0 p1 p2 p3->e=0)/\(¬ okP p0 p1 p2 p3->e=4):=by
  refine zrb _ _ _ _ w _ ?_
  intro b0 hb
  refine ⟨fun h w1 he=>⟨he,4,rfl,fun hk=>?_,fun _=>rfl⟩,fun h w1 he=>⟨he,0,rfl,fun _=>rfl,fun hn=>?_⟩⟩<;>unfold okP at *<;>omega
def errD (p0 p1 p2 p3 n e:Int):Prop:=(¬ okP p0 p1 p2 p3->e=4)/\(okP p0 p1 p2 p3->(n<1\/p3<n)->e=5)/\(okP p0 p1 p2 p3->(1<=n/\n<=p3)->e=0)
theorem zJJ (p0 p1 p2 p3 n:Int) (hn:InR .i64 n) (w:World):FnP Tryz.prog zdN #[.agg #[.int .i64 p0,.int .i64 p1,.int .i64 p2,.int .i64 p3],.int .i64 n] w fun v w' =>
    Ext w w'/\∃ a e,v=.tuple #[.int .i64 a,.int .i64 e]/\errD p0 p1 p2 p3 n e/\(e≠0->a=0)/\(e=0->a=dl p0 p1 p2 (n-1).toNat):=by
  refine zrc _ _ _ _ _ w _ ?_
  have hn:=zhK hn
  intro b0 hb w1 h1
  refine (zz0 _ _ _ _ w1).mono fun v w2 ⟨h2,e,he,ho,hno⟩=>⟨h2,e,he,fun hne w4 h4=>⟨h4,0,e,rfl,?_,fun _=>rfl,fun h0=>absurd h0 hne⟩,fun he0=>?_⟩
  · have:¬ okP p0 p1 p2 p3:=fun h=>hne (ho h)
    exact ⟨hno,fun h=>absurd h this,fun h=>absurd h this⟩
  · have hok:okP p0 p1 p2 p3:=by
      by_cases h:okP p0 p1 p2 p3
      · exact h
      · have:=hno h; omega
    refine ⟨fun hr w4 h4=>⟨h4,0,5,rfl,⟨fun h=>absurd hok h,fun _ _=>rfl,fun _ h=>by omega⟩,fun _=>rfl,fun h=>by omega⟩,fun hr=>⟨zxy (by omega),?_⟩⟩
    refine ⟨fun d k w'=>Ext w w'/\0<=k/\k<=n-1/\d=dl p0 p1 p2 k.toNat,fun d k _=>(n-1-k).toNat,⟨Ext.refl w,by omega,by omega,rfl⟩,?_⟩
    rintro d k w7 ⟨hw,hk0,hk1,rfl⟩
    have hd:=zlj hok k.toNat
    have hm1:=zG2 (a:=dl p0 p1 p2 k.toNat) (b:=p1) (by unfold okP at hok; omega) (by unfold okP at hok; omega)
    have hm2:=zIB (a:=dl p0 p1 p2 k.toNat) (b:=p1) (by unfold okP at hok; omega) (by unfold okP at hok; omega)
    unfold okP at hok
    refine ⟨fun hlt=>⟨zxy (by omega),zxy (by omega),⟨hw,by omega,by omega,?_⟩,by simp only []; omega⟩,fun hge w8 h8=>⟨hw.trans h8,_,0,rfl,⟨fun h=>absurd hok h,fun _ h=>by omega,fun _ _=>rfl⟩,fun h=>absurd rfl h,fun _=>?_⟩⟩
    · rw [show (k+1).toNat=k.toNat+1 by omega]; rfl
    · rw [show k=n-1 by omega]
abbrev zmP (p:Pol):Prop:=okP p.first p.times p.most p.tries
def zli (p:Pol) (n:Int):Int:=dl p.first p.times p.most (n-1).toNat
def stF (F:Fm) (k m:Nat) (v:Int):Fm:=setF F k (zhb m v (F.jobs.getD k default))
def zac (F:Fm) (k:Nat):St:=F.jobs.getD k default
theorem zbN (F:Fm) (k m:Nat) (v:Int):(stF F k m v).jobs.length=F.jobs.length:=by simp [stF,setF]
theorem zjQ (F:Fm) (k m:Nat) (v:Int):(stF F k m v).hosts=F.hosts:=rfl
theorem zj1 (F:Fm) {k m:Nat} (v:Int) (hk:k<F.jobs.length) (i:Nat):zac (stF F k m v) i=if i=k then zhb m v (zac F k) else zac F i:=by
  unfold zac stF setF
  simp only [List.getD_eq_getElem?_getD,List.getElem?_set]
  by_cases h:k=i
  · subst h; simp [hk]
  · have h':¬ i=k:=fun h2=>h h2.symm
    simp [h,h']
theorem ztI (F:Fm) {k m:Nat} (v:Int) (hk:k<F.jobs.length):(stF F k m v).jobs.map (·.job)=F.jobs.map (·.job):=by
  unfold stF setF
  rw [List.map_set,zlZ]
  refine List.ext_getElem? fun i=>?_
  rw [List.getElem?_set]
  by_cases h:k=i
  · subst h
    simp [List.getD_eq_getElem?_getD,hk]
  · simp [h]
theorem zFO {F G:Fm} (h:G.jobs.map (·.job)=F.jobs.map (·.job)) (ha:zld F):zld G:=by
  intro i s hs y hy
  have h1:(G.jobs.map (·.job))[i]?=some s.job:=by rw [List.getElem?_map,hs]; rfl
  rw [h,List.getElem?_map] at h1
  obtain ⟨s',hs',e⟩:=Option.map_eq_some_iff.1 h1
  exact ha i s' hs' y (by rw [e]; exact hy)
theorem zrJ {F:Fm} {k m:Nat} {v:Int} (hk:k<F.jobs.length) (ha:zld F):zld (stF F k m v):=zFO (ztI F v hk) ha
theorem zrZ {F:Fm} {k:Nat} (h:k<F.jobs.length):F.jobs[k]?=some (zac F k):=by simp [zac,List.getD_eq_getElem?_getD,h]
theorem zhL {F:Fm} {k:Nat} {s:St} (h:F.jobs[k]?=some s):zac F k=s:=by simp [zac,List.getD_eq_getElem?_getD,h]
section
variable {O:Nat->Prop} {B fb:Nat} {w:World} {P:Pl} {F:Fm}
theorem zIS (x:FXO O B w fb P F) (hn0:0<=F.now/\F.now<=1099511627776) (n:Int):FnP Tryz.prog zcn #[.pointer (ptr fb),.int .i64 n] w fun v w'=>∃ e:Int,v=.int .i64 e /\
    ((e≠0/\e=4/\Ext w w')\/(e=0/\(0<=n/\n<=1000000000/\F.now+n<=1099511627776)/\FXO O B w' fb P { F with now:=F.now+n }/\Fr (ft fb P.jp) w w'))/\(e=0↔(0<=n/\n<=1000000000/\F.now+n<=1099511627776)):=by
  have ne:=zaL fb
  refine zm0 (ptr fb) n w _ ⟨fun _=>ne,fun _=>ne,fun h w0 h0=>⟨4,rfl,.inl ⟨by decide,rfl,h0⟩,by omega⟩,fun h=>⟨_,x.cell (i:=5) rfl,i64 (by omega),fun h2 w1 h1=>⟨4,rfl,.inl ⟨by decide,rfl,h1⟩,by omega⟩,fun h2=>⟨ne,ne,_,x.cell (i:=5) rfl,i64 (by omega),ne,ne,?_⟩⟩⟩
  refine zaZ (off:=5) x.slot rfl (by simp) (by simp) (by intro u hu; simp at hu; subst hu; rfl) (by simp) fun w2 o2 g2 w3 h3=>?_
  obtain ⟨y,f⟩:=x.slot_to (F':={ F with now:=F.now+n }) (P':=P) o2 g2 rfl rfl rfl rfl (fun w'' k=>x.hs w'' (((zaR g2 fun a ha=>by cases ha; exact .inr (.inl rfl))).tr k)) x.hO
  exact ⟨0,rfl,.inr ⟨rfl,⟨h.1,h.2,h2⟩,y.ext h3,f.tr (zad h3)⟩,by omega⟩
def zLw (F:Fm) (s:St):Bool:=s.job.aft.any fun y=>decide (za1 F y=4)||decide (za1 F y=5)
def zbv (F:Fm) (k:Nat):Fm:=if (zac F k).what=1/\zLw F (zac F k)=true then stF F k 11 5 else F
def lostTo (F:Fm):Nat->Fm
  |0 => F
  |n+1 => zbv (lostTo F n) n
def zlB (F:Fm):Fm:=lostTo F F.jobs.length
theorem zu9 (F:Fm) (k:Nat):(zbv F k).jobs.length=F.jobs.length:=by unfold zbv; split<;>simp [zbN]
theorem zfh (F:Fm):∀ n,(lostTo F n).jobs.length=F.jobs.length
  |0 => rfl
  |n+1 => by rw [lostTo,zu9,zfh F n]
theorem zr4 {F:Fm} (ha:zld F):∀ n,n<=F.jobs.length->zld (lostTo F n)
  |0,_ => ha
  |n+1,h => by
    have ih:=zr4 ha n (by omega)
    rw [lostTo,zbv]
    split
    · exact zrJ (by rw [zfh]; omega) ih
    · exact ih
theorem FXO.put (x:FXO O B w fb P F) {k:Int} (h0:0<=k) (h1:k<F.jobs.length) {m:Nat} (hm:11<=m/\m<=15) (v:Int) {ns:List Nat} (hns:∀ b∈ns,¬ ft fb P.jp b) {K:World->Prop}
    (hk:∀ w' P',P'.jp=P.jp->FXO O B w' fb P' (stF F k.toNat m v)->Fr (ft fb P.jp) w w'->K w'):zao w (pAdd (pIdx P.jp k 16) m) [.int .i64 v] ns K:=x.set h0 h1 hm v hns fun w' y f=>hk w' (setP P k.toNat (zhb m v (F.jobs.getD k.toNat default))) rfl y f
theorem zIx (x:FXO O B w fb P F) (ha:zld F):FnP Tryz.prog zaE #[.pointer (ptr fb)] w fun v w'=>v=.tuple #[]/\∃ P',P'.jp=P.jp/\FXO O B w' fb P' (zlB F)/\Fr (ft fb P.jp) w w':=by
  have ne:=zaL fb
  refine zm1 (ptr fb) w _ fun w0 e0=>zbG (by simp [Value.oneCell']) fun w1 o1 e1=>?_
  have e01:=e0.trans e1
  have x1:=x.ext e01
  generalize hp1:(some ⟨w0.heap.size,0,none⟩:Option Addr)=p1
  rw [hp1] at o1
  have o1':=o1 w0.heap.size (Nat.le_refl _)
  have c1:Go.Sx.cell w1 p1 0=some (.pointer (ptr fb)):=o1'.cells 0 _ rfl
  have np:∀ a,p1=some a->¬ ft fb P.jp a.block:=fun a ha hf=>by
    have:=(x.foot hf).2
    have:=(o1'.lt a ha).1
    have:=e0.size
    omega
  have hl0:=x.jO.1
  refine ⟨_,c1,ne,ne,_,_,_,x1.cell (i:=6) rfl,?_⟩
  rw [x1.len]
  refine ⟨fun k w'=>0<=k/\k<=F.jobs.length/\Fr (ft fb P.jp) w1 w'/\∃ P',P'.jp=P.jp/\FXO O B w' fb P' (lostTo F k.toNat),fun k _=>(F.jobs.length-k).toNat,⟨by omega,by omega,Fr.refl _ _,P,rfl,x1⟩,?_⟩
  rintro k w8 ⟨hk0,hk1,f8,P',hP,x8⟩
  have ll:=zfh F k.toNat
  refine ⟨fun hlt=>?_,fun hge w9 h9=>⟨rfl,P',hP,?_,((zad e01).tr f8).tr (zad h9)⟩⟩
  · have c8:Go.Sx.cell w8 p1 0=some (.pointer (ptr fb)):=zdS c1 f8 np
    obtain ⟨r,hr,hF,hjp,hne,_,g,hJ,hok,hwf⟩:=x8.st hk0 (by omega)
    have hja:zac (lostTo F k.toNat) k.toNat=r.s:=zhL hF
    have nxt:∀ {w},FXO O B w fb P' (zbv (lostTo F k.toNat) k.toNat)->FXO O B w fb P' (lostTo F (k+1).toNat):=fun h=>by rw [show (k+1).toNat=k.toNat+1 by omega]; exact h
    have same:¬ (r.s.what=1/\zLw (lostTo F k.toNat) r.s=true)->lostTo F (k+1).toNat=lostTo F k.toNat:=fun h=>by
      rw [show (k+1).toNat=k.toNat+1 by omega,lostTo,zbv,hja,if_neg h]
    refine ⟨_,c8,ne,ne,_,_,_,x8.cell (i:=6) rfl,hjp,hk0,by rw [x8.len]; omega,hne,hne,_,g 11 _ rfl,fun _=>hne,fun _=>hne,fun _=>by rw [zaP]; exact hne,fun hw=>?_,fun hw=>⟨i64 (by omega),⟨by omega,by omega,f8,P',hP,by rw [same fun h=>hw h.1]; exact x8⟩,by simp only []; omega⟩⟩
    refine ⟨_,_,_,by rw [zaP]; exact g 10 _ rfl,fun w17 h17=>?_⟩
    have hin:∀ y∈r.s.job.aft,1<=y/\y<=(lostTo F k.toNat).jobs.length:=fun y hy=>by have:=zr4 ha k.toNat (by omega) _ _ hF y hy; omega
    have hlen:=hok.len
    refine (zoU r.pf r.cf r.s.job.aft (by omega) _ (fun y=>decide (za1 (lostTo F k.toNat) y=4)||decide (za1 (lostTo F k.toNat) y=5)) w17 (hJ.2.ext h17) fun y hy w' hw'=>⟨zdK,#[.pointer p1],rfl,zKC (x8.ext (h17.trans hw')) (zaD (h17.trans hw') c8) (hin y hy)⟩).mono fun v w18 ⟨e18,b,hv,hb⟩=>⟨e18,b,hv,fun hbt=>⟨hne,hne,?_⟩,fun hbf=>⟨i64 (by omega),⟨by omega,by omega,f8,P',hP,?_⟩,by simp only []; omega⟩⟩
    · have hbad:zLw (lostTo F k.toNat) r.s=true:=by
        obtain ⟨y,hy,h3⟩:=hb.1 hbt
        exact List.any_eq_true.2 ⟨y,hy,h3⟩
      refine x8.put hk0 (by omega) (by omega) 5 (by simp) fun w20 P'' hP'' x20 f20=>⟨i64 (by omega),⟨by omega,by omega,f8.tr (by rw [hP] at f20; exact f20),P'',hP''.trans hP,?_⟩,by simp only []; omega⟩
      rw [show (k+1).toNat=k.toNat+1 by omega,lostTo,zbv,hja,if_pos ⟨hw,hbad⟩]
      exact x20
    · rw [same fun h=>?_]
      · exact x8
      · obtain ⟨y,hy,h3⟩:=List.any_eq_true.1 h.2
        have:=hb.2 ⟨y,hy,h3⟩
        rw [hbf] at this; cases this
  · have:k.toNat=F.jobs.length:=by omega
    rw [this] at x8
    exact x8.ext h9
def LvOk (F:Fm) (k:Nat):Prop:=zkJ F.hosts/\0<=(zac F k).host/\(zac F k).host<F.hosts.length/\zj9 (zac F k).job.nd (F.hosts.getD (zac F k).host.toNat default).used
def zkB (F:Fm) (k:Nat):Fm:={ F with hosts:=F.hosts.set (zac F k).host.toNat (zfX (F.hosts.getD (zac F k).host.toNat default) (ziu (F.hosts.getD (zac F k).host.toNat default).used (zac F k).job.nd)) }
def zdB (F:Fm) (k:Nat):Fm:=stF (stF (zkB F k) k 12 0) k 13 0
theorem zDz (x:FXO O B w fb P F) {k:Int} (h0:0<=k) (h1:k<F.jobs.length) (hv:LvOk F k.toNat):FnP Tryz.prog zb0 #[.pointer (ptr fb),.pointer (pIdx P.jp k 16)] w fun v w'=>v=.tuple #[]/\∃ P',P'.jp=P.jp/\FXO O B w' fb P' (zdB F k.toNat)/\Fr (ft fb P.jp) w w':=by
  have ne:=zaL fb
  obtain ⟨r,hr,hF,hjp,hne,_,g,hJ,hok,hwf⟩:=x.st h0 h1
  have hja:zac F k.toNat=r.s:=zhL hF
  unfold LvOk at hv
  rw [hja] at hv
  refine zlP (ptr fb) (pIdx P.jp k 16) w _ ⟨ne,ne,_,_,_,x.cell (i:=0) rfl,hne,hne,_,g 12 _ rfl,hne,hne,by rw [zaP]; exact hne,by rw [zaP]; exact fun h=>hne (zdj.1 h),_,by rw [zaP]; exact g 2 _ rfl,_,by rw [zaP,zam]; have:=g 3 _ rfl; rw [zam] at this; exact this,_,by rw [zaP,zam]; have:=g 4 _ rfl; rw [zam] at this; exact this,fun w7 h7=>?_⟩
  have x7:=x.ext h7
  have hO:=x.hO
  refine (Give_k P.hp P.hc F.hosts (by omega) hO.2 r.s.host r.s.job.nd w7 (x7.hs w7 (Fr.refl _ _))).mono fun v w8 ⟨e8,p',n',c',e,hv',hcase⟩=>⟨e8,p',n',c',e,hv',ne,ne,?_⟩
  rcases hcase with ⟨_,_,hno⟩|⟨_,_,_,_,rfl,_,hS⟩
  · exact absurd ⟨hok.nd,hv.2.2.2⟩ (hno hv.1 hv.2.1 hv.2.2.1)
  have x8:=x7.ext e8
  refine zaZ (off:=0) x8.slot rfl (by simp) (by simp) (by intro u hu; simp at hu; subst hu; rfl) (by simp) fun w13 o13 g13=>⟨hne,hne,?_⟩
  have hG:zkB F k.toNat={ F with hosts:=F.hosts.set r.s.host.toNat (zfX (F.hosts.getD r.s.host.toNat default) (ziu (F.hosts.getD r.s.host.toNat default).used r.s.job.nd)) }:=by unfold zkB; rw [hja]
  have fg:Fr (ft fb P.jp) w8 w13:=zaR g13 fun a ha=>by cases ha; exact .inl rfl
  obtain ⟨y,f13⟩:=x8.slot_to (F':=zkB F k.toNat) (P':={ P with hp:=p',hc:=c' }) (by
    rw [hG]
    show Own B w13 zdq 7 (ptr fb) 1 1 [.slice p' (F.hosts.set _ _).length c',_,_,_,_,_,_]
    rw [List.length_set]; exact o13) g13 rfl rfl rfl rfl (fun w'' kf=>by
      rw [hG]
      exact hS (ftO O fb P.jp) (fun b hb=>by
        rcases hb with hb|hb
        · exact x7.olt b hb
        · exact (x7.foot hb).2) w'' ((fg.mono fun b hb=>.inr hb).tr kf)) (by
    rw [hG]
    refine ⟨by show (F.hosts.set _ _).length<=30; rw [List.length_set]; exact hO.1,fun h hh=>?_⟩
    have hh:h∈F.hosts.set r.s.host.toNat (zfX (F.hosts.getD r.s.host.toNat default) (ziu (F.hosts.getD r.s.host.toNat default).used r.s.job.nd)):=hh
    rcases List.mem_or_eq_of_mem_set hh with hh|rfl
    · exact hO.2 h hh
    · have:=hO.2 _ (zap F.hosts default (i:=r.s.host.toNat) (by omega))
      exact ⟨this.1,this.2.1,this.2.2⟩)
  refine y.put (k:=k) h0 h1 (by omega) 0 (by simp) fun w14 P1 hP1 y14 f14=>⟨hne,hne,?_⟩
  have hP1:P1.jp=P.jp:=hP1
  have:=y14.put (k:=k) (m:=13) h0 (by rw [zbN]; exact h1) (by omega) 0 (ns:=[]) (by simp) (K:=fun w15=>∀ w16,Ext w15 w16->Value.tuple #[]=.tuple #[]/\∃ P',P'.jp=P.jp/\FXO O B w16 fb P' (zdB F k.toNat)/\Fr (ft fb P.jp) w w16) fun w15 P2 hP2 y15 f15 w16 h16=>⟨rfl,P2,hP2.trans hP1,y15.ext h16,?_⟩
  · rw [hP1] at this; exact this
  · rw [hP1] at f15
    exact (((((zad h7).tr (zad e8)).tr f13).tr f14).tr f15).tr (zad h16)
end
def zta (j:Jb):St:=⟨j,1,0,0,0,0⟩
def zoL (F:Fm) (j:Jb):Fm:={ F with jobs:=F.jobs++[zta j] }
def zvn (F:Fm) (j:Jb):Prop:=okJ j/\F.jobs.length≠60/\∀ y∈j.aft,y<=F.jobs.length/\za1 F y≠4/\za1 F y≠5
structure Pre (F:Fm):Prop where
  aft:zld F
  pol:zmP F.pol
  now:0<=F.now/\F.now<=1099511627776
  run:∀ k,k<F.jobs.length->(zac F k).what=2->LvOk F k
  tries:∀ k,k<F.jobs.length->0<=(zac F k).tries/\(zac F k).tries<=100
def zGI (w:World) (fb:Nat) (jp jp':Option Addr):Prop:=∀ b,ft fb jp' b->ft fb jp b\/w.heap.size<=b
def inJ (F:Fm) (id:Int):Prop:=1<=id/\id<=F.jobs.length
def zI7 (F:Fm) (j:Jb) (e:Int):Prop:=(zua j≠0/\e=zua j)\/(zua j=0/\((F.jobs.length=60/\e=7)\/(F.jobs.length≠60/\(((∃ y∈j.aft,¬ (1<=y/\y<=F.jobs.length))/\e=5)\/((∀ y∈j.aft,1<=y/\y<=F.jobs.length) /\
  (((∃ y∈j.aft,za1 F y=4\/za1 F y=5)/\e=9)\/((∀ y∈j.aft,za1 F y≠4/\za1 F y≠5)/\e=0)))))))
def zt7 (F:Fm) (id e:Int):Prop:=(¬ inJ F id/\e=5)\/(inJ F id/\e=9)
section
variable {O:Nat->Prop} {B fb:Nat} {w:World} {P:Pl} {F:Fm}
theorem zAj (x:FXO O B w fb P F) (j:Jb) (pa:Option Addr) (ca:Nat) (pf:Option Addr) (cf:Nat) (hJ:IsJ w j pa ca pf) (hW:WfJ j) (hB:B<=w.heap.size) :
    FnP Tryz.prog za3 #[.pointer (ptr fb),jv j pa ca pf cf] w fun v w'=>∃ id e:Int,v=.tuple #[.int .i64 id,.int .i64 e]/\((e=0↔zvn F j)/\zI7 F j e)/\((e≠0/\Ext w w')\/(e=0/\id=F.jobs.length+1/\∃ P',FXO O B w' fb P' (zoL F j)/\Fr (ft fb P.jp) w w'/\zGI w fb P.jp P'.jp)):=by
  have ne:=zaL fb
  have hl0:=x.jO.1
  refine zfE (ptr fb) j.user j.prio j.nd.c j.nd.m j.nd.g j.ask.k j.ask.key j.ask.val j.ask.n pa j.ask.xs.length ca pf j.aft.length cf w _ fun b0 hb0 w1 h1=>?_
  refine (zDr j pa ca pf cf w1 (hJ.ext h1) hW).mono fun v w2 ⟨e2,hv⟩=>⟨e2,zua j,hv,fun hne w4 h4=>⟨0,zua j,rfl,⟨⟨fun h=>absurd h hne,fun h=>absurd (zi2.2 h.1) hne⟩,.inl ⟨hne,rfl⟩⟩,.inl ⟨hne,h4⟩⟩,fun hz=>?_⟩
  have hok:=zi2.1 hz
  have hlen:=hok.len
  have hup:=zgI hok.up
  refine ⟨ne,ne,_,_,_,x.cell (i:=6) rfl,fun h60 w7 h7=>⟨0,7,rfl,⟨⟨fun h=>(by cases h),fun h=>absurd (by have:=x.len; omega) h.2.1⟩,.inr ⟨hz,.inl ⟨by have:=x.len; omega,rfl⟩⟩⟩,.inl ⟨by decide,h7⟩⟩,fun h60=>?_⟩
  refine ⟨fun k w'=>Ext w w'/\0<=k/\k<=j.aft.length/\∀ i:Nat,(i:Int)<k->j.aft.getD i 0<=F.jobs.length,fun k _=>(j.aft.length-k).toNat,⟨Ext.refl _,by omega,by omega,fun i hi=>by omega⟩,?_⟩
  rintro k w9 ⟨x9,hk0,hk1,hrng⟩
  have gmem:∀ {k:Int},0<=k->k<j.aft.length->j.aft.getD k.toNat 0∈j.aft:=fun h0 h1=>zap j.aft 0 (by omega)
  refine ⟨fun hlt=>?_,fun hge=>?_⟩
  · have g:=zdP.idx (hJ.2.ext x9) hk0 hlt
    have hy:=hup _ (gmem hk0 hlt)
    refine ⟨fun h=>zai g (zah.2 h),hk0,hlt,_,g,fun w11 x11=>?_⟩
    have h11:=x9.trans (zaa x11)
    refine (zFS (x.ext h11) _ (i64 (by omega))).mono fun v w12 ⟨e12,hv⟩=>⟨e12,?_⟩
    rcases hv with ⟨hno,rfl⟩|⟨_,hin,rfl⟩
    · exact ⟨_,rfl,fun _ w14 h14=>⟨0,5,rfl,⟨⟨fun h=>(by cases h),fun h=>absurd ⟨hy.1,(h.2.2 _ (gmem hk0 hlt)).1⟩ hno⟩,.inr ⟨hz,.inr ⟨by have:=x.len; omega,.inl ⟨⟨_,gmem hk0 hlt,hno⟩,rfl⟩⟩⟩⟩,.inl ⟨by decide,(h11.trans e12).trans h14⟩⟩,fun h=>absurd rfl h⟩
    · obtain ⟨q,hq,hne,_⟩:=zmt x ⟨hy.1,hin⟩ (h11.trans e12)
      refine ⟨_,rfl,fun h=>absurd (hq.symm.trans h) hne,fun _=>⟨i64 (by omega),⟨h11.trans e12,by omega,by omega,fun i hi=>?_⟩,by simp only []; omega⟩⟩
      by_cases hik:(i:Int)<k
      · exact hrng i hik
      · obtain rfl:i=k.toNat:=by omega
        exact hin
  have hall:∀ y∈j.aft,y<=F.jobs.length:=fun y hy=>by
    obtain ⟨i,hi,rfl⟩:=List.mem_iff_getElem.1 hy
    have:=hrng i (by omega)
    simpa [List.getD_eq_getElem?_getD,hi] using this
  refine ⟨fun k w'=>Ext w w'/\0<=k/\k<=j.aft.length/\∀ i:Nat,(i:Int)<k->za1 F (j.aft.getD i 0)≠4/\za1 F (j.aft.getD i 0)≠5,fun k _=>(j.aft.length-k).toNat,⟨x9,by omega,by omega,fun i hi=>by omega⟩,?_⟩
  clear hrng hge hk0 hk1
  rintro k w12 ⟨x12,hk0,hk1,hrng⟩
  refine ⟨fun hlt=>?_,fun hge=>?_⟩
  · have g:=zdP.idx (hJ.2.ext x12) hk0 hlt
    have hy:=hup _ (gmem hk0 hlt)
    have hy2:=hall _ (gmem hk0 hlt)
    refine ⟨fun h=>zai g (zah.2 h),hk0,hlt,_,g,fun w14 x14=>?_⟩
    have h14:=x12.trans (zaa x14)
    refine (zFS (x.ext h14) _ (i64 (by omega))).mono fun v w15 ⟨e15,hv⟩=>⟨e15,?_⟩
    rcases hv with ⟨hno,_⟩|⟨_,hin,rfl⟩
    · exact absurd ⟨hy.1,hy2⟩ hno
    · obtain ⟨q,hq,hne,hg⟩:=zmt x ⟨hy.1,hin⟩ (h14.trans e15)
      refine ⟨_,rfl,by rw [hq]; exact hne,by rw [hq]; exact hne,_,by rw [hq]; exact hg,fun hbad w18 h18=>⟨0,9,rfl,⟨⟨fun h=>(by cases h),fun h=>?_⟩,.inr ⟨hz,.inr ⟨by have:=x.len; omega,.inr ⟨fun y hy=>⟨(hup y hy).1,hall y hy⟩,.inl ⟨⟨_,gmem hk0 hlt,hbad⟩,rfl⟩⟩⟩⟩⟩,.inl ⟨by decide,(h14.trans e15).trans h18⟩⟩,fun hgd=>⟨i64 (by omega),⟨h14.trans e15,by omega,by omega,fun i hi=>?_⟩,by simp only []; omega⟩⟩
      · have:=(h.2.2 _ (gmem hk0 hlt)).2
        rcases hbad with h|h
        · exact absurd h this.1
        · exact absurd h this.2
      · by_cases hik:(i:Int)<k
        · exact hrng i hik
        · obtain rfl:i=k.toNat:=by omega
          exact hgd
  have hall2:∀ y∈j.aft,za1 F y≠4/\za1 F y≠5:=fun y hy=>by
    obtain ⟨i,hi,rfl⟩:=List.mem_iff_getElem.1 hy
    have:=hrng i (by omega)
    simpa [List.getD_eq_getElem?_getD,hi] using this
  have hoks:zvn F j:=⟨hok,by have:=x.len; omega,fun y hy=>⟨hall y hy,hall2 y hy⟩⟩
  have x12':=x.ext x12
  refine ⟨ne,ne,_,_,_,x12'.cell (i:=6) rfl,fun w16 x16=>?_⟩
  have h16:=x12.trans (zaa x16)
  have hE:zeY j.ask=0:=by
    have:=hok.ask
    unfold zmh at this
    split at this
    · cases this
    · exact this
  refine (zD3 ⟨zta j,pa,ca,pf,cf⟩ w16 (hJ.ext h16) hE hok.len).mono fun v w17 ⟨e17,r,hv,hrs,hF⟩=>⟨e17,r.s.job.user,r.s.job.prio,r.s.job.nd.c,r.s.job.nd.m,r.s.job.nd.g,r.s.job.ask.k,r.s.job.ask.key,r.s.job.ask.val,r.s.job.ask.n,r.pa,r.s.job.ask.xs.length,r.ca,r.pf,r.s.job.aft.length,r.cf,r.s.what,r.s.host,r.s.since,r.s.again,r.s.tries,hv,?_⟩
  have h17:=h16.trans e17
  have x17:=x.ext h17
  have hlR:=x.len
  have hn60:F.jobs.length≠60:=hoks.2.1
  have hbj:∀ b∈[b0],∀ y,P.jp=some y->y.block≠b:=fun b hb y hy=>by simp at hb; subst hb; have:=(x.arr.lt y hy).2; omega
  refine znW (v:=sv r) zhG (by omega) x17.arr (Nat.le_trans hB h17.size) hbj rfl (zzo r) (by omega) (by omega) (by omega) fun p' c' w44 o44 g44 hp' hb44=>⟨ne,ne,?_⟩
  have apF:zbK (ptr fb) P.jp:=fun u y hu hy=>by cases hu; exact fun h=>x.ap y hy h.symm
  have s44:=x17.slot.st apF g44
  have hfb:=(x.slot.lt _ rfl).2
  have apP:∀ a,p'=some a->a.block≠fb:=fun a ha he=>by
    rcases g44.new with hn|hn
    · rw [ha] at hn
      cases hj:P.jp with
      |none => rw [hj] at hn; simp [blk] at hn
      |some y => rw [hj] at hn; simp [blk] at hn; exact x.ap y hj (hn▸he)
    · have h1:=hn a ha
      have h2:=h17.size
      have h3:fb<w.heap.size:=hfb
      omega
  refine zaZ (off:=6) s44 rfl (by simp) (by simp) (by intro u hu; simp at hu; subst hu; rfl) (fun b hb y hy he=>by cases hy; simp at hb; subst hb; have h3:fb<w.heap.size:=hfb; have he:fb=b:=he; omega) fun w48 o48 g48=>?_
  have f48:Fr (ft fb P.jp) w17 w48:=(zaR g44 fun a ha=>.inr ⟨a,ha,rfl⟩).tr (zaR g48 fun a ha=>by cases ha; exact .inl rfl)
  have hft:∀ b,ft fb p' b->ft fb P.jp b\/w17.heap.size<=b:=fun b hb=>by
    rcases hb with h|⟨a,ha,rfl⟩
    · exact .inl (.inl h)
    · rcases g44.new with hn|hn
      · left
        rw [ha] at hn
        cases hj:P.jp with
        |none => rw [hj] at hn; simp [blk] at hn
        |some y => rw [hj] at hn; simp [blk] at hn; exact .inr ⟨y,rfl,hn.symm⟩
      · exact .inr (hn a ha)
  have step:∀ {w'' w0:World},Ext w0 w17->Fr (ftO O fb p') w48 w''->Fr (ftO O fb P.jp) w0 w'':=fun h0 kf=>((zad h0).tr (f48.mono fun b hb=>.inr hb)).trans kf fun b hb=>by
    rcases hb with hb|hb
    · exact .inl (.inl hb)
    · rcases hft b hb with h|h
      · exact .inl (.inr h)
      · exact .inr (Nat.le_trans h0.size h)
  have y48:FXO O B w48 fb ⟨P.hp,P.hc,p',c',P.R++[r]⟩ (zoL F j):=by
    refine ⟨?_,?_,?_,fun w'' kf=>x.hs w'' (step h17 kf),fun r' hr' w'' kf=>?_,apP,x.hO,?_,fun b hb=>by have:=x.olt b hb; have:=h17.size; have:=f48.size; omega,fun b hb hf=>(hft b hf).elim (x.odis b hb) fun h=>by have:=x.olt b hb; have:=h17.size; omega⟩
    · show Own B w48 zdq 7 (ptr fb) 1 1 [_,_,_,_,_,_,.slice p' (P.R++[r]).length c']
      rw [List.length_append]
      exact o48
    · show Own B w48 ziT 16 p' (P.R++[r]).length c' ((P.R++[r]).flatMap zrR)
      rw [List.length_append,List.flatMap_append]
      have:=o44.st (fun u v hu hv=>by cases hv; exact apP u hu) g48
      simpa [Value.cells] using this
    · show (P.R++[r]).map (·.s)=F.jobs++[zta j]
      rw [List.map_append,x.map]; simp [hrs]
    · have hr':r'∈P.R++[r]:=hr'
      rcases List.mem_append.1 hr' with hr'|hr'
      · exact x.js r' hr' w'' (step h17 kf)
      · simp at hr'; subst hr'
        have:=hF (ftO O fb P.jp) (fun b hb=>by
          rcases hb with hb|hb
          · have:=x.olt b hb; have:=h16.size; omega
          · have:=(x.foot hb).2; have:=h16.size; omega) w'' (step (Ext.refl _) kf)
        rw [hrs]
        exact this
    · refine ⟨by show (F.jobs++[zta j]).length<=60; rw [List.length_append]; simp; omega,fun s hs=>?_⟩
      have hs:s∈F.jobs++[zta j]:=hs
      rcases List.mem_append.1 hs with hs|hs
      · exact x.jO.2 s hs
      · simp at hs; subst hs; exact ⟨hok,hW⟩
  refine ⟨ne,ne,_,_,_,y48.cell (i:=6) rfl,fun w52 h52=>⟨_,0,rfl,⟨⟨fun _=>hoks,fun _=>rfl⟩,.inr ⟨hz,.inr ⟨hn60,.inr ⟨fun y hy=>⟨(hup y hy).1,hall y hy⟩,.inr ⟨hall2,rfl⟩⟩⟩⟩⟩,.inr ⟨rfl,?_,_,y48.ext h52,((zad h17).tr f48).tr (zad h52),fun b hb=>?_⟩⟩⟩
  · simp; omega
  · rcases hft b hb with h|h
    · exact .inl h
    · exact .inr (Nat.le_trans h17.size h)
theorem zb8 (F:Fm) (k:Nat):(zdB F k).jobs.length=F.jobs.length:=by unfold zdB; rw [zbN,zbN]; rfl
theorem zjK {F:Fm} {k:Nat} (hk:k<F.jobs.length) (i:Nat):zac (zdB F k) i=if i=k then { zac F k with host:=0,since:=0 } else zac F i:=by
  unfold zdB
  have hk':k<(zkB F k).jobs.length:=hk
  rw [zj1 _ _ (by rw [zbN]; exact hk'),zj1 _ _ hk',if_pos rfl]
  split
  · rfl
  · rename_i h
    rw [zj1 _ _ hk',if_neg h]; rfl
theorem zuk {F:Fm} {k:Nat} (hk:k<F.jobs.length) (ha:zld F):zld (zdB F k):=by
  unfold zdB
  have hk':k<(zkB F k).jobs.length:=hk
  exact zrJ (by rw [zbN]; exact hk') (zrJ hk' ha)
def zcH (F:Fm) (k:Nat):Fm:=stF (zdB F k) k 15 ((zac F k).tries+1)
def zgP (F:Fm) (k:Nat) (ok:Bool):Fm :=
  if ok=true then stF (zdB F k) k 11 3
  else if (zac F k).tries+1<=F.pol.tries then stF (stF (zcH F k) k 11 1) k 14 (F.now+zli F.pol ((zac F k).tries+1))
  else zlB (stF (zcH F k) k 11 4)
def zy7 (F:Fm) (k:Nat):Fm:=zlB (stF (if (zac F k).what=2 then zdB F k else F) k 11 5)
theorem FXO.at_ (x:FXO O B w fb P F) {id:Int} (h:inJ F id):pIdx P.jp (id-1) 16≠none/\(∀ (m:Nat) u,(zrR ⟨zac F (id-1).toNat,none,0,none,0⟩)[m]?=some u->11<=m->Go.Sx.cell w (pAdd (pIdx P.jp (id-1) 16) m) 0=some u):=by
  obtain ⟨r,hr,hF,_,hne,_,g,_⟩:=x.st (k:=id-1) (by have:=h.1; omega) (by have:=h.2; omega)
  refine ⟨hne,fun m u hu hm=>g m u ?_⟩
  rw [zhL hF] at hu
  match m,hm with
  |m+11,_ =>
    rw [<- hu]
    rfl
theorem ztC (x:FXO O B w fb P F) (hp:Pre F) (id:Int) (hid:InR .i64 id) (ok:Bool) :
    FnP Tryz.prog zaS #[.pointer (ptr fb),.int .i64 id,.bool ok] w fun v w'=>∃ e:Int,v=.int .i64 e/\(e=0↔inJ F id/\(zac F (id-1).toNat).what=2)/\((e≠0/\zt7 F id e/\Ext w w')\/(e=0/\∃ P',P'.jp=P.jp/\FXO O B w' fb P' (zgP F (id-1).toNat ok)/\Fr (ft fb P.jp) w w')):=by
  have ne:=zaL fb
  refine zkN (ptr fb) id ok w _ fun w0 h0=>(zFS (x.ext h0) id hid).mono fun v w1 ⟨e1,hv⟩=>⟨e1,?_⟩
  have h1:=h0.trans e1
  rcases hv with ⟨hno,rfl⟩|⟨hi0,hi1,rfl⟩
  · exact ⟨_,rfl,fun _ w3 h3=>⟨5,rfl,⟨fun h=>(by cases h),fun h=>absurd h.1 hno⟩,.inl ⟨by decide,.inl ⟨hno,rfl⟩,h1.trans h3⟩⟩,fun h=>absurd rfl h⟩
  have hin:inJ F id:=⟨hi0,hi1⟩
  have x1:=x.ext h1
  obtain ⟨hne,g⟩:=x1.at_ hin
  have hk:(id-1).toNat<F.jobs.length:=by omega
  refine ⟨_,rfl,fun h=>absurd h hne,fun _=>⟨hne,hne,_,g 11 _ rfl (by omega),fun hw w4 h4=>⟨9,rfl,⟨fun h=>(by cases h),fun h=>absurd h.2 hw⟩,.inl ⟨by decide,.inr ⟨hin,rfl⟩,h1.trans h4⟩⟩,fun hw w4 h4=>?_⟩⟩
  have hiff:(0:Int)=0↔inJ F id/\(zac F (id-1).toNat).what=2:=⟨fun _=>⟨hin,hw⟩,fun _=>rfl⟩
  refine (zDz (x1.ext h4) (k:=id-1) (by omega) (by omega) (hp.run _ hk hw)).mono fun v w5 ⟨hv,P1,hP1,y5,f5⟩=>⟨hv,fun hok=>⟨hne,hne,?_⟩,fun hok=>?_⟩
  · have hin5:inJ (zdB F (id-1).toNat) id:=⟨hi0,by rw [zb8]; exact hi1⟩
    have:=y5.put (k:=id-1) (m:=11) (by omega) (by rw [zb8]; omega) (by omega) 3 (ns:=[]) (by simp) (K:=fun w6=>∀ w7,Ext w6 w7->∃ e:Int,Value.int .i64 0=.int .i64 e/\(e=0↔inJ F id/\(zac F (id-1).toNat).what=2)/\((e≠0/\zt7 F id e/\Ext w w7)\/(e=0/\∃ P',P'.jp=P.jp/\FXO O B w7 fb P' (zgP F (id-1).toNat ok)/\Fr (ft fb P.jp) w w7))) fun w6 P2 hP2 y6 f6 w7 h7=>⟨0,rfl,hiff,.inr ⟨rfl,P2,hP2.trans hP1,?_,?_⟩⟩
    · rw [hP1] at this; exact this
    · unfold zgP; rw [if_pos hok]; exact y6.ext h7
    · rw [hP1] at f6
      exact ((((zad h1).tr (zad h4)).tr f5).tr f6).tr (zad h7)
  have hkl:(id-1).toNat<(zdB F (id-1).toNat).jobs.length:=by rw [zb8]; exact hk
  have hin5:inJ (zdB F (id-1).toNat) id:=⟨hi0,by rw [zb8]; exact hi1⟩
  obtain ⟨_,g5⟩:=y5.at_ hin5
  rw [hP1,zjK hk,if_pos rfl] at g5
  have htr:=hp.tries _ hk
  refine ⟨hne,hne,_,g5 15 _ rfl (by omega),i64 (by simp only []; omega),hne,hne,?_⟩
  have goal:∀ {w7:World} {P2:Pl},P2.jp=P.jp->FXO O B w7 fb P2 (zcH F (id-1).toNat)->Fr (ft fb P.jp) w w7->(ptr fb≠none/\ptr fb≠none/\(pAdd (ptr fb) 1)≠none /\
      ∃ t8:Int,Go.Sx.cell w7 (pAdd (ptr fb) 1) 0=some (.int .i64 t8)/\∃ t9:Int,Go.Sx.cell w7 (pAdd (ptr fb) 1) 1=some (.int .i64 t9)/\∃ t10:Int,Go.Sx.cell w7 (pAdd (ptr fb) 1) 2=some (.int .i64 t10)/\∃ t11:Int,Go.Sx.cell w7 (pAdd (ptr fb) 1) 3=some (.int .i64 t11) /\
      (pIdx P.jp (id-1) 16)≠none/\(pIdx P.jp (id-1) 16)≠none/\∃ t12:Int,Go.Sx.cell w7 (pAdd (pIdx P.jp (id-1) 16) 15) 0=some (.int .i64 t12) /\
      ∀ w13,Ext w7 w13->FnP Tryz.prog zdN #[(.agg #[(.int .i64 t8),(.int .i64 t9),(.int .i64 t10),(.int .i64 t11)]),(.int .i64 t12)] w13 fun v14 w14=>Ext w13 w14/\∃ t15:Int,∃ t16:Int,v14=(.tuple #[(.int .i64 t15),(.int .i64 t16)]) /\
        (((t16≠0)->(pIdx P.jp (id-1) 16)≠none/\(pIdx P.jp (id-1) 16)≠none/\zao w7 (pAdd (pIdx P.jp (id-1) 16) 11) [(.int .i64 4)] [] fun w17=>∀ w18,Ext w17 w18 ->
           FnP Tryz.prog zaE #[(.pointer (ptr fb))] w18 fun v19 w19=>v19=(.tuple #[])/\∀ w20,Ext w19 w20->∃ e:Int,Value.int .i64 0=.int .i64 e/\(e=0↔inJ F id/\(zac F (id-1).toNat).what=2)/\((e≠0/\zt7 F id e/\Ext w w20)\/(e=0/\∃ P',P'.jp=P.jp/\FXO O B w20 fb P' (zgP F (id-1).toNat ok)/\Fr (ft fb P.jp) w w20)))) /\
        ((t16=0)->ptr fb≠none/\ptr fb≠none/\∃ t17:Int,Go.Sx.cell w7 (pAdd (ptr fb) 5) 0=some (.int .i64 t17)/\InR .i64 (t17+t15)/\(pIdx P.jp (id-1) 16)≠none/\(pIdx P.jp (id-1) 16)≠none /\
          zao w7 (pAdd (pIdx P.jp (id-1) 16) 11) [(.int .i64 1)] [] fun w18=>(pIdx P.jp (id-1) 16)≠none/\(pIdx P.jp (id-1) 16)≠none/\zao w18 (pAdd (pIdx P.jp (id-1) 16) 14) [(.int .i64 (t17+t15))] [] fun w19=>∀ w20,Ext w19 w20 ->
            ∃ e:Int,Value.int .i64 0=.int .i64 e/\(e=0↔inJ F id/\(zac F (id-1).toNat).what=2)/\((e≠0/\zt7 F id e/\Ext w w20)\/(e=0/\∃ P',P'.jp=P.jp/\FXO O B w20 fb P' (zgP F (id-1).toNat ok)/\Fr (ft fb P.jp) w w20)))):=by
    intro w7 P2 hP2 y7 f7
    have hin7:inJ (zcH F (id-1).toNat) id:=⟨hi0,by unfold zcH; rw [zbN,zb8]; exact hi1⟩
    obtain ⟨_,g7⟩:=y7.at_ hin7
    have hat7:zac (zcH F (id-1).toNat) (id-1).toNat={ zac F (id-1).toNat with host:=0,since:=0,tries:=(zac F (id-1).toNat).tries+1 }:=by
      unfold zcH
      rw [zj1 _ _ hkl,if_pos rfl,zjK hk,if_pos rfl]; rfl
    rw [hP2,hat7] at g7
    have hlt:(zcH F (id-1).toNat).jobs.length=F.jobs.length:=by unfold zcH; rw [zbN,zb8]
    have hpl:(zcH F (id-1).toNat).pol=F.pol:=rfl
    have hnw:(zcH F (id-1).toNat).now=F.now:=rfl
    have pc:∀ (i:Nat) (v:Value),(fcs P2 (zcH F (id-1).toNat))[1+i]?=some v->Go.Sx.cell w7 (pAdd (ptr fb) 1) i=some v:=fun i v hv=>by
      have:=y7.cell hv
      rw [zam] at this ⊢
      exact this
    have hdly:1<=(zac F (id-1).toNat).tries+1:=by omega
    refine ⟨ne,ne,(fun h=>ne (zdj.1 h)),_,pc 0 _ rfl,_,pc 1 _ rfl,_,pc 2 _ rfl,_,pc 3 _ rfl,hne,hne,_,g7 15 _ rfl (by omega),fun w13 h13=>?_⟩
    refine (zJJ F.pol.first F.pol.times F.pol.most F.pol.tries _ (i64 (by simp only []; omega)) w13).mono fun v w14 ⟨e14,d,e,hv,herr,_,hd⟩=>⟨e14,d,e,hv,fun hne'=>⟨hne,hne,?_⟩,fun hz=>⟨ne,ne,_,y7.cell (i:=5) rfl,?_,hne,hne,?_⟩⟩
    · have hgt:¬ (zac F (id-1).toNat).tries+1<=F.pol.tries:=fun h=>hne' (herr.2.2 hp.pol ⟨hdly,h⟩)
      have:=y7.put (k:=id-1) (m:=11) (by omega) (by rw [hlt]; omega) (by omega) 4 (ns:=[]) (by simp) (K:=fun w17=>∀ w18,Ext w17 w18 ->
           FnP Tryz.prog zaE #[(.pointer (ptr fb))] w18 fun v19 w19=>v19=(.tuple #[])/\∀ w20,Ext w19 w20->∃ e:Int,Value.int .i64 0=.int .i64 e/\(e=0↔inJ F id/\(zac F (id-1).toNat).what=2)/\((e≠0/\zt7 F id e/\Ext w w20)\/(e=0/\∃ P',P'.jp=P.jp/\FXO O B w20 fb P' (zgP F (id-1).toNat ok)/\Fr (ft fb P.jp) w w20))) fun w17 P3 hP3 y17 f17 w18 h18=>(zIx (y17.ext h18) (zrJ (by rw [hlt]; exact hk) (zrJ hkl (zuk hk hp.aft)))).mono fun v w19 ⟨hv,P4,hP4,y19,f19⟩=>⟨hv,fun w20 h20=>⟨0,rfl,hiff,.inr ⟨rfl,P4,hP4.trans (hP3.trans hP2),?_,?_⟩⟩⟩
      · rw [hP2] at this; exact this
      · unfold zgP; rw [if_neg (by rw [hok]; simp),if_neg hgt]; exact y19.ext h20
      · rw [hP3,hP2] at f19
        rw [hP2] at f17
        exact (((f7.tr f17).tr (zad h18)).tr f19).tr (zad h20)
    · have hle:(zac F (id-1).toNat).tries+1<=F.pol.tries:=by
        by_cases h:(zac F (id-1).toNat).tries+1<=F.pol.tries
        · exact h
        · have:=herr.2.1 hp.pol (.inr (by simp only []; omega)); omega
      have hdb:=zlj hp.pol ((zac F (id-1).toNat).tries+1-1).toNat
      have hd':d=dl F.pol.first F.pol.times F.pol.most ((zac F (id-1).toNat).tries+1-1).toNat:=hd hz
      have hpp:=hp.pol
      have hnn:=hp.now
      unfold zmP okP at hpp
      rw [hnw]
      exact i64 (by omega)
    · have hle:(zac F (id-1).toNat).tries+1<=F.pol.tries:=by
        by_cases h:(zac F (id-1).toNat).tries+1<=F.pol.tries
        · exact h
        · have:=herr.2.1 hp.pol (.inr (by simp only []; omega)); omega
      have hd':d=zli F.pol ((zac F (id-1).toNat).tries+1):=hd hz
      have:=y7.put (k:=id-1) (m:=11) (by omega) (by rw [hlt]; omega) (by omega) 1 (ns:=[]) (by simp) (K:=fun w18=>(pIdx P.jp (id-1) 16)≠none/\(pIdx P.jp (id-1) 16)≠none/\zao w18 (pAdd (pIdx P.jp (id-1) 16) 14) [(.int .i64 (F.now+d))] [] fun w19=>∀ w20,Ext w19 w20 ->
            ∃ e:Int,Value.int .i64 0=.int .i64 e/\(e=0↔inJ F id/\(zac F (id-1).toNat).what=2)/\((e≠0/\zt7 F id e/\Ext w w20)\/(e=0/\∃ P',P'.jp=P.jp/\FXO O B w20 fb P' (zgP F (id-1).toNat ok)/\Fr (ft fb P.jp) w w20))) fun w18 P3 hP3 y18 f18=>⟨hne,hne,?_⟩
      · rw [hP2] at this; exact this
      have hP3:=hP3.trans hP2
      have:=y18.put (k:=id-1) (m:=14) (by omega) (by rw [zbN,hlt]; omega) (by omega) (F.now+d) (ns:=[]) (by simp) (K:=fun w19=>∀ w20,Ext w19 w20 ->
            ∃ e:Int,Value.int .i64 0=.int .i64 e/\(e=0↔inJ F id/\(zac F (id-1).toNat).what=2)/\((e≠0/\zt7 F id e/\Ext w w20)\/(e=0/\∃ P',P'.jp=P.jp/\FXO O B w20 fb P' (zgP F (id-1).toNat ok)/\Fr (ft fb P.jp) w w20))) fun w19 P4 hP4 y19 f19 w20 h20=>⟨0,rfl,hiff,.inr ⟨rfl,P4,hP4.trans hP3,?_,?_⟩⟩
      · rw [hP3] at this; exact this
      · unfold zgP; rw [if_neg (by rw [hok]; simp),if_pos hle,<- hd']; exact y19.ext h20
      · rw [hP3] at f19
        rw [hP2] at f18
        exact ((f7.tr f18).tr f19).tr (zad h20)
  have:=y5.put (k:=id-1) (m:=15) (by omega) (by rw [zb8]; omega) (by omega) ((zac F (id-1).toNat).tries+1) (ns:=[]) (by simp) fun w7 P2 hP2 y7 f7=>goal (hP2.trans hP1) y7 (by
    rw [hP1] at f7
    exact (((zad h1).tr (zad h4)).tr f5).tr f7)
  rw [hP1] at this
  exact this
theorem zy9 (x:FXO O B w fb P F) (hp:Pre F) (id:Int) (hid:InR .i64 id) :
    FnP Tryz.prog zcF #[.pointer (ptr fb),.int .i64 id] w fun v w'=>∃ e:Int,v=.int .i64 e/\(e=0↔inJ F id/\((zac F (id-1).toNat).what=1\/(zac F (id-1).toNat).what=2))/\((e≠0/\zt7 F id e/\Ext w w')\/(e=0/\∃ P',P'.jp=P.jp/\FXO O B w' fb P' (zy7 F (id-1).toNat)/\Fr (ft fb P.jp) w w')):=by
  have ne:=zaL fb
  refine zkM (ptr fb) id w _ fun w0 h0=>(zFS (x.ext h0) id hid).mono fun v w1 ⟨e1,hv⟩=>⟨e1,?_⟩
  have h1:=h0.trans e1
  rcases hv with ⟨hno,rfl⟩|⟨hi0,hi1,rfl⟩
  · exact ⟨_,rfl,fun _ w3 h3=>⟨5,rfl,⟨fun h=>(by cases h),fun h=>absurd h.1 hno⟩,.inl ⟨by decide,.inl ⟨hno,rfl⟩,h1.trans h3⟩⟩,fun h=>absurd rfl h⟩
  have hin:inJ F id:=⟨hi0,hi1⟩
  have x1:=x.ext h1
  obtain ⟨hne,g⟩:=x1.at_ hin
  have hk:(id-1).toNat<F.jobs.length:=by omega
  have g11:=g 11 _ rfl (by omega)
  have fin:∀ {w6:World} {P1:Pl} {G:Fm},P1.jp=P.jp->FXO O B w6 fb P1 G->G.jobs.length=F.jobs.length->zld G->Fr (ft fb P.jp) w w6->zy7 F (id-1).toNat=zlB (stF G (id-1).toNat 11 5)->((zac F (id-1).toNat).what=1\/(zac F (id-1).toNat).what=2) ->
      zao w6 (pAdd (pIdx P.jp (id-1) 16) 11) [(.int .i64 5)] [] fun w7=>∀ w8,Ext w7 w8->FnP Tryz.prog zaE #[(.pointer (ptr fb))] w8 fun v9 w9=>v9=(.tuple #[])/\∀ w10,Ext w9 w10 ->
        ∃ e:Int,Value.int .i64 0=.int .i64 e/\(e=0↔inJ F id/\((zac F (id-1).toNat).what=1\/(zac F (id-1).toNat).what=2))/\((e≠0/\zt7 F id e/\Ext w w10)\/(e=0/\∃ P',P'.jp=P.jp/\FXO O B w10 fb P' (zy7 F (id-1).toNat)/\Fr (ft fb P.jp) w w10)):=by
    intro w6 P1 G hP1 y6 hGl hGa f6 hc hw
    have:=y6.put (k:=id-1) (m:=11) (by omega) (by omega) (by omega) 5 (ns:=[]) (by simp) (K:=fun w7=>∀ w8,Ext w7 w8->FnP Tryz.prog zaE #[(.pointer (ptr fb))] w8 fun v9 w9=>v9=(.tuple #[])/\∀ w10,Ext w9 w10 ->
        ∃ e:Int,Value.int .i64 0=.int .i64 e/\(e=0↔inJ F id/\((zac F (id-1).toNat).what=1\/(zac F (id-1).toNat).what=2))/\((e≠0/\zt7 F id e/\Ext w w10)\/(e=0/\∃ P',P'.jp=P.jp/\FXO O B w10 fb P' (zy7 F (id-1).toNat)/\Fr (ft fb P.jp) w w10))) fun w7 P2 hP2 y7 f7 w8 h8=>(zIx (y7.ext h8) (zrJ (by omega) hGa)).mono fun v w9 ⟨hv,P3,hP3,y9,f9⟩=>⟨hv,fun w10 h10=>⟨0,rfl,⟨fun _=>⟨hin,hw⟩,fun _=>rfl⟩,.inr ⟨rfl,P3,hP3.trans (hP2.trans hP1),?_,?_⟩⟩⟩
    · rw [hP1] at this; exact this
    · rw [hc]; exact y9.ext h10
    · rw [hP2,hP1] at f9
      rw [hP1] at f7
      exact (((f6.tr f7).tr (zad h8)).tr f9).tr (zad h10)
  refine ⟨_,rfl,fun h=>absurd h hne,fun _=>⟨hne,hne,_,g11,fun _=>hne,fun _=>hne,fun hw1=>⟨_,g11,fun hw2 w5 h5=>⟨9,rfl,⟨fun h=>(by cases h),fun h=>(h.2.elim (fun h=>hw1 h) (fun h=>hw2 h)).elim⟩,.inl ⟨by decide,.inr ⟨hin,rfl⟩,h1.trans h5⟩⟩,fun hw2=>⟨hne,hne,_,g11,fun _ w6 h6=>?_,fun h=>absurd hw2 h⟩⟩,fun hw1=>⟨hne,hne,_,g11,fun h=>by omega,fun hw2=>⟨hne,hne,?_⟩⟩⟩⟩
  · refine (zDz (x1.ext h6) (k:=id-1) (by omega) (by omega) (hp.run _ hk hw2)).mono fun v w7 ⟨hv,P1,hP1,y7,f7⟩=>⟨hv,hne,hne,?_⟩
    exact fin hP1 y7 (zb8 _ _) (zuk hk hp.aft) (((zad h1).tr (zad h6)).tr f7) (by unfold zy7; rw [if_pos hw2]) (.inr hw2)
  · exact fin rfl x1 rfl hp.aft (zad h1) (by unfold zy7; rw [if_neg hw2]) (.inl hw1)
end
def zp1 (F:Fm) (id:Int):Int:=(zac F (id-1).toNat).job.prio
def zb7 (F:Fm) (a b:Int):Prop:=zp1 F b<zp1 F a\/zp1 F a=zp1 F b/\a<b
def zg9 (F:Fm):Nat->List Int
  |0 => []
  |k+1 => if zdD F (zac F k)=true then zg9 F k++[(k:Int)+1] else zg9 F k
abbrev rdy (F:Fm):List Int:=zg9 F F.jobs.length
theorem zfD {F:Fm} {x:Int}:∀ {k:Nat},x∈zg9 F k↔1<=x/\x<=k/\zdD F (zac F (x-1).toNat)=true
  |0 => by simp [zg9]; omega
  |k+1 => by
    have ih:=zfD (F:=F) (x:=x) (k:=k)
    unfold zg9
    split
    · rename_i h
      rw [List.mem_append,ih]
      constructor
      · rintro (⟨h1,h2,h3⟩|h1)
        · exact ⟨h1,by omega,h3⟩
        · simp at h1; subst h1
          exact ⟨by omega,by omega,by rw [show ((k:Int)+1-1).toNat=k by omega]; exact h⟩
      · rintro ⟨h1,h2,h3⟩
        by_cases h4:x<=k
        · exact .inl ⟨h1,h4,h3⟩
        · exact .inr (by simp; omega)
    · rename_i h
      rw [ih]
      constructor
      · rintro ⟨h1,h2,h3⟩; exact ⟨h1,by omega,h3⟩
      · rintro ⟨h1,h2,h3⟩
        refine ⟨h1,?_,h3⟩
        by_cases h4:x<=k
        · exact h4
        · have:(x-1).toNat=k:=by omega
          rw [this] at h3
          exact absurd h3 h
theorem zhZ (F:Fm):∀ k,(zg9 F k).Nodup
  |0 => by simp [zg9]
  |k+1 => by
    unfold zg9
    split
    · refine List.nodup_append.2 ⟨zhZ F k,by simp,fun a ha b hb=>?_⟩
      simp at hb; subst hb
      have:=(zfD.1 ha).2.1
      omega
    · exact zhZ F k
theorem zp2 (F:Fm):∀ k,(zg9 F k).length<=k
  |0 => by simp [zg9]
  |k+1 => by
    have:=zp2 F k
    unfold zg9
    split
    · rw [List.length_append]; simp; omega
    · omega
def zpt (F:Fm) (k:Int):Ht:=F.hosts.getD k.toNat default
def zkV (G:Fm) (k0:Nat) (k:Int):Fm:={ G with hosts:=G.hosts.set k.toNat (zfX (zpt G k) (zwG (zpt G k).used (zac G k0).job.nd)) }
def zfQ (G:Fm) (k0:Nat) (k:Int):Fm:=stF (stF (stF (zkV G k0 k) k0 11 2) k0 12 k) k0 13 G.now
theorem zjj (G:Fm) (k0:Nat) (k:Int):(zfQ G k0 k).jobs.length=G.jobs.length:=by unfold zfQ; rw [zbN,zbN,zbN]; rfl
theorem zvY {G:Fm} {k0:Nat} (hk:k0<G.jobs.length) (k:Int) (i:Nat):zac (zfQ G k0 k) i=if i=k0 then { zac G k0 with what:=2,host:=k,since:=G.now } else zac G i:=by
  unfold zfQ
  have hk':k0<(zkV G k0 k).jobs.length:=hk
  rw [zj1 _ _ (by rw [zbN,zbN]; exact hk'),zj1 _ _ (by rw [zbN]; exact hk'),zj1 _ _ hk',if_pos rfl,if_pos rfl]
  split
  · rfl
  · rename_i h
    rw [zj1 _ _ (by rw [zbN]; exact hk'),if_neg h,zj1 _ _ hk',if_neg h]; rfl
theorem zHw {G:Fm} {k0:Nat} (hk:k0<G.jobs.length) (k:Int):(zfQ G k0 k).jobs.map (·.job)=G.jobs.map (·.job):=by
  unfold zfQ
  have hk':k0<(zkV G k0 k).jobs.length:=hk
  rw [ztI _ _ (by rw [zbN,zbN]; exact hk'),ztI _ _ (by rw [zbN]; exact hk'),ztI _ _ hk']; rfl
theorem zKK {a b c:Nd} (ha:okN a) (hb:okN b) (hc:okN c) (h:zj9 a (ziu c b)):okN (zwG b a)/\zj9 (zwG b a) c:=by
  unfold okN zj9 ziu zwG at *
  simp only at *
  omega
theorem zvl {L:List Ht} {i:Nat} (h:zkJ L) (hi:i<L.length) {s:Nd} (h1:okN s) (h2:zj9 s (L.getD i default).has):zkJ (L.set i (zfX (L.getD i default) s)):=by
  have hm:=zap L default (i:=i) hi
  refine ⟨by rw [List.length_set]; exact h.1,fun x hx=>?_,?_⟩
  · rcases List.mem_or_eq_of_mem_set hx with hx|rfl
    · exact h.2.1 x hx
    · obtain ⟨a,b,c,d,_,_⟩:=h.2.1 _ hm
      exact ⟨a,b,c,d,h1,h2⟩
  · have:(L.set i (zfX (L.getD i default) s)).map (·.name)=L.map (·.name):=by
      rw [List.map_set]
      refine List.ext_getElem? fun j=>?_
      rw [List.getElem?_set]
      by_cases hj:i=j
      · subst hj
        simp [List.getD_eq_getElem?_getD,hi,zfX]
      · simp [hj]
    rw [this]
    exact h.2.2
theorem zvk {G:Fm} {k0:Nat} {k:Int} (h:zkJ G.hosts) (h0:0<=k) (h1:k<G.hosts.length) (ha:okN (zac G k0).job.nd) (hf:zj9 (zac G k0).job.nd (ziu (zpt G k).has (zpt G k).used)):zkJ (zkV G k0 k).hosts:=by
  have hm:=zap G.hosts default (i:=k.toNat) (by omega)
  obtain ⟨_,_,_,c,d,_⟩:=h.2.1 _ hm
  obtain ⟨a1,a2⟩:=zKK ha d c hf
  exact zvl h (by omega) a1 a2
abbrev zuF (G:Fm) (id:Int):List Int:=zbZ G.hosts (zac G (id-1).toNat).job.ask (zac G (id-1).toNat).job.nd G.hosts.length
inductive zqz:Fm->List Int->Fm->List (Int×Int)->Prop
  |nil (F:Fm):zqz F [] F []
  |skip {F F':Fm} {id:Int} {ids:List Int} {out:List (Int×Int)}:zuF F id=[]->zqz F ids F' out->zqz F (id::ids) F' out
  |run {F F':Fm} {id k:Int} {ids:List Int} {out:List (Int×Int)}:zf2 F.hosts (zac F (id-1).toNat).job.ask (zac F (id-1).toNat).job.nd k->zqz (zfQ F (id-1).toNat k) ids F' out->zqz F (id::ids) F' ((id,k)::out)
theorem zqz.snoc_skip {F F':Fm} {id:Int} {ids:List Int} {out:List (Int×Int)} (h:zqz F ids F' out) (hs:zuF F' id=[]):zqz F (ids++[id]) F' out:=by
  induction h with
  |nil F => exact .skip hs (.nil F)
  |skip h1 _ ih => exact .skip h1 (ih hs)
  |run h1 _ ih => exact .run h1 (ih hs)
theorem zqz.snoc_run {F F':Fm} {id k:Int} {ids:List Int} {out:List (Int×Int)} (h:zqz F ids F' out) (hs:zf2 F'.hosts (zac F' (id-1).toNat).job.ask (zac F' (id-1).toNat).job.nd k):zqz F (ids++[id]) (zfQ F' (id-1).toNat k) (out++[(id,k)]):=by
  induction h with
  |nil F => exact .run hs (.nil _)
  |skip h1 _ ih => exact .skip h1 (ih hs)
  |run h1 _ ih => exact .run h1 (ih hs)
theorem zqz.one {F F1:Fm} {ids:List Int} {o1:List (Int×Int)} (h:zqz F ids F1 o1):∀ {F2:Fm} {o2:List (Int×Int)},zqz F ids F2 o2->F1=F2/\o1=o2:=by
  induction h with
  |nil F => intro F2 o2 g; cases g; exact ⟨rfl,rfl⟩
  |skip h1 _ ih =>
    intro F2 o2 g
    cases g with
    |skip _ g2 => exact ih g2
    |run g1 _ => have:=g1.1; unfold zuF at h1; rw [h1] at this; cases this
  |run h1 _ ih =>
    intro F2 o2 g
    cases g with
    |skip g1 _ => have:=h1.1; unfold zuF at g1; rw [g1] at this; cases this
    |run g1 g2 =>
      obtain rfl:=zFV h1 g1
      obtain ⟨rfl,rfl⟩:=ih g2
      exact ⟨rfl,rfl⟩
def zI2 (F:Fm) (T:List Int):Prop:=T.Perm (rdy F)/\T.Pairwise (zb7 F)
theorem zum {F:Fm} {a b:Int} (h:zb7 F a b):¬ zb7 F b a:=by unfold zb7 at *; omega
theorem zD2 {F:Fm}:∀ {T U:List Int},T.Perm U->T.Pairwise (zb7 F)->U.Pairwise (zb7 F)->T=U
  |[],U,hp,_,_ => by have:=hp.length_eq; simp at this; exact (List.eq_nil_of_length_eq_zero this.symm).symm
  |t::T,[],hp,_,_ => by have:=hp.length_eq; simp at this
  |t::T,u::U,hp,h1,h2 => by
    rw [List.pairwise_cons] at h1 h2
    have htu:t=u:=by
      rcases List.mem_cons.1 (hp.mem_iff.1 (List.mem_cons_self ..)) with h|h
      · exact h
      rcases List.mem_cons.1 (hp.mem_iff.2 (List.mem_cons_self ..)) with g|g
      · exact g.symm
      exact absurd (h1.1 u g) (zum (h2.1 t h))
    subst htu
    rw [zD2 (List.Perm.cons_inv hp) h1.2 h2.2]
def zdc (F G:Fm) (out:List (Int×Int)):Prop:=∃ T,zI2 F T/\zqz F T G out
theorem zkQ {F G1 G2:Fm} {o1 o2:List (Int×Int)} (h:zdc F G1 o1) (g:zdc F G2 o2):G1=G2/\o1=o2:=by
  obtain ⟨T,⟨a1,a2⟩,a3⟩:=h
  obtain ⟨U,⟨b1,b2⟩,b3⟩:=g
  obtain rfl:=zD2 (a1.trans b1.symm) a2 b2
  exact a3.one b3
def encO (x:Int×Int):List Value:=[.int .i64 x.1,.int .i64 x.2]
structure QS (n:Nat) (Sq:Nat->Prop) (F:Fm) (qb:Nat) (w':World) (H:List Th):Prop where
  ex:∃ mb born p c m,QQ n w' qb mb born p c H m/\Rel H m/\∀ b,ziz mb qb p H b->Sq b
  ids:Ids H
  pr:∀ t∈H,t.prio=zp1 F t.id
  bo:∀ t∈H,∀ u∈H,t.id<u.id->t.born<u.born
theorem QS.ext {n:Nat} {Sq:Nat->Prop} {F:Fm} {qb:Nat} {w w':World} {H:List Th} (q:QS n Sq F qb w H) (e:Ext w w'):QS n Sq F qb w' H:=by
  obtain ⟨mb,born,p,c,m,h1,h2,h3⟩:=q.ex
  exact ⟨⟨mb,born,p,c,m,h1.ext e,h2,h3⟩,q.ids,q.pr,q.bo⟩
theorem QS.fr {n:Nat} {Sq S:Nat->Prop} {F:Fm} {qb:Nat} {w w':World} {H:List Th} (q:QS n Sq F qb w H) (f:Fr S w w') (hS:∀ b,Sq b->¬ S b):QS n Sq F qb w' H:=by
  obtain ⟨mb,born,p,c,m,h1,h2,h3⟩:=q.ex
  exact ⟨⟨mb,born,p,c,m,h1.fr f fun b hb=>hS b (h3 b hb),h2,h3⟩,q.ids,q.pr,q.bo⟩
def zHj (qb:Nat) (w:World):Nat:=match Go.Sx.cell w (ptr qb) 0 with|some (.slice _ n _)=>n|_=>0
theorem QS.len {n:Nat} {Sq:Nat->Prop} {F:Fm} {qb:Nat} {w:World} {H:List Th} (q:QS n Sq F qb w H):zHj qb w=H.length:=by
  obtain ⟨mb,born,p,c,m,h1,_⟩:=q.ex
  have:Go.Sx.cell w (ptr qb) 0=some (.slice p H.length c):=h1.qi.slot.cells 0 _ rfl
  unfold zHj; rw [this]
def OQ (O Sq:Nat->Prop) (out:Option Addr) (b:Nat):Prop:=O b\/Sq b\/∃ a,out=some a/\a.block=b
structure PS (O:Nat->Prop) (B fb:Nat) (w:World) (P:Pl) (F:Fm) (Sq:Nat->Prop) (w':World) (G:Fm) (outs:List (Int×Int)) (T Rm:List Int) (out:Option Addr) (outc:Nat):Prop where
  fx:∃ PP,PP.jp=P.jp/\FXO (OQ O Sq out) B w' fb PP G
  fr:Fr (ft fb P.jp) w w'
  run:zqz F T G outs
  hs:zkJ G.hosts
  job:G.jobs.map (·.job)=F.jobs.map (·.job)
  own:Own w.heap.size w' zB0 2 out outs.length outc (outs.flatMap encO)
  ap:∀ a,out=some a->¬ Sq a.block
  perm:(T++Rm).Perm (rdy F)
  pw:T.Pairwise (zb7 F)
  lt:∀ a∈T,∀ b∈Rm,zb7 F a b
  len:outs.length<=T.length
section
variable {O Sq:Nat->Prop} {B fb qb:Nat} {w:World} {P:Pl} {F G:Fm} {outs:List (Int×Int)} {T Rm:List Int} {out:Option Addr} {outc:Nat}
theorem PS.fr' {w1 w2:World} (s:PS O B fb w P F Sq w1 G outs T Rm out outc) (f:Fr Sq w1 w2) (hq:∀ b,Sq b->w.heap.size<=b):PS O B fb w P F Sq w2 G outs T Rm out outc:=by
  obtain ⟨PP,h1,h2⟩:=s.fx
  exact ⟨⟨PP,h1,h2.fr f fun b hb=>.inr (.inl hb)⟩,s.fr.trans f fun b hb=>.inr (hq b hb),s.run,s.hs,s.job,s.own.fr f s.ap,s.ap,s.perm,s.pw,s.lt,s.len⟩
theorem PS.ext {w1 w2:World} (s:PS O B fb w P F Sq w1 G outs T Rm out outc) (e:Ext w1 w2):PS O B fb w P F Sq w2 G outs T Rm out outc:=by
  obtain ⟨PP,h1,h2⟩:=s.fx
  exact ⟨⟨PP,h1,h2.ext e⟩,s.fr.tr (zad e),s.run,s.hs,s.job,s.own.ext e,s.ap,s.perm,s.pw,s.lt,s.len⟩
theorem PS.shift {w1:World} {Rm':List Int} (s:PS O B fb w P F Sq w1 G outs T Rm out outc) (h:Rm'.Perm Rm):PS O B fb w P F Sq w1 G outs T Rm' out outc :=
  ⟨s.fx,s.fr,s.run,s.hs,s.job,s.own,s.ap,(List.Perm.append_left T h).trans s.perm,s.pw,fun a ha b hb=>s.lt a ha b (h.mem_iff.1 hb),s.len⟩
theorem zIR {n:Nat} {w1:World} {H:List Th} (q:QS n Sq F qb w1 H) (hn:H.length<=60) :
    FnP Tryz.prog za4 #[.pointer (ptr qb)] w1 fun v w2=>∃ (a b:Int) (is:Bool) (Y:List Th),v=.tuple #[.agg #[.int .i64 a,.int .i64 b],.bool is]/\QS n Sq F qb w2 Y/\Fr Sq w1 w2 /\
      ((is=false/\H=[]/\Y=[])\/(is=true/\Y.length<H.length/\(∀ u∈Y,zb7 F b u.id)/\(b::Y.map (·.id)).Perm (H.map (·.id)))):=by
  obtain ⟨mb,born,p,c,m,h1,h2,h3⟩:=q.ex
  refine (zKS h1 (by omega)).mono fun v w2 hr=>?_
  rcases hr with ⟨rfl,hv,e⟩|⟨t,Y,hv,q2,hp,hmin,f⟩
  · exact ⟨0,0,false,[],hv,q.ext e,zad e,.inl ⟨rfl,rfl,rfl⟩⟩
  · have f':Fr Sq w1 w2:=f.mono h3
    obtain ⟨hrel,hids⟩:=zKU h2 h1.mp.nodup q.ids hp
    have hY:∀ u∈Y,u∈H:=fun u hu=>hp.mem_iff.1 (List.mem_cons_of_mem _ hu)
    have ht:t∈H:=hp.mem_iff.1 (List.mem_cons_self ..)
    have hnd:t.id∉Y.map (·.id):=by
      have:((t::Y).map (·.id)).Nodup:=((hp.map _).nodup_iff).2 q.ids
      simp only [List.map_cons,List.nodup_cons] at this
      exact this.1
    have hb:∀ u∈Y,zb7 F t.id u.id:=fun u hu=>by
      have h4:=hmin u (hY u hu)
      have h5:=q.pr t ht
      have h6:=q.pr u (hY u hu)
      have h7:t.id≠u.id:=fun h=>hnd (by rw [h]; exact List.mem_map_of_mem hu)
      unfold ahead at h4
      unfold zb7
      rw [<- h5,<- h6]
      by_cases h8:u.id<t.id
      · have:=q.bo u (hY u hu) t ht h8; omega
      · omega
    have hperm:(t.id::Y.map (·.id)).Perm (H.map (·.id)):=by
      have:=hp.map (·.id)
      simpa using this
    refine ⟨t.prio,t.id,true,Y,hv,⟨⟨mb,born,p,c,_,q2,hrel,fun b hb=>h3 b ?_⟩,hids,fun u hu=>q.pr u (hY u hu),fun u hu v hv=>q.bo u (hY u hu) v (hY v hv)⟩,f',.inr ⟨rfl,by have:=hp.length_eq; simp at this; omega,hb,hperm⟩⟩
    rcases hb with rfl|rfl|⟨a,ha,rfl⟩|⟨u,hu,rfl⟩
    · exact .inl rfl
    · exact .inr (.inl rfl)
    · exact .inr (.inr (.inl ⟨a,ha,rfl⟩))
    · exact .inr (.inr (.inr ⟨u,hY u hu,rfl⟩))
theorem FXO.go {O' S:Nat->Prop} {w9:World} (x:FXO O B w fb P F) (f:Fr S w w9) (hS:∀ b,S b->O b) (h:∀ b,O' b->O b\/(w.heap.size<=b/\b<w9.heap.size)):FXO O' B w9 fb P F:=by
  have f':=f.mono hS
  have up:∀ {w''},Fr (ftO O' fb P.jp) w9 w''->Fr (ftO O fb P.jp) w w'':=fun k=>(f'.mono fun b hb=>.inl hb).trans k fun b hb=>by
    rcases hb with hb|hb
    · rcases h b hb with h|h
      · exact .inl (.inl h)
      · exact .inr h.1
    · exact .inl (.inr hb)
  have x9:=x.fr f hS
  exact ⟨x9.slot,x9.arr,x.map,fun w'' k=>x.hs w'' (up k),fun r hr w'' k=>x.js r hr w'' (up k),x.ap,x.hO,x.jO,fun b hb=>by
    rcases h b hb with h|h
    · have:=x.olt b h; have:=f.size; omega
    · exact h.2,fun b hb hf=>by
    rcases h b hb with h|h
    · exact x.odis b h hf
    · have:=(x.foot hf).2; omega⟩
theorem FXO.more {O':Nat->Prop} {w9:World} (x:FXO O B w fb P F) (e:Ext w w9) (h:∀ b,O' b->O b\/(w.heap.size<=b/\b<w9.heap.size)):FXO O' B w9 fb P F :=
  x.go (zad (S:=fun _=>False) e) (fun _ h=>h.elim) h
theorem FXO.less {O':Nat->Prop} (x:FXO O' B w fb P F) (h:∀ b,O b->O' b):FXO O B w fb P F:=by
  have up:∀ {w''},Fr (ftO O fb P.jp) w w''->Fr (ftO O' fb P.jp) w w'':=fun k=>k.mono fun b hb=>hb.elim (fun g=>.inl (h b g)) .inr
  exact ⟨x.slot,x.arr,x.map,fun w'' k=>x.hs w'' (up k),fun r hr w'' k=>x.js r hr w'' (up k),x.ap,x.hO,x.jO,fun b hb=>x.olt b (h b hb),fun b hb=>x.odis b (h b hb)⟩
def HQ (F:Fm) (k:Nat) (born:Int) (H:List Th):Prop:=(H.map (·.id)).Perm (zg9 F k)/\(∀ t∈H,t.prio=zp1 F t.id/\t.born<=born)/\(∀ t∈H,∀ u∈H,t.id<u.id->t.born<u.born)/\0<=born/\born<=k
theorem hq_put {k:Nat} {born:Int} {H Y:List Th} {b:Nat} (h:HQ F k born H) (hr:zdD F (zac F k)=true) (hp:Y.Perm (⟨b,(zac F k).job.prio,(k:Int)+1,born+1⟩::H)):HQ F (k+1) (born+1) Y:=by
  obtain ⟨h1,h2,h3,h4,h5⟩:=h
  have idk:∀ t∈H,t.id<=k:=fun t ht=>(zfD.1 (h1.mem_iff.1 (List.mem_map_of_mem ht))).2.1
  have mem:∀ t∈Y,t=⟨b,(zac F k).job.prio,(k:Int)+1,born+1⟩\/t∈H:=fun t ht=>List.mem_cons.1 (hp.mem_iff.1 ht)
  refine ⟨?_,fun t ht=>?_,fun t ht u hu hlt=>?_,by omega,by omega⟩
  · unfold zg9
    rw [if_pos hr]
    have:=hp.map (·.id)
    refine this.trans ?_
    rw [List.map_cons]
    exact ((h1.cons _).trans (List.perm_append_singleton _ _).symm)
  · rcases mem t ht with rfl|ht
    · refine ⟨?_,Int.le_refl _⟩
      unfold zp1
      rw [show ((k:Int)+1-1).toNat=k by omega]
    · have:=h2 t ht
      exact ⟨this.1,by omega⟩
  · rcases mem t ht with rfl|ht<;>rcases mem u hu with rfl|hu
    · exact absurd hlt (by simp)
    · have:=idk u hu; simp only at hlt; omega
    · have:=(h2 t ht).2; simp only; omega
    · exact h3 t ht u hu hlt
end
def zI4 (O:Nat->Prop) (B fb:Nat) (w:World) (P:Pl) (F:Fm) (v:Value) (w':World):Prop:=∃ (G:Fm) (outs:List (Int×Int)) (out:Option Addr) (outc:Nat) (P':Pl),
  v=.tuple #[.slice out outs.length outc,.int .i64 0]/\zdc F G outs/\zkJ G.hosts/\G.jobs.map (·.job)=F.jobs.map (·.job)/\P'.jp=P.jp/\FXO O B w' fb P' G/\Fr (ft fb P.jp) w w'/\Own w.heap.size w' zB0 2 out outs.length outc (outs.flatMap encO)/\outs.length<=60
structure XC (fb:Nat) (jp:Option Addr) (Sq:Nat->Prop) (out x:Option Addr) (w:World) (a b:Int):Prop where
  own:Own 0 w zH4 2 x 1 1 [.int .i64 a,.int .i64 b]
  ap:∀ c,x=some c->¬ ft fb jp c.block/\¬ Sq c.block/\∀ o,out=some o->o.block≠c.block
theorem XC.ext {fb:Nat} {jp:Option Addr} {Sq:Nat->Prop} {out x:Option Addr} {w w':World} {a b:Int} (h:XC fb jp Sq out x w a b) (e:Ext w w'):XC fb jp Sq out x w' a b:=⟨h.own.ext e,h.ap⟩
theorem XC.c0 {fb:Nat} {jp:Option Addr} {Sq:Nat->Prop} {out x:Option Addr} {w:World} {a b:Int} (h:XC fb jp Sq out x w a b):x≠none/\Go.Sx.cell w x 0=some (.int .i64 a)/\Go.Sx.cell w x 1=some (.int .i64 b)/\Go.Sx.cell w (pAdd x 1) 0=some (.int .i64 b) :=
  ⟨h.own.ne1 (by omega) (by omega),h.own.cells 0 _ rfl,h.own.cells 1 _ rfl,by rw [zam]; exact h.own.cells 1 _ rfl⟩
def PI (O:Nat->Prop) (B fb qb:Nat) (w:World) (P:Pl) (F:Fm) (Sq:Nat->Prop) (out:Option Addr) (outl outc:Nat) (x:Option Addr) (is:Bool) (w':World):Prop:=∃ (G:Fm) (outs:List (Int×Int)) (T:List Int) (H:List Th),outl=outs.length/\QS w.heap.size Sq F qb w' H/\H.length<=60 /\
  ((is=false/\PS O B fb w P F Sq w' G outs T [] out outc)\/(is=true/\∃ a b,XC fb P.jp Sq out x w' a b/\(∀ u∈H,zb7 F b u.id)/\PS O B fb w P F Sq w' G outs T (b::H.map (·.id)) out outc))
def PM (qb:Nat) (is:Bool) (w':World):Nat:=if is=true then zHj qb w'+1 else 0
section
variable {O Sq:Nat->Prop} {B fb qb:Nat} {w:World} {P:Pl} {F G:Fm} {outs:List (Int×Int)} {T:List Int} {out:Option Addr} {outc:Nat}
theorem zIK {w':World} {Rm:List Int} (s:PS O B fb w P F Sq w' G outs T Rm out outc) (hF:F.jobs.length<=60):outs.length<=60/\T.length+Rm.length<=60:=by
  have h1:=s.perm.length_eq
  rw [List.length_append] at h1
  have h2:=zp2 F F.jobs.length
  have h3:=s.len
  unfold rdy at h1
  omega
theorem zvR {w24:World} {H:List Th} {m0 n9:Nat} (h9:n9<=w24.heap.size) (q:QS w.heap.size Sq F qb w24 H) (hn:H.length<=60) (s:PS O B fb w P F Sq w24 G outs T (H.map (·.id)) out outc) (hq:∀ b,Sq b->w.heap.size<=b/\b<w24.heap.size) (hm:m0=H.length+1) (c1 c2:Int) :
    ∀ w45,Ext w24 w45->New w45 zH4 [.int .i64 0,.int .i64 0] fun p46 w46=>zao w46 p46 [.int .i64 c1,.int .i64 c2] [] fun w47=>∀ w48,Ext w47 w48 ->
      FnP Tryz.prog za4 #[.pointer (ptr qb)] w48 fun v49 w49=>∃ a b:Int,∃ is:Bool,v49=.tuple #[.agg #[.int .i64 a,.int .i64 b],.bool is]/\zao w49 p46 [.int .i64 a,.int .i64 b] [] fun w53 =>
        (n9<=w53.heap.size/\PI O B fb qb w P F Sq out outs.length outc p46 is w53)/\PM qb is w53<m0:=by
  intro w45 e45
  refine zbG (by intro v hv; simp at hv; subst hv; rfl) fun w46 o46 e46=>?_
  refine zaZ (off:=0) (o46 w45.heap.size (Nat.le_refl _)) (zfb _) (by simp) (by simp) (by intro v hv; simp at hv; rcases hv with rfl|rfl<;>rfl) (by simp) fun w47 o47 g47 w48 e48=>?_
  have h4548:Ext w45 w48:=(g47.ext e46 (o46 w45.heap.size (Nat.le_refl _))).trans e48
  have h2448:=e45.trans h4548
  refine (zIR (q.ext h2448) hn).mono fun v w49 ⟨a,b,is,Y,hv,q49,f49,hcase⟩=>⟨a,b,is,hv,?_⟩
  have hsz:=e45.size
  have hps:∀ c,(some ⟨w45.heap.size,0,none⟩:Option Addr)=some c->¬ Sq c.block:=fun c hc hs=>by cases hc; have:=(hq _ hs).2; simp only at this; omega
  have o49:=(o47.ext e48).fr f49 hps
  refine zaZ (off:=0) o49 (zfb _) (by simp [zdG]) (by simp) (by intro v hv; simp at hv; rcases hv with rfl|rfl<;>rfl) (by simp) fun w53 o53 g53=>?_
  have f53:Fr (fun c=>c=w45.heap.size) w49 w53:=zaR g53 fun c hc=>by cases hc; rfl
  have fall:Fr Sq w24 w53:=((zad h2448).tr f49).trans f53 fun c hc=>.inr (by subst hc; exact hsz)
  have q53:QS w.heap.size Sq F qb w53 Y:=q49.fr f53 fun c hc h=>by have:=(hq _ hc).2; omega
  have s53:=s.fr' fall fun c hc=>(hq c hc).1
  have hxap:∀ c,(some ⟨w45.heap.size,0,none⟩:Option Addr)=some c->¬ ft fb P.jp c.block/\¬ Sq c.block/\∀ o,out=some o->o.block≠c.block:=fun c hc=>by
    refine ⟨fun hf=>?_,hps c hc,fun o ho h=>?_⟩
    · obtain ⟨PP,h1,x⟩:=s.fx
      rw [<- h1] at hf
      have:=(x.foot hf).2
      cases hc
      simp only at this; omega
    · have:=(s.own.lt o ho).2
      cases hc
      simp only at h; omega
  have h953:n9<=w53.heap.size:=by have:=fall.size; omega
  rcases hcase with ⟨rfl,rfl,rfl⟩|⟨rfl,hlt,hbef,hperm⟩
  · exact ⟨⟨h953,G,outs,T,[],rfl,q53,by simp,.inl ⟨rfl,s53⟩⟩,by unfold PM; simp; omega⟩
  · refine ⟨⟨h953,G,outs,T,Y,rfl,q53,by omega,.inr ⟨rfl,a,b,⟨o53.weak (Nat.zero_le _),hxap⟩,hbef,s53.shift hperm⟩⟩,?_⟩
    unfold PM
    rw [q53.len]
    simp; omega
theorem FXO.put2 (x:FXO O B w fb P F) {jp:Option Addr} (hj:P.jp=jp) {k:Int} (h0:0<=k) (h1:k<F.jobs.length) {m:Nat} (hm:11<=m/\m<=15) (v:Int) {ns:List Nat} (hns:∀ b∈ns,¬ ft fb jp b) {K:World->Prop}
    (hk:∀ w' P',P'.jp=jp->FXO O B w' fb P' (stF F k.toNat m v)->Fr (ft fb jp) w w'->K w'):zao w (pAdd (pIdx jp k 16) m) [.int .i64 v] ns K:=by
  subst hj
  exact x.put h0 h1 hm v hns hk
theorem zKR {A B C:List Int} {x:Int} (h:(A++(x::B)).Perm C):x∈C:=h.mem_iff.1 (by simp)
theorem zr2 {F G:Fm} (h:G.jobs.map (·.job)=F.jobs.map (·.job)):G.jobs.length=F.jobs.length:=by have:=congrArg List.length h; simpa using this
theorem zEe (x:FXO O B w fb P F) (ha:zld F) (hh:zkJ F.hosts):FnP Tryz.prog zbp #[.pointer (ptr fb)] w (zI4 O B fb w P F):=by
  have ne:=zaL fb
  have hl0:=x.jO.1
  refine zmZ (ptr fb) w _ fun w0 h0=>qnew_k.mono fun v w1 ⟨e1,qb,mb,hv,hqb,hQ⟩=>⟨e1,_,hv,ne,ne,?_⟩
  have e01:=h0.trans e1
  have x1:=x.ext e01
  refine ⟨_,_,_,x1.cell (i:=6) rfl,?_⟩
  rw [x1.len]
  refine ⟨fun k w'=>0<=k/\k<=F.jobs.length/\Fr (ft fb P.jp) w w'/\∃ (born:Int) (p:Option Addr) (c:Nat) (m:List (Int×Value)) (H:List Th) (P':Pl),P'.jp=P.jp/\QQ w.heap.size w' qb mb born p c H m/\Rel H m/\HQ F k.toNat born H/\FXO (fun b=>O b\/ziz mb qb p H b) B w' fb P' F,fun k _=>(F.jobs.length-k).toNat,⟨by omega,by omega,zad e01,0,none,0,[],[],P,rfl,hQ _ h0.size,⟨by simp,fun id v h=>by simp [ziD] at h⟩,⟨by simp [zg9],by simp,by simp,by omega,by omega⟩,?_⟩,?_⟩
  · exact x.more e01 fun b hb=>hb.imp id fun h=>(hQ _ h0.size).foot h
  rintro k w8 ⟨hk0,hk1,f8,born,p,c,m,H,P8,hP8,q8,r8,hq8,x8⟩
  have hkn:((k.toNat:Nat):Int)=k:=by omega
  have hk1n:(k+1).toNat=k.toNat+1:=by omega
  have hHl:H.length<=60:=by
    have:=hq8.1.length_eq
    have:=zp2 F k.toNat
    simp at *; omega
  refine ⟨fun hlt=>⟨ne,ne,_,_,_,x8.cell (i:=6) rfl,?_⟩,fun hge w9 h9=>?_⟩
  · obtain ⟨r,hr,hF,hjp,hne,_,g,hJ,hok,hwf⟩:=x8.st hk0 (by omega)
    have hja:zac F k.toNat=r.s:=zhL hF
    refine ⟨hjp,hk0,by rw [x8.len]; omega,fun w12 h12=>(zKT (x8.ext h12) ha hk0 (by omega)).mono fun v w13 ⟨e13,hv⟩=>⟨e13,_,hv,fun hb=>⟨hne,hne,by rw [zaP]; exact hne,_,by rw [zaP]; exact g 1 _ rfl,i64 (by omega),fun w16 h16=>?_⟩,fun hb=>⟨i64 (by omega),⟨by omega,by omega,f8,born,p,c,m,H,P8,hP8,q8,r8,?_,x8⟩,by simp only []; omega⟩⟩⟩
    · obtain ⟨hq1,hq2,hq3,hq4,hq5⟩:=hq8
      have hidk:∀ t∈H,t.id≠k+1:=fun t ht h=>by
        have:=(zfD.1 (hq1.mem_iff.1 (List.mem_map_of_mem ht))).2.1
        omega
      refine (qput_k (q8.ext h16) r8 (by omega) (by omega) (Nat.le_trans f8.size h16.size) r.s.job.prio (k+1)).mono fun v w17 ⟨e,hv,hbad,hgood⟩=>⟨e,hv,i64 (by omega),?_⟩
      have he:e=0:=by
        by_cases h:e=0
        · exact h
        · rcases (hbad h).2 with ⟨⟨t,ht,hid⟩,_⟩|⟨h200,_⟩
          · exact absurd hid (hidk t ht)
          · omega
      obtain ⟨_,_,b,p',c',Y,qY,hp,f17,hgrow⟩:=hgood he
      have r17:=zKV r8 (t:=⟨b,r.s.job.prio,k+1,born+1⟩) hidk hp
      have hq17:=hq_put (k:=k.toNat) (b:=b) ⟨hq1,hq2,hq3,hq4,hq5⟩ (by rw [hja]; unfold zac at hja; rw [hja] at hb; exact hb) (Y:=Y) (by
        rw [hja,hkn]; exact hp)
      have fall:Fr (ziz mb qb p H) w8 w17:=(zad h16).tr f17
      refine ⟨⟨by omega,by omega,f8.trans fall fun b hb=>.inr ((q8.foot hb).1),born+1,p',c',_,Y,P8,hP8,qY,r17,?_,?_⟩,by simp only []; omega⟩
      · rw [hk1n]; exact hq17
      · refine x8.go fall (fun b hb=>.inr hb) fun b hb=>?_
        rcases hb with hb|hb
        · exact .inl (.inl hb)
        · rcases hgrow b hb with h|h
          · exact .inl (.inr h)
          · exact .inr ⟨Nat.le_trans h16.size h,(qY.foot hb).2⟩
    · rw [hk1n]
      obtain ⟨hq1,hq2,hq3,hq4,hq5⟩:=hq8
      refine ⟨?_,hq2,hq3,hq4,by omega⟩
      unfold zg9
      rw [if_neg (by rw [hja]; unfold zac at hja; rw [hja] at hb; rw [hb]; simp)]
      exact hq1
  have hkl:k.toNat=F.jobs.length:=by omega
  rw [hkl] at hq8
  obtain ⟨hq1,hq2,hq3,hq4,hq5⟩:=hq8
  let Sq:Nat->Prop:=ziz mb qb p H
  have hSq:∀ b,Sq b->w.heap.size<=b/\b<w8.heap.size:=fun b hb=>q8.foot hb
  have Q8:QS w.heap.size Sq F qb w8 H:=⟨⟨mb,born,p,c,m,q8,r8,fun b hb=>hb⟩,by
    have:(H.map (·.id)).Nodup:=(hq1.nodup_iff).2 (zhZ F _)
    exact this,fun t ht=>(hq2 t ht).1,hq3⟩
  have S8:PS O B fb w P F Sq w8 F [] [] (H.map (·.id)) none 0:=⟨⟨P8,hP8,x8.less fun b hb=>by
    rcases hb with hb|hb|⟨a,ha,_⟩
    · exact .inl hb
    · exact .inr hb
    · cases ha⟩,f8,.nil F,hh,rfl,Own.nil,fun a ha=>(by cases ha),hq1,List.Pairwise.nil,by simp,by simp⟩
  refine (zIR (Q8.ext h9) hHl).mono fun v w10 ⟨a,b,is,Y,hv,Q10,f10,hcase⟩=>⟨a,b,is,hv,fun w14 h14=>?_⟩
  have s10:=(S8.ext h9).fr' f10 fun c hc=>(hSq c hc).1
  have s14:=s10.ext h14
  have Q14:=Q10.ext h14
  refine zbG (by intro v hv; simp at hv; subst hv; rfl) fun w15 o15 e15=>?_
  refine zaZ (off:=0) (o15 w14.heap.size (Nat.le_refl _)) (zfb _) (by simp) (by simp) (by intro v hv; simp at hv; rcases hv with rfl|rfl<;>rfl) (by simp) fun w16 o16 g16=>?_
  have e16:Ext w14 w16:=g16.ext e15 (o15 w14.heap.size (Nat.le_refl _))
  have s16:=s14.ext e16
  have Q16:=Q14.ext e16
  have hsz14:w8.heap.size<=w14.heap.size:=Nat.le_trans (Nat.le_trans h9.size f10.size) h14.size
  refine ⟨fun out outl outc x is w'=>w14.heap.size<=w'.heap.size/\PI O B fb qb w P F Sq out outl outc x is w',fun out outl outc x is w'=>PM qb is w',⟨e16.size,?_⟩,?_⟩
  · rcases hcase with ⟨rfl,rfl,rfl⟩|⟨rfl,hlt,hbef,hperm⟩
    · exact ⟨F,[],[],[],rfl,Q16,by simp,.inl ⟨rfl,s16⟩⟩
    · refine ⟨F,[],[],Y,rfl,Q16,by omega,.inr ⟨rfl,a,b,⟨o16.weak (Nat.zero_le _),fun c hc=>⟨fun hf=>?_,fun hs=>?_,fun o ho=>by cases ho⟩⟩,hbef,s16.shift hperm⟩⟩
      · obtain ⟨PP,h1,x14⟩:=s14.fx
        rw [<- h1] at hf
        have:=(x14.foot hf).2
        cases hc
        simp only at this; omega
      · have:=(hSq _ hs).2
        cases hc
        simp only at this; omega
  rintro out outl outc xp is w21 ⟨hsz21,G,outs,T,H,rfl,Q21,hH,hc⟩
  refine ⟨fun his=>?_,fun his w22 h22=>?_⟩
  · rcases hc with ⟨h,_⟩|⟨_,a,b,xc,hbef,s21⟩
    · rw [his] at h; cases h
    have hsq21:∀ b,Sq b->w.heap.size<=b/\b<w21.heap.size:=fun b hb=>by have:=hSq b hb; omega
    obtain ⟨xn,_,_,xb⟩:=xc.c0
    obtain ⟨PP,hPP,x21⟩:=s21.fx
    have hbin:=zfD.1 (zKR s21.perm)
    have hGl:=zr2 s21.job
    have hin:inJ G b:=⟨hbin.1,by rw [hGl]; exact hbin.2.1⟩
    have hk:(b-1).toNat<G.jobs.length:=by have:=hin.1; have:=hin.2; omega
    have hls:=zIK s21 hl0
    refine ⟨xn,b,xb,fun w23 h23=>(zFS (x21.ext h23) b (i64 (by have:=hin.1; have:=hin.2; omega))).mono fun v w24 ⟨e24,hv⟩=>⟨e24,?_⟩⟩
    rcases hv with ⟨hno,_⟩|⟨_,_,rfl⟩
    · exact absurd hin hno
    have e2124:=h23.trans e24
    have x24:=x21.ext e2124
    have s24:=s21.ext e2124
    have Q24:=Q21.ext e2124
    have xc24:=xc.ext e2124
    have hsq24:∀ b,Sq b->w.heap.size<=b/\b<w24.heap.size:=fun b hb=>by have:=hsq21 b hb; have:=e2124.size; omega
    obtain ⟨r,hr,hF,hjp,hne,g',g,hJ,hok,hwf⟩:=x24.st (k:=b-1) (by have:=hin.1; omega) (by have:=hin.2; omega)
    have hja:zac G (b-1).toNat=r.s:=zhL hF
    have c5:∀ (j:Nat) (v:Value),(zrR r)[5+j]?=some v->Go.Sx.cell w24 (pAdd (pAdd (pIdx PP.jp (b-1) 16) 0) 5) j=some v:=fun j v hv=>by
      rw [zaP,zam]; exact g' _ _ hv
    have c2:∀ (j:Nat) (v:Value),(zrR r)[2+j]?=some v->Go.Sx.cell w24 (pAdd (pAdd (pIdx PP.jp (b-1) 16) 0) 2) j=some v:=fun j v hv=>by
      rw [zaP,zam]; exact g' _ _ hv
    have n0:pAdd (pIdx PP.jp (b-1) 16) 0≠none:=by rw [zaP]; exact hne
    have n5:pAdd (pAdd (pIdx PP.jp (b-1) 16) 0) 5≠none:=fun h=>n0 (zdj.1 h)
    have n2:pAdd (pAdd (pIdx PP.jp (b-1) 16) 0) 2≠none:=fun h=>n0 (zdj.1 h)
    have hO:=x24.hO
    refine ⟨_,rfl,ne,ne,_,_,_,x24.cell (i:=0) rfl,hne,hne,n0,n5,_,c5 0 _ rfl,_,c5 1 _ rfl,_,c5 2 _ rfl,_,c5 3 _ rfl,_,_,_,c5 4 _ rfl,hne,hne,n0,n2,_,c2 0 _ rfl,_,c2 1 _ rfl,_,c2 2 _ rfl,fun w39 h39=>?_⟩
    refine (zHY PP.hp PP.hc G.hosts (by omega) hO.2 r.s.job.ask r.pa r.ca hwf.ask r.s.job.nd w39 ((x24.ext h39).hs w39 (Fr.refl _ _)) (hJ.1.ext h39)).mono fun v w40 ⟨e40,k,e,hv,hres⟩=>⟨e40,k,e,hv,?_⟩
    have hall:zxM G.hosts r.s.job.ask r.s.job.nd:=⟨s24.hs,hok.ask,hok.nd⟩
    have hm:PM qb is w21=H.length+1:=by unfold PM; rw [his,if_pos rfl,Q21.len]
    refine ⟨fun he=>?_,fun he=>?_⟩
    · have hsk:zuF G b=[]:=by
        rcases hres with ⟨_,_,_,h⟩|⟨h,_⟩
        · have:=h hall
          unfold zuF
          rw [hja]
          exact this
        · exact absurd h he
      obtain ⟨_,x0,x1,_⟩:=xc24.c0
      have s':PS O B fb w P F Sq w24 G outs (T++[b]) (H.map (·.id)) out outc:=⟨s24.fx,s24.fr,s24.run.snoc_skip hsk,s24.hs,s24.job,s24.own,s24.ap,by simpa using s24.perm,List.pairwise_append.2 ⟨s24.pw,by simp,fun y hy z hz=>by simp at hz; subst hz; exact s24.lt y hy _ (by simp)⟩,fun y hy z hz=>by
        rcases List.mem_append.1 hy with hy|hy
        · exact s24.lt y hy z (List.mem_cons_of_mem _ hz)
        · simp at hy; subst hy
          obtain ⟨u,hu,rfl⟩:=List.mem_map.1 hz
          exact hbef u hu,by rw [List.length_append]; have:=s24.len; simp; omega⟩
      exact ⟨xn,_,x0,_,x1,zvR (by have:=e2124.size; omega) Q24 hH s' hsq24 hm a b⟩
    · obtain ⟨_,_,hbest⟩:e=0/\zxM G.hosts r.s.job.ask r.s.job.nd/\zf2 G.hosts r.s.job.ask r.s.job.nd k:=by
        rcases hres with ⟨h,_⟩|h
        · exact absurd he h
        · exact h
      obtain ⟨hk0,hk1,hfit⟩:=zoy.1 hbest.1
      have hkI:InR .i64 k:=i64 (by omega)
      refine ⟨ne,ne,_,_,_,x24.cell (i:=0) rfl,hne,hne,n0,n2,_,c2 0 _ rfl,_,c2 1 _ rfl,_,c2 2 _ rfl,fun w49 h49=>?_⟩
      have x49:=x24.ext h49
      refine (Take_k PP.hp PP.hc G.hosts (by omega) hO.2 k r.s.job.nd w49 (x49.hs w49 (Fr.refl _ _))).mono fun v w50 ⟨e50,p',n',c',e',hv,htk⟩=>⟨e50,p',n',c',e',hv,ne,ne,?_⟩
      have hfN:zj9 r.s.job.nd (ziu (G.hosts.getD k.toNat default).has (G.hosts.getD k.toNat default).used):=by
        unfold zGA at hfit
        rw [Bool.and_eq_true,decide_eq_true_iff] at hfit
        exact hfit.2
      rcases htk with ⟨_,_,hno⟩|⟨_,_,_,_,rfl,_,_,_,hS⟩
      · exact absurd ⟨hok.nd,hfN⟩ (hno s24.hs hk0 hk1)
      have x50:=x49.ext e50
      refine zaZ (off:=0) x50.slot rfl (by simp) (by simp) (by intro u hu; simp at hu; subst hu; rfl) (by simp) fun w55 o55 g55=>⟨ne,ne,?_⟩
      have hG:zkV G (b-1).toNat k={ G with hosts:=G.hosts.set k.toNat (zfX (G.hosts.getD k.toNat default) (zwG (G.hosts.getD k.toNat default).used r.s.job.nd)) }:=by unfold zkV zpt; rw [hja]
      have fg:Fr (ft fb PP.jp) w50 w55:=zaR g55 fun a ha=>by cases ha; exact .inl rfl
      obtain ⟨y55,f55⟩:=x50.slot_to (F':=zkV G (b-1).toNat k) (P':={ PP with hp:=p',hc:=c' }) (by
        rw [hG]
        show Own B w55 zdq 7 (ptr fb) 1 1 [.slice p' (G.hosts.set _ _).length c',_,_,_,_,_,_]
        rw [List.length_set]; exact o55) g55 rfl rfl rfl rfl (fun w'' kf=>by
          rw [hG]
          exact hS (ftO (OQ O Sq out) fb PP.jp) (fun b hb=>by
            rcases hb with hb|hb
            · exact x49.olt b hb
            · exact (x49.foot hb).2) w'' ((fg.mono fun b hb=>.inr hb).tr kf)) (by
        rw [hG]
        refine ⟨by show (G.hosts.set _ _).length<=30; rw [List.length_set]; exact hO.1,fun h hh=>?_⟩
        have hh:h∈G.hosts.set k.toNat (zfX (G.hosts.getD k.toNat default) (zwG (G.hosts.getD k.toNat default).used r.s.job.nd)):=hh
        rcases List.mem_or_eq_of_mem_set hh with hh|rfl
        · exact hO.2 h hh
        · have:=hO.2 _ (zap G.hosts default (i:=k.toNat) (by omega))
          exact this)
      refine ⟨G.now,y55.cell (i:=5) rfl,hne,hne,?_⟩
      refine y55.put2 (jp:=PP.jp) rfl (k:=b-1) (by have:=hin.1; omega) (by have:=hin.2; exact (by omega:b-1<(G.jobs.length:Int))) (by omega) 2 (by simp) fun w57 P1 hP1 y57 f57=>⟨hne,hne,?_⟩
      refine y57.put2 hP1 (k:=b-1) (by have:=hin.1; omega) (by rw [zbN]; have:=hin.2; exact (by omega:b-1<(G.jobs.length:Int))) (by omega) k (by simp) fun w58 P2 hP2 y58 f58=>⟨hne,hne,?_⟩
      refine y58.put2 hP2 (k:=b-1) (by have:=hin.1; omega) (by rw [zbN,zbN]; have:=hin.2; exact (by omega:b-1<(G.jobs.length:Int))) (by omega) G.now (by simp) fun w59 P3 hP3 y59 f59=>⟨xn,?_⟩
      have y59:FXO (OQ O Sq out) B w59 fb P3 (zfQ G (b-1).toNat k):=y59
      have f2459:Fr (ft fb PP.jp) w24 w59:=((((zad (h49.trans e50)).tr f55).tr f57).tr f58).tr f59
      have hdis:∀ c,OQ O Sq out c->¬ ft fb PP.jp c:=x24.odis
      have hxd:∀ c,xp=some c->¬ ft fb PP.jp c.block:=fun c hc=>by rw [hPP]; exact (xc24.ap c hc).1
      obtain ⟨_,x0,x1,_⟩:=xc24.c0
      have x1':=zdS x1 f2459 hxd
      refine ⟨b,by rw [zam]; exact x1',?_⟩
      have o59:=s24.own.fr f2459 fun c hc=>hdis _ (.inr (.inr ⟨c,hc,rfl⟩))
      have hsz24:w.heap.size<=w24.heap.size:=s24.fr.size
      have hsz59:w.heap.size<=w59.heap.size:=Nat.le_trans hsz24 f2459.size
      refine push (v:=.agg #[.int .i64 b,.int .i64 k]) zsI (by omega) o59 hsz59 rfl (by intro u hu; simp [Value.cells] at hu; rcases hu with rfl|rfl<;>rfl) (by omega) (by omega) (by omega) fun out' outc' w67 o67 g67 hne67=>⟨xn,?_⟩
      have f67:Fr (fun c=>∃ o,out=some o/\o.block=c) w59 w67:=zaR g67 fun a ha=>⟨a,ha,rfl⟩
      have hout':∀ a,out'=some a->(∃ o,out=some o/\o.block=a.block)\/(w59.heap.size<=a.block/\a.block<w67.heap.size):=fun a ha=>by
        rcases g67.new with hn|hn
        · left
          rw [ha] at hn
          cases ho:out with
          |none => rw [ho] at hn; simp [blk] at hn
          |some y => rw [ho] at hn; simp [blk] at hn; exact ⟨y,rfl,by omega⟩
        · exact .inr ⟨hn a ha,(o67.lt a ha).2⟩
      have hxo:∀ c,xp=some c->¬ ∃ o,out=some o/\o.block=c.block:=fun c hc ⟨o,ho,hk⟩=>(xc24.ap c hc).2.2 o ho hk
      refine ⟨a,zdS (zdS x0 f2459 hxd) f67 hxo,b,zdS x1' f67 hxo,?_⟩
      have f2467:Fr (fun c=>ft fb P.jp c\/∃ o,out=some o/\o.block=c) w24 w67:=by
        rw [hPP] at f2459
        exact (f2459.mono fun c hc=>.inl hc).tr (f67.mono fun c hc=>.inr hc)
      have Q67:QS w.heap.size Sq F qb w67 H:=Q24.fr f2467 fun c hc h=>by
        rcases h with h|⟨o,ho,rfl⟩
        · rw [<- hPP] at h; exact hdis c (.inr (.inl hc)) h
        · exact s24.ap o ho hc
      have hsz67:=f2467.size
      have s67:PS O B fb w P F Sq w67 (zfQ G (b-1).toNat k) (outs++[(b,k)]) (T++[b]) (H.map (·.id)) out' outc':=by
        refine ⟨⟨P3,hP3.trans hPP,y59.go f67 (fun c hc=>.inr (.inr hc)) fun c hc=>?_⟩,s24.fr.trans f2467 fun c hc=>?_,s24.run.snoc_run (by rw [hja]; exact hbest),?_,(zHw hk k).trans s24.job,?_,fun c hc hs=>?_,by simpa using s24.perm,List.pairwise_append.2 ⟨s24.pw,by simp,fun y hy z hz=>by simp at hz; subst hz; exact s24.lt y hy _ (by simp)⟩,fun y hy z hz=>?_,by rw [List.length_append,List.length_append]; have:=s24.len; simp; omega⟩
        · rcases hc with hc|hc|⟨c,hc,rfl⟩
          · exact .inl (.inl hc)
          · exact .inl (.inr (.inl hc))
          · rcases hout' c hc with h|h
            · exact .inl (.inr (.inr h))
            · exact .inr h
        · rcases hc with hc|⟨o,ho,rfl⟩
          · exact .inl hc
          · exact .inr (s24.own.lt o ho).1
        · exact zvk s24.hs hk0 hk1 (by rw [hja]; exact hok.nd) (by rw [hja]; exact hfN)
        · rw [List.flatMap_append,List.length_append]
          simpa [Value.cells,encO] using o67
        · rcases hout' c hc with ⟨o,ho,hk⟩|h
          · rw [<- hk] at hs; exact s24.ap o ho hs
          · have:=(hsq24 _ hs).2; have:=f2459.size; omega
        · rcases List.mem_append.1 hy with hy|hy
          · exact s24.lt y hy z (List.mem_cons_of_mem _ hz)
          · simp at hy; subst hy
            obtain ⟨u,hu,rfl⟩:=List.mem_map.1 hz
            exact hbef u hu
      have:=zvR (n9:=w14.heap.size) (by have:=e2124.size; omega) Q67 hH s67 (fun c hc=>by have:=hsq24 c hc; omega) hm a b
      rw [List.length_append] at this
      exact this
  · rcases hc with ⟨_,s21⟩|⟨h,_⟩
    · have s22:=s21.ext h22
      obtain ⟨PP,h1,x22⟩:=s22.fx
      refine ⟨G,outs,out,outc,PP,rfl,⟨T,⟨by simpa using s22.perm,s22.pw⟩,s22.run⟩,s22.hs,s22.job,h1,x22.less fun b hb=>.inl hb,s22.fr,s22.own,(zIK s22 hl0).1⟩
    · rw [his] at h; cases h
end
theorem neN_k {a b:Nd} {w:World} {K:Value->World->Prop} (hk:K (.bool (!decide (a=b))) w):Run Tryz.prog (.eq .neq zio false false (nv a) (nv b)) w K :=
  zK3 (n:=3) (k:=.i64) (by kernel_rfl) (by kernel_rfl) (by kernel_rfl) (by kernel_rfl) [a.c,a.m,a.g] [b.c,b.m,b.g] rfl rfl (by
    have:decide (a=b)=decide ([a.c,a.m,a.g]=[b.c,b.m,b.g]):=decide_eq_decide.2 zKG
    rwa [this] at hk)
theorem New1_k (h:Ht) (q:Option Addr) (d:Nat) (w:World):FnP Tryz.prog zeE #[.agg #[.string h.name,.slice q h.labels.length d,.int .i64 h.has.c,.int .i64 h.has.m,.int .i64 h.has.g,.int .i64 h.used.c,.int .i64 h.used.m,.int .i64 h.used.g]] w fun v w'=>Ext w w'/\v=.bool (!decide (h.used=za7)):=by
  refine ztn h.name q h.labels.length d h.has.c h.has.m h.has.g h.used.c h.used.m h.used.g w _ fun b0 hb0 w1 h1=>?_
  refine neN_k (a:=h.used) (b:=za7) ⟨Ext.refl _,_,rfl,fun w4 h4=>⟨h4,rfl⟩⟩
theorem zFE (p:Option Addr) (c:Nat) (L:List Ht) (h63:(L.length:Int)<=9223372036854775807) (w:World) (hL:zjT w p L) :
    FnP Tryz.prog zaq #[.slice p L.length c,.func (.func zeE) #[] #[]] w fun v w'=>Ext w w'/\∃ t,v=.int .i64 t/\(0<=t↔∃ x∈L,x.used≠za7):=by
  refine zbs p L.length c _ w _ ?_
  refine ⟨fun k w'=>w'=w/\0<=k/\k<=L.length/\∀ j:Nat,(j:Int)<k->(L.getD j default).used=za7,fun k _=>(L.length-k).toNat,⟨rfl,by omega,by omega,fun j hj=>by omega⟩,?_⟩
  rintro k w ⟨rfl,hk0,hk1,hno⟩
  refine ⟨fun hlt=>?_,fun hge w4 h4=>⟨h4,_,rfl,?_⟩⟩
  · obtain ⟨q,d,n1,n2,g,_⟩:=hL.at hk0 hlt
    refine ⟨n1,hk0,hlt,n2,_,g 0 _ rfl,_,_,_,g 1 _ rfl,_,g 2 _ rfl,_,g 3 _ rfl,_,g 4 _ rfl,_,g 5 _ rfl,_,g 6 _ rfl,_,g 7 _ rfl,fun w4 h4=>?_⟩
    refine ⟨zeE,#[],rfl,(New1_k (L.getD k.toNat default) q d w4).mono fun v w5 ⟨e5,hv⟩=>⟨e5,_,hv,fun hyes w9 h9=>⟨h9,_,rfl,fun _=>⟨_,zap L default (i:=k.toNat) (by omega),by simpa using hyes⟩,fun _=>hk0⟩,fun hn=>⟨i64 (by omega),⟨rfl,by omega,by omega,fun j hj=>?_⟩,by simp only []; omega⟩⟩⟩
    by_cases hjk:(j:Int)<k
    · exact hno j hjk
    · obtain rfl:j=k.toNat:=by omega
      simpa using hn
  · constructor
    · intro h; omega
    · rintro ⟨x,hm,hx⟩
      obtain ⟨j,hj,rfl⟩:=List.getElem_of_mem hm
      have:=hno j (by omega)
      rw [show L.getD j default=L[j] by simp [List.getD_eq_getElem?_getD,hj]] at this
      exact absurd this hx
theorem zwM (p:Option Addr) (c:Nat) (L:List Ht) (h63:(L.length:Int)<=9223372036854775807) (w:World) (hL:zjT w p L) :
    FnP Tryz.prog zaN #[.slice p L.length c,.func (.func zeE) #[] #[]] w fun v w'=>Ext w w'/\∃ b:Bool,v=.bool b/\(b=true↔∃ x∈L,x.used≠za7):=by
  refine zcI p L.length c _ w _ fun w1 h1=>?_
  refine (zFE p c L h63 w1 (hL.ext h1)).mono fun v w2 ⟨e2,t,hv,ht⟩=>⟨e2,t,hv,fun w4 h4=>⟨h4,_,rfl,?_⟩⟩
  rw [decide_eq_true_iff]; exact ht
def zvm (L:List Ht) (pol:Pol):Prop:=zkJ L/\(∀ x∈L,x.used=za7)/\zmP pol
def zkG (L:List Ht) (pol:Pol):Fm:=⟨L,pol,0,[]⟩
theorem zC4 (p:Option Addr) (c:Nat) (L:List Ht) (h63:(L.length:Int)<=9223372036854775807) (hO:∀ h∈L,zwC h) (pol:Pol) (w:World) (hL:zjT w p L) :
    FnP Tryz.prog zcW #[.agg #[.slice p L.length c,.int .i64 pol.first,.int .i64 pol.times,.int .i64 pol.most,.int .i64 pol.tries]] w fun v w'=>Ext w w'/\∃ (q:Option Addr) (e:Int),v=.tuple #[.pointer q,.int .i64 e]/\(e=0↔zvm L pol)/\(e≠0->q=none) /\
      (e=0->∃ fb P,q=ptr fb/\FX w.heap.size w' fb P (zkG L pol)):=by
  refine zxV p L.length c pol.first pol.times pol.most pol.tries w _ fun b0 hb0 w1 h1=>(zsO p c L h63 hO w1 (hL.ext h1)).mono fun v w2 ⟨e2,e,hv,he,_⟩=>⟨e2,e,hv,fun hne w4 h4=>⟨h4,none,e,rfl,⟨fun h=>absurd h hne,fun h=>absurd (he.2 h.1) hne⟩,fun _=>rfl,fun h=>absurd h hne⟩,fun hz w4 h4=>?_⟩
  have hok:=he.1 hz
  refine (zwM p c L h63 w4 (hL.ext h4)).mono fun v w5 ⟨e5,b,hv,hb⟩=>⟨e5,b,hv,fun hbt w7 h7=>⟨h7,none,9,rfl,⟨fun h=>(by cases h),fun h=>?_⟩,fun _=>rfl,fun h=>(by cases h)⟩,fun hbf w7 h7=>?_⟩
  · obtain ⟨x,hx,hu⟩:=hb.1 hbt
    exact absurd (h.2.1 x hx) hu
  have hu:∀ x∈L,x.used=za7:=fun x hx=>by
    by_cases h:x.used=za7
    · exact h
    · have:=hb.2 ⟨x,hx,h⟩; rw [hbf] at this; cases this
  refine (zz0 pol.first pol.times pol.most pol.tries w7).mono fun v w8 ⟨e8,e,hv,hy,hn⟩=>⟨e8,e,hv,fun hne w10 h10=>⟨h10,none,e,rfl,⟨fun h=>absurd h hne,fun h=>absurd (hy h.2.2) hne⟩,fun _=>rfl,fun h=>absurd h hne⟩,fun hz w10 x10=>?_⟩
  have hp:zmP pol:=by
    by_cases h:zmP pol
    · exact h
    · have:=hn h; omega
  have h10:=zaa x10
  refine (zIJ p c L hok.1 (fun h hh=>(hok.2.1 h hh).2.1) w10 (hL.ext h10)).mono fun v w11 ⟨e11,p',c',M,hv,hM,o11,hA,hN⟩=>⟨e11,p',_,c',hv,fun w15 x15=>?_⟩
  have h15:=zaa x15
  refine zbG (by intro v hv; simp at hv; rcases hv with rfl|rfl|rfl|rfl|rfl|rfl|rfl<;>rfl) fun w16 o16 e16 w17 e17=>?_
  have h1117:=(h15.trans e16).trans e17
  have hall:Ext w w17:=(h10.trans e11).trans h1117
  have hs15:w.heap.size<=w15.heap.size:=Nat.le_trans h10.size (Nat.le_trans e11.size h15.size)
  have hs11:w11.heap.size<=w15.heap.size:=h15.size
  refine ⟨hall,_,0,rfl,⟨fun _=>⟨hok,hu,hp⟩,fun _=>rfl⟩,fun h=>absurd rfl h,fun _=>⟨w15.heap.size,⟨p',c',none,0,[]⟩,rfl,?_⟩⟩
  have hS:=(zDh o11 (fun m hm=>(hA m hm).1) hN).weak h10.size
  rw [hM] at hS
  refine ⟨((o16 _ hs15).ext e17),Own.nil,rfl,fun w'' k=>?_,fun r hr=>(by cases hr),fun a ha=>(by cases ha),⟨hok.1,hO⟩,⟨by simp [zkG],fun s hs=>by simp [zkG] at hs⟩,fun b hb=>Nat.lt_of_lt_of_le hb hall.size,fun b hb hf=>?_⟩
  · refine hS (fun b=>b<w.heap.size) (fun b hb=>hb) w'' ((zad h1117).trans k fun b hb=>?_)
    rcases hb with hb|hb|⟨a,ha,_⟩
    · exact .inl hb
    · subst hb; exact .inr hs11
    · cases ha
  · rcases hf with hf|⟨a,ha,_⟩
    · subst hf; have:w15.heap.size<w.heap.size:=hb; omega
    · cases ha
def can (F:Fm) (x:Ev):Prop:=okE x/\(x.kind=1->zvn F x.job)/\(x.kind=2->0<=x.n/\x.n<=1000000000/\F.now+x.n<=1099511627776)/\(x.kind=4->inJ F x.id/\(zac F (x.id-1).toNat).what=2)/\(x.kind=5->inJ F x.id/\((zac F (x.id-1).toNat).what=1\/(zac F (x.id-1).toNat).what=2))
def Did (F:Fm) (x:Ev) (F':Fm):Prop:=(¬ can F x/\F'=F)\/(can F x/\((x.kind=1/\F'=zoL F x.job)\/(x.kind=2/\F'={ F with now:=F.now+x.n })\/(x.kind=3/\∃ outs,zdc F F' outs)\/(x.kind=4/\F'=zgP F (x.id-1).toNat x.ok)\/(x.kind=5/\F'=zy7 F (x.id-1).toNat)))
def DoE (F:Fm) (x:Ev) (e:Int):Prop:=∃ e0,zIZ x e0/\((e0≠0/\e=e0)\/(e0=0 /\
  ((x.kind=1/\zI7 F x.job e)\/(x.kind=2/\((e=0/\(0<=x.n/\x.n<=1000000000/\F.now+x.n<=1099511627776))\/(e=4/\¬ (0<=x.n/\x.n<=1000000000/\F.now+x.n<=1099511627776))))\/(x.kind=3/\e=0) \/
   (x.kind=4/\(((inJ F x.id/\(zac F (x.id-1).toNat).what=2)/\e=0)\/(¬ (inJ F x.id/\(zac F (x.id-1).toNat).what=2)/\zt7 F x.id e))) \/
   (x.kind=5/\(((inJ F x.id/\((zac F (x.id-1).toNat).what=1\/(zac F (x.id-1).toNat).what=2))/\e=0)\/(¬ (inJ F x.id/\((zac F (x.id-1).toNat).what=1\/(zac F (x.id-1).toNat).what=2))/\zt7 F x.id e))))))
section
variable {O:Nat->Prop} {B fb:Nat} {w:World} {P:Pl} {F:Fm}
theorem Do_k (x:FXO O B w fb P F) (hp:Pre F) (hh:zkJ F.hosts) (y:Ev) (pa:Option Addr) (ca:Nat) (pf:Option Addr) (cf:Nat) (hJ:IsJ w y.job pa ca pf) (hW:WfJ y.job) (hB:B<=w.heap.size) :
    FnP Tryz.prog zcv #[.pointer (ptr fb),evv y pa ca pf cf] w fun v w'=>∃ (e:Int) (P':Pl) (F':Fm),v=.int .i64 e/\((e=0↔can F y)/\DoE F y e)/\Did F y F'/\FXO O B w' fb P' F'/\Fr (ft fb P.jp) w w'/\zGI w fb P.jp P'.jp:=by
  have gsame:∀ {jp},jp=P.jp->zGI w fb P.jp jp:=fun h=>by subst h; exact fun b hb=>.inl hb
  refine zpT (ptr fb) y.kind y.job.user y.job.prio y.job.nd.c y.job.nd.m y.job.nd.g y.job.ask.k y.job.ask.key y.job.ask.val y.job.ask.n pa y.job.ask.xs.length ca pf y.job.aft.length cf y.n y.id y.ok w _ fun b0 hb0 w1 h1=>(eErr_k y pa ca pf cf w1 (hJ.ext h1) hW).mono fun v w2 ⟨e2,e0,hv,he⟩=>⟨e2,e0,hv,fun hne w4 h4=>?_,fun hz=>?_⟩
  · have hno:¬ can F y:=fun h=>hne (he.ok.2 h.1)
    exact ⟨e0,P,F,rfl,⟨⟨fun h=>absurd h hne,fun h=>absurd h hno⟩,e0,he,.inl ⟨hne,rfl⟩⟩,.inl ⟨hno,rfl⟩,x.ext h4,zad h4,fun b hb=>.inl hb⟩
  have hE:=he.ok.1 hz
  have kp:∀ {w4 w5:World},zag [] [b0] w w4->Fr (ft fb P.jp) w4 w5->zbQ [b0] w4 w5:=fun x4 f=>f.kept fun b hb=>by
    simp at hb; subst hb
    refine ⟨x4.lt b (by simp),fun hf=>?_⟩
    have:=(x.foot hf).2
    omega
  have kE:∀ {w4 w5:World},zag [] [b0] w w4->Ext w4 w5->zbQ [b0] w4 w5:=fun x4 f=>kp x4 (zad f)
  have hk:=zlJ hE
  refine ⟨fun h1 w4 x4=>?_,fun h1=>⟨fun h2 w4 x4=>?_,fun h2=>⟨fun h3 w4 x4=>?_,fun h3=>⟨fun h4 w4 x4=>?_,fun h4 w4 x4=>?_⟩⟩⟩⟩
  · have h4:=zaa x4
    refine (zAj (x.ext h4) y.job pa ca pf cf (hJ.ext h4) hW (Nat.le_trans hB h4.size)).mono fun v w5 ⟨id,e,hv,⟨hiff,hS⟩,hc⟩=>?_
    have hcan:e=0↔can F y:=hiff.trans ⟨fun h=>⟨hE,fun _=>h,fun h=>by omega,fun h=>by omega,fun h=>by omega⟩,fun h=>h.2.1 h1⟩
    have hD:DoE F y e:=⟨e0,he,.inr ⟨hz,.inl ⟨h1,hS⟩⟩⟩
    rcases hc with ⟨hne,e5⟩|⟨hz,_,P',x5,f5,g5⟩
    · exact ⟨kE x4 e5,id,e,hv,fun w8 h8=>⟨e,P,F,rfl,⟨hcan,hD⟩,.inl ⟨fun h=>hne (hcan.2 h),rfl⟩,x.ext ((h4.trans e5).trans h8),zad ((h4.trans e5).trans h8),fun b hb=>.inl hb⟩⟩
    · exact ⟨kp x4 f5,id,e,hv,fun w8 h8=>⟨e,P',_,rfl,⟨hcan,hD⟩,.inr ⟨hcan.1 hz,.inl ⟨h1,rfl⟩⟩,x5.ext h8,((zad h4).tr f5).tr (zad h8),fun b hb=>(g5 b hb).imp (fun h=>h) fun h=>Nat.le_trans h4.size h⟩⟩
  · have h4:=zaa x4
    refine (zIS (x.ext h4) hp.now y.n).mono fun v w5 ⟨e,hv,hc,hiff⟩=>?_
    have hcan:e=0↔can F y:=hiff.trans ⟨fun h=>⟨hE,fun h=>by omega,fun _=>h,fun h=>by omega,fun h=>by omega⟩,fun h=>h.2.2.1 h2⟩
    rcases hc with ⟨hne,he4,e5⟩|⟨hz0,_,x5,f5⟩
    · exact ⟨kE x4 e5,e,hv,fun w8 h8=>⟨e,P,F,rfl,⟨hcan,e0,he,.inr ⟨hz,.inr (.inl ⟨h2,.inr ⟨he4,fun h=>hne (hiff.2 h)⟩⟩)⟩⟩,.inl ⟨fun h=>hne (hcan.2 h),rfl⟩,x.ext ((h4.trans e5).trans h8),zad ((h4.trans e5).trans h8),fun b hb=>.inl hb⟩⟩
    · exact ⟨kp x4 f5,e,hv,fun w8 h8=>⟨e,P,_,rfl,⟨hcan,e0,he,.inr ⟨hz,.inr (.inl ⟨h2,.inl ⟨hz0,hiff.1 hz0⟩⟩)⟩⟩,.inr ⟨hcan.1 hz0,.inr (.inl ⟨h2,rfl⟩)⟩,x5.ext h8,((zad h4).tr f5).tr (zad h8),fun b hb=>.inl hb⟩⟩
  · have h4:=zaa x4
    refine (zEe (x.ext h4) hp.aft hh).mono fun v w5 ⟨G,outs,out,outc,P',hv,hpl,_,_,hP,x5,f5,_⟩=>?_
    have hcan:(0:Int)=0↔can F y:=⟨fun _=>⟨hE,fun h=>by omega,fun h=>by omega,fun h=>by omega,fun h=>by omega⟩,fun _=>rfl⟩
    exact ⟨kp x4 f5,out,_,outc,0,hv,fun w8 h8=>⟨0,P',G,rfl,⟨hcan,e0,he,.inr ⟨hz,.inr (.inr (.inl ⟨h3,rfl⟩))⟩⟩,.inr ⟨hcan.1 rfl,.inr (.inr (.inl ⟨h3,outs,hpl⟩))⟩,x5.ext h8,((zad h4).tr f5).tr (zad h8),gsame hP⟩⟩
  · have h4':=zaa x4
    refine (ztC (x.ext h4') hp y.id (by unfold okE at hE; exact i64 (by omega)) y.ok).mono fun v w5 ⟨e,hv,hiff,hc⟩=>?_
    have hcan:e=0↔can F y:=hiff.trans ⟨fun h=>⟨hE,fun h=>by omega,fun h=>by omega,fun _=>h,fun h=>by omega⟩,fun h=>h.2.2.2.1 h4⟩
    rcases hc with ⟨hne,hR,e5⟩|⟨hz0,P',hP,x5,f5⟩
    · exact ⟨kE x4 e5,e,hv,fun w8 h8=>⟨e,P,F,rfl,⟨hcan,e0,he,.inr ⟨hz,.inr (.inr (.inr (.inl ⟨h4,.inr ⟨fun h=>hne (hiff.2 h),hR⟩⟩)))⟩⟩,.inl ⟨fun h=>hne (hcan.2 h),rfl⟩,x.ext ((h4'.trans e5).trans h8),zad ((h4'.trans e5).trans h8),fun b hb=>.inl hb⟩⟩
    · exact ⟨kp x4 f5,e,hv,fun w8 h8=>⟨e,P',_,rfl,⟨hcan,e0,he,.inr ⟨hz,.inr (.inr (.inr (.inl ⟨h4,.inl ⟨hiff.1 hz0,hz0⟩⟩)))⟩⟩,.inr ⟨hcan.1 hz0,.inr (.inr (.inr (.inl ⟨h4,rfl⟩)))⟩,x5.ext h8,((zad h4').tr f5).tr (zad h8),gsame hP⟩⟩
  · have h5:y.kind=5:=by omega
    have h4':=zaa x4
    refine (zy9 (x.ext h4') hp y.id (by unfold okE at hE; exact i64 (by omega))).mono fun v w5 ⟨e,hv,hiff,hc⟩=>?_
    have hcan:e=0↔can F y:=hiff.trans ⟨fun h=>⟨hE,fun h=>by omega,fun h=>by omega,fun h=>by omega,fun _=>h⟩,fun h=>h.2.2.2.2 h5⟩
    rcases hc with ⟨hne,hR,e5⟩|⟨hz0,P',hP,x5,f5⟩
    · exact ⟨kE x4 e5,e,hv,fun w8 h8=>⟨e,P,F,rfl,⟨hcan,e0,he,.inr ⟨hz,.inr (.inr (.inr (.inr ⟨h5,.inr ⟨fun h=>hne (hiff.2 h),hR⟩⟩)))⟩⟩,.inl ⟨fun h=>hne (hcan.2 h),rfl⟩,x.ext ((h4'.trans e5).trans h8),zad ((h4'.trans e5).trans h8),fun b hb=>.inl hb⟩⟩
    · exact ⟨kp x4 f5,e,hv,fun w8 h8=>⟨e,P',_,rfl,⟨hcan,e0,he,.inr ⟨hz,.inr (.inr (.inr (.inr ⟨h5,.inl ⟨hiff.1 hz0,hz0⟩⟩)))⟩⟩,.inr ⟨hcan.1 hz0,.inr (.inr (.inr (.inr ⟨h5,rfl⟩)))⟩,x5.ext h8,((zad h4').tr f5).tr (zad h8),gsame hP⟩⟩
end
theorem zG4 (a b:Nd) (p:Nat):zce (zwG a b) p=zce a p+zce b p:=by unfold zce zwG; split<;>rfl
theorem zG6 (a b:Nd) (p:Nat):zce (ziu a b) p=zce a p-zce b p:=by unfold zce ziu; split<;>rfl
theorem zKc {a b:Nd}:zj9 a b↔∀ p,p<3->zce a p<=zce b p:=by
  constructor
  · rintro ⟨h1,h2,h3⟩ i hi
    match i,hi with
    |0,_ => exact h1
    |1,_ => exact h2
    |2,_ => exact h3
  · intro h
    exact ⟨h 0 (by omega),h 1 (by omega),h 2 (by omega)⟩
def zet (s:St) (i:Int) (p:Nat):Int:=if s.what=2/\s.host=i then zce s.job.nd p else 0
def use (F:Fm) (i:Int) (p:Nat):Nat->Int
  |0 => 0
  |n+1 => use F i p n+zet (zac F n) i p
theorem zAl {s:St} (h:okN s.job.nd) (i:Int) {p:Nat} (hp:p<3):0<=zet s i p:=by
  unfold zet
  split
  · exact (zpK.1 h p hp).1
  · omega
theorem zIV {F:Fm} (h:∀ k,k<F.jobs.length->okN (zac F k).job.nd) (i:Int) {p:Nat} (hp:p<3):∀ {n:Nat},n<=F.jobs.length->0<=use F i p n
  |0,_ => by simp [use]
  |n+1,hn => by
    have:=zIV h i hp (n:=n) (by omega)
    have:=zAl (h n (by omega)) i hp
    unfold use; omega
theorem zIU {F:Fm} (h:∀ k,k<F.jobs.length->okN (zac F k).job.nd) (i:Int) {p:Nat} (hp:p<3) {k:Nat}:∀ {n:Nat},n<=F.jobs.length->k<n->zet (zac F k) i p<=use F i p n
  |0,_,hk => by omega
  |n+1,hn,hk => by
    unfold use
    by_cases hkn:k=n
    · subst hkn
      have:=zIV h i hp (n:=k) (by omega)
      omega
    · have:=zIU h i hp (n:=n) (by omega) (by omega:k<n)
      have:=zAl (h n (by omega)) i hp
      omega
structure ziJ (F G:Fm) (k:Nat) (s:St):Prop where
  len:G.jobs.length=F.jobs.length
  pol:G.pol=F.pol
  now:G.now=F.now
  hlen:G.hosts.length=F.hosts.length
  at_:∀ i,zac G i=if i=k then s else zac F i
  job:s.job=(zac F k).job
theorem ziJ.self {F G:Fm} {k:Nat} {s:St} (t:ziJ F G k s):zac G k=s:=by rw [t.at_,if_pos rfl]
theorem ziJ.other {F G:Fm} {k:Nat} {s:St} (t:ziJ F G k s) {i:Nat} (h:i≠k):zac G i=zac F i:=by rw [t.at_,if_neg h]
theorem ziJ.jobs {F G:Fm} {k:Nat} {s:St} (t:ziJ F G k s) (i:Nat):(zac G i).job=(zac F i).job:=by
  rw [t.at_]
  split
  · rename_i h; rw [h]; exact t.job
  · rfl
theorem zAw {F G:Fm} {k:Nat} {s:St} (t:ziJ F G k s) (i:Int) (p:Nat):∀ n,use G i p n=use F i p n+(if k<n then zet s i p-zet (zac F k) i p else 0)
  |0 => by simp [use]
  |n+1 => by
    unfold use
    rw [zAw t i p n,t.at_ n]
    by_cases h1:n=k
    · subst h1
      rw [if_pos rfl,if_neg (by omega),if_pos (by omega)]; omega
    · rw [if_neg h1]
      by_cases h2:k<n
      · rw [if_pos h2,if_pos (by omega)]; omega
      · rw [if_neg h2,if_neg (by omega)]; omega
def zeu (p:Pol) (s:St):Prop:=0<=s.tries/\s.tries<=p.tries+1/\(s.what=4->s.tries=p.tries+1)/\(s.what=1\/s.what=2->s.tries<=p.tries)/\(s.what=1->0<s.tries->zli p s.tries<=s.again)
def aftJ (F:Fm):Prop:=∀ k,k<F.jobs.length->∀ y∈(zac F k).job.aft,1<=y/\y<=k
theorem zCg {F:Fm}:zld F↔aftJ F:=by
  constructor
  · intro h k hk y hy
    exact h k _ (zrZ hk) y hy
  · intro h i s hs y hy
    have hi:i<F.jobs.length:=(List.getElem?_eq_some_iff.1 hs).1
    rw [<- zhL hs] at hy
    exact h i hi y hy
structure zyS (F:Fm):Prop where
  aft:aftJ F
  pol:zmP F.pol
  now:0<=F.now/\F.now<=1099511627776
  hs:zkJ F.hosts
  nd:∀ k,k<F.jobs.length->okN (zac F k).job.nd
  hrun:∀ k,k<F.jobs.length->(zac F k).what=2->0<=(zac F k).host/\(zac F k).host<F.hosts.length
  use:∀ i:Nat,i<F.hosts.length->∀ p,p<3->zce (F.hosts.getD i default).used p=use F i p F.jobs.length
  ahead:∀ k,k<F.jobs.length->(zac F k).what=2\/(zac F k).what=3->∀ y∈(zac F k).job.aft,za1 F y=3
  tries:∀ k,k<F.jobs.length->zeu F.pol (zac F k)
def zE4 (F:Fm) (n:Nat):Prop:=∀ k,k<n->(zac F k).what=1->∀ y∈(zac F k).job.aft,za1 F y≠4/\za1 F y≠5
structure Inv (F:Fm):Prop where
  i0:zyS F
  wt:zE4 F F.jobs.length
theorem zyS.lv {F:Fm} (I:zyS F) {k:Nat} (hk:k<F.jobs.length) (hw:(zac F k).what=2):LvOk F k:=by
  obtain ⟨h0,h1⟩:=I.hrun k hk hw
  refine ⟨I.hs,h0,h1,zKc.2 fun p hp=>?_⟩
  rw [I.use _ (by omega) p hp]
  have:=zIU I.nd (((zac F k).host.toNat:Nat):Int) hp (k:=k) (n:=F.jobs.length) (Nat.le_refl _) hk
  unfold zet at this
  rw [if_pos ⟨hw,by omega⟩] at this
  exact this
theorem zyS.pre {F:Fm} (I:zyS F):Pre F:=⟨zCg.2 I.aft,I.pol,I.now,fun k hk hw=>I.lv hk hw,fun k hk=>by
  have h:=I.tries k hk
  have hp:=I.pol
  unfold zeu at h
  unfold zmP okP at hp
  omega⟩
theorem zbz (F:Fm) (y:Int):za1 F y=(zac F (y-1).toNat).what:=rfl
theorem zlx {F G:Fm} {k:Nat} {s:St} (I:zyS F) (t:ziJ F G k s) (hk:k<F.jobs.length) (hhs:zkJ G.hosts) (hrun:s.what=2->0<=s.host/\s.host<F.hosts.length)
    (huse:∀ i:Nat,i<F.hosts.length->∀ p,p<3->zce (G.hosts.getD i default).used p=zce (F.hosts.getD i default).used p+(zet s i p-zet (zac F k) i p))
    (ha:s.what=2\/s.what=3->∀ y∈s.job.aft,za1 F y=3) (hb:(zac F k).what=3->s.what=3) (ht:zeu F.pol s):zyS G:=by
  have haft:aftJ G:=fun i hi y hy=>by
    rw [t.jobs] at hy
    rw [t.len] at hi
    exact I.aft i hi y hy
  refine ⟨haft,by rw [t.pol]; exact I.pol,by rw [t.now]; exact I.now,hhs,fun i hi=>by rw [t.jobs]; exact I.nd i (by rw [t.len] at hi; exact hi),fun i hi hw=>?_,fun i hi p hp=>?_,fun i hi hw y hy=>?_,fun i hi=>?_⟩
  · rw [t.hlen]
    rw [t.len] at hi
    rw [t.at_] at hw ⊢
    split at hw
    · rename_i h; rw [if_pos h]; exact hrun hw
    · rename_i h; rw [if_neg h]; exact I.hrun i hi hw
  · rw [t.hlen] at hi
    rw [huse i hi p hp,I.use i hi p hp,t.len,zAw t,if_pos hk]
  · rw [t.len] at hi
    have hy':=hy
    rw [t.jobs] at hy'
    have hle:=I.aft i hi y hy'
    rw [zbz,t.at_]
    by_cases hik:i=k
    · subst hik
      rw [if_neg (by omega),<- zbz]
      rw [t.self] at hw hy
      exact ha hw y hy
    · rw [t.other hik] at hw
      have h3:=I.ahead i hi hw y hy'
      split
      · rename_i h
        rw [zbz,h] at h3
        exact hb h3
      · exact h3
  · rw [t.len] at hi
    rw [t.pol,t.at_]
    split
    · exact ht
    · exact I.tries i hi
theorem ziJ.st (F:Fm) {k m:Nat} (v:Int) (hk:k<F.jobs.length):ziJ F (stF F k m v) k (zhb m v (zac F k)):=⟨zbN F k m v,rfl,rfl,rfl,fun i=>zj1 F v hk i,zlZ m v _⟩
theorem zFU {F:Fm} {s:St}:zLw F s=true↔∃ y∈s.job.aft,za1 F y=4\/za1 F y=5:=by
  unfold zLw
  rw [List.any_eq_true]
  simp [Bool.or_eq_true]
theorem zDD {F:Fm} (I:zyS F) {n:Nat} (hn:n<F.jobs.length) (hw:zE4 F n):zyS (zbv F n)/\zE4 (zbv F n) (n+1):=by
  unfold zbv
  split
  · rename_i h
    have t:=ziJ.st F (m:=11) 5 hn
    have h5:(zhb 11 5 (zac F n)).what=5:=rfl
    refine ⟨zlx I t hn I.hs (fun h2=>by rw [h5] at h2; omega) (fun i hi p hp=>?_) (fun h2=>by rw [h5] at h2; omega) (fun h3=>by rw [h.1] at h3; omega) ?_,fun k hk h1 y hy=>?_⟩
    · have e1:zet (zhb 11 5 (zac F n)) i p=0:=by unfold zet; rw [if_neg (fun h=>by rw [h5] at h; omega)]
      have e2:zet (zac F n) i p=0:=by unfold zet; rw [if_neg (fun g=>by rw [h.1] at g; omega)]
      rw [e1,e2,zjQ]; omega
    · have:=I.tries n hn
      unfold zeu at this ⊢
      simp only [zhb]
      omega
    · rw [t.at_] at h1
      rw [t.jobs] at hy
      split at h1
      · rw [h5] at h1; omega
      · rename_i hkn
        have hle:=I.aft k (by omega) y hy
        have:=hw k (by omega) h1 y hy
        rw [zbz,t.other (by omega),<- zbz]
        exact this
  · rename_i h
    refine ⟨I,fun k hk h1 y hy=>?_⟩
    by_cases hkn:k=n
    · subst hkn
      have:zLw F (zac F k)≠true:=fun hb=>h ⟨h1,hb⟩
      rw [Ne,zFU] at this
      exact ⟨fun h=>this ⟨y,hy,.inl h⟩,fun h=>this ⟨y,hy,.inr h⟩⟩
    · exact hw k (by omega) h1 y hy
theorem zzP {F:Fm} (I:zyS F):Inv (zlB F):=by
  have h:∀ n,n<=F.jobs.length->zyS (lostTo F n)/\zE4 (lostTo F n) n:=by
    intro n
    induction n with
    |zero => intro _; exact ⟨I,fun k hk => by omega⟩
    |succ n ih =>
      intro hn
      obtain ⟨a,b⟩:=ih (by omega)
      exact zDD a (by rw [zfh]; omega) b
  obtain ⟨a,b⟩:=h _ (Nat.le_refl _)
  refine ⟨a,?_⟩
  unfold zlB
  rw [zfh]
  exact b
theorem zGG {F:Fm} {k:Nat} (i:Nat) (p:Nat) (h0:0<=(zac F k).host) (h1:(zac F k).host<F.hosts.length) (hw:(zac F k).what=2):zce ((zkB F k).hosts.getD i default).used p=zce (F.hosts.getD i default).used p-zet (zac F k) i p:=by
  unfold zkB zet
  by_cases hi:(zac F k).host.toNat=i
  · rw [if_pos ⟨hw,by omega⟩]
    subst hi
    simp only [List.getD_eq_getElem?_getD,List.getElem?_set_self (show (zac F k).host.toNat<F.hosts.length by omega)]
    simp only [Option.getD_some,zfX]
    rw [zG6]
  · rw [if_neg (fun h=>by omega)]
    simp only [List.getD_eq_getElem?_getD,List.getElem?_set_ne hi]
    omega
theorem zKi {F:Fm} (I:zyS F) {k:Nat} (hk:k<F.jobs.length) (hw:(zac F k).what=2):zkJ (zkB F k).hosts:=by
  obtain ⟨_,h0,h1,hf⟩:=I.lv hk hw
  have hm:=zap F.hosts default (i:=(zac F k).host.toNat) (by omega)
  obtain ⟨_,_,_,c,d,e⟩:=I.hs.2.1 _ hm
  have hn:=I.nd k hk
  refine zvl I.hs (by omega) ?_ ?_
  · unfold okN zj9 ziu at *; simp only; omega
  · unfold okN zj9 ziu at *; simp only; omega
theorem zlw {F G:Fm} {k:Nat} {s:St} (I:zyS F) (hk:k<F.jobs.length) (hw:(zac F k).what=2) (t:ziJ F G k s) (hG:G.hosts=(zkB F k).hosts) (hs:s.what≠2) (ht:zeu F.pol s):zyS G:=by
  obtain ⟨h0,h1⟩:=I.hrun k hk hw
  refine zlx I t hk (by rw [hG]; exact zKi I hk hw) (fun h=>absurd h hs) (fun i hi p hp=>?_) (fun h y hy=>?_) (fun h=>by omega) ht
  · rw [hG,zGG i p h0 h1 hw]
    have:zet s i p=0:=by unfold zet; rw [if_neg (fun h=>hs h.1)]
    rw [this]; omega
  · rw [t.job] at hy
    exact I.ahead k hk (.inl hw) y hy
theorem znm {F G:Fm} {k:Nat} {s:St} (I:Inv F) (t:ziJ F G k s) (hk:k<F.jobs.length) (hs:s.what≠4/\s.what≠5) (h1:s.what=1->∀ y∈s.job.aft,za1 F y≠4/\za1 F y≠5):zE4 G G.jobs.length:=fun i hi hw y hy=>by
  rw [t.len] at hi
  have hy':=hy
  rw [t.jobs] at hy'
  have hle:=I.i0.aft i hi y hy'
  rw [zbz,t.at_]
  split
  · exact hs
  · rw [<- zbz]
    by_cases hik:i=k
    · subst hik
      rw [t.self] at hw hy
      exact h1 hw y hy
    · rw [t.other hik] at hw
      exact I.wt i hi hw y hy'
theorem ziJ.left {F:Fm} {k:Nat} (hk:k<F.jobs.length):ziJ F (zdB F k) k { zac F k with host:=0,since:=0 }:=⟨zb8 F k,rfl,rfl,by unfold zdB; rw [zjQ,zjQ]; unfold zkB; simp,fun i=>zjK hk i,rfl⟩
theorem ziJ.then_ {F G:Fm} {k:Nat} {s:St} (t:ziJ F G k s) (hk:k<F.jobs.length) (m:Nat) (v:Int):ziJ F (stF G k m v) k (zhb m v s):=by
  have u:=ziJ.st G (m:=m) v (by rw [t.len]; exact hk)
  refine ⟨u.len.trans t.len,u.pol.trans t.pol,u.now.trans t.now,u.hlen.trans t.hlen,fun i=>?_,(zlZ m v s).trans t.job⟩
  rw [u.at_]
  split
  · rw [t.self]
  · rename_i h; rw [t.other h]
theorem ztB {F:Fm} (I:Inv F) {k:Nat} (hk:k<F.jobs.length) (hw:(zac F k).what=2) (ok:Bool):Inv (zgP F k ok):=by
  have ht:=I.i0.tries k hk
  have hp:=I.i0.pol
  have tl:=ziJ.left hk
  have h3:=I.i0.ahead k hk (.inl hw)
  have hn:=I.i0.now
  unfold zgP
  split
  · have t:=tl.then_ hk 11 3
    refine ⟨zlw I.i0 hk hw t rfl (by simp [zhb]) ?_,znm I t hk (by simp [zhb]) (by simp [zhb])⟩
    unfold zeu at ht ⊢
    simp only [zhb]
    omega
  have tt:ziJ F (zcH F k) k _:=tl.then_ hk 15 ((zac F k).tries+1)
  split
  · rename_i hle
    have t:=(tt.then_ hk 11 1).then_ hk 14 (F.now+zli F.pol ((zac F k).tries+1))
    refine ⟨zlw I.i0 hk hw t rfl (by simp [zhb]) ?_,znm I t hk (by simp [zhb]) (fun _ y hy=>?_)⟩
    · unfold zeu at ht ⊢
      simp only [zhb]
      refine ⟨by omega,by omega,by omega,by omega,fun _ _=>by omega⟩
    · have:=h3 y hy
      omega
  · rename_i hgt
    have t:=tt.then_ hk 11 4
    refine zzP (zlw I.i0 hk hw t rfl (by simp [zhb]) ?_)
    unfold zeu at ht ⊢
    simp only [zhb]
    omega
theorem zCA {F:Fm} (I:Inv F) {k:Nat} (hk:k<F.jobs.length) (hw:(zac F k).what=1\/(zac F k).what=2):Inv (zy7 F k):=by
  have ht:=I.i0.tries k hk
  unfold zy7
  refine zzP ?_
  split
  · rename_i h2
    have t:=(ziJ.left hk).then_ hk 11 5
    refine zlw I.i0 hk h2 t rfl (by simp [zhb]) ?_
    unfold zeu at ht ⊢
    simp only [zhb]
    omega
  · rename_i h2
    have h1:(zac F k).what=1:=by omega
    have t:=ziJ.st F (m:=11) 5 hk
    refine zlx I.i0 t hk I.i0.hs (by simp [zhb]) (fun i hi p hp=>?_) (by simp [zhb]) (fun h=>by omega) ?_
    · have e1:zet (zhb 11 5 (zac F k)) i p=0:=by unfold zet; rw [if_neg (by simp [zhb])]
      have e2:zet (zac F k) i p=0:=by unfold zet; rw [if_neg (by omega)]
      rw [e1,e2,zjQ]; omega
    · unfold zeu at ht ⊢
      simp only [zhb]
      omega
end Go.Proofs.YtcceeahmcecbnaaGreatDoor
