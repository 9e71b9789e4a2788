/- The framework, the program's texts and what is shown of them: part 6. -/
import Derived.Test.YtcceeahmcecbnaaGreatDoorWTopOrder5
import Derived.Shelf.Spec.TrailingZeros
import Derived.Lay
import Derived.Test.YtcceeahmcecbnaaGreatDoorRows
set_option linter.unusedVariables false
set_option linter.unusedSimpArgs false
set_option maxRecDepth 100000
namespace Go.Proofs.YtcceeahmcecbnaaGreatDoor
open Go.Sx Go.RowKit
theorem zqd {F:Fm} {j:Jb} (i:Nat):zac (zoL F j) i=if i<F.jobs.length then zac F i else if i=F.jobs.length then zta j else default:=by
  unfold zac zoL
  simp only [List.getD_eq_getElem?_getD]
  split
  · rename_i h; rw [List.getElem?_append_left h]
  · rename_i h
    rw [List.getElem?_append_right (by omega)]
    split
    · rename_i h2; rw [h2]; simp
    · rename_i h2
      rw [List.getElem?_eq_none (by simp; omega)]; rfl
theorem znj (F:Fm) (j:Jb):(zoL F j).jobs.length=F.jobs.length+1:=by simp [zoL]
theorem zE3 {F:Fm} {j:Jb} (i:Int) (p:Nat):∀ n,n<=F.jobs.length->use (zoL F j) i p n=use F i p n
  |0,_ => rfl
  |n+1,h => by
    unfold use
    rw [zE3 i p n (by omega),zqd,if_pos (by omega)]
theorem upA_ge {l:List Int} (h:upA 0 l):∀ x∈l,1<=x:=fun x hx=>(zgI h x hx).1
theorem ztJ {F:Fm} {j:Jb} (I:Inv F) (h:zvn F j):Inv (zoL F j):=by
  have hup:∀ x∈j.aft,1<=x:=upA_ge h.1.up
  have wh:∀ y:Int,1<=y->y<=F.jobs.length->za1 (zoL F j) y=za1 F y:=fun y h1 h2=>by rw [zbz,zqd,if_pos (by omega),<- zbz]
  have cs:∀ {k},k<(zoL F j).jobs.length->k<F.jobs.length/\zac (zoL F j) k=zac F k\/k=F.jobs.length/\zac (zoL F j) k=zta j:=fun {k} hk=>by
    rw [znj] at hk
    rw [zqd]
    by_cases h:k<F.jobs.length
    · exact .inl ⟨h,if_pos h⟩
    · exact .inr ⟨by omega,by rw [if_neg h,if_pos (by omega)]⟩
  refine ⟨⟨fun k hk y hy=>?_,I.i0.pol,I.i0.now,I.i0.hs,fun k hk=>?_,fun k hk hw=>?_,fun i hi p hp=>?_,fun k hk hw y hy=>?_,fun k hk=>?_⟩,fun k hk hw y hy=>?_⟩
  · rcases cs hk with ⟨hk,e⟩|⟨hk,e⟩<;>rw [e] at hy
    · exact I.i0.aft k hk y hy
    · have:=(h.2.2 y hy).1
      exact ⟨hup y hy,by omega⟩
  · rcases cs hk with ⟨hk,e⟩|⟨hk,e⟩<;>rw [e]
    · exact I.i0.nd k hk
    · exact h.1.nd
  · rcases cs hk with ⟨hk,e⟩|⟨hk,e⟩<;>rw [e] at hw ⊢
    · exact I.i0.hrun k hk hw
    · simp [zta] at hw
  · rw [znj]
    unfold use
    rw [zE3 _ _ _ (Nat.le_refl _),zqd,if_neg (by omega),if_pos rfl]
    have:zet (zta j) i p=0:=by unfold zet; rw [if_neg (by simp [zta])]
    rw [this]
    have:=I.i0.use i hi p hp
    show zce (F.hosts.getD i default).used p=_
    omega
  · rcases cs hk with ⟨hk,e⟩|⟨hk,e⟩<;>rw [e] at hw hy
    · have:=I.i0.aft k hk y hy
      rw [wh y this.1 (by omega)]
      exact I.i0.ahead k hk hw y hy
    · simp [zta] at hw
  · rcases cs hk with ⟨hk,e⟩|⟨hk,e⟩<;>rw [e]
    · exact I.i0.tries k hk
    · have hp:=I.i0.pol
      unfold zmP okP at hp
      show zeu F.pol (zta j)
      unfold zeu zta
      simp only
      omega
  · rcases cs hk with ⟨hk,e⟩|⟨hk,e⟩<;>rw [e] at hw hy
    · have:=I.i0.aft k hk y hy
      rw [wh y this.1 (by omega)]
      exact I.wt k hk hw y hy
    · have h1:=h.2.2 y hy
      rw [wh y (hup y hy) h1.1]
      exact h1.2
theorem zdk {F:Fm} {s:St}:zdD F s=true↔s.what=1/\s.again<=F.now/\∀ y∈s.job.aft,za1 F y=3:=by
  unfold zdD
  simp [Bool.and_eq_true,List.all_eq_true,and_assoc]
theorem ziJ.run {F:Fm} {k0:Nat} {k:Int} (hk:k0<F.jobs.length):ziJ F (zfQ F k0 k) k0 { zac F k0 with what:=2,host:=k,since:=F.now }:=⟨zjj F k0 k,rfl,rfl,by show (zkV F k0 k).hosts.length=_; unfold zkV; simp,fun i=>zvY hk k i,rfl⟩
theorem zlW (F:Fm) (k0:Nat) (k:Int):(zfQ F k0 k).hosts=(zkV F k0 k).hosts:=rfl
theorem zuo {L:List Ht} {t:AT} {a:Nd} {k:Int} (h:zf2 L t a k):0<=k/\k<L.length/\zj9 a (ziu (L.getD k.toNat default).has (L.getD k.toNat default).used):=by
  obtain ⟨h0,h1,h2⟩:=zoy.1 h.1
  unfold zGA at h2
  rw [Bool.and_eq_true,decide_eq_true_iff] at h2
  exact ⟨h0,h1,h2.2⟩
theorem zHO {F:Fm} {k0:Nat} {k:Int} (i:Nat) (p:Nat) (h0:0<=k) (h1:k<F.hosts.length):zce ((zkV F k0 k).hosts.getD i default).used p=zce (F.hosts.getD i default).used p+(if k=i then zce (zac F k0).job.nd p else 0):=by
  unfold zkV zpt
  by_cases hi:k.toNat=i
  · rw [if_pos (by omega)]
    subst hi
    simp only [List.getD_eq_getElem?_getD,List.getElem?_set_self (show k.toNat<F.hosts.length by omega)]
    simp only [Option.getD_some,zfX]
    rw [zG4]
  · rw [if_neg (fun h=>by omega)]
    simp only [List.getD_eq_getElem?_getD,List.getElem?_set_ne hi]
    omega
theorem zyi {F:Fm} (I:Inv F) {k0:Nat} (hk:k0<F.jobs.length) (hr:zdD F (zac F k0)=true) {k:Int} (hb:zf2 F.hosts (zac F k0).job.ask (zac F k0).job.nd k):Inv (zfQ F k0 k):=by
  obtain ⟨h0,h1,hf⟩:=zuo hb
  obtain ⟨r1,r2,r3⟩:=zdk.1 hr
  have t:=ziJ.run (k:=k) hk
  have ht:=I.i0.tries k0 hk
  refine ⟨zlx I.i0 t hk (by rw [zlW]; exact zvk I.i0.hs h0 h1 (I.i0.nd k0 hk) hf) (fun _=>⟨h0,h1⟩) (fun i hi p hp=>?_) (fun _ y hy=>r3 y hy) (fun h=>by omega) ?_,znm I t hk (by simp) (by simp)⟩
  · rw [zlW,zHO i p h0 h1]
    have e2:zet (zac F k0) i p=0:=by unfold zet; rw [if_neg (by omega)]
    rw [e2]
    unfold zet
    simp only [true_and]
    omega
  · unfold zeu at ht ⊢
    simp only
    omega
theorem zqz.ind {Mot:Fm->Prop} (step:∀ F id k,inJ F id->zdD F (zac F (id-1).toNat)=true->zf2 F.hosts (zac F (id-1).toNat).job.ask (zac F (id-1).toNat).job.nd k->Mot F->Mot (zfQ F (id-1).toNat k)) :
    ∀ {F G:Fm} {ids:List Int} {outs:List (Int×Int)},zqz F ids G outs->ids.Nodup->(∀ id∈ids,inJ F id/\zdD F (zac F (id-1).toNat)=true)->Mot F->Mot G:=by
  intro F G ids outs h
  induction h with
  |nil F => intro _ _ m; exact m
  |skip h1 _ ih =>
    intro hn hr m
    exact ih (List.nodup_cons.1 hn).2 (fun id h=>hr id (List.mem_cons_of_mem _ h)) m
  |@run F F' id k ids out h1 _ ih =>
    intro hn hr m
    obtain ⟨hin,hrd⟩:=hr id (List.mem_cons_self ..)
    have hk:(id-1).toNat<F.jobs.length:=by have:=hin.1; have:=hin.2; omega
    have t:=ziJ.run (k:=k) hk
    refine ih (List.nodup_cons.1 hn).2 (fun id' h=>?_) (step F id k hin hrd h1 m)
    obtain ⟨hin',hrd'⟩:=hr id' (List.mem_cons_of_mem _ h)
    have hne:id'≠id:=fun h2=>(List.nodup_cons.1 hn).1 (h2▸h)
    have hk':(id'-1).toNat≠(id-1).toNat:=by have:=hin.1; have:=hin'.1; omega
    refine ⟨⟨hin'.1,by rw [t.len]; exact hin'.2⟩,?_⟩
    rw [t.other hk']
    rw [zdk] at hrd' hrd ⊢
    refine ⟨hrd'.1,by rw [t.now]; exact hrd'.2.1,fun y hy=>?_⟩
    have:=hrd'.2.2 y hy
    rw [zbz] at this ⊢
    rw [t.at_]
    split
    · rename_i h; rw [h] at this; omega
    · exact this
theorem zvK {F:Fm} {T:List Int} (h:zI2 F T):T.Nodup:=(h.1.nodup_iff).2 (zhZ F _)
theorem zpZ {F:Fm} {T:List Int} (h:zI2 F T):∀ id∈T,inJ F id/\zdD F (zac F (id-1).toNat)=true:=fun id hi=>by
  obtain ⟨a,b,c⟩:=zfD.1 (h.1.mem_iff.1 hi)
  exact ⟨⟨a,b⟩,c⟩
theorem zjO {Mot:Fm->Prop} (step:∀ F id k,inJ F id->zdD F (zac F (id-1).toNat)=true->zf2 F.hosts (zac F (id-1).toNat).job.ask (zac F (id-1).toNat).job.nd k->Mot F->Mot (zfQ F (id-1).toNat k)) {F G:Fm} {outs:List (Int×Int)} (h:zdc F G outs) (m:Mot F):Mot G:=by
  obtain ⟨T,h1,h2⟩:=h
  exact h2.ind step (zvK h1) (zpZ h1) m
theorem zgh {F:Fm} {id:Int} (h:inJ F id):(id-1).toNat<F.jobs.length:=by have:=h.1; have:=h.2; omega
theorem zzX {F G:Fm} {outs:List (Int×Int)} (h:zdc F G outs) (I:Inv F):Inv G :=
  zjO (fun F id k hin hr hb I=>zyi I (zgh hin) hr hb) h I
theorem zCN {F G:Fm} {x:Ev} (h:Did F x G) (I:Inv F):Inv G:=by
  rcases h with ⟨_,rfl⟩|⟨hc,h⟩
  · exact I
  obtain ⟨hE,c1,c2,c4,c5⟩:=hc
  rcases h with ⟨a,rfl⟩|⟨a,rfl⟩|⟨a,o,h⟩|⟨a,rfl⟩|⟨a,rfl⟩
  · exact ztJ I (c1 a)
  · have h2:=c2 a
    have hn:=I.i0.now
    exact ⟨⟨I.i0.aft,I.i0.pol,by show 0<=F.now+x.n/\F.now+x.n<=1099511627776; omega,I.i0.hs,I.i0.nd,I.i0.hrun,by
      intro i hi p hp
      have:=I.i0.use i hi p hp
      have e:∀ n,use { F with now:=F.now+x.n } i p n=use F i p n:=fun n=>by
        induction n with
        |zero => rfl
        |succ n ih => unfold use; rw [ih]; rfl
      rw [e]; exact this,I.i0.ahead,I.i0.tries⟩,I.wt⟩
  · exact zzX h I
  · exact ztB I (zgh (c4 a).1) (c4 a).2 x.ok
  · exact zCA I (zgh (c5 a).1) (c5 a).2
theorem zxG {L:List Ht} {pol:Pol} (h:zvm L pol):Inv (zkG L pol):=by
  refine ⟨⟨fun k hk=>(by simp [zkG] at hk),h.2.2,by simp [zkG],h.1,fun k hk=>(by simp [zkG] at hk),fun k hk=>(by simp [zkG] at hk),fun i hi p hp=>?_,fun k hk=>(by simp [zkG] at hk),fun k hk=>(by simp [zkG] at hk)⟩,fun k hk=>(by simp [zkG] at hk)⟩
  have hm:=h.2.1 _ (zap L default (i:=i) hi)
  show zce (L.getD i default).used p=0
  rw [hm]
  unfold zce za7
  split<;>rfl
structure zFc (n:Nat) (w:World) (p:Option Addr) (c:Nat) (R:List StR):Prop where
  own:Own n w ziT 16 p R.length c (R.flatMap zrR)
  far:∀ r∈R,Far n w fun w''=>IsJ w'' r.s.job r.pa r.ca r.pf
theorem zFc.st {n:Nat} {w:World} {p:Option Addr} {c:Nat} {R:List StR} (h:zFc n w p c R) {k:Int} (h0:0<=k) (h1:k<R.length):∃ r,R[k.toNat]?=some r/\p≠none/\pIdx p k 16≠none/\(∀ (m:Nat) u,(zrR r)[m]?=some u->Go.Sx.cell w (pIdx p k 16) m=some u)/\IsJ w r.s.job r.pa r.ca r.pf:=by
  obtain ⟨r,hr⟩:∃ r,R[k.toNat]?=some r:=⟨_,List.getElem?_eq_getElem (by omega)⟩
  have g:∀ (m:Nat) u,(zrR r)[m]?=some u->Go.Sx.cell w (pIdx p k 16) m=some u:=fun m u hu=>(h.own.recs fun _ _=>rfl).at h0 hr hu
  have g0:=g 0 _ rfl
  exact ⟨r,hr,fun h=>zai g0 (zah.2 h),zai g0,g,(h.far r (List.mem_of_getElem? hr)).at⟩
theorem zCY {t:AT} (h:zmh t=0):zeY t=0:=by
  unfold zmh at h
  split at h
  · omega
  · exact h
section
variable {O:Nat->Prop} {B fb:Nat} {w:World} {P:Pl} {F:Fm}
theorem zuc (x:FXO O B w fb P F):FnP Tryz.prog zaz #[.pointer (ptr fb)] w fun v w'=>Ext w w'/\∃ (p:Option Addr) (c:Nat) (R:List StR),v=.slice p R.length c/\R.map (·.s)=F.jobs/\zFc w.heap.size w' p c R:=by
  have ne:=zaL fb
  have hl:=x.len
  have hl0:=x.jO.1
  refine zmY (ptr fb) w _ ⟨ne,ne,_,_,_,x.cell (i:=6) rfl,?_⟩
  rw [hl]
  refine ⟨fun out outl outc k w'=>Ext w w'/\0<=k/\k<=F.jobs.length/\outl=k.toNat/\∃ R:List StR,R.map (·.s)=F.jobs.take k.toNat/\Own w.heap.size w' ziT 16 out outl outc (R.flatMap zrR) /\
      ∀ r∈R,∀ w'',Fr (fun b=>b<w.heap.size\/∃ a,out=some a/\a.block=b) w' w''->IsJ w'' r.s.job r.pa r.ca r.pf,
    fun _ _ _ k _=>(F.jobs.length-k).toNat,⟨Ext.refl _,by omega,by omega,rfl,[],rfl,Own.nil,fun x hx=>(by cases hx)⟩,?_⟩
  rintro out outl outc k w6 ⟨x6,hk0,hk1,rfl,R,hR,oR,hT⟩
  have hRl:R.length=k.toNat:=by have:=congrArg List.length hR; rw [List.length_map,List.length_take] at this; omega
  refine ⟨fun hlt=>?_,fun hge w7 h7=>?_⟩
  · obtain ⟨r,hr,hF,hjp,hne,g,_,hJ,hok,hwf⟩:=(x.ext x6).st hk0 hlt
    refine ⟨hjp,hk0,hlt,hne,_,g 0 _ rfl,_,g 1 _ rfl,_,g 2 _ rfl,_,g 3 _ rfl,_,g 4 _ rfl,_,g 5 _ rfl,_,g 6 _ rfl,_,g 7 _ rfl,_,g 8 _ rfl,_,_,_,g 9 _ rfl,_,_,_,g 10 _ rfl,_,g 11 _ rfl,_,g 12 _ rfl,_,g 13 _ rfl,_,g 14 _ rfl,_,g 15 _ rfl,fun b27 hb27 w28 x28=>?_⟩
    have h28:=zaa x28
    refine (zD3 r w28 (hJ.ext h28) (zCY hok.ask) hok.len).mono fun v w29 ⟨e29,r',hv,hrs,hF'⟩=>⟨e29,_,_,_,_,_,_,_,_,_,r'.pa,_,r'.ca,r'.pf,_,r'.cf,_,_,_,_,_,hv,?_⟩
    have h629:=h28.trans e29
    have hw29:=x6.trans h629
    have oR29:=oR.ext h629
    have hns:∀ b∈[b27],∀ y,out=some y->y.block≠b:=fun b hb y hy=>by
      simp at hb; subst hb
      have:=(oR.lt y hy).2; omega
    refine znW (v:=sv r') zhG (by omega) oR29 hw29.size hns rfl (by intro u hu; simp [Value.cells] at hu; rcases hu with rfl|rfl|rfl|rfl|rfl|rfl|rfl|rfl|rfl|rfl|rfl|rfl|rfl|rfl|rfl|rfl<;>rfl) (by omega) (by omega) (by omega) fun out' outc' w56 o56 g56 _ hb56=>⟨i64 (by omega),⟨g56.ext hw29 oR29,by omega,by omega,by omega,R++[r'],?_,?_,?_⟩,by simp only []; omega⟩
    · rw [show (k+1).toNat=k.toNat+1 by omega,List.map_append,hR,List.take_add_one,hF]
      simp [hrs]
    · rw [List.flatMap_append]
      simpa [Value.cells,zrR] using o56
    · have step:∀ (w0 w'':World),Ext w0 w29->w0.heap.size<=w29.heap.size->Fr (fun b=>b<w.heap.size\/∃ a,out'=some a/\a.block=b) w56 w''->Fr (fun b=>b<w.heap.size\/∃ a,out=some a/\a.block=b) w0 w'':=fun w0 w'' h0 hs fw=>by
        have f1:Fr (fun b=>b<w.heap.size\/∃ a,out=some a/\a.block=b) w0 w56:=(zad h0).tr (zaR g56 fun a ha=>.inr ⟨a,ha,rfl⟩)
        refine f1.trans fw fun b hb=>?_
        rcases hb with h|⟨a2,ha2,hk2⟩
        · exact .inl (.inl h)
        rcases g56.new with hn|hn
        · left
          rw [ha2] at hn
          cases hout:out with
          |none => rw [hout] at hn; simp [blk] at hn
          |some y => rw [hout] at hn; simp [blk] at hn; exact .inr ⟨y,rfl,by omega⟩
        · right
          have:=hn a2 ha2
          omega
      intro y hy w'' fw
      rcases List.mem_append.1 hy with hy|hy
      · exact hT y hy w'' (step w6 w'' h629 h629.size fw)
      · simp at hy; subst hy
        rw [hrs]
        refine hF' _ (fun b hb=>?_) w'' (step w29 w'' (Ext.refl _) (Nat.le_refl _) fw)
        rcases hb with h|⟨a,ha,rfl⟩
        · have:=x6.size; have:=h28.size; omega
        · have:=(oR.lt a ha).2; have:=h28.size; omega
  · have hkl:k.toNat=F.jobs.length:=by omega
    rw [hkl,List.take_length] at hR
    refine ⟨x6.trans h7,out,outc,R,by rw [hRl],hR,⟨by rw [hRl]; exact oR.ext h7,fun r hr S hS w'' fw=>hT r hr w'' ((zad h7).tr (fw.mono fun b hb=>.inl (hS b hb)))⟩⟩
theorem zBT (x:FXO O B w fb P F) (hh:zkJ F.hosts):FnP Tryz.prog zba #[.pointer (ptr fb)] w fun v w'=>Ext w w'/\∃ (p:Option Addr) (c:Nat),v=.slice p F.hosts.length c/\F.hosts.length<=c/\HsS w.heap.size w' p F.hosts:=by
  have ne:=zaL fb
  refine zlO (ptr fb) w _ ⟨ne,ne,_,_,_,x.cell (i:=0) rfl,fun w3 h3=>?_⟩
  refine (zIJ P.hp P.hc F.hosts hh.1 (fun h hx=>(hh.2.1 h hx).2.1) w3 ((x.ext h3).hs w3 (Fr.refl _ _))).mono fun v w4 ⟨e4,p',c',M,hv,hM,o4,hA,hN⟩=>⟨e4,p',_,c',hv,fun w8 h8=>⟨(h3.trans e4).trans h8,p',c',rfl,o4.le.1,?_⟩⟩
  have hS:=(zDh o4 (fun m hm=>(hA m hm).1) hN).weak h3.size
  rw [hM] at hS
  exact hS.ext h8
end
theorem zz9 {R:List StR} {F:Fm} (h:R.map (·.s)=F.jobs) {k:Nat} {r:StR} (hr:R[k]?=some r):k<F.jobs.length/\zac F k=r.s:=by
  have:F.jobs[k]?=some r.s:=by rw [<- h,List.getElem?_map,hr]; rfl
  exact ⟨(List.getElem?_eq_some_iff.1 this).1,zhL this⟩
theorem ztE {R:List StR} {F:Fm} (h:R.map (·.s)=F.jobs):R.length=F.jobs.length:=by have:=congrArg List.length h; simpa using this
def lng (y:Int):Prop:=(y%4=0/\y%100≠0)\/y%400=0
instance (y:Int):Decidable (lng y):=by unfold lng; infer_instance
def ah (m:Int):Int:=if m<=1 then 0 else if m=2 then 31 else if m=3 then 59 else if m=4 then 90 else if m=5 then 120 else if m=6 then 151 else if m=7 then 181 else if m=8 then 212 else if m=9 then 243 else if m=10 then 273 else if m=11 then 304 else 334
def Gl (w:World):Prop:=∀ i:Nat,i<13->cell w (some (⟨10,0,none⟩:Addr)) i=some (.int .i64 (ah i))
def GT (w:World):Prop:=∀ i:Nat,i<64->cell w (some (⟨9,0,none⟩:Addr)) i=some (.int .u8 ((Lib.deBruijn64tab.getD i 0:Nat):Int))
def GC (w:World):Prop:=GT w/\Gl w
structure Cr where
  a:Int
  b:Int
  c:Int
  d:Int
  e:Int
def hit (x:Cr) (u:Int):Prop:=tb x.a (u%60).toNat=true/\tb x.b (u/60).toNat=true
def zwe:List ByteArray:=[⟨#[]⟩,⟨#[119,97,105,116]⟩,⟨#[114,117,110]⟩,⟨#[100,111,110,101]⟩,⟨#[102,97,105,108]⟩,⟨#[103,111,110,101]⟩]
def errT:Value:=.iface 329 (.agg #[.pointer (some ⟨11,175,none⟩)])
structure GD (w:World):Prop where
  gb:GB w
  whats:zav w (some ⟨4,0,none⟩) (zwe.map Value.string)
  eType:Go.Sx.cell w (some ⟨0,0,none⟩) 0=some errT
  gc:GC w
theorem tab_fr {P:Program} {S:Nat->Prop} {w w':World} {name:String} {k:IntKind} {zs:List Int} (h:Lib.TabIs P w name k zs) (f:Fr S w w') (hS:∀ g,P.globalNamed name=some g->¬ S g):Lib.TabIs P w' name k zs:=by
  unfold Lib.TabIs World.var? at *
  cases hg:P.globalNamed name with
  |none => simp [hg] at h
  |some g =>
    simp only [hg,Option.bind_some] at h ⊢
    have hlt:g<w.heap.size:=by
      rcases Nat.lt_or_ge g w.heap.size with h'|h'
      · exact h'
      · rw [Array.getElem?_eq_none h'] at h; simp at h
    rw [f.block g hlt (hS g hg)]; exact h
theorem g1 : Tryz.prog.globalNamed "internal/strconv.uint64pow10" = some 1 := by kernel_rfl
theorem GB.fr {S:Nat->Prop} {w w':World} (g:GB w) (f:Fr S w w') (h:∀ b,S b->11<=b):GB w':=by
  have n:∀ b,b<11->¬ S b:=fun b hb hs=>by have:=h b hs; omega
  refine ⟨tab_fr g.pow f fun b hb=>?_,?_,?_,?_⟩
  · rw [g1] at hb; injection hb with hb; subst hb; exact n 1 (by omega)
  · obtain ⟨m,e⟩:=g.maxLen; exact ⟨m,zdS e f fun a ha=>by cases ha; exact n 5 (by omega)⟩
  · obtain ⟨m,e,k⟩:=g.eSyn; exact ⟨m,zdS e f fun a ha=>(by cases ha; exact n 2 (by omega)),k⟩
  · obtain ⟨m,e,k⟩:=g.eRan; exact ⟨m,zdS e f fun a ha=>(by cases ha; exact n 3 (by omega)),k⟩
theorem GD.fr {S:Nat->Prop} {w w':World} (g:GD w) (f:Fr S w w') (h:∀ b,S b->11<=b):GD w':=by
  have n:∀ b,b<11->¬ S b:=fun b hb hs=>by have:=h b hs; omega
  exact ⟨g.gb.fr f h,g.whats.fr f fun a ha=>(by cases ha; exact n 4 (by omega)),zdS g.eType f fun a ha=>(by cases ha; exact n 0 (by omega)),⟨fun i hi=>zdS (g.gc.1 i hi) f fun a ha=>(by cases ha; exact n 9 (by omega)),fun i hi=>zdS (g.gc.2 i hi) f fun a ha=>(by cases ha; exact n 10 (by omega))⟩⟩
theorem GD.ext {w w':World} (g:GD w) (e:Ext w w'):GD w':=g.fr (zad (S:=fun _=>False) e) fun _ h=>h.elim
def EV (v:Value) (c:Int):Prop:=(c=0/\v=.nilIface)\/(c≠0/\(v=.iface 24 (.int .i64 c)\/∃ k:Int,v=.iface 257 (.agg #[.int .i64 k,.iface 24 (.int .i64 c)])))
theorem EV.isErr {v:Value} {c:Int} (h:EV v c):isErr v:=by
  rcases h with ⟨_,h⟩|⟨_,h|⟨k,h⟩⟩
  · exact .inl h
  · exact .inr ⟨_,_,h⟩
  · exact .inr ⟨_,_,h⟩
theorem EV.nil {v:Value} {c:Int} (h:EV v c):v=.nilIface↔c=0:=by
  rcases h with ⟨h0,h⟩|⟨h0,h|⟨k,h⟩⟩
  · exact ⟨fun _=>h0,fun _=>h⟩
  · exact ⟨fun g=>(by rw [h] at g; cases g),fun g=>absurd g h0⟩
  · exact ⟨fun g=>(by rw [h] at g; cases g),fun g=>absurd g h0⟩
theorem u24:Tryz.prog.underlying 24=some (.int .i64):=by kernel_rfl
theorem zvd {c:Int} {w:World} {K:Value->World->Prop} (h:K (.iface 24 (.int .i64 c)) w):Run Tryz.prog (.makeInterface 24 (.int .i64 c)) w K :=
  zfJ u24 (by intro m hm; cases hm) h
theorem u257:(Tryz.prog.underlying 257).map (fun d=>match d with|.struct _=>true|_=>false)=some true:=by kernel_rfl
theorem zBb {k c:Int} {w:World} {K:Value->World->Prop} (h:K (.iface 257 (.agg #[.int .i64 k,.iface 24 (.int .i64 c)])) w):Run Tryz.prog (.makeInterface 257 (.agg #[.int .i64 k,.iface 24 (.int .i64 c)])) w K:=by
  obtain ⟨d,hd,he⟩:=Option.map_eq_some_iff.1 u257
  exact zfJ hd (by intro m hm; subst hm; cases he) h
theorem zGu {c:Int} (h:c≠0):EV (.iface 24 (.int .i64 c)) c:=.inr ⟨h,.inl rfl⟩
theorem zAW {k c:Int} (h:c≠0):EV (.iface 257 (.agg #[.int .i64 k,.iface 24 (.int .i64 c)])) c:=.inr ⟨h,.inr ⟨k,rfl⟩⟩
theorem ev0:EV .nilIface 0:=.inl ⟨rfl,rfl⟩
theorem zqw (e:Int) (w:World):FnP Tryz.prog zcc #[.int .i64 e] w fun v w'=>Ext w w'/\EV v e :=
  ztm e w _ ⟨fun h w0 h0=>⟨h0,by rw [h]; exact ev0⟩,fun h w0 h0=>zvd ⟨Ext.refl _,_,rfl,fun w3 h3=>⟨h0.trans h3,zGu h⟩⟩⟩
theorem neE {v:Value} {c:Int} (h:EV v c) {w:World} {K:Value->World->Prop} (hk:∀ b:Bool,(b=false↔c=0)->K (.bool b) w):Run Tryz.prog (.eq .neq 175 false true v .nilIface) w K :=
  zi9 (by kernel_rfl) h.isErr fun b hb=>hk b (hb.trans h.nil)
def WOk (F:Fm):Prop:=∀ s∈F.jobs,1<=s.what/\s.what<=5
theorem WOk.st {F:Fm} (h:WOk F) (k m:Nat) (v:Int) (hv:m=11->1<=v/\v<=5):WOk (stF F k m v):=by
  intro s hs
  have hs:s∈F.jobs.set k (zhb m v (F.jobs.getD k default)):=hs
  by_cases hk:k<F.jobs.length
  · rcases List.mem_or_eq_of_mem_set hs with hm|rfl
    · exact h s hm
    · have hm:=h _ (zap F.jobs default hk)
      unfold zhb
      split
      · exact hv rfl
      · exact hm
      · exact hm
      · exact hm
      · exact hm
  · rw [List.set_eq_of_length_le (by omega)] at hs
    exact h s hs
theorem WOk.lostTo {F:Fm} (h:WOk F):∀ n,WOk (lostTo F n)
  |0 => h
  |n+1 => by
    rw [Go.Proofs.YtcceeahmcecbnaaGreatDoor.lostTo,zbv]
    split
    · exact (WOk.lostTo h n).st _ _ _ fun _=>by omega
    · exact WOk.lostTo h n
theorem WOk.lost {F:Fm} (h:WOk F):WOk (zlB F):=h.lostTo _
theorem WOk.leave {F:Fm} (h:WOk F) (k:Nat):WOk (zdB F k):=by
  have hg:WOk (zkB F k):=h
  exact (hg.st _ _ _ fun h=>by cases h).st _ _ _ fun h=>by cases h
theorem WOk.rep {F:Fm} (h:WOk F) (k:Nat) (ok:Bool):WOk (zgP F k ok):=by
  unfold zgP zcH
  split
  · exact (h.leave k).st _ _ _ fun _=>by omega
  · split
    · exact ((((h.leave k).st _ _ _ fun h=>by cases h).st _ _ _ fun _=>by omega).st _ _ _ fun h=>by cases h)
    · exact (((h.leave k).st _ _ _ fun h=>by cases h).st _ _ _ fun _=>by omega).lost
theorem WOk.can {F:Fm} (h:WOk F) (k:Nat):WOk (zy7 F k):=by
  unfold zy7
  split
  · exact ((h.leave k).st _ _ _ fun _=>by omega).lost
  · exact (h.st _ _ _ fun _=>by omega).lost
theorem WOk.sub {F:Fm} (h:WOk F) (j:Jb):WOk (zoL F j):=by
  intro s hs
  rcases List.mem_append.1 hs with hs|hs
  · exact h s hs
  · simp at hs; subst hs; exact ⟨by show (1:Int)<=1; omega,by show (1:Int)<=5; omega⟩
theorem WOk.run {F:Fm} (h:WOk F) (k0:Nat) (k:Int):WOk (zfQ F k0 k):=by
  have hg:WOk (zkV F k0 k):=h
  exact ((hg.st _ _ _ fun _=>by omega).st _ _ _ fun h=>by cases h).st _ _ _ fun h=>by cases h
theorem WOk.plan {F G:Fm} {outs:List (Int×Int)} (h:WOk F) (p:zdc F G outs):WOk G :=
  zjO (fun F id k _ _ _ h=>h.run _ k) p h
theorem WOk.tick {F:Fm} (h:WOk F) (n:Int):WOk { F with now:=n }:=h
structure Kt where
  hp:Option Addr
  hn:Nat
  hc:Nat
  L:List Ht
  farm:Option (Nat×Pl×Fm)
inductive DS
  |shut (L:List Ht)
  |opn (F:Fm)
def Kt.st (K:Kt):DS:=match K.farm with
  |none => .shut K.L
  |some (_,_,F) => .opn F
def Kt.fp (K:Kt):Option Addr:=match K.farm with
  |none => none
  |some (fb,_,_) => ptr fb
abbrev dcs (K:Kt):List Value:=[.slice K.hp K.hn K.hc,.pointer K.fp]
def KF (db:Nat) (K:Kt) (b:Nat):Prop:=b=db\/∃ fb P F,K.farm=some (fb,P,F)/\ft fb P.jp b
def dO (O:Nat->Prop) (db:Nat) (b:Nat):Prop:=O b\/b=db
theorem hs_of {w:World} {p:Option Addr} {M:List Hm} (h:zgt 8 zjG w p M) (hl:∀ m∈M,Lbs w m.q m.h.labels):zjT w p (M.map (·.h)):=fun i x hx=>by
  rw [List.getElem?_map,Option.map_eq_some_iff] at hx
  obtain ⟨m,hm,rfl⟩:=hx
  exact ⟨m.q,m.d,fun j u hu=>h i m hm j u hu,hl m (List.mem_of_getElem? hm)⟩
structure KX (O:Nat->Prop) (B:Nat) (w:World) (db:Nat) (K:Kt):Prop where
  slot:Own B w zwS 2 (ptr db) 1 1 (dcs K)
  shut:K.farm=none->K.hn=K.L.length/\(∃ M:List Hm,M.map (·.h)=K.L/\∀ w'',Fr (dO O db) w w''->zgt 8 zjG w'' K.hp M/\∀ m∈M,Lbs w'' m.q m.h.labels)/\zkJ K.L/\(∀ h∈K.L,zwC h/\h.used=za7)
  opn:∀ fb P F,K.farm=some (fb,P,F)->FXO (dO O db) B w fb P F/\Inv F/\WOk F
  olt:∀ b,O b->b<w.heap.size
  odis:∀ b,O b->b≠db
section
variable {O:Nat->Prop} {B db:Nat} {w:World} {K:Kt}
theorem KX.foot (x:KX O B w db K) {b:Nat} (h:KF db K b):B<=b/\b<w.heap.size:=by
  rcases h with rfl|⟨fb,P,F,e,h⟩
  · exact x.slot.lt _ rfl
  · exact (x.opn fb P F e).1.foot h
theorem KX.oft (x:KX O B w db K) {b:Nat} (h:O b):¬ KF db K b:=by
  rintro (rfl|⟨fb,P,F,e,hf⟩)
  · exact x.odis _ h rfl
  · exact (x.opn fb P F e).1.odis b (.inl h) hf
theorem KX.cell (x:KX O B w db K) {i:Nat} {v:Value} (h:(dcs K)[i]?=some v):Go.Sx.cell w (pAdd (ptr db) i) 0=some v:=by rw [zam]; exact x.slot.cells i v h
theorem KX.fp (x:KX O B w db K):Go.Sx.cell w (pAdd (ptr db) 1) 0=some (.pointer K.fp):=x.cell (i:=1) rfl
theorem KX.keep (x:KX O B w db K) {W:World} (e:Ext W w) (hB:W.heap.size<=B) {w':World} (f:Fr (KF db K) w w'):Ext W w':=f.ext e fun b hb=>Nat.le_trans hB (x.foot hb).1
theorem KX.go {O' S:Nat->Prop} {w9:World} (x:KX O B w db K) (f:Fr S w w9) (hS:∀ b,S b->O b) (h:∀ b,O' b->O b\/(w.heap.size<=b/\b<w9.heap.size)):KX O' B w9 db K:=by
  have hdb:=(x.slot.lt _ rfl).2
  have h':∀ b,dO O' db b->dO O db b\/(w.heap.size<=b/\b<w9.heap.size):=fun b hb=>by
    rcases hb with hb|hb
    · exact (h b hb).imp .inl id
    · exact .inl (.inr hb)
  refine ⟨x.slot.fr f fun a ha hs=>?_,fun e=>?_,fun fb P F e=>?_,fun b hb=>?_,fun b hb hd=>?_⟩
  · cases ha; exact x.odis _ (hS _ hs) rfl
  · obtain ⟨a1,⟨M,m1,a2⟩,a3⟩:=x.shut e
    exact ⟨a1,⟨M,m1,fun w'' k=>a2 w'' ((f.mono fun b hb=>.inl (hS b hb)).trans k fun b hb=>(h' b hb).imp id (·.1))⟩,a3⟩
  · obtain ⟨a1,a2⟩:=x.opn fb P F e
    exact ⟨a1.go f (fun b hb=>.inl (hS b hb)) h',a2⟩
  · rcases h b hb with g|g
    · have:=x.olt b g; have:=f.size; omega
    · exact g.2
  · subst hd
    rcases h b hb with g|g
    · exact x.odis b g rfl
    · have hd:b<w.heap.size:=hdb
      omega
theorem KX.fr {S:Nat->Prop} {w':World} (x:KX O B w db K) (f:Fr S w w') (hS:∀ b,S b->O b):KX O B w' db K:=x.go f hS fun b hb=>.inl hb
theorem KX.ext {w':World} (x:KX O B w db K) (e:Ext w w'):KX O B w' db K:=x.fr (zad (S:=fun _=>False) e) fun _ h=>h.elim
theorem KX.hs (x:KX O B w db K) (e:K.farm=none) {w':World} (h:Ext w w'):zjT w' K.hp K.L:=by
  obtain ⟨_,⟨M,m1,a2⟩,_⟩:=x.shut e
  obtain ⟨q1,q2⟩:=a2 w' (zad h)
  rw [<- m1]
  exact hs_of q1 q2
end
def zu0 (w:World) (db:Nat) (K K':Kt):Prop:=∀ b,KF db K' b->KF db K b\/w.heap.size<=b
theorem zCP (w:World):FnP Tryz.prog zjx #[] w fun v w'=>Ext w w'/\∃ db,v=.pointer (ptr db)/\KX (fun b=>b<w.heap.size) w.heap.size w' db ⟨none,0,0,[],none⟩:=by
  refine zxT w _ fun w0 h0=>zbG (by intro v hv; simp at hv; rcases hv with rfl|rfl<;>rfl) fun w1 o1 e1 w2 h2=>⟨(h0.trans e1).trans h2,_,rfl,(o1 _ h0.size).ext h2,fun _=>⟨rfl,⟨[],rfl,fun w'' _=>⟨fun i h hi=>by simp at hi,by simp⟩⟩,⟨by simp,by simp,by simp⟩,by simp⟩,fun fb P F e=>(by cases e),fun b hb=>?_,fun b hb hd=>?_⟩
  · have hb:b<w.heap.size:=hb
    have:=((h0.trans e1).trans h2).size
    omega
  · have hb:b<w.heap.size:=hb
    have hd:b=w0.heap.size:=hd
    have:=h0.size; omega
def CR (O:Nat->Prop) (B db:Nat) (w:World) (K:Kt) (R:ByteArray->Int->DS->Prop) (v:Value) (w':World):Prop :=
  ∃ (s:ByteArray) (ev:Value) (c:Int) (K':Kt),v=.tuple #[.string s,ev]/\EV ev c/\KX O B w' db K'/\Fr (KF db K) w w'/\zu0 w db K K'/\R s c K'.st
theorem zcC {O:Nat->Prop} {B db:Nat} {w w':World} {K:Kt} {R:ByteArray->Int->DS->Prop} (x:KX O B w db K) (e:Ext w w') {s:ByteArray} {ev:Value} {c:Int} (he:EV ev c) (hR:R s c K.st):CR O B db w K R (.tuple #[.string s,ev]) w' :=
  ⟨s,ev,c,K,rfl,he,x.ext e,zad e,fun b hb=>.inl hb,hR⟩
theorem zw9 {O:Nat->Prop} {B db:Nat} {w0 w w':World} {K:Kt} {R:ByteArray->Int->DS->Prop} {v:Value} (e:Ext w0 w) (h:CR O B db w K R v w'):CR O B db w0 K R v w':=by
  obtain ⟨s,ev,c,K',h1,h2,h3,h4,h5,h6⟩:=h
  exact ⟨s,ev,c,K',h1,h2,h3,(zad e).tr h4,fun b hb=>(h5 b hb).imp id fun h=>Nat.le_trans e.size h,h6⟩
theorem CR.mono {O:Nat->Prop} {B db:Nat} {w w':World} {K:Kt} {R R':ByteArray->Int->DS->Prop} {v:Value} (h:CR O B db w K R v w') (k:∀ s c σ,R s c σ->R' s c σ):CR O B db w K R' v w':=by
  obtain ⟨s,ev,c,K',h1,h2,h3,h4,h5,h6⟩:=h
  exact ⟨s,ev,c,K',h1,h2,h3,h4,h5,k _ _ _ h6⟩
theorem zBh:∀ (u:Nat),u<=9223372036854775807->Lib.parseUintM 18446744073709551615 0 (Lib.decDigits u)=.ok u:=by
  intro u
  induction u using Nat.strongRecOn with
  |_ u ih =>
    intro hu
    rw [Lib.decDigits]
    split
    · rename_i h
      simp only [Lib.parseUintM]
      rw [zso (by omega),if_pos (by omega),if_neg (by omega),if_neg (by omega)]
      congr 1; omega
    · rename_i h
      rw [zm6 _ (ih (u/10) (by omega) (by omega))]
      simp only [Lib.parseUintM]
      rw [zso (by omega),if_pos (by omega),if_neg (by omega),if_neg (by omega)]
      congr 1; omega
theorem zfH {n:Int} (h0:0<=n) (h1:n<=9223372036854775807):Lib.parseIntB 64 (Lib.itoa n)=.ok n:=by
  rw [zdX h0]
  have hd:=zcY n.toNat
  cases hl:Lib.decDigits n.toNat with
  |nil => exact absurd hl (zpd _)
  |cons c r =>
    have hc:=hd c (by rw [hl]; exact List.mem_cons_self ..)
    rw [Lib.parseIntB_plain 64 c r (by omega) (by omega),<- hl]
    unfold Lib.parseUintB
    rw [if_neg (zpd _),show (2:Nat)^64-1=18446744073709551615 by decide,zBh _ (by omega)]
    show (if (2:Nat)^(64-1)<=n.toNat then _ else _)=_
    rw [if_neg (by have:(2:Nat)^(64-1)=9223372036854775808:=by decide
                   omega)]
    congr 1; omega
theorem zDq {m n:Int} (hm:0<=m/\m<=9223372036854775807) (hn:0<=n/\n<=9223372036854775807) (h:Lib.itoa m=Lib.itoa n):m=n:=by
  have:=zfH hm.1 hm.2
  rw [h,zfH hn.1 hn.2] at this
  injection this with e
  exact e.symm
def zG9 (s:ByteArray) (n c:Int):Prop:=(c=0/\0<=n/\n<=9223372036854775807/\s=ofL (Lib.itoa n)/\s.size<=18)\/(c=3/\n=0/\∀ m:Int,0<=m->m<=9223372036854775807->s=ofL (Lib.itoa m)->¬ s.size<=18)
theorem zpJ (wp:Option Addr) (wc:Nat) (ws:List ByteArray) (h1:1<ws.length) (hs:(ws.getD 1 ⟨#[]⟩).size<=281474976710656) (w:World) (hw:zav w wp (ws.map Value.string)) (g:GB w) :
    FnP Tryz.prog zez #[.slice wp ws.length wc,.int .i64 1] w fun v w'=>Ext w w'/\∃ (n:Int) (ev:Value) (c:Int),v=.tuple #[.int .i64 n,ev]/\EV ev c/\zG9 (ws.getD 1 ⟨#[]⟩) n c:=by
  have hc:∀ {w':World},Ext w w'->Go.Sx.cell w' (pIdx wp 1 1) 0=some (.string (ws.getD 1 ⟨#[]⟩)):=fun e=>by
    rw [zae]
    refine (hw.ext e) 1 _ ?_
    rw [List.getElem?_map,getElem?_getD ws ⟨#[]⟩ h1]; rfl
  have np:wp≠none:=fun h=>zai (hc (Ext.refl w)) (zah.2 h)
  generalize ws.getD 1 ⟨#[]⟩=s at hs hc ⊢
  have bad:∀ {w1 w8:World},Ext w w1->Ext w1 w8->(∀ m:Int,0<=m->m<=9223372036854775807->s=ofL (Lib.itoa m)->¬ s.size<=18) ->
      Run Tryz.prog (.makeInterface 24 (.int .i64 3)) w8 fun v9 w9=>Ext w8 w9/\∃ t10:Value,v9=t10/\Value.oneCell' t10=true/\∀ w11,Ext w9 w11 ->
        Run Tryz.prog (.makeInterface 257 (.agg #[.int .i64 1,t10])) w11 fun v12 w12=>Ext w11 w12/\∃ t13:Value,v12=t13/\∀ w14,Ext w12 w14 ->
          Ext w w14/\∃ (n:Int) (ev:Value) (c:Int),Value.tuple #[.int .i64 0,t13]=.tuple #[.int .i64 n,ev]/\EV ev c/\zG9 s n c:=fun x1 x8 hno =>
    zvd ⟨Ext.refl _,_,rfl,rfl,fun w11 h11=>zBb ⟨Ext.refl _,_,rfl,fun w14 h14=>⟨((x1.trans x8).trans h11).trans h14,0,_,3,rfl,zAW (by decide),.inr ⟨rfl,rfl,hno⟩⟩⟩⟩
  refine zpP wp ws.length wc 1 w _ ⟨np,by omega,by omega,_,hc (Ext.refl w),fun w1 x1=>(zjB s hs w1 (g.ext x1)).mono fun v w2 ⟨e2,n,ev,hv,hcase⟩=>⟨e2,n,ev,hv,fun w5 h5=>?_⟩⟩
  have x2:=x1.trans e2
  refine zi9 (by kernel_rfl) (hcase.elim (fun h=>.inl h.1) fun h=>.inr h.1) fun t ht=>⟨Ext.refl _,t,rfl,fun _=>np,fun _=>by omega,fun _=>by omega,fun htt w8 h8=>bad x2 h8 fun m h0 h63 hm=>?_,fun htf=>⟨_,hc x2,fun _=>np,fun _=>by omega,fun _=>by omega,fun hgt w9 h9=>bad x2 h9 fun m _ _ _=>by omega,fun hle=>⟨_,hc x2,fun w10 h10=>?_⟩⟩⟩
  · exfalso
    have hp:=zfH (n:=m) h0 h63
    have hsd:s.data.toList=Lib.itoa m:=by rw [hm]; rfl
    rw [hsd] at hcase
    rcases hcase with ⟨q1,q2⟩|⟨_,q2⟩
    · rw [ht.2 q1] at htt; cases htt
    · exact q2 _ hp
  · obtain ⟨hev,hpar⟩:ev=.nilIface/\Lib.parseIntB 64 s.data.toList=.ok n:=by
      rcases hcase with h|⟨⟨a,b,h⟩,_⟩
      · exact h
      · have:=ht.1 htf
        rw [h] at this; cases this
    have hb:=zhK (zg7 hpar)
    refine (zoX n hb w10 ((g.ext x2).ext h10)).mono fun v w11 ⟨e11,hv⟩=>⟨e11,_,hv,fun hor w13 h13=>bad x2 h13 fun m h0 h63 hm=>?_,fun hand w13 h13=>⟨x2.trans h13,n,_,0,rfl,ev0,.inl ⟨rfl,hand.2,hb.2,hand.1.symm,by omega⟩⟩⟩
    exfalso
    have hp:=zfH (n:=m) h0 h63
    have hsd:s.data.toList=Lib.itoa m:=by rw [hm]; rfl
    rw [hsd] at hpar
    have:n=m:=by rw [hp] at hpar; injection hpar with hpar; exact hpar.symm
    subst this
    rcases hor with h|h
    · exact h hm.symm
    · omega
section
variable {O:Nat->Prop} {B db:Nat} {w:World} {K:Kt}
theorem KX.turn (x:KX O B w db K) {fb:Nat} {P P':Pl} {F G:Fm} (hK:K.farm=some (fb,P,F)) {w':World} (y:FXO (dO O db) B w' fb P' G) (f:Fr (ft fb P.jp) w w') (hg:∀ b,ft fb P'.jp b->ft fb P.jp b\/w.heap.size<=b) (I:Inv G) (W:WOk G) :
    KX O B w' db { K with farm:=some (fb,P',G) }/\Fr (KF db K) w w'/\zu0 w db K { K with farm:=some (fb,P',G) }:=by
  have hx:=(x.opn fb P F hK).1
  refine ⟨⟨?_,fun e=>(by cases e),fun fb' P1 F1 e=>?_,fun b hb=>Nat.lt_of_lt_of_le (x.olt b hb) f.size,x.odis⟩,f.mono fun b hb=>.inr ⟨fb,P,F,hK,hb⟩,fun b hb=>?_⟩
  · have:dcs { K with farm:=some (fb,P',G) }=dcs K:=by simp [dcs,Kt.fp,hK]
    rw [this]
    exact x.slot.fr f fun a ha hs=>(by cases ha; exact hx.odis _ (.inr rfl) hs)
  · injection e with e
    obtain ⟨rfl,rfl,rfl⟩:fb=fb'/\P'=P1/\G=F1:=by simpa using e
    exact ⟨y,I,W⟩
  · rcases hb with rfl|⟨fb',P1,F1,e,h⟩
    · exact .inl (.inl rfl)
    · injection e with e
      obtain ⟨rfl,rfl,rfl⟩:fb=fb'/\P'=P1/\G=F1:=by simpa using e
      exact (hg b h).imp (fun h=>.inr ⟨fb,P,F,hK,h⟩) id
theorem KX.fbp (x:KX O B w db K) {fb:Nat} {P:Pl} {F:Fm} (hK:K.farm=some (fb,P,F)):Go.Sx.cell w (pAdd (ptr db) 1) 0=some (.pointer (ptr fb)):=by
  have:=x.fp
  unfold Kt.fp at this
  rw [hK] at this
  exact this
theorem KX.nofp (x:KX O B w db K) (hK:K.farm=none):Go.Sx.cell w (pAdd (ptr db) 1) 0=some (.pointer none):=by
  have:=x.fp
  unfold Kt.fp at this
  rw [hK] at this
  exact this
theorem Kt.st_opn {K:Kt} {fb:Nat} {P:Pl} {F:Fm} (hK:K.farm=some (fb,P,F)):K.st=.opn F:=by unfold Kt.st; rw [hK]
theorem Kt.st_shut {K:Kt} (hK:K.farm=none):K.st=.shut K.L:=by unfold Kt.st; rw [hK]
theorem Kt.cases (K:Kt):K.farm=none\/∃ fb P F,K.farm=some (fb,P,F):=by
  cases h:K.farm with
  |none => exact .inl rfl
  |some y => exact .inr ⟨y.1,y.2.1,y.2.2,rfl⟩
end
def NR (O:Nat->Prop) (B db:Nat) (w:World) (K:Kt) (R:Int->DS->Prop) (v:Value) (w':World):Prop :=
  ∃ (e:Int) (K':Kt),v=.int .i64 e/\KX O B w' db K'/\Fr (KF db K) w w'/\zu0 w db K K'/\R e K'.st
theorem zKJ {O:Nat->Prop} {B db:Nat} {w w' w'':World} {K:Kt} {R:Int->DS->Prop} {v:Value} (h:NR O B db w K R v w') (e:Ext w' w''):NR O B db w K R v w'':=by
  obtain ⟨c,K',h1,h3,h4,h5,h6⟩:=h
  exact ⟨c,K',h1,h3.ext e,h4.tr (zad e),h5,h6⟩
theorem zte {O:Nat->Prop} {B db:Nat} {w0 w w':World} {K:Kt} {R:Int->DS->Prop} {v:Value} (e:Ext w0 w) (h:NR O B db w K R v w'):NR O B db w0 K R v w':=by
  obtain ⟨c,K',h1,h3,h4,h5,h6⟩:=h
  exact ⟨c,K',h1,h3,(zad e).tr h4,fun b hb=>(h5 b hb).imp id fun h=>Nat.le_trans e.size h,h6⟩
theorem ztf {O:Nat->Prop} {B db:Nat} {w w':World} {K:Kt} {R:Int->DS->Prop} (x:KX O B w db K) (e:Ext w w') {c:Int} (hR:R c K.st):NR O B db w K R (.int .i64 c) w' :=
  ⟨c,K,rfl,x.ext e,zad e,fun b hb=>.inl hb,hR⟩
theorem zHR {F:Fm} (I:Inv F) {n:Int} (h:0<=n/\n<=1000000000/\F.now+n<=1099511627776):Inv { F with now:=F.now+n }:=by
  have hn:=I.i0.now
  exact ⟨⟨I.i0.aft,I.i0.pol,by show 0<=F.now+n/\F.now+n<=1099511627776; omega,I.i0.hs,I.i0.nd,I.i0.hrun,by
      intro i hi p hp
      have:=I.i0.use i hi p hp
      have e:∀ m,use { F with now:=F.now+n } i p m=use F i p m:=fun m=>by
        induction m with
        |zero => rfl
        |succ n ih => unfold use; rw [ih]; rfl
      rw [e]; exact this,I.i0.ahead,I.i0.tries⟩,I.wt⟩
def zCz (F:Fm) (n:Int):Prop:=0<=n/\n<=1000000000/\F.now+n<=1099511627776
def ztM (F:Fm) (n e:Int) (σ:DS):Prop:=(e=4/\¬ zCz F n/\σ=.opn F)\/(e=0/\zCz F n/\σ=.opn { F with now:=F.now+n })
def zCy (F:Fm) (id:Int):Prop:=inJ F id/\(zac F (id-1).toNat).what=2
def zIe (F:Fm) (id:Int):Prop:=inJ F id/\((zac F (id-1).toNat).what=1\/(zac F (id-1).toNat).what=2)
def zwK (ok:Bool) (F:Fm) (id e:Int) (σ:DS):Prop:=(e≠0/\zt7 F id e/\¬ zCy F id/\σ=.opn F)\/(e=0/\zCy F id/\σ=.opn (zgP F (id-1).toNat ok))
def zF2 (F:Fm) (id e:Int) (σ:DS):Prop:=(e≠0/\zt7 F id e/\¬ zIe F id/\σ=.opn F)\/(e=0/\zIe F id/\σ=.opn (zy7 F (id-1).toNat))
section
variable {O:Nat->Prop} {B db:Nat} {w:World} {K:Kt} {fb:Nat} {P:Pl} {F:Fm} {pb:Option Addr}
theorem tick_c (x:KX O B w db K) (hK:K.farm=some (fb,P,F)) (hpb:Go.Sx.cell w pb 0=some (.pointer (ptr db))) (n:Int) :
    FnP Tryz.prog zd9 #[.int .i64 n,.pointer pb] w (NR O B db w K (ztM F n)):=by
  have ne:=zaL db
  refine zhQ n pb w _ ⟨_,hpb,ne,ne,_,x.fbp hK,fun w2 x2=>?_⟩
  have y:=x.ext x2
  obtain ⟨fx,I,W⟩:=y.opn fb P F hK
  refine (zIS fx I.i0.now n).mono fun v w3 ⟨e,hv,hor,hiff⟩=>⟨e,hv,fun w5 h5=>zte x2 (zKJ ?_ h5)⟩
  rcases hor with ⟨hne,he,h3⟩|⟨he,hc,fx',f⟩
  · exact ztf y h3 (.inl ⟨he,fun h=>hne (hiff.2 h),by rw [Kt.st_opn hK]⟩)
  · obtain ⟨a1,a2,a3⟩:=y.turn (P':=P) hK fx' f (fun b hb=>.inl hb) (zHR I hc) (W.tick _)
    exact ⟨e,_,rfl,a1,a2,a3,.inr ⟨he,hc,rfl⟩⟩
theorem zIp (x:KX O B w db K) (hK:K.farm=some (fb,P,F)) (hpb:Go.Sx.cell w pb 0=some (.pointer (ptr db))) (n:Int) (hn:InR .i64 n) (ok:Bool) {f:FuncId} (hf:(ok=true/\f=zea)\/(ok=false/\f=zeb)) :
    FnP Tryz.prog f #[.int .i64 n,.pointer pb] w (NR O B db w K (zwK ok F n)):=by
  have ne:=zaL db
  have fin:∀ {w5:World},Ext w w5->FnP Tryz.prog zaS #[.pointer (ptr fb),.int .i64 n,.bool ok] w5 fun v6 w6=>∃ t7:Int,v6=.int .i64 t7/\∀ w8,Ext w6 w8->NR O B db w K (zwK ok F n) (.int .i64 t7) w8:=fun {w5} x5=>by
    have y:=x.ext x5
    obtain ⟨fx,I,W⟩:=y.opn fb P F hK
    refine (ztC fx I.i0.pre n hn ok).mono fun v w3 ⟨e,hv,hiff,hor⟩=>⟨e,hv,fun w8 h8=>zte x5 (zKJ ?_ h8)⟩
    rcases hor with ⟨hne,hE,h3⟩|⟨he,P',hjp,fx',f⟩
    · exact ztf y h3 (.inl ⟨hne,hE,fun h=>hne (hiff.2 h),by rw [Kt.st_opn hK]⟩)
    · have hc:=hiff.1 he
      obtain ⟨a1,a2,a3⟩:=y.turn hK fx' f (fun b hb=>.inl (by rw [hjp] at hb; exact hb)) (ztB I (zgh hc.1) hc.2 ok) (W.rep _ ok)
      exact ⟨e,_,rfl,a1,a2,a3,.inr ⟨he,hc,rfl⟩⟩
  have sm:∀ (w2:World) (R:Value->World->Prop),(∀ w3,Ext w2 w3->R (.int .i64 n) w3)->FnP Tryz.prog zeD #[.int .i64 n] w2 R:=fun w2 R h=>zlN n w2 R h
  rcases hf with ⟨rfl,rfl⟩|⟨rfl,rfl⟩
  · exact zhR n pb w _ ⟨_,hpb,ne,ne,_,x.fbp hK,fun w2 x2=>sm w2 _ fun w3 h3=>⟨h3,n,rfl,fun w5 x5=>fin x5⟩⟩
  · exact zhS n pb w _ ⟨_,hpb,ne,ne,_,x.fbp hK,fun w2 x2=>sm w2 _ fun w3 h3=>⟨h3,n,rfl,fun w5 x5=>fin x5⟩⟩
theorem zF6 (x:KX O B w db K) (hK:K.farm=some (fb,P,F)) (hpb:Go.Sx.cell w pb 0=some (.pointer (ptr db))) (n:Int) (hn:InR .i64 n) :
    FnP Tryz.prog zec #[.int .i64 n,.pointer pb] w (NR O B db w K (zF2 F n)):=by
  have ne:=zaL db
  refine zhT n pb w _ ⟨_,hpb,ne,ne,_,x.fbp hK,fun w2 x2=>zlN n _ _ fun w3 h3=>⟨h3,n,rfl,fun w5 x5=>?_⟩⟩
  have y:=x.ext x5
  obtain ⟨fx,I,W⟩:=y.opn fb P F hK
  refine (zy9 fx I.i0.pre n hn).mono fun v w3 ⟨e,hv,hiff,hor⟩=>⟨e,hv,fun w8 h8=>zte x5 (zKJ ?_ h8)⟩
  rcases hor with ⟨hne,hE,h3⟩|⟨he,P',hjp,fx',f⟩
  · exact ztf y h3 (.inl ⟨hne,hE,fun h=>hne (hiff.2 h),by rw [Kt.st_opn hK]⟩)
  · have hc:=hiff.1 he
    obtain ⟨a1,a2,a3⟩:=y.turn hK fx' f (fun b hb=>.inl (by rw [hjp] at hb; exact hb)) (zCA I (zgh hc.1) hc.2) (W.can _)
    exact ⟨e,_,rfl,a1,a2,a3,.inr ⟨he,hc,rfl⟩⟩
end
def zKH (R:Fm->Int->Int->DS->Prop) (σ:DS) (n e:Int) (σ':DS):Prop:=match σ with
  |.shut L => e=9/\σ'=.shut L
  |.opn F => R F n e σ'
def zrg (R:Fm->Int->Int->DS->Prop) (word:ByteArray) (σ:DS) (s:ByteArray) (c:Int) (σ':DS):Prop :=
  ∃ n c1,zG9 word n c1/\((c1≠0/\c=c1/\σ'=σ)\/(c1=0/\s=⟨#[111,107]⟩/\zKH R σ n c σ'))
section
variable {O:Nat->Prop} {B db:Nat} {w:World} {K:Kt}
theorem zgv {w:World} {p:Addr} {v:Value} (h:w.cell? p=some v):Go.Sx.cell w (some p) 0=some v:=by
  have:p.add 0=p:=add_zero p
  show w.cell? (p.add 0)=some v
  rw [this]; exact h
theorem zAc (x:KX O B w db K) {pb:Addr} {f:FuncId} {v:Value} (hv:zdh pb f v w) (hpb:w.cell? pb=some (.pointer (ptr db))) (g:GB w)
    (R:Fm->Int->Int->DS->Prop) (wp:Option Addr) (wc:Nat) (ws:List ByteArray) (h1:1<ws.length) (hs:(ws.getD 1 ⟨#[]⟩).size<=281474976710656) (hw:zav w wp (ws.map Value.string))
    (hf:∀ {w1:World} {fb:Nat} {P:Pl} {F:Fm} (n:Int),Ext w w1->InR .i64 n->K.farm=some (fb,P,F)->FnP Tryz.prog f #[.int .i64 n,.pointer (some pb)] w1 (NR O B db w1 K (R F n))) :
    ∃ f' cap,v=.func (.func f') #[] cap/\FnP Tryz.prog f' (#[.slice wp ws.length wc]++cap) w (CR O B db w K (zrg R (ws.getD 1 ⟨#[]⟩) K.st)):=by
  obtain ⟨p2,p1,rfl,c2,u,c1,p3,rfl,c3⟩:=hv
  refine ⟨_,_,rfl,zgk wp ws.length wc (some p2) w _ fun w0 x0=>(zpJ wp wc ws h1 hs w0 (hw.ext x0) (g.ext x0)).mono fun v w1 ⟨e1,n,ev,c,hv,he,hn⟩=>⟨e1,n,ev,hv,fun w4 h4=>neE he fun b hb=>⟨Ext.refl _,b,rfl,fun hbt w7 h7=>?_,fun hbf=>?_⟩⟩⟩
  · have hc:c≠0:=fun h=>by rw [hb.2 h] at hbt; cases hbt
    exact zcC x ((x0.trans e1).trans h7) he ⟨n,c,hn,.inl ⟨hc,rfl,rfl⟩⟩
  · have hc:c=0:=hb.1 hbf
    have x1:=x0.trans e1
    refine ⟨_,zgv ((Cst.of_ext x1).cell c2),fun w8 h8=>⟨204,#[.pointer (some p1)],rfl,zgA n (some p1) w8 _ ?_⟩⟩
    have x8:=x1.trans h8
    refine ⟨_,zgv ((Cst.of_ext x8).cell c1),fun w9 h9=>⟨207,#[.pointer (some pb),.pointer (some p3)],rfl,?_⟩⟩
    have x9:=x8.trans h9
    have hni:InR .i64 n:=by
      rcases hn with ⟨_,a,b,_⟩|⟨h,_⟩
      · exact i64 (by omega)
      · omega
    have fin:∀ {w2:World} {v2:Value},NR O B db w K (zKH R K.st n) v2 w2->∃ t3:Int,v2=.int .i64 t3/\∀ w4,Ext w2 w4->FnP Tryz.prog zcc #[.int .i64 t3] w4 fun v5 w5=>Ext w4 w5/\∃ t6:Value,v5=t6/\∀ w7,Ext w5 w7 ->
        ∃ t10:ByteArray,∃ t11:Value,Value.tuple #[.string (⟨#[111,107]⟩:ByteArray),t6]=.tuple #[.string t10,t11]/\∀ w12,Ext w7 w12->CR O B db w K (zrg R (ws.getD 1 ⟨#[]⟩) K.st) (.tuple #[.string t10,t11]) w12:=fun {w2 v2} hN=>by
      obtain ⟨e,K',rfl,hX,hF,hG,hR⟩:=hN
      refine ⟨e,rfl,fun w4 h4=>(zqw e w4).mono fun v w5 ⟨e5,hE⟩=>⟨e5,v,rfl,fun w7 h7=>⟨_,v,rfl,fun w12 h12=>?_⟩⟩⟩
      have hx:=((h4.trans e5).trans h7).trans h12
      exact ⟨_,v,e,K',rfl,hE,hX.ext hx,hF.tr (zad hx),hG,n,c,hn,.inr ⟨hc,rfl,hR⟩⟩
    have ne:=zaL db
    refine zgB n (some pb) (some p3) w9 _ ⟨_,zgv ((Cst.of_ext x9).cell hpb),ne,ne,?_⟩
    rcases K.cases with hK|⟨fb,P,F,hK⟩
    · refine ⟨none,(x.ext x9).nofp hK,fun _ w2 h2=>fin (ztf x (x9.trans h2) ?_),fun h=>absurd rfl h⟩
      rw [Kt.st_shut hK]
      exact ⟨rfl,rfl⟩
    · refine ⟨ptr fb,(x.ext x9).fbp hK,fun h=>absurd h (zaL fb),fun _=>⟨_,zgv ((Cst.of_ext x9).cell c3),fun w3 h3=>⟨f,#[.pointer (some pb)],rfl,(hf n (x9.trans h3) hni hK).mono fun v w4 hN=>?_⟩⟩⟩
      have hN':=zte (x9.trans h3) hN
      obtain ⟨e,K',rfl,hX,hF,hG,hR⟩:=hN'
      refine ⟨e,rfl,fun w6 h6=>fin ⟨e,K',rfl,hX.ext h6,hF.tr (zad h6),hG,?_⟩⟩
      rw [Kt.st_opn hK]; exact hR
end
theorem FXO.low' {O:Nat->Prop} {B B' fb:Nat} {w:World} {P:Pl} {F:Fm} (x:FXO O B w fb P F) (h:B'<=B):FXO O B' w fb P F:=⟨x.slot.weak h,x.arr.weak h,x.map,x.hs,x.js,x.ap,x.hO,x.jO,x.olt,x.odis⟩
def zBK:Pol:=⟨10,2,100,3⟩
theorem okdp:zmP zBK:=by unfold zmP okP zBK; decide
def zx4 (σ:DS) (c:Int) (s:ByteArray) (σ':DS):Prop:=match σ with
  |.shut L => c=0/\s=⟨#[111,107]⟩/\σ'=.opn (zkG L zBK)
  |.opn F => c=9/\σ'=.opn F
section
variable {O:Nat->Prop} {B db:Nat} {w:World} {K:Kt}
theorem open_c (x:KX O B w db K) (hB:B<=w.heap.size) (a1:Option Addr) (n1 c1:Nat):FnP Tryz.prog zil #[.pointer (ptr db),.slice a1 n1 c1] w (CR O B db w K fun s c σ'=>zx4 K.st c s σ'):=by
  have ne:=zaL db
  refine zmV (ptr db) a1 n1 c1 w _ ⟨ne,ne,?_⟩
  rcases K.cases with hK|⟨fb,P,F,hK⟩
  · refine ⟨none,x.nofp hK,fun h=>absurd rfl h,fun _=>⟨ne,ne,_,_,_,x.cell (i:=0) rfl,fun w4 x4=>?_⟩⟩
    obtain ⟨hn,_,hok,hO⟩:=x.shut hK
    rw [hn]
    have h30:=hok.1
    refine (zC4 K.hp K.hc K.L (by omega) (fun h hh=>(hO h hh).1) zBK w4 (x.hs hK x4)).mono fun v w5 ⟨e5,q,e,hv,hiff,hno,hyes⟩=>⟨e5,q,e,hv,fun hne=>?_,fun hz=>⟨ne,ne,?_⟩⟩
    · have:zvm K.L zBK:=⟨hok,fun h hh=>(hO h hh).2,okdp⟩
      exact absurd (hiff.2 this) hne
    obtain ⟨fb,P,rfl,fx⟩:=hyes hz
    have x5:=x4.trans e5
    have y5:=x.ext x5
    have hdb4:db<w4.heap.size:=by have:=(x.slot.lt _ rfl).2; have:=x4.size; exact Nat.lt_of_lt_of_le (x.slot.lt _ rfl).2 x4.size
    refine zcr (off:=1) y5.slot (by simp) rfl (by simp) fun w8 o8 g8 w9 h9=>?_
    have f8:Fr (fun b=>b=db) w5 w8:=zaR g8 fun a ha=>by cases ha; rfl
    have fx9:FXO (dO O db) B w9 fb P (zkG K.L zBK):=by
      refine FXO.low' (((fx.fr f8 fun b hb=>?_).ext h9).less fun b hb=>?_) (Nat.le_trans hB x4.size)
      · show b<w4.heap.size
        have hb:b=db:=hb
        omega
      · show b<w4.heap.size
        rcases hb with hb|hb
        · have:=x.olt b hb; have:=x4.size; omega
        · omega
    have hft:∀ b,ft fb P.jp b->w4.heap.size<=b:=fun b hb=>(fx.foot hb).1
    refine ⟨_,_,0,{ K with farm:=some (fb,P,zkG K.L zBK) },rfl,ev0,⟨?_,fun e=>(by cases e),fun fb' P1 F1 e=>?_,fun b hb=>Nat.lt_of_lt_of_le (x.olt b hb) ?_,x.odis⟩,?_,fun b hb=>?_,?_⟩
    · have:dcs { K with farm:=some (fb,P,zkG K.L zBK) }=(dcs K).set 1 (.pointer (ptr fb)):=by simp [dcs,Kt.fp]
      rw [this]; exact o8.ext h9
    · injection e with e
      obtain ⟨rfl,rfl,rfl⟩:fb=fb'/\P=P1/\zkG K.L zBK=F1:=by simpa using e
      exact ⟨fx9,zxG ⟨hok,fun h hh=>(hO h hh).2,okdp⟩,fun s hs=>by cases hs⟩
    · exact Nat.le_trans (Nat.le_trans x5.size f8.size) h9.size
    · exact ((zad x5).tr (f8.mono fun b hb=>.inl hb)).tr (zad h9)
    · rcases hb with rfl|⟨fb',P1,F1,e,h⟩
      · exact .inl (.inl rfl)
      · injection e with e
        obtain ⟨rfl,rfl,rfl⟩:fb=fb'/\P=P1/\zkG K.L zBK=F1:=by simpa using e
        have:=hft b h
        have:=x4.size
        exact .inr (by omega)
    · rw [Kt.st_shut hK]
      exact ⟨rfl,rfl,rfl⟩
  · refine ⟨_,x.fbp hK,fun _ w1 x1=>zvd ⟨Ext.refl _,_,rfl,fun w4 h4=>zcC x (x1.trans h4) (zGu (by decide)) ?_⟩,fun h=>absurd h (zaL fb)⟩
    rw [Kt.st_opn hK]
    exact ⟨rfl,rfl⟩
def zEz (word:ByteArray) (σ:DS) (c:Int) (s:ByteArray) (σ':DS):Prop:=σ'=σ/\∃ n c1,zG9 word n c1/\((c1≠0/\c=c1)\/(c1=0/\match σ with
  |.shut _ => c=9
  |.opn F => (inJ F n/\c=0/\s=zwe.getD (zac F (n-1).toNat).what.toNat ⟨#[]⟩)\/(¬ inJ F n/\c=5)))
theorem zK7 (x:KX O B w db K) {fb:Nat} {P:Pl} {F:Fm} (hK:K.farm=some (fb,P,F)) (g:GD w) (n:Int) (hn:InR .i64 n):FnP Tryz.prog zeS #[.pointer (ptr db),.int .i64 n] w fun v w'=>Ext w w'/\∃ s ev c,v=.tuple #[.string s,ev]/\EV ev c /\
    ((inJ F n/\c=0/\s=zwe.getD (zac F (n-1).toNat).what.toNat ⟨#[]⟩)\/(¬ inJ F n/\c=5)):=by
  have ne:=zaL db
  refine zmX (ptr db) n w _ ⟨ne,ne,_,x.fbp hK,fun w1 x1=>?_⟩
  obtain ⟨fx,I,W⟩:=(x.ext x1).opn fb P F hK
  refine (zuc fx).mono fun v w2 ⟨e2,p,c,R,hv,hR,hJ⟩=>⟨e2,p,_,c,hv,?_⟩
  have hl:R.length=F.jobs.length:=by have:=congrArg List.length hR; simpa using this
  rw [hl]
  have x2:=x1.trans e2
  refine ⟨fun hor w6 h6=>zvd ⟨Ext.refl _,_,rfl,fun w9 h9=>⟨(x2.trans h6).trans h9,_,_,5,rfl,zGu (by decide),.inr ⟨fun h=>by have:=h.1; have:=h.2; omega,rfl⟩⟩⟩,fun ⟨h1,h2⟩=>⟨i64 (by have:=zhK hn; omega),?_⟩⟩
  obtain ⟨r,hr,hp,hp16,hcs,_⟩:=hJ.st (k:=n-1) (by omega) (by omega)
  have hj:zac F (n-1).toNat=r.s:=by
    unfold zac
    rw [List.getD_eq_getElem?_getD,<- hR,List.getElem?_map,hr]; rfl
  have hm:r.s∈F.jobs:=by rw [<- hR]; exact List.mem_map_of_mem (List.mem_of_getElem? hr)
  obtain ⟨w1',w5'⟩:=W r.s hm
  have g2:=g.ext x2
  have hwh:Go.Sx.cell w2 (pIdx (some (⟨4,0,none⟩:Addr)) r.s.what 1) 0=some (.string (zwe.getD r.s.what.toNat ⟨#[]⟩)):=by
    rw [zae]
    refine g2.whats _ _ ?_
    have hlt:r.s.what.toNat<zwe.length:=by show r.s.what.toNat<6; omega
    simp only [List.getElem?_map,Nat.mul_one,Nat.add_zero]
    rw [getElem?_getD zwe ⟨#[]⟩ hlt]; rfl
  refine ⟨hp,by omega,by omega,hp16,r.s.what,by rw [zam]; exact hcs 11 _ rfl,by simp,by omega,by omega,_,hwh,fun w8 h8=>⟨x2.trans h8,_,_,0,rfl,ev0,.inl ⟨⟨h1,h2⟩,rfl,by rw [hj]⟩⟩⟩
theorem show_c (x:KX O B w db K) {pb:Addr} {v:Value} (hv:znE pb v w) (hpb:w.cell? pb=some (.pointer (ptr db))) (g:GD w)
    (wp:Option Addr) (wc:Nat) (ws:List ByteArray) (h1:1<ws.length) (hs:(ws.getD 1 ⟨#[]⟩).size<=281474976710656) (hw:zav w wp (ws.map Value.string)) :
    ∃ f' cap,v=.func (.func f') #[] cap/\FnP Tryz.prog f' (#[.slice wp ws.length wc]++cap) w (CR O B db w K fun s c σ'=>zEz (ws.getD 1 ⟨#[]⟩) K.st c s σ'):=by
  obtain ⟨p2,rfl,c2⟩:=hv
  refine ⟨_,_,rfl,zgk wp ws.length wc (some p2) w _ fun w0 x0=>(zpJ wp wc ws h1 hs w0 (hw.ext x0) (g.gb.ext x0)).mono fun v w1 ⟨e1,n,ev,c,hv,he,hn⟩=>⟨e1,n,ev,hv,fun w4 h4=>neE he fun b hb=>⟨Ext.refl _,b,rfl,fun hbt w7 h7=>?_,fun hbf=>?_⟩⟩⟩
  · have hc:c≠0:=fun h=>by rw [hb.2 h] at hbt; cases hbt
    exact zcC x ((x0.trans e1).trans h7) he ⟨rfl,n,c,hn,.inl ⟨hc,rfl⟩⟩
  have hc:c=0:=hb.1 hbf
  have x1:=x0.trans e1
  have hni:InR .i64 n:=by
    rcases hn with ⟨_,a,b,_⟩|⟨h,_⟩
    · exact i64 (by omega)
    · omega
  refine ⟨_,zgv ((Cst.of_ext x1).cell c2),fun w8 h8=>⟨218,#[.pointer (some pb)],rfl,zhU n (some pb) w8 _ fun w9 h9=>zbG (by simp [Value.oneCell']) fun w10 o10 e10=>?_⟩⟩
  have x10:=((x1.trans h8).trans h9).trans e10
  have cn:∀ {w':World},Ext w10 w'->Go.Sx.cell w' (some ⟨w9.heap.size,0,none⟩) 0=some (.int .i64 n):=fun e=>(((o10 _ (Nat.le_refl _)).cells).ext e) 0 _ rfl
  have cpb:∀ {w':World},Ext w w'->Go.Sx.cell w' (some pb) 0=some (.pointer (ptr db)):=fun e=>zgv ((Cst.of_ext e).cell hpb)
  have ne:=zaL db
  refine ⟨_,cpb x10,ne,ne,?_⟩
  rcases K.cases with hK|⟨fb,P,F,hK⟩
  · refine ⟨none,(x.ext x10).nofp hK,fun w11 h11=>zkf true _ w11 _ ⟨fun _ w12 h12=>zvd ⟨Ext.refl _,_,rfl,fun w13 h13=>⟨h12.trans h13,_,_,rfl,fun w14 h14=>⟨_,_,rfl,fun w15 h15=>?_⟩⟩⟩,fun h=>(by cases h)⟩⟩
    refine zcC x ((((((x10.trans h11).trans h12).trans h13).trans h14)).trans h15) (zGu (c:=9) (by decide)) ⟨rfl,n,c,hn,.inr ⟨hc,?_⟩⟩
    rw [Kt.st_shut hK]
  · refine ⟨ptr fb,(x.ext x10).fbp hK,fun w11 h11=>zkf false _ w11 _ ⟨fun h=>(by cases h),fun _ w12 h12=>⟨220,_,rfl,?_⟩⟩⟩
    have x12:=(x10.trans h11).trans h12
    refine zgC (some pb) (some ⟨w9.heap.size,0,none⟩) w12 _ ⟨_,cpb x12,_,cn (h11.trans h12),fun w13 h13=>?_⟩
    refine (zK7 (x.ext (x12.trans h13)) hK (g.ext (x12.trans h13)) n hni).mono fun v w14 ⟨e14,s,ev',c',hv,hE,hcs⟩=>⟨e14,s,ev',hv,fun w15 h15=>⟨(h13.trans e14).trans h15,s,ev',rfl,fun w16 h16=>⟨(h12.trans ((h13.trans e14).trans h15)).trans h16,s,ev',rfl,fun w17 h17=>⟨s,ev',rfl,fun w18 h18=>?_⟩⟩⟩⟩
    refine zcC x ((((((((x12.trans h13).trans e14).trans h15).trans h16).trans h17)).trans h18)) hE ⟨rfl,n,c,hn,.inr ⟨hc,?_⟩⟩
    rw [Kt.st_opn hK]
    exact hcs
end
theorem zBV (L:List ByteArray) (c:UInt8) (p:Option Addr) (d:Nat) (hd:L.length<=d) (w:World) (hw:zav w p (L.map Value.string)) (hlen:(Lib.join (L.map (·.data.toList)) [c]).length<=140737488355327) (hL:L.length<=140737488355328) :
    FnP Tryz.prog zbf #[.slice p L.length d,.string (one c)] w fun v w'=>Ext w w'/\v=.string (ofL (Lib.join (L.map (·.data.toList)) [c])):=by
  refine ⟨fun args w=>Tryz.call173 args w,?_⟩
  cases L with
  |nil =>
    refine (Tryz.strings_Join_none p d (one c) w).mono fun e w' ⟨he,hw'⟩=>⟨_,he,by rw [hw']; exact Ext.refl w,rfl⟩
  |cons x r =>
    have h0:=hw 0 (.string x) rfl
    obtain ⟨a,rfl,hb,hc⟩:=zdT h0
    have hsp:a.spot=none:=by
      unfold World.cell? at hc
      cases hq:w.heap[(a.add 0).block]? with
      |none => simp [hq] at hc
      |some o =>
        cases o with
        |cells cs t f =>
          rw [hq] at hc
          simp only at hc
          by_cases hs:(a.add 0).spot.isSome=true
          · rw [if_pos hs] at hc; cases hc
          · have:(a.add 0).spot=a.spot:=rfl
            rw [this] at hs
            simpa using hs
        |_ => simp [hq] at hc
    obtain ⟨bk,off,sp⟩:=a
    have hsp:sp=none:=hsp
    subst hsp
    have hbk:bk<w.heap.size:=hb
    refine (Tryz.strings_Join bk off d (x::r) (one c) w (fun j y hy=>?_) hbk hL hd (by show (Lib.join ((x::r).map (·.data.toList)) [c]).length<=_; omega)).mono fun e w' ⟨he,hw'⟩=>⟨_,he,hw',rfl⟩
    have hcell:=hw j (.string y) (by rw [List.getElem?_map,hy]; rfl)
    simp only [cell,Option.bind_some] at hcell
    have ha:(Addr.add ⟨bk,off,none⟩ j)=⟨bk,off+j,none⟩:=by simp [Addr.add]
    rwa [ha] at hcell
def zit (L:List Ht) (o:Int×Int):List UInt8:=Lib.itoa o.1++64::(L.getD o.2.toNat default).name.data.toList
def zEI (G:Fm) (outs:List (Int×Int)):List UInt8:=Lib.join (outs.map (zit G.hosts)) [32]
theorem zEf {F G:Fm} {ids:List Int} {outs:List (Int×Int)} (h:zqz F ids G outs):(∀ o∈outs,o.1∈ids/\0<=o.2/\o.2<F.hosts.length)/\G.hosts.length=F.hosts.length:=by
  induction h with
  |nil F => exact ⟨fun o ho => by simp at ho,rfl⟩
  |skip _ _ ih => exact ⟨fun o ho => ⟨List.mem_cons_of_mem _ (ih.1 o ho).1,(ih.1 o ho).2⟩,ih.2⟩
  |@run F F' id k ids out hb _ ih =>
    have e:(zfQ F (id-1).toNat k).hosts.length=F.hosts.length:=by rw [zlW]; unfold zkV; simp
    obtain ⟨b0,b1,_⟩:=zuo hb
    refine ⟨fun o ho=>?_,by rw [ih.2,e]⟩
    rcases List.mem_cons.1 ho with rfl|ho
    · exact ⟨List.mem_cons_self,b0,b1⟩
    · have:=ih.1 o ho
      rw [e] at this
      exact ⟨List.mem_cons_of_mem _ this.1,this.2⟩
theorem zvS {F G:Fm} {outs:List (Int×Int)} (h:zdc F G outs):(∀ o∈outs,inJ F o.1/\0<=o.2/\o.2<F.hosts.length)/\G.hosts.length=F.hosts.length:=by
  obtain ⟨T,h1,h2⟩:=h
  obtain ⟨a,b⟩:=zEf h2
  exact ⟨fun o ho=>⟨(zpZ h1 _ (a o ho).1).1,(a o ho).2⟩,b⟩
def zx7 (σ:DS) (c:Int) (s:ByteArray) (σ':DS):Prop:=match σ with
  |.shut _ => False
  |.opn F => c=0/\∃ G outs,zdc F G outs/\s=ofL (zEI G outs)/\σ'=.opn G
section
variable {O:Nat->Prop} {B db:Nat} {w:World} {K:Kt}
theorem plan_c (x:KX O B w db K) {fb:Nat} {P:Pl} {F:Fm} (hK:K.farm=some (fb,P,F)) (g:GD w) (hB:11<=B) (a1:Option Addr) (n1 c1:Nat) :
    FnP Tryz.prog zim #[.pointer (ptr db),.slice a1 n1 c1] w (CR O B db w K fun s c σ'=>zx7 K.st c s σ'):=by
  have ne:=zaL db
  refine zmW (ptr db) a1 n1 c1 w _ ⟨ne,ne,_,x.fbp hK,fun w1 x1=>?_⟩
  have y1:=x.ext x1
  obtain ⟨fx,I,W⟩:=y1.opn fb P F hK
  refine (zEe fx I.i0.pre.aft I.i0.hs).mono fun v w2 ⟨G,outs,out,outc,P',hv,hpl,hGh,hjobs,hjp,fx',f2,oO,h60⟩=>⟨out,_,outc,0,hv,ne,ne,?_⟩
  obtain ⟨po1,po2⟩:=zvS hpl
  obtain ⟨y2,f2',g2'⟩:=y1.turn hK fx' f2 (fun b hb=>.inl (by rw [hjp] at hb; exact hb)) (zzX hpl I) (W.plan hpl)
  generalize hK':({ K with farm:=some (fb,P',G) }:Kt)=K' at y2 g2'
  have hK2:K'.farm=some (fb,P',G):=by rw [<- hK']
  have gd2:GD w2:=(g.ext x1).fr f2' fun b hb=>Nat.le_trans hB (y1.foot hb).1
  refine ⟨_,y2.fbp hK2,fun w8 x8=>?_⟩
  have y8:=y2.ext x8
  obtain ⟨fx8,I8,W8⟩:=y8.opn fb P' G hK2
  refine (zBT fx8 hGh).mono fun v w9 ⟨e9,hp,hc,hv,_,hS⟩=>⟨e9,hp,_,hc,hv,?_⟩
  have x9:=x8.trans e9
  have cO:zgt 2 encO w9 out outs:=(oO.ext x9).recs fun _ _=>rfl
  have hH:=hS.at
  refine ⟨fun p n c k w'=>Ext w9 w'/\0<=k/\k<=outs.length/\n=k/\Own w9.heap.size w' zay 1 p n c ((outs.take k.toNat).map fun o=>Value.string (ofL (zit G.hosts o))),fun _ _ _ k _=>(outs.length-k).toNat,⟨Ext.refl _,by omega,by omega,by simp,Own.nil⟩,?_⟩
  rintro p n c k w16 ⟨x16,hk0,hk1,hnk,o16⟩
  refine ⟨fun hlt=>?_,fun hge w17 h17=>?_⟩
  · obtain ⟨o,ho⟩:∃ o,outs[k.toNat]?=some o:=⟨_,List.getElem?_eq_getElem (by omega)⟩
    obtain ⟨⟨i1,i2⟩,q1,q2⟩:=po1 o (List.mem_of_getElem? ho)
    rw [<- po2] at q2
    have hj60:=fx.jO.1
    have r0:Go.Sx.cell w16 (pIdx out k 2) 0=some (.int .i64 o.1):=by
      refine zaD x16 ?_
      exact cO.at hk0 ho rfl
    have r1:Go.Sx.cell w16 (pIdx out k 2) 1=some (.int .i64 o.2):=by
      refine zaD x16 ?_
      exact cO.at hk0 ho rfl
    obtain ⟨hq,hd,np,np8,hcs,_⟩:=(hH.ext x16).at q1 q2
    have hname:Go.Sx.cell w16 (pAdd (pIdx hp o.2 8) 0) 0=some (.string (G.hosts.getD o.2.toNat default).name):=by
      rw [zam]; exact hcs 0 _ rfl
    have hmem:=zap G.hosts default (i:=o.2.toNat) (by omega)
    have hsz:=(zcZ (hGh.2.1 _ hmem).1).2
    refine ⟨fun hq=>zai r0 (zah.2 hq),hk0,hlt,zai r0,_,r0,_,r1,fun b19 hb19=>⟨np,q1,q2,np8,_,hname,fun w21 h21=>?_⟩⟩
    refine (znF o.1 (by omega) w21 (((gd2.ext x9).ext x16).ext h21).gb).mono fun v w22 ⟨e22,hv⟩=>⟨e22,_,hv,?_⟩
    have hil:=Lib.itoa_length_le o.1 (by omega) (by omega)
    have e1:(ofL (Lib.itoa o.1)++(⟨#[64]⟩:ByteArray))++(G.hosts.getD o.2.toNat default).name=ofL (zit G.hosts o):=by
      unfold zit
      have:(⟨#[64]⟩:ByteArray)=ofL [64]:=rfl
      rw [this,zxK]
      have e2:(G.hosts.getD o.2.toNat default).name=ofL (G.hosts.getD o.2.toNat default).name.data.toList:=(zb9 _).symm
      rw [e2,zxK,zcm]
      simp
    refine ⟨?_,?_,?_⟩
    · unfold zdl
      rw [zat]
      show _+1<=_
      omega
    · unfold zdl
      rw [show (⟨#[64]⟩:ByteArray)=ofL [64] from rfl,zxK,zat,List.length_append]
      show _+1+_<=_
      omega
    rw [e1]
    refine znW zbX (by omega) o16 x16.size (fun b hb y hy=>by simp at hb; subst hb; have:=(o16.lt y hy).2; omega) rfl (by intro u hu; simp [Value.cells] at hu; subst hu; rfl) (by omega) (by omega) (by omega) fun p' c' w' o' g' np _=>⟨i64 (by omega),⟨g'.ext x16 o16,by omega,by omega,by omega,?_⟩,by simp only []; omega⟩
    rw [show (k+1).toNat=k.toNat+1 by omega,List.take_add_one,ho]
    simpa [Value.cells] using o'
  · have hk:k=outs.length:=by omega
    subst hk
    have htake:outs.take ((outs.length:Int)).toNat=outs:=by simp
    rw [htake] at o16
    have hn:n=outs.length:=by omega
    subst hn
    have hmap:(outs.map fun o=>Value.string (ofL (zit G.hosts o)))=(outs.map fun o=>ofL (zit G.hosts o)).map Value.string:=by simp
    rw [hmap] at o16
    have hlen2:((outs.map fun o=>ofL (zit G.hosts o)).map (·.data.toList))=outs.map (zit G.hosts):=by
      rw [List.map_map]; rfl
    have hcap:=o16.le
    have hj:=zBV (outs.map fun o=>ofL (zit G.hosts o)) 32 p c (by simpa using hcap.1) w17 (o16.ext h17).cells (by
      rw [hlen2]
      have:=zhM (c:=32) (m:=100) (outs.map (zit G.hosts)) (fun y hy=>by
        obtain ⟨o,ho,rfl⟩:=List.mem_map.1 hy
        obtain ⟨⟨i1,i2⟩,q1,q2⟩:=po1 o ho
        have hj60:=fx.jO.1
        have hil:=Lib.itoa_length_le o.1 (by omega) (by omega)
        rw [<- po2] at q2
        have hmem:=zap G.hosts default (i:=o.2.toNat) (by omega)
        have hsz:=(zcZ (hGh.2.1 _ hmem).1).2
        unfold zit
        rw [List.length_append,List.length_cons,zhC]
        omega)
      rw [List.length_map] at this
      omega) (by simp; omega)
    rw [List.length_map,hlen2] at hj
    refine hj.mono fun v w18 ⟨e18,hv⟩=>⟨e18,_,hv,fun w20 h20=>(zqw 0 w20).mono fun v w21 ⟨e21,hE⟩=>⟨e21,v,rfl,fun w23 h23=>?_⟩⟩
    have hx:=((x9.trans x16).trans h20).trans (e21.trans h23)
    refine ⟨_,v,0,K',rfl,hE,y2.ext hx,?_,?_,?_⟩
    · exact ((zad x1).tr f2').tr (zad hx)
    · intro b hb
      refine (g2' b hb).imp id fun h=>Nat.le_trans x1.size h
    · rw [Kt.st_opn hK,Kt.st_opn hK2]
      exact ⟨rfl,G,outs,hpl,rfl,rfl⟩
end
def zFF (w:World) (s:ByteArray) (v:Value) (w':World):Prop:=Ext w w'/\∃ j pa ca pf cf e,v=.tuple #[jv j pa ca pf cf,.int .i64 e]/\WfJ j/\(∀ S:Nat->Prop,(∀ b,S b->b<w.heap.size)->∀ w'',Fr S w' w''->IsJ w'' j pa ca pf) /\
  ((e≠0/\j=zdw/\pa=none/\ca=0/\pf=none/\cf=0)\/(e=0/\okJ j/\nod j.ask<=60/\s=ofL (jtx j)/\(txt j.ask).length<=2000))/\(3000<s.size->e=2)/\(s.size<=3000->e=0\/e=3)/\(∀ j0,JT s j0->s.size<=3000->e=0/\j=j0)
theorem zg1 {w w':World} {s:ByteArray} (x:Ext w w') {e:Int} (he:e≠0) (hno:∀ j0,JT s j0->s.size<=3000->False) (hE:(3000<s.size->e=2)/\(s.size<=3000->e=3):=by refine ⟨fun h=>?_,fun h=>?_⟩<;>omega):zFF w s (.tuple #[jv zdw none 0 none 0,.int .i64 e]) w' :=
  ⟨x,zdw,none,0,none,0,e,rfl,zih,fun _ _ _ _=>zoQ _,.inl ⟨he,rfl,rfl,rfl,rfl,rfl⟩,hE.1,fun h=>.inr (hE.2 h),fun j0 h hs=>(hno j0 h hs).elim⟩
theorem zGS (s:ByteArray) (hs63:s.size<=9223372036854775807) (w:World) (g:GB w):FnP Tryz.prog zgT #[.string s] w (zFF w s):=by
  refine zpV s w _ fun b0 hb0=>⟨fun hbig w1 h1=>zg1 h1 (by decide) fun j0 _ h=>by omega,fun hsm w1 x1=>?_⟩
  have h1:=zaa x1
  have hb01:b0<w1.heap.size:=x1.lt b0 (by simp)
  refine (zeX 32 s (by omega) w1 (g.ext h1)).mono fun v w2 ⟨e2,hv,hc2,hlt2⟩=>⟨e2,_,_,_,hv,fun hne w6 x6=>?_,fun h5=>?_⟩
  · refine zg1 (zaw x6 (h1.trans e2) (by intro d hd; simp at hd; omega)) (by decide) fun j0 hj _=>hne ?_
    rw [(zgl hj).1]; rfl
  have hw2:Ext w w2:=h1.trans e2
  have hcnt:Lib.countB s (one 32)=4:=by omega
  rw [hcnt] at hc2
  have hlen:=zeL (c:=32) 4 s hcnt
  have hsz:∀ i q,(Lib.splitB (one 32) 0 4 s)[i]?=some q->q.size+i<=s.size:=fun i q h=>zcy _ s i q h
  have hjt:∀ j0,JT s j0->Lib.splitB (one 32) 0 4 s=(jps j0).map ofL:=fun j0 hj=>(zgl hj).2
  generalize Lib.splitB (one 32) 0 4 s=Ps at hc2 hlen hsz hjt
  have spn:(some (⟨w1.heap.size,0,none⟩:Addr))≠none:=by simp
  have spb:∀ a,(some (⟨w1.heap.size,0,none⟩:Addr))=some a->a.block<w2.heap.size:=fun a ha=>by obtain rfl:=Option.some.inj ha; exact hlt2
  generalize (some (⟨w1.heap.size,0,none⟩:Addr))=sp at hc2 spn spb ⊢
  obtain ⟨P0,P1,P2,P3,P4,rfl⟩:∃ a b c d e,Ps=[a,b,c,d,e]:=by
    match Ps,hlen with
    |[a,b,c,d,e],_ => exact ⟨a,b,c,d,e,rfl⟩
  have cellP:∀ {w':World} (i:Nat) (q:ByteArray),Ext w2 w'->([P0,P1,P2,P3,P4]:List ByteArray)[i]?=some q->Go.Sx.cell w' (pIdx sp (i:Int) 1) 0=some (.string q):=fun {w'} i q hx hq=>by
    rw [zae]
    have:=hc2.ext hx i (.string q) (by rw [List.getElem?_map,hq]; rfl)
    simpa using this
  have s0:=hsz 0 P0 rfl
  have s1:=hsz 1 P1 rfl
  have s2:=hsz 2 P2 rfl
  have s3:=hsz 3 P3 rfl
  have s4:=hsz 4 P4 rfl
  refine ⟨spn,by omega,by omega,P0,cellP 0 P0 (Ext.refl _) rfl,fun b7 hb7=>⟨spn,by omega,by omega,P1,cellP 1 P1 (Ext.refl _) rfl,fun w9 x9=>?_⟩⟩
  have hfree:∀ i:Int,zwB [b7] (pIdx sp i 1):=fun i b hb a ha=>by
    simp at hb; subst hb
    cases sp with
    |none => exact absurd rfl spn
    |some x =>
      have:=spb x rfl
      simp [pIdx] at ha
      rw [<- ha,zaU]; omega
  have h9:=zaa x9
  have hw9:=hw2.trans h9
  refine (zrF P1 (by omega) w9 (g.ext hw9)).mono fun v w10 ⟨e10,n1,ev,hv,hcase⟩=>⟨e10,n1,ev,hv,spn,by omega,by omega,P2,⟨cellP 2 P2 (h9.trans e10) rfl,hfree 2⟩,fun w14 x14=>?_⟩
  have hw10:=hw9.trans e10
  have h210:Ext w2 w10:=h9.trans e10
  have hb7w:w.heap.size<=b7:=Nat.le_trans hw2.size hb7
  have hw14:Ext w w14:=zaw x14 hw10 (by intro d hd; simp at hd; omega)
  refine (zDK P2 (by omega) w14 (g.ext hw14)).mono fun v w15 ⟨e15,nd,en,hv,hnz,hnok,hncomp⟩=>⟨e15,nd.c,nd.m,nd.g,en,hv,spn,by omega,by omega,P4,⟨cellP 4 P4 h210 rfl,hfree 4⟩,fun w21 x21=>?_⟩
  have hw21:Ext w w21:=zaw x21 hw10 (by intro d hd; simp at hd; omega)
  have h221:Ext w2 w21:=zaw x21 h210 (by intro d hd; simp at hd; omega)
  have hb0_21:b0<w21.heap.size:=x21.lt b0 (by simp)
  have hb7_21:b7<w21.heap.size:=x21.lt b7 (by simp)
  refine (zwR P4 w21 (g.ext hw21)).mono fun v w22 ⟨e22,t,pa,ca,ea,hv,hWt,hTt,horA,hcompA⟩=>⟨e22,t.k,t.key,t.val,t.n,pa,t.xs.length,ca,ea,hv,fun w31 x31=>?_⟩
  have hw22:Ext w w22:=hw21.trans e22
  have h222:Ext w2 w22:=h221.trans e22
  have hn1:InR .i64 n1\/ev≠.nilIface:=by
    rcases hcase with ⟨_,h⟩|⟨⟨a,b,h⟩,_⟩
    · exact .inl (zg7 h)
    · exact .inr (by rw [h]; simp)
  have parts:∀ j0,JT s j0->P0=j0.user/\P1=ofL (Lib.itoa j0.prio)/\P2=ofL (zbq j0.nd)/\P3=ofL (zqA j0.aft)/\P4=ofL (txt j0.ask):=fun j0 hj=>by
    have:=hjt j0 hj
    simp only [jps,List.map_cons,List.map_nil,List.cons.injEq,and_true] at this
    rw [zb9] at this
    exact this
  have good0:∀ j0,JT s j0->s.size<=3000->ev=.nilIface/\n1=j0.prio/\en=0/\nd=j0.nd/\ea=0/\t=j0.ask:=fun j0 hj hs=>by
    obtain ⟨q0,q1,q2,q3,q4⟩:=parts j0 hj
    have hp:=zg6 (n:=j0.prio) (by have:=hj.ok.prio; omega)
    have ha:=hcompA j0.ask hj.ok.ask hj.nod q4 (by rw [q4,zat]; exact hj.ask)
    have hd:=hncomp j0.nd hj.ok.nd q2
    rcases hcase with ⟨h,h'⟩|⟨_,h'⟩
    · rw [q1,zcm,hp] at h'
      cases h'
      exact ⟨h,rfl,hd.1,hd.2,ha.1,ha.2⟩
    · rw [q1,zcm] at h'
      exact absurd hp (h' _)
  refine zi9 (by kernel_rfl) (hcase.elim (fun h=>.inl h.1) fun h=>.inr h.1) fun tb htb=>⟨Ext.refl _,tb,rfl,fun hbad w34 x34=>?_,fun hgd=>?_⟩
  · refine zg1 (zaw x34 hw22 (by intro d hd; simp at hd; omega)) (by decide) fun j0 hj hs=>?_
    obtain ⟨a1,_,a3,_,a5,_⟩:=good0 j0 hj hs
    rcases hbad with (h|h)|h
    · rw [htb.2 a1] at h; cases h
    · exact h a3
    · exact h a5
  have hev:ev=.nilIface:=htb.1 hgd.1.1
  have hn1:InR .i64 n1:=hn1.resolve_right fun h=>h hev
  have hnd:=hnok hgd.1.2
  obtain ⟨htC,htn,htx,_⟩:zmh t=0/\nod t<=60/\P4=ofL (txt t)/\P4.size<=2000:=by
    rcases horA with ⟨h,_⟩|⟨_,h⟩
    · exact absurd hgd.2 h
    · exact h
  have htl:(txt t).length<=2000:=by rw [<- zat,<- htx]; assumption
  have tail:∀ (xs:List Int) (pf:Option Addr) (cf:Nat) (wt:World),Ext w wt->Fr (fun b=>b=b7) w22 wt->Own w21.heap.size wt zd8 1 pf xs.length cf (xs.map (.int .i64))->(∀ x∈xs,InR .i64 x)->xs.length<=9223372036854775807->(∀ j0,JT s j0->s.size<=3000->xs=j0.aft) ->
      ∀ w55,zag [b7] [] wt w55->FnP Tryz.prog zeg #[jv ⟨P0,n1,nd,t,xs⟩ pa ca pf cf] w55 fun v56 w56=>Ext w55 w56/\∃ t57:ByteArray,∃ t58:Int,v56=(.tuple #[(.string t57),(.int .i64 t58)]) /\
        (((t58≠0)\/(t57≠s))->∀ w59,zag [b0,b7] [] wt w59->zFF w s (.tuple #[jv zdw none 0 none 0,.int .i64 3]) w59) /\
        (((t58=0)/\(t57=s))->∀ w59,zag [b0,b7] [] wt w59->zFF w s (.tuple #[jv ⟨P0,n1,nd,t,xs⟩ pa ca pf cf,.int .i64 0]) w59):=by
    intro xs pf cf wt hwt ft o hxr hxl hcx w55 x55
    have hW:WfJ ⟨P0,n1,nd,t,xs⟩:=⟨by show P0.size<=_; omega,hn1,hnd.1.rng,hWt,hxl,hxr⟩
    have key:∀ (S:Nat->Prop),(∀ b,S b->b<w21.heap.size)->∀ w'',Fr S wt w''->IsJ w'' ⟨P0,n1,nd,t,xs⟩ pa ca pf:=fun S hS w'' fw=>by
      refine ⟨hTt (fun b=>b=b7\/S b) (fun b hb=>by rcases hb with rfl|hb; (· exact hb7_21); exact hS b hb) w'' ((ft.mono fun b hb=>.inl hb).tr (fw.mono fun b hb=>.inr hb)),?_⟩
      exact (Own.fr o fw fun a ha hb=>by have:=(o.lt a ha).1; have:=hS _ hb; omega).cells
    have f55:Fr (fun b=>b=b7) wt w55:=zbP x55 (by intro d hd; simp at hd; exact .inl hd)
    have hw55:Ext w w55:=zaw x55 hwt (by intro d hd; simp at hd; omega)
    refine (zxC ⟨P0,n1,nd,t,xs⟩ pa ca pf cf w55 (key (fun b=>b=b7) (fun b hb=>by omega) w55 f55) hW (by show nod t<=_; omega) (g.ext hw55)).mono fun v w56 ⟨e56,tt,e,hv,heq,hem,htt⟩=>⟨e56,tt,e,hv,fun hbad w59 x59=>?_,fun hgood w59 x59=>?_⟩
    · refine zg1 (zaw x59 hwt (by intro d hd; simp at hd; omega)) (by decide) fun j0 hj hs=>?_
      obtain ⟨q0,_⟩:=parts j0 hj
      obtain ⟨_,a2,_,a4,_,a6⟩:=good0 j0 hj hs
      have hxa:=hcx j0 hj hs
      have hj0:(⟨P0,n1,nd,t,xs⟩:Jb)=j0:=by rw [q0,a2,a4,a6,hxa]
      have he0:e=0:=heq.2 (by rw [hj0]; exact hj.ok)
      rcases hbad with h|h
      · exact h he0
      · exact h (by rw [htt he0,hj0]; exact hj.is.symm)
    · refine ⟨zaw x59 hwt (by intro d hd; simp at hd; omega),⟨P0,n1,nd,t,xs⟩,pa,ca,pf,cf,0,rfl,hW,fun S hS w'' fw=>?_,.inr ⟨rfl,heq.1 hgood.1,htn,by rw [<- hgood.2]; exact htt hgood.1,htl⟩,fun h=>by omega,fun _=>.inl rfl,fun j0 hj hs=>⟨rfl,?_⟩⟩
      · refine key (fun b=>S b\/b=b0\/b=b7) (fun b hb=>?_) w'' ((zbP x59 (by intro d hd; simp at hd; exact .inl (.inr hd))).tr (fw.mono fun b hb=>.inl hb))
        have:=hw21.size
        rcases hb with hb|rfl|rfl
        · have:=hS b hb; omega
        · exact hb0_21
        · exact hb7_21
      · obtain ⟨q0,_⟩:=parts j0 hj
        obtain ⟨_,a2,_,a4,_,a6⟩:=good0 j0 hj hs
        rw [q0,a2,a4,a6,hcx j0 hj hs]
  refine ⟨spn,by omega,by omega,P3,⟨cellP 3 P3 h222 rfl,hfree 3⟩,fun hne3=>⟨spn,by omega,by omega,P3,⟨cellP 3 P3 h222 rfl,hfree 3⟩,fun w36 x36=>?_⟩,fun heq3 w35 x35=>?_⟩
  rotate_left
  · refine tail [] none 0 w22 hw22 (Fr.refl _ _) Own.nil (fun x hx=>by cases hx) (by simp) (fun j0 hj hs=>?_) w35 x35
    obtain ⟨_,_,_,q3,_⟩:=parts j0 hj
    have:zqA j0.aft=[45]:=zmO (q3.symm.trans heq3)
    rcases zy0 this with h|⟨x,h,hx⟩
    · exact h.symm
    · have hup:=zgI hj.ok.up x (by rw [h]; simp)
      rw [zdX (by omega)] at hx
      have:=zcY x.toNat 45 (by rw [hx]; simp)
      exact absurd this (by decide)
  have f36:Fr (fun b=>b=b7) w22 w36:=zbP x36 (by intro d hd; simp at hd; exact .inl hd)
  have hw36:Ext w w36:=zaw x36 hw22 (by intro d hd; simp at hd; omega)
  have hb0_36:b0<w36.heap.size:=x36.lt b0 (by simp)
  have hb7_36:b7<w36.heap.size:=x36.lt b7 (by simp)
  refine (zeX 44 P3 (by omega) w36 (g.ext hw36)).mono fun v w37 ⟨e37,hv,hc37,hlt37⟩=>⟨e37,_,_,_,hv,?_⟩
  have zHj:=zeL (c:=44) _ P3 rfl
  have qsz:∀ i q,(Lib.splitB (one 44) 0 (Lib.countB P3 (one 44)) P3)[i]?=some q->q.size+i<=P3.size:=fun i q h=>zcy _ P3 i q h
  have qjt:∀ j0,JT s j0->Lib.countB P3 (one 44)+1=j0.aft.length/\Lib.splitB (one 44) 0 (Lib.countB P3 (one 44)) P3=(j0.aft.map Lib.itoa).map ofL:=fun j0 hj=>by
    obtain ⟨_,_,_,q3,_⟩:=parts j0 hj
    have hne:j0.aft≠[]:=fun h=>hne3 (by rw [q3,h]; rfl)
    rw [q3]
    exact zqb hne
  generalize Lib.splitB (one 44) 0 (Lib.countB P3 (one 44)) P3=Qs at hc37 zHj qsz qjt
  generalize Lib.countB P3 (one 44)=m at zHj qjt ⊢
  have qpn:(some (⟨w36.heap.size,0,none⟩:Addr))≠none:=by simp
  have qpb:∀ a,(some (⟨w36.heap.size,0,none⟩:Addr))=some a->a.block≠b7:=fun a ha=>by obtain rfl:=Option.some.inj ha; show w36.heap.size≠b7; omega
  generalize (some (⟨w36.heap.size,0,none⟩:Addr))=qp at hc37 qpn qpb ⊢
  have hw37:Ext w w37:=hw36.trans e37
  have hb37:b0<w37.heap.size/\b7<w37.heap.size:=by have:=e37.size; omega
  refine ⟨fun k c43 c44 c45 c46 c47 c48 c49 c50 c51 c52 cl52 cc52 c53 cl53 cc53 w'=>(c43=P0/\c44=n1/\c45=nd.c/\c46=nd.m/\c47=nd.g/\c48=t.k/\c49=t.key/\c50=t.val/\c51=t.n/\c52=pa/\cl52=t.xs.length/\cc52=ca)/\0<=k/\k<=(m+1:Nat)/\Ext w w'/\Fr (fun b=>b=b7) w37 w' /\
      ∃ xs:List Int,cl53=xs.length/\xs.length=k.toNat/\Own w37.heap.size w' zd8 1 c53 cl53 cc53 (xs.map (.int .i64))/\∀ (i:Nat) x,xs[i]?=some x->∃ q,Qs[i]?=some q/\Lib.parseIntB 64 q.data.toList=.ok x,fun k _ _ _ _ _ _ _ _ _ _ _ _ _ _ _ _=>(m+1-k).toNat,
    ⟨⟨rfl,rfl,rfl,rfl,rfl,rfl,rfl,rfl,rfl,rfl,rfl,rfl⟩,by omega,by omega,hw37,Fr.refl _ _,[],rfl,rfl,Own.nil,fun i x h=>by simp at h⟩,?_⟩
  rintro k c43 c44 c45 c46 c47 c48 c49 c50 c51 c52 cl52 cc52 c53 cl53 cc53 w54 ⟨⟨rfl,rfl,rfl,rfl,rfl,rfl,rfl,rfl,rfl,rfl,rfl,rfl⟩,hk0,hk1,hw54,f54,xs,rfl,hxk,o54,hxs⟩
  have c54:zav w54 qp (Qs.map Value.string):=hc37.fr f54 fun a ha=>qpb a ha
  refine ⟨fun hlt=>?_,fun hge=>?_⟩
  rotate_left
  · have f22:Fr (fun b=>b=b7) w22 w54:=(f36.tr (zad e37)).tr f54
    have sz:w21.heap.size<=w37.heap.size:=by have:=e22.size; have:=f36.size; have:=e37.size; omega
    refine tail xs c53 cc53 w54 hw54 f22 (o54.weak sz) (fun x hx=>?_) ?_ fun j0 hj hs=>?_
    · obtain ⟨i,hi⟩:=List.getElem?_of_mem hx
      obtain ⟨q,_,hq⟩:=hxs i x hi
      exact zg7 hq
    · have:=o54.le; omega
    · obtain ⟨h1,h2⟩:=qjt j0 hj
      have hkl:xs.length=j0.aft.length:=by omega
      refine List.ext_getElem? fun i=>?_
      rcases Nat.lt_or_ge i xs.length with hi|hi
      · obtain ⟨q,hq,hp⟩:=hxs i xs[i] (List.getElem?_eq_getElem hi)
        rw [h2,List.map_map,List.getElem?_map,List.getElem?_eq_getElem (by omega:i<j0.aft.length)] at hq
        simp only [Option.map_some,Option.some.injEq] at hq
        have hup:=zgI hj.ok.up (j0.aft[i]'(by omega)) (List.getElem_mem _)
        rw [<- hq] at hp
        have hp2:=zg6 (n:=j0.aft[i]'(by omega)) (by omega)
        have hp3:Lib.parseIntB 64 (Lib.itoa (j0.aft[i]'(by omega)))=.ok xs[i]:=hp
        rw [hp2] at hp3
        injection hp3 with h3
        rw [List.getElem?_eq_getElem hi,List.getElem?_eq_getElem (by omega:i<j0.aft.length),h3]
      · rw [List.getElem?_eq_none hi,List.getElem?_eq_none (by omega)]
  obtain ⟨pc,hpc⟩:∃ pc,Qs[k.toNat]?=some pc:=⟨_,List.getElem?_eq_getElem (by omega)⟩
  have hcell:Go.Sx.cell w54 (pIdx qp k 1) 0=some (.string pc):=by
    rw [zae]
    exact c54 _ _ (by simp [hpc])
  have hpsz:=qsz _ _ hpc
  have hqfree:zwB [b7] (pIdx qp k 1):=fun b hb a ha=>by
    simp at hb; subst hb
    cases qp with
    |none => exact absurd rfl qpn
    |some x =>
      simp [pIdx] at ha
      rw [<- ha,zaU]; exact qpb x rfl
  refine ⟨qpn,hk0,hlt,pc,⟨hcell,hqfree⟩,fun w56 x56=>?_⟩
  have hw56:Ext w w56:=zaw x56 hw54 (by intro d hd; simp at hd; omega)
  have f56:Fr (fun b=>b=b7) w37 w56:=f54.tr (zbP x56 (by intro d hd; simp at hd; exact .inl hd))
  refine (zrF pc (by omega) w56 (g.ext hw56)).mono fun v w57 ⟨e57,x,ev2,hv,hcase2⟩=>⟨e57,x,ev2,hv,fun w60 h60=>?_⟩
  have hw57:=hw56.trans e57
  refine zi9 (by kernel_rfl) (hcase2.elim (fun h=>.inl h.1) fun h=>.inr h.1) fun tb2 htb2=>⟨Ext.refl _,tb2,rfl,fun hbad w63 x63=>?_,fun hok=>?_⟩
  · refine zg1 (zaw x63 hw57 (by intro d hd; simp at hd; omega)) (by decide) fun j0 hj hs=>?_
    obtain ⟨h1,h2⟩:=qjt j0 hj
    rw [h2,List.map_map,List.getElem?_map,List.getElem?_eq_getElem (by omega:k.toNat<j0.aft.length)] at hpc
    simp only [Option.map_some,Option.some.injEq] at hpc
    have hup:=zgI hj.ok.up (j0.aft[k.toNat]'(by omega)) (List.getElem_mem _)
    have hp2:=zg6 (n:=j0.aft[k.toNat]'(by omega)) (by omega)
    rcases hcase2 with ⟨h,_⟩|⟨_,h⟩
    · rw [htb2.2 h] at hbad; cases hbad
    · rw [<- hpc] at h
      exact h _ hp2
  · have hx:Lib.parseIntB 64 pc.data.toList=.ok x:=by
      have:=htb2.1 hok
      rcases hcase2 with ⟨_,h⟩|⟨⟨a,b,h⟩,_⟩
      · exact h
      · rw [this] at h; cases h
    have f57:Fr (fun b=>b=b7) w37 w57:=f56.tr (zad e57)
    have o57:Own w37.heap.size w57 zd8 1 c53 xs.length cc53 (xs.map (.int .i64)):=Own.ext (Own.fr o54 (zbP x56 (by intro d hd; simp at hd; exact .inl hd):Fr (fun b=>b=b7) w54 w56) fun a ha hb=>by have:=(o54.lt a ha).1; omega) e57
    refine zfI zds o57 f57.size (fun b hb y hy=>by have:=(o57.lt y hy).1; simp at hb; rcases hb with rfl|rfl<;>omega) (by omega) (by omega) fun p' c' w' o' g' _ _=>⟨i64 (by omega),⟨⟨rfl,rfl,rfl,rfl,rfl,rfl,rfl,rfl,rfl,rfl,rfl,rfl⟩,by omega,by omega,?_,?_,xs++[x],by simp,by simp; omega,o',fun i y hy=>?_⟩,by simp only []; omega⟩
    · have hsz37:=hw37.size
      exact g'.ext hw57 (o57.weak hsz37)
    · have hB:Below w37.heap.size w57 w':=⟨g'.by_.os,g'.by_.tape,g'.by_.output,g'.by_.size,fun b hb=>g'.by_.block b (by have:=f57.size; omega) fun h=>by
        cases hp:c53 with
        |none => rw [hp] at h; simp [blk] at h
        |some a => rw [hp] at h; simp [blk] at h; have:=(o57.lt a hp).1; omega⟩
      exact ⟨hB.os.trans f57.os,hB.tape.trans f57.tape,hB.output.trans f57.output,Nat.le_trans f57.size hB.size,fun b hb hn=>(hB.block b hb).trans (f57.block b hb hn)⟩
    · rcases Nat.lt_or_ge i xs.length with hi|hi
      · rw [List.getElem?_append_left hi] at hy
        exact hxs i y hy
      · rw [List.getElem?_append_right hi] at hy
        obtain ⟨hi2,hy2⟩:=List.getElem?_eq_some_iff.1 hy
        simp at hi2 hy2
        obtain rfl:i=k.toNat:=by omega
        exact ⟨pc,hpc,by rw [<- hy2]; exact hx⟩
section
variable {O:Nat->Prop} {B fb:Nat} {w:World} {P:Pl} {F:Fm}
theorem zEL (x:FXO O B w fb P F) (j:Jb) (pa:Option Addr) (ca:Nat) (pf:Option Addr) (cf:Nat) (hJ:IsJ w j pa ca pf) (hW:WfJ j) (hB:B<=w.heap.size) :
    FnP Tryz.prog za3 #[.pointer (ptr fb),jv j pa ca pf cf] w fun v w'=>∃ id e:Int,v=.tuple #[.int .i64 id,.int .i64 e]/\((e=0↔zvn F j)/\zI7 F j e)/\((e≠0/\Ext w w'/\id=0)\/(e=0/\id=F.jobs.length+1/\∃ P',FXO O B w' fb P' (zoL F j)/\Fr (ft fb P.jp) w w'/\zGI w fb P.jp P'.jp)):=by
  have ne:=zaL fb
  have hl0:=x.jO.1
  refine zfE (ptr fb) j.user j.prio j.nd.c j.nd.m j.nd.g j.ask.k j.ask.key j.ask.val j.ask.n pa j.ask.xs.length ca pf j.aft.length cf w _ fun b0 hb0 w1 h1=>?_
  refine (zDr j pa ca pf cf w1 (hJ.ext h1) hW).mono fun v w2 ⟨e2,hv⟩=>⟨e2,zua j,hv,fun hne w4 h4=>⟨0,zua j,rfl,⟨⟨fun h=>absurd h hne,fun h=>absurd (zi2.2 h.1) hne⟩,.inl ⟨hne,rfl⟩⟩,.inl ⟨hne,h4,rfl⟩⟩,fun hz=>?_⟩
  have hok:=zi2.1 hz
  have hlen:=hok.len
  have hup:=zgI hok.up
  refine ⟨ne,ne,_,_,_,x.cell (i:=6) rfl,fun h60 w7 h7=>⟨0,7,rfl,⟨⟨fun h=>(by cases h),fun h=>absurd (by have:=x.len; omega) h.2.1⟩,.inr ⟨hz,.inl ⟨by have:=x.len; omega,rfl⟩⟩⟩,.inl ⟨by decide,h7,rfl⟩⟩,fun h60=>?_⟩
  refine ⟨fun k w'=>Ext w w'/\0<=k/\k<=j.aft.length/\∀ i:Nat,(i:Int)<k->j.aft.getD i 0<=F.jobs.length,fun k _=>(j.aft.length-k).toNat,⟨Ext.refl _,by omega,by omega,fun i hi=>by omega⟩,?_⟩
  rintro k w9 ⟨x9,hk0,hk1,hrng⟩
  have gmem:∀ {k:Int},0<=k->k<j.aft.length->j.aft.getD k.toNat 0∈j.aft:=fun h0 h1=>zap j.aft 0 (by omega)
  refine ⟨fun hlt=>?_,fun hge=>?_⟩
  · have g:=zdP.idx (hJ.2.ext x9) hk0 hlt
    have hy:=hup _ (gmem hk0 hlt)
    refine ⟨fun h=>zai g (zah.2 h),hk0,hlt,_,g,fun w11 x11=>?_⟩
    have h11:=x9.trans (zaa x11)
    refine (zFS (x.ext h11) _ (i64 (by omega))).mono fun v w12 ⟨e12,hv⟩=>⟨e12,?_⟩
    rcases hv with ⟨hno,rfl⟩|⟨_,hin,rfl⟩
    · exact ⟨_,rfl,fun _ w14 h14=>⟨0,5,rfl,⟨⟨fun h=>(by cases h),fun h=>absurd ⟨hy.1,(h.2.2 _ (gmem hk0 hlt)).1⟩ hno⟩,.inr ⟨hz,.inr ⟨by have:=x.len; omega,.inl ⟨⟨_,gmem hk0 hlt,hno⟩,rfl⟩⟩⟩⟩,.inl ⟨by decide,(h11.trans e12).trans h14,rfl⟩⟩,fun h=>absurd rfl h⟩
    · obtain ⟨q,hq,hne,_⟩:=zmt x ⟨hy.1,hin⟩ (h11.trans e12)
      refine ⟨_,rfl,fun h=>absurd (hq.symm.trans h) hne,fun _=>⟨i64 (by omega),⟨h11.trans e12,by omega,by omega,fun i hi=>?_⟩,by simp only []; omega⟩⟩
      by_cases hik:(i:Int)<k
      · exact hrng i hik
      · obtain rfl:i=k.toNat:=by omega
        exact hin
  have hall:∀ y∈j.aft,y<=F.jobs.length:=fun y hy=>by
    obtain ⟨i,hi,rfl⟩:=List.mem_iff_getElem.1 hy
    have:=hrng i (by omega)
    simpa [List.getD_eq_getElem?_getD,hi] using this
  refine ⟨fun k w'=>Ext w w'/\0<=k/\k<=j.aft.length/\∀ i:Nat,(i:Int)<k->za1 F (j.aft.getD i 0)≠4/\za1 F (j.aft.getD i 0)≠5,fun k _=>(j.aft.length-k).toNat,⟨x9,by omega,by omega,fun i hi=>by omega⟩,?_⟩
  clear hrng hge hk0 hk1
  rintro k w12 ⟨x12,hk0,hk1,hrng⟩
  refine ⟨fun hlt=>?_,fun hge=>?_⟩
  · have g:=zdP.idx (hJ.2.ext x12) hk0 hlt
    have hy:=hup _ (gmem hk0 hlt)
    have hy2:=hall _ (gmem hk0 hlt)
    refine ⟨fun h=>zai g (zah.2 h),hk0,hlt,_,g,fun w14 x14=>?_⟩
    have h14:=x12.trans (zaa x14)
    refine (zFS (x.ext h14) _ (i64 (by omega))).mono fun v w15 ⟨e15,hv⟩=>⟨e15,?_⟩
    rcases hv with ⟨hno,_⟩|⟨_,hin,rfl⟩
    · exact absurd ⟨hy.1,hy2⟩ hno
    · obtain ⟨q,hq,hne,hg⟩:=zmt x ⟨hy.1,hin⟩ (h14.trans e15)
      refine ⟨_,rfl,by rw [hq]; exact hne,by rw [hq]; exact hne,_,by rw [hq]; exact hg,fun hbad w18 h18=>⟨0,9,rfl,⟨⟨fun h=>(by cases h),fun h=>?_⟩,.inr ⟨hz,.inr ⟨by have:=x.len; omega,.inr ⟨fun y hy=>⟨(hup y hy).1,hall y hy⟩,.inl ⟨⟨_,gmem hk0 hlt,hbad⟩,rfl⟩⟩⟩⟩⟩,.inl ⟨by decide,(h14.trans e15).trans h18,rfl⟩⟩,fun hgd=>⟨i64 (by omega),⟨h14.trans e15,by omega,by omega,fun i hi=>?_⟩,by simp only []; omega⟩⟩
      · have:=(h.2.2 _ (gmem hk0 hlt)).2
        rcases hbad with h|h
        · exact absurd h this.1
        · exact absurd h this.2
      · by_cases hik:(i:Int)<k
        · exact hrng i hik
        · obtain rfl:i=k.toNat:=by omega
          exact hgd
  have hall2:∀ y∈j.aft,za1 F y≠4/\za1 F y≠5:=fun y hy=>by
    obtain ⟨i,hi,rfl⟩:=List.mem_iff_getElem.1 hy
    have:=hrng i (by omega)
    simpa [List.getD_eq_getElem?_getD,hi] using this
  have hoks:zvn F j:=⟨hok,by have:=x.len; omega,fun y hy=>⟨hall y hy,hall2 y hy⟩⟩
  have x12':=x.ext x12
  refine ⟨ne,ne,_,_,_,x12'.cell (i:=6) rfl,fun w16 x16=>?_⟩
  have h16:=x12.trans (zaa x16)
  have hE:zeY j.ask=0:=by
    have:=hok.ask
    unfold zmh at this
    split at this
    · cases this
    · exact this
  refine (zD3 ⟨zta j,pa,ca,pf,cf⟩ w16 (hJ.ext h16) hE hok.len).mono fun v w17 ⟨e17,r,hv,hrs,hF⟩=>⟨e17,r.s.job.user,r.s.job.prio,r.s.job.nd.c,r.s.job.nd.m,r.s.job.nd.g,r.s.job.ask.k,r.s.job.ask.key,r.s.job.ask.val,r.s.job.ask.n,r.pa,r.s.job.ask.xs.length,r.ca,r.pf,r.s.job.aft.length,r.cf,r.s.what,r.s.host,r.s.since,r.s.again,r.s.tries,hv,?_⟩
  have h17:=h16.trans e17
  have x17:=x.ext h17
  have hlR:=x.len
  have hn60:F.jobs.length≠60:=hoks.2.1
  have hbj:∀ b∈[b0],∀ y,P.jp=some y->y.block≠b:=fun b hb y hy=>by simp at hb; subst hb; have:=(x.arr.lt y hy).2; omega
  refine znW (v:=sv r) zhG (by omega) x17.arr (Nat.le_trans hB h17.size) hbj rfl (zzo r) (by omega) (by omega) (by omega) fun p' c' w44 o44 g44 hp' hb44=>⟨ne,ne,?_⟩
  have apF:zbK (ptr fb) P.jp:=fun u y hu hy=>by cases hu; exact fun h=>x.ap y hy h.symm
  have s44:=x17.slot.st apF g44
  have hfb:=(x.slot.lt _ rfl).2
  have apP:∀ a,p'=some a->a.block≠fb:=fun a ha he=>by
    rcases g44.new with hn|hn
    · rw [ha] at hn
      cases hj:P.jp with
      |none => rw [hj] at hn; simp [blk] at hn
      |some y => rw [hj] at hn; simp [blk] at hn; exact x.ap y hj (hn▸he)
    · have h1:=hn a ha
      have h2:=h17.size
      have h3:fb<w.heap.size:=hfb
      omega
  refine zaZ (off:=6) s44 rfl (by simp) (by simp) (by intro u hu; simp at hu; subst hu; rfl) (fun b hb y hy he=>by cases hy; simp at hb; subst hb; have h3:fb<w.heap.size:=hfb; have he:fb=b:=he; omega) fun w48 o48 g48=>?_
  have f48:Fr (ft fb P.jp) w17 w48:=(zaR g44 fun a ha=>.inr ⟨a,ha,rfl⟩).tr (zaR g48 fun a ha=>by cases ha; exact .inl rfl)
  have hft:∀ b,ft fb p' b->ft fb P.jp b\/w17.heap.size<=b:=fun b hb=>by
    rcases hb with h|⟨a,ha,rfl⟩
    · exact .inl (.inl h)
    · rcases g44.new with hn|hn
      · left
        rw [ha] at hn
        cases hj:P.jp with
        |none => rw [hj] at hn; simp [blk] at hn
        |some y => rw [hj] at hn; simp [blk] at hn; exact .inr ⟨y,rfl,hn.symm⟩
      · exact .inr (hn a ha)
  have step:∀ {w'' w0:World},Ext w0 w17->Fr (ftO O fb p') w48 w''->Fr (ftO O fb P.jp) w0 w'':=fun h0 kf=>((zad h0).tr (f48.mono fun b hb=>.inr hb)).trans kf fun b hb=>by
    rcases hb with hb|hb
    · exact .inl (.inl hb)
    · rcases hft b hb with h|h
      · exact .inl (.inr h)
      · exact .inr (Nat.le_trans h0.size h)
  have y48:FXO O B w48 fb ⟨P.hp,P.hc,p',c',P.R++[r]⟩ (zoL F j):=by
    refine ⟨?_,?_,?_,fun w'' kf=>x.hs w'' (step h17 kf),fun r' hr' w'' kf=>?_,apP,x.hO,?_,fun b hb=>by have:=x.olt b hb; have:=h17.size; have:=f48.size; omega,fun b hb hf=>(hft b hf).elim (x.odis b hb) fun h=>by have:=x.olt b hb; have:=h17.size; omega⟩
    · show Own B w48 zdq 7 (ptr fb) 1 1 [_,_,_,_,_,_,.slice p' (P.R++[r]).length c']
      rw [List.length_append]
      exact o48
    · show Own B w48 ziT 16 p' (P.R++[r]).length c' ((P.R++[r]).flatMap zrR)
      rw [List.length_append,List.flatMap_append]
      have:=o44.st (fun u v hu hv=>by cases hv; exact apP u hu) g48
      simpa [Value.cells] using this
    · show (P.R++[r]).map (·.s)=F.jobs++[zta j]
      rw [List.map_append,x.map]; simp [hrs]
    · have hr':r'∈P.R++[r]:=hr'
      rcases List.mem_append.1 hr' with hr'|hr'
      · exact x.js r' hr' w'' (step h17 kf)
      · simp at hr'; subst hr'
        have:=hF (ftO O fb P.jp) (fun b hb=>by
          rcases hb with hb|hb
          · have:=x.olt b hb; have:=h16.size; omega
          · have:=(x.foot hb).2; have:=h16.size; omega) w'' (step (Ext.refl _) kf)
        rw [hrs]
        exact this
    · refine ⟨by show (F.jobs++[zta j]).length<=60; rw [List.length_append]; simp; omega,fun s hs=>?_⟩
      have hs:s∈F.jobs++[zta j]:=hs
      rcases List.mem_append.1 hs with hs|hs
      · exact x.jO.2 s hs
      · simp at hs; subst hs; exact ⟨hok,hW⟩
  refine ⟨ne,ne,_,_,_,y48.cell (i:=6) rfl,fun w52 h52=>⟨_,0,rfl,⟨⟨fun _=>hoks,fun _=>rfl⟩,.inr ⟨hz,.inr ⟨hn60,.inr ⟨fun y hy=>⟨(hup y hy).1,hall y hy⟩,.inr ⟨hall2,rfl⟩⟩⟩⟩⟩,.inr ⟨rfl,?_,_,y48.ext h52,((zad h17).tr f48).tr (zad h52),fun b hb=>?_⟩⟩⟩
  · simp; omega
  · rcases hft b hb with h|h
    · exact .inl h
    · exact .inr (Nat.le_trans h17.size h)
end
theorem zCD {w:World} {p:Option Addr} {c:Nat} {ws:List ByteArray} (k:Nat) (hk:k<ws.length) (hc:ws.length<=c) (h:zav w p (ws.map Value.string)):zav w (pCut p c (k:Int) 1) ((ws.drop k).map Value.string):=by
  have e:pCut p c (k:Int) 1=p.map (·.add k):=by
    unfold pCut
    rw [if_neg (by simp; omega)]
    simp
  rw [e]
  intro i v hv
  have h2:=h (k+i) v (by rw [List.getElem?_map,List.getElem?_drop] at hv; rw [List.getElem?_map]; exact hv)
  cases p with
  |none => simp [cell] at h2
  |some a =>
    simp only [Option.map_some,cell,Option.bind_some] at h2 ⊢
    have:(a.add k).add i=a.add (k+i):=by
      by_cases h0:k=0
      · subst h0; simp [Addr.add]
      · by_cases hi:i=0
        · subst hi; simp [Addr.add,h0]
        · simp [Addr.add,h0,hi,Nat.add_assoc]
    rw [this]; exact h2
def zoe (ws:List ByteArray) (k:Nat):ByteArray:=ofL (Lib.join ((ws.drop k).map (·.data.toList)) [32])
theorem zIL {wp:Option Addr} {wc:Nat} {ws:List ByteArray} {w:World} (k:Nat) (hk:k<ws.length) (hc:ws.length<=wc) (h10:ws.length<=10) (hsz:∀ x∈ws,x.size<=4294967281) (hw:zav w wp (ws.map Value.string)) :
    FnP Tryz.prog zbf #[.slice (pCut wp wc (k:Int) 1) ((ws.length:Int)-(k:Int)).toNat (wc-((k:Int)).toNat),.string (one 32)] w fun v w'=>Ext w w'/\v=.string (zoe ws k)/\(zoe ws k).size<=42949672820:=by
  have hb:(Lib.join ((ws.drop k).map (·.data.toList)) [32]).length<=42949672820:=by
    have:=zhM (c:=32) (m:=4294967281) ((ws.drop k).map (·.data.toList)) (fun y hy=>by
      obtain ⟨x,hx,rfl⟩:=List.mem_map.1 hy
      have:=hsz x (List.mem_of_mem_drop hx)
      rw [zhC]; exact this)
    rw [List.length_map,List.length_drop] at this
    omega
  have e:((ws.length:Int)-(k:Int)).toNat=(ws.drop k).length:=by rw [List.length_drop]; omega
  rw [e]
  exact (zBV (ws.drop k) 32 _ _ (by rw [List.length_drop]; simp; omega) w (zCD k hk hc hw) (by omega) (by rw [List.length_drop]; omega)).mono fun v w' ⟨h1,h2⟩=>⟨h1,h2,by unfold zoe; rw [zat]; exact hb⟩
def zHl (t:ByteArray) (e:Int) (j:Jb):Prop:=(3000<t.size->e=2)/\(t.size<=3000->e=0\/e=3)/\(e=0->JT t j)/\(∀ j0,JT t j0->t.size<=3000->e=0/\j=j0)
def zjm (t:ByteArray) (σ:DS) (c:Int) (s:ByteArray) (σ':DS):Prop:=match σ with
  |.shut _ => False
  |.opn F => ∃ e j,zHl t e j/\((e≠0/\c=e/\σ'=.opn F)\/(e=0/\zI7 F j c/\((c≠0/\σ'=.opn F)\/(c=0/\s=ofL (Lib.itoa (F.jobs.length+1))/\σ'=.opn (zoL F j)))))
section
variable {O:Nat->Prop} {B db:Nat} {w:World} {K:Kt}
theorem zHL (x:KX O B w db K) {fb:Nat} {P:Pl} {F:Fm} (hK:K.farm=some (fb,P,F)) (g:GD w) (hB:11<=B) (hBw:B<=w.heap.size) (wp:Option Addr) (wc:Nat) (ws:List ByteArray) (h1:1<ws.length) (hc:ws.length<=wc) (h10:ws.length<=10)
    (hsz:∀ x∈ws,x.size<=4294967281) (hw:zav w wp (ws.map Value.string)) :
    FnP Tryz.prog zf4 #[.pointer (ptr db),.slice wp ws.length wc] w (CR O B db w K fun s c σ'=>zjm (zoe ws 1) K.st c s σ'):=by
  have ne:=zaL db
  refine zkL (ptr db) wp ws.length wc w _ ⟨by omega,by omega,by omega,fun w0 x0=>(zIL 1 h1 hc h10 hsz (hw.ext x0)).mono fun v w1 ⟨e1,hv,hs⟩=>⟨e1,_,hv,fun w3 x3=>?_⟩⟩
  generalize zoe ws 1=t at hs ⊢
  refine (zGS t (by omega) w3 (g.gb.ext x3)).mono fun v w4 ⟨e4,j,pa,ca,pf,cf,e,hv,hW,hJ,hor,hb2,hb3,hcomp⟩=>⟨e4,j.user,j.prio,j.nd.c,j.nd.m,j.nd.g,j.ask.k,j.ask.key,j.ask.val,j.ask.n,pa,j.ask.xs.length,ca,pf,j.aft.length,cf,e,hv,fun b21 hb21=>?_⟩
  have x4:=x3.trans e4
  have hread:zHl t e j:=⟨hb2,hb3,fun h=>by
    rcases hor with ⟨h',_⟩|⟨_,q1,q2,q3,q4⟩
    · exact absurd h h'
    · exact ⟨q1,by omega,q3,q4⟩,hcomp⟩
  refine ⟨fun hne w22 x22=>zvd ⟨Ext.refl _,_,rfl,rfl,fun w25 x25=>zBb ⟨Ext.refl _,_,rfl,fun w28 h28=>?_⟩⟩,fun hz=>⟨ne,ne,_,(x.ext x4).fbp hK,fun w23 x23=>?_⟩⟩
  · refine zcC x (((x4.trans (zaa x22)).trans (zaa x25)).trans h28) (zAW hne) ?_
    rw [Kt.st_opn hK]
    exact ⟨e,j,hread,.inl ⟨hne,rfl,rfl⟩⟩
  have h23:=x4.trans (zaa x23)
  have y:=x.ext h23
  obtain ⟨fx,I,W⟩:=y.opn fb P F hK
  have hb21':=x23.lt b21 (by simp)
  have hft:∀ b,KF db K b->b≠b21:=fun b hb he=>by
    have:=((x.ext x4).foot hb).2
    omega
  refine (zEL fx j pa ca pf cf (hJ (fun _=>False) (fun _ h=>h.elim) w23 (zad (zaa x23))) hW (Nat.le_trans hBw h23.size)).mono fun v w24 ⟨id,e',hv,⟨hiff,hE⟩,hres⟩=>⟨?_,id,e',hv,fun w27 h27=>?_⟩
  · rcases hres with ⟨_,h,_⟩|⟨_,_,P',_,f,_⟩
    · exact (zad (S:=fun _=>False) h).kept fun b hb=>by simp at hb; subst hb; exact ⟨hb21',fun h=>h⟩
    · exact f.kept fun b hb=>by
        simp at hb; subst hb
        exact ⟨hb21',fun h=>hft _ (.inr ⟨fb,P,F,hK,h⟩) rfl⟩
  have hR:∃ K',KX O B w24 db K'/\Fr (KF db K) w23 w24/\zu0 w23 db K K'/\(InR .i64 id)/\∀ s:ByteArray,s=ofL (Lib.itoa id)->zjm t K.st e' s K'.st:=by
    rcases hres with ⟨hne,h,rfl⟩|⟨he0,hid,P',fx',f,hg⟩
    · refine ⟨K,y.ext h,zad h,fun b hb=>.inl hb,i64 (by omega),fun s _=>?_⟩
      rw [Kt.st_opn hK]
      exact ⟨e,j,hread,.inr ⟨hz,hE,.inl ⟨hne,rfl⟩⟩⟩
    · have hok:=hiff.1 he0
      obtain ⟨a1,a2,a3⟩:=y.turn hK fx' f hg (ztJ I hok) (W.sub j)
      refine ⟨_,a1,a2,a3,?_,fun s hs=>?_⟩
      · have:=fx.jO.1; exact i64 (by omega)
      · rw [Kt.st_opn hK]
        exact ⟨e,j,hread,.inr ⟨hz,hE,.inr ⟨he0,by rw [hs,hid],rfl⟩⟩⟩
  obtain ⟨K',y',f',g',hid,hRR⟩:=hR
  have gd24:GD w24:=(g.ext h23).fr f' fun b hb=>Nat.le_trans hB (y.foot hb).1
  refine (znF id (zhK hid) w27 (gd24.ext h27).gb).mono fun v w28 ⟨e28,hv⟩=>⟨e28,_,hv,fun w30 x30=>(zqw e' w30).mono fun v w31 ⟨e31,hE'⟩=>⟨e31,v,rfl,fun w33 h33=>?_⟩⟩
  have hx:=((zaa x30).trans e31).trans h33
  refine ⟨_,v,e',K',rfl,hE',y'.ext hx,((zad h23).tr f').tr (zad hx),fun b hb=>(g' b hb).imp (fun h=>h) fun h=>Nat.le_trans h23.size h,hRR _ rfl⟩
end
instance decMem (x:ByteArray) (l:List ByteArray):Decidable (x∈l):=decidable_of_iff (l.any (fun y=>decide (y=x))=true) (by simp)
def lbE (seen:List ByteArray):List Lb->Int
  |[] => 0
  |x::r => if lbB x.key=true/\lbB x.val=true then (if x.key∈seen then 6 else lbE (seen++[x.key]) r) else 3
def hE (seen:List ByteArray) (h:Ht):Int :=
  if lbB h.name=false then 3 else if h.name∈seen then 6 else if 8<h.labels.length then 2 else if lbE [] h.labels≠0 then lbE [] h.labels
  else if zzt h.has≠0 then 4 else if zzt h.used≠0 then 4 else if zj9 h.used h.has then 0 else 10
def hsE (seen:List ByteArray):List Ht->Int
  |[] => 0
  |h::r => if hE seen h≠0 then hE seen h else hsE (seen++[h.name]) r
def zlo (L:List Ht):Int:=if 30<L.length then 2 else hsE [] L
theorem zIv:∀ (l:List Lb) (seen:List ByteArray),lbE seen l=0↔(∀ x∈l,lbB x.key=true/\lbB x.val=true)/\(l.map (·.key)).Nodup/\∀ x∈l,x.key∉seen
  |[],seen => by simp [lbE]
  |x::r,seen => by
    rw [lbE]
    have ih:=zIv r (seen++[x.key])
    by_cases h1:lbB x.key=true/\lbB x.val=true
    · rw [if_pos h1]
      by_cases h2:x.key∈seen
      · rw [if_pos h2]
        exact ⟨fun h=>by omega,fun h=>absurd h2 (h.2.2 x List.mem_cons_self)⟩
      · rw [if_neg h2,ih,List.map_cons,List.nodup_cons]
        constructor
        · rintro ⟨a,b,c⟩
          refine ⟨fun y hy=>?_,⟨fun hm=>?_,b⟩,fun y hy=>?_⟩
          · rcases List.mem_cons.1 hy with rfl|hy
            · exact h1
            · exact a y hy
          · obtain ⟨y,hy,he⟩:=List.mem_map.1 hm
            exact c y hy (by rw [he]; simp)
          · rcases List.mem_cons.1 hy with rfl|hy
            · exact h2
            · exact fun hs=>c y hy (List.mem_append_left _ hs)
        · rintro ⟨a,⟨b1,b2⟩,c⟩
          refine ⟨fun y hy=>a y (List.mem_cons_of_mem _ hy),b2,fun y hy hs=>?_⟩
          rcases List.mem_append.1 hs with hs|hs
          · exact c y (List.mem_cons_of_mem _ hy) hs
          · simp at hs
            exact b1 (List.mem_map.2 ⟨y,hy,hs⟩)
    · rw [if_neg h1]
      exact ⟨fun h=>by omega,fun h=>absurd (h.1 x List.mem_cons_self) h1⟩
theorem hE_ok {seen:List ByteArray} {h:Ht}:hE seen h=0↔zHc h/\h.name∉seen:=by
  have hl:=zIv h.labels []
  unfold hE zHc okLb
  by_cases h1:lbB h.name=false
  · rw [if_pos h1]; simp [h1]
  have h1':lbB h.name=true:=by simpa using h1
  rw [if_neg h1]
  by_cases h2:h.name∈seen
  · rw [if_pos h2]; simp [h2]
  rw [if_neg h2]
  by_cases h3:8<h.labels.length
  · rw [if_pos h3]; exact ⟨fun h=>by omega,fun h=>by have:=h.1.2.1; omega⟩
  rw [if_neg h3]
  by_cases h4:lbE [] h.labels=0
  · rw [if_neg (by simpa using h4)]
    obtain ⟨a,b,_⟩:=hl.1 h4
    by_cases h5:zzt h.has=0
    · rw [if_neg (by simpa using h5)]
      by_cases h6:zzt h.used=0
      · rw [if_neg (by simpa using h6)]
        by_cases h7:zj9 h.used h.has
        · rw [if_pos h7]
          exact ⟨fun _=>⟨⟨h1',by omega,⟨a,b⟩,zbc.1 h5,zbc.1 h6,h7⟩,h2⟩,fun _=>rfl⟩
        · rw [if_neg h7]
          exact ⟨fun h=>by omega,fun h=>absurd h.1.2.2.2.2.2 h7⟩
      · rw [if_pos h6]
        exact ⟨fun h=>by omega,fun h=>absurd (zbc.2 h.1.2.2.2.2.1) h6⟩
    · rw [if_pos h5]
      exact ⟨fun h=>by omega,fun h=>absurd (zbc.2 h.1.2.2.2.1) h5⟩
  · rw [if_pos (by simpa using h4)]
    exact ⟨fun h=>absurd h h4,fun h=>absurd (hl.2 ⟨h.1.2.2.1.1,h.1.2.2.1.2,by simp⟩) h4⟩
theorem zIr:∀ (L:List Ht) (seen:List ByteArray),hsE seen L=0↔(∀ h∈L,zHc h)/\(L.map (·.name)).Nodup/\∀ h∈L,h.name∉seen
  |[],seen => by simp [hsE]
  |x::r,seen => by
    rw [hsE]
    have ih:=zIr r (seen++[x.name])
    have hx:=hE_ok (seen:=seen) (h:=x)
    by_cases h1:hE seen x=0
    · rw [if_neg (by simpa using h1),ih,List.map_cons,List.nodup_cons]
      obtain ⟨q1,q2⟩:=hx.1 h1
      constructor
      · rintro ⟨a,b,c⟩
        refine ⟨fun y hy=>?_,⟨fun hm=>?_,b⟩,fun y hy=>?_⟩
        · rcases List.mem_cons.1 hy with rfl|hy
          · exact q1
          · exact a y hy
        · obtain ⟨y,hy,he⟩:=List.mem_map.1 hm
          exact c y hy (by rw [he]; simp)
        · rcases List.mem_cons.1 hy with rfl|hy
          · exact q2
          · exact fun hs=>c y hy (List.mem_append_left _ hs)
      · rintro ⟨a,⟨b1,b2⟩,c⟩
        refine ⟨fun y hy=>a y (List.mem_cons_of_mem _ hy),b2,fun y hy hs=>?_⟩
        rcases List.mem_append.1 hs with hs|hs
        · exact c y (List.mem_cons_of_mem _ hy) hs
        · simp at hs
          exact b1 (List.mem_map.2 ⟨y,hy,hs⟩)
    · rw [if_pos (by simpa using h1)]
      exact ⟨fun h=>absurd h h1,fun h=>absurd (hx.2 ⟨h.1 x List.mem_cons_self,h.2.2 x List.mem_cons_self⟩) h1⟩
theorem zzr {L:List Ht}:zlo L=0↔zkJ L:=by
  unfold zlo zkJ
  by_cases h:30<L.length
  · rw [if_pos h]; exact ⟨fun h=>by omega,fun h=>by have:=h.1; omega⟩
  · rw [if_neg h,zIr]
    exact ⟨fun ⟨a,b,_⟩=>⟨by omega,a,b⟩,fun ⟨_,a,b⟩=>⟨a,b,by simp⟩⟩
theorem zpe {α:Type} {L:List α} (d:α) {k:Nat} (h:k<L.length):L.drop k=L.getD k d::L.drop (k+1):=by
  rw [List.drop_eq_getElem_cons h]
  simp [List.getD_eq_getElem?_getD,h]
theorem zuO (p:Option Addr) (c:Nat) (L:List Ht) (h63:(L.length:Int)<=9223372036854775807) (hO:∀ h∈L,zwC h) (w:World) (hL:zjT w p L) :
    FnP Tryz.prog zcd #[.slice p L.length c] w fun v w'=>Ext w w'/\v=.int .i64 (zlo L):=by
  refine zlR p L.length c w _ ⟨fun hgt w0 h0=>⟨h0,by unfold zlo; rw [if_pos (by omega)]⟩,fun hle w0 h0=>?_⟩
  have hEH:zlo L=hsE [] L:=by unfold zlo; rw [if_neg (by omega)]
  rw [hEH]
  refine zAf fun w1 S1 e1=>⟨e1,_,rfl,?_⟩
  generalize hr1:w0.heap.size=r1 at S1
  have x1:=h0.trans e1
  have hw1:w.heap.size<=r1:=by have:=h0.size; omega
  refine ⟨fun k w'=>Ext w w'/\0<=k/\k<=L.length/\ziA w' r1 ((L.take k.toNat).map (·.name))/\hsE [] L=hsE ((L.take k.toNat).map (·.name)) (L.drop k.toNat),fun k _=>(L.length-k).toNat,⟨x1,by omega,by omega,S1,rfl⟩,?_⟩
  rintro k w5 ⟨x5,hk0,hk1,S5,hE5⟩
  have fin:∀ {e:Int} {w':World},Ext w w'->hsE [] L=e->Ext w w'/\Value.int .i64 e=.int .i64 (hsE [] L):=fun hx h1=>⟨hx,by rw [h1]⟩
  refine ⟨fun hlt=>?_,fun hge w6 h6=>fin (x5.trans h6) ?_⟩
  rotate_left
  · rw [hE5,List.drop_eq_nil_of_le (by omega)]; rfl
  obtain ⟨q,d,hp,hp8,g',hLb⟩:=hL.at hk0 hlt
  have hm:=zap L default (i:=k.toNat) (by omega)
  have hOk:=hO _ hm
  rw [zpe default (by omega:k.toNat<L.length),hsE] at hE5
  generalize hHd:L.getD k.toNat default=H at g' hLb hm hOk hE5
  generalize hseen:(L.take k.toNat).map (·.name)=seen at S5 hE5
  have bad:∀ {e:Int},e≠0->hE seen H=e->hsE [] L=e:=fun hne he=>by rw [hE5,he,if_pos hne]
  have g:∀ (j:Nat) u,(zFq H q d)[j]?=some u->Go.Sx.cell w5 (pIdx p k 8) j=some u:=fun j u hu=>zaD x5 (g' j u hu)
  obtain ⟨ho1,ho2,ho3⟩:=hOk
  refine ⟨hp,hk0,hlt,hp8,_,g 0 _ rfl,_,_,_,g 1 _ rfl,_,g 2 _ rfl,_,g 3 _ rfl,_,g 4 _ rfl,_,g 5 _ rfl,_,g 6 _ rfl,_,g 7 _ rfl,fun b16 hb16=>?_⟩
  refine ⟨fun w'=>w'=w5/\lbB H.name=true/\H.name∉seen/\H.labels.length<=8,fun w19 h19=>?_,?_⟩
  · refine (zgs H.name ho1 w19).mono fun v w20 ⟨e20,hv⟩=>⟨e20,_,hv,fun hf w22 h22=>fin (x5.trans h22) (bad (by decide) ?_),fun hn w22 h22=>?_⟩
    · unfold hE; rw [if_pos hf]
    have hn':¬ lbB H.name=false:=by rw [hn]; decide
    refine zoK (S5.ext h22) H.name fun b hb=>⟨Ext.refl _,b,rfl,fun hin w25 h25=>fin (x5.trans h25) (bad (by decide) ?_),fun hnin=>?_⟩
    · unfold hE; rw [if_neg hn',if_pos (hb.1 hin)]
    have hns:H.name∉seen:=fun hm=>by rw [hb.2 hm] at hnin; cases hnin
    refine ⟨fun h8 w25 h25=>fin (x5.trans h25) (bad (by decide) ?_),fun h8=>⟨rfl,hn,hns,by omega⟩⟩
    unfold hE; rw [if_neg hn',if_neg hns,if_pos (by omega)]
  rintro w5 ⟨rfl,hn,hnin,h8⟩ w19 x19
  have hn':¬ lbB H.name=false:=by rw [hn]; decide
  have h19:=zaa x19
  have hb19:b16<w19.heap.size:=x19.lt b16 (by simp)
  have hr5:=S5.lt
  refine ztG (S5.ext h19) H.name fun w20 S20 g20=>⟨fun b hb=>?_,fun w21 x21=>?_⟩
  · simp at hb; subst hb
    refine g20.by_.block b hb19 fun he=>?_
    simp [blk] at he; omega
  have x20:Ext w w20:=g20.below (x5.trans h19) (x5.trans h19).size (fun a ha=>by obtain rfl:=Option.some.inj ha; exact hw1)
  have h21:=zaa x21
  refine zAf fun w22 S22 e22=>⟨e22,_,rfl,?_⟩
  have hr21:r1<w21.heap.size:=by have:=S20.lt; have:=h21.size; omega
  generalize hr2:w21.heap.size=r2 at S22 hr21
  have x22:=(x20.trans h21).trans e22
  have hb16r:b16<r2:=by have:=g20.size; have:=h21.size; omega
  refine ⟨fun j w'=>Ext w w'/\0<=j/\j<=H.labels.length/\ziA w' r1 (seen++[H.name])/\ziA w' r2 ((H.labels.take j.toNat).map (·.key))/\lbE [] H.labels=lbE ((H.labels.take j.toNat).map (·.key)) (H.labels.drop j.toNat),fun j _=>(H.labels.length-j).toNat,⟨x22,by omega,by omega,(S20.ext h21).ext e22,S22,rfl⟩,?_⟩
  rintro j w26 ⟨x26,hj0,hj1,Sa,Sb,hlE⟩
  have badL:∀ {e:Int},e≠0->lbE [] H.labels=e->hsE [] L=e:=fun hne he=>bad hne (by unfold hE; rw [if_neg hn',if_neg hnin,if_neg (by omega),if_pos (by rw [he]; exact hne),he])
  refine ⟨fun hjl=>?_,fun hjg w27 h27=>?_⟩
  · have hLb6:=hLb.ext x26
    have l0:=hLb6.idx default hj0 hjl (j:=0) rfl
    have l1:=hLb6.idx default hj0 hjl (j:=1) rfl
    have hlm:=zap H.labels default (i:=j.toNat) (by omega)
    have hls:=ho3 _ hlm
    rw [zpe default (by omega:j.toNat<H.labels.length),lbE] at hlE
    generalize hld:H.labels.getD j.toNat default=lb at l0 l1 hlm hls hlE
    generalize hkeys:(H.labels.take j.toNat).map (·.key)=keys at Sb hlE
    refine ⟨fun hq=>zai l0 (zah.2 hq),hj0,hjl,zai l0,_,l0,_,l1,fun b29 hb29=>?_⟩
    refine ⟨fun w'=>w'=w26/\lbE [] H.labels=lbE (keys++[lb.key]) (H.labels.drop (j.toNat+1)),fun w32 h32=>?_,?_⟩
    · refine (zgs lb.key hls.1 w32).mono fun v w33 ⟨e33,hv⟩=>⟨e33,_,hv,fun hf w35 h35=>fin (x26.trans h35) (badL (by decide) (by rw [hlE,if_neg (by rw [hf]; simp)])),fun hkt w35 h35=>?_⟩
      refine (zgs lb.val hls.2 w35).mono fun v w36 ⟨e36,hv⟩=>⟨e36,_,hv,fun hf w38 h38=>fin (x26.trans h38) (badL (by decide) (by rw [hlE,if_neg (by rw [hf]; simp)])),fun hvt w38 h38=>?_⟩
      rw [if_pos ⟨hkt,hvt⟩] at hlE
      refine zoK (Sb.ext h38) lb.key fun b hb=>⟨Ext.refl _,b,rfl,fun hin w41 h41=>fin (x26.trans h41) (badL (by decide) (by rw [hlE,if_pos (hb.1 hin)])),fun hnin=>⟨rfl,?_⟩⟩
      rw [hlE,if_neg (fun hm=>by rw [hb.2 hm] at hnin; cases hnin)]
    rintro w26 ⟨rfl,hlE'⟩ w32 x32
    have h32:=zaa x32
    refine ztG (Sb.ext h32) lb.key fun w33 S33 g33=>⟨fun b hb=>?_,i64 (by omega),⟨?_,by omega,by omega,?_,?_,?_⟩,by simp only []; omega⟩
    · have hlt':=x32.lt b hb
      refine g33.by_.block b hlt' fun he=>?_
      simp [blk] at he
      simp at hb
      have:=Sb.lt
      rcases hb with rfl|rfl<;>omega
    · exact g33.below (x26.trans h32) (x26.trans h32).size (fun a ha=>by obtain rfl:=Option.some.inj ha; show w.heap.size<=r2; omega)
    · exact (Sa.ext h32).grew (by omega) g33
    · rw [show (j+1).toNat=j.toNat+1 by omega,zc1 (fun x:Lb=>x.key) default (by omega),hld,hkeys]; exact S33
    · rw [show (j+1).toNat=j.toNat+1 by omega,zc1 (fun x:Lb=>x.key) default (by omega),hld,hkeys]; exact hlE'
  · have hl0:lbE [] H.labels=0:=by rw [hlE,List.drop_eq_nil_of_le (by omega)]; rfl
    have hEe:hE seen H=if zzt H.has≠0 then 4 else if zzt H.used≠0 then 4 else if zj9 H.used H.has then 0 else 10:=by
      unfold hE; rw [if_neg hn',if_neg hnin,if_neg (by omega),if_neg (by rw [hl0]; simp)]
    refine (zxF H.used H.has w27).mono fun v w28 ⟨e28,t,e,hv,ht⟩=>⟨e28,_,_,hv,fun w31 h31=>?_⟩
    refine (zeA H.has w31).mono fun v w32 ⟨e32,hv⟩=>⟨e32,_,hv,?_⟩
    refine ⟨fun w'=>w'=w26/\hE seen H=0,⟨fun hne w36 h36=>?_,fun he0=>⟨fun hne w36 h36=>?_,fun he=>⟨fun hf w36 h36=>?_,fun htt=>?_⟩⟩⟩,?_⟩
    · have hno:¬ okN H.has:=fun h=>hne (zbc.2 h)
      rw [zmA hno]
      exact fin (x26.trans h36) (bad (by decide) (by rw [hEe,if_pos hne]))
    · rcases ht with ⟨_,_,rfl,_⟩|⟨hno,rfl,_⟩
      · exact absurd rfl hne
      · have hu:¬ okN H.used:=fun h=>hno ⟨h,zbc.1 he0⟩
        exact fin (x26.trans h36) (bad (by decide) (by rw [hEe,if_neg (by simpa using he0),if_pos (by rw [zmA hu]; decide)]))
    · rcases ht with ⟨a1,a2,_,rfl⟩|⟨_,rfl,_⟩
      · refine fin (x26.trans h36) (bad (by decide) ?_)
        rw [hEe,if_neg (by simpa using he0),if_neg (by have:=zbc.2 a1; simpa using this),if_neg (by simpa using hf)]
      · omega
    · rcases ht with ⟨a1,a2,_,rfl⟩|⟨_,rfl,_⟩
      · refine ⟨rfl,?_⟩
        rw [hEe,if_neg (by simpa using he0),if_neg (by have:=zbc.2 a1; simpa using this),if_pos (by simpa using htt)]
      · omega
    · rintro w26 ⟨rfl,hz⟩
      rw [hz,if_neg (by simp)] at hE5
      refine ⟨i64 (by omega),⟨x26,by omega,by omega,?_,?_⟩,by simp only []; omega⟩
      · rw [show (k+1).toNat=k.toNat+1 by omega,zc1 (fun x:Ht=>x.name) default (by omega),hHd,hseen]; exact Sa
      · rw [show (k+1).toNat=k.toNat+1 by omega,zc1 (fun x:Ht=>x.name) default (by omega),hHd,hseen]; exact hE5
def zya (x:Nd):Prop:=∀ i,i<3->0<=zce x i/\zce x i<=9223372036854775807
theorem zya.rng {x:Nd} (h:zya x):rng x:=fun i hi=>by have:=h i hi; omega
theorem okN.pos {x:Nd} (h:okN x):zya x:=fun i hi=>by have:=zpK.1 h i hi; omega
theorem zEa {x:Nd} (hx:zya x) {i:Nat} (hi:i<3):(44:UInt8)∉zgF x i:=fun hm=>by
  have h0:=(hx i hi).1
  unfold zgF at hm
  rcases List.mem_append.1 hm with h|h
  · exact (zHh hi).2 h
  · rcases List.mem_cons.1 h with h|h
    · exact absurd h (by decide)
    · exact zi6 h0 (by decide) h
theorem zys {x:Nd} (hx:zya x) (hne:zbq x≠[45]):Lib.countB (ofL (zbq x)) (one 44)+1=(idx x 3).length/\Lib.splitB (one 44) 0 (Lib.countB (ofL (zbq x)) (one 44)) (ofL (zbq x))=(pcs x 3).map ofL:=by
  have hp:pcs x 3≠[]:=fun h=>hne (by unfold zbq; rw [if_pos h])
  have ht:zbq x=Lib.join (pcs x 3) [44]:=by unfold zbq; rw [if_neg hp]
  rw [ht]
  cases hl:pcs x 3 with
  |nil => exact absurd hl hp
  |cons a l =>
    obtain ⟨h1,h2⟩:=zdA (c:=44) l a fun y hy=>by
      rw [<- hl] at hy
      obtain ⟨i,hi,rfl⟩:=List.mem_map.1 hy
      exact zEa hx (zpu hi).1
    have hlen:(idx x 3).length=l.length+1:=by
      have:=congrArg List.length hl
      unfold pcs at this
      rw [List.length_map] at this
      simpa using this
    rw [h1,h2]
    exact ⟨by omega,rfl⟩
def zBl (s:ByteArray) (a:Nd) (e:Int):Prop:=(e≠0->a=za7)/\(e=0->okN a/\s=ofL (zbq a))/\(∀ x,zya x->s=ofL (zbq x)->(okN x->e=0/\a=x)/\(¬ okN x->e=4))/\(e≠0->e≠4->e=3)/\(e=4->∃ x,zya x/\s=ofL (zbq x)/\¬ okN x)
abbrev RQE (w:World) (s:ByteArray) (v:Value) (w':World):Prop:=Ext w w'/\∃ (a:Nd) (e:Int),v=.tuple #[nv a,.int .i64 e]/\zBl s a e
theorem zIN {w w':World} {s:ByteArray} (x:Ext w w') (hno:∀ x,zya x->s=ofL (zbq x)->False):RQE w s (.tuple #[nv za7,.int .i64 3]) w' :=
  ⟨x,za7,3,rfl,fun _=>rfl,fun h=>(by cases h),fun x hx hs=>(hno x hx hs).elim,fun _ _=>rfl,fun h=>(by cases h)⟩
theorem zvX {w w10:World} {s:ByteArray} {p2:Option Addr} {b0:Nat} {cur:Nd} (x10:Ext w w10) (hb0:w.heap.size<=b0) (c10:zBY w10 p2 cur) (hp:p2≠none) (hr:zya cur) (g:GB w)
    (hgood:∀ x,zya x->s=ofL (zbq x)->cur=x):rtail s p2 b0 w10 (RQE w s):=by
  have k0:=c10 0 _ rfl
  have k1:=c10 1 _ rfl
  have k2:=c10 2 _ rfl
  have bx:∀ {w':World},zag [b0] [] w10 w'->Ext w w':=fun h=>zaw h x10 (by intro d hd; simp at hd; omega)
  refine ⟨hp,_,k0,_,k1,_,k2,fun w14 h14=>(zxJ cur hr.rng w14 (g.ext (x10.trans h14))).mono fun v w15 ⟨e15,hv⟩=>⟨e15,_,hv,fun hne w17 x17=>zIN (bx x17) fun x hx hs=>?_,fun heq=>⟨hp,_,k0,_,k1,_,k2,fun w20 h20=>(zeA cur w20).mono fun v w21 ⟨e21,hv⟩=>⟨e21,_,hv,fun hne w23 x23=>?_,fun hz=>⟨hp,_,k0,_,k1,_,k2,fun w26 x26=>⟨bx x26,cur,0,rfl,fun h=>absurd rfl h,fun _=>⟨zbc.1 hz,heq.symm⟩,fun x hx hs=>?_,fun h=>absurd rfl h,fun h=>(by cases h)⟩⟩⟩⟩⟩⟩
  · exact hne (by rw [hgood x hx hs]; exact hs.symm)
  · have hno:¬ okN cur:=fun h=>hne (zbc.2 h)
    rw [zmA hno]
    refine ⟨bx x23,za7,4,rfl,fun _=>rfl,fun h=>(by cases h),fun x hx hs=>⟨fun h=>absurd (by rw [hgood x hx hs]; exact h) hno,fun _=>rfl⟩,fun _ h=>absurd rfl h,fun _=>⟨cur,hr,heq.symm,hno⟩⟩
  · have hcx:=hgood x hx hs
    exact ⟨fun _=>⟨rfl,hcx⟩,fun h=>absurd (by rw [<- hcx]; exact zbc.1 hz) h⟩
theorem zG3 (s:ByteArray) (hs:s.size<4294967281) (w:World) (g:GB w):FnP Tryz.prog zfr #[.string s] w (RQE w s):=by
  refine znQ s w _ fun b0 hb0 w1 x1=>zbG (by simp [Value.oneCell']) fun w2 o2 e2=>?_
  have h1:=zaa x1
  have l0:=x1.lt b0 (by simp)
  have o2:=o2 w.heap.size h1.size
  have np:(some (⟨w1.heap.size,0,none⟩:Addr))≠none:=by simp
  have h2:=h1.trans e2
  have rz:zya za7:=fun i hi=>by
    match i,hi with
    |0,_ => simp [zce,za7]
    |1,_ => simp [zce,za7]
    |2,_ => simp [zce,za7]
  have hpb:∀ y,(some (⟨w1.heap.size,0,none⟩:Addr))=some y->y.block≠b0:=fun y hy=>by obtain rfl:=Option.some.inj hy; show w1.heap.size≠b0; omega
  have hpl:∀ y,(some (⟨w1.heap.size,0,none⟩:Addr))=some y->y.block<w2.heap.size:=fun y hy=>(o2.lt y hy).2
  generalize hpp:(some (⟨w1.heap.size,0,none⟩:Addr))=p at o2 np hpb hpl ⊢
  refine ⟨fun hne w3 x3=>?_,fun heq=>?_⟩
  rotate_left
  · refine zvX (cur:=za7) h2 hb0 o2.cells np rz g fun x hx hs=>?_
    have hl:zbq x=[45]:=zmO (hs.symm.trans heq)
    by_cases hp:pcs x 3=[]
    · refine zou ?_
      have:idx x 3=[]:=by simpa [pcs] using hp
      intro i hi
      rw [this]
      exact zjH i hi
    · exfalso
      unfold zbq at hl
      rw [if_neg hp] at hl
      cases hc:pcs x 3 with
      |nil => exact hp hc
      |cons a l =>
        rw [hc,Lib.join_cons] at hl
        have ha:a∈pcs x 3:=by rw [hc]; exact List.mem_cons_self ..
        obtain ⟨i,_,rfl⟩:=List.mem_map.1 ha
        have:=congrArg List.length hl
        unfold zgF at this
        have h3:(pn i).data.toList.length=3:=zzY i
        rw [List.length_append,List.length_append,h3] at this
        simp at this
        omega
  have h3:=h2.trans (zaa x3)
  have g3:=g.ext h3
  refine (zeX 44 s hs w3 g3).mono fun v w4 ⟨e4,hv,hc4,_⟩=>⟨e4,_,_,_,hv,?_⟩
  have spn:(some (⟨w3.heap.size,0,none⟩:Addr))≠none:=by simp
  have apsp:zbK (some (⟨w3.heap.size,0,none⟩:Addr)) p:=fun a b ha hb he=>by
    obtain rfl:=Option.some.inj ha
    have h5:=hpl b hb
    have h6:=(zaa x3).size
    have h7:w3.heap.size=b.block:=he
    omega
  generalize (some (⟨w3.heap.size,0,none⟩:Addr))=sp at hc4 spn apsp ⊢
  have slen:=zeL (c:=44) _ s rfl
  have ssz:∀ i q,(Lib.splitB (one 44) 0 (Lib.countB s (one 44)) s)[i]?=some q->q.size+i<=s.size:=fun i q h=>zcy _ s i q h
  have sgood:∀ x,zya x->s=ofL (zbq x)->Lib.countB s (one 44)+1=(idx x 3).length/\Lib.splitB (one 44) 0 (Lib.countB s (one 44)) s=(pcs x 3).map ofL:=fun x hx hsx=>by
    have:=zys hx fun h=>hne (by rw [hsx,h]; rfl)
    rwa [<- hsx] at this
  generalize Lib.splitB (one 44) 0 (Lib.countB s (one 44)) s=S at hc4 slen ssz sgood
  generalize Lib.countB s (one 44)=n at slen sgood ⊢
  refine ⟨fun k w'=>Ext w w'/\0<=k/\k<=(n+1:Nat)/\zav w' sp (S.map Value.string)/\∃ cur,Own w.heap.size w' zio 3 p 1 1 (zwI cur)/\zya cur/\∀ x,zya x->s=ofL (zbq x)->good x cur k.toNat,fun k _=>(n+1-k).toNat,
    ⟨h3.trans e4,by omega,by omega,hc4,za7,(o2.ext (zaa x3)).ext e4,rz,fun x _ _=>zjH⟩,?_⟩
  rintro k w10 ⟨x10,hk0,hk1,c10,cur,o10,hr,hgd⟩
  refine ⟨fun hlt=>?_,fun hge=>?_⟩
  rotate_left
  · refine zvX (cur:=cur) x10 hb0 o10.cells np hr g fun x hx hsx=>zou ?_
    have:=hgd x hx hsx
    rwa [show k.toNat=(idx x 3).length by have:=(sgood x hx hsx).1; omega] at this
  obtain ⟨pc,hpc⟩:∃ pc,S[k.toNat]?=some pc:=⟨_,List.getElem?_eq_getElem (by omega)⟩
  have hcell:Go.Sx.cell w10 (pIdx sp k 1) 0=some (.string pc):=by
    rw [zae]
    exact c10 _ _ (by simp [hpc])
  have hpsz:=ssz _ _ hpc
  refine ⟨spn,hk0,hlt,_,hcell,fun w12 h12=>(zwN 61 pc (by omega) w12 ((g.ext x10).ext h12)).mono fun v w13 ⟨e13,hv⟩=>⟨e13,_,_,_,hv,fun w17 x17=>?_⟩⟩
  have hx17:=x10.trans (zaa x17)
  have hcsz:(Lib.cut pc.data.toList [61]).2.1.length<=pc.size:=by have:=zhF pc.data.toList 61; rwa [zhC] at this
  have hthis:∀ x,zya x->s=ofL (zbq x)->∃ i,(idx x 3)[k.toNat]?=some i/\i<3/\0<zce x i/\ofL (Lib.cut pc.data.toList [61]).1=pn i/\Lib.parseIntB 64 (ofL (Lib.cut pc.data.toList [61]).2.1).data.toList=.ok (zce x i):=fun x hx hsx=>by
    have hS:=(sgood x hx hsx).2
    rw [hS,List.getElem?_map] at hpc
    unfold pcs at hpc
    rw [List.getElem?_map,Option.map_map,Option.map_eq_some_iff] at hpc
    obtain ⟨i,hi,rfl⟩:=hpc
    have hm:=zpu (List.mem_of_getElem? hi)
    have hb:=hx i hm.1
    have hcut:Lib.cut (ofL (zgF x i)).data.toList [61]=((pn i).data.toList,Lib.itoa (zce x i),true):=zxa _ (zHh hm.1).1
    have hcut':Lib.cut ((ofL∘zgF x) i).data.toList [61]=((pn i).data.toList,Lib.itoa (zce x i),true):=hcut
    rw [hcut']
    exact ⟨i,hi,hm.1,by omega,zb9 _,zfH hb.1 hb.2⟩
  generalize (ofL (Lib.cut pc.data.toList [61]).1)=name at hthis ⊢
  have hnsz:(ofL (Lib.cut pc.data.toList [61]).2.1).size<=281474976710656:=by rw [zat]; omega
  generalize (ofL (Lib.cut pc.data.toList [61]).2.1)=num at hthis hnsz ⊢
  refine (zjB num hnsz w17 (g.ext hx17)).mono fun v w18 ⟨e18,vn,ev,hv,hcase⟩=>⟨e18,vn,ev,hv,fun w21 h21=>?_⟩
  have hx18:=hx17.trans e18
  refine zi9 (by kernel_rfl) (hcase.elim (fun h=>.inl h.1) fun h=>.inr h.1) fun t ht=>⟨Ext.refl _,t,rfl,fun hbad w24 x24=>zIN (zaw x24 hx18 (by intro d hd; simp at hd; omega)) fun x hx hsx=>?_,fun hok w24 x24=>?_⟩
  · exfalso
    obtain ⟨i,_,_,hpos,_,hpar⟩:=hthis x hx hsx
    rcases hcase with ⟨h1,h2⟩|⟨_,h2⟩
    · rw [hpar] at h2
      injection h2 with h2
      rcases hbad with h|h
      · rw [ht.2 h1] at h; cases h
      · omega
    · exact h2 _ hpar
  have hx24:=hx18.trans (zaa x24)
  obtain ⟨hev,hpar⟩:ev=.nilIface/\Lib.parseIntB 64 num.data.toList=.ok vn:=by
    rcases hcase with h|⟨⟨a,b,h⟩,_⟩
    · exact h
    · have:=ht.1 hok.1
      rw [h] at this; cases this
  have o24:Own w.heap.size w24 zio 3 p 1 1 (zwI cur):=(((o10.ext (zaa x17)).ext e18).ext (zaa x24))
  have c24:zav w24 sp (S.map Value.string):=(((c10.ext (zaa x17)).ext e18).ext (zaa x24))
  refine (ztw p np w24).mono fun v w25 ⟨e25,q,hv,hq,hqb⟩=>⟨e25,q,3,3,hv,?_⟩
  have apq:zbK q p:=fun a b ha hb he=>by
    have h5:=hqb a ha
    have h6:=(o24.lt b hb).2
    omega
  refine ⟨fun k30 w'=>Ext w w'/\0<=k30/\k30<=3/\zav w' sp (S.map Value.string)/\zav w' q (zvQ p)/\Own w.heap.size w' zio 3 p 1 1 (zwI (upN cur name vn k30.toNat)),fun k30 _=>(3-k30).toNat,
    ⟨hx24.trans e25,by omega,by omega,c24.ext e25,hq,by rw [show (0:Int).toNat=0 from rfl,zAu]; exact o24.ext e25⟩,?_⟩
  rintro k30 w31 ⟨x31,hj0,hj3,c31,q31,o31⟩
  refine ⟨fun hjlt=>?_,fun hjge=>?_⟩
  · obtain ⟨d1,d2⟩:=ztv q31 hj0 hjlt
    have hj:k30.toNat<3:=by omega
    refine ⟨fun hq=>zai d1 (zah.2 hq),hj0,hjlt,zai d1,_,d1,_,d2,fun b34 hb34=>⟨fun heq=>⟨fun h=>np (zdj.1 h),?_⟩,fun hne=>⟨i64 (by omega),⟨x31,by omega,by omega,c31,q31,?_⟩,by simp only []; omega⟩⟩⟩
    · refine zcr o31 (by simpa using hj) rfl (fun b hb y hy=>?_) fun w35 o35 g35=>⟨i64 (by omega),⟨g35.ext x31 o31,by omega,by omega,c31.grew apsp g35,q31.grew apq g35,?_⟩,by simp only []; omega⟩
      · simp only [List.mem_cons,List.mem_singleton,List.mem_nil_iff,or_false] at hb
        rcases hb with rfl|rfl
        · exact hpb y hy
        · have:=(o31.lt y hy).2; omega
      · rw [show (k30+1).toNat=k30.toNat+1 by omega,<- zE1 hj heq]
        exact o35
    · rw [show (k30+1).toNat=k30.toNat+1 by omega,zAt hj hne]
      exact o31
  · obtain rfl:k30=3:=by omega
    refine ⟨i64 (by omega),⟨x31,by omega,by omega,c31,upN cur name vn 3,o31,fun i hi=>?_,fun x hx hsx=>?_⟩,by simp only []; omega⟩
    · rw [zE0 hi]
      split
      · have:=zvN hpar hok.2
        omega
      · exact hr i hi
    · obtain ⟨i,hi,hi3,_,hname,hp2⟩:=hthis x hx hsx
      rw [hpar] at hp2
      injection hp2 with hp2
      rw [hp2,hname,show (k+1).toNat=k.toNat+1 by omega]
      exact zuN (hgd x hx hsx) hi
theorem zCK (s:List UInt8) (c:UInt8):(Lib.cut s [c]).1.length<=s.length:=by
  unfold Lib.cut
  split
  · simp only [List.length_take]; omega
  · exact Nat.le_refl _
def zFp (x:ByteArray):List UInt8×List UInt8×Bool:=Lib.cut x.data.toList [61]
def zLD (x:ByteArray):Lb:=⟨ofL (zFp x).1,ofL (zFp x).2.1⟩
def zar (c:UInt8) (s:ByteArray):List ByteArray:=Lib.splitB (one c) 0 (Lib.countB s (one c)) s
theorem zjM (c:UInt8) (s:ByteArray):(zar c s).length=Lib.countB s (one c)+1:=zeL _ s rfl
theorem zhY {c:UInt8} {s:ByteArray} {i:Nat} {q:ByteArray} (h:(zar c s)[i]?=some q):q.size+i<=s.size:=zcy _ s i q h
def zFs (s:ByteArray):Option (List Lb):=if s=⟨#[45]⟩ then some [] else if (zar 44 s).all (fun x=>(zFp x).2.2) then some ((zar 44 s).map zLD) else none
theorem zGY (s:ByteArray) (hs:s.size<4294967281) (w:World) (g:GB w):FnP Tryz.prog zhl #[.string s] w fun v w'=>Ext w w'/\∃ (p:Option Addr) (n c:Nat) (ev:Value),v=.tuple #[.slice p n c,ev] /\
    ((zFs s=none/\EV ev 3)\/(∃ l,zFs s=some l/\EV ev 0/\n=l.length/\Own w.heap.size w' zmp 2 p n c (l.flatMap zsJ)/\l.length<=4294967281/\∀ x∈l,x.key.size<=4294967281/\x.val.size<=4294967281)):=by
  refine zqY s w _ ⟨fun h w0 h0=>⟨h0,none,0,0,_,rfl,.inr ⟨[],by unfold zFs; rw [if_pos h],ev0,rfl,Own.nil,by simp,by simp⟩⟩,fun hne w0 h0=>?_⟩
  refine (zeX 44 s hs w0 (g.ext h0)).mono fun v w1 ⟨e1,hv,hc1,hlt1⟩=>⟨e1,_,_,_,hv,?_⟩
  have hlen:=zjM 44 s
  have hsz:=fun i q=>@zhY 44 s i q
  have hF:zFs s=if (zar 44 s).all (fun x=>(zFp x).2.2) then some ((zar 44 s).map zLD) else none:=by unfold zFs; rw [if_neg hne]
  rw [hF]
  change zav w1 _ ((zar 44 s).map Value.string) at hc1
  have hcnt:Lib.countB s (one 44)+1=(zar 44 s).length:=hlen.symm
  rw [hcnt]
  have spn:(some (⟨w0.heap.size,0,none⟩:Addr))≠none:=by simp
  generalize (some (⟨w0.heap.size,0,none⟩:Addr))=sp at hc1 spn ⊢
  have hlen2:(zar 44 s).length<=4294967281:=by
    obtain ⟨q,hq⟩:∃ q,(zar 44 s)[(zar 44 s).length-1]?=some q:=⟨_,List.getElem?_eq_getElem (by omega)⟩
    have:=hsz _ _ hq
    omega
  generalize zar 44 s=S at hc1 hsz hlen2 ⊢
  have x1:=h0.trans e1
  have cb:∀ x:ByteArray,(ofL (zFp x).1).size<=x.size/\(ofL (zFp x).2.1).size<=x.size:=fun x=>by
    have h1:=zhF x.data.toList 61
    have h2:=zCK x.data.toList 61
    rw [zhC] at h1 h2
    exact ⟨by rw [zat]; exact h2,by rw [zat]; exact h1⟩
  refine ⟨fun p n c k w'=>Ext w1 w'/\0<=k/\k<=S.length/\n=k/\Own w1.heap.size w' zmp 2 p n c (((S.take k.toNat).map zLD).flatMap zsJ)/\∀ x∈S.take k.toNat,(zFp x).2.2=true,fun _ _ _ k _=>(S.length-k).toNat,⟨Ext.refl _,by omega,by omega,by simp,Own.nil,by simp⟩,?_⟩
  rintro p n c k w8 ⟨x8,hk0,hk1,hnk,o8,hall⟩
  refine ⟨fun hlt=>?_,fun hge w9 h9=>?_⟩
  · obtain ⟨q,hq⟩:∃ q,S[k.toNat]?=some q:=⟨_,List.getElem?_eq_getElem (by omega)⟩
    have hqs:=hsz _ _ hq
    have hcell:Go.Sx.cell w8 (pIdx sp k 1) 0=some (.string q):=by
      rw [zae]
      refine (hc1.ext x8) _ _ ?_
      simp [hq]
    refine ⟨spn,hk0,hlt,_,hcell,fun w10 h10=>(zwN 61 q (by omega) w10 ((g.ext (x1.trans x8)).ext h10)).mono fun v w11 ⟨e11,hv⟩=>⟨e11,_,_,_,hv,fun hf w15 h15=>?_,fun ht=>?_⟩⟩
    · refine zvd ⟨Ext.refl _,_,rfl,rfl,fun w18 h18=>zBb ⟨Ext.refl _,_,rfl,fun w21 h21=>⟨(((x1.trans x8).trans h15).trans h18).trans h21,none,0,0,_,rfl,.inl ⟨?_,zAW (by decide)⟩⟩⟩⟩
      rw [if_neg]
      intro h
      have:=List.all_eq_true.1 h q (List.mem_of_getElem? hq)
      unfold zFp at this
      rw [hf] at this; cases this
    · refine push (v:=.agg #[.string (zLD q).key,.string (zLD q).val]) zlk (by omega) o8 x8.size rfl (by intro u hu; simp [Value.cells] at hu; rcases hu with rfl|rfl<;>rfl) (by omega) (by omega) (by omega) fun p' c' w' o' g' np=>⟨i64 (by omega),⟨g'.ext x8 o8,by omega,by omega,by omega,?_,?_⟩,by simp only []; omega⟩
      · rw [show (k+1).toNat=k.toNat+1 by omega,List.take_add_one,hq]
        simpa [Value.cells] using o'
      · rw [show (k+1).toNat=k.toNat+1 by omega,List.take_add_one,hq]
        intro x hx
        rcases List.mem_append.1 hx with hx|hx
        · exact hall x hx
        · simp at hx; subst hx; exact ht
  · have hk:k=S.length:=by omega
    subst hk
    have htake:S.take ((S.length:Int)).toNat=S:=by simp
    rw [htake] at o8 hall
    have hx9:=(x1.trans x8).trans h9
    refine ⟨hx9,p,n,c,_,rfl,.inr ⟨S.map zLD,?_,ev0,by simp; omega,(o8.ext h9).weak (by have:=x1.size; omega),by simpa using hlen2,fun x hx=>?_⟩⟩
    · rw [if_pos (List.all_eq_true.2 fun x hx=>hall x hx)]
    · obtain ⟨y,hy,rfl⟩:=List.mem_map.1 hx
      obtain ⟨i,hi⟩:=List.mem_iff_getElem?.1 hy
      have:=hsz i y hi
      have:=cb y
      show (ofL (zFp y).1).size<=_/\(ofL (zFp y).2.1).size<=_
      omega
theorem zy2 {B:Nat} {w:World} {p q:Option Addr} {n c d b7:Nat} {xs:List Value} {m:Hm} (o:Own B w zdR 8 p n c xs) (hB:B<=w.heap.size) (hl:zav w q (zjG m)) (hq:q≠none) (hb7:b7<w.heap.size) (hns:∀ x,p=some x->x.block≠b7) (hn:n<=1000)
    {J:Option Addr->Nat->Nat->World->Prop} (hk:∀ p' c' w',Own B w' zdR 8 p' (n+1) c' (xs++zjG m)->zco w w' p p'->J p' (n+1) c' w') :
    Run Tryz.prog (.append #[34,34] 34 [.slice p n c,.slice q 1 d]) w fun v w'=>zbQ [b7] w w'/\∃ q':Option Addr,∃ m':Nat,∃ d':Nat,v=.slice q' m' d'/\J q' m' d' w' :=
  zna zgc (by omega) o hB hq (news:=zjG m) (by simp) hl (zzl m) (by omega) (by omega) fun p' c' w4 h2 h3 h4=>⟨fun b hb=>by
    simp at hb; subst hb
    refine h3.by_.block b hb7 fun he=>?_
    cases p with
    |none => cases he
    |some y => simp [blk] at he; exact hns y rfl he.symm,_,_,_,rfl,hk p' c' w4 h2 h3⟩
def zoA (name:ByteArray) (l:List Lb) (nd:Nd):Ht:=⟨name,l,nd,za7⟩
def zxw (name w2 w3:ByteArray) (σ:DS) (c:Int) (s:ByteArray) (σ':DS):Prop:=∃ nd e,zBl w2 nd e/\((e≠0/\c=e/\σ'=σ)\/(e=0/\match zFs w3 with
  |none => c=3/\σ'=σ
  |some l => match σ with
    |.opn _ => c=9/\σ'=σ
    |.shut L => c=zlo (L++[zoA name l nd])/\((c≠0/\σ'=σ)\/(c=0/\s=⟨#[111,107]⟩/\σ'=.shut (L++[zoA name l nd])))))
section
variable {O:Nat->Prop} {B db:Nat} {w:World} {K:Kt}
theorem host_c (x:KX O B w db K) (g:GD w) (hBw:B<=w.heap.size) (wp:Option Addr) (wc:Nat) (ws:List ByteArray) (h4:ws.length=4)
    (hsz:∀ x∈ws,x.size<4294967281) (hw:zav w wp (ws.map Value.string)) :
    FnP Tryz.prog zeR #[.pointer (ptr db),.slice wp ws.length wc] w (CR O B db w K fun s c σ'=>zxw (ws.getD 1 ⟨#[]⟩) (ws.getD 2 ⟨#[]⟩) (ws.getD 3 ⟨#[]⟩) K.st c s σ'):=by
  have ne:=zaL db
  obtain ⟨s0,s1,s2,s3,rfl⟩:∃ a b c d,ws=[a,b,c,d]:=by
    match ws,h4 with
    |[a,b,c,d],_ => exact ⟨a,b,c,d,rfl⟩
  have cell_:∀ {w':World} (i:Nat) (q:ByteArray),Ext w w'->([s0,s1,s2,s3]:List ByteArray)[i]?=some q->Go.Sx.cell w' (pIdx wp (i:Int) 1) 0=some (.string q):=fun {w'} i q hx hq=>by
    rw [zae]
    have:=hw.ext hx i (.string q) (by rw [List.getElem?_map,hq]; rfl)
    simpa using this
  have np:wp≠none:=fun h=>zai (cell_ 1 s1 (Ext.refl w) rfl) (zah.2 h)
  have z1:=hsz s1 (by simp)
  have z2:=hsz s2 (by simp)
  have z3:=hsz s3 (by simp)
  show FnP Tryz.prog zeR #[.pointer (ptr db),.slice wp 4 wc] w (CR O B db w K fun s c σ'=>zxw s1 s2 s3 K.st c s σ')
  refine zmT (ptr db) wp 4 wc w _ ⟨np,by omega,by omega,_,cell_ 2 s2 (Ext.refl w) rfl,fun w1 x1=>(zG3 s2 z2 w1 (g.gb.ext x1)).mono fun v w2 ⟨e2,nd,e,hv,hrd⟩=>⟨e2,nd.c,nd.m,nd.g,e,hv,fun b7 hb7=>⟨fun hne w8 x8=>zvd ⟨Ext.refl _,_,rfl,rfl,fun w11 x11=>zBb ⟨Ext.refl _,_,rfl,fun w14 h14=>?_⟩⟩,fun hz=>⟨np,by omega,by omega,_,cell_ 3 s3 (Ext.refl w) rfl,fun w9 x9=>?_⟩⟩⟩⟩
  · exact zcC x (((zaa x8).trans (zaa x11)).trans h14) (zAW hne) ⟨nd,e,hrd,.inl ⟨hne,rfl,rfl⟩⟩
  have h9:=zaa x9
  have hb9:=x9.lt b7 (by simp)
  refine (zGY s3 z3 w9 (g.gb.ext h9)).mono fun v w10 ⟨e10,lp,ln,lc,ev,hv,hor⟩=>⟨e10,lp,ln,lc,ev,hv,fun w15 h15=>?_⟩
  have h10:=h9.trans e10
  rcases hor with ⟨hno,hE⟩|⟨l,hl,hE,rfl,oL,hll,hls⟩
  · refine neE hE fun b hb=>⟨Ext.refl _,b,rfl,fun hbt w18 h18=>?_,fun hbf=>absurd (hb.1 hbf) (by decide)⟩
    exact zcC x (h10.trans h18) hE ⟨nd,e,hrd,.inr ⟨hz,by rw [hno]; exact ⟨rfl,rfl⟩⟩⟩
  refine neE hE fun b hb=>⟨Ext.refl _,b,rfl,fun hbt=>absurd (hb.2 rfl) (by rw [hbt]; decide),fun _=>⟨ne,ne,?_⟩⟩
  have y10:=x.ext h10
  rcases K.cases with hK|⟨fb,P,F,hK⟩
  rotate_left
  · refine ⟨_,y10.fbp hK,fun _ w19 x19=>zvd ⟨Ext.refl _,_,rfl,fun w22 h22=>?_⟩,fun h=>absurd h (zaL fb)⟩
    refine zcC x ((h10.trans (zaa x19)).trans h22) (zGu (c:=9) (by decide)) ⟨nd,e,hrd,.inr ⟨hz,?_⟩⟩
    rw [hl,Kt.st_opn hK]
    exact ⟨rfl,rfl⟩
  obtain ⟨hn,⟨M,hM,hst⟩,hok,hO⟩:=x.shut hK
  have h30:=hok.1
  have hMl:M.length=K.L.length:=by rw [<- hM]; simp
  refine ⟨none,y10.nofp hK,fun h=>absurd rfl h,fun _=>?_⟩
  have hm:zjG ⟨zoA s1 l nd,lp,lc⟩=[.string s1,.slice lp l.length lc,.int .i64 nd.c,.int .i64 nd.m,.int .i64 nd.g,.int .i64 0,.int .i64 0,.int .i64 0]:=rfl
  generalize hmm:(⟨zoA s1 l nd,lp,lc⟩:Hm)=m at hm
  have hmv:(Value.agg #[.string s1,.slice lp l.length lc,.int .i64 nd.c,.int .i64 nd.m,.int .i64 nd.g,.int .i64 0,.int .i64 0,.int .i64 0]).cells.toList=zjG m:=by rw [hm]; rfl
  have lit:∀ {w26:World} {R:Value->World->Prop},(∀ q w27,q≠none->zav w27 q (zjG m)->Ext w26 w27->R (.slice q 1 1) w27)->Run Tryz.prog (.buildSlice 34 1 [(0,(.agg #[.string s1,.slice lp l.length lc,.int .i64 nd.c,.int .i64 nd.m,.int .i64 nd.g,.int .i64 0,.int .i64 0,.int .i64 0]))]) w26 R:=fun {w26 R} h =>
    zcE zgc [.agg #[.string s1,.slice lp l.length lc,.int .i64 nd.c,.int .i64 nd.m,.int .i64 nd.g,.int .i64 0,.int .i64 0,.int .i64 0]] rfl rfl (fun u hu=>by simp at hu; subst hu; rfl) (by omega) (by omega) fun w27 o27 e27=>h _ w27 (by simp) (by
      have:=(o27 w26.heap.size (Nat.le_refl _)).cells
      simp only [List.flatMap_cons,List.flatMap_nil,List.append_nil,hmv] at this
      exact this) e27
  have rec_:∀ {w':World},Ext w w'->zgt 8 zjG w' K.hp M:=fun e=>(hst _ (zad e)).1
  have clone:∀ {w26:World},Ext w w26->FnP Tryz.prog zak #[.slice K.hp K.hn K.hc] w26 fun v w'=>Ext w26 w'/\∃ q' c',v=.slice q' M.length c'/\Own w26.heap.size w' zdR 8 q' M.length c' (M.flatMap zjG):=fun e=>by
    rw [hn,<- hMl]
    exact zsp K.hp K.hc M (by omega) _ (rec_ e)
  have c10:Go.Sx.cell w10 (pAdd (ptr db) 0) 0=some (.slice K.hp K.hn K.hc):=y10.cell (i:=0) rfl
  refine ⟨fun all n c w21=>Ext w10 w21/\n=M.length+1/\Own w10.heap.size w21 zdR 8 all n c (M.flatMap zjG++zjG m),⟨ne,ne,_,_,_,c10,np,by omega,by omega,_,cell_ 1 s1 h10 rfl,fun w26 x26=>?_,fun w26 x26=>?_⟩,?_⟩
  · have h26:=zaa x26
    have hb26:=x26.lt b7 (by simp)
    refine (clone (h10.trans h26)).mono fun v w27 ⟨e27,q',c',hv,o27⟩=>⟨e27,q',M.length,c',hv,fun w31 x31=>lit fun q w32 hq hcq e32=>⟨e32,q,1,1,rfl,fun w36 x36=>?_⟩⟩
    have h36:=(((h26.trans e27).trans (zaa x31)).trans e32).trans (zaa x36)
    have o36:=(((o27.ext (zaa x31)).ext e32).ext (zaa x36)).weak h26.size
    refine zy2 o36 h36.size (hcq.ext (zaa x36)) hq (x36.lt b7 (by simp)) (fun a ha he=>?_) (by omega) fun p' c'' w' o' g'=>⟨g'.ext h36 o36,rfl,o'⟩
    have:=(o27.lt a ha).1
    omega
  · have h26:=zaa x26
    have hb26:=x26.lt b7 (by simp)
    refine lit fun q w27 hq hcq e27=>⟨e27,q,1,1,rfl,fun w31 x31=>?_⟩
    have h31:=(h26.trans e27).trans (zaa x31)
    refine (clone (h10.trans h31)).mono fun v w32 ⟨e32,q',c',hv,o32⟩=>⟨e32,q',M.length,c',hv,fun w36 x36=>?_⟩
    have h36:=(h31.trans e32).trans (zaa x36)
    have o36:=(o32.ext (zaa x36)).weak h31.size
    refine zy2 o36 h36.size (((hcq.ext (zaa x31)).ext e32).ext (zaa x36)) hq (x36.lt b7 (by simp)) (fun a ha he=>?_) (by omega) fun p' c'' w' o' g'=>⟨g'.ext h36 o36,rfl,o'⟩
    have:=(o32.lt a ha).1
    have:=x31.lt b7 (by simp)
    omega
  rintro all n c w21 ⟨x21,rfl,oA⟩ w22 h22
  have h21:=h10.trans x21
  have hflat:M.flatMap zjG++zjG m=(M++[m]).flatMap zjG:=by simp
  rw [hflat] at oA
  have hL':(M++[m]).map (·.h)=K.L++[zoA s1 l nd]:=by rw [List.map_append,hM,<- hmm]; rfl
  have hAl:∀ a,all=some a->w10.heap.size<=a.block:=fun a ha=>(oA.lt a ha).1
  have hdb:db<w.heap.size:=(x.slot.lt _ rfl).2
  have keep:∀ {w1 w2:World} {S:Nat->Prop},Ext w21 w1->Fr S w1 w2->(∀ b,S b->dO O db b)->zgt 8 zjG w2 all (M++[m])/\∀ m'∈M++[m],Lbs w2 m'.q m'.h.labels:=fun {w1 w2 S} e1 f hS=>by
    have hSlt:∀ b,S b->b<w.heap.size:=fun b hb=>by
      rcases hS b hb with h|h
      · exact x.olt b h
      · rw [h]; exact hdb
    refine ⟨((oA.ext e1).fr f fun a ha hs=>?_).recs fun _ _=>rfl,fun m' hm'=>?_⟩
    · have:=hAl a ha; have:=hSlt _ hs; have:=h10.size; omega
    · rcases List.mem_append.1 hm' with hm'|hm'
      · exact (hst w2 ((zad (h21.trans e1)).tr (f.mono hS))).2 m' hm'
      · simp at hm'; subst hm'
        rw [<- hmm]
        refine (((oL.ext x21).ext e1).fr f fun a ha hs=>?_).recs fun _ _=>rfl
        have:=(oL.lt a ha).1; have:=hSlt _ hs; have:=h9.size; omega
  have hsH:zjT w22 all (K.L++[zoA s1 l nd]):=by
    rw [<- hL']
    obtain ⟨q1,q2⟩:=keep h22 (Fr.refl (fun _=>False) w22) (fun _ h=>h.elim)
    exact hs_of q1 q2
  have hlen':M.length+1=(K.L++[zoA s1 l nd]).length:=by simp [hMl]
  have hOk':∀ h∈K.L++[zoA s1 l nd],zwC h/\h.used=za7:=fun h hh=>by
    rcases List.mem_append.1 hh with hh|hh
    · exact hO h hh
    · simp at hh; subst hh
      refine ⟨⟨by show s1.size<=_; omega,by show l.length<=_; omega,fun y hy=>?_⟩,rfl⟩
      have:=hls y hy
      omega
  rw [hlen']
  refine (zuO all c (K.L++[zoA s1 l nd]) (by rw [<- hlen']; omega) (fun h hh=>(hOk' h hh).1) w22 hsH).mono fun v w23 ⟨e23,hv⟩=>⟨e23,_,hv,fun hne w25 x25=>zvd ⟨Ext.refl _,_,rfl,fun w28 h28=>?_⟩,fun hz2=>⟨ne,ne,?_⟩⟩
  · refine zcC x ((h21.trans (zaa x25)).trans h28) (zGu hne) ⟨nd,e,hrd,.inr ⟨hz,?_⟩⟩
    rw [hl,Kt.st_shut hK]
    exact ⟨rfl,.inl ⟨hne,rfl⟩⟩
  have y21:=x.ext h21
  refine zcr (off:=0) y21.slot (by simp) rfl (fun b hb y hy=>by simp at hb; subst hb; cases hy; show db≠b; omega) fun w25 o25 g25 w26 h26=>?_
  have f25:Fr (fun b=>b=db) w21 w25:=zaR g25 fun a ha=>by cases ha; rfl
  refine ⟨_,_,0,⟨all,(K.L++[zoA s1 l nd]).length,c,K.L++[zoA s1 l nd],none⟩,rfl,ev0,⟨?_,fun _=>⟨rfl,⟨M++[m],hL',fun w'' k=>?_⟩,zzr.1 hz2,hOk'⟩,fun fb P F e=>(by cases e),fun b hb=>?_,x.odis⟩,?_,fun b hb=>?_,⟨nd,e,hrd,.inr ⟨hz,?_⟩⟩⟩
  · have:dcs ⟨all,(K.L++[zoA s1 l nd]).length,c,K.L++[zoA s1 l nd],none⟩=(dcs K).set 0 (.slice all (K.L++[zoA s1 l nd]).length c):=by simp [dcs,Kt.fp,hK]
    rw [this]; exact o25.ext h26
  · exact keep (Ext.refl _) ((f25.mono fun b hb=>.inr hb).tr ((zad h26).tr k)) (fun b hb=>hb)
  · have:=x.olt b hb; have:=h21.size; have:=f25.size; have:=h26.size; omega
  · exact ((zad h21).tr (f25.mono fun b hb=>.inl hb)).tr (zad h26)
  · rcases hb with rfl|⟨fb',P1,F1,e,h⟩
    · exact .inl (.inl rfl)
    · cases e
  · rw [hl,Kt.st_shut hK]
    exact ⟨hz2.symm,.inr ⟨rfl,rfl,rfl⟩⟩
end
def sig:Nat->Nat×Bool
  |3 => (4,false)
  |7 => (1,false)
  |11 => (7,false)
  |15 => (6,true)
  |22 => (2,false)
  |26 => (1,true)
  |33 => (2,false)
  |40 => (2,false)
  |47 => (2,false)
  |51 => (2,false)
  |_ => (2,true)
theorem pv_cmd {db pb:Addr} {v:Value} {w:World}:∀ x∈KL,PV db pb x.2.2 v w->∃ f bd cap,v=.agg #[.int .i64 (sig x.2.2).1,.bool (sig x.2.2).2,.func f bd cap]:=by
  intro x hx
  simp only [KL,List.mem_cons,List.not_mem_nil,or_false] at hx
  rcases hx with rfl|rfl|rfl|rfl|rfl|rfl|rfl|rfl|rfl|rfl|rfl <;>
    (rintro ⟨f,bd,cap,e,_⟩; exact ⟨f,bd,cap,e⟩)
def zhE (k:ByteArray):Option Nat:=(KL.find? (fun x=>decide (x.1=k))).map (·.2.2)
def zub (db:Nat) (w:World) (k:ByteArray) (t0:Int) (t1:Bool) (t2:Value) (ok:Bool):Prop :=
  (ok=false/\zhE k=none)\/(ok=true/\∃ (pb:Addr) (b:Nat),zhE k=some b/\w.cell? pb=some (.pointer (ptr db))/\PV ⟨db,0,none⟩ pb b (.agg #[.int .i64 t0,.bool t1,t2]) w/\t0=(sig b).1/\t1=(sig b).2/\t2.oneCell'=true)
theorem zub.ext {db:Nat} {w w':World} {k:ByteArray} {t0:Int} {t1:Bool} {t2:Value} {ok:Bool} (h:zub db w k t0 t1 t2 ok) (e:Ext w w'):zub db w' k t0 t1 t2 ok:=by
  rcases h with h|⟨h1,pb,b,h2,h3,h4,h5⟩
  · exact .inl h
  · exact .inr ⟨h1,pb,b,h2,(Cst.of_ext e).cell h3,zj6 _ _ _ _ _ _ (Cst.of_ext e) h4,h5⟩
def zCb (db:Nat) (w:World) (v:Value):Prop:=∃ pb mb M,v=.map (some mb)/\w.cell? pb=some (.pointer (ptr db))/\zdb Value.string w mb M/\∀ k,Tab ⟨db,0,none⟩ pb w k (ziD M k)
theorem zCb.ext {db:Nat} {w w':World} {v:Value} (h:zCb db w v) (e:Ext w w'):zCb db w' v:=by
  obtain ⟨pb,mb,M,h1,h2,h3,h4⟩:=h
  refine ⟨pb,mb,M,h1,(Cst.of_ext e).cell h2,h3.ext e,fun k=>?_⟩
  have:=h4 k
  unfold Tab at this ⊢
  split at this
  · obtain ⟨v,q1,q2⟩:=this
    exact ⟨v,q1,zj6 _ _ _ _ _ _ (Cst.of_ext e) q2⟩
  · exact this
theorem zLl:(Tryz.prog.info? 252).map (·.zero)=some (some (.agg #[.int .i64 0,.bool false,.nilFunc])):=by kernel_rfl
theorem zpB {db:Nat} {w:World} {v:Value} (h:zCb db w v) (k:ByteArray) {K:Value->World->Prop}
    (hk:∀ t0 t1 t2 ok,zub db w k t0 t1 t2 ok->t2.oneCell'=true->K (.tuple #[.agg #[.int .i64 t0,.bool t1,t2],.bool ok]) w):Run Tryz.prog (.lookup 254 v (.string k) true) w K:=by
  obtain ⟨pb,mb,M,rfl,h2,h3,h4⟩:=h
  obtain ⟨i,hi,hz⟩:∃ i,Tryz.prog.info? 252=some i/\i.zero=some (.agg #[.int .i64 0,.bool false,.nilFunc]):=by
    obtain ⟨i,h1,h2⟩:=Option.map_eq_some_iff.1 zLl
    exact ⟨i,h1,h2⟩
  refine znc (enc:=Value.string) kstr zIT hi hz h3 ?_
  have ht:=h4 k
  unfold Tab at ht
  split at ht
  · rename_i y j b he
    obtain ⟨u,hu,hpv⟩:=ht
    rw [hu]
    obtain ⟨f,bd,cap,rfl⟩:=pv_cmd _ (List.mem_of_find?_eq_some he) hpv
    exact hk _ _ _ true (.inr ⟨rfl,pb,b,by unfold zhE; rw [he]; rfl,h2,hpv,rfl,rfl,rfl⟩) rfl
  · rename_i he
    rw [ht]
    exact hk 0 false .nilFunc false (.inl ⟨rfl,by unfold zhE; rw [he]; rfl⟩) rfl
def DS.isShut:DS->Bool
  |.shut _ => true
  |.opn _ => false
def doW (R:Nat->List ByteArray->DS->Int->ByteArray->DS->Prop) (ws:List ByteArray) (σ:DS) (c:Int) (s:ByteArray) (σ':DS):Prop :=
  match zhE (ws.getD 0 ⟨#[]⟩) with
  |none => c=1/\σ'=σ
  |some b => if ws.length≠(sig b).1 then c=3/\σ'=σ else if (sig b).2=true/\σ.isShut=true then c=9/\σ'=σ else R b ws σ c s σ'
section
variable {O:Nat->Prop} {B db:Nat} {w:World} {K:Kt}
theorem do_k (R:Nat->List ByteArray->DS->Int->ByteArray->DS->Prop) (x:KX O B w db K) (g:GD w) (line:ByteArray) (hs:line.size<4294967281)
    (hcall:∀ (w1:World) (pb wp:Addr) (b:Nat) (wc:Nat) (t2:Value),Ext w w1->zhE ((zar 32 line).getD 0 ⟨#[]⟩)=some b->w1.cell? pb=some (.pointer (ptr db))->PV ⟨db,0,none⟩ pb b (.agg #[.int .i64 (sig b).1,.bool (sig b).2,t2]) w1 ->
      (zar 32 line).length=(sig b).1->(zar 32 line).length<=wc->((sig b).2=true->K.st.isShut=false)->zav w1 (some wp) ((zar 32 line).map Value.string)->(∀ x∈zar 32 line,x.size<4294967281) ->
      zI0 Tryz.prog t2 [.slice (some wp) (zar 32 line).length wc] w1 (CR O B db w1 K fun s c σ'=>R b (zar 32 line) K.st c s σ')) :
    FnP Tryz.prog zgo #[.pointer (ptr db),.string line] w (CR O B db w K fun s c σ'=>doW R (zar 32 line) K.st c s σ'):=by
  have ne:=zaL db
  refine zpO (ptr db) line w _ fun w0 x0=>(zeX 32 line hs w0 (g.gb.ext x0)).mono fun v w1 ⟨e1,hv,hc1,hlt1⟩=>⟨e1,_,_,_,hv,?_⟩
  have hlen:Lib.countB line (one 32)+1=(zar 32 line).length:=(zjM 32 line).symm
  have hszs:∀ y∈zar 32 line,y.size<4294967281:=fun y hy=>by
    obtain ⟨i,hi⟩:=List.mem_iff_getElem?.1 hy
    have:=zhY hi
    omega
  change zav w1 _ ((zar 32 line).map Value.string) at hc1
  have h0:0<(zar 32 line).length:=by omega
  rw [hlen]
  generalize zar 32 line=ws at hc1 hszs hcall h0 ⊢
  have x1:=x0.trans e1
  generalize hsp:(⟨w0.heap.size,0,none⟩:Addr)=sp at hc1
  have cw:∀ {w':World},Ext w1 w'->Go.Sx.cell w' (pIdx (some sp) 0 1) 0=some (.string (ws.getD 0 ⟨#[]⟩)):=fun e=>by
    rw [zae]
    refine (hc1.ext e) 0 _ ?_
    rw [List.getElem?_map,getElem?_getD ws ⟨#[]⟩ h0]; rfl
  have tab:∀ {w9:World},FnP Tryz.prog za5 #[.pointer (ptr db)] w9 fun v w'=>Ext w9 w'/\zCb db w' v:=fun {w9}=>(zAO ⟨db,0,none⟩ w9).mono fun v w' ⟨h1,pb,mb,M,h2,h3,h4,h5⟩=>⟨h1,pb,mb,M,h2,h3,h4,h5⟩
  have zvm:∀ v∈[Value.int .i64 0,.bool false,.nilFunc],v.oneCell'=true:=by intro v hv; simp at hv; rcases hv with rfl|rfl|rfl<;>rfl
  let J:Option Addr->Bool->World->Prop:=fun p ok w'=>Ext w1 w'/\∃ t0 t1 t2,zub db w' (ws.getD 0 ⟨#[]⟩) t0 t1 t2 ok/\Go.Sx.cell w' (pAdd p 0) 0=some (.int .i64 t0)/\Go.Sx.cell w' (pAdd p 1) 0=some (.bool t1)/\Go.Sx.cell w' (pAdd p 2) 0=some t2/\p≠none
  have put:∀ {w13 w14 w20:World} {p:Option Addr} {t0:Int} {t1:Bool} {t2:Value} {ok:Bool},Ext w1 w13->zAA w13 252 [.int .i64 0,.bool false,.nilFunc] p w14->Ext w14 w20->zub db w20 (ws.getD 0 ⟨#[]⟩) t0 t1 t2 ok->t2.oneCell'=true ->
      zao w20 p [.int .i64 t0,.bool t1,t2] [] (J p ok):=fun {w13 w14 w20 p t0 t1 t2 ok} hx hn e hf h1=>by
    have o14:Own w13.heap.size w14 252 3 p 1 1 [.int .i64 0,.bool false,.nilFunc]:=by
      rw [hn.at_]
      exact ⟨by simp,.inr ⟨w13.heap.size,1,_,rfl,Nat.le_refl _,hn.block,Nat.le_refl _,by simp [maxLen],by simp,by simp⟩⟩
    have hblk:w20.heap[w13.heap.size]?=some (.cells #[.int .i64 0,.bool false,.nilFunc] 252):=by
      rw [e.block _ (by rw [hn.size]; omega)]; exact hn.block
    have hp:p≠none:=by rw [hn.at_]; simp
    refine zaZ (off:=0) (o14.ext e) (zfb p) (by simp) (by simp) (by intro u hu; simp at hu; rcases hu with rfl|rfl|rfl<;>first|rfl|exact h1) (by simp) fun w21 o21 g21=>?_
    have e20:Ext w13 w20:=hn.ext.trans e
    have e21:Ext w13 w21:=g21.ext e20 (o14.ext e)
    have hcel:zLn w20 w21:=fun q v hv hc=>by
      have hq:q.block≠w13.heap.size:=fun hq=>by
        unfold World.cell? at hc
        rw [hq,hblk] at hc
        simp only at hc
        split at hc
        · cases hc
        · have hm:=Array.mem_of_getElem? hc
          simp at hm
          rcases hm with rfl|rfl|rfl<;>exact hv
      have hlt:q.block<w20.heap.size:=by
        rcases Nat.lt_or_ge q.block w20.heap.size with h|h
        · exact h
        · unfold World.cell? at hc
          rw [Array.getElem?_eq_none h] at hc; cases hc
      rw [<- hc]
      exact World.cell?_of_block (w:=w20) (g21.by_.block q.block hlt (by rw [hn.at_]; simp [blk]; exact hq))
    have hcs:=o21.cells
    refine ⟨hx.trans e21,t0,t1,t2,?_,?_,?_,?_,hp⟩
    · rcases hf with h|⟨h1,pb,b,h2,h3,h4,h5⟩
      · exact .inl h
      · exact .inr ⟨h1,pb,b,h2,hcel _ _ trivial h3,zH1 _ _ _ _ _ _ hcel h4,h5⟩
    · rw [zam]; exact hcs 0 _ rfl
    · rw [zam]; exact hcs 1 _ rfl
    · rw [zam]; exact hcs 2 _ rfl
  have new:∀ {w13:World} {T:Option Addr->World->Prop},(∀ p w14,zAA w13 252 [.int .i64 0,.bool false,.nilFunc] p w14->T p w14)->New w13 252 [.int .i64 0,.bool false,.nilFunc] T:=fun h=>⟨zvm,h⟩
  refine ⟨J,⟨by simp,by omega,by omega,fun w9 x9=>tab.mono fun v w10 ⟨e10,hT⟩=>⟨e10,v,rfl,_,cw (x9.trans e10),fun w13 x13=>?_,fun w13 x13=>?_⟩,⟨_,cw (Ext.refl _),fun w10 x10=>tab.mono fun v w11 ⟨e11,hT⟩=>⟨e11,v,rfl,fun w13 x13=>?_,fun w13 x13=>?_⟩,fun w10 x10=>?_⟩,fun w9 x9=>?_⟩,?_⟩
  · exact zpB (hT.ext x13) _ fun t0 t1 t2 ok hf h1=>⟨Ext.refl _,t0,t1,t2,ok,rfl,fun w19 x19=>new fun p w20 hn=>put (((x9.trans e10).trans x13).trans x19) hn (Ext.refl _) (hf.ext (x19.trans hn.ext)) h1⟩
  · exact new fun p w14 hn w15 x15=>zpB (hT.ext ((x13.trans hn.ext).trans x15)) _ fun t0 t1 t2 ok hf h1=>⟨Ext.refl _,t0,t1,t2,ok,rfl,put ((x9.trans e10).trans x13) hn x15 hf h1⟩
  · exact zpB (hT.ext x13) _ fun t0 t1 t2 ok hf h1=>⟨Ext.refl _,t0,t1,t2,ok,rfl,fun w19 x19=>new fun p w20 hn=>put (((x10.trans e11).trans x13).trans x19) hn (Ext.refl _) (hf.ext (x19.trans hn.ext)) h1⟩
  · exact new fun p w14 hn w15 x15=>zpB (hT.ext ((x13.trans hn.ext).trans x15)) _ fun t0 t1 t2 ok hf h1=>⟨Ext.refl _,t0,t1,t2,ok,rfl,put ((x10.trans e11).trans x13) hn x15 hf h1⟩
  · exact new fun p w11 hn w12 x12=>tab.mono fun v w13 ⟨e13,hT⟩=>⟨e13,v,rfl,fun w15 x15=>zpB (hT.ext x15) _ fun t0 t1 t2 ok hf h1=>⟨Ext.refl _,t0,t1,t2,ok,rfl,put x10 hn ((x12.trans e13).trans x15) hf h1⟩⟩
  · refine new fun p w10 hn=>⟨fun w11 x11=>tab.mono fun v w12 ⟨e12,hT⟩=>⟨e12,v,rfl,_,cw ((((x9.trans hn.ext).trans x11).trans e12)),fun w15 x15=>zpB (hT.ext x15) _ fun t0 t1 t2 ok hf h1=>⟨Ext.refl _,t0,t1,t2,ok,rfl,put x9 hn ((x11.trans e12).trans x15) hf h1⟩⟩,_,cw (x9.trans hn.ext),fun w12 x12=>tab.mono fun v w13 ⟨e13,hT⟩=>⟨e13,v,rfl,fun w15 x15=>zpB (hT.ext x15) _ fun t0 t1 t2 ok hf h1=>⟨Ext.refl _,t0,t1,t2,ok,rfl,put x9 hn ((x12.trans e13).trans x15) hf h1⟩⟩⟩
  rintro p ok w8 ⟨x8,t0,t1,t2,hf,c0,c1,c2,hp⟩
  have h8:=x1.trans x8
  refine ⟨fun hok w9 x9=>zvd ⟨Ext.refl _,_,rfl,fun w12 h12=>zcC x ((h8.trans x9).trans h12) (zGu (c:=1) (by decide)) ?_⟩,fun hok=>⟨hp,_,c0,?_⟩⟩
  · rcases hf with ⟨_,h⟩|⟨h,_⟩
    · unfold doW; rw [h]; exact ⟨rfl,rfl⟩
    · rw [hok] at h; cases h
  rcases hf with ⟨h,_⟩|⟨_,pb,b,hcm,hpb,hpv,rfl,rfl,_⟩
  · rw [hok] at h; cases h
  refine ⟨fun hne w10 x10=>zvd ⟨Ext.refl _,_,rfl,rfl,fun w13 x13=>zBb ⟨Ext.refl _,_,rfl,fun w16 h16=>zcC x (((h8.trans x10).trans x13).trans h16) (zAW (c:=3) (by decide)) ?_⟩⟩,fun heq=>⟨hp,_,c1,fun _=>ne,fun _=>ne,fun ht=>?_,fun hfl=>⟨hp,_,c2,fun w12 x12=>?_⟩⟩⟩
  · unfold doW; rw [hcm]
    simp only []
    rw [if_pos (by omega)]
    first|exact ⟨rfl,rfl⟩|simp
  · have hR:∀ (s:ByteArray) (c:Int) (σ:DS),K.st.isShut=false->R b ws K.st c s σ->doW R ws K.st c s σ:=fun s c σ hsh h=>by
      unfold doW; rw [hcm]
      simp only []
      rw [if_neg (by omega),if_neg (by rw [hsh]; simp)]
      exact h
    rcases K.cases with hK|⟨fb,P,F,hK⟩
    · refine ⟨none,(x.ext h8).nofp hK,fun _ w12 x12=>zvd ⟨Ext.refl _,_,rfl,fun w15 h15=>zcC x ((h8.trans x12).trans h15) (zGu (c:=9) (by decide)) ?_⟩,fun h=>absurd rfl h⟩
      unfold doW; rw [hcm]
      simp only []
      rw [if_neg (by omega),if_pos ⟨ht,by rw [Kt.st_shut hK]; rfl⟩]
      first|exact ⟨rfl,rfl⟩|simp
    · refine ⟨ptr fb,(x.ext h8).fbp hK,fun h=>absurd h (zaL fb),fun _=>⟨hp,_,c2,fun w13 x13=>?_⟩⟩
      have hsh:K.st.isShut=false:=by rw [Kt.st_opn hK]; rfl
      have hx:=h8.trans x13
      obtain ⟨f,bd,cap,e1,e2⟩:=hcall w13 pb sp b ws.length t2 hx hcm ((Cst.of_ext x13).cell hpb) (zj6 _ _ _ _ _ _ (Cst.of_ext x13) hpv) (by omega) (Nat.le_refl _) (fun _=>hsh) (hc1.ext (x8.trans x13)) hszs
      refine ⟨f,bd,cap,e1,e2.mono fun v w14 hC=>?_⟩
      obtain ⟨s,ev,c,K',hv,q1,q2,q3,q4,q5⟩:=zw9 hx hC
      exact ⟨s,ev,hv,fun w17 h17=>⟨s,ev,c,K',rfl,q1,q2.ext h17,q3.tr (zad h17),q4,hR _ _ _ hsh q5⟩⟩
  · have hx:=h8.trans x12
    obtain ⟨f,bd,cap,e1,e2⟩:=hcall w12 pb sp b ws.length t2 hx hcm ((Cst.of_ext x12).cell hpb) (zj6 _ _ _ _ _ _ (Cst.of_ext x12) hpv) (by omega) (Nat.le_refl _) (fun h=>by rw [hfl] at h; cases h) (hc1.ext (x8.trans x12)) hszs
    refine ⟨f,bd,cap,e1,e2.mono fun v w14 hC=>?_⟩
    obtain ⟨s,ev,c,K',hv,q1,q2,q3,q4,q5⟩:=zw9 hx hC
    refine ⟨s,ev,hv,fun w17 h17=>⟨s,ev,c,K',rfl,q1,q2.ext h17,q3.tr (zad h17),q4,?_⟩⟩
    unfold doW; rw [hcm]
    simp only []
    rw [if_neg (by omega),if_neg (by rw [hfl]; simp)]
    exact q5
end
theorem As_k {W0 w:World} {v:Value} {c:Int} (he:EV v c) (g:GD w) {t:Addr} {old:Value} (hx:Ext W0 w) (ht:W0.heap.size<=t.block) (hc:w.cell? t=some old) (hf:w.frozen? t=false) :
    FnP Tryz.prog zoV #[v,.iface 196 (.pointer (some t))] w fun u w'=>Ext W0 w'/\∃ b:Bool,u=.bool b/\((c=0/\b=false)\/(c≠0/\b=true/\Go.Sx.cell w' (some t) 0=some (.int .i64 c))):=by
  refine ⟨fun args w=>Tryz.call104 args w,?_⟩
  have hg:w.cell? ⟨0,0,none⟩=some (.iface 329 (.agg #[.pointer (some ⟨11,175,none⟩)])):=zw6 g.eType
  have al:∀ {w':World} (o:Obj),Ext W0 w'->Ext W0 (w'.alloc o):=fun o h=>Below.alloc h h.size o
  have lt:t.block<w.heap.size:=by
    rcases Nat.lt_or_ge t.block w.heap.size with h|h
    · exact h
    · unfold World.cell? at hc
      rw [Array.getElem?_eq_none h] at hc; cases hc
  have ca:∀ {w':World} (o:Obj),t.block<w'.heap.size->w'.cell? t=some old->(w'.alloc o).cell? t=some old/\t.block<(w'.alloc o).heap.size:=fun {w'} o h1 h2=>⟨by rw [World.cell?_alloc_lt _ _ t h1]; exact h2,by rw [zCi]; omega⟩
  have fin:∀ {w':World},Ext W0 w'->w'.cell? t=some old->Ext W0 (w'.setCell t (.int .i64 c))/\Go.Sx.cell (w'.setCell t (.int .i64 c)) (some t) 0=some (.int .i64 c):=fun {w'} h1 h2=>⟨Below.setCell h1 ht _,zgv (World.cell?_setCell_same w' t _ h2)⟩
  rcases he with ⟨h0,rfl⟩|⟨h0,rfl|⟨k,rfl⟩⟩
  · exact (as_nil _ w).mono fun e w' ⟨h1,h2⟩=>⟨_,h1,by rw [h2]; exact hx,false,rfl,.inl ⟨h0,rfl⟩⟩
  · refine (as_hit c t old w hg hc hf).mono fun e w' ⟨h1,o1,o2,o3,o4,h2⟩=>⟨_,h1,?_⟩
    obtain ⟨a1,b1⟩:=ca o1 lt hc
    obtain ⟨a2,b2⟩:=ca o2 b1 a1
    obtain ⟨a3,b3⟩:=ca o3 b2 a2
    obtain ⟨a4,b4⟩:=ca o4 b3 a3
    obtain ⟨q1,q2⟩:=fin (al o4 (al o3 (al o2 (al o1 hx)))) a4
    rw [h2]
    exact ⟨q1,true,rfl,.inr ⟨h0,rfl,q2⟩⟩
  · refine (zJu k c t old w hg hc hf).mono fun e w' ⟨h1,o1,o2,o3,o4,o5,h2⟩=>⟨_,h1,?_⟩
    obtain ⟨a1,b1⟩:=ca o1 lt hc
    obtain ⟨a2,b2⟩:=ca o2 b1 a1
    obtain ⟨a3,b3⟩:=ca o3 b2 a2
    obtain ⟨a4,b4⟩:=ca o4 b3 a3
    obtain ⟨a5,b5⟩:=ca o5 b4 a4
    obtain ⟨q1,q2⟩:=fin (al o5 (al o4 (al o3 (al o2 (al o1 hx))))) a5
    rw [h2]
    exact ⟨q1,true,rfl,.inr ⟨h0,rfl,q2⟩⟩
def zAI (c:Int) (s:ByteArray):ByteArray:=if c=0 then s else (⟨#[101,114,114,32]⟩:ByteArray)++ofL (Lib.itoa c)
abbrev zFb:=Nat->List ByteArray->DS->Int->ByteArray->DS->Prop
def doD (R:zFb) (line:ByteArray) (σ:DS) (a:ByteArray) (σ':DS):Prop:=∃ c s,doW R (zar 32 line) σ c s σ'/\a=zAI c s
def zoR (R:zFb) (line:ByteArray):Prop:=∀ (O:Nat->Prop) (B db:Nat) (K:Kt) (w1:World) (pb wp:Addr) (b:Nat) (wc:Nat) (t2:Value),KX O B w1 db K->GD w1->11<=B->B<=w1.heap.size->zhE ((zar 32 line).getD 0 ⟨#[]⟩)=some b->w1.cell? pb=some (.pointer (ptr db)) ->
  PV ⟨db,0,none⟩ pb b (.agg #[.int .i64 (sig b).1,.bool (sig b).2,t2]) w1->(zar 32 line).length=(sig b).1->(zar 32 line).length<=wc->((sig b).2=true->K.st.isShut=false)->zav w1 (some wp) ((zar 32 line).map Value.string)->(∀ x∈zar 32 line,x.size<4294967281) ->
  zI0 Tryz.prog t2 [.slice (some wp) (zar 32 line).length wc] w1 (CR O B db w1 K fun s c σ'=>R b (zar 32 line) K.st c s σ'/\InR .i64 c)
section
variable {O:Nat->Prop} {B db:Nat} {w:World} {K:Kt}
theorem Do_kD (R:zFb) (x:KX O B w db K) (g:GD w) (hB:11<=B) (hBw:B<=w.heap.size) (line:ByteArray) (hs:line.size<4294967281) (hcall:zoR R line) :
    FnP Tryz.prog zey #[.pointer (ptr db),.string line] w fun v w'=>∃ (a:ByteArray) (K':Kt),v=.string a/\KX O B w' db K'/\Fr (KF db K) w w'/\zu0 w db K K'/\doD R line K.st a K'.st:=by
  refine zpN (ptr db) line w _ fun w0 x0=>(do_k (fun b ws σ c s σ'=>R b ws σ c s σ'/\InR .i64 c) (x.ext x0) (g.ext x0) line hs fun w1 pb wp b wc t2 x1 a1 a2 a3 a4 a5 a6 a7 a8=>hcall O B db K w1 pb wp b wc t2 ((x.ext x0).ext x1) ((g.ext x0).ext x1) hB (Nat.le_trans hBw (Nat.le_trans x0.size x1.size)) a1 a2 a3 a4 a5 a6 a7 a8).mono fun v w1 hC=>?_
  obtain ⟨s,ev,c,K',rfl,hE,hX,hF,hG,hR⟩:=zw9 x0 hC
  have hRR:doW R (zar 32 line) K.st c s K'.st/\InR .i64 c:=by
    unfold doW at hR ⊢
    split at hR
    · exact ⟨hR,by rw [hR.1]; exact i64 (by omega)⟩
    · split at hR
      · rename_i h; rw [if_pos h]; exact ⟨hR,by rw [hR.1]; exact i64 (by omega)⟩
      · rename_i h
        rw [if_neg h]
        split at hR
        · rename_i h; rw [if_pos h]; exact ⟨hR,by rw [hR.1]; exact i64 (by omega)⟩
        · rename_i h; rw [if_neg h]; exact hR
  have g1:GD w1:=g.fr hF fun b hb=>Nat.le_trans hB (x.foot hb).1
  refine ⟨s,ev,rfl,fun w4 x4=>⟨by simp [Value.oneCell'],fun p w5 hn w6 x6=>zfJ (d:=.pointer 24) (by kernel_rfl) (by intro m hm; cases hm) ⟨Ext.refl _,_,rfl,fun w9 x9=>?_⟩⟩⟩
  obtain ⟨q,rfl,hq⟩:=zlF hn
  have hqb:q=⟨w4.heap.size,0,none⟩:=by have:=hn.at_; injection this
  have h49:Ext w4 w9:=(hn.ext.trans x6).trans x9
  have h59:Ext w5 w9:=x6.trans x9
  have h19:Ext w1 w9:=x4.trans h49
  have hfz:w9.frozen? q=false:=by
    have hb:w9.heap[w4.heap.size]?=some (.cells #[.int .i64 0] 24):=by rw [h59.block _ (by rw [hn.size]; omega)]; exact hn.block
    unfold World.frozen?
    rw [hqb]
    simp only [hb]
    rfl
  refine (As_k hE (g1.ext h19) h49 (by rw [hqb]; exact Nat.le_refl _) ((Cst.of_ext h59).cell hq) hfz).mono fun u w10 ⟨e10,b,hu,hb⟩=>⟨b,hu,fun hbt=>?_,fun hbf w12 h12=>?_⟩
  · rcases hb with ⟨_,h⟩|⟨hc,_,hcell⟩
    · rw [hbt] at h; cases h
    · refine ⟨c,hcell,fun w13 h13=>(znF c (zhK hRR.2) w13 (((g1.ext x4).ext e10).ext h13).gb).mono fun v w14 ⟨e14,hv⟩=>⟨e14,_,hv,?_,fun w16 h16=>?_⟩⟩
      · have:=Lib.itoa_length_le c (zhK hRR.2).1 (zhK hRR.2).2
        unfold zdl
        rw [zat]
        show 4+_<=_
        omega
      · have hx:=(x4.trans e10).trans h16
        exact ⟨_,K',rfl,hX.ext hx,hF.tr (zad hx),hG,c,s,hRR.1,by unfold zAI; rw [if_neg hc]⟩
  · rcases hb with ⟨hc,_⟩|⟨_,h,_⟩
    · have hx:=(x4.trans e10).trans h12
      exact ⟨s,K',rfl,hX.ext hx,hF.tr (zad hx),hG,c,s,hRR.1,by unfold zAI; rw [if_pos hc]⟩
    · rw [hbf] at h; cases h
end
inductive zc5 (R:zFb):List ByteArray->DS->List ByteArray->DS->Prop
  |nil (σ:DS):zc5 R [] σ [] σ
  |snoc {ls:List ByteArray} {l:ByteArray} {σ σ1 σ2:DS} {us:List ByteArray} {a:ByteArray}:zc5 R ls σ us σ1->doD R l σ1 a σ2->zc5 R (ls++[l]) σ (us++[a]) σ2
theorem zc5.len {R:zFb} {ls us:List ByteArray} {σ σ':DS} (h:zc5 R ls σ us σ'):us.length=ls.length:=by
  induction h with
  |nil => rfl
  |snoc _ _ ih => simp [ih]
theorem zBZ (R:zFb) (lines:List ByteArray) (p:Option Addr) (c:Nat) (w:World) (g:GD w) (h6:11<=w.heap.size) (hw:zav w p (lines.map Value.string)) (h63:(lines.length:Int)<=9223372036854775807) (hs:∀ x∈lines,x.size<4294967281) (hcall:∀ x∈lines,zoR R x) :
    FnP Tryz.prog zch #[.slice p lines.length c] w fun v w'=>Ext w w'/\((100<lines.length/\v=.tuple #[.slice none 0 0,.int .i64 2])\/(lines.length<=100/\∃ (us:List ByteArray) (σ:DS) (q:Option Addr) (d:Nat),v=.tuple #[.slice q lines.length d,.int .i64 0]/\zc5 R lines (.shut []) us σ/\Own w.heap.size w' zay 1 q lines.length d (us.map Value.string))):=by
  refine zvw p lines.length c w _ ⟨fun h w0 h0=>⟨h0,.inl ⟨by omega,rfl⟩⟩,fun hle w0 h0=>(zCP w0).mono fun v w1 ⟨e1,db,hv,x1⟩=>⟨e1,ptr db,hv,?_⟩⟩
  have hx1:=h0.trans e1
  refine ⟨fun q n d k w6=>Ext w0 w6/\0<=k/\k<=lines.length/\n=k/\∃ (us:List ByteArray) (K:Kt),zc5 R (lines.take k.toNat) (.shut []) us K.st/\Own w0.heap.size w6 zay 1 q n d (us.map Value.string)/\KX (fun b=>b<w0.heap.size\/∃ a,q=some a/\a.block=b) w0.heap.size w6 db K,fun _ _ _ k _=>(lines.length-k).toNat,⟨e1,by omega,by omega,by simp,[],_,zc5.nil _,Own.nil,x1.go (S:=fun _=>False) (Fr.refl _ _) (fun _ h=>h.elim) fun b hb=>?_⟩,?_⟩
  · rcases hb with hb|⟨a,ha,_⟩
    · exact .inl hb
    · cases ha
  rintro q n d k w6 ⟨x6,hk0,hk1,hnk,us,K,hp,oA,hX⟩
  have hal:=hp.len
  rw [List.length_take] at hal
  refine ⟨fun hlt=>?_,fun hge w7 h7=>?_⟩
  · obtain ⟨l,hl⟩:∃ l,lines[k.toNat]?=some l:=⟨_,List.getElem?_eq_getElem (by omega)⟩
    have hm:=List.mem_of_getElem? hl
    have hcell:Go.Sx.cell w6 (pIdx p k 1) 0=some (.string l):=by
      rw [zae]
      refine (hw.ext (h0.trans x6)) _ _ ?_
      simp [hl]
    refine ⟨fun hq=>zai hcell (zah.2 hq),hk0,hlt,l,hcell,fun w8 x8=>?_⟩
    have hsz:w0.heap.size<=w8.heap.size:=(x6.trans x8).size
    refine (Do_kD R (hX.ext x8) (g.ext ((h0.trans x6).trans x8)) (Nat.le_trans h6 h0.size) hsz l (hs l hm) (hcall l hm)).mono fun v w9 ⟨a,K',hv,hX',hF,hG,hD⟩=>⟨a,hv,?_⟩
    have o9:Own w0.heap.size w9 zay 1 q n d (us.map Value.string):=(oA.ext x8).fr hF fun b hb hk=>(hX.ext x8).oft (.inr ⟨b,hb,rfl⟩) hk
    have e9:Ext w0 w9:=(hX.ext x8).keep (x6.trans x8) (Nat.le_refl _) hF
    refine push (v:=.string a) zbX (by omega) o9 e9.size rfl (by intro u hu; simp [Value.cells] at hu; subst hu; rfl) (by omega) (by omega) (by omega) fun q' d' w' o' g' np=>⟨i64 (by omega),⟨g'.ext e9 o9,by omega,by omega,by omega,us++[a],K',?_,?_,?_⟩,by simp only []; omega⟩
    · rw [show (k+1).toNat=k.toNat+1 by omega,List.take_add_one,hl]
      exact zc5.snoc hp hD
    · simpa [Value.cells] using o'
    · refine hX'.go (zaR (S:=fun b=>∃ a,q=some a/\a.block=b) g' fun a ha=>⟨a,ha,rfl⟩) (fun b hb=>.inr hb) fun b hb=>?_
      rcases hb with hb|⟨a',ha',rfl⟩
      · exact .inl (.inl hb)
      · have hlt':=(o'.lt a' ha').2
        rcases g'.new with hn|hn
        · left; right
          subst ha'
          cases q with
          |none => simp [blk] at hn
          |some z => simp [blk] at hn; exact ⟨z,rfl,hn.symm⟩
        · exact .inr ⟨hn a' ha',hlt'⟩
  · have hk:k=lines.length:=by omega
    subst hk
    have htake:lines.take ((lines.length:Int)).toNat=lines:=by simp
    rw [htake] at hp
    have hn:n=lines.length:=by omega
    subst hn
    exact ⟨(h0.trans x6).trans h7,.inr ⟨by omega,us,K.st,q,d,rfl,hp,(oA.ext h7).weak h0.size⟩⟩
abbrev zFa:=List ByteArray->DS->Int->ByteArray->DS->Prop
def zqB (N Fr_:zFa):zFb
  |3,ws,σ,c,s,σ' => zxw (ws.getD 1 ⟨#[]⟩) (ws.getD 2 ⟨#[]⟩) (ws.getD 3 ⟨#[]⟩) σ c s σ'
  |7,_,σ,c,s,σ' => zx4 σ c s σ'
  |11,ws,σ,c,s,σ' => N ws σ c s σ'
  |15,ws,σ,c,s,σ' => zjm (zoe ws 1) σ c s σ'
  |22,ws,σ,c,s,σ' => zrg ztM (ws.getD 1 ⟨#[]⟩) σ s c σ'
  |26,_,σ,c,s,σ' => zx7 σ c s σ'
  |33,ws,σ,c,s,σ' => zrg (zwK true) (ws.getD 1 ⟨#[]⟩) σ s c σ'
  |40,ws,σ,c,s,σ' => zrg (zwK false) (ws.getD 1 ⟨#[]⟩) σ s c σ'
  |47,ws,σ,c,s,σ' => zrg zF2 (ws.getD 1 ⟨#[]⟩) σ s c σ'
  |51,ws,σ,c,s,σ' => zEz (ws.getD 1 ⟨#[]⟩) σ c s σ'
  |55,ws,σ,c,s,σ' => Fr_ ws σ c s σ'
  |_,_,_,_,_,_ => False
def zaB (c:Int):Prop:=0<=c/\c<=10
theorem zaB.inR {c:Int} (h:zaB c):InR .i64 c:=i64 (by unfold zaB at h; omega)
theorem zmN {s:ByteArray} {n c:Int} (h:zG9 s n c):zaB c:=by rcases h with ⟨h,_⟩|⟨h,_⟩<;>(unfold zaB; omega)
theorem zsf {F:Fm} {id e:Int} (h:zt7 F id e):zaB e:=by rcases h with ⟨_,h⟩|⟨_,h⟩<;>(unfold zaB; omega)
theorem zyc {s:ByteArray} {a:Nd} {e:Int} (h:zBl s a e):zaB e:=by
  unfold zaB
  by_cases h0:e=0
  · omega
  · by_cases h4:e=4
    · omega
    · have:=h.2.2.2.1 h0 h4; omega
theorem zu2:∀ (l:List Lb) (seen:List ByteArray),zaB (lbE seen l)
  |[],seen => by unfold lbE zaB; omega
  |x::r,seen => by
    rw [lbE]
    split
    · split
      · unfold zaB; omega
      · exact zu2 r _
    · unfold zaB; omega
theorem zGJ (seen:List ByteArray) (h:Ht):zaB (hE seen h):=by
  unfold hE
  split; · unfold zaB; omega
  split; · unfold zaB; omega
  split; · unfold zaB; omega
  split; · exact zu2 _ _
  split; · unfold zaB; omega
  split; · unfold zaB; omega
  split<;>(unfold zaB; omega)
theorem zuQ:∀ (L:List Ht) (seen:List ByteArray),zaB (hsE seen L)
  |[],seen => by unfold hsE zaB; omega
  |x::r,seen => by
    rw [hsE]
    split
    · exact zGJ _ _
    · exact zuQ r _
theorem zxe (L:List Ht):zaB (zlo L):=by
  unfold zlo
  split
  · unfold zaB; omega
  · exact zuQ _ _
theorem zyt {F:Fm} {n e:Int} {σ:DS} (h:ztM F n e σ):zaB e:=by rcases h with ⟨h,_⟩|⟨h,_⟩<;>(unfold zaB; omega)
theorem zsg {ok:Bool} {F:Fm} {n e:Int} {σ:DS} (h:zwK ok F n e σ):zaB e:=by
  rcases h with ⟨_,h,_⟩|⟨h,_⟩
  · exact zsf h
  · unfold zaB; omega
theorem zAM {F:Fm} {n e:Int} {σ:DS} (h:zF2 F n e σ):zaB e:=by
  rcases h with ⟨_,h,_⟩|⟨h,_⟩
  · exact zsf h
  · unfold zaB; omega
theorem zh2 {R:Fm->Int->Int->DS->Prop} (hR:∀ F n e σ,R F n e σ->zaB e) {word:ByteArray} {σ:DS} {s:ByteArray} {c:Int} {σ':DS} (h:zrg R word σ s c σ'):zaB c:=by
  obtain ⟨n,c1,hn,⟨_,rfl,_⟩|⟨_,_,h⟩⟩:=h
  · exact zmN hn
  · unfold zKH at h
    split at h
    · unfold zaB; omega
    · exact hR _ _ _ _ h
theorem zxx {a b c0:ByteArray} {σ:DS} {c:Int} {s:ByteArray} {σ':DS} (h:zxw a b c0 σ c s σ'):zaB c:=by
  obtain ⟨nd,e,hr,⟨_,rfl,_⟩|⟨_,h⟩⟩:=h
  · exact zyc hr
  · split at h
    · unfold zaB; omega
    · split at h
      · unfold zaB; omega
      · rw [h.1]; exact zxe _
theorem zx5 {σ:DS} {c:Int} {s:ByteArray} {σ':DS} (h:zx4 σ c s σ'):zaB c:=by
  unfold zx4 at h
  split at h<;>(unfold zaB; omega)
theorem zx8 {σ:DS} {c:Int} {s:ByteArray} {σ':DS} (h:zx7 σ c s σ'):zaB c:=by
  unfold zx7 at h
  split at h
  · exact h.elim
  · unfold zaB; omega
theorem zyl {word:ByteArray} {σ:DS} {c:Int} {s:ByteArray} {σ':DS} (h:zEz word σ c s σ'):zaB c:=by
  obtain ⟨_,n,c1,hn,⟨_,rfl⟩|⟨_,h⟩⟩:=h
  · exact zmN hn
  · split at h
    · unfold zaB; omega
    · rcases h with ⟨_,h,_⟩|⟨_,h⟩<;>(unfold zaB; omega)
theorem ztK {t:ByteArray} {σ:DS} {c:Int} {s:ByteArray} {σ':DS} (h:zjm t σ c s σ'):zaB c:=by
  unfold zjm at h
  split at h
  · exact h.elim
  · obtain ⟨e,j,hr,⟨h0,rfl,_⟩|⟨h0,hS,_⟩⟩:=h
    · unfold zaB
      obtain ⟨r1,r2,_⟩:=hr
      by_cases hz:3000<t.size
      · have:=r1 hz; omega
      · have:=r2 (by omega); omega
    · have hj:=zi2.2 (hr.2.2.1 h0).ok
      unfold zaB
      rcases hS with ⟨h1,_⟩|⟨_,⟨_,h⟩|⟨_,⟨_,h⟩|⟨_,⟨_,h⟩|⟨_,h⟩⟩⟩⟩<;>omega
theorem zwZ {a b c d e f:Value} (h:Value.agg #[a,b,c]=.agg #[d,e,f]):c=f:=by
  have:=congrArg Value.cells h
  simp [Value.cells] at this
  exact this.2.2
theorem zmw (N Fr_:zFa) (line:ByteArray) (h11:zhE ((zar 32 line).getD 0 ⟨#[]⟩)=some 11->False) (h55:zhE ((zar 32 line).getD 0 ⟨#[]⟩)=some 55->False):zoR (zqB N Fr_) line:=by
  intro O B db K w1 pb wp b wc t2 x g hB hBw hcm hpb hpv hlen hcap hsh hw hszs
  generalize zar 32 line=ws at *
  have hb:b=3\/b=7\/b=11\/b=15\/b=22\/b=26\/b=33\/b=40\/b=47\/b=51\/b=55:=by
    unfold zhE at hcm
    obtain ⟨e,he,rfl⟩:=Option.map_eq_some_iff.1 hcm
    have:=List.mem_of_find?_eq_some he
    simp only [KL,List.mem_cons,List.not_mem_nil,or_false] at this
    rcases this with rfl|rfl|rfl|rfl|rfl|rfl|rfl|rfl|rfl|rfl|rfl<;>simp
  have hsz1:(ws.getD 1 ⟨#[]⟩).size<=281474976710656:=by
    by_cases h1:1<ws.length
    · have:=hszs _ (zap ws ⟨#[]⟩ h1); omega
    · rw [List.getD_eq_getElem?_getD,List.getElem?_eq_none (by omega)]
      exact Nat.zero_le _
  have hszs':∀ y∈ws,y.size<=4294967281:=fun y hy=>by have:=hszs y hy; omega
  have opn:(sig b).2=true->∃ fb P F,K.farm=some (fb,P,F):=fun h=>by
    rcases K.cases with hK|h'
    · have:=hsh h; rw [Kt.st_shut hK] at this; cases this
    · exact h'
  have meth:∀ {F:FuncId} {Rr:ByteArray->Int->DS->Prop},(∃ f bd cap,(Value.agg #[.int .i64 (sig b).1,.bool (sig b).2,t2])=.agg #[.int .i64 (sig b).1,.bool (sig b).2,.func f bd cap]/\zbr ⟨db,0,none⟩ F (.func f bd cap)) ->
      FnP Tryz.prog F #[.pointer (ptr db),.slice (some wp) ws.length wc] w1 (CR O B db w1 K Rr)->(∀ s c σ,Rr s c σ->zqB N Fr_ b ws K.st c s σ/\InR .i64 c) ->
      zI0 Tryz.prog t2 [.slice (some wp) ws.length wc] w1 (CR O B db w1 K fun s c σ'=>zqB N Fr_ b ws K.st c s σ'/\InR .i64 c):=fun {F Rr} h1 h2 h3=>by
    obtain ⟨f,bd,cap,e1,e2⟩:=h1
    have e3:=zwZ e1
    unfold zbr at e2
    rw [<- e3] at e2
    exact ⟨F,_,_,e2,h2.mono fun v w' h=>h.mono h3⟩
  have clo:∀ {Rr:ByteArray->Int->DS->Prop},(∃ f' cap,t2=.func (.func f') #[] cap/\FnP Tryz.prog f' (#[.slice (some wp) ws.length wc]++cap) w1 (CR O B db w1 K Rr))->(∀ s c σ,Rr s c σ->zqB N Fr_ b ws K.st c s σ/\InR .i64 c) ->
      zI0 Tryz.prog t2 [.slice (some wp) ws.length wc] w1 (CR O B db w1 K fun s c σ'=>zqB N Fr_ b ws K.st c s σ'/\InR .i64 c):=fun {Rr} h1 h3=>by
    obtain ⟨f',cap,e1,e2⟩:=h1
    exact ⟨f',#[],cap,e1,e2.mono fun v w' h=>h.mono h3⟩
  have cmd:∀ {n:Int} {fl:Bool} {R:Value->World->Prop},zd7 n fl R (.agg #[.int .i64 (sig b).1,.bool (sig b).2,t2]) w1->R t2 w1:=fun {n fl R} h=>by
    obtain ⟨f,bd,cap,e1,e2⟩:=h
    have e3:=zwZ e1
    rw [e3]; exact e2
  have pbc:Go.Sx.cell w1 (some pb) 0=some (.pointer (ptr db)):=zgv hpb
  rcases hb with rfl|rfl|rfl|rfl|rfl|rfl|rfl|rfl|rfl|rfl|rfl
  · have e2:zbr ⟨db,0,none⟩ 208 t2:=cmd (show zd7 4 false (fun f _=>zbr ⟨db,0,none⟩ 208 f) _ w1 from hpv)
    exact ⟨208,_,_,e2,(host_c x g hBw (some wp) wc ws hlen hszs hw).mono fun v w' h=>h.mono fun s c σ q=>⟨q,(zxx q).inR⟩⟩
  · have e2:zbr ⟨db,0,none⟩ 209 t2:=cmd (show zd7 1 false (fun f _=>zbr ⟨db,0,none⟩ 209 f) _ w1 from hpv)
    exact ⟨209,_,_,e2,(open_c x hBw (some wp) ws.length wc).mono fun v w' h=>h.mono fun s c σ q=>⟨q,(zx5 q).inR⟩⟩
  · exact (h11 hcm).elim
  · have e2:zbr ⟨db,0,none⟩ 211 t2:=cmd (show zd7 6 true (fun f _=>zbr ⟨db,0,none⟩ 211 f) _ w1 from hpv)
    obtain ⟨fb,P,F,hK⟩:=opn rfl
    have hl:ws.length=6:=hlen
    exact ⟨211,_,_,e2,(zHL x hK g hB hBw (some wp) wc ws (by omega) hcap (by omega) hszs' hw).mono fun v w' h=>h.mono fun s c σ q=>⟨q,(ztK q).inR⟩⟩
  · have e2:=cmd (show zd7 2 false (zdh pb 212) _ w1 from hpv)
    have hl:ws.length=2:=hlen
    exact clo (zAc x e2 hpb g.gb ztM (some wp) wc ws (by omega) hsz1 hw fun {w2 fb P F} n e hn hK=>tick_c (x.ext e) hK (zaD e pbc) n) fun s c σ q=>⟨q,(zh2 (fun _ _ _ _=>zyt) q).inR⟩
  · have e2:zbr ⟨db,0,none⟩ 213 t2:=cmd (show zd7 1 true (fun f _=>zbr ⟨db,0,none⟩ 213 f) _ w1 from hpv)
    obtain ⟨fb,P,F,hK⟩:=opn rfl
    exact ⟨213,_,_,e2,(plan_c x hK g hB (some wp) ws.length wc).mono fun v w' h=>h.mono fun s c σ q=>⟨q,(zx8 q).inR⟩⟩
  · have e2:=cmd (show zd7 2 false (zdh pb 214) _ w1 from hpv)
    have hl:ws.length=2:=hlen
    exact clo (zAc x e2 hpb g.gb (zwK true) (some wp) wc ws (by omega) hsz1 hw fun {w2 fb P F} n e hn hK=>zIp (x.ext e) hK (zaD e pbc) n hn true (.inl ⟨rfl,rfl⟩)) fun s c σ q=>⟨q,(zh2 (fun _ _ _ _=>zsg) q).inR⟩
  · have e2:=cmd (show zd7 2 false (zdh pb 216) _ w1 from hpv)
    have hl:ws.length=2:=hlen
    exact clo (zAc x e2 hpb g.gb (zwK false) (some wp) wc ws (by omega) hsz1 hw fun {w2 fb P F} n e hn hK=>zIp (x.ext e) hK (zaD e pbc) n hn false (.inr ⟨rfl,rfl⟩)) fun s c σ q=>⟨q,(zh2 (fun _ _ _ _=>zsg) q).inR⟩
  · have e2:=cmd (show zd7 2 false (zdh pb 217) _ w1 from hpv)
    have hl:ws.length=2:=hlen
    exact clo (zAc x e2 hpb g.gb zF2 (some wp) wc ws (by omega) hsz1 hw fun {w2 fb P F} n e hn hK=>zF6 (x.ext e) hK (zaD e pbc) n hn) fun s c σ q=>⟨q,(zh2 (fun _ _ _ _=>zAM) q).inR⟩
  · have e2:=cmd (show zd7 2 false (znE pb) _ w1 from hpv)
    have hl:ws.length=2:=hlen
    exact clo (show_c x e2 hpb g (some wp) wc ws (by omega) hsz1 hw) fun s c σ q=>⟨q,(zyl q).inR⟩
  · exact (h55 hcm).elim
def run (l t:Int):List UInt8:=if l<t then Lib.itoa l++45::Lib.itoa t else Lib.itoa l
theorem zjN (c:UInt8) (a:List UInt8) (l:List (List UInt8)) (h:∀ y∈a::l,c∉y):zar c (ofL (Lib.join (a::l) [c]))=(a::l).map ofL:=by
  obtain ⟨h1,h2⟩:=zdA (c:=c) l a h
  unfold zar
  rw [h1,h2]
theorem zlG {s:ByteArray} {n m c e:Int} (h:zG9 s n c) (g:zG9 s m e):n=m/\c=e:=by
  rcases h with ⟨h1,h2,h3,h4,h5⟩|⟨h1,h2,h3⟩<;>rcases g with ⟨g1,g2,g3,g4,g5⟩|⟨g1,g2,g3⟩
  · exact ⟨zDq ⟨h2,h3⟩ ⟨g2,g3⟩ (zmO (h4.symm.trans g4)),by omega⟩
  · exact absurd h5 (g3 n h2 h3 h4)
  · exact absurd g5 (h3 m g2 g3 g4)
  · exact ⟨by omega,by omega⟩
theorem itoa0:Lib.itoa 0=[48]:=by rw [zdX (by omega)]; rw [Lib.decDigits]; rfl
theorem zDo:Lib.itoa 1=[49]:=by rw [zdX (by omega)]; rw [Lib.decDigits]; rfl
theorem itoa2:Lib.itoa 2=[50]:=by rw [zdX (by omega)]; rw [Lib.decDigits]; rfl
theorem numR1:zG9 ⟨#[49]⟩ 1 0:=.inl ⟨rfl,by omega,by omega,by rw [zDo]; rfl,by show (1:Nat)<=18; omega⟩
theorem zpA:zar 32 ⟨#[111,112,101,110]⟩=[⟨#[111,112,101,110]⟩]:=zjN 32 [111,112,101,110] [] (by decide)
theorem zsB:zhE ⟨#[111,112,101,110]⟩=some 7:=by kernel_rfl
theorem zzi {N Fr_:zFa} {L:List Ht} {a:ByteArray} {σ':DS} (h:doD (zqB N Fr_) ⟨#[111,112,101,110]⟩ (.shut L) a σ'):a=⟨#[111,107]⟩/\σ'=.opn (zkG L zBK):=by
  obtain ⟨c,s,h,rfl⟩:=h
  rw [zpA] at h
  unfold doW at h
  have e:([(⟨#[111,112,101,110]⟩:ByteArray)]).getD 0 ⟨#[]⟩=⟨#[111,112,101,110]⟩:=rfl
  rw [e,zsB] at h
  have h':zx4 (.shut L) c s σ':=h
  obtain ⟨rfl,rfl,h3⟩:=h'
  exact ⟨rfl,h3⟩
theorem zrO (N Fr_:zFa):zoR (zqB N Fr_) ⟨#[111,112,101,110]⟩:=zmw N Fr_ _ (by rw [zpA]; intro h; exact absurd (zsB.symm.trans h) (by decide)) (by rw [zpA]; intro h; exact absurd (zsB.symm.trans h) (by decide))
theorem zuu {N Fr_:zFa} {line:ByteArray} {ws:List ByteArray} {σ:DS} {a:ByteArray} {σ':DS} {b:Nat} (hp:zar 32 line=ws) (hc:zhE (ws.getD 0 ⟨#[]⟩)=some b) (hl:ws.length=(sig b).1) (hf:(sig b).2=true->σ.isShut=false) (h:doD (zqB N Fr_) line σ a σ') :
    ∃ c s,zqB N Fr_ b ws σ c s σ'/\a=zAI c s:=by
  obtain ⟨c,s,h,rfl⟩:=h
  rw [hp] at h
  unfold doW at h
  rw [hc] at h
  simp only [] at h
  rw [if_neg (by omega),if_neg (fun q=>by rw [hf q.1] at q; exact absurd q.2 (by decide))] at h
  exact ⟨c,s,h,rfl⟩
theorem zlg {N Fr_:zFa} {line:ByteArray} {ws:List ByteArray} {b:Nat} (hp:zar 32 line=ws) (hc:zhE (ws.getD 0 ⟨#[]⟩)=some b) (h1:b≠11) (h2:b≠55):zoR (zqB N Fr_) line :=
  zmw N Fr_ _ (by rw [hp,hc]; intro h; injection h with h; exact h1 h) (by rw [hp,hc]; intro h; injection h with h; exact h2 h)
def nd1:Nd:=⟨1,0,0⟩
def nd2:Nd:=⟨2,0,0⟩
def bA:ByteArray:=⟨#[97]⟩
def hostA:Ht:=zoA bA [] nd2
def jobA:Jb:=⟨⟨#[97,110,110]⟩,0,nd1,.mk 3 zBJ ⟨#[]⟩ 1 [],[]⟩
def zGy:Fm:=zkG [hostA] zBK
def zqO:Fm:=zoL zGy jobA
def zxh:Fm:=zfQ zqO 0 0
def zuC:Fm:=zgP zxh 0 true
theorem text2:zbq nd2=[99,112,117,61,50]:=by
  have h:pcs nd2 3=[[99,112,117,61,50]]:=by
    show [zgF nd2 0]=_
    unfold zgF
    show [_++61::Lib.itoa 2]=_
    rw [itoa2]; rfl
  unfold zbq
  rw [if_neg (by rw [h]; simp),h]; rfl
theorem text1:zbq nd1=[99,112,117,61,49]:=by
  have h:pcs nd1 3=[[99,112,117,61,49]]:=by
    show [zgF nd1 0]=_
    unfold zgF
    show [_++61::Lib.itoa 1]=_
    rw [zDo]; rfl
  unfold zbq
  rw [if_neg (by rw [h]; simp),h]; rfl
theorem okn1:okN nd1:=by unfold okN nd1; decide
theorem okn2:okN nd2:=by unfold okN nd2; decide
def wHost:List ByteArray:=[⟨#[104,111,115,116]⟩,⟨#[97]⟩,⟨#[99,112,117,61,50]⟩,⟨#[45]⟩]
theorem zu5:zar 32 ⟨#[104,111,115,116,32,97,32,99,112,117,61,50,32,45]⟩=wHost:=zjN 32 [104,111,115,116] [[97],[99,112,117,61,50],[45]] (by decide)
theorem zzc:zhE (wHost.getD 0 ⟨#[]⟩)=some 3:=by kernel_rfl
def zLK:List ByteArray:=[⟨#[115,117,98,109,105,116]⟩,⟨#[97,110,110]⟩,⟨#[48]⟩,⟨#[99,112,117,61,49]⟩,⟨#[45]⟩,⟨#[99,112,117,62,61,49]⟩]
theorem zzN:zar 32 ⟨#[115,117,98,109,105,116,32,97,110,110,32,48,32,99,112,117,61,49,32,45,32,99,112,117,62,61,49]⟩=zLK:=zjN 32 [115,117,98,109,105,116] [[97,110,110],[48],[99,112,117,61,49],[45],[99,112,117,62,61,49]] (by decide)
theorem zCF:zhE (zLK.getD 0 ⟨#[]⟩)=some 15:=by kernel_rfl
def wPlan:List ByteArray:=[⟨#[112,108,97,110]⟩]
theorem zu6:zar 32 ⟨#[112,108,97,110]⟩=wPlan:=zjN 32 [112,108,97,110] [] (by decide)
theorem zzd:zhE (wPlan.getD 0 ⟨#[]⟩)=some 26:=by kernel_rfl
def wGood:List ByteArray:=[⟨#[103,111,111,100]⟩,⟨#[49]⟩]
theorem zu4:zar 32 ⟨#[103,111,111,100,32,49]⟩=wGood:=zjN 32 [103,111,111,100] [[49]] (by decide)
theorem zzb:zhE (wGood.getD 0 ⟨#[]⟩)=some 33:=by kernel_rfl
def wShow:List ByteArray:=[⟨#[115,104,111,119]⟩,⟨#[49]⟩]
theorem zu7:zar 32 ⟨#[115,104,111,119,32,49]⟩=wShow:=zjN 32 [115,104,111,119] [[49]] (by decide)
theorem zze:zhE (wShow.getD 0 ⟨#[]⟩)=some 51:=by kernel_rfl
section
variable {N Fr_:zFa} {a:ByteArray} {σ':DS}
theorem zJR (h:doD (zqB N Fr_) ⟨#[104,111,115,116,32,97,32,99,112,117,61,50,32,45]⟩ (.shut []) a σ'):a=⟨#[111,107]⟩/\σ'=.shut [hostA]:=by
  obtain ⟨c,s,hq,rfl⟩:=zuu zu5 zzc rfl (fun h=>by cases h) h
  have h':zxw ⟨#[97]⟩ ⟨#[99,112,117,61,50]⟩ ⟨#[45]⟩ (.shut []) c s σ':=hq
  obtain ⟨nd,e,hr,h'⟩:=h'
  obtain ⟨q1,q2⟩:=(hr.2.2.1 nd2 okn2.pos (by rw [text2]; rfl)).1 okn2
  subst q1; subst q2
  rcases h' with ⟨h,_⟩|⟨_,h'⟩
  · exact absurd rfl h
  have hl:zFs ⟨#[45]⟩=some []:=by unfold zFs; rw [if_pos rfl]
  rw [hl] at h'
  have h2:c=zlo ([]++[zoA ⟨#[97]⟩ [] nd2])/\((c≠0/\σ'=.shut [])\/(c=0/\s=⟨#[111,107]⟩/\σ'=.shut ([]++[zoA ⟨#[97]⟩ [] nd2]))):=h'
  have hz:zlo ([]++[zoA ⟨#[97]⟩ [] nd2])=0:=by kernel_rfl
  obtain ⟨hc,h3⟩:=h2
  rw [hz] at hc
  rcases h3 with ⟨h,_⟩|⟨_,h4,h5⟩
  · exact absurd hc h
  · rw [hc,h4]; exact ⟨rfl,h5⟩
theorem zy3:txt (.mk 3 zBJ ⟨#[]⟩ 1 [])=[99,112,117,62,61,49]:=by
  unfold txt
  simp [zDo,zBJ]
theorem zDs:okJ jobA:=⟨by kernel_rfl,by show -1000<=(0:Int)/\(0:Int)<=1000; omega,okn1,by kernel_rfl,by show (0:Nat)<=8; omega,by show upA 0 []; trivial⟩
theorem zDt:ofL (jtx jobA)=zoe zLK 1:=by
  unfold jtx jps
  show ofL (Lib.join [[97,110,110],Lib.itoa 0,zbq nd1,[45],txt (.mk 3 zBJ ⟨#[]⟩ 1 [])] [32])=_
  rw [itoa0,text1,zy3]; rfl
theorem do_sub (h:doD (zqB N Fr_) ⟨#[115,117,98,109,105,116,32,97,110,110,32,48,32,99,112,117,61,49,32,45,32,99,112,117,62,61,49]⟩ (.opn zGy) a σ'):a=⟨#[49]⟩/\σ'=.opn zqO:=by
  obtain ⟨c,s,hq,rfl⟩:=zuu zzN zCF rfl (fun h=>rfl) h
  have h':zjm (zoe zLK 1) (.opn zGy) c s σ':=hq
  obtain ⟨e,j,hr,h'⟩:=h'
  have hJ:JT (zoe zLK 1) jobA:=⟨zDs,by show nod (.mk 3 zBJ ⟨#[]⟩ 1 [])<=_; unfold nod zmM; omega,zDt.symm,by show (txt (.mk 3 zBJ ⟨#[]⟩ 1 [])).length<=_; rw [zy3]; decide⟩
  have hsz:(zoe zLK 1).size<=3000:=by show (20:Nat)<=3000; omega
  obtain ⟨rfl,rfl⟩:=hr.2.2.2 jobA hJ hsz
  rcases h' with ⟨h,_⟩|⟨_,hS,h'⟩
  · exact absurd rfl h
  have hc:c=0:=by
    rcases hS with ⟨h,_⟩|⟨_,⟨h,_⟩|⟨_,⟨⟨y,hy,_⟩,_⟩|⟨_,⟨⟨y,hy,_⟩,_⟩|⟨_,h⟩⟩⟩⟩
    · exact absurd (zi2.2 zDs) h
    · exact absurd h (by decide)
    · cases hy
    · cases hy
    · exact h
  rcases h' with ⟨h,_⟩|⟨_,h4,h5⟩
  · exact absurd hc h
  · have:(((zGy.jobs.length:Nat):Int)+1)=1:=rfl
    rw [hc,h4,this,zDo]; exact ⟨rfl,h5⟩
theorem plan1:zdc zqO zxh [(1,0)]:=by
  have hr:rdy zqO=[1]:=by kernel_rfl
  refine ⟨[1],⟨by rw [hr],by simp⟩,?_⟩
  refine zqz.run (k:=0) ?_ (zqz.nil _)
  have hf:zbZ zqO.hosts (zac zqO ((1:Int)-1).toNat).job.ask (zac zqO ((1:Int)-1).toNat).job.nd zqO.hosts.length=[0]:=by kernel_rfl
  unfold zf2
  rw [hf]
  refine ⟨by simp,fun j hj=>?_⟩
  simp at hj; subst hj
  exact ⟨of_decide_eq_true (by kernel_rfl),fun h=>by omega⟩
theorem zJS (h:doD (zqB N Fr_) ⟨#[112,108,97,110]⟩ (.opn zqO) a σ'):a=⟨#[49,64,97]⟩/\σ'=.opn zxh:=by
  obtain ⟨c,s,hq,rfl⟩:=zuu zu6 zzd rfl (fun h=>rfl) h
  have h':zx7 (.opn zqO) c s σ':=hq
  obtain ⟨rfl,G,outs,hp,rfl,rfl⟩:=h'
  obtain ⟨rfl,rfl⟩:=zkQ hp plan1
  refine ⟨?_,rfl⟩
  unfold zAI zEI zit
  rw [if_pos rfl]
  show ofL (Lib.join [Lib.itoa 1++64::[97]] [32])=_
  rw [zDo]; rfl
theorem zJQ (h:doD (zqB N Fr_) ⟨#[103,111,111,100,32,49]⟩ (.opn zxh) a σ'):a=⟨#[111,107]⟩/\σ'=.opn zuC:=by
  obtain ⟨c,s,hq,rfl⟩:=zuu zu4 zzb rfl (fun h=>by cases h) h
  have h':zrg (zwK true) ⟨#[49]⟩ (.opn zxh) s c σ':=hq
  obtain ⟨n,c1,hn,h'⟩:=h'
  obtain ⟨rfl,rfl⟩:=zlG hn numR1
  rcases h' with ⟨h,_⟩|⟨_,rfl,h'⟩
  · exact absurd rfl h
  have h2:zwK true zxh 1 c σ':=h'
  have hcr:zCy zxh 1:=⟨⟨by omega,by show (1:Int)<=((1:Nat):Int); omega⟩,by kernel_rfl⟩
  rcases h2 with ⟨_,_,h,_⟩|⟨h3,_,h4⟩
  · exact absurd hcr h
  · rw [h3]; exact ⟨rfl,h4⟩
theorem zJT (h:doD (zqB N Fr_) ⟨#[115,104,111,119,32,49]⟩ (.opn zuC) a σ'):a=⟨#[100,111,110,101]⟩:=by
  obtain ⟨c,s,hq,rfl⟩:=zuu zu7 zze rfl (fun h=>by cases h) h
  have h':zEz ⟨#[49]⟩ (.opn zuC) c s σ':=hq
  obtain ⟨_,n,c1,hn,h'⟩:=h'
  obtain ⟨rfl,rfl⟩:=zlG hn numR1
  rcases h' with ⟨h,_⟩|⟨_,h'⟩
  · exact absurd rfl h
  have h2:(inJ zuC 1/\c=0/\s=zwe.getD (zac zuC ((1:Int)-1).toNat).what.toNat ⟨#[]⟩)\/(¬ inJ zuC 1/\c=5):=h'
  have hin:inJ zuC 1:=⟨by omega,of_decide_eq_true (by kernel_rfl)⟩
  rcases h2 with ⟨_,h3,h4⟩|⟨h,_⟩
  · have hw:(zac zuC ((1:Int)-1).toNat).what=3:=by kernel_rfl
    rw [h3,h4,hw]; rfl
  · exact absurd hin h
end
theorem zc5.inv {R:zFb} {ls:List ByteArray} {l:ByteArray} {σ σ':DS} {us:List ByteArray} (h:zc5 R (ls++[l]) σ us σ'):∃ us' σ1 a,us=us'++[a]/\zc5 R ls σ us' σ1/\doD R l σ1 a σ':=by
  generalize hX:ls++[l]=X at h
  cases h with
  |nil => simp at hX
  |@snoc ls' l' _ σ1 _ us' a hp hd =>
    obtain ⟨rfl,h2⟩:=List.append_inj' hX rfl
    injection h2 with h2
    subst h2
    exact ⟨us',σ1,a,rfl,hp,hd⟩
theorem zc5.inv0 {R:zFb} {σ σ':DS} {us:List ByteArray} (h:zc5 R [] σ us σ'):us=[]/\σ'=σ:=by
  generalize hX:([]:List ByteArray)=X at h
  cases h with
  |nil => exact ⟨rfl,rfl⟩
  |snoc => simp at hX
theorem zyQ (p q:Option Addr) (c d:Nat) (A B:List ByteArray) (h63:(A.length:Int)<=9223372036854775806) (w:World) (hA:zav w p (A.map Value.string)) (hB:zav w q (B.map Value.string)) :
    FnP Tryz.prog zax #[.slice p A.length c,.slice q B.length d] w fun v w'=>Ext w w'/\v=.bool (decide (A=B)):=by
  refine zeZ p A.length c q B.length d w _ ⟨fun hne w0 h0=>⟨h0,?_⟩,fun heq=>?_⟩
  · rw [decide_eq_false]
    intro h; exact hne (by rw [h])
  refine ⟨fun k w'=>w'=w/\0<=k/\k<=A.length/\A.take k.toNat=B.take k.toNat,fun k _=>(A.length-k).toNat,⟨rfl,by omega,by omega,by simp⟩,?_⟩
  rintro k w2 ⟨rfl,hk0,hk1,ht⟩
  refine ⟨fun hlt=>?_,fun hge w3 h3=>⟨h3,?_⟩⟩
  · obtain ⟨x,hx⟩:∃ x,A[k.toNat]?=some x:=⟨_,List.getElem?_eq_getElem (by omega)⟩
    obtain ⟨y,hy⟩:∃ y,B[k.toNat]?=some y:=⟨_,List.getElem?_eq_getElem (by omega)⟩
    have c1:Go.Sx.cell w2 (pIdx p k 1) 0=some (.string x):=by
      rw [zae]; exact hA _ _ (by simp [hx])
    have c2:Go.Sx.cell w2 (pIdx q k 1) 0=some (.string y):=by
      rw [zae]; exact hB _ _ (by simp [hy])
    refine ⟨fun h=>zai c1 (zah.2 h),hk0,hlt,x,c1,fun h=>zai c2 (zah.2 h),hk0,by omega,y,c2,fun hne w5 h5=>⟨h5,?_⟩,fun he=>⟨i64 (by omega),⟨rfl,by omega,by omega,?_⟩,by simp only []; omega⟩⟩
    · rw [decide_eq_false]
      intro h; rw [h,hy] at hx; injection hx with hx; exact hne hx.symm
    · rw [show (k+1).toNat=k.toNat+1 by omega,List.take_add_one,List.take_add_one,ht,hx,hy,he]
  · rw [decide_eq_true]
    rw [List.take_of_length_le (by omega),List.take_of_length_le (by omega)] at ht
    exact ht
def zfO:List ByteArray:=[⟨#[104,111,115,116,32,97,32,99,112,117,61,50,32,45]⟩,⟨#[111,112,101,110]⟩,⟨#[115,117,98,109,105,116,32,97,110,110,32,48,32,99,112,117,61,49,32,45,32,99,112,117,62,61,49]⟩,⟨#[112,108,97,110]⟩,⟨#[103,111,111,100,32,49]⟩,⟨#[115,104,111,119,32,49]⟩]
def zLJ:List ByteArray:=[⟨#[111,107]⟩,⟨#[111,107]⟩,⟨#[49]⟩,⟨#[49,64,97]⟩,⟨#[111,107]⟩,⟨#[100,111,110,101]⟩]
theorem wPlays {N Fr_:zFa} {us:List ByteArray} {σ:DS} (h:zc5 (zqB N Fr_) zfO (.shut []) us σ):us=zLJ:=by
  obtain ⟨u5,σ5,a6,rfl,h,d6⟩:=zc5.inv (ls:=zfO.take 5) h
  obtain ⟨u4,σ4,a5,rfl,h,d5⟩:=zc5.inv (ls:=zfO.take 4) h
  obtain ⟨u3,σ3,a4,rfl,h,d4⟩:=zc5.inv (ls:=zfO.take 3) h
  obtain ⟨u2,σ2,a3,rfl,h,d3⟩:=zc5.inv (ls:=zfO.take 2) h
  obtain ⟨u1,σ1,a2,rfl,h,d2⟩:=zc5.inv (ls:=zfO.take 1) h
  obtain ⟨u0,σ0,a1,rfl,h,d1⟩:=zc5.inv (ls:=[]) h
  obtain ⟨rfl,rfl⟩:=h.inv0
  obtain ⟨rfl,rfl⟩:=zJR d1
  obtain ⟨rfl,rfl⟩:=zzi d2
  obtain ⟨rfl,rfl⟩:=do_sub d3
  obtain ⟨rfl,rfl⟩:=zJS d4
  obtain ⟨rfl,rfl⟩:=zJQ d5
  obtain rfl:=zJT d6
  rfl
theorem wCalls (N Fr_:zFa):∀ x∈zfO,zoR (zqB N Fr_) x:=by
  intro x hx
  simp only [zfO,List.mem_cons,List.not_mem_nil,or_false] at hx
  rcases hx with rfl|rfl|rfl|rfl|rfl|rfl
  · exact zlg zu5 zzc (by decide) (by decide)
  · exact zrO N Fr_
  · exact zlg zzN zCF (by decide) (by decide)
  · exact zlg zu6 zzd (by decide) (by decide)
  · exact zlg zu4 zzb (by decide) (by decide)
  · exact zlg zu7 zze (by decide) (by decide)
theorem ztQ (w:World) (g:GD w) (h6:11<=w.heap.size):FnP Tryz.prog zas #[] w fun v w'=>Ext w w'/\v=.bool true:=by
  refine zje w _ fun w0 x0=>zcE zbX (zfO.map Value.string) rfl rfl (fun u hu=>by obtain ⟨x,_,rfl⟩:=List.mem_map.1 hu; rfl) (by omega) (by omega) fun w1 o1 e1=>⟨e1,_,_,_,rfl,fun w5 x5=>?_⟩
  have c1:=((o1 w0.heap.size (Nat.le_refl _)).ext x5).cells
  have hfl:((zfO.map Value.string).flatMap fun v=>v.cells.toList)=zfO.map Value.string:=rfl
  rw [hfl] at c1
  have hx:=(x0.trans e1).trans x5
  have hl:zfO.length=6:=rfl
  refine (zBZ (zqB (fun _ _ _ _ _=>False) (fun _ _ _ _ _=>False)) zfO _ 6 w5 (g.ext hx) (Nat.le_trans h6 hx.size) c1 (by rw [hl]; omega) (fun x hx=>?_) (wCalls _ _)).mono fun v w6 ⟨e6,hor⟩=>?_
  · simp only [zfO,List.mem_cons,List.not_mem_nil,or_false] at hx
    rcases hx with rfl|rfl|rfl|rfl|rfl|rfl<;>decide
  rcases hor with ⟨h,_⟩|⟨_,us,σ,q,d,hv,hp,oU⟩
  · exact absurd h (by decide)
  obtain rfl:=wPlays hp
  refine ⟨q,zfO.length,d,0,hv,fun _ w11 x11=>zcE zbX (zLJ.map Value.string) rfl rfl (fun u hu=>by obtain ⟨x,_,rfl⟩:=List.mem_map.1 hu; rfl) (by omega) (by omega) fun w12 o12 e12=>⟨e12,_,_,_,rfl,fun w16 x16=>?_⟩,fun h=>absurd rfl h⟩
  have c12:=((o12 w11.heap.size (Nat.le_refl _)).ext x16).cells
  have hfl2:((zLJ.map Value.string).flatMap fun v=>v.cells.toList)=zLJ.map Value.string:=rfl
  rw [hfl2] at c12
  refine (zyQ q _ d 6 zLJ zLJ (by show ((6:Nat):Int)<=_; omega) w16 (((oU.ext x11).ext e12).ext x16).cells c12).mono fun v w17 ⟨e17,hv⟩=>⟨e17,_,hv,fun w19 x19=>⟨?_,by simp⟩⟩
  exact ((((hx.trans e6).trans x11).trans e12).trans x19)
theorem zfG (p:Option Addr) (c:Nat):pCut p c 0 1=p:=by
  unfold pCut
  split
  · rfl
  · cases p<;>simp [add_zero]
theorem zxs {w:World} (g:GD w):11<=w.heap.size:=by
  have h:=g.gc.2 0 (by omega)
  obtain ⟨a,ha,hb,_⟩:=zdT h
  obtain rfl:=Option.some.inj ha
  exact hb
end Go.Proofs.YtcceeahmcecbnaaGreatDoor
namespace Go.Proofs.YtcceeahmcecbnaaGreatDoor
open Go.Sx Go.RowKit Go.ChangeShapes Go.WideShapes Go.ChangeAt
def zym (ss:List ByteArray):DataW Unit:=.agg (ss.map fun s=>.lit (.string s.data.toList))
theorem zsA {enc:TypeId×Value->Unit} {P:Program} {w:World} {base:Nat} {sp:Nat->Bool} {held:Bool} {fuel:Nat} {t e:TypeId} {n:Nat} {cs:List Value} {ss:List ByteArray} {p:List MemPlace}
    (ht:P.underlying t=some (.array n e)) (he:P.underlying e=some .string) (hce:P.cellsOf e=1) (hct:P.cellsOf t=n)
    (h:DataW.trod enc P w base sp held fuel t cs=some (zym ss,p)):cs=ss.map Value.string:=by
  cases fuel with
  |zero => simp [DataW.trod] at h
  |succ fuel =>
    simp only [DataW.trod,ht,hce,hct,Nat.mul_one] at h
    split at h
    · rename_i hl
      obtain ⟨xs,hm,hx⟩:=Option.map_eq_some_iff.1 h
      have hxs:xs.map (·.1)=ss.map fun s=>(DataW.lit (.string s.data.toList):DataW Unit):=by
        have:=congrArg Prod.fst hx
        simpa [zym] using this
      have hxl:xs.length=n:=by simpa using Lib.mapM_length hm
      have hzl:ss.length=n:=by
        have:=congrArg List.length hxs
        simp at this
        omega
      apply List.ext_getElem?
      intro i
      by_cases hi:i<n
      · obtain ⟨b,hb,hf⟩:=Lib.mapM_at hm i i (by simp [hi])
        obtain ⟨s,hc,rfl,_⟩:=DataW.trod_string he hf
        have h1:cs[i]?=some (.string s):=by
          have:=congrArg (·[0]?) hc
          simpa [List.getElem?_take,List.getElem?_drop] using this
        have h2:(xs.map (·.1))[i]?=some (DataW.lit (.string s.data.toList):DataW Unit):=by simp [hb]
        rw [hxs] at h2
        simp only [List.getElem?_map,Option.map_eq_some_iff,DataW.lit.injEq,Lit.string.injEq] at h2
        obtain ⟨z',hz',he'⟩:=h2
        have:z'=s:=by
          have:=congrArg ofL he'
          rwa [zb9,zb9] at this
        subst this
        simp [h1,hz']
      · rw [List.getElem?_eq_none (by omega),List.getElem?_eq_none (by simp; omega)]
    · cases h
theorem zA6 {P:Program} {W:World} {l:List (String×DataW Unit)} (h:laidMet P l W) (hp:(l.all fun x=>x.2.handleName?.isNone)=true):laidMetH P l W:=by
  have hnone:(l.filter fun x=>x.2.handleName?.isSome)=[]:=by
    rw [List.filter_eq_nil_iff]
    intro a ha hs
    have:=List.all_eq_true.1 hp a ha
    cases hh:a.2.handleName?<;>simp_all
  unfold laidMetH
  rw [hnone]
  exact h
theorem zDx {P:Program} {W:World} {l:List (String×DataW Unit)} (h:laidMet P l W) {name:String} {ss:List ByteArray}
    (hm:(name,zym ss)∈l) {g:Nat} {t e:TypeId} {n:Nat} (hg:P.globalNamed name=some g) (hty:(P.globals[g]?).map (·.type)=some t)
    (ht:P.underlying t=some (.array n e)) (he:P.underlying e=some .string) (hce:P.cellsOf e=1) (hct:P.cellsOf t=n):zav W (some ⟨g,0,none⟩) (ss.map Value.string):=by
  obtain ⟨ps,hL,_⟩:=h
  obtain ⟨g',t',cs,fuel,p,h1,h2,h3,h4⟩:=zeI hL _ hm
  obtain rfl:=Option.some.inj (hg.symm.trans h1)
  obtain rfl:=Option.some.inj (hty.symm.trans h2)
  have hcs:=zsA ht he hce hct h4
  intro i v hv
  have h5:=World.var?_cell hg h3 i
  have hlen:cs[i]?=some v:=by
    have:cs.toList[i]?=some v:=by rw [hcs]; exact hv
    simpa using this
  rw [hlen] at h5
  have ha:(Addr.add ⟨g,0,none⟩ i)=⟨g,i,none⟩:=by
    unfold Addr.add
    by_cases h0:i=0
    · subst h0; rfl
    · rw [if_neg h0]; simp
  show W.cell? (Addr.add ⟨g,0,none⟩ i)=some v
  rw [ha]; exact h5
theorem zwa {P:Program} {W:World} {name:String} {zs:List Int} {k:IntKind} (h:Lib.TabIs P W name k zs) {g:Nat} (hg:P.globalNamed name=some g):zav W (some ⟨g,0,none⟩) (zs.map fun z=>Value.int k z):=by
  intro i v hv
  have h5:=World.var?_cell hg h i
  have hlen:((zs.map fun z=>Value.int k z).toArray)[i]?=some v:=by simpa using hv
  rw [hlen] at h5
  have ha:(Addr.add ⟨g,0,none⟩ i)=⟨g,i,none⟩:=by
    unfold Addr.add
    by_cases h0:i=0
    · subst h0; rfl
    · rw [if_neg h0]; simp
  show W.cell? (Addr.add ⟨g,0,none⟩ i)=some v
  rw [ha]; exact h5
def lD : List (String × DataW Unit) := [("math/bits.deBruijn32tab", Rows.laid_math_bits_deBruijn32tab), ("math/bits.deBruijn64tab", Rows.laid_math_bits_deBruijn64tab), ("internal/strconv.uint64pow10", Rows.laid_internal_strconv_uint64pow10), ("shiftbell/civil.ahead", Rows.laid_shiftbell_civil_ahead), ("unicode/utf8.acceptRanges", Rows.laid_unicode_utf8_acceptRanges), ("errors.errorType", Rows.laid_errors_errorType), ("strconv.ErrRange", Rows.laid_strconv_ErrRange), ("strconv.ErrSyntax", Rows.laid_strconv_ErrSyntax), ("shiftbell/desk.whats", Rows.laid_shiftbell_desk_whats), ("unicode/utf8.first", Rows.laid_unicode_utf8_first)]
def lD9 : List (String × DataW Unit) := [("math/bits.deBruijn32tab", Rows.laid_math_bits_deBruijn32tab), ("math/bits.deBruijn64tab", Rows.laid_math_bits_deBruijn64tab), ("internal/strconv.uint64pow10", Rows.laid_internal_strconv_uint64pow10), ("shiftbell/civil.ahead", Rows.laid_shiftbell_civil_ahead), ("unicode/utf8.acceptRanges", Rows.laid_unicode_utf8_acceptRanges), ("strconv.ErrRange", Rows.laid_strconv_ErrRange), ("strconv.ErrSyntax", Rows.laid_strconv_ErrSyntax), ("shiftbell/desk.whats", Rows.laid_shiftbell_desk_whats), ("unicode/utf8.first", Rows.laid_unicode_utf8_first)]
theorem zGX {W : World} (h : laidMetH Tryz.prog lD W) : laidMet Tryz.prog lD9 W /\ handlesMet Tryz.prog [("errors.errorType", Rows.laid_errors_errorType)] W := by
  have e1 : (lD.filter fun x => x.2.handleName?.isSome) = [("errors.errorType", Rows.laid_errors_errorType)] := by kernel_rfl
  have e2:(lD.filter fun x=>x.2.handleName?.isNone)=lD9:=by kernel_rfl
  unfold laidMetH at h
  rw [e1,e2] at h
  exact h
theorem zJ6 {W : World} (h : handlesMet Tryz.prog [("errors.errorType", Rows.laid_errors_errorType)] W) : Go.Sx.cell W (some ⟨0, 0, none⟩) 0 = some errT := by
  obtain ⟨name,u,ty,e1,e2,e3,e4,e5⟩:=h _ (List.mem_singleton.2 rfl)
  have en:name=[101,114,114,111,114]:=(Option.some.inj e1).symm
  subst en
  have hrt : (Tryz.prog.cutTypes.find? (·.1 == "internal/reflectlite.rtype")).map (·.2) = some 329 := by kernel_rfl
  obtain rfl:=Option.some.inj (hrt.symm.trans e2)
  have hsz:Tryz.prog.types.size=439:=by kernel_rfl
  have hone:((List.range 439).filter fun t=>Tryz.prog.rowNamed t [101,114,114,111,114])=[175]:=by kernel_rfl
  have hm:ty∈(List.range 439).filter fun t=>Tryz.prog.rowNamed t [101,114,114,111,114]:=List.mem_filter.2 ⟨List.mem_range.2 (by rw [<- hsz]; exact e3),e4⟩
  rw [hone] at hm
  obtain rfl:=List.mem_singleton.1 hm
  have hh:typeHandle Tryz.prog 175=.pointer (some ⟨11,175,none⟩):=by kernel_rfl
  rw [hh] at e5
  have et : Tryz.prog.globalNamed "errors.errorType" = some 0 := by kernel_rfl
  have:=World.var?_cell et e5 0
  exact zgv (this.trans (by unfold errT; rfl))
theorem laid_okD {W:World} (h:laidMetH Tryz.prog lD W) (hsp:W.ShapedOpen Tryz.prog):GD W:=by
  obtain ⟨h9,hh⟩:=zGX h
  have hp:(lD9.all fun x=>x.2.handleName?.isNone)=true:=by kernel_rfl
  have h9':=zA6 h9 hp
  refine ⟨gb_of h9' hsp hp (by simp [lD9]) (by simp [lD9]) (by simp [lD9]),?_,zJ6 hh,?_,?_⟩
  · have hm : ("shiftbell/desk.whats", (Rows.laid_shiftbell_desk_whats : DataW Unit)) ∈ lD9 := by simp [lD9]
    exact zDx h9 (name := "shiftbell/desk.whats") (ss := zwe) (by exact hm) (g := 4) (t := (Tryz.prog.globals[4]?).elim 0 (·.type)) (e := 9) (n := 6) (by kernel_rfl) (by kernel_rfl) (by kernel_rfl) (by kernel_rfl) (by kernel_rfl) (by kernel_rfl)
  · have hm : ("math/bits.deBruijn64tab", (Rows.laid_math_bits_deBruijn64tab : DataW Unit)) ∈ lD9 := by simp [lD9]
    have ht := zwa (zs1 h9' hp (name := "math/bits.deBruijn64tab") (k := .u8) (zs := Lib.deBruijn64tab.map Int.ofNat) (by exact hm) (g := 9) (t := (Tryz.prog.globals[9]?).elim 0 (·.type)) (e := 5) (n := 64) (by kernel_rfl) (by kernel_rfl) (by kernel_rfl) (by kernel_rfl) (by kernel_rfl) (by kernel_rfl)) (g := 9) (by kernel_rfl)
    intro i hi
    refine ht i _ ?_
    have hl:i<Lib.deBruijn64tab.length:=hi
    rw [List.getElem?_map,List.getElem?_map,List.getD_eq_getElem?_getD,List.getElem?_eq_getElem hl]
    rfl
  · have hm : ("shiftbell/civil.ahead", (Rows.laid_shiftbell_civil_ahead : DataW Unit)) ∈ lD9 := by simp [lD9]
    have ht := zwa (zs1 h9' hp (name := "shiftbell/civil.ahead") (k := .i64) (zs := [0, 0, 31, 59, 90, 120, 151, 181, 212, 243, 273, 304, 334]) (by exact hm) (g := 10) (t := (Tryz.prog.globals[10]?).elim 0 (·.type)) (e := 3) (n := 13) (by kernel_rfl) (by kernel_rfl) (by kernel_rfl) (by kernel_rfl) (by kernel_rfl) (by kernel_rfl)) (g := 10) (by kernel_rfl)
    intro i hi
    refine ht i _ ?_
    match i,hi with
    |0,_|1,_|2,_|3,_|4,_|5,_|6,_|7,_|8,_|9,_|10,_|11,_|12,_ => rfl
noncomputable def preD (os:Os):World:=(World.holding Tryz.prog os ⟨#[],#[],[]⟩).setCell ⟨0,0,none⟩ errT
noncomputable def zEH (os:Os):World:=(preD os).layVars Tryz.prog lD9
theorem startD_os (os:Os):(zEH os).os=os:=World.layVars_os _ _ _
theorem door_D (os:Os) (args:Array Value):laidMetH Tryz.prog lD ((zEH os).forCall (fun _ _=>0) ⟨#[],args,[]⟩).memory:=by
  have e1 : (lD.filter fun x => x.2.handleName?.isSome) = [("errors.errorType", Rows.laid_errors_errorType)] := by kernel_rfl
  have e2:(lD.filter fun x=>x.2.handleName?.isNone)=lD9:=by kernel_rfl
  unfold laidMetH
  rw [e1,e2]
  refine ⟨?_,?_⟩
  · have a1:(lD9.filter fun x=>(lD9.map (·.1)).contains x.1)=lD9:=List.filter_eq_self.2 fun x hx=>List.contains_iff_mem.2 (List.mem_map.2 ⟨x,hx,rfl⟩)
    have a2:(lD9.filter fun x=>!(lD9.map (·.1)).contains x.1)=[]:=List.filter_eq_nil_iff.2 fun x hx=>by rw [List.contains_iff_mem.2 (List.mem_map.2 ⟨x,hx,rfl⟩)]; simp
    have h:laidMet Tryz.prog lD9 (zEH os):=laidMet_layVars (w0:=preD os) (lD9.map (·.1)) [] (by rw [a1]; rfl) (by rw [a1]; kernel_rfl) (by rw [a1]; kernel_rfl) (by rw [a2]; exact LaidIn.none)
    exact h.of_heap (by simp [World.memory,World.forCall,Input.heap])
  · intro x hx
    obtain rfl:=List.mem_singleton.1 hx
    exact ⟨[101,114,114,111,114],329,175,rfl,by kernel_rfl,of_decide_eq_true (by kernel_rfl),by kernel_rfl,by kernel_rfl⟩
end Go.Proofs.YtcceeahmcecbnaaGreatDoor
namespace Go.Proofs.YtcceeahmcecbnaaGreatDoor
open Go.Sx Go.RowKit
abbrev zcj:FuncId:=8
abbrev zaT:FuncId:=33
abbrev za9:FuncId:=34
abbrev zho:FuncId:=35
def zhe (b4:Option Addr) (b5 b6:Nat) (b7 b8 b9 ca:Int) (j:Option Addr) (N cb:Nat) (ba:World) (ab:Value->World->Prop):Prop:=
 ∀ l:Nat,ba.heap.size<=l->∀ ac,zag [] [l] ba ac->FnP Tryz.prog zcW #[(.agg #[(.slice b4 b5 b6),(.int .i64 b7),(.int .i64 b8),(.int .i64 b9),(.int .i64 ca)])] ac fun bH I=>Ext ac I/\∃ z ad,bH=(.tuple #[(.pointer z),(.int .i64 ad)])/\∀ ae,Ext I ae->FnP Tryz.prog zas #[] ae fun bI bJ=>Ext ae bJ/\∃ af,bI=(.bool af)/\((((((af=false)\/(ad≠0))\/(z=none))\/(60<(N:Int)))->∀ ag,Ext I ag->FnP Tryz.prog zas #[] ag fun bK bL=>Ext ag bL/\∃ aK,bK=(.bool aK)/\∀ e,Ext I e->ab (.bool aK) e))/\(((((af=true)/\(ad=0))/\(z≠none))/\((N:Int)<=60))->∃ (aH:Option Addr->Nat->Nat->Int->World->Prop) (a7:Option Addr->Nat->Nat->Int->World->Nat),aH none 0 0 0 I/\∀ (v:Option Addr) (w:Nat) (x:Nat) (d:Int) (e:World),aH v w x d e->(((d<(N:Int))->j≠none/\(0:Int)<=d/\(d:Int)<(N:Int)/\(pIdx j d 15)≠none/\∃ aL,cell e (pIdx j d 15) 0=some (.int .i64 aL)/\∃ aM,cell e (pIdx j d 15) 1=some (.string aM)/\∃ f,cell e (pIdx j d 15) 2=some (.int .i64 f)/\∃ aN,cell e (pIdx j d 15) 3=some (.int .i64 aN)/\∃ aO,cell e (pIdx j d 15) 4=some (.int .i64 aO)/\∃ aP,cell e (pIdx j d 15) 5=some (.int .i64 aP)/\∃ aQ,cell e (pIdx j d 15) 6=some (.int .i64 aQ)/\∃ aR,cell e (pIdx j d 15) 7=some (.string aR)/\∃ aS,cell e (pIdx j d 15) 8=some (.string aS)/\∃ O,cell e (pIdx j d 15) 9=some (.int .i64 O)/\∃ P aT aU,cell e (pIdx j d 15) 10=some (.slice P aT aU)/\∃ s aV aW,cell e (pIdx j d 15) 11=some (.slice s aV aW)/\∃ R,cell e (pIdx j d 15) 12=some (.int .i64 R)/\∃ m,cell e (pIdx j d 15) 13=some (.int .i64 m)/\∃ S,cell e (pIdx j d 15) 14=some (.bool S)/\∀ u:Nat,e.heap.size<=u->∀ ah,zag [] [l,u] e ah->FnP Tryz.prog zcv #[(.pointer z),(.agg #[(.int .i64 aL),(.string aM),(.int .i64 f),(.int .i64 aN),(.int .i64 aO),(.int .i64 aP),(.int .i64 aQ),(.string aR),(.string aS),(.int .i64 O),(.slice P aT aU),(.slice s aV aW),(.int .i64 R),(.int .i64 m),(.bool S)])] ah fun bM r=>zbQ [l,u] ah r/\∃ bb,bM=(.int .i64 bb)/\∀ ai,zag [] [l,u] r ai->FnP Tryz.prog zaz #[(.pointer z)] ai fun bN B=>Ext ai B/\∃ g T bc,bN=(.slice g T bc)/\∃ (J:Option Addr->Nat->Nat->Int->World->Prop) (C:Option Addr->Nat->Nat->Int->World->Nat),J v w x 0 B/\∀ (n:Option Addr) (o:Nat) (p:Nat) (a:Int) (b:World),J n o p a b->(((a<(T:Int))->g≠none/\(0:Int)<=a/\(a:Int)<(T:Int)/\(pIdx g a 16)≠none/\∃ bd,cell b (pIdx g a 16) 0=some (.string bd)/\∃ be,cell b (pIdx g a 16) 1=some (.int .i64 be)/\∃ E,cell b (pIdx g a 16) 2=some (.int .i64 E)/\∃ bf,cell b (pIdx g a 16) 3=some (.int .i64 bf)/\∃ bg,cell b (pIdx g a 16) 4=some (.int .i64 bg)/\∃ U,cell b (pIdx g a 16) 5=some (.int .i64 U)/\∃ bh,cell b (pIdx g a 16) 6=some (.string bh)/\∃ bi,cell b (pIdx g a 16) 7=some (.string bi)/\∃ bj,cell b (pIdx g a 16) 8=some (.int .i64 bj)/\∃ bk bl bm,cell b (pIdx g a 16) 9=some (.slice bk bl bm)/\∃ bn bo bp,cell b (pIdx g a 16) 10=some (.slice bn bo bp)/\∃ aj,cell b (pIdx g a 16) 11=some (.int .i64 aj)/\∃ bq,cell b (pIdx g a 16) 12=some (.int .i64 bq)/\∃ br,cell b (pIdx g a 16) 13=some (.int .i64 br)/\∃ bs,cell b (pIdx g a 16) 14=some (.int .i64 bs)/\∃ bt,cell b (pIdx g a 16) 15=some (.int .i64 bt)/\∀ V:Nat,b.heap.size<=V->(((aj=3)->∀ ak,Ext b ak->FnP Tryz.prog zaT #[(.slice n o p),(.int .i64 a)] ak fun bO bP=>Ext ak bP/\∃ al,bO=(.bool al)/\(((al=false)->∀ am,zag [] [l,u,V] b am->Run Tryz.prog (.buildSlice 48 1 [(0,(.int .i64 a))]) am fun bQ a3=>Ext am a3/\∃ aX aY aZ,bQ=(.slice aX aY aZ)/\∀ an,zag [] [l,u,V] a3 an->Run Tryz.prog (.append #[48,48] 48 [(.slice n o p),(.slice aX aY aZ)]) an fun bR aF=>zbQ [l,u,V] an aF/\∃ ao ap aq,bR=(.slice ao ap aq)/\InR .i64 (a+1)/\(J ao ap aq (a+1) aF/\C ao ap aq (a+1) aF<C n o p a b)))/\((al=true)->InR .i64 (a+1)/\(J n o p (a+1) b/\C n o p (a+1) b<C n o p a b))))/\((aj≠3)->InR .i64 (a+1)/\(J n o p (a+1) b/\C n o p (a+1) b<C n o p a b))))/\(((T:Int)<=a)->InR .i64 (d+1)/\(aH n o p (d+1) b/\a7 n o p (d+1) b<a7 v w x d e))))/\(((N:Int)<=d)->∀ ar,zag [] [l] e ar->FnP Tryz.prog zaz #[(.pointer z)] ar fun bS a4=>Ext ar a4/\∃ f F bu,bS=(.slice f F bu)/\∃ (aI:Option Addr->Nat->Nat->Int->World->Prop) (a8:Option Addr->Nat->Nat->Int->World->Nat),aI none 0 0 0 a4/\∀ (t:Option Addr) (y:Nat) (Y:Nat) (c:Int) (h:World),aI t y Y c h->(((c<(F:Int))->f≠none/\(0:Int)<=c/\(c:Int)<(F:Int)/\(pIdx f c 16)≠none/\∃ O,cell h (pIdx f c 16) 0=some (.string O)/\∃ P,cell h (pIdx f c 16) 1=some (.int .i64 P)/\∃ bv,cell h (pIdx f c 16) 2=some (.int .i64 bv)/\∃ G,cell h (pIdx f c 16) 3=some (.int .i64 G)/\∃ s,cell h (pIdx f c 16) 4=some (.int .i64 s)/\∃ au,cell h (pIdx f c 16) 5=some (.int .i64 au)/\∃ bw,cell h (pIdx f c 16) 6=some (.string bw)/\∃ R,cell h (pIdx f c 16) 7=some (.string R)/\∃ m,cell h (pIdx f c 16) 8=some (.int .i64 m)/\∃ S bx bz,cell h (pIdx f c 16) 9=some (.slice S bx bz)/\∃ av W bA,cell h (pIdx f c 16) 10=some (.slice av W bA)/\∃ bB,cell h (pIdx f c 16) 11=some (.int .i64 bB)/\∃ g,cell h (pIdx f c 16) 12=some (.int .i64 g)/\∃ H,cell h (pIdx f c 16) 13=some (.int .i64 H)/\∃ bC,cell h (pIdx f c 16) 14=some (.int .i64 bC)/\∃ bD,cell h (pIdx f c 16) 15=some (.int .i64 bD)/\∀ X:Nat,h.heap.size<=X->∃ (aJ:Option Addr->Nat->Nat->Int->World->Prop) (a9:Option Addr->Nat->Nat->Int->World->Nat),aJ t y Y 0 h/\∀ (K:Option Addr) (L:Nat) (M:Nat) (q:Int) (D:World),aJ K L M q D->(((q<(W:Int))->av≠none/\(0:Int)<=q/\(q:Int)<(W:Int)/\∃ E,cell D (pIdx av q 1) 0=some (.int .i64 E)/\InR .i64 (E-1)/\∀ aw,zag [] [l,X] D aw->Run Tryz.prog (.buildSlice 83 1 [(0,(.agg #[(.int .i64 (E-1)),(.int .i64 c)]))]) aw fun bT a5=>Ext aw a5/\∃ U a0 a1,bT=(.slice U a0 a1)/\∀ ax,zag [] [l,X] a5 ax->Run Tryz.prog (.append #[83,83] 83 [(.slice K L M),(.slice U a0 a1)]) ax fun bU aG=>zbQ [l,X] ax aG/\∃ ay az aA,bU=(.slice ay az aA)/\InR .i64 (q+1)/\(aJ ay az aA (q+1) aG/\a9 ay az aA (q+1) aG<a9 K L M q D)))/\(((W:Int)<=q)->InR .i64 (c+1)/\(aI K L M (c+1) D/\a8 K L M (c+1) D<a8 t y Y c h))))/\(((F:Int)<=c)->∃ (Z:Int->World->Prop) (aa:Int->World->Nat),Z 0 h/\∀ (k:Int) (i:World),Z k i->(((k<(y:Int))->t≠none/\(0:Int)<=k/\(k:Int)<(y:Int)/\(pIdx t k 2)≠none/\∃ G,cell i (pIdx t k 2) 0=some (.int .i64 G)/\∃ s,cell i (pIdx t k 2) 1=some (.int .i64 s)/\∀ bE:Nat,i.heap.size<=bE->∀ aB,Ext i aB->FnP Tryz.prog zaT #[(.slice v w x),(.int .i64 s)] aB fun bV bW=>Ext aB bW/\∃ m,bV=(.bool m)/\(((m=true)->∀ A,Ext i A->FnP Tryz.prog zaT #[(.slice v w x),(.int .i64 G)] A fun bX bY=>Ext A bY/\∃ aC,bX=(.bool aC)/\((aC=false)->∀ r,Ext i r->ab (.bool false) r)/\((aC=true)->∀ r,Ext i r->FnP Tryz.prog za9 #[(.slice v w x),(.int .i64 G)] r fun bZ b0=>Ext r b0/\∃ aD,bZ=(.int .i64 aD)/\∀ B,Ext i B->FnP Tryz.prog za9 #[(.slice v w x),(.int .i64 s)] B fun b1 b2=>Ext B b2/\∃ H,b1=(.int .i64 H)/\((H<aD)->∀ a2,Ext i a2->ab (.bool false) a2)/\((aD<=H)->InR .i64 (k+1)/\(Z (k+1) i/\aa (k+1) i<aa k i)))))/\((m=false)->InR .i64 (k+1)/\(Z (k+1) i/\aa (k+1) i<aa k i))))/\(((y:Int)<=k)->∀ aE,zag [] [l] i aE->FnP Tryz.prog zho #[(.int .i64 (F:Int)),(.slice t y Y)] aE fun b3 a6=>Ext aE a6/\∃ au bF bG m,b3=(.tuple #[(.slice au bF bG),(.int .i64 m)])/\∀ A,Ext a6 A->ab (.bool ((decide (m=0))||(decide (m=2)))) A))))
theorem zg5 (a:Option Addr) (b c:Nat) (d e f g:Int) (i:Option Addr) (j k:Nat) (l:World) (m:Value->World->Prop) (h:zhe a b c d e f g i j k l m):FnP Tryz.prog zcj #[(.agg #[(.slice a b c),(.int .i64 d),(.int .i64 e),(.int .i64 f),(.int .i64 g)]),(.slice i j k)] l m:=
 zab (Eq.mp (by kernel_rfl:_=Runs Tryz.prog m ({N:=143,muts:=[21,29,22,24,81,32,37,307]}:Cfg) Tryz.f8 (Tryz.f8.body.getD .skip) [.agg [.slc a b c,.int .i64 d,.int .i64 e,.int .i64 f,.int .i64 g],.sc (.slc i j k)] l) h) Tryz.func8 (by kernel_rfl) (fun a w=>Tryz.call8 a w) (by kernel_rfl) (by kernel_rfl) rfl rfl
theorem zqF (W:World) (R:Array Value->Prop) (h:∀ x_0:Option Addr,∀ x_0l:Nat,∀ x_0c:Nat,zaA Tryz.prog W 76 x_0 x_0l x_0c->∀ x_1:Int,InR .i64 x_1->∀ x_2:Int,InR .i64 x_2->∀ x_3:Int,InR .i64 x_3->∀ x_4:Int,InR .i64 x_4->∀ l:Option Addr,∀ ll:Nat,∀ lc:Nat,zaA Tryz.prog W 80 l ll lc->R #[(.agg #[(.slice x_0 x_0l x_0c),(.int .i64 x_1),(.int .i64 x_2),(.int .i64 x_3),(.int .i64 x_4)]),(.slice l ll lc)]) (args:Array Value) (hg:zcB Tryz.prog W Tryz.f8.params.toList args.toList):R args:=by
  have e_:(zeP Tryz.prog W Tryz.f8.params.toList fun l=>R l.toArray)=(∀ x_0:Option Addr,∀ x_0l:Nat,∀ x_0c:Nat,zaA Tryz.prog W 76 x_0 x_0l x_0c->∀ x_1:Int,InR .i64 x_1->∀ x_2:Int,InR .i64 x_2->∀ x_3:Int,InR .i64 x_3->∀ x_4:Int,InR .i64 x_4->∀ l:Option Addr,∀ ll:Nat,∀ lc:Nat,zaA Tryz.prog W 80 l ll lc->R #[(.agg #[(.slice x_0 x_0l x_0c),(.int .i64 x_1),(.int .i64 x_2),(.int .i64 x_3),(.int .i64 x_4)]),(.slice l ll lc)]):=by kernel_rfl
  exact zfw (by rw [e_]; exact h) args hg
abbrev zhn:FuncId:=82
def zrt (c:Int) (h:Option Addr) (g p:Nat) (k:World) (i:Value->World->Prop):Prop:=
 (((c<0)\/(60<c))->∀ d,Ext k d->i (.int .i64 1) d)/\(((0<=c)/\(c<=60))->((400<(g:Int))->∀ d,Ext k d->i (.int .i64 2) d)/\(((g:Int)<=400)->∃ (j:Int->World->Prop) (n:Int->World->Nat),j 0 k/\∀ (a:Int) (b:World),j a b->(((a<(g:Int))->h≠none/\(0:Int)<=a/\(a:Int)<(g:Int)/\(pIdx h a 2)≠none/\∃ e,cell b (pIdx h a 2) 0=some (.int .i64 e)/\∃ f,cell b (pIdx h a 2) 1=some (.int .i64 f)/\∀ o:Nat,b.heap.size<=o->(((((e<0)\/(c<=e))\/(f<0))\/(c<=f))->∀ l,Ext b l->i (.int .i64 4) l)/\(((((0<=e)/\(e<c))/\(0<=f))/\(f<c))->InR .i64 (a+1)/\(j (a+1) b/\n (a+1) b<n a b))))/\(((g:Int)<=a)->∀ m,Ext b m->i (.int .i64 0) m)))
theorem zq1 (a:Int) (b:Option Addr) (c d:Nat) (e:World) (f:Value->World->Prop) (h:zrt a b c d e f):FnP Tryz.prog zhn #[(.int .i64 a),(.slice b c d)] e f:=
 zab (Eq.mp (by kernel_rfl:_=Runs Tryz.prog f ({N:=45}:Cfg) Tryz.f82 (Tryz.f82.body.getD .skip) [.sc (.int .i64 a),.sc (.slc b c d)] e) h) Tryz.func82 (by kernel_rfl) (fun a w=>Tryz.call82 a w) (by kernel_rfl) (by kernel_rfl) rfl rfl
def zru (c:Int) (r:Option Addr) (y ah:Nat) (K:World) (z:Value->World->Prop):Prop:=
 ∀ A,Ext K A->FnP Tryz.prog zhn #[(.int .i64 c),(.slice r y ah)] A fun aa ab=>Ext A ab/\∃ s,aa=(.int .i64 s)/\((s≠0)->∀ j,Ext K j->z (.tuple #[(.slice none 0 0),(.int .i64 s)]) j)/\((s=0)->∀ j,Ext K j->Run Tryz.prog (.makeSlice 157 (.int .i64 c) (.int .i64 c)) j fun ac V=>Ext j V/\∃ h t Z,ac=(.slice h t Z)/\∃ (J:Int->World->Prop) (Y:Int->World->Nat),J 0 V/\∀ (d:Int) (g:World),J d g->(((d<(y:Int))->r≠none/\(0:Int)<=d/\(d:Int)<(y:Int)/\(pIdx r d 2)≠none/\∃ B,cell g (pIdx r d 2) 0=some (.int .i64 B)/\∃ i,cell g (pIdx r d 2) 1=some (.int .i64 i)/\∀ L:Nat,g.heap.size<=L->h≠none/\(0:Int)<=i/\(i:Int)<(t:Int)/\∃ M,cell g (pIdx h i 1) 0=some (.int .u64 M)/\0<=(B:Int)/\h≠none/\(0:Int)<=i/\(i:Int)<(t:Int)/\zao g (pIdx h i 1) [(.int .u64 (zan .or .u64 M (zan .shl .u64 1 B)))] [L] fun p=>InR .i64 (d+1)/\(J (d+1) p/\Y (d+1) p<Y d g)))/\(((y:Int)<=d)->0<=(c:Int)/\InR .u64 ((zan .shl .u64 1 c)-1)/\∃ (u:Option Addr->Nat->Nat->Int->World->Prop) (v:Option Addr->Nat->Nat->Int->World->Nat),u none 0 0 ((zan .shl .u64 1 c)-1) g/\∀ (l:Option Addr) (m:Nat) (n:Nat) (b:Int) (q:World),u l m n b q->(((b≠0)->∃ (w:Int->World->Prop) (x:Int->World->Nat),w 0 q/\∀ (a:Int) (e:World),w a e->((a<c)->0<=(a:Int))/\((a<c)->(((zan .and .u64 (zan .shr .u64 b a) 1)≠0)->h≠none))/\((a<c)->(((zan .and .u64 (zan .shr .u64 b a) 1)≠0)->(0:Int)<=a))/\((a<c)->(((zan .and .u64 (zan .shr .u64 b a) 1)≠0)->(a:Int)<(t:Int)))/\(((a<c)->((((zan .and .u64 (zan .shr .u64 b a) 1)=0)->InR .i64 (a+1)/\(w (a+1) e/\x (a+1) e<x a e)))/\(((zan .and .u64 (zan .shr .u64 b a) 1)≠0)->∃ C,cell e (pIdx h a 1) 0=some (.int .u64 C)/\((((zan .and .u64 C b)≠0)->InR .i64 (a+1)/\(w (a+1) e/\x (a+1) e<x a e)))/\(((zan .and .u64 C b)=0)->((a=c)->∀ f,Ext e f->z (.tuple #[(.slice none 0 0),(.int .i64 8)]) f)/\((a≠c)->∀ f,Ext e f->Run Tryz.prog (.buildSlice 48 1 [(0,(.int .i64 a))]) f fun ad W=>Ext f W/\∃ N O P,ad=(.slice N O P)/\∀ o,Ext W o->Run Tryz.prog (.append #[48,48] 48 [(.slice l m n),(.slice N O P)]) o fun ae X=>∃ D E F,ae=(.slice D E F)/\0<=(a:Int)/\(u D E F (zan .andNot .u64 b (zan .shl .u64 1 a)) X/\v D E F (zan .andNot .u64 b (zan .shl .u64 1 a)) X<v l m n b q))))))/\((c<=a)->((a=c)->∀ k,Ext e k->z (.tuple #[(.slice none 0 0),(.int .i64 8)]) k)/\((a≠c)->∀ k,Ext e k->Run Tryz.prog (.buildSlice 48 1 [(0,(.int .i64 a))]) k fun af f=>Ext k f/\∃ R S T,af=(.slice R S T)/\∀ U,Ext f U->Run Tryz.prog (.append #[48,48] 48 [(.slice l m n),(.slice R S T)]) U fun ag o=>∃ G H I,ag=(.slice G H I)/\0<=(a:Int)/\(u G H I (zan .andNot .u64 b (zan .shl .u64 1 a)) o/\v G H I (zan .andNot .u64 b (zan .shl .u64 1 a)) o<v l m n b q)))))/\((b=0)->∀ p,Ext q p->z (.tuple #[(.slice l m n),(.int .i64 0)]) p)))
theorem zq2 (a:Int) (b:Option Addr) (c d:Nat) (e:World) (f:Value->World->Prop) (h:zru a b c d e f):FnP Tryz.prog zho #[(.int .i64 a),(.slice b c d)] e f:=
 zab (Eq.mp (by kernel_rfl:_=Runs Tryz.prog f ({N:=76}:Cfg) Tryz.f35 (Tryz.f35.body.getD .skip) [.sc (.int .i64 a),.sc (.slc b c d)] e) h) Tryz.func35 (by kernel_rfl) (fun a w=>Tryz.call35 a w) (by kernel_rfl) (by kernel_rfl) rfl rfl
def zf1 (g:Option Addr) (h i:Nat) (j:Int) (d:World) (k:Value->World->Prop):Prop:=
 ∀ a,Ext d a->FnP Tryz.prog za9 #[(.slice g h i),(.int .i64 j)] a fun e f=>Ext a f/\∃ b,e=(.int .i64 b)/\∀ c,Ext d c->k (.bool (decide (0<=b))) c
theorem zfV (a:Option Addr) (b c:Nat) (d:Int) (e:World) (f:Value->World->Prop) (h:zf1 a b c d e f):FnP Tryz.prog zaT #[(.slice a b c),(.int .i64 d)] e f:=
 zab (Eq.mp (by kernel_rfl:_=Runs Tryz.prog f ({N:=9}:Cfg) Tryz.f33 (Tryz.f33.body.getD .skip) [.sc (.slc a b c),.sc (.int .i64 d)] e) h) Tryz.func33 (by kernel_rfl) (fun a w=>Tryz.call33 a w) (by kernel_rfl) (by kernel_rfl) rfl rfl
def zig (i:Option Addr) (e m:Nat) (j:Int) (l:World) (k:Value->World->Prop):Prop:=
 ∃ (d:Int->World->Prop) (h:Int->World->Nat),d 0 l/\∀ (a:Int) (b:World),d a b->(((a<(e:Int))->i≠none/\(0:Int)<=a/\(a:Int)<(e:Int)/\∃ c,cell b (pIdx i a 1) 0=some (.int .i64 c)/\((j=c)->∀ f,Ext b f->k (.int .i64 a) f)/\((j≠c)->InR .i64 (a+1)/\(d (a+1) b/\h (a+1) b<h a b))))/\(((e:Int)<=a)->∀ g,Ext b g->k (.int .i64 (-1)) g)
theorem zhX (a:Option Addr) (b c:Nat) (d:Int) (e:World) (f:Value->World->Prop) (h:zig a b c d e f):FnP Tryz.prog za9 #[(.slice a b c),(.int .i64 d)] e f:=
 zab (Eq.mp (by kernel_rfl:_=Runs Tryz.prog f ({N:=19}:Cfg) Tryz.f34 (Tryz.f34.body.getD .skip) [.sc (.slc a b c),.sc (.int .i64 d)] e) h) Tryz.func34 (by kernel_rfl) (fun a w=>Tryz.call34 a w) (by kernel_rfl) (by kernel_rfl) rfl rfl
structure E where
  f:Int
  t:Int
deriving Inhabited
def encE (e:E):List Value:=[.int .i64 e.f,.int .i64 e.t]
abbrev zFC (w:World) (p:Option Addr) (L:List E):Prop:=zgt 2 encE w p L
def ed (L:List E) (i:Nat):E:=L.getD i default
def zmD (n:Int) (e:E):Prop:=0<=e.f/\e.f<n/\0<=e.t/\e.t<n
def okG (n:Int) (L:List E):Prop:=0<=n/\n<=60/\L.length<=400/\∀ e∈L,zmD n e
open Classical in
noncomputable def zzq (n:Int) (L:List E):Int:=if ¬ (0<=n/\n<=60) then 1 else if 400<L.length then 2 else if (∀ e∈L,zmD n e) then 0 else 4
theorem zCZ {n:Int} {L:List E}:zzq n L=0↔okG n L:=by
  unfold zzq okG
  by_cases h1:0<=n/\n<=60
  · rw [if_neg (by simpa using h1)]
    by_cases h2:400<L.length
    · rw [if_pos h2]; constructor<;>intro h'<;>omega
    · rw [if_neg h2]
      by_cases h3:∀ e∈L,zmD n e
      · rw [if_pos h3]; exact ⟨fun _=>⟨h1.1,h1.2,by omega,h3⟩,fun _=>rfl⟩
      · rw [if_neg h3]; exact ⟨fun h'=>by omega,fun h'=>absurd h'.2.2.2 h3⟩
  · rw [if_pos h1]; constructor<;>intro h'<;>omega
theorem zsG {w:World} {p:Option Addr} {L:List E} (h:zFC w p L) {k:Int} (h0:0<=k) (hk:k<L.length) :
    p≠none/\pIdx p k 2≠none/\cell w (pIdx p k 2) 0=some (.int .i64 (ed L k.toNat).f)/\cell w (pIdx p k 2) 1=some (.int .i64 (ed L k.toNat).t):=by
  have h1:=h.idx default h0 hk (j:=0) rfl
  have h2:=h.idx default h0 hk (j:=1) rfl
  have hp:=zai h1
  exact ⟨fun he=>hp (zah.2 he),hp,h1,h2⟩
theorem zzj {L:List E} {i:Nat} (h:i<L.length):ed L i∈L:=by
  unfold ed; rw [List.getD_eq_getElem?_getD]; simp [h]
theorem zIA {L:List E} {e:E} (h:e∈L):∃ i,i<L.length/\ed L i=e:=by
  obtain ⟨i,hi⟩:=List.mem_iff_getElem?.1 h
  exact ⟨i,(List.getElem?_eq_some_iff.1 hi).1,by unfold ed; rw [List.getD_eq_getElem?_getD,hi]; rfl⟩
def Adj (L:List E) (i j:Nat):Prop:=∃ e∈L,e.f=i/\e.t=j
inductive Via (A:Nat->Nat->Prop) (K:Nat):Nat->Nat->Prop
  |edge {i j}:A i j->Via A K i j
  |mid {i k j}:Via A K i k->Via A K k j->k<K->Via A K i j
abbrev Beh (L:List E) (n:Nat) (i j:Nat):Prop:=Via (Adj L) n i j
structure zFm (n:Nat) (L:List E) (A:List Int):Prop where
  inn:∀ y∈A,∃ i:Nat,y=i/\i<n
  once:∀ i:Nat,i<n->cnt i A=1
  ahead:∀ (k:Nat) (e:E),e∈L->A[k]?=some e.t->e.f∈A.take k
theorem zs5 {A:List Int} {x:Int} {k:Nat} (h:x∈A.take k):∃ p,p<k/\A[p]?=some x:=by
  obtain ⟨p,hp⟩:=List.mem_iff_getElem?.1 h
  rw [List.getElem?_take] at hp
  split at hp
  · exact ⟨p,by assumption,hp⟩
  · cases hp
theorem zKw {n:Nat} {L:List E} (S:Nat->Prop) (hS:∀ i,S i->i<n) (hne:∃ i,S i) (hp:∀ i,S i->∃ j,S j/\Adj L j i):∃ i,i<n/\Beh L n i i:=by
  classical
  apply Classical.byContradiction
  intro hno
  have hno:∀ i,i<n->¬ Beh L n i i:=fun i hi h=>hno ⟨i,hi,h⟩
  let f:Nat->Nat->Int:=fun i y=>if S y/\Beh L n y i then 1 else 0
  have key:∀ m:Nat,∀ i,S i->zdH n (f i)<=m->False:=by
    intro m
    induction m with
    |zero =>
      intro i hi hle
      obtain ⟨j,hj,hA⟩:=hp i hi
      have h1:f i j=1:=if_pos ⟨hj,.edge hA⟩
      have:zdH n (fun _=>0)<zdH n (f i):=zyq (hS j hj) (fun y _=>by show (0:Int)<=if _ then _ else _; split<;>omega) (by rw [h1]; omega)
      rw [zjn] at this
      simp at hle; omega
    |succ m ih =>
      intro i hi hle
      obtain ⟨j,hj,hA⟩:=hp i hi
      refine ih j hj ?_
      have hlt:zdH n (f j)<zdH n (f i):=by
        refine zyq (hS j hj) (fun y _=>?_) ?_
        · show (if S y/\Beh L n y j then (1:Int) else 0)<=if S y/\Beh L n y i then 1 else 0
          by_cases h:S y/\Beh L n y j
          · rw [if_pos h,if_pos ⟨h.1,.mid h.2 (.edge hA) (hS j hj)⟩]; omega
          · rw [if_neg h]; split<;>omega
        · show (if S j/\Beh L n j j then (1:Int) else 0)<if S j/\Beh L n j i then 1 else 0
          rw [if_neg fun h=>hno j (hS j hj) h.2,if_pos ⟨hj,.edge hA⟩]; omega
      omega
  obtain ⟨i,hi⟩:=hne
  exact key (zdH n (f i)).toNat i hi (by
    have:0<=zdH n (f i):=zqh fun y _=>by show (0:Int)<=if _ then _ else _; split<;>omega
    omega)
theorem zF7 (n:Int) (p:Option Addr) (c:Nat) (L:List E) (h63:(L.length:Int)<=9223372036854775807) (w:World) (h:zFC w p L):FnP Tryz.prog zhn #[.int .i64 n,.slice p L.length c] w fun v w'=>Ext w w'/\v=.int .i64 (zzq n L):=by
  refine zq1 n p L.length c w _ ?_
  refine ⟨fun ha w0 h0=>⟨h0,by unfold zzq; rw [if_pos (by omega)]⟩,fun ha=>⟨fun hl w0 h0=>⟨h0,by unfold zzq; rw [if_neg (by omega),if_pos (by omega)]⟩,fun hl=>?_⟩⟩
  have e0:(∀ e∈L,zmD n e)->zzq n L=0:=fun h=>by unfold zzq; rw [if_neg (by omega),if_neg (by omega),if_pos h]
  have e4:(¬ ∀ e∈L,zmD n e)->zzq n L=4:=fun h=>by unfold zzq; rw [if_neg (by omega),if_neg (by omega),if_neg h]
  refine ⟨fun k w'=>w'=w/\0<=k/\k<=L.length/\∀ i:Nat,(i:Int)<k->zmD n (ed L i),fun k _=>(L.length-k).toNat,⟨rfl,by omega,by omega,fun i hi=>by omega⟩,?_⟩
  rintro k _ ⟨rfl,hk0,hk1,hok⟩
  refine ⟨fun hlt=>?_,fun hge w3 h3=>⟨h3,?_⟩⟩
  · obtain ⟨h1,h2,h3,h4⟩:=zsG h hk0 hlt
    refine ⟨h1,hk0,hlt,h2,_,h3,_,h4,fun b _=>⟨fun hb w4 h4=>⟨h4,?_⟩,fun hg=>⟨i64 (by omega),⟨rfl,by omega,by omega,fun i hi=>?_⟩,by simp only []; omega⟩⟩⟩
    · rw [e4 fun hall=>by have:=hall _ (zzj (L:=L) (i:=k.toNat) (by omega)); unfold zmD at this; omega]
    · by_cases hik:(i:Int)<k
      · exact hok i hik
      · obtain rfl:i=k.toNat:=by omega
        unfold zmD; omega
  · rw [e0 fun e he=>?_]
    obtain ⟨i,hi,rfl⟩:=zIA he
    exact hok i (by omega)
theorem zI3 (n:Int) (p:Option Addr) (c:Nat) (L:List E) (h63:(L.length:Int)<=9223372036854775807) (w:World) (h:zFC w p L):FnP Tryz.prog zho #[.int .i64 n,.slice p L.length c] w fun v w'=>Ext w w'/\∃ q m d e,v=.tuple #[.slice q m d,.int .i64 e] /\
    (¬ okG n L->e=zzq n L/\m=0)/\(okG n L->(e=0/\(m:Int)=n/\∃ A,Own w.heap.size w' zd8 1 q m d (A.map (.int .i64))/\zFm n.toNat L A)\/(e=8/\m=0/\∃ i,i<n.toNat/\Beh L n.toNat i i)):=by
  refine zq2 n p L.length c w _ ?_
  intro w0 h0
  refine (zF7 n p c L h63 w0 (h.ext h0)).mono fun v w1 ⟨e1,hv⟩=>⟨e1,_,hv,fun hne w3 h3=>⟨h3,_,_,_,_,rfl,fun _=>⟨rfl,rfl⟩,fun hok=>absurd (zCZ.2 hok) hne⟩,fun he w3 h3=>?_⟩
  have hok:=zCZ.1 he
  obtain ⟨n0,n1,nl,nE⟩:=hok
  have okE':∀ i,i<L.length->zmD n (ed L i):=fun i hi=>nE _ (zzj hi)
  refine mk_ints zqN n0 (by omega) (by omega) fun w4 o5 e4=>⟨e4,_,_,_,rfl,?_⟩
  have o5:=o5 w.heap.size h3.size
  have hx4:Ext w w4:=h3.trans e4
  revert o5
  generalize (some (⟨w3.heap.size,0,none⟩:Addr))=q5
  intro o5
  obtain ⟨N,rfl⟩:∃ N:Nat,n=N:=⟨n.toNat,by omega⟩
  simp only [Int.toNat_natCast] at o5 ⊢
  have hN:N<=60:=by omega
  refine ⟨fun k w'=>∃ R:List Int,Ext w w'/\Own w.heap.size w' zoo 1 q5 N N (R.map (.int .u64))/\0<=k/\k<=L.length/\∀ i:Nat,i<N->U (R.getD i 0)/\∀ j:Nat,tb (R.getD i 0) j=true↔∃ m:Nat,(m:Int)<k/\m<L.length/\(ed L m).f=j/\(ed L m).t=i,fun k _=>(L.length-k).toNat,
    ⟨_,hx4,o5,by omega,by omega,fun i hi=>?_⟩,?_⟩
  · have hz:(List.replicate N (0:Int)).getD i 0=0:=by rw [List.getD_eq_getElem?_getD,List.getElem?_replicate]; split<;>rfl
    rw [hz]
    refine ⟨by rw [zfR]; omega,fun j=>?_⟩
    rw [zdu]
    constructor
    · intro h; cases h
    · rintro ⟨m,hm,_⟩; omega
  rintro k w10 ⟨R,hw,o5,hk0,hk1,hR⟩
  have lenR:=o5.leni
  refine ⟨fun hlt=>?_,fun hge=>?_⟩
  · obtain ⟨h1,h2,h3,h4⟩:=zsG (h.ext hw) hk0 hlt
    have hE:=okE' k.toNat (by omega)
    unfold zmD at hE
    refine ⟨h1,hk0,hlt,h2,_,h3,_,h4,fun b hb=>⟨o5.ne1 (by omega) (by omega),by omega,by omega,_,o5.int_at (by omega) (by omega),by omega,o5.ne1 (by omega) (by omega),by omega,by omega,?_⟩⟩
    refine store_int o5 (by omega) (by omega) (o5.free hb) fun w15 o5' g=>⟨i64 (by omega),⟨_,g.ext hw o5,o5',by omega,by omega,fun i hi=>?_⟩,by simp only []; omega⟩
    rw [zGE _ _ _ _ _ (by omega)]
    have hk':((k.toNat:Nat):Int)=k:=by omega
    by_cases hit:i=(ed L k.toNat).t.toNat
    · rw [if_pos hit]
      refine ⟨U_or _ _,fun j=>?_⟩
      rw [zyr,zwb (by omega) (by omega),Bool.or_eq_true,<- hit,(hR i hi).2 j,decide_eq_true_iff]
      constructor
      · rintro (⟨m,a,b,c,d⟩|hj)
        · exact ⟨m,by omega,b,c,d⟩
        · exact ⟨k.toNat,by omega,by omega,by omega,by omega⟩
      · rintro ⟨m,a,b,c,d⟩
        by_cases hm:(m:Int)<k
        · exact .inl ⟨m,hm,b,c,d⟩
        · obtain rfl:m=k.toNat:=by omega
          exact .inr (by omega)
    · rw [if_neg hit]
      refine ⟨(hR i hi).1,fun j=>?_⟩
      rw [(hR i hi).2 j]
      constructor
      · rintro ⟨m,a,b,c,d⟩; exact ⟨m,by omega,b,c,d⟩
      · rintro ⟨m,a,b,c,d⟩
        by_cases hm:(m:Int)<k
        · exact ⟨m,hm,b,c,d⟩
        · obtain rfl:m=k.toNat:=by omega
          omega
  · have hA:∀ i j:Nat,i<N->(tb (R.getD i 0) j=true↔Adj L j i):=fun i j hi=>by
      rw [(hR i hi).2 j]
      constructor
      · rintro ⟨m,_,hm,a,b⟩; exact ⟨_,zzj hm,a,b⟩
      · rintro ⟨e,he,a,b⟩
        obtain ⟨m,hm,rfl⟩:=zIA he
        exact ⟨m,by omega,hm,a,b⟩
    have hU:∀ i:Nat,i<N->U (R.getD i 0):=fun i hi=>(hR i hi).1
    clear hR
    obtain ⟨hf1,hf2⟩:=full (n:=(N:Int)) (by omega) (by omega)
    simp only [Int.toNat_natCast] at hf2
    refine ⟨by omega,hf1,?_⟩
    refine ⟨fun q m d left w'=>∃ A:List Int,Ext w w'/\Own w.heap.size w' zd8 1 q m d (A.map (.int .i64))/\Own w.heap.size w' zoo 1 q5 N N (R.map (.int .u64))/\zbK q5 q/\U left/\(∀ j,tb left j=true->j<N) /\
      (∀ y∈A,∃ i:Nat,y=i/\i<N)/\(∀ i:Nat,i<N->cnt i A=if tb left i then 0 else 1)/\(∀ (k:Nat) (e:E),e∈L->A[k]?=some e.t->e.f∈A.take k),
      fun _ _ _ left _=>(zdH N fun i=>if tb left i then 1 else 0).toNat,
      ⟨[],hw,Own.nil,o5,zbK.nil,hf1,fun j hj=>by rw [hf2] at hj; simpa using hj,fun y hy=>by simp at hy,fun i hi=>by rw [hf2]; simp [hi,cnt],fun k e _ hk=>by simp at hk⟩,?_⟩
    clear hw o5 hk0 hk1 hge
    rintro q m d left w14 ⟨A,hw,oA,o5,apq,Ul,hlN,hin,hcnt,hah⟩
    have lenR:=o5.leni
    have lenA:=oA.leni
    have hsum:∀ left:Int,0<=zdH N (fun i=>if tb left i then (1:Int) else 0):=fun left=>zqh fun i _=>by split<;>omega
    have hm60:m<=60:=by
      have h1:=zpc hin
      have h2:zdH N (fun i=>cnt i A)<=zdH N (fun _=>1):=zqg fun i hi=>by rw [hcnt i hi]; split<;>omega
      rw [ztL] at h2; omega
    refine ⟨fun hne=>?_,fun hz w15 h15=>⟨hw.trans h15,_,_,_,_,rfl,fun hno=>absurd ⟨n0,n1,nl,nE⟩ hno,fun _=>.inl ⟨rfl,?_,A,oA.ext h15,?_⟩⟩⟩
    · refine ⟨fun i w'=>w'=w14/\0<=i/\i<=N/\∀ j:Nat,(j:Int)<i->tb left j=true->∃ k,tb (R.getD j 0) k=true/\tb left k=true,fun i _=>(N-i).toNat,⟨rfl,by omega,by omega,fun j hj=>by omega⟩,?_⟩
      rintro i w14 ⟨rfl,hi0,hi1,hall⟩
      have zv9:i=N->∀ w19,Ext w14 w19->Ext w w19/\∃ q m d e,Value.tuple #[.slice none 0 0,.int .i64 8]=.tuple #[.slice q m d,.int .i64 e] /\
          (¬ okG N L->e=zzq N L/\m=0)/\(okG N L->(e=0/\(m:Int)=N/\∃ A,Own w.heap.size w19 zd8 1 q m d (A.map (.int .i64))/\zFm N L A)\/(e=8/\m=0/\∃ i,i<N/\Beh L N i i)):=by
        intro hiN w19 h19
        refine ⟨hw.trans h19,_,_,_,_,rfl,fun hno=>absurd ⟨n0,n1,nl,nE⟩ hno,fun _=>.inr ⟨rfl,rfl,?_⟩⟩
        refine zKw (fun j=>tb left j=true) (fun j hj=>hlN j hj) ((zDN Ul).1 hne) fun j hj=>?_
        obtain ⟨k,k1,k2⟩:=hall j (by have:=hlN j hj; omega) hj
        exact ⟨k,k2,(hA j k (hlN j hj)).1 k1⟩
      have take:∀ hlt:i<N,tb left i.toNat=true->zan .and .u64 (R.getD i.toNat 0) left=0->∀ w19,Ext w14 w19 ->
          Run Tryz.prog (.buildSlice zjC 1 [(0,(.int .i64 i))]) w19 fun v20 w20=>Ext w19 w20 /\
               ∃ t21:Option Addr,∃ tl22:Nat,∃ tc23:Nat,v20=(.slice t21 tl22 tc23)/\∀ w24,Ext w20 w24 ->
               Run Tryz.prog (.append #[zjC,zjC] zjC [(.slice q m d),(.slice t21 tl22 tc23)]) w24 fun v25 w25 =>
                ∃ t26:Option Addr,∃ tl27:Nat,∃ tc28:Nat,v25=(.slice t26 tl27 tc28)/\(0<=(i:Int) /\
                ((∃ A:List Int,Ext w w25/\Own w.heap.size w25 zd8 1 t26 tl27 tc28 (A.map (.int .i64))/\Own w.heap.size w25 zoo 1 q5 N N (R.map (.int .u64))/\zbK q5 t26/\U (zan .andNot .u64 left (zan .shl .u64 1 i))/\(∀ j,tb (zan .andNot .u64 left (zan .shl .u64 1 i)) j=true->j<N) /\
      (∀ y∈A,∃ i:Nat,y=i/\i<N)/\(∀ j:Nat,j<N->cnt j A=if tb (zan .andNot .u64 left (zan .shl .u64 1 i)) j then 0 else 1)/\(∀ (k:Nat) (e:E),e∈L->A[k]?=some e.t->e.f∈A.take k)) /\
                  (zdH N fun j=>if tb (zan .andNot .u64 left (zan .shl .u64 1 i)) j then 1 else 0).toNat<(zdH N fun j=>if tb left j then 1 else 0).toNat)):=by
        intro hlt hbit hzero w19 h19
        have hii:((i.toNat:Nat):Int)=i:=by omega
        have hnb:∀ j,tb (zan .andNot .u64 left (zan .shl .u64 1 i)) j=(tb left j&&!decide (j=i.toNat)):=fun j=>by rw [zqj,zwb (by omega) (by omega)]
        refine zzZ zds oA hw.size (by omega) (by omega) (fun q' d' w25 oA' g _=>⟨hi0,⟨A++[i],g.ext hw oA,oA',Own.grew (B':=0) o5 apq g,apq.grew o5 g,zst _ _,fun j hj=>?_,fun y hy=>?_,fun j hj=>?_,fun k e he hk=>?_⟩,?_⟩) w19 h19
        · rw [hnb] at hj; simp at hj; exact hlN j hj.1
        · rcases List.mem_append.1 hy with hy|hy
          · exact hin y hy
          · simp at hy; exact ⟨i.toNat,by omega,by omega⟩
        · rw [zjF,hcnt j hj,hnb]
          simp only [cnt]
          by_cases hji:j=i.toNat
          · subst hji
            rw [hbit]; simp [hii]
          · have:¬ (i=(j:Int)):=by omega
            simp [this,hji]
        · by_cases hkA:k<A.length
          · rw [List.getElem?_append_left hkA] at hk
            rw [List.take_append_of_le_length (by omega)]
            exact hah k e he hk
          · have hlt2:=(List.getElem?_eq_some_iff.1 hk).1
            simp at hlt2
            obtain rfl:k=A.length:=by omega
            rw [List.take_left]
            simp at hk
            have hE:=nE e he
            unfold zmD at hE
            have hadj:tb (R.getD i.toNat 0) e.f.toNat=true:=(hA i.toNat e.f.toNat (by omega)).2 ⟨e,he,by omega,by omega⟩
            have hnl:tb left e.f.toNat=false:=by
              have:=zAk (R.getD i.toNat 0) left e.f.toNat
              rw [hzero,zdu,hadj] at this
              simpa using this.symm
            have hc:cnt ((e.f.toNat:Nat):Int) A=1:=by rw [hcnt e.f.toNat (by omega),hnl]; rfl
            have:=zw8 (x:=((e.f.toNat:Nat):Int)) (l:=A) (by rw [hc]; omega)
            rwa [show ((e.f.toNat:Nat):Int)=e.f by omega] at this
        · have hlt3:(zdH N fun j=>if tb (zan .andNot .u64 left (zan .shl .u64 1 i)) j then (1:Int) else 0)<zdH N fun j=>if tb left j then 1 else 0:=by
            refine zyq (k:=i.toNat) (by omega) (fun j _=>?_) ?_
            · rw [hnb]; cases tb left j<;>simp; split<;>omega
            · rw [hnb,hbit]; simp
          have:=hsum left
          have:=hsum (zan .andNot .u64 left (zan .shl .u64 1 i))
          omega
      have hii:((i.toNat:Nat):Int)=i:=by omega
      refine ⟨fun _=>hi0,fun _ _=>o5.ne1 (by omega) (by omega),fun _ _=>hi0,fun hlt _=>hlt,fun hlt=>?_,fun hge=>⟨fun hiN=>zv9 hiN,fun hiN=>by omega⟩⟩
      rw [zEB Ul hi0 (by omega)]
      refine ⟨fun hb=>⟨i64 (by omega),⟨rfl,by omega,by omega,fun j hj hjt=>?_⟩,by simp only []; omega⟩,fun hb=>⟨_,o5.int_at hi0 (by omega),fun hne'=>⟨i64 (by omega),⟨rfl,by omega,by omega,fun j hj hjt=>?_⟩,by simp only []; omega⟩,fun hz=>⟨fun hiN=>by omega,fun _=>take hlt (by cases hbb:tb left i.toNat<;>simp [hbb] at hb ⊢) hz⟩⟩⟩
      · by_cases hji:(j:Int)<i
        · exact hall j hji hjt
        · obtain rfl:j=i.toNat:=by omega
          rw [hjt] at hb; simp at hb
      · by_cases hji:(j:Int)<i
        · exact hall j hji hjt
        · obtain rfl:j=i.toNat:=by omega
          obtain ⟨k,hk⟩:=(zDN (zFN _ _)).1 hne'
          rw [zAk] at hk
          simp at hk
          exact ⟨k,by simpa using hk.1,hk.2⟩
    · subst hz
      have h1:=zpc hin
      have h2:zdH N (fun i=>cnt i A)=zdH N (fun _=>1):=zfm fun i hi=>by rw [hcnt i hi,zdu]; rfl
      rw [h2,ztL] at h1
      omega
    · subst hz
      exact ⟨hin,fun i hi=>by rw [hcnt i hi,zdu]; rfl,hah⟩
structure ziB (F G:Fm):Prop where
  len:F.jobs.length<=G.jobs.length
  now:F.now<=G.now
  job:∀ k,k<F.jobs.length->(zac G k).job=(zac F k).job
  end_:∀ k,k<F.jobs.length->3<=(zac F k).what->zac G k=zac F k
  tries:∀ k,k<F.jobs.length->(zac F k).tries<=(zac G k).tries
theorem ziB.refl (F:Fm):ziB F F:=⟨Nat.le_refl _,Int.le_refl _,fun _ _=>rfl,fun _ _ _=>rfl,fun _ _=>Int.le_refl _⟩
theorem ziB.trans {F G H:Fm} (a:ziB F G) (b:ziB G H):ziB F H :=
  ⟨Nat.le_trans a.len b.len,Int.le_trans a.now b.now,fun k hk=>(b.job k (Nat.lt_of_lt_of_le hk a.len)).trans (a.job k hk),fun k hk h=>(b.end_ k (Nat.lt_of_lt_of_le hk a.len) (by rw [a.end_ k hk h]; exact h)).trans (a.end_ k hk h),fun k hk=>Int.le_trans (a.tries k hk) (b.tries k (Nat.lt_of_lt_of_le hk a.len))⟩
theorem zer {F G:Fm} {k:Nat} {s:St} (t:ziJ F G k s) (h:¬ 3<=(zac F k).what) (ht:(zac F k).tries<=s.tries):ziB F G:=by
  refine ⟨by rw [t.len]; exact Nat.le_refl _,by rw [t.now]; exact Int.le_refl _,fun i _=>t.jobs i,fun i _ hw=>?_,fun i _=>?_⟩
  · by_cases hik:i=k
    · subst hik; exact absurd hw h
    · exact t.other hik
  · rw [t.at_]
    split
    · rename_i h; rw [h]; exact ht
    · exact Int.le_refl _
theorem zsn (F:Fm):ziB F (zlB F):=by
  have h:∀ n,n<=F.jobs.length->ziB F (lostTo F n):=by
    intro n
    induction n with
    |zero => intro _; exact ziB.refl F
    |succ n ih =>
      intro hn
      refine (ih (by omega)).trans ?_
      show ziB _ (zbv (lostTo F n) n)
      unfold zbv
      split
      · rename_i h
        exact zer (ziJ.st _ (m:=11) 5 (by rw [zfh]; omega)) (by omega) (by simp [zhb])
      · exact ziB.refl _
  exact h _ (Nat.le_refl _)
theorem zCO {F G:Fm} {x:Ev} (h:Did F x G):ziB F G:=by
  rcases h with ⟨_,rfl⟩|⟨hc,h⟩
  · exact ziB.refl _
  obtain ⟨hE,c1,c2,c4,c5⟩:=hc
  rcases h with ⟨a,rfl⟩|⟨a,rfl⟩|⟨a,o,h⟩|⟨a,rfl⟩|⟨a,rfl⟩
  · have e:∀ k,k<F.jobs.length->zac (zoL F x.job) k=zac F k:=fun k hk=>by rw [zqd,if_pos hk]
    exact ⟨by rw [znj]; omega,Int.le_refl _,fun k hk=>by rw [e k hk],fun k hk _=>e k hk,fun k hk=>by rw [e k hk]; exact Int.le_refl _⟩
  · have:=c2 a
    exact ⟨Nat.le_refl _,by show F.now<=F.now+x.n; omega,fun _ _=>rfl,fun _ _ _=>rfl,fun _ _=>Int.le_refl _⟩
  · refine zjO (Mot:=fun G=>ziB F G) (fun F' id k hin hr hb m=>m.trans ?_) h (ziB.refl _)
    obtain ⟨r1,_⟩:=zdk.1 hr
    exact zer (ziJ.run (k:=k) (zgh hin)) (by omega) (by simp)
  · have h4:=c4 a
    have hk:=zgh h4.1
    have tl:=ziJ.left hk
    unfold zgP
    split
    · exact zer (tl.then_ hk 11 3) (by omega) (by simp [zhb])
    have tt:ziJ F (zcH F (x.id-1).toNat) (x.id-1).toNat _:=tl.then_ hk 15 ((zac F (x.id-1).toNat).tries+1)
    split
    · exact zer ((tt.then_ hk 11 1).then_ hk 14 _) (by omega) (by simp [zhb]; omega)
    · exact (zer (tt.then_ hk 11 4) (by omega) (by simp [zhb]; omega)).trans (zsn _)
  · have h5:=c5 a
    have hk:=zgh h5.1
    unfold zy7
    refine ziB.trans ?_ (zsn _)
    split
    · exact zer ((ziJ.left hk).then_ hk 11 5) (by omega) (by simp [zhb])
    · exact zer (ziJ.st F (m:=11) 5 hk) (by omega) (by simp [zhb])
theorem zvg {α:Type}:∀ {l m:List α},l.Nodup->(∀ x∈l,x∈m)->l.length<=m.length
  |[],_,_,_ => Nat.zero_le _
  |a::l,m,hn,hs => by
    obtain ⟨s,t,rfl⟩:=List.append_of_mem (hs a (List.mem_cons_self ..))
    rw [List.nodup_cons] at hn
    have:=zvg (l:=l) (m:=s++t) hn.2 (fun x hx=>by
      have:=hs x (List.mem_cons_of_mem _ hx)
      simp only [List.mem_append,List.mem_cons] at this ⊢
      rcases this with h|rfl|h
      · exact .inl h
      · exact absurd hx hn.1
      · exact .inr h)
    simp only [List.length_append,List.length_cons] at this ⊢
    omega
structure zoZ (F:Fm) (row:List Int):Prop where
  dn:∀ i∈row,0<=i/\i<F.jobs.length/\(zac F i.toNat).what=3
  hd:∀ (p:Nat) (i:Int),row[p]?=some i->∀ y∈(zac F i.toNat).job.aft,y-1∈row.take p
  nd:row.Nodup
theorem zKX (F:Fm):zoZ F []:=⟨fun i h=>(by cases h),fun p i h=>by simp at h,List.nodup_nil⟩
theorem zEq {F G:Fm} {row:List Int} (s:ziB F G) (h:zoZ F row):zoZ G row:=by
  have e:∀ i∈row,0<=i/\i<F.jobs.length/\zac G i.toNat=zac F i.toNat:=fun i hi=>by
    obtain ⟨a,b,c⟩:=h.dn i hi
    exact ⟨a,b,s.end_ i.toNat (by omega) (by omega)⟩
  refine ⟨fun i hi=>?_,fun p i hp y hy=>?_,h.nd⟩
  · obtain ⟨a,b,c⟩:=e i hi
    have:=s.len
    exact ⟨a,by omega,by rw [c]; exact (h.dn i hi).2.2⟩
  · rw [(e i (List.mem_of_getElem? hp)).2.2] at hy
    exact h.hd p i hp y hy
theorem zz8 {F:Fm} {row:List Int} (h:zoZ F row):row.length<=F.jobs.length:=by
  have hsub:∀ i∈row,i∈(List.range F.jobs.length).map Int.ofNat:=fun i hi=>by
    obtain ⟨a,b,_⟩:=h.dn i hi
    exact List.mem_map.2 ⟨i.toNat,List.mem_range.2 (by omega),by simp; omega⟩
  have:=zvg h.nd hsub
  simpa using this
theorem zKY {F:Fm} (I:Inv F) {row:List Int} (h:zoZ F row) {i:Nat} (hi:i<F.jobs.length) (hw:(zac F i).what=3) (hbel:∀ k,k<i->(zac F k).what=3->(k:Int)∈row) (hno:(i:Int)∉row):zoZ F (row++[(i:Int)]):=by
  refine ⟨fun j hj=>?_,fun p j hp y hy=>?_,?_⟩
  · rcases List.mem_append.1 hj with hj|hj
    · exact h.dn j hj
    · simp at hj; subst hj
      exact ⟨by omega,by omega,by simpa using hw⟩
  · rcases Nat.lt_or_ge p row.length with hpl|hpl
    · rw [List.getElem?_append_left hpl] at hp
      rw [List.take_append_of_le_length (by omega)]
      exact h.hd p j hp y hy
    · rw [List.getElem?_append_right hpl] at hp
      have hp0:p-row.length=0:=by
        rcases Nat.lt_or_ge (p-row.length) 1 with h|h
        · omega
        · rw [List.getElem?_eq_none (by simpa using h)] at hp; cases hp
      rw [hp0] at hp
      simp at hp
      subst hp
      rw [show p=row.length by omega,List.take_left']
      · have hle:=I.i0.aft i hi y (by simpa using hy)
        have h3:=I.i0.ahead i hi (.inr hw) y (by simpa using hy)
        rw [zbz] at h3
        have:=hbel (y-1).toNat (by omega) h3
        rwa [show (((y-1).toNat:Nat):Int)=y-1 by omega] at this
      · rfl
  · rw [List.nodup_append]
    refine ⟨h.nd,by simp,fun a ha b hb=>?_⟩
    simp at hb
    subst hb
    exact fun e=>hno (e▸ha)
def atR (row:List Int) (x t:Int):Prop:=(x∉row/\t=-1)\/∃ p:Nat,t=p/\row[p]?=some x/\∀ j:Nat,j<p->row[j]?≠some x
theorem zKW {F:Fm} {row:List Int} (h:zoZ F row) {i y:Int} (hi:i∈row) (hy:y∈(zac F i.toNat).job.aft):y-1∈row:=by
  obtain ⟨p,hp⟩:=List.mem_iff_getElem?.1 hi
  exact List.mem_of_mem_take (h.hd p i hp y hy)
theorem zEp {F:Fm} {row:List Int} (h:zoZ F row) {i y t u:Int} (hi:i∈row) (hy:y∈(zac F i.toNat).job.aft) (ht:atR row (y-1) t) (hu:atR row i u):y-1∈row/\t<=u:=by
  rcases hu with ⟨hn,_⟩|⟨p,rfl,hp,_⟩
  · exact absurd hi hn
  have hm:=h.hd p i hp y hy
  refine ⟨List.mem_of_mem_take hm,?_⟩
  rcases ht with ⟨hn,_⟩|⟨q,rfl,hq,hmin⟩
  · exact absurd (List.mem_of_mem_take hm) hn
  · obtain ⟨j,hj,hjr⟩:=zs5 hm
    rcases Nat.lt_or_ge j q with hjq|hjq
    · exact absurd hjr (hmin j hjq)
    · omega
theorem zHV {L:List E} (h:∀ e∈L,e.f<e.t) {K i j:Nat} (hv:Via (Adj L) K i j):i<j:=by
  induction hv with
  |edge h1 => obtain ⟨e,he,h1,h2⟩:=h1; have:=h e he; omega
  |mid _ _ _ ih1 ih2 => omega
theorem zsq (p:Option Addr) (c:Nat) (X:List Int) (h63:(X.length:Int)<=9223372036854775807) (x:Int) (w:World) (h:zdP .i64 w p X) :
    FnP Tryz.prog za9 #[.slice p X.length c,.int .i64 x] w fun v w'=>Ext w w'/\∃ t,v=.int .i64 t/\atR X x t:=by
  refine zhX p X.length c x w _ ?_
  refine ⟨fun k w'=>w'=w/\0<=k/\k<=X.length/\∀ j:Nat,(j:Int)<k->X[j]?≠some x,fun k _=>(X.length-k).toNat,⟨rfl,by omega,by omega,fun j hj=>by omega⟩,?_⟩
  rintro k w ⟨rfl,hk0,hk1,hno⟩
  refine ⟨fun hlt=>?_,fun hge w4 h4=>⟨h4,_,rfl,.inl ⟨fun hm=>?_,rfl⟩⟩⟩
  · have g:=zdP.idx h hk0 hlt
    have hget:X[k.toNat]?=some (X.getD k.toNat 0):=by
      have:k.toNat<X.length:=by omega
      simp [this,List.getD_eq_getElem?_getD]
    refine ⟨fun hq=>zai g (zah.2 hq),hk0,hlt,_,g,fun hyes w9 h9=>⟨h9,_,rfl,.inr ⟨k.toNat,by omega,by rw [hget,hyes],fun j hj=>hno j (by omega)⟩⟩,fun hn=>⟨i64 (by omega),⟨rfl,by omega,by omega,fun j hj=>?_⟩,by simp only []; omega⟩⟩
    by_cases hjk:(j:Int)<k
    · exact hno j hjk
    · obtain rfl:j=k.toNat:=by omega
      rw [hget]
      exact fun he=>hn (Option.some.inj he).symm
  · obtain ⟨j,hj⟩:=List.mem_iff_getElem?.1 hm
    exact hno j (by have:=(List.getElem?_eq_some_iff.1 hj).1; omega) hj
theorem zJx {X:List Int} {x t:Int} (h:atR X x t):0<=t↔x∈X:=by
  rcases h with ⟨h,rfl⟩|⟨p,rfl,hp,_⟩
  · exact ⟨fun h0=>by omega,fun h1=>absurd h1 h⟩
  · exact ⟨fun _=>List.mem_of_getElem? hp,fun _=>by omega⟩
theorem zkk (p:Option Addr) (c:Nat) (X:List Int) (h63:(X.length:Int)<=9223372036854775807) (x:Int) (w:World) (h:zdP .i64 w p X) :
    FnP Tryz.prog zaT #[.slice p X.length c,.int .i64 x] w fun v w'=>Ext w w'/\v=.bool (decide (x∈X)):=by
  refine zfV p X.length c x w _ ?_
  intro w1 h1
  refine (zsq p c X h63 x w1 (h.ext h1)).mono fun v w2 ⟨e2,t,hv,ht⟩=>⟨e2,t,hv,fun w4 h4=>⟨h4,?_⟩⟩
  congr 1
  exact decide_eq_decide.2 (zJx ht)
abbrev OR (n:Nat) (p:Option Addr) (b:Nat):Prop:=b<n\/∃ a,p=some a/\a.block=b
def zIn (F:Fm) (row:List Int) (k:Int):Prop:=∀ i:Nat,(i:Int)<k->i<F.jobs.length->(zac F i).what=3->(i:Int)∈row
theorem zBg (W:World) (g:GD W) {p:Option Addr} {hl c:Nat} (hA:zaA Tryz.prog W zdR p hl c) (x1 x2 x3 x4:Int) {q:Option Addr} {el d:Nat} (hq:zaA Tryz.prog W zfu q el d) :
    FnP Tryz.prog zcj #[(.agg #[(.slice p hl c),(.int .i64 x1),(.int .i64 x2),(.int .i64 x3),(.int .i64 x4)]),(.slice q el d)] W fun v W'=>v=.bool true/\Ext W W':=by
  have hsz:=zxs g
  obtain ⟨L,rfl,h63,hO,hL⟩:=zuP hA
  obtain ⟨Es,rfl,hE,hEw⟩:=zJ8 hq
  refine zg5 p L.length c x1 x2 x3 x4 q Es.length d W _ fun b0 hb0 w1 x1'=>?_
  have h1:=zaa x1'
  have lt1:=x1'.lt b0 (by simp)
  refine (zC4 p c L h63 hO ⟨x1,x2,x3,x4⟩ w1 (hL.ext h1)).mono fun v w2 ⟨e2,f,e,hv,hiff,hno,hyes⟩=>⟨e2,f,e,hv,fun w5 h5=>?_⟩
  have h2:=h1.trans e2
  have x5:=h2.trans h5
  refine (ztQ w5 (g.ext x5) (Nat.le_trans hsz x5.size)).mono fun v w6 ⟨e6,hv⟩=>⟨e6,true,hv,fun _ w8 h8=>?_,fun hgood=>?_⟩
  · have x8:=h2.trans h8
    exact (ztQ w8 (g.ext x8) (Nat.le_trans hsz x8.size)).mono fun v w9 ⟨e9,hv⟩=>⟨e9,true,hv,fun w11 h11=>⟨rfl,h2.trans h11⟩⟩
  obtain ⟨⟨⟨_,hz⟩,_⟩,h60⟩:=hgood
  have hok:=hiff.1 hz
  obtain ⟨fb,P0,rfl,fx2⟩:=hyes hz
  refine ⟨fun row rowl rowc k w'=>0<=k/\k<=Es.length/\Ext W w'/\w1.heap.size<=w'.heap.size/\∃ P F X,FXO (OR w1.heap.size row) w1.heap.size w' fb P F/\Inv F/\rowl=X.length/\Own w1.heap.size w' zd8 1 row X.length rowc (X.map (.int .i64))/\zoZ F X/\zIn F X F.jobs.length,fun _ _ _ k _=>(Es.length-k).toNat,⟨by omega,by omega,h2,e2.size,P0,_,[],?_,zxG hok,rfl,Own.nil,zKX _,fun i _ hi=>by simp [zkG] at hi⟩,?_⟩
  · exact fx2.less fun b hb=>by
      rcases hb with hb|⟨a,ha,_⟩
      · exact hb
      · cases ha
  rintro row rowl rowc k w11 ⟨hk0,hk1,h11,hs11,P,F,X,x,I,rfl,oX,rk,fl⟩
  refine ⟨fun hlt=>?_,fun hge w12 x12=>?_⟩
  · obtain ⟨r,hr⟩:∃ r,Es[k.toNat]?=some r:=⟨_,List.getElem?_eq_getElem (by omega)⟩
    have gc:∀ (m:Nat) u,(zwJ r)[m]?=some u->Go.Sx.cell w11 (pIdx q k 15) m=some u:=fun m u hu=>zaD h11 (hE.at hk0 hr hu)
    have g0:=gc 0 _ rfl
    obtain ⟨hWj,hJj⟩:=hEw r (List.mem_of_getElem? hr)
    refine ⟨fun h=>zai g0 (zah.2 h),hk0,hlt,zai g0,_,gc 0 _ rfl,_,gc 1 _ rfl,_,gc 2 _ rfl,_,gc 3 _ rfl,_,gc 4 _ rfl,_,gc 5 _ rfl,_,gc 6 _ rfl,_,gc 7 _ rfl,_,gc 8 _ rfl,_,gc 9 _ rfl,_,_,_,gc 10 _ rfl,_,_,_,gc 11 _ rfl,_,gc 12 _ rfl,_,gc 13 _ rfl,_,gc 14 _ rfl,fun b31 hb31 w32 x32=>?_⟩
    have h32:=zaa x32
    have hW32:=h11.trans h32
    have x32':=x.ext h32
    refine (Do_k x32' I.i0.pre I.i0.hs r.x r.pa r.ca r.pf r.cf (hJj.ext hW32) hWj (Nat.le_trans hs11 h32.size)).mono fun v w33 ⟨e,P',G,hv,_,hd,x33,f33,gr33⟩=>⟨f33.kept fun b hb=>⟨x32.lt b hb,fun hf=>?_⟩,e,hv,fun w35 x35=>?_⟩
    · have:=x.foot hf
      simp at hb
      rcases hb with rfl|rfl<;>omega
    have IG:=zCN hd I
    have st:=zCO hd
    have h35:=zaa x35
    have hW33:Ext W w33:=f33.ext hW32 fun b hb=>by have:=(x.foot hb).1; have:=h1.size; omega
    have hW35:=hW33.trans h35
    have x35':=x33.ext h35
    have oX35:=((oX.ext h32).fr f33 fun a ha hf=>x32'.odis a.block (.inr ⟨a,ha,rfl⟩) hf).ext h35
    have hs35:w1.heap.size<=w35.heap.size:=Nat.le_trans hs11 (Nat.le_trans h32.size (Nat.le_trans f33.size h35.size))
    refine (zuc x35').mono fun v w36 ⟨e36,pj,cj,S,hv,hS,J⟩=>⟨e36,pj,_,cj,hv,?_⟩
    have hSl:=ztE hS
    have x36:=x35'.ext e36
    have hG60:=x36.jO.1
    have rkG:=zEq st rk
    have hs36:=e36.size
    have hpj:∀ a,pj=some a->w35.heap.size<=a.block/\a.block<w36.heap.size:=J.own.lt
    have l31:∀ b∈[b0,b31],b<w36.heap.size:=fun b hb=>by
      have hlt:=x32.lt b hb
      have:=f33.size; have:=h35.size; have:=e36.size; omega
    refine ⟨fun row' rowl' rowc' i w'=>0<=i/\i<=S.length/\Ext W w'/\w36.heap.size<=w'.heap.size/\∃ Y,FXO (OR w1.heap.size row') w1.heap.size w' fb P' G/\rowl'=Y.length/\Own w1.heap.size w' zd8 1 row' Y.length rowc' (Y.map (.int .i64))/\zoZ G Y/\zIn G Y i/\Own w35.heap.size w' ziT 16 pj S.length cj (S.flatMap zrR)/\(∀ a,row'=some a->a.block<w35.heap.size\/w36.heap.size<=a.block)/\(∀ b∈[b0,b31],∀ a,row'=some a->a.block≠b)/\(∀ z∈X,z∈Y),fun _ _ _ i _=>(S.length-i).toNat,⟨by omega,by omega,hW35.trans e36,Nat.le_refl _,X,x36,rfl,oX35.ext e36,rkG,fun i hi _ _=>by omega,J.own,fun a ha=>.inl (oX35.lt a ha).2,fun b hb a ha heq=>?_,fun z hz=>hz⟩,?_⟩
    · have:=(oX.lt a ha)
      simp at hb
      rcases hb with rfl|rfl<;>omega
    rintro row' rowl' rowc' i w43 ⟨hi0,hi1,h43,hs43,Y,x43,rfl,oY,rkY,flY,JY,hrb,hrn,hXY⟩
    refine ⟨fun hil=>?_,fun hige=>⟨i64 (by omega),⟨by omega,by omega,h43,by have:=hs43; have:=e36.size; omega,P',G,Y,x43,IG,rfl,oY,rkY,fun j hj hjl h3=>flY j (by omega) hjl h3⟩,by simp only []; omega⟩⟩
    obtain ⟨r2,hr2⟩:∃ r,S[i.toNat]?=some r:=⟨_,List.getElem?_eq_getElem (by omega)⟩
    have gd:∀ (m:Nat) u,(zrR r2)[m]?=some u->Go.Sx.cell w43 (pIdx pj i 16) m=some u:=fun m u hu=>(JY.recs fun _ _=>rfl).at hi0 hr2 hu
    have gd0:=gd 0 _ rfl
    have n1:pj≠none:=fun h=>zai gd0 (zah.2 h)
    have n2:=zai gd0
    obtain ⟨hkl,hja⟩:=zz9 hS hr2
    have hYl:=zz8 rkY
    refine ⟨n1,hi0,hil,n2,_,gd 0 _ rfl,_,gd 1 _ rfl,_,gd 2 _ rfl,_,gd 3 _ rfl,_,gd 4 _ rfl,_,gd 5 _ rfl,_,gd 6 _ rfl,_,gd 7 _ rfl,_,gd 8 _ rfl,_,_,_,gd 9 _ rfl,_,_,_,gd 10 _ rfl,_,gd 11 _ rfl,_,gd 12 _ rfl,_,gd 13 _ rfl,_,gd 14 _ rfl,_,gd 15 _ rfl,fun b64 hb64=>⟨fun h3 w65 h65=>?_,fun hn3=>⟨i64 (by omega),⟨by omega,by omega,h43,hs43,Y,x43,rfl,oY,rkY,fun j hj hjl h3=>?_,JY,hrb,hrn,hXY⟩,by simp only []; omega⟩⟩⟩
    · refine (zkk row' rowc' Y (by omega) i w65 (oY.cells.ext h65)).mono fun v w66 ⟨e66,hv⟩=>⟨e66,_,hv,fun hf=>?_,fun ht=>⟨i64 (by omega),⟨by omega,by omega,h43,hs43,Y,x43,rfl,oY,rkY,fun j hj hjl h3'=>?_,JY,hrb,hrn,hXY⟩,by simp only []; omega⟩⟩
      · have hnot:i∉Y:=by simpa using hf
        have rkN:zoZ G (Y++[i]):=by
          have:=zKY IG rkY (i:=i.toNat) hkl (by rw [hja]; exact h3) (fun j hj h3'=>flY j (by omega) (by omega) h3') (by rw [show ((i.toNat:Nat):Int)=i by omega]; exact hnot)
          rwa [show ((i.toNat:Nat):Int)=i by omega] at this
        have hb64':∀ b∈[b0,b31,b64],∀ a,row'=some a->a.block≠b:=fun b hb a ha heq=>by
          by_cases h:b=b64
          · subst h; have:=(oY.lt a ha).2; omega
          · exact hrn b (by simp at hb ⊢; omega) a ha heq
        refine zfI zds oY (by omega) hb64' (by omega) (by omega) fun p' c' w' o' g' np hns=>⟨i64 (by omega),⟨by omega,by omega,g'.ext h43 (oY.weak (by have:=h1.size; omega)),Nat.le_trans hs43 g'.size,Y++[i],?_,by simp,by simpa using o',rkN,fun j hj hjl h3'=>?_,?_,fun a ha=>?_,fun b hb a ha=>hns b (by simp at hb ⊢; omega) a ha,fun z hz=>List.mem_append_left _ (hXY z hz)⟩,by simp only []; omega⟩
        · refine x43.go (zaR (S:=OR w1.heap.size row') g' fun a ha=>.inr ⟨a,ha,rfl⟩) (fun b hb=>hb) fun b hb=>?_
          rcases hb with hb|⟨a',ha',rfl⟩
          · exact .inl (.inl hb)
          · have hlt':=(o'.lt a' ha').2
            rcases g'.new with hn|hn
            · left; right
              subst ha'
              cases row' with
              |none => simp [blk] at hn
              |some z => simp [blk] at hn; exact ⟨z,rfl,hn.symm⟩
            · exact .inr ⟨hn a' ha',hlt'⟩
        · by_cases hji:(j:Int)=i
          · rw [hji]; exact List.mem_append_right _ (by simp)
          · exact List.mem_append_left _ (flY j (by omega) hjl h3')
        · exact JY.st (fun a b ha hb h=>by have:=hpj a ha; have:=hrb b hb; omega) g'
        · rcases g'.new with hn|hn
          · subst ha
            cases row' with
            |none => simp [blk] at hn
            |some z => simp [blk] at hn; rw [hn]; exact hrb z rfl
          · have:=hn a ha; right; omega
      · by_cases hji:(j:Int)=i
        · rw [hji]; simpa using ht
        · exact flY j (by omega) hjl h3'
    · by_cases hji:(j:Int)=i
      · exfalso
        have:j=i.toNat:=by omega
        subst this
        rw [hja] at h3
        exact hn3 h3
      · exact flY j (by omega) hjl h3
  have h12:=zaa x12
  have x12':=x.ext h12
  have lt12:=x12.lt b0 (by simp)
  refine (zuc x12').mono fun v w13 ⟨e13,pj,cj,S,hv,hS,J⟩=>⟨e13,pj,_,cj,hv,?_⟩
  have hSl:=ztE hS
  have hF60:=x12'.jO.1
  have hW13:=(h11.trans h12).trans e13
  have oX13:=(oX.ext h12).ext e13
  have hXl:=zz8 rk
  refine ⟨fun eq edl edc k w'=>0<=k/\k<=S.length/\Ext w13 w'/\∃ D:List E,edl=D.length/\Own w13.heap.size w' zH3 2 eq D.length edc (D.flatMap encE)/\(∀ e∈D,0<=e.f/\e.f<e.t/\e.t<S.length/\e.f+1∈(zac F e.t.toNat).job.aft)/\(D.length:Int)<=8*k,fun _ _ _ k _=>(S.length-k).toNat,⟨by omega,by omega,Ext.refl _,[],rfl,Own.nil,fun e he=>(by cases he),by simp⟩,?_⟩
  rintro eq edl edc k19 w20 ⟨hj0,hj1,h20,D,rfl,oD,hD,hDl⟩
  have hW20:=hW13.trans h20
  refine ⟨fun hlt=>?_,fun hge2=>?_⟩
  · obtain ⟨r,hr,n1,n2,gd13,hJr⟩:=J.st hj0 hlt
    have gd:∀ (m:Nat) u,(zrR r)[m]?=some u->Go.Sx.cell w20 (pIdx pj k19 16) m=some u:=fun m u hu=>zaD h20 (gd13 m u hu)
    obtain ⟨hkl,hja⟩:=zz9 hS hr
    refine ⟨n1,hj0,hlt,n2,_,gd 0 _ rfl,_,gd 1 _ rfl,_,gd 2 _ rfl,_,gd 3 _ rfl,_,gd 4 _ rfl,_,gd 5 _ rfl,_,gd 6 _ rfl,_,gd 7 _ rfl,_,gd 8 _ rfl,_,_,_,gd 9 _ rfl,_,_,_,gd 10 _ rfl,_,gd 11 _ rfl,_,gd 12 _ rfl,_,gd 13 _ rfl,_,gd 14 _ rfl,_,gd 15 _ rfl,fun b41 hb41=>?_⟩
    have haf:r.s.job.aft.length<=8:=by
      have:=(x12'.jO.2 _ (List.mem_of_getElem? (zrZ hkl))).1.len
      rw [hja] at this
      exact this
    refine ⟨fun eq edl edc j w'=>0<=j/\j<=r.s.job.aft.length/\Ext w13 w'/\∃ D:List E,edl=D.length/\Own w13.heap.size w' zH3 2 eq D.length edc (D.flatMap encE)/\(∀ e∈D,0<=e.f/\e.f<e.t/\e.t<S.length/\e.f+1∈(zac F e.t.toNat).job.aft)/\(D.length:Int)<=8*k19+j/\(∀ b∈[b0,b41],∀ a,eq=some a->a.block≠b),fun _ _ _ j _=>(r.s.job.aft.length-j).toNat,⟨by omega,by omega,h20,D,rfl,oD,hD,by omega,fun b hb a ha heq=>?_⟩,?_⟩
    · have:=oD.lt a ha
      have:=e13.size
      simp at hb
      rcases hb with rfl|rfl<;>omega
    rintro ed2 edl2 edc2 j w45 ⟨hi0,hi1,h45,D2,rfl,oD2,hD2,hDl2,hnb⟩
    refine ⟨fun hjl=>?_,fun hge3=>⟨i64 (by omega),⟨by omega,by omega,h45,D2,rfl,oD2,hD2,by omega⟩,by simp only []; omega⟩⟩
    have gj:=zdP.idx (hJr.2.ext h45) hi0 hjl
    have hy:r.s.job.aft.getD j.toNat 0∈(zac F k19.toNat).job.aft:=by rw [hja]; exact zap _ 0 (by omega)
    generalize hyv:r.s.job.aft.getD j.toNat 0=y at gj hy
    have hle:=I.i0.aft k19.toNat hkl y hy
    refine ⟨fun hq=>zai gj (zah.2 hq),hi0,hjl,y,gj,i64 (by omega),?_⟩
    refine znW (v:=.agg #[.int .i64 (y-1),.int .i64 k19]) zux (by omega) oD2 h45.size hnb rfl (by intro u hu; simp [Value.cells] at hu; rcases hu with rfl|rfl<;>rfl) (by omega) (by omega) (by omega) fun p' c' w' o' g' np hns=>⟨i64 (by omega),⟨by omega,by omega,?_,D2++[⟨y-1,k19⟩],by simp,?_,fun e he=>?_,by simp; omega,hns⟩,by simp only []; omega⟩
    · exact g'.ext h45 oD2
    · rw [List.length_append,List.flatMap_append]
      simpa [Value.cells,encE] using o'
    · rcases List.mem_append.1 he with he|he
      · exact hD2 e he
      · simp at he; subst he
        refine ⟨by show 0<=y-1; omega,by show y-1<k19; omega,by show k19<_; omega,?_⟩
        show y-1+1∈_
        rw [show y-1+1=y by omega]
        exact hy
  have hk19:k19=S.length:=by omega
  have eD:zFC w20 eq D:=oD.recs fun _ _=>rfl
  refine ⟨fun k w'=>w'=w20/\0<=k/\k<=D.length,fun k _=>(D.length-k).toNat,⟨rfl,by omega,by omega⟩,?_⟩
  rintro k22 w' ⟨rfl,hk0',hk1'⟩
  refine ⟨fun hlt=>?_,fun hge3 w24 x24=>?_⟩
  · obtain ⟨a1,a2,c0,c1⟩:=zsG eD hk0' hlt
    have hm:=hD _ (zzj (L:=D) (i:=k22.toNat) (by omega))
    have nxt:InR .i64 (k22+1)/\((w'=w'/\0<=k22+1/\k22+1<=D.length)/\(D.length-(k22+1)).toNat<(D.length-k22).toNat):=⟨i64 (by omega),⟨rfl,by omega,by omega⟩,by omega⟩
    have cX:∀ {w'':World},Ext w' w''->zdP .i64 w'' row X:=fun h=>(oX13.ext (h20.trans h)).cells
    refine ⟨a1,hk0',hlt,a2,_,c0,_,c1,fun b26 hb26 w27 h27=>(zkk row rowc X (by omega) _ w27 (cX h27)).mono fun v w28 ⟨e28,hv⟩=>⟨e28,_,hv,fun hin w30 h30=>?_,fun _=>nxt⟩⟩
    have hin':(ed D k22.toNat).t∈X:=by simpa using hin
    refine (zkk row rowc X (by omega) _ w30 (cX h30)).mono fun v w31 ⟨e31,hv⟩=>⟨e31,_,hv,fun hno w33 h33=>?_,fun _ w33 h33=>?_⟩
    · exfalso
      have:=zKW rk hin' hm.2.2.2
      rw [show (ed D k22.toNat).f+1-1=(ed D k22.toNat).f by omega] at this
      simp [this] at hno
    · refine (zsq row rowc X (by omega) _ w33 (cX h33)).mono fun v w34 ⟨e34,t,hv,ht⟩=>⟨e34,t,hv,fun w36 h36=>(zsq row rowc X (by omega) _ w36 (cX h36)).mono fun v w37 ⟨e37,u,hv,hu⟩=>⟨e37,u,hv,fun hbad=>?_,fun _=>nxt⟩⟩
      have:=(zEp (y:=(ed D k22.toNat).f+1) (t:=t) rk hin' hm.2.2.2 (by rw [show (ed D k22.toNat).f+1-1=(ed D k22.toNat).f by omega]; exact ht) hu).2
      omega
  · have h24:=zaa x24
    refine (zI3 S.length eq edc D (by omega) w24 (eD.ext h24)).mono fun v w25 ⟨e25,q',m',d',e',hv,hn,hy⟩=>⟨e25,q',m',d',e',hv,fun w30 h30=>⟨?_,((hW20.trans h24).trans e25).trans h30⟩⟩
    have hE:∀ e∈D,zmD S.length e:=fun e he=>by have:=hD e he; unfold zmD; omega
    by_cases hok2:okG S.length D
    · rcases hy hok2 with ⟨rfl,_⟩|⟨_,_,i,_,hb⟩
      · simp
      · exact absurd (zHV (fun e he=>(hD e he).2.1) hb) (Nat.lt_irrefl _)
    · obtain ⟨he,_⟩:=hn hok2
      have:e'=2:=by
        rw [he]
        unfold zzq
        rw [if_neg (by omega),if_pos (by
          rcases Nat.lt_or_ge 400 D.length with h|h
          · exact h
          · exact absurd ⟨by omega,by omega,h,hE⟩ hok2)]
      rw [this]; simp
theorem zGa (W:World) (hg:GD W):∀ x_0:Option Addr,∀ x_0l:Nat,∀ x_0c:Nat,zaA Tryz.prog W zdR x_0 x_0l x_0c->∀ x_1:Int,InR .i64 x_1->∀ x_2:Int,InR .i64 x_2->∀ x_3:Int,InR .i64 x_3->∀ x_4:Int,InR .i64 x_4->∀ l:Option Addr,∀ ll:Nat,∀ lc:Nat,zaA Tryz.prog W zfu l ll lc ->
    FnP Tryz.prog zcj #[(.agg #[(.slice x_0 x_0l x_0c),(.int .i64 x_1),(.int .i64 x_2),(.int .i64 x_3),(.int .i64 x_4)]),(.slice l ll lc)] W fun v W'=>v=.bool true/\Ext W W':=fun p hl c hA x1 _ x2 _ x3 _ x4 _ q el d hq=>zBg W hg hA x1 x2 x3 x4 hq
end Go.Proofs.YtcceeahmcecbnaaGreatDoor
