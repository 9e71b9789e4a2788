/- The framework, the program's texts and what is shown of them: part 4. -/
import Derived.Test.YtcceeahmcecbnaaGreatDoorWTopJournalUpto3
import Derived.Lib.AtoiAllCases
import Derived.JoinedCond
import Derived.LaidLaws
import Derived.Lib.LaidTab
import Derived.Handed
import Derived.Lib.AppendStr
import Derived.Laws.BitsLemmas
set_option linter.unusedVariables false
set_option linter.unusedSimpArgs false
set_option maxRecDepth 100000
namespace Go.Proofs.YtcceeahmcecbnaaGreatDoor
open Go.Sx Go.RowKit
theorem zg5{l:List UInt8}{n:Int}(h:Lib.parseIntB 64 l=.ok n):InR .i64 n:=by
 have e:(2:Nat)^(64-1)=9223372036854775808:=by decide
 unfold Lib.parseIntB at h
 split at h
 ·cases h
 ·simp only at h
  split at h
  ·cases h
  ·cases h
  ·rename_i u _
   split at h
   ·cases h
   ·rename_i h1
    split at h
    ·cases h
    ·rename_i h3
     injection h with h
     rw[e] at h1 h3
     split at h
     ·rename_i h2;exact i64 (by simp[h2] at h1 h3;omega)
     ·rename_i h2;exact i64 (by simp[h2] at h1 h3;omega)
theorem zpt{s:ByteArray}(h:lbB s=true):∀x∈s.data.toList,x∉sgs:=fun x hx hs=>by
 have key:∀x∈sgs,okC (x.toNat:Int)=false:=by decide
 unfold lbB at h
 simp only[Bool.and_eq_true] at h
 have:=List.all_eq_true.1 h.2 (x.toNat:Int) (List.mem_map.2 ⟨x,hx,rfl⟩)
 rw[key x hs] at this
 cases this
theorem zv2{s:ByteArray}(h:unB s=true):∀x∈s.data.toList,x∉sgs:=by
 unfold unB at h
 simp only[Bool.or_eq_true,decide_eq_true_eq] at h
 rcases h with (h|h)|h<;>(subst h;decide)
theorem zGr{n:Int}(h:0<=n):∀x∈Lib.itoa n,x∉sgs:=fun x hx hs=>by
 have key:∀x∈sgs,x.toNat<48\/57<x.toNat:=by decide
 rcases key x hs with hk|hk
 ·exact zi5 h hk hx
 ·exact zzm h hk hx
theorem zmJ{k y r:List UInt8}{c:UInt8}(hne:k≠[])(hk:∀x∈k,x∉sgs)(hc:c∈sgs):k++y≠c::r:=by
 cases k with
 |nil => exact absurd rfl hne
 |cons a k =>
  intro h
  simp at h
  exact hk a (by simp) (h.1▸hc)
theorem zJ9{s:ByteArray}(h:lbB s=true):s.data.toList≠[]:=fun h0=>by
 have:=(zbR h).1
 rw[<-ziV,h0] at this
 simp at this
theorem zKQ{s:ByteArray}(h:unB s=true):s.data.toList≠[]:=fun h0=>by
 have:=zoM h
 rw[<-ziV,h0] at this
 simp at this
theorem zCD{k:Int}{key val:ByteArray}{n:Int}{l:Nat}(h:zk6 k key val n l=0)(hk:4<=k):key=emS/\val=emS/\n=0:=by
 unfold zk6 at h
 split at h
 ·omega
 split at h
 ·omega
 split at h
 ·omega
 rename_i a
 refine⟨Classical.byContradiction fun h1=>a (.inl ⟨hk,h1⟩),Classical.byContradiction fun h1=>a (.inr (.inl ⟨by omega,h1⟩)),Classical.byContradiction fun h1=>a (.inr (.inr ⟨by omega,h1⟩))⟩
theorem nod1(k:Int)(key val:ByteArray)(n:Int):nod (.mk k key val n [])=1:=by simp[nod,zj6]
theorem znn{t:AT}(h:zeO t=0) :
  (∃key,t=.mk 1 key emS 0 []/\lbB key=true/\txt t=63::key.data.toList) \/
  (∃key val,t=.mk 2 key val 0 []/\lbB key=true/\lbB val=true/\txt t=key.data.toList++61::val.data.toList) \/
  (∃key n,t=.mk 3 key emS n []/\unB key=true/\0<=n/\n<=1099511627776/\txt t=key.data.toList++62::61::Lib.itoa n) \/
  (∃x,t=.mk 4 emS emS 0 [x]/\zeO x=0/\txt t=33::txt x/\nod t=1+nod x) \/
  (∃k x y,(k=5\/k=6)/\t=.mk k emS emS 0 [x,y]/\zeO x=0/\zeO y=0/\txt t=40::(txt x++(if k=5 then 38 else 124)::(txt y++[41]))/\nod t=1+nod x+nod y):=by
 cases t with
 |mk k key val n xs =>
 have h1:zk6 k key val n xs.length=0:=(zgX h).1
 rcases zld h with⟨rfl,x,rfl,hx⟩|⟨hk,x,y,rfl,hx,hy⟩|⟨hk1,hk4,rfl⟩
 ·obtain⟨rfl,rfl,rfl⟩:=zCD h1 (by omega)
  exact .inr (.inr (.inr (.inl ⟨x,rfl,hx,txt4 _ _ _ _,by simp[nod,zj6]⟩)))
 ·obtain⟨rfl,rfl,rfl⟩:=zCD h1 (by omega)
  exact .inr (.inr (.inr (.inr ⟨k,x,y,hk,rfl,hx,hy,zHt hk _ _ _ _ _,by simp[nod,zj6];omega⟩)))
 ·rcases zsm h hk4 with⟨rfl,a,rfl,rfl⟩|⟨rfl,a,b,rfl⟩|⟨rfl,a,rfl,c,d⟩
  ·exact .inl ⟨key,rfl,a,txt1 _ _ _ _⟩
  ·exact .inr (.inl ⟨key,val,rfl,a,b,txt2 _ _ _ _⟩)
  ·exact .inr (.inr (.inl ⟨key,n,rfl,a,c,d,txt3 _ _ _ _⟩))
theorem zGc{rb b0:Nat}{w w' w'':World}(h:Fr (·=rb) w w')(hb:w.heap.size<=b0)(x:zag [b0] [] w' w''):Fr (·=rb) w w'' :=
 h.trans (S':=fun b=>b=b0) (zbL x (by intro d hd;simp at hd;exact .inl hd)) fun b hb'=>.inr (hb'▸hb)
theorem RD.b{B:Nat}{w w':World}{rb b0:Nat}{l:List UInt8}{left:Nat}(o:RD B w rb l left)(hb:b0≠rb)(x:zag [b0] [] w w'):RD B w' rb l left :=
 RD.fr (S:=fun b=>b=b0) o (zbL x (by intro d hd;simp at hd;exact .inl hd)) fun h=>hb h.symm
theorem zi7{rb:Nat}{w w':World}{ns:List Nat}(h:Fr (·=rb) w w')(hn:∀b∈ns,b<w.heap.size/\b≠rb):zbK ns w w':=h.kept hn
structure Post(B rb:Nat)(l:List UInt8)(left:Nat)(w:World)(t:AT)(p:Option Addr)(c:Nat)(ok:Bool)(w':World)(l':List UInt8)(left':Nat)(used:Nat):Prop where
 fr:Fr (·=rb) w w'
 rd:RD B w' rb l' left'
 len:l'.length<=l.length
 le:left'<=left
 good:ok=true->WfA t/\nod t+left'=left+used/\∀S:Nat->Prop,(∀b,S b->b<w.heap.size)->∀w'',Fr S w' w''->IsT w'' t p c
def zBx(B rb:Nat)(l:List UInt8)(left:Nat)(w:World)(t:AT)(p:Option Addr)(c:Nat)(ok:Bool)(w':World):Prop :=
 ∃l' left',Post B rb l left w t p c ok w' l' left' 0/\∀t0 zat,zeO t0=0->nod t0<=left->l=txt t0++zat->sep zat->asc l->ok=true/\t=t0/\l'=zat
def zBT(B rb:Nat)(l:List UInt8)(left:Nat)(w:World)(t:AT)(p:Option Addr)(c:Nat)(ok:Bool)(w':World):Prop :=
 ∃l' left',Post B rb l left w t p c ok w' l' left' 1/\∀(k:Int) (x y:AT) zat,(k=5\/k=6)->zeO x=0->zeO y=0->nod x+nod y<=left->l=txt x++(if k=5 then 38 else 124)::(txt y++41::zat)->asc l->ok=true/\t=.mk k emS emS 0 [x,y]/\l'=zat
def AskC(n:Nat):Prop:=∀(W0 w:World)(B rb left:Nat)(l:List UInt8),(left<=n/\left<=60)->GB W0->Ext W0 w->W0.heap.size<=rb->RD B w rb l left->l.length<=2000 ->
 FnP Tryz.prog za5 #[rp rb] w fun v w'=>∃t p c ok,v=.tuple #[av t p c,.bool ok]/\zBx B rb l left w t p c ok w'
def TwoC(n:Nat):Prop:=∀(W0 w:World)(B rb left:Nat)(l:List UInt8),(left<=n/\left<=60)->GB W0->Ext W0 w->W0.heap.size<=rb->RD B w rb l left->l.length<=2000 ->
 FnP Tryz.prog zeQ #[rp rb] w fun v w'=>∃t p c ok,v=.tuple #[av t p c,.bool ok]/\zBT B rb l left w t p c ok w'
theorem zsl{a b:List UInt8}(h:asc (a++b)):asc b:=fun x hx=>h x (List.mem_append_right _ hx)
theorem zhB{a:UInt8}{b:List UInt8}(h:asc (a::b)):asc b:=fun x hx=>h x (List.mem_cons_of_mem _ hx)
theorem zye{k:Int}(hk:0<=k/\k<=100){a b:List UInt8}(ha:a.length<=2000)(hb:b.length<=2000){n:Int}(hn:InR .i64 n):WfA (.mk k (ofL a) (ofL b) n []):=by
 unfold WfA
 exact⟨i64 (by omega),by rw[zas];omega,by rw[zas];omega,hn,by simp,by unfold WfL;trivial⟩
theorem zow{w:World}{k:Int}{key val:ByteArray}{n:Int}{p:Option Addr}{c:Nat}:IsT w (.mk k key val n []) p c:=by
 unfold IsT
 exact⟨Nat.zero_le _,by unfold IsL;trivial⟩
theorem two_k(n:Nat)(hA:AskC n):TwoC n:=by
 intro W0 w B rb left l hn g h0 hrb o hl
 refine zmU _ w _ fun b0 hb0 w1 x1=>?_
 have hlt:=o.lt
 have hb0r:b0≠rb:=by omega
 have h1:=zaa x1
 have o1:=Own.ext o h1
 refine(hA W0 w1 B rb left l hn g (h0.trans h1) hrb o1 hl).mono fun v w2 ⟨x,px,cx,ok1,hv,l2,left2,P2,C2⟩=>⟨zi7 P2.fr (by intro b hb;simp at hb;subst hb;exact⟨x1.lt _ (by simp),hb0r⟩),x.k,x.key,x.val,x.n,px,x.xs.length,cx,ok1,hv,fun b11 hb11=>⟨fun hno w12 x12=>?_,fun hok w12 x12=>?_⟩⟩
 ·refine⟨zjt,none,0,false,rfl,l2,left2,⟨zGc ((zac h1).tr P2.fr) hb0 x12,RD.b P2.rd hb0r x12,P2.len,P2.le,fun h=>by cases h⟩,fun k a b zat hk ha hb hnod he hasc=>?_⟩
  have:=C2 a _ ha (by omega) he (by split<;>exact zff (by decide)) hasc
  rw[hno] at this
  exact absurd this.1 (by simp)
 subst hok
 obtain⟨hWx,hnx,hTx⟩:=P2.good rfl
 have f2:Fr (·=rb) w w2:=(zac h1).tr P2.fr
 have h12:=zaa x12
 have hb2:rb<w2.heap.size:=P2.rd.lt
 have hb0w:b0<w1.heap.size:=x1.lt b0 (by simp)
 have s12:w1.heap.size<=w2.heap.size:=P2.fr.size
 have hns:∀b∈[b0,b11],b<w12.heap.size/\b≠rb:=by
  intro b hb
  refine⟨x12.lt b hb,?_⟩
  simp at hb
  rcases hb with rfl|rfl
  ·exact hb0r
  ·omega
 have tail:∀(k:Int)(w15:World),(k=5\/k=6)->∀(l4:List UInt8),Fr (·=rb) w2 w15->RD B w15 rb l4 left2->b0<w15.heap.size->b11<w15.heap.size->l4.length<=l2.length ->
   (∀(k':Int) (a b:AT) zat,(k'=5\/k'=6)->zeO a=0->zeO b=0->nod a+nod b<=left->l=txt a++(if k'=5 then 38 else 124)::(txt b++41::zat)->asc l->k'=k/\x=a/\l4=txt b++41::zat) ->
   FnP Tryz.prog za5 #[rp rb] w15 fun v w16=>zbK [b0,b11] w15 w16/\∃y py cy ok2,v=.tuple #[av y py cy,.bool ok2]/\∀b25:Nat,w16.heap.size<=b25 ->
    ∃(J:Bool->Int->ByteArray->ByteArray->Int->Option Addr->Nat->Nat->World->Prop),
     (∀w34,zag [] [b0,b11,b25] w16 w34->Run Tryz.prog (.buildSlice zcl 2 [(0,av x px cx),(1,av y py cy)]) w34 fun v35 w35=>Ext w34 w35/\∃t36:Option Addr,∃tl37:Nat,∃tc38:Nat,v35=(.slice t36 tl37 tc38) /\
      ((ok2=true->∀w39,zag [] [b0,b11,b25] w35 w39->FnP Tryz.prog zaf #[rp rb,.int .u8 41] w39 fun v40 w40=>zbK [b0,b11,b25] w39 w40/\∃t41:Bool,v40=.bool t41/\J t41 k (⟨#[]⟩:ByteArray) (⟨#[]⟩:ByteArray) 0 t36 tl37 tc38 w40)/\(ok2=false->J false k (⟨#[]⟩:ByteArray) (⟨#[]⟩:ByteArray) 0 t36 tl37 tc38 w35))) /\
     (ok2=true->∀w34,zag [] [b0,b11,b25] w16 w34->FnP Tryz.prog zaf #[rp rb,.int .u8 41] w34 fun v35 w35=>zbK [b0,b11,b25] w34 w35/\∃t36:Bool,v35=.bool t36 /\
      ∀w37,zag [] [b0,b11,b25] w35 w37->Run Tryz.prog (.buildSlice zcl 2 [(0,av x px cx),(1,av y py cy)]) w37 fun v38 w38=>Ext w37 w38/\∃t39:Option Addr,∃tl40:Nat,∃tc41:Nat,v38=(.slice t39 tl40 tc41)/\J t36 k (⟨#[]⟩:ByteArray) (⟨#[]⟩:ByteArray) 0 t39 tl40 tc41 w38) /\
     (ok2=false->∀w34,zag [] [b0,b11,b25] w16 w34->Run Tryz.prog (.buildSlice zcl 2 [(0,av x px cx),(1,av y py cy)]) w34 fun v35 w35=>Ext w34 w35/\∃t36:Option Addr,∃tl37:Nat,∃tc38:Nat,v35=(.slice t36 tl37 tc38)/\J false k (⟨#[]⟩:ByteArray) (⟨#[]⟩:ByteArray) 0 t36 tl37 tc38 w35) /\
     (∀ok kk key val nn q ql qc w33,J ok kk key val nn q ql qc w33->∀w34,zag [b0] [] w33 w34->∃t p c ok',Value.tuple #[.agg #[.int .i64 kk,.string key,.string val,.int .i64 nn,.slice q ql qc],.bool ok]=.tuple #[av t p c,.bool ok']/\zBT B rb l left w t p c ok' w34):=by
  intro k w15 hk l4 f15 o15 hb015 hb1115 hl4 hC
  have hl2:=P2.len
  have ext15:Ext W0 w15:=(f2.tr f15).ext h0 (by intro b hb;omega)
  have hle2:=P2.le
  refine(hA W0 w15 B rb left2 l4 (by omega) g ext15 hrb o15 (by omega)).mono fun v w16 ⟨y,py,cy,ok2,hv,l5,left5,P5,C5⟩=>⟨zi7 P5.fr (by intro b hb;simp at hb;rcases hb with rfl|rfl;(· exact⟨hb015,hb0r⟩);exact⟨hb1115,by omega⟩),y,py,cy,ok2,hv,fun b25 hb25=>?_⟩
  have f16:Fr (·=rb) w w16:=(f2.tr f15).tr P5.fr
  have hrb16:rb<w16.heap.size:=P5.rd.lt
  have sz2:w2.heap.size<=w15.heap.size:=f15.size
  have sz5:w15.heap.size<=w16.heap.size:=P5.fr.size
  have szw:w.heap.size<=w2.heap.size:=f2.size
  have hnb:∀(w':World),(∀b∈[b0,b11,b25],b<w'.heap.size)->∀b∈[b0,b11,b25],b<w'.heap.size/\b≠rb:=by
   intro w' h b hb
   refine⟨h b hb,?_⟩
   simp at hb
   rcases hb with rfl|rfl|rfl<;>omega
  have built:∀(w35 w36:World)(q:Option Addr)(qc:Nat),Fr (·=rb) w16 w35->Own w16.heap.size w35 zdN 5 q 2 qc (zos x px cx++zos y py cy)->Fr (fun b=>b=rb) w35 w36 ->
    ok2=true->∀S:Nat->Prop,(∀b,S b->b<w.heap.size)->∀w'',Fr (fun b=>S b\/b=b0) w36 w''->IsT w'' (.mk k emS emS 0 [x,y]) q qc:=by
   intro w35 w36 q qc fa ow fb hok2 S hS w'' fc
   subst hok2
   obtain⟨hWy,hny,hTy⟩:=P5.good rfl
   have fall:Fr (fun b=>b=rb\/S b\/b=b0) w16 w'':=((fa.tr fb).mono fun b hb=>.inl hb).tr (fc.mono fun b hb=>.inr hb)
   have bnd:∀b,(b=rb\/S b\/b=b0)->b<w1.heap.size:=by
    intro b hb
    have:=h1.size
    rcases hb with rfl|hb|rfl
    ·omega
    ·have:=hS b hb;omega
    ·exact hb0w
   have tx:IsT w'' x px cx:=hTx _ bnd w'' ((f15.mono fun b hb=>.inl hb).tr ((P5.fr.mono fun b hb=>.inl hb).tr fall))
   have ty:IsT w'' y py cy:=hTy _ (fun b hb=>by have:=bnd b hb;omega) w'' fall
   unfold IsT
   have hle:=ow.le
   refine⟨by simpa using hle.1,zxn (l:=[(x,px,cx),(y,py,cy)]) (fun j u hu=>?_) (by intro z hz;simp at hz;rcases hz with rfl|rfl<;>assumption)⟩
   have hcell:Go.Sx.cell w35 q j=some u:=ow.cells j u (by simpa using hu)
   have hq:∀a,q=some a->¬(a.block=rb\/S a.block\/a.block=b0):=fun a ha hb=>by
    have:=(ow.lt a ha).1
    have:=bnd _ hb
    omega
   have:=zdP hcell ((fb.mono fun b hb=>.inl hb).tr (fc.mono fun b hb=>.inr hb):Fr (fun b=>b=rb\/S b\/b=b0) w35 w'') hq
   simpa using this
  refine⟨fun ok kk key val nn q ql qc w'=>(kk=k/\key=(⟨#[]⟩:ByteArray)/\val=(⟨#[]⟩:ByteArray)/\nn=0)/\ql=2/\Fr (·=rb) w16 w'/\∃l6,RD B w' rb l6 left5/\l6.length<=l5.length/\(ok=true->ok2=true/\∀S:Nat->Prop,(∀b,S b->b<w.heap.size)->∀w'',Fr (fun b=>S b\/b=b0) w' w''->IsT w'' (.mk k emS emS 0 [x,y]) q qc)/\(∀zat,l5=41::zat->ok2=true->ok=true/\l6=zat),?_,?_,?_,?_⟩
  ·intro w34 x34
   have h34:=zaa x34
   refine zcG zfx [av x px cx,av y py cy] rfl rfl (by intro v hv;simp at hv;rcases hv with rfl|rfl<;>rfl) (by omega) (by omega) fun w35 o35 e35=>⟨e35,_,_,_,rfl,fun hok2 w39 x39=>?_,fun hok2=>?_⟩
   ·have h39:=zaa x39
    have ow:Own w16.heap.size w39 zdN 5 (some ⟨w34.heap.size,0,none⟩) 2 2 (zos x px cx++zos y py cy):=(by simpa[Value.cells,zos] using(o35 w16.heap.size h34.size)) |> fun o=>Own.ext o h39
    refine(zkg (Own.ext (Own.ext (Own.ext P5.rd h34) e35) h39) (by have:=P5.len;omega) 41 41 rfl).mono fun v w40 ⟨f40,hor⟩=>⟨zi7 f40 (hnb w39 x39.lt),?_⟩
    have fa:Fr (·=rb) w16 w39:=zac ((h34.trans e35).trans h39)
    rcases hor with⟨r,hr,hv,o40⟩|⟨hr,hv,o40⟩
    ·exact⟨true,hv,⟨rfl,rfl,rfl,rfl⟩,rfl,fa.tr f40,r,o40,by rw[hr];simp,fun _=>⟨hok2,built w39 w40 _ _ fa ow f40 hok2⟩,fun zat he _=>⟨rfl,by rw[hr] at he;simpa using he⟩⟩
    ·exact⟨false,hv,⟨rfl,rfl,rfl,rfl⟩,rfl,fa.tr f40,l5,o40,Nat.le_refl _,fun h=>(by cases h),fun zat he _=>absurd he (hr zat)⟩
   ·exact⟨⟨rfl,rfl,rfl,rfl⟩,rfl,zac (h34.trans e35),l5,Own.ext (Own.ext P5.rd h34) e35,Nat.le_refl _,fun h=>(by cases h),fun zat he hb=>(by rw[hok2] at hb;cases hb)⟩
  ·intro hok2 w34 x34
   have h34:=zaa x34
   refine(zkg (Own.ext P5.rd h34) (by have:=P5.len;omega) 41 41 rfl).mono fun v w35 ⟨f35,hor⟩=>⟨zi7 f35 (hnb w34 x34.lt),?_⟩
   have fa:Fr (·=rb) w16 w35:=(zac h34).tr f35
   have body:∀(t36:Bool)(l6:List UInt8),RD B w35 rb l6 left5->l6.length<=l5.length->(∀zat,l5=41::zat->ok2=true->t36=true/\l6=zat)->∀w37,zag [] [b0,b11,b25] w35 w37->Run Tryz.prog (.buildSlice zcl 2 [(0,av x px cx),(1,av y py cy)]) w37 fun v38 w38=>Ext w37 w38/\∃t39:Option Addr,∃tl40:Nat,∃tc41:Nat,v38=(.slice t39 tl40 tc41) /\
     ((k=k/\(⟨#[]⟩:ByteArray)=(⟨#[]⟩:ByteArray)/\(⟨#[]⟩:ByteArray)=(⟨#[]⟩:ByteArray)/\(0:Int)=0)/\tl40=2/\Fr (·=rb) w16 w38/\∃l6,RD B w38 rb l6 left5/\l6.length<=l5.length/\(t36=true->ok2=true/\∀S:Nat->Prop,(∀b,S b->b<w.heap.size)->∀w'',Fr (fun b=>S b\/b=b0) w38 w''->IsT w'' (.mk k emS emS 0 [x,y]) t39 tc41)/\(∀zat,l5=41::zat->ok2=true->t36=true/\l6=zat)):=by
    intro t36 l6 o6 hl6 hr6 w37 x37
    have h37:=zaa x37
    refine zcG zfx [av x px cx,av y py cy] rfl rfl (by intro v hv;simp at hv;rcases hv with rfl|rfl<;>rfl) (by omega) (by omega) fun w38 o38 e38=>⟨e38,_,_,_,rfl,⟨rfl,rfl,rfl,rfl⟩,rfl,fa.tr (zac (h37.trans e38)),l6,Own.ext (Own.ext o6 h37) e38,hl6,fun _=>⟨hok2,?_⟩,hr6⟩
    have ow:Own w16.heap.size w38 zdN 5 (some ⟨w37.heap.size,0,none⟩) 2 2 (zos x px cx++zos y py cy):=by simpa[Value.cells,zos] using(o38 w16.heap.size (Nat.le_trans fa.size h37.size))
    exact built w38 w38 _ _ (fa.tr (zac (h37.trans e38))) ow (Fr.refl _ _) hok2
   rcases hor with⟨r,hr,hv,o40⟩|⟨hr,hv,o40⟩
   ·exact⟨true,hv,body true r o40 (by rw[hr];simp) fun zat he _=>⟨rfl,by rw[hr] at he;simpa using he⟩⟩
   ·exact⟨false,hv,body false l5 o40 (Nat.le_refl _) fun zat he _=>absurd he (hr zat)⟩
  ·intro hok2 w34 x34
   have h34:=zaa x34
   refine zcG zfx [av x px cx,av y py cy] rfl rfl (by intro v hv;simp at hv;rcases hv with rfl|rfl<;>rfl) (by omega) (by omega) fun w35 o35 e35=>⟨e35,_,_,_,rfl,⟨rfl,rfl,rfl,rfl⟩,rfl,zac (h34.trans e35),l5,Own.ext (Own.ext P5.rd h34) e35,Nat.le_refl _,fun h=>(by cases h),fun zat he hb=>(by rw[hok2] at hb;cases hb)⟩
  ·rintro ok kk key val nn q ql qc w33 ⟨⟨rfl,rfl,rfl,rfl⟩,rfl,f33,l6,o6,hl6,hgood,hrest⟩ w34 x34
   have hlen5:=P5.len
   have hle5:=P5.le
   refine⟨.mk _ emS emS 0 [x,y],q,qc,ok,rfl,l6,left5,⟨zGc (f16.tr f33) hb0 x34,RD.b o6 hb0r x34,by omega,by omega,fun hok=>?_⟩,fun k' a b zat hk' ha hb hnod he hasc=>?_⟩
   ·obtain⟨hok2,hT⟩:=hgood hok
    obtain⟨hWy,hny,_⟩:=P5.good hok2
    refine⟨zIj (by omega) (by simp) (by intro z hz;simp at hz;rcases hz with rfl|rfl<;>assumption),by simp only[nod,zj6];omega,fun S hS w'' fw=>hT S hS w'' ?_⟩
    exact(zbL x34 (by intro d hd;simp at hd;exact .inl (.inr hd))).tr (fw.mono fun b hb=>.inl hb)
   ·obtain⟨rfl,rfl,hl4'⟩:=hC k' a b zat hk' ha hb hnod he hasc
    have hasc4:asc l4:=by
     rw[hl4']
     rw[he] at hasc
     exact zhB (zsl hasc)
    obtain⟨h5,rfl,hl5⟩:=C5 b (41::zat) hb (by omega) hl4' (zff (by decide)) hasc4
    obtain⟨hk1,hk2⟩:=hrest zat hl5 h5
    exact⟨hk1,rfl,hk2⟩
 refine(zkg (Own.ext P2.rd h12) (by have:=P2.len;omega) 124 124 rfl).mono fun v w13 ⟨f13,hor⟩=>⟨zi7 f13 hns,?_⟩
 have szn:w12.heap.size<=w13.heap.size:=f13.size
 have bnd13:∀b∈[b0,b11],b<w13.heap.size:=fun b hb=>by have:=(hns b hb).1;omega
 rcases hor with⟨r,hr,hv,o13⟩|⟨hr,hv,o13⟩
 ·refine⟨true,hv,fun _ w15 x15=>?_,fun h=>(by cases h)⟩
  refine(tail 6 w15 (.inr rfl) r (((zac h12).tr f13).tr (zac (zaa x15))) (Own.ext o13 (zaa x15)) (x15.lt _ (by simp)) (x15.lt _ (by simp)) (by rw[hr];simp) fun k' a b zat hk' ha hb hnod he hasc=>?_).mono fun v w16 ⟨kp,y,py,cy,ok2,hv,hJ⟩=>⟨kp,y.k,y.key,y.val,y.n,py,y.xs.length,cy,ok2,hv,fun b25 hb25=>?_⟩
  ·obtain⟨_,hxa,hl2⟩:=C2 a _ ha (by omega) he (by split<;>exact zff (by decide)) hasc
   rw[hr] at hl2
   simp only[List.cons.injEq] at hl2
   refine⟨?_,hxa,hl2.2⟩
   rcases hk' with rfl|rfl
   ·exact absurd hl2.1 (by decide)
   ·rfl
  ·obtain⟨J,ja,jb,jc,jd⟩:=hJ b25 hb25
   refine⟨J,?_,jd⟩
   repeat' (first|exact ja|exact jb|exact jc|apply And.intro)
 ·refine⟨false,hv,fun h=>(by cases h),fun _ w15 x15=>?_⟩
  have h15:=zaa x15
  have hns15:∀b∈[b0,b11],b<w15.heap.size/\b≠rb:=fun b hb=>⟨x15.lt b hb,(hns b hb).2⟩
  refine(zkg (Own.ext o13 h15) (by have:=P2.len;omega) 38 38 rfl).mono fun v w16 ⟨f16,hor⟩=>⟨zi7 f16 hns15,?_⟩
  rcases hor with⟨r,hr2,hv,o16⟩|⟨hr2,hv,o16⟩
  ·refine⟨true,hv,fun h=>(by cases h),fun _ w18 x18=>?_⟩
   refine(tail 5 w18 (.inl rfl) r ((((zac h12).tr f13).tr (zac h15)).tr (f16.tr (zac (zaa x18)))) (Own.ext o16 (zaa x18)) (x18.lt _ (by simp)) (x18.lt _ (by simp)) (by rw[hr2];simp) fun k' a b zat hk' ha hb hnod he hasc=>?_).mono fun v w19 ⟨kp,y,py,cy,ok2,hv,hJ⟩=>⟨kp,y.k,y.key,y.val,y.n,py,y.xs.length,cy,ok2,hv,fun b25 hb25=>?_⟩
   ·obtain⟨_,hxa,hl2⟩:=C2 a _ ha (by omega) he (by split<;>exact zff (by decide)) hasc
    rw[hr2] at hl2
    simp only[List.cons.injEq] at hl2
    refine⟨?_,hxa,hl2.2⟩
    rcases hk' with rfl|rfl
    ·rfl
    ·exact absurd hl2.1 (by decide)
   ·obtain⟨J,ja,jb,jc,jd⟩:=hJ b25 hb25
    refine⟨J,?_,jd⟩
    repeat' (first|exact ja|exact jb|exact jc|apply And.intro)
  ·refine⟨false,hv,fun _ w18 x18=>?_,fun h=>(by cases h)⟩
   refine⟨zjt,none,0,false,rfl,l2,left2,⟨zGc ((f2.tr ((zac h12).tr f13)).tr ((zac h15).tr f16)) hb0 x18,RD.b o16 hb0r x18,P2.len,P2.le,fun h=>(by cases h)⟩,fun k a b zat hk ha hb hnod he hasc=>?_⟩
   obtain⟨_,_,hl2⟩:=C2 a _ ha (by omega) he (by split<;>exact zff (by decide)) hasc
   rcases hk with rfl|rfl
   ·exact absurd hl2 (hr2 _)
   ·exact absurd hl2 (hr _)
theorem zJI{P:Program}{t:TypeId}{m:Array (String×TypeId)}(ht:P.underlying t=some (.interface m)){v:Value}(hv:isErr v){cx:Bool}{w:World}{K:Value->World->Prop}(hk:∀b:Bool,(b=true↔v=.nilIface)->K (.bool b) w):Run P (.eq .eql t cx true v .nilIface) w K:=by
 have hb:∀x:Value,∀r:Bool,(Op.equal t x .nilIface).run P w=.ok r w->(eqGuard .eql t (opd cx) (opd true) x .nilIface).run P w=.ok () w->binOp .eql t x .nilIface=(do pure (.bool (<-Op.equal t x .nilIface)))->(MC.sem (.eq .eql t cx true x .nilIface)).run P w=.ok (.bool r) w:=fun x r h1 h2 h3=>by
  show(do eqGuard .eql t (opd cx) (opd true) x .nilIface;binOp .eql t x .nilIface:Sem Value).run P w=_
  rw[Sem.run_bind,h2,Result.andThen_ok,h3,Sem.run_bind,h1,Result.andThen_ok,Sem.run_pure]
 rcases hv with rfl|⟨a,b,rfl⟩
 ·exact⟨_,w,hb _ true (zkx 9999 ht w) (by cases cx<;>rfl) rfl,hk true (by simp)⟩
 ·exact⟨_,w,hb _ false (zkw 9999 ht a b w) (by cases cx<;>rfl) rfl,hk false (by simp)⟩
theorem zCC{P:Program}{t:TypeId}(ht:zuN P t=true){v:Value}(hv:isErr v){cx:Bool}{w:World}{K:Value->World->Prop}(hk:∀b:Bool,(b=true↔v=.nilIface)->K (.bool b) w):Run P (.eq .eql t cx true v .nilIface) w K:=by
 unfold zuN at ht
 split at ht
 ·rename_i m h;exact zJI h hv hk
 ·cases ht
theorem zDv(t:AT):1<=nod t:=by cases t;simp[nod]
theorem ask_k:∀n,AskC n:=by
 intro n
 induction n with
 |zero =>
  intro W0 w B rb left l hn g h0 hrb o hl
  obtain rfl:left=0:=by omega
  obtain⟨_,g1⟩:=o.cells
  refine zg3 _ w _ fun b0 hb0=>⟨by simp,by simp,_,g1,fun _ w2 h2=>⟨zjt,none,0,false,rfl,l,0,⟨zac h2,Own.ext o h2,Nat.le_refl _,Nat.le_refl _,fun h=>(by cases h)⟩,fun t0 zat h1 h3=>absurd (zDv t0) (by omega)⟩,fun h=>absurd rfl h⟩
 |succ n ih =>
  intro W0 w B rb left l hn g h0 hrb o hl
  obtain⟨_,g1⟩:=o.cells
  have hlt:=o.lt
  refine zg3 _ w _ fun b0 hb0=>⟨by simp,by simp,_,g1,fun hz w2 h2=>?_,fun hne=>⟨by simp,by simp,_,g1,i64 (by omega),by simp,by simp,?_⟩⟩
  ·obtain rfl:left=0:=by omega
   exact⟨zjt,none,0,false,rfl,l,0,⟨zac h2,Own.ext o h2,Nat.le_refl _,Nat.le_refl _,fun h=>(by cases h)⟩,fun t0 zat h1 h3=>absurd (zDv t0) (by omega)⟩
  have hb0r:b0≠rb:=by omega
  refine o.left hb0r (m:=left-1) (by omega) fun w3 o3 f3 w4 x4=>?_
  have h4:=zaa x4
  have hk:∀(w' w'':World),b0<w'.heap.size->Fr (·=rb) w' w''->zbK [b0] w' w'':=fun w' w'' hb f=>zi7 f (by intro b hb';simp at hb';subst hb';exact⟨hb,hb0r⟩)
  have f4:Fr (·=rb) w w4:=f3.tr (zac h4)
  have no:∀(w' w'':World)(l':List UInt8),Fr (·=rb) w w'->RD B w' rb l' (left-1)->l'.length<=l.length->zag [b0] [] w' w''->(∀t0 zat,zeO t0=0->nod t0<=left->l=txt t0++zat->sep zat->asc l->False) ->
    zBx B rb l left w zjt none 0 false w'':=fun w' w'' l' f o' hl' x hno =>
   ⟨l',left-1,⟨zGc f hb0 x,RD.b o' hb0r x,hl',by omega,fun h=>(by cases h)⟩,fun t0 zat h1 h2 h3 h5 h6=>(hno t0 zat h1 h2 h3 h5 h6).elim⟩
  refine(zkg (Own.ext o3 h4) hl 63 63 rfl).mono fun v w5 ⟨f5,hor⟩=>⟨hk _ _ (x4.lt _ (by simp)) f5,?_⟩
  have F5:=f4.tr f5
  have sz5:=f5.size
  have hb4:b0<w4.heap.size:=x4.lt _ (by simp)
  rcases hor with⟨r,hr,hv,o5⟩|⟨hr,hv,o5⟩
  ·
   refine⟨true,hv,fun _ w7 x7=>?_,fun h=>(by cases h)⟩
   have h7:=zaa x7
   have hrl:r.length<=2000:=by rw[hr] at hl;simp at hl;omega
   refine(zAf (Own.ext o5 h7) hrl).mono fun v w8 ⟨f8,a,b,hv,hab,o8,hC⟩=>⟨hk _ _ (x7.lt _ (by simp)) f8,_,hv,fun w10 x10=>?_⟩
   have hla:a.length+b.length=r.length:=by rw[hab];simp
   refine⟨.mk 1 (ofL a) (ofL []) 0 [],none,0,true,rfl,b,left-1,⟨zGc ((F5.tr (zac h7)).tr f8) hb0 x10,RD.b o8 hb0r x10,by rw[hr];simp;omega,by omega,fun _=>⟨zye (by omega) (by omega) (by simp) (i64 (by omega)),by rw[nod1];omega,fun S hS w'' _=>zow⟩⟩,fun t0 zat he hnod hl0 hsep hasc=>?_⟩
   rw[hr] at hl0 hasc
   rcases znn he with⟨key,rfl,hkey,ht⟩|⟨key,val,rfl,hkey,hval,ht⟩|⟨key,m,rfl,hkey,_,_,ht⟩|⟨x,rfl,hx,ht,_⟩|⟨k,x,y,hk',rfl,hx,hy,ht,_⟩
   ·rw[ht] at hl0
    simp only[List.cons_append,List.cons.injEq,true_and] at hl0
    obtain⟨rfl,rfl⟩:=hC _ _ hl0 (zhB hasc) (zpt hkey) hsep
    refine⟨rfl,?_,rfl⟩
    rw[zcb];rfl
   ·rw[ht,List.append_assoc] at hl0
    exact absurd hl0.symm (zmJ (zJ9 hkey) (zpt hkey) (by decide))
   ·rw[ht,List.append_assoc] at hl0
    exact absurd hl0.symm (zmJ (zKQ hkey) (zv2 hkey) (by decide))
   ·rw[ht] at hl0;simp at hl0
   ·rw[ht] at hl0;simp at hl0
  refine⟨false,hv,fun h=>(by cases h),fun _ w7 x7=>?_⟩
  have h7:=zaa x7
  refine(zkg (Own.ext o5 h7) hl 33 33 rfl).mono fun v w8 ⟨f8,hor⟩=>⟨hk _ _ (x7.lt _ (by simp)) f8,?_⟩
  have F8:=(F5.tr (zac h7)).tr f8
  have ext8:Ext W0 w8:=F8.ext h0 (by intro b hb;omega)
  have hb7:b0<w7.heap.size:=x7.lt _ (by simp)
  have sz8:=f8.size
  rcases hor with⟨r,hr2,hv,o8⟩|⟨hr2,hv,o8⟩
  ·
   refine⟨true,hv,fun _ w10 x10=>?_,fun h=>(by cases h)⟩
   have h10:=zaa x10
   have hrl:r.length+1=l.length:=by rw[hr2];simp
   refine(ih W0 w10 B rb (left-1) r (by omega) g (ext8.trans h10) hrb (Own.ext o8 h10) (by omega)).mono fun v w11 ⟨y,py,cy,ok2,hv,l2,left2,P2,C2⟩=>⟨hk _ _ (x10.lt _ (by simp)) P2.fr,y.k,y.key,y.val,y.n,py,y.xs.length,cy,ok2,hv,fun b20 hb20 w21 x21=>?_⟩
   have h21:=zaa x21
   have hlen2:=P2.len
   have hle2:=P2.le
   refine zcG zfx [av y py cy] rfl rfl (by intro v hv;simp at hv;subst hv;rfl) (by omega) (by omega) fun w22 o22 e22=>⟨e22,_,_,_,rfl,fun w26 x26=>?_⟩
   have F22:Fr (·=rb) w w22:=((F8.tr (zac h10)).tr P2.fr).tr (zac (h21.trans e22))
   refine⟨.mk 4 emS emS 0 [y],some ⟨w21.heap.size,0,none⟩,1,ok2,rfl,l2,left2,⟨zGc F22 hb0 x26,RD.b (Own.ext (Own.ext P2.rd h21) e22) hb0r x26,by omega,by omega,fun hok=>?_⟩,fun t0 zat he hnod hl0 hsep hasc=>?_⟩
   ·obtain⟨hWy,hny,hTy⟩:=P2.good hok
    refine⟨zIj (by omega) (by simp) (by intro z hz;simp at hz;subst hz;exact hWy),by simp only[nod,zj6];omega,fun S hS w'' fw=>?_⟩
    have fb:Fr (fun b=>S b\/b=b0) w22 w'':=(zbL x26 (by intro d hd;simp at hd;exact .inl (.inr hd))).tr (fw.mono fun b hb=>.inl hb)
    have bnd:∀b,(S b\/b=b0)->b<w10.heap.size:=by
     intro b hb
     have:=x10.lt b0 (by simp)
     have s1:=F8.size
     have s2:=h10.size
     rcases hb with hb|rfl
     ·have:=hS b hb;omega
     ·exact this
    have ty:IsT w'' y py cy:=hTy _ bnd w'' ((zac (h21.trans e22)).tr fb)
    have sA:=P2.fr.size
    have sB:=h21.size
    unfold IsT
    refine⟨by simp,zxn (l:=[(y,py,cy)]) (fun j u hu=>?_) (by intro z hz;simp at hz;subst hz;exact ty)⟩
    have hcell:Go.Sx.cell w22 (some ⟨w21.heap.size,0,none⟩) j=some u:=(o22 0 (Nat.zero_le _)).cells j u (by simpa[Value.cells,zos,AT.k,AT.key,AT.val,AT.n,AT.xs] using hu)
    have:=zdP hcell fb (fun a ha hb=>by obtain rfl:=Option.some.inj ha;have:=bnd _ hb;simp only[] at this;omega)
    simpa using this
   ·rw[hr2] at hl0 hasc
    rcases znn he with⟨key,rfl,hkey,ht⟩|⟨key,val,rfl,hkey,hval,ht⟩|⟨key,m,rfl,hkey,_,_,ht⟩|⟨x,rfl,hx,ht,hnx⟩|⟨k,x,y',hk',rfl,hx,hy,ht,_⟩
    ·rw[ht] at hl0;simp at hl0
    ·rw[ht,List.append_assoc] at hl0
     exact absurd hl0.symm (zmJ (zJ9 hkey) (zpt hkey) (by decide))
    ·rw[ht,List.append_assoc] at hl0
     exact absurd hl0.symm (zmJ (zKQ hkey) (zv2 hkey) (by decide))
    ·rw[ht] at hl0
     simp only[List.cons_append,List.cons.injEq,true_and] at hl0
     obtain⟨h1,rfl,h3⟩:=C2 x zat hx (by omega) hl0 hsep (zhB hasc)
     exact⟨h1,rfl,h3⟩
    ·rw[ht] at hl0;simp at hl0
  refine⟨false,hv,fun h=>(by cases h),fun _ w10 x10=>?_⟩
  have h10:=zaa x10
  refine(zkg (Own.ext o8 h10) hl 40 40 rfl).mono fun v w11 ⟨f11,hor⟩=>⟨hk _ _ (x10.lt _ (by simp)) f11,?_⟩
  have F11:=(F8.tr (zac h10)).tr f11
  have ext11:Ext W0 w11:=F11.ext h0 (by intro b hb;omega)
  have sz11:=f11.size
  have hb10:b0<w10.heap.size:=x10.lt _ (by simp)
  rcases hor with⟨r,hr3,hv,o11⟩|⟨hr3,hv,o11⟩
  ·
   refine⟨true,hv,fun _ w13 x13=>?_,fun h=>(by cases h)⟩
   have h13:=zaa x13
   have hrl:r.length+1=l.length:=by rw[hr3];simp
   refine(two_k n ih W0 w13 B rb (left-1) r (by omega) g (ext11.trans h13) hrb (Own.ext o11 h13) (by omega)).mono fun v w14 ⟨y,py,cy,ok2,hv,l2,left2,P2,C2⟩=>⟨hk _ _ (x13.lt _ (by simp)) P2.fr,y.k,y.key,y.val,y.n,py,y.xs.length,cy,ok2,hv,fun w23 x23=>?_⟩
   have hlen2:=P2.len
   have hle2:=P2.le
   have F14:=(F11.tr (zac h13)).tr P2.fr
   refine⟨y,py,cy,ok2,rfl,l2,left2,⟨zGc F14 hb0 x23,RD.b P2.rd hb0r x23,by omega,by omega,fun hok=>?_⟩,fun t0 zat he hnod hl0 hsep hasc=>?_⟩
   ·obtain⟨hWy,hny,hTy⟩:=P2.good hok
    refine⟨hWy,by omega,fun S hS w'' fw=>?_⟩
    refine hTy (fun b=>S b\/b=b0) (fun b hb=>?_) w'' ((zbL x23 (by intro d hd;simp at hd;exact .inl (.inr hd))).tr (fw.mono fun b hb=>.inl hb))
    have:=x13.lt b0 (by simp)
    have s1:=F11.size
    have s2:=h13.size
    rcases hb with hb|rfl
    ·have:=hS b hb;omega
    ·exact this
   ·rw[hr3] at hl0 hasc
    rcases znn he with⟨key,rfl,hkey,ht⟩|⟨key,val,rfl,hkey,hval,ht⟩|⟨key,m,rfl,hkey,_,_,ht⟩|⟨x,rfl,hx,ht,hnx⟩|⟨k,x,y',hk',rfl,hx,hy,ht,hnx⟩
    ·rw[ht] at hl0;simp at hl0
    ·rw[ht,List.append_assoc] at hl0
     exact absurd hl0.symm (zmJ (zJ9 hkey) (zpt hkey) (by decide))
    ·rw[ht,List.append_assoc] at hl0
     exact absurd hl0.symm (zmJ (zKQ hkey) (zv2 hkey) (by decide))
    ·rw[ht] at hl0;simp at hl0
    ·rw[ht] at hl0
     simp only[List.cons_append,List.cons.injEq,true_and,List.append_assoc,List.nil_append] at hl0
     exact C2 k x y' zat hk' hx hy (by omega) hl0 (zhB hasc)
  refine⟨false,hv,fun h=>(by cases h),fun _ w13 x13=>?_⟩
  have h13:=zaa x13
  have inv:∀t0 zat,zeO t0=0->l=txt t0++zat->(∃key val,t0=.mk 2 key val 0 []/\lbB key=true/\lbB val=true/\l=key.data.toList++61::(val.data.toList++zat))\/(∃key m,t0=.mk 3 key emS m []/\unB key=true/\0<=m/\m<=1099511627776/\l=key.data.toList++62::61::(Lib.itoa m++zat)):=fun t0 zat he hl0=>by
   rcases znn he with⟨key,rfl,hkey,ht⟩|⟨key,val,rfl,hkey,hval,ht⟩|⟨key,m,rfl,hkey,hm1,hm2,ht⟩|⟨x,rfl,hx,ht,hnx⟩|⟨k,x,y',hk',rfl,hx,hy,ht,hnx⟩
   ·rw[ht] at hl0;exact absurd hl0 (hr _)
   ·exact .inl ⟨key,val,rfl,hkey,hval,by rw[hl0,ht];simp⟩
   ·exact .inr ⟨key,m,rfl,hkey,hm1,hm2,by rw[hl0,ht];simp⟩
   ·rw[ht] at hl0;exact absurd hl0 (hr2 _)
   ·rw[ht] at hl0;exact absurd hl0 (hr3 _)
  refine(zAf (Own.ext o11 h13) hl).mono fun v w14 ⟨f14,a,b,hv,hab,o14,hC⟩=>⟨hk _ _ (x13.lt _ (by simp)) f14,_,hv,fun w16 x16=>?_⟩
  have hla:a.length+b.length=l.length:=by rw[hab];simp
  have h16:=zaa x16
  have F14:=(F11.tr (zac h13)).tr f14
  refine(zkg (Own.ext o14 h16) (by omega) 62 62 rfl).mono fun v w17 ⟨f17,hor⟩=>⟨hk _ _ (x16.lt _ (by simp)) f17,?_⟩
  have F17:=(F14.tr (zac h16)).tr f17
  rcases hor with⟨r,hr4,hv,o17⟩|⟨hr4,hv,o17⟩
  ·refine⟨true,hv,fun _ w19 x19=>?_,fun h=>(by cases h)⟩
   have h19:=zaa x19
   have hlr:r.length+1=b.length:=by rw[hr4];simp
   have inv3:∀t0 zat,zeO t0=0->l=txt t0++zat->asc l->∃m,t0=.mk 3 (ofL a) emS m []/\0<=m/\m<=1099511627776/\r=61::(Lib.itoa m++zat):=fun t0 zat he hl0 hasc=>by
    rcases inv t0 zat he hl0 with⟨key,val,rfl,hkey,hval,h⟩|⟨key,m,rfl,hkey,hm1,hm2,h⟩
    ·obtain⟨_,hb⟩:=hC _ _ h hasc (zpt hkey) (zff (by decide))
     rw[hr4] at hb
     simp at hb
    ·obtain⟨ha,hb⟩:=hC _ _ h hasc (zv2 hkey) (zff (by decide))
     rw[hr4] at hb
     simp only[List.cons.injEq,true_and] at hb
     exact⟨m,by rw[ha,zcb],hm1,hm2,hb⟩
   refine(zkg (Own.ext o17 h19) (by omega) 61 61 rfl).mono fun v w20 ⟨f20,hor⟩=>⟨hk _ _ (x19.lt _ (by simp)) f20,?_⟩
   have F20:=(F17.tr (zac h19)).tr f20
   rcases hor with⟨r2,hr5,hv,o20⟩|⟨hr5,hv,o20⟩
   ·refine⟨true,hv,fun h=>(by cases h),fun _ w22 x22=>?_⟩
    have h22:=zaa x22
    have hlr2:r2.length+1=r.length:=by rw[hr5];simp
    refine(zAf (Own.ext o20 h22) (by omega)).mono fun v w23 ⟨f23,a2,b2,hv,hab2,o23,hC2⟩=>⟨hk _ _ (x22.lt _ (by simp)) f23,_,hv,fun w25 x25=>?_⟩
    have h25:=zaa x25
    have hla2:a2.length+b2.length=r2.length:=by rw[hab2];simp
    have F25:=((F20.tr (zac h22)).tr f23).tr (zac h25)
    have ext25:Ext W0 w25:=F25.ext h0 (by intro b hb;omega)
    refine(zjA (ofL a2) (by rw[zas];omega) w25 (g.ext ext25)).mono fun v w26 ⟨e26,m,ev,hv,hcase⟩=>⟨e26,m,ev,hv,?_⟩
    have F26:=F25.tr (zac e26)
    have o26:=Own.ext (Own.ext o23 h25) e26
    refine⟨fun ok kk key val nn q ql qc w'=>(kk=3/\key=ofL a/\val=(⟨#[]⟩:ByteArray)/\nn=m/\q=none/\ql=0/\qc=0)/\w'=w26/\(ok=true↔ev=.nilIface),⟨fun w37 h37=>?_,fun w37 x37=>?_⟩,?_⟩
    ·exact zCC (by kernel_rfl) (hcase.elim (fun h=>.inl h.1) fun h=>.inr h.1) fun t ht=>⟨Ext.refl _,t,rfl,⟨rfl,rfl,rfl,rfl,rfl,rfl,rfl⟩,rfl,ht⟩
    ·exact zCC (by kernel_rfl) (hcase.elim (fun h=>.inl h.1) fun h=>.inr h.1) fun t ht=>⟨Ext.refl _,t,rfl,⟨rfl,rfl,rfl,rfl,rfl,rfl,rfl⟩,rfl,ht⟩
    ·rintro ok kk key val nn q ql qc w36 ⟨⟨rfl,rfl,rfl,rfl,rfl,rfl,rfl⟩,rfl,hok⟩ w37 x37
     refine⟨.mk 3 (ofL a) (ofL []) nn [],none,0,ok,rfl,b2,left-1,⟨zGc F26 hb0 x37,RD.b o26 hb0r x37,by omega,by omega,fun h=>⟨zye (by omega) (by omega) (by simp) ?_,by rw[nod1];omega,fun S hS w'' _=>zow⟩⟩,fun t0 zat he hnod hl0 hsep hasc=>?_⟩
     ·rcases hcase with⟨_,hp⟩|⟨⟨x,y,he⟩,_⟩
      ·exact zg5 hp
      ·rw[hok.1 h] at he;cases he
     ·obtain⟨m',rfl,hm1,hm2,hr6⟩:=inv3 t0 zat he hl0 hasc
      rw[hr5] at hr6
      simp only[List.cons.injEq,true_and] at hr6
      have hasc2:asc r2:=by
       rw[hab,hr4,hr5] at hasc
       exact zhB (zhB (zsl hasc))
      obtain⟨rfl,rfl⟩:=hC2 _ _ hr6 hasc2 (zGr hm1) hsep
      have hp:=zen ⟨hm1,hm2⟩
      rcases hcase with⟨h1,hp'⟩|⟨_,hp'⟩
      ·rw[zcn,hp] at hp'
       cases hp'
       exact⟨hok.2 h1,rfl,rfl⟩
      ·rw[zcn] at hp'
       exact absurd hp (hp' _)
   ·refine⟨false,hv,fun _ w22 x22=>?_,fun h=>(by cases h)⟩
    refine⟨zjt,none,0,false,rfl,no w20 w22 r F20 o20 (by omega) x22 fun t0 zat he hnod hl0 hsep hasc=>?_⟩
    obtain⟨m,_,_,_,h⟩:=inv3 t0 zat he hl0 hasc
    exact hr5 _ h
  ·refine⟨false,hv,fun h=>(by cases h),fun _ w19 x19=>?_⟩
   have h19:=zaa x19
   have inv2:∀t0 zat,zeO t0=0->l=txt t0++zat->asc l->∃val,t0=.mk 2 (ofL a) val 0 []/\lbB val=true/\b=61::(val.data.toList++zat):=fun t0 zat he hl0 hasc=>by
    rcases inv t0 zat he hl0 with⟨key,val,rfl,hkey,hval,h⟩|⟨key,m,rfl,hkey,hm1,hm2,h⟩
    ·obtain⟨ha,hb⟩:=hC _ _ h hasc (zpt hkey) (zff (by decide))
     exact⟨val,by rw[ha,zcb],hval,hb⟩
    ·obtain⟨_,hb⟩:=hC _ _ h hasc (zv2 hkey) (zff (by decide))
     exact absurd hb (hr4 _)
   refine(zkg (Own.ext o17 h19) (by omega) 61 61 rfl).mono fun v w20 ⟨f20,hor⟩=>⟨hk _ _ (x19.lt _ (by simp)) f20,?_⟩
   have F20:=(F17.tr (zac h19)).tr f20
   rcases hor with⟨r2,hr5,hv,o20⟩|⟨hr5,hv,o20⟩
   ·refine⟨true,hv,fun h=>(by cases h),fun _ w22 x22=>?_⟩
    have h22:=zaa x22
    have hlr2:r2.length+1=b.length:=by rw[hr5];simp
    refine(zAf (Own.ext o20 h22) (by omega)).mono fun v w23 ⟨f23,a2,b2,hv,hab2,o23,hC2⟩=>⟨hk _ _ (x22.lt _ (by simp)) f23,_,hv,fun w25 x25=>?_⟩
    have hla2:a2.length+b2.length=r2.length:=by rw[hab2];simp
    refine⟨.mk 2 (ofL a) (ofL a2) 0 [],none,0,true,rfl,b2,left-1,⟨zGc ((F20.tr (zac h22)).tr f23) hb0 x25,RD.b o23 hb0r x25,by omega,by omega,fun _=>⟨zye (by omega) (by omega) (by omega) (i64 (by omega)),by rw[nod1];omega,fun S hS w'' _=>zow⟩⟩,fun t0 zat he hnod hl0 hsep hasc=>?_⟩
    obtain⟨val,rfl,hval,hb⟩:=inv2 t0 zat he hl0 hasc
    rw[hr5] at hb
    simp only[List.cons.injEq,true_and] at hb
    have hasc2:asc r2:=by
     rw[hab,hr5] at hasc
     exact zhB (zsl hasc)
    obtain⟨rfl,rfl⟩:=hC2 _ _ hb hasc2 (zpt hval) hsep
    exact⟨rfl,by rw[zcb],rfl⟩
   ·refine⟨false,hv,fun _ w22 x22=>?_,fun h=>(by cases h)⟩
    refine⟨zjt,none,0,false,rfl,no w20 w22 b F20 o20 (by omega) x22 fun t0 zat he hnod hl0 hsep hasc=>?_⟩
    obtain⟨val,_,_,h⟩:=inv2 t0 zat he hl0 hasc
    exact hr5 _ h
mutual
theorem zo9:∀t:AT,nod t<=1048576->zJg t=nod t
 |.mk k key val n xs,h => by
  unfold zJg nod
  unfold nod at h
  rw[zy1 xs 1 (by omega)]
  omega
theorem zy1:∀(xs:List AT)(a:Int),0<=a/\a+zj6 xs<=1048576->zEZ xs a=a+zj6 xs
 |[],a,_ => by unfold zEZ zj6;simp
 |x::r,a,h => by
  unfold zEZ zj6
  unfold zj6 at h
  have hx:=zo9 x (by omega)
  rw[hx,wrap64 (by omega),zy1 r (a+nod x) (by omega)]
  omega
end
theorem zmD{t:AT}:zmi t=0↔zJg t<=60/\zeO t=0:=by
 unfold zmi
 constructor
 ·intro h
  split at h
  ·cases h
  ·exact⟨by omega,h⟩
 ·rintro⟨h1,h2⟩
  rw[if_neg (by omega),h2]
theorem zDd{s:ByteArray}(h:lbB s=true):asc s.data.toList:=fun x hx=>by
 unfold lbB at h
 simp only[Bool.and_eq_true] at h
 have:=List.all_eq_true.1 h.2 (x.toNat:Int) (List.mem_map.2 ⟨x,hx,rfl⟩)
 unfold okC at this
 simp only[Bool.or_eq_true,Bool.and_eq_true,decide_eq_true_eq] at this
 omega
theorem un_asc{s:ByteArray}(h:unB s=true):asc s.data.toList:=by
 unfold unB at h
 simp only[Bool.or_eq_true,decide_eq_true_eq] at h
 rcases h with (h|h)|h<;>(subst h;unfold asc;decide)
theorem zGq{n:Int}(h:0<=n):asc (Lib.itoa n):=fun x hx=>by
 rcases Nat.lt_or_ge 57 x.toNat with h1|h1
 ·exact absurd hx (zzm h h1)
 ·omega
theorem zsk{a b:List UInt8}(ha:asc a)(hb:asc b):asc (a++b):=fun x hx=>(List.mem_append.1 hx).elim (ha x) (hb x)
theorem ziS{a:UInt8}{b:List UInt8}(ha:a.toNat<128)(hb:asc b):asc (a::b):=fun x hx=>(List.mem_cons.1 hx).elim (fun h=>h▸ha) (hb x)
theorem zEB:∀t:AT,zeO t=0->asc (txt t):=by
 intro t
 induction t using AT.ind with
 |h k key val n xs ih =>
  intro he
  rcases znn he with⟨key,h,hkey,ht⟩|⟨key,val,h,hkey,hval,ht⟩|⟨key,m,h,hkey,hm,_,ht⟩|⟨x,h,hx,ht,hnx⟩|⟨k,x,y',hk',h,hx,hy,ht,hnx⟩
  ·rw[ht];exact ziS (by decide) (zDd hkey)
  ·rw[ht];exact zsk (zDd hkey) (ziS (by decide) (zDd hval))
  ·rw[ht];exact zsk (un_asc hkey) (ziS (by decide) (ziS (by decide) (zGq hm)))
  ·injection h with _ _ _ _ h5
   rw[ht];exact ziS (by decide) (ih x (by rw[h5];simp) hx)
  ·injection h with _ _ _ _ h5
   rw[ht]
   refine ziS (by decide) (zsk (ih x (by rw[h5];simp) hx) (ziS (by split<;>decide) (zsk (ih y' (by rw[h5];simp) hy) (ziS (by decide) (fun z hz=>by cases hz)))))
theorem zHK(t:AT)(p:Option Addr)(c:Nat)(w:World)(hT:IsT w t p c)(hW:WfA t)(hn:nod t<=1048576)(g:GP w):FnP Tryz.prog zjv #[av t p c] w fun v w'=>Ext w w'/\((zmi t≠0/\v=.tuple #[.string emS,.int .i64 (zmi t)])\/(zmi t=0/\v=.tuple #[.string (ofL (txt t)),.int .i64 0])):=by
 refine zxz t.k t.key t.val t.n p t.xs.length c w _ fun b0 _ w1 h1=>(zoR t p c w1 (hT.ext h1) hW).mono fun v w2 ⟨e2,hv⟩=>⟨e2,_,hv,fun hne w4 h4=>⟨h4,.inl ⟨hne,rfl⟩⟩,fun he w4 h4=>?_⟩
 exact(text_k t p c w4 (hT.ext h4) (zmD.1 he).2 (by omega) (g.ext h4)).mono fun v w5 ⟨e5,hv⟩=>⟨e5,_,hv,fun w7 h7=>⟨h7,.inr ⟨he,rfl⟩⟩⟩
theorem zmh(w:World):IsT w zjt none 0:=zow
theorem zqv:WfA zjt:=by
 unfold WfA
 exact⟨i64 (by omega),by decide,by decide,i64 (by omega),by simp,by unfold WfL;trivial⟩
theorem zwF(s:ByteArray)(w:World)(g:GB w):FnP Tryz.prog zju #[.string s] w fun v w'=>Ext w w'/\∃t p c e,v=.tuple #[av t p c,.int .i64 e]/\WfA t/\(∀S:Nat->Prop,(∀b,S b->b<w.heap.size)->∀w'',Fr S w' w''->IsT w'' t p c) /\
  ((e≠0/\t=zjt/\p=none/\c=0)\/(e=0/\zmi t=0/\nod t<=60/\s=ofL (txt t)/\s.size<=2000))/\(∀t0,zmi t0=0->nod t0<=1048576->s=ofL (txt t0)->s.size<=2000->e=0/\t=t0):=by
 refine zxy s w _ fun b0 hb0=>⟨fun hbig w1 h1=>?_,fun hsm w1 x1=>?_⟩
 ·exact⟨h1,zjt,none,0,2,rfl,zqv,fun _ _ _ _=>zmh _,.inl ⟨by decide,rfl,rfl,rfl⟩,fun t0 _ _ _ h=>by omega⟩
 have h1:=zaa x1
 refine zbp (by intro v hv;simp at hv;rcases hv with rfl|rfl<;>rfl) fun w2 o2 e2 w3 x3=>?_
 have h3:=zaa x3
 have hw3:Ext w w3:=(h1.trans e2).trans h3
 have o3:RD w1.heap.size w3 w1.heap.size s.data.toList 60:=by
  have:=Own.ext (o2 w1.heap.size (Nat.le_refl _)) h3
  simpa[RD,zcb] using this
 have hb1:b0<w1.heap.size:=x1.lt b0 (by simp)
 have s13:w1.heap.size<=w3.heap.size:=Nat.le_trans e2.size h3.size
 refine(ask_k 60 w w3 w1.heap.size w1.heap.size 60 s.data.toList (by omega) g hw3 h1.size o3 (by rw[ziV];omega)).mono fun v w4 ⟨t,p,c,ok,hv,l',left',P,C⟩=>⟨zi7 P.fr (by intro b hb;simp at hb;subst hb;exact⟨by omega,by omega⟩),t.k,t.key,t.val,t.n,p,t.xs.length,c,ok,hv,fun b13 hb13=>⟨fun hno w14 x14=>?_,fun hok w14 h14=>?_⟩⟩
 ·have hw4:Ext w w4:=P.fr.ext hw3 (by intro b hb;have:=h1.size;omega)
  refine⟨zav x14 hw4 (by intro d hd;simp at hd;omega),zjt,none,0,3,rfl,zqv,fun _ _ _ _=>zmh _,.inl ⟨by decide,rfl,rfl,rfl⟩,fun t0 he hn hs _=>?_⟩
  obtain⟨h5,h6⟩:=zmD.1 he
  rw[zo9 t0 hn] at h5
  have:=C t0 [] h6 (by omega) (by rw[hs,zcn,List.append_nil]) (.inl rfl) (by rw[hs,zcn];exact zEB t0 h6)
  rw[hno] at this
  exact absurd this.1 (by simp)
 ·have hw4:Ext w w4:=P.fr.ext hw3 (by intro b hb;have:=h1.size;omega)
  obtain⟨hWt,hnt,hTt⟩:=P.good hok
  have hT14:IsT w14 t p c:=hTt (fun _=>False) (fun _ h=>h.elim) w14 (zac h14)
  have hcomp:∀t0,zmi t0=0->nod t0<=1048576->s=ofL (txt t0)->t=t0:=fun t0 he hn hs=>by
   obtain⟨h5,h6⟩:=zmD.1 he
   rw[zo9 t0 hn] at h5
   exact(C t0 [] h6 (by omega) (by rw[hs,zcn,List.append_nil]) (.inl rfl) (by rw[hs,zcn];exact zEB t0 h6)).2.1
  have hgp:GP w14:=⟨(g.ext (hw4.trans h14)).pow⟩
  refine(zHK t p c w14 hT14 hWt (by omega) hgp).mono fun v w15 ⟨e15,hor⟩=>?_
  have fin:∀w18,zag [b0] [] w4 w18->Ext w w18/\∀S:Nat->Prop,(∀b,S b->b<w.heap.size)->∀w'',Fr S w18 w''->IsT w'' t p c:=fun w18 x18=>⟨zav x18 hw4 (by intro d hd;simp at hd;omega),fun S hS w'' fw=>hTt (fun b=>S b\/b=b0) (fun b hb=>by have s1:=hw3.size;rcases hb with hb|hb;(· have:=hS b hb;omega);omega) w'' ((zbL x18 (by intro d hd;simp at hd;exact .inl (.inr hd))).tr (fw.mono fun b hb=>.inl hb))⟩
  rcases hor with⟨hne,hv⟩|⟨he0,hv⟩
  ·refine⟨e15,_,_,hv,fun _ w18 x18=>⟨(fin w18 x18).1,zjt,none,0,3,rfl,zqv,fun _ _ _ _=>zmh _,.inl ⟨by decide,rfl,rfl,rfl⟩,fun t0 he hn hs _=>?_⟩,fun h=>absurd h.1 hne⟩
   have:=hcomp t0 he hn hs
   subst this
   exact absurd he hne
  ·refine⟨e15,_,_,hv,fun hbad w18 x18=>⟨(fin w18 x18).1,zjt,none,0,3,rfl,zqv,fun _ _ _ _=>zmh _,.inl ⟨by decide,rfl,rfl,rfl⟩,fun t0 he hn hs _=>?_⟩,fun hgd w18 x18=>⟨(fin w18 x18).1,t,p,c,0,rfl,hWt,(fin w18 x18).2,.inr ⟨rfl,he0,by omega,hgd.2.symm,by omega⟩,fun t0 he hn hs _=>⟨rfl,hcomp t0 he hn hs⟩⟩⟩
   have:=hcomp t0 he hn hs
   subst this
   exact hbad.elim (fun h=>absurd rfl h) fun h=>absurd hs.symm h
abbrev Bs:=List UInt8
def bI(l:Bs):List Int:=l.map fun b=>(b.toNat:Int)
def bT(l:Bs):ByteArray:=⟨l.toArray⟩
theorem zo1(l:Bs):(bI l).length=l.length:=by simp[bI]
theorem zo0(a b:Bs):bI (a++b)=bI a++bI b:=by simp[bI]
theorem bI_rng(l:Bs):∀x∈bI l,0<=x/\x<=255:=fun x hx=>by
 obtain⟨b,hb,rfl⟩:=List.mem_map.1 hx
 have:=b.toNat_lt
 omega
theorem bT_inj{a b:Bs}:bT a=bT b↔a=b:=by
 refine⟨fun h=>?_,fun h=>by rw[h]⟩
 have:(bT a).data.toList=(bT b).data.toList:=by rw[h]
 simpa[bT] using this
theorem zB3(l:Bs):(bT l).size=l.length:=rfl
def ub(x:Int):UInt8:=UInt8.ofNat (x%256).toNat
theorem zhd(x:Int):((ub x).toNat:Int)=x%256:=by
 unfold ub
 rw[UInt8.toNat_ofNat']
 omega
theorem zyv(x:Int):IntKind.wrap .u8 x=((ub x).toNat:Int):=by
 rw[zhd]
 simp[IntKind.wrap,IntKind.signed,IntKind.bits]
theorem zp3{P:Program}{src dst e:TypeId}(hs:P.underlying src=some (.slice e))(he:P.underlying e=some (.int .u8))(hd:P.underlying dst=some .string){w:World}{p:Option Addr}{l c:Nat}{bs:Bs}(hl:bs.length=l)(h:zeh .u8 w p (bI bs))
  {K:Value->World->Prop} (hk:K (.string (bT bs)) w):Run P (.convert src dst (.slice p l c)) w K:=by
 refine⟨_,w,?_,hk⟩
 refine(run_convert_bytes_string w src dst e p l c hs he hd).trans ?_
 subst hl
 cases p with
 |none =>
  cases bs with
  |nil => rfl
  |cons b r => exact absurd rfl (zaj (h 0 (.int .u8 b.toNat) rfl))
 |some a =>
  have hld:=run_loadCells_list (P:=P) w a ((bI bs).map (.int .u8)) fun j v hv=>by
   have:=h j v hv
   simpa[cell] using this
  rw[List.length_map,zo1] at hld
  rw[run_bytesToString w a bs.length c (bI bs) hld,foldl_push_bytes]
  congr 2
  simp only[bI,bT,List.map_map]
  congr 1
  show #[]++_=_
  rw[Array.empty_append]
  congr 1
  conv=>rhs;rw[<-List.map_id bs]
  refine List.map_congr_left fun b _=>?_
  simp
theorem zHc{P:Program}{src dst e:TypeId}{s:ByteArray}(hs:P.underlying src=some .string)(hd:P.underlying dst=some (.slice e))(he:P.underlying e=some (.int .u8)){w:World}{K:Value->World->Prop}
  (hk:∀p c w',Ext w w'->zeh .u8 w' p (bI s.data.toList)->K (.slice p s.size c) w'):Run P (.convert src dst (.string s)) w K:=by
 refine⟨_,_,run_bytes_of_string w src dst e s hs hd he,hk _ _ _ ?_ fun i v hv=>?_⟩
 ·exact Below.alloc (B:=w.heap.size) (a:=w) (w:=w.drew) ⟨rfl,rfl,rfl,Nat.le_refl _,fun _ _=>rfl⟩ (Nat.le_refl _) _
 ·obtain⟨hi,hv⟩:=List.getElem?_eq_some_iff.1 hv
  have hi':i<s.data.size:=by simpa[bI] using hi
  have hc:=World.cell?_alloc_mark w.drew (bytesRow s (grownCap w s.size 0 e)) e ((bytesRow s (grownCap w s.size 0 e)).size,(bytesRow s (grownCap w s.size 0 e)).size+1) i
  rw[bytesRow_at s _ i hi'] at hc
  simp only[cell,Option.bind_some]
  have ha:(Addr.add ⟨w.heap.size,0,none⟩ i)=⟨w.drew.heap.size,i,none⟩:=by simp[Addr.add];intro h;exact h.symm
  rw[ha,hc,<-hv]
  simp[bI]
theorem zG3{P:Program}{t ty e:TypeId}{s b:Nat}{z:Value}(he:zfW P t=some (e,s,b,z)){w:World}{p q:Option Addr}{n c d:Nat}(hnc:n<=c){K:Value->World->Prop}(hk:K (.slice p n c) w):Run P (.append #[t,t] ty [.slice p n c,.slice q 0 d]) w K:=by
 obtain⟨i,g1,g2,g3,rfl,rfl,g6⟩:=zd0 he
 refine⟨_,w,?_,hk⟩
 show(Builtin.append_ #[t,t] ty #[.slice p n c,.slice q 0 d]).run P w=_
 cases p<;>cases q<;>simp[Builtin.append_,run_underlying g1,sizeOf,typeInfo,g2,Builtin.lenOf,Builtin.firstCells,loadCells,loadCellsFrom,hnc,storeCells]
theorem zlV{B:Nat}{w:World}{p q:Option Addr}{n c m d:Nat}{a b:Bs}{K:Value->World->Prop}(ho:Own B w zaF 1 p n c ((bI a).map (.int .u8)))(hB:B<=w.heap.size)(hm:b.length=m)(hn:zeh .u8 w q (bI b))(hb:n+m<=140737488355328)
  (hk:∀p' c' w',Own B w' zaF 1 p' (n+m) c' ((bI (a++b)).map (.int .u8))->zco w w' p p'->K (.slice p' (n+m) c') w'):Run Tryz.prog (.append #[zbM,zbM] zbM [.slice p n c,.slice q m d]) w K:=by
 cases b with
 |nil =>
  simp at hm;subst hm
  refine zG3 zbf ho.le.1 (hk p c w (by simpa using ho) (zhJ (Ext.refl w)))
 |cons x r =>
  refine zkR zbf (by omega) ho hB (fun hq=>zaj (hn 0 (.int .u8 x.toNat) rfl) hq) (news:=(bI (x::r)).map (.int .u8)) (by simp[zo1,<-hm]) hn (by intro u hu;obtain⟨y,_,rfl⟩:=List.mem_map.1 hu;rfl) (by omega) (by omega) fun p' c' w' o g _=>hk p' c' w' ?_ g
  rw[zo0,List.map_append];exact o
theorem ztv{w:World}(bs:Bs){n:Nat}{parts:List (Nat×Value)}{K:Value->World->Prop}(hp:parts=znb 0 ((bI bs).map (.int .u8)))(hn:n=bs.length)(h0:0<n)(h24:n<=16777216)
  (hk:∀w',(∀B,B<=w.heap.size->Own B w' zaF 1 (some ⟨w.heap.size,0,none⟩) n n ((bI bs).map (.int .u8)))->Ext w w'->K (.slice (some ⟨w.heap.size,0,none⟩) n n) w'):Run Tryz.prog (.buildSlice zbM n parts) w K:=by
 refine zcG zbf ((bI bs).map (.int .u8)) hp (by simp[zo1,hn]) (fun v hv=>by obtain⟨y,_,rfl⟩:=List.mem_map.1 hv;rfl) (by omega) (by omega) fun w' o e=>hk w' (fun B hB=>?_) e
 have:=o B hB
 have hcs:(List.map (Value.int IntKind.u8) (bI bs)).flatMap (fun v=>v.cells.toList)=(bI bs).map (.int .u8):=by
  generalize bI bs=l
  induction l with
  |nil => rfl
  |cons a r ih => simp only[List.map_cons,List.flatMap_cons,ih];rfl
 rwa [hcs] at this
def mixJ(u c:Int):Int:=zaw .xor .u64 (IntKind.wrap .u64 ((IntKind.wrap .u64 (u+c))*11400714785074694791)) (zaw .shr .u64 (IntKind.wrap .u64 ((IntKind.wrap .u64 (u+c))*11400714785074694791)) 31)
def zE8(key:Int)(l:Bs):Int:=(bI l).foldl mixJ key
theorem zEo(key:Int)(l:Bs){k:Nat}(h:k<l.length):zE8 key (l.take (k+1))=mixJ (zE8 key (l.take k)) ((bI l).getD k 0):=by
 rw[List.take_succ_eq_append_getElem h]
 unfold zE8
 rw[zo0,List.foldl_append]
 simp[bI,List.getD_eq_getElem?_getD,h]
theorem Sum_k(key:Int)(s:Bs)(hs:s.length<=9223372036854775806)(w:World):FnP Tryz.prog ziP #[.int .u64 key,.string (bT s)] w fun v w'=>Ext w w'/\v=.int .u64 (zE8 key s):=by
 refine zth key (bT s) w _ fun w0 h0=>zHc (e:=zaF) (by kernel_rfl) (by kernel_rfl) (by kernel_rfl) fun p c w1 e1 hb=>⟨e1,p,s.length,c,rfl,?_⟩
 have hlen:=zo1 s
 have hb:zeh .u8 w1 p (bI s):=hb
 refine⟨fun u k w'=>w'=w1/\0<=k/\k<=s.length/\u=zE8 key (s.take k.toNat),fun _ k _=>(s.length-k).toNat,⟨rfl,by omega,by omega,by simp[zE8,bI]⟩,?_⟩
 rintro u k w1 ⟨rfl,hk0,hk1,rfl⟩
 refine⟨fun hlt=>?_,fun hge w9 h9=>⟨(h0.trans e1).trans h9,?_⟩⟩
 ·have g:=zeh.idx hb hk0 (by omega)
  have hr:=bI_rng s _ (zaq (bI s) 0 (i:=k.toNat) (by omega))
  refine⟨fun hq=>zaj g (zah.2 hq),hk0,hlt,_,g,⟨by show(0:Int)<=_;omega,by show _<=(18446744073709551615:Int);omega⟩,i64 (by omega),⟨rfl,by omega,by omega,?_⟩,by simp only[];omega⟩
  rw[show(k+1).toNat=k.toNat+1 by omega,zEo _ _ (by omega)]
  rfl
 ·rw[List.take_of_length_le (by omega)]
def tl8(S:Int)(k:Nat):Bs:=(List.range k).map fun(j:Nat)=>ub (zaw .shr .u64 S (56-8*(j:Int)))
theorem zz3(S:Int)(k:Nat):tl8 S (k+1)=tl8 S k++[ub (zaw .shr .u64 S (56-8*(k:Int)))]:=by
 unfold tl8;rw[List.range_succ,List.map_append];rfl
theorem zKP(S:Int)(k:Nat):(tl8 S k).length=k:=by simp[tl8]
def fr0(bs:Bs):Bs:=[ub (zaw .shr .i64 (bs.length:Int) 8),ub (bs.length:Int)]++bs
def fr(bs:Bs):Bs:=fr0 bs++tl8 (zE8 0 bs) 8
theorem zge(bs:Bs):(fr bs).length=bs.length+10:=by simp[fr,fr0,zKP]
section
variable {W0 w:World} {d p:Option Addr} {n c:Nat} {sf:Int} {bs:Bs} {rs:List zn3}
theorem zyA{q:Option Addr}{m mc:Nat}{b:Bs}(w:World)(hm:b.length=m)(hb:m<=1000000)(hi:zeh .u8 w q (bI b)):FnP Tryz.prog zhk #[.slice q m mc] w fun v w'=>Ext w w'/\∃p c,v=.slice p m c/\Own w.heap.size w' zaF 1 p m c ((bI b).map (.int .u8)):=by
 refine zqR q m mc w _ ⟨fun hq w0 h0=>?_,fun hq w0 h0=>?_⟩
 ·subst hq
  cases b with
  |nil => simp at hm;subst hm;exact⟨h0,none,0,rfl,Own.nil⟩
  |cons x r => exact absurd rfl (zaj (hi 0 (.int .u8 x.toNat) rfl))
 ·refine zzR zbf fun w1 o1 e1=>⟨e1,_,_,_,rfl,fun w5 h5=>?_⟩
  have o5:Own w0.heap.size w5 zaF 1 (some ⟨w0.heap.size,0,none⟩) 0 0 ((bI []).map (.int .u8)):=(o1 w0.heap.size (Nat.le_refl _)).ext h5
  refine zlV o5 (e1.trans h5).size hm (((hi.ext h0).ext e1).ext h5) (by omega) fun p' c' w6 o6 g6=>⟨p',_,c',rfl,fun w10 h10=>?_⟩
  have h06:Ext w0 w6:=g6.ext (e1.trans h5) o5
  refine⟨(h0.trans h06).trans h10,p',c',by rw[Nat.zero_add],?_⟩
  rw[Nat.zero_add] at o6
  exact(o6.weak h0.size).ext h10
end
theorem zwB{p q:Option Addr}{l c m mc:Nat}{a b:Bs}(w:World)(hl:a.length=l)(hm:b.length=m)(ha:zeh .u8 w p (bI a))(hb:zeh .u8 w q (bI b)):FnP Tryz.prog zbb #[.slice p l c,.slice q m mc] w fun v w'=>Ext w w'/\v=.bool (decide (a=b)):=by
 refine zqS p l c q m mc w _ fun w0 h0=>zp3 (e:=zaF) (by kernel_rfl) (by kernel_rfl) (by kernel_rfl) hl (ha.ext h0) ⟨Ext.refl _,_,rfl,fun w3 h3=>zp3 (e:=zaF) (by kernel_rfl) (by kernel_rfl) (by kernel_rfl) hm (hb.ext h3) ⟨Ext.refl _,_,rfl,fun w6 h6=>⟨h6,?_⟩⟩⟩
 congr 1
 exact decide_eq_decide.2 bT_inj
theorem zDI{n:Int}(h:-1099511627776<=n/\n<0):Lib.parseIntB 64 (Lib.itoa n)=.ok n:=by
 unfold Lib.itoa
 rw[if_pos (by omega),Lib.parseIntB_minus]
 unfold Lib.parseUintB
 rw[if_neg (zpb _),show(2:Nat)^64-1=18446744073709551615 by decide,zvB _ (by omega)]
 show(if (2:Nat)^(64-1)<n.natAbs then _ else _)=_
 rw[if_neg (by
  have:(2:Nat)^(64-1)=9223372036854775808:=by decide
  omega)]
 congr 1;omega
theorem zg4{n:Int}(h:-1099511627776<=n/\n<=1099511627776):Lib.parseIntB 64 (Lib.itoa n)=.ok n:=by
 rcases Int.lt_or_le n 0 with h0|h0
 ·exact zDI ⟨h.1,h0⟩
 ·exact zen ⟨h0,h.2⟩
theorem zGp{n:Int}:∀c∈Lib.itoa n,c=45\/(48<=c.toNat/\c.toNat<=57):=fun c hc=>by
 unfold Lib.itoa at hc
 split at hc
 ·rcases List.mem_cons.1 hc with h|h
  ·exact .inl h
  ·exact .inr (zc2 _ c h)
 ·exact .inr (zc2 _ c hc)
theorem zAr(l:List UInt8):Lib.atoiAll l=Lib.parseIntB 64 l:=by
 unfold Lib.atoiAll Lib.parseIntB
 cases l with
 |nil => rfl
 |cons c r =>
  simp only[Lib.parseUintB_64]
  rfl
theorem zrx(s:ByteArray)(hs:s.size<=281474976710656)(w:World)(g:GB w):FnP Tryz.prog zdh #[.string s] w fun v w'=>Ext w w'/\∃(n:Int) (ev:Value),v=.tuple #[.int .i64 n,ev] /\
  ((ev=.nilIface/\Lib.parseIntB 64 s.data.toList=.ok n)\/((∃a b,ev=.iface a b)/\∀m,Lib.parseIntB 64 s.data.toList≠.ok m)):=by
 have en:znF Tryz.prog zdh:=fun args w=>Tryz.call175 args w
 rw[<-zAr]
 cases hp:Lib.atoiAll s.data.toList with
 |ok v =>
  refine⟨en,(Tryz.strconv_Atoi_ok s (by omega) v hp w).mono fun e w' ⟨he,hw⟩=>⟨_,he,?_,v,.nilIface,rfl,.inl ⟨rfl,rfl⟩⟩⟩
  rcases hw with rfl|⟨t,rfl⟩
  ·exact Ext.refl _
  ·exact Lib.bytesWorld_below w 5 t
 |range =>
  obtain⟨ev,h1,h2⟩:=g.eRan
  exact⟨en,(Tryz.strconv_Atoi_range s hs hp ev w (zwU h1) h2).mono fun e w' ⟨N,he,_,_,hb⟩=>⟨_,he,hb,_,_,rfl,.inr ⟨⟨_,_,rfl⟩,fun m h=>by cases h⟩⟩⟩
 |_ =>
  obtain⟨ev,h1,h2⟩:=g.eSyn
  exact⟨en,(Tryz.strconv_Atoi_syntax s hs hp ev w (zwU h1) h2).mono fun e w' ⟨N,he,_,_,hb⟩=>⟨_,he,hb,_,_,rfl,.inr ⟨⟨_,_,rfl⟩,fun m h=>by cases h⟩⟩⟩
theorem znH(n:Int)(h:-9223372036854775808<=n/\n<=9223372036854775807)(w:World)(g:GB w):FnP Tryz.prog zbu #[.int .i64 n] w fun v w'=>Ext w w'/\v=.string (ofL (Lib.itoa n)) :=
 ⟨fun args w=>Tryz.call105 args w,(Tryz.strconv_Itoa n h.1 h.2 w g.pow).mono fun e w' ⟨he,k,os,hw⟩=>⟨_,he,by rw[hw];exact zmw,rfl⟩⟩
structure Jb where
 user:ByteArray
 prio:Int
 nd:Nd
 ask:AT
 aft:List Int
abbrev jcs(j:Jb)(pa:Option Addr)(ca:Nat)(pf:Option Addr)(cf:Nat):List Value:=[.string j.user,.int .i64 j.prio,.int .i64 j.nd.c,.int .i64 j.nd.m,.int .i64 j.nd.g,.int .i64 j.ask.k,.string j.ask.key,.string j.ask.val,.int .i64 j.ask.n,.slice pa j.ask.xs.length ca,.slice pf j.aft.length cf]
abbrev jv(j:Jb)(pa:Option Addr)(ca:Nat)(pf:Option Addr)(cf:Nat):Value:=.agg #[.string j.user,.int .i64 j.prio,.int .i64 j.nd.c,.int .i64 j.nd.m,.int .i64 j.nd.g,.int .i64 j.ask.k,.string j.ask.key,.string j.ask.val,.int .i64 j.ask.n,.slice pa j.ask.xs.length ca,.slice pf j.aft.length cf]
def IsJ(w:World)(j:Jb)(pa:Option Addr)(ca:Nat)(pf:Option Addr):Prop:=IsT w j.ask pa ca/\zeh .i64 w pf j.aft
theorem IsJ.ext{w w':World}{j:Jb}{pa:Option Addr}{ca:Nat}{pf:Option Addr}(h:IsJ w j pa ca pf)(e:Ext w w'):IsJ w' j pa ca pf:=⟨h.1.ext e,h.2.ext e⟩
structure WfJ(j:Jb):Prop where
 user:j.user.size<=9223372036854775807
 prio:InR .i64 j.prio
 nd:rng j.nd
 ask:WfA j.ask
 len:j.aft.length<=9223372036854775807
 aft:∀x∈j.aft,InR .i64 x
def upA:Int->List Int->Prop
 |_,[] => True
 |a,x::r => 1<=x/\x<=60/\a<x/\upA x r
theorem zz9{l:List Int}:∀{a:Int}(k:Nat),upA a l->upA a (l.take k):=by
 induction l with
 |nil => intro a k _;simp[upA]
 |cons x r ih =>
  intro a k h
  cases k with
  |zero => simp[upA]
  |succ k => exact⟨h.1,h.2.1,h.2.2.1,ih k h.2.2.2⟩
def zuS(a:Int)(l:List Int):Int:=l.getLast?.getD a
theorem zoN{x:Int}:∀{l:List Int}{a:Int},upA a (l++[x])↔upA a l/\1<=x/\x<=60/\zuS a l<x
 |[],a => by simp[upA,zuS]
 |y::r,a => by
  have ih:=zoN (l:=r) (a:=y) (x:=x)
  simp only[List.cons_append,upA,ih]
  have:zuS a (y::r)=zuS y r:=by
   unfold zuS
   cases r with
   |nil => rfl
   |cons z r => simp[List.getLast?_cons]
  rw[this]
  constructor
  ·rintro⟨h1,h2,h3,h4,h5⟩;exact⟨⟨h1,h2,h3,h4⟩,h5⟩
  ·rintro⟨⟨h1,h2,h3,h4⟩,h5⟩;exact⟨h1,h2,h3,h4,h5⟩
theorem zgH{l:List Int}:∀{a:Int},upA a l->∀x∈l,1<=x/\x<=60:=by
 induction l with
 |nil => intro a _ x hx;cases hx
 |cons y r ih =>
  intro a h x hx
  rcases List.mem_cons.1 hx with rfl|hx
  ·exact⟨h.1,h.2.1⟩
  ·exact ih h.2.2.2 x hx
structure okJ(j:Jb):Prop where
 user:lbB j.user=true
 prio:-1000<=j.prio/\j.prio<=1000
 nd:okN j.nd
 ask:zmi j.ask=0
 len:j.aft.length<=8
 up:upA 0 j.aft
theorem zzn(j:Jb)(pa:Option Addr)(ca:Nat)(pf:Option Addr)(cf:Nat)(w:World)(hJ:IsJ w j pa ca pf)(hW:WfJ j):FnP Tryz.prog zdo #[jv j pa ca pf cf] w fun v w'=>Ext w w'/\∃e:Int,v=.int .i64 e/\(e=0↔okJ j):=by
 refine znR j.user j.prio j.nd.c j.nd.m j.nd.g j.ask.k j.ask.key j.ask.val j.ask.n pa j.ask.xs.length ca pf j.aft.length cf w _ fun b0 hb0 w1 h1=>(zgq j.user hW.user w1).mono fun v w2 ⟨e2,hv⟩=>⟨e2,_,hv,fun hno w4 h4=>?_,fun hyes=>⟨fun hbad w4 h4=>?_,fun hpr w4 h4=>?_⟩⟩
 ·exact⟨h4,3,rfl,by simp,fun h=>by rw[h.user] at hno;cases hno⟩
 ·exact⟨h4,4,rfl,by simp,fun h=>by have:=h.prio;omega⟩
 refine(zex j.nd w4).mono fun v w5 ⟨e5,hv⟩=>⟨e5,_,hv,fun hne w7 h7=>⟨h7,_,rfl,fun h=>absurd h hne,fun h=>absurd (zba.2 h.nd) hne⟩,fun hz w7 h7=>?_⟩
 refine(zoR j.ask pa ca w7 (hJ.1.ext h7) hW.ask).mono fun v w8 ⟨e8,hv⟩=>⟨e8,_,hv,fun hne w10 h10=>⟨h10,_,rfl,fun h=>absurd h hne,fun h=>absurd h.ask hne⟩,fun hz2=>⟨fun hbig w10 h10=>⟨h10,2,rfl,by simp,fun h=>by have:=h.len;omega⟩,fun hle=>?_⟩⟩
 refine⟨fun last k w'=>w'=w/\0<=k/\k<=j.aft.length/\upA 0 (j.aft.take k.toNat)/\last=zuS 0 (j.aft.take k.toNat),fun _ k _=>(j.aft.length-k).toNat,⟨rfl,by omega,by omega,by simp[upA],by simp[zuS]⟩,?_⟩
 rintro last k w' ⟨rfl,hk0,hk1,hup,rfl⟩
 have all:∀e:Int,(upA 0 j.aft->False)->e≠0->(e=0↔okJ j):=fun e h he=>⟨fun h'=>absurd h' he,fun h'=>(h h'.up).elim⟩
 refine⟨fun hlt=>?_,fun hge w14 h14=>⟨h14,0,rfl,fun _=>⟨hyes,⟨by omega,by omega⟩,zba.1 hz,hz2,by omega,by rw[List.take_of_length_le (by omega)] at hup;exact hup⟩,fun _=>rfl⟩⟩
 have g:=zeh.idx hJ.2 hk0 hlt
 have hget:j.aft.take (k.toNat+1)=j.aft.take k.toNat++[j.aft.getD k.toNat 0]:=by
  rw[List.take_succ_eq_append_getElem (by omega)]
  congr 2
  simp[List.getD_eq_getElem?_getD,show k.toNat<j.aft.length by omega]
 refine⟨fun hq=>zaj g (zah.2 hq),hk0,hlt,_,g,fun hbad w15 h15=>⟨h15,4,rfl,all 4 (fun h=>?_) (by decide)⟩,fun hin=>⟨fun hle2 w15 h15=>⟨h15,6,rfl,all 6 (fun h=>?_) (by decide)⟩,fun hgt=>⟨i64 (by omega),⟨rfl,by omega,by omega,?_,?_⟩,by simp only[];omega⟩⟩⟩
 ·have:=zz9 (k.toNat+1) h
  rw[hget,zoN] at this
  omega
 ·have:=zz9 (k.toNat+1) h
  rw[hget,zoN] at this
  omega
 ·rw[show(k+1).toNat=k.toNat+1 by omega,hget,zoN]
  exact⟨hup,hin.1,hin.2,hgt⟩
 ·rw[show(k+1).toNat=k.toNat+1 by omega,hget]
  simp[zuS]
def zqx(l:List Int):List UInt8:=if l=[] then [45] else Lib.join (l.map Lib.itoa) [44]
theorem zwN{l:List Int}(h:l.length<=8)(hr:∀x∈l,InR .i64 x):(zqx l).length<=200:=by
 unfold zqx
 split
 ·simp
 ·have:=zhM (c:=44) (m:=21) (l.map Lib.itoa) (fun y hy=>by
   obtain⟨x,hx,rfl⟩:=List.mem_map.1 hy
   have:=zLg (hr x hx)
   exact Lib.itoa_length_le x this.1 this.2)
  rw[List.length_map] at this
  omega
theorem zI2(l:List Int)(p:Option Addr)(c:Nat)(w:World)(hp:zeh .i64 w p l)(h8:l.length<=8)(hr:∀x∈l,InR .i64 x)(g:GB w):FnP Tryz.prog zkn #[.slice p l.length c] w fun v w'=>Ext w w'/\v=.string (ofL (zqx l)):=by
 refine zvq p l.length c w _ ⟨fun h0 w0 e0=>⟨e0,?_⟩,fun hne=>?_⟩
 ·have:l=[]:=List.eq_nil_of_length_eq_zero (by omega)
  subst this
  rfl
 have hl:l≠[]:=fun h=>hne (by rw[h];rfl)
 refine⟨fun out outl outc k w'=>Ext w w'/\0<=k/\k<=l.length/\Own w.heap.size w' zay 1 out outl outc (((l.take k.toNat).map Lib.itoa).map fun y=>Value.string (ofL y)),fun _ _ _ k _=>(l.length-k).toNat,⟨Ext.refl _,by omega,by omega,Own.nil⟩,?_⟩
 rintro out outl outc k w3 ⟨x3,hk0,hk1,o3⟩
 refine⟨fun hlt=>?_,fun hge w4 h4=>?_⟩
 ·have gc:=zeh.idx (hp.ext x3) hk0 hlt
  have hol:=o3.leni
  have hm:=hr _ (zaq l 0 (i:=k.toNat) (by omega))
  refine⟨fun hq=>zaj gc (zah.2 hq),hk0,hlt,_,gc,fun w5 h5=>(znH _ (zLg hm) w5 ((g.ext x3).ext h5)).mono fun v w6 ⟨e6,hv⟩=>⟨e6,_,hv,?_⟩⟩
  simp only[List.length_map,List.length_take] at hol
  refine push zbY (by omega) o3 x3.size rfl (by intro u hu;simp[Value.cells] at hu;subst hu;rfl) (by omega) (by omega) (by omega) fun p' c' w' o' g' _=>⟨i64 (by omega),⟨g'.ext x3 o3,by omega,by omega,?_⟩,by simp only[];omega⟩
  rw[show(k+1).toNat=k.toNat+1 by omega,List.take_succ_eq_append_getElem (by omega),List.map_append,List.map_append]
  simpa[Value.cells,List.getD_eq_getElem?_getD,show k.toNat<l.length by omega] using o'
 ·have hkl:k.toNat=l.length:=by omega
  rw[hkl,List.take_length] at o3
  refine(zBD (l.map Lib.itoa) 44 out outl outc w.heap.size zay w4 (o3.ext h4) (by simpa using hl) ?_).mono fun v w5 ⟨e5,hv⟩=>⟨e5,_,hv,fun w7 h7=>⟨x3.trans h7,?_⟩⟩
  ·have:=zwN h8 hr
   unfold zqx at this
   rw[if_neg hl] at this
   omega
  ·unfold zqx;rw[if_neg hl]
def jps(j:Jb):List (List UInt8):=[j.user.data.toList,Lib.itoa j.prio,zbq j.nd,zqx j.aft,txt j.ask]
def jtx(j:Jb):List UInt8:=Lib.join (jps j) [32]
theorem okJ.rng{j:Jb}(h:okJ j):∀x∈j.aft,InR .i64 x:=fun x hx=>by have:=zgH h.up x hx;exact i64 (by omega)
theorem zz2{x:Nd}(hx:rng x):(zbq x).length<=78:=by
 unfold zbq
 split
 ·simp
 ·exact zzo hx
theorem zC9{j:Jb}(h:okJ j)(hn:nod j.ask<=1048576):∀y∈jps j,y.length<=3000:=by
 have h1:=zbR h.user
 have h2:=Lib.itoa_length_le j.prio (by have:=h.prio;omega) (by have:=h.prio;omega)
 have h3:=zz2 h.nd.rng
 have h4:=zwN h.len h.rng
 obtain⟨h5,h6⟩:=zmD.1 h.ask
 have h7:=ztE j.ask h6
 rw[zo9 j.ask hn] at h5
 intro y hy
 unfold jps at hy
 simp only[List.mem_cons,List.not_mem_nil,or_false] at hy
 rcases hy with rfl|rfl|rfl|rfl|rfl
 ·rw[ziV];omega
 ·omega
 ·omega
 ·omega
 ·omega
theorem zxo(j:Jb)(pa:Option Addr)(ca:Nat)(pf:Option Addr)(cf:Nat)(w:World)(hJ:IsJ w j pa ca pf)(hW:WfJ j)(hn:nod j.ask<=1048576)(g:GB w):FnP Tryz.prog zee #[jv j pa ca pf cf] w fun v w'=>Ext w w'/\∃(t:ByteArray) (e:Int),v=.tuple #[.string t,.int .i64 e]/\(e=0↔okJ j)/\(e≠0->t=emS)/\(e=0->t=ofL (jtx j)):=by
 refine zxK j.user j.prio j.nd.c j.nd.m j.nd.g j.ask.k j.ask.key j.ask.val j.ask.n pa j.ask.xs.length ca pf j.aft.length cf w _ fun b0 hb0 w1 h1=>(zzn j pa ca pf cf w1 (hJ.ext h1) hW).mono fun v w2 ⟨e2,e,hv,he⟩=>⟨e2,e,hv,fun hne w4 h4=>⟨h4,emS,e,rfl,he,fun _=>rfl,fun h=>absurd h hne⟩,fun hz w4 h4=>?_⟩
 have ho:=he.1 hz
 refine(zDq j.nd w4 (g.ext h4)).mono fun v w5 ⟨e5,t5,f5,hv,hf,_,ht5⟩=>⟨e5,t5,f5,hv,fun w8 h8=>?_⟩
 have ht5:=ht5 (hf.2 ho.nd)
 refine(zHK j.ask pa ca w8 (hJ.1.ext h8) hW.ask hn ⟨(g.ext h8).pow⟩).mono fun v w9 ⟨e9,hor⟩=>?_
 rcases hor with⟨hne,_⟩|⟨_,hv⟩
 ·exact absurd ho.ask hne
 refine⟨e9,_,_,hv,fun w12 h12=>(znH j.prio (zLg hW.prio) w12 (g.ext h12)).mono fun v w13 ⟨e13,hv⟩=>⟨e13,_,hv,fun w15 h15=>(zI2 j.aft pf cf w15 (hJ.2.ext h15) ho.len ho.rng (g.ext h15)).mono fun v w16 ⟨e16,hv⟩=>⟨e16,_,hv,fun w18 x18=>?_⟩⟩⟩
 have h18:=zaa x18
 refine zcG zbY [.string j.user,.string (ofL (Lib.itoa j.prio)),.string t5,.string (ofL (zqx j.aft)),.string (ofL (txt j.ask))] rfl rfl (by intro v hv;simp at hv;rcases hv with rfl|rfl|rfl|rfl|rfl<;>rfl) (by omega) (by omega) fun w19 o19 e19=>⟨e19,_,_,_,rfl,fun w23 h23=>?_⟩
 have o23:=(o19 w18.heap.size (Nat.le_refl _)).ext h23
 have hrow:([.string j.user,.string (ofL (Lib.itoa j.prio)),.string t5,.string (ofL (zqx j.aft)),.string (ofL (txt j.ask))]:List Value).flatMap (fun v=>v.cells.toList)=(jps j).map fun l=>Value.string (ofL l):=by
  rw[ht5]
  simp[Value.cells,jps,zcb]
 rw[hrow] at o23
 refine(zBD (jps j) 32 _ _ _ _ zay w23 o23 (by simp[jps]) ?_).mono fun v w24 ⟨e24,hv⟩=>⟨e24,_,hv,fun w26 h26=>⟨(h18.trans e19).trans h26,_,0,rfl,⟨fun _=>ho,fun _=>rfl⟩,fun h=>absurd rfl h,fun _=>rfl⟩⟩
 have:=zhM (c:=32) (m:=3000) (jps j) (zC9 ho hn)
 simp only[jps,List.length_cons,List.length_nil] at this ⊢
 omega
theorem zsU{c d:UInt8}:∀(L:List (List UInt8)),c∈Lib.join L [d]->c=d\/∃y∈L,c∈y
 |[],h => by rw[Lib.join_nil] at h;cases h
 |[x],h => by rw[Lib.join_one] at h;exact .inr ⟨x,List.mem_cons_self ..,h⟩
 |x::y::L,h => by
  have e:Lib.join (x::y::L) [d]=x++d::Lib.join (y::L) [d]:=by
   rw[Lib.join_cons,Lib.join_cons]
   simp[Lib.joinTail]
  rw[e] at h
  rcases List.mem_append.1 h with h|h
  ·exact .inr ⟨x,List.mem_cons_self ..,h⟩
  ·rcases List.mem_cons.1 h with h|h
   ·exact .inl h
   ·rcases zsU (y::L) h with h|⟨z,hz,h⟩
    ·exact .inl h
    ·exact .inr ⟨z,List.mem_cons_of_mem _ hz,h⟩
theorem zzu{s:ByteArray}(h:lbB s=true){c:UInt8}(hc:okC (c.toNat:Int)=false):c∉s.data.toList:=fun hm=>by
 unfold lbB at h
 simp only[Bool.and_eq_true] at h
 have:=List.all_eq_true.1 h.2 (c.toNat:Int) (List.mem_map.2 ⟨c,hm,rfl⟩)
 rw[hc] at this;cases this
theorem un_not{s:ByteArray}(h:unB s=true){c:UInt8}(h1:c∉zBs.data.toList)(h2:c∉memS.data.toList)(h3:c∉gpuS.data.toList):c∉s.data.toList:=by
 unfold unB at h
 simp only[Bool.or_eq_true,decide_eq_true_eq] at h
 rcases h with (h|h)|h<;>(subst h;assumption)
theorem zlw{n:Int}{c:UInt8}(h1:c≠45)(h2:c.toNat<48\/57<c.toNat):c∉Lib.itoa n:=fun hm=>by
 rcases zGp c hm with h|h
 ·exact h1 h
 ·omega
theorem nd_not{x:Nd}:(32:UInt8)∉zbq x:=fun hm=>by
 unfold zbq at hm
 split at hm
 ·simp at hm
 ·rcases zsU _ hm with h|⟨y,hy,h⟩
  ·exact absurd h (by decide)
  ·obtain⟨i,hi,rfl⟩:=List.mem_map.1 hy
   have hi:=(zpr hi).1
   unfold zgE at h
   rcases List.mem_append.1 h with h|h
   ·revert h
    match i,hi with
    |0,_ => decide
    |1,_ => decide
    |2,_ => decide
   ·rcases List.mem_cons.1 h with h|h
    ·exact absurd h (by decide)
    ·exact zlw (by decide) (by decide) h
theorem zI1{l:List Int}:(32:UInt8)∉zqx l:=fun hm=>by
 unfold zqx at hm
 split at hm
 ·simp at hm
 ·rcases zsU _ hm with h|⟨y,hy,h⟩
  ·exact absurd h (by decide)
  ·obtain⟨x,hx,rfl⟩:=List.mem_map.1 hy
   exact zlw (by decide) (by decide) h
theorem zI9:∀t:AT,zeO t=0->(32:UInt8)∉txt t:=by
 intro t
 induction t using AT.ind with
 |h k key val n xs ih =>
  intro he hm
  rcases znn he with⟨key,h,hkey,ht⟩|⟨key,val,h,hkey,hval,ht⟩|⟨key,m,h,hkey,hm0,_,ht⟩|⟨x,h,hx,ht,hnx⟩|⟨k,x,y',hk',h,hx,hy,ht,hnx⟩
  ·rw[ht] at hm
   rcases List.mem_cons.1 hm with h|h
   ·exact absurd h (by decide)
   ·exact zzu hkey (by decide) h
  ·rw[ht] at hm
   rcases List.mem_append.1 hm with h|h
   ·exact zzu hkey (by decide) h
   ·rcases List.mem_cons.1 h with h|h
    ·exact absurd h (by decide)
    ·exact zzu hval (by decide) h
  ·rw[ht] at hm
   rcases List.mem_append.1 hm with h|h
   ·exact un_not hkey (by decide) (by decide) (by decide) h
   ·simp only[List.mem_cons] at h
    rcases h with h|h|h
    ·exact absurd h (by decide)
    ·exact absurd h (by decide)
    ·exact zlw (by decide) (by decide) h
  ·injection h with _ _ _ _ h5
   rw[ht] at hm
   rcases List.mem_cons.1 hm with h|h
   ·exact absurd h (by decide)
   ·exact ih x (by rw[h5];simp) hx h
  ·injection h with _ _ _ _ h5
   rw[ht] at hm
   simp only[List.mem_cons,List.mem_append,List.not_mem_nil,or_false] at hm
   rcases hm with h|h|h|h|h
   ·exact absurd h (by decide)
   ·exact ih x (by rw[h5];simp) hx h
   ·rcases hk' with rfl|rfl
    ·exact absurd h (by decide)
    ·exact absurd h (by decide)
   ·exact ih y' (by rw[h5];simp) hy h
   ·exact absurd h (by decide)
theorem zJ5{j:Jb}(h:okJ j):∀y∈jps j,(32:UInt8)∉y:=by
 intro y hy
 unfold jps at hy
 simp only[List.mem_cons,List.not_mem_nil,or_false] at hy
 rcases hy with rfl|rfl|rfl|rfl|rfl
 ·exact zzu h.user (by decide)
 ·exact zlw (by decide) (by decide)
 ·exact nd_not
 ·exact zI1
 ·exact zI9 _ (zmD.1 h.ask).2
theorem zyN{l:List Int}(h:zqx l=[45]):l=[]\/∃x,l=[x]/\Lib.itoa x=[45]:=by
 unfold zqx at h
 split at h
 ·rename_i h0;exact .inl h0
 ·cases l with
  |nil => exact .inl rfl
  |cons x r =>
   cases r with
   |nil => exact .inr ⟨x,rfl,by simpa[Lib.join_one] using h⟩
   |cons y r =>
    simp only[List.map_cons] at h
    rw[Lib.join_cons] at h
    have hx:Lib.itoa x≠[]:=by
     unfold Lib.itoa
     split
     ·simp
     ·exact zpb _
    have hy:Lib.joinTail [44] (Lib.itoa y::r.map Lib.itoa)≠[]:=by
     intro h0
     have:=Lib.joinTail_length [44] (Lib.itoa y::r.map Lib.itoa)
     rw[h0] at this
     simp at this
     omega
    have:=congrArg List.length h
    rw[List.length_append] at this
    have h1:=List.length_pos_iff.2 hx
    have h2:=List.length_pos_iff.2 hy
    simp at this
    omega
def zdv:Jb:=⟨emS,0,za6,zjt,[]⟩
theorem zif:WfJ zdv:=⟨by decide,i64 (by decide),fun i hi=>by
 match i,hi with
 |0,_ => simp[zcg,zdv,za6]
 |1,_ => simp[zcg,zdv,za6]
 |2,_ => simp[zcg,zdv,za6],zqv,by decide,fun x hx => by cases hx⟩
theorem zoP(w:World):IsJ w zdv none 0 none:=⟨zmh w,zau.nil⟩
structure JT(s:ByteArray)(j:Jb):Prop where
 ok:okJ j
 nod:nod j.ask<=1048576
 is:s=ofL (jtx j)
 ask:(txt j.ask).length<=2000
def JRes(w:World)(s:ByteArray)(v:Value)(w':World):Prop:=Ext w w'/\∃j pa ca pf cf e,v=.tuple #[jv j pa ca pf cf,.int .i64 e]/\WfJ j/\(∀S:Nat->Prop,(∀b,S b->b<w.heap.size)->∀w'',Fr S w' w''->IsJ w'' j pa ca pf) /\
 ((e≠0/\j=zdv/\pa=none/\ca=0/\pf=none/\cf=0)\/(e=0/\okJ j/\nod j.ask<=60/\s=ofL (jtx j)/\(txt j.ask).length<=2000))/\(∀j0,JT s j0->s.size<=3000->e=0/\j=j0)
theorem zi6{w w':World}{s:ByteArray}(x:Ext w w'){e:Int}(he:e≠0)(hno:∀j0,JT s j0->s.size<=3000->False):JRes w s (.tuple #[jv zdv none 0 none 0,.int .i64 e]) w' :=
 ⟨x,zdv,none,0,none,0,e,rfl,zif,fun _ _ _ _=>zoP _,.inl ⟨he,rfl,rfl,rfl,rfl,rfl⟩,fun j0 h hs=>(hno j0 h hs).elim⟩
theorem zgj{s:ByteArray}{j:Jb}(h:JT s j):Lib.countB s (one 32)=4/\Lib.splitB (one 32) 0 4 s=(jps j).map ofL:=by
 have:=zdz (c:=32) [Lib.itoa j.prio,zbq j.nd,zqx j.aft,txt j.ask] j.user.data.toList (by simpa[jps] using zJ5 h.ok)
 rw[h.is]
 exact this
theorem zqa{l:List Int}(hl:l≠[]):Lib.countB (ofL (zqx l)) (one 44)+1=l.length/\Lib.splitB (one 44) 0 (Lib.countB (ofL (zqx l)) (one 44)) (ofL (zqx l))=(l.map Lib.itoa).map ofL:=by
 cases l with
 |nil => exact absurd rfl hl
 |cons a r =>
  have h:=zdz (c:=44) (r.map Lib.itoa) (Lib.itoa a) (by
   intro y hy
   rw[<-List.map_cons] at hy
   obtain⟨x,_,rfl⟩:=List.mem_map.1 hy
   exact zlw (by decide) (by decide))
  have e:zqx (a::r)=Lib.join (Lib.itoa a::r.map Lib.itoa) [44]:=by unfold zqx;rw[if_neg (by simp)];rfl
  rw[e,h.1]
  refine⟨by simp,?_⟩
  rw[List.length_map] at h ⊢
  simpa using h.2
theorem zJ3(s:ByteArray)(hs63:s.size<=9223372036854775807)(w:World)(g:GB w):FnP Tryz.prog zgR #[.string s] w (JRes w s):=by
 refine zpS s w _ fun b0 hb0=>⟨fun hbig w1 h1=>zi6 h1 (by decide) fun j0 _ h=>by omega,fun hsm w1 x1=>?_⟩
 have h1:=zaa x1
 have hb01:b0<w1.heap.size:=x1.lt b0 (by simp)
 refine(zeX 32 s (by omega) w1 (g.ext h1)).mono fun v w2 ⟨e2,hv,hc2,hlt2⟩=>⟨e2,_,_,_,hv,fun hne w6 x6=>?_,fun h5=>?_⟩
 ·refine zi6 (zav x6 (h1.trans e2) (by intro d hd;simp at hd;omega)) (by decide) fun j0 hj _=>hne ?_
  rw[(zgj hj).1];rfl
 have hw2:Ext w w2:=h1.trans e2
 have hcnt:Lib.countB s (one 32)=4:=by omega
 rw[hcnt] at hc2
 have hlen:=zeK (c:=32) 4 s hcnt
 have hsz:∀i q,(Lib.splitB (one 32) 0 4 s)[i]?=some q->q.size+i<=s.size:=fun i q h=>zcA _ s i q h
 have hjt:∀j0,JT s j0->Lib.splitB (one 32) 0 4 s=(jps j0).map ofL:=fun j0 hj=>(zgj hj).2
 generalize Lib.splitB (one 32) 0 4 s=Ps at hc2 hlen hsz hjt
 have spn:(some (⟨w1.heap.size,0,none⟩:Addr))≠none:=by simp
 have spb:∀a,(some (⟨w1.heap.size,0,none⟩:Addr))=some a->a.block<w2.heap.size:=fun a ha=>by obtain rfl:=Option.some.inj ha;exact hlt2
 generalize (some (⟨w1.heap.size,0,none⟩:Addr))=sp at hc2 spn spb ⊢
 obtain⟨P0,P1,P2,P3,P4,rfl⟩:∃a b c d e,Ps=[a,b,c,d,e]:=by
  match Ps,hlen with
  |[a,b,c,d,e],_ => exact⟨a,b,c,d,e,rfl⟩
 have cellP:∀{w':World}(i:Nat)(q:ByteArray),Ext w2 w'->([P0,P1,P2,P3,P4]:List ByteArray)[i]?=some q->Go.Sx.cell w' (pIdx sp (i:Int) 1) 0=some (.string q):=fun {w'} i q hx hq=>by
  rw[zae]
  have:=hc2.ext hx i (.string q) (by rw[List.getElem?_map,hq];rfl)
  simpa using this
 have s0:=hsz 0 P0 rfl
 have s1:=hsz 1 P1 rfl
 have s2:=hsz 2 P2 rfl
 have s3:=hsz 3 P3 rfl
 have s4:=hsz 4 P4 rfl
 refine⟨spn,by omega,by omega,P0,cellP 0 P0 (Ext.refl _) rfl,fun b7 hb7=>⟨spn,by omega,by omega,P1,cellP 1 P1 (Ext.refl _) rfl,fun w9 x9=>?_⟩⟩
 have hfree:∀i:Int,zwq [b7] (pIdx sp i 1):=fun i b hb a ha=>by
  simp at hb;subst hb
  cases sp with
  |none => exact absurd rfl spn
  |some x =>
   have:=spb x rfl
   simp[pIdx] at ha
   rw[<-ha,zaU];omega
 have h9:=zaa x9
 have hw9:=hw2.trans h9
 refine(zrx P1 (by omega) w9 (g.ext hw9)).mono fun v w10 ⟨e10,n1,ev,hv,hcase⟩=>⟨e10,n1,ev,hv,spn,by omega,by omega,P2,⟨cellP 2 P2 (h9.trans e10) rfl,hfree 2⟩,fun w14 x14=>?_⟩
 have hw10:=hw9.trans e10
 have h210:Ext w2 w10:=h9.trans e10
 have hb7w:w.heap.size<=b7:=Nat.le_trans hw2.size hb7
 have hw14:Ext w w14:=zav x14 hw10 (by intro d hd;simp at hd;omega)
 refine(zDp P2 (by omega) w14 (g.ext hw14)).mono fun v w15 ⟨e15,nd,en,hv,hnz,hnok,hncomp⟩=>⟨e15,nd.c,nd.m,nd.g,en,hv,spn,by omega,by omega,P4,⟨cellP 4 P4 h210 rfl,hfree 4⟩,fun w21 x21=>?_⟩
 have hw21:Ext w w21:=zav x21 hw10 (by intro d hd;simp at hd;omega)
 have h221:Ext w2 w21:=zav x21 h210 (by intro d hd;simp at hd;omega)
 have hb0_21:b0<w21.heap.size:=x21.lt b0 (by simp)
 have hb7_21:b7<w21.heap.size:=x21.lt b7 (by simp)
 refine(zwF P4 w21 (g.ext hw21)).mono fun v w22 ⟨e22,t,pa,ca,ea,hv,hWt,hTt,horA,hcompA⟩=>⟨e22,t.k,t.key,t.val,t.n,pa,t.xs.length,ca,ea,hv,fun w31 x31=>?_⟩
 have hw22:Ext w w22:=hw21.trans e22
 have h222:Ext w2 w22:=h221.trans e22
 have hn1:InR .i64 n1\/ev≠.nilIface:=by
  rcases hcase with⟨_,h⟩|⟨⟨a,b,h⟩,_⟩
  ·exact .inl (zg5 h)
  ·exact .inr (by rw[h];simp)
 have parts:∀j0,JT s j0->P0=j0.user/\P1=ofL (Lib.itoa j0.prio)/\P2=ofL (zbq j0.nd)/\P3=ofL (zqx j0.aft)/\P4=ofL (txt j0.ask):=fun j0 hj=>by
  have:=hjt j0 hj
  simp only[jps,List.map_cons,List.map_nil,List.cons.injEq,and_true] at this
  rw[zcb] at this
  exact this
 have good0:∀j0,JT s j0->s.size<=3000->ev=.nilIface/\n1=j0.prio/\en=0/\nd=j0.nd/\ea=0/\t=j0.ask:=fun j0 hj hs=>by
  obtain⟨q0,q1,q2,q3,q4⟩:=parts j0 hj
  have hp:=zg4 (n:=j0.prio) (by have:=hj.ok.prio;omega)
  have ha:=hcompA j0.ask hj.ok.ask hj.nod q4 (by rw[q4,zas];exact hj.ask)
  have hd:=hncomp j0.nd hj.ok.nd q2
  rcases hcase with⟨h,h'⟩|⟨_,h'⟩
  ·rw[q1,zcn,hp] at h'
   cases h'
   exact⟨h,rfl,hd.1,hd.2,ha.1,ha.2⟩
  ·rw[q1,zcn] at h'
   exact absurd hp (h' _)
 refine zi8 (by kernel_rfl) (hcase.elim (fun h=>.inl h.1) fun h=>.inr h.1) fun tb htb=>⟨Ext.refl _,tb,rfl,fun hbad w34 x34=>?_,fun hgd=>?_⟩
 ·refine zi6 (zav x34 hw22 (by intro d hd;simp at hd;omega)) (by decide) fun j0 hj hs=>?_
  obtain⟨a1,_,a3,_,a5,_⟩:=good0 j0 hj hs
  rcases hbad with (h|h)|h
  ·rw[htb.2 a1] at h;cases h
  ·exact h a3
  ·exact h a5
 have hev:ev=.nilIface:=htb.1 hgd.1.1
 have hn1:InR .i64 n1:=hn1.resolve_right fun h=>h hev
 have hnd:=hnok hgd.1.2
 obtain⟨htC,htn,htx,_⟩:zmi t=0/\nod t<=60/\P4=ofL (txt t)/\P4.size<=2000:=by
  rcases horA with⟨h,_⟩|⟨_,h⟩
  ·exact absurd hgd.2 h
  ·exact h
 have htl:(txt t).length<=2000:=by rw[<-zas,<-htx];assumption
 have tail:∀(xs:List Int)(pf:Option Addr)(cf:Nat)(wt:World),Ext w wt->Fr (fun b=>b=b7) w22 wt->Own w21.heap.size wt zfR 1 pf xs.length cf (xs.map (.int .i64))->(∀x∈xs,InR .i64 x)->xs.length<=9223372036854775807->(∀j0,JT s j0->s.size<=3000->xs=j0.aft) ->
   ∀w55,zag [b7] [] wt w55->FnP Tryz.prog zee #[jv ⟨P0,n1,nd,t,xs⟩ pa ca pf cf] w55 fun v56 w56=>Ext w55 w56/\∃t57:ByteArray,∃t58:Int,v56=(.tuple #[(.string t57),(.int .i64 t58)]) /\
    (((t58≠0)\/(t57≠s))->∀w59,zag [b0,b7] [] wt w59->JRes w s (.tuple #[jv zdv none 0 none 0,.int .i64 3]) w59) /\
    (((t58=0)/\(t57=s))->∀w59,zag [b0,b7] [] wt w59->JRes w s (.tuple #[jv ⟨P0,n1,nd,t,xs⟩ pa ca pf cf,.int .i64 0]) w59):=by
  intro xs pf cf wt hwt ft o hxr hxl hcx w55 x55
  have hW:WfJ ⟨P0,n1,nd,t,xs⟩:=⟨by show P0.size<=_;omega,hn1,hnd.1.rng,hWt,hxl,hxr⟩
  have key:∀(S:Nat->Prop),(∀b,S b->b<w21.heap.size)->∀w'',Fr S wt w''->IsJ w'' ⟨P0,n1,nd,t,xs⟩ pa ca pf:=fun S hS w'' fw=>by
   refine⟨hTt (fun b=>b=b7\/S b) (fun b hb=>by rcases hb with rfl|hb;(· exact hb7_21);exact hS b hb) w'' ((ft.mono fun b hb=>.inl hb).tr (fw.mono fun b hb=>.inr hb)),?_⟩
   exact(Own.fr o fw fun a ha hb=>by have:=(o.lt a ha).1;have:=hS _ hb;omega).cells
  have f55:Fr (fun b=>b=b7) wt w55:=zbL x55 (by intro d hd;simp at hd;exact .inl hd)
  have hw55:Ext w w55:=zav x55 hwt (by intro d hd;simp at hd;omega)
  refine(zxo ⟨P0,n1,nd,t,xs⟩ pa ca pf cf w55 (key (fun b=>b=b7) (fun b hb=>by omega) w55 f55) hW (by show nod t<=_;omega) (g.ext hw55)).mono fun v w56 ⟨e56,tt,e,hv,heq,hem,htt⟩=>⟨e56,tt,e,hv,fun hbad w59 x59=>?_,fun hgood w59 x59=>?_⟩
  ·refine zi6 (zav x59 hwt (by intro d hd;simp at hd;omega)) (by decide) fun j0 hj hs=>?_
   obtain⟨q0,_⟩:=parts j0 hj
   obtain⟨_,a2,_,a4,_,a6⟩:=good0 j0 hj hs
   have hxa:=hcx j0 hj hs
   have hj0:(⟨P0,n1,nd,t,xs⟩:Jb)=j0:=by rw[q0,a2,a4,a6,hxa]
   have he0:e=0:=heq.2 (by rw[hj0];exact hj.ok)
   rcases hbad with h|h
   ·exact h he0
   ·exact h (by rw[htt he0,hj0];exact hj.is.symm)
  ·refine⟨zav x59 hwt (by intro d hd;simp at hd;omega),⟨P0,n1,nd,t,xs⟩,pa,ca,pf,cf,0,rfl,hW,fun S hS w'' fw=>?_,.inr ⟨rfl,heq.1 hgood.1,htn,by rw[<-hgood.2];exact htt hgood.1,htl⟩,fun j0 hj hs=>⟨rfl,?_⟩⟩
   ·refine key (fun b=>S b\/b=b0\/b=b7) (fun b hb=>?_) w'' ((zbL x59 (by intro d hd;simp at hd;exact .inl (.inr hd))).tr (fw.mono fun b hb=>.inl hb))
    have:=hw21.size
    rcases hb with hb|rfl|rfl
    ·have:=hS b hb;omega
    ·exact hb0_21
    ·exact hb7_21
   ·obtain⟨q0,_⟩:=parts j0 hj
    obtain⟨_,a2,_,a4,_,a6⟩:=good0 j0 hj hs
    rw[q0,a2,a4,a6,hcx j0 hj hs]
 refine⟨spn,by omega,by omega,P3,⟨cellP 3 P3 h222 rfl,hfree 3⟩,fun hne3=>⟨spn,by omega,by omega,P3,⟨cellP 3 P3 h222 rfl,hfree 3⟩,fun w36 x36=>?_⟩,fun heq3 w35 x35=>?_⟩
 rotate_left
 ·refine tail [] none 0 w22 hw22 (Fr.refl _ _) Own.nil (fun x hx=>by cases hx) (by simp) (fun j0 hj hs=>?_) w35 x35
  obtain⟨_,_,_,q3,_⟩:=parts j0 hj
  have:zqx j0.aft=[45]:=zmR (q3.symm.trans heq3)
  rcases zyN this with h|⟨x,h,hx⟩
  ·exact h.symm
  ·have hup:=zgH hj.ok.up x (by rw[h];simp)
   rw[zdU (by omega)] at hx
   have:=zc2 x.toNat 45 (by rw[hx];simp)
   exact absurd this (by decide)
 have f36:Fr (fun b=>b=b7) w22 w36:=zbL x36 (by intro d hd;simp at hd;exact .inl hd)
 have hw36:Ext w w36:=zav x36 hw22 (by intro d hd;simp at hd;omega)
 have hb0_36:b0<w36.heap.size:=x36.lt b0 (by simp)
 have hb7_36:b7<w36.heap.size:=x36.lt b7 (by simp)
 refine(zeX 44 P3 (by omega) w36 (g.ext hw36)).mono fun v w37 ⟨e37,hv,hc37,hlt37⟩=>⟨e37,_,_,_,hv,?_⟩
 have zGU:=zeK (c:=44) _ P3 rfl
 have qsz:∀i q,(Lib.splitB (one 44) 0 (Lib.countB P3 (one 44)) P3)[i]?=some q->q.size+i<=P3.size:=fun i q h=>zcA _ P3 i q h
 have qjt:∀j0,JT s j0->Lib.countB P3 (one 44)+1=j0.aft.length/\Lib.splitB (one 44) 0 (Lib.countB P3 (one 44)) P3=(j0.aft.map Lib.itoa).map ofL:=fun j0 hj=>by
  obtain⟨_,_,_,q3,_⟩:=parts j0 hj
  have hne:j0.aft≠[]:=fun h=>hne3 (by rw[q3,h];rfl)
  rw[q3]
  exact zqa hne
 generalize Lib.splitB (one 44) 0 (Lib.countB P3 (one 44)) P3=Qs at hc37 zGU qsz qjt
 generalize Lib.countB P3 (one 44)=m at zGU qjt ⊢
 have qpn:(some (⟨w36.heap.size,0,none⟩:Addr))≠none:=by simp
 have qpb:∀a,(some (⟨w36.heap.size,0,none⟩:Addr))=some a->a.block≠b7:=fun a ha=>by obtain rfl:=Option.some.inj ha;show w36.heap.size≠b7;omega
 generalize (some (⟨w36.heap.size,0,none⟩:Addr))=qp at hc37 qpn qpb ⊢
 have hw37:Ext w w37:=hw36.trans e37
 have hb37:b0<w37.heap.size/\b7<w37.heap.size:=by have:=e37.size;omega
 refine⟨fun k c43 c44 c45 c46 c47 c48 c49 c50 c51 c52 cl52 cc52 c53 cl53 cc53 w'=>(c43=P0/\c44=n1/\c45=nd.c/\c46=nd.m/\c47=nd.g/\c48=t.k/\c49=t.key/\c50=t.val/\c51=t.n/\c52=pa/\cl52=t.xs.length/\cc52=ca)/\0<=k/\k<=(m+1:Nat)/\Ext w w'/\Fr (fun b=>b=b7) w37 w' /\
   ∃xs:List Int,cl53=xs.length/\xs.length=k.toNat/\Own w37.heap.size w' zfR 1 c53 cl53 cc53 (xs.map (.int .i64))/\∀(i:Nat) x,xs[i]?=some x->∃q,Qs[i]?=some q/\Lib.parseIntB 64 q.data.toList=.ok x,fun k _ _ _ _ _ _ _ _ _ _ _ _ _ _ _ _=>(m+1-k).toNat,
  ⟨⟨rfl,rfl,rfl,rfl,rfl,rfl,rfl,rfl,rfl,rfl,rfl,rfl⟩,by omega,by omega,hw37,Fr.refl _ _,[],rfl,rfl,Own.nil,fun i x h=>by simp at h⟩,?_⟩
 rintro k c43 c44 c45 c46 c47 c48 c49 c50 c51 c52 cl52 cc52 c53 cl53 cc53 w54 ⟨⟨rfl,rfl,rfl,rfl,rfl,rfl,rfl,rfl,rfl,rfl,rfl,rfl⟩,hk0,hk1,hw54,f54,xs,rfl,hxk,o54,hxs⟩
 have c54:zau w54 qp (Qs.map Value.string):=hc37.fr f54 fun a ha=>qpb a ha
 refine⟨fun hlt=>?_,fun hge=>?_⟩
 rotate_left
 ·have f22:Fr (fun b=>b=b7) w22 w54:=(f36.tr (zac e37)).tr f54
  have sz:w21.heap.size<=w37.heap.size:=by have:=e22.size;have:=f36.size;have:=e37.size;omega
  refine tail xs c53 cc53 w54 hw54 f22 (o54.weak sz) (fun x hx=>?_) ?_ fun j0 hj hs=>?_
  ·obtain⟨i,hi⟩:=List.getElem?_of_mem hx
   obtain⟨q,_,hq⟩:=hxs i x hi
   exact zg5 hq
  ·have:=o54.le;omega
  ·obtain⟨h1,h2⟩:=qjt j0 hj
   have hkl:xs.length=j0.aft.length:=by omega
   refine List.ext_getElem? fun i=>?_
   rcases Nat.lt_or_ge i xs.length with hi|hi
   ·obtain⟨q,hq,hp⟩:=hxs i xs[i] (List.getElem?_eq_getElem hi)
    rw[h2,List.map_map,List.getElem?_map,List.getElem?_eq_getElem (by omega:i<j0.aft.length)] at hq
    simp only[Option.map_some,Option.some.injEq] at hq
    have hup:=zgH hj.ok.up (j0.aft[i]'(by omega)) (List.getElem_mem _)
    rw[<-hq] at hp
    have hp2:=zg4 (n:=j0.aft[i]'(by omega)) (by omega)
    have hp3:Lib.parseIntB 64 (Lib.itoa (j0.aft[i]'(by omega)))=.ok xs[i]:=hp
    rw[hp2] at hp3
    injection hp3 with h3
    rw[List.getElem?_eq_getElem hi,List.getElem?_eq_getElem (by omega:i<j0.aft.length),h3]
   ·rw[List.getElem?_eq_none hi,List.getElem?_eq_none (by omega)]
 obtain⟨pc,hpc⟩:∃pc,Qs[k.toNat]?=some pc:=⟨_,List.getElem?_eq_getElem (by omega)⟩
 have hcell:Go.Sx.cell w54 (pIdx qp k 1) 0=some (.string pc):=by
  rw[zae]
  exact c54 _ _ (by simp[hpc])
 have hpsz:=qsz _ _ hpc
 have hqfree:zwq [b7] (pIdx qp k 1):=fun b hb a ha=>by
  simp at hb;subst hb
  cases qp with
  |none => exact absurd rfl qpn
  |some x =>
   simp[pIdx] at ha
   rw[<-ha,zaU];exact qpb x rfl
 refine⟨qpn,hk0,hlt,pc,⟨hcell,hqfree⟩,fun w56 x56=>?_⟩
 have hw56:Ext w w56:=zav x56 hw54 (by intro d hd;simp at hd;omega)
 have f56:Fr (fun b=>b=b7) w37 w56:=f54.tr (zbL x56 (by intro d hd;simp at hd;exact .inl hd))
 refine(zrx pc (by omega) w56 (g.ext hw56)).mono fun v w57 ⟨e57,x,ev2,hv,hcase2⟩=>⟨e57,x,ev2,hv,fun w60 h60=>?_⟩
 have hw57:=hw56.trans e57
 refine zi8 (by kernel_rfl) (hcase2.elim (fun h=>.inl h.1) fun h=>.inr h.1) fun tb2 htb2=>⟨Ext.refl _,tb2,rfl,fun hbad w63 x63=>?_,fun hok=>?_⟩
 ·refine zi6 (zav x63 hw57 (by intro d hd;simp at hd;omega)) (by decide) fun j0 hj hs=>?_
  obtain⟨h1,h2⟩:=qjt j0 hj
  rw[h2,List.map_map,List.getElem?_map,List.getElem?_eq_getElem (by omega:k.toNat<j0.aft.length)] at hpc
  simp only[Option.map_some,Option.some.injEq] at hpc
  have hup:=zgH hj.ok.up (j0.aft[k.toNat]'(by omega)) (List.getElem_mem _)
  have hp2:=zg4 (n:=j0.aft[k.toNat]'(by omega)) (by omega)
  rcases hcase2 with⟨h,_⟩|⟨_,h⟩
  ·rw[htb2.2 h] at hbad;cases hbad
  ·rw[<-hpc] at h
   exact h _ hp2
 ·have hx:Lib.parseIntB 64 pc.data.toList=.ok x:=by
   have:=htb2.1 hok
   rcases hcase2 with⟨_,h⟩|⟨⟨a,b,h⟩,_⟩
   ·exact h
   ·rw[this] at h;cases h
  have f57:Fr (fun b=>b=b7) w37 w57:=f56.tr (zac e57)
  have o57:Own w37.heap.size w57 zfR 1 c53 xs.length cc53 (xs.map (.int .i64)):=Own.ext (Own.fr o54 (zbL x56 (by intro d hd;simp at hd;exact .inl hd):Fr (fun b=>b=b7) w54 w56) fun a ha hb=>by have:=(o54.lt a ha).1;omega) e57
  refine zg6 zfy o57 f57.size (fun b hb y hy=>by have:=(o57.lt y hy).1;simp at hb;rcases hb with rfl|rfl<;>omega) (by omega) (by omega) fun p' c' w' o' g' _ _=>⟨i64 (by omega),⟨⟨rfl,rfl,rfl,rfl,rfl,rfl,rfl,rfl,rfl,rfl,rfl,rfl⟩,by omega,by omega,?_,?_,xs++[x],by simp,by simp;omega,o',fun i y hy=>?_⟩,by simp only[];omega⟩
  ·have hsz37:=hw37.size
   exact g'.ext hw57 (o57.weak hsz37)
  ·have hB:Below w37.heap.size w57 w':=⟨g'.by_.os,g'.by_.tape,g'.by_.output,g'.by_.size,fun b hb=>g'.by_.block b (by have:=f57.size;omega) fun h=>by
    cases hp:c53 with
    |none => rw[hp] at h;simp[blk] at h
    |some a => rw[hp] at h;simp[blk] at h;have:=(o57.lt a hp).1;omega⟩
   exact⟨hB.os.trans f57.os,hB.tape.trans f57.tape,hB.output.trans f57.output,Nat.le_trans f57.size hB.size,fun b hb hn=>(hB.block b hb).trans (f57.block b hb hn)⟩
  ·rcases Nat.lt_or_ge i xs.length with hi|hi
   ·rw[List.getElem?_append_left hi] at hy
    exact hxs i y hy
   ·rw[List.getElem?_append_right hi] at hy
    obtain⟨hi2,hy2⟩:=List.getElem?_eq_some_iff.1 hy
    simp at hi2 hy2
    obtain rfl:i=k.toNat:=by omega
    exact⟨pc,hpc,by rw[<-hy2];exact hx⟩
variable {H:Type} {enc:TypeId×Value->H}
theorem zlz{α β:Type}{f:α->Option β}:∀{l:List α}{r:List β},l.mapM f=some r->r.length=l.length/\∀(i:Nat)(a:α),l[i]?=some a->∃b,r[i]?=some b/\f a=some b
 |[],r,h => by simp at h;subst h;exact⟨rfl,fun i a h => by simp at h⟩
 |x::l,r,h => by
  rw[List.mapM_cons] at h
  cases hf:f x with
  |none => rw[hf] at h;simp at h
  |some b =>
   rw[hf] at h
   cases hm:l.mapM f with
   |none => rw[hm] at h;simp at h
   |some s =>
    rw[hm] at h
    simp at h
    subst h
    obtain⟨h1,h2⟩:=zlz hm
    refine⟨by simp[h1],fun i a hi=>?_⟩
    cases i with
    |zero =>
     have:x=a:=by simpa using hi
     subst this;exact⟨b,rfl,hf⟩
    |succ i =>
     obtain⟨b',hb,hfb⟩:=h2 i a (by simpa using hi)
     exact⟨b',by simpa using hb,hfb⟩
theorem zlf:∀{l:List (DataW H)} {d:DataW H},d∈l->Rows.uptoBulk d<=Rows.uptoBulkAll l
 |x::l,d,h => by
  rw[Rows.uptoBulkAll]
  rcases List.mem_cons.1 h with rfl|h
  ·omega
  ·have:=zlf h;omega
theorem zu6:∀(xs:List AT) (ds:List (DataW H)),(∀(i:Nat)(x:AT),xs[i]?=some x->∃d,ds[i]?=some d/\nod x<=Rows.uptoBulk d)->zj6 xs<=Rows.uptoBulkAll ds
 |[],ds,_ => by simp[zj6]
 |x::xs,[],h => by obtain⟨d,hd,_⟩:=h 0 x rfl;simp at hd
 |x::xs,d::ds,h => by
  obtain⟨d',hd,hn⟩:=h 0 x rfl
  have:d=d':=by simpa using hd
  subst this
  have:=zu6 xs ds fun i y hy=>by
   obtain⟨e,he,hn⟩:=h (i+1) y (by simpa using hy)
   exact⟨e,by simpa using he,hn⟩
  simp only[zj6,Rows.uptoBulkAll];omega
theorem zGH{w:World}:∀(n:Nat)(t:AT)(p:Option Addr)(c:Nat)(d:DataW H)(ps:List MemPlace),IsT w t p c->DataW.trod enc Tryz.prog w 0 (fun _=>true) true n zdN (zos t p c)=some (d,ps)->nod t<=Rows.uptoBulk d:=by
 intro n
 induction n using Nat.strongRecOn with
 |_ n ih =>
 intro t p c d ps hT h
 cases n with
 |zero => cases h
 |succ n =>
  unfold DataW.trod at h
  rw[show Tryz.prog.underlying zdN=some (.struct (Tryz.prog.fieldsOf zdN)) by kernel_rfl] at h
  simp only at h
  split at h
  ·rw[Option.map_eq_some_iff] at h
   obtain⟨xs,hxs,he⟩:=h
   injection he with he _
   subst he
   have hf:((Tryz.prog.fieldsOf zdN).toList[4]?).map (fun f=>(f.type,f.offset))=some (zcl,4):=by kernel_rfl
   obtain⟨f,hf1,hf2⟩:=Option.map_eq_some_iff.1 hf
   simp only[Prod.mk.injEq] at hf2
   obtain⟨_,hget⟩:=zlz hxs
   obtain⟨b,hb,hfb⟩:=hget 4 f hf1
   rw[hf2.1,hf2.2,show Tryz.prog.cellsOf zcl=1 by kernel_rfl] at hfb
   have hfb:DataW.trod enc Tryz.prog w 0 (fun _=>true) true n zcl [.slice p t.xs.length c]=some b:=hfb
   have hmem:b.1∈xs.map (·.1):=List.mem_map.2 ⟨b,List.mem_of_getElem? hb,rfl⟩
   have hle:=zlf hmem
   have hb1:zj6 t.xs<=Rows.uptoBulk b.1:=by
    cases n with
    |zero => cases hfb
    |succ n =>
     unfold DataW.trod at hfb
     rw[show Tryz.prog.underlying zcl=some (.slice zdN) by kernel_rfl] at hfb
     cases p with
     |none =>
      cases hl:t.xs with
      |nil => simp[zj6]
      |cons x r => rw[hl] at hfb;simp at hfb
     |some a =>
      simp only at hfb
      split at hfb
      ·cases hm:(List.range t.xs.length).mapM (fun i=>(w.cells? 0 (a.add (i*Tryz.prog.cellsOf zdN)) (Tryz.prog.cellsOf zdN)).bind (DataW.trod enc Tryz.prog w 0 (fun _=>true) true n zdN)) with
       |none => simp[hm] at hfb
       |some es =>
        rw[hm,Option.bind_some,Option.map_eq_some_iff] at hfb
        obtain⟨zat,_,he⟩:=hfb
        obtain⟨he,_⟩:=Prod.mk.inj he
        rw[<-he,Rows.uptoBulk]
        obtain⟨_,hget2⟩:=zlz hm
        have:=zu6 t.xs (es.map (·.1)) fun i x hx=>by
         have hi:=(List.getElem?_eq_some_iff.1 hx).1
         obtain⟨e,he,hfe⟩:=hget2 i i (by simp[hi])
         refine⟨e.1,by simp[he],?_⟩
         obtain⟨cs,hcs,htr⟩:=Option.bind_eq_some_iff.1 hfe
         obtain⟨y,p',c',e1,_,hT',_,_,q0,q1,q2,q3,q4⟩:=hT.at (k:=(i:Int)) (by omega) (by omega)
         have e1:t.xs[((i:Nat):Int).toNat]?=some y:=e1
         rw[Int.toNat_natCast,hx] at e1
         obtain rfl:=Option.some.inj e1
         rw[show Tryz.prog.cellsOf zdN=5 by kernel_rfl] at hcs
         obtain⟨hlen,hcc⟩:=cells?_some hcs
         have hcse:cs=zos x p' c':=by
          refine List.ext_getElem? fun j=>?_
          have hq:∀m u,Go.Sx.cell w (pIdx (some a) (i:Int) 5) m=some u->m<5->cs[m]?=some u:=fun m u hu hm5=>by
           obtain⟨v,hv⟩:∃v,cs[m]?=some v:=⟨_,List.getElem?_eq_getElem (by omega)⟩
           have h1:=hcc m v hv
           have h2:Go.Sx.cell w (pIdx (some a) (i:Int) 5) m=Go.Sx.cell w (some (a.add (i*5))) m:=by simp[pIdx]
           rw[h2,h1] at hu
           rw[hv,Option.some.inj hu]
          match j with
          |0 => exact hq 0 _ q0 (by omega)
          |1 => exact hq 1 _ q1 (by omega)
          |2 => exact hq 2 _ q2 (by omega)
          |3 => exact hq 3 _ q3 (by omega)
          |4 => exact hq 4 _ q4 (by omega)
          |j+5 => rw[List.getElem?_eq_none (by omega)];rfl
         rw[hcse] at htr
         exact ih n (by omega) x p' c' e.1 e.2 hT' htr
        omega
      ·cases hfb
   have hn:nod t=1+zj6 t.xs:=by cases t;rfl
   rw[Rows.uptoBulk,hn]
   omega
  ·cases h
end Go.Proofs.YtcceeahmcecbnaaGreatDoor
namespace Go.Proofs.YtcceeahmcecbnaaGreatDoor
open Go.Sx Go.RowKit Go.ChangeShapes Go.WideShapes Go.ChangeAt
section
variable {P:Program} {H:Type} {enc:TypeId×Value->H}
theorem zJX{a:Assume}{C:Checked}{os:Os}{f:FuncId}{fn:Func}{s:ChangeSpec}{conds:List PathCond}{apart fresh handsOn again:Bool}{X:World->Array Value->Prop}
  (hX:∀(w w':World)(args:Array Value),w.heap=w'.heap->X w args->X w' args)
  (own:ownKnob C.prog.godebug=none) (started:os.Started) (noInit:C.prog.inits.idxOf? f=none) (hfn:C.prog.funcs[f]?=some fn)
  (witness:∃(w:World) (tape:Tape) (i:Input),w.os=os/\(w.forCall tape i).Shaped C.prog/\i.vars=[]/\Input.okWide C.prog (w.forCall tape i) .any w.heap.size f i /\
   (((Rows.OpenSpec.upto s).pre enc C.prog fn conds apart (w.forCall tape i).memory i.args/\X (w.forCall tape i).memory i.args)/\sizedMet enc C.prog fn (Rows.OpenSpec.upto s) apart (w.forCall tape i).memory i.args)/\a.holds C.prog (lone (Frame.enter C.prog f i.args .normal) [] (w.forCall tape i)))
  (contract:∀(W:World) (base:Nat) (args:Array Value) (ds gs:List (DataW H)) (zcN:List MemPlace),
   (∀(j:Nat) t v,fn.params[j]?=some t->args[j]?=some v->Value.okWide C.prog W .any base t v) ->
   DataW.Whole enc C.prog fn.params.toList s.vars apart W args.toList ds gs zcN ->
   Rows.uptoBulkAll (ds++gs)<=1048576->X W args->W.ShapedOpen C.prog ->
   Calls C.prog f args W fun e W'=>∃v,e=.returned v/\s.post enc C.prog fn apart fresh handsOn again W args v W') :
  ReturnsInHanded a C os f .any (fun w args=>((Rows.OpenSpec.upto s).pre enc C.prog fn conds apart w args/\X w args)/\sizedMet enc C.prog fn (Rows.OpenSpec.upto s) apart w args) (s.post enc C.prog fn apart fresh handsOn again):=by
 refine returnsInHanded_of_calls own started noInit witness ?_
 intro w tape i _ hsh _ hok hpre hholds
 obtain⟨_,_,_,fn',hfn',_,_,_,_,hval⟩:=hok
 have e:fn'=fn:=Option.some.inj (hfn'.symm.trans hfn)
 subst e
 obtain⟨⟨hp0,hx⟩,hz⟩:=hpre
 obtain⟨ds,gs,zcN,hw,hc,hk⟩:=(OpenSpec.pre_some (k:=Rows.uptoSmall) rfl conds apart _ _).1 hp0
 refine(contract (w.forCall tape i) w.heap.size i.args ds gs zcN hval (DataW.Whole.of_heap (w':=w.forCall tape i) (by rfl) hw) (of_decide_eq_true hk) (hX _ _ _ (by rfl) hx) hsh).mono fun e W' ⟨v,he,hp⟩=>?_
 subst he
 exact ChangeSpec.post_blind hp
theorem zIz{C:Checked}{os:Os}{f:FuncId}{fn:Func}{s:ChangeSpec}{conds:List PathCond}{apart:Bool}{X:World->Array Value->Prop}(modest:Bool)(w0:World)(args:Array Value)(fuel:Nat)(hos:w0.os=os)
  (hsh:(w0.forCall (fun _ _=>0) ⟨#[],args,[]⟩).Shaped C.prog)
  (hok:Input.okWideB C.prog (w0.forCall (fun _ _=>0) ⟨#[],args,[]⟩) f ⟨#[],args,[]⟩=true)
  (hpre:(DataW.whole enc C.prog (w0.forCall (fun _ _=>0) ⟨#[],args,[]⟩).memory fn.params.toList s.vars apart args.toList fuel).any
   (fun x=>conds.all (PathCond.test C.prog ⟨fn.params.toList,x.1,s.plain.varTypes C.prog,x.2.1⟩)&&Rows.uptoSmall H (x.1++x.2.1))=true)
  (hsz:s.sizedB enc C.prog fn apart (w0.forCall (fun _ _=>0) ⟨#[],args,[]⟩).memory args fuel=true)
  (hx:X (w0.forCall (fun _ _=>0) ⟨#[],args,[]⟩).memory args) :
  ∃(w:World) (tape:Tape) (i:Input),w.os=os/\(w.forCall tape i).Shaped C.prog/\i.vars=[]/\Input.okWide C.prog (w.forCall tape i) .any w.heap.size f i /\
   (((Rows.OpenSpec.upto s).pre enc C.prog fn conds apart (w.forCall tape i).memory i.args/\X (w.forCall tape i).memory i.args)/\sizedMet enc C.prog fn (Rows.OpenSpec.upto s) apart (w.forCall tape i).memory i.args)/\({ modest:=modest }:Assume).holds C.prog (lone (Frame.enter C.prog f i.args .normal) [] (w.forCall tape i)) :=
 by
 obtain⟨x,hx1,hx2⟩:∃x,DataW.whole enc C.prog (w0.forCall (fun _ _=>0) ⟨#[],args,[]⟩).memory fn.params.toList s.vars apart args.toList fuel=some x /\
   (conds.all (PathCond.test C.prog ⟨fn.params.toList,x.1,s.plain.varTypes C.prog,x.2.1⟩)&&Rows.uptoSmall H (x.1++x.2.1))=true:=by
  cases hw:DataW.whole enc C.prog (w0.forCall (fun _ _=>0) ⟨#[],args,[]⟩).memory fn.params.toList s.vars apart args.toList fuel with
  |none => rw[hw] at hpre;cases hpre
  |some x => rw[hw] at hpre;exact⟨x,rfl,hpre⟩
 rw[Bool.and_eq_true] at hx2
 exact⟨w0,fun _ _=>0,⟨#[],args,[]⟩,hos,hsh,(Input.okWide_of_okWideB (base:=0) hok).1,(Input.okWide_of_okWideB hok).2,
  ⟨⟨(OpenSpec.pre_some (k:=Rows.uptoSmall) rfl conds apart _ _).2 ⟨x.1,x.2.1,x.2.2,DataW.Whole_of_whole hx1,hx2.1,hx2.2⟩,hx⟩,sizedMet_of_sizedB hsz⟩,by
  simp only[Assume.holds]
  exact⟨by simp,by simp,fun _=>Modest.zero,by simp,by simp⟩⟩
end
section
variable {P:Program} {H:Type} {enc:TypeId×Value->H}
theorem zJd{w:World}:∀{ts:List TypeId} {vs:List Value} {ds gs:List (DataW H)} {ps:List MemPlace},DataW.TrodAll enc P w 0 (fun _=>true) true ts vs ds ps ->
  ∀(j:Nat){t:TypeId}{v:Value},ts[j]?=some t->vs[j]?=some v->∃d qs n,DataW.trod enc P w 0 (fun _=>true) true n t v.cells.toList=some (d,qs)/\Rows.uptoBulk d<=Rows.uptoBulkAll (ds++gs)
 |[],_,_,_,_,_,j,_,_,ht,_ => by simp at ht
 |_::_,[],_,_,_,h,_,_,_,_,hv => by simp at hv
 |_::_,_::_,[],_,_,h,_,_,_,_,_ => by simp[DataW.TrodAll] at h
 |t::ts,v::vs,d::ds,gs,ps,h,j,t',v',ht,hv => by
  obtain⟨p1,q1,h1,h2,_⟩:=h
  cases j with
  |zero =>
   simp at ht hv
   subst ht hv
   obtain⟨n,h1⟩:=h1
   exact⟨d,p1,n,h1,by rw[List.cons_append,Rows.uptoBulkAll];omega⟩
  |succ j =>
   obtain⟨e,qs,n,a,b⟩:=zJd (gs:=gs) h2 j (by simpa using ht) (by simpa using hv)
   exact⟨e,qs,n,a,by rw[List.cons_append,Rows.uptoBulkAll];omega⟩
end
section
variable {P:Program} {H:Type} {enc:TypeId×Value->H}
theorem zrK{w:World}{T:TypeId}(hu:P.underlying T=some (.struct (P.fieldsOf T))){n:Nat}{cs:List Value}{d:DataW H}{ps:List MemPlace}(h:DataW.trod enc P w 0 (fun _=>true) true n T cs=some (d,ps)){i:Nat}{F:TypeId}{o:Nat}
  (hf:((P.fieldsOf T).toList[i]?).map (fun f=>(f.type,f.offset))=some (F,o)):∃m d' ps',DataW.trod enc P w 0 (fun _=>true) true m F ((cs.drop o).take (P.cellsOf F))=some (d',ps')/\Rows.uptoBulk d'<=Rows.uptoBulk d:=by
 cases n with
 |zero => cases h
 |succ n =>
  unfold DataW.trod at h
  rw[hu] at h
  simp only at h
  split at h
  ·rw[Option.map_eq_some_iff] at h
   obtain⟨xs,hxs,he⟩:=h
   injection he with he _
   subst he
   obtain⟨f,hf1,hf2⟩:=Option.map_eq_some_iff.1 hf
   simp only[Prod.mk.injEq] at hf2
   obtain⟨_,hget⟩:=zlz hxs
   obtain⟨b,hb,hfb⟩:=hget i f hf1
   rw[hf2.1,hf2.2] at hfb
   have hmem:b.1∈xs.map (·.1):=List.mem_map.2 ⟨b,List.mem_of_getElem? hb,rfl⟩
   have hle:=zlf hmem
   exact⟨n,b.1,b.2,hfb,by rw[Rows.uptoBulk];omega⟩
  ·cases h
end
theorem zGu{H:Type}{enc:TypeId×Value->H}{w:World}{n:Nat}{j:Jb}{pa:Option Addr}{ca:Nat}{pf:Option Addr}{cf:Nat}{d:DataW H}{ps:List MemPlace}(hT:IsT w j.ask pa ca)
  (h:DataW.trod enc Tryz.prog w 0 (fun _=>true) true n zsh (jcs j pa ca pf cf)=some (d,ps)):nod j.ask<=Rows.uptoBulk d:=by
 obtain⟨m,d',ps',h1,h2⟩:=zrK (by kernel_rfl) h (i:=3) (F:=zdN) (o:=5) (by kernel_rfl)
 rw[show Tryz.prog.cellsOf zdN=5 by kernel_rfl] at h1
 exact Nat.le_trans (zGH m j.ask pa ca d' ps' hT h1) h2
theorem zC8{W:World}{j_0:ByteArray}(h0:j_0.size<=9223372036854775807){j_1:Int}(h1:InR .i64 j_1){j_2:Int}(h2:InR .i64 j_2){j_3:Int}(h3:InR .i64 j_3){j_4:Int}(h4:InR .i64 j_4){j_5:Int}(h5:InR .i64 j_5){j_6:ByteArray}(h6:j_6.size<=9223372036854775807){j_7:ByteArray}(h7:j_7.size<=9223372036854775807){j_8:Int}(h8:InR .i64 j_8)
  {p:Option Addr} {l c:Nat} (hA:zaC Tryz.prog W zdN p l c) {q:Option Addr} {m d:Nat} (hF:zaC Tryz.prog W zfR q m d) :
  ∃j:Jb,IsJ W j p c q/\WfJ j/\jcs j p c q d=[.string j_0,.int .i64 j_1,.int .i64 j_2,.int .i64 j_3,.int .i64 j_4,.int .i64 j_5,.string j_6,.string j_7,.int .i64 j_8,.slice p l c,.slice q m d]:=by
 obtain⟨x,rfl,rfl,rfl,rfl,rfl,hT,hW⟩:=zI8 hA h5 h6 h7 h8
 obtain⟨xs,rfl,hx,hi⟩:=hF.ints (k:=.i64) (by kernel_rfl) (by kernel_rfl)
 refine⟨⟨j_0,j_1,⟨j_2,j_3,j_4⟩,x,xs⟩,⟨hT,hi⟩,⟨h0,h1,fun i hi=>?_,hW,by have:=hF.le;have:=hF.max;show xs.length<=_;omega,hx⟩,rfl⟩
 match i,hi with
 |0,_ => exact zLg h2
 |1,_ => exact zLg h3
 |2,_ => exact zLg h4
theorem zsR{P:Program}{W:World}{l:List (String×DataW Unit)}(h:laidMetH P l W)(hp:(l.all fun x=>x.2.handleName?.isNone)=true){name:String}{zs:List Int}{k:IntKind}
  (hm:(name,Lib.tabData k zs)∈l) {g:Nat} {t e:TypeId} {n:Nat} (hg:P.globalNamed name=some g) (hty:(P.globals[g]?).map (·.type)=some t)
  (ht:P.underlying t=some (.array n e)) (he:P.underlying e=some (.int k)) (hce:P.cellsOf e=1) (hct:P.cellsOf t=n):Lib.TabIs P W name k zs:=by
 have hnone:(l.filter fun x=>x.2.handleName?.isSome)=[]:=by
  rw[List.filter_eq_nil_iff]
  intro a ha hs
  have:=List.all_eq_true.1 hp a ha
  cases hh:a.2.handleName?<;>simp_all
 have h:laidMet P l W:=by
  unfold laidMetH at h
  rw[hnone] at h
  exact h
 obtain⟨ps,hL,_⟩:=h
 obtain⟨g',t',cs,fuel,p,h1,h2,h3,h4⟩:=zeF hL _ hm
 obtain rfl:=Option.some.inj (hg.symm.trans h1)
 obtain rfl:=Option.some.inj (hty.symm.trans h2)
 unfold Lib.TabIs
 rw[h3,<-Lib.cells_of_tab ht he hce hct h4]
theorem zzs{P:Program}{W:World}{l:List (String×DataW Unit)}(h:laidMetH P l W)(hp:(l.all fun x=>x.2.handleName?.isNone)=true){name:String}{d:DataW Unit}
  (hm:(name,d)∈l) {g:Nat} {t:TypeId} (hg:P.globalNamed name=some g) (hty:(P.globals[g]?).map (·.type)=some t) (ht:zuN P t=true):∃v,cell W (some (⟨g,0,none⟩:Addr)) 0=some v/\isErr v:=by
 have hnone:(l.filter fun x=>x.2.handleName?.isSome)=[]:=by
  rw[List.filter_eq_nil_iff]
  intro a ha hs
  have:=List.all_eq_true.1 hp a ha
  cases hh:a.2.handleName?<;>simp_all
 have h:laidMet P l W:=by
  unfold laidMetH at h
  rw[hnone] at h
  exact h
 obtain⟨ps,hL,_⟩:=h
 obtain⟨g',t',cs,fuel,p,h1,h2,h3,h4⟩:=zeF hL _ hm
 obtain rfl:=Option.some.inj (hg.symm.trans h1)
 obtain rfl:=Option.some.inj (hty.symm.trans h2)
 have h5:=World.var?_cell hg h3 0
 unfold zuN at ht
 split at ht
 ·rename_i m hu
  cases fuel with
  |zero => simp[DataW.trod] at h4
  |succ n =>
   unfold DataW.trod at h4
   rw[hu] at h4
   generalize hL':cs.toList=L at h4
   have hc:cs[0]?=L[0]?:=by rw[<-hL'];simp
   have fin:∀v,L=[v]->isErr v->∃v,cell W (some (⟨g,0,none⟩:Addr)) 0=some v/\isErr v:=fun v hv he=>by
    refine⟨v,?_,he⟩
    simp only[cell,Option.bind_some,add_zero]
    rw[h5,hc,hv];rfl
   match L,h4,fin with
   |[],h4,_ => simp at h4
   |[.nilIface],_,fin => exact fin _ rfl (.inl rfl)
   |[.iface a b],_,fin => exact fin _ rfl (.inr ⟨a,b,rfl⟩)
   |x::y::r,h4,_ => simp at h4
   |[.int _ _],h4,_|[.bool _],h4,_|[.string _],h4,_|[.float _ _],h4,_|[.complex _ _ _],h4,_|[.pointer _],h4,_|[.slice _ _ _],h4,_|[.agg _],h4,_|[.tuple _],h4,_ => simp at h4
   |[x],h4,fin => cases x<;>first|exact fin _ rfl (.inl rfl)|exact fin _ rfl (.inr ⟨_,_,rfl⟩)|simp at h4
 ·cases ht
theorem zuK{P:Program}{w:World}{g:Nat}{t:TypeId}{k:IntKind}{zero:Array Value}(h:w.ShapedOpen P)(hg:g<P.globals.size)
  (h0:((begin P (fun _ _=>0) default).world.heap[g]?).bind Obj.row?=some (zero,t)) (hz:zero.size=1)
  (hb:P.buildable t=true) (hc:P.cellTypes P.depth t=some [t]) (hu:P.underlying t=some (.int k)):∃m,cell w (some (⟨g,0,none⟩:Addr)) 0=some (.int k m):=by
 obtain⟨cs,hh,hs,hr⟩:=h.1 g zero t hg h0
 obtain⟨ts,hts,_,hall⟩:=hr hb
 rw[hc] at hts
 cases hts
 have h1:0<cs.size:=by omega
 obtain⟨u,hu',hok⟩:=hall 0 cs[0] (by simp[h1])
 have:u=t:=by simpa using hu'.symm
 subst this
 have hcell:cell w (some (⟨g,0,none⟩:Addr)) 0=some cs[0]:=by simp[cell,add_zero,World.cell?,hh,h1]
 rw[hcell]
 unfold Cell.ok at hok
 rw[hu] at hok
 cases hv:cs[0]<;>rw[hv] at hok<;>first|(simp at hok;obtain⟨rfl,_⟩:=hok;exact⟨_,rfl⟩)|(simp at hok;subst hok;exact⟨_,rfl⟩)|simp at hok
theorem gb_of{W:World}{l:List (String×DataW Unit)}(h:laidMetH Tryz.prog l W)(hsp:W.ShapedOpen Tryz.prog)(hp:(l.all fun x=>x.2.handleName?.isNone)=true)
  (h2 : ("internal/strconv.uint64pow10", (Rows.laid_internal_strconv_uint64pow10 : DataW Unit)) ∈ l)
  (h3 : ("strconv.ErrRange", (Rows.laid_strconv_ErrRange : DataW Unit)) ∈ l) (h4 : ("strconv.ErrSyntax", (Rows.laid_strconv_ErrSyntax : DataW Unit)) ∈ l) : GB W :=
 ⟨zsR h hp (k := .u64) (zs := Lib.pow10Tab) (by exact h2) (g := (Tryz.prog.globalNamed "internal/strconv.uint64pow10").getD 0) (t := (Tryz.prog.globals[(Tryz.prog.globalNamed "internal/strconv.uint64pow10").getD 0]?).elim 0 (·.type)) (e := zFm) (n := 20) (by kernel_rfl) (by kernel_rfl) (by kernel_rfl) (by kernel_rfl) (by kernel_rfl) (by kernel_rfl),
  zuK (zero:=#[.int .i64 0]) hsp (g:=5) (t:=(Tryz.prog.globals[5]?).elim 0 (·.type)) (of_decide_eq_true (by kernel_rfl)) (by kernel_rfl) rfl (by kernel_rfl) (by kernel_rfl) (by kernel_rfl),
  zzs h hp h4 (g:=2) (t:=(Tryz.prog.globals[2]?).elim 0 (·.type)) (by kernel_rfl) (by kernel_rfl) (by kernel_rfl),
  zzs h hp h3 (g:=3) (t:=(Tryz.prog.globals[3]?).elim 0 (·.type)) (by kernel_rfl) (by kernel_rfl) (by kernel_rfl)⟩
end Go.Proofs.YtcceeahmcecbnaaGreatDoor
namespace Go.Proofs.YtcceeahmcecbnaaGreatDoor
open Go.Sx Go.RowKit
theorem zi1{w w1 w2:World}{B:Nat}(h:Ext w w1)(b:Below B w1 w2)(hB:w.heap.size<=B):Ext w w2:=Below.trans h (b.mono hB)
theorem zG4{B:Nat}{w:World}{p:Option Addr}{n c:Nat}{a:Bs}{s:ByteArray}{K:Value->World->Prop}(ho:Own B w zaF 1 p n c ((bI a).map (.int .u8)))(hB:B<=w.heap.size)(hb:n+s.size<=140737488355328)
  (hk:∀p' c' w',Own B w' zaF 1 p' (n+s.size) c' ((bI (a++s.data.toList)).map (.int .u8))->Below B w w'->(∀b,b<w.heap.size->(∀x,p=some x->x.block≠b)->w'.heap[b]?=w.heap[b]?)->K (.slice p' (n+s.size) c') w'):Run Tryz.prog (.append #[zbM,zay] zbM [.slice p n c,.string s]) w K:=by
 obtain⟨i,g1,g2,g3,g4,g5,g6⟩:=zd0 zbf
 obtain⟨v',w',hr,ho',hg,_⟩:=Lib.run_append_own_string (P:=Tryz.prog) w B zbM zay zbM zaF i g1 (by kernel_rfl) g2 g3 g4 g5 (.slice p n c) n _ ho s (by simp only[maxLen];omega) hb hB
 have hst:Lib.strCells s=(bI s.data.toList).map (.int .u8):=by simp[Lib.strCells,bI]
 rw[hst,<-List.map_append,<-zo0] at ho'
 have hbel:Below B w w':=Below.grown (Below.refl B w) hg hB fun k hk=>by
  cases p with
  |none => simp[Value.ownBlock] at hk
  |some x => simp[Value.ownBlock] at hk;have:=(ho.lt x rfl).1;omega
 have hkeep:∀b,b<w.heap.size->(∀x,p=some x->x.block≠b)->w'.heap[b]?=w.heap[b]?:=fun b hb' hp=>hg.block b hb' fun h=>by
  cases p with
  |none => simp[Value.ownBlock] at h
  |some x => simp[Value.ownBlock] at h;exact hp x rfl h.symm
 rcases ho'.2 with⟨hv,hn⟩|⟨g,cap,cur,hv,hrest⟩
 ·subst hv
  have:n+s.size=0:=hn
  refine⟨_,w',hr,?_⟩
  have:=hk none 0 w' (by rw[this];rw[this] at ho';exact ho') hbel hkeep
  rwa [‹n+s.size=0›] at this
 ·subst hv
  exact⟨_,w',hr,hk (some ⟨g,0,none⟩) cap w' ho' hbel hkeep⟩
def num(n:Int)(k:Nat):Bs:=(List.range k).map fun(j:Nat)=>ub (zaw .shr .i64 n (8*((k:Int)-1-j)))
theorem zja(n:Int)(k:Nat):(num n k).length=k:=by simp[num]
theorem zs5{B:Nat}{w:World}{p:Option Addr}{n c:Nat}{a:Bs}(x:Int)(k:Nat)(ho:Own B w zaF 1 p n c ((bI a).map (.int .u8)))(hB:B<=w.heap.size)(hn:n<=1000)(hk:k<=8) :
  FnP Tryz.prog zdg #[.slice p n c,.int .i64 x,.int .i64 (k:Int)] w fun v w'=>Below B w w'/\∃p' c',v=.slice p' (n+k) c'/\Own B w' zaF 1 p' (n+k) c' ((bI (a++num x k)).map (.int .u8)):=by
 refine zpP p n c x k w _ ⟨i64 (by omega),?_⟩
 refine⟨fun out outl outc m w'=>Below B w w'/\∃j:Nat,j<=k/\m=(k:Int)-1-j/\outl=n+j/\Own B w' zaF 1 out outl outc ((bI (a++(num x k).take j)).map (.int .u8)),fun _ _ _ m _=>(m+1).toNat,⟨Below.refl _ _,0,by omega,by omega,rfl,by simpa using ho⟩,?_⟩
 rintro out outl outc m w3 ⟨h3,j,hj,rfl,rfl,o3⟩
 refine⟨fun h0=>⟨i64 (by omega),by omega,?_⟩,fun hneg w4 h4=>?_⟩
 ·rw[zyv]
  refine zGS zbf o3 (Nat.le_trans hB h3.size) (by omega) (by omega) fun p' c' w' o' g' _=>⟨i64 (by omega),⟨g'.below h3 (Nat.le_trans hB h3.size) (fun y hy=>(o3.lt y hy).1),j+1,by omega,by omega,by omega,?_⟩,by simp only[];omega⟩
  have hget:(num x k).take (j+1)=(num x k).take j++[ub (zaw .shr .i64 x (8*((k:Int)-1-j)))]:=by
   rw[List.take_succ_eq_append_getElem (by rw[zja];omega)]
   congr 2
   simp[num]
  rw[hget,<-List.append_assoc,zo0 (a++_)]
  exact o'
 ·obtain rfl:j=k:=by omega
  rw[List.take_of_length_le (by rw[zja];exact Nat.le_refl _)] at o3
  exact⟨h3.trans (h4.mono (Nat.le_trans hB h3.size)),out,outc,rfl,o3.ext h4⟩
structure Ev where
 kind:Int
 job:Jb
 n:Int
 id:Int
 ok:Bool
abbrev evcs(x:Ev)(pa:Option Addr)(ca:Nat)(pf:Option Addr)(cf:Nat):List Value:=[.int .i64 x.kind,.string x.job.user,.int .i64 x.job.prio,.int .i64 x.job.nd.c,.int .i64 x.job.nd.m,.int .i64 x.job.nd.g,.int .i64 x.job.ask.k,.string x.job.ask.key,.string x.job.ask.val,.int .i64 x.job.ask.n,.slice pa x.job.ask.xs.length ca,.slice pf x.job.aft.length cf,.int .i64 x.n,.int .i64 x.id,.bool x.ok]
abbrev evv(x:Ev)(pa:Option Addr)(ca:Nat)(pf:Option Addr)(cf:Nat):Value:=.agg #[.int .i64 x.kind,.string x.job.user,.int .i64 x.job.prio,.int .i64 x.job.nd.c,.int .i64 x.job.nd.m,.int .i64 x.job.nd.g,.int .i64 x.job.ask.k,.string x.job.ask.key,.string x.job.ask.val,.int .i64 x.job.ask.n,.slice pa x.job.ask.xs.length ca,.slice pf x.job.aft.length cf,.int .i64 x.n,.int .i64 x.id,.bool x.ok]
def zEL:Ev:=⟨0,zdv,0,0,false⟩
theorem zEM{j:Jb}:j=zdv↔j.user=emS/\j.prio=0/\j.nd=za6/\j.aft.length=0/\j.ask.k=0/\j.ask.key=emS/\j.ask.val=emS/\j.ask.n=0/\j.ask.xs.length=0:=by
 constructor
 ·rintro rfl;exact⟨rfl,rfl,rfl,rfl,rfl,rfl,rfl,rfl,rfl⟩
 ·rintro⟨h1,h2,h3,h4,h5,h6,h7,h8,h9⟩
  obtain⟨u,p,nd,t,af⟩:=j
  simp only at h1 h2 h3 h4 h5 h6 h7 h8 h9
  subst h1 h2 h3
  have h4':af=[]:=List.eq_nil_of_length_eq_zero h4
  subst h4'
  have:t=zjt:=by
   rw[AT.eta t,h5,h6,h7,h8,List.eq_nil_of_length_eq_zero h9]
  rw[this];rfl
theorem zDO(j:Jb)(pa:Option Addr)(ca:Nat)(pf:Option Addr)(cf:Nat)(w:World):FnP Tryz.prog zhm #[jv j pa ca pf cf] w fun v w'=>Ext w w'/\∃b:Bool,v=.bool b/\(b=true↔j=zdv):=by
 refine zqV j.user j.prio j.nd.c j.nd.m j.nd.g j.ask.k j.ask.key j.ask.val j.ask.n pa j.ask.xs.length ca pf j.aft.length cf w _ fun b0 hb0=>⟨fun h w1 h1=>?_,fun h w1 h1=>⟨h1,false,rfl,by simp,fun hj=>?_⟩⟩
 ·refine eqN_k (a:=j.nd) (b:=za6) ⟨Ext.refl _,_,rfl,fun w4 h4=>⟨h4,_,rfl,?_⟩⟩
  simp only[Bool.and_eq_true,decide_eq_true_eq]
  rw[zEM]
  constructor
  ·rintro⟨⟨⟨⟨⟨⟨a1,a2⟩,a3⟩,a4⟩,a5⟩,a6⟩,a7⟩
   exact⟨h.1,h.2,a1,by omega,a3,a4,a5,a6,by omega⟩
  ·rintro⟨_,_,a1,a2,a3,a4,a5,a6,a7⟩
   exact⟨⟨⟨⟨⟨⟨a1,by omega⟩,a3⟩,a4⟩,a5⟩,a6⟩,by omega⟩
 ·rw[hj] at h
  rcases h with h|h<;>exact absurd rfl h
def okE(x:Ev):Prop:=(x.kind=1/\okJ x.job/\x.n=0/\x.id=0/\x.ok=false)\/(x.kind=2/\x.job=zdv/\(0<=x.n/\x.n<=1000000000)/\x.id=0/\x.ok=false)\/(x.kind=3/\x.job=zdv/\x.n=0/\x.id=0/\x.ok=false) \/
 (x.kind=4/\x.job=zdv/\x.n=0/\(0<=x.id/\x.id<=65535))\/(x.kind=5/\x.job=zdv/\x.n=0/\(0<=x.id/\x.id<=65535)/\x.ok=false)
theorem zlG{x:Ev}(h:okE x):1<=x.kind/\x.kind<=5:=by
 rcases h with h|h|h|h|h<;>omega
theorem zFS(x:Ev)(pa:Option Addr)(ca:Nat)(pf:Option Addr)(cf:Nat)(w:World)(hJ:IsJ w x.job pa ca pf)(hW:WfJ x.job):FnP Tryz.prog zcY #[evv x pa ca pf cf] w fun v w'=>Ext w w'/\∃e:Int,v=.int .i64 e/\(e=0↔okE x):=by
 refine zkd x.kind x.job.user x.job.prio x.job.nd.c x.job.nd.m x.job.nd.g x.job.ask.k x.job.ask.key x.job.ask.val x.job.ask.n pa x.job.ask.xs.length ca pf x.job.aft.length cf x.n x.id x.ok w _ fun b0 hb0=>⟨fun hbad w1 h1=>⟨h1,1,rfl,by simp,fun h=>by have:=zlG h;omega⟩,fun hk=>⟨fun h1 w1 e1=>?_,fun h1=>?_⟩⟩
 ·refine(zDO x.job pa ca pf cf w1).mono fun v w2 ⟨e2,b,hv,hb⟩=>⟨e2,b,hv,fun hbad w4 h4=>⟨h4,1,rfl,by simp,fun ho=>?_⟩,fun hgd=>⟨fun h=>absurd h h1,fun _=>⟨fun hbad w4 h4=>⟨h4,4,rfl,by simp,fun ho=>?_⟩,fun hin w4 h4=>⟨h4,0,rfl,fun _=>?_,fun _=>rfl⟩⟩⟩⟩
  ·exfalso
   have hz:x.job=zdv:=by
    rcases ho with h|h|h|h|h
    ·exact absurd h.1 h1
    all_goals exact h.2.1
   rcases hbad with ((h|h)|h)|h
   ·rw[hb.2 hz] at h;cases h
   ·rcases ho with g|g|g|g|g
    ·exact h1 g.1
    ·exact h.1 g.1
    ·exact h.2 g.2.2.1
    ·exact h.2 g.2.2.1
    ·exact h.2 g.2.2.1
   ·rcases ho with g|g|g|g|g
    ·exact h1 g.1
    ·exact h.2 g.2.2.2.1
    ·exact h.2 g.2.2.2.1
    ·exact h.1.1 g.1
    ·exact h.1.2 g.1
   ·rcases ho with g|g|g|g|g
    ·exact h1 g.1
    ·rw[g.2.2.2.2] at h;cases h.2
    ·rw[g.2.2.2.2] at h;cases h.2
    ·exact h.1 g.1
    ·rw[g.2.2.2.2] at h;cases h.2
  ·exfalso
   rcases ho with g|g|g|g|g
   ·exact h1 g.1
   ·have:=g.2.2;omega
   ·have:=g.2.2;omega
   ·have:=g.2.2;omega
   ·have:=g.2.2;omega
  ·obtain⟨⟨⟨a1,a2⟩,a3⟩,a4⟩:=hgd
   have hz:=hb.1 a1
   have hk5:x.kind=2\/x.kind=3\/x.kind=4\/x.kind=5:=by omega
   rcases hk5 with g|g|g|g
   ·exact .inr (.inl ⟨g,hz,by omega,a3.resolve_left (by omega),a4.resolve_left (by omega)⟩)
   ·exact .inr (.inr (.inl ⟨g,hz,a2.resolve_left (by omega),a3.resolve_left (by omega),a4.resolve_left (by omega)⟩))
   ·exact .inr (.inr (.inr (.inl ⟨g,hz,a2.resolve_left (by omega),by omega⟩)))
   ·exact .inr (.inr (.inr (.inr ⟨g,hz,a2.resolve_left (by omega),by omega,a4.resolve_left (by omega)⟩)))
 ·refine⟨fun hbad w1 e1=>⟨e1,1,rfl,by simp,fun ho=>?_⟩,fun hgd=>⟨fun _ w1 e1=>?_,fun h=>absurd h1 h⟩⟩
  ·exfalso
   rcases ho with g|g|g|g|g
   ·rcases hbad with (h|h)|h
    ·exact h.2 g.2.2.1
    ·exact h.2 g.2.2.2.1
    ·rw[g.2.2.2.2] at h;cases h.2
   all_goals have:=g.1;omega
  ·refine(zzn x.job pa ca pf cf w1 (hJ.ext e1) hW).mono fun v w2 ⟨e2,e,hv,he⟩=>⟨e2,e,hv,fun w4 h4=>⟨h4,e,rfl,?_⟩⟩
   rw[he]
   obtain⟨⟨a2,a3⟩,a4⟩:=hgd
   constructor
   ·intro h;exact .inl ⟨h1,h,a2.resolve_left (by omega),a3.resolve_left (by omega),a4.resolve_left (by omega)⟩
   ·intro h
    rcases h with g|g|g|g|g
    ·exact g.2.1
    all_goals have:=g.1;omega
def enc(x:Ev):Bs:=ub x.kind::(if x.kind=1 then jtx x.job else if x.kind=2 then num x.n 4 else if x.kind=4 then num x.id 2++[if x.ok=true then 1 else 0] else if x.kind=5 then num x.id 2 else [])
theorem zz6{x:Int}(h:0<=x/\x<=255):((ub x).toNat:Int)=x:=by rw[zhd];omega
theorem zH5{j:Jb}(h:okJ j)(hn:nod j.ask<=1048576):(jtx j).length<=15005:=by
 have:=zhM (c:=32) (m:=3000) (jps j) (zC9 h hn)
 simp only[jps,List.length_cons,List.length_nil] at this
 exact Nat.le_trans this (by omega)
theorem zul(x:Ev)(pa:Option Addr)(ca:Nat)(pf:Option Addr)(cf:Nat)(w:World)(hJ:IsJ w x.job pa ca pf)(hW:WfJ x.job)(hn:nod x.job.ask<=1048576)(g:GB w):FnP Tryz.prog za1 #[evv x pa ca pf cf] w fun v w'=>Ext w w'/\∃p n c e,v=.tuple #[.slice p n c,.int .i64 e]/\(e=0↔okE x)/\(e≠0->p=none/\n=0/\c=0)/\(e=0->n=(enc x).length/\Own w.heap.size w' zaF 1 p n c ((bI (enc x)).map (.int .u8))):=by
 refine zpO x.kind x.job.user x.job.prio x.job.nd.c x.job.nd.m x.job.nd.g x.job.ask.k x.job.ask.key x.job.ask.val x.job.ask.n pa x.job.ask.xs.length ca pf x.job.aft.length cf x.n x.id x.ok w _ fun b0 hb0 w1 h1=>(zFS x pa ca pf cf w1 (hJ.ext h1) hW).mono fun v w2 ⟨e2,e,hv,he⟩=>⟨e2,e,hv,fun hne w4 h4=>⟨h4,none,0,0,e,rfl,he,fun _=>⟨rfl,rfl,rfl⟩,fun h=>absurd h hne⟩,fun hz=>?_⟩
 have ho:=he.1 hz
 have hk:=zlG ho
 have hub:=zz6 (x:=x.kind) (by omega)
 refine⟨⟨by show(0:Int)<=_;omega,by show _<=(255:Int);omega⟩,fun w4 x4=>ztv [ub x.kind] (by simp[bI,znb,hub]) rfl (by omega) (by omega) fun w5 o5 e5=>⟨e5,_,_,_,rfl,?_⟩⟩
 have h4:=zaa x4
 have hb04:b0<w4.heap.size:=x4.lt b0 (by simp)
 have o5:=o5 w4.heap.size (Nat.le_refl _)
 have h45:Ext w4 w5:=e5
 have hw5:Ext w w5:=h4.trans e5
 have hnb:∀{w':World}{p:Option Addr}{n c:Nat}{xs:List Value},Own w4.heap.size w' zaF 1 p n c xs->∀x,p=some x->x.block≠b0:=fun o x hx=>by have:=(o.lt x hx).1;omega
 have fin:∀(p:Option Addr)(c:Nat)(w':World)(l:Bs),Own w4.heap.size w' zaF 1 p l.length c ((bI l).map (.int .u8))->Ext w w'->enc x=l->(Ext w w'/\∃p' n' c' e',Value.tuple #[.slice p l.length c,.int .i64 0]=.tuple #[.slice p' n' c',.int .i64 e']/\(e'=0↔okE x)/\(e'≠0->p'=none/\n'=0/\c'=0)/\(e'=0->n'=(enc x).length/\Own w.heap.size w' zaF 1 p' n' c' ((bI (enc x)).map (.int .u8)))):=fun p c w' l o hx hl=>by
  subst hl
  exact⟨hx,p,_,c,0,rfl,⟨fun _=>ho,fun _=>rfl⟩,fun h=>absurd rfl h,fun _=>⟨rfl,o.weak h4.size⟩⟩
 refine⟨fun hk1 w9 h9=>?_,fun hk1=>⟨fun hk2 w9 x9=>?_,fun hk2=>⟨fun hk4 w9 x9=>?_,fun hk4=>⟨fun hk5 w9 x9=>?_,fun hk5 w9 h9=>?_⟩⟩⟩⟩
 ·have hoj:okJ x.job:=by
   rcases ho with g|g|g|g|g
   ·exact g.2.1
   all_goals have:=g.1;omega
  refine(zxo x.job pa ca pf cf w9 (hJ.ext (hw5.trans h9)) hW hn (g.ext (hw5.trans h9))).mono fun v w10 ⟨e10,t,f,hv,hf,_,ht⟩=>⟨e10,t,f,hv,fun w13 x13=>?_⟩
  have ht:=ht (hf.2 hoj)
  have h13:=zaa x13
  have hjl:=zH5 hoj hn
  have hts:t.size=(jtx x.job).length:=by rw[ht,zas]
  have o13:=Own.ext o5 h13
  refine zG4 o13 (h45.trans h13).size (by omega) fun p' c' w14 o14 b14 _=>⟨fun b hb=>?_,p',_,c',rfl,fun w18 h18=>?_⟩
  ·simp at hb;subst hb
   exact b14.block _ hb04
  ·have hx14:Ext w w14:=zi1 (hw5.trans h13) b14 h4.size
   have hl:1+t.size=(ub x.kind::jtx x.job).length:=by rw[hts];simp;omega
   rw[hl] at o14 ⊢
   refine fin p' c' w18 (ub x.kind::jtx x.job) ?_ (hx14.trans h18) (by unfold enc;rw[if_pos hk1])
   have:=Own.ext o14 h18
   rw[ht,zcn] at this
   exact this
 ·have h9:=zaa x9
  have o9:=Own.ext o5 h9
  refine(zs5 (a:=[ub x.kind]) x.n 4 o9 (h45.trans h9).size (by omega) (by omega)).mono fun v w10 ⟨b10,p',c',hv,o10⟩=>⟨fun b hb=>by simp at hb;subst hb;exact b10.block _ hb04,p',_,c',hv,fun w14 h14=>?_⟩
  exact fin p' c' w14 (ub x.kind::num x.n 4) (Own.ext o10 h14) ((zi1 (hw5.trans h9) b10 h4.size).trans h14) (by unfold enc;rw[if_neg hk1,if_pos hk2])
 ·have h9:=zaa x9
  have o9:=Own.ext o5 h9
  refine(zs5 (a:=[ub x.kind]) x.id 2 o9 (h45.trans h9).size (by omega) (by omega)).mono fun v w10 ⟨b10,p',c',hv,o10⟩=>⟨fun b hb=>by simp at hb;subst hb;exact b10.block _ hb04,p',_,c',hv,?_⟩
  have hw10:Ext w w10:=zi1 (hw5.trans h9) b10 h4.size
  have s10:w4.heap.size<=w10.heap.size:=Nat.le_trans (h45.trans h9).size b10.size
  have last:∀(y:UInt8),enc x=ub x.kind::(num x.id 2++[y])->∀w14,zag [] [b0] w10 w14->Run Tryz.prog (.buildSlice zbM 1 [(0,(.int .u8 (y.toNat:Int)))]) w14 fun v15 w15=>Ext w14 w15/\∃t16:Option Addr,∃tl17:Nat,∃tc18:Nat,v15=(.slice t16 tl17 tc18) /\
    ∀w19,zag [] [b0] w15 w19->Run Tryz.prog (.append #[zbM,zbM] zbM [(.slice p' (1+2) c'),(.slice t16 tl17 tc18)]) w19 fun v20 w20=>zbK [b0] w19 w20/\∃t21:Option Addr,∃tl22:Nat,∃tc23:Nat,v20=(.slice t21 tl22 tc23) /\
     ∀w24,Ext w20 w24->(Ext w w24/\∃p n c e,Value.tuple #[(.slice t21 tl22 tc23),(.int .i64 0)]=.tuple #[.slice p n c,.int .i64 e]/\(e=0↔okE x)/\(e≠0->p=none/\n=0/\c=0)/\(e=0->n=(enc x).length/\Own w.heap.size w24 zaF 1 p n c ((bI (enc x)).map (.int .u8)))):=by
   intro y hy
   refine zg6 zbf o10 s10 (fun b hb z hz=>by simp at hb;subst hb;exact hnb o10 z hz) (by omega) (by omega) fun p2 c2 w20 o20 g20 _ _=>fun w24 h24=>?_
   refine fin p2 c2 w24 (ub x.kind::(num x.id 2++[y])) ?_ ((zi1 hw10 (g20.below (Below.refl w4.heap.size w10) s10 fun z hz=>(o10.lt z hz).1) h4.size).trans h24) hy
   have:bI (ub x.kind::(num x.id 2++[y]))=bI ([ub x.kind]++num x.id 2)++[(y.toNat:Int)]:=by simp[bI]
   rw[this]
   exact Own.ext o20 h24
  refine⟨fun hok=>last 1 (by unfold enc;rw[if_neg hk1,if_neg hk2,if_pos hk4,if_pos hok]),fun hok=>last 0 (by unfold enc;rw[if_neg hk1,if_neg hk2,if_pos hk4,if_neg (by simp[hok])])⟩
 ·have h9:=zaa x9
  have o9:=Own.ext o5 h9
  refine(zs5 (a:=[ub x.kind]) x.id 2 o9 (h45.trans h9).size (by omega) (by omega)).mono fun v w10 ⟨b10,p',c',hv,o10⟩=>⟨fun b hb=>by simp at hb;subst hb;exact b10.block _ hb04,p',_,c',hv,fun w14 h14=>?_⟩
  exact fin p' c' w14 (ub x.kind::num x.id 2) (Own.ext o10 h14) ((zi1 (hw5.trans h9) b10 h4.size).trans h14) (by unfold enc;rw[if_neg hk1,if_neg hk2,if_neg hk4,if_pos hk5])
 ·exact fin _ _ w9 [ub x.kind] (Own.ext o5 h9) (hw5.trans h9) (by unfold enc;rw[if_neg hk1,if_neg hk2,if_neg hk4,if_neg hk5])
theorem zIA(n:Int)(h0:0<=n)(h1:n<2^60):IntKind.wrap .i64 n=n:=by
 have e:(2:Int)^60=1152921504606846976:=by decide
 rw[e] at h1
 exact wrap64 (by omega)
theorem shl8{n:Int}(h:0<=n/\n<1099511627776):zaw .shl .i64 n 8=n*256:=by
 show IntKind.wrap .i64 (n*2^(min (8:Int).toNat IntKind.i64.bits))=_
 rw[show min (8:Int).toNat IntKind.i64.bits=8 by decide,show(2:Int)^8=256 by decide]
 exact wrap64 (by omega)
theorem zsN{n c:Int}(h:0<=n/\n<1099511627776)(hc:0<=c/\c<=255):zaw .or .i64 (zaw .shl .i64 n 8) c=n*256+c:=by
 rw[shl8 h]
 have e60:(2:Int)^60=1152921504606846976:=by decide
 have e8:(2:Int)^8=256:=by decide
 exact bits_join .i64 60 (by decide) zIA 8 (n*256) c (by omega) (by rw[e8];omega) (by rw[e60];omega) hc.1 (by rw[e8];omega) (by rw[e60];omega)
theorem mask8{n:Int}(h:0<=n/\n<1099511627776):zaw .and .i64 n 255=n%256:=by
 have e60:(2:Int)^60=1152921504606846976:=by decide
 have:=bits_mask .i64 60 (by decide) zIA 8 (by decide) n h.1 (by rw[e60];omega)
 rw[show(2:Int)^8-1=255 by decide,show(2:Int)^8=256 by decide] at this
 exact this
theorem zvU(n:Int)(k:Nat)(hk:k<=64):zaw .shr .i64 n (k:Int)=n/(2^k:Int):=by
 show n.fdiv (2^(min ((k:Int)).toNat IntKind.i64.bits))=_
 rw[show min ((k:Int)).toNat IntKind.i64.bits=k by simp only[Int.toNat_natCast,IntKind.bits];omega]
 exact Int.fdiv_eq_ediv_of_nonneg _ (Int.le_of_lt (Int.pow_pos (by decide)))
theorem num2(n:Int):num n 2=[ub (n/256),ub n]:=by
 have a:=zvU n 8 (by decide)
 have b:=zvU n 0 (by decide)
 rw[show(2:Int)^8=256 by decide] at a
 rw[show(2:Int)^0=1 by decide,Int.ediv_one] at b
 show [ub (zaw .shr .i64 n ((8:Nat):Int)),ub (zaw .shr .i64 n ((0:Nat):Int))]=_
 rw[a,b]
theorem num4(n:Int):num n 4=[ub (n/16777216),ub (n/65536),ub (n/256),ub n]:=by
 have a:=zvU n 24 (by decide)
 have b:=zvU n 16 (by decide)
 have c:=zvU n 8 (by decide)
 have d:=zvU n 0 (by decide)
 rw[show(2:Int)^24=16777216 by decide] at a
 rw[show(2:Int)^16=65536 by decide] at b
 rw[show(2:Int)^8=256 by decide] at c
 rw[show(2:Int)^0=1 by decide,Int.ediv_one] at d
 show [ub (zaw .shr .i64 n ((24:Nat):Int)),ub (zaw .shr .i64 n ((16:Nat):Int)),ub (zaw .shr .i64 n ((8:Nat):Int)),ub (zaw .shr .i64 n ((0:Nat):Int))]=_
 rw[a,b,c,d]
def nOf(l:Bs):Int:=l.foldl (fun n c=>zaw .or .i64 (zaw .shl .i64 n 8) (c.toNat:Int)) 0
theorem u8b(c:UInt8):0<=(c.toNat:Int)/\(c.toNat:Int)<=255:=by have:=c.toNat_lt;omega
theorem nOf2(a b:UInt8):nOf [a,b]=a.toNat*256+b.toNat:=by
 have ha:=u8b a;have hb:=u8b b
 simp only[nOf,List.foldl_cons,List.foldl_nil]
 rw[zsN (by omega) ha,zsN (by omega) hb]
 omega
theorem nOf3(a b c:UInt8):nOf [a,b,c]=(a.toNat*256+b.toNat)*256+c.toNat:=by
 have ha:=u8b a;have hb:=u8b b;have hc:=u8b c
 simp only[nOf,List.foldl_cons,List.foldl_nil]
 rw[zsN (by omega) ha,zsN (by omega) hb,zsN (by omega) hc]
 omega
theorem nOf4(a b c d:UInt8):nOf [a,b,c,d]=((a.toNat*256+b.toNat)*256+c.toNat)*256+d.toNat:=by
 have ha:=u8b a;have hb:=u8b b;have hc:=u8b c;have hd:=u8b d
 simp only[nOf,List.foldl_cons,List.foldl_nil]
 rw[zsN (by omega) ha,zsN (by omega) hb,zsN (by omega) hc,zsN (by omega) hd]
 omega
structure ET(bs:Bs)(x:Ev):Prop where
 ok:okE x
 nod:nod x.job.ask<=1048576
 is:enc x=bs
 ask:x.kind=1->(txt x.job.ask).length<=2000
def ERes(w:World)(bs:Bs)(v:Value)(w':World):Prop:=Ext w w'/\∃x pa ca pf cf e,v=.tuple #[evv x pa ca pf cf,.int .i64 e]/\WfJ x.job/\(∀S:Nat->Prop,(∀b,S b->b<w.heap.size)->∀w'',Fr S w' w''->IsJ w'' x.job pa ca pf) /\
 ((e≠0/\x=zEL/\pa=none/\ca=0/\pf=none/\cf=0)\/(e=0/\okE x/\nod x.job.ask<=60/\enc x=bs/\(x.kind=1->(txt x.job.ask).length<=2000)))/\(∀x0,ET bs x0->bs.length<=3001->e=0/\x=x0)
theorem ziZ{w w':World}{bs:Bs}(x:Ext w w'){e:Int}(he:e≠0)(hno:∀x0,ET bs x0->bs.length<=3001->False):ERes w bs (.tuple #[evv zEL none 0 none 0,.int .i64 e]) w' :=
 ⟨x,zEL,none,0,none,0,e,rfl,zif,fun _ _ _ _=>zoP _,.inl ⟨he,rfl,rfl,rfl,rfl,rfl⟩,fun x0 h hs=>(hno x0 h hs).elim⟩
theorem zsI{w:World}{p:Option Addr}{c j:Nat}{l:Bs}(h:zeh .u8 w p (bI l))(hlc:l.length<=c):zeh .u8 w (pCut p c (j:Int) 1) (bI (l.drop j)):=by
 rcases Nat.lt_or_ge j l.length with hj|hj
 ·intro i v hv
  rw[zo7 _ _ _ _ _ _ (by simp;omega)]
  simp only[Int.toNat_natCast,Nat.mul_one]
  refine h (j+i) v ?_
  simp only[bI,List.map_drop,List.map_map] at hv ⊢
  rw[List.getElem?_drop] at hv
  exact hv
 ·rw[List.drop_of_length_le hj];exact zau.nil
theorem zzl{w:World}{p:Option Addr}{j:Nat}{l:Bs}(h:zeh .u8 w p (bI l)):zeh .u8 w p (bI (l.take j)):=fun i v hv=>by
 refine h i v ?_
 simp only[bI,List.map_take,List.getElem?_take] at hv ⊢
 split at hv
 ·exact hv
 ·cases hv
theorem zuq{x y:Ev}(h1:x.kind=y.kind)(h2:x.job=y.job)(h3:x.n=y.n)(h4:x.id=y.id)(h5:x.ok=y.ok):x=y:=by
 cases x;cases y;simp only at h1 h2 h3 h4 h5;subst h1 h2 h3 h4 h5;rfl
theorem zFc(b:Option Addr)(bc:Nat)(bs:Bs)(w:World)(hi:zeh .u8 w b (bI bs))(hbc:bs.length<=bc)(hbm:bc<=9223372036854775807)(g:GB w):FnP Tryz.prog zgn #[.slice b bs.length bc] w (ERes w bs):=by
 refine zpN b bs.length bc w _ fun b0 hb0=>⟨fun hbig w1 h1=>ziZ h1 (by decide) fun x0 _ h=>by omega,fun hle=>⟨fun h0 w1 h1=>ziZ h1 (by decide) fun x0 hx _=>?_,fun hne=>?_⟩⟩
 ·have:=congrArg List.length hx.is
  unfold enc at this
  simp at this
  omega
 obtain⟨k0,zat,rfl⟩:∃k0 zat,bs=k0::zat:=by
  cases bs with
  |nil => exact absurd rfl hne
  |cons k r => exact⟨k,r,rfl⟩
 have hk0:=u8b k0
 have g0:Go.Sx.cell w (pIdx b 0 1) 0=some (.int .u8 k0.toNat):=by
  rw[zae]
  exact hi 0 _ rfl
 have hri:zeh .u8 w (pCut b bc ((1:Nat):Int) 1) (bI zat):=zsI (j:=1) hi hbc
 have hri:zeh .u8 w (pCut b bc 1 1) (bI zat):=hri
 have hlr:(k0::zat).length=zat.length+1:=rfl
 have hkd:∀x0,ET (k0::zat) x0->x0.kind=k0.toNat/\enc x0=k0::zat:=fun x0 hx=>by
  have h1:=hx.is
  have hk:=zlG hx.ok
  refine⟨?_,h1⟩
  unfold enc at h1
  have h2:=(List.cons.inj h1).1
  rw[<-h2,zz6 (by omega)]
 have tail:∀(x:Ev)(pa:Option Addr)(ca:Nat)(pf:Option Addr)(cf:Nat)(w7:World),Ext w w7->WfJ x.job->nod x.job.ask<=60->(x.kind=1->(txt x.job.ask).length<=2000)->(∀S:Nat->Prop,(∀b,S b->b<w.heap.size\/b=b0)->∀w'',Fr S w7 w''->IsJ w'' x.job pa ca pf) ->
   (∀x0,ET (k0::zat) x0->(k0::zat).length<=3001->x=x0) ->
   FnP Tryz.prog za1 #[evv x pa ca pf cf] w7 fun v8 w8=>Ext w7 w8/\∃t9:Option Addr,∃tl10:Nat,∃tc11:Nat,∃t12:Int,v8=(.tuple #[(.slice t9 tl10 tc11),(.int .i64 t12)]) /\
    ((t12≠0)->∀w13,zag [b0] [] w8 w13->ERes w (k0::zat) (.tuple #[evv zEL none 0 none 0,.int .i64 3]) w13) /\
    ((
     t12=0)->∀w13,Ext w8 w13->FnP Tryz.prog zbb #[(.slice t9 tl10 tc11),(.slice b (k0::zat).length bc)] w13 fun v14 w14=>Ext w13 w14/\∃t15:Bool,v14=(.bool t15) /\
     ((t15=false)->∀w16,zag [b0] [] w8 w16->ERes w (k0::zat) (.tuple #[evv zEL none 0 none 0,.int .i64 3]) w16) /\
     ((t15=true)->∀w16,zag [b0] [] w8 w16->ERes w (k0::zat) (.tuple #[evv x pa ca pf cf,.int .i64 0]) w16)):=by
  intro x pa ca pf cf w7 hw7 hW hn hask hJ hC
  refine(zul x pa ca pf cf w7 (hJ (fun _=>False) (fun _ h=>h.elim) w7 (Fr.refl _ _)) hW (by omega) (g.ext hw7)).mono fun v w8 ⟨e8,p,n,c,e,hv,heq,hz,hok⟩=>⟨e8,p,n,c,e,hv,fun hne w13 x13=>?_,fun he w13 h13=>?_⟩
  ·refine ziZ (zav x13 (hw7.trans e8) (by intro d hd;simp at hd;omega)) (by decide) fun x0 hx hs=>?_
   have:=hC x0 hx hs
   subst this
   exact hne (heq.2 hx.ok)
  ·obtain⟨rfl,o⟩:=hok he
   refine(zwB w13 rfl rfl (o.cells.ext h13) (((hi.ext hw7).ext e8).ext h13)).mono fun v w14 ⟨e14,hv⟩=>⟨e14,_,hv,fun hf w16 x16=>?_,fun ht w16 x16=>?_⟩
   ·refine ziZ (zav x16 (hw7.trans e8) (by intro d hd;simp at hd;omega)) (by decide) fun x0 hx hs=>?_
    have:=hC x0 hx hs
    subst this
    exact of_decide_eq_false hf hx.is
   ·refine⟨zav x16 (hw7.trans e8) (by intro d hd;simp at hd;omega),x,pa,ca,pf,cf,0,rfl,hW,fun S hS w'' fw=>?_,.inr ⟨rfl,heq.1 he,hn,of_decide_eq_true ht,hask⟩,fun x0 hx hs=>⟨rfl,hC x0 hx hs⟩⟩
    exact hJ (fun b=>S b\/b=b0) (fun b hb=>hb.imp (hS b) id) w'' ((zac e8).tr ((zbL x16 (by intro d hd;simp at hd;exact .inl (.inr hd))).tr (fw.mono fun b hb=>.inl hb)))
 have zt:∀(S:Nat->Prop)(w7 w'':World),Fr S w7 w''->IsJ w'' zdv none 0 none:=fun _ _ _ _=>zoP _
 have hzn:nod zdv.ask<=60:=by decide
 refine⟨fun h=>zaj g0 (zah.2 h),by omega,by omega,_,g0,i64 (by omega),fun b2 hb2=>⟨by omega,by omega,by omega,by omega,by omega,by simp only[Int.toNat_one];omega,?_⟩⟩
 refine⟨fun n k w'=>w'=w/\0<=k/\k<=min 4 (zat.length:Int)/\n=nOf ((zat.take 4).take k.toNat),fun _ k _=>(4-k).toNat,⟨rfl,by omega,by omega,by simp[nOf]⟩,?_⟩
 rintro n k w' ⟨rfl,hk1,hk2,rfl⟩
 have hl4:(zat.take 4).length=min 4 zat.length:=List.length_take
 refine⟨fun hlt=>?_,fun hge=>?_⟩
 ·have hlt':k.toNat<min 4 zat.length:=by omega
  have hcell:Go.Sx.cell w' (pIdx (pCut (pCut b bc 1 1) (bc-(1:Int).toNat) 0 1) k 1) 0=some (.int .u8 ((zat.take 4)[k.toNat]'(by omega)).toNat):=by
   rw[zfF,zae]
   refine hri _ _ ?_
   simp[bI,show k.toNat<zat.length by omega]
  have hb:=u8b ((zat.take 4)[k.toNat]'(by omega))
  refine⟨fun h=>zaj hcell (zah.2 h),hk1,hlt,_,hcell,i64 (by omega),i64 (by omega),⟨rfl,by omega,by omega,?_⟩,by simp only[];omega⟩
  have e:(zat.take 4).take (k.toNat+1)=(zat.take 4).take k.toNat++[(zat.take 4)[k.toNat]'(by omega)]:=List.take_succ_eq_append_getElem (by omega)
  rw[show(k+1).toNat=k.toNat+1 by omega,e]
  unfold nOf
  rw[List.foldl_append]
  rfl
 have hkm:k.toNat=min 4 zat.length:=by omega
 rw[List.take_of_length_le (by rw[hl4];omega)]
 refine⟨fun h1 w7 h7=>?_,fun h1=>⟨fun h2 w7 x7=>?_,fun h2=>⟨fun h4 w7 x7=>?_,fun h4=>⟨fun h5 w7 x7=>?_,fun h5 w7 x7=>?_⟩⟩⟩⟩
 ·
  refine zp3 (e:=zaF) (bs:=zat) (by kernel_rfl) (by kernel_rfl) (by kernel_rfl) (by omega) (hri.ext h7) ⟨Ext.refl _,_,rfl,fun w10 x10=>?_⟩
  have h10:=zaa x10
  have hb0_10:b0<w10.heap.size:=x10.lt b0 (by simp)
  have hb2_10:b2<w10.heap.size:=x10.lt b2 (by simp)
  refine(zJ3 (bT zat) (by rw[zB3];omega) w10 (g.ext h10)).mono fun v w11 ⟨e11,j,pa,ca,pf,cf,e,hv,hWj,hTj,hor,hcomp⟩=>⟨e11,j.user,j.prio,j.nd.c,j.nd.m,j.nd.g,j.ask.k,j.ask.key,j.ask.val,j.ask.n,pa,j.ask.xs.length,ca,pf,j.aft.length,cf,e,hv,fun b28 hb28=>?_⟩
  have hw11:=h10.trans e11
  have hcj:∀x0,ET (k0::zat) x0->(k0::zat).length<=3001->e=0/\(⟨1,j,0,0,false⟩:Ev)=x0:=fun x0 hx hs=>by
   obtain⟨hk,hen⟩:=hkd x0 hx
   have hk1:x0.kind=1:=by omega
   obtain⟨ho,hn0,hi0,hb0'⟩:okJ x0.job/\x0.n=0/\x0.id=0/\x0.ok=false:=by
    rcases hx.ok with q|q|q|q|q
    ·exact q.2
    all_goals (have:=q.1;omega)
   unfold enc at hen
   rw[if_pos hk1] at hen
   obtain⟨_,hen⟩:=List.cons.inj hen
   obtain⟨a1,a2⟩:=hcomp x0.job ⟨ho,hx.nod,by rw[<-hen];rfl,hx.ask hk1⟩ (by rw[zB3];omega)
   exact⟨a1,zuq hk1.symm a2 hn0.symm hi0.symm hb0'.symm⟩
  refine⟨fun hne2 w29 x29=>?_,fun he w29 x29=>?_⟩
  ·exact ziZ (zav x29 hw11 (by intro d hd;simp at hd;omega)) (by decide) fun x0 hx hs=>hne2 (hcj x0 hx hs).1
  ·have hw29:Ext w' w29:=zav x29 hw11 (by intro d hd;simp at hd;omega)
   obtain⟨hoj,hnj,_,haj⟩:okJ j/\nod j.ask<=60/\True/\(txt j.ask).length<=2000:=by
    rcases hor with⟨h,_⟩|⟨_,q1,q2,_,q4⟩
    ·exact absurd he h
    ·exact⟨q1,q2,trivial,q4⟩
   have:=tail ⟨1,j,0,0,false⟩ pa ca pf cf w29 hw29 hWj hnj (fun _=>haj) (fun S hS w'' fw=>?_) fun x0 hx hs=>(hcj x0 hx hs).2
   ·rw[h1];exact this
   ·refine hTj (fun b=>S b\/b=b2) (fun b hb=>?_) w'' ((zbL x29 (by intro d hd;simp at hd;exact .inl (.inr hd))).tr (fw.mono fun b hb=>.inl hb))
    have:=h10.size
    rcases hb with hb|rfl
    ·rcases hS b hb with h|rfl
     ·omega
     ·exact hb0_10
    ·exact hb2_10
 ·
  refine tail ⟨k0.toNat,zdv,nOf (zat.take 4),0,false⟩ none 0 none 0 w7 (zav x7 (Ext.refl _) (by intro d hd;simp at hd;omega)) zif hzn (fun h=>absurd h h1) (fun S _ w'' fw=>zt S w7 w'' fw) fun x0 hx hs=>?_
  obtain⟨hk,hen⟩:=hkd x0 hx
  rcases hx.ok with q|q|q|q|q
  ·have:=q.1;omega
  ·obtain⟨q1,q2,q3,q4,q5⟩:=q
   unfold enc at hen
   rw[if_neg (by omega),if_pos q1,num4] at hen
   obtain⟨_,hen⟩:=List.cons.inj hen
   refine zuq hk.symm q2.symm ?_ q4.symm q5.symm
   rw[<-hen]
   show nOf [_,_,_,_]=_
   rw[nOf4,zhd,zhd,zhd,zhd]
   omega
  all_goals (have:=q.1;omega)
 ·
  have hl3:zat.length=3:=by omega
  refine tail ⟨k0.toNat,zdv,0,zaw .shr .i64 (nOf (zat.take 4)) 8,decide (zaw .and .i64 (nOf (zat.take 4)) 255=1)⟩ none 0 none 0 w7 (zav x7 (Ext.refl _) (by intro d hd;simp at hd;omega)) zif hzn (fun h=>absurd h h1) (fun S _ w'' fw=>zt S w7 w'' fw) fun x0 hx hs=>?_
  obtain⟨hk,hen⟩:=hkd x0 hx
  rcases hx.ok with q|q|q|q|q
  ·have:=q.1;omega
  ·have:=q.1;omega
  ·have:=q.1;omega
  ·obtain⟨q1,q2,q3,q4⟩:=q
   unfold enc at hen
   rw[if_neg (by omega),if_neg (by omega),if_pos q1,num2] at hen
   obtain⟨_,hen⟩:=List.cons.inj hen
   have hn:nOf (zat.take 4)=x0.id*256+(if x0.ok=true then 1 else 0):=by
    rw[<-hen]
    show nOf [_,_,_]=_
    rw[nOf3,zhd,zhd]
    cases x0.ok<;>simp<;>omega
   have hs8:=zvU (nOf (zat.take 4)) 8 (by decide)
   rw[show(2:Int)^8=256 by decide] at hs8
   have hm:=mask8 (n:=nOf (zat.take 4)) (by rw[hn];split<;>omega)
   refine zuq hk.symm q2.symm q3.symm ?_ ?_
   ·show zaw .shr .i64 _ ((8:Nat):Int)=_
    rw[hs8,hn]
    split<;>omega
   ·show decide (zaw .and .i64 _ 255=1)=_
    rw[hm,hn]
    cases x0.ok
    ·simp<;>omega
    ·simp<;>omega
  ·have:=q.1;omega
 ·
  refine tail ⟨k0.toNat,zdv,0,nOf (zat.take 4),false⟩ none 0 none 0 w7 (zav x7 (Ext.refl _) (by intro d hd;simp at hd;omega)) zif hzn (fun h=>absurd h h1) (fun S _ w'' fw=>zt S w7 w'' fw) fun x0 hx hs=>?_
  obtain⟨hk,hen⟩:=hkd x0 hx
  rcases hx.ok with q|q|q|q|q
  ·have:=q.1;omega
  ·have:=q.1;omega
  ·have:=q.1;omega
  ·have:=q.1;omega
  ·obtain⟨q1,q2,q3,q4,q5⟩:=q
   unfold enc at hen
   rw[if_neg (by omega),if_neg (by omega),if_neg (by omega),if_pos q1,num2] at hen
   obtain⟨_,hen⟩:=List.cons.inj hen
   refine zuq hk.symm q2.symm q3.symm ?_ q5.symm
   rw[<-hen]
   show nOf [_,_]=_
   rw[nOf2,zhd,zhd]
   omega
 ·
  refine tail ⟨k0.toNat,zdv,0,0,false⟩ none 0 none 0 w7 (zaa x7) zif hzn (fun h=>absurd h h1) (fun S _ w'' fw=>zt S w7 w'' fw) fun x0 hx hs=>?_
  obtain⟨hk,hen⟩:=hkd x0 hx
  rcases hx.ok with q|q|q|q|q
  ·have:=q.1;omega
  ·have:=q.1;omega
  ·exact zuq hk.symm q.2.1.symm q.2.2.1.symm q.2.2.2.1.symm q.2.2.2.2.symm
  ·exfalso
   unfold enc at hen
   rw[if_neg (by omega),if_neg (by omega),if_pos q.1,num2] at hen
   have:=congrArg List.length hen
   simp at this
   omega
  ·have:=q.1;omega
theorem zJC{x:Ev}(h:okE x)(hn:nod x.job.ask<=1048576):(enc x).length<=15006:=by
 unfold enc
 rw[List.length_cons]
 split
 ·rename_i hk
  have hoj:okJ x.job:=by
   rcases h with q|q|q|q|q
   ·exact q.2.1
   all_goals (have:=q.1;omega)
  have:=zH5 hoj hn
  omega
 ·split
  ·rw[zja];omega
  ·split
   ·rw[List.length_append,zja];simp
   ·split
    ·rw[zja];omega
    ·simp
theorem zsv(x:Ev)(pa:Option Addr)(ca:Nat)(pf:Option Addr)(cf:Nat)(w:World)(hJ:IsJ w x.job pa ca pf)(hW:WfJ x.job)(hn:nod x.job.ask<=1048576)(g:GB w):FnP Tryz.prog zb4 #[evv x pa ca pf cf] w fun v w'=>Ext w w'/\∃p n c e,v=.tuple #[.slice p n c,.int .i64 e]/\(e=0↔okE x)/\(e≠0->p=none/\n=0/\c=0)/\(e=0->n=(fr (enc x)).length/\Own w.heap.size w' zaF 1 p n c ((bI (fr (enc x))).map (.int .u8))):=by
 refine ziq x.kind x.job.user x.job.prio x.job.nd.c x.job.nd.m x.job.nd.g x.job.ask.k x.job.ask.key x.job.ask.val x.job.ask.n pa x.job.ask.xs.length ca pf x.job.aft.length cf x.n x.id x.ok w _ fun b0 hb0 w1 x1=>?_
 have e1:=zaa x1
 refine(zul x pa ca pf cf w1 (hJ.ext e1) hW hn (g.ext e1)).mono fun v w2 ⟨e2,p,n,c,e,hv,heq,hz,hok⟩=>⟨e2,p,n,c,e,hv,fun hne w7 h7=>⟨(e1.trans e2).trans h7,none,0,0,e,rfl,heq,fun _=>⟨rfl,rfl,rfl⟩,fun h=>absurd h hne⟩,fun he=>?_⟩
 obtain⟨rfl,oE⟩:=hok he
 have ho:=heq.1 he
 subst he
 have hlen:=zJC ho hn
 generalize hbs:enc x=bs at oE hlen ⊢
 have hi:zeh .u8 w2 p (bI bs):=oE.cells
 refine fun w7 x7=>ztv [ub (zaw .shr .i64 (bs.length:Int) 8),ub (bs.length:Int)] (by rw[zyv,zyv];rfl) rfl (by omega) (by omega) fun w8 o8 e8=>⟨e8,_,_,_,rfl,fun w12 x12=>?_⟩
 have e7:=zaa x7
 have e12:=zaa x12
 have o12:=(o8 w7.heap.size (Nat.le_refl _)).ext e12
 have hi12:zeh .u8 w12 p (bI bs):=(((hi.ext e7).ext e8).ext e12)
 have h712:Ext w7 w12:=e8.trans e12
 have hb7:b0<w7.heap.size:=x7.lt b0 (by simp)
 refine zlV o12 h712.size rfl hi12 (by omega) fun p' c' w13 o13 g13=>⟨fun b hb=>?_,p',_,c',rfl,fun w17 h17=>?_⟩
 ·have:=x12.lt b hb
  refine g13.by_.block b this fun h=>?_
  simp only[blk,Option.map_some,Option.some.injEq] at h
  simp at hb
  omega
 have h713:Ext w7 w13:=g13.ext h712 o12
 have hi13:zeh .u8 w13 p (bI bs):=(hi.ext e7).ext h713
 refine zp3 (e:=zaF) (by kernel_rfl) (by kernel_rfl) (by kernel_rfl) rfl (hi13.ext h17) ⟨Ext.refl _,_,rfl,fun w20 h20=>(Sum_k 0 bs (by omega) w20).mono fun v w21 ⟨e21,hv⟩=>⟨e21,_,hv,?_⟩⟩
 refine⟨fun out outl outc i w'=>∃k:Nat,k<=8/\i=56-8*(k:Int)/\outl=bs.length+2+k/\Own w7.heap.size w' zaF 1 out outl outc ((bI (fr0 bs++tl8 (zE8 0 bs) k)).map (.int .u8))/\Ext w7 w',fun _ _ _ i _=>(i+8).toNat,⟨0,by omega,rfl,by omega,?_,h713⟩,?_⟩
 ·show Own w7.heap.size w13 zaF 1 p' (2+bs.length) c' _
  simpa[fr0,tl8] using o13
 rintro out outl outc i w26 ⟨k,hk,rfl,rfl,o26,h26⟩
 refine⟨fun hi0=>⟨hi0,?_⟩,fun hneg w27 h27=>?_⟩
 ·have hns:∀b∈[b0],∀x,out=some x->x.block≠b:=fun b hb x hx=>by
   have:=(o26.lt x hx).1
   simp at hb;omega
  rw[zyv]
  refine zg6 zbf o26 h26.size hns (by omega) (by omega) fun p' c' w' o' g' _ _=>⟨i64 (by omega),⟨k+1,by omega,by omega,by omega,?_,g'.ext h26 o26⟩,by simp only[];omega⟩
  rw[zz3,<-List.append_assoc,zo0]
  exact o'
 ·obtain rfl:k=8:=by omega
  have hw7:Ext w w7:=(e1.trans e2).trans e7
  exact⟨(hw7.trans h26).trans h27,out,_,outc,0,rfl,heq,fun h=>absurd rfl h,fun _=>⟨by rw[zge],(o26.weak hw7.size).ext h27⟩⟩
theorem zpi{bs:Bs}(h:bs.length<=65535):∃a b r,fr bs=a::b::r/\(a.toNat:Int)*256+b.toNat=bs.length/\r.take bs.length=bs:=by
 refine⟨_,_,bs++tl8 (zE8 0 bs) 8,rfl,?_,List.take_left⟩
 have hs:=zvU (bs.length:Int) 8 (by decide)
 rw[show(2:Int)^8=256 by decide] at hs
 rw[zhd,zhd]
 show(zaw .shr .i64 (bs.length:Int) ((8:Nat):Int))%256*256+_=_
 rw[hs]
 omega
def zx8(l:Bs):Prop:=∀a b r,l=a::b::r->(l.length:Int)<(a.toNat:Int)*256+b.toNat+10
structure Whole(x:Ev):Prop where
 ok:okE x
 nod:nod x.job.ask<=1048576
 ask:x.kind=1->(txt x.job.ask).length<=2000
 len:(enc x).length<=3001
def frs(L:List Ev):Bs:=L.flatMap fun x=>fr (enc x)
structure EvR where
 x:Ev
 pa:Option Addr
 ca:Nat
 pf:Option Addr
 cf:Nat
abbrev zqJ(r:EvR):List Value:=evcs r.x r.pa r.ca r.pf r.cf
structure GoodR(r:EvR):Prop where
 ok:okE r.x
 wf:WfJ r.x.job
 nod:nod r.x.job.ask<=60
 ask:r.x.kind=1->(txt r.x.job.ask).length<=2000
def zHB(w:World)(bs:Bs)(v:Value)(w':World):Prop:=Ext w w'/\∃(rs:List EvR) (p:Option Addr) (c:Nat) (n:Int),v=.tuple #[.slice p rs.length c,.int .i64 n]/\Own w.heap.size w' zeY 15 p rs.length c (rs.flatMap zqJ)/\(∀r∈rs,GoodR r/\∀S:Nat->Prop,(∀b,S b->b<w.heap.size)->∀w'',Fr S w' w''->IsJ w'' r.x.job r.pa r.ca r.pf)/\0<=n/\n<=bs.length/\bs.take n.toNat=frs (rs.map (·.x)) /\
 ∀(L:List Ev)(tl:Bs),(∀x∈L,Whole x)->zx8 tl->bs=frs L++tl->rs.map (·.x)=L
theorem zsC(a b:List Ev):frs (a++b)=frs a++frs b:=by simp[frs]
theorem shl_u8(a:UInt8):zaw .shl .i64 (a.toNat:Int) 8=a.toNat*256:=shl8 (by have:=u8b a;omega)
theorem Cut_k2(b:Option Addr)(bc:Nat)(bs:Bs)(w:World)(hi:zeh .u8 w b (bI bs))(hbc:bs.length<=bc)(hbm:bc<=9223372036854775807)(hbl:bs.length<=1048576)(g:GB w):FnP Tryz.prog zhq #[.slice b bs.length bc] w (zHB w bs):=by
 refine zq2 b bs.length bc w _ ⟨fun out outl outc at_ w'=>Ext w w'/\0<=at_/\at_<=bs.length/\∃rs:List EvR,outl=rs.length/\(rs.length:Int)<=at_/\Own w.heap.size w' zeY 15 out outl outc (rs.flatMap zqJ)/\(∀r∈rs,GoodR r/\∀w'',Fr (fun k=>k<w.heap.size\/∃a,out=some a/\a.block=k) w' w''->IsJ w'' r.x.job r.pa r.ca r.pf)/\bs.take at_.toNat=frs (rs.map (·.x)) /\
   (∀(L:List Ev)(tl:Bs),(∀x∈L,Whole x)->zx8 tl->bs=frs L++tl->rs.map (·.x)=L.take rs.length/\rs.length<=L.length),fun _ _ _ at_ _=>(bs.length-at_).toNat,⟨Ext.refl _,by omega,by omega,[],rfl,by simp,Own.nil,fun r hr=>(by cases hr),by simp[frs],fun L tl _ _ _=>⟨by simp,by simp⟩⟩,?_⟩
 rintro out outl outc at_ w3 ⟨x3,ha0,ha1,rs,rfl,hrl,o3,hrs,htk,hcomp⟩
 generalize hrest:bs.drop at_.toNat=zat
 have hrlen:zat.length=(bs.length-at_).toNat:=by rw[<-hrest,List.length_drop];omega
 have hbsr:bs=frs (rs.map (·.x))++zat:=by rw[<-htk,<-hrest,List.take_append_drop]
 have hia:=(hi.ext x3)
 have hri:zeh .u8 w3 (pCut b bc at_ 1) (bI zat):=by
  have:=zsI (j:=at_.toNat) hia hbc
  rw[hrest,Int.toNat_of_nonneg ha0] at this
  exact this
 have hrc:zat.length<=bc-at_.toNat:=by omega
 have fin:∀w4,Ext w3 w4->(∀(L:List Ev)(tl:Bs),(∀x∈L,Whole x)->zx8 tl->bs=frs L++tl->rs.length<L.length->False)->zHB w bs (.tuple #[.slice out rs.length outc,.int .i64 at_]) w4:=fun w4 h4 hno =>
  ⟨x3.trans h4,rs,out,outc,at_,rfl,o3.ext h4,fun r hr=>⟨(hrs r hr).1,fun S hS w'' fw=>(hrs r hr).2 w'' ((zac h4).tr (fw.mono fun b hb=>.inl (hS b hb)))⟩,ha0,ha1,htk,fun L tl hL ht he=>by
   obtain⟨h1,h2⟩:=hcomp L tl hL ht he
   have:rs.length=L.length:=by
    rcases Nat.lt_or_ge rs.length L.length with h|h
    ·exact(hno L tl hL ht he h).elim
    ·omega
   rw[h1,this,List.take_length]⟩
 have next:∀(L:List Ev)(tl:Bs),(∀x∈L,Whole x)->zx8 tl->bs=frs L++tl->rs.length<L.length->∃x r2,L[rs.length]?=some x/\Whole x/\zat=fr (enc x)++r2:=fun L tl hL ht he hlt=>by
  obtain⟨h1,h2⟩:=hcomp L tl hL ht he
  obtain⟨x,hx⟩:∃x,L[rs.length]?=some x:=⟨_,List.getElem?_eq_getElem hlt⟩
  have hsplit:L=L.take rs.length++x::L.drop (rs.length+1):=by
   have e1:=(List.take_append_drop rs.length L).symm
   rw[List.drop_eq_getElem_cons hlt] at e1
   rw[List.getElem?_eq_getElem hlt] at hx
   rw[<-Option.some.inj hx]
   exact e1
  refine⟨x,frs (L.drop (rs.length+1))++tl,hx,hL x (List.mem_of_getElem? hx),?_⟩
  have e2:frs L=frs (L.take rs.length)++(fr (enc x)++frs (L.drop (rs.length+1))):=by
   conv=>lhs;rw[hsplit]
   rw[zsC]
   rfl
  rw[e2,<-h1] at he
  rw[hbsr] at he
  have:=List.append_cancel_left (by simpa[List.append_assoc] using he:frs (rs.map (·.x))++zat=frs (rs.map (·.x))++(fr (enc x)++(frs (L.drop (rs.length+1))++tl)))
  exact this
 refine⟨ha0,by omega,by omega,fun hsm w4 h4=>fin w4 h4 fun L tl hL ht he hlt=>?_,fun h2=>?_⟩
 ·obtain⟨x,r2,_,_,hx⟩:=next L tl hL ht he hlt
  have:=congrArg List.length hx
  rw[List.length_append,zge] at this
  omega
 obtain⟨a,b1,r,rfl⟩:∃a b1 r,zat=a::b1::r:=by
  match zat,(show 2<=zat.length by omega) with
  |a::b::r,_ => exact⟨a,b,r,rfl⟩
 have ga:Go.Sx.cell w3 (pIdx (pCut b bc at_ 1) 0 1) 0=some (.int .u8 a.toNat):=by rw[zae];exact hri 0 _ rfl
 have gb:Go.Sx.cell w3 (pIdx (pCut b bc at_ 1) 1 1) 0=some (.int .u8 b1.toNat):=by rw[zae];exact hri 1 _ rfl
 have hpn:pCut b bc at_ 1≠none:=fun h=>zaj ga (zah.2 h)
 have ua:=u8b a
 have ub1:=u8b b1
 have hl2:(a::b1::r).length=r.length+2:=rfl
 refine⟨hpn,by omega,by omega,_,ga,i64 (by omega),hpn,by omega,by omega,_,gb,i64 (by omega),?_⟩
 rw[shl_u8]
 refine⟨i64 (by omega),i64 (by omega),fun hsm w6 h6=>fin w6 h6 fun L tl hL ht he hlt=>?_,fun hge=>?_⟩
 ·obtain⟨x,r2,_,hx,hx2⟩:=next L tl hL ht he hlt
  obtain⟨a',b',r',hf,hl,_⟩:=zpi (bs:=enc x) (by have:=hx.len;omega)
  have h3:=congrArg List.length hx2
  rw[List.length_append,zge] at h3
  rw[hf] at hx2
  simp only[List.cons_append,List.cons.injEq] at hx2
  rw[hx2.1,hx2.2.1] at hsm
  omega
 have hnr:(a.toNat:Int)*256+b1.toNat+8<=r.length:=by omega
 generalize hm:(a.toNat*256+b1.toNat:Nat)=m
 have hmI:(a.toNat:Int)*256+b1.toNat=(m:Int):=by rw[<-hm];simp
 rw[hmI] at hge hnr ⊢
 have hcutm:zeh .u8 w3 (pCut (pCut b bc at_ 1) (bc-at_.toNat) 2 1) (bI (r.take m)):=by
  have h1:=zsI (j:=2) hri hrc
  exact zzl (j:=m) h1
 have hlm:((((m:Int)+2)-2).toNat:Nat)=(r.take m).length:=by rw[List.length_take];omega
 refine⟨i64 (by omega),by omega,by omega,by omega,fun w6 h6=>?_⟩
 rw[hlm]
 refine(zFc _ _ (r.take m) w6 (hcutm.ext h6) (by rw[List.length_take];simp only[show(2:Int).toNat=2 from rfl];omega) (by omega) (g.ext (x3.trans h6))).mono fun v w7 ⟨e7,x,pa,ca,pf,cf,e,hv,hWx,hJx,horx,hcx⟩=>⟨e7,x.kind,x.job.user,x.job.prio,x.job.nd.c,x.job.nd.m,x.job.nd.g,x.job.ask.k,x.job.ask.key,x.job.ask.val,x.job.ask.n,pa,x.job.ask.xs.length,ca,pf,x.job.aft.length,cf,x.n,x.id,x.ok,e,hv,fun b28 hb28 w29 x29=>?_⟩
 have h29:=zaa x29
 have hw29:Ext w w29:=((x3.trans h6).trans e7).trans h29
 have hnx:nod x.job.ask<=60:=by
  rcases horx with⟨_,rfl,_⟩|⟨_,_,h,_⟩
  ·decide
  ·exact h
 refine(zsv x pa ca pf cf w29 (hJx (fun _=>False) (fun _ h=>h.elim) w29 (zac h29)) hWx (by omega) (g.ext hw29)).mono fun v w30 ⟨e30,q,n30,c30,e3,hv,heq3,hz3,hok3⟩=>⟨e30,q,n30,c30,e3,hv,fun _=>i64 (by omega),fun _=>by omega,fun _=>by omega,fun _=>by omega,fun hbad w35 h35=>?_,fun hgd w35 h35=>?_⟩
 ·refine fin w35 ((((h6.trans e7).trans h29).trans e30).trans h35) fun L tl hL ht he hlt=>?_
  obtain⟨y,r2,_,hy,hy2⟩:=next L tl hL ht he hlt
  obtain⟨a',b',r',hf,hl,htk2⟩:=zpi (bs:=enc y) (by have:=hy.len;omega)
  have hy2':=hy2
  rw[hf] at hy2
  simp only[List.cons_append,List.cons.injEq] at hy2
  have hmm:m=(enc y).length:=by rw[hy2.1,hy2.2.1] at hmI;omega
  have hr':r.take m=enc y:=by
   rw[hy2.2.2,hmm,List.take_append_of_le_length (by have:=congrArg List.length htk2;rw[List.length_take] at this;omega),htk2]
  obtain⟨c1,c2⟩:=hcx y ⟨hy.ok,hy.nod,hr'.symm,hy.ask⟩ (by rw[hr'];exact hy.len)
  rcases hbad with h|h
  ·exact h c1
  ·exact h (heq3.2 (by rw[c2];exact hy.ok))
 obtain⟨rfl,oF⟩:=hok3 hgd.2
 have hokx:=heq3.1 hgd.2
 have hencx:enc x=r.take m:=by
  rcases horx with⟨h,_⟩|⟨_,_,_,h,_⟩
  ·exact absurd hgd.1 h
  ·exact h
 have haskx:x.kind=1->(txt x.job.ask).length<=2000:=by
  rcases horx with⟨h,_⟩|⟨_,_,_,_,h⟩
  ·exact absurd hgd.1 h
  ·exact h
 have hml:(r.take m).length=m:=by rw[List.length_take];omega
 have hfl:(fr (enc x)).length=m+10:=by rw[zge,hencx,hml]
 have hw30:Ext w w30:=hw29.trans e30
 have h330:Ext w3 w30:=((h6.trans e7).trans h29).trans e30
 have hcut2:zeh .u8 w35 (pCut (pCut b bc at_ 1) (bc-at_.toNat) 0 1) (bI ((a::b1::r).take (m+10))):=by
  rw[zfF]
  exact(zzl (j:=m+10) hri).ext (h330.trans h35)
 refine(zwB w35 rfl (by rw[List.length_take];omega) (oF.cells.ext h35) hcut2).mono fun v w36 ⟨e36,hv⟩=>⟨e36,_,hv,fun hf w38 h38=>?_,fun ht=>?_⟩
 ·refine fin w38 (h330.trans h38) fun L tl hL ht he hlt=>?_
  obtain⟨y,r2,_,hy,hy2⟩:=next L tl hL ht he hlt
  obtain⟨a',b',r',hff,hl,htk2⟩:=zpi (bs:=enc y) (by have:=hy.len;omega)
  have hy2':=hy2
  rw[hff] at hy2
  simp only[List.cons_append,List.cons.injEq] at hy2
  have hmm:m=(enc y).length:=by rw[hy2.1,hy2.2.1] at hmI;omega
  have hr':r.take m=enc y:=by
   rw[hy2.2.2,hmm,List.take_append_of_le_length (by have:=congrArg List.length htk2;rw[List.length_take] at this;omega),htk2]
  refine of_decide_eq_false hf ?_
  rw[hy2',hencx,hr',List.take_append_of_le_length (by rw[zge];omega),List.take_of_length_le (by rw[zge];omega)]
 have hfeq:fr (enc x)=(a::b1::r).take (m+10):=of_decide_eq_true ht
 have o30:=o3.ext h330
 have hrs2:rs.length<=1048576:=by omega
 have hb28n:∀k∈[b28],∀y,out=some y->y.block≠k:=fun k hk y hy=>by
  simp at hk;subst hk
  have:=(o3.lt y hy).2
  have:=h6.size;have:=e7.size
  omega
 refine zp0 (v:=evv x pa ca pf cf) zsw (by omega) o30 hw30.size hb28n rfl (by intro u hu;simp[Value.cells] at hu;rcases hu with rfl|rfl|rfl|rfl|rfl|rfl|rfl|rfl|rfl|rfl|rfl|rfl|rfl|rfl|rfl<;>rfl) (by omega) (by omega) (by omega) fun p' c' w44 o44 g44 _ _=>⟨i64 (by omega),i64 (by omega),⟨g44.ext hw30 o30,by omega,by omega,rs++[⟨x,pa,ca,pf,cf⟩],by simp,by simp;omega,?_,fun r hr=>?_,?_,fun L tl hL ht he=>?_⟩,?_⟩
 ·rw[List.flatMap_append]
  simpa[Value.cells] using o44
 ·have hsz44:=g44.size
  have step:∀(w0 w'':World),Ext w0 w30->w0.heap.size<=w30.heap.size->Fr (fun k=>k<w.heap.size\/∃a,p'=some a/\a.block=k) w44 w''->Fr (fun k=>k<w.heap.size\/∃a,out=some a/\a.block=k) w0 w'':=fun w0 w'' h08 hs fw=>by
   have f1:Fr (fun k=>k<w.heap.size\/∃a,out=some a/\a.block=k) w0 w44:=(zac h08).tr (zaP g44 fun a ha=>.inr ⟨a,ha,rfl⟩)
   refine f1.trans fw fun k hk=>?_
   rcases hk with hk|⟨a2,ha2,hk2⟩
   ·exact .inl (.inl hk)
   rcases g44.new with hn|hn
   ·left
    rw[ha2] at hn
    cases hout:out with
    |none => rw[hout] at hn;simp[blk] at hn
    |some y => rw[hout] at hn;simp[blk] at hn;exact .inr ⟨y,rfl,by omega⟩
   ·right
    have:=hn a2 ha2
    omega
  rcases List.mem_append.1 hr with hr|hr
  ·exact⟨(hrs r hr).1,fun w'' fw=>(hrs r hr).2 w'' (step w3 w'' h330 h330.size fw)⟩
  ·simp at hr;subst hr
   have h738:Ext w7 w30:=h29.trans e30
   refine⟨⟨hokx,hWx,hnx,haskx⟩,fun w'' fw=>hJx (fun k=>k<w.heap.size\/∃a,out=some a/\a.block=k) (fun k hk=>?_) w'' (step w7 w'' h738 h738.size fw)⟩
   rcases hk with hk|⟨y,hy,rfl⟩
   ·have:=x3.size;have:=h6.size;omega
   have:=(o3.lt y hy).2
   have:=h6.size
   omega
 ·rw[List.map_append,zsC,<-htk]
  have e1:(at_+((m:Int)+10)).toNat=at_.toNat+(m+10):=by omega
  rw[e1,List.take_add,hrest]
  congr 1
  rw[<-hfeq]
  simp[frs]
 ·obtain⟨h1,h2⟩:=hcomp L tl hL ht he
  rcases Nat.lt_or_ge rs.length L.length with hlt|hge2
  ·obtain⟨y,r2,hyL,hy,hy2⟩:=next L tl hL ht he hlt
   obtain⟨a',b',r',hff,hl,htk2⟩:=zpi (bs:=enc y) (by have:=hy.len;omega)
   rw[hff] at hy2
   simp only[List.cons_append,List.cons.injEq] at hy2
   have hmm:m=(enc y).length:=by rw[hy2.1,hy2.2.1] at hmI;omega
   have hr':r.take m=enc y:=by
    rw[hy2.2.2,hmm,List.take_append_of_le_length (by have:=congrArg List.length htk2;rw[List.length_take] at this;omega),htk2]
   obtain⟨_,c2⟩:=hcx y ⟨hy.ok,hy.nod,hr'.symm,hy.ask⟩ (by rw[hr'];exact hy.len)
   refine⟨?_,by simp;omega⟩
   rw[List.map_append,h1,List.length_append,List.length_singleton,List.take_add_one,hyL]
   simp[c2]
  ·have hlL:rs.length=L.length:=by omega
   have htl:a::b1::r=tl:=by
    rw[h1,hlL,List.take_length] at hbsr
    rw[he] at hbsr
    exact(List.append_cancel_left hbsr).symm
   have:=ht a b1 r htl.symm
   rw[<-htl] at this
   omega
 ·simp only[]
  omega
end Go.Proofs.YtcceeahmcecbnaaGreatDoor
namespace Go.Proofs.YtcceeahmcecbnaaGreatDoor
open Go.Sx Go.RowKit Go.ChangeShapes Go.WideShapes Go.ChangeAt
section
variable {P:Program} {H:Type} {enc:TypeId×Value->H}
theorem zFz:∀d:DataW H,1<=Rows.uptoBulk d
 |.lit l => by cases l<;>unfold Rows.uptoBulk<;>omega
 |.nil => by unfold Rows.uptoBulk;omega
 |.ptr d => by unfold Rows.uptoBulk;omega
 |.slice a b => by unfold Rows.uptoBulk;omega
 |.agg a => by unfold Rows.uptoBulk;omega
 |.iface _ d => by unfold Rows.uptoBulk;omega
 |.map a => by unfold Rows.uptoBulk;omega
 |.held _ => by unfold Rows.uptoBulk;omega
theorem zo4:∀l:List (DataW H),l.length<=Rows.uptoBulkAll l
 |[] => by simp[Rows.uptoBulkAll]
 |d::r => by
  have:=zFz d
  have:=zo4 r
  rw[Rows.uptoBulkAll,List.length_cons];omega
theorem zkT{w:World}{t e:TypeId}(hu:P.underlying t=some (.slice e)){n:Nat}{p:Option Addr}{l c:Nat}{d:DataW H}{ps:List MemPlace}(h:DataW.trod enc P w 0 (fun _=>true) true n t [.slice p l c]=some (d,ps)) :
  ∃(m:Nat) (es:List (DataW H)),es.length=l/\Rows.uptoBulkAll es<=Rows.uptoBulk d/\∀a,p=some a->∀i,i<l->∃cs x qs,w.cells? 0 (a.add (i*P.cellsOf e)) (P.cellsOf e)=some cs/\es[i]?=some x/\DataW.trod enc P w 0 (fun _=>true) true m e cs=some (x,qs):=by
 cases n with
 |zero => cases h
 |succ n =>
  unfold DataW.trod at h
  rw[hu] at h
  cases p with
  |none =>
   cases l with
   |zero => exact⟨n,[],rfl,by simp[Rows.uptoBulkAll],fun a ha => by cases ha⟩
   |succ l => simp at h
  |some a =>
   simp only at h
   split at h
   ·cases hm:(List.range l).mapM (fun i=>(w.cells? 0 (a.add (i*P.cellsOf e)) (P.cellsOf e)).bind (DataW.trod enc P w 0 (fun _=>true) true n e)) with
    |none => simp[hm] at h
    |some es =>
     rw[hm,Option.bind_some,Option.map_eq_some_iff] at h
     obtain⟨zat,_,he⟩:=h
     obtain⟨he,_⟩:=Prod.mk.inj he
     obtain⟨hl,hget⟩:=zlz hm
     rw[List.length_range] at hl
     refine⟨n,es.map (·.1),by simp[hl],by rw[<-he,Rows.uptoBulk];omega,fun b hb i hi=>?_⟩
     obtain rfl:=Option.some.inj hb
     obtain⟨y,hy,hfy⟩:=hget i i (by simp[hi])
     obtain⟨cs,hcs,htr⟩:=Option.bind_eq_some_iff.1 hfy
     exact⟨cs,y.1,y.2,hcs,by simp[hy],htr⟩
   ·cases h
theorem zA8{w:World}{t e:TypeId}(hu:P.underlying t=some (.slice e)){n:Nat}{p:Option Addr}{l c:Nat}{d:DataW H}{ps:List MemPlace}(h:DataW.trod enc P w 0 (fun _=>true) true n t [.slice p l c]=some (d,ps)):l<=Rows.uptoBulk d:=by
 obtain⟨_,es,h1,h2,_⟩:=zkT hu h
 have:=zo4 es
 omega
end
theorem zJK{H:Type}{enc:TypeId×Value->H}{w:World}{n:Nat}{x:Ev}{pa:Option Addr}{ca:Nat}{pf:Option Addr}{cf:Nat}{d:DataW H}{ps:List MemPlace}(hT:IsT w x.job.ask pa ca)
  (h:DataW.trod enc Tryz.prog w 0 (fun _=>true) true n zeY (evcs x pa ca pf cf)=some (d,ps)):nod x.job.ask<=Rows.uptoBulk d:=by
 obtain⟨m,d',ps',h1,h2⟩:=zrK (by kernel_rfl) h (i:=1) (F:=zsh) (o:=1) (by kernel_rfl)
 rw[show Tryz.prog.cellsOf zsh=11 by kernel_rfl] at h1
 exact Nat.le_trans (zGu (cf:=cf) hT h1) h2
theorem zy7(r:EvR):(zqJ r).length=15:=rfl
theorem zF5{W:World}{n:Nat}{es:List Value}(hg:Go.Sx.Good Tryz.prog W n zeY es):∃r:EvR,es=zqJ r/\WfJ r.x.job/\IsJ W r.x.job r.pa r.ca r.pf:=by
 have hlv:=zcO (P:=Tryz.prog) 6 zeY [zfR,zay,zfR,zde,zde,zde,zfR,zay,zay,zde,zcl,zyI,zde,zfR,zt5] n es (by kernel_rfl) hg
 obtain⟨v0,r0,rfl,l0,hlv⟩:=zai hlv
 obtain⟨v1,r1,rfl,l1,hlv⟩:=zai hlv
 obtain⟨v2,r2,rfl,l2,hlv⟩:=zai hlv
 obtain⟨v3,r3,rfl,l3,hlv⟩:=zai hlv
 obtain⟨v4,r4,rfl,l4,hlv⟩:=zai hlv
 obtain⟨v5,r5,rfl,l5,hlv⟩:=zai hlv
 obtain⟨v6,r6,rfl,l6,hlv⟩:=zai hlv
 obtain⟨v7,r7,rfl,l7,hlv⟩:=zai hlv
 obtain⟨v8,r8,rfl,l8,hlv⟩:=zai hlv
 obtain⟨v9,r9,rfl,l9,hlv⟩:=zai hlv
 obtain⟨va,ra,rfl,la,hlv⟩:=zai hlv
 obtain⟨vb,rb,rfl,lb,hlv⟩:=zai hlv
 obtain⟨vc,rc,rfl,lc,hlv⟩:=zai hlv
 obtain⟨vd,rd,rfl,ld,hlv⟩:=zai hlv
 obtain⟨ve,re,rfl,le,hlv⟩:=zai hlv
 obtain rfl:=zhN hlv
 obtain⟨x0,rfl,h0⟩:=zaL (k:=.i64) (by kernel_rfl) l0
 obtain⟨x1,rfl,h1⟩:=zc3 (by kernel_rfl) l1
 obtain⟨x2,rfl,h2⟩:=zaL (k:=.i64) (by kernel_rfl) l2
 obtain⟨x3,rfl,h3⟩:=zaL (k:=.i64) (by kernel_rfl) l3
 obtain⟨x4,rfl,h4⟩:=zaL (k:=.i64) (by kernel_rfl) l4
 obtain⟨x5,rfl,h5⟩:=zaL (k:=.i64) (by kernel_rfl) l5
 obtain⟨x6,rfl,h6⟩:=zaL (k:=.i64) (by kernel_rfl) l6
 obtain⟨x7,rfl,h7⟩:=zc3 (by kernel_rfl) l7
 obtain⟨x8,rfl,h8⟩:=zc3 (by kernel_rfl) l8
 obtain⟨x9,rfl,h9⟩:=zaL (k:=.i64) (by kernel_rfl) l9
 obtain⟨pa,na,ca,rfl,a1,a2,a3,a4⟩:=zfh (e:=zdN) (by kernel_rfl) la
 obtain⟨pf,nf,cf,rfl,f1,f2,f3,f4⟩:=zfh (e:=zfR) (by kernel_rfl) lb
 obtain⟨xc,rfl,hc⟩:=zaL (k:=.i64) (by kernel_rfl) lc
 obtain⟨xd,rfl,hd⟩:=zaL (k:=.i64) (by kernel_rfl) ld
 obtain⟨xe,rfl⟩:=zuU (by kernel_rfl) le
 obtain⟨j,hJ,hW,e⟩:=zC8 h1 h2 h3 h4 h5 h6 h7 h8 h9 ⟨a1,a2,a3,a4⟩ ⟨f1,f2,f3,f4⟩
 have e1:zqJ ⟨⟨x0,j,xc,xd,xe⟩,pa,ca,pf,cf⟩=.int .i64 x0::(jcs j pa ca pf cf++[.int .i64 xc,.int .i64 xd,.bool xe]):=rfl
 rw[e] at e1
 exact⟨⟨⟨x0,j,xc,xd,xe⟩,pa,ca,pf,cf⟩,e1.symm,hW,hJ⟩
theorem zJL{W:World}{p:Option Addr}{l c:Nat}(h:zaC Tryz.prog W zeY p l c):∃L:List EvR,L.length=l/\zfQ 15 zqJ W p L/\∀r∈L,WfJ r.x.job/\IsJ W r.x.job r.pa r.ca r.pf:=by
 obtain⟨L,h1,h2,h3⟩:=h.list (α:=EvR) zqJ (fun r=>WfJ r.x.job/\IsJ W r.x.job r.pa r.ca r.pf) (fun n es hg _=>zF5 hg)
 refine⟨L,h1,fun i x hx j u hu=>?_,h2⟩
 have:=h3 i x hx j u hu
 rwa [show Tryz.prog.cellsOf zeY=15 by kernel_rfl] at this
theorem zCk{w:World}{a:Addr}{cs:List Value}{r:EvR}{i:Nat}(h:w.cells? 0 (a.add (i*15)) 15=some cs)(hr:∀j u,(zqJ r)[j]?=some u->Go.Sx.cell w (some a) (i*15+j)=some u):cs=zqJ r:=by
 obtain⟨hl,hc⟩:=cells?_some h
 refine List.ext_getElem? fun j=>?_
 rcases Nat.lt_or_ge j 15 with hj|hj
 ·obtain⟨u,hu⟩:∃u,cs[j]?=some u:=⟨_,List.getElem?_eq_getElem (by omega)⟩
  obtain⟨u2,hu2⟩:∃u,(zqJ r)[j]?=some u:=⟨_,List.getElem?_eq_getElem (by rw[zy7];exact hj)⟩
  have h1:=hc j u hu
  have h2:=hr j u2 hu2
  simp only[Go.Sx.cell,Option.bind_some] at h1 h2
  rw[<-zft] at h2
  rw[hu,hu2,<-h1,<-h2]
 ·rw[List.getElem?_eq_none (by omega),List.getElem?_eq_none (by rw[zy7];omega)]
theorem zF6{H:Type}{enc:TypeId×Value->H}{w:World}{n:Nat}{p:Option Addr}{c:Nat}{L:List EvR}{d:DataW H}{ps:List MemPlace}(hR:zfQ 15 zqJ w p L)(hT:∀r∈L,IsT w r.x.job.ask r.pa r.ca)
  (h:DataW.trod enc Tryz.prog w 0 (fun _=>true) true n zrB [.slice p L.length c]=some (d,ps)):∀r∈L,nod r.x.job.ask<=Rows.uptoBulk d:=by
 obtain⟨m,es,h1,h2,h3⟩:=zkT (e:=zeY) (by kernel_rfl) h
 intro r hr
 obtain⟨i,hi⟩:=List.mem_iff_getElem?.1 hr
 have hil:=(List.getElem?_eq_some_iff.1 hi).1
 obtain⟨a,rfl⟩:∃a,p=some a:=by
  cases p with
  |none => exact absurd rfl (zaj (hR i r hi 0 _ rfl))
  |some a => exact⟨a,rfl⟩
 obtain⟨cs,x,qs,hcs,hx,htr⟩:=h3 a rfl i hil
 rw[show Tryz.prog.cellsOf zeY=15 by kernel_rfl] at hcs
 obtain rfl:=zCk hcs fun j u hu=>hR i r hi j u hu
 exact Nat.le_trans (zJK (hT r hr) htr) (Nat.le_trans (zlf (List.mem_of_getElem? hx)) h2)
end Go.Proofs.YtcceeahmcecbnaaGreatDoor
namespace Go.Proofs.YtcceeahmcecbnaaGreatDoor
open Go.Sx Go.RowKit
def zCG:Int->List Int->Int
 |_,[] => 0
 |a,x::r => if x<1\/60<x then 4 else if x<=a then 6 else zCG x r
theorem zw2:∀(l:List Int)(a:Int),zCG a l=0↔upA a l
 |[],a => by simp[zCG,upA]
 |x::r,a => by
  have ih:=zw2 r x
  unfold zCG upA
  split
  ·rename_i h;constructor
   ·intro h2;cases h2
   ·intro h2;omega
  ·split
   ·rename_i h;constructor
    ·intro h2;cases h2
    ·intro h2;omega
   ·rw[ih];constructor
    ·intro h2;exact⟨by omega,by omega,by omega,h2⟩
    ·intro h2;exact h2.2.2.2
def ztZ(j:Jb):Int:=if lbB j.user=false then 3 else if j.prio < -1000\/1000<j.prio then 4 else if zzd j.nd≠0 then zzd j.nd else if zmi j.ask≠0 then zmi j.ask else if 8<j.aft.length then 2 else zCG 0 j.aft
theorem zi0{j:Jb}:ztZ j=0↔okJ j:=by
 unfold ztZ
 constructor
 ·intro h
  split at h
  ·cases h
  rename_i h1
  split at h
  ·cases h
  rename_i h2
  split at h
  ·rename_i h3;exact absurd h h3
  rename_i h3
  split at h
  ·rename_i h4;exact absurd h h4
  rename_i h4
  split at h
  ·cases h
  rename_i h5
  exact⟨by simpa using h1,by omega,zba.1 (by omega),by omega,by omega,(zw2 _ _).1 h⟩
 ·intro h
  have hp:=h.prio
  have hl:=h.len
  rw[if_neg (by rw[h.user];simp),if_neg (by omega),if_neg (fun g=>g (zba.2 h.nd)),if_neg (fun g=>g h.ask),if_neg (by omega)]
  exact(zw2 _ _).2 h.up
theorem zC5(j:Jb)(pa:Option Addr)(ca:Nat)(pf:Option Addr)(cf:Nat)(w:World)(hJ:IsJ w j pa ca pf)(hW:WfJ j):FnP Tryz.prog zdo #[jv j pa ca pf cf] w fun v w'=>Ext w w'/\v=.int .i64 (ztZ j):=by
 refine znR j.user j.prio j.nd.c j.nd.m j.nd.g j.ask.k j.ask.key j.ask.val j.ask.n pa j.ask.xs.length ca pf j.aft.length cf w _ fun b0 hb0 w1 h1=>(zgq j.user hW.user w1).mono fun v w2 ⟨e2,hv⟩=>⟨e2,_,hv,fun hno w4 h4=>?_,fun hyes=>⟨fun hbad w4 h4=>?_,fun hpr w4 h4=>?_⟩⟩
 ·exact⟨h4,by unfold ztZ;rw[if_pos hno]⟩
 ·exact⟨h4,by unfold ztZ;rw[if_neg (by rw[hyes];simp),if_pos (by omega)]⟩
 refine(zex j.nd w4).mono fun v w5 ⟨e5,hv⟩=>⟨e5,_,hv,fun hne w7 h7=>⟨h7,by unfold ztZ;rw[if_neg (by rw[hyes];simp),if_neg (by omega),if_pos hne]⟩,fun hz w7 h7=>?_⟩
 refine(zoR j.ask pa ca w7 (hJ.1.ext h7) hW.ask).mono fun v w8 ⟨e8,hv⟩=>⟨e8,_,hv,fun hne w10 h10=>⟨h10,by unfold ztZ;rw[if_neg (by rw[hyes];simp),if_neg (by omega),if_neg (by omega),if_pos hne]⟩,fun hz2=>⟨fun hbig w10 h10=>⟨h10,by unfold ztZ;rw[if_neg (by rw[hyes];simp),if_neg (by omega),if_neg (by omega),if_neg (by omega),if_pos (by omega)]⟩,fun hle=>?_⟩⟩
 have hE:ztZ j=zCG 0 j.aft:=by unfold ztZ;rw[if_neg (by rw[hyes];simp),if_neg (by omega),if_neg (by omega),if_neg (by omega),if_neg (by omega)]
 rw[hE]
 refine⟨fun last k w'=>w'=w/\0<=k/\k<=j.aft.length/\zCG 0 j.aft=zCG last (j.aft.drop k.toNat),fun _ k _=>(j.aft.length-k).toNat,⟨rfl,by omega,by omega,by simp⟩,?_⟩
 rintro last k w' ⟨rfl,hk0,hk1,hup⟩
 refine⟨fun hlt=>?_,fun hge w14 h14=>⟨h14,by rw[hup,List.drop_eq_nil_of_le (by omega)];rfl⟩⟩
 have g:=zeh.idx hJ.2 hk0 hlt
 have hdrop:j.aft.drop k.toNat=j.aft.getD k.toNat 0::j.aft.drop (k.toNat+1):=by
  rw[List.drop_eq_getElem_cons (by omega)]
  congr 1
  simp[List.getD_eq_getElem?_getD,show k.toNat<j.aft.length by omega]
 rw[hdrop] at hup
 refine⟨fun hq=>zaj g (zah.2 hq),hk0,hlt,_,g,fun hbad w15 h15=>⟨h15,?_⟩,fun hin=>⟨fun hle2 w15 h15=>⟨h15,?_⟩,fun hgt=>⟨i64 (by omega),⟨rfl,by omega,by omega,?_⟩,by simp only[];omega⟩⟩⟩
 ·rw[hup,zCG,if_pos (by omega)]
 ·rw[hup,zCG,if_neg (by omega),if_pos (by omega)]
 ·rw[show(k+1).toNat=k.toNat+1 by omega,hup,zCG,if_neg (by omega),if_neg (by omega)]
def zGK(x:Ev):Prop:=(x.kind≠2/\x.n≠0)\/((x.kind≠4/\x.kind≠5)/\x.id≠0)\/(x.kind≠4/\x.ok=true)
def zID(x:Ev)(e:Int):Prop :=
 ((
  x.kind<1\/5<x.kind)/\e=1)\/((1<=x.kind/\x.kind<=5) /\
  ((x.kind≠1/\(x.job≠zdv\/zGK x)/\e=1)\/(x.kind≠1/\¬(x.job≠zdv\/zGK x)/\((x.n<0\/1000000000<x.n\/x.id<0\/65535<x.id)/\e=4\/¬(x.n<0\/1000000000<x.n\/x.id<0\/65535<x.id)/\e=0)) \/
   (x.kind=1/\zGK x/\e=1)\/(x.kind=1/\¬zGK x/\e=ztZ x.job)))
theorem zHV(x:Ev)(pa:Option Addr)(ca:Nat)(pf:Option Addr)(cf:Nat)(w:World)(hJ:IsJ w x.job pa ca pf)(hW:WfJ x.job):FnP Tryz.prog zcY #[evv x pa ca pf cf] w fun v w'=>Ext w w'/\∃e:Int,v=.int .i64 e/\zID x e:=by
 refine zkd x.kind x.job.user x.job.prio x.job.nd.c x.job.nd.m x.job.nd.g x.job.ask.k x.job.ask.key x.job.ask.val x.job.ask.n pa x.job.ask.xs.length ca pf x.job.aft.length cf x.n x.id x.ok w _ fun b0 hb0=>⟨fun hbad w1 h1=>⟨h1,1,rfl,.inl ⟨hbad,rfl⟩⟩,fun hk=>⟨fun h1 w1 e1=>?_,fun h1=>?_⟩⟩
 ·refine(zDO x.job pa ca pf cf w1).mono fun v w2 ⟨e2,b,hv,hb⟩=>⟨e2,b,hv,fun hbad w4 h4=>⟨h4,1,rfl,.inr ⟨hk,.inl ⟨h1,?_,rfl⟩⟩⟩,fun hgd=>⟨fun h=>absurd h h1,fun _=>⟨fun hbad w4 h4=>⟨h4,4,rfl,.inr ⟨hk,.inr (.inl ⟨h1,?_,.inl ⟨?_,rfl⟩⟩)⟩⟩,fun hin w4 h4=>⟨h4,0,rfl,.inr ⟨hk,.inr (.inl ⟨h1,?_,.inr ⟨?_,rfl⟩⟩)⟩⟩⟩⟩⟩
  ·rcases hbad with ((h|h)|h)|h
   ·left;intro hz;rw[hb.2 hz] at h;cases h
   ·exact .inr (.inl h)
   ·exact .inr (.inr (.inl h))
   ·exact .inr (.inr (.inr h))
  ·obtain⟨⟨⟨a1,a2⟩,a3⟩,a4⟩:=hgd
   rintro (h|h|h|h)
   ·exact h (hb.1 a1)
   ·omega
   ·omega
   ·rcases a4 with a4|a4
    ·exact h.1 a4
    ·rw[a4] at h;cases h.2
  ·omega
  ·obtain⟨⟨⟨a1,a2⟩,a3⟩,a4⟩:=hgd
   rintro (h|h|h|h)
   ·exact h (hb.1 a1)
   ·omega
   ·omega
   ·rcases a4 with a4|a4
    ·exact h.1 a4
    ·rw[a4] at h;cases h.2
  ·omega
 ·refine⟨fun hbad w1 e1=>⟨e1,1,rfl,.inr ⟨hk,.inr (.inr (.inl ⟨h1,?_,rfl⟩))⟩⟩,fun hgd=>⟨fun _ w1 e1=>?_,fun h=>absurd h1 h⟩⟩
  ·rcases hbad with (h|h)|h
   ·exact .inl h
   ·exact .inr (.inl h)
   ·exact .inr (.inr h)
  ·refine(zC5 x.job pa ca pf cf w1 (hJ.ext e1) hW).mono fun v w2 ⟨e2,hv⟩=>⟨e2,_,hv,fun w4 h4=>⟨h4,_,rfl,.inr ⟨hk,.inr (.inr (.inr ⟨h1,?_,rfl⟩))⟩⟩⟩
   obtain⟨⟨a2,a3⟩,a4⟩:=hgd
   rintro (h|h|h)
   ·omega
   ·omega
   ·rcases a4 with a4|a4
    ·exact h.1 a4
    ·rw[a4] at h;cases h.2
theorem zID.ok{x:Ev}{e:Int}(h:zID x e):e=0↔okE x:=by
 constructor
 ·rintro rfl
  rcases h with⟨_,h⟩|⟨hk,⟨_,_,h⟩|⟨h1,h2,h3⟩|⟨_,_,h⟩|⟨h1,h2,h3⟩⟩
  ·cases h
  ·cases h
  ·rcases h3 with⟨_,h⟩|⟨h3,_⟩
   ·cases h
   have hz:x.job=zdv:=Classical.byContradiction fun hh=>h2 (.inl hh)
   have ho:¬zGK x:=fun hh=>h2 (.inr hh)
   unfold zGK at ho
   have hok:x.kind≠4->x.ok=false:=fun hh=>by
    cases hx:x.ok with
    |false => rfl
    |true => exact absurd (.inr (.inr ⟨hh,hx⟩)) ho
   have hn:x.kind≠2->x.n=0:=fun hh=>Classical.byContradiction fun h=>ho (.inl ⟨hh,h⟩)
   have hi:x.kind≠4->x.kind≠5->x.id=0:=fun ha hb=>Classical.byContradiction fun h=>ho (.inr (.inl ⟨⟨ha,hb⟩,h⟩))
   have hk5:x.kind=2\/x.kind=3\/x.kind=4\/x.kind=5:=by omega
   rcases hk5 with g|g|g|g
   ·exact .inr (.inl ⟨g,hz,by omega,hi (by omega) (by omega),hok (by omega)⟩)
   ·exact .inr (.inr (.inl ⟨g,hz,hn (by omega),hi (by omega) (by omega),hok (by omega)⟩))
   ·exact .inr (.inr (.inr (.inl ⟨g,hz,hn (by omega),by omega⟩)))
   ·exact .inr (.inr (.inr (.inr ⟨g,hz,hn (by omega),by omega,hok (by omega)⟩)))
  ·cases h
  ·have ho:=h2
   unfold zGK at ho
   exact .inl ⟨h1,zi0.1 h3.symm,Classical.byContradiction fun h=>ho (.inl ⟨by omega,h⟩),Classical.byContradiction fun h=>ho (.inr (.inl ⟨by omega,h⟩)),by
    cases hx:x.ok with
    |false => rfl
    |true => exact absurd (.inr (.inr ⟨by omega,hx⟩)) ho⟩
 ·intro ho
  have hk:=zlG ho
  have hodd:¬zGK x:=by
   unfold zGK
   rcases ho with g|g|g|g|g
   ·rw[g.2.2.2.2];have:=g.1;have:=g.2.2.1;have:=g.2.2.2.1;simp;omega
   ·rw[g.2.2.2.2];have:=g.1;have:=g.2.2.2.1;simp;omega
   ·rw[g.2.2.2.2];have:=g.1;have:=g.2.2.1;have:=g.2.2.2.1;simp;omega
   ·have:=g.1;have:=g.2.2.1;simp;omega
   ·rw[g.2.2.2.2];have:=g.1;have:=g.2.2.1;simp;omega
  rcases h with⟨h,_⟩|⟨_,⟨h1,h2,_⟩|⟨h1,h2,h3⟩|⟨_,h,_⟩|⟨h1,h2,h3⟩⟩
  ·omega
  ·rcases h2 with h2|h2
   ·rcases ho with g|g|g|g|g
    ·exact absurd g.1 h1
    all_goals exact absurd g.2.1 h2
   ·exact absurd h2 hodd
  ·rcases h3 with⟨h3,_⟩|⟨_,h3⟩
   ·rcases ho with g|g|g|g|g
    ·exact absurd g.1 h1
    ·have:=g.2.2;omega
    ·have:=g.2.2;omega
    ·have:=g.2.2;omega
    ·have:=g.2.2;omega
   ·exact h3
  ·exact absurd h hodd
  ·rw[h3]
   refine zi0.2 ?_
   rcases ho with g|g|g|g|g
   ·exact g.2.1
   all_goals exact absurd g.1 (by omega)
theorem zIf{w:World}{x:Nd}{K:Option Addr->World->Prop}(h:∀p w',Ext w w'->zBF w' p x->p≠none->K p w'):New w zim (zww x) K :=
 zbp (by intro v hv;simp at hv;rcases hv with rfl|rfl|rfl<;>rfl) fun w' o e=>h _ w' e (o 0 (Nat.zero_le _)).cells (by simp)
abbrev NdsAt(w:World)(p:Option Addr)(L:List Nd):Prop:=zfQ 3 zww w p L
def zCF(L:List Nd):Int:=if ∀x∈L,okN x then 0 else 4
theorem zF3{L:List Nd}:zCF L=0↔∀x∈L,okN x:=by unfold zCF;split<;>simp_all
theorem zDr(p:Option Addr)(c:Nat)(L:List Nd)(h63:(L.length:Int)<=9223372036854775807)(w:World)(h:NdsAt w p L):FnP Tryz.prog zck #[.slice p L.length c] w fun v w'=>Ext w w'/\v=.int .i64 (zCF L):=by
 refine zq3 p L.length c w _ ⟨fun k w'=>w'=w/\0<=k/\k<=L.length/\∀i:Nat,(i:Int)<k->okN (L.getD i default),fun k _=>(L.length-k).toNat,⟨rfl,by omega,by omega,fun i hi=>by omega⟩,?_⟩
 rintro k w ⟨rfl,hk0,hk1,hall⟩
 refine⟨fun hlt=>?_,fun hge w3 h3=>⟨h3,?_⟩⟩
 ·have g0:=h.idx default hk0 hlt (j:=0) rfl
  have g1:=h.idx default hk0 hlt (j:=1) rfl
  have g2:=h.idx default hk0 hlt (j:=2) rfl
  refine⟨fun hq=>zaj g0 (zah.2 hq),hk0,hlt,zaj g0,_,g0,_,g1,_,g2,fun b6 _=>fun w7 h7=>?_⟩
  refine(zex (L.getD k.toNat default) w7).mono fun v w8 ⟨e8,hv⟩=>⟨e8,_,hv,fun hne w10 h10=>⟨h10,?_⟩,fun he=>⟨i64 (by omega),⟨rfl,by omega,by omega,fun i hi=>?_⟩,by simp only[];omega⟩⟩
  ·have hno:¬okN (L.getD k.toNat default):=fun h=>hne (zba.2 h)
   rw[zmE hno]
   congr 1
   exact(if_neg fun hx=>hno (hx _ (zaq L default (by omega)))).symm
  ·by_cases hik:(i:Int)<k
   ·exact hall i hik
   ·obtain rfl:i=k.toNat:=by omega
    exact zba.1 he
 ·congr 1
  refine(zF3.2 fun x hx=>?_).symm
  obtain⟨i,hi,rfl⟩:=List.getElem_of_mem hx
  have:=hall i (by omega)
  simpa[List.getD_eq_getElem?_getD,hi] using this
theorem zsW(a b:Nd){ns:List Nat}{w:World}{K:Int->World->Prop}(hk:∀w',Ext w w'->K (if okN a/\okN b then 0 else 4) w') :
  ∀w3,zag [] ns w w3->Run Tryz.prog (.buildSlice zBM 2 [(0,nv a),(1,nv b)]) w3 fun v4 w4=>Ext w3 w4/\∃t5:Option Addr,∃tl6:Nat,∃tc7:Nat,v4=.slice t5 tl6 tc7 /\
   ∀w8,Ext w4 w8->FnP Tryz.prog zck #[.slice t5 tl6 tc7] w8 fun v9 w9=>Ext w8 w9/\∃t10:Int,v9=.int .i64 t10/\K t10 w4:=by
 intro w3 x3
 refine zcG zum [nv a,nv b] rfl rfl (by intro v hv;simp at hv;rcases hv with rfl|rfl<;>rfl) (by omega) (by omega) fun w4 o4 e4=>⟨e4,_,_,_,rfl,fun w8 h8=>?_⟩
 have o8:=(o4 0 (Nat.zero_le _)).ext h8
 have hL:NdsAt w8 (some ⟨w3.heap.size,0,none⟩) [a,b]:=Own.recs (enc:=zww) (xs:=[a,b]) o8 fun _ _=>rfl
 refine(zDr _ 2 [a,b] (by simp) w8 hL).mono fun v w9 ⟨e9,hv⟩=>⟨e9,_,hv,?_⟩
 have:zCF [a,b]=if okN a/\okN b then 0 else 4:=by
  unfold zCF;simp
 rw[this]
 exact hk w4 ((zaa x3).trans e4)
theorem zDu(a b:Nd)(w:World):FnP Tryz.prog zht #[nv a,nv b] w fun v w'=>Ext w w'/\v=.bool (decide (zj4 a b)):=by
 refine zvt a.c a.m a.g b.c b.m b.g w _ fun b0 _ b1 _ w2 h2=>⟨h2,?_⟩
 congr 1
 unfold zj4
 by_cases h1:a.c<=b.c<;>by_cases h2:a.m<=b.m<;>by_cases h3:a.g<=b.g<;>simp[h1,h2,h3]
theorem zxr(a b:Nd)(w:World):FnP Tryz.prog zhr #[nv a,nv b] w fun v w'=>Ext w w'/\∃t e,v=.tuple #[.bool t,.int .i64 e]/\((okN a/\okN b/\e=0/\t=decide (zj4 a b))\/(¬(okN a/\okN b)/\e=4/\t=false)):=by
 refine zvr a.c a.m a.g b.c b.m b.g w _ fun b0 hb0 b1 hb1=>?_
 refine zsW a b fun w3 e3=>?_
 by_cases hok:okN a/\okN b
 ·rw[if_pos hok]
  refine⟨fun h=>absurd rfl h,fun _ w10 h10=>(zDu a b w10).mono fun v w11 ⟨e11,hv⟩=>⟨e11,_,hv,fun w13 h13=>⟨e3.trans h13,_,_,rfl,.inl ⟨hok.1,hok.2,rfl,rfl⟩⟩⟩⟩
 ·rw[if_neg hok]
  exact⟨fun _ w10 h10=>⟨e3.trans h10,_,_,rfl,.inr ⟨hok,rfl,rfl⟩⟩,fun h=>by omega⟩
theorem nAdd_k(a b:Nd)(w:World):FnP Tryz.prog zjy #[nv a,nv b] w fun v w'=>Ext w w'/\∃s e,v=.tuple #[nv s,.int .i64 e] /\
  ((okN a/\okN b/\okN (zwu a b)/\e=0/\s=zwu a b)\/(¬(okN a/\okN b)/\e=4/\s=za6)\/(okN a/\okN b/\¬okN (zwu a b)/\e=2/\s=za6)):=by
 refine zxL a.c a.m a.g b.c b.m b.g w _ fun b0 hb0 b1 hb1 b2 hb2=>?_
 refine zsW a b fun w4 e4=>?_
 by_cases hok:okN a/\okN b
 ·rw[if_pos hok]
  obtain⟨⟨a1,a2,a3⟩,⟨c1,c2,c3⟩⟩:=id hok
  refine⟨fun h=>absurd rfl h,fun _=>⟨i64 (by omega),i64 (by omega),i64 (by omega),fun b11 _ w12 h12=>?_⟩⟩
  refine(zex (zwu a b) w12).mono fun v w13 ⟨e13,hv⟩=>⟨e13,_,hv,fun hne w15 x15=>⟨zw3 x15 e4 hb2,za6,_,rfl,.inr (.inr ⟨hok.1,hok.2,fun h=>hne (zba.2 h),rfl,rfl⟩)⟩,fun he w15 x15=>⟨zw3 x15 e4 hb2,zwu a b,_,rfl,.inl ⟨hok.1,hok.2,zba.1 he,rfl,rfl⟩⟩⟩
 ·rw[if_neg hok]
  exact⟨fun _ w11 x11=>⟨zw3 x11 e4 hb2,za6,_,rfl,.inr (.inl ⟨hok,rfl,rfl⟩)⟩,fun h=>by omega⟩
theorem zzB(a b:Nd)(w:World):FnP Tryz.prog zcy #[nv a,nv b] w fun v w'=>Ext w w'/\∃s e,v=.tuple #[nv s,.int .i64 e] /\
  ((okN a/\okN b/\zj4 b a/\e=0/\s=zit a b)\/(¬(okN a/\okN b)/\e=4/\s=za6)\/(okN a/\okN b/\¬zj4 b a/\e=10/\s=za6)):=by
 refine zxM a.c a.m a.g b.c b.m b.g w _ fun b0 hb0 b1 hb1 b2 hb2=>?_
 refine zsW a b fun w4 e4=>?_
 by_cases hok:okN a/\okN b
 ·rw[if_pos hok]
  obtain⟨⟨a1,a2,a3⟩,⟨c1,c2,c3⟩⟩:=id hok
  refine⟨fun h=>absurd rfl h,fun _ w11 h11=>?_⟩
  refine(zDu b a w11).mono fun v w12 ⟨e12,hv⟩=>⟨e12,_,hv,fun hf w14 x14=>⟨zw3 x14 e4 hb2,za6,_,rfl,.inr (.inr ⟨hok.1,hok.2,by simpa using hf,rfl,rfl⟩)⟩,fun hf=>⟨i64 (by omega),i64 (by omega),i64 (by omega),fun w14 x14=>⟨zw3 x14 e4 hb2,zit a b,_,rfl,.inl ⟨hok.1,hok.2,by simpa using hf,rfl,rfl⟩⟩⟩⟩
 ·rw[if_neg hok]
  exact⟨fun _ w11 x11=>⟨zw3 x11 e4 hb2,za6,_,rfl,.inr (.inl ⟨hok,rfl,rfl⟩)⟩,fun h=>by omega⟩
def zry(h:Ht):Prop:=h.name.size<=9223372036854775807/\h.labels.length<=9223372036854775807/\∀l∈h.labels,l.key.size<=9223372036854775807/\l.val.size<=9223372036854775807
def ziz(w:World)(p:Option Addr)(L:List Ht):Prop:=∀(i:Nat)(h:Ht),L[i]?=some h->∃q c,(∀(j:Nat) u,(zE3 h q c)[j]?=some u->Go.Sx.cell w p (i*8+j)=some u)/\Lbs w q h.labels
theorem ziz.ext{w w':World}{p:Option Addr}{L:List Ht}(h:ziz w p L)(he:Ext w w'):ziz w' p L:=fun i x hx=>by
 obtain⟨q,c,h1,h2⟩:=h i x hx
 exact⟨q,c,fun j u hu=>zaz he (h1 j u hu),h2.ext he⟩
theorem ziz.at{w:World}{p:Option Addr}{L:List Ht}(h:ziz w p L){k:Int}(h0:0<=k)(hk:k<L.length):∃q c,p≠none/\pIdx p k 8≠none/\(∀(j:Nat) u,(zE3 (L.getD k.toNat default) q c)[j]?=some u->Go.Sx.cell w (pIdx p k 8) j=some u)/\Lbs w q (L.getD k.toNat default).labels:=by
 obtain⟨q,c,h1,h2⟩:=h k.toNat _ (getElem?_getD L default (by omega))
 have g:∀(j:Nat) u,(zE3 (L.getD k.toNat default) q c)[j]?=some u->Go.Sx.cell w (pIdx p k 8) j=some u:=fun j u hu=>by rw[zae];exact h1 j u hu
 have g0:=g 0 _ rfl
 exact⟨q,c,fun hq=>zaj g0 (zah.2 hq),zaj g0,g,h2⟩
def okLb(l:List Lb):Prop:=(∀x∈l,lbB x.key=true/\lbB x.val=true)/\(l.map (·.key)).Nodup
def zGM(h:Ht):Prop:=lbB h.name=true/\h.labels.length<=8/\okLb h.labels/\okN h.has/\okN h.used/\zj4 h.used h.has
def zj9(L:List Ht):Prop:=L.length<=30/\(∀h∈L,zGM h)/\(L.map (·.name)).Nodup
def ziA(w:World)(r:Nat)(S:List ByteArray):Prop:=∃m:List (ByteArray×Value),zdc Value.string w r m/\∀a,(a∈S/\ziC m a=some (.bool true))\/(a∉S/\ziC m a=none)
theorem ziA.ext{w w':World}{r:Nat}{S:List ByteArray}(h:ziA w r S)(he:Ext w w'):ziA w' r S:=by
 obtain⟨m,h1,h2⟩:=h
 exact⟨m,h1.ext he,h2⟩
theorem ziA.lt{w:World}{r:Nat}{S:List ByteArray}(h:ziA w r S):r<w.heap.size:=by
 obtain⟨m,h1,h2⟩:=h
 exact h1.lt
theorem ziA.grew{w w':World}{r s:Nat}{S:List ByteArray}(h:ziA w r S)(hr:r≠s)(hg:zco w w' (some ⟨s,0,none⟩) (some ⟨s,0,none⟩)):ziA w' r S:=by
 obtain⟨m,h1,h2⟩:=h
 exact⟨m,h1.grew (fun x hx=>by obtain rfl:=Option.some.inj hx;exact fun he=>hr he.symm) hg,h2⟩
theorem zzW{w:World}{K:Value->World->Prop}(hk:∀w',ziA w' w.heap.size []->Ext w w'->K (.map (some w.heap.size)) w'):Run Tryz.prog (.makeMap zej) w K :=
 zkS (enc:=Value.string) fun w' h e=>hk w' ⟨[],h,fun a=>.inr ⟨by simp,rfl⟩⟩ e
theorem zoJ{w:World}{r:Nat}{S:List ByteArray}(h:ziA w r S)(a:ByteArray){K:Value->World->Prop}(hk:∀b:Bool,(b=true↔a∈S)->K (.bool b) w):Run Tryz.prog (.lookup zej (.map (some r)) (.string a) false) w K:=by
 obtain⟨m,h1,h2⟩:=h
 obtain⟨i,hi,hz⟩:∃i,Tryz.prog.info? zt5=some i/\i.zero=some (.bool false):=by
  have:(Tryz.prog.info? zt5).map (·.zero)=some (some (.bool false)):=by kernel_rfl
  obtain⟨i,h1,h2⟩:=Option.map_eq_some_iff.1 this
  exact⟨i,h1,h2⟩
 refine znf (enc:=Value.string) (zsQ (k:=zay) (by kernel_rfl)) (e:=zt5) (by kernel_rfl) hi hz h1 ?_
 rcases h2 a with⟨h3,h4⟩|⟨h3,h4⟩
 ·rw[h4];exact hk true ⟨fun _=>h3,fun _=>rfl⟩
 ·rw[h4];exact hk false ⟨fun h=>(by cases h),fun h=>absurd h h3⟩
theorem ztw{w:World}{r:Nat}{S:List ByteArray}(h:ziA w r S)(a:ByteArray){K:Value->World->Prop}(hk:∀w',ziA w' r (S++[a])->zco w w' (some ⟨r,0,none⟩) (some ⟨r,0,none⟩)->K undef w'):Run Tryz.prog (.mapUpdate zej (.map (some r)) (.string a) (.bool true)) w K:=by
 obtain⟨m,h1,h2⟩:=h
 refine zh0 (enc:=Value.string) (zsQ (k:=zay) (by kernel_rfl)) (e:=zt5) (by kernel_rfl) h1 fun w' h3 h4=>hk w' ⟨_,h3,fun b=>?_⟩ h4
 rw[zlA]
 by_cases hab:a=b
 ·subst hab;exact .inl ⟨by simp,by simp⟩
 ·have:b≠a:=fun h=>hab h.symm
  rw[if_neg hab]
  rcases h2 b with⟨h5,h6⟩|⟨h5,h6⟩
  ·exact .inl ⟨List.mem_append_left _ h5,h6⟩
  ·exact .inr ⟨fun h=>by rcases List.mem_append.1 h with h|h;exact h5 h;exact this (by simpa using h),h6⟩
theorem zrX{α:Type}{l:List α}(h:l.Nodup)(k:Nat){x:α}(hx:l[k]?=some x):x∉l.take k:=by
 intro hm
 obtain⟨j,hj,he⟩:=List.getElem_of_mem hm
 rw[List.length_take] at hj
 rw[List.getElem_take] at he
 have h1:l[j]?=some x:=by rw[List.getElem?_eq_getElem (by omega),he]
 have:=(List.getElem?_inj (by omega) h).1 (h1.trans hx.symm)
 omega
theorem zj7{α:Type}:∀{l:List α},(∀(k:Nat) x,l[k]?=some x->x∉l.take k)->l.Nodup:=by
 intro l h
 rw[List.nodup_iff_pairwise_ne,List.pairwise_iff_getElem]
 intro i j hi hj hij he
 refine h j _ (List.getElem?_eq_getElem hj) ?_
 rw[List.mem_iff_getElem]
 exact⟨i,by simp;omega,by simp[he]⟩
theorem zc4{α β:Type}(f:α->β){l:List α}(d:α){k:Nat}(h:k<l.length):(l.take (k+1)).map f=(l.take k).map f++[f (l.getD k d)]:=by
 rw[List.take_add_one,getElem?_getD l d h];simp
theorem zsE(p:Option Addr)(c:Nat)(L:List Ht)(h63:(L.length:Int)<=9223372036854775807)(hO:∀h∈L,zry h)(w:World)(hL:ziz w p L) :
  FnP Tryz.prog zcf #[.slice p L.length c] w fun v w'=>Ext w w'/\∃e:Int,v=.int .i64 e/\(e=0↔zj9 L)/\e≠5/\(∀h r,L=h::r->lbB h.name=false->L.length<=30->e=3):=by
 refine zlO p L.length c w _ ⟨fun hgt w0 h0=>⟨h0,2,rfl,⟨fun h=>by omega,fun h=>by have:=h.1;omega⟩,by omega,fun h r _ _ hl=>by omega⟩,fun hle w0 h0=>?_⟩
 refine zzW fun w1 S1 e1=>⟨e1,_,rfl,?_⟩
 generalize hr1:w0.heap.size=r1 at S1
 have x1:=h0.trans e1
 have hw1:w.heap.size<=r1:=by have:=h0.size;omega
 refine⟨fun k w'=>Ext w w'/\0<=k/\k<=L.length/\ziA w' r1 ((L.take k.toNat).map (·.name))/\(∀j:Nat,(j:Int)<k->zGM (L.getD j default))/\(∀j:Nat,(j:Int)<k->(L.getD j default).name∉(L.take j).map (·.name)),fun k _=>(L.length-k).toNat,⟨x1,by omega,by omega,S1,fun j hj=>by omega,fun j hj=>by omega⟩,?_⟩
 rintro k w5 ⟨x5,hk0,hk1,S5,hok,hdist⟩
 have fin:∀{e:Int}{w':World},Ext w w'->(e≠0->¬zj9 L)->e≠0->e≠5->(∀h r,L=h::r->lbB h.name=false->L.length<=30->e=3)->Ext w w'/\∃e':Int,Value.int .i64 e=.int .i64 e'/\(e'=0↔zj9 L)/\e'≠5/\(∀h r,L=h::r->lbB h.name=false->L.length<=30->e'=3):=fun hx h1 h2 h3 h4=>⟨hx,_,rfl,⟨fun h=>absurd h h2,fun h=>absurd h (h1 h2)⟩,h3,h4⟩
 refine⟨fun hlt=>?_,fun hge w6 h6=>⟨x5.trans h6,0,rfl,⟨fun _=>⟨by omega,fun h hh=>?_,?_⟩,fun _=>rfl⟩,by omega,fun h r he hf _=>?_⟩⟩
 ·obtain⟨q,d,hp,hp8,g',hLb⟩:=hL.at hk0 hlt
  have hm:=zaq L default (i:=k.toNat) (by omega)
  have hOk:=hO _ hm
  generalize hHd:L.getD k.toNat default=H at g' hLb hm hOk
  have g:∀(j:Nat) u,(zE3 H q d)[j]?=some u->Go.Sx.cell w5 (pIdx p k 8) j=some u:=fun j u hu=>zaz x5 (g' j u hu)
  obtain⟨ho1,ho2,ho3⟩:=hOk
  have hnot:∀(P:Ht->Prop),(∀h∈L,P h)->P H:=fun P h=>h H hm
  have first:lbB H.name=true->∀h r,L=h::r->lbB h.name=false->(k:Int)≠0\/False:=fun hn h r he hf=>by
   refine .inl fun hz=>?_
   have:H=h:=by rw[<-hHd,he,hz];rfl
   rw[this,hf] at hn;cases hn
  have nofirst:lbB H.name=true->∀(e:Int) h r,L=h::r->lbB h.name=false->L.length<=30->e=3:=fun hn e h r he hf _=>by
   exfalso
   by_cases hz:k=0
   ·have:H=h:=by rw[<-hHd,he,hz];rfl
    rw[this,hf] at hn;cases hn
   ·have h0':=(hok 0 (by omega)).1
    have:L.getD 0 default=h:=by rw[he];rfl
    rw[this,hf] at h0';cases h0'
  refine⟨hp,hk0,hlt,hp8,_,g 0 _ rfl,_,_,_,g 1 _ rfl,_,g 2 _ rfl,_,g 3 _ rfl,_,g 4 _ rfl,_,g 5 _ rfl,_,g 6 _ rfl,_,g 7 _ rfl,fun b16 hb16=>?_⟩
  refine⟨fun w'=>w'=w5/\lbB H.name=true/\H.name∉(L.take k.toNat).map (·.name)/\H.labels.length<=8,fun w19 h19=>?_,?_⟩
  ·refine(zgq H.name ho1 w19).mono fun v w20 ⟨e20,hv⟩=>⟨e20,_,hv,fun hf w22 h22=>fin (x5.trans h22) (fun _ ho=>by have:=(ho.2.1 H hm).1;rw[hf] at this;cases this) (by omega) (by omega) (fun _ _ _ _ _=>rfl),fun hn w22 h22=>?_⟩
   refine zoJ (S5.ext h22) H.name fun b hb=>⟨Ext.refl _,b,rfl,fun hin w25 h25=>fin (x5.trans h25) (fun _ ho=>?_) (by omega) (by omega) (nofirst hn 6),fun hnin=>⟨fun h8 w25 h25=>fin (x5.trans h25) (fun _ ho=>by have:=(ho.2.1 H hm).2.1;omega) (by omega) (by omega) (nofirst hn 2),fun h8=>⟨rfl,hn,(fun hm=>by rw[hb.2 hm] at hnin;cases hnin),by omega⟩⟩⟩
   have hin:H.name∈(L.take k.toNat).map (·.name):=hb.1 hin
   have hx:(L.map (·.name))[k.toNat]?=some H.name:=by rw[List.getElem?_map,getElem?_getD L default (by omega),hHd];rfl
   refine zrX ho.2.2 k.toNat hx ?_
   rwa [<-List.map_take]
  rintro w5 ⟨rfl,hn,hnin,h8⟩ w19 x19
  have h19:=zaa x19
  have hb19:b16<w19.heap.size:=x19.lt b16 (by simp)
  have hr5:=S5.lt
  refine ztw (S5.ext h19) H.name fun w20 S20 g20=>⟨fun b hb=>?_,fun w21 x21=>?_⟩
  ·simp at hb;subst hb
   refine g20.by_.block b hb19 fun he=>?_
   simp[blk] at he;omega
  have x20:Ext w w20:=g20.below (x5.trans h19) (x5.trans h19).size (fun a ha=>by obtain rfl:=Option.some.inj ha;exact hw1)
  have h21:=zaa x21
  refine zzW fun w22 S22 e22=>⟨e22,_,rfl,?_⟩
  have hr21:r1<w21.heap.size:=by have:=S20.lt;have:=h21.size;omega
  generalize hr2:w21.heap.size=r2 at S22 hr21
  have x22:=(x20.trans h21).trans e22
  have hb16r:b16<r2:=by have:=g20.size;have:=h21.size;omega
  refine⟨fun j w'=>Ext w w'/\0<=j/\j<=H.labels.length/\ziA w' r1 ((L.take k.toNat).map (·.name)++[H.name])/\ziA w' r2 ((H.labels.take j.toNat).map (·.key))/\(∀i:Nat,(i:Int)<j->lbB (H.labels.getD i default).key=true/\lbB (H.labels.getD i default).val=true)/\(∀i:Nat,(i:Int)<j->(H.labels.getD i default).key∉(H.labels.take i).map (·.key)),fun j _=>(H.labels.length-j).toNat,⟨x22,by omega,by omega,(S20.ext h21).ext e22,S22,fun i hi=>by omega,fun i hi=>by omega⟩,?_⟩
  rintro j w26 ⟨x26,hj0,hj1,Sa,Sb,hlab,hldist⟩
  refine⟨fun hjl=>?_,fun hjg w27 h27=>?_⟩
  ·have hLb6:=hLb.ext x26
   have l0:=hLb6.idx default hj0 hjl (j:=0) rfl
   have l1:=hLb6.idx default hj0 hjl (j:=1) rfl
   have hlm:=zaq H.labels default (i:=j.toNat) (by omega)
   have hls:=ho3 _ hlm
   generalize hld:H.labels.getD j.toNat default=lb at l0 l1 hlm hls
   refine⟨fun hq=>zaj l0 (zah.2 hq),hj0,hjl,zaj l0,_,l0,_,l1,fun b29 hb29=>?_⟩
   refine⟨fun w'=>w'=w26/\lbB lb.key=true/\lbB lb.val=true/\lb.key∉(H.labels.take j.toNat).map (·.key),fun w32 h32=>?_,?_⟩
   ·refine(zgq lb.key hls.1 w32).mono fun v w33 ⟨e33,hv⟩=>⟨e33,_,hv,fun hf w35 h35=>fin (x26.trans h35) (fun _ ho=>by have:=((ho.2.1 H hm).2.2.1.1 lb hlm).1;rw[hf] at this;cases this) (by omega) (by omega) (fun _ _ _ _ _=>rfl),fun hkt w35 h35=>?_⟩
    refine(zgq lb.val hls.2 w35).mono fun v w36 ⟨e36,hv⟩=>⟨e36,_,hv,fun hf w38 h38=>fin (x26.trans h38) (fun _ ho=>by have:=((ho.2.1 H hm).2.2.1.1 lb hlm).2;rw[hf] at this;cases this) (by omega) (by omega) (fun _ _ _ _ _=>rfl),fun hvt w38 h38=>?_⟩
    refine zoJ (Sb.ext h38) lb.key fun b hb=>⟨Ext.refl _,b,rfl,fun hin w41 h41=>fin (x26.trans h41) (fun _ ho=>?_) (by omega) (by omega) (nofirst hn 6),fun hnin=>⟨rfl,hkt,hvt,fun hm=>by rw[hb.2 hm] at hnin;cases hnin⟩⟩
    have hin:lb.key∈(H.labels.take j.toNat).map (·.key):=hb.1 hin
    have hx:(H.labels.map (·.key))[j.toNat]?=some lb.key:=by rw[List.getElem?_map,getElem?_getD H.labels default (by omega),hld];rfl
    refine zrX (ho.2.1 H hm).2.2.1.2 j.toNat hx ?_
    rwa [<-List.map_take]
   rintro w26 ⟨rfl,hkt,hvt,hknin⟩ w32 x32
   have h32:=zaa x32
   refine ztw (Sb.ext h32) lb.key fun w33 S33 g33=>⟨fun b hb=>?_,i64 (by omega),⟨?_,by omega,by omega,?_,?_,fun i hi=>?_,fun i hi=>?_⟩,by simp only[];omega⟩
   ·have hlt':=x32.lt b hb
    refine g33.by_.block b hlt' fun he=>?_
    simp[blk] at he
    simp at hb
    have:=Sb.lt
    rcases hb with rfl|rfl<;>omega
   ·exact g33.below (x26.trans h32) (x26.trans h32).size (fun a ha=>by obtain rfl:=Option.some.inj ha;show w.heap.size<=r2;omega)
   ·exact(Sa.ext h32).grew (by omega) g33
   ·rw[show(j+1).toNat=j.toNat+1 by omega,zc4 (fun x:Lb=>x.key) default (by omega),hld];exact S33
   ·by_cases hij:(i:Int)<j
    ·exact hlab i hij
    ·obtain rfl:i=j.toNat:=by omega
     rw[hld];exact⟨hkt,hvt⟩
   ·by_cases hij:(i:Int)<j
    ·exact hldist i hij
    ·obtain rfl:i=j.toNat:=by omega
     rw[hld];exact hknin
  ·have hL1:okLb H.labels:=⟨fun x hx=>by
    obtain⟨i,hi,rfl⟩:=List.getElem_of_mem hx
    have:=hlab i (by omega)
    simpa[List.getD_eq_getElem?_getD,hi] using this,zj7 fun i x hx=>by
    have hi:i<H.labels.length:=by
     have:=(List.getElem?_eq_some_iff.1 hx).1
     simpa using this
    rw[List.getElem?_map,getElem?_getD H.labels default hi] at hx
    have hx:(H.labels.getD i default).key=x:=by simpa using hx
    rw[<-hx,<-List.map_take]
    exact hldist i (by omega)⟩
   refine(zxr H.used H.has w27).mono fun v w28 ⟨e28,t,e,hv,ht⟩=>⟨e28,_,_,hv,fun w31 h31=>?_⟩
   refine(zex H.has w31).mono fun v w32 ⟨e32,hv⟩=>⟨e32,_,hv,?_⟩
   refine⟨fun w'=>w'=w26/\okN H.has/\okN H.used/\zj4 H.used H.has,⟨fun hne w36 h36=>?_,fun he0=>⟨fun hne w36 h36=>?_,fun he=>⟨fun hf w36 h36=>?_,fun htt=>?_⟩⟩⟩,?_⟩
   ·have hno:¬okN H.has:=fun h=>hne (zba.2 h)
    rw[zmE hno]
    exact fin (x26.trans h36) (fun _ ho=>hno (ho.2.1 H hm).2.2.2.1) (by omega) (by omega) (nofirst hn 4)
   ·rcases ht with⟨_,_,rfl,_⟩|⟨hno,rfl,_⟩
    ·exact absurd rfl hne
    ·exact fin (x26.trans h36) (fun _ ho=>hno ⟨(ho.2.1 H hm).2.2.2.2.1,(ho.2.1 H hm).2.2.2.1⟩) (by omega) (by omega) (nofirst hn 4)
   ·rcases ht with⟨_,_,_,rfl⟩|⟨_,rfl,_⟩
    ·exact fin (x26.trans h36) (fun _ ho=>by have:=(ho.2.1 H hm).2.2.2.2.2;simp[this] at hf) (by omega) (by omega) (nofirst hn 10)
    ·omega
   ·rcases ht with⟨h1,h2,_,rfl⟩|⟨_,rfl,_⟩
    ·exact⟨rfl,h2,h1,by simpa using htt⟩
    ·omega
   ·rintro w26 ⟨rfl,ha,hu,hfit⟩
    refine⟨i64 (by omega),⟨x26,by omega,by omega,?_,fun i hi=>?_,fun i hi=>?_⟩,by simp only[];omega⟩
    ·rw[show(k+1).toNat=k.toNat+1 by omega,zc4 (fun x:Ht=>x.name) default (by omega),hHd];exact Sa
    ·by_cases hik:(i:Int)<k
     ·exact hok i hik
     ·obtain rfl:i=k.toNat:=by omega
      rw[hHd];exact⟨hn,h8,hL1,ha,hu,hfit⟩
    ·by_cases hik:(i:Int)<k
     ·exact hdist i hik
     ·obtain rfl:i=k.toNat:=by omega
      rw[hHd];exact hnin
 ·obtain⟨i,hi,rfl⟩:=List.getElem_of_mem hh
  have:=hok i (by omega)
  simpa[List.getD_eq_getElem?_getD,hi] using this
 ·refine zj7 fun i x hx=>?_
  have hi:i<L.length:=by
   have:=(List.getElem?_eq_some_iff.1 hx).1
   simpa using this
  rw[List.getElem?_map,getElem?_getD L default hi] at hx
  have hx:(L.getD i default).name=x:=by simpa using hx
  rw[<-hx,<-List.map_take]
  exact hdist i (by omega)
 ·exfalso
  have h0':=(hok 0 (by rw[he] at hge;simp at hge;omega)).1
  have:L.getD 0 default=h:=by rw[he];rfl
  rw[this,hf] at h0';cases h0'
theorem zp7(xs:List Value):∀(vs ys:List Value)(i:Nat),zdt (xs++ys) (xs.length+i) vs=xs++zdt ys i vs
 |[],ys,i => rfl
 |v::r,ys,i => by
  simp only[zdt]
  rw[List.set_append_right _ _ (by omega),show xs.length+i-xs.length=i by omega,show xs.length+i+1=xs.length+(i+1) by omega]
  exact zp7 xs r _ _
theorem zsa(ys:List Value):∀(vs xs:List Value)(i:Nat),i+vs.length<=xs.length->zdt (xs++ys) i vs=zdt xs i vs++ys
 |[],xs,i,_ => rfl
 |v::r,xs,i,h => by
  simp only[zdt]
  simp only[List.length_cons] at h
  rw[List.set_append_left _ _ (by omega)]
  exact zsa ys r _ _ (by simp;omega)
theorem zlU{α:Type}{enc:α->List Value}{s:Nat}(hs:∀x,(enc x).length=s)(L:List α)(i j:Nat)(vs:List Value)(x d:α)(hi:i<L.length)(hj:j+vs.length<=s)(he:zdt (enc (L.getD i d)) j vs=enc x) :
  zdt (L.flatMap enc) (i*s+j) vs=(L.set i x).flatMap enc:=by
 have hd:L.getD i d=L[i]:=by simp[List.getD_eq_getElem?_getD,hi]
 have h1:L=L.take i++L[i]::L.drop (i+1):=by rw[List.getElem_cons_drop,List.take_append_drop]
 have h2:L.set i x=L.take i++x::L.drop (i+1):=by
  rw[List.set_eq_take_append_cons_drop,if_pos hi]
 rw[h2]
 conv=>lhs;rw[h1]
 simp only[List.flatMap_append,List.flatMap_cons]
 have hl:((L.take i).flatMap enc).length=i*s:=by rw[zfe hs,List.length_take,Nat.min_eq_left (by omega)]
 rw[<-hl,zp7,zsa _ _ _ _ (by rw[hs];omega),<-hd,he]
structure Hm where
 h:Ht
 q:Option Addr
 d:Nat
instance:Inhabited Hm:=⟨⟨default,none,0⟩⟩
abbrev zjD(m:Hm):List Value:=zE3 m.h m.q m.d
theorem zgc(m:Hm):(zjD m).length=8:=rfl
theorem zy6(m:Hm):∀u∈zjD m,u.oneCell'=true:=by
 intro u hu
 simp[zjD,zE3] at hu
 rcases hu with rfl|rfl|rfl|rfl|rfl|rfl|rfl|rfl<;>rfl
theorem hs_ms{w:World}{p:Option Addr}{L:List Ht}(h:ziz w p L):∃M:List Hm,M.map (·.h)=L/\zfQ 8 zjD w p M/\∀m∈M,Lbs w m.q m.h.labels:=by
 have key:∀n,n<=L.length->∃M:List Hm,M.map (·.h)=L.take n/\zfQ 8 zjD w p M/\∀m∈M,Lbs w m.q m.h.labels:=by
  intro n
  induction n with
  |zero => exact fun _ => ⟨[],rfl,fun i x hx => by simp at hx,fun m hm => by simp at hm⟩
  |succ n ih =>
   intro hn
   obtain⟨M,h1,h2,h3⟩:=ih (by omega)
   have hlen:M.length=n:=by have:=congrArg List.length h1;simp at this;omega
   obtain⟨q,c,h4,h5⟩:=h n L[n] (List.getElem?_eq_getElem (by omega))
   refine⟨M++[⟨L[n],q,c⟩],by rw[List.map_append,h1,List.take_succ_eq_append_getElem (by omega)];rfl,fun i x hx j u hu=>?_,fun m hm=>?_⟩
   ·by_cases hi:i<n
    ·rw[List.getElem?_append_left (by omega)] at hx
     exact h2 i x hx j u hu
    ·rw[List.getElem?_append_right (by omega)] at hx
     have:i-M.length=0:=by
      rcases Nat.eq_zero_or_pos (i-M.length) with h0|h0
      ·exact h0
      ·rw[List.getElem?_eq_none (by simp;omega)] at hx;cases hx
     rw[this] at hx
     simp at hx;subst hx
     obtain rfl:i=n:=by omega
     exact h4 j u hu
   ·rcases List.mem_append.1 hm with hm|hm
    ·exact h3 m hm
    ·simp at hm;subst hm;exact h5
 obtain⟨M,h1,h2⟩:=key L.length (Nat.le_refl _)
 exact⟨M,by simpa using h1,h2⟩
theorem ms_hs{w:World}{p:Option Addr}{M:List Hm}(h:zfQ 8 zjD w p M)(hl:∀m∈M,Lbs w m.q m.h.labels):ziz w p (M.map (·.h)):=fun i x hx=>by
 rw[List.getElem?_map] at hx
 obtain⟨m,hm,rfl⟩:=Option.map_eq_some_iff.1 hx
 exact⟨m.q,m.d,fun j u hu=>h i m hm j u hu,hl m (List.mem_of_getElem? hm)⟩
theorem zjG{w w':World}{q p:Option Addr}{l:List Lb}(h:Lbs w q l)(ha:l=[]\/zbU q p)(hg:zco w w' p p):Lbs w' q l:=by
 rcases ha with rfl|ha
 ·exact fun i x hx=>by simp at hx
 ·intro i x hx j u hu
  have h1:=znd (enc:=zsy) (fun _=>rfl) h
  have h2:=h1.grew ha hg
  have h3:(l.flatMap zsy)[i*2+j]?=some u:=by
   have hi:=(List.getElem?_eq_some_iff.1 hx).1
   have hj:j<2:=(List.getElem?_eq_some_iff.1 hu).1
   have:=zDW (enc:=zsy) (s:=2) (fun _=>rfl) l i
   rw[<-List.getElem?_drop,this,List.drop_eq_getElem_cons hi,List.flatMap_cons,List.getElem?_append_left hj]
   rw[(List.getElem?_eq_some_iff.1 hx).2];exact hu
  exact h2 _ _ h3
theorem zyz(q:Option Addr)(c:Nat)(l:List Lb)(h8:l.length<=8)(w:World)(h:Lbs w q l) :
  FnP Tryz.prog zaH #[.slice q l.length c] w fun v w'=>Ext w w'/\∃q' c',v=.slice q' l.length c'/\Lbs w' q' l/\∀a,q'=some a->w.heap.size<=a.block:=by
 refine zds q l.length c w _ ⟨fun hn w0 h0=>?_,fun hn=>?_⟩
 ·cases l with
  |nil => exact⟨h0,none,0,rfl,fun i x hx => by simp at hx,fun a ha => by cases ha⟩
  |cons x r => exact absurd hn (h.ne (List.mem_cons_self ..) (by simp))
 ·refine zo8 (Q:=fun v w'=>Ext w w'/\∃q' c',v=.slice q' l.length c'/\Lbs w' q' l/\∀a,q'=some a->w.heap.size<=a.block) zlj (by omega) (znd (enc:=zsy) (s:=2) (fun _=>rfl) h) (zfe (enc:=zsy) (s:=2) (fun _=>rfl) l) (zzJ (fun x u hu=>?_) l) (by omega) (by omega) hn fun p' c' w' hx o=>⟨hx,p',c',rfl,o.recs fun _ _=>rfl,fun a ha=>(o.lt a ha).1⟩
  simp at hu;rcases hu with rfl|rfl<;>rfl
theorem zsf(p:Option Addr)(c:Nat)(M:List Hm)(h30:M.length<=30)(w:World)(h:zfQ 8 zjD w p M) :
  FnP Tryz.prog zal #[.slice p M.length c] w fun v w'=>Ext w w'/\∃q' c',v=.slice q' M.length c'/\Own w.heap.size w' zdO 8 q' M.length c' (M.flatMap zjD):=by
 refine zdX p M.length c w _ ⟨fun hn w0 h0=>?_,fun hn=>?_⟩
 ·cases M with
  |nil => exact⟨h0,none,0,rfl,Own.nil⟩
  |cons x r => exact absurd hn (h.ne (List.mem_cons_self ..) (by simp))
 ·exact zo8 (Q:=fun v w'=>Ext w w'/\∃q' c',v=.slice q' M.length c'/\Own w.heap.size w' zdO 8 q' M.length c' (M.flatMap zjD)) zga (by omega) (znd zgc h) (zfe zgc M) (zzJ zy6 M) (by omega) (by omega) hn fun p' c' w' hx o=>⟨hx,p',c',rfl,o⟩
def LbA(w:World)(p:Option Addr)(m:Hm):Prop:=Lbs w m.q m.h.labels/\(m.h.labels=[]\/zbU m.q p)
def LbN(n:Nat)(m:Hm):Prop:=m.h.labels=[]\/∀a,m.q=some a->n<=a.block
def HsS(n:Nat)(w:World)(p:Option Addr)(L:List Ht):Prop:=∀S:Nat->Prop,(∀b,S b->b<n)->∀w'',Fr S w w''->ziz w'' p L
theorem HsS.at{n:Nat}{w:World}{p:Option Addr}{L:List Ht}(h:HsS n w p L):ziz w p L:=h (fun _=>False) (fun _ h=>h.elim) w (Fr.refl _ w)
theorem HsS.ext{n:Nat}{w w':World}{p:Option Addr}{L:List Ht}(h:HsS n w p L)(e:Ext w w'):HsS n w' p L:=fun S hS w'' f=>h S hS w'' ((zac e).tr f)
theorem HsS.weak{n m:Nat}{w:World}{p:Option Addr}{L:List Ht}(h:HsS n w p L)(e:m<=n):HsS m w p L:=fun S hS w'' f=>h S (fun b hb=>Nat.lt_of_lt_of_le (hS b hb) e) w'' f
theorem lbs_fr{S:Nat->Prop}{w w':World}{q:Option Addr}{l:List Lb}(h:Lbs w q l)(ha:l=[]\/∀a,q=some a->¬S a.block)(k:Fr S w w'):Lbs w' q l:=fun i x hx j u hu=>by
 rcases ha with rfl|ha
 ·simp at hx
 ·exact zdP (h i x hx j u hu) k ha
theorem zCV{n N c:Nat}{w:World}{p:Option Addr}{M:List Hm}(o:Own n w zdO 8 p N c (M.flatMap zjD))(hl:∀m∈M,Lbs w m.q m.h.labels)(hn:∀m∈M,LbN n m):HsS n w p (M.map (·.h)):=fun S hS w'' f=>by
 have lt:∀{a:Option Addr},(∀y,a=some y->n<=y.block)->∀y,a=some y->¬S y.block:=fun h y hy hs=>by
  have:=h y hy
  have:=hS _ hs
  omega
 refine ms_hs ((o.fr f (lt fun y hy=>(o.lt y hy).1)).recs fun _ _=>rfl) fun m hm=>lbs_fr (hl m hm) ?_ f
 rcases hn m hm with h|h
 ·exact .inl h
 ·exact .inr (lt h)
theorem own_k(p:Option Addr)(c:Nat)(L:List Ht)(h30:L.length<=30)(h8:∀h∈L,h.labels.length<=8)(w:World)(hL:ziz w p L) :
  FnP Tryz.prog zmo #[.slice p L.length c] w fun v w'=>Ext w w'/\∃p' c',∃M:List Hm,v=.slice p' L.length c'/\M.map (·.h)=L/\Own w.heap.size w' zdO 8 p' L.length c' (M.flatMap zjD)/\(∀m∈M,LbA w' p' m)/\∀m∈M,LbN w.heap.size m:=by
 refine zxJ p L.length c w _ fun w0 h0=>?_
 obtain⟨M0,hM0,hR0,hl0⟩:=hs_ms (hL.ext h0)
 have hlen0:M0.length=L.length:=by rw[<-hM0];simp
 rw[<-hlen0]
 refine(zsf p c M0 (by omega) w0 hR0).mono fun v w1 ⟨e1,p',c',hv,o1⟩=>⟨e1,p',M0.length,c',hv,?_⟩
 have lt0:∀m∈M0,LbA w1 p' m:=fun m hm=>⟨(hl0 m hm).ext e1,by
  cases hlb:m.h.labels with
  |nil => exact .inl rfl
  |cons x r =>
   refine .inr fun a b ha hb=>?_
   have:=(hl0 m hm).lt (x:=x) (by rw[hlb];exact List.mem_cons_self ..) (by simp) a ha
   have:=(o1.lt b hb).1
   omega⟩
 refine⟨fun k w'=>Ext w w'/\0<=k/\k<=M0.length/\∃M:List Hm,M.map (·.h)=L/\Own w0.heap.size w' zdO 8 p' M0.length c' (M.flatMap zjD)/\(∀m∈M,LbA w' p' m)/\∀j,j<k.toNat->∀m,M[j]?=some m->LbN w.heap.size m,fun k _=>(M0.length-k).toNat,⟨h0.trans e1,by omega,by omega,M0,hM0,o1,lt0,fun j hj=>by simp at hj⟩,?_⟩
 rintro k w7 ⟨x7,hk0,hk1,M,hM,o7,hA7,hN7⟩
 have hlen:M.length=M0.length:=by rw[hlen0,<-hM];simp
 refine⟨fun hlt=>?_,fun hge w8 h8=>⟨x7.trans h8,p',c',M,rfl,hM,(o7.ext h8).weak h0.size,fun m hm=>⟨(hA7 m hm).1.ext h8,(hA7 m hm).2⟩,fun m hm=>by
  obtain⟨j,hj⟩:=List.mem_iff_getElem?.1 hm
  have hjl:=(List.getElem?_eq_some_iff.1 hj).1
  exact hN7 j (by omega) m hj⟩⟩
 have r7:zfQ 8 zjD w7 p' M:=o7.recs fun _ _=>rfl
 have g:=r7.idx default hk0 (by omega) (j:=1) rfl
 have hp':=o7.ne1 (by omega) (by omega)
 have hm:=zaq M default (i:=k.toNat) (by omega)
 generalize hmd:M.getD k.toNat default=m at g hm
 have hml:m.h∈L:=by rw[<-hM];exact List.mem_map_of_mem hm
 refine⟨hp',hk0,hlt,fun hq=>hp' (zah.1 hq),m.q,m.h.labels.length,m.d,by rw[zak];exact g,fun w11 h11=>?_⟩
 refine(zyz m.q m.d m.h.labels (h8 _ hml) w11 ((hA7 m hm).1.ext h11)).mono fun v w12 ⟨e12,q',d',hv,hl',hn'⟩=>⟨e12,q',_,d',hv,hp',hk0,hlt,fun hq=>hp' (zah.1 hq),?_⟩
 have x12:=h11.trans e12
 have o12:=o7.ext x12
 refine zaS o12 zoF (by rw[zfe zgc];simp;omega) (by simp) (by intro v hv;simp at hv;subst hv;rfl) (by simp) fun w16 o16 g16=>?_
 rw[zlU zgc M k.toNat 1 [.slice q' m.h.labels.length d'] ⟨m.h,q',d'⟩ default (by omega) (by simp) (by rw[hmd];rfl)] at o16
 have hmap:(M.set k.toNat ⟨m.h,q',d'⟩).map (·.h)=L:=by
  rw[List.map_set,hM]
  have hk:k.toNat<L.length:=by omega
  have:L[k.toNat]=m.h:=by
   have h1:(M.map (·.h)).getD k.toNat default=m.h:=by
    rw[<-hmd,List.getD_eq_getElem?_getD,List.getD_eq_getElem?_getD,List.getElem?_map,List.getElem?_eq_getElem (by omega:k.toNat<M.length)];rfl
   rw[hM] at h1
   simpa[List.getD_eq_getElem?_getD,hk] using h1
  rw[<-this,List.set_getElem_self]
 refine⟨i64 (by omega),⟨?_,by omega,by omega,_,hmap,o16,fun m' hm'=>?_,fun j hj m' hm'=>?_⟩,by simp only[];omega⟩
 ·exact g16.ext (x7.trans x12) (o12.weak (by have:=h0.size;omega))
 ·rcases List.mem_or_eq_of_mem_set hm' with hm'|rfl
  ·exact⟨zjG ((hA7 m' hm').1.ext x12) (hA7 m' hm').2 g16,(hA7 m' hm').2⟩
  ·have ha:zbU q' p':=fun a b ha hb=>by
    have:=hn' a ha
    have:=(o7.lt b hb).2
    have:=h11.size
    omega
   exact⟨zjG hl' (.inr ha) g16,.inr ha⟩
 ·by_cases hjk:j=k.toNat
  ·subst hjk
   rw[List.getElem?_set_self (by omega)] at hm'
   obtain rfl:=Option.some.inj hm'
   exact .inr fun a ha=>(by have:=hn' a ha;have:=x7.size;have:=h11.size;omega)
  ·rw[List.getElem?_set_ne (by omega)] at hm'
   exact hN7 j (by omega) m' hm'
def zfX(h:Ht)(s:Nd):Ht:=⟨h.name,h.labels,h.has,s⟩
theorem zyW(R:Ht->Nd->Int->Prop)(p:Option Addr)(c:Nat)(L:List Ht)(h63:(L.length:Int)<=9223372036854775807)(hO:∀h∈L,zry h)(i:Int)(f:Value)(w:World)(hL:ziz w p L)
  (hf:∀h∈L,zGM h->∀q d w',Ext w w'->zil Tryz.prog f [hv h q d] w' fun v w''=>Ext w' w''/\∃s e,v=.tuple #[nv s,.int .i64 e]/\R h s e) :
  FnP Tryz.prog ze7 #[.slice p L.length c,.int .i64 i,f] w fun v w'=>Ext w w'/\∃p' n' c' e,v=.tuple #[.slice p' n' c',.int .i64 e] /\
   ((e≠0/\n'=0/\(zj9 L->0<=i->i<L.length->∃s,R (L.getD i.toNat default) s e)) \/
    (e=0/\zj9 L/\0<=i/\i<L.length/\n'=L.length/\n'<=c'/\∃s,R (L.getD i.toNat default) s 0/\HsS w.heap.size w' p' (L.set i.toNat (zfX (L.getD i.toNat default) s)))):=by
 refine zq1 p L.length c i f w _ fun w0 h0=>?_
 refine(zsE p c L h63 hO w0 (hL.ext h0)).mono fun v w1 ⟨e1,e,hv,he,_,_⟩=>⟨e1,e,hv,fun hne w3 h3=>⟨h3,_,_,_,_,rfl,.inl ⟨hne,rfl,fun ho=>absurd (he.2 ho) hne⟩⟩,fun h0'=>?_⟩
 have hok:=he.1 h0'
 refine⟨fun hout w3 h3=>⟨h3,_,_,_,_,rfl,.inl ⟨by omega,rfl,fun _ _ _=>by omega⟩⟩,fun⟨hi0,hi1⟩=>?_⟩
 obtain⟨q,d,hp,hp8,g,hl⟩:=hL.at hi0 hi1
 have hm:=zaq L default (i:=i.toNat) (by omega)
 generalize hHd:L.getD i.toNat default=H at g hl hm
 refine⟨hp,hi0,hi1,hp8,_,g 0 _ rfl,_,_,_,g 1 _ rfl,_,g 2 _ rfl,_,g 3 _ rfl,_,g 4 _ rfl,_,g 5 _ rfl,_,g 6 _ rfl,_,g 7 _ rfl,fun w13 h13=>?_⟩
 obtain⟨fi,cap,hfe,hfp⟩:=hf H hm (hok.2.1 H hm) q d w13 h13
 refine⟨fi,cap,hfe,hfp.mono fun v w14 ⟨e14,s,e',hv',hR⟩=>⟨e14,s.c,s.m,s.g,e',hv',fun b19 hb19=>⟨fun hne w20 h20=>⟨h20,_,_,_,_,rfl,.inl ⟨hne,rfl,fun _ _ _=>⟨s,hR⟩⟩⟩,fun h0' w20 x20=>?_⟩⟩⟩
 subst h0'
 have h20:=zaa x20
 have hb20:b19<w20.heap.size:=x20.lt b19 (by simp)
 refine(own_k p c L hok.1 (fun h hh=>(hok.2.1 h hh).2.1) w20 (hL.ext h20)).mono fun v w21 ⟨e21,p',c',M,hv,hM,o21,hA,hN⟩=>⟨e21,p',_,c',hv,?_⟩
 have hp':=o21.ne1 (by omega) (by omega)
 have hlen:M.length=L.length:=by rw[<-hM];simp
 refine⟨hp',hi0,hi1,fun hq=>hp' (zah.1 hq),?_⟩
 refine zaS o21 zoF (by rw[zfe zgc];simp;omega) (by simp) (by intro v hv;simp at hv;rcases hv with rfl|rfl|rfl<;>rfl) (fun b hb x hx=>by simp at hb;subst hb;have:=(o21.lt x hx).1;omega) fun w25 o25 g25 w26 h26=>?_
 have hmd:(M.getD i.toNat default).h=H:=by
  rw[<-hHd,<-hM,List.getD_eq_getElem?_getD,List.getD_eq_getElem?_getD,List.getElem?_map,List.getElem?_eq_getElem (by omega:i.toNat<M.length)];rfl
 rw[zlU zgc M i.toNat 5 _ ⟨zfX H s,(M.getD i.toNat default).q,(M.getD i.toNat default).d⟩ default (by omega) (by simp) (by
  show zdt (zE3 (M.getD i.toNat default).h (M.getD i.toNat default).q (M.getD i.toNat default).d) 5 _=zE3 (zfX H s) _ _
  rw[hmd];rfl)] at o25
 have hx25:Ext w w25:=g25.ext (h20.trans e21) (o21.weak h20.size)
 refine⟨hx25.trans h26,p',_,c',0,rfl,.inr ⟨rfl,hok,hi0,hi1,rfl,o21.le.1,s,hR,?_⟩⟩
 have:=zCV o25 (fun m hm=>?_) (fun m hm=>?_)
 ·have hmap:(M.set i.toNat ⟨zfX H s,(M.getD i.toNat default).q,(M.getD i.toNat default).d⟩).map (·.h)=L.set i.toNat (zfX H s):=by rw[List.map_set,hM]
  rw[hmap] at this
  exact(this.ext h26).weak h20.size
 ·rcases List.mem_or_eq_of_mem_set hm with hm|rfl
  ·exact zjG (hA m hm).1 (hA m hm).2 g25
  ·have hmm:=zaq M default (i:=i.toNat) (by omega)
   have:=zjG (hA _ hmm).1 (hA _ hmm).2 g25
   rw[hmd] at this
   exact this
 ·rcases List.mem_or_eq_of_mem_set hm with hm|rfl
  ·exact hN m hm
  ·have hmm:=zaq M default (i:=i.toNat) (by omega)
   have:=hN _ hmm
   unfold LbN at this ⊢
   rw[hmd] at this
   exact this
theorem zlB{w:World}{p:Option Addr}{a:Nd}(h:zBF w p a):Go.Sx.cell w p 0=some (.int .i64 a.c)/\Go.Sx.cell w p 1=some (.int .i64 a.m)/\Go.Sx.cell w p 2=some (.int .i64 a.g):=⟨h 0 _ rfl,h 1 _ rfl,h 2 _ rfl⟩
theorem Take_k(p:Option Addr)(c:Nat)(L:List Ht)(h63:(L.length:Int)<=9223372036854775807)(hO:∀h∈L,zry h)(i:Int)(a:Nd)(w:World)(hL:ziz w p L) :
  FnP Tryz.prog zkm #[.slice p L.length c,.int .i64 i,nv a] w fun v w'=>Ext w w'/\∃p' n' c' e,v=.tuple #[.slice p' n' c',.int .i64 e] /\
   ((e≠0/\n'=0/\(zj9 L->0<=i->i<L.length->¬(okN a/\zj4 a (zit (L.getD i.toNat default).has (L.getD i.toNat default).used)))) \/
    (e=0/\zj9 L/\0<=i/\i<L.length/\n'=L.length/\n'<=c'/\okN a/\zj4 a (zit (L.getD i.toNat default).has (L.getD i.toNat default).used)/\HsS w.heap.size w' p' (L.set i.toNat (zfX (L.getD i.toNat default) (zwu (L.getD i.toNat default).used a))))):=by
 refine zvp p L.length c i a.c a.m a.g w _ fun w0 h0=>?_
 refine zIf (x:=a) fun p1 w1 e1 hN hp1 w2 h2=>?_
 have x2:=(h0.trans e1).trans h2
 refine(zyW (fun h s e=>(e≠0/\¬(okN a/\zj4 a (zit h.has h.used)))\/(e=0/\s=zwu h.used a/\okN a/\zj4 a (zit h.has h.used))) p c L h63 hO i _ w2 (hL.ext x2) fun h hh hok q d w3 h3=>?_).mono fun v w4 ⟨e4,p',n',c',e,hv,hr⟩=>⟨e4,_,_,_,_,hv,fun w8 h8=>⟨(x2.trans e4).trans h8,_,_,_,_,rfl,?_⟩⟩
 ·refine⟨zhp,#[.pointer p1],rfl,(zq0 h.name q h.labels.length d h.has.c h.has.m h.has.g h.used.c h.used.m h.used.g p1 w3 _ ?_:FnP Tryz.prog zhp #[hv h q d,.pointer p1] w3 _)⟩
  intro b0 hb0 b1 hb1 w5 h5
  refine(zzB h.has h.used w5).mono fun v w6 ⟨e6,s,e,hv,hs⟩=>⟨e6,_,_,_,_,hv,fun b8 hb8=>?_⟩
  have hs:e=0/\s=zit h.has h.used:=by
   rcases hs with⟨_,_,_,h1,h2⟩|⟨hno,_⟩|⟨_,_,hno,_⟩
   · exact⟨h1,h2⟩
   · exact absurd ⟨hok.2.2.2.1,hok.2.2.2.2.1⟩ hno
   · exact absurd hok.2.2.2.2.2 hno
  obtain⟨rfl,rfl⟩:=hs
  have hN3:=zlB (zau.ext hN (h2.trans h3))
  refine⟨hp1,_,hN3.1,_,hN3.2.1,_,hN3.2.2,fun w12 h12=>?_⟩
  refine(zzB (zit h.has h.used) a w12).mono fun v w13 ⟨e13,s,e,hv,hs⟩=>⟨e13,_,_,_,_,hv,fun b18 hb18=>?_⟩
  have hsub:okN (zit h.has h.used):=by
   obtain⟨h1,h2,h3⟩:=hok.2.2.2.1
   obtain⟨h4,h5,h6⟩:=hok.2.2.2.2.1
   obtain⟨h7,h8,h9⟩:=hok.2.2.2.2.2
   refine⟨?_,?_,?_⟩<;>simp only[zit]<;>omega
  rcases hs with⟨_,ha,hfit,rfl,rfl⟩|⟨hno,rfl,rfl⟩|⟨_,ha,hno,rfl,rfl⟩
  ·refine⟨fun hne=>absurd rfl hne,fun _=>⟨hp1,_,hN3.1,_,hN3.2.1,_,hN3.2.2,fun w22 h22=>?_⟩⟩
   refine(nAdd_k h.used a w22).mono fun v w23 ⟨e23,s,e,hv,hs⟩=>⟨e23,_,_,_,_,hv,fun w28 h28=>⟨h28,s,e,rfl,.inr ?_⟩⟩
   rcases hs with⟨_,_,_,h1,h2⟩|⟨hno,_⟩|⟨_,_,hno,_⟩
   · exact⟨h1,h2,ha,hfit⟩
   · exact absurd ⟨hok.2.2.2.2.1,ha⟩ hno
   · refine absurd ?_ hno
     obtain⟨h1,h2,h3⟩:=hok.2.2.2.1
     obtain⟨h4,h5,h6⟩:=hok.2.2.2.2.1
     obtain⟨h7,h8,h9⟩:=ha
     obtain⟨h10,h11,h12⟩:=hfit
     simp only[zit] at h10 h11 h12
     refine⟨?_,?_,?_⟩<;>simp only[zwu]<;>omega
  ·exact⟨fun _ w19 h19=>⟨h19,za6,_,rfl,.inl ⟨by omega,fun hc=>hno ⟨hsub,hc.1⟩⟩⟩,fun h=>by omega⟩
  ·exact⟨fun _ w19 h19=>⟨h19,za6,_,rfl,.inl ⟨by omega,fun hc=>hno hc.2⟩⟩,fun h=>by omega⟩
 ·rcases hr with⟨hne,hn,hno⟩|⟨he,hok,hi0,hi1,hn,hc,s,hR,hAt⟩
  ·refine .inl ⟨hne,hn,fun hok hi0 hi1=>?_⟩
   obtain⟨s,hR⟩:=hno hok hi0 hi1
   rcases hR with⟨_,h⟩|⟨h,_⟩
   · exact h
   · exact absurd h hne
  ·rcases hR with⟨h,_⟩|⟨_,rfl,ha,hfit⟩
   · exact absurd rfl h
   · exact .inr ⟨he,hok,hi0,hi1,hn,hc,ha,hfit,(hAt.ext h8).weak x2.size⟩
theorem Give_k(p:Option Addr)(c:Nat)(L:List Ht)(h63:(L.length:Int)<=9223372036854775807)(hO:∀h∈L,zry h)(i:Int)(a:Nd)(w:World)(hL:ziz w p L) :
  FnP Tryz.prog zkl #[.slice p L.length c,.int .i64 i,nv a] w fun v w'=>Ext w w'/\∃p' n' c' e,v=.tuple #[.slice p' n' c',.int .i64 e] /\
   ((e≠0/\n'=0/\(zj9 L->0<=i->i<L.length->¬(okN a/\zj4 a (L.getD i.toNat default).used))) \/
    (e=0/\zj9 L/\0<=i/\i<L.length/\n'=L.length/\n'<=c'/\HsS w.heap.size w' p' (L.set i.toNat (zfX (L.getD i.toNat default) (zit (L.getD i.toNat default).used a))))):=by
 refine zvo p L.length c i a.c a.m a.g w _ fun w0 h0=>?_
 refine zIf (x:=a) fun p1 w1 e1 hN hp1 w2 h2=>?_
 have x2:=(h0.trans e1).trans h2
 refine(zyW (fun h s e=>(e≠0/\¬(okN a/\zj4 a h.used))\/(e=0/\s=zit h.used a)) p c L h63 hO i _ w2 (hL.ext x2) fun h hh hok q d w3 h3=>?_).mono fun v w4 ⟨e4,p',n',c',e,hv,hr⟩=>⟨e4,_,_,_,_,hv,fun w8 h8=>⟨(x2.trans e4).trans h8,_,_,_,_,rfl,?_⟩⟩
 ·refine⟨zho,#[.pointer p1],rfl,(zqZ h.name q h.labels.length d h.has.c h.has.m h.has.g h.used.c h.used.m h.used.g p1 w3 _ ?_:FnP Tryz.prog zho #[hv h q d,.pointer p1] w3 _)⟩
  intro b0 hb0 b1 hb1
  have hN3:=zlB (zau.ext hN (h2.trans h3))
  refine⟨hp1,_,hN3.1,_,hN3.2.1,_,hN3.2.2,fun w5 h5=>?_⟩
  refine(zzB h.used a w5).mono fun v w6 ⟨e6,s,e,hv,hs⟩=>⟨e6,_,_,_,_,hv,fun w11 h11=>⟨h11,s,e,rfl,?_⟩⟩
  rcases hs with⟨_,ha,hfit,rfl,rfl⟩|⟨hno,rfl,rfl⟩|⟨_,ha,hno,rfl,rfl⟩
  ·exact .inr ⟨rfl,rfl⟩
  ·exact .inl ⟨by omega,fun hc=>hno ⟨hok.2.2.2.2.1,hc.1⟩⟩
  ·exact .inl ⟨by omega,fun hc=>hno hc.2⟩
 ·rcases hr with⟨hne,hn,hno⟩|⟨he,hok,hi0,hi1,hn,hc,s,hR,hAt⟩
  ·refine .inl ⟨hne,hn,fun hok hi0 hi1=>?_⟩
   obtain⟨s,hR⟩:=hno hok hi0 hi1
   rcases hR with⟨_,h⟩|⟨h,_⟩
   · exact h
   · exact absurd h hne
  ·rcases hR with⟨h,_⟩|⟨_,rfl⟩
   · exact absurd rfl h
   · exact .inr ⟨he,hok,hi0,hi1,hn,hc,(hAt.ext h8).weak x2.size⟩
theorem zF0(k:Int)(key val:ByteArray)(n:Int)(l:Nat):zk6 k key val n l≠5:=by
 unfold zk6
 repeat' split
 all_goals omega
theorem zzc:∀{xs:List AT},(∀x∈xs,zeO x≠5)->zAD xs≠5
 |[],_ => by unfold zAD;omega
 |x::r,h => by
  unfold zAD
  split
  ·exact h x (List.mem_cons_self ..)
  ·exact zzc fun y hy=>h y (List.mem_cons_of_mem _ hy)
theorem zF1(t:AT):zeO t≠5:=by
 refine AT.ind (P:=fun t=>zeO t≠5) (fun k key val n xs h=>?_) t
 unfold zeO
 split
 ·exact zF0 _ _ _ _ _
 ·exact zzc h
theorem zF2(t:AT):zmi t≠5:=by
 unfold zmi
 split
 ·omega
 ·exact zF1 t
def zbG(L:List Ht)(i:Int):Nd:=zit (L.getD i.toNat default).has (L.getD i.toNat default).used
def zGb(L:List Ht)(t:AT)(a:Nd)(i:Nat):Bool:=zwy (atH (L.getD i default)) t&&decide (zj4 a (zit (L.getD i default).has (L.getD i default).used))
def zb0(L:List Ht)(t:AT)(a:Nd)(k:Nat):List Int:=((List.range k).filter (zGb L t a)).map (Int.ofNat ·)
theorem zw7(L:List Ht)(t:AT)(a:Nd)(k:Nat):zb0 L t a (k+1)=if zGb L t a k=true then zb0 L t a k++[(k:Int)] else zb0 L t a k:=by
 unfold zb0
 rw[List.range_succ,List.filter_append,List.map_append]
 by_cases h:zGb L t a k=true<;>simp[h]
theorem zoy{L:List Ht}{t:AT}{a:Nd}{k:Nat}{x:Int}:x∈zb0 L t a k↔0<=x/\x<k/\zGb L t a x.toNat=true:=by
 unfold zb0
 simp only[List.mem_map,List.mem_filter,List.mem_range]
 constructor
 ·rintro⟨n,⟨h1,h2⟩,rfl⟩
  exact⟨Int.natCast_nonneg n,by simpa using h1,by simpa using h2⟩
 ·rintro⟨h1,h2,h3⟩
  exact⟨x.toNat,⟨by omega,h3⟩,Int.toNat_of_nonneg h1⟩
theorem zhI(L:List Ht)(t:AT)(a:Nd)(k:Nat):(zb0 L t a k).length<=k:=by
 unfold zb0
 rw[List.length_map]
 exact Nat.le_trans (List.length_filter_le _ _) (by simp)
theorem zw8(L:List Ht)(t:AT)(a:Nd)(k:Nat):(zb0 L t a k).Pairwise (·<·):=by
 unfold zb0
 rw[List.pairwise_map]
 exact((List.pairwise_lt_range (n:=k)).filter _).imp fun h=>by simpa using h
def zxx(L:List Ht)(t:AT)(a:Nd):Prop:=zj9 L/\zmi t=0/\okN a
theorem zDf{h:Ht}(hok:zGM h):okN (zit h.has h.used):=by
 obtain⟨h1,h2,h3⟩:=hok.2.2.2.1
 obtain⟨h4,h5,h6⟩:=hok.2.2.2.2.1
 obtain⟨h7,h8,h9⟩:=hok.2.2.2.2.2
 refine⟨?_,?_,?_⟩<;>simp only[zit]<;>omega
theorem zzZ{h:Ht}(hok:zGM h)(w:World):FnP Tryz.prog zcy #[nv h.has,nv h.used] w fun v w'=>Ext w w'/\v=.tuple #[nv (zit h.has h.used),.int .i64 0] :=
 (zzB h.has h.used w).mono fun v w' ⟨e,s,f,hv,hs⟩=>⟨e,by
  rcases hs with⟨_,_,_,rfl,rfl⟩|⟨hno,_⟩|⟨_,_,hno,_⟩
  ·exact hv
  ·exact absurd ⟨hok.2.2.2.1,hok.2.2.2.2.1⟩ hno
  ·exact absurd hok.2.2.2.2.2 hno⟩
theorem Fit_k(p:Option Addr)(c:Nat)(L:List Ht)(h63:(L.length:Int)<=9223372036854775807)(hO:∀h∈L,zry h)(t:AT)(px:Option Addr)(cx:Nat)(hW:WfA t)(a:Nd)(w:World)(hL:ziz w p L)(hT:IsT w t px cx) :
  FnP Tryz.prog zmn #[.slice p L.length c,av t px cx,nv a] w fun v w'=>Ext w w'/\∃q n d e,v=.tuple #[.slice q n d,.int .i64 e]/\e≠5/\(∀x,q=some x->w.heap.size<=x.block) /\
   ((e≠0/\n=0/\¬zxx L t a)\/(e=0/\zxx L t a/\n=(zb0 L t a L.length).length/\zeh .i64 w' q (zb0 L t a L.length))):=by
 refine zxI p L.length c t.k t.key t.val t.n px t.xs.length cx a.c a.m a.g w _ fun b0 hb0 b1 hb1 w2 h2=>?_
 refine(zsE p c L h63 hO w2 (hL.ext h2)).mono fun v w3 ⟨e3,e,hv,he,h5,_⟩=>⟨e3,e,hv,fun hne w5 h5'=>⟨h5',_,_,_,_,rfl,h5,fun x hx=>by(cases hx),.inl ⟨hne,rfl,fun ho=>hne (he.2 ho.1)⟩⟩,fun h0 w5 h5=>?_⟩
 have hok:=he.1 h0
 refine(zoR t px cx w5 (hT.ext h5 _ _ _) hW).mono fun v w6 ⟨e6,hv⟩=>⟨e6,_,hv,fun hne w8 h8=>⟨h8,_,_,_,_,rfl,zF2 t,fun x hx=>by(cases hx),.inl ⟨hne,rfl,fun ho=>hne ho.2.1⟩⟩,fun hc w8 h8=>?_⟩
 refine(zex a w8).mono fun v w9 ⟨e9,hv⟩=>⟨e9,_,hv,fun hne w11 h11=>⟨h11,_,_,_,_,rfl,(by unfold zzd;split<;>omega),fun x hx=>by(cases hx),.inl ⟨hne,rfl,fun ho=>hne (zba.2 ho.2.2)⟩⟩,fun ha=>?_⟩
 have ha:=zba.1 ha
 refine⟨fun q l d k w'=>Ext w w'/\0<=k/\k<=L.length/\l=(zb0 L t a k.toNat).length/\Own w.heap.size w' zfR 1 q l d ((zb0 L t a k.toNat).map (.int .i64))/\∀b∈[b0,b1],∀x,q=some x->x.block≠b,
  fun _ _ _ k _=>(L.length-k).toNat,⟨Ext.refl w,by omega,by omega,rfl,Own.nil,fun b _ x hx=>by cases hx⟩,?_⟩
 rintro q l d k w14 ⟨x14,hk0,hk1,rfl,o14,hb14⟩
 refine⟨fun hlt=>?_,fun hge w15 h15=>⟨x14.trans h15,q,_,d,0,rfl,by omega,fun x hx=>(o14.lt x hx).1,.inr ⟨rfl,⟨hok,hc,ha⟩,?_,?_⟩⟩⟩
 ·obtain⟨qh,dh,hp,hp8,g,hLb⟩:=(hL.ext x14).at hk0 hlt
  have hm:=zaq L default (i:=k.toNat) (by omega)
  have hfit:zGb L t a k.toNat=(zwy (atH (L.getD k.toNat default)) t&&decide (zj4 a (zit (L.getD k.toNat default).has (L.getD k.toNat default).used))):=rfl
  generalize hHd:L.getD k.toNat default=H at g hLb hm hfit
  have hoH:=hok.2.1 H hm
  refine⟨hp,hk0,hlt,hp8,_,g 0 _ rfl,_,_,_,g 1 _ rfl,_,g 2 _ rfl,_,g 3 _ rfl,_,g 4 _ rfl,_,g 5 _ rfl,_,g 6 _ rfl,_,g 7 _ rfl,fun b25 hb25 w26 h26=>?_⟩
  refine(zzZ hoH w26).mono fun v w27 ⟨e27,hv⟩=>⟨e27,_,_,_,_,hv,fun b32 hb32 w33 h33=>?_⟩
  refine(zIF t px cx H qh dh (hO H hm).2.1 w33 (hT.ext (x14.trans h33) _ _ _) hW (hLb.ext h33)).mono fun v w34 ⟨e34,hv⟩=>⟨e34,_,_,hv,fun w37 h37=>?_⟩
  rw[if_pos hc]
  refine(zxr a (zit H.has H.used) w37).mono fun v w38 ⟨e38,tt,e,hv,ht⟩=>⟨e38,_,_,hv,?_⟩
  have ht:tt=decide (zj4 a (zit H.has H.used)):=by
   rcases ht with⟨_,_,_,h⟩|⟨hno,_⟩
   ·exact h
   ·exact absurd ⟨ha,zDf hoH⟩ hno
  subst ht
  have hsucc:=zw7 L t a k.toNat
  refine⟨fun hb w41 x41=>?_,fun hb=>?_⟩
  ·have hyes:zGb L t a k.toNat=true:=by rw[hfit,hb.1,hb.2];rfl
   rw[if_pos hyes] at hsucc
   have hln:=zhI L t a k.toNat
   have hs14:=x14.size
   have h30:=hok.1
   refine zg6 (e:=zfR) (B:=w.heap.size) (ns:=[b0,b1,b25,b32]) zfy o14 hs14 (fun b hb x hx=>?_) (by omega) (by omega) (fun p' c' w' o' g' hp' hns'=>⟨i64 (by omega),⟨?_,by omega,by omega,?_,?_,fun b hb x hx=>hns' b (by simp at hb ⊢;rcases hb with rfl|rfl<;>simp) x hx⟩,by simp only[];omega⟩) w41 x41
   ·have:=o14.lt x hx
    simp at hb
    rcases hb with rfl|rfl|rfl|rfl
    ·exact hb14 _ (by simp) x hx
    ·exact hb14 _ (by simp) x hx
    ·omega
    ·omega
   ·exact g'.ext x14 o14
   ·rw[show(k+1).toNat=k.toNat+1 by omega,hsucc];simp
   ·rw[show(k+1).toNat=k.toNat+1 by omega,hsucc]
    rw[show((k.toNat:Nat):Int)=k by omega]
    exact o'
  ·have hno:zGb L t a k.toNat=false:=by
    rw[hfit]
    rcases hb with hb|hb<;>rw[hb]<;>simp
   rw[hno] at hsucc
   rw[if_neg (by simp)] at hsucc
   refine⟨i64 (by omega),⟨x14,by omega,by omega,?_,?_,hb14⟩,by simp only[];omega⟩
   ·rw[show(k+1).toNat=k.toNat+1 by omega,hsucc]
   ·rw[show(k+1).toNat=k.toNat+1 by omega,hsucc];exact o14
 ·rw[show k.toNat=L.length by omega]
 ·rw[show k.toNat=L.length by omega] at o14
  exact(o14.ext h15).cells
theorem zBE(p:Option Addr)(c:Nat)(X:List Int)(h63:(X.length:Int)<=9223372036854775807)(hX:X≠[])(f:Value)(C:Int->Int->Int)(hC:∀x y z,C x y<0->0<=C z y->0<=C z x)(hR:∀x,0<=C x x)(w:World)(h:zeh .i64 w p X)
  (hT:∀x y,C x y<0->0<=C y x) (hS:∀x y z,C x y<0->0<=C z y->C x z<0)
  (hf:∀x∈X,∀y∈X,∀w',Ext w w'->zil Tryz.prog f [.int .i64 x,.int .i64 y] w' fun v w''=>Ext w' w''/\v=.int .i64 (C x y)) :
  FnP Tryz.prog zb6 #[.slice p X.length c,f] w fun v w'=>Ext w w'/\∃m,v=.int .i64 m/\m∈X/\(∀y∈X,0<=C y m)/\∃a:Nat,a<X.length/\X.getD a 0=m/\∀j,j<a->C m (X.getD j 0)<0:=by
 have hlen:0<X.length:=by cases X with|nil=>exact absurd rfl hX|cons=>simp
 refine zgD p X.length c f w _ ⟨fun hlt=>by omega,fun _=>?_⟩
 have g0:=zeh.idx h (i:=0) (by omega) (by omega)
 have hm0:=zaq X 0 (i:=0) (by omega)
 refine⟨fun hq=>zaj g0 (zah.2 hq),by omega,by omega,_,g0,?_⟩
 refine⟨fun m i w'=>w'=w/\1<=i/\i<=X.length/\m∈X/\(∀j:Nat,(j:Int)<i->0<=C (X.getD j 0) m)/\∃a:Nat,(a:Int)<i/\X.getD a 0=m/\∀j,j<a->C m (X.getD j 0)<0,fun _ i _=>(X.length-i).toNat,⟨rfl,by omega,by omega,hm0,fun j hj=>?_,0,by omega,rfl,fun j hj=>by omega⟩,?_⟩
 ·obtain rfl:j=0:=by omega
  exact hR _
 rintro m i w4 ⟨rfl,hi0,hi1,hmm,hall,a,ha,ham,haj⟩
 refine⟨fun hlt=>?_,fun hge w5 h5=>⟨h5,m,rfl,hmm,fun y hy=>?_,a,by omega,ham,haj⟩⟩
 ·have g:=zeh.idx h (i:=i) (by omega) hlt
  have hx:=zaq X 0 (i:=i.toNat) (by omega)
  have hp:p≠none:=fun hq=>zaj g (zah.2 hq)
  refine⟨hp,by omega,hlt,_,g,fun w6 h6=>?_⟩
  obtain⟨fi,cap,hfe,hfp⟩:=hf _ hx m hmm w6 h6
  refine⟨fi,cap,hfe,hfp.mono fun v w7 ⟨e7,hv⟩=>⟨e7,_,hv,fun hneg=>⟨hp,by omega,hlt,_,g,i64 (by omega),⟨rfl,by omega,by omega,hx,fun j hj=>?_,i.toNat,by omega,rfl,fun j hj=>hS _ _ _ hneg (hall j (by omega))⟩,by simp only[];omega⟩,fun hpos=>⟨i64 (by omega),⟨rfl,by omega,by omega,hmm,fun j hj=>?_,a,by omega,ham,haj⟩,by simp only[];omega⟩⟩⟩
  ·by_cases hji:(j:Int)<i
   ·exact hC _ _ _ hneg (hall j hji)
   ·obtain rfl:j=i.toNat:=by omega
    exact hR _
  ·by_cases hji:(j:Int)<i
   ·exact hall j hji
   ·obtain rfl:j=i.toNat:=by omega
    exact hpos
 ·obtain⟨j,hj,rfl⟩:=List.getElem_of_mem hy
  have:=hall j (by omega)
  simpa[List.getD_eq_getElem?_getD,hj] using this
def zwv(a b:Int):Int:=if a<b then -1 else if b<a then 1 else 0
theorem zoS(x y:Int)(w:World):FnP Tryz.prog zbx #[.int .i64 x,.int .i64 y] w fun v w'=>Ext w w'/\v=.int .i64 (zwv x y):=by
 have nan:∀(x:Int)(w:World),FnP Tryz.prog zcW #[.int .i64 x] w fun v w'=>Ext w w'/\v=.bool false:=fun x w=>zlI x w _ fun w0 h0=>⟨h0,by simp⟩
 refine zjT x y w _ fun w0 h0=>(nan x w0).mono fun v w1 ⟨e1,hv⟩=>⟨e1,_,hv,fun w3 h3=>(nan y w3).mono fun v w4 ⟨e4,hv⟩=>⟨e4,_,hv,fun h=>by(cases h),fun _=>⟨fun h=>by(cases h),fun _=>⟨fun hlt w6 h6=>⟨h6,?_⟩,fun hge=>⟨fun hlt w6 h6=>⟨h6,?_⟩,fun hle w6 h6=>⟨h6,?_⟩⟩⟩⟩⟩⟩
 ·unfold zwv;rw[if_pos hlt]
 ·unfold zwv;rw[if_neg (by omega),if_pos hlt]
 ·unfold zwv;rw[if_neg (by omega),if_neg (by omega)]
theorem Or3_k(p:Option Addr)(c:Nat)(a b d:Int)(w:World)(h:zeh .i64 w p [a,b,d]):FnP Tryz.prog ziM #[.slice p 3 c] w fun v w'=>Ext w w'/\v=.int .i64 (if a≠0 then a else if b≠0 then b else d):=by
 refine zta p 3 c w _ ?_
 refine⟨fun k w'=>w'=w/\0<=k/\k<=3/\∀j:Nat,(j:Int)<k->[a,b,d].getD j 0=0,fun k _=>(3-k).toNat,⟨rfl,by omega,by omega,fun j hj=>by omega⟩,?_⟩
 rintro k w2 ⟨rfl,hk0,hk1,hz⟩
 refine⟨fun hlt=>?_,fun hge w3 h3=>⟨h3,?_⟩⟩
 ·have hlt:k<3:=by simpa using hlt
  have g:=zeh.idx h hk0 (by simpa using hlt)
  refine⟨fun hq=>zaj g (zah.2 hq),hk0,by simpa using hlt,_,g,fun hne w4 h4=>⟨h4,?_⟩,fun he=>⟨i64 (by omega),⟨rfl,by omega,by omega,fun j hj=>?_⟩,by simp only[];omega⟩⟩
  ·have:k=0\/k=1\/k=2:=by omega
   rcases this with rfl|rfl|rfl
   ·rw[if_pos (by simpa using hne)];rfl
   ·have h0:=hz 0 (by omega)
    rw[if_neg (by simpa using h0),if_pos (by simpa using hne)];rfl
   ·have h0:=hz 0 (by omega)
    have h1:=hz 1 (by omega)
    rw[if_neg (by simpa using h0),if_neg (by simpa using h1)];rfl
  ·by_cases hjk:(j:Int)<k
   ·exact hz j hjk
   ·obtain rfl:j=k.toNat:=by omega
    exact he
 ·obtain rfl:k=3:=by simp at hge;omega
  have h0:=hz 0 (by omega)
  have h1:=hz 1 (by omega)
  have h2:=hz 2 (by omega)
  rw[if_neg (by simpa using h0),if_neg (by simpa using h1)]
  exact congrArg _ (by simpa using h2.symm)
def zwV(a b:Nd):Int:=if zwv a.c b.c≠0 then zwv a.c b.c else if zwv a.m b.m≠0 then zwv a.m b.m else zwv a.g b.g
theorem zfb{a b:Nd}:zwV a b<0↔a.c<b.c\/a.c=b.c/\(a.m<b.m\/a.m=b.m/\a.g<b.g):=by
 unfold zwV zwv
 repeat' split
 all_goals omega
theorem zKb(p1 p:Option Addr)(c:Nat)(L:List Ht)(hok:zj9 L)(i:Int)(hi0:0<=i)(hi1:i<L.length)(w:World)(hc:Go.Sx.cell w p1 0=some (.slice p L.length c))(hL:ziz w p L) :
  FnP Tryz.prog zc0 #[.int .i64 i,.pointer p1] w fun v w'=>Ext w w'/\v=nv (zbG L i):=by
 obtain⟨q,d,hp,hp8,g,_⟩:=hL.at hi0 hi1
 have hm:=hok.2.1 _ (zaq L default (i:=i.toNat) (by omega))
 have hlf:zbG L i=zit (L.getD i.toNat default).has (L.getD i.toNat default).used:=rfl
 generalize hHd:L.getD i.toNat default=H at g hm hlf
 have g':∀(o j:Nat) u,(zE3 H q d)[o+j]?=some u->Go.Sx.cell w (pAdd (pIdx p i 8) o) j=some u:=fun o j u hu=>by rw[zak];exact g _ u hu
 have x2:=zaj (g' 2 0 _ rfl)
 have x5:=zaj (g' 5 0 _ rfl)
 refine zqX i p1 w _ fun b0 hb0=>⟨fun n e w'=>Ext w w'/\zBF w' n (zbG L i),⟨p,L.length,c,hc,hp,hi0,hi1,hp8,x2,_,g' 2 0 _ rfl,_,g' 2 1 _ rfl,_,g' 2 2 _ rfl,p,L.length,c,hc,hp,hi0,hi1,hp8,x5,_,g' 5 0 _ rfl,_,g' 5 1 _ rfl,_,g' 5 2 _ rfl,?_,?_⟩,?_⟩
 ·intro w17 h17
  refine(zzZ hm w17).mono fun v w18 ⟨e18,hv⟩=>⟨e18,_,_,_,_,hv,fun w23 x23=>?_⟩
  have hb:b0<w23.heap.size:=x23.lt b0 (by simp)
  refine(zc7.nil (ns:=[b0]) (zaa x23)).new_row (by intro v hv;simp at hv;subst hv;rfl) (by simpa using hb) fun p24 w24 H24 e24=>?_
  refine H24.store 0 rfl 0 (zfc _) (by simp) (by simp) (by intro v hv;simp at hv;rcases hv with rfl|rfl|rfl<;>rfl) (by have:=e24.size;simp;omega) fun w25 H25 g25=>⟨H25.ext,?_⟩
  rw[hlf]
  exact(H25.get 0 rfl).cells
 ·intro w17 x17
  have hb:b0<w17.heap.size:=x17.lt b0 (by simp)
  refine(zc7.nil (ns:=[b0]) (zaa x17)).new_row (by intro v hv;simp at hv;subst hv;rfl) (by simpa using hb) fun p18 w18 H18 e18 w19 h19=>?_
  refine(zzZ hm w19).mono fun v w20 ⟨e20,hv⟩=>⟨e20,_,_,_,_,hv,?_⟩
  refine H18.store 0 rfl 0 (zfc _) (by simp) (by simp) (by intro v hv;simp at hv;rcases hv with rfl|rfl|rfl<;>rfl) (by have:=e18.size;simp;omega) fun w25 H25 g25=>⟨H25.ext,?_⟩
  rw[hlf]
  exact(H25.get 0 rfl).cells
 ·rintro n e w4 ⟨x4,hN⟩
  have hN3:=zlB hN
  exact⟨zaj hN3.1,_,hN3.1,_,hN3.2.1,_,hN3.2.2,fun w8 x8=>⟨zw3 x8 x4 hb0,rfl⟩⟩
theorem zKc(p14 p1 p:Option Addr)(c:Nat)(L:List Ht)(hok:zj9 L)(i:Int)(hi0:0<=i)(hi1:i<L.length)(k:Int)(hk0:0<=k)(hk1:k<L.length)(w:World)(hc:Go.Sx.cell w p1 0=some (.slice p L.length c))(hL:ziz w p L)
  (hf:Go.Sx.cell w p14 0=some (.func (.func zc0) #[] #[.pointer p1])) :
  FnP Tryz.prog zhn #[.int .i64 i,.int .i64 k,.pointer p14] w fun v w'=>Ext w w'/\v=.int .i64 (zwV (zbG L i) (zbG L k)):=by
 have call:∀j:Int,0<=j->j<L.length->∀w',Ext w w'->zil Tryz.prog (.func (.func zc0) #[] #[.pointer p1]) [.int .i64 j] w' fun v w''=>Ext w' w''/\v=nv (zbG L j):=fun j h0 h1 w' hx =>
  ⟨zc0,#[.pointer p1],rfl,zKb p1 p c L hok j h0 h1 w' (zaz hx hc) (hL.ext hx)⟩
 have calli:=call i hi0 hi1
 have callk:=call k hk0 hk1
 have vmono:∀{f:Value}{args:List Value}{w:World}{K K':Value->World->Prop},zil Tryz.prog f args w K->(∀v w',K v w'->K' v w')->zil Tryz.prog f args w K':=fun⟨f,c,h1,h2⟩ hk=>⟨f,c,h1,h2.mono hk⟩
 have H0:zc7 w [] w []:=zc7.nil (Ext.refl w)
 let row:Option Addr->Nd->zn3:=fun p x=>⟨zim,3,p,1,1,zww x⟩
 refine zqY i k p14 w _ ⟨fun a b w'=>∃rs,zc7 w [] w' rs/\∃m n:Nat,rs[m]?=some (row a (zbG L i))/\rs[n]?=some (row b (zbG L k)),⟨_,hf,_,hf,?_⟩,?_⟩
 ·repeat' (first
   |exact⟨_,by assumption,0,1,rfl,rfl⟩
   |exact⟨_,by assumption,1,0,rfl,rfl⟩
   |(refine(by assumption:zc7 w [] _ _).new_row (by intro v hv;simp at hv;subst hv;rfl) (by simp) fun _ _ _ _ => ?_)
   |(refine zc7.store (by assumption) 0 (e:=zim) (s:=3) rfl 0 (zfc _) (by simp) (by simp) (by intro v hv;simp at hv;rcases hv with rfl|rfl|rfl<;>rfl) (by simp) fun _ _ _ => ?_)
   |(refine zc7.store (by assumption) 1 (e:=zim) (s:=3) rfl 0 (zfc _) (by simp) (by simp) (by intro v hv;simp at hv;rcases hv with rfl|rfl|rfl<;>rfl) (by simp) fun _ _ _ => ?_)
   |(refine vmono (calli _ (by first|assumption|exact zc7.ext (by assumption))) fun _ _ ⟨ex,hv⟩ => ⟨ex,_,_,_,hv,?_⟩)
   |(refine vmono (callk _ (by first|assumption|exact zc7.ext (by assumption))) fun _ _ ⟨ex,hv⟩ => ⟨ex,_,_,_,hv,?_⟩)
   |(refine⟨?_,?_⟩)
   |(intro wx hx;have Hx:=zc7.to (w0:=w) (ns:=[]) (by assumption) hx))
 ·rintro a b w3 ⟨rs,H3,m,n,hm,hn⟩
  have ca:zBF w3 a (zbG L i):=(H3.get m hm).cells
  have cb:zBF w3 b (zbG L k):=(H3.get n hn).cells
  have ca':=zlB ca
  have cb':=zlB cb
  have z:∀{p:Option Addr}{o:Nat}{v:Value},Go.Sx.cell w3 p o=some v->Go.Sx.cell w3 (pAdd p o) 0=some v:=fun h=>by rw[zak];exact h
  refine⟨zaj ca'.1,_,z ca'.1,zaj cb'.1,_,z cb'.1,zaj ca'.1,_,z ca'.2.1,zaj cb'.1,_,z cb'.2.1,zaj ca'.1,_,z ca'.2.2,zaj cb'.1,_,z cb'.2.2,fun w10 h10=>?_⟩
  refine(zoS _ _ w10).mono fun v w11 ⟨e11,hv⟩=>⟨e11,_,hv,fun w13 h13=>?_⟩
  refine(zoS _ _ w13).mono fun v w14 ⟨e14,hv⟩=>⟨e14,_,hv,fun w16 h16=>?_⟩
  refine(zoS _ _ w16).mono fun v w17 ⟨e17,hv⟩=>⟨e17,_,hv,fun w19 h19=>?_⟩
  refine zcG zfy [.int .i64 (zwv (zbG L i).c (zbG L k).c),.int .i64 (zwv (zbG L i).m (zbG L k).m),.int .i64 (zwv (zbG L i).g (zbG L k).g)] rfl rfl (by intro v hv;simp at hv;rcases hv with rfl|rfl|rfl<;>rfl) (by omega) (by omega) fun w20 o20 e20=>⟨e20,_,_,_,rfl,fun w24 h24=>?_⟩
  refine(Or3_k _ 3 (zwv (zbG L i).c (zbG L k).c) (zwv (zbG L i).m (zbG L k).m) (zwv (zbG L i).g (zbG L k).g) w24 (by have:=((o20 0 (Nat.zero_le _)).ext h24).cells;simpa[Value.cells,zeh] using this)).mono fun v w25 ⟨e25,hv⟩=>⟨e25,_,hv,fun w27 h27=>⟨((H3.ext.trans h19).trans e20).trans h27,?_⟩⟩
  rfl
def zf1(L:List Ht)(t:AT)(a:Nd)(k:Int):Prop:=k∈zb0 L t a L.length/\∀j∈zb0 L t a L.length,0<=zwV (zbG L j) (zbG L k)/\(j<k->zwV (zbG L k) (zbG L j)<0)
theorem zFv{L:List Ht}{t:AT}{a:Nd}{k m:Int}(h:zf1 L t a k)(g:zf1 L t a m):k=m:=by
 have h1:=h.2 m g.1
 have g1:=g.2 k h.1
 rcases Int.lt_trichotomy k m with hl|hl|hl
 ·have:=g1.2 hl;have:=h1.1;omega
 ·exact hl
 ·have:=h1.2 hl;have:=g1.1;omega
theorem zHA(p:Option Addr)(c:Nat)(L:List Ht)(h63:(L.length:Int)<=9223372036854775807)(hO:∀h∈L,zry h)(t:AT)(px:Option Addr)(cx:Nat)(hW:WfA t)(a:Nd)(w:World)(hL:ziz w p L)(hT:IsT w t px cx) :
  FnP Tryz.prog zfp #[.slice p L.length c,av t px cx,nv a] w fun v w'=>Ext w w'/\∃k e,v=.tuple #[.int .i64 k,.int .i64 e] /\
   ((e≠0/\k=0/\(e=5↔zxx L t a)/\(zxx L t a->zb0 L t a L.length=[]))\/(e=0/\zxx L t a/\zf1 L t a k)):=by
 refine zvm p L.length c t.k t.key t.val t.n px t.xs.length cx a.c a.m a.g w _ fun w0 h0=>?_
 refine zbp (by intro v hv;simp at hv;subst hv;rfl) fun w1 o1 e1=>?_
 generalize hp1:(some ⟨w0.heap.size,0,none⟩:Option Addr)=p1
 rw[hp1] at o1
 have c1:Go.Sx.cell w1 p1 0=some (.slice p L.length c):=(o1 0 (Nat.zero_le _)).cells 0 _ rfl
 intro b2 hb2 b3 hb3
 refine⟨p,L.length,c,c1,fun w7 x7=>?_⟩
 have x7':=(h0.trans e1).trans (zaa x7)
 refine(Fit_k p c L h63 hO t px cx hW a w7 (hL.ext x7') (hT.ext x7' _ _ _)).mono fun v w8 ⟨e8,q,n,d,e,hv,h5,hnew,hr⟩=>⟨e8,q,n,d,e,hv,?_⟩
 have x8:=x7'.trans e8
 rcases hr with⟨hne,rfl,hno⟩|⟨rfl,hok,rfl,hI⟩
 ·exact⟨fun _ w13 h13=>⟨x8.trans h13,_,_,rfl,.inl ⟨hne,rfl,⟨fun h=>absurd h h5,fun h=>absurd h hno⟩,fun h=>absurd h hno⟩⟩,fun h=>absurd h hne⟩
 refine⟨fun h=>absurd rfl h,fun _=>⟨fun hz w13 h13=>⟨x8.trans h13,_,_,rfl,.inl ⟨by omega,rfl,⟨fun _=>hok,fun _=>rfl⟩,fun _=>List.length_eq_zero_iff.1 (by omega)⟩⟩,fun hnz w13 x13=>?_⟩⟩
 have x13':=x8.trans (zaa x13)
 refine(zc7.nil (w0:=w13) (ns:=[b2,b3]) (Ext.refl w13)).new_row (by intro v hv;simp at hv;subst hv;rfl) (x13.lt) fun p14 w14 H14 e14=>?_
 refine H14.store 0 rfl 0 (zfc _) (by simp) (by simp) (by intro v hv;simp at hv;subst hv;rfl) (fun b hb=>Nat.lt_of_lt_of_le (x13.lt b hb) e14.size) fun w15 H15 g15 w16 h16=>?_
 have e15:=H15.ext
 have x16:=(x13'.trans e15).trans h16
 have cf:Go.Sx.cell w16 p14 0=some (.func (.func zc0) #[] #[.pointer p1]):=zaz h16 ((H15.get 0 rfl).cells 0 _ rfl)
 have c16:Go.Sx.cell w16 p1 0=some (.slice p L.length c):=zaz ((((zaa x7).trans e8).trans (zaa x13)).trans (e15.trans h16)) c1
 have hln:=zhI L t a L.length
 refine(zBE q d (zb0 L t a L.length) (by omega) (by intro h;rw[h] at hnz;simp at hnz) _ (fun x y=>zwV (zbG L x) (zbG L y)) (fun x y z h1 h2=>?_) (fun x=>?_) w16 (hI.ext (((zaa x13).trans e15).trans h16)) (fun x y h1=>?_) (fun x y z h1 h2=>?_) fun x hx y hy w' hx'=>?_).mono fun v w17 ⟨e17,m,hv,hm,hall,a',ha',ham,haj⟩=>⟨e17,m,hv,fun w19 h19=>⟨(x13'.trans e15).trans h19,_,_,rfl,.inr ⟨rfl,hok,hm,fun j hj=>⟨hall j hj,fun hjm=>?_⟩⟩⟩⟩
 ·have h1:=zfb.1 h1
  have h2:¬zwV (zbG L z) (zbG L y)<0:=by omega
  rw[zfb] at h2
  have h3:¬zwV (zbG L z) (zbG L x)<0:=by rw[zfb];omega
  show 0<=zwV (zbG L z) (zbG L x)
  omega
 ·have:¬zwV (zbG L x) (zbG L x)<0:=by rw[zfb];omega
  show 0<=zwV (zbG L x) (zbG L x)
  omega
 ·have h1:=zfb.1 h1
  have:¬zwV (zbG L y) (zbG L x)<0:=by rw[zfb];omega
  show 0<=zwV (zbG L y) (zbG L x)
  omega
 ·have h1:=zfb.1 h1
  have h2:¬zwV (zbG L z) (zbG L y)<0:=by omega
  rw[zfb] at h2
  show zwV (zbG L x) (zbG L z)<0
  rw[zfb]
  omega
 ·have hx1:=zoy.1 hx
  have hy1:=zoy.1 hy
  exact⟨zhn,#[.pointer p14],rfl,zKc p14 p1 p c L hok.1 x hx1.1 hx1.2.1 y hy1.1 hy1.2.1 w' (zaz hx' c16) (hL.ext (x16.trans hx')) (zaz hx' cf)⟩
 ·obtain⟨b,hb,rfl⟩:=List.getElem_of_mem hj
  have hbg:(zb0 L t a L.length).getD b 0=(zb0 L t a L.length)[b]:=by simp[List.getD_eq_getElem?_getD,hb]
  have hba:b<a':=by
   rcases Nat.lt_or_ge b a' with h|h
   ·exact h
   exfalso
   have hs:=zw8 L t a L.length
   have ham':(zb0 L t a L.length)[a']=m:=by rw[<-ham];simp[List.getD_eq_getElem?_getD,ha']
   rcases Nat.lt_or_ge a' b with h2|h2
   ·have:=(List.pairwise_iff_getElem.1 hs) a' b ha' hb h2
    omega
   ·obtain rfl:a'=b:=by omega
    omega
  have:=haj b hba
  rw[hbg] at this
  exact this
theorem zuF{W:World}{p:Option Addr}{l c:Nat}(h:zaC Tryz.prog W zdO p l c):∃L:List Ht,L.length=l/\(L.length:Int)<=9223372036854775807/\(∀h∈L,zry h)/\ziz W p L:=by
 have labels:∀{q:Option Addr}{m d:Nat},zaC Tryz.prog W zmr q m d->∃L:List Lb,L.length=m/\(∀l∈L,l.key.size<=9223372036854775807/\l.val.size<=9223372036854775807)/\Lbs W q L:=by
  intro q m d h
  obtain⟨L,h1,h2,h3⟩:=h.list (α:=Lb) zsy (fun l=>l.key.size<=9223372036854775807/\l.val.size<=9223372036854775807) (fun n es hg he=>by
   have hlv:=zcO (P:=Tryz.prog) 6 zmr [zay,zay] n es (by kernel_rfl) hg
   obtain⟨v0,r0,rfl,l0,hlv⟩:=zai hlv
   obtain⟨v1,r1,rfl,l1,hlv⟩:=zai hlv
   obtain rfl:=zhN hlv
   obtain⟨a,rfl,ha⟩:=zc3 (by kernel_rfl) l0
   obtain⟨b,rfl,hb⟩:=zc3 (by kernel_rfl) l1
   exact⟨⟨a,b⟩,rfl,ha,hb⟩)
  refine⟨L,h1,h2,fun i x hx j u hu=>?_⟩
  have:=h3 i x hx j u hu
  rwa [show Tryz.prog.cellsOf zmr=2 by kernel_rfl] at this
 obtain⟨M,h1,h2,h3⟩:=h.list (α:=Hm) zjD (fun m=>zry m.h/\Lbs W m.q m.h.labels) (fun n es hg he=>by
  have hlv:=zcO (P:=Tryz.prog) 6 zdO [zay,zAk,zde,zde,zde,zde,zde,zde] n es (by kernel_rfl) hg
  obtain⟨v0,r0,rfl,l0,hlv⟩:=zai hlv
  obtain⟨v1,r1,rfl,l1,hlv⟩:=zai hlv
  obtain⟨v2,r2,rfl,l2,hlv⟩:=zai hlv
  obtain⟨v3,r3,rfl,l3,hlv⟩:=zai hlv
  obtain⟨v4,r4,rfl,l4,hlv⟩:=zai hlv
  obtain⟨v5,r5,rfl,l5,hlv⟩:=zai hlv
  obtain⟨v6,r6,rfl,l6,hlv⟩:=zai hlv
  obtain⟨v7,r7,rfl,l7,hlv⟩:=zai hlv
  obtain rfl:=zhN hlv
  obtain⟨nm,rfl,hnm⟩:=zc3 (by kernel_rfl) l0
  obtain⟨q,m,d,rfl,s1,s2,s3,s4⟩:=zfh (e:=zmr) (by kernel_rfl) l1
  obtain⟨x2,rfl,_⟩:=zaL (k:=.i64) (by kernel_rfl) l2
  obtain⟨x3,rfl,_⟩:=zaL (k:=.i64) (by kernel_rfl) l3
  obtain⟨x4,rfl,_⟩:=zaL (k:=.i64) (by kernel_rfl) l4
  obtain⟨x5,rfl,_⟩:=zaL (k:=.i64) (by kernel_rfl) l5
  obtain⟨x6,rfl,_⟩:=zaL (k:=.i64) (by kernel_rfl) l6
  obtain⟨x7,rfl,_⟩:=zaL (k:=.i64) (by kernel_rfl) l7
  obtain⟨L,rfl,hLo,hLl⟩:=labels (zaC.mk s1 s2 s3 s4)
  exact⟨⟨⟨nm,L,⟨x2,x3,x4⟩,⟨x5,x6,x7⟩⟩,q,d⟩,rfl,⟨hnm,by simp only[];omega,hLo⟩,hLl⟩)
 rw[show Tryz.prog.cellsOf zdO=8 by kernel_rfl] at h3
 have hle:=h.le
 have hmx:=h.max
 refine⟨M.map (·.h),by simpa using h1,by simp;omega,fun x hx=>?_,ms_hs h3 fun m hm=>(h2 m hm).2⟩
 obtain⟨m,hm,rfl⟩:=List.mem_map.1 hx
 exact(h2 m hm).1
theorem zFd(p:Option Addr)(c:Nat)(X:List Int)(h63:(X.length:Int)<=9223372036854775807)(f:Value)(Pr:Int->Bool)(w:World)(h:zeh .i64 w p X)
  (hf:∀x∈X,∀w',Ext w w'->zil Tryz.prog f [.int .i64 x] w' fun v w''=>Ext w' w''/\v=.bool (Pr x)) :
  FnP Tryz.prog zbJ #[.slice p X.length c,f] w fun v w'=>Ext w w'/\∃t,v=.int .i64 t/\(0<=t↔∃x∈X,Pr x=true):=by
 refine zfE p X.length c f w _ ?_
 refine⟨fun k w'=>w'=w/\0<=k/\k<=X.length/\∀j:Nat,(j:Int)<k->Pr (X.getD j 0)=false,fun k _=>(X.length-k).toNat,⟨rfl,by omega,by omega,fun j hj=>by omega⟩,?_⟩
 rintro k w ⟨rfl,hk0,hk1,hno⟩
 refine⟨fun hlt=>?_,fun hge w4 h4=>⟨h4,_,rfl,?_⟩⟩
 ·have g:=zeh.idx h hk0 hlt
  refine⟨fun hq=>zaj g (zah.2 hq),hk0,hlt,_,g,fun w4 h4=>?_⟩
  obtain⟨fi,cap,hfe,hfp⟩:=hf _ (zaq X 0 (i:=k.toNat) (by omega)) w4 h4
  refine⟨fi,cap,hfe,hfp.mono fun v w5 ⟨e5,hv⟩=>⟨e5,_,hv,fun hyes w9 h9=>⟨h9,_,rfl,fun _=>⟨_,zaq X 0 (by omega),hyes⟩,fun _=>hk0⟩,fun hn=>⟨i64 (by omega),⟨rfl,by omega,by omega,fun j hj=>?_⟩,by simp only[];omega⟩⟩⟩
  by_cases hjk:(j:Int)<k
  ·exact hno j hjk
  ·obtain rfl:j=k.toNat:=by omega
   exact hn
 ·constructor
  ·intro h;omega
  ·rintro⟨x,hm,hx⟩
   obtain⟨j,hj,rfl⟩:=List.getElem_of_mem hm
   have:=hno j (by omega)
   rw[show X.getD j 0=X[j] by simp[List.getD_eq_getElem?_getD,hj],hx] at this
   cases this
theorem zoT(p:Option Addr)(c:Nat)(X:List Int)(h63:(X.length:Int)<=9223372036854775807)(f:Value)(Pr:Int->Bool)(w:World)(h:zeh .i64 w p X)
  (hf:∀x∈X,∀w',Ext w w'->zil Tryz.prog f [.int .i64 x] w' fun v w''=>Ext w' w''/\v=.bool (Pr x)) :
  FnP Tryz.prog zaV #[.slice p X.length c,f] w fun v w'=>Ext w w'/\∃b:Bool,v=.bool b/\(b=true↔∃x∈X,Pr x=true):=by
 refine zeI p X.length c f w _ ?_
 intro w1 h1
 refine(zFd p c X h63 f Pr w1 (h.ext h1) fun x hx w' hw=>hf x hx w' (h1.trans hw)).mono fun v w2 ⟨e2,t,hv,ht⟩=>⟨e2,t,hv,fun w4 h4=>⟨h4,_,rfl,?_⟩⟩
 rw[decide_eq_true_iff];exact ht
structure Th where
 b:Nat
 prio:Int
 id:Int
 born:Int
 deriving DecidableEq
def th0:Th:=⟨0,0,0,0⟩
def ahead(t u:Th):Prop:=u.prio<t.prio\/t.prio=u.prio/\t.born<u.born
instance (t u:Th):Decidable (ahead t u):=by unfold ahead;infer_instance
theorem zkr{t u:Th}(h:ahead t u):¬ahead u t:=by unfold ahead at *;omega
theorem zoY{t u v:Th}(h:ahead t u)(k:ahead u v):ahead t v:=by unfold ahead at *;omega
theorem zdW{t u v:Th}(h:¬ahead t u)(k:¬ahead u v):¬ahead t v:=by unfold ahead at *;omega
theorem zu7{t u v:Th}(h:¬ahead t u)(k:ahead v u):¬ahead t v:=fun h'=>h (zoY h' k)
def at_(H:List Th)(k:Nat):Th:=H.getD k th0
def swp(H:List Th)(i j:Nat):List Th:=(H.set i (at_ H j)).set j (at_ H i)
theorem zEr(H:List Th)(i j:Nat):(swp H i j).length=H.length:=by simp[swp]
theorem zHM(H:List Th)(i k:Nat)(x:Th)(hi:i<H.length):at_ (H.set i x) k=if k=i then x else at_ H k:=by
 unfold at_
 rw[List.getD_eq_getElem?_getD,List.getD_eq_getElem?_getD,List.getElem?_set]
 by_cases h:i=k
 ·subst h;simp[hi]
 ·rw[if_neg h,if_neg (Ne.symm h)]
theorem zqg(H:List Th){i j:Nat}(hi:i<H.length)(hj:j<H.length)(k:Nat):at_ (swp H i j) k=if k=j then at_ H i else if k=i then at_ H j else at_ H k:=by
 unfold swp
 rw[zHM _ _ _ _ (by simpa using hj),zHM _ _ _ _ hi]
theorem zoL(H:List Th){i j:Nat}(hi:i<H.length)(hj:j<H.length):(swp H i j).Perm H:=by
 unfold swp at_
 rw[List.getD_eq_getElem?_getD,List.getD_eq_getElem?_getD,List.getElem?_eq_getElem hi,List.getElem?_eq_getElem hj]
 exact List.set_set_perm hi hj
theorem zB2(H:List Th){k:Nat}(h:k<H.length):at_ H k∈H:=zaq H th0 h
theorem zIb{H:List Th}{t:Th}(h:t∈H):∃k,k<H.length/\at_ H k=t:=by
 obtain⟨k,hk⟩:=List.mem_iff_getElem?.1 h
 exact⟨k,(List.getElem?_eq_some_iff.1 hk).1,by unfold at_;rw[List.getD_eq_getElem?_getD,hk];rfl⟩
def par(k:Nat):Nat:=(k-1)/2
def Hp(H:List Th)(n:Nat):Prop:=∀k,1<=k->k<n->¬ahead (at_ H k) (at_ H (par k))
def Up(H:List Th)(n j:Nat):Prop:=(∀k,1<=k->k<n->k≠j->¬ahead (at_ H k) (at_ H (par k)))/\(1<=j->∀k,1<=k->k<n->par k=j->¬ahead (at_ H k) (at_ H (par j)))
def Dn(H:List Th)(n i0 i:Nat):Prop:=(∀k,1<=k->k<n->par k≠i->(k≠i\/i≠i0)->¬ahead (at_ H k) (at_ H (par k)))/\(1<=i->∀k,1<=k->k<n->par k=i->¬ahead (at_ H k) (at_ H (par i)))
theorem zEF{H:List Th}{n:Nat}(h:Up H n 0):Hp H n:=fun k h1 hn=>h.1 k h1 hn (by omega)
theorem zKT{H:List Th}{n j:Nat}(h:Up H n j)(hs:¬ahead (at_ H j) (at_ H (par j))):Hp H n:=fun k h1 hn=>by
 by_cases hk:k=j
 ·rw[hk];exact hs
 ·exact h.1 k h1 hn hk
theorem zKS{H:List Th}{n j:Nat}(hl:n<=H.length)(hj:j<n)(h1:1<=j)(h:Up H n j)(ha:ahead (at_ H j) (at_ H (par j))):Up (swp H (par j) j) n (par j):=by
 have hp:par j<j:=by unfold par;omega
 have sa:=zqg H (i:=par j) (j:=j) (by omega) (by omega)
 refine⟨fun k k1 kn hk=>?_,fun hp1 k k1 kn hk=>?_⟩
 ·rw[sa k,sa (par k)]
  by_cases hkj:k=j
  ·subst hkj
   rw[if_pos rfl,if_neg (by omega),if_pos rfl]
   exact zkr ha
  ·rw[if_neg hkj,if_neg hk]
   by_cases hpk:par k=j
   ·rw[if_pos hpk];exact h.2 h1 k k1 kn hpk
   ·rw[if_neg hpk]
    by_cases hpp:par k=par j
    ·rw[if_pos hpp]
     have:=h.1 k k1 kn hkj
     rw[hpp] at this
     exact zu7 this ha
    ·rw[if_neg hpp];exact h.1 k k1 kn hkj
 ·have hpp:par (par j)<par j:=by unfold par at *;omega
  have e:=h.1 (par j) hp1 (by omega) (by omega)
  rw[sa k,sa (par (par j)),if_neg (show ¬par (par j)=j by omega),if_neg (show ¬par (par j)=par j by omega)]
  by_cases hkj:k=j
  ·rw[if_pos hkj];exact e
  ·rw[if_neg hkj]
   have hkp:k≠par j:=fun h=>by rw[h] at hk;omega
   rw[if_neg hkp]
   have:=h.1 k k1 kn hkj
   rw[hk] at this
   exact zdW this e
theorem zJq{H:List Th}{n i0 i j:Nat}(hl:n<=H.length)(hj:j<n)(h1:1<=j)(hi:par j=i)(hi0:i0<=i)(h:Dn H n i0 i)(ha:ahead (at_ H j) (at_ H i))
  (hs:∀k,1<=k->k<n->par k=i->¬ahead (at_ H k) (at_ H j)):Dn (swp H i j) n i0 j:=by
 have hij:i<j:=by subst hi;unfold par;omega
 have sa:=zqg H (i:=i) (j:=j) (by omega) (by omega)
 refine⟨fun k k1 kn hk _=>?_,fun _ k k1 kn hk=>?_⟩
 ·rw[sa k,sa (par k),if_neg (show ¬par k=j from hk)]
  by_cases hkj:k=j
  ·subst hkj
   rw[if_pos rfl,if_pos hi]
   exact zkr ha
  ·rw[if_neg hkj]
   by_cases hki:k=i
   ·rw[if_pos hki]
    subst hki
    have hpk:par k≠k:=by unfold par;omega
    rw[if_neg hpk]
    exact h.2 k1 j h1 hj hi
   ·rw[if_neg hki]
    by_cases hpi:par k=i
    ·rw[if_pos hpi];exact hs k k1 kn hpi
    ·rw[if_neg hpi];exact h.1 k k1 kn hpi (.inl hki)
 ·have hkj:k≠j:=fun he=>by subst he;unfold par at hk;omega
  have hki:k≠i:=fun he=>by subst he;unfold par at hk;omega
  rw[hi,sa k,sa i,if_neg hkj,if_neg hki,if_neg (by omega),if_pos rfl]
  have:=h.1 k k1 kn (by rw[hk];omega) (.inl hki)
  rw[hk] at this
  exact this
theorem zsu{H:List Th}{n i0 i:Nat}(h:Dn H n i0 i)(hi:i≠i0)(hs:∀k,1<=k->k<n->par k=i->¬ahead (at_ H k) (at_ H i)):Hp H n:=fun k k1 kn=>by
 by_cases hp:par k=i
 ·rw[hp];exact hs k k1 kn hp
 ·exact h.1 k k1 kn hp (.inr hi)
theorem zui{H:List Th}{n i:Nat}(h:Dn H n i i)(hs:∀k,1<=k->k<n->par k=i->¬ahead (at_ H k) (at_ H i)):Up H n i:=by
 refine⟨fun k k1 kn hk=>?_,h.2⟩
 by_cases hp:par k=i
 ·rw[hp];exact hs k k1 kn hp
 ·exact h.1 k k1 kn hp (.inl hk)
theorem zFQ{H G:List Th}{n i:Nat}(h:Hp G n)(he:∀k,k<n->k≠i->at_ H k=at_ G k)(hi:i<n):Dn H n i i:=by
 refine⟨fun k k1 kn hp hk=>?_,fun i1 k k1 kn hp=>?_⟩
 ·have hki:k≠i:=hk.resolve_right fun h=>h rfl
  rw[he k kn hki,he (par k) (by unfold par;omega) hp]
  exact h k k1 kn
 ·have hki:k≠i:=fun e=>by subst e;unfold par at hp;omega
  have hpp:par i≠i:=by unfold par;omega
  rw[he k kn hki,he (par i) (by unfold par;omega) hpp]
  have a1:=h k k1 kn
  rw[hp] at a1
  exact zdW a1 (h i i1 hi)
theorem zHv{H:List Th}{n:Nat}(h:Hp H n):Up H (n+1) n:=by
 refine⟨fun k k1 kn hk=>h k k1 (by omega),fun n1 k k1 kn hp=>?_⟩
 unfold par at hp;omega
theorem zGl{H:List Th}{n:Nat}(h:Hp H n):∀k,k<n->¬ahead (at_ H k) (at_ H 0):=by
 intro k
 induction k using Nat.strongRecOn with
 |ind k ih =>
  intro hk
  by_cases h0:k=0
  ·subst h0;unfold ahead;omega
  ·exact zdW (h k (by omega) hk) (ih (par k) (by unfold par;omega) (by unfold par;omega))
theorem zJY{H:List Th}{m n:Nat}(h:Hp H n)(hm:m<=n):Hp H m:=fun k k1 km=>h k k1 (by omega)
theorem zzk{H G:List Th}{n:Nat}(h:Hp G n)(he:∀k,k<n->at_ H k=at_ G k):Hp H n:=fun k k1 kn=>by
 rw[he k kn,he (par k) (by unfold par;omega)];exact h k k1 kn
end Go.Proofs.YtcceeahmcecbnaaGreatDoor
