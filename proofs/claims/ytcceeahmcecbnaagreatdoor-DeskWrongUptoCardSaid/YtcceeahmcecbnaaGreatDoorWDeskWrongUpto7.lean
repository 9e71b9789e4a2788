/- The framework, the program's texts and what is shown of them: part 7. -/
import Derived.Test.YtcceeahmcecbnaaGreatDoorWDeskWrongUpto6
import Derived.Test.YtcceeahmcecbnaaGreatDoorRows
set_option linter.unusedVariables false
set_option linter.unusedSimpArgs false
set_option maxRecDepth 100000
namespace Go.Proofs.YtcceeahmcecbnaaGreatDoor
open Go.Sx Go.RowKit
abbrev zbJ:FuncId:=4
abbrev zaA:FuncId:=14
abbrev zaS:FuncId:=15
def zeC (b:Option Addr) (q r:Nat) (l:World) (m:Value->World->Prop):Prop:=
 ((b=none)->∀ a,Ext l a->m (.slice none 0 0) a)/\((b≠none)->∀ a,Ext l a->Run Tryz.prog (.buildSlice 22 0 []) a fun n k=>Ext a k/\∃ c d e,n=(.slice c d e)/\∀ f,Ext k f->Run Tryz.prog (.append #[22,22] 22 [(.slice c d e),(.slice b q r)]) f fun o p=>∃ g h i,o=(.slice g h i)/\∀ j,Ext p j->m (.slice g h i) j)
theorem zez (a:Option Addr) (b c:Nat) (d:World) (e:Value->World->Prop) (h:zeC a b c d e):FnP Tryz.prog zaS #[(.slice a b c)] d e:=
 zab (Eq.mp (by kernel_rfl:_=Runs Tryz.prog e ({N:=8}:Cfg) Tryz.f15 (Tryz.f15.body.getD .skip) [.sc (.slc a b c)] d) h) Tryz.func15 (by kernel_rfl) (fun a w=>Tryz.call15 a w) (by kernel_rfl) (by kernel_rfl) rfl rfl
def zen (i:Option Addr) (a c:Nat) (e b:Int) (l:World) (m:Value->World->Prop):Prop:=
 (0:Int)<=e/\(e:Int)<=b/\(b:Int)<=(a:Int)/\((a:Int):Int)<=(c:Int)/\((e=b)->∀ f,Ext l f->m (.slice i a c) f)/\((e≠b)->(0:Int)<=0/\(0:Int)<=e/\(e:Int)<=(c:Int)/\(0:Int)<=b/\(b:Int)<=(a:Int)/\((a:Int):Int)<=(c:Int)/\∀ f,Ext l f->Run Tryz.prog (.append #[22,22] 22 [(.slice (pCut i c 0 1) (e-0).toNat (c-(0:Int).toNat)),(.slice (pCut i c b 1) ((a:Int)-b).toNat (c-b.toNat))]) f fun n o=>∃ h d g,n=(.slice h d g)/\(0:Int)<=(d:Int)/\((d:Int):Int)<=(a:Int)/\((a:Int):Int)<=(g:Int)/\∀ j,Ext o j->Run Tryz.prog (.clear #[22] 0 [(.slice (pCut h g (d:Int) 1) ((a:Int)-(d:Int)).toNat (g-(d:Int).toNat))]) j fun p q=>p=(.tuple #[])/\∀ k,Ext q k->m (.slice h d g) k)
theorem zeh (a:Option Addr) (b c:Nat) (d e:Int) (f:World) (g:Value->World->Prop) (h:zen a b c d e f g):FnP Tryz.prog zaA #[(.slice a b c),(.int .i64 d),(.int .i64 e)] f g:=
 zab (Eq.mp (by kernel_rfl:_=Runs Tryz.prog g ({N:=33}:Cfg) Tryz.f14 (Tryz.f14.body.getD .skip) [.sc (.slc a b c),.sc (.int .i64 d),.sc (.int .i64 e)] f) h) Tryz.func14 (by kernel_rfl) (fun a w=>Tryz.call14 a w) (by kernel_rfl) (by kernel_rfl) rfl rfl
def zfw (N:Option Addr) (b O:Nat) (a:Int) (n:World) (f:Value->World->Prop):Prop:=
 ∀ o,Ext n o->FnP Tryz.prog zba #[] o fun P R=>Ext o R/\∃ p,P=(.bool p)/\((p=false)->∀ e,Ext n e->f (.bool false) e)/\((p=true)->((((50<(b:Int))\/(a<0))\/((b:Int)<=a))->∀ e,Ext n e->f (.bool true) e)/\(((((b:Int)<=50)/\(0<=a))/\(a<(b:Int)))->∀ e,Ext n e->FnP Tryz.prog zbZ #[(.slice N b O)] e fun S j=>∃ g c r d,S=(.tuple #[(.slice g c r),(.int .i64 d)])/\((((d=0)/\((c:Int)=(b:Int)))->g≠none))/\((((d=0)/\((c:Int)=(b:Int)))->(0:Int)<=a))/\((((d=0)/\((c:Int)=(b:Int)))->(a:Int)<(c:Int)))/\(((d≠0)\/((c:Int)≠(b:Int)))->∀ s,Ext j s->f (.bool ((decide (d=0))&&(decide ((c:Int)=(b:Int))))) s)/\(((d=0)/\((c:Int)=(b:Int)))->∃ h,cell j (pIdx g a 1) 0=some (.string h)/\((4<=(h.size:Int))->g≠none)/\((4<=(h.size:Int))->(0:Int)<=a)/\((4<=(h.size:Int))->(a:Int)<(c:Int))/\(((h.size:Int)<4)->∀ t,Ext j t->f (.bool ((decide (d=0))&&(decide ((c:Int)=(b:Int))))) t)/\((4<=(h.size:Int))->∃ l,cell j (pIdx g a 1) 0=some (.string l)/\(0:Int)<=0/\(0:Int)<=4/\(4:Int)<=(l.size:Int)/\(((l.extract (0:Int).toNat (4:Int).toNat)≠(⟨#[101,114,114,32]⟩:ByteArray))->∀ i,Ext j i->f (.bool ((decide (d=0))&&(decide ((c:Int)=(b:Int))))) i)/\(((l.extract (0:Int).toNat (4:Int).toNat)=(⟨#[101,114,114,32]⟩:ByteArray))->∀ i,Ext j i->FnP Tryz.prog zaS #[(.slice N b O)] i fun T K=>Ext i K/\∃ u v w,T=(.slice u v w)/\InR .i64 (a+1)/\∀ x,Ext K x->FnP Tryz.prog zaA #[(.slice u v w),(.int .i64 a),(.int .i64 (a+1))] x fun U V=>∃ y z A,U=(.slice y z A)/\∀ B,Ext V B->FnP Tryz.prog zbZ #[(.slice y z A)] B fun W L=>∃ C D E m,W=(.tuple #[(.slice C D E),(.int .i64 m)])/\((m=0)->InR .i64 (a+1))/\(((m=0)->∀ k,Ext L k->FnP Tryz.prog zaA #[(.slice g c r),(.int .i64 a),(.int .i64 (a+1))] k fun X M=>∃ F G H,X=(.slice F G H)/\∀ q,Ext M q->FnP Tryz.prog zaw #[(.slice C D E),(.slice F G H)] q fun Y Z=>Ext q Z/\∃ I,Y=(.bool I)/\∀ J,Ext M J->f (.bool I) J))/\((m≠0)->∀ k,Ext L k->f (.bool false) k))))))
theorem zft (a:Option Addr) (b c:Nat) (d:Int) (e:World) (f:Value->World->Prop) (h:zfw a b c d e f):FnP Tryz.prog zbJ #[(.slice a b c),(.int .i64 d)] e f:=
 zab (Eq.mp (by kernel_rfl:_=Runs Tryz.prog f ({N:=84,muts:=[21,29,22,24,81,12,14,16]}:Cfg) Tryz.f4 (Tryz.f4.body.getD .skip) [.sc (.slc a b c),.sc (.int .i64 d)] e) h) Tryz.func4 (by kernel_rfl) (fun a w=>Tryz.call4 a w) (by kernel_rfl) (by kernel_rfl) rfl rfl
theorem znG (W:World) (R:Array Value->Prop) (h:∀ l:Option Addr,∀ ll:Nat,∀ lc:Nat,zbL Tryz.prog W 9 l ll lc->∀ k:Int,InR .i64 k->R #[(.slice l ll lc),(.int .i64 k)]) (args:Array Value) (hg:zdl Tryz.prog W Tryz.f4.params.toList args.toList):R args:=by
  have e_:(zh1 Tryz.prog W Tryz.f4.params.toList fun l=>R l.toArray)=(∀ l:Option Addr,∀ ll:Nat,∀ lc:Nat,zbL Tryz.prog W 9 l ll lc->∀ k:Int,InR .i64 k->R #[(.slice l ll lc),(.int .i64 k)]):=by kernel_rfl
  exact zn3 (by rw [e_]; exact h) args hg
theorem zDQ (q:Option Addr) (c:Nat) (L:List ByteArray) (h60:L.length<=1000) (w:World) (hD:zat w q (L.map Value.string)) :
    FnP Tryz.prog zaS #[.slice q L.length c] w fun v w'=>Ext w w'/\∃ p' c',v=.slice p' L.length c'/\Own w.heap.size w' zar 1 p' L.length c' (L.map Value.string):=by
  refine zez q L.length c w _ ⟨fun hn w0 h0=>?_,fun hn=>?_⟩
  · cases L with
    |nil => exact ⟨h0,none,0,rfl,Own.nil⟩
    |cons x r => exact absurd hn (hD.ne (by simp))
  · exact zkt (Q:=fun v w'=>Ext w w'/\∃ p' c',v=.slice p' L.length c'/\Own w.heap.size w' zar 1 p' L.length c' (L.map Value.string)) za7 (by omega) hD (by simp) (by intro u hu; obtain ⟨x,_,rfl⟩:=List.mem_map.1 hu; rfl) (by omega) (by omega) hn fun p' c' w' hx o=>⟨hx,p',c',rfl,o⟩
theorem zsZ (B:Nat) (q:Option Addr) (n c:Nat) (L:List ByteArray) (hn:n=L.length) (i:Int) (h0:0<=i) (h1:i<n) (w:World) (ho:Own B w zar 1 q n c (L.map Value.string)) (h100:n<=1000) :
    FnP Tryz.prog zaA #[.slice q n c,.int .i64 i,.int .i64 (i+1)] w fun v w'=>∃ m d,v=.slice q m d/\m=(L.eraseIdx i.toNat).length/\Own B w' zar 1 q m d ((L.eraseIdx i.toNat).map Value.string)/\zb5 w w' q q:=by
  have hle:=ho.le
  refine zeh q n c i (i+1) w _ ⟨h0,by omega,by omega,by omega,fun h=>by omega,fun _=>?_⟩
  refine zzg (Q:=fun v w'=>∃ m d,v=.slice q m d/\m=(L.eraseIdx i.toNat).length/\Own B w' zar 1 q m d ((L.eraseIdx i.toNat).map Value.string)/\zb5 w w' q q) za7 (by omega) (by intro u hu; simp [Value.cells] at hu; subst hu; rfl) ho (by intro u hu; obtain ⟨x,_,rfl⟩:=List.mem_map.1 hu; rfl) h0 (by omega) (by omega) fun w' g o=>?_
  have he:(L.eraseIdx i.toNat)=L.take i.toNat++L.drop (i.toNat+1):=List.eraseIdx_eq_take_drop_succ ..
  have hlen:(L.eraseIdx i.toNat).length=i.toNat+(n-(i+1).toNat):=by
    rw [he,List.length_append,List.length_take,List.length_drop]; omega
  refine ⟨_,_,rfl,hlen.symm,?_,g⟩
  rw [Nat.mul_one,Nat.mul_one,<- List.map_take,<- List.map_drop,show (i+1).toNat=i.toNat+1 by omega,<- List.map_append,<- he] at o
  rw [show i.toNat+(n-(i.toNat+1))=i.toNat+(n-(i+1).toNat) by omega] at o
  exact o
theorem zEN {a:ByteArray} (h:a.extract (0:Int).toNat (4:Int).toNat=(⟨#[101,114,114,32]⟩:ByteArray)):a.data.toList.head?=some 101:=by
  have e:a.data.toList.take 4=[101,114,114,32]:=by
    have:=congrArg (fun x:ByteArray=>x.data.toList) h
    simpa using this
  cases hl:a.data.toList with
  |nil => rw [hl] at e; simp at e
  |cons x r => rw [hl] at e; simp at e; rw [e.1]; rfl
theorem zzN {L us vs:List ByteArray} {σ σ1 σ2:DS} {k:Nat} (hk:k<L.length) (h:za0 L σ us σ1) (g:za0 (L.eraseIdx k) σ vs σ2) (hs:∀ τ a τ',us[k]?=some a->doD dR L[k] τ a τ'->τ'=τ):vs=us.eraseIdx k:=by
  have h1:L=L.take k++L[k]::L.drop (k+1):=by rw [List.getElem_cons_drop,List.take_append_drop]
  have hl:(L.take k).length=k:=by rw [List.length_take]; omega
  have:=za0.skip (L1:=L.take k) (L2:=L.drop (k+1)) (l:=L[k]) (us:=us) (vs:=vs) (σ:=σ) (σ1:=σ1) (σ2:=σ2) (by rw [<- h1]; exact h) (by rw [<- List.eraseIdx_eq_take_drop_succ]; exact g) (fun τ a τ' _ hu hd=>hs τ a τ' (by rw [hl] at hu; exact hu) hd)
  rw [hl] at this
  exact this
theorem zz7 (W:World) (g:GD W) {l:Option Addr} {ll lc:Nat} (hl:zbL Tryz.prog W zar l ll lc) (k:Int) (hk:InR .i64 k) (hb:zn1 W l ll) :
    FnP Tryz.prog zbJ #[.slice l ll lc,.int .i64 k] W fun v W'=>v=.bool true/\Ext W W':=by
  obtain ⟨L,rfl,h63,hcap,hL⟩:=zyG hl
  have hs:=hb.all hL
  have hsz:=zBB g
  refine zft l L.length lc k W _ fun w0 x0=>(zBh w0 (g.ext x0) (Nat.le_trans hsz x0.size)).mono fun v w1 ⟨e1,hv⟩=>⟨e1,true,hv,fun h=>(by cases h),fun _=>⟨fun _ w3 x3=>⟨rfl,x3⟩,fun hin w3 x3=>?_⟩⟩
  obtain ⟨⟨h50,h0⟩,hkl⟩:=hin
  refine (zs1 dR L l lc w3 (g.ext x3) (Nat.le_trans hsz x3.size) (hL.ext x3) (by omega) hs (fun x _=>zkr x)).mono fun v w4 ⟨e4,hor⟩=>?_
  have x4:=x3.trans e4
  rcases hor with ⟨hbig,_⟩|⟨hsm,us,σ,q,d,hv,hp,oU⟩
  · omega
  have hul:=(za0.of hp).len
  have oU':=oU.weak x3.size
  have hqn:q≠none:=oU.ne1 (by omega) (by omega)
  obtain ⟨a,ha⟩:∃ a,us[k.toNat]?=some a:=⟨_,List.getElem?_eq_getElem (by omega)⟩
  have hcell:Go.Sx.cell w4 (pIdx q k 1) 0=some (.string a):=by
    rw [zad]
    refine oU.cells _ _ ?_
    simp [ha]
  refine ⟨q,L.length,d,0,hv,fun _=>hqn,fun _=>h0,fun _=>hkl,fun h=>(by rcases h with h|h<;>exact absurd rfl h),fun _=>⟨a,hcell,fun _=>hqn,fun _=>h0,fun _=>hkl,fun _ w10 x10=>⟨by simp,x4.trans x10⟩,fun h4=>⟨a,hcell,by omega,by omega,h4,fun _ w11 x11=>⟨by simp,x4.trans x11⟩,fun herr w11 x11=>?_⟩⟩⟩
  have x11':=x4.trans x11
  refine (zDQ l lc L (by omega) w11 (hL.ext x11')).mono fun v w12 ⟨e12,q2,c2,hv,o12⟩=>⟨e12,q2,_,c2,hv,i64 (by omega),fun w16 x16=>?_⟩
  have o16:=(o12.weak x11'.size).ext x16
  refine (zsZ _ q2 L.length c2 L rfl k h0 hkl w16 o16 (by omega)).mono fun v w17 ⟨m,d17,hv,hm,o17,g17⟩=>⟨q2,m,d17,hv,fun w21 x21=>?_⟩
  have x16':Ext W w16:=(x11'.trans e12).trans x16
  have x17:Ext W w17:=g17.ext x16' o16
  have ap:zbz q q2:=fun a b ha hb h=>by have:=(oU.lt a ha).2; have:=(o12.lt b hb).1; have:=x11.size; omega
  have oU17:=(((oU'.ext x11).ext e12).ext x16).st ap g17
  subst hm
  have x21':=x17.trans x21
  have hel:(L.eraseIdx k.toNat).length<=L.length:=List.length_eraseIdx_le ..
  refine (zs1 dR (L.eraseIdx k.toNat) q2 d17 w21 (g.ext x21') (Nat.le_trans hsz x21'.size) (o17.cells.ext x21) (by omega) (fun x hx=>hs x (List.mem_of_mem_eraseIdx hx)) (fun x _=>zkr x)).mono fun v w22 ⟨e22,hor⟩=>?_
  rcases hor with ⟨hbig,_⟩|⟨_,vs,τ,q3,d3,hv,hp2,oV⟩
  · omega
  refine ⟨q3,_,d3,0,hv,fun _=>i64 (by omega),fun _ w27 x27=>?_,fun h=>absurd rfl h⟩
  have oU27:=((oU17.ext x21).ext e22).ext x27
  refine (zsZ _ q L.length d us hul.symm k h0 hkl w27 oU27 (by omega)).mono fun v w28 ⟨m,d28,hv,hm,o28,g28⟩=>⟨q,m,d28,hv,fun w32 x32=>?_⟩
  have ap2:zbz q3 q:=fun a b ha hb h=>by have:=(oV.lt a ha).1; have:=(oU.lt b hb).2; have:=x11.size; have:=e12.size; have:=x16.size; have:=g17.size; have:=x21.size; omega
  have oV28:=(oV.ext x27).st ap2 g28
  have x28:Ext W w28:=g28.ext ((x21'.trans e22).trans x27) oU27
  have hvl:=(za0.of hp2).len
  have hvs:vs=us.eraseIdx k.toNat:=zzN (by omega) (za0.of hp) (za0.of hp2) fun τ b τ' hu hd=>by
    rw [ha] at hu
    cases hu
    exact zH1 hd (zEN herr)
  subst hm
  rw [<- hvl]
  refine (zre q3 q _ d28 vs (us.eraseIdx k.toNat) (by omega) w32 (oV28.cells.ext x32) (o28.cells.ext x32)).mono fun v w33 ⟨e33,hv⟩=>⟨e33,_,hv,fun w35 x35=>⟨by simp [hvs],x28.trans x35⟩⟩
theorem zDE (W:World) (hg:GD W) (l:Option Addr) (ll lc:Nat) (hl:zbL Tryz.prog W 9 l ll lc) (k:Int) (hk:InR .i64 k) (hb:zn1 W l ll) :
    FnP Tryz.prog zbJ #[.slice l ll lc,.int .i64 k] W fun v W'=>v=.bool true/\Ext W W':=zz7 W hg hl k hk hb
end Go.Proofs.YtcceeahmcecbnaaGreatDoor
