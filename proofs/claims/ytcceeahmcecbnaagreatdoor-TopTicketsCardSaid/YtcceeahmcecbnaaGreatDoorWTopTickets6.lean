/- The framework, the program's texts and what is shown of them: part 6. -/
import Derived.Test.YtcceeahmcecbnaaGreatDoorWTopTickets5
import Derived.Lay
import Derived.Test.YtcceeahmcecbnaaGreatDoorRows
import Derived.Shelf.Strings.Builder1
import Derived.Shelf.Strings.Trim
import Derived.Shelf.Strings.BuilderF
import Derived.Shelf.Strings.BuilderK
import Derived.Shelf.Strings.Search1
import Derived.Shelf.Strings.Search2
import Derived.Shelf.Strings.Repeat
import Derived.Test.YtcceeahmcecbnaaGreatDoorProg
import Derived.Laws.IdiomStrings
import Derived.Laws.Slices
import Derived.Lib.AtoiErrMem
import Derived.Lib.CountLaws
import Derived.Lib.IndexLaws
import Derived.Lib.ItoaLen
import Derived.Lib.ParseIntBCases
import Derived.Lib.Repeat
import Derived.Lib.Split
import Derived.Shelf.Strings.SlTrimAscii
import Derived.Lib.CutLaws
set_option linter.unusedVariables false
set_option linter.unusedSimpArgs false
set_option maxRecDepth 100000
namespace Go.Proofs.YtcceeahmcecbnaaGreatDoor
open Go.Sx Go.RowKit
theorem As_k{W0 w:World}{v:Value}{c:Int}(he:EV v c)(g:GD w){t:Addr}{old:Value}(hx:Ext W0 w)(ht:W0.heap.size<=t.block)(hc:w.cell? t=some old)(hf:w.frozen? t=false) :
  FnP Tryz.prog zqa #[v,.iface 196 (.pointer (some t))] w fun u w'=>Ext W0 w'/\∃b:Bool,u=.bool b/\((c=0/\b=false)\/(c≠0/\b=true/\Go.Sx.cell w' (some t) 0=some (.int .i64 c))):=by
 refine⟨fun args w=>Tryz.call104 args w,?_⟩
 have hg:w.cell? ⟨0,0,none⟩=some (.iface 329 (.agg #[.pointer (some ⟨11,175,none⟩)])):=zsf g.eType
 have al:∀{w':World}(o:Obj),Ext W0 w'->Ext W0 (w'.alloc o):=fun o h=>Below.alloc h h.size o
 have lt:t.block<w.heap.size:=by
  rcases Nat.lt_or_ge t.block w.heap.size with h|h
  ·exact h
  ·unfold World.cell? at hc
   rw[Array.getElem?_eq_none h] at hc;cases hc
 have ca:∀{w':World}(o:Obj),t.block<w'.heap.size->w'.cell? t=some old->(w'.alloc o).cell? t=some old/\t.block<(w'.alloc o).heap.size:=fun {w'} o h1 h2=>⟨by rw[World.cell?_alloc_lt _ _ t h1];exact h2,by rw[zEo];omega⟩
 have fin:∀{w':World},Ext W0 w'->w'.cell? t=some old->Ext W0 (w'.setCell t (.int .i64 c))/\Go.Sx.cell (w'.setCell t (.int .i64 c)) (some t) 0=some (.int .i64 c):=fun {w'} h1 h2=>⟨Below.setCell h1 ht _,zhh (World.cell?_setCell_same w' t _ h2)⟩
 rcases he with⟨h0,rfl⟩|⟨h0,rfl|⟨k,rfl⟩⟩
 ·exact(as_nil _ w).mono fun e w' ⟨h1,h2⟩=>⟨_,h1,by rw[h2];exact hx,false,rfl,.inl ⟨h0,rfl⟩⟩
 ·refine(as_hit c t old w hg hc hf).mono fun e w' ⟨h1,o1,o2,o3,o4,h2⟩=>⟨_,h1,?_⟩
  obtain⟨a1,b1⟩:=ca o1 lt hc
  obtain⟨a2,b2⟩:=ca o2 b1 a1
  obtain⟨a3,b3⟩:=ca o3 b2 a2
  obtain⟨a4,b4⟩:=ca o4 b3 a3
  obtain⟨q1,q2⟩:=fin (al o4 (al o3 (al o2 (al o1 hx)))) a4
  rw[h2]
  exact⟨q1,true,rfl,.inr ⟨h0,rfl,q2⟩⟩
 ·refine(zLX k c t old w hg hc hf).mono fun e w' ⟨h1,o1,o2,o3,o4,o5,h2⟩=>⟨_,h1,?_⟩
  obtain⟨a1,b1⟩:=ca o1 lt hc
  obtain⟨a2,b2⟩:=ca o2 b1 a1
  obtain⟨a3,b3⟩:=ca o3 b2 a2
  obtain⟨a4,b4⟩:=ca o4 b3 a3
  obtain⟨a5,b5⟩:=ca o5 b4 a4
  obtain⟨q1,q2⟩:=fin (al o5 (al o4 (al o3 (al o2 (al o1 hx))))) a5
  rw[h2]
  exact⟨q1,true,rfl,.inr ⟨h0,rfl,q2⟩⟩
def zCG(c:Int)(s:ByteArray):ByteArray:=if c=0 then s else (⟨#[101,114,114,32]⟩:ByteArray)++ofL (Lib.itoa c)
abbrev zHm:=Nat->List ByteArray->DS->Int->ByteArray->DS->Prop
def doD(R:zHm)(line:ByteArray)(σ:DS)(a:ByteArray)(σ':DS):Prop:=∃c s,doW R (zav 32 line) σ c s σ'/\a=zCG c s
def zp6(R:zHm)(line:ByteArray):Prop:=∀(O:Nat->Prop)(B db:Nat)(K:Kt)(w1:World)(pb wp:Addr)(b:Nat)(wc:Nat)(t2:Value),KX O B w1 db K->GD w1->11<=B->B<=w1.heap.size->ziy ((zav 32 line).getD 0 ⟨#[]⟩)=some b->w1.cell? pb=some (.pointer (ptr db)) ->
 PV ⟨db,0,none⟩ pb b (.agg #[.int .i64 (sig b).1,.bool (sig b).2,t2]) w1->(zav 32 line).length=(sig b).1->(zav 32 line).length<=wc->((sig b).2=true->K.st.isShut=false)->zaw w1 (some wp) ((zav 32 line).map Value.string)->(∀x∈zav 32 line,x.size<4294967281) ->
 zLr Tryz.prog t2 [.slice (some wp) (zav 32 line).length wc] w1 (CR O B db w1 K fun s c σ'=>R b (zav 32 line) K.st c s σ'/\InR .i64 c)
section
variable {O:Nat->Prop} {B db:Nat} {w:World} {K:Kt}
theorem Do_kD(R:zHm)(x:KX O B w db K)(g:GD w)(hB:11<=B)(hBw:B<=w.heap.size)(line:ByteArray)(hs:line.size<4294967281)(hcall:zp6 R line) :
  FnP Tryz.prog zeX #[.pointer (ptr db),.string line] w fun v w'=>∃(a:ByteArray) (K':Kt),v=.string a/\KX O B w' db K'/\Fr (KF db K) w w'/\zwK w db K K'/\doD R line K.st a K'.st:=by
 refine zq6 (ptr db) line w _ fun w0 x0=>(do_k (fun b ws σ c s σ'=>R b ws σ c s σ'/\InR .i64 c) (x.ext x0) (g.ext x0) line hs fun w1 pb wp b wc t2 x1 a1 a2 a3 a4 a5 a6 a7 a8=>hcall O B db K w1 pb wp b wc t2 ((x.ext x0).ext x1) ((g.ext x0).ext x1) hB (Nat.le_trans hBw (Nat.le_trans x0.size x1.size)) a1 a2 a3 a4 a5 a6 a7 a8).mono fun v w1 hC=>?_
 obtain⟨s,ev,c,K',rfl,hE,hX,hF,hG,hR⟩:=zyX x0 hC
 have hRR:doW R (zav 32 line) K.st c s K'.st/\InR .i64 c:=by
  unfold doW at hR ⊢
  split at hR
  ·exact⟨hR,by rw[hR.1];exact i64 (by omega)⟩
  ·split at hR
   ·rename_i h;rw[if_pos h];exact⟨hR,by rw[hR.1];exact i64 (by omega)⟩
   ·rename_i h
    rw[if_neg h]
    split at hR
    ·rename_i h;rw[if_pos h];exact⟨hR,by rw[hR.1];exact i64 (by omega)⟩
    ·rename_i h;rw[if_neg h];exact hR
 have g1:GD w1:=g.fr hF fun b hb=>Nat.le_trans hB (x.foot hb).1
 refine⟨s,ev,rfl,fun w4 x4=>⟨by simp[Value.oneCell'],fun p w5 hn w6 x6=>zgk (d:=.pointer 24) (by kernel_rfl) (by intro m hm;cases hm) ⟨Ext.refl _,_,rfl,fun w9 x9=>?_⟩⟩⟩
 obtain⟨q,rfl,hq⟩:=zmO hn
 have hqb:q=⟨w4.heap.size,0,none⟩:=by have:=hn.at_;injection this
 have h49:Ext w4 w9:=(hn.ext.trans x6).trans x9
 have h59:Ext w5 w9:=x6.trans x9
 have h19:Ext w1 w9:=x4.trans h49
 have hfz:w9.frozen? q=false:=by
  have hb:w9.heap[w4.heap.size]?=some (.cells #[.int .i64 0] 24):=by rw[h59.block _ (by rw[hn.size];omega)];exact hn.block
  unfold World.frozen?
  rw[hqb]
  simp only[hb]
  rfl
 refine(As_k hE (g1.ext h19) h49 (by rw[hqb];exact Nat.le_refl _) ((Cst.of_ext h59).cell hq) hfz).mono fun u w10 ⟨e10,b,hu,hb⟩=>⟨b,hu,fun hbt=>?_,fun hbf w12 h12=>?_⟩
 ·rcases hb with⟨_,h⟩|⟨hc,_,hcell⟩
  ·rw[hbt] at h;cases h
  ·refine⟨c,hcell,fun w13 h13=>(zoQ c (ziF hRR.2) w13 (((g1.ext x4).ext e10).ext h13).gb).mono fun v w14 ⟨e14,hv⟩=>⟨e14,_,hv,?_,fun w16 h16=>?_⟩⟩
   ·have:=Lib.itoa_length_le c (ziF hRR.2).1 (ziF hRR.2).2
    unfold zc2
    rw[zai]
    show 4+_<=_
    omega
   ·have hx:=(x4.trans e10).trans h16
    exact⟨_,K',rfl,hX.ext hx,hF.tr (zac hx),hG,c,s,hRR.1,by unfold zCG;rw[if_neg hc]⟩
 ·rcases hb with⟨hc,_⟩|⟨_,h,_⟩
  ·have hx:=(x4.trans e10).trans h12
   exact⟨s,K',rfl,hX.ext hx,hF.tr (zac hx),hG,c,s,hRR.1,by unfold zCG;rw[if_pos hc]⟩
  ·rw[hbf] at h;cases h
end
inductive zds(R:zHm):List ByteArray->DS->List ByteArray->DS->Prop
 |nil (σ:DS):zds R [] σ [] σ
 |snoc {ls:List ByteArray} {l:ByteArray} {σ σ1 σ2:DS} {us:List ByteArray} {a:ByteArray}:zds R ls σ us σ1->doD R l σ1 a σ2->zds R (ls++[l]) σ (us++[a]) σ2
theorem zds.len{R:zHm}{ls us:List ByteArray}{σ σ':DS}(h:zds R ls σ us σ'):us.length=ls.length:=by
 induction h with
 |nil => rfl
 |snoc _ _ ih => simp[ih]
theorem zD4(R:zHm)(lines:List ByteArray)(p:Option Addr)(c:Nat)(w:World)(g:GD w)(h6:11<=w.heap.size)(hw:zaw w p (lines.map Value.string))(h63:(lines.length:Int)<=9223372036854775807)(hs:∀x∈lines,x.size<4294967281)(hcall:∀x∈lines,zp6 R x) :
  FnP Tryz.prog zcy #[.slice p lines.length c] w fun v w'=>Ext w w'/\((100<lines.length/\v=.tuple #[.slice none 0 0,.int .i64 2])\/(lines.length<=100/\∃(us:List ByteArray) (σ:DS) (q:Option Addr) (d:Nat),v=.tuple #[.slice q lines.length d,.int .i64 0]/\zds R lines (.shut []) us σ/\Own w.heap.size w' zas 1 q lines.length d (us.map Value.string))):=by
 refine zxj p lines.length c w _ ⟨fun h w0 h0=>⟨h0,.inl ⟨by omega,rfl⟩⟩,fun hle w0 h0=>(zEU w0).mono fun v w1 ⟨e1,db,hv,x1⟩=>⟨e1,ptr db,hv,?_⟩⟩
 have hx1:=h0.trans e1
 refine⟨fun q n d k w6=>Ext w0 w6/\0<=k/\k<=lines.length/\n=k/\∃(us:List ByteArray) (K:Kt),zds R (lines.take k.toNat) (.shut []) us K.st/\Own w0.heap.size w6 zas 1 q n d (us.map Value.string)/\KX (fun b=>b<w0.heap.size\/∃a,q=some a/\a.block=b) w0.heap.size w6 db K,fun _ _ _ k _=>(lines.length-k).toNat,⟨e1,by omega,by omega,by simp,[],_,zds.nil _,Own.nil,x1.go (S:=fun _=>False) (Fr.refl _ _) (fun _ h=>h.elim) fun b hb=>?_⟩,?_⟩
 ·rcases hb with hb|⟨a,ha,_⟩
  ·exact .inl hb
  ·cases ha
 rintro q n d k w6 ⟨x6,hk0,hk1,hnk,us,K,hp,oA,hX⟩
 have hal:=hp.len
 rw[List.length_take] at hal
 refine⟨fun hlt=>?_,fun hge w7 h7=>?_⟩
 ·obtain⟨l,hl⟩:∃l,lines[k.toNat]?=some l:=⟨_,List.getElem?_eq_getElem (by omega)⟩
  have hm:=List.mem_of_getElem? hl
  have hcell:Go.Sx.cell w6 (pIdx p k 1) 0=some (.string l):=by
   rw[zae]
   refine(hw.ext (h0.trans x6)) _ _ ?_
   simp[hl]
  refine⟨fun hq=>zal hcell (zah.2 hq),hk0,hlt,l,hcell,fun w8 x8=>?_⟩
  have hsz:w0.heap.size<=w8.heap.size:=(x6.trans x8).size
  refine(Do_kD R (hX.ext x8) (g.ext ((h0.trans x6).trans x8)) (Nat.le_trans h6 h0.size) hsz l (hs l hm) (hcall l hm)).mono fun v w9 ⟨a,K',hv,hX',hF,hG,hD⟩=>⟨a,hv,?_⟩
  have o9:Own w0.heap.size w9 zas 1 q n d (us.map Value.string):=(oA.ext x8).fr hF fun b hb hk=>(hX.ext x8).oft (.inr ⟨b,hb,rfl⟩) hk
  have e9:Ext w0 w9:=(hX.ext x8).keep (x6.trans x8) (Nat.le_refl _) hF
  refine push (v:=.string a) za9 (by omega) o9 e9.size rfl (by intro u hu;simp[Value.cells] at hu;subst hu;rfl) (by omega) (by omega) (by omega) fun q' d' w' o' g' np=>⟨i64 (by omega),⟨g'.ext e9 o9,by omega,by omega,by omega,us++[a],K',?_,?_,?_⟩,by simp only[];omega⟩
  ·rw[show(k+1).toNat=k.toNat+1 by omega,List.take_add_one,hl]
   exact zds.snoc hp hD
  ·simpa[Value.cells] using o'
  ·refine hX'.go (zaT (S:=fun b=>∃a,q=some a/\a.block=b) g' fun a ha=>⟨a,ha,rfl⟩) (fun b hb=>.inr hb) fun b hb=>?_
   rcases hb with hb|⟨a',ha',rfl⟩
   ·exact .inl (.inl hb)
   ·have hlt':=(o'.lt a' ha').2
    rcases g'.new with hn|hn
    ·left;right
     subst ha'
     cases q with
     |none => simp[blk] at hn
     |some z => simp[blk] at hn;exact⟨z,rfl,hn.symm⟩
    ·exact .inr ⟨hn a' ha',hlt'⟩
 ·have hk:k=lines.length:=by omega
  subst hk
  have htake:lines.take ((lines.length:Int)).toNat=lines:=by simp
  rw[htake] at hp
  have hn:n=lines.length:=by omega
  subst hn
  exact⟨(h0.trans x6).trans h7,.inr ⟨by omega,us,K.st,q,d,rfl,hp,(oA.ext h7).weak h0.size⟩⟩
abbrev zHl:=List ByteArray->DS->Int->ByteArray->DS->Prop
def zr4(N Fr_:zHl):zHm
 |3,ws,σ,c,s,σ' => zzl (ws.getD 1 ⟨#[]⟩) (ws.getD 2 ⟨#[]⟩) (ws.getD 3 ⟨#[]⟩) σ c s σ'
 |7,_,σ,c,s,σ' => zzR σ c s σ'
 |11,ws,σ,c,s,σ' => N ws σ c s σ'
 |15,ws,σ,c,s,σ' => zkf (zpq ws 1) σ c s σ'
 |22,ws,σ,c,s,σ' => zsN zvq (ws.getD 1 ⟨#[]⟩) σ s c σ'
 |26,_,σ,c,s,σ' => zzU σ c s σ'
 |33,ws,σ,c,s,σ' => zsN (zyC true) (ws.getD 1 ⟨#[]⟩) σ s c σ'
 |40,ws,σ,c,s,σ' => zsN (zyC false) (ws.getD 1 ⟨#[]⟩) σ s c σ'
 |47,ws,σ,c,s,σ' => zsN zIi (ws.getD 1 ⟨#[]⟩) σ s c σ'
 |51,ws,σ,c,s,σ' => zGL (ws.getD 1 ⟨#[]⟩) σ c s σ'
 |55,ws,σ,c,s,σ' => Fr_ ws σ c s σ'
 |_,_,_,_,_,_ => False
def zaD(c:Int):Prop:=0<=c/\c<=10
theorem zaD.inR{c:Int}(h:zaD c):InR .i64 c:=i64 (by unfold zaD at h;omega)
theorem zn1{s:ByteArray}{n c:Int}(h:zJq s n c):zaD c:=by rcases h with⟨h,_⟩|⟨h,_⟩<;>(unfold zaD;omega)
theorem ztT{F:Fm}{id e:Int}(h:zvQ F id e):zaD e:=by rcases h with⟨_,h⟩|⟨_,h⟩<;>(unfold zaD;omega)
theorem zzZ{s:ByteArray}{a:Nd}{e:Int}(h:zDl s a e):zaD e:=by
 unfold zaD
 by_cases h0:e=0
 ·omega
 ·by_cases h4:e=4
  ·omega
  ·have:=h.2.2.2.1 h0 h4;omega
theorem zwM:∀(l:List Lb)(seen:List ByteArray),zaD (lbE seen l)
 |[],seen => by unfold lbE zaD;omega
 |x::r,seen => by
  rw[lbE]
  split
  ·split
   ·unfold zaD;omega
   ·exact zwM r _
  ·unfold zaD;omega
theorem zIX(seen:List ByteArray)(h:Ht):zaD (hE seen h):=by
 unfold hE
 split;· unfold zaD;omega
 split;· unfold zaD;omega
 split;· unfold zaD;omega
 split;· exact zwM _ _
 split;· unfold zaD;omega
 split;· unfold zaD;omega
 split<;>(unfold zaD;omega)
theorem zwz:∀(L:List Ht)(seen:List ByteArray),zaD (hsE seen L)
 |[],seen => by unfold hsE zaD;omega
 |x::r,seen => by
  rw[hsE]
  split
  ·exact zIX _ _
  ·exact zwz r _
theorem zy3(L:List Ht):zaD (zmx L):=by
 unfold zmx
 split
 ·unfold zaD;omega
 ·exact zwz _ _
theorem zAg{F:Fm}{n e:Int}{σ:DS}(h:zvq F n e σ):zaD e:=by rcases h with⟨h,_⟩|⟨h,_⟩<;>(unfold zaD;omega)
theorem ztU{ok:Bool}{F:Fm}{n e:Int}{σ:DS}(h:zyC ok F n e σ):zaD e:=by
 rcases h with⟨_,h,_⟩|⟨h,_⟩
 ·exact ztT h
 ·unfold zaD;omega
theorem zCM{F:Fm}{n e:Int}{σ:DS}(h:zIi F n e σ):zaD e:=by
 rcases h with⟨_,h,_⟩|⟨h,_⟩
 ·exact ztT h
 ·unfold zaD;omega
theorem ziZ{R:Fm->Int->Int->DS->Prop}(hR:∀F n e σ,R F n e σ->zaD e){word:ByteArray}{σ:DS}{s:ByteArray}{c:Int}{σ':DS}(h:zsN R word σ s c σ'):zaD c:=by
 obtain⟨n,c1,hn,⟨_,rfl,_⟩|⟨_,_,h⟩⟩:=h
 ·exact zn1 hn
 ·unfold zNh at h
  split at h
  ·unfold zaD;omega
  ·exact hR _ _ _ _ h
theorem zzm{a b c0:ByteArray}{σ:DS}{c:Int}{s:ByteArray}{σ':DS}(h:zzl a b c0 σ c s σ'):zaD c:=by
 obtain⟨nd,e,hr,⟨_,rfl,_⟩|⟨_,h⟩⟩:=h
 ·exact zzZ hr
 ·split at h
  ·unfold zaD;omega
  ·split at h
   ·unfold zaD;omega
   ·rw[h.1];exact zy3 _
theorem zzS{σ:DS}{c:Int}{s:ByteArray}{σ':DS}(h:zzR σ c s σ'):zaD c:=by
 unfold zzR at h
 split at h<;>(unfold zaD;omega)
theorem zzV{σ:DS}{c:Int}{s:ByteArray}{σ':DS}(h:zzU σ c s σ'):zaD c:=by
 unfold zzU at h
 split at h
 ·exact h.elim
 ·unfold zaD;omega
theorem zz8{word:ByteArray}{σ:DS}{c:Int}{s:ByteArray}{σ':DS}(h:zGL word σ c s σ'):zaD c:=by
 obtain⟨_,n,c1,hn,⟨_,rfl⟩|⟨_,h⟩⟩:=h
 ·exact zn1 hn
 ·split at h
  ·unfold zaD;omega
  ·rcases h with⟨_,h,_⟩|⟨_,h⟩<;>(unfold zaD;omega)
theorem zvo{t:ByteArray}{σ:DS}{c:Int}{s:ByteArray}{σ':DS}(h:zkf t σ c s σ'):zaD c:=by
 unfold zkf at h
 split at h
 ·exact h.elim
 ·obtain⟨e,j,hr,⟨h0,rfl,_⟩|⟨h0,hS,_⟩⟩:=h
  ·unfold zaD
   obtain⟨r1,r2,_⟩:=hr
   by_cases hz:3000<t.size
   ·have:=r1 hz;omega
   ·have:=r2 (by omega);omega
  ·have hj:=zjT.2 (hr.2.2.1 h0).ok
   unfold zaD
   rcases hS with⟨h1,_⟩|⟨_,⟨_,h⟩|⟨_,⟨_,h⟩|⟨_,⟨_,h⟩|⟨_,h⟩⟩⟩⟩<;>omega
theorem zyP{a b c d e f:Value}(h:Value.agg #[a,b,c]=.agg #[d,e,f]):c=f:=by
 have:=congrArg Value.cells h
 simp[Value.cells] at this
 exact this.2.2
theorem znI(N Fr_:zHl)(line:ByteArray)(h11:ziy ((zav 32 line).getD 0 ⟨#[]⟩)=some 11->False)(h55:ziy ((zav 32 line).getD 0 ⟨#[]⟩)=some 55->False):zp6 (zr4 N Fr_) line:=by
 intro O B db K w1 pb wp b wc t2 x g hB hBw hcm hpb hpv hlen hcap hsh hw hszs
 generalize zav 32 line=ws at *
 have hb:b=3\/b=7\/b=11\/b=15\/b=22\/b=26\/b=33\/b=40\/b=47\/b=51\/b=55:=by
  unfold ziy at hcm
  obtain⟨e,he,rfl⟩:=Option.map_eq_some_iff.1 hcm
  have:=List.mem_of_find?_eq_some he
  simp only[KL,List.mem_cons,List.not_mem_nil,or_false] at this
  rcases this with rfl|rfl|rfl|rfl|rfl|rfl|rfl|rfl|rfl|rfl|rfl<;>simp
 have hsz1:(ws.getD 1 ⟨#[]⟩).size<=281474976710656:=by
  by_cases h1:1<ws.length
  ·have:=hszs _ (zat ws ⟨#[]⟩ h1);omega
  ·rw[List.getD_eq_getElem?_getD,List.getElem?_eq_none (by omega)]
   exact Nat.zero_le _
 have hszs':∀y∈ws,y.size<=4294967281:=fun y hy=>by have:=hszs y hy;omega
 have opn:(sig b).2=true->∃fb P F,K.farm=some (fb,P,F):=fun h=>by
  rcases K.cases with hK|h'
  ·have:=hsh h;rw[Kt.st_shut hK] at this;cases this
  ·exact h'
 have meth:∀{F:FuncId}{Rr:ByteArray->Int->DS->Prop},(∃f bd cap,(Value.agg #[.int .i64 (sig b).1,.bool (sig b).2,t2])=.agg #[.int .i64 (sig b).1,.bool (sig b).2,.func f bd cap]/\zbD ⟨db,0,none⟩ F (.func f bd cap)) ->
   FnP Tryz.prog F #[.pointer (ptr db),.slice (some wp) ws.length wc] w1 (CR O B db w1 K Rr)->(∀s c σ,Rr s c σ->zr4 N Fr_ b ws K.st c s σ/\InR .i64 c) ->
   zLr Tryz.prog t2 [.slice (some wp) ws.length wc] w1 (CR O B db w1 K fun s c σ'=>zr4 N Fr_ b ws K.st c s σ'/\InR .i64 c):=fun {F Rr} h1 h2 h3=>by
  obtain⟨f,bd,cap,e1,e2⟩:=h1
  have e3:=zyP e1
  unfold zbD at e2
  rw[<-e3] at e2
  exact⟨F,_,_,e2,h2.mono fun v w' h=>h.mono h3⟩
 have clo:∀{Rr:ByteArray->Int->DS->Prop},(∃f' cap,t2=.func (.func f') #[] cap/\FnP Tryz.prog f' (#[.slice (some wp) ws.length wc]++cap) w1 (CR O B db w1 K Rr))->(∀s c σ,Rr s c σ->zr4 N Fr_ b ws K.st c s σ/\InR .i64 c) ->
   zLr Tryz.prog t2 [.slice (some wp) ws.length wc] w1 (CR O B db w1 K fun s c σ'=>zr4 N Fr_ b ws K.st c s σ'/\InR .i64 c):=fun {Rr} h1 h3=>by
  obtain⟨f',cap,e1,e2⟩:=h1
  exact⟨f',#[],cap,e1,e2.mono fun v w' h=>h.mono h3⟩
 have cmd:∀{n:Int}{fl:Bool}{R:Value->World->Prop},zet n fl R (.agg #[.int .i64 (sig b).1,.bool (sig b).2,t2]) w1->R t2 w1:=fun {n fl R} h=>by
  obtain⟨f,bd,cap,e1,e2⟩:=h
  have e3:=zyP e1
  rw[e3];exact e2
 have pbc:Go.Sx.cell w1 (some pb) 0=some (.pointer (ptr db)):=zhh hpb
 rcases hb with rfl|rfl|rfl|rfl|rfl|rfl|rfl|rfl|rfl|rfl|rfl
 ·have e2:zbD ⟨db,0,none⟩ 208 t2:=cmd (show zet 4 false (fun f _=>zbD ⟨db,0,none⟩ 208 f) _ w1 from hpv)
  exact⟨208,_,_,e2,(host_c x g hBw (some wp) wc ws hlen hszs hw).mono fun v w' h=>h.mono fun s c σ q=>⟨q,(zzm q).inR⟩⟩
 ·have e2:zbD ⟨db,0,none⟩ 209 t2:=cmd (show zet 1 false (fun f _=>zbD ⟨db,0,none⟩ 209 f) _ w1 from hpv)
  exact⟨209,_,_,e2,(open_c x hBw (some wp) ws.length wc).mono fun v w' h=>h.mono fun s c σ q=>⟨q,(zzS q).inR⟩⟩
 ·exact(h11 hcm).elim
 ·have e2:zbD ⟨db,0,none⟩ 211 t2:=cmd (show zet 6 true (fun f _=>zbD ⟨db,0,none⟩ 211 f) _ w1 from hpv)
  obtain⟨fb,P,F,hK⟩:=opn rfl
  have hl:ws.length=6:=hlen
  exact⟨211,_,_,e2,(zJ4 x hK g hB hBw (some wp) wc ws (by omega) hcap (by omega) hszs' hw).mono fun v w' h=>h.mono fun s c σ q=>⟨q,(zvo q).inR⟩⟩
 ·have e2:=cmd (show zet 2 false (zdC pb 212) _ w1 from hpv)
  have hl:ws.length=2:=hlen
  exact clo (zB5 x e2 hpb g.gb zvq (some wp) wc ws (by omega) hsz1 hw fun {w2 fb P F} n e hn hK=>tick_c (x.ext e) hK (zar e pbc) n) fun s c σ q=>⟨q,(ziZ (fun _ _ _ _=>zAg) q).inR⟩
 ·have e2:zbD ⟨db,0,none⟩ 213 t2:=cmd (show zet 1 true (fun f _=>zbD ⟨db,0,none⟩ 213 f) _ w1 from hpv)
  obtain⟨fb,P,F,hK⟩:=opn rfl
  exact⟨213,_,_,e2,(plan_c x hK g hB (some wp) ws.length wc).mono fun v w' h=>h.mono fun s c σ q=>⟨q,(zzV q).inR⟩⟩
 ·have e2:=cmd (show zet 2 false (zdC pb 214) _ w1 from hpv)
  have hl:ws.length=2:=hlen
  exact clo (zB5 x e2 hpb g.gb (zyC true) (some wp) wc ws (by omega) hsz1 hw fun {w2 fb P F} n e hn hK=>zKN (x.ext e) hK (zar e pbc) n hn true (.inl ⟨rfl,rfl⟩)) fun s c σ q=>⟨q,(ziZ (fun _ _ _ _=>ztU) q).inR⟩
 ·have e2:=cmd (show zet 2 false (zdC pb 216) _ w1 from hpv)
  have hl:ws.length=2:=hlen
  exact clo (zB5 x e2 hpb g.gb (zyC false) (some wp) wc ws (by omega) hsz1 hw fun {w2 fb P F} n e hn hK=>zKN (x.ext e) hK (zar e pbc) n hn false (.inr ⟨rfl,rfl⟩)) fun s c σ q=>⟨q,(ziZ (fun _ _ _ _=>ztU) q).inR⟩
 ·have e2:=cmd (show zet 2 false (zdC pb 217) _ w1 from hpv)
  have hl:ws.length=2:=hlen
  exact clo (zB5 x e2 hpb g.gb zIi (some wp) wc ws (by omega) hsz1 hw fun {w2 fb P F} n e hn hK=>zIm (x.ext e) hK (zar e pbc) n hn) fun s c σ q=>⟨q,(ziZ (fun _ _ _ _=>zCM) q).inR⟩
 ·have e2:=cmd (show zet 2 false (zoP pb) _ w1 from hpv)
  have hl:ws.length=2:=hlen
  exact clo (show_c x e2 hpb g (some wp) wc ws (by omega) hsz1 hw) fun s c σ q=>⟨q,(zz8 q).inR⟩
 ·exact(h55 hcm).elim
def run(l t:Int):List UInt8:=if l<t then Lib.itoa l++45::Lib.itoa t else Lib.itoa l
theorem zkG(c:UInt8)(a:List UInt8)(l:List (List UInt8))(h:∀y∈a::l,c∉y):zav c (ofL (Lib.join (a::l) [c]))=(a::l).map ofL:=by
 obtain⟨h1,h2⟩:=zdV (c:=c) l a h
 unfold zav
 rw[h1,h2]
theorem zmP{s:ByteArray}{n m c e:Int}(h:zJq s n c)(g:zJq s m e):n=m/\c=e:=by
 rcases h with⟨h1,h2,h3,h4,h5⟩|⟨h1,h2,h3⟩<;>rcases g with⟨g1,g2,g3,g4,g5⟩|⟨g1,g2,g3⟩
 ·exact⟨zFu ⟨h2,h3⟩ ⟨g2,g3⟩ (zlL (h4.symm.trans g4)),by omega⟩
 ·exact absurd h5 (g3 n h2 h3 h4)
 ·exact absurd g5 (h3 m g2 g3 g4)
 ·exact⟨by omega,by omega⟩
theorem itoa0:Lib.itoa 0=[48]:=by rw[zdH (by omega)];rw[Lib.decDigits];rfl
theorem zFs:Lib.itoa 1=[49]:=by rw[zdH (by omega)];rw[Lib.decDigits];rfl
theorem itoa2:Lib.itoa 2=[50]:=by rw[zdH (by omega)];rw[Lib.decDigits];rfl
theorem numR1:zJq ⟨#[49]⟩ 1 0:=.inl ⟨rfl,by omega,by omega,by rw[zFs];rfl,by show(1:Nat)<=18;omega⟩
theorem zqT:zav 32 ⟨#[111,112,101,110]⟩=[⟨#[111,112,101,110]⟩]:=zkG 32 [111,112,101,110] [] (by decide)
theorem zuf:ziy ⟨#[111,112,101,110]⟩=some 7:=by kernel_rfl
theorem zA8{N Fr_:zHl}{L:List Ht}{a:ByteArray}{σ':DS}(h:doD (zr4 N Fr_) ⟨#[111,112,101,110]⟩ (.shut L) a σ'):a=⟨#[111,107]⟩/\σ'=.opn (zmb L zDO):=by
 obtain⟨c,s,h,rfl⟩:=h
 rw[zqT] at h
 unfold doW at h
 have e:([(⟨#[111,112,101,110]⟩:ByteArray)]).getD 0 ⟨#[]⟩=⟨#[111,112,101,110]⟩:=rfl
 rw[e,zuf] at h
 have h':zzR (.shut L) c s σ':=h
 obtain⟨rfl,rfl,h3⟩:=h'
 exact⟨rfl,h3⟩
theorem zts(N Fr_:zHl):zp6 (zr4 N Fr_) ⟨#[111,112,101,110]⟩:=znI N Fr_ _ (by rw[zqT];intro h;exact absurd (zuf.symm.trans h) (by decide)) (by rw[zqT];intro h;exact absurd (zuf.symm.trans h) (by decide))
theorem zwd{N Fr_:zHl}{line:ByteArray}{ws:List ByteArray}{σ:DS}{a:ByteArray}{σ':DS}{b:Nat}(hp:zav 32 line=ws)(hc:ziy (ws.getD 0 ⟨#[]⟩)=some b)(hl:ws.length=(sig b).1)(hf:(sig b).2=true->σ.isShut=false)(h:doD (zr4 N Fr_) line σ a σ') :
  ∃c s,zr4 N Fr_ b ws σ c s σ'/\a=zCG c s:=by
 obtain⟨c,s,h,rfl⟩:=h
 rw[hp] at h
 unfold doW at h
 rw[hc] at h
 simp only[] at h
 rw[if_neg (by omega),if_neg (fun q=>by rw[hf q.1] at q;exact absurd q.2 (by decide))] at h
 exact⟨c,s,h,rfl⟩
theorem zmq{N Fr_:zHl}{line:ByteArray}{ws:List ByteArray}{b:Nat}(hp:zav 32 line=ws)(hc:ziy (ws.getD 0 ⟨#[]⟩)=some b)(h1:b≠11)(h2:b≠55):zp6 (zr4 N Fr_) line :=
 znI N Fr_ _ (by rw[hp,hc];intro h;injection h with h;exact h1 h) (by rw[hp,hc];intro h;injection h with h;exact h2 h)
def nd1:Nd:=⟨1,0,0⟩
def nd2:Nd:=⟨2,0,0⟩
def bA:ByteArray:=⟨#[97]⟩
def hostA:Ht:=zpO bA [] nd2
def jobA:Jb:=⟨⟨#[97,110,110]⟩,0,nd1,.mk 3 zDN ⟨#[]⟩ 1 [],[]⟩
def zIN:Fm:=zmb [hostA] zDO
def zsi:Fm:=zrC zIN jobA
def zy6:Fm:=zgt zsi 0 0
def zwl:Fm:=zh2 zy6 0 true
theorem text2:zbC nd2=[99,112,117,61,50]:=by
 have h:pcs nd2 3=[[99,112,117,61,50]]:=by
  show [zhs nd2 0]=_
  unfold zhs
  show [_++61::Lib.itoa 2]=_
  rw[itoa2];rfl
 unfold zbC
 rw[if_neg (by rw[h];simp),h];rfl
theorem text1:zbC nd1=[99,112,117,61,49]:=by
 have h:pcs nd1 3=[[99,112,117,61,49]]:=by
  show [zhs nd1 0]=_
  unfold zhs
  show [_++61::Lib.itoa 1]=_
  rw[zFs];rfl
 unfold zbC
 rw[if_neg (by rw[h];simp),h];rfl
theorem okn1:okN nd1:=by unfold okN nd1;decide
theorem okn2:okN nd2:=by unfold okN nd2;decide
def wHost:List ByteArray:=[⟨#[104,111,115,116]⟩,⟨#[97]⟩,⟨#[99,112,117,61,50]⟩,⟨#[45]⟩]
theorem zwP:zav 32 ⟨#[104,111,115,116,32,97,32,99,112,117,61,50,32,45]⟩=wHost:=zkG 32 [104,111,115,116] [[97],[99,112,117,61,50],[45]] (by decide)
theorem zA1:ziy (wHost.getD 0 ⟨#[]⟩)=some 3:=by kernel_rfl
def zOn:List ByteArray:=[⟨#[115,117,98,109,105,116]⟩,⟨#[97,110,110]⟩,⟨#[48]⟩,⟨#[99,112,117,61,49]⟩,⟨#[45]⟩,⟨#[99,112,117,62,61,49]⟩]
theorem zBG:zav 32 ⟨#[115,117,98,109,105,116,32,97,110,110,32,48,32,99,112,117,61,49,32,45,32,99,112,117,62,61,49]⟩=zOn:=zkG 32 [115,117,98,109,105,116] [[97,110,110],[48],[99,112,117,61,49],[45],[99,112,117,62,61,49]] (by decide)
theorem zEL:ziy (zOn.getD 0 ⟨#[]⟩)=some 15:=by kernel_rfl
def wPlan:List ByteArray:=[⟨#[112,108,97,110]⟩]
theorem zwQ:zav 32 ⟨#[112,108,97,110]⟩=wPlan:=zkG 32 [112,108,97,110] [] (by decide)
theorem zA2:ziy (wPlan.getD 0 ⟨#[]⟩)=some 26:=by kernel_rfl
def wGood:List ByteArray:=[⟨#[103,111,111,100]⟩,⟨#[49]⟩]
theorem zwO:zav 32 ⟨#[103,111,111,100,32,49]⟩=wGood:=zkG 32 [103,111,111,100] [[49]] (by decide)
theorem zA0:ziy (wGood.getD 0 ⟨#[]⟩)=some 33:=by kernel_rfl
def wShow:List ByteArray:=[⟨#[115,104,111,119]⟩,⟨#[49]⟩]
theorem zwR:zav 32 ⟨#[115,104,111,119,32,49]⟩=wShow:=zkG 32 [115,104,111,119] [[49]] (by decide)
theorem zA3:ziy (wShow.getD 0 ⟨#[]⟩)=some 51:=by kernel_rfl
section
variable {N Fr_:zHl} {a:ByteArray} {σ':DS}
theorem zMm(h:doD (zr4 N Fr_) ⟨#[104,111,115,116,32,97,32,99,112,117,61,50,32,45]⟩ (.shut []) a σ'):a=⟨#[111,107]⟩/\σ'=.shut [hostA]:=by
 obtain⟨c,s,hq,rfl⟩:=zwd zwP zA1 rfl (fun h=>by cases h) h
 have h':zzl ⟨#[97]⟩ ⟨#[99,112,117,61,50]⟩ ⟨#[45]⟩ (.shut []) c s σ':=hq
 obtain⟨nd,e,hr,h'⟩:=h'
 obtain⟨q1,q2⟩:=(hr.2.2.1 nd2 okn2.pos (by rw[text2];rfl)).1 okn2
 subst q1;subst q2
 rcases h' with⟨h,_⟩|⟨_,h'⟩
 ·exact absurd rfl h
 have hl:zHD ⟨#[45]⟩=some []:=by unfold zHD;rw[if_pos rfl]
 rw[hl] at h'
 have h2:c=zmx ([]++[zpO ⟨#[97]⟩ [] nd2])/\((c≠0/\σ'=.shut [])\/(c=0/\s=⟨#[111,107]⟩/\σ'=.shut ([]++[zpO ⟨#[97]⟩ [] nd2]))):=h'
 have hz:zmx ([]++[zpO ⟨#[97]⟩ [] nd2])=0:=by kernel_rfl
 obtain⟨hc,h3⟩:=h2
 rw[hz] at hc
 rcases h3 with⟨h,_⟩|⟨_,h4,h5⟩
 ·exact absurd hc h
 ·rw[hc,h4];exact⟨rfl,h5⟩
theorem zAS:txt (.mk 3 zDN ⟨#[]⟩ 1 [])=[99,112,117,62,61,49]:=by
 unfold txt
 simp[zFs,zDN]
theorem zFw:okJ jobA:=⟨by kernel_rfl,by show -1000<=(0:Int)/\(0:Int)<=1000;omega,okn1,by kernel_rfl,by show(0:Nat)<=8;omega,by show upA 0 [];trivial⟩
theorem zFx:ofL (jtx jobA)=zpq zOn 1:=by
 unfold jtx jps
 show ofL (Lib.join [[97,110,110],Lib.itoa 0,zbC nd1,[45],txt (.mk 3 zDN ⟨#[]⟩ 1 [])] [32])=_
 rw[itoa0,text1,zAS];rfl
theorem do_sub(h:doD (zr4 N Fr_) ⟨#[115,117,98,109,105,116,32,97,110,110,32,48,32,99,112,117,61,49,32,45,32,99,112,117,62,61,49]⟩ (.opn zIN) a σ'):a=⟨#[49]⟩/\σ'=.opn zsi:=by
 obtain⟨c,s,hq,rfl⟩:=zwd zBG zEL rfl (fun h=>rfl) h
 have h':zkf (zpq zOn 1) (.opn zIN) c s σ':=hq
 obtain⟨e,j,hr,h'⟩:=h'
 have hJ:JT (zpq zOn 1) jobA:=⟨zFw,by show nod (.mk 3 zDN ⟨#[]⟩ 1 [])<=_;unfold nod zn0;omega,zFx.symm,by show(txt (.mk 3 zDN ⟨#[]⟩ 1 [])).length<=_;rw[zAS];decide⟩
 have hsz:(zpq zOn 1).size<=3000:=by show(20:Nat)<=3000;omega
 obtain⟨rfl,rfl⟩:=hr.2.2.2 jobA hJ hsz
 rcases h' with⟨h,_⟩|⟨_,hS,h'⟩
 ·exact absurd rfl h
 have hc:c=0:=by
  rcases hS with⟨h,_⟩|⟨_,⟨h,_⟩|⟨_,⟨⟨y,hy,_⟩,_⟩|⟨_,⟨⟨y,hy,_⟩,_⟩|⟨_,h⟩⟩⟩⟩
  ·exact absurd (zjT.2 zFw) h
  ·exact absurd h (by decide)
  ·cases hy
  ·cases hy
  ·exact h
 rcases h' with⟨h,_⟩|⟨_,h4,h5⟩
 ·exact absurd hc h
 ·have:(((zIN.jobs.length:Nat):Int)+1)=1:=rfl
  rw[hc,h4,this,zFs];exact⟨rfl,h5⟩
theorem plan1:zdy zsi zy6 [(1,0)]:=by
 have hr:rdy zsi=[1]:=by kernel_rfl
 refine⟨[1],⟨by rw[hr],by simp⟩,?_⟩
 refine zr2.run (k:=0) ?_ (zr2.nil _)
 have hf:zcf zsi.hosts (zad zsi ((1:Int)-1).toNat).job.ask (zad zsi ((1:Int)-1).toNat).job.nd zsi.hosts.length=[0]:=by kernel_rfl
 unfold zgI
 rw[hf]
 refine⟨by simp,fun j hj=>?_⟩
 simp at hj;subst hj
 exact⟨of_decide_eq_true (by kernel_rfl),fun h=>by omega⟩
theorem zMn(h:doD (zr4 N Fr_) ⟨#[112,108,97,110]⟩ (.opn zsi) a σ'):a=⟨#[49,64,97]⟩/\σ'=.opn zy6:=by
 obtain⟨c,s,hq,rfl⟩:=zwd zwQ zA2 rfl (fun h=>rfl) h
 have h':zzU (.opn zsi) c s σ':=hq
 obtain⟨rfl,G,outs,hp,rfl,rfl⟩:=h'
 obtain⟨rfl,rfl⟩:=zlT hp plan1
 refine⟨?_,rfl⟩
 unfold zCG zGT zjo
 rw[if_pos rfl]
 show ofL (Lib.join [Lib.itoa 1++64::[97]] [32])=_
 rw[zFs];rfl
theorem zMl(h:doD (zr4 N Fr_) ⟨#[103,111,111,100,32,49]⟩ (.opn zy6) a σ'):a=⟨#[111,107]⟩/\σ'=.opn zwl:=by
 obtain⟨c,s,hq,rfl⟩:=zwd zwO zA0 rfl (fun h=>by cases h) h
 have h':zsN (zyC true) ⟨#[49]⟩ (.opn zy6) s c σ':=hq
 obtain⟨n,c1,hn,h'⟩:=h'
 obtain⟨rfl,rfl⟩:=zmP hn numR1
 rcases h' with⟨h,_⟩|⟨_,rfl,h'⟩
 ·exact absurd rfl h
 have h2:zyC true zy6 1 c σ':=h'
 have hcr:zEE zy6 1:=⟨⟨by omega,by show(1:Int)<=((1:Nat):Int);omega⟩,by kernel_rfl⟩
 rcases h2 with⟨_,_,h,_⟩|⟨h3,_,h4⟩
 ·exact absurd hcr h
 ·rw[h3];exact⟨rfl,h4⟩
theorem zMo(h:doD (zr4 N Fr_) ⟨#[115,104,111,119,32,49]⟩ (.opn zwl) a σ'):a=⟨#[100,111,110,101]⟩:=by
 obtain⟨c,s,hq,rfl⟩:=zwd zwR zA3 rfl (fun h=>by cases h) h
 have h':zGL ⟨#[49]⟩ (.opn zwl) c s σ':=hq
 obtain⟨_,n,c1,hn,h'⟩:=h'
 obtain⟨rfl,rfl⟩:=zmP hn numR1
 rcases h' with⟨h,_⟩|⟨_,h'⟩
 ·exact absurd rfl h
 have h2:(inJ zwl 1/\c=0/\s=zx6.getD (zad zwl ((1:Int)-1).toNat).what.toNat ⟨#[]⟩)\/(¬inJ zwl 1/\c=5):=h'
 have hin:inJ zwl 1:=⟨by omega,of_decide_eq_true (by kernel_rfl)⟩
 rcases h2 with⟨_,h3,h4⟩|⟨h,_⟩
 ·have hw:(zad zwl ((1:Int)-1).toNat).what=3:=by kernel_rfl
  rw[h3,h4,hw];rfl
 ·exact absurd hin h
end
theorem zds.inv{R:zHm}{ls:List ByteArray}{l:ByteArray}{σ σ':DS}{us:List ByteArray}(h:zds R (ls++[l]) σ us σ'):∃us' σ1 a,us=us'++[a]/\zds R ls σ us' σ1/\doD R l σ1 a σ':=by
 generalize hX:ls++[l]=X at h
 cases h with
 |nil => simp at hX
 |@snoc ls' l' _ σ1 _ us' a hp hd =>
  obtain⟨rfl,h2⟩:=List.append_inj' hX rfl
  injection h2 with h2
  subst h2
  exact⟨us',σ1,a,rfl,hp,hd⟩
theorem zds.inv0{R:zHm}{σ σ':DS}{us:List ByteArray}(h:zds R [] σ us σ'):us=[]/\σ'=σ:=by
 generalize hX:([]:List ByteArray)=X at h
 cases h with
 |nil => exact⟨rfl,rfl⟩
 |snoc => simp at hX
theorem zAD(p q:Option Addr)(c d:Nat)(A B:List ByteArray)(h63:(A.length:Int)<=9223372036854775806)(w:World)(hA:zaw w p (A.map Value.string))(hB:zaw w q (B.map Value.string)) :
  FnP Tryz.prog zaz #[.slice p A.length c,.slice q B.length d] w fun v w'=>Ext w w'/\v=.bool (decide (A=B)):=by
 refine zfy p A.length c q B.length d w _ ⟨fun hne w0 h0=>⟨h0,?_⟩,fun heq=>?_⟩
 ·rw[decide_eq_false]
  intro h;exact hne (by rw[h])
 refine⟨fun k w'=>w'=w/\0<=k/\k<=A.length/\A.take k.toNat=B.take k.toNat,fun k _=>(A.length-k).toNat,⟨rfl,by omega,by omega,by simp⟩,?_⟩
 rintro k w2 ⟨rfl,hk0,hk1,ht⟩
 refine⟨fun hlt=>?_,fun hge w3 h3=>⟨h3,?_⟩⟩
 ·obtain⟨x,hx⟩:∃x,A[k.toNat]?=some x:=⟨_,List.getElem?_eq_getElem (by omega)⟩
  obtain⟨y,hy⟩:∃y,B[k.toNat]?=some y:=⟨_,List.getElem?_eq_getElem (by omega)⟩
  have c1:Go.Sx.cell w2 (pIdx p k 1) 0=some (.string x):=by
   rw[zae];exact hA _ _ (by simp[hx])
  have c2:Go.Sx.cell w2 (pIdx q k 1) 0=some (.string y):=by
   rw[zae];exact hB _ _ (by simp[hy])
  refine⟨fun h=>zal c1 (zah.2 h),hk0,hlt,x,c1,fun h=>zal c2 (zah.2 h),hk0,by omega,y,c2,fun hne w5 h5=>⟨h5,?_⟩,fun he=>⟨i64 (by omega),⟨rfl,by omega,by omega,?_⟩,by simp only[];omega⟩⟩
  ·rw[decide_eq_false]
   intro h;rw[h,hy] at hx;injection hx with hx;exact hne hx.symm
  ·rw[show(k+1).toNat=k.toNat+1 by omega,List.take_add_one,List.take_add_one,ht,hx,hy,he]
 ·rw[decide_eq_true]
  rw[List.take_of_length_le (by omega),List.take_of_length_le (by omega)] at ht
  exact ht
def zgq:List ByteArray:=[⟨#[104,111,115,116,32,97,32,99,112,117,61,50,32,45]⟩,⟨#[111,112,101,110]⟩,⟨#[115,117,98,109,105,116,32,97,110,110,32,48,32,99,112,117,61,49,32,45,32,99,112,117,62,61,49]⟩,⟨#[112,108,97,110]⟩,⟨#[103,111,111,100,32,49]⟩,⟨#[115,104,111,119,32,49]⟩]
def zOm:List ByteArray:=[⟨#[111,107]⟩,⟨#[111,107]⟩,⟨#[49]⟩,⟨#[49,64,97]⟩,⟨#[111,107]⟩,⟨#[100,111,110,101]⟩]
theorem wPlays{N Fr_:zHl}{us:List ByteArray}{σ:DS}(h:zds (zr4 N Fr_) zgq (.shut []) us σ):us=zOm:=by
 obtain⟨u5,σ5,a6,rfl,h,d6⟩:=zds.inv (ls:=zgq.take 5) h
 obtain⟨u4,σ4,a5,rfl,h,d5⟩:=zds.inv (ls:=zgq.take 4) h
 obtain⟨u3,σ3,a4,rfl,h,d4⟩:=zds.inv (ls:=zgq.take 3) h
 obtain⟨u2,σ2,a3,rfl,h,d3⟩:=zds.inv (ls:=zgq.take 2) h
 obtain⟨u1,σ1,a2,rfl,h,d2⟩:=zds.inv (ls:=zgq.take 1) h
 obtain⟨u0,σ0,a1,rfl,h,d1⟩:=zds.inv (ls:=[]) h
 obtain⟨rfl,rfl⟩:=h.inv0
 obtain⟨rfl,rfl⟩:=zMm d1
 obtain⟨rfl,rfl⟩:=zA8 d2
 obtain⟨rfl,rfl⟩:=do_sub d3
 obtain⟨rfl,rfl⟩:=zMn d4
 obtain⟨rfl,rfl⟩:=zMl d5
 obtain rfl:=zMo d6
 rfl
theorem wCalls(N Fr_:zHl):∀x∈zgq,zp6 (zr4 N Fr_) x:=by
 intro x hx
 simp only[zgq,List.mem_cons,List.not_mem_nil,or_false] at hx
 rcases hx with rfl|rfl|rfl|rfl|rfl|rfl
 ·exact zmq zwP zA1 (by decide) (by decide)
 ·exact zts N Fr_
 ·exact zmq zBG zEL (by decide) (by decide)
 ·exact zmq zwQ zA2 (by decide) (by decide)
 ·exact zmq zwO zA0 (by decide) (by decide)
 ·exact zmq zwR zA3 (by decide) (by decide)
theorem zvw(w:World)(g:GD w)(h6:11<=w.heap.size):FnP Tryz.prog zao #[] w fun v w'=>Ext w w'/\v=.bool true:=by
 refine zj5 w _ fun w0 x0=>zce za9 (zgq.map Value.string) rfl rfl (fun u hu=>by obtain⟨x,_,rfl⟩:=List.mem_map.1 hu;rfl) (by omega) (by omega) fun w1 o1 e1=>⟨e1,_,_,_,rfl,fun w5 x5=>?_⟩
 have c1:=((o1 w0.heap.size (Nat.le_refl _)).ext x5).cells
 have hfl:((zgq.map Value.string).flatMap fun v=>v.cells.toList)=zgq.map Value.string:=rfl
 rw[hfl] at c1
 have hx:=(x0.trans e1).trans x5
 have hl:zgq.length=6:=rfl
 refine(zD4 (zr4 (fun _ _ _ _ _=>False) (fun _ _ _ _ _=>False)) zgq _ 6 w5 (g.ext hx) (Nat.le_trans h6 hx.size) c1 (by rw[hl];omega) (fun x hx=>?_) (wCalls _ _)).mono fun v w6 ⟨e6,hor⟩=>?_
 ·simp only[zgq,List.mem_cons,List.not_mem_nil,or_false] at hx
  rcases hx with rfl|rfl|rfl|rfl|rfl|rfl<;>decide
 rcases hor with⟨h,_⟩|⟨_,us,σ,q,d,hv,hp,oU⟩
 ·exact absurd h (by decide)
 obtain rfl:=wPlays hp
 refine⟨q,zgq.length,d,0,hv,fun _ w11 x11=>zce za9 (zOm.map Value.string) rfl rfl (fun u hu=>by obtain⟨x,_,rfl⟩:=List.mem_map.1 hu;rfl) (by omega) (by omega) fun w12 o12 e12=>⟨e12,_,_,_,rfl,fun w16 x16=>?_⟩,fun h=>absurd rfl h⟩
 have c12:=((o12 w11.heap.size (Nat.le_refl _)).ext x16).cells
 have hfl2:((zOm.map Value.string).flatMap fun v=>v.cells.toList)=zOm.map Value.string:=rfl
 rw[hfl2] at c12
 refine(zAD q _ d 6 zOm zOm (by show((6:Nat):Int)<=_;omega) w16 (((oU.ext x11).ext e12).ext x16).cells c12).mono fun v w17 ⟨e17,hv⟩=>⟨e17,_,hv,fun w19 x19=>⟨?_,by simp⟩⟩
 exact((((hx.trans e6).trans x11).trans e12).trans x19)
theorem zgi(p:Option Addr)(c:Nat):pCut p c 0 1=p:=by
 unfold pCut
 split
 ·rfl
 ·cases p<;>simp[add_zero]
theorem zzh{w:World}(g:GD w):11<=w.heap.size:=by
 have h:=g.gc.2 0 (by omega)
 obtain⟨a,ha,hb,_⟩:=zc7 h
 obtain rfl:=Option.some.inj ha
 exact hb
end Go.Proofs.YtcceeahmcecbnaaGreatDoor
namespace Go.Proofs.YtcceeahmcecbnaaGreatDoor
open Go.Sx Go.RowKit Go.ChangeShapes Go.WideShapes Go.ChangeAt
def zz9(ss:List ByteArray):DataW Unit:=.agg (ss.map fun s=>.lit (.string s.data.toList))
theorem zue{enc:TypeId×Value->Unit}{P:Program}{w:World}{base:Nat}{sp:Nat->Bool}{held:Bool}{fuel:Nat}{t e:TypeId}{n:Nat}{cs:List Value}{ss:List ByteArray}{p:List MemPlace}
  (ht:P.underlying t=some (.array n e)) (he:P.underlying e=some .string) (hce:P.cellsOf e=1) (hct:P.cellsOf t=n)
  (h:DataW.trod enc P w base sp held fuel t cs=some (zz9 ss,p)):cs=ss.map Value.string:=by
 cases fuel with
 |zero => simp[DataW.trod] at h
 |succ fuel =>
  simp only[DataW.trod,ht,hce,hct,Nat.mul_one] at h
  split at h
  ·rename_i hl
   obtain⟨xs,hm,hx⟩:=Option.map_eq_some_iff.1 h
   have hxs:xs.map (·.1)=ss.map fun s=>(DataW.lit (.string s.data.toList):DataW Unit):=by
    have:=congrArg Prod.fst hx
    simpa[zz9] using this
   have hxl:xs.length=n:=by simpa using Lib.mapM_length hm
   have hzl:ss.length=n:=by
    have:=congrArg List.length hxs
    simp at this
    omega
   apply List.ext_getElem?
   intro i
   by_cases hi:i<n
   ·obtain⟨b,hb,hf⟩:=Lib.mapM_at hm i i (by simp[hi])
    obtain⟨s,hc,rfl,_⟩:=DataW.trod_string he hf
    have h1:cs[i]?=some (.string s):=by
     have:=congrArg (·[0]?) hc
     simpa[List.getElem?_take,List.getElem?_drop] using this
    have h2:(xs.map (·.1))[i]?=some (DataW.lit (.string s.data.toList):DataW Unit):=by simp[hb]
    rw[hxs] at h2
    simp only[List.getElem?_map,Option.map_eq_some_iff,DataW.lit.injEq,Lit.string.injEq] at h2
    obtain⟨z',hz',he'⟩:=h2
    have:z'=s:=by
     have:=congrArg ofL he'
     rwa [za4,za4] at this
    subst this
    simp[h1,hz']
   ·rw[List.getElem?_eq_none (by omega),List.getElem?_eq_none (by simp;omega)]
  ·cases h
theorem zC7{P:Program}{W:World}{l:List (String×DataW Unit)}(h:laidMet P l W)(hp:(l.all fun x=>x.2.handleName?.isNone)=true):laidMetH P l W:=by
 have hnone:(l.filter fun x=>x.2.handleName?.isSome)=[]:=by
  rw[List.filter_eq_nil_iff]
  intro a ha hs
  have:=List.all_eq_true.1 hp a ha
  cases hh:a.2.handleName?<;>simp_all
 unfold laidMetH
 rw[hnone]
 exact h
theorem zFB{P:Program}{W:World}{l:List (String×DataW Unit)}(h:laidMet P l W){name:String}{ss:List ByteArray}
  (hm:(name,zz9 ss)∈l) {g:Nat} {t e:TypeId} {n:Nat} (hg:P.globalNamed name=some g) (hty:(P.globals[g]?).map (·.type)=some t)
  (ht:P.underlying t=some (.array n e)) (he:P.underlying e=some .string) (hce:P.cellsOf e=1) (hct:P.cellsOf t=n):zaw W (some ⟨g,0,none⟩) (ss.map Value.string):=by
 obtain⟨ps,hL,_⟩:=h
 obtain⟨g',t',cs,fuel,p,h1,h2,h3,h4⟩:=zfb hL _ hm
 obtain rfl:=Option.some.inj (hg.symm.trans h1)
 obtain rfl:=Option.some.inj (hty.symm.trans h2)
 have hcs:=zue ht he hce hct h4
 intro i v hv
 have h5:=World.var?_cell hg h3 i
 have hlen:cs[i]?=some v:=by
  have:cs.toList[i]?=some v:=by rw[hcs];exact hv
  simpa using this
 rw[hlen] at h5
 have ha:(Addr.add ⟨g,0,none⟩ i)=⟨g,i,none⟩:=by
  unfold Addr.add
  by_cases h0:i=0
  ·subst h0;rfl
  ·rw[if_neg h0];simp
 show W.cell? (Addr.add ⟨g,0,none⟩ i)=some v
 rw[ha];exact h5
theorem zxZ{P:Program}{W:World}{name:String}{zs:List Int}{k:IntKind}(h:Lib.TabIs P W name k zs){g:Nat}(hg:P.globalNamed name=some g):zaw W (some ⟨g,0,none⟩) (zs.map fun z=>Value.int k z):=by
 intro i v hv
 have h5:=World.var?_cell hg h i
 have hlen:((zs.map fun z=>Value.int k z).toArray)[i]?=some v:=by simpa using hv
 rw[hlen] at h5
 have ha:(Addr.add ⟨g,0,none⟩ i)=⟨g,i,none⟩:=by
  unfold Addr.add
  by_cases h0:i=0
  ·subst h0;rfl
  ·rw[if_neg h0];simp
 show W.cell? (Addr.add ⟨g,0,none⟩ i)=some v
 rw[ha];exact h5
def lD : List (String × DataW Unit) := [("math/bits.deBruijn32tab", Rows.laid_math_bits_deBruijn32tab), ("math/bits.deBruijn64tab", Rows.laid_math_bits_deBruijn64tab), ("internal/strconv.uint64pow10", Rows.laid_internal_strconv_uint64pow10), ("shiftbell/civil.ahead", Rows.laid_shiftbell_civil_ahead), ("unicode/utf8.acceptRanges", Rows.laid_unicode_utf8_acceptRanges), ("errors.errorType", Rows.laid_errors_errorType), ("strconv.ErrRange", Rows.laid_strconv_ErrRange), ("strconv.ErrSyntax", Rows.laid_strconv_ErrSyntax), ("shiftbell/desk.whats", Rows.laid_shiftbell_desk_whats), ("unicode/utf8.first", Rows.laid_unicode_utf8_first)]
def lD9 : List (String × DataW Unit) := [("math/bits.deBruijn32tab", Rows.laid_math_bits_deBruijn32tab), ("math/bits.deBruijn64tab", Rows.laid_math_bits_deBruijn64tab), ("internal/strconv.uint64pow10", Rows.laid_internal_strconv_uint64pow10), ("shiftbell/civil.ahead", Rows.laid_shiftbell_civil_ahead), ("unicode/utf8.acceptRanges", Rows.laid_unicode_utf8_acceptRanges), ("strconv.ErrRange", Rows.laid_strconv_ErrRange), ("strconv.ErrSyntax", Rows.laid_strconv_ErrSyntax), ("shiftbell/desk.whats", Rows.laid_shiftbell_desk_whats), ("unicode/utf8.first", Rows.laid_unicode_utf8_first)]
theorem zJc {W : World} (h : laidMetH Tryz.prog lD W) : laidMet Tryz.prog lD9 W /\ handlesMet Tryz.prog [("errors.errorType", Rows.laid_errors_errorType)] W := by
 have e1 : (lD.filter fun x => x.2.handleName?.isSome) = [("errors.errorType", Rows.laid_errors_errorType)] := by kernel_rfl
 have e2:(lD.filter fun x=>x.2.handleName?.isNone)=lD9:=by kernel_rfl
 unfold laidMetH at h
 rw[e1,e2] at h
 exact h
theorem zMB {W : World} (h : handlesMet Tryz.prog [("errors.errorType", Rows.laid_errors_errorType)] W) : Go.Sx.cell W (some ⟨0, 0, none⟩) 0 = some errT := by
 obtain⟨name,u,ty,e1,e2,e3,e4,e5⟩:=h _ (List.mem_singleton.2 rfl)
 have en:name=[101,114,114,111,114]:=(Option.some.inj e1).symm
 subst en
 have hrt : (Tryz.prog.cutTypes.find? (·.1 == "internal/reflectlite.rtype")).map (·.2) = some 329 := by kernel_rfl
 obtain rfl:=Option.some.inj (hrt.symm.trans e2)
 have hsz:Tryz.prog.types.size=439:=by kernel_rfl
 have hone:((List.range 439).filter fun t=>Tryz.prog.rowNamed t [101,114,114,111,114])=[175]:=by kernel_rfl
 have hm:ty∈(List.range 439).filter fun t=>Tryz.prog.rowNamed t [101,114,114,111,114]:=List.mem_filter.2 ⟨List.mem_range.2 (by rw[<-hsz];exact e3),e4⟩
 rw[hone] at hm
 obtain rfl:=List.mem_singleton.1 hm
 have hh:typeHandle Tryz.prog 175=.pointer (some ⟨11,175,none⟩):=by kernel_rfl
 rw[hh] at e5
 have et : Tryz.prog.globalNamed "errors.errorType" = some 0 := by kernel_rfl
 have:=World.var?_cell et e5 0
 exact zhh (this.trans (by unfold errT;rfl))
theorem laid_okD{W:World}(h:laidMetH Tryz.prog lD W)(hsp:W.ShapedOpen Tryz.prog):GD W:=by
 obtain⟨h9,hh⟩:=zJc h
 have hp:(lD9.all fun x=>x.2.handleName?.isNone)=true:=by kernel_rfl
 have h9':=zC7 h9 hp
 refine⟨gb_of h9' hsp hp (by simp[lD9]) (by simp[lD9]) (by simp[lD9]),?_,zMB hh,?_,?_⟩
 ·have hm : ("shiftbell/desk.whats", (Rows.laid_shiftbell_desk_whats : DataW Unit)) ∈ lD9 := by simp [lD9]
  exact zFB h9 (name := "shiftbell/desk.whats") (ss := zx6) (by exact hm) (g := 4) (t := (Tryz.prog.globals[4]?).elim 0 (·.type)) (e := 9) (n := 6) (by kernel_rfl) (by kernel_rfl) (by kernel_rfl) (by kernel_rfl) (by kernel_rfl) (by kernel_rfl)
 ·have hm : ("math/bits.deBruijn64tab", (Rows.laid_math_bits_deBruijn64tab : DataW Unit)) ∈ lD9 := by simp [lD9]
  have ht := zxZ (zuF h9' hp (name := "math/bits.deBruijn64tab") (k := .u8) (zs := Lib.deBruijn64tab.map Int.ofNat) (by exact hm) (g := 9) (t := (Tryz.prog.globals[9]?).elim 0 (·.type)) (e := 5) (n := 64) (by kernel_rfl) (by kernel_rfl) (by kernel_rfl) (by kernel_rfl) (by kernel_rfl) (by kernel_rfl)) (g := 9) (by kernel_rfl)
  intro i hi
  refine ht i _ ?_
  have hl:i<Lib.deBruijn64tab.length:=hi
  rw[List.getElem?_map,List.getElem?_map,List.getD_eq_getElem?_getD,List.getElem?_eq_getElem hl]
  rfl
 ·have hm : ("shiftbell/civil.ahead", (Rows.laid_shiftbell_civil_ahead : DataW Unit)) ∈ lD9 := by simp [lD9]
  have ht := zxZ (zuF h9' hp (name := "shiftbell/civil.ahead") (k := .i64) (zs := [0, 0, 31, 59, 90, 120, 151, 181, 212, 243, 273, 304, 334]) (by exact hm) (g := 10) (t := (Tryz.prog.globals[10]?).elim 0 (·.type)) (e := 3) (n := 13) (by kernel_rfl) (by kernel_rfl) (by kernel_rfl) (by kernel_rfl) (by kernel_rfl) (by kernel_rfl)) (g := 10) (by kernel_rfl)
  intro i hi
  refine ht i _ ?_
  match i,hi with
  |0,_|1,_|2,_|3,_|4,_|5,_|6,_|7,_|8,_|9,_|10,_|11,_|12,_ => rfl
noncomputable def preD (os:Os):World:=(World.holding Tryz.prog os ⟨#[],#[],[]⟩).setCell ⟨0,0,none⟩ errT
noncomputable def zGS (os:Os):World:=(preD os).layVars Tryz.prog lD9
theorem startD_os(os:Os):(zGS os).os=os:=World.layVars_os _ _ _
theorem door_D(os:Os)(args:Array Value):laidMetH Tryz.prog lD ((zGS os).forCall (fun _ _=>0) ⟨#[],args,[]⟩).memory:=by
 have e1 : (lD.filter fun x => x.2.handleName?.isSome) = [("errors.errorType", Rows.laid_errors_errorType)] := by kernel_rfl
 have e2:(lD.filter fun x=>x.2.handleName?.isNone)=lD9:=by kernel_rfl
 unfold laidMetH
 rw[e1,e2]
 refine⟨?_,?_⟩
 ·have a1:(lD9.filter fun x=>(lD9.map (·.1)).contains x.1)=lD9:=List.filter_eq_self.2 fun x hx=>List.contains_iff_mem.2 (List.mem_map.2 ⟨x,hx,rfl⟩)
  have a2:(lD9.filter fun x=>!(lD9.map (·.1)).contains x.1)=[]:=List.filter_eq_nil_iff.2 fun x hx=>by rw[List.contains_iff_mem.2 (List.mem_map.2 ⟨x,hx,rfl⟩)];simp
  have h:laidMet Tryz.prog lD9 (zGS os):=laidMet_layVars (w0:=preD os) (lD9.map (·.1)) [] (by rw[a1];rfl) (by rw[a1];kernel_rfl) (by rw[a1];kernel_rfl) (by rw[a2];exact LaidIn.none)
  exact h.of_heap (by simp[World.memory,World.forCall,Input.heap])
 ·intro x hx
  obtain rfl:=List.mem_singleton.1 hx
  exact⟨[101,114,114,111,114],329,175,rfl,by kernel_rfl,of_decide_eq_true (by kernel_rfl),by kernel_rfl,by kernel_rfl⟩
end Go.Proofs.YtcceeahmcecbnaaGreatDoor
namespace Go.Proofs.YtcceeahmcecbnaaGreatDoor
open Go.Sx Go.RowKit
abbrev zcc:FuncId:=10
abbrev zd7:FuncId:=44
abbrev zfL:FuncId:=45
abbrev zhe:FuncId:=46
abbrev zlr:FuncId:=47
abbrev zhd:FuncId:=89
abbrev zgN:FuncId:=91
abbrev zk3:FuncId:=93
abbrev zfF:FuncId:=133
abbrev zpc:FuncId:=134
abbrev zhG:FuncId:=178
abbrev zfK:FuncId:=179
abbrev zbB:FuncId:=181
abbrev zcH:FuncId:=182
abbrev zaS:FuncId:=235
abbrev zbp:FuncId:=236
def zrV(l:ByteArray)(c d e:Int)(b:World)(h:Value->World->Prop):Prop:=
 ∀i:Nat,b.heap.size<=i->∀f,Ext b f->FnP Tryz.prog za0 #[(.string l)] f fun j k=>Ext f k/\∃g,j=(.bool g)/\((g=false)->∀a,Ext b a->h (.int .i64 3) a)/\((g=true)->(((((c<0)\/(d<c))\/(e<d))\/(1099511627776<e))->∀a,Ext b a->h (.int .i64 4) a)/\(((((0<=c)/\(c<=d))/\(d<=e))/\(e<=1099511627776))->∀a,Ext b a->h (.int .i64 0) a))
theorem zrf(a:ByteArray)(b c d:Int)(e:World)(f:Value->World->Prop)(h:zrV a b c d e f):FnP Tryz.prog zhd #[(.agg #[(.string a),(.int .i64 b),(.int .i64 c),(.int .i64 d)])] e f:=
 zab (Eq.mp (by kernel_rfl:_=Runs Tryz.prog f ({N:=31}:Cfg) Tryz.f89 (Tryz.f89.body.getD .skip) [.agg [.str a,.int .i64 b,.int .i64 c,.int .i64 d]] e) h) Tryz.func89 (by kernel_rfl) (fun a w=>Tryz.call89 a w) (by kernel_rfl) (by kernel_rfl) rfl rfl
def zvL(k:Int)(e:World)(l:Value->World->Prop):Prop:=
 ∀b,Ext e b->FnP Tryz.prog zfF #[(.int .u64 k),(.int .i64 16)] b fun g h=>Ext b h/\∃a,g=(.string a)/\InR .i64 (16-(a.size:Int))/\∀c,Ext e c->FnP Tryz.prog zpc #[(.string (⟨#[48]⟩:ByteArray)),(.int .i64 (16-(a.size:Int)))] c fun i j=>Ext c j/\∃d,i=(.string d)/\zc2 d a/\∀f,Ext e f->l (.string (d++a)) f
theorem zu5(a:Int)(b:World)(c:Value->World->Prop)(h:zvL a b c):FnP Tryz.prog zgN #[(.int .u64 a)] b c:=
 zab (Eq.mp (by kernel_rfl:_=Runs Tryz.prog c ({N:=12}:Cfg) Tryz.f91 (Tryz.f91.body.getD .skip) [.sc (.int .u64 a)] b) h) Tryz.func91 (by kernel_rfl) (fun a w=>Tryz.call91 a w) (by kernel_rfl) (by kernel_rfl) rfl rfl
def ztg(P:Int)(R:ByteArray)(S T U:Int)(V:World)(F:Value->World->Prop):Prop:=
 ∀q,Ext V q->New q 104 [(.string R),(.int .i64 S),(.int .i64 T),(.int .i64 U)] fun a b=>a≠none/\∃r,cell b a 0=some (.string r)/\∃s,cell b a 1=some (.int .i64 s)/\∃t,cell b a 2=some (.int .i64 t)/\∃u,cell b a 3=some (.int .i64 u)/\∀j,Ext b j->FnP Tryz.prog zhd #[(.agg #[(.string r),(.int .i64 s),(.int .i64 t),(.int .i64 u)])] j fun H I=>Ext j I/\∃h,H=(.int .i64 h)/\((h≠0)->∀v,Ext b v->F (.tuple #[(.string (⟨#[]⟩:ByteArray)),(.int .i64 h)]) v)/\((h=0)->a≠none/\∃w,cell b (pAdd a 0) 0=some (.string w)/\a≠none/\∃x,cell b (pAdd a 1) 0=some (.int .i64 x)/\a≠none/\∃y,cell b (pAdd a 2) 0=some (.int .i64 y)/\a≠none/\∃z,cell b (pAdd a 3) 0=some (.int .i64 z)/\∀k,Ext b k->Run Tryz.prog (.buildSlice 105 3 [(0,(.int .i64 x)),(1,(.int .i64 y)),(2,(.int .i64 z))]) k fun J D=>Ext k D/\∃l i G,J=(.slice l i G)/\∃(p:ByteArray->Int->World->Prop) (E:ByteArray->Int->World->Nat),p w 0 D/\∀(d:ByteArray)(c:Int)(e:World),p d c e->(((c<(i:Int))->l≠none/\(0:Int)<=c/\(c:Int)<(i:Int)/\∃A,cell e (pIdx l c 1) 0=some (.int .i64 A)/\∀f,Ext e f->FnP Tryz.prog za1 #[(.int .i64 A),(.int .i64 10)] f fun K L=>Ext f L/\∃g,K=(.string g)/\zc2 (⟨#[46]⟩:ByteArray) g/\zc2 d ((⟨#[46]⟩:ByteArray)++g)/\InR .i64 (c+1)/\(p (d++((⟨#[46]⟩:ByteArray)++g)) (c+1) e/\E (d++((⟨#[46]⟩:ByteArray)++g)) (c+1) e<E d c e)))/\(((i:Int)<=c)->zc2 d (⟨#[46]⟩:ByteArray)/\∀m,Ext e m->FnP Tryz.prog zdT #[(.int .u64 P),(.string d)] m fun M f=>Ext m f/\∃B,M=(.int .u64 B)/\∀n,Ext e n->FnP Tryz.prog zgN #[(.int .u64 B)] n fun N O=>Ext n O/\∃o,N=(.string o)/\zc2 (d++(⟨#[46]⟩:ByteArray)) o/\∀C,Ext e C->F (.tuple #[(.string ((d++(⟨#[46]⟩:ByteArray))++o)),(.int .i64 0)]) C))
theorem zsI(a:Int)(b:ByteArray)(c d e:Int)(f:World)(g:Value->World->Prop)(h:ztg a b c d e f g):FnP Tryz.prog zd7 #[(.int .u64 a),(.agg #[(.string b),(.int .i64 c),(.int .i64 d),(.int .i64 e)])] f g:=
 zab (Eq.mp (by kernel_rfl:_=Runs Tryz.prog g ({N:=42,pub:=[3]}:Cfg) Tryz.f44 (Tryz.f44.body.getD .skip) [.sc (.int .u64 a),.agg [.str b,.int .i64 c,.int .i64 d,.int .i64 e]] f) h) Tryz.func44 (by kernel_rfl) (fun a w=>Tryz.call44 a w) (by kernel_rfl) (by kernel_rfl) rfl rfl
def zkm(g h:Int)(d:World)(i:Value->World->Prop):Prop:=
 ∀a,Ext d a->FnP Tryz.prog zcH #[(.int .u64 g),(.int .i64 h)] a fun e f=>Ext a f/\∃b,e=(.string b)/\∀c,Ext d c->i (.string b) c
theorem zj7(a b:Int)(c:World)(d:Value->World->Prop)(h:zkm a b c d):FnP Tryz.prog zfF #[(.int .u64 a),(.int .i64 b)] c d:=
 zab (Eq.mp (by kernel_rfl:_=Runs Tryz.prog d ({N:=8}:Cfg) Tryz.f133 (Tryz.f133.body.getD .skip) [.sc (.int .u64 a),.sc (.int .i64 b)] c) h) Tryz.func133 (by kernel_rfl) (fun a w=>Tryz.call133 a w) (by kernel_rfl) (by kernel_rfl) rfl rfl
def zfh(c g:Int)(d:World)(k:Value->World->Prop):Prop:=
 (((g=10)->(((c<100)->InR .i64 c/\∀b,Ext d b->FnP Tryz.prog zhG #[(.int .i64 c)] b fun f a=>Ext b a/\∃e,f=(.string e)/\∀h,Ext d h->k (.string e) h))/\((100<=c)->∀l:Nat,d.heap.size<=l->∀a,Ext d a->FnP Tryz.prog zfK #[(.int .u64 c)] a fun p q=>Ext a q/\∃m,p=(.int .i64 m)/\zxY)))/\((g≠10)->∀b,Ext d b->FnP Tryz.prog zbB #[(.slice none 0 0),(.int .u64 c),(.int .i64 g),(.bool false),(.bool false)] b fun f a=>Ext b a/\∃e n o i,f=(.tuple #[(.slice e n o),(.string i)])/\∀j,Ext a j->k (.string i) j)
theorem zfc(a b:Int)(c:World)(d:Value->World->Prop)(h:zfh a b c d):FnP Tryz.prog zcH #[(.int .u64 a),(.int .i64 b)] c d:=
 zab (Eq.mp (by kernel_rfl:_=Runs Tryz.prog d ({N:=32}:Cfg) Tryz.f182 (Tryz.f182.body.getD .skip) [.sc (.int .u64 a),.sc (.int .i64 b)] c) h) Tryz.func182 (by kernel_rfl) (fun a w=>Tryz.call182 a w) (by kernel_rfl) (by kernel_rfl) rfl rfl
def zfi(O:Option Addr)(P R:Nat)(aw a:Int)(M p:Bool)(aB:World)(q:Value->World->Prop):Prop:=
 (((((a<2)\/(a=10))\/(36<a))->∀ag,Ext aB ag->Run Tryz.prog (.makeInterface 9 (.string (⟨#[115,116,114,99,111,110,118,58,32,105,108,108,101,103,97,108,32,65,112,112,101,110,100,73,110,116,47,70,111,114,109,97,116,73,110,116,32,98,97,115,101]⟩:ByteArray))) ag fun aD L=>Ext ag L/\∃aC,aD=aC/\zxY))/\((((2<=a)/\(a≠10))/\(a<=36))->∀ag,Ext aB ag->New ag 355 [(.int .u8 0),(.int .u8 0),(.int .u8 0),(.int .u8 0),(.int .u8 0),(.int .u8 0),(.int .u8 0),(.int .u8 0),(.int .u8 0),(.int .u8 0),(.int .u8 0),(.int .u8 0),(.int .u8 0),(.int .u8 0),(.int .u8 0),(.int .u8 0),(.int .u8 0),(.int .u8 0),(.int .u8 0),(.int .u8 0),(.int .u8 0),(.int .u8 0),(.int .u8 0),(.int .u8 0),(.int .u8 0),(.int .u8 0),(.int .u8 0),(.int .u8 0),(.int .u8 0),(.int .u8 0),(.int .u8 0),(.int .u8 0),(.int .u8 0),(.int .u8 0),(.int .u8 0),(.int .u8 0),(.int .u8 0),(.int .u8 0),(.int .u8 0),(.int .u8 0),(.int .u8 0),(.int .u8 0),(.int .u8 0),(.int .u8 0),(.int .u8 0),(.int .u8 0),(.int .u8 0),(.int .u8 0),(.int .u8 0),(.int .u8 0),(.int .u8 0),(.int .u8 0),(.int .u8 0),(.int .u8 0),(.int .u8 0),(.int .u8 0),(.int .u8 0),(.int .u8 0),(.int .u8 0),(.int .u8 0),(.int .u8 0),(.int .u8 0),(.int .u8 0),(.int .u8 0),(.int .u8 0)] fun d L=>(((M=true)->∀S,Ext L S->FnP Tryz.prog zaS #[(.int .i64 a)] S fun ax ay=>Ext S ay/\∃T,ax=(.bool T)/\(((T=true)->InR .u64 a/\∀U,Ext L U->FnP Tryz.prog zbp #[(.int .u64 a)] U fun az aA=>Ext U aA/\∃t,az=(.int .i64 t)/\InR .u64 t/\InR .u64 a/\InR .u64 a/\InR .u64 (a-1)/\∃(ae:Int->Int->World->Prop) (au:Int->Int->World->Nat),ae 65 (IntKind.wrap .u64 (0-aw)) L/\∀(b:Int)(h:Int)(f:World),ae b h f->(((a<=h)->InR .i64 (b-1)/\(0:Int)<=(zan .and .u64 h (a-1))/\((zan .and .u64 h (a-1)):Int)<((⟨#[48,49,50,51,52,53,54,55,56,57,97,98,99,100,101,102,103,104,105,106,107,108,109,110,111,112,113,114,115,116,117,118,119,120,121,122]⟩:ByteArray).size:Int)/\d≠none/\(0:Int)<=(b-1)/\((b-1):Int)<65/\zak f (pIdx d (b-1) 1) [(.int .u8 (sAt (⟨#[48,49,50,51,52,53,54,55,56,57,97,98,99,100,101,102,103,104,105,106,107,108,109,110,111,112,113,114,115,116,117,118,119,120,121,122]⟩:ByteArray) (zan .and .u64 h (a-1))))] [] fun j=>0<=(t:Int)/\(ae (b-1) (zan .shr .u64 h t) j/\au (b-1) (zan .shr .u64 h t) j<au b h f)))/\((h<a)->InR .i64 (b-1)/\(0:Int)<=h/\(h:Int)<((⟨#[48,49,50,51,52,53,54,55,56,57,97,98,99,100,101,102,103,104,105,106,107,108,109,110,111,112,113,114,115,116,117,118,119,120,121,122]⟩:ByteArray).size:Int)/\d≠none/\(0:Int)<=(b-1)/\((b-1):Int)<65/\zak f (pIdx d (b-1) 1) [(.int .u8 (sAt (⟨#[48,49,50,51,52,53,54,55,56,57,97,98,99,100,101,102,103,104,105,106,107,108,109,110,111,112,113,114,115,116,117,118,119,120,121,122]⟩:ByteArray) h))] [] fun j=>(((M=true)->InR .i64 ((b-1)-1)/\d≠none/\(0:Int)<=((b-1)-1)/\(((b-1)-1):Int)<65/\zak j (pIdx d ((b-1)-1) 1) [(.int .u8 45)] [] fun n=>(((p=true)->∀k,Ext n k->Run Tryz.prog (.slice 355 (.pointer d) (some (.int .i64 ((b-1)-1))) none none) k fun V i=>∃u v w,V=(.slice u v w)/\∀g,Ext i g->Run Tryz.prog (.append #[93,93] 93 [(.slice O P R),(.slice u v w)]) g fun W r=>∃x ah ai,W=(.slice x ah ai)/\∀aj,Ext r aj->q (.tuple #[(.slice x ah ai),(.string (⟨#[]⟩:ByteArray))]) aj))/\((p=false)->∀k,Ext n k->Run Tryz.prog (.slice 355 (.pointer d) (some (.int .i64 ((b-1)-1))) none none) k fun V i=>∃u v w,V=(.slice u v w)/\∀g,Ext i g->Run Tryz.prog (.convert 93 9 (.slice u v w)) g fun W r=>Ext g r/\∃x,W=(.string x)/\∀ak,Ext i ak->q (.tuple #[(.slice none 0 0),(.string x)]) ak)))/\((M=false)->(((p=true)->∀n,Ext j n->Run Tryz.prog (.slice 355 (.pointer d) (some (.int .i64 (b-1))) none none) n fun X k=>∃y z A,X=(.slice y z A)/\∀m,Ext k m->Run Tryz.prog (.append #[93,93] 93 [(.slice O P R),(.slice y z A)]) m fun Y g=>∃B al am,Y=(.slice B al am)/\∀an,Ext g an->q (.tuple #[(.slice B al am),(.string (⟨#[]⟩:ByteArray))]) an))/\((p=false)->∀n,Ext j n->Run Tryz.prog (.slice 355 (.pointer d) (some (.int .i64 (b-1))) none none) n fun X k=>∃y z A,X=(.slice y z A)/\∀m,Ext k m->Run Tryz.prog (.convert 93 9 (.slice y z A)) m fun Y g=>Ext m g/\∃B,Y=(.string B)/\∀C,Ext k C->q (.tuple #[(.slice none 0 0),(.string B)]) C)))))/\((T=false)->InR .u64 a/\∃(af:Int->Int->World->Prop) (av:Int->Int->World->Nat),af 65 (IntKind.wrap .u64 (0-aw)) L/\∀(c:Int)(e:Int)(N:World),af c e N->(((a<=e)->InR .i64 (c-1)/\(a:Int)≠0/\InR .u64 (e.tdiv a)/\InR .u64 ((e.tdiv a)*a)/\InR .u64 (e-((e.tdiv a)*a))/\(0:Int)<=(e-((e.tdiv a)*a))/\((e-((e.tdiv a)*a)):Int)<((⟨#[48,49,50,51,52,53,54,55,56,57,97,98,99,100,101,102,103,104,105,106,107,108,109,110,111,112,113,114,115,116,117,118,119,120,121,122]⟩:ByteArray).size:Int)/\d≠none/\(0:Int)<=(c-1)/\((c-1):Int)<65/\zak N (pIdx d (c-1) 1) [(.int .u8 (sAt (⟨#[48,49,50,51,52,53,54,55,56,57,97,98,99,100,101,102,103,104,105,106,107,108,109,110,111,112,113,114,115,116,117,118,119,120,121,122]⟩:ByteArray) (e-((e.tdiv a)*a))))] [] fun s=>(af (c-1) (e.tdiv a) s/\av (c-1) (e.tdiv a) s<av c e N)))/\((e<a)->InR .i64 (c-1)/\(0:Int)<=e/\(e:Int)<((⟨#[48,49,50,51,52,53,54,55,56,57,97,98,99,100,101,102,103,104,105,106,107,108,109,110,111,112,113,114,115,116,117,118,119,120,121,122]⟩:ByteArray).size:Int)/\d≠none/\(0:Int)<=(c-1)/\((c-1):Int)<65/\zak N (pIdx d (c-1) 1) [(.int .u8 (sAt (⟨#[48,49,50,51,52,53,54,55,56,57,97,98,99,100,101,102,103,104,105,106,107,108,109,110,111,112,113,114,115,116,117,118,119,120,121,122]⟩:ByteArray) e))] [] fun s=>(((M=true)->InR .i64 ((c-1)-1)/\d≠none/\(0:Int)<=((c-1)-1)/\(((c-1)-1):Int)<65/\zak s (pIdx d ((c-1)-1) 1) [(.int .u8 45)] [] fun o=>(((p=true)->∀f,Ext o f->Run Tryz.prog (.slice 355 (.pointer d) (some (.int .i64 ((c-1)-1))) none none) f fun Z j=>∃D E F,Z=(.slice D E F)/\∀l,Ext j l->Run Tryz.prog (.append #[93,93] 93 [(.slice O P R),(.slice D E F)]) l fun aa ab=>∃G ao ap,aa=(.slice G ao ap)/\∀C,Ext ab C->q (.tuple #[(.slice G ao ap),(.string (⟨#[]⟩:ByteArray))]) C))/\((p=false)->∀f,Ext o f->Run Tryz.prog (.slice 355 (.pointer d) (some (.int .i64 ((c-1)-1))) none none) f fun Z j=>∃D E F,Z=(.slice D E F)/\∀l,Ext j l->Run Tryz.prog (.convert 93 9 (.slice D E F)) l fun aa ab=>Ext l ab/\∃G,aa=(.string G)/\∀g,Ext j g->q (.tuple #[(.slice none 0 0),(.string G)]) g)))/\((M=false)->(((p=true)->∀o,Ext s o->Run Tryz.prog (.slice 355 (.pointer d) (some (.int .i64 (c-1))) none none) o fun ac f=>∃H I J,ac=(.slice H I J)/\∀i,Ext f i->Run Tryz.prog (.append #[93,93] 93 [(.slice O P R),(.slice H I J)]) i fun ad l=>∃K aq ar,ad=(.slice K aq ar)/\∀r,Ext l r->q (.tuple #[(.slice K aq ar),(.string (⟨#[]⟩:ByteArray))]) r))/\((p=false)->∀o,Ext s o->Run Tryz.prog (.slice 355 (.pointer d) (some (.int .i64 (c-1))) none none) o fun ac f=>∃H I J,ac=(.slice H I J)/\∀i,Ext f i->Run Tryz.prog (.convert 93 9 (.slice H I J)) i fun ad l=>Ext i l/\∃K,ad=(.string K)/\∀m,Ext f m->q (.tuple #[(.slice none 0 0),(.string K)]) m))))))/\((M=false)->∀S,Ext L S->FnP Tryz.prog zaS #[(.int .i64 a)] S fun ax ay=>Ext S ay/\∃T,ax=(.bool T)/\(((T=true)->InR .u64 a/\∀U,Ext L U->FnP Tryz.prog zbp #[(.int .u64 a)] U fun az aA=>Ext U aA/\∃t,az=(.int .i64 t)/\InR .u64 t/\InR .u64 a/\InR .u64 a/\InR .u64 (a-1)/\∃(ae:Int->Int->World->Prop) (au:Int->Int->World->Nat),ae 65 aw L/\∀(b:Int)(h:Int)(f:World),ae b h f->(((a<=h)->InR .i64 (b-1)/\(0:Int)<=(zan .and .u64 h (a-1))/\((zan .and .u64 h (a-1)):Int)<((⟨#[48,49,50,51,52,53,54,55,56,57,97,98,99,100,101,102,103,104,105,106,107,108,109,110,111,112,113,114,115,116,117,118,119,120,121,122]⟩:ByteArray).size:Int)/\d≠none/\(0:Int)<=(b-1)/\((b-1):Int)<65/\zak f (pIdx d (b-1) 1) [(.int .u8 (sAt (⟨#[48,49,50,51,52,53,54,55,56,57,97,98,99,100,101,102,103,104,105,106,107,108,109,110,111,112,113,114,115,116,117,118,119,120,121,122]⟩:ByteArray) (zan .and .u64 h (a-1))))] [] fun j=>0<=(t:Int)/\(ae (b-1) (zan .shr .u64 h t) j/\au (b-1) (zan .shr .u64 h t) j<au b h f)))/\((h<a)->InR .i64 (b-1)/\(0:Int)<=h/\(h:Int)<((⟨#[48,49,50,51,52,53,54,55,56,57,97,98,99,100,101,102,103,104,105,106,107,108,109,110,111,112,113,114,115,116,117,118,119,120,121,122]⟩:ByteArray).size:Int)/\d≠none/\(0:Int)<=(b-1)/\((b-1):Int)<65/\zak f (pIdx d (b-1) 1) [(.int .u8 (sAt (⟨#[48,49,50,51,52,53,54,55,56,57,97,98,99,100,101,102,103,104,105,106,107,108,109,110,111,112,113,114,115,116,117,118,119,120,121,122]⟩:ByteArray) h))] [] fun j=>(((M=true)->InR .i64 ((b-1)-1)/\d≠none/\(0:Int)<=((b-1)-1)/\(((b-1)-1):Int)<65/\zak j (pIdx d ((b-1)-1) 1) [(.int .u8 45)] [] fun n=>(((p=true)->∀k,Ext n k->Run Tryz.prog (.slice 355 (.pointer d) (some (.int .i64 ((b-1)-1))) none none) k fun V i=>∃u v w,V=(.slice u v w)/\∀g,Ext i g->Run Tryz.prog (.append #[93,93] 93 [(.slice O P R),(.slice u v w)]) g fun W r=>∃x ah ai,W=(.slice x ah ai)/\∀aj,Ext r aj->q (.tuple #[(.slice x ah ai),(.string (⟨#[]⟩:ByteArray))]) aj))/\((p=false)->∀k,Ext n k->Run Tryz.prog (.slice 355 (.pointer d) (some (.int .i64 ((b-1)-1))) none none) k fun V i=>∃u v w,V=(.slice u v w)/\∀g,Ext i g->Run Tryz.prog (.convert 93 9 (.slice u v w)) g fun W r=>Ext g r/\∃x,W=(.string x)/\∀ak,Ext i ak->q (.tuple #[(.slice none 0 0),(.string x)]) ak)))/\((M=false)->(((p=true)->∀n,Ext j n->Run Tryz.prog (.slice 355 (.pointer d) (some (.int .i64 (b-1))) none none) n fun X k=>∃y z A,X=(.slice y z A)/\∀m,Ext k m->Run Tryz.prog (.append #[93,93] 93 [(.slice O P R),(.slice y z A)]) m fun Y g=>∃B al am,Y=(.slice B al am)/\∀an,Ext g an->q (.tuple #[(.slice B al am),(.string (⟨#[]⟩:ByteArray))]) an))/\((p=false)->∀n,Ext j n->Run Tryz.prog (.slice 355 (.pointer d) (some (.int .i64 (b-1))) none none) n fun X k=>∃y z A,X=(.slice y z A)/\∀m,Ext k m->Run Tryz.prog (.convert 93 9 (.slice y z A)) m fun Y g=>Ext m g/\∃B,Y=(.string B)/\∀C,Ext k C->q (.tuple #[(.slice none 0 0),(.string B)]) C)))))/\((T=false)->InR .u64 a/\∃(af:Int->Int->World->Prop) (av:Int->Int->World->Nat),af 65 aw L/\∀(c:Int)(e:Int)(N:World),af c e N->(((a<=e)->InR .i64 (c-1)/\(a:Int)≠0/\InR .u64 (e.tdiv a)/\InR .u64 ((e.tdiv a)*a)/\InR .u64 (e-((e.tdiv a)*a))/\(0:Int)<=(e-((e.tdiv a)*a))/\((e-((e.tdiv a)*a)):Int)<((⟨#[48,49,50,51,52,53,54,55,56,57,97,98,99,100,101,102,103,104,105,106,107,108,109,110,111,112,113,114,115,116,117,118,119,120,121,122]⟩:ByteArray).size:Int)/\d≠none/\(0:Int)<=(c-1)/\((c-1):Int)<65/\zak N (pIdx d (c-1) 1) [(.int .u8 (sAt (⟨#[48,49,50,51,52,53,54,55,56,57,97,98,99,100,101,102,103,104,105,106,107,108,109,110,111,112,113,114,115,116,117,118,119,120,121,122]⟩:ByteArray) (e-((e.tdiv a)*a))))] [] fun s=>(af (c-1) (e.tdiv a) s/\av (c-1) (e.tdiv a) s<av c e N)))/\((e<a)->InR .i64 (c-1)/\(0:Int)<=e/\(e:Int)<((⟨#[48,49,50,51,52,53,54,55,56,57,97,98,99,100,101,102,103,104,105,106,107,108,109,110,111,112,113,114,115,116,117,118,119,120,121,122]⟩:ByteArray).size:Int)/\d≠none/\(0:Int)<=(c-1)/\((c-1):Int)<65/\zak N (pIdx d (c-1) 1) [(.int .u8 (sAt (⟨#[48,49,50,51,52,53,54,55,56,57,97,98,99,100,101,102,103,104,105,106,107,108,109,110,111,112,113,114,115,116,117,118,119,120,121,122]⟩:ByteArray) e))] [] fun s=>(((M=true)->InR .i64 ((c-1)-1)/\d≠none/\(0:Int)<=((c-1)-1)/\(((c-1)-1):Int)<65/\zak s (pIdx d ((c-1)-1) 1) [(.int .u8 45)] [] fun o=>(((p=true)->∀f,Ext o f->Run Tryz.prog (.slice 355 (.pointer d) (some (.int .i64 ((c-1)-1))) none none) f fun Z j=>∃D E F,Z=(.slice D E F)/\∀l,Ext j l->Run Tryz.prog (.append #[93,93] 93 [(.slice O P R),(.slice D E F)]) l fun aa ab=>∃G ao ap,aa=(.slice G ao ap)/\∀C,Ext ab C->q (.tuple #[(.slice G ao ap),(.string (⟨#[]⟩:ByteArray))]) C))/\((p=false)->∀f,Ext o f->Run Tryz.prog (.slice 355 (.pointer d) (some (.int .i64 ((c-1)-1))) none none) f fun Z j=>∃D E F,Z=(.slice D E F)/\∀l,Ext j l->Run Tryz.prog (.convert 93 9 (.slice D E F)) l fun aa ab=>Ext l ab/\∃G,aa=(.string G)/\∀g,Ext j g->q (.tuple #[(.slice none 0 0),(.string G)]) g)))/\((M=false)->(((p=true)->∀o,Ext s o->Run Tryz.prog (.slice 355 (.pointer d) (some (.int .i64 (c-1))) none none) o fun ac f=>∃H I J,ac=(.slice H I J)/\∀i,Ext f i->Run Tryz.prog (.append #[93,93] 93 [(.slice O P R),(.slice H I J)]) i fun ad l=>∃K aq ar,ad=(.slice K aq ar)/\∀r,Ext l r->q (.tuple #[(.slice K aq ar),(.string (⟨#[]⟩:ByteArray))]) r))/\((p=false)->∀o,Ext s o->Run Tryz.prog (.slice 355 (.pointer d) (some (.int .i64 (c-1))) none none) o fun ac f=>∃H I J,ac=(.slice H I J)/\∀i,Ext f i->Run Tryz.prog (.convert 93 9 (.slice H I J)) i fun ad l=>Ext i l/\∃K,ad=(.string K)/\∀m,Ext f m->q (.tuple #[(.slice none 0 0),(.string K)]) m))))))
theorem zfd(a:Option Addr)(b c:Nat)(d e:Int)(f g:Bool)(i:World)(j:Value->World->Prop)(h:zfi a b c d e f g i j):FnP Tryz.prog zbB #[(.slice a b c),(.int .u64 d),(.int .i64 e),(.bool f),(.bool g)] i j:=
 zab (Eq.mp (by kernel_rfl:_=Runs Tryz.prog j ({N:=102,wrap:=[32],pub:=[12]}:Cfg) Tryz.f181 (Tryz.f181.body.getD .skip) [.sc (.slc a b c),.sc (.int .u64 d),.sc (.int .i64 e),.sc (.bool (.atom true f)),.sc (.bool (.atom true g))] i) h) Tryz.func181 (by kernel_rfl) (fun a w=>Tryz.call181 a w) (by kernel_rfl) (by kernel_rfl) rfl rfl
def zew(a:Int)(c:World)(d:Value->World->Prop):Prop:=
 InR .i64 (a-1)/\∀b,Ext c b->d (.bool (decide ((zan .and .i64 a (a-1))=0))) b
theorem zeu(a:Int)(b:World)(c:Value->World->Prop)(h:zew a b c):FnP Tryz.prog zaS #[(.int .i64 a)] b c:=
 zab (Eq.mp (by kernel_rfl:_=Runs Tryz.prog c ({N:=8}:Cfg) Tryz.f235 (Tryz.f235.body.getD .skip) [.sc (.int .i64 a)] b) h) Tryz.func235 (by kernel_rfl) (fun a w=>Tryz.call235 a w) (by kernel_rfl) (by kernel_rfl) rfl rfl
def zgC(g:Int)(d:World)(h:Value->World->Prop):Prop:=
 ∀a,Ext d a->FnP Tryz.prog zaB #[(.int .u64 g)] a fun e f=>Ext a f/\∃b,e=(.int .i64 b)/\∀c,Ext d c->h (.int .i64 b) c
theorem zgx(a:Int)(b:World)(c:Value->World->Prop)(h:zgC a b c):FnP Tryz.prog zbp #[(.int .u64 a)] b c:=
 zab (Eq.mp (by kernel_rfl:_=Runs Tryz.prog c ({N:=8}:Cfg) Tryz.f236 (Tryz.f236.body.getD .skip) [.sc (.int .u64 a)] b) h) Tryz.func236 (by kernel_rfl) (fun a w=>Tryz.call236 a w) (by kernel_rfl) (by kernel_rfl) rfl rfl
def ztf(ad:Int)(h:ByteArray)(o:Int)(ae:World)(i:Value->World->Prop):Prop:=
 ∀c:Nat,ae.heap.size<=c->∀r,zag [] [c] ae r->FnP Tryz.prog zaX #[(.string h),(.string (⟨#[46]⟩:ByteArray))] r fun ah e=>Ext r e/\∃f g af,ah=(.slice f g af)/\(((g:Int)=5)->f≠none)/\(((g:Int)=5)->(0:Int)<=4)/\(((g:Int)=5)->(4:Int)<(g:Int))/\(((g:Int)≠5)->∀H,zag [c] [] e H->i (.tuple #[(.agg #[(.string (⟨#[]⟩:ByteArray)),(.int .i64 0),(.int .i64 0),(.int .i64 0)]),(.int .i64 3)]) H)/\(((g:Int)=5)->∃l,cell e (pIdx f 4 1) 0=some (.string l)/\(((l.size:Int)=16)->f≠none)/\(((l.size:Int)=16)->(0:Int)<=4)/\(((l.size:Int)=16)->(4:Int)<(g:Int))/\(((l.size:Int)≠16)->∀I,zag [c] [] e I->i (.tuple #[(.agg #[(.string (⟨#[]⟩:ByteArray)),(.int .i64 0),(.int .i64 0),(.int .i64 0)]),(.int .i64 3)]) I)/\(((l.size:Int)=16)->∃J,cell e (pIdx f 4 1) 0=some (.string J)/\∀s,Ext e s->FnP Tryz.prog zk3 #[(.string J),(.string (⟨#[48,49,50,51,52,53,54,55,56,57,97,98,99,100,101,102]⟩:ByteArray))] s fun ai aj=>Ext s aj/\∃t,ai=(.string t)/\((t≠(⟨#[]⟩:ByteArray))->∀K,zag [c] [] e K->i (.tuple #[(.agg #[(.string (⟨#[]⟩:ByteArray)),(.int .i64 0),(.int .i64 0),(.int .i64 0)]),(.int .i64 3)]) K)/\((t=(⟨#[]⟩:ByteArray))->InR .i64 ((h.size:Int)-17)/\(0:Int)<=0/\(0:Int)<=((h.size:Int)-17)/\(((h.size:Int)-17):Int)<=(h.size:Int)/\f≠none/\(0:Int)<=4/\(4:Int)<(g:Int)/\∃u,cell e (pIdx f 4 1) 0=some (.string u)/\∀v,Ext e v->FnP Tryz.prog zdT #[(.int .u64 ad),(.string (h.extract (0:Int).toNat ((h.size:Int)-17).toNat))] v fun ak al=>Ext v al/\∃L,ak=(.int .u64 L)/\∀w,Ext e w->FnP Tryz.prog zgN #[(.int .u64 L)] w fun am an=>Ext w an/\∃x,am=(.string x)/\((x≠u)->∀M,zag [c] [] e M->i (.tuple #[(.agg #[(.string (⟨#[]⟩:ByteArray)),(.int .i64 0),(.int .i64 0),(.int .i64 0)]),(.int .i64 12)]) M)/\((x=u)->f≠none/\(0:Int)<=0/\(0:Int)<(g:Int)/\∃N,cell e (pIdx f 0 1) 0=some (.string N)/\∀O,zag [] [c] e O->New O 104 [(.string (⟨#[]⟩:ByteArray)),(.int .i64 0),(.int .i64 0),(.int .i64 0)] fun a ao=>zak ao a [(.string N),(.int .i64 0),(.int .i64 0),(.int .i64 0)] [c] fun ap=>a≠none/\a≠none/\a≠none/\∀y,zag [] [c] ap y->Run Tryz.prog (.buildSlice 173 3 [(0,(.pointer (pAdd a 1))),(1,(.pointer (pAdd a 2))),(2,(.pointer (pAdd a 3)))]) y fun aq ab=>Ext y ab/\∃z p ag,aq=(.slice z p ag)/\∃(G:Int->World->Prop) (ac:Int->World->Nat),G 0 ab/\∀(d:Int)(b:World),G d b->(((d<(p:Int))->z≠none/\(0:Int)<=d/\(d:Int)<(p:Int)/\∃m,cell b (pIdx z d 1) 0=some (.pointer m)/\InR .i64 (d+1)/\f≠none/\(0:Int)<=(d+1)/\((d+1):Int)<(g:Int)/\∃n,cell b (pIdx f (d+1) 1) 0=some (.string n)/\∀A,zag [] [c] b A->FnP Tryz.prog zaW #[(.string n),(.int .i64 10),(.int .i64 64)] A fun ar q=>Ext A q/\∃P R,ar=(.tuple #[(.int .i64 P),R])/\∀B,Ext q B->Run Tryz.prog (.eq .neq 175 false true R .nilIface) B fun au av=>Ext B av/\∃j,au=(.bool j)/\((j=true)->∀k,zag [c] [] q k->i (.tuple #[(.agg #[(.string (⟨#[]⟩:ByteArray)),(.int .i64 0),(.int .i64 0),(.int .i64 0)]),(.int .i64 3)]) k)/\((j=false)->m≠none/\zak q m [(.int .i64 P)] [c] fun k=>InR .i64 (d+1)/\(G (d+1) k/\ac (d+1) k<ac d b))))/\(((p:Int)<=d)->a≠none/\∃m,cell b a 0=some (.string m)/\∃n,cell b a 1=some (.int .i64 n)/\∃S,cell b a 2=some (.int .i64 S)/\∃T,cell b a 3=some (.int .i64 T)/\∀C,Ext b C->FnP Tryz.prog zd7 #[(.int .u64 ad),(.agg #[(.string m),(.int .i64 n),(.int .i64 S),(.int .i64 T)])] C fun aw ax=>Ext C ax/\∃D E,aw=(.tuple #[(.string D),(.int .i64 E)])/\(((E≠0)\/(D≠h))->∀U,zag [c] [] b U->i (.tuple #[(.agg #[(.string (⟨#[]⟩:ByteArray)),(.int .i64 0),(.int .i64 0),(.int .i64 0)]),(.int .i64 3)]) U)/\(((E=0)/\(D=h))->a≠none/\∃j,cell b (pAdd a 1) 0=some (.int .i64 j)/\((j<=o)->a≠none)/\((o<j)->∀k,zag [c] [] b k->i (.tuple #[(.agg #[(.string (⟨#[]⟩:ByteArray)),(.int .i64 0),(.int .i64 0),(.int .i64 0)]),(.int .i64 11)]) k)/\((j<=o)->∃F,cell b (pAdd a 2) 0=some (.int .i64 F)/\((F<o)->∀V,zag [c] [] b V->i (.tuple #[(.agg #[(.string (⟨#[]⟩:ByteArray)),(.int .i64 0),(.int .i64 0),(.int .i64 0)]),(.int .i64 11)]) V)/\((o<=F)->a≠none/\∃W,cell b a 0=some (.string W)/\∃X,cell b a 1=some (.int .i64 X)/\∃Y,cell b a 2=some (.int .i64 Y)/\∃Z,cell b a 3=some (.int .i64 Z)/\∀aa,zag [c] [] b aa->i (.tuple #[(.agg #[(.string W),(.int .i64 X),(.int .i64 Y),(.int .i64 Z)]),(.int .i64 0)]) aa))))))))
theorem zsH(a:Int)(b:ByteArray)(c:Int)(d:World)(e:Value->World->Prop)(h:ztf a b c d e):FnP Tryz.prog zfL #[(.int .u64 a),(.string b),(.int .i64 c)] d e:=
 zab (Eq.mp (by kernel_rfl:_=Runs Tryz.prog e ({N:=109,pub:=[10]}:Cfg) Tryz.f45 (Tryz.f45.body.getD .skip) [.sc (.int .u64 a),.sc (.str b),.sc (.int .i64 c)] d) h) Tryz.func45 (by kernel_rfl) (fun a w=>Tryz.call45 a w) (by kernel_rfl) (by kernel_rfl) rfl rfl
def zrW(n:Int)(t:ByteArray)(u c:Int)(b:World)(f:Value->World->Prop):Prop:=
 ∀g,Ext b g->FnP Tryz.prog zfL #[(.int .u64 n),(.string t),(.int .i64 u)] g fun p q=>Ext g q/\∃i j h d e,p=(.tuple #[(.agg #[(.string i),(.int .i64 j),(.int .i64 h),(.int .i64 d)]),(.int .i64 e)])/\∀o:Nat,b.heap.size<=o->((e≠0)->∀a,Ext b a->f (.tuple #[(.string (⟨#[]⟩:ByteArray)),(.int .i64 e)]) a)/\((e=0)->((d<c)->∀a,Ext b a->f (.tuple #[(.string (⟨#[]⟩:ByteArray)),(.int .i64 10)]) a)/\((c<=d)->((c<h)->∀a,Ext b a->f (.tuple #[(.string (⟨#[]⟩:ByteArray)),(.int .i64 1)]) a)/\((h<=c)->∀a,Ext b a->FnP Tryz.prog zd7 #[(.int .u64 n),(.agg #[(.string i),(.int .i64 j),(.int .i64 c),(.int .i64 d)])] a fun r s=>Ext a s/\∃k l,r=(.tuple #[(.string k),(.int .i64 l)])/\∀m,Ext b m->f (.tuple #[(.string k),(.int .i64 l)]) m)))
theorem zrg(a:Int)(b:ByteArray)(c d:Int)(e:World)(f:Value->World->Prop)(h:zrW a b c d e f):FnP Tryz.prog zhe #[(.int .u64 a),(.string b),(.int .i64 c),(.int .i64 d)] e f:=
 zab (Eq.mp (by kernel_rfl:_=Runs Tryz.prog f ({N:=40}:Cfg) Tryz.f46 (Tryz.f46.body.getD .skip) [.sc (.int .u64 a),.sc (.str b),.sc (.int .i64 c),.sc (.int .i64 d)] e) h) Tryz.func46 (by kernel_rfl) (fun a w=>Tryz.call46 a w) (by kernel_rfl) (by kernel_rfl) rfl rfl
def zgG(key:Int)(t_0:ByteArray)(t_1:Int)(t_2:Int)(t_3:Int)(by_v:Option Addr)(by_vl:Nat)(by_vc:Nat)(w:World)(Q:Value->World->Prop):Prop :=
 ∀b0:Nat,w.heap.size<=b0->∀w1,Ext w w1 ->
 FnP Tryz.prog zd7 #[(.int .u64 key),(.agg #[(.string t_0),(.int .i64 t_1),(.int .i64 t_2),(.int .i64 t_3)])] w1 fun v2 w2 =>
  Ext w1 w2 /\
  ∃t3:ByteArray,∃t4:Int,v2=(.tuple #[(.string t3),(.int .i64 t4)]) /\
  ∀w5,Ext w w5 ->
  FnP Tryz.prog zao #[] w5 fun v6 w6 =>
   Ext w5 w6 /\
   ∃t7:Bool,v6=(.bool t7) /\
   (((((t7=false)\/(t4≠0))\/(20<(by_vl:Int))) ->
    ∀w8,Ext w w8 ->
    FnP Tryz.prog zao #[] w8 fun v9 w9 =>
     Ext w8 w9 /\
     ∃t10:Bool,v9=(.bool t10) /\
     ∀w11,Ext w w11 ->
     Q (.bool t10) w11)) /\
   ((((t7=true)/\(t4=0))/\((by_vl:Int)<=20)) ->
    ∃(I8:ByteArray->Int->Int->World->Prop) (M8:ByteArray->Int->Int->World->Nat),I8 t3 t_1 0 w /\
    ∀(s9:ByteArray)(now10:Int)(k11:Int)(w12:World),I8 s9 now10 k11 w12 ->
     (((k11<(by_vl:Int)) ->
      by_v≠none /\
      (0:Int)<=k11 /\
      (k11:Int)<(by_vl:Int) /\
      ∃t13:Int,cell w12 (pIdx by_v k11 1) 0=some (.int .i64 t13) /\
      ∀w14,Ext w12 w14 ->
      FnP Tryz.prog zfL #[(.int .u64 key),(.string s9),(.int .i64 now10)] w14 fun v15 w15 =>
       Ext w14 w15 /\
       ∃t_016:ByteArray,∃t_117:Int,∃t_218:Int,∃t_319:Int,∃t20:Int,v15=(.tuple #[(.agg #[(.string t_016),(.int .i64 t_117),(.int .i64 t_218),(.int .i64 t_319)]),(.int .i64 t20)]) /\
       ∀b21:Nat,w12.heap.size<=b21->(((((t20≠0)\/(t_016≠t_0))\/(t_319≠t_3))\/(t_3<t_218)) ->
        ∀w22,Ext w12 w22 ->
        Q (.bool false) w22) /\
       (((((t20=0)/\(t_016=t_0))/\(t_319=t_3))/\(t_218<=t_3)) ->
        ((0<=t13) ->
         InR .i64 (t_3-t_218)) /\
        ((((t13<0)\/((t_3-t_218)<t13)) ->
         InR .i64 (k11+1) /\
         (I8 s9 now10 (k11+1) w12/\M8 s9 now10 (k11+1) w12<M8 s9 now10 k11 w12))) /\
        (((0<=t13)/\(t13<=(t_3-t_218))) ->
         InR .i64 (t_218+t13) /\
         ∀w22,Ext w12 w22 ->
         FnP Tryz.prog zhe #[(.int .u64 key),(.string s9),(.int .i64 now10),(.int .i64 (t_218+t13))] w22 fun v23 w23 =>
          Ext w22 w23 /\
          ∃t24:ByteArray,∃t25:Int,v23=(.tuple #[(.string t24),(.int .i64 t25)]) /\
          ((t25≠0) ->
           ∀w26,Ext w12 w26 ->
           Q (.bool false) w26) /\
          ((t25=0) ->
           InR .i64 (k11+1) /\
           (I8 t24 t_218 (k11+1) w12/\M8 t24 t_218 (k11+1) w12<M8 s9 now10 k11 w12)))))) /\
     (((by_vl:Int)<=k11) ->
      ∀w13,zag [] [b0] w12 w13 ->
      Run Tryz.prog (.buildSlice 74 1 [(0,(.agg #[(.string (⟨#[116,105,99,107,101,116]⟩:ByteArray)),(.string s9)]))]) w13 fun v14 w14 =>
       Ext w13 w14 /\
       ∃t15:Option Addr,∃tl16:Nat,∃tc17:Nat,v14=(.slice t15 tl16 tc17) /\
       ∀w18,zag [] [b0] w14 w18 ->
       FnP Tryz.prog zlr #[(.string (⟨#[36,123,116,105,99,107,101,116,125]⟩:ByteArray)),(.slice t15 tl16 tc17)] w18 fun v19 w19 =>
        zbY [b0] w18 w19 /\
        ∃t20:ByteArray,∃t21:Int,v19=(.tuple #[(.string t20),(.int .i64 t21)]) /\
        ∀w22,Ext w19 w22 ->
        Q (.bool ((decide (t21=0))&&(decide (t20=s9)))) w22))
theorem zgz(a:Int)(b:ByteArray)(c d e:Int)(f:Option Addr)(g i:Nat)(j:World)(k:Value->World->Prop)(h:zgG a b c d e f g i j k):FnP Tryz.prog zcc #[(.int .u64 a),(.agg #[(.string b),(.int .i64 c),(.int .i64 d),(.int .i64 e)]),(.slice f g i)] j k:=
 zab (Eq.mp (by kernel_rfl:_=Runs Tryz.prog k ({N:=116,muts:=[47]}:Cfg) Tryz.f10 (Tryz.f10.body.getD .skip) [.sc (.int .u64 a),.agg [.str b,.int .i64 c,.int .i64 d,.int .i64 e],.sc (.slc f g i)] j) h) Tryz.func10 (by kernel_rfl) (fun a w=>Tryz.call10 a w) (by kernel_rfl) (by kernel_rfl) rfl rfl
theorem zpS(W:World)(R:Array Value->Prop)(h:∀key:Int,InR .u64 key->∀t_0:ByteArray,t_0.size<=9223372036854775807->∀t_1:Int,InR .i64 t_1->∀t_2:Int,InR .i64 t_2->∀t_3:Int,InR .i64 t_3->∀by_v:Option Addr,∀by_vl:Nat,∀by_vc:Nat,zaC Tryz.prog W 2 by_v by_vl by_vc->R #[(.int .u64 key),(.agg #[(.string t_0),(.int .i64 t_1),(.int .i64 t_2),(.int .i64 t_3)]),(.slice by_v by_vl by_vc)])(args:Array Value)(hg:zcB Tryz.prog W Tryz.f10.params.toList args.toList):R args:=by
 have e_:(zeD Tryz.prog W Tryz.f10.params.toList fun l=>R l.toArray)=(∀key:Int,InR .u64 key->∀t_0:ByteArray,t_0.size<=9223372036854775807->∀t_1:Int,InR .i64 t_1->∀t_2:Int,InR .i64 t_2->∀t_3:Int,InR .i64 t_3->∀by_v:Option Addr,∀by_vl:Nat,∀by_vc:Nat,zaC Tryz.prog W 2 by_v by_vl by_vc->R #[(.int .u64 key),(.agg #[(.string t_0),(.int .i64 t_1),(.int .i64 t_2),(.int .i64 t_3)]),(.slice by_v by_vl by_vc)]):=by kernel_rfl
 exact ze8 (by rw[e_];exact h) args hg
end Go.Proofs.YtcceeahmcecbnaaGreatDoor
namespace Go.Proofs
open Go.Shelf
def Tryz.lays170_ren:Go.Shelf.Ren:=⟨fun|170=>98|n=>n,fun|70=>182|3=>3|0=>0|72=>184|37=>93|5=>5|n=>n,fun|n=>n⟩
theorem Tryz.lays170:Go.Proofs.Lays.n170 Tryz.prog Tryz.lays170_ren:={
 mixed:=by kernel_rfl
 f170:=Tryz.func98.trans (congrArg some (by kernel_rfl))
 t0:=Tryz.underlying0
 a0:=Tryz.isAgg0
 z0:=Tryz.sizeOf0
 v0:=Tryz.zeroValue0
 t3:=Tryz.underlying3
 a3:=Tryz.isAgg3
 z3:=Tryz.sizeOf3
 v3:=Tryz.zeroValue3
 t37:=Tryz.underlying93
 a37:=Tryz.isAgg93
 z37:=Tryz.sizeOf93
 v37:=Tryz.zeroValue93
 t70:=Tryz.underlying182
 a70:=Tryz.isAgg182
 z70:=Tryz.sizeOf182
 v70:=Tryz.zeroValue182
 t72:=Tryz.underlying184
 a72:=Tryz.isAgg184
 z72:=Tryz.sizeOf184
 v72:=Tryz.zeroValue184 }
def Tryz.lays169_ren:Go.Shelf.Ren:=⟨fun|169=>102|n=>n,fun|70=>182|9=>9|0=>0|72=>184|37=>93|127=>249|3=>3|5=>5|n=>n,fun|n=>n⟩
theorem Tryz.lays169:Go.Proofs.Lays.n169 Tryz.prog Tryz.lays169_ren:={
 mixed:=by kernel_rfl
 f169:=Tryz.func102.trans (congrArg some (by kernel_rfl))
 t0:=Tryz.underlying0
 a0:=Tryz.isAgg0
 z0:=Tryz.sizeOf0
 v0:=Tryz.zeroValue0
 t3:=Tryz.underlying3
 a3:=Tryz.isAgg3
 z3:=Tryz.sizeOf3
 v3:=Tryz.zeroValue3
 t9:=Tryz.underlying9
 a9:=Tryz.isAgg9
 z9:=Tryz.sizeOf9
 v9:=Tryz.zeroValue9
 t37:=Tryz.underlying93
 a37:=Tryz.isAgg93
 z37:=Tryz.sizeOf93
 v37:=Tryz.zeroValue93
 t70:=Tryz.underlying182
 a70:=Tryz.isAgg182
 z70:=Tryz.sizeOf182
 v70:=Tryz.zeroValue182
 t72:=Tryz.underlying184
 a72:=Tryz.isAgg184
 z72:=Tryz.sizeOf184
 v72:=Tryz.zeroValue184
 t127:=Tryz.underlying249
 a127:=Tryz.isAgg249
 z127:=Tryz.sizeOf249
 v127:=Tryz.zeroValue249 }
theorem Tryz.Builder_Extra_169:Builder.Extra Tryz.prog Tryz.lays169_ren:={
 sizeBuilder:=by kernel_rfl
 liesBuilder:=by kernel_rfl
 t5:=Tryz.underlying5
 a5:=Tryz.isAgg5
 z5:=Tryz.sizeOf5
 v5:=Tryz.zeroValue5
 infoByte:=by kernel_rfl
 cellsByte:=by kernel_rfl
 sizeByte:=by kernel_rfl
 neB5:=by decide }
def Tryz.lays160_ren:Go.Shelf.Ren:=⟨fun|160=>93|232=>137|231=>136|227=>138|234=>140|233=>139|236=>142|235=>141|228=>189|271=>192|151=>191|197=>190|120=>246|152=>245|260=>244|137=>268|119=>269|224=>266|225=>265|217=>264|266=>276|n=>n,fun|9=>9|4=>4|3=>3|5=>5|117=>240|116=>239|0=>0|124=>243|21=>21|105=>309|46=>163|119=>379|139=>382|138=>381|n=>n,fun|3=>6|4=>7|n=>n⟩
theorem Tryz.lays160:Go.Proofs.Lays.n160 Tryz.prog Tryz.lays160_ren:={
 mixed:=by kernel_rfl
 f119:=Tryz.func269.trans (congrArg some (by kernel_rfl))
 f120:=Tryz.func246.trans (congrArg some (by kernel_rfl))
 f137:=Tryz.func268.trans (congrArg some (by kernel_rfl))
 f151:=Tryz.func191.trans (congrArg some (by kernel_rfl))
 f152:=Tryz.func245.trans (congrArg some (by kernel_rfl))
 f160:=Tryz.func93.trans (congrArg some (by kernel_rfl))
 f197:=Tryz.func190.trans (congrArg some (by kernel_rfl))
 f217:=Tryz.func264.trans (congrArg some (by kernel_rfl))
 f224:=Tryz.func266.trans (congrArg some (by kernel_rfl))
 f225:=Tryz.func265.trans (congrArg some (by kernel_rfl))
 f227:=Tryz.func138.trans (congrArg some (by kernel_rfl))
 f228:=Tryz.func189.trans (congrArg some (by kernel_rfl))
 f231:=Tryz.func136.trans (congrArg some (by kernel_rfl))
 f232:=Tryz.func137.trans (congrArg some (by kernel_rfl))
 f233:=Tryz.func139.trans (congrArg some (by kernel_rfl))
 f234:=Tryz.func140.trans (congrArg some (by kernel_rfl))
 f235:=Tryz.func141.trans (congrArg some (by kernel_rfl))
 f236:=Tryz.func142.trans (congrArg some (by kernel_rfl))
 f260:=Tryz.func244.trans (congrArg some (by kernel_rfl))
 f266:=Tryz.func276.trans (congrArg some (by kernel_rfl))
 f271:=Tryz.func192.trans (congrArg some (by kernel_rfl))
 t0:=Tryz.underlying0
 a0:=Tryz.isAgg0
 z0:=Tryz.sizeOf0
 v0:=Tryz.zeroValue0
 t3:=Tryz.underlying3
 a3:=Tryz.isAgg3
 z3:=Tryz.sizeOf3
 v3:=Tryz.zeroValue3
 t4:=Tryz.underlying4
 a4:=Tryz.isAgg4
 z4:=Tryz.sizeOf4
 v4:=Tryz.zeroValue4
 t5:=Tryz.underlying5
 a5:=Tryz.isAgg5
 z5:=Tryz.sizeOf5
 v5:=Tryz.zeroValue5
 t9:=Tryz.underlying9
 a9:=Tryz.isAgg9
 z9:=Tryz.sizeOf9
 v9:=Tryz.zeroValue9
 t21:=Tryz.underlying21
 a21:=Tryz.isAgg21
 z21:=Tryz.sizeOf21
 v21:=Tryz.zeroValue21
 t46:=Tryz.underlying163
 a46:=Tryz.isAgg163
 z46:=Tryz.sizeOf163
 v46:=Tryz.zeroValue163
 t105:=Tryz.underlying309
 a105:=Tryz.isAgg309
 z105:=Tryz.sizeOf309
 v105:=Tryz.zeroValue309
 t116:=Tryz.underlying239
 a116:=Tryz.isAgg239
 z116:=Tryz.sizeOf239
 t117:=Tryz.underlying240
 a117:=Tryz.isAgg240
 z117:=Tryz.sizeOf240
 v117:=Tryz.zeroValue240
 t119:=Tryz.underlying379
 a119:=Tryz.isAgg379
 z119:=Tryz.sizeOf379
 t124:=Tryz.underlying243
 a124:=Tryz.isAgg243
 z124:=Tryz.sizeOf243
 v124:=Tryz.zeroValue243
 t138:=Tryz.underlying381
 a138:=Tryz.isAgg381
 z138:=Tryz.sizeOf381
 v138:=Tryz.zeroValue381
 t139:=Tryz.underlying382
 a139:=Tryz.isAgg382
 z139:=Tryz.sizeOf382
 v139:=Tryz.zeroValue382
 g3:=by kernel_rfl
 g4:=by kernel_rfl }
open Go.RowKit in
theorem Tryz.Builder_Len_f (B b:Nat) (bs:List Value) (w:World) (h:Lib.IsBuilderF 184 5 B b bs w) :
 Calls Tryz.prog 98 #[.pointer (some ⟨b,0,none⟩)] w fun e w'=>e=.returned (.int .i64 bs.length)/\w'=w:=Any.Builder_Len_f Tryz.lays170 B b bs w h
open Go.RowKit in
theorem Tryz.Builder_String_any_k (B b:Nat) (l:List UInt8) (w:World) (h:Lib.IsBuilderF 184 5 B b (Lib.byteCells l) w) (hBw:B<=w.heap.size) :
 Calls Tryz.prog 102 #[.pointer (some ⟨b,0,none⟩)] w fun e w'=>e=.returned (.string ⟨l.toArray⟩)/\(Lib.IsBuilderF 184 5 B b (Lib.byteCells l) w'/\Below B w w'/\Lib.OthersKept 5 (some b) w w'):=Any.Builder_String_any_k Tryz.lays169 Tryz.Builder_Extra_169 B b l w h hBw
def Tryz.lays219_ren:Go.Shelf.Ren:=⟨fun|219=>243|217=>264|225=>265|224=>266|267=>267|266=>276|314=>277|n=>n,fun|9=>9|3=>3|4=>4|5=>5|46=>163|146=>357|51=>354|n=>n,fun|1=>5|n=>n⟩
theorem Tryz.lays219:Go.Proofs.Lays.n219 Tryz.prog Tryz.lays219_ren:={
 mixed:=by kernel_rfl
 f217:=Tryz.func264.trans (congrArg some (by kernel_rfl))
 f219:=Tryz.func243.trans (congrArg some (by kernel_rfl))
 f224:=Tryz.func266.trans (congrArg some (by kernel_rfl))
 f225:=Tryz.func265.trans (congrArg some (by kernel_rfl))
 f266:=Tryz.func276.trans (congrArg some (by kernel_rfl))
 f267:=Tryz.func267.trans (congrArg some (by kernel_rfl))
 f314:=Tryz.func277.trans (congrArg some (by kernel_rfl))
 t3:=Tryz.underlying3
 a3:=Tryz.isAgg3
 z3:=Tryz.sizeOf3
 v3:=Tryz.zeroValue3
 t4:=Tryz.underlying4
 a4:=Tryz.isAgg4
 z4:=Tryz.sizeOf4
 v4:=Tryz.zeroValue4
 t5:=Tryz.underlying5
 a5:=Tryz.isAgg5
 z5:=Tryz.sizeOf5
 v5:=Tryz.zeroValue5
 t9:=Tryz.underlying9
 a9:=Tryz.isAgg9
 z9:=Tryz.sizeOf9
 v9:=Tryz.zeroValue9
 t46:=Tryz.underlying163
 a46:=Tryz.isAgg163
 z46:=Tryz.sizeOf163
 v46:=Tryz.zeroValue163
 t51:=Tryz.underlying354
 a51:=Tryz.isAgg354
 z51:=Tryz.sizeOf354
 v51:=Tryz.zeroValue354
 t146:=Tryz.underlying357
 a146:=Tryz.isAgg357
 z146:=Tryz.sizeOf357
 v146:=Tryz.zeroValue357
 g1:=by kernel_rfl }
open Go.RowKit Go.Lib in
theorem Tryz.stringslite_Index_one (s:ByteArray) (c:UInt8) (w:World) :
 Calls Tryz.prog 243 #[.string s,.string ⟨#[c]⟩] w fun e w'=>e=.returned (.int .i64 (Lib.indexByte s.data.toList c))/\w'=w:=Any.stringslite_Index_one Tryz.lays219 s c w
def Tryz.lays105_ren:Go.Shelf.Ren:=⟨fun|105=>134|212=>183|99=>184|165=>185|166=>99|170=>98|169=>102|263=>237|264=>238|206=>239|240=>148|241=>240|276=>199|277=>263|n=>n,fun|9=>9|3=>3|4=>4|20=>20|0=>0|46=>163|109=>302|5=>5|72=>184|76=>186|51=>354|146=>357|53=>102|148=>359|70=>182|37=>93|75=>175|127=>249|164=>258|80=>190|n=>n,fun|n=>n⟩
theorem Tryz.lays105:Go.Proofs.Lays.n105 Tryz.prog Tryz.lays105_ren:={
 mixed:=by kernel_rfl
 f99:=Tryz.func184.trans (congrArg some (by kernel_rfl))
 f105:=Tryz.func134.trans (congrArg some (by kernel_rfl))
 f165:=Tryz.func185.trans (congrArg some (by kernel_rfl))
 f166:=Tryz.func99.trans (congrArg some (by kernel_rfl))
 f169:=Tryz.func102.trans (congrArg some (by kernel_rfl))
 f170:=Tryz.func98.trans (congrArg some (by kernel_rfl))
 f206:=Tryz.func239.trans (congrArg some (by kernel_rfl))
 f212:=Tryz.func183.trans (congrArg some (by kernel_rfl))
 f240:=Tryz.func148.trans (congrArg some (by kernel_rfl))
 f241:=Tryz.func240.trans (congrArg some (by kernel_rfl))
 f263:=Tryz.func237.trans (congrArg some (by kernel_rfl))
 f264:=Tryz.func238.trans (congrArg some (by kernel_rfl))
 f276:=Tryz.func199.trans (congrArg some (by kernel_rfl))
 f277:=Tryz.func263.trans (congrArg some (by kernel_rfl))
 t0:=Tryz.underlying0
 a0:=Tryz.isAgg0
 z0:=Tryz.sizeOf0
 v0:=Tryz.zeroValue0
 t3:=Tryz.underlying3
 a3:=Tryz.isAgg3
 z3:=Tryz.sizeOf3
 v3:=Tryz.zeroValue3
 t4:=Tryz.underlying4
 a4:=Tryz.isAgg4
 z4:=Tryz.sizeOf4
 v4:=Tryz.zeroValue4
 t5:=Tryz.underlying5
 a5:=Tryz.isAgg5
 z5:=Tryz.sizeOf5
 v5:=Tryz.zeroValue5
 t9:=Tryz.underlying9
 a9:=Tryz.isAgg9
 z9:=Tryz.sizeOf9
 v9:=Tryz.zeroValue9
 t20:=Tryz.underlying20
 a20:=Tryz.isAgg20
 z20:=Tryz.sizeOf20
 v20:=Tryz.zeroValue20
 t37:=Tryz.underlying93
 a37:=Tryz.isAgg93
 z37:=Tryz.sizeOf93
 v37:=Tryz.zeroValue93
 t46:=Tryz.underlying163
 a46:=Tryz.isAgg163
 z46:=Tryz.sizeOf163
 v46:=Tryz.zeroValue163
 t51:=Tryz.underlying354
 a51:=Tryz.isAgg354
 z51:=Tryz.sizeOf354
 v51:=Tryz.zeroValue354
 t53:=Tryz.underlying102
 a53:=Tryz.isAgg102
 z53:=Tryz.sizeOf102
 v53:=Tryz.zeroValue102
 t70:=Tryz.underlying182
 a70:=Tryz.isAgg182
 z70:=Tryz.sizeOf182
 v70:=Tryz.zeroValue182
 t72:=Tryz.underlying184
 a72:=Tryz.isAgg184
 z72:=Tryz.sizeOf184
 v72:=Tryz.zeroValue184
 t75:=Tryz.underlying175
 a75:=Tryz.isAgg175
 z75:=Tryz.sizeOf175
 v75:=Tryz.zeroValue175
 t76:=Tryz.underlying186
 a76:=Tryz.isAgg186
 z76:=Tryz.sizeOf186
 v76:=Tryz.zeroValue186
 t109:=Tryz.underlying302
 a109:=Tryz.isAgg302
 z109:=Tryz.sizeOf302
 v109:=Tryz.zeroValue302
 t127:=Tryz.underlying249
 a127:=Tryz.isAgg249
 z127:=Tryz.sizeOf249
 v127:=Tryz.zeroValue249
 t146:=Tryz.underlying357
 a146:=Tryz.isAgg357
 z146:=Tryz.sizeOf357
 v146:=Tryz.zeroValue357
 t148:=Tryz.underlying359
 a148:=Tryz.isAgg359
 z148:=Tryz.sizeOf359
 v148:=Tryz.zeroValue359
 t164:=Tryz.underlying258
 a164:=Tryz.isAgg258
 z164:=Tryz.sizeOf258
 v164:=Tryz.zeroValue258 }
theorem Tryz.Builder_Extra_105:Builder.Extra Tryz.prog Tryz.lays105_ren:={
 sizeBuilder:=by kernel_rfl
 liesBuilder:=by kernel_rfl
 t5:=Tryz.underlying5
 a5:=Tryz.isAgg5
 z5:=Tryz.sizeOf5
 v5:=Tryz.zeroValue5
 infoByte:=by kernel_rfl
 cellsByte:=by kernel_rfl
 sizeByte:=by kernel_rfl
 neB5:=by decide }
open Go.RowKit Go.Lib in
theorem Tryz.strings_Repeat (s:ByteArray) (c:Nat) (w:World) (hc:c<=9223372036854775807) (hlen:s.size*c<=140737488355328) :
 Calls Tryz.prog 134 #[.string s,.int .i64 c] w fun e w'=>e=.returned (.string ⟨(Lib.repeatL s.data.toList c).toArray⟩)/\Below w.heap.size w w':=Any.strings_Repeat Tryz.lays105 Tryz.Builder_Extra_105 s c w hc hlen
end Go.Proofs
namespace Go.Proofs.YtcceeahmcecbnaaGreatDoor
open Go.Sx Go.RowKit
structure GA(w:World):Prop where
 tz:cell w (some (⟨9,0,none⟩:Addr)) 15=some (.int .u8 4)
 pow : Lib.TabIs Tryz.prog w "internal/strconv.uint64pow10" .u64 Lib.pow10Tab
theorem GA.ext{w w':World}(g:GA w)(e:Ext w w'):GA w':=⟨zar e g.tz,zAe g.pow e⟩
theorem zOl{x:Int}(h:0<=x/\x<=18446744073709551615):InR .u64 x:=h
def zHE(u c:Int):Int :=
 let t:=IntKind.wrap .u64 (IntKind.wrap .u64 (u+c)*11400714785074694791)
 zan .xor .u64 t (zan .shr .u64 t 31)
def zAc(key:Int)(l:List Int):Int:=l.foldl zHE key
theorem zsP(key:Int)(l:List Int){k:Nat}(h:k<l.length):zAc key (l.take (k+1))=zHE (zAc key (l.take k)) (l.getD k 0):=by
 rw[List.take_succ_eq_append_getElem h]
 unfold zAc
 rw[List.foldl_append]
 simp[List.getD_eq_getElem?_getD,h]
theorem zCK(s:ByteArray):∀x∈zdD s,0<=x/\x<=255:=fun x hx=>by
 obtain⟨b,hb,rfl⟩:=List.mem_map.1 hx
 have:=b.toNat_lt
 omega
theorem zCf(key:Int)(s:ByteArray)(hs:s.size<=9223372036854775806)(w:World):FnP Tryz.prog zdT #[.int .u64 key,.string s] w fun v w'=>Ext w w'/\v=.int .u64 (zAc key (zdD s)):=by
 refine zm2 key s w _ fun w0 h0=>zGH (e:=zaP) (by kernel_rfl) (by kernel_rfl) (by kernel_rfl) fun p c w1 e1 hb=>⟨e1,p,s.size,c,rfl,?_⟩
 have hlen:=ztq s
 refine⟨fun u k w'=>w'=w1/\0<=k/\k<=s.size/\u=zAc key ((zdD s).take k.toNat),fun _ k _=>(s.size-k).toNat,⟨rfl,by omega,by omega,by simp[zAc]⟩,?_⟩
 rintro u k w1 ⟨rfl,hk0,hk1,rfl⟩
 refine⟨fun hlt=>?_,fun hge w9 h9=>⟨(h0.trans e1).trans h9,?_⟩⟩
 ·have g:=zes.idx hb hk0 (by omega)
  have hr:=zCK s _ (zat (zdD s) 0 (i:=k.toNat) (by omega))
  refine⟨fun hq=>zal g (zah.2 hq),hk0,hlt,_,g,zOl (by omega),i64 (by omega),⟨rfl,by omega,by omega,?_⟩,by simp only[];omega⟩
  rw[show(k+1).toNat=k.toNat+1 by omega,zsP _ _ (by omega)]
  rfl
 ·rw[List.take_of_length_le (by omega)]
def dgt(n:Nat):UInt8:=if n<10 then UInt8.ofNat (48+n) else UInt8.ofNat (87+n)
def zlE(u k:Nat):List UInt8:=(List.range k).reverse.map fun j=>dgt (u/16^j%16)
theorem zqL(u k:Nat):zlE u (k+1)=dgt (u/16^k%16)::zlE u k:=by
 unfold zlE
 rw[List.range_succ,List.reverse_append];rfl
theorem zee(u k:Nat):(zlE u k).length=k:=by simp[zlE]
theorem zMR(u k j:Nat)(h:j<k):(zlE u k)[k-1-j]?=some (dgt (u/16^j%16)):=by
 unfold zlE
 rw[List.getElem?_map,List.getElem?_reverse (by simp;omega)]
 simp only[List.length_range]
 rw[List.getElem?_range (by omega)]
 simp only[Option.map_some]
 rw[show k-1-(k-1-j)=j by omega]
def digS:ByteArray:=⟨#[48,49,50,51,52,53,54,55,56,57,97,98,99,100,101,102,103,104,105,106,107,108,109,110,111,112,113,114,115,116,117,118,119,120,121,122]⟩
theorem zKG:∀n:Nat,n<16->sAt digS (n:Int)=((dgt n).toNat:Int):=by decide
theorem and15(x:Nat)(h:x<18446744073709551616):zan .and .u64 (x:Int) 15=((x%16:Nat):Int):=by
 have h1:(BitVec.ofInt 64 (x:Int) &&& BitVec.ofInt 64 15).toNat=x%16:=by
  rw[BitVec.toNat_and,show(BitVec.ofInt 64 (15:Int)).toNat=15 by decide]
  have:(BitVec.ofInt 64 (x:Int)).toNat=x:=by simp[BitVec.toNat_ofInt];omega
  rw[this]
  exact Nat.and_two_pow_sub_one_eq_mod x 4
 simp only[zan]
 show IntKind.wrap .u64 (((BitVec.ofInt 64 (x:Int) &&& BitVec.ofInt 64 15).toNat:Nat):Int)=_
 rw[h1]
 simp[IntKind.wrap,IntKind.signed,IntKind.bits];omega
theorem shr4(x:Nat):zan .shr .u64 (x:Int) 4=((x/16:Nat):Int):=by
 have hb:min (4:Int).toNat IntKind.u64.bits=4:=by decide
 simp only[zan,hb]
 rw[Int.fdiv_eq_ediv_of_nonneg _ (by decide)]
 omega
theorem pow2_k(w:World):FnP Tryz.prog zaS #[.int .i64 16] w fun v w'=>Ext w w'/\v=.bool true :=
 zeu 16 w _ ⟨i64 (by omega),fun w0 h0=>⟨h0,by kernel_rfl⟩⟩
theorem tz_k(w:World)(g:GA w):FnP Tryz.prog zbp #[.int .u64 16] w fun v w'=>Ext w w'/\v=.int .i64 4:=by
 refine zgx 16 w _ fun w0 h0=>?_
 refine FnP.mono (K:=fun v w'=>Ext w0 w'/\v=.int .i64 4) ?_ fun v w1 ⟨e1,hv⟩=>⟨e1,4,hv,fun w3 h3=>⟨h3,rfl⟩⟩
 refine zc1 16 w0 _ ⟨fun h=>absurd h (by omega),fun _=>?_⟩
 have hi:zan .shr .u64 (IntKind.wrap .u64 (zan .and .u64 16 (IntKind.wrap .u64 (0-16))*285870213051353865)) 58=15:=by kernel_rfl
 rw[hi]
 refine⟨by simp,by omega,by omega,4,?_,i64 (by omega),fun w1 h1=>⟨h1,rfl⟩⟩
 rw[zae]
 exact(g.ext h0).tz
theorem zA7(u k:Nat):u/16^k/16=u/16^(k+1):=by rw[Nat.div_div_eq_div_mul,Nat.pow_succ]
theorem zqJ(l:List Int)(i k:Nat)(x:Int)(hi:i<l.length):(l.set i x).getD k 0=if k=i then x else l.getD k 0:=by
 rw[List.getD_eq_getElem?_getD,List.getD_eq_getElem?_getD,List.getElem?_set]
 by_cases h:i=k
 ·subst h;simp[hi]
 ·rw[if_neg h,if_neg (Ne.symm h)]
theorem bits_k(u:Nat)(hu:u<18446744073709551616)(w:World)(g:GA w):FnP Tryz.prog zbB #[.slice none 0 0,.int .u64 (u:Int),.int .i64 16,.bool false,.bool false] w fun v w'=>Ext w w'/\∃k,1<=k/\k<=16/\u/16^k=0/\v=.tuple #[.slice none 0 0,.string ⟨(zlE u k).toArray⟩]:=by
 refine zfd none 0 0 u 16 false false w _ ⟨fun h=>by omega,fun _ w0 h0=>zbc (by simp[Value.oneCell']) fun w1 o1 e1=>⟨(fun h=>by cases h),fun _ w2 h2=>(pow2_k w2).mono fun v w3 ⟨e3,hv⟩=>⟨e3,true,hv,fun _=>⟨zOl (by omega),fun w5 h5=>(tz_k w5 (((g.ext h0).ext e1).ext h5)).mono fun v w6 ⟨e6,hv⟩=>⟨e6,4,hv,zOl (by omega),zOl (by omega),zOl (by omega),zOl (by omega),?_⟩⟩,fun h=>by cases h⟩⟩⟩
 have x1:Ext w w1:=h0.trans e1
 have o1:=o1 w.heap.size h0.size
 have np:(some (⟨w0.heap.size,0,none⟩:Addr))≠none:=by simp
 have o1':Own w.heap.size w1 355 65 (some ⟨w0.heap.size,0,none⟩) 1 1 ((List.replicate 65 (0:Int)).map (.int .u8)):=o1
 have step:∀(i:Int)(u':Int)(k:Nat)(X:List Int)(w':World),k<=15->i=65-(k:Int)->u'=((u/16^k:Nat):Int)->X.length=65->(∀j,j<k->X.getD (64-j) 0=((dgt (u/16^j%16)).toNat:Int))->Ext w w'->Own w.heap.size w' 355 65 (some ⟨w0.heap.size,0,none⟩) 1 1 (X.map (.int .u8)) ->
   ∀{K:World->Prop},(∀(w'':World)(Y:List Int),Y.length=65->(∀j,j<k+1->Y.getD (64-j) 0=((dgt (u/16^j%16)).toNat:Int))->Ext w w''->Own w.heap.size w'' 355 65 (some ⟨w0.heap.size,0,none⟩) 1 1 (Y.map (.int .u8))->K w'') ->
   zak w' (pIdx (some ⟨w0.heap.size,0,none⟩) (i-1) 1) [.int .u8 ((dgt (u/16^k%16)).toNat:Int)] [] K:=by
  intro i u' k X w' hk hi hu' hX hd hx ho K hK
  refine zaU (off:=(i-1).toNat*1) ho zpV (by simp[hX];omega) (by simp) (by simp[Value.oneCell']) (by simp) fun w'' o'' g''=>hK w'' (X.set (64-k) ((dgt (u/16^k%16)).toNat:Int)) (by simp[hX]) (fun j hj=>?_) (zcr.ext g'' hx ho) ?_
  ·rw[zqJ _ _ _ _ (by omega)]
   by_cases h:j=k
   ·subst h;rw[if_pos rfl]
   ·rw[if_neg (by omega)];exact hd j (by omega)
  ·rw[List.map_set]
   have:(i-1).toNat*1=64-k:=by omega
   rw[this] at o'';exact o''
 refine⟨fun i u' w'=>∃(k:Nat) (X:List Int),k<=15/\i=65-(k:Int)/\u'=((u/16^k:Nat):Int)/\X.length=65/\(∀j,j<k->X.getD (64-j) 0=((dgt (u/16^j%16)).toNat:Int))/\Ext w w'/\Own w.heap.size w' 355 65 (some ⟨w0.heap.size,0,none⟩) 1 1 (X.map (.int .u8)),fun i _ _=>i.toNat,⟨0,List.replicate 65 0,by omega,by omega,by simp,by simp,fun j hj=>by omega,x1,o1'⟩,?_⟩
 rintro i u' w11 ⟨k,X,hk,hi,hu',hX,hd,hx,ho⟩
 have hlt16:u/16^k<18446744073709551616:=Nat.lt_of_le_of_lt (Nat.div_le_self _ _) hu
 have hdg:digS.size=36:=rfl
 refine⟨fun hge=>?_,fun hlt=>?_⟩
 ·have hand:zan .and .u64 u' (16-1)=((u/16^k%16:Nat):Int):=by rw[hu'];exact and15 _ hlt16
  have hk15:k+1<=15:=by
   have h1:16<=u/16^k:=by omega
   have h2:k≠15:=by
    rintro rfl
    have:u/16^15<16:=by rw[Nat.div_lt_iff_lt_mul (by decide)];exact hu
    omega
   omega
  rw[hand,show sAt (⟨#[48,49,50,51,52,53,54,55,56,57,97,98,99,100,101,102,103,104,105,106,107,108,109,110,111,112,113,114,115,116,117,118,119,120,121,122]⟩:ByteArray) ((u/16^k%16:Nat):Int)=_ from zKG _ (Nat.mod_lt _ (by omega))]
  refine⟨i64 (by omega),by omega,?_,np,by omega,by omega,step i u' k X w11 hk hi hu' hX hd hx ho fun w'' Y hY hdY hxY hoY=>⟨by omega,⟨k+1,Y,hk15,by omega,?_,hY,hdY,hxY,hoY⟩,by simp only[];omega⟩⟩
  ·have:=Nat.mod_lt (u/16^k) (show 16>0 by omega)
   show((u/16^k%16:Nat):Int)<(digS.size:Int)
   rw[hdg];omega
  ·rw[hu',shr4,zA7]
 ·have hmod:u/16^k%16=u/16^k:=Nat.mod_eq_of_lt (by omega)
  rw[hu',show sAt (⟨#[48,49,50,51,52,53,54,55,56,57,97,98,99,100,101,102,103,104,105,106,107,108,109,110,111,112,113,114,115,116,117,118,119,120,121,122]⟩:ByteArray) ((u/16^k:Nat):Int)=((dgt (u/16^k%16)).toNat:Int) by rw[hmod];exact zKG _ (by omega)]
  refine⟨i64 (by omega),by omega,?_,np,by omega,by omega,step i u' k X w11 hk hi hu' hX hd hx ho fun w'' Y hY hdY hxY hoY=>⟨(fun h=>by cases h),fun _=>⟨(fun h=>by cases h),fun _ w13 h13=>?_⟩⟩⟩
  ·show((u/16^k:Nat):Int)<(digS.size:Int)
   rw[hdg];omega
  have hl:(Tryz.prog.arrayLen 355)=65:=by kernel_rfl
  have hel:Tryz.prog.elem 355=zaP:=by kernel_rfl
  have hsz:∀w,(sizeOf (Tryz.prog.elem 355)).run Tryz.prog w=.ok 1 w:=fun w=>by rw[hel];exact Tryz.sizeOf5 w
  have hrun:=run_sliceAt_array_l (P:=Tryz.prog) w13 355 ⟨w0.heap.size,0,none⟩ (by kernel_rfl) .i64 (i-1) (by omega) (by rw[hl];omega)
  rw[hsz] at hrun
  simp only[Result.andThen_ok,hl] at hrun
  have hcells:∀j (hj:j<(zlE u (k+1)).length),w13.cell? ((Addr.add ⟨w0.heap.size,0,none⟩ (64-k)).add j)=some (.int .u8 (((zlE u (k+1))[j]).toNat:Int)):=fun j hj=>by
   rw[zee] at hj
   have hc:=(hoY.ext h13).cells (64-k+j) (.int .u8 (Y.getD (64-k+j) 0)) (by
    rw[List.getElem?_map,List.getElem?_eq_getElem (by omega),List.getD_eq_getElem?_getD,List.getElem?_eq_getElem (by omega)];rfl)
   have hYj:=hdY (k-j) (by omega)
   rw[show 64-(k-j)=64-k+j by omega] at hYj
   rw[hYj] at hc
   have hh:=zMR u (k+1) (k-j) (by omega)
   rw[show k+1-1-(k-j)=j by omega,List.getElem?_eq_getElem (by rw[zee];omega)] at hh
   rw[Option.some.inj hh,zfv]
   simpa[cell] using hc
  have hres:slicedAt ⟨w0.heap.size,0,none⟩ (i-1).toNat 65 65 1=.slice (some (Addr.add ⟨w0.heap.size,0,none⟩ (64-k))) (zlE u (k+1)).length (k+1):=by
   unfold slicedAt
   rw[if_neg (by omega),zee]
   rw[show(i-1).toNat=64-k by omega,Nat.mul_one,show 65-(64-k)=k+1 by omega]
  rw[hres] at hrun
  refine⟨_,w13,hrun,some (Addr.add ⟨w0.heap.size,0,none⟩ (64-k)),_,_,rfl,fun w16 h16=>?_⟩
  refine⟨.string ⟨(zlE u (k+1)).toArray⟩,w16,?_,Ext.refl _,_,rfl,fun w19 h19=>⟨(hxY.trans h13).trans h19,k+1,by omega,by omega,?_,rfl⟩⟩
  ·exact run_convert_bytes_back w16 93 9 zaP _ _ _ (by kernel_rfl) (by kernel_rfl) (by kernel_rfl) fun j hj=>by
    have h:=hcells j hj
    have:=zar (p:=some ((Addr.add ⟨w0.heap.size,0,none⟩ (64-k)).add j)) (i:=0) h16 (by simpa[cell,add_zero] using h)
    simpa[cell,add_zero] using this
  ·rw[<-zA7];omega
theorem zCJ(l:List UInt8):zdD (ofL l)=l.map fun b=>(b.toNat:Int):=rfl
theorem zKc(x:Int):0<=IntKind.wrap .u64 x/\IntKind.wrap .u64 x<=18446744073709551615:=by
 simp[IntKind.wrap,IntKind.signed,IntKind.bits];omega
theorem zmM(u c:Int):0<=zHE u c/\zHE u c<=18446744073709551615:=by
 unfold zHE
 simp only[zan]
 exact zKc _
theorem zkK{key:Int}(hk:0<=key/\key<=18446744073709551615)(l:List Int):0<=zAc key l/\zAc key l<=18446744073709551615:=by
 unfold zAc
 induction l generalizing key with
 |nil => exact hk
 |cons x r ih => exact ih (zmM key x)
theorem zsQ(n:Int)(h:-9223372036854775808<=n/\n<=9223372036854775807)(w:World)(g:GA w):FnP Tryz.prog za1 #[.int .i64 n,.int .i64 10] w fun v w'=>Ext w w'/\v=.string (ofL (Lib.itoa n)) :=
 ⟨fun args w=>Tryz.call90 args w,(Tryz.strconv_FormatInt_10 n h.1 h.2 w g.pow).mono fun e w' ⟨he,k,os,hw⟩=>⟨_,he,by rw[hw];exact zkw,rfl⟩⟩
theorem zeros(c:Nat):Lib.repeatL [48] c=List.replicate c 48:=by
 induction c with
 |zero => rfl
 |succ c ih => simp only[Lib.repeatL,ih];rfl
theorem zwy{u:Nat}:∀{m k:Nat},u/16^k=0->zlE u (m+k)=List.replicate m 48++zlE u k
 |0,k,h => by simp
 |m+1,k,h => by
  have h1:u/16^(m+k)=0:=by
   rw[Nat.pow_add,Nat.mul_comm,<-Nat.div_div_eq_div_mul,h,Nat.zero_div]
  rw[show m+1+k=(m+k)+1 by omega,zqL,zwy h,h1]
  rfl
theorem hex_k(u:Int)(hu:0<=u/\u<=18446744073709551615)(w:World)(g:GA w):FnP Tryz.prog zgN #[.int .u64 u] w fun v w'=>Ext w w'/\v=.string (ofL (zlE u.toNat 16)):=by
 obtain⟨n,rfl⟩:∃n:Nat,u=n:=⟨u.toNat,by omega⟩
 refine zu5 n w _ fun w0 h0=>?_
 have g0:=g.ext h0
 refine FnP.mono (K:=fun v w'=>Ext w0 w'/\∃k,1<=k/\k<=16/\n/16^k=0/\v=.string (ofL (zlE n k))) ?_ fun v w1 ⟨e1,k,hk1,hk2,hz,hv⟩=>⟨e1,_,hv,?_,fun w3 h3=>?_⟩
 ·refine zj7 n 16 w0 _ fun w1 h1=>?_
  refine FnP.mono (K:=fun v w'=>Ext w1 w'/\∃k,1<=k/\k<=16/\n/16^k=0/\v=.string (ofL (zlE n k))) ?_ fun v w2 ⟨e2,k,hk1,hk2,hz,hv⟩=>⟨e2,_,hv,fun w3 h3=>⟨h3,k,hk1,hk2,hz,rfl⟩⟩
  refine zfc n 16 w1 _ ⟨fun h=>absurd h (by omega),fun _ w2 h2=>?_⟩
  exact(bits_k n (by omega) w2 ((g0.ext h1).ext h2)).mono fun v w3 ⟨e3,k,hk1,hk2,hz,hv⟩=>⟨e3,_,_,_,_,hv,fun w6 h6=>⟨(h2.trans e3).trans h6,k,hk1,hk2,hz,rfl⟩⟩
 ·rw[zai,zee];exact i64 (by omega)
 ·have hc:(16:Int)-((ofL (zlE n k)).size:Int)=((16-k:Nat):Int):=by rw[zai,zee];omega
  rw[hc]
  have hr:=Tryz.strings_Repeat ⟨#[48]⟩ (16-k) w3 (by omega) (by show 1*(16-k)<=_;omega)
  refine⟨fun args w=>Tryz.call134 args w,hr.mono fun e w' ⟨he,hb⟩=>⟨_,he,hb,_,rfl,?_,fun w6 h6=>⟨h0.trans ((e1.trans (Ext.refl _))) |> fun _=>h6,?_⟩⟩⟩
  ·show _+_<=_
   rw[zai,zee]
   show(Lib.repeatL [48] (16-k)).length+k<=_
   rw[zeros,List.length_replicate];omega
  ·have:(⟨(Lib.repeatL (⟨#[48]⟩:ByteArray).data.toList (16-k)).toArray⟩:ByteArray)=ofL (List.replicate (16-k) 48):=by
    rw[<-zeros];rfl
   rw[this,zhm,<-zwy hz,show 16-k+k=16 by omega]
   rfl
structure Tk where
 user:ByteArray
 from':Int
 til:Int
 most:Int
def tkv(t:Tk):Value:=.agg #[.string t.user,.int .i64 t.from',.int .i64 t.til,.int .i64 t.most]
def okT(t:Tk):Prop:=lbB t.user=true/\0<=t.from'/\t.from'<=t.til/\t.til<=t.most/\t.most<=1099511627776
def zco(t:Tk):List UInt8:=t.user.data.toList++(46::Lib.itoa t.from')++(46::Lib.itoa t.til)++(46::Lib.itoa t.most)
def zHM(key:Int)(l:List UInt8):Nat:=(zAc key (l.map fun b=>(b.toNat:Int))).toNat
def zcF(key:Int)(t:Tk):List UInt8:=zco t++46::zlE (zHM key (zco t)) 16
theorem zDz(t:Tk)(hs:t.user.size<=9223372036854775807)(w:World):FnP Tryz.prog zhd #[tkv t] w fun v w'=>Ext w w'/\∃e:Int,v=.int .i64 e/\(e=0↔okT t):=by
 refine zrf t.user t.from' t.til t.most w _ fun b0 _ w1 h1=>(zeK t.user hs w1).mono fun v w2 ⟨e2,hv⟩=>⟨e2,_,hv,fun hf w4 h4=>⟨h4,3,rfl,by omega,fun h=>?_⟩,fun ht=>⟨fun hb w4 h4=>⟨h4,4,rfl,by omega,fun h=>?_⟩,fun hg w4 h4=>⟨h4,0,rfl,fun _=>⟨ht,by omega,by omega,by omega,by omega⟩,fun _=>rfl⟩⟩⟩
 ·rw[h.1] at hf;cases hf
 ·have:=h.2;omega
theorem zlZ{s:ByteArray}(h:lbB s=true):0<s.size/\s.size<=20:=by
 unfold lbB at h
 simp only[Bool.and_eq_true,decide_eq_true_eq] at h
 exact⟨h.1.1.1.1,h.1.1.1.2⟩
theorem ziG{n:Int}(h:0<=n/\n<=1099511627776):(Lib.itoa n).length<=21:=Lib.itoa_length_le n (by omega) (by omega)
theorem zv8{t:Tk}(h:okT t):(zco t).length<=86:=by
 obtain⟨h1,h2,h3,h4,h5⟩:=h
 have a:=zlZ h1
 have b:=ziG (n:=t.from') (by omega)
 have c:=ziG (n:=t.til) (by omega)
 have d:=ziG (n:=t.most) (by omega)
 unfold zco
 simp only[List.length_append,List.length_cons,zf8]
 omega
theorem zD5(key:Int)(hk:0<=key/\key<=18446744073709551615)(t:Tk)(hs:t.user.size<=9223372036854775807)(w:World)(g:GA w) :
  FnP Tryz.prog zd7 #[.int .u64 key,tkv t] w fun v w'=>Ext w w'/\∃(s:ByteArray) (e:Int),v=.tuple #[.string s,.int .i64 e]/\(e=0↔okT t)/\(e≠0->s=emS)/\(e=0->s=ofL (zcF key t)):=by
 refine zsI key t.user t.from' t.til t.most w _ fun w0 h0=>zbc (by simp[Value.oneCell']) fun w1 o1 e1=>?_
 have o:=o1 0 (Nat.zero_le _)
 have np:(some (⟨w0.heap.size,0,none⟩:Addr))≠none:=by simp
 have x1:=h0.trans e1
 refine⟨np,_,o.cellAt (i:=0) rfl,_,o.cellAt (i:=1) rfl,_,o.cellAt (i:=2) rfl,_,o.cellAt (i:=3) rfl,fun w6 h6=>?_⟩
 refine(zDz t hs w6).mono fun v w7 ⟨e7,e,hv,he⟩=>⟨e7,e,hv,fun hn w9 h9=>⟨x1.trans h9,emS,e,rfl,he,fun _=>rfl,fun h=>absurd h hn⟩,fun h0e=>?_⟩
 have ok:=he.1 h0e
 have hbl:=zv8 ok
 obtain⟨q1,q2,q3,q4,q5⟩:=ok
 have a1:=zlZ q1
 have a2:=ziG (n:=t.from') (by omega)
 have a3:=ziG (n:=t.til) (by omega)
 have a4:=ziG (n:=t.most) (by omega)
 refine⟨np,_,o.cellAt0 (i:=0) rfl,np,_,o.cellAt0 (i:=1) rfl,np,_,o.cellAt0 (i:=2) rfl,np,_,o.cellAt0 (i:=3) rfl,fun w13 h13=>zce zun [.int .i64 t.from',.int .i64 t.til,.int .i64 t.most] rfl rfl (by intro u hu;simp at hu;rcases hu with rfl|rfl|rfl<;>rfl) (by simp) (by simp) fun w14 o14 e14=>⟨e14,_,_,_,rfl,?_⟩⟩
 have o14:=o14 0 (Nat.zero_le _)
 have hi:zes .i64 w14 (some ⟨w13.heap.size,0,none⟩) [t.from',t.til,t.most]:=o14.cells
 have x14:=(x1.trans h13).trans e14
 let L:Nat->List UInt8:=fun k=>t.user.data.toList++(([t.from',t.til,t.most].take k).flatMap fun n=>46::Lib.itoa n)
 have hLlen:∀k,k<=3->(L k).length<=86:=by
  intro k hk
  have:k=0\/k=1\/k=2\/k=3:=by omega
  rcases this with rfl|rfl|rfl|rfl<;>simp[L,zf8]<;>omega
 refine⟨fun s k w'=>w'=w14/\0<=k/\k<=3/\s=ofL (L k.toNat),fun _ k _=>(3-k).toNat,⟨rfl,by omega,by omega,by simp[L,za4]⟩,?_⟩
 rintro s k w21 ⟨rfl,hk0,hk1,rfl⟩
 refine⟨fun hlt=>?_,fun hge=>?_⟩
 ·have gk:=zes.idx hi hk0 (by simpa using hlt)
  have hr:0<=([t.from',t.til,t.most].getD k.toNat 0)/\([t.from',t.til,t.most].getD k.toNat 0)<=1099511627776:=by
   have:k.toNat=0\/k.toNat=1\/k.toNat=2:=by have:=hlt;simp at this;omega
   rcases this with h|h|h<;>rw[h]<;>simp<;>omega
  have hil:=ziG hr
  refine⟨by simp,hk0,hlt,_,gk,fun w23 h23=>(zsQ _ (by omega) w23 ((g.ext x14).ext h23)).mono fun v w24 ⟨e24,hv⟩=>⟨e24,_,hv,?_,?_,i64 (by omega),⟨rfl,by omega,by simp at hlt;omega,?_⟩,by simp at hlt ⊢;omega⟩⟩
  ·show _+_<=_
   rw[zai];show 1+_<=_;omega
  ·have hL:=hLlen k.toNat (by omega)
   show(ofL (L k.toNat)).size+(ofL [46]++ofL _).size<=_
   rw[zhm,zai,zai]
   simp only[L,List.length_append,List.length_cons,List.length_nil] at hL ⊢
   omega
  ·show ofL (L k.toNat)++(ofL [46]++ofL _)=_
   rw[zhm,zhm]
   congr 1
   show L k.toNat++([46]++_)=L (k+1).toNat
   rw[show(k+1).toNat=k.toNat+1 by omega]
   have hlt':k.toNat<[t.from',t.til,t.most].length:=by simp at hlt ⊢;omega
   simp only[L]
   have hg:([t.from',t.til,t.most].getD k.toNat 0)=[t.from',t.til,t.most][k.toNat]:=by rw[List.getD_eq_getElem?_getD,List.getElem?_eq_getElem hlt'];rfl
   rw[List.take_succ_eq_append_getElem hlt',List.flatMap_append,List.append_assoc,hg]
   congr 1
   simp
 ·have hk3:k.toNat=3:=by simp at hge;omega
  have hbody:L k.toNat=zco t:=by rw[hk3];simp[L,zco]
  rw[hbody]
  refine⟨?_,fun w22 h22=>(zCf key (ofL (zco t)) (by rw[zai];omega) w22).mono fun v w23 ⟨e23,hv⟩=>⟨e23,_,hv,fun w25 h25=>?_⟩⟩
  ·show(ofL (zco t)).size+1<=_
   rw[zai];omega
  refine(hex_k _ (zkK hk _) w25 ((g.ext x14).ext h25)).mono fun v w26 ⟨e26,hv⟩=>⟨e26,_,hv,?_,fun w28 h28=>⟨x14.trans h28,_,0,rfl,⟨fun _=>⟨q1,q2,q3,q4,q5⟩,fun _=>rfl⟩,fun h=>absurd rfl h,fun _=>?_⟩⟩
  ·show(ofL (zco t)++ofL [46]).size+(ofL (zlE _ 16)).size<=_
   rw[zhm,zai,zai,zee,List.length_append,List.length_singleton];omega
  ·show(ofL (zco t)++ofL [46])++ofL (zlE _ 16)=_
   rw[zhm,zhm]
   unfold zcF zHM
   rw[List.append_assoc,zCJ]
   rfl
theorem zfQ{n:Int}(h:0<=n):(46:UInt8)∉Lib.itoa n:=fun hm=>by
 rw[zdH h] at hm
 have:=zcP _ _ hm
 have e:(46:UInt8).toNat=46:=rfl
 omega
theorem zFD{s:ByteArray}(h:lbB s=true):(46:UInt8)∉s.data.toList:=fun hm=>by
 unfold lbB at h
 simp only[Bool.and_eq_true] at h
 have:=List.all_eq_true.1 h.2 46 (List.mem_map.2 ⟨46,hm,rfl⟩)
 exact absurd this (by decide)
theorem zuc(t:Tk)(r:List UInt8):zco t++46::r=t.user.data.toList++46::(Lib.itoa t.from'++46::(Lib.itoa t.til++46::(Lib.itoa t.most++46::r))):=by
 unfold zco
 simp only[List.append_assoc,List.cons_append]
structure zx2(w:World):Prop extends GA w where
 maxLen:∃m,cell w (some (⟨5,0,none⟩:Addr)) 0=some (.int .i64 m)
 eSyn:∃v,cell w (some (⟨2,0,none⟩:Addr)) 0=some v/\isErr v
 eRan:∃v,cell w (some (⟨3,0,none⟩:Addr)) 0=some v/\isErr v
theorem zx2.ext{w w':World}(g:zx2 w)(e:Ext w w'):zx2 w' :=
 ⟨g.toGA.ext e,by obtain⟨m,h⟩:=g.maxLen;exact⟨m,zar e h⟩,by obtain⟨v,h,k⟩:=g.eSyn;exact⟨v,zar e h,k⟩,by obtain⟨v,h,k⟩:=g.eRan;exact⟨v,zar e h,k⟩⟩
theorem zvr(s:ByteArray)(hs:s.size<=281474976710656)(w:World)(g:zx2 w):FnP Tryz.prog zaW #[.string s,.int .i64 10,.int .i64 64] w fun v w'=>Ext w w'/\∃(n:Int) (ev:Value),v=.tuple #[.int .i64 n,ev] /\
  ((ev=.nilIface/\Lib.parseIntB 64 s.data.toList=.ok n)\/((∃a b,ev=.iface a b)/\∀m,Lib.parseIntB 64 s.data.toList≠.ok m)):=by
 have en:zmc Tryz.prog zaW:=fun args w=>Tryz.call94 args w
 cases hp:Lib.parseIntB 64 s.data.toList with
 |ok v =>
  refine⟨en,(Tryz.strconv_ParseInt_10_at64_ok s (by omega) v hp w).mono fun e w' ⟨he,hw⟩=>⟨_,he,?_,v,.nilIface,rfl,.inl ⟨rfl,rfl⟩⟩⟩
  rcases hw with rfl|⟨t,rfl⟩
  ·exact Ext.refl _
  ·exact Lib.bytesWorld_below w 5 t
 |range =>
  obtain⟨ev,h1,h2⟩:=g.eRan
  exact⟨en,(Tryz.strconv_ParseInt_10_at64_range s hs hp ev w (zsf h1) h2).mono fun e w' ⟨N,he,_,_,hb⟩=>⟨_,he,hb,_,_,rfl,.inr ⟨⟨_,_,rfl⟩,fun m h=>by cases h⟩⟩⟩
 |_ =>
  obtain⟨ev,h1,h2⟩:=g.eSyn
  exact⟨en,(Tryz.strconv_ParseInt_10_at64_syntax s hs hp ev w (zsf h1) h2).mono fun e w' ⟨N,he,_,_,hb⟩=>⟨_,he,hb,_,_,rfl,.inr ⟨⟨_,_,rfl⟩,fun m h=>by cases h⟩⟩⟩
def dot:ByteArray:=⟨#[46]⟩
theorem zov:∀{a:List UInt8}(b:List UInt8),(46:UInt8)∉a->Lib.index (a++46::b) [46]=a.length
 |[],b,_ => by rw[Lib.index_one];rfl
 |x::a,b,h => by
  have hx:¬x=46:=fun he=>h (by rw[he];exact List.mem_cons_self ..)
  have:=zov (a:=a) b fun hm=>h (List.mem_cons_of_mem _ hm)
  rw[Lib.index_one] at this ⊢
  simp only[List.cons_append,Lib.indexByte,this,beq_iff_eq,hx,if_false]
  rw[if_neg (by omega)]
  simp
theorem zrI:∀{a:List UInt8},(46:UInt8)∉a->Lib.index a [46]=-1
 |[],_ => rfl
 |x::a,h => by
  have hx:¬x=46:=fun he=>h (by rw[he];exact List.mem_cons_self ..)
  have:=zrI (a:=a) fun hm=>h (List.mem_cons_of_mem _ hm)
  rw[Lib.index_one] at this ⊢
  simp only[Lib.indexByte,this,beq_iff_eq,hx,if_false,if_true]
theorem zx3(a b:List UInt8):(ofL (a++46::b)).extract 0 (a.length+0)=ofL a:=by
 rw[<-za4 ((ofL (a++46::b)).extract 0 (a.length+0))]
 congr 1
 simp[ofL]
theorem zrH(a b:List UInt8):(ofL (a++46::b)).extract (a.length+dot.size) (ofL (a++46::b)).size=ofL b:=by
 rw[<-za4 ((ofL (a++46::b)).extract _ _)]
 congr 1
 have hd:dot.size=1:=rfl
 rw[hd,zai]
 simp[ofL]
 exact List.take_of_length_le (by omega)
theorem zg6{a b:List UInt8}(h:(46:UInt8)∉a)(k:Nat):Lib.splitB dot 0 (k+1) (ofL (a++46::b))=ofL a::Lib.splitB dot 0 k (ofL b):=by
 rw[Lib.splitB_hit dot 0 k _ a.length (zov b h),zx3,zrH]
theorem zg5{a b:List UInt8}(h:(46:UInt8)∉a):Lib.countB (ofL (a++46::b)) dot=1+Lib.countB (ofL b) dot:=by
 rw[Lib.countB_hit _ _ a.length (by decide) (zov b h),zrH]
theorem zvs{a:List UInt8}(h:(46:UInt8)∉a):Lib.countB (ofL a) dot=0:=Lib.countB_miss _ _ (zrI h)
theorem znf:∀(k:Nat)(s:ByteArray)(i:Nat)(p:ByteArray),(Lib.splitB dot 0 k s)[i]?=some p->p.size+i<=s.size
 |0,s,i,p,h => by
  rw[Lib.splitB_zero] at h
  cases i with
  |zero => simp at h;subst h;omega
  |succ i => simp at h
 |k+1,s,i,p,h => by
  rcases Lib.indexB_cases s dot with hm|⟨j,hj,hle⟩
  ·rw[Lib.splitB_miss dot 0 _ s hm] at h
   cases i with
   |zero => simp at h;subst h;omega
   |succ i => simp at h
  ·have hd:dot.size=1:=rfl
   rw[Lib.splitB_hit dot 0 k s j hj] at h
   cases i with
   |zero =>
    simp only[List.getElem?_cons_zero,Option.some.injEq] at h
    subst h
    rw[ByteArray.size_extract];omega
   |succ i =>
    simp only[List.getElem?_cons_succ] at h
    have:=znf k _ i p h
    rw[ByteArray.size_extract] at this
    omega
theorem dropW{p:UInt8->Bool}:∀{l:List UInt8},(∀x∈l,p x=true)->l.dropWhile p=[]
 |[],_ => rfl
 |x::l,h => by
  rw[List.dropWhile_cons,if_pos (h x (List.mem_cons_self ..))]
  exact dropW fun y hy=>h y (List.mem_cons_of_mem _ hy)
def zKP:ByteArray:=⟨#[48,49,50,51,52,53,54,55,56,57,97,98,99,100,101,102]⟩
theorem dgt_in:∀n:Nat,n<16->zKP.data.toList.contains (dgt n)=true:=by decide
theorem zKe(u k:Nat):Lib.trimS (zlE u k) zKP.data.toList=[]:=by
 have h:∀x∈zlE u k,zKP.data.toList.contains x=true:=fun x hx=>by
  obtain⟨j,_,rfl⟩:=List.mem_map.1 hx
  exact dgt_in _ (Nat.mod_lt _ (by omega))
 unfold Lib.trimS Lib.trimRightS Lib.trimLeftS
 have e:(zlE u k).reverse.dropWhile (zKP.data.toList.contains ·)=[]:=dropW fun x hx=>h x (List.mem_reverse.1 hx)
 rw[e];rfl
theorem zMS(u k:Nat):(46:UInt8)∉zlE u k:=fun hm=>by
 obtain⟨j,_,he⟩:=List.mem_map.1 hm
 have:∀n:Nat,n<16->dgt n≠46:=by decide
 exact this _ (Nat.mod_lt _ (by omega)) he
theorem Trim_k(s:ByteArray)(hs:s.size<=9223372036854775807)(w:World):FnP Tryz.prog zk3 #[.string s,.string zKP] w fun v w'=>Ext w w'/\v=.string (ofL (Lib.trimS s.data.toList zKP.data.toList)) :=
 ⟨fun args w=>Tryz.call93 args w,(Go.Proofs.Any.strings_Trim_laid Tryz.lays160 (by kernel_rfl) s zKP w hs (by decide) (fun j b h=>(show ∀b∈zKP.data.toList,b.toNat<128 by decide) b (List.mem_of_getElem? h))).mono fun e w' ⟨he,hb⟩=>⟨_,he,hb,rfl⟩⟩
theorem zDA(s:ByteArray)(hs:s.size<4294967281)(w:World)(g:zx2 w):FnP Tryz.prog zaX #[.string s,.string dot] w fun v w'=>Ext w w'/\v=.slice (some ⟨w.heap.size,0,none⟩) (Lib.countB s dot+1) (Lib.countB s dot+1) /\
  (∀i p,(Lib.splitB dot 0 (Lib.countB s dot) s)[i]?=some p->cell w' (some ⟨w.heap.size,0,none⟩) i=some (.string p))/\w.heap.size<w'.heap.size:=by
 obtain⟨m,hm⟩:=g.maxLen
 refine⟨fun args w=>Tryz.call92 args w,(Tryz.strings_Split s dot m w hs (zsf hm) (by decide)).mono fun e w' ⟨he,hw⟩=>⟨_,he,?_,rfl,fun i p hp=>?_,?_⟩⟩
 ·rw[hw];exact Below.alloc (Below.refl _ _) (Nat.le_refl _) _
 ·rw[hw]
  show World.cell? _ _=_
  have:(Addr.add ⟨w.heap.size,0,none⟩ i)=⟨w.heap.size,i,none⟩:=by simp[Addr.add];intro h;exact h.symm
  rw[this]
  rw[World.cell?_alloc_mark]
  simp[hp]
 ·rw[hw];show w.heap.size<(w.heap.push _).size;rw[Array.size_push];omega
def tk0:Tk:=⟨emS,0,0,0⟩
theorem ztY{key:Int}{t:Tk}(ht:okT t):Lib.countB (ofL (zcF key t)) dot=4/\Lib.splitB dot 0 4 (ofL (zcF key t))=[t.user,ofL (Lib.itoa t.from'),ofL (Lib.itoa t.til),ofL (Lib.itoa t.most),ofL (zlE (zHM key (zco t)) 16)]:=by
 obtain⟨a1,a2,a3,a4,a5⟩:=ht
 have d0:=zFD a1
 have d1:=zfQ (n:=t.from') (by omega)
 have d2:=zfQ (n:=t.til) (by omega)
 have d3:=zfQ (n:=t.most) (by omega)
 have d4:=zMS (zHM key (zco t)) 16
 unfold zcF
 rw[zuc]
 constructor
 ·rw[zg5 d0,zg5 d1,zg5 d2,zg5 d3,zvs d4]
 ·rw[zg6 d0,zg6 d1,zg6 d2,zg6 d3,Lib.splitB_zero,za4]
theorem zB7{key:Int}{t:Tk}(ht:okT t):(zcF key t).length<=103:=by
 have:=zv8 ht
 unfold zcF
 simp only[List.length_append,List.length_cons,zee];omega
theorem zGK(key:Int)(t:Tk):(ofL (zcF key t)).extract 0 ((ofL (zcF key t)).size-17)=ofL (zco t):=by
 rw[<-za4 ((ofL (zcF key t)).extract _ _)]
 congr 1
 rw[zai]
 have h:(zcF key t).length-17=(zco t).length:=by unfold zcF;simp[zee]
 rw[h]
 simp[ofL,zcF]
theorem zKn(key:Int)(hk:0<=key/\key<=18446744073709551615)(s:ByteArray)(hs:s.size<4294967281)(now:Int)(w:World)(g:zx2 w) :
  FnP Tryz.prog zfL #[.int .u64 key,.string s,.int .i64 now] w fun v w'=>Ext w w'/\∃(t:Tk) (e:Int),v=.tuple #[tkv t,.int .i64 e]/\t.user.size<=s.size/\(e≠0->t=tk0)/\(e=0->okT t/\s=ofL (zcF key t)/\t.from'<=now/\now<=t.til) /\
   (∀u,okT u->s=ofL (zcF key u)->(u.from'<=now->now<=u.til->e=0/\t=u)/\(now<u.from'\/u.til<now->e=11)):=by
 refine zsH key s now w _ fun b0 hb0 w1 x1=>?_
 have h1:=zaa x1
 have lt1:=x1.lt b0 (by simp)
 have g1:=g.ext h1
 refine(zDA s hs w1 g1).mono fun v w2 ⟨e2,hv,hparts,hlt2⟩=>⟨e2,_,_,_,hv,?_⟩
 have x2:Ext w w2:=h1.trans e2
 have np:(some (⟨w1.heap.size,0,none⟩:Addr))≠none:=by simp
 have bad:∀(w' w'':World)(e:Int),Ext w w'->zag [b0] [] w' w''->e≠0->(∀u,okT u->s=ofL (zcF key u)->(e=11/\(now<u.from'\/u.til<now))) ->
   (Ext w w''/\∃(t:Tk) (e':Int),Value.tuple #[.agg #[.string (⟨#[]⟩:ByteArray),.int .i64 0,.int .i64 0,.int .i64 0],.int .i64 e]=.tuple #[tkv t,.int .i64 e']/\t.user.size<=s.size/\(e'≠0->t=tk0)/\(e'=0->okT t/\s=ofL (zcF key t)/\t.from'<=now/\now<=t.til) /\
    (∀u,okT u->s=ofL (zcF key u)->(u.from'<=now->now<=u.til->e'=0/\t=u)/\(now<u.from'\/u.til<now->e'=11))):=by
  intro w' w'' e hx hx' hne hu
  refine⟨zax hx' hx (by simpa using hb0),tk0,e,rfl,Nat.zero_le _,fun _=>rfl,fun h=>absurd h hne,fun u ho hsu=>⟨fun a b=>?_,fun _=>(hu u ho hsu).1⟩⟩
  have:=(hu u ho hsu).2
  omega
 refine⟨fun _=>np,fun _=>by omega,fun h=>by omega,fun hne w6 x6=>bad w2 w6 3 x2 x6 (by omega) fun u ho hsu=>?_,fun h5=>?_⟩
 ·have:=(ztY (key:=key) ho).1
  rw[<-hsu] at this
  omega
 have hc4:Lib.countB s dot=4:=by omega
 rw[hc4] at hparts
 have hlen:=Lib.splitB_all dot (by decide) 0 4 s hc4
 obtain⟨p0,p1,p2,p3,p4,hp⟩:∃p0 p1 p2 p3 p4,Lib.splitB dot 0 4 s=[p0,p1,p2,p3,p4]:=by
  match Lib.splitB dot 0 4 s,hlen with
  |[a,b,c,d,e],_ => exact⟨a,b,c,d,e,rfl⟩
 rw[hp] at hparts
 have hsz:=fun i p h=>znf 4 s i p (by rw[hp];exact h)
 have s4:=hsz 4 p4 rfl
 have c2:∀(i:Nat)(p:ByteArray),[p0,p1,p2,p3,p4][i]?=some p->∀w',Ext w2 w'->∀k:Int,k=(i:Int)->cell w' (pIdx (some ⟨w1.heap.size,0,none⟩) k 1) 0=some (.string p):=fun i p h w' hw' k hk=>by
  rw[zae,show k.toNat*1+0=i by omega]
  exact zar hw' (hparts i p h)
 have same:∀u,okT u->s=ofL (zcF key u)->p0=u.user/\p1=ofL (Lib.itoa u.from')/\p2=ofL (Lib.itoa u.til)/\p3=ofL (Lib.itoa u.most)/\p4=ofL (zlE (zHM key (zco u)) 16):=fun u ho hsu=>by
  have:=(ztY (key:=key) ho).2
  rw[<-hsu,hp] at this
  simpa using this
 refine⟨p4,c2 4 p4 rfl w2 (Ext.refl _) 4 rfl,fun _=>np,fun _=>by omega,fun _=>by omega,fun hne w7 x7=>bad w2 w7 3 x2 x7 (by omega) fun u ho hsu=>?_,fun h16=>?_⟩
 ·have:=(same u ho hsu).2.2.2.2
  rw[this,zai,zee] at hne
  omega
 refine⟨p4,c2 4 p4 rfl w2 (Ext.refl _) 4 rfl,fun w8 h8=>(Trim_k p4 (by omega) w8).mono fun v w9 ⟨e9,hv⟩=>⟨e9,_,hv,fun hne w11 x11=>bad w2 w11 3 x2 x11 (by omega) fun u ho hsu=>?_,fun htrim=>⟨i64 (by omega),by omega,by omega,by omega,np,by omega,by omega,p4,c2 4 p4 rfl w2 (Ext.refl _) 4 rfl,fun w12 h12=>?_⟩⟩⟩
 ·have:=(same u ho hsu).2.2.2.2
  rw[this,za6,zKe] at hne
  exact absurd rfl hne
 have hbody:(s.extract (0:Int).toNat ((s.size:Int)-17).toNat)=s.extract 0 (s.size-17):=by
  rw[show((s.size:Int)-17).toNat=s.size-17 by omega];rfl
 rw[hbody]
 refine(zCf key (s.extract 0 (s.size-17)) (by rw[ByteArray.size_extract];omega) w12).mono fun v w13 ⟨e13,hv⟩=>⟨e13,_,hv,fun w15 h15=>(hex_k _ (zkK hk _) w15 ((g.ext x2).ext h15).toGA).mono fun v w16 ⟨e16,hv⟩=>⟨e16,_,hv,fun hne w18 x18=>bad w2 w18 12 x2 x18 (by omega) fun u ho hsu=>?_,fun heq=>?_⟩⟩
 ·exfalso
  apply hne
  rw[(same u ho hsu).2.2.2.2,hsu,zGK]
  rfl
 refine⟨np,by omega,by omega,p0,c2 0 p0 rfl w2 (Ext.refl _) 0 rfl,fun w19 x19=>?_⟩
 have h19:=zaa x19
 have lt19:=x19.lt b0 (by simp)
 have x19':=x2.trans h19
 refine zbc (by simp[Value.oneCell']) fun w20 o20 e20=>?_
 have o20:=o20 w.heap.size x19'.size
 have np2:(some (⟨w19.heap.size,0,none⟩:Addr))≠none:=by simp
 have nb:∀b∈[b0],∀x,(some (⟨w19.heap.size,0,none⟩:Addr))=some x->x.block≠b:=fun b hb x hx=>by
  cases hx
  obtain rfl:b=b0:=by simpa using hb
  simp only;omega
 have st0:zak w20 (some ⟨w19.heap.size,0,none⟩) [.string p0,.int .i64 0,.int .i64 0,.int .i64 0] [b0] fun w21=>Own w.heap.size w21 104 4 (some ⟨w19.heap.size,0,none⟩) 1 1 [.string p0,.int .i64 0,.int .i64 0,.int .i64 0]/\zcr w20 w21 (some ⟨w19.heap.size,0,none⟩) (some ⟨w19.heap.size,0,none⟩):=by
  refine zaU (off:=0) o20 (zeZ _) (by simp) (by simp) (by simp[Value.oneCell']) nb fun w' o' g'=>⟨o',g'⟩
 refine⟨st0.1,fun w21 hw21=>?_⟩
 obtain⟨o21,g21⟩:=st0.2 w21 hw21
 have x21:Ext w w21:=zcr.ext g21 (x19'.trans e20) o20
 have k21:Ext w2 w21:=Fr.ext (S:=fun b=>b=w19.heap.size) (zaT g21 fun a ha=>by cases ha;rfl) (h19.trans e20) fun b hb=>by rw[hb];exact h19.size
 refine⟨np2,np2,np2,fun w22 x22=>?_⟩
 have h22:=zaa x22
 refine zce (t:=173) (e:=172) (s:=1) (b:=8) (z:=.pointer none) (by kernel_rfl) [.pointer (pAdd (some ⟨w19.heap.size,0,none⟩) 1),.pointer (pAdd (some ⟨w19.heap.size,0,none⟩) 2),.pointer (pAdd (some ⟨w19.heap.size,0,none⟩) 3)] rfl rfl (by intro u hu;simp at hu;rcases hu with rfl|rfl|rfl<;>rfl) (by simp) (by simp) fun w23 o23 e23=>⟨e23,_,_,_,rfl,?_⟩
 have o23c:=(o23 0 (Nat.zero_le _)).cells
 have o21':=(o21.ext h22).ext e23
 have hw19:w19.heap.size<w23.heap.size:=(o21'.lt _ rfl).2
 have nq:w22.heap.size≠w19.heap.size:=by have:=((o21.ext h22).lt _ rfl).2;simp at this;omega
 have npt:(some (⟨w22.heap.size,0,none⟩:Addr))≠none:=by simp
 refine⟨fun k w'=>0<=k/\k<=3/\Ext w w'/\Ext w2 w'/\b0<w'.heap.size/\zaw w' (some ⟨w22.heap.size,0,none⟩) [.pointer (pAdd (some ⟨w19.heap.size,0,none⟩) 1),.pointer (pAdd (some ⟨w19.heap.size,0,none⟩) 2),.pointer (pAdd (some ⟨w19.heap.size,0,none⟩) 3)] /\
   ∃a:List Int,a.length=3/\Own w.heap.size w' 104 4 (some ⟨w19.heap.size,0,none⟩) 1 1 (.string p0::a.map (.int .i64))/\∀u,okT u->s=ofL (zcF key u)->∀j:Nat,(j:Int)<k->a.getD j 0=[u.from',u.til,u.most].getD j 0,
  fun k _=>(3-k).toNat,⟨by omega,by omega,(x21.trans h22).trans e23,(k21.trans h22).trans e23,by omega,o23c,[0,0,0],rfl,o21',fun u _ _ j hj=>by omega⟩,?_⟩
 rintro k w29 ⟨hk0,hk1,x29,k29,lt29,hcs,a,ha,o29,hsame⟩
 refine⟨fun hlt=>?_,fun hge=>?_⟩
 ·have hk3:k<3:=by simpa using hlt
  have hpk:cell w29 (pIdx (some ⟨w22.heap.size,0,none⟩) k 1) 0=some (.pointer (pAdd (some ⟨w19.heap.size,0,none⟩) (k.toNat+1))):=by
   rw[zae]
   refine hcs _ _ ?_
   have:k.toNat=0\/k.toNat=1\/k.toNat=2:=by omega
   rcases this with h|h|h<;>rw[h]<;>rfl
  obtain⟨pk,hpk1⟩:∃pk,[p0,p1,p2,p3,p4][k.toNat+1]?=some pk:=⟨_,List.getElem?_eq_getElem (by simp;omega)⟩
  have spk:=hsz _ pk hpk1
  refine⟨npt,hk0,hlt,_,hpk,i64 (by omega),np,by omega,by omega,pk,c2 (k.toNat+1) pk hpk1 w29 k29 (k+1) (by omega),fun w32 x32=>?_⟩
  have h32:=zaa x32
  refine(zvr pk (by omega) w32 ((g.ext x29).ext h32)).mono fun v w33 ⟨e33,n,ev,hv,hcase⟩=>⟨e33,n,ev,hv,fun w36 h36=>?_⟩
  have hev:isErr ev:=hcase.elim (fun h=>.inl h.1) fun h=>.inr h.1
  refine ziL (by kernel_rfl) hev fun b hb=>⟨Ext.refl _,b,rfl,fun hbt w39 x39=>?_,fun hbf=>?_⟩
  ·refine bad w33 w39 3 ((x29.trans h32).trans e33) x39 (by omega) fun u ho hsu=>?_
   exfalso
   rcases hcase with⟨h,_⟩|⟨_,hno⟩
   ·rw[hbt] at hb;exact absurd (hb.2 h) (by simp)
   ·obtain⟨q0,q1,q2,q3,q4⟩:=same u ho hsu
    obtain⟨a1,a2,a3,a4,a5⟩:=ho
    have:k.toNat=0\/k.toNat=1\/k.toNat=2:=by omega
    rcases this with h|h|h<;>rw[h] at hpk1<;>simp only[List.getElem?_cons_succ,List.getElem?_cons_zero,Option.some.injEq] at hpk1<;>subst hpk1
    ·rw[q1,za6] at hno;exact hno _ (zbN (by omega))
    ·rw[q2,za6] at hno;exact hno _ (zbN (by omega))
    ·rw[q3,za6] at hno;exact hno _ (zbN (by omega))
  ·have hn:Lib.parseIntB 64 pk.data.toList=.ok n:=by
    rcases hcase with⟨_,h⟩|⟨⟨x,y,h⟩,_⟩
    ·exact h
    ·have:=hb.1 hbf;rw[h] at this;cases this
   refine⟨by simp[pAdd],?_⟩
   have o33:=((o29.ext h32).ext e33)
   refine zbF o33 (by simp[ha];omega) rfl (fun b hb x hx=>nb b hb x hx) fun w39 o39 g39=>⟨i64 (by omega),⟨by omega,by omega,?_,?_,?_,?_,a.set k.toNat n,by simp[ha],?_,fun u ho hsu j hj=>?_⟩,by simp only[];omega⟩
   ·exact zcr.ext g39 ((x29.trans h32).trans e33) o33
   ·exact Fr.ext (S:=fun b=>b=w19.heap.size) (zaT g39 fun a ha=>by cases ha;rfl) ((k29.trans h32).trans e33) fun b hb=>by rw[hb];exact h19.size
   ·have:=x32.lt b0 (by simp)
    have:=e33.size
    have:=g39.by_.size
    omega
   ·refine zaw.fr (S:=fun b=>b=w19.heap.size) ((hcs.ext h32).ext e33) (zaT g39 fun a ha=>by cases ha;rfl) fun a ha=>?_
    cases ha;exact nq
   ·rw[List.map_set];exact o39
   ·by_cases hjk:(j:Int)<k
    ·rw[zqJ _ _ _ _ (by omega),if_neg (by omega)];exact hsame u ho hsu j hjk
    ·obtain rfl:j=k.toNat:=by omega
     rw[zqJ _ _ _ _ (by omega),if_pos rfl]
     obtain⟨q0,q1,q2,q3,q4⟩:=same u ho hsu
     obtain⟨a1,a2,a3,a4,a5⟩:=ho
     have:k.toNat=0\/k.toNat=1\/k.toNat=2:=by omega
     rcases this with h|h|h<;>rw[h] at hpk1 ⊢<;>simp only[List.getElem?_cons_succ,List.getElem?_cons_zero,Option.some.injEq] at hpk1<;>subst hpk1
     ·rw[q1,za6,zbN (by omega)] at hn;injection hn with e;exact e.symm
     ·rw[q2,za6,zbN (by omega)] at hn;injection hn with e;exact e.symm
     ·rw[q3,za6,zbN (by omega)] at hn;injection hn with e;exact e.symm
 ·have hk3:k=3:=by simp at hge;omega
  obtain⟨a1,a2,a3,rfl⟩:∃a1 a2 a3,a=[a1,a2,a3]:=by
   match a,ha with
   |[x,y,z],_ => exact⟨x,y,z,rfl⟩
  let t:Tk:=⟨p0,a1,a2,a3⟩
  have s0:=hsz 0 p0 rfl
  have tu:∀u,okT u->s=ofL (zcF key u)->t=u:=fun u ho hsu=>by
   have q0:=(same u ho hsu).1
   have z:=hsame u ho hsu
   have z0:=z 0 (by omega)
   have z1:=z 1 (by omega)
   have z2:=z 2 (by omega)
   simp at z0 z1 z2
   cases u
   simp only[t] at *
   rw[q0,z0,z1,z2]
  refine⟨np2,_,o29.cellAt (i:=0) rfl,_,o29.cellAt (i:=1) rfl,_,o29.cellAt (i:=2) rfl,_,o29.cellAt (i:=3) rfl,fun w34 h34=>?_⟩
  refine(zD5 key hk t (by show p0.size<=_;omega) w34 ((g.ext x29).ext h34).toGA).mono fun v w35 ⟨e35,s',e,hv,he,hne,h0e⟩=>⟨e35,s',e,hv,fun hor w38 x38=>bad w29 w38 3 x29 x38 (by omega) fun u ho hsu=>?_,fun hand=>?_⟩
  ·exfalso
   have htu:=tu u ho hsu
   have e0:e=0:=he.2 (by rw[htu];exact ho)
   rcases hor with h|h
   ·exact h e0
   ·exact h (by rw[h0e e0,htu,hsu])
  ·have ht:=he.1 hand.1
   have hst:s=ofL (zcF key t):=by rw[<-hand.2];exact h0e hand.1
   refine⟨np2,a1,o29.cellAt0 (i:=1) rfl,fun _=>np2,fun hlt w39 x39=>bad w29 w39 11 x29 x39 (by omega) fun u ho hsu=>?_,fun hle=>⟨a2,o29.cellAt0 (i:=2) rfl,fun hlt w40 x40=>bad w29 w40 11 x29 x40 (by omega) fun u ho hsu=>?_,fun hle2=>⟨np2,_,o29.cellAt (i:=0) rfl,_,o29.cellAt (i:=1) rfl,_,o29.cellAt (i:=2) rfl,_,o29.cellAt (i:=3) rfl,fun w44 x44=>?_⟩⟩⟩
   ·have:=tu u ho hsu
    rw[<-this];exact⟨rfl,.inl hlt⟩
   ·have:=tu u ho hsu
    rw[<-this];exact⟨rfl,.inr hlt⟩
   ·refine⟨zax x44 x29 (by simpa using hb0),t,0,rfl,s0,fun h=>absurd rfl h,fun _=>⟨ht,hst,hle,hle2⟩,fun u ho hsu=>⟨fun _ _=>⟨rfl,tu u ho hsu⟩,fun hor=>?_⟩⟩
    have:=tu u ho hsu
    rw[<-this] at hor
    simp only[t] at hor
    omega
end Go.Proofs.YtcceeahmcecbnaaGreatDoor
namespace Go.Proofs
open Go.RowKit
def Tryz.lays166_ren:Go.Shelf.Ren:=⟨fun|166=>99|240=>148|276=>199|n=>n,fun|0=>0|3=>3|4=>4|5=>5|9=>9|20=>20|37=>93|70=>182|72=>184|75=>175|80=>190|164=>258|n=>n,fun|n=>n⟩
theorem Tryz.lays166:Go.Proofs.Lays.n166 Tryz.prog Tryz.lays166_ren:={
 mixed:=by kernel_rfl
 f166:=Tryz.func99.trans (congrArg some (by kernel_rfl))
 f240:=Tryz.func148.trans (congrArg some (by kernel_rfl))
 f276:=Tryz.func199.trans (congrArg some (by kernel_rfl))
 t0:=Tryz.underlying0
 a0:=Tryz.isAgg0
 z0:=Tryz.sizeOf0
 v0:=Tryz.zeroValue0
 t3:=Tryz.underlying3
 a3:=Tryz.isAgg3
 z3:=Tryz.sizeOf3
 v3:=Tryz.zeroValue3
 t4:=Tryz.underlying4
 a4:=Tryz.isAgg4
 z4:=Tryz.sizeOf4
 v4:=Tryz.zeroValue4
 t9:=Tryz.underlying9
 a9:=Tryz.isAgg9
 z9:=Tryz.sizeOf9
 v9:=Tryz.zeroValue9
 t20:=Tryz.underlying20
 a20:=Tryz.isAgg20
 z20:=Tryz.sizeOf20
 v20:=Tryz.zeroValue20
 t37:=Tryz.underlying93
 a37:=Tryz.isAgg93
 z37:=Tryz.sizeOf93
 v37:=Tryz.zeroValue93
 t70:=Tryz.underlying182
 a70:=Tryz.isAgg182
 z70:=Tryz.sizeOf182
 v70:=Tryz.zeroValue182
 t72:=Tryz.underlying184
 a72:=Tryz.isAgg184
 z72:=Tryz.sizeOf184
 v72:=Tryz.zeroValue184
 t75:=Tryz.underlying175
 a75:=Tryz.isAgg175
 z75:=Tryz.sizeOf175
 v75:=Tryz.zeroValue175
 t164:=Tryz.underlying258
 a164:=Tryz.isAgg258
 z164:=Tryz.sizeOf258
 v164:=Tryz.zeroValue258 }
theorem Tryz.Builder_Extra_166:Builder.Extra Tryz.prog Tryz.lays166_ren:={
 sizeBuilder:=by kernel_rfl
 liesBuilder:=by kernel_rfl
 t5:=Tryz.underlying5
 a5:=Tryz.isAgg5
 z5:=Tryz.sizeOf5
 v5:=Tryz.zeroValue5
 infoByte:=by kernel_rfl
 cellsByte:=by kernel_rfl
 sizeByte:=by kernel_rfl
 neB5:=by decide }
theorem Tryz.Builder_WriteString_k(B b:Nat)(bs:List Value)(s:ByteArray)(w:World)(h:Lib.IsBuilderF 184 5 B b bs w)(hlen:bs.length+s.size<=140737488355328)(hBw:B<=w.heap.size) :
 Calls Tryz.prog 99 #[.pointer (some ⟨b,0,none⟩),.string s] w fun e w'=>e=.returned (.tuple #[.int .i64 s.size,.nilIface])/\(Lib.BuilderAtF 184 5 B b (.pointer (some ⟨b,0,none⟩)) (bs++Lib.strCells s) w'/\Below B w w'/\Lib.OthersKept 5 (some b) w w'):=Any.Builder_WriteString_k Tryz.lays166 Tryz.Builder_Extra_166 B b bs s w h hlen hBw
end Go.Proofs
namespace Go.Proofs.YtcceeahmcecbnaaGreatDoor
open Go.Sx Go.RowKit
abbrev zjJ:FuncId:=95
abbrev zmj:FuncId:=97
abbrev ze6:FuncId:=98
abbrev zft:FuncId:=99
abbrev zgO:FuncId:=100
abbrev zmk:FuncId:=101
abbrev zhJ:FuncId:=102
abbrev zsa:FuncId:=145
abbrev zk4:FuncId:=146
abbrev zbk:FuncId:=147
abbrev zcA:FuncId:=150
abbrev zbH:FuncId:=198
abbrev zb2:FuncId:=200
abbrev zbf:FuncId:=201
abbrev zbg:FuncId:=239
abbrev zcZ:FuncId:=243
def zvN(M:ByteArray)(B N:Value)(O:World)(w:Value->World->Prop):Prop:=
 ∃(h:ByteArray->World->Prop) (i:ByteArray->World->Nat),h M O/\∀(j:ByteArray)(f:World),h j f->∀k,Ext f k->FnP Tryz.prog zbI #[(.string j),(.string (⟨#[36]⟩:ByteArray))] k fun C D=>Ext k D/\∃x l m,C=(.tuple #[(.string x),(.string l),(.bool m)])/\∀y,Ext f y->zgP Tryz.prog B [(.string x)] y fun E a=>E=(.tuple #[])/\((m=false)->∀b,Ext a b->w (.bool true) b)/\((m=true)->∀b,Ext a b->FnP Tryz.prog zcA #[(.string l),(.string (⟨#[36]⟩:ByteArray))] b fun F G=>Ext b G/\∃n o,F=(.tuple #[(.string n),(.bool o)])/\(((o=true)->∀c,Ext a c->zgP Tryz.prog B [(.string (⟨#[36]⟩:ByteArray))] c fun v g=>v=(.tuple #[])/\(h n g/\i n g<i j f)))/\((o=false)->∀c,Ext a c->FnP Tryz.prog zbI #[(.string l),(.string (⟨#[125]⟩:ByteArray))] c fun v g=>Ext c g/\∃z p q,v=(.tuple #[(.string z),(.string p),(.bool q)])/\∀r,Ext a r->FnP Tryz.prog zcA #[(.string z),(.string (⟨#[123]⟩:ByteArray))] r fun H I=>Ext r I/\∃s t,H=(.tuple #[(.string s),(.bool t)])/\(((t=false)\/(q=false))->∀d,Ext a d->w (.bool false) d)/\(((t=true)/\(q=true))->∀d,Ext a d->FnP Tryz.prog za0 #[(.string s)] d fun J K=>Ext d K/\∃u,J=(.bool u)/\((u=false)->∀e,Ext a e->w (.bool false) e)/\((u=true)->∀e,Ext a e->zgP Tryz.prog N [(.string s)] e fun L A=>L=(.tuple #[])/\(h p A/\i p A<i j f)))))
theorem zu7(a:ByteArray)(b c:Value)(d:World)(e:Value->World->Prop)(h:zvN a b c d e):FnP Tryz.prog zgO #[(.string a),b,c] d e:=
 zab (Eq.mp (by kernel_rfl:_=Runs Tryz.prog e ({N:=62,muts:=[1000000]}:Cfg) Tryz.f100 (Tryz.f100.body.getD .skip) [.sc (.str a),.sc (.val b),.sc (.val c)] d) h) Tryz.func100 (by kernel_rfl) (fun a w=>Tryz.call100 a w) (by kernel_rfl) (by kernel_rfl) rfl rfl
def zvM(d:ByteArray)(m:World)(e:Value->World->Prop):Prop:=
 ((2000<(d.size:Int))->∀a,Ext m a->e (.tuple #[(.slice none 0 0),(.int .i64 2)]) a)/\(((d.size:Int)<=2000)->∀a,Ext m a->New a 22 [(.slice none 0 0)] fun l n=>∀f,Ext n f->FnP Tryz.prog zgO #[(.string d),(.func (.func 145) #[] #[]),(.func (.func 146) #[] #[(.pointer l)])] f fun o c=>∃b,o=(.bool b)/\((b=false)->∀g,Ext c g->e (.tuple #[(.slice none 0 0),(.int .i64 3)]) g)/\((b=true)->∃h i j,cell c l 0=some (.slice h i j)/\∀k,Ext c k->e (.tuple #[(.slice h i j),(.int .i64 0)]) k))
theorem zu6(a:ByteArray)(b:World)(c:Value->World->Prop)(h:zvM a b c):FnP Tryz.prog zjJ #[(.string a)] b c:=
 zab (Eq.mp (by kernel_rfl:_=Runs Tryz.prog c ({N:=15,pub:=[4],muts:=[100]}:Cfg) Tryz.f95 (Tryz.f95.body.getD .skip) [.sc (.str a)] b) h) Tryz.func95 (by kernel_rfl) (fun a w=>Tryz.call95 a w) (by kernel_rfl) (by kernel_rfl) rfl rfl
def zrX(d:ByteArray)(b:World)(c:Value->World->Prop):Prop:=
 ∀a,Ext b a->c (.tuple #[]) a
theorem zrh(a:ByteArray)(b:World)(c:Value->World->Prop)(h:zrX a b c):FnP Tryz.prog zsa #[(.string a)] b c:=
 zab (Eq.mp (by kernel_rfl:_=Runs Tryz.prog c ({N:=2}:Cfg) Tryz.f145 (Tryz.f145.body.getD .skip) [.sc (.str a)] b) h) Tryz.func145 (by kernel_rfl) (fun a w=>Tryz.call145 a w) (by kernel_rfl) (by kernel_rfl) rfl rfl
def zrY(v:ByteArray)(e:Option Addr)(a:World)(w:Value->World->Prop):Prop:=
 ∃f g h,cell a e 0=some (.slice f g h)/\∀b,Ext a b->FnP Tryz.prog zbk #[(.slice f g h),(.string v)] b fun x y=>Ext b y/\∃c,x=(.bool c)/\(((c=false)->∃i j k,cell a e 0=some (.slice i j k)/\∀d,Ext a d->Run Tryz.prog (.buildSlice 22 1 [(0,(.string v))]) d fun z u=>Ext d u/\∃l m n,z=(.slice l m n)/\∀o,Ext u o->Run Tryz.prog (.append #[22,22] 22 [(.slice i j k),(.slice l m n)]) o fun A B=>∃p q r,A=(.slice p q r)/\zak B e [(.slice p q r)] [] fun C=>∀s,Ext C s->w (.tuple #[]) s))/\((c=true)->∀t,Ext a t->w (.tuple #[]) t)
theorem zri(a:ByteArray)(b:Option Addr)(c:World)(d:Value->World->Prop)(h:zrY a b c d):FnP Tryz.prog zk4 #[(.string a),(.pointer b)] c d:=
 zab (Eq.mp (by kernel_rfl:_=Runs Tryz.prog d ({N:=11}:Cfg) Tryz.f146 (Tryz.f146.body.getD .skip) [.sc (.str a),.sc (.ptr b)] c) h) Tryz.func146 (by kernel_rfl) (fun a w=>Tryz.call146 a w) (by kernel_rfl) (by kernel_rfl) rfl rfl
def zys(X:ByteArray)(x:Option Addr)(r al:Nat)(ak:World)(i:Value->World->Prop):Prop:=
 ∀y,Ext ak y->FnP Tryz.prog zjJ #[(.string X)] y fun aa w=>Ext y w/\∃z s Y t,aa=(.tuple #[(.slice z s Y),(.int .i64 t)])/\((t≠0)->∀d,Ext w d->i (.tuple #[(.string (⟨#[]⟩:ByteArray)),(.int .i64 t)]) d)/\((t=0)->((8<(r:Int))->∀d,Ext w d->i (.tuple #[(.string (⟨#[]⟩:ByteArray)),(.int .i64 2)]) d)/\(((r:Int)<=8)->∀d,Ext w d->Run Tryz.prog (.makeMap 179) d fun ab S=>Ext d S/\∃K,ab=K/\∀L,Ext S L->New L 179 [(.map none)] fun p ac=>zak ac p [K] [] fun ad=>∃(I:Int->World->Prop) (V:Int->World->Nat),I 0 ad/\∀(b:Int)(a:World),I b a->(((b<(r:Int))->x≠none/\(0:Int)<=b/\(b:Int)<(r:Int)/\(pIdx x b 2)≠none/\∃u,cell a (pIdx x b 2) 0=some (.string u)/\∃M,cell a (pIdx x b 2) 1=some (.string M)/\∀A:Nat,a.heap.size<=A->∃k,cell a p 0=some k/\∀l,Ext a l->Run Tryz.prog (.lookup 179 k (.string u) true) l fun ae f=>Ext l f/\∃Z m,ae=(.tuple #[(.string Z),(.bool m)])/\∀B,Ext a B->FnP Tryz.prog za0 #[(.string u)] B fun af h=>Ext B h/\∃C,af=(.bool C)/\((C=false)->∀n,Ext a n->i (.tuple #[(.string (⟨#[]⟩:ByteArray)),(.int .i64 3)]) n)/\((C=true)->((m=true)->∀n,Ext a n->i (.tuple #[(.string (⟨#[]⟩:ByteArray)),(.int .i64 6)]) n)/\((m=false)->∃v,cell a p 0=some v/\∀g,zag [] [A] a g->Run Tryz.prog (.mapUpdate 179 v (.string u) (.string M)) g fun T q=>zbY [A] g q/\InR .i64 (b+1)/\(I (b+1) q/\V (b+1) q<V b a)))))/\(((r:Int)<=b)->∃(J:Int->World->Prop) (W:Int->World->Nat),J 0 a/\∀(c:Int)(e:World),J c e->(((c<(s:Int))->z≠none/\(0:Int)<=c/\(c:Int)<(s:Int)/\∃k,cell e (pIdx z c 1) 0=some (.string k)/\∃N,cell e p 0=some N/\∀f,Ext e f->Run Tryz.prog (.lookup 179 N (.string k) true) f fun ag E=>Ext f E/\∃m j,ag=(.tuple #[(.string m),(.bool j)])/\((j=false)->∀h,Ext e h->i (.tuple #[(.string (⟨#[]⟩:ByteArray)),(.int .i64 5)]) h)/\((j=true)->InR .i64 (c+1)/\(J (c+1) e/\W (c+1) e<W c e))))/\(((s:Int)<=c)->∀O,Ext e O->New O 184 [(.pointer none),(.slice none 0 0)] fun F l=>∀f,Ext l f->New f 188 [.nilFunc] fun G E=>zak E G [(.func (.func 97) #[] #[(.pointer F)])] [] fun U=>∃j,cell U G 0=some j/\∀h,Ext U h->FnP Tryz.prog zgO #[(.string X),j,(.func (.func 101) #[] #[(.pointer G),(.pointer p)])] h fun ah H=>∃v,ah=(.bool v)/\∀g,Ext H g->FnP Tryz.prog ze6 #[(.pointer F)] g fun T q=>Ext g q/\∃D,T=(.int .i64 D)/\((2000<D)->∀o,Ext H o->i (.tuple #[(.string (⟨#[]⟩:ByteArray)),(.int .i64 2)]) o)/\((D<=2000)->∀o,Ext H o->FnP Tryz.prog zhJ #[(.pointer F)] o fun ai aj=>∃P,ai=(.string P)/\∀R,Ext aj R->i (.tuple #[(.string P),(.int .i64 0)]) R)))))
theorem zxv(a:ByteArray)(b:Option Addr)(c d:Nat)(e:World)(f:Value->World->Prop)(h:zys a b c d e f):FnP Tryz.prog zlr #[(.string a),(.slice b c d)] e f:=
 zab (Eq.mp (by kernel_rfl:_=Runs Tryz.prog f ({N:=82,pub:=[8,17,18],muts:=[100,102]}:Cfg) Tryz.f47 (Tryz.f47.body.getD .skip) [.sc (.str a),.sc (.slc b c d)] e) h) Tryz.func47 (by kernel_rfl) (fun a w=>Tryz.call47 a w) (by kernel_rfl) (by kernel_rfl) rfl rfl
def zth(n:ByteArray)(f:Option Addr)(d:World)(g:Value->World->Prop):Prop:=
 ∀b,Ext d b->FnP Tryz.prog ze6 #[(.pointer f)] b fun j k=>Ext b k/\∃c,j=(.int .i64 c)/\(((c<=2000)->∀a,Ext d a->FnP Tryz.prog zft #[(.pointer f),(.string n)] a fun l m=>∃h i,l=(.tuple #[(.int .i64 h),i])/\∀e,Ext m e->g (.tuple #[]) e))/\((2000<c)->∀a,Ext d a->g (.tuple #[]) a)
theorem zsJ(a:ByteArray)(b:Option Addr)(c:World)(d:Value->World->Prop)(h:zth a b c d):FnP Tryz.prog zmj #[(.string a),(.pointer b)] c d:=
 zab (Eq.mp (by kernel_rfl:_=Runs Tryz.prog d ({N:=7,muts:=[99]}:Cfg) Tryz.f97 (Tryz.f97.body.getD .skip) [.sc (.str a),.sc (.ptr b)] c) h) Tryz.func97 (by kernel_rfl) (fun a w=>Tryz.call97 a w) (by kernel_rfl) (by kernel_rfl) rfl rfl
def zti(l:ByteArray)(m n:Option Addr)(a:World)(o:Value->World->Prop):Prop:=
 ∃c,cell a m 0=some c/\∃d,cell a n 0=some d/\∀b,Ext a b->Run Tryz.prog (.lookup 179 d (.string l) false) b fun h i=>Ext b i/\∃e,h=(.string e)/\∀f,Ext a f->zgP Tryz.prog c [(.string e)] f fun j k=>j=(.tuple #[])/\∀g,Ext k g->o (.tuple #[]) g
theorem zsK(a:ByteArray)(b c:Option Addr)(d:World)(e:Value->World->Prop)(h:zti a b c d e):FnP Tryz.prog zmk #[(.string a),(.pointer b),(.pointer c)] d e:=
 zab (Eq.mp (by kernel_rfl:_=Runs Tryz.prog e ({N:=9,muts:=[1000000]}:Cfg) Tryz.f101 (Tryz.f101.body.getD .skip) [.sc (.str a),.sc (.ptr b),.sc (.ptr c)] d) h) Tryz.func101 (by kernel_rfl) (fun a w=>Tryz.call101 a w) (by kernel_rfl) (by kernel_rfl) rfl rfl
def zte(i j:ByteArray)(f:World)(k:Value->World->Prop):Prop:=
 ∀a,Ext f a->FnP Tryz.prog zb2 #[(.string i),(.string j)] a fun g h=>Ext a h/\∃b c d,g=(.tuple #[(.string b),(.string c),(.bool d)])/\∀e,Ext f e->k (.tuple #[(.string b),(.string c),(.bool d)]) e
theorem zsG(a b:ByteArray)(c:World)(d:Value->World->Prop)(h:zte a b c d):FnP Tryz.prog zbI #[(.string a),(.string b)] c d:=
 zab (Eq.mp (by kernel_rfl:_=Runs Tryz.prog d ({N:=13}:Cfg) Tryz.f149 (Tryz.f149.body.getD .skip) [.sc (.str a),.sc (.str b)] c) h) Tryz.func149 (by kernel_rfl) (fun a w=>Tryz.call149 a w) (by kernel_rfl) (by kernel_rfl) rfl rfl
def zk1(h i:ByteArray)(e:World)(j:Value->World->Prop):Prop:=
 ∀a,Ext e a->FnP Tryz.prog zbf #[(.string h),(.string i)] a fun f g=>Ext a g/\∃b c,f=(.tuple #[(.string b),(.bool c)])/\∀d,Ext e d->j (.tuple #[(.string b),(.bool c)]) d
theorem zkV(a b:ByteArray)(c:World)(d:Value->World->Prop)(h:zk1 a b c d):FnP Tryz.prog zcA #[(.string a),(.string b)] c d:=
 zab (Eq.mp (by kernel_rfl:_=Runs Tryz.prog d ({N:=11}:Cfg) Tryz.f150 (Tryz.f150.body.getD .skip) [.sc (.str a),.sc (.str b)] c) h) Tryz.func150 (by kernel_rfl) (fun a w=>Tryz.call150 a w) (by kernel_rfl) (by kernel_rfl) rfl rfl
def zgr(b d:ByteArray)(f:World)(g:Value->World->Prop):Prop:=
 ∀e,Ext f e->FnP Tryz.prog zcZ #[(.string b),(.string d)] e fun h i=>Ext e i/\∃a,h=(.int .i64 a)/\(((0<=a)->(0:Int)<=0/\(0:Int)<=a/\(a:Int)<=(b.size:Int)/\InR .i64 (a+(d.size:Int))/\(0:Int)<=(a+(d.size:Int))/\((a+(d.size:Int)):Int)<=(b.size:Int)/\((b.size:Int):Int)<=(b.size:Int)/\∀c,Ext f c->g (.tuple #[(.string (b.extract (0:Int).toNat a.toNat)),(.string (b.extract (a+(d.size:Int)).toNat (b.size:Int).toNat)),(.bool true)]) c))/\((a<0)->∀c,Ext f c->g (.tuple #[(.string b),(.string (⟨#[]⟩:ByteArray)),(.bool false)]) c)
theorem zgg(a b:ByteArray)(c:World)(d:Value->World->Prop)(h:zgr a b c d):FnP Tryz.prog zb2 #[(.string a),(.string b)] c d:=
 zab (Eq.mp (by kernel_rfl:_=Runs Tryz.prog d ({N:=23}:Cfg) Tryz.f200 (Tryz.f200.body.getD .skip) [.sc (.str a),.sc (.str b)] c) h) Tryz.func200 (by kernel_rfl) (fun a w=>Tryz.call200 a w) (by kernel_rfl) (by kernel_rfl) rfl rfl
def zep(a c:ByteArray)(f:World)(g:Value->World->Prop):Prop:=
 ∀d,Ext f d->FnP Tryz.prog zbg #[(.string a),(.string c)] d fun h i=>Ext d i/\∃e,h=(.bool e)/\((e=false)->∀b,Ext f b->g (.tuple #[(.string a),(.bool false)]) b)/\((e=true)->(0:Int)<=(c.size:Int)/\((c.size:Int):Int)<=(a.size:Int)/\((a.size:Int):Int)<=(a.size:Int)/\∀b,Ext f b->g (.tuple #[(.string (a.extract (c.size:Int).toNat (a.size:Int).toNat)),(.bool true)]) b)
theorem zeh(a b:ByteArray)(c:World)(d:Value->World->Prop)(h:zep a b c d):FnP Tryz.prog zbf #[(.string a),(.string b)] c d:=
 zab (Eq.mp (by kernel_rfl:_=Runs Tryz.prog d ({N:=15}:Cfg) Tryz.f201 (Tryz.f201.body.getD .skip) [.sc (.str a),.sc (.str b)] c) h) Tryz.func201 (by kernel_rfl) (fun a w=>Tryz.call201 a w) (by kernel_rfl) (by kernel_rfl) rfl rfl
def zeq(b a:ByteArray)(d:World)(e:Value->World->Prop):Prop:=
 (((a.size:Int)<=(b.size:Int))->(0:Int)<=0)/\(((a.size:Int)<=(b.size:Int))->(0:Int)<=(a.size:Int))/\(((a.size:Int)<=(b.size:Int))->((a.size:Int):Int)<=(b.size:Int))/\∀c,Ext d c->e (.bool ((decide ((a.size:Int)<=(b.size:Int)))&&(decide ((b.extract (0:Int).toNat (a.size:Int).toNat)=a)))) c
theorem zei(a b:ByteArray)(c:World)(d:Value->World->Prop)(h:zeq a b c d):FnP Tryz.prog zbg #[(.string a),(.string b)] c d:=
 zab (Eq.mp (by kernel_rfl:_=Runs Tryz.prog d ({N:=18}:Cfg) Tryz.f239 (Tryz.f239.body.getD .skip) [.sc (.str a),.sc (.str b)] c) h) Tryz.func239 (by kernel_rfl) (fun a w=>Tryz.call239 a w) (by kernel_rfl) (by kernel_rfl) rfl rfl
def zex(g:Option Addr)(h i:Nat)(j:ByteArray)(d:World)(k:Value->World->Prop):Prop:=
 ∀a,Ext d a->FnP Tryz.prog zbH #[(.slice g h i),(.string j)] a fun e f=>Ext a f/\∃b,e=(.int .i64 b)/\∀c,Ext d c->k (.bool (decide (0<=b))) c
theorem zev(a:Option Addr)(b c:Nat)(d:ByteArray)(e:World)(f:Value->World->Prop)(h:zex a b c d e f):FnP Tryz.prog zbk #[(.slice a b c),(.string d)] e f:=
 zab (Eq.mp (by kernel_rfl:_=Runs Tryz.prog f ({N:=9}:Cfg) Tryz.f147 (Tryz.f147.body.getD .skip) [.sc (.slc a b c),.sc (.str d)] e) h) Tryz.func147 (by kernel_rfl) (fun a w=>Tryz.call147 a w) (by kernel_rfl) (by kernel_rfl) rfl rfl
def zfD(i:Option Addr)(e m:Nat)(j:ByteArray)(l:World)(k:Value->World->Prop):Prop:=
 ∃(d:Int->World->Prop) (h:Int->World->Nat),d 0 l/\∀(a:Int)(b:World),d a b->(((a<(e:Int))->i≠none/\(0:Int)<=a/\(a:Int)<(e:Int)/\∃c,cell b (pIdx i a 1) 0=some (.string c)/\((j=c)->∀f,Ext b f->k (.int .i64 a) f)/\((j≠c)->InR .i64 (a+1)/\(d (a+1) b/\h (a+1) b<h a b))))/\(((e:Int)<=a)->∀g,Ext b g->k (.int .i64 (-1)) g)
theorem zfz(a:Option Addr)(b c:Nat)(d:ByteArray)(e:World)(f:Value->World->Prop)(h:zfD a b c d e f):FnP Tryz.prog zbH #[(.slice a b c),(.string d)] e f:=
 zab (Eq.mp (by kernel_rfl:_=Runs Tryz.prog f ({N:=19}:Cfg) Tryz.f198 (Tryz.f198.body.getD .skip) [.sc (.slc a b c),.sc (.str d)] e) h) Tryz.func198 (by kernel_rfl) (fun a w=>Tryz.call198 a w) (by kernel_rfl) (by kernel_rfl) rfl rfl
abbrev By:=List UInt8
def zui(c:UInt8):By->By×By×Bool
 |[] => ([],[],false)
 |x::l => if x=c then ([],l,true) else (x::(zui c l).1,(zui c l).2.1,(zui c l).2.2)
theorem zqr(c:UInt8):∀l:By,(c∉l/\zui c l=(l,[],false))\/∃a b,l=a++c::b/\c∉a/\zui c l=(a,b,true)
 |[] => .inl ⟨by simp,rfl⟩
 |x::l => by
  by_cases hx:x=c
  ·subst hx;exact .inr ⟨[],l,rfl,by simp,by simp[zui]⟩
  ·rcases zqr c l with⟨h1,h2⟩|⟨a,b,h1,h2,h3⟩
   ·exact .inl ⟨by simp[h1,Ne.symm hx],by simp[zui,hx,h2]⟩
   ·exact .inr ⟨x::a,b,by simp[h1],by simp[h2,Ne.symm hx],by simp[zui,hx,h3]⟩
theorem zbz{c:UInt8}:∀{a a' b b':By},a++c::b=a'++c::b'->c∉a->c∉a'->a=a'/\b=b'
 |[],[],b,b',h,_,_ => by simpa using h
 |[],x::a',b,b',h,_,h2 => by simp at h h2;exact absurd h.1 h2.1
 |x::a,[],b,b',h,h1,_ => by simp at h h1;exact absurd h.1.symm h1.1
 |x::a,y::a',b,b',h,h1,h2 => by
  simp only[List.cons_append,List.cons.injEq] at h
  have:=zbz h.2 (fun hm=>h1 (List.mem_cons_of_mem _ hm)) fun hm=>h2 (List.mem_cons_of_mem _ hm)
  exact⟨by rw[h.1,this.1],this.2⟩
inductive Sg where
 |txt (l:By)
 |gap (n:By)
deriving DecidableEq
def lbL(n:By):Prop:=lbB (ofL n)=true
theorem zM5{n:By}(h:lbL n){c:UInt8}(hc:okC (c.toNat:Int)=false):c∉n:=fun hm=>by
 unfold lbL lbB at h
 simp only[Bool.and_eq_true,List.all_eq_true] at h
 have:=h.2 (c.toNat:Int) (by unfold zdD;rw[za6];exact List.mem_map.2 ⟨c,hm,rfl⟩)
 rw[hc] at this;cases this
theorem zBC{n:By}(h:lbL n):(125:UInt8)∉n:=zM5 h (by decide)
inductive zhM:By->List Sg->Bool->Prop where
 |stop {s:By} (h:(36:UInt8)∉s):zhM s [.txt s] true
 |dol {a r:By} {L:List Sg} {b:Bool} (h:(36:UInt8)∉a) (k:zhM r L b):zhM (a++36::36::r) (.txt a::.txt [36]::L) b
 |gap {a n r:By} {L:List Sg} {b:Bool} (h:(36:UInt8)∉a) (hn:lbL n) (k:zhM r L b):zhM (a++36::123::(n++125::r)) (.txt a::.gap n::L) b
 |bad {a r:By} (h:(36:UInt8)∉a) (h1:∀t,r≠36::t) (h2:∀n t,lbL n->r≠123::(n++125::t)):zhM (a++36::r) [.txt a] false
theorem zhM.uniq{s:By}{L L':List Sg}{b b':Bool}(h:zhM s L b)(k:zhM s L' b'):L=L'/\b=b':=by
 induction h generalizing L' b' with
 |@stop s h =>
  cases k with
  |stop h' => exact⟨rfl,rfl⟩
  |dol h' k => exact absurd (by simp) h
  |gap h' hn k => exact absurd (by simp) h
  |bad h' h1 h2 => exact absurd (by simp) h
 |@dol a r L b h k' ih =>
  generalize hs:a++36::36::r=s at k
  cases k with
  |stop h' => subst hs;exact absurd (by simp) h'
  |dol h' k =>
   obtain⟨rfl,e⟩:=zbz hs h h'
   simp only[List.cons.injEq,true_and] at e
   subst e
   obtain⟨rfl,rfl⟩:=ih k
   exact⟨rfl,rfl⟩
  |gap h' hn k => obtain⟨_,e⟩:=zbz hs h h';simp at e
  |bad h' h1 h2 => obtain⟨_,e⟩:=zbz hs h h';exact absurd e.symm (h1 _)
 |@gap a n r L b h hn k' ih =>
  generalize hs:a++36::123::(n++125::r)=s at k
  cases k with
  |stop h' => subst hs;exact absurd (by simp) h'
  |dol h' k => obtain⟨_,e⟩:=zbz hs h h';simp at e
  |gap h' hn' k =>
   obtain⟨rfl,e⟩:=zbz hs h h'
   simp only[List.cons.injEq,true_and] at e
   obtain⟨rfl,rfl⟩:=zbz e (zBC hn) (zBC hn')
   obtain⟨rfl,rfl⟩:=ih k
   exact⟨rfl,rfl⟩
  |bad h' h1 h2 => obtain⟨_,e⟩:=zbz hs h h';exact absurd e.symm (h2 _ _ hn)
 |@bad a r h h1 h2 =>
  generalize hs:a++36::r=s at k
  cases k with
  |stop h' => subst hs;exact absurd (by simp) h'
  |dol h' k => obtain⟨_,e⟩:=zbz hs h h';exact absurd e (h1 _)
  |gap h' hn k => obtain⟨_,e⟩:=zbz hs h h';exact absurd e (h2 _ _ hn)
  |bad h' k1 k2 => obtain⟨rfl,_⟩:=zbz hs h h';exact⟨rfl,rfl⟩
def zfP(v:By->By):List Sg->By
 |[] => []
 |.txt l::L => l++zfP v L
 |.gap n::L => v n++zfP v L
def zfx:List Sg->List By
 |[] => []
 |.txt _::L => zfx L
 |.gap n::L => n::zfx L
theorem zBm(v:By->By):∀(L M:List Sg),zfP v (L++M)=zfP v L++zfP v M
 |[],M => rfl
 |.txt l::L,M => by simp[zfP,zBm v L M]
 |.gap l::L,M => by simp[zfP,zBm v L M]
theorem zkz:∀(L M:List Sg),zfx (L++M)=zfx L++zfx M
 |[],M => rfl
 |.txt l::L,M => by simp[zfx,zkz L M]
 |.gap l::L,M => by simp[zfx,zkz L M]
def zg7:List By->List By->List By
 |acc,[] => acc
 |acc,n::r => zg7 (if n∈acc then acc else acc++[n]) r
theorem zF1:∀(r acc t:List By),zg7 acc (r++t)=zg7 (zg7 acc r) t
 |[],acc,t => rfl
 |n::r,acc,t => zF1 r _ t
theorem zF2:∀(r acc:List By)(n:By),n∈zg7 acc r↔n∈acc\/n∈r
 |[],acc,n => by simp[zg7]
 |m::r,acc,n => by
  simp only[zg7,zF2 r,List.mem_cons]
  split
  ·rename_i h
   constructor
   ·rintro (h1|h1)
    ·exact .inl h1
    ·exact .inr (.inr h1)
   ·rintro (h1|h1|h1)
    ·exact .inl h1
    ·subst h1;exact .inl h
    ·exact .inr h1
  ·simp[or_assoc]
def names(L:List Sg):List By:=zg7 [] (zfx L)
theorem zw1{L:List Sg}{n:By}:n∈names L↔n∈zfx L:=by simp[names,zF2]
theorem zhM.count{s:By}{L:List Sg}{b:Bool}(h:zhM s L b):(zfx L).length<=s.length:=by
 induction h with
 |stop h => simp[zfx]
 |dol h k ih => simp[zfx];omega
 |gap h hn k ih => simp[zfx];omega
 |bad h h1 h2 => simp[zfx]
theorem zwA(c:UInt8):∀l:By,(c∉l/\Lib.indexByte l c=-1)\/∃a b,l=a++c::b/\c∉a/\Lib.indexByte l c=a.length
 |[] => .inl ⟨by simp,rfl⟩
 |x::l => by
  by_cases hx:x=c
  ·subst hx;exact .inr ⟨[],l,rfl,by simp,by simp[Lib.indexByte]⟩
  ·rcases zwA c l with⟨h1,h2⟩|⟨a,b,h1,h2,h3⟩
   ·exact .inl ⟨by simp[h1,Ne.symm hx],by simp[Lib.indexByte,hx,h2]⟩
   ·refine .inr ⟨x::a,b,by simp[h1],by simp[h2,Ne.symm hx],?_⟩
    simp only[Lib.indexByte,h3,beq_iff_eq,hx,if_false]
    rw[if_neg (by omega)];simp
theorem ext_a(a b:By):(ofL (a++b)).extract 0 a.length=ofL a:=by
 rw[<-za4 ((ofL (a++b)).extract 0 a.length)]
 congr 1
 simp[ofL]
theorem ext_b(a b:By)(k:Nat)(hk:k=a.length)(n:Nat)(hn:n=a.length+b.length):(ofL (a++b)).extract k n=ofL b:=by
 rw[<-za4 ((ofL (a++b)).extract k n)]
 congr 1
 subst hk hn
 simp[ofL]
theorem zJU(s:ByteArray)(c:UInt8)(w:World):FnP Tryz.prog zcZ #[.string s,.string ⟨#[c]⟩] w fun v w'=>Ext w w'/\v=.int .i64 (Lib.indexByte s.data.toList c) :=
 ⟨fun args w=>Tryz.call243 args w,(Tryz.stringslite_Index_one s c w).mono fun e w' ⟨he,hw⟩=>⟨_,he,hw▸Ext.refl _,rfl⟩⟩
theorem zh4(s:ByteArray):s.size=s.data.toList.length:=by simp
theorem zCh(c:UInt8)(s:ByteArray)(hs:s.size<=9223372036854775807)(w:World):FnP Tryz.prog zbI #[.string s,.string ⟨#[c]⟩] w fun v w'=>Ext w w' /\
  ((c∉s.data.toList/\v=.tuple #[.string s,.string ⟨#[]⟩,.bool false])\/∃a b,s.data.toList=a++c::b/\c∉a/\v=.tuple #[.string (ofL a),.string (ofL b),.bool true]):=by
 have lite:∀w,FnP Tryz.prog zb2 #[.string s,.string ⟨#[c]⟩] w fun v w'=>Ext w w' /\
  ((c∉s.data.toList/\v=.tuple #[.string s,.string ⟨#[]⟩,.bool false])\/∃a b,s.data.toList=a++c::b/\c∉a/\v=.tuple #[.string (ofL a),.string (ofL b),.bool true]):=by
  intro w
  refine zgg s ⟨#[c]⟩ w _ fun w0 h0=>(zJU s c w0).mono fun v w1 ⟨e1,hv⟩=>⟨e1,_,hv,?_⟩
  have s1:(⟨#[c]⟩:ByteArray).size=1:=rfl
  rcases zwA c s.data.toList with⟨h1,h2⟩|⟨a,b,h1,h2,h3⟩
  ·rw[h2];exact⟨fun h=>by omega,fun _ w3 h3=>⟨h3,.inl ⟨h1,rfl⟩⟩⟩
  ·rw[h3,s1]
   have hsz:s.size=a.length+1+b.length:=by rw[zh4,h1];simp;omega
   have hs':s=ofL (a++c::b):=by rw[<-h1,za4]
   refine⟨fun _=>⟨by omega,by omega,by omega,i64 (by omega),by omega,by omega,by omega,fun w3 h3=>⟨h3,.inr ⟨a,b,h1,h2,?_⟩⟩⟩,fun h=>by omega⟩
   have e1:s.extract (0:Int).toNat ((a.length:Nat):Int).toNat=ofL a:=by
    rw[hs'];simpa using ext_a a (c::b)
   have e2:s.extract (((a.length:Nat):Int)+((1:Nat):Int)).toNat (s.size:Int).toNat=ofL b:=by
    have:=ext_b (a++[c]) b (((a.length:Nat):Int)+((1:Nat):Int)).toNat (by simp<;>omega) (s.size:Int).toNat (by simp<;>omega)
    rw[<-this,hs'];simp
   rw[e1,e2]
 refine zsG s ⟨#[c]⟩ w _ fun w0 h0=>(lite w0).mono fun v w1 ⟨e1,hv⟩=>⟨e1,?_⟩
 rcases hv with⟨h1,hv⟩|⟨a,b,h1,h2,hv⟩
 ·exact⟨_,_,_,hv,fun w5 h5=>⟨h5,.inl ⟨h1,rfl⟩⟩⟩
 ·exact⟨_,_,_,hv,fun w5 h5=>⟨h5,.inr ⟨a,b,h1,h2,rfl⟩⟩⟩
theorem zlj(c:UInt8)(s:ByteArray)(hs:s.size<=9223372036854775807)(w:World):FnP Tryz.prog zcA #[.string s,.string ⟨#[c]⟩] w fun v w'=>Ext w w' /\
  (((∀t,s.data.toList≠c::t)/\v=.tuple #[.string s,.bool false])\/∃t,s.data.toList=c::t/\v=.tuple #[.string (ofL t),.bool true]):=by
 have s1:(⟨#[c]⟩:ByteArray).size=1:=rfl
 have has:∀w,FnP Tryz.prog zbg #[.string s,.string ⟨#[c]⟩] w fun v w'=>Ext w w' /\
   (((∀t,s.data.toList≠c::t)/\v=.bool false)\/∃t,s.data.toList=c::t/\v=.bool true):=by
  intro w
  refine zei s ⟨#[c]⟩ w _ ⟨fun _=>by omega,fun _=>by omega,fun h=>h,fun w0 h0=>⟨h0,?_⟩⟩
  rw[s1]
  have hl:=zh4 s
  have he:s=ofL s.data.toList:=(za4 s).symm
  cases h:s.data.toList with
  |nil =>
   rw[h] at hl
   refine .inl ⟨fun t ht=>(by cases ht),?_⟩
   have h0:s.size=0:=hl
   simp[h0]
  |cons x t =>
   rw[h] at hl he
   have h1:(((1:Nat):Int)<=(s.size:Int)):=by rw[hl];simp;omega
   have h2:s.extract (0:Int).toNat (((1:Nat):Int)).toNat=ofL [x]:=by rw[he];exact ext_a [x] t
   rw[h2]
   by_cases hx:x=c
   ·subst hx
    refine .inr ⟨t,rfl,?_⟩
    have:(ofL [x]:ByteArray)=⟨#[x]⟩:=rfl
    have h1':(1:Int)<=(s.size:Int):=h1
    simp[h1',this]
   ·refine .inl ⟨fun t' ht=>by simp at ht;exact hx ht.1,?_⟩
    have:¬(ofL [x]:ByteArray)=⟨#[c]⟩:=fun he=>hx (by have:=congrArg (fun s:ByteArray=>s.data.toList) he;simpa[ofL] using this)
    simp[this]
 have lite:∀w,FnP Tryz.prog zbf #[.string s,.string ⟨#[c]⟩] w fun v w'=>Ext w w' /\
   (((∀t,s.data.toList≠c::t)/\v=.tuple #[.string s,.bool false])\/∃t,s.data.toList=c::t/\v=.tuple #[.string (ofL t),.bool true]):=by
  intro w
  refine zeh s ⟨#[c]⟩ w _ fun w0 h0=>(has w0).mono fun v w1 ⟨e1,hv⟩=>⟨e1,?_⟩
  rcases hv with⟨h1,hv⟩|⟨t,h1,hv⟩
  ·exact⟨_,hv,fun _ w3 h3=>⟨h3,.inl ⟨h1,rfl⟩⟩,fun h=>by cases h⟩
  ·have hl:=zh4 s
   rw[h1,List.length_cons] at hl
   refine⟨_,hv,fun h=>by(cases h),fun _=>⟨by omega,by rw[s1];omega,by omega,fun w3 h3=>⟨h3,.inr ⟨t,h1,?_⟩⟩⟩⟩
   have hs':s=ofL ([c]++t):=by rw[<-za4 s,h1];rfl
   have e2:s.extract (((⟨#[c]⟩:ByteArray).size:Nat):Int).toNat (s.size:Int).toNat=ofL t:=by
    have:=ext_b [c] t (((⟨#[c]⟩:ByteArray).size:Nat):Int).toNat (by rw[s1];rfl) (s.size:Int).toNat (by simp<;>omega)
    rw[<-this,hs']
   rw[e2]
 refine zkV s ⟨#[c]⟩ w _ fun w0 h0=>(lite w0).mono fun v w1 ⟨e1,hv⟩=>⟨e1,?_⟩
 rcases hv with⟨h1,hv⟩|⟨t,h1,hv⟩
 ·exact⟨_,_,hv,fun w5 h5=>⟨h5,.inl ⟨h1,rfl⟩⟩⟩
 ·exact⟨_,_,hv,fun w5 h5=>⟨h5,.inr ⟨t,h1,rfl⟩⟩⟩
theorem zLt(L:List ByteArray)(p:Option Addr)(c:Nat)(v:ByteArray)(hL:L.length<=1099511627776)(w:World)(h:zaw w p (L.map Value.string)) :
  FnP Tryz.prog zbH #[.slice p L.length c,.string v] w fun r w'=>Ext w w'/\∃i:Int,r=.int .i64 i/\((v∈L/\0<=i)\/(v∉L/\i=-1)):=by
 refine zfz p L.length c v w _ ⟨fun k w'=>w'=w/\0<=k/\k<=L.length/\∀j:Nat,(j:Int)<k->L[j]?≠some v,fun k _=>(L.length-k).toNat,⟨rfl,by omega,by omega,fun j hj=>by omega⟩,?_⟩
 rintro k w2 ⟨rfl,hk0,hk1,hall⟩
 refine⟨fun hlt=>?_,fun hge w3 h3=>⟨h3,-1,rfl,.inr ⟨fun hm=>?_,rfl⟩⟩⟩
 ·obtain⟨s,hs⟩:∃s,L[k.toNat]?=some s:=⟨_,List.getElem?_eq_getElem (by omega)⟩
  have hc:Go.Sx.cell w2 (pIdx p k 1) 0=some (.string s):=by
   rw[zae]
   exact h _ _ (by simp[hs])
  refine⟨fun hq=>zal hc (zah.2 hq),hk0,hlt,s,hc,fun he w4 h4=>⟨h4,k,rfl,.inl ⟨?_,hk0⟩⟩,fun hne=>⟨i64 (by omega),⟨rfl,by omega,by omega,fun j hj=>?_⟩,by simp only[];omega⟩⟩
  ·subst he;exact List.mem_of_getElem? hs
  ·by_cases hjk:(j:Int)<k
   ·exact hall j hjk
   ·have:j=k.toNat:=by omega
    rw[this,hs]
    intro h;injection h with h;exact hne h.symm
 ·obtain⟨j,hj,hv⟩:=List.getElem_of_mem hm
  exact hall j (by omega) (by rw[List.getElem?_eq_getElem hj,hv])
theorem zCv(L:List ByteArray)(p:Option Addr)(c:Nat)(v:ByteArray)(hL:L.length<=1099511627776)(w:World)(h:zaw w p (L.map Value.string)) :
  FnP Tryz.prog zbk #[.slice p L.length c,.string v] w fun r w'=>Ext w w'/\∃b:Bool,r=.bool b/\(b=true↔v∈L):=by
 refine zev p L.length c v w _ fun w0 h0=>(zLt L p c v hL w0 (h.ext h0)).mono fun r w1 ⟨e1,i,hv,hi⟩=>⟨e1,i,hv,fun w3 h3=>⟨h3,_,rfl,?_⟩⟩
 rw[decide_eq_true_iff]
 rcases hi with⟨a,b⟩|⟨a,b⟩
 ·exact⟨fun _=>a,fun _=>by omega⟩
 ·exact⟨fun h=>by omega,fun h=>absurd h a⟩
theorem zGf(s:ByteArray)(hs:s.size<=9223372036854775807)(text gap:Value)(I:List Sg->World->Prop)(w:World)(h0:I [] w)(hI:∀L w w',I L w->Ext w w'->I L w')
  (ht:∀L l w,I L w->l.length<=s.size->(zfx L).length<=s.size->zgP Tryz.prog text [.string (ofL l)] w fun v w'=>v=.tuple #[]/\I (L++[.txt l]) w')
  (hg:∀L n w,I L w->lbL n->(zfx L).length<s.size->zgP Tryz.prog gap [.string (ofL n)] w fun v w'=>v=.tuple #[]/\I (L++[.gap n]) w') :
  FnP Tryz.prog zgO #[.string s,text,gap] w fun v w'=>∃L b,v=.bool b/\zhM s.data.toList L b/\I L w':=by
 refine zu7 s text gap w _ ⟨fun s1 w'=>∃L,I L w'/\(∀M b,zhM s1.data.toList M b->zhM s.data.toList (L++M) b)/\(zfx L).length+s1.size<=s.size,fun s1 _=>s1.size,⟨[],h0,fun M b h=>h,by simp[zfx]⟩,?_⟩
 rintro s1 w2 ⟨L,hL,hM,hlen⟩ w3 h3
 refine(zCh 36 s1 (by omega) w3).mono fun v w4 ⟨e4,hv⟩=>⟨e4,?_⟩
 rcases hv with⟨hno,hv⟩|⟨a,b,hl,ha,hv⟩
 ·refine⟨_,_,_,hv,fun w8 h8=>?_⟩
  obtain⟨fi,cap,hfe,hfp⟩:=ht L s1.data.toList w8 (hI _ _ _ hL h8) (by rw[<-zh4];omega) (by omega)
  rw[za4] at hfp
  refine⟨fi,cap,hfe,hfp.mono fun v w9 ⟨hv9,h9⟩=>⟨hv9,fun _ w10 h10=>⟨_,true,rfl,hM _ _ (.stop hno),hI _ _ _ h9 h10⟩,fun h=>by cases h⟩⟩
 have hsz:s1.size=a.length+1+b.length:=by rw[zh4,hl];simp;omega
 refine⟨_,_,_,hv,fun w8 h8=>?_⟩
 obtain⟨fi,cap,hfe,hfp⟩:=ht L a w8 (hI _ _ _ hL h8) (by omega) (by omega)
 refine⟨fi,cap,hfe,hfp.mono fun v w9 ⟨hv9,I9⟩=>⟨hv9,fun h=>by(cases h),fun _ w10 h10=>?_⟩⟩
 have hbl:(ofL b).size=b.length:=rfl
 have g0:∀M:List Sg,(zfx (L++[.txt a])).length=(zfx L).length:=fun _=>by simp[zkz,zfx]
 refine(zlj 36 (ofL b) (by omega) w10).mono fun v w11 ⟨e11,hv⟩=>⟨e11,?_⟩
 rcases hv with⟨hno,hv⟩|⟨t,hb,hv⟩
 ·have hno:∀t,b≠36::t:=hno
  refine⟨_,_,hv,fun h=>by(cases h),fun _ w14 h14=>?_⟩
  refine(zCh 125 (ofL b) (by omega) w14).mono fun v w15 ⟨e15,hv⟩=>⟨e15,?_⟩
  have bad:(∀n t,lbL n->b≠123::(n++125::t))->zhM s.data.toList (L++[.txt a]) false:=fun h2=>hM _ _ (by rw[hl];exact .bad ha hno h2)
  rcases hv with⟨hn2,hv⟩|⟨c,d,hb,hc,hv⟩
  ·have hn2:(125:UInt8)∉b:=hn2
   have hbad:=bad fun n t _ he=>hn2 (by rw[he];simp)
   refine⟨_,_,_,hv,fun w19 h19=>(zlj 123 (ofL b) (by omega) w19).mono fun v w20 ⟨e20,hv⟩=>⟨e20,?_⟩⟩
   rcases hv with⟨_,hv⟩|⟨t,_,hv⟩
   ·exact⟨_,_,hv,fun _ w23 h23=>⟨_,false,rfl,hbad,hI _ _ _ I9 h23⟩,fun h=>by cases h.2⟩
   ·exact⟨_,_,hv,fun _ w23 h23=>⟨_,false,rfl,hbad,hI _ _ _ I9 h23⟩,fun h=>by cases h.2⟩
  ·have hb:b=c++125::d:=hb
   have hcl:(ofL c).size=c.length:=rfl
   have hbd:b.length=c.length+1+d.length:=by rw[hb];simp;omega
   refine⟨_,_,_,hv,fun w19 h19=>(zlj 123 (ofL c) (by omega) w19).mono fun v w20 ⟨e20,hv⟩=>⟨e20,?_⟩⟩
   rcases hv with⟨hn3,hv⟩|⟨t,hct,hv⟩
   ·have hn3:∀t,c≠123::t:=hn3
    have hbad:=bad fun n t hn he=>by
     have:c++125::d=(123::n)++125::t:=by rw[<-hb,he];rfl
     obtain⟨h1,_⟩:=zbz this hc (by simp;exact zBC hn)
     exact hn3 _ h1
    exact⟨_,_,hv,fun _ w23 h23=>⟨_,false,rfl,hbad,hI _ _ _ I9 h23⟩,fun h=>by cases h.1⟩
   ·have hct:c=123::t:=hct
    have htl:c.length=t.length+1:=by rw[hct];rfl
    refine⟨_,_,hv,fun h=>by(rcases h with h|h<;>cases h),fun _ w23 h23=>?_⟩
    refine(zeK (ofL t) (by rw[zai];omega) w23).mono fun v w24 ⟨e24,hv⟩=>⟨e24,_,hv,fun hf w26 h26=>?_,fun hlb w26 h26=>?_⟩
    ·have hbad:=bad fun n t' hn he=>by
      have:c++125::d=(123::n)++125::t':=by rw[<-hb,he];rfl
      obtain⟨h1,_⟩:=zbz this hc (by simp;exact zBC hn)
      rw[hct] at h1
      simp only[List.cons.injEq,true_and] at h1
      subst h1
      unfold lbL at hn
      rw[hf] at hn;cases hn
     exact⟨_,false,rfl,hbad,hI _ _ _ I9 h26⟩
    ·obtain⟨fi,cap,hfe,hfp⟩:=hg (L++[.txt a]) t w26 (hI _ _ _ I9 h26) hlb (by rw[g0 []];omega)
     refine⟨fi,cap,hfe,hfp.mono fun v w27 ⟨hv27,I27⟩=>⟨hv27,⟨_,I27,fun M b' hseg=>?_,?_⟩,?_⟩⟩
     ·have:zhM s1.data.toList (.txt a::.gap t::M) b':=by
       rw[hl,hb,hct]
       exact .gap ha hlb hseg
      simpa using hM _ _ this
     ·rw[zkz,List.length_append,g0 [],zai]
      simp only[zfx,List.length_cons,List.length_nil];omega
     ·simp only[zai];omega
 ·have hb:b=36::t:=hb
  have htl:b.length=t.length+1:=by rw[hb];rfl
  refine⟨_,_,hv,fun _ w14 h14=>?_,fun h=>by cases h⟩
  obtain⟨fi,cap,hfe,hfp⟩:=ht (L++[.txt a]) [36] w14 (hI _ _ _ I9 h14) (by simp;omega) (by rw[g0 []];omega)
  refine⟨fi,cap,hfe,hfp.mono fun v w15 ⟨hv15,I15⟩=>⟨hv15,⟨_,I15,fun M b' hseg=>?_,?_⟩,?_⟩⟩
  ·have:zhM s1.data.toList (.txt a::.txt [36]::M) b':=by
    rw[hl,hb]
    exact .dol ha hseg
   simpa using hM _ _ this
  ·rw[zkz,List.length_append,g0 [],zai]
   simp only[zfx,List.length_nil];omega
  ·simp only[zai];omega
abbrev zNO(l:By):Value:=.string (ofL l)
structure NI(w0:World)(p1:Option Addr)(L:List Sg)(w:World):Prop where
 ext:Ext w0 w
 row:∃p n c,Own w0.heap.size w zqe 1 p1 1 1 [.slice p n c]/\Own w0.heap.size w zas 1 p n c ((names L).map zNO)/\zb1 p1 p
theorem NI.more{w0 w w':World}{p1:Option Addr}{L:List Sg}(h:NI w0 p1 L w)(e:Ext w w'):NI w0 p1 L w':=by
 obtain⟨p,n,c,h1,h2,h3⟩:=h.row
 exact⟨h.ext.trans e,p,n,c,h1.ext e,h2.ext e,h3⟩
theorem zwZ(L M:List Sg):names (L++M)=zg7 (names L) (zfx M):=by unfold names;rw[zkz,zF1]
theorem zw0(L:List Sg):(names L).length<=(zfx L).length:=by
 have key:∀(r acc:List By),(zg7 acc r).length<=acc.length+r.length:=by
  intro r
  induction r with
  |nil => intro acc;simp[zg7]
  |cons n r ih =>
   intro acc
   simp only[zg7,List.length_cons]
   by_cases hn:n∈acc
   ·have:=ih acc;rw[if_pos hn];omega
   ·have:=ih (acc++[n]);rw[if_neg hn];simp at this;omega
 simpa[names] using key (zfx L) []
theorem zJk{w0:World}{p1:Option Addr}{L:List Sg}{n:By}{w:World}(h:NI w0 p1 L w)(hl:(zfx L).length<=1000000) :
  FnP Tryz.prog zk4 #[.string (ofL n),.pointer p1] w fun v w'=>v=.tuple #[]/\NI w0 p1 (L++[.gap n]) w':=by
 obtain⟨p,m,c,h1,h2,h3⟩:=h.row
 have hcell:=h1.cellAt (i:=0) rfl
 have hm:(names L).length=m:=h2.leni
 have hnl:=zw0 L
 have hna:names (L++[.gap n])=if n∈names L then names L else names L++[n]:=by rw[zwZ];rfl
 refine zri (ofL n) p1 w _ ⟨p,m,c,hcell,fun w3 e3=>?_⟩
 have hcl:zaw w3 p (((names L).map ofL).map Value.string):=by
  have:=(h2.ext e3).cells
  rw[List.map_map];exact this
 have hml:((names L).map ofL).length=m:=by rw[List.length_map];exact hm
 rw[<-hml]
 refine(zCv ((names L).map ofL) p c (ofL n) (by simp;omega) w3 hcl).mono fun v w4 ⟨e4,b,hv,hb⟩=>⟨e4,b,hv,fun hf=>?_,fun ht w6 e6=>⟨rfl,?_⟩⟩
 ·have hno:n∉names L:=fun hm=>by
   have:=hb.2 (List.mem_map.2 ⟨n,hm,rfl⟩)
   rw[hf] at this;cases this
  refine⟨p,m,c,hcell,push za9 (by omega) h2 h.ext.size rfl (by intro u hu;simp[Value.cells] at hu;subst hu;rfl) (by omega) (by omega) (by omega) fun p' c' w' o' g' np=>?_⟩
  have h1':=h1.st h3 g'
  have a':=h3.grew h1 g'
  have st:=zbF (off:=0) h1' (by simp) (v:=.slice p' (m+1) c') rfl (ns:=[]) (by simp) (K:=fun w5=>∀w20,Ext w5 w20->(Value.tuple #[]=Value.tuple #[]/\NI w0 p1 (L++[.gap n]) w20)) fun w5 o5 g5 w20 e20=>⟨rfl,?_⟩
  ·rw[zaG] at st;exact st
  ·have x':Ext w0 w':=g'.ext h.ext h2
   have x5:Ext w0 w5:=g5.ext x' h1'
   refine⟨x5.trans e20,p',m+1,c',o5.ext e20,?_,a'⟩
   rw[hna,if_neg hno,List.map_append]
   exact(o'.st a'.symm g5).ext e20
 ·have hin:n∈names L:=by
   obtain⟨x,hx,he⟩:=List.mem_map.1 (hb.1 ht)
   rw[<-zlL he];exact hx
  have:=h.more e6
  obtain⟨p,m,c,h1,h2,h3⟩:=this.row
  exact⟨this.ext,p,m,c,h1,by rw[hna,if_pos hin];exact h2,h3⟩
theorem zLv(s:ByteArray)(hs:s.size<=9223372036854775807)(w:World):FnP Tryz.prog zjJ #[.string s] w fun v w'=>Ext w w'/\∃(p:Option Addr) (n c:Nat) (e:Int),v=.tuple #[.slice p n c,.int .i64 e] /\
  ((e≠0/\n=0/\(s.size<=2000->∀L,¬zhM s.data.toList L true)) \/
   (e=0/\s.size<=2000/\∃L,zhM s.data.toList L true/\n=(names L).length/\Own w.heap.size w' zas 1 p n c ((names L).map zNO))):=by
 refine zu6 s w _ ⟨fun hbig w0 h0=>⟨h0,_,_,_,_,rfl,.inl ⟨by omega,rfl,fun h=>by omega⟩⟩,fun hle w0 h0=>?_⟩
 refine zbc (by intro v hv;simp at hv;subst hv;rfl) fun w1 o1 e1 w2 e2=>?_
 generalize hp1:(some ⟨w0.heap.size,0,none⟩:Option Addr)=p1
 rw[hp1] at o1
 have n0:NI w p1 [] w1:=⟨h0.trans e1,none,0,0,o1 _ h0.size,Own.nil,zb1.nil⟩
 refine(zGf s hs (.func (.func 145) #[] #[]) (.func (.func 146) #[] #[.pointer p1]) (NI w p1) w2 (n0.more e2) (fun L w w' h e=>h.more e) (fun L l w3 h _ _=>?_) (fun L n w3 h hn hl=>?_)).mono fun v w3 ⟨L,b,hv,hseg,hN⟩=>⟨b,hv,fun hf w5 h5=>?_,fun ht=>?_⟩
 ·exact⟨145,#[],rfl,zrh (ofL l) w3 _ fun w4 h4=>⟨rfl,by
    have:=h.more h4
    obtain⟨p,m,c,a1,a2,a3⟩:=this.row
    exact⟨this.ext,p,m,c,a1,by rw[zwZ];exact a2,a3⟩⟩⟩
 ·exact⟨146,#[.pointer p1],rfl,zJk h (by omega)⟩
 ·subst hf
  refine⟨hN.ext.trans h5,_,_,_,_,rfl,.inl ⟨by omega,rfl,fun _ M hM=>?_⟩⟩
  have:=(hseg.uniq hM).2
  cases this
 ·subst ht
  obtain⟨p,m,c,a1,a2,a3⟩:=hN.row
  refine⟨p,m,c,a1.cellAt (i:=0) rfl,fun w8 h8=>⟨hN.ext.trans h8,_,_,_,_,rfl,.inr ⟨rfl,by omega,L,hseg,?_,a2.ext h8⟩⟩⟩
  exact a2.leni.symm
def zpe(l:List Lb):List ByteArray:=l.map (·.key)
def kOk(l:List Lb):Prop:=(∀x∈l,lbB x.key=true)/\(zpe l).Nodup
def zhR(l:List Lb)(k:ByteArray):Option Lb:=l.find? fun x=>decide (x.key=k)
def vOf(l:List Lb)(n:By):By:=match zhR l (ofL n) with|some x=>x.val.data.toList|none=>[]
def mOf(l:List Lb):List (ByteArray×Value):=l.map fun x=>(x.key,.string x.val)
theorem zFQ(l:List Lb):zc9 (mOf l)=zpe l:=by unfold zc9 mOf zpe;rw[List.map_map];rfl
theorem zBK(l:List Lb)(k:ByteArray):ziK (mOf l) k=(zhR l k).map fun x=>.string x.val:=by
 induction l with
 |nil => rfl
 |cons x r ih =>
  unfold mOf zhR at *
  simp only[List.map_cons,ziK,List.find?_cons]
  by_cases h:x.key=k
  ·simp[h]
  ·simp only[h,decide_false,if_false];exact ih
theorem znQ{l:List Lb}{k:ByteArray}:zhR l k=none↔k∉zpe l:=by
 unfold zhR zpe
 rw[List.find?_eq_none]
 constructor
 ·intro h hm
  obtain⟨x,hx,he⟩:=List.mem_map.1 hm
  exact h x hx (by simp[he])
 ·intro h x hx hd
  exact h (List.mem_map.2 ⟨x,hx,by simpa using hd⟩)
theorem zqz{l:List Lb}{k:ByteArray}{x:Lb}(h:zhR l k=some x):x∈l/\x.key=k:=by
 unfold zhR at h
 exact⟨List.mem_of_find?_eq_some h,by simpa using List.find?_some h⟩
theorem zJh{m:List (ByteArray×Value)}{a:ByteArray}(h:a∉zc9 m)(v:Value):zpN m a v=m++[(a,v)]:=by
 induction m with
 |nil => rfl
 |cons x r ih =>
  obtain⟨c,u⟩:=x
  have e2:zc9 ((c,u)::r)=c::zc9 r:=rfl
  rw[e2,List.mem_cons,not_or] at h
  simp only[zpN]
  rw[if_neg (fun e=>h.1 e.symm),ih h.2];rfl
def zK9(acc x:By):By:=if acc.length<=2000 then acc++x else acc
def pc(v:By->By):Sg->By
 |.txt l => l
 |.gap n => v n
def zBP(v:By->By)(L:List Sg):By:=L.foldl (fun acc g=>zK9 acc (pc v g)) []
theorem zJv(v:By->By)(L:List Sg)(g:Sg):zBP v (L++[g])=zK9 (zBP v L) (pc v g):=by simp[zBP]
theorem zMJ(v:By->By)(g:Sg)(L:List Sg):zfP v (g::L)=pc v g++zfP v L:=by cases g<;>rfl
theorem zrn(v:By->By):∀(L:List Sg)(acc:By),((L.foldl (fun acc g=>zK9 acc (pc v g)) acc).length<=2000↔(acc++zfP v L).length<=2000)/\((acc++zfP v L).length<=2000->L.foldl (fun acc g=>zK9 acc (pc v g)) acc=acc++zfP v L)
 |[],acc => by simp[zfP]
 |g::L,acc => by
  rw[List.foldl_cons,zMJ]
  have ih:=zrn v L (zK9 acc (pc v g))
  by_cases h:acc.length<=2000
  ·have e:zK9 acc (pc v g)=acc++pc v g:=if_pos h
   rw[e] at ih ⊢
   rw[<-List.append_assoc];exact ih
  ·have e:zK9 acc (pc v g)=acc:=if_neg h
   rw[e] at ih ⊢
   have h1:¬(acc++zfP v L).length<=2000:=by simp;omega
   have h2:¬(acc++(pc v g++zfP v L)).length<=2000:=by simp;omega
   exact⟨by rw[ih.1];exact⟨fun h=>absurd h h1,fun h=>absurd h h2⟩,fun h=>absurd h h2⟩
theorem zGc{v:By->By}{L:List Sg}:(zBP v L).length<=2000↔(zfP v L).length<=2000:=by simpa[zBP] using(zrn v L []).1
theorem zNp{v:By->By}{L:List Sg}(h:(zfP v L).length<=2000):zBP v L=zfP v L:=by simpa[zBP] using(zrn v L []).2 (by simpa using h)
theorem kS:zCx Tryz.prog zas Value.string .string:=zpJ (by kernel_rfl)
theorem mapS:Tryz.prog.underlying zcC=some (.map zas zas):=by kernel_rfl
theorem look2{w:World}{r:Nat}{l:List Lb}(h:zcU Value.string w r (mOf l)){k:ByteArray}{Q:Value->World->Prop}
  (hk:Q (.tuple #[.string ((zhR l k).elim ⟨#[]⟩ (·.val)),.bool (zhR l k).isSome]) w):Run Tryz.prog (.lookup zcC (.map (some r)) (.string k) true) w Q:=by
 obtain⟨i,h1,h2,_⟩:∃i,Tryz.prog.info? zas=some i/\i.zero=some (.string ⟨#[]⟩)/\True:=by
  obtain⟨i,_,h2,h6,_⟩:=zdG za9
  exact⟨i,h2,h6,trivial⟩
 refine zkI kS mapS h1 h2 h ?_
 rw[zBK]
 cases h:zhR l k<;>(rw[h] at hk;exact hk)
theorem look1{w:World}{r:Nat}{l:List Lb}(h:zcU Value.string w r (mOf l)){k:ByteArray}{Q:Value->World->Prop}
  (hk:Q (.string ((zhR l k).elim ⟨#[]⟩ (·.val))) w):Run Tryz.prog (.lookup zcC (.map (some r)) (.string k) false) w Q:=by
 refine zB4 kS mapS za9 h ?_
 rw[zBK]
 cases h:zhR l k<;>(rw[h] at hk;exact hk)
open Lib in
theorem zAV {B b:Nat} {bs:List Value} {w w':World} (h:IsBuilderF 184 5 B b bs w) (e:Ext w w'):IsBuilderF 184 5 B b bs w':=by
 have key:∀p,BuilderAtF 184 5 B b p bs w->BuilderAtF 184 5 B b p bs w':=fun p h=>by
  have hlt:=h.lt
  obtain⟨hB,v,hb,hown,hne⟩:=h
  refine⟨hB,v,by rw[e.block b hlt];exact hb,?_,hne⟩
  refine hown.kept (row:=none) ⟨e.os,e.tape,e.output,e.size,fun k hk _=>e.block k hk⟩ ?_
  cases hv:v.ownBlock with
  |none => exact .inl rfl
  |some x => exact .inr (by simp)
 exact h.imp (key _) (key _)
structure FI(w0:World)(l:List Lb)(b r pb pm:Nat)(L:List Sg)(w:World):Prop where
 ext:Ext w0 w
 base:w0.heap.size<=r/\r<b/\w0.heap.size<=pm/\pm<b/\b<w.heap.size
 bld:Lib.IsBuilderF 184 5 b b (Lib.byteCells (zBP (vOf l) L)) w
 fn:∃c fz,w.heap[pb]?=some (.cells c 188 fz)/\pb≠b/\cell w (some ⟨pb,0,none⟩) 0=some (.func (.func 97) #[] #[.pointer (some ⟨b,0,none⟩)])
 mp:zcU Value.string w r (mOf l)
 mc:cell w (some ⟨pm,0,none⟩) 0=some (.map (some r))
theorem FI.more{w0 w w':World}{l:List Lb}{b r pb pm:Nat}{L:List Sg}(h:FI w0 l b r pb pm L w)(e:Ext w w'):FI w0 l b r pb pm L w':=by
 obtain⟨c,fz,h1,h2,h3⟩:=h.fn
 have hb:=h.base
 have:=e.size
 exact⟨h.ext.trans e,⟨hb.1,hb.2.1,hb.2.2.1,hb.2.2.2.1,by omega⟩,zAV h.bld e,⟨c,fz,by rw[e.block pb (Array.getElem?_eq_some_iff.1 h1).1];exact h1,h2,zar e h3⟩,h.mp.ext e,zar e h.mc⟩
theorem FI.same{w0 w:World}{l:List Lb}{b r pb pm:Nat}{L M:List Sg}(h:FI w0 l b r pb pm L w)(e:zBP (vOf l) M=zBP (vOf l) L):FI w0 l b r pb pm M w :=
 ⟨h.ext,h.base,by rw[e];exact h.bld,h.fn,h.mp,h.mc⟩
theorem zd9(l:By):(Lib.byteCells l).length=l.length:=by simp[Lib.byteCells]
theorem put_k{w0 w:World}{l:List Lb}{b r pb pm:Nat}{L:List Sg}{g:Sg}(h:FI w0 l b r pb pm L w)(x:ByteArray)(hx:x.data.toList=pc (vOf l) g)(hs:x.size<=70368744177664) :
  FnP Tryz.prog zmj #[.string x,.pointer (some ⟨b,0,none⟩)] w fun v w'=>v=.tuple #[]/\FI w0 l b r pb pm (L++[g]) w':=by
 have len:=fun(w1:World) (e1:Ext w w1)=>Tryz.Builder_Len_f b b _ w1 (zAV h.bld e1)
 have eo:=zJv (vOf l) L g
 unfold zK9 at eo
 refine zsJ x (some ⟨b,0,none⟩) w _ fun w0' h0=>⟨fun args w=>Tryz.call98 args w,(len w0' h0).mono fun e w1 ⟨he,hw⟩=>⟨_,he,by rw[hw];exact Ext.refl _,_,rfl,fun hle w3 h3=>?_,fun hgt w3 h3=>⟨rfl,(h.more h3).same ?_⟩⟩⟩
 ·rw[zd9] at hle
  have h3':=h.more h3
  refine⟨fun args w=>Tryz.call99 args w,(Tryz.Builder_WriteString_k b b _ x w3 h3'.bld (by rw[zd9];omega) (by have:=h3'.base;omega)).mono fun e w4 ⟨he,hb,hbel,hoth⟩=>⟨_,he,_,_,rfl,fun w7 h7=>⟨rfl,FI.more ?_ h7⟩⟩⟩
  have eo':zBP (vOf l) (L++[g])=zBP (vOf l) L++x.data.toList:=by rw[eo,if_pos (by omega),hx]
  obtain⟨b1,b2,b3,b4,b5⟩:=h3'.base
  have e:Ext w0 w4:=Below.trans h3'.ext (hbel.mono (by omega))
  obtain⟨c,fz,g1,g2,g3⟩:=h3'.fn
  have k1:w4.heap[pb]?=some (.cells c 188 fz):=hoth pb _ g1 (by simpa using g2) (by simp)
  refine⟨e,⟨b1,b2,b3,b4,Nat.lt_of_lt_of_le b5 hbel.size⟩,.inr ?_,⟨c,fz,k1,g2,?_⟩,?_,?_⟩
  ·rw[eo',show Lib.byteCells (zBP (vOf l) L++x.data.toList)=Lib.byteCells (zBP (vOf l) L)++Lib.strCells x by simp[Lib.byteCells,Lib.strCells]]
   exact hb
  ·rw[<-g3]
   exact World.cell?_of_block (by rw[zaL];exact k1.trans g1.symm)
  ·obtain⟨es,ck,m1,m2⟩:=h3'.mp.es
   exact⟨h3'.mp.nodup,es,ck,by rw[hbel.block r b2];exact m1,m2⟩
  ·exact znG hbel (fun a ha=>by cases ha;exact b4) h3'.mc
 ·rw[zd9] at hgt
  rw[eo,if_neg (by omega)]
theorem zNi{w:World}{t:TypeId}{vs:List Value}{K:Option Addr->World->Prop}(h1:∀v∈vs,v.oneCell'=true)
  (h:∀w',w'.heap[w.heap.size]?=some (.cells vs.toArray t (0,0))->Ext w w'->K (some ⟨w.heap.size,0,none⟩) w'):New w t vs K:=by
 refine⟨h1,fun p w' hn=>?_⟩
 rw[hn.at_]
 exact h w' hn.block hn.ext
theorem zME{w0 w:World}{l:List Lb}{b r pb pm:Nat}{L:List Sg}{n:By}(h:FI w0 l b r pb pm L w)(hs:∀x∈l,x.val.size<=70368744177664) :
  FnP Tryz.prog zmk #[.string (ofL n),.pointer (some ⟨pb,0,none⟩),.pointer (some ⟨pm,0,none⟩)] w fun v w'=>v=.tuple #[]/\FI w0 l b r pb pm (L++[.gap n]) w':=by
 obtain⟨_,_,_,_,h3⟩:=h.fn
 refine zsK (ofL n) _ _ w _ ⟨_,h3,_,h.mc,fun w2 h2=>look1 (h.mp.ext h2) ⟨Ext.refl _,_,rfl,fun w5 h5=>?_⟩⟩
 have key:(((zhR l (ofL n)).elim (⟨#[]⟩:ByteArray) (·.val)):ByteArray).data.toList=pc (vOf l) (.gap n)/\(((zhR l (ofL n)).elim (⟨#[]⟩:ByteArray) (·.val)):ByteArray).size<=70368744177664:=by
  cases hf:zhR l (ofL n) with
  |none => exact⟨by simp[pc,vOf,hf],by decide⟩
  |some x => exact⟨by simp[pc,vOf,hf],hs x (zqz hf).1⟩
 exact⟨97,#[.pointer (some ⟨b,0,none⟩)],rfl,(put_k (h.more h5) _ key.1 key.2).mono fun v w6 ⟨hv,h6⟩=>⟨hv,fun w7 h7=>⟨rfl,h6.more h7⟩⟩⟩
theorem zJa{l:List Lb}(h:kOk l)(k:Nat):kOk (l.take k):=by
 refine⟨fun x hx=>h.1 x (List.mem_of_mem_take hx),?_⟩
 unfold zpe
 rw[List.map_take]
 exact h.2.sublist (List.take_sublist _ _)
theorem Fill_k(s:ByteArray)(hs:s.size<=9223372036854775807)(p:Option Addr)(c:Nat)(l:List Lb)(hl63:(l.length:Int)<=9223372036854775807)(hk63:∀x∈l,x.key.size<=9223372036854775807)(hv:∀x∈l,x.val.size<=70368744177664)(w:World)(h:Lbs w p l) :
  FnP Tryz.prog zlr #[.string s,.slice p l.length c] w fun v w'=>Ext w w'/\∃(t:ByteArray) (e:Int),v=.tuple #[.string t,.int .i64 e]/\(e≠0->t=⟨#[]⟩) /\
   (e=0->s.size<=2000/\l.length<=8/\kOk l/\∃L,zhM s.data.toList L true/\(∀n∈zfx L,ofL n∈zpe l)/\(zfP (vOf l) L).length<=2000/\t=ofL (zfP (vOf l) L)) /\
   (∀L,s.size<=2000->zhM s.data.toList L true->l.length<=8->kOk l->((∀n∈zfx L,ofL n∈zpe l)->((zfP (vOf l) L).length<=2000->e=0)/\(2000<(zfP (vOf l) L).length->e=2))/\((∃n∈zfx L,ofL n∉zpe l)->e=5)):=by
 refine zxv s p l.length c w _ fun w0 h0=>?_
 refine(zLv s hs w0).mono fun v w1 ⟨e1,q,n,d,e,hv1,hr⟩=>⟨e1,q,n,d,e,hv1,fun hne w6 h6=>?_,fun he=>⟨fun h8 w6 h6=>?_,fun h8 w6 h6=>?_⟩⟩
 ·refine⟨(h0.trans e1).trans h6,_,e,rfl,fun _=>rfl,fun h=>absurd h hne,fun L h1 h2=>?_⟩
  rcases hr with⟨_,_,h3⟩|⟨h3,_⟩
  ·exact absurd h2 (h3 h1 L)
  ·exact absurd h3 hne
 ·exact⟨(h0.trans e1).trans h6,_,2,rfl,fun _=>rfl,fun h=>by(cases h),fun L h1 h2 h3=>by omega⟩
 rcases hr with⟨h3,_⟩|⟨_,hs2,L,hL,hn,oN⟩
 ·exact absurd he h3
 have x6:=(h0.trans e1).trans h6
 refine ziY (enc:=Value.string) fun w7 m7 e7=>⟨e7,_,rfl,fun w9 h9=>?_⟩
 have hr7:w6.heap.size<w7.heap.size:=m7.lt
 have hr9:w6.heap.size<w9.heap.size:=Nat.lt_of_lt_of_le hr7 h9.size
 refine zbc (by intro v hv;simp at hv;subst hv;rfl) fun w10 o10 e10=>?_
 have o10':=o10 w9.heap.size (Nat.le_refl _)
 have st:=zbF (off:=0) o10' (by simp) (v:=.map (some w6.heap.size)) rfl (ns:=[]) (by simp) (K:=fun w11=>Own w9.heap.size w11 zcC 1 (some ⟨w9.heap.size,0,none⟩) 1 1 [.map (some w6.heap.size)]/\zcr w10 w11 (some ⟨w9.heap.size,0,none⟩) (some ⟨w9.heap.size,0,none⟩)) fun w11 o g=>⟨o,g⟩
 rw[zaG] at st
 refine⟨st.1,fun w11 hw11=>?_⟩
 obtain⟨o11,g11⟩:=st.2 w11 hw11
 have x10:Ext w6 w10:=(e7.trans h9).trans e10
 have x11:Ext w6 w11:=g11.ext x10 (o10 w6.heap.size (by omega))
 refine⟨fun k w'=>Ext w6 w'/\0<=k/\k<=l.length/\kOk (l.take k.toNat)/\zcU Value.string w' w6.heap.size (mOf (l.take k.toNat))/\cell w' (some ⟨w9.heap.size,0,none⟩) 0=some (.map (some w6.heap.size)),fun k _=>(l.length-k).toNat,
  ⟨x11,by omega,by omega,⟨by simp,by simp[zpe]⟩,?_,o11.cellAt rfl⟩,?_⟩
 ·exact((m7.ext h9).ext e10).grew (fun x hx=>by cases hx;exact Ne.symm (Nat.ne_of_lt hr9)) g11
 rintro k w14 ⟨x14,hk0,hk1,hok,m14,c14⟩
 have xx:=x6.trans x14
 refine⟨fun hlt=>?_,fun hge=>?_⟩
 ·obtain⟨x,hx⟩:∃x,l[k.toNat]?=some x:=⟨_,List.getElem?_eq_getElem (by omega)⟩
  have hc0:cell w14 (pIdx p k 2) 0=some (.string x.key):=by
   rw[zae];exact zar xx (h k.toNat x hx 0 _ rfl)
  have hc1:cell w14 (pIdx p k 2) 1=some (.string x.val):=by
   rw[zae];exact zar xx (h k.toNat x hx 1 _ rfl)
  have hxm:=List.mem_of_getElem? hx
  have htk:l.take (k+1).toNat=l.take k.toNat++[x]:=by
   rw[show(k+1).toNat=k.toNat+1 by omega,List.take_add_one,hx];rfl
  refine⟨fun hq=>zal hc0 (zah.2 hq),hk0,hlt,zal hc0,_,hc0,_,hc1,fun b17 hb17=>⟨_,c14,fun w19 h19=>look2 (m14.ext h19) ⟨Ext.refl _,_,_,rfl,fun w23 h23=>?_⟩⟩⟩
  refine(zeK x.key (hk63 x hxm) w23).mono fun v w24 ⟨e24,hv24⟩=>⟨e24,_,hv24,fun hf w26 h26=>⟨xx.trans h26,_,3,rfl,fun _=>rfl,fun h=>by(cases h),fun M _ _ _ hkk=>?_⟩,fun ht=>⟨fun hin w26 h26=>⟨xx.trans h26,_,6,rfl,fun _=>rfl,fun h=>by(cases h),fun M _ _ _ hkk=>?_⟩,fun hno=>⟨_,c14,fun w27 h27=>?_⟩⟩⟩
  ·have:=hkk.1 x hxm
   rw[hf] at this;cases this
  ·exfalso
   have hk2:=(zJa hkk (k+1).toNat).2
   rw[htk] at hk2
   unfold zpe at hk2
   rw[List.map_append,List.nodup_append] at hk2
   have hm:x.key∈zpe (l.take k.toNat):=by
    by_cases hm:x.key∈zpe (l.take k.toNat)
    ·exact hm
    ·rw[znQ.2 hm] at hin;cases hin
   exact hk2.2.2 x.key hm x.key (by simp) rfl
  ·have x27:=zaa h27
   have hnm:x.key∉zpe (l.take k.toNat):=fun hm=>by
    have:zhR (l.take k.toNat) x.key≠none:=fun h=>znQ.1 h hm
    cases hf:zhR (l.take k.toNat) x.key with
    |none => exact this hf
    |some y => rw[hf] at hno;cases hno
   refine zfS kS mapS (m14.ext x27) fun w28 m28 g28=>⟨fun b hb=>?_,i64 (by omega),⟨?_,by omega,by omega,?_,?_,?_⟩,by simp only[];omega⟩
   ·simp at hb;subst hb
    have hlt17:=h27.lt b (by simp)
    refine g28.by_.block b hlt17 fun he=>?_
    simp[blk] at he
    have:=m14.lt
    omega
   ·have:Ext w6 w27:=x14.trans x27
    exact g28.below this this.size fun a ha=>by cases ha;exact Nat.le_refl _
   ·rw[htk]
    refine⟨fun y hy=>?_,?_⟩
    ·rcases List.mem_append.1 hy with hy|hy
     ·exact hok.1 y hy
     ·obtain rfl:=List.mem_singleton.1 hy;exact ht
    ·have h2:=hok.2
     unfold zpe at *
     rw[List.map_append,List.nodup_append]
     exact⟨h2,by simp,fun a ha b hb he=>by simp at hb;subst hb;subst he;exact hnm ha⟩
   ·rw[zJh (by rw[zFQ];exact hnm)] at m28
    rw[htk]
    have:mOf (l.take k.toNat++[x])=mOf (l.take k.toNat)++[(x.key,Value.string x.val)]:=by simp[mOf]
    rw[this];exact m28
   ·have hc:=zar x27 c14
    refine(World.cell?_of_block (w:=w27) (g28.by_.block _ ?_ fun he=>?_)).trans hc
    ·rw[zaL]
     obtain⟨a,ha,hb,_⟩:=zc7 hc
     cases ha;exact hb
    ·rw[zaL] at he
     simp[blk] at he
     omega
 ·have hkl:k=l.length:=by omega
  subst hkl
  rw[Int.toNat_natCast,List.take_length] at hok m14
  have oN14:=oN.ext (h6.trans x14)
  have hn2:n<=2000:=by have h1:=zw0 L;have h2:=hL.count;rw[<-zh4] at h2;omega
  have hnames:∀(j:Nat)(y:By),(names L)[j]?=some y->cell w14 q j=some (zNO y):=fun j y hy=>oN14.cells j _ (by simp[hy])
  refine⟨fun j w'=>w'=w14/\0<=j/\j<=n/\∀(i:Nat)(y:By),(i:Int)<j->(names L)[i]?=some y->ofL y∈zpe l,fun j _=>(n-j).toNat,⟨rfl,by omega,by omega,fun i y hi=>by omega⟩,?_⟩
  rintro j w17 ⟨rfl,hj0,hj1,hall⟩
  refine⟨fun hlt=>?_,fun hge w18 h18=>?_⟩
  ·obtain⟨y,hy⟩:∃y,(names L)[j.toNat]?=some y:=⟨_,List.getElem?_eq_getElem (by omega)⟩
   have hc:cell w17 (pIdx q j 1) 0=some (.string (ofL y)):=by rw[zae];simpa using hnames j.toNat y hy
   have hym:y∈zfx L:=zw1.1 (List.mem_of_getElem? hy)
   refine⟨fun hq=>zal hc (zah.2 hq),hj0,hlt,_,hc,_,c14,fun w20 h20=>look2 (m14.ext h20) ⟨Ext.refl _,_,_,rfl,fun hf w24 h24=>?_,fun ht=>⟨i64 (by omega),⟨rfl,by omega,by omega,fun i z hi hz=>?_⟩,by simp only[];omega⟩⟩⟩
   ·have hno:ofL y∉zpe l:=by
     cases hfl:zhR l (ofL y) with
     |none => exact znQ.1 hfl
     |some z => rw[hfl] at hf;cases hf
    refine⟨xx.trans h24,_,5,rfl,fun _=>rfl,fun h=>by(cases h),fun M _ hM _ _=>⟨fun hin=>?_,fun _=>rfl⟩⟩
    obtain⟨rfl,_⟩:=hM.uniq hL
    exact absurd (hin y hym) hno
   ·by_cases hij:(i:Int)<j
    ·exact hall i z hij hz
    ·have hij:i=j.toNat:=by omega
     subst hij
     rw[hy] at hz
     obtain rfl:=Option.some.inj hz
     cases hfl:zhR l (ofL y) with
     |none => rw[hfl] at ht;cases ht
     |some z => rw[<- (zqz hfl).2];exact List.mem_map.2 ⟨z,(zqz hfl).1,rfl⟩
  ·have hj:j=n:=by omega
   subst hj
   have hin:∀y∈zfx L,ofL y∈zpe l:=fun y hy=>by
    obtain⟨i,hi⟩:=List.mem_iff_getElem?.1 (zw1.2 hy)
    have:=(List.getElem?_eq_some_iff.1 hi).1
    exact hall i y (by omega) hi
   refine zNi (by intro v hv;simp at hv;rcases hv with rfl|rfl<;>rfl) fun w19 hb19 e19 w20 h20=>?_
   refine zbc (by intro v hv;simp at hv;subst hv;rfl) fun w21 o21 e21=>?_
   have st:=zbF (off:=0) (o21 w20.heap.size (Nat.le_refl _)) (by simp) (v:=.func (.func 97) #[] #[.pointer (some ⟨w18.heap.size,0,none⟩)]) rfl (ns:=[]) (by simp) (K:=fun w22=>Own w20.heap.size w22 188 1 (some ⟨w20.heap.size,0,none⟩) 1 1 [.func (.func 97) #[] #[.pointer (some ⟨w18.heap.size,0,none⟩)]]/\zcr w21 w22 (some ⟨w20.heap.size,0,none⟩) (some ⟨w20.heap.size,0,none⟩)) fun w22 o g=>⟨o,g⟩
   rw[zaG] at st
   refine⟨st.1,fun w22 hw22=>?_⟩
   obtain⟨o22,g22⟩:=st.2 w22 hw22
   have b19:w18.heap.size<w19.heap.size:=(Array.getElem?_eq_some_iff.1 hb19).1
   have x21:Ext w18 w21:=(e19.trans h20).trans e21
   have b20:w18.heap.size<w20.heap.size:=Nat.lt_of_lt_of_le b19 h20.size
   have x22:Ext w20 w22:=g22.ext e21 (o21 w20.heap.size (Nat.le_refl _))
   have xw:Ext w w22:=(((xx.trans h18).trans e19).trans h20).trans x22
   have hpm:w9.heap.size<w17.heap.size:=by
    obtain⟨a,ha,hb,_⟩:=zc7 c14
    cases ha;exact hb
   have hrm:=m14.lt
   have hs18:=h18.size
   have h7:=x6.size
   have h22:=x22.size
   have fi:FI w l w18.heap.size w6.heap.size w20.heap.size w9.heap.size [] w22:=by
    refine⟨xw,⟨h7,by omega,by omega,by omega,by omega⟩,.inl ?_,?_,((((m14.ext h18).ext e19).ext h20).ext x22),zar (((h18.trans e19).trans h20).trans x22) c14⟩
    ·refine⟨Nat.le_refl _,.slice none 0 0,?_,World.ownsRowF_nil _ _ _ _,by simp[Value.ownBlock]⟩
     rw[x22.block _ b20,h20.block _ b19];exact hb19
    ·obtain⟨g,cap,cur,hv,_,hg,_⟩:∃g cap cur,(Value.slice (some ⟨w20.heap.size,0,none⟩) 1 1:Value)=.slice (some ⟨g,0,none⟩) 1 cap/\True/\w22.heap[g]?=some (.cells cur 188 (0,0))/\True:=by
      rcases o22.2 with⟨hn,_⟩|⟨g,cap,cur,hv,hb,hg,_⟩
      ·simp at hn
      ·exact⟨g,cap,cur,hv,trivial,hg,trivial⟩
     have:g=w20.heap.size:=by simp at hv;omega
     subst this
     exact⟨cur,(0,0),hg,by omega,o22.cellAt rfl⟩
   refine⟨_,o22.cellAt rfl,fun w24 h24=>?_⟩
   refine(zGf s hs _ _ (FI w l w18.heap.size w6.heap.size w20.heap.size w9.heap.size) w24 (fi.more h24) (fun L w w' h e=>h.more e) (fun M y w3 h hy _=>⟨97,#[.pointer (some ⟨w18.heap.size,0,none⟩)],rfl,put_k h (ofL y) rfl (by rw[zai];omega)⟩) (fun M y w3 h hy _=>⟨101,#[.pointer (some ⟨w20.heap.size,0,none⟩),.pointer (some ⟨w9.heap.size,0,none⟩)],rfl,zME h hv⟩)).mono fun v w25 ⟨M,b,hv25,hseg,f25⟩=>⟨b,hv25,fun w27 h27=>?_⟩
   obtain⟨rfl,_⟩:=hseg.uniq hL
   have f27:=f25.more h27
   refine⟨fun args w=>Tryz.call98 args w,(Tryz.Builder_Len_f _ _ _ w27 f27.bld).mono fun e w28 ⟨he28,hw28⟩=>⟨_,he28,by rw[hw28];exact Ext.refl _,_,rfl,fun hgt w30 h30=>⟨f25.ext.trans h30,_,2,rfl,fun _=>rfl,fun h=>by(cases h),fun N _ hN _ _=>⟨fun _=>⟨fun hle=>?_,fun _=>rfl⟩,fun⟨y,hy,hyn⟩=>?_⟩⟩,fun hle w30 h30=>?_⟩⟩
   ·obtain⟨rfl,_⟩:=hN.uniq hL
    rw[zd9] at hgt
    have:=zGc.2 hle
    omega
   ·obtain⟨rfl,_⟩:=hN.uniq hL
    exact absurd (hin y hy) hyn
   ·rw[zd9] at hle
    have hfl:(zfP (vOf l) M).length<=2000:=zGc.1 (by omega)
    have f30:=f25.more h30
    refine⟨fun args w=>Tryz.call102 args w,(Tryz.Builder_String_any_k _ _ _ w30 f30.bld (by have:=f30.base;omega)).mono fun e w31 ⟨he31,_,hbel,_⟩=>⟨_,he31,_,rfl,fun w33 h33=>⟨Ext.trans (Below.trans f30.ext (hbel.mono (by have:=f30.base;omega))) h33,_,0,rfl,fun h=>absurd rfl h,fun _=>⟨hs2,by omega,hok,M,hL,hin,hfl,by rw[<-zNp hfl];rfl⟩,fun N _ hN _ _=>⟨fun _=>⟨fun _=>rfl,fun hgt=>?_⟩,fun⟨y,hy,hyn⟩=>?_⟩⟩⟩⟩
    ·obtain⟨rfl,_⟩:=hN.uniq hL
     omega
    ·obtain⟨rfl,_⟩:=hN.uniq hL
     exact absurd (hin y hy) hyn
theorem zBx{l:List Nat}{w w':World}(e:Ext w w')(h:∀b∈l,b<w.heap.size):zbY l w w':=(zac (S:=fun _=>False) e).kept fun b hb=>⟨h b hb,fun h=>h⟩
theorem tk_gb{w:World}(g:GD w):zx2 w:=⟨⟨g.gc.1 15 (by omega),g.gb.pow⟩,g.gb.maxLen,g.gb.eSyn,g.gb.eRan⟩
theorem zxO{key:Int}{t:Tk}(ok:okT t):(ofL (zcF key t)).size<=103:=by rw[zai];exact zB7 ok
theorem zHW(key:Int)(hk:0<=key/\key<=18446744073709551615)(t:Tk)(ok:okT t)(now til:Int)(h1:t.from'<=now)(h2:now<=t.til)(h3:t.til<=til)(h4:til<=t.most)(w:World)(g:zx2 w) :
  FnP Tryz.prog zhe #[.int .u64 key,.string (ofL (zcF key t)),.int .i64 now,.int .i64 til] w fun v w'=>Ext w w'/\v=.tuple #[.string (ofL (zcF key ⟨t.user,t.from',til,t.most⟩)),.int .i64 0]:=by
 have hs:=zxO (key:=key) ok
 refine zrg key _ now til w _ fun w0 h0=>(zKn key hk _ (by omega) now w0 (g.ext h0)).mono fun v w1 ⟨e1,u,e,hv,hus,_,_,hu⟩=>⟨e1,u.user,u.from',u.til,u.most,e,hv,fun b7 _=>?_⟩
 obtain⟨he,rfl⟩:=(hu t ok rfl).1 h1 h2
 have hu20:=zlZ ok.1
 refine⟨fun h=>absurd he h,fun _=>⟨fun h=>by omega,fun _=>⟨fun h=>by omega,fun _ w8 h8=>?_⟩⟩⟩
 have ok2:okT ⟨u.user,u.from',til,u.most⟩:=⟨ok.1,ok.2.1,by have:=ok.2.2.1;show u.from'<=til;omega,h4,ok.2.2.2.2⟩
 exact(zD5 key hk ⟨u.user,u.from',til,u.most⟩ (by show u.user.size<=_;omega) w8 (g.ext h8).toGA).mono fun v w9 ⟨e9,s,e',hv,he',_,hs'⟩=>⟨e9,s,e',hv,fun w12 h12=>⟨h12,by rw[hs' (he'.2 ok2),he'.2 ok2]⟩⟩
def zKd:List UInt8:=[116,105,99,107,101,116]
def gapS:ByteArray:=⟨#[36,123,116,105,99,107,101,116,125]⟩
theorem zBn:zhM gapS.data.toList [.txt [],.gap zKd,.txt []] true :=
 zhM.gap (a:=[]) (n:=zKd) (r:=[]) (by simp) (by unfold lbL;decide) (zhM.stop (by simp))
theorem zx1(W:World)(g:GD W)(key:Int)(hk:InR .u64 key)(t0:ByteArray)(ht0:t0.size<=9223372036854775807)(t1 t2 t3:Int)(i1:InR .i64 t1)(i2:InR .i64 t2)(i3:InR .i64 t3){p:Option Addr}{l c:Nat}(hb:zaC Tryz.prog W zcV p l c) :
  FnP Tryz.prog zcc #[.int .u64 key,.agg #[.string t0,.int .i64 t1,.int .i64 t2,.int .i64 t3],.slice p l c] W fun v W'=>v=.bool true/\Ext W W':=by
 have hsz:=zzh g
 have hk:0<=key/\key<=18446744073709551615:=hk
 obtain⟨X,rfl,hx,hX⟩:=hb.ints (k:=.i64) (by kernel_rfl) (by kernel_rfl)
 let t:Tk:=⟨t0,t1,t2,t3⟩
 have G:=tk_gb g
 refine zgz key t0 t1 t2 t3 p X.length c W _ fun b0 hb0 w1 h1=>(zD5 key hk t ht0 w1 (G.ext h1).toGA).mono fun v w2 ⟨e2,s,e,hv,he,_,hse⟩=>⟨e2,s,e,hv,fun w5 h5=>?_⟩
 refine(zvw w5 (g.ext h5) (Nat.le_trans hsz h5.size)).mono fun v w6 ⟨e6,hv⟩=>⟨e6,true,hv,fun _ w8 h8=>?_,fun hgood=>?_⟩
 ·exact(zvw w8 (g.ext h8) (Nat.le_trans hsz h8.size)).mono fun v w9 ⟨e9,hv⟩=>⟨e9,true,hv,fun w11 h11=>⟨rfl,h11⟩⟩
 obtain⟨⟨_,hz⟩,h20⟩:=hgood
 have ok:=he.1 hz
 refine⟨fun s' now k w'=>w'=W/\0<=k/\k<=X.length/\∃u:Tk,okT u/\u.user=t0/\u.most=t3/\s'=ofL (zcF key u)/\u.from'<=now/\now<=u.til,fun _ _ k _=>(X.length-k).toNat,⟨rfl,by omega,by omega,t,ok,rfl,rfl,hse hz,Int.le_refl _,ok.2.2.1⟩,?_⟩
 rintro s' now k w' ⟨rfl,hk0,hk1,u,oku,hu0,hu3,rfl,hf,hn⟩
 have hss:=zxO (key:=key) oku
 refine⟨fun hlt=>?_,fun hge w13 x13=>?_⟩
 ·have gc:=zes.idx hX hk0 hlt
  refine⟨fun h=>zal gc (zah.2 h),hk0,hlt,_,gc,fun w14 h14=>(zKn key hk _ (by omega) now w14 (G.ext h14)).mono fun v w15 ⟨e15,u2,e',hv,_,_,_,hu⟩=>⟨e15,u2.user,u2.from',u2.til,u2.most,e',hv,fun b21 _=>?_⟩⟩
  obtain⟨he',rfl⟩:=(hu u oku rfl).1 hf hn
  obtain⟨o1,o2,o3,o4,o5⟩:=id oku
  refine⟨fun hbad=>?_,fun _=>⟨fun _=>i64 (by omega),fun _=>⟨i64 (by omega),⟨rfl,by omega,by omega,u2,oku,hu0,hu3,rfl,hf,hn⟩,by simp only[];omega⟩,fun hgo=>⟨i64 (by omega),fun w22 h22=>?_⟩⟩⟩
  ·exfalso
   rcases hbad with ((h|h)|h)|h
   ·exact h he'
   ·exact h hu0
   ·exact h hu3
   ·omega
  ·generalize X.getD k.toNat 0=b at hgo ⊢
   refine(zHW key hk u2 oku now (u2.til+b) hf hn (by omega) (by omega) w22 (G.ext h22)).mono fun v w23 ⟨e23,hv⟩=>⟨e23,_,_,hv,fun h=>absurd rfl h,fun _=>⟨i64 (by omega),⟨rfl,by omega,by omega,⟨u2.user,u2.from',u2.til+b,u2.most⟩,⟨o1,o2,?_,?_,o5⟩,hu0,hu3,rfl,o3,?_⟩,by simp only[];omega⟩⟩
   ·show u2.from'<=u2.til+b;omega
   ·show u2.til+b<=u2.most;omega
   ·show u2.til<=u2.til+b;omega
 ·have h13:=zaa x13
  refine zce ziA [.agg #[.string (ofL zKd),.string (ofL (zcF key u))]] rfl rfl (fun v hv=>by simp at hv;subst hv;rfl) (by omega) (by omega) fun w14 o14 e14=>⟨e14,_,_,_,rfl,fun w18 x18=>?_⟩
  have h18:=zaa x18
  let L:List Lb:=[⟨ofL zKd,ofL (zcF key u)⟩]
  have oL:Own 0 w18 zls 2 (some ⟨w13.heap.size,0,none⟩) 1 1 (L.flatMap zqu):=by
   have:=(o14 0 (Nat.zero_le _)).ext h18
   simpa[Value.cells,L,zqu] using this
  refine(Fill_k gapS (by decide) (some ⟨w13.heap.size,0,none⟩) 1 L (by simp[L]) (fun x hx=>by simp[L] at hx;subst hx;show(ofL zKd).size<=_;decide) (fun x hx=>by simp[L] at hx;subst hx;show(ofL (zcF key u)).size<=_;omega) w18 (oL.recs fun _ _=>rfl)).mono fun v w19 ⟨e19,t',e',hv,_,hy,hno⟩=>?_
  have hkey:kOk L:=⟨fun x hx=>by simp[L] at hx;subst hx;show lbB (ofL zKd)=true;decide,by simp[zpe,L]⟩
  have hv1:vOf L zKd=zcF key u:=by
   unfold vOf zhR
   simp[L,za6]
  have hfl:zfP (vOf L) [.txt [],.gap zKd,.txt []]=zcF key u:=by simp[zfP,hv1]
  have he0:e'=0:=by
   have h1:=(hno _ (by decide) zBn (by simp[L]) hkey).1 (fun n hn=>by simp[zfx] at hn;subst hn;simp[zpe,L])
   refine h1.1 ?_
   rw[hfl]
   have:=zB7 (key:=key) oku
   omega
  obtain⟨_,_,_,L',hs',_,_,ht'⟩:=hy he0
  have hL':L'=[.txt [],.gap zKd,.txt []]:=(hs'.uniq zBn).1
  rw[hL',hfl] at ht'
  refine⟨zBx e19 fun b hb=>x18.lt b hb,t',e',hv,fun w22 h22=>⟨?_,((((h13.trans e14).trans h18).trans e19)).trans h22⟩⟩
  rw[he0,ht']
  simp
theorem zEN(W:World)(hg:GD W):∀key:Int,InR .u64 key->∀t_0:ByteArray,t_0.size<=9223372036854775807->∀t_1:Int,InR .i64 t_1->∀t_2:Int,InR .i64 t_2->∀t_3:Int,InR .i64 t_3->∀by_v:Option Addr,∀by_vl:Nat,∀by_vc:Nat,zaC Tryz.prog W zcV by_v by_vl by_vc ->
 FnP Tryz.prog zcc #[(.int .u64 key),(.agg #[(.string t_0),(.int .i64 t_1),(.int .i64 t_2),(.int .i64 t_3)]),(.slice by_v by_vl by_vc)] W fun v W'=>v=.bool true/\Ext W W':=fun key hk t0 h0 t1 h1 t2 h2 t3 h3 p l c hb=>zx1 W hg key hk t0 h0 t1 t2 t3 h1 h2 h3 hb
end Go.Proofs.YtcceeahmcecbnaaGreatDoor
namespace Go.Proofs.YtcceeahmcecbnaaGreatDoor
open Go.Sx Go.RowKit Go.ChangeShapes Go.WideShapes Go.ChangeAt
theorem zIY{H:Type}{enc:TypeId×Value->H}{a:Assume}{C:Checked}{os:Os}{f:FuncId}{fn:Func}{s:ChangeSpec}{conds:List PathCond}{apart fresh handsOn again:Bool}{X:World->Array Value->Prop}
  (hX:∀(w w':World)(args:Array Value),w.heap=w'.heap->X w args->X w' args)
  (own:ownKnob C.prog.godebug=none) (started:os.Started) (noInit:C.prog.inits.idxOf? f=none) (hfn:C.prog.funcs[f]?=some fn)
  (witness:∃(w:World) (tape:Tape) (i:Input),w.os=os/\(w.forCall tape i).Shaped C.prog/\i.vars=[]/\Input.okWide C.prog (w.forCall tape i) .any w.heap.size f i /\
   ((s.pre enc C.prog fn conds apart (w.forCall tape i).memory i.args/\X (w.forCall tape i).memory i.args)/\sizedMet enc C.prog fn (OpenSpec.ofChange s) apart (w.forCall tape i).memory i.args)/\a.holds C.prog (lone (Frame.enter C.prog f i.args .normal) [] (w.forCall tape i)))
  (contract:∀(W:World) (base:Nat) (args:Array Value) (ds gs:List (DataW H)) (zcn:List MemPlace),
   (∀(j:Nat) t v,fn.params[j]?=some t->args[j]?=some v->Value.okWide C.prog W .any base t v) ->
   DataW.Whole enc C.prog fn.params.toList s.vars apart W args.toList ds gs zcn ->
   conds.all (PathCond.test C.prog ⟨fn.params.toList,ds,s.plain.varTypes C.prog,gs⟩)=true ->
   (DataW.weightsEach C.prog (fn.params.toList++s.plain.varTypes C.prog) (ds++gs)).all (·<=reachBytes)=true->X W args ->
   a.holds C.prog (lone (Frame.enter C.prog f args .normal) [] W)->W.ShapedOpen C.prog ->
   Calls C.prog f args W fun e W'=>∃v,e=.returned v/\s.post enc C.prog fn apart fresh handsOn again W args v W') :
  ReturnsInHanded a C os f .any (fun w args=>(s.pre enc C.prog fn conds apart w args/\X w args)/\sizedMet enc C.prog fn (OpenSpec.ofChange s) apart w args) (s.post enc C.prog fn apart fresh handsOn again):=by
 refine returnsInHanded_of_calls own started noInit witness ?_
 intro w tape i _ hsh _ hok hpre hholds
 obtain⟨_,_,_,fn',hfn',_,_,_,_,hval⟩:=hok
 have e:fn'=fn:=Option.some.inj (hfn'.symm.trans hfn)
 subst e
 obtain⟨⟨⟨ds,gs,zcn,hw,hc⟩,hx⟩,hz⟩:=hpre
 refine(contract (w.forCall tape i) w.heap.size i.args ds gs zcn hval (DataW.Whole.of_heap (w':=w.forCall tape i) (by rfl) hw) hc (hz.weights hw) (hX _ _ _ (by rfl) hx) hholds hsh).mono fun e W' ⟨v,he,hp⟩=>?_
 subst he
 exact ChangeSpec.post_blind hp
end Go.Proofs.YtcceeahmcecbnaaGreatDoor
