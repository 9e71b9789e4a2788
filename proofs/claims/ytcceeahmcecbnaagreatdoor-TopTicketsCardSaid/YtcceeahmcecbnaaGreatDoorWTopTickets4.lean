/- The framework, the program's texts and what is shown of them: part 4. -/
import Derived.Test.YtcceeahmcecbnaaGreatDoorWTopTickets3
import Derived.Shelf.Strings.IndexAnyAll
import Derived.Shelf.Small.Utf8
import Derived.Laws.Runes
import Derived.Shelf.RegionOpenPlain
import Derived.Laws.RangeAny
import Derived.Lib.OthersKept
import Derived.Lib.AtoiAllCases
import Derived.Lib.LaidTab
import Derived.Handed
import Derived.Lib.AppendStr
import Derived.Laws.BitsLemmas
set_option linter.unusedVariables false
set_option linter.unusedSimpArgs false
set_option maxRecDepth 100000
namespace Go.Proofs.YtcceeahmcecbnaaGreatDoor
open Go.Sx Go.RowKit
theorem zeK(s:ByteArray)(hs:s.size<=9223372036854775807)(w:World):FnP Tryz.prog za0 #[.string s] w fun v w'=>Ext w w'/\v=.bool (lbB s):=by
 have hem:s≠emS↔0<s.size:=by
  constructor
  ·intro h
   refine Nat.pos_of_ne_zero fun h0=>h ?_
   have h1:s.data.size=0:=h0
   have h2:s=ByteArray.empty:=by simpa using h1
   rw[h2];rfl
  ·rintro h rfl
   simp[emS] at h;exact absurd h (by decide)
 refine zxd s w _ ⟨fun _=>by omega,fun h=>?_,fun _=>by omega,fun h=>?_,fun h w0 h0=>⟨h0,?_⟩,fun h w0 h0=>?_⟩
 ·have:=hem.1 h.1;omega
 ·have:=hem.1 h.1.1;omega
 ·congr 1
  symm
  unfold lbB
  rcases h with ((h|h)|h)|h
  ·have:¬ 0<s.size:=fun hp=>(hem.2 hp) h
   simp[this]
  ·have:¬s.size<=20:=by omega
   simp[this]
  ·have:¬ 97<=sAt s 0:=by omega
   simp[this]
  ·have:¬sAt s 0<=122:=by omega
   simp[this]
 ·obtain⟨⟨⟨h1,h2⟩,h3⟩,h4⟩:=h
  have hp:=hem.1 h1
  refine zGH (e:=zaP) (by kernel_rfl) (by kernel_rfl) (by kernel_rfl) fun p c w1 e1 hb=>⟨e1,p,s.size,c,rfl,?_⟩
  have hlen:=ztq s
  refine⟨fun k w'=>w'=w1/\0<=k/\k<=s.size/\∀i:Nat,(i:Int)<k->okC ((zdD s).getD i 0)=true,fun k _=>(s.size-k).toNat,⟨rfl,by omega,by omega,fun i hi=>by omega⟩,?_⟩
  rintro k w1 ⟨rfl,hk0,hk1,hall⟩
  refine⟨fun hlt=>?_,fun hge w8 h8=>⟨(h0.trans e1).trans h8,?_⟩⟩
  ·have g:=zes.idx hb hk0 (by omega)
   refine⟨fun hq=>zal g (zah.2 hq),hk0,hlt,_,g,fun hbad w9 h9=>⟨(h0.trans e1).trans h9,?_⟩,fun hok=>⟨i64 (by omega),⟨rfl,by omega,by omega,fun i hi=>?_⟩,by simp only[];omega⟩⟩
   ·congr 1
    symm
    have hno:okC ((zdD s).getD k.toNat 0)=false:=by
     unfold okC
     generalize (zdD s).getD k.toNat 0=b at hbad
     simp;omega
    have:(zdD s).all okC=false:=by
     rw[List.all_eq_false]
     exact⟨_,zat (zdD s) 0 (i:=k.toNat) (by omega),by rw[hno];simp⟩
    unfold lbB
    simp[this]
   ·by_cases hik:(i:Int)<k
    ·exact hall i hik
    ·obtain rfl:i=k.toNat:=by omega
     unfold okC
     generalize (zdD s).getD k.toNat 0=b at hok
     simp;omega
  ·congr 1
   symm
   have:(zdD s).all okC=true:=by
    rw[List.all_eq_true]
    intro x hx
    obtain⟨i,hi,rfl⟩:=List.getElem_of_mem hx
    have:=hall i (by omega)
    simpa[List.getD_eq_getElem?_getD,hi] using this
   unfold lbB
   simp only[this,Bool.and_true,Bool.and_eq_true,decide_eq_true_eq]
   exact⟨⟨⟨hp,by omega⟩,h3⟩,h4⟩
theorem zL9:∀(t:AT)(p:Option Addr)(c:Nat)(w:World),IsT w t p c->WfA t->FnP Tryz.prog zid #[av t p c] w fun v w'=>Ext w w'/\v=.int .i64 (zL6 t):=by
 intro t
 induction t using AT.ind with
 |h k key val n xs ih =>
  intro p c w hT hW
  have hlen:=hW.len
  refine zxf k key val n p xs.length c w _ fun b0 _=>?_
  refine⟨fun m k2 w'=>w'=w/\0<=k2/\k2<=xs.length/\zHx (xs.drop k2.toNat) m=zHx xs 1,fun _ k2 _=>(xs.length-k2).toNat,⟨rfl,by omega,by omega,rfl⟩,?_⟩
  rintro m k2 w ⟨rfl,hk0,hk1,hc⟩
  refine⟨fun hlt=>?_,fun hge w5 h5=>⟨h5,?_⟩⟩
  ·obtain⟨x,p',c',hx,hmem,hIx,hp,hp5,g0,g1,g2,g3,g4⟩:=hT.at hk0 (by exact hlt)
   have hx:xs[k2.toNat]?=some x:=hx
   refine⟨hp,hk0,hlt,hp5,_,g0,_,g1,_,g2,_,g3,_,_,_,g4,fun b12 _ w13 h13=>?_⟩
   refine(ih x hmem p' c' w13 (hIx.ext h13 _ _ _) (hW.sub x hmem)).mono fun v w14 ⟨e14,hv⟩=>⟨e14,_,hv,i64 (by have hlen:xs.length<=9223372036854775807:=hlen;omega),⟨rfl,by omega,by omega,?_⟩,by simp only[];omega⟩
   rw[<-hc,show(k2+1).toNat=k2.toNat+1 by omega]
   obtain⟨hi,he⟩:=List.getElem?_eq_some_iff.1 hx
   rw[List.drop_eq_getElem_cons hi,he]
   show _=zHx (x::xs.drop (k2.toNat+1)) m
   rw[zHx]
  ·have hd:xs.drop k2.toNat=[]:=List.drop_of_length_le (by omega)
   rw[hd] at hc
   unfold zL6
   rw[<-hc,zHx]
theorem unit_k(s:ByteArray)(w:World):FnP Tryz.prog znw #[.string s] w fun v w'=>Ext w w'/\v=.bool (unB s) :=
 zzD s w _ fun w0 h0=>⟨h0,rfl⟩
theorem zL5:∀(t:AT)(p:Option Addr)(c:Nat)(w:World),IsT w t p c->WfA t->FnP Tryz.prog zic #[av t p c] w fun v w'=>Ext w w'/\v=.int .i64 (zfw t):=by
 intro t
 induction t using AT.ind with
 |h k key val n xs ih =>
  intro p c w hT hW
  have hlen:xs.length<=9223372036854775807:=hW.len
  have hWn:=hW
  unfold WfA at hWn
  obtain⟨hk,hkey,hval,hn,_,_⟩:=hWn
  have E:zfw (.mk k key val n xs)=if zma k key val n xs.length≠0 then zma k key val n xs.length else zCV xs:=by rw[zfw]
  rw[E]
  have bad:∀e:Int,zma k key val n xs.length=e->e≠0->∀w1,Ext w w1->Ext w w1/\Value.int .i64 e=.int .i64 (if zma k key val n xs.length≠0 then zma k key val n xs.length else zCV xs):=fun e he hne w1 h1=>⟨h1,by rw[he,if_pos hne]⟩
  refine zxe k key val n p xs.length c w _ fun b0 _=>⟨fun hb w1 h1=>bad 1 (by unfold zma;rw[if_pos hb]) (by omega) w1 h1,fun hg=>?_⟩
  have hr:¬(k<1\/6<k):=by omega
  refine⟨fun i b w'=>w'=w/\i=zgw k/\(b=true↔k<4),?_,?_⟩
  ·have h5:k=5->(w=w/\((0:Int)+1)+1=zgw k/\(false=true↔k<4)):=fun h=>⟨rfl,by unfold zgw;rw[if_pos (.inl h)];rfl,by simp;omega⟩
   have h6:k=6->(w=w/\((0:Int)+1)+1=zgw k/\(false=true↔k<4)):=fun h=>⟨rfl,by unfold zgw;rw[if_pos (.inr h)];rfl,by simp;omega⟩
   have h4:k=4->(w=w/\(0:Int)+1=zgw k/\(false=true↔k<4)):=fun h=>⟨rfl,by unfold zgw;rw[if_neg (by omega),if_pos h];rfl,by simp;omega⟩
   have h0:k≠4->k≠5->k≠6->(w=w/\(0:Int)=zgw k/\(true=true↔k<4)):=fun h4 h5 h6=>⟨rfl,by unfold zgw;rw[if_neg (by omega),if_neg h4];rfl,by simp;omega⟩
   exact⟨fun h=>⟨fun _=>⟨i64 (by omega),i64 (by omega),h5 h⟩,fun hn=>absurd h hn⟩,fun hn5=>⟨fun h=>⟨i64 (by omega),i64 (by omega),h6 h⟩,fun hn6=>⟨fun h=>⟨i64 (by omega),h4 h⟩,fun hn4=>h0 hn4 hn5 hn6⟩⟩⟩
  rintro i b w ⟨rfl,rfl,hb⟩
  refine⟨fun hbd w5 h5=>bad 1 ?_ (by omega) w5 h5,fun hok=>?_⟩
  ·unfold zma
   rw[if_neg hr]
   by_cases hl:xs.length=zgw k
   ·rw[if_neg (by simpa using hl),if_pos]
    rcases hbd with ((h|⟨h,h'⟩)|⟨h,h'⟩)|⟨h,h'⟩
    ·omega
    ·left
     refine⟨?_,h'⟩
     cases b
     ·simp at hb;exact hb
     ·cases h
    ·right;left;exact⟨h,h'⟩
    ·right;right;exact⟨h,h'⟩
   ·rw[if_pos hl]
  ·obtain⟨⟨⟨hl,hke⟩,hva⟩,hnn⟩:=hok
   have hl':xs.length=zgw k:=by omega
   have h2:¬xs.length≠zgw k:=by simpa using hl'
   have h3:¬((4<=k/\key≠emS)\/(k≠2/\val≠emS)\/(k≠3/\n≠0)):=by
    rintro (⟨h,h'⟩|⟨h,h'⟩|⟨h,h'⟩)
    ·rcases hke with hk'|hk'
     ·have:=hb.1 hk';omega
     ·exact h' hk'
    ·rcases hva with hv'|hv'
     ·exact h hv'
     ·exact h' hv'
    ·rcases hnn with hn'|hn'
     ·exact h hn'
     ·exact h' hn'
   have e3:((k=3/\unB key=false)\/((k=1\/k=2)/\lbB key=false)\/(k=2/\lbB val=false))->zma k key val n xs.length=3:=fun h=>by
    unfold zma;rw[if_neg hr,if_neg h2,if_neg h3,if_pos h]
   have e4:¬((k=3/\unB key=false)\/((k=1\/k=2)/\lbB key=false)\/(k=2/\lbB val=false))->(n<0\/1099511627776<n)->zma k key val n xs.length=4:=fun h h'=>by
    unfold zma;rw[if_neg hr,if_neg h2,if_neg h3,if_neg h,if_pos h']
   have e0:¬((k=3/\unB key=false)\/((k=1\/k=2)/\lbB key=false)\/(k=2/\lbB val=false))->¬(n<0\/1099511627776<n)->zma k key val n xs.length=0:=fun h h'=>by
    unfold zma;rw[if_neg hr,if_neg h2,if_neg h3,if_neg h,if_neg h']
   refine⟨fun w'=>w'=w/\zma k key val n xs.length=0,?_,?_⟩
   ·refine⟨fun hk3 w7 h7=>?_,fun hk3=>⟨fun hk12 w7 h7=>?_,fun hk12=>⟨fun h2=>by omega,fun hk2=>⟨fun hb4 w7 h7=>bad 4 (e4 ?_ hb4) (by omega) w7 h7,fun hg4=>⟨rfl,e0 ?_ (by omega)⟩⟩⟩⟩⟩
    ·refine(unit_k key w7).mono fun v w8 ⟨e8,hv⟩=>⟨e8,_,hv,fun hf=>⟨fun _ w10 h10=>bad 3 (e3 (.inl ⟨hk3,hf⟩)) (by omega) w10 h10,fun ht=>by rw[hf] at ht;cases ht⟩,fun ht=>⟨fun hk12=>by omega,fun _=>⟨fun h2=>by omega,fun hk2=>⟨fun hb4 w10 h10=>bad 4 (e4 ?_ hb4) (by omega) w10 h10,fun hg4=>⟨rfl,e0 ?_ (by omega)⟩⟩⟩⟩⟩
     all_goals
      rintro (⟨_,h⟩|⟨h,_⟩|⟨h,_⟩)
      ·rw[ht] at h;cases h
      ·omega
      ·omega
    ·refine(zeK key hkey w7).mono fun v w8 ⟨e8,hv⟩=>⟨e8,_,hv,fun hf=>⟨fun _ w10 h10=>bad 3 (e3 (.inr (.inl ⟨hk12,hf⟩))) (by omega) w10 h10,fun ht=>by rw[hf] at ht;cases ht⟩,fun ht=>⟨fun hk2 w10 h10=>?_,fun hk2=>⟨fun hb4 w10 h10=>bad 4 (e4 ?_ hb4) (by omega) w10 h10,fun hg4=>⟨rfl,e0 ?_ (by omega)⟩⟩⟩⟩
     ·refine(zeK val hval w10).mono fun v w11 ⟨e11,hv⟩=>⟨e11,_,hv,fun hf=>fun w13 h13=>bad 3 (e3 (.inr (.inr ⟨hk2,hf⟩))) (by omega) w13 h13,fun ht2=>⟨fun hb4 w13 h13=>bad 4 (e4 ?_ hb4) (by omega) w13 h13,fun hg4=>⟨rfl,e0 ?_ (by omega)⟩⟩⟩
      all_goals
       rintro (⟨h,_⟩|⟨_,h⟩|⟨_,h⟩)
       ·omega
       ·rw[ht] at h;cases h
       ·rw[ht2] at h;cases h
     all_goals
      rintro (⟨h,_⟩|⟨_,h⟩|⟨h,_⟩)
      ·omega
      ·rw[ht] at h;cases h
      ·omega
    all_goals
     rintro (⟨h,_⟩|⟨h,_⟩|⟨h,_⟩)
     ·omega
     ·omega
     ·omega
   ·rintro w ⟨rfl,herr⟩
    rw[herr,if_neg (by omega)]
    refine⟨fun k2 w'=>w'=w/\0<=k2/\k2<=xs.length/\∀(j:Nat)(y:AT),(j:Int)<k2->xs[j]?=some y->zfw y=0,fun k2 _=>(xs.length-k2).toNat,⟨rfl,by omega,by omega,fun j y hj=>by omega⟩,?_⟩
    rintro k2 w ⟨rfl,hk0,hk1,hall⟩
    refine⟨fun hlt=>?_,fun hge w10 h10=>⟨h10,?_⟩⟩
    ·obtain⟨x,p',c',hx,hmem,hIx,hp,hp5,g0,g1,g2,g3,g4⟩:=hT.at hk0 (by exact hlt)
     have hx:xs[k2.toNat]?=some x:=hx
     refine⟨hp,hk0,hlt,hp5,_,g0,_,g1,_,g2,_,g3,_,_,_,g4,fun b17 _ w18 h18=>?_⟩
     refine(ih x hmem p' c' w18 (hIx.ext h18 _ _ _) (hW.sub x hmem)).mono fun v w19 ⟨e19,hv⟩=>⟨e19,_,hv,fun hne w21 h21=>⟨h21,?_⟩,fun he=>⟨i64 (by omega),⟨rfl,by omega,by omega,fun j y hj hy=>?_⟩,by simp only[];omega⟩⟩
     ·rw[ztv hx (fun j y hj hy=>hall j y (by omega) hy) hne]
     ·by_cases hjk:(j:Int)<k2
      ·exact hall j y hjk hy
      ·obtain rfl:j=k2.toNat:=by omega
       rw[hx] at hy;obtain rfl:=Option.some.inj hy
       exact he
    ·rw[zqx.2 fun x hx=>?_]
     obtain⟨j,hj,rfl⟩:=List.getElem_of_mem hx
     exact hall j _ (by omega) (List.getElem?_eq_getElem hj)
theorem zp7(t:AT)(p:Option Addr)(c:Nat)(w:World)(hT:IsT w t p c)(hW:WfA t):FnP Tryz.prog zeE #[av t p c] w fun v w'=>Ext w w'/\v=.int .i64 (znu t):=by
 refine zxb t.k t.key t.val t.n p t.xs.length c w _ fun b0 _ w1 h1=>?_
 refine(zL9 t p c w1 (hT.ext h1 _ _ _) hW).mono fun v w2 ⟨e2,hv⟩=>⟨e2,_,hv,fun hgt w4 h4=>⟨h4,?_⟩,fun hle w4 h4=>?_⟩
 ·unfold znu;rw[if_pos hgt]
 ·refine(zL5 t p c w4 (hT.ext h4 _ _ _) hW).mono fun v w5 ⟨e5,hv⟩=>⟨e5,_,hv,fun w7 h7=>⟨h7,?_⟩⟩
  unfold znu;rw[if_neg (by omega)]
theorem zNU{w0:World}{f:Value}{at_:AT->Bool}(hf:∀(y:AT)(p:Option Addr)(c:Nat)(w:World),Ext w0 w->IsT w y p c->zfw y=0->y.k<4->zgP Tryz.prog f [av y p c] w fun v w'=>Ext w w'/\v=.bool (at_ y)) :
  ∀(t:AT)(p:Option Addr)(c:Nat)(w:World),Ext w0 w->IsT w t p c->zfw t=0->FnP Tryz.prog zcx #[av t p c,f] w fun v w'=>Ext w w'/\v=.bool (zyD at_ t):=by
 intro t
 induction t using AT.ind with
 |h k key val n xs ih =>
  intro p c w hx0 hT he
  obtain⟨h1,hsub⟩:=zhP he
  have hlen:xs.length=zgw k:=zuq h1
  have hin:¬(k<1\/6<k):=fun hb=>by
   have h1:zma k key val n xs.length=0:=h1
   unfold zma at h1;rw[if_pos hb] at h1;omega
  have V:zyD at_ (.mk k key val n xs)=if k=4 then !(xs.map (zyD at_)).getD 0 false else if k=5 then (xs.map (zyD at_)).getD 0 false&&(xs.map (zyD at_)).getD 1 false else if k=6 then (xs.map (zyD at_)).getD 0 false||(xs.map (zyD at_)).getD 1 false else at_ (.mk k key val n xs):=by
   rw[zyD,zKh]
  rw[V]
  have sub:∀(i:Int),0<=i->i<xs.length->∃x p' c',(xs.map (zyD at_)).getD i.toNat false=zyD at_ x/\p≠none/\pIdx p i 5≠none/\Go.Sx.cell w (pIdx p i 5) 0=some (.int .i64 x.k)/\Go.Sx.cell w (pIdx p i 5) 1=some (.string x.key)/\Go.Sx.cell w (pIdx p i 5) 2=some (.string x.val) /\
    Go.Sx.cell w (pIdx p i 5) 3=some (.int .i64 x.n)/\Go.Sx.cell w (pIdx p i 5) 4=some (.slice p' x.xs.length c')/\∀w',Ext w w'->FnP Tryz.prog zcx #[av x p' c',f] w' fun v w''=>Ext w' w''/\v=.bool (zyD at_ x):=fun i h0 hi=>by
   obtain⟨x,p',c',hx,hmem,hIx,hp,hp5,g0,g1,g2,g3,g4⟩:=hT.at h0 (by exact hi)
   have hx:xs[i.toNat]?=some x:=hx
   refine⟨x,p',c',?_,hp,hp5,g0,g1,g2,g3,g4,fun w' hw'=>ih x hmem p' c' w' (hx0.trans hw') (hIx.ext hw' _ _ _) (hsub x hmem)⟩
   rw[List.getD_eq_getElem?_getD,List.getElem?_map,hx];rfl
  refine zxg k key val n p xs.length c f w _ fun b0 _=>⟨fun h4=>?_,fun h4=>⟨fun h5=>?_,fun h5=>⟨fun h6=>?_,fun h6 w1 hw1=>?_⟩⟩⟩
  ·have hl:xs.length=1:=by rw[hlen];unfold zgw;rw[if_neg (by omega),if_pos h4]
   obtain⟨x,p',c',hv,hp,hp5,g0,g1,g2,g3,g4,hF⟩:=sub 0 (by omega) (by omega)
   refine⟨hp,by omega,by omega,hp5,_,g0,_,g1,_,g2,_,g3,_,_,_,g4,fun w8 h8=>(hF w8 h8).mono fun v w9 ⟨e9,hv'⟩=>⟨e9,_,hv',fun w11 h11=>⟨h11,?_⟩⟩⟩
   rw[if_pos h4,show(0:Nat)=(0:Int).toNat from rfl,hv]
  ·have hl:xs.length=2:=by rw[hlen];unfold zgw;rw[if_pos (.inl h5)]
   obtain⟨x,p',c',hv,hp,hp5,g0,g1,g2,g3,g4,hF⟩:=sub 0 (by omega) (by omega)
   obtain⟨y,q',d',hv2,hq,hq5,f0,f1,f2,f3,f4,hG⟩:=sub 1 (by omega) (by omega)
   rw[if_neg h4,if_pos h5,show(0:Nat)=(0:Int).toNat from rfl,hv,show(1:Nat)=(1:Int).toNat from rfl,hv2]
   refine⟨hp,by omega,by omega,hp5,_,g0,_,g1,_,g2,_,g3,_,_,_,g4,fun w8 h8=>(hF w8 h8).mono fun v w9 ⟨e9,hv'⟩=>⟨e9,_,hv',fun _=>hp,fun _=>by omega,fun _=>by omega,fun ht=>⟨hq5,_,f0,_,f1,_,f2,_,f3,_,_,_,f4,fun w18 h18=>(hG w18 h18).mono fun v w19 ⟨e19,hv''⟩=>⟨e19,_,hv'',fun w21 h21=>⟨h21,by rw[ht];rfl⟩⟩⟩,fun hf' w11 h11=>⟨h11,by rw[hf'];rfl⟩⟩⟩
  ·have hl:xs.length=2:=by rw[hlen];unfold zgw;rw[if_pos (.inr h6)]
   obtain⟨x,p',c',hv,hp,hp5,g0,g1,g2,g3,g4,hF⟩:=sub 0 (by omega) (by omega)
   obtain⟨y,q',d',hv2,hq,hq5,f0,f1,f2,f3,f4,hG⟩:=sub 1 (by omega) (by omega)
   rw[if_neg h4,if_neg h5,if_pos h6,show(0:Nat)=(0:Int).toNat from rfl,hv,show(1:Nat)=(1:Int).toNat from rfl,hv2]
   refine⟨hp,by omega,by omega,hp5,_,g0,_,g1,_,g2,_,g3,_,_,_,g4,fun w8 h8=>(hF w8 h8).mono fun v w9 ⟨e9,hv'⟩=>⟨e9,_,hv',fun _=>hp,fun _=>by omega,fun _=>by omega,fun ht w11 h11=>⟨h11,by rw[ht];rfl⟩,fun hf'=>⟨hq5,_,f0,_,f1,_,f2,_,f3,_,_,_,f4,fun w18 h18=>(hG w18 h18).mono fun v w19 ⟨e19,hv''⟩=>⟨e19,_,hv'',fun w21 h21=>⟨h21,by rw[hf'];rfl⟩⟩⟩⟩⟩
  ·rw[if_neg h4,if_neg h5,if_neg h6]
   obtain⟨g,cap,hv,hF⟩:=hf (.mk k key val n xs) p c w1 (hx0.trans hw1) (hT.ext hw1 _ _ _) he (by show k<4;omega)
   exact⟨g,cap,hv,hF.mono fun v w2 ⟨e2,hv'⟩=>⟨e2,_,hv',fun w4 hw4=>⟨hw4,rfl⟩⟩⟩
structure Lb where
 key:ByteArray
 val:ByteArray
deriving Inhabited
abbrev zqu(x:Lb):List Value:=[.string x.key,.string x.val]
abbrev Lbs(w:World)(p:Option Addr)(L:List Lb):Prop:=zhC 2 zqu w p L
structure Ht where
 name:ByteArray
 labels:List Lb
 has:Nd
 used:Nd
deriving Inhabited
abbrev zHB(h:Ht)(p:Option Addr)(c:Nat):List Value:=[.string h.name,.slice p h.labels.length c,.int .i64 h.has.c,.int .i64 h.has.m,.int .i64 h.has.g,.int .i64 h.used.c,.int .i64 h.used.m,.int .i64 h.used.g]
abbrev hv(h:Ht)(p:Option Addr)(c:Nat):Value:=.agg #[.string h.name,.slice p h.labels.length c,.int .i64 h.has.c,.int .i64 h.has.m,.int .i64 h.has.g,.int .i64 h.used.c,.int .i64 h.used.m,.int .i64 h.used.g]
def amt(x:Nd)(key:ByteArray):Int:=if key=zDN then x.c else if key=memS then x.m else x.g
def atH(h:Ht)(y:AT):Bool:=if y.k=3 then decide (y.n<=amt h.has y.key) else h.labels.any fun l=>decide (l.key=y.key)&&(decide (y.k=1)||decide (l.val=y.val))
theorem zH5(x:Nd)(key:ByteArray)(w:World):FnP Tryz.prog zjD #[nv x,.string key] w fun v w'=>Ext w w'/\v=.int .i64 (amt x key) :=
 zuU x.c x.m x.g key w _ fun b0 _=>⟨fun h w1 h1=>⟨h1,by unfold amt;rw[if_pos (show key=zDN from h)]⟩,fun h=>⟨fun h2 w1 h1=>⟨h1,by unfold amt;rw[if_neg (show ¬key=zDN from h),if_pos (show key=memS from h2)]⟩,fun h2 w1 h1=>⟨h1,by unfold amt;rw[if_neg (show ¬key=zDN from h),if_neg (show ¬key=memS from h2)]⟩⟩⟩
theorem zLV(p:Option Addr)(c:Nat)(L:List Lb)(h63:L.length<=9223372036854775807)(f:Value)(Pr:Lb->Bool)(w:World)(hL:Lbs w p L)(hf:∀e∈L,∀w',Ext w w'->zgP Tryz.prog f [.agg #[.string e.key,.string e.val]] w' fun v w''=>Ext w' w''/\v=.bool (Pr e)) :
  FnP Tryz.prog zaJ #[.slice p L.length c,f] w fun v w'=>Ext w w'/\v=.bool (L.any Pr):=by
 refine zcI p L.length c f w _ fun w0 h0=>?_
 refine FnP.mono (K:=fun v w'=>Ext w0 w'/\∃t:Int,v=.int .i64 t/\(0<=t↔L.any Pr=true)) ?_ fun v w1 ⟨e1,t,hv,ht⟩=>⟨e1,t,hv,fun w3 h3=>⟨h3,by congr 1;rw[Bool.eq_iff_iff,decide_eq_true_iff];exact ht⟩⟩
 refine zda p L.length c f w0 _ ⟨fun k w'=>w'=w0/\0<=k/\k<=L.length/\∀j:Nat,(j:Int)<k->Pr (L.getD j default)=false,fun k _=>(L.length-k).toNat,⟨rfl,by omega,by omega,fun j hj=>by omega⟩,?_⟩
 rintro k w2 ⟨rfl,hk0,hk1,hno⟩
 refine⟨fun hlt=>?_,fun hge w3 h3=>⟨h3,-1,rfl,?_⟩⟩
 ·have g0:=(hL.ext h0).idx default hk0 hlt (j:=0) rfl
  have g1:=(hL.ext h0).idx default hk0 hlt (j:=1) rfl
  have hm:=zat L default (i:=k.toNat) (by omega)
  refine⟨fun hq=>zal g0 (zah.2 hq),hk0,hlt,zal g0,_,g0,_,g1,fun w5 h5=>?_⟩
  obtain⟨fn,cap,hv,hF⟩:=hf _ hm w5 (h0.trans h5)
  refine⟨fn,cap,hv,hF.mono fun v w6 ⟨e6,hv⟩=>⟨e6,_,hv,fun hy w8 h8=>⟨h8,k,rfl,?_⟩,fun hn=>⟨i64 (by omega),⟨rfl,by omega,by omega,fun j hj=>?_⟩,by simp only[];omega⟩⟩⟩
  ·exact⟨fun _=>List.any_eq_true.2 ⟨_,hm,hy⟩,fun _=>hk0⟩
  ·by_cases hjk:(j:Int)<k
   ·exact hno j hjk
   ·obtain rfl:j=k.toNat:=by omega
    exact hn
 ·refine⟨fun h=>by omega,fun h=>?_⟩
  obtain⟨e,he,hpe⟩:=List.any_eq_true.1 h
  obtain⟨i,hi,rfl⟩:=List.getElem_of_mem he
  have:=hno i (by omega)
  simp only[List.getD_eq_getElem?_getD,List.getElem?_eq_getElem hi,Option.getD_some] at this
  rw[this] at hpe;cases hpe
theorem zLs(t:AT)(p:Option Addr)(c:Nat)(h:Ht)(q:Option Addr)(d:Nat)(hl:h.labels.length<=9223372036854775807)(w:World)(hT:IsT w t p c)(hW:WfA t)(hL:Lbs w q h.labels) :
  FnP Tryz.prog zlk #[av t p c,hv h q d] w fun v w'=>Ext w w'/\v=.tuple #[.bool (if znu t=0 then zyD (atH h) t else false),.int .i64 (znu t)]:=by
 refine zxc t.k t.key t.val t.n p t.xs.length c h.name q h.labels.length d h.has.c h.has.m h.has.g h.used.c h.used.m h.used.g w _ fun b0 hb0 w1 x1=>?_
 have h1:=zaa x1
 refine zbc (t:=ze7) (by intro v hv;simp at hv;rcases hv with rfl|rfl|rfl|rfl|rfl|rfl|rfl|rfl<;>rfl) fun w2 o2 e2=>fun w3 h3=>?_
 have c2:=(o2 0 (Nat.zero_le _)).cells
 have x2:=h1.trans e2
 refine(zp7 t p c w3 (hT.ext (x2.trans h3) _ _ _) hW).mono fun v w4 ⟨e4,hv⟩=>⟨e4,_,hv,fun hne w6 h6=>⟨x2.trans h6,by rw[if_neg hne]⟩,fun he w6 h6=>?_⟩
 have heA:zfw t=0:=by
  unfold znu at he
  split at he
  ·omega
  ·exact he
 refine(zNU (w0:=w2) (at_:=atH h) (fun y py cy wy hwy hTy hey hky=>⟨zib,#[.pointer (some ⟨w1.heap.size,0,none⟩)],rfl,?_⟩) t p c w6 h6 (hT.ext (x2.trans h6) _ _ _) heA).mono fun v w7 ⟨e7,hv⟩=>⟨e7,_,hv,fun w9 h9=>⟨x2.trans h9,by rw[if_pos he,he]⟩⟩
 have cy':=c2.ext hwy
 have hLy:=hL.ext (x2.trans hwy)
 refine(zso y.k y.key y.val y.n py y.xs.length cy (some ⟨w1.heap.size,0,none⟩) wy _ fun w0' h0'=>?_:FnP Tryz.prog zib #[av y py cy,.pointer (some ⟨w1.heap.size,0,none⟩)] wy _)
 refine zbc (t:=zd8) (by intro v hv;simp at hv;rcases hv with rfl|rfl|rfl|rfl|rfl<;>rfl) fun wa oa ea=>?_
 have ca:=(oa 0 (Nat.zero_le _)).cells
 have hxa:=h0'.trans ea
 have cy2:=cy'.ext hxa
 have A:∀(i:Nat) u,(zpE y py cy)[i]?=some u->Go.Sx.cell wa (pAdd (some ⟨w0'.heap.size,0,none⟩) i) 0=some u:=fun i u hu=>by rw[zaq];exact ca i u hu
 refine⟨by simp,_,A 0 _ rfl,fun h3'=>⟨by simp,by simp[pAdd],_,by rw[zaq];exact cy2 2 _ rfl,_,by rw[zaq];exact cy2 3 _ rfl,_,by rw[zaq];exact cy2 4 _ rfl,by simp,_,A 1 _ rfl,by simp,_,A 3 _ rfl,fun w8 h8=>?_⟩,fun h3'=>⟨by simp,_,_,_,by rw[zaq];exact cy2 1 _ rfl,fun w6' h6'=>?_⟩⟩
 ·refine(zH5 h.has y.key w8).mono fun v w9 ⟨e9,hv⟩=>⟨e9,_,hv,fun w11 h11=>⟨hxa.trans h11,?_⟩⟩
  unfold atH;rw[if_pos h3']
 ·refine(zLV q d h.labels hl _ (fun l=>decide (l.key=y.key)&&(decide (y.k=1)||decide (l.val=y.val))) w6' (hLy.ext (hxa.trans h6')) fun e he w' hw'=>⟨zf0,#[.pointer (some ⟨w0'.heap.size,0,none⟩)],rfl,?_⟩).mono fun v w7 ⟨e7,hv⟩=>⟨e7,_,hv,fun w9 h9=>⟨hxa.trans h9,?_⟩⟩
  ·have B:∀(i:Nat) u,(zpE y py cy)[i]?=some u->Go.Sx.cell w' (pAdd (some ⟨w0'.heap.size,0,none⟩) i) 0=some u:=fun i u hu=>zar (h6'.trans hw') (A i u hu)
   show FnP Tryz.prog zf0 #[.agg #[.string e.key,.string e.val],.pointer (some ⟨w0'.heap.size,0,none⟩)] w' _
   refine zpg e.key e.val (some ⟨w0'.heap.size,0,none⟩) w' _ fun b0 _=>⟨by simp,_,B 1 _ rfl,fun _=>by simp,fun hk=>⟨_,B 0 _ rfl,fun _=>by simp,fun h1' w3' h3''=>⟨h3'',?_⟩,fun h1'=>⟨_,B 2 _ rfl,fun w4' h4'=>⟨h4',?_⟩⟩⟩,fun hk w2' h2'=>⟨h2',?_⟩⟩
   ·simp[hk,h1']
   ·simp[hk,h1']
   ·simp[hk]
  ·unfold atH;rw[if_neg h3']
abbrev opA(k:Int)(l:List AT):AT:=.mk k emS emS 0 l
theorem zK6{k:Int}(hk:0<=k/\k<=100){l:List AT}(hl:l.length<=100)(h:∀x∈l,WfA x):WfA (opA k l):=by
 unfold WfA
 exact⟨i64 (by omega),by decide,by decide,i64 (by omega),by omega,WfL.of h⟩
theorem zzq{w:World}{q:Option Addr}:∀{l:List (AT×Option Addr×Nat)} {i:Nat},(∀(j:Nat) u,(l.flatMap fun x=>zpE x.1 x.2.1 x.2.2)[j]?=some u->Go.Sx.cell w q (i*5+j)=some u)->(∀x∈l,IsT w x.1 x.2.1 x.2.2)->IsL w (l.map (·.1)) q i
 |[],i,_,_ => by unfold IsL;trivial
 |x::r,i,h,hT => by
  unfold IsL
  refine⟨⟨x.2.1,x.2.2,fun j u hu=>h j u ?_,hT x (List.mem_cons_self ..)⟩,zzq (fun j u hu=>?_) fun y hy=>hT y (List.mem_cons_of_mem _ hy)⟩
  ·rw[List.flatMap_cons,List.getElem?_append_left]
   ·exact hu
   ·exact(List.getElem?_eq_some_iff.1 hu).1
  ·have:=h (5+j) u (by
    rw[List.flatMap_cons,List.getElem?_append_right (by simp[zpE])]
    simpa[zpE] using hu)
   rw[show(i+1)*5+j=i*5+(5+j) by omega]
   exact this
theorem zy5{b:Nat}{w0 w w':World}(h:zag [b] [] w w')(he:Ext w0 w)(hb:w0.heap.size<=b):Ext w0 w':=zax h he (by intro d hd;simp at hd;omega)
abbrev zkn:AT:=.mk 0 emS emS 0 []
theorem zqh{k:Int}{key val:ByteArray}{n:Int}{xs:List AT}(h:zfw (.mk k key val n xs)=0) :
  (k=4/\∃x,xs=[x]/\zfw x=0)\/((k=5\/k=6)/\∃x y,xs=[x,y]/\zfw x=0/\zfw y=0)\/(1<=k/\k<4/\xs=[]):=by
 obtain⟨h1,hsub⟩:=zhP h
 have h1:zma k key val n xs.length=0:=h1
 have hsub:∀x∈xs,zfw x=0:=hsub
 have hlen:=zuq h1
 have hin:¬(k<1\/6<k):=fun hb=>by
  unfold zma at h1;rw[if_pos hb] at h1;omega
 unfold zgw at hlen
 by_cases h4:k=4
 ·rw[if_neg (by omega),if_pos h4] at hlen
  match xs,hlen with
  |[x],_ => exact .inl ⟨h4,x,rfl,hsub x (by simp)⟩
 ·by_cases h5:k=5\/k=6
  ·rw[if_pos h5] at hlen
   match xs,hlen with
   |[x,y],_ => exact .inr (.inl ⟨h5,x,y,rfl,hsub x (by simp),hsub y (by simp)⟩)
  ·rw[if_neg h5,if_neg h4] at hlen
   exact .inr (.inr ⟨by omega,by omega,List.length_eq_zero_iff.1 hlen⟩)
structure GP(w:World):Prop where
 pow : Lib.TabIs Tryz.prog w "internal/strconv.uint64pow10" .u64 Lib.pow10Tab
theorem GP.ext{w w':World}(g:GP w)(e:Ext w w'):GP w':=⟨zAe g.pow e⟩
theorem zDV(n:Int)(h:-9223372036854775808<=n/\n<=9223372036854775807)(w:World)(g:GP w):FnP Tryz.prog za1 #[.int .i64 n,.int .i64 10] w fun v w'=>Ext w w'/\v=.string (ofL (Lib.itoa n)) :=
 ⟨fun args w=>Tryz.call90 args w,(Tryz.strconv_FormatInt_10 n h.1 h.2 w g.pow).mono fun e w' ⟨he,k,os,hw⟩=>⟨_,he,by rw[hw];exact zkw,rfl⟩⟩
mutual
def nod:AT->Nat
 |.mk _ _ _ _ xs => 1+zn0 xs
def zn0:List AT->Nat
 |[] => 0
 |x::r => nod x+zn0 r
end
mutual
def txt:AT->List UInt8
 |.mk k key val n xs => if k=1 then 63::key.data.toList else if k=2 then key.data.toList++61::val.data.toList else if k=3 then key.data.toList++62::61::Lib.itoa n
  else if k=4 then 33::(zOk xs).headD [] else 40::((zOk xs).getD 0 []++(if k=5 then 38 else 124)::((zOk xs).getD 1 []++[41]))
def zOk:List AT->List (List UInt8)
 |[] => []
 |x::r => txt x::zOk r
end
theorem txt1(key val:ByteArray)(n:Int)(xs:List AT):txt (.mk 1 key val n xs)=63::key.data.toList:=by rw[txt,if_pos rfl]
theorem txt2(key val:ByteArray)(n:Int)(xs:List AT):txt (.mk 2 key val n xs)=key.data.toList++61::val.data.toList:=by rw[txt,if_neg (by omega),if_pos rfl]
theorem txt3(key val:ByteArray)(n:Int)(xs:List AT):txt (.mk 3 key val n xs)=key.data.toList++62::61::Lib.itoa n:=by rw[txt,if_neg (by omega),if_neg (by omega),if_pos rfl]
theorem txt4(key val:ByteArray)(n:Int)(x:AT):txt (.mk 4 key val n [x])=33::txt x:=by rw[txt,if_neg (by omega),if_neg (by omega),if_neg (by omega),if_pos rfl];simp[zOk]
theorem zNP{k:Int}(hk:k=5\/k=6)(key val:ByteArray)(n:Int)(x y:AT):txt (.mk k key val n [x,y])=40::(txt x++(if k=5 then 38 else 124)::(txt y++[41])):=by
 rw[txt,if_neg (by omega),if_neg (by omega),if_neg (by omega),if_neg (by omega)];simp[zOk]
theorem zdm{s:ByteArray}(h:lbB s=true):0<s.size/\s.size<=20:=by
 unfold lbB at h
 simp only[Bool.and_eq_true,decide_eq_true_eq] at h
 exact h.1.1.1
theorem zvv{s:ByteArray}(h:unB s=true):s.size=3:=by
 unfold unB at h
 simp only[Bool.or_eq_true,decide_eq_true_eq] at h
 rcases h with (h|h)|h<;>(rw[h];rfl)
theorem zyQ{k:Int}{key val:ByteArray}{n:Int}{xs:List AT}(h:zfw (.mk k key val n xs)=0)(hk:k<4) :
  (k=1/\lbB key=true/\val=emS/\n=0)\/(k=2/\lbB key=true/\lbB val=true/\n=0)\/(k=3/\unB key=true/\val=emS/\0<=n/\n<=1099511627776):=by
 obtain⟨h1,_⟩:=zhP h
 have h1:zma k key val n xs.length=0:=h1
 unfold zma at h1
 split at h1
 ·omega
 rename_i a1
 split at h1
 ·omega
 split at h1
 ·omega
 rename_i a3
 split at h1
 ·omega
 rename_i a4
 split at h1
 ·omega
 rename_i a5
 have hk3:k=1\/k=2\/k=3:=by omega
 rcases hk3 with rfl|rfl|rfl
 ·refine .inl ⟨rfl,?_,?_,?_⟩
  ·cases hb:lbB key with
   |true => rfl
   |false => exact absurd (.inr (.inl ⟨.inl rfl,hb⟩)) a4
  ·exact Classical.byContradiction fun hv=>a3 (.inr (.inl ⟨by omega,hv⟩))
  ·exact Classical.byContradiction fun hv=>a3 (.inr (.inr ⟨by omega,hv⟩))
 ·refine .inr (.inl ⟨rfl,?_,?_,?_⟩)
  ·cases hb:lbB key with
   |true => rfl
   |false => exact absurd (.inr (.inl ⟨.inr rfl,hb⟩)) a4
  ·cases hb:lbB val with
   |true => rfl
   |false => exact absurd (.inr (.inr ⟨rfl,hb⟩)) a4
  ·exact Classical.byContradiction fun hv=>a3 (.inr (.inr ⟨by omega,hv⟩))
 ·refine .inr (.inr ⟨rfl,?_,?_,by omega,by omega⟩)
  ·cases hb:unB key with
   |true => rfl
   |false => exact absurd (.inl ⟨rfl,hb⟩) a4
  ·exact Classical.byContradiction fun hv=>a3 (.inr (.inl ⟨by omega,hv⟩))
theorem zqj(s:ByteArray):s.data.toList.length=s.size:=by simp
theorem zvu:∀t:AT,zfw t=0->(txt t).length<=50*nod t:=by
 intro t
 induction t using AT.ind with
 |h k key val n xs ih =>
  intro h
  rcases zqh h with⟨rfl,x,rfl,hx⟩|⟨hk,x,y,rfl,hx,hy⟩|⟨hk1,hk4,rfl⟩
  ·have:=ih x (by simp) hx
   rw[txt4]
   simp only[nod,zn0,List.length_cons];omega
  ·have h1:=ih x (by simp) hx
   have h2:=ih y (by simp) hy
   rw[zNP hk]
   simp only[nod,zn0,List.length_cons,List.length_append,List.length_nil];omega
  ·rcases zyQ h hk4 with⟨rfl,a,b,c⟩|⟨rfl,a,b,c⟩|⟨rfl,a,b,c,d⟩
   ·have:=zdm a
    rw[txt1];simp only[nod,zn0,List.length_cons,zqj];omega
   ·have h1:=zdm a
    have h2:=zdm b
    rw[txt2];simp only[nod,zn0,List.length_cons,List.length_append,zqj];omega
   ·have h1:=zvv a
    have h2:=Lib.itoa_length_le n (by omega) (by omega)
    rw[txt3];simp only[nod,zn0,List.length_cons,List.length_append,zqj];omega
theorem text_k:∀(t:AT)(p:Option Addr)(c:Nat)(w:World),IsT w t p c->zfw t=0->nod t<=1099511627776->GP w->FnP Tryz.prog zdR #[av t p c] w fun v w'=>Ext w w'/\v=.string (ofL (txt t)):=by
 intro t
 induction t using AT.ind with
 |h k key val n xs ih =>
  intro p c w hT h hN g
  refine zzC k key val n p xs.length c w _ fun b0 _=>?_
  rcases zqh h with⟨rfl,x,rfl,hx⟩|⟨hk,x,y,rfl,hx,hy⟩|⟨hk1,hk4,rfl⟩
  ·obtain⟨x',p',c',e1,_,hT',np,np5,g0,g1,g2,g3,g4⟩:=hT.at (k:=0) (by omega) (by show(0:Int)<((1:Nat):Int);omega)
   have:x'=x:=by have h':[x][0]?=some x':=e1;simpa using h'.symm
   subst this
   have hn:nod x'<=1099511627776:=by simp only[nod,zn0] at hN;omega
   have hl:=zvu x' hx
   refine⟨fun h=>by omega,fun _=>⟨fun h=>by omega,fun _=>⟨fun h=>by omega,fun _=>⟨fun _=>⟨np,by omega,by simp,np5,_,g0,_,g1,_,g2,_,g3,_,_,_,g4,fun w8 h8=>(ih x' (by simp) p' c' w8 (hT'.ext h8) hx hn (g.ext h8)).mono fun v w9 ⟨e9,hv⟩=>⟨e9,_,hv,?_,fun w11 h11=>⟨h11,?_⟩⟩⟩,fun h=>absurd rfl h⟩⟩⟩⟩
   ·unfold zc2;rw[zai];show 1+_<=_;omega
   ·rw[txt4,<-za4 ((⟨#[33]⟩:ByteArray)++_),zhO];rfl
  ·obtain⟨x',p',c',e1,_,hT',np,np5,g0,g1,g2,g3,g4⟩:=hT.at (k:=0) (by omega) (by show(0:Int)<((2:Nat):Int);omega)
   have:x'=x:=by have h':[x,y][0]?=some x':=e1;simpa using h'.symm
   subst this
   obtain⟨y',p2,c2,e2,_,hT2,np2,np52,q0,q1,q2,q3,q4⟩:=hT.at (k:=1) (by omega) (by show(1:Int)<((2:Nat):Int);omega)
   have:y'=y:=by have h':[x',y][1]?=some y':=e2;simpa using h'.symm
   subst this
   have hn1:nod x'<=1099511627776:=by simp only[nod,zn0] at hN;omega
   have hn2:nod y'<=1099511627776:=by simp only[nod,zn0] at hN;omega
   have hl1:=zvu x' hx
   have hl2:=zvu y' hy
   have hcat:∀m:UInt8,(((((⟨#[40]⟩:ByteArray)++ofL (txt x'))++(⟨#[m]⟩:ByteArray))++ofL (txt y'))++(⟨#[41]⟩:ByteArray))=ofL (40::(txt x'++m::(txt y'++[41]))):=fun m=>by
    rw[<-za4 (((((⟨#[40]⟩:ByteArray)++ofL (txt x'))++(⟨#[m]⟩:ByteArray))++ofL (txt y'))++(⟨#[41]⟩:ByteArray)),zhO,zhO,zhO,zhO]
    simp[ofL]
   have s1:∀m:UInt8,(⟨#[m]⟩:ByteArray).size=1:=fun _=>rfl
   refine⟨fun h=>by omega,fun _=>⟨fun h=>by omega,fun _=>⟨fun h=>by omega,fun _=>⟨fun h=>by omega,fun _=>⟨fun h5=>?_,fun h5=>?_⟩⟩⟩⟩⟩
   all_goals refine⟨np,by omega,by simp,np5,_,g0,_,g1,_,g2,_,g3,_,_,_,g4,np,by omega,by simp,np52,_,q0,_,q1,_,q2,_,q3,_,_,_,q4,fun w15 h15=>(ih x' (by simp) p' c' w15 (hT'.ext h15) hx hn1 (g.ext h15)).mono fun v w16 ⟨e16,hv⟩=>⟨e16,_,hv,?_,?_,fun w18 h18=>(ih y' (by simp) p2 c2 w18 (hT2.ext h18) hy hn2 (g.ext h18)).mono fun v w19 ⟨e19,hv⟩=>⟨e19,_,hv,?_,?_,fun w21 h21=>⟨h21,?_⟩⟩⟩⟩
   all_goals first
    |(rw[hcat,zNP hk];simp[h5])
    |(unfold zc2;simp only[ByteArray.size_append,s1,zai];omega)
  ·rcases zyQ h hk4 with⟨rfl,a,b,c'⟩|⟨rfl,a,b,c'⟩|⟨rfl,a,b,c',d⟩
   ·have hs:=zdm a
    refine⟨fun _=>⟨?_,fun w1 h1=>⟨h1,?_⟩⟩,fun h=>absurd rfl h⟩
    ·unfold zc2;show 1+_<=_;omega
    ·rw[txt1,<-za4 ((⟨#[63]⟩:ByteArray)++_),zhO];rfl
   ·have hs:=zdm a
    have hs2:=zdm b
    refine⟨fun h=>by omega,fun _=>⟨fun _=>⟨?_,?_,fun w1 h1=>⟨h1,?_⟩⟩,fun h=>absurd rfl h⟩⟩
    ·unfold zc2;show _+1<=_;omega
    ·unfold zc2;rw[ByteArray.size_append];show _+1+_<=_;omega
    ·rw[txt2,<-za4 ((key++(⟨#[61]⟩:ByteArray))++val),zhO,zhO];simp
   ·have hs:=zvv a
    have hil:=Lib.itoa_length_le n (by omega) (by omega)
    refine⟨fun h=>by omega,fun _=>⟨fun h=>by omega,fun _=>⟨fun _=>⟨?_,fun w1 h1=>(zDV n (by omega) w1 (g.ext h1)).mono fun v w2 ⟨e2,hv⟩=>⟨e2,_,hv,?_,fun w4 h4=>⟨h4,?_⟩⟩⟩,fun h=>absurd rfl h⟩⟩⟩
    ·unfold zc2;show _+2<=_;omega
    ·unfold zc2;rw[ByteArray.size_append,zai];show _+2+_<=_;omega
    ·rw[txt3,<-za4 ((key++(⟨#[62,61]⟩:ByteArray))++_),zhO,zhO];simp[ofL]
end Go.Proofs.YtcceeahmcecbnaaGreatDoor
namespace Go.Proofs
open Go.Shelf Go.RowKit Go.Lib
variable {P:Program} {ρ:Ren}
theorem zv5(w:World)(n:Nat):Below w.heap.size w (w.drewN n):=⟨rfl,rfl,rfl,Nat.le_refl _,fun _ _=>rfl⟩
theorem zwD{l:List UInt8}{x:UInt8}(h:∀y∈l,y≠x):Lib.indexByte l x=-1:=by
 have hcon:=Lib.contains_iff_indexByte l x
 have:l.contains x=false:=by
  cases hc:l.contains x with
  |false => rfl
  |true => exact absurd rfl (h x (by simpa using hc))
 rw[this] at hcon
 have h2:=of_decide_eq_false hcon.symm
 have h3:=Lib.indexByte_ge l x
 omega
set_option maxHeartbeats 4000000 in
set_option maxRecDepth 1000000 in
theorem Any.IndexRune_err (L:Lays.n152 P ρ) (s:ByteArray) (w:World) (hascii:∀(j:Nat) b,s.data.toList[j]?=some b->b.toNat<128) :
  Calls P (ρ.f 152) #[.string s,.int .i32 65533] w fun e w'=>e=.returned (.int .i64 (-1))/\Below w.heap.size w w':=by
 have HA:Aside (∀(j:Nat) b,s.data.toList[j]?=some b->b.toNat<128):=hascii
 clear hascii
 have t3:=L.t3;have a3:=L.a3;have z3:=L.z3;have v3:=L.v3
 have t4:=L.t4;have a4:=L.a4;have z4:=L.z4;have v4:=L.v4
 have t5:=L.t5;have a5:=L.a5;have z5:=L.z5;have v5:=L.v5
 have t9:=L.t9;have a9:=L.a9;have z9:=L.z9;have v9:=L.v9
 have t21:=L.t21;have a21:=L.a21;have z21:=L.z21;have v21:=L.v21
 have e137:∀args w,(callFunc (ρ.f 137) args).run P w=.ok (.enter (ρ.f 137) args) w:=enters_of L.f137 (by kernel_rfl) rfl
 go_enter L.f152,Body.n152_ntmps ρ
 go_wp2
 go_loopg [5,6] s.size (fun g _ _ wx=>∃i:Nat,i+g=s.size/\wx=w.iter s i)
 case atStart=>exact⟨0,by omega,rfl⟩
 case round =>
  obtain⟨i,hig,rfl⟩:=hrel
  cases gk with
  |zero =>
   obtain rfl:i=s.size:=by omega
   have hnx:=run_next_end (P:=P) w s s.size
   go_wp2
   go_ret
   exact⟨rfl,(Below.refl w.heap.size w).alloc (Nat.le_refl _) _⟩
  |succ g =>
   have hi:i<s.size:=by omega
   obtain⟨x,hx⟩:∃x:UInt8,s[i]'hi=x:=⟨_,rfl⟩
   have hxl:s.data.toList[i]?=some x:=by rw[<-hx];exact Lib.data_getElem? s i hi
   have hx128:x.toNat<128:=HA.out i x hxl
   have hnx:=fun ty=>run_next_ascii (P:=P) w s i ty hi (by rw[hx];exact hx128)
   rw[hx] at hnx
   have hne:((x.toNat:Int)==65533)=false:=beq_eq_false_iff_ne.2 (by omega)
   clear hxl hx
   go_wp2
   go_roundg g
   case measure=>omega
   case rel=>exact⟨i+1,by omega,rfl⟩
set_option maxHeartbeats 8000000 in
set_option maxRecDepth 1000000 in
theorem Any.IndexRune_high (L:Lays.n152 P ρ) (s:ByteArray) (r:Int) (w:World) (hr:128<=r) (hne:r≠65533) (hascii:∀(j:Nat) b,s.data.toList[j]?=some b->b.toNat<128) :
  Calls P (ρ.f 152) #[.string s,.int .i32 r] w fun e w'=>e=.returned (.int .i64 (-1))/\Below w.heap.size w w':=by
 have HA:Aside (∀(j:Nat) b,s.data.toList[j]?=some b->b.toNat<128):=hascii
 clear hascii
 have t3:=L.t3;have a3:=L.a3;have z3:=L.z3;have v3:=L.v3
 have t4:=L.t4;have a4:=L.a4;have z4:=L.z4;have v4:=L.v4
 have t5:=L.t5;have a5:=L.a5;have z5:=L.z5;have v5:=L.v5
 have t9:=L.t9;have a9:=L.a9;have z9:=L.z9;have v9:=L.v9
 have t21:=L.t21;have a21:=L.a21;have z21:=L.z21;have v21:=L.v21
 have e137:∀args w,(callFunc (ρ.f 137) args).run P w=.ok (.enter (ρ.f 137) args) w:=enters_of L.f137 (by kernel_rfl) rfl
 have e119:∀args w,(callFunc (ρ.f 119) args).run P w=.ok (.enter (ρ.f 119) args) w:=enters_of L.f119 (by kernel_rfl) rfl
 have h1:decide (r<128)=false:=decide_eq_false (by omega)
 have h2:(r==65533)=false:=beq_eq_false_iff_ne.2 hne
 go_enter L.f152,Body.n152_ntmps ρ
 cases hv:Lib.validRune r with
 |false =>
  go_wp2_with (go_at_fn (ρ.f 119);refine(Any.utf8_ValidRune { L with } _ _).mono ?_;rintro e w' ⟨rfl,hw⟩;rw[hw,hv])
  go_ret
  exact⟨rfl,Below.refl _ _⟩
 |true =>
  go_wp2_with (go_at_fn (ρ.f 119);refine(Any.utf8_ValidRune { L with } _ _).mono ?_;rintro e w' ⟨rfl,hw⟩;rw[hw,hv])
  obtain⟨he2,he4,hlast⟩:=encode_facts r (by rw[validRune_eq];exact hv) hr
  generalize hgE:Utf8.encode r=E at he2 he4 hlast
  have HL:Aside (∀h:E.size-1<E.size,128<=(E[E.size-1]'h).toNat):=hlast
  clear hlast
  have hw1:wrap64 ((E.size:Int)-1)=(E.size:Int)-1:=by
   simp only[wrap64];omega
  go_step3
  go_wp2
  go_loopg [9] 1 (fun g s9 wx=>s9=.int .i64 ((E.size:Int)-1)/\wx=w)
  case atStart=>exact⟨rfl,rfl⟩
  case round =>
   obtain⟨rfl,rfl⟩:=hrel
   by_cases hlt:E.size-1<s.size
   ·have hd:decide ((E.size:Int)-1<(s.size:Int))=true:=decide_eq_true (by omega)
    have mixed:=L.mixed
    obtain⟨x,hx⟩:∃x:UInt8,s[E.size-1]'hlt=x:=⟨_,rfl⟩
    obtain⟨y,hy⟩:∃y:UInt8,E[E.size-1]'(by omega)=y:=⟨_,rfl⟩
    have hx128:x.toNat<128:=by rw[<-hx];exact HA.out (E.size-1) _ (Lib.data_getElem? s (E.size-1) hlt)
    have hy128:128<=y.toNat:=by rw[<-hy];exact HL.out _
    have hix:∀w,(Instr.index (ρ.t 9) (.string s) (.int .i64 ((E.size:Int)-1))).run P w=.ok (.int .u8 x.toNat) w:=fun w=>by
     rw[run_index_string (h:=t9),dif_pos ⟨by omega,by omega⟩]
     simp only[show((E.size:Int)-1).toNat=E.size-1 by omega,hx]
    have hiy:∀w,(Instr.index (ρ.t 9) (.string E) (.int .i64 ((E.size:Int)-1))).run P w=.ok (.int .u8 y.toNat) w:=fun w=>by
     rw[run_index_string (h:=t9),dif_pos ⟨by omega,by omega⟩]
     simp only[show((E.size:Int)-1).toNat=E.size-1 by omega,hy]
    have hne2:((x.toNat:Int)==(y.toNat:Int))=false:=beq_eq_false_iff_ne.2 (by omega)
    clear hx hy
    go_wp2
    go_step3
    go_wp2
    have hw2:IntKind.i64.wrap (E.size:Int)=(E.size:Int):=wrap_small _ (by omega) (by omega)
    have hsl:∀w,(Instr.slice (ρ.t 9) (.string s) (some (.int .i64 (E.size:Int))) none none).run P w=.ok (.string (s.extract E.size s.size)) w:=fun w=>by
     rw[run_slice_string_l (ht:=t9) (h0:=by omega) (h1:=by omega)];simp
    have hib:Lib.indexByte (s.extract E.size s.size).data.toList y=-1:=zwD fun z hz=>by
     have hz':=mem_extract hz
     obtain⟨j,hj⟩:=List.getElem?_of_mem hz'
     have:=HA.out j z hj
     intro e;subst e;omega
    have hIB:∀(w:World) n,Calls P (ρ.f 137) #[.string (s.extract E.size s.size),.int .u8 y.toNat] (w.drewN n) fun e w'=>e=.returned (.int .i64 (-1))/\w'=w.drewN n:=fun w n=>(Any.strings_IndexByte { L with } _ _ _).mono fun e w' ⟨he,hw⟩=>⟨by rw[he,show((y.toNat:Int)).toNat.toUInt8=y by simp,hib],hw⟩
    go_quiet_o (fail)
    go_wp2
    go_quiet_o (first|(go_at_fn (ρ.f 137);exact(hIB _ _).mono fun e w' ⟨h1,h2⟩=>⟨h1,_,h2⟩))
    go_wp2
    rw[Exit.noGoto_ret]
    simp only[Exit.inBlock,Exit.then]
    rw[Exit.noGoto_ret]
    go_ret
    exact⟨rfl,zv5 _ _⟩
   ·have hd:decide ((E.size:Int)-1<(s.size:Int))=false:=decide_eq_false (by omega)
    go_wp2
    rw[Exit.noGoto_ret]
    go_ret
    exact⟨rfl,Below.refl _ _⟩
theorem Any.IndexRune_any(L:Lays.n152 P ρ)(s:ByteArray)(r:Int)(w:World)(h0:0<=r)(hascii:∀(j:Nat) b,s.data.toList[j]?=some b->b.toNat<128) :
  Calls P (ρ.f 152) #[.string s,.int .i32 r] w fun e w'=>∃n:Int,e=.returned (.int .i64 n)/\Below w.heap.size w w':=by
 by_cases h1:r<128
 ·exact(Any.strings_IndexRune_ascii L s r w h0 h1).mono fun e w' ⟨he,hw⟩=>⟨_,he,hw▸Below.refl _ _⟩
 by_cases h2:r=65533
 ·subst h2
  exact(Any.IndexRune_err L s w hascii).mono fun e w' ⟨he,hw⟩=>⟨_,he,hw⟩
 ·exact(Any.IndexRune_high L s r w (by omega) h2 hascii).mono fun e w' ⟨he,hw⟩=>⟨_,he,hw⟩
theorem zCQ(s:ByteArray)(pos:Nat)(h:pos<s.size):1<=(Utf8.decode s pos).2:=by
 by_cases ha:(s[pos]'h).toNat<128
 ·rw[decode_ascii s pos h ha];exact Nat.le_refl 1
 ·exact(decode_high s pos h (by omega)).2
set_option maxHeartbeats 8000000 in
set_option maxRecDepth 1000000 in
theorem Any.IndexAny_short_any (L:Lays.n153 P ρ) (s chars:ByteArray) (w:World) (h2:2<=chars.size) (h8:s.size<=8) (hascii:∀(j:Nat) b,chars.data.toList[j]?=some b->b.toNat<128) :
  Calls P (ρ.f 153) #[.string s,.string chars] w fun e w'=>∃n:Int,e=.returned (.int .i64 n)/\n<s.size/\Below w.heap.size w w':=by
 have HA:Aside (∀(j:Nat) b,chars.data.toList[j]?=some b->b.toNat<128):=hascii
 clear hascii
 have hemp:chars.toList.isEmpty=false:=by
  rw[Lib.toList_data]
  cases h:chars.data.toList with
  |nil => have:=Lib.size_eq chars;rw[h,List.length_nil] at this;omega
  |cons _ _ => rfl
 have hn1:((chars.size:Int)==1)=false:=beq_eq_false_iff_ne.2 (by omega)
 have h8z:decide ((8:Int)<(s.size:Int))=false:=decide_eq_false (by omega)
 have t3:=L.t3;have a3:=L.a3;have z3:=L.z3;have v3:=L.v3
 have t4:=L.t4;have a4:=L.a4;have z4:=L.z4;have v4:=L.v4
 have t5:=L.t5;have a5:=L.a5;have z5:=L.z5;have v5:=L.v5
 have t9:=L.t9;have a9:=L.a9;have z9:=L.z9;have v9:=L.v9
 have t21:=L.t21;have a21:=L.a21;have z21:=L.z21;have v21:=L.v21
 have e152:∀args w,(callFunc (ρ.f 152) args).run P w=.ok (.enter (ρ.f 152) args) w:=enters_of L.f152 (by kernel_rfl) rfl
 have e226:∀args w,(callFunc (ρ.f 226) args).run P w=.ok (.enter (ρ.f 226) args) w:=enters_of L.f226 (by kernel_rfl) rfl
 go_enter L.f153,Body.n153_ntmps ρ
 go_wp2_with (go_at_fn (ρ.f 226);refine(Any.strings_shouldUseASCIISet { L with } _ _).mono ?_;rintro e w' ⟨rfl,hw⟩;rw[hw,h8z])
 go_loopg [9,10] s.size (fun g _ _ wx=>∃i:Nat,s.size-i<=g/\wx.heap[w.heap.size]?=some (.stringIter s i)/\Below w.heap.size w wx)
 case atStart=>exact⟨0,Nat.sub_le _ _,World.iter_heap _ _ _,(Below.refl _ w).alloc (Nat.le_refl _) _⟩
 case round =>
  obtain⟨i,hig,hk,hB⟩:=hrel
  have HB:Aside (Below w.heap.size w wr):=hB
  have HK:Aside (wr.heap[w.heap.size]?=some (.stringIter s i)):=hk
  clear hB
  cases gk with
  |zero =>
   have hnx:=fun ty=>run_next_end_at (P:=P) wr w.heap.size s i ty hk (by omega)
   clear hk
   go_wp2
   go_ret
   exact⟨_,rfl,by omega,HB.out⟩
  |succ g =>
   by_cases hi:i<s.size
   ·have hnx:=fun ty=>run_next_any_at (P:=P) wr w.heap.size s i ty hk hi
    have hd:=zCQ s i hi
    generalize hdd:Utf8.decode s i=d at hnx hd
    clear hdd hk
    go_wp2_with (go_at_fn (ρ.f 152);refine(Any.IndexRune_any { L with } _ _ _ (by omega) HA.out).mono ?_;rintro e w' ⟨n,rfl,hw⟩)
    ·go_ret
     exact⟨_,rfl,by omega,(below_iterAt HB.out (Nat.le_refl _) s _).trans (hw.mono (by rw[iterAt_size];exact HB.out.size))⟩
    ·go_roundg g
     case measure=>omega
     case rel =>
      refine⟨i+d.2,by omega,?_,(below_iterAt HB.out (Nat.le_refl _) s _).trans (hw.mono (by rw[iterAt_size];exact HB.out.size))⟩
      rw[hw.block _ (by rw[iterAt_size];exact(Array.getElem?_eq_some_iff.1 HK.out).1)]
      exact iterAt_heap wr w.heap.size s i _ HK.out
   ·have hnx:=fun ty=>run_next_end_at (P:=P) wr w.heap.size s i ty hk (by omega)
    clear hk
    go_wp2
    go_ret
    exact⟨_,rfl,by omega,HB.out⟩
theorem zqO(chars:List UInt8):∀l:List UInt8,Lib.indexAny l chars<l.length
 |[] => by show(-1:Int)<_;simp
 |b::l => by
  have ih:=zqO chars l
  unfold Lib.indexAny
  simp only[List.length_cons]
  split
  ·omega
  ·split
   ·omega
   ·omega
theorem Any.IndexAny_any(L:Lays.n153 P ρ)(h116:(P.info? (ρ.t 116)).map (fun i=>(i.zero,i.size))=some (some (.agg (Array.replicate 256 (.bool false))),256))(s chars:ByteArray)(w:World)(h2:2<=chars.size)(hs:s.size<4294967281)(hcs:chars.size<4294967281)(hac:∀(j:Nat) b,chars.data.toList[j]?=some b->b.toNat<128) :
  Calls P (ρ.f 153) #[.string s,.string chars] w fun e w'=>(∃n:Int,e=.returned (.int .i64 n)/\n<s.size/\((∀(j:Nat) b,s.data.toList[j]?=some b->b.toNat<128)->n=Lib.indexAny s.data.toList chars.data.toList))/\Below w.heap.size w w':=by
 have hlt:Lib.indexAny s.data.toList chars.data.toList<s.size:=by have:=zqO chars.data.toList s.data.toList;rw[<-Lib.size_eq] at this;exact this
 by_cases h8:s.size<=8
 ·by_cases has:∀(j:Nat) b,s.data.toList[j]?=some b->b.toNat<128
  ·exact(Any.strings_IndexAny_laid L h116 s chars w hs hcs has hac).mono fun e w' ⟨he,hb⟩=>⟨⟨_,he,hlt,fun _=>rfl⟩,hb⟩
  ·exact(Any.IndexAny_short_any L s chars w h2 h8 hac).mono fun e w' ⟨n,he,hn,hb⟩=>⟨⟨n,he,hn,fun h=>absurd h has⟩,hb⟩
 ·refine(Any.strings_IndexAny_long L (zero_of_info h116).1 (zero_of_info h116).2 s chars w h2 (by omega) hs hcs hac).mono fun e w' ⟨he,hw⟩=>⟨⟨_,he,hlt,fun _=>rfl⟩,?_⟩
  rw[hw]
  exact((Below.refl _ _).alloc (Nat.le_refl _) _).alloc (by simp) _
end Go.Proofs
namespace Go.Proofs.YtcceeahmcecbnaaGreatDoor
open Go.Sx Go.RowKit
def sgs:List UInt8:=[63,61,62,33,40,41,38,124]
def sep(l:List UInt8):Prop:=l=[]\/∃x r,l=x::r/\x∈sgs
theorem zfT{x:UInt8}{r:List UInt8}(h:x∈sgs):sep (x::r):=.inr ⟨x,r,rfl,h⟩
def asc(l:List UInt8):Prop:=∀b∈l,b.toNat<128
theorem asc_at{l:List UInt8}:asc l↔∀(j:Nat) b,l[j]?=some b->b.toNat<128 :=
 ⟨fun h j b hb=>h b (List.mem_of_getElem? hb),fun h b hb=>by obtain⟨j,hj⟩:=List.getElem?_of_mem hb;exact h j b hj⟩
theorem zKw{a b:List UInt8}(ha:∀x∈a,x∉sgs)(hb:sep b):(b=[]/\Lib.indexAny (a++b) sgs=-1)\/(b≠[]/\Lib.indexAny (a++b) sgs=a.length):=by
 have hno:∀j,j<=a.length->Lib.NoAny (a++b) sgs j:=fun j hj i x hi hx=>by
  rw[List.getElem?_append_left (by omega)] at hx
  have:=ha x (List.mem_of_getElem? hx)
  simpa using this
 rcases hb with rfl|⟨x,r,rfl,hx⟩
 ·exact .inl ⟨rfl,Lib.indexAny_none (by rw[List.append_nil] at hno ⊢;exact hno _ (Nat.le_refl _))⟩
 ·exact .inr ⟨by simp,Lib.indexAny_hit (x:=x) (hno _ (Nat.le_refl _)) (by simp) (by simpa using hx)⟩
theorem zCw(s:ByteArray)(hs:s.size<=2000)(w:World):FnP Tryz.prog zgM #[.string s,.string (⟨#[63,61,62,33,40,41,38,124]⟩:ByteArray)] w fun v w'=>Ext w w'/\∃n:Int,v=.int .i64 n/\n<s.size/\(asc s.data.toList->n=Lib.indexAny s.data.toList sgs) :=
 ⟨fun args w=>Tryz.call275 args w,(Any.IndexAny_any Tryz.lays153 (by kernel_rfl) s _ w (by decide) (by omega) (by decide) (by
  intro j b hb
  have:b∈sgs:=List.mem_of_getElem? hb
  have key:∀b∈sgs,b.toNat<128:=by decide
  exact key b this)).mono fun e w' ⟨⟨n,he,hn,hv⟩,hb⟩=>⟨_,he,hb,n,rfl,hn,fun h=>hv (asc_at.1 h)⟩⟩
abbrev RD(B:Nat)(w:World)(rb:Nat)(l:List UInt8)(left:Nat):Prop:=Own B w zvX 2 (some ⟨rb,0,none⟩) 1 1 [.string (ofL l),.int .i64 left]
abbrev rp(rb:Nat):Value:=.pointer (some ⟨rb,0,none⟩)
theorem RD.lt{B:Nat}{w:World}{rb:Nat}{l:List UInt8}{left:Nat}(o:RD B w rb l left):rb<w.heap.size:=Own.size_lt o
theorem RD.cells{B:Nat}{w:World}{rb:Nat}{l:List UInt8}{left:Nat}(o:RD B w rb l left):cell w (pAdd (some ⟨rb,0,none⟩) 0) 0=some (.string (ofL l))/\cell w (pAdd (some ⟨rb,0,none⟩) 1) 0=some (.int .i64 left):=by
 have h0:cell w (some ⟨rb,0,none⟩) 0=some (.string (ofL l)):=Own.cells o 0 _ rfl
 have h1:cell w (some ⟨rb,0,none⟩) 1=some (.int .i64 left):=Own.cells o 1 _ rfl
 exact⟨by rw[zaq];exact h0,by rw[zaq];exact h1⟩
theorem RD.fr{B:Nat}{w w':World}{rb:Nat}{l:List UInt8}{left:Nat}{S:Nat->Prop}(o:RD B w rb l left)(k:Fr S w w')(h:¬S rb):RD B w' rb l left:=Own.fr o k fun a ha=>by obtain rfl:=Option.some.inj ha;exact h
theorem RD.put{B:Nat}{w:World}{rb:Nat}{l m:List UInt8}{left:Nat}(o:RD B w rb l left){t:ByteArray}(ht:t=ofL m){K:World->Prop}(hk:∀w',RD B w' rb m left->Fr (·=rb) w w'->K w'):zak w (pAdd (some ⟨rb,0,none⟩) 0) [.string t] [] K :=
 zaU (off:=0) o rfl (by simp) (by simp) (by intro v hv;simp at hv;subst hv;rfl) (by simp) fun w' o' g=>hk w' (by subst ht;exact o') (zaT g fun a ha=>by obtain rfl:=Option.some.inj ha;rfl)
theorem RD.left{B:Nat}{w:World}{rb:Nat}{l:List UInt8}{left:Nat}{b0:Nat}(o:RD B w rb l left)(hb:b0≠rb){x:Int}{m:Nat}(hx:x=m){K:World->Prop}(hk:∀w',RD B w' rb l m->Fr (·=rb) w w'->K w'):zak w (pAdd (some ⟨rb,0,none⟩) 1) [.int .i64 x] [b0] K :=
 zaU (off:=1) o rfl (by simp) (by simp) (by intro v hv;simp at hv;subst hv;rfl) (by intro b hb' y hy hh;simp at hb';subst hb';obtain rfl:=Option.some.inj hy;exact hb hh.symm) fun w' o' g=>hk w' (by subst hx;exact o') (zaT g fun a ha=>by obtain rfl:=Option.some.inj ha;rfl)
theorem zlh{B:Nat}{w:World}{rb:Nat}{l:List UInt8}{left:Nat}(o:RD B w rb l left)(hl:l.length<=2000)(c:UInt8)(ci:Int)(hc:ci=c.toNat) :
  FnP Tryz.prog zaf #[rp rb,.int .u8 ci] w fun v w'=>Fr (·=rb) w w'/\((∃r,l=c::r/\v=.bool true/\RD B w' rb r left)\/((∀r,l≠c::r)/\v=.bool false/\RD B w' rb l left)):=by
 subst hc
 obtain⟨g0,_⟩:=o.cells
 cases l with
 |nil =>
  refine zg0 _ _ w _ ⟨by simp,by simp,_,g0,fun _=>by simp,fun _=>by simp,fun _ w1 h1=>⟨zac h1,.inr ⟨fun r=>by simp,rfl,Own.ext o h1⟩⟩,fun h=>absurd rfl h⟩
 |cons x r =>
  have hx:sAt (ofL (x::r)) 0=(x.toNat:Int):=rfl
  refine zg0 _ _ w _ ⟨by simp,by simp,_,g0,fun _=>by simp,fun _=>by simp,fun h=>absurd h (by intro h;have:=congrArg (fun s:ByteArray=>s.data.toList) h;simp[ofL] at this),fun _=>⟨_,g0,Int.le_refl _,by rw[zai];simp,fun hne w2 h2=>⟨zac h2,.inr ⟨fun r' he=>?_,rfl,Own.ext o h2⟩⟩,fun he=>⟨by simp,by simp,_,g0,by omega,by rw[zai];simp;omega,Int.le_refl _,by simp,by simp,?_⟩⟩⟩
  ·rw[hx] at hne
   simp at he
   rw[he.1] at hne
   exact hne rfl
  ·rw[hx] at he
   have hxc:x=c:=UInt8.toNat_inj.1 (by omega)
   subst hxc
   refine o.put (m:=r) ?_ fun w3 o3 f3 w4 h4=>⟨f3.tr (zac h4),.inl ⟨r,rfl,rfl,Own.ext o3 h4⟩⟩
   rw[<-za4 (ByteArray.extract _ _ _)]
   congr 1
   rw[zai]
   simp[ofL]
theorem zCs{B:Nat}{w:World}{rb:Nat}{l:List UInt8}{left:Nat}(o:RD B w rb l left)(hl:l.length<=2000) :
  FnP Tryz.prog zbL #[rp rb] w fun v w'=>Fr (·=rb) w w'/\∃a b,v=.string (ofL a)/\l=a++b/\RD B w' rb b left/\(∀a0 b0,l=a0++b0->asc l->(∀x∈a0,x∉sgs)->sep b0->a=a0/\b=b0):=by
 obtain⟨g0,_⟩:=o.cells
 refine zmT _ w _ ⟨by simp,by simp,_,g0,fun w1 h1=>(zCw (ofL l) (by rw[zai];omega) w1).mono fun v w2 ⟨e2,n,hv,hn,hval⟩=>⟨e2,n,hv,fun hneg=>⟨by simp,by simp,_,g0,by simp,by simp,_,g0,Int.le_refl _,by omega,Int.le_refl _,by simp,by simp,_,g0,by omega,Int.le_refl _,Int.le_refl _,by simp,by simp,?_⟩,fun hge=>⟨by simp,by simp,_,g0,Int.le_refl _,hge,by omega,by simp,by simp,_,g0,hge,by omega,Int.le_refl _,by simp,by simp,?_⟩⟩⟩
 ·refine o.put (m:=[]) ?_ fun w3 o3 f3 w4 h4=>⟨f3.tr (zac h4),l,[],?_,by simp,Own.ext o3 h4,fun a0 b0 he hasc ha hb=>?_⟩
  ·rw[<-za4 (ByteArray.extract _ _ _)]
   congr 1
   simp[ofL]
  ·rw[<-za4 (ByteArray.extract _ _ _)]
   congr 2
   simp[ofL]
  ·have hv':=hval hasc
   rw[za6,he] at hv'
   rcases zKw ha hb with⟨hb0,_⟩|⟨_,hq⟩
   ·subst hb0;exact⟨by rw[he,List.append_nil],rfl⟩
   ·omega
 ·have hnl:n.toNat<=l.length:=by rw[zai] at hn;omega
  refine o.put (m:=l.drop n.toNat) ?_ fun w3 o3 f3 w4 h4=>⟨f3.tr (zac h4),l.take n.toNat,l.drop n.toNat,?_,by simp,Own.ext o3 h4,fun a0 b0 he hasc ha hb=>?_⟩
  ·rw[<-za4 (ByteArray.extract _ _ _)]
   congr 1
   rw[zai]
   simp only[ByteArray.data_extract,Array.toList_extract,List.extract_eq_take_drop,ofL]
   exact List.take_of_length_le (by simp)
  ·rw[<-za4 (ByteArray.extract _ _ _)]
   congr 2
   simp[ofL]
  ·have hv':=hval hasc
   rw[za6,he] at hv'
   rcases zKw ha hb with⟨_,hq⟩|⟨_,hq⟩
   ·omega
   ·have:n.toNat=a0.length:=by omega
    rw[this,he]
    simp
theorem zhY{l:List UInt8}{n:Int}(h:Lib.parseIntB 64 l=.ok n):InR .i64 n:=by
 have e:(2:Nat)^(64-1)=9223372036854775808:=by decide
 unfold Lib.parseIntB at h
 split at h
 ·cases h
 ·simp only at h
  split at h
  ·cases h
  ·cases h
  ·rename_i u _
   split at h
   ·cases h
   ·rename_i h1
    split at h
    ·cases h
    ·rename_i h3
     injection h with h
     rw[e] at h1 h3
     split at h
     ·rename_i h2;exact i64 (by simp[h2] at h1 h3;omega)
     ·rename_i h2;exact i64 (by simp[h2] at h1 h3;omega)
theorem zqP{s:ByteArray}(h:lbB s=true):∀x∈s.data.toList,x∉sgs:=fun x hx hs=>by
 have key:∀x∈sgs,okC (x.toNat:Int)=false:=by decide
 unfold lbB at h
 simp only[Bool.and_eq_true] at h
 have:=List.all_eq_true.1 h.2 (x.toNat:Int) (List.mem_map.2 ⟨x,hx,rfl⟩)
 rw[key x hs] at this
 cases this
theorem zx5{s:ByteArray}(h:unB s=true):∀x∈s.data.toList,x∉sgs:=by
 unfold unB at h
 simp only[Bool.or_eq_true,decide_eq_true_eq] at h
 rcases h with (h|h)|h<;>(subst h;decide)
theorem zI6{n:Int}(h:0<=n):∀x∈Lib.itoa n,x∉sgs:=fun x hx hs=>by
 have key:∀x∈sgs,x.toNat<48\/57<x.toNat:=by decide
 rcases key x hs with hk|hk
 ·exact zjY h hk hx
 ·exact zBt h hk hx
theorem znT{k y r:List UInt8}{c:UInt8}(hne:k≠[])(hk:∀x∈k,x∉sgs)(hc:c∈sgs):k++y≠c::r:=by
 cases k with
 |nil => exact absurd rfl hne
 |cons a k =>
  intro h
  simp at h
  exact hk a (by simp) (h.1▸hc)
theorem zM4{s:ByteArray}(h:lbB s=true):s.data.toList≠[]:=fun h0=>by
 have:=(zdm h).1
 rw[<-zqj,h0] at this
 simp at this
theorem zNQ{s:ByteArray}(h:unB s=true):s.data.toList≠[]:=fun h0=>by
 have:=zvv h
 rw[<-zqj,h0] at this
 simp at this
theorem zE2{k:Int}{key val:ByteArray}{n:Int}{l:Nat}(h:zma k key val n l=0)(hk:4<=k):key=emS/\val=emS/\n=0:=by
 unfold zma at h
 split at h
 ·omega
 split at h
 ·omega
 split at h
 ·omega
 rename_i a
 refine⟨Classical.byContradiction fun h1=>a (.inl ⟨hk,h1⟩),Classical.byContradiction fun h1=>a (.inr (.inl ⟨by omega,h1⟩)),Classical.byContradiction fun h1=>a (.inr (.inr ⟨by omega,h1⟩))⟩
theorem nod1(k:Int)(key val:ByteArray)(n:Int):nod (.mk k key val n [])=1:=by simp[nod,zn0]
theorem zox{t:AT}(h:zfw t=0) :
  (∃key,t=.mk 1 key emS 0 []/\lbB key=true/\txt t=63::key.data.toList) \/
  (∃key val,t=.mk 2 key val 0 []/\lbB key=true/\lbB val=true/\txt t=key.data.toList++61::val.data.toList) \/
  (∃key n,t=.mk 3 key emS n []/\unB key=true/\0<=n/\n<=1099511627776/\txt t=key.data.toList++62::61::Lib.itoa n) \/
  (∃x,t=.mk 4 emS emS 0 [x]/\zfw x=0/\txt t=33::txt x/\nod t=1+nod x) \/
  (∃k x y,(k=5\/k=6)/\t=.mk k emS emS 0 [x,y]/\zfw x=0/\zfw y=0/\txt t=40::(txt x++(if k=5 then 38 else 124)::(txt y++[41]))/\nod t=1+nod x+nod y):=by
 cases t with
 |mk k key val n xs =>
 have h1:zma k key val n xs.length=0:=(zhP h).1
 rcases zqh h with⟨rfl,x,rfl,hx⟩|⟨hk,x,y,rfl,hx,hy⟩|⟨hk1,hk4,rfl⟩
 ·obtain⟨rfl,rfl,rfl⟩:=zE2 h1 (by omega)
  exact .inr (.inr (.inr (.inl ⟨x,rfl,hx,txt4 _ _ _ _,by simp[nod,zn0]⟩)))
 ·obtain⟨rfl,rfl,rfl⟩:=zE2 h1 (by omega)
  exact .inr (.inr (.inr (.inr ⟨k,x,y,hk,rfl,hx,hy,zNP hk _ _ _ _ _,by simp[nod,zn0];omega⟩)))
 ·rcases zyQ h hk4 with⟨rfl,a,rfl,rfl⟩|⟨rfl,a,b,rfl⟩|⟨rfl,a,rfl,c,d⟩
  ·exact .inl ⟨key,rfl,a,txt1 _ _ _ _⟩
  ·exact .inr (.inl ⟨key,val,rfl,a,b,txt2 _ _ _ _⟩)
  ·exact .inr (.inr (.inl ⟨key,n,rfl,a,c,d,txt3 _ _ _ _⟩))
theorem zIQ{rb b0:Nat}{w w' w'':World}(h:Fr (·=rb) w w')(hb:w.heap.size<=b0)(x:zag [b0] [] w' w''):Fr (·=rb) w w'' :=
 h.trans (S':=fun b=>b=b0) (zb4 x (by intro d hd;simp at hd;exact .inl hd)) fun b hb'=>.inr (hb'▸hb)
theorem RD.b{B:Nat}{w w':World}{rb b0:Nat}{l:List UInt8}{left:Nat}(o:RD B w rb l left)(hb:b0≠rb)(x:zag [b0] [] w w'):RD B w' rb l left :=
 RD.fr (S:=fun b=>b=b0) o (zb4 x (by intro d hd;simp at hd;exact .inl hd)) fun h=>hb h.symm
theorem zj0{rb:Nat}{w w':World}{ns:List Nat}(h:Fr (·=rb) w w')(hn:∀b∈ns,b<w.heap.size/\b≠rb):zbY ns w w':=h.kept hn
structure Post(B rb:Nat)(l:List UInt8)(left:Nat)(w:World)(t:AT)(p:Option Addr)(c:Nat)(ok:Bool)(w':World)(l':List UInt8)(left':Nat)(used:Nat):Prop where
 fr:Fr (·=rb) w w'
 rd:RD B w' rb l' left'
 len:l'.length<=l.length
 le:left'<=left
 good:ok=true->WfA t/\nod t+left'=left+used/\∀S:Nat->Prop,(∀b,S b->b<w.heap.size)->∀w'',Fr S w' w''->IsT w'' t p c
def zDS(B rb:Nat)(l:List UInt8)(left:Nat)(w:World)(t:AT)(p:Option Addr)(c:Nat)(ok:Bool)(w':World):Prop :=
 ∃l' left',Post B rb l left w t p c ok w' l' left' 0/\∀t0 zay,zfw t0=0->nod t0<=left->l=txt t0++zay->sep zay->asc l->ok=true/\t=t0/\l'=zay
def zEi(B rb:Nat)(l:List UInt8)(left:Nat)(w:World)(t:AT)(p:Option Addr)(c:Nat)(ok:Bool)(w':World):Prop :=
 ∃l' left',Post B rb l left w t p c ok w' l' left' 1/\∀(k:Int) (x y:AT) zay,(k=5\/k=6)->zfw x=0->zfw y=0->nod x+nod y<=left->l=txt x++(if k=5 then 38 else 124)::(txt y++41::zay)->asc l->ok=true/\t=.mk k emS emS 0 [x,y]/\l'=zay
def AskC(n:Nat):Prop:=∀(W0 w:World)(B rb left:Nat)(l:List UInt8),(left<=n/\left<=60)->GB W0->Ext W0 w->W0.heap.size<=rb->RD B w rb l left->l.length<=2000 ->
 FnP Tryz.prog zbe #[rp rb] w fun v w'=>∃t p c ok,v=.tuple #[av t p c,.bool ok]/\zDS B rb l left w t p c ok w'
def TwoC(n:Nat):Prop:=∀(W0 w:World)(B rb left:Nat)(l:List UInt8),(left<=n/\left<=60)->GB W0->Ext W0 w->W0.heap.size<=rb->RD B w rb l left->l.length<=2000 ->
 FnP Tryz.prog zfm #[rp rb] w fun v w'=>∃t p c ok,v=.tuple #[av t p c,.bool ok]/\zEi B rb l left w t p c ok w'
theorem zt9{a b:List UInt8}(h:asc (a++b)):asc b:=fun x hx=>h x (List.mem_append_right _ hx)
theorem ziw{a:UInt8}{b:List UInt8}(h:asc (a::b)):asc b:=fun x hx=>h x (List.mem_cons_of_mem _ hx)
theorem zAh{k:Int}(hk:0<=k/\k<=100){a b:List UInt8}(ha:a.length<=2000)(hb:b.length<=2000){n:Int}(hn:InR .i64 n):WfA (.mk k (ofL a) (ofL b) n []):=by
 unfold WfA
 exact⟨i64 (by omega),by rw[zai];omega,by rw[zai];omega,hn,by simp,by unfold WfL;trivial⟩
theorem zpI{w:World}{k:Int}{key val:ByteArray}{n:Int}{p:Option Addr}{c:Nat}:IsT w (.mk k key val n []) p c:=by
 unfold IsT
 exact⟨Nat.zero_le _,by unfold IsL;trivial⟩
theorem two_k(n:Nat)(hA:AskC n):TwoC n:=by
 intro W0 w B rb left l hn g h0 hrb o hl
 refine zn3 _ w _ fun b0 hb0 w1 x1=>?_
 have hlt:=o.lt
 have hb0r:b0≠rb:=by omega
 have h1:=zaa x1
 have o1:=Own.ext o h1
 refine(hA W0 w1 B rb left l hn g (h0.trans h1) hrb o1 hl).mono fun v w2 ⟨x,px,cx,ok1,hv,l2,left2,P2,C2⟩=>⟨zj0 P2.fr (by intro b hb;simp at hb;subst hb;exact⟨x1.lt _ (by simp),hb0r⟩),x.k,x.key,x.val,x.n,px,x.xs.length,cx,ok1,hv,fun b11 hb11=>⟨fun hno w12 x12=>?_,fun hok w12 x12=>?_⟩⟩
 ·refine⟨zkn,none,0,false,rfl,l2,left2,⟨zIQ ((zac h1).tr P2.fr) hb0 x12,RD.b P2.rd hb0r x12,P2.len,P2.le,fun h=>by cases h⟩,fun k a b zay hk ha hb hnod he hasc=>?_⟩
  have:=C2 a _ ha (by omega) he (by split<;>exact zfT (by decide)) hasc
  rw[hno] at this
  exact absurd this.1 (by simp)
 subst hok
 obtain⟨hWx,hnx,hTx⟩:=P2.good rfl
 have f2:Fr (·=rb) w w2:=(zac h1).tr P2.fr
 have h12:=zaa x12
 have hb2:rb<w2.heap.size:=P2.rd.lt
 have hb0w:b0<w1.heap.size:=x1.lt b0 (by simp)
 have s12:w1.heap.size<=w2.heap.size:=P2.fr.size
 have hns:∀b∈[b0,b11],b<w12.heap.size/\b≠rb:=by
  intro b hb
  refine⟨x12.lt b hb,?_⟩
  simp at hb
  rcases hb with rfl|rfl
  ·exact hb0r
  ·omega
 have tail:∀(k:Int)(w15:World),(k=5\/k=6)->∀(l4:List UInt8),Fr (·=rb) w2 w15->RD B w15 rb l4 left2->b0<w15.heap.size->b11<w15.heap.size->l4.length<=l2.length ->
   (∀(k':Int) (a b:AT) zay,(k'=5\/k'=6)->zfw a=0->zfw b=0->nod a+nod b<=left->l=txt a++(if k'=5 then 38 else 124)::(txt b++41::zay)->asc l->k'=k/\x=a/\l4=txt b++41::zay) ->
   FnP Tryz.prog zbe #[rp rb] w15 fun v w16=>zbY [b0,b11] w15 w16/\∃y py cy ok2,v=.tuple #[av y py cy,.bool ok2]/\∀b25:Nat,w16.heap.size<=b25 ->
    ∃(J:Bool->Int->ByteArray->ByteArray->Int->Option Addr->Nat->Nat->World->Prop),
     (∀w34,zag [] [b0,b11,b25] w16 w34->Run Tryz.prog (.buildSlice zcD 2 [(0,av x px cx),(1,av y py cy)]) w34 fun v35 w35=>Ext w34 w35/\∃t36:Option Addr,∃tl37:Nat,∃tc38:Nat,v35=(.slice t36 tl37 tc38) /\
      ((ok2=true->∀w39,zag [] [b0,b11,b25] w35 w39->FnP Tryz.prog zaf #[rp rb,.int .u8 41] w39 fun v40 w40=>zbY [b0,b11,b25] w39 w40/\∃t41:Bool,v40=.bool t41/\J t41 k (⟨#[]⟩:ByteArray) (⟨#[]⟩:ByteArray) 0 t36 tl37 tc38 w40)/\(ok2=false->J false k (⟨#[]⟩:ByteArray) (⟨#[]⟩:ByteArray) 0 t36 tl37 tc38 w35))) /\
     (ok2=true->∀w34,zag [] [b0,b11,b25] w16 w34->FnP Tryz.prog zaf #[rp rb,.int .u8 41] w34 fun v35 w35=>zbY [b0,b11,b25] w34 w35/\∃t36:Bool,v35=.bool t36 /\
      ∀w37,zag [] [b0,b11,b25] w35 w37->Run Tryz.prog (.buildSlice zcD 2 [(0,av x px cx),(1,av y py cy)]) w37 fun v38 w38=>Ext w37 w38/\∃t39:Option Addr,∃tl40:Nat,∃tc41:Nat,v38=(.slice t39 tl40 tc41)/\J t36 k (⟨#[]⟩:ByteArray) (⟨#[]⟩:ByteArray) 0 t39 tl40 tc41 w38) /\
     (ok2=false->∀w34,zag [] [b0,b11,b25] w16 w34->Run Tryz.prog (.buildSlice zcD 2 [(0,av x px cx),(1,av y py cy)]) w34 fun v35 w35=>Ext w34 w35/\∃t36:Option Addr,∃tl37:Nat,∃tc38:Nat,v35=(.slice t36 tl37 tc38)/\J false k (⟨#[]⟩:ByteArray) (⟨#[]⟩:ByteArray) 0 t36 tl37 tc38 w35) /\
     (∀ok kk key val nn q ql qc w33,J ok kk key val nn q ql qc w33->∀w34,zag [b0] [] w33 w34->∃t p c ok',Value.tuple #[.agg #[.int .i64 kk,.string key,.string val,.int .i64 nn,.slice q ql qc],.bool ok]=.tuple #[av t p c,.bool ok']/\zEi B rb l left w t p c ok' w34):=by
  intro k w15 hk l4 f15 o15 hb015 hb1115 hl4 hC
  have hl2:=P2.len
  have ext15:Ext W0 w15:=(f2.tr f15).ext h0 (by intro b hb;omega)
  have hle2:=P2.le
  refine(hA W0 w15 B rb left2 l4 (by omega) g ext15 hrb o15 (by omega)).mono fun v w16 ⟨y,py,cy,ok2,hv,l5,left5,P5,C5⟩=>⟨zj0 P5.fr (by intro b hb;simp at hb;rcases hb with rfl|rfl;(· exact⟨hb015,hb0r⟩);exact⟨hb1115,by omega⟩),y,py,cy,ok2,hv,fun b25 hb25=>?_⟩
  have f16:Fr (·=rb) w w16:=(f2.tr f15).tr P5.fr
  have hrb16:rb<w16.heap.size:=P5.rd.lt
  have sz2:w2.heap.size<=w15.heap.size:=f15.size
  have sz5:w15.heap.size<=w16.heap.size:=P5.fr.size
  have szw:w.heap.size<=w2.heap.size:=f2.size
  have hnb:∀(w':World),(∀b∈[b0,b11,b25],b<w'.heap.size)->∀b∈[b0,b11,b25],b<w'.heap.size/\b≠rb:=by
   intro w' h b hb
   refine⟨h b hb,?_⟩
   simp at hb
   rcases hb with rfl|rfl|rfl<;>omega
  have built:∀(w35 w36:World)(q:Option Addr)(qc:Nat),Fr (·=rb) w16 w35->Own w16.heap.size w35 zd8 5 q 2 qc (zpE x px cx++zpE y py cy)->Fr (fun b=>b=rb) w35 w36 ->
    ok2=true->∀S:Nat->Prop,(∀b,S b->b<w.heap.size)->∀w'',Fr (fun b=>S b\/b=b0) w36 w''->IsT w'' (.mk k emS emS 0 [x,y]) q qc:=by
   intro w35 w36 q qc fa ow fb hok2 S hS w'' fc
   subst hok2
   obtain⟨hWy,hny,hTy⟩:=P5.good rfl
   have fall:Fr (fun b=>b=rb\/S b\/b=b0) w16 w'':=((fa.tr fb).mono fun b hb=>.inl hb).tr (fc.mono fun b hb=>.inr hb)
   have bnd:∀b,(b=rb\/S b\/b=b0)->b<w1.heap.size:=by
    intro b hb
    have:=h1.size
    rcases hb with rfl|hb|rfl
    ·omega
    ·have:=hS b hb;omega
    ·exact hb0w
   have tx:IsT w'' x px cx:=hTx _ bnd w'' ((f15.mono fun b hb=>.inl hb).tr ((P5.fr.mono fun b hb=>.inl hb).tr fall))
   have ty:IsT w'' y py cy:=hTy _ (fun b hb=>by have:=bnd b hb;omega) w'' fall
   unfold IsT
   have hle:=ow.le
   refine⟨by simpa using hle.1,zzq (l:=[(x,px,cx),(y,py,cy)]) (fun j u hu=>?_) (by intro z hz;simp at hz;rcases hz with rfl|rfl<;>assumption)⟩
   have hcell:Go.Sx.cell w35 q j=some u:=ow.cells j u (by simpa using hu)
   have hq:∀a,q=some a->¬(a.block=rb\/S a.block\/a.block=b0):=fun a ha hb=>by
    have:=(ow.lt a ha).1
    have:=bnd _ hb
    omega
   have:=zea hcell ((fb.mono fun b hb=>.inl hb).tr (fc.mono fun b hb=>.inr hb):Fr (fun b=>b=rb\/S b\/b=b0) w35 w'') hq
   simpa using this
  refine⟨fun ok kk key val nn q ql qc w'=>(kk=k/\key=(⟨#[]⟩:ByteArray)/\val=(⟨#[]⟩:ByteArray)/\nn=0)/\ql=2/\Fr (·=rb) w16 w'/\∃l6,RD B w' rb l6 left5/\l6.length<=l5.length/\(ok=true->ok2=true/\∀S:Nat->Prop,(∀b,S b->b<w.heap.size)->∀w'',Fr (fun b=>S b\/b=b0) w' w''->IsT w'' (.mk k emS emS 0 [x,y]) q qc)/\(∀zay,l5=41::zay->ok2=true->ok=true/\l6=zay),?_,?_,?_,?_⟩
  ·intro w34 x34
   have h34:=zaa x34
   refine zce zf9 [av x px cx,av y py cy] rfl rfl (by intro v hv;simp at hv;rcases hv with rfl|rfl<;>rfl) (by omega) (by omega) fun w35 o35 e35=>⟨e35,_,_,_,rfl,fun hok2 w39 x39=>?_,fun hok2=>?_⟩
   ·have h39:=zaa x39
    have ow:Own w16.heap.size w39 zd8 5 (some ⟨w34.heap.size,0,none⟩) 2 2 (zpE x px cx++zpE y py cy):=(by simpa[Value.cells,zpE] using(o35 w16.heap.size h34.size)) |> fun o=>Own.ext o h39
    refine(zlh (Own.ext (Own.ext (Own.ext P5.rd h34) e35) h39) (by have:=P5.len;omega) 41 41 rfl).mono fun v w40 ⟨f40,hor⟩=>⟨zj0 f40 (hnb w39 x39.lt),?_⟩
    have fa:Fr (·=rb) w16 w39:=zac ((h34.trans e35).trans h39)
    rcases hor with⟨r,hr,hv,o40⟩|⟨hr,hv,o40⟩
    ·exact⟨true,hv,⟨rfl,rfl,rfl,rfl⟩,rfl,fa.tr f40,r,o40,by rw[hr];simp,fun _=>⟨hok2,built w39 w40 _ _ fa ow f40 hok2⟩,fun zay he _=>⟨rfl,by rw[hr] at he;simpa using he⟩⟩
    ·exact⟨false,hv,⟨rfl,rfl,rfl,rfl⟩,rfl,fa.tr f40,l5,o40,Nat.le_refl _,fun h=>(by cases h),fun zay he _=>absurd he (hr zay)⟩
   ·exact⟨⟨rfl,rfl,rfl,rfl⟩,rfl,zac (h34.trans e35),l5,Own.ext (Own.ext P5.rd h34) e35,Nat.le_refl _,fun h=>(by cases h),fun zay he hb=>(by rw[hok2] at hb;cases hb)⟩
  ·intro hok2 w34 x34
   have h34:=zaa x34
   refine(zlh (Own.ext P5.rd h34) (by have:=P5.len;omega) 41 41 rfl).mono fun v w35 ⟨f35,hor⟩=>⟨zj0 f35 (hnb w34 x34.lt),?_⟩
   have fa:Fr (·=rb) w16 w35:=(zac h34).tr f35
   have body:∀(t36:Bool)(l6:List UInt8),RD B w35 rb l6 left5->l6.length<=l5.length->(∀zay,l5=41::zay->ok2=true->t36=true/\l6=zay)->∀w37,zag [] [b0,b11,b25] w35 w37->Run Tryz.prog (.buildSlice zcD 2 [(0,av x px cx),(1,av y py cy)]) w37 fun v38 w38=>Ext w37 w38/\∃t39:Option Addr,∃tl40:Nat,∃tc41:Nat,v38=(.slice t39 tl40 tc41) /\
     ((k=k/\(⟨#[]⟩:ByteArray)=(⟨#[]⟩:ByteArray)/\(⟨#[]⟩:ByteArray)=(⟨#[]⟩:ByteArray)/\(0:Int)=0)/\tl40=2/\Fr (·=rb) w16 w38/\∃l6,RD B w38 rb l6 left5/\l6.length<=l5.length/\(t36=true->ok2=true/\∀S:Nat->Prop,(∀b,S b->b<w.heap.size)->∀w'',Fr (fun b=>S b\/b=b0) w38 w''->IsT w'' (.mk k emS emS 0 [x,y]) t39 tc41)/\(∀zay,l5=41::zay->ok2=true->t36=true/\l6=zay)):=by
    intro t36 l6 o6 hl6 hr6 w37 x37
    have h37:=zaa x37
    refine zce zf9 [av x px cx,av y py cy] rfl rfl (by intro v hv;simp at hv;rcases hv with rfl|rfl<;>rfl) (by omega) (by omega) fun w38 o38 e38=>⟨e38,_,_,_,rfl,⟨rfl,rfl,rfl,rfl⟩,rfl,fa.tr (zac (h37.trans e38)),l6,Own.ext (Own.ext o6 h37) e38,hl6,fun _=>⟨hok2,?_⟩,hr6⟩
    have ow:Own w16.heap.size w38 zd8 5 (some ⟨w37.heap.size,0,none⟩) 2 2 (zpE x px cx++zpE y py cy):=by simpa[Value.cells,zpE] using(o38 w16.heap.size (Nat.le_trans fa.size h37.size))
    exact built w38 w38 _ _ (fa.tr (zac (h37.trans e38))) ow (Fr.refl _ _) hok2
   rcases hor with⟨r,hr,hv,o40⟩|⟨hr,hv,o40⟩
   ·exact⟨true,hv,body true r o40 (by rw[hr];simp) fun zay he _=>⟨rfl,by rw[hr] at he;simpa using he⟩⟩
   ·exact⟨false,hv,body false l5 o40 (Nat.le_refl _) fun zay he _=>absurd he (hr zay)⟩
  ·intro hok2 w34 x34
   have h34:=zaa x34
   refine zce zf9 [av x px cx,av y py cy] rfl rfl (by intro v hv;simp at hv;rcases hv with rfl|rfl<;>rfl) (by omega) (by omega) fun w35 o35 e35=>⟨e35,_,_,_,rfl,⟨rfl,rfl,rfl,rfl⟩,rfl,zac (h34.trans e35),l5,Own.ext (Own.ext P5.rd h34) e35,Nat.le_refl _,fun h=>(by cases h),fun zay he hb=>(by rw[hok2] at hb;cases hb)⟩
  ·rintro ok kk key val nn q ql qc w33 ⟨⟨rfl,rfl,rfl,rfl⟩,rfl,f33,l6,o6,hl6,hgood,hrest⟩ w34 x34
   have hlen5:=P5.len
   have hle5:=P5.le
   refine⟨.mk _ emS emS 0 [x,y],q,qc,ok,rfl,l6,left5,⟨zIQ (f16.tr f33) hb0 x34,RD.b o6 hb0r x34,by omega,by omega,fun hok=>?_⟩,fun k' a b zay hk' ha hb hnod he hasc=>?_⟩
   ·obtain⟨hok2,hT⟩:=hgood hok
    obtain⟨hWy,hny,_⟩:=P5.good hok2
    refine⟨zK6 (by omega) (by simp) (by intro z hz;simp at hz;rcases hz with rfl|rfl<;>assumption),by simp only[nod,zn0];omega,fun S hS w'' fw=>hT S hS w'' ?_⟩
    exact(zb4 x34 (by intro d hd;simp at hd;exact .inl (.inr hd))).tr (fw.mono fun b hb=>.inl hb)
   ·obtain⟨rfl,rfl,hl4'⟩:=hC k' a b zay hk' ha hb hnod he hasc
    have hasc4:asc l4:=by
     rw[hl4']
     rw[he] at hasc
     exact ziw (zt9 hasc)
    obtain⟨h5,rfl,hl5⟩:=C5 b (41::zay) hb (by omega) hl4' (zfT (by decide)) hasc4
    obtain⟨hk1,hk2⟩:=hrest zay hl5 h5
    exact⟨hk1,rfl,hk2⟩
 refine(zlh (Own.ext P2.rd h12) (by have:=P2.len;omega) 124 124 rfl).mono fun v w13 ⟨f13,hor⟩=>⟨zj0 f13 hns,?_⟩
 have szn:w12.heap.size<=w13.heap.size:=f13.size
 have bnd13:∀b∈[b0,b11],b<w13.heap.size:=fun b hb=>by have:=(hns b hb).1;omega
 rcases hor with⟨r,hr,hv,o13⟩|⟨hr,hv,o13⟩
 ·refine⟨true,hv,fun _ w15 x15=>?_,fun h=>(by cases h)⟩
  refine(tail 6 w15 (.inr rfl) r (((zac h12).tr f13).tr (zac (zaa x15))) (Own.ext o13 (zaa x15)) (x15.lt _ (by simp)) (x15.lt _ (by simp)) (by rw[hr];simp) fun k' a b zay hk' ha hb hnod he hasc=>?_).mono fun v w16 ⟨kp,y,py,cy,ok2,hv,hJ⟩=>⟨kp,y.k,y.key,y.val,y.n,py,y.xs.length,cy,ok2,hv,fun b25 hb25=>?_⟩
  ·obtain⟨_,hxa,hl2⟩:=C2 a _ ha (by omega) he (by split<;>exact zfT (by decide)) hasc
   rw[hr] at hl2
   simp only[List.cons.injEq] at hl2
   refine⟨?_,hxa,hl2.2⟩
   rcases hk' with rfl|rfl
   ·exact absurd hl2.1 (by decide)
   ·rfl
  ·obtain⟨J,ja,jb,jc,jd⟩:=hJ b25 hb25
   refine⟨J,?_,jd⟩
   repeat' (first|exact ja|exact jb|exact jc|apply And.intro)
 ·refine⟨false,hv,fun h=>(by cases h),fun _ w15 x15=>?_⟩
  have h15:=zaa x15
  have hns15:∀b∈[b0,b11],b<w15.heap.size/\b≠rb:=fun b hb=>⟨x15.lt b hb,(hns b hb).2⟩
  refine(zlh (Own.ext o13 h15) (by have:=P2.len;omega) 38 38 rfl).mono fun v w16 ⟨f16,hor⟩=>⟨zj0 f16 hns15,?_⟩
  rcases hor with⟨r,hr2,hv,o16⟩|⟨hr2,hv,o16⟩
  ·refine⟨true,hv,fun h=>(by cases h),fun _ w18 x18=>?_⟩
   refine(tail 5 w18 (.inl rfl) r ((((zac h12).tr f13).tr (zac h15)).tr (f16.tr (zac (zaa x18)))) (Own.ext o16 (zaa x18)) (x18.lt _ (by simp)) (x18.lt _ (by simp)) (by rw[hr2];simp) fun k' a b zay hk' ha hb hnod he hasc=>?_).mono fun v w19 ⟨kp,y,py,cy,ok2,hv,hJ⟩=>⟨kp,y.k,y.key,y.val,y.n,py,y.xs.length,cy,ok2,hv,fun b25 hb25=>?_⟩
   ·obtain⟨_,hxa,hl2⟩:=C2 a _ ha (by omega) he (by split<;>exact zfT (by decide)) hasc
    rw[hr2] at hl2
    simp only[List.cons.injEq] at hl2
    refine⟨?_,hxa,hl2.2⟩
    rcases hk' with rfl|rfl
    ·rfl
    ·exact absurd hl2.1 (by decide)
   ·obtain⟨J,ja,jb,jc,jd⟩:=hJ b25 hb25
    refine⟨J,?_,jd⟩
    repeat' (first|exact ja|exact jb|exact jc|apply And.intro)
  ·refine⟨false,hv,fun _ w18 x18=>?_,fun h=>(by cases h)⟩
   refine⟨zkn,none,0,false,rfl,l2,left2,⟨zIQ ((f2.tr ((zac h12).tr f13)).tr ((zac h15).tr f16)) hb0 x18,RD.b o16 hb0r x18,P2.len,P2.le,fun h=>(by cases h)⟩,fun k a b zay hk ha hb hnod he hasc=>?_⟩
   obtain⟨_,_,hl2⟩:=C2 a _ ha (by omega) he (by split<;>exact zfT (by decide)) hasc
   rcases hk with rfl|rfl
   ·exact absurd hl2 (hr2 _)
   ·exact absurd hl2 (hr _)
theorem zMA{P:Program}{t:TypeId}{m:Array (String×TypeId)}(ht:P.underlying t=some (.interface m)){v:Value}(hv:isErr v){cx:Bool}{w:World}{K:Value->World->Prop}(hk:∀b:Bool,(b=true↔v=.nilIface)->K (.bool b) w):Run P (.eq .eql t cx true v .nilIface) w K:=by
 have hb:∀x:Value,∀r:Bool,(Op.equal t x .nilIface).run P w=.ok r w->(eqGuard .eql t (opd cx) (opd true) x .nilIface).run P w=.ok () w->binOp .eql t x .nilIface=(do pure (.bool (<-Op.equal t x .nilIface)))->(MC.sem (.eq .eql t cx true x .nilIface)).run P w=.ok (.bool r) w:=fun x r h1 h2 h3=>by
  show(do eqGuard .eql t (opd cx) (opd true) x .nilIface;binOp .eql t x .nilIface:Sem Value).run P w=_
  rw[Sem.run_bind,h2,Result.andThen_ok,h3,Sem.run_bind,h1,Result.andThen_ok,Sem.run_pure]
 rcases hv with rfl|⟨a,b,rfl⟩
 ·exact⟨_,w,hb _ true (zlA 9999 ht w) (by cases cx<;>rfl) rfl,hk true (by simp)⟩
 ·exact⟨_,w,hb _ false (zlz 9999 ht a b w) (by cases cx<;>rfl) rfl,hk false (by simp)⟩
theorem zE1{P:Program}{t:TypeId}(ht:zwH P t=true){v:Value}(hv:isErr v){cx:Bool}{w:World}{K:Value->World->Prop}(hk:∀b:Bool,(b=true↔v=.nilIface)->K (.bool b) w):Run P (.eq .eql t cx true v .nilIface) w K:=by
 unfold zwH at ht
 split at ht
 ·rename_i m h;exact zMA h hv hk
 ·cases ht
theorem zFY(t:AT):1<=nod t:=by cases t;simp[nod]
theorem ask_k:∀n,AskC n:=by
 intro n
 induction n with
 |zero =>
  intro W0 w B rb left l hn g h0 hrb o hl
  obtain rfl:left=0:=by omega
  obtain⟨_,g1⟩:=o.cells
  refine zhW _ w _ fun b0 hb0=>⟨by simp,by simp,_,g1,fun _ w2 h2=>⟨zkn,none,0,false,rfl,l,0,⟨zac h2,Own.ext o h2,Nat.le_refl _,Nat.le_refl _,fun h=>(by cases h)⟩,fun t0 zay h1 h3=>absurd (zFY t0) (by omega)⟩,fun h=>absurd rfl h⟩
 |succ n ih =>
  intro W0 w B rb left l hn g h0 hrb o hl
  obtain⟨_,g1⟩:=o.cells
  have hlt:=o.lt
  refine zhW _ w _ fun b0 hb0=>⟨by simp,by simp,_,g1,fun hz w2 h2=>?_,fun hne=>⟨by simp,by simp,_,g1,i64 (by omega),by simp,by simp,?_⟩⟩
  ·obtain rfl:left=0:=by omega
   exact⟨zkn,none,0,false,rfl,l,0,⟨zac h2,Own.ext o h2,Nat.le_refl _,Nat.le_refl _,fun h=>(by cases h)⟩,fun t0 zay h1 h3=>absurd (zFY t0) (by omega)⟩
  have hb0r:b0≠rb:=by omega
  refine o.left hb0r (m:=left-1) (by omega) fun w3 o3 f3 w4 x4=>?_
  have h4:=zaa x4
  have hk:∀(w' w'':World),b0<w'.heap.size->Fr (·=rb) w' w''->zbY [b0] w' w'':=fun w' w'' hb f=>zj0 f (by intro b hb';simp at hb';subst hb';exact⟨hb,hb0r⟩)
  have f4:Fr (·=rb) w w4:=f3.tr (zac h4)
  have no:∀(w' w'':World)(l':List UInt8),Fr (·=rb) w w'->RD B w' rb l' (left-1)->l'.length<=l.length->zag [b0] [] w' w''->(∀t0 zay,zfw t0=0->nod t0<=left->l=txt t0++zay->sep zay->asc l->False) ->
    zDS B rb l left w zkn none 0 false w'':=fun w' w'' l' f o' hl' x hno =>
   ⟨l',left-1,⟨zIQ f hb0 x,RD.b o' hb0r x,hl',by omega,fun h=>(by cases h)⟩,fun t0 zay h1 h2 h3 h5 h6=>(hno t0 zay h1 h2 h3 h5 h6).elim⟩
  refine(zlh (Own.ext o3 h4) hl 63 63 rfl).mono fun v w5 ⟨f5,hor⟩=>⟨hk _ _ (x4.lt _ (by simp)) f5,?_⟩
  have F5:=f4.tr f5
  have sz5:=f5.size
  have hb4:b0<w4.heap.size:=x4.lt _ (by simp)
  rcases hor with⟨r,hr,hv,o5⟩|⟨hr,hv,o5⟩
  ·
   refine⟨true,hv,fun _ w7 x7=>?_,fun h=>(by cases h)⟩
   have h7:=zaa x7
   have hrl:r.length<=2000:=by rw[hr] at hl;simp at hl;omega
   refine(zCs (Own.ext o5 h7) hrl).mono fun v w8 ⟨f8,a,b,hv,hab,o8,hC⟩=>⟨hk _ _ (x7.lt _ (by simp)) f8,_,hv,fun w10 x10=>?_⟩
   have hla:a.length+b.length=r.length:=by rw[hab];simp
   refine⟨.mk 1 (ofL a) (ofL []) 0 [],none,0,true,rfl,b,left-1,⟨zIQ ((F5.tr (zac h7)).tr f8) hb0 x10,RD.b o8 hb0r x10,by rw[hr];simp;omega,by omega,fun _=>⟨zAh (by omega) (by omega) (by simp) (i64 (by omega)),by rw[nod1];omega,fun S hS w'' _=>zpI⟩⟩,fun t0 zay he hnod hl0 hsep hasc=>?_⟩
   rw[hr] at hl0 hasc
   rcases zox he with⟨key,rfl,hkey,ht⟩|⟨key,val,rfl,hkey,hval,ht⟩|⟨key,m,rfl,hkey,_,_,ht⟩|⟨x,rfl,hx,ht,_⟩|⟨k,x,y,hk',rfl,hx,hy,ht,_⟩
   ·rw[ht] at hl0
    simp only[List.cons_append,List.cons.injEq,true_and] at hl0
    obtain⟨rfl,rfl⟩:=hC _ _ hl0 (ziw hasc) (zqP hkey) hsep
    refine⟨rfl,?_,rfl⟩
    rw[za4];rfl
   ·rw[ht,List.append_assoc] at hl0
    exact absurd hl0.symm (znT (zM4 hkey) (zqP hkey) (by decide))
   ·rw[ht,List.append_assoc] at hl0
    exact absurd hl0.symm (znT (zNQ hkey) (zx5 hkey) (by decide))
   ·rw[ht] at hl0;simp at hl0
   ·rw[ht] at hl0;simp at hl0
  refine⟨false,hv,fun h=>(by cases h),fun _ w7 x7=>?_⟩
  have h7:=zaa x7
  refine(zlh (Own.ext o5 h7) hl 33 33 rfl).mono fun v w8 ⟨f8,hor⟩=>⟨hk _ _ (x7.lt _ (by simp)) f8,?_⟩
  have F8:=(F5.tr (zac h7)).tr f8
  have ext8:Ext W0 w8:=F8.ext h0 (by intro b hb;omega)
  have hb7:b0<w7.heap.size:=x7.lt _ (by simp)
  have sz8:=f8.size
  rcases hor with⟨r,hr2,hv,o8⟩|⟨hr2,hv,o8⟩
  ·
   refine⟨true,hv,fun _ w10 x10=>?_,fun h=>(by cases h)⟩
   have h10:=zaa x10
   have hrl:r.length+1=l.length:=by rw[hr2];simp
   refine(ih W0 w10 B rb (left-1) r (by omega) g (ext8.trans h10) hrb (Own.ext o8 h10) (by omega)).mono fun v w11 ⟨y,py,cy,ok2,hv,l2,left2,P2,C2⟩=>⟨hk _ _ (x10.lt _ (by simp)) P2.fr,y.k,y.key,y.val,y.n,py,y.xs.length,cy,ok2,hv,fun b20 hb20 w21 x21=>?_⟩
   have h21:=zaa x21
   have hlen2:=P2.len
   have hle2:=P2.le
   refine zce zf9 [av y py cy] rfl rfl (by intro v hv;simp at hv;subst hv;rfl) (by omega) (by omega) fun w22 o22 e22=>⟨e22,_,_,_,rfl,fun w26 x26=>?_⟩
   have F22:Fr (·=rb) w w22:=((F8.tr (zac h10)).tr P2.fr).tr (zac (h21.trans e22))
   refine⟨.mk 4 emS emS 0 [y],some ⟨w21.heap.size,0,none⟩,1,ok2,rfl,l2,left2,⟨zIQ F22 hb0 x26,RD.b (Own.ext (Own.ext P2.rd h21) e22) hb0r x26,by omega,by omega,fun hok=>?_⟩,fun t0 zay he hnod hl0 hsep hasc=>?_⟩
   ·obtain⟨hWy,hny,hTy⟩:=P2.good hok
    refine⟨zK6 (by omega) (by simp) (by intro z hz;simp at hz;subst hz;exact hWy),by simp only[nod,zn0];omega,fun S hS w'' fw=>?_⟩
    have fb:Fr (fun b=>S b\/b=b0) w22 w'':=(zb4 x26 (by intro d hd;simp at hd;exact .inl (.inr hd))).tr (fw.mono fun b hb=>.inl hb)
    have bnd:∀b,(S b\/b=b0)->b<w10.heap.size:=by
     intro b hb
     have:=x10.lt b0 (by simp)
     have s1:=F8.size
     have s2:=h10.size
     rcases hb with hb|rfl
     ·have:=hS b hb;omega
     ·exact this
    have ty:IsT w'' y py cy:=hTy _ bnd w'' ((zac (h21.trans e22)).tr fb)
    have sA:=P2.fr.size
    have sB:=h21.size
    unfold IsT
    refine⟨by simp,zzq (l:=[(y,py,cy)]) (fun j u hu=>?_) (by intro z hz;simp at hz;subst hz;exact ty)⟩
    have hcell:Go.Sx.cell w22 (some ⟨w21.heap.size,0,none⟩) j=some u:=(o22 0 (Nat.zero_le _)).cells j u (by simpa[Value.cells,zpE,AT.k,AT.key,AT.val,AT.n,AT.xs] using hu)
    have:=zea hcell fb (fun a ha hb=>by obtain rfl:=Option.some.inj ha;have:=bnd _ hb;simp only[] at this;omega)
    simpa using this
   ·rw[hr2] at hl0 hasc
    rcases zox he with⟨key,rfl,hkey,ht⟩|⟨key,val,rfl,hkey,hval,ht⟩|⟨key,m,rfl,hkey,_,_,ht⟩|⟨x,rfl,hx,ht,hnx⟩|⟨k,x,y',hk',rfl,hx,hy,ht,_⟩
    ·rw[ht] at hl0;simp at hl0
    ·rw[ht,List.append_assoc] at hl0
     exact absurd hl0.symm (znT (zM4 hkey) (zqP hkey) (by decide))
    ·rw[ht,List.append_assoc] at hl0
     exact absurd hl0.symm (znT (zNQ hkey) (zx5 hkey) (by decide))
    ·rw[ht] at hl0
     simp only[List.cons_append,List.cons.injEq,true_and] at hl0
     obtain⟨h1,rfl,h3⟩:=C2 x zay hx (by omega) hl0 hsep (ziw hasc)
     exact⟨h1,rfl,h3⟩
    ·rw[ht] at hl0;simp at hl0
  refine⟨false,hv,fun h=>(by cases h),fun _ w10 x10=>?_⟩
  have h10:=zaa x10
  refine(zlh (Own.ext o8 h10) hl 40 40 rfl).mono fun v w11 ⟨f11,hor⟩=>⟨hk _ _ (x10.lt _ (by simp)) f11,?_⟩
  have F11:=(F8.tr (zac h10)).tr f11
  have ext11:Ext W0 w11:=F11.ext h0 (by intro b hb;omega)
  have sz11:=f11.size
  have hb10:b0<w10.heap.size:=x10.lt _ (by simp)
  rcases hor with⟨r,hr3,hv,o11⟩|⟨hr3,hv,o11⟩
  ·
   refine⟨true,hv,fun _ w13 x13=>?_,fun h=>(by cases h)⟩
   have h13:=zaa x13
   have hrl:r.length+1=l.length:=by rw[hr3];simp
   refine(two_k n ih W0 w13 B rb (left-1) r (by omega) g (ext11.trans h13) hrb (Own.ext o11 h13) (by omega)).mono fun v w14 ⟨y,py,cy,ok2,hv,l2,left2,P2,C2⟩=>⟨hk _ _ (x13.lt _ (by simp)) P2.fr,y.k,y.key,y.val,y.n,py,y.xs.length,cy,ok2,hv,fun w23 x23=>?_⟩
   have hlen2:=P2.len
   have hle2:=P2.le
   have F14:=(F11.tr (zac h13)).tr P2.fr
   refine⟨y,py,cy,ok2,rfl,l2,left2,⟨zIQ F14 hb0 x23,RD.b P2.rd hb0r x23,by omega,by omega,fun hok=>?_⟩,fun t0 zay he hnod hl0 hsep hasc=>?_⟩
   ·obtain⟨hWy,hny,hTy⟩:=P2.good hok
    refine⟨hWy,by omega,fun S hS w'' fw=>?_⟩
    refine hTy (fun b=>S b\/b=b0) (fun b hb=>?_) w'' ((zb4 x23 (by intro d hd;simp at hd;exact .inl (.inr hd))).tr (fw.mono fun b hb=>.inl hb))
    have:=x13.lt b0 (by simp)
    have s1:=F11.size
    have s2:=h13.size
    rcases hb with hb|rfl
    ·have:=hS b hb;omega
    ·exact this
   ·rw[hr3] at hl0 hasc
    rcases zox he with⟨key,rfl,hkey,ht⟩|⟨key,val,rfl,hkey,hval,ht⟩|⟨key,m,rfl,hkey,_,_,ht⟩|⟨x,rfl,hx,ht,hnx⟩|⟨k,x,y',hk',rfl,hx,hy,ht,hnx⟩
    ·rw[ht] at hl0;simp at hl0
    ·rw[ht,List.append_assoc] at hl0
     exact absurd hl0.symm (znT (zM4 hkey) (zqP hkey) (by decide))
    ·rw[ht,List.append_assoc] at hl0
     exact absurd hl0.symm (znT (zNQ hkey) (zx5 hkey) (by decide))
    ·rw[ht] at hl0;simp at hl0
    ·rw[ht] at hl0
     simp only[List.cons_append,List.cons.injEq,true_and,List.append_assoc,List.nil_append] at hl0
     exact C2 k x y' zay hk' hx hy (by omega) hl0 (ziw hasc)
  refine⟨false,hv,fun h=>(by cases h),fun _ w13 x13=>?_⟩
  have h13:=zaa x13
  have inv:∀t0 zay,zfw t0=0->l=txt t0++zay->(∃key val,t0=.mk 2 key val 0 []/\lbB key=true/\lbB val=true/\l=key.data.toList++61::(val.data.toList++zay))\/(∃key m,t0=.mk 3 key emS m []/\unB key=true/\0<=m/\m<=1099511627776/\l=key.data.toList++62::61::(Lib.itoa m++zay)):=fun t0 zay he hl0=>by
   rcases zox he with⟨key,rfl,hkey,ht⟩|⟨key,val,rfl,hkey,hval,ht⟩|⟨key,m,rfl,hkey,hm1,hm2,ht⟩|⟨x,rfl,hx,ht,hnx⟩|⟨k,x,y',hk',rfl,hx,hy,ht,hnx⟩
   ·rw[ht] at hl0;exact absurd hl0 (hr _)
   ·exact .inl ⟨key,val,rfl,hkey,hval,by rw[hl0,ht];simp⟩
   ·exact .inr ⟨key,m,rfl,hkey,hm1,hm2,by rw[hl0,ht];simp⟩
   ·rw[ht] at hl0;exact absurd hl0 (hr2 _)
   ·rw[ht] at hl0;exact absurd hl0 (hr3 _)
  refine(zCs (Own.ext o11 h13) hl).mono fun v w14 ⟨f14,a,b,hv,hab,o14,hC⟩=>⟨hk _ _ (x13.lt _ (by simp)) f14,_,hv,fun w16 x16=>?_⟩
  have hla:a.length+b.length=l.length:=by rw[hab];simp
  have h16:=zaa x16
  have F14:=(F11.tr (zac h13)).tr f14
  refine(zlh (Own.ext o14 h16) (by omega) 62 62 rfl).mono fun v w17 ⟨f17,hor⟩=>⟨hk _ _ (x16.lt _ (by simp)) f17,?_⟩
  have F17:=(F14.tr (zac h16)).tr f17
  rcases hor with⟨r,hr4,hv,o17⟩|⟨hr4,hv,o17⟩
  ·refine⟨true,hv,fun _ w19 x19=>?_,fun h=>(by cases h)⟩
   have h19:=zaa x19
   have hlr:r.length+1=b.length:=by rw[hr4];simp
   have inv3:∀t0 zay,zfw t0=0->l=txt t0++zay->asc l->∃m,t0=.mk 3 (ofL a) emS m []/\0<=m/\m<=1099511627776/\r=61::(Lib.itoa m++zay):=fun t0 zay he hl0 hasc=>by
    rcases inv t0 zay he hl0 with⟨key,val,rfl,hkey,hval,h⟩|⟨key,m,rfl,hkey,hm1,hm2,h⟩
    ·obtain⟨_,hb⟩:=hC _ _ h hasc (zqP hkey) (zfT (by decide))
     rw[hr4] at hb
     simp at hb
    ·obtain⟨ha,hb⟩:=hC _ _ h hasc (zx5 hkey) (zfT (by decide))
     rw[hr4] at hb
     simp only[List.cons.injEq,true_and] at hb
     exact⟨m,by rw[ha,za4],hm1,hm2,hb⟩
   refine(zlh (Own.ext o17 h19) (by omega) 61 61 rfl).mono fun v w20 ⟨f20,hor⟩=>⟨hk _ _ (x19.lt _ (by simp)) f20,?_⟩
   have F20:=(F17.tr (zac h19)).tr f20
   rcases hor with⟨r2,hr5,hv,o20⟩|⟨hr5,hv,o20⟩
   ·refine⟨true,hv,fun h=>(by cases h),fun _ w22 x22=>?_⟩
    have h22:=zaa x22
    have hlr2:r2.length+1=r.length:=by rw[hr5];simp
    refine(zCs (Own.ext o20 h22) (by omega)).mono fun v w23 ⟨f23,a2,b2,hv,hab2,o23,hC2⟩=>⟨hk _ _ (x22.lt _ (by simp)) f23,_,hv,fun w25 x25=>?_⟩
    have h25:=zaa x25
    have hla2:a2.length+b2.length=r2.length:=by rw[hab2];simp
    have F25:=((F20.tr (zac h22)).tr f23).tr (zac h25)
    have ext25:Ext W0 w25:=F25.ext h0 (by intro b hb;omega)
    refine(zku (ofL a2) (by rw[zai];omega) w25 (g.ext ext25)).mono fun v w26 ⟨e26,m,ev,hv,hcase⟩=>⟨e26,m,ev,hv,?_⟩
    have F26:=F25.tr (zac e26)
    have o26:=Own.ext (Own.ext o23 h25) e26
    refine⟨fun ok kk key val nn q ql qc w'=>(kk=3/\key=ofL a/\val=(⟨#[]⟩:ByteArray)/\nn=m/\q=none/\ql=0/\qc=0)/\w'=w26/\(ok=true↔ev=.nilIface),⟨fun w37 h37=>?_,fun w37 x37=>?_⟩,?_⟩
    ·exact zE1 (by kernel_rfl) (hcase.elim (fun h=>.inl h.1) fun h=>.inr h.1) fun t ht=>⟨Ext.refl _,t,rfl,⟨rfl,rfl,rfl,rfl,rfl,rfl,rfl⟩,rfl,ht⟩
    ·exact zE1 (by kernel_rfl) (hcase.elim (fun h=>.inl h.1) fun h=>.inr h.1) fun t ht=>⟨Ext.refl _,t,rfl,⟨rfl,rfl,rfl,rfl,rfl,rfl,rfl⟩,rfl,ht⟩
    ·rintro ok kk key val nn q ql qc w36 ⟨⟨rfl,rfl,rfl,rfl,rfl,rfl,rfl⟩,rfl,hok⟩ w37 x37
     refine⟨.mk 3 (ofL a) (ofL []) nn [],none,0,ok,rfl,b2,left-1,⟨zIQ F26 hb0 x37,RD.b o26 hb0r x37,by omega,by omega,fun h=>⟨zAh (by omega) (by omega) (by simp) ?_,by rw[nod1];omega,fun S hS w'' _=>zpI⟩⟩,fun t0 zay he hnod hl0 hsep hasc=>?_⟩
     ·rcases hcase with⟨_,hp⟩|⟨⟨x,y,he⟩,_⟩
      ·exact zhY hp
      ·rw[hok.1 h] at he;cases he
     ·obtain⟨m',rfl,hm1,hm2,hr6⟩:=inv3 t0 zay he hl0 hasc
      rw[hr5] at hr6
      simp only[List.cons.injEq,true_and] at hr6
      have hasc2:asc r2:=by
       rw[hab,hr4,hr5] at hasc
       exact ziw (ziw (zt9 hasc))
      obtain⟨rfl,rfl⟩:=hC2 _ _ hr6 hasc2 (zI6 hm1) hsep
      have hp:=zbN ⟨hm1,hm2⟩
      rcases hcase with⟨h1,hp'⟩|⟨_,hp'⟩
      ·rw[za6,hp] at hp'
       cases hp'
       exact⟨hok.2 h1,rfl,rfl⟩
      ·rw[za6] at hp'
       exact absurd hp (hp' _)
   ·refine⟨false,hv,fun _ w22 x22=>?_,fun h=>(by cases h)⟩
    refine⟨zkn,none,0,false,rfl,no w20 w22 r F20 o20 (by omega) x22 fun t0 zay he hnod hl0 hsep hasc=>?_⟩
    obtain⟨m,_,_,_,h⟩:=inv3 t0 zay he hl0 hasc
    exact hr5 _ h
  ·refine⟨false,hv,fun h=>(by cases h),fun _ w19 x19=>?_⟩
   have h19:=zaa x19
   have inv2:∀t0 zay,zfw t0=0->l=txt t0++zay->asc l->∃val,t0=.mk 2 (ofL a) val 0 []/\lbB val=true/\b=61::(val.data.toList++zay):=fun t0 zay he hl0 hasc=>by
    rcases inv t0 zay he hl0 with⟨key,val,rfl,hkey,hval,h⟩|⟨key,m,rfl,hkey,hm1,hm2,h⟩
    ·obtain⟨ha,hb⟩:=hC _ _ h hasc (zqP hkey) (zfT (by decide))
     exact⟨val,by rw[ha,za4],hval,hb⟩
    ·obtain⟨_,hb⟩:=hC _ _ h hasc (zx5 hkey) (zfT (by decide))
     exact absurd hb (hr4 _)
   refine(zlh (Own.ext o17 h19) (by omega) 61 61 rfl).mono fun v w20 ⟨f20,hor⟩=>⟨hk _ _ (x19.lt _ (by simp)) f20,?_⟩
   have F20:=(F17.tr (zac h19)).tr f20
   rcases hor with⟨r2,hr5,hv,o20⟩|⟨hr5,hv,o20⟩
   ·refine⟨true,hv,fun h=>(by cases h),fun _ w22 x22=>?_⟩
    have h22:=zaa x22
    have hlr2:r2.length+1=b.length:=by rw[hr5];simp
    refine(zCs (Own.ext o20 h22) (by omega)).mono fun v w23 ⟨f23,a2,b2,hv,hab2,o23,hC2⟩=>⟨hk _ _ (x22.lt _ (by simp)) f23,_,hv,fun w25 x25=>?_⟩
    have hla2:a2.length+b2.length=r2.length:=by rw[hab2];simp
    refine⟨.mk 2 (ofL a) (ofL a2) 0 [],none,0,true,rfl,b2,left-1,⟨zIQ ((F20.tr (zac h22)).tr f23) hb0 x25,RD.b o23 hb0r x25,by omega,by omega,fun _=>⟨zAh (by omega) (by omega) (by omega) (i64 (by omega)),by rw[nod1];omega,fun S hS w'' _=>zpI⟩⟩,fun t0 zay he hnod hl0 hsep hasc=>?_⟩
    obtain⟨val,rfl,hval,hb⟩:=inv2 t0 zay he hl0 hasc
    rw[hr5] at hb
    simp only[List.cons.injEq,true_and] at hb
    have hasc2:asc r2:=by
     rw[hab,hr5] at hasc
     exact ziw (zt9 hasc)
    obtain⟨rfl,rfl⟩:=hC2 _ _ hb hasc2 (zqP hval) hsep
    exact⟨rfl,by rw[za4],rfl⟩
   ·refine⟨false,hv,fun _ w22 x22=>?_,fun h=>(by cases h)⟩
    refine⟨zkn,none,0,false,rfl,no w20 w22 b F20 o20 (by omega) x22 fun t0 zay he hnod hl0 hsep hasc=>?_⟩
    obtain⟨val,_,_,h⟩:=inv2 t0 zay he hl0 hasc
    exact hr5 _ h
mutual
theorem zuh:∀t:AT,nod t<=1048576->zL6 t=nod t
 |.mk k key val n xs,h => by
  unfold zL6 nod
  unfold nod at h
  rw[zA4 xs 1 (by omega)]
  omega
theorem zA4:∀(xs:List AT)(a:Int),0<=a/\a+zn0 xs<=1048576->zHx xs a=a+zn0 xs
 |[],a,_ => by unfold zHx zn0;simp
 |x::r,a,h => by
  unfold zHx zn0
  unfold zn0 at h
  have hx:=zuh x (by omega)
  rw[hx,wrap64 (by omega),zA4 r (a+nod x) (by omega)]
  omega
end
theorem zqw{t:AT}:znu t=0↔zL6 t<=60/\zfw t=0:=by
 unfold znu
 constructor
 ·intro h
  split at h
  ·cases h
  ·exact⟨by omega,h⟩
 ·rintro⟨h1,h2⟩
  rw[if_neg (by omega),h2]
theorem zFC{s:ByteArray}(h:lbB s=true):asc s.data.toList:=fun x hx=>by
 unfold lbB at h
 simp only[Bool.and_eq_true] at h
 have:=List.all_eq_true.1 h.2 (x.toNat:Int) (List.mem_map.2 ⟨x,hx,rfl⟩)
 unfold okC at this
 simp only[Bool.or_eq_true,Bool.and_eq_true,decide_eq_true_eq] at this
 omega
theorem un_asc{s:ByteArray}(h:unB s=true):asc s.data.toList:=by
 unfold unB at h
 simp only[Bool.or_eq_true,decide_eq_true_eq] at h
 rcases h with (h|h)|h<;>(subst h;unfold asc;decide)
theorem zI5{n:Int}(h:0<=n):asc (Lib.itoa n):=fun x hx=>by
 rcases Nat.lt_or_ge 57 x.toNat with h1|h1
 ·exact absurd hx (zBt h h1)
 ·omega
theorem zt8{a b:List UInt8}(ha:asc a)(hb:asc b):asc (a++b):=fun x hx=>(List.mem_append.1 hx).elim (ha x) (hb x)
theorem zjM{a:UInt8}{b:List UInt8}(ha:a.toNat<128)(hb:asc b):asc (a::b):=fun x hx=>(List.mem_cons.1 hx).elim (fun h=>h▸ha) (hb x)
theorem zG8:∀t:AT,zfw t=0->asc (txt t):=by
 intro t
 induction t using AT.ind with
 |h k key val n xs ih =>
  intro he
  rcases zox he with⟨key,h,hkey,ht⟩|⟨key,val,h,hkey,hval,ht⟩|⟨key,m,h,hkey,hm,_,ht⟩|⟨x,h,hx,ht,hnx⟩|⟨k,x,y',hk',h,hx,hy,ht,hnx⟩
  ·rw[ht];exact zjM (by decide) (zFC hkey)
  ·rw[ht];exact zt8 (zFC hkey) (zjM (by decide) (zFC hval))
  ·rw[ht];exact zt8 (un_asc hkey) (zjM (by decide) (zjM (by decide) (zI5 hm)))
  ·injection h with _ _ _ _ h5
   rw[ht];exact zjM (by decide) (ih x (by rw[h5];simp) hx)
  ·injection h with _ _ _ _ h5
   rw[ht]
   refine zjM (by decide) (zt8 (ih x (by rw[h5];simp) hx) (zjM (by split<;>decide) (zt8 (ih y' (by rw[h5];simp) hy) (zjM (by decide) (fun z hz=>by cases hz)))))
theorem zKv(t:AT)(p:Option Addr)(c:Nat)(w:World)(hT:IsT w t p c)(hW:WfA t)(hn:nod t<=1048576)(g:GP w):FnP Tryz.prog zkp #[av t p c] w fun v w'=>Ext w w'/\((znu t≠0/\v=.tuple #[.string emS,.int .i64 (znu t)])\/(znu t=0/\v=.tuple #[.string (ofL (txt t)),.int .i64 0])):=by
 refine zzB t.k t.key t.val t.n p t.xs.length c w _ fun b0 _ w1 h1=>(zp7 t p c w1 (hT.ext h1) hW).mono fun v w2 ⟨e2,hv⟩=>⟨e2,_,hv,fun hne w4 h4=>⟨h4,.inl ⟨hne,rfl⟩⟩,fun he w4 h4=>?_⟩
 exact(text_k t p c w4 (hT.ext h4) (zqw.1 he).2 (by omega) (g.ext h4)).mono fun v w5 ⟨e5,hv⟩=>⟨e5,_,hv,fun w7 h7=>⟨h7,.inr ⟨he,rfl⟩⟩⟩
theorem znt(w:World):IsT w zkn none 0:=zpI
theorem zr1:WfA zkn:=by
 unfold WfA
 exact⟨i64 (by omega),by decide,by decide,i64 (by omega),by simp,by unfold WfL;trivial⟩
theorem zyJ(s:ByteArray)(w:World)(g:GB w):FnP Tryz.prog zko #[.string s] w fun v w'=>Ext w w'/\∃t p c e,v=.tuple #[av t p c,.int .i64 e]/\WfA t/\(∀S:Nat->Prop,(∀b,S b->b<w.heap.size)->∀w'',Fr S w' w''->IsT w'' t p c) /\
  ((e≠0/\t=zkn/\p=none/\c=0)\/(e=0/\znu t=0/\nod t<=60/\s=ofL (txt t)/\s.size<=2000))/\(∀t0,znu t0=0->nod t0<=1048576->s=ofL (txt t0)->s.size<=2000->e=0/\t=t0):=by
 refine zzA s w _ fun b0 hb0=>⟨fun hbig w1 h1=>?_,fun hsm w1 x1=>?_⟩
 ·exact⟨h1,zkn,none,0,2,rfl,zr1,fun _ _ _ _=>znt _,.inl ⟨by decide,rfl,rfl,rfl⟩,fun t0 _ _ _ h=>by omega⟩
 have h1:=zaa x1
 refine zbc (by intro v hv;simp at hv;rcases hv with rfl|rfl<;>rfl) fun w2 o2 e2 w3 x3=>?_
 have h3:=zaa x3
 have hw3:Ext w w3:=(h1.trans e2).trans h3
 have o3:RD w1.heap.size w3 w1.heap.size s.data.toList 60:=by
  have:=Own.ext (o2 w1.heap.size (Nat.le_refl _)) h3
  simpa[RD,za4] using this
 have hb1:b0<w1.heap.size:=x1.lt b0 (by simp)
 have s13:w1.heap.size<=w3.heap.size:=Nat.le_trans e2.size h3.size
 refine(ask_k 60 w w3 w1.heap.size w1.heap.size 60 s.data.toList (by omega) g hw3 h1.size o3 (by rw[zqj];omega)).mono fun v w4 ⟨t,p,c,ok,hv,l',left',P,C⟩=>⟨zj0 P.fr (by intro b hb;simp at hb;subst hb;exact⟨by omega,by omega⟩),t.k,t.key,t.val,t.n,p,t.xs.length,c,ok,hv,fun b13 hb13=>⟨fun hno w14 x14=>?_,fun hok w14 h14=>?_⟩⟩
 ·have hw4:Ext w w4:=P.fr.ext hw3 (by intro b hb;have:=h1.size;omega)
  refine⟨zax x14 hw4 (by intro d hd;simp at hd;omega),zkn,none,0,3,rfl,zr1,fun _ _ _ _=>znt _,.inl ⟨by decide,rfl,rfl,rfl⟩,fun t0 he hn hs _=>?_⟩
  obtain⟨h5,h6⟩:=zqw.1 he
  rw[zuh t0 hn] at h5
  have:=C t0 [] h6 (by omega) (by rw[hs,za6,List.append_nil]) (.inl rfl) (by rw[hs,za6];exact zG8 t0 h6)
  rw[hno] at this
  exact absurd this.1 (by simp)
 ·have hw4:Ext w w4:=P.fr.ext hw3 (by intro b hb;have:=h1.size;omega)
  obtain⟨hWt,hnt,hTt⟩:=P.good hok
  have hT14:IsT w14 t p c:=hTt (fun _=>False) (fun _ h=>h.elim) w14 (zac h14)
  have hcomp:∀t0,znu t0=0->nod t0<=1048576->s=ofL (txt t0)->t=t0:=fun t0 he hn hs=>by
   obtain⟨h5,h6⟩:=zqw.1 he
   rw[zuh t0 hn] at h5
   exact(C t0 [] h6 (by omega) (by rw[hs,za6,List.append_nil]) (.inl rfl) (by rw[hs,za6];exact zG8 t0 h6)).2.1
  have hgp:GP w14:=⟨(g.ext (hw4.trans h14)).pow⟩
  refine(zKv t p c w14 hT14 hWt (by omega) hgp).mono fun v w15 ⟨e15,hor⟩=>?_
  have fin:∀w18,zag [b0] [] w4 w18->Ext w w18/\∀S:Nat->Prop,(∀b,S b->b<w.heap.size)->∀w'',Fr S w18 w''->IsT w'' t p c:=fun w18 x18=>⟨zax x18 hw4 (by intro d hd;simp at hd;omega),fun S hS w'' fw=>hTt (fun b=>S b\/b=b0) (fun b hb=>by have s1:=hw3.size;rcases hb with hb|hb;(· have:=hS b hb;omega);omega) w'' ((zb4 x18 (by intro d hd;simp at hd;exact .inl (.inr hd))).tr (fw.mono fun b hb=>.inl hb))⟩
  rcases hor with⟨hne,hv⟩|⟨he0,hv⟩
  ·refine⟨e15,_,_,hv,fun _ w18 x18=>⟨(fin w18 x18).1,zkn,none,0,3,rfl,zr1,fun _ _ _ _=>znt _,.inl ⟨by decide,rfl,rfl,rfl⟩,fun t0 he hn hs _=>?_⟩,fun h=>absurd h.1 hne⟩
   have:=hcomp t0 he hn hs
   subst this
   exact absurd he hne
  ·refine⟨e15,_,_,hv,fun hbad w18 x18=>⟨(fin w18 x18).1,zkn,none,0,3,rfl,zr1,fun _ _ _ _=>znt _,.inl ⟨by decide,rfl,rfl,rfl⟩,fun t0 he hn hs _=>?_⟩,fun hgd w18 x18=>⟨(fin w18 x18).1,t,p,c,0,rfl,hWt,(fin w18 x18).2,.inr ⟨rfl,he0,by omega,hgd.2.symm,by omega⟩,fun t0 he hn hs _=>⟨rfl,hcomp t0 he hn hs⟩⟩⟩
   have:=hcomp t0 he hn hs
   subst this
   exact hbad.elim (fun h=>absurd rfl h) fun h=>absurd hs.symm h
abbrev Bs:=List UInt8
def ub(x:Int):UInt8:=UInt8.ofNat (x%256).toNat
theorem zGg{n:Int}(h:-1099511627776<=n/\n<0):Lib.parseIntB 64 (Lib.itoa n)=.ok n:=by
 unfold Lib.itoa
 rw[if_pos (by omega),Lib.parseIntB_minus]
 unfold Lib.parseUintB
 rw[if_neg (zqs _),show(2:Nat)^64-1=18446744073709551615 by decide,zxA _ (by omega)]
 show(if (2:Nat)^(64-1)<n.natAbs then _ else _)=_
 rw[if_neg (by
  have:(2:Nat)^(64-1)=9223372036854775808:=by decide
  omega)]
 congr 1;omega
theorem zhX{n:Int}(h:-1099511627776<=n/\n<=1099511627776):Lib.parseIntB 64 (Lib.itoa n)=.ok n:=by
 rcases Int.lt_or_le n 0 with h0|h0
 ·exact zGg ⟨h.1,h0⟩
 ·exact zbN ⟨h0,h.2⟩
theorem zI4{n:Int}:∀c∈Lib.itoa n,c=45\/(48<=c.toNat/\c.toNat<=57):=fun c hc=>by
 unfold Lib.itoa at hc
 split at hc
 ·rcases List.mem_cons.1 hc with h|h
  ·exact .inl h
  ·exact .inr (zcP _ c h)
 ·exact .inr (zcP _ c hc)
theorem zCI(l:List UInt8):Lib.atoiAll l=Lib.parseIntB 64 l:=by
 unfold Lib.atoiAll Lib.parseIntB
 cases l with
 |nil => rfl
 |cons c r =>
  simp only[Lib.parseUintB_64]
  rfl
theorem ztj(s:ByteArray)(hs:s.size<=281474976710656)(w:World)(g:GB w):FnP Tryz.prog zdB #[.string s] w fun v w'=>Ext w w'/\∃(n:Int) (ev:Value),v=.tuple #[.int .i64 n,ev] /\
  ((ev=.nilIface/\Lib.parseIntB 64 s.data.toList=.ok n)\/((∃a b,ev=.iface a b)/\∀m,Lib.parseIntB 64 s.data.toList≠.ok m)):=by
 have en:zmc Tryz.prog zdB:=fun args w=>Tryz.call175 args w
 rw[<-zCI]
 cases hp:Lib.atoiAll s.data.toList with
 |ok v =>
  refine⟨en,(Tryz.strconv_Atoi_ok s (by omega) v hp w).mono fun e w' ⟨he,hw⟩=>⟨_,he,?_,v,.nilIface,rfl,.inl ⟨rfl,rfl⟩⟩⟩
  rcases hw with rfl|⟨t,rfl⟩
  ·exact Ext.refl _
  ·exact Lib.bytesWorld_below w 5 t
 |range =>
  obtain⟨ev,h1,h2⟩:=g.eRan
  exact⟨en,(Tryz.strconv_Atoi_range s hs hp ev w (zsf h1) h2).mono fun e w' ⟨N,he,_,_,hb⟩=>⟨_,he,hb,_,_,rfl,.inr ⟨⟨_,_,rfl⟩,fun m h=>by cases h⟩⟩⟩
 |_ =>
  obtain⟨ev,h1,h2⟩:=g.eSyn
  exact⟨en,(Tryz.strconv_Atoi_syntax s hs hp ev w (zsf h1) h2).mono fun e w' ⟨N,he,_,_,hb⟩=>⟨_,he,hb,_,_,rfl,.inr ⟨⟨_,_,rfl⟩,fun m h=>by cases h⟩⟩⟩
theorem zoQ(n:Int)(h:-9223372036854775808<=n/\n<=9223372036854775807)(w:World)(g:GB w):FnP Tryz.prog zbK #[.int .i64 n] w fun v w'=>Ext w w'/\v=.string (ofL (Lib.itoa n)) :=
 ⟨fun args w=>Tryz.call105 args w,(Tryz.strconv_Itoa n h.1 h.2 w g.pow).mono fun e w' ⟨he,k,os,hw⟩=>⟨_,he,by rw[hw];exact zkw,rfl⟩⟩
structure Jb where
 user:ByteArray
 prio:Int
 nd:Nd
 ask:AT
 aft:List Int
abbrev jv(j:Jb)(pa:Option Addr)(ca:Nat)(pf:Option Addr)(cf:Nat):Value:=.agg #[.string j.user,.int .i64 j.prio,.int .i64 j.nd.c,.int .i64 j.nd.m,.int .i64 j.nd.g,.int .i64 j.ask.k,.string j.ask.key,.string j.ask.val,.int .i64 j.ask.n,.slice pa j.ask.xs.length ca,.slice pf j.aft.length cf]
def IsJ(w:World)(j:Jb)(pa:Option Addr)(ca:Nat)(pf:Option Addr):Prop:=IsT w j.ask pa ca/\zes .i64 w pf j.aft
theorem IsJ.ext{w w':World}{j:Jb}{pa:Option Addr}{ca:Nat}{pf:Option Addr}(h:IsJ w j pa ca pf)(e:Ext w w'):IsJ w' j pa ca pf:=⟨h.1.ext e,h.2.ext e⟩
structure WfJ(j:Jb):Prop where
 user:j.user.size<=9223372036854775807
 prio:InR .i64 j.prio
 nd:rng j.nd
 ask:WfA j.ask
 len:j.aft.length<=9223372036854775807
 aft:∀x∈j.aft,InR .i64 x
def upA:Int->List Int->Prop
 |_,[] => True
 |a,x::r => 1<=x/\x<=60/\a<x/\upA x r
theorem zCn{l:List Int}:∀{a:Int}(k:Nat),upA a l->upA a (l.take k):=by
 induction l with
 |nil => intro a k _;simp[upA]
 |cons x r ih =>
  intro a k h
  cases k with
  |zero => simp[upA]
  |succ k => exact⟨h.1,h.2.1,h.2.2.1,ih k h.2.2.2⟩
def zwL(a:Int)(l:List Int):Int:=l.getLast?.getD a
theorem zp3{x:Int}:∀{l:List Int}{a:Int},upA a (l++[x])↔upA a l/\1<=x/\x<=60/\zwL a l<x
 |[],a => by simp[upA,zwL]
 |y::r,a => by
  have ih:=zp3 (l:=r) (a:=y) (x:=x)
  simp only[List.cons_append,upA,ih]
  have:zwL a (y::r)=zwL y r:=by
   unfold zwL
   cases r with
   |nil => rfl
   |cons z r => simp[List.getLast?_cons]
  rw[this]
  constructor
  ·rintro⟨h1,h2,h3,h4,h5⟩;exact⟨⟨h1,h2,h3,h4⟩,h5⟩
  ·rintro⟨⟨h1,h2,h3,h4⟩,h5⟩;exact⟨h1,h2,h3,h4,h5⟩
theorem zhv{l:List Int}:∀{a:Int},upA a l->∀x∈l,1<=x/\x<=60:=by
 induction l with
 |nil => intro a _ x hx;cases hx
 |cons y r ih =>
  intro a h x hx
  rcases List.mem_cons.1 hx with rfl|hx
  ·exact⟨h.1,h.2.1⟩
  ·exact ih h.2.2.2 x hx
structure okJ(j:Jb):Prop where
 user:lbB j.user=true
 prio:-1000<=j.prio/\j.prio<=1000
 nd:okN j.nd
 ask:znu j.ask=0
 len:j.aft.length<=8
 up:upA 0 j.aft
theorem zBu(j:Jb)(pa:Option Addr)(ca:Nat)(pf:Option Addr)(cf:Nat)(w:World)(hJ:IsJ w j pa ca pf)(hW:WfJ j):FnP Tryz.prog zdK #[jv j pa ca pf cf] w fun v w'=>Ext w w'/\∃e:Int,v=.int .i64 e/\(e=0↔okJ j):=by
 refine zo0 j.user j.prio j.nd.c j.nd.m j.nd.g j.ask.k j.ask.key j.ask.val j.ask.n pa j.ask.xs.length ca pf j.aft.length cf w _ fun b0 hb0 w1 h1=>(zeK j.user hW.user w1).mono fun v w2 ⟨e2,hv⟩=>⟨e2,_,hv,fun hno w4 h4=>?_,fun hyes=>⟨fun hbad w4 h4=>?_,fun hpr w4 h4=>?_⟩⟩
 ·exact⟨h4,3,rfl,by simp,fun h=>by rw[h.user] at hno;cases hno⟩
 ·exact⟨h4,4,rfl,by simp,fun h=>by have:=h.prio;omega⟩
 refine(ze0 j.nd w4).mono fun v w5 ⟨e5,hv⟩=>⟨e5,_,hv,fun hne w7 h7=>⟨h7,_,rfl,fun h=>absurd h hne,fun h=>absurd (zbm.2 h.nd) hne⟩,fun hz w7 h7=>?_⟩
 refine(zp7 j.ask pa ca w7 (hJ.1.ext h7) hW.ask).mono fun v w8 ⟨e8,hv⟩=>⟨e8,_,hv,fun hne w10 h10=>⟨h10,_,rfl,fun h=>absurd h hne,fun h=>absurd h.ask hne⟩,fun hz2=>⟨fun hbig w10 h10=>⟨h10,2,rfl,by simp,fun h=>by have:=h.len;omega⟩,fun hle=>?_⟩⟩
 refine⟨fun last k w'=>w'=w/\0<=k/\k<=j.aft.length/\upA 0 (j.aft.take k.toNat)/\last=zwL 0 (j.aft.take k.toNat),fun _ k _=>(j.aft.length-k).toNat,⟨rfl,by omega,by omega,by simp[upA],by simp[zwL]⟩,?_⟩
 rintro last k w' ⟨rfl,hk0,hk1,hup,rfl⟩
 have all:∀e:Int,(upA 0 j.aft->False)->e≠0->(e=0↔okJ j):=fun e h he=>⟨fun h'=>absurd h' he,fun h'=>(h h'.up).elim⟩
 refine⟨fun hlt=>?_,fun hge w14 h14=>⟨h14,0,rfl,fun _=>⟨hyes,⟨by omega,by omega⟩,zbm.1 hz,hz2,by omega,by rw[List.take_of_length_le (by omega)] at hup;exact hup⟩,fun _=>rfl⟩⟩
 have g:=zes.idx hJ.2 hk0 hlt
 have hget:j.aft.take (k.toNat+1)=j.aft.take k.toNat++[j.aft.getD k.toNat 0]:=by
  rw[List.take_succ_eq_append_getElem (by omega)]
  congr 2
  simp[List.getD_eq_getElem?_getD,show k.toNat<j.aft.length by omega]
 refine⟨fun hq=>zal g (zah.2 hq),hk0,hlt,_,g,fun hbad w15 h15=>⟨h15,4,rfl,all 4 (fun h=>?_) (by decide)⟩,fun hin=>⟨fun hle2 w15 h15=>⟨h15,6,rfl,all 6 (fun h=>?_) (by decide)⟩,fun hgt=>⟨i64 (by omega),⟨rfl,by omega,by omega,?_,?_⟩,by simp only[];omega⟩⟩⟩
 ·have:=zCn (k.toNat+1) h
  rw[hget,zp3] at this
  omega
 ·have:=zCn (k.toNat+1) h
  rw[hget,zp3] at this
  omega
 ·rw[show(k+1).toNat=k.toNat+1 by omega,hget,zp3]
  exact⟨hup,hin.1,hin.2,hgt⟩
 ·rw[show(k+1).toNat=k.toNat+1 by omega,hget]
  simp[zwL]
def zr3(l:List Int):List UInt8:=if l=[] then [45] else Lib.join (l.map Lib.itoa) [44]
theorem zEn{l:List Int}(h:l.length<=8)(hr:∀x∈l,InR .i64 x):(zr3 l).length<=200:=by
 unfold zr3
 split
 ·simp
 ·have:=ziI (c:=44) (m:=21) (l.map Lib.itoa) (fun y hy=>by
   obtain⟨x,hx,rfl⟩:=List.mem_map.1 hy
   have:=zOh (hr x hx)
   exact Lib.itoa_length_le x this.1 this.2)
  rw[List.length_map] at this
  omega
theorem zLS(l:List Int)(p:Option Addr)(c:Nat)(w:World)(hp:zes .i64 w p l)(h8:l.length<=8)(hr:∀x∈l,InR .i64 x)(g:GB w):FnP Tryz.prog zlp #[.slice p l.length c] w fun v w'=>Ext w w'/\v=.string (ofL (zr3 l)):=by
 refine zxo p l.length c w _ ⟨fun h0 w0 e0=>⟨e0,?_⟩,fun hne=>?_⟩
 ·have:l=[]:=List.eq_nil_of_length_eq_zero (by omega)
  subst this
  rfl
 have hl:l≠[]:=fun h=>hne (by rw[h];rfl)
 refine⟨fun out outl outc k w'=>Ext w w'/\0<=k/\k<=l.length/\Own w.heap.size w' zas 1 out outl outc (((l.take k.toNat).map Lib.itoa).map fun y=>Value.string (ofL y)),fun _ _ _ k _=>(l.length-k).toNat,⟨Ext.refl _,by omega,by omega,Own.nil⟩,?_⟩
 rintro out outl outc k w3 ⟨x3,hk0,hk1,o3⟩
 refine⟨fun hlt=>?_,fun hge w4 h4=>?_⟩
 ·have gc:=zes.idx (hp.ext x3) hk0 hlt
  have hol:=o3.leni
  have hm:=hr _ (zat l 0 (i:=k.toNat) (by omega))
  refine⟨fun hq=>zal gc (zah.2 hq),hk0,hlt,_,gc,fun w5 h5=>(zoQ _ (zOh hm) w5 ((g.ext x3).ext h5)).mono fun v w6 ⟨e6,hv⟩=>⟨e6,_,hv,?_⟩⟩
  simp only[List.length_map,List.length_take] at hol
  refine push za9 (by omega) o3 x3.size rfl (by intro u hu;simp[Value.cells] at hu;subst hu;rfl) (by omega) (by omega) (by omega) fun p' c' w' o' g' _=>⟨i64 (by omega),⟨g'.ext x3 o3,by omega,by omega,?_⟩,by simp only[];omega⟩
  rw[show(k+1).toNat=k.toNat+1 by omega,List.take_succ_eq_append_getElem (by omega),List.map_append,List.map_append]
  simpa[Value.cells,List.getD_eq_getElem?_getD,show k.toNat<l.length by omega] using o'
 ·have hkl:k.toNat=l.length:=by omega
  rw[hkl,List.take_length] at o3
  refine(zD1 (l.map Lib.itoa) 44 out outl outc w.heap.size zas w4 (o3.ext h4) (by simpa using hl) ?_).mono fun v w5 ⟨e5,hv⟩=>⟨e5,_,hv,fun w7 h7=>⟨x3.trans h7,?_⟩⟩
  ·have:=zEn h8 hr
   unfold zr3 at this
   rw[if_neg hl] at this
   omega
  ·unfold zr3;rw[if_neg hl]
def jps(j:Jb):List (List UInt8):=[j.user.data.toList,Lib.itoa j.prio,zbC j.nd,zr3 j.aft,txt j.ask]
def jtx(j:Jb):List UInt8:=Lib.join (jps j) [32]
theorem okJ.rng{j:Jb}(h:okJ j):∀x∈j.aft,InR .i64 x:=fun x hx=>by have:=zhv h.up x hx;exact i64 (by omega)
theorem zKa{x:Nd}(hx:rng x):(zbC x).length<=78:=by
 unfold zbC
 split
 ·simp
 ·exact zBv hx
theorem zFz{j:Jb}(h:okJ j)(hn:nod j.ask<=1048576):∀y∈jps j,y.length<=3000:=by
 have h1:=zdm h.user
 have h2:=Lib.itoa_length_le j.prio (by have:=h.prio;omega) (by have:=h.prio;omega)
 have h3:=zKa h.nd.rng
 have h4:=zEn h.len h.rng
 obtain⟨h5,h6⟩:=zqw.1 h.ask
 have h7:=zvu j.ask h6
 rw[zuh j.ask hn] at h5
 intro y hy
 unfold jps at hy
 simp only[List.mem_cons,List.not_mem_nil,or_false] at hy
 rcases hy with rfl|rfl|rfl|rfl|rfl
 ·rw[zqj];omega
 ·omega
 ·omega
 ·omega
 ·omega
theorem zzr(j:Jb)(pa:Option Addr)(ca:Nat)(pf:Option Addr)(cf:Nat)(w:World)(hJ:IsJ w j pa ca pf)(hW:WfJ j)(hn:nod j.ask<=1048576)(g:GB w):FnP Tryz.prog zeG #[jv j pa ca pf cf] w fun v w'=>Ext w w'/\∃(t:ByteArray) (e:Int),v=.tuple #[.string t,.int .i64 e]/\(e=0↔okJ j)/\(e≠0->t=emS)/\(e=0->t=ofL (jtx j)):=by
 refine zzM j.user j.prio j.nd.c j.nd.m j.nd.g j.ask.k j.ask.key j.ask.val j.ask.n pa j.ask.xs.length ca pf j.aft.length cf w _ fun b0 hb0 w1 h1=>(zBu j pa ca pf cf w1 (hJ.ext h1) hW).mono fun v w2 ⟨e2,e,hv,he⟩=>⟨e2,e,hv,fun hne w4 h4=>⟨h4,emS,e,rfl,he,fun _=>rfl,fun h=>absurd h hne⟩,fun hz w4 h4=>?_⟩
 have ho:=he.1 hz
 refine(zFS j.nd w4 (g.ext h4)).mono fun v w5 ⟨e5,t5,f5,hv,hf,_,ht5⟩=>⟨e5,t5,f5,hv,fun w8 h8=>?_⟩
 have ht5:=ht5 (hf.2 ho.nd)
 refine(zKv j.ask pa ca w8 (hJ.1.ext h8) hW.ask hn ⟨(g.ext h8).pow⟩).mono fun v w9 ⟨e9,hor⟩=>?_
 rcases hor with⟨hne,_⟩|⟨_,hv⟩
 ·exact absurd ho.ask hne
 refine⟨e9,_,_,hv,fun w12 h12=>(zoQ j.prio (zOh hW.prio) w12 (g.ext h12)).mono fun v w13 ⟨e13,hv⟩=>⟨e13,_,hv,fun w15 h15=>(zLS j.aft pf cf w15 (hJ.2.ext h15) ho.len ho.rng (g.ext h15)).mono fun v w16 ⟨e16,hv⟩=>⟨e16,_,hv,fun w18 x18=>?_⟩⟩⟩
 have h18:=zaa x18
 refine zce za9 [.string j.user,.string (ofL (Lib.itoa j.prio)),.string t5,.string (ofL (zr3 j.aft)),.string (ofL (txt j.ask))] rfl rfl (by intro v hv;simp at hv;rcases hv with rfl|rfl|rfl|rfl|rfl<;>rfl) (by omega) (by omega) fun w19 o19 e19=>⟨e19,_,_,_,rfl,fun w23 h23=>?_⟩
 have o23:=(o19 w18.heap.size (Nat.le_refl _)).ext h23
 have hrow:([.string j.user,.string (ofL (Lib.itoa j.prio)),.string t5,.string (ofL (zr3 j.aft)),.string (ofL (txt j.ask))]:List Value).flatMap (fun v=>v.cells.toList)=(jps j).map fun l=>Value.string (ofL l):=by
  rw[ht5]
  simp[Value.cells,jps,za4]
 rw[hrow] at o23
 refine(zD1 (jps j) 32 _ _ _ _ zas w23 o23 (by simp[jps]) ?_).mono fun v w24 ⟨e24,hv⟩=>⟨e24,_,hv,fun w26 h26=>⟨(h18.trans e19).trans h26,_,0,rfl,⟨fun _=>ho,fun _=>rfl⟩,fun h=>absurd rfl h,fun _=>rfl⟩⟩
 have:=ziI (c:=32) (m:=3000) (jps j) (zFz ho hn)
 simp only[jps,List.length_cons,List.length_nil] at this ⊢
 omega
theorem zuI{c d:UInt8}:∀(L:List (List UInt8)),c∈Lib.join L [d]->c=d\/∃y∈L,c∈y
 |[],h => by rw[Lib.join_nil] at h;cases h
 |[x],h => by rw[Lib.join_one] at h;exact .inr ⟨x,List.mem_cons_self ..,h⟩
 |x::y::L,h => by
  have e:Lib.join (x::y::L) [d]=x++d::Lib.join (y::L) [d]:=by
   rw[Lib.join_cons,Lib.join_cons]
   simp[Lib.joinTail]
  rw[e] at h
  rcases List.mem_append.1 h with h|h
  ·exact .inr ⟨x,List.mem_cons_self ..,h⟩
  ·rcases List.mem_cons.1 h with h|h
   ·exact .inl h
   ·rcases zuI (y::L) h with h|⟨z,hz,h⟩
    ·exact .inl h
    ·exact .inr ⟨z,List.mem_cons_of_mem _ hz,h⟩
theorem zBD{s:ByteArray}(h:lbB s=true){c:UInt8}(hc:okC (c.toNat:Int)=false):c∉s.data.toList:=fun hm=>by
 unfold lbB at h
 simp only[Bool.and_eq_true] at h
 have:=List.all_eq_true.1 h.2 (c.toNat:Int) (List.mem_map.2 ⟨c,hm,rfl⟩)
 rw[hc] at this;cases this
theorem un_not{s:ByteArray}(h:unB s=true){c:UInt8}(h1:c∉zDN.data.toList)(h2:c∉memS.data.toList)(h3:c∉gpuS.data.toList):c∉s.data.toList:=by
 unfold unB at h
 simp only[Bool.or_eq_true,decide_eq_true_eq] at h
 rcases h with (h|h)|h<;>(subst h;assumption)
theorem zmH{n:Int}{c:UInt8}(h1:c≠45)(h2:c.toNat<48\/57<c.toNat):c∉Lib.itoa n:=fun hm=>by
 rcases zI4 c hm with h|h
 ·exact h1 h
 ·omega
theorem nd_not{x:Nd}:(32:UInt8)∉zbC x:=fun hm=>by
 unfold zbC at hm
 split at hm
 ·simp at hm
 ·rcases zuI _ hm with h|⟨y,hy,h⟩
  ·exact absurd h (by decide)
  ·obtain⟨i,hi,rfl⟩:=List.mem_map.1 hy
   have hi:=(zqN hi).1
   unfold zhs at h
   rcases List.mem_append.1 h with h|h
   ·revert h
    match i,hi with
    |0,_ => decide
    |1,_ => decide
    |2,_ => decide
   ·rcases List.mem_cons.1 h with h|h
    ·exact absurd h (by decide)
    ·exact zmH (by decide) (by decide) h
theorem zLR{l:List Int}:(32:UInt8)∉zr3 l:=fun hm=>by
 unfold zr3 at hm
 split at hm
 ·simp at hm
 ·rcases zuI _ hm with h|⟨y,hy,h⟩
  ·exact absurd h (by decide)
  ·obtain⟨x,hx,rfl⟩:=List.mem_map.1 hy
   exact zmH (by decide) (by decide) h
theorem zLZ:∀t:AT,zfw t=0->(32:UInt8)∉txt t:=by
 intro t
 induction t using AT.ind with
 |h k key val n xs ih =>
  intro he hm
  rcases zox he with⟨key,h,hkey,ht⟩|⟨key,val,h,hkey,hval,ht⟩|⟨key,m,h,hkey,hm0,_,ht⟩|⟨x,h,hx,ht,hnx⟩|⟨k,x,y',hk',h,hx,hy,ht,hnx⟩
  ·rw[ht] at hm
   rcases List.mem_cons.1 hm with h|h
   ·exact absurd h (by decide)
   ·exact zBD hkey (by decide) h
  ·rw[ht] at hm
   rcases List.mem_append.1 hm with h|h
   ·exact zBD hkey (by decide) h
   ·rcases List.mem_cons.1 h with h|h
    ·exact absurd h (by decide)
    ·exact zBD hval (by decide) h
  ·rw[ht] at hm
   rcases List.mem_append.1 hm with h|h
   ·exact un_not hkey (by decide) (by decide) (by decide) h
   ·simp only[List.mem_cons] at h
    rcases h with h|h|h
    ·exact absurd h (by decide)
    ·exact absurd h (by decide)
    ·exact zmH (by decide) (by decide) h
  ·injection h with _ _ _ _ h5
   rw[ht] at hm
   rcases List.mem_cons.1 hm with h|h
   ·exact absurd h (by decide)
   ·exact ih x (by rw[h5];simp) hx h
  ·injection h with _ _ _ _ h5
   rw[ht] at hm
   simp only[List.mem_cons,List.mem_append,List.not_mem_nil,or_false] at hm
   rcases hm with h|h|h|h|h
   ·exact absurd h (by decide)
   ·exact ih x (by rw[h5];simp) hx h
   ·rcases hk' with rfl|rfl
    ·exact absurd h (by decide)
    ·exact absurd h (by decide)
   ·exact ih y' (by rw[h5];simp) hy h
   ·exact absurd h (by decide)
theorem zM0{j:Jb}(h:okJ j):∀y∈jps j,(32:UInt8)∉y:=by
 intro y hy
 unfold jps at hy
 simp only[List.mem_cons,List.not_mem_nil,or_false] at hy
 rcases hy with rfl|rfl|rfl|rfl|rfl
 ·exact zBD h.user (by decide)
 ·exact zmH (by decide) (by decide)
 ·exact nd_not
 ·exact zLR
 ·exact zLZ _ (zqw.1 h.ask).2
theorem zAP{l:List Int}(h:zr3 l=[45]):l=[]\/∃x,l=[x]/\Lib.itoa x=[45]:=by
 unfold zr3 at h
 split at h
 ·rename_i h0;exact .inl h0
 ·cases l with
  |nil => exact .inl rfl
  |cons x r =>
   cases r with
   |nil => exact .inr ⟨x,rfl,by simpa[Lib.join_one] using h⟩
   |cons y r =>
    simp only[List.map_cons] at h
    rw[Lib.join_cons] at h
    have hx:Lib.itoa x≠[]:=by
     unfold Lib.itoa
     split
     ·simp
     ·exact zqs _
    have hy:Lib.joinTail [44] (Lib.itoa y::r.map Lib.itoa)≠[]:=by
     intro h0
     have:=Lib.joinTail_length [44] (Lib.itoa y::r.map Lib.itoa)
     rw[h0] at this
     simp at this
     omega
    have:=congrArg List.length h
    rw[List.length_append] at this
    have h1:=List.length_pos_iff.2 hx
    have h2:=List.length_pos_iff.2 hy
    simp at this
    omega
def zdQ:Jb:=⟨emS,0,zbh,zkn,[]⟩
theorem zje:WfJ zdQ:=⟨by decide,i64 (by decide),fun i hi=>by
 match i,hi with
 |0,_ => simp[zcv,zdQ,zbh]
 |1,_ => simp[zcv,zdQ,zbh]
 |2,_ => simp[zcv,zdQ,zbh],zr1,by decide,fun x hx => by cases hx⟩
theorem zp5(w:World):IsJ w zdQ none 0 none:=⟨znt w,zaw.nil⟩
structure JT(s:ByteArray)(j:Jb):Prop where
 ok:okJ j
 nod:nod j.ask<=1048576
 is:s=ofL (jtx j)
 ask:(txt j.ask).length<=2000
theorem zg3{s:ByteArray}{j:Jb}(h:JT s j):Lib.countB s (one 32)=4/\Lib.splitB (one 32) 0 4 s=(jps j).map ofL:=by
 have:=zdV (c:=32) [Lib.itoa j.prio,zbC j.nd,zr3 j.aft,txt j.ask] j.user.data.toList (by simpa[jps] using zM0 h.ok)
 rw[h.is]
 exact this
theorem zrA{l:List Int}(hl:l≠[]):Lib.countB (ofL (zr3 l)) (one 44)+1=l.length/\Lib.splitB (one 44) 0 (Lib.countB (ofL (zr3 l)) (one 44)) (ofL (zr3 l))=(l.map Lib.itoa).map ofL:=by
 cases l with
 |nil => exact absurd rfl hl
 |cons a r =>
  have h:=zdV (c:=44) (r.map Lib.itoa) (Lib.itoa a) (by
   intro y hy
   rw[<-List.map_cons] at hy
   obtain⟨x,_,rfl⟩:=List.mem_map.1 hy
   exact zmH (by decide) (by decide))
  have e:zr3 (a::r)=Lib.join (Lib.itoa a::r.map Lib.itoa) [44]:=by unfold zr3;rw[if_neg (by simp)];rfl
  rw[e,h.1]
  refine⟨by simp,?_⟩
  rw[List.length_map] at h ⊢
  simpa using h.2
end Go.Proofs.YtcceeahmcecbnaaGreatDoor
namespace Go.Proofs.YtcceeahmcecbnaaGreatDoor
open Go.Sx Go.RowKit Go.ChangeShapes Go.WideShapes Go.ChangeAt
section
variable {P:Program} {H:Type} {enc:TypeId×Value->H}
end
section
variable {P:Program} {H:Type} {enc:TypeId×Value->H}
end
theorem zuF{P:Program}{W:World}{l:List (String×DataW Unit)}(h:laidMetH P l W)(hp:(l.all fun x=>x.2.handleName?.isNone)=true){name:String}{zs:List Int}{k:IntKind}
  (hm:(name,Lib.tabData k zs)∈l) {g:Nat} {t e:TypeId} {n:Nat} (hg:P.globalNamed name=some g) (hty:(P.globals[g]?).map (·.type)=some t)
  (ht:P.underlying t=some (.array n e)) (he:P.underlying e=some (.int k)) (hce:P.cellsOf e=1) (hct:P.cellsOf t=n):Lib.TabIs P W name k zs:=by
 have hnone:(l.filter fun x=>x.2.handleName?.isSome)=[]:=by
  rw[List.filter_eq_nil_iff]
  intro a ha hs
  have:=List.all_eq_true.1 hp a ha
  cases hh:a.2.handleName?<;>simp_all
 have h:laidMet P l W:=by
  unfold laidMetH at h
  rw[hnone] at h
  exact h
 obtain⟨ps,hL,_⟩:=h
 obtain⟨g',t',cs,fuel,p,h1,h2,h3,h4⟩:=zfb hL _ hm
 obtain rfl:=Option.some.inj (hg.symm.trans h1)
 obtain rfl:=Option.some.inj (hty.symm.trans h2)
 unfold Lib.TabIs
 rw[h3,<-Lib.cells_of_tab ht he hce hct h4]
theorem zBA{P:Program}{W:World}{l:List (String×DataW Unit)}(h:laidMetH P l W)(hp:(l.all fun x=>x.2.handleName?.isNone)=true){name:String}{d:DataW Unit}
  (hm:(name,d)∈l) {g:Nat} {t:TypeId} (hg:P.globalNamed name=some g) (hty:(P.globals[g]?).map (·.type)=some t) (ht:zwH P t=true):∃v,cell W (some (⟨g,0,none⟩:Addr)) 0=some v/\isErr v:=by
 have hnone:(l.filter fun x=>x.2.handleName?.isSome)=[]:=by
  rw[List.filter_eq_nil_iff]
  intro a ha hs
  have:=List.all_eq_true.1 hp a ha
  cases hh:a.2.handleName?<;>simp_all
 have h:laidMet P l W:=by
  unfold laidMetH at h
  rw[hnone] at h
  exact h
 obtain⟨ps,hL,_⟩:=h
 obtain⟨g',t',cs,fuel,p,h1,h2,h3,h4⟩:=zfb hL _ hm
 obtain rfl:=Option.some.inj (hg.symm.trans h1)
 obtain rfl:=Option.some.inj (hty.symm.trans h2)
 have h5:=World.var?_cell hg h3 0
 unfold zwH at ht
 split at ht
 ·rename_i m hu
  cases fuel with
  |zero => simp[DataW.trod] at h4
  |succ n =>
   unfold DataW.trod at h4
   rw[hu] at h4
   generalize hL':cs.toList=L at h4
   have hc:cs[0]?=L[0]?:=by rw[<-hL'];simp
   have fin:∀v,L=[v]->isErr v->∃v,cell W (some (⟨g,0,none⟩:Addr)) 0=some v/\isErr v:=fun v hv he=>by
    refine⟨v,?_,he⟩
    simp only[cell,Option.bind_some,add_zero]
    rw[h5,hc,hv];rfl
   match L,h4,fin with
   |[],h4,_ => simp at h4
   |[.nilIface],_,fin => exact fin _ rfl (.inl rfl)
   |[.iface a b],_,fin => exact fin _ rfl (.inr ⟨a,b,rfl⟩)
   |x::y::r,h4,_ => simp at h4
   |[.int _ _],h4,_|[.bool _],h4,_|[.string _],h4,_|[.float _ _],h4,_|[.complex _ _ _],h4,_|[.pointer _],h4,_|[.slice _ _ _],h4,_|[.agg _],h4,_|[.tuple _],h4,_ => simp at h4
   |[x],h4,fin => cases x<;>first|exact fin _ rfl (.inl rfl)|exact fin _ rfl (.inr ⟨_,_,rfl⟩)|simp at h4
 ·cases ht
theorem zwE{P:Program}{w:World}{g:Nat}{t:TypeId}{k:IntKind}{zero:Array Value}(h:w.ShapedOpen P)(hg:g<P.globals.size)
  (h0:((begin P (fun _ _=>0) default).world.heap[g]?).bind Obj.row?=some (zero,t)) (hz:zero.size=1)
  (hb:P.buildable t=true) (hc:P.cellTypes P.depth t=some [t]) (hu:P.underlying t=some (.int k)):∃m,cell w (some (⟨g,0,none⟩:Addr)) 0=some (.int k m):=by
 obtain⟨cs,hh,hs,hr⟩:=h.1 g zero t hg h0
 obtain⟨ts,hts,_,hall⟩:=hr hb
 rw[hc] at hts
 cases hts
 have h1:0<cs.size:=by omega
 obtain⟨u,hu',hok⟩:=hall 0 cs[0] (by simp[h1])
 have:u=t:=by simpa using hu'.symm
 subst this
 have hcell:cell w (some (⟨g,0,none⟩:Addr)) 0=some cs[0]:=by simp[cell,add_zero,World.cell?,hh,h1]
 rw[hcell]
 unfold Cell.ok at hok
 rw[hu] at hok
 cases hv:cs[0]<;>rw[hv] at hok<;>first|(simp at hok;obtain⟨rfl,_⟩:=hok;exact⟨_,rfl⟩)|(simp at hok;subst hok;exact⟨_,rfl⟩)|simp at hok
theorem gb_of{W:World}{l:List (String×DataW Unit)}(h:laidMetH Tryz.prog l W)(hsp:W.ShapedOpen Tryz.prog)(hp:(l.all fun x=>x.2.handleName?.isNone)=true)
  (h2 : ("internal/strconv.uint64pow10", (Rows.laid_internal_strconv_uint64pow10 : DataW Unit)) ∈ l)
  (h3 : ("strconv.ErrRange", (Rows.laid_strconv_ErrRange : DataW Unit)) ∈ l) (h4 : ("strconv.ErrSyntax", (Rows.laid_strconv_ErrSyntax : DataW Unit)) ∈ l) : GB W :=
 ⟨zuF h hp (k := .u64) (zs := Lib.pow10Tab) (by exact h2) (g := (Tryz.prog.globalNamed "internal/strconv.uint64pow10").getD 0) (t := (Tryz.prog.globals[(Tryz.prog.globalNamed "internal/strconv.uint64pow10").getD 0]?).elim 0 (·.type)) (e := zH1) (n := 20) (by kernel_rfl) (by kernel_rfl) (by kernel_rfl) (by kernel_rfl) (by kernel_rfl) (by kernel_rfl),
  zwE (zero:=#[.int .i64 0]) hsp (g:=5) (t:=(Tryz.prog.globals[5]?).elim 0 (·.type)) (of_decide_eq_true (by kernel_rfl)) (by kernel_rfl) rfl (by kernel_rfl) (by kernel_rfl) (by kernel_rfl),
  zBA h hp h4 (g:=2) (t:=(Tryz.prog.globals[2]?).elim 0 (·.type)) (by kernel_rfl) (by kernel_rfl) (by kernel_rfl),
  zBA h hp h3 (g:=3) (t:=(Tryz.prog.globals[3]?).elim 0 (·.type)) (by kernel_rfl) (by kernel_rfl) (by kernel_rfl)⟩
end Go.Proofs.YtcceeahmcecbnaaGreatDoor
namespace Go.Proofs.YtcceeahmcecbnaaGreatDoor
open Go.Sx Go.RowKit
def num(n:Int)(k:Nat):Bs:=(List.range k).map fun(j:Nat)=>ub (zan .shr .i64 n (8*((k:Int)-1-j)))
structure Ev where
 kind:Int
 job:Jb
 n:Int
 id:Int
 ok:Bool
def enc(x:Ev):Bs:=ub x.kind::(if x.kind=1 then jtx x.job else if x.kind=2 then num x.n 4 else if x.kind=4 then num x.id 2++[if x.ok=true then 1 else 0] else if x.kind=5 then num x.id 2 else [])
def zE5:Int->List Int->Int
 |_,[] => 0
 |a,x::r => if x<1\/60<x then 4 else if x<=a then 6 else zE5 x r
theorem zy4:∀(l:List Int)(a:Int),zE5 a l=0↔upA a l
 |[],a => by simp[zE5,upA]
 |x::r,a => by
  have ih:=zy4 r x
  unfold zE5 upA
  split
  ·rename_i h;constructor
   ·intro h2;cases h2
   ·intro h2;omega
  ·split
   ·rename_i h;constructor
    ·intro h2;cases h2
    ·intro h2;omega
   ·rw[ih];constructor
    ·intro h2;exact⟨by omega,by omega,by omega,h2⟩
    ·intro h2;exact h2.2.2.2
def zvT(j:Jb):Int:=if lbB j.user=false then 3 else if j.prio < -1000\/1000<j.prio then 4 else if zBh j.nd≠0 then zBh j.nd else if znu j.ask≠0 then znu j.ask else if 8<j.aft.length then 2 else zE5 0 j.aft
theorem zjT{j:Jb}:zvT j=0↔okJ j:=by
 unfold zvT
 constructor
 ·intro h
  split at h
  ·cases h
  rename_i h1
  split at h
  ·cases h
  rename_i h2
  split at h
  ·rename_i h3;exact absurd h h3
  rename_i h3
  split at h
  ·rename_i h4;exact absurd h h4
  rename_i h4
  split at h
  ·cases h
  rename_i h5
  exact⟨by simpa using h1,by omega,zbm.1 (by omega),by omega,by omega,(zy4 _ _).1 h⟩
 ·intro h
  have hp:=h.prio
  have hl:=h.len
  rw[if_neg (by rw[h.user];simp),if_neg (by omega),if_neg (fun g=>g (zbm.2 h.nd)),if_neg (fun g=>g h.ask),if_neg (by omega)]
  exact(zy4 _ _).2 h.up
theorem zFv(j:Jb)(pa:Option Addr)(ca:Nat)(pf:Option Addr)(cf:Nat)(w:World)(hJ:IsJ w j pa ca pf)(hW:WfJ j):FnP Tryz.prog zdK #[jv j pa ca pf cf] w fun v w'=>Ext w w'/\v=.int .i64 (zvT j):=by
 refine zo0 j.user j.prio j.nd.c j.nd.m j.nd.g j.ask.k j.ask.key j.ask.val j.ask.n pa j.ask.xs.length ca pf j.aft.length cf w _ fun b0 hb0 w1 h1=>(zeK j.user hW.user w1).mono fun v w2 ⟨e2,hv⟩=>⟨e2,_,hv,fun hno w4 h4=>?_,fun hyes=>⟨fun hbad w4 h4=>?_,fun hpr w4 h4=>?_⟩⟩
 ·exact⟨h4,by unfold zvT;rw[if_pos hno]⟩
 ·exact⟨h4,by unfold zvT;rw[if_neg (by rw[hyes];simp),if_pos (by omega)]⟩
 refine(ze0 j.nd w4).mono fun v w5 ⟨e5,hv⟩=>⟨e5,_,hv,fun hne w7 h7=>⟨h7,by unfold zvT;rw[if_neg (by rw[hyes];simp),if_neg (by omega),if_pos hne]⟩,fun hz w7 h7=>?_⟩
 refine(zp7 j.ask pa ca w7 (hJ.1.ext h7) hW.ask).mono fun v w8 ⟨e8,hv⟩=>⟨e8,_,hv,fun hne w10 h10=>⟨h10,by unfold zvT;rw[if_neg (by rw[hyes];simp),if_neg (by omega),if_neg (by omega),if_pos hne]⟩,fun hz2=>⟨fun hbig w10 h10=>⟨h10,by unfold zvT;rw[if_neg (by rw[hyes];simp),if_neg (by omega),if_neg (by omega),if_neg (by omega),if_pos (by omega)]⟩,fun hle=>?_⟩⟩
 have hE:zvT j=zE5 0 j.aft:=by unfold zvT;rw[if_neg (by rw[hyes];simp),if_neg (by omega),if_neg (by omega),if_neg (by omega),if_neg (by omega)]
 rw[hE]
 refine⟨fun last k w'=>w'=w/\0<=k/\k<=j.aft.length/\zE5 0 j.aft=zE5 last (j.aft.drop k.toNat),fun _ k _=>(j.aft.length-k).toNat,⟨rfl,by omega,by omega,by simp⟩,?_⟩
 rintro last k w' ⟨rfl,hk0,hk1,hup⟩
 refine⟨fun hlt=>?_,fun hge w14 h14=>⟨h14,by rw[hup,List.drop_eq_nil_of_le (by omega)];rfl⟩⟩
 have g:=zes.idx hJ.2 hk0 hlt
 have hdrop:j.aft.drop k.toNat=j.aft.getD k.toNat 0::j.aft.drop (k.toNat+1):=by
  rw[List.drop_eq_getElem_cons (by omega)]
  congr 1
  simp[List.getD_eq_getElem?_getD,show k.toNat<j.aft.length by omega]
 rw[hdrop] at hup
 refine⟨fun hq=>zal g (zah.2 hq),hk0,hlt,_,g,fun hbad w15 h15=>⟨h15,?_⟩,fun hin=>⟨fun hle2 w15 h15=>⟨h15,?_⟩,fun hgt=>⟨i64 (by omega),⟨rfl,by omega,by omega,?_⟩,by simp only[];omega⟩⟩⟩
 ·rw[hup,zE5,if_pos (by omega)]
 ·rw[hup,zE5,if_neg (by omega),if_pos (by omega)]
 ·rw[show(k+1).toNat=k.toNat+1 by omega,hup,zE5,if_neg (by omega),if_neg (by omega)]
theorem zK2{w:World}{x:Nd}{K:Option Addr->World->Prop}(h:∀p w',Ext w w'->zD3 w' p x->p≠none->K p w'):New w zjk (zyB x) K :=
 zbc (by intro v hv;simp at hv;rcases hv with rfl|rfl|rfl<;>rfl) fun w' o e=>h _ w' e (o 0 (Nat.zero_le _)).cells (by simp)
abbrev NdsAt(w:World)(p:Option Addr)(L:List Nd):Prop:=zhC 3 zyB w p L
def zE4(L:List Nd):Int:=if ∀x∈L,okN x then 0 else 4
theorem zII{L:List Nd}:zE4 L=0↔∀x∈L,okN x:=by unfold zE4;split<;>simp_all
theorem zFT(p:Option Addr)(c:Nat)(L:List Nd)(h63:(L.length:Int)<=9223372036854775807)(w:World)(h:NdsAt w p L):FnP Tryz.prog zcz #[.slice p L.length c] w fun v w'=>Ext w w'/\v=.int .i64 (zE4 L):=by
 refine zsC p L.length c w _ ⟨fun k w'=>w'=w/\0<=k/\k<=L.length/\∀i:Nat,(i:Int)<k->okN (L.getD i default),fun k _=>(L.length-k).toNat,⟨rfl,by omega,by omega,fun i hi=>by omega⟩,?_⟩
 rintro k w ⟨rfl,hk0,hk1,hall⟩
 refine⟨fun hlt=>?_,fun hge w3 h3=>⟨h3,?_⟩⟩
 ·have g0:=h.idx default hk0 hlt (j:=0) rfl
  have g1:=h.idx default hk0 hlt (j:=1) rfl
  have g2:=h.idx default hk0 hlt (j:=2) rfl
  refine⟨fun hq=>zal g0 (zah.2 hq),hk0,hlt,zal g0,_,g0,_,g1,_,g2,fun b6 _=>fun w7 h7=>?_⟩
  refine(ze0 (L.getD k.toNat default) w7).mono fun v w8 ⟨e8,hv⟩=>⟨e8,_,hv,fun hne w10 h10=>⟨h10,?_⟩,fun he=>⟨i64 (by omega),⟨rfl,by omega,by omega,fun i hi=>?_⟩,by simp only[];omega⟩⟩
  ·have hno:¬okN (L.getD k.toNat default):=fun h=>hne (zbm.2 h)
   rw[znN hno]
   congr 1
   exact(if_neg fun hx=>hno (hx _ (zat L default (by omega)))).symm
  ·by_cases hik:(i:Int)<k
   ·exact hall i hik
   ·obtain rfl:i=k.toNat:=by omega
    exact zbm.1 he
 ·congr 1
  refine(zII.2 fun x hx=>?_).symm
  obtain⟨i,hi,rfl⟩:=List.getElem_of_mem hx
  have:=hall i (by omega)
  simpa[List.getD_eq_getElem?_getD,hi] using this
theorem zuK(a b:Nd){ns:List Nat}{w:World}{K:Int->World->Prop}(hk:∀w',Ext w w'->K (if okN a/\okN b then 0 else 4) w') :
  ∀w3,zag [] ns w w3->Run Tryz.prog (.buildSlice zEb 2 [(0,nv a),(1,nv b)]) w3 fun v4 w4=>Ext w3 w4/\∃t5:Option Addr,∃tl6:Nat,∃tc7:Nat,v4=.slice t5 tl6 tc7 /\
   ∀w8,Ext w4 w8->FnP Tryz.prog zcz #[.slice t5 tl6 tc7] w8 fun v9 w9=>Ext w8 w9/\∃t10:Int,v9=.int .i64 t10/\K t10 w4:=by
 intro w3 x3
 refine zce zwg [nv a,nv b] rfl rfl (by intro v hv;simp at hv;rcases hv with rfl|rfl<;>rfl) (by omega) (by omega) fun w4 o4 e4=>⟨e4,_,_,_,rfl,fun w8 h8=>?_⟩
 have o8:=(o4 0 (Nat.zero_le _)).ext h8
 have hL:NdsAt w8 (some ⟨w3.heap.size,0,none⟩) [a,b]:=Own.recs (enc:=zyB) (xs:=[a,b]) o8 fun _ _=>rfl
 refine(zFT _ 2 [a,b] (by simp) w8 hL).mono fun v w9 ⟨e9,hv⟩=>⟨e9,_,hv,?_⟩
 have:zE4 [a,b]=if okN a/\okN b then 0 else 4:=by
  unfold zE4;simp
 rw[this]
 exact hk w4 ((zaa x3).trans e4)
theorem zFX(a b:Nd)(w:World):FnP Tryz.prog zio #[nv a,nv b] w fun v w'=>Ext w w'/\v=.bool (decide (zk8 a b)):=by
 refine zxr a.c a.m a.g b.c b.m b.g w _ fun b0 _ b1 _ w2 h2=>⟨h2,?_⟩
 congr 1
 unfold zk8
 by_cases h1:a.c<=b.c<;>by_cases h2:a.m<=b.m<;>by_cases h3:a.g<=b.g<;>simp[h1,h2,h3]
theorem zzu(a b:Nd)(w:World):FnP Tryz.prog zim #[nv a,nv b] w fun v w'=>Ext w w'/\∃t e,v=.tuple #[.bool t,.int .i64 e]/\((okN a/\okN b/\e=0/\t=decide (zk8 a b))\/(¬(okN a/\okN b)/\e=4/\t=false)):=by
 refine zxp a.c a.m a.g b.c b.m b.g w _ fun b0 hb0 b1 hb1=>?_
 refine zuK a b fun w3 e3=>?_
 by_cases hok:okN a/\okN b
 ·rw[if_pos hok]
  refine⟨fun h=>absurd rfl h,fun _ w10 h10=>(zFX a b w10).mono fun v w11 ⟨e11,hv⟩=>⟨e11,_,hv,fun w13 h13=>⟨e3.trans h13,_,_,rfl,.inl ⟨hok.1,hok.2,rfl,rfl⟩⟩⟩⟩
 ·rw[if_neg hok]
  exact⟨fun _ w10 h10=>⟨e3.trans h10,_,_,rfl,.inr ⟨hok,rfl,rfl⟩⟩,fun h=>by omega⟩
theorem nAdd_k(a b:Nd)(w:World):FnP Tryz.prog zks #[nv a,nv b] w fun v w'=>Ext w w'/\∃s e,v=.tuple #[nv s,.int .i64 e] /\
  ((okN a/\okN b/\okN (zyz a b)/\e=0/\s=zyz a b)\/(¬(okN a/\okN b)/\e=4/\s=zbh)\/(okN a/\okN b/\¬okN (zyz a b)/\e=2/\s=zbh)):=by
 refine zzN a.c a.m a.g b.c b.m b.g w _ fun b0 hb0 b1 hb1 b2 hb2=>?_
 refine zuK a b fun w4 e4=>?_
 by_cases hok:okN a/\okN b
 ·rw[if_pos hok]
  obtain⟨⟨a1,a2,a3⟩,⟨c1,c2,c3⟩⟩:=id hok
  refine⟨fun h=>absurd rfl h,fun _=>⟨i64 (by omega),i64 (by omega),i64 (by omega),fun b11 _ w12 h12=>?_⟩⟩
  refine(ze0 (zyz a b) w12).mono fun v w13 ⟨e13,hv⟩=>⟨e13,_,hv,fun hne w15 x15=>⟨zy5 x15 e4 hb2,zbh,_,rfl,.inr (.inr ⟨hok.1,hok.2,fun h=>hne (zbm.2 h),rfl,rfl⟩)⟩,fun he w15 x15=>⟨zy5 x15 e4 hb2,zyz a b,_,rfl,.inl ⟨hok.1,hok.2,zbm.1 he,rfl,rfl⟩⟩⟩
 ·rw[if_neg hok]
  exact⟨fun _ w11 x11=>⟨zy5 x11 e4 hb2,zbh,_,rfl,.inr (.inl ⟨hok,rfl,rfl⟩)⟩,fun h=>by omega⟩
theorem zBL(a b:Nd)(w:World):FnP Tryz.prog zcO #[nv a,nv b] w fun v w'=>Ext w w'/\∃s e,v=.tuple #[nv s,.int .i64 e] /\
  ((okN a/\okN b/\zk8 b a/\e=0/\s=zjp a b)\/(¬(okN a/\okN b)/\e=4/\s=zbh)\/(okN a/\okN b/\¬zk8 b a/\e=10/\s=zbh)):=by
 refine zzO a.c a.m a.g b.c b.m b.g w _ fun b0 hb0 b1 hb1 b2 hb2=>?_
 refine zuK a b fun w4 e4=>?_
 by_cases hok:okN a/\okN b
 ·rw[if_pos hok]
  obtain⟨⟨a1,a2,a3⟩,⟨c1,c2,c3⟩⟩:=id hok
  refine⟨fun h=>absurd rfl h,fun _ w11 h11=>?_⟩
  refine(zFX b a w11).mono fun v w12 ⟨e12,hv⟩=>⟨e12,_,hv,fun hf w14 x14=>⟨zy5 x14 e4 hb2,zbh,_,rfl,.inr (.inr ⟨hok.1,hok.2,by simpa using hf,rfl,rfl⟩)⟩,fun hf=>⟨i64 (by omega),i64 (by omega),i64 (by omega),fun w14 x14=>⟨zy5 x14 e4 hb2,zjp a b,_,rfl,.inl ⟨hok.1,hok.2,by simpa using hf,rfl,rfl⟩⟩⟩⟩
 ·rw[if_neg hok]
  exact⟨fun _ w11 x11=>⟨zy5 x11 e4 hb2,zbh,_,rfl,.inr (.inl ⟨hok,rfl,rfl⟩)⟩,fun h=>by omega⟩
def zyv(h:Ht):Prop:=h.name.size<=9223372036854775807/\h.labels.length<=9223372036854775807/\∀l∈h.labels,l.key.size<=9223372036854775807/\l.val.size<=9223372036854775807
def zkO(w:World)(p:Option Addr)(L:List Ht):Prop:=∀(i:Nat)(h:Ht),L[i]?=some h->∃q c,(∀(j:Nat) u,(zHB h q c)[j]?=some u->Go.Sx.cell w p (i*8+j)=some u)/\Lbs w q h.labels
theorem zkO.ext{w w':World}{p:Option Addr}{L:List Ht}(h:zkO w p L)(he:Ext w w'):zkO w' p L:=fun i x hx=>by
 obtain⟨q,c,h1,h2⟩:=h i x hx
 exact⟨q,c,fun j u hu=>zar he (h1 j u hu),h2.ext he⟩
theorem zkO.at{w:World}{p:Option Addr}{L:List Ht}(h:zkO w p L){k:Int}(h0:0<=k)(hk:k<L.length):∃q c,p≠none/\pIdx p k 8≠none/\(∀(j:Nat) u,(zHB (L.getD k.toNat default) q c)[j]?=some u->Go.Sx.cell w (pIdx p k 8) j=some u)/\Lbs w q (L.getD k.toNat default).labels:=by
 obtain⟨q,c,h1,h2⟩:=h k.toNat _ (getElem?_getD L default (by omega))
 have g:∀(j:Nat) u,(zHB (L.getD k.toNat default) q c)[j]?=some u->Go.Sx.cell w (pIdx p k 8) j=some u:=fun j u hu=>by rw[zae];exact h1 j u hu
 have g0:=g 0 _ rfl
 exact⟨q,c,fun hq=>zal g0 (zah.2 hq),zal g0,g,h2⟩
def okLb(l:List Lb):Prop:=(∀x∈l,lbB x.key=true/\lbB x.val=true)/\(l.map (·.key)).Nodup
def zJt(h:Ht):Prop:=lbB h.name=true/\h.labels.length<=8/\okLb h.labels/\okN h.has/\okN h.used/\zk8 h.used h.has
def zlM(L:List Ht):Prop:=L.length<=30/\(∀h∈L,zJt h)/\(L.map (·.name)).Nodup
def zjv(w:World)(r:Nat)(S:List ByteArray):Prop:=∃m:List (ByteArray×Value),zcU Value.string w r m/\∀a,(a∈S/\ziK m a=some (.bool true))\/(a∉S/\ziK m a=none)
theorem zjv.ext{w w':World}{r:Nat}{S:List ByteArray}(h:zjv w r S)(he:Ext w w'):zjv w' r S:=by
 obtain⟨m,h1,h2⟩:=h
 exact⟨m,h1.ext he,h2⟩
theorem zjv.lt{w:World}{r:Nat}{S:List ByteArray}(h:zjv w r S):r<w.heap.size:=by
 obtain⟨m,h1,h2⟩:=h
 exact h1.lt
theorem zjv.grew{w w':World}{r s:Nat}{S:List ByteArray}(h:zjv w r S)(hr:r≠s)(hg:zcr w w' (some ⟨s,0,none⟩) (some ⟨s,0,none⟩)):zjv w' r S:=by
 obtain⟨m,h1,h2⟩:=h
 exact⟨m,h1.grew (fun x hx=>by obtain rfl:=Option.some.inj hx;exact fun he=>hr he.symm) hg,h2⟩
theorem zB9{w:World}{K:Value->World->Prop}(hk:∀w',zjv w' w.heap.size []->Ext w w'->K (.map (some w.heap.size)) w'):Run Tryz.prog (.makeMap zeM) w K :=
 ziY (enc:=Value.string) fun w' h e=>hk w' ⟨[],h,fun a=>.inr ⟨by simp,rfl⟩⟩ e
theorem zp0{w:World}{r:Nat}{S:List ByteArray}(h:zjv w r S)(a:ByteArray){K:Value->World->Prop}(hk:∀b:Bool,(b=true↔a∈S)->K (.bool b) w):Run Tryz.prog (.lookup zeM (.map (some r)) (.string a) false) w K:=by
 obtain⟨m,h1,h2⟩:=h
 obtain⟨i,hi,hz⟩:∃i,Tryz.prog.info? zvY=some i/\i.zero=some (.bool false):=by
  have:(Tryz.prog.info? zvY).map (·.zero)=some (some (.bool false)):=by kernel_rfl
  obtain⟨i,h1,h2⟩:=Option.map_eq_some_iff.1 this
  exact⟨i,h1,h2⟩
 refine zkI (enc:=Value.string) (zpJ (k:=zas) (by kernel_rfl)) (e:=zvY) (by kernel_rfl) hi hz h1 ?_
 rcases h2 a with⟨h3,h4⟩|⟨h3,h4⟩
 ·rw[h4];exact hk true ⟨fun _=>h3,fun _=>rfl⟩
 ·rw[h4];exact hk false ⟨fun h=>(by cases h),fun h=>absurd h h3⟩
theorem zvk{w:World}{r:Nat}{S:List ByteArray}(h:zjv w r S)(a:ByteArray){K:Value->World->Prop}(hk:∀w',zjv w' r (S++[a])->zcr w w' (some ⟨r,0,none⟩) (some ⟨r,0,none⟩)->K undef w'):Run Tryz.prog (.mapUpdate zeM (.map (some r)) (.string a) (.bool true)) w K:=by
 obtain⟨m,h1,h2⟩:=h
 refine zfS (enc:=Value.string) (zpJ (k:=zas) (by kernel_rfl)) (e:=zvY) (by kernel_rfl) h1 fun w' h3 h4=>hk w' ⟨_,h3,fun b=>?_⟩ h4
 rw[zmL]
 by_cases hab:a=b
 ·subst hab;exact .inl ⟨by simp,by simp⟩
 ·have:b≠a:=fun h=>hab h.symm
  rw[if_neg hab]
  rcases h2 b with⟨h5,h6⟩|⟨h5,h6⟩
  ·exact .inl ⟨List.mem_append_left _ h5,h6⟩
  ·exact .inr ⟨fun h=>by rcases List.mem_append.1 h with h|h;exact h5 h;exact this (by simpa using h),h6⟩
theorem ztL{α:Type}{l:List α}(h:l.Nodup)(k:Nat){x:α}(hx:l[k]?=some x):x∉l.take k:=by
 intro hm
 obtain⟨j,hj,he⟩:=List.getElem_of_mem hm
 rw[List.length_take] at hj
 rw[List.getElem_take] at he
 have h1:l[j]?=some x:=by rw[List.getElem?_eq_getElem (by omega),he]
 have:=(List.getElem?_inj (by omega) h).1 (h1.trans hx.symm)
 omega
theorem zla{α:Type}:∀{l:List α},(∀(k:Nat) x,l[k]?=some x->x∉l.take k)->l.Nodup:=by
 intro l h
 rw[List.nodup_iff_pairwise_ne,List.pairwise_iff_getElem]
 intro i j hi hj hij he
 refine h j _ (List.getElem?_eq_getElem hj) ?_
 rw[List.mem_iff_getElem]
 exact⟨i,by simp;omega,by simp[he]⟩
theorem zdo{α β:Type}(f:α->β){l:List α}(d:α){k:Nat}(h:k<l.length):(l.take (k+1)).map f=(l.take k).map f++[f (l.getD k d)]:=by
 rw[List.take_add_one,getElem?_getD l d h];simp
theorem zus(p:Option Addr)(c:Nat)(L:List Ht)(h63:(L.length:Int)<=9223372036854775807)(hO:∀h∈L,zyv h)(w:World)(hL:zkO w p L) :
  FnP Tryz.prog zcu #[.slice p L.length c] w fun v w'=>Ext w w'/\∃e:Int,v=.int .i64 e/\(e=0↔zlM L)/\e≠5/\(∀h r,L=h::r->lbB h.name=false->L.length<=30->e=3):=by
 refine zm0 p L.length c w _ ⟨fun hgt w0 h0=>⟨h0,2,rfl,⟨fun h=>by omega,fun h=>by have:=h.1;omega⟩,by omega,fun h r _ _ hl=>by omega⟩,fun hle w0 h0=>?_⟩
 refine zB9 fun w1 S1 e1=>⟨e1,_,rfl,?_⟩
 generalize hr1:w0.heap.size=r1 at S1
 have x1:=h0.trans e1
 have hw1:w.heap.size<=r1:=by have:=h0.size;omega
 refine⟨fun k w'=>Ext w w'/\0<=k/\k<=L.length/\zjv w' r1 ((L.take k.toNat).map (·.name))/\(∀j:Nat,(j:Int)<k->zJt (L.getD j default))/\(∀j:Nat,(j:Int)<k->(L.getD j default).name∉(L.take j).map (·.name)),fun k _=>(L.length-k).toNat,⟨x1,by omega,by omega,S1,fun j hj=>by omega,fun j hj=>by omega⟩,?_⟩
 rintro k w5 ⟨x5,hk0,hk1,S5,hok,hdist⟩
 have fin:∀{e:Int}{w':World},Ext w w'->(e≠0->¬zlM L)->e≠0->e≠5->(∀h r,L=h::r->lbB h.name=false->L.length<=30->e=3)->Ext w w'/\∃e':Int,Value.int .i64 e=.int .i64 e'/\(e'=0↔zlM L)/\e'≠5/\(∀h r,L=h::r->lbB h.name=false->L.length<=30->e'=3):=fun hx h1 h2 h3 h4=>⟨hx,_,rfl,⟨fun h=>absurd h h2,fun h=>absurd h (h1 h2)⟩,h3,h4⟩
 refine⟨fun hlt=>?_,fun hge w6 h6=>⟨x5.trans h6,0,rfl,⟨fun _=>⟨by omega,fun h hh=>?_,?_⟩,fun _=>rfl⟩,by omega,fun h r he hf _=>?_⟩⟩
 ·obtain⟨q,d,hp,hp8,g',hLb⟩:=hL.at hk0 hlt
  have hm:=zat L default (i:=k.toNat) (by omega)
  have hOk:=hO _ hm
  generalize hHd:L.getD k.toNat default=H at g' hLb hm hOk
  have g:∀(j:Nat) u,(zHB H q d)[j]?=some u->Go.Sx.cell w5 (pIdx p k 8) j=some u:=fun j u hu=>zar x5 (g' j u hu)
  obtain⟨ho1,ho2,ho3⟩:=hOk
  have hnot:∀(P:Ht->Prop),(∀h∈L,P h)->P H:=fun P h=>h H hm
  have first:lbB H.name=true->∀h r,L=h::r->lbB h.name=false->(k:Int)≠0\/False:=fun hn h r he hf=>by
   refine .inl fun hz=>?_
   have:H=h:=by rw[<-hHd,he,hz];rfl
   rw[this,hf] at hn;cases hn
  have nofirst:lbB H.name=true->∀(e:Int) h r,L=h::r->lbB h.name=false->L.length<=30->e=3:=fun hn e h r he hf _=>by
   exfalso
   by_cases hz:k=0
   ·have:H=h:=by rw[<-hHd,he,hz];rfl
    rw[this,hf] at hn;cases hn
   ·have h0':=(hok 0 (by omega)).1
    have:L.getD 0 default=h:=by rw[he];rfl
    rw[this,hf] at h0';cases h0'
  refine⟨hp,hk0,hlt,hp8,_,g 0 _ rfl,_,_,_,g 1 _ rfl,_,g 2 _ rfl,_,g 3 _ rfl,_,g 4 _ rfl,_,g 5 _ rfl,_,g 6 _ rfl,_,g 7 _ rfl,fun b16 hb16=>?_⟩
  refine⟨fun w'=>w'=w5/\lbB H.name=true/\H.name∉(L.take k.toNat).map (·.name)/\H.labels.length<=8,fun w19 h19=>?_,?_⟩
  ·refine(zeK H.name ho1 w19).mono fun v w20 ⟨e20,hv⟩=>⟨e20,_,hv,fun hf w22 h22=>fin (x5.trans h22) (fun _ ho=>by have:=(ho.2.1 H hm).1;rw[hf] at this;cases this) (by omega) (by omega) (fun _ _ _ _ _=>rfl),fun hn w22 h22=>?_⟩
   refine zp0 (S5.ext h22) H.name fun b hb=>⟨Ext.refl _,b,rfl,fun hin w25 h25=>fin (x5.trans h25) (fun _ ho=>?_) (by omega) (by omega) (nofirst hn 6),fun hnin=>⟨fun h8 w25 h25=>fin (x5.trans h25) (fun _ ho=>by have:=(ho.2.1 H hm).2.1;omega) (by omega) (by omega) (nofirst hn 2),fun h8=>⟨rfl,hn,(fun hm=>by rw[hb.2 hm] at hnin;cases hnin),by omega⟩⟩⟩
   have hin:H.name∈(L.take k.toNat).map (·.name):=hb.1 hin
   have hx:(L.map (·.name))[k.toNat]?=some H.name:=by rw[List.getElem?_map,getElem?_getD L default (by omega),hHd];rfl
   refine ztL ho.2.2 k.toNat hx ?_
   rwa [<-List.map_take]
  rintro w5 ⟨rfl,hn,hnin,h8⟩ w19 x19
  have h19:=zaa x19
  have hb19:b16<w19.heap.size:=x19.lt b16 (by simp)
  have hr5:=S5.lt
  refine zvk (S5.ext h19) H.name fun w20 S20 g20=>⟨fun b hb=>?_,fun w21 x21=>?_⟩
  ·simp at hb;subst hb
   refine g20.by_.block b hb19 fun he=>?_
   simp[blk] at he;omega
  have x20:Ext w w20:=g20.below (x5.trans h19) (x5.trans h19).size (fun a ha=>by obtain rfl:=Option.some.inj ha;exact hw1)
  have h21:=zaa x21
  refine zB9 fun w22 S22 e22=>⟨e22,_,rfl,?_⟩
  have hr21:r1<w21.heap.size:=by have:=S20.lt;have:=h21.size;omega
  generalize hr2:w21.heap.size=r2 at S22 hr21
  have x22:=(x20.trans h21).trans e22
  have hb16r:b16<r2:=by have:=g20.size;have:=h21.size;omega
  refine⟨fun j w'=>Ext w w'/\0<=j/\j<=H.labels.length/\zjv w' r1 ((L.take k.toNat).map (·.name)++[H.name])/\zjv w' r2 ((H.labels.take j.toNat).map (·.key))/\(∀i:Nat,(i:Int)<j->lbB (H.labels.getD i default).key=true/\lbB (H.labels.getD i default).val=true)/\(∀i:Nat,(i:Int)<j->(H.labels.getD i default).key∉(H.labels.take i).map (·.key)),fun j _=>(H.labels.length-j).toNat,⟨x22,by omega,by omega,(S20.ext h21).ext e22,S22,fun i hi=>by omega,fun i hi=>by omega⟩,?_⟩
  rintro j w26 ⟨x26,hj0,hj1,Sa,Sb,hlab,hldist⟩
  refine⟨fun hjl=>?_,fun hjg w27 h27=>?_⟩
  ·have hLb6:=hLb.ext x26
   have l0:=hLb6.idx default hj0 hjl (j:=0) rfl
   have l1:=hLb6.idx default hj0 hjl (j:=1) rfl
   have hlm:=zat H.labels default (i:=j.toNat) (by omega)
   have hls:=ho3 _ hlm
   generalize hld:H.labels.getD j.toNat default=lb at l0 l1 hlm hls
   refine⟨fun hq=>zal l0 (zah.2 hq),hj0,hjl,zal l0,_,l0,_,l1,fun b29 hb29=>?_⟩
   refine⟨fun w'=>w'=w26/\lbB lb.key=true/\lbB lb.val=true/\lb.key∉(H.labels.take j.toNat).map (·.key),fun w32 h32=>?_,?_⟩
   ·refine(zeK lb.key hls.1 w32).mono fun v w33 ⟨e33,hv⟩=>⟨e33,_,hv,fun hf w35 h35=>fin (x26.trans h35) (fun _ ho=>by have:=((ho.2.1 H hm).2.2.1.1 lb hlm).1;rw[hf] at this;cases this) (by omega) (by omega) (fun _ _ _ _ _=>rfl),fun hkt w35 h35=>?_⟩
    refine(zeK lb.val hls.2 w35).mono fun v w36 ⟨e36,hv⟩=>⟨e36,_,hv,fun hf w38 h38=>fin (x26.trans h38) (fun _ ho=>by have:=((ho.2.1 H hm).2.2.1.1 lb hlm).2;rw[hf] at this;cases this) (by omega) (by omega) (fun _ _ _ _ _=>rfl),fun hvt w38 h38=>?_⟩
    refine zp0 (Sb.ext h38) lb.key fun b hb=>⟨Ext.refl _,b,rfl,fun hin w41 h41=>fin (x26.trans h41) (fun _ ho=>?_) (by omega) (by omega) (nofirst hn 6),fun hnin=>⟨rfl,hkt,hvt,fun hm=>by rw[hb.2 hm] at hnin;cases hnin⟩⟩
    have hin:lb.key∈(H.labels.take j.toNat).map (·.key):=hb.1 hin
    have hx:(H.labels.map (·.key))[j.toNat]?=some lb.key:=by rw[List.getElem?_map,getElem?_getD H.labels default (by omega),hld];rfl
    refine ztL (ho.2.1 H hm).2.2.1.2 j.toNat hx ?_
    rwa [<-List.map_take]
   rintro w26 ⟨rfl,hkt,hvt,hknin⟩ w32 x32
   have h32:=zaa x32
   refine zvk (Sb.ext h32) lb.key fun w33 S33 g33=>⟨fun b hb=>?_,i64 (by omega),⟨?_,by omega,by omega,?_,?_,fun i hi=>?_,fun i hi=>?_⟩,by simp only[];omega⟩
   ·have hlt':=x32.lt b hb
    refine g33.by_.block b hlt' fun he=>?_
    simp[blk] at he
    simp at hb
    have:=Sb.lt
    rcases hb with rfl|rfl<;>omega
   ·exact g33.below (x26.trans h32) (x26.trans h32).size (fun a ha=>by obtain rfl:=Option.some.inj ha;show w.heap.size<=r2;omega)
   ·exact(Sa.ext h32).grew (by omega) g33
   ·rw[show(j+1).toNat=j.toNat+1 by omega,zdo (fun x:Lb=>x.key) default (by omega),hld];exact S33
   ·by_cases hij:(i:Int)<j
    ·exact hlab i hij
    ·obtain rfl:i=j.toNat:=by omega
     rw[hld];exact⟨hkt,hvt⟩
   ·by_cases hij:(i:Int)<j
    ·exact hldist i hij
    ·obtain rfl:i=j.toNat:=by omega
     rw[hld];exact hknin
  ·have hL1:okLb H.labels:=⟨fun x hx=>by
    obtain⟨i,hi,rfl⟩:=List.getElem_of_mem hx
    have:=hlab i (by omega)
    simpa[List.getD_eq_getElem?_getD,hi] using this,zla fun i x hx=>by
    have hi:i<H.labels.length:=by
     have:=(List.getElem?_eq_some_iff.1 hx).1
     simpa using this
    rw[List.getElem?_map,getElem?_getD H.labels default hi] at hx
    have hx:(H.labels.getD i default).key=x:=by simpa using hx
    rw[<-hx,<-List.map_take]
    exact hldist i (by omega)⟩
   refine(zzu H.used H.has w27).mono fun v w28 ⟨e28,t,e,hv,ht⟩=>⟨e28,_,_,hv,fun w31 h31=>?_⟩
   refine(ze0 H.has w31).mono fun v w32 ⟨e32,hv⟩=>⟨e32,_,hv,?_⟩
   refine⟨fun w'=>w'=w26/\okN H.has/\okN H.used/\zk8 H.used H.has,⟨fun hne w36 h36=>?_,fun he0=>⟨fun hne w36 h36=>?_,fun he=>⟨fun hf w36 h36=>?_,fun htt=>?_⟩⟩⟩,?_⟩
   ·have hno:¬okN H.has:=fun h=>hne (zbm.2 h)
    rw[znN hno]
    exact fin (x26.trans h36) (fun _ ho=>hno (ho.2.1 H hm).2.2.2.1) (by omega) (by omega) (nofirst hn 4)
   ·rcases ht with⟨_,_,rfl,_⟩|⟨hno,rfl,_⟩
    ·exact absurd rfl hne
    ·exact fin (x26.trans h36) (fun _ ho=>hno ⟨(ho.2.1 H hm).2.2.2.2.1,(ho.2.1 H hm).2.2.2.1⟩) (by omega) (by omega) (nofirst hn 4)
   ·rcases ht with⟨_,_,_,rfl⟩|⟨_,rfl,_⟩
    ·exact fin (x26.trans h36) (fun _ ho=>by have:=(ho.2.1 H hm).2.2.2.2.2;simp[this] at hf) (by omega) (by omega) (nofirst hn 10)
    ·omega
   ·rcases ht with⟨h1,h2,_,rfl⟩|⟨_,rfl,_⟩
    ·exact⟨rfl,h2,h1,by simpa using htt⟩
    ·omega
   ·rintro w26 ⟨rfl,ha,hu,hfit⟩
    refine⟨i64 (by omega),⟨x26,by omega,by omega,?_,fun i hi=>?_,fun i hi=>?_⟩,by simp only[];omega⟩
    ·rw[show(k+1).toNat=k.toNat+1 by omega,zdo (fun x:Ht=>x.name) default (by omega),hHd];exact Sa
    ·by_cases hik:(i:Int)<k
     ·exact hok i hik
     ·obtain rfl:i=k.toNat:=by omega
      rw[hHd];exact⟨hn,h8,hL1,ha,hu,hfit⟩
    ·by_cases hik:(i:Int)<k
     ·exact hdist i hik
     ·obtain rfl:i=k.toNat:=by omega
      rw[hHd];exact hnin
 ·obtain⟨i,hi,rfl⟩:=List.getElem_of_mem hh
  have:=hok i (by omega)
  simpa[List.getD_eq_getElem?_getD,hi] using this
 ·refine zla fun i x hx=>?_
  have hi:i<L.length:=by
   have:=(List.getElem?_eq_some_iff.1 hx).1
   simpa using this
  rw[List.getElem?_map,getElem?_getD L default hi] at hx
  have hx:(L.getD i default).name=x:=by simpa using hx
  rw[<-hx,<-List.map_take]
  exact hdist i (by omega)
 ·exfalso
  have h0':=(hok 0 (by rw[he] at hge;simp at hge;omega)).1
  have:L.getD 0 default=h:=by rw[he];rfl
  rw[this,hf] at h0';cases h0'
theorem zrx(xs:List Value):∀(vs ys:List Value)(i:Nat),zd0 (xs++ys) (xs.length+i) vs=xs++zd0 ys i vs
 |[],ys,i => rfl
 |v::r,ys,i => by
  simp only[zd0]
  rw[List.set_append_right _ _ (by omega),show xs.length+i-xs.length=i by omega,show xs.length+i+1=xs.length+(i+1) by omega]
  exact zrx xs r _ _
theorem ztZ(ys:List Value):∀(vs xs:List Value)(i:Nat),i+vs.length<=xs.length->zd0 (xs++ys) i vs=zd0 xs i vs++ys
 |[],xs,i,_ => rfl
 |v::r,xs,i,h => by
  simp only[zd0]
  simp only[List.length_cons] at h
  rw[List.set_append_left _ _ (by omega)]
  exact ztZ ys r _ _ (by simp;omega)
theorem zm6{α:Type}{enc:α->List Value}{s:Nat}(hs:∀x,(enc x).length=s)(L:List α)(i j:Nat)(vs:List Value)(x d:α)(hi:i<L.length)(hj:j+vs.length<=s)(he:zd0 (enc (L.getD i d)) j vs=enc x) :
  zd0 (L.flatMap enc) (i*s+j) vs=(L.set i x).flatMap enc:=by
 have hd:L.getD i d=L[i]:=by simp[List.getD_eq_getElem?_getD,hi]
 have h1:L=L.take i++L[i]::L.drop (i+1):=by rw[List.getElem_cons_drop,List.take_append_drop]
 have h2:L.set i x=L.take i++x::L.drop (i+1):=by
  rw[List.set_eq_take_append_cons_drop,if_pos hi]
 rw[h2]
 conv=>lhs;rw[h1]
 simp only[List.flatMap_append,List.flatMap_cons]
 have hl:((L.take i).flatMap enc).length=i*s:=by rw[zfR hs,List.length_take,Nat.min_eq_left (by omega)]
 rw[<-hl,zrx,ztZ _ _ _ _ (by rw[hs];omega),<-hd,he]
structure Hm where
 h:Ht
 q:Option Addr
 d:Nat
instance:Inhabited Hm:=⟨⟨default,none,0⟩⟩
abbrev zky(m:Hm):List Value:=zHB m.h m.q m.d
theorem zgX(m:Hm):(zky m).length=8:=rfl
theorem zBa(m:Hm):∀u∈zky m,u.oneCell'=true:=by
 intro u hu
 simp[zky,zHB] at hu
 rcases hu with rfl|rfl|rfl|rfl|rfl|rfl|rfl|rfl<;>rfl
theorem hs_ms{w:World}{p:Option Addr}{L:List Ht}(h:zkO w p L):∃M:List Hm,M.map (·.h)=L/\zhC 8 zky w p M/\∀m∈M,Lbs w m.q m.h.labels:=by
 have key:∀n,n<=L.length->∃M:List Hm,M.map (·.h)=L.take n/\zhC 8 zky w p M/\∀m∈M,Lbs w m.q m.h.labels:=by
  intro n
  induction n with
  |zero => exact fun _ => ⟨[],rfl,fun i x hx => by simp at hx,fun m hm => by simp at hm⟩
  |succ n ih =>
   intro hn
   obtain⟨M,h1,h2,h3⟩:=ih (by omega)
   have hlen:M.length=n:=by have:=congrArg List.length h1;simp at this;omega
   obtain⟨q,c,h4,h5⟩:=h n L[n] (List.getElem?_eq_getElem (by omega))
   refine⟨M++[⟨L[n],q,c⟩],by rw[List.map_append,h1,List.take_succ_eq_append_getElem (by omega)];rfl,fun i x hx j u hu=>?_,fun m hm=>?_⟩
   ·by_cases hi:i<n
    ·rw[List.getElem?_append_left (by omega)] at hx
     exact h2 i x hx j u hu
    ·rw[List.getElem?_append_right (by omega)] at hx
     have:i-M.length=0:=by
      rcases Nat.eq_zero_or_pos (i-M.length) with h0|h0
      ·exact h0
      ·rw[List.getElem?_eq_none (by simp;omega)] at hx;cases hx
     rw[this] at hx
     simp at hx;subst hx
     obtain rfl:i=n:=by omega
     exact h4 j u hu
   ·rcases List.mem_append.1 hm with hm|hm
    ·exact h3 m hm
    ·simp at hm;subst hm;exact h5
 obtain⟨M,h1,h2⟩:=key L.length (Nat.le_refl _)
 exact⟨M,by simpa using h1,h2⟩
theorem ms_hs{w:World}{p:Option Addr}{M:List Hm}(h:zhC 8 zky w p M)(hl:∀m∈M,Lbs w m.q m.h.labels):zkO w p (M.map (·.h)):=fun i x hx=>by
 rw[List.getElem?_map] at hx
 obtain⟨m,hm,rfl⟩:=Option.map_eq_some_iff.1 hx
 exact⟨m.q,m.d,fun j u hu=>h i m hm j u hu,hl m (List.mem_of_getElem? hm)⟩
theorem zkC{w w':World}{q p:Option Addr}{l:List Lb}(h:Lbs w q l)(ha:l=[]\/zb1 q p)(hg:zcr w w' p p):Lbs w' q l:=by
 rcases ha with rfl|ha
 ·exact fun i x hx=>by simp at hx
 ·intro i x hx j u hu
  have h1:=zom (enc:=zqu) (fun _=>rfl) h
  have h2:=h1.grew ha hg
  have h3:(l.flatMap zqu)[i*2+j]?=some u:=by
   have hi:=(List.getElem?_eq_some_iff.1 hx).1
   have hj:j<2:=(List.getElem?_eq_some_iff.1 hu).1
   have:=zGt (enc:=zqu) (s:=2) (fun _=>rfl) l i
   rw[<-List.getElem?_drop,this,List.drop_eq_getElem_cons hi,List.flatMap_cons,List.getElem?_append_left hj]
   rw[(List.getElem?_eq_some_iff.1 hx).2];exact hu
  exact h2 _ _ h3
theorem zAC(q:Option Addr)(c:Nat)(l:List Lb)(h8:l.length<=8)(w:World)(h:Lbs w q l) :
  FnP Tryz.prog zaH #[.slice q l.length c] w fun v w'=>Ext w w'/\∃q' c',v=.slice q' l.length c'/\Lbs w' q' l/\∀a,q'=some a->w.heap.size<=a.block:=by
 refine zdO q l.length c w _ ⟨fun hn w0 h0=>?_,fun hn=>?_⟩
 ·cases l with
  |nil => exact⟨h0,none,0,rfl,fun i x hx => by simp at hx,fun a ha => by cases ha⟩
  |cons x r => exact absurd hn (h.ne (List.mem_cons_self ..) (by simp))
 ·refine zqp (Q:=fun v w'=>Ext w w'/\∃q' c',v=.slice q' l.length c'/\Lbs w' q' l/\∀a,q'=some a->w.heap.size<=a.block) ziA (by omega) (zom (enc:=zqu) (s:=2) (fun _=>rfl) h) (zfR (enc:=zqu) (s:=2) (fun _=>rfl) l) (zBV (fun x u hu=>?_) l) (by omega) (by omega) hn fun p' c' w' hx o=>⟨hx,p',c',rfl,o.recs fun _ _=>rfl,fun a ha=>(o.lt a ha).1⟩
  simp at hu;rcases hu with rfl|rfl<;>rfl
theorem zt4(p:Option Addr)(c:Nat)(M:List Hm)(h30:M.length<=30)(w:World)(h:zhC 8 zky w p M) :
  FnP Tryz.prog zam #[.slice p M.length c] w fun v w'=>Ext w w'/\∃q' c',v=.slice q' M.length c'/\Own w.heap.size w' ze7 8 q' M.length c' (M.flatMap zky):=by
 refine zej p M.length c w _ ⟨fun hn w0 h0=>?_,fun hn=>?_⟩
 ·cases M with
  |nil => exact⟨h0,none,0,rfl,Own.nil⟩
  |cons x r => exact absurd hn (h.ne (List.mem_cons_self ..) (by simp))
 ·exact zqp (Q:=fun v w'=>Ext w w'/\∃q' c',v=.slice q' M.length c'/\Own w.heap.size w' ze7 8 q' M.length c' (M.flatMap zky)) zgV (by omega) (zom zgX h) (zfR zgX M) (zBV zBa M) (by omega) (by omega) hn fun p' c' w' hx o=>⟨hx,p',c',rfl,o⟩
def LbA(w:World)(p:Option Addr)(m:Hm):Prop:=Lbs w m.q m.h.labels/\(m.h.labels=[]\/zb1 m.q p)
def LbN(n:Nat)(m:Hm):Prop:=m.h.labels=[]\/∀a,m.q=some a->n<=a.block
def HsS(n:Nat)(w:World)(p:Option Addr)(L:List Ht):Prop:=∀S:Nat->Prop,(∀b,S b->b<n)->∀w'',Fr S w w''->zkO w'' p L
theorem HsS.at{n:Nat}{w:World}{p:Option Addr}{L:List Ht}(h:HsS n w p L):zkO w p L:=h (fun _=>False) (fun _ h=>h.elim) w (Fr.refl _ w)
theorem HsS.ext{n:Nat}{w w':World}{p:Option Addr}{L:List Ht}(h:HsS n w p L)(e:Ext w w'):HsS n w' p L:=fun S hS w'' f=>h S hS w'' ((zac e).tr f)
theorem HsS.weak{n m:Nat}{w:World}{p:Option Addr}{L:List Ht}(h:HsS n w p L)(e:m<=n):HsS m w p L:=fun S hS w'' f=>h S (fun b hb=>Nat.lt_of_lt_of_le (hS b hb) e) w'' f
theorem lbs_fr{S:Nat->Prop}{w w':World}{q:Option Addr}{l:List Lb}(h:Lbs w q l)(ha:l=[]\/∀a,q=some a->¬S a.block)(k:Fr S w w'):Lbs w' q l:=fun i x hx j u hu=>by
 rcases ha with rfl|ha
 ·simp at hx
 ·exact zea (h i x hx j u hu) k ha
theorem zFl{n N c:Nat}{w:World}{p:Option Addr}{M:List Hm}(o:Own n w ze7 8 p N c (M.flatMap zky))(hl:∀m∈M,Lbs w m.q m.h.labels)(hn:∀m∈M,LbN n m):HsS n w p (M.map (·.h)):=fun S hS w'' f=>by
 have lt:∀{a:Option Addr},(∀y,a=some y->n<=y.block)->∀y,a=some y->¬S y.block:=fun h y hy hs=>by
  have:=h y hy
  have:=hS _ hs
  omega
 refine ms_hs ((o.fr f (lt fun y hy=>(o.lt y hy).1)).recs fun _ _=>rfl) fun m hm=>lbs_fr (hl m hm) ?_ f
 rcases hn m hm with h|h
 ·exact .inl h
 ·exact .inr (lt h)
theorem own_k(p:Option Addr)(c:Nat)(L:List Ht)(h30:L.length<=30)(h8:∀h∈L,h.labels.length<=8)(w:World)(hL:zkO w p L) :
  FnP Tryz.prog znA #[.slice p L.length c] w fun v w'=>Ext w w'/\∃p' c',∃M:List Hm,v=.slice p' L.length c'/\M.map (·.h)=L/\Own w.heap.size w' ze7 8 p' L.length c' (M.flatMap zky)/\(∀m∈M,LbA w' p' m)/\∀m∈M,LbN w.heap.size m:=by
 refine zzL p L.length c w _ fun w0 h0=>?_
 obtain⟨M0,hM0,hR0,hl0⟩:=hs_ms (hL.ext h0)
 have hlen0:M0.length=L.length:=by rw[<-hM0];simp
 rw[<-hlen0]
 refine(zt4 p c M0 (by omega) w0 hR0).mono fun v w1 ⟨e1,p',c',hv,o1⟩=>⟨e1,p',M0.length,c',hv,?_⟩
 have lt0:∀m∈M0,LbA w1 p' m:=fun m hm=>⟨(hl0 m hm).ext e1,by
  cases hlb:m.h.labels with
  |nil => exact .inl rfl
  |cons x r =>
   refine .inr fun a b ha hb=>?_
   have:=(hl0 m hm).lt (x:=x) (by rw[hlb];exact List.mem_cons_self ..) (by simp) a ha
   have:=(o1.lt b hb).1
   omega⟩
 refine⟨fun k w'=>Ext w w'/\0<=k/\k<=M0.length/\∃M:List Hm,M.map (·.h)=L/\Own w0.heap.size w' ze7 8 p' M0.length c' (M.flatMap zky)/\(∀m∈M,LbA w' p' m)/\∀j,j<k.toNat->∀m,M[j]?=some m->LbN w.heap.size m,fun k _=>(M0.length-k).toNat,⟨h0.trans e1,by omega,by omega,M0,hM0,o1,lt0,fun j hj=>by simp at hj⟩,?_⟩
 rintro k w7 ⟨x7,hk0,hk1,M,hM,o7,hA7,hN7⟩
 have hlen:M.length=M0.length:=by rw[hlen0,<-hM];simp
 refine⟨fun hlt=>?_,fun hge w8 h8=>⟨x7.trans h8,p',c',M,rfl,hM,(o7.ext h8).weak h0.size,fun m hm=>⟨(hA7 m hm).1.ext h8,(hA7 m hm).2⟩,fun m hm=>by
  obtain⟨j,hj⟩:=List.mem_iff_getElem?.1 hm
  have hjl:=(List.getElem?_eq_some_iff.1 hj).1
  exact hN7 j (by omega) m hj⟩⟩
 have r7:zhC 8 zky w7 p' M:=o7.recs fun _ _=>rfl
 have g:=r7.idx default hk0 (by omega) (j:=1) rfl
 have hp':=o7.ne1 (by omega) (by omega)
 have hm:=zat M default (i:=k.toNat) (by omega)
 generalize hmd:M.getD k.toNat default=m at g hm
 have hml:m.h∈L:=by rw[<-hM];exact List.mem_map_of_mem hm
 refine⟨hp',hk0,hlt,fun hq=>hp' (zah.1 hq),m.q,m.h.labels.length,m.d,by rw[zaq];exact g,fun w11 h11=>?_⟩
 refine(zAC m.q m.d m.h.labels (h8 _ hml) w11 ((hA7 m hm).1.ext h11)).mono fun v w12 ⟨e12,q',d',hv,hl',hn'⟩=>⟨e12,q',_,d',hv,hp',hk0,hlt,fun hq=>hp' (zah.1 hq),?_⟩
 have x12:=h11.trans e12
 have o12:=o7.ext x12
 refine zaU o12 zpU (by rw[zfR zgX];simp;omega) (by simp) (by intro v hv;simp at hv;subst hv;rfl) (by simp) fun w16 o16 g16=>?_
 rw[zm6 zgX M k.toNat 1 [.slice q' m.h.labels.length d'] ⟨m.h,q',d'⟩ default (by omega) (by simp) (by rw[hmd];rfl)] at o16
 have hmap:(M.set k.toNat ⟨m.h,q',d'⟩).map (·.h)=L:=by
  rw[List.map_set,hM]
  have hk:k.toNat<L.length:=by omega
  have:L[k.toNat]=m.h:=by
   have h1:(M.map (·.h)).getD k.toNat default=m.h:=by
    rw[<-hmd,List.getD_eq_getElem?_getD,List.getD_eq_getElem?_getD,List.getElem?_map,List.getElem?_eq_getElem (by omega:k.toNat<M.length)];rfl
   rw[hM] at h1
   simpa[List.getD_eq_getElem?_getD,hk] using h1
  rw[<-this,List.set_getElem_self]
 refine⟨i64 (by omega),⟨?_,by omega,by omega,_,hmap,o16,fun m' hm'=>?_,fun j hj m' hm'=>?_⟩,by simp only[];omega⟩
 ·exact g16.ext (x7.trans x12) (o12.weak (by have:=h0.size;omega))
 ·rcases List.mem_or_eq_of_mem_set hm' with hm'|rfl
  ·exact⟨zkC ((hA7 m' hm').1.ext x12) (hA7 m' hm').2 g16,(hA7 m' hm').2⟩
  ·have ha:zb1 q' p':=fun a b ha hb=>by
    have:=hn' a ha
    have:=(o7.lt b hb).2
    have:=h11.size
    omega
   exact⟨zkC hl' (.inr ha) g16,.inr ha⟩
 ·by_cases hjk:j=k.toNat
  ·subst hjk
   rw[List.getElem?_set_self (by omega)] at hm'
   obtain rfl:=Option.some.inj hm'
   exact .inr fun a ha=>(by have:=hn' a ha;have:=x7.size;have:=h11.size;omega)
  ·rw[List.getElem?_set_ne (by omega)] at hm'
   exact hN7 j (by omega) m' hm'
def zgB(h:Ht)(s:Nd):Ht:=⟨h.name,h.labels,h.has,s⟩
theorem zAZ(R:Ht->Nd->Int->Prop)(p:Option Addr)(c:Nat)(L:List Ht)(h63:(L.length:Int)<=9223372036854775807)(hO:∀h∈L,zyv h)(i:Int)(f:Value)(w:World)(hL:zkO w p L)
  (hf:∀h∈L,zJt h->∀q d w',Ext w w'->zgP Tryz.prog f [hv h q d] w' fun v w''=>Ext w' w''/\∃s e,v=.tuple #[nv s,.int .i64 e]/\R h s e) :
  FnP Tryz.prog zfJ #[.slice p L.length c,.int .i64 i,f] w fun v w'=>Ext w w'/\∃p' n' c' e,v=.tuple #[.slice p' n' c',.int .i64 e] /\
   ((e≠0/\n'=0/\(zlM L->0<=i->i<L.length->∃s,R (L.getD i.toNat default) s e)) \/
    (e=0/\zlM L/\0<=i/\i<L.length/\n'=L.length/\n'<=c'/\∃s,R (L.getD i.toNat default) s 0/\HsS w.heap.size w' p' (L.set i.toNat (zgB (L.getD i.toNat default) s)))):=by
 refine zsz p L.length c i f w _ fun w0 h0=>?_
 refine(zus p c L h63 hO w0 (hL.ext h0)).mono fun v w1 ⟨e1,e,hv,he,_,_⟩=>⟨e1,e,hv,fun hne w3 h3=>⟨h3,_,_,_,_,rfl,.inl ⟨hne,rfl,fun ho=>absurd (he.2 ho) hne⟩⟩,fun h0'=>?_⟩
 have hok:=he.1 h0'
 refine⟨fun hout w3 h3=>⟨h3,_,_,_,_,rfl,.inl ⟨by omega,rfl,fun _ _ _=>by omega⟩⟩,fun⟨hi0,hi1⟩=>?_⟩
 obtain⟨q,d,hp,hp8,g,hl⟩:=hL.at hi0 hi1
 have hm:=zat L default (i:=i.toNat) (by omega)
 generalize hHd:L.getD i.toNat default=H at g hl hm
 refine⟨hp,hi0,hi1,hp8,_,g 0 _ rfl,_,_,_,g 1 _ rfl,_,g 2 _ rfl,_,g 3 _ rfl,_,g 4 _ rfl,_,g 5 _ rfl,_,g 6 _ rfl,_,g 7 _ rfl,fun w13 h13=>?_⟩
 obtain⟨fi,cap,hfe,hfp⟩:=hf H hm (hok.2.1 H hm) q d w13 h13
 refine⟨fi,cap,hfe,hfp.mono fun v w14 ⟨e14,s,e',hv',hR⟩=>⟨e14,s.c,s.m,s.g,e',hv',fun b19 hb19=>⟨fun hne w20 h20=>⟨h20,_,_,_,_,rfl,.inl ⟨hne,rfl,fun _ _ _=>⟨s,hR⟩⟩⟩,fun h0' w20 x20=>?_⟩⟩⟩
 subst h0'
 have h20:=zaa x20
 have hb20:b19<w20.heap.size:=x20.lt b19 (by simp)
 refine(own_k p c L hok.1 (fun h hh=>(hok.2.1 h hh).2.1) w20 (hL.ext h20)).mono fun v w21 ⟨e21,p',c',M,hv,hM,o21,hA,hN⟩=>⟨e21,p',_,c',hv,?_⟩
 have hp':=o21.ne1 (by omega) (by omega)
 have hlen:M.length=L.length:=by rw[<-hM];simp
 refine⟨hp',hi0,hi1,fun hq=>hp' (zah.1 hq),?_⟩
 refine zaU o21 zpU (by rw[zfR zgX];simp;omega) (by simp) (by intro v hv;simp at hv;rcases hv with rfl|rfl|rfl<;>rfl) (fun b hb x hx=>by simp at hb;subst hb;have:=(o21.lt x hx).1;omega) fun w25 o25 g25 w26 h26=>?_
 have hmd:(M.getD i.toNat default).h=H:=by
  rw[<-hHd,<-hM,List.getD_eq_getElem?_getD,List.getD_eq_getElem?_getD,List.getElem?_map,List.getElem?_eq_getElem (by omega:i.toNat<M.length)];rfl
 rw[zm6 zgX M i.toNat 5 _ ⟨zgB H s,(M.getD i.toNat default).q,(M.getD i.toNat default).d⟩ default (by omega) (by simp) (by
  show zd0 (zHB (M.getD i.toNat default).h (M.getD i.toNat default).q (M.getD i.toNat default).d) 5 _=zHB (zgB H s) _ _
  rw[hmd];rfl)] at o25
 have hx25:Ext w w25:=g25.ext (h20.trans e21) (o21.weak h20.size)
 refine⟨hx25.trans h26,p',_,c',0,rfl,.inr ⟨rfl,hok,hi0,hi1,rfl,o21.le.1,s,hR,?_⟩⟩
 have:=zFl o25 (fun m hm=>?_) (fun m hm=>?_)
 ·have hmap:(M.set i.toNat ⟨zgB H s,(M.getD i.toNat default).q,(M.getD i.toNat default).d⟩).map (·.h)=L.set i.toNat (zgB H s):=by rw[List.map_set,hM]
  rw[hmap] at this
  exact(this.ext h26).weak h20.size
 ·rcases List.mem_or_eq_of_mem_set hm with hm|rfl
  ·exact zkC (hA m hm).1 (hA m hm).2 g25
  ·have hmm:=zat M default (i:=i.toNat) (by omega)
   have:=zkC (hA _ hmm).1 (hA _ hmm).2 g25
   rw[hmd] at this
   exact this
 ·rcases List.mem_or_eq_of_mem_set hm with hm|rfl
  ·exact hN m hm
  ·have hmm:=zat M default (i:=i.toNat) (by omega)
   have:=hN _ hmm
   unfold LbN at this ⊢
   rw[hmd] at this
   exact this
theorem zmN{w:World}{p:Option Addr}{a:Nd}(h:zD3 w p a):Go.Sx.cell w p 0=some (.int .i64 a.c)/\Go.Sx.cell w p 1=some (.int .i64 a.m)/\Go.Sx.cell w p 2=some (.int .i64 a.g):=⟨h 0 _ rfl,h 1 _ rfl,h 2 _ rfl⟩
theorem Take_k(p:Option Addr)(c:Nat)(L:List Ht)(h63:(L.length:Int)<=9223372036854775807)(hO:∀h∈L,zyv h)(i:Int)(a:Nd)(w:World)(hL:zkO w p L) :
  FnP Tryz.prog zlo #[.slice p L.length c,.int .i64 i,nv a] w fun v w'=>Ext w w'/\∃p' n' c' e,v=.tuple #[.slice p' n' c',.int .i64 e] /\
   ((e≠0/\n'=0/\(zlM L->0<=i->i<L.length->¬(okN a/\zk8 a (zjp (L.getD i.toNat default).has (L.getD i.toNat default).used)))) \/
    (e=0/\zlM L/\0<=i/\i<L.length/\n'=L.length/\n'<=c'/\okN a/\zk8 a (zjp (L.getD i.toNat default).has (L.getD i.toNat default).used)/\HsS w.heap.size w' p' (L.set i.toNat (zgB (L.getD i.toNat default) (zyz (L.getD i.toNat default).used a))))):=by
 refine zxn p L.length c i a.c a.m a.g w _ fun w0 h0=>?_
 refine zK2 (x:=a) fun p1 w1 e1 hN hp1 w2 h2=>?_
 have x2:=(h0.trans e1).trans h2
 refine(zAZ (fun h s e=>(e≠0/\¬(okN a/\zk8 a (zjp h.has h.used)))\/(e=0/\s=zyz h.used a/\okN a/\zk8 a (zjp h.has h.used))) p c L h63 hO i _ w2 (hL.ext x2) fun h hh hok q d w3 h3=>?_).mono fun v w4 ⟨e4,p',n',c',e,hv,hr⟩=>⟨e4,_,_,_,_,hv,fun w8 h8=>⟨(x2.trans e4).trans h8,_,_,_,_,rfl,?_⟩⟩
 ·refine⟨zij,#[.pointer p1],rfl,(zsy h.name q h.labels.length d h.has.c h.has.m h.has.g h.used.c h.used.m h.used.g p1 w3 _ ?_:FnP Tryz.prog zij #[hv h q d,.pointer p1] w3 _)⟩
  intro b0 hb0 b1 hb1 w5 h5
  refine(zBL h.has h.used w5).mono fun v w6 ⟨e6,s,e,hv,hs⟩=>⟨e6,_,_,_,_,hv,fun b8 hb8=>?_⟩
  have hs:e=0/\s=zjp h.has h.used:=by
   rcases hs with⟨_,_,_,h1,h2⟩|⟨hno,_⟩|⟨_,_,hno,_⟩
   · exact⟨h1,h2⟩
   · exact absurd ⟨hok.2.2.2.1,hok.2.2.2.2.1⟩ hno
   · exact absurd hok.2.2.2.2.2 hno
  obtain⟨rfl,rfl⟩:=hs
  have hN3:=zmN (zaw.ext hN (h2.trans h3))
  refine⟨hp1,_,hN3.1,_,hN3.2.1,_,hN3.2.2,fun w12 h12=>?_⟩
  refine(zBL (zjp h.has h.used) a w12).mono fun v w13 ⟨e13,s,e,hv,hs⟩=>⟨e13,_,_,_,_,hv,fun b18 hb18=>?_⟩
  have hsub:okN (zjp h.has h.used):=by
   obtain⟨h1,h2,h3⟩:=hok.2.2.2.1
   obtain⟨h4,h5,h6⟩:=hok.2.2.2.2.1
   obtain⟨h7,h8,h9⟩:=hok.2.2.2.2.2
   refine⟨?_,?_,?_⟩<;>simp only[zjp]<;>omega
  rcases hs with⟨_,ha,hfit,rfl,rfl⟩|⟨hno,rfl,rfl⟩|⟨_,ha,hno,rfl,rfl⟩
  ·refine⟨fun hne=>absurd rfl hne,fun _=>⟨hp1,_,hN3.1,_,hN3.2.1,_,hN3.2.2,fun w22 h22=>?_⟩⟩
   refine(nAdd_k h.used a w22).mono fun v w23 ⟨e23,s,e,hv,hs⟩=>⟨e23,_,_,_,_,hv,fun w28 h28=>⟨h28,s,e,rfl,.inr ?_⟩⟩
   rcases hs with⟨_,_,_,h1,h2⟩|⟨hno,_⟩|⟨_,_,hno,_⟩
   · exact⟨h1,h2,ha,hfit⟩
   · exact absurd ⟨hok.2.2.2.2.1,ha⟩ hno
   · refine absurd ?_ hno
     obtain⟨h1,h2,h3⟩:=hok.2.2.2.1
     obtain⟨h4,h5,h6⟩:=hok.2.2.2.2.1
     obtain⟨h7,h8,h9⟩:=ha
     obtain⟨h10,h11,h12⟩:=hfit
     simp only[zjp] at h10 h11 h12
     refine⟨?_,?_,?_⟩<;>simp only[zyz]<;>omega
  ·exact⟨fun _ w19 h19=>⟨h19,zbh,_,rfl,.inl ⟨by omega,fun hc=>hno ⟨hsub,hc.1⟩⟩⟩,fun h=>by omega⟩
  ·exact⟨fun _ w19 h19=>⟨h19,zbh,_,rfl,.inl ⟨by omega,fun hc=>hno hc.2⟩⟩,fun h=>by omega⟩
 ·rcases hr with⟨hne,hn,hno⟩|⟨he,hok,hi0,hi1,hn,hc,s,hR,hAt⟩
  ·refine .inl ⟨hne,hn,fun hok hi0 hi1=>?_⟩
   obtain⟨s,hR⟩:=hno hok hi0 hi1
   rcases hR with⟨_,h⟩|⟨h,_⟩
   · exact h
   · exact absurd h hne
  ·rcases hR with⟨h,_⟩|⟨_,rfl,ha,hfit⟩
   · exact absurd rfl h
   · exact .inr ⟨he,hok,hi0,hi1,hn,hc,ha,hfit,(hAt.ext h8).weak x2.size⟩
theorem Give_k(p:Option Addr)(c:Nat)(L:List Ht)(h63:(L.length:Int)<=9223372036854775807)(hO:∀h∈L,zyv h)(i:Int)(a:Nd)(w:World)(hL:zkO w p L) :
  FnP Tryz.prog zln #[.slice p L.length c,.int .i64 i,nv a] w fun v w'=>Ext w w'/\∃p' n' c' e,v=.tuple #[.slice p' n' c',.int .i64 e] /\
   ((e≠0/\n'=0/\(zlM L->0<=i->i<L.length->¬(okN a/\zk8 a (L.getD i.toNat default).used))) \/
    (e=0/\zlM L/\0<=i/\i<L.length/\n'=L.length/\n'<=c'/\HsS w.heap.size w' p' (L.set i.toNat (zgB (L.getD i.toNat default) (zjp (L.getD i.toNat default).used a))))):=by
 refine zxm p L.length c i a.c a.m a.g w _ fun w0 h0=>?_
 refine zK2 (x:=a) fun p1 w1 e1 hN hp1 w2 h2=>?_
 have x2:=(h0.trans e1).trans h2
 refine(zAZ (fun h s e=>(e≠0/\¬(okN a/\zk8 a h.used))\/(e=0/\s=zjp h.used a)) p c L h63 hO i _ w2 (hL.ext x2) fun h hh hok q d w3 h3=>?_).mono fun v w4 ⟨e4,p',n',c',e,hv,hr⟩=>⟨e4,_,_,_,_,hv,fun w8 h8=>⟨(x2.trans e4).trans h8,_,_,_,_,rfl,?_⟩⟩
 ·refine⟨zii,#[.pointer p1],rfl,(zsx h.name q h.labels.length d h.has.c h.has.m h.has.g h.used.c h.used.m h.used.g p1 w3 _ ?_:FnP Tryz.prog zii #[hv h q d,.pointer p1] w3 _)⟩
  intro b0 hb0 b1 hb1
  have hN3:=zmN (zaw.ext hN (h2.trans h3))
  refine⟨hp1,_,hN3.1,_,hN3.2.1,_,hN3.2.2,fun w5 h5=>?_⟩
  refine(zBL h.used a w5).mono fun v w6 ⟨e6,s,e,hv,hs⟩=>⟨e6,_,_,_,_,hv,fun w11 h11=>⟨h11,s,e,rfl,?_⟩⟩
  rcases hs with⟨_,ha,hfit,rfl,rfl⟩|⟨hno,rfl,rfl⟩|⟨_,ha,hno,rfl,rfl⟩
  ·exact .inr ⟨rfl,rfl⟩
  ·exact .inl ⟨by omega,fun hc=>hno ⟨hok.2.2.2.2.1,hc.1⟩⟩
  ·exact .inl ⟨by omega,fun hc=>hno hc.2⟩
 ·rcases hr with⟨hne,hn,hno⟩|⟨he,hok,hi0,hi1,hn,hc,s,hR,hAt⟩
  ·refine .inl ⟨hne,hn,fun hok hi0 hi1=>?_⟩
   obtain⟨s,hR⟩:=hno hok hi0 hi1
   rcases hR with⟨_,h⟩|⟨h,_⟩
   · exact h
   · exact absurd h hne
  ·rcases hR with⟨h,_⟩|⟨_,rfl⟩
   · exact absurd rfl h
   · exact .inr ⟨he,hok,hi0,hi1,hn,hc,(hAt.ext h8).weak x2.size⟩
theorem zIF(k:Int)(key val:ByteArray)(n:Int)(l:Nat):zma k key val n l≠5:=by
 unfold zma
 repeat' split
 all_goals omega
theorem zBg:∀{xs:List AT},(∀x∈xs,zfw x≠5)->zCV xs≠5
 |[],_ => by unfold zCV;omega
 |x::r,h => by
  unfold zCV
  split
  ·exact h x (List.mem_cons_self ..)
  ·exact zBg fun y hy=>h y (List.mem_cons_of_mem _ hy)
theorem zIG(t:AT):zfw t≠5:=by
 refine AT.ind (P:=fun t=>zfw t≠5) (fun k key val n xs h=>?_) t
 unfold zfw
 split
 ·exact zIF _ _ _ _ _
 ·exact zBg h
theorem zIH(t:AT):znu t≠5:=by
 unfold znu
 split
 ·omega
 ·exact zIG t
def zbX(L:List Ht)(i:Int):Nd:=zjp (L.getD i.toNat default).has (L.getD i.toNat default).used
def zIP(L:List Ht)(t:AT)(a:Nd)(i:Nat):Bool:=zyD (atH (L.getD i default)) t&&decide (zk8 a (zjp (L.getD i default).has (L.getD i default).used))
def zcf(L:List Ht)(t:AT)(a:Nd)(k:Nat):List Int:=((List.range k).filter (zIP L t a)).map (Int.ofNat ·)
theorem zy9(L:List Ht)(t:AT)(a:Nd)(k:Nat):zcf L t a (k+1)=if zIP L t a k=true then zcf L t a k++[(k:Int)] else zcf L t a k:=by
 unfold zcf
 rw[List.range_succ,List.filter_append,List.map_append]
 by_cases h:zIP L t a k=true<;>simp[h]
theorem zpL{L:List Ht}{t:AT}{a:Nd}{k:Nat}{x:Int}:x∈zcf L t a k↔0<=x/\x<k/\zIP L t a x.toNat=true:=by
 unfold zcf
 simp only[List.mem_map,List.mem_filter,List.mem_range]
 constructor
 ·rintro⟨n,⟨h1,h2⟩,rfl⟩
  exact⟨Int.natCast_nonneg n,by simpa using h1,by simpa using h2⟩
 ·rintro⟨h1,h2,h3⟩
  exact⟨x.toNat,⟨by omega,h3⟩,Int.toNat_of_nonneg h1⟩
theorem ziD(L:List Ht)(t:AT)(a:Nd)(k:Nat):(zcf L t a k).length<=k:=by
 unfold zcf
 rw[List.length_map]
 exact Nat.le_trans (List.length_filter_le _ _) (by simp)
theorem zza(L:List Ht)(t:AT)(a:Nd)(k:Nat):(zcf L t a k).Pairwise (·<·):=by
 unfold zcf
 rw[List.pairwise_map]
 exact((List.pairwise_lt_range (n:=k)).filter _).imp fun h=>by simpa using h
def zzz(L:List Ht)(t:AT)(a:Nd):Prop:=zlM L/\znu t=0/\okN a
theorem zFF{h:Ht}(hok:zJt h):okN (zjp h.has h.used):=by
 obtain⟨h1,h2,h3⟩:=hok.2.2.2.1
 obtain⟨h4,h5,h6⟩:=hok.2.2.2.2.1
 obtain⟨h7,h8,h9⟩:=hok.2.2.2.2.2
 refine⟨?_,?_,?_⟩<;>simp only[zjp]<;>omega
theorem zCc{h:Ht}(hok:zJt h)(w:World):FnP Tryz.prog zcO #[nv h.has,nv h.used] w fun v w'=>Ext w w'/\v=.tuple #[nv (zjp h.has h.used),.int .i64 0] :=
 (zBL h.has h.used w).mono fun v w' ⟨e,s,f,hv,hs⟩=>⟨e,by
  rcases hs with⟨_,_,_,rfl,rfl⟩|⟨hno,_⟩|⟨_,_,hno,_⟩
  ·exact hv
  ·exact absurd ⟨hok.2.2.2.1,hok.2.2.2.2.1⟩ hno
  ·exact absurd hok.2.2.2.2.2 hno⟩
theorem Fit_k(p:Option Addr)(c:Nat)(L:List Ht)(h63:(L.length:Int)<=9223372036854775807)(hO:∀h∈L,zyv h)(t:AT)(px:Option Addr)(cx:Nat)(hW:WfA t)(a:Nd)(w:World)(hL:zkO w p L)(hT:IsT w t px cx) :
  FnP Tryz.prog znz #[.slice p L.length c,av t px cx,nv a] w fun v w'=>Ext w w'/\∃q n d e,v=.tuple #[.slice q n d,.int .i64 e]/\e≠5/\(∀x,q=some x->w.heap.size<=x.block) /\
   ((e≠0/\n=0/\¬zzz L t a)\/(e=0/\zzz L t a/\n=(zcf L t a L.length).length/\zes .i64 w' q (zcf L t a L.length))):=by
 refine zzK p L.length c t.k t.key t.val t.n px t.xs.length cx a.c a.m a.g w _ fun b0 hb0 b1 hb1 w2 h2=>?_
 refine(zus p c L h63 hO w2 (hL.ext h2)).mono fun v w3 ⟨e3,e,hv,he,h5,_⟩=>⟨e3,e,hv,fun hne w5 h5'=>⟨h5',_,_,_,_,rfl,h5,fun x hx=>by(cases hx),.inl ⟨hne,rfl,fun ho=>hne (he.2 ho.1)⟩⟩,fun h0 w5 h5=>?_⟩
 have hok:=he.1 h0
 refine(zp7 t px cx w5 (hT.ext h5 _ _ _) hW).mono fun v w6 ⟨e6,hv⟩=>⟨e6,_,hv,fun hne w8 h8=>⟨h8,_,_,_,_,rfl,zIH t,fun x hx=>by(cases hx),.inl ⟨hne,rfl,fun ho=>hne ho.2.1⟩⟩,fun hc w8 h8=>?_⟩
 refine(ze0 a w8).mono fun v w9 ⟨e9,hv⟩=>⟨e9,_,hv,fun hne w11 h11=>⟨h11,_,_,_,_,rfl,(by unfold zBh;split<;>omega),fun x hx=>by(cases hx),.inl ⟨hne,rfl,fun ho=>hne (zbm.2 ho.2.2)⟩⟩,fun ha=>?_⟩
 have ha:=zbm.1 ha
 refine⟨fun q l d k w'=>Ext w w'/\0<=k/\k<=L.length/\l=(zcf L t a k.toNat).length/\Own w.heap.size w' zgu 1 q l d ((zcf L t a k.toNat).map (.int .i64))/\∀b∈[b0,b1],∀x,q=some x->x.block≠b,
  fun _ _ _ k _=>(L.length-k).toNat,⟨Ext.refl w,by omega,by omega,rfl,Own.nil,fun b _ x hx=>by cases hx⟩,?_⟩
 rintro q l d k w14 ⟨x14,hk0,hk1,rfl,o14,hb14⟩
 refine⟨fun hlt=>?_,fun hge w15 h15=>⟨x14.trans h15,q,_,d,0,rfl,by omega,fun x hx=>(o14.lt x hx).1,.inr ⟨rfl,⟨hok,hc,ha⟩,?_,?_⟩⟩⟩
 ·obtain⟨qh,dh,hp,hp8,g,hLb⟩:=(hL.ext x14).at hk0 hlt
  have hm:=zat L default (i:=k.toNat) (by omega)
  have hfit:zIP L t a k.toNat=(zyD (atH (L.getD k.toNat default)) t&&decide (zk8 a (zjp (L.getD k.toNat default).has (L.getD k.toNat default).used))):=rfl
  generalize hHd:L.getD k.toNat default=H at g hLb hm hfit
  have hoH:=hok.2.1 H hm
  refine⟨hp,hk0,hlt,hp8,_,g 0 _ rfl,_,_,_,g 1 _ rfl,_,g 2 _ rfl,_,g 3 _ rfl,_,g 4 _ rfl,_,g 5 _ rfl,_,g 6 _ rfl,_,g 7 _ rfl,fun b25 hb25 w26 h26=>?_⟩
  refine(zCc hoH w26).mono fun v w27 ⟨e27,hv⟩=>⟨e27,_,_,_,_,hv,fun b32 hb32 w33 h33=>?_⟩
  refine(zLs t px cx H qh dh (hO H hm).2.1 w33 (hT.ext (x14.trans h33) _ _ _) hW (hLb.ext h33)).mono fun v w34 ⟨e34,hv⟩=>⟨e34,_,_,hv,fun w37 h37=>?_⟩
  rw[if_pos hc]
  refine(zzu a (zjp H.has H.used) w37).mono fun v w38 ⟨e38,tt,e,hv,ht⟩=>⟨e38,_,_,hv,?_⟩
  have ht:tt=decide (zk8 a (zjp H.has H.used)):=by
   rcases ht with⟨_,_,_,h⟩|⟨hno,_⟩
   ·exact h
   ·exact absurd ⟨ha,zFF hoH⟩ hno
  subst ht
  have hsucc:=zy9 L t a k.toNat
  refine⟨fun hb w41 x41=>?_,fun hb=>?_⟩
  ·have hyes:zIP L t a k.toNat=true:=by rw[hfit,hb.1,hb.2];rfl
   rw[if_pos hyes] at hsucc
   have hln:=ziD L t a k.toNat
   have hs14:=x14.size
   have h30:=hok.1
   refine zhZ (e:=zgu) (B:=w.heap.size) (ns:=[b0,b1,b25,b32]) zga o14 hs14 (fun b hb x hx=>?_) (by omega) (by omega) (fun p' c' w' o' g' hp' hns'=>⟨i64 (by omega),⟨?_,by omega,by omega,?_,?_,fun b hb x hx=>hns' b (by simp at hb ⊢;rcases hb with rfl|rfl<;>simp) x hx⟩,by simp only[];omega⟩) w41 x41
   ·have:=o14.lt x hx
    simp at hb
    rcases hb with rfl|rfl|rfl|rfl
    ·exact hb14 _ (by simp) x hx
    ·exact hb14 _ (by simp) x hx
    ·omega
    ·omega
   ·exact g'.ext x14 o14
   ·rw[show(k+1).toNat=k.toNat+1 by omega,hsucc];simp
   ·rw[show(k+1).toNat=k.toNat+1 by omega,hsucc]
    rw[show((k.toNat:Nat):Int)=k by omega]
    exact o'
  ·have hno:zIP L t a k.toNat=false:=by
    rw[hfit]
    rcases hb with hb|hb<;>rw[hb]<;>simp
   rw[hno] at hsucc
   rw[if_neg (by simp)] at hsucc
   refine⟨i64 (by omega),⟨x14,by omega,by omega,?_,?_,hb14⟩,by simp only[];omega⟩
   ·rw[show(k+1).toNat=k.toNat+1 by omega,hsucc]
   ·rw[show(k+1).toNat=k.toNat+1 by omega,hsucc];exact o14
 ·rw[show k.toNat=L.length by omega]
 ·rw[show k.toNat=L.length by omega] at o14
  exact(o14.ext h15).cells
theorem zD2(p:Option Addr)(c:Nat)(X:List Int)(h63:(X.length:Int)<=9223372036854775807)(hX:X≠[])(f:Value)(C:Int->Int->Int)(hC:∀x y z,C x y<0->0<=C z y->0<=C z x)(hR:∀x,0<=C x x)(w:World)(h:zes .i64 w p X)
  (hT:∀x y,C x y<0->0<=C y x) (hS:∀x y z,C x y<0->0<=C z y->C x z<0)
  (hf:∀x∈X,∀y∈X,∀w',Ext w w'->zgP Tryz.prog f [.int .i64 x,.int .i64 y] w' fun v w''=>Ext w' w''/\v=.int .i64 (C x y)) :
  FnP Tryz.prog zcj #[.slice p X.length c,f] w fun v w'=>Ext w w'/\∃m,v=.int .i64 m/\m∈X/\(∀y∈X,0<=C y m)/\∃a:Nat,a<X.length/\X.getD a 0=m/\∀j,j<a->C m (X.getD j 0)<0:=by
 have hlen:0<X.length:=by cases X with|nil=>exact absurd rfl hX|cons=>simp
 refine zhr p X.length c f w _ ⟨fun hlt=>by omega,fun _=>?_⟩
 have g0:=zes.idx h (i:=0) (by omega) (by omega)
 have hm0:=zat X 0 (i:=0) (by omega)
 refine⟨fun hq=>zal g0 (zah.2 hq),by omega,by omega,_,g0,?_⟩
 refine⟨fun m i w'=>w'=w/\1<=i/\i<=X.length/\m∈X/\(∀j:Nat,(j:Int)<i->0<=C (X.getD j 0) m)/\∃a:Nat,(a:Int)<i/\X.getD a 0=m/\∀j,j<a->C m (X.getD j 0)<0,fun _ i _=>(X.length-i).toNat,⟨rfl,by omega,by omega,hm0,fun j hj=>?_,0,by omega,rfl,fun j hj=>by omega⟩,?_⟩
 ·obtain rfl:j=0:=by omega
  exact hR _
 rintro m i w4 ⟨rfl,hi0,hi1,hmm,hall,a,ha,ham,haj⟩
 refine⟨fun hlt=>?_,fun hge w5 h5=>⟨h5,m,rfl,hmm,fun y hy=>?_,a,by omega,ham,haj⟩⟩
 ·have g:=zes.idx h (i:=i) (by omega) hlt
  have hx:=zat X 0 (i:=i.toNat) (by omega)
  have hp:p≠none:=fun hq=>zal g (zah.2 hq)
  refine⟨hp,by omega,hlt,_,g,fun w6 h6=>?_⟩
  obtain⟨fi,cap,hfe,hfp⟩:=hf _ hx m hmm w6 h6
  refine⟨fi,cap,hfe,hfp.mono fun v w7 ⟨e7,hv⟩=>⟨e7,_,hv,fun hneg=>⟨hp,by omega,hlt,_,g,i64 (by omega),⟨rfl,by omega,by omega,hx,fun j hj=>?_,i.toNat,by omega,rfl,fun j hj=>hS _ _ _ hneg (hall j (by omega))⟩,by simp only[];omega⟩,fun hpos=>⟨i64 (by omega),⟨rfl,by omega,by omega,hmm,fun j hj=>?_,a,by omega,ham,haj⟩,by simp only[];omega⟩⟩⟩
  ·by_cases hji:(j:Int)<i
   ·exact hC _ _ _ hneg (hall j hji)
   ·obtain rfl:j=i.toNat:=by omega
    exact hR _
  ·by_cases hji:(j:Int)<i
   ·exact hall j hji
   ·obtain rfl:j=i.toNat:=by omega
    exact hpos
 ·obtain⟨j,hj,rfl⟩:=List.getElem_of_mem hy
  have:=hall j (by omega)
  simpa[List.getD_eq_getElem?_getD,hj] using this
def zyA(a b:Int):Int:=if a<b then -1 else if b<a then 1 else 0
theorem zp8(x y:Int)(w:World):FnP Tryz.prog zbO #[.int .i64 x,.int .i64 y] w fun v w'=>Ext w w'/\v=.int .i64 (zyA x y):=by
 have nan:∀(x:Int)(w:World),FnP Tryz.prog zdh #[.int .i64 x] w fun v w'=>Ext w w'/\v=.bool false:=fun x w=>zmU x w _ fun w0 h0=>⟨h0,by simp⟩
 refine zkR x y w _ fun w0 h0=>(nan x w0).mono fun v w1 ⟨e1,hv⟩=>⟨e1,_,hv,fun w3 h3=>(nan y w3).mono fun v w4 ⟨e4,hv⟩=>⟨e4,_,hv,fun h=>by(cases h),fun _=>⟨fun h=>by(cases h),fun _=>⟨fun hlt w6 h6=>⟨h6,?_⟩,fun hge=>⟨fun hlt w6 h6=>⟨h6,?_⟩,fun hle w6 h6=>⟨h6,?_⟩⟩⟩⟩⟩⟩
 ·unfold zyA;rw[if_pos hlt]
 ·unfold zyA;rw[if_neg (by omega),if_pos hlt]
 ·unfold zyA;rw[if_neg (by omega),if_neg (by omega)]
theorem Or3_k(p:Option Addr)(c:Nat)(a b d:Int)(w:World)(h:zes .i64 w p [a,b,d]):FnP Tryz.prog zjG #[.slice p 3 c] w fun v w'=>Ext w w'/\v=.int .i64 (if a≠0 then a else if b≠0 then b else d):=by
 refine zuX p 3 c w _ ?_
 refine⟨fun k w'=>w'=w/\0<=k/\k<=3/\∀j:Nat,(j:Int)<k->[a,b,d].getD j 0=0,fun k _=>(3-k).toNat,⟨rfl,by omega,by omega,fun j hj=>by omega⟩,?_⟩
 rintro k w2 ⟨rfl,hk0,hk1,hz⟩
 refine⟨fun hlt=>?_,fun hge w3 h3=>⟨h3,?_⟩⟩
 ·have hlt:k<3:=by simpa using hlt
  have g:=zes.idx h hk0 (by simpa using hlt)
  refine⟨fun hq=>zal g (zah.2 hq),hk0,by simpa using hlt,_,g,fun hne w4 h4=>⟨h4,?_⟩,fun he=>⟨i64 (by omega),⟨rfl,by omega,by omega,fun j hj=>?_⟩,by simp only[];omega⟩⟩
  ·have:k=0\/k=1\/k=2:=by omega
   rcases this with rfl|rfl|rfl
   ·rw[if_pos (by simpa using hne)];rfl
   ·have h0:=hz 0 (by omega)
    rw[if_neg (by simpa using h0),if_pos (by simpa using hne)];rfl
   ·have h0:=hz 0 (by omega)
    have h1:=hz 1 (by omega)
    rw[if_neg (by simpa using h0),if_neg (by simpa using h1)];rfl
  ·by_cases hjk:(j:Int)<k
   ·exact hz j hjk
   ·obtain rfl:j=k.toNat:=by omega
    exact he
 ·obtain rfl:k=3:=by simp at hge;omega
  have h0:=hz 0 (by omega)
  have h1:=hz 1 (by omega)
  have h2:=hz 2 (by omega)
  rw[if_neg (by simpa using h0),if_neg (by simpa using h1)]
  exact congrArg _ (by simpa using h2.symm)
def zyW(a b:Nd):Int:=if zyA a.c b.c≠0 then zyA a.c b.c else if zyA a.m b.m≠0 then zyA a.m b.m else zyA a.g b.g
theorem zfO{a b:Nd}:zyW a b<0↔a.c<b.c\/a.c=b.c/\(a.m<b.m\/a.m=b.m/\a.g<b.g):=by
 unfold zyW zyA
 repeat' split
 all_goals omega
theorem zM7(p1 p:Option Addr)(c:Nat)(L:List Ht)(hok:zlM L)(i:Int)(hi0:0<=i)(hi1:i<L.length)(w:World)(hc:Go.Sx.cell w p1 0=some (.slice p L.length c))(hL:zkO w p L) :
  FnP Tryz.prog zdl #[.int .i64 i,.pointer p1] w fun v w'=>Ext w w'/\v=nv (zbX L i):=by
 obtain⟨q,d,hp,hp8,g,_⟩:=hL.at hi0 hi1
 have hm:=hok.2.1 _ (zat L default (i:=i.toNat) (by omega))
 have hlf:zbX L i=zjp (L.getD i.toNat default).has (L.getD i.toNat default).used:=rfl
 generalize hHd:L.getD i.toNat default=H at g hm hlf
 have g':∀(o j:Nat) u,(zHB H q d)[o+j]?=some u->Go.Sx.cell w (pAdd (pIdx p i 8) o) j=some u:=fun o j u hu=>by rw[zaq];exact g _ u hu
 have x2:=zal (g' 2 0 _ rfl)
 have x5:=zal (g' 5 0 _ rfl)
 refine zsv i p1 w _ fun b0 hb0=>⟨fun n e w'=>Ext w w'/\zD3 w' n (zbX L i),⟨p,L.length,c,hc,hp,hi0,hi1,hp8,x2,_,g' 2 0 _ rfl,_,g' 2 1 _ rfl,_,g' 2 2 _ rfl,p,L.length,c,hc,hp,hi0,hi1,hp8,x5,_,g' 5 0 _ rfl,_,g' 5 1 _ rfl,_,g' 5 2 _ rfl,?_,?_⟩,?_⟩
 ·intro w17 h17
  refine(zCc hm w17).mono fun v w18 ⟨e18,hv⟩=>⟨e18,_,_,_,_,hv,fun w23 x23=>?_⟩
  have hb:b0<w23.heap.size:=x23.lt b0 (by simp)
  refine(zdr.nil (ns:=[b0]) (zaa x23)).new_row (by intro v hv;simp at hv;subst hv;rfl) (by simpa using hb) fun p24 w24 H24 e24=>?_
  refine H24.store 0 rfl 0 (zeZ _) (by simp) (by simp) (by intro v hv;simp at hv;rcases hv with rfl|rfl|rfl<;>rfl) (by have:=e24.size;simp;omega) fun w25 H25 g25=>⟨H25.ext,?_⟩
  rw[hlf]
  exact(H25.get 0 rfl).cells
 ·intro w17 x17
  have hb:b0<w17.heap.size:=x17.lt b0 (by simp)
  refine(zdr.nil (ns:=[b0]) (zaa x17)).new_row (by intro v hv;simp at hv;subst hv;rfl) (by simpa using hb) fun p18 w18 H18 e18 w19 h19=>?_
  refine(zCc hm w19).mono fun v w20 ⟨e20,hv⟩=>⟨e20,_,_,_,_,hv,?_⟩
  refine H18.store 0 rfl 0 (zeZ _) (by simp) (by simp) (by intro v hv;simp at hv;rcases hv with rfl|rfl|rfl<;>rfl) (by have:=e18.size;simp;omega) fun w25 H25 g25=>⟨H25.ext,?_⟩
  rw[hlf]
  exact(H25.get 0 rfl).cells
 ·rintro n e w4 ⟨x4,hN⟩
  have hN3:=zmN hN
  exact⟨zal hN3.1,_,hN3.1,_,hN3.2.1,_,hN3.2.2,fun w8 x8=>⟨zy5 x8 x4 hb0,rfl⟩⟩
theorem zM8(p14 p1 p:Option Addr)(c:Nat)(L:List Ht)(hok:zlM L)(i:Int)(hi0:0<=i)(hi1:i<L.length)(k:Int)(hk0:0<=k)(hk1:k<L.length)(w:World)(hc:Go.Sx.cell w p1 0=some (.slice p L.length c))(hL:zkO w p L)
  (hf:Go.Sx.cell w p14 0=some (.func (.func zdl) #[] #[.pointer p1])) :
  FnP Tryz.prog zih #[.int .i64 i,.int .i64 k,.pointer p14] w fun v w'=>Ext w w'/\v=.int .i64 (zyW (zbX L i) (zbX L k)):=by
 have call:∀j:Int,0<=j->j<L.length->∀w',Ext w w'->zgP Tryz.prog (.func (.func zdl) #[] #[.pointer p1]) [.int .i64 j] w' fun v w''=>Ext w' w''/\v=nv (zbX L j):=fun j h0 h1 w' hx =>
  ⟨zdl,#[.pointer p1],rfl,zM7 p1 p c L hok j h0 h1 w' (zar hx hc) (hL.ext hx)⟩
 have calli:=call i hi0 hi1
 have callk:=call k hk0 hk1
 have vmono:∀{f:Value}{args:List Value}{w:World}{K K':Value->World->Prop},zgP Tryz.prog f args w K->(∀v w',K v w'->K' v w')->zgP Tryz.prog f args w K':=fun⟨f,c,h1,h2⟩ hk=>⟨f,c,h1,h2.mono hk⟩
 have H0:zdr w [] w []:=zdr.nil (Ext.refl w)
 let row:Option Addr->Nd->zpd:=fun p x=>⟨zjk,3,p,1,1,zyB x⟩
 refine zsw i k p14 w _ ⟨fun a b w'=>∃rs,zdr w [] w' rs/\∃m n:Nat,rs[m]?=some (row a (zbX L i))/\rs[n]?=some (row b (zbX L k)),⟨_,hf,_,hf,?_⟩,?_⟩
 ·repeat' (first
   |exact⟨_,by assumption,0,1,rfl,rfl⟩
   |exact⟨_,by assumption,1,0,rfl,rfl⟩
   |(refine(by assumption:zdr w [] _ _).new_row (by intro v hv;simp at hv;subst hv;rfl) (by simp) fun _ _ _ _ => ?_)
   |(refine zdr.store (by assumption) 0 (e:=zjk) (s:=3) rfl 0 (zeZ _) (by simp) (by simp) (by intro v hv;simp at hv;rcases hv with rfl|rfl|rfl<;>rfl) (by simp) fun _ _ _ => ?_)
   |(refine zdr.store (by assumption) 1 (e:=zjk) (s:=3) rfl 0 (zeZ _) (by simp) (by simp) (by intro v hv;simp at hv;rcases hv with rfl|rfl|rfl<;>rfl) (by simp) fun _ _ _ => ?_)
   |(refine vmono (calli _ (by first|assumption|exact zdr.ext (by assumption))) fun _ _ ⟨ex,hv⟩ => ⟨ex,_,_,_,hv,?_⟩)
   |(refine vmono (callk _ (by first|assumption|exact zdr.ext (by assumption))) fun _ _ ⟨ex,hv⟩ => ⟨ex,_,_,_,hv,?_⟩)
   |(refine⟨?_,?_⟩)
   |(intro wx hx;have Hx:=zdr.to (w0:=w) (ns:=[]) (by assumption) hx))
 ·rintro a b w3 ⟨rs,H3,m,n,hm,hn⟩
  have ca:zD3 w3 a (zbX L i):=(H3.get m hm).cells
  have cb:zD3 w3 b (zbX L k):=(H3.get n hn).cells
  have ca':=zmN ca
  have cb':=zmN cb
  have z:∀{p:Option Addr}{o:Nat}{v:Value},Go.Sx.cell w3 p o=some v->Go.Sx.cell w3 (pAdd p o) 0=some v:=fun h=>by rw[zaq];exact h
  refine⟨zal ca'.1,_,z ca'.1,zal cb'.1,_,z cb'.1,zal ca'.1,_,z ca'.2.1,zal cb'.1,_,z cb'.2.1,zal ca'.1,_,z ca'.2.2,zal cb'.1,_,z cb'.2.2,fun w10 h10=>?_⟩
  refine(zp8 _ _ w10).mono fun v w11 ⟨e11,hv⟩=>⟨e11,_,hv,fun w13 h13=>?_⟩
  refine(zp8 _ _ w13).mono fun v w14 ⟨e14,hv⟩=>⟨e14,_,hv,fun w16 h16=>?_⟩
  refine(zp8 _ _ w16).mono fun v w17 ⟨e17,hv⟩=>⟨e17,_,hv,fun w19 h19=>?_⟩
  refine zce zga [.int .i64 (zyA (zbX L i).c (zbX L k).c),.int .i64 (zyA (zbX L i).m (zbX L k).m),.int .i64 (zyA (zbX L i).g (zbX L k).g)] rfl rfl (by intro v hv;simp at hv;rcases hv with rfl|rfl|rfl<;>rfl) (by omega) (by omega) fun w20 o20 e20=>⟨e20,_,_,_,rfl,fun w24 h24=>?_⟩
  refine(Or3_k _ 3 (zyA (zbX L i).c (zbX L k).c) (zyA (zbX L i).m (zbX L k).m) (zyA (zbX L i).g (zbX L k).g) w24 (by have:=((o20 0 (Nat.zero_le _)).ext h24).cells;simpa[Value.cells,zes] using this)).mono fun v w25 ⟨e25,hv⟩=>⟨e25,_,hv,fun w27 h27=>⟨((H3.ext.trans h19).trans e20).trans h27,?_⟩⟩
  rfl
def zgI(L:List Ht)(t:AT)(a:Nd)(k:Int):Prop:=k∈zcf L t a L.length/\∀j∈zcf L t a L.length,0<=zyW (zbX L j) (zbX L k)/\(j<k->zyW (zbX L k) (zbX L j)<0)
theorem zIa{L:List Ht}{t:AT}{a:Nd}{k m:Int}(h:zgI L t a k)(g:zgI L t a m):k=m:=by
 have h1:=h.2 m g.1
 have g1:=g.2 k h.1
 rcases Int.lt_trichotomy k m with hl|hl|hl
 ·have:=g1.2 hl;have:=h1.1;omega
 ·exact hl
 ·have:=h1.2 hl;have:=g1.1;omega
theorem zKk(p:Option Addr)(c:Nat)(L:List Ht)(h63:(L.length:Int)<=9223372036854775807)(hO:∀h∈L,zyv h)(t:AT)(px:Option Addr)(cx:Nat)(hW:WfA t)(a:Nd)(w:World)(hL:zkO w p L)(hT:IsT w t px cx) :
  FnP Tryz.prog zf3 #[.slice p L.length c,av t px cx,nv a] w fun v w'=>Ext w w'/\∃k e,v=.tuple #[.int .i64 k,.int .i64 e] /\
   ((e≠0/\k=0/\(e=5↔zzz L t a)/\(zzz L t a->zcf L t a L.length=[]))\/(e=0/\zzz L t a/\zgI L t a k)):=by
 refine zxk p L.length c t.k t.key t.val t.n px t.xs.length cx a.c a.m a.g w _ fun w0 h0=>?_
 refine zbc (by intro v hv;simp at hv;subst hv;rfl) fun w1 o1 e1=>?_
 generalize hp1:(some ⟨w0.heap.size,0,none⟩:Option Addr)=p1
 rw[hp1] at o1
 have c1:Go.Sx.cell w1 p1 0=some (.slice p L.length c):=(o1 0 (Nat.zero_le _)).cells 0 _ rfl
 intro b2 hb2 b3 hb3
 refine⟨p,L.length,c,c1,fun w7 x7=>?_⟩
 have x7':=(h0.trans e1).trans (zaa x7)
 refine(Fit_k p c L h63 hO t px cx hW a w7 (hL.ext x7') (hT.ext x7' _ _ _)).mono fun v w8 ⟨e8,q,n,d,e,hv,h5,hnew,hr⟩=>⟨e8,q,n,d,e,hv,?_⟩
 have x8:=x7'.trans e8
 rcases hr with⟨hne,rfl,hno⟩|⟨rfl,hok,rfl,hI⟩
 ·exact⟨fun _ w13 h13=>⟨x8.trans h13,_,_,rfl,.inl ⟨hne,rfl,⟨fun h=>absurd h h5,fun h=>absurd h hno⟩,fun h=>absurd h hno⟩⟩,fun h=>absurd h hne⟩
 refine⟨fun h=>absurd rfl h,fun _=>⟨fun hz w13 h13=>⟨x8.trans h13,_,_,rfl,.inl ⟨by omega,rfl,⟨fun _=>hok,fun _=>rfl⟩,fun _=>List.length_eq_zero_iff.1 (by omega)⟩⟩,fun hnz w13 x13=>?_⟩⟩
 have x13':=x8.trans (zaa x13)
 refine(zdr.nil (w0:=w13) (ns:=[b2,b3]) (Ext.refl w13)).new_row (by intro v hv;simp at hv;subst hv;rfl) (x13.lt) fun p14 w14 H14 e14=>?_
 refine H14.store 0 rfl 0 (zeZ _) (by simp) (by simp) (by intro v hv;simp at hv;subst hv;rfl) (fun b hb=>Nat.lt_of_lt_of_le (x13.lt b hb) e14.size) fun w15 H15 g15 w16 h16=>?_
 have e15:=H15.ext
 have x16:=(x13'.trans e15).trans h16
 have cf:Go.Sx.cell w16 p14 0=some (.func (.func zdl) #[] #[.pointer p1]):=zar h16 ((H15.get 0 rfl).cells 0 _ rfl)
 have c16:Go.Sx.cell w16 p1 0=some (.slice p L.length c):=zar ((((zaa x7).trans e8).trans (zaa x13)).trans (e15.trans h16)) c1
 have hln:=ziD L t a L.length
 refine(zD2 q d (zcf L t a L.length) (by omega) (by intro h;rw[h] at hnz;simp at hnz) _ (fun x y=>zyW (zbX L x) (zbX L y)) (fun x y z h1 h2=>?_) (fun x=>?_) w16 (hI.ext (((zaa x13).trans e15).trans h16)) (fun x y h1=>?_) (fun x y z h1 h2=>?_) fun x hx y hy w' hx'=>?_).mono fun v w17 ⟨e17,m,hv,hm,hall,a',ha',ham,haj⟩=>⟨e17,m,hv,fun w19 h19=>⟨(x13'.trans e15).trans h19,_,_,rfl,.inr ⟨rfl,hok,hm,fun j hj=>⟨hall j hj,fun hjm=>?_⟩⟩⟩⟩
 ·have h1:=zfO.1 h1
  have h2:¬zyW (zbX L z) (zbX L y)<0:=by omega
  rw[zfO] at h2
  have h3:¬zyW (zbX L z) (zbX L x)<0:=by rw[zfO];omega
  show 0<=zyW (zbX L z) (zbX L x)
  omega
 ·have:¬zyW (zbX L x) (zbX L x)<0:=by rw[zfO];omega
  show 0<=zyW (zbX L x) (zbX L x)
  omega
 ·have h1:=zfO.1 h1
  have:¬zyW (zbX L y) (zbX L x)<0:=by rw[zfO];omega
  show 0<=zyW (zbX L y) (zbX L x)
  omega
 ·have h1:=zfO.1 h1
  have h2:¬zyW (zbX L z) (zbX L y)<0:=by omega
  rw[zfO] at h2
  show zyW (zbX L x) (zbX L z)<0
  rw[zfO]
  omega
 ·have hx1:=zpL.1 hx
  have hy1:=zpL.1 hy
  exact⟨zih,#[.pointer p14],rfl,zM8 p14 p1 p c L hok.1 x hx1.1 hx1.2.1 y hy1.1 hy1.2.1 w' (zar hx' c16) (hL.ext (x16.trans hx')) (zar hx' cf)⟩
 ·obtain⟨b,hb,rfl⟩:=List.getElem_of_mem hj
  have hbg:(zcf L t a L.length).getD b 0=(zcf L t a L.length)[b]:=by simp[List.getD_eq_getElem?_getD,hb]
  have hba:b<a':=by
   rcases Nat.lt_or_ge b a' with h|h
   ·exact h
   exfalso
   have hs:=zza L t a L.length
   have ham':(zcf L t a L.length)[a']=m:=by rw[<-ham];simp[List.getD_eq_getElem?_getD,ha']
   rcases Nat.lt_or_ge a' b with h2|h2
   ·have:=(List.pairwise_iff_getElem.1 hs) a' b ha' hb h2
    omega
   ·obtain rfl:a'=b:=by omega
    omega
  have:=haj b hba
  rw[hbg] at this
  exact this
theorem zHR(p:Option Addr)(c:Nat)(X:List Int)(h63:(X.length:Int)<=9223372036854775807)(f:Value)(Pr:Int->Bool)(w:World)(h:zes .i64 w p X)
  (hf:∀x∈X,∀w',Ext w w'->zgP Tryz.prog f [.int .i64 x] w' fun v w''=>Ext w' w''/\v=.bool (Pr x)) :
  FnP Tryz.prog zb3 #[.slice p X.length c,f] w fun v w'=>Ext w w'/\∃t,v=.int .i64 t/\(0<=t↔∃x∈X,Pr x=true):=by
 refine zgh p X.length c f w _ ?_
 refine⟨fun k w'=>w'=w/\0<=k/\k<=X.length/\∀j:Nat,(j:Int)<k->Pr (X.getD j 0)=false,fun k _=>(X.length-k).toNat,⟨rfl,by omega,by omega,fun j hj=>by omega⟩,?_⟩
 rintro k w ⟨rfl,hk0,hk1,hno⟩
 refine⟨fun hlt=>?_,fun hge w4 h4=>⟨h4,_,rfl,?_⟩⟩
 ·have g:=zes.idx h hk0 hlt
  refine⟨fun hq=>zal g (zah.2 hq),hk0,hlt,_,g,fun w4 h4=>?_⟩
  obtain⟨fi,cap,hfe,hfp⟩:=hf _ (zat X 0 (i:=k.toNat) (by omega)) w4 h4
  refine⟨fi,cap,hfe,hfp.mono fun v w5 ⟨e5,hv⟩=>⟨e5,_,hv,fun hyes w9 h9=>⟨h9,_,rfl,fun _=>⟨_,zat X 0 (by omega),hyes⟩,fun _=>hk0⟩,fun hn=>⟨i64 (by omega),⟨rfl,by omega,by omega,fun j hj=>?_⟩,by simp only[];omega⟩⟩⟩
  by_cases hjk:(j:Int)<k
  ·exact hno j hjk
  ·obtain rfl:j=k.toNat:=by omega
   exact hn
 ·constructor
  ·intro h;omega
  ·rintro⟨x,hm,hx⟩
   obtain⟨j,hj,rfl⟩:=List.getElem_of_mem hm
   have:=hno j (by omega)
   rw[show X.getD j 0=X[j] by simp[List.getD_eq_getElem?_getD,hj],hx] at this
   cases this
theorem zp9(p:Option Addr)(c:Nat)(X:List Int)(h63:(X.length:Int)<=9223372036854775807)(f:Value)(Pr:Int->Bool)(w:World)(h:zes .i64 w p X)
  (hf:∀x∈X,∀w',Ext w w'->zgP Tryz.prog f [.int .i64 x] w' fun v w''=>Ext w' w''/\v=.bool (Pr x)) :
  FnP Tryz.prog zaY #[.slice p X.length c,f] w fun v w'=>Ext w w'/\∃b:Bool,v=.bool b/\(b=true↔∃x∈X,Pr x=true):=by
 refine zfe p X.length c f w _ ?_
 intro w1 h1
 refine(zHR p c X h63 f Pr w1 (h.ext h1) fun x hx w' hw=>hf x hx w' (h1.trans hw)).mono fun v w2 ⟨e2,t,hv,ht⟩=>⟨e2,t,hv,fun w4 h4=>⟨h4,_,rfl,?_⟩⟩
 rw[decide_eq_true_iff];exact ht
structure Th where
 b:Nat
 prio:Int
 id:Int
 born:Int
 deriving DecidableEq
def th0:Th:=⟨0,0,0,0⟩
def ahead(t u:Th):Prop:=u.prio<t.prio\/t.prio=u.prio/\t.born<u.born
instance (t u:Th):Decidable (ahead t u):=by unfold ahead;infer_instance
theorem zlu{t u:Th}(h:ahead t u):¬ahead u t:=by unfold ahead at *;omega
theorem zqf{t u v:Th}(h:ahead t u)(k:ahead u v):ahead t v:=by unfold ahead at *;omega
theorem zeg{t u v:Th}(h:¬ahead t u)(k:¬ahead u v):¬ahead t v:=by unfold ahead at *;omega
theorem zw3{t u v:Th}(h:¬ahead t u)(k:ahead v u):¬ahead t v:=fun h'=>h (zqf h' k)
def at_(H:List Th)(k:Nat):Th:=H.getD k th0
def swp(H:List Th)(i j:Nat):List Th:=(H.set i (at_ H j)).set j (at_ H i)
theorem zG0(H:List Th)(i j:Nat):(swp H i j).length=H.length:=by simp[swp]
theorem zKx(H:List Th)(i k:Nat)(x:Th)(hi:i<H.length):at_ (H.set i x) k=if k=i then x else at_ H k:=by
 unfold at_
 rw[List.getD_eq_getElem?_getD,List.getD_eq_getElem?_getD,List.getElem?_set]
 by_cases h:i=k
 ·subst h;simp[hi]
 ·rw[if_neg h,if_neg (Ne.symm h)]
theorem zrG(H:List Th){i j:Nat}(hi:i<H.length)(hj:j<H.length)(k:Nat):at_ (swp H i j) k=if k=j then at_ H i else if k=i then at_ H j else at_ H k:=by
 unfold swp
 rw[zKx _ _ _ _ (by simpa using hj),zKx _ _ _ _ hi]
theorem zp2(H:List Th){i j:Nat}(hi:i<H.length)(hj:j<H.length):(swp H i j).Perm H:=by
 unfold swp at_
 rw[List.getD_eq_getElem?_getD,List.getD_eq_getElem?_getD,List.getElem?_eq_getElem hi,List.getElem?_eq_getElem hj]
 exact List.set_set_perm hi hj
theorem zEs(H:List Th){k:Nat}(h:k<H.length):at_ H k∈H:=zat H th0 h
theorem zKY{H:List Th}{t:Th}(h:t∈H):∃k,k<H.length/\at_ H k=t:=by
 obtain⟨k,hk⟩:=List.mem_iff_getElem?.1 h
 exact⟨k,(List.getElem?_eq_some_iff.1 hk).1,by unfold at_;rw[List.getD_eq_getElem?_getD,hk];rfl⟩
def par(k:Nat):Nat:=(k-1)/2
def Hp(H:List Th)(n:Nat):Prop:=∀k,1<=k->k<n->¬ahead (at_ H k) (at_ H (par k))
def Up(H:List Th)(n j:Nat):Prop:=(∀k,1<=k->k<n->k≠j->¬ahead (at_ H k) (at_ H (par k)))/\(1<=j->∀k,1<=k->k<n->par k=j->¬ahead (at_ H k) (at_ H (par j)))
def Dn(H:List Th)(n i0 i:Nat):Prop:=(∀k,1<=k->k<n->par k≠i->(k≠i\/i≠i0)->¬ahead (at_ H k) (at_ H (par k)))/\(1<=i->∀k,1<=k->k<n->par k=i->¬ahead (at_ H k) (at_ H (par i)))
theorem zHc{H:List Th}{n:Nat}(h:Up H n 0):Hp H n:=fun k h1 hn=>h.1 k h1 hn (by omega)
theorem zNT{H:List Th}{n j:Nat}(h:Up H n j)(hs:¬ahead (at_ H j) (at_ H (par j))):Hp H n:=fun k h1 hn=>by
 by_cases hk:k=j
 ·rw[hk];exact hs
 ·exact h.1 k h1 hn hk
theorem zNS{H:List Th}{n j:Nat}(hl:n<=H.length)(hj:j<n)(h1:1<=j)(h:Up H n j)(ha:ahead (at_ H j) (at_ H (par j))):Up (swp H (par j) j) n (par j):=by
 have hp:par j<j:=by unfold par;omega
 have sa:=zrG H (i:=par j) (j:=j) (by omega) (by omega)
 refine⟨fun k k1 kn hk=>?_,fun hp1 k k1 kn hk=>?_⟩
 ·rw[sa k,sa (par k)]
  by_cases hkj:k=j
  ·subst hkj
   rw[if_pos rfl,if_neg (by omega),if_pos rfl]
   exact zlu ha
  ·rw[if_neg hkj,if_neg hk]
   by_cases hpk:par k=j
   ·rw[if_pos hpk];exact h.2 h1 k k1 kn hpk
   ·rw[if_neg hpk]
    by_cases hpp:par k=par j
    ·rw[if_pos hpp]
     have:=h.1 k k1 kn hkj
     rw[hpp] at this
     exact zw3 this ha
    ·rw[if_neg hpp];exact h.1 k k1 kn hkj
 ·have hpp:par (par j)<par j:=by unfold par at *;omega
  have e:=h.1 (par j) hp1 (by omega) (by omega)
  rw[sa k,sa (par (par j)),if_neg (show ¬par (par j)=j by omega),if_neg (show ¬par (par j)=par j by omega)]
  by_cases hkj:k=j
  ·rw[if_pos hkj];exact e
  ·rw[if_neg hkj]
   have hkp:k≠par j:=fun h=>by rw[h] at hk;omega
   rw[if_neg hkp]
   have:=h.1 k k1 kn hkj
   rw[hk] at this
   exact zeg this e
theorem zMi{H:List Th}{n i0 i j:Nat}(hl:n<=H.length)(hj:j<n)(h1:1<=j)(hi:par j=i)(hi0:i0<=i)(h:Dn H n i0 i)(ha:ahead (at_ H j) (at_ H i))
  (hs:∀k,1<=k->k<n->par k=i->¬ahead (at_ H k) (at_ H j)):Dn (swp H i j) n i0 j:=by
 have hij:i<j:=by subst hi;unfold par;omega
 have sa:=zrG H (i:=i) (j:=j) (by omega) (by omega)
 refine⟨fun k k1 kn hk _=>?_,fun _ k k1 kn hk=>?_⟩
 ·rw[sa k,sa (par k),if_neg (show ¬par k=j from hk)]
  by_cases hkj:k=j
  ·subst hkj
   rw[if_pos rfl,if_pos hi]
   exact zlu ha
  ·rw[if_neg hkj]
   by_cases hki:k=i
   ·rw[if_pos hki]
    subst hki
    have hpk:par k≠k:=by unfold par;omega
    rw[if_neg hpk]
    exact h.2 k1 j h1 hj hi
   ·rw[if_neg hki]
    by_cases hpi:par k=i
    ·rw[if_pos hpi];exact hs k k1 kn hpi
    ·rw[if_neg hpi];exact h.1 k k1 kn hpi (.inl hki)
 ·have hkj:k≠j:=fun he=>by subst he;unfold par at hk;omega
  have hki:k≠i:=fun he=>by subst he;unfold par at hk;omega
  rw[hi,sa k,sa i,if_neg hkj,if_neg hki,if_neg (by omega),if_pos rfl]
  have:=h.1 k k1 kn (by rw[hk];omega) (.inl hki)
  rw[hk] at this
  exact this
theorem zuk{H:List Th}{n i0 i:Nat}(h:Dn H n i0 i)(hi:i≠i0)(hs:∀k,1<=k->k<n->par k=i->¬ahead (at_ H k) (at_ H i)):Hp H n:=fun k k1 kn=>by
 by_cases hp:par k=i
 ·rw[hp];exact hs k k1 kn hp
 ·exact h.1 k k1 kn hp (.inr hi)
theorem zwc{H:List Th}{n i:Nat}(h:Dn H n i i)(hs:∀k,1<=k->k<n->par k=i->¬ahead (at_ H k) (at_ H i)):Up H n i:=by
 refine⟨fun k k1 kn hk=>?_,h.2⟩
 by_cases hp:par k=i
 ·rw[hp];exact hs k k1 kn hp
 ·exact h.1 k k1 kn hp (.inl hk)
theorem zIv{H G:List Th}{n i:Nat}(h:Hp G n)(he:∀k,k<n->k≠i->at_ H k=at_ G k)(hi:i<n):Dn H n i i:=by
 refine⟨fun k k1 kn hp hk=>?_,fun i1 k k1 kn hp=>?_⟩
 ·have hki:k≠i:=hk.resolve_right fun h=>h rfl
  rw[he k kn hki,he (par k) (by unfold par;omega) hp]
  exact h k k1 kn
 ·have hki:k≠i:=fun e=>by subst e;unfold par at hp;omega
  have hpp:par i≠i:=by unfold par;omega
  rw[he k kn hki,he (par i) (by unfold par;omega) hpp]
  have a1:=h k k1 kn
  rw[hp] at a1
  exact zeg a1 (h i i1 hi)
theorem zKf{H:List Th}{n:Nat}(h:Hp H n):Up H (n+1) n:=by
 refine⟨fun k k1 kn hk=>h k k1 (by omega),fun n1 k k1 kn hp=>?_⟩
 unfold par at hp;omega
theorem zI0{H:List Th}{n:Nat}(h:Hp H n):∀k,k<n->¬ahead (at_ H k) (at_ H 0):=by
 intro k
 induction k using Nat.strongRecOn with
 |ind k ih =>
  intro hk
  by_cases h0:k=0
  ·subst h0;unfold ahead;omega
  ·exact zeg (h k (by omega) hk) (ih (par k) (by unfold par;omega) (by unfold par;omega))
theorem zMT{H:List Th}{m n:Nat}(h:Hp H n)(hm:m<=n):Hp H m:=fun k k1 km=>h k k1 (by omega)
theorem zBr{H G:List Th}{n:Nat}(h:Hp G n)(he:∀k,k<n->at_ H k=at_ G k):Hp H n:=fun k k1 kn=>by
 rw[he k kn,he (par k) (by unfold par;omega)];exact h k k1 kn
theorem zsh:zgA Tryz.prog zeN=some (zbl,1,8,.pointer none):=by kernel_rfl
def thc(t:Th)(k:Nat):List Value:=[.int .i64 t.prio,.int .i64 t.id,.int .i64 t.born,.int .i64 (k:Int)]
def ptr(b:Nat):Option Addr:=some ⟨b,0,none⟩
def pv(t:Th):Value:=.pointer (ptr t.b)
theorem zaO(b:Nat):ptr b≠none:=by simp[ptr]
theorem zcm{a b:Nat}(h:a≠b):zb1 (ptr a) (ptr b):=fun x y hx hy=>by cases hx;cases hy;exact h
theorem zkv{a:Nat}{p:Option Addr}(h:∀x,p=some x->a≠x.block):zb1 (ptr a) p:=fun x y hx hy=>by cases hx;exact h y hy
def zkt(qb:Nat)(p:Option Addr)(H:List Th)(b:Nat):Prop:=b=qb\/(∃a,p=some a/\a.block=b)\/∃t∈H,t.b=b
theorem zqB{qb:Nat}{p:Option Addr}{H G:List Th}(h:H.Perm G)(b:Nat):zkt qb p H b↔zkt qb p G b:=by
 unfold zkt
 constructor<;>rintro (h1|h1|⟨t,ht,h1⟩)
 ·exact .inl h1
 ·exact .inr (.inl h1)
 ·exact .inr (.inr ⟨t,h.mem_iff.1 ht,h1⟩)
 ·exact .inl h1
 ·exact .inr (.inl h1)
 ·exact .inr (.inr ⟨t,h.mem_iff.2 ht,h1⟩)
structure QI(B:Nat)(w:World)(qb:Nat)(x y:Value)(p:Option Addr)(c:Nat)(H:List Th):Prop where
 slot:Own B w zml 3 (ptr qb) 1 1 [.slice p H.length c,x,y]
 arr:Own B w zbl 1 p H.length c (H.map pv)
 th:∀k,k<H.length->Own B w zap 4 (ptr (at_ H k).b) 1 1 (thc (at_ H k) k)
 inj:∀i k,i<H.length->k<H.length->(at_ H i).b=(at_ H k).b->i=k
 aq:∀i,i<H.length->(at_ H i).b≠qb
 ap:∀a,p=some a->a.block≠qb/\∀i,i<H.length->(at_ H i).b≠a.block
section
variable {B qb:Nat} {x y:Value} {p:Option Addr} {c:Nat} {H:List Th} {w:World}
theorem QI.ext{w':World}(q:QI B w qb x y p c H)(h:Ext w w'):QI B w' qb x y p c H:=⟨q.slot.ext h,q.arr.ext h,fun k hk=>(q.th k hk).ext h,q.inj,q.aq,q.ap⟩
theorem QI.fr{S:Nat->Prop}{w':World}(q:QI B w qb x y p c H)(h:Fr S w w')(hs:∀b,zkt qb p H b->¬S b):QI B w' qb x y p c H :=
 ⟨q.slot.fr h fun a ha=>by cases ha;exact hs _ (.inl rfl),q.arr.fr h fun a ha=>hs _ (.inr (.inl ⟨a,ha,rfl⟩)),fun k hk=>(q.th k hk).fr h fun a ha=>by cases ha;exact hs _ (.inr (.inr ⟨_,zEs H hk,rfl⟩)),q.inj,q.aq,q.ap⟩
theorem QI.foot(q:QI B w qb x y p c H){b:Nat}(h:zkt qb p H b):B<=b/\b<w.heap.size:=by
 rcases h with rfl|⟨a,ha,rfl⟩|⟨t,ht,rfl⟩
 ·exact q.slot.lt _ rfl
 ·exact q.arr.lt a ha
 ·obtain⟨k,hk,rfl⟩:=zKY ht
  exact(q.th k hk).lt _ rfl
theorem QI.ne(q:QI B w qb x y p c H)(h:0<H.length):p≠none:=q.arr.ne1 h (by omega)
theorem map_at{i:Nat}(h:i<H.length):(H.map pv)[i]?=some (pv (at_ H i)):=by
 unfold at_
 rw[List.getElem?_map,List.getElem?_eq_getElem h,List.getD_eq_getElem?_getD,List.getElem?_eq_getElem h];rfl
theorem zqg{e:TypeId}{n:Nat}(o:Own B w e 1 p n c (H.map pv)){i:Int}(h0:0<=i)(h:i.toNat<H.length):cell w (pIdx p i 1) 0=some (.pointer (ptr (at_ H i.toNat).b)):=by
 rw[zae]
 have:=o.cells (i.toNat*1+0) (pv (at_ H i.toNat)) (by rw[Nat.mul_one,Nat.add_zero];exact map_at h)
 exact this
theorem zxX{e:TypeId}{n:Nat}{q:Option Addr}{xs:List Value}{v:Value}{ns:List Nat}{i:Int}{K:World->Prop}(ho:Own B w e 1 q n c xs)(hi:i.toNat<xs.length)(h1:v.oneCell'=true)(hns:∀b∈ns,∀x,q=some x->x.block≠b)
  (hk:∀w',Own B w' e 1 q n c (xs.set i.toNat v)->zcr w w' q q->K w'):zak w (pIdx q i 1) [v] ns K :=
 zaU ho (by rw[zpV,Nat.mul_one]) (by simp;omega) (by simp) (by simpa using h1) hns hk
theorem zLT{t u:Th}{i k:Nat}(ht:Own B w zap 4 (ptr t.b) 1 1 (thc t i))(hu:Own B w zap 4 (ptr u.b) 1 1 (thc u k)) :
  FnP Tryz.prog zdL #[.pointer (ptr t.b),.pointer (ptr u.b)] w fun v w'=>Ext w w'/\v=.bool (decide (ahead t u)):=by
 refine zkU (ptr t.b) (ptr u.b) w _ ?_
 unfold zfH
 simp only[zaG]
 have nt:=zaO t.b
 have nu:=zaO u.b
 refine⟨nt,nt,nt,_,ht.cellAt (i:=0) rfl,nu,nu,nu,_,hu.cellAt (i:=0) rfl,fun _=>nt,fun _=>nt,fun _=>nt,fun hlt w2 h2=>⟨h2,?_⟩,
  fun hle=>⟨_,ht.cellAt (i:=0) rfl,nu,nu,nu,_,hu.cellAt (i:=0) rfl,fun _=>nt,fun _=>nt,fun he=>⟨_,ht.cellAt0 (i:=2) rfl,nu,nu,_,hu.cellAt0 (i:=2) rfl,fun w6 h6=>⟨h6,?_⟩⟩,fun hne w4 h4=>⟨h4,?_⟩⟩⟩
 ·rw[decide_eq_true (show ahead t u from .inl hlt)]
 ·congr 1
  refine decide_eq_decide.2 ?_
  unfold ahead;omega
 ·rw[decide_eq_false]
  unfold ahead;omega
theorem zBF(q:QI B w qb x y p c H){i k:Int}(i0:0<=i)(hi:i<H.length)(k0:0<=k)(hk:k<H.length) :
  FnP Tryz.prog zfp #[.slice p H.length c,.int .i64 i,.int .i64 k] w fun v w'=>Ext w w'/\v=.bool (decide (ahead (at_ H i.toNat) (at_ H k.toNat))):=by
 have hp:=q.ne (by omega)
 refine zof p H.length c i k w _ ⟨hp,i0,hi,_,zqg q.arr i0 (by omega),hp,k0,hk,_,zqg q.arr k0 (by omega),fun w2 h2=>?_⟩
 exact(zLT ((q.th i.toNat (by omega)).ext h2) ((q.th k.toNat (by omega)).ext h2)).mono fun v w3 ⟨e3,qhv⟩=>⟨e3,_,qhv,fun w5 h5=>⟨h5,rfl⟩⟩
theorem len_k:FnP Tryz.prog zf5 #[.slice p H.length c] w fun v w'=>Ext w w'/\v=.int .i64 H.length :=
 zpl p H.length c w _ fun w0 h0=>⟨h0,rfl⟩
theorem zGZ(q:QI B w qb x y p c H){i k:Int}(i0:0<=i)(hi:i<H.length)(k0:0<=k)(hk:k<H.length) :
  FnP Tryz.prog zfr #[.slice p H.length c,.int .i64 i,.int .i64 k] w fun v w'=>v=.tuple #[]/\QI B w' qb x y p c (swp H i.toNat k.toNat)/\Fr (zkt qb p H) w w':=by
 have hp:=q.ne (by omega)
 obtain⟨a,rfl⟩:∃a,p=some a:=by cases p with|none=>exact absurd rfl hp|some a=>exact⟨a,rfl⟩
 obtain⟨aq',ath⟩:=q.ap a rfl
 have hni:i.toNat<H.length:=by omega
 have hnk:k.toNat<H.length:=by omega
 refine zoh (some a) H.length c i k w _ ⟨hp,k0,hk,_,zqg q.arr k0 hnk,hp,i0,hi,_,zqg q.arr i0 hni,hp,i0,hi,?_⟩
 refine zxX q.arr (by simpa using hni) rfl (by simp) fun w2 o2 g2=>⟨hp,k0,hk,zxX o2 (by simpa using hnk) rfl (by simp) fun w3 o3 g3=>?_⟩
 have e3:((H.map pv).set i.toNat (.pointer (ptr (at_ H k.toNat).b))).set k.toNat (.pointer (ptr (at_ H i.toNat).b))=(swp H i.toNat k.toNat).map pv:=by unfold swp;rw[List.map_set,List.map_set];rfl
 rw[e3] at o3
 have hl:=zG0 H i.toNat k.toNat
 have th3:∀m,m<H.length->Own B w3 zap 4 (ptr (at_ H m).b) 1 1 (thc (at_ H m) m):=fun m hm =>
  ((q.th m hm).st (zkv fun x hx=>by cases hx;exact ath m hm) g2).st (zkv fun x hx=>by cases hx;exact ath m hm) g3
 have ci:=zqg o3 i0 (by omega)
 have ck:=zqg o3 k0 (by omega)
 rw[zrG H hni hnk] at ci ck
 rw[if_pos rfl] at ck
 have ci':cell w3 (pIdx (some a) i 1) 0=some (.pointer (ptr (at_ H k.toNat).b)):=by
  rw[ci];by_cases h:i.toNat=k.toNat
  ·rw[if_pos h,h]
  ·rw[if_neg h,if_pos rfl]
 refine⟨hp,i0,hi,_,ci',hp,k0,hk,_,ck,zaO _,zaO _,?_⟩
 refine zbF (th3 k.toNat hnk) (by simp[thc]) rfl (by simp) fun w4 o4 g4=>⟨zaO _,zaO _,?_⟩
 have o4':Own B w4 zap 4 (ptr (at_ H k.toNat).b) 1 1 (thc (at_ H k.toNat) i.toNat):=by
  have:(thc (at_ H k.toNat) k.toNat).set 3 (.int .i64 i)=thc (at_ H k.toNat) i.toNat:=by simp only[thc,List.set_cons_succ,List.set_cons_zero];rw[Int.toNat_of_nonneg i0]
  rw[<-this];exact o4
 have h5:Own B w4 zap 4 (ptr (at_ H i.toNat).b) 1 1 (thc (at_ H i.toNat) i.toNat):=by
  by_cases h:i.toNat=k.toNat
  ·rw[<-h] at o4';exact o4'
  ·exact(th3 i.toNat hni).st (zcm fun he=>h (q.inj _ _ hni hnk he)) g4
 refine zbF h5 (by simp[thc]) rfl (by simp) fun w5 o5 g5=>?_
 have o5':Own B w5 zap 4 (ptr (at_ H i.toNat).b) 1 1 (thc (at_ H i.toNat) k.toNat):=by
  have:(thc (at_ H i.toNat) i.toNat).set 3 (.int .i64 k)=thc (at_ H i.toNat) k.toNat:=by simp only[thc,List.set_cons_succ,List.set_cons_zero];rw[Int.toNat_of_nonneg k0]
  rw[<-this];exact o5
 intro w8 h8
 have sa:=zrG H hni hnk
 have mem:∀m,m<H.length->∃m',m'<H.length/\at_ (swp H i.toNat k.toNat) m=at_ H m'/\(m'=if m=k.toNat then i.toNat else if m=i.toNat then k.toNat else m):=fun m hm=>by
  rw[sa m]
  by_cases h1:m=k.toNat
  ·rw[if_pos h1,if_pos h1];exact⟨_,hni,rfl,rfl⟩
  ·rw[if_neg h1,if_neg h1]
   by_cases h2:m=i.toNat
   ·rw[if_pos h2,if_pos h2];exact⟨_,hnk,rfl,rfl⟩
   ·rw[if_neg h2,if_neg h2];exact⟨_,hm,rfl,rfl⟩
 have out:∀m,m<H.length->m≠i.toNat->m≠k.toNat->Own B w5 zap 4 (ptr (at_ H m).b) 1 1 (thc (at_ H m) m):=fun m hm h1 h2 =>
  ((th3 m hm).st (zcm fun he=>h2 (q.inj _ _ hm hnk he)) g4).st (zcm fun he=>h1 (q.inj _ _ hm hni he)) g5
 refine⟨rfl,QI.ext ⟨?_,?_,fun m hm=>?_,fun m n hm hn he=>?_,fun m hm=>?_,fun b hb=>⟨?_,fun m hm=>?_⟩⟩ h8,?_⟩
 ·rw[hl]
  have s3:=(q.slot.st (zkv fun x hx=>by cases hx;exact Ne.symm aq') g2).st (zkv fun x hx=>by cases hx;exact Ne.symm aq') g3
  exact(s3.st (zcm (Ne.symm (q.aq _ hnk))) g4).st (zcm (Ne.symm (q.aq _ hni))) g5
 ·rw[hl]
  have f:∀m,m<H.length->zb1 (some a) (ptr (at_ H m).b):=fun m hm u v hu qhv=>by cases hu;cases qhv;exact Ne.symm (ath m hm)
  exact(o3.st (f _ hnk) g4).st (f _ hni) g5
 ·rw[hl] at hm
  rw[sa m]
  by_cases h1:m=k.toNat
  ·rw[if_pos h1,h1];exact o5'
  ·rw[if_neg h1]
   by_cases h2:m=i.toNat
   ·rw[if_pos h2,h2]
    exact o4'.st (zcm fun he=>by have:=q.inj _ _ hnk hni he;omega) g5
   ·rw[if_neg h2];exact out m hm h2 h1
 ·rw[hl] at hm hn
  obtain⟨m',h1,h2,h3⟩:=mem m hm
  obtain⟨n',h4,h5,h6⟩:=mem n hn
  rw[h2,h5] at he
  have:=q.inj _ _ h1 h4 he
  subst this
  rw[h3] at h6
  split at h6<;>split at h6<;>(try split at h6)<;>(try split at h6)<;>omega
 ·rw[hl] at hm
  obtain⟨m',h1,h2,-⟩:=mem m hm
  rw[h2];exact q.aq _ h1
 ·cases hb;exact aq'
 ·rw[hl] at hm
  cases hb
  obtain⟨m',h1,h2,-⟩:=mem m hm
  rw[h2];exact ath _ h1
 ·have fa:Fr (zkt qb (some a) H) w w3:=(zaT g2 fun x hx=>.inr (.inl ⟨x,hx,rfl⟩)).tr (zaT g3 fun x hx=>.inr (.inl ⟨x,hx,rfl⟩))
  have ft:∀m,m<H.length->∀x,ptr (at_ H m).b=some x->zkt qb (some a) H x.block:=fun m hm x hx=>by cases hx;exact .inr (.inr ⟨_,zEs H hm,rfl⟩)
  exact((fa.tr (zaT g4 (ft _ hnk))).tr (zaT g5 (ft _ hni))).tr (zac h8)
def qhv(qb:Nat):Value:=.iface zcl (.pointer (ptr qb))
theorem zwF{name:String}{f:FuncId}{pr:Bool}{r:Value}{args:List Value}{K:Value->World->Prop}
  (hm:((Tryz.prog.info? zcl).bind fun i=>i.methods.find? (·.name==name)).map (fun m=>(m.path.toList,m.func))=some ([],some (f,pr)))
  (hr : (receiverAt zcl (.val (.pointer (ptr qb))) pr (some ((name.splitOn ".").getLastD name))).run Tryz.prog w = .ok r w) (h : FnP Tryz.prog f (#[r] ++ args.toArray) w K) : zsc Tryz.prog name (qhv qb) args w K := by
 cases hi:Tryz.prog.info? zcl with
 |none => rw[hi] at hm;simp at hm
 |some i =>
  rw[hi] at hm
  simp only[Option.bind_some] at hm
  cases hq:i.methods.find? (·.name==name) with
  |none => rw[hq] at hm;simp at hm
  |some m =>
   rw[hq] at hm
   simp only[Option.map_some,Option.some.injEq,Prod.mk.injEq] at hm
   refine⟨zcl,.pointer (ptr qb),f,r,rfl,?_,h⟩
   obtain⟨n,hn⟩:∃n,Tryz.prog.types.size+Made.depth=n+1:=⟨Tryz.prog.types.size+Made.depth-1,by unfold Made.depth;omega⟩
   rw[hn]
   exact zFM hi hq (by have:=hm.1;exact Array.toList_eq_nil_iff.1 this) hm.2 hr
theorem QI.recv(q:QI B w qb x y p c H){o:Option String}:(receiverAt zcl (.val (.pointer (ptr qb))) false o).run Tryz.prog w=.ok (.slice p H.length c) w :=
 zGu (e:=zeN) (d:=.slice zbl) (by kernel_rfl) (by kernel_rfl) (by kernel_rfl) (q.slot.cellAt (i:=0) rfl)
theorem zFr (q : QI B w qb x y p c H) {K : Value -> World -> Prop} (h : FnP Tryz.prog zf5 #[.slice p H.length c] w K) : zsc Tryz.prog "Len" (qhv qb) [] w K := zwF (pr := false) (by kernel_rfl) q.recv h
theorem zpH (q : QI B w qb x y p c H) {a b : Value} {K : Value -> World -> Prop} (h : FnP Tryz.prog zfp #[.slice p H.length c, a, b] w K) : zsc Tryz.prog "Less" (qhv qb) [a, b] w K := zwF (pr := false) (by kernel_rfl) q.recv h
theorem zux (q : QI B w qb x y p c H) {a b : Value} {K : Value -> World -> Prop} (h : FnP Tryz.prog zfr #[.slice p H.length c, a, b] w K) : zsc Tryz.prog "Swap" (qhv qb) [a, b] w K := zwF (pr := false) (by kernel_rfl) q.recv h
theorem zI3 {a : Value} {K : Value -> World -> Prop} (h : FnP Tryz.prog zfq #[.pointer (ptr qb), a] w K) : zsc Tryz.prog "Push" (qhv qb) [a] w K := zwF (pr := true) (by kernel_rfl) (zBW (e := zeN) (by kernel_rfl)) h
theorem zMV {K : Value -> World -> Prop} (h : FnP Tryz.prog zf6 #[.pointer (ptr qb)] w K) : zsc Tryz.prog "Pop" (qhv qb) [] w K := zwF (pr := true) (by kernel_rfl) (zBW (e := zeN) (by kernel_rfl)) h
theorem tdiv2{j:Int}(h:0<=j):(j-1).tdiv 2=((par j.toNat:Nat):Int):=by
 unfold par
 by_cases h0:j=0
 ·subst h0;decide
 ·rw[Int.tdiv_eq_ediv_of_nonneg (by omega)];omega
theorem up_k(q:QI B w qb x y p c H){j:Int}{n:Nat}(j0:0<=j)(hj:j<n)(hnl:n<=H.length)(hn:H.length<=1000)(hu:Up H n j.toNat) :
  FnP Tryz.prog zdI #[qhv qb,.int .i64 j] w fun v w'=>v=.tuple #[]/\∃Y,QI B w' qb x y p c Y/\Y.Perm H/\(∀k,n<=k->at_ Y k=at_ H k)/\Hp Y n/\Fr (zkt qb p H) w w':=by
 refine zkS (qhv qb) j w _ ⟨fun j1 w'=>0<=j1/\j1<n/\∃Y,QI B w' qb x y p c Y/\Y.Perm H/\(∀k,n<=k->at_ Y k=at_ H k)/\Up Y n j1.toNat/\Fr (zkt qb p H) w w',fun j1 _=>j1.toNat,⟨j0,hj,H,q,.refl _,fun _ _=>rfl,hu,Fr.refl _ _⟩,?_⟩
 rintro j1 w2 ⟨h0,h1,Y,qy,hp,hout,hu,hf⟩
 have hl:=hp.length_eq
 simp only[tdiv2 h0]
 have hpar:par j1.toNat<=j1.toNat:=by unfold par;omega
 refine⟨i64 (by omega),i64 (by omega),fun he w3 h3=>?_,fun hne w3 h3=>zpH (qy.ext h3) ((zBF (qy.ext h3) h0 (by omega) (by omega) (by omega)).mono fun v w4 ⟨e4,qhv⟩=>⟨_,qhv,fun hb w6 h6=>?_,fun hb w6 h6=>?_⟩)⟩
 ·have:j1.toNat=0:=by unfold par at he;omega
  rw[this] at hu
  exact⟨trivial,Y,qy.ext h3,hp,hout,zHc hu,hf.tr (zac h3)⟩
 ·simp only[Int.toNat_natCast,decide_eq_false_iff_not] at hb
  exact⟨trivial,Y,((qy.ext h3).ext e4).ext h6,hp,hout,zNT hu hb,((hf.tr (zac h3)).tr (zac e4)).tr (zac h6)⟩
 ·simp only[Int.toNat_natCast,decide_eq_true_eq] at hb
  have q6:=((qy.ext h3).ext e4).ext h6
  have hlt:par j1.toNat<j1.toNat:=by unfold par at hne ⊢;omega
  refine zux q6 ((zGZ q6 (by omega) (by omega) h0 (by omega)).mono fun v w7 ⟨qhv,q7,f7⟩=>⟨qhv,⟨by omega,by omega,_,q7,?_,fun k hk=>?_,?_,?_⟩,by omega⟩)
  ·exact(zp2 Y (by omega) (by omega)).trans hp
  ·rw[zrG Y (by omega) (by omega),if_neg (by omega),if_neg (by omega)];exact hout k hk
  ·simp only[Int.toNat_natCast]
   exact zNS (by omega) (by omega) (by omega) hu hb
  ·exact(((hf.tr (zac h3)).tr (zac e4)).tr (zac h6)).tr (f7.mono fun b=>(zqB hp b).1)
theorem down_k(q:QI B w qb x y p c H){i0 n:Int}(h00:0<=i0)(n0:0<=n)(hn:n<=H.length)(hH:H.length<=1000)(hi:i0<=1000)(hu:Dn H n.toNat i0.toNat i0.toNat) :
  FnP Tryz.prog zc6 #[qhv qb,.int .i64 i0,.int .i64 n] w fun v w'=>∃(r:Bool) (Y:List Th),v=.bool r/\QI B w' qb x y p c Y/\Y.Perm H/\(∀k,n.toNat<=k->at_ Y k=at_ H k)/\(r=true->Hp Y n.toNat)/\(r=false->Y=H/\Up Y n.toNat i0.toNat)/\Fr (zkt qb p H) w w':=by
 refine zjy (qhv qb) i0 n w _ ⟨fun i w'=>i0<=i/\(i<n\/i=i0)/\∃Y,QI B w' qb x y p c Y/\Y.Perm H/\(∀k,n.toNat<=k->at_ Y k=at_ H k)/\(i=i0->Y=H)/\Dn Y n.toNat i0.toNat i.toNat/\Fr (zkt qb p H) w w',fun i _=>(2001-i).toNat,⟨Int.le_refl _,.inr rfl,H,q,.refl _,fun _ _=>rfl,fun _=>rfl,hu,Fr.refl _ _⟩,?_⟩
 rintro i w2 ⟨hi0,hin,Y,qy,hp,hout,hsame,hd,hf⟩
 have hl:=hp.length_eq
 have stop:∀w',QI B w' qb x y p c Y->Fr (zkt qb p H) w w'->(∀k,1<=k->k<n.toNat->par k=i.toNat->¬ahead (at_ Y k) (at_ Y i.toNat))->∃(r:Bool) (Y:List Th),Value.bool (decide (i0<i))=.bool r/\QI B w' qb x y p c Y/\Y.Perm H/\(∀k,n.toNat<=k->at_ Y k=at_ H k)/\(r=true->Hp Y n.toNat)/\(r=false->Y=H/\Up Y n.toNat i0.toNat)/\Fr (zkt qb p H) w w':=by
  intro w' qw fw hs
  refine⟨_,Y,rfl,qw,hp,hout,fun h=>?_,fun h=>?_,fw⟩
  ·simp only[decide_eq_true_eq] at h
   exact zuk hd (by omega) hs
  ·simp only[decide_eq_false_iff_not] at h
   obtain rfl:i=i0:=by omega
   exact⟨hsame rfl,zwc hd hs⟩
 have kid:∀k,1<=k->k<n.toNat->par k=i.toNat->(k:Int)=2*i+1\/(k:Int)=2*i+1+1:=fun k k1 kn hk=>by unfold par at hk;omega
 have step:∀(j:Int)(w6:World),(j=2*i+1\/j=2*i+1+1)->j<n->QI B w6 qb x y p c Y->Fr (zkt qb p H) w w6->ahead (at_ Y j.toNat) (at_ Y i.toNat)->(∀k,1<=k->k<n.toNat->par k=i.toNat->¬ahead (at_ Y k) (at_ Y j.toNat)) ->
   zsc Tryz.prog "Swap" (qhv qb) [.int .i64 i, .int .i64 j] w6 fun v7 w7 => v7 = .tuple #[] /\ ((i0 <= j /\ (j < n \/ j = i0) /\ ∃ Y, QI B w7 qb x y p c Y /\ Y.Perm H /\ (∀ k, n.toNat <= k -> at_ Y k = at_ H k) /\ (j = i0 -> Y = H) /\ Dn Y n.toNat i0.toNat j.toNat /\ Fr (zkt qb p H) w w7) /\ (2001 - j).toNat < (2001 - i).toNat) := by
  intro j w6 hj hjn qw fw ha hs
  refine zux qw ((zGZ qw (by omega) (by omega) (by omega) (by omega)).mono fun v w7 ⟨qhv,q7,f7⟩=>⟨qhv,⟨by omega,.inl hjn,_,q7,?_,fun k hk=>?_,fun h=>by omega,?_,?_⟩,by omega⟩)
  ·exact(zp2 Y (by omega) (by omega)).trans hp
  ·rw[zrG Y (by omega) (by omega),if_neg (by omega),if_neg (by omega)];exact hout k hk
  ·exact zMi (by omega) (by omega) (by omega) (by unfold par;omega) (by omega) hd ha hs
  ·exact fw.tr (f7.mono fun b=>(zqB hp b).1)
 refine⟨i64 (by omega),i64 (by omega),fun hge w3 h3=>stop w3 (qy.ext h3) (hf.tr (zac h3)) fun k k1 kn hk=>by rcases kid k k1 kn hk with h|h<;>omega,fun hlt=>⟨i64 (by omega),fun h2 w3 h3=>?_,fun h2 w3 h3=>?_⟩⟩
 ·have q3:=qy.ext h3
  refine zpH q3 ((zBF q3 (by omega) (by omega) (by omega) (by omega)).mono fun v w4 ⟨e4,qhv⟩=>⟨_,qhv,fun hb w6 h6=>?_,fun hb w6 h6=>?_⟩)
  all_goals
   have q6:=(q3.ext e4).ext h6
   have f6:=((hf.tr (zac h3)).tr (zac e4)).tr (zac h6)
   simp only[decide_eq_true_eq,decide_eq_false_iff_not] at hb
   refine zpH q6 ((zBF q6 (by omega) (by omega) (by omega) (by omega)).mono fun v w7 ⟨e7,qhv⟩=>⟨_,qhv,fun hc w9 h9=>?_,fun hc w9 h9=>?_⟩)
   all_goals
    have q9:=(q6.ext e7).ext h9
    have f9:=(f6.tr (zac e7)).tr (zac h9)
    simp only[decide_eq_true_eq,decide_eq_false_iff_not] at hc
  ·refine stop w9 q9 f9 fun k k1 kn hk=>?_
   rcases kid k k1 kn hk with h|h
   ·have:k=(2*i+1).toNat:=by omega
    rw[this];exact fun h'=>hc (zqf hb h')
   ·have:k=(2*i+1+1).toNat:=by omega
    rw[this];exact hc
  ·refine step _ w9 (.inr rfl) h2 q9 f9 hc fun k k1 kn hk=>?_
   rcases kid k k1 kn hk with h|h
   ·have:k=(2*i+1).toNat:=by omega
    rw[this];exact zlu hb
   ·have:k=(2*i+1+1).toNat:=by omega
    rw[this];unfold ahead;omega
  ·refine stop w9 q9 f9 fun k k1 kn hk=>?_
   rcases kid k k1 kn hk with h|h
   ·have:k=(2*i+1).toNat:=by omega
    rw[this];exact hc
   ·have:k=(2*i+1+1).toNat:=by omega
    rw[this];exact zeg hb hc
  ·refine step _ w9 (.inl rfl) hlt.1 q9 f9 hc fun k k1 kn hk=>?_
   rcases kid k k1 kn hk with h|h
   ·have:k=(2*i+1).toNat:=by omega
    rw[this];unfold ahead;omega
   ·have:k=(2*i+1+1).toNat:=by omega
    rw[this];exact hb
 ·have q3:=qy.ext h3
  refine zpH q3 ((zBF q3 (by omega) (by omega) (by omega) (by omega)).mono fun v w4 ⟨e4,qhv⟩=>⟨_,qhv,fun hb w6 h6=>?_,fun hb w6 h6=>?_⟩)
  all_goals
   have q6:=(q3.ext e4).ext h6
   have f6:=((hf.tr (zac h3)).tr (zac e4)).tr (zac h6)
   simp only[decide_eq_true_eq,decide_eq_false_iff_not] at hb
  ·refine stop w6 q6 f6 fun k k1 kn hk=>?_
   rcases kid k k1 kn hk with h|h
   ·have:k=(2*i+1).toNat:=by omega
    rw[this];exact hb
   ·omega
  ·refine step _ w6 (.inl rfl) hlt.1 q6 f6 hb fun k k1 kn hk=>?_
   rcases kid k k1 kn hk with h|h
   ·have:k=(2*i+1).toNat:=by omega
    rw[this];unfold ahead;omega
   ·omega
end
section
variable {B qb:Nat} {x y:Value} {p:Option Addr} {c:Nat} {H:List Th} {w:World}
def tv(b:Nat):Value:=.iface zbl (.pointer (ptr b))
theorem ze9{H:List Th}{t:Th}{k:Nat}(h:k<H.length):at_ (H++[t]) k=at_ H k:=by
 unfold at_;rw[List.getD_eq_getElem?_getD,List.getD_eq_getElem?_getD,List.getElem?_append_left h]
theorem zjN{H:List Th}{t:Th}:at_ (H++[t]) H.length=t:=by
 unfold at_;rw[List.getD_eq_getElem?_getD,List.getElem?_append_right (Nat.le_refl _)];simp
theorem znE{H:List Th}{m k:Nat}(h:k<m):at_ (H.take m) k=at_ H k:=by
 unfold at_;rw[List.getD_eq_getElem?_getD,List.getD_eq_getElem?_getD,List.getElem?_take,if_pos h]
theorem push_k(q:QI B w qb x y p c H)(hn:H.length<=999)(hB:B<=w.heap.size){t:Th}{j:Nat}(ht:Own B w zap 4 (ptr t.b) 1 1 (thc t j))(hf:¬zkt qb p H t.b) :
  FnP Tryz.prog zfq #[.pointer (ptr qb),tv t.b] w fun v w'=>v=.tuple #[]/\∃p' c',QI B w' qb x y p' c' (H++[t])/\Fr (zkt qb p (t::H)) w w'/\(∀a,p'=some a->(∃a',p=some a'/\a'.block=a.block)\/w.heap.size<=a.block):=by
 have hq:t.b≠qb:=fun h=>hf (.inl h)
 have hpa:∀a,p=some a->t.b≠a.block:=fun a ha h=>hf (.inr (.inl ⟨a,ha,h.symm⟩))
 have hth:∀k,k<H.length->(at_ H k).b≠t.b:=fun k hk h=>hf (.inr (.inr ⟨_,zEs H hk,h⟩))
 refine zog (ptr qb) (tv t.b) w _ fun w0 h0=>ztV (d:=.pointer zap) (by kernel_rfl) (by simp) ⟨Ext.refl _,_,rfl,zaO _,_,_,_,(q.slot.ext h0).cellAt (i:=0) rfl,zaO _,zaO _,?_⟩
 have q0:=q.ext h0
 refine zbF (ht.ext h0) (by simp[thc]) rfl (by simp) fun w6 o6 g6=>?_
 have o6':Own B w6 zap 4 (ptr t.b) 1 1 (thc t H.length):=o6
 have s6:=q0.slot.st (zcm (Ne.symm hq)) g6
 have a6:=q0.arr.st (fun u v hu qhv=>by cases qhv;exact Ne.symm (hpa u hu)) g6
 have t6:∀k,k<H.length->Own B w6 zap 4 (ptr (at_ H k).b) 1 1 (thc (at_ H k) k):=fun k hk=>(q0.th k hk).st (zcm (hth k hk)) g6
 have f6:Fr (zkt qb p (t::H)) w w6:=(zac h0).tr (zaT g6 fun a ha=>by cases ha;exact .inr (.inr ⟨t,List.mem_cons_self ..,rfl⟩))
 have hB6:B<=w6.heap.size:=Nat.le_trans hB f6.size
 refine⟨zaO _,_,_,_,s6.cellAt (i:=0) rfl,?_⟩
 refine push zsh (by omega) a6 hB6 rfl (by intro u hu;simp[Value.cells] at hu;subst hu;rfl) (by omega) (by omega) (by omega) fun p' c' w16 o16 g16 hp'=>⟨zaO _,?_⟩
 have s16:=s6.st (fun u v hu qhv=>by cases hu;exact Ne.symm (q.ap v qhv).1) g16
 have t16:∀k,k<H.length->Own B w16 zap 4 (ptr (at_ H k).b) 1 1 (thc (at_ H k) k):=fun k hk=>(t6 k hk).st (zkv fun v qhv=>(q.ap v qhv).2 k hk) g16
 have o16t:=o6'.st (zkv fun v qhv=>hpa v qhv) g16
 have np:∀a,p'=some a->(∃a',p=some a'/\a'.block=a.block)\/w6.heap.size<=a.block:=fun a ha=>by
  rcases g16.new with h|h
  ·subst ha
   cases p with
   |none => simp[blk] at h
   |some z => simp[blk] at h;exact .inl ⟨z,rfl,h.symm⟩
  ·exact .inr (h a ha)
 have ap':∀a,p'=some a->a.block≠qb/\a.block≠t.b/\∀k,k<H.length->(at_ H k).b≠a.block:=fun a ha=>by
  rcases np a ha with⟨z,hz,he⟩|h
  ·rw[<-he]
   exact⟨(q.ap z hz).1,Ne.symm (hpa z hz),(q.ap z hz).2⟩
  ·have l1:=(s6.lt _ rfl).2
   have l2:=(o6'.lt _ rfl).2
   exact⟨fun e=>by simp[ptr] at l1;omega,fun e=>by simp[ptr] at l2;omega,fun k hk e=>by have:=((t6 k hk).lt _ rfl).2;simp at this;omega⟩
 have st16:zak w16 (ptr qb) [.slice p' (H.length+1) c'] [] fun w20=>∀w21,Ext w20 w21->(Value.tuple #[]=.tuple #[]/\∃p' c',QI B w21 qb x y p' c' (H++[t])/\Fr (zkt qb p (t::H)) w w21/\(∀a,p'=some a->(∃a',p=some a'/\a'.block=a.block)\/w.heap.size<=a.block)):=by
  have:=zbF (off:=0) s16 (by simp) (v:=.slice p' (H.length+1) c') rfl (ns:=[]) (by simp) (K:=fun w20=>∀w21,Ext w20 w21->(Value.tuple #[]=.tuple #[]/\∃p' c',QI B w21 qb x y p' c' (H++[t])/\Fr (zkt qb p (t::H)) w w21/\(∀a,p'=some a->(∃a',p=some a'/\a'.block=a.block)\/w.heap.size<=a.block))) fun w20 o20 g20 w21 h21=>?_
  ·rw[zaG] at this;exact this
  have hl:(H++[t]).length=H.length+1:=by simp
  refine⟨rfl,p',c',QI.ext ⟨?_,?_,fun k hk=>?_,fun i k hi hk he=>?_,fun i hi=>?_,fun a ha=>⟨(ap' a ha).1,fun i hi=>?_⟩⟩ h21,?_,fun a ha=>?_⟩
  ·rw[hl];exact o20
  ·rw[hl,List.map_append]
   have:Own B w16 zbl 1 p' (H.length+1) c' (H.map pv++[t].map pv):=o16
   exact this.st (fun u v hu qhv=>by cases qhv;exact(ap' u hu).1) g20
  ·rw[hl] at hk
   by_cases h:k<H.length
   ·rw[ze9 h];exact(t16 k h).st (zcm (q.aq k h)) g20
   ·obtain rfl:k=H.length:=by omega
    rw[zjN];exact o16t.st (zcm hq) g20
  ·rw[hl] at hi hk
   by_cases h1:i<H.length<;>by_cases h2:k<H.length
   ·rw[ze9 h1,ze9 h2] at he;exact q.inj i k h1 h2 he
   ·obtain rfl:k=H.length:=by omega
    rw[ze9 h1,zjN] at he;exact absurd he (hth i h1)
   ·obtain rfl:i=H.length:=by omega
    rw[ze9 h2,zjN] at he;exact absurd he.symm (hth k h2)
   ·omega
  ·rw[hl] at hi
   by_cases h1:i<H.length
   ·rw[ze9 h1];exact q.aq i h1
   ·obtain rfl:i=H.length:=by omega
    rw[zjN];exact hq
  ·rw[hl] at hi
   by_cases h1:i<H.length
   ·rw[ze9 h1];exact(ap' a ha).2.2 i h1
   ·obtain rfl:i=H.length:=by omega
    rw[zjN];exact Ne.symm (ap' a ha).2.1
  ·refine((f6.tr (zaT g16 fun a ha=>.inr (.inl ⟨a,ha,rfl⟩))).tr (zaT g20 fun a ha=>by cases ha;exact .inl rfl)).tr (zac h21)
  ·rcases np a ha with h|h
   ·exact .inl h
   ·exact .inr (Nat.le_trans f6.size h)
 exact st16
theorem pop_k(q:QI B w qb x y p c H)(hl:0<H.length) :
  FnP Tryz.prog zf6 #[.pointer (ptr qb)] w fun v w'=>v=tv (at_ H (H.length-1)).b/\QI B w' qb x y p c (H.take (H.length-1))/\Fr (fun b=>b=qb) w w'/\Own B w' zap 4 (ptr (at_ H (H.length-1)).b) 1 1 (thc (at_ H (H.length-1)) (H.length-1)):=by
 have hp:=q.ne hl
 have s0:=q.slot.cellAt (i:=0) rfl
 have hc:=q.arr.le
 have e1:((H.length:Int)-1).toNat=H.length-1:=by omega
 have ca:=zqg q.arr (i:=(H.length:Int)-1) (by omega) (by omega)
 rw[e1] at ca
 refine zpm (ptr qb) w _ ⟨zaO _,_,_,_,s0,i64 (by omega),zaO _,_,_,_,s0,hp,by omega,by omega,_,ca,zaO _,_,_,_,s0,by omega,by omega,by omega,zaO _,?_⟩
 rw[show(((H.length:Int)-1)-0).toNat=H.length-1 by omega,show c-(0:Int).toNat=c by simp,zgi]
 have st:=zbF (off:=0) q.slot (by simp) (v:=.slice p (H.length-1) c) rfl (ns:=[]) (by simp) (K:=fun w10=>∀w11,Ext w10 w11->Run Tryz.prog (.makeInterface zbl (.pointer (ptr (at_ H (H.length-1)).b))) w11 fun v12 w12=>Ext w11 w12/\∃t13:Value,v12=t13/\∀w14,Ext w12 w14 ->
  (t13=tv (at_ H (H.length-1)).b/\QI B w14 qb x y p c (H.take (H.length-1))/\Fr (fun b=>b=qb) w w14/\Own B w14 zap 4 (ptr (at_ H (H.length-1)).b) 1 1 (thc (at_ H (H.length-1)) (H.length-1)))) fun w10 o10 g10 w11 h11=>?_
 ·rw[zaG] at st;exact st
 refine zgk (d:=.pointer zap) (by kernel_rfl) (by simp) ⟨Ext.refl _,_,rfl,fun w14 h14=>⟨rfl,?_,((zaT g10 fun a ha=>by cases ha;rfl).tr (zac h11)).tr (zac h14),?_⟩⟩
 ·refine QI.ext (QI.ext ?_ h11) h14
  have hm:(H.take (H.length-1)).length=H.length-1:=by simp
  have th:∀k,k<H.length->Own B w10 zap 4 (ptr (at_ H k).b) 1 1 (thc (at_ H k) k):=fun k hk=>(q.th k hk).st (zcm (q.aq k hk)) g10
  refine⟨?_,?_,fun k hk=>?_,fun i k hi hk he=>?_,fun i hi=>?_,fun a ha=>⟨(q.ap a ha).1,fun i hi=>?_⟩⟩
  ·rw[hm];exact o10
  ·have:=(q.arr.st (fun u v hu qhv=>by cases qhv;exact(q.ap u hu).1) g10).pre (m:=H.length-1) (by omega)
   rw[hm,List.map_take];rw[Nat.mul_one] at this;exact this
  ·rw[hm] at hk;rw[znE hk];exact th k (by omega)
  ·rw[hm] at hi hk;rw[znE hi,znE hk] at he;exact q.inj i k (by omega) (by omega) he
  ·rw[hm] at hi;rw[znE hi];exact q.aq i (by omega)
  ·rw[hm] at hi;rw[znE hi];exact(q.ap a ha).2 i (by omega)
 ·exact(((q.th (H.length-1) (by omega)).st (zcm (q.aq _ (by omega))) g10).ext h11).ext h14
theorem zqA{p':Option Addr}{t:Th}{G:List Th}{n:Nat}(hg:∀u∈G,u=t\/u∈H)(hp:∀a,p'=some a->(∃a',p=some a'/\a'.block=a.block)\/n<=a.block)(b:Nat)(h:zkt qb p' G b):zkt qb p (t::H) b\/n<=b:=by
 rcases h with h|⟨a,ha,rfl⟩|⟨u,hu,rfl⟩
 ·exact .inl (.inl h)
 ·rcases hp a ha with⟨z,hz,he⟩|h
  ·exact .inl (.inr (.inl ⟨z,hz,he⟩))
  ·exact .inr h
 ·refine .inl (.inr (.inr ⟨u,?_,rfl⟩))
  rcases hg u hu with rfl|h
  ·exact List.mem_cons_self ..
  ·exact List.mem_cons_of_mem _ h
theorem zzk(q:QI B w qb x y p c H)(hh:Hp H H.length)(hn:H.length<=999)(hB:B<=w.heap.size){t:Th}{j:Nat}(ht:Own B w zap 4 (ptr t.b) 1 1 (thc t j))(hf:¬zkt qb p H t.b) :
  FnP Tryz.prog zc5 #[qhv qb,tv t.b] w fun v w'=>v=.tuple #[]/\∃p' c' Y,QI B w' qb x y p' c' Y/\Y.Perm (t::H)/\Hp Y Y.length/\Fr (zkt qb p (t::H)) w w'/\(∀a,p'=some a->(∃a',p=some a'/\a'.block=a.block)\/w.heap.size<=a.block):=by
 refine zjx (qhv qb) (tv t.b) w _ fun w0 h0=>zI3 ((push_k (q.ext h0) hn (Nat.le_trans hB h0.size) (ht.ext h0) hf).mono fun v w1 ⟨qhv,p',c',q1,f1,np⟩=>⟨qhv,fun w2 h2=>?_⟩)
 have q2:=q1.ext h2
 have hl:(H++[t]).length=H.length+1:=by simp
 refine zFr q2 (len_k.mono fun v w3 ⟨e3,qhv⟩=>⟨_,qhv,i64 (by omega),fun w5 h5=>?_⟩)
 have q5:=(q2.ext e3).ext h5
 have hup:Up (H++[t]) (H.length+1) H.length:=zKf (zBr hh fun k hk=>ze9 hk)
 rw[show(((H++[t]).length:Int)-1)=(H.length:Int) by omega]
 refine(up_k q5 (j:=(H.length:Int)) (n:=H.length+1) (by omega) (by omega) (by omega) (by omega) hup).mono fun v w6 ⟨qhv,Y,q6,hp,_,hhp,f6⟩=>⟨qhv,fun w7 h7=>⟨rfl,p',c',Y,q6.ext h7,hp.trans (List.perm_append_comm (l₁:=H) (l₂:=[t])),?_,?_,fun a ha=>?_⟩⟩
 ·rw[hp.length_eq,hl];exact hhp
 ·have f5:Fr (zkt qb p (t::H)) w w5:=((((zac h0).tr f1).tr (zac h2)).tr (zac e3)).tr (zac h5)
  refine(f5.trans f6 fun b hb=>zqA (fun u hu=>?_) (fun a ha=>?_) b hb).tr (zac h7)
  ·rcases List.mem_append.1 hu with h|h
   ·exact .inr h
   ·exact .inl (by simpa using h)
  ·rcases np a ha with h|h
   ·exact .inl h
   ·exact .inr (Nat.le_trans h0.size h)
 ·rcases np a ha with h|h
  ·exact .inl h
  ·exact .inr (Nat.le_trans h0.size h)
theorem zG1{Y:List Th}(h:0<Y.length):Y.take (Y.length-1)++[at_ Y (Y.length-1)]=Y:=by
 have:=List.take_append_drop (Y.length-1) Y
 have hd:Y.drop (Y.length-1)=[at_ Y (Y.length-1)]:=by
  rw[List.drop_eq_getElem_cons (by omega),List.drop_of_length_le (by omega)]
  unfold at_
  rw[List.getD_eq_getElem?_getD,List.getElem?_eq_getElem (by omega)];rfl
 rw[<-hd];exact this
theorem zGi{Y G:List Th}(h:0<Y.length)(hp:Y.Perm G):(at_ Y (Y.length-1)::Y.take (Y.length-1)).Perm G:=by
 refine List.Perm.trans ?_ hp
 have:=zG1 h
 refine List.Perm.trans (List.perm_append_comm (l₁:=[_])) ?_
 rw[this]
theorem zC4(q:QI B w qb x y p c H)(hh:Hp H H.length)(h0:0<H.length)(hn:H.length<=1000) :
  FnP Tryz.prog zdv #[qhv qb] w fun v w'=>∃(t:Th) (j:Nat) (Y:List Th),v=tv t.b/\QI B w' qb x y p c Y/\(t::Y).Perm H/\Hp Y Y.length/\(∀u∈H,¬ahead u t)/\Own B w' zap 4 (ptr t.b) 1 1 (thc t j)/\Fr (zkt qb p H) w w':=by
 refine zj2 (qhv qb) w _ fun w0 h0'=>zFr (q.ext h0') (len_k.mono fun v w1 ⟨e1,qhv⟩=>⟨_,qhv,i64 (by omega),fun w3 h3=>?_⟩)
 have q3:=((q.ext h0').ext e1).ext h3
 have f3:Fr (zkt qb p H) w w3:=((zac h0').tr (zac e1)).tr (zac h3)
 refine zux q3 ((zGZ q3 (by omega) (by omega) (by omega) (by omega)).mono fun v w4 ⟨qhv,q4,f4⟩=>⟨qhv,fun w5 h5=>?_⟩)
 have e0:((H.length:Int)-1).toNat=H.length-1:=by omega
 rw[e0] at q4
 have q5:=q4.ext h5
 have hl:=zG0 H (0:Int).toNat (H.length-1)
 have sa:=zrG H (i:=(0:Int).toNat) (j:=H.length-1) (by simpa using h0) (by omega)
 refine(down_k q5 (by omega) (by omega) (by omega) (by omega) (by omega) ?_).mono fun v w6 ⟨r,Y,qhv,q6,hp,hout,ht,hf,f6⟩=>⟨_,qhv,fun w8 h8=>?_⟩
 ·rw[e0]
  by_cases h1:H.length-1=0
  ·rw[h1];exact⟨fun k _ hk=>by omega,fun h=>by simp at h⟩
  ·refine zIv (zMT hh (by omega)) (fun k hk hk0=>?_) (by simp;omega)
   rw[sa k,if_neg (by omega),if_neg hk0]
 ·have hYl:Y.length=H.length:=by rw[hp.length_eq,hl]
  have hY:Hp Y (H.length-1):=by
   rw[e0] at ht hf
   cases r with
   |true => exact ht rfl
   |false => exact zHc (hf rfl).2
  have q8:=q6.ext h8
  have hlast:at_ Y (Y.length-1)=at_ H 0:=by
   rw[hYl,hout _ (by omega),sa,if_pos rfl];rfl
  have hpH:Y.Perm H:=hp.trans (zp2 H (by simpa using h0) (by omega))
  refine zMV ((pop_k q8 (by omega)).mono fun v w9 ⟨qhv,q9,f9,o9⟩=>⟨v,rfl,fun w11 h11=>⟨at_ Y (Y.length-1),Y.length-1,Y.take (Y.length-1),qhv,q9.ext h11,zGi (by omega) hpH,?_,fun u hu=>?_,o9.ext h11,?_⟩⟩)
  ·rw[List.length_take,Nat.min_eq_left (by omega),hYl]
   exact zBr hY fun k hk=>znE hk
  ·rw[hlast]
   obtain⟨k,hk,rfl⟩:=zKY hu
   exact zI0 hh k hk
  ·have fp:∀b,zkt qb p (swp H (0:Int).toNat (H.length-1)) b->zkt qb p H b:=fun b=>(zqB (zp2 H (by simpa using h0) (by omega)) b).1
   exact(((((f3.tr f4).tr (zac h5)).tr (f6.mono fp)).tr (zac h8)).tr (f9.mono fun b hb=>.inl hb)).tr (zac h11)
end
def zMt:Int->Value:=Value.int .i64
theorem kq:zCx Tryz.prog zgu zMt (.int .i64):=zJb (by kernel_rfl)
theorem mapq:Tryz.prog.underlying zhf=some (.map zgu zbl):=by kernel_rfl
def Rel(H:List Th)(m:List (Int×Value)):Prop:=(∀t∈H,ziK m t.id=some (pv t))/\∀id v,ziK m id=some v->∃t∈H,t.id=id/\v=pv t
structure QQ(B:Nat)(w:World)(qb mb:Nat)(born:Int)(p:Option Addr)(c:Nat)(H:List Th)(m:List (Int×Value)):Prop where
 qi:QI B w qb (.map (some mb)) (.int .i64 born) p c H
 mp:zcU zMt w mb m
 hp:Hp H H.length
 mB:B<=mb
 mf:¬zkt qb p H mb
def zju(mb qb:Nat)(p:Option Addr)(H:List Th)(b:Nat):Prop:=b=mb\/zkt qb p H b
section
variable {B qb mb:Nat} {born:Int} {p:Option Addr} {c:Nat} {H:List Th} {m:List (Int×Value)} {w:World}
theorem QQ.ext{w':World}(q:QQ B w qb mb born p c H m)(h:Ext w w'):QQ B w' qb mb born p c H m:=⟨q.qi.ext h,q.mp.ext h,q.hp,q.mB,q.mf⟩
theorem QQ.fr{S:Nat->Prop}{w':World}(q:QQ B w qb mb born p c H m)(h:Fr S w w')(hs:∀b,zju mb qb p H b->¬S b):QQ B w' qb mb born p c H m:=⟨q.qi.fr h fun b hb=>hs b (.inr hb),q.mp.fr h (hs _ (.inl rfl)),q.hp,q.mB,q.mf⟩
theorem QQ.foot(q:QQ B w qb mb born p c H m){b:Nat}(h:zju mb qb p H b):B<=b/\b<w.heap.size:=by
 rcases h with rfl|h
 ·exact⟨q.mB,q.mp.lt⟩
 ·exact q.qi.foot h
theorem QI.reslot{x y y':Value}{w':World}(q:QI B w qb x y p c H)(o:Own B w' zml 3 (ptr qb) 1 1 [.slice p H.length c,x,y'])(g:zcr w w' (ptr qb) (ptr qb)):QI B w' qb x y' p c H :=
 ⟨o,q.arr.st (fun u v hu qhv=>by cases qhv;exact(q.ap u hu).1) g,fun k hk=>(q.th k hk).st (zcm (q.aq k hk)) g,q.inj,q.aq,q.ap⟩
theorem qnew_k:FnP Tryz.prog zlq #[] w fun v w'=>Ext w w'/\∃qb mb,v=.pointer (ptr qb)/\w.heap.size<=qb/\∀B,B<=w.heap.size->QQ B w' qb mb 0 none 0 [] []:=by
 refine zxt w _ fun w0 h0=>ziY (enc:=zMt) fun w1 m1 e1=>⟨e1,_,rfl,rfl,fun w3 h3=>zbc (by simp[Value.oneCell']) fun w4 o4 e4 w5 h5=>⟨(((h0.trans e1).trans h3).trans e4).trans h5,w3.heap.size,w0.heap.size,rfl,?_,fun B hB=>?_⟩⟩
 ·exact Nat.le_trans (Nat.le_trans h0.size e1.size) h3.size
 ·have hm:=m1.lt
  refine QQ.ext ⟨⟨o4 B (Nat.le_trans (Nat.le_trans (Nat.le_trans hB h0.size) e1.size) h3.size),Own.nil,fun k hk=>by simp at hk,fun i k hi=>by simp at hi,fun i hi=>by simp at hi,fun a ha=>by cases ha⟩,(m1.ext h3).ext e4,fun k k1 kn=>by simp at kn,Nat.le_trans hB h0.size,?_⟩ h5
  rintro (h|⟨a,ha,_⟩|⟨t,ht,_⟩)
  ·have:=h3.size;omega
  ·cases ha
  ·cases ht
theorem zJJ(hr:Rel H m)(id:Int):∃t3:Option Addr,(ziK m id).getD (.pointer none)=.pointer t3/\(t3=none↔∀t∈H,t.id≠id)/\(t3≠none->∃t∈H,t.id=id/\t3=ptr t.b):=by
 cases hm:ziK m id with
 |none =>
  refine⟨none,rfl,⟨fun _ t ht he=>?_,fun _=>rfl⟩,fun h=>absurd rfl h⟩
  have:=hr.1 t ht;rw[he,hm] at this;cases this
 |some v =>
  obtain⟨t,ht,he,rfl⟩:=hr.2 id v hm
  exact⟨ptr t.b,rfl,⟨fun h=>absurd h (zaO _),fun h=>absurd he (h t ht)⟩,fun _=>⟨t,ht,he,rfl⟩⟩
theorem zNx{t:Th}{Y:List Th}(hr:Rel H m)(hn:∀u∈H,u.id≠t.id)(hp:Y.Perm (t::H)):Rel Y (zpN m t.id (pv t)):=by
 refine⟨fun u hu=>?_,fun id v qhv=>?_⟩
 ·rw[zmL]
  rcases List.mem_cons.1 (hp.mem_iff.1 hu) with rfl|h
  ·rw[if_pos rfl]
  ·rw[if_neg (Ne.symm (hn u h))];exact hr.1 u h
 ·rw[zmL] at qhv
  split at qhv
  ·rename_i h
   exact⟨t,hp.mem_iff.2 (List.mem_cons_self ..),h,(Option.some.inj qhv).symm⟩
  ·obtain⟨u,hu,h1,h2⟩:=hr.2 id v qhv
   exact⟨u,hp.mem_iff.2 (List.mem_cons_of_mem _ hu),h1,h2⟩
def Ids(H:List Th):Prop:=(H.map (·.id)).Nodup
theorem zNw{t:Th}{Y:List Th}(hr:Rel H m)(hn:(zc9 m).Nodup)(hi:Ids H)(hp:(t::Y).Perm H):Rel Y (zwV m t.id)/\Ids Y:=by
 have h1:((t::Y).map (·.id)).Nodup:=(hp.map _).nodup_iff.2 hi
 simp only[List.map_cons,List.nodup_cons] at h1
 have hne:∀u∈Y,u.id≠t.id:=fun u hu he=>h1.1 (by rw[<-he];exact List.mem_map_of_mem hu)
 refine⟨⟨fun u hu=>?_,fun id v qhv=>?_⟩,h1.2⟩
 ·rw[zwW m hn,if_neg (Ne.symm (hne u hu))]
  exact hr.1 u (hp.mem_iff.1 (List.mem_cons_of_mem _ hu))
 ·rw[zwW m hn] at qhv
  split at qhv
  ·cases qhv
  ·rename_i h
   obtain⟨u,hu,h2,h3⟩:=hr.2 id v qhv
   rcases List.mem_cons.1 (hp.mem_iff.2 hu) with rfl|hy
   ·exact absurd h2 h
   ·exact⟨u,hy,h2,h3⟩
theorem qput_k(q:QQ B w qb mb born p c H m)(hr:Rel H m)(hn:H.length<=200)(hb:-1<=born/\born<=1000000000)(hB:B<=w.heap.size)(prio id:Int) :
  FnP Tryz.prog zeI #[.pointer (ptr qb),.int .i64 prio,.int .i64 id] w fun v w'=>∃e:Int,v=.int .i64 e /\
   (e≠0->Ext w w'/\((∃t∈H,t.id=id)/\e=6\/H.length=200/\e=7)) /\
   (e=0->(∀t∈H,t.id≠id)/\H.length≠200/\∃b p' c' Y,QQ B w' qb mb (born+1) p' c' Y (zpN m id (pv ⟨b,prio,id,born+1⟩))/\Y.Perm (⟨b,prio,id,born+1⟩::H)/\Fr (zju mb qb p H) w w' /\
    (∀k,zju mb qb p' Y k->zju mb qb p H k\/w.heap.size<=k)):=by
 obtain⟨t3,e3,hnone,hsome⟩:=zJJ hr id
 have ne:=zaO qb
 refine zm1 (ptr qb) prio id w _ ⟨ne,ne,_,q.qi.slot.cellAt0 (i:=1) rfl,fun w1 h1=>zB4 kq mapq ziC (a:=id) (q.mp.ext h1) ⟨Ext.refl _,t3,e3,fun hs w4 h4=>⟨_,rfl,fun _=>⟨h1.trans h4,.inl ⟨?_,rfl⟩⟩,fun h=>by cases h⟩,fun hs=>⟨ne,ne,_,_,_,(q.ext h1).qi.slot.cellAt0 (i:=0) rfl,fun h200 w7 h7=>⟨_,rfl,fun _=>⟨h1.trans h7,.inr ⟨by omega,rfl⟩⟩,fun h=>by cases h⟩,fun h200=>?_⟩⟩⟩
 ·obtain⟨t,ht,he,_⟩:=hsome hs;exact⟨t,ht,he⟩
 have q1:=q.ext h1
 refine⟨ne,ne,_,q1.qi.slot.cellAt0 (i:=2) rfl,i64 (by omega),ne,ne,?_⟩
 refine zbF q1.qi.slot (by simp) rfl (by simp) fun w8 o8 g8=>⟨ne,ne,_,o8.cellAt0 (i:=2) rfl,fun w10 h10=>?_⟩
 have qi8:=q1.qi.reslot (y':=.int .i64 (born+1)) o8 g8
 have m8:=q1.mp.grew (p:=ptr qb) (q:=ptr qb) (fun x hx=>by cases hx;exact fun h=>q.mf (.inl h.symm)) g8
 have f8:Fr (zju mb qb p H) w w8:=(zac h1).tr (zaT g8 fun a ha=>by cases ha;exact .inr (.inl rfl))
 refine zbc (by simp[Value.oneCell']) fun w11 o11 e11=>⟨ne,ne,_,((qi8.ext h10).ext e11).slot.cellAt0 (i:=1) rfl,fun w13 h13=>?_⟩
 have sz10:w.heap.size<=w10.heap.size:=Nat.le_trans f8.size h10.size
 have o11:=o11 B (Nat.le_trans hB sz10)
 have t13:=o11.ext h13
 have qi13:=((qi8.ext h10).ext e11).ext h13
 have f13:Fr (zju mb qb p H) w w13:=((f8.tr (zac h10)).tr (zac e11)).tr (zac h13)
 have hfr:¬zju mb qb p H w10.heap.size:=fun h=>by have:=(q.foot h).2;omega
 refine zfS kq mapq (a:=id) (((m8.ext h10).ext e11).ext h13) fun w14 m14 g14=>⟨ne,ne,fun w15 h15=>?_⟩
 have g14':Fr (fun b=>b=mb) w13 w14:=zaT g14 fun a ha=>by cases ha;rfl
 have qi14:=qi13.fr g14' fun b hb h=>q.mf (h▸hb)
 have t14:=t13.fr g14' fun a ha h=>by cases ha;exact hfr (.inl h)
 rw[zaG]
 refine zgk (d:=.pointer zeN) (by kernel_rfl) (by simp) ⟨Ext.refl _,_,rfl,fun w18 h18=>zgk (d:=.pointer zap) (by kernel_rfl) (by simp) ⟨Ext.refl _,_,rfl,fun w21 h21=>?_⟩⟩
 have qi21:=((qi14.ext h15).ext h18).ext h21
 have t21:=((t14.ext h15).ext h18).ext h21
 have f21:Fr (zju mb qb p H) w w21:=(((f13.tr (g14'.mono fun b hb=>.inl hb)).tr (zac h15)).tr (zac h18)).tr (zac h21)
 refine(zzk (t:=⟨w10.heap.size,prio,id,born+1⟩) (j:=0) qi21 q.hp (by omega) (Nat.le_trans hB f21.size) t21 fun h=>hfr (.inr h)).mono fun v w22 ⟨qhv,p',c',Y,qi22,hp,hh,f22,np⟩=>⟨qhv,fun w23 h23=>⟨0,rfl,fun h=>absurd rfl h,fun _=>⟨hnone.1 hs,by omega,w10.heap.size,p',c',Y,QQ.ext ⟨qi22,?_,hh,q.mB,?_⟩ h23,hp,?_,fun k hk=>?_⟩⟩⟩
 ·have m21:=((m14.ext h15).ext h18).ext h21
  refine m21.fr f22 ?_
  rintro (h|h|⟨t,ht,h⟩)
  ·exact q.mf (.inl h)
  ·exact q.mf (.inr (.inl h))
  ·rcases List.mem_cons.1 ht with rfl|ht
   ·exact hfr (.inl h)
   ·exact q.mf (.inr (.inr ⟨t,ht,h⟩))
 ·intro h
  rcases zqA (fun u hu=>List.mem_cons.1 (hp.mem_iff.1 hu)) np mb h with h|h
  ·rcases h with h|h|⟨t,ht,h⟩
   ·exact q.mf (.inl h)
   ·exact q.mf (.inr (.inl h))
   ·rcases List.mem_cons.1 ht with rfl|ht
    ·exact hfr (.inl h)
    ·exact q.mf (.inr (.inr ⟨t,ht,h⟩))
  ·have:=((m14.ext h15).ext h18 |>.ext h21).lt;omega
 ·refine(f21.trans f22 fun b hb=>?_).tr (zac h23)
  rcases hb with h|h|⟨t,ht,h⟩
  ·exact .inl (.inr (.inl h))
  ·exact .inl (.inr (.inr (.inl h)))
  ·rcases List.mem_cons.1 ht with rfl|ht
   ·simp only at h;exact .inr (by omega)
   ·exact .inl (.inr (.inr (.inr ⟨t,ht,h⟩)))
 ·rcases hk with rfl|hk
  ·exact .inl (.inl rfl)
  ·rcases zqA (fun u hu=>List.mem_cons.1 (hp.mem_iff.1 hu)) np k hk with h|h
   ·rcases h with h|h|⟨t,ht,h⟩
    ·exact .inl (.inr (.inl h))
    ·exact .inl (.inr (.inr (.inl h)))
    ·rcases List.mem_cons.1 ht with rfl|ht
     ·simp only at h;exact .inr (by omega)
     ·exact .inl (.inr (.inr (.inr ⟨t,ht,h⟩)))
   ·exact .inr (Nat.le_trans f21.size h)
theorem zNu(q:QQ B w qb mb born p c H m)(hn:H.length<=1000) :
  FnP Tryz.prog zbb #[.pointer (ptr qb)] w fun v w' =>
   (H=[]/\v=.tuple #[.agg #[.int .i64 0,.int .i64 0],.bool false]/\Ext w w') \/
   ∃t Y,v=.tuple #[.agg #[.int .i64 t.prio,.int .i64 t.id],.bool true]/\QQ B w' qb mb born p c Y (zwV m t.id)/\(t::Y).Perm H/\(∀u∈H,¬ahead u t)/\Fr (zju mb qb p H) w w':=by
 have ne:=zaO qb
 refine zlS (ptr qb) w _ fun b0 hb0=>⟨ne,ne,_,_,_,q.qi.slot.cellAt0 (i:=0) rfl,fun h0 w4 h4=>.inl ⟨List.length_eq_zero_iff.1 (by omega),rfl,h4⟩,fun h0=>⟨ne,ne,fun w4 x4=>?_⟩⟩
 have h4:=zaa x4
 rw[zaG]
 refine zgk (d:=.pointer zeN) (by kernel_rfl) (by simp) ⟨Ext.refl _,_,rfl,fun w7 x7=>?_⟩
 have h7:=zaa x7
 have q7:=(q.ext h4).ext h7
 have lt4:=x4.lt b0 (by simp)
 have nf:∀k,zju mb qb p H k->k≠b0:=fun k hk h=>by have:=(q.foot hk).2;omega
 refine(zC4 q7.qi q.hp (by omega) hn).mono fun v w8 ⟨t,j,Y,qhv,q8,hp,hh,hmin,ht,f8⟩=>⟨?_,v,rfl,fun w10 x10=>?_⟩
 ·refine f8.kept fun b hb=>?_
  obtain rfl:b=b0:=by simpa using hb
  exact⟨x7.lt b (by simp),fun h=>nf b (.inr h) rfl⟩
 subst qhv
 have h10:=zaa x10
 have hth:t∈H:=hp.mem_iff.1 (List.mem_cons_self ..)
 have mfY:¬zkt qb p Y mb:=by
  rintro (h|h|⟨u,hu,h⟩)
  ·exact q.mf (.inl h)
  ·exact q.mf (.inr (.inl h))
  ·exact q.mf (.inr (.inr ⟨u,hp.mem_iff.1 (List.mem_cons_of_mem _ hu),h⟩))
 have tb:t.b≠mb:=fun h=>q.mf (.inr (.inr ⟨t,hth,h⟩))
 have tb0:t.b≠b0:=nf _ (.inr (.inr (.inr ⟨t,hth,rfl⟩)))
 have m10:=(q7.mp.fr f8 q.mf).ext h10
 have net:=zaO t.b
 refine ztV (d:=.pointer zap) (by kernel_rfl) (by simp) ⟨Ext.refl _,_,rfl,ne,ne,_,(q8.ext h10).slot.cellAt0 (i:=1) rfl,net,net,by rw[zaG];exact net,_,(by rw[zaG];exact(ht.ext h10).cellAt0 (i:=1) rfl),fun w15 x15=>?_⟩
 have h15:=zaa x15
 have lt15:=x15.lt b0 (by simp)
 refine zDo (ts:=[3]) kq mapq (a:=t.id) (m10.ext h15) fun w16 m16 g16=>?_
 have f16:Fr (fun b=>b=mb) w15 w16:=zaT g16 fun a ha=>by cases ha;rfl
 have q16:=((q8.ext h10).ext h15).fr f16 fun b hb h=>mfY (h▸hb)
 have t16:=((ht.ext h10).ext h15).fr f16 fun a ha h=>by cases ha;exact tb h
 rw[zaG]
 refine⟨f16.kept fun b hb=>?_,rfl,net,net,net,_,t16.cellAt (i:=0) rfl,_,t16.cellAt (i:=1) rfl,fun w19 x19=>.inr ⟨t,Y,rfl,?_,hp,hmin,?_⟩⟩
 ·obtain rfl:b=b0:=by simpa using hb
  exact⟨lt15,fun h=>nf b (.inl h) rfl⟩
 ·have f19:Fr (fun b=>b=b0) w16 w19:=zb4 x19 fun d hd=>.inl (by simpa using hd)
  have hY:∀k,zju mb qb p Y k->zju mb qb p H k:=fun k hk=>by
   rcases hk with h|h|h|⟨u,hu,h⟩
   ·exact .inl h
   ·exact .inr (.inl h)
   ·exact .inr (.inr (.inl h))
   ·exact .inr (.inr (.inr ⟨u,hp.mem_iff.1 (List.mem_cons_of_mem _ hu),h⟩))
  exact QQ.fr ⟨q16,m16,hh,q.mB,mfY⟩ f19 fun k hk h=>nf k (hY k hk) h
 ·have f16':Fr (zju mb qb p H) w w16:=(((((zac h4).tr (zac h7)).tr (f8.mono fun b hb=>.inr hb)).tr (zac h10)).tr (zac h15)).tr (f16.mono fun b hb=>.inl hb)
  refine f16'.trans (zb4 (S:=fun b=>b=b0) x19 fun d hd=>.inl (by simpa using hd)) fun b hb=>.inr (by omega)
end
end Go.Proofs.YtcceeahmcecbnaaGreatDoor
