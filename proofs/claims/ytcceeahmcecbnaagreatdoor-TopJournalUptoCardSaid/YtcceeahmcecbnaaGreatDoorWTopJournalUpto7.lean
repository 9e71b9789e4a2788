/- The framework, the program's texts and what is shown of them: part 7. -/
import Derived.Test.YtcceeahmcecbnaaGreatDoorWTopJournalUpto6
set_option linter.unusedVariables false
set_option linter.unusedSimpArgs false
set_option maxRecDepth 100000
namespace Go.Proofs.YtcceeahmcecbnaaGreatDoor
open Go.Sx Go.RowKit Go.ChangeShapes Go.WideShapes Go.ChangeAt
theorem SX.go{O O' S:Nat->Prop}{B sb:Nat}{w w9:World}{Z:Zt}(s:SX O B w sb Z)(f:Fr S w w9)(hS:∀b,S b->O b)(h:∀b,O' b->O b\/(w.heap.size<=b/\b<w9.heap.size)):SX O' B w9 sb Z:=by
 have s9:=s.fr f hS
 refine⟨s9.slot,s9.disk,s.farm.go f (fun b hb=>.inl (hS b hb)) fun b hb=>?_,fun w'' k=>?_,s.ap,s.new,fun b hb hs=>?_⟩
 ·rcases hb with hb|hb
  ·exact(h b hb).imp .inl fun h=>h
  ·exact .inl (.inr hb)
 ·refine s.hs w'' ((f.mono fun b hb=>.inl (hS b hb)).trans k fun b hb=>?_)
  rcases hb with hb|hb
  ·exact(h b hb).imp .inl fun h=>h.1
  ·exact .inl (.inr hb)
 ·rcases h b hb with h|h
  ·exact s.odis b h hs
  ·have:=(s.foot (.inl hs)).2;omega
def zIC(W:World)(p:Option Addr)(L:List EvR):Prop:=L.length<=1048576/\(zfQ 15 zqJ W p L->(∀r∈L,IsT W r.x.job.ask r.pa r.ca)->∀r∈L,nod r.x.job.ask<=1048576)
theorem bulkE{H:Type}{enc:TypeId×Value->H}{w:World}{n:Nat}{p:Option Addr}{c:Nat}{L:List EvR}{d:DataW H}{ps:List MemPlace}
  (h:DataW.trod enc Tryz.prog w 0 (fun _=>true) true n zrB [.slice p L.length c]=some (d,ps)) (hd:Rows.uptoBulk d<=1048576):zIC w p L :=
 ⟨Nat.le_trans (zA8 (e:=zeY) (by kernel_rfl) h) hd,fun hR hT r hr=>Nat.le_trans (zF6 hR hT h r hr) hd⟩
theorem runE_k(p:Option Addr)(c:Nat)(L:List Ht)(h63:(L.length:Int)<=9223372036854775807)(hO:∀h∈L,zry h)(pol:Pol)(q:Option Addr)(d:Nat)(E:List EvR)(hE63:(E.length:Int)<=9223372036854775807)(w:World)(hL:ziz w p L)(hE:zfQ 15 zqJ w q E)(hEw:∀r∈E,WfJ r.x.job/\IsJ w r.x.job r.pa r.ca r.pf) :
  FnP Tryz.prog zdL #[.agg #[.slice p L.length c,.int .i64 pol.first,.int .i64 pol.times,.int .i64 pol.most,.int .i64 pol.tries],.slice q E.length d] w fun v w'=>Ext w w'/\∃(f:Option Addr),v=.pointer f /\
   (zmS L pol->∃B fb P F,f=ptr fb/\w.heap.size<=B/\B<=w'.heap.size/\FX B w' fb P F/\zkp (zio L pol) (E.map (·.x)) F):=by
 refine zkN p L.length c pol.first pol.times pol.most pol.tries q E.length d w _ fun b0 hb0 w1 x1=>?_
 have h1:=zaa x1
 refine(zur p c L h63 hO pol w1 (hL.ext h1)).mono fun v w2 ⟨e2,f,e,hv,hiff,hno,hyes⟩=>⟨e2,f,e,hv,fun hne w5 h5=>⟨(h1.trans e2).trans h5,none,rfl,fun h=>absurd (hiff.2 h) hne⟩,fun hz=>?_⟩
 have hok:=hiff.1 hz
 obtain⟨fb,P0,rfl,x2⟩:=hyes hz
 have lt1:=x1.lt b0 (by simp)
 refine⟨fun k w'=>0<=k/\k<=E.length/\Ext w w'/\w1.heap.size<=w'.heap.size/\∃P F,FX w1.heap.size w' fb P F/\zkp (zio L pol) ((E.map (·.x)).take k.toNat) F,fun k _=>(E.length-k).toNat,⟨by omega,by omega,h1.trans e2,e2.size,P0,_,x2,rfl⟩,?_⟩
 rintro k w7 ⟨hk0,hk1,h7,hs7,P,F,x7,hp⟩
 have I:=zvJ hp (zpF hok)
 refine⟨fun hlt=>?_,fun hge w8 h8=>?_⟩
 ·obtain⟨r,hr⟩:∃r,E[k.toNat]?=some r:=⟨_,List.getElem?_eq_getElem (by omega)⟩
  have g:∀(m:Nat) u,(zqJ r)[m]?=some u->Go.Sx.cell w7 (pIdx q k 15) m=some u:=fun m u hu=>zaz h7 (hE.at hk0 hr hu)
  have g0:=g 0 _ rfl
  obtain⟨hW,hJ⟩:=hEw r (List.mem_of_getElem? hr)
  refine⟨fun h=>zaj g0 (zah.2 h),hk0,hlt,zaj g0,_,g 0 _ rfl,_,g 1 _ rfl,_,g 2 _ rfl,_,g 3 _ rfl,_,g 4 _ rfl,_,g 5 _ rfl,_,g 6 _ rfl,_,g 7 _ rfl,_,g 8 _ rfl,_,g 9 _ rfl,_,_,_,g 10 _ rfl,_,_,_,g 11 _ rfl,_,g 12 _ rfl,_,g 13 _ rfl,_,g 14 _ rfl,fun b27 hb27 w28 x28=>?_⟩
  have h28:=zaa x28
  refine(Do_k (x7.ext h28) I.i0.pre I.i0.hs r.x r.pa r.ca r.pf r.cf (hJ.ext (h7.trans h28)) hW (Nat.le_trans hs7 h28.size)).mono fun v w29 ⟨e,P',F',hv,_,hd,x29,f29,_⟩=>⟨f29.kept fun b hb=>?_,e,hv,i64 (by omega),⟨by omega,by omega,f29.ext (h7.trans h28) (fun b hb=>?_),Nat.le_trans hs7 (Nat.le_trans h28.size f29.size),P',F',x29,?_⟩,by simp only[];omega⟩
  ·refine⟨x28.lt b hb,fun hf=>?_⟩
   have:=x7.foot hf
   simp at hb
   rcases hb with rfl|rfl<;>omega
  ·have:=(x7.foot hb).1
   have:=h1.size
   omega
  ·rw[show(k+1).toNat=k.toNat+1 by omega,List.take_add_one,List.getElem?_map,hr]
   exact zjL hp hd
 ·refine⟨h7.trans h8,ptr fb,rfl,fun _=>⟨w1.heap.size,fb,P,F,rfl,h1.size,Nat.le_trans hs7 h8.size,x7.ext h8,?_⟩⟩
  rw[show k.toNat=(E.map (·.x)).length by simp;omega,List.take_length] at hp
  exact hp
noncomputable def zKn (x:Ev):Bool:=by classical exact decide (okE x)
theorem zs6{x:Ev}:zKn x=true↔okE x:=by unfold zKn;simp
theorem zjf:∀{L:List Ev}{F G:Fm},zkp F L G->zkp F (L.filter zKn) G
 |[],F,G,h => h
 |x::L,F,G,⟨F1,h1,h2⟩ => by
  by_cases hx:zKn x=true
  ·rw[List.filter_cons_of_pos hx]
   exact⟨F1,h1,zjf h2⟩
  ·rw[List.filter_cons_of_neg hx]
   rcases h1 with⟨_,rfl⟩|⟨hc,_⟩
   ·exact zjf h2
   ·exact absurd (zs6.2 hc.1) hx
end Go.Proofs.YtcceeahmcecbnaaGreatDoor
namespace Go.Proofs.YtcceeahmcecbnaaGreatDoor
open Go.Sx Go.RowKit
abbrev ORj(n:Nat)(p:Option Addr)(b:Nat):Prop:=b<n\/∃a,p=some a/\a.block=b
theorem zuP(W:World)(g:GD W){p:Option Addr}{hl c:Nat}(hA:zaC Tryz.prog W zdO p hl c)(x1 x2 x3 x4:Int){q:Option Addr}{el d:Nat}(hq:zaC Tryz.prog W zeY q el d)(hbk:∀L:List EvR,L.length=el->zIC W q L) :
  FnP Tryz.prog zbW #[(.agg #[(.slice p hl c),(.int .i64 x1),(.int .i64 x2),(.int .i64 x3),(.int .i64 x4)]),(.slice q el d)] W fun v W'=>v=.bool true/\Ext W W':=by
 have hsz:=zxe g
 obtain⟨L,rfl,h63,hO,hL⟩:=zuF hA
 obtain⟨Es,rfl,hE,hEw⟩:=zJL hq
 have hnod:∀r∈Es,nod r.x.job.ask<=1048576:=(hbk Es rfl).2 hE fun r hr=>(hEw r hr).2.1
 have hE63:=(hbk Es rfl).1
 refine zfV p L.length c x1 x2 x3 x4 q Es.length d W _ fun b0 hb0 w1 x1'=>?_
 have h1:=zaa x1'
 have lt1:=x1'.lt b0 (by simp)
 refine(sNew_k p c L h63 hO ⟨x1,x2,x3,x4⟩ w1 (hL.ext h1)).mono fun v w2 ⟨e2,f,e,hv,hiff,hno,hyes⟩=>⟨e2,f,e,hv,fun w5 h5=>?_⟩
 have h2:=h1.trans e2
 have x5:=h2.trans h5
 refine(ztF w5 (g.ext x5) (Nat.le_trans hsz x5.size)).mono fun v w6 ⟨e6,hv⟩=>⟨e6,true,hv,fun _ w8 h8=>?_,fun hgood=>?_⟩
 ·have x8:=h2.trans h8
  exact(ztF w8 (g.ext x8) (Nat.le_trans hsz x8.size)).mono fun v w9 ⟨e9,hv⟩=>⟨e9,true,hv,fun w11 h11=>⟨rfl,h2.trans h11⟩⟩
 obtain⟨⟨⟨_,hz⟩,_⟩,h20⟩:=hgood
 have hok:=hiff.1 hz
 obtain⟨sb,Z0,rfl,hZL,hZp,hZF,hZb,hZs,sx2⟩:=hyes hz
 refine⟨fun al all alc k w'=>0<=k/\k<=Es.length/\Ext W w'/\w1.heap.size<=w'.heap.size/\∃Z K,SX (ORj w1.heap.size al) w1.heap.size w' sb Z/\Z.L=L/\Z.pol=⟨x1,x2,x3,x4⟩/\Inv Z.F/\zkp (zio L ⟨x1,x2,x3,x4⟩) ((Es.map (·.x)).take k.toNat) Z.F/\Z.bs=frs K/\(∀x∈K,Whole x)/\K=((Es.map (·.x)).take k.toNat).filter zKn/\all=Z.bs.length/\Own w1.heap.size w' zaF 1 al Z.bs.length alc ((bI Z.bs).map (.int .u8))/\(Z.bs.length:Int)<=3011*k,fun _ _ _ k _=>(Es.length-k).toNat,⟨by omega,by omega,h2,e2.size,Z0,[],?_,hZL,hZp,by rw[hZF];exact zpF hok,by rw[hZF];rfl,hZb,fun x hx=>(by cases hx),rfl,by rw[hZb];rfl,by rw[hZb];exact Own.nil,by rw[hZb];simp⟩,?_⟩
 ·refine sx2.go (S:=fun _=>False) (Fr.refl _ _) (fun _ h=>h.elim) fun b hb=>?_
  rcases hb with hb|⟨a,ha,_⟩
  ·exact .inl hb
  ·cases ha
 rintro al all alc k w11 ⟨hk0,hk1,h11,hs11,Z,K,s,rfl,hpl,I,hp,hbs,hK,hKe,rfl,oA,hlen⟩
 have hWB:W.heap.size<=w1.heap.size:=h1.size
 refine⟨fun hlt=>?_,fun hge=>⟨fun _ w12 h12=>⟨rfl,h11.trans h12⟩,fun hsm w12 x12=>?_⟩⟩
 ·obtain⟨r,hr⟩:∃r,Es[k.toNat]?=some r:=⟨_,List.getElem?_eq_getElem (by omega)⟩
  have gc:∀(m:Nat) u,(zqJ r)[m]?=some u->Go.Sx.cell w11 (pIdx q k 15) m=some u:=fun m u hu=>zaz h11 (hE.at hk0 hr hu)
  have g0:=gc 0 _ rfl
  obtain⟨hWj,hJj⟩:=hEw r (List.mem_of_getElem? hr)
  have hnr:=hnod r (List.mem_of_getElem? hr)
  refine⟨fun h=>zaj g0 (zah.2 h),hk0,hlt,zaj g0,_,gc 0 _ rfl,_,gc 1 _ rfl,_,gc 2 _ rfl,_,gc 3 _ rfl,_,gc 4 _ rfl,_,gc 5 _ rfl,_,gc 6 _ rfl,_,gc 7 _ rfl,_,gc 8 _ rfl,_,gc 9 _ rfl,_,_,_,gc 10 _ rfl,_,_,_,gc 11 _ rfl,_,gc 12 _ rfl,_,gc 13 _ rfl,_,gc 14 _ rfl,fun b31 hb31 w32 x32=>?_⟩
  have h32:=zaa x32
  have hW32:=h11.trans h32
  have s32:=s.ext h32
  refine(sDo_k s32 I (g.gb.ext hW32) (by omega) (Nat.le_trans hs11 h32.size) r.x r.pa r.ca r.pf r.cf (fun w'' f=>hJj.ext (s32.keep hW32 hWB f)) hWj hnr).mono fun v w33 ⟨e,Z',hv,s33,f33,g33,hL',hpl',hsf',hd,_,hbs'⟩=>⟨f33.kept fun b hb=>⟨x32.lt b hb,fun hf=>?_⟩,e,hv,fun w35 x35=>?_⟩
  ·have:=s.foot hf
   simp at hb
   rcases hb with rfl|rfl<;>omega
  have h35:=zaa x35
  have hW33:=s32.keep hW32 hWB f33
  have hW35:=hW33.trans h35
  have s35:=s33.ext h35
  have oA35:=((oA.ext h32).fr f33 fun a ha hf=>s32.oft (.inr ⟨a,ha,rfl⟩) hf).ext h35
  have I':=zCu hd I
  have hp':zkp (zio Z.L ⟨x1,x2,x3,x4⟩) ((Es.map (·.x)).take (k+1).toNat) Z'.F:=by
   rw[show(k+1).toNat=k.toNat+1 by omega,List.take_add_one,List.getElem?_map,hr]
   exact zjL hp hd
  have hs35:w1.heap.size<=w35.heap.size:=Nat.le_trans hs11 (Nat.le_trans h32.size (Nat.le_trans f33.size h35.size))
  refine(zsv r.x r.pa r.ca r.pf r.cf w35 (hJj.ext hW35) hWj hnr (g.gb.ext hW35)).mono fun v w36 ⟨e36,qf,nf,mc,e',hv,heq,hzf,hown⟩=>⟨e36,qf,nf,mc,e',hv,fun he w41 x41=>?_,fun hne=>⟨i64 (by omega),?_⟩⟩
  ·have hE':=heq.1 he
   obtain⟨hnf,oF⟩:=hown he
   obtain⟨hbsn⟩:Z'.bs=Z.bs++fr (enc r.x)/\True:=by
    rcases hbs' with⟨h,_⟩|⟨_,h⟩
    ·exact absurd hE' h
    ·exact⟨h,trivial⟩
   have hWh:=zAe hE' hnr
   have hfl:(fr (enc r.x)).length<=3011:=by rw[zge];have:=hWh.len;omega
   have hfp:0<(fr (enc r.x)).length:=by rw[zge];omega
   have h41:=zaa x41
   have oA41:=(oA35.ext e36).ext h41
   have oF41:=oF.ext h41
   have hqn:qf≠none:=oF.ne1 (by omega) (by omega)
   refine zkR zbf (by omega) oA41 (Nat.le_trans hs35 (Nat.le_trans e36.size h41.size)) hqn (news:=(bI (fr (enc r.x))).map (.int .u8)) (by simp[zo1,hnf]) oF41.cells (by intro u hu;obtain⟨x,_,rfl⟩:=List.mem_map.1 hu;rfl) (by omega) (by omega) fun p' c' w' o' g' hpn=>⟨fun b hb=>?_,p',_,c',rfl,i64 (by omega),⟨by omega,by omega,g'.ext ((hW35.trans e36).trans h41) (oA41.weak hWB),Nat.le_trans hs35 (Nat.le_trans e36.size (Nat.le_trans h41.size g'.size)),Z',K++[r.x],?_,hL',hpl'.trans hpl,I',hp',?_,?_,?_,?_,?_,?_⟩,by simp only[];omega⟩
   ·refine g'.by_.block b (x41.lt b hb) fun he=>?_
    cases al with
    |none => cases he
    |some y =>
     simp[blk] at he
     have:=oA.lt y rfl
     simp at hb
     rcases hb with rfl|rfl<;>omega
   ·refine((s35.ext e36).ext h41).go (zaP (S:=ORj w1.heap.size al) g' fun a ha=>.inr ⟨a,ha,rfl⟩) (fun b hb=>hb) fun b hb=>?_
    rcases hb with hb|⟨a',ha',rfl⟩
    ·exact .inl (.inl hb)
    ·have hlt':=(o'.lt a' ha').2
     rcases g'.new with hn|hn
     ·left;right
      subst ha'
      cases al with
      |none => simp[blk] at hn
      |some z => simp[blk] at hn;exact⟨z,rfl,hn.symm⟩
     ·exact .inr ⟨hn a' ha',hlt'⟩
   ·rw[hbsn,hbs,zGd]
   ·intro x hx
    rcases List.mem_append.1 hx with hx|hx
    ·exact hK x hx
    ·simp at hx;subst hx;exact hWh
   ·rw[hKe,show(k+1).toNat=k.toNat+1 by omega,List.take_add_one,List.getElem?_map,hr,List.filter_append]
    simp[zs6.2 hE']
   ·rw[hbsn,List.length_append,hnf]
   ·have e1:Z'.bs.length=Z.bs.length+nf:=by rw[hbsn,List.length_append,hnf]
    rw[e1,hbsn,zo0,List.map_append]
    exact o'
   ·rw[hbsn,List.length_append];push_cast;omega
  ·have hnE:¬okE r.x:=fun h=>hne (heq.2 h)
   have hbsn:Z'.bs=Z.bs:=by
    rcases hbs' with⟨_,h⟩|⟨h,_⟩
    ·exact h
    ·exact absurd h hnE
   refine⟨⟨by omega,by omega,hW35.trans e36,Nat.le_trans hs35 e36.size,Z',K,s35.ext e36,hL',hpl'.trans hpl,I',hp',hbsn.trans hbs,hK,?_,by rw[hbsn],by rw[hbsn];exact oA35.ext e36,by rw[hbsn];omega⟩,by simp only[];omega⟩
   rw[hKe,show(k+1).toNat=k.toNat+1 by omega,List.take_add_one,List.getElem?_map,hr,List.filter_append]
   have:zKn r.x=false:=by
    cases h:zKn r.x with
    |false => rfl
    |true => exact absurd (zs6.1 h) hnE
   simp[this]
 have hkE:k.toNat=(Es.map (·.x)).length:=by simp;omega
 rw[hkE,List.take_length] at hp hKe
 have h12:=zaa x12
 have s12:=s.ext h12
 have oA12:=oA.ext h12
 refine(zzS s12 (by omega)).mono fun v w13 ⟨e13,q1,m1,hv,o13⟩=>⟨e13,q1,_,m1,hv,fun w17 x17=>?_⟩
 have h17:=zaa x17
 have hW17:=((h11.trans h12).trans e13).trans h17
 refine(Cut_k2 q1 m1 Z.bs w17 (o13.ext h17).cells o13.le.1 o13.le.2 (by omega) (g.gb.ext hW17)).mono fun v w18 ⟨e18,rs,pr,cr,n,hv,o18,hrs,hn0,hn1,htk,huniq⟩=>⟨e18,pr,_,cr,n,hv,fun w23 x23=>?_⟩
 have hrK:rs.map (·.x)=K:=huniq K [] hK zEm (by rw[hbs];simp)
 have hn:n=Z.bs.length:=by
  rw[hrK,<-hbs] at htk
  have:=congrArg List.length htk
  rw[List.length_take] at this
  omega
 have h23:=zaa x23
 have hW23:=(hW17.trans e18).trans h23
 have hrl:rs.length<=100000:=by
  have h1:rs.length=K.length:=by rw[<-hrK];simp
  have h2:=zKd K
  rw[<-hbs] at h2
  omega
 refine(zG2 p c Z.L h63 hO ⟨x1,x2,x3,x4⟩ pr cr rs (by omega) w23 (hL.ext hW23) ((o18.ext h23).recs fun _ _=>rfl) (fun r hr=>⟨(hrs r hr).1.wf,(hrs r hr).2 (fun _=>False) (fun _ h=>h.elim) w23 (zac h23)⟩)).mono fun v w24 ⟨e24,f1,er,hv,hiffr,hyr⟩=>⟨e24,f1,er,hv,fun w27 x27=>?_⟩
 obtain⟨B1,fb1,P1,F1,rfl,hB1,hB1',fx1,hp1⟩:=hyr hok
 have h27:=zaa x27
 have hW27:=(hW23.trans e24).trans h27
 refine(runE_k p c Z.L h63 hO ⟨x1,x2,x3,x4⟩ q d Es (by omega) w27 (hL.ext hW27) (fun i x hx j u hu=>zaz hW27 (hE i x hx j u hu)) (fun r hr=>⟨(hEw r hr).1,(hEw r hr).2.ext hW27⟩)).mono fun v w28 ⟨e28,f2,hv,hy2⟩=>⟨e28,f2,hv,fun w30 x30=>?_⟩
 obtain⟨B2,fb2,P2,F2,rfl,hB2,hB2',fx2,hp2⟩:=hy2 hok
 have hFF:F1=F2:=by
  rw[hrK,hKe] at hp1
  exact zDS hp1 (zjf hp2)
 subst hFF
 have h30:=zaa x30
 have hW30:=(hW27.trans e28).trans h30
 have e1230:=((((((e13.trans h17).trans e18).trans h23).trans e24).trans h27).trans e28).trans h30
 refine(zzS (s12.ext e1230) (by omega)).mono fun v w31 ⟨e31,q3,m3,hv,o31⟩=>⟨e31,q3,_,m3,hv,fun w35 h35=>?_⟩
 refine(zwB w35 rfl rfl (o31.ext h35).cells (((oA12.ext e1230).ext e31).ext h35).cells).mono fun v w36 ⟨e36,hv⟩=>⟨e36,_,hv,fun _ w38 h38=>?_,fun hbad=>?_⟩
 ·have hW31:=hW30.trans e31
  have fx1':=(((((fx1.ext h27).ext e28).ext h30).ext e31))
  have fx2':=((fx2.ext h30).ext e31)
  refine(now_k (fx1'.ext h38)).mono fun v w39 ⟨e39,hv⟩=>⟨e39,_,hv,fun w41 h41=>(now_k (fx2'.ext h41)).mono fun v w42 ⟨e42,hv⟩=>⟨e42,_,hv,fun _ w44 x44=>?_,fun hne=>absurd rfl hne⟩⟩
  have h44:=zaa x44
  refine(zt1 (fx1'.ext h44)).mono fun v w45 ⟨e45,pa1,ca1,R1,hv,hR1,_⟩=>⟨e45,pa1,_,ca1,hv,fun w49 x49=>?_⟩
  have h49:=zaa x49
  refine(zt1 (((fx2'.ext h44).ext e45).ext h49)).mono fun v w50 ⟨e50,pa2,ca2,R2,hv,hR2,_⟩=>⟨e50,pa2,_,ca2,hv,fun w54 h54=>⟨?_,((((hW31.trans h44).trans e45).trans h49).trans e50).trans h54⟩⟩
  have l1:=ztu hR1
  have l2:=ztu hR2
  simp[l1,l2]
 ·exfalso
  rcases hbad with ((((h|h)|h)|h)|h)
  ·simp at h
  ·exact h hn
  ·exact h (hiffr.2 hok)
  ·exact zaB _ h
  ·exact zaB _ h
theorem zCn(W:World)(hg:GD W):∀x_0:Option Addr,∀x_0l:Nat,∀x_0c:Nat,zaC Tryz.prog W zdO x_0 x_0l x_0c->∀x_1:Int,InR .i64 x_1->∀x_2:Int,InR .i64 x_2->∀x_3:Int,InR .i64 x_3->∀x_4:Int,InR .i64 x_4->∀l:Option Addr,∀ll:Nat,∀lc:Nat,zaC Tryz.prog W zeY l ll lc->(∀L:List EvR,L.length=ll->zIC W l L) ->
 FnP Tryz.prog zbW #[(.agg #[(.slice x_0 x_0l x_0c),(.int .i64 x_1),(.int .i64 x_2),(.int .i64 x_3),(.int .i64 x_4)]),(.slice l ll lc)] W fun v W'=>v=.bool true/\Ext W W':=fun p hl c hA x1 _ x2 _ x3 _ x4 _ q el d hq hb=>zuP W hg hA x1 x2 x3 x4 hq hb
end Go.Proofs.YtcceeahmcecbnaaGreatDoor
