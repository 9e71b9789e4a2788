/- The framework, the program's texts and what is shown of them: part 9. -/
import Derived.Test.YtegephkpdlopaaaGreatDoorW8
set_option linter.unusedVariables false
set_option linter.unusedSimpArgs false
namespace Go.Proofs.YtegephkpdlopaaaGreatDoor
open Go.Sx Go.RowKit Go.ChangeShapes
structure SI (O:Nat -> Prop) (B:Nat) (W w:World) (sb:Nat) (Z:Zt) (L:List Ht) (pol:Pol) (K:List Ev):Prop where
  sx:SX O B w sb Z
  ext:Ext W w
  hL:Z.L = L
  hpol:Z.pol = pol
  bs:Z.bs = frs K
  wh:∀ x ∈ K,Whole x
  pl:Plays (newF L pol) K Z.F
  sf:0 <= Z.sf /\ Z.sf <= Z.bs.length
section
variable {O:Nat -> Prop} {B sb:Nat} {W w:World} {Z:Zt} {L:List Ht} {pol:Pol} {K:List Ev}
theorem SI.to {w':World} (s:SI O B W w sb Z L pol K) (e:Ext w w'):SI O B W w' sb Z L pol K:=⟨s.sx.ext e,s.ext.trans e,s.hL,s.hpol,s.bs,s.wh,s.pl,s.sf⟩
theorem SI.new (s:SI O B W w sb Z L pol K):okNew L pol:=by have:=s.sx.new; rw [s.hL,s.hpol] at this; exact this
theorem SI.inv (s:SI O B W w sb Z L pol K):Inv Z.F:=plays_inv s.pl (new_inv s.new)
theorem SI.cap (s:SI O B W w sb Z L pol K) (hK:K.length <= 32):Z.bs.length <= 96352:=by rw [s.bs]; have:=frs_cap s.wh; omega
theorem SI.do_ (s:SI O B W w sb Z L pol K) (g:GB W) (hWB:W.heap.size <= B) (hB:B <= w.heap.size) (hK:K.length <= 32) (y:Ev) (pa:Option Addr) (ca:Nat) (pf:Option Addr) (cf:Nat) (hJ:IsJ W y.job pa ca pf) (hWf:WfJ y.job) (hn:nod y.job.ask <= 1048576) :
    FnP Tryz.prog F_safe_Safe_Do #[.pointer (ptr sb),evv y pa ca pf cf] w fun v w' => ∃ (e:Int) (Z':Zt) (K':List Ev),v = .int .i64 e /\ SI O B W w' sb Z' L pol K' /\ Fr (SF sb Z) w w' /\ (∀ b,SF sb Z' b -> SF sb Z b \/ w.heap.size <= b) /\ Z'.sf = Z.sf /\ Did Z.F y Z'.F /\ (e = 0 ↔ can Z.F y) /\
      ((¬ okE y /\ K' = K) \/ (okE y /\ K' = K ++ [y])):=by
  refine (sDo_k s.sx s.inv (g.ext s.ext) (by have:=s.cap hK; omega) hB y pa ca pf cf (fun w'' f => hJ.ext (s.sx.keep s.ext hWB f)) hWf hn).mono fun v w' ⟨e,Z',hv,sx,f,gr,h1,h2,h3,hd,hc,hb⟩ => ?_
  have e':=s.sx.keep s.ext hWB f
  rcases hb with ⟨hno,hbs⟩ | ⟨hE,hbs⟩
  · refine ⟨e,Z',K,hv,⟨sx,e',h1.trans s.hL,h2.trans s.hpol,hbs.trans s.bs,s.wh,?_,by rw [h3,hbs]; exact s.sf⟩,f,gr,h3,hd,hc,.inl ⟨hno,rfl⟩⟩
    rcases hd with ⟨_,h⟩ | ⟨h,_⟩
    · rw [h]; exact s.pl
    · exact absurd h.1 hno
  · refine ⟨e,Z',K ++ [y],hv,⟨sx,e',h1.trans s.hL,h2.trans s.hpol,by rw [hbs,s.bs,frs_snoc],fun x hx => ?_,plays_snoc s.pl hd,by rw [h3,hbs,List.length_append]; have:=s.sf; omega⟩,f,gr,h3,hd,hc,.inr ⟨hE,rfl⟩⟩
    rcases List.mem_append.1 hx with hx | hx
    · exact s.wh x hx
    · simp at hx; subst hx; exact whole_ok hE hn
theorem SI.farm_ (s:SI O B W w sb Z L pol K) (g:GB W) (hK:K.length <= 33):FnP Tryz.prog F_safe_Safe_Farm #[.pointer (ptr sb)] w fun v w' => Ext w w' /\ ∃ B2 fb P F,v = .pointer (ptr fb) /\ w.heap.size <= B2 /\ B2 <= w'.heap.size /\ FX B2 w' fb P F /\ F = Z.F:=by
  refine (sFarm_k s.sx (g.ext s.ext) s.bs s.wh (by rw [s.bs]; have:=frs_cap s.wh; omega)).mono fun v w' ⟨e,B2,fb,P,F,hv,h1,h2,x,hp⟩ => ⟨e,B2,fb,P,F,hv,h1,h2,x,?_⟩
  rw [s.hL,s.hpol] at hp
  exact plays_one hp s.pl
end
def planE:Ev:=⟨3,zeroJ,0,0,false⟩
theorem planE_ok:okE planE:=.inr (.inr (.inl ⟨rfl,rfl,rfl,rfl,rfl⟩))
theorem safes_k (w:World) (g:GB w):FnP Tryz.prog F_shiftbellkeep_safes #[] w fun v w' => Ext w w' /\ v = .bool true:=by
  refine ok_shiftbellkeep_safes w _ fun w0 h0 => (bare_k w0).mono fun v w1 ⟨e1,hv⟩ => ⟨e1,none,0,0,1,1,1,0,hv,fun w9 h9 => ?_⟩
  have h09:=(h0.trans e1).trans h9
  refine (sNew_k none 0 [] (by simp) (by simp) barePol w9 (fun i h hi => (by simp at hi))).mono fun v w10 ⟨e10,f,e,hv,hiff,_,hyes⟩ => ⟨e10,f,e,hv,fun hgood w13 h13 => ?_,fun hbad => ?_⟩
  · obtain ⟨sb,Z,rfl,hL,hpol,hF,hbs,hsf,s10⟩:=hyes hgood.1
    have s13:SI (fun b => b < w9.heap.size) w9.heap.size w9 w13 sb Z [] barePol []:=⟨s10.ext h13,e10.trans h13,hL,hpol,hbs,by simp,hF,by rw [hsf,hbs]; simp⟩
    refine (s13.do_ (g.ext h09) (Nat.le_refl _) (Nat.le_trans e10.size h13.size) (by simp) planE none 0 none 0 (zeroJ_at w9) zeroJ_wf (by decide)).mono fun v w14 ⟨e2,Z',K',hv,s14,f14,_,_,_,hc,hor⟩ => ⟨e2,hv,fun hz w16 h16 => ?_,fun hne => ?_⟩
    · have s16:=s14.to h16
      have hK':K' = [planE]:=by
        rcases hor with ⟨h,_⟩ | ⟨_,h⟩
        · exact absurd planE_ok h
        · exact h
      have hl:Z'.bs.length = 11:=by
        rw [s14.bs,hK']
        rfl
      refine (sBytes_k s16.sx (by omega)).mono fun v w17 ⟨e17,q,m,hv,_⟩ => ⟨e17,q,_,m,hv,fun w21 h21 => ⟨(h09.trans s16.ext).trans (e17.trans h21),?_⟩⟩
      rw [hl]; rfl
    · exact absurd (hc.2 ⟨planE_ok,fun h => absurd h (by decide),fun h => absurd h (by decide),fun h => absurd h (by decide),fun h => absurd h (by decide)⟩) hne
  · have hz:=hiff.2 bare_ok
    obtain ⟨sb,Z,rfl,_⟩:=hyes hz
    rcases hbad with h | h
    · exact absurd hz h
    · exact absurd h (ptr_ne sb)
theorem own_law (W:World) (g:GB W) (p:Option Addr) (c:Nat) (L:List Ht) (h63:(L.length:Int) <= 9223372036854775807) (hO:∀ h ∈ L,HtOk h) (hL:HsAt W p L) (pol:Pol) (q:Option Addr) (d:Nat) (E:List EvR) (hE:Recs 15 encR W q E) (hEw:∀ r ∈ E,(WfJ r.x.job /\ IsJ W r.x.job r.pa r.ca r.pf) /\ nod r.x.job.ask <= 1048576)
    (m:Option Addr) (md:Nat) (M:List EvR) (hM:Recs 15 encR W m M) (hMw:∀ r ∈ M,(WfJ r.x.job /\ IsJ W r.x.job r.pa r.ca r.pf) /\ nod r.x.job.ask <= 1048576) (hlE:E.length <= 1048576) (hlM:M.length <= 1048576) :
    FnP Tryz.prog F_shiftbellkeep_SafeOwn #[.agg #[.slice p L.length c,.int .i64 pol.first,.int .i64 pol.times,.int .i64 pol.most,.int .i64 pol.tries],.slice q E.length d,.slice m M.length md] W fun v W' => v = .bool true /\ Ext W W':=by
  refine ok_shiftbellkeep_SafeOwn p L.length c pol.first pol.times pol.most pol.tries q E.length d m M.length md W _ fun b0 hb0 w1 h1 => (safes_k w1 (g.ext h1)).mono fun v w2 ⟨e2,hv⟩ => ⟨e2,true,hv,fun h => (by cases h),fun _ w4 x4 => ?_⟩
  have h4:=extB_ext x4
  have lt4:=x4.lt b0 (by simp)
  refine (sNew_k p c L h63 hO pol w4 (hL.ext h4)).mono fun v w5 ⟨e5,f,e,hv,hiff,hno,hyes⟩ => ⟨e5,f,e,hv,fun _ => i64 (by omega),fun hbad => ⟨fun _ _ => i64 (by omega),fun w8 h8 => ⟨?_,(h4.trans e5).trans h8⟩⟩,fun hgood => ?_⟩
  · congr 1
    by_cases he:e = 0
    · obtain ⟨sb,Z,rfl,_⟩:=hyes he
      rcases hbad with (h | h) | h
      · exact absurd he h
      · exact absurd h (ptr_ne sb)
      · simp [ptr,h]
    · rw [hno he]
      simp [he]
  obtain ⟨sb,Z,rfl,hZL,hZp,hZF,hbs,hsf,s5⟩:=hyes hgood.1.1
  have hlen:=hgood.2
  refine ⟨fun k w' => 0 <= k /\ k <= E.length /\ w5.heap.size <= w'.heap.size /\ ∃ Z K,(K.length:Int) <= k /\ SI (fun b => b < w4.heap.size) w4.heap.size W w' sb Z L pol K,fun k _ => (E.length - k).toNat,⟨by omega,by omega,Nat.le_refl _,Z,[],by simp,⟨s5,h4.trans e5,hZL,hZp,hbs,by simp,hZF,by rw [hsf,hbs]; simp⟩⟩,?_⟩
  rintro k w10 ⟨hk0,hk1,hs10,Z,K,hKl,s10⟩
  refine ⟨fun hlt => ?_,fun hge w11 x11 => ?_⟩
  · obtain ⟨r,hr⟩:∃ r,E[k.toNat]? = some r:=⟨_,List.getElem?_eq_getElem (by omega)⟩
    have gE:∀ (j:Nat) u,(encR r)[j]? = some u -> Go.Sx.cell w10 (pIdx q k 15) j = some u:=fun j u hu => ext_cell s10.ext (hE.at hk0 hr hu)
    have g0:=gE 0 _ rfl
    obtain ⟨⟨hW,hJ⟩,hn⟩:=hEw r (List.mem_of_getElem? hr)
    refine ⟨fun h => cell_p g0 (pIdx_none.2 h),hk0,hlt,cell_p g0,_,gE 0 _ rfl,_,gE 1 _ rfl,_,gE 2 _ rfl,_,gE 3 _ rfl,_,gE 4 _ rfl,_,gE 5 _ rfl,_,gE 6 _ rfl,_,gE 7 _ rfl,_,gE 8 _ rfl,_,gE 9 _ rfl,_,_,_,gE 10 _ rfl,_,_,_,gE 11 _ rfl,_,gE 12 _ rfl,_,gE 13 _ rfl,_,gE 14 _ rfl,fun b30 hb30 w31 x31 => ?_⟩
    have h31:=extB_ext x31
    have s31:=s10.to h31
    have hs31:=h31.size
    refine (s31.do_ g h4.size (by have:=e5.size; omega) (by omega) r.x r.pa r.ca r.pf r.cf hJ hW hn).mono fun v w32 ⟨e2,Z',K',hv,s32,f32,_,_,_,_,hor⟩ => ⟨f32.kept fun b hb => ⟨x31.lt b hb,fun hf => ?_⟩,e2,hv,i64 (by omega),⟨by omega,by omega,by have:=f32.size; omega,Z',K',?_,s32⟩,by simp only []; omega⟩
    · have a1:=(s31.sx.foot hf).1
      have a2:=(s10.sx.foot hf).2
      simp at hb
      rcases hb with rfl | rfl <;> omega
    · rcases hor with ⟨_,rfl⟩ | ⟨_,rfl⟩
      · omega
      · rw [List.length_append]; simp; omega
  have h11:=extB_ext x11
  have s11:=s10.to h11
  refine (s11.farm_ g (by omega)).mono fun v w12 ⟨e12,B1,fb,P1,F1,hv,hB11,hB12,xf,hF1⟩ => ⟨e12,ptr fb,hv,fun w14 x14 => ?_⟩
  have h14:=extB_ext x14
  have s14:=(s11.to e12).to h14
  refine (s14.farm_ g (by omega)).mono fun v w15 ⟨e15,B2,gb,P2,F2,hv,hB21,hB22,xg,hF2⟩ => ⟨e15,ptr gb,hv,fun hbad => ?_,fun _ w17 h17 => ?_⟩
  · rcases hbad with h | h
    · exact absurd h (ptr_ne _)
    · exact absurd h (ptr_ne _)
  subst hF1; subst hF2
  have xf15:=(xf.ext h14).ext e15
  have s15:=s14.to e15
  have I:=s10.inv
  refine (sameFarm_k (xf15.ext h17) (xg.ext h17) I.i0.hs).mono fun v w18 ⟨e18,hv⟩ => ⟨e18,true,hv,fun h => (by cases h),fun _ => ?_⟩
  have hft:∀ b,ft fb P1.jp b -> w11.heap.size <= b /\ b < w12.heap.size:=fun b hb => ⟨Nat.le_trans hB11 (xf.foot hb).1,(xf.foot hb).2⟩
  have hs1114:w12.heap.size <= w14.heap.size:=h14.size
  refine ⟨fun k w' => 0 <= k /\ k <= M.length /\ Fr (ft fb P1.jp) w15 w' /\ ∃ P' F',FX B1 w' fb P' F' /\ grows w15 fb P1.jp P'.jp /\ Inv F',fun k _ => (M.length - k).toNat,⟨by omega,by omega,Fr.refl _ _,P1,_,xf15,fun b hb => .inl hb,I⟩,?_⟩
  rintro k w22 ⟨hk0,hk1,f22,P',F',x22,gr22,I'⟩
  have hW22:Ext W w22:=f22.ext s15.ext fun b hb => by have:=(hft b hb).1; have:=s11.ext.size; omega
  have hs22:=f22.size
  refine ⟨fun hlt => ?_,fun hge w23 x23 => ?_⟩
  · obtain ⟨r,hr⟩:∃ r,M[k.toNat]? = some r:=⟨_,List.getElem?_eq_getElem (by omega)⟩
    have gE:∀ (j:Nat) u,(encR r)[j]? = some u -> Go.Sx.cell w22 (pIdx m k 15) j = some u:=fun j u hu => ext_cell hW22 (hM.at hk0 hr hu)
    have g0:=gE 0 _ rfl
    obtain ⟨⟨hW,hJ⟩,hn⟩:=hMw r (List.mem_of_getElem? hr)
    refine ⟨fun h => cell_p g0 (pIdx_none.2 h),hk0,hlt,cell_p g0,_,gE 0 _ rfl,_,gE 1 _ rfl,_,gE 2 _ rfl,_,gE 3 _ rfl,_,gE 4 _ rfl,_,gE 5 _ rfl,_,gE 6 _ rfl,_,gE 7 _ rfl,_,gE 8 _ rfl,_,gE 9 _ rfl,_,_,_,gE 10 _ rfl,_,_,_,gE 11 _ rfl,_,gE 12 _ rfl,_,gE 13 _ rfl,_,gE 14 _ rfl,fun b42 hb42 w43 x43 => ?_⟩
    have h43:=extB_ext x43
    have hs43:=h43.size
    have hs15:=e15.size
    refine (Do_k (x22.ext h43) I'.i0.pre I'.i0.hs r.x r.pa r.ca r.pf r.cf (hJ.ext (hW22.trans h43)) hW (by omega)).mono fun v w44 ⟨e,P3,F3,hv,_,hd,x44,f44,g44⟩ => ⟨f44.kept fun b hb => ⟨x43.lt b hb,fun hf => ?_⟩,e,hv,i64 (by omega),⟨by omega,by omega,(f22.tr (fr_ext h43)).trans f44 fun b hb => gr22 b hb,P3,F3,x44,fun b hb => ?_,did_inv hd I'⟩,by simp only []; omega⟩
    · have a:=x22.foot hf
      have:=s11.ext.size; have:=hs10; have:=e5.size; have:=h11.size
      simp at hb
      rcases hb with rfl | rfl <;> omega
    · rcases g44 b hb with h | h
      · exact gr22 b h
      · exact .inr (by omega)
  · have h23:=extB_ext x23
    have f1123:Ext w11 w23:=((f22.ext ((e12.trans h14).trans e15) fun b hb => (hft b hb).1)).trans h23
    have s23:=s11.to f1123
    refine (s23.farm_ g (by omega)).mono fun v w24 ⟨e24,B3,hb,P4,F4,hv,_,_,xh,hF4⟩ => ⟨e24,ptr hb,hv,fun w26 h26 => ?_⟩
    subst hF4
    have xg23:=(xg.fr f22 fun b hb => by
      show b < B2
      have:=(hft b hb).2
      omega).ext h23
    exact (sameFarm_k ((xg23.ext e24).ext h26) (xh.ext h26) I.i0.hs).mono fun v w27 ⟨e27,hv⟩ => ⟨e27,true,hv,fun w29 h29 => ⟨rfl,(((hW22.trans h23).trans e24)).trans h29⟩⟩
def BulkE (W:World) (p:Option Addr) (L:List EvR):Prop:=L.length <= 1048576 /\ (Recs 15 encR W p L -> (∀ r ∈ L,IsT W r.x.job.ask r.pa r.ca) -> ∀ r ∈ L,nod r.x.job.ask <= 1048576)
theorem bulkE {H:Type} {enc:TypeId × Value -> H} {w:World} {n:Nat} {p:Option Addr} {c:Nat} {L:List EvR} {d:DataW H} {ps:List MemPlace}
    (h:DataW.trod enc Tryz.prog w 0 (fun _ => true) true n T_sl_Event [.slice p L.length c] = some (d,ps)) (hd:Rows.uptoBulk d <= 1048576):BulkE w p L :=
  ⟨Nat.le_trans (slice_bulk (e:=T_Event) (by kernel_rfl) h) hd,fun hR hT r hr => Nat.le_trans (evs_bulk hR hT h r hr) hd⟩
theorem own_args (W:World) (g:GB W) {p:Option Addr} {l c:Nat} (hl:SlcArg Tryz.prog W T_Host p l c) (x1 x2 x3 x4:Int) {q:Option Addr} {el d:Nat} (hq:SlcArg Tryz.prog W T_Event q el d) {m:Option Addr} {ml md:Nat} (hm:SlcArg Tryz.prog W T_Event m ml md)
    (hb1:∀ L:List EvR,L.length = el -> BulkE W q L) (hb2:∀ L:List EvR,L.length = ml -> BulkE W m L) :
    FnP Tryz.prog F_shiftbellkeep_SafeOwn #[.agg #[.slice p l c,.int .i64 x1,.int .i64 x2,.int .i64 x3,.int .i64 x4],.slice q el d,.slice m ml md] W fun v W' => v = .bool true /\ Ext W W':=by
  obtain ⟨L,rfl,h63,hO,hL⟩:=hosts_arg hl
  obtain ⟨E,rfl,hE,hEw⟩:=evs_arg hq
  obtain ⟨M,rfl,hM,hMw⟩:=evs_arg hm
  obtain ⟨l1,n1⟩:=hb1 E rfl
  obtain ⟨l2,n2⟩:=hb2 M rfl
  exact own_law W g p c L h63 hO hL ⟨x1,x2,x3,x4⟩ q d E hE (fun r hr => ⟨hEw r hr,n1 hE (fun r hr => (hEw r hr).2.1) r hr⟩) m md M hM (fun r hr => ⟨hMw r hr,n2 hM (fun r hr => (hMw r hr).2.1) r hr⟩) l1 l2
end Go.Proofs.YtegephkpdlopaaaGreatDoor
