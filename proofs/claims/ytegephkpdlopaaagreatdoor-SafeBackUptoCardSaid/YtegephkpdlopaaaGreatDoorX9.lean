/- The framework, the program's texts and what is shown of them: part 9. -/
import Derived.Test.YtegephkpdlopaaaGreatDoorX8
set_option linter.unusedVariables false
set_option linter.unusedSimpArgs false
namespace Go.Proofs.YtegephkpdlopaaaGreatDoor
open Go.Sx Go.RowKit
section
variable {O:Nat->Prop} {B sb:Nat} {w:World} {Z:Zt}
theorem len_frs (M:List Ev):M.length <= (frs M).length:=by
  induction M with
  | nil => simp
  | cons x r ih =>
    show _ <= (fr (enc x) ++ frs r).length
    rw [List.length_append,fr_len,List.length_cons]
    omega
theorem okht {L:List Ht} (h:okHs L):∀ x ∈ L,HtOk x:=ht_ok h
theorem sFarm_k (s:SX O B w sb Z) (g:GB w) {K:List Ev} (hbs:Z.bs = frs K) (hK:∀ x ∈ K,Whole x) (hcap:Z.bs.length <= 100000) :
    FnP Tryz.prog F_safe_Safe_Farm #[.pointer (ptr sb)] w fun v w'=>Ext w w'/\∃ B2 fb P F,v = .pointer (ptr fb)/\w.heap.size <= B2/\B2 <= w'.heap.size/\FX B2 w' fb P F/\Plays (newF Z.L Z.pol) K F:=by
  have ne:=ptr_ne sb
  have hl30:=s.new.1.1
  refine ok_safe_Safe_Farm (ptr sb) w _ ⟨ne,ne,_,s.cell (i:=6) rfl,fun w1 h1=>(dBytes_k (s.ext h1).disk hcap).mono fun v w2 ⟨e2,q,m,hv,o2⟩=>⟨e2,q,_,m,hv,fun w6 h6=>?_⟩⟩
  have hw6:=(h1.trans e2).trans h6
  have o6:=o2.ext h6
  refine (Cut_k2 q m Z.bs w6 o6.cells o6.le.1 o6.le.2 (by omega) (g.ext hw6)).mono fun v w7 ⟨e7,rs,pr,cr,n,hv,o7,hrs,_,_,_,huniq⟩=>⟨e7,pr,_,cr,n,hv,ne,ne,(fun h=>ne (pAdd_none.1 h)),?_⟩
  have hrK:rs.map (·.x) = K:=huniq K [] hK stuck_nil (by rw [hbs]; simp)
  have s7:=s.ext (hw6.trans e7)
  have cz:∀ (j:Nat) v,(zcs Z)[j]? = some v->Go.Sx.cell w7 (pAdd (ptr sb) 0) j = some v:=fun j v hv=>by
    rw [pAdd_zero]
    exact s7.slot.cells j v hv
  refine ⟨_,_,_,cz 0 _ rfl,_,cz 1 _ rfl,_,cz 2 _ rfl,_,cz 3 _ rfl,_,cz 4 _ rfl,fun w19 h19=>?_⟩
  have hw19:=(hw6.trans e7).trans h19
  have hrl:rs.length <= 100000:=by
    have h1:rs.length = K.length:=by rw [<- hrK]; simp
    have h2:=len_frs K
    rw [<- hbs] at h2
    omega
  refine (replay_k Z.hp Z.hc Z.L (by omega) (okht s.new.1) Z.pol pr cr rs (by omega) w19 (s.hs w19 (fr_ext hw19)) ((o7.ext h19).recs fun _ _=>rfl) (fun r hr=>⟨(hrs r hr).1.wf,(hrs r hr).2 (fun _=>False) (fun _ h=>h.elim) w19 (fr_ext h19)⟩)).mono fun v w20 ⟨e20,f,e,hv,hiff,hyes⟩=>⟨e20,f,e,hv,fun w23 h23=>?_⟩
  obtain ⟨B2,fb,P,F,rfl,hB1,hB2,x20,hp⟩:=hyes s.new
  rw [hrK] at hp
  exact ⟨(hw19.trans e20).trans h23,B2,fb,P,F,rfl,Nat.le_trans hw19.size hB1,Nat.le_trans hB2 h23.size,x20.ext h23,hp⟩
theorem sCrash_k (s:SX O B w sb Z) (g:GB w) {W:World} (hW:Ext W w) (hWB:W.heap.size <= B) (gW:GB W) {K:List Ev} (hbs:Z.bs = frs K) (hK:∀ x ∈ K,Whole x) (hcap:Z.bs.length <= 100000) (hsf:0 <= Z.sf/\Z.sf <= Z.bs.length) (hB:B <= w.heap.size) (keep:Int) (hk:InR .i64 keep) :
    FnP Tryz.prog F_safe_Safe_Crash #[.pointer (ptr sb),.int .i64 keep] w fun v w'=>∃ e:Int,v = .int .i64 e/\(e = 0 ↔ 0 <= keep/\keep <= Z.bs.length - Z.sf)/\((e ≠ 0/\Ext w w') \/
      (e = 0/\∃ (j:Nat) (Z':Zt),j <= K.length/\((frs (K.take j)).length:Int) <= Z.sf + keep/\(j < K.length->Z.sf + keep < (frs (K.take (j + 1))).length)/\SX O B w' sb Z'/\Fr (SF sb Z) w w'/\(∀ b,SF sb Z' b->SF sb Z b\/w.heap.size <= b)/\Z'.L = Z.L/\Z'.pol = Z.pol/\Z'.bs = frs (K.take j)/\Z'.sf = Z'.bs.length/\Plays (newF Z.L Z.pol) (K.take j) Z'.F)):=by
  have ne:=ptr_ne sb
  have hl30:=s.new.1.1
  have hk':=of64 hk
  refine ok_safe_Safe_Crash (ptr sb) keep w _ ⟨ne,ne,_,s.cell (i:=6) rfl,fun w1 h1=>(dCrash_k (s.ext h1).disk hcap hsf keep hk).mono fun v w2 hr=>?_⟩
  rcases hr with ⟨hbad,hv,e2⟩ | ⟨hk0,hk1,hv,D2,f2⟩
  · exact ⟨1,hv,fun _ w4 h4=>⟨1,rfl,⟨fun h=>(by cases h),fun h=>by omega⟩,.inl ⟨by decide,(h1.trans e2).trans h4⟩⟩,fun h=>by cases h⟩
  refine ⟨0,hv,fun h=>absurd rfl h,fun _=>⟨ne,ne,?_⟩⟩
  have hiff:(0:Int) = 0 ↔ 0 <= keep/\keep <= Z.bs.length - Z.sf:=⟨fun _=>⟨hk0,hk1⟩,fun _=>rfl⟩
  have s1:=s.ext h1
  let k:Nat:=(Z.sf + keep).toNat
  have hkk:((k:Nat):Int) = Z.sf + keep:=by show (((Z.sf + keep).toNat:Nat):Int) = _; omega
  have hkl:k <= (frs K).length:=by rw [<- hbs]; omega
  obtain ⟨j,hj1,hj2,hj3,tl,htl,hcut⟩:=cut_at K hK k hkl
  have s2:SX O B w2 sb { Z with bs:=Z.bs.take k,sf:=Z.sf + keep }:=s1.next (f2.mono fun b hb=>.inl (.inr hb)) (fun b hb=>.inl hb) (s1.slot.fr f2 fun a ha hs=>by cases ha; exact s.ap hs) D2 (s1.farm.fr f2 fun b hb=>.inr (.inr hb)) s.ap rfl rfl rfl
  have f02:Fr (SF sb Z) w w2:=(fr_ext h1).tr (f2.mono fun b hb=>.inl (.inr hb))
  have hW2:Ext W w2:=s.keep hW hWB f02
  have hl2:(Z.bs.take k).length = k:=by rw [List.length_take]; omega
  refine ⟨_,s2.cell (i:=6) rfl,fun w5 h5=>(dBytes_k (s2.ext h5).disk (by show (Z.bs.take k).length <= _; omega)).mono fun v w6 ⟨e6,q,m,hv,o6⟩=>⟨e6,q,_,m,hv,fun w10 h10=>?_⟩⟩
  have o10:=o6.ext h10
  have h210:=(h5.trans e6).trans h10
  refine (Cut_k2 q m (Z.bs.take k) w10 o10.cells o10.le.1 o10.le.2 (by omega) (gW.ext (hW2.trans h210))).mono fun v w11 ⟨e11,rs,pr,cr,n,hv,o11,hrs,hn0,hn1,htk,huniq⟩=>⟨e11,pr,_,cr,n,hv,fun w16 h16=>?_⟩
  have hrK:rs.map (·.x) = K.take j:=huniq (K.take j) tl (fun x hx=>hK x (List.mem_of_mem_take hx)) htl (by rw [hbs]; exact hcut)
  have hn:n.toNat = (frs (K.take j)).length:=by
    have:=congrArg List.length htk
    rw [List.length_take,hrK] at this
    omega
  have h216:=(h210.trans e11).trans h16
  refine (dNew_k w16).mono fun v w17 ⟨e17,db,hv,hdb,hD⟩=>⟨e17,ptr db,hv,ne,ne,?_⟩
  have s17:=s2.ext (h216.trans e17)
  have hB16:B <= w16.heap.size:=by have:=f02.size; have:=h216.size; omega
  have hsb16:sb < w16.heap.size:=(s2.ext h216).foot (.inl (.inl rfl)) |>.2
  refine store_own (off:=6) s17.slot rfl (by simp) (by simp) (by intro u hu; simp at hu; subst hu; rfl) (by simp) fun w19 o19 g19=>⟨ne,ne,ptr db,by rw [cell_pAdd]; exact o19.cells 6 _ rfl,by omega,hn0,by have hm:(Z.bs.take k).length <= m:=o10.le.1; omega,fun w21 h21=>?_⟩
  have f19:Fr (fun b=>b = sb) w17 w19:=fr_grew g19 fun a ha=>by cases ha; rfl
  have D21:=((hD B hB16).fr f19 fun b hb hs=>by
    rcases hb with hb | ⟨a,ha,_⟩
    · have:db = sb:=by rw [<- hb]; exact hs
      omega
    · cases ha).ext h21
  rw [pCut_zero,show (n - 0).toNat = n.toNat by omega]
  have hq21:Ints .u8 w21 q (bI (frs (K.take j))):=by
    have o17:=(((o10.ext e11).ext h16).ext e17)
    have o21:=(o17.fr f19 fun a ha hs=>by
      have h:=(o6.lt a ha).1
      have hs:a.block = sb:=hs
      have:=((s2.ext h5).foot (.inl (.inl rfl))).2
      omega).ext h21
    have:=ints_pre (j:=n.toNat) o21.cells
    rw [htk,hrK] at this
    exact this
  have hlen:((frs (K.take j)).length:Int) <= 100000:=by
    have:(frs (K.take j)).length <= k:=hj2
    omega
  refine (dWrite_k D21 (by simp) (by have:=e17.size; have:=f19.size; have:=h21.size; omega) q n.toNat _ (frs (K.take j)) hn.symm (by omega) hq21).mono fun v w22 hr=>?_
  rcases hr with ⟨hbad,_⟩ | ⟨_,hv,p2,c2,D22,f22,g22⟩
  · simp at hbad; omega
  rw [List.nil_append] at D22
  refine ⟨0,hv,ne,ne,?_⟩
  have hdbsb:db ≠ sb:=by omega
  have sl22:=(o19.ext h21).fr f22 fun a ha hs=>by
    cases ha
    rcases hs with hs | ⟨b,hb,_⟩
    · exact hdbsb hs.symm
    · cases hb
  refine ⟨ptr db,by rw [cell_pAdd]; exact sl22.cells 6 _ rfl,fun w25 h25=>?_⟩
  refine (dSync_k (D22.ext h25)).mono fun v w26 ⟨hv,D26,f26⟩=>⟨hv,ne,ne,(fun h=>ne (pAdd_none.1 h)),?_⟩
  have hp2:∀ b,dft db p2 b->w16.heap.size <= b:=fun b hb=>by
    rcases g22 b hb with h | h
    · rcases h with h | ⟨a,ha,_⟩
      · have h:b = db:=h; omega
      · cases ha
    · have:=e17.size; have:=f19.size; have:=h21.size; omega
  have sl26:=(sl22.ext h25).fr f26 fun a ha hs=>by
    cases ha
    have:=hp2 sb hs
    omega
  have cz:∀ (j:Nat) v,(zcs { Z with db:=db })[j]? = some v->Go.Sx.cell w26 (pAdd (ptr sb) 0) j = some v:=fun j v hv=>by
    rw [pAdd_zero]
    exact sl26.cells j v hv
  refine ⟨_,_,_,cz 0 _ rfl,_,cz 1 _ rfl,_,cz 2 _ rfl,_,cz 3 _ rfl,_,cz 4 _ rfl,fun w34 h34=>?_⟩
  have f1626:Fr (fun b=>b = sb) w16 w26:=by
    refine (((((fr_ext e17).tr f19).tr (fr_ext h21)).trans f22 fun b hb=>?_).tr (fr_ext h25)).trans f26 fun b hb=>.inr (hp2 b hb)
    rcases hb with hb | ⟨a,ha,_⟩
    · have hb:b = db:=hb
      exact .inr (by omega)
    · cases ha
  have f034:Fr (SF sb Z) w w34:=((f02.tr (fr_ext h216)).tr (f1626.mono fun b hb=>.inl (.inl hb))).tr (fr_ext h34)
  have f1134:Fr (fun b=>b = sb) w11 w34:=((fr_ext h16).tr f1626).tr (fr_ext h34)
  have hrl:rs.length <= 100000:=by
    have h1:rs.length = (K.take j).length:=by rw [<- hrK]; simp
    have h2:=len_frs (K.take j)
    omega
  have hsb10:sb < w10.heap.size:=by have:=((s2.ext h210).foot (.inl (.inl rfl))).2; exact this
  have o34:=(o11.fr f1134 fun a ha hs=>by
    have h:=(o11.lt a ha).1
    have hs:a.block = sb:=hs
    omega)
  refine (replay_k Z.hp Z.hc Z.L (by omega) (okht s.new.1) Z.pol pr cr rs (by omega) w34 (s.hs w34 (f034.mono fun b hb=>.inr hb)) (o34.recs fun _ _=>rfl) (fun r hr=>⟨(hrs r hr).1.wf,(hrs r hr).2 (fun b=>b = sb) (fun b hb=>by have hb:b = sb:=hb; omega) w34 f1134⟩)).mono fun v w35 ⟨e35,f,e,hv,hiff',hyes⟩=>⟨e35,f,e,hv,ne,ne,?_⟩
  obtain ⟨B2,fb,P2,F2,rfl,hB1,hB2,x35,hp⟩:=hyes s.new
  rw [hrK] at hp
  have sl35:=((sl26.ext h34).ext e35)
  have D35:=(D26.ext h34).ext e35
  refine store_own (off:=5) sl35 rfl (by simp [setAt]) (by simp) (by intro u hu; simp at hu; subst hu; rfl) (by simp) fun w38 o38 g38 w39 h39=>?_
  have f38:Fr (fun b=>b = sb) w35 w38:=fr_grew g38 fun a ha=>by cases ha; rfl
  have f039:Fr (SF sb Z) w w39:=((f034.tr (fr_ext e35)).tr (f38.mono fun b hb=>.inl (.inl hb))).tr (fr_ext h39)
  have hs34:w.heap.size <= w34.heap.size:=f034.size
  have hs16:w.heap.size <= w16.heap.size:=by have:=f02.size; have:=h216.size; omega
  have hft:∀ b,ft fb P2.jp b->w34.heap.size <= b/\b < w35.heap.size:=fun b hb=>⟨Nat.le_trans hB1 (x35.foot hb).1,(x35.foot hb).2⟩
  let Z':Zt:={ Z with fb:=fb,P:=P2,F:=F2,db:=db,p:=p2,c:=c2,bs:=frs (K.take j),sf:=(frs (K.take j)).length }
  have gS:∀ b,SF sb Z' b->SF sb Z b\/w.heap.size <= b:=fun b hb=>by
    rcases hb with (hb | hb) | hb
    · exact .inl (.inl (.inl hb))
    · exact .inr (by have:=hp2 b hb; omega)
    · exact .inr (by have:=(hft b hb).1; omega)
  have hs2:sb < w34.heap.size:=by have:=h216.size; have:=f1626.size; have:=h34.size; omega
  have x38:FXO (fun b=>O b\/sft sb Z' b) B w38 fb P2 F2:=by
    refine FXO.low (FXO.less (x35.fr f38 fun b hb=>?_) fun b hb=>?_) (by omega)
    · have hb:b = sb:=hb
      show b < B2
      omega
    · show b < B2
      rcases hb with hb | hb | hb
      · have:=s.olt hb; omega
      · have hb:b = sb:=hb
        omega
      · have:=(D26.foot hb).2
        have:=h34.size
        omega
  have D39:DX B w39 db p2 c2 (frs (K.take j)) (frs (K.take j)).length:=(D35.fr f38 fun b hb hs=>by
    have hs:b = sb:=hs
    have:=hp2 b hb
    omega).ext h39
  exact ⟨0,rfl,hiff,.inr ⟨rfl,j,Z',hj1,by omega,fun h=>by have:=hj3 h; omega,s.next f039 gS (o38.ext h39) D39 (x38.ext h39) (fun h=>by have:=hp2 sb h; omega) rfl rfl rfl,f039,gS,rfl,rfl,rfl,rfl,hp⟩⟩
end
end Go.Proofs.YtegephkpdlopaaaGreatDoor
set_option linter.unusedVariables false
set_option linter.unusedSimpArgs false
namespace Go.Proofs.YtegephkpdlopaaaGreatDoor
open Go.Sx Go.RowKit Go.ChangeShapes
structure SI (O:Nat->Prop) (B:Nat) (W w:World) (sb:Nat) (Z:Zt) (L:List Ht) (pol:Pol) (K:List Ev):Prop where
  sx:SX O B w sb Z
  ext:Ext W w
  hL:Z.L = L
  hpol:Z.pol = pol
  bs:Z.bs = frs K
  wh:∀ x ∈ K,Whole x
  pl:Plays (newF L pol) K Z.F
  sf:0 <= Z.sf/\Z.sf <= Z.bs.length
section
variable {O:Nat->Prop} {B sb:Nat} {W w:World} {Z:Zt} {L:List Ht} {pol:Pol} {K:List Ev}
theorem SI.to {w':World} (s:SI O B W w sb Z L pol K) (e:Ext w w'):SI O B W w' sb Z L pol K:=⟨s.sx.ext e,s.ext.trans e,s.hL,s.hpol,s.bs,s.wh,s.pl,s.sf⟩
theorem SI.new (s:SI O B W w sb Z L pol K):okNew L pol:=by have:=s.sx.new; rw [s.hL,s.hpol] at this; exact this
theorem SI.inv (s:SI O B W w sb Z L pol K):Inv Z.F:=plays_inv s.pl (new_inv s.new)
theorem SI.cap (s:SI O B W w sb Z L pol K) (hK:K.length <= 32):Z.bs.length <= 96352:=by rw [s.bs]; have:=frs_cap s.wh; omega
theorem SI.do_ (s:SI O B W w sb Z L pol K) (g:GB W) (hWB:W.heap.size <= B) (hB:B <= w.heap.size) (hK:K.length <= 32) (y:Ev) (pa:Option Addr) (ca:Nat) (pf:Option Addr) (cf:Nat) (hJ:IsJ W y.job pa ca pf) (hWf:WfJ y.job) (hn:nod y.job.ask <= 1048576) :
    FnP Tryz.prog F_safe_Safe_Do #[.pointer (ptr sb),evv y pa ca pf cf] w fun v w'=>∃ (e:Int) (Z':Zt) (K':List Ev),v = .int .i64 e/\SI O B W w' sb Z' L pol K'/\Fr (SF sb Z) w w'/\(∀ b,SF sb Z' b->SF sb Z b\/w.heap.size <= b)/\Z'.sf = Z.sf/\Did Z.F y Z'.F/\(e = 0 ↔ can Z.F y) /\
      ((¬ okE y/\K' = K)\/(okE y/\K' = K ++ [y])):=by
  refine (sDo_k s.sx s.inv (g.ext s.ext) (by have:=s.cap hK; omega) hB y pa ca pf cf (fun w'' f=>hJ.ext (s.sx.keep s.ext hWB f)) hWf hn).mono fun v w' ⟨e,Z',hv,sx,f,gr,h1,h2,h3,hd,hc,hb⟩=>?_
  have e':=s.sx.keep s.ext hWB f
  rcases hb with ⟨hno,hbs⟩ | ⟨hE,hbs⟩
  · refine ⟨e,Z',K,hv,⟨sx,e',h1.trans s.hL,h2.trans s.hpol,hbs.trans s.bs,s.wh,?_,by rw [h3,hbs]; exact s.sf⟩,f,gr,h3,hd,hc,.inl ⟨hno,rfl⟩⟩
    rcases hd with ⟨_,h⟩ | ⟨h,_⟩
    · rw [h]; exact s.pl
    · exact absurd h.1 hno
  · refine ⟨e,Z',K ++ [y],hv,⟨sx,e',h1.trans s.hL,h2.trans s.hpol,by rw [hbs,s.bs,frs_snoc],fun x hx=>?_,plays_snoc s.pl hd,by rw [h3,hbs,List.length_append]; have:=s.sf; omega⟩,f,gr,h3,hd,hc,.inr ⟨hE,rfl⟩⟩
    rcases List.mem_append.1 hx with hx | hx
    · exact s.wh x hx
    · simp at hx; subst hx; exact whole_ok hE hn
theorem SI.farm_ (s:SI O B W w sb Z L pol K) (g:GB W) (hK:K.length <= 33):FnP Tryz.prog F_safe_Safe_Farm #[.pointer (ptr sb)] w fun v w'=>Ext w w'/\∃ B2 fb P F,v = .pointer (ptr fb)/\w.heap.size <= B2/\B2 <= w'.heap.size/\FX B2 w' fb P F/\F = Z.F:=by
  refine (sFarm_k s.sx (g.ext s.ext) s.bs s.wh (by rw [s.bs]; have:=frs_cap s.wh; omega)).mono fun v w' ⟨e,B2,fb,P,F,hv,h1,h2,x,hp⟩=>⟨e,B2,fb,P,F,hv,h1,h2,x,?_⟩
  rw [s.hL,s.hpol] at hp
  exact plays_one hp s.pl
end
def planE:Ev:=⟨3,zeroJ,0,0,false⟩
theorem planE_ok:okE planE:=.inr (.inr (.inl ⟨rfl,rfl,rfl,rfl,rfl⟩))
theorem safes_k (w:World) (g:GB w):FnP Tryz.prog F_shiftbellkeep_safes #[] w fun v w'=>Ext w w'/\v = .bool true:=by
  refine ok_shiftbellkeep_safes w _ fun w0 h0=>(bare_k w0).mono fun v w1 ⟨e1,hv⟩=>⟨e1,none,0,0,1,1,1,0,hv,fun w9 h9=>?_⟩
  have h09:=(h0.trans e1).trans h9
  refine (sNew_k none 0 [] (by simp) (by simp) barePol w9 (fun i h hi=>(by simp at hi))).mono fun v w10 ⟨e10,f,e,hv,hiff,_,hyes⟩=>⟨e10,f,e,hv,fun hgood w13 h13=>?_,fun hbad=>?_⟩
  · obtain ⟨sb,Z,rfl,hL,hpol,hF,hbs,hsf,s10⟩:=hyes hgood.1
    have s13:SI (fun b=>b < w9.heap.size) w9.heap.size w9 w13 sb Z [] barePol []:=⟨s10.ext h13,e10.trans h13,hL,hpol,hbs,by simp,hF,by rw [hsf,hbs]; simp⟩
    refine (s13.do_ (g.ext h09) (Nat.le_refl _) (Nat.le_trans e10.size h13.size) (by simp) planE none 0 none 0 (zeroJ_at w9) zeroJ_wf (by decide)).mono fun v w14 ⟨e2,Z',K',hv,s14,f14,_,_,_,hc,hor⟩=>⟨e2,hv,fun hz w16 h16=>?_,fun hne=>?_⟩
    · have s16:=s14.to h16
      have hK':K' = [planE]:=by
        rcases hor with ⟨h,_⟩ | ⟨_,h⟩
        · exact absurd planE_ok h
        · exact h
      have hl:Z'.bs.length = 11:=by
        rw [s14.bs,hK']
        rfl
      refine (sBytes_k s16.sx (by omega)).mono fun v w17 ⟨e17,q,m,hv,_⟩=>⟨e17,q,_,m,hv,fun w21 h21=>⟨(h09.trans s16.ext).trans (e17.trans h21),?_⟩⟩
      rw [hl]; rfl
    · exact absurd (hc.2 ⟨planE_ok,fun h=>absurd h (by decide),fun h=>absurd h (by decide),fun h=>absurd h (by decide),fun h=>absurd h (by decide)⟩) hne
  · have hz:=hiff.2 bare_ok
    obtain ⟨sb,Z,rfl,_⟩:=hyes hz
    rcases hbad with h | h
    · exact absurd hz h
    · exact absurd h (ptr_ne sb)
def BulkE (W:World) (p:Option Addr) (L:List EvR):Prop:=L.length <= 1048576/\(Recs 15 encR W p L->(∀ r ∈ L,IsT W r.x.job.ask r.pa r.ca)->∀ r ∈ L,nod r.x.job.ask <= 1048576)
theorem bulkE {H:Type} {enc:TypeId × Value->H} {w:World} {n:Nat} {p:Option Addr} {c:Nat} {L:List EvR} {d:DataW H} {ps:List MemPlace}
    (h:DataW.trod enc Tryz.prog w 0 (fun _=>true) true n T_sl_Event [.slice p L.length c] = some (d,ps)) (hd:Rows.uptoBulk d <= 1048576):BulkE w p L :=
  ⟨Nat.le_trans (slice_bulk (e:=T_Event) (by kernel_rfl) h) hd,fun hR hT r hr=>Nat.le_trans (evs_bulk hR hT h r hr) hd⟩
end Go.Proofs.YtegephkpdlopaaaGreatDoor
set_option linter.unusedVariables false
set_option linter.unusedSimpArgs false
namespace Go.Proofs.YtegephkpdlopaaaGreatDoor
open Go.Sx Go.RowKit Go.ChangeShapes
theorem anyA_k:∀ (t u:AT) (p:Option Addr) (c:Nat) (q:Option Addr) (d:Nat) (w:World),IsT w t p c->IsT w u q d->WfA t ->
    FnP Tryz.prog F_shiftbellkeep_sameAsk #[av t p c,av u q d] w fun v w'=>Ext w w'/\∃ b:Bool,v = .bool b:=by
  intro t
  induction t using AT.ind with
  | h k key val n xs ih =>
    intro u p c q d w hp hq hW
    have h63:xs.length <= 9223372036854775807:=hW.len
    refine ok_shiftbellkeep_sameAsk k key val n p xs.length c u.k u.key u.val u.n q u.xs.length d w _ fun b0 _ b1 _=>⟨fun _ w2 h2=>?_,fun h w2 h2=>⟨h2,_,rfl⟩⟩
    refine FnP.mono (K:=fun v w'=>Ext w2 w'/\∃ b:Bool,v = .bool b) ?_ fun v w3 ⟨e3,b,hv⟩=>⟨e3,b,hv,fun w5 h5=>⟨h5,_,rfl⟩⟩
    refine ok_slices_EqualFunc_api_Ask_api_Ask_api_Ask_api_Ask p xs.length c q u.xs.length d _ w2 _ ⟨fun h w0 h0=>⟨h0,_,rfl⟩,fun heq=>?_⟩
    refine ⟨fun k w'=>w' = w2/\0 <= k/\k <= xs.length,fun k _=>(xs.length - k).toNat,⟨rfl,by omega,by omega⟩,?_⟩
    rintro j w2' ⟨rfl,hj0,hj1⟩
    refine ⟨fun hlt=>?_,fun _ w3 h3=>⟨h3,_,rfl⟩⟩
    have hp2:=hp.ext h2 _ _ _
    have hq2:=hq.ext h2 _ _ _
    obtain ⟨x,p',c',hx,hmem,hIx,a1,a2,g0,g1,g2,g3,g4⟩:=hp2.at hj0 (by exact hlt)
    obtain ⟨y,q',d',hy,_,hIy,b1,b2,f0,f1,f2,f3,f4⟩:=hq2.at hj0 (by omega)
    refine ⟨a1,hj0,hlt,a2,_,g0,_,g1,_,g2,_,g3,_,_,_,g4,fun b10 _=>⟨b1,hj0,by omega,b2,_,f0,_,f1,_,f2,_,f3,_,_,_,f4,fun b18 _ w19 h19=>?_⟩⟩
    exact ⟨F_shiftbellkeep_sameAsk,#[],rfl,(ih x hmem y p' c' q' d' w19 (hIx.ext h19 _ _ _) (hIy.ext h19 _ _ _) (hW.sub x hmem)).mono fun v w20 ⟨e20,b,hv⟩=>⟨e20,b,hv,fun _ w22 h22=>⟨h22,_,rfl⟩,fun _=>⟨i64 (by omega),⟨rfl,by omega,by omega⟩,by simp only []; omega⟩⟩⟩
theorem anyI_k (l m:List Int) (p q:Option Addr) (c d:Nat) (w:World) (hp:Ints .i64 w p l) (hq:Ints .i64 w q m) (h63:l.length <= 9223372036854775807):FnP Tryz.prog F_slices_Equal_int_int #[.slice p l.length c,.slice q m.length d] w fun v w'=>Ext w w'/\∃ b:Bool,v = .bool b:=by
  refine ok_slices_Equal_int_int p l.length c q m.length d w _ ⟨fun h w0 h0=>⟨h0,_,rfl⟩,fun heq=>?_⟩
  refine ⟨fun k w'=>w' = w/\0 <= k/\k <= l.length,fun k _=>(l.length - k).toNat,⟨rfl,by omega,by omega⟩,?_⟩
  rintro k w' ⟨rfl,hk0,hk1⟩
  refine ⟨fun hlt=>?_,fun hge w3 h3=>⟨h3,_,rfl⟩⟩
  have g1:=Ints.idx hp hk0 hlt
  have g2:=Ints.idx hq hk0 (by omega)
  exact ⟨fun h=>cell_p g1 (pIdx_none.2 h),hk0,hlt,_,g1,fun h=>cell_p g2 (pIdx_none.2 h),hk0,by omega,_,g2,fun _ w5 h5=>⟨h5,_,rfl⟩,fun _=>⟨i64 (by omega),⟨rfl,by omega,by omega⟩,by simp only []; omega⟩⟩
theorem anyJ_k (j m:Jb) (pa:Option Addr) (ca:Nat) (pf:Option Addr) (cf:Nat) (qa:Option Addr) (da:Nat) (qf:Option Addr) (df:Nat) (w:World) (h1:IsJ w j pa ca pf) (h2:IsJ w m qa da qf) (hW:WfJ j) :
    FnP Tryz.prog F_shiftbellkeep_sameJob #[jv j pa ca pf cf,jv m qa da qf df] w fun v w'=>Ext w w'/\∃ b:Bool,v = .bool b:=by
  refine ok_shiftbellkeep_sameJob j.user j.prio j.nd.c j.nd.m j.nd.g j.ask.k j.ask.key j.ask.val j.ask.n pa j.ask.xs.length ca pf j.aft.length cf m.user m.prio m.nd.c m.nd.m m.nd.g m.ask.k m.ask.key m.ask.val m.ask.n qa m.ask.xs.length da qf m.aft.length df w _ fun b0 _ b1 _=>⟨fun _ w2 e2=>?_,fun h w2 h2=>⟨h2,_,rfl⟩⟩
  refine eqN_k (a:=j.nd) (b:=m.nd) ⟨Ext.refl _,_,rfl,fun _ w5 e5=>?_,fun _ w5 h5=>⟨h5,_,rfl⟩⟩
  refine (anyA_k j.ask m.ask pa ca qa da w5 (h1.1.ext e5) (h2.1.ext e5) hW.ask).mono fun v w6 ⟨e6,b,hv⟩=>⟨e6,b,hv,fun _ w8 e8=>?_,fun _ w8 h8=>⟨h8,_,rfl⟩⟩
  exact (anyI_k j.aft m.aft pf qf cf df w8 (h1.2.ext e8) (h2.2.ext e8) hW.len).mono fun v w9 ⟨e9,b,hv⟩=>⟨e9,b,hv,fun w11 e11=>⟨e11,_,rfl⟩⟩
theorem anyS1_k (r1 r2:StR) (w:World) (hW:WfJ r1.s.job) (h1:IsJ w r1.s.job r1.pa r1.ca r1.pf) (h2:IsJ w r2.s.job r2.pa r2.ca r2.pf):FnP Tryz.prog F_shiftbellkeep_sameStates_1 #[sv r1,sv r2] w fun v w'=>Ext w w'/\∃ b:Bool,v = .bool b:=by
  obtain ⟨s,pa,ca,pf,cf⟩:=r1
  obtain ⟨z,qa,da,qf,df⟩:=r2
  refine ok_shiftbellkeep_sameStates_1 s.job.user s.job.prio s.job.nd.c s.job.nd.m s.job.nd.g s.job.ask.k s.job.ask.key s.job.ask.val s.job.ask.n pa s.job.ask.xs.length ca pf s.job.aft.length cf s.what s.host s.since s.again s.tries z.job.user z.job.prio z.job.nd.c z.job.nd.m z.job.nd.g z.job.ask.k z.job.ask.key z.job.ask.val z.job.ask.n qa z.job.ask.xs.length da qf z.job.aft.length df z.what z.host z.since z.again z.tries w _ fun b0 _ b1 _ w2 h2'=>(anyJ_k s.job z.job pa ca pf cf qa da qf df w2 (h1.ext h2') (h2.ext h2') hW).mono fun v w3 ⟨e3,b,hv⟩=>⟨e3,b,hv,fun w5 h5=>⟨h5,_,rfl⟩⟩
theorem anyS_k (p:Option Addr) (c:Nat) (q:Option Addr) (d:Nat) (R1 R2:List StR) (h63:(R1.length:Int) <= 1000) (w:World) (hp:Recs 16 encS w p R1) (hq:Recs 16 encS w q R2)
    (h1:∀ r ∈ R1,WfJ r.s.job/\IsJ w r.s.job r.pa r.ca r.pf) (h2:∀ r ∈ R2,IsJ w r.s.job r.pa r.ca r.pf):FnP Tryz.prog F_shiftbellkeep_sameStates #[.slice p R1.length c,.slice q R2.length d] w fun v w'=>Ext w w'/\∃ b:Bool,v = .bool b:=by
  refine ok_shiftbellkeep_sameStates p R1.length c q R2.length d w _ fun w0 h0=>?_
  refine FnP.mono (K:=fun v w'=>Ext w0 w'/\∃ b:Bool,v = .bool b) ?_ fun v w1 ⟨e1,b,hv⟩=>⟨e1,b,hv,fun w3 h3=>⟨h3,_,rfl⟩⟩
  refine ok_slices_EqualFunc_api_State_api_State_api_State_api_State p R1.length c q R2.length d _ w0 _ ⟨fun h w1 h1=>⟨h1,_,rfl⟩,fun heq=>⟨fun k w'=>w' = w0/\0 <= k/\k <= R1.length,fun k _=>(R1.length - k).toNat,⟨rfl,by omega,by omega⟩,?_⟩⟩
  rintro k w2 ⟨rfl,hk0,hk1⟩
  refine ⟨fun hlt=>?_,fun hge w3 h3=>⟨h3,_,rfl⟩⟩
  obtain ⟨r1,hr1⟩:∃ r,R1[k.toNat]? = some r:=⟨_,List.getElem?_eq_getElem (by omega)⟩
  obtain ⟨r2,hr2⟩:∃ r,R2[k.toNat]? = some r:=⟨_,List.getElem?_eq_getElem (by omega)⟩
  have g:∀ (m:Nat) u,(encS r1)[m]? = some u->Go.Sx.cell w2 (pIdx p k 16) m = some u:=fun m u hu=>(hp.ext h0).at hk0 hr1 hu
  have g':∀ (m:Nat) u,(encS r2)[m]? = some u->Go.Sx.cell w2 (pIdx q k 16) m = some u:=fun m u hu=>(hq.ext h0).at hk0 hr2 hu
  have g0:=g 0 _ rfl
  have g0':=g' 0 _ rfl
  obtain ⟨hW,hJ1⟩:=h1 r1 (List.mem_of_getElem? hr1)
  have hJ2:=h2 r2 (List.mem_of_getElem? hr2)
  refine ⟨fun h=>cell_p g0 (pIdx_none.2 h),hk0,hlt,cell_p g0,_,g 0 _ rfl,_,g 1 _ rfl,_,g 2 _ rfl,_,g 3 _ rfl,_,g 4 _ rfl,_,g 5 _ rfl,_,g 6 _ rfl,_,g 7 _ rfl,_,g 8 _ rfl,_,_,_,g 9 _ rfl,_,_,_,g 10 _ rfl,_,g 11 _ rfl,_,g 12 _ rfl,_,g 13 _ rfl,_,g 14 _ rfl,_,g 15 _ rfl,fun b23 _=>?_⟩
  refine ⟨fun h=>cell_p g0' (pIdx_none.2 h),hk0,by omega,cell_p g0',_,g' 0 _ rfl,_,g' 1 _ rfl,_,g' 2 _ rfl,_,g' 3 _ rfl,_,g' 4 _ rfl,_,g' 5 _ rfl,_,g' 6 _ rfl,_,g' 7 _ rfl,_,g' 8 _ rfl,_,_,_,g' 9 _ rfl,_,_,_,g' 10 _ rfl,_,g' 11 _ rfl,_,g' 12 _ rfl,_,g' 13 _ rfl,_,g' 14 _ rfl,_,g' 15 _ rfl,fun b44 _ w45 h45=>?_⟩
  exact ⟨F_shiftbellkeep_sameStates_1,#[],rfl,(anyS1_k r1 r2 w45 hW ((hJ1.ext h0).ext h45) ((hJ2.ext h0).ext h45)).mono fun v w46 ⟨e46,b,hv⟩=>⟨e46,b,hv,fun _ w48 h48=>⟨h48,_,rfl⟩,fun _=>⟨i64 (by omega),⟨rfl,by omega,by omega⟩,by simp only []; omega⟩⟩⟩
theorem anyLb_eq (p:Option Addr) (c:Nat) (q:Option Addr) (d:Nat) (l m:List Lb) (h63:l.length <= 9223372036854775807) (w:World) (hp:Lbs w p l) (hq:Lbs w q m) :
    FnP Tryz.prog F_slices_Equal_api_Label_api_Label #[.slice p l.length c,.slice q m.length d] w fun v w'=>Ext w w'/\∃ b:Bool,v = .bool b:=by
  refine ok_slices_Equal_api_Label_api_Label p l.length c q m.length d w _ ⟨fun h w0 h0=>⟨h0,_,rfl⟩,fun heq=>?_⟩
  refine ⟨fun k w'=>w' = w/\0 <= k/\k <= l.length,fun k _=>(l.length - k).toNat,⟨rfl,by omega,by omega⟩,?_⟩
  rintro k w2 ⟨rfl,hk0,hk1⟩
  refine ⟨fun hlt=>?_,fun _ w3 h3=>⟨h3,_,rfl⟩⟩
  have a0:=hp.idx default hk0 hlt (j:=0) rfl
  have a1:=hp.idx default hk0 hlt (j:=1) rfl
  have b0:=hq.idx default hk0 (by omega) (j:=0) rfl
  have b1:=hq.idx default hk0 (by omega) (j:=1) rfl
  refine ⟨fun h=>cell_p a0 (pIdx_none.2 h),hk0,hlt,cell_p a0,_,a0,_,a1,fun h=>cell_p b0 (pIdx_none.2 h),hk0,by omega,cell_p b0,_,b0,_,b1,fun w7 h7=>?_⟩
  refine run_eqF (op:=.neq) (n:=2) (by kernel_rfl) (by kernel_rfl) (by kernel_rfl) (by kernel_rfl) [.string (l.getD k.toNat default).key,.string (l.getD k.toNat default).val] [.string (m.getD k.toNat default).key,.string (m.getD k.toNat default).val] rfl rfl
    [some .string,some .string] (by kernel_rfl) (fun i o ho u v hu hv=>?_) (.inr rfl) fun b hb=>⟨Ext.refl _,b,rfl,fun _ w10 h10=>⟨h10,_,rfl⟩,fun _=>⟨i64 (by omega),⟨rfl,by omega,by omega⟩,by simp only []; omega⟩⟩
  match i with
  | 0 => simp at ho hu hv; subst ho hu hv; exact ⟨⟨_,rfl⟩,_,rfl⟩
  | 1 => simp at ho hu hv; subst ho hu hv; exact ⟨⟨_,rfl⟩,_,rfl⟩
  | i + 2 => simp at ho
theorem anyH_k (p:Option Addr) (c:Nat) (q:Option Addr) (d:Nat) (L M:List Ht) (h63:(L.length:Int) <= 9223372036854775807) (hO:∀ h ∈ L,HtOk h) (w:World) (hp:HsAt w p L) (hq:HsAt w q M) :
    FnP Tryz.prog F_shiftbellkeep_sameHosts #[.slice p L.length c,.slice q M.length d] w fun v w'=>Ext w w'/\∃ b:Bool,v = .bool b:=by
  refine ok_shiftbellkeep_sameHosts p L.length c q M.length d w _ fun w0 h0=>?_
  refine FnP.mono (K:=fun v w'=>Ext w0 w'/\∃ b:Bool,v = .bool b) ?_ fun v w1 ⟨e1,b,hv⟩=>⟨e1,b,hv,fun w3 h3=>⟨h3,_,rfl⟩⟩
  refine ok_slices_EqualFunc_api_Host_api_Host_api_Host_api_Host p L.length c q M.length d _ w0 _ ⟨fun h w1 h1=>⟨h1,_,rfl⟩,fun heq=>?_⟩
  refine ⟨fun k w'=>w' = w0/\0 <= k/\k <= L.length,fun k _=>(L.length - k).toNat,⟨rfl,by omega,by omega⟩,?_⟩
  rintro k w2 ⟨rfl,hk0,hk1⟩
  refine ⟨fun hlt=>?_,fun _ w3 h3=>⟨h3,_,rfl⟩⟩
  obtain ⟨q1,d1,a1,a2,g,l1⟩:=(hp.ext h0).at hk0 hlt
  obtain ⟨q2,d2,b1,b2,g',l2⟩:=(hq.ext h0).at hk0 (by omega)
  have hm:=hO _ (getD_mem L default (i:=k.toNat) (by omega))
  generalize hHd:L.getD k.toNat default = H at g l1 hm
  generalize hGd:M.getD k.toNat default = G at g' l2
  refine ⟨a1,hk0,hlt,a2,_,g 0 _ rfl,_,_,_,g 1 _ rfl,_,g 2 _ rfl,_,g 3 _ rfl,_,g 4 _ rfl,_,g 5 _ rfl,_,g 6 _ rfl,_,g 7 _ rfl,fun b13 _=>?_⟩
  refine ⟨b1,hk0,by omega,b2,_,g' 0 _ rfl,_,_,_,g' 1 _ rfl,_,g' 2 _ rfl,_,g' 3 _ rfl,_,g' 4 _ rfl,_,g' 5 _ rfl,_,g' 6 _ rfl,_,g' 7 _ rfl,fun b24 _ w25 h25=>?_⟩
  refine ⟨F_shiftbellkeep_sameHosts_1,#[],rfl,?_⟩
  refine FnP.mono (K:=fun v w'=>Ext w25 w'/\∃ b:Bool,v = .bool b) (ok_shiftbellkeep_sameHosts_1 H.name q1 H.labels.length d1 H.has.c H.has.m H.has.g H.used.c H.used.m H.used.g G.name q2 G.labels.length d2 G.has.c G.has.m G.has.g G.used.c G.used.m G.used.g w25 _ fun x0 _ x1 _=>⟨fun _ w2' h2'=>?_,fun h w2' h2'=>⟨h2',_,rfl⟩⟩:FnP Tryz.prog F_shiftbellkeep_sameHosts_1 #[hv H q1 d1,hv G q2 d2] w25 _) fun v w26 ⟨e26,b,hv⟩=>⟨e26,b,hv,fun _ w28 h28=>⟨h28,_,rfl⟩,fun _=>⟨i64 (by omega),⟨rfl,by omega,by omega⟩,by simp only []; omega⟩⟩
  refine eqN_k (a:=H.has) (b:=G.has) ⟨Ext.refl _,_,rfl,fun _ w5 h5=>?_,fun _ w5 h5=>⟨h5,_,rfl⟩⟩
  refine eqN_k (a:=H.used) (b:=G.used) ⟨Ext.refl _,_,rfl,fun _ w8 h8=>?_,fun _ w8 h8=>⟨h8,_,rfl⟩⟩
  exact (anyLb_eq q1 d1 q2 d2 H.labels G.labels hm.2.1 w8 (l1.ext (h25.trans h8)) (l2.ext (h25.trans h8))).mono fun v w9 ⟨e9,b,hv⟩=>⟨e9,b,hv,fun w11 h11=>⟨h11,_,rfl⟩⟩
theorem cmpFarm_k {O1 O2:Nat->Prop} {B1 B2 fb gb:Nat} {w:World} {P1 P2:Pl} {F G:Fm} (x:FXO O1 B1 w fb P1 F) (y:FXO O2 B2 w gb P2 G) (hh:okHs F.hosts) (hg:okHs G.hosts):FnP Tryz.prog F_shiftbellkeep_sameFarm #[.pointer (ptr fb),.pointer (ptr gb)] w fun v w'=>Ext w w'/\∃ b:Bool,v = .bool b/\(F = G->b = true):=by
  by_cases hFG:F = G
  · subst hFG
    exact (sameFarm_k x y hh).mono fun v w' ⟨e,hv⟩=>⟨e,true,hv,fun _=>rfl⟩
  have hl0:=x.jO.1
  have hl30:=hh.1
  refine ok_shiftbellkeep_sameFarm (ptr fb) (ptr gb) w _ fun w0 h0=>(now_k (x.ext h0)).mono fun v w1 ⟨e1,hv⟩=>⟨e1,_,hv,fun w3 h3=>(now_k (y.ext h3)).mono fun v w4 ⟨e4,hv⟩=>⟨e4,_,hv,fun _ w6 h6=>?_,fun h w6 h6=>⟨h6,_,rfl,fun h=>absurd h hFG⟩⟩⟩
  refine (Jobs_k (x.ext h6)).mono fun v w7 ⟨e7,p1,c1,R1,hv,hR1,J1⟩=>⟨e7,p1,_,c1,hv,fun w11 h11=>?_⟩
  have hw11:=(h6.trans e7).trans h11
  refine (Jobs_k (y.ext hw11)).mono fun v w12 ⟨e12,p2,c2,R2,hv,hR2,J2⟩=>⟨e12,p2,_,c2,hv,fun w16 h16=>?_⟩
  have J1':=((J1.ext h11).ext e12).ext h16
  have J2':=J2.ext h16
  have hw12:=hw11.trans e12
  have hR1l:=row_len hR1
  refine (anyS_k p1 c1 p2 c2 R1 R2 (by omega) w16 (J1'.own.recs fun _ _=>rfl) (J2'.own.recs fun _ _=>rfl) (fun r hr=>⟨(row_wf x hR1 r hr).2,(J1'.far r hr).at⟩) (fun r hr=>(J2'.far r hr).at)).mono fun v w17 ⟨e17,b,hv⟩=>⟨e17,b,hv,fun _ w19 h19=>?_,fun _ w19 h19=>⟨hw12.trans h19,_,rfl,fun h=>absurd h hFG⟩⟩
  have hw19:=hw12.trans h19
  refine (Hosts_k (x.ext hw19) hh).mono fun v w20 ⟨e20,q1,d1,hv,_,S1⟩=>⟨e20,q1,_,d1,hv,fun w24 h24=>?_⟩
  have hw24:=(hw19.trans e20).trans h24
  refine (Hosts_k (y.ext hw24) hg).mono fun v w25 ⟨e25,q2,d2,hv,_,S2⟩=>⟨e25,q2,_,d2,hv,fun w29 h29=>?_⟩
  have hw25:=hw24.trans e25
  exact (anyH_k q1 d1 q2 d2 F.hosts G.hosts (by omega) (ht_ok hh) w29 (((S1.ext h24).ext e25).ext h29).at (S2.ext h29).at).mono fun v w30 ⟨e30,b,hv⟩=>⟨e30,b,hv,fun w32 h32=>⟨hw25.trans h32,_,rfl,fun h=>absurd h hFG⟩⟩
theorem SX.go {O O' S:Nat->Prop} {B sb:Nat} {w w9:World} {Z:Zt} (s:SX O B w sb Z) (f:Fr S w w9) (hS:∀ b,S b->O b) (h:∀ b,O' b->O b\/(w.heap.size <= b/\b < w9.heap.size)):SX O' B w9 sb Z:=by
  have s9:=s.fr f hS
  refine ⟨s9.slot,s9.disk,s.farm.go f (fun b hb=>.inl (hS b hb)) fun b hb=>?_,fun w'' k=>?_,s.ap,s.new,fun b hb hs=>?_⟩
  · rcases hb with hb | hb
    · exact (h b hb).imp .inl fun h=>h
    · exact .inl (.inr hb)
  · refine s.hs w'' ((f.mono fun b hb=>.inl (hS b hb)).trans k fun b hb=>?_)
    rcases hb with hb | hb
    · exact (h b hb).imp .inl fun h=>h.1
    · exact .inl (.inr hb)
  · rcases h b hb with h | h
    · exact s.odis b h hs
    · have:=(s.foot (.inl hs)).2; omega
theorem SI.go {O O' S:Nat->Prop} {B sb:Nat} {W w w9:World} {Z:Zt} {L:List Ht} {pol:Pol} {K:List Ev} (s:SI O B W w sb Z L pol K) (f:Fr S w w9) (hS:∀ b,S b->O b) (h:∀ b,O' b->O b\/(w.heap.size <= b/\b < w9.heap.size)) (e:Ext W w9):SI O' B W w9 sb Z L pol K :=
  ⟨s.sx.go f hS h,e,s.hL,s.hpol,s.bs,s.wh,s.pl,s.sf⟩
theorem frs_pos {x:Ev}:0 < (fr (enc x)).length:=by rw [fr_len]; omega
end Go.Proofs.YtegephkpdlopaaaGreatDoor
set_option linter.unusedVariables false
set_option linter.unusedSimpArgs false
namespace Go.Proofs.YtegephkpdlopaaaGreatDoor
open Go.Sx Go.RowKit Go.ChangeShapes
theorem frs_mono (K:List Ev) {a b:Nat} (h:a <= b):(frs (K.take a)).length <= (frs (K.take b)).length:=by
  have:K.take a = (K.take b).take a:=by rw [List.take_take,Nat.min_eq_left h]
  rw [this]
  exact frs_le _
theorem SI.sync_ {O:Nat->Prop} {B sb:Nat} {W w:World} {Z:Zt} {L:List Ht} {pol:Pol} {K:List Ev} (s:SI O B W w sb Z L pol K) (hWB:W.heap.size <= B):FnP Tryz.prog F_safe_Safe_Sync #[.pointer (ptr sb)] w fun v w'=>v = .tuple #[]/\SI O B W w' sb { Z with sf:=Z.bs.length } L pol K/\Fr (SF sb Z) w w' :=
  (sSync_k s.sx).mono fun v w' ⟨hv,sx,f⟩=>⟨hv,⟨sx,s.sx.keep s.ext hWB f,s.hL,s.hpol,s.bs,s.wh,s.pl,by show (0:Int) <= _/\_; simp⟩,f⟩
abbrev kO (n:Nat) (kept:Option Addr) (b:Nat):Prop:=b < n\/∃ a,kept = some a/\a.block = b
theorem back_law (W:World) (g:GB W) (p:Option Addr) (c:Nat) (L:List Ht) (h63:(L.length:Int) <= 9223372036854775807) (hO:∀ h ∈ L,HtOk h) (hL:HsAt W p L) (pol:Pol) (q:Option Addr) (d:Nat) (E:List EvR) (hE:Recs 15 encR W q E) (hEw:∀ r ∈ E,(WfJ r.x.job/\IsJ W r.x.job r.pa r.ca r.pf)/\nod r.x.job.ask <= 1048576)
    (hlE:E.length <= 1048576) (synced keep:Int) (hkp:InR .i64 keep) :
    FnP Tryz.prog F_shiftbellkeep_SafeBack #[.agg #[.slice p L.length c,.int .i64 pol.first,.int .i64 pol.times,.int .i64 pol.most,.int .i64 pol.tries],.slice q E.length d,.int .i64 synced,.int .i64 keep] W fun v W'=>v = .bool true/\Ext W W':=by
  refine ok_shiftbellkeep_SafeBack p L.length c pol.first pol.times pol.most pol.tries q E.length d synced keep W _ fun b0 hb0 w1 h1=>(safes_k w1 (g.ext h1)).mono fun v w2 ⟨e2,hv⟩=>⟨e2,true,hv,fun h=>(by cases h),fun _ w4 x4=>?_⟩
  have h4:=extB_ext x4
  have lt4:=x4.lt b0 (by simp)
  refine (sNew_k p c L h63 hO pol w4 (hL.ext h4)).mono fun v w5 ⟨e5,f,e,hv,hiff,hno,hyes⟩=>⟨e5,f,e,hv,fun hbad w8 h8=>⟨?_,(h4.trans e5).trans h8⟩,fun hgood=>?_⟩
  · congr 1
    by_cases he:e = 0
    · obtain ⟨sb,Z,rfl,_⟩:=hyes he
      rcases hbad with (h | h) | h
      · exact absurd he h
      · exact absurd h (ptr_ne sb)
      · simp [ptr,h]
    · rw [hno he]
      simp [he]
  obtain ⟨sb,Z,rfl,hZL,hZp,hZF,hbs,hsf,s5⟩:=hyes hgood.1.1
  have hlen:=hgood.2
  have s5':SI (kO w4.heap.size none) w4.heap.size W w5 sb Z L pol []:=⟨s5.go (Fr.refl (fun _=>False) _) (fun _ h=>h.elim) (fun b hb=>by
    rcases hb with hb | ⟨a,ha,_⟩
    · exact .inl hb
    · cases ha),h4.trans e5,hZL,hZp,hbs,by simp,hZF,by rw [hsf,hbs]; simp⟩
  refine ⟨fun kept keptl keptc first k w'=>0 <= k/\k <= E.length/\w5.heap.size <= w'.heap.size/\∃ (Z:Zt) (KR:List EvR) (j0:Nat),(KR.length:Int) <= k/\keptl = KR.length/\first = j0/\j0 <= KR.length/\(∀ r ∈ KR,r ∈ E)/\Z.sf = (frs ((KR.map (·.x)).take j0)).length /\
      Own w4.heap.size w' T_Event 15 kept KR.length keptc (KR.flatMap encR)/\SI (kO w4.heap.size kept) w4.heap.size W w' sb Z L pol (KR.map (·.x)),
    fun _ _ _ _ k _=>(E.length - k).toNat,⟨by omega,by omega,Nat.le_refl _,Z,[],0,by simp,rfl,rfl,by simp,by simp,by rw [hsf]; simp [frs],Own.nil,s5'⟩,?_⟩
  rintro kept keptl keptc first k w12 ⟨hk0,hk1,hs12,Z,KR,j0,hKl,rfl,rfl,hj0,hKE,hsf,o12,s12⟩
  have hKm:(KR.map (·.x)).length = KR.length:=by simp
  refine ⟨fun hlt=>?_,fun hge w13 x13=>?_⟩
  · obtain ⟨r,hr⟩:∃ r,E[k.toNat]? = some r:=⟨_,List.getElem?_eq_getElem (by omega)⟩
    have gE:∀ (j:Nat) u,(encR r)[j]? = some u->Go.Sx.cell w12 (pIdx q k 15) j = some u:=fun j u hu=>ext_cell s12.ext (hE.at hk0 hr hu)
    have g0:=gE 0 _ rfl
    have hrE:=List.mem_of_getElem? hr
    obtain ⟨⟨hW,hJ⟩,hn⟩:=hEw r hrE
    refine ⟨fun h=>cell_p g0 (pIdx_none.2 h),hk0,hlt,cell_p g0,_,gE 0 _ rfl,_,gE 1 _ rfl,_,gE 2 _ rfl,_,gE 3 _ rfl,_,gE 4 _ rfl,_,gE 5 _ rfl,_,gE 6 _ rfl,_,gE 7 _ rfl,_,gE 8 _ rfl,_,gE 9 _ rfl,_,_,_,gE 10 _ rfl,_,_,_,gE 11 _ rfl,_,gE 12 _ rfl,_,gE 13 _ rfl,_,gE 14 _ rfl,fun b32 hb32 w33 x33=>?_⟩
    have h33:=extB_ext x33
    have s33:=s12.to h33
    have hcap:=s33.cap (by omega)
    have hs33:=h33.size
    have hb0n:∀ b ∈ [b0,b32],b < w4.heap.size\/w12.heap.size <= b:=fun b hb=>by
      simp at hb
      rcases hb with rfl | rfl
      · exact .inl lt4
      · exact .inr hb32
    have lt33:∀ b ∈ [b0,b32],b < w33.heap.size:=x33.lt
    have kp:∀ {w9 w10:World},w33.heap.size <= w9.heap.size->Fr (SF sb Z) w9 w10->Kept [b0,b32] w9 w10:=fun hlt f=>f.kept fun b hb=>⟨by have:=lt33 b hb; omega,fun hf=>by
      have a1:=(s12.sx.foot hf)
      rcases hb0n b hb with h | h <;> omega⟩
    refine (sBytes_k s33.sx (by omega)).mono fun v w34 ⟨e34,qa,ma,hv,_⟩=>⟨e34,qa,_,ma,hv,fun w38 x38=>?_⟩
    have h38:=extB_ext x38
    have s38:=(s33.to e34).to h38
    have hs38:w33.heap.size <= w38.heap.size:=Nat.le_trans e34.size h38.size
    refine (s38.do_ g h4.size (by have:=e5.size; omega) (by omega) r.x r.pa r.ca r.pf r.cf hJ hW hn).mono fun v w39 ⟨e9,Z',K',hv,s39,f39,gr39,hsf',_,_,hor⟩=>⟨kp hs38 f39,e9,hv,fun w41 x41=>?_⟩
    have h41:=extB_ext x41
    have s41:=s39.to h41
    have hs41:w33.heap.size <= w41.heap.size:=Nat.le_trans hs38 (Nat.le_trans f39.size h41.size)
    have hbs':Z'.bs = frs K':=s39.bs
    have hK'l:K'.length <= 33:=by
      rcases hor with ⟨_,rfl⟩ | ⟨_,rfl⟩
      · omega
      · rw [List.length_append]; simp; omega
    have hcap':Z'.bs.length <= 100000:=by rw [hbs']; have:=frs_cap s39.wh; omega
    have o39:=((((o12.ext h33).ext e34).ext h38).fr f39 fun a ha hs=>s12.sx.oft (.inr ⟨a,ha,rfl⟩) hs).ext h41
    have kp':∀ {w9 w10:World},w41.heap.size <= w9.heap.size->Fr (SF sb Z') w9 w10->Kept [b0,b32] w9 w10:=fun hlt f=>f.kept fun b hb=>⟨by have:=lt33 b hb; omega,fun hf=>by
      rcases gr39 b hf with h | h
      · have a1:=(s12.sx.foot h)
        rcases hb0n b hb with h | h <;> omega
      · have:=lt33 b hb
        omega⟩
    refine (sBytes_k s41.sx hcap').mono fun v w42 ⟨e42,qb,mb,hv,_⟩=>⟨e42,qb,_,mb,hv,fun hgrew w46 x46=>?_,fun hsame=>?_⟩
    · have hK':okE r.x/\K' = KR.map (·.x) ++ [r.x]:=by
        rcases hor with ⟨_,rfl⟩ | h
        · rw [hbs',s12.bs] at hgrew; omega
        · exact h
      have o42:=o39.ext e42
      have s42:=s41.to e42
      have hns:∀ b ∈ [b0,b32],∀ y,kept = some y->y.block ≠ b:=fun b hb y hy=>by
        have l1:=o12.lt y hy
        rcases hb0n b hb with h | h <;> omega
      have hs42:w33.heap.size <= w42.heap.size:=Nat.le_trans hs41 e42.size
      refine push_B (v:=evv r.x r.pa r.ca r.pf r.cf) elem_sl_Event (by omega) o42 (by have:=e5.size; omega) hns rfl (by intro u hu; simp [Value.cells] at hu; rcases hu with rfl | rfl | rfl | rfl | rfl | rfl | rfl | rfl | rfl | rfl | rfl | rfl | rfl | rfl | rfl <;> rfl) (by omega) (by omega) (by omega) (fun kept' keptc' w52 o52 g52 _ hns'=>?_) w46 x46
      have f52:Fr (fun b=>∃ a,kept = some a/\a.block = b) w42 w52:=fr_grew g52 fun a ha=>⟨a,ha,rfl⟩
      have hnew:∀ a,kept' = some a->(∃ o,kept = some o/\o.block = a.block)\/(w42.heap.size <= a.block/\a.block < w52.heap.size):=fun a ha=>by
        rcases g52.new with hn | hn
        · left
          rw [ha] at hn
          cases ho:kept with
          | none => rw [ho] at hn; simp [blk] at hn
          | some y => rw [ho] at hn; simp [blk] at hn; exact ⟨y,rfl,by omega⟩
        · exact .inr ⟨hn a ha,(o52.lt a ha).2⟩
      have hW52:Ext W w52:=f52.ext s42.ext fun b hb=>by
        obtain ⟨a,ha,rfl⟩:=hb
        have:=(o12.lt a ha).1
        have:=h4.size
        omega
      have s52:SI (kO w4.heap.size kept') w4.heap.size W w52 sb Z' L pol ((KR ++ [r]).map (·.x)):=by
        have:=s42.go (O':=kO w4.heap.size kept') f52 (fun b hb=>.inr hb) (fun b hb=>by
          rcases hb with hb | ⟨a,ha,rfl⟩
          · exact .inl (.inl hb)
          · rcases hnew a ha with h | h
            · exact .inl (.inr h)
            · exact .inr h) hW52
        rw [hK'.2] at this
        rw [List.map_append]
        exact this
      have o52':Own w4.heap.size w52 T_Event 15 kept' (KR ++ [r]).length keptc' ((KR ++ [r]).flatMap encR):=by
        rw [List.length_append,List.flatMap_append]
        simpa [Value.cells] using o52
      have hmem:∀ z ∈ KR ++ [r],z ∈ E:=fun z hz=>by
        rcases List.mem_append.1 hz with hz | hz
        · exact hKE z hz
        · simp at hz; subst hz; exact hrE
      have hs52:w42.heap.size <= w52.heap.size:=f52.size
      refine ⟨fun hsy w56 x56=>?_,fun hsy=>⟨i64 (by omega),⟨by omega,by omega,by omega,Z',KR ++ [r],j0,by rw [List.length_append]; simp; omega,by rw [List.length_append]; rfl,rfl,by rw [List.length_append]; omega,hmem,?_,o52',s52⟩,by simp only []; omega⟩⟩
      · have h56:=extB_ext x56
        have s56:=s52.to h56
        refine (s56.sync_ h4.size).mono fun v w57 ⟨hv,s57,f57⟩=>⟨kp' (by have:=h56.size; have:=e42.size; omega) f57,hv,i64 (by omega),⟨by omega,by omega,by have:=f57.size; have:=h56.size; omega,_,KR ++ [r],(KR ++ [r]).length,by rw [List.length_append]; simp; omega,by rw [List.length_append]; rfl,by rw [List.length_append]; rfl,Nat.le_refl _,hmem,?_,(o52'.ext h56).fr f57 fun a ha hs=>s56.sx.oft (.inr ⟨a,ha,rfl⟩) hs,s57⟩,by simp only []; omega⟩
        show ((Z'.bs.length:Nat):Int) = _
        rw [List.take_of_length_le (by simp),s52.bs]
      · rw [hsf',hsf,List.map_append,List.take_append_of_le_length (by rw [hKm]; exact hj0)]
    · have hK':¬ okE r.x/\K' = KR.map (·.x):=by
        rcases hor with h | ⟨_,rfl⟩
        · exact h
        · rw [hbs',s12.bs,frs_snoc,List.length_append] at hsame
          have:=frs_pos (x:=r.x)
          omega
      have o42:=o39.ext e42
      have s42:=s41.to e42
      rw [hK'.2] at s42
      have hs42:w33.heap.size <= w42.heap.size:=Nat.le_trans hs41 e42.size
      refine ⟨fun hsy w46 x46=>?_,fun hsy=>⟨i64 (by omega),⟨by omega,by omega,by omega,Z',KR,j0,by omega,rfl,rfl,hj0,hKE,by rw [hsf',hsf],o42,s42⟩,by simp only []; omega⟩⟩
      have h46:=extB_ext x46
      have s46:=s42.to h46
      refine (s46.sync_ h4.size).mono fun v w47 ⟨hv,s47,f47⟩=>⟨kp' (by have:=h46.size; have:=e42.size; omega) f47,hv,i64 (by omega),⟨by omega,by omega,by have:=f47.size; have:=h46.size; omega,_,KR,KR.length,by omega,rfl,rfl,Nat.le_refl _,hKE,?_,(o42.ext h46).fr f47 fun a ha hs=>s46.sx.oft (.inr ⟨a,ha,rfl⟩) hs,s47⟩,by simp only []; omega⟩
      show ((Z'.bs.length:Nat):Int) = _
      rw [List.take_of_length_le (by simp),s42.bs]
  · have h13:=extB_ext x13
    have s13:=s12.to h13
    have hKle:KR.length <= 24:=by omega
    have hKE':∀ r ∈ KR,(WfJ r.x.job/\IsJ W r.x.job r.pa r.ca r.pf)/\nod r.x.job.ask <= 1048576:=fun r hr=>hEw r (hKE r hr)
    refine (s13.farm_ g (by omega)).mono fun v w14 ⟨e14,B1,fb,P1,F1,hv,hB11,hB12,xf,hF1⟩=>⟨e14,ptr fb,hv,fun w16 x16=>?_⟩
    have h16:=extB_ext x16
    have s16:=(s13.to e14).to h16
    have hcap:=s16.cap (by omega)
    have kp:∀ {w9 w10:World},w16.heap.size <= w9.heap.size->Fr (SF sb Z) w9 w10->Kept [b0] w9 w10:=fun hlt f=>f.kept fun b hb=>by
      simp at hb; subst hb
      refine ⟨by have:=x16.lt b (by simp); omega,fun hf=>?_⟩
      have:=(s12.sx.foot hf).1
      omega
    refine (sCrash_k s16.sx (g.ext s16.ext) s16.ext h4.size g s16.bs s16.wh (by omega) s16.sf (by have:=s16.ext.size; have:=e5.size; have:=h13.size; have:=e14.size; have:=h16.size; omega) keep hkp).mono fun v w17 ⟨e,hv,hiff',hcase⟩=>?_
    rcases hcase with ⟨hne,e17⟩ | ⟨hz,j,Z',hj1,hj2,hj3,s17,f17,gr17,hL',hp',hbs',hsf',hpl'⟩
    · refine ⟨kp (Nat.le_refl _) (fr_ext e17),e,hv,fun _ w19 x19=>?_,fun h=>absurd h hne⟩
      have h19:=extB_ext x19
      have s19:=(s16.to e17).to h19
      refine (s19.farm_ g (by omega)).mono fun v w20 ⟨e20,B2,gb,P2,F2,hv,_,_,xg,hF2⟩=>⟨e20,ptr gb,hv,fun w22 h22=>?_⟩
      subst hF1; subst hF2
      exact (sameFarm_k (((((xf.ext h16).ext e17).ext h19).ext e20).ext h22) (xg.ext h22) s12.inv.i0.hs).mono fun v w23 ⟨e23,hv⟩=>⟨e23,true,hv,fun w25 h25=>⟨rfl,(s19.ext.trans e20).trans h25⟩⟩
    · refine ⟨kp (Nat.le_refl _) f17,e,hv,fun h=>absurd hz h,fun _ w19 x19=>?_⟩
      have h19:=extB_ext x19
      have hW17:Ext W w17:=s16.sx.keep s16.ext h4.size f17
      have hpl'':Plays (newF L pol) ((KR.map (·.x)).take j) Z'.F:=by rw [<- s16.hL,<- s16.hpol]; exact hpl'
      have s17i:SI (kO w4.heap.size kept) w4.heap.size W w17 sb Z' L pol ((KR.map (·.x)).take j):=⟨s17,hW17,hL'.trans s16.hL,hp'.trans s16.hpol,hbs',fun x hx=>s16.wh x (List.mem_of_mem_take hx),hpl'',by rw [hsf']; omega⟩
      have s19:=s17i.to h19
      have hkeep:0 <= keep:=(hiff'.1 hz).1
      have hj0j:j0 <= j:=by
        rcases Nat.lt_or_ge j j0 with h | h
        · have h3:=hj3 (by omega)
          have:=frs_mono (KR.map (·.x)) (show j + 1 <= j0 by omega)
          rw [hsf] at h3
          omega
        · exact h
      refine (s19.farm_ g (by rw [List.length_take]; omega)).mono fun v w20 ⟨e20,B2,gb,P2,F2,hv,_,_,xg,hF2⟩=>⟨e20,ptr gb,hv,?_⟩
      have hW20:=s19.ext.trans e20
      have o20:=(((((o12.ext h13).ext e14).ext h16).fr f17 fun a ha hs=>s16.sx.oft (.inr ⟨a,ha,rfl⟩) hs).ext h19).ext e20
      have I2:=s17i.inv
      refine ⟨fun n w'=>(j0:Int) <= n/\n <= j/\Ext w20 w',fun n _=>(j + 1 - n).toNat,⟨Int.le_refl _,by omega,Ext.refl _⟩,?_⟩
      rintro n w24 ⟨hn0,hn1,h24⟩
      refine ⟨fun hle=>⟨by omega,by omega,by have:=o12.le.1; omega,fun w25 x25=>?_⟩,fun hgt=>by omega⟩
      have h25:=extB_ext x25
      have hW25:=(hW20.trans h24).trans h25
      rw [pCut_zero,show (n - 0).toNat = (KR.take n.toNat).length by rw [List.length_take]; omega]
      refine (replay_k p c L h63 hO pol kept _ (KR.take n.toNat) (by rw [List.length_take]; omega) w25 (hL.ext hW25) (fun i x hx jj u hu=>?_) (fun r hr=>?_)).mono fun v w26 ⟨e26,f,e6,hv,hiff6,hyes6⟩=>⟨e26,f,e6,hv,fun _ w29 h29=>?_,fun hbad=>?_⟩
      · rw [List.getElem?_take] at hx
        split at hx
        · exact (((o20.ext h24).ext h25).recs fun _ _=>rfl) i x hx jj u hu
        · cases hx
      · have:=hKE' r (List.mem_of_mem_take hr)
        exact ⟨this.1.1,this.1.2.ext hW25⟩
      · obtain ⟨B6,hb,P6,F6,rfl,_,_,x6,hp6⟩:=hyes6 s12.new
        have I6:=plays_inv hp6 (new_inv s12.new)
        subst hF2
        refine (cmpFarm_k (x6.ext h29) ((((xg.ext h24).ext h25).ext e26).ext h29) I6.i0.hs I2.i0.hs).mono fun v w30 ⟨e30,b,hv,hb⟩=>⟨e30,b,hv,fun _ w32 h32=>⟨rfl,(hW25.trans e26).trans h32⟩,fun hf=>?_⟩
        have hnj:n ≠ j:=fun h=>by
          have:F6 = Z'.F:=by
            rw [List.map_take,h] at hp6
            exact plays_one hp6 hpl''
          have:=hb this
          rw [hf] at this; cases this
        exact ⟨i64 (by omega),⟨by omega,by omega,(h24.trans h25).trans e26⟩,by simp only []; omega⟩
      · exfalso
        obtain ⟨B6,hb,P6,F6,rfl,_⟩:=hyes6 s12.new
        rcases hbad with h | h
        · exact h (hiff6.2 s12.new)
        · exact ptr_ne hb h
theorem back_args (W:World) (g:GB W) {p:Option Addr} {l c:Nat} (hl:SlcArg Tryz.prog W T_Host p l c) (x1 x2 x3 x4:Int) {q:Option Addr} {el d:Nat} (hq:SlcArg Tryz.prog W T_Event q el d) (synced:Int) (keep:Int) (hk:InR .i64 keep) (hb1:∀ L:List EvR,L.length = el->BulkE W q L) :
    FnP Tryz.prog F_shiftbellkeep_SafeBack #[.agg #[.slice p l c,.int .i64 x1,.int .i64 x2,.int .i64 x3,.int .i64 x4],.slice q el d,.int .i64 synced,.int .i64 keep] W fun v W'=>v = .bool true/\Ext W W':=by
  obtain ⟨L,rfl,h63,hO,hL⟩:=hosts_arg hl
  obtain ⟨E,rfl,hE,hEw⟩:=evs_arg hq
  obtain ⟨l1,n1⟩:=hb1 E rfl
  exact back_law W g p c L h63 hO hL ⟨x1,x2,x3,x4⟩ q d E hE (fun r hr=>⟨hEw r hr,n1 hE (fun r hr=>(hEw r hr).2.1) r hr⟩) l1 synced keep hk
end Go.Proofs.YtegephkpdlopaaaGreatDoor
